/-
  The engine, part B: the abstract state of a running function (slots and chunks), and what it says of the model's state.
-/
import Derived.Test.YtjdeikkojjdjdaaDoorEngA
namespace Go.Proofs.YtjdeikkojjdjdaaDoor
set_option linter.unusedSimpArgs false
set_option linter.unusedVariables false
open Go.RowKit

/-- What a slot holds: data, or something that the running function owns. -/
inductive SV where
  | d (v : DV)
  | nils
  | agg (cs : List SV)
  | ref (id off : Nat)
  | vec (id : Nat)
  | vref (id sz i off : Nat)
  | mp (id : Nat)

mutual
def SV.toDV : SV → Option DV
  | .d v => some v
  | .nils => some (.slice [])
  | .agg cs => match SV.toDVs cs with | some xs => some (.agg xs) | none => none
  | .ref _ _ => none
  | .vec _ => none
  | .vref _ _ _ _ => none
  | .mp _ => none
def SV.toDVs : List SV → Option (List DV)
  | [] => some []
  | c :: cs => match SV.toDV c, SV.toDVs cs with | some x, some xs => some (x :: xs) | _, _ => none
end

/-- The kinds of keys of a map. -/
inductive KK where
  | str
  | int (k : IntKind)
  | bool
  deriving DecidableEq

def KK.fits : KK → DV → Bool
  | .str, .str _ => true
  | .int k, .int k' _ => decide (k = k')
  | .bool, .bool _ => true
  | _, _ => false

/-- What the running function owns: a variable in memory, a slice with all of its array, a map (a list of entries, each key once). -/
inductive Ch where
  | dead
  | box (cells : List SV)
  | vec (e sz : Nat) (rows : List (List DV))
  | map (kk : KK) (kv : List (DV × DV))

structure St where
  s : Nat → SV
  h : Nat → Ch

def upd {α : Type} (f : Nat → α) (i : Nat) (v : α) : Nat → α := fun j => if j = i then v else f j
theorem upd_same {α : Type} (f : Nat → α) (i : Nat) (v : α) : upd f i v i = v := by simp [upd]
theorem upd_ne {α : Type} (f : Nat → α) (i j : Nat) (v : α) (h : j ≠ i) : upd f i v j = f j := by simp [upd, h]

mutual
def RepS (w : World) (M : Nat → Prop) (κ : Nat → Value) : SV → Value → Prop
  | .d v, u => Rep w M v u
  | .nils, u => u = .slice none 0 0
  | .agg cs, u => ∃ vs : List Value, u = .agg vs.toArray ∧ (∀ x ∈ vs, x.oneCell' = true) ∧ RepSL w M κ cs vs
  | .ref id off, u => ∃ b, κ id = .pointer (some ⟨b, 0, none⟩) ∧ u = .pointer (some ⟨b, off, none⟩)
  | .vec id, u => u = κ id
  | .vref id sz i off, u => ∃ b len cap, κ id = .slice (some ⟨b, 0, none⟩) len cap ∧ u = .pointer (some ⟨b, i * sz + off, none⟩)
  | .mp id, u => u = κ id
def RepSL (w : World) (M : Nat → Prop) (κ : Nat → Value) : List SV → List Value → Prop
  | [], vs => vs = []
  | c :: cs, vs => ∃ u us, vs = u :: us ∧ RepS w M κ c u ∧ RepSL w M κ cs us
end

mutual
theorem RepS.ext {w w' : World} {M M' : Nat → Prop} {κ : Nat → Value} (h : Ext w M w' M') : ∀ (x : SV) (v : Value), RepS w M κ x v → RepS w' M' κ x v
  | .d x, v, hr => by unfold RepS at *; exact hr.ext h
  | .nils, v, hr => by unfold RepS at *; exact hr
  | .agg cs, v, hr => by
    unfold RepS at *
    obtain ⟨vs, hv, h1, hl⟩ := hr
    exact ⟨vs, hv, h1, RepSL.ext h cs vs hl⟩
  | .ref _ _, v, hr => by unfold RepS at *; exact hr
  | .vec _, v, hr => by unfold RepS at *; exact hr
  | .vref _ _ _ _, v, hr => by unfold RepS at *; exact hr
  | .mp _, v, hr => by unfold RepS at *; exact hr
theorem RepSL.ext {w w' : World} {M M' : Nat → Prop} {κ : Nat → Value} (h : Ext w M w' M') : ∀ (cs : List SV) (vs : List Value), RepSL w M κ cs vs → RepSL w' M' κ cs vs
  | [], vs, hr => by unfold RepSL at *; exact hr
  | c :: cs, vs, hr => by
    unfold RepSL at *
    obtain ⟨u, us, hv, h1, h2⟩ := hr
    exact ⟨u, us, hv, RepS.ext h c u h1, RepSL.ext h cs us h2⟩
end

mutual
theorem RepS.toDV {w : World} {M : Nat → Prop} {κ : Nat → Value} : ∀ (x : SV) (v : Value) (d : DV), RepS w M κ x v → x.toDV = some d → Rep w M d v
  | .d x, v, d, hr, hd => by
    simp only [SV.toDV, Option.some.injEq] at hd
    subst hd; unfold RepS at hr; exact hr
  | .nils, v, d, hr, hd => by
    simp only [SV.toDV, Option.some.injEq] at hd
    subst hd; unfold RepS at hr; subst hr; unfold Rep
    exact ⟨none, 0, rfl, Nat.le_refl _, fun _ => rfl, .inl rfl⟩
  | .agg cs, v, d, hr, hd => by
    unfold SV.toDV at hd
    unfold RepS at hr
    obtain ⟨vs, hv, h1, hl⟩ := hr
    cases hc : SV.toDVs cs with
    | none => simp [hc] at hd
    | some xs =>
      simp only [hc, Option.some.injEq] at hd
      subst hd
      unfold Rep
      exact ⟨vs, hv, h1, RepSL.toDVs cs vs xs hl hc⟩
  | .ref _ _, v, d, hr, hd => by simp [SV.toDV] at hd
  | .vec _, v, d, hr, hd => by simp [SV.toDV] at hd
  | .vref _ _ _ _, v, d, hr, hd => by simp [SV.toDV] at hd
  | .mp _, v, d, hr, hd => by simp [SV.toDV] at hd
theorem RepSL.toDVs {w : World} {M : Nat → Prop} {κ : Nat → Value} : ∀ (cs : List SV) (vs : List Value) (ds : List DV), RepSL w M κ cs vs → SV.toDVs cs = some ds → RepL w M ds vs
  | [], vs, ds, hr, hd => by
    simp only [SV.toDVs, Option.some.injEq] at hd
    subst hd; unfold RepSL at hr; unfold RepL; exact hr
  | c :: cs, vs, ds, hr, hd => by
    unfold SV.toDVs at hd
    unfold RepSL at hr
    obtain ⟨u, us, hv, h1, h2⟩ := hr
    cases hc : SV.toDV c with
    | none => simp [hc] at hd
    | some x =>
      cases hcs : SV.toDVs cs with
      | none => simp [hc, hcs] at hd
      | some xs =>
        simp only [hc, hcs, Option.some.injEq] at hd
        subst hd
        unfold RepL
        exact ⟨u, us, hv, RepS.toDV c u x h1 hc, RepSL.toDVs cs us xs h2 hcs⟩
end

/-- What a chunk's value looks like. -/
def kOk (κ : Nat → Value) : Prop := ∀ id, (κ id).oneCell' = true

def blk : Value → Option Nat
  | .pointer (some a) => some a.block
  | .slice (some a) _ _ => some a.block
  | .map (some r) => some r
  | _ => none

def Ch.live : Ch → Prop
  | .dead => False
  | _ => True

/-- The blocks that are owned: those of the caller (M0), and those of the live chunks. -/
def own (M0 : Nat → Prop) (h : Nat → Ch) (κ : Nat → Value) (b : Nat) : Prop := M0 b ∨ ∃ id, (h id).live ∧ blk (κ id) = some b

/-- A key's value in the model. -/
def keyVal : DV → Option Value
  | .int k n => some (.int k n)
  | .str s => some (.string ⟨s.toArray⟩)
  | .bool b => some (.bool b)
  | _ => none

/-- The entries of a map in memory, in the order in which they were put. -/
def RepMap (w : World) (M : Nat → Prop) (kk : KK) : List (DV × DV) → List MapEntry → Prop
  | [], es => es = []
  | (k, c) :: kv, es => ∃ e rest, es = e :: rest ∧ kk.fits k = true ∧ keyVal k = some e.key ∧ Rep w M c e.val ∧ RepMap w M kk kv rest

def RepC (B : Nat) (w : World) (M : Nat → Prop) (κ : Nat → Value) (id : Nat) : Ch → Prop
  | .dead => True
  | .box cs => ∃ b T vs, κ id = .pointer (some ⟨b, 0, none⟩) ∧ B ≤ b ∧ w.heap[b]? = some (.cells (List.toArray vs) T (0, 0)) ∧ (∀ x ∈ vs, x.oneCell' = true) ∧ RepSL w M κ cs vs
  | .vec e sz rows => ∃ xs, w.ownsRow B e sz (κ id) rows.length xs ∧ (∀ x ∈ xs, x.oneCell' = true) ∧ (∀ r ∈ rows, r.length = sz) ∧ RepL w M rows.flatten xs
  | .map kk kv => ∃ r es clock, κ id = .map (some r) ∧ B ≤ r ∧ w.heap[r]? = some (.map (List.toArray es) clock) ∧ RepMap w M kk kv es

/-- The model's state is one of those that the abstract state speaks of. B: the heap's size when the function was entered; w0: the world then; M0: the blocks that its callers own; N: how many slots there are. -/
structure Ref (B : Nat) (w0 : World) (M0 : Nat → Prop) (N : Nat) (σ : St) (κ : Nat → Value) (a : Act) (w : World) : Prop where
  below : Below B w0 w
  size : B ≤ w.heap.size
  m0 : ∀ b, M0 b → b < B
  ntmps : a.tmps.size = N
  defers : a.defers = []
  kok : kOk κ
  slots : ∀ i, i < N → RepS w (own M0 σ.h κ) κ (σ.s i) (a.tmps.getD i undef)
  chunks : ∀ id, RepC B w (own M0 σ.h κ) κ id (σ.h id)
  sep : ∀ i j b, i ≠ j → (σ.h i).live → (σ.h j).live → blk (κ i) = some b → blk (κ j) = some b → False

theorem RepC.lt {B : Nat} {w : World} {M : Nat → Prop} {κ : Nat → Value} {id : Nat} {c : Ch} (h : RepC B w M κ id c) (hl : c.live) {b : Nat} (hb : blk (κ id) = some b) : B ≤ b ∧ b < w.heap.size := by
  cases c with
  | dead => exact hl.elim
  | box cs =>
    obtain ⟨b', T, vs, hk, hB, hh, _⟩ := h
    rw [hk] at hb; simp [blk] at hb; subst hb
    exact ⟨hB, (Array.getElem?_eq_some_iff.1 hh).1⟩
  | vec e sz rows =>
    obtain ⟨xs, ho, _⟩ := h
    have hlt := ho.lt b
    revert hb hlt
    rcases ho.2 with ⟨hv, _⟩ | ⟨g, cap, cur, hv, _⟩ <;> rw [hv] <;> simp [blk, Value.ownBlock]
    rintro rfl h1
    exact h1 rfl
  | map kk kv =>
    obtain ⟨r, es, clock, hk, hB, hh, _⟩ := h
    rw [hk] at hb; simp [blk] at hb; subst hb
    exact ⟨hB, (Array.getElem?_eq_some_iff.1 hh).1⟩

theorem Ref.own_lt {B : Nat} {w0 : World} {M0 : Nat → Prop} {N : Nat} {σ : St} {κ : Nat → Value} {a : Act} {w : World} (h : Ref B w0 M0 N σ κ a w) {b : Nat} (hb : own M0 σ.h κ b) : b < w.heap.size := by
  rcases hb with hb | ⟨id, hl, hb⟩
  · exact Nat.lt_of_lt_of_le (h.m0 b hb) h.size
  · exact ((h.chunks id).lt hl hb).2

theorem RepMap.ext {w w' : World} {M M' : Nat → Prop} {kk : KK} (h : Ext w M w' M') : ∀ (kv : List (DV × DV)) (es : List MapEntry), RepMap w M kk kv es → RepMap w' M' kk kv es
  | [], es, hr => by unfold RepMap at *; exact hr
  | (k, c) :: kv, es, hr => by
    unfold RepMap at *
    obtain ⟨e, rest, h1, h2, h3, h4, h5⟩ := hr
    exact ⟨e, rest, h1, h2, h3, h4.ext h, RepMap.ext h kv rest h5⟩

/-- A chunk whose own block has not turned. -/
theorem RepC.ext {B : Nat} {w w' : World} {M M' : Nat → Prop} {κ : Nat → Value} {id : Nat} {c : Ch} (h : Ext w M w' M') (hk : c.live → ∀ b, blk (κ id) = some b → w'.heap[b]? = w.heap[b]?) (hr : RepC B w M κ id c) : RepC B w' M' κ id c := by
  cases c with
  | dead => trivial
  | box cs =>
    obtain ⟨b', T, vs, hk', hB, hh, h1, h2⟩ := hr
    exact ⟨b', T, vs, hk', hB, by rw [hk trivial b' (by rw [hk']; rfl)]; exact hh, h1, RepSL.ext h cs vs h2⟩
  | vec e sz rows =>
    obtain ⟨xs, ho, h1, h2, h3⟩ := hr
    refine ⟨xs, ⟨ho.1, ?_⟩, h1, h2, RepL.ext h _ _ h3⟩
    rcases ho.2 with hv | ⟨g, cap, cur, hv, hb, hg, hrest⟩
    · exact .inl hv
    · exact .inr ⟨g, cap, cur, hv, hb, by rw [hk trivial g (by rw [hv]; rfl)]; exact hg, hrest⟩
  | map kk kv =>
    obtain ⟨r, es, clock, hk', hB, hh, h1⟩ := hr
    exact ⟨r, es, clock, hk', hB, by rw [hk trivial r (by rw [hk']; rfl)]; exact hh, RepMap.ext h kv es h1⟩

theorem Ext.of_below {w w' : World} {M : Nat → Prop} (h : Below w.heap.size w w') : Ext w M w' M := ⟨h.size, fun b hb hm => ⟨h.block b hb, hm⟩⟩

theorem getD_set (t : Array Value) (d i : Nat) (v : Value) : (t.setIfInBounds d v).getD i undef = if d = i ∧ d < t.size then v else t.getD i undef := by
  by_cases h : d = i
  · subst h
    by_cases hs : d < t.size <;> simp [hs]
  · simp [h]

/-- The world has new blocks; one slot has been written. -/
theorem Ref.put {B : Nat} {w0 : World} {M0 : Nat → Prop} {N : Nat} {σ : St} {κ : Nat → Value} {a : Act} {w w' : World} (h : Ref B w0 M0 N σ κ a w) {dst : Nat} {x : SV} {v : Value}
    (hb : Below w.heap.size w w') (hx : RepS w' (own M0 σ.h κ) κ x v) : Ref B w0 M0 N { σ with s := upd σ.s dst x } κ (a.put (some dst) v) w' := by
  have hext : Ext w (own M0 σ.h κ) w' (own M0 σ.h κ) := Ext.of_below hb
  refine ⟨h.below.trans (hb.mono h.size), Nat.le_trans h.size hb.size, h.m0, by simp [Act.put, h.ntmps], h.defers, h.kok, fun i hi => ?_, fun id => (h.chunks id).ext hext fun hl b hbk => hb.block b ((h.chunks id).lt hl hbk).2, h.sep⟩
  simp only [Act.put, getD_set]
  by_cases hd : dst = i
  · subst hd; simp [h.ntmps, hi, upd_same, hx]
  · simp only [hd, false_and, if_false]
    rw [upd_ne _ _ _ _ (fun e => hd e.symm)]
    exact RepS.ext hext _ _ (h.slots i hi)

/-- The world has new blocks; no slot has been written. -/
theorem Ref.grown {B : Nat} {w0 : World} {M0 : Nat → Prop} {N : Nat} {σ : St} {κ : Nat → Value} {a : Act} {w w' : World} (h : Ref B w0 M0 N σ κ a w)
    (hb : Below w.heap.size w w') : Ref B w0 M0 N σ κ a w' := by
  have hext : Ext w (own M0 σ.h κ) w' (own M0 σ.h κ) := Ext.of_below hb
  exact ⟨h.below.trans (hb.mono h.size), Nat.le_trans h.size hb.size, h.m0, h.ntmps, h.defers, h.kok, fun i hi => RepS.ext hext _ _ (h.slots i hi), fun id => (h.chunks id).ext hext fun hl b hbk => hb.block b ((h.chunks id).lt hl hbk).2, h.sep⟩

end Go.Proofs.YtjdeikkojjdjdaaDoor

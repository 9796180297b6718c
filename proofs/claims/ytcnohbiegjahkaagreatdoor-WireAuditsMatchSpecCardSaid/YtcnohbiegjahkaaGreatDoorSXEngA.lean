/-
  The engine, part A: data values, how a value reads as a data value, and what keeps such a reading.
-/
import Derived.Calls
import Derived.Orders
import Derived.Below
import Derived.WalkKit
import Derived.Lib.FrozenHead
namespace Go.Proofs.YtcnohbiegjahkaaGreatDoor
set_option linter.unusedSimpArgs false
set_option linter.unusedVariables false
open Go.RowKit

/-- What a value says, whatever memory it lies in. -/
inductive DV where
  | int (k : IntKind) (n : Int)
  | bool (b : Bool)
  | str (s : List UInt8)
  | slice (rows : List (List DV))
  | agg (cs : List DV)
  | tup (cs : List DV)
  | ptr (cs : List DV)
  | fn (f : FuncId) (caps : List DV)
  | raw (v : Value)
  | map (ks vs : List DV)
  | err
  | any

mutual
/-- The value v reads as the data value, in cells of blocks outside M. -/
def Rep (w : World) (M : Nat → Prop) : DV → Value → Prop
  | .int k n, v => v = .int k n
  | .bool b, v => v = .bool b
  | .str s, v => v = .string ⟨s.toArray⟩
  | .slice rows, v => ∃ a cap, v = .slice a rows.length cap ∧ rows.length ≤ cap ∧ (a = none → cap = 0) ∧
      (rows = [] ∨ ∃ b o sz, a = some ⟨b, o, none⟩ ∧ ¬ M b ∧ b < w.heap.size ∧ RepRows w M rows b o sz)
  | .agg cs, v => ∃ vs : List Value, v = .agg vs.toArray ∧ (∀ x ∈ vs, x.oneCell' = true) ∧ RepL w M cs vs
  | .tup cs, v => ∃ vs : List Value, v = .tuple vs.toArray ∧ RepL w M cs vs
  | .ptr cs, v => ∃ b o, v = .pointer (some ⟨b, o, none⟩) ∧ ¬ M b ∧ b < w.heap.size ∧ RepAt w M cs b o
  | .fn f caps, v => ∃ vs : List Value, v = .func (.func f) #[] vs.toArray ∧ RepL w M caps vs
  | .raw u, v => v = u
  | .map _ _, _ => False
  | .err, v => ∃ t u, v = .iface t u
  | .any, _ => True
def RepL (w : World) (M : Nat → Prop) : List DV → List Value → Prop
  | [], vs => vs = []
  | c :: cs, vs => ∃ u us, vs = u :: us ∧ Rep w M c u ∧ RepL w M cs us
def RepAt (w : World) (M : Nat → Prop) : List DV → Nat → Nat → Prop
  | [], _, _ => True
  | c :: cs, b, o => (∃ v, w.cell? ⟨b, o, none⟩ = some v ∧ v.oneCell' = true ∧ Rep w M c v) ∧ RepAt w M cs b (o + 1)
def RepRows (w : World) (M : Nat → Prop) : List (List DV) → Nat → Nat → Nat → Prop
  | [], _, _, _ => True
  | r :: rs, b, o, sz => r.length = sz ∧ RepAt w M r b o ∧ RepRows w M rs b (o + sz) sz
end

/-- w' has all that w has outside M (new blocks may be there), and M' is no more than M among the old blocks. -/
structure Ext (w : World) (M : Nat → Prop) (w' : World) (M' : Nat → Prop) : Prop where
  size : w.heap.size ≤ w'.heap.size
  keep : ∀ b, b < w.heap.size → ¬ M b → w'.heap[b]? = w.heap[b]? ∧ ¬ M' b

theorem Ext.cell {w w' : World} {M M' : Nat → Prop} (h : Ext w M w' M') {b o : Nat} (hb : b < w.heap.size) (hm : ¬ M b) :
    w'.cell? ⟨b, o, none⟩ = w.cell? ⟨b, o, none⟩ := by
  unfold World.cell?; simp only; rw [(h.keep b hb hm).1]

theorem Ext.refl (w : World) (M : Nat → Prop) : Ext w M w M := ⟨Nat.le_refl _, fun _ _ h => ⟨rfl, h⟩⟩

theorem Ext.trans {w w' w'' : World} {M M' M'' : Nat → Prop} (h : Ext w M w' M') (k : Ext w' M' w'' M'') : Ext w M w'' M'' :=
  ⟨Nat.le_trans h.size k.size, fun b hb hm => by
    obtain ⟨h1, h2⟩ := h.keep b hb hm
    obtain ⟨k1, k2⟩ := k.keep b (Nat.lt_of_lt_of_le hb h.size) h2
    exact ⟨k1.trans h1, k2⟩⟩

theorem Ext.shrink {w : World} {M M' : Nat → Prop} (h : ∀ b, M' b → M b) : Ext w M w M' :=
  ⟨Nat.le_refl _, fun b _ hm => ⟨rfl, fun h' => hm (h b h')⟩⟩

mutual
theorem Rep.ext {w w' : World} {M M' : Nat → Prop} (h : Ext w M w' M') : ∀ (d : DV) (v : Value), Rep w M d v → Rep w' M' d v
  | .int _ _, _, hr => by unfold Rep at *; exact hr
  | .bool _, _, hr => by unfold Rep at *; exact hr
  | .str _, _, hr => by unfold Rep at *; exact hr
  | .slice rows, v, hr => by
    unfold Rep at *
    obtain ⟨a, cap, hv, hl, hn, hc⟩ := hr
    refine ⟨a, cap, hv, hl, hn, ?_⟩
    rcases hc with hc | ⟨b, o, sz, ha, hm, hb, hrows⟩
    · exact .inl hc
    · exact .inr ⟨b, o, sz, ha, (h.keep b hb hm).2, Nat.lt_of_lt_of_le hb h.size, RepRows.ext h rows b o sz hb hm hrows⟩
  | .agg cs, v, hr => by
    unfold Rep at *
    obtain ⟨vs, hv, h1, hl⟩ := hr
    exact ⟨vs, hv, h1, RepL.ext h cs vs hl⟩
  | .tup cs, v, hr => by
    unfold Rep at *
    obtain ⟨vs, hv, hl⟩ := hr
    exact ⟨vs, hv, RepL.ext h cs vs hl⟩
  | .ptr cs, v, hr => by
    unfold Rep at *
    obtain ⟨b, o, hv, hm, hb, hc⟩ := hr
    exact ⟨b, o, hv, (h.keep b hb hm).2, Nat.lt_of_lt_of_le hb h.size, RepAt.ext h cs b o hb hm hc⟩
  | .fn _ caps, v, hr => by
    unfold Rep at *
    obtain ⟨vs, hv, hl⟩ := hr
    exact ⟨vs, hv, RepL.ext h caps vs hl⟩
  | .raw _, _, hr => by unfold Rep at *; exact hr
  | .map _ _, _, hr => by unfold Rep at hr; exact hr.elim
  | .err, _, hr => by unfold Rep at *; exact hr
  | .any, _, _ => by unfold Rep; trivial
theorem RepL.ext {w w' : World} {M M' : Nat → Prop} (h : Ext w M w' M') : ∀ (cs : List DV) (vs : List Value), RepL w M cs vs → RepL w' M' cs vs
  | [], _, hr => by unfold RepL at *; exact hr
  | c :: cs, vs, hr => by
    unfold RepL at *
    obtain ⟨u, us, hv, h1, h2⟩ := hr
    exact ⟨u, us, hv, Rep.ext h c u h1, RepL.ext h cs us h2⟩
theorem RepAt.ext {w w' : World} {M M' : Nat → Prop} (h : Ext w M w' M') : ∀ (cs : List DV) (b o : Nat), b < w.heap.size → ¬ M b → RepAt w M cs b o → RepAt w' M' cs b o
  | [], _, _, _, _, _ => by unfold RepAt; trivial
  | c :: cs, b, o, hb, hm, hr => by
    unfold RepAt at *
    obtain ⟨⟨v, hv, h1, hc⟩, hrest⟩ := hr
    exact ⟨⟨v, by rw [h.cell hb hm]; exact hv, h1, Rep.ext h c v hc⟩, RepAt.ext h cs b (o + 1) hb hm hrest⟩
theorem RepRows.ext {w w' : World} {M M' : Nat → Prop} (h : Ext w M w' M') : ∀ (rs : List (List DV)) (b o sz : Nat), b < w.heap.size → ¬ M b → RepRows w M rs b o sz → RepRows w' M' rs b o sz
  | [], _, _, _, _, _, _ => by unfold RepRows; trivial
  | r :: rs, b, o, sz, hb, hm, hr => by
    unfold RepRows at *
    obtain ⟨h1, h2, h3⟩ := hr
    exact ⟨h1, RepAt.ext h r b o hb hm h2, RepRows.ext h rs b (o + sz) sz hb hm h3⟩
end

def callable (P : Program) (f : FuncId) : Bool :=
  match P.funcs[f]? with
  | some fn => fn.body.isSome && fn.name != "runtime.NumGoroutine"
  | none => false

/-- The kinds of keys of a map. -/
inductive KK where
  | str
  | int (k : IntKind)
  | bool
  deriving DecidableEq

def KK.fits : KK → DV → Bool
  | .str, .str _ => true
  | .int k, .int k' _ => decide (k = k')
  | .bool, .bool _ => true
  | _, _ => false

/-- A key's value in the model. -/
def keyVal : DV → Option Value
  | .int k n => some (.int k n)
  | .str s => some (.string ⟨s.toArray⟩)
  | .bool b => some (.bool b)
  | _ => none

/-- Which levels of a value are owned: none, a slice (of elements of type e, cells by cells), a variable behind a pointer, a map. -/
inductive Mask where
  | sh
  | sl (e : Nat) (ms : List Mask)
  | pt (ms : List Mask)
  | mp (kk : KK) (m : Mask)
  | bld (T e : Nat)

def blk : Value → Option Nat
  | .pointer (some a) => some a.block
  | .slice (some a) _ _ => some a.block
  | .map (some r) => some r
  | _ => none
def blkL (v : Value) : List Nat := (blk v).toList

/-- Rows, one behind the other. -/
def CellsBy (R : List DV → List Value → List Nat → Prop) : List (List DV) → List Value → List Nat → Prop
  | [], xs, G => xs = [] ∧ G = []
  | r :: rs, xs, G => ∃ ys zs G1 G2, xs = ys ++ zs ∧ G = G1 ++ G2 ∧ R r ys G1 ∧ CellsBy R rs zs G2

def MapBy (R : DV → Value → List Nat → Prop) (kk : KK) : List DV → List DV → List MapEntry → List Nat → Prop
  | [], ds, es, G => ds = [] ∧ es = [] ∧ G = []
  | k :: ks, ds, es, G => ∃ d ds' e es' G1 G2, ds = d :: ds' ∧ es = e :: es' ∧ G = G1 ++ G2 ∧ kk.fits k = true ∧ keyVal k = some e.key ∧ R d e.val G1 ∧ MapBy R kk ks ds' es' G2

/-- The entries of a map have been put one after the other. -/
def Born (es : List MapEntry) (clock : Nat) : Prop := (∀ e ∈ es, e.born < clock) ∧ (es.map (·.born)).Nodup
/-- v points to a strings.Builder (type T, bytes of type e) that holds the bytes bs; its blocks are F. -/
def BldAt (w : World) (T e : Nat) (bs : List UInt8) (v : Value) (F : List Nat) : Prop :=
  ∃ b p u, v = .pointer (some ⟨b, 0, none⟩) ∧ w.heap[b]? = some (.cells #[p, u] T (0, 0)) ∧ (p = .pointer none ∨ p = .pointer (some ⟨b, 0, none⟩)) ∧ w.ownsRowF 0 e 1 u bs.length (Lib.byteCells bs) ∧ F = b :: blkL u

mutual
/-- The value v reads as d; the levels that the mask names lie in the blocks F, which nothing else points to. -/
def RepO (w : World) (M : Nat → Prop) : Mask → DV → Value → List Nat → Prop
  | .sh, d, v, F => F = [] ∧ Rep w M d v
  | .sl e ms, d, v, F => ∃ rows xs G, d = .slice rows ∧ w.ownsRow 0 e ms.length v rows.length xs ∧ (∀ x ∈ xs, x.oneCell' = true) ∧ (∀ r ∈ rows, r.length = ms.length) ∧
      CellsBy (fun r ys G' => RepOL w M ms r ys G') rows xs G ∧ F = blkL v ++ G
  | .pt ms, d, v, F => ∃ cs b T vs G, d = .ptr cs ∧ v = .pointer (some ⟨b, 0, none⟩) ∧ w.heap[b]? = some (.cells (List.toArray vs) T (0, 0)) ∧ (∀ x ∈ vs, x.oneCell' = true) ∧ RepOL w M ms cs vs G ∧ F = b :: G
  | .mp kk m, d, v, F => ∃ ks ds r es clock G, d = .map ks ds ∧ v = .map (some r) ∧ w.heap[r]? = some (.map (List.toArray es) clock) ∧ Born es clock ∧ MapBy (fun d' v' G' => RepO w M m d' v' G') kk ks ds es G ∧ F = r :: G
  | .bld T e, d, v, F => ∃ bs, d = .str bs ∧ BldAt w T e bs v F
def RepOL (w : World) (M : Nat → Prop) : List Mask → List DV → List Value → List Nat → Prop
  | [], ds, vs, F => ds = [] ∧ vs = [] ∧ F = []
  | m :: ms, ds, vs, F => ∃ d ds' v vs' F1 F2, ds = d :: ds' ∧ vs = v :: vs' ∧ F = F1 ++ F2 ∧ RepO w M m d v F1 ∧ RepOL w M ms ds' vs' F2
end

theorem CellsBy.mono {R R' : List DV → List Value → List Nat → Prop} : ∀ {rows : List (List DV)} {xs : List Value} {G : List Nat}, (∀ r ys G', (∀ b ∈ G', b ∈ G) → R r ys G' → R' r ys G') → CellsBy R rows xs G → CellsBy R' rows xs G
  | [], xs, G, _, h => h
  | r :: rs, xs, G, hR, h => by
    obtain ⟨ys, zs, G1, G2, h1, rfl, h3, h4⟩ := h
    exact ⟨ys, zs, G1, G2, h1, rfl, hR r ys G1 (fun b hb => by simp [hb]) h3, CellsBy.mono (fun r ys G' hG => hR r ys G' fun b hb => by simp [hG b hb]) h4⟩

theorem MapBy.mono {R R' : DV → Value → List Nat → Prop} {kk : KK} : ∀ {ks ds : List DV} {es : List MapEntry} {G : List Nat}, (∀ d v G', (∀ b ∈ G', b ∈ G) → R d v G' → R' d v G') → MapBy R kk ks ds es G → MapBy R' kk ks ds es G
  | [], ds, es, G, _, h => h
  | k :: ks, ds, es, G, hR, h => by
    obtain ⟨d, ds', e, es', G1, G2, h1, h2, rfl, h3, h4, h5, h6⟩ := h
    exact ⟨d, ds', e, es', G1, G2, h1, h2, rfl, h3, h4, hR d e.val G1 (fun b hb => by simp [hb]) h5, MapBy.mono (fun d v G' hG => hR d v G' fun b hb => by simp [hG b hb]) h6⟩

theorem ownsRow_ext {w w' : World} {e sz n : Nat} {v : Value} {xs : List Value} (hk : ∀ b ∈ blkL v, w'.heap[b]? = w.heap[b]?) (h : w.ownsRow 0 e sz v n xs) : w'.ownsRow 0 e sz v n xs := by
  refine ⟨h.1, ?_⟩
  rcases h.2 with h | ⟨g, cap, cur, hv, hb, hg, rest⟩
  · exact .inl h
  · exact .inr ⟨g, cap, cur, hv, hb, by rw [hk g (by simp [blkL, hv, blk])]; exact hg, rest⟩

theorem ownsRowF_ext {w w' : World} {e sz n : Nat} {v : Value} {xs : List Value} (hk : ∀ b ∈ blkL v, w'.heap[b]? = w.heap[b]?) (h : w.ownsRowF 0 e sz v n xs) : w'.ownsRowF 0 e sz v n xs := by
  refine ⟨h.1, ?_⟩
  rcases h.2 with h | ⟨g, cap, cur, fz, hv, hb, hg, rest⟩
  · exact .inl h
  · exact .inr ⟨g, cap, cur, fz, hv, hb, by rw [hk g (by simp [blkL, hv, blk])]; exact hg, rest⟩
theorem BldAt.ext {w w' : World} {T e : Nat} {bs : List UInt8} {v : Value} {F : List Nat} (hk : ∀ b ∈ F, w'.heap[b]? = w.heap[b]?) (h : BldAt w T e bs v F) : BldAt w' T e bs v F := by
  obtain ⟨b, p, u, h1, h2, h3, h4, rfl⟩ := h
  exact ⟨b, p, u, h1, by rw [hk b (by simp)]; exact h2, h3, ownsRowF_ext (fun b hb => hk b (by simp [hb])) h4, rfl⟩

mutual
theorem RepO.ext {w w' : World} {M M' : Nat → Prop} (h : Ext w M w' M') : ∀ (m : Mask) (d : DV) (v : Value) (F : List Nat), (∀ b ∈ F, w'.heap[b]? = w.heap[b]?) → RepO w M m d v F → RepO w' M' m d v F
  | .sh, d, v, F, hk, hr => by
    unfold RepO at *
    exact ⟨hr.1, hr.2.ext h⟩
  | .sl e ms, d, v, F, hk, hr => by
    unfold RepO at *
    obtain ⟨rows, xs, G, hd, ho, h1, h2, h3, rfl⟩ := hr
    exact ⟨rows, xs, G, hd, ownsRow_ext (fun b hb => hk b (by simp [hb])) ho, h1, h2, CellsBy.mono (fun r ys G' hG hr => RepOL.ext h ms r ys G' (fun b hb => hk b (by simp [hG b hb])) hr) h3, rfl⟩
  | .pt ms, d, v, F, hk, hr => by
    unfold RepO at *
    obtain ⟨cs, b, T, vs, G, hd, hv, hh, h1, h2, rfl⟩ := hr
    exact ⟨cs, b, T, vs, G, hd, hv, by rw [hk b (by simp)]; exact hh, h1, RepOL.ext h ms cs vs G (fun b hb => hk b (by simp [hb])) h2, rfl⟩
  | .mp kk m, d, v, F, hk, hr => by
    unfold RepO at *
    obtain ⟨ks, ds, r, es, clock, G, hd, hv, hh, hB, h1, rfl⟩ := hr
    exact ⟨ks, ds, r, es, clock, G, hd, hv, by rw [hk r (by simp)]; exact hh, hB, MapBy.mono (fun d v G' hG hr => RepO.ext h m d v G' (fun b hb => hk b (by simp [hG b hb])) hr) h1, rfl⟩
  | .bld T e, d, v, F, hk, hr => by
    unfold RepO at *
    obtain ⟨bs, h1, h2⟩ := hr
    exact ⟨bs, h1, h2.ext hk⟩
theorem RepOL.ext {w w' : World} {M M' : Nat → Prop} (h : Ext w M w' M') : ∀ (ms : List Mask) (ds : List DV) (vs : List Value) (F : List Nat), (∀ b ∈ F, w'.heap[b]? = w.heap[b]?) → RepOL w M ms ds vs F → RepOL w' M' ms ds vs F
  | [], ds, vs, F, _, hr => by unfold RepOL at *; exact hr
  | m :: ms, ds, vs, F, hk, hr => by
    unfold RepOL at *
    obtain ⟨d, ds', v, vs', F1, F2, h1, h2, rfl, h3, h4⟩ := hr
    exact ⟨d, ds', v, vs', F1, F2, h1, h2, rfl, RepO.ext h m d v F1 (fun b hb => hk b (by simp [hb])) h3, RepOL.ext h ms ds' vs' F2 (fun b hb => hk b (by simp [hb])) h4⟩
end

end Go.Proofs.YtcnohbiegjahkaaGreatDoor

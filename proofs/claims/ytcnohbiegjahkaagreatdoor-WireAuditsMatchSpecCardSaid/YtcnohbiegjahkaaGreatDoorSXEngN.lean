/-
  The engine, part N: a law's arguments, read by the form's reader, are data values of their types.
-/
import Derived.Test.YtcnohbiegjahkaaGreatDoorSXEngM
import GoSem.ClaimChange
import GoSem.ClaimWide
import Derived.ChangeArms
import Derived.Lib.Strings
namespace Go.Proofs.YtcnohbiegjahkaaGreatDoor
set_option linter.unusedSimpArgs false
set_option linter.unusedVariables false
open Go.RowKit

mutual
/-- How many values and letters a datum holds (the measure of the given rows' second form). -/
def bulkW {H : Type} : DataW H → Nat
  | .lit (.string bytes) => bytes.length + 1
  | .lit _ => 1
  | .nil => 1
  | .ptr d => bulkW d + 1
  | .slice elems spare => bulkWs elems + bulkWs spare + 1
  | .agg parts => bulkWs parts + 1
  | .iface _ d => bulkW d + 1
  | .map entries => bulkWe entries + 1
  | .held _ => 1
def bulkWs {H : Type} : List (DataW H) → Nat
  | [] => 0
  | d :: r => bulkW d + bulkWs r
def bulkWe {H : Type} : List (Lit × DataW H) → Nat
  | [] => 0
  | x :: r => bulkWx x + bulkWe r
def bulkWx {H : Type} : Lit × DataW H → Nat
  | (.string bytes, d) => bytes.length + bulkW d + 1
  | (_, d) => bulkW d + 1
end

mutual
def dvB : DV → Nat
  | .str s => s.length + 1
  | .slice rows => dvBR rows + 1
  | .agg cs => dvBL cs
  | .tup cs => dvBL cs
  | .ptr cs => dvBL cs + 1
  | .fn _ _ => 1
  | .int _ _ => 1
  | .bool _ => 1
  | .raw _ => 1
  | .map _ _ => 1
  | .err => 1
  | .any => 1
def dvBL : List DV → Nat
  | [] => 0
  | c :: cs => dvB c + dvBL cs
def dvBR : List (List DV) → Nat
  | [] => 0
  | r :: rs => dvBL r + dvBR rs
end

theorem dvBL_append : ∀ (a b : List DV), dvBL (a ++ b) = dvBL a + dvBL b
  | [], b => by simp [dvBL]
  | c :: a, b => by simp [dvBL, dvBL_append a b]; omega

def tiles (P : Program) : Nat → List Field → Nat → Bool
  | o, [], n => o == n
  | o, f :: fs, n => f.offset == o && tiles P (o + P.cellsOf f.type) fs n

/-- The types whose values this part reads. -/
def okTy (P : Program) : Nat → TypeId → Bool
  | 0, _ => false
  | n + 1, t => match P.underlying t with
    | some .bool => true
    | some (.int _) => true
    | some .string => true
    | some (.slice e) => decide (0 < P.cellsOf e) && okTy P n e
    | some (.struct fs) => tiles P 0 fs.toList (P.cellsOf t) && fs.toList.all (fun f => okTy P n f.type)
    | _ => false

def WTS (W : TypeId → List DV → Prop) : List Field → List DV → Prop
  | [], ds => ds = []
  | f :: fs, ds => ∃ a rest, ds = a ++ rest ∧ W f.type a ∧ WTS W fs rest

/-- These cells are a value of type t. -/
def WT (P : Program) : Nat → TypeId → List DV → Prop
  | 0, _, _ => False
  | n + 1, t, ds => match P.underlying t with
    | some .bool => ∃ b, ds = [.bool b]
    | some (.int k) => ∃ m, ds = [.int k m] ∧ (Lit.int k m).wf = true
    | some .string => ∃ s, ds = [.str s] ∧ s.length ≤ maxLen
    | some (.slice e) => ∃ rows, ds = [.slice rows] ∧ rows.length ≤ maxLen ∧ ∀ r ∈ rows, WT P n e r
    | some (.struct fs) => WTS (WT P n) fs.toList ds
    | _ => False

def NoM : Nat → Prop := fun _ => False

theorem mapM_range {α : Type} {f : Nat → Option α} : ∀ (m k : Nat) {ys : List α}, (List.range' k m).mapM f = some ys → ys.length = m ∧ ∀ j, j < m → ∃ y, f (k + j) = some y ∧ ys[j]? = some y
  | 0, k, ys, h => by simp at h; subst h; simp
  | m + 1, k, ys, h => by
    rw [List.range'_succ, List.mapM_cons] at h
    cases hf : f k with
    | none => simp [hf] at h
    | some y =>
      cases hr : (List.range' (k + 1) m).mapM f with
      | none => simp [hf, hr] at h
      | some zs =>
        simp [hf, hr] at h
        subst h
        obtain ⟨h1, h2⟩ := mapM_range m (k + 1) hr
        refine ⟨by simp [h1], fun j hj => ?_⟩
        cases j with
        | zero => exact ⟨y, by simpa using hf, by simp⟩
        | succ j =>
          obtain ⟨z, hz1, hz2⟩ := h2 j (by omega)
          exact ⟨z, by rw [show k + (j + 1) = k + 1 + j by omega]; exact hz1, by simpa using hz2⟩

theorem mapM_range0 {α : Type} {f : Nat → Option α} {m : Nat} {ys : List α} (h : (List.range m).mapM f = some ys) : ys.length = m ∧ ∀ j, j < m → ∃ y, f j = some y ∧ ys[j]? = some y := by
  rw [List.range_eq_range'] at h
  simpa using mapM_range m 0 h

theorem cells_get {w : World} {a : Addr} {n : Nat} {vs : List Value} (h : w.cells? 0 a n = some vs) : vs.length = n ∧ ∀ j v, vs[j]? = some v → w.cell? (a.add j) = some v := by
  simp only [World.cells?, Nat.zero_le, if_true] at h
  obtain ⟨h1, h2⟩ := mapM_range0 h
  refine ⟨h1, fun j v hj => ?_⟩
  have hlt := (List.getElem?_eq_some_iff.1 hj).1
  obtain ⟨y, hy1, hy2⟩ := h2 j (by omega)
  rw [hj] at hy2; simp at hy2; subst hy2; exact hy1

section
variable {H : Type} {enc : TypeId × Value → H} {P : Program} {w : World} {sp : Nat → Bool} {held : Bool}

/-- What a reading gives. -/
def Reads (P : Program) (w : World) (n : Nat) (t : TypeId) (cs : List Value) (bulk : Nat) : Prop :=
  ∃ ds, RepL w NoM ds cs ∧ (∀ x ∈ cs, x.oneCell' = true) ∧ WT P n t ds ∧ dvBL ds ≤ bulk

theorem tiles_le : ∀ (fs : List Field) (o n : Nat), tiles P o fs n = true → o ≤ n
  | [], o, n, h => by simp [tiles] at h; omega
  | f :: fs, o, n, h => by
    simp only [tiles, Bool.and_eq_true] at h
    have := tiles_le fs _ _ h.2
    omega

theorem reads_fields {n fuel : Nat} (ih : ∀ t cs d ps, okTy P n t = true → DataW.trod enc P w 0 sp held fuel t cs = some (d, ps) → Reads P w n t cs (bulkW d)) (cs : List Value) :
    ∀ (fs : List Field) (o : Nat) (xs : List (DataW H × List MemPlace)), tiles P o fs cs.length = true → fs.all (fun f => okTy P n f.type) = true → xs.length = fs.length →
    (∀ (i : Nat) (f : Field), fs[i]? = some f → DataW.trod enc P w 0 sp held fuel f.type ((cs.drop f.offset).take (P.cellsOf f.type)) = xs[i]?) →
    ∃ ds, RepL w NoM ds (cs.drop o) ∧ (∀ x ∈ cs.drop o, x.oneCell' = true) ∧ WTS (WT P n) fs ds ∧ dvBL ds ≤ bulkWs (xs.map (·.1))
  | [], o, xs, ht, hok, hl, hx => by
    simp only [tiles, beq_iff_eq] at ht
    have : cs.drop o = [] := List.drop_eq_nil_iff.2 (by omega)
    rw [this]
    exact ⟨[], by simp [RepL], by simp, rfl, by simp [dvBL]⟩
  | f :: fs, o, [], ht, hok, hl, hx => by simp at hl
  | f :: fs, o, y :: zs, ht, hok, hl, hx => by
    simp only [tiles, Bool.and_eq_true, beq_iff_eq] at ht
    obtain ⟨rfl, ht⟩ := ht
    simp only [List.all_cons, Bool.and_eq_true] at hok
    have hf := hx 0 f (by simp)
    simp only [List.getElem?_cons_zero] at hf
    have hle := tiles_le fs _ _ ht
    obtain ⟨ds2, h1, h2, h3, h4⟩ := reads_fields ih cs fs (f.offset + P.cellsOf f.type) zs ht hok.2 (by simpa using hl) (fun i g hg => by simpa using hx (i + 1) g (by simpa using hg))
    obtain ⟨ds1, g1, g2, g3, g4⟩ := ih f.type _ y.1 y.2 hok.1 hf
    have hsplit : cs.drop f.offset = (cs.drop f.offset).take (P.cellsOf f.type) ++ cs.drop (f.offset + P.cellsOf f.type) := by
      rw [← List.drop_drop]; exact (List.take_append_drop _ _).symm
    refine ⟨ds1 ++ ds2, by rw [hsplit]; exact g1.append h1, ?_, ⟨ds1, ds2, rfl, g3, h3⟩, by rw [dvBL_append]; simp [bulkWs]; omega⟩
    intro x hx
    rw [hsplit] at hx
    rcases List.mem_append.1 hx with hx | hx
    · exact g2 x hx
    · exact h2 x hx

theorem reads_rows {n fuel e : Nat} (ih : ∀ t cs d ps, okTy P n t = true → DataW.trod enc P w 0 sp held fuel t cs = some (d, ps) → Reads P w n t cs (bulkW d)) (hok : okTy P n e = true) (b o : Nat) :
    ∀ (elems : List (DataW H × List MemPlace)) (k : Nat), (∀ i, i < elems.length → (w.cells? 0 ⟨b, o + (k + i) * P.cellsOf e, none⟩ (P.cellsOf e)).bind (DataW.trod enc P w 0 sp held fuel e) = elems[i]?) →
    ∃ rows, rows.length = elems.length ∧ RepRows w NoM rows b (o + k * P.cellsOf e) (P.cellsOf e) ∧ (∀ r ∈ rows, WT P n e r) ∧ dvBR rows ≤ bulkWs (elems.map (·.1))
  | [], k, h => ⟨[], rfl, by simp [RepRows], by simp, by simp [dvBR]⟩
  | y :: elems, k, h => by
    have h0 := h 0 (by simp)
    simp only [Nat.add_zero, List.getElem?_cons_zero] at h0
    cases hc : w.cells? 0 ⟨b, o + k * P.cellsOf e, none⟩ (P.cellsOf e) with
    | none => simp [hc] at h0
    | some vs =>
      simp only [hc, Option.bind_some] at h0
      obtain ⟨hl, hcell⟩ := cells_get hc
      obtain ⟨ds, g1, g2, g3, g4⟩ := ih e vs y.1 y.2 hok h0
      obtain ⟨rows, r1, r2, r3, r4⟩ := reads_rows ih hok b o elems (k + 1) (fun i hi => by
        have := h (i + 1) (by simp only [List.length_cons]; omega)
        rw [show k + 1 + i = k + (i + 1) by omega]; simpa using this)
      have hlen := g1.length
      refine ⟨ds :: rows, by simp [r1], ?_, by simpa using ⟨g3, r3⟩, by simp only [dvBR, List.map_cons, bulkWs]; omega⟩
      unfold RepRows
      refine ⟨by omega, ?_, ?_⟩
      · rw [RepAt.iff]
        intro i c hi
        obtain ⟨v, hv, hr⟩ := g1.get hi
        have := hcell i v hv
        rw [addr_add] at this
        exact ⟨v, this, g2 v (List.mem_of_getElem? hv), hr⟩
      · rw [show o + k * P.cellsOf e + P.cellsOf e = o + (k + 1) * P.cellsOf e by rw [Nat.add_mul]; omega]; exact r2

theorem trod_reads : ∀ (fuel n : Nat) (t : TypeId) (cs : List Value) (d : DataW H) (ps : List MemPlace), okTy P n t = true → DataW.trod enc P w 0 sp held fuel t cs = some (d, ps) → Reads P w n t cs (bulkW d)
  | 0, n, t, cs, d, ps, hok, h => by simp [DataW.trod] at h
  | fuel + 1, 0, t, cs, d, ps, hok, h => by simp [okTy] at hok
  | fuel + 1, n + 1, t, cs, d, ps, hok, h => by
    have one : ∀ (c : DV) (v : Value) (b : Nat), Rep w NoM c v → v.oneCell' = true → WT P (n + 1) t [c] → dvB c ≤ b → Reads P w (n + 1) t [v] b := fun c v b h1 h2 h3 h4 =>
      ⟨[c], RepL.one h1, by simpa using h2, h3, by simpa [dvBL] using h4⟩
    have ih : ∀ t cs d ps, okTy P n t = true → DataW.trod enc P w 0 sp held fuel t cs = some (d, ps) → Reads P w n t cs (bulkW d) := fun t cs d ps => trod_reads fuel n t cs d ps
    simp only [okTy] at hok
    cases hu : P.underlying t with
    | none => simp [hu] at hok
    | some td =>
      cases td with
      | bool =>
        obtain ⟨b, rfl, hx⟩ := DataW.trod_bool hu h
        simp only [Prod.mk.injEq] at hx
        obtain ⟨rfl, rfl⟩ := hx
        exact one (.bool b) _ _ (by simp [Rep]) rfl (by simp only [WT, hu]; exact ⟨b, rfl⟩) (by simp [dvB, bulkW])
      | int k =>
        obtain ⟨m, rfl, hx, hwf⟩ := DataW.trod_int hu h
        simp only [Prod.mk.injEq] at hx
        obtain ⟨rfl, rfl⟩ := hx
        exact one (.int k m) _ _ (by simp [Rep]) rfl (by simp only [WT, hu]; exact ⟨m, rfl, hwf⟩) (by simp [dvB, bulkW])
      | string =>
        obtain ⟨s, rfl, hx, hle⟩ := DataW.trod_string hu h
        simp only [Prod.mk.injEq] at hx
        obtain ⟨rfl, rfl⟩ := hx
        have hs : s = ⟨s.data.toList.toArray⟩ := (Lib.mk_data s).symm
        have hsz : s.data.toList.length = s.size := by rw [Lib.size_eq]
        exact one (.str s.data.toList) _ _ (by unfold Rep; exact congrArg Value.string hs) rfl (by simp only [WT, hu]; exact ⟨_, rfl, by omega⟩) (by simp [dvB, bulkW])
      | slice e =>
        simp only [hu, Bool.and_eq_true, decide_eq_true_eq] at hok
        obtain ⟨hpos, hok⟩ := hok
        rcases DataW.trod_slice hu h with ⟨rfl, hx⟩ | ⟨a, len, cap, elems, rest, n', hn', rfl, hx, _, hlc, hcm, hel, hget, _, _⟩
        · simp only [Prod.mk.injEq] at hx
          obtain ⟨rfl, rfl⟩ := hx
          refine one (.slice []) _ _ ?_ rfl (by simp only [WT, hu]; exact ⟨[], rfl, by simp, by simp⟩) (by simp [dvB, dvBR, bulkW])
          unfold Rep
          exact ⟨none, 0, rfl, Nat.le_refl _, fun _ => rfl, .inl rfl⟩
        · simp only [Prod.mk.injEq] at hx
          obtain ⟨rfl, rfl⟩ := hx
          have hn'' : n' = fuel := by omega
          subst hn''
          by_cases hl0 : len = 0
          · subst hl0
            have : elems = [] := List.length_eq_zero_iff.1 hel
            subst this
            refine one (.slice []) _ _ ?_ rfl (by simp only [WT, hu]; exact ⟨[], rfl, by simp, by simp⟩) (by simp [dvB, dvBR, bulkW])
            unfold Rep
            exact ⟨some a, cap, rfl, Nat.zero_le _, by simp, .inl rfl⟩
          · -- the address is a plain one
            have hspot : a.spot = none := by
              have h0 := hget 0 (by omega)
              simp only [Nat.zero_mul] at h0
              have e0 : a.add 0 = a := by simp [Addr.add]
              rw [e0] at h0
              cases hc : w.cells? 0 a (P.cellsOf e) with
              | none =>
                simp only [hc, Option.bind_none] at h0
                rw [List.getElem?_eq_getElem (by omega)] at h0
                cases h0
              | some vs =>
                obtain ⟨hl, hcell⟩ := cells_get hc
                obtain ⟨v, hv⟩ : ∃ v, vs[0]? = some v := ⟨_, List.getElem?_eq_getElem (by omega)⟩
                have := hcell 0 v hv
                rw [e0] at this
                unfold World.cell? at this
                split at this
                · split at this
                  · cases this
                  · rename_i hs; simpa using hs
                · cases this
            obtain ⟨b, o, spt⟩ := a
            simp only at hspot
            subst hspot
            obtain ⟨rows, r1, r2, r3, r4⟩ := reads_rows ih hok b o elems 0 (fun i hi => by
              have := hget i (by omega)
              rw [addr_add] at this
              simpa using this)
            simp only [Nat.zero_mul, Nat.add_zero] at r2
            have hb : b < w.heap.size := by
              have hne : rows ≠ [] := fun e => by subst e; simp at r1; omega
              obtain ⟨r, rs, rfl⟩ := List.exists_cons_of_ne_nil hne
              unfold RepRows at r2
              obtain ⟨h1, h2, _⟩ := r2
              rw [RepAt.iff] at h2
              obtain ⟨c, hc⟩ : ∃ c, r[0]? = some c := ⟨_, List.getElem?_eq_getElem (by omega)⟩
              obtain ⟨v, hv, _⟩ := h2 0 c hc
              exact World.block_lt_of_cell? w _ hv
            refine one (.slice rows) _ _ ?_ rfl (by simp only [WT, hu]; exact ⟨rows, rfl, by omega, r3⟩) (by simp only [dvB, bulkW]; omega)
            unfold Rep
            exact ⟨some ⟨b, o, none⟩, cap, by rw [r1, hel], by omega, by simp, .inr ⟨b, o, P.cellsOf e, rfl, fun h => h, hb, r2⟩⟩
      | struct fs =>
        simp only [hu, Bool.and_eq_true] at hok
        obtain ⟨xs, n', hn', hx, hl, hxl, hget⟩ := DataW.trod_struct hu h
        simp only [Prod.mk.injEq] at hx
        obtain ⟨rfl, rfl⟩ := hx
        have hn'' : n' = fuel := by omega
        subst hn''
        obtain ⟨ds, h1, h2, h3, h4⟩ := reads_fields ih cs fs.toList 0 xs (by rw [hl]; exact hok.1) hok.2 (by simpa using hxl) (fun i f hf => hget i f (by simpa using hf))
        simp only [List.drop_zero] at h1 h2
        exact ⟨ds, h1, h2, by simp only [WT, hu]; exact h3, by simp only [bulkW]; omega⟩
      | _ => simp [hu] at hok

/-- A struct by value: the value is an aggregate of such cells; any other value is one cell. -/
theorem trod_arg {n : Nat} {t : TypeId} {v : Value} {d : DataW H} {ps : List MemPlace} (hok : okTy P n t = true) (h : DataW.Trod enc P w 0 sp held t v d ps) : ∃ ds, WT P n t ds ∧ dvBL ds ≤ bulkW d ∧ RepL w NoM ds v.cells.toList ∧ (∀ x ∈ v.cells.toList, x.oneCell' = true) := by
  obtain ⟨fuel, h⟩ := h
  obtain ⟨ds, h1, h2, h3, h4⟩ := trod_reads fuel n t _ d ps hok h
  exact ⟨ds, h3, h4, h1, h2⟩

theorem okWide_agg {W : World} {base : Nat} {t : TypeId} {fs : Array Field} {v : Value} (ht : P.underlying t = some (.struct fs)) (h : Value.okWide P W .any base t v) : ∃ vs, v = .agg vs := by
  unfold Value.okWide at h
  simp only [ht] at h
  obtain ⟨cs, h, _⟩ := h
  exact ⟨cs, h⟩

theorem arg_agg {M : Nat → Prop} {v : Value} {vs : Array Value} {ds : List DV} (hv : v = .agg vs) (h : RepL w M ds v.cells.toList) (h1 : ∀ x ∈ v.cells.toList, x.oneCell' = true) : Rep w M (.agg ds) v := by
  subst hv
  unfold Rep
  exact ⟨vs.toList, by simp, h1, h⟩

theorem arg_one {M : Nat → Prop} {v : Value} {c : DV} (hv : ∀ vs, v ≠ .agg vs) (h : RepL w M [c] v.cells.toList) : Rep w M c v := by
  have : v.cells = #[v] := by
    cases v with
    | agg vs => exact absurd rfl (hv vs)
    | _ => rfl
  rw [this] at h
  simp only [RepL] at h
  obtain ⟨u, us, he, hr, _⟩ := h
  simp at he
  rw [he.1]; exact hr
end
end Go.Proofs.YtcnohbiegjahkaaGreatDoor

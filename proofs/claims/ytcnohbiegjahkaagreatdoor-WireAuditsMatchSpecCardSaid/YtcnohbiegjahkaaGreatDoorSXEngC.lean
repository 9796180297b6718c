/-
  The engine, part C: small facts on readings of lists of cells.
-/
import Derived.Test.YtcnohbiegjahkaaGreatDoorSXEngB
namespace Go.Proofs.YtcnohbiegjahkaaGreatDoor
set_option linter.unusedSimpArgs false
set_option linter.unusedVariables false
open Go.RowKit

section
variable {w : World} {M : Nat → Prop} {κ : Nat → Value}

theorem RepL.length : ∀ {cs : List DV} {vs : List Value}, RepL w M cs vs → vs.length = cs.length
  | [], vs, h => by unfold RepL at h; simp [h]
  | c :: cs, vs, h => by
    unfold RepL at h
    obtain ⟨u, us, rfl, _, h2⟩ := h
    simp [RepL.length h2]

theorem RepSL.length : ∀ {cs : List SV} {vs : List Value}, RepSL w M κ cs vs → vs.length = cs.length
  | [], vs, h => by unfold RepSL at h; simp [h]
  | c :: cs, vs, h => by
    unfold RepSL at h
    obtain ⟨u, us, rfl, _, h2⟩ := h
    simp [RepSL.length h2]

theorem RepL.get : ∀ {cs : List DV} {vs : List Value}, RepL w M cs vs → ∀ {i : Nat} {c : DV}, cs[i]? = some c → ∃ v, vs[i]? = some v ∧ Rep w M c v
  | [], vs, h, i, c, hc => by simp at hc
  | x :: cs, vs, h, i, c, hc => by
    unfold RepL at h
    obtain ⟨u, us, rfl, h1, h2⟩ := h
    cases i with
    | zero => simp at hc; subst hc; exact ⟨u, by simp, h1⟩
    | succ i => simp at hc; simpa using RepL.get h2 hc

theorem RepSL.get : ∀ {cs : List SV} {vs : List Value}, RepSL w M κ cs vs → ∀ {i : Nat} {c : SV}, cs[i]? = some c → ∃ v, vs[i]? = some v ∧ RepS w M κ c v
  | [], vs, h, i, c, hc => by simp at hc
  | x :: cs, vs, h, i, c, hc => by
    unfold RepSL at h
    obtain ⟨u, us, rfl, h1, h2⟩ := h
    cases i with
    | zero => simp at hc; subst hc; exact ⟨u, by simp, h1⟩
    | succ i => simp at hc; simpa using RepSL.get h2 hc

theorem RepL.mk : ∀ {cs : List DV} {vs : List Value}, vs.length = cs.length → (∀ (i : Nat) (c : DV) (v : Value), cs[i]? = some c → vs[i]? = some v → Rep w M c v) → RepL w M cs vs
  | [], vs, hl, _ => by unfold RepL; exact List.length_eq_zero_iff.1 (by simpa using hl)
  | x :: cs, [], hl, _ => by simp at hl
  | x :: cs, v :: vs, hl, h => by
    unfold RepL
    exact ⟨v, vs, rfl, h 0 x v (by simp) (by simp), RepL.mk (by simpa using hl) fun i c u hc hu => h (i + 1) c u (by simpa using hc) (by simpa using hu)⟩

theorem RepSL.mk : ∀ {cs : List SV} {vs : List Value}, vs.length = cs.length → (∀ (i : Nat) (c : SV) (v : Value), cs[i]? = some c → vs[i]? = some v → RepS w M κ c v) → RepSL w M κ cs vs
  | [], vs, hl, _ => by unfold RepSL; exact List.length_eq_zero_iff.1 (by simpa using hl)
  | x :: cs, [], hl, _ => by simp at hl
  | x :: cs, v :: vs, hl, h => by
    unfold RepSL
    exact ⟨v, vs, rfl, h 0 x v (by simp) (by simp), RepSL.mk (by simpa using hl) fun i c u hc hu => h (i + 1) c u (by simpa using hc) (by simpa using hu)⟩

theorem RepL.append {cs ds : List DV} {vs us : List Value} (h : RepL w M cs vs) (k : RepL w M ds us) : RepL w M (cs ++ ds) (vs ++ us) := by
  induction cs generalizing vs with
  | nil => unfold RepL at h; subst h; simpa using k
  | cons c cs ih =>
    unfold RepL at h
    obtain ⟨u, us', rfl, h1, h2⟩ := h
    show RepL w M (c :: (cs ++ ds)) _
    unfold RepL
    exact ⟨u, us' ++ us, rfl, h1, ih h2⟩

theorem RepSL.append {cs ds : List SV} {vs us : List Value} (h : RepSL w M κ cs vs) (k : RepSL w M κ ds us) : RepSL w M κ (cs ++ ds) (vs ++ us) := by
  induction cs generalizing vs with
  | nil => unfold RepSL at h; subst h; simpa using k
  | cons c cs ih =>
    unfold RepSL at h
    obtain ⟨u, us', rfl, h1, h2⟩ := h
    show RepSL w M κ (c :: (cs ++ ds)) _
    unfold RepSL
    exact ⟨u, us' ++ us, rfl, h1, ih h2⟩

theorem RepL.take {cs : List DV} {vs : List Value} (h : RepL w M cs vs) (n : Nat) : RepL w M (cs.take n) (vs.take n) :=
  RepL.mk (by simp [h.length]) fun i c v hc hv => by
    simp only [List.getElem?_take] at hc hv
    split at hc
    · rename_i hi
      obtain ⟨u, hu, hr⟩ := h.get hc
      simp only [hi, if_true] at hv
      rw [hu] at hv; simp at hv; subst hv; exact hr
    · simp at hc

theorem RepL.drop {cs : List DV} {vs : List Value} (h : RepL w M cs vs) (n : Nat) : RepL w M (cs.drop n) (vs.drop n) :=
  RepL.mk (by simp [h.length]) fun i c v hc hv => by
    simp only [List.getElem?_drop] at hc hv
    obtain ⟨u, hu, hr⟩ := h.get hc
    rw [hu] at hv; simp at hv; subst hv; exact hr

theorem RepSL.take {cs : List SV} {vs : List Value} (h : RepSL w M κ cs vs) (n : Nat) : RepSL w M κ (cs.take n) (vs.take n) :=
  RepSL.mk (by simp [h.length]) fun i c v hc hv => by
    simp only [List.getElem?_take] at hc hv
    split at hc
    · rename_i hi
      obtain ⟨u, hu, hr⟩ := h.get hc
      simp only [hi, if_true] at hv
      rw [hu] at hv; simp at hv; subst hv; exact hr
    · simp at hc

theorem RepSL.drop {cs : List SV} {vs : List Value} (h : RepSL w M κ cs vs) (n : Nat) : RepSL w M κ (cs.drop n) (vs.drop n) :=
  RepSL.mk (by simp [h.length]) fun i c v hc hv => by
    simp only [List.getElem?_drop] at hc hv
    obtain ⟨u, hu, hr⟩ := h.get hc
    rw [hu] at hv; simp at hv; subst hv; exact hr

theorem RepSL.of_d {cs : List DV} {vs : List Value} (h : RepL w M cs vs) : RepSL w M κ (cs.map .d) vs := by
  induction cs generalizing vs with
  | nil => unfold RepL at h; unfold RepSL; exact h
  | cons c cs ih =>
    unfold RepL at h
    obtain ⟨u, us', rfl, h1, h2⟩ := h
    show RepSL w M κ (.d c :: cs.map .d) _
    unfold RepSL RepS
    exact ⟨u, us', rfl, h1, ih h2⟩

theorem RepAt.iff : ∀ {cs : List DV} {b o : Nat}, RepAt w M cs b o ↔ ∀ (i : Nat) (c : DV), cs[i]? = some c → ∃ v, w.cell? ⟨b, o + i, none⟩ = some v ∧ v.oneCell' = true ∧ Rep w M c v
  | [], b, o => by unfold RepAt; simp
  | c :: cs, b, o => by
    unfold RepAt
    rw [RepAt.iff]
    constructor
    · rintro ⟨h1, h2⟩ i x hx
      cases i with
      | zero => simp at hx; subst hx; simpa using h1
      | succ i =>
        have := h2 i x (by simpa using hx)
        rwa [show o + 1 + i = o + (i + 1) by omega] at this
    · intro h
      refine ⟨by simpa using h 0 c (by simp), fun i x hx => ?_⟩
      have := h (i + 1) x (by simpa using hx)
      rwa [show o + (i + 1) = o + 1 + i by omega] at this

theorem RepAt.cons {c : DV} {cs : List DV} {b o : Nat} : RepAt w M (c :: cs) b o ↔ (∃ v, w.cell? ⟨b, o, none⟩ = some v ∧ v.oneCell' = true ∧ Rep w M c v) ∧ RepAt w M cs b (o + 1) := by simp only [RepAt]

theorem RepAt.append {cs ds : List DV} {b o : Nat} : RepAt w M (cs ++ ds) b o ↔ RepAt w M cs b o ∧ RepAt w M ds b (o + cs.length) := by
  induction cs generalizing o with
  | nil => simp [RepAt]
  | cons c cs ih =>
    show RepAt w M (c :: (cs ++ ds)) b o ↔ _
    rw [RepAt.cons, RepAt.cons, ih, and_assoc, show o + 1 + cs.length = o + (c :: cs).length by simp; omega]

theorem RepRows.iff : ∀ {rs : List (List DV)} {b o sz : Nat}, RepRows w M rs b o sz ↔ (∀ r ∈ rs, r.length = sz) ∧ RepAt w M rs.flatten b o
  | [], b, o, sz => by simp [RepRows, RepAt]
  | r :: rs, b, o, sz => by
    unfold RepRows
    rw [RepRows.iff, List.flatten_cons, RepAt.append]
    constructor
    · rintro ⟨rfl, h2, h3, h4⟩
      exact ⟨by simpa using h3, h2, h4⟩
    · rintro ⟨h1, h2, h3⟩
      have := h1 r (by simp)
      subst this
      exact ⟨rfl, h2, fun r' hr' => h1 r' (by simp [hr']), h3⟩

theorem RepAt.drop {cs : List DV} {b o : Nat} (h : RepAt w M cs b o) (n : Nat) : RepAt w M (cs.drop n) b (o + n) := by
  rw [RepAt.iff] at *
  intro i c hc
  rw [List.getElem?_drop] at hc
  have := h _ _ hc
  rwa [show o + (n + i) = o + n + i by omega] at this

/-- The values in cells that read as a list. -/
theorem RepAt.values {cs : List DV} {b o : Nat} (h : RepAt w M cs b o) : ∃ vs : List Value, RepL w M cs vs ∧ (∀ x ∈ vs, x.oneCell' = true) ∧ ∀ j v, vs[j]? = some v → w.cell? ⟨b, o + j, none⟩ = some v := by
  induction cs generalizing o with
  | nil => exact ⟨[], by unfold RepL; rfl, by simp, by simp⟩
  | cons c cs ih =>
    unfold RepAt at h
    obtain ⟨⟨v, hv, h1, hr⟩, h2⟩ := h
    obtain ⟨vs, hl, ho, hc⟩ := ih h2
    refine ⟨v :: vs, by unfold RepL; exact ⟨v, vs, rfl, hr, hl⟩, by simpa using ⟨h1, ho⟩, fun j u hj => ?_⟩
    cases j with
    | zero => simp at hj; subst hj; simpa using hv
    | succ j =>
      have := hc j u (by simpa using hj)
      rwa [show o + 1 + j = o + (j + 1) by omega] at this

theorem RepAt.of_row {cs : List DV} {b o : Nat} {arr : Array Value} {T : TypeId} {fz : Nat × Nat} {vs : List Value} (hb : w.heap[b]? = some (.cells arr T fz)) (hl : RepL w M cs vs) (h1 : ∀ x ∈ vs, x.oneCell' = true)
    (hv : ∀ j v, vs[j]? = some v → arr[o + j]? = some v) : RepAt w M cs b o := by
  rw [RepAt.iff]
  intro i c hc
  obtain ⟨v, hv', hr⟩ := hl.get hc
  exact ⟨v, by rw [cell_of_row w b _ arr T fz hb]; exact hv i v hv', h1 v (List.mem_of_getElem? hv'), hr⟩
end

theorem addr_add (b o n : Nat) : (⟨b, o, none⟩ : Addr).add n = ⟨b, o + n, none⟩ := by
  unfold Addr.add; split <;> simp_all

/-- The cells of a value. -/
def DV.cells? : DV → Option (List DV)
  | .agg cs => some cs
  | .int k n => some [.int k n]
  | .bool b => some [.bool b]
  | .str s => some [.str s]
  | .slice rows => some [.slice rows]
  | .ptr cs => some [.ptr cs]
  | .fn f caps => some [.fn f caps]
  | .tup _ => none
  | .raw _ => none
  | .map _ _ => none
  | .err => none
  | .any => none

def SV.cells? : SV → Option (List SV)
  | .d v => match v.cells? with | some cs => some (cs.map .d) | none => none
  | .nils => some [.nils]
  | .agg cs => some cs
  | .ref id off => some [.ref id off]
  | .vec id => some [.vec id]
  | .vref id sz i off => some [.vref id sz i off]
  | .mp id => some [.mp id]
  | .lit sz n cs => some [.lit sz n cs]
  | .tup _ => none
  | .own _ _ => none

section
variable {w : World} {M : Nat → Prop} {κ : Nat → Value}

theorem RepL.one {c : DV} {v : Value} (h : Rep w M c v) : RepL w M [c] [v] := by
  simp only [RepL]; exact ⟨v, [], rfl, h, rfl⟩
theorem RepSL.one {c : SV} {v : Value} (h : RepS w M κ c v) : RepSL w M κ [c] [v] := by
  simp only [RepSL]; exact ⟨v, [], rfl, h, rfl⟩

theorem Rep.cells {d : DV} {v : Value} {cs : List DV} (h : Rep w M d v) (hc : d.cells? = some cs) : ∃ vs : List Value, v.cells = vs.toArray ∧ (∀ x ∈ vs, x.oneCell' = true) ∧ RepL w M cs vs := by
  cases d with
  | agg cs' =>
    simp only [DV.cells?, Option.some.injEq] at hc; subst hc
    unfold Rep at h
    obtain ⟨vs, rfl, h1, h2⟩ := h
    exact ⟨vs, rfl, h1, h2⟩
  | tup _ => simp [DV.cells?] at hc
  | raw _ => simp [DV.cells?] at hc
  | map _ _ => simp [DV.cells?] at hc
  | any => simp [DV.cells?] at hc
  | err => simp [DV.cells?] at hc
  | int k n =>
    simp only [DV.cells?, Option.some.injEq] at hc; subst hc
    refine ⟨[v], ?_, ?_, RepL.one h⟩ <;> (unfold Rep at h; subst h; simp [Value.cells, Value.oneCell'])
  | bool b =>
    simp only [DV.cells?, Option.some.injEq] at hc; subst hc
    refine ⟨[v], ?_, ?_, RepL.one h⟩ <;> (unfold Rep at h; subst h; simp [Value.cells, Value.oneCell'])
  | str s =>
    simp only [DV.cells?, Option.some.injEq] at hc; subst hc
    refine ⟨[v], ?_, ?_, RepL.one h⟩ <;> (unfold Rep at h; subst h; simp [Value.cells, Value.oneCell'])
  | slice rows =>
    simp only [DV.cells?, Option.some.injEq] at hc; subst hc
    refine ⟨[v], ?_, ?_, RepL.one h⟩ <;> (unfold Rep at h; obtain ⟨a, cap, rfl, _⟩ := h; simp [Value.cells, Value.oneCell'])
  | ptr cs' =>
    simp only [DV.cells?, Option.some.injEq] at hc; subst hc
    refine ⟨[v], ?_, ?_, RepL.one h⟩ <;> (unfold Rep at h; obtain ⟨a, cap, rfl, _⟩ := h; simp [Value.cells, Value.oneCell'])
  | fn f caps =>
    simp only [DV.cells?, Option.some.injEq] at hc; subst hc
    refine ⟨[v], ?_, ?_, RepL.one h⟩ <;> (unfold Rep at h; obtain ⟨vs, rfl, _⟩ := h; simp [Value.cells, Value.oneCell'])

theorem cells_one {v : Value} (h : v.oneCell' = true) : v.cells = [v].toArray := by
  cases v <;> simp_all [Value.cells, Value.oneCell']

theorem RepS.cells (hk : kOk κ) {x : SV} {v : Value} {cs : List SV} (h : RepS w M κ x v) (hc : x.cells? = some cs) : ∃ vs : List Value, v.cells = vs.toArray ∧ (∀ x ∈ vs, x.oneCell' = true) ∧ RepSL w M κ cs vs := by
  have one : v.oneCell' = true → cs = [x] → ∃ vs : List Value, v.cells = vs.toArray ∧ (∀ x ∈ vs, x.oneCell' = true) ∧ RepSL w M κ cs vs := fun h1 h2 => by
    subst h2
    exact ⟨[v], cells_one h1, by simpa using h1, RepSL.one h⟩
  cases x with
  | d y =>
    unfold SV.cells? at hc
    cases hy : y.cells? with
    | none => simp [hy] at hc
    | some ds =>
      simp only [hy, Option.some.injEq] at hc
      subst hc
      unfold RepS at h
      obtain ⟨vs, h1, h2, h3⟩ := h.cells hy
      exact ⟨vs, h1, h2, RepSL.of_d h3⟩
  | agg cs' =>
    simp only [SV.cells?, Option.some.injEq] at hc; subst hc
    unfold RepS at h
    obtain ⟨vs, rfl, h1, h2⟩ := h
    exact ⟨vs, rfl, h1, h2⟩
  | nils => simp only [SV.cells?, Option.some.injEq] at hc; refine one ?_ hc.symm; unfold RepS at h; subst h; rfl
  | ref id off => simp only [SV.cells?, Option.some.injEq] at hc; refine one ?_ hc.symm; unfold RepS at h; obtain ⟨b, _, rfl⟩ := h; rfl
  | lit sz n cs => simp only [SV.cells?, Option.some.injEq] at hc; refine one ?_ hc.symm; unfold RepS at h; obtain ⟨_, _, rfl, _⟩ := h; rfl
  | tup _ => simp [SV.cells?] at hc
  | own _ _ => simp [SV.cells?] at hc
  | vec id => simp only [SV.cells?, Option.some.injEq] at hc; refine one ?_ hc.symm; unfold RepS at h; subst h; exact hk id
  | vref id sz i off => simp only [SV.cells?, Option.some.injEq] at hc; refine one ?_ hc.symm; unfold RepS at h; obtain ⟨b, _, _, _, rfl⟩ := h; rfl
  | mp id => simp only [SV.cells?, Option.some.injEq] at hc; refine one ?_ hc.symm; unfold RepS at h; subst h; exact hk id

theorem RepGL.length : ∀ {cs : List SV} {vs : List Value} {F : List Nat}, RepGL w M κ cs vs F → vs.length = cs.length
  | [], vs, F, h => by unfold RepGL at h; simp [h]
  | c :: cs, vs, F, h => by
    unfold RepGL at h
    obtain ⟨u, us, F1, F2, rfl, _, _, h2⟩ := h
    simp [RepGL.length h2]

theorem RepGL.get : ∀ {cs : List SV} {vs : List Value} {F : List Nat}, RepGL w M κ cs vs F → ∀ {i : Nat} {c : SV}, cs[i]? = some c → ∃ v G, vs[i]? = some v ∧ RepG w M κ c v G
  | [], vs, F, h, i, c, hc => by simp at hc
  | x :: cs, vs, F, h, i, c, hc => by
    unfold RepGL at h
    obtain ⟨u, us, F1, F2, rfl, _, h1, h2⟩ := h
    cases i with
    | zero => simp at hc; subst hc; exact ⟨u, F1, by simp, h1⟩
    | succ i => simp at hc; simpa using RepGL.get h2 hc

theorem RepGL.append {cs ds : List SV} {vs us : List Value} {F G : List Nat} (h : RepGL w M κ cs vs F) (k : RepGL w M κ ds us G) : RepGL w M κ (cs ++ ds) (vs ++ us) (F ++ G) := by
  induction cs generalizing vs F with
  | nil => unfold RepGL at h; obtain ⟨rfl, rfl⟩ := h; simpa using k
  | cons c cs ih =>
    unfold RepGL at h
    obtain ⟨u, us', F1, F2, rfl, rfl, h1, h2⟩ := h
    show RepGL w M κ (c :: (cs ++ ds)) _ _
    unfold RepGL
    exact ⟨u, us' ++ us, F1, F2 ++ G, rfl, by simp, h1, ih h2⟩

theorem RepGL.split {cs ds : List SV} {vs : List Value} {F : List Nat} (h : RepGL w M κ (cs ++ ds) vs F) : ∃ F1 F2, F = F1 ++ F2 ∧ RepGL w M κ cs (vs.take cs.length) F1 ∧ RepGL w M κ ds (vs.drop cs.length) F2 := by
  induction cs generalizing vs F with
  | nil => exact ⟨[], F, rfl, by simp [RepGL], by simpa using h⟩
  | cons c cs ih =>
    rw [List.cons_append] at h
    unfold RepGL at h
    obtain ⟨u, us', F1, F2, rfl, rfl, h1, h2⟩ := h
    obtain ⟨G1, G2, rfl, h3, h4⟩ := ih h2
    refine ⟨F1 ++ G1, G2, by simp, ?_, by simpa using h4⟩
    simp only [List.length_cons, List.take_succ_cons]
    unfold RepGL
    exact ⟨u, _, F1, G1, rfl, rfl, h1, h3⟩

theorem RepGL.take {cs : List SV} {vs : List Value} {F : List Nat} (h : RepGL w M κ cs vs F) (n : Nat) : ∃ F1, F1.Sublist F ∧ RepGL w M κ (cs.take n) (vs.take n) F1 := by
  have hl := h.length
  rw [← List.take_append_drop n cs] at h
  obtain ⟨F1, F2, rfl, h1, h2⟩ := h.split
  refine ⟨F1, List.sublist_append_left _ _, ?_⟩
  by_cases hn : n ≤ cs.length
  · rw [List.length_take, show min n cs.length = n by omega] at h1; exact h1
  · rw [List.length_take, show min n cs.length = cs.length by omega] at h1
    rw [List.take_of_length_le (i := n) (l := vs) (by omega), List.take_of_length_le (i := n) (l := cs) (by omega)] at *
    rwa [List.take_of_length_le (by omega)] at h1

theorem RepGL.drop {cs : List SV} {vs : List Value} {F : List Nat} (h : RepGL w M κ cs vs F) (n : Nat) : ∃ F1, F1.Sublist F ∧ RepGL w M κ (cs.drop n) (vs.drop n) F1 := by
  have hl := h.length
  rw [← List.take_append_drop n cs] at h
  obtain ⟨F1, F2, rfl, h1, h2⟩ := h.split
  refine ⟨F2, List.sublist_append_right _ _, ?_⟩
  by_cases hn : n ≤ cs.length
  · rw [List.length_take, show min n cs.length = n by omega] at h2; exact h2
  · rw [List.drop_of_length_le (i := n) (l := vs) (by omega), List.drop_of_length_le (i := n) (l := cs) (by omega)] at *
    rw [List.length_take, show min n cs.length = cs.length by omega] at h2
    rwa [List.drop_of_length_le (by omega)] at h2

/-- Cells, of which some have been written anew. -/
theorem RepGL.splice {cs ns : List SV} {vs us : List Value} {F : List Nat} (h : RepGL w M κ cs vs F) (k : RepSL w M κ ns us) (off : Nat) : ∃ F1, F1.Sublist F ∧ RepGL w M κ (cs.take off ++ ns ++ cs.drop (off + ns.length)) (vs.take off ++ us ++ vs.drop (off + us.length)) F1 := by
  have hul := k.length
  have hl := h.length
  have key : ∃ F1 F2, (F1 ++ F2).Sublist F ∧ RepGL w M κ (cs.take off) (vs.take off) F1 ∧ RepGL w M κ (cs.drop (off + ns.length)) (vs.drop (off + us.length)) F2 := by
    rw [← List.take_append_drop off cs] at h
    obtain ⟨F1, F2, rfl, h1, h2⟩ := h.split
    obtain ⟨F3, h3, h4⟩ := h2.drop ns.length
    refine ⟨F1, F3, List.Sublist.append (List.Sublist.refl _) h3, ?_, ?_⟩
    · by_cases hn : off ≤ cs.length
      · rw [List.length_take, show min off cs.length = off by omega] at h1; exact h1
      · rw [List.length_take, show min off cs.length = cs.length by omega] at h1
        rw [List.take_of_length_le (i := off) (l := vs) (by omega)]
        rwa [List.take_of_length_le (l := vs) (by omega)] at h1
    · rw [List.drop_drop, List.drop_drop] at h4
      by_cases hn : off ≤ cs.length
      · rw [List.length_take, show min off cs.length = off by omega] at h4
        rw [hul]; exact h4
      · rw [List.drop_of_length_le (l := cs) (by omega)] at h4 ⊢
        rw [List.drop_of_length_le (l := vs) (by omega)]
        have := h4.length
        unfold RepGL at h4 ⊢
        exact ⟨rfl, h4.2⟩
  obtain ⟨F1, F2, h0, h1, h2⟩ := key
  refine ⟨F1 ++ F2, h0, ?_⟩
  have := (h1.append (RepGL.of_S _ _ k)).append h2
  simpa using this

theorem RepGL.one {c : SV} {v : Value} {F : List Nat} (h : RepG w M κ c v F) : RepGL w M κ [c] [v] F := by
  simp only [RepGL]; exact ⟨v, [], F, [], rfl, by simp, h, rfl, rfl⟩
end

end Go.Proofs.YtcnohbiegjahkaaGreatDoor

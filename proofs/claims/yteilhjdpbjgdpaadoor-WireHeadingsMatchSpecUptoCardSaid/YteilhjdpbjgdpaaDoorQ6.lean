/-
  Plain laws of the wire: how many bytes are marks.
-/
import Derived.Test.YteilhjdpbjgdpaaDoorQ5
import Derived.Test.YteilhjdpbjgdpaaDoorG3
namespace Go.Proofs.YteilhjdpbjgdpaaDoor
set_option linter.unusedSimpArgs false
set_option linter.unusedVariables false
open Go.RowKit

/-- Segments, then marks. -/
def bothF (l : List Tapi_Segment) (m : Tapi_Marks) : Int := if segsF l = 0 then marksF m else segsF l
theorem w_both (l : List Tapi_Segment) (m : Tapi_Marks) (hs : TagsShort l) : m_wire_checkBoth l m = some (bothF l m) := by
  unfold m_wire_checkBoth sims_G3_1_0; dsimp only
  simp only [w_segs l hs, w_marks, Option.bind_some, bothF]
  by_cases h : segsF l = 0 <;> simp [h]
theorem r_both (l : List Tapi_Segment) (m : Tapi_Marks) (hs : TagsShort l) : m_interchangeref2_both l m = some (bothF l m) := by
  unfold m_interchangeref2_both sims_G3_1_0; dsimp only
  simp only [r_segs l hs, r_marks, Option.bind_some, bothF]
  by_cases h : segsF l = 0 <;> simp [h]

def isM (m : Tapi_Marks) (b : UInt8) : Bool := decide ((b.toNat : Int) = (m.fElement.toNat : Int)) || decide ((b.toNat : Int) = (m.fPart.toNat : Int)) || decide ((b.toNat : Int) = (m.fRepeat.toNat : Int)) || decide ((b.toNat : Int) = (m.fEnd.toNat : Int)) || (!decide ((m.fEscape.toNat : Int) = 0) && decide ((b.toNat : Int) = (m.fEscape.toNat : Int)))
theorem w_isM (m : Tapi_Marks) (b : UInt8) : m_wire_isMark m b = some (isM m b) := by
  unfold m_wire_isMark sims_G3_0_0; dsimp only
  simp only [orO_some, andO_some, Option.bind_some, isM]
theorem r_isM (m : Tapi_Marks) (b : UInt8) : m_interchangeref2_isMark m b = some (isM m b) := by
  unfold m_interchangeref2_isMark sims_G3_0_0; dsimp only
  simp only [orO_some, andO_some, Option.bind_some, isM]
/-! ### Counts -/
def cntT (m : Tapi_Marks) (t : List UInt8) : Nat := t.countP (isM m)
def cntR (m : Tapi_Marks) (l : List (List UInt8)) : Nat := (l.map (cntT m)).sum
def cntE (m : Tapi_Marks) (x : Tapi_Element) : Nat := (x.fRepeats.map (cntR m)).sum
def cntS (m : Tapi_Marks) (s : Tapi_Segment) : Nat := (s.fElements.map (cntE m)).sum
def cntL (m : Tapi_Marks) (l : List Tapi_Segment) : Nat := (l.map (cntS m)).sum
theorem sum_le {α : Type} {c : α → Nat} {b : Nat} : ∀ {l : List α}, (∀ e ∈ l, c e ≤ b) → (l.map c).sum ≤ l.length * b
  | [], _ => by simp
  | x :: l, h => by
    have h1 := h x (by simp)
    have h2 := sum_le (l := l) (c := c) (b := b) fun e he => h e (by simp [he])
    simp only [List.map_cons, List.sum_cons, List.length_cons, Nat.add_mul, Nat.one_mul]
    omega
theorem sum_take {α : Type} {c : α → Nat} {l : List α} {i : Nat} {e : α} (h : l[i]? = some e) : ((l.take i ++ [e]).map c).sum = ((l.take i).map c).sum + c e := by simp
theorem sum_take_le {α : Type} (c : α → Nat) (l : List α) (i : Nat) : ((l.take i).map c).sum ≤ (l.map c).sum := by
  conv => rhs; rw [← List.take_append_drop i l, List.map_append, List.sum_append]
  omega
theorem sum_take_le1 {α : Type} {c : α → Nat} {l : List α} {i : Nat} {e : α} (h : l[i]? = some e) : ((l.take i).map c).sum + c e ≤ (l.map c).sum := by
  have := sum_take_le c l (i + 1)
  rwa [take_snoc h, sum_take h] at this
/-- What right segments have at most. -/
theorem text_len {t : List UInt8} (h : textF t = 0) : t.length ≤ 1000 := by
  unfold textF at h
  split at h
  · cases h
  · omega
theorem rep_len {l : List (List UInt8)} (h : repF l = 0) : l.length ≤ 20 ∧ 0 < l.length ∧ ∀ t ∈ l, textF t = 0 := by
  unfold repF at h
  split at h
  · cases h
  · split at h
    · cases h
    · exact ⟨by omega, by omega, listF_zero h⟩
theorem elem_len {x : Tapi_Element} (h : elemF x = 0) : x.fRepeats.length ≤ 20 ∧ 0 < x.fRepeats.length ∧ ∀ t ∈ x.fRepeats, repF t = 0 := by
  unfold elemF at h
  split at h
  · cases h
  · split at h
    · cases h
    · exact ⟨by omega, by omega, listF_zero h⟩
theorem tag_len {t : List UInt8} (h : tagF t = true) : t.length ≤ 6 ∧ 2 ≤ t.length := by
  cases t with
  | nil => cases h
  | cons b t =>
    simp only [tagF, Bool.and_eq_true, decide_eq_true_eq] at h
    simp only [List.length_cons]
    omega
theorem seg_len {s : Tapi_Segment} (h : segF s = 0) : tagF s.fTag = true ∧ s.fTag.length ≤ 6 ∧ 2 ≤ s.fTag.length ∧ s.fElements.length ≤ 50 ∧ ∀ e ∈ s.fElements, elemF e = 0 := by
  unfold segF at h
  split at h
  · cases h
  · rename_i h1
    have h1 : tagF s.fTag = true := by simpa using h1
    split at h
    · cases h
    · exact ⟨h1, (tag_len h1).1, (tag_len h1).2, by omega, listF_zero h⟩
theorem segs_len {l : List Tapi_Segment} (h : segsF l = 0) : l.length ≤ 2000 ∧ ∀ s ∈ l, segF s = 0 := by
  unfold segsF at h
  split at h
  · cases h
  · exact ⟨by omega, listF_zero h⟩
theorem cntT_le (m : Tapi_Marks) (t : List UInt8) : cntT m t ≤ t.length := List.countP_le_length
theorem cntR_le {m : Tapi_Marks} {l : List (List UInt8)} (h : repF l = 0) : cntR m l ≤ 20000 := by
  obtain ⟨h1, -, h2⟩ := rep_len h
  have : cntR m l ≤ l.length * 1000 := sum_le fun t ht => Nat.le_trans (cntT_le m t) (text_len (h2 t ht))
  omega
theorem cntE_le {m : Tapi_Marks} {x : Tapi_Element} (h : elemF x = 0) : cntE m x ≤ 400000 := by
  obtain ⟨h1, -, h2⟩ := elem_len h
  have : cntE m x ≤ x.fRepeats.length * 20000 := sum_le fun t ht => cntR_le (h2 t ht)
  omega
theorem cntS_le {m : Tapi_Marks} {s : Tapi_Segment} (h : segF s = 0) : cntS m s ≤ 20000000 := by
  obtain ⟨-, -, -, h1, h2⟩ := seg_len h
  have : cntS m s ≤ s.fElements.length * 400000 := sum_le fun t ht => cntE_le (h2 t ht)
  omega
theorem cntL_le {m : Tapi_Marks} {l : List Tapi_Segment} (h : segsF l = 0) : cntL m l ≤ 40000000000 := by
  obtain ⟨h1, h2⟩ := segs_len h
  have : cntL m l ≤ l.length * 20000000 := sum_le fun t ht => cntS_le (h2 t ht)
  omega
/-! ### The program's counts -/
theorem w_needed (m : Tapi_Marks) (t : List UInt8) (ht : t.length < 4611686018427387904) : m_wire_needed m t = some ((cntT m t : Nat) : Int) := by
  unfold m_wire_needed sims_G3_1_0; dsimp only
  refine bind_loop (loop_pre (a := .inl (((cntT m t : Nat) : Int), ((t.length : Nat) : Int))) t (fun i pre => (((cntT m pre : Nat) : Int), ((i : Nat) : Int))) (fun i e he => ?_) ?_) ?_
  · have hi := get_le he
    have hc : cntT m (t.take i) ≤ i := by have := cntT_le m (t.take i); rw [take_len he] at this; exact this
    have hs : cntT m (t.take i ++ [e]) = cntT m (t.take i) + (if isM m e = true then 1 else 0) := by simp [cntT, List.countP_append, List.countP_singleton]
    simp only [lt_dec hi, cond_true, getI_nat, he, Option.bind_some, w_isM, wrapN i (by omega), wrapN (cntT m (t.take i)) (by omega), hs]
    cases isM m e <;> rfl
  · simp only [lt_dec_self, cond_false]; rfl
  · rfl
/-- A loop that adds up. -/
theorem loop_sum {α A : Type} (l : List α) (c : α → Nat) (n0 B : Nat) {f : Int × Int → Option (Int × Int ⊕ (Int × Int ⊕ A))} (hB : n0 + (l.map c).sum ≤ B)
    (hb : ∀ (i : Nat) (e : α) (n : Nat), l[i]? = some e → n + c e ≤ B → f ((n : Int), (i : Int)) = some (.inl (((n + c e : Nat) : Int), ((i + 1 : Nat) : Int))))
    (he : ∀ (n : Nat), f ((n : Int), (l.length : Int)) = some (.inr (.inl ((n : Int), (l.length : Int))))) : loopC f ((n0 : Int), 0) = some (.inl (((n0 + (l.map c).sum : Nat) : Int), (l.length : Int))) := by
  have := loop_pre (f := f) (a := .inl (((n0 + (l.map c).sum : Nat) : Int), (l.length : Int))) l (fun i pre => (((n0 + (pre.map c).sum : Nat) : Int), ((i : Nat) : Int))) (fun i e h => ?_) (he _)
  · simpa using this
  · have h1 := sum_take_le1 (c := c) h
    rw [hb i e _ h (by omega), sum_take h, Nat.add_assoc]
theorem w_escapes (l : List Tapi_Segment) (m : Tapi_Marks) (h : segsF l = 0) : m_wire_escapes l m = some ((cntL m l : Nat) : Int) := by
  unfold m_wire_escapes sims_G3_2_0; dsimp only
  obtain ⟨hl, hs⟩ := segs_len h
  have hB : 0 + (l.map (cntS m)).sum ≤ 40000000000 := by have := cntL_le (m := m) h; unfold cntL at this; omega
  refine (bind_loop (loop_sum l (cntS m) 0 40000000000 hB (fun i s n hi hn => ?_) (fun n => ?_)) ?_)
  · have hi' := get_le hi
    have hsz := hs s (List.mem_of_getElem? hi)
    obtain ⟨-, -, -, he, hes⟩ := seg_len hsz
    simp only [lt_dec hi', cond_true, getI_nat, hi, Option.bind_some, wrapN i (by omega)]
    refine bind_loop (loop_sum s.fElements (cntE m) n 40000000000 hn (fun i2 x n2 hi2 hn2 => ?_) (fun n => ?_)) ?_
    · have hi2' := get_le hi2
      obtain ⟨hr, -, hrs⟩ := elem_len (hes x (List.mem_of_getElem? hi2))
      simp only [lt_dec hi2', cond_true, getI_nat, hi2, Option.bind_some, wrapN i2 (by omega)]
      refine bind_loop (loop_sum x.fRepeats (cntR m) n2 40000000000 hn2 (fun i3 p n3 hi3 hn3 => ?_) (fun n => ?_)) ?_
      · have hi3' := get_le hi3
        obtain ⟨hp, -, hps⟩ := rep_len (hrs p (List.mem_of_getElem? hi3))
        simp only [lt_dec hi3', cond_true, getI_nat, hi3, Option.bind_some, wrapN i3 (by omega)]
        refine bind_loop (loop_sum p (cntT m) n3 40000000000 hn3 (fun i4 t n4 hi4 hn4 => ?_) (fun n => ?_)) ?_
        · have hi4' := get_le hi4
          have ht := text_len (hps t (List.mem_of_getElem? hi4))
          have hw : IntKind.i64.wrap ((n4 : Int) + ((cntT m t : Nat) : Int)) = ((n4 + cntT m t : Nat) : Int) := by rw [wrap64 _ (by omega) (by omega)]; simp
          simp only [lt_dec hi4', cond_true, getI_nat, hi4, Option.bind_some, wrapN i4 (by omega), w_needed m t (by omega), hw]
        · simp only [lt_dec_self, cond_false]; rfl
        · rfl
      · simp only [lt_dec_self, cond_false]; rfl
      · rfl
    · simp only [lt_dec_self, cond_false]; rfl
    · rfl
  · simp only [lt_dec_self, cond_false]; rfl
  · simp only [outK, cntL, Nat.zero_add]
end Go.Proofs.YteilhjdpbjgdpaaDoor

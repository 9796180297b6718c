/-
  Plain laws of the wire: how many bytes are marks.
-/
import Derived.Test.YteilhjdpbjgdpaaDoorBQ5
import Derived.Test.YteilhjdpbjgdpaaDoorBG3
namespace Go.Proofs.YteilhjdpbjgdpaaDoor
set_option linter.unusedSimpArgs false
set_option linter.unusedVariables false
open Go.RowKit

/-- Segments, then marks. -/
def bothF (l : List Tapi_Segment) (m : Tapi_Marks) : Int := if segsF l = 0 then marksF m else segsF l
theorem w_both (l : List Tapi_Segment) (m : Tapi_Marks) (hs : TagsShort l) : m_wire_checkBoth l m = some (bothF l m) := by
  unfold m_wire_checkBoth sims_G3_1_0; dsimp only
  simp only [w_segs l hs, w_marks, Option.bind_some, bothF]
  by_cases h : segsF l = 0 <;> simp [h]
def isM (m : Tapi_Marks) (b : UInt8) : Bool := decide ((b.toNat : Int) = (m.fElement.toNat : Int)) || decide ((b.toNat : Int) = (m.fPart.toNat : Int)) || decide ((b.toNat : Int) = (m.fRepeat.toNat : Int)) || decide ((b.toNat : Int) = (m.fEnd.toNat : Int)) || (!decide ((m.fEscape.toNat : Int) = 0) && decide ((b.toNat : Int) = (m.fEscape.toNat : Int)))
theorem w_isM (m : Tapi_Marks) (b : UInt8) : m_wire_isMark m b = some (isM m b) := by
  unfold m_wire_isMark sims_G3_0_0; dsimp only
  simp only [orO_some, andO_some, Option.bind_some, isM]
/-! ### Counts -/
def cntT (m : Tapi_Marks) (t : List UInt8) : Nat := t.countP (isM m)
def cntR (m : Tapi_Marks) (l : List (List UInt8)) : Nat := (l.map (cntT m)).sum
def cntE (m : Tapi_Marks) (x : Tapi_Element) : Nat := (x.fRepeats.map (cntR m)).sum
def cntS (m : Tapi_Marks) (s : Tapi_Segment) : Nat := (s.fElements.map (cntE m)).sum
def cntL (m : Tapi_Marks) (l : List Tapi_Segment) : Nat := (l.map (cntS m)).sum
theorem sum_take {α : Type} {c : α → Nat} {l : List α} {i : Nat} {e : α} (h : l[i]? = some e) : ((l.take i ++ [e]).map c).sum = ((l.take i).map c).sum + c e := by simp
/-- What right segments have at most. -/
theorem text_len {t : List UInt8} (h : textF t = 0) : t.length ≤ 1000 := by
  unfold textF at h
  split at h
  · cases h
  · omega
theorem rep_len {l : List (List UInt8)} (h : repF l = 0) : l.length ≤ 20 ∧ 0 < l.length ∧ ∀ t ∈ l, textF t = 0 := by
  unfold repF at h
  split at h
  · cases h
  · split at h
    · cases h
    · exact ⟨by omega, by omega, listF_zero h⟩
theorem elem_len {x : Tapi_Element} (h : elemF x = 0) : x.fRepeats.length ≤ 20 ∧ 0 < x.fRepeats.length ∧ ∀ t ∈ x.fRepeats, repF t = 0 := by
  unfold elemF at h
  split at h
  · cases h
  · split at h
    · cases h
    · exact ⟨by omega, by omega, listF_zero h⟩
theorem tag_len {t : List UInt8} (h : tagF t = true) : t.length ≤ 6 ∧ 2 ≤ t.length := by
  cases t with
  | nil => cases h
  | cons b t =>
    simp only [tagF, Bool.and_eq_true, decide_eq_true_eq] at h
    simp only [List.length_cons]
    omega
theorem seg_len {s : Tapi_Segment} (h : segF s = 0) : tagF s.fTag = true ∧ s.fTag.length ≤ 6 ∧ 2 ≤ s.fTag.length ∧ s.fElements.length ≤ 50 ∧ ∀ e ∈ s.fElements, elemF e = 0 := by
  unfold segF at h
  split at h
  · cases h
  · rename_i h1
    have h1 : tagF s.fTag = true := by simpa using h1
    split at h
    · cases h
    · exact ⟨h1, (tag_len h1).1, (tag_len h1).2, by omega, listF_zero h⟩
theorem segs_len {l : List Tapi_Segment} (h : segsF l = 0) : l.length ≤ 2000 ∧ ∀ s ∈ l, segF s = 0 := by
  unfold segsF at h
  split at h
  · cases h
  · exact ⟨by omega, listF_zero h⟩
theorem cntT_le (m : Tapi_Marks) (t : List UInt8) : cntT m t ≤ t.length := List.countP_le_length
/-! ### The program's counts -/
theorem w_needed (m : Tapi_Marks) (t : List UInt8) (ht : t.length < 4611686018427387904) : m_wire_needed m t = some ((cntT m t : Nat) : Int) := by
  unfold m_wire_needed sims_G3_1_0; dsimp only
  refine bind_loop (loop_pre (a := .inl (((cntT m t : Nat) : Int), ((t.length : Nat) : Int))) t (fun i pre => (((cntT m pre : Nat) : Int), ((i : Nat) : Int))) (fun i e he => ?_) ?_) ?_
  · have hi := get_le he
    have hc : cntT m (t.take i) ≤ i := by have := cntT_le m (t.take i); rw [take_len he] at this; exact this
    have hs : cntT m (t.take i ++ [e]) = cntT m (t.take i) + (if isM m e = true then 1 else 0) := by simp [cntT, List.countP_append, List.countP_singleton]
    simp only [lt_dec hi, cond_true, getI_nat, he, Option.bind_some, w_isM, wrapN i (by omega), wrapN (cntT m (t.take i)) (by omega), hs]
    cases isM m e <;> rfl
  · simp only [lt_dec_self, cond_false]; rfl
  · rfl
end Go.Proofs.YteilhjdpbjgdpaaDoor

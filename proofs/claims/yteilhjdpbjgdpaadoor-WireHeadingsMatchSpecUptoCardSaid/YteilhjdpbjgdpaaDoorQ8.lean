/-
  Plain laws of the wire: the law of the checks.
-/
import Derived.Test.YteilhjdpbjgdpaaDoorQ7
import Derived.Test.YteilhjdpbjgdpaaDoorG6
namespace Go.Proofs.YteilhjdpbjgdpaaDoor
set_option linter.unusedSimpArgs false
set_option linter.unusedVariables false
open Go.RowKit

theorem ixMap_sum {α β : Type} {f : Nat → α → List β} {g : β → Nat} {c : α → Nat} (h : ∀ i e, ((f i e).map g).sum = c e) : ∀ (l : List α) (i : Nat), ((ixMap f i l).map g).sum = (l.map c).sum
  | [], _ => rfl
  | x :: l, i => by simp only [ixMap, List.map_append, List.sum_append, h, ixMap_sum h l, List.map_cons, List.sum_cons]
theorem ptsS_sum (m : Tapi_Marks) (s : Tapi_Segment) : ((ptsS m s).map fun p => cntT m p.t).sum = cntS m s := by
  unfold ptsS cntS
  refine ixMap_sum (fun e x => ?_) _ _
  unfold ptsE cntE
  refine ixMap_sum (fun r l => ?_) _ _
  unfold ptsR cntR
  refine ixMap_sum (fun p t => ?_) _ _
  simp [ptsP]
theorem rPts_cnt (m : Tapi_Marks) (seg : Int) : ∀ (l : List Prt) (w : RT), (rPts m seg w l).2.2 = w.2.2 + (l.map fun p => cntT m p.t).sum
  | [], w => by simp [rPts]
  | p :: l, w => by
    have := rPts_cnt m seg l (rStep m seg w p)
    simp only [rPts, List.foldl_cons] at this ⊢
    rw [this]
    simp [rStep, Nat.add_assoc]
theorem rSegs_cnt (m : Tapi_Marks) (lines : Bool) : ∀ (l : List Tapi_Segment) (i : Nat) (w : RT), (rSegs m lines i w l).2.2 = w.2.2 + cntL m l
  | [], i, w => by simp [rSegs, cntL]
  | s :: l, i, w => by
    simp only [rSegs]
    rw [rSegs_cnt m lines l (i + 1)]
    simp only [rSeg, rPts_cnt, ptsS_sum, rHead, cntL, List.map_cons, List.sum_cons]
    omega
/-- How many escape marks, and the fault. -/
def escF (l : List Tapi_Segment) (m : Tapi_Marks) : Int × Int := if bothF l m = 0 then (((cntL m l : Nat) : Int), 0) else (0, bothF l m)
theorem both_segs {l : List Tapi_Segment} {m : Tapi_Marks} (h : bothF l m = 0) : segsF l = 0 ∧ marksF m = 0 := by
  unfold bothF at h
  split at h
  · rename_i h1; exact ⟨h1, h⟩
  · rename_i h1; exact absurd h h1
theorem w_Escapes (l : List Tapi_Segment) (m : Tapi_Marks) (hs : TagsShort l) : m_wire_Escapes l m = some (escF l m) := by
  unfold m_wire_Escapes sims_G3_3_0; dsimp only
  unfold escF
  simp only [w_both l m hs, Option.bind_some]
  by_cases h : bothF l m = 0
  · simp only [h, decide_true, Bool.not_true, cond_false, if_true, w_escapes l m (both_segs h).1, Option.bind_some]
  · simp only [h, decide_false, Bool.not_false, cond_true, if_false]
theorem r_Escapes (l : List Tapi_Segment) (m : Tapi_Marks) (hs : TagsShort l) : m_interchangeref2_Escapes l m = some (escF l m) := by
  unfold m_interchangeref2_Escapes sims_G3_3_0; dsimp only
  unfold escF
  simp only [r_both l m hs, Option.bind_some]
  by_cases h : bothF l m = 0
  · simp only [h, decide_true, Bool.not_true, cond_false, if_true, r_written l m false (both_segs h).1, Option.bind_some, rSegs_cnt, Nat.zero_add]
  · simp only [h, decide_false, Bool.not_false, cond_true, if_false]
theorem awake_true : m_interchangelaw2_awake = some true := by
  unfold m_interchangelaw2_awake sims_G6_1_0; dsimp only
  have h : m_wire_Heading ⟨UInt8.ofNat (Int.toNat 42), UInt8.ofNat (Int.toNat 58), UInt8.ofNat (Int.toNat 94), UInt8.ofNat (Int.toNat 63), UInt8.ofNat (Int.toNat 126)⟩ = some ([77, 82, 75, 42, 58, 94, 63, 126], 0) := by
    unfold m_wire_Heading
    rw [w_marks]
    rfl
  rw [h]
  rfl
theorem law_checks (m : Tapi_Marks) (l : List Tapi_Segment) (hs : TagsShort l) : m_interchangelaw2_WireChecksMatchSpec m l = some true := by
  unfold m_interchangelaw2_WireChecksMatchSpec sims_G6_2_0; dsimp only
  simp only [w_Escapes l m hs, r_Escapes l m hs, w_marks, r_marks, w_segs l hs, r_segs l hs, awake_true, Option.bind_some, andO_some, decide_true, Bool.true_and, Bool.and_self]
end Go.Proofs.YteilhjdpbjgdpaaDoor

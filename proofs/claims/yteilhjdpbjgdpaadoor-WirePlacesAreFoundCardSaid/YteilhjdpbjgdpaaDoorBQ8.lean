/-
  Plain laws of the wire: the law of the checks.
-/
import Derived.Test.YteilhjdpbjgdpaaDoorBQ7
import Derived.Test.YteilhjdpbjgdpaaDoorBG6
namespace Go.Proofs.YteilhjdpbjgdpaaDoor
set_option linter.unusedSimpArgs false
set_option linter.unusedVariables false
open Go.RowKit

theorem ixMap_sum {α β : Type} {f : Nat → α → List β} {g : β → Nat} {c : α → Nat} (h : ∀ i e, ((f i e).map g).sum = c e) : ∀ (l : List α) (i : Nat), ((ixMap f i l).map g).sum = (l.map c).sum
  | [], _ => rfl
  | x :: l, i => by simp only [ixMap, List.map_append, List.sum_append, h, ixMap_sum h l, List.map_cons, List.sum_cons]
theorem ptsS_sum (m : Tapi_Marks) (s : Tapi_Segment) : ((ptsS m s).map fun p => cntT m p.t).sum = cntS m s := by
  unfold ptsS cntS
  refine ixMap_sum (fun e x => ?_) _ _
  unfold ptsE cntE
  refine ixMap_sum (fun r l => ?_) _ _
  unfold ptsR cntR
  refine ixMap_sum (fun p t => ?_) _ _
  simp [ptsP]
theorem both_segs {l : List Tapi_Segment} {m : Tapi_Marks} (h : bothF l m = 0) : segsF l = 0 ∧ marksF m = 0 := by
  unfold bothF at h
  split at h
  · rename_i h1; exact ⟨h1, h⟩
  · rename_i h1; exact absurd h h1
theorem awake_true : m_interchangelaw2_awake = some true := by
  unfold m_interchangelaw2_awake sims_G6_1_0; dsimp only
  have h : m_wire_Heading ⟨UInt8.ofNat (Int.toNat 42), UInt8.ofNat (Int.toNat 58), UInt8.ofNat (Int.toNat 94), UInt8.ofNat (Int.toNat 63), UInt8.ofNat (Int.toNat 126)⟩ = some ([77, 82, 75, 42, 58, 94, 63, 126], 0) := by
    unfold m_wire_Heading
    rw [w_marks]
    rfl
  rw [h]
  rfl
end Go.Proofs.YteilhjdpbjgdpaaDoor

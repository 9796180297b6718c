/-
  Plain laws of the wire: a byte that may be a mark.
-/
import Derived.Test.YteilhjdpbjgdpaaDoorQ1
import Derived.KernelRfl
namespace Go.Proofs.YteilhjdpbjgdpaaDoor
set_option linter.unusedSimpArgs false
set_option linter.unusedVariables false
open Go.RowKit

def tagSet : List UInt8 := [65, 66, 67, 68, 69, 70, 71, 72, 73, 74, 75, 76, 77, 78, 79, 80, 81, 82, 83, 84, 85, 86, 87, 88, 89, 90, 48, 49, 50, 51, 52, 53, 54, 55, 56, 57]
theorem isTagPart_eq (l : List UInt8) (hl : l.length ≤ 9223372036854775807) : m_kit_IsTagPart l = some (decide (Lib.trimS l tagSet = [])) := by
  unfold m_kit_IsTagPart sims_G1_1_0; dsimp only
  have : m_strings_Trim l tagSet = some (Lib.trimS l tagSet) := by unfold m_strings_Trim; rw [if_pos ⟨hl, by decide, by decide⟩]
  simp only [tagSet] at this ⊢
  rw [this]
  rfl
def wMark (b : UInt8) : Bool := !decide (Lib.trimS [b] tagSet = []) && !(match [b].findSome? fun x => if (decide ((x.toNat : Int) < 97) || decide ((122 : Int) < (x.toNat : Int))) = true then some false else none with | some b => b | none => true) && !Lib.containsAny [b] [46, 45, 43, 95]
theorem wMark_all : (List.range 256).all (fun n => decide (n < 33) || decide (126 < n) || (wMark (UInt8.ofNat n) == markB (UInt8.ofNat n))) = true := by kernel_rfl
theorem w_mark (b : UInt8) : m_wire_isMarkByte b = some (markB b) := by
  unfold m_wire_isMarkByte sims_G1_2_0; dsimp only
  by_cases h : 33 ≤ b.toNat ∧ b.toNat ≤ 126
  · have hc : m_strings_ContainsAny [b] [46, 45, 43, 95] = some (Lib.containsAny [b] [46, 45, 43, 95]) := by
      unfold m_strings_ContainsAny
      rw [if_pos ⟨by simp, by simp, by simp; omega, by decide⟩]
    have hw := List.all_eq_true.1 wMark_all b.toNat (List.mem_range.2 b.toNat_lt)
    have hb : UInt8.ofNat b.toNat = b := by simp
    rw [hb] at hw
    have d1 : decide ((33 : Int) ≤ (b.toNat : Int)) = true := by simp; omega
    have d2 : decide ((b.toNat : Int) ≤ 126) = true := by simp; omega
    have d3 : decide (b.toNat < 33) = false := by simp; omega
    have d4 : decide (126 < b.toNat) = false := by simp; omega
    simp only [d3, d4, Bool.false_or, beq_iff_eq] at hw
    rw [← hw]
    simp only [enc_ascii b (by omega), isTagPart_eq [b] (by simp), inBytes_eq [b] _ _ (by simp), hc, andO_some, Option.bind_some, d1, d2, Bool.true_and]
    rfl
  · have hm : markB b = false := by
      unfold markB
      have : (decide ((b.toNat : Int) < 33) || decide (126 < (b.toNat : Int))) = true := by simp; omega
      rw [this]
      simp
    have d : (decide ((33 : Int) ≤ (b.toNat : Int)) && decide ((b.toNat : Int) ≤ 126)) = false := by simp; omega
    rw [hm]
    simp only [andO_some, Option.bind_some, d]
    rfl
end Go.Proofs.YteilhjdpbjgdpaaDoor

/-
  Plain laws of the wire: texts.
-/
import Derived.Test.YteilhjdpbjgdpaaDoorG2
import Derived.Test.YteilhjdpbjgdpaaDoorQ2
namespace Go.Proofs.YteilhjdpbjgdpaaDoor
set_option linter.unusedSimpArgs false
set_option linter.unusedVariables false
open Go.RowKit

def badT (x : UInt8) : Bool := decide ((x.toNat : Int) < 32) || decide (126 < (x.toNat : Int))
def textF (t : List UInt8) : Int := if 1000 < t.length then 2 else match t.findSome? (fun x => if badT x = true then some (3 : Int) else none) with | some a => a | none => 0
theorem findSome_congr2 {α A B : Type} (p : α → Bool) (a : A) (b : B) : ∀ (l : List α), (l.findSome? (fun x => if p x = true then some a else none) = none ∧ l.findSome? (fun x => if p x = true then some b else none) = none) ∨ (l.findSome? (fun x => if p x = true then some a else none) = some a ∧ l.findSome? (fun x => if p x = true then some b else none) = some b)
  | [] => .inl ⟨rfl, rfl⟩
  | x :: l => by
    rw [List.findSome?_cons, List.findSome?_cons]
    cases h : p x with
    | true => exact .inr ⟨by simp, by simp⟩
    | false => simpa using findSome_congr2 p a b l
theorem r_text (t : List UInt8) : m_interchangeref2_checkText t = some (textF t) := by
  unfold m_interchangeref2_checkText sims_G2_0_0; dsimp only
  unfold textF
  by_cases h : 1000 < t.length
  · have : decide ((1000 : Int) < (t.length : Int)) = true := by simp; omega
    simp only [this, cond_true, h, if_true]
  · have : decide ((1000 : Int) < (t.length : Int)) = false := by simp; omega
    simp only [this, cond_false, h, if_false]
    refine bind_loop (loop_find t (fun x => if badT x = true then some (3 : Int) else none) (fun i e he => ?_) ?_) ?_
    · obtain ⟨hi', -⟩ := List.getElem?_eq_some_iff.1 he
      simp only [lt_dec hi', cond_true, getI_nat, he, Option.bind_some, orO_some, wrapN i (by omega)]
      show (bif badT e then inrO (inrO (some 3)) else some (Sum.inl ((i + 1 : Nat) : Int))) = _
      cases badT e <;> rfl
    · simp only [lt_dec_self, cond_false]; rfl
    · cases t.findSome? _ <;> rfl
theorem w_text (t : List UInt8) : m_wire_textFault t = some (textF t) := by
  unfold m_wire_textFault sims_G2_2_0; dsimp only
  unfold textF
  by_cases h : 1000 < t.length
  · have : decide ((1000 : Int) < (t.length : Int)) = true := by simp; omega
    simp only [this, cond_true, h, if_true]
  · have h1 : decide ((1000 : Int) < (t.length : Int)) = false := by simp; omega
    have h2 : decide ((t.length : Int) ≤ 1000) = true := by simp; omega
    have hT : m_kit_IsText t = some (match t.findSome? fun x => if badT x = true then some false else none with | some b => b | none => true) := by
      unfold m_kit_IsText sims_G2_1_0; dsimp only
      simp only [h2, inBytes_eq t _ _ (by omega), andO_some, Option.bind_some, Bool.true_and]
      rfl
    simp only [h1, cond_false, h, if_false, hT, Option.bind_some]
    rcases findSome_congr2 badT (3 : Int) false t with ⟨e1, e2⟩ | ⟨e1, e2⟩ <;> rw [e1, e2] <;> rfl
end Go.Proofs.YteilhjdpbjgdpaaDoor

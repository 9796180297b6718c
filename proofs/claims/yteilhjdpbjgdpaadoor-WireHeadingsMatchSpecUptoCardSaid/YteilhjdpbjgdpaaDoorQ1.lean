/-
  Plain laws of the wire: marks.
-/
import Derived.Test.YteilhjdpbjgdpaaDoorG1
import Derived.Test.YteilhjdpbjgdpaaDoorPL
namespace Go.Proofs.YteilhjdpbjgdpaaDoor
set_option linter.unusedSimpArgs false
set_option linter.unusedVariables false
open Go.RowKit

def markB (b : UInt8) : Bool := !(decide ((b.toNat : Int) < 33) || decide (126 < (b.toNat : Int)) || decide ((b.toNat : Int) = 46) || decide ((b.toNat : Int) = 45) || decide ((b.toNat : Int) = 43) || decide ((b.toNat : Int) = 95)) && !(decide (65 ≤ (b.toNat : Int)) && decide ((b.toNat : Int) ≤ 90) || decide (97 ≤ (b.toNat : Int)) && decide ((b.toNat : Int) ≤ 122) || decide (48 ≤ (b.toNat : Int)) && decide ((b.toNat : Int) ≤ 57))
theorem bif_not (c d : Bool) : (bif c then some false else some (!d)) = some (!c && !d) := by cases c <;> rfl
theorem r_mark (b : UInt8) : m_interchangeref2_mark b = some (markB b) := by
  unfold m_interchangeref2_mark sims_G1_0_0; dsimp only
  simp only [orO_some, andO_some, Option.bind_some, markB]
  exact bif_not _ _
/-- A loop over a list that ends at the first element of which h says something. -/
theorem loop_find {α R : Type} (l : List α) (h : α → Option R) {f : Int → Option (Int ⊕ (Int ⊕ R))} (hb : ∀ (i : Nat) (e : α), l[i]? = some e → f (i : Int) = (match h e with | some a => some (.inr (.inr a)) | none => some (.inl ((i + 1 : Nat) : Int))))
    (he : f (l.length : Int) = some (.inr (.inl (l.length : Int)))) : loopC f 0 = some (match l.findSome? h with | some a => .inr a | none => .inl (l.length : Int)) := by
  have : ∀ (t : List α) (i : Nat), l.drop i = t → i ≤ l.length → loopC f (i : Int) = some (match t.findSome? h with | some a => .inr a | none => .inl (l.length : Int)) := by
    intro t
    induction t with
    | nil =>
      intro i hd hi
      have : i = l.length := by have := congrArg List.length hd; simp at this; omega
      subst this
      rw [loopC_eq, he]
      rfl
    | cons e t ih =>
      intro i hd hi
      have h1 : l[i]? = some e := by
        have := congrArg (fun q => q[0]?) hd
        simpa using this
      have h2 : i < l.length := by
        rcases Nat.lt_or_ge i l.length with h | h
        · exact h
        · rw [List.drop_eq_nil_of_le h] at hd; cases hd
      have h3 : l.drop (i + 1) = t := by
        have := congrArg List.tail hd
        simpa using this
      rw [loopC_eq, hb i e h1, List.findSome?_cons]
      cases h e with
      | some a => rfl
      | none => exact ih (i + 1) h3 h2
  exact this l 0 rfl (Nat.zero_le _)
theorem inBytes_eq (l : List UInt8) (lo hi : UInt8) (hl : l.length < 9223372036854775807) : m_kit_InBytes l lo hi = some (match l.findSome? fun x => if (decide ((x.toNat : Int) < (lo.toNat : Int)) || decide ((hi.toNat : Int) < (x.toNat : Int))) = true then some false else none with | some b => b | none => true) := by
  unfold m_kit_InBytes sims_G1_0_0; dsimp only
  refine bind_loop (loop_find l (fun x => if (decide ((x.toNat : Int) < (lo.toNat : Int)) || decide ((hi.toNat : Int) < (x.toNat : Int))) = true then some false else none) (fun i e h => ?_) ?_) ?_
  · obtain ⟨hi', -⟩ := List.getElem?_eq_some_iff.1 h
    simp only [lt_dec hi', cond_true, getI_nat, h, Option.bind_some, orO_some, wrapN i (by omega)]
    cases (decide ((e.toNat : Int) < (lo.toNat : Int)) || decide ((hi.toNat : Int) < (e.toNat : Int))) <;> rfl
  · simp only [lt_dec_self, cond_false]; rfl
  · cases l.findSome? _ <;> rfl
theorem enc_ascii (b : UInt8) (h : b.toNat < 128) : (Utf8.encode (b.toNat : Int)).data.toList = [b] := by
  have : ∀ n : Fin 128, (Utf8.encode ((n.1 : Nat) : Int)).data.toList = [UInt8.ofNat n.1] := by decide
  have := this ⟨b.toNat, h⟩
  rw [this]
  simp
end Go.Proofs.YteilhjdpbjgdpaaDoor

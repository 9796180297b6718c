/-
  DeskGivesUpLast: the row and the card.
-/
import Derived.Test.YtjdeikkojjdjdaaDoorRow
import Derived.Test.YtjdeikkojjdjdaaDoorT13
namespace Go.Proofs.YtjdeikkojjdjdaaDoor
set_option linter.unusedSimpArgs false
set_option linter.unusedVariables false
open Go.ChangeShapes Go.WideShapes Go.ChangeAt Go.RowKit

namespace deskGivesUpLast
theorem law (cs : List DV) (h : ArgsOk Tryd.prog 4 Tryd.f4.params.toList cs) : PureSpec Tryd.prog 4 cs (.bool true) := by
  rw [Tryd.params4] at h
  obtain ⟨p, jobs, outs, rest, rfl, hi, h⟩ := args3 h
  obtain rfl : rest = [] := h
  exact givesLaw_spec p jobs outs hi
noncomputable def wArgs : Array Value := noArgs.toArray
theorem laid_met (os : Os) : laidMet Tryd.prog Rows.deskGivesUpLastRow.laid ((laidWorld os).forCall (fun _ _ => 0) ⟨#[], wArgs, []⟩).memory :=
  laidMet_of_run' 8 (by kernel_rfl) (by kernel_rfl)
theorem reads (os : Os) {H : Type} (enc : TypeId × Value → H) : ∃ x, DataW.whole enc Tryd.prog ((laidWorld os).forCall (fun _ _ => 0) ⟨#[], wArgs, []⟩).memory Tryd.f4.params.toList Rows.deskGivesUpLastSpec.vars false wArgs.toList 8 = some x :=
  Option.isSome_iff_exists.1 (by kernel_rfl)
set_option maxRecDepth 100000 in
theorem lifted (os : Os) (started : os.Started) (H : Type) (enc : TypeId × Value → H) (F : Stop.Interp) :
    ReturnsInHanded {} Tryd.checked os 4 .any ((OpenSpec.ofChange Rows.deskGivesUpLastSpec).preRow enc Tryd.prog Tryd.f4 Rows.deskGivesUpLastRow.domain false Rows.deskGivesUpLastRow.laid) (((OpenSpec.ofChange Rows.deskGivesUpLastSpec).at F).post enc Tryd.prog Tryd.f4 false true false false) := by
  obtain ⟨x, hx⟩ := reads os enc
  refine returnsInHanded_of_row (C := Tryd.checked) (s := OpenSpec.ofChange Rows.deskGivesUpLastSpec) ownK started (by kernel_rfl) Tryd.func4
    (witness_row_at (enc := enc) (C := Tryd.checked) false (laidWorld os) wArgs rfl (by kernel_rfl) (by kernel_rfl) (by kernel_rfl)
      (OpenSpec.preRow_of_cond 8 hx rfl (fun k hk => by cases hk) (by kernel_rfl) (laid_met os))) ?_
  intro W base args ds gs before hval hW _ _ _ hL _ _
  exact law_post (n := 4) (spec := Rows.deskGivesUpLastSpec) rfl (fun ds hds => by
      rw [Tryd.params4] at hds
      match ds, hds with
      | [_, _, _], _ => rfl) laidOut (by kernel_rfl) (by kernel_rfl) (by kernel_rfl) Tryd.underlying4 hval hW (fun cs hcs _ => law cs hcs)
theorem said : Rows.DeskGivesUpLastSaid :=
  OpenClaim.holds_of_cond 4 Tryd.f4 rfl rfl rfl rfl rfl rfl rfl ⟨rfl, rfl, rfl, rfl, rfl⟩ rfl rfl rfl rfl rfl (by kernel_rfl) Tryd.func4 (by kernel_rfl)
    (of_decide_eq_true (by kernel_rfl)) (by unfold Func.isWrapper; first | (rw [if_pos (by decide +kernel)]; kernel_rfl) | (rw [if_neg (by decide +kernel)]; exact ⟨rfl, rfl⟩))
    (fun os started H enc _ F => by rw [OpenClaim.pre_eq_preRow]; exact lifted os started H enc F)
theorem plain (f : FuncId) (fn : Func) (hf : Tryd.pinned.checked.prog.funcNamed "interchange/interchangelaw12.DeskGivesUpLast" = some f) (hfn : Tryd.pinned.checked.prog.funcs[f]? = some fn) :
    false = Tryd.pinned.checked.prog.looks [] ∧ ∀ (j : Nat) t, fn.params[j]? = some t → Tryd.pinned.checked.prog.wantsStandIn t = false := by
  obtain rfl : f = 4 := Option.some.inj ((show Tryd.prog.funcNamed "interchange/interchangelaw12.DeskGivesUpLast" = some 4 by kernel_rfl).symm.trans hf) |>.symm
  obtain rfl : fn = Tryd.f4 := (Option.some.inj (Tryd.func4.symm.trans hfn)).symm
  refine ⟨by kernel_rfl, fun j t ht => ?_⟩
  have hall : Tryd.f4.params.toList.all (fun t => !Tryd.prog.wantsStandIn t) = true := by kernel_rfl
  have := List.all_eq_true.1 hall t (by simpa using Array.mem_of_getElem? ht)
  exact (show Tryd.prog.wantsStandIn t = false by simpa using this)
end deskGivesUpLast
theorem deskGivesUpLast_card : Rows.DeskGivesUpLastCardSaid :=
  Claim7.holds_tied_plain_at .later [] _ _ _ _ deskGivesUpLast.said (fun _ h => by cases h) (by kernel_rfl) (fun _ h => by cases h) deskGivesUpLast_row_tie rfl ⟨rfl, rfl⟩ (by kernel_rfl) rfl deskGivesUpLast.plain (by kernel_rfl)
#print axioms deskGivesUpLast_card
end Go.Proofs.YtjdeikkojjdjdaaDoor

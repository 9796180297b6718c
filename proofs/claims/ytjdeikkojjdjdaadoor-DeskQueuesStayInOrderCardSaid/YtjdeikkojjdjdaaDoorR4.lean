/-
  DeskQueuesStayInOrder: the row and the card.
-/
import Derived.Test.YtjdeikkojjdjdaaDoorRow
import Derived.Test.YtjdeikkojjdjdaaDoorT14
namespace Go.Proofs.YtjdeikkojjdjdaaDoor
set_option linter.unusedSimpArgs false
set_option linter.unusedVariables false
open Go.ChangeShapes Go.WideShapes Go.ChangeAt Go.RowKit

namespace deskQueuesStayInOrder
theorem law (cs : List DV) (h : ArgsOk Tryd.prog 4 Tryd.f6.params.toList cs) : PureSpec Tryd.prog 6 cs (.bool true) := by
  rw [Tryd.params6] at h
  obtain ⟨p, jobs, outs, rest, rfl, hi, h⟩ := args3 h
  obtain ⟨a, _, rfl, h1, b, _, rfl, h2, h⟩ := h
  obtain rfl := h
  obtain ⟨m, rfl, _, _⟩ := int_wt h1
  obtain ⟨n, rfl, _, _⟩ := int_wt h2
  have e : ∀ m, argDV Tryd.prog 3 [.int .i64 m] = .int .i64 m := fun m => by simp only [argDV, Tryd.underlying3, List.headD_cons]
  rw [e, e]
  exact queuesLaw_spec p jobs outs m n hi
noncomputable def wArgs : Array Value := (noArgs ++ [Value.int .i64 0, Value.int .i64 0]).toArray
theorem laid_met (os : Os) : laidMet Tryd.prog Rows.deskQueuesStayInOrderRow.laid ((laidWorld os).forCall (fun _ _ => 0) ⟨#[], wArgs, []⟩).memory :=
  laidMet_of_run' 8 (by kernel_rfl) (by kernel_rfl)
theorem reads (os : Os) {H : Type} (enc : TypeId × Value → H) : ∃ x, DataW.whole enc Tryd.prog ((laidWorld os).forCall (fun _ _ => 0) ⟨#[], wArgs, []⟩).memory Tryd.f6.params.toList Rows.deskQueuesStayInOrderSpec.vars false wArgs.toList 8 = some x :=
  Option.isSome_iff_exists.1 (by kernel_rfl)
set_option maxRecDepth 100000 in
theorem lifted (os : Os) (started : os.Started) (H : Type) (enc : TypeId × Value → H) (F : Stop.Interp) :
    ReturnsInHanded {} Tryd.checked os 6 .any ((OpenSpec.ofChange Rows.deskQueuesStayInOrderSpec).preRow enc Tryd.prog Tryd.f6 Rows.deskQueuesStayInOrderRow.domain false Rows.deskQueuesStayInOrderRow.laid) (((OpenSpec.ofChange Rows.deskQueuesStayInOrderSpec).at F).post enc Tryd.prog Tryd.f6 false true false false) := by
  obtain ⟨x, hx⟩ := reads os enc
  refine returnsInHanded_of_row (C := Tryd.checked) (s := OpenSpec.ofChange Rows.deskQueuesStayInOrderSpec) ownK started (by kernel_rfl) Tryd.func6
    (witness_row_at (enc := enc) (C := Tryd.checked) false (laidWorld os) wArgs rfl (by kernel_rfl) (by kernel_rfl) (by kernel_rfl)
      (OpenSpec.preRow_of_cond 8 hx rfl (fun k hk => by cases hk) (by kernel_rfl) (laid_met os))) ?_
  intro W base args ds gs before hval hW _ _ _ hL _ _
  exact law_post (n := 4) (spec := Rows.deskQueuesStayInOrderSpec) rfl (fun ds hds => by
      rw [Tryd.params6] at hds
      match ds, hds with
      | [_, _, _, _, _], _ => rfl) laidOut (by kernel_rfl) (by kernel_rfl) (by kernel_rfl) Tryd.underlying4 hval hW (fun cs hcs _ => law cs hcs)
theorem said : Rows.DeskQueuesStayInOrderSaid :=
  OpenClaim.holds_of_cond 6 Tryd.f6 rfl rfl rfl rfl rfl rfl rfl ⟨rfl, rfl, rfl, rfl, rfl⟩ rfl rfl rfl rfl rfl (by kernel_rfl) Tryd.func6 (by kernel_rfl)
    (of_decide_eq_true (by kernel_rfl)) (by unfold Func.isWrapper; first | (rw [if_pos (by decide +kernel)]; kernel_rfl) | (rw [if_neg (by decide +kernel)]; exact ⟨rfl, rfl⟩))
    (fun os started H enc _ F => by rw [OpenClaim.pre_eq_preRow]; exact lifted os started H enc F)
theorem plain (f : FuncId) (fn : Func) (hf : Tryd.pinned.checked.prog.funcNamed "interchange/interchangelaw12.DeskQueuesStayInOrder" = some f) (hfn : Tryd.pinned.checked.prog.funcs[f]? = some fn) :
    false = Tryd.pinned.checked.prog.looks [] ∧ ∀ (j : Nat) t, fn.params[j]? = some t → Tryd.pinned.checked.prog.wantsStandIn t = false := by
  obtain rfl : f = 6 := Option.some.inj ((show Tryd.prog.funcNamed "interchange/interchangelaw12.DeskQueuesStayInOrder" = some 6 by kernel_rfl).symm.trans hf) |>.symm
  obtain rfl : fn = Tryd.f6 := (Option.some.inj (Tryd.func6.symm.trans hfn)).symm
  refine ⟨by kernel_rfl, fun j t ht => ?_⟩
  have hall : Tryd.f6.params.toList.all (fun t => !Tryd.prog.wantsStandIn t) = true := by kernel_rfl
  have := List.all_eq_true.1 hall t (by simpa using Array.mem_of_getElem? ht)
  exact (show Tryd.prog.wantsStandIn t = false by simpa using this)
end deskQueuesStayInOrder
theorem deskQueuesStayInOrder_card : Rows.DeskQueuesStayInOrderCardSaid :=
  Claim7.holds_tied_plain_at .later [] _ _ _ _ deskQueuesStayInOrder.said (fun _ h => by cases h) (by kernel_rfl) (fun _ h => by cases h) deskQueuesStayInOrder_row_tie rfl ⟨rfl, rfl⟩ (by kernel_rfl) rfl deskQueuesStayInOrder.plain (by kernel_rfl)
#print axioms deskQueuesStayInOrder_card
end Go.Proofs.YtjdeikkojjdjdaaDoor

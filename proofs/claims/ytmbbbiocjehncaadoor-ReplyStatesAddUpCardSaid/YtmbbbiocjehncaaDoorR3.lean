/-
  ReplyStatesAddUp: the row and the card.
-/
import Derived.Test.YtmbbbiocjehncaaDoorRow
import Derived.Test.YtmbbbiocjehncaaDoorP7
namespace Go.Proofs.YtmbbbiocjehncaaDoor
open Go.ChangeShapes Go.WideShapes Go.ChangeAt Go.RowKit
set_option linter.unusedSimpArgs false
set_option linter.unusedVariables false
namespace replyStatesAddUp
set_option maxRecDepth 100000 in
theorem law (cs : List DV) (h : ArgsOk Tryd.prog 3 Tryd.f4.params.toList cs) : PureSpec Tryd.prog 4 cs (.bool true) := by
  rw [Tryd.params4] at h
  obtain ⟨d0, _, rfl, h0, d1, _, rfl, h1, h⟩ := h
  obtain rfl := h
  obtain ⟨x0, rfl, o0⟩ := (wt22.up 0) 0 _ h0
  obtain ⟨x1, rfl, o1⟩ := (wt3.up 2) 0 _ h1
  have e0 : argDV Tryd.prog 22 ((rowL rTapi_BookEvent) x0) = .slice (x0.map rTapi_BookEvent) := by simp only [argDV, Tryd.underlying22, rowI, rowY, rowS, rowB, rowL, List.headD_cons]
  rw [e0]
  have e1 : argDV Tryd.prog 3 (rowI x1) = .int .i64 x1 := by simp only [argDV, Tryd.underlying3, rowI, rowY, rowS, rowB, rowL, List.headD_cons]
  rw [e1]
  exact spec_interchangelaw7_ReplyStatesAddUp x0 x1 true ((fun l m (o : okL okTapi_BookEvent l) (_ : okI m) => law_StatesAddUp l ⟨o.1, fun e he => (o.2 e he).2.2.2.1⟩ m) x0 x1 o0 o1)
noncomputable def wArgs : Array Value := #[.slice none 0 0, .int .i64 0]
theorem laid_met (os : Os) : laidMet Tryd.prog Rows.replyStatesAddUpRow.laid ((laidWorld os).forCall (fun _ _ => 0) ⟨#[], wArgs, []⟩).memory :=
  laidMet_of_run' 8 (by kernel_rfl) (by kernel_rfl)
theorem reads (os : Os) {H : Type} (enc : TypeId × Value → H) : ∃ x, DataW.whole enc Tryd.prog ((laidWorld os).forCall (fun _ _ => 0) ⟨#[], wArgs, []⟩).memory Tryd.f4.params.toList Rows.replyStatesAddUpSpec.vars false wArgs.toList 8 = some x :=
  Option.isSome_iff_exists.1 (by kernel_rfl)
set_option maxRecDepth 100000 in
theorem lifted (os : Os) (started : os.Started) (H : Type) (enc : TypeId × Value → H) (F : Stop.Interp) :
    ReturnsInHanded {} Tryd.checked os 4 .any ((OpenSpec.ofChange Rows.replyStatesAddUpSpec).preRow enc Tryd.prog Tryd.f4 Rows.replyStatesAddUpRow.domain false Rows.replyStatesAddUpRow.laid) (((OpenSpec.ofChange Rows.replyStatesAddUpSpec).at F).post enc Tryd.prog Tryd.f4 false true false false) := by
  obtain ⟨x, hx⟩ := reads os enc
  refine returnsInHanded_of_row (C := Tryd.checked) (s := OpenSpec.ofChange Rows.replyStatesAddUpSpec) ownK started (by kernel_rfl) Tryd.func4
    (witness_row_at (enc := enc) (C := Tryd.checked) false (laidWorld os) wArgs rfl (by kernel_rfl) (by kernel_rfl) (by kernel_rfl)
      (OpenSpec.preRow_of_cond 8 hx rfl (fun k hk => by cases hk) (by kernel_rfl) (laid_met os))) ?_
  intro W base args ds gs before hval hW _ _ _ hL _ _
  exact law_post (n := 3) (spec := Rows.replyStatesAddUpSpec) rfl (fun ds hds => by
      rw [Tryd.params4] at hds
      match ds, hds with
      | [_, _], _ => rfl) laidOut (by kernel_rfl) (by kernel_rfl) (by kernel_rfl) Tryd.underlying4 hval hW (fun cs hcs _ => law cs hcs)
theorem said : Rows.ReplyStatesAddUpSaid :=
  OpenClaim.holds_of_cond 4 Tryd.f4 rfl rfl rfl rfl rfl rfl rfl ⟨rfl, rfl, rfl, rfl, rfl⟩ rfl rfl rfl rfl rfl (by kernel_rfl) Tryd.func4 (by kernel_rfl)
    (of_decide_eq_true (by kernel_rfl)) (by unfold Func.isWrapper; first | (rw [if_pos (by decide +kernel)]; kernel_rfl) | (rw [if_neg (by decide +kernel)]; exact ⟨rfl, rfl⟩))
    (fun os started H enc _ F => by rw [OpenClaim.pre_eq_preRow]; exact lifted os started H enc F)
theorem plain (f : FuncId) (fn : Func) (hf : Tryd.pinned.checked.prog.funcNamed "interchange/interchangelaw7.ReplyStatesAddUp" = some f) (hfn : Tryd.pinned.checked.prog.funcs[f]? = some fn) :
    false = Tryd.pinned.checked.prog.looks [] ∧ ∀ (j : Nat) t, fn.params[j]? = some t → Tryd.pinned.checked.prog.wantsStandIn t = false := by
  obtain rfl : f = 4 := Option.some.inj ((show Tryd.prog.funcNamed "interchange/interchangelaw7.ReplyStatesAddUp" = some 4 by kernel_rfl).symm.trans hf) |>.symm
  obtain rfl : fn = Tryd.f4 := (Option.some.inj (Tryd.func4.symm.trans hfn)).symm
  refine ⟨by kernel_rfl, fun j t ht => ?_⟩
  have hall : Tryd.f4.params.toList.all (fun t => !Tryd.prog.wantsStandIn t) = true := by kernel_rfl
  have := List.all_eq_true.1 hall t (by simpa using Array.mem_of_getElem? ht)
  exact (show Tryd.prog.wantsStandIn t = false by simpa using this)
end replyStatesAddUp
theorem replyStatesAddUp_card : Rows.ReplyStatesAddUpCardSaid :=
  Claim7.holds_tied_plain_at .later [] _ _ _ _ replyStatesAddUp.said (fun _ h => by cases h) (by kernel_rfl) (fun _ h => by cases h) replyStatesAddUp_row_tie rfl ⟨rfl, rfl⟩ (by kernel_rfl) rfl replyStatesAddUp.plain (by kernel_rfl)
#print axioms replyStatesAddUp_card
end Go.Proofs.YtmbbbiocjehncaaDoor

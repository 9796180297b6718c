/-
  ReplyLaterChangesNothing: the row and the card.
-/
import Derived.Test.YtlmmfddbpagiaaaDoorBB1
namespace Go.Proofs.YtlmmfddbpagiaaaDoor
open Go.ChangeShapes Go.WideShapes Go.ChangeAt Go.RowKit
set_option linter.unusedSimpArgs false
set_option linter.unusedVariables false
namespace replyLaterChangesNothing
set_option maxRecDepth 100000 in
theorem law (cs : List DV) (h : ArgsOk Tryd.prog 3 Tryd.f4.params.toList cs) : PureSpec Tryd.prog 4 cs (.bool true) := by
  rw [Tryd.params4] at h
  obtain ⟨d0, _, rfl, h0, d1, _, rfl, h1, d2, _, rfl, h2, h⟩ := h
  obtain rfl := h
  obtain ⟨x0, rfl, o0⟩ := (wt22.up 0) 0 _ h0
  obtain ⟨x1, rfl, o1⟩ := (wt3.up 2) 0 _ h1
  obtain ⟨x2, rfl, o2⟩ := (wt3.up 2) 0 _ h2
  have e0 : argDV Tryd.prog 22 ((rowL rTapi_BookEvent) x0) = .slice (x0.map rTapi_BookEvent) := by simp only [argDV, Tryd.underlying22, rowI, rowY, rowS, rowB, rowL, List.headD_cons]
  rw [e0]
  have e1 : argDV Tryd.prog 3 (rowI x1) = .int .i64 x1 := by simp only [argDV, Tryd.underlying3, rowI, rowY, rowS, rowB, rowL, List.headD_cons]
  rw [e1]
  have e2 : argDV Tryd.prog 3 (rowI x2) = .int .i64 x2 := by simp only [argDV, Tryd.underlying3, rowI, rowY, rowS, rowB, rowL, List.headD_cons]
  rw [e2]
  exact spec_interchangelaw7_ReplyLaterChangesNothing x0 x1 x2 true ((fun x0 x1 x2 o0 _ _ => law_Later x0 ((fun (l : List Tapi_BookEvent) (o : okL okTapi_BookEvent l) => (⟨o.1, fun e he => (o.2 e he).2.2.2.1⟩ : Short l)) x0 o0) x1 x2) x0 x1 x2 o0 o1 o2)
noncomputable def wArgs : Array Value := #[.slice none 0 0, .int .i64 0, .int .i64 0]
theorem good_of {W : World} (_ : laidMet Tryd.prog Rows.replyLaterChangesNothingRow.laid W) : Good W := fun t ht => by cases ht
theorem laid_met (os : Os) : laidMet Tryd.prog Rows.replyLaterChangesNothingRow.laid ((laidWorld os).forCall (fun _ _ => 0) ⟨#[], wArgs, []⟩).memory :=
  laidMet_of_run' 8 (by kernel_rfl) (by kernel_rfl)
theorem reads (os : Os) {H : Type} (enc : TypeId × Value → H) : ∃ x, DataW.whole enc Tryd.prog ((laidWorld os).forCall (fun _ _ => 0) ⟨#[], wArgs, []⟩).memory Tryd.f4.params.toList Rows.replyLaterChangesNothingSpec.vars false wArgs.toList 8 = some x :=
  Option.isSome_iff_exists.1 (by kernel_rfl)
set_option maxRecDepth 100000 in
theorem lifted (os : Os) (started : os.Started) (H : Type) (enc : TypeId × Value → H) (F : Stop.Interp) :
    ReturnsInHanded {} Tryd.checked os 4 .any ((OpenSpec.ofChange Rows.replyLaterChangesNothingSpec).preRow enc Tryd.prog Tryd.f4 Rows.replyLaterChangesNothingRow.domain false Rows.replyLaterChangesNothingRow.laid) (((OpenSpec.ofChange Rows.replyLaterChangesNothingSpec).at F).post enc Tryd.prog Tryd.f4 false true false false) := by
  obtain ⟨x, hx⟩ := reads os enc
  refine returnsInHanded_of_row (C := Tryd.checked) (s := OpenSpec.ofChange Rows.replyLaterChangesNothingSpec) ownK started (by kernel_rfl) Tryd.func4
    (witness_row_at (enc := enc) (C := Tryd.checked) false (laidWorld os) wArgs rfl (by kernel_rfl) (by kernel_rfl) (by kernel_rfl)
      (OpenSpec.preRow_of_cond 8 hx rfl (fun k hk => by cases hk) (by kernel_rfl) (laid_met os))) ?_
  intro W base args ds gs before hval hW _ _ _ hL _ _
  exact law_post (n := 3) (spec := Rows.replyLaterChangesNothingSpec) rfl (fun ds hds => by
      rw [Tryd.params4] at hds
      match ds, hds with
      | [_, _, _], _ => rfl) laidOut (by kernel_rfl) (by kernel_rfl) (by kernel_rfl) Tryd.underlying4 hval hW (fun cs hcs _ => law cs hcs) (good_of hL)
set_option maxHeartbeats 40000000 in
theorem closed : joinedFacts Tryd.prog 4 Tryd.f4 (OpenSpec.ofChange Rows.replyLaterChangesNothingSpec).bare Rows.replyLaterChangesNothingRow = true := by
  unfold joinedFacts
  repeat' (with_reducible apply and_t)
  all_goals (as_aux_lemma => kernel_rfl)
theorem said : Rows.ReplyLaterChangesNothingSaid :=
  OpenClaim.holds_of_cond 4 Tryd.f4 rfl rfl rfl rfl rfl rfl rfl ⟨rfl, rfl, rfl, rfl, rfl⟩ rfl rfl rfl rfl rfl (by as_aux_lemma => kernel_rfl) Tryd.func4 closed
    (of_decide_eq_true (by as_aux_lemma => kernel_rfl)) (by unfold Func.isWrapper; first | (rw [if_pos (by decide +kernel)]; kernel_rfl) | (rw [if_neg (by decide +kernel)]; exact ⟨rfl, rfl⟩))
    (fun os started H enc _ F => by rw [OpenClaim.pre_eq_preRow]; exact lifted os started H enc F)
theorem plain (f : FuncId) (fn : Func) (hf : Tryd.pinned.checked.prog.funcNamed "interchange/interchangelaw7.ReplyLaterChangesNothing" = some f) (hfn : Tryd.pinned.checked.prog.funcs[f]? = some fn) :
    false = Tryd.pinned.checked.prog.looks [] ∧ ∀ (j : Nat) t, fn.params[j]? = some t → Tryd.pinned.checked.prog.wantsStandIn t = false := by
  obtain rfl : f = 4 := Option.some.inj ((show Tryd.prog.funcNamed "interchange/interchangelaw7.ReplyLaterChangesNothing" = some 4 by kernel_rfl).symm.trans hf) |>.symm
  obtain rfl : fn = Tryd.f4 := (Option.some.inj (Tryd.func4.symm.trans hfn)).symm
  refine ⟨by kernel_rfl, fun j t ht => ?_⟩
  have hall : Tryd.f4.params.toList.all (fun t => !Tryd.prog.wantsStandIn t) = true := by kernel_rfl
  have := List.all_eq_true.1 hall t (by simpa using Array.mem_of_getElem? ht)
  exact (show Tryd.prog.wantsStandIn t = false by simpa using this)
end replyLaterChangesNothing
theorem replyLaterChangesNothing_card : Rows.ReplyLaterChangesNothingCardSaid :=
  Claim7.holds_tied_plain_at .later [] _ _ _ _ replyLaterChangesNothing.said (fun _ h => by cases h) (by kernel_rfl) (fun _ h => by cases h) replyLaterChangesNothing_row_tie rfl ⟨rfl, rfl⟩ (by kernel_rfl) rfl replyLaterChangesNothing.plain (by kernel_rfl)
#print axioms replyLaterChangesNothing_card
end Go.Proofs.YtlmmfddbpagiaaaDoor

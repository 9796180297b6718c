/-
  WireShortsSayTheSame: the row and the card.
-/
import Derived.Test.YthailknfgcegoaaDoorBA2
namespace Go.Proofs.YthailknfgcegoaaDoor
open Go.ChangeShapes Go.WideShapes Go.ChangeAt Go.RowKit
set_option linter.unusedSimpArgs false
set_option linter.unusedVariables false
namespace wireShortsSayTheSame
set_option maxRecDepth 100000 in
theorem law (cs : List DV) (h : ArgsOk Tryd.prog 7 Tryd.f6.params.toList cs) : PureSpec Tryd.prog 6 cs (.bool true) := by
  rw [Tryd.params6] at h
  obtain ⟨d0, _, rfl, h0, d1, _, rfl, h1, d2, _, rfl, h2, h⟩ := h
  obtain rfl := h
  obtain ⟨x0, rfl, o0⟩ := (wt22.up 0) 0 _ h0
  obtain ⟨x1, rfl, o1⟩ := (wt3.up 6) 0 _ h1
  obtain ⟨x2, rfl, o2⟩ := (wt33.up 5) 0 _ h2
  have e0 : argDV Tryd.prog 22 ((rowL rTapi_Segment) x0) = .slice (x0.map rTapi_Segment) := by simp only [argDV, Tryd.underlying22, rowI, rowY, rowS, rowB, rowL, List.headD_cons]
  rw [e0]
  have e1 : argDV Tryd.prog 3 (rowI x1) = .int .i64 x1 := by simp only [argDV, Tryd.underlying3, rowI, rowY, rowS, rowB, rowL, List.headD_cons]
  rw [e1]
  have e2 : argDV Tryd.prog 33 (rTapi_Spot x2) = .agg (rTapi_Spot x2) := by simp only [argDV, Tryd.underlying33]
  rw [e2]
  exact spec_interchangelaw2_WireShortsSayTheSame x0 x1 x2 true ((fun (x0 : List Tapi_Segment) (x1 : Int) (x2 : Tapi_Spot) (o0 : okL okTapi_Segment x0) (_ : okI x1) (_ : okTapi_Spot x2) => law_same x0 x1 x2 (fun s hs => (o0.2 s hs).1) o0.1) x0 x1 x2 o0 o1 o2)
noncomputable def wArgs : Array Value := #[.slice none 0 0, .int .i64 0, .agg #[.int .i64 0, .int .i64 0, .int .i64 0]]
theorem laid_met (os : Os) : laidMet Tryd.prog Rows.wireShortsSayTheSameRow.laid ((laidWorld os).forCall (fun _ _ => 0) ⟨#[], wArgs, []⟩).memory :=
  laidMet_of_run' 8 (by kernel_rfl) (by kernel_rfl)
theorem reads (os : Os) {H : Type} (enc : TypeId × Value → H) : ∃ x, DataW.whole enc Tryd.prog ((laidWorld os).forCall (fun _ _ => 0) ⟨#[], wArgs, []⟩).memory Tryd.f6.params.toList Rows.wireShortsSayTheSameSpec.vars false wArgs.toList 8 = some x :=
  Option.isSome_iff_exists.1 (by kernel_rfl)
set_option maxRecDepth 100000 in
theorem lifted (os : Os) (started : os.Started) (H : Type) (enc : TypeId × Value → H) (F : Stop.Interp) :
    ReturnsInHanded {} Tryd.checked os 6 .any ((OpenSpec.ofChange Rows.wireShortsSayTheSameSpec).preRow enc Tryd.prog Tryd.f6 Rows.wireShortsSayTheSameRow.domain false Rows.wireShortsSayTheSameRow.laid) (((OpenSpec.ofChange Rows.wireShortsSayTheSameSpec).at F).post enc Tryd.prog Tryd.f6 false true false false) := by
  obtain ⟨x, hx⟩ := reads os enc
  refine returnsInHanded_of_row (C := Tryd.checked) (s := OpenSpec.ofChange Rows.wireShortsSayTheSameSpec) ownK started (by kernel_rfl) Tryd.func6
    (witness_row_at (enc := enc) (C := Tryd.checked) false (laidWorld os) wArgs rfl (by kernel_rfl) (by kernel_rfl) (by kernel_rfl)
      (OpenSpec.preRow_of_cond 8 hx rfl (fun k hk => by cases hk) (by kernel_rfl) (laid_met os))) ?_
  intro W base args ds gs before hval hW _ _ _ hL _ _
  exact law_post (n := 7) (spec := Rows.wireShortsSayTheSameSpec) rfl (fun ds hds => by
      rw [Tryd.params6] at hds
      match ds, hds with
      | [_, _, _], _ => rfl) laidOut (by kernel_rfl) (by kernel_rfl) (by kernel_rfl) Tryd.underlying4 hval hW (fun cs hcs _ => law cs hcs)
set_option maxHeartbeats 40000000 in
theorem closed : joinedFacts Tryd.prog 6 Tryd.f6 (OpenSpec.ofChange Rows.wireShortsSayTheSameSpec).bare Rows.wireShortsSayTheSameRow = true := by
  unfold joinedFacts
  repeat' (with_reducible apply and_t)
  all_goals (as_aux_lemma => kernel_rfl)
theorem said : Rows.WireShortsSayTheSameSaid :=
  OpenClaim.holds_of_cond 6 Tryd.f6 rfl rfl rfl rfl rfl rfl rfl ⟨rfl, rfl, rfl, rfl, rfl⟩ rfl rfl rfl rfl rfl (by as_aux_lemma => kernel_rfl) Tryd.func6 closed
    (of_decide_eq_true (by as_aux_lemma => kernel_rfl)) (by unfold Func.isWrapper; first | (rw [if_pos (by decide +kernel)]; kernel_rfl) | (rw [if_neg (by decide +kernel)]; exact ⟨rfl, rfl⟩))
    (fun os started H enc _ F => by rw [OpenClaim.pre_eq_preRow]; exact lifted os started H enc F)
theorem plain (f : FuncId) (fn : Func) (hf : Tryd.pinned.checked.prog.funcNamed "interchange/interchangelaw2.WireShortsSayTheSame" = some f) (hfn : Tryd.pinned.checked.prog.funcs[f]? = some fn) :
    false = Tryd.pinned.checked.prog.looks [] ∧ ∀ (j : Nat) t, fn.params[j]? = some t → Tryd.pinned.checked.prog.wantsStandIn t = false := by
  obtain rfl : f = 6 := Option.some.inj ((show Tryd.prog.funcNamed "interchange/interchangelaw2.WireShortsSayTheSame" = some 6 by kernel_rfl).symm.trans hf) |>.symm
  obtain rfl : fn = Tryd.f6 := (Option.some.inj (Tryd.func6.symm.trans hfn)).symm
  refine ⟨by kernel_rfl, fun j t ht => ?_⟩
  have hall : Tryd.f6.params.toList.all (fun t => !Tryd.prog.wantsStandIn t) = true := by kernel_rfl
  have := List.all_eq_true.1 hall t (by simpa using Array.mem_of_getElem? ht)
  exact (show Tryd.prog.wantsStandIn t = false by simpa using this)
end wireShortsSayTheSame
theorem wireShortsSayTheSame_card : Rows.WireShortsSayTheSameCardSaid :=
  Claim7.holds_tied_plain_at .later [] _ _ _ _ wireShortsSayTheSame.said (fun _ h => by cases h) (by kernel_rfl) (fun _ h => by cases h) wireShortsSayTheSame_row_tie rfl ⟨rfl, rfl⟩ (by kernel_rfl) rfl wireShortsSayTheSame.plain (by kernel_rfl)
#print axioms wireShortsSayTheSame_card
end Go.Proofs.YthailknfgcegoaaDoor

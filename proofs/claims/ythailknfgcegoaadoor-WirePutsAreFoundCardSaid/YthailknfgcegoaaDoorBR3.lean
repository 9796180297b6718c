/-
  WirePutsAreFound: the row and the card.
-/
import Derived.Test.YthailknfgcegoaaDoorBA2
namespace Go.Proofs.YthailknfgcegoaaDoor
open Go.ChangeShapes Go.WideShapes Go.ChangeAt Go.RowKit
set_option linter.unusedSimpArgs false
set_option linter.unusedVariables false
namespace wirePutsAreFound
set_option maxRecDepth 100000 in
theorem law (cs : List DV) (h : ArgsOk Tryd.prog 6 Tryd.f5.params.toList cs) : PureSpec Tryd.prog 5 cs (.bool true) := by
  rw [Tryd.params5] at h
  obtain ⟨d0, _, rfl, h0, d1, _, rfl, h1, d2, _, rfl, h2, d3, _, rfl, h3, h⟩ := h
  obtain rfl := h
  obtain ⟨x0, rfl, o0⟩ := (wt31.up 0) 0 _ h0
  obtain ⟨x1, rfl, o1⟩ := (wt33.up 4) 0 _ h1
  obtain ⟨x2, rfl, o2⟩ := (wt33.up 4) 0 _ h2
  obtain ⟨x3, rfl, o3⟩ := (wt9.up 5) 0 _ h3
  have e0 : argDV Tryd.prog 31 (rTapi_Segment x0) = .agg (rTapi_Segment x0) := by simp only [argDV, Tryd.underlying31]
  rw [e0]
  have e1 : argDV Tryd.prog 33 (rTapi_Spot x1) = .agg (rTapi_Spot x1) := by simp only [argDV, Tryd.underlying33]
  rw [e1]
  have e2 : argDV Tryd.prog 33 (rTapi_Spot x2) = .agg (rTapi_Spot x2) := by simp only [argDV, Tryd.underlying33]
  rw [e2]
  have e3 : argDV Tryd.prog 9 (rowS x3) = .str x3 := by simp only [argDV, Tryd.underlying9, rowI, rowY, rowS, rowB, rowL, List.headD_cons]
  rw [e3]
  exact spec_interchangelaw2_WirePutsAreFound x0 x1 x2 x3 true ((fun (x0 : Tapi_Segment) (x1 : Tapi_Spot) (x2 : Tapi_Spot) (x3 : List UInt8) (o0 : okTapi_Segment x0) (_ : okTapi_Spot x1) (_ : okTapi_Spot x2) (_ : okS x3) => law_found x0 x1 x2 x3 o0.1) x0 x1 x2 x3 o0 o1 o2 o3)
noncomputable def wArgs : Array Value := #[.agg #[.string ⟨#[]⟩, .slice none 0 0], .agg #[.int .i64 0, .int .i64 0, .int .i64 0], .agg #[.int .i64 0, .int .i64 0, .int .i64 0], .string ⟨#[]⟩]
theorem laid_met (os : Os) : laidMet Tryd.prog Rows.wirePutsAreFoundRow.laid ((laidWorld os).forCall (fun _ _ => 0) ⟨#[], wArgs, []⟩).memory :=
  laidMet_of_run' 8 (by kernel_rfl) (by kernel_rfl)
theorem reads (os : Os) {H : Type} (enc : TypeId × Value → H) : ∃ x, DataW.whole enc Tryd.prog ((laidWorld os).forCall (fun _ _ => 0) ⟨#[], wArgs, []⟩).memory Tryd.f5.params.toList Rows.wirePutsAreFoundSpec.vars false wArgs.toList 8 = some x :=
  Option.isSome_iff_exists.1 (by kernel_rfl)
set_option maxRecDepth 100000 in
theorem lifted (os : Os) (started : os.Started) (H : Type) (enc : TypeId × Value → H) (F : Stop.Interp) :
    ReturnsInHanded {} Tryd.checked os 5 .any ((OpenSpec.ofChange Rows.wirePutsAreFoundSpec).preRow enc Tryd.prog Tryd.f5 Rows.wirePutsAreFoundRow.domain false Rows.wirePutsAreFoundRow.laid) (((OpenSpec.ofChange Rows.wirePutsAreFoundSpec).at F).post enc Tryd.prog Tryd.f5 false true false false) := by
  obtain ⟨x, hx⟩ := reads os enc
  refine returnsInHanded_of_row (C := Tryd.checked) (s := OpenSpec.ofChange Rows.wirePutsAreFoundSpec) ownK started (by kernel_rfl) Tryd.func5
    (witness_row_at (enc := enc) (C := Tryd.checked) false (laidWorld os) wArgs rfl (by kernel_rfl) (by kernel_rfl) (by kernel_rfl)
      (OpenSpec.preRow_of_cond 8 hx rfl (fun k hk => by cases hk) (by kernel_rfl) (laid_met os))) ?_
  intro W base args ds gs before hval hW _ _ _ hL _ _
  exact law_post (n := 6) (spec := Rows.wirePutsAreFoundSpec) rfl (fun ds hds => by
      rw [Tryd.params5] at hds
      match ds, hds with
      | [_, _, _, _], _ => rfl) laidOut (by kernel_rfl) (by kernel_rfl) (by kernel_rfl) Tryd.underlying4 hval hW (fun cs hcs _ => law cs hcs)
set_option maxHeartbeats 40000000 in
theorem closed : joinedFacts Tryd.prog 5 Tryd.f5 (OpenSpec.ofChange Rows.wirePutsAreFoundSpec).bare Rows.wirePutsAreFoundRow = true := by
  unfold joinedFacts
  repeat' (with_reducible apply and_t)
  all_goals (as_aux_lemma => kernel_rfl)
theorem said : Rows.WirePutsAreFoundSaid :=
  OpenClaim.holds_of_cond 5 Tryd.f5 rfl rfl rfl rfl rfl rfl rfl ⟨rfl, rfl, rfl, rfl, rfl⟩ rfl rfl rfl rfl rfl (by as_aux_lemma => kernel_rfl) Tryd.func5 closed
    (of_decide_eq_true (by as_aux_lemma => kernel_rfl)) (by unfold Func.isWrapper; first | (rw [if_pos (by decide +kernel)]; kernel_rfl) | (rw [if_neg (by decide +kernel)]; exact ⟨rfl, rfl⟩))
    (fun os started H enc _ F => by rw [OpenClaim.pre_eq_preRow]; exact lifted os started H enc F)
theorem plain (f : FuncId) (fn : Func) (hf : Tryd.pinned.checked.prog.funcNamed "interchange/interchangelaw2.WirePutsAreFound" = some f) (hfn : Tryd.pinned.checked.prog.funcs[f]? = some fn) :
    false = Tryd.pinned.checked.prog.looks [] ∧ ∀ (j : Nat) t, fn.params[j]? = some t → Tryd.pinned.checked.prog.wantsStandIn t = false := by
  obtain rfl : f = 5 := Option.some.inj ((show Tryd.prog.funcNamed "interchange/interchangelaw2.WirePutsAreFound" = some 5 by kernel_rfl).symm.trans hf) |>.symm
  obtain rfl : fn = Tryd.f5 := (Option.some.inj (Tryd.func5.symm.trans hfn)).symm
  refine ⟨by kernel_rfl, fun j t ht => ?_⟩
  have hall : Tryd.f5.params.toList.all (fun t => !Tryd.prog.wantsStandIn t) = true := by kernel_rfl
  have := List.all_eq_true.1 hall t (by simpa using Array.mem_of_getElem? ht)
  exact (show Tryd.prog.wantsStandIn t = false by simpa using this)
end wirePutsAreFound
theorem wirePutsAreFound_card : Rows.WirePutsAreFoundCardSaid :=
  Claim7.holds_tied_plain_at .later [] _ _ _ _ wirePutsAreFound.said (fun _ h => by cases h) (by kernel_rfl) (fun _ h => by cases h) wirePutsAreFound_row_tie rfl ⟨rfl, rfl⟩ (by kernel_rfl) rfl wirePutsAreFound.plain (by kernel_rfl)
#print axioms wirePutsAreFound_card
end Go.Proofs.YthailknfgcegoaaDoor

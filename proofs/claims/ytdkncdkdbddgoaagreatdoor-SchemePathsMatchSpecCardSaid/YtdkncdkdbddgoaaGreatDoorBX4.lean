/-
  SchemePathsMatchSpec: the row and the card.
-/
import Derived.Test.YtdkncdkdbddgoaaGreatDoorBX3
namespace Go.Proofs.YtdkncdkdbddgoaaGreatDoor
open Go.ChangeShapes Go.WideShapes Go.ChangeAt Go.RowKit
set_option linter.unusedSimpArgs false
set_option linter.unusedVariables false
namespace schemePathsMatchSpec
set_option maxRecDepth 100000 in
theorem law (n : Nat) (cs : List DV) (h : ArgsOk Tryz.prog n Tryz.f3.params.toList cs) : PureSpec Tryz.prog 3 cs (.bool true) := by
  rw [Tryz.params3] at h
  obtain ⟨d0, _, rfl, h0, d1, _, rfl, h1, h⟩ := h
  obtain rfl := h
  obtain ⟨x0, rfl, o0⟩ := wr22 n _ h0
  obtain ⟨x1, rfl, o1⟩ := wt9.all n _ h1
  have e0 : argDV Tryz.prog 22 ((rowL rTapi_Branch) x0) = .slice (x0.map rTapi_Branch) := by simp only [argDV, Tryz.underlying22, rowI, rowY, rowS, rowB, rowL, List.headD_cons]
  rw [e0]
  have e1 : argDV Tryz.prog 9 (rowS x1) = .str x1 := by simp only [argDV, Tryz.underlying9, rowI, rowY, rowS, rowB, rowL, List.headD_cons]
  rw [e1]
  exact spec_interchangelaw3_SchemePathsMatchSpec x0 x1 true ((fun (x0 : List Tapi_Branch) (x1 : List UInt8) (o0 : okL okTapi_Branch x0) (_ : okS x1) => law_pathsU x0 x1 o0) x0 x1 o0 o1)
noncomputable def wArgs : Array Value := #[.slice none 0 0, .string ⟨#[]⟩]
theorem good_of {W : World} (h : laidMet Tryz.prog Rows.schemePathsMatchSpecRow.laid W) (hs : W.ShapedOpen Tryz.prog) : Good W := fun t ht => by
  simp only [tabs, List.mem_cons, List.not_mem_nil, or_false] at ht
  rcases ht with rfl | rfl | rfl
  · exact tabAt_laid h (List.mem_of_getElem? (i := 2) (by kernel_rfl)) (show Tryz.prog.globalNamed "internal/strconv.uint64pow10" = some 3 by kernel_rfl) (by kernel_rfl) Tryz.underlying180 Tryz.underlying135 (by kernel_rfl) (by kernel_rfl) (by first | decide | simp)
  · exact tabAt_laid h (List.mem_of_getElem? (i := 1) (by kernel_rfl)) (show Tryz.prog.globalNamed "math/bits.deBruijn64tab" = some 7 by kernel_rfl) (by kernel_rfl) Tryz.underlying197 Tryz.underlying5 (by kernel_rfl) (by kernel_rfl) (by first | decide | simp)
  · exact tabAt_int (Tryz.lays146.s1_3 W hs)
theorem laid_met (os : Os) : laidMet Tryz.prog Rows.schemePathsMatchSpecRow.laid ((laidWorld os).forCall (fun _ _ => 0) ⟨#[], wArgs, []⟩).memory :=
  laidMet_of_run' 8 (by kernel_rfl) (by kernel_rfl)
theorem reads (os : Os) {H : Type} (enc : TypeId × Value → H) : ∃ x, DataW.whole enc Tryz.prog ((laidWorld os).forCall (fun _ _ => 0) ⟨#[], wArgs, []⟩).memory Tryz.f3.params.toList Rows.schemePathsMatchSpecSpec.vars false wArgs.toList 8 = some x :=
  Option.isSome_iff_exists.1 (by kernel_rfl)
set_option maxRecDepth 100000 in
theorem lifted (os : Os) (started : os.Started) (H : Type) (enc : TypeId × Value → H) (F : Stop.Interp) :
    ReturnsInHanded {} Tryz.checked os 3 .any ((OpenSpec.ofChange Rows.schemePathsMatchSpecSpec).preRow enc Tryz.prog Tryz.f3 Rows.schemePathsMatchSpecRow.domain false Rows.schemePathsMatchSpecRow.laid) (((OpenSpec.ofChange Rows.schemePathsMatchSpecSpec).at F).post enc Tryz.prog Tryz.f3 false true false false) := by
  obtain ⟨x, hx⟩ := reads os enc
  refine returnsInHanded_of_row (C := Tryz.checked) (s := OpenSpec.ofChange Rows.schemePathsMatchSpecSpec) ownK started (by kernel_rfl) Tryz.func3
    (witness_row_at (enc := enc) (C := Tryz.checked) false (laidWorld os) wArgs rfl (by kernel_rfl) (by kernel_rfl) (by kernel_rfl)
      (OpenSpec.preRow_of_cond 8 hx rfl (fun k hk => by cases hk) (by kernel_rfl) (laid_met os))) ?_
  intro W base args ds gs before hval hW _ _ _ hL hS _
  exact law_postL (L := [9, 22, 23, 58, 60, 62, 92, 94]) (by kernel_rfl) (spec := Rows.schemePathsMatchSpecSpec) rfl (fun ds hds => by
      rw [Tryz.params3] at hds
      match ds, hds with
      | [_, _], _ => rfl) laidOut (by kernel_rfl) (by kernel_rfl) (by kernel_rfl) Tryz.underlying4 hval hW (fun n cs hcs _ => law n cs hcs) (good_of hL hS)
set_option maxHeartbeats 40000000 in
theorem closed : joinedFacts Tryz.prog 3 Tryz.f3 (OpenSpec.ofChange Rows.schemePathsMatchSpecSpec).bare Rows.schemePathsMatchSpecRow = true := by
  unfold joinedFacts
  repeat' (with_reducible apply and_t)
  all_goals (as_aux_lemma => kernel_rfl)
theorem said : Rows.SchemePathsMatchSpecSaid :=
  OpenClaim.holds_of_cond 3 Tryz.f3 rfl rfl rfl rfl rfl rfl rfl ⟨rfl, rfl, rfl, rfl, rfl⟩ rfl rfl rfl rfl rfl (by as_aux_lemma => kernel_rfl) Tryz.func3 closed
    (of_decide_eq_true (by as_aux_lemma => kernel_rfl)) (by unfold Func.isWrapper; first | (rw [if_pos (by decide +kernel)]; kernel_rfl) | (rw [if_neg (by decide +kernel)]; exact ⟨rfl, rfl⟩))
    (fun os started H enc _ F => by rw [OpenClaim.pre_eq_preRow]; exact lifted os started H enc F)
theorem plain (f : FuncId) (fn : Func) (hf : Tryz.pinned.checked.prog.funcNamed "interchange/interchangelaw3.SchemePathsMatchSpec" = some f) (hfn : Tryz.pinned.checked.prog.funcs[f]? = some fn) :
    true = Tryz.pinned.checked.prog.looks [] ∧ ∀ (j : Nat) t, fn.params[j]? = some t → Tryz.pinned.checked.prog.wantsStandIn t = false := by
  obtain rfl : f = 3 := Option.some.inj ((show Tryz.prog.funcNamed "interchange/interchangelaw3.SchemePathsMatchSpec" = some 3 by kernel_rfl).symm.trans hf) |>.symm
  obtain rfl : fn = Tryz.f3 := (Option.some.inj (Tryz.func3.symm.trans hfn)).symm
  refine ⟨by kernel_rfl, fun j t ht => ?_⟩
  have hall : Tryz.f3.params.toList.all (fun t => !Tryz.prog.wantsStandIn t) = true := by kernel_rfl
  have := List.all_eq_true.1 hall t (by simpa using Array.mem_of_getElem? ht)
  exact (show Tryz.prog.wantsStandIn t = false by simpa using this)
end schemePathsMatchSpec
theorem schemePathsMatchSpec_card : Rows.SchemePathsMatchSpecCardSaid :=
  Claim7.holds_tied_plain_at .later [] _ _ _ _ schemePathsMatchSpec.said (fun _ h => by cases h) (by kernel_rfl) (fun _ h => by cases h) schemePathsMatchSpec_row_tie rfl ⟨rfl, rfl⟩ (by kernel_rfl) rfl schemePathsMatchSpec.plain (by kernel_rfl)
#print axioms schemePathsMatchSpec_card
end Go.Proofs.YtdkncdkdbddgoaaGreatDoor

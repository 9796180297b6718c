/-
  DeskHeadsStay: the row and the card.
-/
import Derived.Test.YthcfbglbjipdaaaDoorBH1
namespace Go.Proofs.YthcfbglbjipdaaaDoor
open Go.ChangeShapes Go.WideShapes Go.ChangeAt Go.RowKit
set_option linter.unusedSimpArgs false
set_option linter.unusedVariables false
namespace deskHeadsStay
set_option maxRecDepth 100000 in
theorem law (cs : List DV) (h : ArgsOk Tryd.prog 3 Tryd.f3.params.toList cs) : PureSpec Tryd.prog 3 cs (.bool true) := by
  rw [Tryd.params3] at h
  obtain ⟨d0, _, rfl, h0, d1, _, rfl, h1, d2, _, rfl, h2, d3, _, rfl, h3, h⟩ := h
  obtain rfl := h
  obtain ⟨x0, rfl, o0⟩ := (wt22.up 0) 0 _ h0
  obtain ⟨x1, rfl, o1⟩ := (wt3.up 2) 0 _ h1
  obtain ⟨x2, rfl, o2⟩ := (wt3.up 2) 0 _ h2
  obtain ⟨x3, rfl, o3⟩ := (wt24.up 1) 0 _ h3
  have e0 : argDV Tryd.prog 22 ((rowL rTapi_Record) x0) = .slice (x0.map rTapi_Record) := by simp only [argDV, Tryd.underlying22, rowI, rowY, rowS, rowB, rowL, List.headD_cons]
  rw [e0]
  have e1 : argDV Tryd.prog 3 (rowI x1) = .int .i64 x1 := by simp only [argDV, Tryd.underlying3, rowI, rowY, rowS, rowB, rowL, List.headD_cons]
  rw [e1]
  have e2 : argDV Tryd.prog 3 (rowI x2) = .int .i64 x2 := by simp only [argDV, Tryd.underlying3, rowI, rowY, rowS, rowB, rowL, List.headD_cons]
  rw [e2]
  have e3 : argDV Tryd.prog 24 (rTapi_Record x3) = .agg (rTapi_Record x3) := by simp only [argDV, Tryd.underlying24]
  rw [e3]
  exact spec_interchangelaw12_DeskHeadsStay x0 x1 x2 x3 true ((fun (x0 : List Tapi_Record) (x1 x2 : Int) (x3 : Tapi_Record) (o0 : okL okTapi_Record x0) (_ : okI x1) (_ : okI x2) (o3 : okTapi_Record x3) => law_heads x0 x1 x2 x3 (fun q hq => ⟨(o0.2 q hq).2.1, (o0.2 q hq).2.2.1, (o0.2 q hq).2.2.2.1, (o0.2 q hq).2.2.2.2.2⟩) ⟨o3.2.1, o3.2.2.1, o3.2.2.2.1, o3.2.2.2.2.2⟩) x0 x1 x2 x3 o0 o1 o2 o3)
noncomputable def wArgs : Array Value := #[.slice none 0 0, .int .i64 0, .int .i64 0, .agg #[.int .i64 0, .string ⟨#[]⟩, .string ⟨#[]⟩, .string ⟨#[]⟩, .bool false, .string ⟨#[]⟩]]
theorem good_of {W : World} (h : laidMet Tryd.prog Rows.deskHeadsStayRow.laid W) : Good W := fun t ht => by
  simp only [tabs, List.mem_cons, List.not_mem_nil, or_false] at ht
  rcases ht with rfl | rfl
  · exact tabAt_laid h (List.mem_of_getElem? (i := 2) (by kernel_rfl)) (show Tryd.prog.globalNamed "internal/strconv.uint64pow10" = some 0 by kernel_rfl) (by kernel_rfl) Tryd.underlying96 Tryd.underlying50 (by kernel_rfl) (by kernel_rfl)
  · exact tabAt_laid h (List.mem_of_getElem? (i := 1) (by kernel_rfl)) (show Tryd.prog.globalNamed "math/bits.deBruijn64tab" = some 5 by kernel_rfl) (by kernel_rfl) Tryd.underlying108 Tryd.underlying5 (by kernel_rfl) (by kernel_rfl)
theorem laid_met (os : Os) : laidMet Tryd.prog Rows.deskHeadsStayRow.laid ((laidWorld os).forCall (fun _ _ => 0) ⟨#[], wArgs, []⟩).memory :=
  laidMet_of_run' 8 (by kernel_rfl) (by kernel_rfl)
theorem reads (os : Os) {H : Type} (enc : TypeId × Value → H) : ∃ x, DataW.whole enc Tryd.prog ((laidWorld os).forCall (fun _ _ => 0) ⟨#[], wArgs, []⟩).memory Tryd.f3.params.toList Rows.deskHeadsStaySpec.vars false wArgs.toList 8 = some x :=
  Option.isSome_iff_exists.1 (by kernel_rfl)
set_option maxRecDepth 100000 in
theorem lifted (os : Os) (started : os.Started) (H : Type) (enc : TypeId × Value → H) (F : Stop.Interp) :
    ReturnsInHanded {} Tryd.checked os 3 .any ((OpenSpec.ofChange Rows.deskHeadsStaySpec).preRow enc Tryd.prog Tryd.f3 Rows.deskHeadsStayRow.domain false Rows.deskHeadsStayRow.laid) (((OpenSpec.ofChange Rows.deskHeadsStaySpec).at F).post enc Tryd.prog Tryd.f3 false true false false) := by
  obtain ⟨x, hx⟩ := reads os enc
  refine returnsInHanded_of_row (C := Tryd.checked) (s := OpenSpec.ofChange Rows.deskHeadsStaySpec) ownK started (by kernel_rfl) Tryd.func3
    (witness_row_at (enc := enc) (C := Tryd.checked) false (laidWorld os) wArgs rfl (by kernel_rfl) (by kernel_rfl) (by kernel_rfl)
      (OpenSpec.preRow_of_cond 8 hx rfl (fun k hk => by cases hk) (by kernel_rfl) (laid_met os))) ?_
  intro W base args ds gs before hval hW _ _ _ hL _ _
  exact law_post (n := 3) (spec := Rows.deskHeadsStaySpec) rfl (fun ds hds => by
      rw [Tryd.params3] at hds
      match ds, hds with
      | [_, _, _, _], _ => rfl) laidOut (by kernel_rfl) (by kernel_rfl) (by kernel_rfl) Tryd.underlying4 hval hW (fun cs hcs _ => law cs hcs) (good_of hL)
set_option maxHeartbeats 40000000 in
theorem closed : joinedFacts Tryd.prog 3 Tryd.f3 (OpenSpec.ofChange Rows.deskHeadsStaySpec).bare Rows.deskHeadsStayRow = true := by
  unfold joinedFacts
  repeat' (with_reducible apply and_t)
  all_goals (as_aux_lemma => kernel_rfl)
theorem said : Rows.DeskHeadsStaySaid :=
  OpenClaim.holds_of_cond 3 Tryd.f3 rfl rfl rfl rfl rfl rfl rfl ⟨rfl, rfl, rfl, rfl, rfl⟩ rfl rfl rfl rfl rfl (by as_aux_lemma => kernel_rfl) Tryd.func3 closed
    (of_decide_eq_true (by as_aux_lemma => kernel_rfl)) (by unfold Func.isWrapper; first | (rw [if_pos (by decide +kernel)]; kernel_rfl) | (rw [if_neg (by decide +kernel)]; exact ⟨rfl, rfl⟩))
    (fun os started H enc _ F => by rw [OpenClaim.pre_eq_preRow]; exact lifted os started H enc F)
theorem plain (f : FuncId) (fn : Func) (hf : Tryd.pinned.checked.prog.funcNamed "interchange/interchangelaw12.DeskHeadsStay" = some f) (hfn : Tryd.pinned.checked.prog.funcs[f]? = some fn) :
    false = Tryd.pinned.checked.prog.looks [] ∧ ∀ (j : Nat) t, fn.params[j]? = some t → Tryd.pinned.checked.prog.wantsStandIn t = false := by
  obtain rfl : f = 3 := Option.some.inj ((show Tryd.prog.funcNamed "interchange/interchangelaw12.DeskHeadsStay" = some 3 by kernel_rfl).symm.trans hf) |>.symm
  obtain rfl : fn = Tryd.f3 := (Option.some.inj (Tryd.func3.symm.trans hfn)).symm
  refine ⟨by kernel_rfl, fun j t ht => ?_⟩
  have hall : Tryd.f3.params.toList.all (fun t => !Tryd.prog.wantsStandIn t) = true := by kernel_rfl
  have := List.all_eq_true.1 hall t (by simpa using Array.mem_of_getElem? ht)
  exact (show Tryd.prog.wantsStandIn t = false by simpa using this)
end deskHeadsStay
theorem deskHeadsStay_card : Rows.DeskHeadsStayCardSaid :=
  Claim7.holds_tied_plain_at .later [] _ _ _ _ deskHeadsStay.said (fun _ h => by cases h) (by kernel_rfl) (fun _ h => by cases h) deskHeadsStay_row_tie rfl ⟨rfl, rfl⟩ (by kernel_rfl) rfl deskHeadsStay.plain (by kernel_rfl)
#print axioms deskHeadsStay_card
end Go.Proofs.YthcfbglbjipdaaaDoor

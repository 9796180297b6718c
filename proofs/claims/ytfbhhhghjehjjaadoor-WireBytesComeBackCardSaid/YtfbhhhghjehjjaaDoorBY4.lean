/-
  WireBytesComeBack: the row and the card.
-/
import Derived.Test.YtfbhhhghjehjjaaDoorBY3
namespace Go.Proofs.YtfbhhhghjehjjaaDoor
open Go.ChangeShapes Go.WideShapes Go.ChangeAt Go.RowKit
set_option linter.unusedSimpArgs false
set_option linter.unusedVariables false
namespace wireBytesComeBack
set_option maxRecDepth 100000 in
theorem law (cs : List DV) (h : ArgsOk Tryd.prog 7 Tryd.f4.params.toList cs) : PureSpec Tryd.prog 4 cs (.bool true) := by
  rw [Tryd.params4] at h
  obtain ⟨d0, _, rfl, h0, d1, _, rfl, h1, d2, _, rfl, h2, d3, _, rfl, h3, h⟩ := h
  obtain rfl := h
  obtain ⟨x0, rfl, o0⟩ := (wt22.up 5) 0 _ h0
  obtain ⟨x1, rfl, o1⟩ := (wt25.up 0) 0 _ h1
  obtain ⟨x2, rfl, o2⟩ := (wt24.up 5) 0 _ h2
  obtain ⟨x3, rfl, o3⟩ := (wt4.up 6) 0 _ h3
  have e0 : argDV Tryd.prog 22 ((rowL rowY) x0) = .slice (x0.map rowY) := by simp only [argDV, Tryd.underlying22, rowI, rowY, rowS, rowB, rowL, List.headD_cons]
  rw [e0]
  have e1 : argDV Tryd.prog 25 ((rowL rTapi_Segment) x1) = .slice (x1.map rTapi_Segment) := by simp only [argDV, Tryd.underlying25, rowI, rowY, rowS, rowB, rowL, List.headD_cons]
  rw [e1]
  have e2 : argDV Tryd.prog 24 (rTapi_Marks x2) = .agg (rTapi_Marks x2) := by simp only [argDV, Tryd.underlying24]
  rw [e2]
  have e3 : argDV Tryd.prog 4 (rowB x3) = .bool x3 := by simp only [argDV, Tryd.underlying4, rowI, rowY, rowS, rowB, rowL, List.headD_cons]
  rw [e3]
  exact spec_interchangelaw2_WireBytesComeBack x0 x1 x2 x3 true ((fun (x0 : List UInt8) (x1 : List Tapi_Segment) (x2 : Tapi_Marks) (x3 : Bool) (_ : okL okY x0) (o1 : okL okTapi_Segment x1) (_ : okTapi_Marks x2) (_ : okB x3) => law_bytes x0 x1 x2 x3 (fun s hs => (o1.2 s hs).1)) x0 x1 x2 x3 o0 o1 o2 o3)
noncomputable def wArgs : Array Value := #[.slice none 0 0, .slice none 0 0, .agg #[.int .u8 0, .int .u8 0, .int .u8 0, .int .u8 0, .int .u8 0], .bool false]
theorem good_of {W : World} (h : laidMet Tryd.prog Rows.wireBytesComeBackRow.laid W) (hs : W.ShapedOpen Tryd.prog) : Good W := fun t ht => by
  rcases List.mem_cons.1 ht with rfl | ht
  · exact tabAt_laid h (List.mem_of_getElem? (i := 1) (by kernel_rfl)) (show Tryd.prog.globalNamed "unicode/utf8.first" = some 1 by kernel_rfl) (by kernel_rfl) Tryd.underlying118 Tryd.underlying5 (by kernel_rfl) (by kernel_rfl) (by first | decide | simp)
  rcases List.mem_cons.1 ht with rfl | ht
  · exact tabAt_laid2 [(128, 191), (160, 191), (128, 159), (144, 191), (128, 143), (0, 0), (0, 0), (0, 0), (0, 0), (0, 0), (0, 0), (0, 0), (0, 0), (0, 0), (0, 0), (0, 0)] h (List.mem_of_getElem? (i := 0) (by kernel_rfl)) (show Tryd.prog.globalNamed "unicode/utf8.acceptRanges" = some 2 by kernel_rfl) (by kernel_rfl) Tryd.underlying121 Tryd.underlying120 Tryd.underlying5 rfl rfl rfl rfl rfl (by kernel_rfl) (by kernel_rfl) (by kernel_rfl) rfl (by simp)
  rcases List.mem_cons.1 ht with rfl | ht
  · exact tabAt_int (cell_of_shapedOpen_int (P := Tryd.prog) (g := 0) (t := 3) (zero := #[.int .i64 0]) hs (of_decide_eq_true (by kernel_rfl)) (by kernel_rfl) rfl (by kernel_rfl) (by kernel_rfl) Tryd.underlying3)
  exact absurd ht List.not_mem_nil
theorem laid_met (os : Os) : laidMet Tryd.prog Rows.wireBytesComeBackRow.laid ((laidWorld os).forCall (fun _ _ => 0) ⟨#[], wArgs, []⟩).memory :=
  laidMet_of_run' 8 (by kernel_rfl) (by kernel_rfl)
theorem reads (os : Os) {H : Type} (enc : TypeId × Value → H) : ∃ x, DataW.whole enc Tryd.prog ((laidWorld os).forCall (fun _ _ => 0) ⟨#[], wArgs, []⟩).memory Tryd.f4.params.toList Rows.wireBytesComeBackSpec.vars false wArgs.toList 8 = some x :=
  Option.isSome_iff_exists.1 (by kernel_rfl)
set_option maxRecDepth 100000 in
theorem lifted (os : Os) (started : os.Started) (H : Type) (enc : TypeId × Value → H) (F : Stop.Interp) :
    ReturnsInHanded {} Tryd.checked os 4 .any ((OpenSpec.ofChange Rows.wireBytesComeBackSpec).preRow enc Tryd.prog Tryd.f4 Rows.wireBytesComeBackRow.domain false Rows.wireBytesComeBackRow.laid) (((OpenSpec.ofChange Rows.wireBytesComeBackSpec).at F).post enc Tryd.prog Tryd.f4 false true false false) := by
  obtain ⟨x, hx⟩ := reads os enc
  refine returnsInHanded_of_row (C := Tryd.checked) (s := OpenSpec.ofChange Rows.wireBytesComeBackSpec) ownK started (by kernel_rfl) Tryd.func4
    (witness_row_at (enc := enc) (C := Tryd.checked) false (laidWorld os) wArgs rfl (by kernel_rfl) (by kernel_rfl) (by kernel_rfl)
      (OpenSpec.preRow_of_cond 8 hx rfl (fun k hk => by cases hk) (by kernel_rfl) (laid_met os))) ?_
  intro W base args ds gs before hval hW _ _ _ hL hS _
  exact law_post (n := 7) (spec := Rows.wireBytesComeBackSpec) rfl (fun ds hds => by
      rw [Tryd.params4] at hds
      match ds, hds with
      | [_, _, _, _], _ => rfl) laidOut (by kernel_rfl) (by kernel_rfl) (by kernel_rfl) Tryd.underlying4 hval hW (fun cs hcs _ => law cs hcs) (good_of hL hS)
set_option maxHeartbeats 40000000 in
theorem closed : joinedFacts Tryd.prog 4 Tryd.f4 (OpenSpec.ofChange Rows.wireBytesComeBackSpec).bare Rows.wireBytesComeBackRow = true := by
  unfold joinedFacts
  repeat' (with_reducible apply and_t)
  all_goals (as_aux_lemma => kernel_rfl)
theorem said : Rows.WireBytesComeBackSaid :=
  OpenClaim.holds_of_cond 4 Tryd.f4 rfl rfl rfl rfl rfl rfl rfl ⟨rfl, rfl, rfl, rfl, rfl⟩ rfl rfl rfl rfl rfl (by as_aux_lemma => kernel_rfl) Tryd.func4 closed
    (of_decide_eq_true (by as_aux_lemma => kernel_rfl)) (by unfold Func.isWrapper; first | (rw [if_pos (by decide +kernel)]; kernel_rfl) | (rw [if_neg (by decide +kernel)]; exact ⟨rfl, rfl⟩))
    (fun os started H enc _ F => by rw [OpenClaim.pre_eq_preRow]; exact lifted os started H enc F)
theorem plain (f : FuncId) (fn : Func) (hf : Tryd.pinned.checked.prog.funcNamed "interchange/interchangelaw2.WireBytesComeBack" = some f) (hfn : Tryd.pinned.checked.prog.funcs[f]? = some fn) :
    false = Tryd.pinned.checked.prog.looks [] ∧ ∀ (j : Nat) t, fn.params[j]? = some t → Tryd.pinned.checked.prog.wantsStandIn t = false := by
  obtain rfl : f = 4 := Option.some.inj ((show Tryd.prog.funcNamed "interchange/interchangelaw2.WireBytesComeBack" = some 4 by kernel_rfl).symm.trans hf) |>.symm
  obtain rfl : fn = Tryd.f4 := (Option.some.inj (Tryd.func4.symm.trans hfn)).symm
  refine ⟨by kernel_rfl, fun j t ht => ?_⟩
  have hall : Tryd.f4.params.toList.all (fun t => !Tryd.prog.wantsStandIn t) = true := by kernel_rfl
  have := List.all_eq_true.1 hall t (by simpa using Array.mem_of_getElem? ht)
  exact (show Tryd.prog.wantsStandIn t = false by simpa using this)
end wireBytesComeBack
theorem wireBytesComeBack_card : Rows.WireBytesComeBackCardSaid :=
  Claim7.holds_tied_plain_at .later [] _ _ _ _ wireBytesComeBack.said (fun _ h => by cases h) (by kernel_rfl) (fun _ h => by cases h) wireBytesComeBack_row_tie rfl ⟨rfl, rfl⟩ (by kernel_rfl) rfl wireBytesComeBack.plain (by kernel_rfl)
#print axioms wireBytesComeBack_card
end Go.Proofs.YtfbhhhghjehjjaaDoor

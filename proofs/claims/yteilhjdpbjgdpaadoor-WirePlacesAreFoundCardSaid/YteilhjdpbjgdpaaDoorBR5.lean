/-
  WirePlacesAreFound: the row and the card.
-/
import Derived.Test.YteilhjdpbjgdpaaDoorBRow
import Derived.Test.YteilhjdpbjgdpaaDoorBQ16
namespace Go.Proofs.YteilhjdpbjgdpaaDoor
open Go.ChangeShapes Go.WideShapes Go.ChangeAt Go.RowKit
set_option linter.unusedSimpArgs false
set_option linter.unusedVariables false
namespace wirePlacesAreFound
set_option maxRecDepth 100000 in
theorem law (cs : List DV) (h : ArgsOk Tryd.prog 7 Tryd.f12.params.toList cs) : PureSpec Tryd.prog 12 cs (.bool true) := by
  rw [Tryd.params12] at h
  obtain ⟨d0, _, rfl, h0, d1, _, rfl, h1, d2, _, rfl, h2, d3, _, rfl, h3, d4, _, rfl, h4, h⟩ := h
  obtain rfl := h
  obtain ⟨x0, rfl, o0⟩ := (wt34.up 0) 0 _ h0
  obtain ⟨x1, rfl, o1⟩ := (wt23.up 5) 0 _ h1
  obtain ⟨x2, rfl, o2⟩ := (wt4.up 6) 0 _ h2
  obtain ⟨x3, rfl, o3⟩ := (wt3.up 6) 0 _ h3
  obtain ⟨x4, rfl, o4⟩ := (wt51.up 5) 0 _ h4
  have e0 : argDV Tryd.prog 34 ((rowL rTapi_Segment) x0) = .slice (x0.map rTapi_Segment) := by simp only [argDV, Tryd.underlying34, rowI, rowY, rowS, rowB, rowL, List.headD_cons]
  rw [e0]
  have e1 : argDV Tryd.prog 23 (rTapi_Marks x1) = .agg (rTapi_Marks x1) := by simp only [argDV, Tryd.underlying23]
  rw [e1]
  have e2 : argDV Tryd.prog 4 (rowB x2) = .bool x2 := by simp only [argDV, Tryd.underlying4, rowI, rowY, rowS, rowB, rowL, List.headD_cons]
  rw [e2]
  have e3 : argDV Tryd.prog 3 (rowI x3) = .int .i64 x3 := by simp only [argDV, Tryd.underlying3, rowI, rowY, rowS, rowB, rowL, List.headD_cons]
  rw [e3]
  have e4 : argDV Tryd.prog 51 (rTapi_Spot x4) = .agg (rTapi_Spot x4) := by simp only [argDV, Tryd.underlying51]
  rw [e4]
  exact spec_interchangelaw2_WirePlacesAreFound x0 x1 x2 x3 x4 true ((fun (x0 : List Tapi_Segment) (x1 : Tapi_Marks) (x2 : Bool) (x3 : Int) (x4 : Tapi_Spot) (o0 : okL okTapi_Segment x0) (_ : okTapi_Marks x1) (_ : okB x2) (_ : okI x3) (_ : okTapi_Spot x4) => law_found x0 x1 x2 x3 x4 (fun s hs => (o0.2 s hs).1) o0.1) x0 x1 x2 x3 x4 o0 o1 o2 o3 o4)
noncomputable def wArgs : Array Value := #[.slice none 0 0, .agg #[.int .u8 0, .int .u8 0, .int .u8 0, .int .u8 0, .int .u8 0], .bool false, .int .i64 0, .agg #[.int .i64 0, .int .i64 0, .int .i64 0]]
theorem laid_met (os : Os) : laidMet Tryd.prog Rows.wirePlacesAreFoundRow.laid ((laidWorld os).forCall (fun _ _ => 0) ⟨#[], wArgs, []⟩).memory :=
  laidMet_of_run' 8 (by kernel_rfl) (by kernel_rfl)
theorem reads (os : Os) {H : Type} (enc : TypeId × Value → H) : ∃ x, DataW.whole enc Tryd.prog ((laidWorld os).forCall (fun _ _ => 0) ⟨#[], wArgs, []⟩).memory Tryd.f12.params.toList Rows.wirePlacesAreFoundSpec.vars false wArgs.toList 8 = some x :=
  Option.isSome_iff_exists.1 (by kernel_rfl)
set_option maxRecDepth 100000 in
theorem lifted (os : Os) (started : os.Started) (H : Type) (enc : TypeId × Value → H) (F : Stop.Interp) :
    ReturnsInHanded {} Tryd.checked os 12 .any ((OpenSpec.ofChange Rows.wirePlacesAreFoundSpec).preRow enc Tryd.prog Tryd.f12 Rows.wirePlacesAreFoundRow.domain false Rows.wirePlacesAreFoundRow.laid) (((OpenSpec.ofChange Rows.wirePlacesAreFoundSpec).at F).post enc Tryd.prog Tryd.f12 false true false false) := by
  obtain ⟨x, hx⟩ := reads os enc
  refine returnsInHanded_of_row (C := Tryd.checked) (s := OpenSpec.ofChange Rows.wirePlacesAreFoundSpec) ownK started (by kernel_rfl) Tryd.func12
    (witness_row_at (enc := enc) (C := Tryd.checked) false (laidWorld os) wArgs rfl (by kernel_rfl) (by kernel_rfl) (by kernel_rfl)
      (OpenSpec.preRow_of_cond 8 hx rfl (fun k hk => by cases hk) (by kernel_rfl) (laid_met os))) ?_
  intro W base args ds gs before hval hW _ _ _ hL _ _
  exact law_post (n := 7) (spec := Rows.wirePlacesAreFoundSpec) rfl (fun ds hds => by
      rw [Tryd.params12] at hds
      match ds, hds with
      | [_, _, _, _, _], _ => rfl) laidOut (by kernel_rfl) (by kernel_rfl) (by kernel_rfl) Tryd.underlying4 hval hW (fun cs hcs _ => law cs hcs)
set_option maxHeartbeats 40000000 in
theorem closed : joinedFacts Tryd.prog 12 Tryd.f12 (OpenSpec.ofChange Rows.wirePlacesAreFoundSpec).bare Rows.wirePlacesAreFoundRow = true := by
  unfold joinedFacts
  repeat' (with_reducible apply and_t)
  all_goals (as_aux_lemma => kernel_rfl)
theorem said : Rows.WirePlacesAreFoundSaid :=
  OpenClaim.holds_of_cond 12 Tryd.f12 rfl rfl rfl rfl rfl rfl rfl ⟨rfl, rfl, rfl, rfl, rfl⟩ rfl rfl rfl rfl rfl (by as_aux_lemma => kernel_rfl) Tryd.func12 closed
    (of_decide_eq_true (by as_aux_lemma => kernel_rfl)) (by unfold Func.isWrapper; first | (rw [if_pos (by decide +kernel)]; kernel_rfl) | (rw [if_neg (by decide +kernel)]; exact ⟨rfl, rfl⟩))
    (fun os started H enc _ F => by rw [OpenClaim.pre_eq_preRow]; exact lifted os started H enc F)
theorem plain (f : FuncId) (fn : Func) (hf : Tryd.pinned.checked.prog.funcNamed "interchange/interchangelaw2.WirePlacesAreFound" = some f) (hfn : Tryd.pinned.checked.prog.funcs[f]? = some fn) :
    false = Tryd.pinned.checked.prog.looks [] ∧ ∀ (j : Nat) t, fn.params[j]? = some t → Tryd.pinned.checked.prog.wantsStandIn t = false := by
  obtain rfl : f = 12 := Option.some.inj ((show Tryd.prog.funcNamed "interchange/interchangelaw2.WirePlacesAreFound" = some 12 by kernel_rfl).symm.trans hf) |>.symm
  obtain rfl : fn = Tryd.f12 := (Option.some.inj (Tryd.func12.symm.trans hfn)).symm
  refine ⟨by kernel_rfl, fun j t ht => ?_⟩
  have hall : Tryd.f12.params.toList.all (fun t => !Tryd.prog.wantsStandIn t) = true := by kernel_rfl
  have := List.all_eq_true.1 hall t (by simpa using Array.mem_of_getElem? ht)
  exact (show Tryd.prog.wantsStandIn t = false by simpa using this)
end wirePlacesAreFound
theorem wirePlacesAreFound_card : Rows.WirePlacesAreFoundCardSaid :=
  Claim7.holds_tied_plain_at .later [] _ _ _ _ wirePlacesAreFound.said (fun _ h => by cases h) (by kernel_rfl) (fun _ h => by cases h) wirePlacesAreFound_row_tie rfl ⟨rfl, rfl⟩ (by kernel_rfl) rfl wirePlacesAreFound.plain (by kernel_rfl)
#print axioms wirePlacesAreFound_card
end Go.Proofs.YteilhjdpbjgdpaaDoor

/-
  WireAuditsMatchSpec: the row and the card.
-/
import Derived.Test.YtcnohbiegjahkaaGreatDoorBX3
namespace Go.Proofs.YtcnohbiegjahkaaGreatDoor
open Go.ChangeShapes Go.WideShapes Go.ChangeAt Go.RowKit
set_option linter.unusedSimpArgs false
set_option linter.unusedVariables false
namespace wireAuditsMatchSpec
set_option maxRecDepth 100000 in
theorem law (cs : List DV) (h : ArgsOk Tryz.prog 7 Tryz.f3.params.toList cs) : PureSpec Tryz.prog 3 cs (.bool true) := by
  rw [Tryz.params3] at h
  obtain ⟨d0, _, rfl, h0, h⟩ := h
  obtain rfl := h
  obtain ⟨x0, rfl, o0⟩ := (wt22.up 0) 0 _ h0
  have e0 : argDV Tryz.prog 22 ((rowL rTapi_Segment) x0) = .slice (x0.map rTapi_Segment) := by simp only [argDV, Tryz.underlying22, rowI, rowY, rowS, rowB, rowL, List.headD_cons]
  rw [e0]
  exact spec_interchangelaw2_WireAuditsMatchSpec x0 true ((fun (x0 : List Tapi_Segment) (o0 : okL okTapi_Segment x0) => law_audits x0 (fun s hs => (o0.2 s hs).1)) x0 o0)
noncomputable def wArgs : Array Value := #[.slice none 0 0]
theorem good_of {W : World} (h : laidMet Tryz.prog Rows.wireAuditsMatchSpecRow.laid W) (hs : W.ShapedOpen Tryz.prog) : Good W := fun t ht => by
  rcases List.mem_cons.1 ht with rfl | ht
  · exact tabAt_laid h (List.mem_of_getElem? (i := 2) (by kernel_rfl)) (show Tryz.prog.globalNamed "internal/strconv.uint64pow10" = some 1 by kernel_rfl) (by kernel_rfl) Tryz.underlying163 Tryz.underlying149 (by kernel_rfl) (by kernel_rfl) (by first | decide | simp)
  exact absurd ht List.not_mem_nil
theorem laid_met (os : Os) : laidMet Tryz.prog Rows.wireAuditsMatchSpecRow.laid ((laidWorld os).forCall (fun _ _ => 0) ⟨#[], wArgs, []⟩).memory :=
  laidMet_of_run' 8 (by kernel_rfl) (by kernel_rfl)
theorem reads (os : Os) {H : Type} (enc : TypeId × Value → H) : ∃ x, DataW.whole enc Tryz.prog ((laidWorld os).forCall (fun _ _ => 0) ⟨#[], wArgs, []⟩).memory Tryz.f3.params.toList Rows.wireAuditsMatchSpecSpec.vars false wArgs.toList 8 = some x :=
  Option.isSome_iff_exists.1 (by kernel_rfl)
set_option maxRecDepth 100000 in
theorem lifted (os : Os) (started : os.Started) (H : Type) (enc : TypeId × Value → H) (F : Stop.Interp) :
    ReturnsInHanded {} Tryz.checked os 3 .any ((OpenSpec.ofChange Rows.wireAuditsMatchSpecSpec).preRow enc Tryz.prog Tryz.f3 Rows.wireAuditsMatchSpecRow.domain false Rows.wireAuditsMatchSpecRow.laid) (((OpenSpec.ofChange Rows.wireAuditsMatchSpecSpec).at F).post enc Tryz.prog Tryz.f3 false true false false) := by
  obtain ⟨x, hx⟩ := reads os enc
  refine returnsInHanded_of_row (C := Tryz.checked) (s := OpenSpec.ofChange Rows.wireAuditsMatchSpecSpec) ownK started (by kernel_rfl) Tryz.func3
    (witness_row_at (enc := enc) (C := Tryz.checked) false (laidWorld os) wArgs rfl (by kernel_rfl) (by kernel_rfl) (by kernel_rfl)
      (OpenSpec.preRow_of_cond 8 hx rfl (fun k hk => by cases hk) (by kernel_rfl) (laid_met os))) ?_
  intro W base args ds gs before hval hW _ _ _ hL hS _
  exact law_post (n := 7) (spec := Rows.wireAuditsMatchSpecSpec) rfl (fun ds hds => by
      rw [Tryz.params3] at hds
      match ds, hds with
      | [_], _ => rfl) laidOut (by kernel_rfl) (by kernel_rfl) (by kernel_rfl) Tryz.underlying4 hval hW (fun cs hcs _ => law cs hcs) (good_of hL hS)
set_option maxHeartbeats 40000000 in
theorem closed : joinedFacts Tryz.prog 3 Tryz.f3 (OpenSpec.ofChange Rows.wireAuditsMatchSpecSpec).bare Rows.wireAuditsMatchSpecRow = true := by
  unfold joinedFacts
  repeat' (with_reducible apply and_t)
  all_goals (as_aux_lemma => kernel_rfl)
theorem said : Rows.WireAuditsMatchSpecSaid :=
  OpenClaim.holds_of_cond 3 Tryz.f3 rfl rfl rfl rfl rfl rfl rfl ⟨rfl, rfl, rfl, rfl, rfl⟩ rfl rfl rfl rfl rfl (by as_aux_lemma => kernel_rfl) Tryz.func3 closed
    (of_decide_eq_true (by as_aux_lemma => kernel_rfl)) (by unfold Func.isWrapper; first | (rw [if_pos (by decide +kernel)]; kernel_rfl) | (rw [if_neg (by decide +kernel)]; exact ⟨rfl, rfl⟩))
    (fun os started H enc _ F => by rw [OpenClaim.pre_eq_preRow]; exact lifted os started H enc F)
theorem plain (f : FuncId) (fn : Func) (hf : Tryz.pinned.checked.prog.funcNamed "interchange/interchangelaw2.WireAuditsMatchSpec" = some f) (hfn : Tryz.pinned.checked.prog.funcs[f]? = some fn) :
    true = Tryz.pinned.checked.prog.looks [] ∧ ∀ (j : Nat) t, fn.params[j]? = some t → Tryz.pinned.checked.prog.wantsStandIn t = false := by
  obtain rfl : f = 3 := Option.some.inj ((show Tryz.prog.funcNamed "interchange/interchangelaw2.WireAuditsMatchSpec" = some 3 by kernel_rfl).symm.trans hf) |>.symm
  obtain rfl : fn = Tryz.f3 := (Option.some.inj (Tryz.func3.symm.trans hfn)).symm
  refine ⟨by kernel_rfl, fun j t ht => ?_⟩
  have hall : Tryz.f3.params.toList.all (fun t => !Tryz.prog.wantsStandIn t) = true := by kernel_rfl
  have := List.all_eq_true.1 hall t (by simpa using Array.mem_of_getElem? ht)
  exact (show Tryz.prog.wantsStandIn t = false by simpa using this)
end wireAuditsMatchSpec
theorem wireAuditsMatchSpec_card : Rows.WireAuditsMatchSpecCardSaid :=
  Claim7.holds_tied_plain_at .later [] _ _ _ _ wireAuditsMatchSpec.said (fun _ h => by cases h) (by kernel_rfl) (fun _ h => by cases h) wireAuditsMatchSpec_row_tie rfl ⟨rfl, rfl⟩ (by kernel_rfl) rfl wireAuditsMatchSpec.plain (by kernel_rfl)
#print axioms wireAuditsMatchSpec_card
end Go.Proofs.YtcnohbiegjahkaaGreatDoor

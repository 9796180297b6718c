/-
  WireJoinsMatchSpec: the row and the card.
-/
import Derived.Test.YteilhjdpbjgdpaaDoorRow
import Derived.Test.YteilhjdpbjgdpaaDoorQ12
namespace Go.Proofs.YteilhjdpbjgdpaaDoor
open Go.ChangeShapes Go.WideShapes Go.ChangeAt Go.RowKit
set_option linter.unusedSimpArgs false
set_option linter.unusedVariables false
namespace wireJoinsMatchSpec
set_option maxRecDepth 100000 in
theorem law (cs : List DV) (h : ArgsOk Tryd.prog 7 Tryd.f10.params.toList cs) : PureSpec Tryd.prog 10 cs (.bool true) := by
  rw [Tryd.params10] at h
  obtain ⟨d0, _, rfl, h0, d1, _, rfl, h1, d2, _, rfl, h2, h⟩ := h
  obtain rfl := h
  obtain ⟨x0, rfl, o0⟩ := (wt34.up 0) 0 _ h0
  obtain ⟨x1, rfl, o1⟩ := (wt23.up 5) 0 _ h1
  obtain ⟨x2, rfl, o2⟩ := (wt4.up 6) 0 _ h2
  have e0 : argDV Tryd.prog 34 ((rowL rTapi_Segment) x0) = .slice (x0.map rTapi_Segment) := by simp only [argDV, Tryd.underlying34, rowI, rowY, rowS, rowB, rowL, List.headD_cons]
  rw [e0]
  have e1 : argDV Tryd.prog 23 (rTapi_Marks x1) = .agg (rTapi_Marks x1) := by simp only [argDV, Tryd.underlying23]
  rw [e1]
  have e2 : argDV Tryd.prog 4 (rowB x2) = .bool x2 := by simp only [argDV, Tryd.underlying4, rowI, rowY, rowS, rowB, rowL, List.headD_cons]
  rw [e2]
  exact spec_interchangelaw2_WireJoinsMatchSpec x0 x1 x2 true ((fun (x0 : List Tapi_Segment) (x1 : Tapi_Marks) (x2 : Bool) (o0 : okL okTapi_Segment x0) (_ : okTapi_Marks x1) (_ : okB x2) => law_joins x0 x1 x2 (fun s hs => (o0.2 s hs).1)) x0 x1 x2 o0 o1 o2)
noncomputable def wArgs : Array Value := #[.slice none 0 0, .agg #[.int .u8 0, .int .u8 0, .int .u8 0, .int .u8 0, .int .u8 0], .bool false]
theorem laid_met (os : Os) : laidMet Tryd.prog Rows.wireJoinsMatchSpecRow.laid ((laidWorld os).forCall (fun _ _ => 0) ⟨#[], wArgs, []⟩).memory :=
  laidMet_of_run' 8 (by kernel_rfl) (by kernel_rfl)
theorem reads (os : Os) {H : Type} (enc : TypeId × Value → H) : ∃ x, DataW.whole enc Tryd.prog ((laidWorld os).forCall (fun _ _ => 0) ⟨#[], wArgs, []⟩).memory Tryd.f10.params.toList Rows.wireJoinsMatchSpecSpec.vars false wArgs.toList 8 = some x :=
  Option.isSome_iff_exists.1 (by kernel_rfl)
set_option maxRecDepth 100000 in
theorem lifted (os : Os) (started : os.Started) (H : Type) (enc : TypeId × Value → H) (F : Stop.Interp) :
    ReturnsInHanded {} Tryd.checked os 10 .any ((OpenSpec.ofChange Rows.wireJoinsMatchSpecSpec).preRow enc Tryd.prog Tryd.f10 Rows.wireJoinsMatchSpecRow.domain false Rows.wireJoinsMatchSpecRow.laid) (((OpenSpec.ofChange Rows.wireJoinsMatchSpecSpec).at F).post enc Tryd.prog Tryd.f10 false true false false) := by
  obtain ⟨x, hx⟩ := reads os enc
  refine returnsInHanded_of_row (C := Tryd.checked) (s := OpenSpec.ofChange Rows.wireJoinsMatchSpecSpec) ownK started (by kernel_rfl) Tryd.func10
    (witness_row_at (enc := enc) (C := Tryd.checked) false (laidWorld os) wArgs rfl (by kernel_rfl) (by kernel_rfl) (by kernel_rfl)
      (OpenSpec.preRow_of_cond 8 hx rfl (fun k hk => by cases hk) (by kernel_rfl) (laid_met os))) ?_
  intro W base args ds gs before hval hW _ _ _ hL _ _
  exact law_post (n := 7) (spec := Rows.wireJoinsMatchSpecSpec) rfl (fun ds hds => by
      rw [Tryd.params10] at hds
      match ds, hds with
      | [_, _, _], _ => rfl) laidOut (by kernel_rfl) (by kernel_rfl) (by kernel_rfl) Tryd.underlying4 hval hW (fun cs hcs _ => law cs hcs)
set_option maxHeartbeats 40000000 in
theorem closed : joinedFacts Tryd.prog 10 Tryd.f10 (OpenSpec.ofChange Rows.wireJoinsMatchSpecSpec).bare Rows.wireJoinsMatchSpecRow = true := by
  unfold joinedFacts
  repeat' (with_reducible apply and_t)
  all_goals (as_aux_lemma => kernel_rfl)
theorem said : Rows.WireJoinsMatchSpecSaid :=
  OpenClaim.holds_of_cond 10 Tryd.f10 rfl rfl rfl rfl rfl rfl rfl ⟨rfl, rfl, rfl, rfl, rfl⟩ rfl rfl rfl rfl rfl (by as_aux_lemma => kernel_rfl) Tryd.func10 closed
    (of_decide_eq_true (by as_aux_lemma => kernel_rfl)) (by unfold Func.isWrapper; first | (rw [if_pos (by decide +kernel)]; kernel_rfl) | (rw [if_neg (by decide +kernel)]; exact ⟨rfl, rfl⟩))
    (fun os started H enc _ F => by rw [OpenClaim.pre_eq_preRow]; exact lifted os started H enc F)
theorem plain (f : FuncId) (fn : Func) (hf : Tryd.pinned.checked.prog.funcNamed "interchange/interchangelaw2.WireJoinsMatchSpec" = some f) (hfn : Tryd.pinned.checked.prog.funcs[f]? = some fn) :
    false = Tryd.pinned.checked.prog.looks [] ∧ ∀ (j : Nat) t, fn.params[j]? = some t → Tryd.pinned.checked.prog.wantsStandIn t = false := by
  obtain rfl : f = 10 := Option.some.inj ((show Tryd.prog.funcNamed "interchange/interchangelaw2.WireJoinsMatchSpec" = some 10 by kernel_rfl).symm.trans hf) |>.symm
  obtain rfl : fn = Tryd.f10 := (Option.some.inj (Tryd.func10.symm.trans hfn)).symm
  refine ⟨by kernel_rfl, fun j t ht => ?_⟩
  have hall : Tryd.f10.params.toList.all (fun t => !Tryd.prog.wantsStandIn t) = true := by kernel_rfl
  have := List.all_eq_true.1 hall t (by simpa using Array.mem_of_getElem? ht)
  exact (show Tryd.prog.wantsStandIn t = false by simpa using this)
end wireJoinsMatchSpec
theorem wireJoinsMatchSpec_card : Rows.WireJoinsMatchSpecCardSaid :=
  Claim7.holds_tied_plain_at .later [] _ _ _ _ wireJoinsMatchSpec.said (fun _ h => by cases h) (by kernel_rfl) (fun _ h => by cases h) wireJoinsMatchSpec_row_tie rfl ⟨rfl, rfl⟩ (by kernel_rfl) rfl wireJoinsMatchSpec.plain (by kernel_rfl)
#print axioms wireJoinsMatchSpec_card
end Go.Proofs.YteilhjdpbjgdpaaDoor

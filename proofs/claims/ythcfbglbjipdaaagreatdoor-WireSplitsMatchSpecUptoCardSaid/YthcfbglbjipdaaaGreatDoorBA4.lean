/-
  WireSplitsMatchSpec: the row and the card (where what it reads is of bulk at most 1048576).
-/
import Derived.Test.YthcfbglbjipdaaaGreatDoorBA3
namespace Go.Proofs.YthcfbglbjipdaaaGreatDoor
open Go.ChangeShapes Go.WideShapes Go.ChangeAt Go.RowKit
set_option linter.unusedSimpArgs false
set_option linter.unusedVariables false
mutual
theorem ub_eq {H : Type} : ∀ d : DataW H, Rows.uptoBulk d = bulkW d
  | .lit (.string b) => rfl
  | .lit (.int _ _) => rfl
  | .lit (.bool _) => rfl
  | .lit (.float _ _) => rfl
  | .lit .nil => rfl
  | .nil => rfl
  | .ptr d => by simp only [Rows.uptoBulk, bulkW, ub_eq d]
  | .slice a b => by simp only [Rows.uptoBulk, bulkW, ubs_eq a, ubs_eq b]
  | .agg a => by simp only [Rows.uptoBulk, bulkW, ubs_eq a]
  | .iface _ d => by simp only [Rows.uptoBulk, bulkW, ub_eq d]
  | .map e => by simp only [Rows.uptoBulk, bulkW, ube_eq e]
  | .held _ => rfl
theorem ubs_eq {H : Type} : ∀ l : List (DataW H), Rows.uptoBulkAll l = bulkWs l
  | [] => rfl
  | d :: r => by simp only [Rows.uptoBulkAll, bulkWs, ub_eq d, ubs_eq r]
theorem ube_eq {H : Type} : ∀ l : List (Lit × DataW H), Rows.uptoBulkEntries l = bulkWe l
  | [] => rfl
  | x :: r => by simp only [Rows.uptoBulkEntries, bulkWe, ubx_eq x, ube_eq r]
theorem ubx_eq {H : Type} : ∀ x : Lit × DataW H, Rows.uptoBulkEntry x = bulkWx x
  | (.string b, d) => by simp only [Rows.uptoBulkEntry, bulkWx, ub_eq d]
  | (.int _ _, d) => by simp only [Rows.uptoBulkEntry, bulkWx, ub_eq d]
  | (.bool _, d) => by simp only [Rows.uptoBulkEntry, bulkWx, ub_eq d]
  | (.float _ _, d) => by simp only [Rows.uptoBulkEntry, bulkWx, ub_eq d]
  | (.nil, d) => by simp only [Rows.uptoBulkEntry, bulkWx, ub_eq d]
end
namespace wireSplitsMatchSpecUpto
set_option maxRecDepth 100000 in
theorem law (cs : List DV) (h : ArgsOk Tryz.prog 13 Tryz.f3.params.toList cs) (hb : dvBL cs ≤ 1048576) : PureSpec Tryz.prog 3 cs (.bool true) := by
  rw [Tryz.params3] at h
  obtain ⟨d0, _, rfl, h0, d1, _, rfl, h1, d2, _, rfl, h2, h⟩ := h
  obtain rfl := h
  obtain ⟨x0, rfl, o0⟩ := (wt24.up 1) 0 _ h0
  obtain ⟨x1, rfl, o1⟩ := (wt3.up 12) 0 _ h1
  obtain ⟨x2, rfl, o2⟩ := (wt25.up 0) 0 _ h2
  have e0 : argDV Tryz.prog 24 (rTapi_Interchange x0) = .agg (rTapi_Interchange x0) := by simp only [argDV, Tryz.underlying24]
  rw [e0] at hb ⊢
  have e1 : argDV Tryz.prog 3 (rowI x1) = .int .i64 x1 := by simp only [argDV, Tryz.underlying3, rowI, rowY, rowS, rowB, rowL, List.headD_cons]
  rw [e1] at hb ⊢
  have e2 : argDV Tryz.prog 25 ((rowL rTapi_Interchange) x2) = .slice (x2.map rTapi_Interchange) := by simp only [argDV, Tryz.underlying25, rowI, rowY, rowS, rowB, rowL, List.headD_cons]
  rw [e2] at hb ⊢
  exact spec_interchangelaw2_WireSplitsMatchSpec x0 x1 x2 true ((fun (x0 : Tapi_Interchange) (x1 : Int) (x2 : List Tapi_Interchange) (o0 : okTapi_Interchange x0) (_ : okI x1) (o2 : okL okTapi_Interchange x2) (hb : dvBL [.agg (rTapi_Interchange x0), .int .i64 x1, .slice (x2.map rTapi_Interchange)] <= 1048576) => law_splits x0 x1 x2 (ix_ok x0 o0 (by simp only [dvBL, dvB] at hb; omega)) (ixs_ok x2 o2 (by simp only [dvBL, dvB] at hb; omega))) x0 x1 x2 o0 o1 o2 hb)
noncomputable def wArgs : Array Value := #[.agg #[.string ⟨#[]⟩, .string ⟨#[]⟩, .string ⟨#[]⟩, .int .i64 0, .int .i64 0, .bool false, .slice none 0 0], .int .i64 0, .slice none 0 0]
theorem good_of {W : World} (h : laidMet Tryz.prog Rows.wireSplitsMatchSpecRow.laid W) : Good W := fun t ht => by
  simp only [tabs, List.mem_cons, List.not_mem_nil, or_false] at ht
  rcases ht with rfl
  · exact tabAt_laid h (List.mem_of_getElem? (i := 2) (by kernel_rfl)) (show Tryz.prog.globalNamed "internal/strconv.uint64pow10" = some 0 by kernel_rfl) (by kernel_rfl) Tryz.underlying123 Tryz.underlying106 (by kernel_rfl) (by kernel_rfl)
theorem laid_met (os : Os) : laidMet Tryz.prog Rows.wireSplitsMatchSpecUptoRow.laid ((laidWorld os).forCall (fun _ _ => 0) ⟨#[], wArgs, []⟩).memory :=
  laidMet_of_run' 8 (by kernel_rfl) (by kernel_rfl)
theorem reads (os : Os) {H : Type} (enc : TypeId × Value → H) : ∃ places, DataW.whole enc Tryz.prog ((laidWorld os).forCall (fun _ _ => 0) ⟨#[], wArgs, []⟩).memory Tryz.f3.params.toList Rows.wireSplitsMatchSpecSpec.vars false wArgs.toList 8 = some ([.agg [.lit (.string []), .lit (.string []), .lit (.string []), .lit (.int .i64 0), .lit (.int .i64 0), .lit (.bool false), .nil], .lit (.int .i64 0), .nil], [], places) :=
  ⟨[], by kernel_rfl⟩
set_option maxRecDepth 100000 in
theorem lifted (os : Os) (started : os.Started) (H : Type) (enc : TypeId × Value → H) (F : Stop.Interp) :
    ReturnsInHanded {} Tryz.checked os 3 .any ((Rows.OpenSpec.upto Rows.wireSplitsMatchSpecSpec).preRow enc Tryz.prog Tryz.f3 Rows.wireSplitsMatchSpecUptoRow.domain false Rows.wireSplitsMatchSpecUptoRow.laid) (((Rows.OpenSpec.upto Rows.wireSplitsMatchSpecSpec).at F).post enc Tryz.prog Tryz.f3 false true false false) := by
  obtain ⟨places, hx⟩ := reads os enc
  refine returnsInHanded_of_row (C := Tryz.checked) (s := Rows.OpenSpec.upto Rows.wireSplitsMatchSpecSpec) ownK started (by kernel_rfl) Tryz.func3
    (witness_row_at (enc := enc) (C := Tryz.checked) false (laidWorld os) wArgs rfl (by kernel_rfl) (by kernel_rfl) (by kernel_rfl)
      (OpenSpec.preRow_of_cond 8 hx (by kernel_rfl) (fun k hk => by cases hk; kernel_rfl) (by kernel_rfl) (laid_met os))) ?_
  intro W base args ds gs before hval hW _ hcond _ hL _ _
  exact law_post (n := 13) (spec := Rows.wireSplitsMatchSpecSpec) rfl (fun ds hds => by
      rw [Tryz.params3] at hds
      match ds, hds with
      | [_, _, _], _ => rfl) laidOut (by kernel_rfl) (by kernel_rfl) (by kernel_rfl) Tryz.underlying4 hval hW (fun cs hcs hb => law cs hcs (Nat.le_trans hb (by have hk := of_decide_eq_true (hcond _ rfl); rw [ubs_eq] at hk; exact hk))) (good_of hL)
set_option maxHeartbeats 40000000 in
theorem closed : joinedFacts Tryz.prog 3 Tryz.f3 (Rows.OpenSpec.upto Rows.wireSplitsMatchSpecSpec).bare Rows.wireSplitsMatchSpecUptoRow = true := by
  unfold joinedFacts
  repeat' (with_reducible apply and_t)
  all_goals (as_aux_lemma => kernel_rfl)
theorem said : Rows.WireSplitsMatchSpecUptoSaid :=
  OpenClaim.holds_of_cond 3 Tryz.f3 rfl rfl rfl rfl rfl rfl rfl ⟨rfl, rfl, rfl, rfl, rfl⟩ rfl rfl rfl rfl rfl (by as_aux_lemma => kernel_rfl) Tryz.func3 closed
    (of_decide_eq_true (by as_aux_lemma => kernel_rfl)) (by unfold Func.isWrapper; first | (rw [if_pos (by decide +kernel)]; kernel_rfl) | (rw [if_neg (by decide +kernel)]; exact ⟨rfl, rfl⟩))
    (fun os started H enc _ F => by rw [OpenClaim.pre_eq_preRow]; exact lifted os started H enc F)
theorem plain (f : FuncId) (fn : Func) (hf : Tryz.pinned.checked.prog.funcNamed "interchange/interchangelaw2.WireSplitsMatchSpec" = some f) (hfn : Tryz.pinned.checked.prog.funcs[f]? = some fn) :
    false = Tryz.pinned.checked.prog.looks [] ∧ ∀ (j : Nat) t, fn.params[j]? = some t → Tryz.pinned.checked.prog.wantsStandIn t = false := by
  obtain rfl : f = 3 := Option.some.inj ((show Tryz.prog.funcNamed "interchange/interchangelaw2.WireSplitsMatchSpec" = some 3 by kernel_rfl).symm.trans hf) |>.symm
  obtain rfl : fn = Tryz.f3 := (Option.some.inj (Tryz.func3.symm.trans hfn)).symm
  refine ⟨by kernel_rfl, fun j t ht => ?_⟩
  have hall : Tryz.f3.params.toList.all (fun t => !Tryz.prog.wantsStandIn t) = true := by kernel_rfl
  have := List.all_eq_true.1 hall t (by simpa using Array.mem_of_getElem? ht)
  exact (show Tryz.prog.wantsStandIn t = false by simpa using this)
end wireSplitsMatchSpecUpto
theorem wireSplitsMatchSpecUpto_card : Rows.WireSplitsMatchSpecUptoCardSaid :=
  Claim7.holds_tied_plain_at .later [] _ _ _ _ wireSplitsMatchSpecUpto.said (fun _ h => by cases h) (by kernel_rfl) (fun _ h => by cases h) wireSplitsMatchSpecUpto_row_tie rfl ⟨rfl, rfl⟩ (by kernel_rfl) rfl wireSplitsMatchSpecUpto.plain (by kernel_rfl)
#print axioms wireSplitsMatchSpecUpto_card
end Go.Proofs.YthcfbglbjipdaaaGreatDoor

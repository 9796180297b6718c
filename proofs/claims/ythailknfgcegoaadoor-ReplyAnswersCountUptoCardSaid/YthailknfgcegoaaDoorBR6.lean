/-
  ReplyAnswersCount: the row and the card (where what it reads is of bulk at most 1048576).
-/
import Derived.Test.YthailknfgcegoaaDoorBC3
namespace Go.Proofs.YthailknfgcegoaaDoor
open Go.ChangeShapes Go.WideShapes Go.ChangeAt Go.RowKit
set_option linter.unusedSimpArgs false
set_option linter.unusedVariables false
mutual
theorem ub_eq {H : Type} : ∀ d : DataW H, Rows.uptoBulk d = bulkW d
  | .lit (.string b) => rfl
  | .lit (.int _ _) => rfl
  | .lit (.bool _) => rfl
  | .lit (.float _ _) => rfl
  | .lit .nil => rfl
  | .nil => rfl
  | .ptr d => by simp only [Rows.uptoBulk, bulkW, ub_eq d]
  | .slice a b => by simp only [Rows.uptoBulk, bulkW, ubs_eq a, ubs_eq b]
  | .agg a => by simp only [Rows.uptoBulk, bulkW, ubs_eq a]
  | .iface _ d => by simp only [Rows.uptoBulk, bulkW, ub_eq d]
  | .map e => by simp only [Rows.uptoBulk, bulkW, ube_eq e]
  | .held _ => rfl
theorem ubs_eq {H : Type} : ∀ l : List (DataW H), Rows.uptoBulkAll l = bulkWs l
  | [] => rfl
  | d :: r => by simp only [Rows.uptoBulkAll, bulkWs, ub_eq d, ubs_eq r]
theorem ube_eq {H : Type} : ∀ l : List (Lit × DataW H), Rows.uptoBulkEntries l = bulkWe l
  | [] => rfl
  | x :: r => by simp only [Rows.uptoBulkEntries, bulkWe, ubx_eq x, ube_eq r]
theorem ubx_eq {H : Type} : ∀ x : Lit × DataW H, Rows.uptoBulkEntry x = bulkWx x
  | (.string b, d) => by simp only [Rows.uptoBulkEntry, bulkWx, ub_eq d]
  | (.int _ _, d) => by simp only [Rows.uptoBulkEntry, bulkWx, ub_eq d]
  | (.bool _, d) => by simp only [Rows.uptoBulkEntry, bulkWx, ub_eq d]
  | (.float _ _, d) => by simp only [Rows.uptoBulkEntry, bulkWx, ub_eq d]
  | (.nil, d) => by simp only [Rows.uptoBulkEntry, bulkWx, ub_eq d]
end
namespace replyAnswersCountUpto
set_option maxRecDepth 100000 in
theorem law (cs : List DV) (h : ArgsOk Tryd.prog 9 Tryd.f7.params.toList cs) (hb : dvBL cs ≤ 1048576) : PureSpec Tryd.prog 7 cs (.bool true) := by
  rw [Tryd.params7] at h
  obtain ⟨d0, _, rfl, h0, d1, _, rfl, h1, d2, _, rfl, h2, h⟩ := h
  obtain rfl := h
  obtain ⟨x0, rfl, o0⟩ := (wt42.up 6) 0 _ h0
  obtain ⟨x1, rfl, o1⟩ := (wt45.up 0) 0 _ h1
  obtain ⟨x2, rfl, o2⟩ := (wt3.up 8) 0 _ h2
  have e0 : argDV Tryd.prog 42 ((rowL rTapi_BookEvent) x0) = .slice (x0.map rTapi_BookEvent) := by simp only [argDV, Tryd.underlying42, rowI, rowY, rowS, rowB, rowL, List.headD_cons]
  rw [e0] at hb ⊢
  have e1 : argDV Tryd.prog 45 (rTapi_Reply x1) = .agg (rTapi_Reply x1) := by simp only [argDV, Tryd.underlying45]
  rw [e1] at hb ⊢
  have e2 : argDV Tryd.prog 3 (rowI x2) = .int .i64 x2 := by simp only [argDV, Tryd.underlying3, rowI, rowY, rowS, rowB, rowL, List.headD_cons]
  rw [e2] at hb ⊢
  exact spec_interchangelaw7_ReplyAnswersCount x0 x1 x2 true ((fun (x0 : List Tapi_BookEvent) (x1 : Tapi_Reply) (x2 : Int) (o0 : okL okTapi_BookEvent x0) (o1 : okTapi_Reply x1) (_ : okI x2) (hb : dvBL [.slice (x0.map rTapi_BookEvent), .agg (rTapi_Reply x1), .int .i64 x2] ≤ 1048576) => law_AnswersCount x0 (short_ok x0 o0) x1 (rep_ok x1 o1 (by simp only [dvBL, dvB] at hb; omega)) x2) x0 x1 x2 o0 o1 o2 hb)
noncomputable def wArgs : Array Value := #[.slice none 0 0, .agg #[.string ⟨#[]⟩, .int .i64 0, .slice none 0 0], .int .i64 0]
theorem laid_met (os : Os) : laidMet Tryd.prog Rows.replyAnswersCountUptoRow.laid ((laidWorld os).forCall (fun _ _ => 0) ⟨#[], wArgs, []⟩).memory :=
  laidMet_of_run' 8 (by kernel_rfl) (by kernel_rfl)
theorem reads (os : Os) {H : Type} (enc : TypeId × Value → H) : ∃ places, DataW.whole enc Tryd.prog ((laidWorld os).forCall (fun _ _ => 0) ⟨#[], wArgs, []⟩).memory Tryd.f7.params.toList Rows.replyAnswersCountSpec.vars false wArgs.toList 8 = some ([.nil, .agg [.lit (.string []), .lit (.int .i64 0), .nil], .lit (.int .i64 0)], [], places) :=
  ⟨[], by kernel_rfl⟩
set_option maxRecDepth 100000 in
theorem lifted (os : Os) (started : os.Started) (H : Type) (enc : TypeId × Value → H) (F : Stop.Interp) :
    ReturnsInHanded {} Tryd.checked os 7 .any ((Rows.OpenSpec.upto Rows.replyAnswersCountSpec).preRow enc Tryd.prog Tryd.f7 Rows.replyAnswersCountUptoRow.domain false Rows.replyAnswersCountUptoRow.laid) (((Rows.OpenSpec.upto Rows.replyAnswersCountSpec).at F).post enc Tryd.prog Tryd.f7 false true false false) := by
  obtain ⟨places, hx⟩ := reads os enc
  refine returnsInHanded_of_row (C := Tryd.checked) (s := Rows.OpenSpec.upto Rows.replyAnswersCountSpec) ownK started (by kernel_rfl) Tryd.func7
    (witness_row_at (enc := enc) (C := Tryd.checked) false (laidWorld os) wArgs rfl (by kernel_rfl) (by kernel_rfl) (by kernel_rfl)
      (OpenSpec.preRow_of_cond 8 hx (by kernel_rfl) (fun k hk => by cases hk; kernel_rfl) (by kernel_rfl) (laid_met os))) ?_
  intro W base args ds gs before hval hW _ hcond _ hL _ _
  exact law_post (n := 9) (spec := Rows.replyAnswersCountSpec) rfl (fun ds hds => by
      rw [Tryd.params7] at hds
      match ds, hds with
      | [_, _, _], _ => rfl) laidOut (by kernel_rfl) (by kernel_rfl) (by kernel_rfl) Tryd.underlying4 hval hW (fun cs hcs hb => law cs hcs (Nat.le_trans hb (by have hk := of_decide_eq_true (hcond _ rfl); rw [ubs_eq] at hk; exact hk)))
set_option maxHeartbeats 40000000 in
theorem closed : joinedFacts Tryd.prog 7 Tryd.f7 (Rows.OpenSpec.upto Rows.replyAnswersCountSpec).bare Rows.replyAnswersCountUptoRow = true := by
  unfold joinedFacts
  repeat' (with_reducible apply and_t)
  all_goals (as_aux_lemma => kernel_rfl)
theorem said : Rows.ReplyAnswersCountUptoSaid :=
  OpenClaim.holds_of_cond 7 Tryd.f7 rfl rfl rfl rfl rfl rfl rfl ⟨rfl, rfl, rfl, rfl, rfl⟩ rfl rfl rfl rfl rfl (by as_aux_lemma => kernel_rfl) Tryd.func7 closed
    (of_decide_eq_true (by as_aux_lemma => kernel_rfl)) (by unfold Func.isWrapper; first | (rw [if_pos (by decide +kernel)]; kernel_rfl) | (rw [if_neg (by decide +kernel)]; exact ⟨rfl, rfl⟩))
    (fun os started H enc _ F => by rw [OpenClaim.pre_eq_preRow]; exact lifted os started H enc F)
theorem plain (f : FuncId) (fn : Func) (hf : Tryd.pinned.checked.prog.funcNamed "interchange/interchangelaw7.ReplyAnswersCount" = some f) (hfn : Tryd.pinned.checked.prog.funcs[f]? = some fn) :
    false = Tryd.pinned.checked.prog.looks [] ∧ ∀ (j : Nat) t, fn.params[j]? = some t → Tryd.pinned.checked.prog.wantsStandIn t = false := by
  obtain rfl : f = 7 := Option.some.inj ((show Tryd.prog.funcNamed "interchange/interchangelaw7.ReplyAnswersCount" = some 7 by kernel_rfl).symm.trans hf) |>.symm
  obtain rfl : fn = Tryd.f7 := (Option.some.inj (Tryd.func7.symm.trans hfn)).symm
  refine ⟨by kernel_rfl, fun j t ht => ?_⟩
  have hall : Tryd.f7.params.toList.all (fun t => !Tryd.prog.wantsStandIn t) = true := by kernel_rfl
  have := List.all_eq_true.1 hall t (by simpa using Array.mem_of_getElem? ht)
  exact (show Tryd.prog.wantsStandIn t = false by simpa using this)
end replyAnswersCountUpto
theorem replyAnswersCountUpto_card : Rows.ReplyAnswersCountUptoCardSaid :=
  Claim7.holds_tied_plain_at .later [] _ _ _ _ replyAnswersCountUpto.said (fun _ h => by cases h) (by kernel_rfl) (fun _ h => by cases h) replyAnswersCountUpto_row_tie rfl ⟨rfl, rfl⟩ (by kernel_rfl) rfl replyAnswersCountUpto.plain (by kernel_rfl)
#print axioms replyAnswersCountUpto_card
end Go.Proofs.YthailknfgcegoaaDoor

/-
  ReplySegmentsComeBack: the row and the card (where what it reads is of bulk at most 1048576).
-/
import Derived.Test.YtcbdpjgejbcpgaaGreatDoorBY3
namespace Go.Proofs.YtcbdpjgejbcpgaaGreatDoor
open Go.ChangeShapes Go.WideShapes Go.ChangeAt Go.RowKit
set_option linter.unusedSimpArgs false
set_option linter.unusedVariables false
mutual
theorem ub_eq {H : Type} : ∀ d : DataW H, Rows.uptoBulk d = bulkW d
  | .lit (.string b) => rfl
  | .lit (.int _ _) => rfl
  | .lit (.bool _) => rfl
  | .lit (.float _ _) => rfl
  | .lit .nil => rfl
  | .nil => rfl
  | .ptr d => by simp only [Rows.uptoBulk, bulkW, ub_eq d]
  | .slice a b => by simp only [Rows.uptoBulk, bulkW, ubs_eq a, ubs_eq b]
  | .agg a => by simp only [Rows.uptoBulk, bulkW, ubs_eq a]
  | .iface _ d => by simp only [Rows.uptoBulk, bulkW, ub_eq d]
  | .map e => by simp only [Rows.uptoBulk, bulkW, ube_eq e]
  | .held _ => rfl
theorem ubs_eq {H : Type} : ∀ l : List (DataW H), Rows.uptoBulkAll l = bulkWs l
  | [] => rfl
  | d :: r => by simp only [Rows.uptoBulkAll, bulkWs, ub_eq d, ubs_eq r]
theorem ube_eq {H : Type} : ∀ l : List (Lit × DataW H), Rows.uptoBulkEntries l = bulkWe l
  | [] => rfl
  | x :: r => by simp only [Rows.uptoBulkEntries, bulkWe, ubx_eq x, ube_eq r]
theorem ubx_eq {H : Type} : ∀ x : Lit × DataW H, Rows.uptoBulkEntry x = bulkWx x
  | (.string b, d) => by simp only [Rows.uptoBulkEntry, bulkWx, ub_eq d]
  | (.int _ _, d) => by simp only [Rows.uptoBulkEntry, bulkWx, ub_eq d]
  | (.bool _, d) => by simp only [Rows.uptoBulkEntry, bulkWx, ub_eq d]
  | (.float _ _, d) => by simp only [Rows.uptoBulkEntry, bulkWx, ub_eq d]
  | (.nil, d) => by simp only [Rows.uptoBulkEntry, bulkWx, ub_eq d]
end
namespace replySegmentsComeBackUpto
set_option maxRecDepth 100000 in
theorem law (cs : List DV) (h : ArgsOk Tryz.prog 9 Tryz.f4.params.toList cs) (hb : dvBL cs ≤ 1048576) : PureSpec Tryz.prog 4 cs (.bool true) := by
  rw [Tryz.params4] at h
  obtain ⟨d0, _, rfl, h0, d1, _, rfl, h1, h⟩ := h
  obtain rfl := h
  obtain ⟨x0, rfl, o0⟩ := (wt25.up 0) 0 _ h0
  obtain ⟨x1, rfl, o1⟩ := (wt22.up 2) 0 _ h1
  have e0 : argDV Tryz.prog 25 (rTapi_Reply x0) = .agg (rTapi_Reply x0) := by simp only [argDV, Tryz.underlying25]
  rw [e0] at hb ⊢
  have e1 : argDV Tryz.prog 22 ((rowL rTapi_Segment) x1) = .slice (x1.map rTapi_Segment) := by simp only [argDV, Tryz.underlying22, rowI, rowY, rowS, rowB, rowL, List.headD_cons]
  rw [e1] at hb ⊢
  exact spec_interchangelaw7_ReplySegmentsComeBack x0 x1 true ((fun (x0 : Tapi_Reply) (x1 : List Tapi_Segment) (o0 : okTapi_Reply x0) (o1 : okL okTapi_Segment x1) (hb : dvBL [.agg (rTapi_Reply x0), .slice (x1.map rTapi_Segment)] ≤ 1048576) => law_rbackU x0 x1 o0 o1 hb) x0 x1 o0 o1 hb)
noncomputable def wArgs : Array Value := #[.agg #[.string ⟨#[]⟩, .int .i64 0, .slice none 0 0], .slice none 0 0]
theorem good_of {W : World} (h : laidMet Tryz.prog Rows.replySegmentsComeBackRow.laid W) (hs : W.ShapedOpen Tryz.prog) : Good W := fun t ht => by
  rcases List.mem_cons.1 ht with rfl | ht
  · exact tabAt_laid h (List.mem_of_getElem? (i := 2) (by kernel_rfl)) (show Tryz.prog.globalNamed "internal/strconv.uint64pow10" = some 1 by kernel_rfl) (by kernel_rfl) Tryz.underlying169 Tryz.underlying154 (by kernel_rfl) (by kernel_rfl) (by first | decide | simp)
  exact absurd ht List.not_mem_nil
theorem laid_met (os : Os) : laidMet Tryz.prog Rows.replySegmentsComeBackUptoRow.laid ((laidWorld os).forCall (fun _ _ => 0) ⟨#[], wArgs, []⟩).memory :=
  laidMet_of_run' 8 (by kernel_rfl) (by kernel_rfl)
theorem reads (os : Os) {H : Type} (enc : TypeId × Value → H) : ∃ places, DataW.whole enc Tryz.prog ((laidWorld os).forCall (fun _ _ => 0) ⟨#[], wArgs, []⟩).memory Tryz.f4.params.toList Rows.replySegmentsComeBackSpec.vars false wArgs.toList 8 = some ([.agg [.lit (.string []), .lit (.int .i64 0), .nil], .nil], [], places) :=
  ⟨[], by kernel_rfl⟩
set_option maxRecDepth 100000 in
theorem lifted (os : Os) (started : os.Started) (H : Type) (enc : TypeId × Value → H) (F : Stop.Interp) :
    ReturnsInHanded {} Tryz.checked os 4 .any ((Rows.OpenSpec.upto Rows.replySegmentsComeBackSpec).preRow enc Tryz.prog Tryz.f4 Rows.replySegmentsComeBackUptoRow.domain false Rows.replySegmentsComeBackUptoRow.laid) (((Rows.OpenSpec.upto Rows.replySegmentsComeBackSpec).at F).post enc Tryz.prog Tryz.f4 false true false false) := by
  obtain ⟨places, hx⟩ := reads os enc
  refine returnsInHanded_of_row (C := Tryz.checked) (s := Rows.OpenSpec.upto Rows.replySegmentsComeBackSpec) ownK started (by kernel_rfl) Tryz.func4
    (witness_row_at (enc := enc) (C := Tryz.checked) false (laidWorld os) wArgs rfl (by kernel_rfl) (by kernel_rfl) (by kernel_rfl)
      (OpenSpec.preRow_of_cond 8 hx (by kernel_rfl) (fun k hk => by cases hk; kernel_rfl) (by kernel_rfl) (laid_met os))) ?_
  intro W base args ds gs before hval hW _ hcond _ hL hS _
  exact law_post (n := 9) (spec := Rows.replySegmentsComeBackSpec) rfl (fun ds hds => by
      rw [Tryz.params4] at hds
      match ds, hds with
      | [_, _], _ => rfl) laidOut (by kernel_rfl) (by kernel_rfl) (by kernel_rfl) Tryz.underlying4 hval hW (fun cs hcs hb => law cs hcs (Nat.le_trans hb (by have hk := of_decide_eq_true (hcond _ rfl); rw [ubs_eq] at hk; exact hk))) (good_of hL hS)
set_option maxHeartbeats 40000000 in
theorem closed : joinedFacts Tryz.prog 4 Tryz.f4 (Rows.OpenSpec.upto Rows.replySegmentsComeBackSpec).bare Rows.replySegmentsComeBackUptoRow = true := by
  unfold joinedFacts
  repeat' (with_reducible apply and_t)
  all_goals (as_aux_lemma => kernel_rfl)
theorem said : Rows.ReplySegmentsComeBackUptoSaid :=
  OpenClaim.holds_of_cond 4 Tryz.f4 rfl rfl rfl rfl rfl rfl rfl ⟨rfl, rfl, rfl, rfl, rfl⟩ rfl rfl rfl rfl rfl (by as_aux_lemma => kernel_rfl) Tryz.func4 closed
    (of_decide_eq_true (by as_aux_lemma => kernel_rfl)) (by unfold Func.isWrapper; first | (rw [if_pos (by decide +kernel)]; kernel_rfl) | (rw [if_neg (by decide +kernel)]; exact ⟨rfl, rfl⟩))
    (fun os started H enc _ F => by rw [OpenClaim.pre_eq_preRow]; exact lifted os started H enc F)
theorem plain (f : FuncId) (fn : Func) (hf : Tryz.pinned.checked.prog.funcNamed "interchange/interchangelaw7.ReplySegmentsComeBack" = some f) (hfn : Tryz.pinned.checked.prog.funcs[f]? = some fn) :
    true = Tryz.pinned.checked.prog.looks [] ∧ ∀ (j : Nat) t, fn.params[j]? = some t → Tryz.pinned.checked.prog.wantsStandIn t = false := by
  obtain rfl : f = 4 := Option.some.inj ((show Tryz.prog.funcNamed "interchange/interchangelaw7.ReplySegmentsComeBack" = some 4 by kernel_rfl).symm.trans hf) |>.symm
  obtain rfl : fn = Tryz.f4 := (Option.some.inj (Tryz.func4.symm.trans hfn)).symm
  refine ⟨by kernel_rfl, fun j t ht => ?_⟩
  have hall : Tryz.f4.params.toList.all (fun t => !Tryz.prog.wantsStandIn t) = true := by kernel_rfl
  have := List.all_eq_true.1 hall t (by simpa using Array.mem_of_getElem? ht)
  exact (show Tryz.prog.wantsStandIn t = false by simpa using this)
end replySegmentsComeBackUpto
theorem replySegmentsComeBackUpto_card : Rows.ReplySegmentsComeBackUptoCardSaid :=
  Claim7.holds_tied_plain_at .later [] _ _ _ _ replySegmentsComeBackUpto.said (fun _ h => by cases h) (by kernel_rfl) (fun _ h => by cases h) replySegmentsComeBackUpto_row_tie rfl ⟨rfl, rfl⟩ (by kernel_rfl) rfl replySegmentsComeBackUpto.plain (by kernel_rfl)
#print axioms replySegmentsComeBackUpto_card
end Go.Proofs.YtcbdpjgejbcpgaaGreatDoor

/-
  SchemePathsAreIn: the row and the card (where what it reads is of bulk at most 1048576).
-/
import Derived.Test.YtdkncdkdbddgoaaDoorBX3
namespace Go.Proofs.YtdkncdkdbddgoaaDoor
open Go.ChangeShapes Go.WideShapes Go.ChangeAt Go.RowKit
set_option linter.unusedSimpArgs false
set_option linter.unusedVariables false
mutual
theorem ub_eq {H : Type} : ∀ d : DataW H, Rows.uptoBulk d = bulkW d
  | .lit (.string b) => rfl
  | .lit (.int _ _) => rfl
  | .lit (.bool _) => rfl
  | .lit (.float _ _) => rfl
  | .lit .nil => rfl
  | .nil => rfl
  | .ptr d => by simp only [Rows.uptoBulk, bulkW, ub_eq d]
  | .slice a b => by simp only [Rows.uptoBulk, bulkW, ubs_eq a, ubs_eq b]
  | .agg a => by simp only [Rows.uptoBulk, bulkW, ubs_eq a]
  | .iface _ d => by simp only [Rows.uptoBulk, bulkW, ub_eq d]
  | .map e => by simp only [Rows.uptoBulk, bulkW, ube_eq e]
  | .held _ => rfl
theorem ubs_eq {H : Type} : ∀ l : List (DataW H), Rows.uptoBulkAll l = bulkWs l
  | [] => rfl
  | d :: r => by simp only [Rows.uptoBulkAll, bulkWs, ub_eq d, ubs_eq r]
theorem ube_eq {H : Type} : ∀ l : List (Lit × DataW H), Rows.uptoBulkEntries l = bulkWe l
  | [] => rfl
  | x :: r => by simp only [Rows.uptoBulkEntries, bulkWe, ubx_eq x, ube_eq r]
theorem ubx_eq {H : Type} : ∀ x : Lit × DataW H, Rows.uptoBulkEntry x = bulkWx x
  | (.string b, d) => by simp only [Rows.uptoBulkEntry, bulkWx, ub_eq d]
  | (.int _ _, d) => by simp only [Rows.uptoBulkEntry, bulkWx, ub_eq d]
  | (.bool _, d) => by simp only [Rows.uptoBulkEntry, bulkWx, ub_eq d]
  | (.float _ _, d) => by simp only [Rows.uptoBulkEntry, bulkWx, ub_eq d]
  | (.nil, d) => by simp only [Rows.uptoBulkEntry, bulkWx, ub_eq d]
end
namespace schemePathsAreInUpto
set_option maxRecDepth 100000 in
theorem law (n : Nat) (cs : List DV) (h : ArgsOk Tryd.prog n Tryd.f3.params.toList cs) (hb : dvBL cs ≤ 1048576) : PureSpec Tryd.prog 3 cs (.bool true) := by
  rw [Tryd.params3] at h
  obtain ⟨d0, _, rfl, h0, d1, _, rfl, h1, d2, _, rfl, h2, h⟩ := h
  obtain rfl := h
  obtain ⟨x0, rfl, o0⟩ := wr22 n _ h0
  obtain ⟨x1, rfl, o1⟩ := wt9.all n _ h1
  obtain ⟨x2, rfl, o2⟩ := wt9.all n _ h2
  have e0 : argDV Tryd.prog 22 ((rowL rTapi_Branch) x0) = .slice (x0.map rTapi_Branch) := by simp only [argDV, Tryd.underlying22, rowI, rowY, rowS, rowB, rowL, List.headD_cons]
  rw [e0] at hb ⊢
  have e1 : argDV Tryd.prog 9 (rowS x1) = .str x1 := by simp only [argDV, Tryd.underlying9, rowI, rowY, rowS, rowB, rowL, List.headD_cons]
  rw [e1] at hb ⊢
  have e2 : argDV Tryd.prog 9 (rowS x2) = .str x2 := by simp only [argDV, Tryd.underlying9, rowI, rowY, rowS, rowB, rowL, List.headD_cons]
  rw [e2] at hb ⊢
  exact spec_interchangelaw3_SchemePathsAreIn x0 x1 x2 true ((fun (x0 : List Tapi_Branch) (x1 x2 : List UInt8) (o0 : okL okTapi_Branch x0) (_ : okS x1) (_ : okS x2) (hb : dvBL [.slice (x0.map rTapi_Branch), .str x1, .str x2] ≤ 1048576) => law_inU x0 x1 x2 o0 hb) x0 x1 x2 o0 o1 o2 hb)
noncomputable def wArgs : Array Value := #[.slice none 0 0, .string ⟨#[]⟩, .string ⟨#[]⟩]
theorem good_of {W : World} (h : laidMet Tryd.prog Rows.schemePathsAreInRow.laid W) (hs : W.ShapedOpen Tryd.prog) : Good W := fun t ht => by
  simp only [tabs, List.mem_cons, List.not_mem_nil, or_false] at ht
  rcases ht with rfl | rfl | rfl
  · exact tabAt_laid h (List.mem_of_getElem? (i := 2) (by kernel_rfl)) (show Tryd.prog.globalNamed "internal/strconv.uint64pow10" = some 5 by kernel_rfl) (by kernel_rfl) Tryd.underlying139 Tryd.underlying110 (by kernel_rfl) (by kernel_rfl) (by first | decide | simp)
  · exact tabAt_laid h (List.mem_of_getElem? (i := 1) (by kernel_rfl)) (show Tryd.prog.globalNamed "math/bits.deBruijn64tab" = some 7 by kernel_rfl) (by kernel_rfl) Tryd.underlying145 Tryd.underlying5 (by kernel_rfl) (by kernel_rfl) (by first | decide | simp)
  · exact tabAt_int (Tryd.lays146.s1_3 W hs)
theorem laid_met (os : Os) : laidMet Tryd.prog Rows.schemePathsAreInUptoRow.laid ((laidWorld os).forCall (fun _ _ => 0) ⟨#[], wArgs, []⟩).memory :=
  laidMet_of_run' 8 (by kernel_rfl) (by kernel_rfl)
theorem reads (os : Os) {H : Type} (enc : TypeId × Value → H) : ∃ places, DataW.whole enc Tryd.prog ((laidWorld os).forCall (fun _ _ => 0) ⟨#[], wArgs, []⟩).memory Tryd.f3.params.toList Rows.schemePathsAreInSpec.vars false wArgs.toList 8 = some ([.nil, .lit (.string []), .lit (.string [])], [], places) :=
  ⟨[], by kernel_rfl⟩
set_option maxRecDepth 100000 in
theorem lifted (os : Os) (started : os.Started) (H : Type) (enc : TypeId × Value → H) (F : Stop.Interp) :
    ReturnsInHanded {} Tryd.checked os 3 .any ((Rows.OpenSpec.upto Rows.schemePathsAreInSpec).preRow enc Tryd.prog Tryd.f3 Rows.schemePathsAreInUptoRow.domain false Rows.schemePathsAreInUptoRow.laid) (((Rows.OpenSpec.upto Rows.schemePathsAreInSpec).at F).post enc Tryd.prog Tryd.f3 false true false false) := by
  obtain ⟨places, hx⟩ := reads os enc
  refine returnsInHanded_of_row (C := Tryd.checked) (s := Rows.OpenSpec.upto Rows.schemePathsAreInSpec) ownK started (by kernel_rfl) Tryd.func3
    (witness_row_at (enc := enc) (C := Tryd.checked) false (laidWorld os) wArgs rfl (by kernel_rfl) (by kernel_rfl) (by kernel_rfl)
      (OpenSpec.preRow_of_cond 8 hx (by kernel_rfl) (fun k hk => by cases hk; kernel_rfl) (by kernel_rfl) (laid_met os))) ?_
  intro W base args ds gs before hval hW _ hcond _ hL hS _
  exact law_postL (L := [9, 22, 28, 37, 39, 41, 62, 64]) (by kernel_rfl) (spec := Rows.schemePathsAreInSpec) rfl (fun ds hds => by
      rw [Tryd.params3] at hds
      match ds, hds with
      | [_, _, _], _ => rfl) laidOut (by kernel_rfl) (by kernel_rfl) (by kernel_rfl) Tryd.underlying4 hval hW (fun n cs hcs hb => law n cs hcs (Nat.le_trans hb (by have hk := of_decide_eq_true (hcond _ rfl); rw [ubs_eq] at hk; exact hk))) (good_of hL hS)
set_option maxHeartbeats 40000000 in
theorem closed : joinedFacts Tryd.prog 3 Tryd.f3 (Rows.OpenSpec.upto Rows.schemePathsAreInSpec).bare Rows.schemePathsAreInUptoRow = true := by
  unfold joinedFacts
  repeat' (with_reducible apply and_t)
  all_goals (as_aux_lemma => kernel_rfl)
theorem said : Rows.SchemePathsAreInUptoSaid :=
  OpenClaim.holds_of_cond 3 Tryd.f3 rfl rfl rfl rfl rfl rfl rfl ⟨rfl, rfl, rfl, rfl, rfl⟩ rfl rfl rfl rfl rfl (by as_aux_lemma => kernel_rfl) Tryd.func3 closed
    (of_decide_eq_true (by as_aux_lemma => kernel_rfl)) (by unfold Func.isWrapper; first | (rw [if_pos (by decide +kernel)]; kernel_rfl) | (rw [if_neg (by decide +kernel)]; exact ⟨rfl, rfl⟩))
    (fun os started H enc _ F => by rw [OpenClaim.pre_eq_preRow]; exact lifted os started H enc F)
theorem plain (f : FuncId) (fn : Func) (hf : Tryd.pinned.checked.prog.funcNamed "interchange/interchangelaw3.SchemePathsAreIn" = some f) (hfn : Tryd.pinned.checked.prog.funcs[f]? = some fn) :
    true = Tryd.pinned.checked.prog.looks [] ∧ ∀ (j : Nat) t, fn.params[j]? = some t → Tryd.pinned.checked.prog.wantsStandIn t = false := by
  obtain rfl : f = 3 := Option.some.inj ((show Tryd.prog.funcNamed "interchange/interchangelaw3.SchemePathsAreIn" = some 3 by kernel_rfl).symm.trans hf) |>.symm
  obtain rfl : fn = Tryd.f3 := (Option.some.inj (Tryd.func3.symm.trans hfn)).symm
  refine ⟨by kernel_rfl, fun j t ht => ?_⟩
  have hall : Tryd.f3.params.toList.all (fun t => !Tryd.prog.wantsStandIn t) = true := by kernel_rfl
  have := List.all_eq_true.1 hall t (by simpa using Array.mem_of_getElem? ht)
  exact (show Tryd.prog.wantsStandIn t = false by simpa using this)
end schemePathsAreInUpto
theorem schemePathsAreInUpto_card : Rows.SchemePathsAreInUptoCardSaid :=
  Claim7.holds_tied_plain_at .later [] _ _ _ _ schemePathsAreInUpto.said (fun _ h => by cases h) (by kernel_rfl) (fun _ h => by cases h) schemePathsAreInUpto_row_tie rfl ⟨rfl, rfl⟩ (by kernel_rfl) rfl schemePathsAreInUpto.plain (by kernel_rfl)
#print axioms schemePathsAreInUpto_card
end Go.Proofs.YtdkncdkdbddgoaaDoor

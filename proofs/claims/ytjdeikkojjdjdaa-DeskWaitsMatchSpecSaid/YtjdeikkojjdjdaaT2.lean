/-
  DeskWaitsMatchSpec: for every policy the call returns true, and the policy reads afterwards as it read before. No conditions.
-/
import Derived.Test.YtjdeikkojjdjdaaRows
import Derived.Test.YtjdeikkojjdjdaaT1
import Derived.Test.YtjdeikkojjdjdaaEngN
import Derived.WalkKit
import Derived.ProofKit
import Derived.OpenShut
import Derived.ChangeOld
namespace Go.Proofs.Ytjdeikkojjdjdaa
set_option linter.unusedSimpArgs false
set_option linter.unusedVariables false
open Go.ChangeShapes Go.WideShapes Go.ChangeAt Go.RowKit

theorem waitsEx : waitsRes ⟨5, 3, 20, 4, false⟩ = .tup [.slice (([5, 15, 20] : List Int).map rowI), .int .i64 0] := by kernel_rfl
set_option maxHeartbeats 1000000 in
theorem works_spec : PureSpec Try.prog 11 [] (.bool true) := by
  refine pure_walk Try.func11 fit_interchangelaw12_works ?_
  unfold sc_interchangelaw12_works
  have hW := Waits_spec ⟨5, 3, 20, 4, false⟩
  rw [waitsEx] at hW
  have hE := equalInts_spec [5, 15, 20] [5, 15, 20] (by simp)
  simp only [decide_true] at hE
  repeat' (first | with_reducible refine W_seq ?_ | with_reducible refine W_reg ?_ | with_reducible refine W_regD ?_ | with_reducible refine W_block ?_ | with_reducible refine W_skip ?_ | with_reducible refine W_ret ?_ | with_reducible refine W_exit ?_ | with_reducible refine O_nil ?_ | with_reducible refine K_seq ?_ | with_reducible refine K_seqE ?_ | with_reducible refine K_seqR ?_ | with_reducible refine K_block ?_ | with_reducible refine K_blockR ?_ | with_reducible refine K_blockE ?_ | with_reducible refine K_roundE ?_ | with_reducible refine K_roundR ?_ | with_reducible refine K_cut ?_ | with_reducible refine K_cutE ?_ | with_reducible refine K_cutR ?_ | with_reducible refine K_end ?_ | ((with_reducible apply K_blockN); (focus (decide))) | ((with_reducible apply O_r); (focus (simp only [push_cast, ↓reduceIte, Nat.reduceEqDiff, Nat.reduceAdd, reduceCtorEq, Int.reduceToNat, Int.reduceEq, Int.reduceNe, Int.reduceLT, Int.reduceLE]; rfl)); (focus (first | exact trivial | omega))) | ((with_reducible apply O_r); (focus (simp only [push_cast, ↓reduceIte, Nat.reduceEqDiff, Nat.reduceAdd, reduceCtorEq, Int.reduceToNat, Int.reduceEq, Int.reduceNe, Int.reduceLT, Int.reduceLE]; rfl))) | ((with_reducible apply O_gY); (focus (simp only [push_cast, ↓reduceIte, Nat.reduceEqDiff, Nat.reduceAdd, reduceCtorEq, Int.reduceToNat, Int.reduceEq, Int.reduceNe, Int.reduceLT, Int.reduceLE]; done))) | ((with_reducible apply O_gT); (focus (simp only [push_cast, ↓reduceIte, Nat.reduceEqDiff, Nat.reduceAdd, reduceCtorEq, Int.reduceToNat, Int.reduceEq, Int.reduceNe, Int.reduceLT, Int.reduceLE]; done))) | ((with_reducible apply O_gF); (focus (simp only [push_cast, ↓reduceIte, Nat.reduceEqDiff, Nat.reduceAdd, reduceCtorEq, Int.reduceToNat, Int.reduceEq, Int.reduceNe, Int.reduceLT, Int.reduceLE]; done))) | ((with_reducible apply O_gT0); (focus (simp only [push_cast, ↓reduceIte, Nat.reduceEqDiff, Nat.reduceAdd, reduceCtorEq, Int.reduceToNat, Int.reduceEq, Int.reduceNe, Int.reduceLT, Int.reduceLE]; done))) | ((with_reducible apply O_gF0); (focus (simp only [push_cast, ↓reduceIte, Nat.reduceEqDiff, Nat.reduceAdd, reduceCtorEq, Int.reduceToNat, Int.reduceEq, Int.reduceNe, Int.reduceLT, Int.reduceLE]; done))) | ((with_reducible apply W_condT); (focus (simp only [push_cast, ↓reduceIte, Nat.reduceEqDiff, Nat.reduceAdd, reduceCtorEq, Int.reduceToNat, Int.reduceEq, Int.reduceNe, Int.reduceLT, Int.reduceLE]; done))) | ((with_reducible apply W_condF); (focus (simp only [push_cast, ↓reduceIte, Nat.reduceEqDiff, Nat.reduceAdd, reduceCtorEq, Int.reduceToNat, Int.reduceEq, Int.reduceNe, Int.reduceLT, Int.reduceLE]; done))) | ((with_reducible apply O_c); (focus (simp only [push_cast, ↓reduceIte, Nat.reduceEqDiff, Nat.reduceAdd, reduceCtorEq, Int.reduceToNat, Int.reduceEq, Int.reduceNe, Int.reduceLT, Int.reduceLE]; rfl)); (focus (first | exact hW | exact hE))) | ((with_reducible apply O_w); (focus (simp only [push_cast, ↓reduceIte, Nat.reduceEqDiff, Nat.reduceAdd, reduceCtorEq, Int.reduceToNat, Int.reduceEq, Int.reduceNe, Int.reduceLT, Int.reduceLE]; rfl)); (focus (first | exact trivial | omega))) | ((with_reducible apply O_w); (focus (simp only [push_cast, ↓reduceIte, Nat.reduceEqDiff, Nat.reduceAdd, reduceCtorEq, Int.reduceToNat, Int.reduceEq, Int.reduceNe, Int.reduceLT, Int.reduceLE]; rfl))))
  simp only [resOf, resL, RV.get, SV.fin, SV.finL, push_cast, ↓reduceIte, Nat.reduceEqDiff, Nat.reduceAdd, reduceCtorEq, Int.reduceToNat, Int.reduceEq, Int.reduceNe, Int.reduceLT, Int.reduceLE]

set_option maxHeartbeats 1000000 in
theorem law_spec (p : Policy) : PureSpec Try.prog 3 [.agg (encPolicy p)] (.bool true) := by
  refine pure_walk Try.func3 fit_interchangelaw12_DeskWaitsMatchSpec ?_
  unfold sc_interchangelaw12_DeskWaitsMatchSpec
  have h1 := Waits_spec p
  have h2 := WaitsR_spec p
  have h3 := Patience_spec p
  have h4 := PatienceR_spec p
  have h5 := checkPolicy_spec p
  have h6 := checkPolicyR_spec p
  have h7 := works_spec
  simp only [waitsRes, patRes] at h1 h2 h3 h4
  rcases fault_01 p with hf | hf
  · have hE := equalInts_spec (waitsL p) (waitsL p) (by have := waitsL_len (polOk_of hf); omega)
    simp only [decide_true] at hE
    simp only [hf, if_true] at h1 h2 h3 h4 h5 h6
    repeat' (first | with_reducible refine W_seq ?_ | with_reducible refine W_reg ?_ | with_reducible refine W_regD ?_ | with_reducible refine W_block ?_ | with_reducible refine W_skip ?_ | with_reducible refine W_ret ?_ | with_reducible refine W_exit ?_ | with_reducible refine O_nil ?_ | with_reducible refine K_seq ?_ | with_reducible refine K_seqE ?_ | with_reducible refine K_seqR ?_ | with_reducible refine K_block ?_ | with_reducible refine K_blockR ?_ | with_reducible refine K_blockE ?_ | with_reducible refine K_roundE ?_ | with_reducible refine K_roundR ?_ | with_reducible refine K_cut ?_ | with_reducible refine K_cutE ?_ | with_reducible refine K_cutR ?_ | with_reducible refine K_end ?_ | ((with_reducible apply K_blockN); (focus (decide))) | ((with_reducible apply O_r); (focus (simp only [push_cast, ↓reduceIte, Nat.reduceEqDiff, Nat.reduceAdd, reduceCtorEq, Int.reduceToNat, Int.reduceEq, Int.reduceNe, Int.reduceLT, Int.reduceLE, encPolicy]; rfl)); (focus (first | exact trivial | omega))) | ((with_reducible apply O_r); (focus (simp only [push_cast, ↓reduceIte, Nat.reduceEqDiff, Nat.reduceAdd, reduceCtorEq, Int.reduceToNat, Int.reduceEq, Int.reduceNe, Int.reduceLT, Int.reduceLE, encPolicy]; rfl))) | ((with_reducible apply O_gY); (focus (simp only [push_cast, ↓reduceIte, Nat.reduceEqDiff, Nat.reduceAdd, reduceCtorEq, Int.reduceToNat, Int.reduceEq, Int.reduceNe, Int.reduceLT, Int.reduceLE, encPolicy]; done))) | ((with_reducible apply O_gT); (focus (simp only [push_cast, ↓reduceIte, Nat.reduceEqDiff, Nat.reduceAdd, reduceCtorEq, Int.reduceToNat, Int.reduceEq, Int.reduceNe, Int.reduceLT, Int.reduceLE, encPolicy]; done))) | ((with_reducible apply O_gF); (focus (simp only [push_cast, ↓reduceIte, Nat.reduceEqDiff, Nat.reduceAdd, reduceCtorEq, Int.reduceToNat, Int.reduceEq, Int.reduceNe, Int.reduceLT, Int.reduceLE, encPolicy]; done))) | ((with_reducible apply O_gT0); (focus (simp only [push_cast, ↓reduceIte, Nat.reduceEqDiff, Nat.reduceAdd, reduceCtorEq, Int.reduceToNat, Int.reduceEq, Int.reduceNe, Int.reduceLT, Int.reduceLE, encPolicy]; done))) | ((with_reducible apply O_gF0); (focus (simp only [push_cast, ↓reduceIte, Nat.reduceEqDiff, Nat.reduceAdd, reduceCtorEq, Int.reduceToNat, Int.reduceEq, Int.reduceNe, Int.reduceLT, Int.reduceLE, encPolicy]; done))) | ((with_reducible apply W_condT); (focus (simp only [push_cast, ↓reduceIte, Nat.reduceEqDiff, Nat.reduceAdd, reduceCtorEq, Int.reduceToNat, Int.reduceEq, Int.reduceNe, Int.reduceLT, Int.reduceLE, encPolicy]; done))) | ((with_reducible apply W_condF); (focus (simp only [push_cast, ↓reduceIte, Nat.reduceEqDiff, Nat.reduceAdd, reduceCtorEq, Int.reduceToNat, Int.reduceEq, Int.reduceNe, Int.reduceLT, Int.reduceLE, encPolicy]; done))) | ((with_reducible apply O_c); (focus (simp only [push_cast, ↓reduceIte, Nat.reduceEqDiff, Nat.reduceAdd, reduceCtorEq, Int.reduceToNat, Int.reduceEq, Int.reduceNe, Int.reduceLT, Int.reduceLE, encPolicy]; rfl)); (focus (first | exact h1 | exact h2 | exact h3 | exact h4 | exact h5 | exact h6 | exact h7 | exact hE))) | ((with_reducible apply O_w); (focus (simp only [push_cast, ↓reduceIte, Nat.reduceEqDiff, Nat.reduceAdd, reduceCtorEq, Int.reduceToNat, Int.reduceEq, Int.reduceNe, Int.reduceLT, Int.reduceLE, encPolicy]; rfl)); (focus (first | exact trivial | omega))) | ((with_reducible apply O_w); (focus (simp only [push_cast, ↓reduceIte, Nat.reduceEqDiff, Nat.reduceAdd, reduceCtorEq, Int.reduceToNat, Int.reduceEq, Int.reduceNe, Int.reduceLT, Int.reduceLE, encPolicy]; rfl))))
    simp only [resOf, resL, RV.get, SV.fin, SV.finL, push_cast, ↓reduceIte, Nat.reduceEqDiff, Nat.reduceAdd, reduceCtorEq, Int.reduceToNat, Int.reduceEq, Int.reduceNe, Int.reduceLT, Int.reduceLE]
  · have hE := equalInts_spec [] [] (by simp)
    simp only [decide_true, List.map_nil] at hE
    simp only [hf] at h1 h2 h3 h4 h5 h6
    rw [if_neg (by decide)] at h1 h2 h3 h4
    repeat' (first | with_reducible refine W_seq ?_ | with_reducible refine W_reg ?_ | with_reducible refine W_regD ?_ | with_reducible refine W_block ?_ | with_reducible refine W_skip ?_ | with_reducible refine W_ret ?_ | with_reducible refine W_exit ?_ | with_reducible refine O_nil ?_ | with_reducible refine K_seq ?_ | with_reducible refine K_seqE ?_ | with_reducible refine K_seqR ?_ | with_reducible refine K_block ?_ | with_reducible refine K_blockR ?_ | with_reducible refine K_blockE ?_ | with_reducible refine K_roundE ?_ | with_reducible refine K_roundR ?_ | with_reducible refine K_cut ?_ | with_reducible refine K_cutE ?_ | with_reducible refine K_cutR ?_ | with_reducible refine K_end ?_ | ((with_reducible apply K_blockN); (focus (decide))) | ((with_reducible apply O_r); (focus (simp only [push_cast, ↓reduceIte, Nat.reduceEqDiff, Nat.reduceAdd, reduceCtorEq, Int.reduceToNat, Int.reduceEq, Int.reduceNe, Int.reduceLT, Int.reduceLE, encPolicy]; rfl)); (focus (first | exact trivial | omega))) | ((with_reducible apply O_r); (focus (simp only [push_cast, ↓reduceIte, Nat.reduceEqDiff, Nat.reduceAdd, reduceCtorEq, Int.reduceToNat, Int.reduceEq, Int.reduceNe, Int.reduceLT, Int.reduceLE, encPolicy]; rfl))) | ((with_reducible apply O_gY); (focus (simp only [push_cast, ↓reduceIte, Nat.reduceEqDiff, Nat.reduceAdd, reduceCtorEq, Int.reduceToNat, Int.reduceEq, Int.reduceNe, Int.reduceLT, Int.reduceLE, encPolicy]; done))) | ((with_reducible apply O_gT); (focus (simp only [push_cast, ↓reduceIte, Nat.reduceEqDiff, Nat.reduceAdd, reduceCtorEq, Int.reduceToNat, Int.reduceEq, Int.reduceNe, Int.reduceLT, Int.reduceLE, encPolicy]; done))) | ((with_reducible apply O_gF); (focus (simp only [push_cast, ↓reduceIte, Nat.reduceEqDiff, Nat.reduceAdd, reduceCtorEq, Int.reduceToNat, Int.reduceEq, Int.reduceNe, Int.reduceLT, Int.reduceLE, encPolicy]; done))) | ((with_reducible apply O_gT0); (focus (simp only [push_cast, ↓reduceIte, Nat.reduceEqDiff, Nat.reduceAdd, reduceCtorEq, Int.reduceToNat, Int.reduceEq, Int.reduceNe, Int.reduceLT, Int.reduceLE, encPolicy]; done))) | ((with_reducible apply O_gF0); (focus (simp only [push_cast, ↓reduceIte, Nat.reduceEqDiff, Nat.reduceAdd, reduceCtorEq, Int.reduceToNat, Int.reduceEq, Int.reduceNe, Int.reduceLT, Int.reduceLE, encPolicy]; done))) | ((with_reducible apply W_condT); (focus (simp only [push_cast, ↓reduceIte, Nat.reduceEqDiff, Nat.reduceAdd, reduceCtorEq, Int.reduceToNat, Int.reduceEq, Int.reduceNe, Int.reduceLT, Int.reduceLE, encPolicy]; done))) | ((with_reducible apply W_condF); (focus (simp only [push_cast, ↓reduceIte, Nat.reduceEqDiff, Nat.reduceAdd, reduceCtorEq, Int.reduceToNat, Int.reduceEq, Int.reduceNe, Int.reduceLT, Int.reduceLE, encPolicy]; done))) | ((with_reducible apply O_c); (focus (simp only [push_cast, ↓reduceIte, Nat.reduceEqDiff, Nat.reduceAdd, reduceCtorEq, Int.reduceToNat, Int.reduceEq, Int.reduceNe, Int.reduceLT, Int.reduceLE, encPolicy]; rfl)); (focus (first | exact h1 | exact h2 | exact h3 | exact h4 | exact h5 | exact h6 | exact h7 | exact hE))) | ((with_reducible apply O_w); (focus (simp only [push_cast, ↓reduceIte, Nat.reduceEqDiff, Nat.reduceAdd, reduceCtorEq, Int.reduceToNat, Int.reduceEq, Int.reduceNe, Int.reduceLT, Int.reduceLE, encPolicy]; rfl)); (focus (first | exact trivial | omega))) | ((with_reducible apply O_w); (focus (simp only [push_cast, ↓reduceIte, Nat.reduceEqDiff, Nat.reduceAdd, reduceCtorEq, Int.reduceToNat, Int.reduceEq, Int.reduceNe, Int.reduceLT, Int.reduceLE, encPolicy]; rfl))))
    simp only [resOf, resL, RV.get, SV.fin, SV.finL, push_cast, ↓reduceIte, Nat.reduceEqDiff, Nat.reduceAdd, reduceCtorEq, Int.reduceToNat, Int.reduceEq, Int.reduceNe, Int.reduceLT, Int.reduceLE]

theorem Try.own : ownKnob Try.prog.godebug = none := by kernel_rfl
theorem Try.laidOut : laidOutB Try.prog = true := by kernel_rfl

theorem policy_wt {ds : List DV} (h : WT Try.prog 3 23 ds) : ∃ p, ds = encPolicy p := by
  simp only [WT, Try.underlying23, Try.underlying3, Try.underlying4, WTS] at h
  obtain ⟨_, _, rfl, ⟨a, rfl, _⟩, _, _, rfl, ⟨b, rfl, _⟩, _, _, rfl, ⟨c, rfl, _⟩, _, _, rfl, ⟨d, rfl, _⟩, _, _, rfl, ⟨e, rfl⟩, rfl⟩ := h
  exact ⟨⟨a, b, c, d, e⟩, rfl⟩

set_option maxRecDepth 100000 in
theorem lifted (os : Os) (started : os.Started) (H : Type) (enc : TypeId × Value → H) :
    ReturnsInHanded {} Try.checked os 3 .any (Rows.deskWaitsMatchSpecSpec.pre6 enc Try.prog Try.f3 Rows.deskWaitsMatchSpecRow.domain false) (Rows.deskWaitsMatchSpecSpec.post enc Try.prog Try.f3 false true false false) := by
  refine returnsInHanded_of_change (C := Try.checked) Try.own started (by kernel_rfl) Try.func3
    (ChangeSpec.witness6 (enc := enc) (C := Try.checked) false ⟨#[], #[.agg #[.int .i64 0, .int .i64 0, .int .i64 0, .int .i64 0, .bool false]], []⟩ 8 (by kernel_rfl) (by kernel_rfl) (by kernel_rfl) (by kernel_rfl)) ?_
  intro W base args ds gs before hval0 hW hcnd _
  have hval : ∀ (j : Nat) t v, Try.f3.params[j]? = some t → args[j]? = some v → Value.okWide Try.prog W .any base t v := hval0
  have hW' := hW
  obtain ⟨p, q, hA0, hV, rfl, hfz, hnd⟩ := hW
  have hA : DataW.TrodAll enc Try.prog W 0 (fun _ => true) true Try.f3.params.toList args.toList ds p := hA0
  rw [Try.params3] at hA hval
  obtain ⟨v0, d0, rfl, rfl, h0⟩ := trodAll_one hA
  obtain ⟨rfl, rfl⟩ := trodVars_none hV
  obtain ⟨vs0, hv0⟩ := okWide_agg Try.underlying23 (hval 0 23 v0 rfl rfl)
  have lt0 : ∀ x ∈ p, x.block < W.heap.size := by obtain ⟨m, hm⟩ := h0; exact DataW.trod_lt m _ _ _ hm
  obtain ⟨ds0, hwt0, _, hrep0, hone0⟩ := trod_arg (n := 3) (by kernel_rfl) h0
  obtain ⟨pol, rfl⟩ := policy_wt hwt0
  have hargs : RepL W NoM [.agg (encPolicy pol)] [v0] := RepL.one (arg_agg hv0 hrep0 hone0)
  clear hA0 hval0
  refine ((law_spec pol).2 W NoM [v0] (fun b hb => hb.elim) hargs).mono fun e W' ⟨v, he, hv, bel⟩ => ?_
  simp only [Rep] at hv
  subst hv
  subst he
  exact ⟨_, rfl, _, _, _, [], _, [], hW', trodAll_mk1 (shut_bool Try.underlying4 _), trodAll_mk1 (Below.trod Try.laidOut (by kernel_rfl) (of_decide_eq_true (by kernel_rfl)) h0 bel lt0), rfl, bel.frame _, fun h => by cases h⟩

theorem deskWaits_holds : Rows.DeskWaitsMatchSpecSaid :=
  OpenClaim.holds_of_wide 3 Try.f3 rfl rfl rfl rfl rfl rfl rfl ⟨rfl, rfl, rfl, rfl, rfl⟩ rfl rfl rfl rfl rfl (by kernel_rfl) Try.func3 (by kernel_rfl)
    (of_decide_eq_true (by kernel_rfl)) (by unfold Func.isWrapper; first | (rw [if_pos (by decide +kernel)]; kernel_rfl) | (rw [if_neg (by decide +kernel)]; exact ⟨rfl, rfl⟩))
    (fun os started H enc _ => lifted os started H enc)
#print axioms deskWaits_holds
end Go.Proofs.Ytjdeikkojjdjdaa

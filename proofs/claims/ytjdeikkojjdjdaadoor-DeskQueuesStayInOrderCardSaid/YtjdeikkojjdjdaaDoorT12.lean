import Derived.Test.YtjdeikkojjdjdaaDoorT11
namespace Go.Proofs.YtjdeikkojjdjdaaDoor
set_option linter.unusedSimpArgs false
set_option linter.unusedVariables false
open Go.RowKit

/-- What becomes of a job that is tried from a moment on. -/
def RunFact (l : List Outage) (lane : List UInt8) (ws : List Int) (t n : Int) (s : Sent) : Prop :=
  (∃ k : Nat, k ≤ ws.length ∧ s = ⟨n + k, t + (ws.take k).sum, -1⟩ ∧ answers l lane (t + (ws.take k).sum) = true ∧ (0 < k → answers l lane t = false)) ∨
  (s = ⟨n + ws.length, -1, t + ws.sum⟩ ∧ answers l lane t = false ∧ answers l lane (t + ws.sum) = false)
theorem run_fact (l : List Outage) (lane : List UInt8) : ∀ (ws : List Int) (t n : Int), RunFact l lane ws t n (runT l lane ws t n).1
  | [], t, n => by
    by_cases ha : answers l lane t = true
    · exact .inl ⟨0, by simp, by simp [runT, ha], by simpa using ha, by simp⟩
    · have ha' : answers l lane t = false := by simpa using ha
      exact .inr ⟨by simp [runT, ha'], ha', by simpa using ha'⟩
  | w :: ws, t, n => by
    by_cases ha : answers l lane t = true
    · exact .inl ⟨0, by simp, by simp [runT, ha], by simpa using ha, by simp⟩
    · have ha' : answers l lane t = false := by simpa using ha
      have e : runT l lane (w :: ws) t n = runT l lane ws (t + w) (n + 1) := by simp [runT, ha']
      rw [e]
      rcases run_fact l lane ws (t + w) (n + 1) with ⟨k, hk, hs, h1, _⟩ | ⟨hs, _, h2⟩
      · refine .inl ⟨k + 1, by simp; omega, ?_, ?_, fun _ => ha'⟩
        · rw [hs]; simp only [List.take_succ_cons, List.sum_cons, Sent.mk.injEq]; refine ⟨by omega, by omega, trivial⟩
        · simp only [List.take_succ_cons, List.sum_cons]; rw [← Int.add_assoc]; exact h1
      · refine .inr ⟨?_, ha', ?_⟩
        · rw [hs]; simp only [List.length_cons, List.sum_cons, Sent.mk.injEq]; refine ⟨by omega, trivial, by omega⟩
        · simp only [List.sum_cons]; rw [← Int.add_assoc]; exact h2
theorem box_take {p : Policy} {outs : List Outage} : ∀ {js : List Job} {prev : List (Job × Sent)} {l : List Sent}, boxT p outs prev js = some l → l.take prev.length = prev.map (·.2)
  | [], prev, l, h => by simp only [boxT, Option.some.injEq] at h; subst h; rw [List.take_of_length_le (by simp)]
  | j :: js, prev, l, h => by
    simp only [boxT] at h
    split at h
    · cases h
    · have := box_take h
      have h2 := congrArg (List.take prev.length) this
      rw [List.take_take, List.length_append] at h2
      rw [show min prev.length (prev.length + [(j, (runT outs j.lane (waitsL p) (beginOf p.inOrder j.lane prev j.on) 1).1)].length) = prev.length by simp] at h2
      rw [h2, List.map_append, List.take_append_of_le_length (by simp), List.take_of_length_le (by simp)]
theorem box_get {p : Policy} {outs : List Outage} : ∀ {js : List Job} {prev : List (Job × Sent)} {l : List Sent}, boxT p outs prev js = some l → ∀ (i : Nat) (x : Job), js[i]? = some x →
    l[prev.length + i]? = some (runT outs x.lane (waitsL p) (beginOf p.inOrder x.lane (prev ++ (js.zip (l.drop prev.length)).take i) x.on) 1).1 ∧ (runT outs x.lane (waitsL p) (beginOf p.inOrder x.lane (prev ++ (js.zip (l.drop prev.length)).take i) x.on) 1).2 ≤ 2000000000000000
  | [], prev, l, h, i, x, hx => by simp at hx
  | j :: js, prev, l, h, i, x, hx => by
    simp only [boxT] at h
    split at h
    · cases h
    · rename_i hle
      have ht := box_take h
      have hg : l[prev.length]? = some (runT outs j.lane (waitsL p) (beginOf p.inOrder j.lane prev j.on) 1).1 := by
        have := congrArg (fun m => m[prev.length]?) ht
        simp only [List.length_append, List.length_cons, List.length_nil] at this
        rw [List.getElem?_take_of_lt (by omega)] at this
        rw [this]; simp
      cases i with
      | zero =>
        simp at hx
        subst hx
        simp only [List.take_zero, List.append_nil, Nat.add_zero]
        exact ⟨hg, by omega⟩
      | succ i =>
        have := box_get h i x (by simpa using hx)
        simp only [List.length_append, List.length_cons, List.length_nil, Nat.zero_add] at this
        have e : prev ++ ((j :: js).zip (l.drop prev.length)).take (i + 1) = prev ++ [(j, (runT outs j.lane (waitsL p) (beginOf p.inOrder j.lane prev j.on) 1).1)] ++ (js.zip (l.drop (prev.length + 1))).take i := by
          rw [drop_get hg]; simp
        rw [e, show prev.length + (i + 1) = prev.length + 1 + i by omega]
        exact this
theorem outsF_ok : ∀ {l : List Outage}, outsF l = 0 → ∀ o ∈ l, 0 ≤ o.frm ∧ o.frm ≤ 1000000000000000 ∧ 0 ≤ o.til ∧ o.til ≤ 2000000000000000
  | [], _, o, ho => by simp at ho
  | x :: l, h, o, ho => by
    simp only [outsF] at h
    split at h
    · rename_i h1
      rcases List.mem_cons.1 ho with rfl | ho
      · simp only [outF] at h1
        split at h1
        · omega
        · split at h1
          · omega
          · rename_i _ h2
            simp [isMoment] at h2
            omega
      · exact outsF_ok h o ho
    · rename_i h1; exact absurd h h1
theorem outs_bd {l : List Outage} (h : checkOuts l = 0) : ∀ o ∈ l, 0 ≤ o.frm ∧ o.frm ≤ 1000000000000000 ∧ 0 ≤ o.til ∧ o.til ≤ 2000000000000000 := by
  unfold checkOuts at h
  split at h
  · omega
  · exact outsF_ok h
theorem sentOk_all {p : Policy} {outs : List Outage} (hp : PolOk p) : ∀ {js : List Job} {prev : List (Job × Sent)} {l : List Sent}, (∀ j ∈ js, 0 ≤ j.on ∧ j.on ≤ 1000000000000000) → (∀ q ∈ prev, SentOk q.2) → boxT p outs prev js = some l → ∀ s ∈ l, SentOk s
  | [], prev, l, hj, hq, h, s, hs => by
    simp only [boxT, Option.some.injEq] at h; subst h
    obtain ⟨q, hq', rfl⟩ := List.mem_map.1 hs
    exact hq q hq'
  | j :: js, prev, l, hj, hq, h, s, hs => by
    simp only [boxT] at h
    split at h
    · cases h
    · rename_i hle
      have hjb := hj j (by simp)
      have hbb := begin_bd (io := p.inOrder) (lane := j.lane) hq hjb.1 (by omega)
      refine sentOk_all hp (fun x hx => hj x (by simp [hx])) (fun q hq' => ?_) h s hs
      rcases List.mem_append.1 hq' with hq' | hq'
      · exact hq q hq'
      · simp at hq'; subst hq'
        exact run_ok _ _ _ _ _ (fun w hw => (waitsL_bd hp w hw).1) hbb.1 (by omega)

set_option maxHeartbeats 2000000 in
theorem begins_spec (p : Policy) (jobs : List Job) (l : List Sent) (i : Nat) (x : Job) (hx : jobs[i]? = some x) (hl : l.length = jobs.length) (hlen : jobs.length ≤ 1000) :
    PureSpec Tryd.prog 16 [.agg (encPolicy p), .slice (jobs.map rowJ), .slice (l.map rowS), .int .i64 i] (.int .i64 (beginOf p.inOrder x.lane ((jobs.zip l).take i) x.on)) := by
  refine pure_walk Tryd.func16 fit_interchangeref12_Begins ?_
  unfold sc_interchangeref12_Begins
  unfold encPolicy
  have hi : i < jobs.length := (List.getElem?_eq_some_iff.1 hx).1
  have hr : (jobs.map rowJ)[i]? = some [.str x.lane, .int .i64 x.on] := by simp [hx, rowJ]
  repeat' (first | with_reducible refine W_seq ?_ | with_reducible refine W_reg ?_ | with_reducible refine W_regD ?_ | with_reducible refine W_block ?_ | with_reducible refine W_skip ?_ | with_reducible refine W_ret ?_ | with_reducible refine W_exit ?_ | with_reducible refine O_nil ?_ | with_reducible refine K_seq ?_ | with_reducible refine K_seqE ?_ | with_reducible refine K_seqR ?_ | with_reducible refine K_block ?_ | with_reducible refine K_blockR ?_ | with_reducible refine K_blockE ?_ | with_reducible refine K_roundE ?_ | with_reducible refine K_roundR ?_ | with_reducible refine K_forE ?_ | with_reducible refine K_forR ?_ | with_reducible refine K_cut ?_ | with_reducible refine K_cutE ?_ | with_reducible refine K_cutR ?_ | with_reducible refine K_end ?_ | ((with_reducible apply K_blockN); (focus (decide))) | ((with_reducible apply O_r); (focus (simp only [push_cast, ↓reduceIte, Nat.reduceEqDiff, Nat.reduceAdd, reduceCtorEq, Int.reduceToNat, Int.reduceEq, Int.reduceNe, Int.reduceLT, Int.reduceLE, hr]; rfl)); (focus (first | exact trivial | omega))) | ((with_reducible apply O_r); (focus (simp only [push_cast, ↓reduceIte, Nat.reduceEqDiff, Nat.reduceAdd, reduceCtorEq, Int.reduceToNat, Int.reduceEq, Int.reduceNe, Int.reduceLT, Int.reduceLE, hr]; rfl))) | ((with_reducible apply O_gY); (focus (simp only [push_cast, ↓reduceIte, Nat.reduceEqDiff, Nat.reduceAdd, reduceCtorEq, Int.reduceToNat, Int.reduceEq, Int.reduceNe, Int.reduceLT, Int.reduceLE, hr]; done))) | ((with_reducible apply O_gT); (focus (simp only [push_cast, ↓reduceIte, Nat.reduceEqDiff, Nat.reduceAdd, reduceCtorEq, Int.reduceToNat, Int.reduceEq, Int.reduceNe, Int.reduceLT, Int.reduceLE, hr]; done))) | ((with_reducible apply O_gF); (focus (simp only [push_cast, ↓reduceIte, Nat.reduceEqDiff, Nat.reduceAdd, reduceCtorEq, Int.reduceToNat, Int.reduceEq, Int.reduceNe, Int.reduceLT, Int.reduceLE, hr]; done))) | ((with_reducible apply O_gT0); (focus (simp only [push_cast, ↓reduceIte, Nat.reduceEqDiff, Nat.reduceAdd, reduceCtorEq, Int.reduceToNat, Int.reduceEq, Int.reduceNe, Int.reduceLT, Int.reduceLE, hr]; done))) | ((with_reducible apply O_gF0); (focus (simp only [push_cast, ↓reduceIte, Nat.reduceEqDiff, Nat.reduceAdd, reduceCtorEq, Int.reduceToNat, Int.reduceEq, Int.reduceNe, Int.reduceLT, Int.reduceLE, hr]; done))) | ((with_reducible apply O_gU); (focus (simp only [push_cast, ↓reduceIte, Nat.reduceEqDiff, Nat.reduceAdd, reduceCtorEq, Int.reduceToNat, Int.reduceEq, Int.reduceNe, Int.reduceLT, Int.reduceLE, hr]; done))) | ((with_reducible apply O_gU0); (focus (simp only [push_cast, ↓reduceIte, Nat.reduceEqDiff, Nat.reduceAdd, reduceCtorEq, Int.reduceToNat, Int.reduceEq, Int.reduceNe, Int.reduceLT, Int.reduceLE, hr]; done))) | ((with_reducible apply W_condT); (focus (simp only [push_cast, ↓reduceIte, Nat.reduceEqDiff, Nat.reduceAdd, reduceCtorEq, Int.reduceToNat, Int.reduceEq, Int.reduceNe, Int.reduceLT, Int.reduceLE, hr]; done))) | ((with_reducible apply W_condF); (focus (simp only [push_cast, ↓reduceIte, Nat.reduceEqDiff, Nat.reduceAdd, reduceCtorEq, Int.reduceToNat, Int.reduceEq, Int.reduceNe, Int.reduceLT, Int.reduceLE, hr]; done))) | ((with_reducible apply O_w); (focus (simp only [push_cast, ↓reduceIte, Nat.reduceEqDiff, Nat.reduceAdd, reduceCtorEq, Int.reduceToNat, Int.reduceEq, Int.reduceNe, Int.reduceLT, Int.reduceLE, hr]; rfl)); (focus (first | exact trivial | omega))) | ((with_reducible apply O_w); (focus (simp only [push_cast, ↓reduceIte, Nat.reduceEqDiff, Nat.reduceAdd, reduceCtorEq, Int.reduceToNat, Int.reduceEq, Int.reduceNe, Int.reduceLT, Int.reduceLE, hr]; rfl))))
  refine W_for i (fun k s h => s 1 = .d (.slice (jobs.map rowJ)) ∧ s 2 = .d (.slice (l.map rowS)) ∧ s 3 = .d (.int .i64 i) ∧ s 4 = .d (.ptr [.int .i64 p.first, .int .i64 p.factor, .int .i64 p.most, .int .i64 p.tries, .bool p.inOrder]) ∧ s 9 = .d (.int .i64 (beginOf p.inOrder x.lane ((jobs.zip l).take k) x.on))) (by decide) (by omega) (by simp only [push_cast, ↓reduceIte, Nat.reduceEqDiff, Nat.reduceAdd, reduceCtorEq, Int.reduceToNat, Int.reduceEq, Int.reduceNe, Int.reduceLT, Int.reduceLE]) (by simp only [push_cast, ↓reduceIte, Nat.reduceEqDiff, Nat.reduceAdd, reduceCtorEq, Int.reduceToNat, Int.reduceEq, Int.reduceNe, Int.reduceLT, Int.reduceLE]) ?_ ?_ ?_
  · simp [push_cast, ↓reduceIte, Nat.reduceEqDiff, Nat.reduceAdd, reduceCtorEq, Int.reduceToNat, Int.reduceEq, Int.reduceNe, Int.reduceLT, Int.reduceLE, beginOf]
  · intro k s h hk hs hn hI
    obtain ⟨h1, h2, h3, h4, h9⟩ := hI
    obtain ⟨y, hy, hry⟩ := row_get rowJ (l := jobs) (i := k) (by omega)
    obtain ⟨z, hz, hrz⟩ := row_get rowS (l := l) (i := k) (by omega)
    simp only [rowJ] at hry
    simp only [rowS] at hrz
    have hq : (jobs.zip l)[k]? = some (y, z) := by rw [List.getElem?_zip_eq_some]; exact ⟨hy, hz⟩
    have hsn := begin_snoc p.inOrder x.lane ((jobs.zip l).take k) (y, z) x.on
    rw [← take_snoc hq] at hsn
    simp only at hsn
    cases hio : p.inOrder with
    | false =>
      rw [hio] at hsn h4 h9
      simp only [Bool.false_and, Bool.false_eq_true, if_false] at hsn
      repeat' (first | with_reducible refine W_seq ?_ | with_reducible refine W_reg ?_ | with_reducible refine W_regD ?_ | with_reducible refine W_block ?_ | with_reducible refine W_skip ?_ | with_reducible refine W_ret ?_ | with_reducible refine W_exit ?_ | with_reducible refine O_nil ?_ | with_reducible refine K_seq ?_ | with_reducible refine K_seqE ?_ | with_reducible refine K_seqR ?_ | with_reducible refine K_block ?_ | with_reducible refine K_blockR ?_ | with_reducible refine K_blockE ?_ | with_reducible refine K_roundE ?_ | with_reducible refine K_roundR ?_ | with_reducible refine K_forE ?_ | with_reducible refine K_forR ?_ | with_reducible refine K_cut ?_ | with_reducible refine K_cutE ?_ | with_reducible refine K_cutR ?_ | with_reducible refine K_end ?_ | ((with_reducible apply K_blockN); (focus (decide))) | ((with_reducible apply O_r); (focus (simp only [push_cast, ↓reduceIte, Nat.reduceEqDiff, Nat.reduceAdd, reduceCtorEq, Int.reduceToNat, Int.reduceEq, Int.reduceNe, Int.reduceLT, Int.reduceLE, h1, h2, h3, h4, h9, hs, hn, hr, hry, hrz]; rfl)); (focus (first | exact trivial | omega))) | ((with_reducible apply O_r); (focus (simp only [push_cast, ↓reduceIte, Nat.reduceEqDiff, Nat.reduceAdd, reduceCtorEq, Int.reduceToNat, Int.reduceEq, Int.reduceNe, Int.reduceLT, Int.reduceLE, h1, h2, h3, h4, h9, hs, hn, hr, hry, hrz]; rfl))) | ((with_reducible apply O_gY); (focus (simp only [push_cast, ↓reduceIte, Nat.reduceEqDiff, Nat.reduceAdd, reduceCtorEq, Int.reduceToNat, Int.reduceEq, Int.reduceNe, Int.reduceLT, Int.reduceLE, h1, h2, h3, h4, h9, hs, hn, hr, hry, hrz]; done))) | ((with_reducible apply O_gT); (focus (simp only [push_cast, ↓reduceIte, Nat.reduceEqDiff, Nat.reduceAdd, reduceCtorEq, Int.reduceToNat, Int.reduceEq, Int.reduceNe, Int.reduceLT, Int.reduceLE, h1, h2, h3, h4, h9, hs, hn, hr, hry, hrz]; done))) | ((with_reducible apply O_gF); (focus (simp only [push_cast, ↓reduceIte, Nat.reduceEqDiff, Nat.reduceAdd, reduceCtorEq, Int.reduceToNat, Int.reduceEq, Int.reduceNe, Int.reduceLT, Int.reduceLE, h1, h2, h3, h4, h9, hs, hn, hr, hry, hrz]; done))) | ((with_reducible apply O_gT0); (focus (simp only [push_cast, ↓reduceIte, Nat.reduceEqDiff, Nat.reduceAdd, reduceCtorEq, Int.reduceToNat, Int.reduceEq, Int.reduceNe, Int.reduceLT, Int.reduceLE, h1, h2, h3, h4, h9, hs, hn, hr, hry, hrz]; done))) | ((with_reducible apply O_gF0); (focus (simp only [push_cast, ↓reduceIte, Nat.reduceEqDiff, Nat.reduceAdd, reduceCtorEq, Int.reduceToNat, Int.reduceEq, Int.reduceNe, Int.reduceLT, Int.reduceLE, h1, h2, h3, h4, h9, hs, hn, hr, hry, hrz]; done))) | ((with_reducible apply O_gU); (focus (simp only [push_cast, ↓reduceIte, Nat.reduceEqDiff, Nat.reduceAdd, reduceCtorEq, Int.reduceToNat, Int.reduceEq, Int.reduceNe, Int.reduceLT, Int.reduceLE, h1, h2, h3, h4, h9, hs, hn, hr, hry, hrz]; done))) | ((with_reducible apply O_gU0); (focus (simp only [push_cast, ↓reduceIte, Nat.reduceEqDiff, Nat.reduceAdd, reduceCtorEq, Int.reduceToNat, Int.reduceEq, Int.reduceNe, Int.reduceLT, Int.reduceLE, h1, h2, h3, h4, h9, hs, hn, hr, hry, hrz]; done))) | ((with_reducible apply W_condT); (focus (simp only [push_cast, ↓reduceIte, Nat.reduceEqDiff, Nat.reduceAdd, reduceCtorEq, Int.reduceToNat, Int.reduceEq, Int.reduceNe, Int.reduceLT, Int.reduceLE, h1, h2, h3, h4, h9, hs, hn, hr, hry, hrz]; done))) | ((with_reducible apply W_condF); (focus (simp only [push_cast, ↓reduceIte, Nat.reduceEqDiff, Nat.reduceAdd, reduceCtorEq, Int.reduceToNat, Int.reduceEq, Int.reduceNe, Int.reduceLT, Int.reduceLE, h1, h2, h3, h4, h9, hs, hn, hr, hry, hrz]; done))) | ((with_reducible apply O_w); (focus (simp only [push_cast, ↓reduceIte, Nat.reduceEqDiff, Nat.reduceAdd, reduceCtorEq, Int.reduceToNat, Int.reduceEq, Int.reduceNe, Int.reduceLT, Int.reduceLE, h1, h2, h3, h4, h9, hs, hn, hr, hry, hrz]; rfl)); (focus (first | exact trivial | omega))) | ((with_reducible apply O_w); (focus (simp only [push_cast, ↓reduceIte, Nat.reduceEqDiff, Nat.reduceAdd, reduceCtorEq, Int.reduceToNat, Int.reduceEq, Int.reduceNe, Int.reduceLT, Int.reduceLE, h1, h2, h3, h4, h9, hs, hn, hr, hry, hrz]; rfl))))
      refine K_for (by simp only [push_cast, ↓reduceIte, Nat.reduceEqDiff, Nat.reduceAdd, reduceCtorEq, Int.reduceToNat, Int.reduceEq, Int.reduceNe, Int.reduceLT, Int.reduceLE, hs]) (by simp only [push_cast, ↓reduceIte, Nat.reduceEqDiff, Nat.reduceAdd, reduceCtorEq, Int.reduceToNat, Int.reduceEq, Int.reduceNe, Int.reduceLT, Int.reduceLE, hn]) ?_
      simp only [push_cast, ↓reduceIte, Nat.reduceEqDiff, Nat.reduceAdd, reduceCtorEq, Int.reduceToNat, Int.reduceEq, Int.reduceNe, Int.reduceLT, Int.reduceLE, h1, h2, h3, h4, h9, hsn]
    | true =>
      rw [hio] at hsn h4 h9
      simp only [Bool.true_and, decide_eq_true_eq] at hsn
      by_cases hla : y.lane = x.lane
      · rw [if_pos hla] at hsn
        have hd : decide (y.lane = x.lane) = true := by simpa using hla
        repeat' (first | with_reducible refine W_seq ?_ | with_reducible refine W_reg ?_ | with_reducible refine W_regD ?_ | with_reducible refine W_block ?_ | with_reducible refine W_skip ?_ | with_reducible refine W_ret ?_ | with_reducible refine W_exit ?_ | with_reducible refine O_nil ?_ | with_reducible refine K_seq ?_ | with_reducible refine K_seqE ?_ | with_reducible refine K_seqR ?_ | with_reducible refine K_block ?_ | with_reducible refine K_blockR ?_ | with_reducible refine K_blockE ?_ | with_reducible refine K_roundE ?_ | with_reducible refine K_roundR ?_ | with_reducible refine K_forE ?_ | with_reducible refine K_forR ?_ | with_reducible refine K_cut ?_ | with_reducible refine K_cutE ?_ | with_reducible refine K_cutR ?_ | with_reducible refine K_end ?_ | ((with_reducible apply K_blockN); (focus (decide))) | ((with_reducible apply O_r); (focus (simp only [push_cast, ↓reduceIte, Nat.reduceEqDiff, Nat.reduceAdd, reduceCtorEq, Int.reduceToNat, Int.reduceEq, Int.reduceNe, Int.reduceLT, Int.reduceLE, h1, h2, h3, h4, h9, hs, hn, hr, hry, hrz, hd]; rfl)); (focus (first | exact trivial | omega))) | ((with_reducible apply O_r); (focus (simp only [push_cast, ↓reduceIte, Nat.reduceEqDiff, Nat.reduceAdd, reduceCtorEq, Int.reduceToNat, Int.reduceEq, Int.reduceNe, Int.reduceLT, Int.reduceLE, h1, h2, h3, h4, h9, hs, hn, hr, hry, hrz, hd]; rfl))) | ((with_reducible apply O_gY); (focus (simp only [push_cast, ↓reduceIte, Nat.reduceEqDiff, Nat.reduceAdd, reduceCtorEq, Int.reduceToNat, Int.reduceEq, Int.reduceNe, Int.reduceLT, Int.reduceLE, h1, h2, h3, h4, h9, hs, hn, hr, hry, hrz, hd]; done))) | ((with_reducible apply O_gT); (focus (simp only [push_cast, ↓reduceIte, Nat.reduceEqDiff, Nat.reduceAdd, reduceCtorEq, Int.reduceToNat, Int.reduceEq, Int.reduceNe, Int.reduceLT, Int.reduceLE, h1, h2, h3, h4, h9, hs, hn, hr, hry, hrz, hd]; done))) | ((with_reducible apply O_gF); (focus (simp only [push_cast, ↓reduceIte, Nat.reduceEqDiff, Nat.reduceAdd, reduceCtorEq, Int.reduceToNat, Int.reduceEq, Int.reduceNe, Int.reduceLT, Int.reduceLE, h1, h2, h3, h4, h9, hs, hn, hr, hry, hrz, hd]; done))) | ((with_reducible apply O_gT0); (focus (simp only [push_cast, ↓reduceIte, Nat.reduceEqDiff, Nat.reduceAdd, reduceCtorEq, Int.reduceToNat, Int.reduceEq, Int.reduceNe, Int.reduceLT, Int.reduceLE, h1, h2, h3, h4, h9, hs, hn, hr, hry, hrz, hd]; done))) | ((with_reducible apply O_gF0); (focus (simp only [push_cast, ↓reduceIte, Nat.reduceEqDiff, Nat.reduceAdd, reduceCtorEq, Int.reduceToNat, Int.reduceEq, Int.reduceNe, Int.reduceLT, Int.reduceLE, h1, h2, h3, h4, h9, hs, hn, hr, hry, hrz, hd]; done))) | ((with_reducible apply O_gU); (focus (simp only [push_cast, ↓reduceIte, Nat.reduceEqDiff, Nat.reduceAdd, reduceCtorEq, Int.reduceToNat, Int.reduceEq, Int.reduceNe, Int.reduceLT, Int.reduceLE, h1, h2, h3, h4, h9, hs, hn, hr, hry, hrz, hd]; done))) | ((with_reducible apply O_gU0); (focus (simp only [push_cast, ↓reduceIte, Nat.reduceEqDiff, Nat.reduceAdd, reduceCtorEq, Int.reduceToNat, Int.reduceEq, Int.reduceNe, Int.reduceLT, Int.reduceLE, h1, h2, h3, h4, h9, hs, hn, hr, hry, hrz, hd]; done))) | ((with_reducible apply W_condT); (focus (simp only [push_cast, ↓reduceIte, Nat.reduceEqDiff, Nat.reduceAdd, reduceCtorEq, Int.reduceToNat, Int.reduceEq, Int.reduceNe, Int.reduceLT, Int.reduceLE, h1, h2, h3, h4, h9, hs, hn, hr, hry, hrz, hd]; done))) | ((with_reducible apply W_condF); (focus (simp only [push_cast, ↓reduceIte, Nat.reduceEqDiff, Nat.reduceAdd, reduceCtorEq, Int.reduceToNat, Int.reduceEq, Int.reduceNe, Int.reduceLT, Int.reduceLE, h1, h2, h3, h4, h9, hs, hn, hr, hry, hrz, hd]; done))) | ((with_reducible apply O_w); (focus (simp only [push_cast, ↓reduceIte, Nat.reduceEqDiff, Nat.reduceAdd, reduceCtorEq, Int.reduceToNat, Int.reduceEq, Int.reduceNe, Int.reduceLT, Int.reduceLE, h1, h2, h3, h4, h9, hs, hn, hr, hry, hrz, hd]; rfl)); (focus (first | exact trivial | omega))) | ((with_reducible apply O_w); (focus (simp only [push_cast, ↓reduceIte, Nat.reduceEqDiff, Nat.reduceAdd, reduceCtorEq, Int.reduceToNat, Int.reduceEq, Int.reduceNe, Int.reduceLT, Int.reduceLE, h1, h2, h3, h4, h9, hs, hn, hr, hry, hrz, hd]; rfl))))
        refine K_for (by simp only [push_cast, ↓reduceIte, Nat.reduceEqDiff, Nat.reduceAdd, reduceCtorEq, Int.reduceToNat, Int.reduceEq, Int.reduceNe, Int.reduceLT, Int.reduceLE, hs]) (by simp only [push_cast, ↓reduceIte, Nat.reduceEqDiff, Nat.reduceAdd, reduceCtorEq, Int.reduceToNat, Int.reduceEq, Int.reduceNe, Int.reduceLT, Int.reduceLE, hn]) ?_
        simp only [push_cast, ↓reduceIte, Nat.reduceEqDiff, Nat.reduceAdd, reduceCtorEq, Int.reduceToNat, Int.reduceEq, Int.reduceNe, Int.reduceLT, Int.reduceLE, h1, h2, h3, h4, h9, hsn]
        rfl
      · rw [if_neg hla] at hsn
        have hd : decide (y.lane = x.lane) = false := by simpa using hla
        repeat' (first | with_reducible refine W_seq ?_ | with_reducible refine W_reg ?_ | with_reducible refine W_regD ?_ | with_reducible refine W_block ?_ | with_reducible refine W_skip ?_ | with_reducible refine W_ret ?_ | with_reducible refine W_exit ?_ | with_reducible refine O_nil ?_ | with_reducible refine K_seq ?_ | with_reducible refine K_seqE ?_ | with_reducible refine K_seqR ?_ | with_reducible refine K_block ?_ | with_reducible refine K_blockR ?_ | with_reducible refine K_blockE ?_ | with_reducible refine K_roundE ?_ | with_reducible refine K_roundR ?_ | with_reducible refine K_forE ?_ | with_reducible refine K_forR ?_ | with_reducible refine K_cut ?_ | with_reducible refine K_cutE ?_ | with_reducible refine K_cutR ?_ | with_reducible refine K_end ?_ | ((with_reducible apply K_blockN); (focus (decide))) | ((with_reducible apply O_r); (focus (simp only [push_cast, ↓reduceIte, Nat.reduceEqDiff, Nat.reduceAdd, reduceCtorEq, Int.reduceToNat, Int.reduceEq, Int.reduceNe, Int.reduceLT, Int.reduceLE, h1, h2, h3, h4, h9, hs, hn, hr, hry, hrz, hd]; rfl)); (focus (first | exact trivial | omega))) | ((with_reducible apply O_r); (focus (simp only [push_cast, ↓reduceIte, Nat.reduceEqDiff, Nat.reduceAdd, reduceCtorEq, Int.reduceToNat, Int.reduceEq, Int.reduceNe, Int.reduceLT, Int.reduceLE, h1, h2, h3, h4, h9, hs, hn, hr, hry, hrz, hd]; rfl))) | ((with_reducible apply O_gY); (focus (simp only [push_cast, ↓reduceIte, Nat.reduceEqDiff, Nat.reduceAdd, reduceCtorEq, Int.reduceToNat, Int.reduceEq, Int.reduceNe, Int.reduceLT, Int.reduceLE, h1, h2, h3, h4, h9, hs, hn, hr, hry, hrz, hd]; done))) | ((with_reducible apply O_gT); (focus (simp only [push_cast, ↓reduceIte, Nat.reduceEqDiff, Nat.reduceAdd, reduceCtorEq, Int.reduceToNat, Int.reduceEq, Int.reduceNe, Int.reduceLT, Int.reduceLE, h1, h2, h3, h4, h9, hs, hn, hr, hry, hrz, hd]; done))) | ((with_reducible apply O_gF); (focus (simp only [push_cast, ↓reduceIte, Nat.reduceEqDiff, Nat.reduceAdd, reduceCtorEq, Int.reduceToNat, Int.reduceEq, Int.reduceNe, Int.reduceLT, Int.reduceLE, h1, h2, h3, h4, h9, hs, hn, hr, hry, hrz, hd]; done))) | ((with_reducible apply O_gT0); (focus (simp only [push_cast, ↓reduceIte, Nat.reduceEqDiff, Nat.reduceAdd, reduceCtorEq, Int.reduceToNat, Int.reduceEq, Int.reduceNe, Int.reduceLT, Int.reduceLE, h1, h2, h3, h4, h9, hs, hn, hr, hry, hrz, hd]; done))) | ((with_reducible apply O_gF0); (focus (simp only [push_cast, ↓reduceIte, Nat.reduceEqDiff, Nat.reduceAdd, reduceCtorEq, Int.reduceToNat, Int.reduceEq, Int.reduceNe, Int.reduceLT, Int.reduceLE, h1, h2, h3, h4, h9, hs, hn, hr, hry, hrz, hd]; done))) | ((with_reducible apply O_gU); (focus (simp only [push_cast, ↓reduceIte, Nat.reduceEqDiff, Nat.reduceAdd, reduceCtorEq, Int.reduceToNat, Int.reduceEq, Int.reduceNe, Int.reduceLT, Int.reduceLE, h1, h2, h3, h4, h9, hs, hn, hr, hry, hrz, hd]; done))) | ((with_reducible apply O_gU0); (focus (simp only [push_cast, ↓reduceIte, Nat.reduceEqDiff, Nat.reduceAdd, reduceCtorEq, Int.reduceToNat, Int.reduceEq, Int.reduceNe, Int.reduceLT, Int.reduceLE, h1, h2, h3, h4, h9, hs, hn, hr, hry, hrz, hd]; done))) | ((with_reducible apply W_condT); (focus (simp only [push_cast, ↓reduceIte, Nat.reduceEqDiff, Nat.reduceAdd, reduceCtorEq, Int.reduceToNat, Int.reduceEq, Int.reduceNe, Int.reduceLT, Int.reduceLE, h1, h2, h3, h4, h9, hs, hn, hr, hry, hrz, hd]; done))) | ((with_reducible apply W_condF); (focus (simp only [push_cast, ↓reduceIte, Nat.reduceEqDiff, Nat.reduceAdd, reduceCtorEq, Int.reduceToNat, Int.reduceEq, Int.reduceNe, Int.reduceLT, Int.reduceLE, h1, h2, h3, h4, h9, hs, hn, hr, hry, hrz, hd]; done))) | ((with_reducible apply O_w); (focus (simp only [push_cast, ↓reduceIte, Nat.reduceEqDiff, Nat.reduceAdd, reduceCtorEq, Int.reduceToNat, Int.reduceEq, Int.reduceNe, Int.reduceLT, Int.reduceLE, h1, h2, h3, h4, h9, hs, hn, hr, hry, hrz, hd]; rfl)); (focus (first | exact trivial | omega))) | ((with_reducible apply O_w); (focus (simp only [push_cast, ↓reduceIte, Nat.reduceEqDiff, Nat.reduceAdd, reduceCtorEq, Int.reduceToNat, Int.reduceEq, Int.reduceNe, Int.reduceLT, Int.reduceLE, h1, h2, h3, h4, h9, hs, hn, hr, hry, hrz, hd]; rfl))))
        refine K_for (by simp only [push_cast, ↓reduceIte, Nat.reduceEqDiff, Nat.reduceAdd, reduceCtorEq, Int.reduceToNat, Int.reduceEq, Int.reduceNe, Int.reduceLT, Int.reduceLE, hs]) (by simp only [push_cast, ↓reduceIte, Nat.reduceEqDiff, Nat.reduceAdd, reduceCtorEq, Int.reduceToNat, Int.reduceEq, Int.reduceNe, Int.reduceLT, Int.reduceLE, hn]) ?_
        simp only [push_cast, ↓reduceIte, Nat.reduceEqDiff, Nat.reduceAdd, reduceCtorEq, Int.reduceToNat, Int.reduceEq, Int.reduceNe, Int.reduceLT, Int.reduceLE, h1, h2, h3, h4, h9, hsn]
  · intro s h hI
    obtain ⟨h1, h2, h3, h4, h9⟩ := hI
    repeat' (first | with_reducible refine W_seq ?_ | with_reducible refine W_reg ?_ | with_reducible refine W_regD ?_ | with_reducible refine W_block ?_ | with_reducible refine W_skip ?_ | with_reducible refine W_ret ?_ | with_reducible refine W_exit ?_ | with_reducible refine O_nil ?_ | with_reducible refine K_seq ?_ | with_reducible refine K_seqE ?_ | with_reducible refine K_seqR ?_ | with_reducible refine K_block ?_ | with_reducible refine K_blockR ?_ | with_reducible refine K_blockE ?_ | with_reducible refine K_roundE ?_ | with_reducible refine K_roundR ?_ | with_reducible refine K_forE ?_ | with_reducible refine K_forR ?_ | with_reducible refine K_cut ?_ | with_reducible refine K_cutE ?_ | with_reducible refine K_cutR ?_ | with_reducible refine K_end ?_ | ((with_reducible apply K_blockN); (focus (decide))) | ((with_reducible apply O_r); (focus (simp only [push_cast, ↓reduceIte, Nat.reduceEqDiff, Nat.reduceAdd, reduceCtorEq, Int.reduceToNat, Int.reduceEq, Int.reduceNe, Int.reduceLT, Int.reduceLE, h9]; rfl)); (focus (first | exact trivial | omega))) | ((with_reducible apply O_r); (focus (simp only [push_cast, ↓reduceIte, Nat.reduceEqDiff, Nat.reduceAdd, reduceCtorEq, Int.reduceToNat, Int.reduceEq, Int.reduceNe, Int.reduceLT, Int.reduceLE, h9]; rfl))) | ((with_reducible apply O_gY); (focus (simp only [push_cast, ↓reduceIte, Nat.reduceEqDiff, Nat.reduceAdd, reduceCtorEq, Int.reduceToNat, Int.reduceEq, Int.reduceNe, Int.reduceLT, Int.reduceLE, h9]; done))) | ((with_reducible apply O_gT); (focus (simp only [push_cast, ↓reduceIte, Nat.reduceEqDiff, Nat.reduceAdd, reduceCtorEq, Int.reduceToNat, Int.reduceEq, Int.reduceNe, Int.reduceLT, Int.reduceLE, h9]; done))) | ((with_reducible apply O_gF); (focus (simp only [push_cast, ↓reduceIte, Nat.reduceEqDiff, Nat.reduceAdd, reduceCtorEq, Int.reduceToNat, Int.reduceEq, Int.reduceNe, Int.reduceLT, Int.reduceLE, h9]; done))) | ((with_reducible apply O_gT0); (focus (simp only [push_cast, ↓reduceIte, Nat.reduceEqDiff, Nat.reduceAdd, reduceCtorEq, Int.reduceToNat, Int.reduceEq, Int.reduceNe, Int.reduceLT, Int.reduceLE, h9]; done))) | ((with_reducible apply O_gF0); (focus (simp only [push_cast, ↓reduceIte, Nat.reduceEqDiff, Nat.reduceAdd, reduceCtorEq, Int.reduceToNat, Int.reduceEq, Int.reduceNe, Int.reduceLT, Int.reduceLE, h9]; done))) | ((with_reducible apply O_gU); (focus (simp only [push_cast, ↓reduceIte, Nat.reduceEqDiff, Nat.reduceAdd, reduceCtorEq, Int.reduceToNat, Int.reduceEq, Int.reduceNe, Int.reduceLT, Int.reduceLE, h9]; done))) | ((with_reducible apply O_gU0); (focus (simp only [push_cast, ↓reduceIte, Nat.reduceEqDiff, Nat.reduceAdd, reduceCtorEq, Int.reduceToNat, Int.reduceEq, Int.reduceNe, Int.reduceLT, Int.reduceLE, h9]; done))) | ((with_reducible apply W_condT); (focus (simp only [push_cast, ↓reduceIte, Nat.reduceEqDiff, Nat.reduceAdd, reduceCtorEq, Int.reduceToNat, Int.reduceEq, Int.reduceNe, Int.reduceLT, Int.reduceLE, h9]; done))) | ((with_reducible apply W_condF); (focus (simp only [push_cast, ↓reduceIte, Nat.reduceEqDiff, Nat.reduceAdd, reduceCtorEq, Int.reduceToNat, Int.reduceEq, Int.reduceNe, Int.reduceLT, Int.reduceLE, h9]; done))) | ((with_reducible apply O_w); (focus (simp only [push_cast, ↓reduceIte, Nat.reduceEqDiff, Nat.reduceAdd, reduceCtorEq, Int.reduceToNat, Int.reduceEq, Int.reduceNe, Int.reduceLT, Int.reduceLE, h9]; rfl)); (focus (first | exact trivial | omega))) | ((with_reducible apply O_w); (focus (simp only [push_cast, ↓reduceIte, Nat.reduceEqDiff, Nat.reduceAdd, reduceCtorEq, Int.reduceToNat, Int.reduceEq, Int.reduceNe, Int.reduceLT, Int.reduceLE, h9]; rfl))))
    simp only [resOf, resL, RV.get, SV.fin, SV.finL, push_cast, ↓reduceIte, Nat.reduceEqDiff, Nat.reduceAdd, reduceCtorEq, Int.reduceToNat, Int.reduceEq, Int.reduceNe, Int.reduceLT, Int.reduceLE, h9]
end Go.Proofs.YtjdeikkojjdjdaaDoor

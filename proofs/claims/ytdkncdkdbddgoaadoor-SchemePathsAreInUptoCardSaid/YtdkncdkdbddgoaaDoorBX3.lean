/-
  Texts of mine, one behind the other (SXSA1, SXSA2, SXSAU).
-/
import Derived.Test.YtdkncdkdbddgoaaDoorBX2
/-
  Plain laws: what a path finds is what its last part finds in all groups to which its names lead.
-/
namespace Go.Proofs.YtdkncdkdbddgoaaDoor
set_option linter.unusedSimpArgs false
set_option linter.unusedVariables false
open Go.RowKit

/-! ### The names of groups in a right tree -/
def NOk : Nat → List Br → Prop
  | 0, _ => True
  | d + 1, l => ∀ b ∈ l, b.fName ≠ [] → nameF b.fName = true ∧ NOk d b.fKids
theorem ct_names : ∀ (d : Nat) (l : List Br) (many : Int), d ≤ 7 → (ctF (d + 1) l (7 - (d : Int)) many).1 = 0 → NOk d l
  | 0, _, _, _, _ => trivial
  | d + 1, [], many, _, _ => fun b hb => by cases hb
  | d + 1, b :: l, many, hd, h => by
    have hdeep : (7 - ((d + 1 : Nat) : Int)) + 1 = 7 - (d : Int) := by omega
    have hstep : ∀ (l : List Br) (m : Int), ctF (d + 1 + 1) l (7 - ((d + 1 : Nat) : Int)) m = liF (brF (fun kids m => ctF (d + 1) kids (7 - (d : Int)) m) (7 - ((d + 1 : Nat) : Int))) l m := fun l m => by
      show liF (brF (fun kids m => ctF (d + 1) kids (7 - ((d + 1 : Nat) : Int) + 1) m) (7 - ((d + 1 : Nat) : Int))) l m = _
      rw [hdeep]
    rw [hstep] at h
    unfold liF at h
    by_cases hb : (brF (fun kids m => ctF (d + 1) kids (7 - (d : Int)) m) (7 - ((d + 1 : Nat) : Int)) many b).1 = 0
    · rw [if_pos hb, ← hstep] at h
      have k1 := ct_names (d + 1) l _ hd h
      intro q hq hn
      rcases List.mem_cons.1 hq with rfl | hq
      · unfold brF at hb
        split at hb
        · cases hb
        · split at hb
          · cases hb
          · rename_i c2
            split at hb
            · cases hb
            · refine ⟨?_, ct_names d q.fKids _ (by omega) hb⟩
              cases hq2 : nameF q.fName with
              | true => rfl
              | false => exact absurd ⟨hn, hq2⟩ c2
      · exact k1 q hq hn
    · rw [if_neg hb] at h
      exact absurd h hb
theorem nok_up : ∀ (d : Nat) {l : List Br}, TOk d l → NOk d l → NOk (d + 1) l
  | 0, l, h, _ => by
    have h : l = [] := h
    subst h
    intro b hb; cases hb
  | d + 1, l, h, hn => fun b hb hne => by
    rcases h b hb with h | ⟨h1, h2, h3, h4⟩
    · exact absurd h.1 hne
    · obtain ⟨n1, n2⟩ := hn b hb hne
      exact ⟨n1, nok_up d h4 n2⟩
/-- A right tree is one that CheckTree lets be. -/
theorem ct_back : ∀ (d : Nat) (l : List Br) (many : Int), d ≤ 7 → TOk d l → NOk d l → 0 ≤ many → many + leaves d l ≤ 2000 → ctF (d + 1) l (7 - (d : Int)) many = (0, many + leaves d l)
  | 0, l, many, _, h, _, _, _ => by
    have h : l = [] := h
    subst h
    simp [ctF, liF, leaves]
  | d + 1, [], many, _, _, _, _, _ => by simp [ctF, liF, leaves]
  | d + 1, b :: l, many, hd, h, hn, h0, hm => by
    have hdeep : (7 - ((d + 1 : Nat) : Int)) + 1 = 7 - (d : Int) := by omega
    have hstep : ∀ (l : List Br) (m : Int), ctF (d + 1 + 1) l (7 - ((d + 1 : Nat) : Int)) m = liF (brF (fun kids m => ctF (d + 1) kids (7 - (d : Int)) m) (7 - ((d + 1 : Nat) : Int))) l m := fun l m => by
      show liF (brF (fun kids m => ctF (d + 1) kids (7 - ((d + 1 : Nat) : Int) + 1) m) (7 - ((d + 1 : Nat) : Int))) l m = _
      rw [hdeep]
    have hlv : leaves (d + 1) (b :: l) = (if b.fName = [] then 1 else leaves d b.fKids) + leaves (d + 1) l := by
      simp only [leaves, List.map_cons, List.sum_cons]
    rw [hlv] at hm ⊢
    have hone : brF (fun kids m => ctF (d + 1) kids (7 - (d : Int)) m) (7 - ((d + 1 : Nat) : Int)) many b = (0, many + ((if b.fName = [] then 1 else leaves d b.fKids : Nat) : Int)) := by
      unfold brF
      rcases h b (by simp) with ⟨l1, l2, l3⟩ | ⟨g1, g2, g3, g4⟩
      · have hc : cntB many b = many + 1 := by unfold cntB; rw [if_pos l1]
        rw [if_pos l1] at hm
        have hf : formB b = false := by unfold formB; rw [decide_eq_true l1, l3]; rfl
        rw [hc, if_neg (by omega), if_neg (by simp [l1]), hf, if_neg (by simp), if_pos l1, l2, if_pos l1]
        rfl
      · have hc : cntB many b = many := by unfold cntB; rw [if_neg g1]
        rw [if_neg g1] at hm
        obtain ⟨n1, n2⟩ := hn b (by simp) g1
        have hf : formB b = false := by unfold formB; rw [decide_eq_false g1, g2, g3]; rfl
        rw [hc, if_neg (by omega), if_neg (by simp [n1]), hf, if_neg (by simp), if_neg g1, if_neg g1]
        exact ct_back d b.fKids many (by omega) g4 n2 h0 (by omega)
    rw [hstep]
    unfold liF
    rw [hone, if_pos rfl, ← hstep, ct_back (d + 1) l _ hd (fun q hq => h q (by simp [hq])) (fun q hq => hn q (by simp [hq])) (by simp only; split <;> omega) (by simp only; omega)]
    simp only [Prod.mk.injEq, true_and]
    omega
/-! ### Groups of a right tree -/
theorem ins_nok : ∀ (ns : List (List UInt8)) {l : List Br}, (∀ n ∈ ns, n ≠ []) → T7 l → NOk 7 l → ∀ k ∈ insF ns l, NOk 7 k
  | [], l, _, _, h, k, hk => by rw [List.mem_singleton.1 hk]; exact h
  | n :: ns, l, hne, ht, h, k, hk => by
    obtain ⟨q, hq, hk⟩ := List.mem_flatMap.1 hk
    obtain ⟨b, hb, h1, rfl⟩ := kidsN_mem hq
    have hn0 : b.fName ≠ [] := by rw [h1]; exact hne n (by simp)
    have h6 : TOk 6 b.fKids := by
      rcases ht b hb with h | ⟨_, _, _, h4⟩
      · exact absurd h.1 hn0
      · exact h4
    exact ins_nok ns (fun m hm => hne m (by simp [hm])) (t7_kids ht hb hn0).1 (nok_up 6 h6 (h b hb hn0).2) k hk
theorem ins_shb : ∀ (ns : List (List UInt8)) {l : List Br}, (∀ b ∈ l, ShB b) → ∀ k ∈ insF ns l, ∀ b ∈ k, ShB b
  | [], l, h, k, hk => by rw [List.mem_singleton.1 hk]; exact h
  | n :: ns, l, h, k, hk => by
    obtain ⟨q, hq, hk⟩ := List.mem_flatMap.1 hk
    obtain ⟨b, hb, _, rfl⟩ := kidsN_mem hq
    exact ins_shb ns (h b hb).kids k hk
theorem ins_app (m : List (List UInt8)) : ∀ (ns : List (List UInt8)) (l : List Br), insF (ns ++ m) l = (insF ns l).flatMap (insF m)
  | [], l => by simp [insF]
  | n :: ns, l => by
    show (kidsN n l).flatMap (insF (ns ++ m)) = ((kidsN n l).flatMap (insF ns)).flatMap (insF m)
    rw [flatMap_flatMap]
    congr 1
    funext a
    exact ins_app m ns a
theorem find_app (ns m : List (List UInt8)) (l : List Br) (a : List UInt8) (n k : Int) : findF l (ns ++ m) a n k = (insF ns l).flatMap fun e => findF e m a n k := by
  unfold findF
  rw [ins_app, flatMap_flatMap]
/-! ### The path of names and a last part -/
theorem split_join {c : UInt8} (s t : List UInt8) : Lib.split (s ++ [c] ++ t) [c] = Lib.split s [c] ++ Lib.split t [c] := by
  obtain ⟨L, x, h, hs⟩ := Pcs.of (c := c) (s := s)
  obtain ⟨M, y, g, ht⟩ := Pcs.of (c := c) (s := t)
  have : Pcs c (L ++ [x] ++ M) y (s ++ [c] ++ t) := by
    refine ⟨?_, fun l hl => ?_, g.nt⟩
    · rw [h.eq, g.eq]; simp
    · rcases List.mem_append.1 hl with hl | hl
      · rcases List.mem_append.1 hl with hl | hl
        · exact h.no l hl
        · rw [List.mem_singleton.1 hl]; exact h.nt
      · exact g.no l hl
  rw [this.split, hs, ht]; simp
theorem split_ne {c : UInt8} (t : List UInt8) : ∃ M y, Lib.split t [c] = M ++ [y] := by
  obtain ⟨M, y, _, ht⟩ := Pcs.of (c := c) (s := t)
  exact ⟨M, y, ht⟩
theorem way_join {s : List UInt8} (t : List UInt8) (hs : (Lib.split s [47]).all nameF = true) : wayF (s ++ [47] ++ t) = (wayF t).map fun r => (Lib.split s [47] ++ r.1, r.2) := by
  unfold wayF
  rw [split_join]
  obtain ⟨M, y, ht⟩ := split_ne (c := 47) t
  rw [ht, ← List.append_assoc, List.dropLast_concat, List.dropLast_concat, List.getLast?_concat, List.getLast?_concat, List.all_append, hs, Bool.true_and]
  split
  · cases tailF (Lib.split ((some y).getD []) [46]) with
    | none => rfl
    | some r => rfl
  · rfl
end Go.Proofs.YtdkncdkdbddgoaaDoor

/-
  SchemePathsAreIn: the plain law.
-/
namespace Go.Proofs.YtdkncdkdbddgoaaDoor
set_option linter.unusedSimpArgs false
set_option linter.unusedVariables false
open Go.RowKit

/-- What is right of the groups, once their path is known. -/
theorem are_in {l : List Br} (hl : ∀ b ∈ l, ShB b) (hlen : l.length ≤ MX) (h8 : (ctF 8 l 0 0).1 = 0) {ns : List (List UInt8)} (hns : ∀ n ∈ ns, n ≠ []) {path last : List UInt8} (hle : last.length ≤ path.length)
    (hw : wayF path = (wayF last).map fun r => (ns ++ r.1, r.2)) :
    ((m_scheme_Find l path).bind fun x_1 =>
      bif !decide (x_1.snd = 0) then
        (andO (decide ((x_1.fst.length : Int) = 0)) (m_interchangelaw3_awake.bind fun x => some x)).bind fun v => some v
      else
        (loopC
              (fun s : List (List UInt8) × Int =>
                bif decide (s.snd < ((insF ns l).length : Int)) then
                  (getI (insF ns l) s.snd).bind fun e =>
                    (m_scheme_Find e last).bind fun x =>
                      bif !decide (x.snd = 0) then inrO (inrO (some false))
                      else
                        thenO (lenO (s.fst.length + x.fst.length))
                          (some (Sum.inl (s.fst ++ x.fst, IntKind.i64.wrap (s.snd + 1))))
                else inrO (some (Sum.inl (s.fst, s.snd))))
              ([], 0)).bind
          (outK fun s =>
            (m_slices_Equal_string_string x_1.fst s.fst).bind fun x =>
              (andO x (m_interchangelaw3_awake.bind fun x => some x)).bind fun v => some v)) = some true := by
  obtain ⟨ht, hL⟩ := tree_l7 h8
  have hN : NOk 7 l := ct_names 7 l 0 (by omega) h8
  rw [p_find l path hl hlen]
  simp only [Option.bind_some, awake_eq, andO_some]
  unfold fndF
  rw [if_neg (by simp [h8])]
  by_cases h2 : 200 < path.length
  · rw [if_pos h2]; rfl
  · rw [if_neg h2, hw]
    cases hwl : wayF last with
    | none => rfl
    | some r =>
      obtain ⟨ms, a, n, k⟩ := r
      simp only [Option.map_some, decide_true, Bool.not_true, cond_false]
      have hwp : wayF path = some (ns ++ ms, a, n, k) := by rw [hw, hwl]; rfl
      obtain ⟨k1, _⟩ := way_ok (by omega) hwp
      have hall : (findF l (ns ++ ms) a n k).length ≤ 40000 := lists_len (ins_ok ht hL k1) a n k
      rw [find_app] at hall ⊢
      have hls := ins_ok ht hL hns
      have holen := hls.len
      have hMX : MX = 9223372036854775807 := rfl
      refine (app_loop (insF ns l) [] (fun e => findF e ms a n k) 40000 (by rw [List.nil_append]; exact hall) _ (fun i q out hq hout => ?_) (fun out => by simp only [lt_dec_self, cond_false]; rfl)).trans ?_
      · have hi := get_le hq
        have hqm := List.mem_of_getElem? hq
        have hq7 := hls.all q hqm
        have hql := hls.lens q hqm
        have hqL : leaves 7 q ≤ 2000 := by
          have h1 : ∀ (ls : List (List Br)), q ∈ ls → L7 q ≤ (ls.map L7).sum := fun ls => by
            induction ls with
            | nil => intro h; cases h
            | cons a ls ih =>
              intro h
              simp only [List.map_cons, List.sum_cons]
              rcases List.mem_cons.1 h with rfl | h
              · omega
              · have := ih h; omega
          have h3 := h1 _ hqm
          have h4 := hls.sum
          show L7 q ≤ 2000
          omega
        have hq8 : (ctF 8 q 0 0).1 = 0 := by
          have := ct_back 7 q 0 (by omega) hq7 (ins_nok ns hns ht hN q hqm) (by omega) (by omega)
          rw [show (7 : Int) - ((7 : Nat) : Int) = 0 from rfl] at this
          rw [this]
        have hf : fndF q last = (findF q ms a n k, 0) := by
          unfold fndF
          rw [if_neg (by simp [hq8]), if_neg (by omega), hwl]
        simp only [lt_dec hi, cond_true, getI_nat, hq, Option.bind_some]
        rw [p_find q last (ins_shb ns hl q hqm) (by omega), hf]
        simp only [Option.bind_some, decide_true, Bool.not_true, cond_false]
        rw [lo_ok (by omega), wrapN i (by omega)]
      · rw [List.nil_append, eqS_refl _ (by omega)]; rfl
theorem strO_le {R : Type} {n : Nat} {m : Option R} (h : n ≤ 2000000) : thenO (strO n) m = m := thenO_some (strO_some.2 (by omega))
theorem law_in (l : List Br) (s t : List UInt8) (hl : ∀ b ∈ l, ShB b) (hlen : l.length ≤ MX) (ht : t.length ≤ 1048576) : m_interchangelaw3_SchemePathsAreIn l s t = some true := by
  unfold m_interchangelaw3_SchemePathsAreIn sims_G7_7_0; dsimp only
  rw [p_groups l s hl hlen]
  simp only [Option.bind_some]
  by_cases h8 : (ctF 8 l 0 0).1 = 0
  · by_cases h2 : 200 < s.length
    · have hg : grpF l s = ([], 2) := by unfold grpF; rw [if_neg (by simp [h8]), if_pos h2]
      rw [hg, awake_eq]; rfl
    · by_cases hb : grpBad s = true
      · have hg : grpF l s = ([], 10) := by unfold grpF; rw [if_neg (by simp [h8]), if_neg h2, if_pos hb]
        rw [hg, awake_eq]; rfl
      · have hg : grpF l s = (insF (namesF s) l, 0) := by unfold grpF; rw [if_neg (by simp [h8]), if_neg h2, if_neg hb]
        have hb : grpBad s = false := by simpa using hb
        have hns := names_ne hb
        rw [hg]
        simp only [decide_true, Bool.not_true, cond_false]
        by_cases h0 : s = []
        · rw [decide_eq_true h0]
          have hn : namesF s = [] := by unfold namesF; rw [if_pos h0]
          rw [hn] at hns ⊢
          simp only [Bool.not_true, cond_false]
          exact are_in hl hlen h8 hns (Nat.le_refl _) (by cases wayF t <;> rfl)
        · rw [decide_eq_false h0]
          have hn : namesF s = Lib.split s [47] := by unfold namesF; rw [if_neg h0]
          have hall : (Lib.split s [47]).all nameF = true := by
            unfold grpBad at hb
            rw [decide_eq_true h0] at hb
            simpa using hb
          rw [hn] at hns ⊢
          simp only [Bool.not_false, cond_true]
          rw [strO_le (by simp only [List.length_cons, List.length_nil]; omega), strO_le (by simp only [List.length_append, List.length_cons, List.length_nil]; omega)]
          exact are_in hl hlen h8 hns (by simp only [List.length_append, List.length_cons, List.length_nil]; omega) (way_join t hall)
  · have hg : grpF l s = ([], (ctF 8 l 0 0).1) := by unfold grpF; rw [if_pos h8]
    rw [hg, decide_eq_false h8, awake_eq]; rfl
end Go.Proofs.YtdkncdkdbddgoaaDoor

/-
  A tree of a parameter, as the row says it, is one whose lengths are in range; the texts are bounded by the bulk.
-/
namespace Go.Proofs.YtdkncdkdbddgoaaDoor
set_option linter.unusedSimpArgs false
set_option linter.unusedVariables false
open Go.RowKit

theorem shB_of : ∀ {b : Tapi_Branch}, okTapi_Branch b → ShB b := by
  intro b h
  induction h with
  | mk hn hs hl hk ih => exact .mk hn hs.1 hl ih
theorem law_inU (l : List Tapi_Branch) (s t : List UInt8) (hl : okL okTapi_Branch l) (hb : dvBL [.slice (l.map rTapi_Branch), .str s, .str t] ≤ 1048576) : m_interchangelaw3_SchemePathsAreIn l s t = some true :=
  law_in l s t (fun b hb => shB_of (hl.2 b hb)) hl.1 (by simp only [dvBL, dvB] at hb; omega)
end Go.Proofs.YtdkncdkdbddgoaaDoor

/-
  Plain laws of the wire: the best marks.
-/
import Derived.Test.YteilhjdpbjgdpaaDoorQ8
import Derived.Test.YteilhjdpbjgdpaaDoorG7
namespace Go.Proofs.YteilhjdpbjgdpaaDoor
set_option linter.unusedSimpArgs false
set_option linter.unusedVariables false
open Go.RowKit

/-- One more set of marks: the best so far and how many escape marks it needs. -/
def bestStep (l : List Tapi_Segment) (i : Nat) (w : Int × Int) (m : Tapi_Marks) : Int × Int :=
  if (decide (m.fEscape.toNat ≠ 0) || decide (cntL m l = 0)) && (decide (w.1 < 0) || decide ((cntL m l : Int) < w.2)) then ((i : Int), (cntL m l : Int)) else w
def bestFold (l : List Tapi_Segment) : Nat → Int × Int → List Tapi_Marks → Int × Int
  | _, w, [] => w
  | i, w, m :: ms => bestFold l (i + 1) (bestStep l i w m) ms
theorem bestFold_snoc (l : List Tapi_Segment) : ∀ (ms : List Tapi_Marks) (i : Nat) (w : Int × Int) (m : Tapi_Marks), bestFold l i w (ms ++ [m]) = bestStep l (i + ms.length) (bestFold l i w ms) m
  | [], i, w, m => rfl
  | x :: ms, i, w, m => by
    simp only [List.cons_append, bestFold, bestFold_snoc l ms (i + 1), List.length_cons]
    rw [show i + 1 + ms.length = i + (ms.length + 1) by omega]
def bestF (l : List Tapi_Segment) (sets : List Tapi_Marks) : Int × Int :=
  if segsF l ≠ 0 then (0, segsF l) else if sets.length = 0 then (0, 9) else if 50 < sets.length then (0, 2) else
  if listF marksF sets ≠ 0 then (0, listF marksF sets) else if (bestFold l 0 (-1, 0) sets).1 < 0 then (0, 9) else ((bestFold l 0 (-1, 0) sets).1, 0)
theorem w_best (l : List Tapi_Segment) (sets : List Tapi_Marks) (hs : TagsShort l) : m_wire_BestMarks l sets = some (bestF l sets) := by
  unfold m_wire_BestMarks sims_G7_1_0; dsimp only
  unfold bestF
  simp only [w_segs l hs, Option.bind_some]
  by_cases h : segsF l = 0
  · have n0 : ¬ (segsF l ≠ 0) := fun e => e h
    rw [if_neg n0]
    simp only [h, decide_true, Bool.not_true, cond_false]
    by_cases h0 : sets.length = 0
    · have c : decide ((sets.length : Int) = 0) = true := decide_eq_true (by omega)
      simp only [c, cond_true, if_pos h0]
    · have c : decide ((sets.length : Int) = 0) = false := decide_eq_false (by omega)
      by_cases h1 : 50 < sets.length
      · have d : decide ((50 : Int) < (sets.length : Int)) = true := decide_eq_true (by omega)
        simp only [c, d, cond_true, cond_false, if_neg h0, if_pos h1]
      · have d : decide ((50 : Int) < (sets.length : Int)) = false := decide_eq_false (by omega)
        simp only [c, d, cond_false, if_neg h0, if_neg h1]
        refine (loop_fault sets marksF (fun a => ((0 : Int), a)) _ (fun i e he => ?_) ?_).trans ?_
        · have hi := get_le he
          simp only [lt_dec hi, cond_true, getI_nat, he, Option.bind_some, wrapN i (by omega), w_marks]
          by_cases hz : marksF e = 0 <;> simp [hz, inrO]
        · simp only [lt_dec_self, cond_false]; rfl
        · by_cases hf : listF marksF sets = 0
          · rw [if_pos hf, if_neg (fun e => e hf)]
            refine bind_loop (loop_pre (a := .inl ((bestFold l 0 (-1, 0) sets).1, (bestFold l 0 (-1, 0) sets).2, ((sets.length : Nat) : Int))) sets (fun i pre => ((bestFold l 0 (-1, 0) pre).1, (bestFold l 0 (-1, 0) pre).2, ((i : Nat) : Int))) (fun i e he => ?_) ?_) ?_
            · have hi := get_le he
              rw [bestFold_snoc, take_len he, Nat.zero_add]
              generalize bestFold l 0 (-1, 0) (sets.take i) = w
              simp only [lt_dec hi, cond_true, getI_nat, he, Option.bind_some, wrapN i (by omega), w_escapes l e h, r_written l e false h, rSegs_cnt, Nat.zero_add, orO_some, andO_some]
              have e1 : (!decide ((e.fEscape.toNat : Int) = 0)) = decide (e.fEscape.toNat ≠ 0) := by by_cases hz : e.fEscape.toNat = 0 <;> simp [hz]
              have e2 : decide (((cntL e l : Nat) : Int) = 0) = decide (cntL e l = 0) := by congr 1; apply propext; omega
              rw [e1, e2]
              unfold bestStep
              cases ((decide (e.fEscape.toNat ≠ 0) || decide (cntL e l = 0)) && (decide (w.1 < 0) || decide (((cntL e l : Nat) : Int) < w.2))) <;> rfl
            · simp only [lt_dec_self, cond_false]; rfl
            · simp only [outK]
              by_cases hn : (bestFold l 0 (-1, 0) sets).1 < 0
              · simp only [hn, decide_true, cond_true, if_true]
              · simp only [hn, decide_false, cond_false, if_false]
          · rw [if_neg hf, if_pos hf]
  · rw [if_pos h]
    simp only [h, decide_false, Bool.not_false, cond_true]
theorem r_best (l : List Tapi_Segment) (sets : List Tapi_Marks) (hs : TagsShort l) : m_interchangeref2_BestMarks l sets = some (bestF l sets) := by
  unfold m_interchangeref2_BestMarks sims_G7_1_0; dsimp only
  unfold bestF
  simp only [r_segs l hs, Option.bind_some]
  by_cases h : segsF l = 0
  · have n0 : ¬ (segsF l ≠ 0) := fun e => e h
    rw [if_neg n0]
    simp only [h, decide_true, Bool.not_true, cond_false]
    by_cases h0 : sets.length = 0
    · have c : decide ((sets.length : Int) = 0) = true := decide_eq_true (by omega)
      simp only [c, cond_true, if_pos h0]
    · have c : decide ((sets.length : Int) = 0) = false := decide_eq_false (by omega)
      by_cases h1 : 50 < sets.length
      · have d : decide ((50 : Int) < (sets.length : Int)) = true := decide_eq_true (by omega)
        simp only [c, d, cond_true, cond_false, if_neg h0, if_pos h1]
      · have d : decide ((50 : Int) < (sets.length : Int)) = false := decide_eq_false (by omega)
        simp only [c, d, cond_false, if_neg h0, if_neg h1]
        refine (loop_fault sets marksF (fun a => ((0 : Int), a)) _ (fun i e he => ?_) ?_).trans ?_
        · have hi := get_le he
          simp only [lt_dec hi, cond_true, getI_nat, he, Option.bind_some, wrapN i (by omega), r_marks]
          by_cases hz : marksF e = 0 <;> simp [hz, inrO]
        · simp only [lt_dec_self, cond_false]; rfl
        · by_cases hf : listF marksF sets = 0
          · rw [if_pos hf, if_neg (fun e => e hf)]
            refine bind_loop (loop_pre (a := .inl ((bestFold l 0 (-1, 0) sets).1, (bestFold l 0 (-1, 0) sets).2, ((sets.length : Nat) : Int))) sets (fun i pre => ((bestFold l 0 (-1, 0) pre).1, (bestFold l 0 (-1, 0) pre).2, ((i : Nat) : Int))) (fun i e he => ?_) ?_) ?_
            · have hi := get_le he
              rw [bestFold_snoc, take_len he, Nat.zero_add]
              generalize bestFold l 0 (-1, 0) (sets.take i) = w
              simp only [lt_dec hi, cond_true, getI_nat, he, Option.bind_some, wrapN i (by omega), w_escapes l e h, r_written l e false h, rSegs_cnt, Nat.zero_add, orO_some, andO_some]
              have e1 : (!decide ((e.fEscape.toNat : Int) = 0)) = decide (e.fEscape.toNat ≠ 0) := by by_cases hz : e.fEscape.toNat = 0 <;> simp [hz]
              have e2 : decide (((cntL e l : Nat) : Int) = 0) = decide (cntL e l = 0) := by congr 1; apply propext; omega
              rw [e1, e2]
              unfold bestStep
              cases ((decide (e.fEscape.toNat ≠ 0) || decide (cntL e l = 0)) && (decide (w.1 < 0) || decide (((cntL e l : Nat) : Int) < w.2))) <;> rfl
            · simp only [lt_dec_self, cond_false]; rfl
            · simp only [outK]
              by_cases hn : (bestFold l 0 (-1, 0) sets).1 < 0
              · simp only [hn, decide_true, cond_true, if_true]
              · simp only [hn, decide_false, cond_false, if_false]
          · rw [if_neg hf, if_pos hf]
  · rw [if_pos h]
    simp only [h, decide_false, Bool.not_false, cond_true]
/-- What the best is. -/
theorem best_inv (l : List Tapi_Segment) : ∀ (ms pre : List Tapi_Marks) (w : Int × Int), 
    ((w.1 = -1 ∧ ∀ m ∈ pre, m.fEscape.toNat = 0 ∧ cntL m l ≠ 0) ∨ (∃ (k : Nat) (b : Tapi_Marks), pre[k]? = some b ∧ w = ((k : Int), (cntL b l : Int)) ∧ ∀ m ∈ pre, m.fEscape.toNat ≠ 0 ∨ cntL m l = 0 → cntL b l ≤ cntL m l)) →
    ((bestFold l pre.length w ms).1 = -1) ∨ (∃ (k : Nat) (b : Tapi_Marks), (pre ++ ms)[k]? = some b ∧ bestFold l pre.length w ms = ((k : Int), (cntL b l : Int)) ∧ ∀ m ∈ pre ++ ms, m.fEscape.toNat ≠ 0 ∨ cntL m l = 0 → cntL b l ≤ cntL m l)
  | [], pre, w, h => by
    rcases h with h | ⟨k, b, h1, h2, h3⟩
    · exact .inl h.1
    · exact .inr ⟨k, b, by simpa using h1, h2, by simpa using h3⟩
  | x :: ms, pre, w, h => by
    have key : ((bestStep l pre.length w x).1 = -1 ∧ ∀ m ∈ pre ++ [x], m.fEscape.toNat = 0 ∧ cntL m l ≠ 0) ∨ (∃ (k : Nat) (b : Tapi_Marks), (pre ++ [x])[k]? = some b ∧ bestStep l pre.length w x = ((k : Int), (cntL b l : Int)) ∧ ∀ m ∈ pre ++ [x], m.fEscape.toNat ≠ 0 ∨ cntL m l = 0 → cntL b l ≤ cntL m l) := by
      unfold bestStep
      by_cases hc : ((decide (x.fEscape.toNat ≠ 0) || decide (cntL x l = 0)) && (decide (w.1 < 0) || decide ((cntL x l : Int) < w.2))) = true
      · rw [if_pos hc]
        simp only [Bool.and_eq_true, Bool.or_eq_true, decide_eq_true_eq] at hc
        obtain ⟨hc1, hc2⟩ := hc
        refine .inr ⟨pre.length, x, by simp, rfl, fun m hm hh => ?_⟩
        rcases List.mem_append.1 hm with hm | hm
        · rcases h with ⟨h1, h2⟩ | ⟨k, b, h1, h2, h3⟩
          · have := h2 m hm; omega
          · subst h2
            have := h3 m hm hh
            simp only at hc2
            omega
        · simp only [List.mem_singleton] at hm; subst hm; omega
      · rw [if_neg hc]
        simp only [Bool.and_eq_true, Bool.or_eq_true, decide_eq_true_eq] at hc
        rcases h with ⟨h1, h2⟩ | ⟨k, b, h1, h2, h3⟩
        · refine .inl ⟨h1, fun m hm => ?_⟩
          rcases List.mem_append.1 hm with hm | hm
          · exact h2 m hm
          · simp only [List.mem_singleton] at hm; subst hm; omega
        · refine .inr ⟨k, b, ?_, h2, fun m hm hh => ?_⟩
          · rw [List.getElem?_append_left (get_le h1)]; exact h1
          · rcases List.mem_append.1 hm with hm | hm
            · exact h3 m hm hh
            · simp only [List.mem_singleton] at hm; subst hm
              subst h2
              simp only at hc
              omega
    have := best_inv l ms (pre ++ [x]) (bestStep l pre.length w x) key
    simp only [List.length_append, List.length_cons, List.length_nil, Nat.zero_add, List.append_assoc, List.cons_append, List.nil_append] at this
    simp only [bestFold]
    exact this
theorem law_best (l : List Tapi_Segment) (sets : List Tapi_Marks) (hs : TagsShort l) : m_interchangelaw2_WireBestMatchesSpec l sets = some true := by
  unfold m_interchangelaw2_WireBestMatchesSpec sims_G7_2_0; dsimp only
  simp only [w_best l sets hs, r_best l sets hs, awake_true, Option.bind_some, orO_some, decide_true, Bool.not_true, Bool.or_self, cond_false]
  by_cases hf : (bestF l sets).2 = 0
  · simp only [hf, decide_true, Bool.not_true, cond_false]
    have hb := best_inv l sets [] (-1, 0) (.inl ⟨rfl, by simp⟩)
    simp only [List.length_nil, List.nil_append] at hb
    have hall : segsF l = 0 ∧ sets.length ≤ 50 ∧ listF marksF sets = 0 ∧ ¬ (bestFold l 0 (-1, 0) sets).1 < 0 ∧ (bestF l sets).1 = (bestFold l 0 (-1, 0) sets).1 := by
      unfold bestF at hf ⊢
      by_cases h : segsF l = 0
      · rw [if_neg (fun e => e h)] at hf ⊢
        by_cases h0 : sets.length = 0
        · rw [if_pos h0] at hf; cases hf
        · rw [if_neg h0] at hf ⊢
          by_cases h1 : 50 < sets.length
          · rw [if_pos h1] at hf; cases hf
          · rw [if_neg h1] at hf ⊢
            by_cases h2 : listF marksF sets = 0
            · rw [if_neg (fun e => e h2)] at hf ⊢
              by_cases h3 : (bestFold l 0 (-1, 0) sets).1 < 0
              · rw [if_pos h3] at hf; cases hf
              · rw [if_neg h3]; exact ⟨h, by omega, h2, h3, rfl⟩
            · rw [if_pos h2] at hf; exact absurd hf h2
      · rw [if_pos h] at hf; exact absurd hf h
    obtain ⟨h1, h2, h3, h4, h5⟩ := hall
    rcases hb with hb | ⟨k, b, hk, hb, hmin⟩
    · omega
    · rw [h5, hb]
      have hesc : ∀ m ∈ sets, escF l m = (((cntL m l : Nat) : Int), 0) := fun m hm => by
        unfold escF bothF
        rw [h1, if_pos rfl, listF_zero h3 m hm, if_pos rfl]
      simp only [getI_nat, hk, Option.bind_some, w_Escapes l b hs, hesc b (List.mem_of_getElem? hk), decide_true, Bool.not_true, cond_false]
      refine bind_loop (loop_pre (a := .inl ((sets.length : Nat) : Int)) sets (fun i _ => ((i : Nat) : Int)) (fun i e he => ?_) ?_) rfl
      · have hi := get_le he
        have hem := List.mem_of_getElem? he
        have hno : (!decide ((e.fEscape.toNat : Int) = 0) && decide (((cntL e l : Nat) : Int) < ((cntL b l : Nat) : Int))) = false := by
          by_cases hz : e.fEscape.toNat = 0
          · simp [hz]
          · have := hmin e hem (.inl hz)
            simp; omega
        simp only [lt_dec hi, cond_true, getI_nat, he, Option.bind_some, w_Escapes l e hs, hesc e hem, decide_true, Bool.not_true, orO_some, andO_some, Bool.false_or, hno, cond_false, wrapN i (by omega)]
      · simp only [lt_dec_self, cond_false]; rfl
  · simp only [hf, decide_false, Bool.not_false, cond_true]
end Go.Proofs.YteilhjdpbjgdpaaDoor

/-
  Plain laws: ReplyStatesAddUp.
-/
import Derived.Test.YtmbbbiocjehncaaDoorP6
import Derived.Test.YtmbbbiocjehncaaDoorG2
namespace Go.Proofs.YtmbbbiocjehncaaDoor
set_option linter.unusedSimpArgs false
set_option linter.unusedVariables false
open Go.RowKit

theorem faultAt_take {l : List Ev} {n j : Nat} (h : j < n) : faultAt (l.take n) j = faultAt l j := by
  have h1 : (l.take n)[j]? = l[j]? := List.getElem?_take_of_lt h
  have h2 : (l.take n)[j - 1]? = l[j - 1]? := List.getElem?_take_of_lt (by omega)
  unfold faultAt early
  rw [h1, h2]
theorem upto_take (l : List Ev) (m : Int) : upto l m = l.take (upto l m).length := (tw_take l).symm
theorem upto_len (l : List Ev) (m : Int) : (upto l m).length ≤ l.length := tw_len l
theorem upto_fault {l : List Ev} (hf : ∀ j, j < l.length → faultAt l j = 0) (m : Int) : ∀ j, j < (upto l m).length → faultAt (upto l m) j = 0 := by
  intro j hj
  have := upto_len l m
  rw [upto_take l m, faultAt_take hj]
  exact hf j (by omega)
def okSd (s : Sd) : Prop := (s.fAnswer = -1 ∧ s.fVerdict = 0 ∨ 0 ≤ s.fAnswer ∧ isVerdict s.fVerdict = true) ∧ 0 ≤ s.fDue
theorem evFault_parts {e : Ev} (h : evFault e = 0) : 0 ≤ e.fTime ∧ (e.fKind = 1 → 0 ≤ e.fDue) ∧ (e.fKind ≠ 1 → isVerdict e.fVerdict = true) := by
  have ht := evFault_time h
  unfold evFault at h
  refine ⟨ht.1, fun h1 => ?_, fun h1 => ?_⟩
  · simp only [h1, if_true] at h
    repeat' split at h
    all_goals first | omega | (rename_i ho; simp [outside] at ho; omega)
  · simp only [h1, if_false] at h
    repeat' split at h
    all_goals first | omega | (rename_i hv; simpa using hv)
theorem bkAt_ok {l : List Ev} (hf : ∀ e ∈ l, evFault e = 0) : ∀ n, ∀ s ∈ (bkAt l n).1, okSd s
  | 0 => by simp [bkAt]
  | n + 1 => by
    have ih := bkAt_ok hf n
    simp only [bkAt]
    split
    · rename_i e he
      obtain ⟨h0, h1, h2⟩ := evFault_parts (hf e (List.mem_of_getElem? he))
      generalize bkAt l n = st at ih
      obtain ⟨out, left⟩ := st
      unfold bstep
      split
      · rename_i hk
        intro s hs
        rcases List.mem_append.1 hs with hs | hs
        · exact ih s hs
        · simp at hs; subst hs; exact ⟨.inl ⟨rfl, rfl⟩, h1 hk⟩
      · rename_i hk
        split
        · exact ih
        · split
          · rename_i s hs
            intro s' hs'
            rcases List.mem_or_eq_of_mem_set hs' with hs' | rfl
            · exact ih s' hs'
            · exact ⟨.inr ⟨h0, h2 hk⟩, (ih s (List.mem_of_getElem? hs)).2⟩
          · exact ih
    · exact ih
theorem filter_upto {l : List Ev} (hf : ∀ j, j < l.length → faultAt l j = 0) (m : Int) : (l.filter fun e => sentP e && decide (e.fTime ≤ m)) = (upto l m).filter sentP := by
  have hsplit : l = upto l m ++ l.drop (upto l m).length := by
    conv => lhs; rw [← List.take_append_drop (upto l m).length l]
    rw [← upto_take]
  conv => lhs; rw [hsplit]
  rw [List.filter_append]
  have h1 : (upto l m).filter (fun e => sentP e && decide (e.fTime ≤ m)) = (upto l m).filter sentP := by
    apply List.filter_congr
    intro e he
    have hall : (l.takeWhile fun e => decide (e.fTime ≤ m)).all (fun e => decide (e.fTime ≤ m)) = true := List.all_takeWhile
    have := List.all_eq_true.1 hall e he
    simp only [this, Bool.and_true]
  have h2 : (l.drop (upto l m).length).filter (fun e => sentP e && decide (e.fTime ≤ m)) = [] := by
    rw [List.filter_eq_nil_iff]
    intro a ha
    obtain ⟨j, hj⟩ := List.getElem?_of_mem ha
    rw [List.getElem?_drop] at hj
    rcases tw_end (p := fun e : Ev => decide (e.fTime ≤ m)) l with h | ⟨x, hx, hp⟩
    · have := (List.getElem?_eq_some_iff.1 hj).1
      unfold upto at this; omega
    · have := sorted_of hf j _ x a hx hj
      simp at hp
      simp; intro _; omega
  rw [h1, h2, List.append_nil]
theorem inc_cnt {p : Sd → Bool} {b : List Sd} {n : Nat} {e : Sd} (he : b[n]? = some e) (hb : b.length ≤ 3000) : inc (p e) (((b.take n).filter p).length : Int) = (((b.take (n + 1)).filter p).length : Int) := by
  have := filter_take_le (p := p) b n
  rw [filter_snoc he]
  cases hp : p e with
  | false => simp [inc]
  | true => simp only [inc, cond_true, if_true]; rw [wrapN _ (by omega)]
def cntS (m : Int) (b : List Sd) (k : Int) : Nat := (b.filter fun s => decide (stateOf s m = k)).length
def cntV (b : List Sd) (k : Int) : Nat := (b.filter fun s => decide (s.fVerdict = k)).length
def cntO (b : List Sd) : Nat := (b.filter fun s => decide (s.fDue < s.fAnswer)).length
theorem stand_cnt (m : Int) (b : List Sd) (hb : b.length ≤ 3000) : ∀ n, n ≤ b.length → (b.take n).foldl (stStep m) stg0 = ⟨cntS m (b.take n) 1, cntS m (b.take n) 2, cntV (b.take n) 1, cntV (b.take n) 2, cntV (b.take n) 3, cntO (b.take n)⟩
  | 0, _ => rfl
  | n + 1, h => by
    obtain ⟨e, he⟩ := get_lt (l := b) (i := n) (by omega)
    rw [foldl_snoc he, stand_cnt m b hb n (by omega)]
    unfold stStep
    simp only [cntS, cntV, cntO]
    have hs : ∀ k : Int, inc (decide (stateOf e m = k)) _ = _ := fun k => inc_cnt (p := fun s => decide (stateOf s m = k)) he hb
    have hv : ∀ k : Int, inc (decide (e.fVerdict = k)) _ = _ := fun k => inc_cnt (p := fun s => decide (s.fVerdict = k)) he hb
    have ho := inc_cnt (p := fun s => decide (s.fDue < s.fAnswer)) he hb
    rw [hs 1, hs 2, hv 1, hv 2, hv 3, ho]
theorem cnt_verd (m : Int) : ∀ (b : List Sd), (∀ s ∈ b, okSd s) → cntV b 1 + cntV b 2 + cntV b 3 = cntS m b 3 ∧ cntO b ≤ cntS m b 3
  | [], _ => by simp [cntV, cntS, cntO]
  | s :: b, h => by
    obtain ⟨ih1, ih2⟩ := cnt_verd m b fun s hs => h s (by simp [hs])
    obtain ⟨h1, h2⟩ := h s (by simp)
    simp only [cntV, cntS, cntO, List.filter_cons] at *
    rcases h1 with ⟨ha, hv⟩ | ⟨ha, hv⟩
    · have hs3 : stateOf s m ≠ 3 := by unfold stateOf; rw [if_neg (by omega)]; split <;> decide
      have ho : ¬ s.fDue < s.fAnswer := by omega
      simp [hv, hs3, ho]; omega
    · have hs3 : stateOf s m = 3 := by unfold stateOf; rw [if_pos ha]
      have hv' : s.fVerdict = 1 ∨ s.fVerdict = 2 ∨ s.fVerdict = 3 := by simp [isVerdict, outside] at hv; omega
      refine ⟨?_, ?_⟩
      · rcases hv' with hv' | hv' | hv' <;> simp [hv', hs3] <;> omega
      · by_cases ho : s.fDue < s.fAnswer <;> simp [ho, hs3] <;> omega
theorem stateAt_eq {l : List Ev} (hl : Short l) {m : Int} (h : bookFault l = 0) (hm : isMoment m = true) {i : Nat} {s : Sd} (hi : (bookS (upto l m)).1[i]? = some s) : m_reply_StateAt l (i : Int) m = some (stateOf s m, 0) := by
  obtain ⟨h1, h2⟩ := bookFault_zero h
  have hev := faultAt_ev h2
  have hlt := (List.getElem?_eq_some_iff.1 hi).1
  have hlen : (bookS (upto l m)).1.length ≤ 3000 := Nat.le_trans (bookS_len _) (Nat.le_trans (upto_len _ _) h1)
  unfold m_reply_StateAt sims_G2_1_0; dsimp only
  simp only [checkBook_eq l hl, h, Option.bind_some, decide_true, Bool.not_true, cond_false, at_eq l h1 (fun e he => (evFault_time (hev e he)).1), outside_eq, isMoment_eq, hm, orO_some, getI_nat, hi, stateOf_eq]
  rw [wrap64 _ (by omega) (by omega)]
  have : outside (i : Int) 0 ((bookS (upto l m)).1.length - 1) = false := by simp [outside]; omega
  simp only [this, Bool.or_self, cond_false]
theorem stateOf_123 (s : Sd) (m : Int) : stateOf s m = 1 ∨ stateOf s m = 2 ∨ stateOf s m = 3 := by
  unfold stateOf
  split
  · simp
  · split <;> simp
theorem law_StatesAddUp (l : List Ev) (hl : Short l) (m : Int) : m_interchangelaw7_ReplyStatesAddUp l m = some true := by
  have hst := StandingAt_eq l hl m
  unfold m_interchangelaw7_ReplyStatesAddUp sims_G2_2_0; dsimp only
  simp only [hst, Option.bind_some, awake_eq]
  unfold standRes
  by_cases h : bookFault l = 0
  · cases hm : isMoment m with
    | false => simp [h, stg0, andO_some]
    | true =>
      obtain ⟨h1, h2⟩ := bookFault_zero h
      have hev := faultAt_ev h2
      have hlen : (bookS (upto l m)).1.length ≤ 3000 := Nat.le_trans (bookS_len _) (Nat.le_trans (upto_len _ _) h1)
      have hok : ∀ s ∈ (bookS (upto l m)).1, okSd s := bkAt_ok (l := upto l m) (fun e he => hev e ((List.takeWhile_prefix _).sublist.subset he)) _
      have inv := bkAt_inv (upto_fault h2 m) (upto l m).length (Nat.le_refl _)
      have hk := congrArg List.length inv.keys
      rw [show bkAt (upto l m) (upto l m).length = bookS (upto l m) from rfl, List.take_length, List.length_map, List.length_map, ← filter_upto h2 m] at hk
      have hcnt := stand_cnt m (bookS (upto l m)).1 hlen _ (Nat.le_refl _)
      rw [List.take_length] at hcnt
      obtain ⟨hv, ho⟩ := cnt_verd m _ hok
      have hb3 : cntS m (bookS (upto l m)).1 3 ≤ 3000 := Nat.le_trans (List.length_filter_le _ _) hlen
      simp only [h, ne_eq, not_true_eq_false, if_false, Bool.true_eq_false, decide_true, Bool.not_true, cond_false, standOf, hcnt]
      generalize hbb : (bookS (upto l m)).1 = b at *
      refine bind_loop (loop_trace (a := .inl ((b.length : Int), (l.length : Int))) (fun i : Nat => ((((l.take i).filter fun e => sentP e && decide (e.fTime ≤ m)).length : Int), (i : Int))) l.length (fun i hi => ?_) ?_) ?_
      · obtain ⟨e, he⟩ := get_lt hi
        have hb1 := filter_take_le (p := fun e => sentP e && decide (e.fTime ≤ m)) l i
        simp only [lt_dec hi, cond_true, getI_nat, he, Option.bind_some, andO_some, filter_snoc he]
        have : (decide (e.fKind = 1) && decide (e.fTime ≤ m)) = (sentP e && decide (e.fTime ≤ m)) := rfl
        rw [this, wrapN i (by omega)]
        cases (sentP e && decide (e.fTime ≤ m)) with
        | true => simp only [cond_true, if_true]; rw [wrapN _ (by omega)]
        | false => simp
      · simp only [lt_dec_self, cond_false, List.take_length, hk]; rfl
      · simp only [outK]
        refine bind_loop (loop_trace (a := .inl ([(0 : Int), cntS m b 1, cntS m b 2, cntS m b 3], (b.length : Int))) (fun i : Nat => ([(0 : Int), cntS m (b.take i) 1, cntS m (b.take i) 2, cntS m (b.take i) 3], (i : Int))) b.length (fun i hi => ?_) ?_) ?_
        · obtain ⟨s, hs⟩ := get_lt hi
          have hst := stateAt_eq hl h hm (i := i) (s := s) (by rw [hbb]; exact hs)
          have c1 : ∀ k, (cntS m (b.take (i + 1)) k) = cntS m (b.take i) k + (if stateOf s m = k then 1 else 0) := fun k => by
            unfold cntS; rw [filter_snoc hs]; simp
          have hb1 : ∀ k, cntS m (b.take i) k ≤ 3000 := fun k => Nat.le_trans (filter_take_le (p := fun s => decide (stateOf s m = k)) b i) hlen
          have b1 := hb1 1
          have b2 := hb1 2
          have b3 := hb1 3
          simp only [lt_dec hi, cond_true, hst, Option.bind_some, orO_some, decide_true, Bool.not_true, c1, wrapN i (by omega)]
          have w1 : IntKind.i64.wrap ((cntS m (b.take i) 1 : Int) + 1) = (cntS m (b.take i) 1 : Int) + 1 := wrap64 _ (by omega) (by omega)
          have w2 : IntKind.i64.wrap ((cntS m (b.take i) 2 : Int) + 1) = (cntS m (b.take i) 2 : Int) + 1 := wrap64 _ (by omega) (by omega)
          have w3 : IntKind.i64.wrap ((cntS m (b.take i) 3 : Int) + 1) = (cntS m (b.take i) 3 : Int) + 1 := wrap64 _ (by omega) (by omega)
          rcases stateOf_123 s m with hs' | hs' | hs' <;> simp [hs', inO, thenO, w1, w2, w3]
        · simp only [lt_dec_self, cond_false, List.take_length]; rfl
        · simp only [outK, inO, thenO, andO_some]
          have e1 : IntKind.i64.wrap (IntKind.i64.wrap ((cntV b 1 : Int) + (cntV b 2 : Int)) + (cntV b 3 : Int)) = (cntS m b 3 : Int) := by
            have i1 : IntKind.i64.wrap ((cntV b 1 : Int) + (cntV b 2 : Int)) = (cntV b 1 : Int) + (cntV b 2 : Int) := wrap64 _ (by omega) (by omega)
            rw [i1, wrap64 _ (by omega) (by omega)]; omega
          simp only [List.getElem?_cons_succ, List.getElem?_cons_zero, Option.bind_some, andO_some, e1, decide_true, Bool.true_and]
          have e4 : decide ((cntO b : Int) ≤ (cntS m b 3 : Int)) = true := by simp; omega
          simp [e1, andO_some]; exact ho
  · simp [h, andO_some, stg0]
end Go.Proofs.YtmbbbiocjehncaaDoor

/-
  Plain laws: ReplyBooksBelong.
-/
import Derived.Test.YtmbbbiocjehncaaDoorP5
namespace Go.Proofs.YtmbbbiocjehncaaDoor
set_option linter.unusedSimpArgs false
set_option linter.unusedVariables false
open Go.RowKit

theorem filter_get {α : Type} {p : α → Bool} {l : List α} {i : Nat} {e : α} (he : l[i]? = some e) (hp : p e = true) : (l.filter p)[((l.take i).filter p).length]? = some e := by
  obtain ⟨hi, rfl⟩ := List.getElem?_eq_some_iff.1 he
  have h : l = l.take i ++ l[i] :: l.drop (i + 1) := by rw [List.getElem_cons_drop, List.take_append_drop]
  have : l.filter p = (l.take i).filter p ++ l[i] :: (l.drop (i + 1)).filter p := by
    conv => lhs; rw [h]
    rw [List.filter_append, List.filter_cons, if_pos hp]
  rw [this, List.getElem?_append_right (Nat.le_refl _)]; simp
theorem filter_snoc {α : Type} {p : α → Bool} {l : List α} {i : Nat} {e : α} (he : l[i]? = some e) : ((l.take (i + 1)).filter p).length = ((l.take i).filter p).length + (if p e = true then 1 else 0) := by
  rw [take_snoc he, List.filter_append]
  by_cases hp : p e = true <;> simp [hp]
theorem filter_take_le {α : Type} {p : α → Bool} (l : List α) (i : Nat) : ((l.take i).filter p).length ≤ l.length := by
  refine Nat.le_trans (List.length_filter_le _ _) ?_
  rw [List.length_take]; omega

def sentP (e : Ev) : Bool := decide (e.fKind = 1)
def keyE (e : Ev) : List UInt8 × Int × Int := (e.fRef, e.fTime, e.fDue)
def keyS (s : Sd) : List UInt8 × Int × Int := (s.fRef, s.fTime, s.fDue)
def answered (s : Sd) : Bool := decide (0 ≤ s.fAnswer)
def goodS (s : Sd) : Prop := (s.fAnswer = -1 ∧ s.fVerdict = 0) ∨ (0 ≤ s.fAnswer ∧ s.fTime ≤ s.fAnswer ∧ s.fVerdict ≠ 0)
structure BInv (l : List Ev) (n : Nat) (st : List Sd × List Int) : Prop where
  keys : st.1.map keyS = ((l.take n).filter sentP).map keyE
  good : ∀ s ∈ st.1, goodS s
  time : ∀ s ∈ st.1, ∃ i e, i < n ∧ l[i]? = some e ∧ s.fTime = e.fTime
  lone : ∀ x ∈ st.2, ∃ (k : Nat) (e : Ev), x = k ∧ k < n ∧ l[k]? = some e ∧ e.fKind = 2
  many : (st.1.filter answered).length + st.2.length = ((l.take n).filter (fun e => !sentP e)).length
theorem countP_upd {α : Type} {p : α → Bool} : ∀ {l : List α} {i : Nat} {a b : α}, l[i]? = some a → p a = false → p b = true → ((l.set i b).filter p).length = (l.filter p).length + 1
  | [], i, a, b, h, _, _ => by simp at h
  | x :: l, 0, a, b, h, ha, hb => by
    simp at h; subst h
    simp [List.filter_cons, ha, hb]
  | x :: l, i + 1, a, b, h, ha, hb => by
    have ih := countP_upd (l := l) (i := i) (a := a) (b := b) (by simpa using h) ha hb
    rw [List.set_cons_succ, List.filter_cons, List.filter_cons]
    split <;> simp [ih]
theorem faultAt_kind {l : List Ev} (hf : ∀ j, j < l.length → faultAt l j = 0) {i : Nat} {e : Ev} (he : l[i]? = some e) : (e.fKind = 1 ∨ e.fKind = 2) ∧ 0 ≤ e.fTime ∧ (e.fKind ≠ 1 → e.fVerdict ≠ 0) := by
  have h := faultAt_ev hf e (List.mem_of_getElem? he)
  have ht := evFault_time h
  unfold evFault at h
  split at h
  · omega
  · rename_i hk
    have hk' : e.fKind = 1 ∨ e.fKind = 2 := by simp [outside] at hk; omega
    refine ⟨hk', ht.1, fun hne => ?_⟩
    split at h
    · omega
    · split at h
      · omega
      · first | rw [if_neg hne] at h | skip
        split at h
        · omega
        · split at h
          · omega
          · rename_i hv; simp [isVerdict, outside] at hv; omega
theorem sorted_of {l : List Ev} (hf : ∀ j, j < l.length → faultAt l j = 0) : ∀ (d i : Nat) (a b : Ev), l[i]? = some a → l[i + d]? = some b → a.fTime ≤ b.fTime
  | 0, i, a, b, ha, hb => by rw [Nat.add_zero, ha] at hb; cases hb; omega
  | d + 1, i, a, b, ha, hb => by
    have hlt := (List.getElem?_eq_some_iff.1 hb).1
    obtain ⟨c, hc⟩ := get_lt (l := l) (i := i + d) (by omega)
    have ih := sorted_of hf d i a c ha hc
    have h := hf (i + (d + 1)) hlt
    have e1 : i + (d + 1) - 1 = i + d := by omega
    simp only [faultAt, early, hb, e1, hc] at h
    split at h
    · omega
    · split at h
      · omega
      · rename_i hb; simp at hb; omega
theorem bkAt_inv {l : List Ev} (hf : ∀ j, j < l.length → faultAt l j = 0) : ∀ n, n ≤ l.length → BInv l n (bkAt l n)
  | 0, _ => ⟨rfl, by simp [bkAt], by simp [bkAt], by simp [bkAt], by simp [bkAt]⟩
  | n + 1, h => by
    have ih := bkAt_inv hf n (by omega)
    obtain ⟨e, he⟩ := get_lt (l := l) (i := n) (by omega)
    obtain ⟨hk, h0, hv⟩ := faultAt_kind hf he
    simp only [bkAt, he]
    generalize bkAt l n = st at ih
    obtain ⟨out, left⟩ := st
    unfold bstep
    by_cases h1 : e.fKind = 1
    · have hp : sentP e = true := by simp [sentP, h1]
      simp only [h1, if_true]
      refine ⟨?_, ?_, ?_, ?_, ?_⟩
      · rw [take_snoc he, List.filter_append]
        simp only [List.map_append, ih.keys, List.filter_cons, hp, if_true, List.filter_nil, List.map_cons, List.map_nil]; rfl
      · intro s hs
        rcases List.mem_append.1 hs with hs | hs
        · exact ih.good s hs
        · simp at hs; subst hs; exact .inl ⟨rfl, rfl⟩
      · intro s hs
        rcases List.mem_append.1 hs with hs | hs
        · obtain ⟨i, e', h1, h2, h3⟩ := ih.time s hs; exact ⟨i, e', by omega, h2, h3⟩
        · simp at hs; subst hs; exact ⟨n, e, by omega, he, rfl⟩
      · intro x hx
        obtain ⟨k, e', h1, h2, h3⟩ := ih.lone x hx; exact ⟨k, e', h1, by omega, h3⟩
      · have hm := ih.many
        rw [filter_snoc he]
        simp only [hp, Bool.not_true, Bool.false_eq_true, if_false, Nat.add_zero]
        rw [List.filter_append, List.length_append, ← hm]
        simp [newS, answered]
    · have hp : sentP e = false := by simp [sentP, h1]
      have h2 : e.fKind = 2 := by omega
      simp only [h1, if_false]
      have hkeys : out.map keyS = ((l.take (n + 1)).filter sentP).map keyE := by
        rw [take_snoc he, List.filter_append]
        simp only [List.filter_cons, hp, Bool.false_eq_true, if_false, List.filter_nil, List.append_nil]; exact ih.keys
      have hlone : ∀ x ∈ left, ∃ (k : Nat) (e : Ev), x = k ∧ k < n + 1 ∧ l[k]? = some e ∧ e.fKind = 2 := fun x hx => by
        obtain ⟨k, e', h1, h2, h3⟩ := ih.lone x hx; exact ⟨k, e', h1, by omega, h3⟩
      have hm := ih.many
      have hsn := filter_snoc (p := fun e => !sentP e) he
      simp only [hp, Bool.not_false, if_true] at hsn
      split
      · rename_i hlast
        refine ⟨hkeys, ih.good, fun s hs => ?_, ?_, ?_⟩
        · obtain ⟨i, e', h1, h2, h3⟩ := ih.time s hs; exact ⟨i, e', by omega, h2, h3⟩
        · intro x hx
          rcases List.mem_append.1 hx with hx | hx
          · exact hlone x hx
          · simp at hx; exact ⟨n, e, hx, by omega, he, h2⟩
        · rw [hsn]; simp only [List.length_append, List.length_singleton]; simp only at hm; omega
      · rename_i k hlast
        obtain ⟨hq, hqw⟩ := openIdx_lt (List.mem_of_getLast? hlast)
        obtain ⟨s, hs⟩ := get_lt hq
        have hw : s.fRef = e.fRef ∧ s.fAnswer < 0 := by simpa [waitsP, hs] using hqw
        have hmem := List.mem_of_getElem? hs
        obtain ⟨i, e', hi1, hi2, hi3⟩ := ih.time s hmem
        have hord := sorted_of hf (n - i) i e' e hi2 (by rw [show i + (n - i) = n by omega]; exact he)
        simp only [hs]
        refine ⟨?_, ?_, ?_, hlone, ?_⟩
        · rw [← hkeys, List.map_set]
          have : keyS (ansS e s) = keyS s := rfl
          rw [this]
          apply List.ext_getElem?
          intro j
          by_cases hj : j = k
          · subst hj; rw [List.getElem?_set_self (by simpa using hq)]; simp [hs]
          · rw [List.getElem?_set_ne (Ne.symm hj)]
        · intro s' hs'
          rcases List.mem_or_eq_of_mem_set hs' with hs' | rfl
          · exact ih.good s' hs'
          · exact .inr ⟨h0, by show s.fTime ≤ e.fTime; omega, hv h1⟩
        · intro s' hs'
          rcases List.mem_or_eq_of_mem_set hs' with hs' | rfl
          · obtain ⟨i, e', h1, h2, h3⟩ := ih.time s' hs'; exact ⟨i, e', by omega, h2, h3⟩
          · exact ⟨i, e', by omega, hi2, hi3⟩
        · rw [hsn, countP_upd (p := answered) (b := ansS e s) hs (by simp [answered]; omega) (by show decide (0 ≤ e.fTime) = true; simpa using h0)]
          simp only at hm ⊢; omega
theorem law_BooksBelong (l : List Ev) (hl : Short l) : m_interchangelaw7_ReplyBooksBelong l = some true := by
  have hb := Book_eq l hl
  unfold m_interchangelaw7_ReplyBooksBelong sims_G1_6_0; dsimp only
  simp only [hb, Option.bind_some, awake_eq]
  unfold bookRes
  by_cases h : bookFault l = 0
  · obtain ⟨h1, h2⟩ := bookFault_zero h
    have inv := bkAt_inv h2 l.length (Nat.le_refl _)
    have hbl := bkAt_len l l.length
    rw [show bkAt l l.length = bookS l from rfl] at inv hbl
    rcases hbk : bookS l with ⟨out, left⟩
    rw [hbk] at inv hbl
    simp only at hbl
    obtain ⟨hkeys, hgood, htime, hlone, hmany⟩ := inv
    rw [List.take_length] at hkeys hmany
    simp only at hkeys hgood hlone hmany
    have hk1 : out.length = (l.filter sentP).length := by simpa using congrArg List.length hkeys
    simp only [h, hbk, if_true, decide_true, Bool.not_true, cond_false]
    refine bind_loop (loop_trace (a := .inl (((l.filter sentP).length : Int), ((l.filter fun e => !sentP e).length : Int), (l.length : Int)))
      (fun i : Nat => ((((l.take i).filter sentP).length : Int), (((l.take i).filter fun e => !sentP e).length : Int), (i : Int))) l.length (fun i hi => ?_) ?_) ?_
    · obtain ⟨e, he⟩ := get_lt hi
      obtain ⟨hk, -, -⟩ := faultAt_kind h2 he
      have hb1 := filter_take_le (p := sentP) l i
      have hb2 := filter_take_le (p := fun e => !sentP e) l i
      simp only [lt_dec hi, cond_true, getI_nat, he, Option.bind_some, filter_snoc he]
      by_cases hk1' : e.fKind = 1
      · have hp : sentP e = true := by simp [sentP, hk1']
        have hg := filter_get he hp
        have hgk : (out.map keyS)[((l.take i).filter sentP).length]? = some (keyE e) := by rw [hkeys, List.getElem?_map, hg]; rfl
        rw [List.getElem?_map] at hgk
        obtain ⟨s, hs, hse⟩ := Option.map_eq_some_iff.1 hgk
        simp only [keyS, keyE, Prod.mk.injEq] at hse
        obtain ⟨e1, e2, e3⟩ := hse
        have hlt := (List.getElem?_eq_some_iff.1 hs).1
        have hd : decide ((out.length : Int) ≤ (((l.take i).filter sentP).length : Int)) = false := by simp; omega
        simp only [hk1', decide_true, cond_true, hd, hs, Option.bind_some, e1, e2, e3, orO_some, Bool.not_true, Bool.or_self, cond_false, hp, if_true, Bool.false_eq_true, if_false, Nat.add_zero]
        rw [wrapN _ (by omega), wrapN _ (by omega)]
      · have hp : sentP e = false := by simp [sentP, hk1']
        simp only [hk1', decide_false, cond_false, hp, Bool.not_false, if_true, Bool.false_eq_true, if_false, Nat.add_zero]
        rw [wrapN _ (by omega), wrapN _ (by omega)]
    · simp only [lt_dec_self, cond_false, List.take_length]; rfl
    · simp only [outK]
      refine bind_loop (loop_trace (a := .inl (((out.filter answered).length : Int), (out.length : Int))) (fun i : Nat => ((((out.take i).filter answered).length : Int), (i : Int))) out.length (fun i hi => ?_) ?_) ?_
      · obtain ⟨s, hs⟩ := get_lt hi
        have hb1 := filter_take_le (p := answered) out i
        have hg := hgood s (List.mem_of_getElem? hs)
        simp only [lt_dec hi, cond_true, getI_nat, hs, Option.bind_some, filter_snoc hs, orO_some]
        rcases hg with ⟨g1, g2⟩ | ⟨g1, g2, g3⟩
        · have hp : answered s = false := by simp [answered, g1]
          have hd : decide (0 ≤ s.fAnswer) = false := by simp [g1]
          simp only [g1, g2, show decide ((0 : Int) ≤ -1) = false by decide, cond_false, decide_true, Bool.not_true, Bool.or_self, hp, Bool.false_eq_true, if_false, Nat.add_zero]
          rw [wrapN _ (by omega)]
        · have hp : answered s = true := by simp [answered, g1]
          have hd : decide (0 ≤ s.fAnswer) = true := by simp [g1]
          have hd2 : decide (s.fAnswer < s.fTime) = false := by simp; omega
          have hd3 : decide (s.fVerdict = 0) = false := by simp [g3]
          simp only [hd, cond_true, hd2, hd3, Bool.or_self, cond_false, hp, if_true]
          rw [wrapN _ (by omega), wrapN _ (by omega)]
      · simp only [lt_dec_self, cond_false, List.take_length]; rfl
      · simp only [outK]
        refine bind_loop (loop_trace (a := .inl (left.length : Int)) (fun i : Nat => (i : Int)) left.length (fun i hi => ?_) ?_) ?_
        · obtain ⟨x, hx⟩ := get_lt hi
          obtain ⟨k, e, rfl, hk, he, hke⟩ := hlone x (List.mem_of_getElem? hx)
          have hd1 : decide ((k : Int) < 0) = false := by simp
          have hd2 : decide ((l.length : Int) ≤ (k : Int)) = false := by simp; omega
          simp only [lt_dec hi, cond_true, getI_nat, hx, Option.bind_some, he, hke, hd1, hd2, orO_some, decide_true, Bool.not_true, Bool.or_self, cond_false]
          rw [wrapN _ (by omega)]
        · simp only [lt_dec_self, cond_false]; rfl
        · have hl2 : ((l.filter fun e => !sentP e).length) ≤ l.length := List.length_filter_le _ _
          simp only [outK, andO_some, Option.bind_some]
          rw [wrap64 _ (by omega) (by omega)]
          have q1 : ((l.filter sentP).length : Int) = (out.length : Int) := by omega
          have q2 : ((out.filter answered).length : Int) + (left.length : Int) = ((l.filter fun e => !sentP e).length : Int) := by omega
          simp [q1, q2]
  · simp [h, andO_some]
end Go.Proofs.YtmbbbiocjehncaaDoor

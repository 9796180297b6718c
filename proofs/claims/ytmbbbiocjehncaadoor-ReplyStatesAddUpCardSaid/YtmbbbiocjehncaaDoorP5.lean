/-
  Plain laws: states and standings; ReplyBooksMatchSpec.
-/
import Derived.Test.YtmbbbiocjehncaaDoorP4
namespace Go.Proofs.YtmbbbiocjehncaaDoor
set_option linter.unusedSimpArgs false
set_option linter.unusedVariables false
open Go.RowKit

def stateOf (s : Sd) (m : Int) : Int := if 0 ≤ s.fAnswer then 3 else if s.fDue < m then 2 else 1
theorem stateOf_eq (s : Sd) (m : Int) : m_reply_stateOf s m = some (stateOf s m) := by
  unfold m_reply_stateOf sims_G1_0_0; dsimp only
  unfold stateOf
  by_cases h1 : 0 ≤ s.fAnswer <;> by_cases h2 : s.fDue < m <;> simp [h1, h2]

theorem tw_get {α : Type} {p : α → Bool} : ∀ (l : List α) (i : Nat), i < (l.takeWhile p).length → ∃ e, l[i]? = some e ∧ p e = true
  | [], i, h => by simp at h
  | a :: l, i, h => by
    rw [List.takeWhile_cons] at h
    by_cases hp : p a = true
    · simp only [hp, if_true] at h
      cases i with
      | zero => exact ⟨a, rfl, hp⟩
      | succ i => simpa using tw_get l i (by simpa using h)
    · simp [hp] at h
theorem tw_end {α : Type} {p : α → Bool} : ∀ (l : List α), (l.takeWhile p).length = l.length ∨ ∃ e, l[(l.takeWhile p).length]? = some e ∧ p e = false
  | [] => .inl rfl
  | a :: l => by
    rw [List.takeWhile_cons]
    by_cases hp : p a = true
    · simp only [hp, if_true]
      rcases tw_end (p := p) l with h | ⟨e, h1, h2⟩
      · exact .inl (by simp [h])
      · exact .inr ⟨e, by simpa using h1, h2⟩
    · exact .inr ⟨a, by simp [hp], by simpa using hp⟩
theorem tw_take {α : Type} {p : α → Bool} : ∀ (l : List α), l.take (l.takeWhile p).length = l.takeWhile p
  | [] => rfl
  | a :: l => by
    rw [List.takeWhile_cons]
    by_cases hp : p a = true
    · simp only [hp, if_true, List.length_cons, List.take_succ_cons, tw_take l]
    · simp [hp]
theorem tw_len {α : Type} {p : α → Bool} (l : List α) : (l.takeWhile p).length ≤ l.length := by
  have := congrArg List.length (tw_take (p := p) l)
  rw [List.length_take] at this; omega
theorem sliceI_take {α : Type} (l : List α) (n : Nat) (h : n ≤ l.length) : sliceI l 0 (n : Int) = some (l.take n) := by
  unfold sliceI
  rw [if_pos (by omega)]; simp
/-- The events up to a moment. -/
def upto (l : List Ev) (m : Int) : List Ev := l.takeWhile fun e => decide (e.fTime ≤ m)
theorem at_eq (l : List Ev) (h0 : l.length ≤ 3000) (ht : ∀ e ∈ l, 0 ≤ e.fTime) (m : Int) : m_reply_at l m = some (bookS (upto l m)).1 := by
  have hlen := tw_len (p := fun e : Ev => decide (e.fTime ≤ m)) l
  unfold m_reply_at sims_G1_1_0; dsimp only
  refine bind_loop (loop_trace (a := .inl ((upto l m).length : Int)) (fun i : Nat => (i : Int)) (upto l m).length (fun i hi => ?_) ?_) ?_
  · obtain ⟨e, he, hp⟩ := tw_get l i hi
    have hil : i < l.length := (List.getElem?_eq_some_iff.1 he).1
    simp only [lt_dec hil, getI_nat, he, Option.bind_some, hp, andO_some, Bool.and_self, cond_true, wrapN i (by omega)]
  · rcases tw_end (p := fun e : Ev => decide (e.fTime ≤ m)) l with h | ⟨e, h1, h2⟩
    · have : decide (((upto l m).length : Int) < (l.length : Int)) = false := by unfold upto; rw [h]; simp
      simp only [this, andO, cond_false, Option.bind_some]; rfl
    · have hil := (List.getElem?_eq_some_iff.1 h1).1
      have hd := lt_dec hil
      unfold upto
      simp only [hd, getI_nat, h1, Option.bind_some, h2, andO_some, Bool.and_false, cond_false]; rfl
  · have hb := book_eq (upto l m) (by unfold upto; omega) (fun e he => ht e (by unfold upto at he; exact (List.takeWhile_prefix _).sublist.subset he))
    have hs : sliceI l 0 ((upto l m).length : Int) = some (upto l m) := by
      unfold upto; rw [sliceI_take _ _ hlen, tw_take]
    simp only [outK, Option.getD_none, Option.getD_some, hs, Option.bind_some, hb]

abbrev Stg := Tapi_Standing
def stg0 : Stg := ⟨0, 0, 0, 0, 0, 0⟩
def inc (b : Bool) (n : Int) : Int := bif b then IntKind.i64.wrap (n + 1) else n
def stStep (m : Int) (x : Stg) (s : Sd) : Stg :=
  ⟨inc (decide (stateOf s m = 1)) x.fWaits, inc (decide (stateOf s m = 2)) x.fLate, inc (decide (s.fVerdict = 1)) x.fTaken, inc (decide (s.fVerdict = 2)) x.fFlawed, inc (decide (s.fVerdict = 3)) x.fRefused, inc (decide (s.fDue < s.fAnswer)) x.fOverdue⟩
def standOf (l : List Ev) (m : Int) : Stg := (bookS (upto l m)).1.foldl (stStep m) stg0
def standRes (l : List Ev) (m : Int) : Stg × Int := if bookFault l ≠ 0 then (stg0, bookFault l) else if isMoment m = false then (stg0, 1) else (standOf l m, 0)
theorem bookS_len (l : List Ev) : (bookS l).1.length ≤ l.length := (bkAt_len l l.length).1
theorem StandingAt_eq (l : List Ev) (hl : Short l) (m : Int) : m_reply_StandingAt l m = some (standRes l m) := by
  unfold m_reply_StandingAt sims_G1_4_0; dsimp only
  simp only [checkBook_eq l hl, Option.bind_some, isMoment_eq]
  unfold standRes
  by_cases h : bookFault l = 0
  · obtain ⟨h1, h2⟩ := bookFault_zero h
    have hev := faultAt_ev h2
    cases hm : isMoment m with
    | false => simp [h, stg0]
    | true =>
      simp only [h, decide_true, Bool.not_true, cond_false, at_eq l h1 (fun e he => (evFault_time (hev e he)).1), Option.bind_some, ne_eq, not_true_eq_false, if_false, Bool.true_eq_false]
      have hlen : (bookS (upto l m)).1.length ≤ 3000 := Nat.le_trans (bookS_len _) (Nat.le_trans (tw_len _) h1)
      unfold standOf
      generalize hb : (bookS (upto l m)).1 = b at *
      refine bind_loop (loop_trace (a := .inl (b.foldl (stStep m) stg0, (b.length : Int))) (fun i : Nat => ((b.take i).foldl (stStep m) stg0, (i : Int))) b.length (fun i hi => ?_) ?_) rfl
      · obtain ⟨e, he⟩ := get_lt hi
        simp only [lt_dec hi, cond_true, getI_nat, he, Option.bind_some, stateOf_eq, foldl_snoc he, wrapN i (by omega)]
        generalize List.foldl (stStep m) stg0 (List.take i b) = x
        unfold stStep
        by_cases k1 : stateOf e m = 1
        · by_cases v1 : e.fVerdict = 1
          · by_cases d : e.fDue < e.fAnswer <;> simp [k1, v1, d, inc]
          · by_cases v2 : e.fVerdict = 2
            · by_cases d : e.fDue < e.fAnswer <;> simp [k1, v2, d, inc]
            · by_cases v3 : e.fVerdict = 3 <;> by_cases d : e.fDue < e.fAnswer <;> simp [k1, v1, v2, v3, d, inc]
        · by_cases k2 : stateOf e m = 2
          · by_cases v1 : e.fVerdict = 1
            · by_cases d : e.fDue < e.fAnswer <;> simp [k2, v1, d, inc]
            · by_cases v2 : e.fVerdict = 2
              · by_cases d : e.fDue < e.fAnswer <;> simp [k2, v2, d, inc]
              · by_cases v3 : e.fVerdict = 3 <;> by_cases d : e.fDue < e.fAnswer <;> simp [k2, v1, v2, v3, d, inc]
          · by_cases v1 : e.fVerdict = 1
            · by_cases d : e.fDue < e.fAnswer <;> simp [k1, k2, v1, d, inc]
            · by_cases v2 : e.fVerdict = 2
              · by_cases d : e.fDue < e.fAnswer <;> simp [k1, k2, v2, d, inc]
              · by_cases v3 : e.fVerdict = 3 <;> by_cases d : e.fDue < e.fAnswer <;> simp [k1, k2, v1, v2, v3, d, inc]
      · simp only [lt_dec_self, cond_false, List.take_length]; rfl
  · simp [h, stg0]
theorem awake_eq : m_interchangelaw7_awake = some true := by
  unfold m_interchangelaw7_awake sims_G1_5_0; dsimp only
  have h := StandingAt_eq [⟨1, 0, 0, [65], 0⟩] ⟨by simp, by simp⟩ 0
  have h2 : (standRes [⟨1, 0, 0, [65], 0⟩] 0).1.fWaits = 1 ∧ (standRes [⟨1, 0, 0, [65], 0⟩] 0).2 = 0 := by decide +kernel
  simp only [h, Option.bind_some, h2.1, h2.2, decide_true, andO_some, Bool.and_self]
theorem law_BooksMatch (l : List Ev) (hl : Short l) : m_interchangelaw7_ReplyBooksMatchSpec l = some true := by
  obtain ⟨h1, h2⟩ := bookRes_len l
  unfold m_interchangelaw7_ReplyBooksMatchSpec sims_G1_6_0; dsimp only
  simp only [Book_eq l hl, BookR_eq l hl, checkBook_eq l hl, checkBookR_eq l hl, Option.bind_some, equalS_refl _ (by omega : (bookRes l).1.length ≤ 9223372036854775807), equalI_refl _ (by omega : (bookRes l).2.1.length ≤ 9223372036854775807), awake_eq, decide_true, andO_some, Bool.and_self]
end Go.Proofs.YtmbbbiocjehncaaDoor

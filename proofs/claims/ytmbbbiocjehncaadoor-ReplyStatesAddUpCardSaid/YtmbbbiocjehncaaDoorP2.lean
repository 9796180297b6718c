/-
  Plain laws: the checks of a book.
-/
import Derived.Test.YtmbbbiocjehncaaDoorP1
namespace Go.Proofs.YtmbbbiocjehncaaDoor
set_option linter.unusedSimpArgs false
set_option linter.unusedVariables false
open Go.RowKit

abbrev Ev := Tapi_BookEvent
abbrev Sd := Tapi_Sending
def Short (l : List Ev) : Prop := l.length ≤ 9223372036854775807 ∧ ∀ e ∈ l, e.fRef.length ≤ 9223372036854775807

def evFault (e : Ev) : Int :=
  if outside e.fKind 1 2 then 4 else if !isMoment e.fTime then 1 else if !isRef e.fRef then 3 else
  if e.fKind = 1 then (if e.fVerdict ≠ 0 then 3 else if outside e.fDue e.fTime (e.fTime + 10000000) then 1 else 0)
  else (if e.fDue ≠ 0 then 3 else if !isVerdict e.fVerdict then 4 else 0)
/-- Is event i earlier than the one before it? -/
def early (l : List Ev) (i : Nat) : Bool := match l[i]?, l[i - 1]? with
  | some e, some p => decide (0 < i) && decide (e.fTime < p.fTime)
  | _, _ => false
def faultAt (l : List Ev) (i : Nat) : Int := match l[i]? with
  | some e => if evFault e ≠ 0 then evFault e else if early l i then 8 else 0
  | none => 0
def firstF (f : Nat → Int) : Nat → Nat → Int
  | _, 0 => 0
  | i, n + 1 => if f i ≠ 0 then f i else firstF f (i + 1) n
theorem firstF_skip {f : Nat → Int} : ∀ (i n k : Nat), k ≤ n → (∀ j, i ≤ j → j < i + k → f j = 0) → firstF f i n = firstF f (i + k) (n - k)
  | i, n, 0, _, _ => by simp
  | i, 0, k + 1, h, _ => by omega
  | i, n + 1, k + 1, h, hz => by
    have h1 := hz i (by omega) (by omega)
    simp only [firstF, h1, ne_eq, not_true_eq_false, if_false]
    rw [firstF_skip (i + 1) n k (by omega) (fun j hj hj' => hz j (by omega) (by omega))]
    congr 1 <;> omega
def bookFault (l : List Ev) : Int := if 3000 < l.length then 2 else firstF (faultAt l) 0 l.length
theorem bookFault_at {l : List Ev} {i : Nat} (hl : ¬ 3000 < l.length) (hi : i < l.length) (hb : ∀ j, j < i → faultAt l j = 0) (hf : faultAt l i ≠ 0) : bookFault l = faultAt l i := by
  simp only [bookFault, hl, if_false]
  rw [firstF_skip 0 l.length i (by omega) (fun j _ hj => hb j (by omega))]
  obtain ⟨n, hn⟩ : ∃ n, l.length - i = n + 1 := ⟨l.length - i - 1, by omega⟩
  rw [hn, Nat.zero_add]
  simp only [firstF, hf, ne_eq, not_false_eq_true, if_true]
theorem bookFault_none {l : List Ev} (hl : ¬ 3000 < l.length) (hb : ∀ j, j < l.length → faultAt l j = 0) : bookFault l = 0 := by
  simp only [bookFault, hl, if_false]
  rw [firstF_skip 0 l.length l.length (by omega) (fun j _ hj => hb j (by omega))]
  simp [firstF]
theorem bookFault_zero {l : List Ev} (h : bookFault l = 0) : l.length ≤ 3000 ∧ ∀ j, j < l.length → faultAt l j = 0 := by
  unfold bookFault at h
  split at h
  · omega
  · rename_i hl
    refine ⟨by omega, ?_⟩
    have : ∀ n i, firstF (faultAt l) i n = 0 → ∀ j, i ≤ j → j < i + n → faultAt l j = 0 := by
      intro n
      induction n with
      | zero => intro i _ j h1 h2; omega
      | succ n ih =>
        intro i hf j h1 h2
        simp only [firstF] at hf
        split at hf
        · rename_i hne; exact absurd hf hne
        · rename_i hz
          by_cases hji : j = i
          · subst hji; simpa using hz
          · exact ih (i + 1) hf j (by omega) (by omega)
    intro j hj
    exact this _ 0 h j (by omega) (by omega)

theorem time_wrap {e : Ev} (h : isMoment e.fTime = true) : IntKind.i64.wrap (e.fTime + 10000000) = e.fTime + 10000000 := by
  simp [isMoment, outside] at h
  exact wrap64 _ (by omega) (by omega)
theorem eventFault_eq (l : List Ev) (hl : Short l) (i : Nat) (hi : i < l.length) : m_reply_eventFault l (i : Int) = some (faultAt l i) := by
  obtain ⟨e, he⟩ : ∃ e, l[i]? = some e := ⟨_, List.getElem?_eq_getElem hi⟩
  have hs := hl.2 e (List.mem_of_getElem? he)
  obtain ⟨p, hp⟩ : ∃ p, l[i - 1]? = some p := ⟨_, List.getElem?_eq_getElem (by omega)⟩
  have hf : faultAt l i = if evFault e ≠ 0 then evFault e else if decide (0 < i) && decide (e.fTime < p.fTime) then 8 else 0 := by simp only [faultAt, early, he, hp]
  have hl1 := hl.1
  rw [hf]
  unfold m_reply_eventFault sims_G1_2_0; dsimp only
  have hg : (andO (decide (0 < (i : Int))) ((getI l (IntKind.i64.wrap ((i : Int) - 1))).bind fun e_1 => some (decide (e.fTime < e_1.fTime)))) = some (decide (0 < i) && decide (e.fTime < p.fTime)) := by
    by_cases h0 : 0 < i
    · have : IntKind.i64.wrap ((i : Int) - 1) = ((i - 1 : Nat) : Int) := by rw [wrap64 _ (by omega) (by omega)]; omega
      rw [this, getI_nat, hp, Option.bind_some, andO_some]; simp
    · simp [andO, h0]
  simp only [getI_nat, he, Option.bind_some, outside_eq, isMoment_eq, isRef_eq _ (by omega : e.fRef.length ≤ 9223372036854775807), isVerdict_eq, andO_some, hg]
  clear hg hf
  generalize (decide (0 < i) && decide (e.fTime < p.fTime)) = b
  unfold evFault
  cases hk : outside e.fKind 1 2 with
  | true => simp
  | false =>
  cases hm : isMoment e.fTime with
  | false => simp
  | true =>
  rw [time_wrap hm]
  cases hr : isRef e.fRef with
  | false => simp
  | true =>
  have hkk : e.fKind = 1 ∨ e.fKind = 2 := by simp [outside] at hk; omega
  rcases hkk with hkk | hkk
  · cases ho : outside e.fDue e.fTime (e.fTime + 10000000) <;> by_cases hv : e.fVerdict = 0 <;> cases b <;> simp [hkk, hv]
  · cases ho : isVerdict e.fVerdict <;> by_cases hv : e.fDue = 0 <;> cases b <;> simp [hkk, hv]
theorem checkEvent_eq (e : Ev) (hs : e.fRef.length ≤ 9223372036854775807) : m_interchangeref7_checkEvent e = some (evFault e) := by
  unfold m_interchangeref7_checkEvent sims_G1_2_0; dsimp only
  simp only [within_eq, isReference_eq _ hs, isVerdictR_eq, andO_some, Option.bind_some]
  unfold evFault
  have hkk : outside e.fKind 1 2 = (!decide (e.fKind = 1) && !decide (e.fKind = 2)) := by rw [Bool.eq_iff_iff]; simp [outside]; omega
  rw [hkk]
  by_cases k1 : e.fKind = 1
  · cases hm : isMoment e.fTime with
    | false => simp only [isMoment] at hm; simp [k1, hm]
    | true =>
      have hm' := hm
      simp only [isMoment] at hm'
      rw [time_wrap hm]
      cases hr : isRef e.fRef <;> by_cases hv : e.fVerdict = 0 <;> cases ho : outside e.fDue e.fTime (e.fTime + 10000000) <;> simp [k1, hm', hv]
  · by_cases k2 : e.fKind = 2
    · cases hm : isMoment e.fTime with
      | false => simp only [isMoment] at hm; simp [k2, hm]
      | true =>
        simp only [isMoment] at hm
        cases hr : isRef e.fRef <;> by_cases hv : e.fDue = 0 <;> cases ho : isVerdict e.fVerdict <;> simp [k2, hm, hv]
    · simp [k1, k2]

/-- A loop that counts up and stops at the first fault. -/
theorem loop_fault {n : Nat} {g : Nat → Int} {f : Int → Option (Int ⊕ (Int ⊕ Int))} (hn : n ≤ 9223372036854775807)
    (hf : ∀ i, i < n → f (i : Int) = if g i = 0 then some (.inl ((i + 1 : Nat) : Int)) else some (.inr (.inr (g i)))) (hend : f (n : Int) = some (.inr (.inl (n : Int)))) :
    (loopC f 0).bind (outK fun _ => some 0) = some (firstF g 0 n) := by
  obtain ⟨a, ha, hp⟩ := loopC_inv (f := f) (fun i => ∃ k : Nat, i = k ∧ k ≤ n ∧ ∀ j, j < k → g j = 0) (fun i => (n - i).toNat)
    (fun o => match o with | .inl _ => ∀ j, j < n → g j = 0 | .inr b => ∃ k, k < n ∧ (∀ j, j < k → g j = 0) ∧ g k ≠ 0 ∧ b = g k) (s := 0) (by
      rintro _ ⟨k, rfl, hk, hall⟩
      by_cases hlt : k < n
      · by_cases hz : g k = 0
        · refine .inl ⟨_, by rw [hf k hlt, if_pos hz], ⟨k + 1, rfl, hlt, fun j hj => ?_⟩, by omega⟩
          by_cases hjk : j = k
          · subst hjk; exact hz
          · exact hall j (by omega)
        · exact .inr ⟨.inr (g k), by rw [hf k hlt, if_neg hz], k, hlt, hall, hz, rfl⟩
      · have : k = n := by omega
        subst this
        exact .inr ⟨.inl _, hend, hall⟩) ⟨0, rfl, by omega, by omega⟩
  rw [ha]
  cases a with
  | inl i =>
    simp only [Option.bind_some, outK]
    rw [firstF_skip 0 n n (by omega) (fun j _ hj => hp j (by omega))]; simp [firstF]
  | inr b =>
    obtain ⟨k, h1, h2, h3, rfl⟩ := hp
    simp only [Option.bind_some, outK]
    rw [firstF_skip 0 n k (by omega) (fun j _ hj => h2 j (by omega))]
    obtain ⟨m, hm⟩ : ∃ m, n - k = m + 1 := ⟨n - k - 1, by omega⟩
    rw [hm, Nat.zero_add]
    simp only [firstF, h3, ne_eq, not_false_eq_true, if_true]
theorem checkBook_eq (l : List Ev) (hl : Short l) : m_reply_CheckBook l = some (bookFault l) := by
  have hl1 := hl.1
  unfold m_reply_CheckBook sims_G1_3_0; dsimp only
  by_cases hbig : 3000 < l.length
  · have : decide (3000 < (l.length : Int)) = true := by simp; omega
    simp [this, bookFault, hbig]
  · have : decide (3000 < (l.length : Int)) = false := by simp; omega
    simp only [this, cond_false, bookFault, hbig, if_false]
    refine loop_fault hl1 (fun i hi => ?_) ?_
    · have hd : decide ((i : Int) < l.length) = true := by simpa using hi
      simp only [hd, cond_true, eventFault_eq l hl i hi, Option.bind_some, wrapN i (by omega)]
      by_cases hz : faultAt l i = 0 <;> simp [hz, inrO]
    · simp [inrO]
theorem checkBookR_eq (l : List Ev) (hl : Short l) : m_interchangeref7_CheckBook l = some (bookFault l) := by
  have hl1 := hl.1
  unfold m_interchangeref7_CheckBook sims_G1_3_0; dsimp only
  by_cases hbig : 3000 < l.length
  · have : decide (3000 < (l.length : Int)) = true := by simp; omega
    simp [this, bookFault, hbig]
  · have : decide (3000 < (l.length : Int)) = false := by simp; omega
    simp only [this, cond_false, bookFault, hbig, if_false]
    refine loop_fault hl1 (fun i hi => ?_) ?_
    · have hd : decide ((i : Int) < l.length) = true := by simpa using hi
      obtain ⟨e, he⟩ : ∃ e, l[i]? = some e := ⟨_, List.getElem?_eq_getElem hi⟩
      have hs := hl.2 e (List.mem_of_getElem? he)
      obtain ⟨p, hp⟩ : ∃ p, l[i - 1]? = some p := ⟨_, List.getElem?_eq_getElem (by omega)⟩
      have hf : faultAt l i = if evFault e ≠ 0 then evFault e else if decide (0 < i) && decide (e.fTime < p.fTime) then 8 else 0 := by simp only [faultAt, early, he, hp]
      have hg : (andO (decide (0 < (i : Int))) ((getI l (IntKind.i64.wrap ((i : Int) - 1))).bind fun e_1 => some (decide (e.fTime < e_1.fTime)))) = some (decide (0 < i) && decide (e.fTime < p.fTime)) := by
        by_cases h0 : 0 < i
        · have : IntKind.i64.wrap ((i : Int) - 1) = ((i - 1 : Nat) : Int) := by rw [wrap64 _ (by omega) (by omega)]; omega
          rw [this, getI_nat, hp, Option.bind_some, andO_some]; simp
        · simp [andO, h0]
      simp only [hd, cond_true, getI_nat, he, checkEvent_eq e hs, Option.bind_some, wrapN i (by omega), hg, hf]
      by_cases hz : evFault e = 0
      · cases hb : (decide (0 < i) && decide (e.fTime < p.fTime)) <;> simp [hz, inrO]
      · simp [hz, inrO]
    · simp [inrO]
end Go.Proofs.YtmbbbiocjehncaaDoor

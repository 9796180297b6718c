/-
  Plain laws of the wire: marks.
-/
import Derived.Test.YteilhjdpbjgdpaaDoorQ4
namespace Go.Proofs.YteilhjdpbjgdpaaDoor
set_option linter.unusedSimpArgs false
set_option linter.unusedVariables false
open Go.RowKit

/-- The first fault of a list, by its place. -/
def listFI {α : Type} (h : Nat → α → Int) : Nat → List α → Int
  | _, [] => 0
  | i, e :: l => if h i e = 0 then listFI h (i + 1) l else h i e
theorem loop_faultI {α R : Type} (l : List α) (h : Nat → α → Int) (ret : Int → R) (k : Int → Option R) {f : Int → Option (Int ⊕ (Int ⊕ R))}
    (hb : ∀ (i : Nat) (e : α), l[i]? = some e → f (i : Int) = if h i e = 0 then some (.inl ((i + 1 : Nat) : Int)) else some (.inr (.inr (ret (h i e)))))
    (he : f (l.length : Int) = some (.inr (.inl (l.length : Int)))) : (loopC f 0).bind (outK k) = if listFI h 0 l = 0 then k (l.length : Int) else some (ret (listFI h 0 l)) := by
  have : ∀ (t : List α) (i : Nat), l.drop i = t → i ≤ l.length → loopC f (i : Int) = if listFI h i t = 0 then some (.inl (l.length : Int)) else some (.inr (ret (listFI h i t))) := by
    intro t
    induction t with
    | nil =>
      intro i hd hi
      have := drop_nil_len hd hi
      subst this
      rw [loopC_eq, he]
      rfl
    | cons e t ih =>
      intro i hd hi
      obtain ⟨h1, h2, h3⟩ := drop_head hd
      rw [loopC_eq, hb i e h1]
      by_cases h0 : h i e = 0
      · simp only [listFI, h0, if_true]; exact ih (i + 1) h3 h2
      · simp only [listFI, h0, if_false]
  have e0 : loopC f 0 = if listFI h 0 l = 0 then some (.inl (l.length : Int)) else some (.inr (ret (listFI h 0 l))) := this l 0 rfl (Nat.zero_le _)
  rw [e0]
  by_cases h0 : listFI h 0 l = 0
  · rw [if_pos h0, if_pos h0]; rfl
  · rw [if_neg h0, if_neg h0]; rfl
def anyI {α : Type} (c : Nat → α → Bool) : Nat → List α → Bool
  | _, [] => false
  | i, e :: l => c i e || anyI c (i + 1) l
theorem listFI_any {α : Type} (c : Nat → α → Bool) (n : Int) (hn : n ≠ 0) : ∀ (l : List α) (i : Nat), listFI (fun i e => if c i e = true then n else 0) i l = if anyI c i l = true then n else 0
  | [], _ => rfl
  | e :: l, i => by
    simp only [listFI, anyI, listFI_any c n hn l (i + 1)]
    by_cases hc : c i e = true <;> simp [hc, hn]
def eqB (a b : UInt8) : Bool := decide ((a.toNat : Int) = (b.toNat : Int))
def bads (m : Tapi_Marks) : Bool := !markB m.fElement || !markB m.fPart || !markB m.fRepeat || !markB m.fEnd || (!decide ((m.fEscape.toNat : Int) = 0) && !markB m.fEscape)
def twice (m : Tapi_Marks) : Bool := eqB m.fPart m.fElement || eqB m.fRepeat m.fElement || eqB m.fRepeat m.fPart || eqB m.fEnd m.fElement || eqB m.fEnd m.fPart || eqB m.fEnd m.fRepeat || eqB m.fEscape m.fElement || eqB m.fEscape m.fPart || eqB m.fEscape m.fRepeat || eqB m.fEscape m.fEnd
def marksF (m : Tapi_Marks) : Int := if bads m = true then 3 else if twice m = true then 7 else 0
theorem any_fault (l : List UInt8) (e : UInt8) : listF (fun b => if eqB e b = true then (7 : Int) else 0) l = if l.any (eqB e) = true then 7 else 0 := by
  induction l with
  | nil => rfl
  | cons b l ih =>
    simp only [listF, ih, List.any_cons]
    by_cases hc : eqB e b = true <;> simp [hc]
theorem r_marks (m : Tapi_Marks) : m_interchangeref2_CheckMarks m = some (marksF m) := by
  unfold m_interchangeref2_CheckMarks sims_G1_1_0; dsimp only
  simp only [r_mark, Option.bind_some, orO_some, andO_some]
  unfold marksF
  have hb : (!markB m.fElement || !markB m.fPart || !markB m.fRepeat || !markB m.fEnd || !decide ((m.fEscape.toNat : Int) = 0) && !markB m.fEscape) = bads m := rfl
  rw [hb]
  by_cases h : bads m = true
  · simp only [h, cond_true, if_true]
  · rw [if_neg h]
    simp only [Bool.not_eq_true] at h
    simp only [h, cond_false]
    refine (loop_faultI [m.fElement, m.fPart, m.fRepeat, m.fEscape, m.fEnd] (fun i e => if ([m.fElement, m.fPart, m.fRepeat, m.fEscape, m.fEnd].take i).any (eqB e) = true then 7 else 0) (fun a => a) _ (fun i e he => ?_) ?_).trans ?_
    · have hi : i < 5 := get_le he
      have h5 : decide ((i : Int) < 5) = true := decide_eq_true (by omega)
      simp only [h5, cond_true, getI_nat, he, Option.bind_some, wrapN i (by omega)]
      have hlen : ([m.fElement, m.fPart, m.fRepeat, m.fEscape, m.fEnd].take i).length = i := by rw [List.length_take]; simp; omega
      refine (loop_fault ([m.fElement, m.fPart, m.fRepeat, m.fEscape, m.fEnd].take i) (fun b => if eqB e b = true then (7 : Int) else 0) (fun a => .inr (.inr a)) _ (fun j b hj => ?_) ?_).trans ?_
      · have hji := get_le hj
        rw [hlen] at hji
        rw [List.getElem?_take_of_lt hji] at hj
        have h6 : decide ((j : Int) < (i : Int)) = true := decide_eq_true (by omega)
        simp only [h6, cond_true, getI_nat, hj, Option.bind_some, wrapN j (by omega)]
        show (bif eqB e b then _ else _) = _
        cases eqB e b <;> rfl
      · rw [hlen]
        simp only [lt_dec_self, cond_false]
        first | done | rfl
      · rw [any_fault]
    · rfl
    · rw [listFI_any (fun i e => ([m.fElement, m.fPart, m.fRepeat, m.fEscape, m.fEnd].take i).any (eqB e)) 7 (by decide)]
      have : anyI (fun i e => ([m.fElement, m.fPart, m.fRepeat, m.fEscape, m.fEnd].take i).any (eqB e)) 0 [m.fElement, m.fPart, m.fRepeat, m.fEscape, m.fEnd] = twice m := by
        rw [Bool.eq_iff_iff]
        simp only [anyI, List.take, List.any_cons, List.any_nil, twice, eqB, Bool.or_eq_true, decide_eq_true_eq, Bool.or_false, Bool.false_or, Bool.false_eq_true]
        omega
      rw [this]
      cases twice m <;> rfl
theorem contains_eq (l : List UInt8) (b : UInt8) (hl : l.length < 9223372036854775807) : m_slices_Contains_byte_byte l b = some (l.any (eqB b)) := by
  unfold m_slices_Contains_byte_byte sims_G1_1_0; dsimp only
  have hI : m_slices_Index_byte_byte l b = some (match l.findIdx? (eqB b) with | some i => (i : Int) | none => -1) := by
    unfold m_slices_Index_byte_byte sims_G1_0_0; dsimp only
    have : ∀ (t : List UInt8) (i : Nat) (f : Int → Option (Int ⊕ (Int ⊕ Int))), l.drop i = t → i ≤ l.length → (∀ (i : Nat) (e : UInt8), l[i]? = some e → f (i : Int) = bif eqB b e then some (.inr (.inr (i : Int))) else some (.inl ((i + 1 : Nat) : Int))) → f (l.length : Int) = some (.inr (.inl (l.length : Int))) →
        loopC f (i : Int) = some (match t.findIdx? (eqB b) with | some j => .inr (((i + j : Nat)) : Int) | none => .inl (l.length : Int)) := by
      intro t
      induction t with
      | nil =>
        intro i f hd hi hb he
        have := drop_nil_len hd hi
        subst this
        rw [loopC_eq, he]
        rfl
      | cons e t ih =>
        intro i f hd hi hb he
        obtain ⟨h1, h2, h3⟩ := drop_head hd
        rw [loopC_eq, hb i e h1, List.findIdx?_cons]
        cases hq : eqB b e with
        | true => simp
        | false =>
          simp only [cond_false]
          rw [ih (i + 1) f h3 h2 hb he]
          cases t.findIdx? (eqB b) with
          | none => rfl
          | some j => simp; omega
    refine bind_loop (this l 0 _ rfl (Nat.zero_le _) (fun i e he => ?_) ?_) ?_
    · have hi := get_le he
      simp only [lt_dec hi, cond_true, getI_nat, he, Option.bind_some, wrapN i (by omega)]
      show (bif eqB b e then _ else _) = _
      cases eqB b e <;> rfl
    · simp only [lt_dec_self, cond_false]; rfl
    · cases l.findIdx? (eqB b) with
      | none => rfl
      | some j => simp [outK]
  rw [hI]
  simp only [Option.bind_some]
  congr 1
  cases h : l.findIdx? (eqB b) with
  | none =>
    rw [List.findIdx?_eq_none_iff] at h
    symm
    simp only [List.any_eq_false]
    simpa using h
  | some j =>
    have h2 := List.findIdx?_eq_some_iff_getElem.1 h
    obtain ⟨hj, h3, -⟩ := h2
    symm
    simp only [decide_eq_true_eq, Int.natCast_nonneg, decide_true]
    exact List.any_eq_true.2 ⟨l[j], List.getElem_mem hj, h3⟩
theorem w_marks (m : Tapi_Marks) : m_wire_CheckMarks m = some (marksF m) := by
  unfold m_wire_CheckMarks sims_G1_3_0; dsimp only
  simp only [w_mark, Option.bind_some, orO_some, andO_some]
  unfold marksF
  have hb : bads m = (listF (fun b => if markB b = true then (0 : Int) else 3) [m.fElement, m.fPart, m.fRepeat, m.fEnd] != 0 || (!decide ((m.fEscape.toNat : Int) = 0) && !markB m.fEscape)) := by
    unfold bads
    simp only [listF]
    by_cases h1 : markB m.fElement = true <;> by_cases h2 : markB m.fPart = true <;> by_cases h3 : markB m.fRepeat = true <;> by_cases h4 : markB m.fEnd = true <;> simp [h1, h2, h3, h4]
  rw [hb]
  refine (loop_fault [m.fElement, m.fPart, m.fRepeat, m.fEnd] (fun b => if markB b = true then (0 : Int) else 3) (fun _ => 3) _ (fun i e he => ?_) ?_).trans ?_
  · have hi : i < 4 := get_le he
    have h4 : decide ((i : Int) < 4) = true := decide_eq_true (by omega)
    simp only [h4, cond_true, getI_nat, he, Option.bind_some, wrapN i (by omega)]
    cases markB e <;> rfl
  · rfl
  · by_cases h0 : listF (fun b => if markB b = true then (0 : Int) else 3) [m.fElement, m.fPart, m.fRepeat, m.fEnd] = 0
    · rw [if_pos h0, h0]
      simp only [bne_self_eq_false, Bool.false_or]
      by_cases h1 : (!decide ((m.fEscape.toNat : Int) = 0) && !markB m.fEscape) = true
      · rw [if_pos h1]; simp only [h1, cond_true]
      · rw [if_neg h1]
        simp only [Bool.not_eq_true] at h1
        simp only [h1, cond_false]
        rw [thenO_some (lenO_ok (by simp))]
        refine (loop_faultI [m.fElement, m.fPart, m.fRepeat, m.fEnd, m.fEscape] (fun i e => if ([m.fElement, m.fPart, m.fRepeat, m.fEnd].take i).any (eqB e) = true then 7 else 0) (fun a => a) _ (fun i e he => ?_) ?_).trans ?_
        · have hi : i < 5 := get_le he
          have h5 : decide ((i : Int) < 5) = true := decide_eq_true (by omega)
          have hs : sliceI [m.fElement, m.fPart, m.fRepeat, m.fEnd] 0 (if 4 < (i : Int) then 4 else (i : Int)) = some ([m.fElement, m.fPart, m.fRepeat, m.fEnd].take i) := by
            have : ¬ (4 < (i : Int)) := by omega
            rw [if_neg this]
            unfold sliceI
            rw [if_pos ⟨by omega, by omega, by simp; omega⟩]
            simp
          have hn : [m.fElement, m.fPart, m.fRepeat, m.fEnd, m.fEscape][(i : Int).toNat]? = some e := by simpa using he
          simp only [h5, cond_true, getI_nat, he, hn, Option.bind_some, wrapN i (by omega)]
          have hs2 : sliceI [m.fElement, m.fPart, m.fRepeat, m.fEnd] ((none : Option Int).getD 0) ((some (if 4 < (i : Int) then 4 else (i : Int))).getD ((4 : Nat) : Int)) = some ([m.fElement, m.fPart, m.fRepeat, m.fEnd].take i) := hs
          rw [hs2]
          simp only [Option.bind_some]
          rw [contains_eq _ e (by rw [List.length_take]; simp; omega)]
          simp only [Option.bind_some]
          cases ([m.fElement, m.fPart, m.fRepeat, m.fEnd].take i).any (eqB e) <;> rfl
        · rfl
        · rw [listFI_any (fun i e => ([m.fElement, m.fPart, m.fRepeat, m.fEnd].take i).any (eqB e)) 7 (by decide)]
          have : anyI (fun i e => ([m.fElement, m.fPart, m.fRepeat, m.fEnd].take i).any (eqB e)) 0 [m.fElement, m.fPart, m.fRepeat, m.fEnd, m.fEscape] = twice m := by
            rw [Bool.eq_iff_iff]
            simp only [anyI, List.take, List.any_cons, List.any_nil, twice, eqB, Bool.or_eq_true, decide_eq_true_eq, Bool.or_false, Bool.false_or, Bool.false_eq_true]
            omega
          rw [this]
          cases twice m <;> rfl
    · rw [if_neg h0]
      have : (listF (fun b => if markB b = true then (0 : Int) else 3) [m.fElement, m.fPart, m.fRepeat, m.fEnd] != 0) = true := by simpa using h0
      rw [this]
      rfl
end Go.Proofs.YteilhjdpbjgdpaaDoor

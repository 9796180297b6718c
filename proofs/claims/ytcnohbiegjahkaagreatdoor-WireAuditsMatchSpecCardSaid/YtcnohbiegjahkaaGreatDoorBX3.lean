/-
  Texts of mine, one behind the other (SXAU5, SXSO1, SXSO2, SXSO3, SXSO4, SXSO5, SXSO6, SXAU6, SXAU7, SXAU8, SXAU9, SXAU10, SXAU11, SXQ5m, SXAW1).
-/
import Derived.Test.YtcnohbiegjahkaaGreatDoorBX2
import Derived.Test.YtcnohbiegjahkaaGreatDoorSXEngRk
/-
  Plain laws of the audit: the reference's head.
-/
namespace Go.Proofs.YtcnohbiegjahkaaGreatDoor
set_option linter.unusedSimpArgs false
set_option linter.unusedVariables false
open Go.RowKit

def dumR : RO := ⟨false, [], 0, []⟩
def refOf (es : List Tapi_Element) : List UInt8 := match es with | [] => [] | e :: _ => if single e = true then firstT e else []
def insA (ref : List UInt8) (i : Int) (a : RA) : RA := match a.flevels.getLast? with | none => a | some x => ⟨a.flevels.dropLast ++ [insO ref x], a.fnotes ++ insN ref x i⟩
theorem insA_nil (ref : List UInt8) (i : Int) (N : List Nt) : insA ref i ⟨[], N⟩ = ⟨[], N⟩ := rfl
theorem insA_snoc (ref : List UInt8) (i : Int) (L : List RO) (x : RO) (N : List Nt) : insA ref i ⟨L ++ [x], N⟩ = ⟨L ++ [insO ref x], N ++ insN ref x i⟩ := by
  unfold insA
  simp
theorem insA_len (ref : List UInt8) (i : Int) (a : RA) : (insA ref i a).flevels.length = a.flevels.length := by
  obtain ⟨L, N⟩ := a
  rcases List.eq_nil_or_concat L with rfl | ⟨P, x, rfl⟩
  · rfl
  · rw [List.concat_eq_append, insA_snoc]; simp
theorem r_insA (L : List RO) (N : List Nt) (i : Int) (ref : List UInt8) (h1 : ref.length ≤ MX) (h2 : L.length ≤ 3) (h3 : N.length ≤ 100000) (h4 : ∀ x ∈ L, 0 ≤ x.fmany ∧ x.fmany ≤ 100000 ∧ x.frefs.length ≤ 100000) :
    m_interchange_interchangeref2_auditor_inside ⟨L, N⟩ i ref = some ((), insA ref i ⟨L, N⟩) := by
  rcases List.eq_nil_or_concat L with rfl | ⟨P, x, rfl⟩
  · rw [r_inside0, insA_nil]
  · rw [List.concat_eq_append] at h2 h4 ⊢
    obtain ⟨c1, c2, c3⟩ := h4 x (by simp)
    rw [insA_snoc, r_inside P x N i ref h1 (by simp at h2; omega) h3 c3 ⟨c1, c2⟩]
def fillRS (lv : Nat) (i : Int) (a : RA) : RA := if a.flevels.length < lv then ⟨a.flevels ++ List.replicate (lv - a.flevels.length) dumR, a.fnotes ++ [⟨1, i⟩]⟩ else a
noncomputable def formS (s : Tapi_Segment) (i : Int) (a : RA) : RA := if hdF s = true then a else noteS a 6 i
noncomputable def headS (s : Tapi_Segment) (lv : Nat) (i : Int) (a : RA) : RA :=
  let b := insA (refOf s.fElements) i (formS s i (fillRS lv i (leaveS lv i a)))
  ⟨b.flevels ++ [⟨true, first0 s.fElements, if lv = 2 then 1 else 0, []⟩], b.fnotes⟩
def headTag (lv : Nat) : List UInt8 := if lv = 0 then tIHD else if lv = 1 then tGHD else tMHD
theorem r_fill (lv : Nat) (L : List RO) (N : List Nt) (hlv : lv ≤ 3) (hL : L.length ≤ lv) (K : List RO × List Nt → Option (Unit × RA)) :
    (loopC (fun s : List RO × List Nt => bif decide (((s.1.length : Nat) : Int) < (lv : Int)) then thenO (lenO (s.1.length + 1)) (some (.inl (s.1 ++ [dumR], s.2))) else inrO (some (.inl (s.1, s.2)))) (L, N)).bind (outK K) = K (L ++ List.replicate (lv - L.length) dumR, N) := by
  rw [show (L, N) = ((fun d : Nat => (L ++ List.replicate d dumR, N)) 0) by simp]
  refine loop_to (X := Nat) (fun d : Nat => (L ++ List.replicate d dumR, N)) (fun d => lv - L.length - d) (fun d => d ≤ lv - L.length) ?_ 0 (Nat.zero_le _)
  intro d hd
  have hlen : (L ++ List.replicate d dumR).length = L.length + d := by rw [List.length_append, List.length_replicate]
  rcases Nat.lt_or_ge d (lv - L.length) with h1 | h1
  · refine .inl ⟨d + 1, h1, by omega, ?_⟩
    have d1 : decide (((L ++ List.replicate d dumR).length : Int) < (lv : Int)) = true := decide_eq_true (by rw [hlen]; omega)
    have hl : lenO ((L ++ List.replicate d dumR).length + 1) = some () := by unfold lenO; rw [if_pos (by rw [hlen]; omega)]
    dsimp only
    rw [d1, hl, ← rep_snoc, ← List.append_assoc]
    rfl
  · have hd' : d = lv - L.length := by omega
    have d1 : decide (((L ++ List.replicate d dumR).length : Int) < (lv : Int)) = false := decide_eq_false (by rw [hlen]; omega)
    refine .inr ⟨.inl (L ++ List.replicate d dumR, N), ?_, ?_⟩
    · dsimp only
      rw [d1]; rfl
    · rw [hd']; rfl
theorem r_headA (a : RA) (s : Tapi_Segment) (lv : Nat) (i : Nat) {n : Nat} (hn : n ≤ 2001) (hB : Bd n a) (hlv : lv ≤ 2) (hT : s.fTag = headTag lv) (hE : ElOk s.fElements) :
    m_interchange_interchangeref2_auditor_head a s (i : Int) = some ((), headS s lv (i : Int) a) := by
  obtain ⟨b1, b2, b3⟩ := hB
  have hL : lvlT s.fTag = lv + 1 := by
    rw [hT]
    have : lv = 0 ∨ lv = 1 ∨ lv = 2 := by omega
    rcases this with rfl | rfl | rfl <;> rfl
  have hM : decide (s.fTag = [77, 72, 68]) = decide (lv = 2) := by
    rw [hT]
    have : lv = 0 ∨ lv = 1 ∨ lv = 2 := by omega
    rcases this with rfl | rfl | rfl <;> rfl
  have hT3 : s.fTag = tIHD ∨ s.fTag = tGHD ∨ s.fTag = tMHD := by
    rw [hT]
    have : lv = 0 ∨ lv = 1 ∨ lv = 2 := by omega
    rcases this with rfl | rfl | rfl
    · exact .inl rfl
    · exact .inr (.inl rfl)
    · exact .inr (.inr rfl)
  have hF := r_head s hE hT3
  have hlea := r_leave a lv (i : Int) (by omega) b1
  have w : IntKind.i64.wrap (((lv + 1 : Nat) : Int) - 1) = (lv : Int) := by rw [wrap64 _ (by omega) (by omega)]; omega
  have hLl : (leaveS lv (i : Int) a).flevels.length ≤ lv := by simp only [leaveS, List.length_take]; omega
  have hN : (leaveS lv (i : Int) a).fnotes.length ≤ 10 * n + 3 := by simp only [leaveS, List.length_append, List.length_replicate]; omega
  have hm : ∀ x ∈ (leaveS lv (i : Int) a).flevels, 0 ≤ x.fmany ∧ x.fmany ≤ 100000 ∧ x.frefs.length ≤ 100000 := by
    intro x hx
    have := b3 x (List.mem_of_mem_take hx)
    omega
  unfold m_interchange_interchangeref2_auditor_head sims_GE_0_0; dsimp only
  rw [r_level, hL]
  simp only [Option.bind_some]
  rw [w, hlea]
  simp only [Option.bind_some, hF, hM]
  unfold headS fillRS
  generalize leaveS lv (i : Int) a = a1 at hLl hN hm
  obtain ⟨L, N⟩ := a1
  simp only at hLl hN hm ⊢
  have rest : ∀ (L3 : List RO) (N3 : List Nt), L3.length ≤ lv → N3.length ≤ 10 * n + 5 → (∀ x ∈ L3, 0 ≤ x.fmany ∧ x.fmany ≤ 100000 ∧ x.frefs.length ≤ 100000) →
      m_interchange_interchangeref2_auditor_inside ⟨L3, N3⟩ (i : Int) (refOf s.fElements) = some ((), insA (refOf s.fElements) i ⟨L3, N3⟩) ∧ lenO ((insA (refOf s.fElements) (i : Int) ⟨L3, N3⟩).flevels.length + 1) = some () := by
    intro L3 N3 k1 k2 k3
    refine ⟨r_insA L3 N3 (i : Int) _ ?_ (by omega) (by omega) k3, ?_⟩
    · cases hs : s.fElements with
      | nil => simp [refOf]
      | cons e es =>
        unfold refOf
        simp only
        split
        · exact firstT_len hE _ (by rw [hs]; simp)
        · simp
    · unfold lenO
      rw [if_pos (by rw [insA_len]; simp only; omega)]
  rcases Nat.lt_or_ge L.length lv with hc | hc
  · have d1 : decide ((L.length : Int) < (lv : Int)) = true := decide_eq_true (by omega)
    rw [d1, if_pos hc, r_note _ 1 (i : Int) (by simp only; omega)]
    simp only [cond_true, Option.bind_some, noteS]
    refine (r_fill lv L (N ++ [⟨1, i⟩]) (by omega) hLl _).trans ?_
    have k1 : (L ++ List.replicate (lv - L.length) dumR).length ≤ lv := by simp only [List.length_append, List.length_replicate]; omega
    have k2 : (N ++ [(⟨1, (i : Int)⟩ : Nt)]).length ≤ 10 * n + 4 := by simp only [List.length_append, List.length_cons, List.length_nil]; omega
    have k3 : ∀ x ∈ L ++ List.replicate (lv - L.length) dumR, 0 ≤ x.fmany ∧ x.fmany ≤ 100000 ∧ x.frefs.length ≤ 100000 := by
      intro x hx
      rcases List.mem_append.1 hx with hx | hx
      · exact hm x hx
      · rw [List.eq_of_mem_replicate hx]; simp [dumR]
    generalize L ++ List.replicate (lv - L.length) dumR = L3 at k1 k3
    generalize N ++ [(⟨1, (i : Int)⟩ : Nt)] = N2 at k2
    cases hh : hdF s with
    | true =>
      obtain ⟨r1, r2⟩ := rest L3 N2 k1 (by omega) k3
      simp only [Bool.not_true, cond_false, formS, hh, if_true]
      cases hes : s.fElements with
      | nil =>
        rw [hes] at r1 r2
        simp only [refOf] at r1 r2
        have d2 : decide ((0 : Int) < ((([] : List Tapi_Element).length : Nat) : Int)) = false := rfl
        simp only [d2, cond_false, r1, Option.bind_some, thenO, first0, refOf]
        by_cases h2 : lv = 2
        · simp only [decide_eq_true h2, cond_true, if_pos h2, List.length_cons, List.length_nil, Nat.zero_add, r2, Option.bind_some]
        · simp only [decide_eq_false h2, cond_false, if_neg h2, List.length_cons, List.length_nil, Nat.zero_add, r2, Option.bind_some]
      | cons e es =>
        rw [hes] at r1 r2 hE
        have d2 : decide ((0 : Int) < (((e :: es).length : Nat) : Int)) = true := decide_eq_true (by simp only [List.length_cons]; omega)
        have g1 : getI (e :: es) 0 = some e := rfl
        obtain ⟨r, q1, q2, q3⟩ := el_ask (hE.2 e (by simp))
        simp only [d2, cond_true, g1, Option.bind_some, q1, q2, andO_some, q3, first0]
        cases hsi : single e with
        | true =>
          simp only [refOf, hsi, if_true] at r1 r2 ⊢
          simp only [cond_true, r1, Option.bind_some, thenO]
          by_cases h2 : lv = 2
          · simp only [decide_eq_true h2, cond_true, if_pos h2, List.length_cons, List.length_nil, Nat.zero_add, r2, Option.bind_some]
          · simp only [decide_eq_false h2, cond_false, if_neg h2, List.length_cons, List.length_nil, Nat.zero_add, r2, Option.bind_some]
        | false =>
          simp only [refOf, hsi, Bool.false_eq_true, if_false] at r1 r2 ⊢
          simp only [cond_false, r1, Option.bind_some, thenO]
          by_cases h2 : lv = 2
          · simp only [decide_eq_true h2, cond_true, if_pos h2, List.length_cons, List.length_nil, Nat.zero_add, r2, Option.bind_some]
          · simp only [decide_eq_false h2, cond_false, if_neg h2, List.length_cons, List.length_nil, Nat.zero_add, r2, Option.bind_some]
    | false =>
      have k4 : (N2 ++ [(⟨6, (i : Int)⟩ : Nt)]).length ≤ 10 * n + 5 := by simp only [List.length_append, List.length_cons, List.length_nil]; omega
      simp only [Bool.not_false, cond_true, formS, hh, Bool.false_eq_true, if_false]
      rw [r_note _ 6 (i : Int) (by simp only; omega)]
      simp only [Option.bind_some, noteS]
      generalize N2 ++ [(⟨6, (i : Int)⟩ : Nt)] = N3 at k4
      obtain ⟨r1, r2⟩ := rest L3 N3 k1 (by omega) k3
      cases hes : s.fElements with
      | nil =>
        rw [hes] at r1 r2
        simp only [refOf] at r1 r2
        have d2 : decide ((0 : Int) < ((([] : List Tapi_Element).length : Nat) : Int)) = false := rfl
        simp only [d2, cond_false, r1, Option.bind_some, thenO, first0, refOf]
        by_cases h2 : lv = 2
        · simp only [decide_eq_true h2, cond_true, if_pos h2, List.length_cons, List.length_nil, Nat.zero_add, r2, Option.bind_some]
        · simp only [decide_eq_false h2, cond_false, if_neg h2, List.length_cons, List.length_nil, Nat.zero_add, r2, Option.bind_some]
      | cons e es =>
        rw [hes] at r1 r2 hE
        have d2 : decide ((0 : Int) < (((e :: es).length : Nat) : Int)) = true := decide_eq_true (by simp only [List.length_cons]; omega)
        have g1 : getI (e :: es) 0 = some e := rfl
        obtain ⟨r, q1, q2, q3⟩ := el_ask (hE.2 e (by simp))
        simp only [d2, cond_true, g1, Option.bind_some, q1, q2, andO_some, q3, first0]
        cases hsi : single e with
        | true =>
          simp only [refOf, hsi, if_true] at r1 r2 ⊢
          simp only [cond_true, r1, Option.bind_some, thenO]
          by_cases h2 : lv = 2
          · simp only [decide_eq_true h2, cond_true, if_pos h2, List.length_cons, List.length_nil, Nat.zero_add, r2, Option.bind_some]
          · simp only [decide_eq_false h2, cond_false, if_neg h2, List.length_cons, List.length_nil, Nat.zero_add, r2, Option.bind_some]
        | false =>
          simp only [refOf, hsi, Bool.false_eq_true, if_false] at r1 r2 ⊢
          simp only [cond_false, r1, Option.bind_some, thenO]
          by_cases h2 : lv = 2
          · simp only [decide_eq_true h2, cond_true, if_pos h2, List.length_cons, List.length_nil, Nat.zero_add, r2, Option.bind_some]
          · simp only [decide_eq_false h2, cond_false, if_neg h2, List.length_cons, List.length_nil, Nat.zero_add, r2, Option.bind_some]
  · have d1 : decide ((L.length : Int) < (lv : Int)) = false := decide_eq_false (by omega)
    rw [d1, if_neg (by omega)]
    simp only [cond_false]
    cases hh : hdF s with
    | true =>
      obtain ⟨r1, r2⟩ := rest L N hLl (by omega) hm
      simp only [Bool.not_true, cond_false, formS, hh, if_true]
      cases hes : s.fElements with
      | nil =>
        rw [hes] at r1 r2
        simp only [refOf] at r1 r2
        have d2 : decide ((0 : Int) < ((([] : List Tapi_Element).length : Nat) : Int)) = false := rfl
        simp only [d2, cond_false, r1, Option.bind_some, thenO, first0, refOf]
        by_cases h2 : lv = 2
        · simp only [decide_eq_true h2, cond_true, if_pos h2, List.length_cons, List.length_nil, Nat.zero_add, r2, Option.bind_some]
        · simp only [decide_eq_false h2, cond_false, if_neg h2, List.length_cons, List.length_nil, Nat.zero_add, r2, Option.bind_some]
      | cons e es =>
        rw [hes] at r1 r2 hE
        have d2 : decide ((0 : Int) < (((e :: es).length : Nat) : Int)) = true := decide_eq_true (by simp only [List.length_cons]; omega)
        have g1 : getI (e :: es) 0 = some e := rfl
        obtain ⟨r, q1, q2, q3⟩ := el_ask (hE.2 e (by simp))
        simp only [d2, cond_true, g1, Option.bind_some, q1, q2, andO_some, q3, first0]
        cases hsi : single e with
        | true =>
          simp only [refOf, hsi, if_true] at r1 r2 ⊢
          simp only [cond_true, r1, Option.bind_some, thenO]
          by_cases h2 : lv = 2
          · simp only [decide_eq_true h2, cond_true, if_pos h2, List.length_cons, List.length_nil, Nat.zero_add, r2, Option.bind_some]
          · simp only [decide_eq_false h2, cond_false, if_neg h2, List.length_cons, List.length_nil, Nat.zero_add, r2, Option.bind_some]
        | false =>
          simp only [refOf, hsi, Bool.false_eq_true, if_false] at r1 r2 ⊢
          simp only [cond_false, r1, Option.bind_some, thenO]
          by_cases h2 : lv = 2
          · simp only [decide_eq_true h2, cond_true, if_pos h2, List.length_cons, List.length_nil, Nat.zero_add, r2, Option.bind_some]
          · simp only [decide_eq_false h2, cond_false, if_neg h2, List.length_cons, List.length_nil, Nat.zero_add, r2, Option.bind_some]
    | false =>
      have k4 : (N ++ [(⟨6, (i : Int)⟩ : Nt)]).length ≤ 10 * n + 5 := by simp only [List.length_append, List.length_cons, List.length_nil]; omega
      simp only [Bool.not_false, cond_true, formS, hh, Bool.false_eq_true, if_false]
      rw [r_note _ 6 (i : Int) (by simp only; omega)]
      simp only [Option.bind_some, noteS]
      generalize N ++ [(⟨6, (i : Int)⟩ : Nt)] = N3 at k4
      obtain ⟨r1, r2⟩ := rest L N3 hLl (by omega) hm
      cases hes : s.fElements with
      | nil =>
        rw [hes] at r1 r2
        simp only [refOf] at r1 r2
        have d2 : decide ((0 : Int) < ((([] : List Tapi_Element).length : Nat) : Int)) = false := rfl
        simp only [d2, cond_false, r1, Option.bind_some, thenO, first0, refOf]
        by_cases h2 : lv = 2
        · simp only [decide_eq_true h2, cond_true, if_pos h2, List.length_cons, List.length_nil, Nat.zero_add, r2, Option.bind_some]
        · simp only [decide_eq_false h2, cond_false, if_neg h2, List.length_cons, List.length_nil, Nat.zero_add, r2, Option.bind_some]
      | cons e es =>
        rw [hes] at r1 r2 hE
        have d2 : decide ((0 : Int) < (((e :: es).length : Nat) : Int)) = true := decide_eq_true (by simp only [List.length_cons]; omega)
        have g1 : getI (e :: es) 0 = some e := rfl
        obtain ⟨r, q1, q2, q3⟩ := el_ask (hE.2 e (by simp))
        simp only [d2, cond_true, g1, Option.bind_some, q1, q2, andO_some, q3, first0]
        cases hsi : single e with
        | true =>
          simp only [refOf, hsi, if_true] at r1 r2 ⊢
          simp only [cond_true, r1, Option.bind_some, thenO]
          by_cases h2 : lv = 2
          · simp only [decide_eq_true h2, cond_true, if_pos h2, List.length_cons, List.length_nil, Nat.zero_add, r2, Option.bind_some]
          · simp only [decide_eq_false h2, cond_false, if_neg h2, List.length_cons, List.length_nil, Nat.zero_add, r2, Option.bind_some]
        | false =>
          simp only [refOf, hsi, Bool.false_eq_true, if_false] at r1 r2 ⊢
          simp only [cond_false, r1, Option.bind_some, thenO]
          by_cases h2 : lv = 2
          · simp only [decide_eq_true h2, cond_true, if_pos h2, List.length_cons, List.length_nil, Nat.zero_add, r2, Option.bind_some]
          · simp only [decide_eq_false h2, cond_false, if_neg h2, List.length_cons, List.length_nil, Nat.zero_add, r2, Option.bind_some]
end Go.Proofs.YtcnohbiegjahkaaGreatDoor

/-
  Plain laws of the stable sort: the loops over a list, what they leave, with no program in sight.
-/
namespace Go.Proofs.YtcnohbiegjahkaaGreatDoor
set_option linter.unusedSimpArgs false
set_option linter.unusedVariables false
open Go.RowKit

section
variable {α R : Type}

theorem loopC_st {S A : Type} {f : S → Option (S ⊕ A)} {s s' : S} (h : f s = some (.inl s')) : loopC f s = loopC f s' := by rw [loopC_eq, h]
theorem loopC_end {S A : Type} {f : S → Option (S ⊕ A)} {s : S} {a : A} (h : f s = some (.inr a)) : loopC f s = some a := by rw [loopC_eq, h]

/-! ### Swaps -/
def swpO (L : List α) (i j : Int) (k : List α → Option R) : Option R :=
  (getI L j).bind fun _ => L[j.toNat]?.bind fun e => (getI L i).bind fun _ => L[i.toNat]?.bind fun e2 => (getI L i).bind fun _ => L[i.toNat]?.bind fun _ =>
    (getI (L.set i.toNat e) j).bind fun _ => (L.set i.toNat e)[j.toNat]?.bind fun _ => k ((L.set i.toNat e).set j.toNat e2)
theorem swp_at {L : List α} {i j : Nat} {u v w : α} {k : List α → Option R} (hi : L[i]? = some u) (hj : L[j]? = some v) (hw : (L.set i v)[j]? = some w) : swpO L (i : Int) (j : Int) k = k ((L.set i v).set j u) := by
  unfold swpO
  simp only [getI_nat, Int.toNat_natCast, hi, hj, hw, Option.bind_some]
theorem get_mid (X Y : List α) (u : α) : (X ++ u :: Y)[X.length]? = some u := by simp
theorem set_mid (X Y : List α) (u v : α) : (X ++ u :: Y).set X.length v = X ++ v :: Y := by simp
theorem swp_up (X Y Z : List α) (u v : α) (k : List α → Option R) : swpO (X ++ u :: (Y ++ v :: Z)) (X.length : Int) ((X.length + 1 + Y.length : Nat) : Int) k = k (X ++ v :: (Y ++ u :: Z)) := by
  have e1 : ∀ w z : α, X ++ w :: (Y ++ z :: Z) = (X ++ w :: Y) ++ z :: Z := fun w z => by simp
  have e2 : ∀ w : α, X.length + 1 + Y.length = (X ++ w :: Y).length := fun w => by simp; omega
  have hj : ∀ w z : α, (X ++ w :: (Y ++ z :: Z))[X.length + 1 + Y.length]? = some z := fun w z => by rw [e1, e2 w]; exact get_mid _ _ _
  rw [swp_at (get_mid X _ u) (hj u v) (by rw [set_mid]; exact hj v v), set_mid, e1 v v, e2 v, set_mid, ← e1]
theorem swp_dn (X Y Z : List α) (u v : α) (k : List α → Option R) : swpO (X ++ u :: (Y ++ v :: Z)) ((X.length + 1 + Y.length : Nat) : Int) (X.length : Int) k = k (X ++ v :: (Y ++ u :: Z)) := by
  have e1 : ∀ w z : α, X ++ w :: (Y ++ z :: Z) = (X ++ w :: Y) ++ z :: Z := fun w z => by simp
  have e2 : ∀ w : α, X.length + 1 + Y.length = (X ++ w :: Y).length := fun w => by simp; omega
  have hj : ∀ w z : α, (X ++ w :: (Y ++ z :: Z))[X.length + 1 + Y.length]? = some z := fun w z => by rw [e1, e2 w]; exact get_mid _ _ _
  have hs : ∀ w z y : α, (X ++ w :: (Y ++ z :: Z)).set (X.length + 1 + Y.length) y = X ++ w :: (Y ++ y :: Z) := fun w z y => by rw [e1, e2 w, set_mid, ← e1]
  rw [swp_at (hj u v) (get_mid X _ u) (by rw [hs]; exact get_mid X _ u), hs, set_mid]

/-! ### The order; what a stable sort keeps -/
structure Ordr (lt : α → α → Bool) : Prop where
  asym : ∀ a b, lt a b = true → lt b a = false
  tr : ∀ a b c, lt b a = false → lt c b = false → lt c a = false
def Srt (lt : α → α → Bool) (L : List α) : Prop := L.Pairwise (fun a b => lt b a = false)
def eqvB (lt : α → α → Bool) (x y : α) : Bool := !lt x y && !lt y x
def SP (lt : α → α → Bool) (X Y : List α) : Prop := X.Perm Y ∧ ∀ x, X.filter (eqvB lt x) = Y.filter (eqvB lt x)
theorem SP.refl (lt : α → α → Bool) (X : List α) : SP lt X X := ⟨.refl _, fun _ => rfl⟩
theorem SP.symm {lt : α → α → Bool} {X Y : List α} (h : SP lt X Y) : SP lt Y X := ⟨h.1.symm, fun x => (h.2 x).symm⟩
theorem SP.trans {lt : α → α → Bool} {X Y Z : List α} (h : SP lt X Y) (g : SP lt Y Z) : SP lt X Z := ⟨h.1.trans g.1, fun x => (h.2 x).trans (g.2 x)⟩
theorem SP.app {lt : α → α → Bool} {X Y X' Y' : List α} (h : SP lt X X') (g : SP lt Y Y') : SP lt (X ++ Y) (X' ++ Y') := ⟨h.1.append g.1, fun x => by rw [List.filter_append, List.filter_append, h.2, g.2]⟩
theorem Ordr.lt_left {lt : α → α → Bool} (O : Ordr lt) {v v' x : α} (h : lt v v' = false) (g : lt v x = true) : lt v' x = true := by
  cases e : lt v' x with
  | true => rfl
  | false => rw [O.tr x v' v e h] at g; cases g
theorem Ordr.lt_right {lt : α → α → Bool} (O : Ordr lt) {v v' x : α} (h : lt v' v = false) (g : lt x v = true) : lt x v' = true := by
  cases e : lt x v' with
  | true => rfl
  | false => rw [O.tr v v' x h e] at g; cases g
theorem Ordr.irr {lt : α → α → Bool} (O : Ordr lt) (v : α) : lt v v = false := by
  cases e : lt v v with
  | false => rfl
  | true => rw [← e]; exact O.asym v v e
theorem SP.swap {lt : α → α → Bool} (O : Ordr lt) {U V : List α} (h : ∀ u ∈ U, ∀ v ∈ V, lt v u = true) : SP lt (U ++ V) (V ++ U) := by
  refine ⟨List.perm_append_comm, fun x => ?_⟩
  rw [List.filter_append, List.filter_append]
  cases hu : U.filter (eqvB lt x) with
  | nil => simp
  | cons u U' =>
    have hV : V.filter (eqvB lt x) = [] := by
      rw [List.filter_eq_nil_iff]
      intro v hv hx
      have hu' := List.mem_filter.1 (hu ▸ List.mem_cons_self : u ∈ U.filter (eqvB lt x))
      have := h u hu'.1 v hv
      have a := hu'.2
      simp only [eqvB, Bool.and_eq_true, Bool.not_eq_true'] at a hx
      rw [O.tr u x v a.1 hx.2] at this
      cases this
    rw [hV]; simp
theorem srt_app {lt : α → α → Bool} {X Y : List α} : Srt lt (X ++ Y) ↔ Srt lt X ∧ Srt lt Y ∧ ∀ a ∈ X, ∀ b ∈ Y, lt b a = false := List.pairwise_append
theorem srt_one (lt : α → α → Bool) (x : α) : Srt lt [x] := List.pairwise_singleton _ _
theorem take_all {lt : α → α → Bool} {V : List α} (h : Srt lt V) {P : α → Prop} (O : Ordr lt) (hP : ∀ v v', lt v v' = false → P v → P v') {k : Nat} (hk : k = 0 ∨ ∃ v, V[k - 1]? = some v ∧ P v) : ∀ w ∈ V.take k, P w := by
  rcases hk with rfl | ⟨v, hv, hp⟩
  · simp
  · intro w hw
    obtain ⟨i, hi, rfl⟩ := List.mem_iff_getElem.1 hw
    rw [List.getElem_take]
    obtain ⟨hv1, hv2⟩ := List.getElem?_eq_some_iff.1 hv
    have hi' : i < k := by have := List.length_take_le k V; rw [List.length_take] at hi; omega
    rcases Nat.lt_or_eq_of_le (show i ≤ k - 1 by omega) with hlt | heq
    · exact hP v _ (by rw [← hv2]; exact List.pairwise_iff_getElem.1 h i (k - 1) (by omega) hv1 hlt) hp
    · subst heq; rw [hv2]; exact hp
theorem drop_all {lt : α → α → Bool} {V : List α} (h : Srt lt V) {P : α → Prop} (hP : ∀ v v', lt v' v = false → P v → P v') {k : Nat} (hk : V.length ≤ k ∨ ∃ v, V[k]? = some v ∧ P v) : ∀ w ∈ V.drop k, P w := by
  rcases hk with hk | ⟨v, hv, hp⟩
  · rw [List.drop_eq_nil_of_le hk]; simp
  · intro w hw
    obtain ⟨i, hi, rfl⟩ := List.mem_iff_getElem.1 hw
    rw [List.getElem_drop]
    obtain ⟨hv1, hv2⟩ := List.getElem?_eq_some_iff.1 hv
    rw [List.length_drop] at hi
    rcases Nat.eq_zero_or_pos i with rfl | hi'
    · simp only [Nat.add_zero]; rw [hv2]; exact hp
    · exact hP v _ (by rw [← hv2]; exact List.pairwise_iff_getElem.1 h k (k + i) hv1 (by omega) (by omega)) hp
/-- Sorted and stable is one list alone. -/
theorem srt_unique {lt : α → α → Bool} (O : Ordr lt) : ∀ {X Y : List α}, Srt lt X → Srt lt Y → SP lt X Y → X = Y := by
  intro X
  induction X with
  | nil => intro Y _ _ h; exact (h.1.nil_eq)
  | cons x X ih =>
    intro Y hX hY h
    cases Y with
    | nil => exact absurd h.1.symm.nil_eq (by simp)
    | cons y Y =>
      have hxy : lt y x = false := by
        have := h.1.symm.subset (List.mem_cons_self : y ∈ y :: Y)
        rcases List.mem_cons.1 this with rfl | hm
        · exact O.irr _
        · exact (List.pairwise_cons.1 hX).1 y hm
      have hyx : lt x y = false := by
        have := h.1.subset (List.mem_cons_self : x ∈ x :: X)
        rcases List.mem_cons.1 this with rfl | hm
        · exact O.irr _
        · exact (List.pairwise_cons.1 hY).1 x hm
      have hf := h.2 x
      have e1 : eqvB lt x x = true := by simp [eqvB, O.irr]
      have e2 : eqvB lt x y = true := by simp [eqvB, hxy, hyx]
      rw [List.filter_cons_of_pos e1, List.filter_cons_of_pos e2] at hf
      injection hf with hf1 hf2
      subst hf1
      rw [ih (List.pairwise_cons.1 hX).2 (List.pairwise_cons.1 hY).2 ⟨(List.perm_cons _).1 h.1, fun z => ?_⟩]
      have := h.2 z
      rw [List.filter_cons, List.filter_cons] at this
      split at this
      · injection this
      · exact this

/-! ### swapRange -/
noncomputable def swapF (a b n : Int) : List α × Int → Option ((List α × Int) ⊕ ((List α × Int) ⊕ (Unit × List α))) := fun s =>
  bif decide (s.2 < n) then swpO s.1 (IntKind.i64.wrap (a + s.2)) (IntKind.i64.wrap (b + s.2)) (fun L' => some (.inl (L', IntKind.i64.wrap (s.2 + 1)))) else inrO (some (.inl (s.1, s.2)))
noncomputable def swapG (L : List α) (a b n : Int) : Option (Unit × List α) := (loopC (swapF a b n) (L, 0)).bind (outK fun s => some ((), s.1))
theorem swapF_loop : ∀ (U V A M B : List α) (a b n i : Nat), U.length = V.length → A.length + U.length + M.length + V.length ≤ 1152921504606846976 → a + i = A.length → b + i = A.length + U.length + M.length → n = i + U.length →
    loopC (swapF (a : Int) (b : Int) (n : Int)) (A ++ U ++ M ++ V ++ B, (i : Int)) = some (.inl (A ++ V ++ M ++ U ++ B, (n : Int))) := by
  intro U
  induction U with
  | nil =>
    intro V A M B a b n i hl hb h1 h2 h3
    have hV : V = [] := by cases V with
      | nil => rfl
      | cons _ _ => simp at hl
    subst hV
    have : n = i := by simpa using h3
    subst this
    refine loopC_end ?_
    unfold swapF
    simp [inrO]
  | cons u U ih =>
    intro V A M B a b n i hl hb h1 h2 h3
    cases V with
    | nil => simp at hl
    | cons v V =>
      simp only [List.length_cons] at hl hb h2 h3
      have e : A ++ u :: U ++ M ++ v :: V ++ B = A ++ u :: ((U ++ M) ++ v :: (V ++ B)) := by simp
      have w1 : IntKind.i64.wrap ((a : Int) + (i : Int)) = (A.length : Int) := by rw [wrap64 _ (by omega) (by omega)]; omega
      have w2 : IntKind.i64.wrap ((b : Int) + (i : Int)) = ((A.length + 1 + (U ++ M).length : Nat) : Int) := by rw [wrap64 _ (by omega) (by omega), List.length_append]; omega
      have w3 : IntKind.i64.wrap ((i : Int) + 1) = ((i + 1 : Nat) : Int) := wrapN i (by omega)
      have hd : decide (((i : Nat) : Int) < (n : Int)) = true := by simp; omega
      rw [e]
      refine (loopC_st (s' := ((A ++ [v]) ++ U ++ (M ++ [u]) ++ V ++ B, ((i + 1 : Nat) : Int))) ?_).trans ?_
      · unfold swapF
        dsimp only
        rw [hd, w1, w2, w3]
        dsimp only [cond_true]
        rw [swp_up]
        simp
      · rw [ih V (A ++ [v]) (M ++ [u]) B a b n (i + 1) (by omega) (by simp; omega) (by simp; omega) (by simp; omega) (by omega)]
        simp
theorem swapG_eq (U V A M B : List α) (a b n : Int) (hl : U.length = V.length) (hb : A.length + U.length + M.length + V.length ≤ 1152921504606846976) (ha : a = (A.length : Nat)) (hbb : b = ((A.length + U.length + M.length : Nat) : Int)) (hn : n = (U.length : Nat)) :
    swapG (A ++ U ++ M ++ V ++ B) a b n = some ((), A ++ V ++ M ++ U ++ B) := by
  subst ha hbb hn
  unfold swapG
  rw [show (0 : Int) = ((0 : Nat) : Int) from rfl, swapF_loop U V A M B _ _ _ 0 hl hb (by omega) (by omega) (by omega)]
  rfl

/-! ### rotate -/
noncomputable def rotF (m : Int) : List α × Int × Int → Option ((List α × Int × Int) ⊕ ((List α × Int × Int) ⊕ (Unit × List α))) := fun s =>
  bif !decide (s.2.1 = s.2.2) then
    bif decide (s.2.2 < s.2.1) then (swapG s.1 (IntKind.i64.wrap (m - s.2.1)) m s.2.2).bind fun y => some (.inl (y.2, IntKind.i64.wrap (s.2.1 - s.2.2), s.2.2))
    else (swapG s.1 (IntKind.i64.wrap (m - s.2.1)) (IntKind.i64.wrap (IntKind.i64.wrap (m + s.2.2) - s.2.1)) s.2.1).bind fun y => some (.inl (y.2, s.2.1, IntKind.i64.wrap (s.2.2 - s.2.1)))
  else inrO (some (.inl (s.1, s.2.1, s.2.2)))
noncomputable def rotG (L : List α) (a m b : Int) : Option (Unit × List α) :=
  (loopC (rotF m) (L, IntKind.i64.wrap (m - a), IntKind.i64.wrap (b - m))).bind (outK fun s => (swapG s.1 (IntKind.i64.wrap (m - s.2.1)) m s.2.1).bind fun y => some ((), y.2))
theorem rotF_loop : ∀ (n : Nat) (P U V S : List α) (m : Nat), U.length + V.length ≤ n → U ≠ [] → V ≠ [] → (P ++ U ++ V ++ S).length ≤ 1152921504606846976 → m = P.length + U.length →
    (loopC (rotF (m : Int)) (P ++ U ++ V ++ S, (U.length : Int), (V.length : Int))).bind (outK fun s => (swapG s.1 (IntKind.i64.wrap ((m : Int) - s.2.1)) (m : Int) s.2.1).bind fun y => some ((), y.2)) = some ((), P ++ V ++ U ++ S) := by
  intro n
  induction n with
  | zero => intro P U V S m h hU; cases U with
    | nil => exact absurd rfl hU
    | cons _ _ => simp at h
  | succ n ih =>
    intro P U V S m h hU hV hb hm
    have lU : 0 < U.length := List.length_pos_iff.2 hU
    have lV : 0 < V.length := List.length_pos_iff.2 hV
    have hb' : P.length + U.length + V.length + S.length ≤ 1152921504606846976 := by simpa [Nat.add_assoc] using hb
    have w1 : IntKind.i64.wrap ((m : Int) - (U.length : Int)) = ((P.length : Nat) : Int) := by rw [wrap64 _ (by omega) (by omega)]; omega
    rcases Nat.lt_trichotomy U.length V.length with hlt | heq | hgt
    · -- i < j
      have hd : (!decide ((U.length : Int) = (V.length : Int))) = true := by simp; omega
      have hd2 : decide ((V.length : Int) < (U.length : Int)) = false := by simp; omega
      have w2 : IntKind.i64.wrap (IntKind.i64.wrap ((m : Int) + (V.length : Int)) - (U.length : Int)) = ((P.length + V.length : Nat) : Int) := by
        rw [wrap64 ((m : Int) + (V.length : Int)) (by omega) (by omega), wrap64 _ (by omega) (by omega)]; omega
      have w3 : IntKind.i64.wrap ((V.length : Int) - (U.length : Int)) = ((V.length - U.length : Nat) : Int) := by rw [wrap64 _ (by omega) (by omega)]; omega
      have e : V = V.take (V.length - U.length) ++ V.drop (V.length - U.length) := (List.take_append_drop _ _).symm
      generalize hV1 : V.take (V.length - U.length) = V1 at e
      generalize hV2 : V.drop (V.length - U.length) = V2 at e
      have l1 : V1.length = V.length - U.length := by rw [← hV1, List.length_take]; omega
      have l2 : V2.length = U.length := by rw [← hV2, List.length_drop]; omega
      have hs := swapG_eq U V2 P V1 S (P.length : Int) ((P.length + V.length : Nat) : Int) (U.length : Int) l2.symm (by omega) rfl (by omega) rfl
      rw [loopC_st (s' := (P ++ V2 ++ V1 ++ (U ++ S), (V2.length : Int), (V1.length : Int)))]
      · rw [ih P V2 V1 (U ++ S) m (by omega) (by intro h0; rw [h0] at l2; simp at l2; omega) (by intro h0; rw [h0] at l1; simp at l1; omega) (by simp; omega) (by omega)]
        rw [e]; simp
      · unfold rotF
        dsimp only
        rw [hd, hd2, w1, w2, w3]
        dsimp only [cond_true, cond_false]
        rw [show P ++ U ++ V ++ S = P ++ U ++ V1 ++ V2 ++ S by rw [e]; simp, hs, l2, l1]
        simp
    · have hd : (!decide ((U.length : Int) = (V.length : Int))) = false := by simp; omega
      rw [loopC_end (a := .inl (P ++ U ++ V ++ S, (U.length : Int), (V.length : Int)))]
      · simp only [Option.bind_some, outK]
        rw [w1, show P ++ U ++ V ++ S = P ++ U ++ [] ++ V ++ S by simp, swapG_eq U V P [] S _ _ _ heq (by simp; omega) rfl (by simp; omega) rfl]
        simp
      · unfold rotF
        dsimp only
        rw [hd]
        simp [inrO]
    · have hd : (!decide ((U.length : Int) = (V.length : Int))) = true := by simp; omega
      have hd2 : decide ((V.length : Int) < (U.length : Int)) = true := by simp; omega
      have w3 : IntKind.i64.wrap ((U.length : Int) - (V.length : Int)) = ((U.length - V.length : Nat) : Int) := by rw [wrap64 _ (by omega) (by omega)]; omega
      have e : U = U.take V.length ++ U.drop V.length := (List.take_append_drop _ _).symm
      generalize hU1 : U.take V.length = U1 at e
      generalize hU2 : U.drop V.length = U2 at e
      have l1 : U1.length = V.length := by rw [← hU1, List.length_take]; omega
      have l2 : U2.length = U.length - V.length := by rw [← hU2, List.length_drop]
      have hs := swapG_eq U1 V P U2 S (P.length : Int) (m : Int) (V.length : Int) l1 (by omega) rfl (by omega) (by omega)
      rw [loopC_st (s' := (P ++ V ++ U2 ++ U1 ++ S, (U2.length : Int), (U1.length : Int)))]
      · rw [ih (P ++ V) U2 U1 S m (by omega) (by intro h0; rw [h0] at l2; simp at l2; omega) (by intro h0; rw [h0] at l1; simp at l1; omega) (by simp; omega) (by simp; omega)]
        rw [e]; simp
      · unfold rotF
        dsimp only
        rw [hd, hd2, w1, w3]
        dsimp only [cond_true, cond_false]
        rw [show P ++ U ++ V ++ S = P ++ U1 ++ U2 ++ V ++ S by rw [e]; simp, hs, l2, l1]
        simp
theorem rotG_eq (P U V S : List α) (a m b : Int) (hU : U ≠ []) (hV : V ≠ []) (hb : (P ++ U ++ V ++ S).length ≤ 1152921504606846976) (ha : a = (P.length : Nat)) (hm : m = ((P.length + U.length : Nat) : Int)) (hbb : b = ((P.length + U.length + V.length : Nat) : Int)) :
    rotG (P ++ U ++ V ++ S) a m b = some ((), P ++ V ++ U ++ S) := by
  have hb' : P.length + U.length + V.length + S.length ≤ 1152921504606846976 := by simpa [Nat.add_assoc] using hb
  unfold rotG
  rw [show IntKind.i64.wrap (m - a) = (U.length : Int) by rw [wrap64 _ (by omega) (by omega)]; omega, show IntKind.i64.wrap (b - m) = (V.length : Int) by rw [wrap64 _ (by omega) (by omega)]; omega, hm]
  exact rotF_loop _ P U V S _ (Nat.le_refl _) hU hV hb rfl

end
end Go.Proofs.YtcnohbiegjahkaaGreatDoor

/-
  Plain laws of the stable sort: insertion, binary search, merge.
-/
namespace Go.Proofs.YtcnohbiegjahkaaGreatDoor
set_option linter.unusedSimpArgs false
set_option linter.unusedVariables false
open Go.RowKit

section
variable {α R : Type}

/-! ### insertion -/
def insI (c : α → α → Option Int) (a : Int) : List α × Int → Option ((List α × Int) ⊕ ((List α × Int) ⊕ ((List α × Int) ⊕ ((List α × Int) ⊕ (Unit × List α))))) := fun t =>
  (andO (decide (a < t.2)) ((getI t.1 t.2).bind fun _ => t.1[t.2.toNat]?.bind fun e => (getI t.1 (IntKind.i64.wrap (t.2 - 1))).bind fun _ => t.1[(IntKind.i64.wrap (t.2 - 1)).toNat]?.bind fun e2 => (c e e2).bind fun x => some (decide (x < 0)))).bind fun v =>
    bif v then swpO t.1 t.2 (IntKind.i64.wrap (t.2 - 1)) (fun L' => some (.inl (L', IntKind.i64.wrap (t.2 - 1)))) else inrO (some (.inl (t.1, t.2)))
noncomputable def insF (c : α → α → Option Int) (a b : Int) : List α × Int → Option ((List α × Int) ⊕ ((List α × Int) ⊕ (Unit × List α))) := fun s =>
  bif decide (s.2 < b) then (loopC (insI c a) (s.1, s.2)).bind (outK fun t => some (.inl (t.1, IntKind.i64.wrap (s.2 + 1)))) else inrO (some (.inl (s.1, s.2)))
noncomputable def insG (c : α → α → Option Int) (L : List α) (a b : Int) : Option (Unit × List α) := (loopC (insF c a b) (L, IntKind.i64.wrap (a + 1))).bind (outK fun s => some ((), s.1))
/-- What the callback says. -/
def Cmp (Q : α → Prop) (c : α → α → Option Int) (lt : α → α → Bool) : Prop := ∀ a b, Q a → Q b → ∃ x, c a b = some x ∧ decide (x < 0) = lt a b
theorem insI_loop {Q : α → Prop} {c : α → α → Option Int} {lt : α → α → Bool} (hc : Cmp Q c lt) (A : List α) (x : α) (hx : Q x) : ∀ (n : Nat) (P T : List α), (∀ y ∈ P, Q y) → P.length ≤ n → A.length + P.length ≤ 1152921504606846976 →
    ∃ P1 P2, P = P1 ++ P2 ∧ loopC (insI c (A.length : Int)) (A ++ P ++ x :: T, ((A.length + P.length : Nat) : Int)) = some (.inl (A ++ P1 ++ x :: (P2 ++ T), ((A.length + P1.length : Nat) : Int))) ∧ (∀ y ∈ P2, lt x y = true) ∧ (P1 = [] ∨ ∃ y, P1[P1.length - 1]? = some y ∧ lt x y = false) := by
  intro n
  induction n with
  | zero =>
    intro P T _ hn hb
    have : P = [] := List.length_eq_zero_iff.1 (by omega)
    subst this
    refine ⟨[], [], rfl, loopC_end ?_, by simp, .inl rfl⟩
    unfold insI
    simp [andO, inrO]
  | succ n ih =>
    intro P T hP hn hb
    rcases List.eq_nil_or_concat P with rfl | ⟨K, y, rfl⟩
    · refine ⟨[], [], rfl, loopC_end ?_, by simp, .inl rfl⟩
      unfold insI
      simp [andO, inrO]
    · rw [List.concat_eq_append] at hP hn hb ⊢
      simp only [List.length_append, List.length_cons, List.length_nil] at hn hb
      obtain ⟨z, hz, hz2⟩ := hc x y hx (hP y (by simp))
      have w1 : IntKind.i64.wrap (((A.length + (K ++ [y]).length : Nat) : Int) - 1) = (((A ++ K).length : Nat) : Int) := by rw [wrap64 _ (by simp; omega) (by simp; omega)]; simp; omega
      have hd : decide ((A.length : Int) < ((A.length + (K ++ [y]).length : Nat) : Int)) = true := by simp; omega
      have e : A ++ (K ++ [y]) ++ x :: T = (A ++ K) ++ y :: ([] ++ x :: T) := by simp
      have e2 : A.length + (K ++ [y]).length = (A ++ K).length + 1 + ([] : List α).length := by simp; omega
      have g1 : ((A ++ K) ++ y :: ([] ++ x :: T))[(A ++ K).length + 1 + ([] : List α).length]? = some x := by
        rw [show (A ++ K) ++ y :: ([] ++ x :: T) = (A ++ K ++ [y]) ++ x :: T by simp, show (A ++ K).length + 1 + ([] : List α).length = (A ++ K ++ [y]).length by simp; omega]; exact get_mid _ _ _
      have g2 := get_mid (A ++ K) ([] ++ x :: T) y
      have hf : insI c (A.length : Int) (A ++ (K ++ [y]) ++ x :: T, ((A.length + (K ++ [y]).length : Nat) : Int)) = bif lt x y then some (.inl (A ++ K ++ x :: (y :: T), (((A ++ K).length : Nat) : Int))) else some (.inr (.inl (A ++ (K ++ [y]) ++ x :: T, ((A.length + (K ++ [y]).length : Nat) : Int)))) := by
        unfold insI
        dsimp only
        rw [hd, w1, e, e2]
        simp only [getI_nat, Int.toNat_natCast, g1, g2, Option.bind_some, hz, hz2, andO, cond_true, swp_dn]
        cases lt x y <;> simp [inrO]
      cases hl : lt x y with
      | true =>
        rw [hl] at hf
        obtain ⟨P1, P2, h1, h2, h3, h4⟩ := ih K (y :: T) (fun z hz => hP z (List.mem_append_left _ hz)) (by omega) (by omega)
        refine ⟨P1, P2 ++ [y], by rw [h1]; simp, ?_, ?_, h4⟩
        · rw [loopC_st hf, List.length_append, h2]; simp
        · intro w hw
          rcases List.mem_append.1 hw with h | h
          · exact h3 w h
          · rw [List.mem_singleton.1 h]; exact hl
      | false =>
        rw [hl] at hf
        refine ⟨K ++ [y], [], by simp, by rw [loopC_end hf]; simp, by simp, .inr ⟨y, ?_, hl⟩⟩
        simp
theorem insF_loop {Q : α → Prop} {c : α → α → Option Int} {lt : α → α → Bool} (O : Ordr lt) (hc : Cmp Q c lt) (A B : List α) : ∀ (T P : List α), (∀ y ∈ P ++ T, Q y) → Srt lt P → A.length + P.length + T.length ≤ 1152921504606846976 →
    ∃ W, loopC (insF c (A.length : Int) ((A.length + P.length + T.length : Nat) : Int)) (A ++ P ++ T ++ B, ((A.length + P.length : Nat) : Int)) = some (.inl (A ++ W ++ B, ((A.length + P.length + T.length : Nat) : Int))) ∧ Srt lt W ∧ SP lt (P ++ T) W := by
  intro T
  induction T with
  | nil =>
    intro P _ hP hb
    refine ⟨P, loopC_end ?_, hP, by simpa using SP.refl lt P⟩
    unfold insF
    simp [inrO]
  | cons x T ih =>
    intro P hQ hP hb
    simp only [List.length_cons] at hb
    obtain ⟨P1, P2, h1, h2, h3, h4⟩ := insI_loop hc A x (hQ x (by simp)) P.length P (T ++ B) (fun y hy => hQ y (List.mem_append_left _ hy)) (Nat.le_refl _) (by omega)
    have hP' : Srt lt P1 ∧ Srt lt P2 ∧ ∀ a ∈ P1, ∀ b ∈ P2, lt b a = false := srt_app.1 (h1 ▸ hP)
    have h5 : ∀ y ∈ P1, lt x y = false := by
      have := take_all (k := P1.length) hP'.1 (P := fun y => lt x y = false) O (fun v v' h g => O.tr v' v x h g) (by
        rcases h4 with h | h
        · exact .inl (by rw [h]; rfl)
        · exact .inr h)
      rwa [List.take_length] at this
    have hs : Srt lt (P1 ++ x :: P2) := by
      refine srt_app.2 ⟨hP'.1, List.pairwise_cons.2 ⟨fun y hy => O.asym _ _ (h3 y hy), hP'.2.1⟩, fun a ha b hb => ?_⟩
      rcases List.mem_cons.1 hb with rfl | hb
      · exact h5 a ha
      · exact hP'.2.2 a ha b hb
    have hsp : SP lt (P ++ [x]) (P1 ++ x :: P2) := by
      rw [h1, List.append_assoc]
      exact (SP.refl lt P1).app (SP.swap O (fun u hu v hv => by rw [List.mem_singleton.1 hv]; exact h3 u hu))
    have hQ' : ∀ y ∈ (P1 ++ x :: P2) ++ T, Q y := by
      intro y hy
      rcases List.mem_append.1 hy with h | h
      · rcases List.mem_append.1 (hsp.1.mem_iff.2 h) with h | h
        · exact hQ y (List.mem_append_left _ h)
        · exact hQ y (by rw [List.mem_singleton.1 h]; simp)
      · exact hQ y (by simp [h])
    obtain ⟨W, g1, g2, g3⟩ := ih (P1 ++ x :: P2) hQ' hs (by rw [show (P1 ++ x :: P2).length = P.length + 1 by rw [h1]; simp; omega]; omega)
    have l1 : (P1 ++ x :: P2).length = P.length + 1 := by rw [h1]; simp; omega
    refine ⟨W, ?_, g2, ?_⟩
    · rw [l1] at g1
      rw [loopC_st (s' := (A ++ (P1 ++ x :: P2) ++ T ++ B, ((A.length + (P.length + 1) : Nat) : Int)))]
      · rw [show A.length + P.length + (x :: T).length = A.length + (P.length + 1) + T.length by simp; omega]
        exact g1
      · have w1 : IntKind.i64.wrap (((A.length + P.length : Nat) : Int) + 1) = ((A.length + (P.length + 1) : Nat) : Int) := by rw [wrap64 _ (by omega) (by omega)]; omega
        have hd : decide (((A.length + P.length : Nat) : Int) < ((A.length + P.length + (x :: T).length : Nat) : Int)) = true := by simp; omega
        unfold insF
        dsimp only
        rw [hd, w1, show A ++ P ++ x :: T ++ B = A ++ P ++ x :: (T ++ B) by simp, h2]
        simp [outK]
    · refine SP.trans ?_ g3
      rw [show P ++ x :: T = (P ++ [x]) ++ T by simp]
      exact hsp.app (SP.refl lt T)
theorem insG_eq {Q : α → Prop} {c : α → α → Option Int} {lt : α → α → Bool} (O : Ordr lt) (hc : Cmp Q c lt) (A U B : List α) (hQ : ∀ u ∈ U, Q u) (a b : Int) (ha : a = (A.length : Nat)) (hb : b = ((A.length + U.length : Nat) : Int)) (hl : A.length + U.length ≤ 1152921504606846976) :
    ∃ W, insG c (A ++ U ++ B) a b = some ((), A ++ W ++ B) ∧ Srt lt W ∧ SP lt U W := by
  subst ha hb
  unfold insG
  have w1 : IntKind.i64.wrap ((A.length : Int) + 1) = ((A.length + 1 : Nat) : Int) := by rw [wrap64 _ (by omega) (by omega)]; omega
  cases U with
  | nil =>
    refine ⟨[], ?_, List.Pairwise.nil, SP.refl _ _⟩
    rw [w1, loopC_end (a := .inl (A ++ [] ++ B, ((A.length + 1 : Nat) : Int)))]
    · rfl
    · unfold insF
      have hd : decide (((A.length + 1 : Nat) : Int) < ((A.length + ([] : List α).length : Nat) : Int)) = false := by simp; omega
      dsimp only
      rw [hd]
      rfl
  | cons u T =>
    obtain ⟨W, g1, g2, g3⟩ := insF_loop O hc A B T [u] hQ (srt_one lt u) (by simp at hl ⊢; omega)
    refine ⟨W, ?_, g2, g3⟩
    rw [w1, show A ++ u :: T ++ B = A ++ [u] ++ T ++ B by simp, show A.length + 1 = A.length + [u].length from rfl, show A.length + (u :: T).length = A.length + [u].length + T.length by simp; omega, g1]
    rfl

/-! ### binary search -/
def cmpAt (c : α → α → Option Int) (L : List α) (i j : Int) (k : Int → Option R) : Option R :=
  (getI L i).bind fun _ => L[i.toNat]?.bind fun e => (getI L j).bind fun _ => L[j.toNat]?.bind fun e2 => (c e e2).bind k
theorem cmpAt_eq {Q : α → Prop} {c : α → α → Option Int} {lt : α → α → Bool} (hc : Cmp Q c lt) {L : List α} {i j : Nat} {x y : α} (hx : Q x) (hy : Q y) (hi : L[i]? = some x) (hj : L[j]? = some y) : ∃ z, (∀ {R : Type} (k : Int → Option R), cmpAt c L (i : Int) (j : Int) k = k z) ∧ decide (z < 0) = lt x y := by
  obtain ⟨z, hz, hz2⟩ := hc x y hx hy
  refine ⟨z, fun k => ?_, hz2⟩
  unfold cmpAt
  simp only [getI_nat, Int.toNat_natCast, hi, hj, hz, Option.bind_some]
def midI (i j : Int) : Int := IntKind.i64.wrap (IntKind.u64.wrap (IntKind.i64.wrap (i + j)) / 2)
theorem midI_eq (i j : Nat) (h : i + j ≤ 4611686018427387904) : midI (i : Int) (j : Int) = (((i + j) / 2 : Nat) : Int) := by
  unfold midI
  rw [wrap64 ((i : Int) + (j : Int)) (by omega) (by omega), show ((i : Int) + (j : Int)) = ((i + j : Nat) : Int) by omega, IntKind.wrap_u64]
  rw [wrap64 _ (by omega) (by omega)]
  omega
noncomputable def bsF (c : α → α → Option Int) (L : List α) (I J : Int → Int) (T : Int → Bool) : Int × Int → Option ((Int × Int) ⊕ ((Int × Int) ⊕ R)) := fun s =>
  bif decide (s.1 < s.2) then thenO (shO .u64 1) (cmpAt c L (I (midI s.1 s.2)) (J (midI s.1 s.2)) fun x => bif T x then some (.inl (IntKind.i64.wrap (midI s.1 s.2 + 1), s.2)) else some (.inl (s.1, midI s.1 s.2))) else inrO (some (.inl (s.1, s.2)))
theorem bs_law {c : α → α → Option Int} {L : List α} {I J : Int → Int} {T : Int → Bool} (q : Nat → Bool) (lo hi : Nat) (hh : hi ≤ 1152921504606846976)
    (hq : ∀ h, lo ≤ h → h < hi → ∃ z, (∀ {R : Type} (k : Int → Option R), cmpAt c L (I (h : Int)) (J (h : Int)) k = k z) ∧ T z = q h) : ∀ (n i j : Nat), j - i ≤ n → lo ≤ i → i ≤ j → j ≤ hi → (i = lo ∨ q (i - 1) = true) → (j = hi ∨ q j = false) →
    ∃ r, lo ≤ r ∧ r ≤ hi ∧ loopC (bsF (R := R) c L I J T) ((i : Int), (j : Int)) = some (.inl ((r : Int), (r : Int))) ∧ (r = lo ∨ q (r - 1) = true) ∧ (r = hi ∨ q r = false) := by
  intro n
  induction n with
  | zero =>
    intro i j hn h1 h2 h3 h4 h5
    have : i = j := by omega
    subst this
    refine ⟨i, h1, h3, loopC_end ?_, h4, h5⟩
    unfold bsF
    simp [inrO]
  | succ n ih =>
    intro i j hn h1 h2 h3 h4 h5
    rcases Nat.lt_or_eq_of_le h2 with hlt | rfl
    · have hd : decide ((i : Int) < (j : Int)) = true := by simp; omega
      have hm := midI_eq i j (by omega)
      obtain ⟨z, hz, hz2⟩ := hq ((i + j) / 2) (by omega) (by omega)
      have w1 : IntKind.i64.wrap ((((i + j) / 2 : Nat) : Int) + 1) = (((i + j) / 2 + 1 : Nat) : Int) := wrapN _ (by omega)
      have hf : bsF (R := R) c L I J T ((i : Int), (j : Int)) = bif q ((i + j) / 2) then some (.inl ((((i + j) / 2 + 1 : Nat) : Int), (j : Int))) else some (.inl ((i : Int), (((i + j) / 2 : Nat) : Int))) := by
        unfold bsF
        dsimp only
        rw [hd, hm, w1]
        dsimp only [cond_true]
        rw [hz, hz2]
        rfl
      cases hq2 : q ((i + j) / 2) with
      | true =>
        rw [hq2] at hf
        obtain ⟨r, g1, g2, g3, g4⟩ := ih ((i + j) / 2 + 1) j (by omega) (by omega) (by omega) h3 (.inr (by simpa using hq2)) h5
        exact ⟨r, g1, g2, by rw [loopC_st hf]; exact g3, g4⟩
      | false =>
        rw [hq2] at hf
        obtain ⟨r, g1, g2, g3, g4⟩ := ih i ((i + j) / 2) (by omega) h1 (by omega) (by omega) h4 (.inr hq2)
        exact ⟨r, g1, g2, by rw [loopC_st hf]; exact g3, g4⟩
    · refine ⟨i, h1, h3, loopC_end ?_, h4, h5⟩
      unfold bsF
      simp [inrO]

/-! ### one entry moved -/
noncomputable def upF (i : Int) : List α × Int → Option ((List α × Int) ⊕ ((List α × Int) ⊕ (Unit × List α))) := fun s =>
  bif decide (s.2 < IntKind.i64.wrap (i - 1)) then swpO s.1 s.2 (IntKind.i64.wrap (s.2 + 1)) (fun L' => some (.inl (L', IntKind.i64.wrap (s.2 + 1)))) else inrO (some (.inl (s.1, s.2)))
theorem upF_loop (x : α) (B : List α) : ∀ (V A : List α) (i : Nat), A.length + V.length ≤ 1152921504606846976 → i = A.length + V.length + 1 → loopC (upF (i : Int)) (A ++ x :: V ++ B, (A.length : Int)) = some (.inl (A ++ V ++ x :: B, ((i - 1 : Nat) : Int))) := by
  intro V
  induction V with
  | nil =>
    intro A i hb hi
    subst hi
    have w : IntKind.i64.wrap (((A.length + ([] : List α).length + 1 : Nat) : Int) - 1) = (A.length : Int) := by
      rw [List.length_nil] at *
      rw [wrap64 _ (by omega) (by omega)]; omega
    refine loopC_end ?_
    unfold upF
    dsimp only
    rw [w]
    simp [inrO]
  | cons v V ih =>
    intro A i hb hi
    simp only [List.length_cons] at hb hi
    have w : IntKind.i64.wrap ((i : Int) - 1) = ((A.length + V.length + 1 : Nat) : Int) := by rw [wrap64 _ (by omega) (by omega)]; omega
    have hd : decide ((A.length : Int) < ((A.length + V.length + 1 : Nat) : Int)) = true := by simp; omega
    have w2 : IntKind.i64.wrap ((A.length : Int) + 1) = ((A.length + 1 + ([] : List α).length : Nat) : Int) := by rw [wrap64 _ (by omega) (by omega)]; simp
    rw [loopC_st (s' := ((A ++ [v]) ++ x :: V ++ B, ((A ++ [v]).length : Int)))]
    · rw [ih (A ++ [v]) i (by simp; omega) (by simp; omega)]
      simp
    · unfold upF
      dsimp only
      rw [w, hd, w2]
      dsimp only [cond_true]
      rw [show A ++ x :: v :: V ++ B = A ++ x :: ([] ++ v :: (V ++ B)) by simp, swp_up]
      simp
noncomputable def dnF (i : Int) : List α × Int → Option ((List α × Int) ⊕ ((List α × Int) ⊕ (Unit × List α))) := fun s =>
  bif decide (i < s.2) then swpO s.1 s.2 (IntKind.i64.wrap (s.2 - 1)) (fun L' => some (.inl (L', IntKind.i64.wrap (s.2 - 1)))) else inrO (some (.inl (s.1, s.2)))
theorem dnF_loop (y : α) (A : List α) : ∀ (n : Nat) (U B : List α), U.length ≤ n → A.length + U.length ≤ 1152921504606846976 → loopC (dnF (A.length : Int)) (A ++ U ++ y :: B, ((A.length + U.length : Nat) : Int)) = some (.inl (A ++ y :: U ++ B, (A.length : Int))) := by
  intro n
  induction n with
  | zero =>
    intro U B hn hb
    have : U = [] := List.length_eq_zero_iff.1 (by omega)
    subst this
    refine loopC_end ?_
    unfold dnF
    simp [inrO]
  | succ n ih =>
    intro U B hn hb
    rcases List.eq_nil_or_concat U with rfl | ⟨Q, u, rfl⟩
    · refine loopC_end ?_
      unfold dnF
      simp [inrO]
    · rw [List.concat_eq_append] at hn hb ⊢
      simp only [List.length_append, List.length_cons, List.length_nil] at hn hb
      have hd : decide ((A.length : Int) < ((A.length + (Q ++ [u]).length : Nat) : Int)) = true := by simp; omega
      have w1 : IntKind.i64.wrap (((A.length + (Q ++ [u]).length : Nat) : Int) - 1) = (((A ++ Q).length : Nat) : Int) := by rw [wrap64 _ (by simp; omega) (by simp; omega)]; simp; omega
      rw [loopC_st (s' := (A ++ Q ++ y :: (u :: B), ((A.length + Q.length : Nat) : Int)))]
      · rw [ih Q (u :: B) (by omega) (by omega)]
        simp
      · unfold dnF
        dsimp only
        rw [hd, w1, show A ++ (Q ++ [u]) ++ y :: B = (A ++ Q) ++ u :: ([] ++ y :: B) by simp, show A.length + (Q ++ [u]).length = (A ++ Q).length + 1 + ([] : List α).length by simp; omega]
        dsimp only [cond_true]
        rw [swp_dn]
        simp
end
end Go.Proofs.YtcnohbiegjahkaaGreatDoor

/-
  Plain laws of the stable sort: the merge in place.
-/
namespace Go.Proofs.YtcnohbiegjahkaaGreatDoor
set_option linter.unusedSimpArgs false
set_option linter.unusedVariables false
open Go.RowKit

section
variable {α : Type}

noncomputable def tailG (rec : List α → Int → Int → Int → Option (Unit × List α)) (L : List α) (a s mid e b : Int) : Option (Unit × List α) :=
  (andO (decide (a < s)) (some (decide (s < mid)))).bind fun v => bif v then (rec L a s mid).bind fun y => (andO (decide (mid < e)) (some (decide (e < b)))).bind fun v => bif v then (rec y.2 mid e b).bind fun y => some ((), y.2) else some ((), y.2)
    else (andO (decide (mid < e)) (some (decide (e < b)))).bind fun v => bif v then (rec L mid e b).bind fun y => some ((), y.2) else some ((), L)
noncomputable def symK (rec : List α → Int → Int → Int → Option (Unit × List α)) (L : List α) (a m b : Int) : Int × Int → Option (Unit × List α) := fun s =>
  (andO (decide (s.1 < m)) (some (decide (m < IntKind.i64.wrap (IntKind.i64.wrap (midI a b + m) - s.1))))).bind fun v => bif v then (rotG L s.1 m (IntKind.i64.wrap (IntKind.i64.wrap (midI a b + m) - s.1))).bind fun y => tailG rec y.2 a s.1 (midI a b) (IntKind.i64.wrap (IntKind.i64.wrap (midI a b + m) - s.1)) b
    else tailG rec L a s.1 (midI a b) (IntKind.i64.wrap (IntKind.i64.wrap (midI a b + m) - s.1)) b
noncomputable def symS (c : α → α → Option Int) (rec : List α → Int → Int → Int → Option (Unit × List α)) (L : List α) (a m b : Int) : Option (Unit × List α) :=
  bif decide (IntKind.i64.wrap (m - a) = 1) then (loopC (bsF c L (fun h => h) (fun _ => a) (fun x => decide (x < 0))) (m, b)).bind (outK fun s => (loopC (upF s.1) (L, a)).bind (outK fun s => some ((), s.1)))
  else bif decide (IntKind.i64.wrap (b - m) = 1) then (loopC (bsF c L (fun _ => m) (fun h => h) (fun x => !decide (x < 0))) (a, m)).bind (outK fun s => (loopC (dnF s.1) (L, m)).bind (outK fun s => some ((), s.1)))
  else thenO (shO .u64 1) (bif decide (midI a b < m) then (loopC (bsF c L (fun h => IntKind.i64.wrap (IntKind.i64.wrap (IntKind.i64.wrap (midI a b + m) - 1) - h)) (fun h => h) (fun x => !decide (x < 0))) (IntKind.i64.wrap (IntKind.i64.wrap (midI a b + m) - b), midI a b)).bind (outK (symK rec L a m b))
    else (loopC (bsF c L (fun h => IntKind.i64.wrap (IntKind.i64.wrap (IntKind.i64.wrap (midI a b + m) - 1) - h)) (fun h => h) (fun x => !decide (x < 0))) (a, m)).bind (outK (symK rec L a m b)))
noncomputable def symG (c : α → α → Option Int) : Nat → List α → Int → Int → Int → Option (Unit × List α)
  | 0 => fun _ _ _ _ => none
  | fu + 1 => symS c (symG c fu)

theorem get_U (A U V B : List α) (k : Nat) (h : k < U.length) : (A ++ U ++ V ++ B)[A.length + k]? = U[k]? := by
  rw [List.append_assoc, List.append_assoc, List.getElem?_append_right (by omega), show A.length + k - A.length = k by omega, List.getElem?_append_left h]
theorem get_V (A U V B : List α) (k : Nat) (h : k < V.length) : (A ++ U ++ V ++ B)[A.length + U.length + k]? = V[k]? := by
  rw [List.append_assoc, List.getElem?_append_right (by simp), List.length_append, show A.length + U.length + k - (A.length + U.length) = k by omega, List.getElem?_append_left h]

/-- What the recursion gives on parts of this size. -/
def RecOk (Q : α → Prop) (lt : α → α → Bool) (n : Nat) (rec : List α → Int → Int → Int → Option (Unit × List α)) : Prop := ∀ A U V B : List α, U ≠ [] → V ≠ [] → (∀ u ∈ U, Q u) → (∀ v ∈ V, Q v) → Srt lt U → Srt lt V → U.length + V.length ≤ n → A.length + U.length + V.length + B.length ≤ 1152921504606846976 →
  ∃ W, rec (A ++ U ++ V ++ B) ((A.length : Nat) : Int) ((A.length + U.length : Nat) : Int) ((A.length + U.length + V.length : Nat) : Int) = some ((), A ++ W ++ B) ∧ Srt lt W ∧ SP lt (U ++ V) W

theorem andO_sm (x y : Bool) : andO x (some y) = some (x && y) := by cases x <;> rfl
theorem half_law {Q : α → Prop} {lt : α → α → Bool} {n : Nat} {rec : List α → Int → Int → Int → Option (Unit × List α)} (hr : RecOk Q lt n rec) (A U V B : List α) (qU : ∀ u ∈ U, Q u) (qV : ∀ v ∈ V, Q v) (hU : Srt lt U) (hV : Srt lt V) (hn : U.length + V.length ≤ n) (hb : A.length + U.length + V.length + B.length ≤ 1152921504606846976) (k : Unit × List α → Option (Unit × List α)) (K : Option (Unit × List α))
    (hK : K = k ((), A ++ U ++ V ++ B)) :
    ∃ W, ((andO (decide (((A.length : Nat) : Int) < ((A.length + U.length : Nat) : Int))) (some (decide (((A.length + U.length : Nat) : Int) < ((A.length + U.length + V.length : Nat) : Int))))).bind fun v => bif v then (rec (A ++ U ++ V ++ B) ((A.length : Nat) : Int) ((A.length + U.length : Nat) : Int) ((A.length + U.length + V.length : Nat) : Int)).bind k else K) = k ((), A ++ W ++ B) ∧ Srt lt W ∧ SP lt (U ++ V) W := by
  rw [andO_sm, Option.bind_some]
  cases U with
  | nil =>
    refine ⟨V, ?_, hV, SP.refl _ _⟩
    have : decide (((A.length : Nat) : Int) < ((A.length + ([] : List α).length : Nat) : Int)) = false := by simp
    rw [this, hK]; simp
  | cons u U =>
    cases V with
    | nil =>
      refine ⟨u :: U, ?_, hU, by simpa using SP.refl lt (u :: U)⟩
      have : decide (((A.length + (u :: U).length : Nat) : Int) < ((A.length + (u :: U).length + ([] : List α).length : Nat) : Int)) = false := by simp
      rw [this, hK]; simp
    | cons v V =>
      obtain ⟨W, h1, h2⟩ := hr A (u :: U) (v :: V) B (by simp) (by simp) qU qV hU hV hn hb
      refine ⟨W, ?_, h2⟩
      have e1 : decide (((A.length : Nat) : Int) < ((A.length + (u :: U).length : Nat) : Int)) = true := by simp; omega
      have e2 : decide (((A.length + (u :: U).length : Nat) : Int) < ((A.length + (u :: U).length + (v :: V).length : Nat) : Int)) = true := by simp; omega
      rw [e1, e2, h1]; rfl
theorem tail_law {Q : α → Prop} {lt : α → α → Bool} {n : Nat} {rec : List α → Int → Int → Int → Option (Unit × List α)} (hr : RecOk Q lt n rec) (A U1 V1 U2 V2 B : List α) (q1 : ∀ u ∈ U1, Q u) (q2 : ∀ u ∈ V1, Q u) (q3 : ∀ u ∈ U2, Q u) (q4 : ∀ u ∈ V2, Q u) (h1 : Srt lt U1) (h2 : Srt lt V1) (h3 : Srt lt U2) (h4 : Srt lt V2) (hn1 : U1.length + V1.length ≤ n) (hn2 : U2.length + V2.length ≤ n)
    (hb : A.length + U1.length + V1.length + U2.length + V2.length + B.length ≤ 1152921504606846976) (a s mid e b : Int) (ha : a = (A.length : Nat)) (hs : s = ((A.length + U1.length : Nat) : Int)) (hm : mid = ((A.length + U1.length + V1.length : Nat) : Int)) (he : e = ((A.length + U1.length + V1.length + U2.length : Nat) : Int)) (hbb : b = ((A.length + U1.length + V1.length + U2.length + V2.length : Nat) : Int)) :
    ∃ W1 W2, tailG rec (A ++ U1 ++ V1 ++ U2 ++ V2 ++ B) a s mid e b = some ((), A ++ W1 ++ W2 ++ B) ∧ Srt lt W1 ∧ SP lt (U1 ++ V1) W1 ∧ Srt lt W2 ∧ SP lt (U2 ++ V2) W2 := by
  obtain ⟨W1, g1, g2, g3⟩ := half_law hr A U1 V1 (U2 ++ V2 ++ B) q1 q2 h1 h2 hn1 (by simp; omega) (fun y => (andO (decide (mid < e)) (some (decide (e < b)))).bind fun v => bif v then (rec y.2 mid e b).bind fun y => some ((), y.2) else some ((), y.2))
    ((andO (decide (mid < e)) (some (decide (e < b)))).bind fun v => bif v then (rec (A ++ U1 ++ V1 ++ (U2 ++ V2 ++ B)) mid e b).bind fun y => some ((), y.2) else some ((), A ++ U1 ++ V1 ++ (U2 ++ V2 ++ B))) rfl
  have l1 : W1.length = U1.length + V1.length := by rw [← g3.1.length_eq, List.length_append]
  obtain ⟨W2, k1, k2, k3⟩ := half_law hr (A ++ W1) U2 V2 B q3 q4 h3 h4 hn2 (by rw [List.length_append]; omega) (fun y => some ((), y.2)) (some ((), A ++ W1 ++ U2 ++ V2 ++ B)) rfl
  refine ⟨W1, W2, ?_, g2, g3, k2, k3⟩
  unfold tailG
  have e0 : A ++ U1 ++ V1 ++ U2 ++ V2 ++ B = A ++ U1 ++ V1 ++ (U2 ++ V2 ++ B) := by simp
  rw [e0]
  rw [← hs, ← hm, ← ha] at g1
  rw [g1]
  rw [show (A ++ W1).length + U2.length = A.length + U1.length + V1.length + U2.length by rw [List.length_append]; omega, show (A ++ W1).length = A.length + U1.length + V1.length by rw [List.length_append]; omega, ← he, ← hm, ← hbb] at k1
  rw [show A ++ W1 ++ (U2 ++ V2 ++ B) = A ++ W1 ++ U2 ++ V2 ++ B by simp]
  exact k1

theorem merge_srt {lt : α → α → Bool} (O : Ordr lt) {U V W1 W2 : List α} {k l : Nat} (hU : Srt lt U) (hV : Srt lt V)
    (c1 : k = 0 ∨ V.length ≤ l ∨ ∃ u v, U[k - 1]? = some u ∧ V[l]? = some v ∧ lt v u = false) (c2 : l = 0 ∨ U.length ≤ k ∨ ∃ u v, V[l - 1]? = some v ∧ U[k]? = some u ∧ lt v u = true)
    (h1 : Srt lt W1) (h2 : SP lt (U.take k ++ V.take l) W1) (h3 : Srt lt W2) (h4 : SP lt (U.drop k ++ V.drop l) W2) : Srt lt (W1 ++ W2) ∧ SP lt (U ++ V) (W1 ++ W2) := by
  have d1 : ∀ u ∈ U.take k, ∀ v ∈ V.drop l, lt v u = false := by
    rcases c1 with rfl | h | ⟨u, v, g1, g2, g3⟩
    · simp
    · rw [List.drop_eq_nil_of_le h]; simp
    · intro u' hu'
      have a1 : lt v u' = false := take_all hU (P := fun w => lt v w = false) O (fun w w' h g => O.tr w' w v h g) (.inr ⟨u, g1, g3⟩) u' hu'
      exact drop_all hV (P := fun w => lt w u' = false) (fun w w' h g => O.tr u' w w' g h) (.inr ⟨v, g2, a1⟩)
  have d2 : ∀ u ∈ U.drop k, ∀ v ∈ V.take l, lt v u = true := by
    rcases c2 with rfl | h | ⟨u, v, g1, g2, g3⟩
    · simp
    · rw [List.drop_eq_nil_of_le h]; simp
    · intro u' hu'
      have a1 : lt v u' = true := drop_all hU (P := fun w => lt v w = true) (fun w w' h g => O.lt_right h g) (.inr ⟨u, g2, g3⟩) u' hu'
      exact take_all hV (P := fun w => lt w u' = true) O (fun w w' h g => O.lt_left h g) (.inr ⟨v, g1, a1⟩)
  have sU : Srt lt (U.take k ++ U.drop k) := by rwa [List.take_append_drop]
  have sV : Srt lt (V.take l ++ V.drop l) := by rwa [List.take_append_drop]
  have pU := (srt_app.1 sU).2.2
  have pV := (srt_app.1 sV).2.2
  refine ⟨srt_app.2 ⟨h1, h3, fun a ha b hb => ?_⟩, ?_⟩
  · rcases List.mem_append.1 (h2.1.symm.subset ha) with ha | ha <;> rcases List.mem_append.1 (h4.1.symm.subset hb) with hb | hb
    · exact pU a ha b hb
    · exact d1 a ha b hb
    · exact O.asym _ _ (d2 b hb a ha)
    · exact pV a ha b hb
  · have e : U ++ V = U.take k ++ (U.drop k ++ V.take l) ++ V.drop l := by
      rw [← List.append_assoc, List.take_append_drop, List.append_assoc, List.take_append_drop]
    rw [e]
    refine ((SP.refl lt (U.take k)).app (SP.swap O d2)).app (SP.refl lt (V.drop l)) |>.trans ?_
    rw [show U.take k ++ (V.take l ++ U.drop k) ++ V.drop l = (U.take k ++ V.take l) ++ (U.drop k ++ V.drop l) by simp]
    exact h2.app h4

theorem sym_three {Q : α → Prop} {lt : α → α → Bool} (O : Ordr lt) {n : Nat} {rec : List α → Int → Int → Int → Option (Unit × List α)} (hr : RecOk Q lt n rec) (A U V B : List α) (qU : ∀ u ∈ U, Q u) (qV : ∀ v ∈ V, Q v) (hU : Srt lt U) (hV : Srt lt V) (hb : A.length + U.length + V.length + B.length ≤ 1152921504606846976) (r : Nat) (k l : Nat)
    (hk : r = A.length + k) (hk2 : k ≤ U.length) (hl2 : l ≤ V.length) (hkl : A.length + k + l = (A.length + (A.length + U.length + V.length)) / 2) (hn : U.length + V.length ≤ 2 * n)
    (c1 : k = 0 ∨ V.length ≤ l ∨ ∃ u v, U[k - 1]? = some u ∧ V[l]? = some v ∧ lt v u = false) (c2 : l = 0 ∨ U.length ≤ k ∨ ∃ u v, V[l - 1]? = some v ∧ U[k]? = some u ∧ lt v u = true) :
    ∃ W, symK rec (A ++ U ++ V ++ B) ((A.length : Nat) : Int) ((A.length + U.length : Nat) : Int) ((A.length + U.length + V.length : Nat) : Int) ((r : Int), (r : Int)) = some ((), A ++ W ++ B) ∧ Srt lt W ∧ SP lt (U ++ V) W := by
  have lU1 : (U.take k).length = k := by rw [List.length_take]; omega
  have lU2 : (U.drop k).length = U.length - k := List.length_drop
  have lV1 : (V.take l).length = l := by rw [List.length_take]; omega
  have lV2 : (V.drop l).length = V.length - l := List.length_drop
  have sU : Srt lt (U.take k ++ U.drop k) := by rwa [List.take_append_drop]
  have sV : Srt lt (V.take l ++ V.drop l) := by rwa [List.take_append_drop]
  have wm : midI ((A.length : Nat) : Int) ((A.length + U.length + V.length : Nat) : Int) = ((A.length + k + l : Nat) : Int) := by rw [midI_eq _ _ (by omega), hkl]
  have we : IntKind.i64.wrap (IntKind.i64.wrap (((A.length + k + l : Nat) : Int) + ((A.length + U.length : Nat) : Int)) - (r : Int)) = ((A.length + U.length + l : Nat) : Int) := by
    rw [wrap64 (((A.length + k + l : Nat) : Int) + ((A.length + U.length : Nat) : Int)) (by omega) (by omega), wrap64 _ (by omega) (by omega)]; omega
  obtain ⟨W1, W2, t1, t2, t3, t4, t5⟩ := tail_law hr A (U.take k) (V.take l) (U.drop k) (V.drop l) B (fun u h => qU u (List.mem_of_mem_take h)) (fun u h => qV u (List.mem_of_mem_take h)) (fun u h => qU u (List.mem_of_mem_drop h)) (fun u h => qV u (List.mem_of_mem_drop h)) (srt_app.1 sU).1 (srt_app.1 sV).1 (srt_app.1 sU).2.1 (srt_app.1 sV).2.1 (by omega) (by omega) (by omega)
    ((A.length : Nat) : Int) (r : Int) ((A.length + k + l : Nat) : Int) ((A.length + U.length + l : Nat) : Int) ((A.length + U.length + V.length : Nat) : Int) rfl (by omega) (by omega) (by omega) (by omega)
  obtain ⟨m1, m2⟩ := merge_srt O hU hV c1 c2 t2 t3 t4 t5
  refine ⟨W1 ++ W2, ?_, m1, m2⟩
  unfold symK
  dsimp only
  rw [wm, we, andO_sm, Option.bind_some, show A ++ (W1 ++ W2) ++ B = A ++ W1 ++ W2 ++ B by simp, ← t1]
  have e0 : A ++ U ++ V ++ B = (A ++ U.take k) ++ U.drop k ++ V.take l ++ (V.drop l ++ B) := by
    have e9 : A ++ U ++ V ++ B = A ++ (U.take k ++ U.drop k) ++ (V.take l ++ V.drop l) ++ B := by rw [List.take_append_drop, List.take_append_drop]
    rw [e9]; simp only [List.append_assoc]
  by_cases hc : k < U.length ∧ 0 < l
  · have e1 : decide ((r : Int) < ((A.length + U.length : Nat) : Int)) = true := by simp; omega
    have e2 : decide (((A.length + U.length : Nat) : Int) < ((A.length + U.length + l : Nat) : Int)) = true := by simp; omega
    rw [e1, e2, e0, rotG_eq (A ++ U.take k) (U.drop k) (V.take l) (V.drop l ++ B) _ _ _ (by intro h0; rw [h0] at lU2; simp at lU2; omega) (by intro h0; rw [h0] at lV1; simp at lV1; omega) (by simp only [List.length_append]; omega) (by rw [List.length_append]; omega) (by rw [List.length_append]; omega) (by rw [List.length_append]; omega)]
    simp
  · have e1 : (decide ((r : Int) < ((A.length + U.length : Nat) : Int)) && decide (((A.length + U.length : Nat) : Int) < ((A.length + U.length + l : Nat) : Int))) = false := by
      rw [Bool.and_eq_false_iff, decide_eq_false_iff_not, decide_eq_false_iff_not]; omega
    rw [e1, e0]
    have e2 : (A ++ U.take k) ++ U.drop k ++ V.take l ++ (V.drop l ++ B) = A ++ U.take k ++ V.take l ++ U.drop k ++ V.drop l ++ B := by
      rcases Nat.eq_zero_or_pos l with rfl | hl
      · simp
      · rw [List.drop_eq_nil_of_le (show U.length ≤ k by omega)]; simp only [List.append_assoc, List.nil_append]
    rw [e2]; rfl
end
end Go.Proofs.YtcnohbiegjahkaaGreatDoor

/-
  Plain laws of the stable sort: the merge by recursion; blocks; the whole.
-/
namespace Go.Proofs.YtcnohbiegjahkaaGreatDoor
set_option linter.unusedSimpArgs false
set_option linter.unusedVariables false
open Go.RowKit

section
variable {α : Type}

theorem sym_bs {Q : α → Prop} {c : α → α → Option Int} {lt : α → α → Bool} (O : Ordr lt) (hc : Cmp Q c lt) {n : Nat} {rec : List α → Int → Int → Int → Option (Unit × List α)} (hr : RecOk Q lt n rec) (A U V B : List α) (qU : ∀ u ∈ U, Q u) (qV : ∀ v ∈ V, Q v) (hU : Srt lt U) (hV : Srt lt V) (hb : A.length + U.length + V.length + B.length ≤ 1152921504606846976) (hn : U.length + V.length ≤ 2 * n)
    (lo hi mid : Nat) (hmid : mid = (A.length + (A.length + U.length + V.length)) / 2) (h1 : A.length ≤ lo) (h2 : lo ≤ hi) (h3 : hi ≤ A.length + U.length) (h4 : hi ≤ mid) (h5 : mid + (A.length + U.length) ≤ A.length + U.length + V.length + lo) (h6 : lo = A.length ∨ mid + (A.length + U.length) = A.length + U.length + V.length + lo) (h7 : hi = A.length + U.length ∨ hi = mid) :
    ∃ W, (loopC (bsF c (A ++ U ++ V ++ B) (fun h => IntKind.i64.wrap (IntKind.i64.wrap (IntKind.i64.wrap (midI ((A.length : Nat) : Int) ((A.length + U.length + V.length : Nat) : Int) + ((A.length + U.length : Nat) : Int)) - 1) - h)) (fun h => h) (fun x => !decide (x < 0))) ((lo : Int), (hi : Int))).bind (outK (symK rec (A ++ U ++ V ++ B) ((A.length : Nat) : Int) ((A.length + U.length : Nat) : Int) ((A.length + U.length + V.length : Nat) : Int))) = some ((), A ++ W ++ B) ∧ Srt lt W ∧ SP lt (U ++ V) W := by
  have wm : midI ((A.length : Nat) : Int) ((A.length + U.length + V.length : Nat) : Int) = ((mid : Nat) : Int) := by rw [midI_eq _ _ (by omega), hmid]
  let q : Nat → Bool := fun h => match U[h - A.length]?, V[mid - 1 - h]? with
    | some u, some v => !lt v u
    | _, _ => true
  have hx : ∀ h, lo ≤ h → h < hi → ∃ u v, U[h - A.length]? = some u ∧ V[mid - 1 - h]? = some v ∧ q h = !lt v u := by
    intro h g1 g2
    have a1 : h - A.length < U.length := by omega
    have a2 : mid - 1 - h < V.length := by omega
    refine ⟨_, _, List.getElem?_eq_getElem a1, List.getElem?_eq_getElem a2, ?_⟩
    simp only [q, List.getElem?_eq_getElem a1, List.getElem?_eq_getElem a2]
  obtain ⟨r, r1, r2, r3, r4, r5⟩ := bs_law (R := Unit × List α) (c := c) (L := A ++ U ++ V ++ B) (I := fun h => IntKind.i64.wrap (IntKind.i64.wrap (IntKind.i64.wrap (midI ((A.length : Nat) : Int) ((A.length + U.length + V.length : Nat) : Int) + ((A.length + U.length : Nat) : Int)) - 1) - h)) (J := fun h => h) (T := fun x => !decide (x < 0)) q lo hi (by omega) (by
    intro h g1 g2
    obtain ⟨u, v, e1, e2, e3⟩ := hx h g1 g2
    have b1 := get_U A U V B (h - A.length) (by omega)
    have b2 := get_V A U V B (mid - 1 - h) (by omega)
    rw [e1] at b1
    rw [e2] at b2
    obtain ⟨z, z1, z2⟩ := cmpAt_eq hc (qV v (List.mem_of_getElem? e2)) (qU u (List.mem_of_getElem? e1)) b2 b1
    refine ⟨z, fun {R} k => ?_, by rw [e3, ← z2]⟩
    rw [wm, wrap64 (((mid : Nat) : Int) + ((A.length + U.length : Nat) : Int)) (by omega) (by omega), wrap64 (((mid : Nat) : Int) + ((A.length + U.length : Nat) : Int) - 1) (by omega) (by omega), wrap64 _ (by omega) (by omega),
      show (((mid : Nat) : Int) + ((A.length + U.length : Nat) : Int) - 1 - (h : Int)) = ((A.length + U.length + (mid - 1 - h) : Nat) : Int) by omega, show (h : Int) = ((A.length + (h - A.length) : Nat) : Int) by omega]
    exact z1 k) (hi - lo) lo hi (by omega) (Nat.le_refl _) h2 (Nat.le_refl _) (.inl rfl) (.inl rfl)
  rw [r3]
  refine sym_three O hr A U V B qU qV hU hV hb r (r - A.length) (mid - r) (by omega) (by omega) (by omega) (by omega) hn ?_ ?_
  · rcases r4 with r4 | r4
    · rcases h6 with h6 | h6
      · exact .inl (by omega)
      · exact .inr (.inl (by omega))
    · rcases Nat.lt_or_eq_of_le r1 with r1 | r1
      · obtain ⟨u, v, e1, e2, e3⟩ := hx (r - 1) (by omega) (by omega)
        refine .inr (.inr ⟨u, v, ?_, ?_, ?_⟩)
        · rw [show r - A.length - 1 = r - 1 - A.length by omega]; exact e1
        · rw [show mid - r = mid - 1 - (r - 1) by omega]; exact e2
        · rw [e3] at r4; simpa using r4
      · rcases h6 with h6 | h6
        · exact .inl (by omega)
        · exact .inr (.inl (by omega))
  · rcases r5 with r5 | r5
    · rcases h7 with h7 | h7
      · exact .inr (.inl (by omega))
      · exact .inl (by omega)
    · rcases Nat.lt_or_eq_of_le r2 with r2 | r2
      · obtain ⟨u, v, e1, e2, e3⟩ := hx r (by omega) (by omega)
        refine .inr (.inr ⟨u, v, ?_, e1, ?_⟩)
        · rw [show mid - r - 1 = mid - 1 - r by omega]; exact e2
        · rw [e3] at r5; simpa using r5
      · rcases h7 with h7 | h7
        · exact .inr (.inl (by omega))
        · exact .inl (by omega)

theorem sym_one {Q : α → Prop} {c : α → α → Option Int} {lt : α → α → Bool} (O : Ordr lt) (hc : Cmp Q c lt) (A V B : List α) (x : α) (qx : Q x) (qV : ∀ v ∈ V, Q v) (hV : Srt lt V) (hb : A.length + V.length + B.length + 1 ≤ 1152921504606846976) :
    ∃ W, (loopC (bsF c (A ++ [x] ++ V ++ B) (fun h => h) (fun _ => ((A.length : Nat) : Int)) (fun x => decide (x < 0))) (((A.length + 1 : Nat) : Int), ((A.length + 1 + V.length : Nat) : Int))).bind (outK fun s => (loopC (upF s.1) ((A ++ [x] ++ V ++ B), ((A.length : Nat) : Int))).bind (outK fun s => some ((), s.1))) = some ((), A ++ W ++ B) ∧ Srt lt W ∧ SP lt ([x] ++ V) W := by
  let q : Nat → Bool := fun h => match V[h - (A.length + 1)]? with
    | some v => lt v x
    | _ => true
  have hx : ∀ h, A.length + 1 ≤ h → h < A.length + 1 + V.length → ∃ v, V[h - (A.length + 1)]? = some v ∧ q h = lt v x := by
    intro h g1 g2
    have a2 : h - (A.length + 1) < V.length := by omega
    refine ⟨_, List.getElem?_eq_getElem a2, ?_⟩
    simp only [q, List.getElem?_eq_getElem a2]
  obtain ⟨r, r1, r2, r3, r4, r5⟩ := bs_law (R := Unit × List α) (c := c) (L := A ++ [x] ++ V ++ B) (I := fun h => h) (J := fun _ => ((A.length : Nat) : Int)) (T := fun x => decide (x < 0)) q (A.length + 1) (A.length + 1 + V.length) (by omega) (by
    intro h g1 g2
    obtain ⟨v, e2, e3⟩ := hx h g1 g2
    have b1 := get_U A [x] V B 0 (by simp)
    have b2 := get_V A [x] V B (h - (A.length + 1)) (by omega)
    rw [e2] at b2
    obtain ⟨z, z1, z2⟩ := cmpAt_eq hc (qV v (List.mem_of_getElem? e2)) qx b2 b1
    refine ⟨z, fun {R} k => ?_, by rw [e3, ← z2]⟩
    rw [show (h : Int) = ((A.length + [x].length + (h - (A.length + 1)) : Nat) : Int) by simp only [List.length_cons, List.length_nil]; omega]
    exact z1 k) V.length (A.length + 1) (A.length + 1 + V.length) (by omega) (Nat.le_refl _) (by omega) (Nat.le_refl _) (.inl rfl) (.inl rfl)
  have p1 : ∀ v ∈ V.take (r - (A.length + 1)), lt v x = true := take_all hV (P := fun w => lt w x = true) O (fun w w' h g => O.lt_left h g) (by
    rcases Nat.lt_or_eq_of_le r1 with r1 | r1
    · rcases r4 with r4 | r4
      · exact .inl (by omega)
      · obtain ⟨v, e2, e3⟩ := hx (r - 1) (by omega) (by omega)
        exact .inr ⟨v, by rw [show r - (A.length + 1) - 1 = r - 1 - (A.length + 1) by omega]; exact e2, by rw [← e3]; exact r4⟩
    · exact .inl (by omega))
  have p2 : ∀ v ∈ V.drop (r - (A.length + 1)), lt v x = false := drop_all hV (P := fun w => lt w x = false) (fun w w' h g => O.tr x w w' g h) (by
    rcases Nat.lt_or_eq_of_le r2 with r2 | r2
    · rcases r5 with r5 | r5
      · exact .inl (by omega)
      · obtain ⟨v, e2, e3⟩ := hx r (by omega) (by omega)
        exact .inr ⟨v, e2, by rw [← e3]; exact r5⟩
    · exact .inl (by omega))
  have hk : (V.take (r - (A.length + 1))).length = r - (A.length + 1) := by rw [List.length_take]; omega
  have e := List.take_append_drop (r - (A.length + 1)) V
  generalize V.take (r - (A.length + 1)) = V1 at *
  generalize V.drop (r - (A.length + 1)) = V2 at *
  subst e
  have hs := srt_app.1 hV
  refine ⟨V1 ++ x :: V2, ?_, ?_, ?_⟩
  · rw [r3]
    simp only [Option.bind_some, outK]
    rw [show A ++ [x] ++ (V1 ++ V2) ++ B = A ++ x :: V1 ++ (V2 ++ B) by simp, upF_loop x (V2 ++ B) V1 A r (by simp only [List.length_append] at hb; omega) (by omega)]
    simp [outK]
  · exact srt_app.2 ⟨hs.1, List.pairwise_cons.2 ⟨p2, hs.2.1⟩, fun a ha b hb => by
      rcases List.mem_cons.1 hb with rfl | hb
      · exact O.asym _ _ (p1 a ha)
      · exact hs.2.2 a ha b hb⟩
  · rw [← List.append_assoc, show V1 ++ x :: V2 = (V1 ++ [x]) ++ V2 by simp]
    exact (SP.swap O (fun u hu v hv => by rw [List.mem_singleton.1 hu]; exact p1 v hv)).app (SP.refl lt V2)

theorem sym_two {Q : α → Prop} {c : α → α → Option Int} {lt : α → α → Bool} (O : Ordr lt) (hc : Cmp Q c lt) (A U B : List α) (y : α) (qy : Q y) (qU : ∀ u ∈ U, Q u) (hU : Srt lt U) (hb : A.length + U.length + B.length + 1 ≤ 1152921504606846976) :
    ∃ W, (loopC (bsF c (A ++ U ++ [y] ++ B) (fun _ => ((A.length + U.length : Nat) : Int)) (fun h => h) (fun x => !decide (x < 0))) (((A.length : Nat) : Int), ((A.length + U.length : Nat) : Int))).bind (outK fun s => (loopC (dnF s.1) ((A ++ U ++ [y] ++ B), ((A.length + U.length : Nat) : Int))).bind (outK fun s => some ((), s.1))) = some ((), A ++ W ++ B) ∧ Srt lt W ∧ SP lt (U ++ [y]) W := by
  let q : Nat → Bool := fun h => match U[h - A.length]? with
    | some u => !lt y u
    | _ => true
  have hx : ∀ h, A.length ≤ h → h < A.length + U.length → ∃ u, U[h - A.length]? = some u ∧ q h = !lt y u := by
    intro h g1 g2
    have a2 : h - A.length < U.length := by omega
    refine ⟨_, List.getElem?_eq_getElem a2, ?_⟩
    simp only [q, List.getElem?_eq_getElem a2]
  obtain ⟨r, r1, r2, r3, r4, r5⟩ := bs_law (R := Unit × List α) (c := c) (L := A ++ U ++ [y] ++ B) (I := fun _ => ((A.length + U.length : Nat) : Int)) (J := fun h => h) (T := fun x => !decide (x < 0)) q A.length (A.length + U.length) (by omega) (by
    intro h g1 g2
    obtain ⟨v, e2, e3⟩ := hx h g1 g2
    have b1 := get_V A U [y] B 0 (by simp)
    have b2 := get_U A U [y] B (h - A.length) (by omega)
    rw [e2] at b2
    obtain ⟨z, z1, z2⟩ := cmpAt_eq hc qy (qU v (List.mem_of_getElem? e2)) b1 b2
    refine ⟨z, fun {R} k => ?_, by rw [e3, ← z2]⟩
    rw [show (h : Int) = ((A.length + (h - A.length) : Nat) : Int) by omega]
    exact z1 k) U.length A.length (A.length + U.length) (by omega) (Nat.le_refl _) (by omega) (Nat.le_refl _) (.inl rfl) (.inl rfl)
  have p1 : ∀ v ∈ U.take (r - A.length), lt y v = false := take_all hU (P := fun w => lt y w = false) O (fun w w' h g => O.tr w' w y h g) (by
    rcases Nat.lt_or_eq_of_le r1 with r1 | r1
    · rcases r4 with r4 | r4
      · exact .inl (by omega)
      · obtain ⟨v, e2, e3⟩ := hx (r - 1) (by omega) (by omega)
        exact .inr ⟨v, by rw [show r - A.length - 1 = r - 1 - A.length by omega]; exact e2, by rw [e3] at r4; simpa using r4⟩
    · exact .inl (by omega))
  have p2 : ∀ v ∈ U.drop (r - A.length), lt y v = true := drop_all hU (P := fun w => lt y w = true) (fun w w' h g => O.lt_right h g) (by
    rcases Nat.lt_or_eq_of_le r2 with r2 | r2
    · rcases r5 with r5 | r5
      · exact .inl (by omega)
      · obtain ⟨v, e2, e3⟩ := hx r (by omega) (by omega)
        exact .inr ⟨v, e2, by rw [e3] at r5; simpa using r5⟩
    · exact .inl (by omega))
  have hk : (U.take (r - A.length)).length = r - A.length := by rw [List.length_take]; omega
  have e := List.take_append_drop (r - A.length) U
  generalize U.take (r - A.length) = U1 at *
  generalize U.drop (r - A.length) = U2 at *
  subst e
  have hs := srt_app.1 hU
  refine ⟨U1 ++ y :: U2, ?_, ?_, ?_⟩
  · rw [r3]
    simp only [Option.bind_some, outK]
    have := dnF_loop y (A ++ U1) U2.length U2 B (Nat.le_refl _) (by simp only [List.length_append] at hb ⊢; omega)
    rw [show A ++ (U1 ++ U2) ++ [y] ++ B = A ++ U1 ++ U2 ++ y :: B by simp, show A.length + (U1 ++ U2).length = (A ++ U1).length + U2.length by simp; omega, show r = (A ++ U1).length by rw [List.length_append]; omega, this]
    simp [outK]
  · exact srt_app.2 ⟨hs.1, List.pairwise_cons.2 ⟨fun v hv => O.asym _ _ (p2 v hv), hs.2.1⟩, fun a ha b hb => by
      rcases List.mem_cons.1 hb with rfl | hb
      · exact p1 a ha
      · exact hs.2.2 a ha b hb⟩
  · rw [List.append_assoc]
    exact (SP.refl lt U1).app (SP.swap O (fun u hu v hv => by rw [List.mem_singleton.1 hv]; exact p2 u hu))

theorem sym_law {Q : α → Prop} {c : α → α → Option Int} {lt : α → α → Bool} (O : Ordr lt) (hc : Cmp Q c lt) : ∀ fu, RecOk Q lt (2 ^ fu) (symG c fu) := by
  intro fu
  induction fu with
  | zero =>
    intro A U V B hU hV _ _ _ _ hn _
    have := List.length_pos_iff.2 hU
    have := List.length_pos_iff.2 hV
    simp at hn; omega
  | succ fu ih =>
    intro A U V B hU hV qU qV sU sV hn hb
    have lU := List.length_pos_iff.2 hU
    have lV := List.length_pos_iff.2 hV
    rw [Nat.pow_succ] at hn
    have w1 : IntKind.i64.wrap (((A.length + U.length : Nat) : Int) - ((A.length : Nat) : Int)) = ((U.length : Nat) : Int) := by rw [wrap64 _ (by omega) (by omega)]; omega
    have w2 : IntKind.i64.wrap (((A.length + U.length + V.length : Nat) : Int) - ((A.length + U.length : Nat) : Int)) = ((V.length : Nat) : Int) := by rw [wrap64 _ (by omega) (by omega)]; omega
    show ∃ W, symS c (symG c fu) _ _ _ _ = _ ∧ _
    unfold symS
    rw [w1, w2]
    rcases Nat.lt_or_ge 1 U.length with h1 | h1
    · have d1 : decide (((U.length : Nat) : Int) = 1) = false := by simp; omega
      rw [d1]
      rcases Nat.lt_or_ge 1 V.length with h2 | h2
      · have d2 : decide (((V.length : Nat) : Int) = 1) = false := by simp; omega
        rw [d2]
        have wm : midI ((A.length : Nat) : Int) ((A.length + U.length + V.length : Nat) : Int) = (((A.length + (A.length + U.length + V.length)) / 2 : Nat) : Int) := midI_eq _ _ (by omega)
        show ∃ W, (bif decide _ then _ else _) = _ ∧ _
        by_cases hm : (A.length + (A.length + U.length + V.length)) / 2 < A.length + U.length
        · have d3 : decide (midI ((A.length : Nat) : Int) ((A.length + U.length + V.length : Nat) : Int) < ((A.length + U.length : Nat) : Int)) = true := by rw [wm]; simp only [decide_eq_true_eq]; omega
          rw [d3]
          dsimp only [cond_true]
          have w3 : IntKind.i64.wrap (IntKind.i64.wrap (midI ((A.length : Nat) : Int) ((A.length + U.length + V.length : Nat) : Int) + ((A.length + U.length : Nat) : Int)) - ((A.length + U.length + V.length : Nat) : Int)) = (((A.length + (A.length + U.length + V.length)) / 2 + (A.length + U.length) - (A.length + U.length + V.length) : Nat) : Int) := by
            rw [wm, wrap64 ((((A.length + (A.length + U.length + V.length)) / 2 : Nat) : Int) + ((A.length + U.length : Nat) : Int)) (by omega) (by omega), wrap64 _ (by omega) (by omega)]; omega
          have := sym_bs O hc ih A U V B qU qV sU sV hb (by omega) ((A.length + (A.length + U.length + V.length)) / 2 + (A.length + U.length) - (A.length + U.length + V.length)) ((A.length + (A.length + U.length + V.length)) / 2) ((A.length + (A.length + U.length + V.length)) / 2) rfl (by omega) (by omega) (by omega) (by omega) (by omega) (.inr (by omega)) (.inr rfl)
          rw [w3]
          rw [← wm] at this
          exact this
        · have d3 : decide (midI ((A.length : Nat) : Int) ((A.length + U.length + V.length : Nat) : Int) < ((A.length + U.length : Nat) : Int)) = false := by rw [wm]; simp only [decide_eq_false_iff_not]; omega
          rw [d3]
          dsimp only [cond_false]
          exact sym_bs O hc ih A U V B qU qV sU sV hb (by omega) A.length (A.length + U.length) ((A.length + (A.length + U.length + V.length)) / 2) rfl (by omega) (by omega) (by omega) (by omega) (by omega) (.inl rfl) (.inl rfl)
      · have hv : V.length = 1 := by omega
        have d2 : decide (((V.length : Nat) : Int) = 1) = true := by rw [hv]; rfl
        rw [d2]
        dsimp only [cond_true, cond_false]
        match V, hv with
        | [y], _ => exact sym_two O hc A U B y (qV y (by simp)) qU sU (by simp at hb; omega)
    · have hu : U.length = 1 := by omega
      have d1 : decide (((U.length : Nat) : Int) = 1) = true := by rw [hu]; rfl
      rw [d1]
      dsimp only [cond_true]
      match U, hu with
      | [x], _ => exact sym_one O hc A V B x (qU x (by simp)) qV sV (by simp at hb; omega)
end
end Go.Proofs.YtcnohbiegjahkaaGreatDoor

/-
  Plain laws of the stable sort: blocks, doubled until all is one.
-/
namespace Go.Proofs.YtcnohbiegjahkaaGreatDoor
set_option linter.unusedSimpArgs false
set_option linter.unusedVariables false
open Go.RowKit

section
variable {α : Type}

inductive Blks (lt : α → α → Bool) (bs : Nat) : List α → Prop
  | last {U : List α} : U.length ≤ bs → Srt lt U → Blks lt bs U
  | cons {U L : List α} : U.length = bs → Srt lt U → Blks lt bs L → Blks lt bs (U ++ L)
theorem Blks.split {lt : α → α → Bool} {bs : Nat} {T : List α} (h : Blks lt bs T) (hl : bs ≤ T.length) : ∃ U L, T = U ++ L ∧ U.length = bs ∧ Srt lt U ∧ Blks lt bs L := by
  cases h with
  | last h1 h2 => exact ⟨T, [], by simp, by omega, h2, .last (by simp) List.Pairwise.nil⟩
  | cons h1 h2 h3 => exact ⟨_, _, rfl, h1, h2, h3⟩
theorem Blks.one {lt : α → α → Bool} {bs : Nat} {T : List α} (h : Blks lt bs T) (hl : T.length ≤ bs) : Srt lt T := by
  cases h with
  | last h1 h2 => exact h2
  | @cons U L h1 h2 h3 =>
    rw [List.length_append] at hl
    have : L = [] := List.length_eq_zero_iff.1 (by omega)
    rw [this, List.append_nil]; exact h2

noncomputable def stb1 (c : α → α → Option Int) (n : Int) : List α × Int × Int → Option ((List α × Int × Int) ⊕ ((List α × Int × Int) ⊕ (Unit × List α))) := fun s =>
  bif decide (s.2.2 ≤ n) then (insG c s.1 s.2.1 s.2.2).bind fun y => some (.inl (y.2, s.2.2, IntKind.i64.wrap (s.2.2 + 20))) else inrO (some (.inl (s.1, s.2.1, s.2.2)))
noncomputable def stb3 (c : α → α → Option Int) (fu : Nat) (n bs : Int) : List α × Int × Int → Option ((List α × Int × Int) ⊕ ((List α × Int × Int) ⊕ ((List α × Int) ⊕ ((List α × Int) ⊕ (Unit × List α))))) := fun t =>
  bif decide (t.2.2 ≤ n) then (symG c fu t.1 t.2.1 (IntKind.i64.wrap (t.2.1 + bs)) t.2.2).bind fun y => some (.inl (y.2, t.2.2, IntKind.i64.wrap (t.2.2 + IntKind.i64.wrap (2 * bs)))) else inrO (some (.inl (t.1, t.2.1, t.2.2)))
noncomputable def stbK (c : α → α → Option Int) (fu : Nat) (n bs : Int) : List α × Int × Int → Option ((List α × Int) ⊕ ((List α × Int) ⊕ (Unit × List α))) := fun t =>
  bif decide (IntKind.i64.wrap (t.2.1 + bs) < n) then (symG c fu t.1 t.2.1 (IntKind.i64.wrap (t.2.1 + bs)) n).bind fun y => some (.inl (y.2, IntKind.i64.wrap (bs * 2))) else some (.inl (t.1, IntKind.i64.wrap (bs * 2)))
noncomputable def stb2 (c : α → α → Option Int) (fu : Nat) (n : Int) : List α × Int → Option ((List α × Int) ⊕ ((List α × Int) ⊕ (Unit × List α))) := fun s =>
  bif decide (s.2 < n) then (loopC (stb3 c fu n s.2) (s.1, 0, IntKind.i64.wrap (2 * s.2))).bind (outK (stbK c fu n s.2)) else inrO (some (.inl (s.1, s.2)))
noncomputable def stbG (c : α → α → Option Int) (fu : Nat) (L : List α) (n : Int) : Option (Unit × List α) :=
  (loopC (stb1 c n) (L, 0, 20)).bind (outK fun s => (insG c s.1 s.2.1 n).bind fun y => (loopC (stb2 c fu n) (y.2, 20)).bind (outK fun s => some ((), s.1)))

theorem stb1_loop {Q : α → Prop} {c : α → α → Option Int} {lt : α → α → Bool} (O : Ordr lt) (hc : Cmp Q c lt) (K : List α → Option (Unit × List α)) : ∀ (k : Nat) (D T : List α) (n : Nat), (∀ x ∈ T, Q x) → T.length ≤ k → n = D.length + T.length → n ≤ 137438953472 →
    ∃ T', (loopC (stb1 c (n : Int)) (D ++ T, ((D.length : Nat) : Int), ((D.length + 20 : Nat) : Int))).bind (outK fun s => (insG c s.1 s.2.1 (n : Int)).bind fun y => K y.2) = K (D ++ T') ∧ Blks lt 20 T' ∧ SP lt T T' := by
  intro k
  induction k using Nat.strongRecOn with
  | ind k ih =>
    intro D T n hQ hk hn hb
    rcases Nat.lt_or_ge T.length 20 with h | h
    · have hd : decide (((D.length + 20 : Nat) : Int) ≤ (n : Int)) = false := by simp; omega
      obtain ⟨W, w1, w2, w3⟩ := insG_eq O hc D T [] hQ ((D.length : Nat) : Int) (n : Int) rfl (by omega) (by omega)
      refine ⟨W, ?_, .last (by rw [← w3.1.length_eq]; omega) w2, w3⟩
      rw [loopC_end (a := .inl (D ++ T, ((D.length : Nat) : Int), ((D.length + 20 : Nat) : Int)))]
      · simp only [List.append_nil] at w1
        simp only [Option.bind_some, outK, w1]
      · unfold stb1
        dsimp only
        rw [hd]; rfl
    · have hd : decide (((D.length + 20 : Nat) : Int) ≤ (n : Int)) = true := by simp; omega
      have e := List.take_append_drop 20 T
      have l1 : (T.take 20).length = 20 := by rw [List.length_take]; omega
      have l2 : (T.drop 20).length = T.length - 20 := List.length_drop
      generalize T.take 20 = U at e l1
      generalize T.drop 20 = T2 at e l2
      subst e
      obtain ⟨W, w1, w2, w3⟩ := insG_eq O hc D U T2 (fun x hx => hQ x (List.mem_append_left _ hx)) ((D.length : Nat) : Int) ((D.length + 20 : Nat) : Int) rfl (by rw [l1]) (by omega)
      have lW : W.length = 20 := by rw [← w3.1.length_eq, l1]
      obtain ⟨T', t1, t2, t3⟩ := ih (k - 20) (by omega) (D ++ W) T2 n (fun x hx => hQ x (List.mem_append_right _ hx)) (by omega) (by rw [List.length_append] at hn ⊢; omega) hb
      refine ⟨W ++ T', ?_, .cons lW w2 t2, w3.app t3⟩
      rw [loopC_st (s' := (D ++ W ++ T2, (((D ++ W).length : Nat) : Int), (((D ++ W).length + 20 : Nat) : Int)))]
      · rw [t1, List.append_assoc]
      · unfold stb1
        dsimp only
        rw [hd, ← List.append_assoc, w1, wrap64 _ (by omega) (by omega), List.length_append, lW]
        rfl
theorem stb3_loop {Q : α → Prop} {c : α → α → Option Int} {lt : α → α → Bool} (O : Ordr lt) (hc : Cmp Q c lt) {fu : Nat} (hfu : 137438953472 ≤ 2 ^ fu) (bs : Nat) (hbs : 0 < bs) : ∀ (k : Nat) (D T : List α) (n : Nat), (∀ x ∈ T, Q x) → T.length ≤ k → n = D.length + T.length → n ≤ 137438953472 → bs ≤ 137438953472 → Blks lt bs T →
    ∃ T', (loopC (stb3 c fu (n : Int) (bs : Int)) (D ++ T, ((D.length : Nat) : Int), ((D.length + 2 * bs : Nat) : Int))).bind (outK (stbK c fu (n : Int) (bs : Int))) = some (.inl (D ++ T', ((2 * bs : Nat) : Int))) ∧ Blks lt (2 * bs) T' ∧ SP lt T T' := by
  intro k
  induction k using Nat.strongRecOn with
  | ind k ih =>
    intro D T n hQ hk hn hb hb2 hT
    have hR := sym_law O hc fu
    have w5 : IntKind.i64.wrap ((bs : Int) * 2) = ((2 * bs : Nat) : Int) := by rw [wrap64 _ (by omega) (by omega)]; omega
    have w6 : IntKind.i64.wrap (2 * (bs : Int)) = ((2 * bs : Nat) : Int) := by rw [wrap64 _ (by omega) (by omega)]; omega
    have w7 : IntKind.i64.wrap (((D.length : Nat) : Int) + (bs : Int)) = ((D.length + bs : Nat) : Int) := by rw [wrap64 _ (by omega) (by omega)]; omega
    rcases Nat.lt_or_ge T.length (2 * bs) with h | h
    · have hd : decide (((D.length + 2 * bs : Nat) : Int) ≤ (n : Int)) = false := by simp only [decide_eq_false_iff_not]; omega
      rw [loopC_end (a := .inl (D ++ T, ((D.length : Nat) : Int), ((D.length + 2 * bs : Nat) : Int)))]
      · simp only [Option.bind_some, outK]
        unfold stbK
        dsimp only
        rw [w5, w7]
        rcases Nat.lt_or_ge bs T.length with h2 | h2
        · have hd2 : decide (((D.length + bs : Nat) : Int) < (n : Int)) = true := by simp only [decide_eq_true_eq]; omega
          obtain ⟨U, L, rfl, l1, s1, b1⟩ := hT.split (by omega)
          rw [List.length_append] at h h2 hn
          obtain ⟨W, g1, g2, g3⟩ := hR D U L [] (by intro h0; rw [h0] at l1; simp at l1; omega) (by intro h0; rw [h0] at h2; simp at h2; omega) (fun x hx => hQ x (List.mem_append_left _ hx)) (fun x hx => hQ x (List.mem_append_right _ hx)) s1 (b1.one (by omega)) (by omega) (by simp; omega)
          refine ⟨W, ?_, .last (by rw [← g3.1.length_eq, List.length_append]; omega) g2, g3⟩
          rw [hd2, show n = D.length + U.length + L.length by omega, ← l1]
          simp only [List.append_nil] at g1
          rw [← List.append_assoc, g1]
          rfl
        · have hd2 : decide (((D.length + bs : Nat) : Int) < (n : Int)) = false := by simp only [decide_eq_false_iff_not]; omega
          refine ⟨T, ?_, .last (by omega) (hT.one h2), SP.refl _ _⟩
          rw [hd2]; rfl
      · unfold stb3
        dsimp only
        rw [hd]; rfl
    · have hd : decide (((D.length + 2 * bs : Nat) : Int) ≤ (n : Int)) = true := by simp only [decide_eq_true_eq]; omega
      obtain ⟨U, L, rfl, l1, s1, b1⟩ := hT.split (by omega)
      rw [List.length_append] at h hn hk
      obtain ⟨V, L, rfl, l2, s2, b2⟩ := b1.split (by omega)
      rw [List.length_append] at h hn hk
      obtain ⟨W, g1, g2, g3⟩ := hR D U V L (by intro h0; rw [h0] at l1; simp at l1; omega) (by intro h0; rw [h0] at l2; simp at l2; omega) (fun x hx => hQ x (by simp [hx])) (fun x hx => hQ x (by simp [hx])) s1 s2 (by omega) (by omega)
      have lW : W.length = 2 * bs := by rw [← g3.1.length_eq, List.length_append]; omega
      obtain ⟨T', t1, t2, t3⟩ := ih (k - 2 * bs) (by omega) (D ++ W) L n (fun x hx => hQ x (by simp [hx])) (by omega) (by rw [List.length_append]; omega) hb hb2 b2
      refine ⟨W ++ T', ?_, .cons lW g2 t2, ?_⟩
      · rw [loopC_st (s' := (D ++ W ++ L, (((D ++ W).length : Nat) : Int), (((D ++ W).length + 2 * bs : Nat) : Int)))]
        · rw [t1, List.append_assoc]
        · have w8 : IntKind.i64.wrap (((D.length + 2 * bs : Nat) : Int) + ((2 * bs : Nat) : Int)) = ((D.length + 2 * bs + 2 * bs : Nat) : Int) := by rw [wrap64 _ (by omega) (by omega)]; omega
          unfold stb3
          dsimp only
          rw [hd, w6, w7, w8, List.length_append, lW]
          rw [l1, show D.length + bs + V.length = D.length + 2 * bs by omega] at g1
          rw [show D ++ (U ++ (V ++ L)) = D ++ U ++ V ++ L by simp, g1]
          rfl
      · rw [← List.append_assoc]
        exact g3.app t3
theorem stb2_loop {Q : α → Prop} {c : α → α → Option Int} {lt : α → α → Bool} (O : Ordr lt) (hc : Cmp Q c lt) {fu : Nat} (hfu : 137438953472 ≤ 2 ^ fu) : ∀ (k : Nat) (L : List α) (bs : Nat), (∀ x ∈ L, Q x) → L.length - bs ≤ k → 0 < bs → L.length ≤ 137438953472 → Blks lt bs L →
    ∃ L' s, loopC (stb2 c fu ((L.length : Nat) : Int)) (L, (bs : Int)) = some (.inl (L', s)) ∧ Srt lt L' ∧ SP lt L L' := by
  intro k
  induction k using Nat.strongRecOn with
  | ind k ih =>
    intro L bs hQ hk h0 hb hL
    rcases Nat.lt_or_ge bs L.length with h | h
    · have hd : decide ((bs : Int) < ((L.length : Nat) : Int)) = true := by simp only [decide_eq_true_eq]; omega
      have w6 : IntKind.i64.wrap (2 * (bs : Int)) = ((2 * bs : Nat) : Int) := by rw [wrap64 _ (by omega) (by omega)]; omega
      obtain ⟨T', t1, t2, t3⟩ := stb3_loop O hc hfu bs h0 L.length [] L L.length hQ (Nat.le_refl _) (by simp) hb (by omega) hL
      have lT := t3.1.length_eq
      obtain ⟨L', s, g1, g2, g3⟩ := ih (k - bs) (by omega) T' (2 * bs) (fun x hx => hQ x (t3.1.mem_iff.2 hx)) (by omega) (by omega) (by omega) t2
      refine ⟨L', s, ?_, g2, t3.trans g3⟩
      rw [loopC_st (s' := (T', ((2 * bs : Nat) : Int)))]
      · rw [lT]; exact g1
      · unfold stb2
        dsimp only
        rw [hd, w6]
        simp only [List.length_nil, List.nil_append, Nat.zero_add] at t1
        exact t1
    · have hd : decide ((bs : Int) < ((L.length : Nat) : Int)) = false := by simp only [decide_eq_false_iff_not]; omega
      refine ⟨L, bs, loopC_end ?_, hL.one h, SP.refl _ _⟩
      unfold stb2
      dsimp only
      rw [hd]; rfl
/-- The stable sort: sorted, and each class of equals as it stood. -/
theorem stbG_eq {Q : α → Prop} {c : α → α → Option Int} {lt : α → α → Bool} (O : Ordr lt) (hc : Cmp Q c lt) {fu : Nat} (hfu : 137438953472 ≤ 2 ^ fu) (L : List α) (hQ : ∀ x ∈ L, Q x) (hb : L.length ≤ 137438953472) :
    ∃ W, stbG c fu L ((L.length : Nat) : Int) = some ((), W) ∧ Srt lt W ∧ SP lt L W := by
  obtain ⟨T', t1, t2, t3⟩ := stb1_loop O hc (fun M => (loopC (stb2 c fu ((L.length : Nat) : Int)) (M, 20)).bind (outK fun s => some ((), s.1))) L.length [] L L.length hQ (Nat.le_refl _) (by simp) hb
  simp only [List.length_nil, List.nil_append, Nat.zero_add] at t1
  have lT := t3.1.length_eq
  obtain ⟨L', s, g1, g2, g3⟩ := stb2_loop O hc hfu T'.length T' 20 (fun x hx => hQ x (t3.1.mem_iff.2 hx)) (by omega) (by omega) (by omega) t2
  refine ⟨L', ?_, g2, t3.trans g3⟩
  refine Eq.trans t1 ?_
  rw [← lT] at g1
  have g1' : loopC (stb2 c fu ((L.length : Nat) : Int)) (T', 20) = some (.inl (L', s)) := g1
  rw [g1']; rfl
end
end Go.Proofs.YtcnohbiegjahkaaGreatDoor

/-
  The program's stable sort of notes is the one whose laws are shown.
-/
namespace Go.Proofs.YtcnohbiegjahkaaGreatDoor
set_option linter.unusedSimpArgs false
set_option linter.unusedVariables false
open Go.RowKit

theorem FU_pow : 137438953472 ≤ 2 ^ FU := by
  have h : 2 ^ 37 ≤ 2 ^ FU := Nat.pow_le_pow_right (by decide) (Nat.le_trans (by decide) FU_big)
  exact Nat.le_trans (by decide) h

section
variable (f : FuncId) (c : List DV) (p : Tapi_Note → Tapi_Note → Option Int) (h : ∀ a0 a1 r, p a0 a1 = some r → PureSpec Tryz.prog f ([.agg (rTapi_Note a0), .agg (rTapi_Note a1)] ++ c) (.int .i64 r))
theorem swapG_api_Note (L : List Tapi_Note) (x1 x2 x3 : Int) : m_slices_swapRangeCmpFunc_interchange_api_Note L x1 x2 x3 f c p h = swapG L x1 x2 x3 := by
  unfold m_slices_swapRangeCmpFunc_interchange_api_Note sims_GS_0_1; dsimp only
  rfl
theorem rotG_api_Note (L : List Tapi_Note) (x1 x2 x3 : Int) : m_slices_rotateCmpFunc_interchange_api_Note L x1 x2 x3 f c p h = rotG L x1 x2 x3 := by
  unfold m_slices_rotateCmpFunc_interchange_api_Note sims_GS_1_0; dsimp only
  simp only [swapG_api_Note]
  rfl
theorem insG_api_Note (L : List Tapi_Note) (x1 x2 : Int) : m_slices_insertionSortCmpFunc_interchange_api_Note L x1 x2 f c p h = insG p L x1 x2 := by
  unfold m_slices_insertionSortCmpFunc_interchange_api_Note sims_GS_0_0; dsimp only
  rfl
theorem symG_api_Note : ∀ (fu : Nat) (L : List Tapi_Note) (x1 x2 x3 : Int), m_slices_symMergeCmpFunc_interchange_api_Note fu L x1 x2 x3 f c p h = symG p fu L x1 x2 x3 := by
  intro fu
  induction fu with
  | zero => intro L x1 x2 x3; exact m_slices_symMergeCmpFunc_interchange_api_Note_zero ..
  | succ fu ih =>
    intro L x1 x2 x3
    rw [m_slices_symMergeCmpFunc_interchange_api_Note_succ]; unfold step_GS_2_0; dsimp only; simp only [m_slices_symMergeCmpFunc_interchange_api_Note_fold]
    simp only [rotG_api_Note, ih]
    rfl
theorem stbG_api_Note (L : List Tapi_Note) (n : Int) : m_slices_stableCmpFunc_interchange_api_Note L n f c p h = stbG p FU L n := by
  unfold m_slices_stableCmpFunc_interchange_api_Note sims_GS_3_0; dsimp only
  simp only [insG_api_Note, symG_api_Note]
  rfl
end
theorem sort_api_Note {f : FuncId} {c : List DV} {p : Tapi_Note → Tapi_Note → Option Int} (h : ∀ a0 a1 r, p a0 a1 = some r → PureSpec Tryz.prog f ([.agg (rTapi_Note a0), .agg (rTapi_Note a1)] ++ c) (.int .i64 r)) {Q : Tapi_Note → Prop} {lt : Tapi_Note → Tapi_Note → Bool} (O : Ordr lt) (hc : Cmp Q p lt) (L : List Tapi_Note) (hQ : ∀ x ∈ L, Q x) (hb : L.length ≤ 137438953472) :
    ∃ W, m_slices_SortStableFunc_interchange_api_Note_interchange_api_Note L f c p h = some ((), W) ∧ Srt lt W ∧ SP lt L W := by
  obtain ⟨W, g1, g2⟩ := stbG_eq O hc FU_pow L hQ hb
  refine ⟨W, ?_, g2⟩
  unfold m_slices_SortStableFunc_interchange_api_Note_interchange_api_Note sims_GS_4_0; dsimp only
  rw [stbG_api_Note, g1]
  rfl
end Go.Proofs.YtcnohbiegjahkaaGreatDoor

/-
  Plain laws of the audit: the reference goes through the segments; its notes are sorted.
-/
namespace Go.Proofs.YtcnohbiegjahkaaGreatDoor
set_option linter.unusedSimpArgs false
set_option linter.unusedVariables false
open Go.RowKit

def bumpS (a : RA) : RA := match a.flevels[2]? with | none => a | some x => ⟨a.flevels.set 2 ⟨x.fheaded, x.fref, x.fmany + 1, x.frefs⟩, a.fnotes⟩
noncomputable def stepA (s : Tapi_Segment) (i : Int) (a : RA) : RA :=
  if headT s.fTag = true then headS s (lvlT s.fTag - 1) i a else if 0 < lvlT s.fTag then tailS s (lvlT s.fTag - 1) i a else if a.flevels.length < 3 then noteS a 7 i else bumpS a
noncomputable def runA : List Tapi_Segment → Nat → RA → RA
  | [], _, a => a
  | s :: l, i, a => runA l (i + 1) (stepA s (i : Int) a)
noncomputable def auN (l : List Tapi_Segment) : List Nt := (leaveS 0 (l.length : Int) (runA l 0 ⟨[], []⟩)).fnotes
theorem runA_snoc (s : Tapi_Segment) : ∀ (l : List Tapi_Segment) (i : Nat) (a : RA), runA (l ++ [s]) i a = stepA s ((i + l.length : Nat) : Int) (runA l i a)
  | [], i, a => by simp [runA]
  | x :: l, i, a => by
    show runA (l ++ [s]) (i + 1) _ = _
    rw [runA_snoc s l (i + 1), show i + 1 + l.length = i + (x :: l).length by simp; omega]
    rfl

theorem insA_Bd {ref : List UInt8} {i : Int} {n : Nat} {L : List RO} {N : List Nt} {m : Nat} (h1 : N.length ≤ m) (h2 : ∀ x ∈ L, 0 ≤ x.fmany ∧ x.fmany ≤ (n : Int) + 1 ∧ x.frefs.length ≤ n) :
    (insA ref i ⟨L, N⟩).fnotes.length ≤ m + 1 ∧ ∀ x ∈ (insA ref i ⟨L, N⟩).flevels, 0 ≤ x.fmany ∧ x.fmany ≤ (n : Int) + 2 ∧ x.frefs.length ≤ n + 1 := by
  rcases List.eq_nil_or_concat L with rfl | ⟨P, x, rfl⟩
  · rw [insA_nil]; exact ⟨by simp only; omega, by simp⟩
  · rw [List.concat_eq_append] at h2 ⊢
    rw [insA_snoc]
    refine ⟨?_, ?_⟩
    · simp only [List.length_append]
      unfold insN
      split <;> simp <;> omega
    · intro y hy
      rcases List.mem_append.1 hy with hy | hy
      · have := h2 y (List.mem_append_left _ hy); omega
      · rw [List.mem_singleton.1 hy]
        have := h2 x (by simp)
        unfold insO
        refine ⟨by simp only; omega, by simp only; omega, ?_⟩
        simp only
        split
        · simp only [List.length_append, List.length_cons, List.length_nil]; omega
        · omega
theorem headS_Bd {s : Tapi_Segment} {lv : Nat} {i : Int} {n : Nat} {a : RA} (hlv : lv ≤ 2) (h : Bd n a) : Bd (n + 1) (headS s lv i a) := by
  obtain ⟨b1, b2, b3⟩ := h
  have l1 : (leaveS lv i a).flevels.length ≤ lv := by simp only [leaveS, List.length_take]; omega
  have n1 : (leaveS lv i a).fnotes.length ≤ 10 * n + 3 := by simp only [leaveS, List.length_append, List.length_replicate]; omega
  have m1 : ∀ x ∈ (leaveS lv i a).flevels, 0 ≤ x.fmany ∧ x.fmany ≤ (n : Int) + 1 ∧ x.frefs.length ≤ n := fun x hx => b3 x (List.mem_of_mem_take hx)
  have f1 : (fillRS lv i (leaveS lv i a)).flevels.length ≤ lv ∧ (fillRS lv i (leaveS lv i a)).fnotes.length ≤ 10 * n + 4 ∧ ∀ x ∈ (fillRS lv i (leaveS lv i a)).flevels, 0 ≤ x.fmany ∧ x.fmany ≤ (n : Int) + 1 ∧ x.frefs.length ≤ n := by
    unfold fillRS
    split
    · refine ⟨by simp only [List.length_append, List.length_replicate]; omega, by simp only [List.length_append, List.length_cons, List.length_nil]; omega, fun x hx => ?_⟩
      rcases List.mem_append.1 hx with hx | hx
      · exact m1 x hx
      · rw [List.eq_of_mem_replicate hx]; simp [dumR]; omega
    · exact ⟨l1, by omega, m1⟩
  unfold headS
  simp only
  generalize fillRS lv i (leaveS lv i a) = b at f1
  have g1 : (formS s i b).flevels = b.flevels ∧ (formS s i b).fnotes.length ≤ 10 * n + 5 := by
    unfold formS
    split
    · exact ⟨rfl, by omega⟩
    · exact ⟨rfl, by simp only [noteS, List.length_append, List.length_cons, List.length_nil]; omega⟩
  have g2 := insA_Bd (ref := refOf s.fElements) (i := i) (n := n) (L := (formS s i b).flevels) (N := (formS s i b).fnotes) g1.2 (by rw [g1.1]; exact f1.2.2)
  have g3 := insA_len (refOf s.fElements) i (formS s i b)
  have hl := f1.1
  rw [g1.1] at g3
  refine ⟨?_, ?_, ?_⟩
  · simp only [List.length_append, List.length_cons, List.length_nil]; omega
  · exact Nat.le_trans g2.1 (by omega)
  · intro x hx
    rcases List.mem_append.1 hx with hx | hx
    · have := g2.2 x hx; omega
    · rw [List.mem_singleton.1 hx]
      refine ⟨?_, ?_, by simp⟩ <;> simp only <;> split <;> omega
theorem tlN_len (ts : List (List UInt8)) (lv : Nat) (i : Int) (x : RO) : (tlN ts lv i x).length ≤ 2 := by
  have q : ∀ (c : Prop) [Decidable c] (y : Nt), (if c then ([] : List Nt) else [y]).length ≤ 1 := fun c _ y => by split <;> simp
  unfold tlN
  split
  · split
    · split
      · rw [List.length_append]
        exact Nat.add_le_add (q _ _) (q _ _)
      · simp
    · simp
  · simp
theorem tailS_Bd {s : Tapi_Segment} {lv : Nat} {i : Int} {n : Nat} {a : RA} (h : Bd n a) : Bd (n + 1) (tailS s lv i a) := by
  obtain ⟨b1, b2, b3⟩ := h
  have b3' : ∀ x ∈ a.flevels, 0 ≤ x.fmany ∧ x.fmany ≤ ((n + 1 : Nat) : Int) + 1 ∧ x.frefs.length ≤ n + 1 := fun x hx => by have := b3 x hx; omega
  unfold tailS
  split
  · exact ⟨b1, by simp only [noteS, List.length_append, List.length_cons, List.length_nil]; omega, b3'⟩
  · split
    · exact ⟨b1, by omega, b3'⟩
    · refine ⟨?_, ?_, fun x hx => b3' x (List.mem_of_mem_take hx)⟩
      · rw [List.length_take]; omega
      · have : ∀ t, (if s.fElements.all single = true then tlN (s.fElements.map firstT) lv i t else [⟨6, i⟩]).length ≤ 2 := fun t => by
          split
          · exact tlN_len _ _ _ _
          · simp
        simp only [leaveS, List.length_append, List.length_replicate]
        have := this ‹RO›
        omega
theorem stepA_Bd {s : Tapi_Segment} {i : Int} {n : Nat} {a : RA} (h : Bd n a) : Bd (n + 1) (stepA s i a) := by
  unfold stepA
  split
  · refine headS_Bd ?_ h
    unfold lvlT; split <;> (try split) <;> (try split) <;> omega
  · split
    · exact tailS_Bd h
    · obtain ⟨b1, b2, b3⟩ := h
      have b3' : ∀ x ∈ a.flevels, 0 ≤ x.fmany ∧ x.fmany ≤ ((n + 1 : Nat) : Int) + 1 ∧ x.frefs.length ≤ n + 1 := fun x hx => by have := b3 x hx; omega
      split
      · exact ⟨b1, by simp only [noteS, List.length_append, List.length_cons, List.length_nil]; omega, b3'⟩
      · unfold bumpS
        split
        · exact ⟨b1, by omega, b3'⟩
        · rename_i x hx
          refine ⟨by rw [List.length_set]; exact b1, by simp only; omega, fun y hy => ?_⟩
          rcases List.mem_or_eq_of_mem_set hy with hy | rfl
          · exact b3' y hy
          · have := b3 x (List.mem_of_getElem? hx)
            simp only; omega
theorem runA_Bd : ∀ (l : List Tapi_Segment) (i : Nat) (a : RA), Bd i a → Bd (i + l.length) (runA l i a)
  | [], i, a, h => h
  | s :: l, i, a, h => by
    have := runA_Bd l (i + 1) _ (stepA_Bd (s := s) (i := (i : Int)) h)
    rw [show i + (s :: l).length = i + 1 + l.length by simp; omega]
    exact this
theorem Bd0 : Bd 0 ⟨[], []⟩ := ⟨by simp, by simp, by simp⟩
def SegsOk (l : List Tapi_Segment) : Prop := l.length ≤ 2000 ∧ ∀ s ∈ l, ElOk s.fElements
theorem segs_ok {l : List Tapi_Segment} (h : segsF l = 0) : SegsOk l := by
  unfold segsF at h
  split at h
  · cases h
  · refine ⟨by omega, fun s hs => ?_⟩
    have := listF_zero h s hs
    unfold segF at this
    split at this
    · cases this
    · split at this
      · cases this
      · exact ⟨by omega, fun e he => listF_zero this e he⟩

/-! ### The order of notes -/
def ltN (a b : Nt) : Bool := decide (a.fSegment < b.fSegment) || (decide (a.fSegment = b.fSegment) && decide (a.fKind < b.fKind))
theorem ltN_iff (a b : Nt) : ltN a b = true ↔ a.fSegment < b.fSegment ∨ (a.fSegment = b.fSegment ∧ a.fKind < b.fKind) := by unfold ltN; simp
theorem ltN_f (a b : Nt) : ltN a b = false ↔ ¬ (a.fSegment < b.fSegment ∨ (a.fSegment = b.fSegment ∧ a.fKind < b.fKind)) := by rw [← ltN_iff]; simp
theorem ordN : Ordr ltN where
  asym := fun a b h => by rw [ltN_iff] at h; rw [ltN_f]; omega
  tr := fun a b c h g => by rw [ltN_f] at *; omega
end Go.Proofs.YtcnohbiegjahkaaGreatDoor

/-
  Plain laws of the audit: the reference's Audit.
-/
namespace Go.Proofs.YtcnohbiegjahkaaGreatDoor
set_option linter.unusedSimpArgs false
set_option linter.unusedVariables false
open Go.RowKit

theorem lvl_cases {tag : List UInt8} : (headT tag = true → ∃ lv, lv ≤ 2 ∧ lvlT tag - 1 = lv ∧ tag = headTag lv) ∧ (headT tag = false → 0 < lvlT tag → ∃ lv, lv ≤ 2 ∧ lvlT tag - 1 = lv ∧ tag = tailTag lv) := by
  refine ⟨fun h => ?_, fun h g => ?_⟩
  · unfold headT at h
    simp only [Bool.or_eq_true, decide_eq_true_eq] at h
    rcases h with (rfl | rfl) | rfl
    · exact ⟨0, by omega, rfl, rfl⟩
    · exact ⟨1, by omega, rfl, rfl⟩
    · exact ⟨2, by omega, rfl, rfl⟩
  · unfold headT at h
    simp only [Bool.or_eq_false_iff, decide_eq_false_iff_not] at h
    unfold lvlT at g
    by_cases h1 : tag = tITR
    · subst h1; exact ⟨0, by omega, rfl, rfl⟩
    by_cases h2 : tag = tGTR
    · subst h2; exact ⟨1, by omega, rfl, rfl⟩
    by_cases h3 : tag = tMTR
    · subst h3; exact ⟨2, by omega, rfl, rfl⟩
    rw [if_neg (by rintro (h | h) <;> simp_all), if_neg (by rintro (h | h) <;> simp_all), if_neg (by rintro (h | h) <;> simp_all)] at g
    omega

/-! ### The sort by insertion -/
theorem ins_srt {x : Nt} {out : List Nt} {k : Nat} (hs : Srt ltN out) (h1 : ∀ y ∈ out.take k, ltN x y = false) (h2 : ∀ y ∈ out.drop k, ltN x y = true) : Srt ltN (out.take k ++ [x] ++ out.drop k) ∧ SP ltN (out ++ [x]) (out.take k ++ [x] ++ out.drop k) := by
  have hs' : Srt ltN (out.take k ++ out.drop k) := by rwa [List.take_append_drop]
  have hs2 := srt_app.1 hs'
  refine ⟨?_, ?_⟩
  · rw [List.append_assoc]
    refine srt_app.2 ⟨hs2.1, List.pairwise_cons.2 ⟨fun y hy => ordN.asym _ _ (h2 y hy), hs2.2.1⟩, fun a ha b hb => ?_⟩
    rcases List.mem_cons.1 hb with rfl | hb
    · exact h1 a ha
    · exact hs2.2.2 a ha b hb
  · have : out ++ [x] = out.take k ++ (out.drop k ++ [x]) := by rw [← List.append_assoc, List.take_append_drop]
    rw [this, List.append_assoc]
    exact (SP.refl ltN _).app (SP.swap ordN (fun u hu v hv => by rw [List.mem_singleton.1 hv]; exact h2 u hu))

theorem r_audit (l : List Tapi_Segment) (h : SegsOk l) : ∃ W, m_interchangeref2_audit l = some W ∧ Srt ltN W ∧ SP ltN (auN l) W := by
  unfold m_interchangeref2_audit sims_GF_0_0; dsimp only
  have hB : ∀ i, i ≤ l.length → Bd i (runA (l.take i) 0 ⟨[], []⟩) := fun i hi => by
    have := runA_Bd (l.take i) 0 _ Bd0
    rwa [List.length_take, Nat.zero_add, Nat.min_eq_left hi] at this
  have hlen := h.1
  refine loop_to' (X := Nat) (C := fun W => Srt ltN W ∧ SP ltN (auN l) W) (fun i => ((runA (l.take i) 0 ⟨[], []⟩).flevels, (runA (l.take i) 0 ⟨[], []⟩).fnotes, (i : Int))) (fun i => l.length - i) (fun i => i ≤ l.length) ?_ 0 (Nat.zero_le _)
  intro i hi
  have hb := hB i hi
  rcases Nat.lt_or_ge i l.length with h1 | h1
  · refine .inl ⟨i + 1, h1, by omega, ?_⟩
    obtain ⟨s, hs⟩ := get_lt h1
    have hE := h.2 s (List.mem_of_getElem? hs)
    have w : IntKind.i64.wrap ((i : Int) + 1) = ((i + 1 : Nat) : Int) := wrapN i (by omega)
    have hr : runA (l.take (i + 1)) 0 ⟨[], []⟩ = stepA s (i : Int) (runA (l.take i) 0 ⟨[], []⟩) := by
      rw [take_snoc hs, runA_snoc, List.length_take, Nat.zero_add, Nat.min_eq_left hi]
    rw [hr]
    generalize runA (l.take i) 0 ⟨[], []⟩ = a at hb
    obtain ⟨b1, b2, b3⟩ := id hb
    simp only [lt_dec h1, cond_true, getI_nat, hs, Option.bind_some, r_isHead, r_env, w]
    unfold stepA
    cases ht : headT s.fTag with
    | true =>
      obtain ⟨lv, e1, e2, e3⟩ := lvl_cases.1 ht
      simp only [cond_true, if_true, e2]
      rw [show (⟨a.flevels, a.fnotes⟩ : RA) = a from rfl, r_headA a s lv i (by omega) hb e1 e3 hE]
      rfl
    | false =>
      simp only [cond_false, Bool.false_eq_true, if_false]
      by_cases h0 : 0 < lvlT s.fTag
      · obtain ⟨lv, e1, e2, e3⟩ := lvl_cases.2 ht h0
        rw [if_pos h0, decide_eq_true h0, e2, show (⟨a.flevels, a.fnotes⟩ : RA) = a from rfl, r_tail a s lv i (by omega) hb e1 e3 hE]
        rfl
      · rw [if_neg h0, decide_eq_false h0]
        simp only [cond_false]
        by_cases h3 : a.flevels.length < 3
        · have d : decide ((a.flevels.length : Int) < 3) = true := decide_eq_true (by omega)
          rw [if_pos h3, d, show (⟨a.flevels, a.fnotes⟩ : RA) = a from rfl, r_note a 7 (i : Int) (by omega)]
          rfl
        · have d : decide ((a.flevels.length : Int) < 3) = false := decide_eq_false (by omega)
          obtain ⟨x, hx⟩ : ∃ x, a.flevels[2]? = some x := get_lt (by omega)
          have g : getI a.flevels 2 = some x := by rw [show (2 : Int) = ((2 : Nat) : Int) from rfl, getI_nat]; exact hx
          have hm := b3 x (List.mem_of_getElem? hx)
          have w2 : IntKind.i64.wrap (x.fmany + 1) = x.fmany + 1 := wrap64 _ (by omega) (by omega)
          rw [if_neg h3, d]
          simp only [cond_false, g, Option.bind_some, w2, bumpS, hx]
  · have : i = l.length := by omega
    subst this
    rw [List.take_length] at hb ⊢
    refine .inr ⟨.inl ((runA l 0 ⟨[], []⟩).flevels, (runA l 0 ⟨[], []⟩).fnotes, ((l.length : Nat) : Int)), ?_⟩
    obtain ⟨b1, b2, b3⟩ := hb
    have hlea := r_leave (runA l 0 ⟨[], []⟩) 0 ((l.length : Nat) : Int) (by omega) b1
    have hN : (auN l).length ≤ 10 * l.length + 3 := by simp only [auN, leaveS, List.length_append, List.length_replicate]; omega
    simp only [lt_dec_self, cond_false]
    simp only [outK]
    rw [show (⟨(runA l 0 ⟨[], []⟩).flevels, (runA l 0 ⟨[], []⟩).fnotes⟩ : RA) = runA l 0 ⟨[], []⟩ from rfl, show (0 : Int) = ((0 : Nat) : Int) from rfl, hlea]
    simp only [Option.bind_some]
    have hfl : (leaveS 0 ((l.length : Nat) : Int) (runA l 0 ⟨[], []⟩)).flevels = [] := by simp [leaveS]
    rw [hfl, show (leaveS 0 ((l.length : Nat) : Int) (runA l 0 ⟨[], []⟩)).fnotes = auN l from rfl]
    generalize auN l = N at hN
    obtain ⟨W, hW, w1, w2⟩ := loop_to' (X := Nat × List Nt) (k := outK fun s : List RO × List Nt × List Nt × Int => some s.2.2.1) (C := fun W => Srt ltN W ∧ SP ltN N W)
      (f := fun s => bif decide (s.2.2.2 < (s.2.1.length : Int)) then (getI s.2.1 s.2.2.2).bind fun _ => s.2.1[s.2.2.2.toNat]?.bind fun e => (loopC (fun s_1 : List RO × List Nt × Int => (andO (decide (0 < s_1.2.2)) ((getI s.2.2.1 (IntKind.i64.wrap (s_1.2.2 - 1))).bind fun e_1 => (orO (decide (e.fSegment < e_1.fSegment)) ((getI s.2.2.1 (IntKind.i64.wrap (s_1.2.2 - 1))).bind fun e_2 => (andO (decide (e_2.fSegment = e.fSegment)) ((getI s.2.2.1 (IntKind.i64.wrap (s_1.2.2 - 1))).bind fun e_3 => some (decide (e.fKind < e_3.fKind)))).bind fun v => some v)).bind fun v => some v)).bind fun v =>
          bif v then some (.inl (s_1.1, s_1.2.1, IntKind.i64.wrap (s_1.2.2 - 1))) else inrO (some (.inl (s_1.1, s_1.2.1, s_1.2.2)))) (s.1, s.2.1, (s.2.2.1.length : Int))).bind (outK fun s_1 => (sliceI s.2.2.1 ((none : Option Int).getD 0) ((some s_1.2.2).getD (s.2.2.1.length : Int))).bind fun e_1 => thenO (lenO e_1.length) (thenO (lenO (e_1.length + [e].length)) ((sliceI s.2.2.1 ((some s_1.2.2).getD 0) ((none : Option Int).getD (s.2.2.1.length : Int))).bind fun e_2 => thenO (lenO ((e_1 ++ [e]).length + e_2.length)) (some (.inl (s_1.1, s_1.2.1, e_1 ++ [e] ++ e_2, IntKind.i64.wrap (s.2.2.2 + 1)))))))
        else inrO (some (.inl (s.1, s.2.1, s.2.2.1, s.2.2.2))))
      (fun x => ([], N, x.2, (x.1 : Int))) (fun x => N.length - x.1) (fun x => x.1 ≤ N.length ∧ Srt ltN x.2 ∧ SP ltN (N.take x.1) x.2) (by
        rintro ⟨j, out⟩ ⟨hj, hs, hsp⟩
        simp only at hj hs hsp
        have hol : out.length = j := by rw [← hsp.1.length_eq, List.length_take]; omega
        rcases Nat.lt_or_ge j N.length with h2 | h2
        · obtain ⟨x, hx⟩ := get_lt h2
          have wj : IntKind.i64.wrap ((j : Int) + 1) = ((j + 1 : Nat) : Int) := wrapN j (by omega)
          simp only [lt_dec h2, cond_true, getI_nat, hx, Option.bind_some, Int.toNat_natCast, wj]
          generalize hm : Option.bind (loopC _ _) (outK _) = m
          have key : ∃ c, m = some c ∧ ∃ out', c = Sum.inl (([] : List RO), N, out', ((j + 1 : Nat) : Int)) ∧ Srt ltN out' ∧ SP ltN (out ++ [x]) out' := by
            rw [← hm]
            refine loop_to' (X := Nat) (C := fun c => ∃ out', c = Sum.inl (([] : List RO), N, out', ((j + 1 : Nat) : Int)) ∧ Srt ltN out' ∧ SP ltN (out ++ [x]) out') (fun k => (([] : List RO), N, (k : Int))) (fun k => k) (fun k => k ≤ out.length ∧ ∀ y ∈ out.drop k, ltN x y = true) ?_ out.length ⟨Nat.le_refl _, by simp⟩
            rintro k ⟨hk, hd⟩
            have fin : (∀ y ∈ out.take k, ltN x y = false) → ∃ c, (outK (fun s_1 : List RO × List Nt × Int => (sliceI out ((none : Option Int).getD 0) ((some s_1.2.2).getD (out.length : Int))).bind fun e_1 => thenO (lenO e_1.length) (thenO (lenO (e_1.length + [x].length)) ((sliceI out ((some s_1.2.2).getD 0) ((none : Option Int).getD (out.length : Int))).bind fun e_2 => thenO (lenO ((e_1 ++ [x]).length + e_2.length)) (some (.inl (s_1.1, s_1.2.1, e_1 ++ [x] ++ e_2, ((j + 1 : Nat) : Int))))))) (.inl (([] : List RO), N, (k : Int))) : Option ((List RO × List Nt × List Nt × Int) ⊕ ((List RO × List Nt × List Nt × Int) ⊕ List Nt))) = some c ∧ ∃ out', c = Sum.inl (([] : List RO), N, out', ((j + 1 : Nat) : Int)) ∧ Srt ltN out' ∧ SP ltN (out ++ [x]) out' := by
              intro ht
              have s1 : sliceI out ((none : Option Int).getD 0) ((some (k : Int)).getD (out.length : Int)) = some (out.take k) := sliceI_take out k hk
              have s2 : sliceI out ((some (k : Int)).getD 0) ((none : Option Int).getD (out.length : Int)) = some (out.drop k) := by
                unfold sliceI
                rw [if_pos ⟨by simp, by simp; omega, by simp⟩]
                simp
              have l1 : lenO (out.take k).length = some () := by unfold lenO; rw [if_pos (by rw [List.length_take]; omega)]
              have l2 : lenO ((out.take k).length + [x].length) = some () := by unfold lenO; rw [if_pos (by rw [List.length_take, List.length_singleton]; omega)]
              have l3 : lenO ((out.take k ++ [x]).length + (out.drop k).length) = some () := by unfold lenO; rw [if_pos (by rw [List.length_append, List.length_take, List.length_drop, List.length_singleton]; omega)]
              obtain ⟨o1, o2⟩ := ins_srt hs ht hd
              refine ⟨_, ?_, out.take k ++ [x] ++ out.drop k, rfl, o1, o2⟩
              simp only [outK, s1, s2, l1, l2, l3, thenO, Option.bind_some]
            rcases Nat.eq_zero_or_pos k with hk0 | hk0
            · subst hk0
              obtain ⟨c, c1, c2⟩ := fin (by simp)
              refine .inr ⟨.inl (([] : List RO), N, ((0 : Nat) : Int)), c, rfl, c1, c2⟩
            · obtain ⟨e, he⟩ : ∃ e, out[k - 1]? = some e := get_lt (by omega)
              have wk : IntKind.i64.wrap ((k : Int) - 1) = ((k - 1 : Nat) : Int) := by rw [wrap64 _ (by omega) (by omega)]; omega
              have d0 : decide ((0 : Int) < (k : Int)) = true := decide_eq_true (by omega)
              have hv : (decide (x.fSegment < e.fSegment) || (decide (e.fSegment = x.fSegment) && decide (x.fKind < e.fKind))) = ltN x e := by
                unfold ltN
                rw [Bool.eq_iff_iff]; simp; omega
              have gk : getI out (((k - 1 : Nat) : Int)) = some e := by rw [getI_nat]; exact he
              cases hlt : ltN x e with
              | true =>
                refine .inl ⟨k - 1, ⟨by omega, ?_⟩, by omega, ?_⟩
                · intro y hy
                  have : out.drop (k - 1) = e :: out.drop k := by
                    have := List.drop_eq_getElem_cons (l := out) (i := k - 1) (by omega)
                    rw [this, show k - 1 + 1 = k by omega]
                    congr 1
                    exact (List.getElem?_eq_some_iff.1 he).2
                  rw [this] at hy
                  rcases List.mem_cons.1 hy with rfl | hy
                  · exact hlt
                  · exact hd y hy
                · dsimp only
                  simp only [d0, wk, gk, Option.bind_some, andO_some, orO_some, hv, hlt, Bool.and_self, cond_true]
              | false =>
                obtain ⟨c, c1, c2⟩ := fin (take_all hs (P := fun y => ltN x y = false) ordN (fun v v' h g => ordN.tr v' v x h g) (.inr ⟨e, he, hlt⟩))
                refine .inr ⟨.inl (([] : List RO), N, (k : Int)), c, ?_, c1, c2⟩
                dsimp only
                simp only [d0, wk, gk, Option.bind_some, andO_some, orO_some, hv, hlt, cond_false]
                rfl
          obtain ⟨c, rfl, out', rfl, o1, o2⟩ := key
          refine .inl ⟨(j + 1, out'), ⟨h2, o1, ?_⟩, by simp only; omega, rfl⟩
          rw [take_snoc hx]
          exact (hsp.app (SP.refl ltN [x])).trans o2
        · have : j = N.length := by omega
          subst this
          rw [List.take_length] at hsp
          refine .inr ⟨.inl ([], N, out, ((N.length : Nat) : Int)), out, ?_, rfl, hs, hsp⟩
          simp only [lt_dec_self, cond_false]; rfl) (0, []) ⟨Nat.zero_le _, List.Pairwise.nil, SP.refl _ _⟩
    exact ⟨W, rfl, hW, w1, w2⟩
theorem r_Audit (l : List Tapi_Segment) (hs : TagsShort l) : ∃ W, m_interchangeref2_Audit l = some (W, segsF l) ∧ (segsF l ≠ 0 → W = []) ∧ (segsF l = 0 → Srt ltN W ∧ SP ltN (auN l) W) := by
  unfold m_interchangeref2_Audit sims_GF_1_0; dsimp only
  rw [r_segs l hs]
  simp only [Option.bind_some]
  by_cases h : segsF l = 0
  · obtain ⟨W, w1, w2, w3⟩ := r_audit l (segs_ok h)
    refine ⟨W, ?_, fun g => absurd h g, fun _ => ⟨w2, w3⟩⟩
    rw [decide_eq_true h, w1, h]; rfl
  · refine ⟨[], ?_, fun _ => rfl, fun g => absurd g h⟩
    rw [decide_eq_false h]; rfl
end Go.Proofs.YtcnohbiegjahkaaGreatDoor

/-
  Plain laws of the audit: the program's auditor beside the reference's.
-/
namespace Go.Proofs.YtcnohbiegjahkaaGreatDoor
set_option linter.unusedSimpArgs false
set_option linter.unusedVariables false
open Go.RowKit

abbrev PA := Twire_auditor
abbrev PO := Twire_open
theorem getM_put (k : List UInt8) (v : Bool) (k' : List UInt8) : ∀ (W : List (List UInt8 × Bool)), getM (putM W k v) k' = if k' = k then some v else getM W k'
  | [] => by
    unfold putM getM
    by_cases h : k' = k <;> simp [h, getM]
  | p :: W => by
    unfold putM
    by_cases hp : k = p.1
    · rw [if_pos hp]
      unfold getM
      by_cases h : k' = k
      · simp [h]
      · simp [h, ← hp]
    · rw [if_neg hp]
      show (if k' = p.1 then some p.2 else getM (putM W k v) k') = _
      rw [getM_put k v k' W]
      by_cases h : k' = k
      · subst h; simp [hp, getM]
      · simp [h, getM]

/-! ### Two lists side by side -/
inductive Fa2 {α β : Type} (P : α → β → Prop) : List α → List β → Prop
  | nil : Fa2 P [] []
  | cons {x : α} {y : β} {l : List α} {m : List β} : P x y → Fa2 P l m → Fa2 P (x :: l) (y :: m)
theorem Fa2.len {α β : Type} {P : α → β → Prop} {l : List α} {m : List β} (h : Fa2 P l m) : l.length = m.length := by
  induction h with
  | nil => rfl
  | cons _ _ ih => simp [ih]
theorem Fa2.app {α β : Type} {P : α → β → Prop} {l : List α} {m : List β} (h : Fa2 P l m) {l' : List α} {m' : List β} (g : Fa2 P l' m') : Fa2 P (l ++ l') (m ++ m') := by
  induction h with
  | nil => exact g
  | cons h1 _ ih => exact .cons h1 ih
theorem Fa2.take {α β : Type} {P : α → β → Prop} {l : List α} {m : List β} (h : Fa2 P l m) (n : Nat) : Fa2 P (l.take n) (m.take n) := by
  induction h generalizing n with
  | nil => simp; exact .nil
  | cons h1 _ ih =>
    cases n with
    | zero => exact .nil
    | succ n => exact .cons h1 (ih n)
theorem Fa2.get {α β : Type} {P : α → β → Prop} {l : List α} {m : List β} (h : Fa2 P l m) {n : Nat} {x : α} (hx : l[n]? = some x) : ∃ y, m[n]? = some y ∧ P x y := by
  induction h generalizing n with
  | nil => simp at hx
  | cons h1 _ ih =>
    cases n with
    | zero => simp at hx; subst hx; exact ⟨_, rfl, h1⟩
    | succ n => exact ih (by simpa using hx)
theorem Fa2.rep {α β : Type} {P : α → β → Prop} {x : α} {y : β} (h : P x y) (n : Nat) : Fa2 P (List.replicate n x) (List.replicate n y) := by
  induction n with
  | zero => exact .nil
  | succ n ih => exact .cons h ih
theorem Fa2.snoc {α β : Type} {P : α → β → Prop} {x : α} : ∀ {l : List α} {m : List β}, Fa2 P (l ++ [x]) m → ∃ m' y, m = m' ++ [y] ∧ Fa2 P l m' ∧ P x y
  | [], m, h => by
    cases h with
    | cons h1 h2 => cases h2; exact ⟨[], _, rfl, .nil, h1⟩
  | a :: l, m, h => by
    cases h with
    | cons h1 h2 =>
      obtain ⟨m', y, rfl, g1, g2⟩ := Fa2.snoc h2
      exact ⟨_ :: m', y, rfl, .cons h1 g1, g2⟩

/-! ### Levels side by side -/
def Refs (W : List (List UInt8 × Bool)) (l : List (List UInt8)) : Prop := ∀ y, (getM W y).getD false = decide (y ∈ l)
structure Rl (p : PO) (r : RO) : Prop where
  kn : p.fknown = r.fheaded
  rf : p.fref = r.fref
  ma : p.fmany = r.fmany
  rs : Refs p.frefs r.frefs
structure R2 (i : Int) (p : PO) (r : RO) : Prop where
  kn : p.fknown = r.fheaded
  rf : p.fref = r.fref
  ma : r.fmany = i - p.fat
  at0 : 0 ≤ p.fat
inductive RelL (i : Int) : List PO → List RO → Prop
  | low {pl : List PO} {rl : List RO} : pl.length ≤ 2 → Fa2 Rl pl rl → RelL i pl rl
  | top {pl : List PO} {rl : List RO} {x : PO} {y : RO} : pl.length = 2 → Fa2 Rl pl rl → R2 i x y → RelL i (pl ++ [x]) (rl ++ [y])
structure Rel (i : Int) (p : PA) (r : RA) : Prop where
  nt : p.fnotes = r.fnotes
  lv : RelL i p.flevels r.flevels
theorem RelL.len {i : Int} {pl : List PO} {rl : List RO} (h : RelL i pl rl) : pl.length = rl.length := by
  cases h with
  | low _ h => exact h.len
  | top _ h _ => simp [h.len]
theorem RelL.take {i : Int} {pl : List PO} {rl : List RO} (h : RelL i pl rl) {n : Nat} (hn : n ≤ 2) : Fa2 Rl (pl.take n) (rl.take n) := by
  cases h with
  | low _ h => exact h.take n
  | top h0 h _ =>
    rw [List.take_append_of_le_length (by omega), List.take_append_of_le_length (by rw [← h.len]; omega)]
    exact h.take n

/-! ### Notes, closing -/
theorem p_note (a : PA) (k i : Int) (h : a.fnotes.length ≤ 100000) : m_interchange_wire_auditor_note a k i = some ((), ⟨a.flevels, a.fnotes ++ [⟨k, i⟩]⟩) := by
  unfold m_interchange_wire_auditor_note sims_GB_0_1; dsimp only
  unfold lenO thenO
  rw [if_pos (by simp only [List.length_cons, List.length_nil]; omega)]
  rfl
theorem p_close (a : PA) (to : Nat) (i : Int) (h : a.fnotes.length ≤ 50000) (hl : a.flevels.length ≤ 3) : m_interchange_wire_auditor_close a (to : Int) i = some ((), ⟨a.flevels.take to, a.fnotes ++ List.replicate (a.flevels.length - to) ⟨2, i⟩⟩) := by
  unfold m_interchange_wire_auditor_close sims_GB_1_0; dsimp only
  rw [show (a.flevels, a.fnotes) = ((fun d : Nat => (a.flevels.take (a.flevels.length - d), a.fnotes ++ List.replicate d (⟨2, i⟩ : Nt))) 0) by simp]
  refine loop_to (X := Nat) (fun d : Nat => (a.flevels.take (a.flevels.length - d), a.fnotes ++ List.replicate d (⟨2, i⟩ : Nt))) (fun d => a.flevels.length - d) (fun d => d ≤ a.flevels.length - to) ?_ 0 (Nat.zero_le _)
  intro d hd
  have hlen : (a.flevels.take (a.flevels.length - d)).length = a.flevels.length - d := by rw [List.length_take]; omega
  rcases Nat.lt_or_ge d (a.flevels.length - to) with h1 | h1
  · refine .inl ⟨d + 1, h1, by omega, ?_⟩
    have d1 : decide ((to : Int) < ((a.flevels.take (a.flevels.length - d)).length : Int)) = true := decide_eq_true (by rw [hlen]; omega)
    have hn := p_note ⟨a.flevels.take (a.flevels.length - d), a.fnotes ++ List.replicate d ⟨2, i⟩⟩ 2 i (by simp only [List.length_append, List.length_replicate]; omega)
    have w : IntKind.i64.wrap (((a.flevels.take (a.flevels.length - d)).length : Int) - 1) = ((a.flevels.length - (d + 1) : Nat) : Int) := by rw [hlen, wrap64 _ (by omega) (by omega)]; omega
    dsimp only
    rw [d1, hn]
    simp only [cond_true, Option.bind_some, w]
    rw [sliceI_take _ _ (by rw [hlen]; omega), List.take_take, Nat.min_eq_left (by omega), List.append_assoc, rep_snoc]
    rfl
  · have hd' : d = a.flevels.length - to := by omega
    have d1 : decide ((to : Int) < ((a.flevels.take (a.flevels.length - d)).length : Int)) = false := decide_eq_false (by rw [hlen]; omega)
    refine .inr ⟨.inl (a.flevels.take (a.flevels.length - d), a.fnotes ++ List.replicate d ⟨2, i⟩), ?_, ?_⟩
    · dsimp only
      rw [d1]; rfl
    · unfold outK
      rw [hd']
      have : a.flevels.take (a.flevels.length - (a.flevels.length - to)) = a.flevels.take to := by
        rcases Nat.lt_or_ge to a.flevels.length with h2 | h2
        · rw [show a.flevels.length - (a.flevels.length - to) = to by omega]
        · rw [List.take_of_length_le h2, List.take_of_length_le (by omega)]
      rw [this]
theorem p_heads : m_wire_heads = some [tIHD, tGHD, tMHD] := by
  unfold m_wire_heads sims_GA_0_0; dsimp only
  rfl
theorem p_tails : m_wire_tails = some [tITR, tGTR, tMTR] := by
  unfold m_wire_tails sims_GA_0_0; dsimp only
  rfl
theorem p_idx (a b c x : List UInt8) : m_slices_Index_string_string [a, b, c] x = some (if x = a then 0 else if x = b then 1 else if x = c then 2 else -1) := by
  unfold m_slices_Index_string_string sims_GB_0_0; dsimp only
  have w1 : IntKind.i64.wrap (0 + 1) = 1 := by rw [wrap64 _ (by omega) (by omega)]; omega
  have w2 : IntKind.i64.wrap (1 + 1) = 2 := by rw [wrap64 _ (by omega) (by omega)]; omega
  have w3 : IntKind.i64.wrap (2 + 1) = 3 := by rw [wrap64 _ (by omega) (by omega)]; omega
  have g0 : getI [a, b, c] 0 = some a := rfl
  have g1 : getI [a, b, c] 1 = some b := rfl
  have g2 : getI [a, b, c] 2 = some c := rfl
  have d0 : decide ((0 : Int) < (([a, b, c].length : Nat) : Int)) = true := rfl
  have d1 : decide ((1 : Int) < (([a, b, c].length : Nat) : Int)) = true := rfl
  have d2 : decide ((2 : Int) < (([a, b, c].length : Nat) : Int)) = true := rfl
  have d3 : decide ((3 : Int) < (([a, b, c].length : Nat) : Int)) = false := rfl
  rw [loopC_eq]
  simp only [d0, cond_true, g0, Option.bind_some, w1]
  by_cases h1 : x = a
  · simp [h1, inrO, outK]
  · simp only [decide_eq_false h1, cond_false, if_neg h1]
    rw [loopC_eq]
    simp only [d1, cond_true, g1, Option.bind_some, w2]
    by_cases h2 : x = b
    · simp [h2, inrO, outK]
    · simp only [decide_eq_false h2, cond_false, if_neg h2]
      rw [loopC_eq]
      simp only [d2, cond_true, g2, Option.bind_some, w3]
      by_cases h3 : x = c
      · simp [h3, inrO, outK]
      · simp only [decide_eq_false h3, cond_false, if_neg h3]
        rw [loopC_eq]
        simp only [d3, cond_false]
        simp [inrO, outK]
end Go.Proofs.YtcnohbiegjahkaaGreatDoor

/-
  Plain laws of the audit: the program's head beside the reference's.
-/
namespace Go.Proofs.YtcnohbiegjahkaaGreatDoor
set_option linter.unusedSimpArgs false
set_option linter.unusedVariables false
open Go.RowKit

def dumP : PO := ⟨false, [], 0, 0, []⟩
theorem dumRl : Rl dumP dumR := ⟨rfl, rfl, rfl, fun y => by simp [dumP, dumR, getM]⟩
theorem p_fill (lv : Nat) (L : List PO) (N : List Nt) (hlv : lv ≤ 3) (hL : L.length ≤ lv) (K : List PO × List Nt → Option (Unit × PA)) :
    (loopC (fun s : List PO × List Nt => bif decide (((s.1.length : Nat) : Int) < (lv : Int)) then thenO (lenO (s.1.length + 1)) (some (.inl (s.1 ++ [dumP], s.2))) else inrO (some (.inl (s.1, s.2)))) (L, N)).bind (outK K) = K (L ++ List.replicate (lv - L.length) dumP, N) := by
  rw [show (L, N) = ((fun d : Nat => (L ++ List.replicate d dumP, N)) 0) by simp]
  refine loop_to (X := Nat) (fun d : Nat => (L ++ List.replicate d dumP, N)) (fun d => lv - L.length - d) (fun d => d ≤ lv - L.length) ?_ 0 (Nat.zero_le _)
  intro d hd
  have hlen : (L ++ List.replicate d dumP).length = L.length + d := by rw [List.length_append, List.length_replicate]
  rcases Nat.lt_or_ge d (lv - L.length) with h1 | h1
  · refine .inl ⟨d + 1, h1, by omega, ?_⟩
    have d1 : decide (((L ++ List.replicate d dumP).length : Int) < (lv : Int)) = true := decide_eq_true (by rw [hlen]; omega)
    have hl : lenO ((L ++ List.replicate d dumP).length + 1) = some () := by unfold lenO; rw [if_pos (by rw [hlen]; omega)]
    dsimp only
    rw [d1, hl, ← rep_snoc, ← List.append_assoc]
    rfl
  · have hd' : d = lv - L.length := by omega
    have d1 : decide (((L ++ List.replicate d dumP).length : Int) < (lv : Int)) = false := decide_eq_false (by rw [hlen]; omega)
    refine .inr ⟨.inl (L ++ List.replicate d dumP, N), ?_, ?_⟩
    · dsimp only
      rw [d1]; rfl
    · rw [hd']; rfl
theorem ownF {es : List Tapi_Element} (h : own0 es = false) : isRef (refOf es) = false := by
  cases es with
  | nil => rfl
  | cons e es =>
    unfold own0 at h
    unfold refOf
    simp only at h ⊢
    cases hs : single e with
    | false => simp; rfl
    | true => rw [hs] at h; simpa using h
theorem ownT {es : List Tapi_Element} (h : own0 es = true) : isRef (refOf es) = true ∧ refOf es = first0 es := by
  cases es with
  | nil => simp [own0] at h
  | cons e es =>
    unfold own0 at h
    simp only [Bool.and_eq_true] at h
    unfold refOf first0
    simp only [h.1, if_true]
    exact ⟨h.2, trivial⟩
theorem relEnd {lv : Nat} {L : List PO} {R : List RO} (hF : Fa2 Rl L R) (hl : L.length = lv) (hlv : lv ≤ 2) (ref : List UInt8) (i : Nat) : RelL ((i + 1 : Nat) : Int) (L ++ [⟨true, ref, (i : Int), 0, []⟩]) (R ++ [⟨true, ref, if lv = 2 then 1 else 0, []⟩]) := by
  by_cases h : lv = 2
  · rw [if_pos h]
    exact .top (by omega) hF ⟨rfl, rfl, by simp only; omega, by simp only; omega⟩
  · rw [if_neg h]
    exact .low (by simp; omega) (hF.app (.cons ⟨rfl, rfl, rfl, fun y => by simp [getM]⟩ .nil))
theorem relEnd2 {lv : Nat} {P : List PO} {Q : List RO} {x : PO} {y : RO} (hF : Fa2 Rl P Q) (hxy : Rl x y) (hl : P.length + 1 = lv) (hlv : lv ≤ 2) (ref : List UInt8) (i : Nat) : RelL ((i + 1 : Nat) : Int) (P ++ [x] ++ [⟨true, ref, (i : Int), 0, []⟩]) (Q ++ [y] ++ [⟨true, ref, if lv = 2 then 1 else 0, []⟩]) :=
  relEnd (hF.app (.cons hxy .nil)) (by simp; omega) hlv ref i
theorem p_head {i : Nat} {p : PA} {r : RA} {n : Nat} (hn : n ≤ 2001) (hR : Rel (i : Int) p r) (hB : Bd n r) (s : Tapi_Segment) (lv : Nat) (hlv : lv ≤ 2) (hE : ElOk s.fElements) :
    ∃ p', m_interchange_wire_auditor_head p s (lv : Int) (i : Int) = some ((), p') ∧ Rel ((i + 1 : Nat) : Int) p' (headS s lv (i : Int) r) := by
  obtain ⟨b1, b2, b3⟩ := hB
  obtain ⟨e1, e2⟩ := hR
  have hll := e2.len
  have hclo := p_close p lv (i : Int) (by rw [e1]; omega) (by omega)
  have hF : Fa2 Rl (p.flevels.take lv) (leaveS lv (i : Int) r).flevels := e2.take hlv
  have hNN : p.fnotes ++ List.replicate (p.flevels.length - lv) ⟨2, (i : Int)⟩ = (leaveS lv (i : Int) r).fnotes := by simp only [leaveS, e1, hll]
  have hLl : (p.flevels.take lv).length ≤ lv := by rw [List.length_take]; omega
  have hN : (leaveS lv (i : Int) r).fnotes.length ≤ 10 * n + 3 := by simp only [leaveS, List.length_append, List.length_replicate]; omega
  have hm : ∀ x ∈ (leaveS lv (i : Int) r).flevels, 0 ≤ x.fmany ∧ x.fmany ≤ 100000 ∧ x.frefs.length ≤ 100000 := by
    intro x hx
    have := b3 x (List.mem_of_mem_take hx)
    omega
  unfold m_interchange_wire_auditor_head sims_GB_2_0; dsimp only
  rw [show (⟨p.flevels, p.fnotes⟩ : PA) = p from rfl, hclo]
  simp only [Option.bind_some, w_first s hE, w_head s hE, w_own s hE]
  rw [hNN]
  unfold headS fillRS
  generalize p.flevels.take lv = L at hF hLl
  generalize leaveS lv (i : Int) r = r1 at hF hN hm
  obtain ⟨R, N⟩ := r1
  simp only at hF hN hm ⊢
  have hRl := hF.len
  rcases Nat.lt_or_ge L.length lv with hc | hc
  have d1 : decide ((L.length : Int) < (lv : Int)) = true := decide_eq_true (by omega)
  rw [d1, if_pos (by omega), p_note _ 1 (i : Int) (by simp only; omega)]
  simp only [cond_true, Option.bind_some]
  have key := fun K => p_fill lv L (N ++ [⟨1, (i : Int)⟩]) (by omega) hLl K
  simp only [dumP] at key
  simp only [List.length_singleton]
  rw [key]
  have kl : (L ++ List.replicate (lv - L.length) (⟨false, [], 0, 0, []⟩ : PO)).length = lv := by simp only [List.length_append, List.length_replicate]; omega
  have hF3 : Fa2 Rl (L ++ List.replicate (lv - L.length) (⟨false, [], 0, 0, []⟩ : PO)) (R ++ List.replicate (lv - R.length) dumR) := by
    rw [← hRl]
    exact hF.app (Fa2.rep dumRl _)
  have k2 : (N ++ [(⟨1, (i : Int)⟩ : Nt)]).length ≤ 10 * n + 4 := by simp only [List.length_append, List.length_cons, List.length_nil]; omega
  have k3 : ∀ x ∈ R ++ List.replicate (lv - R.length) dumR, 0 ≤ x.fmany ∧ x.fmany ≤ 100000 ∧ x.frefs.length ≤ 100000 := by
    intro x hx
    rcases List.mem_append.1 hx with hx | hx
    · exact hm x hx
    · rw [List.eq_of_mem_replicate hx]; simp [dumR]
  generalize L ++ List.replicate (lv - L.length) (⟨false, [], 0, 0, []⟩ : PO) = L3 at kl hF3
  generalize R ++ List.replicate (lv - R.length) dumR = R3 at hF3 k3
  generalize N ++ [(⟨1, (i : Int)⟩ : Nt)] = N2 at k2
  cases hh : hdF s
  have k5 : (N2 ++ [(⟨6, (i : Int)⟩ : Nt)]).length ≤ 10 * n + 5 := by simp only [List.length_append, List.length_cons, List.length_nil]; omega
  simp only [Bool.not_false, cond_true, formS, hh, Bool.false_eq_true, if_false]
  rw [p_note _ 6 (i : Int) (by simp only; omega)]
  simp only [Option.bind_some, noteS]
  generalize N2 ++ [(⟨6, (i : Int)⟩ : Nt)] = NN at k5
  rotate_left
  have k5 : N2.length ≤ 10 * n + 5 := by omega
  simp only [Bool.not_true, cond_false, formS, hh, if_true]
  generalize N2 = NN at k5
  rotate_left
  have d1 : decide ((L.length : Int) < (lv : Int)) = false := decide_eq_false (by omega)
  rw [d1, if_neg (by omega)]
  simp only [cond_false]
  have kl : L.length = lv := by omega
  have hF3 := hF
  have k3 := hm
  generalize L = L3 at kl hF3
  generalize R = R3 at hF3 k3
  cases hh : hdF s
  have k5 : (N ++ [(⟨6, (i : Int)⟩ : Nt)]).length ≤ 10 * n + 5 := by simp only [List.length_append, List.length_cons, List.length_nil]; omega
  simp only [Bool.not_false, cond_true, formS, hh, Bool.false_eq_true, if_false]
  rw [p_note _ 6 (i : Int) (by simp only; omega)]
  simp only [Option.bind_some, noteS]
  generalize N ++ [(⟨6, (i : Int)⟩ : Nt)] = NN at k5
  rotate_left
  have k5 : N.length ≤ 10 * n + 5 := by omega
  simp only [Bool.not_true, cond_false, formS, hh, if_true]
  generalize N = NN at k5
  all_goals
    rcases Nat.eq_zero_or_pos lv with h0 | h0
    · subst h0
      have e3 : L3 = [] := List.length_eq_zero_iff.1 kl
      subst e3
      have e4 : R3 = [] := by have := hF3.len; cases R3 with
        | nil => rfl
        | cons _ _ => simp at this
      subst e4
      have d0 : decide ((0 : Int) < ((0 : Nat) : Int)) = false := rfl
      have l0 : lenO (([] : List PO).length + 1) = some () := rfl
      rw [d0]
      simp only [cond_false, List.length_cons, List.length_nil, Nat.zero_add, thenO]
      refine ⟨_, rfl, ⟨by rw [insA_nil], ?_⟩⟩
      rw [insA_nil]
      exact relEnd (lv := 0) Fa2.nil rfl (by omega) _ i
    · have d0 : decide ((0 : Int) < (lv : Int)) = true := decide_eq_true (by omega)
      rcases List.eq_nil_or_concat L3 with e3 | ⟨P, x, e3⟩
      · rw [e3] at kl; simp at kl; omega
      · rw [List.concat_eq_append] at e3
        subst e3
        obtain ⟨Q, y, rfl, hF4, hxy⟩ := hF3.snoc
        have hPl : P.length = lv - 1 := by simp at kl; omega
        have hy := k3 y (by simp)
        have wl : IntKind.i64.wrap ((lv : Int) - 1) = ((P.length : Nat) : Int) := by rw [wrap64 _ (by omega) (by omega)]; omega
        have gx : getI (P ++ [x]) ((P.length : Nat) : Int) = some x := by rw [getI_nat]; simp
        have sx : ∀ z : PO, (P ++ [x]).set P.length z = P ++ [z] := fun z => by simp
        have wx : IntKind.i64.wrap (x.fmany + 1) = x.fmany + 1 := by have := hxy.ma; exact wrap64 _ (by omega) (by omega)
        have lx : ∀ z : PO, lenO ((P ++ [z]).length + 1) = some () := fun z => by unfold lenO; rw [if_pos (by simp; omega)]
        have n5 : ∀ L, m_interchange_wire_auditor_note ⟨L, NN⟩ 5 (i : Int) = some ((), ⟨L, NN ++ [⟨5, i⟩]⟩) := fun L => p_note _ _ _ (by simp only; omega)
        simp only [d0, cond_true, wl, gx, Option.bind_some, Int.toNat_natCast, sx, wx, andO_some, hxy.rs (first0 s.fElements), n5, List.length_singleton, thenO]
        rw [insA_snoc]
        cases ho : own0 s.fElements with
        | false =>
          have hr := ownF ho
          simp only [Bool.false_and, cond_false]
          simp only [lx, Option.bind_some]
          refine ⟨_, rfl, ⟨by simp [insN, hr], ?_⟩⟩
          refine relEnd2 (lv := lv) hF4 ?_ (by omega) hlv _ i
          refine ⟨hxy.kn, hxy.rf, by simp [insO, hxy.ma], ?_⟩
          simp only [insO, hr, Bool.false_eq_true, if_false]
          exact hxy.rs
        | true =>
          obtain ⟨hr, he⟩ := ownT ho
          by_cases hm : first0 s.fElements ∈ y.frefs
          · simp only [Bool.true_and, decide_eq_true hm, cond_true]
            simp only [lx, Option.bind_some]
            refine ⟨_, rfl, ⟨by simp [insN, he ▸ hr, he, hm], ?_⟩⟩
            refine relEnd2 (lv := lv) hF4 ?_ (by omega) hlv _ i
            refine ⟨hxy.kn, hxy.rf, by simp [insO, hxy.ma], ?_⟩
            simp only [insO, hr, if_true]
            intro z
            rw [hxy.rs z, he]
            by_cases hz : z = first0 s.fElements
            · subst hz; simp [hm]
            · simp [hz]
          · simp only [Bool.true_and, decide_eq_false hm, cond_false, cond_true]
            simp only [lx, Option.bind_some]
            refine ⟨_, rfl, ⟨by simp [insN, he ▸ hr, he, hm], ?_⟩⟩
            refine relEnd2 (lv := lv) hF4 ?_ (by omega) hlv _ i
            refine ⟨hxy.kn, hxy.rf, by simp [insO, hxy.ma], ?_⟩
            simp only [insO, hr, if_true]
            intro z
            rw [getM_put, he]
            by_cases hz : z = first0 s.fElements
            · subst hz; simp
            · simp [hz, hxy.rs z]
end Go.Proofs.YtcnohbiegjahkaaGreatDoor

/-
  Plain laws of the audit: the program's tail; both audits tell the same.
-/
namespace Go.Proofs.YtcnohbiegjahkaaGreatDoor
set_option linter.unusedSimpArgs false
set_option linter.unusedVariables false
open Go.RowKit

theorem tailS_of {s : Tapi_Segment} {lv : Nat} {i : Int} {a : RA} {x : RO} (h : lv < a.flevels.length) (hx : a.flevels[lv]? = some x) :
    tailS s lv i a = ⟨a.flevels.take lv, (leaveS (lv + 1) i a).fnotes ++ (if s.fElements.all single = true then tlN (s.fElements.map firstT) lv i x else [⟨6, i⟩])⟩ := by
  unfold tailS
  rw [if_neg (by omega), hx]
theorem p_tail {i : Nat} {p : PA} {r : RA} {n : Nat} (hi : i ≤ 2001) (hn : n ≤ 2001) (hR : Rel (i : Int) p r) (hB : Bd n r) (s : Tapi_Segment) (lv : Nat) (hlv : lv ≤ 2) (hE : ElOk s.fElements) :
    ∃ p', m_interchange_wire_auditor_tail p s (lv : Int) (i : Int) = some ((), p') ∧ Rel ((i + 1 : Nat) : Int) p' (tailS s lv (i : Int) r) := by
  obtain ⟨b1, b2, b3⟩ := hB
  obtain ⟨e1, e2⟩ := hR
  have hll := e2.len
  have hl := firstT_len hE
  have ht := w_texts s.fTag hE
  unfold m_interchange_wire_auditor_tail sims_GB_2_1; dsimp only
  rcases Nat.lt_or_ge lv r.flevels.length with h1 | h1
  · have d1 : decide ((p.flevels.length : Int) ≤ (lv : Int)) = false := decide_eq_false (by omega)
    have wl : IntKind.i64.wrap ((lv : Int) + 1) = ((lv + 1 : Nat) : Int) := wrapN lv (by omega)
    have hclo := p_close p (lv + 1) (i : Int) (by rw [e1]; omega) (by omega)
    obtain ⟨x, hx⟩ := get_lt (show lv < p.flevels.length by omega)
    obtain ⟨y, hy⟩ := get_lt h1
    have hp : p.flevels.take (lv + 1) = p.flevels.take lv ++ [x] := take_snoc hx
    have hpl : (p.flevels.take lv).length = lv := by rw [List.length_take]; omega
    have hF : Fa2 Rl (p.flevels.take lv) (r.flevels.take lv) := e2.take hlv
    have hNN : p.fnotes ++ List.replicate (p.flevels.length - (lv + 1)) ⟨2, (i : Int)⟩ = (leaveS (lv + 1) (i : Int) r).fnotes := by simp only [leaveS, e1, hll]
    have hN : (leaveS (lv + 1) (i : Int) r).fnotes.length ≤ 10 * n + 3 := by simp only [leaveS, List.length_append, List.length_replicate]; omega
    -- what the level says
    have hxy : x.fknown = y.fheaded ∧ x.fref = y.fref ∧ (lv ≠ 2 → x.fmany = y.fmany) ∧ (lv = 2 → IntKind.i64.wrap (IntKind.i64.wrap ((i : Int) - x.fat) + 1) = y.fmany + 1) := by
      have hyb := b3 y (List.mem_of_getElem? hy)
      generalize hpl2 : p.flevels = pl at e2 hx
      generalize hrl2 : r.flevels = rl at e2 hy
      cases e2 with
      | low h0 h =>
        obtain ⟨z, hz, hq⟩ := h.get hx
        have : z = y := by rw [hy] at hz; exact (Option.some.inj hz).symm
        subst this
        refine ⟨hq.kn, hq.rf, fun _ => hq.ma, fun h2 => ?_⟩
        have := List.getElem?_eq_some_iff.1 hx
        obtain ⟨h5, _⟩ := this
        omega
      | @top pl' rl' x' y' h0 h hq =>
        rcases Nat.lt_or_ge lv 2 with h2 | h2
        · rw [List.getElem?_append_left (by omega)] at hx
          rw [List.getElem?_append_left (by rw [← h.len]; omega)] at hy
          obtain ⟨z, hz, hq⟩ := h.get hx
          have : z = y := by rw [hy] at hz; exact (Option.some.inj hz).symm
          subst this
          exact ⟨hq.kn, hq.rf, fun _ => hq.ma, fun h2 => by omega⟩
        · have h3 : lv = 2 := by omega
          subst h3
          rw [List.getElem?_append_right (by omega), h0] at hx
          rw [List.getElem?_append_right (by rw [← h.len]; omega), ← h.len, h0] at hy
          simp at hx hy
          subst hx hy
          refine ⟨hq.kn, hq.rf, fun g => absurd rfl g, fun _ => ?_⟩
          have := hq.ma
          have := hq.at0
          rw [wrap64 ((i : Int) - x'.fat) (by omega) (by omega), wrap64 _ (by omega) (by omega)]
          omega
    have ht' : m_wire_texts s = some (txW s.fElements) := ht
    rw [tailS_of h1 hy, d1, show (⟨p.flevels, p.fnotes⟩ : PA) = p from rfl, wl, hclo, hp, hNN]
    simp only [cond_false, Option.bind_some, ht', p_heads]
    have hRel : ∀ N, Rel ((i + 1 : Nat) : Int) (⟨p.flevels.take lv, N⟩ : PA) (⟨r.flevels.take lv, N⟩ : RA) := fun N => ⟨rfl, .low (by rw [hpl]; exact hlv) hF⟩
    generalize (leaveS (lv + 1) (i : Int) r).fnotes = N at hN
    generalize p.flevels.take lv = P at hpl hRel
    have g1 : getI (P ++ [x]) (lv : Int) = some x := by rw [getI_nat, ← hpl]; simp
    have g3 : sliceI (P ++ [x]) 0 (lv : Int) = some P := by rw [sliceI_take _ _ (by simp; omega), ← hpl]; simp
    have n1 : ∀ L k, m_interchange_wire_auditor_note ⟨L, N⟩ k (i : Int) = some ((), ⟨L, N ++ [⟨k, i⟩]⟩) := fun L k => p_note _ _ _ (by simp only; omega)
    have n2 : ∀ L k j, m_interchange_wire_auditor_note ⟨L, N ++ [⟨j, i⟩]⟩ k (i : Int) = some ((), ⟨L, N ++ [⟨j, i⟩] ++ [⟨k, i⟩]⟩) := fun L k j => p_note _ _ _ (by simp only [List.length_append, List.length_cons, List.length_nil]; omega)
    have w2 : IntKind.i64.wrap ((([tIHD, tGHD, tMHD] : List (List UInt8)).length : Int) - 1) = 2 := by
      rw [show ((([tIHD, tGHD, tMHD] : List (List UInt8)).length : Int) - 1) = 2 from rfl, wrap64 _ (by omega) (by omega)]
    have d2 : decide ((lv : Int) = 2) = decide (lv = 2) := by
      by_cases h : lv = 2
      · rw [decide_eq_true h, decide_eq_true (by omega)]
      · rw [decide_eq_false h, decide_eq_false (by omega)]
    simp only [g1, g3, Option.bind_some, w2, d2, n1]
    unfold txW
    cases hs : s.fElements.all single with
    | false =>
      simp only [Bool.false_eq_true, if_false, Bool.not_false, orO_t, Option.bind_some, cond_true]
      exact ⟨_, rfl, hRel _⟩
    | true =>
      simp only [if_true, Bool.not_true, orO_f, Option.bind_some]
      generalize s.fElements.map firstT = ts at hl
      match ts with
      | [] => exact ⟨_, rfl, hRel _⟩
      | [q1] => exact ⟨_, rfl, hRel _⟩
      | q1 :: q2 :: q3 :: ts =>
        have d3 : decide (((q1 :: q2 :: q3 :: ts).length : Int) = 2) = false := by simp only [List.length_cons, decide_eq_false_iff_not]; omega
        simp only [d3, Bool.not_false, orO_t, Option.bind_some, cond_true]
        exact ⟨_, rfl, hRel _⟩
      | [a, b] =>
        have d3 : decide ((([a, b] : List (List UInt8)).length : Int) = 2) = true := rfl
        have e0 : getI [a, b] 0 = some a := rfl
        have e5 : getI [a, b] 1 = some b := rfl
        have hnum : m_kit_Number a 9 = some (if numOk a = true then numV a else 0, numOk a) := by
          rw [num_p a (hl a (by simp))]
          cases h : numOk a with
          | true => simp
          | false => simp
        simp only [d3, Bool.not_true, orO_f, e0, e5, Option.bind_some, isRef_eq b (hl b (by simp)), hnum, tlN]
        cases hb : isRef b with
        | false =>
          simp only [Bool.not_false, cond_true, Bool.false_eq_true, and_false, if_false]
          exact ⟨_, rfl, hRel _⟩
        | true =>
          simp only [Bool.not_true, cond_false]
          cases ha : numOk a with
          | false =>
            simp only [Bool.not_false, cond_true, Bool.false_eq_true, false_and, if_false]
            exact ⟨_, rfl, hRel _⟩
          | true =>
            simp only [Bool.not_true, cond_false, if_true, and_self]
            cases hk : x.fknown with
            | false =>
              rw [← hxy.1, hk]
              simp only [Bool.not_false, cond_true, Bool.false_eq_true, if_false, List.append_nil]
              exact ⟨_, rfl, hRel _⟩
            | true =>
              rw [← hxy.1, hk, ← hxy.2.1]
              simp only [Bool.not_true, cond_false, if_true]
              by_cases h2 : lv = 2
              · rw [decide_eq_true h2, if_pos h2, hxy.2.2.2 h2]
                simp only [cond_true]
                by_cases h3 : numV a = y.fmany + 1 <;> by_cases h4 : b = x.fref <;> simp only [h3, h4, decide_true, decide_false, Bool.not_true, Bool.not_false, cond_true, cond_false, if_true, if_false, n2, Option.bind_some, List.append_nil, List.nil_append]
                · exact ⟨_, rfl, hRel _⟩
                · exact ⟨_, rfl, hRel _⟩
                · exact ⟨_, rfl, hRel _⟩
                · exact ⟨_, rfl, by rw [← List.append_assoc]; exact hRel _⟩
              · rw [decide_eq_false h2, if_neg h2, ← hxy.2.2.1 h2]
                simp only [cond_false, Int.add_zero]
                by_cases h3 : numV a = x.fmany <;> by_cases h4 : b = x.fref <;> simp only [h3, h4, decide_true, decide_false, Bool.not_true, Bool.not_false, cond_true, cond_false, if_true, if_false, n2, Option.bind_some, List.append_nil, List.nil_append]
                · exact ⟨_, rfl, hRel _⟩
                · exact ⟨_, rfl, hRel _⟩
                · exact ⟨_, rfl, hRel _⟩
                · exact ⟨_, rfl, by rw [← List.append_assoc]; exact hRel _⟩
  · have d1 : decide ((p.flevels.length : Int) ≤ (lv : Int)) = true := decide_eq_true (by omega)
    have ht : tailS s lv (i : Int) r = noteS r 1 i := by unfold tailS; rw [if_pos h1]
    rw [d1, ht, p_note _ 1 (i : Int) (by simp only; rw [e1]; omega)]
    refine ⟨_, rfl, ⟨by simp only [noteS, e1], ?_⟩⟩
    have h3 := e2.take (n := 2) (by omega)
    rw [List.take_of_length_le (by omega), List.take_of_length_le (by omega)] at h3
    exact .low (by simp only; omega) h3
end Go.Proofs.YtcnohbiegjahkaaGreatDoor

/-
  Plain laws of the audit: both audits tell the same.
-/
namespace Go.Proofs.YtcnohbiegjahkaaGreatDoor
set_option linter.unusedSimpArgs false
set_option linter.unusedVariables false
open Go.RowKit

/-! ### Where notes lie -/
def QN (x : Nt) : Prop := 0 ≤ x.fSegment ∧ x.fSegment ≤ 2000 ∧ 0 ≤ x.fKind ∧ x.fKind ≤ 7
def AllQ (a : RA) : Prop := ∀ x ∈ a.fnotes, QN x
theorem app_Q {N M : List Nt} (h : ∀ x ∈ N, QN x) (g : ∀ x ∈ M, QN x) : ∀ x ∈ N ++ M, QN x := fun x hx => (List.mem_append.1 hx).elim (h x) (g x)
theorem one_Q {k i : Int} (h1 : 0 ≤ k) (h2 : k ≤ 7) (h3 : 0 ≤ i) (h4 : i ≤ 2000) : ∀ x ∈ [(⟨k, i⟩ : Nt)], QN x := fun x hx => by rw [List.mem_singleton.1 hx]; exact ⟨h3, h4, h1, h2⟩
theorem nil_Q : ∀ x ∈ ([] : List Nt), QN x := fun x hx => by cases hx
section
variable {i : Int} (h3 : 0 ≤ i) (h4 : i ≤ 2000)
include h3 h4
theorem leave_Q {to : Nat} {a : RA} (h : AllQ a) : AllQ (leaveS to i a) := app_Q h (fun x hx => by rw [List.eq_of_mem_replicate hx]; exact ⟨h3, h4, by simp, by simp⟩)
theorem note_Q {k : Int} {a : RA} (h1 : 0 ≤ k) (h2 : k ≤ 7) (h : AllQ a) : AllQ (noteS a k i) := app_Q h (one_Q h1 h2 h3 h4)
theorem head_Q {s : Tapi_Segment} {lv : Nat} {a : RA} (h : AllQ a) : AllQ (headS s lv i a) := by
  have h5 := leave_Q h3 h4 (to := lv) h
  have h6 : AllQ (fillRS lv i (leaveS lv i a)) := by
    unfold fillRS
    split
    · exact app_Q h5 (one_Q (by simp) (by simp) h3 h4)
    · exact h5
  have h7 : AllQ (formS s i (fillRS lv i (leaveS lv i a))) := by
    unfold formS
    split
    · exact h6
    · exact note_Q h3 h4 (by simp) (by simp) h6
  unfold headS
  simp only [AllQ]
  generalize formS s i (fillRS lv i (leaveS lv i a)) = b at h7
  unfold insA
  split
  · exact h7
  · refine app_Q h7 ?_
    unfold insN
    split
    · exact one_Q (by simp) (by simp) h3 h4
    · exact nil_Q
theorem tlN_Q {ts : List (List UInt8)} {lv : Nat} {x : RO} : ∀ y ∈ tlN ts lv i x, QN y := by
  have q : ∀ (c : Prop) [Decidable c] (k : Int), 0 ≤ k → k ≤ 7 → ∀ x ∈ (if c then ([] : List Nt) else [⟨k, i⟩]), QN x := fun c _ k a b => by
    split
    · exact nil_Q
    · exact one_Q a b h3 h4
  unfold tlN
  split
  · split
    · split
      · exact app_Q (q _ 3 (by decide) (by decide)) (q _ 4 (by decide) (by decide))
      · exact nil_Q
    · exact one_Q (by simp) (by simp) h3 h4
  · exact one_Q (by simp) (by simp) h3 h4
theorem tail_Q {s : Tapi_Segment} {lv : Nat} {a : RA} (h : AllQ a) : AllQ (tailS s lv i a) := by
  unfold tailS
  split
  · exact note_Q h3 h4 (by simp) (by simp) h
  · split
    · exact h
    · refine app_Q (leave_Q h3 h4 h) ?_
      split
      · exact tlN_Q h3 h4
      · exact one_Q (by simp) (by simp) h3 h4
theorem step_Q {s : Tapi_Segment} {a : RA} (h : AllQ a) : AllQ (stepA s i a) := by
  unfold stepA
  split
  · exact head_Q h3 h4 h
  · split
    · exact tail_Q h3 h4 h
    · split
      · exact note_Q h3 h4 (by simp) (by simp) h
      · unfold bumpS
        split
        · exact h
        · exact h
end
theorem run_Q : ∀ (l : List Tapi_Segment) (i : Nat) (a : RA), i + l.length ≤ 2000 → AllQ a → AllQ (runA l i a)
  | [], i, a, _, h => h
  | s :: l, i, a, hl, h => run_Q l (i + 1) _ (by simp at hl; omega) (step_Q (by omega) (by simp at hl; omega) h)
theorem auN_Q {l : List Tapi_Segment} (hl : l.length ≤ 2000) : ∀ x ∈ auN l, QN x := leave_Q (by omega) (by omega) (run_Q l 0 _ (by omega) (fun x hx => by cases hx))
theorem cmp_N : Cmp QN m_wire_audit_1 ltN := by
  rintro ⟨k1, s1⟩ ⟨k2, s2⟩ ⟨a1, a2, a3, a4⟩ ⟨b1, b2, b3, b4⟩
  simp only at a1 a2 a3 a4 b1 b2 b3 b4
  unfold m_wire_audit_1 sims_GB_0_0; dsimp only
  unfold ltN
  simp only
  by_cases h : s1 = s2
  · rw [decide_eq_true h]
    refine ⟨_, rfl, ?_⟩
    rw [wrap64 _ (by omega) (by omega), Bool.eq_iff_iff]
    simp; omega
  · rw [decide_eq_false h]
    refine ⟨_, rfl, ?_⟩
    rw [wrap64 _ (by omega) (by omega), Bool.eq_iff_iff]
    simp; omega

theorem relBump {i : Nat} {p : PA} {r : RA} {x : RO} (hR : Rel (i : Int) p r) (h3 : ¬ r.flevels.length < 3) : Rel ((i + 1 : Nat) : Int) p (bumpS r) := by
  obtain ⟨pl, pn⟩ := p
  obtain ⟨rl, rn⟩ := r
  obtain ⟨e1, e2⟩ := hR
  simp only at e1 e2 h3
  cases e2 with
  | low h0 h => have := h.len; omega
  | @top P R x' y' h0 h hq =>
    have hl := h.len
    have hg : (R ++ [y'])[2]? = some y' := by rw [List.getElem?_append_right (by omega), ← hl, h0]; rfl
    have hs : ∀ z : RO, (R ++ [y']).set 2 z = R ++ [z] := fun z => by rw [List.set_append_right _ _ (by omega), ← hl, h0]; rfl
    unfold bumpS
    simp only [hg, hs]
    refine ⟨e1, .top h0 h ⟨hq.kn, hq.rf, ?_, hq.at0⟩⟩
    have := hq.ma
    simp only
    omega
theorem p_audit (l : List Tapi_Segment) (h : SegsOk l) : ∃ W, m_wire_audit l = some W ∧ Srt ltN W ∧ SP ltN (auN l) W := by
  have hB : ∀ i, i ≤ l.length → Bd i (runA (l.take i) 0 ⟨[], []⟩) := fun i hi => by
    have := runA_Bd (l.take i) 0 _ Bd0
    rwa [List.length_take, Nat.zero_add, Nat.min_eq_left hi] at this
  have hlen := h.1
  unfold m_wire_audit sims_GB_3_0; dsimp only
  refine loop_to' (X := PA × Nat) (C := fun W => Srt ltN W ∧ SP ltN (auN l) W) (fun x => (x.1.flevels, x.1.fnotes, (x.2 : Int))) (fun x => l.length - x.2) (fun x => x.2 ≤ l.length ∧ Rel (x.2 : Int) x.1 (runA (l.take x.2) 0 ⟨[], []⟩)) ?_ (⟨[], []⟩, 0) ⟨Nat.zero_le _, rfl, .low (by simp) .nil⟩
  rintro ⟨p, i⟩ ⟨hi, hR⟩
  simp only at hi hR ⊢
  have hb := hB i hi
  rcases Nat.lt_or_ge i l.length with h1 | h1
  · left
    obtain ⟨s, hs⟩ := get_lt h1
    have hE := h.2 s (List.mem_of_getElem? hs)
    have w : IntKind.i64.wrap ((i : Int) + 1) = ((i + 1 : Nat) : Int) := wrapN i (by omega)
    have hr : runA (l.take (i + 1)) 0 ⟨[], []⟩ = stepA s (i : Int) (runA (l.take i) 0 ⟨[], []⟩) := by
      rw [take_snoc hs, runA_snoc, List.length_take, Nat.zero_add, Nat.min_eq_left hi]
    have goal : ∀ p', Rel ((i + 1 : Nat) : Int) p' (stepA s (i : Int) (runA (l.take i) 0 ⟨[], []⟩)) → ∀ m, m = some (Sum.inl (p'.flevels, p'.fnotes, ((i + 1 : Nat) : Int))) →
        ∃ y : PA × Nat, (y.2 ≤ l.length ∧ Rel (y.2 : Int) y.1 (runA (l.take y.2) 0 ⟨[], []⟩)) ∧ l.length - y.2 < l.length - i ∧ m = some (Sum.inl (y.1.flevels, y.1.fnotes, (y.2 : Int)) : (List PO × List Nt × Int) ⊕ ((List PO × List Nt × Int) ⊕ List Nt)) := by
      intro p' hp m hm
      exact ⟨(p', i + 1), ⟨h1, by rw [hr]; exact hp⟩, by simp only; omega, hm⟩
    generalize runA (l.take i) 0 ⟨[], []⟩ = a at hb hR goal
    obtain ⟨b1, b2, b3⟩ := id hb
    simp only [lt_dec h1, cond_true, getI_nat, hs, Option.bind_some, p_heads, p_tails, p_idx, w]
    have hstep : stepA s (i : Int) a = _ := rfl
    unfold stepA at goal
    by_cases t1 : s.fTag = tIHD
    · obtain ⟨p', k1, k2⟩ := p_head (by omega) hR hb s 0 (by omega) hE
      refine goal p' ?_ _ ?_
      · rw [if_pos (by rw [t1]; rfl), t1]; exact k2
      · rw [if_pos t1]
        have d : decide ((0 : Int) ≤ 0) = true := rfl
        simp only [d, cond_true]
        rw [show (⟨p.flevels, p.fnotes⟩ : PA) = p from rfl, show (0 : Int) = ((0 : Nat) : Int) from rfl, k1]
        rfl
    rw [if_neg t1]
    by_cases t2 : s.fTag = tGHD
    · obtain ⟨p', k1, k2⟩ := p_head (by omega) hR hb s 1 (by omega) hE
      refine goal p' ?_ _ ?_
      · rw [if_pos (by rw [t2]; rfl), t2]; exact k2
      · rw [if_pos t2]
        have d : decide ((0 : Int) ≤ 1) = true := rfl
        simp only [d, cond_true]
        rw [show (⟨p.flevels, p.fnotes⟩ : PA) = p from rfl, show (1 : Int) = ((1 : Nat) : Int) from rfl, k1]
        rfl
    rw [if_neg t2]
    by_cases t3 : s.fTag = tMHD
    · obtain ⟨p', k1, k2⟩ := p_head (by omega) hR hb s 2 (by omega) hE
      refine goal p' ?_ _ ?_
      · rw [if_pos (by rw [t3]; rfl), t3]; exact k2
      · rw [if_pos t3]
        have d : decide ((0 : Int) ≤ 2) = true := rfl
        simp only [d, cond_true]
        rw [show (⟨p.flevels, p.fnotes⟩ : PA) = p from rfl, show (2 : Int) = ((2 : Nat) : Int) from rfl, k1]
        rfl
    rw [if_neg t3]
    have hh : headT s.fTag = false := by unfold headT; simp [t1, t2, t3]
    rw [if_neg (by rw [hh]; decide)] at goal
    have dm : decide ((0 : Int) ≤ -1) = false := rfl
    simp only [dm, cond_false]
    by_cases t4 : s.fTag = tITR
    · obtain ⟨p', k1, k2⟩ := p_tail (by omega) (by omega) hR hb s 0 (by omega) hE
      refine goal p' ?_ _ ?_
      · rw [if_pos (by rw [t4]; decide), t4]; exact k2
      · rw [if_pos t4]
        have d : decide ((0 : Int) ≤ 0) = true := rfl
        simp only [d, cond_true]
        rw [show (⟨p.flevels, p.fnotes⟩ : PA) = p from rfl, show (0 : Int) = ((0 : Nat) : Int) from rfl, k1]
        rfl
    rw [if_neg t4]
    by_cases t5 : s.fTag = tGTR
    · obtain ⟨p', k1, k2⟩ := p_tail (by omega) (by omega) hR hb s 1 (by omega) hE
      refine goal p' ?_ _ ?_
      · rw [if_pos (by rw [t5]; decide), t5]; exact k2
      · rw [if_pos t5]
        have d : decide ((0 : Int) ≤ 1) = true := rfl
        simp only [d, cond_true]
        rw [show (⟨p.flevels, p.fnotes⟩ : PA) = p from rfl, show (1 : Int) = ((1 : Nat) : Int) from rfl, k1]
        rfl
    rw [if_neg t5]
    by_cases t6 : s.fTag = tMTR
    · obtain ⟨p', k1, k2⟩ := p_tail (by omega) (by omega) hR hb s 2 (by omega) hE
      refine goal p' ?_ _ ?_
      · rw [if_pos (by rw [t6]; decide), t6]; exact k2
      · rw [if_pos t6]
        have d : decide ((0 : Int) ≤ 2) = true := rfl
        simp only [d, cond_true]
        rw [show (⟨p.flevels, p.fnotes⟩ : PA) = p from rfl, show (2 : Int) = ((2 : Nat) : Int) from rfl, k1]
        rfl
    rw [if_neg t6]
    simp only [dm, cond_false]
    have hz : lvlT s.fTag = 0 := by unfold lvlT; simp [t1, t2, t3, t4, t5, t6]
    rw [if_neg (by omega)] at goal
    have hll := hR.lv.len
    by_cases h3 : a.flevels.length < 3
    · rw [if_pos h3] at goal
      have d : decide ((p.flevels.length : Int) < (([tIHD, tGHD, tMHD] : List (List UInt8)).length : Int)) = true := decide_eq_true (by simp only [List.length_cons, List.length_nil]; omega)
      refine goal ⟨p.flevels, p.fnotes ++ [⟨7, i⟩]⟩ ⟨by simp only [noteS, hR.nt], ?_⟩ _ ?_
      · have h5 := hR.lv.take (n := 2) (by omega)
        rw [List.take_of_length_le (by omega), List.take_of_length_le (by omega)] at h5
        exact .low (by simp only; omega) h5
      · rw [d, p_note _ 7 (i : Int) (by simp only; rw [hR.nt]; omega)]
        rfl
    · rw [if_neg h3] at goal
      have d : decide ((p.flevels.length : Int) < (([tIHD, tGHD, tMHD] : List (List UInt8)).length : Int)) = false := decide_eq_false (by simp only [List.length_cons, List.length_nil]; omega)
      refine goal p (relBump (x := dumR) hR h3) _ ?_
      rw [d]; rfl
  · right
    have : i = l.length := by omega
    subst this
    rw [List.take_length] at hb hR
    obtain ⟨b1, b2, b3⟩ := hb
    have hll := hR.lv.len
    have hclo := p_close p 0 ((l.length : Nat) : Int) (by rw [hR.nt]; omega) (by omega)
    have hN : p.fnotes ++ List.replicate (p.flevels.length - 0) ⟨2, ((l.length : Nat) : Int)⟩ = auN l := by simp only [auN, leaveS, hR.nt, hll]
    have hNl : (auN l).length ≤ 137438953472 := by simp only [auN, leaveS, List.length_append, List.length_replicate]; omega
    refine ⟨.inl (p.flevels, p.fnotes, ((l.length : Nat) : Int)), ?_⟩
    simp only [lt_dec_self, cond_false]
    simp only [outK]
    rw [show (⟨p.flevels, p.fnotes⟩ : PA) = p from rfl, show (0 : Int) = ((0 : Nat) : Int) from rfl, hclo, hN]
    simp only [Option.bind_some]
    obtain ⟨W, g1, g2, g3⟩ := sort_api_Note (f := 30) (c := []) (p := m_wire_audit_1) (by intro a0 a1 r hr; exact spec_wire_audit_1 a0 a1 r hr) ordN cmp_N (auN l) (auN_Q hlen) hNl
    exact ⟨W, rfl, by rw [g1]; rfl, g2, g3⟩
theorem audits_eq (l : List Tapi_Segment) (hs : TagsShort l) : ∃ W, m_wire_Audit l = some (W, segsF l) ∧ m_interchangeref2_Audit l = some (W, segsF l) ∧ (segsF l ≠ 0 → W = []) ∧ (segsF l = 0 → Srt ltN W ∧ SP ltN (auN l) W) := by
  obtain ⟨W, h1, h2, h3⟩ := r_Audit l hs
  refine ⟨W, ?_, h1, h2, h3⟩
  unfold m_wire_Audit sims_GB_4_0; dsimp only
  rw [w_segs l hs]
  simp only [Option.bind_some]
  by_cases h : segsF l = 0
  · obtain ⟨W', w1, w2, w3⟩ := p_audit l (segs_ok h)
    have : W' = W := srt_unique ordN w2 (h3 h).1 (w3.symm.trans (h3 h).2)
    subst this
    rw [decide_eq_true h, w1, h]; rfl
  · rw [decide_eq_false h, h2 h]; rfl
end Go.Proofs.YtcnohbiegjahkaaGreatDoor

/-
  Plain laws of the wire: marks.
-/
namespace Go.Proofs.YtcnohbiegjahkaaGreatDoor
set_option linter.unusedSimpArgs false
set_option linter.unusedVariables false
open Go.RowKit

theorem w_mark (b : UInt8) : m_wire_isMarkByte b = some (markB b) := by
  unfold m_wire_isMarkByte sims_G1M_0_0; dsimp only
  by_cases h : 33 ≤ b.toNat ∧ b.toNat ≤ 126
  · have hc : m_strings_ContainsAny [b] [46, 45, 43, 95] = some (Lib.containsAny [b] [46, 45, 43, 95]) := by
      unfold m_strings_ContainsAny
      rw [if_pos ⟨by simp, by simp, by simp; omega, by decide⟩]
    have hw := List.all_eq_true.1 wMark_all b.toNat (List.mem_range.2 b.toNat_lt)
    have hb : UInt8.ofNat b.toNat = b := by simp
    rw [hb] at hw
    have d1 : decide ((33 : Int) ≤ (b.toNat : Int)) = true := by simp; omega
    have d2 : decide ((b.toNat : Int) ≤ 126) = true := by simp; omega
    have d3 : decide (b.toNat < 33) = false := by simp; omega
    have d4 : decide (126 < b.toNat) = false := by simp; omega
    simp only [d3, d4, Bool.false_or, beq_iff_eq] at hw
    rw [← hw]
    simp only [enc_ascii b (by omega), isTagPart_eq [b] (by simp), inBytes_eq [b] _ _ (by simp), hc, andO_some, Option.bind_some, d1, d2, Bool.true_and]
    rfl
  · have hm : markB b = false := by
      unfold markB
      have : (decide ((b.toNat : Int) < 33) || decide (126 < (b.toNat : Int))) = true := by simp; omega
      rw [this]
      simp
    have d : (decide ((33 : Int) ≤ (b.toNat : Int)) && decide ((b.toNat : Int) ≤ 126)) = false := by simp; omega
    rw [hm]
    simp only [andO_some, Option.bind_some, d]
    rfl

/-- The first fault of a list, by its place. -/
def listFI {α : Type} (h : Nat → α → Int) : Nat → List α → Int
  | _, [] => 0
  | i, e :: l => if h i e = 0 then listFI h (i + 1) l else h i e
theorem loop_faultI {α R : Type} (l : List α) (h : Nat → α → Int) (ret : Int → R) (k : Int → Option R) {f : Int → Option (Int ⊕ (Int ⊕ R))}
    (hb : ∀ (i : Nat) (e : α), l[i]? = some e → f (i : Int) = if h i e = 0 then some (.inl ((i + 1 : Nat) : Int)) else some (.inr (.inr (ret (h i e)))))
    (he : f (l.length : Int) = some (.inr (.inl (l.length : Int)))) : (loopC f 0).bind (outK k) = if listFI h 0 l = 0 then k (l.length : Int) else some (ret (listFI h 0 l)) := by
  have : ∀ (t : List α) (i : Nat), l.drop i = t → i ≤ l.length → loopC f (i : Int) = if listFI h i t = 0 then some (.inl (l.length : Int)) else some (.inr (ret (listFI h i t))) := by
    intro t
    induction t with
    | nil =>
      intro i hd hi
      have := drop_nil_len hd hi
      subst this
      rw [loopC_eq, he]
      rfl
    | cons e t ih =>
      intro i hd hi
      obtain ⟨h1, h2, h3⟩ := drop_head hd
      rw [loopC_eq, hb i e h1]
      by_cases h0 : h i e = 0
      · simp only [listFI, h0, if_true]; exact ih (i + 1) h3 h2
      · simp only [listFI, h0, if_false]
  have e0 : loopC f 0 = if listFI h 0 l = 0 then some (.inl (l.length : Int)) else some (.inr (ret (listFI h 0 l))) := this l 0 rfl (Nat.zero_le _)
  rw [e0]
  by_cases h0 : listFI h 0 l = 0
  · rw [if_pos h0, if_pos h0]; rfl
  · rw [if_neg h0, if_neg h0]; rfl
def anyI {α : Type} (c : Nat → α → Bool) : Nat → List α → Bool
  | _, [] => false
  | i, e :: l => c i e || anyI c (i + 1) l
theorem listFI_any {α : Type} (c : Nat → α → Bool) (n : Int) (hn : n ≠ 0) : ∀ (l : List α) (i : Nat), listFI (fun i e => if c i e = true then n else 0) i l = if anyI c i l = true then n else 0
  | [], _ => rfl
  | e :: l, i => by
    simp only [listFI, anyI, listFI_any c n hn l (i + 1)]
    by_cases hc : c i e = true <;> simp [hc, hn]
def eqB (a b : UInt8) : Bool := decide ((a.toNat : Int) = (b.toNat : Int))
def bads (m : Tapi_Marks) : Bool := !markB m.fElement || !markB m.fPart || !markB m.fRepeat || !markB m.fEnd || (!decide ((m.fEscape.toNat : Int) = 0) && !markB m.fEscape)
def twice (m : Tapi_Marks) : Bool := eqB m.fPart m.fElement || eqB m.fRepeat m.fElement || eqB m.fRepeat m.fPart || eqB m.fEnd m.fElement || eqB m.fEnd m.fPart || eqB m.fEnd m.fRepeat || eqB m.fEscape m.fElement || eqB m.fEscape m.fPart || eqB m.fEscape m.fRepeat || eqB m.fEscape m.fEnd
def marksF (m : Tapi_Marks) : Int := if bads m = true then 3 else if twice m = true then 7 else 0
theorem contains_eq (l : List UInt8) (b : UInt8) (hl : l.length < 9223372036854775807) : m_slices_Contains_byte_byte l b = some (l.any (eqB b)) := by
  unfold m_slices_Contains_byte_byte sims_G1M_1_0; dsimp only
  have hI : m_slices_Index_byte_byte l b = some (match l.findIdx? (eqB b) with | some i => (i : Int) | none => -1) := by
    unfold m_slices_Index_byte_byte sims_G1M_0_0; dsimp only
    have : ∀ (t : List UInt8) (i : Nat) (f : Int → Option (Int ⊕ (Int ⊕ Int))), l.drop i = t → i ≤ l.length → (∀ (i : Nat) (e : UInt8), l[i]? = some e → f (i : Int) = bif eqB b e then some (.inr (.inr (i : Int))) else some (.inl ((i + 1 : Nat) : Int))) → f (l.length : Int) = some (.inr (.inl (l.length : Int))) →
        loopC f (i : Int) = some (match t.findIdx? (eqB b) with | some j => .inr (((i + j : Nat)) : Int) | none => .inl (l.length : Int)) := by
      intro t
      induction t with
      | nil =>
        intro i f hd hi hb he
        have := drop_nil_len hd hi
        subst this
        rw [loopC_eq, he]
        rfl
      | cons e t ih =>
        intro i f hd hi hb he
        obtain ⟨h1, h2, h3⟩ := drop_head hd
        rw [loopC_eq, hb i e h1, List.findIdx?_cons]
        cases hq : eqB b e with
        | true => simp
        | false =>
          simp only [cond_false]
          rw [ih (i + 1) f h3 h2 hb he]
          cases t.findIdx? (eqB b) with
          | none => rfl
          | some j => simp; omega
    refine bind_loop (this l 0 _ rfl (Nat.zero_le _) (fun i e he => ?_) ?_) ?_
    · have hi := get_le he
      simp only [lt_dec hi, cond_true, getI_nat, he, Option.bind_some, wrapN i (by omega)]
      show (bif eqB b e then _ else _) = _
      cases eqB b e <;> rfl
    · simp only [lt_dec_self, cond_false]; rfl
    · cases l.findIdx? (eqB b) with
      | none => rfl
      | some j => simp [outK]
  rw [hI]
  simp only [Option.bind_some]
  congr 1
  cases h : l.findIdx? (eqB b) with
  | none =>
    rw [List.findIdx?_eq_none_iff] at h
    symm
    simp only [List.any_eq_false]
    simpa using h
  | some j =>
    have h2 := List.findIdx?_eq_some_iff_getElem.1 h
    obtain ⟨hj, h3, -⟩ := h2
    symm
    simp only [decide_eq_true_eq, Int.natCast_nonneg, decide_true]
    exact List.any_eq_true.2 ⟨l[j], List.getElem_mem hj, h3⟩
theorem w_marks (m : Tapi_Marks) : m_wire_CheckMarks m = some (marksF m) := by
  unfold m_wire_CheckMarks sims_G1M_2_0; dsimp only
  simp only [w_mark, Option.bind_some, orO_some, andO_some]
  unfold marksF
  have hb : bads m = (listF (fun b => if markB b = true then (0 : Int) else 3) [m.fElement, m.fPart, m.fRepeat, m.fEnd] != 0 || (!decide ((m.fEscape.toNat : Int) = 0) && !markB m.fEscape)) := by
    unfold bads
    simp only [listF]
    by_cases h1 : markB m.fElement = true <;> by_cases h2 : markB m.fPart = true <;> by_cases h3 : markB m.fRepeat = true <;> by_cases h4 : markB m.fEnd = true <;> simp [h1, h2, h3, h4]
  rw [hb]
  refine (loop_fault [m.fElement, m.fPart, m.fRepeat, m.fEnd] (fun b => if markB b = true then (0 : Int) else 3) (fun _ => 3) _ (fun i e he => ?_) ?_).trans ?_
  · have hi : i < 4 := get_le he
    have h4 : decide ((i : Int) < 4) = true := decide_eq_true (by omega)
    simp only [h4, cond_true, getI_nat, he, Option.bind_some, wrapN i (by omega)]
    cases markB e <;> rfl
  · rfl
  · by_cases h0 : listF (fun b => if markB b = true then (0 : Int) else 3) [m.fElement, m.fPart, m.fRepeat, m.fEnd] = 0
    · rw [if_pos h0, h0]
      simp only [bne_self_eq_false, Bool.false_or]
      by_cases h1 : (!decide ((m.fEscape.toNat : Int) = 0) && !markB m.fEscape) = true
      · rw [if_pos h1]; simp only [h1, cond_true]
      · rw [if_neg h1]
        simp only [Bool.not_eq_true] at h1
        simp only [h1, cond_false]
        rw [thenO_some (lenO_ok (by simp))]
        refine (loop_faultI [m.fElement, m.fPart, m.fRepeat, m.fEnd, m.fEscape] (fun i e => if ([m.fElement, m.fPart, m.fRepeat, m.fEnd].take i).any (eqB e) = true then 7 else 0) (fun a => a) _ (fun i e he => ?_) ?_).trans ?_
        · have hi : i < 5 := get_le he
          have h5 : decide ((i : Int) < 5) = true := decide_eq_true (by omega)
          have hs : sliceI [m.fElement, m.fPart, m.fRepeat, m.fEnd] 0 (if 4 < (i : Int) then 4 else (i : Int)) = some ([m.fElement, m.fPart, m.fRepeat, m.fEnd].take i) := by
            have : ¬ (4 < (i : Int)) := by omega
            rw [if_neg this]
            unfold sliceI
            rw [if_pos ⟨by omega, by omega, by simp; omega⟩]
            simp
          have hn : [m.fElement, m.fPart, m.fRepeat, m.fEnd, m.fEscape][(i : Int).toNat]? = some e := by simpa using he
          simp only [h5, cond_true, getI_nat, he, hn, Option.bind_some, wrapN i (by omega)]
          have hs2 : sliceI [m.fElement, m.fPart, m.fRepeat, m.fEnd] ((none : Option Int).getD 0) ((some (if 4 < (i : Int) then 4 else (i : Int))).getD ((4 : Nat) : Int)) = some ([m.fElement, m.fPart, m.fRepeat, m.fEnd].take i) := hs
          rw [hs2]
          simp only [Option.bind_some]
          rw [contains_eq _ e (by rw [List.length_take]; simp; omega)]
          simp only [Option.bind_some]
          cases ([m.fElement, m.fPart, m.fRepeat, m.fEnd].take i).any (eqB e) <;> rfl
        · rfl
        · rw [listFI_any (fun i e => ([m.fElement, m.fPart, m.fRepeat, m.fEnd].take i).any (eqB e)) 7 (by decide)]
          have : anyI (fun i e => ([m.fElement, m.fPart, m.fRepeat, m.fEnd].take i).any (eqB e)) 0 [m.fElement, m.fPart, m.fRepeat, m.fEnd, m.fEscape] = twice m := by
            rw [Bool.eq_iff_iff]
            simp only [anyI, List.take, List.any_cons, List.any_nil, twice, eqB, Bool.or_eq_true, decide_eq_true_eq, Bool.or_false, Bool.false_or, Bool.false_eq_true]
            omega
          rw [this]
          cases twice m <;> rfl
    · rw [if_neg h0]
      have : (listF (fun b => if markB b = true then (0 : Int) else 3) [m.fElement, m.fPart, m.fRepeat, m.fEnd] != 0) = true := by simpa using h0
      rw [this]
      rfl
end Go.Proofs.YtcnohbiegjahkaaGreatDoor

/-
  Plain law: WireAuditsMatchSpec.
-/
namespace Go.Proofs.YtcnohbiegjahkaaGreatDoor
set_option linter.unusedSimpArgs false
set_option linter.unusedVariables false
open Go.RowKit

theorem awake_tr : m_interchangelaw2_awake = some true := by
  unfold m_interchangelaw2_awake sims_GW1_0_0; dsimp only
  have h : m_wire_Heading ⟨UInt8.ofNat (Int.toNat 42), UInt8.ofNat (Int.toNat 58), UInt8.ofNat (Int.toNat 94), UInt8.ofNat (Int.toNat 63), UInt8.ofNat (Int.toNat 126)⟩ = some ([77, 82, 75, 42, 58, 94, 63, 126], 0) := by
    unfold m_wire_Heading
    rw [w_marks]
    rfl
  rw [h]
  rfl
theorem eqN_refl (l : List Nt) (hl : l.length ≤ 137438953472) : m_slices_Equal_interchange_api_Note_interchange_api_Note l l = some true := by
  unfold m_slices_Equal_interchange_api_Note_interchange_api_Note sims_GW1_0_0; dsimp only
  have d : decide ((l.length : Int) = (l.length : Int)) = true := by simp
  rw [d]
  simp only [Bool.not_true, cond_false]
  refine (loop_allV l (fun _ => true) false (fun i e he => ?_) (by simp only [lt_dec_self, cond_false]; rfl)).trans ?_
  · have hi := get_le he
    simp only [lt_dec hi, cond_true, getI_nat, he, Option.bind_some, wrapN i (by omega), decide_true, Bool.and_self, Bool.not_true, cond_false, if_true]
  · rw [if_pos (by simp)]
theorem auN_len {l : List Tapi_Segment} (hl : l.length ≤ 2000) : (auN l).length ≤ 20003 := by
  have h := runA_Bd l 0 _ Bd0
  obtain ⟨b1, b2, b3⟩ := h
  simp only [auN, leaveS, List.length_append, List.length_replicate]
  omega
theorem law_audits (l : List Tapi_Segment) (hs : TagsShort l) : m_interchangelaw2_WireAuditsMatchSpec l = some true := by
  obtain ⟨W, h1, h2, h3, h4⟩ := audits_eq l hs
  have hW : W.length ≤ 137438953472 := by
    by_cases h : segsF l = 0
    · rw [← (h4 h).2.1.length_eq]
      have := auN_len (segs_ok h).1
      omega
    · rw [h3 h]; simp
  unfold m_interchangelaw2_WireAuditsMatchSpec sims_GW1_1_0; dsimp only
  simp only [h1, h2, Option.bind_some, eqN_refl W hW, awake_tr, andO_some, decide_true, Bool.and_self]
end Go.Proofs.YtcnohbiegjahkaaGreatDoor

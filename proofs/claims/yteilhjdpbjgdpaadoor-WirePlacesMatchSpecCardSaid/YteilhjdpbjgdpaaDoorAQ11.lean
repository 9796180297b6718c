/-
  Plain laws of the wire: both write the same.
-/
import Derived.Test.YteilhjdpbjgdpaaDoorAQ8
import Derived.Test.YteilhjdpbjgdpaaDoorAQ10
namespace Go.Proofs.YteilhjdpbjgdpaaDoor
set_option linter.unusedSimpArgs false
set_option linter.unusedVariables false
open Go.RowKit

def plOf (q : Tinterchangeref2_piece) : Option Twire_place := if q.fat.fElement = 0 then none else some ⟨q.fsegment, q.fat, q.ffrom, q.fto⟩
def stOf (q : Tinterchangeref2_piece) : Option Int := if q.fat.fElement = 0 then some q.fbegin else none
/-- Where no mark is without an escape. -/
def CanEsc (m : Tapi_Marks) (n : Nat) : Prop := m.fEscape.toNat ≠ 0 ∨ n = 0
theorem esc_same {m : Tapi_Marks} {t : List UInt8} (h : CanEsc m (cntT m t)) : escR m t = escW m t := by
  induction t with
  | nil => rfl
  | cons b t ih =>
    have h1 : cntT m (b :: t) = cntT m t + (if isM m b = true then 1 else 0) := by simp [cntT, List.countP_cons]
    have h2 : escR m (b :: t) = (if isM m b = true ∧ m.fEscape.toNat ≠ 0 then [m.fEscape, b] else [b]) ++ escR m t := by simp [escR]
    have h3 : escW m (b :: t) = (if isM m b = true then [m.fEscape, b] else [b]) ++ escW m t := by simp [escW]
    rw [h2, h3]
    rcases h with h | h
    · rw [ih (.inl h)]
      by_cases hm : isM m b = true <;> simp [hm, h]
    · rw [h1] at h
      by_cases hm : isM m b = true
      · rw [if_pos hm] at h; omega
      · rw [if_neg hm] at h
        rw [ih (.inr (by omega))]
        simp [hm]
/-- The states of both writers say the same. -/
def Same (w : WrT) (r : RT) (ss : List Int) : Prop := w.1 = r.1 ∧ r.2.1.filterMap plOf = w.2.1 ∧ r.2.1.filterMap stOf = ss
theorem spot_ne {m : Tapi_Marks} {s : Tapi_Segment} : ∀ p ∈ ptsS m s, p.sp.fElement ≠ 0 := by
  unfold ptsS
  refine ixMap_all fun e x hx => ?_
  unfold ptsE
  refine ixMap_all fun r l hl => ?_
  unfold ptsR
  refine ixMap_all fun p t ht y hy => ?_
  simp only [ptsP, List.mem_singleton] at hy
  subst hy
  show ((e + 1 : Nat) : Int) ≠ 0
  omega
theorem Same.pts {m : Tapi_Marks} {seg : Int} {ss : List Int} : ∀ {l : List Prt} {w : WrT} {r : RT}, Same w r ss → (∀ p ∈ l, p.sp.fElement ≠ 0) → (∀ p ∈ l, CanEsc m (cntT m p.t)) → Same (wPts m seg w l) (rPts m seg r l) ss
  | [], w, r, h, _, _ => h
  | p :: l, w, r, h, h1, h2 => by
    refine Same.pts (l := l) (w := wStep m seg w p) (r := rStep m seg r p) ?_ (fun q hq => h1 q (by simp [hq])) fun q hq => h2 q (by simp [hq])
    obtain ⟨e1, e2, e3⟩ := h
    have hp := h1 p (by simp)
    have he := esc_same (h2 p (by simp))
    refine ⟨?_, ?_, ?_⟩
    · simp only [wStep, rStep, e1, he]
    · simp only [wStep, rStep, List.filterMap_append, e2, List.filterMap_cons, List.filterMap_nil, plOf, hp, if_false, e1, he]
    · simp only [rStep, List.filterMap_append, e3, List.filterMap_cons, List.filterMap_nil, stOf, hp, if_false, List.append_nil]
theorem sum_mem {α : Type} {c : α → Nat} : ∀ {l : List α} {x : α}, x ∈ l → c x ≤ (l.map c).sum
  | y :: l, x, h => by
    rcases List.mem_cons.1 h with rfl | h
    · simp
    · have := sum_mem (c := c) h
      simp only [List.map_cons, List.sum_cons]; omega
theorem CanEsc.le {m : Tapi_Marks} {a b : Nat} (h : CanEsc m b) (hab : a ≤ b) : CanEsc m a := by
  rcases h with h | h
  · exact .inl h
  · exact .inr (by omega)
theorem pts_esc {m : Tapi_Marks} {s : Tapi_Segment} (h : CanEsc m (cntS m s)) : ∀ p ∈ ptsS m s, CanEsc m (cntT m p.t) := fun p hp => h.le (by
  rw [← ptsS_sum]
  exact sum_mem (c := fun p : Prt => cntT m p.t) hp)
theorem Same.seg {m : Tapi_Marks} {lines : Bool} {i : Nat} {w : WQ} {r : RT} {s : Tapi_Segment} (h : Same (w.1, w.2.1, w.2.2.2) r w.2.2.1) (hc : CanEsc m (cntS m s)) :
    Same ((wSeg m lines i w s).1, (wSeg m lines i w s).2.1, (wSeg m lines i w s).2.2.2) (rSeg m lines i r s) (wSeg m lines i w s).2.2.1 := by
  obtain ⟨e1, e2, e3⟩ := h
  simp only at e1 e2 e3
  have h1 : Same (w.1 ++ s.fTag, w.2.1, w.2.2.2) (rHead r i s) (w.2.2.1 ++ [((w.1.length : Nat) : Int)]) := by
    refine ⟨?_, ?_, ?_⟩
    · simp only [rHead, e1]
    · simp only [rHead, List.filterMap_append, e2, List.filterMap_cons, List.filterMap_nil, plOf, if_true, List.append_nil]
    · simp only [rHead, List.filterMap_append, e3, List.filterMap_cons, List.filterMap_nil, stOf, if_true, e1]
  obtain ⟨f1, f2, f3⟩ := h1.pts (m := m) (seg := (i : Int)) (l := ptsS m s) spot_ne (pts_esc hc)
  exact ⟨by simp only [wSeg, rSeg, wIn]; rw [f1], f2, f3⟩
theorem rPts_grow (m : Tapi_Marks) (seg : Int) : ∀ (l : List Prt) (w : RT), w.1.length ≤ (rPts m seg w l).1.length
  | [], w => Nat.le_refl _
  | p :: l, w => by
    have := rPts_grow m seg l (rStep m seg w p)
    have h2 : w.1.length ≤ (rStep m seg w p).1.length := by simp only [rStep, List.length_append]; omega
    simp only [rPts, List.foldl_cons] at this ⊢
    omega
theorem rSeg_grow (m : Tapi_Marks) (lines : Bool) (i : Nat) (w : RT) (s : Tapi_Segment) : w.1.length ≤ (rSeg m lines i w s).1.length := by
  have := rPts_grow m (i : Int) (ptsS m s) (rHead w i s)
  have h2 : w.1.length ≤ (rHead w i s).1.length := by simp only [rHead, List.length_append]; omega
  simp only [rSeg, List.length_append]
  omega
def Both (w : WQ) (r : RT) : Prop := (w.1.length ≤ 500000 ∧ Same (w.1, w.2.1, w.2.2.2) r w.2.2.1) ∨ (500000 < w.1.length ∧ 500000 < r.1.length)
theorem both_all {m : Tapi_Marks} {lines : Bool} : ∀ {l : List Tapi_Segment} {i : Nat} {w : WQ} {r : RT}, Both w r → CanEsc m (cntL m l) → Both (wSegs m lines i w l) (rSegs m lines i r l)
  | [], i, w, r, h, _ => h
  | s :: l, i, w, r, h, hc => by
    have hs : cntL m (s :: l) = cntS m s + cntL m l := by simp [cntL]
    rw [hs] at hc
    simp only [wSegs, rSegs]
    refine both_all (l := l) ?_ (hc.le (by omega))
    rcases h with ⟨h1, h2⟩ | ⟨h1, h2⟩
    · have h3 := h2.seg (lines := lines) (i := i) (hc.le (show cntS m s ≤ _ by omega))
      unfold wNext
      rw [if_pos h1]
      by_cases hb : (wSeg m lines i w s).1.length ≤ 500000
      · exact .inl ⟨hb, h3⟩
      · refine .inr ⟨by omega, ?_⟩
        rw [← h3.1]
        simp only
        omega
    · have h3 := rSeg_grow m lines i r s
      unfold wNext
      rw [if_neg (by omega)]
      exact .inr ⟨h1, by omega⟩
theorem wPts_bad (m : Tapi_Marks) (seg : Int) : ∀ (l : List Prt) (w : WrT), (wPts m seg w l).2.2 = (w.2.2 || badB m ((l.map fun p => cntT m p.t).sum))
  | [], w => by simp [wPts, badB]
  | p :: l, w => by
    have := wPts_bad m seg l (wStep m seg w p)
    simp only [wPts, List.foldl_cons] at this ⊢
    rw [this]
    simp only [wStep, List.map_cons, List.sum_cons, badB_add]
theorem wSegs_bad (m : Tapi_Marks) (lines : Bool) : ∀ (l : List Tapi_Segment) (i : Nat) (w : WQ), (wSegs m lines i w l).2.2.2 = (w.2.2.2 || badB m (cntL m l))
  | [], i, w => by simp [wSegs, cntL, badB]
  | s :: l, i, w => by
    simp only [wSegs]
    rw [wSegs_bad m lines l (i + 1)]
    have hs : cntL m (s :: l) = cntS m s + cntL m l := by simp [cntL]
    rw [hs, ← badB_add]
    congr 1
    unfold wNext
    split
    · simp only [wSeg, wIn, wPts_bad, ptsS_sum]
    · rfl
/-- What both write, and the fault. -/
def rAll (m : Tapi_Marks) (lines : Bool) (l : List Tapi_Segment) : RT := rSegs m lines 0 ([], [], 0) l
def joinF (l : List Tapi_Segment) (m : Tapi_Marks) (lines : Bool) : Int :=
  if bothF l m ≠ 0 then bothF l m else if badB m (cntL m l) = true then 3 else if 500000 < (rAll m lines l).1.length then 2 else 0
theorem r_join (l : List Tapi_Segment) (m : Tapi_Marks) (lines : Bool) (h : bothF l m = 0) :
    m_interchangeref2_join l m lines 500000 = some (if joinF l m lines = 0 then (some ⟨m, (rAll m lines l).1, (rAll m lines l).2.1, (((rAll m lines l).2.2 : Nat) : Int)⟩, 0) else (none, joinF l m lines)) := by
  unfold m_interchangeref2_join sims_G4_1_0; dsimp only
  have hs := (both_segs h).1
  simp only [r_written l m lines hs, Option.bind_some, andO_some]
  have hc : (rSegs m lines 0 ([], [], 0) l).2.2 = cntL m l := by rw [rSegs_cnt]; simp
  have e1 : (decide ((m.fEscape.toNat : Int) = 0) && decide ((0 : Int) < (((rSegs m lines 0 ([], [], 0) l).2.2 : Nat) : Int))) = badB m (cntL m l) := by
    rw [hc]
    unfold badB
    congr 1
    · congr 1; apply propext; omega
    · congr 1; apply propext; omega
  rw [e1]
  have e2 : joinF l m lines = if badB m (cntL m l) = true then 3 else if 500000 < (rAll m lines l).1.length then 2 else 0 := by unfold joinF; exact if_neg (fun e => e h)
  rw [e2]
  cases hb : badB m (cntL m l) with
  | true => simp
  | false =>
    simp only [cond_false, Bool.false_eq_true, if_false, rAll]
    by_cases hl : 500000 < (rSegs m lines 0 ([], [], 0) l).1.length
    · have d : decide ((500000 : Int) < ((rSegs m lines 0 ([], [], 0) l).1.length : Int)) = true := decide_eq_true (by omega)
      simp only [d, cond_true]; simp [hl]
    · have d : decide ((500000 : Int) < ((rSegs m lines 0 ([], [], 0) l).1.length : Int)) = false := decide_eq_false (by omega)
      simp only [d, cond_false]; simp [hl]
theorem w_writ (l : List Tapi_Segment) (m : Tapi_Marks) (lines : Bool) :
    ∃ pl ss, (joinF l m lines = 0 → (rAll m lines l).2.1.filterMap plOf = pl ∧ (rAll m lines l).2.1.filterMap stOf = ss) ∧
      writF l m lines = if joinF l m lines = 0 then (some ⟨m, lines, (rAll m lines l).1, pl, ss, false⟩, 0) else (none, joinF l m lines) := by
  refine ⟨(wSegs m lines 0 w0 l).2.1, (wSegs m lines 0 w0 l).2.2.1, ?_⟩
  unfold writF joinF
  by_cases h : bothF l m = 0
  · simp only [h, ne_eq, not_true_eq_false, if_false]
    have hbad := wSegs_bad m lines l 0 w0
    have hbad : (wSegs m lines 0 w0 l).2.2.2 = badB m (cntL m l) := by rw [hbad]; simp [w0]
    rw [hbad]
    cases hb : badB m (cntL m l) with
    | true => simp
    | false =>
      simp only [Bool.false_eq_true, if_false]
      have hc : CanEsc m (cntL m l) := by
        unfold badB at hb
        by_cases hz : m.fEscape.toNat = 0
        · simp [hz] at hb; exact .inr hb
        · exact .inl hz
      have h0 : Both w0 (([], [], 0) : RT) := .inl ⟨by simp [w0], rfl, rfl, rfl⟩
      have hB := both_all (lines := lines) (i := 0) h0 hc
      rcases hB with ⟨h1, h2, h3, h4⟩ | ⟨h1, h2⟩
      · simp only at h2
        have h5 : ¬ 500000 < (rAll m lines l).1.length := by unfold rAll; rw [← h2]; omega
        have h6 : ¬ 500000 < (wSegs m lines 0 w0 l).1.length := by omega
        simp only [h5, h6, if_false]
        refine ⟨fun _ => ⟨h3, h4⟩, ?_⟩
        simp only [if_true]
        unfold rAll
        rw [← h2]
      · have h5 : 500000 < (rAll m lines l).1.length := h2
        simp only [h1, h5, if_true]
        exact ⟨fun e => absurd e (by decide), rfl⟩
  · simp only [ne_eq, h, not_false_eq_true, if_true, if_false]
    exact ⟨fun e => e.elim, trivial⟩
end Go.Proofs.YteilhjdpbjgdpaaDoor

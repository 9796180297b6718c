/-
  Plain laws of the wire: the spot of a byte.
-/
import Derived.Test.YteilhjdpbjgdpaaDoorBQ13
namespace Go.Proofs.YteilhjdpbjgdpaaDoor
set_option linter.unusedSimpArgs false
set_option linter.unusedVariables false
open Go.RowKit

abbrev Pc := Tinterchangeref2_piece
/-- The last piece that begins at a or before. -/
def lastP (a : Int) (l : List Pc) : Option Pc := l.foldl (fun acc q => if q.fbegin ≤ a then some q else acc) none
theorem lastP_snoc (a : Int) (l : List Pc) (q : Pc) : lastP a (l ++ [q]) = if q.fbegin ≤ a then some q else lastP a l := by simp [lastP]
/-- The spot of the last place of a segment that has begun at a. -/
def spotG (a seg : Int) (l : List Twire_place) (s0 : Tapi_Spot) : Tapi_Spot := l.foldl (fun sp p => if p.fsegment = seg ∧ p.ffrom - 1 ≤ a then p.fat else sp) s0
def noS : Tapi_Spot := ⟨0, 0, 0⟩
theorem spotG_append (a seg : Int) (l l2 : List Twire_place) (s0 : Tapi_Spot) : spotG a seg (l ++ l2) s0 = spotG a seg l2 (spotG a seg l s0) := by simp [spotG]
theorem spotG_none (a seg : Int) : ∀ (l : List Twire_place) (s0 : Tapi_Spot), (∀ p ∈ l, p.fsegment ≠ seg) → spotG a seg l s0 = s0
  | [], _, _ => rfl
  | p :: l, s0, h => by
    have h1 := h p (by simp)
    have h2 := spotG_none a seg l s0 fun q hq => h q (by simp [hq])
    simp only [spotG, List.foldl_cons, h1, false_and, if_false] at h2 ⊢
    exact h2
/-- What a byte's segment and spot are, while segments are written. -/
structure Fits (a : Int) (i : Nat) (r : RT) : Prop where
  segs : ∀ p ∈ r.2.1.filterMap plOf, p.fsegment < (i : Int)
  stle : ∀ x ∈ r.2.1.filterMap stOf, x ≤ (r.1.length : Int)
  stn : (r.2.1.filterMap stOf).length = i
  frm : ∀ p ∈ r.2.1.filterMap plOf, 1 ≤ p.ffrom ∧ p.ffrom ≤ (r.1.length : Int)
  ans : i = 0 ∨ ∃ (s : Nat) (q : Pc), s < i ∧ (∀ (j : Nat) (x : Int), j ≤ s → (r.2.1.filterMap stOf)[j]? = some x → x ≤ a) ∧ (∀ x, (r.2.1.filterMap stOf)[s + 1]? = some x → a < x) ∧ lastP a r.2.1 = some q ∧ q.fsegment = (s : Int) ∧ spotG a (s : Int) (r.2.1.filterMap plOf) noS = q.fat
/-- The parts of a segment that begins behind a. -/
theorem pts_late {m : Tapi_Marks} {a : Int} {i : Nat} : ∀ {l : List Prt} {r : RT}, a < (r.1.length : Int) → (∀ p ∈ l, p.sp.fElement ≠ 0) →
    lastP a (rPts m (i : Int) r l).2.1 = lastP a r.2.1 ∧ ∃ pl, (rPts m (i : Int) r l).2.1.filterMap plOf = r.2.1.filterMap plOf ++ pl ∧ ∀ p ∈ pl, p.fsegment = (i : Int)
  | [], r, _, _ => ⟨rfl, [], by simp [rPts], by simp⟩
  | p :: l, r, h, hp => by
    have h1 : a < ((rStep m (i : Int) r p).1.length : Int) := by
      have : r.1.length ≤ (rStep m (i : Int) r p).1.length := by simp only [rStep, List.length_append]; omega
      omega
    obtain ⟨h2, pl, h3, h4⟩ := pts_late (m := m) (i := i) (l := l) h1 fun q hq => hp q (by simp [hq])
    have hp0 := hp p (by simp)
    have e : (rPts m (i : Int) r (p :: l)) = rPts m (i : Int) (rStep m (i : Int) r p) l := rfl
    rw [e]
    refine ⟨?_, ⟨(i : Int), p.sp, ((r.1.length + 1 : Nat) : Int), ((r.1.length + 1 + (escR m p.t).length : Nat) : Int)⟩ :: pl, ?_, ?_⟩
    · rw [h2]
      simp only [rStep, lastP_snoc]
      rw [if_neg (by omega)]
    · rw [h3]
      simp only [rStep, List.filterMap_append, List.filterMap_cons, List.filterMap_nil, plOf, hp0, if_false, List.append_assoc, List.cons_append, List.nil_append]
    · intro q hq
      rcases List.mem_cons.1 hq with rfl | hq
      · rfl
      · exact h4 q hq
/-- The parts of a segment that has begun at a. -/
theorem pts_now {m : Tapi_Marks} {a : Int} {i : Nat} : ∀ {l : List Prt} {r : RT} {q : Pc}, lastP a r.2.1 = some q → q.fsegment = (i : Int) → spotG a (i : Int) (r.2.1.filterMap plOf) noS = q.fat → (∀ p ∈ l, p.sp.fElement ≠ 0) →
    ∃ q', lastP a (rPts m (i : Int) r l).2.1 = some q' ∧ q'.fsegment = (i : Int) ∧ spotG a (i : Int) ((rPts m (i : Int) r l).2.1.filterMap plOf) noS = q'.fat
  | [], r, q, h1, h2, h3, _ => ⟨q, h1, h2, h3⟩
  | p :: l, r, q, h1, h2, h3, hp => by
    have hp0 := hp p (by simp)
    have e : (rPts m (i : Int) r (p :: l)) = rPts m (i : Int) (rStep m (i : Int) r p) l := rfl
    rw [e]
    have hl : (rStep m (i : Int) r p).2.1.filterMap plOf = r.2.1.filterMap plOf ++ [⟨(i : Int), p.sp, ((r.1.length + 1 : Nat) : Int), ((r.1.length + 1 + (escR m p.t).length : Nat) : Int)⟩] := by
      simp only [rStep, List.filterMap_append, List.filterMap_cons, List.filterMap_nil, plOf, hp0, if_false]
    by_cases hb : (r.1.length : Int) ≤ a
    · refine pts_now (l := l) (r := rStep m (i : Int) r p) (q := ⟨(i : Int), p.sp, ((r.1.length : Nat) : Int), ((r.1.length + 1 : Nat) : Int), ((r.1.length + 1 + (escR m p.t).length : Nat) : Int)⟩) ?_ rfl ?_ fun q hq => hp q (by simp [hq])
      · simp only [rStep, lastP_snoc]
        rw [if_pos hb]
      · rw [hl, spotG_append]
        simp only [spotG, List.foldl_cons, List.foldl_nil]
        rw [if_pos ⟨trivial, by omega⟩]
    · refine pts_now (l := l) (r := rStep m (i : Int) r p) (q := q) ?_ h2 ?_ fun q hq => hp q (by simp [hq])
      · simp only [rStep, lastP_snoc]
        rw [if_neg hb]; exact h1
      · rw [hl, spotG_append]
        simp only [spotG, List.foldl_cons, List.foldl_nil]
        rw [if_neg (by omega)]
        exact h3
theorem pts_st {m : Tapi_Marks} {i : Int} : ∀ {l : List Prt} {r : RT}, (∀ p ∈ l, p.sp.fElement ≠ 0) → (rPts m i r l).2.1.filterMap stOf = r.2.1.filterMap stOf
  | [], r, _ => rfl
  | p :: l, r, hp => by
    have hp0 := hp p (by simp)
    have e : (rPts m i r (p :: l)) = rPts m i (rStep m i r p) l := rfl
    rw [e, pts_st (l := l) fun q hq => hp q (by simp [hq])]
    simp only [rStep, List.filterMap_append, List.filterMap_cons, List.filterMap_nil, stOf, hp0, if_false, List.append_nil]
theorem pts_segs {m : Tapi_Marks} {i : Nat} : ∀ {l : List Prt} {r : RT}, (∀ p ∈ r.2.1.filterMap plOf, p.fsegment < ((i + 1 : Nat) : Int) ∧ 1 ≤ p.ffrom ∧ p.ffrom ≤ (r.1.length : Int)) → (∀ p ∈ l, p.sp.fElement ≠ 0) → ∀ p ∈ (rPts m (i : Int) r l).2.1.filterMap plOf, p.fsegment < ((i + 1 : Nat) : Int) ∧ 1 ≤ p.ffrom ∧ p.ffrom ≤ ((rPts m (i : Int) r l).1.length : Int)
  | [], r, h, _ => h
  | p :: l, r, h, hp => by
    have hp0 := hp p (by simp)
    have e : (rPts m (i : Int) r (p :: l)) = rPts m (i : Int) (rStep m (i : Int) r p) l := rfl
    rw [e]
    refine pts_segs (l := l) (r := rStep m (i : Int) r p) ?_ fun q hq => hp q (by simp [hq])
    have hl : (rStep m (i : Int) r p).2.1.filterMap plOf = r.2.1.filterMap plOf ++ [⟨(i : Int), p.sp, ((r.1.length + 1 : Nat) : Int), ((r.1.length + 1 + (escR m p.t).length : Nat) : Int)⟩] := by
      simp only [rStep, List.filterMap_append, List.filterMap_cons, List.filterMap_nil, plOf, hp0, if_false]
    have hg : r.1.length + 1 ≤ (rStep m (i : Int) r p).1.length := by simp only [rStep, List.length_append, List.length_cons]; omega
    intro q hq
    rw [hl] at hq
    rcases List.mem_append.1 hq with hq | hq
    · obtain ⟨h1, h2, h3⟩ := h q hq
      exact ⟨h1, h2, by omega⟩
    · simp only [List.mem_singleton] at hq
      subst hq
      exact ⟨by simp only; omega, by simp only; omega, by simp only; omega⟩
theorem Fits.seg {a : Int} {i : Nat} {r : RT} {m : Tapi_Marks} {lines : Bool} {s : Tapi_Segment} (h : Fits a i r) (ha : 0 ≤ a) (h0 : i = 0 → r.1.length = 0) : Fits a (i + 1) (rSeg m lines i r s) := by
  have hh : (rHead r i s).2.1.filterMap plOf = r.2.1.filterMap plOf := by simp [rHead, plOf]
  have hst : (rHead r i s).2.1.filterMap stOf = r.2.1.filterMap stOf ++ [((r.1.length : Nat) : Int)] := by simp [rHead, stOf]
  have hg := rSeg_grow m lines i r s
  have hgh : r.1.length ≤ (rHead r i s).1.length := by simp only [rHead, List.length_append]; omega
  have hgp := rPts_grow m (i : Int) (ptsS m s) (rHead r i s)
  have hS : (rSeg m lines i r s).2.1.filterMap stOf = r.2.1.filterMap stOf ++ [((r.1.length : Nat) : Int)] := by
    show (rPts m (i : Int) (rHead r i s) (ptsS m s)).2.1.filterMap stOf = _
    rw [pts_st spot_ne, hst]
  have hseg := pts_segs (m := m) (i := i) (l := ptsS m s) (r := rHead r i s) (fun p hp => by
    rw [hh] at hp
    have h1 := h.segs p hp
    have h2 := h.frm p hp
    exact ⟨by omega, h2.1, by omega⟩) spot_ne
  have hlen : (rPts m (i : Int) (rHead r i s) (ptsS m s)).1.length ≤ (rSeg m lines i r s).1.length := by simp only [rSeg, List.length_append]; omega
  refine ⟨fun p hp => (hseg p hp).1, ?_, ?_, fun p hp => ⟨(hseg p hp).2.1, by have := (hseg p hp).2.2; omega⟩, .inr ?_⟩
  · intro x hx
    rw [hS] at hx
    rcases List.mem_append.1 hx with hx | hx
    · have := h.stle x hx; omega
    · simp only [List.mem_singleton] at hx; omega
  · rw [hS]; simp [h.stn]
  · have hsl : (r.2.1.filterMap stOf).length = i := h.stn
    by_cases hb : (r.1.length : Int) ≤ a
    · have hl1 : lastP a (rHead r i s).2.1 = some ⟨(i : Int), ⟨0, 0, 0⟩, ((r.1.length : Nat) : Int), ((r.1.length : Nat) : Int), ((r.1.length + s.fTag.length : Nat) : Int)⟩ := by
        simp only [rHead, lastP_snoc]
        rw [if_pos hb]
      obtain ⟨q, h1, h2, h3⟩ := pts_now (m := m) (a := a) (i := i) (l := ptsS m s) hl1 rfl (by
        rw [hh, spotG_none]
        · rfl
        · intro p hp
          have := h.segs p hp
          omega) spot_ne
      refine ⟨i, q, by omega, ?_, ?_, h1, h2, h3⟩
      · intro j x hj hx
        rw [hS] at hx
        have := List.mem_of_getElem? hx
        rcases List.mem_append.1 this with hm | hm
        · have := h.stle x hm; omega
        · simp only [List.mem_singleton] at hm; omega
      · intro x hx
        rw [hS] at hx
        have := get_le hx
        simp at this; omega
    · have hi0 : i ≠ 0 := fun e => by have := h0 e; omega
      rcases h.ans with e | ⟨k, q, h1, h2, h3, h4, h5, h6⟩
      · exact absurd e hi0
      · obtain ⟨g1, pl, g2, g3⟩ := pts_late (m := m) (a := a) (i := i) (l := ptsS m s) (r := rHead r i s) (by omega) spot_ne
        refine ⟨k, q, by omega, ?_, ?_, ?_, h5, ?_⟩
        · intro j x hj hx
          rw [hS, List.getElem?_append_left (by omega)] at hx
          exact h2 j x hj hx
        · intro x hx
          rw [hS] at hx
          by_cases hk : k + 1 < i
          · rw [List.getElem?_append_left (by omega)] at hx; exact h3 x hx
          · have := List.mem_of_getElem? hx
            rw [List.getElem?_append_right (by omega)] at hx
            have hm := List.mem_of_getElem? hx
            simp only [List.mem_singleton] at hm; omega
        · show lastP a (rPts m (i : Int) (rHead r i s) (ptsS m s)).2.1 = some q
          rw [g1]
          simp only [rHead, lastP_snoc]
          rw [if_neg (by omega)]
          exact h4
        · show spotG a (k : Int) ((rPts m (i : Int) (rHead r i s) (ptsS m s)).2.1.filterMap plOf) noS = q.fat
          rw [g2, hh, spotG_append, spotG_none a (k : Int) pl]
          · exact h6
          · intro p hp
            rw [g3 p hp]
            omega
theorem fits_all {a : Int} {m : Tapi_Marks} {lines : Bool} (ha : 0 ≤ a) : ∀ {l : List Tapi_Segment} {i : Nat} {r : RT}, Fits a i r → (i = 0 → r.1.length = 0) → Fits a (i + l.length) (rSegs m lines i r l)
  | [], i, r, h, _ => h
  | s :: l, i, r, h, h0 => by
    have := fits_all (m := m) (lines := lines) ha (l := l) (i := i + 1) (h.seg (m := m) (lines := lines) (s := s) ha h0) (fun e => by omega)
    rw [show i + (s :: l).length = i + 1 + l.length by simp; omega]
    exact this
theorem fits0 (a : Int) : Fits a 0 ([], [], 0) := ⟨by simp, by simp, rfl, by simp, .inl rfl⟩
/-- The segment and the spot of a byte. -/
def spotF (l : List Tapi_Segment) (m : Tapi_Marks) (lines : Bool) (a : Int) : Int × Tapi_Spot × Int :=
  if joinF l m lines ≠ 0 then (0, noS, joinF l m lines) else if a < 0 ∨ ((rAll m lines l).1.length : Int) ≤ a then (0, noS, 1) else
  match lastP a (rAll m lines l).2.1 with
  | some q => (q.fsegment, q.fat, 0)
  | none => (0, noS, 0)
theorem w_SpotAt (l : List Tapi_Segment) (m : Tapi_Marks) (lines : Bool) (a : Int) (ht : TagsShort l) : m_wire_SpotAt l m lines a = some (spotF l m lines a) := by
  unfold m_wire_SpotAt sims_G5_1_0; dsimp only
  obtain ⟨pl, ss, hpl, h⟩ := w_writ l m lines
  simp only [w_written l m lines ht, Option.bind_some, h]
  unfold spotF
  by_cases hj : joinF l m lines = 0
  · obtain ⟨hl, hsg, hpn, hln⟩ := segs_all hj
    obtain ⟨e1, e2⟩ := hpl hj
    have hw : IntKind.i64.wrap (((rAll m lines l).1.length : Int) - 1) = ((rAll m lines l).1.length : Int) - 1 := wrap64 _ (by omega) (by omega)
    simp only [hj, if_true, decide_true, Bool.not_true, cond_false, ne_eq, not_true_eq_false, if_false, outside_eq, Option.bind_some, hw]
    by_cases ho : a < 0 ∨ ((rAll m lines l).1.length : Int) ≤ a
    · have : outB a 0 (((rAll m lines l).1.length : Int) - 1) = true := by unfold outB; simp; omega
      simp only [this, cond_true, if_pos ho]; rfl
    · have : outB a 0 (((rAll m lines l).1.length : Int) - 1) = false := by unfold outB; simp; omega
      simp only [this, cond_false, if_neg ho]
      have hf : Fits a (0 + l.length) (rAll m lines l) := fits_all (by omega) (fits0 a) (fun _ => rfl)
      have hn := hf.stn
      rw [e2, Nat.zero_add] at hn
      have hfr := hf.frm
      rw [e1] at hfr
      rcases hf.ans with h0 | ⟨s, q, h1, h2, h3, h4, h5, h6⟩
      · exfalso
        have : l = [] := by cases l with | nil => rfl | cons _ _ => simp at h0
        subst this
        simp [rAll, rSegs] at ho
        omega
      · rw [e2] at h2 h3
        rw [e1] at h6
        rw [h4]
        refine bind_loop (loop_trace (a := .inl ((s : Nat) : Int)) (fun i => ((i : Nat) : Int)) s (fun i hi => ?_) ?_) ?_
        · obtain ⟨x, hx⟩ := get_lt (l := ss) (i := i + 1) (by omega)
          have hxa := h2 (i + 1) x (by omega) hx
          have d1 : decide (((i + 1 : Nat) : Int) < (ss.length : Int)) = true := decide_eq_true (by omega)
          simp only [wrapN i (by omega), getI_nat, hx, Option.bind_some, andO_some, d1, decide_eq_true hxa, Bool.and_self, cond_true]
        · by_cases hs1 : s + 1 < ss.length
          · obtain ⟨x, hx⟩ := get_lt (l := ss) (i := s + 1) hs1
            have hxa := h3 x hx
            have d1 : decide (((s + 1 : Nat) : Int) < (ss.length : Int)) = true := decide_eq_true (by omega)
            have d2 : decide (x ≤ a) = false := decide_eq_false (by omega)
            simp only [wrapN s (by omega), getI_nat, hx, Option.bind_some, andO_some, d1, d2, Bool.and_false, cond_false]
            rfl
          · have d1 : decide (((s + 1 : Nat) : Int) < (ss.length : Int)) = false := decide_eq_false (by omega)
            simp only [wrapN s (by omega), d1, andO, cond_false, Option.bind_some]
            rfl
        · simp only [outK]
          have hpl' : pl.length ≤ 40004000 := by rw [← e1]; exact Nat.le_trans (plOf_len _) hpn
          refine bind_loop (loop_pre (a := .inl (spotG a (s : Int) pl noS, ((pl.length : Nat) : Int))) pl (fun i pre => (spotG a (s : Int) pre noS, ((i : Nat) : Int))) (fun i p hp => ?_) ?_) ?_
          · have hi := get_le hp
            have hpf := hfr p (List.mem_of_getElem? hp)
            have hw2 : IntKind.i64.wrap (p.ffrom - 1) = p.ffrom - 1 := wrap64 _ (by omega) (by omega)
            rw [spotG_append]
            generalize spotG a (s : Int) (pl.take i) noS = sp
            simp only [lt_dec hi, cond_true, getI_nat, hp, Option.bind_some, andO_some, wrapN i (by omega), hw2, spotG, List.foldl_cons, List.foldl_nil]
            by_cases hc : p.fsegment = (s : Int) ∧ p.ffrom - 1 ≤ a
            · simp only [hc.1, hc.2, decide_true, Bool.and_self, cond_true, and_self, if_true]
            · have : (decide (p.fsegment = (s : Int)) && decide (p.ffrom - 1 ≤ a)) = false := by
                rw [Bool.eq_false_iff]
                simpa using hc
              simp only [this, cond_false, if_neg hc]
          · simp only [lt_dec_self, cond_false]; rfl
          · simp only [outK, h6, h5]
  · simp only [hj, if_false, decide_false, Bool.not_false, cond_true, ne_eq, not_false_eq_true, if_true]; rfl
end Go.Proofs.YteilhjdpbjgdpaaDoor

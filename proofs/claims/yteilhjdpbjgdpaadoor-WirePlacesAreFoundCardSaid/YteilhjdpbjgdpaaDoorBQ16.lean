/-
  Plain laws of the wire: the bytes of a part are of its spot.
-/
import Derived.Test.YteilhjdpbjgdpaaDoorBQ14
import Derived.Test.YteilhjdpbjgdpaaDoorBG10
namespace Go.Proofs.YteilhjdpbjgdpaaDoor
set_option linter.unusedSimpArgs false
set_option linter.unusedVariables false
open Go.RowKit

/-- Whence a part's piece comes. -/
def Src (m : Tapi_Marks) (l : List Tapi_Segment) (q : Pc) : Prop :=
  q.ffrom = q.fbegin + 1 ∧ 0 ≤ q.fbegin ∧ ∃ (k : Nat) (s : Tapi_Segment) (p : Prt), q.fsegment = (k : Int) ∧ l[k]? = some s ∧ p ∈ ptsS m s ∧ p.sp = q.fat ∧ q.fto = q.ffrom + ((escR m p.t).length : Int)
structure PP (m : Tapi_Marks) (l : List Tapi_Segment) (r : RT) : Prop where
  pw : r.2.1.Pairwise fun x y => x.fto ≤ y.fbegin
  bd : ∀ q ∈ r.2.1, q.fto ≤ (r.1.length : Int)
  src : ∀ q ∈ r.2.1, q.fat.fElement ≠ 0 → Src m l q
theorem PP.add {m : Tapi_Marks} {l : List Tapi_Segment} {r : RT} (h : PP m l r) (q : Pc) (o : List UInt8) (c : Nat) (hb : q.fbegin = (r.1.length : Int)) (hto : q.fto ≤ (o.length : Int)) (hlen : r.1.length ≤ o.length) (hs : q.fat.fElement ≠ 0 → Src m l q) : PP m l (o, r.2.1 ++ [q], c) := by
  refine ⟨?_, ?_, ?_⟩
  · simp only
    rw [List.pairwise_append]
    refine ⟨h.pw, by simp, fun x hx y hy => ?_⟩
    simp only [List.mem_singleton] at hy
    subst hy
    have := h.bd x hx
    omega
  · intro x hx
    rcases List.mem_append.1 hx with hx | hx
    · have := h.bd x hx; simp only; omega
    · simp only [List.mem_singleton] at hx; subst hx; exact hto
  · intro x hx
    rcases List.mem_append.1 hx with hx | hx
    · exact h.src x hx
    · simp only [List.mem_singleton] at hx; subst hx; exact hs
theorem PP.pts {m : Tapi_Marks} {l : List Tapi_Segment} {i : Nat} {s : Tapi_Segment} (hi : l[i]? = some s) : ∀ {P : List Prt} {r : RT}, PP m l r → (∀ p ∈ P, p ∈ ptsS m s) → PP m l (rPts m (i : Int) r P)
  | [], r, h, _ => h
  | p :: P, r, h, hP => by
    have e : (rPts m (i : Int) r (p :: P)) = rPts m (i : Int) (rStep m (i : Int) r p) P := rfl
    rw [e]
    refine PP.pts hi (P := P) ?_ fun q hq => hP q (by simp [hq])
    refine h.add _ _ _ rfl ?_ ?_ fun _ => ⟨?_, ?_, i, s, p, rfl, hi, hP p (by simp), rfl, ?_⟩
    · simp only [List.length_append, List.length_cons]; omega
    · simp only [List.length_append, List.length_cons]; omega
    · simp only; omega
    · simp only; omega
    · simp only; omega
theorem PP.seg {m : Tapi_Marks} {lines : Bool} {l : List Tapi_Segment} {i : Nat} {s : Tapi_Segment} {r : RT} (hi : l[i]? = some s) (h : PP m l r) : PP m l (rSeg m lines i r s) := by
  have h1 : PP m l (rHead r i s) := h.add _ _ _ rfl (by simp only [List.length_append]; omega) (by simp only [List.length_append]; omega) (fun e => absurd rfl e)
  have h2 := h1.pts (i := i) hi (P := ptsS m s) fun p hp => hp
  refine ⟨h2.pw, fun q hq => ?_, h2.src⟩
  have := h2.bd q hq
  simp only [rSeg, List.length_append]
  omega
theorem pp_all {m : Tapi_Marks} {lines : Bool} {l : List Tapi_Segment} : ∀ {t : List Tapi_Segment} {i : Nat} {r : RT}, l.drop i = t → PP m l r → PP m l (rSegs m lines i r t)
  | [], i, r, _, h => h
  | s :: t, i, r, hd, h => by
    obtain ⟨h1, h2, h3⟩ := drop_head hd
    exact pp_all (t := t) (i := i + 1) h3 (h.seg h1)
theorem lastP_mid (a : Int) (pre post : List Pc) (q : Pc) (hq : q.fbegin ≤ a) (hp : ∀ x ∈ post, a < x.fbegin) : lastP a (pre ++ q :: post) = some q := by
  have : ∀ (post : List Pc) (acc : Option Pc), (∀ x ∈ post, a < x.fbegin) → post.foldl (fun acc q => if q.fbegin ≤ a then some q else acc) acc = acc := by
    intro post
    induction post with
    | nil => intro acc _; rfl
    | cons x post ih =>
      intro acc h
      have hx := h x (by simp)
      simp only [List.foldl_cons]
      rw [if_neg (by omega)]
      exact ih acc fun y hy => h y (by simp [hy])
  unfold lastP
  rw [List.foldl_append, List.foldl_cons, if_pos hq]
  exact this post _ hp
/-- The text of a part is in its segment. -/
theorem pts_text {m : Tapi_Marks} {s : Tapi_Segment} {p : Prt} (hp : p ∈ ptsS m s) : ∃ (e r k : Nat) (x : Tapi_Element) (parts : List (List UInt8)), s.fElements[e]? = some x ∧ x.fRepeats[r]? = some parts ∧ parts[k]? = some p.t ∧ p.sp = spotOf e r k := by
  unfold ptsS at hp
  obtain ⟨e, x, h1, hp⟩ := ixMap_mem hp
  unfold ptsE at hp
  obtain ⟨r, parts, h2, hp⟩ := ixMap_mem hp
  unfold ptsR at hp
  obtain ⟨k, t, h3, hp⟩ := ixMap_mem hp
  simp only [ptsP, List.mem_singleton] at hp
  subst hp
  refine ⟨e, r, k, x, parts, h1, h2, h3, ?_⟩
  simp only [Nat.zero_add]
theorem escR_ge (m : Tapi_Marks) : ∀ (t : List UInt8), t.length ≤ (escR m t).length
  | [] => by simp
  | b :: t => by
    have := escR_ge m t
    have h : escR m (b :: t) = (if isM m b = true ∧ m.fEscape.toNat ≠ 0 then [m.fEscape, b] else [b]) ++ escR m t := by simp [escR]
    rw [h, List.length_append, List.length_cons]
    split <;> simp <;> omega
theorem textAt_eq {s : Tapi_Segment} {e r k : Nat} {x : Tapi_Element} {parts : List (List UInt8)} {t : List UInt8} (hs : segF s = 0) (h1 : s.fElements[e]? = some x) (h2 : x.fRepeats[r]? = some parts) (h3 : parts[k]? = some t) : m_wire_TextAt s (spotOf e r k) = some (t, true) := by
  unfold m_wire_TextAt sims_G10_0_0; dsimp only
  obtain ⟨-, -, -, g1, g2⟩ := seg_len hs
  obtain ⟨g3, -, g4⟩ := elem_len (g2 x (List.mem_of_getElem? h1))
  obtain ⟨g5, -, -⟩ := rep_len (g4 parts (List.mem_of_getElem? h2))
  have l1 := get_le h1
  have l2 := get_le h2
  have l3 := get_le h3
  have f1 : (spotOf e r k).fElement = ((e + 1 : Nat) : Int) := rfl
  have f2 : (spotOf e r k).fRepeat = ((r + 1 : Nat) : Int) := rfl
  have f3 : (spotOf e r k).fPart = ((k + 1 : Nat) : Int) := rfl
  have w1 : IntKind.i64.wrap ((spotOf e r k).fElement - 1) = ((e : Nat) : Int) := by rw [f1, wrap64 _ (by omega) (by omega)]; omega
  have w2 : IntKind.i64.wrap ((spotOf e r k).fRepeat - 1) = ((r : Nat) : Int) := by rw [f2, wrap64 _ (by omega) (by omega)]; omega
  have w3 : IntKind.i64.wrap ((spotOf e r k).fPart - 1) = ((k : Nat) : Int) := by rw [f3, wrap64 _ (by omega) (by omega)]; omega
  have d1 : decide ((s.fElements.length : Int) < (spotOf e r k).fElement) = false := decide_eq_false (by omega)
  have d2 : decide ((x.fRepeats.length : Int) < (spotOf e r k).fRepeat) = false := decide_eq_false (by omega)
  have d3 : decide ((parts.length : Int) < (spotOf e r k).fPart) = false := decide_eq_false (by omega)
  simp only [w1, w2, w3, d1, d2, d3, getI_nat, h1, h2, h3, Option.bind_some, orO_some, Bool.or_self, cond_false]
theorem w_Text_found {s : Tapi_Segment} {e r k : Nat} {x : Tapi_Element} {parts : List (List UInt8)} {t : List UInt8} (hs : segF s = 0) (h1 : s.fElements[e]? = some x) (h2 : x.fRepeats[r]? = some parts) (h3 : parts[k]? = some t) (hb : spotB (spotOf e r k) = false) : m_wire_Text s (spotOf e r k) = some (t, true, 0) := by
  have hf : m_wire_spotFault s (spotOf e r k) = some 0 := by
    unfold m_wire_spotFault sims_G10_1_0; dsimp only
    have hl := (seg_len hs).2.1
    have hts : TagsShort [s] := fun y hy => by simp only [List.mem_singleton] at hy; subst hy; omega
    have hsg : segsF [s] = 0 := by simp [segsF, listF, hs]
    simp only [w_segs [s] hts, hsg, Option.bind_some, decide_true, Bool.not_true, cond_false, spotRange_eq, hb]
  unfold m_wire_Text sims_G10_2_0; dsimp only
  simp only [hf, Option.bind_some, decide_true, Bool.not_true, cond_false, textAt_eq hs h1 h2 h3]
theorem where_ok {l : List Tapi_Segment} {m : Tapi_Marks} {lines : Bool} {seg : Int} {at_ : Tapi_Spot} (hf : (whereF l m lines seg at_).2 = 0) : ∃ q, joinF l m lines = 0 ∧ ¬ (seg < 0 ∨ (l.length : Int) ≤ seg) ∧ spotB at_ = false ∧ findP seg at_ (rAll m lines l).2.1 = some q ∧ whereF l m lines seg at_ = (⟨q.ffrom, q.fto⟩, 0) := by
  unfold whereF at hf ⊢
  by_cases hj : joinF l m lines = 0
  · rw [if_neg (fun e => e hj)] at hf ⊢
    by_cases ho : seg < 0 ∨ (l.length : Int) ≤ seg
    · rw [if_pos ho] at hf; cases hf
    · rw [if_neg ho] at hf ⊢
      by_cases hb : spotB at_ = true
      · rw [if_pos hb] at hf; cases hf
      · rw [if_neg hb] at hf ⊢
        simp only [Bool.not_eq_true] at hb
        cases hfp : findP seg at_ (rAll m lines l).2.1 with
        | none => rw [hfp] at hf; cases hf
        | some q => exact ⟨q, hj, ho, hb, rfl, rfl⟩
  · rw [if_pos hj] at hf; exact absurd hf hj
theorem where_no {l : List Tapi_Segment} {m : Tapi_Marks} {lines : Bool} {seg : Int} {at_ : Tapi_Spot} (hf : (whereF l m lines seg at_).2 ≠ 0) : (whereF l m lines seg at_).1 = noR := by
  unfold whereF at hf ⊢
  by_cases h1 : joinF l m lines ≠ 0
  · rw [if_pos h1]
  · rw [if_neg h1] at hf ⊢
    by_cases h2 : seg < 0 ∨ (l.length : Int) ≤ seg
    · rw [if_pos h2]
    · rw [if_neg h2] at hf ⊢
      by_cases h3 : spotB at_ = true
      · rw [if_pos h3]
      · rw [if_neg h3] at hf ⊢
        cases hq : findP seg at_ (rAll m lines l).2.1 with
        | none => rfl
        | some q => rw [hq] at hf; exact absurd rfl hf
theorem law_found (l : List Tapi_Segment) (m : Tapi_Marks) (lines : Bool) (seg : Int) (at_ : Tapi_Spot) (ht : TagsShort l) (hl : l.length ≤ 9223372036854775807) : m_interchangelaw2_WirePlacesAreFound l m lines seg at_ = some true := by
  unfold m_interchangelaw2_WirePlacesAreFound sims_G10_3_0; dsimp only
  simp only [w_Where l m lines seg at_ ht hl, Option.bind_some, w_Join l m lines ht, awake_true, andO_some, orO_some]
  by_cases hf : (whereF l m lines seg at_).2 = 0
  · obtain ⟨q, hj, ho, hb, hfp, hw⟩ := where_ok hf
    simp only [hw, decide_true, Bool.not_true, cond_false]
    obtain ⟨hln, hsg, hpn, hlen⟩ := segs_all hj
    have hP : PP m l (rAll m lines l) := pp_all (m := m) (lines := lines) (l := l) (t := l) (i := 0) rfl ⟨by simp, by simp, by simp⟩
    unfold findP at hfp
    have hq1 := List.find?_some hfp
    have hqm := List.mem_of_find?_eq_some hfp
    unfold isP eqSpot at hq1
    simp only [Bool.and_eq_true, decide_eq_true_eq] at hq1
    obtain ⟨hseg, ha1, ha2, ha3⟩ := hq1
    have hat : q.fat = at_ := by
      cases hqa : q.fat; cases at_
      rw [hqa] at ha1 ha2 ha3
      simp only at ha1 ha2 ha3
      subst ha1 ha2 ha3; rfl
    have hne : q.fat.fElement ≠ 0 := by
      rw [hat]
      unfold spotB outB at hb
      simp at hb
      omega
    obtain ⟨s1, s2, k, s, p, s3, s4, s5, s6, s7⟩ := hP.src q hqm hne
    have hto := hP.bd q hqm
    simp only [hj, if_true, decide_true, Bool.not_true, Bool.false_or]
    have hcond : (decide (q.ffrom < 1) || decide (q.fto < q.ffrom) || decide (((rAll m lines l).1.length : Int) < q.fto) || decide (seg < 0) || decide ((l.length : Int) ≤ seg)) = false := by
      simp only [Bool.or_eq_false_iff, decide_eq_false_iff_not]
      refine ⟨⟨⟨⟨by omega, by omega⟩, by omega⟩, by omega⟩, by omega⟩
    simp only [hcond, cond_false]
    obtain ⟨n, hn⟩ : ∃ n : Nat, q.fto - q.ffrom + 1 = (n : Int) := ⟨(q.fto - q.ffrom + 1).toNat, by omega⟩
    have hw : IntKind.i64.wrap (q.ffrom - 1) = q.ffrom - 1 + ((0 : Nat) : Int) := by rw [wrap64 _ (by omega) (by omega)]; omega
    rw [hw]
    obtain ⟨pre, post, hsplit⟩ := List.append_of_mem hqm
    have hpw := hP.pw
    rw [hsplit, List.pairwise_append] at hpw
    have hpost := (List.pairwise_cons.1 hpw.2.1).1
    refine bind_loop (loop_trace (a := .inl q.fto) (fun i => q.ffrom - 1 + ((i : Nat) : Int)) n (fun i hi => ?_) ?_) ?_
    · have hsp : spotF l m lines (q.ffrom - 1 + (i : Int)) = (seg, at_, 0) := by
        unfold spotF
        rw [if_neg (fun e => e hj), if_neg (by omega), hsplit, lastP_mid _ pre post q (by omega) (fun x hx => by have := hpost x hx; omega)]
        simp only [hseg, hat]
      have d : decide (q.ffrom - 1 + (i : Int) < q.fto) = true := decide_eq_true (by omega)
      have hw2 : IntKind.i64.wrap (q.ffrom - 1 + (i : Int) + 1) = q.ffrom - 1 + ((i + 1 : Nat) : Int) := by rw [wrap64 _ (by omega) (by omega)]; omega
      simp only [d, cond_true, w_SpotAt l m lines _ ht, hsp, Option.bind_some, decide_true, Bool.and_self, Bool.not_true, Bool.or_self, cond_false, hw2]
    · have e1 : q.ffrom - 1 + ((n : Nat) : Int) = q.fto := by omega
      have d : decide (q.fto < q.fto) = false := decide_eq_false (by omega)
      simp only [e1, d, cond_false]; rfl
    · simp only [outK]
      have hks : seg = (k : Int) := by rw [← hseg, s3]
      obtain ⟨e, r, kk, x, parts, t1, t2, t3, t4⟩ := pts_text s5
      have hsp : at_ = spotOf e r kk := by rw [← hat, ← s6, t4]
      rw [hks, hsp]
      simp only [getI_nat, s4, Option.bind_some]
      rw [hsp] at hb
      rw [w_Text_found (hsg s (List.mem_of_getElem? s4)) t1 t2 t3 hb]
      have hge := escR_ge m p.t
      have hw3 : IntKind.i64.wrap (q.fto - q.ffrom) = q.fto - q.ffrom := wrap64 _ (by omega) (by omega)
      have d : decide ((p.t.length : Int) ≤ q.fto - q.ffrom) = true := decide_eq_true (by omega)
      simp only [Option.bind_some, hw3, d, decide_true, Bool.and_self]
  · have hr := where_no hf
    simp only [hf, decide_false, Bool.not_false, cond_true, hr]
    rfl
end Go.Proofs.YteilhjdpbjgdpaaDoor

/-
  Plain laws of the wire: what the reference writes.
-/
import Derived.Test.YteilhjdpbjgdpaaDoorQ6
namespace Go.Proofs.YteilhjdpbjgdpaaDoor
set_option linter.unusedSimpArgs false
set_option linter.unusedVariables false
open Go.RowKit

/-- A part with its mark and its place. -/
structure Prt where
  sp : Tapi_Spot
  mark : UInt8
  t : List UInt8
def escR (m : Tapi_Marks) (t : List UInt8) : List UInt8 := t.flatMap fun b => if isM m b = true ∧ m.fEscape.toNat ≠ 0 then [m.fEscape, b] else [b]
theorem escR_snoc (m : Tapi_Marks) (t : List UInt8) (b : UInt8) : escR m (t ++ [b]) = escR m t ++ (if isM m b = true ∧ m.fEscape.toNat ≠ 0 then [m.fEscape, b] else [b]) := by simp [escR]
theorem escR_len (m : Tapi_Marks) : ∀ (t : List UInt8), (escR m t).length ≤ 2 * t.length
  | [] => by simp [escR]
  | b :: t => by
    have := escR_len m t
    have h : escR m (b :: t) = (if isM m b = true ∧ m.fEscape.toNat ≠ 0 then [m.fEscape, b] else [b]) ++ escR m t := by simp [escR]
    rw [h, List.length_append, List.length_cons]
    split <;> simp <;> omega
theorem cntT_snoc (m : Tapi_Marks) (t : List UInt8) (b : UInt8) : cntT m (t ++ [b]) = cntT m t + (if isM m b = true then 1 else 0) := by simp [cntT, List.countP_append, List.countP_singleton]
abbrev RT := List UInt8 × List Tinterchangeref2_piece × Nat
def rStep (m : Tapi_Marks) (seg : Int) (w : RT) (p : Prt) : RT := (w.1 ++ p.mark :: escR m p.t, w.2.1 ++ [⟨seg, p.sp, ((w.1.length : Nat) : Int), ((w.1.length + 1 : Nat) : Int), ((w.1.length + 1 + (escR m p.t).length : Nat) : Int)⟩], w.2.2 + cntT m p.t)
theorem r_part (m : Tapi_Marks) (o : List UInt8) (ps : List Tinterchangeref2_piece) (c : Nat) (seg : Int) (sp : Tapi_Spot) (mk : UInt8) (t : List UInt8) (ht : t.length ≤ 1000) (ho : o.length ≤ 137438950000) (hps : ps.length ≤ 137438950000) (hc : c ≤ 137438950000) :
    m_interchange_interchangeref2_writer_part ⟨m, o, ps, (c : Int)⟩ seg sp mk t = some ((), ⟨m, (rStep m seg (o, ps, c) ⟨sp, mk, t⟩).1, (rStep m seg (o, ps, c) ⟨sp, mk, t⟩).2.1, (((rStep m seg (o, ps, c) ⟨sp, mk, t⟩).2.2 : Nat) : Int)⟩) := by
  unfold m_interchange_interchangeref2_writer_part sims_G3_1_1; dsimp only
  rw [thenO_ok (by simp; omega)]
  refine bind_loop (loop_pre (a := .inl (m, o ++ mk :: escR m t, ps, ((c + cntT m t : Nat) : Int), ((t.length : Nat) : Int))) t (fun i pre => (m, o ++ mk :: escR m pre, ps, ((c + cntT m pre : Nat) : Int), ((i : Nat) : Int))) (fun i e he => ?_) ?_) ?_
  · have hi := get_le he
    have hl := take_len he
    have h1 := escR_len m (t.take i)
    have h2 := cntT_le m (t.take i)
    have hw : IntKind.i64.wrap (((c + cntT m (t.take i) : Nat) : Int) + 1) = ((c + cntT m (t.take i) + 1 : Nat) : Int) := wrapN _ (by omega)
    simp only [lt_dec hi, cond_true, getI_nat, he, Option.bind_some, r_isM, wrapN i (by omega), hw]
    simp (disch := (first | omega | (simp only [List.length_append, List.length_cons, List.length_nil]; omega))) only [thenO_ok]
    by_cases hm : isM m e = true
    · by_cases hz : m.fEscape.toNat = 0
      · have d : decide ((m.fEscape.toNat : Int) = 0) = true := decide_eq_true (by omega)
        simp only [hm, d, Bool.not_true, cond_true, cond_false]
        rw [escR_snoc, cntT_snoc, if_pos hm, if_neg (fun h => h.2 hz)]
        simp [Nat.add_assoc]
      · have d : decide ((m.fEscape.toNat : Int) = 0) = false := decide_eq_false (by omega)
        simp only [hm, d, Bool.not_false, cond_true]
        rw [escR_snoc, cntT_snoc, if_pos hm, if_pos ⟨hm, hz⟩]
        simp [Nat.add_assoc]
    · rw [escR_snoc, cntT_snoc, if_neg hm, if_neg (fun h => hm h.1)]
      simp only [Bool.not_eq_true] at hm
      simp only [hm, cond_false]
      simp
  · simp only [lt_dec_self, cond_false]; rfl
  · simp only [outK]
    rw [thenO_ok (by simp; omega)]
    simp [rStep, Nat.add_assoc, Nat.add_comm, Nat.add_left_comm]
/-! ### The parts of a segment, in order -/
def pmark (m : Tapi_Marks) (r p : Nat) : UInt8 := if 0 < p then m.fPart else if 0 < r then m.fRepeat else m.fElement
def spotOf (e r p : Nat) : Tapi_Spot := ⟨((e + 1 : Nat) : Int), ((r + 1 : Nat) : Int), ((p + 1 : Nat) : Int)⟩
def ptsP (m : Tapi_Marks) (e r : Nat) : Nat → List UInt8 → List Prt := fun p t => [⟨spotOf e r p, pmark m r p, t⟩]
def ptsR (m : Tapi_Marks) (e : Nat) : Nat → List (List UInt8) → List Prt := fun r l => ixMap (ptsP m e r) 0 l
def ptsE (m : Tapi_Marks) : Nat → Tapi_Element → List Prt := fun e x => ixMap (ptsR m e) 0 x.fRepeats
def ptsS (m : Tapi_Marks) (s : Tapi_Segment) : List Prt := ixMap (ptsE m) 0 s.fElements
def TextsOK (l : List Prt) : Prop := ∀ p ∈ l, p.t.length ≤ 1000
theorem tx_R {m : Tapi_Marks} {e r : Nat} {l : List (List UInt8)} (h : ∀ t ∈ l, textF t = 0) : TextsOK (ixMap (ptsP m e r) 0 l) := ixMap_all fun i t ht y hy => by
  simp only [ptsP, List.mem_singleton] at hy; subst hy; exact text_len (h t ht)
theorem tx_E {m : Tapi_Marks} {e : Nat} {l : List (List (List UInt8))} (h : ∀ t ∈ l, repF t = 0) : TextsOK (ixMap (ptsR m e) 0 l) := ixMap_all fun i t ht y hy => tx_R (rep_len (h t ht)).2.2 y hy
theorem tx_S {m : Tapi_Marks} {l : List Tapi_Element} (h : ∀ t ∈ l, elemF t = 0) : TextsOK (ixMap (ptsE m) 0 l) := ixMap_all fun i t ht y hy => tx_E (elem_len (h t ht)).2.2 y hy
theorem ln_R {m : Tapi_Marks} {e r : Nat} {l : List (List UInt8)} : (ixMap (ptsP m e r) 0 l).length ≤ l.length := by
  have := ixMap_len (f := ptsP m e r) (b := 1) l 0 (fun i t ht => by simp [ptsP])
  omega
theorem ln_E {m : Tapi_Marks} {e : Nat} {l : List (List (List UInt8))} (h : ∀ t ∈ l, repF t = 0) : (ixMap (ptsR m e) 0 l).length ≤ l.length * 20 := ixMap_len l 0 fun i t ht => Nat.le_trans ln_R (rep_len (h t ht)).1
theorem ln_S {m : Tapi_Marks} {l : List Tapi_Element} (h : ∀ t ∈ l, elemF t = 0) : (ixMap (ptsE m) 0 l).length ≤ l.length * 400 := ixMap_len l 0 fun i t ht => by
  have h1 := elem_len (h t ht)
  have h2 := ln_E (m := m) (e := i) h1.2.2
  unfold ptsE
  omega
/-! ### The reference's writer -/
def rPts (m : Tapi_Marks) (seg : Int) (w : RT) (l : List Prt) : RT := l.foldl (rStep m seg) w
def rHead (w : RT) (i : Nat) (s : Tapi_Segment) : RT := (w.1 ++ s.fTag, w.2.1 ++ [⟨((i : Nat) : Int), ⟨0, 0, 0⟩, ((w.1.length : Nat) : Int), ((w.1.length : Nat) : Int), ((w.1.length + s.fTag.length : Nat) : Int)⟩], w.2.2)
def tailB (m : Tapi_Marks) (lines : Bool) : List UInt8 := bif lines then [m.fEnd, 10] else [m.fEnd]
def rSeg (m : Tapi_Marks) (lines : Bool) (i : Nat) (w : RT) (s : Tapi_Segment) : RT := ((rPts m (i : Int) (rHead w i s) (ptsS m s)).1 ++ tailB m lines, (rPts m (i : Int) (rHead w i s) (ptsS m s)).2)
def rSegs (m : Tapi_Marks) (lines : Bool) : Nat → RT → List Tapi_Segment → RT
  | _, w, [] => w
  | i, w, s :: l => rSegs m lines (i + 1) (rSeg m lines i w s) l
theorem rSegs_snoc (m : Tapi_Marks) (lines : Bool) : ∀ (l : List Tapi_Segment) (i : Nat) (w : RT) (s : Tapi_Segment), rSegs m lines i w (l ++ [s]) = rSeg m lines (i + l.length) (rSegs m lines i w l) s
  | [], i, w, s => rfl
  | x :: l, i, w, s => by
    simp only [List.cons_append, rSegs, rSegs_snoc m lines l (i + 1), List.length_cons]
    rw [show i + 1 + l.length = i + (l.length + 1) by omega]
def Bd (w : RT) (k : Nat) : Prop := w.1.length ≤ 2010 * k ∧ w.2.1.length ≤ k ∧ w.2.2 ≤ 1000 * k
theorem Bd.mono {w : RT} {k k' : Nat} (h : Bd w k) (hk : k ≤ k') : Bd w k' := by
  obtain ⟨h1, h2, h3⟩ := h; exact ⟨by omega, by omega, by omega⟩
theorem Bd.step {m : Tapi_Marks} {seg : Int} {w : RT} {p : Prt} {k : Nat} (h : Bd w k) (hp : p.t.length ≤ 1000) : Bd (rStep m seg w p) (k + 1) := by
  obtain ⟨h1, h2, h3⟩ := h
  have h4 := escR_len m p.t
  have h5 := cntT_le m p.t
  refine ⟨?_, ?_, ?_⟩ <;> simp only [rStep, List.length_append, List.length_cons, List.length_nil] <;> omega
theorem Bd.pts {m : Tapi_Marks} {seg : Int} : ∀ {l : List Prt} {w : RT} {k : Nat}, Bd w k → TextsOK l → Bd (rPts m seg w l) (k + l.length)
  | [], w, k, h, _ => h
  | p :: l, w, k, h, ht => by
    have := Bd.pts (m := m) (seg := seg) (l := l) (h.step (m := m) (seg := seg) (ht p (by simp))) (fun q hq => ht q (by simp [hq]))
    rw [show k + (p :: l).length = k + 1 + l.length by simp; omega]
    exact this
theorem Bd.head {w : RT} {k i : Nat} {s : Tapi_Segment} (h : Bd w k) (hs : s.fTag.length ≤ 6) : Bd (rHead w i s) (k + 1) := by
  obtain ⟨h1, h2, h3⟩ := h
  refine ⟨?_, ?_, ?_⟩ <;> simp only [rHead, List.length_append, List.length_cons, List.length_nil] <;> omega
theorem Bd.tail {w : RT} {k : Nat} {m : Tapi_Marks} {lines : Bool} (h : Bd w k) : Bd (w.1 ++ tailB m lines, w.2) (k + 1) := by
  obtain ⟨h1, h2, h3⟩ := h
  refine ⟨?_, by simp only; omega, by simp only; omega⟩
  simp only [List.length_append]
  cases lines <;> simp [tailB] <;> omega
theorem Bd.seg {w : RT} {k i : Nat} {m : Tapi_Marks} {lines : Bool} {s : Tapi_Segment} (h : Bd w k) (hs : segF s = 0) : Bd (rSeg m lines i w s) (k + 20002) := by
  obtain ⟨-, h1, -, h2, h3⟩ := seg_len hs
  have h4 := ln_S (m := m) h3
  have := ((h.head (i := i) h1).pts (m := m) (seg := (i : Int)) (l := ptsS m s) (tx_S h3)).tail (m := m) (lines := lines)
  refine this.mono ?_
  unfold ptsS
  omega
theorem Bd.segs {m : Tapi_Marks} {lines : Bool} : ∀ {l : List Tapi_Segment} {i : Nat} {w : RT} {k : Nat}, Bd w k → (∀ s ∈ l, segF s = 0) → Bd (rSegs m lines i w l) (k + l.length * 20002)
  | [], i, w, k, h, _ => by simpa [rSegs] using h
  | s :: l, i, w, k, h, hs => by
    have := Bd.segs (m := m) (lines := lines) (l := l) (i := i + 1) (h.seg (i := i) (m := m) (lines := lines) (hs s (by simp))) (fun x hx => hs x (by simp [hx]))
    refine this.mono ?_
    simp only [List.length_cons]; omega
theorem rPts_append (m : Tapi_Marks) (seg : Int) (w : RT) (l l2 : List Prt) : rPts m seg w (l ++ l2) = rPts m seg (rPts m seg w l) l2 := by simp [rPts]
theorem r_written (l : List Tapi_Segment) (m : Tapi_Marks) (lines : Bool) (h : segsF l = 0) :
    m_interchangeref2_written l m lines = some (some ⟨m, (rSegs m lines 0 ([], [], 0) l).1, (rSegs m lines 0 ([], [], 0) l).2.1, (((rSegs m lines 0 ([], [], 0) l).2.2 : Nat) : Int)⟩) := by
  unfold m_interchangeref2_written sims_G3_2_1; dsimp only
  obtain ⟨hl, hs⟩ := segs_len h
  have hB0 : Bd (([], [], 0) : RT) 0 := ⟨by simp, by simp, by simp⟩
  refine bind_loop (loop_pre (a := .inl (m, (rSegs m lines 0 ([], [], 0) l).1, (rSegs m lines 0 ([], [], 0) l).2.1, (((rSegs m lines 0 ([], [], 0) l).2.2 : Nat) : Int), ((l.length : Nat) : Int))) l
    (fun i pre => (m, (rSegs m lines 0 ([], [], 0) pre).1, (rSegs m lines 0 ([], [], 0) pre).2.1, (((rSegs m lines 0 ([], [], 0) pre).2.2 : Nat) : Int), ((i : Nat) : Int))) (fun i s hsi => ?_) ?_) ?_
  · have hi := get_le hsi
    have hil := take_len hsi
    have hBi := Bd.segs (m := m) (lines := lines) (i := 0) hB0 (l := l.take i) (fun s hs' => hs s (mem_take hs'))
    rw [hil] at hBi
    rw [rSegs_snoc, hil, Nat.zero_add]
    generalize hw : rSegs m lines 0 ([], [], 0) (l.take i) = w at hBi ⊢
    obtain ⟨-, htl, -, hel, hes⟩ := seg_len (hs s (List.mem_of_getElem? hsi))
    have hBh := hBi.head (i := i) htl
    obtain ⟨b1, b2, b3⟩ := hBi
    have hwt : IntKind.i64.wrap ((w.1.length : Int) + (s.fTag.length : Int)) = ((w.1.length + s.fTag.length : Nat) : Int) := by rw [wrap64 _ (by omega) (by omega)]; simp
    simp only [lt_dec hi, cond_true, getI_nat, hsi, Option.bind_some, wrapN i (by omega), hwt]
    simp (disch := (first | omega | (simp only [List.length_append, List.length_cons, List.length_nil]; omega))) only [thenO_ok]
    refine bind_loop (loop_pre (a := .inl (m, (rPts m (i : Int) (rHead w i s) (ptsS m s)).1, (rPts m (i : Int) (rHead w i s) (ptsS m s)).2.1, (((rPts m (i : Int) (rHead w i s) (ptsS m s)).2.2 : Nat) : Int), ((s.fElements.length : Nat) : Int))) s.fElements
      (fun e pre => (m, (rPts m (i : Int) (rHead w i s) (ixMap (ptsE m) 0 pre)).1, (rPts m (i : Int) (rHead w i s) (ixMap (ptsE m) 0 pre)).2.1, (((rPts m (i : Int) (rHead w i s) (ixMap (ptsE m) 0 pre)).2.2 : Nat) : Int), ((e : Nat) : Int))) (fun e x hxe => ?_) ?_) ?_
    · have he := get_le hxe
      have hell := take_len hxe
      have hpe : ∀ t ∈ s.fElements.take e, elemF t = 0 := fun t ht => hes t (mem_take ht)
      have hBe := (hBh.pts (m := m) (seg := (i : Int)) (tx_S (m := m) hpe)).mono (k' := i * 20002 + 1 + e * 400) (by have := ln_S (m := m) hpe; rw [hell] at this; omega)
      rw [ixMap_snoc, rPts_append, hell]
      generalize hw1 : rPts m (i : Int) (rHead w i s) (ixMap (ptsE m) 0 (s.fElements.take e)) = w1 at hBe ⊢
      obtain ⟨hrl, -, hrs⟩ := elem_len (hes x (List.mem_of_getElem? hxe))
      simp only [lt_dec he, cond_true, getI_nat, hxe, Option.bind_some, wrapN e (by omega)]
      refine bind_loop (loop_pre (a := .inl (m, (rPts m (i : Int) w1 (ptsE m e x)).1, (rPts m (i : Int) w1 (ptsE m e x)).2.1, (((rPts m (i : Int) w1 (ptsE m e x)).2.2 : Nat) : Int), pmark m x.fRepeats.length 0, ((x.fRepeats.length : Nat) : Int))) x.fRepeats
        (fun r pre => (m, (rPts m (i : Int) w1 (ixMap (ptsR m e) 0 pre)).1, (rPts m (i : Int) w1 (ixMap (ptsR m e) 0 pre)).2.1, (((rPts m (i : Int) w1 (ixMap (ptsR m e) 0 pre)).2.2 : Nat) : Int), pmark m r 0, ((r : Nat) : Int))) (fun r parts hpr => ?_) ?_) ?_
      · have hr := get_le hpr
        have hrll := take_len hpr
        have hpr' : ∀ t ∈ x.fRepeats.take r, repF t = 0 := fun t ht => hrs t (mem_take ht)
        have hBr := (hBe.pts (m := m) (seg := (i : Int)) (tx_E (m := m) (e := e) hpr')).mono (k' := i * 20002 + 1 + e * 400 + r * 20) (by have := ln_E (m := m) (e := e) hpr'; rw [hrll] at this; omega)
        rw [ixMap_snoc, rPts_append, hrll]
        generalize hw2 : rPts m (i : Int) w1 (ixMap (ptsR m e) 0 (x.fRepeats.take r)) = w2 at hBr ⊢
        obtain ⟨hpl, -, hps⟩ := rep_len (hrs parts (List.mem_of_getElem? hpr))
        simp only [lt_dec hr, cond_true, getI_nat, hpr, Option.bind_some, wrapN r (by omega)]
        refine bind_loop (loop_pre (a := .inl (m, (rPts m (i : Int) w2 (ptsR m e r parts)).1, (rPts m (i : Int) w2 (ptsR m e r parts)).2.1, (((rPts m (i : Int) w2 (ptsR m e r parts)).2.2 : Nat) : Int), pmark m r parts.length, ((parts.length : Nat) : Int))) parts
          (fun p pre => (m, (rPts m (i : Int) w2 (ixMap (ptsP m e r) 0 pre)).1, (rPts m (i : Int) w2 (ixMap (ptsP m e r) 0 pre)).2.1, (((rPts m (i : Int) w2 (ixMap (ptsP m e r) 0 pre)).2.2 : Nat) : Int), pmark m r p, ((p : Nat) : Int))) (fun p t htp => ?_) ?_) ?_
        · have hp := get_le htp
          have hpll := take_len htp
          have hpt : ∀ t ∈ parts.take p, textF t = 0 := fun t ht => hps t (mem_take ht)
          have hBp := (hBr.pts (m := m) (seg := (i : Int)) (tx_R (m := m) (e := e) (r := r) hpt)).mono (k' := i * 20002 + 1 + e * 400 + r * 20 + p) (by have := ln_R (m := m) (e := e) (r := r) (l := parts.take p); rw [hpll] at this; omega)
          rw [ixMap_snoc, rPts_append, hpll]
          generalize hw3 : rPts m (i : Int) w2 (ixMap (ptsP m e r) 0 (parts.take p)) = w3 at hBp ⊢
          obtain ⟨c1, c2, c3⟩ := hBp
          have htl := text_len (hps t (List.mem_of_getElem? htp))
          simp only [lt_dec hp, cond_true, getI_nat, htp, Option.bind_some, wrapN p (by omega), wrapN r (by omega), wrapN e (by omega)]
          have := r_part m w3.1 w3.2.1 w3.2.2 (i : Int) (spotOf e r p) (pmark m r p) t htl (by omega) (by omega) (by omega)
          unfold spotOf at this
          rw [this]
          simp only [Option.bind_some]
          rfl
        · simp only [lt_dec_self, cond_false]; rfl
        · rfl
      · simp only [getI_nat, hxe, Option.bind_some, lt_dec_self, cond_false]; rfl
      · rfl
    · simp only [lt_dec_self, cond_false]; rfl
    · have hBs := hBh.pts (m := m) (seg := (i : Int)) (l := ptsS m s) (tx_S hes)
      have h4 := ln_S (m := m) hes
      have hBs := hBs.mono (k' := i * 20002 + 20001) (by unfold ptsS; omega)
      simp only [outK, rSeg]
      generalize rPts m (i : Int) (rHead w i s) (ptsS m s) = w1 at hBs ⊢
      obtain ⟨c1, c2, c3⟩ := hBs
      simp (disch := (first | omega | (simp only [List.length_append, List.length_cons, List.length_nil]; omega))) only [thenO_ok]
      cases lines with
      | true => simp [tailB]
      | false => simp [tailB]
  · simp only [lt_dec_self, cond_false]; rfl
  · rfl
end Go.Proofs.YteilhjdpbjgdpaaDoor

/-
  Texts of mine, one behind the other (SYQ10, SYQ11, SYCB1, SYCB2, SYCB3).
-/
import Derived.Test.YtfbhhhghjehjjaaDoorBY2
/-
  Plain laws of the wire: what the program writes.
-/
namespace Go.Proofs.YtfbhhhghjehjjaaDoor
set_option linter.unusedSimpArgs false
set_option linter.unusedVariables false
open Go.RowKit

/-- A search for a place. -/
theorem loop_index {α : Type} (l : List α) (q : α → Bool) {f : Int → Option (Int ⊕ (Int ⊕ Int))} (hb : ∀ (i : Nat) (e : α), l[i]? = some e → f (i : Int) = bif q e then some (.inr (.inr (i : Int))) else some (.inl ((i + 1 : Nat) : Int))) (he : f (l.length : Int) = some (.inr (.inl (l.length : Int)))) :
    loopC f 0 = some (match l.findIdx? q with | some j => .inr ((j : Nat) : Int) | none => .inl (l.length : Int)) := by
  have : ∀ (t : List α) (i : Nat), l.drop i = t → i ≤ l.length → loopC f (i : Int) = some (match t.findIdx? q with | some j => .inr (((i + j : Nat)) : Int) | none => .inl (l.length : Int)) := by
    intro t
    induction t with
    | nil =>
      intro i hd hi
      have := drop_nil_len hd hi
      subst this
      rw [loopC_eq, he]
      rfl
    | cons e t ih =>
      intro i hd hi
      obtain ⟨h1, h2, h3⟩ := drop_head hd
      rw [loopC_eq, hb i e h1, List.findIdx?_cons]
      cases hq : q e with
      | true => simp
      | false =>
        simp only [cond_false]
        rw [ih (i + 1) h3 h2]
        cases t.findIdx? q with
        | none => rfl
        | some j => simp; omega
  have h0 : loopC f 0 = _ := this l 0 rfl (Nat.zero_le _)
  rw [h0]
  cases l.findIdx? q with
  | none => rfl
  | some j => simp
theorem find_any {α : Type} (l : List α) (q : α → Bool) : decide (0 ≤ (match l.findIdx? q with | some j => ((j : Nat) : Int) | none => -1)) = l.any q := by
  cases h : l.findIdx? q with
  | none =>
    rw [List.findIdx?_eq_none_iff] at h
    symm
    have : l.any q = false := by
      rw [List.any_eq_false]
      intro x hx; rw [h x hx]; decide
    rw [this]; rfl
  | some j =>
    obtain ⟨hj, h3, -⟩ := List.findIdx?_eq_some_iff_getElem.1 h
    symm
    have : l.any q = true := List.any_eq_true.2 ⟨l[j], List.getElem_mem hj, h3⟩
    rw [this]; simp
theorem containsFunc_str (l : List (List UInt8)) (f1 : FuncId) (c1 : List DV) (p1 : List UInt8 → Option Bool) (h1 : ∀ a0 r, p1 a0 = some r → PureSpec Tryd.prog f1 ([.str a0] ++ c1) (.bool r)) (q : List UInt8 → Bool) (hp : ∀ t ∈ l, p1 t = some (q t)) (hl : l.length ≤ 9223372036854775807) :
    m_slices_ContainsFunc_string_string l f1 c1 p1 h1 = some (l.any q) := by
  unfold m_slices_ContainsFunc_string_string sims_G6_1_0; dsimp only
  have hI : m_slices_IndexFunc_string_string l f1 c1 p1 h1 = some (match l.findIdx? q with | some j => ((j : Nat) : Int) | none => -1) := by
    unfold m_slices_IndexFunc_string_string sims_G6_0_0; dsimp only
    refine bind_loop (loop_index l q (fun i e he => ?_) ?_) ?_
    · have hi := get_le he
      simp only [lt_dec hi, cond_true, getI_nat, he, Option.bind_some, hp e (List.mem_of_getElem? he), wrapN i (by omega)]
      cases q e <;> rfl
    · simp only [lt_dec_self, cond_false]; rfl
    · cases l.findIdx? q <;> rfl
  rw [hI]
  simp only [Option.bind_some, find_any]
theorem sum_pos {α : Type} (c : α → Nat) : ∀ (l : List α), decide (0 < (l.map c).sum) = l.any (fun x => decide (0 < c x))
  | [] => rfl
  | x :: l => by
    rw [List.any_cons, ← sum_pos c l, List.map_cons, List.sum_cons]
    by_cases h : 0 < c x
    · simp [h]; omega
    · have : c x = 0 := by omega
      simp [this]

theorem loop_pre0 {α T A : Type} (l : List α) (st : Nat → List α → T) {f : T → Option (T ⊕ A)} {a : A} {s0 : T} (h0 : st 0 [] = s0)
    (hb : ∀ (i : Nat) (e : α), l[i]? = some e → f (st i (l.take i)) = some (.inl (st (i + 1) (l.take i ++ [e]))))
    (he : f (st l.length l) = some (.inr a)) : loopC f s0 = some a := by subst h0; exact loop_pre l st hb he
def escW (m : Tapi_Marks) (t : List UInt8) : List UInt8 := t.flatMap fun b => if isM m b = true then [m.fEscape, b] else [b]
theorem escW_snoc (m : Tapi_Marks) (t : List UInt8) (b : UInt8) : escW m (t ++ [b]) = escW m t ++ (if isM m b = true then [m.fEscape, b] else [b]) := by simp [escW]
theorem escW_len (m : Tapi_Marks) : ∀ (t : List UInt8), (escW m t).length ≤ 2 * t.length
  | [] => by simp [escW]
  | b :: t => by
    have := escW_len m t
    have h : escW m (b :: t) = (if isM m b = true then [m.fEscape, b] else [b]) ++ escW m t := by simp [escW]
    rw [h, List.length_append, List.length_cons]
    split <;> simp <;> omega
/-- A mark that cannot be written. -/
def badB (m : Tapi_Marks) (n : Nat) : Bool := decide (m.fEscape.toNat = 0) && decide (0 < n)
theorem badB_add (m : Tapi_Marks) (a b : Nat) (bad : Bool) : (bad || badB m a || badB m b) = (bad || badB m (a + b)) := by
  unfold badB
  by_cases h : m.fEscape.toNat = 0 <;> by_cases ha : 0 < a <;> by_cases hb : 0 < b <;> simp [h, ha, hb] <;> omega
theorem w_text_ (m : Tapi_Marks) (lines : Bool) (b : List UInt8) (ps : List Twire_place) (ss : List Int) (bad : Bool) (t : List UInt8) (ht : t.length ≤ 1000) (hb : b.length ≤ 137438950000) :
    m_interchange_wire_writer_text ⟨m, lines, b, ps, ss, bad⟩ t = some ((), ⟨m, lines, b ++ escW m t, ps, ss, bad || badB m (cntT m t)⟩) := by
  unfold m_interchange_wire_writer_text sims_G6_0_3; dsimp only
  refine bind_loop (loop_pre0 (a := .inl (m, lines, b ++ escW m t, ps, ss, (bad || badB m (cntT m t)), ((t.length : Nat) : Int))) t (fun i pre => (m, lines, b ++ escW m pre, ps, ss, (bad || badB m (cntT m pre)), ((i : Nat) : Int))) ?_ (fun i e he => ?_) ?_) ?_
  · simp [escW, cntT, badB]
  · have hi := get_le he
    have hl := take_len he
    have h1 := escW_len m (t.take i)
    simp only [lt_dec hi, cond_true, getI_nat, he, Option.bind_some, w_isM, wrapN i (by omega), orO_some]
    simp (disch := (first | omega | (simp only [List.length_append, List.length_cons, List.length_nil]; omega))) only [thenO_ok]
    by_cases hm : isM m e = true
    · have hd : (bad || badB m (cntT m (t.take i)) || decide ((m.fEscape.toNat : Int) = 0)) = (bad || badB m (cntT m (t.take i) + 1)) := by
        rw [← badB_add]
        congr 1
        unfold badB
        by_cases hz : m.fEscape.toNat = 0 <;> simp [hz]
      simp only [hm, cond_true, hd]
      rw [escW_snoc, cntT_snoc, if_pos hm, if_pos hm]
      simp
    · rw [escW_snoc, cntT_snoc, if_neg hm, if_neg hm]
      simp only [Bool.not_eq_true] at hm
      simp only [hm, cond_false]
      simp
  · simp only [lt_dec_self, cond_false]; rfl
  · rfl
abbrev WrT := List UInt8 × List Twire_place × Bool
def wStep (m : Tapi_Marks) (seg : Int) (w : WrT) (p : Prt) : WrT := (w.1 ++ p.mark :: escW m p.t, w.2.1 ++ [⟨seg, p.sp, ((w.1.length + 1 : Nat) : Int), ((w.1.length + 1 + (escW m p.t).length : Nat) : Int)⟩], w.2.2 || badB m (cntT m p.t))
def wPts (m : Tapi_Marks) (seg : Int) (w : WrT) (l : List Prt) : WrT := l.foldl (wStep m seg) w
theorem wPts_append (m : Tapi_Marks) (seg : Int) (w : WrT) (l l2 : List Prt) : wPts m seg w (l ++ l2) = wPts m seg (wPts m seg w l) l2 := by simp [wPts]
def Bw (w : WrT) (k : Nat) : Prop := w.1.length ≤ 500010 + 2010 * k ∧ w.2.1.length ≤ 40000000 + k
theorem Bw.mono {w : WrT} {k k' : Nat} (h : Bw w k) (hk : k ≤ k') : Bw w k' := by
  obtain ⟨h1, h2⟩ := h; exact ⟨by omega, by omega⟩
theorem Bw.step {m : Tapi_Marks} {seg : Int} {w : WrT} {p : Prt} {k : Nat} (h : Bw w k) (hp : p.t.length ≤ 1000) : Bw (wStep m seg w p) (k + 1) := by
  obtain ⟨h1, h2⟩ := h
  have h4 := escW_len m p.t
  refine ⟨?_, ?_⟩ <;> simp only [wStep, List.length_append, List.length_cons, List.length_nil] <;> omega
theorem Bw.pts {m : Tapi_Marks} {seg : Int} : ∀ {l : List Prt} {w : WrT} {k : Nat}, Bw w k → TextsOK l → Bw (wPts m seg w l) (k + l.length)
  | [], w, k, h, _ => h
  | p :: l, w, k, h, ht => by
    have := Bw.pts (m := m) (seg := seg) (l := l) (h.step (m := m) (seg := seg) (ht p (by simp))) (fun q hq => ht q (by simp [hq]))
    rw [show k + (p :: l).length = k + 1 + l.length by simp; omega]
    exact this
abbrev WQ := List UInt8 × List Twire_place × List Int × Bool
def wIn (m : Tapi_Marks) (i : Nat) (w : WQ) (s : Tapi_Segment) : WrT := wPts m (i : Int) (w.1 ++ s.fTag, w.2.1, w.2.2.2) (ptsS m s)
def wSeg (m : Tapi_Marks) (lines : Bool) (i : Nat) (w : WQ) (s : Tapi_Segment) : WQ := ((wIn m i w s).1 ++ tailB m lines, (wIn m i w s).2.1, w.2.2.1 ++ [((w.1.length : Nat) : Int)], (wIn m i w s).2.2)
theorem w_segment (m : Tapi_Marks) (lines : Bool) (w : WQ) (i : Nat) (s : Tapi_Segment) (hs : segF s = 0) (hb : w.1.length ≤ 500000) (hp : w.2.1.length ≤ 40000000) (hss : w.2.2.1.length ≤ 3000) :
    m_interchange_wire_writer_segment ⟨m, lines, w.1, w.2.1, w.2.2.1, w.2.2.2⟩ (i : Int) s = some ((), ⟨m, lines, (wSeg m lines i w s).1, (wSeg m lines i w s).2.1, (wSeg m lines i w s).2.2.1, (wSeg m lines i w s).2.2.2⟩) := by
  obtain ⟨-, htl, -, hel, hes⟩ := seg_len hs
  unfold wSeg wIn
  unfold m_interchange_wire_writer_segment sims_G6_1_1; dsimp only
  simp (disch := (first | omega | (simp only [List.length_append, List.length_cons, List.length_nil]; omega))) only [thenO_ok]
  have hBh : Bw (w.1 ++ s.fTag, w.2.1, w.2.2.2) 0 := ⟨by simp only [List.length_append]; omega, by simp only; omega⟩
  generalize hw0 : ((w.1 ++ s.fTag, w.2.1, w.2.2.2) : WrT) = w0 at hBh ⊢
  have e1 : w.1 ++ s.fTag = w0.1 := by rw [← hw0]
  have e2 : w.2.1 = w0.2.1 := by rw [← hw0]
  have e3 : w.2.2.2 = w0.2.2 := by rw [← hw0]
  rw [e1, e2, e3]
  generalize w.2.2.1 ++ [((w.1.length : Nat) : Int)] = ss
  refine bind_loop (loop_pre (a := .inl (m, lines, (wPts m (i : Int) w0 (ptsS m s)).1, (wPts m (i : Int) w0 (ptsS m s)).2.1, ss, (wPts m (i : Int) w0 (ptsS m s)).2.2, ((s.fElements.length : Nat) : Int))) s.fElements
    (fun e pre => (m, lines, (wPts m (i : Int) w0 (ixMap (ptsE m) 0 pre)).1, (wPts m (i : Int) w0 (ixMap (ptsE m) 0 pre)).2.1, ss, (wPts m (i : Int) w0 (ixMap (ptsE m) 0 pre)).2.2, ((e : Nat) : Int))) (fun e x hxe => ?_) ?_) ?_
  · have he := get_le hxe
    have hell := take_len hxe
    have hpe : ∀ t ∈ s.fElements.take e, elemF t = 0 := fun t ht => hes t (mem_take ht)
    have hBe := (hBh.pts (m := m) (seg := (i : Int)) (tx_S (m := m) hpe)).mono (k' := e * 400) (by have := ln_S (m := m) hpe; rw [hell] at this; omega)
    rw [ixMap_snoc, wPts_append, hell]
    generalize hw1 : wPts m (i : Int) w0 (ixMap (ptsE m) 0 (s.fElements.take e)) = w1 at hBe ⊢
    obtain ⟨hrl, -, hrs⟩ := elem_len (hes x (List.mem_of_getElem? hxe))
    simp only [lt_dec he, cond_true, getI_nat, hxe, Option.bind_some, wrapN e (by omega)]
    refine bind_loop (loop_pre (a := .inl (m, lines, (wPts m (i : Int) w1 (ptsE m e x)).1, (wPts m (i : Int) w1 (ptsE m e x)).2.1, ss, (wPts m (i : Int) w1 (ptsE m e x)).2.2, pmark m x.fRepeats.length 0, ((x.fRepeats.length : Nat) : Int))) x.fRepeats
      (fun r pre => (m, lines, (wPts m (i : Int) w1 (ixMap (ptsR m e) 0 pre)).1, (wPts m (i : Int) w1 (ixMap (ptsR m e) 0 pre)).2.1, ss, (wPts m (i : Int) w1 (ixMap (ptsR m e) 0 pre)).2.2, pmark m r 0, ((r : Nat) : Int))) (fun r parts hpr => ?_) ?_) ?_
    · have hr := get_le hpr
      have hrll := take_len hpr
      have hpr' : ∀ t ∈ x.fRepeats.take r, repF t = 0 := fun t ht => hrs t (mem_take ht)
      have hBr := (hBe.pts (m := m) (seg := (i : Int)) (tx_E (m := m) (e := e) hpr')).mono (k' := e * 400 + r * 20) (by have := ln_E (m := m) (e := e) hpr'; rw [hrll] at this; omega)
      rw [ixMap_snoc, wPts_append, hrll]
      generalize hw2 : wPts m (i : Int) w1 (ixMap (ptsR m e) 0 (x.fRepeats.take r)) = w2 at hBr ⊢
      obtain ⟨hpl, -, hps⟩ := rep_len (hrs parts (List.mem_of_getElem? hpr))
      simp only [lt_dec hr, cond_true, getI_nat, hpr, Option.bind_some, wrapN r (by omega)]
      refine bind_loop (loop_pre (a := .inl (m, lines, (wPts m (i : Int) w2 (ptsR m e r parts)).1, (wPts m (i : Int) w2 (ptsR m e r parts)).2.1, ss, (wPts m (i : Int) w2 (ptsR m e r parts)).2.2, pmark m r parts.length, ((parts.length : Nat) : Int))) parts
        (fun p pre => (m, lines, (wPts m (i : Int) w2 (ixMap (ptsP m e r) 0 pre)).1, (wPts m (i : Int) w2 (ixMap (ptsP m e r) 0 pre)).2.1, ss, (wPts m (i : Int) w2 (ixMap (ptsP m e r) 0 pre)).2.2, pmark m r p, ((p : Nat) : Int))) (fun p t htp => ?_) ?_) ?_
      · have hp := get_le htp
        have hpll := take_len htp
        have hpt : ∀ t ∈ parts.take p, textF t = 0 := fun t ht => hps t (mem_take ht)
        have hBp := (hBr.pts (m := m) (seg := (i : Int)) (tx_R (m := m) (e := e) (r := r) hpt)).mono (k' := e * 400 + r * 20 + p) (by have := ln_R (m := m) (e := e) (r := r) (l := parts.take p); rw [hpll] at this; omega)
        rw [ixMap_snoc, wPts_append, hpll]
        generalize hw3 : wPts m (i : Int) w2 (ixMap (ptsP m e r) 0 (parts.take p)) = w3 at hBp ⊢
        obtain ⟨c1, c2⟩ := hBp
        have htl := text_len (hps t (List.mem_of_getElem? htp))
        simp only [lt_dec hp, cond_true, getI_nat, htp, Option.bind_some, wrapN p (by omega), wrapN r (by omega), wrapN e (by omega)]
        rw [thenO_ok (by simp only [List.length_cons, List.length_nil]; omega)]
        rw [w_text_ m lines (w3.1 ++ [pmark m r p]) w3.2.1 ss w3.2.2 t htl (by simp only [List.length_append, List.length_cons, List.length_nil]; omega)]
        simp only [Option.bind_some]
        rw [thenO_ok (by omega)]
        have e4 : wPts m (i : Int) w3 (ptsP m e r p t) = wStep m (i : Int) w3 ⟨spotOf e r p, pmark m r p, t⟩ := rfl
        rw [e4]
        unfold wStep
        simp only [spotOf, List.append_assoc, List.cons_append, List.nil_append, List.length_append, List.length_cons, List.length_nil]
        have e5 : w3.1.length + (0 + 1) = w3.1.length + 1 := by omega
        have e6 : w3.1.length + ((escW m t).length + 1) = w3.1.length + 1 + (escW m t).length := by omega
        rw [e6]
        rfl
      · simp only [lt_dec_self, cond_false]; rfl
      · rfl
    · simp only [lt_dec_self, cond_false]; rfl
    · rfl
  · simp only [lt_dec_self, cond_false]; rfl
  · have hBs := hBh.pts (m := m) (seg := (i : Int)) (l := ptsS m s) (tx_S hes)
    have h4 := ln_S (m := m) hes
    have hBs := hBs.mono (k' := 20000) (by unfold ptsS; omega)
    simp only [outK]
    generalize wPts m (i : Int) w0 (ptsS m s) = w1 at hBs ⊢
    obtain ⟨c1, c2⟩ := hBs
    simp (disch := (first | omega | (simp only [List.length_append, List.length_cons, List.length_nil]; omega))) only [thenO_ok]
    cases lines with
    | true => simp [tailB]
    | false => simp [tailB]
/-! ### All segments -/
def wNext (m : Tapi_Marks) (lines : Bool) (i : Nat) (w : WQ) (s : Tapi_Segment) : WQ := if w.1.length ≤ 500000 then wSeg m lines i w s else (w.1, w.2.1, w.2.2.1, w.2.2.2 || badB m (cntS m s))
def wSegs (m : Tapi_Marks) (lines : Bool) : Nat → WQ → List Tapi_Segment → WQ
  | _, w, [] => w
  | i, w, s :: l => wSegs m lines (i + 1) (wNext m lines i w s) l
theorem wSegs_snoc (m : Tapi_Marks) (lines : Bool) : ∀ (l : List Tapi_Segment) (i : Nat) (w : WQ) (s : Tapi_Segment), wSegs m lines i w (l ++ [s]) = wNext m lines (i + l.length) (wSegs m lines i w l) s
  | [], i, w, s => rfl
  | x :: l, i, w, s => by
    simp only [List.cons_append, wSegs, wSegs_snoc m lines l (i + 1), List.length_cons]
    rw [show i + 1 + l.length = i + (l.length + 1) by omega]
theorem wPts_len (m : Tapi_Marks) (seg : Int) : ∀ (l : List Prt) (w : WrT), (wPts m seg w l).2.1.length = w.2.1.length + l.length
  | [], w => rfl
  | p :: l, w => by
    have := wPts_len m seg l (wStep m seg w p)
    simp only [wPts, List.foldl_cons] at this ⊢
    rw [this]; simp [wStep]; omega
theorem wNext_len {m : Tapi_Marks} {lines : Bool} {i : Nat} {w : WQ} {s : Tapi_Segment} (hs : segF s = 0) : (wNext m lines i w s).2.1.length ≤ w.2.1.length + 20000 ∧ (wNext m lines i w s).2.2.1.length ≤ w.2.2.1.length + 1 := by
  unfold wNext
  split
  · obtain ⟨-, -, -, h2, h3⟩ := seg_len hs
    have h4 := ln_S (m := m) h3
    simp only [wSeg, wIn, wPts_len, List.length_append, List.length_cons, List.length_nil, ptsS]
    omega
  · exact ⟨by simp only; omega, by simp only; omega⟩
theorem wSegs_len {m : Tapi_Marks} {lines : Bool} : ∀ {l : List Tapi_Segment} {i : Nat} {w : WQ}, (∀ s ∈ l, segF s = 0) → (wSegs m lines i w l).2.1.length ≤ w.2.1.length + l.length * 20000 ∧ (wSegs m lines i w l).2.2.1.length ≤ w.2.2.1.length + l.length
  | [], i, w, _ => by simp [wSegs]
  | s :: l, i, w, h => by
    have h1 := wNext_len (m := m) (lines := lines) (i := i) (w := w) (h s (by simp))
    have h2 := wSegs_len (m := m) (lines := lines) (l := l) (i := i + 1) (w := wNext m lines i w s) fun x hx => h x (by simp [hx])
    simp only [wSegs, List.length_cons]
    omega
def w0 : WQ := ([], [], [], false)
/-- What it writes, and the fault. -/
def writF (l : List Tapi_Segment) (m : Tapi_Marks) (lines : Bool) : Option Twire_writer × Int :=
  if bothF l m ≠ 0 then (none, bothF l m) else if (wSegs m lines 0 w0 l).2.2.2 = true then (none, 3) else if 500000 < (wSegs m lines 0 w0 l).1.length then (none, 2) else
  (some ⟨m, lines, (wSegs m lines 0 w0 l).1, (wSegs m lines 0 w0 l).2.1, (wSegs m lines 0 w0 l).2.2.1, (wSegs m lines 0 w0 l).2.2.2⟩, 0)
theorem w_written (l : List Tapi_Segment) (m : Tapi_Marks) (lines : Bool) (ht : TagsShort l) : m_wire_written l m lines 500000 = some (writF l m lines) := by
  unfold m_wire_written sims_G6_2_1; dsimp only
  unfold writF
  simp only [w_both l m ht, Option.bind_some]
  by_cases h : bothF l m = 0
  · rw [if_neg (fun e => e h)]
    simp only [h, decide_true, Bool.not_true, cond_false]
    have hseg : segsF l = 0 := by
      unfold bothF at h
      split at h
      · assumption
      · rename_i h1; exact absurd h h1
    obtain ⟨hl, hs⟩ := segs_len hseg
    refine bind_loop (loop_pre (a := .inl (m, lines, (wSegs m lines 0 w0 l).1, (wSegs m lines 0 w0 l).2.1, (wSegs m lines 0 w0 l).2.2.1, (wSegs m lines 0 w0 l).2.2.2, ((l.length : Nat) : Int))) l
      (fun i pre => (m, lines, (wSegs m lines 0 w0 pre).1, (wSegs m lines 0 w0 pre).2.1, (wSegs m lines 0 w0 pre).2.2.1, (wSegs m lines 0 w0 pre).2.2.2, ((i : Nat) : Int))) (fun i s hsi => ?_) ?_) ?_
    · have hi := get_le hsi
      have hil := take_len hsi
      have hsg := hs s (List.mem_of_getElem? hsi)
      have hlen := wSegs_len (m := m) (lines := lines) (i := 0) (w := w0) (l := l.take i) fun s hs' => hs s (mem_take hs')
      rw [hil] at hlen
      rw [wSegs_snoc, hil, Nat.zero_add]
      generalize hw : wSegs m lines 0 w0 (l.take i) = w at hlen ⊢
      simp only [w0, List.length_nil, Nat.zero_add] at hlen
      simp only [lt_dec hi, cond_true, getI_nat, hsi, Option.bind_some, wrapN i (by omega)]
      unfold wNext
      by_cases hb : w.1.length ≤ 500000
      · have d : decide ((w.1.length : Int) ≤ 500000) = true := decide_eq_true (by omega)
        rw [if_pos hb]
        simp only [d, cond_true]
        have := w_segment m lines w i s hsg hb (by omega) (by omega)
        rw [this]
        rfl
      · have d : decide ((w.1.length : Int) ≤ 500000) = false := decide_eq_false (by omega)
        rw [if_neg hb]
        simp only [d, cond_false]
        obtain ⟨-, -, -, hel, hes⟩ := seg_len hsg
        refine bind_loop (loop_pre0 (a := .inl (m, lines, w.1, w.2.1, w.2.2.1, (w.2.2.2 || badB m (cntS m s)), ((s.fElements.length : Nat) : Int))) s.fElements
          (fun e pre => (m, lines, w.1, w.2.1, w.2.2.1, (w.2.2.2 || badB m ((pre.map (cntE m)).sum)), ((e : Nat) : Int))) ?_ (fun e x hxe => ?_) ?_) ?_
        · simp [badB]
        · have he := get_le hxe
          obtain ⟨hrl, -, hrs⟩ := elem_len (hes x (List.mem_of_getElem? hxe))
          rw [sum_take hxe, ← badB_add]
          generalize (w.2.2.2 || badB m (((s.fElements.take e).map (cntE m)).sum)) = bad
          simp only [lt_dec he, cond_true, getI_nat, hxe, Option.bind_some, wrapN e (by omega)]
          refine bind_loop (loop_pre0 (a := .inl (m, lines, w.1, w.2.1, w.2.2.1, (bad || badB m (cntE m x)), ((x.fRepeats.length : Nat) : Int))) x.fRepeats
            (fun r pre => (m, lines, w.1, w.2.1, w.2.2.1, (bad || badB m ((pre.map (cntR m)).sum)), ((r : Nat) : Int))) ?_ (fun r parts hpr => ?_) ?_) ?_
          · simp [badB]
          · have hr := get_le hpr
            obtain ⟨hpl, -, hps⟩ := rep_len (hrs parts (List.mem_of_getElem? hpr))
            rw [sum_take hpr, ← badB_add]
            generalize (bad || badB m (((x.fRepeats.take r).map (cntR m)).sum)) = bad2
            have hc := containsFunc_str parts 30 [DV.ptr (rTapi_Marks m)] (fun a0 => m_wire_written_1 a0 m) (fun a0 r h => spec_wire_written_1 a0 m r h) (fun t => decide (0 < cntT m t)) (fun t ht => by
              have htl := text_len (hps t ht)
              unfold m_wire_written_1 sims_G6_1_0; dsimp only
              rw [w_needed m t (by omega)]
              simp only [Option.bind_some]
              congr 1
              simp) (by omega)
            simp only [lt_dec hr, cond_true, getI_nat, hpr, Option.bind_some, wrapN r (by omega), andO_some, orO_some]
            rw [hc]
            simp only [Option.bind_some, andO_some, orO_some]
            have e4 : (bad2 || (decide ((m.fEscape.toNat : Int) = 0) && parts.any fun t => decide (0 < cntT m t))) = (bad2 || badB m (cntR m parts)) := by
              unfold badB cntR
              rw [sum_pos]
              congr 2
              congr 1
              apply propext
              omega
            rw [e4]
          · simp only [lt_dec_self, cond_false]; rfl
          · rfl
        · simp only [lt_dec_self, cond_false]; rfl
        · rfl
    · simp only [lt_dec_self, cond_false]; rfl
    · simp only [outK]
      generalize wSegs m lines 0 w0 l = w
      cases hbad : w.2.2.2 with
      | true => rfl
      | false =>
        simp only [cond_false, Bool.false_eq_true, if_false]
        by_cases hb : 500000 < w.1.length
        · have d : decide ((500000 : Int) < (w.1.length : Int)) = true := decide_eq_true (by omega)
          rw [if_pos hb]; simp only [d, cond_true]
        · have d : decide ((500000 : Int) < (w.1.length : Int)) = false := decide_eq_false (by omega)
          rw [if_neg hb]; simp only [d, cond_false]
  · rw [if_pos h]
    simp only [h, decide_false, Bool.not_false, cond_true]
end Go.Proofs.YtfbhhhghjehjjaaDoor

/-
  Plain laws of the wire: both write the same.
-/
namespace Go.Proofs.YtfbhhhghjehjjaaDoor
set_option linter.unusedSimpArgs false
set_option linter.unusedVariables false
open Go.RowKit

/-- Where no mark is without an escape. -/
def CanEsc (m : Tapi_Marks) (n : Nat) : Prop := m.fEscape.toNat ≠ 0 ∨ n = 0
theorem esc_same {m : Tapi_Marks} {t : List UInt8} (h : CanEsc m (cntT m t)) : escR m t = escW m t := by
  induction t with
  | nil => rfl
  | cons b t ih =>
    have h1 : cntT m (b :: t) = cntT m t + (if isM m b = true then 1 else 0) := by simp [cntT, List.countP_cons]
    have h2 : escR m (b :: t) = (if isM m b = true ∧ m.fEscape.toNat ≠ 0 then [m.fEscape, b] else [b]) ++ escR m t := by simp [escR]
    have h3 : escW m (b :: t) = (if isM m b = true then [m.fEscape, b] else [b]) ++ escW m t := by simp [escW]
    rw [h2, h3]
    rcases h with h | h
    · rw [ih (.inl h)]
      by_cases hm : isM m b = true <;> simp [hm, h]
    · rw [h1] at h
      by_cases hm : isM m b = true
      · rw [if_pos hm] at h; omega
      · rw [if_neg hm] at h
        rw [ih (.inr (by omega))]
        simp [hm]
theorem sum_mem {α : Type} {c : α → Nat} : ∀ {l : List α} {x : α}, x ∈ l → c x ≤ (l.map c).sum
  | y :: l, x, h => by
    rcases List.mem_cons.1 h with rfl | h
    · simp
    · have := sum_mem (c := c) h
      simp only [List.map_cons, List.sum_cons]; omega
theorem CanEsc.le {m : Tapi_Marks} {a b : Nat} (h : CanEsc m b) (hab : a ≤ b) : CanEsc m a := by
  rcases h with h | h
  · exact .inl h
  · exact .inr (by omega)
theorem wPts_bad (m : Tapi_Marks) (seg : Int) : ∀ (l : List Prt) (w : WrT), (wPts m seg w l).2.2 = (w.2.2 || badB m ((l.map fun p => cntT m p.t).sum))
  | [], w => by simp [wPts, badB]
  | p :: l, w => by
    have := wPts_bad m seg l (wStep m seg w p)
    simp only [wPts, List.foldl_cons] at this ⊢
    rw [this]
    simp only [wStep, List.map_cons, List.sum_cons, badB_add]
theorem wSegs_bad (m : Tapi_Marks) (lines : Bool) : ∀ (l : List Tapi_Segment) (i : Nat) (w : WQ), (wSegs m lines i w l).2.2.2 = (w.2.2.2 || badB m (cntL m l))
  | [], i, w => by simp [wSegs, cntL, badB]
  | s :: l, i, w => by
    simp only [wSegs]
    rw [wSegs_bad m lines l (i + 1)]
    have hs : cntL m (s :: l) = cntS m s + cntL m l := by simp [cntL]
    rw [hs, ← badB_add]
    congr 1
    unfold wNext
    split
    · simp only [wSeg, wIn, wPts_bad, ptsS_sum]
    · rfl
-- What both write, and the fault.
end Go.Proofs.YtfbhhhghjehjjaaDoor

/-
  Plain laws of the wire: what was divided is what is written.
-/
namespace Go.Proofs.YtfbhhhghjehjjaaDoor
set_option linter.unusedSimpArgs false
set_option linter.unusedVariables false
open Go.RowKit

/-! ### The bytes of segments -/
def partW (m : Tapi_Marks) (k : UInt8) (t : Txt) : Txt := k :: escR m t
def repW (m : Tapi_Marks) (k : UInt8) : List Txt → Txt
  | [] => []
  | t :: ps => partW m k t ++ ps.flatMap (partW m m.fPart)
def repsW (m : Tapi_Marks) : List (List Txt) → Txt
  | [] => []
  | p :: xs => repW m m.fElement p ++ xs.flatMap (repW m m.fRepeat)
def elsW (m : Tapi_Marks) (l : List Tapi_Element) : Txt := l.flatMap fun e => repsW m e.fRepeats
def segW (m : Tapi_Marks) (lines : Bool) (s : Tapi_Segment) : Txt := s.fTag ++ elsW m s.fElements ++ tailB m lines
def allW (m : Tapi_Marks) (lines : Bool) (l : List Tapi_Segment) : Txt := l.flatMap (segW m lines)
theorem ixMap_flat {α β γ : Type} {f : Nat → α → List β} {g : β → List γ} {c : α → List γ} {i0 : Nat} (h : ∀ i e, i0 ≤ i → (f i e).flatMap g = c e) : ∀ (l : List α) (i : Nat), i0 ≤ i → (ixMap f i l).flatMap g = l.flatMap c
  | [], _, _ => rfl
  | x :: l, i, hi => by simp only [ixMap, List.flatMap_append, h i x hi, ixMap_flat h l (i + 1) (by omega), List.flatMap_cons]
def prtW (m : Tapi_Marks) (p : Prt) : Txt := p.mark :: escR m p.t
theorem ptsR_W (m : Tapi_Marks) (e r : Nat) (l : List Txt) : (ptsR m e r l).flatMap (prtW m) = repW m (if 0 < r then m.fRepeat else m.fElement) l := by
  unfold ptsR
  cases l with
  | nil => rfl
  | cons t ps =>
    have h1 : (ixMap (ptsP m e r) 1 ps).flatMap (prtW m) = ps.flatMap (partW m m.fPart) := ixMap_flat (i0 := 1) (fun i t hi => by
      simp only [ptsP, List.flatMap_cons, List.flatMap_nil, List.append_nil, prtW, partW, pmark, if_pos (show 0 < i by omega)]) ps 1 (Nat.le_refl _)
    show (ixMap (ptsP m e r) 0 (t :: ps)).flatMap (prtW m) = _
    simp only [ixMap, List.flatMap_append, Nat.zero_add, h1, repW]
    simp [ptsP, prtW, partW, pmark]
theorem ptsE_W (m : Tapi_Marks) (e : Nat) (x : Tapi_Element) : (ptsE m e x).flatMap (prtW m) = repsW m x.fRepeats := by
  unfold ptsE
  cases h : x.fRepeats with
  | nil => rfl
  | cons p xs =>
    have h1 : (ixMap (ptsR m e) 1 xs).flatMap (prtW m) = xs.flatMap (repW m m.fRepeat) := ixMap_flat (i0 := 1) (fun i t hi => by
      rw [ptsR_W, if_pos (show 0 < i by omega)]) xs 1 (Nat.le_refl _)
    show (ixMap (ptsR m e) 0 (p :: xs)).flatMap (prtW m) = _
    simp only [ixMap, List.flatMap_append, Nat.zero_add, h1, repsW, ptsR_W, Nat.lt_irrefl, if_false]
theorem ptsS_W (m : Tapi_Marks) (s : Tapi_Segment) : (ptsS m s).flatMap (prtW m) = elsW m s.fElements := by
  unfold ptsS elsW
  exact ixMap_flat (i0 := 0) (fun i t _ => ptsE_W m i t) _ 0 (Nat.le_refl _)
theorem wPts_W (m : Tapi_Marks) (seg : Int) : ∀ (l : List Prt) (w : WrT), (∀ p ∈ l, CanEsc m (cntT m p.t)) → (wPts m seg w l).1 = w.1 ++ l.flatMap (prtW m)
  | [], w, _ => by simp [wPts]
  | p :: l, w, h => by
    have := wPts_W m seg l (wStep m seg w p) fun q hq => h q (List.mem_cons_of_mem _ hq)
    simp only [wPts, List.foldl_cons] at this ⊢
    rw [this]
    simp only [wStep, List.flatMap_cons, prtW, List.append_assoc, esc_same (h p (by simp))]
theorem wSeg_W {m : Tapi_Marks} {lines : Bool} {i : Nat} {w : WQ} {s : Tapi_Segment} (h : CanEsc m (cntS m s)) : (wSeg m lines i w s).1 = w.1 ++ segW m lines s := by
  have hp : ∀ p ∈ ptsS m s, CanEsc m (cntT m p.t) := fun p hp => by
    refine h.le ?_
    rw [← ptsS_sum]
    exact sum_mem (c := fun p : Prt => cntT m p.t) hp
  simp only [wSeg, wIn, wPts_W m (i : Int) _ _ hp, ptsS_W, segW, List.append_assoc]
theorem wSegs_stuck (m : Tapi_Marks) (lines : Bool) : ∀ (l : List Tapi_Segment) (i : Nat) (w : WQ), 500000 < w.1.length → (wSegs m lines i w l).1 = w.1
  | [], i, w, _ => rfl
  | s :: l, i, w, h => by
    have hn : (wNext m lines i w s).1 = w.1 := by unfold wNext; rw [if_neg (by omega)]
    simp only [wSegs]
    rw [wSegs_stuck m lines l (i + 1) _ (by rw [hn]; exact h), hn]
theorem wSegs_W (m : Tapi_Marks) (lines : Bool) : ∀ (l : List Tapi_Segment) (i : Nat) (w : WQ), CanEsc m (cntL m l) → (wSegs m lines i w l).1 = w.1 ++ allW m lines l ∨ (500000 < (wSegs m lines i w l).1.length ∧ 500000 < (w.1 ++ allW m lines l).length)
  | [], i, w, _ => .inl (by simp [wSegs, allW])
  | s :: l, i, w, h => by
    have hs : cntL m (s :: l) = cntS m s + cntL m l := by simp [cntL]
    rw [hs] at h
    by_cases hw : w.1.length ≤ 500000
    · have hn : (wNext m lines i w s).1 = w.1 ++ segW m lines s := by
        unfold wNext
        rw [if_pos hw]
        exact wSeg_W (h.le (by omega))
      have ih := wSegs_W m lines l (i + 1) (wNext m lines i w s) (h.le (by omega))
      simp only [wSegs]
      rw [hn, List.append_assoc] at ih
      exact ih
    · refine .inr ⟨?_, by rw [List.length_append]; omega⟩
      rw [wSegs_stuck m lines (s :: l) i w (by omega)]
      omega
/-- What Join gives. -/
def joinG (l : List Tapi_Segment) (m : Tapi_Marks) (lines : Bool) : Txt × Int :=
  if bothF l m ≠ 0 then ([], bothF l m) else if badB m (cntL m l) = true then ([], 3) else if 500000 < (allW m lines l).length then ([], 2) else (allW m lines l, 0)
theorem canEsc_bad {m : Tapi_Marks} {n : Nat} (h : badB m n = false) : CanEsc m n := by
  unfold badB at h
  by_cases hz : m.fEscape.toNat = 0
  · simp [hz] at h; exact .inr h
  · exact .inl hz
theorem w_JoinG (l : List Tapi_Segment) (m : Tapi_Marks) (lines : Bool) (ht : TagsShort l) : m_wire_Join l m lines = some (joinG l m lines) := by
  have hw := w_written l m lines ht
  unfold writF at hw
  unfold m_wire_Join sims_G6_3_0; dsimp only
  unfold joinG
  have dz : decide ((0 : Int) = 0) = true := rfl
  have d2 : decide ((2 : Int) = 0) = false := rfl
  have d3 : decide ((3 : Int) = 0) = false := rfl
  by_cases h : bothF l m = 0
  · simp only [h, ne_eq, not_true_eq_false, if_false] at hw ⊢
    have hbad : (wSegs m lines 0 w0 l).2.2.2 = badB m (cntL m l) := by rw [wSegs_bad m lines l 0 w0]; simp [w0]
    rw [hbad] at hw
    cases hb : badB m (cntL m l) with
    | true =>
      rw [hb] at hw
      simp only [if_true] at hw ⊢
      simp only [hw, Option.bind_some, d3, Bool.not_false, cond_true]
    | false =>
      rw [hb] at hw
      simp only [Bool.false_eq_true, if_false] at hw ⊢
      have hc := canEsc_bad hb
      have hW := wSegs_W m lines l 0 w0 hc
      have e0 : w0.1 ++ allW m lines l = allW m lines l := rfl
      rw [e0] at hW
      by_cases hl : 500000 < (wSegs m lines 0 w0 l).1.length
      · have hl2 : 500000 < (allW m lines l).length := by
          rcases hW with hW | hW
          · rw [← hW]; exact hl
          · exact hW.2
        rw [if_pos hl] at hw
        rw [if_pos hl2]
        simp only [hw, Option.bind_some, d2, Bool.not_false, cond_true]
      · have hW := hW.resolve_right fun h => hl h.1
        rw [if_neg hl] at hw
        rw [if_neg (by rw [← hW]; exact hl)]
        simp only [hw, Option.bind_some, decide_true, Bool.not_true, cond_false, hW]
  · simp only [ne_eq, h, not_false_eq_true, if_true] at hw ⊢
    have d : decide (bothF l m = 0) = false := decide_eq_false h
    simp only [hw, Option.bind_some, d, Bool.not_false, cond_true]
/-! ### From bytes to segments and back -/
def CanE (m : Tapi_Marks) (t : Txt) : Prop := m.fEscape.toNat ≠ 0 ∨ cntT m t = 0
theorem escR_cons (m : Tapi_Marks) (b : UInt8) (t : Txt) : escR m (b :: t) = (if isM m b = true ∧ m.fEscape.toNat ≠ 0 then [m.fEscape, b] else [b]) ++ escR m t := by simp [escR]
theorem escB_iff (m : Tapi_Marks) (x : UInt8) : escB m x = true ↔ m.fEscape.toNat ≠ 0 ∧ x = m.fEscape := by
  unfold escB
  simp only [Bool.and_eq_true, Bool.not_eq_true', decide_eq_false_iff_not, decide_eq_true_eq]
  constructor
  · rintro ⟨h1, h2⟩; exact ⟨by omega, UInt8.toNat_inj.1 (by omega)⟩
  · rintro ⟨h1, h2⟩; exact ⟨by omega, by rw [h2]⟩
theorem escB_isM {m : Tapi_Marks} {x : UInt8} (h : escB m x = true) : isM m x = true := by
  unfold escB at h
  unfold isM
  rw [h, Bool.or_true]
theorem cntT_cons (m : Tapi_Marks) (b : UInt8) (t : Txt) : cntT m (b :: t) = cntT m t + if isM m b = true then 1 else 0 := by simp [cntT, List.countP_cons]
theorem part_W (m : Tapi_Marks) : ∀ (n : Nat) (r : Txt), r.length ≤ n → ∀ t q, partP m r = .inr (t, q) → r = escR m t ++ q ∧ CanE m t
  | n, [], _, t, q, h => by rw [partP] at h; cases h
  | 0, x :: r, h, _, _, _ => by simp at h
  | n + 1, x :: r, hn, t, q, h => by
    have hr : r.length ≤ n := by simpa using hn
    unfold partP at h
    split at h
    · rename_i he
      obtain ⟨hz, hx⟩ := (escB_iff m x).1 he
      cases r with
      | nil => cases h
      | cons y r =>
        simp only at h
        split at h
        · rename_i hy
          cases hp : partP m r with
          | inl p => rw [hp] at h; cases h
          | inr oq =>
            obtain ⟨o, p⟩ := oq
            rw [hp] at h
            obtain ⟨h1, h2⟩ := part_W m n r (by simp at hr; omega) o p hp
            cases h
            refine ⟨?_, .inl hz⟩
            rw [escR_cons, if_pos ⟨hy, hz⟩, h1, hx]
            simp
        · cases h
    · split at h
      · cases h; exact ⟨rfl, .inr rfl⟩
      · rename_i hm
        split at h
        · cases h
        · cases hp : partP m r with
          | inl p => rw [hp] at h; cases h
          | inr oq =>
            obtain ⟨o, p⟩ := oq
            rw [hp] at h
            obtain ⟨h1, h2⟩ := part_W m n r hr o p hp
            cases h
            refine ⟨?_, ?_⟩
            · rw [escR_cons, if_neg (fun h => hm h.1), h1]; simp
            · unfold CanE at h2 ⊢
              rw [cntT_cons, if_neg hm]
              exact h2
theorem partP_W {m : Tapi_Marks} {r t q : Txt} (h : partP m r = .inr (t, q)) : r = escR m t ++ q ∧ CanE m t := part_W m r.length r (Nat.le_refl _) t q h
theorem mark_other {m : Tapi_Marks} {y : UInt8} (h1 : isM m y = true) (h2 : escB m y = false) (h3 : ¬ (y = m.fElement ∨ y = m.fEnd)) : y = m.fRepeat ∨ y = m.fPart := by
  have e : ∀ b : UInt8, decide ((y.toNat : Int) = (b.toNat : Int)) = true → y = b := fun b h => UInt8.toNat_inj.1 (by have := of_decide_eq_true h; omega)
  unfold isM at h1
  unfold escB at h2
  rw [h2, Bool.or_false] at h1
  simp only [Bool.or_eq_true] at h1
  rcases h1 with ((h | h) | h) | h
  · exact absurd (.inl (e _ h)) h3
  · exact .inr (e _ h)
  · exact .inl (e _ h)
  · exact absurd (.inr (e _ h)) h3
theorem addT_form {m : Tapi_Marks} {k : UInt8} {xs : List (List Txt)} {t : Txt} (h : k = m.fRepeat ∨ xs ≠ []) : ∃ ys p, addT m k xs t = ys ++ [p ++ [t]] := by
  unfold addT
  split
  · exact ⟨xs, [], putL_snoc xs [] t⟩
  · rename_i hk
    rcases h with h | h
    · exact absurd h hk
    · have := List.dropLast_concat_getLast h
      refine ⟨xs.dropLast, xs.getLast h, ?_⟩
      rw [← putL_snoc, this]
theorem repsW_rep (m : Tapi_Marks) {ys : List (List Txt)} (h : ys ≠ []) (t : Txt) : repsW m (ys ++ [[t]]) = repsW m ys ++ partW m m.fRepeat t := by
  cases ys with
  | nil => exact absurd rfl h
  | cons y ys => simp [repsW, repW]
theorem repW_part (m : Tapi_Marks) (k : UInt8) {p : List Txt} (h : p ≠ []) (t : Txt) : repW m k (p ++ [t]) = repW m k p ++ partW m m.fPart t := by
  cases p with
  | nil => exact absurd rfl h
  | cons y ys => simp [repW]
theorem repsW_part (m : Tapi_Marks) (ys : List (List Txt)) {p : List Txt} (h : p ≠ []) (t : Txt) : repsW m (ys ++ [p ++ [t]]) = repsW m (ys ++ [p]) ++ partW m m.fPart t := by
  cases ys with
  | nil => simp [repsW, repW_part m m.fElement h]
  | cons y ys => simp [repsW, repW_part m m.fRepeat h]
theorem el_W {m : Tapi_Marks} {k : UInt8} {xs : List (List Txt)} {r : Txt} {res : Txt ⊕ (List (List Txt) × Txt)} (h : ElR m k xs r res) (hRP : m.fPart ≠ m.fRepeat) : ∀ (P : Txt), (k = m.fRepeat ∨ xs ≠ []) → (∀ t, repsW m (addT m k xs t) = P ++ escR m t) → ∀ xs' q', res = .inr (xs', q') → P ++ r = repsW m xs' ++ q' := by
  induction h with
  | bad => intro _ _ _ _ _ h; cases h
  | fin hp hy =>
    intro P hk hP xs' q' h
    cases h
    rw [hP, (partP_W hp).1, List.append_assoc]
  | @more k xs r t y q res hp hy _ ih =>
    intro P hk hP xs' q' h
    have hyy : y = m.fRepeat ∨ y = m.fPart := by
      obtain ⟨_, _, y', t', e, h1, h2⟩ := partP_inr hp
      cases e
      exact mark_other h1 h2 hy
    have := ih (repsW m (addT m k xs t) ++ [y]) (.inr (addT_ne hk)) (fun t' => ?_) xs' q' h
    · rw [← this, hP, (partP_W hp).1]; simp
    · obtain ⟨ys, p, e⟩ := addT_form (t := t) hk
      rw [e]
      rcases hyy with rfl | rfl
      · unfold addT
        rw [if_pos rfl, putL_snoc, List.nil_append, repsW_rep m (by simp)]
        simp [partW]
      · unfold addT
        rw [if_neg hRP, putL_snoc, repsW_part m ys (by simp)]
        simp [partW]
def CanX (m : Tapi_Marks) (xs : List (List Txt)) : Prop := ∀ p ∈ xs, ∀ t ∈ p, CanE m t
theorem canX_put {m : Tapi_Marks} {xs : List (List Txt)} {t : Txt} (h : CanX m xs) (ht : CanE m t) : CanX m (putL xs t) := by
  by_cases h0 : xs = []
  · subst h0; exact h
  · rw [← List.dropLast_concat_getLast h0, putL_snoc]
    rw [← List.dropLast_concat_getLast h0] at h
    intro p hp u hu
    rcases List.mem_append.1 hp with hp | hp
    · exact h p (List.mem_append_left _ hp) u hu
    · have hp := List.mem_singleton.1 hp
      subst hp
      rcases List.mem_append.1 hu with hu | hu
      · exact h _ (List.mem_append_right _ (List.mem_singleton.2 rfl)) u hu
      · rw [List.mem_singleton.1 hu]; exact ht
theorem canX_add {m : Tapi_Marks} {k : UInt8} {xs : List (List Txt)} {t : Txt} (h : CanX m xs) (ht : CanE m t) : CanX m (addT m k xs t) := by
  unfold addT
  split
  · refine canX_put (fun p hp u hu => ?_) ht
    rcases List.mem_append.1 hp with hp | hp
    · exact h p hp u hu
    · rw [List.mem_singleton.1 hp] at hu; cases hu
  · exact canX_put h ht
theorem el_can {m : Tapi_Marks} {k : UInt8} {xs : List (List Txt)} {r : Txt} {res : Txt ⊕ (List (List Txt) × Txt)} (h : ElR m k xs r res) : CanX m xs → ∀ xs' q', res = .inr (xs', q') → CanX m xs' := by
  induction h with
  | bad => intro _ _ _ h; cases h
  | fin hp hy => intro hx xs' q' h; cases h; exact canX_add hx (partP_W hp).2
  | more hp hy _ ih => exact fun hx => ih (canX_add hx (partP_W hp).2)
theorem els_W {m : Tapi_Marks} (hRP : m.fPart ≠ m.fRepeat) {acc : List Tapi_Element} {r : Txt} {res : Txt ⊕ (List Tapi_Element × Txt)} (h : ElsR m acc r res) : (∀ e ∈ acc, CanX m e.fRepeats) → ∀ acc' q', res = .inr (acc', q') → elsW m acc ++ r = elsW m acc' ++ q' ∧ ∀ e ∈ acc', CanX m e.fRepeats := by
  induction h with
  | fin hy => intro ha _ _ h; cases h; exact ⟨rfl, ha⟩
  | bad he => intro _ _ _ h; cases h
  | @more acc q xs q' res he _ ih =>
    intro ha acc' q2 h
    have h1 := el_W he hRP [m.fElement] (.inl rfl) (fun t => by
      unfold addT
      rw [if_pos rfl, putL_snoc [] [] t]
      simp [repsW, repW, partW]) _ _ rfl
    obtain ⟨h2, h3⟩ := ih (fun e he' => by
      rcases List.mem_append.1 he' with h | h
      · exact ha e h
      · rw [List.mem_singleton.1 h]; exact el_can he (fun _ h => by cases h) _ _ rfl) acc' q2 h
    refine ⟨?_, h3⟩
    have e : elsW m (acc ++ [⟨xs⟩]) = elsW m acc ++ repsW m xs := by simp [elsW]
    rw [← h2, e, List.append_assoc, ← h1]; rfl
theorem fl_end {m : Tapi_Marks} {acc : List Tapi_Element} {r : Txt} {res : Txt ⊕ (List Tapi_Element × Txt)} (h : FlR m acc r res) : ∀ acc' q', res = .inr (acc', q') → ∃ q, q' = m.fEnd :: q := by
  induction h with
  | fin => intro _ _ h; cases h; exact ⟨_, rfl⟩
  | bad _ _ => intro _ _ h; cases h
  | more _ _ _ ih => exact ih
theorem seg_W {m : Tapi_Marks} (hRP : m.fPart ≠ m.fRepeat) (hE : m.fElement ≠ m.fEnd) {r : Txt} {s : Tapi_Segment} {q : Txt} (h : SegR m r (.inr (s, q))) : r = s.fTag ++ (elsW m s.fElements ++ m.fEnd :: q) ∧ (∀ e ∈ s.fElements, CanX m e.fRepeats) ∧ tagF s.fTag = true := by
  cases h with
  | ok ht he =>
    obtain ⟨h1, ⟨y0, q0, h2, h3⟩, h4⟩ := tagP_inr ht
    have hf := els_fl hE he (fun y q h => by rw [h2] at h; cases h; exact h3)
    obtain ⟨q3, hq⟩ := fl_end hf _ _ rfl
    obtain ⟨h5, h6⟩ := els_W hRP he (fun _ h => by cases h) _ _ rfl
    rw [List.cons.injEq] at hq
    rw [hq.1] at h5
    refine ⟨?_, h6, h4⟩
    rw [h1]
    congr 1
theorem cut_W {m : Tapi_Marks} (hRP : m.fPart ≠ m.fRepeat) (hE : m.fElement ≠ m.fEnd) {out : List Tapi_Segment} {ln : Bool} {r : Txt} {res : Txt ⊕ (List Tapi_Segment × Bool)} (h : CutR m out ln r res) : ∀ x p, res = .inr (x, p) → (out ≠ [] → p = ln) ∧ ∃ ys, x = out ++ ys ∧ r = allW m p ys ∧ (∀ s ∈ ys, ∀ e ∈ s.fElements, CanX m e.fRepeats) := by
  induction h with
  | nil => intro x p h; cases h; exact ⟨fun _ => rfl, [], by simp, rfl, fun _ h => by cases h⟩
  | bad => intro _ _ h; cases h
  | stop => intro _ _ h; cases h
  | @more out ln r s q res h0 hs hc _ ih =>
    intro x p h
    obtain ⟨h1, ys, h2, h3, h4⟩ := ih x p h
    have hp : p = feedB q := h1 (by simp)
    obtain ⟨h5, h6, -⟩ := seg_W hRP hE hs
    refine ⟨fun ho => ?_, s :: ys, by rw [h2]; simp, ?_, ?_⟩
    · rcases hc with hc | hc
      · exact absurd hc ho
      · rw [hp, hc]
    · have e : q = (if p = true then [10] else []) ++ allW m p ys := by
        rw [← h3]
        split
        · rename_i h8
          rw [hp] at h8
          rw [if_pos h8]
          exact feed_iff h8
        · rename_i h8
          rw [hp] at h8
          rw [if_neg h8]; rfl
      rw [h5, allW, List.flatMap_cons, segW]
      conv => lhs; rw [e]
      cases p <;> simp [tailB, allW]
    · intro t ht
      rcases List.mem_cons.1 ht with rfl | ht
      · exact h6
      · exact h4 t ht
end Go.Proofs.YtfbhhhghjehjjaaDoor

/-
  Plain laws of the wire: what was written is divided again.
-/
namespace Go.Proofs.YtfbhhhghjehjjaaDoor
set_option linter.unusedSimpArgs false
set_option linter.unusedVariables false
open Go.RowKit

/-- What right marks are. -/
structure MarksOk (m : Tapi_Marks) : Prop where
  bE : markB m.fElement = true
  bN : markB m.fEnd = true
  pR : m.fPart ≠ m.fRepeat
  eN : m.fElement ≠ m.fEnd
  eP : m.fElement ≠ m.fPart
  eR : m.fElement ≠ m.fRepeat
  nP : m.fEnd ≠ m.fPart
  nR : m.fEnd ≠ m.fRepeat
  esc : ∀ y, y = m.fElement ∨ y = m.fPart ∨ y = m.fRepeat ∨ y = m.fEnd → escB m y = false
theorem marks_ok {m : Tapi_Marks} (h : marksF m = 0) : MarksOk m := by
  unfold marksF at h
  split at h
  · cases h
  · rename_i hb
    split at h
    · cases h
    · rename_i ht
      have hne : ∀ a b : UInt8, eqB a b = false → b ≠ a := fun a b h e => by
        have := (eqB_iff a b).2 e.symm
        rw [h] at this; cases this
      unfold bads at hb
      unfold twice at ht
      simp only [Bool.or_eq_true, not_or, Bool.not_eq_true, Bool.not_eq_eq_eq_not, Bool.not_true, Bool.not_false] at hb ht
      obtain ⟨⟨⟨⟨b1, b2⟩, b3⟩, b4⟩, b5⟩ := hb
      obtain ⟨⟨⟨⟨⟨⟨⟨⟨⟨t1, t2⟩, t3⟩, t4⟩, t5⟩, t6⟩, t7⟩, t8⟩, t9⟩, t10⟩ := ht
      refine ⟨by simpa using b1, by simpa using b4, (hne _ _ t3), hne _ _ t4, hne _ _ t1, hne _ _ t2, (hne _ _ t5).symm, (hne _ _ t6).symm, fun y hy => ?_⟩
      cases he : escB m y with
      | false => rfl
      | true =>
        have h2 := ((escB_iff m y).1 he).2
        rcases hy with h | h | h | h
        · exact absurd (h.symm.trans h2) (hne _ _ t7)
        · exact absurd (h.symm.trans h2) (hne _ _ t8)
        · exact absurd (h.symm.trans h2) (hne _ _ t9)
        · exact absurd (h2.symm.trans h) (hne _ _ t10).symm
theorem isM_main {m : Tapi_Marks} {y : UInt8} (h : y = m.fElement ∨ y = m.fPart ∨ y = m.fRepeat ∨ y = m.fEnd) : isM m y = true := by
  unfold isM
  rcases h with rfl | rfl | rfl | rfl <;> simp
theorem text_out {t : Txt} (h : textF t = 0) : ∀ x ∈ t, outB x = false := by
  unfold textF at h
  split at h
  · cases h
  · intro x hx
    cases ho : outB x with
    | false => rfl
    | true =>
      exfalso
      have hb : badT x = true := ho
      have : (t.findSome? (fun x => if badT x = true then some (3 : Int) else none)).isSome = true := by
        rw [List.findSome?_isSome_iff]
        exact ⟨x, hx, by simp [hb]⟩
      obtain ⟨a, ha⟩ := Option.isSome_iff_exists.1 this
      rw [ha] at h
      obtain ⟨y, _, hy⟩ := List.exists_of_findSome?_eq_some ha
      split at hy
      · cases hy; cases h
      · cases hy
theorem part_R {m : Tapi_Marks} {y : UInt8} {q : Txt} (hy : isM m y = true) (hye : escB m y = false) : ∀ (t : Txt), (∀ x ∈ t, outB x = false) → CanE m t → partP m (escR m t ++ y :: q) = .inr (t, y :: q)
  | [], _, _ => by
    show partP m (y :: q) = _
    rw [partP_cons]
    simp [hye, hy]
  | x :: t, ho, hc => by
    have hc' : CanE m t := by
      unfold CanE at hc ⊢
      rcases hc with h | h
      · exact .inl h
      · rw [cntT_cons] at h; exact .inr (by omega)
    have ih := part_R hy hye (q := q) t (fun x hx => ho x (List.mem_cons_of_mem _ hx)) hc'
    rw [escR_cons]
    by_cases hx : isM m x = true
    · have hz : m.fEscape.toNat ≠ 0 := by
        rcases hc with h | h
        · exact h
        · rw [cntT_cons, if_pos hx] at h; omega
      rw [if_pos ⟨hx, hz⟩]
      show partP m (m.fEscape :: x :: (escR m t ++ y :: q)) = _
      rw [partP_cons]
      have he : escB m m.fEscape = true := (escB_iff m _).2 ⟨hz, rfl⟩
      simp only [he, if_true, hx, ih]
    · rw [if_neg fun h => hx h.1]
      show partP m (x :: (escR m t ++ y :: q)) = _
      rw [partP_cons]
      have he : escB m x = false := by
        cases h : escB m x with
        | false => rfl
        | true => exact absurd (escB_isM h) hx
      have h0 := ho x (by simp)
      simp only [he, hx, h0, Bool.false_eq_true, if_false, ih]
/-- Texts with the marks ahead of them. -/
abbrev Toks := List (UInt8 × Txt)
def toksW (m : Tapi_Marks) (l : Toks) : Txt := l.flatMap fun k => partW m k.1 k.2
def addAll (m : Tapi_Marks) (xs : List (List Txt)) (l : Toks) : List (List Txt) := l.foldl (fun xs k => addT m k.1 xs k.2) xs
def TextOk (m : Tapi_Marks) (t : Txt) : Prop := (∀ x ∈ t, outB x = false) ∧ CanE m t
theorem el_R {m : Tapi_Marks} (hm : MarksOk m) {y : UInt8} {q : Txt} (hy : y = m.fElement ∨ y = m.fEnd) : ∀ (l : Toks) (k : UInt8) (xs : List (List Txt)) (t : Txt), TextOk m t → (∀ z ∈ l, (z.1 = m.fRepeat ∨ z.1 = m.fPart) ∧ TextOk m z.2) →
    ElR m k xs (escR m t ++ (toksW m l ++ y :: q)) (.inr (addAll m xs ((k, t) :: l), y :: q))
  | [], k, xs, t, ht, _ => by
    have hyM : y = m.fElement ∨ y = m.fPart ∨ y = m.fRepeat ∨ y = m.fEnd := by
      rcases hy with h | h
      · exact .inl h
      · exact .inr (.inr (.inr h))
    exact .fin (part_R (isM_main hyM) (hm.esc y hyM) t ht.1 ht.2) hy
  | z :: l, k, xs, t, ht, hl => by
    obtain ⟨h1, h2⟩ := hl z (by simp)
    have hyM : z.1 = m.fElement ∨ z.1 = m.fPart ∨ z.1 = m.fRepeat ∨ z.1 = m.fEnd := by
      rcases h1 with h | h
      · exact .inr (.inr (.inl h))
      · exact .inr (.inl h)
    have hn : ¬ (z.1 = m.fElement ∨ z.1 = m.fEnd) := by
      rcases h1 with h | h <;> rw [h] <;> rintro (e | e)
      · exact hm.eR e.symm
      · exact hm.nR e.symm
      · exact hm.eP e.symm
      · exact hm.nP e.symm
    have e : toksW m (z :: l) ++ y :: q = z.1 :: (escR m z.2 ++ (toksW m l ++ y :: q)) := by simp [toksW, partW]
    rw [e]
    exact .more (part_R (isM_main hyM) (hm.esc z.1 hyM) t ht.1 ht.2) hn (el_R hm hy l z.1 (addT m k xs t) z.2 h2 fun z hz => hl z (List.mem_cons_of_mem _ hz))
theorem addAll_part {m : Tapi_Marks} (hm : MarksOk m) : ∀ (ps : List Txt) (xs : List (List Txt)) (p : List Txt), addAll m (xs ++ [p]) (ps.map fun t => (m.fPart, t)) = xs ++ [p ++ ps]
  | [], xs, p => by simp [addAll]
  | t :: ps, xs, p => by
    have := addAll_part hm ps xs (p ++ [t])
    have e : addT m m.fPart (xs ++ [p]) t = xs ++ [p ++ [t]] := by
      unfold addT
      rw [if_neg hm.pR, putL_snoc]
    simp only [addAll, List.map_cons, List.foldl_cons, e] at this ⊢
    rw [this]; simp
def repT (m : Tapi_Marks) : List Txt → Toks
  | [] => []
  | t :: ps => (m.fRepeat, t) :: ps.map fun t => (m.fPart, t)
theorem addAll_rep {m : Tapi_Marks} (hm : MarksOk m) {p : List Txt} (hp : p ≠ []) (xs : List (List Txt)) : addAll m xs (repT m p) = xs ++ [p] := by
  cases p with
  | nil => exact absurd rfl hp
  | cons t ps =>
    have e : addT m m.fRepeat xs t = xs ++ [[t]] := by
      unfold addT
      rw [if_pos rfl, putL_snoc]; rfl
    have := addAll_part hm ps xs [t]
    simp only [repT]
    unfold addAll at this ⊢
    rw [List.foldl_cons, e, this]
    rfl
theorem addAll_append (m : Tapi_Marks) (xs : List (List Txt)) (a b : Toks) : addAll m xs (a ++ b) = addAll m (addAll m xs a) b := by simp [addAll, List.foldl_append]
theorem addAll_reps {m : Tapi_Marks} (hm : MarksOk m) : ∀ (zs : List (List Txt)) (xs : List (List Txt)), (∀ p ∈ zs, p ≠ []) → addAll m xs (zs.flatMap (repT m)) = xs ++ zs
  | [], xs, _ => by simp [addAll]
  | p :: zs, xs, h => by
    rw [List.flatMap_cons, addAll_append, addAll_rep hm (h p (by simp)), addAll_reps hm zs _ fun p hp => h p (List.mem_cons_of_mem _ hp)]
    simp
theorem toksW_rep (m : Tapi_Marks) (p : List Txt) : toksW m (repT m p) = repW m m.fRepeat p := by
  cases p with
  | nil => rfl
  | cons t ps => simp [repT, toksW, repW, List.flatMap_map]
theorem toksW_reps (m : Tapi_Marks) : ∀ (zs : List (List Txt)), toksW m (zs.flatMap (repT m)) = zs.flatMap (repW m m.fRepeat)
  | [] => rfl
  | p :: zs => by
    have := toksW_reps m zs
    rw [List.flatMap_cons, List.flatMap_cons, ← this, ← toksW_rep]
    simp [toksW]
/-- Right elements of which each text can be written. -/
def ElOk (m : Tapi_Marks) (e : Tapi_Element) : Prop := e.fRepeats ≠ [] ∧ ∀ p ∈ e.fRepeats, p ≠ [] ∧ ∀ t ∈ p, TextOk m t
theorem repT_ok {m : Tapi_Marks} {p : List Txt} (h : ∀ t ∈ p, TextOk m t) : ∀ z ∈ repT m p, (z.1 = m.fRepeat ∨ z.1 = m.fPart) ∧ TextOk m z.2 := by
  cases p with
  | nil => intro z hz; cases hz
  | cons t ps =>
    intro z hz
    rcases List.mem_cons.1 hz with rfl | hz
    · exact ⟨.inl rfl, h t (by simp)⟩
    · obtain ⟨u, hu, rfl⟩ := List.mem_map.1 hz
      exact ⟨.inr rfl, h u (List.mem_cons_of_mem _ hu)⟩
theorem elem_R {m : Tapi_Marks} (hm : MarksOk m) {y : UInt8} {q : Txt} (hy : y = m.fElement ∨ y = m.fEnd) {e : Tapi_Element} (he : ElOk m e) : ∃ r, repsW m e.fRepeats ++ y :: q = m.fElement :: r ∧ ElR m m.fRepeat [] r (.inr (e.fRepeats, y :: q)) := by
  obtain ⟨l⟩ := e
  obtain ⟨h1, h2⟩ := he
  simp only at h1 h2 ⊢
  cases l with
  | nil => exact absurd rfl h1
  | cons p xs =>
    obtain ⟨hp, htp⟩ := h2 p (by simp)
    cases p with
    | nil => exact absurd rfl hp
    | cons t ps =>
      have key := el_R hm (q := q) hy (ps.map (fun t => (m.fPart, t)) ++ xs.flatMap (repT m)) m.fRepeat [] t (htp t (by simp)) (fun z hz => by
        rcases List.mem_append.1 hz with hz | hz
        · obtain ⟨u, hu, rfl⟩ := List.mem_map.1 hz
          exact ⟨.inr rfl, htp u (List.mem_cons_of_mem _ hu)⟩
        · obtain ⟨p, hp, hz⟩ := List.mem_flatMap.1 hz
          exact repT_ok (h2 p (List.mem_cons_of_mem _ hp)).2 z hz)
      refine ⟨escR m t ++ (toksW m (ps.map (fun t => (m.fPart, t)) ++ xs.flatMap (repT m)) ++ y :: q), ?_, ?_⟩
      rotate_left
      · have e1 : addAll m [] ((m.fRepeat, t) :: (ps.map (fun t => (m.fPart, t)) ++ xs.flatMap (repT m))) = (t :: ps) :: xs := by
          have : (m.fRepeat, t) :: (ps.map (fun t => (m.fPart, t)) ++ xs.flatMap (repT m)) = ((t :: ps) :: xs).flatMap (repT m) := by simp [repT]
          rw [this, addAll_reps hm _ _ (fun p hp => (h2 p hp).1)]
          rfl
        rw [e1] at key
        exact key
      · have e2 : toksW m (ps.map (fun t => (m.fPart, t)) ++ xs.flatMap (repT m)) = ps.flatMap (partW m m.fPart) ++ xs.flatMap (repW m m.fRepeat) := by
          rw [← toksW_reps]
          simp [toksW, List.flatMap_map]
        rw [e2]
        simp [repsW, repW, partW]
theorem els_head {m : Tapi_Marks} {els : List Tapi_Element} (h : ∀ e ∈ els, ElOk m e) (q : Txt) : ∃ y q', elsW m els ++ m.fEnd :: q = y :: q' ∧ (y = m.fElement ∨ y = m.fEnd) := by
  cases els with
  | nil => exact ⟨m.fEnd, q, rfl, .inr rfl⟩
  | cons e2 els =>
    have h0 := (h e2 (by simp)).1
    have h1 := (h e2 (by simp)).2
    cases hx : e2.fRepeats with
    | nil => exact absurd hx h0
    | cons p xs =>
      cases p with
      | nil => exact absurd rfl (h1 [] (by rw [hx]; simp)).1
      | cons t ps =>
        have hr : ∃ r, repsW m ((t :: ps) :: xs) = m.fElement :: r := ⟨_, rfl⟩
        obtain ⟨r, hr⟩ := hr
        refine ⟨m.fElement, r ++ (elsW m els ++ m.fEnd :: q), ?_, .inl rfl⟩
        rw [elsW, List.flatMap_cons, hx, hr]
        simp [elsW]
theorem els_R {m : Tapi_Marks} (hm : MarksOk m) (q : Txt) : ∀ (els acc : List Tapi_Element), (∀ e ∈ els, ElOk m e) → ElsR m acc (elsW m els ++ m.fEnd :: q) (.inr (acc ++ els, m.fEnd :: q))
  | [], acc, _ => by
    rw [List.append_nil]
    exact .fin hm.eN.symm
  | e :: els, acc, h => by
    have ih := els_R hm q els (acc ++ [e]) fun e he => h e (List.mem_cons_of_mem _ he)
    have hh := els_head (els := els) (fun e he => h e (List.mem_cons_of_mem _ he)) q
    obtain ⟨y, q', hq, hy⟩ := hh
    obtain ⟨r, hr, hel⟩ := elem_R hm (y := y) (q := q') hy (h e (by simp))
    have e1 : elsW m (e :: els) ++ m.fEnd :: q = m.fElement :: r := by
      rw [← hr, ← hq, elsW, List.flatMap_cons, List.append_assoc]; rfl
    rw [e1]
    rw [hq] at ih
    have e2 : acc ++ e :: els = acc ++ [e] ++ els := by simp
    rw [e2]
    exact .more hel ih
theorem tagB_mark {m : Tapi_Marks} (hm : MarksOk m) {b : UInt8} (h : tagB b = true) : stopB m b = false := by
  cases hs : stopB m b with
  | false => rfl
  | true =>
    exfalso
    have hb : markB b = true := by
      unfold stopB at hs
      rw [Bool.or_eq_true, eqB_iff, eqB_iff] at hs
      rcases hs with rfl | rfl
      · exact hm.bE
      · exact hm.bN
    unfold markB at hb
    unfold tagB letB at h
    simp only [Bool.and_eq_true, Bool.not_eq_true', Bool.or_eq_false_iff, Bool.or_eq_true, Bool.and_eq_false_iff, decide_eq_true_eq, decide_eq_false_iff_not] at hb h
    omega
theorem tag_all {l : Txt} (h : tagF l = true) : l.all tagB = true ∧ ∃ b t, l = b :: t ∧ letB b = true := by
  cases l with
  | nil => cases h
  | cons b t =>
    simp only [tagF, Bool.and_eq_true] at h
    refine ⟨?_, b, t, rfl, h.1.2⟩
    rw [List.all_cons, h.2, Bool.and_true]
    unfold tagB
    rw [h.1.2, Bool.true_or]
theorem span_R {p : UInt8 → Bool} {y : UInt8} {q : Txt} (hy : p y = false) : ∀ {s : Txt}, (∀ x ∈ s, p x = true) → (s ++ y :: q).takeWhile p = s ∧ (s ++ y :: q).dropWhile p = y :: q
  | [], _ => by simp [List.takeWhile_cons, List.dropWhile_cons, hy]
  | x :: s, h => by
    have := span_R (q := q) hy (s := s) fun x hx => h x (List.mem_cons_of_mem _ hx)
    simp only [List.cons_append, List.takeWhile_cons, List.dropWhile_cons, h x (by simp), if_true, this, and_self]
theorem tag_R {m : Tapi_Marks} (hm : MarksOk m) {s : Txt} (hs : tagF s = true) {y : UInt8} {q : Txt} (hy : y = m.fElement ∨ y = m.fEnd) : tagP m (s ++ y :: q) = .inr (s, y :: q) := by
  have hy' : (!stopB m y) = false := by
    unfold stopB
    rcases hy with rfl | rfl
    · rw [(eqB_iff _ _).2 rfl]; rfl
    · rw [(eqB_iff _ _).2 rfl, Bool.or_true]; rfl
  obtain ⟨h1, h2⟩ := span_R (p := fun b => !stopB m b) (q := q) hy' (s := s) fun x hx => by
    have := List.all_eq_true.1 (tag_all hs).1 x hx
    simp only [tagB_mark hm this, Bool.not_false]
  unfold tagP
  rw [h1, h2]
  simp only [hs, if_true]
def SegOk (m : Tapi_Marks) (s : Tapi_Segment) : Prop := tagF s.fTag = true ∧ ∀ e ∈ s.fElements, ElOk m e
theorem seg_R {m : Tapi_Marks} (hm : MarksOk m) {s : Tapi_Segment} (hs : SegOk m s) (q : Txt) : SegR m (s.fTag ++ (elsW m s.fElements ++ m.fEnd :: q)) (.inr (s, q)) := by
  obtain ⟨tag, els⟩ := s
  obtain ⟨y, q', hq, hy⟩ := els_head hs.2 q
  have h1 := els_R hm q els [] hs.2
  rw [List.nil_append] at h1
  have h2 := tag_R hm hs.1 (q := q') hy
  rw [← hq] at h2
  exact .ok h2 h1
theorem all_feed {m : Tapi_Marks} {lines : Bool} {l : List Tapi_Segment} (h : ∀ s ∈ l, SegOk m s) : feedB (allW m lines l) = false := by
  cases l with
  | nil => rfl
  | cons s l =>
    obtain ⟨-, b, t, hb, hl⟩ := tag_all (h s (by simp)).1
    rw [allW, List.flatMap_cons, segW, hb]
    simp only [List.cons_append]
    unfold feedB
    split
    · rename_i h
      simp only [List.cons.injEq] at h
      rw [h.1] at hl
      exact absurd hl (by decide)
    · rfl
theorem cut_R {m : Tapi_Marks} (hm : MarksOk m) (lines : Bool) : ∀ (l out : List Tapi_Segment) (ln : Bool), (∀ s ∈ l, SegOk m s) → (out = [] ∨ ln = lines) → CutR m out ln (allW m lines l) (.inr (out ++ l, if l = [] then ln else lines))
  | [], out, ln, _, _ => by
    rw [List.append_nil, if_pos rfl]
    exact .nil
  | s :: l, out, ln, h, ho => by
    have hl : ∀ s ∈ l, SegOk m s := fun s hs => h s (List.mem_cons_of_mem _ hs)
    have hf := all_feed (lines := lines) hl
    have hq : allW m lines (s :: l) = s.fTag ++ (elsW m s.fElements ++ m.fEnd :: ((if lines = true then [10] else []) ++ allW m lines l)) := by
      rw [allW, List.flatMap_cons, segW]
      cases lines <;> simp [tailB, allW]
    have hfe : feedB ((if lines = true then [10] else []) ++ allW m lines l) = lines := by
      cases lines with
      | false => exact hf
      | true => rfl
    have ht : (if feedB ((if lines = true then [10] else []) ++ allW m lines l) = true then ((if lines = true then [10] else []) ++ allW m lines l).tail else ((if lines = true then [10] else []) ++ allW m lines l)) = allW m lines l := by
      rw [hfe]
      cases lines <;> simp
    rw [hq]
    have ih := cut_R hm lines l (out ++ [s]) lines hl (.inr rfl)
    have e : (if l = [] then lines else lines) = lines := by split <;> rfl
    rw [e] at ih
    have hne : ¬ (s :: l = []) := by simp
    rw [if_neg hne, show out ++ s :: l = out ++ [s] ++ l by simp]
    refine .more ?_ (seg_R hm (h s (by simp)) _) ?_ ?_
    · obtain ⟨-, b, t, hb, -⟩ := tag_all (h s (by simp)).1
      rw [hb]; simp
    · rw [hfe]; exact ho
    · rw [ht, hfe]; exact ih
end Go.Proofs.YtfbhhhghjehjjaaDoor

/-
  What is read is written again byte by byte, and what is written is read again (plain law).
-/
namespace Go.Proofs.YtfbhhhghjehjjaaDoor
set_option linter.unusedSimpArgs false
set_option linter.unusedVariables false
open Go.RowKit

theorem sum_zero {α : Type} {c : α → Nat} : ∀ {l : List α}, (∀ x ∈ l, c x = 0) → (l.map c).sum = 0
  | [], _ => rfl
  | x :: l, h => by
    have h1 := h x (by simp)
    have h2 := sum_zero (l := l) (c := c) fun y hy => h y (List.mem_cons_of_mem _ hy)
    simp only [List.map_cons, List.sum_cons, h1, h2]
theorem can_sum {m : Tapi_Marks} {x : List Tapi_Segment} (h : ∀ s ∈ x, ∀ e ∈ s.fElements, CanX m e.fRepeats) : badB m (cntL m x) = false := by
  unfold badB
  by_cases hz : m.fEscape.toNat = 0
  · have : cntL m x = 0 := sum_zero fun s hs => sum_zero fun e he => sum_zero fun p hp => sum_zero fun t ht => by
      rcases h s hs e he p hp t ht with h | h
      · exact absurd hz h
      · exact h
    rw [this]; simp
  · simp [hz]
theorem can_mem {m : Tapi_Marks} {l : List Tapi_Segment} (h : badB m (cntL m l) = false) {s : Tapi_Segment} (hs : s ∈ l) {e : Tapi_Element} (he : e ∈ s.fElements) {p : List Txt} (hp : p ∈ e.fRepeats) {t : Txt} (ht : t ∈ p) : CanE m t := by
  have h0 := canEsc_bad h
  have h1 : cntT m t ≤ cntR m p := sum_mem (c := cntT m) ht
  have h2 : cntR m p ≤ cntE m e := sum_mem (c := cntR m) hp
  have h3 : cntE m e ≤ cntS m s := sum_mem (c := cntE m) he
  have h4 : cntS m s ≤ cntL m l := sum_mem (c := cntS m) hs
  rcases h0 with h0 | h0
  · exact .inl h0
  · exact .inr (by omega)
theorem segs_short {l : List Tapi_Segment} (h : segsF l = 0) : TagsShort l := fun s hs => by
  have := (seg_len ((segs_len h).2 s hs)).2.1
  omega
theorem bytes_eq (b : Txt) (h : b.length ≤ 137438953472) : m_bytes_Equal b b = some true := by
  unfold m_bytes_Equal sims_G6_0_0; dsimp only
  simp
theorem cut_join {b : Txt} {m : Tapi_Marks} {z : List Tapi_Segment × Bool × Int × Int} (hz : m_wire_Cut b m = some z) (h0 : z.2.2.2 = 0) : joinG z.1 m z.2.1 = (b, 0) ∧ TagsShort z.1 ∧ b.length ≤ 500000 := by
  by_cases h : marksF m ≠ 0 ∨ 500000 < b.length
  · rw [(w_Cut_bad m b h).1] at hz
    cases hz
    simp only at h0
    split at h0
    · rename_i h1; exact absurd h0 h1
    · cases h0
  · have hm : marksF m = 0 := by
      by_cases h0 : marksF m = 0
      · exact h0
      · exact absurd (.inl h0) h
    have hb : b.length ≤ 500000 := by
      by_cases h0 : 500000 < b.length
      · exact absurd (.inr h0) h
      · omega
    obtain ⟨res, hres⟩ := cut_total m b.length b (Nat.le_refl _) [] false
    rw [w_Cut m b hm hb hres] at hz
    have hz := (Option.some.inj hz).symm
    subst hz
    have hk := marks_ok hm
    cases res with
    | inl q => simp only [cutA] at h0; exact absurd h0 (by decide)
    | inr xp =>
      obtain ⟨x, p⟩ := xp
      simp only [cutA] at h0 ⊢
      by_cases hs : segsF x = 0
      · obtain ⟨-, ys, h1, h2, h3⟩ := cut_W hk.pR hk.eN hres x p rfl
        rw [List.nil_append] at h1
        subst h1
        rw [if_pos hs]
        refine ⟨?_, segs_short hs, hb⟩
        simp only
        unfold joinG
        have hbf : bothF x m = 0 := by unfold bothF; rw [if_pos hs]; exact hm
        rw [if_neg (by rw [hbf]; simp), can_sum h3, ← h2]
        simp only [Bool.false_eq_true, if_false]
        rw [if_neg (by omega)]
      · rw [if_neg hs] at h0
        exact absurd h0 hs
theorem join_cut {l : List Tapi_Segment} {m : Tapi_Marks} {lines : Bool} (h0 : (joinG l m lines).2 = 0) : m_wire_Cut (joinG l m lines).1 m = some (l, lines && decide (0 < (l.length : Int)), 0, 0) ∧ l.length ≤ 2000 ∧ ∀ s ∈ l, cloneOk s := by
  unfold joinG at h0 ⊢
  by_cases h : bothF l m = 0
  · simp only [h, ne_eq, not_true_eq_false, if_false] at h0 ⊢
    obtain ⟨hs, hm⟩ := both_segs h
    cases hb : badB m (cntL m l) with
    | true => rw [hb, if_pos rfl] at h0; exact absurd h0 (by decide)
    | false =>
      rw [hb] at h0
      simp only [Bool.false_eq_true, if_false] at h0 ⊢
      by_cases hl : 500000 < (allW m lines l).length
      · rw [if_pos hl] at h0; exact absurd h0 (by decide)
      · rw [if_neg hl]
        have hk := marks_ok hm
        obtain ⟨g1, g2⟩ := segs_len hs
        have hok : ∀ s ∈ l, SegOk m s := fun s hsl => by
          obtain ⟨k1, k2, k3⟩ := segF_iff.1 (g2 s hsl)
          refine ⟨k1, fun e he => ?_⟩
          obtain ⟨k4, k5, k6⟩ := elemF_iff.1 (k3 e he)
          refine ⟨fun hz => by rw [hz] at k4; simp at k4, fun p hp => ?_⟩
          obtain ⟨k7, k8, k9⟩ := repF_iff.1 (k6 p hp)
          exact ⟨fun hz => by rw [hz] at k7; simp at k7, fun t ht => ⟨text_out (k9 t ht), can_mem hb hsl he hp ht⟩⟩
        have hc := cut_R hk lines l [] false hok (.inl rfl)
        rw [List.nil_append] at hc
        refine ⟨?_, g1, fun s hsl => seg_ok (g2 s hsl)⟩
        rw [w_Cut m _ hm (by omega) hc]
        simp only [cutA, hs, if_true]
        congr 3
        cases l with
        | nil => simp
        | cons s l => simp
  · rw [if_pos h] at h0
    exact absurd h0 h
theorem joinG_bad {l : List Tapi_Segment} {m : Tapi_Marks} {lines : Bool} (h0 : (joinG l m lines).2 ≠ 0) : (joinG l m lines).1 = [] := by
  unfold joinG at h0 ⊢
  split
  · rfl
  · rename_i h1
    rw [if_neg h1] at h0
    split
    · rfl
    · rename_i h2
      rw [if_neg h2] at h0
      split
      · rfl
      · rename_i h3
        rw [if_neg h3] at h0
        exact absurd rfl h0
theorem law_bytes (b : Txt) (l : List Tapi_Segment) (m : Tapi_Marks) (lines : Bool) (hl : TagsShort l) : m_interchangelaw2_WireBytesComeBack b l m lines = some true := by
  obtain ⟨z, hz, -, -⟩ := both_Cut m b
  unfold m_interchangelaw2_WireBytesComeBack sims_G6_4_0; dsimp only
  have hj := w_JoinG l m lines hl
  have second : ((m_wire_Join l m lines).bind fun x =>
                  bif !decide (x.snd = 0) then
                    (andO (decide ((x.fst.length : Int) = 0)) (m_interchangelaw2_awake.bind fun x => some x)).bind fun v =>
                      some v
                  else
                    (m_wire_Cut x.fst m).bind fun x =>
                      (andO (decide (x.snd.snd.snd = 0)) (some (decide (x.snd.snd.fst = 0)))).bind fun v =>
                        (andO v
                              ((andO lines (some (decide (0 < (l.length : Int))))).bind fun v =>
                                some (decide (x.snd.fst = v)))).bind
                          fun v =>
                          (andO v ((m_interchangeref2_SameSegments l x.fst).bind fun x => some x)).bind fun v =>
                            (andO v (m_interchangelaw2_awake.bind fun x => some x)).bind fun v => some v) = some true := by
    simp only [hj, Option.bind_some]
    by_cases h0 : (joinG l m lines).2 = 0
    · obtain ⟨h1, h2, h3⟩ := join_cut h0
      simp only [h0, decide_true, Bool.not_true, cond_false, h1, Option.bind_some, sameSegs_refl l (by omega) h3, awake_true, andO_some, Bool.and_self]
    · simp only [h0, decide_false, Bool.not_false, cond_true, joinG_bad h0, awake_true, Option.bind_some, andO_some]
      rfl
  simp only [hz, Option.bind_some]
  by_cases h0 : z.2.2.2 = 0
  · obtain ⟨h1, h2, h3⟩ := cut_join hz h0
    simp only [h0, decide_true, cond_true, w_JoinG z.1 m z.2.1 h2, h1, Option.bind_some, Bool.not_true, bytes_eq b (by omega), orO_some, Bool.or_self, cond_false]
    exact second
  · simp only [h0, decide_false, cond_false]
    exact second
end Go.Proofs.YtfbhhhghjehjjaaDoor

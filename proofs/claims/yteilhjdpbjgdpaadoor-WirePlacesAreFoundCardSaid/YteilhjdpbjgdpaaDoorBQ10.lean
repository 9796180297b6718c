/-
  Plain laws of the wire: what the program writes.
-/
import Derived.Test.YteilhjdpbjgdpaaDoorBQ7
import Derived.Test.YteilhjdpbjgdpaaDoorBG4
namespace Go.Proofs.YteilhjdpbjgdpaaDoor
set_option linter.unusedSimpArgs false
set_option linter.unusedVariables false
open Go.RowKit

/-- A search for a place. -/
theorem loop_index {α : Type} (l : List α) (q : α → Bool) {f : Int → Option (Int ⊕ (Int ⊕ Int))} (hb : ∀ (i : Nat) (e : α), l[i]? = some e → f (i : Int) = bif q e then some (.inr (.inr (i : Int))) else some (.inl ((i + 1 : Nat) : Int))) (he : f (l.length : Int) = some (.inr (.inl (l.length : Int)))) :
    loopC f 0 = some (match l.findIdx? q with | some j => .inr ((j : Nat) : Int) | none => .inl (l.length : Int)) := by
  have : ∀ (t : List α) (i : Nat), l.drop i = t → i ≤ l.length → loopC f (i : Int) = some (match t.findIdx? q with | some j => .inr (((i + j : Nat)) : Int) | none => .inl (l.length : Int)) := by
    intro t
    induction t with
    | nil =>
      intro i hd hi
      have := drop_nil_len hd hi
      subst this
      rw [loopC_eq, he]
      rfl
    | cons e t ih =>
      intro i hd hi
      obtain ⟨h1, h2, h3⟩ := drop_head hd
      rw [loopC_eq, hb i e h1, List.findIdx?_cons]
      cases hq : q e with
      | true => simp
      | false =>
        simp only [cond_false]
        rw [ih (i + 1) h3 h2]
        cases t.findIdx? q with
        | none => rfl
        | some j => simp; omega
  have h0 : loopC f 0 = _ := this l 0 rfl (Nat.zero_le _)
  rw [h0]
  cases l.findIdx? q with
  | none => rfl
  | some j => simp
theorem find_any {α : Type} (l : List α) (q : α → Bool) : decide (0 ≤ (match l.findIdx? q with | some j => ((j : Nat) : Int) | none => -1)) = l.any q := by
  cases h : l.findIdx? q with
  | none =>
    rw [List.findIdx?_eq_none_iff] at h
    symm
    have : l.any q = false := by
      rw [List.any_eq_false]
      intro x hx; rw [h x hx]; decide
    rw [this]; rfl
  | some j =>
    obtain ⟨hj, h3, -⟩ := List.findIdx?_eq_some_iff_getElem.1 h
    symm
    have : l.any q = true := List.any_eq_true.2 ⟨l[j], List.getElem_mem hj, h3⟩
    rw [this]; simp
theorem containsFunc_str (l : List (List UInt8)) (f1 : FuncId) (c1 : List DV) (p1 : List UInt8 → Option Bool) (h1 : ∀ a0 r, p1 a0 = some r → PureSpec Tryd.prog f1 ([.str a0] ++ c1) (.bool r)) (q : List UInt8 → Bool) (hp : ∀ t ∈ l, p1 t = some (q t)) (hl : l.length ≤ 9223372036854775807) :
    m_slices_ContainsFunc_string_string l f1 c1 p1 h1 = some (l.any q) := by
  unfold m_slices_ContainsFunc_string_string sims_G4_1_0; dsimp only
  have hI : m_slices_IndexFunc_string_string l f1 c1 p1 h1 = some (match l.findIdx? q with | some j => ((j : Nat) : Int) | none => -1) := by
    unfold m_slices_IndexFunc_string_string sims_G4_0_0; dsimp only
    refine bind_loop (loop_index l q (fun i e he => ?_) ?_) ?_
    · have hi := get_le he
      simp only [lt_dec hi, cond_true, getI_nat, he, Option.bind_some, hp e (List.mem_of_getElem? he), wrapN i (by omega)]
      cases q e <;> rfl
    · simp only [lt_dec_self, cond_false]; rfl
    · cases l.findIdx? q <;> rfl
  rw [hI]
  simp only [Option.bind_some, find_any]
theorem sum_pos {α : Type} (c : α → Nat) : ∀ (l : List α), decide (0 < (l.map c).sum) = l.any (fun x => decide (0 < c x))
  | [] => rfl
  | x :: l => by
    rw [List.any_cons, ← sum_pos c l, List.map_cons, List.sum_cons]
    by_cases h : 0 < c x
    · simp [h]; omega
    · have : c x = 0 := by omega
      simp [this]

theorem loop_pre0 {α T A : Type} (l : List α) (st : Nat → List α → T) {f : T → Option (T ⊕ A)} {a : A} {s0 : T} (h0 : st 0 [] = s0)
    (hb : ∀ (i : Nat) (e : α), l[i]? = some e → f (st i (l.take i)) = some (.inl (st (i + 1) (l.take i ++ [e]))))
    (he : f (st l.length l) = some (.inr a)) : loopC f s0 = some a := by subst h0; exact loop_pre l st hb he
def escW (m : Tapi_Marks) (t : List UInt8) : List UInt8 := t.flatMap fun b => if isM m b = true then [m.fEscape, b] else [b]
theorem escW_snoc (m : Tapi_Marks) (t : List UInt8) (b : UInt8) : escW m (t ++ [b]) = escW m t ++ (if isM m b = true then [m.fEscape, b] else [b]) := by simp [escW]
theorem escW_len (m : Tapi_Marks) : ∀ (t : List UInt8), (escW m t).length ≤ 2 * t.length
  | [] => by simp [escW]
  | b :: t => by
    have := escW_len m t
    have h : escW m (b :: t) = (if isM m b = true then [m.fEscape, b] else [b]) ++ escW m t := by simp [escW]
    rw [h, List.length_append, List.length_cons]
    split <;> simp <;> omega
/-- A mark that cannot be written. -/
def badB (m : Tapi_Marks) (n : Nat) : Bool := decide (m.fEscape.toNat = 0) && decide (0 < n)
theorem badB_add (m : Tapi_Marks) (a b : Nat) (bad : Bool) : (bad || badB m a || badB m b) = (bad || badB m (a + b)) := by
  unfold badB
  by_cases h : m.fEscape.toNat = 0 <;> by_cases ha : 0 < a <;> by_cases hb : 0 < b <;> simp [h, ha, hb] <;> omega
theorem w_text_ (m : Tapi_Marks) (lines : Bool) (b : List UInt8) (ps : List Twire_place) (ss : List Int) (bad : Bool) (t : List UInt8) (ht : t.length ≤ 1000) (hb : b.length ≤ 137438950000) :
    m_interchange_wire_writer_text ⟨m, lines, b, ps, ss, bad⟩ t = some ((), ⟨m, lines, b ++ escW m t, ps, ss, bad || badB m (cntT m t)⟩) := by
  unfold m_interchange_wire_writer_text sims_G4_1_1; dsimp only
  refine bind_loop (loop_pre0 (a := .inl (m, lines, b ++ escW m t, ps, ss, (bad || badB m (cntT m t)), ((t.length : Nat) : Int))) t (fun i pre => (m, lines, b ++ escW m pre, ps, ss, (bad || badB m (cntT m pre)), ((i : Nat) : Int))) ?_ (fun i e he => ?_) ?_) ?_
  · simp [escW, cntT, badB]
  · have hi := get_le he
    have hl := take_len he
    have h1 := escW_len m (t.take i)
    simp only [lt_dec hi, cond_true, getI_nat, he, Option.bind_some, w_isM, wrapN i (by omega), orO_some]
    simp (disch := (first | omega | (simp only [List.length_append, List.length_cons, List.length_nil]; omega))) only [thenO_ok]
    by_cases hm : isM m e = true
    · have hd : (bad || badB m (cntT m (t.take i)) || decide ((m.fEscape.toNat : Int) = 0)) = (bad || badB m (cntT m (t.take i) + 1)) := by
        rw [← badB_add]
        congr 1
        unfold badB
        by_cases hz : m.fEscape.toNat = 0 <;> simp [hz]
      simp only [hm, cond_true, hd]
      rw [escW_snoc, cntT_snoc, if_pos hm, if_pos hm]
      simp
    · rw [escW_snoc, cntT_snoc, if_neg hm, if_neg hm]
      simp only [Bool.not_eq_true] at hm
      simp only [hm, cond_false]
      simp
  · simp only [lt_dec_self, cond_false]; rfl
  · rfl
abbrev WrT := List UInt8 × List Twire_place × Bool
def wStep (m : Tapi_Marks) (seg : Int) (w : WrT) (p : Prt) : WrT := (w.1 ++ p.mark :: escW m p.t, w.2.1 ++ [⟨seg, p.sp, ((w.1.length + 1 : Nat) : Int), ((w.1.length + 1 + (escW m p.t).length : Nat) : Int)⟩], w.2.2 || badB m (cntT m p.t))
def wPts (m : Tapi_Marks) (seg : Int) (w : WrT) (l : List Prt) : WrT := l.foldl (wStep m seg) w
theorem wPts_append (m : Tapi_Marks) (seg : Int) (w : WrT) (l l2 : List Prt) : wPts m seg w (l ++ l2) = wPts m seg (wPts m seg w l) l2 := by simp [wPts]
def Bw (w : WrT) (k : Nat) : Prop := w.1.length ≤ 500010 + 2010 * k ∧ w.2.1.length ≤ 40000000 + k
theorem Bw.mono {w : WrT} {k k' : Nat} (h : Bw w k) (hk : k ≤ k') : Bw w k' := by
  obtain ⟨h1, h2⟩ := h; exact ⟨by omega, by omega⟩
theorem Bw.step {m : Tapi_Marks} {seg : Int} {w : WrT} {p : Prt} {k : Nat} (h : Bw w k) (hp : p.t.length ≤ 1000) : Bw (wStep m seg w p) (k + 1) := by
  obtain ⟨h1, h2⟩ := h
  have h4 := escW_len m p.t
  refine ⟨?_, ?_⟩ <;> simp only [wStep, List.length_append, List.length_cons, List.length_nil] <;> omega
theorem Bw.pts {m : Tapi_Marks} {seg : Int} : ∀ {l : List Prt} {w : WrT} {k : Nat}, Bw w k → TextsOK l → Bw (wPts m seg w l) (k + l.length)
  | [], w, k, h, _ => h
  | p :: l, w, k, h, ht => by
    have := Bw.pts (m := m) (seg := seg) (l := l) (h.step (m := m) (seg := seg) (ht p (by simp))) (fun q hq => ht q (by simp [hq]))
    rw [show k + (p :: l).length = k + 1 + l.length by simp; omega]
    exact this
abbrev WQ := List UInt8 × List Twire_place × List Int × Bool
def wIn (m : Tapi_Marks) (i : Nat) (w : WQ) (s : Tapi_Segment) : WrT := wPts m (i : Int) (w.1 ++ s.fTag, w.2.1, w.2.2.2) (ptsS m s)
def wSeg (m : Tapi_Marks) (lines : Bool) (i : Nat) (w : WQ) (s : Tapi_Segment) : WQ := ((wIn m i w s).1 ++ tailB m lines, (wIn m i w s).2.1, w.2.2.1 ++ [((w.1.length : Nat) : Int)], (wIn m i w s).2.2)
theorem w_segment (m : Tapi_Marks) (lines : Bool) (w : WQ) (i : Nat) (s : Tapi_Segment) (hs : segF s = 0) (hb : w.1.length ≤ 500000) (hp : w.2.1.length ≤ 40000000) (hss : w.2.2.1.length ≤ 3000) :
    m_interchange_wire_writer_segment ⟨m, lines, w.1, w.2.1, w.2.2.1, w.2.2.2⟩ (i : Int) s = some ((), ⟨m, lines, (wSeg m lines i w s).1, (wSeg m lines i w s).2.1, (wSeg m lines i w s).2.2.1, (wSeg m lines i w s).2.2.2⟩) := by
  obtain ⟨-, htl, -, hel, hes⟩ := seg_len hs
  unfold wSeg wIn
  unfold m_interchange_wire_writer_segment sims_G4_2_1; dsimp only
  simp (disch := (first | omega | (simp only [List.length_append, List.length_cons, List.length_nil]; omega))) only [thenO_ok]
  have hBh : Bw (w.1 ++ s.fTag, w.2.1, w.2.2.2) 0 := ⟨by simp only [List.length_append]; omega, by simp only; omega⟩
  generalize hw0 : ((w.1 ++ s.fTag, w.2.1, w.2.2.2) : WrT) = w0 at hBh ⊢
  have e1 : w.1 ++ s.fTag = w0.1 := by rw [← hw0]
  have e2 : w.2.1 = w0.2.1 := by rw [← hw0]
  have e3 : w.2.2.2 = w0.2.2 := by rw [← hw0]
  rw [e1, e2, e3]
  generalize w.2.2.1 ++ [((w.1.length : Nat) : Int)] = ss
  refine bind_loop (loop_pre (a := .inl (m, lines, (wPts m (i : Int) w0 (ptsS m s)).1, (wPts m (i : Int) w0 (ptsS m s)).2.1, ss, (wPts m (i : Int) w0 (ptsS m s)).2.2, ((s.fElements.length : Nat) : Int))) s.fElements
    (fun e pre => (m, lines, (wPts m (i : Int) w0 (ixMap (ptsE m) 0 pre)).1, (wPts m (i : Int) w0 (ixMap (ptsE m) 0 pre)).2.1, ss, (wPts m (i : Int) w0 (ixMap (ptsE m) 0 pre)).2.2, ((e : Nat) : Int))) (fun e x hxe => ?_) ?_) ?_
  · have he := get_le hxe
    have hell := take_len hxe
    have hpe : ∀ t ∈ s.fElements.take e, elemF t = 0 := fun t ht => hes t (mem_take ht)
    have hBe := (hBh.pts (m := m) (seg := (i : Int)) (tx_S (m := m) hpe)).mono (k' := e * 400) (by have := ln_S (m := m) hpe; rw [hell] at this; omega)
    rw [ixMap_snoc, wPts_append, hell]
    generalize hw1 : wPts m (i : Int) w0 (ixMap (ptsE m) 0 (s.fElements.take e)) = w1 at hBe ⊢
    obtain ⟨hrl, -, hrs⟩ := elem_len (hes x (List.mem_of_getElem? hxe))
    simp only [lt_dec he, cond_true, getI_nat, hxe, Option.bind_some, wrapN e (by omega)]
    refine bind_loop (loop_pre (a := .inl (m, lines, (wPts m (i : Int) w1 (ptsE m e x)).1, (wPts m (i : Int) w1 (ptsE m e x)).2.1, ss, (wPts m (i : Int) w1 (ptsE m e x)).2.2, pmark m x.fRepeats.length 0, ((x.fRepeats.length : Nat) : Int))) x.fRepeats
      (fun r pre => (m, lines, (wPts m (i : Int) w1 (ixMap (ptsR m e) 0 pre)).1, (wPts m (i : Int) w1 (ixMap (ptsR m e) 0 pre)).2.1, ss, (wPts m (i : Int) w1 (ixMap (ptsR m e) 0 pre)).2.2, pmark m r 0, ((r : Nat) : Int))) (fun r parts hpr => ?_) ?_) ?_
    · have hr := get_le hpr
      have hrll := take_len hpr
      have hpr' : ∀ t ∈ x.fRepeats.take r, repF t = 0 := fun t ht => hrs t (mem_take ht)
      have hBr := (hBe.pts (m := m) (seg := (i : Int)) (tx_E (m := m) (e := e) hpr')).mono (k' := e * 400 + r * 20) (by have := ln_E (m := m) (e := e) hpr'; rw [hrll] at this; omega)
      rw [ixMap_snoc, wPts_append, hrll]
      generalize hw2 : wPts m (i : Int) w1 (ixMap (ptsR m e) 0 (x.fRepeats.take r)) = w2 at hBr ⊢
      obtain ⟨hpl, -, hps⟩ := rep_len (hrs parts (List.mem_of_getElem? hpr))
      simp only [lt_dec hr, cond_true, getI_nat, hpr, Option.bind_some, wrapN r (by omega)]
      refine bind_loop (loop_pre (a := .inl (m, lines, (wPts m (i : Int) w2 (ptsR m e r parts)).1, (wPts m (i : Int) w2 (ptsR m e r parts)).2.1, ss, (wPts m (i : Int) w2 (ptsR m e r parts)).2.2, pmark m r parts.length, ((parts.length : Nat) : Int))) parts
        (fun p pre => (m, lines, (wPts m (i : Int) w2 (ixMap (ptsP m e r) 0 pre)).1, (wPts m (i : Int) w2 (ixMap (ptsP m e r) 0 pre)).2.1, ss, (wPts m (i : Int) w2 (ixMap (ptsP m e r) 0 pre)).2.2, pmark m r p, ((p : Nat) : Int))) (fun p t htp => ?_) ?_) ?_
      · have hp := get_le htp
        have hpll := take_len htp
        have hpt : ∀ t ∈ parts.take p, textF t = 0 := fun t ht => hps t (mem_take ht)
        have hBp := (hBr.pts (m := m) (seg := (i : Int)) (tx_R (m := m) (e := e) (r := r) hpt)).mono (k' := e * 400 + r * 20 + p) (by have := ln_R (m := m) (e := e) (r := r) (l := parts.take p); rw [hpll] at this; omega)
        rw [ixMap_snoc, wPts_append, hpll]
        generalize hw3 : wPts m (i : Int) w2 (ixMap (ptsP m e r) 0 (parts.take p)) = w3 at hBp ⊢
        obtain ⟨c1, c2⟩ := hBp
        have htl := text_len (hps t (List.mem_of_getElem? htp))
        simp only [lt_dec hp, cond_true, getI_nat, htp, Option.bind_some, wrapN p (by omega), wrapN r (by omega), wrapN e (by omega)]
        rw [thenO_ok (by simp only [List.length_cons, List.length_nil]; omega)]
        rw [w_text_ m lines (w3.1 ++ [pmark m r p]) w3.2.1 ss w3.2.2 t htl (by simp only [List.length_append, List.length_cons, List.length_nil]; omega)]
        simp only [Option.bind_some]
        rw [thenO_ok (by omega)]
        have e4 : wPts m (i : Int) w3 (ptsP m e r p t) = wStep m (i : Int) w3 ⟨spotOf e r p, pmark m r p, t⟩ := rfl
        rw [e4]
        unfold wStep
        simp only [spotOf, List.append_assoc, List.cons_append, List.nil_append, List.length_append, List.length_cons, List.length_nil]
        have e5 : w3.1.length + (0 + 1) = w3.1.length + 1 := by omega
        have e6 : w3.1.length + ((escW m t).length + 1) = w3.1.length + 1 + (escW m t).length := by omega
        rw [e6]
        rfl
      · simp only [lt_dec_self, cond_false]; rfl
      · rfl
    · simp only [lt_dec_self, cond_false]; rfl
    · rfl
  · simp only [lt_dec_self, cond_false]; rfl
  · have hBs := hBh.pts (m := m) (seg := (i : Int)) (l := ptsS m s) (tx_S hes)
    have h4 := ln_S (m := m) hes
    have hBs := hBs.mono (k' := 20000) (by unfold ptsS; omega)
    simp only [outK]
    generalize wPts m (i : Int) w0 (ptsS m s) = w1 at hBs ⊢
    obtain ⟨c1, c2⟩ := hBs
    simp (disch := (first | omega | (simp only [List.length_append, List.length_cons, List.length_nil]; omega))) only [thenO_ok]
    cases lines with
    | true => simp [tailB]
    | false => simp [tailB]
/-! ### All segments -/
def wNext (m : Tapi_Marks) (lines : Bool) (i : Nat) (w : WQ) (s : Tapi_Segment) : WQ := if w.1.length ≤ 500000 then wSeg m lines i w s else (w.1, w.2.1, w.2.2.1, w.2.2.2 || badB m (cntS m s))
def wSegs (m : Tapi_Marks) (lines : Bool) : Nat → WQ → List Tapi_Segment → WQ
  | _, w, [] => w
  | i, w, s :: l => wSegs m lines (i + 1) (wNext m lines i w s) l
theorem wSegs_snoc (m : Tapi_Marks) (lines : Bool) : ∀ (l : List Tapi_Segment) (i : Nat) (w : WQ) (s : Tapi_Segment), wSegs m lines i w (l ++ [s]) = wNext m lines (i + l.length) (wSegs m lines i w l) s
  | [], i, w, s => rfl
  | x :: l, i, w, s => by
    simp only [List.cons_append, wSegs, wSegs_snoc m lines l (i + 1), List.length_cons]
    rw [show i + 1 + l.length = i + (l.length + 1) by omega]
theorem wPts_len (m : Tapi_Marks) (seg : Int) : ∀ (l : List Prt) (w : WrT), (wPts m seg w l).2.1.length = w.2.1.length + l.length
  | [], w => rfl
  | p :: l, w => by
    have := wPts_len m seg l (wStep m seg w p)
    simp only [wPts, List.foldl_cons] at this ⊢
    rw [this]; simp [wStep]; omega
theorem wNext_len {m : Tapi_Marks} {lines : Bool} {i : Nat} {w : WQ} {s : Tapi_Segment} (hs : segF s = 0) : (wNext m lines i w s).2.1.length ≤ w.2.1.length + 20000 ∧ (wNext m lines i w s).2.2.1.length ≤ w.2.2.1.length + 1 := by
  unfold wNext
  split
  · obtain ⟨-, -, -, h2, h3⟩ := seg_len hs
    have h4 := ln_S (m := m) h3
    simp only [wSeg, wIn, wPts_len, List.length_append, List.length_cons, List.length_nil, ptsS]
    omega
  · exact ⟨by simp only; omega, by simp only; omega⟩
theorem wSegs_len {m : Tapi_Marks} {lines : Bool} : ∀ {l : List Tapi_Segment} {i : Nat} {w : WQ}, (∀ s ∈ l, segF s = 0) → (wSegs m lines i w l).2.1.length ≤ w.2.1.length + l.length * 20000 ∧ (wSegs m lines i w l).2.2.1.length ≤ w.2.2.1.length + l.length
  | [], i, w, _ => by simp [wSegs]
  | s :: l, i, w, h => by
    have h1 := wNext_len (m := m) (lines := lines) (i := i) (w := w) (h s (by simp))
    have h2 := wSegs_len (m := m) (lines := lines) (l := l) (i := i + 1) (w := wNext m lines i w s) fun x hx => h x (by simp [hx])
    simp only [wSegs, List.length_cons]
    omega
def w0 : WQ := ([], [], [], false)
/-- What it writes, and the fault. -/
def writF (l : List Tapi_Segment) (m : Tapi_Marks) (lines : Bool) : Option Twire_writer × Int :=
  if bothF l m ≠ 0 then (none, bothF l m) else if (wSegs m lines 0 w0 l).2.2.2 = true then (none, 3) else if 500000 < (wSegs m lines 0 w0 l).1.length then (none, 2) else
  (some ⟨m, lines, (wSegs m lines 0 w0 l).1, (wSegs m lines 0 w0 l).2.1, (wSegs m lines 0 w0 l).2.2.1, (wSegs m lines 0 w0 l).2.2.2⟩, 0)
theorem w_written (l : List Tapi_Segment) (m : Tapi_Marks) (lines : Bool) (ht : TagsShort l) : m_wire_written l m lines 500000 = some (writF l m lines) := by
  unfold m_wire_written sims_G4_3_0; dsimp only
  unfold writF
  simp only [w_both l m ht, Option.bind_some]
  by_cases h : bothF l m = 0
  · rw [if_neg (fun e => e h)]
    simp only [h, decide_true, Bool.not_true, cond_false]
    have hseg : segsF l = 0 := by
      unfold bothF at h
      split at h
      · assumption
      · rename_i h1; exact absurd h h1
    obtain ⟨hl, hs⟩ := segs_len hseg
    refine bind_loop (loop_pre (a := .inl (m, lines, (wSegs m lines 0 w0 l).1, (wSegs m lines 0 w0 l).2.1, (wSegs m lines 0 w0 l).2.2.1, (wSegs m lines 0 w0 l).2.2.2, ((l.length : Nat) : Int))) l
      (fun i pre => (m, lines, (wSegs m lines 0 w0 pre).1, (wSegs m lines 0 w0 pre).2.1, (wSegs m lines 0 w0 pre).2.2.1, (wSegs m lines 0 w0 pre).2.2.2, ((i : Nat) : Int))) (fun i s hsi => ?_) ?_) ?_
    · have hi := get_le hsi
      have hil := take_len hsi
      have hsg := hs s (List.mem_of_getElem? hsi)
      have hlen := wSegs_len (m := m) (lines := lines) (i := 0) (w := w0) (l := l.take i) fun s hs' => hs s (mem_take hs')
      rw [hil] at hlen
      rw [wSegs_snoc, hil, Nat.zero_add]
      generalize hw : wSegs m lines 0 w0 (l.take i) = w at hlen ⊢
      simp only [w0, List.length_nil, Nat.zero_add] at hlen
      simp only [lt_dec hi, cond_true, getI_nat, hsi, Option.bind_some, wrapN i (by omega)]
      unfold wNext
      by_cases hb : w.1.length ≤ 500000
      · have d : decide ((w.1.length : Int) ≤ 500000) = true := decide_eq_true (by omega)
        rw [if_pos hb]
        simp only [d, cond_true]
        have := w_segment m lines w i s hsg hb (by omega) (by omega)
        rw [this]
        rfl
      · have d : decide ((w.1.length : Int) ≤ 500000) = false := decide_eq_false (by omega)
        rw [if_neg hb]
        simp only [d, cond_false]
        obtain ⟨-, -, -, hel, hes⟩ := seg_len hsg
        refine bind_loop (loop_pre0 (a := .inl (m, lines, w.1, w.2.1, w.2.2.1, (w.2.2.2 || badB m (cntS m s)), ((s.fElements.length : Nat) : Int))) s.fElements
          (fun e pre => (m, lines, w.1, w.2.1, w.2.2.1, (w.2.2.2 || badB m ((pre.map (cntE m)).sum)), ((e : Nat) : Int))) ?_ (fun e x hxe => ?_) ?_) ?_
        · simp [badB]
        · have he := get_le hxe
          obtain ⟨hrl, -, hrs⟩ := elem_len (hes x (List.mem_of_getElem? hxe))
          rw [sum_take hxe, ← badB_add]
          generalize (w.2.2.2 || badB m (((s.fElements.take e).map (cntE m)).sum)) = bad
          simp only [lt_dec he, cond_true, getI_nat, hxe, Option.bind_some, wrapN e (by omega)]
          refine bind_loop (loop_pre0 (a := .inl (m, lines, w.1, w.2.1, w.2.2.1, (bad || badB m (cntE m x)), ((x.fRepeats.length : Nat) : Int))) x.fRepeats
            (fun r pre => (m, lines, w.1, w.2.1, w.2.2.1, (bad || badB m ((pre.map (cntR m)).sum)), ((r : Nat) : Int))) ?_ (fun r parts hpr => ?_) ?_) ?_
          · simp [badB]
          · have hr := get_le hpr
            obtain ⟨hpl, -, hps⟩ := rep_len (hrs parts (List.mem_of_getElem? hpr))
            rw [sum_take hpr, ← badB_add]
            generalize (bad || badB m (((x.fRepeats.take r).map (cntR m)).sum)) = bad2
            have hc := containsFunc_str parts 91 [DV.ptr (rTapi_Marks m)] (fun a0 => m_wire_written_1 a0 m) (fun a0 r h => spec_wire_written_1 a0 m r h) (fun t => decide (0 < cntT m t)) (fun t ht => by
              have htl := text_len (hps t ht)
              unfold m_wire_written_1 sims_G4_1_0; dsimp only
              rw [w_needed m t (by omega)]
              simp only [Option.bind_some]
              congr 1
              simp) (by omega)
            simp only [lt_dec hr, cond_true, getI_nat, hpr, Option.bind_some, wrapN r (by omega), andO_some, orO_some]
            rw [hc]
            simp only [Option.bind_some, andO_some, orO_some]
            have e4 : (bad2 || (decide ((m.fEscape.toNat : Int) = 0) && parts.any fun t => decide (0 < cntT m t))) = (bad2 || badB m (cntR m parts)) := by
              unfold badB cntR
              rw [sum_pos]
              congr 2
              congr 1
              apply propext
              omega
            rw [e4]
          · simp only [lt_dec_self, cond_false]; rfl
          · rfl
        · simp only [lt_dec_self, cond_false]; rfl
        · rfl
    · simp only [lt_dec_self, cond_false]; rfl
    · simp only [outK]
      generalize wSegs m lines 0 w0 l = w
      cases hbad : w.2.2.2 with
      | true => rfl
      | false =>
        simp only [cond_false, Bool.false_eq_true, if_false]
        by_cases hb : 500000 < w.1.length
        · have d : decide ((500000 : Int) < (w.1.length : Int)) = true := decide_eq_true (by omega)
          rw [if_pos hb]; simp only [d, cond_true]
        · have d : decide ((500000 : Int) < (w.1.length : Int)) = false := decide_eq_false (by omega)
          rw [if_neg hb]; simp only [d, cond_false]
  · rw [if_pos h]
    simp only [h, decide_false, Bool.not_false, cond_true]
end Go.Proofs.YteilhjdpbjgdpaaDoor

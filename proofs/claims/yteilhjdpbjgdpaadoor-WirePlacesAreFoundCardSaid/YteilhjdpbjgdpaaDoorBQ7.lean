/-
  Plain laws of the wire: what the reference writes.
-/
import Derived.Test.YteilhjdpbjgdpaaDoorBQ6
namespace Go.Proofs.YteilhjdpbjgdpaaDoor
set_option linter.unusedSimpArgs false
set_option linter.unusedVariables false
open Go.RowKit

/-- A part with its mark and its place. -/
structure Prt where
  sp : Tapi_Spot
  mark : UInt8
  t : List UInt8
def escR (m : Tapi_Marks) (t : List UInt8) : List UInt8 := t.flatMap fun b => if isM m b = true ∧ m.fEscape.toNat ≠ 0 then [m.fEscape, b] else [b]
theorem escR_len (m : Tapi_Marks) : ∀ (t : List UInt8), (escR m t).length ≤ 2 * t.length
  | [] => by simp [escR]
  | b :: t => by
    have := escR_len m t
    have h : escR m (b :: t) = (if isM m b = true ∧ m.fEscape.toNat ≠ 0 then [m.fEscape, b] else [b]) ++ escR m t := by simp [escR]
    rw [h, List.length_append, List.length_cons]
    split <;> simp <;> omega
theorem cntT_snoc (m : Tapi_Marks) (t : List UInt8) (b : UInt8) : cntT m (t ++ [b]) = cntT m t + (if isM m b = true then 1 else 0) := by simp [cntT, List.countP_append, List.countP_singleton]
abbrev RT := List UInt8 × List Tinterchangeref2_piece × Nat
def rStep (m : Tapi_Marks) (seg : Int) (w : RT) (p : Prt) : RT := (w.1 ++ p.mark :: escR m p.t, w.2.1 ++ [⟨seg, p.sp, ((w.1.length : Nat) : Int), ((w.1.length + 1 : Nat) : Int), ((w.1.length + 1 + (escR m p.t).length : Nat) : Int)⟩], w.2.2 + cntT m p.t)
/-! ### The parts of a segment, in order -/
def pmark (m : Tapi_Marks) (r p : Nat) : UInt8 := if 0 < p then m.fPart else if 0 < r then m.fRepeat else m.fElement
def spotOf (e r p : Nat) : Tapi_Spot := ⟨((e + 1 : Nat) : Int), ((r + 1 : Nat) : Int), ((p + 1 : Nat) : Int)⟩
def ptsP (m : Tapi_Marks) (e r : Nat) : Nat → List UInt8 → List Prt := fun p t => [⟨spotOf e r p, pmark m r p, t⟩]
def ptsR (m : Tapi_Marks) (e : Nat) : Nat → List (List UInt8) → List Prt := fun r l => ixMap (ptsP m e r) 0 l
def ptsE (m : Tapi_Marks) : Nat → Tapi_Element → List Prt := fun e x => ixMap (ptsR m e) 0 x.fRepeats
def ptsS (m : Tapi_Marks) (s : Tapi_Segment) : List Prt := ixMap (ptsE m) 0 s.fElements
def TextsOK (l : List Prt) : Prop := ∀ p ∈ l, p.t.length ≤ 1000
theorem tx_R {m : Tapi_Marks} {e r : Nat} {l : List (List UInt8)} (h : ∀ t ∈ l, textF t = 0) : TextsOK (ixMap (ptsP m e r) 0 l) := ixMap_all fun i t ht y hy => by
  simp only [ptsP, List.mem_singleton] at hy; subst hy; exact text_len (h t ht)
theorem tx_E {m : Tapi_Marks} {e : Nat} {l : List (List (List UInt8))} (h : ∀ t ∈ l, repF t = 0) : TextsOK (ixMap (ptsR m e) 0 l) := ixMap_all fun i t ht y hy => tx_R (rep_len (h t ht)).2.2 y hy
theorem tx_S {m : Tapi_Marks} {l : List Tapi_Element} (h : ∀ t ∈ l, elemF t = 0) : TextsOK (ixMap (ptsE m) 0 l) := ixMap_all fun i t ht y hy => tx_E (elem_len (h t ht)).2.2 y hy
theorem ln_R {m : Tapi_Marks} {e r : Nat} {l : List (List UInt8)} : (ixMap (ptsP m e r) 0 l).length ≤ l.length := by
  have := ixMap_len (f := ptsP m e r) (b := 1) l 0 (fun i t ht => by simp [ptsP])
  omega
theorem ln_E {m : Tapi_Marks} {e : Nat} {l : List (List (List UInt8))} (h : ∀ t ∈ l, repF t = 0) : (ixMap (ptsR m e) 0 l).length ≤ l.length * 20 := ixMap_len l 0 fun i t ht => Nat.le_trans ln_R (rep_len (h t ht)).1
theorem ln_S {m : Tapi_Marks} {l : List Tapi_Element} (h : ∀ t ∈ l, elemF t = 0) : (ixMap (ptsE m) 0 l).length ≤ l.length * 400 := ixMap_len l 0 fun i t ht => by
  have h1 := elem_len (h t ht)
  have h2 := ln_E (m := m) (e := i) h1.2.2
  unfold ptsE
  omega
/-! ### The reference's writer -/
def rPts (m : Tapi_Marks) (seg : Int) (w : RT) (l : List Prt) : RT := l.foldl (rStep m seg) w
def rHead (w : RT) (i : Nat) (s : Tapi_Segment) : RT := (w.1 ++ s.fTag, w.2.1 ++ [⟨((i : Nat) : Int), ⟨0, 0, 0⟩, ((w.1.length : Nat) : Int), ((w.1.length : Nat) : Int), ((w.1.length + s.fTag.length : Nat) : Int)⟩], w.2.2)
def tailB (m : Tapi_Marks) (lines : Bool) : List UInt8 := bif lines then [m.fEnd, 10] else [m.fEnd]
def rSeg (m : Tapi_Marks) (lines : Bool) (i : Nat) (w : RT) (s : Tapi_Segment) : RT := ((rPts m (i : Int) (rHead w i s) (ptsS m s)).1 ++ tailB m lines, (rPts m (i : Int) (rHead w i s) (ptsS m s)).2)
def rSegs (m : Tapi_Marks) (lines : Bool) : Nat → RT → List Tapi_Segment → RT
  | _, w, [] => w
  | i, w, s :: l => rSegs m lines (i + 1) (rSeg m lines i w s) l
def Bd (w : RT) (k : Nat) : Prop := w.1.length ≤ 2010 * k ∧ w.2.1.length ≤ k ∧ w.2.2 ≤ 1000 * k
theorem Bd.mono {w : RT} {k k' : Nat} (h : Bd w k) (hk : k ≤ k') : Bd w k' := by
  obtain ⟨h1, h2, h3⟩ := h; exact ⟨by omega, by omega, by omega⟩
theorem Bd.step {m : Tapi_Marks} {seg : Int} {w : RT} {p : Prt} {k : Nat} (h : Bd w k) (hp : p.t.length ≤ 1000) : Bd (rStep m seg w p) (k + 1) := by
  obtain ⟨h1, h2, h3⟩ := h
  have h4 := escR_len m p.t
  have h5 := cntT_le m p.t
  refine ⟨?_, ?_, ?_⟩ <;> simp only [rStep, List.length_append, List.length_cons, List.length_nil] <;> omega
theorem Bd.pts {m : Tapi_Marks} {seg : Int} : ∀ {l : List Prt} {w : RT} {k : Nat}, Bd w k → TextsOK l → Bd (rPts m seg w l) (k + l.length)
  | [], w, k, h, _ => h
  | p :: l, w, k, h, ht => by
    have := Bd.pts (m := m) (seg := seg) (l := l) (h.step (m := m) (seg := seg) (ht p (by simp))) (fun q hq => ht q (by simp [hq]))
    rw [show k + (p :: l).length = k + 1 + l.length by simp; omega]
    exact this
theorem Bd.head {w : RT} {k i : Nat} {s : Tapi_Segment} (h : Bd w k) (hs : s.fTag.length ≤ 6) : Bd (rHead w i s) (k + 1) := by
  obtain ⟨h1, h2, h3⟩ := h
  refine ⟨?_, ?_, ?_⟩ <;> simp only [rHead, List.length_append, List.length_cons, List.length_nil] <;> omega
theorem Bd.tail {w : RT} {k : Nat} {m : Tapi_Marks} {lines : Bool} (h : Bd w k) : Bd (w.1 ++ tailB m lines, w.2) (k + 1) := by
  obtain ⟨h1, h2, h3⟩ := h
  refine ⟨?_, by simp only; omega, by simp only; omega⟩
  simp only [List.length_append]
  cases lines <;> simp [tailB] <;> omega
theorem Bd.seg {w : RT} {k i : Nat} {m : Tapi_Marks} {lines : Bool} {s : Tapi_Segment} (h : Bd w k) (hs : segF s = 0) : Bd (rSeg m lines i w s) (k + 20002) := by
  obtain ⟨-, h1, -, h2, h3⟩ := seg_len hs
  have h4 := ln_S (m := m) h3
  have := ((h.head (i := i) h1).pts (m := m) (seg := (i : Int)) (l := ptsS m s) (tx_S h3)).tail (m := m) (lines := lines)
  refine this.mono ?_
  unfold ptsS
  omega
theorem Bd.segs {m : Tapi_Marks} {lines : Bool} : ∀ {l : List Tapi_Segment} {i : Nat} {w : RT} {k : Nat}, Bd w k → (∀ s ∈ l, segF s = 0) → Bd (rSegs m lines i w l) (k + l.length * 20002)
  | [], i, w, k, h, _ => by simpa [rSegs] using h
  | s :: l, i, w, k, h, hs => by
    have := Bd.segs (m := m) (lines := lines) (l := l) (i := i + 1) (h.seg (i := i) (m := m) (lines := lines) (hs s (by simp))) (fun x hx => hs x (by simp [hx]))
    refine this.mono ?_
    simp only [List.length_cons]; omega
end Go.Proofs.YteilhjdpbjgdpaaDoor

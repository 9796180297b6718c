/-
  Plain laws of the wire: headings.
-/
import Derived.Test.YteilhjdpbjgdpaaDoorQ8
import Derived.Test.YteilhjdpbjgdpaaDoorG11
namespace Go.Proofs.YteilhjdpbjgdpaaDoor
set_option linter.unusedSimpArgs false
set_option linter.unusedVariables false
open Go.RowKit

def noM : Tapi_Marks := ⟨0, 0, 0, 0, 0⟩
theorem w_Heading (m : Tapi_Marks) : m_wire_Heading m = some (if marksF m = 0 then (hbytes m, 0) else ([], marksF m)) := by
  unfold m_wire_Heading
  rw [w_marks]
  simp only [Option.bind_some]
  by_cases h : marksF m = 0 <;> simp [h]
theorem r_Heading (m : Tapi_Marks) : m_interchangeref2_Heading m = some (if marksF m = 0 then (hbytes m, 0) else ([], marksF m)) := by
  have hh : m_interchangeref2_heading m = some (hbytes m) := by
    unfold m_interchangeref2_heading sims_G11_0_0; dsimp only
    unfold hbytes
    by_cases h : m.fEscape.toNat = 0
    · have h2 : m.fEscape = 0 := UInt8.toNat_inj.1 (by simpa using h)
      have d : decide ((m.fEscape.toNat : Int) = 0) = true := decide_eq_true (by omega)
      simp only [d, cond_true, h2, if_true]
      rfl
    · have h2 : m.fEscape ≠ 0 := fun e => h (by rw [e]; rfl)
      have d : decide ((m.fEscape.toNat : Int) = 0) = false := decide_eq_false (by omega)
      simp only [d, cond_false, if_neg h2]
      rfl
  unfold m_interchangeref2_Heading sims_G11_1_0; dsimp only
  rw [r_marks]
  simp only [Option.bind_some, hh]
  by_cases h : marksF m = 0 <;> simp [h]
/-- The place at which the bytes are no heading. -/
def headF : List UInt8 → List UInt8 → Nat → Option Int
  | [], _, _ => none
  | _ :: _, [], i => some (i : Int)
  | c :: cs, b :: bs, i => if b = c then headF cs bs (i + 1) else some (i : Int)
def readF (b : List UInt8) : Tapi_Marks × Int × Int :=
  match headF [77, 82, 75] b 0 with
  | some i => (noM, i, 10)
  | none => match b with
    | [_, _, _, a, p, r, e, z] => mk a p r e z
    | _ :: _ :: _ :: a :: p :: r :: e :: z :: _ => mk a p r e z
    | b => (noM, (b.length : Int), 10)
where mk (a p r e z : UInt8) : Tapi_Marks × Int × Int :=
  if e = 0 then (noM, 3, 3) else if marksF ⟨a, p, r, if e = 32 then 0 else e, z⟩ = 0 then (⟨a, p, r, if e = 32 then 0 else e, z⟩, 0, 0) else (noM, 3, marksF ⟨a, p, r, if e = 32 then 0 else e, z⟩)
theorem byte_eq (a c : UInt8) : decide ((a.toNat : Int) = (c.toNat : Int)) = decide (a = c) := by
  congr 1
  apply propext
  exact ⟨fun h => UInt8.toNat_inj.1 (by omega), fun h => by rw [h]⟩
theorem mk_eq (a p r e z : UInt8) (f : Tapi_Marks → Option Int) (hf : ∀ m, f m = some (marksF m)) :
    (bif decide ((e.toNat : Int) = 32) then (f ⟨a, p, r, UInt8.ofNat (Int.toNat 0), z⟩).bind fun x => bif !decide (x = 0) then some ((⟨UInt8.ofNat (Int.toNat 0), UInt8.ofNat (Int.toNat 0), UInt8.ofNat (Int.toNat 0), UInt8.ofNat (Int.toNat 0), UInt8.ofNat (Int.toNat 0)⟩ : Tapi_Marks), (3 : Int), x) else some (⟨a, p, r, UInt8.ofNat (Int.toNat 0), z⟩, 0, 0)
      else (f ⟨a, p, r, e, z⟩).bind fun x => bif !decide (x = 0) then some ((⟨UInt8.ofNat (Int.toNat 0), UInt8.ofNat (Int.toNat 0), UInt8.ofNat (Int.toNat 0), UInt8.ofNat (Int.toNat 0), UInt8.ofNat (Int.toNat 0)⟩ : Tapi_Marks), (3 : Int), x) else some (⟨a, p, r, e, z⟩, 0, 0)) =
    some (if marksF ⟨a, p, r, if e = 32 then 0 else e, z⟩ = 0 then (⟨a, p, r, if e = 32 then 0 else e, z⟩, 0, 0) else (noM, 3, marksF ⟨a, p, r, if e = 32 then 0 else e, z⟩)) := by
  have z0 : UInt8.ofNat (Int.toNat 0) = 0 := rfl
  simp only [hf, Option.bind_some, z0]
  have h32 : decide ((e.toNat : Int) = 32) = decide (e = 32) := byte_eq e 32
  rw [h32]
  by_cases h : e = 32
  · simp only [h, decide_true, cond_true, if_true]
    by_cases hm : marksF ⟨a, p, r, 0, z⟩ = 0 <;> simp [hm, noM]
  · simp only [h, decide_false, cond_false, if_false]
    by_cases hm : marksF ⟨a, p, r, e, z⟩ = 0 <;> simp [hm, noM]
theorem zero_eq (e : UInt8) : decide ((e.toNat : Int) = 0) = decide (e = 0) := byte_eq e 0
/-- The loop over the first three bytes. -/
theorem loop_head {f : Tapi_Marks × Int → Option (Tapi_Marks × Int ⊕ (Tapi_Marks × Int ⊕ (Tapi_Marks × Int × Int)))} (b : List UInt8) (m : Tapi_Marks)
    (hb : ∀ (i : Nat), i < 3 → f (m, (i : Int)) = (match b[i]? with | none => some (.inr (.inr (noM, (i : Int), 10))) | some x => if some x = ([77, 82, 75] : List UInt8)[i]? then some (.inl (m, ((i + 1 : Nat) : Int))) else some (.inr (.inr (noM, (i : Int), 10)))))
    (he : f (m, 3) = some (.inr (.inl (m, 3)))) : loopC f (m, 0) = some (match headF [77, 82, 75] b 0 with | some i => .inr (noM, i, 10) | none => .inl (m, 3)) := by
  have h0 := hb 0 (by omega)
  have h1 := hb 1 (by omega)
  have h2 := hb 2 (by omega)
  have e0 : f (m, 0) = f (m, ((0 : Nat) : Int)) := rfl
  rw [loopC_eq, e0, h0]
  cases b with
  | nil => simp [headF]
  | cons x b =>
    simp only [List.getElem?_cons_zero, Option.some.injEq, headF]
    by_cases hx : x = 77
    · simp only [hx, if_true]
      rw [loopC_eq, h1]
      cases b with
      | nil => simp [headF]
      | cons y b =>
        simp only [List.getElem?_cons_succ, List.getElem?_cons_zero, Option.some.injEq, headF]
        by_cases hy : y = 82
        · simp only [hy, if_true]
          rw [loopC_eq, h2]
          cases b with
          | nil => simp [headF]
          | cons z b =>
            simp only [List.getElem?_cons_succ, List.getElem?_cons_zero, Option.some.injEq, headF]
            by_cases hz : z = 75
            · simp only [hz, if_true]
              have e3 : f (m, ((2 + 1 : Nat) : Int)) = some (.inr (.inl (m, 3))) := he
              rw [loopC_eq, e3]
            · simp only [hz, if_false]; try rfl
        · simp only [hy, if_false]; try rfl
    · simp only [hx, if_false]; try rfl
theorem readF_long {b : List UInt8} {a0 a1 a2 a p r e z : UInt8} {t : List UInt8} (hb : b = a0 :: a1 :: a2 :: a :: p :: r :: e :: z :: t) (h : headF [77, 82, 75] b 0 = none) : readF b = readF.mk a p r e z := by
  unfold readF
  rw [h]
  subst hb
  cases t <;> rfl
theorem readF_short {b : List UInt8} (hb : b.length < 8) (h : headF [77, 82, 75] b 0 = none) : readF b = (noM, (b.length : Int), 10) := by
  unfold readF
  rw [h]
  match b, hb with
  | [], _ => rfl
  | [_], _ => rfl
  | [_, _], _ => rfl
  | [_, _, _], _ => rfl
  | [_, _, _, _], _ => rfl
  | [_, _, _, _, _], _ => rfl
  | [_, _, _, _, _, _], _ => rfl
  | [_, _, _, _, _, _, _], _ => rfl
  | _ :: _ :: _ :: _ :: _ :: _ :: _ :: _ :: t, hb => simp at hb; omega
theorem long_eq {b : List UInt8} (hb : ¬ b.length < 8) : ∃ a0 a1 a2 a p r e z t, b = a0 :: a1 :: a2 :: a :: p :: r :: e :: z :: t := by
  match b, hb with
  | [], hb => simp at hb
  | [_], hb => simp at hb
  | [_, _], hb => simp at hb
  | [_, _, _], hb => simp at hb
  | [_, _, _, _], hb => simp at hb
  | [_, _, _, _, _], hb => simp at hb
  | [_, _, _, _, _, _], hb => simp at hb
  | [_, _, _, _, _, _, _], hb => simp at hb
  | a0 :: a1 :: a2 :: a :: p :: r :: e :: z :: t, _ => exact ⟨a0, a1, a2, a, p, r, e, z, t, rfl⟩
theorem w_Read (b : List UInt8) (hl : b.length ≤ 9223372036854775807) : m_wire_ReadHeading b = some (readF b) := by
  unfold m_wire_ReadHeading sims_G11_1_0; dsimp only
  refine bind_loop (loop_head b ⟨UInt8.ofNat (Int.toNat 0), UInt8.ofNat (Int.toNat 0), UInt8.ofNat (Int.toNat 0), UInt8.ofNat (Int.toNat 0), UInt8.ofNat (Int.toNat 0)⟩ (fun i hi => ?_) ?_) ?_
  · have d3 : decide ((i : Int) < 3) = true := decide_eq_true (by omega)
    obtain ⟨c, hc⟩ := get_lt (l := ([77, 82, 75] : List UInt8)) (i := i) hi
    cases hbi : b[i]? with
    | none =>
      have hlen : b.length ≤ i := List.getElem?_eq_none_iff.1 hbi
      have d : decide ((b.length : Int) ≤ (i : Int)) = true := decide_eq_true (by omega)
      simp only [d3, cond_true, d, orO, Option.bind_some]
      rfl
    | some x =>
      have hlen := get_le hbi
      have d : decide ((b.length : Int) ≤ (i : Int)) = false := decide_eq_false (by omega)
      simp only [d3, cond_true, d, orO, cond_false, getI_nat, hbi, hc, Option.bind_some, byte_eq, wrapN i (by omega), Option.some.injEq]
      by_cases hx : x = c
      · simp only [hx, decide_true, Bool.not_true, cond_false, if_true]
      · simp only [hx, decide_false, Bool.not_false, cond_true, if_false]
        rfl
  · rfl
  · cases hh : headF [77, 82, 75] b 0 with
    | some i =>
      simp only [outK]
      unfold readF
      rw [hh]
    | none =>
      simp only [outK]
      by_cases h8 : b.length < 8
      · have d : decide ((b.length : Int) < 8) = true := decide_eq_true (by omega)
        rw [readF_short h8 hh]
        simp only [d, cond_true]
        rfl
      · have d : decide ((b.length : Int) < 8) = false := decide_eq_false (by omega)
        obtain ⟨a0, a1, a2, a, p, r, e, z, t, rfl⟩ := long_eq h8
        rw [readF_long rfl hh]
        have g3 : getI (a0 :: a1 :: a2 :: a :: p :: r :: e :: z :: t) 3 = some a := rfl
        have g4 : getI (a0 :: a1 :: a2 :: a :: p :: r :: e :: z :: t) 4 = some p := rfl
        have g5 : getI (a0 :: a1 :: a2 :: a :: p :: r :: e :: z :: t) 5 = some r := rfl
        have g6 : getI (a0 :: a1 :: a2 :: a :: p :: r :: e :: z :: t) 6 = some e := rfl
        have g7 : getI (a0 :: a1 :: a2 :: a :: p :: r :: e :: z :: t) 7 = some z := rfl
        simp only [d, cond_false, g3, g4, g5, g6, g7, Option.bind_some, zero_eq]
        unfold readF.mk
        by_cases he : e = 0
        · simp only [he, decide_true, cond_true, if_true]
          rfl
        · simp only [he, decide_false, cond_false, if_false]
          exact mk_eq a p r e z m_wire_CheckMarks w_marks
theorem r_Read (b : List UInt8) (hl : b.length ≤ 9223372036854775807) : m_interchangeref2_ReadHeading b = some (readF b) := by
  unfold m_interchangeref2_ReadHeading sims_G11_1_0; dsimp only
  refine bind_loop (loop_head b ⟨UInt8.ofNat (Int.toNat 0), UInt8.ofNat (Int.toNat 0), UInt8.ofNat (Int.toNat 0), UInt8.ofNat (Int.toNat 0), UInt8.ofNat (Int.toNat 0)⟩ (fun i hi => ?_) ?_) ?_
  · have d3 : decide ((i : Int) < 3) = true := decide_eq_true (by omega)
    obtain ⟨c, hc⟩ := get_lt (l := ([77, 82, 75] : List UInt8)) (i := i) hi
    cases hbi : b[i]? with
    | none =>
      have hlen : b.length ≤ i := List.getElem?_eq_none_iff.1 hbi
      have d : decide ((b.length : Int) ≤ (i : Int)) = true := decide_eq_true (by omega)
      simp only [d3, cond_true, d, orO, Option.bind_some]
      rfl
    | some x =>
      have hlen := get_le hbi
      have d : decide ((b.length : Int) ≤ (i : Int)) = false := decide_eq_false (by omega)
      simp only [d3, cond_true, d, orO, cond_false, getI_nat, hbi, hc, Option.bind_some, byte_eq, wrapN i (by omega), Option.some.injEq]
      by_cases hx : x = c
      · simp only [hx, decide_true, Bool.not_true, cond_false, if_true]
      · simp only [hx, decide_false, Bool.not_false, cond_true, if_false]
        rfl
  · rfl
  · cases hh : headF [77, 82, 75] b 0 with
    | some i =>
      simp only [outK]
      unfold readF
      rw [hh]
    | none =>
      simp only [outK]
      by_cases h8 : b.length < 8
      · have d : decide ((b.length : Int) < 8) = true := decide_eq_true (by omega)
        rw [readF_short h8 hh]
        simp only [d, cond_true]
        rfl
      · have d : decide ((b.length : Int) < 8) = false := decide_eq_false (by omega)
        obtain ⟨a0, a1, a2, a, p, r, e, z, t, rfl⟩ := long_eq h8
        rw [readF_long rfl hh]
        have g3 : getI (a0 :: a1 :: a2 :: a :: p :: r :: e :: z :: t) 3 = some a := rfl
        have g4 : getI (a0 :: a1 :: a2 :: a :: p :: r :: e :: z :: t) 4 = some p := rfl
        have g5 : getI (a0 :: a1 :: a2 :: a :: p :: r :: e :: z :: t) 5 = some r := rfl
        have g6 : getI (a0 :: a1 :: a2 :: a :: p :: r :: e :: z :: t) 6 = some e := rfl
        have g7 : getI (a0 :: a1 :: a2 :: a :: p :: r :: e :: z :: t) 7 = some z := rfl
        simp only [d, cond_false, g3, g4, g5, g6, g7, Option.bind_some, zero_eq]
        unfold readF.mk
        by_cases he : e = 0
        · simp only [he, decide_true, cond_true, if_true]
          rfl
        · simp only [he, decide_false, cond_false, if_false]
          exact mk_eq a p r e z m_interchangeref2_CheckMarks r_marks
theorem mark32 {b : UInt8} (h : markB b = true) : b ≠ 32 ∧ b ≠ 0 := by
  unfold markB at h
  constructor <;> (intro e; subst e; revert h; decide)
theorem marks_esc {m : Tapi_Marks} (h : marksF m = 0) : m.fEscape = 0 ∨ (m.fEscape ≠ 32 ∧ m.fEscape ≠ 0) := by
  unfold marksF at h
  by_cases hb : bads m = true
  · rw [if_pos hb] at h; cases h
  · by_cases he : m.fEscape = 0
    · exact .inl he
    · refine .inr (mark32 ?_)
      unfold bads at hb
      have hz : ¬ ((m.fEscape.toNat : Int) = 0) := fun e => he (UInt8.toNat_inj.1 (by simp; omega))
      simp only [Bool.not_eq_true, Bool.or_eq_false_iff, hz, decide_false, Bool.not_false, Bool.true_and, Bool.not_eq_false'] at hb
      exact hb.2
theorem read_back {m : Tapi_Marks} (h : marksF m = 0) (b : List UInt8) : readF (hbytes m ++ b) = (m, 0, 0) := by
  have hh : headF [77, 82, 75] (hbytes m ++ b) 0 = none := rfl
  have e : hbytes m ++ b = 77 :: 82 :: 75 :: m.fElement :: m.fPart :: m.fRepeat :: (if m.fEscape = 0 then 32 else m.fEscape) :: m.fEnd :: b := rfl
  rw [readF_long e hh]
  unfold readF.mk
  obtain ⟨a, p, r, e, z⟩ := m
  rcases marks_esc h with he | ⟨he1, he2⟩
  · simp only at he
    subst he
    simp only [if_true]
    rw [if_neg (by decide), if_pos h]
  · simp only at he1 he2
    simp only [if_neg he2, if_neg he1]
    rw [if_pos h]
theorem law_headings (m : Tapi_Marks) (b : List UInt8) (hb : b.length ≤ 137438950000) : m_interchangelaw2_WireHeadingsMatchSpec m b = some true := by
  have hE : ∀ a b, m_bytes_Equal a b = some (decide (a = b)) := fun a b => by
    unfold m_bytes_Equal sims_G8_0_0; dsimp only
  unfold m_interchangelaw2_WireHeadingsMatchSpec sims_G11_2_0; dsimp only
  simp only [w_Heading, r_Heading, w_Read b (by omega), r_Read b (by omega), hE, Option.bind_some, orO_some, decide_true, Bool.not_true, Bool.or_self, Bool.and_self, cond_false]
  by_cases h : marksF m = 0
  · have hc : m_bytes_Clone (hbytes m) = some (hbytes m) := by unfold m_bytes_Clone; rw [if_pos (by simp [hbytes])]
    have hl : (hbytes m).length = 8 := rfl
    simp only [h, if_true, decide_true, cond_true, hc, Option.bind_some]
    rw [thenO_ok (by omega), w_Read (hbytes m ++ b) (by simp only [List.length_append]; omega), read_back h b]
    simp only [Option.bind_some, decide_true, Bool.not_true, Bool.and_self, Bool.or_self, orO_some, cond_false, awake_true]
  · simp only [h, if_false, decide_false, cond_false, awake_true, Option.bind_some]
end Go.Proofs.YteilhjdpbjgdpaaDoor

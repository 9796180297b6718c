/-
  Texts of mine, one behind the other (SXQ4, SXGR, SXY1, SXY2, SXY7, SXKS, SXD1, SXSP0, SXSP1, SXSP2, SXGE, SXE1, SXSP3, SXSP6, SXSP4, SXSP7, SXSP9, SXSP5, SXSP8, SXSP10, SXSPU).
-/
import Derived.Test.YtdkncdkdbddgoaaGreatDoorBX2
import Derived.Lib.Split
import Derived.Lib.SplitLaws
import Derived.Test.YtdkncdkdbddgoaaGreatDoorSXEngN
/-
  Plain laws of the wire: tags, elements, segments.
-/
namespace Go.Proofs.YtdkncdkdbddgoaaGreatDoor
set_option linter.unusedSimpArgs false
set_option linter.unusedVariables false
open Go.RowKit

/-- The first fault of a list. -/
def listF {α : Type} (h : α → Int) : List α → Int
  | [] => 0
  | e :: l => if h e = 0 then listF h l else h e
theorem loop_fault {α R : Type} (l : List α) (h : α → Int) (ret : Int → R) (k : Int → Option R) {f : Int → Option (Int ⊕ (Int ⊕ R))}
    (hb : ∀ (i : Nat) (e : α), l[i]? = some e → f (i : Int) = if h e = 0 then some (.inl ((i + 1 : Nat) : Int)) else some (.inr (.inr (ret (h e)))))
    (he : f (l.length : Int) = some (.inr (.inl (l.length : Int)))) : (loopC f 0).bind (outK k) = if listF h l = 0 then k (l.length : Int) else some (ret (listF h l)) := by
  have : ∀ (t : List α) (i : Nat), l.drop i = t → i ≤ l.length → loopC f (i : Int) = if listF h t = 0 then some (.inl (l.length : Int)) else some (.inr (ret (listF h t))) := by
    intro t
    induction t with
    | nil =>
      intro i hd hi
      have := drop_nil_len hd hi
      subst this
      rw [loopC_eq, he]
      rfl
    | cons e t ih =>
      intro i hd hi
      obtain ⟨h1, h2, h3⟩ := drop_head hd
      rw [loopC_eq, hb i e h1]
      by_cases h0 : h e = 0
      · simp only [listF, h0, if_true]; exact ih (i + 1) h3 h2
      · simp only [listF, h0, if_false]
  have e0 : loopC f 0 = if listF h l = 0 then some (.inl (l.length : Int)) else some (.inr (ret (listF h l))) := this l 0 rfl (Nat.zero_le _)
  rw [e0]
  by_cases h0 : listF h l = 0
  · rw [if_pos h0, if_pos h0]; rfl
  · rw [if_neg h0, if_neg h0]; rfl
theorem listF_zero {α : Type} {h : α → Int} : ∀ {l : List α}, listF h l = 0 → ∀ e ∈ l, h e = 0
  | [], _, e, he => by cases he
  | x :: l, hl, e, he => by
    simp only [listF] at hl
    split at hl
    · rename_i h0
      rcases List.mem_cons.1 he with rfl | he
      · exact h0
      · exact listF_zero hl e he
    · rename_i h0; exact absurd hl h0

/-! ### Elements -/
def repF (l : List (List UInt8)) : Int := if l.length = 0 then 9 else if 20 < l.length then 2 else listF textF l
def elemF (e : Tapi_Element) : Int := if e.fRepeats.length = 0 then 9 else if 20 < e.fRepeats.length then 2 else listF repF e.fRepeats
theorem w_elem (e : Tapi_Element) : m_wire_elementFault e = some (elemF e) := by
  unfold m_wire_elementFault sims_G6_3_0; dsimp only
  unfold elemF
  by_cases h0 : e.fRepeats.length = 0
  · have c : decide ((e.fRepeats.length : Int) = 0) = true := decide_eq_true (by omega)
    simp only [c, cond_true, if_pos h0]
  · have d0 : decide ((e.fRepeats.length : Int) = 0) = false := decide_eq_false (by omega)
    by_cases h1 : 20 < e.fRepeats.length
    · have d1 : decide ((20 : Int) < (e.fRepeats.length : Int)) = true := decide_eq_true (by omega)
      simp only [d0, d1, cond_true, cond_false, h0, h1, if_true, if_false]
    · have d1 : decide ((20 : Int) < (e.fRepeats.length : Int)) = false := decide_eq_false (by omega)
      simp only [d0, d1, cond_false, h0, h1, if_false]
      refine (loop_fault e.fRepeats repF (fun a => a) _ (fun i l he => ?_) ?_).trans ?_
      · have hi := get_le he
        simp only [lt_dec hi, cond_true, getI_nat, he, Option.bind_some, wrapN i (by omega), repF]
        by_cases g0 : l.length = 0
        · have c0 : decide ((l.length : Int) = 0) = true := decide_eq_true (by omega)
          simp only [c0, cond_true, if_pos g0]; rfl
        · have c0 : decide ((l.length : Int) = 0) = false := decide_eq_false (by omega)
          by_cases g1 : 20 < l.length
          · have c1 : decide ((20 : Int) < (l.length : Int)) = true := decide_eq_true (by omega)
            simp only [c0, c1, cond_true, cond_false, g0, g1, if_true, if_false]; rfl
          · have c1 : decide ((20 : Int) < (l.length : Int)) = false := decide_eq_false (by omega)
            simp only [c0, c1, cond_false, g0, g1, if_false]
            refine (loop_fault l textF (fun a => .inr (.inr a)) _ (fun j t ht => ?_) ?_).trans ?_
            · have hj := get_le ht
              simp only [lt_dec hj, cond_true, getI_nat, he, ht, Option.bind_some, wrapN j (by omega), w_text]
              by_cases hz : textF t = 0 <;> simp [hz, inrO]
            · simp only [getI_nat, he, Option.bind_some, lt_dec_self, cond_false]; rfl
            · split <;> rfl
      · simp only [lt_dec_self, cond_false]; rfl
      · split <;> simp_all
theorem r_elem (e : Tapi_Element) : m_interchangeref2_checkElement e = some (elemF e) := by
  unfold m_interchangeref2_checkElement sims_G6_1_0; dsimp only
  unfold elemF
  by_cases h0 : e.fRepeats.length = 0
  · have c : decide ((e.fRepeats.length : Int) = 0) = true := decide_eq_true (by omega)
    simp only [c, cond_true, if_pos h0]
  · have d0 : decide ((e.fRepeats.length : Int) = 0) = false := decide_eq_false (by omega)
    by_cases h1 : 20 < e.fRepeats.length
    · have d1 : decide ((20 : Int) < (e.fRepeats.length : Int)) = true := decide_eq_true (by omega)
      simp only [d0, d1, cond_true, cond_false, h0, h1, if_true, if_false]
    · have d1 : decide ((20 : Int) < (e.fRepeats.length : Int)) = false := decide_eq_false (by omega)
      simp only [d0, d1, cond_false, h0, h1, if_false]
      refine (loop_fault e.fRepeats repF (fun a => a) _ (fun i l he => ?_) ?_).trans ?_
      · have hi := get_le he
        simp only [lt_dec hi, cond_true, getI_nat, he, Option.bind_some, wrapN i (by omega), repF]
        by_cases g0 : l.length = 0
        · have c0 : decide ((l.length : Int) = 0) = true := decide_eq_true (by omega)
          simp only [c0, cond_true, if_pos g0]; rfl
        · have c0 : decide ((l.length : Int) = 0) = false := decide_eq_false (by omega)
          by_cases g1 : 20 < l.length
          · have c1 : decide ((20 : Int) < (l.length : Int)) = true := decide_eq_true (by omega)
            simp only [c0, c1, cond_true, cond_false, g0, g1, if_true, if_false]; rfl
          · have c1 : decide ((20 : Int) < (l.length : Int)) = false := decide_eq_false (by omega)
            simp only [c0, c1, cond_false, g0, g1, if_false]
            refine (loop_fault l textF (fun a => .inr (.inr a)) _ (fun j t ht => ?_) ?_).trans ?_
            · have hj := get_le ht
              simp only [lt_dec hj, cond_true, getI_nat, he, ht, Option.bind_some, wrapN j (by omega), r_text]
              by_cases hz : textF t = 0 <;> simp [hz, inrO]
            · simp only [getI_nat, he, Option.bind_some, lt_dec_self, cond_false]; rfl
            · split <;> rfl
      · simp only [lt_dec_self, cond_false]; rfl
      · split <;> simp_all
/-! ### Tags -/
theorem dropWhile_nil {p : UInt8 → Bool} : ∀ {l : List UInt8}, l.dropWhile p = [] ↔ ∀ x ∈ l, p x = true
  | [] => by simp
  | a :: l => by
    rw [List.dropWhile_cons]
    by_cases h : p a = true
    · simp [h, dropWhile_nil (l := l)]
    · simp [h]
theorem dropWhile_head {p : UInt8 → Bool} {a : UInt8} {r : List UInt8} : ∀ {l : List UInt8}, l.dropWhile p = a :: r → p a = false
  | [], h => by simp at h
  | b :: l, h => by
    rw [List.dropWhile_cons] at h
    by_cases hp : p b = true
    · simp only [hp, if_true] at h; exact dropWhile_head h
    · simp only [hp] at h
      simp at h; rw [← h.1]; simpa using hp
theorem trim_nil (l cs : List UInt8) : Lib.trimS l cs = [] ↔ ∀ x ∈ l, cs.contains x = true := by
  unfold Lib.trimS Lib.trimLeftS Lib.trimRightS
  constructor
  · intro h
    have h1 : List.dropWhile (fun x => cs.contains x) l.reverse = [] := by
      cases hr : List.dropWhile (fun x => cs.contains x) l.reverse with
      | nil => rfl
      | cons a r =>
        exfalso
        have h2 := dropWhile_head hr
        rw [hr, dropWhile_nil] at h
        have h3 := h a (by simp)
        rw [h2] at h3; cases h3
    rw [dropWhile_nil] at h1
    intro x hx
    exact h1 x (by simpa using hx)
  · intro h
    have h1 : List.dropWhile (fun x => cs.contains x) l.reverse = [] := dropWhile_nil.2 fun x hx => h x (by simpa using hx)
    rw [h1]; rfl
def letB (b : UInt8) : Bool := decide (65 ≤ (b.toNat : Int)) && decide ((b.toNat : Int) ≤ 90)
def tagB (b : UInt8) : Bool := letB b || !(decide ((b.toNat : Int) < 48) || decide (57 < (b.toNat : Int)))
theorem tagB_all : (List.range 256).all (fun n => tagSet.contains (UInt8.ofNat n) == tagB (UInt8.ofNat n)) = true := by kernel_rfl
theorem tagB_eq (b : UInt8) : tagSet.contains b = tagB b := by
  have := List.all_eq_true.1 tagB_all b.toNat (List.mem_range.2 b.toNat_lt)
  have hb : UInt8.ofNat b.toNat = b := by simp
  rw [hb] at this
  simpa using this
def upper : List UInt8 := [65, 66, 67, 68, 69, 70, 71, 72, 73, 74, 75, 76, 77, 78, 79, 80, 81, 82, 83, 84, 85, 86, 87, 88, 89, 90]
theorem letB_all : (List.range 256).all (fun n => decide (0 ≤ Lib.indexByte upper (UInt8.ofNat n)) == letB (UInt8.ofNat n)) = true := by kernel_rfl
theorem letB_eq (b : UInt8) : decide (0 ≤ Lib.indexByte upper b) = letB b := by
  have := List.all_eq_true.1 letB_all b.toNat (List.mem_range.2 b.toNat_lt)
  have hb : UInt8.ofNat b.toNat = b := by simp
  rw [hb] at this
  simpa using this
theorem trim_tag (l : List UInt8) : decide (Lib.trimS l tagSet = []) = l.all tagB := by
  rw [Bool.eq_iff_iff, decide_eq_true_eq, trim_nil, List.all_eq_true]
  simp only [tagB_eq]
/-- A tag. -/
def tagF : List UInt8 → Bool
  | [] => false
  | b :: l => decide (1 ≤ l.length) && decide (l.length ≤ 5) && letB b && l.all tagB
theorem w_tag (l : List UInt8) (hl : l.length ≤ 9223372036854775807) : m_kit_IsTag l = some (tagF l) := by
  unfold m_kit_IsTag sims_G6_1_0; dsimp only
  cases l with
  | nil => rfl
  | cons b l =>
    have hg : getI (b :: l) 0 = some b := rfl
    have hi : m_strings_IndexByte upper b = some (Lib.indexByte upper b) := rfl
    have hu : ([65, 66, 67, 68, 69, 70, 71, 72, 73, 74, 75, 76, 77, 78, 79, 80, 81, 82, 83, 84, 85, 86, 87, 88, 89, 90] : List UInt8) = upper := rfl
    simp only [isTagPart_eq (b :: l) hl, trim_tag, hg, hu, hi, Option.bind_some, andO_some, letB_eq, tagF]
    have h1 : decide ((2 : Int) ≤ ((b :: l).length : Int)) = decide (1 ≤ l.length) := by simp only [List.length_cons]; congr 1; apply propext; omega
    have h2 : decide (((b :: l).length : Int) ≤ 6) = decide (l.length ≤ 5) := by simp only [List.length_cons]; congr 1; apply propext; omega
    rw [h1, h2]
    cases hb : letB b with
    | false => simp
    | true => simp [tagB, hb]
def tagI (i : Nat) (b : UInt8) : Bool := letB b || (decide (i ≠ 0) && tagB b)
theorem r_begins (l : List UInt8) (hl : l.length ≤ 9223372036854775807) : m_interchangeref2_beginsTag l = some ((match l with | [] => true | b :: l => letB b && l.all tagB) && decide (l.length ≤ 6)) := by
  unfold m_interchangeref2_beginsTag sims_G6_0_0; dsimp only
  have key := loop_runI (f := fun s => bif decide (s < (l.length : Int)) then (getI l s).bind fun e => (andO (decide (65 ≤ (e.toNat : Int))) ((getI l s).bind fun e => some (decide ((e.toNat : Int) ≤ 90)))).bind fun v => (andO (!v) ((orO (decide (s = 0)) ((getI l s).bind fun e => some (decide ((e.toNat : Int) < 48)))).bind fun v => (orO v ((getI l s).bind fun e => some (decide (57 < (e.toNat : Int))))).bind fun v => some v)).bind fun v => bif v then inrO (inrO (some false)) else some (Sum.inl (IntKind.i64.wrap (s + 1))) else inrO (some (Sum.inl s)))
    l (fun i (_ : Unit) => (i : Int)) (fun i _ e => if tagI i e = true then some (.inl ()) else some (.inr (.inr false))) (fun _ => some (Sum.inl (l.length : Int))) (fun i e s he => ?_) (fun s => ?_) ()
  · rw [show ((0 : Nat) : Int) = 0 from rfl] at key
    rw [key]
    have h2 : ∀ (t : List UInt8) (i : Nat), 0 < i → runI (fun i (_ : Unit) e => if tagI i e = true then some (.inl ()) else some (.inr (.inr false))) (fun _ => some (Sum.inl (l.length : Int))) t i () = if t.all tagB = true then some (Sum.inl (l.length : Int)) else some (.inr false) := by
      intro t
      induction t with
      | nil => intro i _; rfl
      | cons b t ih =>
        intro i hi
        simp only [runI]
        have : tagI i b = tagB b := by
          unfold tagI
          rw [decide_eq_true (show i ≠ 0 by omega), Bool.true_and]
          unfold tagB
          cases letB b <;> simp
        rw [this]
        cases hb : tagB b with
        | true => simp only [if_true, ih (i + 1) (by omega), List.all_cons, hb, Bool.true_and]
        | false => simp [hb]
    cases l with
    | nil => rfl
    | cons b l =>
      simp only [runI]
      have h3 : tagI 0 b = letB b := by unfold tagI; cases letB b <;> simp
      have h4 : decide (((b :: l).length : Int) ≤ 6) = decide ((b :: l).length ≤ 6) := by congr 1; apply propext; omega
      rw [h3]
      cases hb : letB b with
      | false => simp [outK, hb]
      | true =>
        simp only [if_true]
        rw [h2 l 1 (by omega)]
        cases hl : l.all tagB with
        | true => simp [outK, hb, h4]; omega
        | false => simp [outK, hb]
  · have hi := get_le he
    simp only [lt_dec hi, cond_true, getI_nat, he, Option.bind_some, andO_some, orO_some, wrapN i (by omega)]
    have h0 : decide ((i : Int) = 0) = decide (i = 0) := by congr 1; apply propext; omega
    have h1 : (!(decide (65 ≤ (e.toNat : Int)) && decide ((e.toNat : Int) ≤ 90)) && (decide ((i : Int) = 0) || decide ((e.toNat : Int) < 48) || decide (57 < (e.toNat : Int)))) = !tagI i e := by
      rw [h0]
      unfold tagI tagB letB
      cases decide (65 ≤ (e.toNat : Int)) <;> cases decide ((e.toNat : Int) ≤ 90) <;> by_cases hi0 : i = 0 <;> simp [hi0]
    rw [h1]
    cases tagI i e <;> rfl
  · simp only [lt_dec_self, cond_false]; rfl
theorem r_tag (l : List UInt8) (hl : l.length ≤ 9223372036854775807) : m_interchangeref2_IsTag l = some (tagF l) := by
  unfold m_interchangeref2_IsTag sims_G6_1_0; dsimp only
  simp only [r_begins l hl, Option.bind_some, andO_some]
  cases l with
  | nil => rfl
  | cons b l =>
    have h1 : decide ((2 : Int) ≤ ((b :: l).length : Int)) = decide (1 ≤ l.length) := by simp only [List.length_cons]; congr 1; apply propext; omega
    have h2 : decide ((b :: l).length ≤ 6) = decide (l.length ≤ 5) := by simp only [List.length_cons]; congr 1; apply propext; omega
    rw [h1, h2]
    simp only [tagF]
    cases letB b <;> cases l.all tagB <;> simp
/-! ### Segments -/
def segF (s : Tapi_Segment) : Int := if tagF s.fTag = false then 5 else if 50 < s.fElements.length then 2 else listF elemF s.fElements
def segsF (l : List Tapi_Segment) : Int := if 2000 < l.length then 2 else listF segF l
/-- The strings that any machine has. -/
def TagsShort (l : List Tapi_Segment) : Prop := ∀ s ∈ l, s.fTag.length ≤ 9223372036854775807
theorem r_one (s : Tapi_Segment) (hs : s.fTag.length ≤ 9223372036854775807) : m_interchangeref2_CheckOne s = some (segF s) := by
  unfold m_interchangeref2_CheckOne sims_G6_2_0; dsimp only
  unfold segF
  rw [r_tag s.fTag hs]
  simp only [Option.bind_some]
  cases ht : tagF s.fTag with
  | false => simp
  | true =>
    simp only [Bool.not_true, cond_false, Bool.true_eq_false, if_false]
    by_cases h1 : 50 < s.fElements.length
    · have d1 : decide ((50 : Int) < (s.fElements.length : Int)) = true := decide_eq_true (by omega)
      simp only [d1, cond_true, h1, if_true]
    · have d1 : decide ((50 : Int) < (s.fElements.length : Int)) = false := decide_eq_false (by omega)
      simp only [d1, cond_false, h1, if_false]
      refine (loop_fault s.fElements elemF (fun a => a) _ (fun i e he => ?_) ?_).trans ?_
      · have hi := get_le he
        simp only [lt_dec hi, cond_true, getI_nat, he, Option.bind_some, wrapN i (by omega), r_elem]
        by_cases hz : elemF e = 0 <;> simp [hz, inrO]
      · simp only [lt_dec_self, cond_false]; rfl
      · split <;> simp_all
theorem w_segs (l : List Tapi_Segment) (hs : TagsShort l) : m_wire_CheckSegments l = some (segsF l) := by
  unfold m_wire_CheckSegments sims_G6_4_0; dsimp only
  unfold segsF
  by_cases h1 : 2000 < l.length
  · have d1 : decide ((2000 : Int) < (l.length : Int)) = true := decide_eq_true (by omega)
    simp only [d1, cond_true, h1, if_true]
  · have d1 : decide ((2000 : Int) < (l.length : Int)) = false := decide_eq_false (by omega)
    simp only [d1, cond_false, h1, if_false]
    refine (loop_fault l segF (fun a => a) _ (fun i s hes => ?_) ?_).trans ?_
    · have hi := get_le hes
      have hst := hs s (List.mem_of_getElem? hes)
      simp only [lt_dec hi, cond_true, getI_nat, hes, Option.bind_some, wrapN i (by omega), w_tag s.fTag (by omega), segF]
      by_cases ht : tagF s.fTag = false
      · simp [ht, inrO]
      · replace ht : tagF s.fTag = true := by simpa using ht
        simp only [ht, Bool.not_true, cond_false, Bool.true_eq_false, if_false]
        by_cases h1 : 50 < s.fElements.length
        · have d1 : decide ((50 : Int) < (s.fElements.length : Int)) = true := decide_eq_true (by omega)
          simp only [d1, cond_true, h1, if_true]; rfl
        · have d1 : decide ((50 : Int) < (s.fElements.length : Int)) = false := decide_eq_false (by omega)
          simp only [d1, cond_false, h1, if_false]
          refine (loop_fault s.fElements elemF (fun a => .inr (.inr a)) _ (fun i e he => ?_) ?_).trans ?_
          · have hi := get_le he
            simp only [lt_dec hi, cond_true, getI_nat, he, Option.bind_some, wrapN i (by omega), w_elem]
            by_cases hz : elemF e = 0 <;> simp [hz, inrO]
          · simp only [lt_dec_self, cond_false]; rfl
          · split <;> rfl
    · simp only [lt_dec_self, cond_false]; rfl
    · split <;> simp_all
end Go.Proofs.YtdkncdkdbddgoaaGreatDoor

/-
  A stub.
-/


/-
  Plain laws: numbers, references, and the checks of a book.
-/
namespace Go.Proofs.YtdkncdkdbddgoaaGreatDoor
set_option linter.unusedSimpArgs false
set_option linter.unusedVariables false
open Go.RowKit

def outside (n lo hi : Int) : Bool := decide (n < lo) || decide (hi < n)
/-! ### References -/
end Go.Proofs.YtdkncdkdbddgoaaGreatDoor

/-
  Plain laws: the checks of a book.
-/
namespace Go.Proofs.YtdkncdkdbddgoaaGreatDoor
set_option linter.unusedSimpArgs false
set_option linter.unusedVariables false
open Go.RowKit

end Go.Proofs.YtdkncdkdbddgoaaGreatDoor

/-
  Plain laws: names, and loops that end at the first fault.
-/
namespace Go.Proofs.YtdkncdkdbddgoaaGreatDoor
set_option linter.unusedSimpArgs false
set_option linter.unusedVariables false
open Go.RowKit

abbrev MX : Nat := 9223372036854775807
/-! ### Loops that end at the first fault -/
/-! ### Names -/
def lowB (b : UInt8) : Bool := decide (97 ≤ (b.toNat : Int)) && decide ((b.toNat : Int) ≤ 122)
def nameB (b : UInt8) : Bool := lowB b || (decide ((b.toNat : Int) = 45) || (decide (48 ≤ (b.toNat : Int)) && decide ((b.toNat : Int) ≤ 57)))
def nameSet : List UInt8 := [97, 98, 99, 100, 101, 102, 103, 104, 105, 106, 107, 108, 109, 110, 111, 112, 113, 114, 115, 116, 117, 118, 119, 120, 121, 122, 48, 49, 50, 51, 52, 53, 54, 55, 56, 57, 45]
theorem nameB_all : (List.range 256).all (fun n => nameSet.contains (UInt8.ofNat n) == nameB (UInt8.ofNat n)) = true := by decide +kernel
theorem nameB_eq (b : UInt8) : nameSet.contains b = nameB b := by
  have := List.all_eq_true.1 nameB_all b.toNat (List.mem_range.2 b.toNat_lt)
  have hb : UInt8.ofNat b.toNat = b := by simp
  rw [hb] at this
  simpa using this
theorem trim_name (l : List UInt8) : decide (Lib.trimS l nameSet = []) = l.all nameB := by
  rw [Bool.eq_iff_iff, decide_eq_true_eq, trim_nil, List.all_eq_true]
  simp only [nameB_eq]
/-- A name. -/
def nameF : List UInt8 → Bool
  | [] => false
  | b :: l => decide (l.length ≤ 39) && lowB b && l.all nameB
theorem w_name (l : List UInt8) (hl : l.length ≤ MX) : m_kit_IsName l = some (nameF l) := by
  have ht : m_strings_Trim l nameSet = some (Lib.trimS l nameSet) := by
    unfold m_strings_Trim
    rw [if_pos ⟨hl, by decide, by decide⟩]
  have hu : ([97, 98, 99, 100, 101, 102, 103, 104, 105, 106, 107, 108, 109, 110, 111, 112, 113, 114, 115, 116, 117, 118, 119, 120, 121, 122, 48, 49, 50, 51, 52, 53, 54, 55, 56, 57, 45] : List UInt8) = nameSet := rfl
  unfold m_kit_IsName sims_G6_0_0; dsimp only
  rw [hu]
  cases l with
  | nil => rfl
  | cons b l =>
    have hg : getI (b :: l) 0 = some b := rfl
    simp only [hg, Option.bind_some, orO_some, ht, trim_name, nameF]
    have h1 : decide (((b :: l).length : Int) < 1) = false := by simp only [List.length_cons]; apply decide_eq_false; omega
    have h2 : decide (40 < ((b :: l).length : Int)) = !decide (l.length ≤ 39) := by simp only [List.length_cons]; rw [Bool.eq_iff_iff]; simp <;> omega
    have h3 : (decide ((b.toNat : Int) < 97) || decide (122 < (b.toNat : Int))) = !lowB b := by unfold lowB; rw [Bool.eq_iff_iff]; simp
    rw [h1, h2, Bool.false_or, Bool.or_assoc, h3]
    cases hb : lowB b with
    | false => simp
    | true => cases decide (l.length ≤ 39) <;> simp [nameB, hb]
def nameI (i : Nat) (b : UInt8) : Bool := lowB b || (decide (i ≠ 0) && nameB b)
theorem r_name (l : List UInt8) (hl : l.length ≤ MX) : m_interchangeref2_IsName l = some (nameF l) := by
  unfold MX at hl
  unfold m_interchangeref2_IsName sims_G6_0_0; dsimp only
  generalize hf : (fun s : Int => _) = f
  have key := loop_runI (f := f) l (fun i (_ : Unit) => (i : Int)) (fun i _ e => if nameI i e = true then some (.inl ()) else some (.inr (.inr false))) (fun _ => some (Sum.inl (l.length : Int))) (fun i e s he => by
    subst hf
    have hi := get_le he
    simp only [lt_dec hi, cond_true, getI_nat, he, Option.bind_some, andO_some, orO_some, wrapN i (by omega)]
    have h0 : decide ((i : Int) = 0) = decide (i = 0) := by congr 1; apply propext; omega
    have h1 : (!(decide (97 ≤ (e.toNat : Int)) && decide ((e.toNat : Int) ≤ 122)) && (decide ((i : Int) = 0) || (!decide ((e.toNat : Int) = 45) && !(decide (48 ≤ (e.toNat : Int)) && decide ((e.toNat : Int) ≤ 57))))) = !nameI i e := by
      rw [h0]
      unfold nameI nameB lowB
      cases decide (97 ≤ (e.toNat : Int)) <;> cases decide ((e.toNat : Int) ≤ 122) <;> by_cases hi0 : i = 0 <;> simp [hi0]
    rw [h1]
    cases nameI i e <;> rfl) (fun s => by
    subst hf
    simp only [lt_dec_self, cond_false]; rfl) ()
  rw [show ((0 : Nat) : Int) = 0 from rfl] at key
  rw [key]
  have h2 : ∀ (t : List UInt8) (i : Nat), 0 < i → runI (fun i (_ : Unit) e => if nameI i e = true then some (.inl ()) else some (.inr (.inr false))) (fun _ => some (Sum.inl (l.length : Int))) t i () = if t.all nameB = true then some (.inl (l.length : Int)) else some (.inr false) := by
    intro t
    induction t with
    | nil => intro i _; rfl
    | cons b t ih =>
      intro i hi
      simp only [runI]
      have : nameI i b = nameB b := by
        unfold nameI
        rw [decide_eq_true (show i ≠ 0 by omega), Bool.true_and]
        unfold nameB
        cases lowB b <;> simp
      rw [this]
      cases hb : nameB b with
      | true => simp only [if_true, ih (i + 1) (by omega), List.all_cons, hb, Bool.true_and]
      | false => simp [hb]
  cases l with
  | nil => rfl
  | cons b l =>
    simp only [runI]
    have h3 : nameI 0 b = lowB b := by unfold nameI; cases lowB b <;> simp
    have h4 : decide (((b :: l).length : Int) ≤ 40) = decide (l.length ≤ 39) := by simp only [List.length_cons]; rw [Bool.eq_iff_iff]; simp; omega
    rw [h3]
    cases hb : lowB b with
    | false => simp [outK, hb, nameF]
    | true =>
      simp only [if_true]
      rw [h2 l 1 (by omega)]
      cases hl : l.all nameB with
      | true => simp [outK, hb, hl, nameF, andO_some]; try omega
      | false => simp [outK, hb, hl, nameF]
end Go.Proofs.YtdkncdkdbddgoaaGreatDoor

/-
  Segments: when they are right; sameness.
-/
namespace Go.Proofs.YtdkncdkdbddgoaaGreatDoor
set_option linter.unusedSimpArgs false
set_option linter.unusedVariables false
open Go.RowKit

theorem listF_all {α : Type} {h : α → Int} : ∀ {l : List α}, (∀ e ∈ l, h e = 0) → listF h l = 0
  | [], _ => rfl
  | e :: l, hl => by
    unfold listF
    rw [if_pos (hl e (by simp))]
    exact listF_all fun e he => hl e (by simp [he])
theorem repF_iff {l : List (List UInt8)} : repF l = 0 ↔ (1 ≤ l.length ∧ l.length ≤ 20 ∧ ∀ t ∈ l, textF t = 0) := by
  unfold repF
  by_cases h1 : l.length = 0
  · simp [h1]
  · by_cases h2 : 20 < l.length
    · simp [h1, h2]; omega
    · rw [if_neg h1, if_neg h2]
      exact ⟨fun h => ⟨by omega, by omega, listF_zero h⟩, fun h => listF_all h.2.2⟩
theorem elemF_iff {e : Tapi_Element} : elemF e = 0 ↔ (1 ≤ e.fRepeats.length ∧ e.fRepeats.length ≤ 20 ∧ ∀ t ∈ e.fRepeats, repF t = 0) := by
  unfold elemF
  by_cases h1 : e.fRepeats.length = 0
  · simp [h1]
  · by_cases h2 : 20 < e.fRepeats.length
    · simp [h1, h2]; omega
    · rw [if_neg h1, if_neg h2]
      exact ⟨fun h => ⟨by omega, by omega, listF_zero h⟩, fun h => listF_all h.2.2⟩
theorem segF_iff {s : Tapi_Segment} : segF s = 0 ↔ (tagF s.fTag = true ∧ s.fElements.length ≤ 50 ∧ ∀ e ∈ s.fElements, elemF e = 0) := by
  unfold segF
  by_cases h1 : tagF s.fTag = false
  · simp [h1]
  · by_cases h2 : 50 < s.fElements.length
    · simp [h1, h2]; intro h; omega
    · rw [if_neg h1, if_neg h2]
      exact ⟨fun h => ⟨by simpa using h1, by omega, listF_zero h⟩, fun h => listF_all h.2.2⟩
theorem seg_ok {s : Tapi_Segment} (h : segF s = 0) : cloneOk s := by
  obtain ⟨_, h2, h3⟩ := segF_iff.1 h
  refine ⟨by omega, fun e he => ?_⟩
  obtain ⟨_, h5, h6⟩ := elemF_iff.1 (h3 e he)
  refine ⟨by omega, fun p hp => ?_⟩
  obtain ⟨_, h8, _⟩ := repF_iff.1 (h6 p hp)
  omega
theorem sameTexts_refl (l : List (List UInt8)) (hl : l.length ≤ 137438953472) : m_interchangeref2_SameTexts l l = some true := by
  unfold m_interchangeref2_SameTexts sims_G6_0_0; dsimp only
  simp only [decide_true, Bool.not_true, cond_false]
  refine bind_loop (a := .inl (l.length : Int)) (loop_trace (fun i => (i : Int)) l.length (fun i hi => ?_) ?_) rfl
  · obtain ⟨e, he⟩ := get_lt hi
    simp only [lt_dec hi, cond_true, getI_nat, he, Option.bind_some, decide_true, Bool.not_true, cond_false, wrapN i (by omega)]
  · simp only [lt_dec_self, cond_false]; rfl
theorem sameSeg_refl (x : Tapi_Segment) (hx : cloneOk x) : m_interchangeref2_SameSegment x x = some true := by
  obtain ⟨h1, h2⟩ := hx
  unfold m_interchangeref2_SameSegment sims_G6_1_0; dsimp only
  simp only [decide_true, Bool.not_true, orO_some, Bool.or_self, Option.bind_some, cond_false]
  refine bind_loop (a := .inl (x.fElements.length : Int)) (loop_trace (fun i => (i : Int)) x.fElements.length (fun i hi => ?_) ?_) rfl
  · obtain ⟨e, he⟩ := get_lt hi
    obtain ⟨h3, h4⟩ := h2 e (List.mem_of_getElem? he)
    simp only [lt_dec hi, cond_true, getI_nat, he, Option.bind_some, decide_true, Bool.not_true, cond_false, wrapN i (by omega)]
    refine bind_loop (a := .inl (e.fRepeats.length : Int)) (loop_trace (fun i => (i : Int)) e.fRepeats.length (fun k hk => ?_) ?_) rfl
    · obtain ⟨p, hp⟩ := get_lt hk
      simp only [lt_dec hk, cond_true, getI_nat, hp, Option.bind_some, sameTexts_refl p (h4 p (List.mem_of_getElem? hp)), Bool.not_true, cond_false, wrapN k (by omega)]
    · simp only [lt_dec_self, cond_false]; rfl
  · simp only [lt_dec_self, cond_false]; rfl
end Go.Proofs.YtdkncdkdbddgoaaGreatDoor

/-
  Plain laws: lines of a text (strings.Cut, Split, CutSuffix at one byte).
-/
namespace Go.Proofs.YtdkncdkdbddgoaaGreatDoor
set_option linter.unusedSimpArgs false
set_option linter.unusedVariables false

theorem ix_eq (c : UInt8) (l : List UInt8) : Lib.index (c :: l) [c] = 0 := by
  unfold Lib.index
  rw [if_pos (by simp)]
theorem ix_ne {c x : UInt8} (l : List UInt8) (h : x ≠ c) : Lib.index (x :: l) [c] = if Lib.index l [c] == -1 then -1 else Lib.index l [c] + 1 := by
  rw [Lib.index, if_neg (by simp; exact fun e => h e.symm)]
theorem ix_none {c : UInt8} : ∀ {l : List UInt8}, (∀ b ∈ l, b ≠ c) → Lib.index l [c] = -1
  | [], _ => rfl
  | x :: l, h => by
    rw [ix_ne l (h x (by simp)), ix_none (l := l) fun b hb => h b (by simp [hb])]; rfl
theorem ix_at {c : UInt8} (b : List UInt8) : ∀ {a : List UInt8}, (∀ x ∈ a, x ≠ c) → Lib.index (a ++ c :: b) [c] = (a.length : Int)
  | [], _ => ix_eq c b
  | x :: a, h => by
    rw [List.cons_append, ix_ne _ (h x (by simp)), ix_at b (a := a) fun y hy => h y (by simp [hy])]
    rw [if_neg (by simp), List.length_cons]; rfl
theorem split_none {c : UInt8} {l : List UInt8} (h : ∀ b ∈ l, b ≠ c) : Lib.split l [c] = [l] := by
  unfold Lib.split
  cases hc : Lib.count l [c] with
  | zero => rfl
  | succ k => unfold Lib.splitK; rw [ix_none h]; rfl
theorem split_at {c : UInt8} {a b : List UInt8} (h : ∀ x ∈ a, x ≠ c) : Lib.split (a ++ c :: b) [c] = a :: Lib.split b [c] := by
  have hc : Lib.count (a ++ c :: b) [c] = Lib.count b [c] + 1 := by
    rw [Lib.count_one, Lib.count_one, List.count_append, List.count_cons_self, List.count_eq_zero.2 fun hm => h c hm rfl]; omega
  unfold Lib.split
  rw [hc]
  show (if Lib.index (a ++ c :: b) [c] == -1 then _ else _) = _
  rw [ix_at b h]
  rw [if_neg (by simp)]
  simp
/-- Lines, each with its end, and what is behind the last end. -/
structure Lns (L : List (List UInt8)) (t s : List UInt8) : Prop where
  eq : s = (L.map (· ++ [10])).flatten ++ t
  no : ∀ l ∈ L, ∀ b ∈ l, b ≠ (10 : UInt8)
  nt : ∀ b ∈ t, b ≠ (10 : UInt8)
theorem Lns.tail {a : List UInt8} {L : List (List UInt8)} {t s : List UInt8} (h : Lns (a :: L) t s) : ∃ b, s = a ++ 10 :: b ∧ Lns L t b :=
  ⟨_, by rw [h.eq]; simp, ⟨rfl, fun l hl => h.no l (by simp [hl]), h.nt⟩⟩
theorem Lns.split : ∀ {L : List (List UInt8)} {t s : List UInt8}, Lns L t s → Lib.split s [10] = L ++ [t]
  | [], t, s, h => by
    have := h.eq
    simp at this
    subst this
    exact split_none h.nt
  | a :: L, t, s, h => by
    obtain ⟨b, rfl, hb⟩ := h.tail
    rw [split_at (h.no a (by simp)), hb.split]; rfl
theorem suf_last (s : List UInt8) (b c : UInt8) : Lib.hasSuffix (s ++ [b]) [c] = (c == b) := by
  unfold Lib.hasSuffix List.isSuffixOf
  rw [List.reverse_append]
  show (c == b && [].isPrefixOf _) = _
  simp
theorem snoc_of {α : Type} {l : List α} (h : l ≠ []) : ∃ l' x, l = l' ++ [x] := ⟨l.dropLast, l.getLast h, (List.dropLast_concat_getLast h).symm⟩
theorem Lns.open {L : List (List UInt8)} {t s : List UInt8} (h : Lns L t s) (ht : t ≠ []) : Lib.hasSuffix s [10] = false ∧ Lib.split (Lib.trimSuffix s [10]) [10] = L ++ [t] := by
  obtain ⟨t', b, rfl⟩ := snoc_of ht
  have he : s = ((L.map (· ++ [10])).flatten ++ t') ++ [b] := by rw [h.eq]; simp
  have hb : b ≠ 10 := h.nt b (by simp)
  have hf : Lib.hasSuffix s [10] = false := by
    rw [he, suf_last]; simpa using fun e => hb e.symm
  have hs := h.split
  refine ⟨hf, ?_⟩
  unfold Lib.trimSuffix
  rw [hf]
  exact hs
end Go.Proofs.YtdkncdkdbddgoaaGreatDoor

/-
  Plain laws: a text divided at one byte; lists within lists.
-/
namespace Go.Proofs.YtdkncdkdbddgoaaGreatDoor
set_option linter.unusedSimpArgs false
set_option linter.unusedVariables false
open Go.RowKit

/-- Pieces, each with the mark behind it, and what is behind the last mark. -/
structure Pcs (c : UInt8) (L : List (List UInt8)) (t s : List UInt8) : Prop where
  eq : s = (L.map (· ++ [c])).flatten ++ t
  no : ∀ l ∈ L, ∀ b ∈ l, b ≠ c
  nt : ∀ b ∈ t, b ≠ c
theorem first_at (c : UInt8) (s : List UInt8) : (∀ b ∈ s, b ≠ c) ∨ ∃ a b, (∀ x ∈ a, x ≠ c) ∧ s = a ++ c :: b := by
  induction s with
  | nil => exact .inl (by simp)
  | cons x s ih =>
    by_cases hx : x = c
    · exact .inr ⟨[], s, by simp, by rw [hx]; rfl⟩
    · rcases ih with h | ⟨a, b, h1, h2⟩
      · exact .inl fun b hb => by
          rcases List.mem_cons.1 hb with rfl | hb
          · exact hx
          · exact h b hb
      · refine .inr ⟨x :: a, b, fun y hy => ?_, by rw [h2]; rfl⟩
        rcases List.mem_cons.1 hy with rfl | hy
        · exact hx
        · exact h1 y hy
theorem pcs_ex (c : UInt8) : ∀ (n : Nat) (s : List UInt8), s.length ≤ n → ∃ L t, Pcs c L t s
  | 0, s, h => ⟨[], s, ⟨rfl, by simp, by have : s = [] := List.length_eq_zero_iff.1 (by omega); subst this; simp⟩⟩
  | n + 1, s, h => by
    rcases first_at c s with h1 | ⟨a, b, h1, rfl⟩
    · exact ⟨[], s, ⟨rfl, by simp, h1⟩⟩
    · obtain ⟨L, t, hL⟩ := pcs_ex c n b (by simp at h; omega)
      refine ⟨a :: L, t, ⟨?_, fun l hl => ?_, hL.nt⟩⟩
      · rw [hL.eq]; simp
      · rcases List.mem_cons.1 hl with rfl | hl
        · exact h1
        · exact hL.no l hl
theorem Pcs.tail {c : UInt8} {a : List UInt8} {L : List (List UInt8)} {t s : List UInt8} (h : Pcs c (a :: L) t s) : ∃ b, s = a ++ c :: b ∧ Pcs c L t b :=
  ⟨_, by rw [h.eq]; simp, ⟨rfl, fun l hl => h.no l (by simp [hl]), h.nt⟩⟩
theorem Pcs.split {c : UInt8} : ∀ {L : List (List UInt8)} {t s : List UInt8}, Pcs c L t s → Lib.split s [c] = L ++ [t]
  | [], t, s, h => by
    have := h.eq
    simp at this
    subst this
    exact split_none h.nt
  | a :: L, t, s, h => by
    obtain ⟨b, rfl, hb⟩ := h.tail
    rw [split_at (h.no a (by simp)), hb.split]; rfl
/-- The pieces and the rest, from what Split gives. -/
theorem Pcs.of {c : UInt8} {s : List UInt8} : ∃ L t, Pcs c L t s ∧ Lib.split s [c] = L ++ [t] := by
  obtain ⟨L, t, h⟩ := pcs_ex c s.length s (Nat.le_refl _)
  exact ⟨L, t, h, h.split⟩
theorem Pcs.len {c : UInt8} {L : List (List UInt8)} {t s : List UInt8} (h : Pcs c L t s) : L.length ≤ s.length ∧ t.length ≤ s.length ∧ ∀ e ∈ L, e.length ≤ s.length := by
  rw [h.eq]
  have key : ∀ L : List (List UInt8), L.length ≤ (L.map (· ++ [c])).flatten.length ∧ ∀ e ∈ L, e.length ≤ (L.map (· ++ [c])).flatten.length := fun L => by
    induction L with
    | nil => simp
    | cons a L ih =>
      obtain ⟨h1, h2⟩ := ih
      simp only [List.map_cons, List.flatten_cons, List.length_append, List.length_cons, List.length_nil, List.mem_cons, forall_eq_or_imp]
      exact ⟨by omega, by omega, fun e he => by have := h2 e he; omega⟩
  obtain ⟨h1, h2⟩ := key L
  simp only [List.length_append]
  exact ⟨by omega, by omega, fun e he => by have := h2 e he; omega⟩
/-- All pieces but the last, with marks between. -/
theorem pcs_init {c : UInt8} {L : List (List UInt8)} {t s : List UInt8} (h : Pcs c L t s) (hL : L ≠ []) : ∃ p, s = p ++ c :: t ∧ Lib.split p [c] = L := by
  obtain ⟨L', x, rfl⟩ := snoc_of hL
  refine ⟨(L'.map (· ++ [c])).flatten ++ x, ?_, ?_⟩
  · rw [h.eq]; simp
  · exact Pcs.split ⟨rfl, fun l hl => h.no l (by simp [hl]), h.no x (by simp)⟩
theorem flatMap_flatMap {α β γ : Type} (f : α → List β) (g : β → List γ) : ∀ l : List α, (l.flatMap f).flatMap g = l.flatMap fun a => (f a).flatMap g
  | [] => rfl
  | a :: l => by simp only [List.flatMap_cons, List.flatMap_append, flatMap_flatMap f g l]
theorem flatMap_len {α β : Type} {f : α → List β} {g : α → Nat} : ∀ {l : List α}, (∀ a ∈ l, (f a).length ≤ g a) → (l.flatMap f).length ≤ (l.map g).sum
  | [], _ => by simp
  | a :: l, h => by
    have h1 := h a (by simp)
    have h2 := flatMap_len (l := l) fun b hb => h b (by simp [hb])
    simp only [List.flatMap_cons, List.length_append, List.map_cons, List.sum_cons]
    omega
theorem sum_map_le {α : Type} {f g : α → Nat} : ∀ {l : List α}, (∀ a ∈ l, f a ≤ g a) → (l.map f).sum ≤ (l.map g).sum
  | [], _ => by simp
  | a :: l, h => by
    have h1 := h a (by simp)
    have h2 := sum_map_le (l := l) fun b hb => h b (by simp [hb])
    simp only [List.map_cons, List.sum_cons]
    omega
theorem sum_flatMap {α β : Type} {f : α → List β} {g : β → Nat} : ∀ {l : List α}, ((l.flatMap f).map g).sum = (l.map fun a => ((f a).map g).sum).sum
  | [] => rfl
  | a :: l => by simp only [List.flatMap_cons, List.map_append, List.sum_append, List.map_cons, List.sum_cons, sum_flatMap (l := l)]
theorem sum_map_mul {α : Type} (k : Nat) (f : α → Nat) : ∀ l : List α, (l.map fun a => k * f a).sum = k * (l.map f).sum
  | [] => by simp
  | a :: l => by simp only [List.map_cons, List.sum_cons, sum_map_mul k f l, Nat.mul_add]
theorem len_sum {α : Type} : ∀ l : List α, (l.map fun _ => 1).sum = l.length
  | [] => rfl
  | a :: l => by simp only [List.map_cons, List.sum_cons, len_sum l, List.length_cons]; omega
end Go.Proofs.YtdkncdkdbddgoaaGreatDoor

/-
  Plain laws: CheckTree.
-/
namespace Go.Proofs.YtdkncdkdbddgoaaGreatDoor
set_option linter.unusedSimpArgs false
set_option linter.unusedVariables false
open Go.RowKit

abbrev Br := Tapi_Branch
/-- Texts and lists of a branch are no longer than any that there is. -/
inductive ShB : Br → Prop
  | mk {x : Br} : x.fName.length ≤ MX → x.fSegment.fTag.length ≤ MX → x.fKids.length ≤ MX → (∀ a ∈ x.fKids, ShB a) → ShB x
theorem ShB.name {x : Br} (h : ShB x) : x.fName.length ≤ MX := by cases h; assumption
theorem ShB.tag {x : Br} (h : ShB x) : x.fSegment.fTag.length ≤ MX := by cases h; assumption
theorem ShB.len {x : Br} (h : ShB x) : x.fKids.length ≤ MX := by cases h; assumption
theorem ShB.kids {x : Br} (h : ShB x) : ∀ a ∈ x.fKids, ShB a := by cases h; assumption

/-- A loop over a list whose state keeps what is asked. -/
def runL {α S A : Type} (g : S → α → S ⊕ A) (fin : S → A) : List α → S → A
  | [], s => fin s
  | e :: l, s => match g s e with
    | .inl s' => runL g fin l s'
    | .inr a => a
theorem loop_inv {α S T A : Type} (l : List α) (mk : Nat → S → T) (g : S → α → S ⊕ A) (fin : S → A) (I : S → Prop) {f : T → Option (T ⊕ A)}
    (hb : ∀ (i : Nat) (e : α) (s : S), l[i]? = some e → I s → f (mk i s) = some (match g s e with | .inl s' => .inl (mk (i + 1) s') | .inr a => .inr a))
    (hi : ∀ (e : α) (s s' : S), e ∈ l → I s → g s e = .inl s' → I s') (he : ∀ s, I s → f (mk l.length s) = some (.inr (fin s))) (s : S) (h0 : I s) : loopC f (mk 0 s) = some (runL g fin l s) := by
  have : ∀ (t : List α) (i : Nat) (s : S), l.drop i = t → i ≤ l.length → I s → loopC f (mk i s) = some (runL g fin t s) := by
    intro t
    induction t with
    | nil =>
      intro i s hd hle hs
      have := drop_nil_len hd hle
      subst this
      rw [loopC_eq, he s hs]
      rfl
    | cons e t ih =>
      intro i s hd hle hs
      obtain ⟨h1, h2, h3⟩ := drop_head hd
      rw [loopC_eq, hb i e s h1 hs]
      simp only [runL]
      cases hg : g s e with
      | inr a => rfl
      | inl s' => exact ih (i + 1) s' h3 h2 (hi e s s' (List.mem_of_getElem? h1) hs hg)
  exact this l 0 s rfl (Nat.zero_le _) h0

def badHead : List Br → Bool
  | [] => true
  | c :: _ => !decide (c.fName = [])
def bareF (s : Tapi_Segment) : Bool := decide (s.fTag = []) && decide ((s.fElements.length : Int) = 0)
def formB (b : Br) : Bool := bif decide (b.fName = []) then decide (0 < (b.fKids.length : Int)) else (!bareF b.fSegment || badHead b.fKids)
def cntB (many : Int) (b : Br) : Int := if b.fName = [] then many + 1 else many
/-- The fault of a branch, and how many segments there are with it. -/
def brF (g : List Br → Int → Int × Int) (deep many : Int) (b : Br) : Int × Int :=
  if 2000 < cntB many b ∨ 6 < deep then (2, cntB many b)
  else if b.fName ≠ [] ∧ nameF b.fName = false then (5, cntB many b)
  else if formB b = true then (3, cntB many b)
  else if b.fName = [] then (segF b.fSegment, cntB many b)
  else g b.fKids (cntB many b)
def liF (g : Int → Br → Int × Int) : List Br → Int → Int × Int
  | [], many => (0, many)
  | b :: l, many => if (g many b).1 = 0 then liF g l (g many b).2 else g many b
def ctF : Nat → List Br → Int → Int → Int × Int
  | 0, _, _, many => (0, many)
  | k + 1, l, deep, many => liF (brF (fun kids m => ctF k kids (deep + 1) m) deep) l many

theorem li_ok {g : Int → Br → Int × Int} (hg : ∀ many b, 0 ≤ many → (g many b).1 = 0 → many ≤ (g many b).2 ∧ (g many b).2 ≤ 2000 ∨ (g many b).2 = many) : ∀ {l : List Br} {many : Int}, 0 ≤ many → (liF g l many).1 = 0 → many ≤ (liF g l many).2 ∧ (many ≤ 2000 → (liF g l many).2 ≤ 2000)
  | [], many, _, _ => ⟨Int.le_refl _, fun h => h⟩
  | b :: l, many, h0, h => by
    unfold liF at h ⊢
    by_cases hb : (g many b).1 = 0
    · rw [if_pos hb] at h ⊢
      rcases hg many b h0 hb with ⟨h1, h2⟩ | h1
      · obtain ⟨k1, k2⟩ := li_ok hg (by omega) h
        exact ⟨by omega, fun _ => k2 h2⟩
      · rw [h1] at h ⊢
        exact li_ok hg h0 h
    · rw [if_neg hb] at h ⊢
      exact absurd h hb
theorem cnt_ge (many : Int) (b : Br) : many ≤ cntB many b ∧ cntB many b ≤ many + 1 := by unfold cntB; split <;> omega
theorem br_ok {g : List Br → Int → Int × Int} (hg : ∀ l m, 0 ≤ m → (g l m).1 = 0 → m ≤ (g l m).2 ∧ (m ≤ 2000 → (g l m).2 ≤ 2000)) {deep many : Int} {b : Br} (h0 : 0 ≤ many) (h : (brF g deep many b).1 = 0) : many ≤ (brF g deep many b).2 ∧ (brF g deep many b).2 ≤ 2000 := by
  have hc := cnt_ge many b
  unfold brF at h ⊢
  split at h
  · cases h
  · rename_i h1
    rw [if_neg h1]
    split at h
    · cases h
    · rename_i h2
      rw [if_neg h2]
      split at h
      · cases h
      · rename_i h3
        rw [if_neg h3]
        split at h
        · rename_i h4; rw [if_pos h4]; exact ⟨by simp only; omega, by simp only; omega⟩
        · rename_i h4
          rw [if_neg h4]
          obtain ⟨k1, k2⟩ := hg _ _ (by omega) h
          exact ⟨by omega, k2 (by omega)⟩
theorem ct_ok : ∀ (k : Nat) {l : List Br} {deep many : Int}, 0 ≤ many → (ctF k l deep many).1 = 0 → many ≤ (ctF k l deep many).2 ∧ (many ≤ 2000 → (ctF k l deep many).2 ≤ 2000)
  | 0, _, _, _, _, _ => ⟨Int.le_refl _, fun h => h⟩
  | k + 1, l, deep, many, h0, h => li_ok (fun many b h0 hb => .inl (br_ok (fun l m h0 h => ct_ok k h0 h) h0 hb)) h0 h
/-- What stops the loop is what stops the fold. -/
theorem run_li {R : Type} {g : Int → Br → Int × Int} {ret : Int × Int → R} {i : Int} : ∀ {l : List Br} {many : Int} {fin : Int → (Int × Int) ⊕ R},
    runL (fun s e => if (g s e).1 = 0 then (.inl (g s e).2 : Int ⊕ ((Int × Int) ⊕ R)) else .inr (.inr (ret (g s e)))) fin l many = if (liF g l many).1 = 0 then fin (liF g l many).2 else .inr (ret (liF g l many))
  | [], many, fin => by simp [runL, liF]
  | b :: l, many, fin => by
    unfold runL liF
    by_cases hb : (g many b).1 = 0
    · simp only [hb, if_true]; exact run_li (i := i)
    · simp only [hb, if_false]
theorem seg_one {s : Tapi_Segment} (hs : s.fTag.length ≤ MX) : m_wire_CheckSegments [s] = some (segF s) := by
  rw [w_segs [s] (fun x hx => by simp at hx; subst hx; exact hs)]
  unfold segsF
  rw [if_neg (by simp)]
  unfold listF listF
  split <;> simp_all
theorem zero_eq (s : Tapi_Segment) : m_scheme_isZero s = some (bareF s) := by
  unfold m_scheme_isZero sims_G6_0_0; dsimp only
  simp only [andO_some, Option.bind_some]; rfl
theorem head_eq (l : List Br) (v : Bool) : (orO (v || decide ((l.length : Int) = 0)) ((getI l 0).bind fun e => some !decide (e.fName = []))) = some (v || badHead l) := by
  cases l with
  | nil => cases v <;> rfl
  | cons c l =>
    rw [decide_eq_false (by simp only [List.length_cons]; omega)]
    have : getI (c :: l) 0 = some c := rfl
    simp only [this, Option.bind_some, orO_some, Bool.or_false, badHead]
theorem p_branch {fu : Nat} {b : Br} {deep many : Int} {g : List Br → Int → Int × Int} (hb : ShB b) (h0 : 0 ≤ many) (h1 : many ≤ 2001) (hd0 : 0 ≤ deep) (hd : deep ≤ 7)
    (hrec : deep ≤ 6 → m_interchange_scheme_pathed_list fu ⟨many⟩ b.fKids (deep + 1) = some ((g b.fKids many).1, ⟨(g b.fKids many).2⟩)) :
    m_interchange_scheme_pathed_branch (fu + 1) ⟨many⟩ b deep = some ((brF g deep many b).1, ⟨(brF g deep many b).2⟩) := by
  rw [m_interchange_scheme_pathed_branch_succ]; unfold step_G6_5_0; dsimp only; simp only [m_interchange_scheme_pathed_list_fold]
  rw [wrap64 (many + 1) (by omega) (by omega), wrap64 (deep + 1) (by omega) (by omega)]
  unfold brF cntB formB
  by_cases hn : b.fName = []
  · simp only [hn, decide_true, cond_true, if_true, orO_some, andO_some, Option.bind_some, Bool.not_true, Bool.false_and, ne_eq, not_true_eq_false, false_and, if_false]
    by_cases c1 : 2000 < many + 1 ∨ 6 < deep
    · rw [if_pos c1]
      have : (decide (2000 < many + 1) || decide (6 < deep)) = true := by simpa using c1
      rw [this]; rfl
    · rw [if_neg c1]
      have : (decide (2000 < many + 1) || decide (6 < deep)) = false := by simpa using c1
      rw [this]
      simp only [cond_false, andO, Option.bind_some, Bool.true_and]
      cases c2 : decide (0 < (b.fKids.length : Int)) with
      | true => rfl
      | false =>
        simp only [cond_false, Bool.false_eq_true, if_false]
        rw [seg_one hb.tag]; rfl
  · have hn' : decide (b.fName = []) = false := decide_eq_false hn
    simp only [hn', cond_false, hn, if_false, Bool.not_false, Bool.false_and, orO_some, andO_some, Option.bind_some, Bool.true_and, ne_eq, not_false_eq_true, true_and, decide_false, zero_eq, head_eq]
    by_cases c1 : 2000 < many ∨ 6 < deep
    · rw [if_pos c1]
      have : (decide (2000 < many) || decide (6 < deep)) = true := by simpa using c1
      rw [this]; rfl
    · rw [if_neg c1]
      have : (decide (2000 < many) || decide (6 < deep)) = false := by simpa using c1
      rw [this, w_name _ hb.name]
      simp only [cond_false, Option.bind_some]
      cases c2 : nameF b.fName with
      | false => rfl
      | true =>
        simp only [Bool.not_true, cond_false, Bool.true_eq_false, if_false]
        try simp only [Option.bind_some, andO_some, Bool.true_and]
        cases c3 : (!bareF b.fSegment || badHead b.fKids) with
        | true => rfl
        | false =>
          simp only [cond_false, Bool.false_eq_true, if_false]
          rw [hrec (by omega)]; rfl
theorem p_tree : ∀ (k : Nat) (deep : Nat) (l : List Br) (many : Int) (fu : Nat), deep ≤ 7 → 8 ≤ k + deep → 2 * k ≤ fu → 0 ≤ many → many ≤ 2000 → (∀ b ∈ l, ShB b) → l.length ≤ MX →
    m_interchange_scheme_pathed_list fu ⟨many⟩ l (deep : Int) = some ((ctF k l deep many).1, ⟨(ctF k l deep many).2⟩)
  | 0, deep, _, _, _, h1, h2, _, _, _, _, _ => by omega
  | k + 1, deep, l, many, 0, _, _, h3, _, _, _, _ => by omega
  | k + 1, deep, l, many, 1, _, _, h3, _, _, _, _ => by omega
  | k + 1, deep, l, many, fu + 2, h1, h2, h3, h4, h5, hl, hlen => by
    rw [m_interchange_scheme_pathed_list_succ]; unfold step_G6_5_0; dsimp only; simp only [m_interchange_scheme_pathed_branch_fold]
    have hMX : MX = 9223372036854775807 := rfl
    refine bind_loop (loop_inv l (fun i (s : Int) => (s, (i : Int))) (fun s e => if (brF (fun kids m => ctF k kids ((deep : Int) + 1) m) deep s e).1 = 0 then .inl (brF (fun kids m => ctF k kids ((deep : Int) + 1) m) deep s e).2 else .inr (.inr ((brF (fun kids m => ctF k kids ((deep : Int) + 1) m) deep s e).1, ⟨(brF (fun kids m => ctF k kids ((deep : Int) + 1) m) deep s e).2⟩)))
      (fun s => .inl (s, (l.length : Int))) (fun s => 0 ≤ s ∧ s ≤ 2000) (fun i e s he hs => ?_) (fun e s s' he hs hg => ?_) (fun s hs => ?_) many ⟨h4, h5⟩) ?_
    · have hi := get_le he
      have hm := List.mem_of_getElem? he
      simp only [lt_dec hi, cond_true, getI_nat, he, Option.bind_some, wrapN i (by omega)]
      rw [Tapi_Branch_eta e, p_branch (g := fun kids m => ctF k kids ((deep : Int) + 1) m) (hl e hm) hs.1 (by omega) (by omega) (by omega) (fun hd => ?_)]
      · simp only [Option.bind_some]
        by_cases hf : (brF (fun kids m => ctF k kids ((deep : Int) + 1) m) deep s e).1 = 0
        · rw [if_pos hf, decide_eq_true hf]; rfl
        · rw [if_neg hf, decide_eq_false hf]; rfl
      · exact p_tree k (deep + 1) e.fKids s fu (by omega) (by omega) (by omega) hs.1 hs.2 (hl e hm).kids (hl e hm).len
    · by_cases hf : (brF (fun kids m => ctF k kids ((deep : Int) + 1) m) deep s e).1 = 0
      · rw [if_pos hf] at hg
        cases hg
        have := br_ok (fun l m h0 h => ct_ok k h0 h) hs.1 hf
        exact ⟨by omega, this.2⟩
      · rw [if_neg hf] at hg; cases hg
    · simp only [lt_dec_self, cond_false]; rfl
    · rw [run_li (R := Int × Tscheme_pathed) (ret := fun r => (r.1, ⟨r.2⟩)) (i := 0)]
      show _ = some ((liF _ l many).1, _)
      by_cases hf : (liF (brF (fun kids m => ctF k kids ((deep : Int) + 1) m) deep) l many).1 = 0
      · rw [if_pos hf]
        show some (0, _) = _
        rw [← hf]; rfl
      · rw [if_neg hf]; rfl
theorem p_check (l : List Br) (hl : ∀ b ∈ l, ShB b) (hlen : l.length ≤ MX) : m_scheme_CheckTree l = some (ctF 8 l 0 0).1 := by
  have hFU := FU_big
  unfold m_scheme_CheckTree sims_G6_6_0; dsimp only
  have := p_tree 8 0 l 0 FU (by omega) (by omega) (by omega) (by omega) (by omega) hl hlen
  rw [show (0 : Int) = ((0 : Nat) : Int) from rfl] at *
  rw [this]; rfl
end Go.Proofs.YtdkncdkdbddgoaaGreatDoor

/-
  Plain laws: CheckTree of the reference; what a right tree is.
-/
namespace Go.Proofs.YtdkncdkdbddgoaaGreatDoor
set_option linter.unusedSimpArgs false
set_option linter.unusedVariables false
open Go.RowKit

theorem rt_nil (fu : Nat) (d m : Int) : m_interchangeref3_checkTree (fu + 1) [] d m = some (m, 0) := by
  rw [m_interchangeref3_checkTree_succ]; unfold step_G6_3_1; dsimp only; simp only [m_interchangeref3_checkTree_fold]
  rw [loopC_eq]; rfl
theorem r_tree : ∀ (k : Nat) (deep : Nat) (l : List Br) (many : Int) (fu : Nat), deep ≤ 7 → 8 ≤ k + deep → k + 1 ≤ fu → 0 ≤ many → many ≤ 2000 → (∀ b ∈ l, ShB b) → l.length ≤ MX →
    m_interchangeref3_checkTree fu l (deep : Int) many = some ((ctF k l deep many).2, (ctF k l deep many).1)
  | 0, deep, _, _, _, h1, h2, _, _, _, _, _ => by omega
  | k + 1, deep, l, many, 0, _, _, h3, _, _, _, _ => by omega
  | k + 1, deep, l, many, 1, _, _, h3, _, _, _, _ => by omega
  | k + 1, deep, l, many, fu + 2, h1, h2, h3, h4, h5, hl, hlen => by
    rw [m_interchangeref3_checkTree_succ]; unfold step_G6_3_1; dsimp only; simp only [m_interchangeref3_checkTree_fold]
    have hMX : MX = 9223372036854775807 := rfl
    refine bind_loop (loop_inv l (fun i (s : Int) => (s, (i : Int))) (fun s e => if (brF (fun kids m => ctF k kids ((deep : Int) + 1) m) deep s e).1 = 0 then .inl (brF (fun kids m => ctF k kids ((deep : Int) + 1) m) deep s e).2 else .inr (.inr ((brF (fun kids m => ctF k kids ((deep : Int) + 1) m) deep s e).2, (brF (fun kids m => ctF k kids ((deep : Int) + 1) m) deep s e).1)))
      (fun s => .inl (s, (l.length : Int))) (fun s => 0 ≤ s ∧ s ≤ 2000) (fun i e s he hs => ?_) (fun e s s' he hs hg => ?_) (fun s hs => ?_) many ⟨h4, h5⟩) ?_
    · have hi := get_le he
      have hm := List.mem_of_getElem? he
      have hb := hl e hm
      simp only [lt_dec hi, cond_true, getI_nat, he, Option.bind_some, wrapN i (by omega)]
      rw [wrap64 (s + 1) (by omega) (by omega), wrap64 ((deep : Int) + 1) (by omega) (by omega)]
      have hrec : ∀ m : Int, 0 ≤ m → m ≤ 2000 → deep ≤ 6 → m_interchangeref3_checkTree (fu + 1) e.fKids ((deep : Int) + 1) m = some ((ctF k e.fKids ((deep : Int) + 1) m).2, (ctF k e.fKids ((deep : Int) + 1) m).1) := fun m k1 k2 k3 => by
        exact r_tree k (deep + 1) e.fKids m (fu + 1) (by omega) (by omega) (by omega) k1 k2 hb.kids hb.len
      unfold brF cntB formB
      by_cases hn : e.fName = []
      · simp only [hn, decide_true, cond_true, if_true, orO_some, andO_some, Option.bind_some, Bool.not_true, Bool.false_and, ne_eq, not_true_eq_false, false_and, if_false, Bool.true_and, andO, cond_false]
        by_cases c1 : 2000 < s + 1 ∨ 6 < (deep : Int)
        · rw [if_pos c1]
          have : (decide (2000 < s + 1) || decide (6 < (deep : Int))) = true := by simpa using c1
          rw [this]; rfl
        · rw [if_neg c1]
          have : (decide (2000 < s + 1) || decide (6 < (deep : Int))) = false := by simpa using c1
          rw [this]
          simp only [cond_false]
          have hx : ∀ (c : Option Bool), c = some (decide (e.fSegment.fTag = []) && decide ((e.fSegment.fElements.length : Int) = 0)) → True := fun _ _ => trivial
          have hz : ∃ v, (bif decide (e.fSegment.fTag = []) then some (decide ((e.fSegment.fElements.length : Int) = 0)) else some false) = some v := by cases decide (e.fSegment.fTag = []) <;> exact ⟨_, rfl⟩
          first
            | (obtain ⟨v, hv⟩ := hz
               rw [hv])
            | skip
          simp only [Option.bind_some, orO_some, Bool.or_false, orO]
          cases c2 : decide (0 < (e.fKids.length : Int)) with
          | true => rfl
          | false =>
            simp only [cond_false, Option.bind_some, Bool.false_eq_true, if_false]
            rw [r_one _ hb.tag]
            simp only [Option.bind_some]
            by_cases c3 : segF e.fSegment = 0
            · have hk : e.fKids = [] := by
                have := of_decide_eq_false c2
                exact List.length_eq_zero_iff.1 (by omega)
              rw [hk, c3, rt_nil]; rfl
            · rw [if_neg c3, decide_eq_false c3]; rfl
      · have hn' : decide (e.fName = []) = false := decide_eq_false hn
        simp only [hn', cond_false, hn, if_false, Bool.not_false, Bool.false_and, orO_some, andO_some, Option.bind_some, Bool.true_and, ne_eq, not_false_eq_true, true_and, decide_false]
        by_cases c1 : 2000 < s ∨ 6 < (deep : Int)
        · rw [if_pos c1]
          have : (decide (2000 < s) || decide (6 < (deep : Int))) = true := by simpa using c1
          rw [this]; rfl
        · rw [if_neg c1]
          have : (decide (2000 < s) || decide (6 < (deep : Int))) = false := by simpa using c1
          rw [this, r_name _ hb.name]
          simp only [cond_false, Option.bind_some]
          cases c2 : nameF e.fName with
          | false => rfl
          | true =>
            simp only [Bool.not_true, cond_false, Bool.true_eq_false, if_false, head_eq, Option.bind_some, andO_some, orO_some, Bool.true_and, Bool.false_or]
            have hbf : (decide (e.fSegment.fTag = []) && decide ((e.fSegment.fElements.length : Int) = 0)) = bareF e.fSegment := rfl
            rw [hbf]
            cases c3 : (!bareF e.fSegment || badHead e.fKids) with
            | true => rfl
            | false =>
              simp only [cond_false, Bool.false_eq_true, if_false]
              rw [hrec s hs.1 hs.2 (by omega)]
              simp only [Option.bind_some]
              by_cases hf : (ctF k e.fKids ((deep : Int) + 1) s).1 = 0
              · rw [if_pos hf, decide_eq_true hf]; rfl
              · rw [if_neg hf, decide_eq_false hf]; rfl
    · by_cases hf : (brF (fun kids m => ctF k kids ((deep : Int) + 1) m) deep s e).1 = 0
      · rw [if_pos hf] at hg
        cases hg
        have := br_ok (fun l m h0 h => ct_ok k h0 h) hs.1 hf
        exact ⟨by omega, this.2⟩
      · rw [if_neg hf] at hg; cases hg
    · simp only [lt_dec_self, cond_false]; rfl
    · rw [run_li (R := Int × Int) (ret := fun r => (r.2, r.1)) (i := 0)]
      show _ = some (_, (liF _ l many).1)
      by_cases hf : (liF (brF (fun kids m => ctF k kids ((deep : Int) + 1) m) deep) l many).1 = 0
      · rw [if_pos hf]
        show some (_, 0) = _
        rw [← hf]; rfl
      · rw [if_neg hf]; rfl
theorem r_check (l : List Br) (hl : ∀ b ∈ l, ShB b) (hlen : l.length ≤ MX) : m_interchangeref3_CheckTree l = some (ctF 8 l 0 0).1 := by
  have hFU := FU_big
  unfold m_interchangeref3_CheckTree sims_G6_4_0; dsimp only
  have := r_tree 8 0 l 0 FU (by omega) (by omega) (by omega) (by omega) (by omega) hl hlen
  rw [show (0 : Int) = ((0 : Nat) : Int) from rfl] at *
  rw [this]; rfl

/-! ### A right tree -/
def LeafOk (b : Br) : Prop := b.fName = [] ∧ segF b.fSegment = 0 ∧ b.fKids = []
def TOk : Nat → List Br → Prop
  | 0, l => l = []
  | d + 1, l => ∀ b ∈ l, LeafOk b ∨ (b.fName ≠ [] ∧ bareF b.fSegment = true ∧ badHead b.fKids = false ∧ TOk d b.fKids)
def leaves : Nat → List Br → Nat
  | 0, _ => 0
  | d + 1, l => (l.map fun b => if b.fName = [] then 1 else leaves d b.fKids).sum
theorem ct_zero : ∀ (d : Nat) (l : List Br) (many : Int), d ≤ 7 → (ctF (d + 1) l (7 - (d : Int)) many).1 = 0 → TOk d l ∧ (ctF (d + 1) l (7 - (d : Int)) many).2 = many + leaves d l
  | 0, [], many, _, _ => ⟨rfl, by simp [ctF, liF, leaves]⟩
  | 0, b :: l, many, _, h => by
    exfalso
    have hz : (brF (fun kids m => ctF 0 kids (7 - ((0 : Nat) : Int) + 1) m) (7 - ((0 : Nat) : Int)) many b).1 ≠ 0 := by
      unfold brF
      rw [if_pos (.inr (by omega))]; simp
    unfold ctF liF at h
    rw [if_neg hz] at h
    exact hz h
  | d + 1, [], many, _, _ => ⟨(fun b hb => by cases hb), by simp [ctF, liF, leaves]⟩
  | d + 1, b :: l, many, hd, h => by
    have hdeep : (7 - ((d + 1 : Nat) : Int)) + 1 = 7 - (d : Int) := by omega
    have hstep : ∀ (l : List Br) (m : Int), ctF (d + 1 + 1) l (7 - ((d + 1 : Nat) : Int)) m = liF (brF (fun kids m => ctF (d + 1) kids (7 - (d : Int)) m) (7 - ((d + 1 : Nat) : Int))) l m := fun l m => by
      show liF (brF (fun kids m => ctF (d + 1) kids (7 - ((d + 1 : Nat) : Int) + 1) m) (7 - ((d + 1 : Nat) : Int))) l m = _
      rw [hdeep]
    rw [hstep] at h ⊢
    unfold liF at h ⊢
    by_cases hb : (brF (fun kids m => ctF (d + 1) kids (7 - (d : Int)) m) (7 - ((d + 1 : Nat) : Int)) many b).1 = 0
    · rw [if_pos hb] at h ⊢
      rw [← hstep] at h ⊢
      obtain ⟨k1, k2⟩ := ct_zero (d + 1) l _ hd h
      have hone : (LeafOk b ∨ (b.fName ≠ [] ∧ bareF b.fSegment = true ∧ badHead b.fKids = false ∧ TOk d b.fKids)) ∧ (brF (fun kids m => ctF (d + 1) kids (7 - (d : Int)) m) (7 - ((d + 1 : Nat) : Int)) many b).2 = many + ((if b.fName = [] then 1 else leaves d b.fKids : Nat) : Int) := by
        unfold brF at hb ⊢
        split at hb
        · cases hb
        · rename_i c1
          rw [if_neg c1]
          split at hb
          · cases hb
          · rename_i c2
            rw [if_neg c2]
            split at hb
            · cases hb
            · rename_i c3
              rw [if_neg c3]
              unfold cntB formB at *
              by_cases hn : b.fName = []
              · simp only [hn, if_true, decide_true, cond_true, decide_eq_true_eq] at hb c3 ⊢
                exact ⟨.inl ⟨hn, hb, List.length_eq_zero_iff.1 (by omega)⟩, rfl⟩
              · simp only [hn, if_false, decide_false, cond_false, Bool.or_eq_true, Bool.not_eq_true', not_or, Bool.not_eq_false, Bool.not_eq_true] at hb c3 ⊢
                obtain ⟨q1, q2⟩ := ct_zero d b.fKids many (by omega) hb
                exact ⟨.inr ⟨hn, c3.1, c3.2, q1⟩, q2⟩
      refine ⟨fun q hq => ?_, ?_⟩
      · rcases List.mem_cons.1 hq with rfl | hq
        · exact hone.1
        · exact k1 q hq
      · rw [k2, hone.2]
        simp only [leaves, List.map_cons, List.sum_cons]
        omega
    · rw [if_neg hb] at h
      exact absurd h hb
/-- What CheckTree lets be. -/
theorem tree_ok {l : List Br} (h : (ctF 8 l 0 0).1 = 0) : TOk 7 l ∧ leaves 7 l ≤ 2000 := by
  obtain ⟨h1, h2⟩ := ct_zero 7 l 0 (by omega) h
  have h3 := (ct_ok 8 (l := l) (deep := 0) (many := 0) (by omega) h).2 (by omega)
  have h4 : (ctF 8 l 0 0).2 = 0 + leaves 7 l := h2
  exact ⟨h1, by omega⟩
theorem tok_up : ∀ (d : Nat) {l : List Br}, TOk d l → TOk (d + 1) l
  | 0, l, h => by
    have h : l = [] := h
    subst h
    intro b hb; cases hb
  | d + 1, l, h => fun b hb => by
    rcases h b hb with h | ⟨h1, h2, h3, h4⟩
    · exact .inl h
    · exact .inr ⟨h1, h2, h3, tok_up d h4⟩
theorem leaves_up : ∀ (d : Nat) {l : List Br}, TOk d l → leaves (d + 1) l = leaves d l
  | 0, l, h => by
    have h : l = [] := h
    subst h; rfl
  | d + 1, l, h => by
    show (l.map _).sum = (l.map _).sum
    congr 1
    refine List.map_congr_left fun b hb => ?_
    rcases h b hb with h | ⟨h1, h2, h3, h4⟩
    · rw [if_pos h.1, if_pos h.1]
    · rw [if_neg h1, if_neg h1, leaves_up d h4]
/-- How many branches there are in a right tree, in all lists. -/
theorem leaf_pos (d : Nat) {l : List Br} (h : TOk d l) (hb : badHead l = false) : 1 ≤ leaves d l := by
  cases d with
  | zero => have h : l = [] := h; subst h; cases hb
  | succ d =>
    cases l with
    | nil => cases hb
    | cons c l =>
      have hc : c.fName = [] := by simpa [badHead] using hb
      simp only [leaves, List.map_cons, List.sum_cons, hc, if_true]
      omega
theorem len_leaves (d : Nat) {l : List Br} (h : TOk d l) : l.length ≤ leaves d l := by
  cases d with
  | zero => have h : l = [] := h; subst h; simp
  | succ d =>
    rw [← len_sum l]
    refine sum_map_le fun b hb => ?_
    rcases h b hb with h | ⟨h1, h2, h3, h4⟩
    · rw [if_pos h.1]; omega
    · rw [if_neg h1]; exact leaf_pos d h4 h3
end Go.Proofs.YtdkncdkdbddgoaaGreatDoor

/-
  A stub.
-/


/-
  Plain laws: loops that put something behind; segments of texts; numbers as texts.
-/
namespace Go.Proofs.YtdkncdkdbddgoaaGreatDoor
set_option linter.unusedSimpArgs false
set_option linter.unusedVariables false
open Go.RowKit

/-! ### Loops that put something behind for each element -/
theorem app_loop {α β R : Type} (l : List α) (base : List β) (f : α → List β) (B : Nat) (hB : (base ++ l.flatMap f).length ≤ B) {F : List β × Int → Option ((List β × Int) ⊕ ((List β × Int) ⊕ R))} (K : List β × Int → Option R)
    (hb : ∀ (i : Nat) e (out : List β), l[i]? = some e → out.length + (f e).length ≤ B → F (out, (i : Int)) = some (.inl (out ++ f e, ((i + 1 : Nat) : Int)))) (he : ∀ out, F (out, (l.length : Int)) = some (.inr (.inl (out, (l.length : Int))))) :
    (loopC F (base, 0)).bind (outK K) = K (base ++ l.flatMap f, (l.length : Int)) := by
  refine bind_loop (a := .inl (base ++ l.flatMap f, (l.length : Int))) ?_ rfl
  have h := loop_pre (f := F) (a := .inl (base ++ l.flatMap f, (l.length : Int))) l (fun i q => (base ++ q.flatMap f, (i : Int))) (fun i e h => ?_) (he _)
  · simpa using h
  · have hlen : (base ++ (l.take i).flatMap f).length + (f e).length ≤ B := by
      have h1 : l.flatMap f = (l.take i).flatMap f ++ (f e ++ (l.drop (i + 1)).flatMap f) := by
        conv => lhs; rw [← List.take_append_drop i l]
        rw [List.flatMap_append, List.drop_eq_getElem_cons (get_le h)]
        rw [List.flatMap_cons]
        have : l[i]'(get_le h) = e := by
          have := List.getElem?_eq_getElem (get_le h)
          rw [h] at this; exact (Option.some.inj this).symm
        rw [this]
      rw [h1] at hB
      simp only [List.length_append] at hB ⊢
      omega
    rw [hb i e _ h hlen]
    simp [List.append_assoc]
/-! ### Segments of texts -/
abbrev i64 (n : Int) : Prop := -9223372036854775808 ≤ n ∧ n ≤ 9223372036854775807
end Go.Proofs.YtdkncdkdbddgoaaGreatDoor

/-
  Plain laws: groups to which names lead.
-/
namespace Go.Proofs.YtdkncdkdbddgoaaGreatDoor
set_option linter.unusedSimpArgs false
set_option linter.unusedVariables false
open Go.RowKit

theorem runL_all {α R : Type} (q : α → Bool) (a : R) (z : Int) : ∀ (l : List α), runL (fun (_ : Unit) e => if q e = true then (.inl () : Unit ⊕ (Int ⊕ R)) else .inr (.inr a)) (fun _ => .inl z) l () = if l.all q = true then .inl z else .inr a
  | [] => by simp [runL]
  | e :: l => by
    unfold runL
    cases h : q e with
    | true => simp only [if_true, List.all_cons, h, Bool.true_and]; exact runL_all q a z l
    | false => simp [h]
theorem loop_allU {α R : Type} (l : List α) (q : α → Bool) (a : R) {f : Int → Option (Int ⊕ (Int ⊕ R))} {K : Int → Option R}
    (hb : ∀ (i : Nat) (e : α), l[i]? = some e → f (i : Int) = if q e = true then some (.inl ((i + 1 : Nat) : Int)) else some (.inr (.inr a))) (he : f (l.length : Int) = some (.inr (.inl (l.length : Int)))) :
    (loopC f 0).bind (outK K) = if l.all q = true then K (l.length : Int) else some a := by
  have := loop_inv l (fun i (_ : Unit) => (i : Int)) (fun _ e => if q e = true then (.inl () : Unit ⊕ (Int ⊕ R)) else .inr (.inr a)) (fun _ => .inl (l.length : Int)) (fun _ => True) (f := f) (fun i e s h _ => by
    rw [hb i e h]; split <;> rfl) (fun _ _ _ _ _ _ => trivial) (fun _ _ => he) () trivial
  have h0 : loopC f 0 = _ := this
  rw [h0, runL_all]
  simp only [Option.bind_some]
  split <;> rfl

/-! ### Names of a path -/
theorem anyS_eq (l : List (List UInt8)) (hl : l.length ≤ MX) (f1 : FuncId) (c1 : List DV) (p1 : List UInt8 → Option Bool) (h1) (q : List UInt8 → Bool) (hq : ∀ a ∈ l, p1 a = some (q a)) :
    m_slices_ContainsFunc_string_string l f1 c1 p1 h1 = some (l.any q) := by
  unfold MX at hl
  unfold m_slices_ContainsFunc_string_string sims_G7_1_1; dsimp only
  unfold m_slices_IndexFunc_string_string sims_G7_0_1; dsimp only
  generalize hf : (fun s : Int => _) = f
  have key := loop_first (f := f) (z := .inl (l.length : Int)) (fun i : Nat => (i : Int)) l.length (fun i => match l[i]? with | some o => if q o = true then some (.inr (i : Int)) else none | none => none) (fun i hi hg => by
    subst hf
    obtain ⟨e, he⟩ := get_lt hi
    simp only [he] at hg
    cases hb : q e with
    | true => simp [hb] at hg
    | false => simp only [lt_dec hi, cond_true, getI_nat, he, Option.bind_some, hq e (List.mem_of_getElem? he), hb, cond_false, wrapN i (by omega)]) (fun i a hi hg => by
    subst hf
    obtain ⟨e, he⟩ := get_lt hi
    simp only [he] at hg
    cases hb : q e with
    | false => simp [hb] at hg
    | true =>
      simp only [hb, if_true, Option.some.injEq] at hg
      simp only [lt_dec hi, cond_true, getI_nat, he, Option.bind_some, hq e (List.mem_of_getElem? he), hb, ← hg]; rfl) (by
    subst hf
    simp only [lt_dec_self, cond_false]; rfl)
  rw [show ((0 : Nat) : Int) = 0 from rfl] at key
  rw [key]
  rcases firstS_cases (fun i => match l[i]? with | some o => if q o = true then some (.inr (i : Int)) else none | none => (none : Option (Int ⊕ Int))) l.length with ⟨h1, h2⟩ | ⟨k, a, h1, h2, h3, h4⟩
  · rw [h1]
    have : l.any q = false := by
      rw [List.any_eq_false]
      intro x hx
      obtain ⟨i, hi, rfl⟩ := List.mem_iff_getElem.1 hx
      have := h2 i hi
      simp only [List.getElem?_eq_getElem hi] at this
      intro hb; simp [hb] at this
    rw [this]; rfl
  · rw [h4]
    obtain ⟨e, he⟩ := get_lt h1
    simp only [he] at h3
    cases hb : q e with
    | false => simp [hb] at h3
    | true =>
      simp only [hb, if_true, Option.some.injEq] at h3
      have : l.any q = true := List.any_eq_true.2 ⟨e, List.mem_of_getElem? he, hb⟩
      rw [this, ← h3]
      simp [outK]
theorem any_not (l : List (List UInt8)) : (!l.any fun s => !nameF s) = l.all nameF := by
  induction l with
  | nil => rfl
  | cons a l ih => simp only [List.any_cons, List.all_cons, Bool.not_or, Bool.not_not, ih]
theorem names_eq {s : List UInt8} (hs : s.length ≤ 200) : m_scheme_namesOf s = some (Lib.split s [47], (Lib.split s [47]).all nameF) := by
  obtain ⟨L, t, h, hsp⟩ := Pcs.of (c := 47) (s := s)
  obtain ⟨l1, l2, l3⟩ := h.len
  have hMX : MX = 9223372036854775807 := rfl
  have hm : m_strings_Split s [47] = some (Lib.split s [47]) := by
    unfold m_strings_Split; rw [if_pos ⟨by omega, by decide⟩]
  have hle : ∀ e ∈ Lib.split s [47], e.length ≤ MX := fun e he => by
    rw [hsp] at he
    rcases List.mem_append.1 he with he | he
    · have := l3 e he; omega
    · rw [List.mem_singleton.1 he]; omega
  unfold m_scheme_namesOf sims_G7_2_0; dsimp only
  rw [hm]
  simp only [Option.bind_some]
  rw [anyS_eq _ (by rw [hsp]; simp only [List.length_append, List.length_cons, List.length_nil]; omega) _ _ _ _ (fun s => !nameF s) (fun a ha => by
    unfold m_scheme_namesOf_1 sims_G7_0_2; dsimp only
    rw [w_name a (hle a ha)]; rfl)]
  simp only [Option.bind_some, any_not]
theorem groups_check (s : List UInt8) : m_scheme_CheckGroups s = some (if 200 < s.length then 2 else if s ≠ [] ∧ (Lib.split s [47]).all nameF = false then 10 else 0) := by
  unfold m_scheme_CheckGroups sims_G7_3_1; dsimp only
  by_cases h : 200 < s.length
  · rw [decide_eq_true (by omega), if_pos h]; rfl
  · rw [decide_eq_false (by omega), if_neg h, names_eq (by omega)]
    simp only [cond_false, Option.bind_some, andO_some]
    by_cases h0 : s = []
    · subst h0; rfl
    · rw [decide_eq_false h0]
      cases (Lib.split s [47]).all nameF <;> simp [h0]

/-! ### Groups -/
def kidsN (n : List UInt8) (l : List Br) : List (List Br) := l.flatMap fun b => if b.fName = n then [b.fKids] else []
def insF : List (List UInt8) → List Br → List (List Br)
  | [], l => [l]
  | n :: ns, l => (kidsN n l).flatMap (insF ns)
def levF : List (List UInt8) → List (List Br) → List (List Br)
  | [], ls => ls
  | n :: ns, ls => levF ns (ls.flatMap (kidsN n))
theorem lev_ins : ∀ (ns : List (List UInt8)) (ls : List (List Br)), levF ns ls = ls.flatMap (insF ns)
  | [], ls => by
    show ls = ls.flatMap fun l => [l]
    induction ls with
    | nil => rfl
    | cons a l ih => rw [List.flatMap_cons, ← ih]; rfl
  | n :: ns, ls => by
    show levF ns (ls.flatMap (kidsN n)) = _
    rw [lev_ins ns, flatMap_flatMap]; rfl
abbrev T7 (l : List Br) : Prop := TOk 7 l
abbrev L7 (l : List Br) : Nat := leaves 7 l
theorem t7_kids {l : List Br} (h : T7 l) {b : Br} (hb : b ∈ l) (hn : b.fName ≠ []) : T7 b.fKids ∧ 1 ≤ L7 b.fKids ∧ badHead b.fKids = false ∧ L7 b.fKids = leaves 6 b.fKids := by
  rcases h b hb with h | ⟨h1, h2, h3, h4⟩
  · exact absurd h.1 hn
  · have e := leaves_up 6 h4
    exact ⟨tok_up 6 h4, by show 1 ≤ leaves 7 _; rw [e]; exact leaf_pos 6 h4 h3, h3, e⟩
theorem kidsN_mem {n : List UInt8} {l : List Br} {k : List Br} (h : k ∈ kidsN n l) : ∃ b ∈ l, b.fName = n ∧ b.fKids = k := by
  obtain ⟨b, hb, hk⟩ := List.mem_flatMap.1 h
  split at hk
  · rename_i hn; exact ⟨b, hb, hn, (List.mem_singleton.1 hk).symm⟩
  · cases hk
theorem kidsN_ok {n : List UInt8} (hn : n ≠ []) {l : List Br} (h : T7 l) : (∀ k ∈ kidsN n l, T7 k ∧ 1 ≤ L7 k) ∧ ((kidsN n l).map L7).sum ≤ L7 l ∧ (kidsN n l).length ≤ L7 l := by
  refine ⟨fun k hk => ?_, ?_, ?_⟩
  · obtain ⟨b, hb, h1, rfl⟩ := kidsN_mem hk
    have := t7_kids h hb (by rw [h1]; exact hn)
    exact ⟨this.1, this.2.1⟩
  · show ((l.flatMap _).map L7).sum ≤ (l.map _).sum
    rw [sum_flatMap]
    refine sum_map_le fun b hb => ?_
    split
    · rename_i h1
      have := t7_kids h hb (by rw [h1]; exact hn)
      rw [if_neg (by rw [h1]; exact hn)]
      simp only [List.map_cons, List.map_nil, List.sum_cons, List.sum_nil, Nat.add_zero]
      exact Nat.le_of_eq this.2.2.2
    · simp
  · show (l.flatMap _).length ≤ (l.map _).sum
    refine flatMap_len fun b hb => ?_
    split
    · rename_i h1
      have := t7_kids h hb (by rw [h1]; exact hn)
      rw [if_neg (by rw [h1]; exact hn), ← this.2.2.2]
      exact this.2.1
    · simp
/-- Lists that are right, and have so many segments together. -/
structure LsOk (ls : List (List Br)) : Prop where
  all : ∀ l ∈ ls, T7 l
  sum : (ls.map L7).sum ≤ 2000
  len : ls.length ≤ 2000
theorem LsOk.step {ls : List (List Br)} (h : LsOk ls) {n : List UInt8} (hn : n ≠ []) : LsOk (ls.flatMap (kidsN n)) := by
  refine ⟨fun k hk => ?_, ?_, ?_⟩
  · obtain ⟨l, hl, hk⟩ := List.mem_flatMap.1 hk
    exact ((kidsN_ok hn (h.all l hl)).1 k hk).1
  · rw [sum_flatMap]
    exact Nat.le_trans (sum_map_le fun l hl => (kidsN_ok hn (h.all l hl)).2.1) h.sum
  · exact Nat.le_trans (flatMap_len fun l hl => (kidsN_ok hn (h.all l hl)).2.2) h.sum
theorem LsOk.lens {ls : List (List Br)} (h : LsOk ls) : ∀ l ∈ ls, l.length ≤ 2000 := fun l hl => by
  have h1 := len_leaves 7 (h.all l hl)
  have h2 : ∀ (ls : List (List Br)), l ∈ ls → L7 l ≤ (ls.map L7).sum := fun ls => by
    induction ls with
    | nil => intro h; cases h
    | cons a ls ih =>
      intro h
      simp only [List.map_cons, List.sum_cons]
      rcases List.mem_cons.1 h with rfl | h
      · omega
      · have := ih h; omega
  have h3 := h2 ls hl
  have h4 := h.sum
  show l.length ≤ 2000
  have h5 : leaves 7 l = L7 l := rfl
  omega
theorem one_ok {l : List Br} (h : T7 l) (hL : L7 l ≤ 2000) : LsOk [l] := ⟨fun x hx => by rw [List.mem_singleton.1 hx]; exact h, by simpa using hL, by simp⟩
theorem lev_ok : ∀ {ns : List (List UInt8)} {ls : List (List Br)}, (∀ n ∈ ns, n ≠ []) → LsOk ls → LsOk (levF ns ls)
  | [], _, _, h => h
  | n :: ns, ls, hn, h => lev_ok (ns := ns) (fun m hm => hn m (by simp [hm])) (h.step (hn n (by simp)))
theorem lo_ok {R : Type} {n : Nat} {m : Option R} (h : n ≤ 10000000) : thenO (lenO n) m = m := thenO_some (lenO_ok (by omega))
theorem kids_eq {tree : List Br} {names : List (List UInt8)} (h : T7 tree) (hL : L7 tree ≤ 2000) (hn : ∀ n ∈ names, n ≠ []) (hlen : names.length ≤ 1000) : m_scheme_kidsOf tree names = some (levF names [tree]) := by
  unfold m_scheme_kidsOf sims_G7_0_5; dsimp only
  have key : ∀ (t : List (List UInt8)) (i : Nat) (ls : List (List Br)), names.drop i = t → i ≤ names.length → LsOk ls → ∀ {f : List (List Br) × Int → Option ((List (List Br) × Int) ⊕ ((List (List Br) × Int) ⊕ (List (List Br))))},
      (∀ s : List (List Br) × Int, f s = bif decide (s.snd < (names.length : Int)) then
                (getI names s.snd).bind fun e =>
                  (loopC
                        (fun s_1 : List (List Br) × Int =>
                          bif decide (s_1.snd < (s.fst.length : Int)) then
                            (getI s.fst s_1.snd).bind fun e_1 =>
                              (loopC
                                    (fun s : List (List Br) × Int =>
                                      bif decide (s.snd < (e_1.length : Int)) then
                                        (getI e_1 s.snd).bind fun e_2 =>
                                          bif decide (e_2.fName = e) then
                                            thenO (lenO (s.fst.length + [e_2.fKids].length))
                                              (some (Sum.inl (s.fst ++ [e_2.fKids], IntKind.i64.wrap (s.snd + 1))))
                                          else some (Sum.inl (s.fst, IntKind.i64.wrap (s.snd + 1)))
                                      else inrO (some (Sum.inl (s.fst, s.snd))))
                                    (s_1.fst, 0)).bind
                                (outK fun s => some (Sum.inl (s.fst, IntKind.i64.wrap (s_1.snd + 1))))
                          else inrO (some (Sum.inl (s_1.fst, s_1.snd))))
                        ([], 0)).bind
                    (outK fun s_1 => some (Sum.inl (s_1.fst, IntKind.i64.wrap (s.snd + 1))))
              else inrO (some (Sum.inl (s.fst, s.snd)))) → loopC f (ls, (i : Int)) = some (.inl (levF t ls, (names.length : Int))) := by
    intro t
    induction t with
    | nil =>
      intro i ls hd hi hls f hf
      have := drop_nil_len hd hi
      subst this
      rw [loopC_eq, hf]
      simp only [lt_dec_self, cond_false]; rfl
    | cons n t ih =>
      intro i ls hd hi hls f hf
      obtain ⟨h1, h2, h3⟩ := drop_head hd
      have hnn := hn n (List.mem_of_getElem? h1)
      have hstep := hls.step hnn
      have inner : f (ls, (i : Int)) = some (.inl (ls.flatMap (kidsN n), ((i + 1 : Nat) : Int))) := by
        rw [hf]
        simp only [lt_dec h2, cond_true, getI_nat, h1, Option.bind_some, wrapN i (by omega)]
        refine (app_loop ls [] (kidsN n) 2000 (by simpa using hstep.len) _ (fun k l out hk hout => ?_) (fun out => by simp only [lt_dec_self, cond_false]; rfl)).trans ?_
        · have hk2 := get_le hk
          have hkl := hls.len
          have hll := hls.lens l (List.mem_of_getElem? hk)
          simp only [lt_dec hk2, cond_true, getI_nat, hk, Option.bind_some, wrapN k (by omega)]
          refine (app_loop l out (fun b => if b.fName = n then [b.fKids] else []) 2000 (by rw [List.length_append]; exact hout) _ (fun j b o hj ho => ?_) (fun out => by simp only [lt_dec_self, cond_false]; rfl)).trans ?_
          · have hj2 := get_le hj
            simp only [lt_dec hj2, cond_true, getI_nat, hj, Option.bind_some, wrapN j (by omega)]
            by_cases hb : b.fName = n
            · rw [decide_eq_true hb, if_pos hb]
              simp only [cond_true]
              rw [if_pos hb] at ho
              rw [lo_ok (by omega)]
            · rw [decide_eq_false hb, if_neg hb]
              simp
          · rfl
        · rfl
      rw [loopC_eq, inner]
      exact ih (i + 1) _ h3 h2 hstep hf
  rw [show (0 : Int) = ((0 : Nat) : Int) from rfl]
  refine bind_loop (key names 0 [tree] rfl (Nat.zero_le _) (one_ok h hL) (fun s => rfl)) rfl
theorem ins_len : ∀ (ns : List (List UInt8)) {l : List Br}, T7 l → (∀ n ∈ ns, n ≠ []) → 1 ≤ L7 l ∨ ns ≠ [] → (insF ns l).length ≤ L7 l
  | [], l, _, _, h => by
    rcases h with h | h
    · exact h
    · exact absurd rfl h
  | n :: ns, l, h, hn, _ => by
    obtain ⟨k1, k2, k3⟩ := kidsN_ok (hn n (by simp)) h
    show ((kidsN n l).flatMap (insF ns)).length ≤ L7 l
    refine Nat.le_trans (flatMap_len fun k hk => ?_) k2
    exact ins_len ns (k1 k hk).1 (fun m hm => hn m (by simp [hm])) (.inl (k1 k hk).2)
end Go.Proofs.YtdkncdkdbddgoaaGreatDoor

/-
  Plain laws: numbers of a path; the last mark.
-/
namespace Go.Proofs.YtdkncdkdbddgoaaGreatDoor
set_option linter.unusedSimpArgs false
set_option linter.unusedVariables false
open Go.RowKit

def isD (b : UInt8) : Bool := !(decide ((b.toNat : Int) < 48) || decide (57 < (b.toNat : Int)))
theorem isD_iff (b : UInt8) : isD b = true ↔ 48 ≤ b.toNat ∧ b.toNat ≤ 57 := by
  unfold isD
  simp only [Bool.not_eq_true', Bool.or_eq_false_iff, decide_eq_false_iff_not]
  omega
def h48 : List UInt8 → Bool
  | b :: _ => decide ((b.toNat : Int) = 48)
  | [] => false
def numOk (l : List UInt8) : Bool := !decide (l = []) && !decide (3 < (l.length : Int)) && l.all isD && !(decide (1 < (l.length : Int)) && h48 l)
noncomputable def numV (l : List UInt8) : Int := (m_strconv_Atoi l).getD 0
theorem dec_some : ∀ (l : List UInt8) (a : Nat), l.all isD = true → ∃ n, Lib.decFrom a l = some n
  | [], a, _ => ⟨a, rfl⟩
  | b :: l, a, h => by
    simp only [List.all_cons, Bool.and_eq_true] at h
    obtain ⟨n, hn⟩ := dec_some l (a * 10 + (b.toNat - 48)) h.2
    refine ⟨n, ?_⟩
    unfold Lib.decFrom Lib.digitVal
    rw [if_pos ((isD_iff b).1 h.1)]
    exact hn
theorem atoi_ok {l : List UInt8} (h1 : l ≠ []) (h2 : l.length ≤ 18) (h3 : l.all isD = true) : m_strconv_Atoi l = some (numV l) := by
  have : ∃ n, m_strconv_Atoi l = some n := by
    unfold m_strconv_Atoi
    rw [if_pos h2]
    cases l with
    | nil => exact absurd rfl h1
    | cons b r =>
      have hb := (isD_iff b).1 (by simp only [List.all_cons, Bool.and_eq_true] at h3; exact h3.1)
      obtain ⟨n, hn⟩ := dec_some (b :: r) 0 h3
      refine ⟨(n : Int), ?_⟩
      have e1 : (b == 45) = false := by rw [beq_eq_false_iff_ne]; rintro rfl; revert hb; decide
      have e2 : (b == 43) = false := by rw [beq_eq_false_iff_ne]; rintro rfl; revert hb; decide
      have e3 : Lib.decNat (b :: r) = some n := by unfold Lib.decNat; rw [if_neg (by simp)]; exact hn
      simp only [Lib.atoi, e1, e2, e3]
      rfl
  obtain ⟨n, hn⟩ := this
  unfold numV
  rw [hn]; rfl
theorem inb_dig (l : List UInt8) (hl : l.length ≤ 1000) : m_kit_InBytes l (UInt8.ofNat (Int.toNat 48)) (UInt8.ofNat (Int.toNat 57)) = some (l.all isD) := by
  have a1 : ((UInt8.ofNat (Int.toNat 48)).toNat : Int) = 48 := by decide
  have a2 : ((UInt8.ofNat (Int.toNat 57)).toNat : Int) = 57 := by decide
  unfold m_kit_InBytes sims_G6_0_0; dsimp only
  refine (loop_allU l isD false (fun i e he => ?_) (by simp only [lt_dec_self, cond_false]; rfl)).trans ?_
  · have hi := get_le he
    simp only [lt_dec hi, cond_true, getI_nat, he, Option.bind_some, orO_some, wrapN i (by omega), a1, a2]
    unfold isD
    cases (decide ((e.toNat : Int) < 48) || decide (57 < (e.toNat : Int))) <;> rfl
  · cases l.all isD <;> rfl
theorem num_p (l : List UInt8) (hl : l.length ≤ 1000) : m_kit_Number l 3 = some (if numOk l = true then (numV l, true) else (0, false)) := by
  have hd : m_kit_IsDigits l = some (!decide (l = []) && l.all isD) := by
    unfold m_kit_IsDigits sims_G7_0_3; dsimp only
    rw [inb_dig l hl]
    simp only [Option.bind_some, andO_some]
  unfold m_kit_Number sims_G7_1_2; dsimp only
  rw [hd]
  unfold numOk
  cases l with
  | nil => rfl
  | cons b r =>
    have hg : getI (b :: r) 0 = some b := rfl
    simp only [hg, Option.bind_some, orO_some, andO_some, h48, show decide (b :: r = []) = false from rfl, Bool.not_false, Bool.true_and]
    cases h1 : decide (3 < ((b :: r).length : Int)) with
    | true => rfl
    | false =>
    cases h2 : (b :: r).all isD with
    | false => rfl
    | true =>
    cases h3 : (decide (1 < ((b :: r).length : Int)) && decide ((b.toNat : Int) = 48)) with
    | true => rfl
    | false =>
      simp only [Bool.not_true, Bool.or_self, Bool.not_false, Bool.and_self, cond_false, if_true]
      rw [atoi_ok (by simp) (by have := of_decide_eq_false h1; omega) h2]
      rfl
theorem num_r (l : List UInt8) (hl : l.length ≤ 1000) : m_interchangeref3_counted l 3 = some (if numOk l = true then (numV l, true) else (0, false)) := by
  unfold m_interchangeref3_counted sims_G7_0_7; dsimp only
  unfold numOk
  cases l with
  | nil => rfl
  | cons b r =>
    have hg : getI (b :: r) 0 = some b := rfl
    simp only [hg, Option.bind_some, orO_some, andO_some, h48, show decide (b :: r = []) = false from rfl, Bool.not_false, Bool.true_and, Bool.false_or]
    cases h1 : decide (3 < ((b :: r).length : Int)) with
    | true => rfl
    | false =>
    cases h3 : (decide (1 < ((b :: r).length : Int)) && decide ((b.toNat : Int) = 48)) with
    | true => simp
    | false =>
      simp only [Bool.or_self, cond_false]
      refine (loop_allU (b :: r) isD (0, false) (fun i e he => ?_) (by simp only [lt_dec_self, cond_false]; rfl)).trans ?_
      · have hi := get_le he
        simp only [lt_dec hi, cond_true, getI_nat, he, Option.bind_some, orO_some, wrapN i (by omega)]
        unfold isD
        cases (decide ((e.toNat : Int) < 48) || decide (57 < (e.toNat : Int))) <;> rfl
      · cases h2 : (b :: r).all isD with
        | false => rfl
        | true =>
          simp only [if_true]
          rw [atoi_ok (by simp) (by have := of_decide_eq_false h1; omega) h2]
          rfl
/-- A number from 1 to most. -/
noncomputable def numE (most : Int) (l : List UInt8) : Option Int := if numOk l = true ∧ 1 ≤ numV l ∧ numV l ≤ most then some (numV l) else none
theorem out_eq (n lo hi : Int) : m_kit_Outside n lo hi = some (decide (n < lo) || decide (hi < n)) := by
  unfold m_kit_Outside sims_G7_0_4; dsimp only
  simp only [orO_some, Option.bind_some]
theorem small_r (l : List UInt8) (most : Int) (hl : l.length ≤ 1000) : ∃ n, m_interchangeref3_small l most = some (n, (numE most l).isSome) ∧ ∀ k, numE most l = some k → n = k := by
  have hw : ∀ n, m_interchangeref3_within n 1 most = some (decide (1 ≤ n) && decide (n ≤ most)) := fun n => by
    unfold m_interchangeref3_within sims_G7_0_8; dsimp only
    simp only [andO_some, Option.bind_some]
  unfold m_interchangeref3_small sims_G7_1_4; dsimp only
  rw [num_r l hl]
  unfold numE
  by_cases h : numOk l = true
  · simp only [h, if_true, Option.bind_some, hw, andO_some, true_and, Bool.true_and]
    by_cases hr : 1 ≤ numV l ∧ numV l ≤ most
    · rw [if_pos hr, decide_eq_true hr.1, decide_eq_true hr.2]
      exact ⟨_, rfl, fun k hk => by cases hk; rfl⟩
    · have : (decide (1 ≤ numV l) && decide (numV l ≤ most)) = false := by
        rw [Bool.and_eq_false_iff, decide_eq_false_iff_not, decide_eq_false_iff_not]
        omega
      rw [if_neg hr, this]
      exact ⟨_, rfl, fun k hk => by cases hk⟩
  · simp only [h, Bool.false_eq_true, if_false, Option.bind_some, andO_some, false_and, Bool.false_and]
    exact ⟨0, rfl, fun k hk => by cases hk⟩

/-! ### The last mark -/
theorem u47 (e : UInt8) : decide ((e.toNat : Int) = ((UInt8.ofNat (Int.toNat 47)).toNat : Int)) = decide (e = 47) := by
  have a : ((UInt8.ofNat (Int.toNat 47)).toNat : Int) = 47 := by decide
  rw [a]
  by_cases h : e = 47
  · subst h; rfl
  · rw [decide_eq_false h, decide_eq_false]
    intro h2
    apply h
    apply UInt8.toNat_inj.1
    have : (47 : UInt8).toNat = 47 := rfl
    omega
theorem last_none {t : List UInt8} (ht : ∀ b ∈ t, b ≠ (47 : UInt8)) (hl : t.length ≤ 1000) : m_strings_LastIndexByte t (UInt8.ofNat (Int.toNat 47)) = some (-1) := by
  unfold m_strings_LastIndexByte sims_G7_1_0; dsimp only
  unfold m_internal_bytealg_LastIndexByteString sims_G7_0_0; dsimp only
  have key : ∀ {f : Int → Option (Int ⊕ (Int ⊕ Int))}, (∀ s, f s = bif decide (0 ≤ s) then (getI t s).bind fun e => bif decide ((e.toNat : Int) = ((UInt8.ofNat (Int.toNat 47)).toNat : Int)) then inrO (inrO (some s)) else some (Sum.inl (IntKind.i64.wrap (s - 1))) else inrO (some (Sum.inl s))) →
      loopC f ((t.length : Int) - 1) = some (.inl (-1)) := fun {f} hf => by
    have := loop_trace (f := f) (a := .inl (-1)) (fun k => (t.length : Int) - 1 - (k : Int)) t.length (fun i hi => by
      obtain ⟨e, he⟩ := get_lt (show t.length - 1 - i < t.length by omega)
      rw [hf, decide_eq_true (by omega), show (t.length : Int) - 1 - (i : Int) = ((t.length - 1 - i : Nat) : Int) by omega, getI_nat, he]
      simp only [cond_true, Option.bind_some, u47, decide_eq_false (ht e (List.mem_of_getElem? he)), cond_false]
      rw [wrap64 _ (by omega) (by omega)]
      congr 2; omega) (by
      rw [hf, decide_eq_false (by omega)]
      simp only [cond_false]
      rw [show (t.length : Int) - 1 - (t.length : Int) = -1 by omega]; rfl)
    simpa using this
  rw [wrap64 _ (by omega) (by omega), key fun s => rfl]
  rfl
theorem last_at {p t : List UInt8} (ht : ∀ b ∈ t, b ≠ (47 : UInt8)) (hl : (p ++ 47 :: t).length ≤ 1000) : m_strings_LastIndexByte (p ++ 47 :: t) (UInt8.ofNat (Int.toNat 47)) = some (p.length : Int) := by
  have hlen : (p ++ (47 : UInt8) :: t).length = p.length + t.length + 1 := by simp; omega
  unfold m_strings_LastIndexByte sims_G7_1_0; dsimp only
  unfold m_internal_bytealg_LastIndexByteString sims_G7_0_0; dsimp only
  have key : ∀ {f : Int → Option (Int ⊕ (Int ⊕ Int))}, (∀ s, f s = bif decide (0 ≤ s) then (getI (p ++ 47 :: t) s).bind fun e => bif decide ((e.toNat : Int) = ((UInt8.ofNat (Int.toNat 47)).toNat : Int)) then inrO (inrO (some s)) else some (Sum.inl (IntKind.i64.wrap (s - 1))) else inrO (some (Sum.inl s))) →
      loopC f (((p ++ (47 : UInt8) :: t).length : Int) - 1) = some (.inr (p.length : Int)) := fun {f} hf => by
    have := loop_trace (f := f) (a := .inr (p.length : Int)) (fun k => ((p ++ (47 : UInt8) :: t).length : Int) - 1 - (k : Int)) t.length (fun i hi => by
      obtain ⟨e, he⟩ := get_lt (show t.length - 1 - i < t.length by omega)
      have hix : (p ++ (47 : UInt8) :: t)[p.length + 1 + (t.length - 1 - i)]? = some e := by
        rw [List.getElem?_append_right (by omega), show p.length + 1 + (t.length - 1 - i) - p.length = (t.length - 1 - i) + 1 by omega, List.getElem?_cons_succ]
        exact he
      rw [hf, decide_eq_true (by omega), show ((p ++ (47 : UInt8) :: t).length : Int) - 1 - (i : Int) = ((p.length + 1 + (t.length - 1 - i) : Nat) : Int) by omega, getI_nat, hix]
      simp only [cond_true, Option.bind_some, u47, decide_eq_false (ht e (List.mem_of_getElem? he)), cond_false]
      rw [wrap64 _ (by omega) (by omega)]
      congr 2; omega) (by
      have hix : (p ++ (47 : UInt8) :: t)[p.length]? = some 47 := by simp
      rw [hf, decide_eq_true (by omega), show ((p ++ (47 : UInt8) :: t).length : Int) - 1 - (t.length : Int) = ((p.length : Nat) : Int) by omega, getI_nat, hix]
      simp only [cond_true, Option.bind_some, u47, decide_true]; rfl)
    simpa using this
  rw [wrap64 _ (by omega) (by omega), key fun s => rfl]
  rfl
end Go.Proofs.YtdkncdkdbddgoaaGreatDoor

/-
  Plain laws: Groups of the program; copies of trees.
-/
namespace Go.Proofs.YtdkncdkdbddgoaaGreatDoor
set_option linter.unusedSimpArgs false
set_option linter.unusedVariables false
open Go.RowKit

theorem mem_sum {α : Type} {g : α → Nat} {x : α} : ∀ {l : List α}, x ∈ l → g x ≤ (l.map g).sum
  | [], h => by cases h
  | a :: l, h => by
    simp only [List.map_cons, List.sum_cons]
    rcases List.mem_cons.1 h with rfl | h
    · omega
    · have := mem_sum (g := g) h; omega
theorem set_same {α : Type} {l : List α} {i : Nat} {e : α} (h : l[i]? = some e) : l.set i e = l := by
  apply List.ext_getElem?
  intro j
  by_cases hj : i = j
  · subst hj
    rw [List.getElem?_set_self (get_le h), h]
  · rw [List.getElem?_set_ne hj]
theorem kid_lt {d : Nat} {l : List Br} {b : Br} (hb : b ∈ l) (hn : b.fName ≠ []) : leaves d b.fKids ≤ leaves (d + 1) l := by
  have := mem_sum (g := fun b : Br => if b.fName = [] then 1 else leaves d b.fKids) hb
  simp only [hn, if_false] at this
  exact this
theorem bare_clone {s : Tapi_Segment} (h : bareF s = true) : cloneOk s := by
  unfold bareF at h
  simp only [Bool.and_eq_true, decide_eq_true_eq] at h
  have : s.fElements = [] := List.length_eq_zero_iff.1 (by omega)
  refine ⟨by rw [this]; simp, fun e he => by rw [this] at he; cases he⟩
theorem seg_clone {d : Nat} {l : List Br} (h : TOk d l) {b : Br} (hb : b ∈ l) : cloneOk b.fSegment := by
  cases d with
  | zero => have h : l = [] := h; subst h; cases hb
  | succ d =>
    rcases h b hb with h | ⟨_, h2, _⟩
    · exact seg_ok h.2.1
    · exact bare_clone h2
theorem clone_step {fu : Nat} {l : List Br} (hl : l.length ≤ 2000) (h : ∀ b ∈ l, cloneOk b.fSegment ∧ m_scheme_CloneTree fu b.fKids = some b.fKids) : m_scheme_CloneTree (fu + 1) l = some l := by
  rw [m_scheme_CloneTree_succ]; unfold step_G7_0_12; dsimp only; simp only [m_scheme_CloneTree_fold]
  have hc : m_slices_Clone_interchange_api_Branch_interchange_api_Branch l = some l := by
    unfold m_slices_Clone_interchange_api_Branch_interchange_api_Branch; rw [if_pos (by omega)]
  rw [hc]
  simp only [Option.bind_some]
  refine bind_loop (a := .inl (l, (l.length : Int))) (loop_trace (fun i => (l, (i : Int))) l.length (fun i hi => ?_) (by simp only [lt_dec_self, cond_false]; rfl)) rfl
  obtain ⟨e, he⟩ := get_lt hi
  obtain ⟨h1, h2⟩ := h e (List.mem_of_getElem? he)
  have hw : m_wire_Clone e.fSegment = some e.fSegment := by unfold m_wire_Clone; rw [if_pos h1]
  have hs : l.set i e = l := set_same he
  simp only [lt_dec hi, cond_true, getI_nat, he, Option.bind_some, Int.toNat_natCast, hw, h2, Tapi_Branch_eta, hs, wrapN i (by omega)]
theorem clone_tree : ∀ (d : Nat) (fu : Nat) {l : List Br}, d < fu → TOk d l → leaves d l ≤ 2000 → m_scheme_CloneTree fu l = some l
  | d, 0, _, h, _, _ => by omega
  | 0, fu + 1, l, _, h, _ => by
    have h : l = [] := h
    subst h
    exact clone_step (by simp) fun b hb => by cases hb
  | d + 1, fu + 1, l, hd, h, hL => by
    have hlen := len_leaves (d + 1) h
    refine clone_step (by omega) fun b hb => ⟨seg_clone h hb, ?_⟩
    rcases h b hb with h | ⟨h1, h2, h3, h4⟩
    · rw [h.2.2]
      cases fu with
      | zero => omega
      | succ fu => exact clone_step (by simp) fun b hb => by cases hb
    · exact clone_tree d fu (by omega) h4 (Nat.le_trans (kid_lt hb h1) hL)
def namesF (s : List UInt8) : List (List UInt8) := if s = [] then [] else Lib.split s [47]
def grpBad (s : List UInt8) : Bool := decide (s ≠ []) && !(Lib.split s [47]).all nameF
/-- The groups at a path, of a tree. -/
def grpF (l : List Br) (s : List UInt8) : List (List Br) × Int :=
  if (ctF 8 l 0 0).1 ≠ 0 then ([], (ctF 8 l 0 0).1) else if 200 < s.length then ([], 2) else if grpBad s = true then ([], 10) else (insF (namesF s) l, 0)
theorem nm_ne {n : List UInt8} (h : nameF n = true) : n ≠ [] := by rintro rfl; cases h
theorem names_ne {s : List UInt8} (h : grpBad s = false) : ∀ n ∈ namesF s, n ≠ [] := fun n hn => by
  unfold namesF at hn
  split at hn
  · cases hn
  · rename_i h0
    unfold grpBad at h
    rw [decide_eq_true h0] at h
    simp only [Bool.true_and, Bool.not_eq_false'] at h
    exact nm_ne (List.all_eq_true.1 h n hn)
theorem names_len {s : List UInt8} (hs : s.length ≤ 200) : (namesF s).length ≤ 201 := by
  unfold namesF
  split
  · simp
  · obtain ⟨L, t, h, hsp⟩ := Pcs.of (c := 47) (s := s)
    obtain ⟨l1, l2, l3⟩ := h.len
    rw [hsp]; simp only [List.length_append, List.length_cons, List.length_nil]; omega
theorem flat_self {α : Type} : ∀ l : List α, l.flatMap (fun a => [a]) = l
  | [] => rfl
  | a :: l => by rw [List.flatMap_cons, flat_self l]; rfl
theorem tree_l7 {l : List Br} (h : (ctF 8 l 0 0).1 = 0) : T7 l ∧ L7 l ≤ 2000 := tree_ok h
theorem ins_ok {l : List Br} (h : T7 l) (hL : L7 l ≤ 2000) {ns : List (List UInt8)} (hn : ∀ n ∈ ns, n ≠ []) : LsOk (insF ns l) := by
  have := lev_ok hn (one_ok h hL)
  rw [lev_ins] at this
  simpa using this
theorem lev_one (ns : List (List UInt8)) (l : List Br) : levF ns [l] = insF ns l := by rw [lev_ins]; simp
theorem p_groups (l : List Br) (s : List UInt8) (hl : ∀ b ∈ l, ShB b) (hlen : l.length ≤ MX) : m_scheme_Groups l s = some (grpF l s) := by
  have hFU := FU_big
  unfold m_scheme_Groups sims_G7_4_1; dsimp only
  rw [p_check l hl hlen]
  unfold grpF
  simp only [Option.bind_some]
  by_cases hc : (ctF 8 l 0 0).1 = 0
  · rw [decide_eq_true hc, if_neg (by simp [hc]), groups_check]
    simp only [Bool.not_true, cond_false, Option.bind_some]
    by_cases h2 : 200 < s.length
    · rw [if_pos h2, if_pos h2]; rfl
    · rw [if_neg h2, if_neg h2]
      have hb : (s ≠ [] ∧ (Lib.split s [47]).all nameF = false) ↔ grpBad s = true := by unfold grpBad; simp
      simp only [hb]
      by_cases h3 : grpBad s = true
      · rw [if_pos h3, if_pos h3]; rfl
      · rw [if_neg h3, if_neg h3]
        have h3 : grpBad s = false := by simpa using h3
        obtain ⟨ht, hL⟩ := tree_l7 hc
        have hk : m_scheme_Kids l s = some (insF (namesF s) l) := by
          unfold m_scheme_Kids sims_G7_3_2; dsimp only
          unfold namesF
          by_cases h0 : s = []
          · rw [decide_eq_true h0, if_pos h0]; rfl
          · rw [decide_eq_false h0, if_neg h0, names_eq (by omega)]
            simp only [cond_false, Option.bind_some]
            have e1 : namesF s = Lib.split s [47] := if_neg h0
            rw [kids_eq ht hL (by rw [← e1]; exact names_ne h3) (by rw [← e1]; have := names_len (s := s) (by omega); omega), lev_one]
            rfl
        have ho := ins_ok ht hL (names_ne h3)
        rw [hk]
        simp only [decide_true, Bool.not_true, cond_false, Option.bind_some]
        refine (app_loop (insF (namesF s) l) [] (fun a => [a]) 2000 (by rw [flat_self]; simpa using ho.len) _ (fun i e out he hout => ?_) (fun out => by simp only [lt_dec_self, cond_false]; rfl)).trans ?_
        · have hi := get_le he
          have hlen := ho.len
          have hm := List.mem_of_getElem? he
          have hsum := mem_sum (g := L7) hm
          have h2000 := ho.sum
          simp only [lt_dec hi, cond_true, getI_nat, he, Option.bind_some, wrapN i (by omega)]
          rw [clone_tree 7 FU (by omega) (ho.all e hm) (by show L7 e ≤ 2000; omega)]
          simp only [Option.bind_some]
          simp only [List.length_cons, List.length_nil] at hout
          rw [lo_ok (by simp only [List.length_cons, List.length_nil]; omega)]
        · rw [flat_self]; rfl
  · rw [decide_eq_false hc, if_pos (by simpa using hc)]; rfl
end Go.Proofs.YtdkncdkdbddgoaaGreatDoor

/-
  Plain laws: paths.
-/
namespace Go.Proofs.YtdkncdkdbddgoaaGreatDoor
set_option linter.unusedSimpArgs false
set_option linter.unusedVariables false
open Go.RowKit

noncomputable def tailF : List (List UInt8) → Option (List UInt8 × Int × Int)
  | [a] => if tagF a = true then some (a, 0, 0) else none
  | [a, b] => if tagF a = true then (numE 50 b).map fun n => (a, n, 0) else none
  | [a, b, c] => if tagF a = true then (numE 50 b).bind fun n => (numE 20 c).map fun k => (a, n, k) else none
  | _ => none
/-- What a path says. -/
noncomputable def wayF (s : List UInt8) : Option (List (List UInt8) × List UInt8 × Int × Int) :=
  if (Lib.split s [47]).dropLast.all nameF = true then (tailF (Lib.split ((Lib.split s [47]).getLast?.getD []) [46])).map fun r => ((Lib.split s [47]).dropLast, r) else none

noncomputable def wLoopF (e_1 : List (List UInt8)) (s : Tscheme_Way × Tscheme_Way × Int) : Option ((Tscheme_Way × Tscheme_Way × Int) ⊕ ((Tscheme_Way × Tscheme_Way × Int) ⊕ (Tscheme_Way × Bool))) :=
  bif decide (s.snd.snd < (e_1.length : Int)) then
    (getI e_1 s.snd.snd).bind fun e =>
      (m_kit_Number e 3).bind fun x =>
        (orO (!x.snd) ((getI [50, 20] s.snd.snd).bind fun e => (m_kit_Outside x.fst 1 e).bind fun x => some x)).bind fun v =>
          bif v then inrO (inrO (some (s.snd.fst, false)))
          else
            bif decide (s.snd.snd = 0) then
              some (Sum.inl (s.fst, { fNames := s.snd.fst.fNames, fTag := s.snd.fst.fTag, fElement := x.fst, fPart := s.snd.fst.fPart }, IntKind.i64.wrap (s.snd.snd + 1)))
            else
              some (Sum.inl (s.fst, { fNames := s.snd.fst.fNames, fTag := s.snd.fst.fTag, fElement := s.snd.fst.fElement, fPart := x.fst }, IntKind.i64.wrap (s.snd.snd + 1)))
  else inrO (some (Sum.inl (s.fst, s.snd.fst, s.snd.snd)))
noncomputable def wTail (ns : List (List UInt8)) (e : List UInt8) : Option (Tscheme_Way × Bool) :=
  (m_strings_Split e [46]).bind fun x =>
    (orO (decide (3 < (x.length : Int))) ((getI x 0).bind fun e => (m_kit_IsTag e).bind fun x => some !x)).bind fun v =>
      bif v then some ({ fNames := ns, fTag := [], fElement := 0, fPart := 0 }, false)
      else
        (getI x 0).bind fun e =>
          (sliceI x ((some 1).getD 0) (none.getD (x.length : Int))).bind fun e_1 =>
            (loopC (wLoopF e_1) ({ fNames := [], fTag := [], fElement := 0, fPart := 0 }, { fNames := ns, fTag := e, fElement := 0, fPart := 0 }, 0)).bind
              (outK fun s => some (s.snd.fst, true))
theorem wl_end (r : List (List UInt8)) (w0 w : Tscheme_Way) : wLoopF r (w0, w, (r.length : Int)) = some (.inr (.inl (w0, w, (r.length : Int)))) := by
  unfold wLoopF
  simp only [lt_dec_self, cond_false]; rfl
theorem num_step {b : List UInt8} (hb : b.length ≤ 1000) {most : Int} {A : Type} {bad : Option A} {good : Int → Option A} :
    ((m_kit_Number b 3).bind fun x => (orO (!x.snd) ((some most).bind fun e => (m_kit_Outside x.fst 1 e).bind fun x => some x)).bind fun v => bif v then bad else good x.fst) = match numE most b with | some n => good n | none => bad := by
  rw [num_p b hb]
  unfold numE
  by_cases h : numOk b = true
  · simp only [h, if_true, Option.bind_some, out_eq, orO_some, Bool.not_true, Bool.false_or, true_and]
    by_cases hr : 1 ≤ numV b ∧ numV b ≤ most
    · rw [if_pos hr, decide_eq_false (by omega), decide_eq_false (by omega)]; rfl
    · have : (decide (numV b < 1) || decide (most < numV b)) = true := by
        rw [Bool.or_eq_true, decide_eq_true_eq, decide_eq_true_eq]; omega
      rw [if_neg hr, this]; rfl
  · simp only [h, Bool.false_eq_true, if_false, Option.bind_some, orO_some, Bool.not_false, Bool.true_or, false_and]; rfl
theorem wl_0 {b : List UInt8} (hb : b.length ≤ 1000) (r : List (List UInt8)) (w0 w : Tscheme_Way) : wLoopF (b :: r) (w0, w, 0) = match numE 50 b with | some n => some (.inl (w0, { fNames := w.fNames, fTag := w.fTag, fElement := n, fPart := w.fPart }, 1)) | none => some (.inr (.inr (w, false))) := by
  unfold wLoopF
  have h0 : getI (b :: r) 0 = some b := rfl
  have h1 : getI [(50 : Int), 20] 0 = some 50 := rfl
  have h2 : decide ((0 : Int) < ((b :: r).length : Int)) = true := decide_eq_true (by simp only [List.length_cons]; omega)
  simp only [h0, h1, h2, cond_true]
  rw [Option.bind_some]
  simp only [show decide ((0 : Int) = 0) = true from rfl, decide_true, cond_true, show IntKind.i64.wrap ((0 : Int) + 1) = 1 from rfl]
  exact num_step hb (most := 50) (A := (Tscheme_Way × Tscheme_Way × Int) ⊕ ((Tscheme_Way × Tscheme_Way × Int) ⊕ (Tscheme_Way × Bool))) (good := fun n => some (.inl (w0, { fNames := w.fNames, fTag := w.fTag, fElement := n, fPart := w.fPart }, 1)))
theorem wl_1 {b : List UInt8} (hb : b.length ≤ 1000) (a : List UInt8) (r : List (List UInt8)) (w0 w : Tscheme_Way) : wLoopF (a :: b :: r) (w0, w, 1) = match numE 20 b with | some n => some (.inl (w0, { fNames := w.fNames, fTag := w.fTag, fElement := w.fElement, fPart := n }, 2)) | none => some (.inr (.inr (w, false))) := by
  unfold wLoopF
  have h0 : getI (a :: b :: r) 1 = some b := rfl
  have h1 : getI [(50 : Int), 20] 1 = some 20 := rfl
  have h2 : decide ((1 : Int) < ((a :: b :: r).length : Int)) = true := decide_eq_true (by simp only [List.length_cons]; omega)
  simp only [h0, h1, h2, cond_true]
  rw [Option.bind_some]
  simp only [show decide ((1 : Int) = 0) = false from rfl, cond_false, show IntKind.i64.wrap ((1 : Int) + 1) = 2 from rfl]
  exact num_step hb (most := 20) (A := (Tscheme_Way × Tscheme_Way × Int) ⊕ ((Tscheme_Way × Tscheme_Way × Int) ⊕ (Tscheme_Way × Bool))) (good := fun n => some (.inl (w0, { fNames := w.fNames, fTag := w.fTag, fElement := w.fElement, fPart := n }, 2)))
theorem split_le (c : UInt8) (s : List UInt8) : (∀ e ∈ Lib.split s [c], e.length ≤ s.length) ∧ Lib.split s [c] ≠ [] ∧ (Lib.split s [c]).length ≤ s.length + 1 := by
  obtain ⟨L, t, h, hsp⟩ := Pcs.of (c := c) (s := s)
  obtain ⟨l1, l2, l3⟩ := h.len
  rw [hsp]
  refine ⟨fun e he => ?_, by simp, by simp only [List.length_append, List.length_cons, List.length_nil]; omega⟩
  rcases List.mem_append.1 he with he | he
  · exact l3 e he
  · rw [List.mem_singleton.1 he]; exact l2
theorem sl_tail {α : Type} (a : α) (r : List α) : sliceI (a :: r) ((some 1).getD 0) (Option.none.getD ((a :: r).length : Int)) = some r := by
  unfold sliceI
  rw [if_pos (by simp only [List.length_cons, Option.getD_some, Option.getD_none]; omega)]
  simp
theorem w_tail (ns : List (List UInt8)) (e : List UInt8) (he : e.length ≤ 200) : ∃ w, wTail ns e = some (w, (tailF (Lib.split e [46])).isSome) ∧ ∀ a n k, tailF (Lib.split e [46]) = some (a, n, k) → w = ⟨ns, a, n, k⟩ := by
  obtain ⟨h1, h2, h3⟩ := split_le 46 e
  have hm : m_strings_Split e [46] = some (Lib.split e [46]) := by
    unfold m_strings_Split; rw [if_pos ⟨by omega, by decide⟩]
  have hMX : MX = 9223372036854775807 := rfl
  unfold wTail
  rw [hm]
  simp only [Option.bind_some]
  revert h1 h2
  generalize Lib.split e [46] = l
  intro h1 h2
  match l, h1, h2 with
  | [], _, h2 => exact absurd rfl h2
  | a :: r, h1, _ =>
    have h0 : getI (a :: r) 0 = some a := rfl
    have hla := h1 a (by simp)
    simp only [h0, Option.bind_some, w_tag a (by omega), orO_some, sl_tail]
    by_cases hlong : 3 < ((a :: r).length : Int)
    · rw [decide_eq_true hlong]
      have : tailF (a :: r) = none := by
        match r, hlong with
        | [], h => simp at h
        | [b], h => simp at h
        | [b, c], h => simp at h
        | b :: c :: d :: r, _ => rfl
      rw [this]
      exact ⟨_, rfl, fun _ _ _ h => by cases h⟩
    · rw [decide_eq_false hlong]
      cases ht : tagF a with
      | false =>
        have : tailF (a :: r) = none := by
          match r, hlong with
          | [], _ => simp [tailF, ht]
          | [b], _ => simp [tailF, ht]
          | [b, c], _ => simp [tailF, ht]
          | b :: c :: d :: r, h => simp only [List.length_cons] at h; omega
        rw [this]
        exact ⟨_, rfl, fun _ _ _ h => by cases h⟩
      | true =>
        simp only [Bool.not_true, Bool.or_self, cond_false]
        match r, hlong, h1 with
        | [], _, _ =>
          have hend := wl_end [] ⟨[], [], 0, 0⟩ ⟨ns, a, 0, 0⟩
          rw [show ((([] : List (List UInt8)).length : Nat) : Int) = 0 from rfl] at hend
          rw [loopC_eq, hend]
          simp only [tailF, ht, if_true]
          exact ⟨_, rfl, fun a' n k h => by cases h; rfl⟩
        | [b], _, h1 =>
          have hlb := h1 b (by simp)
          have hend := fun w => wl_end [b] ⟨[], [], 0, 0⟩ w
          rw [show ((([b] : List (List UInt8)).length : Nat) : Int) = 1 from rfl] at hend
          rw [loopC_eq, wl_0 (by omega)]
          simp only [tailF, ht, if_true]
          cases hb : numE 50 b with
          | none => exact ⟨_, rfl, fun a' n k h => by cases h⟩
          | some n =>
            simp only
            rw [loopC_eq, hend]
            exact ⟨_, rfl, fun a' n k h => by cases h; rfl⟩
        | [b, c], _, h1 =>
          have hlb := h1 b (by simp)
          have hlc := h1 c (by simp)
          have hend := fun w => wl_end [b, c] ⟨[], [], 0, 0⟩ w
          rw [show ((([b, c] : List (List UInt8)).length : Nat) : Int) = 2 from rfl] at hend
          rw [loopC_eq, wl_0 (by omega)]
          simp only [tailF, ht, if_true]
          cases hb : numE 50 b with
          | none => exact ⟨_, rfl, fun a' n k h => by cases h⟩
          | some n =>
            simp only
            rw [loopC_eq, wl_1 (by omega)]
            cases hc : numE 20 c with
            | none => exact ⟨_, rfl, fun a' n k h => by cases h⟩
            | some k =>
              simp only
              rw [loopC_eq, hend]
              exact ⟨_, rfl, fun a' n k h => by cases h; rfl⟩
        | b :: c :: d :: r, h, _ => simp only [List.length_cons] at h; omega
theorem way_eq (s : List UInt8) (hs : s.length ≤ 200) : ∃ w, m_scheme_WayOf s = some (w, (wayF s).isSome) ∧ ∀ ns a n k, wayF s = some (ns, a, n, k) → w = ⟨ns, a, n, k⟩ := by
  obtain ⟨L, t, h, hsp⟩ := Pcs.of (c := 47) (s := s)
  obtain ⟨l1, l2, l3⟩ := h.len
  have e1 : (Lib.split s [47]).dropLast = L := by rw [hsp]; simp
  have e2 : (Lib.split s [47]).getLast?.getD [] = t := by rw [hsp]; simp
  obtain ⟨w, hw1, hw2⟩ := w_tail L t (by omega)
  unfold wayF
  rw [e1, e2]
  unfold m_scheme_WayOf sims_G7_3_0; dsimp only
  by_cases hL : L = []
  · subst hL
    have hst : s = t := by have := h.eq; simpa using this
    subst hst
    rw [last_none h.nt (by omega)]
    simp only [Option.bind_some, show decide ((0 : Int) ≤ -1) = false from rfl, cond_false, List.all_nil, if_true, Option.isSome_map]
    refine ⟨w, hw1, fun ns a n k hk => ?_⟩
    cases ht : tailF (Lib.split s [46]) with
    | none => rw [ht] at hk; cases hk
    | some r =>
      obtain ⟨a', n', k'⟩ := r
      rw [ht] at hk
      cases hk
      exact hw2 _ _ _ ht
  · obtain ⟨p, hp, hsplit⟩ := pcs_init h hL
    subst hp
    have hlen : (p ++ (47 : UInt8) :: t).length = p.length + t.length + 1 := by simp; omega
    have s1 : sliceI (p ++ (47 : UInt8) :: t) (Option.none.getD 0) ((some (p.length : Int)).getD ((p ++ (47 : UInt8) :: t).length : Int)) = some p := by
      unfold sliceI
      rw [if_pos (by simp only [Option.getD_none, Option.getD_some]; omega)]
      simp
    have s2 : sliceI (p ++ (47 : UInt8) :: t) ((some (IntKind.i64.wrap ((p.length : Int) + 1))).getD 0) (Option.none.getD ((p ++ (47 : UInt8) :: t).length : Int)) = some t := by
      rw [wrapN p.length (by omega)]
      unfold sliceI
      rw [if_pos (by simp only [Option.getD_none, Option.getD_some]; omega)]
      simp only [Option.getD_none, Option.getD_some, Int.toNat_natCast, List.take_length, Option.some.injEq]
      rw [show p.length + 1 = (p ++ [(47 : UInt8)]).length by simp, show p ++ (47 : UInt8) :: t = (p ++ [47]) ++ t by simp]
      exact List.drop_left
    rw [last_at h.nt (by omega)]
    simp only [Option.bind_some, decide_eq_true (Int.natCast_nonneg p.length), cond_true]
    rw [s1]
    simp only [Option.bind_some]
    rw [names_eq (by omega), hsplit]
    simp only [Option.bind_some]
    cases hall : L.all nameF with
    | false =>
      simp only [Bool.not_false, cond_true, Bool.false_eq_true, if_false]
      exact ⟨_, rfl, fun _ _ _ _ h => by cases h⟩
    | true =>
      simp only [Bool.not_true, cond_false, if_true, Option.isSome_map]
      rw [s2]
      simp only [Option.bind_some]
      refine ⟨w, hw1, fun ns a n k hk => ?_⟩
      cases ht : tailF (Lib.split t [46]) with
      | none => rw [ht] at hk; cases hk
      | some r =>
        obtain ⟨a', n', k'⟩ := r
        rw [ht] at hk
        cases hk
        exact hw2 _ _ _ ht
theorem p_path (s : List UInt8) : m_scheme_CheckPath s = some (if 200 < s.length then 2 else if (wayF s).isSome = true then 0 else 10) := by
  unfold m_scheme_CheckPath sims_G7_4_0; dsimp only
  by_cases h : 200 < s.length
  · rw [decide_eq_true (by omega), if_pos h]; rfl
  · rw [decide_eq_false (by omega), if_neg h]
    obtain ⟨w, h1, _⟩ := way_eq s (by omega)
    rw [h1]
    simp only [cond_false, Option.bind_some]
    cases (wayF s).isSome <;> rfl
end Go.Proofs.YtdkncdkdbddgoaaGreatDoor

/-
  Plain laws: what a path finds, in the program.
-/
namespace Go.Proofs.YtdkncdkdbddgoaaGreatDoor
set_option linter.unusedSimpArgs false
set_option linter.unusedVariables false
open Go.RowKit

def maxP (k : Int) : Int := if 1 > k then 1 else k
/-- The text of a repeat that a path means, if it is there. -/
def repT (k : Int) (r : List (List UInt8)) : List (List UInt8) := match r[(maxP k - 1).toNat]? with
  | some t => if t = [] then [] else [t]
  | none => []
def segT (s : Tapi_Segment) (a : List UInt8) (n k : Int) : List (List UInt8) :=
  if n = 0 then [a] else match s.fElements[(n - 1).toNat]? with
    | some e => e.fRepeats.flatMap (repT k)
    | none => []
def brT (a : List UInt8) (n k : Int) (b : Br) : List (List UInt8) := if b.fName = [] ∧ b.fSegment.fTag = a then segT b.fSegment a n k else []
def findF (l : List Br) (ns : List (List UInt8)) (a : List UInt8) (n k : Int) : List (List UInt8) := (insF ns l).flatMap fun l => l.flatMap (brT a n k)

theorem elem_rep {s : Tapi_Segment} (h : segF s = 0) {e : Tapi_Element} (he : e ∈ s.fElements) : e.fRepeats.length ≤ 20 := by
  obtain ⟨_, _, h3⟩ := segF_iff.1 h
  obtain ⟨_, h5, _⟩ := elemF_iff.1 (h3 e he)
  omega
theorem elem_len {s : Tapi_Segment} (h : segF s = 0) : s.fElements.length ≤ 50 := by
  obtain ⟨_, h2, _⟩ := segF_iff.1 h
  omega
theorem repT_len (k : Int) (r : List (List UInt8)) : (repT k r).length ≤ 1 := by
  unfold repT
  split
  · split <;> simp
  · simp
theorem segT_len {s : Tapi_Segment} (h : segF s = 0) (a : List UInt8) (n k : Int) : (segT s a n k).length ≤ 20 := by
  unfold segT
  split
  · simp
  · split
    · rename_i e he
      have h1 := elem_rep h (List.mem_of_getElem? he)
      refine Nat.le_trans (flatMap_len (g := fun _ => 1) fun r _ => repT_len k r) ?_
      rw [len_sum]; exact h1
    · simp
theorem leaf_seg {l : List Br} (h : T7 l) {b : Br} (hb : b ∈ l) (hn : b.fName = []) : segF b.fSegment = 0 := by
  rcases h b hb with h | ⟨h1, _⟩
  · exact h.2.1
  · exact absurd hn h1
theorem brT_len {l : List Br} (h : T7 l) {b : Br} (hb : b ∈ l) (a : List UInt8) (n k : Int) : (brT a n k b).length ≤ 20 := by
  unfold brT
  split
  · rename_i hc; exact segT_len (leaf_seg h hb hc.1) a n k
  · simp
theorem list_len {l : List Br} (h : T7 l) (a : List UInt8) (n k : Int) : (l.flatMap (brT a n k)).length ≤ 20 * l.length := by
  refine Nat.le_trans (flatMap_len (g := fun _ => 20 * 1) fun b hb => brT_len h hb a n k) ?_
  rw [sum_map_mul 20 (fun _ => 1), len_sum]
  exact Nat.le_refl _
theorem lists_len {ls : List (List Br)} (h : LsOk ls) (a : List UInt8) (n k : Int) : (ls.flatMap fun l => l.flatMap (brT a n k)).length ≤ 40000 := by
  refine Nat.le_trans (flatMap_len (g := fun l => 20 * L7 l) fun l hl => Nat.le_trans (list_len (h.all l hl) a n k) (Nat.mul_le_mul_left _ (len_leaves 7 (h.all l hl)))) ?_
  rw [sum_map_mul]
  have := h.sum
  omega

theorem text_at {s : Tapi_Segment} {n P : Int} {i : Nat} {e : Tapi_Element} {r : List (List UInt8)} (hn : 1 ≤ n) (hn2 : n ≤ 50) (hP : 1 ≤ P) (hP2 : P ≤ 20) (he : s.fElements[(n - 1).toNat]? = some e) (hr : e.fRepeats[i]? = some r) (hi : i < 20) :
    ∃ b, m_wire_TextAt s ⟨n, (i : Int) + 1, P⟩ = some (r[(P - 1).toNat]?.getD [], b) := by
  have h1 := get_le he
  have h2 := get_le hr
  have eN : ((n - 1).toNat : Int) = n - 1 := Int.toNat_of_nonneg (by omega)
  have eP : ((P - 1).toNat : Int) = P - 1 := Int.toNat_of_nonneg (by omega)
  have g1 : getI s.fElements (IntKind.i64.wrap (n - 1)) = some e := by
    rw [wrap64 _ (by omega) (by omega), ← eN, getI_nat]; exact he
  have g2 : getI e.fRepeats (IntKind.i64.wrap ((i : Int) + 1 - 1)) = some r := by
    rw [wrap64 _ (by omega) (by omega), show (i : Int) + 1 - 1 = (i : Int) by omega, getI_nat]; exact hr
  unfold m_wire_TextAt sims_G7_0_6; dsimp only
  rw [decide_eq_false (by omega)]
  simp only [cond_false]
  rw [g1]
  simp only [Option.bind_some]
  rw [decide_eq_false (show ¬ (e.fRepeats.length : Int) < (i : Int) + 1 by omega), g2]
  simp only [Option.bind_some, orO_some, Bool.false_or]
  by_cases hl : (r.length : Int) < P
  · rw [decide_eq_true hl]
    refine ⟨false, ?_⟩
    rw [List.getElem?_eq_none (by omega)]; rfl
  · rw [decide_eq_false hl]
    obtain ⟨t, ht⟩ := get_lt (show (P - 1).toNat < r.length by omega)
    have g3 : getI r (IntKind.i64.wrap (P - 1)) = some t := by
      rw [wrap64 _ (by omega) (by omega), ← eP, getI_nat]; exact ht
    refine ⟨true, ?_⟩
    simp only [cond_false]
    rw [g3, ht]; rfl
/-- What numbers of a path may be. -/
structure NumOk (n k : Int) : Prop where
  n0 : 0 ≤ n
  n1 : n ≤ 50
  k0 : 0 ≤ k
  k1 : k ≤ 20
theorem NumOk.max {n k : Int} (h : NumOk n k) : 1 ≤ maxP k ∧ maxP k ≤ 20 := by
  obtain ⟨_, _, h3, h4⟩ := h
  unfold maxP
  split <;> omega
theorem p_texts {l : List Br} {ns : List (List UInt8)} {a : List UInt8} {n k : Int} (h : T7 l) (hL : L7 l ≤ 2000) (hn : ∀ x ∈ ns, x ≠ []) (hlen : ns.length ≤ 1000) (hk : NumOk n k) : m_scheme_Texts l ⟨ns, a, n, k⟩ = some (findF l ns a n k) := by
  have ho := ins_ok h hL hn
  have hMX : MX = 9223372036854775807 := rfl
  unfold m_scheme_Texts sims_G7_1_3; dsimp only
  rw [kids_eq h hL hn hlen, lev_one]
  simp only [Option.bind_some]
  unfold findF
  have htot := lists_len ho a n k
  have holen := ho.len
  refine (app_loop (insF ns l) [] (fun l => l.flatMap (brT a n k)) 40000 (by rw [List.nil_append]; exact htot) _ (fun i q out hq hout => ?_) (fun out => by simp only [lt_dec_self, cond_false]; rfl)).trans ?_
  · have hi := get_le hq
    have hqm := List.mem_of_getElem? hq
    have hq7 := ho.all q hqm
    have hql := ho.lens q hqm
    simp only [lt_dec hi, cond_true, getI_nat, hq, Option.bind_some, wrapN i (by omega)]
    refine (app_loop q out (brT a n k) 40000 (by rw [List.length_append]; exact hout) _ (fun j b o hb ho => ?_) (fun out => by simp only [lt_dec_self, cond_false]; rfl)).trans ?_
    · have hj := get_le hb
      have hbm := List.mem_of_getElem? hb
      simp only [lt_dec hj, cond_true, getI_nat, hb, Option.bind_some, orO_some, wrapN j (by omega)]
      unfold brT at ho ⊢
      by_cases hc : b.fName = [] ∧ b.fSegment.fTag = a
      · rw [if_pos hc] at ho ⊢
        rw [decide_eq_true hc.1, decide_eq_true hc.2]
        have hseg := leaf_seg hq7 hbm hc.1
        simp only [Bool.not_true, Bool.or_self, cond_false]
        unfold segT at ho ⊢
        by_cases hn0 : n = 0
        · rw [if_pos hn0] at ho ⊢
          rw [decide_eq_true hn0]
          simp only [cond_true]
          rw [lo_ok (by omega)]
        · rw [if_neg hn0] at ho ⊢
          rw [decide_eq_false hn0]
          simp only [cond_false]
          have hn1 : 1 ≤ n := by have := hk.n0; omega
          have hel := elem_len hseg
          by_cases hlt : (b.fSegment.fElements.length : Int) < n
          · rw [decide_eq_true hlt]
            rw [List.getElem?_eq_none (by omega)]
            simp
          · rw [decide_eq_false hlt]
            obtain ⟨e, he⟩ := get_lt (show (n - 1).toNat < b.fSegment.fElements.length by omega)
            have eN : ((n - 1).toNat : Int) = n - 1 := Int.toNat_of_nonneg (by omega)
            have hn50 := hk.n1
            have g1 : getI b.fSegment.fElements (IntKind.i64.wrap (n - 1)) = some e := by
              rw [wrap64 _ (by omega) (by omega), ← eN, getI_nat]; exact he
            rw [he] at ho ⊢
            simp only at ho ⊢
            simp only [cond_false]
            rw [g1]
            simp only [Option.bind_some]
            have hrl := elem_rep hseg (List.mem_of_getElem? he)
            refine (app_loop e.fRepeats o (repT k) 40000 (by rw [List.length_append]; exact ho) _ (fun m r o2 hr ho2 => ?_) (fun out => by simp only [lt_dec_self, cond_false]; rfl)).trans ?_
            · have hm := get_le hr
              obtain ⟨m1, m2⟩ := hk.max
              obtain ⟨bb, hta⟩ := text_at (s := b.fSegment) (i := m) hn1 hn50 m1 m2 he hr (by omega)
              simp only [lt_dec hm, cond_true, wrapN m (by omega)]
              have hmx : (if 1 > k then 1 else k) = maxP k := rfl
              rw [hmx, show ((m + 1 : Nat) : Int) = (m : Int) + 1 by omega, hta]
              simp only [Option.bind_some]
              unfold repT at ho2 ⊢
              cases hg : r[(maxP k - 1).toNat]? with
              | none => simp
              | some t =>
                rw [hg] at ho2
                simp only [Option.getD_some]
                by_cases ht : t = []
                · rw [decide_eq_true ht]; simp [ht]
                · simp only [ht, if_false] at ho2
                  rw [decide_eq_false ht]
                  simp only [Bool.not_false, cond_true, ht, if_false]
                  rw [lo_ok (by omega)]
            · rfl
      · rw [if_neg hc]
        have : (!decide (b.fName = []) || !decide (b.fSegment.fTag = a)) = true := by
          rw [Bool.or_eq_true, Bool.not_eq_true', Bool.not_eq_true', decide_eq_false_iff_not, decide_eq_false_iff_not]
          by_cases h1 : b.fName = []
          · exact .inr fun h2 => hc ⟨h1, h2⟩
          · exact .inl h1
        rw [this]
        simp
    · rfl
  · rfl
theorem tail_num {l : List (List UInt8)} {a : List UInt8} {n k : Int} (h : tailF l = some (a, n, k)) : NumOk n k := by
  have hE : ∀ {m b x}, numE m b = some x → 1 ≤ x ∧ x ≤ m := fun {m b x} h => by
    unfold numE at h
    split at h
    · rename_i hc; cases h; exact hc.2
    · cases h
  match l, h with
  | [], h => cases h
  | [x], h =>
    simp only [tailF] at h
    split at h
    · cases h; exact ⟨by omega, by omega, by omega, by omega⟩
    · cases h
  | [x, y], h =>
    simp only [tailF] at h
    split at h
    · cases hy : numE 50 y with
      | none => rw [hy] at h; cases h
      | some z => rw [hy] at h; cases h; have := hE hy; exact ⟨by omega, by omega, by omega, by omega⟩
    · cases h
  | [x, y, w], h =>
    simp only [tailF] at h
    split at h
    · cases hy : numE 50 y with
      | none => rw [hy] at h; cases h
      | some z =>
        cases hw : numE 20 w with
        | none => rw [hy, hw] at h; cases h
        | some v => rw [hy, hw] at h; cases h; have h1 := hE hy; have h2 := hE hw; exact ⟨by omega, by omega, by omega, by omega⟩
    · cases h
  | x :: y :: w :: v :: r, h => cases h
theorem way_ok {s : List UInt8} (hs : s.length ≤ 200) {ns : List (List UInt8)} {a : List UInt8} {n k : Int} (h : wayF s = some (ns, a, n, k)) : (∀ x ∈ ns, x ≠ []) ∧ ns.length ≤ 201 ∧ NumOk n k ∧ (Lib.split s [47]).dropLast = ns ∧ ns.all nameF = true ∧ tailF (Lib.split ((Lib.split s [47]).getLast?.getD []) [46]) = some (a, n, k) := by
  unfold wayF at h
  split at h
  · rename_i hall
    cases ht : tailF (Lib.split ((Lib.split s [47]).getLast?.getD []) [46]) with
    | none => rw [ht] at h; cases h
    | some r =>
      rw [ht] at h
      cases h
      obtain ⟨_, _, h3⟩ := split_le 47 s
      refine ⟨fun x hx => nm_ne (List.all_eq_true.1 hall x hx), by rw [List.length_dropLast]; omega, tail_num ht, rfl, hall, rfl⟩
  · cases h
/-- What Find says. -/
noncomputable def fndF (l : List Br) (s : List UInt8) : List (List UInt8) × Int :=
  if (ctF 8 l 0 0).1 ≠ 0 then ([], (ctF 8 l 0 0).1) else if 200 < s.length then ([], 2) else match wayF s with
    | none => ([], 10)
    | some (ns, a, n, k) => (findF l ns a n k, 0)
theorem p_find (l : List Br) (s : List UInt8) (hl : ∀ b ∈ l, ShB b) (hlen : l.length ≤ MX) : m_scheme_Find l s = some (fndF l s) := by
  unfold m_scheme_Find sims_G7_5_0; dsimp only
  rw [p_check l hl hlen]
  unfold fndF
  simp only [Option.bind_some]
  by_cases hc : (ctF 8 l 0 0).1 = 0
  · rw [decide_eq_true hc, if_neg (by simp [hc])]
    obtain ⟨ht, hL⟩ := tree_l7 hc
    simp only [Bool.not_true, cond_false]
    rw [p_path]
    simp only [Option.bind_some]
    by_cases h2 : 200 < s.length
    · rw [if_pos h2, if_pos h2]; rfl
    · rw [if_neg h2, if_neg h2]
      obtain ⟨w, hw1, hw2⟩ := way_eq s (by omega)
      cases hw : wayF s with
      | none => rfl
      | some r =>
        obtain ⟨ns, a, n, k⟩ := r
        simp only [Option.isSome_some, if_true, decide_true, Bool.not_true, cond_false]
        obtain ⟨k1, k2, k3, _⟩ := way_ok (by omega) hw
        rw [hw1, hw2 _ _ _ _ hw]
        simp only [Option.bind_some]
        rw [p_texts ht hL k1 (by omega) k3]; rfl
  · rw [decide_eq_false hc, if_pos (by simpa using hc)]; rfl
end Go.Proofs.YtdkncdkdbddgoaaGreatDoor

/-
  Plain laws: Groups of the reference; sameness of trees.
-/
namespace Go.Proofs.YtdkncdkdbddgoaaGreatDoor
set_option linter.unusedSimpArgs false
set_option linter.unusedVariables false
open Go.RowKit

theorem l7_kid {n : List UInt8} (hn : n ≠ []) {l : List Br} (h : T7 l) {b : Br} (hb : b ∈ l) (hbn : b.fName = n) : L7 b.fKids ≤ L7 l := by
  have hk : b.fKids ∈ kidsN n l := List.mem_flatMap.2 ⟨b, hb, by rw [if_pos hbn]; simp⟩
  exact Nat.le_trans (mem_sum (g := L7) hk) (kidsN_ok hn h).2.1
theorem r_inside : ∀ (ns : List (List UInt8)) (fu : Nat) {l : List Br}, ns.length < fu → ns.length ≤ 1000 → T7 l → L7 l ≤ 2000 → (∀ n ∈ ns, n ≠ []) → m_interchangeref3_Inside fu l ns = some (insF ns l)
  | ns, 0, _, h, _, _, _, _ => by omega
  | [], fu + 1, l, _, _, _, _, _ => by
    rw [m_interchangeref3_Inside_succ]; unfold step_G6_0_1; dsimp only; simp only [m_interchangeref3_Inside_fold]
    rfl
  | n :: ns, fu + 1, l, hfu, hle, h, hL, hn => by
    simp only [List.length_cons] at hfu hle
    have hnn := hn n (by simp)
    have hlen := len_leaves 7 h
    have hL' : leaves 7 l ≤ 2000 := hL
    rw [m_interchangeref3_Inside_succ]; unfold step_G6_0_1; dsimp only; simp only [m_interchangeref3_Inside_fold]
    have hins : insF (n :: ns) l = l.flatMap fun b => if b.fName = n then insF ns b.fKids else [] := by
      show (kidsN n l).flatMap (insF ns) = _
      unfold kidsN
      rw [flatMap_flatMap]
      congr 1
      funext b
      split <;> simp
    have hil := ins_len (n :: ns) h hn (.inr (by simp))
    rw [hins] at hil
    rw [decide_eq_false (by simp only [List.length_cons]; omega), hins]
    simp only [cond_false]
    refine (app_loop l [] (fun b => if b.fName = n then insF ns b.fKids else []) 2000 (by rw [List.nil_append]; omega) _ (fun i b out hb hout => ?_) (fun out => by simp only [lt_dec_self, cond_false]; rfl)).trans ?_
    · have hi := get_le hb
      have hm := List.mem_of_getElem? hb
      have h0 : getI (n :: ns) 0 = some n := rfl
      have hsl : sliceI (n :: ns) ((some 1).getD 0) (Option.none.getD ((n :: ns).length : Int)) = some ns := by
        unfold sliceI
        rw [if_pos (by simp only [List.length_cons, Option.getD_some, Option.getD_none]; omega)]
        simp
      simp only [lt_dec hi, cond_true, getI_nat, hb, h0, Option.bind_some, wrapN i (by omega)]
      by_cases hbn : b.fName = n
      · rw [decide_eq_true hbn]
        rw [if_pos hbn] at hout ⊢
        simp only [cond_true]
        rw [hsl]
        simp only [Option.bind_some]
        have hk := t7_kids h hm (by rw [hbn]; exact hnn)
        rw [r_inside ns fu (by omega) (by omega) hk.1 (Nat.le_trans (l7_kid hnn h hm hbn) hL) (fun m hm => hn m (by simp [hm]))]
        simp only [Option.bind_some]
        rw [lo_ok (by omega)]
      · rw [decide_eq_false hbn, if_neg hbn]
        simp
    · rfl
theorem r_names (s : List UInt8) : m_interchangeref3_NamesOf s = some (if 200 < s.length then ([], 2) else if grpBad s = true then ([], 10) else (namesF s, 0)) := by
  unfold m_interchangeref3_NamesOf sims_G7_0_10; dsimp only
  by_cases h : 200 < s.length
  · rw [decide_eq_true (by omega), if_pos h]; rfl
  · rw [decide_eq_false (by omega), if_neg h]
    simp only [cond_false]
    unfold grpBad namesF
    by_cases h0 : s = []
    · subst h0; rfl
    · rw [decide_eq_false h0, decide_eq_true h0, if_neg h0]
      obtain ⟨L, t, hp, hsp⟩ := Pcs.of (c := 47) (s := s)
      obtain ⟨l1, l2, l3⟩ := hp.len
      have hMX : MX = 9223372036854775807 := rfl
      have hm : m_strings_Split s [47] = some (Lib.split s [47]) := by
        unfold m_strings_Split; rw [if_pos ⟨by omega, by decide⟩]
      have hle : ∀ e ∈ Lib.split s [47], e.length ≤ MX := fun e he => by
        rw [hsp] at he
        rcases List.mem_append.1 he with he | he
        · have := l3 e he; omega
        · rw [List.mem_singleton.1 he]; omega
      have hlen : (Lib.split s [47]).length ≤ 201 := by rw [hsp]; simp only [List.length_append, List.length_cons, List.length_nil]; omega
      rw [hm]
      simp only [cond_false, Option.bind_some, Bool.true_and]
      refine (loop_allU (Lib.split s [47]) nameF ([], 10) (fun i e he => ?_) (by simp only [lt_dec_self, cond_false]; rfl)).trans ?_
      · have hi := get_le he
        simp only [lt_dec hi, cond_true, getI_nat, he, Option.bind_some, r_name e (hle e (List.mem_of_getElem? he)), wrapN i (by omega)]
        cases nameF e <;> rfl
      · cases (Lib.split s [47]).all nameF <;> rfl
theorem r_groups (l : List Br) (s : List UInt8) (hl : ∀ b ∈ l, ShB b) (hlen : l.length ≤ MX) : m_interchangeref3_Groups l s = some (grpF l s) := by
  have hFU := FU_big
  unfold m_interchangeref3_Groups sims_G7_1_6; dsimp only
  rw [r_check l hl hlen]
  unfold grpF
  simp only [Option.bind_some]
  by_cases hc : (ctF 8 l 0 0).1 = 0
  · rw [decide_eq_true hc, if_neg (by simp [hc]), r_names]
    simp only [Bool.not_true, cond_false, Option.bind_some]
    by_cases h2 : 200 < s.length
    · rw [if_pos h2, if_pos h2]; rfl
    · rw [if_neg h2, if_neg h2]
      by_cases h3 : grpBad s = true
      · rw [if_pos h3, if_pos h3]; rfl
      · rw [if_neg h3, if_neg h3]
        have h3 : grpBad s = false := by simpa using h3
        obtain ⟨ht, hL⟩ := tree_l7 hc
        have hnl := names_len (s := s) (by omega)
        simp only [decide_true, Bool.not_true, cond_false]
        rw [r_inside (namesF s) FU (by omega) (by omega) ht hL (names_ne h3)]
        rfl
  · rw [decide_eq_false hc, if_pos (by simpa using hc)]; rfl
theorem same_step {fu : Nat} {l : List Br} (hl : l.length ≤ 2000) (h : ∀ b ∈ l, cloneOk b.fSegment ∧ m_interchangeref3_SameTree fu b.fKids b.fKids = some true) : m_interchangeref3_SameTree (fu + 1) l l = some true := by
  rw [m_interchangeref3_SameTree_succ]; unfold step_G6_2_1; dsimp only; simp only [m_interchangeref3_SameTree_fold]
  simp only [decide_true, Bool.not_true, cond_false]
  refine bind_loop (a := .inl (l.length : Int)) (loop_trace (fun i => (i : Int)) l.length (fun i hi => ?_) (by simp only [lt_dec_self, cond_false]; rfl)) rfl
  obtain ⟨e, he⟩ := get_lt hi
  obtain ⟨h1, h2⟩ := h e (List.mem_of_getElem? he)
  simp only [lt_dec hi, cond_true, getI_nat, he, Option.bind_some, decide_true, Bool.not_true, sameSeg_refl e.fSegment h1, h2, orO_some, Bool.or_self, cond_false, wrapN i (by omega)]
theorem same_tree : ∀ (d : Nat) (fu : Nat) {l : List Br}, d < fu → TOk d l → leaves d l ≤ 2000 → m_interchangeref3_SameTree fu l l = some true
  | d, 0, _, h, _, _ => by omega
  | 0, fu + 1, l, _, h, _ => by
    have h : l = [] := h
    subst h
    exact same_step (by simp) fun b hb => by cases hb
  | d + 1, fu + 1, l, hd, h, hL => by
    have hlen := len_leaves (d + 1) h
    refine same_step (by omega) fun b hb => ⟨seg_clone h hb, ?_⟩
    rcases h b hb with h | ⟨h1, h2, h3, h4⟩
    · rw [h.2.2]
      cases fu with
      | zero => omega
      | succ fu => exact same_step (by simp) fun b hb => by cases hb
    · exact same_tree d fu (by omega) h4 (Nat.le_trans (kid_lt hb h1) hL)
end Go.Proofs.YtdkncdkdbddgoaaGreatDoor

/-
  Plain laws: paths of the reference.
-/
namespace Go.Proofs.YtdkncdkdbddgoaaGreatDoor
set_option linter.unusedSimpArgs false
set_option linter.unusedVariables false
open Go.RowKit

theorem firstS_all {A : Type} (L : List (List UInt8)) (q : List UInt8 → Bool) (bad : A) : firstS (fun i => match L[i]? with | some e => if q e = true then none else some bad | none => none) 0 L.length = if L.all q = true then none else some bad := by
  rcases firstS_cases (fun i => match L[i]? with | some e => if q e = true then none else some bad | none => none) L.length with ⟨h1, h2⟩ | ⟨k, a, h1, h2, h3, h4⟩
  · rw [h1]
    have : L.all q = true := by
      rw [List.all_eq_true]
      intro x hx
      obtain ⟨i, hi, rfl⟩ := List.mem_iff_getElem.1 hx
      have := h2 i hi
      simp only [List.getElem?_eq_getElem hi] at this
      by_cases hq : q L[i] = true
      · exact hq
      · simp [hq] at this
    rw [if_pos this]
  · rw [h4]
    obtain ⟨e, he⟩ := get_lt h1
    simp only [he] at h3
    by_cases hq : q e = true
    · simp [hq] at h3
    · rw [if_neg hq] at h3
      cases h3
      rw [if_neg]
      intro hall
      exact hq (List.all_eq_true.1 hall e (List.mem_of_getElem? he))
theorem tail1 (a : List UInt8) : tailF [a] = if tagF a = true then some (a, 0, 0) else none := rfl
theorem tail2 (a b : List UInt8) : tailF [a, b] = if tagF a = true then (numE 50 b).map fun n => (a, n, 0) else none := rfl
theorem tail3 (a b c : List UInt8) : tailF [a, b, c] = if tagF a = true then (numE 50 b).bind fun n => (numE 20 c).map fun k => (a, n, k) else none := rfl
abbrev pZero : Tinterchangeref3_Path := { fNames := [], fTag := [], fElement := 0, fPart := 0 }
noncomputable def pathR (s : List UInt8) : Tinterchangeref3_Path × Int :=
  if 200 < s.length then (pZero, 2) else match wayF s with | some (ns, a, n, k) => (⟨ns, a, n, k⟩, 0) | none => (pZero, 10)
theorem r_path_of (s : List UInt8) : m_interchangeref3_PathOf s = some (pathR s) := by
  unfold pathR
  unfold m_interchangeref3_PathOf sims_G7_2_1; dsimp only
  by_cases h200 : 200 < s.length
  · rw [decide_eq_true (by omega), if_pos h200]; rfl
  · rw [decide_eq_false (by omega), if_neg h200]
    obtain ⟨L, t, h, hsp⟩ := Pcs.of (c := 47) (s := s)
    obtain ⟨l1, l2, l3⟩ := h.len
    have hMX : MX = 9223372036854775807 := rfl
    have hm : m_strings_Split s [47] = some (L ++ [t]) := by
      unfold m_strings_Split; rw [if_pos ⟨by omega, by decide⟩, hsp]
    have hmt : m_strings_Split t [46] = some (Lib.split t [46]) := by
      unfold m_strings_Split; rw [if_pos ⟨by omega, by decide⟩]
    have hlen : ((L ++ [t]).length : Int) = (L.length : Int) + 1 := by simp
    rw [hm]
    simp only [cond_false, Option.bind_some]
    refine bind_loop (loop_first (z := .inl (([], [], 0, 0, L, [], 0, 0, (L.length : Int)) : List (List UInt8) × List UInt8 × Int × Int × List (List UInt8) × List UInt8 × Int × Int × Int)) (fun i => (([], [], 0, 0, L.take i, [], 0, 0, (i : Int)) : List (List UInt8) × List UInt8 × Int × Int × List (List UInt8) × List UInt8 × Int × Int × Int)) L.length
      (fun i => match L[i]? with | some e => if nameF e = true then none else some (.inr (pZero, 10)) | none => none) (fun i hi hg => ?_) (fun i a hi hg => ?_) ?_) ?_
    · obtain ⟨e, he⟩ := get_lt hi
      have hle := l3 e (List.mem_of_getElem? he)
      simp only [he] at hg
      have hq : nameF e = true := by
        by_cases hq : nameF e = true
        · exact hq
        · simp [hq] at hg
      have hge : (L ++ [t])[i]? = some e := by rw [List.getElem?_append_left hi]; exact he
      have htl : (L.take i).length = i := by rw [List.length_take]; omega
      simp only [wrapN i (by omega), hlen]
      rw [decide_eq_true (by omega)]
      simp only [cond_true, getI_nat, hge, Option.bind_some, r_name e (by omega), hq, Bool.not_true, cond_false]
      rw [lo_ok (by simp only [List.length_cons, List.length_nil]; omega), take_snoc he]
    · obtain ⟨e, he⟩ := get_lt hi
      have hle := l3 e (List.mem_of_getElem? he)
      simp only [he] at hg
      by_cases hq : nameF e = true
      · simp [hq] at hg
      · rw [if_neg hq] at hg
        have hge : (L ++ [t])[i]? = some e := by rw [List.getElem?_append_left hi]; exact he
        simp only [wrapN i (by omega), hlen]
        rw [decide_eq_true (by omega)]
        simp only [cond_true, getI_nat, hge, Option.bind_some, r_name e (by omega)]
        cases hg
        have hq : nameF e = false := by simpa using hq
        rw [hq]; rfl
    · simp only [wrapN L.length (by omega), hlen, List.take_length]
      rw [decide_eq_false (by omega)]; rfl
    · rw [firstS_all]
      have e1 : (Lib.split s [47]).dropLast = L := by rw [hsp]; simp
      have e2 : (Lib.split s [47]).getLast?.getD [] = t := by rw [hsp]; simp
      unfold wayF
      rw [e1, e2]
      by_cases hall : L.all nameF = true
      · rw [if_pos hall, if_pos hall, Option.getD_none]
        have hlast : getI (L ++ [t]) (IntKind.i64.wrap (((L ++ [t]).length : Int) - 1)) = some t := by
          rw [hlen, wrap64 _ (by omega) (by omega), show (L.length : Int) + 1 - 1 = ((L.length : Nat) : Int) by omega, getI_nat]
          simp
        simp only [outK]
        rw [hlast]
        simp only [Option.bind_some]
        rw [hmt]
        simp only [Option.bind_some]
        obtain ⟨h1, h2, h3⟩ := split_le 46 t
        revert h1 h2
        generalize Lib.split t [46] = l
        intro h1 h2
        match l, h1, h2 with
        | [], _, h2 => exact absurd rfl h2
        | a :: r, h1, _ =>
          have h0 : getI (a :: r) 0 = some a := rfl
          have hla := h1 a (by simp)
          simp only [h0, Option.bind_some, r_tag a (by omega), andO_some]
          match r, h1 with
          | [], _ =>
            simp only [show decide ((([a] : List (List UInt8)).length : Int) ≤ 3) = true from rfl, show decide ((1 : Int) < (([a] : List (List UInt8)).length : Int)) = false from rfl, show decide ((2 : Int) < (([a] : List (List UInt8)).length : Int)) = false from rfl, Bool.true_and, Bool.and_false, cond_false]
            rw [tail1]
            cases tagF a <;> rfl
          | [b], h1 =>
            have hlb := h1 b (by simp)
            have h01 : getI [a, b] 1 = some b := rfl
            obtain ⟨n, hn, hn'⟩ := small_r b 50 (by omega)
            simp only [show decide ((([a, b] : List (List UInt8)).length : Int) ≤ 3) = true from rfl, show decide ((1 : Int) < (([a, b] : List (List UInt8)).length : Int)) = true from rfl, show decide ((2 : Int) < (([a, b] : List (List UInt8)).length : Int)) = false from rfl, Bool.true_and, Bool.and_true, Bool.and_false, cond_false]
            rw [tail2]
            cases ht : tagF a with
            | false => rfl
            | true =>
              simp only [cond_true, if_true, h01, Option.bind_some, hn]
              cases hb : numE 50 b with
              | none => rfl
              | some k => rw [hn' k hb]; rfl
          | [b, c], h1 =>
            have hlb := h1 b (by simp)
            have hlc := h1 c (by simp)
            have h01 : getI [a, b, c] 1 = some b := rfl
            have h02 : getI [a, b, c] 2 = some c := rfl
            obtain ⟨n, hn, hn'⟩ := small_r b 50 (by omega)
            obtain ⟨m, hm', hm2⟩ := small_r c 20 (by omega)
            simp only [show decide ((([a, b, c] : List (List UInt8)).length : Int) ≤ 3) = true from rfl, show decide ((1 : Int) < (([a, b, c] : List (List UInt8)).length : Int)) = true from rfl, show decide ((2 : Int) < (([a, b, c] : List (List UInt8)).length : Int)) = true from rfl, Bool.true_and, Bool.and_true]
            rw [tail3]
            cases ht : tagF a with
            | false => rfl
            | true =>
              simp only [cond_true, if_true, h01, h02, Option.bind_some, hn, hm']
              cases hb : numE 50 b with
              | none => rfl
              | some k =>
                rw [hn' k hb]
                simp only [Option.isSome_some, cond_true, Option.bind_some]
                cases hc : numE 20 c with
                | none => rfl
                | some j => rw [hm2 j hc]; rfl
          | b :: c :: d :: r, _ =>
            have hlong : decide (((a :: b :: c :: d :: r).length : Int) ≤ 3) = false := decide_eq_false (by simp only [List.length_cons]; omega)
            simp only [hlong, Bool.false_and, cond_false]
            rfl
      · rw [if_neg hall, if_neg hall]; rfl
theorem r_path (s : List UInt8) : m_interchangeref3_CheckPath s = some (if 200 < s.length then 2 else if (wayF s).isSome = true then 0 else 10) := by
  unfold m_interchangeref3_CheckPath sims_G7_3_4; dsimp only
  rw [r_path_of]
  unfold pathR
  by_cases h : 200 < s.length
  · rw [if_pos h, if_pos h]; rfl
  · rw [if_neg h, if_neg h]
    cases wayF s with
    | none => rfl
    | some r => obtain ⟨ns, a, n, k⟩ := r; rfl
end Go.Proofs.YtdkncdkdbddgoaaGreatDoor

/-
  Plain laws: what a path finds, in the reference; SchemePathsMatchSpec.
-/
namespace Go.Proofs.YtdkncdkdbddgoaaGreatDoor
set_option linter.unusedSimpArgs false
set_option linter.unusedVariables false
open Go.RowKit

theorem texts_of {s : Tapi_Segment} {ns : List (List UInt8)} {n k : Int} (h : segF s = 0) (hk : NumOk n k) : m_interchangeref3_TextsOf s ⟨ns, s.fTag, n, k⟩ = some (segT s s.fTag n k) ∧ ∀ a, m_interchangeref3_TextsOf s ⟨ns, a, n, k⟩ = some (segT s s.fTag n k) := by
  have key : ∀ a, m_interchangeref3_TextsOf s ⟨ns, a, n, k⟩ = some (segT s s.fTag n k) := fun a => by
    unfold m_interchangeref3_TextsOf sims_G7_0_11; dsimp only
    unfold segT
    by_cases hn0 : n = 0
    · rw [decide_eq_true hn0, if_pos hn0]; rfl
    · rw [decide_eq_false hn0, if_neg hn0]
      simp only [cond_false]
      have hn1 : 1 ≤ n := by have := hk.n0; omega
      have hel := elem_len h
      have hn50 := hk.n1
      by_cases hlt : (s.fElements.length : Int) < n
      · rw [decide_eq_true hlt, List.getElem?_eq_none (by omega)]; rfl
      · rw [decide_eq_false hlt]
        obtain ⟨e, he⟩ := get_lt (show (n - 1).toNat < s.fElements.length by omega)
        have eN : ((n - 1).toNat : Int) = n - 1 := Int.toNat_of_nonneg (by omega)
        have g1 : getI s.fElements (IntKind.i64.wrap (n - 1)) = some e := by
          rw [wrap64 _ (by omega) (by omega), ← eN, getI_nat]; exact he
        rw [he]
        simp only [cond_false]
        rw [g1]
        simp only [Option.bind_some]
        have hrl := elem_rep h (List.mem_of_getElem? he)
        have htot : (e.fRepeats.flatMap (repT k)).length ≤ 20 := by
          refine Nat.le_trans (flatMap_len (g := fun _ => 1) fun r _ => repT_len k r) ?_
          rw [len_sum]; exact hrl
        refine (app_loop e.fRepeats [] (repT k) 40000 (by rw [List.nil_append]; omega) _ (fun m r o2 hr ho2 => ?_) (fun out => by simp only [lt_dec_self, cond_false]; rfl)).trans ?_
        · have hm := get_le hr
          obtain ⟨m1, m2⟩ := hk.max
          have eP : ((maxP k - 1).toNat : Int) = maxP k - 1 := Int.toNat_of_nonneg (by omega)
          have hmx : (if 1 > k then 1 else k) = maxP k := rfl
          simp only [lt_dec hm, cond_true, getI_nat, hr, Option.bind_some, wrapN m (by omega), hmx]
          unfold repT at ho2 ⊢
          by_cases hl : maxP k ≤ (r.length : Int)
          · obtain ⟨t, ht⟩ := get_lt (show (maxP k - 1).toNat < r.length by omega)
            have g3 : getI r (IntKind.i64.wrap (maxP k - 1)) = some t := by
              rw [wrap64 _ (by omega) (by omega), ← eP, getI_nat]; exact ht
            rw [ht] at ho2 ⊢
            rw [decide_eq_true hl, g3]
            simp only [Option.bind_some, andO_some, Bool.true_and]
            by_cases h0 : t = []
            · rw [decide_eq_true h0]; simp [h0]
            · simp only [h0, if_false] at ho2
              rw [decide_eq_false h0]
              simp only [Bool.not_false, cond_true, h0, if_false]
              rw [lo_ok (by omega)]
          · rw [decide_eq_false hl, List.getElem?_eq_none (by omega)]
            simp [andO]
        · rfl
  exact ⟨key _, key⟩
theorem r_texts {l : List Br} {ns : List (List UInt8)} {a : List UInt8} {n k : Int} (h : T7 l) (hL : L7 l ≤ 2000) (hn : ∀ x ∈ ns, x ≠ []) (hlen : ns.length ≤ 1000) (hk : NumOk n k) : m_interchangeref3_FindIn l ⟨ns, a, n, k⟩ = some (findF l ns a n k) := by
  have ho := ins_ok h hL hn
  have hFU := FU_big
  unfold m_interchangeref3_FindIn sims_G7_1_5; dsimp only
  rw [r_inside ns FU (by omega) hlen h hL hn]
  simp only [Option.bind_some]
  unfold findF
  have htot := lists_len ho a n k
  have holen := ho.len
  refine (app_loop (insF ns l) [] (fun l => l.flatMap (brT a n k)) 40000 (by rw [List.nil_append]; exact htot) _ (fun i q out hq hout => ?_) (fun out => by simp only [lt_dec_self, cond_false]; rfl)).trans ?_
  · have hi := get_le hq
    have hqm := List.mem_of_getElem? hq
    have hq7 := ho.all q hqm
    have hql := ho.lens q hqm
    simp only [lt_dec hi, cond_true, getI_nat, hq, Option.bind_some, wrapN i (by omega)]
    refine (app_loop q out (brT a n k) 40000 (by rw [List.length_append]; exact hout) _ (fun j b o hb ho => ?_) (fun out => by simp only [lt_dec_self, cond_false]; rfl)).trans ?_
    · have hj := get_le hb
      have hbm := List.mem_of_getElem? hb
      simp only [lt_dec hj, cond_true, getI_nat, hb, Option.bind_some, andO_some, wrapN j (by omega)]
      unfold brT at ho ⊢
      by_cases hc : b.fName = [] ∧ b.fSegment.fTag = a
      · rw [if_pos hc] at ho ⊢
        rw [decide_eq_true hc.1, decide_eq_true hc.2]
        have hseg := leaf_seg hq7 hbm hc.1
        simp only [Bool.and_self, cond_true]
        rw [(texts_of hseg hk).2 a, hc.2]
        simp only [Option.bind_some]
        rw [lo_ok (by omega)]
      · rw [if_neg hc]
        have : (decide (b.fName = []) && decide (b.fSegment.fTag = a)) = false := by
          rw [Bool.and_eq_false_iff, decide_eq_false_iff_not, decide_eq_false_iff_not]
          by_cases h1 : b.fName = []
          · exact .inr fun h2 => hc ⟨h1, h2⟩
          · exact .inl h1
        rw [this]
        simp
    · rfl
  · rfl
theorem r_find (l : List Br) (s : List UInt8) (hl : ∀ b ∈ l, ShB b) (hlen : l.length ≤ MX) : m_interchangeref3_Find l s = some (fndF l s) := by
  unfold m_interchangeref3_Find sims_G7_3_3; dsimp only
  rw [r_check l hl hlen]
  unfold fndF
  simp only [Option.bind_some]
  by_cases hc : (ctF 8 l 0 0).1 = 0
  · rw [decide_eq_true hc, if_neg (by simp [hc])]
    obtain ⟨ht, hL⟩ := tree_l7 hc
    simp only [Bool.not_true, cond_false]
    rw [r_path_of]
    unfold pathR
    simp only [Option.bind_some]
    by_cases h2 : 200 < s.length
    · rw [if_pos h2, if_pos h2]; rfl
    · rw [if_neg h2, if_neg h2]
      cases hw : wayF s with
      | none => rfl
      | some r =>
        obtain ⟨ns, a, n, k⟩ := r
        simp only [decide_true, Bool.not_true, cond_false]
        obtain ⟨k1, k2, k3, _⟩ := way_ok (by omega) hw
        rw [r_texts ht hL k1 (by omega) k3]; rfl
  · rw [decide_eq_false hc, if_pos (by simpa using hc)]; rfl
theorem find_len (l : List Br) (s : List UInt8) : (fndF l s).1.length ≤ 40000 := by
  unfold fndF
  split
  · simp
  · rename_i hc
    have hc : (ctF 8 l 0 0).1 = 0 := by simpa using hc
    obtain ⟨ht, hL⟩ := tree_l7 hc
    split
    · simp
    · rename_i h2
      cases hw : wayF s with
      | none => simp
      | some r =>
        obtain ⟨ns, a, n, k⟩ := r
        obtain ⟨k1, _⟩ := way_ok (by omega) hw
        exact lists_len (ins_ok ht hL k1) a n k
theorem eqS_refl (l : List (List UInt8)) (hl : l.length ≤ 1000000) : m_slices_Equal_string_string l l = some true := by
  unfold m_slices_Equal_string_string sims_G7_0_9; dsimp only
  simp only [decide_true, Bool.not_true, cond_false]
  refine bind_loop (a := .inl (l.length : Int)) (loop_trace (fun i => (i : Int)) l.length (fun i hi => ?_) (by simp only [lt_dec_self, cond_false]; rfl)) rfl
  obtain ⟨e, he⟩ := get_lt hi
  simp only [lt_dec hi, cond_true, getI_nat, he, Option.bind_some, decide_true, Bool.not_true, cond_false, wrapN i (by omega)]
/-- One simple tree. -/
abbrev tr1 : List Br := [⟨[], ⟨[66, 71, 77], []⟩, []⟩]
theorem tr1_sh : ∀ b ∈ tr1, ShB b := fun b hb => by
  rw [List.mem_singleton.1 hb]
  exact .mk (by decide) (by decide) (by decide) fun a ha => by cases ha
theorem awake_eq : m_interchangelaw3_awake = some true := by
  have h1 : (ctF 8 tr1 0 0).1 = 0 := by
    have hs : segF ⟨[66, 71, 77], []⟩ = 0 := by decide
    simp [ctF, liF, brF, cntB, formB, hs]
  have hw : wayF [66, 71, 77] = some ([], [66, 71, 77], 0, 0) := by
    have e1 : Lib.split [66, 71, 77] [47] = [[66, 71, 77]] := split_none (by decide)
    have e2 : Lib.split [66, 71, 77] [46] = [[66, 71, 77]] := split_none (by decide)
    unfold wayF
    rw [e1]
    simp only [List.dropLast, List.all_nil, if_true, List.getLast?_singleton, Option.getD_some, e2]
    have ht : tagF [66, 71, 77] = true := by decide
    simp [tailF, ht]
  have hf : fndF tr1 [66, 71, 77] = ([[66, 71, 77]], 0) := by
    unfold fndF
    rw [if_neg (by simp [h1]), if_neg (by decide), hw]
    simp [findF, insF, brT, segT]
  unfold m_interchangelaw3_awake sims_G7_6_0; dsimp only
  rw [p_find tr1 _ tr1_sh (by decide), hf]
  rfl
theorem law_paths (l : List Br) (s : List UInt8) (hl : ∀ b ∈ l, ShB b) (hlen : l.length ≤ MX) : m_interchangelaw3_SchemePathsMatchSpec l s = some true := by
  have hFU := FU_big
  have hfl := find_len l s
  unfold m_interchangelaw3_SchemePathsMatchSpec sims_G7_7_0; dsimp only
  rw [p_find l s hl hlen, r_find l s hl hlen, p_path, r_path, p_groups l s hl hlen, r_groups l s hl hlen, awake_eq]
  simp only [Option.bind_some, decide_true, Bool.not_true, orO_some, Bool.false_or, Bool.or_self, cond_false]
  rw [eqS_refl _ (by omega)]
  simp only [Option.bind_some, Bool.not_true, orO_some, Bool.or_self, cond_false]
  by_cases hg : (grpF l s).1 = []
  · rw [hg]
    rw [loopC_eq]; rfl
  · have hok : (ctF 8 l 0 0).1 = 0 ∧ LsOk (grpF l s).1 := by
      unfold grpF at hg ⊢
      split at hg
      · exact absurd rfl hg
      · rename_i hc
        have hc : (ctF 8 l 0 0).1 = 0 := by simpa using hc
        rw [if_neg (by simp [hc])]
        split at hg
        · exact absurd rfl hg
        · rename_i h2
          rw [if_neg h2]
          split at hg
          · exact absurd rfl hg
          · rename_i h3
            rw [if_neg h3]
            obtain ⟨ht, hL⟩ := tree_l7 hc
            exact ⟨hc, ins_ok ht hL (names_ne (by simpa using h3))⟩
    have hgl := hok.2.len
    refine bind_loop (a := .inl ((grpF l s).1.length : Int)) (loop_trace (fun i => (i : Int)) (grpF l s).1.length (fun i hi => ?_) (by simp only [lt_dec_self, cond_false]; rfl)) rfl
    obtain ⟨e, he⟩ := get_lt hi
    have hm := List.mem_of_getElem? he
    have hsum := mem_sum (g := L7) hm
    have h2000 := hok.2.sum
    simp only [lt_dec hi, cond_true, getI_nat, he, Option.bind_some, wrapN i (by omega)]
    rw [same_tree 7 FU (by omega) (hok.2.all e hm) (by show L7 e ≤ 2000; omega)]
    rfl
end Go.Proofs.YtdkncdkdbddgoaaGreatDoor

/-
  A tree of a parameter, as the row says it, is one whose lengths are in range.
-/
namespace Go.Proofs.YtdkncdkdbddgoaaGreatDoor
set_option linter.unusedSimpArgs false
set_option linter.unusedVariables false
open Go.RowKit

theorem shB_of : ∀ {b : Tapi_Branch}, okTapi_Branch b → ShB b := by
  intro b h
  induction h with
  | mk hn hs hl hk ih => exact .mk hn hs.1 hl ih
theorem law_pathsU (l : List Tapi_Branch) (s : List UInt8) (hl : okL okTapi_Branch l) : m_interchangelaw3_SchemePathsMatchSpec l s = some true :=
  law_paths l s (fun b hb => shB_of (hl.2 b hb)) hl.1
end Go.Proofs.YtdkncdkdbddgoaaGreatDoor

/-
  Plain laws of the wire: places.
-/
import Derived.Test.YteilhjdpbjgdpaaDoorAQ11
import Derived.Test.YteilhjdpbjgdpaaDoorAG5
namespace Go.Proofs.YteilhjdpbjgdpaaDoor
set_option linter.unusedSimpArgs false
set_option linter.unusedVariables false
open Go.RowKit

/-- A search for the first that answers. -/
theorem loop_findG {α T A : Type} (l : List α) (mk : Nat → T) (h : α → Option A) (z : A) {f : T → Option (T ⊕ A)}
    (hb : ∀ (i : Nat) (e : α), l[i]? = some e → f (mk i) = (match h e with | some a => some (.inr a) | none => some (.inl (mk (i + 1)))))
    (he : f (mk l.length) = some (.inr z)) : loopC f (mk 0) = some ((l.findSome? h).getD z) := by
  have : ∀ (t : List α) (i : Nat), l.drop i = t → i ≤ l.length → loopC f (mk i) = some ((t.findSome? h).getD z) := by
    intro t
    induction t with
    | nil =>
      intro i hd hi
      have := drop_nil_len hd hi
      subst this
      rw [loopC_eq, he]
      rfl
    | cons e t ih =>
      intro i hd hi
      obtain ⟨h1, h2, h3⟩ := drop_head hd
      rw [loopC_eq, hb i e h1, List.findSome?_cons]
      cases h e with
      | some a => rfl
      | none => exact ih (i + 1) h3 h2
  exact this l 0 rfl (Nat.zero_le _)
/-! ### Spots -/
def outB (n lo hi : Int) : Bool := decide (n < lo) || decide (hi < n)
theorem outside_eq (n lo hi : Int) : m_kit_Outside n lo hi = some (outB n lo hi) := by
  unfold m_kit_Outside sims_G5_0_0; dsimp only
  simp only [orO_some, Option.bind_some, outB]
def spotB (s : Tapi_Spot) : Bool := outB s.fElement 1 50 || outB s.fRepeat 1 20 || outB s.fPart 1 20
theorem spotRange_eq (s : Tapi_Spot) : m_wire_spotRange s = some (bif spotB s then 1 else 0) := by
  unfold m_wire_spotRange sims_G5_1_0; dsimp only
  simp only [outside_eq, Option.bind_some, orO_some, spotB]
  cases (outB s.fElement 1 50 || outB s.fRepeat 1 20 || outB s.fPart 1 20) <;> rfl
theorem within_eq (n hi : Int) : m_interchangeref2_within n hi = some (!outB n 1 hi) := by
  unfold m_interchangeref2_within sims_G5_0_0; dsimp only
  simp only [andO_some, Option.bind_some, outB, Bool.not_or]
  congr 2
  · by_cases h : 1 ≤ n
    · rw [decide_eq_true h, decide_eq_false (show ¬ n < 1 by omega)]; rfl
    · rw [decide_eq_false h, decide_eq_true (show n < 1 by omega)]; rfl
  · by_cases h : n ≤ hi
    · rw [decide_eq_true h, decide_eq_false (show ¬ hi < n by omega)]; rfl
    · rw [decide_eq_false h, decide_eq_true (show hi < n by omega)]; rfl
theorem checkSpot_eq (s : Tapi_Segment) (at_ : Tapi_Spot) (hs : segF s = 0) : m_interchangeref2_checkSpot s at_ = some (bif spotB at_ then 1 else 0) := by
  unfold m_interchangeref2_checkSpot sims_G5_1_0; dsimp only
  have hl := (seg_len hs).2.1
  simp only [r_one s (by omega), hs, within_eq, Option.bind_some, orO_some, decide_true, Bool.not_true, cond_false, Bool.not_not, spotB]
  cases (outB at_.fElement 1 50 || outB at_.fRepeat 1 20 || outB at_.fPart 1 20) <;> rfl
/-! ### Where -/
def eqSpot (a b : Tapi_Spot) : Bool := decide (a.fElement = b.fElement) && (decide (a.fRepeat = b.fRepeat) && decide (a.fPart = b.fPart))
def isP (seg : Int) (at_ : Tapi_Spot) (s : Int) (a : Tapi_Spot) : Bool := decide (s = seg) && eqSpot a at_
def noR : Tapi_Range := ⟨0, 0⟩
def findP (seg : Int) (at_ : Tapi_Spot) (l : List Tinterchangeref2_piece) : Option Tinterchangeref2_piece := l.find? fun q => isP seg at_ q.fsegment q.fat
def whereF (l : List Tapi_Segment) (m : Tapi_Marks) (lines : Bool) (seg : Int) (at_ : Tapi_Spot) : Tapi_Range × Int :=
  if joinF l m lines ≠ 0 then (noR, joinF l m lines) else if seg < 0 ∨ (l.length : Int) ≤ seg then (noR, 1) else if spotB at_ = true then (noR, 1) else
  match findP seg at_ (rAll m lines l).2.1 with
  | some q => (⟨q.ffrom, q.fto⟩, 0)
  | none => (noR, 9)
theorem join_both {l : List Tapi_Segment} {m : Tapi_Marks} {lines : Bool} (h : joinF l m lines = 0) : bothF l m = 0 := by
  unfold joinF at h
  by_cases hb : bothF l m = 0
  · exact hb
  · rw [if_pos hb] at h; exact h
theorem both_join {l : List Tapi_Segment} {m : Tapi_Marks} {lines : Bool} (h : bothF l m ≠ 0) : joinF l m lines = bothF l m := by
  unfold joinF; rw [if_pos h]
theorem findSome_map {α A : Type} (p : α → Bool) (g : α → A) : ∀ (l : List α), l.findSome? (fun x => if p x = true then some (g x) else none) = (l.find? p).map g
  | [] => rfl
  | x :: l => by
    rw [List.findSome?_cons, List.find?_cons]
    cases h : p x with
    | true => simp
    | false => simpa using findSome_map p g l
theorem segs_all {l : List Tapi_Segment} {m : Tapi_Marks} {lines : Bool} (h : joinF l m lines = 0) : l.length ≤ 2000 ∧ (∀ s ∈ l, segF s = 0) ∧ (rAll m lines l).2.1.length ≤ 40004000 ∧ (rAll m lines l).1.length ≤ 500000 := by
  have hb := join_both h
  obtain ⟨h1, h2⟩ := segs_len (both_segs hb).1
  have hB := Bd.segs (m := m) (lines := lines) (i := 0) (k := 0) (w := ([], [], 0)) ⟨by simp, by simp, by simp⟩ h2
  obtain ⟨-, h4, -⟩ := hB
  refine ⟨h1, h2, ?_, ?_⟩
  · unfold rAll; omega
  · unfold joinF at h
    rw [if_neg (fun e => e hb)] at h
    split at h
    · cases h
    · split at h
      · cases h
      · omega
theorem r_Where (l : List Tapi_Segment) (m : Tapi_Marks) (lines : Bool) (seg : Int) (at_ : Tapi_Spot) (ht : TagsShort l) : m_interchangeref2_Where l m lines seg at_ = some (whereF l m lines seg at_) := by
  unfold m_interchangeref2_Where sims_G5_2_0; dsimp only
  simp only [r_both l m ht, Option.bind_some]
  unfold whereF
  by_cases hb : bothF l m = 0
  · simp only [hb, decide_true, Bool.not_true, cond_false, r_join l m lines hb, Option.bind_some]
    by_cases hj : joinF l m lines = 0
    · obtain ⟨hl, hsg, hpl, -⟩ := segs_all hj
      simp only [hj, if_true, decide_true, Bool.not_true, cond_false, ne_eq, not_true_eq_false, if_false, orO_some, Option.bind_some]
      by_cases ho : seg < 0 ∨ (l.length : Int) ≤ seg
      · have : (decide (seg < 0) || decide ((l.length : Int) ≤ seg)) = true := by simpa using ho
        simp only [this, cond_true, if_pos ho]; rfl
      · have : (decide (seg < 0) || decide ((l.length : Int) ≤ seg)) = false := by simp; omega
        simp only [this, cond_false, if_neg ho]
        obtain ⟨k, rfl⟩ : ∃ k : Nat, seg = (k : Int) := ⟨seg.toNat, by omega⟩
        obtain ⟨s, hs⟩ := get_lt (l := l) (i := k) (by omega)
        simp only [getI_nat, hs, Option.bind_some, checkSpot_eq s at_ (hsg s (List.mem_of_getElem? hs))]
        cases hq : spotB at_ with
        | true => rfl
        | false =>
          simp only [cond_false, decide_true, Bool.not_true, Bool.false_eq_true, if_false]
          refine bind_loop (loop_findG (rAll m lines l).2.1 (fun i => (noR, ((i : Nat) : Int))) (fun q => if isP (k : Int) at_ q.fsegment q.fat = true then some (.inr ((⟨q.ffrom, q.fto⟩ : Tapi_Range), (0 : Int))) else none) (.inl (noR, (((rAll m lines l).2.1.length : Nat) : Int))) (fun i e he => ?_) ?_) ?_
          · have hi := get_le he
            simp only [lt_dec hi, cond_true, getI_nat, he, Option.bind_some, andO_some, wrapN i (by omega)]
            show (bif isP (k : Int) at_ e.fsegment e.fat then _ else _) = _
            cases isP (k : Int) at_ e.fsegment e.fat <;> rfl
          · simp only [lt_dec_self, cond_false]; rfl
          · rw [findSome_map (fun q : Tinterchangeref2_piece => isP (k : Int) at_ q.fsegment q.fat) (fun q => (Sum.inr ((⟨q.ffrom, q.fto⟩ : Tapi_Range), (0 : Int))))]
            unfold findP
            cases (rAll m lines l).2.1.find? _ <;> rfl
    · simp only [hj, if_false, decide_false, Bool.not_false, cond_true, ne_eq, not_false_eq_true, if_true]; rfl
  · have hj := both_join (lines := lines) hb
    rw [hj]
    simp only [hb, decide_false, Bool.not_false, cond_true, ne_eq, not_false_eq_true, if_true]; rfl
/-- A search among the places is one among the pieces. -/
theorem find_places (seg : Int) (at_ : Tapi_Spot) (ha : at_.fElement ≠ 0) : ∀ (l : List Tinterchangeref2_piece),
    ((l.filterMap plOf).find? fun p => isP seg at_ p.fsegment p.fat) = (findP seg at_ l).bind plOf ∧ ∀ q, findP seg at_ l = some q → plOf q = some ⟨q.fsegment, q.fat, q.ffrom, q.fto⟩
  | [] => ⟨rfl, fun q h => by cases h⟩
  | x :: l => by
    obtain ⟨h1, h2⟩ := find_places seg at_ ha l
    unfold findP at h1 h2 ⊢
    rw [List.find?_cons]
    by_cases hx : x.fat.fElement = 0
    · have hp : plOf x = none := by unfold plOf; rw [if_pos hx]
      have hq : isP seg at_ x.fsegment x.fat = false := by
        unfold isP eqSpot
        rw [hx, decide_eq_false (show ¬ (0 : Int) = at_.fElement from fun e => ha e.symm)]
        simp
      rw [List.filterMap_cons, hp, hq]
      exact ⟨h1, h2⟩
    · have hp : plOf x = some ⟨x.fsegment, x.fat, x.ffrom, x.fto⟩ := by unfold plOf; rw [if_neg hx]
      rw [List.filterMap_cons, hp, List.find?_cons]
      cases hq : isP seg at_ x.fsegment x.fat with
      | true => exact ⟨by simp [hp], fun q h => by cases h; exact hp⟩
      | false => exact ⟨h1, h2⟩
theorem indexFunc_place (l : List Twire_place) (f1 : FuncId) (c1 : List DV) (p1 : Twire_place → Option Bool) (h1) (q : Twire_place → Bool) (hp : ∀ t ∈ l, p1 t = some (q t)) (hl : l.length ≤ 9223372036854775807) :
    m_slices_IndexFunc_interchange_wire_place_interchange_wire_place l f1 c1 p1 h1 = some (match l.findIdx? q with | some j => ((j : Nat) : Int) | none => -1) := by
  unfold m_slices_IndexFunc_interchange_wire_place_interchange_wire_place sims_G5_0_0; dsimp only
  refine bind_loop (loop_index l q (fun i e he => ?_) ?_) ?_
  · have hi := get_le he
    simp only [lt_dec hi, cond_true, getI_nat, he, Option.bind_some, hp e (List.mem_of_getElem? he), wrapN i (by omega)]
    cases q e <;> rfl
  · simp only [lt_dec_self, cond_false]; rfl
  · cases l.findIdx? q <;> rfl
theorem find_idx {α : Type} (p : α → Bool) (l : List α) : l.find? p = (l.findIdx? p).bind fun i => l[i]? := by
  induction l with
  | nil => rfl
  | cons x l ih =>
    rw [List.find?_cons, List.findIdx?_cons]
    cases h : p x with
    | true => rfl
    | false =>
      simp only [ih]
      cases l.findIdx? p <;> simp
theorem plOf_len : ∀ (l : List Tinterchangeref2_piece), (l.filterMap plOf).length ≤ l.length := fun l => List.length_filterMap_le _ _
theorem w_Where (l : List Tapi_Segment) (m : Tapi_Marks) (lines : Bool) (seg : Int) (at_ : Tapi_Spot) (ht : TagsShort l) (hlen : l.length ≤ 9223372036854775807) : m_wire_Where l m lines seg at_ = some (whereF l m lines seg at_) := by
  unfold m_wire_Where sims_G5_2_0; dsimp only
  obtain ⟨pl, ss, hpl, h⟩ := w_writ l m lines
  simp only [w_written l m lines ht, Option.bind_some, h]
  unfold whereF
  by_cases hj : joinF l m lines = 0
  · obtain ⟨hl, hsg, hpn, -⟩ := segs_all hj
    obtain ⟨e1, -⟩ := hpl hj
    have hw : IntKind.i64.wrap ((l.length : Int) - 1) = (l.length : Int) - 1 := wrap64 _ (by omega) (by omega)
    simp only [hj, if_true, decide_true, Bool.not_true, cond_false, ne_eq, not_true_eq_false, if_false, outside_eq, Option.bind_some, hw]
    by_cases ho : seg < 0 ∨ (l.length : Int) ≤ seg
    · have : outB seg 0 ((l.length : Int) - 1) = true := by unfold outB; simp; omega
      simp only [this, cond_true, if_pos ho]; rfl
    · have : outB seg 0 ((l.length : Int) - 1) = false := by unfold outB; simp; omega
      simp only [this, cond_false, if_neg ho, spotRange_eq, Option.bind_some]
      cases hq : spotB at_ with
      | true => rfl
      | false =>
        simp only [cond_false, decide_true, Bool.not_true, Bool.false_eq_true, if_false]
        have ha : at_.fElement ≠ 0 := by
          unfold spotB outB at hq
          simp at hq
          omega
        have hpl' : pl.length ≤ 40004000 := by rw [← e1]; exact Nat.le_trans (plOf_len _) hpn
        have hix := indexFunc_place pl 73 [DV.ptr (rowI seg), DV.ptr (rTapi_Spot at_)] (fun a0 => m_wire_Where_1 a0 seg at_) (fun a0 r h => spec_wire_Where_1 a0 seg at_ r h) (fun p => isP seg at_ p.fsegment p.fat) (fun t _ => by
          unfold m_wire_Where_1 sims_G5_0_0; dsimp only
          simp only [andO_some, Option.bind_some]
          rfl) (by omega)
        rw [hix]
        simp only [Option.bind_some]
        obtain ⟨f1, f2⟩ := find_places seg at_ ha (rAll m lines l).2.1
        rw [e1, find_idx] at f1
        cases hi : pl.findIdx? (fun p => isP seg at_ p.fsegment p.fat) with
        | none =>
          rw [hi] at f1
          simp only [Option.bind_none] at f1
          cases hf : findP seg at_ (rAll m lines l).2.1 with
          | none => rfl
          | some q =>
            rw [hf] at f1
            have := f2 q hf
            simp only [Option.bind_some] at f1
            rw [this] at f1; cases f1
        | some i =>
          rw [hi] at f1
          simp only [Option.bind_some] at f1
          obtain ⟨hil, -, -⟩ := List.findIdx?_eq_some_iff_getElem.1 hi
          obtain ⟨p, hp⟩ := get_lt hil
          have hn : decide (((i : Nat) : Int) < 0) = false := decide_eq_false (by omega)
          simp only [hn, cond_false, getI_nat, hp, Option.bind_some]
          rw [hp] at f1
          cases hf : findP seg at_ (rAll m lines l).2.1 with
          | none => rw [hf] at f1; cases f1
          | some q =>
            rw [hf] at f1
            have := f2 q hf
            simp only [Option.bind_some] at f1
            rw [this] at f1
            cases f1
            rfl
  · simp only [hj, if_false, decide_false, Bool.not_false, cond_true, ne_eq, not_false_eq_true, if_true]; rfl
end Go.Proofs.YteilhjdpbjgdpaaDoor

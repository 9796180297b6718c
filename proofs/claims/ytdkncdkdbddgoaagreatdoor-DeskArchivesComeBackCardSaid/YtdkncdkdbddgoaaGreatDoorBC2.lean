/-
  Texts of mine, one behind the other (SCH2, SCD2, SCD3, SCD1, SCD4, SCH3, SCD5, SCA1, SCA2, SCA3).
-/
import Derived.Test.YtdkncdkdbddgoaaGreatDoorBC1
import Derived.Lib.Split
import Derived.Lib.SplitLaws
import Derived.Lib.ItoaMem
/-
  Plain laws of the archive: DeskHeadsStay.
-/
namespace Go.Proofs.YtdkncdkdbddgoaaGreatDoor
set_option linter.unusedSimpArgs false
set_option linter.unusedVariables false
open Go.RowKit

abbrev Rc := Tapi_Record
theorem name_some (l : List UInt8) (hl : l.length ≤ 9223372036854775807) : ∃ b, m_kit_IsName l = some b ∧ (b = true → l.length ≤ 40) := by
  unfold m_kit_IsName sims_G1_0_1; dsimp only
  cases l with
  | nil => exact ⟨false, rfl, fun h => by cases h⟩
  | cons b l =>
    have hg : getI (b :: l) 0 = some b := rfl
    simp only [hg, Option.bind_some, orO_some]
    have ht : ∃ t, m_strings_Trim (b :: l) [97, 98, 99, 100, 101, 102, 103, 104, 105, 106, 107, 108, 109, 110, 111, 112, 113, 114, 115, 116, 117, 118, 119, 120, 121, 122, 48, 49, 50, 51, 52, 53, 54, 55, 56, 57, 45] = some t := by
      unfold m_strings_Trim
      rw [if_pos ⟨hl, by decide, by decide⟩]
      exact ⟨_, rfl⟩
    obtain ⟨t, ht⟩ := ht
    rw [ht]
    cases hv : (decide (((b :: l).length : Int) < 1) || decide ((40 : Int) < ((b :: l).length : Int)) || decide ((b.toNat : Int) < 97) || decide ((122 : Int) < (b.toNat : Int))) with
    | true => exact ⟨false, rfl, fun h => by cases h⟩
    | false =>
      refine ⟨decide (t = []), rfl, fun _ => ?_⟩
      simp only [Bool.or_eq_false_iff, decide_eq_false_iff_not] at hv
      omega
theorem inb_some (l : List UInt8) (lo hi : UInt8) (hl : l.length ≤ 1000000) : ∃ b, m_kit_InBytes l lo hi = some b := by
  unfold m_kit_InBytes sims_G1_0_2; dsimp only
  have key : ∀ (v : Int ⊕ Bool), ∃ b, outK (fun _ => some true) v = some b := fun v => by cases v <;> exact ⟨_, rfl⟩
  obtain ⟨b, hb⟩ := key ((firstS (fun i => match l[i]? with | some e => bif (decide ((e.toNat : Int) < (lo.toNat : Int)) || decide ((hi.toNat : Int) < (e.toNat : Int))) then some (Sum.inr false) else none | none => none) 0 l.length).getD (.inl (l.length : Int)))
  refine ⟨b, bind_loop (loop_first (fun i => (i : Int)) l.length (fun i => match l[i]? with | some e => bif (decide ((e.toNat : Int) < (lo.toNat : Int)) || decide ((hi.toNat : Int) < (e.toNat : Int))) then some (Sum.inr false) else none | none => none) (fun i hi2 hn => ?_) (fun i a hi2 ha => ?_) ?_) hb⟩
  · obtain ⟨e, he⟩ := get_lt hi2
    simp only [he] at hn
    simp only [lt_dec hi2, cond_true, getI_nat, he, Option.bind_some, orO_some, wrapN i (by omega)]
    cases hc : (decide ((e.toNat : Int) < (lo.toNat : Int)) || decide ((hi.toNat : Int) < (e.toNat : Int))) with
    | true => rw [hc] at hn; cases hn
    | false => rfl
  · obtain ⟨e, he⟩ := get_lt hi2
    simp only [he] at ha
    simp only [lt_dec hi2, cond_true, getI_nat, he, Option.bind_some, orO_some]
    cases hc : (decide ((e.toNat : Int) < (lo.toNat : Int)) || decide ((hi.toNat : Int) < (e.toNat : Int))) with
    | true => rw [hc] at ha; cases ha; rfl
    | false => rw [hc] at ha; cases ha
  · simp only [lt_dec_self, cond_false]; rfl
noncomputable def nmB (l : List UInt8) : Bool := (m_kit_IsName l).getD false
noncomputable def inB (l : List UInt8) (lo : UInt8) : Bool := (m_kit_InBytes l lo (UInt8.ofNat (Int.toNat 126))).getD false
def momB (t : Int) : Bool := !(decide (t < 0) || decide (1000000000000000 < t))
theorem nm_eq (l : List UInt8) (hl : l.length ≤ 9223372036854775807) : m_kit_IsName l = some (nmB l) := by
  obtain ⟨b, h, _⟩ := name_some l hl
  unfold nmB; rw [h]; rfl
theorem nm_len {l : List UInt8} (hl : l.length ≤ 9223372036854775807) (h : nmB l = true) : l.length ≤ 40 := by
  obtain ⟨b, h1, h2⟩ := name_some l hl
  unfold nmB at h; rw [h1] at h
  exact h2 h
theorem in_eq (l : List UInt8) (lo : UInt8) (hl : l.length ≤ 1000000) : m_kit_InBytes l lo (UInt8.ofNat (Int.toNat 126)) = some (inB l lo) := by
  obtain ⟨b, h⟩ := inb_some l lo (UInt8.ofNat (Int.toNat 126)) hl
  unfold inB; rw [h]; rfl
theorem mom_eq (t : Int) : m_kit_IsMoment t = some (momB t) := by
  unfold m_kit_IsMoment sims_G1_1_0; dsimp only
  unfold m_kit_Outside sims_G1_0_0; dsimp only
  simp only [orO_some, Option.bind_some]; rfl
noncomputable def keyBad (k : List UInt8) : Bool := decide ((k.length : Int) < 1) || decide (40 < (k.length : Int)) || !inB k (UInt8.ofNat (Int.toNat 33))
noncomputable def ffF (t : Int) (k key text : List UInt8) : Int :=
  bif !momB t then 1 else bif !nmB k then 5 else bif keyBad key then 3 else bif decide (2000 < (text.length : Int)) then 2 else bif !inB text (UInt8.ofNat (Int.toNat 32)) then 3 else 0
theorem ff_eq (t : Int) (k key text : List UInt8) (hk : k.length ≤ 9223372036854775807) : m_desk_fieldsFault t k key text = some (ffF t k key text) := by
  unfold m_desk_fieldsFault sims_G1_2_0; dsimp only
  simp only [mom_eq, nm_eq k hk, Option.bind_some, orO_some]
  unfold ffF keyBad
  cases momB t with
  | false => rfl
  | true =>
  cases nmB k with
  | false => rfl
  | true =>
  simp only [Bool.not_true, cond_false]
  cases hv : (decide ((key.length : Int) < 1) || decide (40 < (key.length : Int))) with
  | true => rfl
  | false =>
  have hkl : key.length ≤ 1000000 := by simp only [Bool.or_eq_false_iff, decide_eq_false_iff_not] at hv; omega
  rw [in_eq key _ hkl]
  simp only [Option.bind_some, orO_some, Bool.false_or]
  cases !inB key (UInt8.ofNat (Int.toNat 33)) with
  | true => rfl
  | false =>
  simp only [cond_false]
  cases ht : decide (2000 < (text.length : Int)) with
  | true => rfl
  | false =>
  have htl : text.length ≤ 1000000 := by have := of_decide_eq_false ht; omega
  rw [in_eq text _ htl]
  simp only [Option.bind_some, cond_false]
  cases inB text (UInt8.ofNat (Int.toNat 32)) <;> rfl
structure FfOk (t : Int) (k key text : List UInt8) : Prop where
  mom : momB t = true
  nm : nmB k = true
  key : keyBad key = false
  len : decide (2000 < (text.length : Int)) = false
  inb : inB text (UInt8.ofNat (Int.toNat 32)) = true
theorem ff_zero {t : Int} {k key text : List UInt8} : ffF t k key text = 0 ↔ FfOk t k key text := by
  unfold ffF
  constructor
  · intro h
    cases h1 : momB t with
    | false => rw [h1] at h; cases h
    | true =>
    cases h2 : nmB k with
    | false => rw [h1, h2] at h; cases h
    | true =>
    cases h3 : keyBad key with
    | true => rw [h1, h2, h3] at h; cases h
    | false =>
    cases h4 : decide (2000 < (text.length : Int)) with
    | true => rw [h1, h2, h3, h4] at h; cases h
    | false =>
    cases h5 : inB text (UInt8.ofNat (Int.toNat 32)) with
    | false => rw [h1, h2, h3, h4, h5] at h; cases h
    | true => exact ⟨h1, h2, h3, h4, h5⟩
  · rintro ⟨h1, h2, h3, h4, h5⟩
    rw [h1, h2, h3, h4, h5]; rfl
def digB (s : List UInt8) : Bool := decide ((s.length : Int) = 16) && decide (Lib.trimS s hexSet = [])
theorem isDig_eq (s : List UInt8) (hs : s.length ≤ 9223372036854775807) : m_desk_isDigest s = some (digB s) := by
  have ht : m_strings_Trim s hexSet = some (Lib.trimS s hexSet) := by
    unfold m_strings_Trim
    rw [if_pos ⟨hs, by decide, by decide⟩]
  have hu : ([48, 49, 50, 51, 52, 53, 54, 55, 56, 57, 97, 98, 99, 100, 101, 102] : List UInt8) = hexSet := rfl
  unfold m_desk_isDigest sims_G1_0_3; dsimp only
  rw [hu, ht]
  simp only [Option.bind_some, andO_some, digB]
theorem dig_len {s : List UInt8} (h : digB s = true) : s.length = 16 := by
  unfold digB at h
  simp only [Bool.and_eq_true, decide_eq_true_eq] at h
  omega
structure RecOk (r : Rc) : Prop where
  kind : r.fKind.length ≤ 9223372036854775807
  key : r.fKey.length ≤ 9223372036854775807
  dig : r.fDigest.length ≤ 9223372036854775807
  text : r.fText.length ≤ 9223372036854775807
noncomputable def rfF (r : Rc) : Int :=
  if ffF r.fTime r.fKind r.fKey r.fText = 0 then (bif r.fDropped && !decide (r.fText = []) then 3 else bif !digB r.fDigest then 3 else bif !r.fDropped && !decide (dg r.fText = r.fDigest) then 15 else 0) else ffF r.fTime r.fKind r.fKey r.fText
theorem rf_eq (r : Rc) (h : RecOk r) : m_desk_recordFault r = some (rfF r) := by
  unfold m_desk_recordFault sims_G1_3_0; dsimp only
  rw [ff_eq _ _ _ _ h.kind, isDig_eq _ h.dig, (dg_eq _ h.text).1]
  simp only [Option.bind_some, andO_some]
  unfold rfF
  by_cases hf : ffF r.fTime r.fKind r.fKey r.fText = 0
  · rw [if_pos hf, decide_eq_true hf]
    simp only [Bool.not_true, cond_false]
    cases r.fDropped && !decide (r.fText = []) with
    | true => rfl
    | false =>
    cases digB r.fDigest with
    | false => rfl
    | true =>
    cases !r.fDropped && !decide (dg r.fText = r.fDigest) <;> rfl
  · rw [if_neg hf, decide_eq_false hf]; rfl
structure RfOk (r : Rc) : Prop where
  ff : FfOk r.fTime r.fKind r.fKey r.fText
  drop : (r.fDropped && !decide (r.fText = [])) = false
  dig : digB r.fDigest = true
  dam : (!r.fDropped && !decide (dg r.fText = r.fDigest)) = false
theorem rf_zero {r : Rc} : rfF r = 0 ↔ RfOk r := by
  unfold rfF
  constructor
  · intro h
    by_cases hf : ffF r.fTime r.fKind r.fKey r.fText = 0
    · rw [if_pos hf] at h
      cases h1 : (r.fDropped && !decide (r.fText = [])) with
      | true => rw [h1] at h; cases h
      | false =>
      cases h2 : digB r.fDigest with
      | false => rw [h1, h2] at h; cases h
      | true =>
      cases h3 : (!r.fDropped && !decide (dg r.fText = r.fDigest)) with
      | true => rw [h1, h2, h3] at h; cases h
      | false => exact ⟨ff_zero.1 hf, h1, h2, h3⟩
    · rw [if_neg hf] at h; exact absurd h hf
  · rintro ⟨h0, h1, h2, h3⟩
    rw [if_pos (ff_zero.2 h0), h1, h2, h3]; rfl
/-! ### Archives -/
def caAt (rf : Rc → Int) (l : List Rc) (i : Nat) : Option Int := match l[i]? with
  | some r => if rf r = 0 then (match l[i - 1]? with | some q => bif decide (0 < i) && decide (r.fTime < q.fTime) then some 8 else none | none => none) else some (rf r)
  | none => none
noncomputable def caF (l : List Rc) : Int := bif decide (2000 < (l.length : Int)) then 2 else (firstS (caAt rfF l) 0 l.length).getD 0
theorem firstS_map {A B : Type} (h : A → B) (g : Nat → Option A) : ∀ (n i : Nat), firstS (fun j => (g j).map h) i n = (firstS g i n).map h
  | 0, _ => rfl
  | n + 1, i => by
    simp only [firstS]
    cases g i with
    | some a => rfl
    | none => exact firstS_map h g n (i + 1)
theorem lt_int (i : Nat) : decide ((0 : Int) < (i : Int)) = decide (0 < i) := by
  by_cases h : 0 < i
  · rw [decide_eq_true h, decide_eq_true (by omega)]
  · rw [decide_eq_false h, decide_eq_false (by omega)]
theorem prev_eq {l : List Rc} {i : Nat} {r : Rc} (hr : l[i]? = some r) (hl : l.length ≤ 2000) : ∃ q, l[i - 1]? = some q ∧ (andO (decide ((0 : Int) < (i : Int))) ((getI l (IntKind.i64.wrap ((i : Int) - 1))).bind fun e => some (decide (r.fTime < e.fTime)))) = some (decide (0 < i) && decide (r.fTime < q.fTime)) := by
  have hi := get_le hr
  obtain ⟨q, hq⟩ := get_lt (show i - 1 < l.length by omega)
  refine ⟨q, hq, ?_⟩
  rw [lt_int]
  by_cases hz : 0 < i
  · rw [wrap64 _ (by omega) (by omega), show (i : Int) - 1 = ((i - 1 : Nat) : Int) by omega, getI_nat, hq]
    simp only [Option.bind_some, andO_some]
  · rw [decide_eq_false hz]; rfl
theorem ca_eq (l : List Rc) (h : ∀ r ∈ l, RecOk r) : m_desk_CheckArchive l = some (caF l) := by
  unfold m_desk_CheckArchive sims_G1_4_0; dsimp only
  unfold caF
  cases hl : decide (2000 < (l.length : Int)) with
  | true => rfl
  | false =>
  have hl2 : l.length ≤ 2000 := by have := of_decide_eq_false hl; omega
  simp only [cond_false]
  refine bind_loop (loop_first (z := .inl (l.length : Int)) (fun i => (i : Int)) l.length (fun i => (caAt rfF l i).map .inr) (fun i hi hn => ?_) (fun i a hi ha => ?_) (by simp only [lt_dec_self, cond_false]; rfl)) ?_
  · obtain ⟨r, hr⟩ := get_lt hi
    obtain ⟨q, hq, hp⟩ := prev_eq hr hl2
    simp only [lt_dec hi, cond_true, getI_nat, hr, Option.bind_some, rf_eq r (h r (List.mem_of_getElem? hr))]
    have hn : caAt rfF l i = none := by simpa using hn
    unfold caAt at hn
    rw [hr, hq] at hn
    simp only at hn
    by_cases hf : rfF r = 0
    · rw [if_pos hf] at hn
      rw [decide_eq_true hf]
      simp only [Bool.not_true, cond_false]
      rw [hp]
      cases hc : (decide (0 < i) && decide (r.fTime < q.fTime)) with
      | true => rw [hc] at hn; cases hn
      | false => simp only [Option.bind_some, cond_false, wrapN i (by omega)]
    · rw [if_neg hf] at hn; cases hn
  · obtain ⟨r, hr⟩ := get_lt hi
    obtain ⟨q, hq, hp⟩ := prev_eq hr hl2
    simp only [lt_dec hi, cond_true, getI_nat, hr, Option.bind_some, rf_eq r (h r (List.mem_of_getElem? hr))]
    unfold caAt at ha
    rw [hr, hq] at ha
    simp only at ha
    by_cases hf : rfF r = 0
    · rw [if_pos hf] at ha
      rw [decide_eq_true hf]
      simp only [Bool.not_true, cond_false]
      rw [hp]
      cases hc : (decide (0 < i) && decide (r.fTime < q.fTime)) with
      | true => rw [hc] at ha; cases ha; rfl
      | false => rw [hc] at ha; cases ha
    · rw [if_neg hf] at ha
      rw [decide_eq_false hf]
      cases ha; rfl
  · rw [firstS_map]
    cases firstS (caAt rfF l) 0 l.length <;> rfl
structure CaOk (l : List Rc) : Prop where
  len : l.length ≤ 2000
  rf : ∀ r ∈ l, RfOk r
  ord : ∀ (i : Nat) (r q : Rc), 0 < i → l[i]? = some r → l[i - 1]? = some q → ¬ r.fTime < q.fTime
theorem ca_zero {l : List Rc} : caF l = 0 ↔ CaOk l := by
  unfold caF
  constructor
  · intro h
    cases hl : decide (2000 < (l.length : Int)) with
    | true => rw [hl] at h; cases h
    | false =>
    have hl2 : l.length ≤ 2000 := by have := of_decide_eq_false hl; omega
    rw [hl] at h
    simp only [cond_false] at h
    rcases firstS_cases (caAt rfF l) l.length with ⟨h1, h2⟩ | ⟨k, a, hk, _, h3, h4⟩
    · have hat : ∀ (i : Nat) (r : Rc), l[i]? = some r → rfF r = 0 ∧ ∀ q, 0 < i → l[i - 1]? = some q → ¬ r.fTime < q.fTime := by
        intro i r hr
        have := h2 i (get_le hr)
        obtain ⟨q, hq, _⟩ := prev_eq hr hl2
        unfold caAt at this
        rw [hr, hq] at this
        simp only at this
        by_cases hf : rfF r = 0
        · rw [if_pos hf] at this
          refine ⟨hf, fun q' h0 hq' ht => ?_⟩
          rw [hq] at hq'; cases hq'
          rw [decide_eq_true h0, decide_eq_true ht] at this; cases this
        · rw [if_neg hf] at this; cases this
      refine ⟨hl2, fun r hr => ?_, fun i r q h0 hr hq => (hat i r hr).2 q h0 hq⟩
      obtain ⟨i, hi⟩ := List.getElem?_of_mem hr
      exact rf_zero.1 (hat i r hi).1
    · rw [h4] at h
      simp only [Option.getD_some] at h
      subst h
      exfalso
      obtain ⟨r, hr⟩ := get_lt hk
      obtain ⟨q, hq, _⟩ := prev_eq hr hl2
      unfold caAt at h3
      rw [hr, hq] at h3
      simp only at h3
      by_cases hf : rfF r = 0
      · rw [if_pos hf] at h3
        cases hc : (decide (0 < k) && decide (r.fTime < q.fTime)) with
        | true => rw [hc] at h3; cases h3
        | false => rw [hc] at h3; cases h3
      · rw [if_neg hf] at h3
        exact hf (Option.some.inj h3)
  · rintro ⟨h1, h2, h3⟩
    rw [decide_eq_false (by omega)]
    simp only [cond_false]
    rw [firstS_none (fun i hi => ?_)]
    · rfl
    · obtain ⟨r, hr⟩ := get_lt hi
      obtain ⟨q, hq, _⟩ := prev_eq hr h1
      unfold caAt
      rw [hr, hq]
      simp only
      rw [if_pos (rf_zero.2 (h2 r (List.mem_of_getElem? hr)))]
      by_cases hz : 0 < i
      · rw [decide_eq_false (h3 i r q hz hr hq), Bool.and_false]; rfl
      · rw [decide_eq_false hz]; rfl
end Go.Proofs.YtdkncdkdbddgoaaGreatDoor

/-
  Plain laws of the archive: the digits of a digest, of both.
-/
namespace Go.Proofs.YtdkncdkdbddgoaaGreatDoor
set_option linter.unusedSimpArgs false
set_option linter.unusedVariables false
open Go.RowKit

end Go.Proofs.YtdkncdkdbddgoaaGreatDoor

/-
  Plain laws of the archive: the fields of a record, of both.
-/
namespace Go.Proofs.YtdkncdkdbddgoaaGreatDoor
set_option linter.unusedSimpArgs false
set_option linter.unusedVariables false
open Go.RowKit

abbrev MX : Nat := 9223372036854775807
theorem dropWhile_nil {p : UInt8 → Bool} : ∀ {l : List UInt8}, l.dropWhile p = [] ↔ ∀ x ∈ l, p x = true
  | [] => by simp
  | a :: l => by
    rw [List.dropWhile_cons]
    by_cases h : p a = true
    · simp [h, dropWhile_nil (l := l)]
    · simp [h]
theorem dropWhile_head {p : UInt8 → Bool} {a : UInt8} {r : List UInt8} : ∀ {l : List UInt8}, l.dropWhile p = a :: r → p a = false
  | [], h => by simp at h
  | b :: l, h => by
    rw [List.dropWhile_cons] at h
    by_cases hp : p b = true
    · simp only [hp, if_true] at h; exact dropWhile_head h
    · simp only [hp] at h
      simp at h; rw [← h.1]; simpa using hp
theorem trim_nil (l cs : List UInt8) : Lib.trimS l cs = [] ↔ ∀ x ∈ l, cs.contains x = true := by
  unfold Lib.trimS Lib.trimLeftS Lib.trimRightS
  constructor
  · intro h
    have h1 : List.dropWhile (fun x => cs.contains x) l.reverse = [] := by
      cases hr : List.dropWhile (fun x => cs.contains x) l.reverse with
      | nil => rfl
      | cons a r =>
        exfalso
        have h2 := dropWhile_head hr
        rw [hr, dropWhile_nil] at h
        have h3 := h a (by simp)
        rw [h2] at h3; cases h3
    rw [dropWhile_nil] at h1
    intro x hx
    exact h1 x (by simpa using hx)
  · intro h
    have h1 : List.dropWhile (fun x => cs.contains x) l.reverse = [] := dropWhile_nil.2 fun x hx => h x (by simpa using hx)
    rw [h1]; rfl
/-! ### Names -/
def lowB (b : UInt8) : Bool := decide (97 ≤ (b.toNat : Int)) && decide ((b.toNat : Int) ≤ 122)
def nameB (b : UInt8) : Bool := lowB b || (decide ((b.toNat : Int) = 45) || (decide (48 ≤ (b.toNat : Int)) && decide ((b.toNat : Int) ≤ 57)))
def nameSet : List UInt8 := [97, 98, 99, 100, 101, 102, 103, 104, 105, 106, 107, 108, 109, 110, 111, 112, 113, 114, 115, 116, 117, 118, 119, 120, 121, 122, 48, 49, 50, 51, 52, 53, 54, 55, 56, 57, 45]
theorem nameB_all : (List.range 256).all (fun n => nameSet.contains (UInt8.ofNat n) == nameB (UInt8.ofNat n)) = true := by decide +kernel
theorem nameB_eq (b : UInt8) : nameSet.contains b = nameB b := by
  have := List.all_eq_true.1 nameB_all b.toNat (List.mem_range.2 b.toNat_lt)
  have hb : UInt8.ofNat b.toNat = b := by simp
  rw [hb] at this
  simpa using this
theorem trim_name (l : List UInt8) : decide (Lib.trimS l nameSet = []) = l.all nameB := by
  rw [Bool.eq_iff_iff, decide_eq_true_eq, trim_nil, List.all_eq_true]
  simp only [nameB_eq]
/-- A name. -/
def nameF : List UInt8 → Bool
  | [] => false
  | b :: l => decide (l.length ≤ 39) && lowB b && l.all nameB
theorem w_name (l : List UInt8) (hl : l.length ≤ MX) : m_kit_IsName l = some (nameF l) := by
  have ht : m_strings_Trim l nameSet = some (Lib.trimS l nameSet) := by
    unfold m_strings_Trim
    rw [if_pos ⟨hl, by decide, by decide⟩]
  have hu : ([97, 98, 99, 100, 101, 102, 103, 104, 105, 106, 107, 108, 109, 110, 111, 112, 113, 114, 115, 116, 117, 118, 119, 120, 121, 122, 48, 49, 50, 51, 52, 53, 54, 55, 56, 57, 45] : List UInt8) = nameSet := rfl
  unfold m_kit_IsName sims_G1_0_1; dsimp only
  rw [hu]
  cases l with
  | nil => rfl
  | cons b l =>
    have hg : getI (b :: l) 0 = some b := rfl
    simp only [hg, Option.bind_some, orO_some, ht, trim_name, nameF]
    have h1 : decide (((b :: l).length : Int) < 1) = false := by simp only [List.length_cons]; apply decide_eq_false; omega
    have h2 : decide (40 < ((b :: l).length : Int)) = !decide (l.length ≤ 39) := by simp only [List.length_cons]; rw [Bool.eq_iff_iff]; simp <;> omega
    have h3 : (decide ((b.toNat : Int) < 97) || decide (122 < (b.toNat : Int))) = !lowB b := by unfold lowB; rw [Bool.eq_iff_iff]; simp
    rw [h1, h2, Bool.false_or, Bool.or_assoc, h3]
    cases hb : lowB b with
    | false => simp
    | true => cases decide (l.length ≤ 39) <;> simp [nameB, hb]
/-! ### Loops that end at the first element that is wrong -/
theorem runI_all {α R : Type} (q : α → Bool) (a : R) (n : Int) : ∀ (t : List α) (i : Nat),
    runI (fun _ (_ : Unit) e => if q e = true then some (.inl ()) else some (.inr (.inr a))) (fun _ => some (Sum.inl n)) t i () = some (if t.all q = true then (.inl n : Int ⊕ R) else .inr a)
  | [], _ => rfl
  | b :: t, i => by
    simp only [runI]
    cases hb : q b with
    | true => simp only [if_true, List.all_cons, hb, Bool.true_and]; exact runI_all q a n t (i + 1)
    | false => simp [hb]
theorem loop_all {α R : Type} (l : List α) (q : α → Bool) (a : R) {f : Int → Option (Int ⊕ (Int ⊕ R))} {K : Int → Option R}
    (hb : ∀ (i : Nat) (e : α), l[i]? = some e → f (i : Int) = if q e = true then some (.inl ((i + 1 : Nat) : Int)) else some (.inr (.inr a)))
    (he : f (l.length : Int) = some (.inr (.inl (l.length : Int)))) : (loopC f 0).bind (outK K) = if l.all q = true then K (l.length : Int) else some a := by
  have h := loop_runI (f := f) l (fun i (_ : Unit) => (i : Int)) (fun _ _ e => if q e = true then some (.inl ()) else some (.inr (.inr a))) (fun _ => some (Sum.inl (l.length : Int))) (fun i e s h1 => by
    rw [hb i e h1]
    cases q e <;> rfl) (fun s => by rw [he]; rfl) ()
  rw [show ((0 : Nat) : Int) = 0 from rfl, runI_all] at h
  rw [h]
  cases l.all q <;> rfl
theorem runI_any {α : Type} (q : α → Bool) (n : Int) : ∀ (t : List α) (i : Nat),
    ∃ r : Int ⊕ Int, runI (fun i (_ : Unit) e => if q e = true then some (.inr (.inr (i : Int))) else some (.inl ())) (fun _ => some (Sum.inl n)) t i () = some r ∧ (match r with | .inl _ => t.any q = false | .inr m => 0 ≤ m ∧ t.any q = true)
  | [], _ => ⟨.inl n, rfl, rfl⟩
  | b :: t, i => by
    simp only [runI]
    cases hb : q b with
    | true => exact ⟨.inr (i : Int), rfl, by omega, by simp [hb]⟩
    | false =>
      obtain ⟨r, h1, h2⟩ := runI_any q n t (i + 1)
      refine ⟨r, h1, ?_⟩
      simp only [List.any_cons, hb, Bool.false_or]
      exact h2
theorem loop_any {α : Type} (l : List α) (q : α → Bool) {f : Int → Option (Int ⊕ (Int ⊕ Int))}
    (hb : ∀ (i : Nat) (e : α), l[i]? = some e → f (i : Int) = if q e = true then some (.inr (.inr (i : Int))) else some (.inl ((i + 1 : Nat) : Int)))
    (he : f (l.length : Int) = some (.inr (.inl (l.length : Int)))) : ∃ n, (loopC f 0).bind (outK fun _ => some (-1)) = some n ∧ decide (0 ≤ n) = l.any q := by
  have h := loop_runI (f := f) l (fun i (_ : Unit) => (i : Int)) (fun i _ e => if q e = true then some (.inr (.inr (i : Int))) else some (.inl ())) (fun _ => some (Sum.inl (l.length : Int))) (fun i e s h1 => by
    rw [hb i e h1]
    cases q e <;> rfl) (fun s => by rw [he]; rfl) ()
  obtain ⟨r, h1, h2⟩ := runI_any q (l.length : Int) l 0
  rw [show ((0 : Nat) : Int) = 0 from rfl, h1] at h
  rw [h]
  cases r with
  | inl x => exact ⟨-1, rfl, by rw [h2]; rfl⟩
  | inr m => exact ⟨m, rfl, by rw [h2.2, decide_eq_true h2.1]⟩
/-! ### Bytes -/
def rng (lo hi : UInt8) (e : UInt8) : Bool := !(decide ((e.toNat : Int) < (lo.toNat : Int)) || decide ((hi.toNat : Int) < (e.toNat : Int)))
theorem inb_all (l : List UInt8) (lo hi : UInt8) (hl : l.length ≤ 1000000) : m_kit_InBytes l lo hi = some (l.all (rng lo hi)) := by
  unfold m_kit_InBytes sims_G1_0_2; dsimp only
  refine (loop_all l (rng lo hi) false (fun i e he => ?_) (by simp only [lt_dec_self, cond_false]; rfl)).trans ?_
  · have hi2 := get_le he
    simp only [lt_dec hi2, cond_true, getI_nat, he, Option.bind_some, orO_some, wrapN i (by omega)]
    cases hc : (decide ((e.toNat : Int) < (lo.toNat : Int)) || decide ((hi.toNat : Int) < (e.toNat : Int))) with
    | true =>
      have : rng lo hi e = false := by unfold rng; rw [hc]; rfl
      rw [this]; rfl
    | false =>
      have : rng lo hi e = true := by unfold rng; rw [hc]; rfl
      rw [this]; rfl
  · cases l.all (rng lo hi) <;> rfl
abbrev b126 : UInt8 := UInt8.ofNat (Int.toNat 126)
abbrev b33 : UInt8 := UInt8.ofNat (Int.toNat 33)
abbrev b32 : UInt8 := UInt8.ofNat (Int.toNat 32)
theorem n126 : ((b126.toNat : Nat) : Int) = 126 := by decide
theorem inB_eq (l : List UInt8) (lo : UInt8) (hl : l.length ≤ 1000000) : inB l lo = l.all (rng lo b126) := by
  unfold inB
  rw [inb_all l lo _ hl]; rfl
/-! ### Digests -/
/-! ### Records that were read -/
structure Nice (r : Rc) : Prop where
  kind : r.fKind.length ≤ 1000000
  key : r.fKey.length ≤ 1000000
  dig : r.fDigest.length ≤ 1000000
  text : r.fText.length ≤ 1000000
  drop : r.fDropped = true → r.fText = []
theorem Nice.ok {r : Rc} (h : Nice r) : RecOk r := ⟨by have := h.kind; omega, by have := h.key; omega, by have := h.dig; omega, by have := h.text; omega⟩
end Go.Proofs.YtdkncdkdbddgoaaGreatDoor

/-
  Plain laws: lines of a text (strings.Cut, Split, CutSuffix at one byte).
-/
namespace Go.Proofs.YtdkncdkdbddgoaaGreatDoor
set_option linter.unusedSimpArgs false
set_option linter.unusedVariables false

theorem ix_eq (c : UInt8) (l : List UInt8) : Lib.index (c :: l) [c] = 0 := by
  unfold Lib.index
  rw [if_pos (by simp)]
theorem ix_ne {c x : UInt8} (l : List UInt8) (h : x ≠ c) : Lib.index (x :: l) [c] = if Lib.index l [c] == -1 then -1 else Lib.index l [c] + 1 := by
  rw [Lib.index, if_neg (by simp; exact fun e => h e.symm)]
theorem ix_none {c : UInt8} : ∀ {l : List UInt8}, (∀ b ∈ l, b ≠ c) → Lib.index l [c] = -1
  | [], _ => rfl
  | x :: l, h => by
    rw [ix_ne l (h x (by simp)), ix_none (l := l) fun b hb => h b (by simp [hb])]; rfl
theorem ix_at {c : UInt8} (b : List UInt8) : ∀ {a : List UInt8}, (∀ x ∈ a, x ≠ c) → Lib.index (a ++ c :: b) [c] = (a.length : Int)
  | [], _ => ix_eq c b
  | x :: a, h => by
    rw [List.cons_append, ix_ne _ (h x (by simp)), ix_at b (a := a) fun y hy => h y (by simp [hy])]
    rw [if_neg (by simp), List.length_cons]; rfl
theorem split_none {c : UInt8} {l : List UInt8} (h : ∀ b ∈ l, b ≠ c) : Lib.split l [c] = [l] := by
  unfold Lib.split
  cases hc : Lib.count l [c] with
  | zero => rfl
  | succ k => unfold Lib.splitK; rw [ix_none h]; rfl
theorem split_at {c : UInt8} {a b : List UInt8} (h : ∀ x ∈ a, x ≠ c) : Lib.split (a ++ c :: b) [c] = a :: Lib.split b [c] := by
  have hc : Lib.count (a ++ c :: b) [c] = Lib.count b [c] + 1 := by
    rw [Lib.count_one, Lib.count_one, List.count_append, List.count_cons_self, List.count_eq_zero.2 fun hm => h c hm rfl]; omega
  unfold Lib.split
  rw [hc]
  show (if Lib.index (a ++ c :: b) [c] == -1 then _ else _) = _
  rw [ix_at b h]
  rw [if_neg (by simp)]
  simp
/-- Lines, each with its end, and what is behind the last end. -/
structure Lns (L : List (List UInt8)) (t s : List UInt8) : Prop where
  eq : s = (L.map (· ++ [10])).flatten ++ t
  no : ∀ l ∈ L, ∀ b ∈ l, b ≠ (10 : UInt8)
  nt : ∀ b ∈ t, b ≠ (10 : UInt8)
theorem first_nl (s : List UInt8) : (∀ b ∈ s, b ≠ (10 : UInt8)) ∨ ∃ a b, (∀ x ∈ a, x ≠ (10 : UInt8)) ∧ s = a ++ 10 :: b := by
  induction s with
  | nil => exact .inl (by simp)
  | cons x s ih =>
    by_cases hx : x = 10
    · exact .inr ⟨[], s, by simp, by rw [hx]; rfl⟩
    · rcases ih with h | ⟨a, b, h1, h2⟩
      · exact .inl fun b hb => by
          rcases List.mem_cons.1 hb with rfl | hb
          · exact hx
          · exact h b hb
      · refine .inr ⟨x :: a, b, fun y hy => ?_, by rw [h2]; rfl⟩
        rcases List.mem_cons.1 hy with rfl | hy
        · exact hx
        · exact h1 y hy
theorem lns_ex : ∀ (n : Nat) (s : List UInt8), s.length ≤ n → ∃ L t, Lns L t s
  | 0, s, h => ⟨[], s, ⟨rfl, by simp, by have : s = [] := List.length_eq_zero_iff.1 (by omega); subst this; simp⟩⟩
  | n + 1, s, h => by
    rcases first_nl s with h1 | ⟨a, b, h1, rfl⟩
    · exact ⟨[], s, ⟨rfl, by simp, h1⟩⟩
    · obtain ⟨L, t, hL⟩ := lns_ex n b (by simp at h; omega)
      refine ⟨a :: L, t, ⟨?_, fun l hl => ?_, hL.nt⟩⟩
      · rw [hL.eq]; simp
      · rcases List.mem_cons.1 hl with rfl | hl
        · exact h1
        · exact hL.no l hl
theorem Lns.tail {a : List UInt8} {L : List (List UInt8)} {t s : List UInt8} (h : Lns (a :: L) t s) : ∃ b, s = a ++ 10 :: b ∧ Lns L t b :=
  ⟨_, by rw [h.eq]; simp, ⟨rfl, fun l hl => h.no l (by simp [hl]), h.nt⟩⟩
theorem Lns.split : ∀ {L : List (List UInt8)} {t s : List UInt8}, Lns L t s → Lib.split s [10] = L ++ [t]
  | [], t, s, h => by
    have := h.eq
    simp at this
    subst this
    exact split_none h.nt
  | a :: L, t, s, h => by
    obtain ⟨b, rfl, hb⟩ := h.tail
    rw [split_at (h.no a (by simp)), hb.split]; rfl
theorem suf_last (s : List UInt8) (b c : UInt8) : Lib.hasSuffix (s ++ [b]) [c] = (c == b) := by
  unfold Lib.hasSuffix List.isSuffixOf
  rw [List.reverse_append]
  show (c == b && [].isPrefixOf _) = _
  simp
theorem trimSuf_last (s : List UInt8) (c : UInt8) : Lib.trimSuffix (s ++ [c]) [c] = s := by
  unfold Lib.trimSuffix
  rw [suf_last, beq_self_eq_true, if_pos rfl]
  simp
theorem snoc_of {α : Type} {l : List α} (h : l ≠ []) : ∃ l' x, l = l' ++ [x] := ⟨l.dropLast, l.getLast h, (List.dropLast_concat_getLast h).symm⟩
/-- What lines a text has, where it is not empty, and whether the last one is ended. -/
theorem Lns.ended {L : List (List UInt8)} {s : List UInt8} (h : Lns L [] s) (hs : s ≠ []) : Lib.hasSuffix s [10] = true ∧ Lib.split (Lib.trimSuffix s [10]) [10] = L := by
  have hL : L ≠ [] := by rintro rfl; exact hs (by rw [h.eq]; rfl)
  obtain ⟨L', z, rfl⟩ := snoc_of hL
  have he : s = ((L'.map (· ++ [10])).flatten ++ z) ++ [10] := by rw [h.eq]; simp
  have h2 : Lns L' z ((L'.map (· ++ [10])).flatten ++ z) := ⟨rfl, fun l hl => h.no l (by simp [hl]), h.no z (by simp)⟩
  rw [he, suf_last, trimSuf_last, h2.split]
  exact ⟨rfl, rfl⟩
theorem Lns.open {L : List (List UInt8)} {t s : List UInt8} (h : Lns L t s) (ht : t ≠ []) : Lib.hasSuffix s [10] = false ∧ Lib.split (Lib.trimSuffix s [10]) [10] = L ++ [t] := by
  obtain ⟨t', b, rfl⟩ := snoc_of ht
  have he : s = ((L.map (· ++ [10])).flatten ++ t') ++ [b] := by rw [h.eq]; simp
  have hb : b ≠ 10 := h.nt b (by simp)
  have hf : Lib.hasSuffix s [10] = false := by
    rw [he, suf_last]; simpa using fun e => hb e.symm
  have hs := h.split
  refine ⟨hf, ?_⟩
  unfold Lib.trimSuffix
  rw [hf]
  exact hs
end Go.Proofs.YtdkncdkdbddgoaaGreatDoor

/-
  Plain laws of the archive: a line is read alike by both.
-/
namespace Go.Proofs.YtdkncdkdbddgoaaGreatDoor
set_option linter.unusedSimpArgs false
set_option linter.unusedVariables false
open Go.RowKit

def okW (b : List UInt8) : Bool := !decide (b = []) && b.all (rng b33 b126)
def isD : UInt8 → Bool := rng (UInt8.ofNat (Int.toNat 48)) (UInt8.ofNat (Int.toNat 57))
def h48 : List UInt8 → Bool
  | b :: _ => decide ((b.toNat : Int) = 48)
  | [] => false
def numOk (l : List UInt8) : Bool := !decide (l = []) && !decide (16 < (l.length : Int)) && l.all isD && !(decide (1 < (l.length : Int)) && h48 l)
noncomputable def numV (l : List UInt8) : Int := (m_strconv_Atoi l).getD 0
theorem isD_iff (b : UInt8) : isD b = true ↔ 48 ≤ b.toNat ∧ b.toNat ≤ 57 := by
  have h1 : (((UInt8.ofNat (Int.toNat 48)).toNat : Nat) : Int) = 48 := by decide
  have h2 : (((UInt8.ofNat (Int.toNat 57)).toNat : Nat) : Int) = 57 := by decide
  unfold isD rng
  simp only [Bool.not_eq_true', Bool.or_eq_false_iff, decide_eq_false_iff_not]
  omega
theorem isD_w {b : UInt8} (h : isD b = true) : rng b33 b126 b = true := by
  have h1 : ((b33.toNat : Nat) : Int) = 33 := by decide
  have h2 := (isD_iff b).1 h
  have h3 := n126
  unfold rng
  simp only [Bool.not_eq_true', Bool.or_eq_false_iff, decide_eq_false_iff_not]
  omega
theorem dec_some : ∀ (l : List UInt8) (a : Nat), l.all isD = true → ∃ n, Lib.decFrom a l = some n
  | [], a, _ => ⟨a, rfl⟩
  | b :: l, a, h => by
    simp only [List.all_cons, Bool.and_eq_true] at h
    obtain ⟨n, hn⟩ := dec_some l (a * 10 + (b.toNat - 48)) h.2
    refine ⟨n, ?_⟩
    unfold Lib.decFrom Lib.digitVal
    rw [if_pos ((isD_iff b).1 h.1)]
    exact hn
theorem atoi_ok {l : List UInt8} (h : numOk l = true) : m_strconv_Atoi l = some (numV l) := by
  unfold numOk at h
  simp only [Bool.and_eq_true, Bool.not_eq_true', decide_eq_false_iff_not] at h
  obtain ⟨⟨⟨h1, h2⟩, h3⟩, _⟩ := h
  have : ∃ n, m_strconv_Atoi l = some n := by
    unfold m_strconv_Atoi
    rw [if_pos (by omega)]
    cases l with
    | nil => exact absurd rfl h1
    | cons b r =>
      have hb := (isD_iff b).1 (by simp only [List.all_cons, Bool.and_eq_true] at h3; exact h3.1)
      obtain ⟨n, hn⟩ := dec_some (b :: r) 0 h3
      refine ⟨(n : Int), ?_⟩
      have e1 : (b == 45) = false := by rw [beq_eq_false_iff_ne]; rintro rfl; revert hb; decide
      have e2 : (b == 43) = false := by rw [beq_eq_false_iff_ne]; rintro rfl; revert hb; decide
      have e3 : Lib.decNat (b :: r) = some n := by unfold Lib.decNat; rw [if_neg (by simp)]; exact hn
      simp only [Lib.atoi, e1, e2, e3]
      rfl
  obtain ⟨n, hn⟩ := this
  unfold numV
  rw [hn]; rfl
theorem num_eq (l : List UInt8) (hl : l.length ≤ 1000000) : m_kit_Number l 16 = some (if numOk l = true then (numV l, true) else (0, false)) := by
  have ha : numOk l = true → m_strconv_Atoi l = some (numV l) := atoi_ok
  have hd : m_kit_IsDigits l = some (!decide (l = []) && l.all isD) := by
    unfold m_kit_IsDigits sims_G1_1_4; dsimp only
    rw [inb_all l _ _ hl]
    simp only [Option.bind_some, andO_some]
    rfl
  unfold m_kit_Number sims_G1_2_2; dsimp only
  rw [hd]
  unfold numOk at ha ⊢
  cases l with
  | nil => rfl
  | cons b r =>
    have hg : getI (b :: r) 0 = some b := rfl
    simp only [hg, Option.bind_some, orO_some, andO_some, h48] at ha ⊢
    simp only [show decide (b :: r = []) = false from rfl, Bool.not_false, Bool.true_and] at ha ⊢
    cases h1 : decide (16 < ((b :: r).length : Int)) with
    | true => simp only [h1] at *; rfl
    | false =>
    cases h2 : (b :: r).all isD with
    | false => rfl
    | true =>
    cases h3 : (decide (1 < ((b :: r).length : Int)) && decide ((b.toNat : Int) = 48)) with
    | true => rfl
    | false =>
      rw [h1, h2, h3] at ha
      simp only [Bool.not_false, Bool.true_and, Bool.and_true, forall_const, Bool.not_true, Bool.or_false, cond_false] at ha ⊢
      rw [ha]
      rfl
theorem con_eq (l : List (List UInt8)) (hl : l.length ≤ 1000000) : m_slices_Contains_string_string l [] = some (l.any fun e => decide (([] : List UInt8) = e)) := by
  unfold m_slices_Contains_string_string sims_G1_1_1; dsimp only
  have : ∃ n, m_slices_Index_string_string l [] = some n ∧ decide (0 ≤ n) = l.any fun e => decide (([] : List UInt8) = e) := by
    unfold m_slices_Index_string_string sims_G1_0_7; dsimp only
    refine loop_any l (fun e => decide (([] : List UInt8) = e)) (fun i e he => ?_) (by simp only [lt_dec_self, cond_false]; rfl)
    have hi2 := get_le he
    simp only [lt_dec hi2, cond_true, getI_nat, he, Option.bind_some, wrapN i (by omega)]
    cases decide (([] : List UInt8) = e) <;> rfl
  obtain ⟨n, h1, h2⟩ := this
  rw [h1]
  simp only [Option.bind_some, h2]
theorem conf_eq {f1 : FuncId} {c1 : List DV} {h1} (l : List (List UInt8)) (hl : l.length ≤ 1000000) (hb : ∀ e ∈ l, e.length ≤ 1000000) : m_slices_ContainsFunc_string_string l f1 c1 m_desk_readRecord_1 h1 = some (l.any fun e => !e.all (rng b33 b126)) := by
  unfold m_slices_ContainsFunc_string_string sims_G1_1_2; dsimp only
  have : ∃ n, m_slices_IndexFunc_string_string l f1 c1 m_desk_readRecord_1 h1 = some n ∧ decide (0 ≤ n) = l.any fun e => !e.all (rng b33 b126) := by
    unfold m_slices_IndexFunc_string_string sims_G1_0_8; dsimp only
    refine loop_any l (fun e => !e.all (rng b33 b126)) (fun i e he => ?_) (by simp only [lt_dec_self, cond_false]; rfl)
    have hi2 := get_le he
    have hr : m_desk_readRecord_1 e = some (!e.all (rng b33 b126)) := by
      unfold m_desk_readRecord_1 sims_G1_1_3; dsimp only
      rw [inb_all e _ _ (hb e (List.mem_of_getElem? he))]; rfl
    simp only [lt_dec hi2, cond_true, getI_nat, he, Option.bind_some, wrapN i (by omega), hr]
    cases (!e.all (rng b33 b126)) <;> rfl
  obtain ⟨n, h2, h3⟩ := this
  rw [h2]
  simp only [Option.bind_some, h3]
/-! ### Pieces -/
theorem splitK_le (sep : List UInt8) : ∀ (k : Nat) (s : List UInt8), (Lib.splitK sep 0 k s).length ≤ k + 1 ∧ ∀ e ∈ Lib.splitK sep 0 k s, e.length ≤ s.length
  | 0, s => ⟨by simp [Lib.splitK], fun e he => by simp [Lib.splitK] at he; rw [he]; exact Nat.le_refl _⟩
  | k + 1, s => by
    unfold Lib.splitK
    split
    · exact ⟨by simp, fun e he => by simp at he; rw [he]; exact Nat.le_refl _⟩
    · obtain ⟨h1, h2⟩ := splitK_le sep k (s.drop ((Lib.index s sep).toNat + sep.length))
      refine ⟨by simp only [List.length_cons]; omega, fun e he => ?_⟩
      rcases List.mem_cons.1 he with rfl | he
      · simp; omega
      · have := h2 e he
        simp at this; omega
abbrev wds (s : List UInt8) : List (List UInt8) := Lib.splitN s [32] 5
theorem wds_le (s : List UInt8) : (wds s).length ≤ 5 ∧ ∀ e ∈ wds s, e.length ≤ s.length := by
  have := splitK_le [32] (min 5 (s.length + 1) - 1) s
  exact ⟨by have := this.1; show (Lib.splitK _ _ _ _).length ≤ 5; omega, this.2⟩
theorem sn_eq (s : List UInt8) (hs : s.length ≤ 1000000) : m_strings_SplitN s [32] 5 = some (wds s) := by
  unfold m_strings_SplitN
  rw [if_pos ⟨by omega, by simp, by decide, by decide⟩]
  rfl
abbrev drpT : List UInt8 := [100, 114, 111, 112, 112, 101, 100]
noncomputable def recW : List (List UInt8) → Option Rc
  | [a, b, c, d, e] => if (numOk a && okW b && okW c && okW d) = true then (if Lib.hasPrefix e [58] = true then some ⟨numV a, b, c, d, false, Lib.trimPrefix e [58]⟩ else if e = drpT then some ⟨numV a, b, c, d, true, []⟩ else none) else none
  | _ => none
noncomputable def recO (s : List UInt8) : Option Rc := recW (wds s)
theorem five {l : List (List UInt8)} (h : l.length = 5) : ∃ a b c d e, l = [a, b, c, d, e] := by
  match l, h with
  | [a, b, c, d, e], _ => exact ⟨a, b, c, d, e, rfl⟩
theorem recW_ne {l : List (List UInt8)} (h : l.length ≠ 5) : recW l = none := by
  unfold recW
  split
  · exact absurd rfl h
  · rfl
theorem p_rec (s : List UInt8) (hs : s.length ≤ 1000000) : ∃ r ok, m_desk_readRecord s = some (r, ok) ∧ recO s = if ok = true then some r else none := by
  obtain ⟨hl, hb⟩ := wds_le s
  have w5 : IntKind.i64.wrap (4 + 1) = 5 := by decide
  unfold recO
  unfold m_desk_readRecord sims_G1_3_1; dsimp only
  unfold m_desk_head sims_G1_2_1; dsimp only
  rw [w5, sn_eq s hs]
  generalize wds s = w at hl hb ⊢
  simp only [Option.bind_some]
  by_cases h5 : w.length = 5
  · obtain ⟨a, b, c, d, e, rfl⟩ := five h5
    have ha : a.length ≤ 1000000 := by have := hb a (by simp); omega
    have g4 : getI [a, b, c, d, e] 4 = some e := rfl
    have hlen : decide ((([a, b, c, d, e] : List (List UInt8)).length : Int) = 5) = true := by simp
    have hsl : sliceI [a, b, c, d, e] ((none : Option Int).getD 0) ((some (4 : Int)).getD (([a, b, c, d, e] : List (List UInt8)).length : Int)) = some [a, b, c, d] := rfl
    have g0 : getI [a, b, c, d] 0 = some a := rfl
    have g1 : getI [a, b, c, d] 1 = some b := rfl
    have g2 : getI [a, b, c, d] 2 = some c := rfl
    have g3 : getI [a, b, c, d] 3 = some d := rfl
    have hcp : m_strings_CutPrefix e [58] = some (Lib.trimPrefix e [58], Lib.hasPrefix e [58]) := rfl
    have hb4 : ∀ q ∈ [a, b, c, d], q.length ≤ 1000000 := fun q hq => by
      have := hb q (by simp at hq ⊢; rcases hq with h | h | h | h <;> simp [h])
      omega
    simp only [g4, hsl, Option.bind_some, orO_some, hlen, Bool.not_true, Bool.false_or, con_eq [a, b, c, d] (by simp)]
    cases h1 : (decide (e = []) || [a, b, c, d].any fun q => decide (([] : List UInt8) = q)) with
    | true =>
      refine ⟨_, false, rfl, ?_⟩
      simp only [recW]
      simp only [Bool.or_eq_true, decide_eq_true_eq, List.any_cons, List.any_nil, Bool.or_false] at h1
      rcases h1 with rfl | h1
      · have : ¬ ([] : List UInt8) = drpT := by decide
        simp [Lib.hasPrefix, this]
      · have : (numOk a && okW b && okW c && okW d) = false := by
          unfold numOk okW
          rcases h1 with rfl | rfl | rfl | rfl <;> simp
        rw [this]; simp
    | false =>
      simp only [cond_false, Option.bind_some, Bool.not_true, orO_some, Bool.false_or]
      rw [conf_eq _ (by simp) hb4]
      simp only [Option.bind_some, orO_some]
      cases h2 : ([a, b, c, d].any fun q => !q.all (rng b33 b126)) with
      | true =>
        refine ⟨_, false, rfl, ?_⟩
        simp only [recW]
        simp only [List.any_cons, List.any_nil, Bool.or_false, Bool.or_eq_true, Bool.not_eq_true'] at h2
        have : (numOk a && okW b && okW c && okW d) = false := by
          rcases h2 with h2 | h2 | h2 | h2
          · have : numOk a = false := by
              cases hn : numOk a with
              | false => rfl
              | true =>
                unfold numOk at hn
                simp only [Bool.and_eq_true] at hn
                have h3 := hn.1.2
                rw [List.all_eq_true] at h3
                have : a.all (rng b33 b126) = true := List.all_eq_true.2 fun x hx => isD_w (h3 x hx)
                rw [this] at h2; cases h2
            rw [this]; rfl
          · unfold okW; rw [h2]; simp
          · unfold okW; rw [h2]; simp
          · unfold okW; rw [h2]; simp
        rw [this]; simp
      | false =>
        simp only [cond_false, g0, g1, g2, g3, Option.bind_some, num_eq a ha, hcp, andO_some]
        have hok : okW b = true ∧ okW c = true ∧ okW d = true := by
          simp only [Bool.or_eq_false_iff, List.any_cons, List.any_nil, decide_eq_false_iff_not, Bool.not_eq_false'] at h1 h2
          refine ⟨?_, ?_, ?_⟩
          · unfold okW; rw [h2.2.1, decide_eq_false (fun e => h1.2.2.1 e.symm)]; rfl
          · unfold okW; rw [h2.2.2.1, decide_eq_false (fun e => h1.2.2.2.1 e.symm)]; rfl
          · unfold okW; rw [h2.2.2.2.1, decide_eq_false (fun e => h1.2.2.2.2.1 e.symm)]; rfl
        simp only [recW, hok.1, hok.2.1, hok.2.2, Bool.and_true]
        cases hp : Lib.hasPrefix e [58] with
        | true =>
          refine ⟨_, _, rfl, ?_⟩
          cases numOk a <;> simp
        | false =>
          refine ⟨_, _, rfl, ?_⟩
          by_cases he : e = drpT
          · rw [decide_eq_true he]; cases numOk a <;> simp [he]
          · rw [decide_eq_false he]; cases numOk a <;> simp [he]
  · rw [recW_ne h5]
    have : decide ((w.length : Int) = 5) = false := decide_eq_false (by omega)
    rw [this]
    exact ⟨_, false, rfl, rfl⟩
theorem trimP_le (e p : List UInt8) : (Lib.trimPrefix e p).length ≤ e.length := by
  unfold Lib.trimPrefix
  split
  · simp
  · exact Nat.le_refl _
theorem rec_nice {s : List UInt8} {r : Rc} (hs : s.length ≤ 1000000) (h : recO s = some r) : Nice r := by
  obtain ⟨hl, hb⟩ := wds_le s
  unfold recO at h
  generalize wds s = w at hl hb h
  unfold recW at h
  split at h
  · rename_i a b c d e
    have hb1 : b.length ≤ 1000000 := by have := hb b (by simp); omega
    have hc : c.length ≤ 1000000 := by have := hb c (by simp); omega
    have hd : d.length ≤ 1000000 := by have := hb d (by simp); omega
    have he : e.length ≤ 1000000 := by have := hb e (by simp); omega
    have ht := trimP_le e [58]
    split at h
    · split at h
      · cases h
        exact ⟨hb1, hc, hd, by show (Lib.trimPrefix e [58]).length ≤ _; omega, fun h => by cases h⟩
      · split at h
        · cases h
          exact ⟨hb1, hc, hd, by simp, fun _ => rfl⟩
        · cases h
    · cases h
  · cases h
end Go.Proofs.YtdkncdkdbddgoaaGreatDoor

/-
  Plain laws of the archive: heads, and DeskHeadsStay.
-/
namespace Go.Proofs.YtdkncdkdbddgoaaGreatDoor
set_option linter.unusedSimpArgs false
set_option linter.unusedVariables false
open Go.RowKit

def bodyF (r : Rc) : List UInt8 := Lib.itoa r.fTime ++ [32] ++ r.fKind ++ [32] ++ r.fKey ++ [32] ++ r.fDigest
theorem rf_lens {r : Rc} (h : RecOk r) (k : RfOk r) : (Lib.itoa r.fTime).length ≤ 21 ∧ r.fKind.length ≤ 40 ∧ r.fKey.length ≤ 40 ∧ r.fDigest.length = 16 ∧ -9223372036854775808 ≤ r.fTime ∧ r.fTime ≤ 9223372036854775807 := by
  have h1 := k.ff.mom
  unfold momB at h1
  simp only [Bool.not_eq_true', Bool.or_eq_false_iff, decide_eq_false_iff_not] at h1
  have h2 := k.ff.key
  unfold keyBad at h2
  simp only [Bool.or_eq_false_iff, decide_eq_false_iff_not] at h2
  exact ⟨Lib.itoa_length_le r.fTime (by omega) (by omega), nm_len h.kind k.ff.nm, by omega, dig_len k.dig, by omega, by omega⟩
theorem body_eq {r : Rc} (h : RecOk r) (k : RfOk r) : m_desk_body r = some (bodyF r) ∧ (bodyF r).length ≤ 200 := by
  obtain ⟨h1, h2, h3, h4, h5, h6⟩ := rf_lens h k
  constructor
  · unfold m_desk_body sims_G1_0_5; dsimp only
    have hi : m_strconv_Itoa r.fTime = some (Lib.itoa r.fTime) := by unfold m_strconv_Itoa; rw [if_pos ⟨h5, h6⟩]
    rw [hi]
    simp only [Option.bind_some]
    iterate 6 rw [thenO_some (strO_some.2 (by simp only [List.length_append, List.length_cons, List.length_nil]; omega))]
    rfl
  · unfold bodyF
    simp only [List.length_append, List.length_cons, List.length_nil]; omega
noncomputable def hdF (l : List Rc) : List UInt8 := l.foldl (fun h r => dg (h ++ [32] ++ bodyF r)) (Lib.repeatL [48] 16)
theorem hd_len : ∀ (l : List Rc), (∀ r ∈ l, (bodyF r).length ≤ 200) → (hdF l).length = 16 ∧ ∀ x ∈ hdF l, hexB x = true := by
  have : ∀ (l : List Rc) (s : List UInt8), s.length = 16 → (∀ x ∈ s, hexB x = true) → (∀ r ∈ l, (bodyF r).length ≤ 200) →
      (l.foldl (fun h r => dg (h ++ [32] ++ bodyF r)) s).length = 16 ∧ ∀ x ∈ l.foldl (fun h r => dg (h ++ [32] ++ bodyF r)) s, hexB x = true := by
    intro l
    induction l with
    | nil => intro s h1 h2 _; exact ⟨h1, h2⟩
    | cons r l ih =>
      intro s h1 h2 h3
      have hb := h3 r (by simp)
      obtain ⟨_, d2, d3⟩ := dg_eq (s ++ [32] ++ bodyF r) (by simp only [List.length_append, List.length_cons, List.length_nil]; omega)
      exact ih _ d2 d3 fun q hq => h3 q (by simp [hq])
  intro l h
  exact this l _ (by decide) (by decide) h
theorem hd_eq (l : List Rc) (h : ∀ r ∈ l, RecOk r) (k : ∀ r ∈ l, RfOk r) (hl : l.length ≤ 2000) : m_desk_headOf l = some (hdF l) := by
  have hb : ∀ r ∈ l, (bodyF r).length ≤ 200 := fun r hr => (body_eq (h r hr) (k r hr)).2
  have hr : m_strings_Repeat [48] 16 = some (Lib.repeatL [48] 16) := by
    unfold m_strings_Repeat
    rw [if_pos ⟨by decide, by decide, by decide⟩]; rfl
  unfold m_desk_headOf sims_G1_1_5; dsimp only
  rw [hr]
  simp only [Option.bind_some]
  refine bind_loop (a := .inl (hdF l, (l.length : Int))) (loop_pre l (fun i q => (hdF q, (i : Int))) (fun i e he => ?_) (by simp only [lt_dec_self, cond_false]; rfl)) rfl
  have hi := get_le he
  have hm := List.mem_of_getElem? he
  obtain ⟨b1, b2⟩ := body_eq (h e hm) (k e hm)
  have h16 := (hd_len (l.take i) fun q hq => hb q (List.mem_of_mem_take hq)).1
  simp only [lt_dec hi, cond_true, getI_nat, he, Option.bind_some, b1, wrapN i (by omega)]
  rw [thenO_some (strO_some.2 (by simp only [List.length_cons, List.length_nil]; omega)), thenO_some (strO_some.2 (by simp only [List.length_append, List.length_cons, List.length_nil]; omega))]
  rw [(dg_eq (hdF (l.take i) ++ [32] ++ bodyF e) (by simp only [List.length_append, List.length_cons, List.length_nil]; omega)).1]
  simp only [Option.bind_some]
  unfold hdF
  rw [List.foldl_append, List.foldl_cons, List.foldl_nil]
theorem sliceI_to (l : List Rc) (k : Nat) (h : k ≤ l.length) : sliceI l ((none : Option Int).getD 0) ((some (k : Int)).getD (l.length : Int)) = some (l.take k) := by
  simp only [Option.getD_none, Option.getD_some, sliceI]
  rw [if_pos ⟨by omega, by omega, by omega⟩]
  simp
theorem out_eq (n lo hi : Int) : m_kit_Outside n lo hi = some (decide (n < lo) || decide (hi < n)) := by
  unfold m_kit_Outside sims_G1_0_0; dsimp only
  simp only [orO_some, Option.bind_some]
theorem head_ok {l : List Rc} {k : Nat} (h : ∀ r ∈ l, RecOk r) (hc : caF l = 0) (hk : k ≤ l.length) : m_desk_Head l (k : Int) = some (hdF (l.take k), 0) := by
  have hC := ca_zero.1 hc
  unfold m_desk_Head sims_G1_5_1; dsimp only
  rw [ca_eq l h, hc]
  simp only [Option.bind_some, decide_true, Bool.not_true, cond_false, out_eq]
  rw [show (decide ((k : Int) < 0) || decide ((l.length : Int) < (k : Int))) = false by simp; omega]
  simp only [cond_false]
  rw [sliceI_to l k hk]
  simp only [Option.bind_some]
  rw [hd_eq _ (fun r hr => h r (List.mem_of_mem_take hr)) (fun r hr => hC.rf r (List.mem_of_mem_take hr)) (by rw [List.length_take]; have := hC.len; omega)]
  rfl
/-! ### Dropped -/
theorem awake_eq : m_interchangelaw12_awake = some true := by
  have hc : caF [] = 0 := ca_zero.2 ⟨by simp, (fun r hr => by cases hr), (fun i r q _ hr => by simp at hr)⟩
  have := head_ok (l := []) (k := 0) (fun r hr => by cases hr) hc (Nat.le_refl _)
  unfold m_interchangelaw12_awake sims_G1_6_0; dsimp only
  rw [show (0 : Int) = ((0 : Nat) : Int) from rfl, this]
  rfl
end Go.Proofs.YtdkncdkdbddgoaaGreatDoor

/-
  Plain laws of the archive: DeskArchivesReadMatchSpec.
-/
namespace Go.Proofs.YtdkncdkdbddgoaaGreatDoor
set_option linter.unusedSimpArgs false
set_option linter.unusedVariables false
open Go.RowKit

/-- What the lines give: the records, or the number of the line that is none. -/
noncomputable def rdL (t : List UInt8) : List (List UInt8) → Nat → List Rc → List Rc ⊕ Nat
  | [], i, out => if t = [] then .inl out else .inr (i + 1)
  | e :: L, i, out => match recO e with
    | some r => rdL t L (i + 1) (out ++ [r])
    | none => .inr (i + 1)
/-- The same over lines of which the last one may be open. -/
noncomputable def rdP (ended : Bool) : List (List UInt8) → Nat → List Rc → List Rc ⊕ Nat
  | [], _, out => .inl out
  | e :: L, i, out => match recO e with
    | some r => if (!ended && decide (L = [])) = true then .inr (i + 1) else rdP ended L (i + 1) (out ++ [r])
    | none => .inr (i + 1)
theorem rdP_ended : ∀ (L : List (List UInt8)) (i : Nat) (out : List Rc), rdP true L i out = rdL [] L i out
  | [], _, _ => rfl
  | e :: L, i, out => by
    unfold rdP rdL
    cases recO e with
    | none => rfl
    | some r => exact rdP_ended L (i + 1) (out ++ [r])
theorem rdP_open {t : List UInt8} (ht : t ≠ []) : ∀ (L : List (List UInt8)) (i : Nat) (out : List Rc), rdP false (L ++ [t]) i out = rdL t L i out
  | [], i, out => by
    show rdP false [t] i out = _
    unfold rdP rdL
    rw [if_neg ht]
    cases recO t <;> rfl
  | e :: L, i, out => by
    show rdP false (e :: (L ++ [t])) i out = _
    unfold rdP rdL
    cases recO e with
    | none => rfl
    | some r =>
      have : decide (L ++ [t] = []) = false := by simp
      simp only [this, Bool.and_false]
      exact rdP_open ht L (i + 1) (out ++ [r])
theorem rdL_nice (t : List UInt8) : ∀ (L : List (List UInt8)) (i : Nat) (out : List Rc) (o : List Rc), (∀ e ∈ L, e.length ≤ 1000000) → (∀ r ∈ out, Nice r) → rdL t L i out = .inl o → ∀ r ∈ o, Nice r
  | [], i, out, o, _, h2, h => by
    unfold rdL at h
    split at h
    · cases h; exact h2
    · cases h
  | e :: L, i, out, o, h1, h2, h => by
    unfold rdL at h
    cases he : recO e with
    | none => rw [he] at h; cases h
    | some q =>
      rw [he] at h
      refine rdL_nice t L (i + 1) (out ++ [q]) o (fun x hx => h1 x (by simp [hx])) (fun r hr => ?_) h
      rcases List.mem_append.1 hr with hr | hr
      · exact h2 r hr
      · rw [List.mem_singleton.1 hr]; exact rec_nice (h1 e (by simp)) he
def resV {S : Type} (st : List Rc → S) : List Rc ⊕ Nat → S ⊕ (List Rc × Int × Int)
  | .inl o => .inl (st o)
  | .inr n => .inr ([], (n : Int), 10)
theorem p_loop {lines : List (List UInt8)} {ended : Bool} (hn : lines.length ≤ 1000000) (hb : ∀ e ∈ lines, e.length ≤ 1000000) {f : List Rc × Int → Option ((List Rc × Int) ⊕ ((List Rc × Int) ⊕ (List Rc × Int × Int)))}
    (hf : ∀ s, f s = bif decide (s.snd < (lines.length : Int)) then (getI lines s.snd).bind fun e => (m_desk_readRecord e).bind fun x_1 =>
      (orO (!x_1.snd) ((andO (!ended) (some (decide (s.snd = IntKind.i64.wrap ((lines.length : Int) - 1))))).bind fun v => some v)).bind fun v =>
        bif v then inrO (inrO (some ([], IntKind.i64.wrap (s.snd + 1), 10))) else thenO (lenO (s.fst.length + [x_1.fst].length)) (some (Sum.inl (s.fst ++ [x_1.fst], IntKind.i64.wrap (s.snd + 1))))
      else inrO (some (Sum.inl (s.fst, s.snd)))) :
    ∀ (L2 : List (List UInt8)) (i : Nat) (out : List Rc), lines.drop i = L2 → i ≤ lines.length → out.length = i → loopC f (out, (i : Int)) = some (resV (fun o => (o, (lines.length : Int))) (rdP ended L2 i out))
  | [], i, out, hd, hi, ho => by
    have := drop_nil_len hd hi
    subst this
    rw [loopC_eq, hf]
    simp only [lt_dec_self, cond_false]
    rfl
  | e :: L2, i, out, hd, hi, ho => by
    obtain ⟨h1, h2, h3⟩ := drop_head hd
    obtain ⟨r, ok, hr, hro⟩ := p_rec e (hb e (List.mem_of_getElem? h1))
    have hlast : decide ((i : Int) = IntKind.i64.wrap ((lines.length : Int) - 1)) = decide (L2 = []) := by
      rw [wrap64 _ (by omega) (by omega)]
      have hl : L2.length = lines.length - (i + 1) := by rw [← h3, List.length_drop]
      rw [Bool.eq_iff_iff, decide_eq_true_eq, decide_eq_true_eq]
      constructor
      · intro h; exact List.length_eq_zero_iff.1 (by omega)
      · intro h; rw [h] at hl; simp at hl; omega
    rw [loopC_eq, hf]
    simp only [lt_dec h2, cond_true, getI_nat, h1, Option.bind_some, hr, andO_some, orO_some, hlast, wrapN i (by omega)]
    unfold rdP
    rw [hro]
    cases ok with
    | false => rfl
    | true =>
      simp only [if_true, Bool.not_true, Bool.false_or]
      cases hv : (!ended && decide (L2 = [])) with
      | true => rfl
      | false =>
        simp only [cond_false]
        rw [thenO_some (lenO_ok (by simp; omega))]
        exact p_loop hn hb hf L2 (i + 1) (out ++ [r]) h3 (by omega) (by simp [ho])
/-- What is read. -/
noncomputable def rdF : List Rc ⊕ Nat → List Rc × Int × Int
  | .inl o => if caF o = 0 then (o, 0, 0) else ([], 0, caF o)
  | .inr n => ([], (n : Int), 10)
theorem fin_eq {C : Option Int} {o : List Rc} (h : C = some (caF o)) : (C.bind fun x => bif !decide (x = 0) then some (([] : List Rc), (0 : Int), x) else some (o, 0, 0)) = some (rdF (.inl o)) := by
  rw [h]
  unfold rdF
  simp only [Option.bind_some]
  by_cases hc : caF o = 0
  · rw [if_pos hc, decide_eq_true hc]; rfl
  · rw [if_neg hc, decide_eq_false hc]; rfl
theorem big_eq (s : List UInt8) : decide ((500000 : Int) < (s.length : Int)) = decide (500000 < s.length) := by
  rw [Bool.eq_iff_iff, decide_eq_true_eq, decide_eq_true_eq]; omega
theorem lines_len : ∀ {L : List (List UInt8)} {t s : List UInt8}, Lns L t s → L.length ≤ s.length ∧ (∀ e ∈ L, e.length ≤ s.length) ∧ t.length ≤ s.length
  | [], t, s, h => by
    have he := h.eq
    simp at he
    subst he
    exact ⟨by simp, by simp, Nat.le_refl _⟩
  | a :: L, t, s, h => by
    obtain ⟨b, rfl, hb⟩ := h.tail
    obtain ⟨h1, h2, h3⟩ := lines_len hb
    refine ⟨by simp; omega, fun e he => ?_, by simp; omega⟩
    rcases List.mem_cons.1 he with rfl | he
    · simp
    · have := h2 e he
      simp; omega
theorem p_lines {L : List (List UInt8)} {t s : List UInt8} (h : Lns L t s) (hs : s.length ≤ 500000) : ∃ lines ended, m_kit_Lines s = some (lines, ended) ∧ lines.length ≤ 1000000 ∧ (∀ e ∈ lines, e.length ≤ 1000000) ∧ rdP ended lines 0 [] = rdL t L 0 [] := by
  obtain ⟨hl, hb, ht⟩ := lines_len h
  have hcs : ∀ q b, (Lib.trimSuffix s [10] = q) → (Lib.hasSuffix s [10] = b) → q.length < 4294967281 → ¬ s = [] → m_kit_Lines s = some (Lib.split q [10], b) := by
    intro q b h1 h2 h3 h4
    unfold m_kit_Lines sims_G1_0_6; dsimp only
    have hc : m_strings_CutSuffix s [10] = some (q, b) := by
      unfold m_strings_CutSuffix
      rw [if_pos (by omega), h1, h2]
    rw [decide_eq_false h4, hc]
    simp only [cond_false, Option.bind_some]
    unfold m_strings_Split
    rw [if_pos ⟨h3, by simp⟩]
    rfl
  have hq : (Lib.trimSuffix s [10]).length < 4294967281 := by
    unfold Lib.trimSuffix
    split
    · simp; omega
    · omega
  by_cases hz : s = []
  · subst hz
    have he := h.eq
    cases L with
    | cons a L => simp at he
    | nil =>
      simp at he
      subst he
      refine ⟨[], true, ?_, by simp, by simp, rfl⟩
      unfold m_kit_Lines sims_G1_0_6; dsimp only
      rfl
  · by_cases htz : t = []
    · subst htz
      obtain ⟨h1, h2⟩ := h.ended hz
      refine ⟨L, true, ?_, by omega, fun e he => by have := hb e he; omega, rdP_ended L 0 []⟩
      rw [hcs _ _ rfl h1 hq hz, h2]
    · obtain ⟨h1, h2⟩ := h.open htz
      refine ⟨L ++ [t], false, ?_, by simp; omega, fun e he => ?_, rdP_open htz L 0 []⟩
      · rw [hcs _ _ rfl h1 hq hz, h2]
      · rcases List.mem_append.1 he with he | he
        · have := hb e he; omega
        · rw [List.mem_singleton.1 he]; omega
theorem p_read {L : List (List UInt8)} {t s : List UInt8} (h : Lns L t s) (hs : s.length ≤ 500000) : m_desk_Read s = some (rdF (rdL t L 0 [])) := by
  obtain ⟨hl, hb, ht⟩ := lines_len h
  obtain ⟨lines, ended, h1, h2, h3, h4⟩ := p_lines h hs
  unfold m_desk_Read sims_G1_5_0; dsimp only
  rw [big_eq, decide_eq_false (by omega), h1]
  simp only [cond_false, Option.bind_some]
  have key := p_loop (ended := ended) h2 h3 (fun s => rfl) lines 0 [] rfl (by omega) rfl
  rw [h4] at key
  refine bind_loop key ?_
  have hni := rdL_nice t L 0 []
  show outK _ (resV _ (rdL t L 0 [])) = _
  cases hr : rdL t L 0 [] with
  | inl o => exact fin_eq (ca_eq o fun r hm => (hni o (fun e he => by have := hb e he; omega) (by simp) hr r hm).ok)
  | inr n => rfl
theorem eq_self (l : List Rc) (hl : l.length ≤ 1000000) : m_slices_Equal_interchange_api_Record_interchange_api_Record l l = some true := by
  unfold m_slices_Equal_interchange_api_Record_interchange_api_Record sims_G1_0_9; dsimp only
  rw [decide_eq_true rfl]
  simp only [Bool.not_true, cond_false]
  refine (loop_all l (fun _ => true) false (fun i e he => ?_) (by simp only [lt_dec_self, cond_false]; rfl)).trans ?_
  · have hi2 := get_le he
    simp only [lt_dec hi2, cond_true, getI_nat, he, Option.bind_some, wrapN i (by omega), decide_true, Bool.and_self, Bool.not_true, cond_false, if_true]
  · simp
end Go.Proofs.YtdkncdkdbddgoaaGreatDoor

/-
  Plain laws of the archive: a line is read as it was written, and written as it was read.
-/
namespace Go.Proofs.YtdkncdkdbddgoaaGreatDoor
set_option linter.unusedSimpArgs false
set_option linter.unusedVariables false
open Go.RowKit

/-! ### Decimal numerals -/
theorem decFrom_snoc (b : UInt8) : ∀ (l : List UInt8) (a : Nat), Lib.decFrom a (l ++ [b]) = (Lib.decFrom a l).bind fun n => (Lib.digitVal b).map fun d => n * 10 + d
  | [], a => by
    show Lib.decFrom a [b] = _
    unfold Lib.decFrom
    cases Lib.digitVal b <;> rfl
  | x :: l, a => by
    show Lib.decFrom a (x :: (l ++ [b])) = _
    unfold Lib.decFrom
    cases Lib.digitVal x with
    | none => rfl
    | some d => exact decFrom_snoc b l _
theorem digV {b : UInt8} (h : isD b = true) : Lib.digitVal b = some (b.toNat - 48) := by
  unfold Lib.digitVal
  rw [if_pos ((isD_iff b).1 h)]
theorem atoi_dig {l : List UInt8} (h1 : l ≠ []) (h2 : l.length ≤ 18) (h3 : l.all isD = true) : m_strconv_Atoi l = Option.map (fun n : Nat => (n : Int)) (Lib.decFrom 0 l) := by
  unfold m_strconv_Atoi
  rw [if_pos h2]
  cases l with
  | nil => exact absurd rfl h1
  | cons b r =>
    have hb := (isD_iff b).1 (by simp only [List.all_cons, Bool.and_eq_true] at h3; exact h3.1)
    have e1 : (b == 45) = false := by rw [beq_eq_false_iff_ne]; rintro rfl; revert hb; decide
    have e2 : (b == 43) = false := by rw [beq_eq_false_iff_ne]; rintro rfl; revert hb; decide
    have e3 : Lib.decNat (b :: r) = Lib.decFrom 0 (b :: r) := by unfold Lib.decNat; rw [if_neg (by simp)]
    simp only [Lib.atoi, e1, e2, e3]
    rfl
theorem h48_app {l m : List UInt8} (h : l ≠ []) : h48 (l ++ m) = h48 l := by
  cases l with
  | nil => exact absurd rfl h
  | cons b l => rfl
theorem digit_of (d : Nat) (h : d < 10) : isD (UInt8.ofNat (48 + d)) = true ∧ (UInt8.ofNat (48 + d)).toNat = 48 + d := by
  have h2 : (UInt8.ofNat (48 + d)).toNat = 48 + d := by simp; omega
  exact ⟨(isD_iff _).2 (by omega), h2⟩
structure DD (u : Nat) (l : List UInt8) : Prop where
  val : Lib.decFrom 0 l = some u
  dig : l.all isD = true
  ne : l ≠ []
  lead : 1 ≤ u → h48 l = false
  zero : u = 0 → l.length = 1
theorem decDD (u : Nat) : DD u (Lib.decDigits u) := by
  induction u using Nat.strongRecOn with
  | _ u ih =>
    by_cases h : u < 10
    · obtain ⟨h1, h2⟩ := digit_of u h
      rw [Lib.decDigits, dif_pos h]
      refine ⟨?_, by rw [List.all_cons, h1]; rfl, by simp, fun h0 => ?_, fun _ => rfl⟩
      · unfold Lib.decFrom
        rw [digV h1, h2]
        show Lib.decFrom _ [] = _
        unfold Lib.decFrom
        congr 1; omega
      · show decide (((UInt8.ofNat (48 + u)).toNat : Int) = 48) = false
        rw [h2]; exact decide_eq_false (by omega)
    · obtain ⟨k1, k2, k3, k4, k5⟩ := ih (u / 10) (by omega)
      obtain ⟨h1, h2⟩ := digit_of (u % 10) (Nat.mod_lt _ (by decide))
      rw [Lib.decDigits, dif_neg h]
      refine ⟨?_, by rw [List.all_append, k2, List.all_cons, h1]; rfl, by simp, fun _ => ?_, fun h0 => by omega⟩
      · rw [decFrom_snoc, k1, digV h1, h2]
        simp only [Option.bind_some, Option.map_some]
        congr 1; omega
      · rw [h48_app k3]; exact k4 (by omega)
theorem decDigits_of : ∀ (k : Nat) (l : List UInt8) (n : Nat), l.length = k + 1 → l.all isD = true → (1 < l.length → h48 l = false) → Lib.decFrom 0 l = some n → Lib.decDigits n = l
  | 0, l, n, hl, hd, _, hv => by
    match l, hl with
    | [b], _ =>
      have hb : isD b = true := by simpa using hd
      have hi := (isD_iff b).1 hb
      unfold Lib.decFrom at hv
      rw [digV hb] at hv
      have hv : Lib.decFrom (0 * 10 + (b.toNat - 48)) [] = some n := hv
      unfold Lib.decFrom at hv
      cases hv
      rw [Lib.decDigits, dif_pos (by omega)]
      congr 1
      apply UInt8.toNat_inj.1
      simp; omega
  | k + 1, l, n, hl, hd, hh, hv => by
    obtain ⟨l', b, rfl⟩ := snoc_of (l := l) (by rintro rfl; simp at hl)
    have hl' : l'.length = k + 1 := by simpa using hl
    have hne : l' ≠ [] := by rintro rfl; simp at hl'
    simp only [List.all_append, List.all_cons, List.all_nil, Bool.and_true, Bool.and_eq_true] at hd
    have h8 : h48 l' = false := by rw [← h48_app (m := [b]) hne]; exact hh (by rw [hl]; omega)
    obtain ⟨n', hn'⟩ := dec_some l' 0 hd.1
    have ih := decDigits_of k l' n' hl' hd.1 (fun _ => h8) hn'
    have hi := (isD_iff b).1 hd.2
    rw [decFrom_snoc, hn', digV hd.2] at hv
    simp only [Option.bind_some, Option.map_some, Option.some.injEq] at hv
    have h1 : 1 ≤ n' := by
      rcases Nat.eq_zero_or_pos n' with rfl | h
      · rw [← ih, Lib.decDigits, dif_pos (by decide)] at h8
        exact absurd h8 (by decide)
      · exact h
    rw [Lib.decDigits, dif_neg (by omega), show n / 10 = n' by omega, ih]
    congr 1
    congr 1
    apply UInt8.toNat_inj.1
    simp; omega
theorem decDigits_len : ∀ (k u : Nat), u < 10 ^ (k + 1) → (Lib.decDigits u).length ≤ k + 1
  | 0, u, h => by
    rw [Lib.decDigits, dif_pos (by simpa using h)]; simp
  | k + 1, u, h => by
    by_cases h10 : u < 10
    · rw [Lib.decDigits, dif_pos h10]; simp
    · rw [Lib.decDigits, dif_neg h10, List.length_append]
      have := decDigits_len k (u / 10) (by rw [Nat.pow_succ] at h; omega)
      simp; omega
theorem num_itoa {t : Int} (h0 : 0 ≤ t) (h1 : t ≤ 1000000000000000) : numOk (Lib.itoa t) = true ∧ numV (Lib.itoa t) = t ∧ ∀ b ∈ Lib.itoa t, isD b = true := by
  obtain ⟨u, rfl⟩ : ∃ u : Nat, t = (u : Int) := ⟨t.toNat, by omega⟩
  rw [Lib.itoa_nonneg]
  obtain ⟨k1, k2, k3, k4, k5⟩ := decDD u
  have hl := decDigits_len 15 u (by have : (10 : Nat) ^ (15 + 1) = 10000000000000000 := by decide
                                    omega)
  refine ⟨?_, ?_, fun b hb => List.all_eq_true.1 k2 b hb⟩
  · unfold numOk
    rw [decide_eq_false k3, decide_eq_false (by omega), k2]
    rcases Nat.eq_zero_or_pos u with hu | hu
    · rw [decide_eq_false (by have := k5 hu; omega)]; rfl
    · rw [k4 hu]; simp
  · unfold numV
    rw [atoi_dig k3 (by omega) k2, k1]; rfl
theorem itoa_num {a : List UInt8} (h : numOk a = true) : Lib.itoa (numV a) = a := by
  have h' := h
  unfold numOk at h
  simp only [Bool.and_eq_true, Bool.not_eq_true', decide_eq_false_iff_not] at h
  obtain ⟨⟨⟨h1, h2⟩, h3⟩, h4⟩ := h
  obtain ⟨n, hn⟩ := dec_some a 0 h3
  have hv : numV a = (n : Int) := by unfold numV; rw [atoi_dig h1 (by omega) h3, hn]; rfl
  rw [hv, Lib.itoa_nonneg]
  refine decDigits_of (a.length - 1) a n (by have : a.length ≠ 0 := fun e => h1 (List.length_eq_zero_iff.1 e)
                                             omega) h3 (fun hl => ?_) hn
  simp only [Bool.and_eq_false_iff, decide_eq_false_iff_not] at h4
  rcases h4 with h4 | h4
  · omega
  · exact h4
/-! ### Pieces, joined -/
def jn : List (List UInt8) → List UInt8
  | [] => []
  | x :: xs => match xs with
    | [] => x
    | _ :: _ => x ++ 32 :: jn xs
theorem first_c (c : UInt8) (s : List UInt8) : (∀ b ∈ s, b ≠ c) ∨ ∃ a b, (∀ x ∈ a, x ≠ c) ∧ s = a ++ c :: b := by
  induction s with
  | nil => exact .inl (by simp)
  | cons x s ih =>
    by_cases hx : x = c
    · exact .inr ⟨[], s, by simp, by rw [hx]; rfl⟩
    · rcases ih with h | ⟨a, b, h1, h2⟩
      · exact .inl fun b hb => by
          rcases List.mem_cons.1 hb with rfl | hb
          · exact hx
          · exact h b hb
      · refine .inr ⟨x :: a, b, fun y hy => ?_, by rw [h2]; rfl⟩
        rcases List.mem_cons.1 hy with rfl | hy
        · exact hx
        · exact h1 y hy
theorem splitK_at {c : UInt8} {a b : List UInt8} (k : Nat) (h : ∀ x ∈ a, x ≠ c) : Lib.splitK [c] 0 (k + 1) (a ++ c :: b) = a :: Lib.splitK [c] 0 k b := by
  show (if Lib.index (a ++ c :: b) [c] == -1 then _ else _) = _
  rw [ix_at b h]
  rw [if_neg (by simp)]
  simp
theorem splitK_no {c : UInt8} {s : List UInt8} (k : Nat) (h : ∀ x ∈ s, x ≠ c) : Lib.splitK [c] 0 k s = [s] := by
  cases k with
  | zero => rfl
  | succ k =>
    show (if Lib.index s [c] == -1 then _ else _) = _
    rw [ix_none h]; rfl
theorem splitK_ne (c : UInt8) (k : Nat) (s : List UInt8) : Lib.splitK [c] 0 k s ≠ [] := by
  cases k with
  | zero => simp [Lib.splitK]
  | succ k =>
    rcases first_c c s with h | ⟨a, b, h, rfl⟩
    · rw [splitK_no _ h]; simp
    · rw [splitK_at _ h]; simp
theorem jn_split : ∀ (k : Nat) (s : List UInt8), jn (Lib.splitK [32] 0 k s) = s
  | 0, s => rfl
  | k + 1, s => by
    rcases first_c 32 s with h | ⟨a, b, h, rfl⟩
    · rw [splitK_no _ h]; rfl
    · rw [splitK_at _ h]
      have hne := splitK_ne 32 k b
      have := jn_split k b
      cases hq : Lib.splitK [32] 0 k b with
      | nil => exact absurd hq hne
      | cons y ys =>
        rw [hq] at this
        show a ++ 32 :: jn (y :: ys) = _
        rw [this]
theorem wds_five {a b c d e : List UInt8} (ha : ∀ x ∈ a, x ≠ (32 : UInt8)) (hb : ∀ x ∈ b, x ≠ (32 : UInt8)) (hc : ∀ x ∈ c, x ≠ (32 : UInt8)) (hd : ∀ x ∈ d, x ≠ (32 : UInt8)) :
    wds (a ++ 32 :: (b ++ 32 :: (c ++ 32 :: (d ++ 32 :: e)))) = [a, b, c, d, e] := by
  unfold wds Lib.splitN
  rw [show min 5 ((a ++ 32 :: (b ++ 32 :: (c ++ 32 :: (d ++ 32 :: e)))).length + 1) - 1 = 3 + 1 by simp; omega]
  rw [splitK_at 3 ha, splitK_at 2 hb, splitK_at 1 hc, splitK_at 0 hd]
  rfl
/-! ### Lines -/
def lineF (r : Rc) : List UInt8 := Lib.itoa r.fTime ++ 32 :: (r.fKind ++ 32 :: (r.fKey ++ 32 :: (r.fDigest ++ 32 :: (bif r.fDropped then drpT else 58 :: r.fText))))
theorem rng_no {lo b : UInt8} (hlo : 11 ≤ lo.toNat) (h : rng lo b126 b = true) : b ≠ 10 := by
  rintro rfl
  unfold rng at h
  simp only [Bool.not_eq_true', Bool.or_eq_false_iff, decide_eq_false_iff_not] at h
  have : ((10 : UInt8).toNat : Int) = 10 := by decide
  omega
theorem rng_no32 {b : UInt8} (h : rng b33 b126 b = true) : b ≠ 32 := by rintro rfl; revert h; decide
theorem name_w_all : (List.range 256).all (fun n => !nameB (UInt8.ofNat n) || rng b33 b126 (UInt8.ofNat n)) = true := by decide +kernel
theorem name_w {b : UInt8} (h : nameB b = true) : rng b33 b126 b = true := by
  have := List.all_eq_true.1 name_w_all b.toNat (List.mem_range.2 b.toNat_lt)
  have hb : UInt8.ofNat b.toNat = b := by simp
  rw [hb, h] at this
  simpa using this
theorem hex_w_all : (List.range 256).all (fun n => !hexSet.contains (UInt8.ofNat n) || rng b33 b126 (UInt8.ofNat n)) = true := by decide +kernel
theorem hex_w {b : UInt8} (h : hexSet.contains b = true) : rng b33 b126 b = true := by
  have := List.all_eq_true.1 hex_w_all b.toNat (List.mem_range.2 b.toNat_lt)
  have hb : UInt8.ofNat b.toNat = b := by simp
  rw [hb, h] at this
  simpa using this
structure RW (r : Rc) : Prop where
  t0 : 0 ≤ r.fTime
  t1 : r.fTime ≤ 1000000000000000
  kind : okW r.fKind = true
  key : okW r.fKey = true
  dig : okW r.fDigest = true
  text : r.fText.all (rng b32 b126) = true
  drop : r.fDropped = true → r.fText = []
  len : r.fKind.length ≤ 40 ∧ r.fKey.length ≤ 40 ∧ r.fDigest.length = 16 ∧ r.fText.length ≤ 2000
theorem okW_of {l : List UInt8} (h0 : l ≠ []) (h : l.all (rng b33 b126) = true) : okW l = true := by unfold okW; rw [decide_eq_false h0, h]; rfl
theorem rw_of {r : Rc} (h : RecOk r) (k : RfOk r) : RW r := by
  have h1 := k.ff.mom
  unfold momB at h1
  simp only [Bool.not_eq_true', Bool.or_eq_false_iff, decide_eq_false_iff_not] at h1
  have h2 := k.ff.key
  unfold keyBad at h2
  simp only [Bool.or_eq_false_iff, decide_eq_false_iff_not, Bool.not_eq_false'] at h2
  have hkl : r.fKey.length ≤ 1000000 := by omega
  have h3 := k.ff.len
  rw [decide_eq_false_iff_not] at h3
  have htl : r.fText.length ≤ 1000000 := by omega
  have h4 := k.ff.inb
  rw [inB_eq _ _ htl] at h4
  rw [inB_eq _ _ hkl] at h2
  have hnl := nm_len h.kind k.ff.nm
  have hnm : nameF r.fKind = true := by
    have := nm_eq r.fKind h.kind
    rw [w_name r.fKind h.kind, k.ff.nm] at this
    exact Option.some.inj this
  have hkk : r.fKind ≠ [] ∧ r.fKind.all nameB = true := by
    cases hk : r.fKind with
    | nil => rw [hk] at hnm; cases hnm
    | cons b l =>
      rw [hk] at hnm
      unfold nameF at hnm
      simp only [Bool.and_eq_true] at hnm
      refine ⟨by simp, ?_⟩
      rw [List.all_cons, hnm.2, Bool.and_true]
      unfold nameB; rw [hnm.1.2]; rfl
  have hd16 := dig_len k.dig
  have hdx := k.dig
  unfold digB at hdx
  simp only [Bool.and_eq_true, decide_eq_true_eq] at hdx
  have hda := (trim_nil _ _).1 hdx.2
  refine ⟨by omega, by omega, okW_of hkk.1 (List.all_eq_true.2 fun x hx => name_w (List.all_eq_true.1 hkk.2 x hx)), okW_of (by rintro e; rw [e] at h2; simp at h2) h2.2, okW_of (by rintro e; rw [e] at hd16; simp at hd16) (List.all_eq_true.2 fun x hx => hex_w (hda x hx)), h4, fun hd => ?_, ⟨hnl, by omega, hd16, by omega⟩⟩
  have := k.drop
  rw [hd] at this
  simpa using this
theorem okW_all {l : List UInt8} (h : okW l = true) : ∀ x ∈ l, rng b33 b126 x = true := by
  unfold okW at h
  simp only [Bool.and_eq_true] at h
  exact List.all_eq_true.1 h.2
theorem line_rec {r : Rc} (h : RW r) : recO (lineF r) = some r ∧ (∀ b ∈ lineF r, b ≠ (10 : UInt8)) ∧ (lineF r).length ≤ 3000 := by
  obtain ⟨n1, n2, n3⟩ := num_itoa h.t0 h.t1
  have w1 : ∀ x ∈ Lib.itoa r.fTime, rng b33 b126 x = true := fun x hx => isD_w (n3 x hx)
  have w2 := okW_all h.kind
  have w3 := okW_all h.key
  have w4 := okW_all h.dig
  have c33 : 11 ≤ b33.toNat := by decide
  have c32 : 11 ≤ b32.toNat := by decide
  refine ⟨?_, fun b hb => ?_, ?_⟩
  · unfold recO lineF
    rw [wds_five (fun x hx => rng_no32 (w1 x hx)) (fun x hx => rng_no32 (w2 x hx)) (fun x hx => rng_no32 (w3 x hx)) (fun x hx => rng_no32 (w4 x hx))]
    simp only [recW, n1, h.kind, h.key, h.dig, Bool.and_self, if_true, n2]
    cases hd : r.fDropped with
    | true =>
      have ht := h.drop hd
      simp only [cond_true]
      rw [if_neg (show ¬ Lib.hasPrefix drpT [58] = true by decide), if_pos trivial]
      exact congrArg some (by rw [← hd, ← ht])
    | false =>
      simp only [cond_false]
      rw [if_pos (by unfold Lib.hasPrefix; simp)]
      congr 1
      rw [← hd]
      have : Lib.trimPrefix (58 :: r.fText) [58] = r.fText := by
        unfold Lib.trimPrefix Lib.hasPrefix
        simp
      rw [this]
  · unfold lineF at hb
    simp only [List.mem_append, List.mem_cons] at hb
    rcases hb with hb | rfl | hb | rfl | hb | rfl | hb | rfl | hb
    · exact rng_no c33 (w1 b hb)
    · decide
    · exact rng_no c33 (w2 b hb)
    · decide
    · exact rng_no c33 (w3 b hb)
    · decide
    · exact rng_no c33 (w4 b hb)
    · decide
    · cases hd : r.fDropped with
      | true =>
        rw [hd] at hb
        have hx : ∀ x ∈ drpT, x ≠ (10 : UInt8) := by decide
        exact hx b hb
      | false =>
        rw [hd] at hb
        have hb : b ∈ 58 :: r.fText := hb
        rcases List.mem_cons.1 hb with rfl | hb
        · decide
        · exact rng_no c32 (List.all_eq_true.1 h.text b hb)
  · have hi := Lib.itoa_length_le r.fTime (by have := h.t0; omega) (by have := h.t1; omega)
    obtain ⟨l1, l2, l3, l4⟩ := h.len
    have : (bif r.fDropped then drpT else 58 :: r.fText).length ≤ 2001 := by
      cases r.fDropped with
      | true => simp
      | false => simp; omega
    unfold lineF
    simp only [List.length_append, List.length_cons]
    omega
theorem rec_line {s : List UInt8} {r : Rc} (h : recO s = some r) : lineF r = s := by
  unfold recO at h
  have hj : jn (wds s) = s := jn_split _ s
  generalize wds s = w at h hj
  unfold recW at h
  split at h
  · rename_i a b c d e
    split at h
    · rename_i hok
      simp only [Bool.and_eq_true] at hok
      have ha := itoa_num hok.1.1.1
      split at h
      · rename_i hp
        cases h
        have he : (58 : UInt8) :: Lib.trimPrefix e [58] = e := by
          unfold Lib.trimPrefix
          rw [if_pos hp]
          cases e with
          | nil => cases hp
          | cons x e =>
            unfold Lib.hasPrefix at hp
            simp at hp
            rw [← hp]; rfl
        rw [← hj]
        unfold lineF
        simp only [ha, cond_false, he]
        rfl
      · split at h
        · rename_i he
          cases h
          rw [← hj]
          unfold lineF
          simp only [ha, cond_true, ← he]
          rfl
        · cases h
    · cases h
  · cases h
end Go.Proofs.YtdkncdkdbddgoaaGreatDoor

/-
  Plain laws of the archive: texts come back (for DeskArchivesComeBack; what desk.Text computes is to be shown apart).
-/
namespace Go.Proofs.YtdkncdkdbddgoaaGreatDoor
set_option linter.unusedSimpArgs false
set_option linter.unusedVariables false
open Go.RowKit

def textF (l : List Rc) : List UInt8 := (l.map fun r => lineF r ++ [10]).flatten
theorem lns_text (l : List Rc) (h : ∀ r ∈ l, RW r) : Lns (l.map lineF) [] (textF l) := by
  refine ⟨?_, fun s hs => ?_, by simp⟩
  · unfold textF
    rw [List.map_map, List.append_nil]
    rfl
  · obtain ⟨r, hr, rfl⟩ := List.mem_map.1 hs
    exact (line_rec (h r hr)).2.1
theorem rdL_text (t : List UInt8) : ∀ (l : List Rc) (i : Nat) (out : List Rc), (∀ r ∈ l, RW r) → rdL t (l.map lineF) i out = rdL t [] (i + l.length) (out ++ l)
  | [], i, out, _ => by simp
  | r :: l, i, out, h => by
    show rdL t (lineF r :: l.map lineF) i out = _
    unfold rdL
    rw [(line_rec (h r (by simp))).1]
    simp only
    rw [rdL_text t l (i + 1) (out ++ [r]) fun q hq => h q (by simp [hq])]
    rw [List.append_assoc, show i + 1 + l.length = i + (r :: l).length by simp; omega]
    unfold rdL
    rfl
theorem read_text {l : List Rc} (h : ∀ r ∈ l, RecOk r) (hc : caF l = 0) (hl : (textF l).length ≤ 500000) : m_desk_Read (textF l) = some (l, 0, 0) := by
  have hC := ca_zero.1 hc
  have hw : ∀ r ∈ l, RW r := fun r hr => rw_of (h r hr) (hC.rf r hr)
  rw [p_read (lns_text l hw) hl, rdL_text [] l 0 [] hw]
  unfold rdL
  rw [if_pos rfl]
  unfold rdF
  simp only [List.nil_append]
  rw [if_pos hc]
theorem rdL_back {t : List UInt8} : ∀ {L : List (List UInt8)} {i : Nat} {out o : List Rc}, rdL t L i out = .inl o → t = [] ∧ ∃ l, o = out ++ l ∧ l.map lineF = L
  | [], i, out, o, h => by
    unfold rdL at h
    split at h
    · rename_i ht
      cases h
      exact ⟨ht, [], by simp, rfl⟩
    · cases h
  | e :: L, i, out, o, h => by
    unfold rdL at h
    cases he : recO e with
    | none => rw [he] at h; cases h
    | some r =>
      rw [he] at h
      obtain ⟨ht, l, h1, h2⟩ := rdL_back h
      exact ⟨ht, r :: l, by rw [h1]; simp, by rw [List.map_cons, rec_line he, h2]⟩
theorem read_back {s : List UInt8} {x : List Rc} {n f : Int} (h : m_desk_Read s = some (x, n, f)) : (f ≠ 0 ∧ x = []) ∨ (f = 0 ∧ caF x = 0 ∧ textF x = s ∧ s.length ≤ 500000 ∧ ∀ r ∈ x, Nice r) := by
  by_cases hb : s.length ≤ 500000
  · obtain ⟨L, t, hL⟩ := lns_ex s.length s (Nat.le_refl _)
    obtain ⟨_, hle, _⟩ := lines_len hL
    rw [p_read hL hb] at h
    cases hr : rdL t L 0 [] with
    | inr k =>
      rw [hr] at h
      cases h
      exact .inl ⟨by decide, rfl⟩
    | inl o =>
      rw [hr] at h
      unfold rdF at h
      simp only [Option.some.injEq] at h
      by_cases hc : caF o = 0
      · rw [if_pos hc] at h
        cases h
        obtain ⟨ht, l, h1, h2⟩ := rdL_back hr
        refine .inr ⟨rfl, hc, ?_, hb, rdL_nice t L 0 [] x (fun e he => by have := hle e he; omega) (by simp) hr⟩
        have h1 : x = l := by simpa using h1
        subst h1
        unfold textF
        rw [hL.eq, ht, ← h2, List.map_map, List.append_nil]
        rfl
      · rw [if_neg hc] at h
        cases h
        exact .inl ⟨hc, rfl⟩
  · have : m_desk_Read s = some ([], 0, 2) := by
      unfold m_desk_Read sims_G1_5_0; dsimp only
      rw [big_eq, decide_eq_true (by omega)]; rfl
    rw [this] at h
    cases h
    exact .inl ⟨by decide, rfl⟩
end Go.Proofs.YtdkncdkdbddgoaaGreatDoor

/-
  Plain laws of the archive: what desk.Text computes, and DeskArchivesComeBack.
-/
namespace Go.Proofs.YtdkncdkdbddgoaaGreatDoor
set_option linter.unusedSimpArgs false
set_option linter.unusedVariables false
open Go.RowKit

theorem textF_snoc (l : List Rc) (r : Rc) : textF (l ++ [r]) = textF l ++ (lineF r ++ [10]) := by unfold textF; simp
theorem textF_pre (l : List Rc) (i : Nat) : (textF (l.take i)).length ≤ (textF l).length := by
  have : textF l = textF (l.take i) ++ textF (l.drop i) := by
    unfold textF
    rw [← List.flatten_append, ← List.map_append, List.take_append_drop]
  rw [this, List.length_append]; omega
theorem textF_len : ∀ (l : List Rc), (∀ r ∈ l, (lineF r).length ≤ 3000) → (textF l).length ≤ l.length * 3001
  | [], _ => by simp [textF]
  | r :: l, h => by
    have h1 := textF_len l fun q hq => h q (by simp [hq])
    have h2 := h r (by simp)
    unfold textF at h1 ⊢
    simp only [List.map_cons, List.flatten_cons, List.length_append, List.length_cons, List.length_nil]
    omega
theorem line_body (r : Rc) : bodyF r ++ [32] ++ (bif r.fDropped then drpT else 58 :: r.fText) = lineF r := by
  unfold bodyF lineF; simp
theorem wstr_ok {a b : List UInt8} (h : a.length + b.length ≤ 137438953472) : m_strings_Builder_WriteString a b = some ((b.length : Int), a ++ b) := by
  unfold m_strings_Builder_WriteString; rw [if_pos h]
theorem text_eq {l : List Rc} (h : ∀ r ∈ l, RecOk r) : m_desk_Text l = some (if caF l = 0 then (if 500000 < (textF l).length then ([], 2) else (textF l, 0)) else ([], caF l)) := by
  unfold m_desk_Text sims_G1_5_2; dsimp only
  rw [ca_eq l h]
  simp only [Option.bind_some]
  by_cases hc : caF l = 0
  · rw [if_pos hc, decide_eq_true hc]
    simp only [Bool.not_true, cond_false]
    have hC := ca_zero.1 hc
    have hw : ∀ r ∈ l, (lineF r).length ≤ 3000 := fun r hr => (line_rec (rw_of (h r hr) (hC.rf r hr))).2.2
    have hlen := hC.len
    have hB : ∀ i, (textF (l.take i)).length ≤ 6002000 := fun i => by
      have h1 := textF_len (l.take i) fun r hr => hw r (List.mem_of_mem_take hr)
      have h2 : (l.take i).length ≤ 2000 := by rw [List.length_take]; omega
      have h3 : (l.take i).length * 3001 ≤ 2000 * 3001 := Nat.mul_le_mul_right _ h2
      omega
    have round : ∀ i, i < l.length → ∀ {f : List UInt8 × Int → Option ((List UInt8 × Int) ⊕ ((List UInt8 × Int) ⊕ (List UInt8 × Int)))},
        (∀ s : List UInt8 × Int, f s = bif decide (s.snd < (l.length : Int)) then
                    (getI l s.snd).bind fun e =>
                      (m_desk_body e).bind fun x =>
                        thenO (strO (x.length + [32].length))
                          ((m_strings_Builder_WriteString s.fst (x ++ [32])).bind fun y =>
                            bif e.fDropped then
                              (m_strings_Builder_WriteString y.snd [100, 114, 111, 112, 112, 101, 100, 10]).bind
                                fun y =>
                                (m_strings_Builder_Len y.snd).bind fun y =>
                                  bif decide (500000 < y.fst) then inrO (inrO (some ([], 2)))
                                  else some (Sum.inl (y.snd, IntKind.i64.wrap (s.snd + 1)))
                            else
                              thenO (strO ([58].length + e.fText.length))
                                (thenO (strO ((58 :: e.fText).length + [10].length))
                                  ((m_strings_Builder_WriteString y.snd (58 :: (e.fText ++ [10]))).bind fun y =>
                                    (m_strings_Builder_Len y.snd).bind fun y =>
                                      bif decide (500000 < y.fst) then inrO (inrO (some ([], 2)))
                                      else some (Sum.inl (y.snd, IntKind.i64.wrap (s.snd + 1))))))
                  else inrO (some (Sum.inl (s.fst, s.snd)))) →
        f (textF (l.take i), (i : Int)) = if 500000 < (textF (l.take (i + 1))).length then some (.inr (.inr ([], 2))) else some (.inl (textF (l.take (i + 1)), ((i + 1 : Nat) : Int))) := fun i hi f hf => by
      obtain ⟨e, he⟩ := get_lt hi
      have hm := List.mem_of_getElem? he
      obtain ⟨b1, b2⟩ := body_eq (h e hm) (hC.rf e hm)
      have htx := (rw_of (h e hm) (hC.rf e hm)).len.2.2.2
      have hb := hB i
      have hb' := hB (i + 1)
      have hsn : textF (l.take (i + 1)) = textF (l.take i) ++ (lineF e ++ [10]) := by rw [take_snoc he, textF_snoc]
      have fin : ∀ t : List UInt8, t = textF (l.take (i + 1)) → ((m_strings_Builder_Len t).bind fun y =>
                                  bif decide (500000 < y.fst) then inrO (inrO (some (([] : List UInt8), (2 : Int))))
                                  else some (Sum.inl (y.snd, IntKind.i64.wrap ((i : Int) + 1))) : Option ((List UInt8 × Int) ⊕ ((List UInt8 × Int) ⊕ (List UInt8 × Int)))) = if 500000 < (textF (l.take (i + 1))).length then some (.inr (.inr ([], 2))) else some (.inl (textF (l.take (i + 1)), ((i + 1 : Nat) : Int))) := fun t ht => by
        subst ht
        unfold m_strings_Builder_Len
        simp only [Option.bind_some, wrapN i (by omega)]
        by_cases hL : 500000 < (textF (l.take (i + 1))).length
        · rw [if_pos hL, decide_eq_true (by omega)]; rfl
        · rw [if_neg hL, decide_eq_false (by omega)]; rfl
      rw [hf]
      simp only [lt_dec hi, cond_true, getI_nat, he, Option.bind_some, b1]
      rw [thenO_some (strO_some.2 (by simp only [List.length_cons, List.length_nil]; omega)), wstr_ok (by simp only [List.length_append, List.length_cons, List.length_nil]; omega)]
      simp only [Option.bind_some]
      cases hd : e.fDropped with
      | true =>
        simp only [cond_true]
        rw [wstr_ok (by simp only [List.length_append, List.length_cons, List.length_nil]; omega)]
        simp only [Option.bind_some]
        refine fin _ ?_
        rw [hsn, ← line_body e, hd]
        simp [drpT]
      | false =>
        simp only [cond_false]
        rw [thenO_some (strO_some.2 (by simp only [List.length_cons, List.length_nil]; omega)), thenO_some (strO_some.2 (by simp only [List.length_cons, List.length_nil]; omega)), wstr_ok (by simp only [List.length_append, List.length_cons, List.length_nil]; omega)]
        simp only [Option.bind_some]
        refine fin _ ?_
        rw [hsn, ← line_body e, hd]
        simp
    refine bind_loop (loop_first (z := .inl (textF l, (l.length : Int))) (fun i => (textF (l.take i), (i : Int))) l.length (fun i => if 500000 < (textF (l.take (i + 1))).length then some (.inr ([], 2)) else none) (fun i hi hn => ?_) (fun i a hi ha => ?_) ?_) ?_
    · refine (round i hi (fun s => rfl)).trans ?_
      split at hn
      · cases hn
      · rename_i hL; rw [if_neg hL]
    · refine (round i hi (fun s => rfl)).trans ?_
      split at ha
      · rename_i hL
        rw [if_pos hL]
        cases ha; rfl
      · cases ha
    · simp only [lt_dec_self, cond_false, List.take_length]; rfl
    · rcases firstS_cases (fun i => if 500000 < (textF (l.take (i + 1))).length then some (Sum.inr (([] : List UInt8), (2 : Int)) : (List UInt8 × Int) ⊕ (List UInt8 × Int)) else none) l.length with ⟨h1, h2⟩ | ⟨k, a, h1, h2, h3, h4⟩
      · rw [h1, Option.getD_none]
        have hL : ¬ 500000 < (textF l).length := fun hL => by
          cases hn : l.length with
          | zero =>
            have : l = [] := List.length_eq_zero_iff.1 hn
            subst this
            simp [textF] at hL
          | succ n =>
            have := h2 n (by omega)
            rw [show l.take (n + 1) = l by rw [← hn]; exact List.take_length] at this
            rw [if_pos hL] at this; cases this
        rw [if_neg hL]; rfl
      · rw [h4, Option.getD_some]
        split at h3
        · rename_i hL
          cases h3
          have := textF_pre l (k + 1)
          rw [if_pos (by omega)]; rfl
        · cases h3
  · rw [if_neg hc, decide_eq_false hc]; rfl
theorem law_back (l : List Rc) (s : List UInt8) (h : ∀ r ∈ l, RecOk r) (hs : s.length ≤ 9223372036854775807) : m_interchangelaw12_DeskArchivesComeBack l s = some true := by
  obtain ⟨⟨x, n, f⟩, hx⟩ : ∃ v, m_desk_Read s = some v := by
    by_cases hb : s.length ≤ 500000
    · obtain ⟨L, t, hL⟩ := lns_ex s.length s (Nat.le_refl _)
      exact ⟨_, p_read hL hb⟩
    · refine ⟨([], 0, 2), ?_⟩
      unfold m_desk_Read sims_G1_5_0; dsimp only
      rw [big_eq, decide_eq_true (by omega)]; rfl
  have second : ((m_desk_Read s).bind fun x =>
                    bif !decide (x.snd.snd = 0) then
                      (andO (decide ((x.fst.length : Int) = 0)) (m_interchangelaw12_awake.bind fun x => some x)).bind fun v =>
                        some v
                    else
                      (m_desk_Text x.fst).bind fun x =>
                        (andO (decide (x.snd = 0)) (some (decide (x.fst = s)))).bind fun v =>
                          (andO v (m_interchangelaw12_awake.bind fun x => some x)).bind fun v => some v) = some true := by
    rw [hx]
    simp only [Option.bind_some, awake_eq, andO_some]
    rcases read_back hx with ⟨h1, h2⟩ | ⟨h1, h2, h3, h4, h5⟩
    · rw [decide_eq_false h1, h2]; rfl
    · rw [decide_eq_true h1, text_eq fun r hr => (h5 r hr).ok, if_pos h2, h3, if_neg (by omega)]
      simp
  unfold m_interchangelaw12_DeskArchivesComeBack sims_G1_7_0; dsimp only
  rw [text_eq h]
  simp only [Option.bind_some]
  by_cases hc : caF l = 0
  · rw [if_pos hc]
    by_cases hL : 500000 < (textF l).length
    · rw [if_pos hL]
      exact second
    · rw [if_neg hL]
      simp only [decide_true, cond_true]
      rw [read_text h hc (by omega)]
      simp only [Option.bind_some, decide_true, Bool.not_true]
      rw [eq_self l (by have := (ca_zero.1 hc).len; omega)]
      exact second
  · rw [if_neg hc]
    simp only [decide_eq_false hc, cond_false]
    exact second
end Go.Proofs.YtdkncdkdbddgoaaGreatDoor

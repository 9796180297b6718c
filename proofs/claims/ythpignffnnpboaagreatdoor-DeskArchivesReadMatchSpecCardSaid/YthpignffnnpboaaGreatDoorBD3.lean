/-
  Texts of mine, one behind the other (SDD2, SDD3, SDD1, SDD4, SDH3, SDD5).
-/
import Derived.Test.YthpignffnnpboaaGreatDoorBD2
import Derived.Lib.Split
import Derived.Lib.SplitLaws
/-
  Plain laws of the archive: the digits of a digest, of both.
-/
namespace Go.Proofs.YthpignffnnpboaaGreatDoor
set_option linter.unusedSimpArgs false
set_option linter.unusedVariables false
open Go.RowKit

def hexc (n : Nat) : UInt8 := hexSet.getD n 0
def hexL : Nat → Nat → List UInt8
  | 0, _ => []
  | k + 1, u => hexL k (u / 16) ++ [hexc (u % 16)]
theorem hexL_len : ∀ (k u : Nat), (hexL k u).length = k
  | 0, _ => rfl
  | k + 1, u => by rw [hexL, List.length_append, hexL_len k]; rfl
theorem hexL_front : ∀ (k u : Nat), hexL (k + 1) u = hexc (u / 16 ^ k % 16) :: hexL k u
  | 0, u => by simp [hexL]
  | k + 1, u => by
    rw [hexL, hexL_front k (u / 16), Nat.div_div_eq_div_mul, show 16 * 16 ^ k = 16 ^ (k + 1) by rw [Nat.pow_succ, Nat.mul_comm]]
    rfl
theorem hexL_pad : ∀ (m k u : Nat), u < 16 ^ k → hexL (m + k) u = List.replicate m 48 ++ hexL k u
  | 0, k, u, _ => by simp
  | m + 1, k, u, h => by
    have h2 : u < 16 ^ (m + k) := Nat.lt_of_lt_of_le h (Nat.pow_le_pow_right (by decide) (by omega))
    rw [show m + 1 + k = (m + k) + 1 by omega, hexL_front, hexL_pad m k u h, Nat.div_eq_of_lt h2]
    rfl
theorem and15 (m : Nat) (h : m < 18446744073709551616) : bitI .and .u64 (m : Int) 15 = ((m % 16 : Nat) : Int) := by
  unfold bitI
  simp only
  rw [IntKind.wrap_u64]
  have hb : (BitVec.ofInt IntKind.u64.bits (m : Int)).toNat = m := by
    rw [BitVec.ofInt_natCast, BitVec.toNat_ofNat]
    exact Nat.mod_eq_of_lt h
  have h15 : (BitVec.ofInt IntKind.u64.bits 15).toNat = 15 := by decide
  have e : (BitVec.ofInt IntKind.u64.bits (m : Int) &&& BitVec.ofInt IntKind.u64.bits 15).toNat = m % 16 := by
    rw [BitVec.toNat_and, hb, h15]
    exact Nat.and_two_pow_sub_one_eq_mod m 4
  rw [e]
  omega
theorem dig36_at (j : Nat) (h : j < 16) : dig36[j]? = some (hexc j) := by
  have : ∀ j : Fin 16, dig36[j.1]? = some (hexc j.1) := by decide
  exact this ⟨j, h⟩
theorem hexS_at (j : Nat) (h : j < 16) : hexSet[j]? = some (hexc j) := by
  have : ∀ j : Fin 16, hexSet[j.1]? = some (hexc j.1) := by decide
  exact this ⟨j, h⟩
theorem set_drop {α : Type} {l : List α} {i : Nat} (e : α) (h : i < l.length) : (l.set i e).drop i = e :: l.drop (i + 1) := by
  rw [List.drop_eq_getElem_cons (by simpa using h), List.getElem_set_self, List.drop_set_of_lt (Nat.lt_succ_self i)]
theorem int_div16 (u : Nat) : (u : Int) / 2 ^ 4 = ((u / 16 : Nat) : Int) := by
  rw [show (2 : Int) ^ 4 = 16 by decide]; omega
theorem fmt_loop2 {u0 : Nat} (hu : u0 < 18446744073709551616) {f : Int × List UInt8 × Int → Option ((Int × List UInt8 × Int) ⊕ ((Int × List UInt8 × Int) ⊕ (List UInt8 × List UInt8)))}
    (hf : ∀ (u : Int) (arr : List UInt8) (i : Int), f (u, arr, i) = bif decide (16 ≤ u) then (getI dig36 (bitI .and .u64 u 15)).bind fun e => thenO (inO (IntKind.i64.wrap (i - 1)) 65) (arr[(IntKind.i64.wrap (i - 1)).toNat]?.bind fun _ => some (.inl (u / 2 ^ 4, arr.set (IntKind.i64.wrap (i - 1)).toNat e, IntKind.i64.wrap (i - 1)))) else some (.inr (.inl (u, arr, i)))) :
    ∀ (n k : Nat) (arr : List UInt8), k + n = 15 → u0 / 16 ^ k < 16 ^ (n + 1) → arr.length = 65 → arr.drop (65 - k) = hexL k u0 →
      ∃ arr' k', loopC f (((u0 / 16 ^ k : Nat) : Int), arr, ((65 - k : Nat) : Int)) = some (.inl (((u0 / 16 ^ k' : Nat) : Int), arr', ((65 - k' : Nat) : Int))) ∧ k' ≤ 15 ∧ u0 / 16 ^ k' < 16 ∧ arr'.length = 65 ∧ arr'.drop (65 - k') = hexL k' u0 := by
  intro n
  induction n with
  | zero =>
    intro k arr hk h1 hl hd
    refine ⟨arr, k, ?_, by omega, by simpa using h1, hl, hd⟩
    rw [loopC_eq, hf, decide_eq_false (by have : u0 / 16 ^ k < 16 := by simpa using h1
                                          omega)]
    rfl
  | succ n ih =>
    intro k arr hk h1 hl hd
    by_cases hu16 : 16 ≤ u0 / 16 ^ k
    · have hle : u0 / 16 ^ k ≤ u0 := Nat.div_le_self _ _
      obtain ⟨b, hb⟩ := get_lt (show 64 - k < arr.length by omega)
      have hin : inO (((64 - k : Nat) : Int)) 65 = some () := by unfold inO; rw [if_pos (by omega)]
      have hdd : u0 / 16 ^ k / 16 = u0 / 16 ^ (k + 1) := by rw [Nat.div_div_eq_div_mul, Nat.pow_succ]
      have h16 : u0 / 16 ^ (k + 1) < 16 ^ (n + 1) := by
        rw [← hdd]
        refine Nat.div_lt_of_lt_mul ?_
        rw [Nat.mul_comm, ← Nat.pow_succ]; exact h1
      have hg : getI dig36 (bitI .and .u64 ((u0 / 16 ^ k : Nat) : Int) 15) = some (hexc (u0 / 16 ^ k % 16)) := by
        rw [and15 _ (by omega), getI_nat]
        exact dig36_at _ (Nat.mod_lt _ (by decide))
      obtain ⟨arr', k', h2, h3⟩ := ih (k + 1) (arr.set (64 - k) (hexc (u0 / 16 ^ k % 16))) (by omega) h16 (by simpa using hl) (by
        rw [show 65 - (k + 1) = 64 - k by omega, set_drop _ (by omega), show 64 - k + 1 = 65 - k by omega, hd, hexL_front])
      refine ⟨arr', k', ?_, h3⟩
      rw [loopC_eq, hf, decide_eq_true (by omega)]
      simp only [cond_true, hg, Option.bind_some, i_dec k (by omega), hin, thenO_some, Int.toNat_natCast, hb, int_div16, hdd]
      rw [show (65 - (k + 1)) = 64 - k by omega] at h2
      exact h2
    · refine ⟨arr, k, ?_, by omega, by omega, hl, hd⟩
      rw [loopC_eq, hf, decide_eq_false (by omega)]
      rfl
theorem fmt_loop20 {u0 : Nat} (hu : u0 < 18446744073709551616) {f : Int × List UInt8 × Int → Option ((Int × List UInt8 × Int) ⊕ ((Int × List UInt8 × Int) ⊕ (List UInt8 × List UInt8)))}
    (hf : ∀ (u : Int) (arr : List UInt8) (i : Int), f (u, arr, i) = bif decide (16 ≤ u) then (getI dig36 (bitI .and .u64 u 15)).bind fun e => thenO (inO (IntKind.i64.wrap (i - 1)) 65) (arr[(IntKind.i64.wrap (i - 1)).toNat]?.bind fun _ => some (.inl (u / 2 ^ 4, arr.set (IntKind.i64.wrap (i - 1)).toNat e, IntKind.i64.wrap (i - 1)))) else some (.inr (.inl (u, arr, i)))) :
      ∃ arr' k', loopC f ((u0 : Int), List.replicate 65 0, 65) = some (.inl (((u0 / 16 ^ k' : Nat) : Int), arr', ((65 - k' : Nat) : Int))) ∧ k' ≤ 15 ∧ u0 / 16 ^ k' < 16 ∧ arr'.length = 65 ∧ arr'.drop (65 - k') = hexL k' u0 := by
  have hL := fmt_loop2 hu hf 15 0 (List.replicate 65 0) rfl (by simpa using hu) (by simp) (by simp [hexL])
  rw [Nat.pow_zero, Nat.div_one] at hL
  exact hL
theorem fmt_use2 {u0 : Nat} {F : Int × List UInt8 × Int → Option ((Int × List UInt8 × Int) ⊕ ((Int × List UInt8 × Int) ⊕ (List UInt8 × List UInt8)))} {s0 : Int × List UInt8 × Int} {K : Int × List UInt8 × Int → Option (List UInt8 × List UInt8)} {Q : List UInt8 → Prop}
    (hl : ∃ arr' k', loopC F s0 = some (.inl (((u0 / 16 ^ k' : Nat) : Int), arr', ((65 - k' : Nat) : Int))) ∧ k' ≤ 15 ∧ u0 / 16 ^ k' < 16 ∧ arr'.length = 65 ∧ arr'.drop (65 - k') = hexL k' u0)
    (hK : ∀ (arr' : List UInt8) (k' : Nat), k' ≤ 15 → u0 / 16 ^ k' < 16 → arr'.length = 65 → arr'.drop (65 - k') = hexL k' u0 → ∃ x, K (((u0 / 16 ^ k' : Nat) : Int), arr', ((65 - k' : Nat) : Int)) = some x ∧ Q x.2) :
    ∃ s, ((((loopC F s0).bind (outK K)).bind fun x => some x.snd).bind fun x => some x) = some s ∧ Q s := by
  obtain ⟨arr', k', h1, h2, h3, h4, h5⟩ := hl
  obtain ⟨x, h6, h7⟩ := hK arr' k' h2 h3 h4 h5
  refine ⟨x.2, ?_, h7⟩
  rw [h1]
  simp only [Option.bind_some, outK, h6]
theorem fmt2 (u : Nat) (h1 : u < 18446744073709551616) : ∃ s, m_strconv_FormatUint (u : Int) 16 = some s ∧ ∃ k, k ≤ 16 ∧ u < 16 ^ k ∧ s = hexL k u := by
  have hp : m_internal_strconv_isPowerOfTwo 16 = some true := by
    unfold m_internal_strconv_isPowerOfTwo sims_F1_0_0; dsimp only
    decide
  have ht : m_math_bits_TrailingZeros 16 = some 4 := by
    unfold m_math_bits_TrailingZeros sims_F1_0_0; dsimp only
    rfl
  have w16 : IntKind.u64.wrap 16 = 16 := by decide
  have w15 : IntKind.u64.wrap (16 - 1) = 15 := by decide
  have w4 : IntKind.u64.wrap 4 = 4 := by decide
  have hs : shO IntKind.u64 4 = some () := by decide
  unfold m_strconv_FormatUint sims_F1_3_0; dsimp only
  unfold m_internal_strconv_FormatUint sims_F1_2_0; dsimp only
  unfold m_internal_strconv_formatBits sims_F1_1_0; dsimp only
  simp only [w16, w15, hp, ht, Option.bind_some, orO_some, w4, hs, thenO_some]
  rw [show decide ((16 : Int) = 10) = false from rfl, show (decide ((16 : Int) < 2) || false || decide ((36 : Int) < 16)) = false from rfl]
  simp only [cond_false, cond_true]
  refine fmt_use2 (u0 := u) (Q := fun s => ∃ k, k ≤ 16 ∧ u < 16 ^ k ∧ s = hexL k u) (fmt_loop20 h1 (fun u arr i => rfl)) ?_
  intro arr' k' h2 h4 hl h5
  have he : getI dig36 ((u / 16 ^ k' : Nat) : Int) = some (hexc (u / 16 ^ k')) := by rw [getI_nat]; exact dig36_at _ h4
  obtain ⟨b, hb⟩ := get_lt (show 64 - k' < arr'.length by omega)
  have hin : inO (((64 - k' : Nat) : Int)) 65 = some () := by unfold inO; rw [if_pos (by omega)]
  have hin2 : inO (((64 - k' : Nat) : Int)) (65 + 1) = some () := by unfold inO; rw [if_pos (by omega)]
  have hln : lnO (arr'.set (64 - k') (hexc (u / 16 ^ k'))).length 65 = some () := by unfold lnO; rw [if_pos (by simp [hl])]
  have he' : getI [48, 49, 50, 51, 52, 53, 54, 55, 56, 57, 97, 98, 99, 100, 101, 102, 103, 104, 105, 106, 107, 108, 109, 110, 111, 112, 113, 114, 115, 116, 117, 118, 119, 120, 121, 122] ((u / 16 ^ k' : Nat) : Int) = some (hexc (u / 16 ^ k')) := he
  refine ⟨([], (arr'.set (64 - k') (hexc (u / 16 ^ k'))).drop (64 - k')), ?_, k' + 1, by omega, ?_, ?_⟩
  · simp only [he', Option.bind_some, i_dec k' (by omega), hin, hin2, thenO_some, Int.toNat_natCast, hb, hln]
  · have : u < 16 * 16 ^ k' := (Nat.div_lt_iff_lt_mul (Nat.pow_pos (by decide))).1 h4
    rw [Nat.pow_succ, Nat.mul_comm]; exact this
  · show (arr'.set (64 - k') (hexc (u / 16 ^ k'))).drop (64 - k') = _
    rw [set_drop _ (by omega), show 64 - k' + 1 = 65 - k' by omega, h5, hexL_front, Nat.mod_eq_of_lt h4]
theorem dg_hex (b : List UInt8) (hb : b.length ≤ 9223372036854775807) : dg b = hexL 16 (hashF b).toNat := by
  have hr := hash_rng b
  obtain ⟨s, h1, k, hk, hu, rfl⟩ := fmt2 (hashF b).toNat (by omega)
  rw [show (((hashF b).toNat : Nat) : Int) = hashF b by omega] at h1
  have hl := hexL_len k (hashF b).toNat
  have : m_partner_Digest b = some (Lib.repeatL [48] (16 - (hexL k (hashF b).toNat).length) ++ hexL k (hashF b).toNat) := by
    unfold m_partner_Digest sims_G1_0_7; dsimp only
    refine bind_loop (a := .inl (hashF b, (b.length : Int))) (loop_pre b (fun i q => (hashF q, (i : Int))) (fun i e he => ?_) (by simp only [lt_dec_self, cond_false]; rfl)) ?_
    · have hi := get_le he
      simp only [lt_dec hi, cond_true, getI_nat, he, Option.bind_some, wrapN i (by omega)]
      simp only [hashF, List.foldl_append, List.foldl_cons, List.foldl_nil]
      rfl
    · have hr : m_strings_Repeat [48] (((16 - (hexL k (hashF b).toNat).length : Nat)) : Int) = some (Lib.repeatL [48] (16 - (hexL k (hashF b).toNat).length)) := by
        unfold m_strings_Repeat
        rw [if_pos ⟨by omega, by omega, by decide⟩, Int.toNat_natCast]
      simp only [outK, h1, Option.bind_some]
      rw [wrap64 _ (by omega) (by omega), show (16 : Int) - ((hexL k (hashF b).toNat).length : Int) = ((16 - (hexL k (hashF b).toNat).length : Nat) : Int) by omega, hr]
      simp only [Option.bind_some]
      rw [thenO_some (strO_some.2 (by rw [Lib.repeatL_length]; simp; omega))]
  unfold dg
  rw [this, Option.getD_some, hl]
  have hp := Lib.repeatL_replicate 48 1 (16 - k)
  simp only [List.replicate_succ, List.replicate_zero] at hp
  rw [hp, ← hexL_pad _ _ _ (by simpa using hu)]
  simp
  congr 1; omega
end Go.Proofs.YthpignffnnpboaaGreatDoor

/-
  Plain laws of the archive: the fields of a record, of both.
-/
namespace Go.Proofs.YthpignffnnpboaaGreatDoor
set_option linter.unusedSimpArgs false
set_option linter.unusedVariables false
open Go.RowKit

abbrev MX : Nat := 9223372036854775807
theorem dropWhile_nil {p : UInt8 → Bool} : ∀ {l : List UInt8}, l.dropWhile p = [] ↔ ∀ x ∈ l, p x = true
  | [] => by simp
  | a :: l => by
    rw [List.dropWhile_cons]
    by_cases h : p a = true
    · simp [h, dropWhile_nil (l := l)]
    · simp [h]
theorem dropWhile_head {p : UInt8 → Bool} {a : UInt8} {r : List UInt8} : ∀ {l : List UInt8}, l.dropWhile p = a :: r → p a = false
  | [], h => by simp at h
  | b :: l, h => by
    rw [List.dropWhile_cons] at h
    by_cases hp : p b = true
    · simp only [hp, if_true] at h; exact dropWhile_head h
    · simp only [hp] at h
      simp at h; rw [← h.1]; simpa using hp
theorem trim_nil (l cs : List UInt8) : Lib.trimS l cs = [] ↔ ∀ x ∈ l, cs.contains x = true := by
  unfold Lib.trimS Lib.trimLeftS Lib.trimRightS
  constructor
  · intro h
    have h1 : List.dropWhile (fun x => cs.contains x) l.reverse = [] := by
      cases hr : List.dropWhile (fun x => cs.contains x) l.reverse with
      | nil => rfl
      | cons a r =>
        exfalso
        have h2 := dropWhile_head hr
        rw [hr, dropWhile_nil] at h
        have h3 := h a (by simp)
        rw [h2] at h3; cases h3
    rw [dropWhile_nil] at h1
    intro x hx
    exact h1 x (by simpa using hx)
  · intro h
    have h1 : List.dropWhile (fun x => cs.contains x) l.reverse = [] := dropWhile_nil.2 fun x hx => h x (by simpa using hx)
    rw [h1]; rfl
/-! ### Names -/
def lowB (b : UInt8) : Bool := decide (97 ≤ (b.toNat : Int)) && decide ((b.toNat : Int) ≤ 122)
def nameB (b : UInt8) : Bool := lowB b || (decide ((b.toNat : Int) = 45) || (decide (48 ≤ (b.toNat : Int)) && decide ((b.toNat : Int) ≤ 57)))
def nameSet : List UInt8 := [97, 98, 99, 100, 101, 102, 103, 104, 105, 106, 107, 108, 109, 110, 111, 112, 113, 114, 115, 116, 117, 118, 119, 120, 121, 122, 48, 49, 50, 51, 52, 53, 54, 55, 56, 57, 45]
theorem nameB_all : (List.range 256).all (fun n => nameSet.contains (UInt8.ofNat n) == nameB (UInt8.ofNat n)) = true := by decide +kernel
theorem nameB_eq (b : UInt8) : nameSet.contains b = nameB b := by
  have := List.all_eq_true.1 nameB_all b.toNat (List.mem_range.2 b.toNat_lt)
  have hb : UInt8.ofNat b.toNat = b := by simp
  rw [hb] at this
  simpa using this
theorem trim_name (l : List UInt8) : decide (Lib.trimS l nameSet = []) = l.all nameB := by
  rw [Bool.eq_iff_iff, decide_eq_true_eq, trim_nil, List.all_eq_true]
  simp only [nameB_eq]
/-- A name. -/
def nameF : List UInt8 → Bool
  | [] => false
  | b :: l => decide (l.length ≤ 39) && lowB b && l.all nameB
theorem w_name (l : List UInt8) (hl : l.length ≤ MX) : m_kit_IsName l = some (nameF l) := by
  have ht : m_strings_Trim l nameSet = some (Lib.trimS l nameSet) := by
    unfold m_strings_Trim
    rw [if_pos ⟨hl, by decide, by decide⟩]
  have hu : ([97, 98, 99, 100, 101, 102, 103, 104, 105, 106, 107, 108, 109, 110, 111, 112, 113, 114, 115, 116, 117, 118, 119, 120, 121, 122, 48, 49, 50, 51, 52, 53, 54, 55, 56, 57, 45] : List UInt8) = nameSet := rfl
  unfold m_kit_IsName sims_G1_0_5; dsimp only
  rw [hu]
  cases l with
  | nil => rfl
  | cons b l =>
    have hg : getI (b :: l) 0 = some b := rfl
    simp only [hg, Option.bind_some, orO_some, ht, trim_name, nameF]
    have h1 : decide (((b :: l).length : Int) < 1) = false := by simp only [List.length_cons]; apply decide_eq_false; omega
    have h2 : decide (40 < ((b :: l).length : Int)) = !decide (l.length ≤ 39) := by simp only [List.length_cons]; rw [Bool.eq_iff_iff]; simp <;> omega
    have h3 : (decide ((b.toNat : Int) < 97) || decide (122 < (b.toNat : Int))) = !lowB b := by unfold lowB; rw [Bool.eq_iff_iff]; simp
    rw [h1, h2, Bool.false_or, Bool.or_assoc, h3]
    cases hb : lowB b with
    | false => simp
    | true => cases decide (l.length ≤ 39) <;> simp [nameB, hb]
def nameI (i : Nat) (b : UInt8) : Bool := lowB b || (decide (i ≠ 0) && nameB b)
theorem r_name (l : List UInt8) (hl : l.length ≤ MX) : m_interchangeref2_IsName l = some (nameF l) := by
  unfold MX at hl
  unfold m_interchangeref2_IsName sims_G1_0_12; dsimp only
  generalize hf : (fun s : Int => _) = f
  have key := loop_runI (f := f) l (fun i (_ : Unit) => (i : Int)) (fun i _ e => if nameI i e = true then some (.inl ()) else some (.inr (.inr false))) (fun _ => some (Sum.inl (l.length : Int))) (fun i e s he => by
    subst hf
    have hi := get_le he
    simp only [lt_dec hi, cond_true, getI_nat, he, Option.bind_some, andO_some, orO_some, wrapN i (by omega)]
    have h0 : decide ((i : Int) = 0) = decide (i = 0) := by congr 1; apply propext; omega
    have h1 : (!(decide (97 ≤ (e.toNat : Int)) && decide ((e.toNat : Int) ≤ 122)) && (decide ((i : Int) = 0) || (!decide ((e.toNat : Int) = 45) && !(decide (48 ≤ (e.toNat : Int)) && decide ((e.toNat : Int) ≤ 57))))) = !nameI i e := by
      rw [h0]
      unfold nameI nameB lowB
      cases decide (97 ≤ (e.toNat : Int)) <;> cases decide ((e.toNat : Int) ≤ 122) <;> by_cases hi0 : i = 0 <;> simp [hi0]
    rw [h1]
    cases nameI i e <;> rfl) (fun s => by
    subst hf
    simp only [lt_dec_self, cond_false]; rfl) ()
  rw [show ((0 : Nat) : Int) = 0 from rfl] at key
  rw [key]
  have h2 : ∀ (t : List UInt8) (i : Nat), 0 < i → runI (fun i (_ : Unit) e => if nameI i e = true then some (.inl ()) else some (.inr (.inr false))) (fun _ => some (Sum.inl (l.length : Int))) t i () = if t.all nameB = true then some (.inl (l.length : Int)) else some (.inr false) := by
    intro t
    induction t with
    | nil => intro i _; rfl
    | cons b t ih =>
      intro i hi
      simp only [runI]
      have : nameI i b = nameB b := by
        unfold nameI
        rw [decide_eq_true (show i ≠ 0 by omega), Bool.true_and]
        unfold nameB
        cases lowB b <;> simp
      rw [this]
      cases hb : nameB b with
      | true => simp only [if_true, ih (i + 1) (by omega), List.all_cons, hb, Bool.true_and]
      | false => simp [hb]
  cases l with
  | nil => rfl
  | cons b l =>
    simp only [runI]
    have h3 : nameI 0 b = lowB b := by unfold nameI; cases lowB b <;> simp
    have h4 : decide (((b :: l).length : Int) ≤ 40) = decide (l.length ≤ 39) := by simp only [List.length_cons]; rw [Bool.eq_iff_iff]; simp; omega
    rw [h3]
    cases hb : lowB b with
    | false => simp [outK, hb, nameF]
    | true =>
      simp only [if_true]
      rw [h2 l 1 (by omega)]
      cases hl : l.all nameB with
      | true => simp [outK, hb, hl, nameF, andO_some]; try omega
      | false => simp [outK, hb, hl, nameF]

/-! ### Loops that end at the first element that is wrong -/
theorem runI_all {α R : Type} (q : α → Bool) (a : R) (n : Int) : ∀ (t : List α) (i : Nat),
    runI (fun _ (_ : Unit) e => if q e = true then some (.inl ()) else some (.inr (.inr a))) (fun _ => some (Sum.inl n)) t i () = some (if t.all q = true then (.inl n : Int ⊕ R) else .inr a)
  | [], _ => rfl
  | b :: t, i => by
    simp only [runI]
    cases hb : q b with
    | true => simp only [if_true, List.all_cons, hb, Bool.true_and]; exact runI_all q a n t (i + 1)
    | false => simp [hb]
theorem loop_all {α R : Type} (l : List α) (q : α → Bool) (a : R) {f : Int → Option (Int ⊕ (Int ⊕ R))} {K : Int → Option R}
    (hb : ∀ (i : Nat) (e : α), l[i]? = some e → f (i : Int) = if q e = true then some (.inl ((i + 1 : Nat) : Int)) else some (.inr (.inr a)))
    (he : f (l.length : Int) = some (.inr (.inl (l.length : Int)))) : (loopC f 0).bind (outK K) = if l.all q = true then K (l.length : Int) else some a := by
  have h := loop_runI (f := f) l (fun i (_ : Unit) => (i : Int)) (fun _ _ e => if q e = true then some (.inl ()) else some (.inr (.inr a))) (fun _ => some (Sum.inl (l.length : Int))) (fun i e s h1 => by
    rw [hb i e h1]
    cases q e <;> rfl) (fun s => by rw [he]; rfl) ()
  rw [show ((0 : Nat) : Int) = 0 from rfl, runI_all] at h
  rw [h]
  cases l.all q <;> rfl
theorem runI_any {α : Type} (q : α → Bool) (n : Int) : ∀ (t : List α) (i : Nat),
    ∃ r : Int ⊕ Int, runI (fun i (_ : Unit) e => if q e = true then some (.inr (.inr (i : Int))) else some (.inl ())) (fun _ => some (Sum.inl n)) t i () = some r ∧ (match r with | .inl _ => t.any q = false | .inr m => 0 ≤ m ∧ t.any q = true)
  | [], _ => ⟨.inl n, rfl, rfl⟩
  | b :: t, i => by
    simp only [runI]
    cases hb : q b with
    | true => exact ⟨.inr (i : Int), rfl, by omega, by simp [hb]⟩
    | false =>
      obtain ⟨r, h1, h2⟩ := runI_any q n t (i + 1)
      refine ⟨r, h1, ?_⟩
      simp only [List.any_cons, hb, Bool.false_or]
      exact h2
theorem loop_any {α : Type} (l : List α) (q : α → Bool) {f : Int → Option (Int ⊕ (Int ⊕ Int))}
    (hb : ∀ (i : Nat) (e : α), l[i]? = some e → f (i : Int) = if q e = true then some (.inr (.inr (i : Int))) else some (.inl ((i + 1 : Nat) : Int)))
    (he : f (l.length : Int) = some (.inr (.inl (l.length : Int)))) : ∃ n, (loopC f 0).bind (outK fun _ => some (-1)) = some n ∧ decide (0 ≤ n) = l.any q := by
  have h := loop_runI (f := f) l (fun i (_ : Unit) => (i : Int)) (fun i _ e => if q e = true then some (.inr (.inr (i : Int))) else some (.inl ())) (fun _ => some (Sum.inl (l.length : Int))) (fun i e s h1 => by
    rw [hb i e h1]
    cases q e <;> rfl) (fun s => by rw [he]; rfl) ()
  obtain ⟨r, h1, h2⟩ := runI_any q (l.length : Int) l 0
  rw [show ((0 : Nat) : Int) = 0 from rfl, h1] at h
  rw [h]
  cases r with
  | inl x => exact ⟨-1, rfl, by rw [h2]; rfl⟩
  | inr m => exact ⟨m, rfl, by rw [h2.2, decide_eq_true h2.1]⟩
/-! ### Bytes -/
def rng (lo hi : UInt8) (e : UInt8) : Bool := !(decide ((e.toNat : Int) < (lo.toNat : Int)) || decide ((hi.toNat : Int) < (e.toNat : Int)))
theorem inb_all (l : List UInt8) (lo hi : UInt8) (hl : l.length ≤ 1000000) : m_kit_InBytes l lo hi = some (l.all (rng lo hi)) := by
  unfold m_kit_InBytes sims_G1_0_3; dsimp only
  refine (loop_all l (rng lo hi) false (fun i e he => ?_) (by simp only [lt_dec_self, cond_false]; rfl)).trans ?_
  · have hi2 := get_le he
    simp only [lt_dec hi2, cond_true, getI_nat, he, Option.bind_some, orO_some, wrapN i (by omega)]
    cases hc : (decide ((e.toNat : Int) < (lo.toNat : Int)) || decide ((hi.toNat : Int) < (e.toNat : Int))) with
    | true =>
      have : rng lo hi e = false := by unfold rng; rw [hc]; rfl
      rw [this]; rfl
    | false =>
      have : rng lo hi e = true := by unfold rng; rw [hc]; rfl
      rw [this]; rfl
  · cases l.all (rng lo hi) <;> rfl
abbrev b126 : UInt8 := UInt8.ofNat (Int.toNat 126)
abbrev b33 : UInt8 := UInt8.ofNat (Int.toNat 33)
theorem n126 : ((b126.toNat : Nat) : Int) = 126 := by decide
theorem rb_all (l : List UInt8) (lo : UInt8) (hl : l.length ≤ 1000000) : m_interchangeref12_bytesWithin l lo = some (l.all (rng lo b126)) := by
  unfold m_interchangeref12_bytesWithin sims_G1_0_8; dsimp only
  refine (loop_all l (rng lo b126) false (fun i e he => ?_) (by simp only [lt_dec_self, cond_false]; rfl)).trans ?_
  · have hi2 := get_le he
    simp only [lt_dec hi2, cond_true, getI_nat, he, Option.bind_some, orO_some, wrapN i (by omega), rng, n126]
    cases (decide ((e.toNat : Int) < (lo.toNat : Int)) || decide ((126 : Int) < (e.toNat : Int))) <;> rfl
  · cases l.all (rng lo b126) <;> rfl
theorem inB_eq (l : List UInt8) (lo : UInt8) (hl : l.length ≤ 1000000) : inB l lo = l.all (rng lo b126) := by
  unfold inB
  rw [inb_all l lo _ hl]; rfl
theorem rb_inB (l : List UInt8) (lo : UInt8) (hl : l.length ≤ 1000000) : m_interchangeref12_bytesWithin l lo = some (inB l lo) := by rw [rb_all l lo hl, inB_eq l lo hl]
theorem nm_name (l : List UInt8) (hl : l.length ≤ MX) : m_interchangeref2_IsName l = some (nmB l) := by
  rw [r_name l hl]
  have := nm_eq l hl
  rw [w_name l hl] at this
  exact this
theorem within_eq (n lo hi : Int) : m_interchangeref12_within n lo hi = some (!(decide (n < lo) || decide (hi < n))) := by
  unfold m_interchangeref12_within sims_G1_0_11; dsimp only
  simp only [andO_some, Option.bind_some]
  congr 1
  rw [Bool.eq_iff_iff]
  simp
theorem cf_eq (t : Int) (k key text : List UInt8) (hk : k.length ≤ MX) : m_interchangeref12_checkFields t k key text = some (ffF t k key text) := by
  unfold m_interchangeref12_checkFields sims_G1_1_8; dsimp only
  simp only [within_eq, nm_name k hk, Option.bind_some, orO_some]
  unfold ffF keyBad
  rw [show (!(decide (t < 0) || decide (1000000000000000 < t))) = momB t from rfl]
  cases momB t with
  | false => rfl
  | true =>
  cases nmB k with
  | false => rfl
  | true =>
  simp only [Bool.not_true, cond_false, Bool.not_not]
  cases hv : (decide ((key.length : Int) < 1) || decide (40 < (key.length : Int))) with
  | true => rfl
  | false =>
  have hkl : key.length ≤ 1000000 := by simp only [Bool.or_eq_false_iff, decide_eq_false_iff_not] at hv; omega
  rw [rb_inB key _ hkl]
  simp only [Option.bind_some, orO_some, Bool.false_or]
  cases !inB key (UInt8.ofNat (Int.toNat 33)) with
  | true => rfl
  | false =>
  simp only [cond_false]
  cases ht : decide (2000 < (text.length : Int)) with
  | true => rfl
  | false =>
  have htl : text.length ≤ 1000000 := by have := of_decide_eq_false ht; omega
  rw [rb_inB text _ htl]
  simp only [Option.bind_some, cond_false]
  cases inB text (UInt8.ofNat (Int.toNat 32)) <;> rfl
theorem hexIn_all : (List.range 256).all (fun n => hexSet.contains (UInt8.ofNat n) == ((decide (48 ≤ ((UInt8.ofNat n).toNat : Int)) && decide (((UInt8.ofNat n).toNat : Int) ≤ 57)) || (decide (97 ≤ ((UInt8.ofNat n).toNat : Int)) && decide (((UInt8.ofNat n).toNat : Int) ≤ 102)))) = true := by decide +kernel
theorem hexIn_eq (b : UInt8) : hexSet.contains b = ((decide (48 ≤ (b.toNat : Int)) && decide ((b.toNat : Int) ≤ 57)) || (decide (97 ≤ (b.toNat : Int)) && decide ((b.toNat : Int) ≤ 102))) := by
  have := List.all_eq_true.1 hexIn_all b.toNat (List.mem_range.2 b.toNat_lt)
  have hb : UInt8.ofNat b.toNat = b := by simp
  rw [hb] at this
  simpa using this
theorem rdig_eq (s : List UInt8) (hs : s.length ≤ 1000000) : m_interchangeref12_isDigest s = some (digB s) := by
  unfold m_interchangeref12_isDigest sims_G1_0_13; dsimp only
  refine (loop_all s (fun e => hexSet.contains e) false (fun i e he => ?_) (by simp only [lt_dec_self, cond_false]; rfl)).trans ?_
  · have hi2 := get_le he
    simp only [lt_dec hi2, cond_true, getI_nat, he, Option.bind_some, andO_some, orO_some, wrapN i (by omega), ← hexIn_eq]
    cases hexSet.contains e <;> rfl
  · unfold digB
    have : decide (Lib.trimS s hexSet = []) = s.all fun e => hexSet.contains e := by
      rw [Bool.eq_iff_iff, decide_eq_true_eq, trim_nil, List.all_eq_true]
    rw [this]
    cases s.all fun e => hexSet.contains e with
    | true => simp
    | false => simp
/-! ### Digests -/
theorem pow16 (u j : Nat) : (u : Int) / 2 ^ (4 * j) = ((u / 16 ^ j : Nat) : Int) := by
  have h2 : (2 : Int) ^ (4 * j) = ((16 ^ j : Nat) : Int) := by
    rw [Int.pow_mul, show (2 : Int) ^ 4 = ((16 : Nat) : Int) from rfl, ← Int.natCast_pow]
  rw [h2, ← Int.natCast_ediv]
theorem rdg_eq (b : List UInt8) (hb : b.length ≤ 1000000) : m_interchangeref8_Digest b = some (dg b) := by
  have hr := hash_rng b
  have hh : (((hashF b).toNat : Nat) : Int) = hashF b := by omega
  rw [dg_hex b (by omega)]
  unfold m_interchangeref8_Digest sims_G1_0_14; dsimp only
  refine bind_loop (a := .inl (hashF b, (b.length : Int))) (loop_pre b (fun i q => (hashF q, (i : Int))) (fun i e he => ?_) (by simp only [lt_dec_self, cond_false]; rfl)) ?_
  · have hi := get_le he
    simp only [lt_dec hi, cond_true, getI_nat, he, Option.bind_some, wrapN i (by omega)]
    simp only [hashF, List.foldl_append, List.foldl_cons, List.foldl_nil]
    rfl
  · simp only [outK]
    rw [← hh]
    generalize (hashF b).toNat = u at hh ⊢
    have hu : u < 18446744073709551616 := by omega
    refine bind_loop (a := .inl (hexL 16 u, -1)) (loop_trace (fun i => (hexL i (u / 16 ^ (16 - i)), 15 - (i : Int))) 16 (fun i hi => ?_) ?_) rfl
    · have w4 : IntKind.i64.wrap (4 * (15 - (i : Int))) = ((4 * (15 - i) : Nat) : Int) := by rw [wrap64 _ (by omega) (by omega)]; omega
      have w1 : IntKind.i64.wrap (15 - (i : Int) - 1) = 15 - ((i + 1 : Nat) : Int) := by rw [wrap64 _ (by omega) (by omega)]; omega
      have hs : shO IntKind.u64 ((4 * (15 - i) : Nat) : Int) = some () := by
        rw [shO_some]
        show 0 ≤ _ ∧ _ ≤ ((64 : Nat) : Int)
        omega
      have hle : u / 16 ^ (15 - i) ≤ u := Nat.div_le_self _ _
      have hg : getI [48, 49, 50, 51, 52, 53, 54, 55, 56, 57, 97, 98, 99, 100, 101, 102] (bitI .and .u64 ((u / 16 ^ (15 - i) : Nat) : Int) 15) = some (hexc (u / 16 ^ (15 - i) % 16)) := by
        rw [and15 _ (by omega), getI_nat]
        exact hexS_at _ (Nat.mod_lt _ (by decide))
      have hx : hexL (i + 1) (u / 16 ^ (16 - (i + 1))) = hexL i (u / 16 ^ (16 - i)) ++ [hexc (u / 16 ^ (15 - i) % 16)] := by
        rw [show 16 - (i + 1) = 15 - i by omega, hexL, Nat.div_div_eq_div_mul, ← Nat.pow_succ, show (15 - i).succ = 16 - i by omega]
      simp only [decide_eq_true (show (0 : Int) ≤ 15 - (i : Int) by omega), cond_true, w4, hs, thenO_some, Int.toNat_natCast, pow16, hg, Option.bind_some, w1, hx]
      rw [thenO_some (lenO_ok (by rw [hexL_len]; simp; omega))]
    · simp only [Nat.sub_self, Nat.pow_zero, Nat.div_one]
      rfl
/-! ### Records that were read -/
structure Nice (r : Rc) : Prop where
  kind : r.fKind.length ≤ 1000000
  key : r.fKey.length ≤ 1000000
  dig : r.fDigest.length ≤ 1000000
  text : r.fText.length ≤ 1000000
  drop : r.fDropped = true → r.fText = []
theorem Nice.ok {r : Rc} (h : Nice r) : RecOk r := ⟨by have := h.kind; omega, by have := h.key; omega, by have := h.dig; omega, by have := h.text; omega⟩
theorem cr_eq (r : Rc) (h : Nice r) : m_interchangeref12_checkRecord r = some (rfF r) := by
  have hk := h.ok.kind
  have key : ∀ t : List UInt8, t = r.fText → ((m_interchangeref12_checkFields r.fTime r.fKind r.fKey t).bind fun x => bif !decide (x = 0) then some x else
      (andO r.fDropped (some !decide (r.fText = []))).bind fun v => (orO v ((m_interchangeref12_isDigest r.fDigest).bind fun x => some !x)).bind fun v =>
        bif v then some 3 else (andO (!r.fDropped) ((m_interchangeref8_Digest r.fText).bind fun x => some !decide (r.fDigest = x))).bind fun v => bif v then some 15 else some 0) = some (rfF r) := by
    rintro t rfl
    rw [cf_eq _ _ _ _ hk, rdig_eq _ h.dig, rdg_eq _ h.text]
    simp only [Option.bind_some, andO_some, orO_some]
    unfold rfF
    rw [show decide (r.fDigest = dg r.fText) = decide (dg r.fText = r.fDigest) by congr 1; exact propext eq_comm]
    by_cases hf : ffF r.fTime r.fKind r.fKey r.fText = 0
    · rw [if_pos hf, decide_eq_true hf]
      simp only [Bool.not_true, cond_false]
      cases r.fDropped && !decide (r.fText = []) with
      | true => rfl
      | false =>
      cases digB r.fDigest with
      | false => rfl
      | true =>
      cases !r.fDropped && !decide (dg r.fText = r.fDigest) <;> rfl
    · rw [if_neg hf, decide_eq_false hf]; rfl
  unfold m_interchangeref12_checkRecord sims_G1_2_4; dsimp only
  cases hd : r.fDropped with
  | true =>
    rw [hd] at key
    exact key [] (h.drop hd).symm
  | false =>
    rw [hd] at key
    exact key _ rfl
theorem rca_eq (l : List Rc) (h : ∀ r ∈ l, Nice r) : m_interchangeref12_CheckArchive l = some (caF l) := by
  unfold m_interchangeref12_CheckArchive sims_G1_3_3; dsimp only
  unfold caF
  cases hl : decide (2000 < (l.length : Int)) with
  | true => rfl
  | false =>
  have hl2 : l.length ≤ 2000 := by have := of_decide_eq_false hl; omega
  simp only [cond_false]
  refine bind_loop (loop_first (z := .inl (l.length : Int)) (fun i => (i : Int)) l.length (fun i => (caAt rfF l i).map .inr) (fun i hi hn => ?_) (fun i a hi ha => ?_) (by simp only [lt_dec_self, cond_false]; rfl)) ?_
  · obtain ⟨r, hr⟩ := get_lt hi
    obtain ⟨q, hq, hp⟩ := prev_eq hr hl2
    simp only [lt_dec hi, cond_true, getI_nat, hr, Option.bind_some, cr_eq r (h r (List.mem_of_getElem? hr))]
    have hn : caAt rfF l i = none := by simpa using hn
    unfold caAt at hn
    rw [hr, hq] at hn
    simp only at hn
    by_cases hf : rfF r = 0
    · rw [if_pos hf] at hn
      rw [decide_eq_true hf]
      simp only [Bool.not_true, cond_false]
      rw [hp]
      cases hc : (decide (0 < i) && decide (r.fTime < q.fTime)) with
      | true => rw [hc] at hn; cases hn
      | false => simp only [Option.bind_some, cond_false, wrapN i (by omega)]
    · rw [if_neg hf] at hn; cases hn
  · obtain ⟨r, hr⟩ := get_lt hi
    obtain ⟨q, hq, hp⟩ := prev_eq hr hl2
    simp only [lt_dec hi, cond_true, getI_nat, hr, Option.bind_some, cr_eq r (h r (List.mem_of_getElem? hr))]
    unfold caAt at ha
    rw [hr, hq] at ha
    simp only at ha
    by_cases hf : rfF r = 0
    · rw [if_pos hf] at ha
      rw [decide_eq_true hf]
      simp only [Bool.not_true, cond_false]
      rw [hp]
      cases hc : (decide (0 < i) && decide (r.fTime < q.fTime)) with
      | true => rw [hc] at ha; cases ha; rfl
      | false => rw [hc] at ha; cases ha
    · rw [if_neg hf] at ha
      rw [decide_eq_false hf]
      cases ha; rfl
  · rw [firstS_map]
    cases firstS (caAt rfF l) 0 l.length <;> rfl
end Go.Proofs.YthpignffnnpboaaGreatDoor

/-
  Plain laws: lines of a text (strings.Cut, Split, CutSuffix at one byte).
-/
namespace Go.Proofs.YthpignffnnpboaaGreatDoor
set_option linter.unusedSimpArgs false
set_option linter.unusedVariables false

theorem ix_eq (c : UInt8) (l : List UInt8) : Lib.index (c :: l) [c] = 0 := by
  unfold Lib.index
  rw [if_pos (by simp)]
theorem ix_ne {c x : UInt8} (l : List UInt8) (h : x ≠ c) : Lib.index (x :: l) [c] = if Lib.index l [c] == -1 then -1 else Lib.index l [c] + 1 := by
  rw [Lib.index, if_neg (by simp; exact fun e => h e.symm)]
theorem ix_none {c : UInt8} : ∀ {l : List UInt8}, (∀ b ∈ l, b ≠ c) → Lib.index l [c] = -1
  | [], _ => rfl
  | x :: l, h => by
    rw [ix_ne l (h x (by simp)), ix_none (l := l) fun b hb => h b (by simp [hb])]; rfl
theorem ix_at {c : UInt8} (b : List UInt8) : ∀ {a : List UInt8}, (∀ x ∈ a, x ≠ c) → Lib.index (a ++ c :: b) [c] = (a.length : Int)
  | [], _ => ix_eq c b
  | x :: a, h => by
    rw [List.cons_append, ix_ne _ (h x (by simp)), ix_at b (a := a) fun y hy => h y (by simp [hy])]
    rw [if_neg (by simp), List.length_cons]; rfl
theorem cut_none {c : UInt8} {l : List UInt8} (h : ∀ b ∈ l, b ≠ c) : Lib.cut l [c] = (l, [], false) := by
  unfold Lib.cut
  rw [ix_none h]; rfl
theorem cut_at {c : UInt8} {a b : List UInt8} (h : ∀ x ∈ a, x ≠ c) : Lib.cut (a ++ c :: b) [c] = (a, b, true) := by
  unfold Lib.cut
  rw [ix_at b h, if_pos (by omega)]
  simp
theorem split_none {c : UInt8} {l : List UInt8} (h : ∀ b ∈ l, b ≠ c) : Lib.split l [c] = [l] := by
  unfold Lib.split
  cases hc : Lib.count l [c] with
  | zero => rfl
  | succ k => unfold Lib.splitK; rw [ix_none h]; rfl
theorem split_at {c : UInt8} {a b : List UInt8} (h : ∀ x ∈ a, x ≠ c) : Lib.split (a ++ c :: b) [c] = a :: Lib.split b [c] := by
  have hc : Lib.count (a ++ c :: b) [c] = Lib.count b [c] + 1 := by
    rw [Lib.count_one, Lib.count_one, List.count_append, List.count_cons_self, List.count_eq_zero.2 fun hm => h c hm rfl]; omega
  unfold Lib.split
  rw [hc]
  show (if Lib.index (a ++ c :: b) [c] == -1 then _ else _) = _
  rw [ix_at b h]
  rw [if_neg (by simp)]
  simp
/-- Lines, each with its end, and what is behind the last end. -/
structure Lns (L : List (List UInt8)) (t s : List UInt8) : Prop where
  eq : s = (L.map (· ++ [10])).flatten ++ t
  no : ∀ l ∈ L, ∀ b ∈ l, b ≠ (10 : UInt8)
  nt : ∀ b ∈ t, b ≠ (10 : UInt8)
theorem first_nl (s : List UInt8) : (∀ b ∈ s, b ≠ (10 : UInt8)) ∨ ∃ a b, (∀ x ∈ a, x ≠ (10 : UInt8)) ∧ s = a ++ 10 :: b := by
  induction s with
  | nil => exact .inl (by simp)
  | cons x s ih =>
    by_cases hx : x = 10
    · exact .inr ⟨[], s, by simp, by rw [hx]; rfl⟩
    · rcases ih with h | ⟨a, b, h1, h2⟩
      · exact .inl fun b hb => by
          rcases List.mem_cons.1 hb with rfl | hb
          · exact hx
          · exact h b hb
      · refine .inr ⟨x :: a, b, fun y hy => ?_, by rw [h2]; rfl⟩
        rcases List.mem_cons.1 hy with rfl | hy
        · exact hx
        · exact h1 y hy
theorem lns_ex : ∀ (n : Nat) (s : List UInt8), s.length ≤ n → ∃ L t, Lns L t s
  | 0, s, h => ⟨[], s, ⟨rfl, by simp, by have : s = [] := List.length_eq_zero_iff.1 (by omega); subst this; simp⟩⟩
  | n + 1, s, h => by
    rcases first_nl s with h1 | ⟨a, b, h1, rfl⟩
    · exact ⟨[], s, ⟨rfl, by simp, h1⟩⟩
    · obtain ⟨L, t, hL⟩ := lns_ex n b (by simp at h; omega)
      refine ⟨a :: L, t, ⟨?_, fun l hl => ?_, hL.nt⟩⟩
      · rw [hL.eq]; simp
      · rcases List.mem_cons.1 hl with rfl | hl
        · exact h1
        · exact hL.no l hl
theorem Lns.tail {a : List UInt8} {L : List (List UInt8)} {t s : List UInt8} (h : Lns (a :: L) t s) : ∃ b, s = a ++ 10 :: b ∧ Lns L t b :=
  ⟨_, by rw [h.eq]; simp, ⟨rfl, fun l hl => h.no l (by simp [hl]), h.nt⟩⟩
theorem Lns.split : ∀ {L : List (List UInt8)} {t s : List UInt8}, Lns L t s → Lib.split s [10] = L ++ [t]
  | [], t, s, h => by
    have := h.eq
    simp at this
    subst this
    exact split_none h.nt
  | a :: L, t, s, h => by
    obtain ⟨b, rfl, hb⟩ := h.tail
    rw [split_at (h.no a (by simp)), hb.split]; rfl
theorem suf_last (s : List UInt8) (b c : UInt8) : Lib.hasSuffix (s ++ [b]) [c] = (c == b) := by
  unfold Lib.hasSuffix List.isSuffixOf
  rw [List.reverse_append]
  show (c == b && [].isPrefixOf _) = _
  simp
theorem trimSuf_last (s : List UInt8) (c : UInt8) : Lib.trimSuffix (s ++ [c]) [c] = s := by
  unfold Lib.trimSuffix
  rw [suf_last, beq_self_eq_true, if_pos rfl]
  simp
theorem snoc_of {α : Type} {l : List α} (h : l ≠ []) : ∃ l' x, l = l' ++ [x] := ⟨l.dropLast, l.getLast h, (List.dropLast_concat_getLast h).symm⟩
/-- What lines a text has, where it is not empty, and whether the last one is ended. -/
theorem Lns.ended {L : List (List UInt8)} {s : List UInt8} (h : Lns L [] s) (hs : s ≠ []) : Lib.hasSuffix s [10] = true ∧ Lib.split (Lib.trimSuffix s [10]) [10] = L := by
  have hL : L ≠ [] := by rintro rfl; exact hs (by rw [h.eq]; rfl)
  obtain ⟨L', z, rfl⟩ := snoc_of hL
  have he : s = ((L'.map (· ++ [10])).flatten ++ z) ++ [10] := by rw [h.eq]; simp
  have h2 : Lns L' z ((L'.map (· ++ [10])).flatten ++ z) := ⟨rfl, fun l hl => h.no l (by simp [hl]), h.no z (by simp)⟩
  rw [he, suf_last, trimSuf_last, h2.split]
  exact ⟨rfl, rfl⟩
theorem Lns.open {L : List (List UInt8)} {t s : List UInt8} (h : Lns L t s) (ht : t ≠ []) : Lib.hasSuffix s [10] = false ∧ Lib.split (Lib.trimSuffix s [10]) [10] = L ++ [t] := by
  obtain ⟨t', b, rfl⟩ := snoc_of ht
  have he : s = ((L.map (· ++ [10])).flatten ++ t') ++ [b] := by rw [h.eq]; simp
  have hb : b ≠ 10 := h.nt b (by simp)
  have hf : Lib.hasSuffix s [10] = false := by
    rw [he, suf_last]; simpa using fun e => hb e.symm
  have hs := h.split
  refine ⟨hf, ?_⟩
  unfold Lib.trimSuffix
  rw [hf]
  exact hs
end Go.Proofs.YthpignffnnpboaaGreatDoor

/-
  Plain laws of the archive: a line is read alike by both.
-/
namespace Go.Proofs.YthpignffnnpboaaGreatDoor
set_option linter.unusedSimpArgs false
set_option linter.unusedVariables false
open Go.RowKit

def okW (b : List UInt8) : Bool := !decide (b = []) && b.all (rng b33 b126)
def isD : UInt8 → Bool := rng (UInt8.ofNat (Int.toNat 48)) (UInt8.ofNat (Int.toNat 57))
def h48 : List UInt8 → Bool
  | b :: _ => decide ((b.toNat : Int) = 48)
  | [] => false
def numOk (l : List UInt8) : Bool := !decide (l = []) && !decide (16 < (l.length : Int)) && l.all isD && !(decide (1 < (l.length : Int)) && h48 l)
noncomputable def numV (l : List UInt8) : Int := (m_strconv_Atoi l).getD 0
theorem isD_iff (b : UInt8) : isD b = true ↔ 48 ≤ b.toNat ∧ b.toNat ≤ 57 := by
  have h1 : (((UInt8.ofNat (Int.toNat 48)).toNat : Nat) : Int) = 48 := by decide
  have h2 : (((UInt8.ofNat (Int.toNat 57)).toNat : Nat) : Int) = 57 := by decide
  unfold isD rng
  simp only [Bool.not_eq_true', Bool.or_eq_false_iff, decide_eq_false_iff_not]
  omega
theorem isD_w {b : UInt8} (h : isD b = true) : rng b33 b126 b = true := by
  have h1 : ((b33.toNat : Nat) : Int) = 33 := by decide
  have h2 := (isD_iff b).1 h
  have h3 := n126
  unfold rng
  simp only [Bool.not_eq_true', Bool.or_eq_false_iff, decide_eq_false_iff_not]
  omega
theorem dec_some : ∀ (l : List UInt8) (a : Nat), l.all isD = true → ∃ n, Lib.decFrom a l = some n
  | [], a, _ => ⟨a, rfl⟩
  | b :: l, a, h => by
    simp only [List.all_cons, Bool.and_eq_true] at h
    obtain ⟨n, hn⟩ := dec_some l (a * 10 + (b.toNat - 48)) h.2
    refine ⟨n, ?_⟩
    unfold Lib.decFrom Lib.digitVal
    rw [if_pos ((isD_iff b).1 h.1)]
    exact hn
theorem atoi_ok {l : List UInt8} (h : numOk l = true) : m_strconv_Atoi l = some (numV l) := by
  unfold numOk at h
  simp only [Bool.and_eq_true, Bool.not_eq_true', decide_eq_false_iff_not] at h
  obtain ⟨⟨⟨h1, h2⟩, h3⟩, _⟩ := h
  have : ∃ n, m_strconv_Atoi l = some n := by
    unfold m_strconv_Atoi
    rw [if_pos (by omega)]
    cases l with
    | nil => exact absurd rfl h1
    | cons b r =>
      have hb := (isD_iff b).1 (by simp only [List.all_cons, Bool.and_eq_true] at h3; exact h3.1)
      obtain ⟨n, hn⟩ := dec_some (b :: r) 0 h3
      refine ⟨(n : Int), ?_⟩
      have e1 : (b == 45) = false := by rw [beq_eq_false_iff_ne]; rintro rfl; revert hb; decide
      have e2 : (b == 43) = false := by rw [beq_eq_false_iff_ne]; rintro rfl; revert hb; decide
      have e3 : Lib.decNat (b :: r) = some n := by unfold Lib.decNat; rw [if_neg (by simp)]; exact hn
      simp only [Lib.atoi, e1, e2, e3]
      rfl
  obtain ⟨n, hn⟩ := this
  unfold numV
  rw [hn]; rfl
theorem num_eq (l : List UInt8) (hl : l.length ≤ 1000000) : m_kit_Number l 16 = some (if numOk l = true then (numV l, true) else (0, false)) := by
  have ha : numOk l = true → m_strconv_Atoi l = some (numV l) := atoi_ok
  have hd : m_kit_IsDigits l = some (!decide (l = []) && l.all isD) := by
    unfold m_kit_IsDigits sims_G1_1_3; dsimp only
    rw [inb_all l _ _ hl]
    simp only [Option.bind_some, andO_some]
    rfl
  unfold m_kit_Number sims_G1_2_1; dsimp only
  rw [hd]
  unfold numOk at ha ⊢
  cases l with
  | nil => rfl
  | cons b r =>
    have hg : getI (b :: r) 0 = some b := rfl
    simp only [hg, Option.bind_some, orO_some, andO_some, h48] at ha ⊢
    simp only [show decide (b :: r = []) = false from rfl, Bool.not_false, Bool.true_and] at ha ⊢
    cases h1 : decide (16 < ((b :: r).length : Int)) with
    | true => simp only [h1] at *; rfl
    | false =>
    cases h2 : (b :: r).all isD with
    | false => rfl
    | true =>
    cases h3 : (decide (1 < ((b :: r).length : Int)) && decide ((b.toNat : Int) = 48)) with
    | true => rfl
    | false =>
      rw [h1, h2, h3] at ha
      simp only [Bool.not_false, Bool.true_and, Bool.and_true, forall_const, Bool.not_true, Bool.or_false, cond_false] at ha ⊢
      rw [ha]
      rfl
theorem lnum_eq (l : List UInt8) (hl : l.length ≤ 1000000) : m_interchangeref12_longNumber l = some (if numOk l = true then (numV l, true) else (0, false)) := by
  have ha : numOk l = true → m_strconv_Atoi l = some (numV l) := atoi_ok
  unfold m_interchangeref12_longNumber sims_G1_0_9; dsimp only
  unfold numOk at ha ⊢
  cases l with
  | nil => rfl
  | cons b r =>
    have hg : getI (b :: r) 0 = some b := rfl
    simp only [hg, Option.bind_some, orO_some, andO_some, h48] at ha ⊢
    simp only [show decide (b :: r = []) = false from rfl, Bool.not_false, Bool.true_and, Bool.false_or] at ha ⊢
    cases h1 : decide (16 < ((b :: r).length : Int)) with
    | true => rfl
    | false =>
    cases h3 : (decide (1 < ((b :: r).length : Int)) && decide ((b.toNat : Int) = 48)) with
    | true => simp
    | false =>
      simp only [Bool.or_self, cond_false]
      refine (loop_all (b :: r) isD (0, false) (fun i e he => ?_) (by simp only [lt_dec_self, cond_false]; rfl)).trans ?_
      · have hi2 := get_le he
        simp only [lt_dec hi2, cond_true, getI_nat, he, Option.bind_some, orO_some, wrapN i (by omega)]
        cases hc : (decide ((e.toNat : Int) < 48) || decide (57 < (e.toNat : Int))) with
        | true =>
          have : isD e = false := by
            cases hd : isD e with
            | false => rfl
            | true => have := (isD_iff e).1 hd; simp only [Bool.or_eq_true, decide_eq_true_eq] at hc; omega
          rw [this]; rfl
        | false =>
          have : isD e = true := by rw [isD_iff]; simp only [Bool.or_eq_false_iff, decide_eq_false_iff_not] at hc; omega
          rw [this]; rfl
      · cases h2 : (b :: r).all isD with
        | false => rfl
        | true =>
          rw [h1, h2, h3] at ha
          simp only [Bool.not_false, Bool.true_and, Bool.and_true, forall_const, Bool.not_true, if_true] at ha ⊢
          rw [ha]
          rfl
theorem isw_eq (l : List UInt8) (hl : l.length ≤ 1000000) : m_interchangeref12_isWord l = some (okW l) := by
  unfold m_interchangeref12_isWord sims_G1_1_5; dsimp only
  rw [rb_all l _ hl]
  simp only [Option.bind_some, andO_some]
  rfl
theorem hp_eq (e : List UInt8) : m_internal_stringslite_HasPrefix e [58] = some (Lib.hasPrefix e [58]) := by
  unfold m_internal_stringslite_HasPrefix sims_G1_0_10; dsimp only
  cases e with
  | nil => rfl
  | cons b l =>
    have h1 : sliceI (b :: l) ((none : Option Int).getD 0) ((some (([58] : List UInt8).length : Int)).getD ((b :: l).length : Int)) = some [b] := by
      unfold sliceI
      simp only [Option.getD_none, Option.getD_some, List.length_cons, List.length_nil]
      rw [if_pos (by omega)]
      rfl
    rw [h1]
    simp only [Option.bind_some, andO_some]
    rw [decide_eq_true (show (([58] : List UInt8).length : Int) ≤ ((b :: l).length : Int) by simp only [List.length_cons, List.length_nil]; omega)]
    simp only [Bool.true_and]
    show some (decide ([b] = [58])) = some (58 == b && List.isPrefixOf [] l)
    congr 1
    by_cases hb : b = 58
    · subst hb; simp
    · rw [decide_eq_false (by simpa using hb), beq_eq_false_iff_ne.2 (fun e => hb e.symm)]; rfl
theorem shp_eq (e : List UInt8) : m_strings_HasPrefix e [58] = some (Lib.hasPrefix e [58]) := by
  unfold m_strings_HasPrefix sims_G1_1_7; dsimp only
  rw [hp_eq]; rfl
theorem stp_eq (e : List UInt8) : m_strings_TrimPrefix e [58] = some (Lib.trimPrefix e [58]) := by
  unfold m_strings_TrimPrefix sims_G1_2_3; dsimp only
  unfold m_internal_stringslite_TrimPrefix sims_G1_1_6; dsimp only
  rw [hp_eq]
  simp only [Option.bind_some]
  unfold Lib.trimPrefix
  cases h : Lib.hasPrefix e [58] with
  | false => rfl
  | true =>
    have hl : 1 ≤ e.length := by
      cases e with
      | nil => cases h
      | cons b l => simp
    simp only [cond_true, if_true]
    unfold sliceI
    simp only [Option.getD_none, Option.getD_some, List.length_cons, List.length_nil]
    rw [if_pos (by omega)]
    simp
theorem con_eq (l : List (List UInt8)) (hl : l.length ≤ 1000000) : m_slices_Contains_string_string l [] = some (l.any fun e => decide (([] : List UInt8) = e)) := by
  unfold m_slices_Contains_string_string sims_G1_1_0; dsimp only
  have : ∃ n, m_slices_Index_string_string l [] = some n ∧ decide (0 ≤ n) = l.any fun e => decide (([] : List UInt8) = e) := by
    unfold m_slices_Index_string_string sims_G1_0_1; dsimp only
    refine loop_any l (fun e => decide (([] : List UInt8) = e)) (fun i e he => ?_) (by simp only [lt_dec_self, cond_false]; rfl)
    have hi2 := get_le he
    simp only [lt_dec hi2, cond_true, getI_nat, he, Option.bind_some, wrapN i (by omega)]
    cases decide (([] : List UInt8) = e) <;> rfl
  obtain ⟨n, h1, h2⟩ := this
  rw [h1]
  simp only [Option.bind_some, h2]
theorem conf_eq {f1 : FuncId} {c1 : List DV} {h1} (l : List (List UInt8)) (hl : l.length ≤ 1000000) (hb : ∀ e ∈ l, e.length ≤ 1000000) : m_slices_ContainsFunc_string_string l f1 c1 m_desk_readRecord_1 h1 = some (l.any fun e => !e.all (rng b33 b126)) := by
  unfold m_slices_ContainsFunc_string_string sims_G1_1_1; dsimp only
  have : ∃ n, m_slices_IndexFunc_string_string l f1 c1 m_desk_readRecord_1 h1 = some n ∧ decide (0 ≤ n) = l.any fun e => !e.all (rng b33 b126) := by
    unfold m_slices_IndexFunc_string_string sims_G1_0_2; dsimp only
    refine loop_any l (fun e => !e.all (rng b33 b126)) (fun i e he => ?_) (by simp only [lt_dec_self, cond_false]; rfl)
    have hi2 := get_le he
    have hr : m_desk_readRecord_1 e = some (!e.all (rng b33 b126)) := by
      unfold m_desk_readRecord_1 sims_G1_1_2; dsimp only
      rw [inb_all e _ _ (hb e (List.mem_of_getElem? he))]; rfl
    simp only [lt_dec hi2, cond_true, getI_nat, he, Option.bind_some, wrapN i (by omega), hr]
    cases (!e.all (rng b33 b126)) <;> rfl
  obtain ⟨n, h2, h3⟩ := this
  rw [h2]
  simp only [Option.bind_some, h3]
/-! ### Pieces -/
theorem splitK_le (sep : List UInt8) : ∀ (k : Nat) (s : List UInt8), (Lib.splitK sep 0 k s).length ≤ k + 1 ∧ ∀ e ∈ Lib.splitK sep 0 k s, e.length ≤ s.length
  | 0, s => ⟨by simp [Lib.splitK], fun e he => by simp [Lib.splitK] at he; rw [he]; exact Nat.le_refl _⟩
  | k + 1, s => by
    unfold Lib.splitK
    split
    · exact ⟨by simp, fun e he => by simp at he; rw [he]; exact Nat.le_refl _⟩
    · obtain ⟨h1, h2⟩ := splitK_le sep k (s.drop ((Lib.index s sep).toNat + sep.length))
      refine ⟨by simp only [List.length_cons]; omega, fun e he => ?_⟩
      rcases List.mem_cons.1 he with rfl | he
      · simp; omega
      · have := h2 e he
        simp at this; omega
abbrev wds (s : List UInt8) : List (List UInt8) := Lib.splitN s [32] 5
theorem wds_le (s : List UInt8) : (wds s).length ≤ 5 ∧ ∀ e ∈ wds s, e.length ≤ s.length := by
  have := splitK_le [32] (min 5 (s.length + 1) - 1) s
  exact ⟨by have := this.1; show (Lib.splitK _ _ _ _).length ≤ 5; omega, this.2⟩
theorem sn_eq (s : List UInt8) (hs : s.length ≤ 1000000) : m_strings_SplitN s [32] 5 = some (wds s) := by
  unfold m_strings_SplitN
  rw [if_pos ⟨by omega, by simp, by decide, by decide⟩]
  rfl
abbrev drpT : List UInt8 := [100, 114, 111, 112, 112, 101, 100]
noncomputable def recW : List (List UInt8) → Option Rc
  | [a, b, c, d, e] => if (numOk a && okW b && okW c && okW d) = true then (if Lib.hasPrefix e [58] = true then some ⟨numV a, b, c, d, false, Lib.trimPrefix e [58]⟩ else if e = drpT then some ⟨numV a, b, c, d, true, []⟩ else none) else none
  | _ => none
noncomputable def recO (s : List UInt8) : Option Rc := recW (wds s)
theorem five {l : List (List UInt8)} (h : l.length = 5) : ∃ a b c d e, l = [a, b, c, d, e] := by
  match l, h with
  | [a, b, c, d, e], _ => exact ⟨a, b, c, d, e, rfl⟩
theorem recW_ne {l : List (List UInt8)} (h : l.length ≠ 5) : recW l = none := by
  unfold recW
  split
  · exact absurd rfl h
  · rfl
theorem r_rec (s : List UInt8) (hs : s.length ≤ 1000000) : ∃ r ok, m_interchangeref12_recordOf s = some (r, ok) ∧ recO s = if ok = true then some r else none := by
  obtain ⟨hl, hb⟩ := wds_le s
  unfold recO
  unfold m_interchangeref12_recordOf sims_G1_3_2; dsimp only
  rw [sn_eq s hs]
  generalize wds s = w at hl hb ⊢
  simp only [Option.bind_some]
  by_cases h5 : w.length = 5
  · obtain ⟨a, b, c, d, e, rfl⟩ := five h5
    have ha : a.length ≤ 1000000 := by have := hb a (by simp); omega
    have hb1 : b.length ≤ 1000000 := by have := hb b (by simp); omega
    have hc : c.length ≤ 1000000 := by have := hb c (by simp); omega
    have hd : d.length ≤ 1000000 := by have := hb d (by simp); omega
    have g0 : getI [a, b, c, d, e] 0 = some a := rfl
    have g1 : getI [a, b, c, d, e] 1 = some b := rfl
    have g2 : getI [a, b, c, d, e] 2 = some c := rfl
    have g3 : getI [a, b, c, d, e] 3 = some d := rfl
    have g4 : getI [a, b, c, d, e] 4 = some e := rfl
    have hlen : decide ((([a, b, c, d, e] : List (List UInt8)).length : Int) = 5) = true := by simp
    simp only [g0, g1, g2, g3, g4, Option.bind_some, isw_eq b hb1, isw_eq c hc, isw_eq d hd, orO_some, hlen, Bool.not_true, Bool.false_or, lnum_eq a ha, shp_eq, stp_eq, andO_some]
    simp only [recW]
    cases okW b with
    | false => exact ⟨_, _, rfl, by simp⟩
    | true =>
    cases okW c with
    | false => exact ⟨_, _, rfl, by simp⟩
    | true =>
    cases okW d with
    | false => exact ⟨_, _, rfl, by simp⟩
    | true =>
    simp only [Bool.not_true, Bool.or_self, cond_false, Bool.and_true]
    by_cases he : e = drpT
    · rw [decide_eq_true he]
      have hp : Lib.hasPrefix e [58] = false := by rw [he]; rfl
      refine ⟨_, _, rfl, ?_⟩
      rw [hp, if_neg (show ¬ false = true by decide), if_pos he]
      cases numOk a <;> simp
    · rw [decide_eq_false he]
      refine ⟨_, _, rfl, ?_⟩
      simp only [if_neg he]
      cases numOk a <;> cases Lib.hasPrefix e [58] <;> simp
  · rw [recW_ne h5]
    have : decide ((w.length : Int) = 5) = false := decide_eq_false (by omega)
    rw [this]
    exact ⟨_, false, rfl, rfl⟩
theorem p_rec (s : List UInt8) (hs : s.length ≤ 1000000) : ∃ r ok, m_desk_readRecord s = some (r, ok) ∧ recO s = if ok = true then some r else none := by
  obtain ⟨hl, hb⟩ := wds_le s
  have w5 : IntKind.i64.wrap (4 + 1) = 5 := by decide
  unfold recO
  unfold m_desk_readRecord sims_G1_3_0; dsimp only
  unfold m_desk_head sims_G1_2_0; dsimp only
  rw [w5, sn_eq s hs]
  generalize wds s = w at hl hb ⊢
  simp only [Option.bind_some]
  by_cases h5 : w.length = 5
  · obtain ⟨a, b, c, d, e, rfl⟩ := five h5
    have ha : a.length ≤ 1000000 := by have := hb a (by simp); omega
    have g4 : getI [a, b, c, d, e] 4 = some e := rfl
    have hlen : decide ((([a, b, c, d, e] : List (List UInt8)).length : Int) = 5) = true := by simp
    have hsl : sliceI [a, b, c, d, e] ((none : Option Int).getD 0) ((some (4 : Int)).getD (([a, b, c, d, e] : List (List UInt8)).length : Int)) = some [a, b, c, d] := rfl
    have g0 : getI [a, b, c, d] 0 = some a := rfl
    have g1 : getI [a, b, c, d] 1 = some b := rfl
    have g2 : getI [a, b, c, d] 2 = some c := rfl
    have g3 : getI [a, b, c, d] 3 = some d := rfl
    have hcp : m_strings_CutPrefix e [58] = some (Lib.trimPrefix e [58], Lib.hasPrefix e [58]) := rfl
    have hb4 : ∀ q ∈ [a, b, c, d], q.length ≤ 1000000 := fun q hq => by
      have := hb q (by simp at hq ⊢; rcases hq with h | h | h | h <;> simp [h])
      omega
    simp only [g4, hsl, Option.bind_some, orO_some, hlen, Bool.not_true, Bool.false_or, con_eq [a, b, c, d] (by simp)]
    cases h1 : (decide (e = []) || [a, b, c, d].any fun q => decide (([] : List UInt8) = q)) with
    | true =>
      refine ⟨_, false, rfl, ?_⟩
      simp only [recW]
      simp only [Bool.or_eq_true, decide_eq_true_eq, List.any_cons, List.any_nil, Bool.or_false] at h1
      rcases h1 with rfl | h1
      · have : ¬ ([] : List UInt8) = drpT := by decide
        simp [Lib.hasPrefix, this]
      · have : (numOk a && okW b && okW c && okW d) = false := by
          unfold numOk okW
          rcases h1 with rfl | rfl | rfl | rfl <;> simp
        rw [this]; simp
    | false =>
      simp only [cond_false, Option.bind_some, Bool.not_true, orO_some, Bool.false_or]
      rw [conf_eq _ (by simp) hb4]
      simp only [Option.bind_some, orO_some]
      cases h2 : ([a, b, c, d].any fun q => !q.all (rng b33 b126)) with
      | true =>
        refine ⟨_, false, rfl, ?_⟩
        simp only [recW]
        simp only [List.any_cons, List.any_nil, Bool.or_false, Bool.or_eq_true, Bool.not_eq_true'] at h2
        have : (numOk a && okW b && okW c && okW d) = false := by
          rcases h2 with h2 | h2 | h2 | h2
          · have : numOk a = false := by
              cases hn : numOk a with
              | false => rfl
              | true =>
                unfold numOk at hn
                simp only [Bool.and_eq_true] at hn
                have h3 := hn.1.2
                rw [List.all_eq_true] at h3
                have : a.all (rng b33 b126) = true := List.all_eq_true.2 fun x hx => isD_w (h3 x hx)
                rw [this] at h2; cases h2
            rw [this]; rfl
          · unfold okW; rw [h2]; simp
          · unfold okW; rw [h2]; simp
          · unfold okW; rw [h2]; simp
        rw [this]; simp
      | false =>
        simp only [cond_false, g0, g1, g2, g3, Option.bind_some, num_eq a ha, hcp, andO_some]
        have hok : okW b = true ∧ okW c = true ∧ okW d = true := by
          simp only [Bool.or_eq_false_iff, List.any_cons, List.any_nil, decide_eq_false_iff_not, Bool.not_eq_false'] at h1 h2
          refine ⟨?_, ?_, ?_⟩
          · unfold okW; rw [h2.2.1, decide_eq_false (fun e => h1.2.2.1 e.symm)]; rfl
          · unfold okW; rw [h2.2.2.1, decide_eq_false (fun e => h1.2.2.2.1 e.symm)]; rfl
          · unfold okW; rw [h2.2.2.2.1, decide_eq_false (fun e => h1.2.2.2.2.1 e.symm)]; rfl
        simp only [recW, hok.1, hok.2.1, hok.2.2, Bool.and_true]
        cases hp : Lib.hasPrefix e [58] with
        | true =>
          refine ⟨_, _, rfl, ?_⟩
          cases numOk a <;> simp
        | false =>
          refine ⟨_, _, rfl, ?_⟩
          by_cases he : e = drpT
          · rw [decide_eq_true he]; cases numOk a <;> simp [he]
          · rw [decide_eq_false he]; cases numOk a <;> simp [he]
  · rw [recW_ne h5]
    have : decide ((w.length : Int) = 5) = false := decide_eq_false (by omega)
    rw [this]
    exact ⟨_, false, rfl, rfl⟩
theorem trimP_le (e p : List UInt8) : (Lib.trimPrefix e p).length ≤ e.length := by
  unfold Lib.trimPrefix
  split
  · simp
  · exact Nat.le_refl _
theorem rec_nice {s : List UInt8} {r : Rc} (hs : s.length ≤ 1000000) (h : recO s = some r) : Nice r := by
  obtain ⟨hl, hb⟩ := wds_le s
  unfold recO at h
  generalize wds s = w at hl hb h
  unfold recW at h
  split at h
  · rename_i a b c d e
    have hb1 : b.length ≤ 1000000 := by have := hb b (by simp); omega
    have hc : c.length ≤ 1000000 := by have := hb c (by simp); omega
    have hd : d.length ≤ 1000000 := by have := hb d (by simp); omega
    have he : e.length ≤ 1000000 := by have := hb e (by simp); omega
    have ht := trimP_le e [58]
    split at h
    · split at h
      · cases h
        exact ⟨hb1, hc, hd, by show (Lib.trimPrefix e [58]).length ≤ _; omega, fun h => by cases h⟩
      · split at h
        · cases h
          exact ⟨hb1, hc, hd, by simp, fun _ => rfl⟩
        · cases h
    · cases h
  · cases h
end Go.Proofs.YthpignffnnpboaaGreatDoor

/-
  Plain laws of the archive: heads, and DeskHeadsStay.
-/
namespace Go.Proofs.YthpignffnnpboaaGreatDoor
set_option linter.unusedSimpArgs false
set_option linter.unusedVariables false
open Go.RowKit

def bodyF (r : Rc) : List UInt8 := Lib.itoa r.fTime ++ [32] ++ r.fKind ++ [32] ++ r.fKey ++ [32] ++ r.fDigest
theorem rf_lens {r : Rc} (h : RecOk r) (k : RfOk r) : (Lib.itoa r.fTime).length ≤ 21 ∧ r.fKind.length ≤ 40 ∧ r.fKey.length ≤ 40 ∧ r.fDigest.length = 16 ∧ -9223372036854775808 ≤ r.fTime ∧ r.fTime ≤ 9223372036854775807 := by
  have h1 := k.ff.mom
  unfold momB at h1
  simp only [Bool.not_eq_true', Bool.or_eq_false_iff, decide_eq_false_iff_not] at h1
  have h2 := k.ff.key
  unfold keyBad at h2
  simp only [Bool.or_eq_false_iff, decide_eq_false_iff_not] at h2
  exact ⟨Lib.itoa_length_le r.fTime (by omega) (by omega), nm_len h.kind k.ff.nm, by omega, dig_len k.dig, by omega, by omega⟩
theorem body_eq {r : Rc} (h : RecOk r) (k : RfOk r) : m_desk_body r = some (bodyF r) ∧ (bodyF r).length ≤ 200 := by
  obtain ⟨h1, h2, h3, h4, h5, h6⟩ := rf_lens h k
  constructor
  · unfold m_desk_body sims_G1_0_16; dsimp only
    have hi : m_strconv_Itoa r.fTime = some (Lib.itoa r.fTime) := by unfold m_strconv_Itoa; rw [if_pos ⟨h5, h6⟩]
    rw [hi]
    simp only [Option.bind_some]
    iterate 6 rw [thenO_some (strO_some.2 (by simp only [List.length_append, List.length_cons, List.length_nil]; omega))]
    rfl
  · unfold bodyF
    simp only [List.length_append, List.length_cons, List.length_nil]; omega
noncomputable def hdF (l : List Rc) : List UInt8 := l.foldl (fun h r => dg (h ++ [32] ++ bodyF r)) (Lib.repeatL [48] 16)
theorem hd_len : ∀ (l : List Rc), (∀ r ∈ l, (bodyF r).length ≤ 200) → (hdF l).length = 16 ∧ ∀ x ∈ hdF l, hexB x = true := by
  have : ∀ (l : List Rc) (s : List UInt8), s.length = 16 → (∀ x ∈ s, hexB x = true) → (∀ r ∈ l, (bodyF r).length ≤ 200) →
      (l.foldl (fun h r => dg (h ++ [32] ++ bodyF r)) s).length = 16 ∧ ∀ x ∈ l.foldl (fun h r => dg (h ++ [32] ++ bodyF r)) s, hexB x = true := by
    intro l
    induction l with
    | nil => intro s h1 h2 _; exact ⟨h1, h2⟩
    | cons r l ih =>
      intro s h1 h2 h3
      have hb := h3 r (by simp)
      obtain ⟨_, d2, d3⟩ := dg_eq (s ++ [32] ++ bodyF r) (by simp only [List.length_append, List.length_cons, List.length_nil]; omega)
      exact ih _ d2 d3 fun q hq => h3 q (by simp [hq])
  intro l h
  exact this l _ (by decide) (by decide) h
theorem hd_eq (l : List Rc) (h : ∀ r ∈ l, RecOk r) (k : ∀ r ∈ l, RfOk r) (hl : l.length ≤ 2000) : m_desk_headOf l = some (hdF l) := by
  have hb : ∀ r ∈ l, (bodyF r).length ≤ 200 := fun r hr => (body_eq (h r hr) (k r hr)).2
  have hr : m_strings_Repeat [48] 16 = some (Lib.repeatL [48] 16) := by
    unfold m_strings_Repeat
    rw [if_pos ⟨by decide, by decide, by decide⟩]; rfl
  unfold m_desk_headOf sims_G1_1_9; dsimp only
  rw [hr]
  simp only [Option.bind_some]
  refine bind_loop (a := .inl (hdF l, (l.length : Int))) (loop_pre l (fun i q => (hdF q, (i : Int))) (fun i e he => ?_) (by simp only [lt_dec_self, cond_false]; rfl)) rfl
  have hi := get_le he
  have hm := List.mem_of_getElem? he
  obtain ⟨b1, b2⟩ := body_eq (h e hm) (k e hm)
  have h16 := (hd_len (l.take i) fun q hq => hb q (List.mem_of_mem_take hq)).1
  simp only [lt_dec hi, cond_true, getI_nat, he, Option.bind_some, b1, wrapN i (by omega)]
  rw [thenO_some (strO_some.2 (by simp only [List.length_cons, List.length_nil]; omega)), thenO_some (strO_some.2 (by simp only [List.length_append, List.length_cons, List.length_nil]; omega))]
  rw [(dg_eq (hdF (l.take i) ++ [32] ++ bodyF e) (by simp only [List.length_append, List.length_cons, List.length_nil]; omega)).1]
  simp only [Option.bind_some]
  unfold hdF
  rw [List.foldl_append, List.foldl_cons, List.foldl_nil]
theorem sliceI_to (l : List Rc) (k : Nat) (h : k ≤ l.length) : sliceI l ((none : Option Int).getD 0) ((some (k : Int)).getD (l.length : Int)) = some (l.take k) := by
  simp only [Option.getD_none, Option.getD_some, sliceI]
  rw [if_pos ⟨by omega, by omega, by omega⟩]
  simp
theorem out_eq (n lo hi : Int) : m_kit_Outside n lo hi = some (decide (n < lo) || decide (hi < n)) := by
  unfold m_kit_Outside sims_G1_0_4; dsimp only
  simp only [orO_some, Option.bind_some]
theorem head_ok {l : List Rc} {k : Nat} (h : ∀ r ∈ l, RecOk r) (hc : caF l = 0) (hk : k ≤ l.length) : m_desk_Head l (k : Int) = some (hdF (l.take k), 0) := by
  have hC := ca_zero.1 hc
  unfold m_desk_Head sims_G1_5_1; dsimp only
  rw [ca_eq l h, hc]
  simp only [Option.bind_some, decide_true, Bool.not_true, cond_false, out_eq]
  rw [show (decide ((k : Int) < 0) || decide ((l.length : Int) < (k : Int))) = false by simp; omega]
  simp only [cond_false]
  rw [sliceI_to l k hk]
  simp only [Option.bind_some]
  rw [hd_eq _ (fun r hr => h r (List.mem_of_mem_take hr)) (fun r hr => hC.rf r (List.mem_of_mem_take hr)) (by rw [List.length_take]; have := hC.len; omega)]
  rfl
/-! ### Dropped -/
theorem awake_eq : m_interchangelaw12_awake = some true := by
  have hc : caF [] = 0 := ca_zero.2 ⟨by simp, (fun r hr => by cases hr), (fun i r q _ hr => by simp at hr)⟩
  have := head_ok (l := []) (k := 0) (fun r hr => by cases hr) hc (Nat.le_refl _)
  unfold m_interchangelaw12_awake sims_G1_6_0; dsimp only
  rw [show (0 : Int) = ((0 : Nat) : Int) from rfl, this]
  rfl
end Go.Proofs.YthpignffnnpboaaGreatDoor

/-
  Plain laws of the archive: DeskArchivesReadMatchSpec.
-/
namespace Go.Proofs.YthpignffnnpboaaGreatDoor
set_option linter.unusedSimpArgs false
set_option linter.unusedVariables false
open Go.RowKit

/-- What the lines give: the records, or the number of the line that is none. -/
noncomputable def rdL (t : List UInt8) : List (List UInt8) → Nat → List Rc → List Rc ⊕ Nat
  | [], i, out => if t = [] then .inl out else .inr (i + 1)
  | e :: L, i, out => match recO e with
    | some r => rdL t L (i + 1) (out ++ [r])
    | none => .inr (i + 1)
/-- The same over lines of which the last one may be open. -/
noncomputable def rdP (ended : Bool) : List (List UInt8) → Nat → List Rc → List Rc ⊕ Nat
  | [], _, out => .inl out
  | e :: L, i, out => match recO e with
    | some r => if (!ended && decide (L = [])) = true then .inr (i + 1) else rdP ended L (i + 1) (out ++ [r])
    | none => .inr (i + 1)
theorem rdP_ended : ∀ (L : List (List UInt8)) (i : Nat) (out : List Rc), rdP true L i out = rdL [] L i out
  | [], _, _ => rfl
  | e :: L, i, out => by
    unfold rdP rdL
    cases recO e with
    | none => rfl
    | some r => exact rdP_ended L (i + 1) (out ++ [r])
theorem rdP_open {t : List UInt8} (ht : t ≠ []) : ∀ (L : List (List UInt8)) (i : Nat) (out : List Rc), rdP false (L ++ [t]) i out = rdL t L i out
  | [], i, out => by
    show rdP false [t] i out = _
    unfold rdP rdL
    rw [if_neg ht]
    cases recO t <;> rfl
  | e :: L, i, out => by
    show rdP false (e :: (L ++ [t])) i out = _
    unfold rdP rdL
    cases recO e with
    | none => rfl
    | some r =>
      have : decide (L ++ [t] = []) = false := by simp
      simp only [this, Bool.and_false]
      exact rdP_open ht L (i + 1) (out ++ [r])
theorem rdL_nice (t : List UInt8) : ∀ (L : List (List UInt8)) (i : Nat) (out : List Rc) (o : List Rc), (∀ e ∈ L, e.length ≤ 1000000) → (∀ r ∈ out, Nice r) → rdL t L i out = .inl o → ∀ r ∈ o, Nice r
  | [], i, out, o, _, h2, h => by
    unfold rdL at h
    split at h
    · cases h; exact h2
    · cases h
  | e :: L, i, out, o, h1, h2, h => by
    unfold rdL at h
    cases he : recO e with
    | none => rw [he] at h; cases h
    | some q =>
      rw [he] at h
      refine rdL_nice t L (i + 1) (out ++ [q]) o (fun x hx => h1 x (by simp [hx])) (fun r hr => ?_) h
      rcases List.mem_append.1 hr with hr | hr
      · exact h2 r hr
      · rw [List.mem_singleton.1 hr]; exact rec_nice (h1 e (by simp)) he
theorem rdL_len (t : List UInt8) : ∀ (L : List (List UInt8)) (i : Nat) (out : List Rc) (o : List Rc), rdL t L i out = .inl o → o.length = out.length + L.length
  | [], i, out, o, h => by
    unfold rdL at h
    split at h
    · cases h; rfl
    · cases h
  | e :: L, i, out, o, h => by
    unfold rdL at h
    cases he : recO e with
    | none => rw [he] at h; cases h
    | some q =>
      rw [he] at h
      have := rdL_len t L (i + 1) (out ++ [q]) o h
      simp at this ⊢; omega
def resV {S : Type} (st : List Rc → S) : List Rc ⊕ Nat → S ⊕ (List Rc × Int × Int)
  | .inl o => .inl (st o)
  | .inr n => .inr ([], (n : Int), 10)
theorem p_loop {lines : List (List UInt8)} {ended : Bool} (hn : lines.length ≤ 1000000) (hb : ∀ e ∈ lines, e.length ≤ 1000000) {f : List Rc × Int → Option ((List Rc × Int) ⊕ ((List Rc × Int) ⊕ (List Rc × Int × Int)))}
    (hf : ∀ s, f s = bif decide (s.snd < (lines.length : Int)) then (getI lines s.snd).bind fun e => (m_desk_readRecord e).bind fun x_1 =>
      (orO (!x_1.snd) ((andO (!ended) (some (decide (s.snd = IntKind.i64.wrap ((lines.length : Int) - 1))))).bind fun v => some v)).bind fun v =>
        bif v then inrO (inrO (some ([], IntKind.i64.wrap (s.snd + 1), 10))) else thenO (lenO (s.fst.length + [x_1.fst].length)) (some (Sum.inl (s.fst ++ [x_1.fst], IntKind.i64.wrap (s.snd + 1))))
      else inrO (some (Sum.inl (s.fst, s.snd)))) :
    ∀ (L2 : List (List UInt8)) (i : Nat) (out : List Rc), lines.drop i = L2 → i ≤ lines.length → out.length = i → loopC f (out, (i : Int)) = some (resV (fun o => (o, (lines.length : Int))) (rdP ended L2 i out))
  | [], i, out, hd, hi, ho => by
    have := drop_nil_len hd hi
    subst this
    rw [loopC_eq, hf]
    simp only [lt_dec_self, cond_false]
    rfl
  | e :: L2, i, out, hd, hi, ho => by
    obtain ⟨h1, h2, h3⟩ := drop_head hd
    obtain ⟨r, ok, hr, hro⟩ := p_rec e (hb e (List.mem_of_getElem? h1))
    have hlast : decide ((i : Int) = IntKind.i64.wrap ((lines.length : Int) - 1)) = decide (L2 = []) := by
      rw [wrap64 _ (by omega) (by omega)]
      have hl : L2.length = lines.length - (i + 1) := by rw [← h3, List.length_drop]
      rw [Bool.eq_iff_iff, decide_eq_true_eq, decide_eq_true_eq]
      constructor
      · intro h; exact List.length_eq_zero_iff.1 (by omega)
      · intro h; rw [h] at hl; simp at hl; omega
    rw [loopC_eq, hf]
    simp only [lt_dec h2, cond_true, getI_nat, h1, Option.bind_some, hr, andO_some, orO_some, hlast, wrapN i (by omega)]
    unfold rdP
    rw [hro]
    cases ok with
    | false => rfl
    | true =>
      simp only [if_true, Bool.not_true, Bool.false_or]
      cases hv : (!ended && decide (L2 = [])) with
      | true => rfl
      | false =>
        simp only [cond_false]
        rw [thenO_some (lenO_ok (by simp; omega))]
        exact p_loop hn hb hf L2 (i + 1) (out ++ [r]) h3 (by omega) (by simp [ho])
theorem r_loop {f : List UInt8 × List Rc → Option ((List UInt8 × List Rc) ⊕ ((List UInt8 × List Rc) ⊕ (List Rc × Int × Int)))}
    (hf : ∀ s, f s = bif !decide (s.fst = []) then (m_strings_Cut s.fst [10]).bind fun x => (m_interchangeref12_recordOf x.fst).bind fun x_1 => (orO (!x.snd.snd) (some !x_1.snd)).bind fun v =>
        bif v then inrO (inrO (some ([], IntKind.i64.wrap ((s.snd.length : Int) + 1), 10))) else thenO (lenO (s.snd.length + [x_1.fst].length)) (some (Sum.inl (x.snd.fst, s.snd ++ [x_1.fst])))
      else inrO (some (Sum.inl (s.fst, s.snd)))) :
    ∀ (L : List (List UInt8)) (t s : List UInt8) (out : List Rc), Lns L t s → s.length ≤ 1000000 → out.length + L.length ≤ 1000000 → loopC f (s, out) = some (resV (fun o => ([], o)) (rdL t L out.length out))
  | [], t, s, out, h, hs, ho => by
    have he := h.eq
    simp at he
    subst he
    rw [loopC_eq, hf]
    unfold rdL
    by_cases hz : s = []
    · subst hz; rfl
    · obtain ⟨r, ok, hr, hro⟩ := r_rec s hs
      have hc : m_strings_Cut s [10] = some (s, [], false) := by
        unfold m_strings_Cut
        rw [if_pos (by omega), cut_none h.nt]
      rw [if_neg hz]
      simp only [decide_eq_false hz, Bool.not_false, cond_true, hc, Option.bind_some, hr, orO_some, Bool.true_or, wrapN out.length (by simp at ho; omega)]
      rfl
  | a :: L, t, s, out, h, hs, ho => by
    obtain ⟨b, rfl, hb⟩ := h.tail
    have hal : a.length ≤ 1000000 := by simp at hs; omega
    obtain ⟨r, ok, hr, hro⟩ := r_rec a hal
    have hc : m_strings_Cut (a ++ 10 :: b) [10] = some (a, b, true) := by
      unfold m_strings_Cut
      rw [if_pos (by omega), cut_at (h.no a (by simp))]
    have hz : ¬ (a ++ 10 :: b = []) := by simp
    rw [loopC_eq, hf]
    unfold rdL
    rw [hro]
    simp only [decide_eq_false hz, Bool.not_false, cond_true, hc, Option.bind_some, hr, orO_some, Bool.not_true, Bool.false_or, wrapN out.length (by simp at ho; omega)]
    cases ok with
    | false => rfl
    | true =>
      simp only [Bool.not_true, cond_false, if_true]
      rw [thenO_some (lenO_ok (by simp at ho ⊢; omega))]
      have := r_loop hf L t b (out ++ [r]) hb (by simp at hs; omega) (by simp at ho ⊢; omega)
      rw [List.length_append] at this
      exact this
/-- What is read. -/
noncomputable def rdF : List Rc ⊕ Nat → List Rc × Int × Int
  | .inl o => if caF o = 0 then (o, 0, 0) else ([], 0, caF o)
  | .inr n => ([], (n : Int), 10)
theorem fin_eq {C : Option Int} {o : List Rc} (h : C = some (caF o)) : (C.bind fun x => bif !decide (x = 0) then some (([] : List Rc), (0 : Int), x) else some (o, 0, 0)) = some (rdF (.inl o)) := by
  rw [h]
  unfold rdF
  simp only [Option.bind_some]
  by_cases hc : caF o = 0
  · rw [if_pos hc, decide_eq_true hc]; rfl
  · rw [if_neg hc, decide_eq_false hc]; rfl
theorem big_eq (s : List UInt8) : decide ((500000 : Int) < (s.length : Int)) = decide (500000 < s.length) := by
  rw [Bool.eq_iff_iff, decide_eq_true_eq, decide_eq_true_eq]; omega
theorem lines_len : ∀ {L : List (List UInt8)} {t s : List UInt8}, Lns L t s → L.length ≤ s.length ∧ (∀ e ∈ L, e.length ≤ s.length) ∧ t.length ≤ s.length
  | [], t, s, h => by
    have he := h.eq
    simp at he
    subst he
    exact ⟨by simp, by simp, Nat.le_refl _⟩
  | a :: L, t, s, h => by
    obtain ⟨b, rfl, hb⟩ := h.tail
    obtain ⟨h1, h2, h3⟩ := lines_len hb
    refine ⟨by simp; omega, fun e he => ?_, by simp; omega⟩
    rcases List.mem_cons.1 he with rfl | he
    · simp
    · have := h2 e he
      simp; omega
theorem r_read {L : List (List UInt8)} {t s : List UInt8} (h : Lns L t s) (hs : s.length ≤ 500000) : m_interchangeref12_Read s = some (rdF (rdL t L 0 [])) := by
  obtain ⟨hl, hb, ht⟩ := lines_len h
  unfold m_interchangeref12_Read sims_G1_4_1; dsimp only
  rw [big_eq, decide_eq_false (by omega)]
  simp only [cond_false]
  have key := r_loop (fun s => rfl) L t s [] h (by omega) (by simp; omega)
  refine bind_loop key ?_
  have hni := rdL_nice t L 0 [] 
  show outK _ (resV _ (rdL t L 0 [])) = _
  cases hr : rdL t L 0 [] with
  | inl o => exact fin_eq (rca_eq o (hni o (fun e he => by have := hb e he; omega) (by simp) hr))
  | inr n => rfl
theorem p_lines {L : List (List UInt8)} {t s : List UInt8} (h : Lns L t s) (hs : s.length ≤ 500000) : ∃ lines ended, m_kit_Lines s = some (lines, ended) ∧ lines.length ≤ 1000000 ∧ (∀ e ∈ lines, e.length ≤ 1000000) ∧ rdP ended lines 0 [] = rdL t L 0 [] := by
  obtain ⟨hl, hb, ht⟩ := lines_len h
  have hcs : ∀ q b, (Lib.trimSuffix s [10] = q) → (Lib.hasSuffix s [10] = b) → q.length < 4294967281 → ¬ s = [] → m_kit_Lines s = some (Lib.split q [10], b) := by
    intro q b h1 h2 h3 h4
    unfold m_kit_Lines sims_G1_0_0; dsimp only
    have hc : m_strings_CutSuffix s [10] = some (q, b) := by
      unfold m_strings_CutSuffix
      rw [if_pos (by omega), h1, h2]
    rw [decide_eq_false h4, hc]
    simp only [cond_false, Option.bind_some]
    unfold m_strings_Split
    rw [if_pos ⟨h3, by simp⟩]
    rfl
  have hq : (Lib.trimSuffix s [10]).length < 4294967281 := by
    unfold Lib.trimSuffix
    split
    · simp; omega
    · omega
  by_cases hz : s = []
  · subst hz
    have he := h.eq
    cases L with
    | cons a L => simp at he
    | nil =>
      simp at he
      subst he
      refine ⟨[], true, ?_, by simp, by simp, rfl⟩
      unfold m_kit_Lines sims_G1_0_0; dsimp only
      rfl
  · by_cases htz : t = []
    · subst htz
      obtain ⟨h1, h2⟩ := h.ended hz
      refine ⟨L, true, ?_, by omega, fun e he => by have := hb e he; omega, rdP_ended L 0 []⟩
      rw [hcs _ _ rfl h1 hq hz, h2]
    · obtain ⟨h1, h2⟩ := h.open htz
      refine ⟨L ++ [t], false, ?_, by simp; omega, fun e he => ?_, rdP_open htz L 0 []⟩
      · rw [hcs _ _ rfl h1 hq hz, h2]
      · rcases List.mem_append.1 he with he | he
        · have := hb e he; omega
        · rw [List.mem_singleton.1 he]; omega
theorem p_read {L : List (List UInt8)} {t s : List UInt8} (h : Lns L t s) (hs : s.length ≤ 500000) : m_desk_Read s = some (rdF (rdL t L 0 [])) := by
  obtain ⟨hl, hb, ht⟩ := lines_len h
  obtain ⟨lines, ended, h1, h2, h3, h4⟩ := p_lines h hs
  unfold m_desk_Read sims_G1_5_0; dsimp only
  rw [big_eq, decide_eq_false (by omega), h1]
  simp only [cond_false, Option.bind_some]
  have key := p_loop (ended := ended) h2 h3 (fun s => rfl) lines 0 [] rfl (by omega) rfl
  rw [h4] at key
  refine bind_loop key ?_
  have hni := rdL_nice t L 0 []
  show outK _ (resV _ (rdL t L 0 [])) = _
  cases hr : rdL t L 0 [] with
  | inl o => exact fin_eq (ca_eq o fun r hm => (hni o (fun e he => by have := hb e he; omega) (by simp) hr r hm).ok)
  | inr n => rfl
theorem eq_self (l : List Rc) (hl : l.length ≤ 1000000) : m_slices_Equal_interchange_api_Record_interchange_api_Record l l = some true := by
  unfold m_slices_Equal_interchange_api_Record_interchange_api_Record sims_G1_0_15; dsimp only
  rw [decide_eq_true rfl]
  simp only [Bool.not_true, cond_false]
  refine (loop_all l (fun _ => true) false (fun i e he => ?_) (by simp only [lt_dec_self, cond_false]; rfl)).trans ?_
  · have hi2 := get_le he
    simp only [lt_dec hi2, cond_true, getI_nat, he, Option.bind_some, wrapN i (by omega), decide_true, Bool.and_self, Bool.not_true, cond_false, if_true]
  · simp
theorem law_read (s : List UInt8) (hs : s.length ≤ 9223372036854775807) : m_interchangelaw12_DeskArchivesReadMatchSpec s = some true := by
  have key : ∃ v, m_desk_Read s = some v ∧ m_interchangeref12_Read s = some v ∧ v.1.length ≤ 1000000 := by
    by_cases hb : s.length ≤ 500000
    · obtain ⟨L, t, h⟩ := lns_ex s.length s (Nat.le_refl _)
      obtain ⟨hl, _, _⟩ := lines_len h
      refine ⟨_, p_read h hb, r_read h hb, ?_⟩
      cases hr : rdL t L 0 [] with
      | inl o =>
        have := rdL_len t L 0 [] o hr
        simp only [List.length_nil] at this
        by_cases hc : caF o = 0
        · simp only [rdF, if_pos hc]; omega
        · simp [rdF, if_neg hc]
      | inr n => simp [rdF]
    · refine ⟨([], 0, 2), ?_, ?_, by simp⟩
      · unfold m_desk_Read sims_G1_5_0; dsimp only
        rw [big_eq, decide_eq_true (by omega)]; rfl
      · unfold m_interchangeref12_Read sims_G1_4_1; dsimp only
        rw [big_eq, decide_eq_true (by omega)]; rfl
  obtain ⟨v, h1, h2, h3⟩ := key
  unfold m_interchangelaw12_DeskArchivesReadMatchSpec sims_G1_7_0; dsimp only
  rw [h1, h2]
  simp only [Option.bind_some, eq_self _ h3, andO_some, decide_true, Bool.and_self, awake_eq]
end Go.Proofs.YthpignffnnpboaaGreatDoor

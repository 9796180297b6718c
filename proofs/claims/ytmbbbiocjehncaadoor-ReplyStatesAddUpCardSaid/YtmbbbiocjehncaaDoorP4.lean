/-
  Plain laws: the reference's book; ReplyBooksMatchSpec.
-/
import Derived.Test.YtmbbbiocjehncaaDoorP3
namespace Go.Proofs.YtmbbbiocjehncaaDoor
set_option linter.unusedSimpArgs false
set_option linter.unusedVariables false
open Go.RowKit

theorem openIdx_last {out : List Sd} {r : List UInt8} {k : Nat} (hk : k < out.length) (hw : waitsP out r k = true) (hq : ∀ q, k < q → q < out.length → waitsP out r q = false) : (openIdx out r).getLast? = some k := by
  obtain ⟨m, hm⟩ : ∃ m, out.length = (k + 1) + m := ⟨out.length - (k + 1), by omega⟩
  unfold openIdx
  rw [hm, List.range_add, List.filter_append]
  have : ((List.range m).map (fun x => k + 1 + x)).filter (waitsP out r) = [] := by
    rw [List.filter_eq_nil_iff]
    intro a ha
    obtain ⟨x, hx, rfl⟩ := List.mem_map.1 ha
    have := hq (k + 1 + x) (by omega) (by simp at hx; omega)
    simp [this]
  rw [this, List.append_nil, List.range_succ, List.filter_append]
  simp [hw]
theorem openIdx_none {out : List Sd} {r : List UInt8} (hq : ∀ q, q < out.length → waitsP out r q = false) : (openIdx out r).getLast? = none := by
  unfold openIdx
  rw [List.getLast?_eq_none_iff, List.filter_eq_nil_iff]
  intro a ha
  have := hq a (by simpa using ha)
  simp [this]
/-- The reference's search from behind. -/
def srch {A : Type} (l : List Ev) (out : List Sd) (i : Int) : Int → Option (Int ⊕ (Int ⊕ A)) := fun s_1 =>
  (andO (decide (0 ≤ s_1))
        ((getI out s_1).bind fun _ =>
          out[s_1.toNat]?.bind fun e =>
            (getI l i).bind fun e_1 =>
              (orO (!decide (e.fRef = e_1.fRef))
                    ((getI out s_1).bind fun _ =>
                      out[s_1.toNat]?.bind fun e => some (decide (0 ≤ e.fAnswer)))).bind
                fun v => some v)).bind
    fun v =>
    bif v then some (Sum.inl (IntKind.i64.wrap (s_1 - 1)))
    else inrO (some (Sum.inl s_1))
theorem search_eq {A : Type} (l : List Ev) (out : List Sd) (i : Nat) (e : Ev) (he : l[i]? = some e) (hn : out.length ≤ 3000) :
    ∃ x : Int, loopC (srch (A := A) l out (i : Int)) (IntKind.i64.wrap ((out.length : Int) - 1)) = some (.inl x) ∧
      ((x = -1 ∧ (openIdx out e.fRef).getLast? = none) ∨ ∃ k : Nat, x = k ∧ (openIdx out e.fRef).getLast? = some k) := by
  generalize hf : srch (A := A) l out (i : Int) = f
  obtain ⟨a, ha, hp⟩ := loopC_inv (f := f) (fun x => ∃ j : Nat, x = (j : Int) - 1 ∧ j ≤ out.length ∧ ∀ q, j ≤ q → q < out.length → waitsP out e.fRef q = false) (fun x => (x + 1).toNat)
    (fun o => match o with | .inl x => ((x = -1 ∧ (openIdx out e.fRef).getLast? = none) ∨ ∃ k : Nat, x = k ∧ (openIdx out e.fRef).getLast? = some k) | .inr _ => False) (s := IntKind.i64.wrap ((out.length : Int) - 1)) (by
      rintro _ ⟨j, rfl, hj, hq⟩
      subst hf
      unfold srch
      cases j with
      | zero =>
        refine .inr ⟨.inl (-1), ?_, .inl ⟨rfl, openIdx_none fun q hq' => hq q (by omega) hq'⟩⟩
        simp [andO, inrO]
      | succ j =>
        have e1 : ((j + 1 : Nat) : Int) - 1 = (j : Int) := by omega
        obtain ⟨s, hs⟩ : ∃ s, out[j]? = some s := ⟨_, List.getElem?_eq_getElem (by omega)⟩
        have h0 : decide (0 ≤ (j : Int)) = true := by simp
        simp only [e1, h0, getI_nat, Int.toNat_natCast, hs, he, Option.bind_some, orO_some, andO_some, Bool.true_and]
        have hwd : waitsP out e.fRef j = (decide (s.fRef = e.fRef) && decide (s.fAnswer < 0)) := by simp only [waitsP, hs]
        cases hw : waitsP out e.fRef j with
        | false =>
          refine .inl ⟨(j : Int) - 1, ?_, ⟨j, rfl, by omega, fun q h1 h2 => ?_⟩, by omega⟩
          · have : (!decide (s.fRef = e.fRef) || decide (0 ≤ s.fAnswer)) = true := by
              rw [hw] at hwd
              by_cases hr : s.fRef = e.fRef
              · simp [hr] at hwd ⊢; omega
              · simp [hr]
            rw [this, wrap64 _ (by omega) (by omega)]; rfl
          · by_cases hqj : q = j
            · subst hqj; exact hw
            · exact hq q (by omega) h2
        | true =>
          refine .inr ⟨.inl (j : Int), ?_, .inr ⟨j, rfl, openIdx_last (by omega) hw fun q h1 h2 => hq q (by omega) h2⟩⟩
          have : (!decide (s.fRef = e.fRef) || decide (0 ≤ s.fAnswer)) = false := by
            rw [hw] at hwd; simp at hwd; simp [hwd.1]; omega
          rw [this]; rfl) ⟨out.length, by rw [wrap64 _ (by omega) (by omega)], by omega, by omega⟩
  cases a with
  | inl x => exact ⟨x, ha, hp⟩
  | inr y => exact hp.elim
theorem bookR_eq (l : List Ev) (h0 : l.length ≤ 3000) (ht : ∀ e ∈ l, e.fTime ≤ 1000000000000000) : m_interchangeref7_book l 1000000000000000 = some (bookS l) := by
  unfold m_interchangeref7_book sims_G1_0_0; dsimp only
  generalize hf : (fun s : List Sd × List Int × Int => _) = f
  obtain ⟨a, ha, hp⟩ := loopC_inv (f := f) (fun s => ∃ k : Nat, s.2.2 = k ∧ k ≤ l.length ∧ s.1 = (bkAt l k).1 ∧ s.2.1 = (bkAt l k).2) (fun s => (l.length - s.2.2).toNat)
    (fun o => match o with | .inl s => s.1 = (bookS l).1 ∧ s.2.1 = (bookS l).2 | .inr _ => False) (s := ([], [], 0)) (by
      rintro ⟨out, left, i⟩ ⟨k, hk, hkl, h1, h2⟩
      simp only at hk h1 h2
      subst hk
      subst hf
      dsimp only
      obtain ⟨hlen1, hlen2⟩ := bkAt_len l k
      rw [← h1] at hlen1
      rw [← h2] at hlen2
      by_cases hlt : k < l.length
      · obtain ⟨e, he⟩ : ∃ e, l[k]? = some e := ⟨_, List.getElem?_eq_getElem hlt⟩
        have hte := ht e (List.mem_of_getElem? he)
        have hd : decide ((k : Int) < l.length) = true := by simpa using hlt
        have hd2 : decide (1000000000000000 < e.fTime) = false := by simp; omega
        have hb : bkAt l (k + 1) = bstep (out, left) k e := by simp only [bkAt, he, h1, h2]
        by_cases hkind : e.fKind = 1
        · refine .inl ⟨(out ++ [newS e], left, ((k + 1 : Nat) : Int)), ?_, ⟨k + 1, rfl, hlt, by simp [hb, bstep, hkind], by simp [hb, bstep, hkind]⟩, by simp; omega⟩
          simp only [hd, cond_true, getI_nat, he, Option.bind_some, wrapN k (by omega), hd2, cond_false, hkind, decide_true]
          rw [thenO_some (lenO_ok (by omega))]; rfl
        · have hkd : decide (e.fKind = 1) = false := by simpa using hkind
          obtain ⟨x, hx, hxx⟩ := search_eq (A := List Sd × List Int × Int ⊕ List Sd × List Int × Int ⊕ List Sd × List Int) l out k e he (by omega)
          unfold srch at hx
          simp only [hd, cond_true, getI_nat, he, Option.bind_some, wrapN k (by omega), hd2, cond_false, hkd]
          simp only [getI_nat, he, Option.bind_some] at hx
          rw [hx]
          simp only [Option.bind_some, outK]
          rcases hxx with ⟨rfl, hlast⟩ | ⟨q, rfl, hlast⟩
          · refine .inl ⟨(out, left ++ [(k : Int)], ((k + 1 : Nat) : Int)), ?_, ⟨k + 1, rfl, hlt, by simp [hb, bstep, hkind, hlast], by simp [hb, bstep, hkind, hlast]⟩, by simp; omega⟩
            simp only [show decide ((-1 : Int) < 0) = true by decide, cond_true, List.length_singleton]
            rw [thenO_some (lenO_ok (by omega))]
          · obtain ⟨hq, hqw⟩ := openIdx_lt (List.mem_of_getLast? hlast)
            obtain ⟨s, hs⟩ : ∃ s, out[q]? = some s := ⟨_, List.getElem?_eq_getElem hq⟩
            refine .inl ⟨(out.set q (ansS e s), left, ((k + 1 : Nat) : Int)), ?_, ⟨k + 1, rfl, hlt, by simp [hb, bstep, hkind, hlast, hs], by simp [hb, bstep, hkind, hlast]⟩, by simp; omega⟩
            have hd3 : decide ((q : Int) < 0) = false := by simp
            simp only [hd3, cond_false, Int.toNat_natCast, getI_nat, hs, Option.bind_some, List.getElem?_set_self hq, List.set_set]; rfl
      · have hd : decide ((k : Int) < l.length) = false := by simpa using hlt
        have : k = l.length := by omega
        subst this
        refine .inr ⟨.inl (out, left, (l.length : Int)), ?_, h1, h2⟩
        simp only [hd, cond_false]; rfl) ⟨0, rfl, by omega, rfl, rfl⟩
  rw [ha]
  cases a with
  | inl s => simp only [Option.bind_some, outK]; rw [hp.1, hp.2]
  | inr b => exact hp.elim

/-! ### Equal lists -/
theorem equalS_refl (l : List Sd) (hl : l.length ≤ 9223372036854775807) : m_slices_Equal_interchange_api_Sending_interchange_api_Sending l l = some true := by
  unfold m_slices_Equal_interchange_api_Sending_interchange_api_Sending sims_G1_0_0; dsimp only
  simp only [decide_true, Bool.not_true, cond_false]
  refine bind_loop (loop_trace (a := .inl (l.length : Int)) (fun i : Nat => (i : Int)) l.length (fun i hi => ?_) ?_) rfl
  · obtain ⟨e, he⟩ := get_lt hi
    simp only [lt_dec hi, cond_true, getI_nat, he, Option.bind_some, decide_true, Bool.and_self, Bool.not_true, cond_false, wrapN i (by omega)]
  · simp only [lt_dec_self, cond_false]; rfl
theorem equalI_refl (l : List Int) (hl : l.length ≤ 9223372036854775807) : m_slices_Equal_int_int l l = some true := by
  unfold m_slices_Equal_int_int sims_G1_0_0; dsimp only
  simp only [decide_true, Bool.not_true, cond_false]
  refine bind_loop (loop_trace (a := .inl (l.length : Int)) (fun i : Nat => (i : Int)) l.length (fun i hi => ?_) ?_) rfl
  · obtain ⟨e, he⟩ := get_lt hi
    simp only [lt_dec hi, cond_true, getI_nat, he, Option.bind_some, decide_true, Bool.and_self, Bool.not_true, cond_false, wrapN i (by omega)]
  · simp only [lt_dec_self, cond_false]; rfl
/-! ### The books -/
theorem evFault_time {e : Ev} (h : evFault e = 0) : 0 ≤ e.fTime ∧ e.fTime ≤ 1000000000000000 := by
  unfold evFault at h
  split at h
  · omega
  · split at h
    · omega
    · rename_i _ hm; simp [isMoment, outside] at hm; omega
theorem faultAt_ev {l : List Ev} (h : ∀ j, j < l.length → faultAt l j = 0) : ∀ e ∈ l, evFault e = 0 := by
  intro e he
  obtain ⟨i, hi, rfl⟩ := List.mem_iff_getElem.1 he
  have := h i hi
  simp only [faultAt, List.getElem?_eq_getElem hi] at this
  split at this
  · rename_i h1; exact absurd this h1
  · rename_i h1; simpa using h1
def bookRes (l : List Ev) : List Sd × List Int × Int := if bookFault l = 0 then ((bookS l).1, (bookS l).2, 0) else ([], [], bookFault l)
theorem Book_eq (l : List Ev) (hl : Short l) : m_reply_Book l = some (bookRes l) := by
  unfold m_reply_Book sims_G1_4_0; dsimp only
  simp only [checkBook_eq l hl, Option.bind_some]
  by_cases h : bookFault l = 0
  · obtain ⟨h1, h2⟩ := bookFault_zero h
    simp [h, bookRes, book_eq l h1 fun e he => (evFault_time (faultAt_ev h2 e he)).1]
  · simp [h, bookRes]
theorem BookR_eq (l : List Ev) (hl : Short l) : m_interchangeref7_Book l = some (bookRes l) := by
  unfold m_interchangeref7_Book sims_G1_4_0; dsimp only
  simp only [checkBookR_eq l hl, Option.bind_some]
  by_cases h : bookFault l = 0
  · obtain ⟨h1, h2⟩ := bookFault_zero h
    simp [h, bookRes, bookR_eq l h1 fun e he => (evFault_time (faultAt_ev h2 e he)).2]
  · simp [h, bookRes]
theorem bookRes_len (l : List Ev) : (bookRes l).1.length ≤ 3000 ∧ (bookRes l).2.1.length ≤ 3000 := by
  unfold bookRes
  split
  · rename_i h
    obtain ⟨h1, _⟩ := bookFault_zero h
    have := bkAt_len l l.length
    unfold bookS; simp only; omega
  · simp
end Go.Proofs.YtmbbbiocjehncaaDoor

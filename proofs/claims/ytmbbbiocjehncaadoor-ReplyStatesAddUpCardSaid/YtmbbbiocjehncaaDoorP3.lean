/-
  Plain laws: the sendings of a book, as the program and as the reference find them.
-/
import Derived.Test.YtmbbbiocjehncaaDoorP2
namespace Go.Proofs.YtmbbbiocjehncaaDoor
set_option linter.unusedSimpArgs false
set_option linter.unusedVariables false
open Go.RowKit

def newS (e : Ev) : Sd := ⟨e.fRef, e.fTime, e.fDue, -1, 0⟩
def ansS (e : Ev) (s : Sd) : Sd := ⟨s.fRef, s.fTime, s.fDue, e.fTime, e.fVerdict⟩
/-- Is sending k one of this reference that waits? -/
def waitsP (out : List Sd) (r : List UInt8) (k : Nat) : Bool := match out[k]? with
  | some s => decide (s.fRef = r) && decide (s.fAnswer < 0)
  | none => false
def openIdx (out : List Sd) (r : List UInt8) : List Nat := (List.range out.length).filter (waitsP out r)
def bstep (st : List Sd × List Int) (i : Nat) (e : Ev) : List Sd × List Int :=
  if e.fKind = 1 then (st.1 ++ [newS e], st.2) else
  match (openIdx st.1 e.fRef).getLast? with
  | none => (st.1, st.2 ++ [(i : Int)])
  | some k => (match st.1[k]? with | some s => st.1.set k (ansS e s) | none => st.1, st.2)
def bkAt (l : List Ev) : Nat → List Sd × List Int
  | 0 => ([], [])
  | n + 1 => match l[n]? with | some e => bstep (bkAt l n) n e | none => bkAt l n
def bookS (l : List Ev) : List Sd × List Int := bkAt l l.length

theorem openIdx_lt {out : List Sd} {r : List UInt8} {k : Nat} (h : k ∈ openIdx out r) : k < out.length ∧ waitsP out r k = true := by
  unfold openIdx at h
  rw [List.mem_filter] at h
  exact ⟨by simpa using h.1, h.2⟩
theorem openIdx_new (out : List Sd) (e : Ev) (r : List UInt8) : openIdx (out ++ [newS e]) r = if e.fRef = r then openIdx out r ++ [out.length] else openIdx out r := by
  unfold openIdx
  rw [List.length_append, List.length_singleton, List.range_succ, List.filter_append]
  have h1 : (List.range out.length).filter (waitsP (out ++ [newS e]) r) = (List.range out.length).filter (waitsP out r) := by
    apply List.filter_congr
    intro k hk
    have : k < out.length := by simpa using hk
    simp only [waitsP, List.getElem?_append_left this]
  rw [h1]
  have h2 : waitsP (out ++ [newS e]) r out.length = decide (e.fRef = r) := by
    simp [waitsP, newS]
  by_cases h : e.fRef = r
  · simp [h2, h]
  · simp [h2, h]
theorem filter_last {p : Nat → Bool} {n k : Nat} (h : ((List.range n).filter p).getLast? = some k) : (List.range n).filter (fun j => p j && decide (j ≠ k)) = ((List.range n).filter p).dropLast := by
  have hn : ((List.range n).filter p).Nodup := (List.nodup_range).filter _
  obtain ⟨L, hL⟩ := List.getLast?_eq_some_iff.1 h
  rw [List.filter_congr (q := fun j => decide (j ≠ k) && p j) (fun j _ => Bool.and_comm _ _), ← List.filter_filter, hL, List.dropLast_concat]
  rw [hL, List.nodup_append] at hn
  rw [List.filter_append]
  have : L.filter (fun j => decide (j ≠ k)) = L := by
    rw [List.filter_eq_self]
    intro a ha
    have := hn.2.2 a ha k (by simp)
    simpa using this
  rw [this]; simp
theorem openIdx_ans {out : List Sd} {e : Ev} {k : Nat} {s : Sd} (ht : 0 ≤ e.fTime) (hk : (openIdx out e.fRef).getLast? = some k) (hs : out[k]? = some s) (r : List UInt8) :
    openIdx (out.set k (ansS e s)) r = if e.fRef = r then (openIdx out r).dropLast else openIdx out r := by
  have hmem : k ∈ openIdx out e.fRef := List.mem_of_getLast? hk
  obtain ⟨hlt, hw⟩ := openIdx_lt hmem
  have hsr : s.fRef = e.fRef := by simp [waitsP, hs] at hw; exact hw.1
  have h1 : ∀ j, waitsP (out.set k (ansS e s)) r j = (waitsP out r j && decide (j ≠ k)) := by
    intro j
    by_cases hj : j = k
    · subst hj
      simp [waitsP, List.getElem?_set_self hlt, ansS]
      intro _; omega
    · have : (out.set k (ansS e s))[j]? = out[j]? := by rw [List.getElem?_set_ne (Ne.symm hj)]
      simp only [waitsP, this]; simp [hj]
  unfold openIdx at *
  rw [List.length_set, List.filter_congr (fun j _ => h1 j)]
  by_cases h : e.fRef = r
  · subst h; simp only [if_true]; exact filter_last hk
  · simp only [h, if_false]
    apply List.filter_congr
    intro j _
    by_cases hj : j = k
    · subst hj
      have : waitsP out r j = false := by simp only [waitsP, hs, hsr, h, decide_false, Bool.false_and]
      simp [this]
    · simp [hj]

/-! ### The program's book -/
theorem getM_put {V : Type} (k : List UInt8) (v : V) (k' : List UInt8) : ∀ (W : List (List UInt8 × V)), getM (putM W k v) k' = if k' = k then some v else getM W k'
  | [] => by simp [putM, getM]
  | p :: W => by
    simp only [putM]
    by_cases h : k = p.1
    · simp only [h, if_true, getM]
      by_cases h' : k' = p.1 <;> simp [h']
    · simp only [h, if_false, getM, getM_put k v k' W]
      by_cases h' : k' = p.1
      · simp [h', Ne.symm h]
      · simp [h']
def wOk (W : List (List UInt8 × List Int)) (out : List Sd) : Prop := ∀ r, (getM W r).getD [] = (openIdx out r).map (fun k : Nat => (k : Int))
theorem bkAt_len (l : List Ev) : ∀ n, (bkAt l n).1.length ≤ n ∧ (bkAt l n).2.length ≤ n
  | 0 => by simp [bkAt]
  | n + 1 => by
    have ih := bkAt_len l n
    simp only [bkAt]
    split
    · rename_i e _
      unfold bstep
      split
      · simp; omega
      · split
        · simp; omega
        · refine ⟨?_, by simp only; omega⟩
          simp only; split
          · simp only [List.length_set]; omega
          · omega
    · omega
theorem openIdx_len (out : List Sd) (r : List UInt8) : (openIdx out r).length ≤ out.length := by
  unfold openIdx; exact Nat.le_trans (List.length_filter_le _ _) (by simp)
theorem sliceI_last (w : List Int) (h : w ≠ []) (hw : w.length ≤ 9223372036854775807) : sliceI w 0 (IntKind.i64.wrap ((w.length : Int) - 1)) = some w.dropLast := by
  have : 0 < w.length := List.length_pos_iff.2 h
  rw [wrap64 _ (by omega) (by omega)]
  unfold sliceI
  rw [if_pos (by omega)]
  simp only [Int.toNat_zero, List.drop_zero, List.dropLast_eq_take]
  congr 2; omega
theorem getI_last (w : List Int) (h : w ≠ []) (hw : w.length ≤ 9223372036854775807) : IntKind.i64.wrap ((w.length : Int) - 1) = ((w.length - 1 : Nat) : Int) := by
  have : 0 < w.length := List.length_pos_iff.2 h
  rw [wrap64 _ (by omega) (by omega)]; omega
theorem book_eq (l : List Ev) (h0 : l.length ≤ 3000) (ht : ∀ e ∈ l, 0 ≤ e.fTime) : m_reply_book l = some (bookS l) := by
  unfold m_reply_book sims_G1_0_0; dsimp only
  generalize hf : (fun s : List Sd × List Int × List (List UInt8 × List Int) × Int => _) = f
  obtain ⟨a, ha, hp⟩ := loopC_inv (f := f) (fun s => ∃ k : Nat, s.2.2.2 = k ∧ k ≤ l.length ∧ s.1 = (bkAt l k).1 ∧ s.2.1 = (bkAt l k).2 ∧ wOk s.2.2.1 s.1) (fun s => (l.length - s.2.2.2).toNat)
    (fun o => match o with | .inl s => s.1 = (bookS l).1 ∧ s.2.1 = (bookS l).2 | .inr _ => False) (s := ([], [], [], 0)) (by
      rintro ⟨out, left, W, i⟩ ⟨k, hk, hkl, h1, h2, hw⟩
      simp only at hk h1 h2 hw
      subst hk
      subst hf
      dsimp only
      obtain ⟨hlen1, hlen2⟩ := bkAt_len l k
      rw [← h1] at hlen1
      rw [← h2] at hlen2
      by_cases hlt : k < l.length
      · obtain ⟨e, he⟩ : ∃ e, l[k]? = some e := ⟨_, List.getElem?_eq_getElem hlt⟩
        have hte := ht e (List.mem_of_getElem? he)
        have hd : decide ((k : Int) < l.length) = true := by simpa using hlt
        have hb : bkAt l (k + 1) = bstep (out, left) k e := by simp only [bkAt, he, h1, h2]
        have hwr := hw e.fRef
        have hol := openIdx_len out e.fRef
        simp only [hd, cond_true, getI_nat, he, Option.bind_some, wrapN k (by omega)]
        by_cases hkind : e.fKind = 1
        · refine .inl ⟨(out ++ [newS e], left, putM W e.fRef ((getM W e.fRef).getD [] ++ [(out.length : Int)]), ((k + 1 : Nat) : Int)), ?_, ⟨k + 1, rfl, hlt, by simp [hb, bstep, hkind], by simp [hb, bstep, hkind], ?_⟩, by simp; omega⟩
          · cases hg : getM W e.fRef with
            | none =>
              simp only [hkind, decide_true, cond_true, optO, List.length_singleton, Option.getD_none, List.nil_append]
              rw [thenO_some (lenO_ok (by omega)), thenO_some (lenO_ok (by omega))]; rfl
            | some w =>
              rw [hg] at hwr
              have : w.length ≤ out.length := by simp only [Option.getD_some] at hwr; rw [hwr]; simpa using hol
              simp only [hkind, decide_true, cond_true, optO, List.length_singleton, Option.getD_some]
              rw [thenO_some (lenO_ok (by omega)), thenO_some (lenO_ok (by omega))]; rfl
          · intro r
            simp only [getM_put, openIdx_new]
            by_cases hr : r = e.fRef
            · subst hr; simp only [if_true, Option.getD_some, hwr, List.map_append, List.map_cons, List.map_nil]
            · simp only [hr, Ne.symm hr, if_false]; exact hw r
        · have hkd : decide (e.fKind = 1) = false := by simpa using hkind
          simp only [hkd, cond_false]
          cases hlast : (openIdx out e.fRef).getLast? with
          | none =>
            have hemp : openIdx out e.fRef = [] := List.getLast?_eq_none_iff.1 hlast
            rw [hemp] at hwr
            have hbb : bstep (out, left) k e = (out, left ++ [(k : Int)]) := by simp [bstep, hkind, hlast]
            cases hg : getM W e.fRef with
            | none =>
              refine .inl ⟨(out, left ++ [(k : Int)], W, ((k + 1 : Nat) : Int)), ?_, ⟨k + 1, rfl, hlt, by rw [hb, hbb], by rw [hb, hbb], hw⟩, by simp; omega⟩
              simp only [optO, List.length_singleton]
              rw [thenO_some (lenO_ok (by omega))]
            | some w =>
              rw [hg] at hwr
              simp at hwr
              subst hwr
              refine .inl ⟨(out, left ++ [(k : Int)], putM W e.fRef [], ((k + 1 : Nat) : Int)), ?_, ⟨k + 1, rfl, hlt, by rw [hb, hbb], by rw [hb, hbb], ?_⟩, by simp; omega⟩
              · simp only [optO, List.length_nil, List.length_singleton]
                rw [thenO_some (lenO_ok (by omega))]; rfl
              · intro r
                simp only [getM_put]
                by_cases hr : r = e.fRef
                · subst hr; simp [hemp]
                · simp only [hr, if_false]; exact hw r
          | some q =>
            obtain ⟨L, hL⟩ := List.getLast?_eq_some_iff.1 hlast
            obtain ⟨hq, hqw⟩ := openIdx_lt (List.mem_of_getLast? hlast)
            obtain ⟨s, hs⟩ : ∃ s, out[q]? = some s := ⟨_, List.getElem?_eq_getElem hq⟩
            have hbb : bstep (out, left) k e = (out.set q (ansS e s), left) := by simp [bstep, hkind, hlast, hs]
            rw [hL, List.map_append] at hwr
            obtain ⟨w, hg⟩ : ∃ w, getM W e.fRef = some w := by
              cases hg : getM W e.fRef with
              | none => rw [hg] at hwr; simp at hwr
              | some w => exact ⟨w, rfl⟩
            rw [hg] at hwr
            simp only [Option.getD_some, List.map_cons, List.map_nil] at hwr
            have hne : w ≠ [] := by rw [hwr]; simp
            have hwl : w.length ≤ 3000 := by
              rw [hwr]; rw [hL] at hol; simp at hol ⊢; omega
            have hwd : w.dropLast = L.map (fun k : Nat => (k : Int)) := by rw [hwr, List.dropLast_concat]
            have hlastw : w[w.length - 1]? = some (q : Int) := by rw [hwr]; simp
            have hnz : decide ((w.length : Int) = 0) = false := by
              have : 0 < w.length := List.length_pos_iff.2 hne
              simp; omega
            refine .inl ⟨(out.set q (ansS e s), left, putM W e.fRef w.dropLast, ((k + 1 : Nat) : Int)), ?_, ⟨k + 1, rfl, hlt, by rw [hb, hbb], by rw [hb, hbb], ?_⟩, by simp; omega⟩
            · simp only [hg, optO, hnz, cond_false, getI_last w hne (by omega), getI_nat, Int.toNat_natCast, hlastw, Option.bind_some, hs, List.getElem?_set_self hq]
              have hsl := sliceI_last w hne (by omega)
              rw [getI_last w hne (by omega)] at hsl
              simp only [hsl, Option.bind_some, List.set_set]; rfl
            · intro r
              simp only [getM_put, openIdx_ans hte hlast hs]
              by_cases hr : r = e.fRef
              · subst hr; simp only [if_true, Option.getD_some, hwd, hL, List.dropLast_concat]
              · simp only [hr, Ne.symm hr, if_false]; exact hw r
      · have hd : decide ((k : Int) < l.length) = false := by simpa using hlt
        have : k = l.length := by omega
        subst this
        refine .inr ⟨.inl (out, left, W, (l.length : Int)), ?_, h1, h2⟩
        simp only [hd, cond_false]; rfl) ⟨0, rfl, by omega, rfl, rfl, fun r => by simp [getM, openIdx]⟩
  rw [ha]
  cases a with
  | inl s => simp only [Option.bind_some, outK]; rw [hp.1, hp.2]
  | inr b => exact hp.elim
end Go.Proofs.YtmbbbiocjehncaaDoor

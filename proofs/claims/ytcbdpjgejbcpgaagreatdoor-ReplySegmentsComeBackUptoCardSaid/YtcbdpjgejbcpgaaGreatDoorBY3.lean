/-
  Texts of mine, one behind the other (SYRP7, SYRS1, SYRS2, SYRS3, SYRP9a, SYRS4, SYUS).
-/
import Derived.Test.YtcbdpjgejbcpgaaGreatDoorBY2
import Derived.Lib.ItoaLen
/-
  Plain laws of replies: Read of the program.
-/
namespace Go.Proofs.YtcbdpjgejbcpgaaGreatDoor
set_option linter.unusedSimpArgs false
set_option linter.unusedVariables false
open Go.RowKit

theorem stepR_T (r : Rp) (s : Sg) : stepR true r s = stepI s := by unfold stepR; rw [if_pos rfl]
theorem stepR_G {r : Rp} {s : Sg} (h : s.fTag = [65, 75, 71]) : stepR false r s = stepG r s := by unfold stepR; rw [if_neg (by decide), if_pos h]
theorem stepR_M {r : Rp} {s : Sg} (h : s.fTag = [65, 75, 77]) : stepR false r s = stepM r s := by unfold stepR; rw [if_neg (by decide), if_neg (by rw [h]; decide), if_pos h]
theorem stepR_F {r : Rp} {s : Sg} (h : s.fTag = [65, 75, 70]) : stepR false r s = stepF r s := by unfold stepR; rw [if_neg (by decide), if_neg (by rw [h]; decide), if_neg (by rw [h]; decide), if_pos h]
theorem stepR_L {r : Rp} {s : Sg} (h : s.fTag = [65, 75, 82]) : stepR false r s = stepL r s := by unfold stepR; rw [if_neg (by decide), if_neg (by rw [h]; decide), if_neg (by rw [h]; decide), if_neg (by rw [h]; decide), if_pos h]
theorem stepR_N {r : Rp} {s : Sg} (h1 : s.fTag ≠ [65, 75, 71]) (h2 : s.fTag ≠ [65, 75, 77]) (h3 : s.fTag ≠ [65, 75, 70]) (h4 : s.fTag ≠ [65, 75, 82]) : stepR false r s = none := by unfold stepR; rw [if_neg (by decide), if_neg h1, if_neg h2, if_neg h3, if_neg h4]
/-- What holds of all texts, verdicts and flaws of a reply. -/
def RpTx (T : Txt → Prop) (V : Int → Prop) (F : Fl → Prop) (r : Rp) : Prop := (T r.fRef ∧ V r.fVerdict) ∧ ∀ g ∈ r.fGroups, (T g.fRef ∧ V g.fVerdict) ∧ ∀ m ∈ g.fMessages, (T m.fRef ∧ V m.fVerdict) ∧ (∀ f ∈ m.fFlaws, F f) ∧ ∀ t ∈ m.fFailing, T t
theorem headF_in {b : Bool} {es : List Tapi_Element} {h : Txt × Int × Bool} (hh : headF b es = some h) : ∃ ts x, mapO one1 es = some ts ∧ h.1 ∈ ts ∧ numOk x = true ∧ h.2.1 = numV x := by
  unfold headF at hh
  split at hh
  · rename_i a c hm
    split at hh
    · rename_i hn
      cases hh
      exact ⟨[a, c], c, hm, by simp, hn, rfl⟩
    · cases hh
  · rename_i a c d hm
    split at hh
    · rename_i hn
      cases hh
      exact ⟨[a, c, d], c, hm, by simp, hn.2.2, rfl⟩
    · cases hh
  · cases hh
theorem RpTx.put {T : Txt → Prop} {V : Int → Prop} {F : Fl → Prop} {r r' : Rp} {f : Mr → Option Mr} (h : RpTx T V F r) (hp : rpPut r f = some r')
    (hf : ∀ m m', f m = some m' → ((T m.fRef ∧ V m.fVerdict) ∧ (∀ f ∈ m.fFlaws, F f) ∧ ∀ t ∈ m.fFailing, T t) → ((T m'.fRef ∧ V m'.fVerdict) ∧ (∀ f ∈ m'.fFlaws, F f) ∧ ∀ t ∈ m'.fFailing, T t)) : RpTx T V F r' := by
  obtain ⟨gp, gR, gV, mp, m, m', h1, h2, rfl⟩ := rpPut_some hp
  obtain ⟨h4, h5⟩ := h
  rw [h1] at h5
  refine ⟨h4, fun g hg => ?_⟩
  rcases List.mem_append.1 hg with hg | hg
  · exact h5 g (List.mem_append_left _ hg)
  · rw [List.mem_singleton] at hg
    subst hg
    obtain ⟨h6, h7⟩ := h5 ⟨gR, gV, mp ++ [m]⟩ (by simp)
    refine ⟨h6, fun x hx => ?_⟩
    simp only at hx h7
    rcases List.mem_append.1 hx with hx | hx
    · exact h7 x (List.mem_append_left _ hx)
    · rw [List.mem_singleton] at hx
      subst hx
      exact hf m _ h2 (h7 m (by simp))
theorem RpTx.step {T : Txt → Prop} {V : Int → Prop} {F : Fl → Prop} {r r' : Rp} {s : Sg} {b : Bool} (h : RpTx T V F r) (hs : stepR b r s = some r')
    (hT : ∀ ts, mapO one1 s.fElements = some ts → ∀ t ∈ ts, T t) (hV : ∀ x, numOk x = true → V (numV x)) (hF : ∀ f, (mapO oneP s.fElements).bind flawL = some f → F f) : RpTx T V F r' := by
  have hH : ∀ {b : Bool} {q : Txt × Int × Bool}, headF b s.fElements = some q → T q.1 ∧ V q.2.1 := fun hq => by
    obtain ⟨ts, x, h1, h2, h3, h4⟩ := headF_in hq
    exact ⟨hT ts h1 _ h2, h4 ▸ hV x h3⟩
  unfold stepR at hs
  split at hs
  · unfold stepI at hs
    split at hs
    · obtain ⟨q, hq, rfl⟩ := Option.map_eq_some_iff.1 hs
      exact ⟨hH hq, by simp⟩
    · cases hs
  split at hs
  · unfold stepG at hs
    obtain ⟨q, hq, rfl⟩ := Option.map_eq_some_iff.1 hs
    refine ⟨h.1, fun g hg => ?_⟩
    rcases List.mem_append.1 hg with hg | hg
    · exact h.2 g hg
    · rw [List.mem_singleton] at hg
      subst hg
      exact ⟨hH hq, by simp⟩
  split at hs
  · unfold stepM at hs
    obtain ⟨q, hq, hs⟩ := Option.bind_eq_some_iff.1 hs
    obtain ⟨gs, hgs, rfl⟩ := Option.map_eq_some_iff.1 hs
    obtain ⟨gp, g0, g', h1, h2, rfl⟩ := lastO_some hgs
    cases h2
    obtain ⟨h4, h5⟩ := h
    rw [h1] at h5
    refine ⟨h4, fun g hg => ?_⟩
    rcases List.mem_append.1 hg with hg | hg
    · exact h5 g (List.mem_append_left _ hg)
    · rw [List.mem_singleton] at hg
      subst hg
      obtain ⟨h6, h7⟩ := h5 g0 (by simp)
      refine ⟨h6, fun x hx => ?_⟩
      rcases List.mem_append.1 hx with hx | hx
      · exact h7 x hx
      · rw [List.mem_singleton] at hx
        subst hx; exact ⟨hH hq, by simp, by simp⟩
  split at hs
  · unfold stepF at hs
    obtain ⟨q, hq, hs⟩ := Option.bind_eq_some_iff.1 hs
    refine h.put hs fun m m' hm h8 => ?_
    split at hm
    · cases hm
      refine ⟨h8.1, fun f hf => ?_, h8.2.2⟩
      rcases List.mem_append.1 hf with hf | hf
      · exact h8.2.1 f hf
      · rw [List.mem_singleton] at hf; subst hf; exact hF _ hq
    · cases hm
  split at hs
  · unfold stepL at hs
    split at hs
    · rename_i t ht
      refine h.put hs fun m m' hm h8 => ?_
      cases hm
      refine ⟨h8.1, h8.2.1, fun f hf => ?_⟩
      rcases List.mem_append.1 hf with hf | hf
      · exact h8.2.2 f hf
      · rw [List.mem_singleton] at hf; subst hf; exact hT _ ht _ (by simp)
    · cases hs
  · cases hs
def ShortT (t : Txt) : Prop := t.length ≤ 1000
def fg : Nat → Bool
  | 0 => true
  | _ + 1 => false
theorem flaw_name {es : List Tapi_Element} (hok : ∀ e ∈ es, elemF e = 0) {f : Tapi_Flaw} (hf : (mapO oneP es).bind flawL = some f) : f.fName.length ≤ 1000 := by
  obtain ⟨l, hl, hf⟩ := Option.bind_eq_some_iff.1 hf
  have h1 := mapO_ok hok l hl
  unfold flawL at hf
  split at hf
  · rename_i p q r
    obtain ⟨k, _, hf⟩ := Option.bind_eq_some_iff.1 hf
    obtain ⟨g, _, hf⟩ := Option.bind_eq_some_iff.1 hf
    split at hf
    · unfold flawR at hf
      split at hf
      · cases hf; simp
      · obtain ⟨s, _, rfl⟩ := Option.map_eq_some_iff.1 hf; simp
      · obtain ⟨n, hn, hf⟩ := Option.bind_eq_some_iff.1 hf
        have hsh : n.length ≤ 1000 := (h1 [n] (by rw [← tx1_mem hn]; simp)).2.2 n (by simp)
        split at hf
        · cases hf
        · split at hf
          · cases hf; exact hsh
          · obtain ⟨s, _, rfl⟩ := Option.map_eq_some_iff.1 hf; exact hsh
      · cases hf
    · cases hf
  · cases hf
theorem rep_ok_of {n : Nat} {r : Rp} (h1 : RpLe n r) (h2 : RpTx ShortT (fun _ => True) (fun f => f.fName.length ≤ 1000) r) (hn : n ≤ 1048576) : RepOk r := by
  unfold ShortT at h2
  have mx : (1048576 : Nat) ≤ MX := by unfold MX; omega
  refine ⟨by have := h2.1.1; omega, by have := h1.1; omega, fun g hg => ?_⟩
  obtain ⟨h3, h4⟩ := h1.2 g hg
  obtain ⟨h5, h6⟩ := h2.2 g hg
  refine ⟨by have := h5.1; omega, by omega, fun m hm => ?_⟩
  obtain ⟨h7, h8⟩ := h4 m hm
  obtain ⟨h9, h10, h11⟩ := h6 m hm
  exact ⟨by have := h9.1; omega, by omega, fun f hf => by have := h10 f hf; omega, by omega, fun t ht => by have := h11 t ht; omega⟩
theorem FailsB.noM {b : Bool} {r : Rp} {gp : List Gr} {gR : Txt} {gV : Int} (h : r.fGroups = gp ++ [⟨gR, gV, []⟩]) : FailsB b r := by
  intro gp' gR' gV' mp m h2
  rw [h] at h2
  have := (snoc_inj h2).2
  injection this with _ _ h3
  simp at h3
theorem FailsB.noG {b : Bool} {r : Rp} (h : r.fGroups = []) : FailsB b r := by
  intro gp' gR' gV' mp m h2
  rw [h] at h2
  simp at h2
theorem FailsB.ofM {b : Bool} {r : Rp} {gp : List Gr} {gR : Txt} {gV : Int} {mp : List Mr} {m : Mr} (h : r.fGroups = gp ++ [⟨gR, gV, mp ++ [m]⟩]) (hb : b = !decide (m.fFailing = [])) : FailsB b r := by
  intro gp' gR' gV' mp' m' h2
  rw [h] at h2
  have := (snoc_inj h2).2
  injection this with _ _ h3
  rw [← (snoc_inj h3).2]
  exact hb
theorem rpPut_noG {r : Rp} (h : r.fGroups = []) (f : Mr → Option Mr) : rpPut r f = none := by unfold rpPut; rw [h, lastO_nil]; rfl
theorem rpPut_noM {r : Rp} {gp : List Gr} {gR : Txt} {gV : Int} (h : r.fGroups = gp ++ [⟨gR, gV, []⟩]) (f : Mr → Option Mr) : rpPut r f = none := by unfold rpPut; rw [h, lastO_snoc]; rfl
theorem stepR_none {r : Rp} {s : Sg} (h1 : s.fTag ≠ [65, 75, 71]) (h2 : s.fTag ≠ [65, 75, 77]) (h : ∀ f, rpPut r f = none) : stepR false r s = none := by
  unfold stepR
  rw [if_neg (by decide), if_neg h1, if_neg h2]
  split
  · unfold stepF
    simp only [h]
    cases (mapO oneP s.fElements).bind flawL <;> rfl
  split
  · unfold stepL
    split
    · exact h _
    · rfl
  · rfl
theorem p_Read (l : List Sg) (hs : TagsShort l) : m_reply_Read l = some (readF l) := by
  unfold m_reply_Read sims_GTW_3_0; dsimp only
  rw [w_segs l hs]
  simp only [Option.bind_some]
  unfold readF
  by_cases h0 : segsF l = 0
  case neg => simp only [h0, decide_false, Bool.not_false, cond_true, if_false]; rfl
  simp only [h0, decide_true, Bool.not_true, cond_false, if_true]
  obtain ⟨hl, hok⟩ := segs_in h0
  refine loop_to (X := Nat × Rp × Bool) (fun x => (x.2.1.fRef, x.2.1.fVerdict, x.2.1.fGroups, !fg x.1, x.2.2, zR, (x.1 : Int))) (fun x => l.length - x.1)
    (fun x => x.1 ≤ l.length ∧ (x.1 = 0 → x.2.1 = zR) ∧ (RpLe x.1 x.2.1 ∧ RpTx ShortT (fun _ => True) (fun f => f.fName.length ≤ 1000) x.2.1) ∧ FailsB x.2.2 x.2.1 ∧ runR l true zR 0 = runR (l.drop x.1) (fg x.1) x.2.1 x.1) ?_ (0, zR, false)
    ⟨Nat.zero_le _, fun _ => rfl, ⟨⟨Nat.zero_le _, by simp [zR]⟩, ⟨by simp [zR, ShortT], trivial⟩, by simp [zR]⟩, FailsB.noG rfl, rfl⟩
  rintro ⟨i, r, b⟩ ⟨h1, h2, ⟨h3, h4⟩, h5, h6⟩
  simp only at h1 h2 h3 h4 h5 h6 ⊢
  rcases Nat.lt_or_ge i l.length with hi | hi
  case inr =>
    have hli : i = l.length := by omega
    subst hli
    rw [List.drop_length] at h6
    refine .inr ⟨_, by simp only [lt_dec_self, cond_false]; rfl, ?_⟩
    rw [h6]
    simp only [runR, outK]
    cases l with
    | nil => rfl
    | cons a l' =>
      simp only [List.length_cons, fg, Bool.not_false, Bool.not_true, cond_false, rep_eq r (rep_ok_of h3 h4 (by omega)), Option.bind_some]
      by_cases hr : rpF r = 0 <;> simp [hr, zR]
  obtain ⟨e, he⟩ := get_lt hi
  have hd : l.drop i = e :: l.drop (i + 1) := by
    rw [List.drop_eq_getElem_cons hi]
    congr 1
    exact Option.some.inj ((List.getElem?_eq_getElem hi).symm.trans he)
  have hrun : runR l true zR 0 = match stepR (fg i) r e with | some r' => runR (l.drop (i + 1)) false r' (i + 1) | none => .inr i := by rw [h6, hd]; rfl
  obtain ⟨htag, hlen, hel⟩ := segF_iff.1 (hok e (List.mem_of_getElem? he))
  have good : ∀ r' b', stepR (fg i) r e = some r' → FailsB b' r' → (i + 1 ≤ l.length ∧ (i + 1 = 0 → r' = zR) ∧ (RpLe (i + 1) r' ∧ RpTx ShortT (fun _ => True) (fun f => f.fName.length ≤ 1000) r') ∧ FailsB b' r' ∧ runR l true zR 0 = runR (l.drop (i + 1)) (fg (i + 1)) r' (i + 1)) := fun r' b' hst hb =>
    ⟨hi, nofun, ⟨h3.step hst, h4.step hst (fun ts hts t ht => one1_short hel hts t ht) (fun _ _ => trivial) (fun f hf => flaw_name hel hf)⟩, hb, by rw [hrun, hst]; rfl⟩
  simp only [lt_dec hi, cond_true, getI_nat, he, Option.bind_some, Bool.not_not, wrapN i (by omega)]
  cases i with
  | zero =>
    have hr := h2 rfl
    subst hr
    simp only [fg, cond_true] at good hrun ⊢
    rw [stepR_T] at good hrun
    obtain ⟨z, hz, hz2⟩ := p_head e false (by omega) hel
    rw [hz]
    simp only [Option.bind_some]
    unfold stepI at good hrun
    cases hh : headF false e.fElements with
    | none =>
      rw [hh] at hz2 hrun
      simp only at hz2
      simp only [hz2, andO_some, Bool.false_and, Bool.not_false, cond_true]
      refine .inr ⟨_, rfl, ?_⟩
      rw [hrun]
      by_cases ht : e.fTag = [65, 75, 73] <;> simp [ht] <;> rfl
    | some h =>
      rw [hh] at hz2 hrun good
      simp only at hz2
      subst hz2
      by_cases ht : e.fTag = [65, 75, 73]
      · simp only [ht, decide_true, andO_some, Bool.and_self, Bool.not_true, cond_false, if_true, Option.map_some] at good ⊢
        exact .inl ⟨(1, ⟨h.1, h.2.1, []⟩, b), good _ b rfl (FailsB.noG rfl), by simp only; omega, rfl⟩
      · simp only [ht, decide_false, andO_some, Bool.and_false, Bool.not_false, cond_true, if_false] at hrun ⊢
        exact .inr ⟨_, rfl, by rw [hrun]; rfl⟩
  | succ i =>
    simp only [fg, cond_false] at good hrun ⊢
    by_cases hG : e.fTag = [65, 75, 71]
    · rw [stepR_G hG] at good hrun
      unfold stepG at good hrun
      simp only [hG, decide_true, cond_true]
      obtain ⟨z, hz, hz2⟩ := p_head e false (by omega) hel
      rw [hz]
      simp only [Option.bind_some]
      rw [thenO_ok (by have := h3.1; simp only [List.length_singleton]; omega)]
      cases hh : headF false e.fElements with
      | none =>
        rw [hh] at hz2 hrun
        simp only at hz2
        simp only [hz2, Bool.not_false, cond_true]
        exact .inr ⟨_, rfl, by rw [hrun]; rfl⟩
      | some h =>
        rw [hh] at hz2 hrun good
        simp only at hz2
        subst hz2
        simp only [Bool.not_true, cond_false]
        exact .inl ⟨(i + 1 + 1, ⟨r.fRef, r.fVerdict, r.fGroups ++ [⟨h.1, h.2.1, []⟩]⟩, b), good _ b rfl (FailsB.noM rfl), by simp only; omega, rfl⟩
    simp only [hG, decide_false, cond_false]
    by_cases hM : e.fTag = [65, 75, 77]
    · rw [stepR_M hM] at good hrun
      unfold stepM at good hrun
      simp only [hM, decide_true, cond_true]
      obtain ⟨z, hz, hz2⟩ := p_head e true (by omega) hel
      rw [hz]
      simp only [Option.bind_some]
      rcases snoc_cases r.fGroups with hg | ⟨gp, g, hg⟩
      · simp only [hg, lastO_nil] at hrun
        simp only [hg, show decide (((([] : List Gr)).length : Int) = 0) = true from rfl, cond_true]
        refine .inr ⟨_, rfl, ?_⟩
        rw [hrun]
        cases headF true e.fElements <;> rfl
      · have hgl := h3.1
        rw [hg, List.length_append, List.length_singleton] at hgl
        simp only [hg, lastO_snoc] at hrun good
        have hz0 : decide (((gp ++ [g]).length : Int) = 0) = false := decide_eq_false (by simp; omega)
        simp only [hg, hz0, cond_false, (getI_last gp g (by omega)).1, Option.bind_some, set_snoc gp g _ (by omega)]
        have hml := (h3.2 g (by rw [hg]; simp)).1
        rw [thenO_ok (by simp only [List.length_singleton]; omega)]
        cases hh : headF true e.fElements with
        | none =>
          rw [hh] at hz2 hrun
          simp only at hz2
          simp only [hz2, Bool.not_false, cond_true]
          exact .inr ⟨_, rfl, by rw [hrun]; rfl⟩
        | some h =>
          rw [hh] at hz2 hrun good
          simp only at hz2
          subst hz2
          simp only [Bool.not_true, cond_false]
          exact .inl ⟨(i + 1 + 1, ⟨r.fRef, r.fVerdict, gp ++ [⟨g.fRef, g.fVerdict, g.fMessages ++ [⟨h.1, h.2.1, h.2.2, [], []⟩]⟩]⟩, false), good _ false rfl (FailsB.ofM rfl rfl), by simp only; omega, rfl⟩
    simp only [hM, decide_false, cond_false]
    rcases snoc_cases r.fGroups with hg | ⟨gp, g, hg⟩
    · rw [stepR_none hG hM (rpPut_noG hg)] at hrun
      simp only [hg, show decide (((([] : List Gr)).length : Int) = 0) = true from rfl, cond_true]
      exact .inr ⟨_, rfl, by rw [hrun]; rfl⟩
    obtain ⟨gR, gV, gM⟩ := g
    have hgl := h3.1
    rw [hg, List.length_append, List.length_singleton] at hgl
    have hz0 : decide (((gp ++ [(⟨gR, gV, gM⟩ : Gr)]).length : Int) = 0) = false := decide_eq_false (by simp; omega)
    simp only [hg, hz0, cond_false, (getI_last gp (⟨gR, gV, gM⟩ : Gr) (by omega)).1, Option.bind_some, set_snoc gp (⟨gR, gV, gM⟩ : Gr) _ (by omega), orO_some, Bool.false_or]
    have hml := (h3.2 ⟨gR, gV, gM⟩ (by rw [hg]; simp)).1
    simp only at hml
    rcases snoc_cases gM with rfl | ⟨mp, m, rfl⟩
    · rw [stepR_none hG hM (rpPut_noM hg)] at hrun
      simp only [show decide (((([] : List Mr)).length : Int) = 0) = true from rfl, cond_true]
      exact .inr ⟨_, rfl, by rw [hrun]; rfl⟩
    rw [List.length_append, List.length_singleton] at hml
    have hz1 : decide (((mp ++ [m]).length : Int) = 0) = false := decide_eq_false (by simp; omega)
    simp only [hz1, cond_false, (getI_last mp m (by omega)).1, Option.bind_some, set_snoc mp m _ (by omega)]
    have hfl := (h3.2 ⟨gR, gV, mp ++ [m]⟩ (by rw [hg]; simp)).2 m (by simp)
    have hb := h5 gp gR gV mp m hg
    by_cases hF : e.fTag = [65, 75, 70]
    · rw [stepR_F hF] at good hrun
      unfold stepF at good hrun
      simp only [rpPut_snoc r gp gR gV mp m _ hg] at good hrun
      simp only [hF, decide_true, cond_true]
      obtain ⟨z, hz, hz2⟩ := p_flawOf e (by omega) hel
      rw [hz]
      simp only [Option.bind_some]
      rw [thenO_ok (by simp only [List.length_singleton]; omega)]
      cases hh : (mapO oneP e.fElements).bind flawL with
      | none =>
        rw [hh] at hz2 hrun
        simp only [flawZ] at hz2
        simp only [hz2, andO_some, Bool.false_and, Option.bind_some, Bool.not_false, cond_true]
        exact .inr ⟨_, rfl, by rw [hrun]; rfl⟩
      | some f =>
        rw [hh] at hz2 hrun good
        simp only [flawZ] at hz2
        subst hz2
        simp only [andO_some, Bool.true_and, Option.bind_some, Bool.not_not, hb] at hrun good ⊢
        by_cases hf : m.fFailing = []
        · simp only [hf, if_true, Option.map_some, decide_true, Bool.not_true, cond_false] at good ⊢
          exact .inl ⟨(i + 1 + 1, ⟨r.fRef, r.fVerdict, gp ++ [⟨gR, gV, mp ++ [⟨m.fRef, m.fVerdict, m.fUnknown, m.fFlaws ++ [f], []⟩]⟩]⟩, false), good _ false rfl (FailsB.ofM rfl rfl), by simp only; omega, rfl⟩
        · simp only [hf, if_false, Option.map_none, decide_false, Bool.not_false, cond_true] at hrun ⊢
          exact .inr ⟨_, rfl, by rw [hrun]; rfl⟩
    simp only [hF, decide_false, cond_false]
    by_cases hL : e.fTag = [65, 75, 82]
    · rw [stepR_L hL] at good hrun
      unfold stepL at good hrun
      simp only [rpPut_snoc r gp gR gV mp m _ hg] at good hrun
      simp only [hL, decide_true, cond_true, p_plain e (by omega) hel, Option.bind_some]
      cases hh : mapO one1 e.fElements with
      | none =>
        simp only [hh] at hrun
        simp only [Bool.not_false, orO, cond_true, Option.bind_some]
        exact .inr ⟨_, rfl, by rw [hrun]; rfl⟩
      | some ts =>
        simp only [hh] at hrun good
        simp only [Bool.not_true, orO_some, Bool.false_or, Option.bind_some]
        match ts, hh, hrun, good with
        | [], hh, hrun, good =>
          simp only [show decide (((([] : List Txt)).length : Int) = 1) = false from rfl, Bool.not_false, cond_true]
          exact .inr ⟨_, rfl, by rw [hrun]; rfl⟩
        | [t], hh, hrun, good =>
          simp only [show decide (((([t] : List Txt)).length : Int) = 1) = true from rfl, Bool.not_true, cond_false, show getI [t] 0 = some t from rfl, Option.bind_some]
          rw [thenO_ok (by simp only [List.length_singleton]; omega)]
          exact .inl ⟨(i + 1 + 1, ⟨r.fRef, r.fVerdict, gp ++ [⟨gR, gV, mp ++ [⟨m.fRef, m.fVerdict, m.fUnknown, m.fFlaws, m.fFailing ++ [t]⟩]⟩]⟩, true), good _ true rfl (FailsB.ofM rfl (by simp)), by simp only; omega, rfl⟩
        | t :: u :: ts, hh, hrun, good =>
          simp only [show decide ((((t :: u :: ts : List Txt)).length : Int) = 1) = false from decide_eq_false (by simp; omega), Bool.not_false, cond_true]
          exact .inr ⟨_, rfl, by rw [hrun]; rfl⟩
    simp only [hL, decide_false, cond_false]
    rw [stepR_N hG hM hF hL] at hrun
    exact .inr ⟨_, rfl, by rw [hrun]; rfl⟩
end Go.Proofs.YtcbdpjgejbcpgaaGreatDoor

/-
  Plain laws of replies: what is read is written as it was.
-/
namespace Go.Proofs.YtcbdpjgejbcpgaaGreatDoor
set_option linter.unusedSimpArgs false
set_option linter.unusedVariables false
open Go.RowKit

theorem oneP_el {e : Tapi_Element} {p : List Txt} (h : oneP e = some p) : e = elP p := by
  obtain ⟨r⟩ := e
  unfold oneP at h
  match r, h with
  | [q], h => cases h; rfl
theorem one1_el {e : Tapi_Element} {t : Txt} (h : one1 e = some t) : e = el1 t := by
  unfold one1 at h
  obtain ⟨p, h1, h2⟩ := Option.bind_eq_some_iff.1 h
  rw [oneP_el h1, tx1_mem h2]; rfl
theorem mapO_map {α β : Type} {g : α → Option β} {k : β → α} (hg : ∀ e t, g e = some t → e = k t) : ∀ {l : List α} {ts : List β}, mapO g l = some ts → l = ts.map k
  | [], ts, h => by cases h; rfl
  | a :: l, ts, h => by
    simp only [mapO] at h
    split at h
    · rename_i b bs hb hbs
      cases h
      rw [hg a b hb, mapO_map hg hbs]; rfl
    · cases h
theorem headF_els {b : Bool} {es : List Tapi_Element} {h : Txt × Int × Bool} (hh : headF b es = some h) : es = [el1 h.1, el1 (Lib.itoa h.2.1)] ++ (bif h.2.2 then [el1 [49]] else []) ∧ (b = false → h.2.2 = false) := by
  unfold headF at hh
  split at hh
  · rename_i a c hm
    split at hh
    · rename_i hn
      cases hh
      refine ⟨?_, fun _ => rfl⟩
      rw [mapO_map (fun _ _ => one1_el) hm]
      simp only [itoa_num hn]; rfl
    · cases hh
  · rename_i a c d hm
    split at hh
    · rename_i hn
      cases hh
      refine ⟨?_, fun hb => ?_⟩
      · rw [mapO_map (fun _ _ => one1_el) hm]
        simp only [itoa_num hn.2.2, hn.2.1]; rfl
      · rw [hb] at hn; cases hn.1
    · cases hh
  · cases hh
theorem spotO_el {c : List Txt} {s : Tapi_Spot} (h : spotO c = some s) : c = [Lib.itoa s.fElement, Lib.itoa s.fRepeat, Lib.itoa s.fPart] ∧ (decide (s.fElement = 0) && (decide (s.fRepeat = 0) && decide (s.fPart = 0))) = false := by
  unfold spotO at h
  split at h
  · rename_i a b d
    split at h
    · rename_i hn
      cases h
      simp only [itoa_num hn.1, itoa_num hn.2.1, itoa_num hn.2.2.1]
      refine ⟨by first | rfl | trivial, ?_⟩
      simpa using hn.2.2.2
    · cases h
  · cases h
theorem flawL_els {l : List (List Txt)} {f : Tapi_Flaw} (h : flawL l = some f) : flawS f = ⟨[65, 75, 70], l.map elP⟩ := by
  unfold flawL at h
  split at h
  · rename_i p q r
    obtain ⟨k, hk, h⟩ := Option.bind_eq_some_iff.1 h
    obtain ⟨g, hg, h⟩ := Option.bind_eq_some_iff.1 h
    rw [tx1_mem hk, tx1_mem hg]
    split at h
    · rename_i hn
      have e1 := itoa_num hn.1
      have e2 := itoa_num hn.2
      unfold flawR at h
      split at h
      · cases h
        unfold flawS
        simp only [e1, e2]; rfl
      · rename_i c
        obtain ⟨s, hs, rfl⟩ := Option.map_eq_some_iff.1 h
        obtain ⟨h1, h2⟩ := spotO_el hs
        unfold flawS
        simp only [e1, e2, h2]
        rw [h1]; rfl
      · rename_i c d
        obtain ⟨n, hn', h⟩ := Option.bind_eq_some_iff.1 h
        rw [tx1_mem hn']
        split at h
        · cases h
        · rename_i hne
          split at h
          · rename_i hc
            cases h
            unfold flawS
            simp only [e1, e2, hc, decide_eq_false hne]; rfl
          · obtain ⟨s, hs, rfl⟩ := Option.map_eq_some_iff.1 h
            obtain ⟨h1, h2⟩ := spotO_el hs
            unfold flawS
            simp only [e1, e2, h2, decide_eq_false hne]
            rw [h1]; rfl
      · cases h
    · cases h
  · cases h
theorem flaw_seg {s : Sg} {f : Tapi_Flaw} (ht : s.fTag = [65, 75, 70]) (h : (mapO oneP s.fElements).bind flawL = some f) : flawS f = s := by
  obtain ⟨l, hl, hf⟩ := Option.bind_eq_some_iff.1 h
  rw [flawL_els hf]
  obtain ⟨t, es⟩ := s
  simp only at ht hl ⊢
  rw [ht, mapO_map (fun _ _ => oneP_el) hl]
theorem put_repS {r r' : Rp} {f : Mr → Option Mr} {s : Sg} (h : rpPut r f = some r') (hf : ∀ m m', f m = some m' → msgS m' = msgS m ++ [s]) : repS_ r' = repS_ r ++ [s] := by
  obtain ⟨gp, gR, gV, mp, m, m', h1, h2, rfl⟩ := rpPut_some h
  unfold repS_
  rw [h1]
  simp only [List.flatMap_append, List.flatMap_cons, List.flatMap_nil, grpS, hf m m' h2, List.append_nil, List.append_assoc, List.cons_append]
theorem stepI_repS {r : Rp} {s : Sg} (h : stepI s = some r) : repS_ r = [s] := by
  unfold stepI at h
  split at h
  · rename_i ht
    obtain ⟨q, hq, rfl⟩ := Option.map_eq_some_iff.1 h
    obtain ⟨h1, h2⟩ := headF_els hq
    rw [h2 rfl] at h1
    obtain ⟨t, es⟩ := s
    simp only at ht h1 ⊢
    rw [ht, h1]; rfl
  · cases h
theorem step_repS {r r' : Rp} {s : Sg} (h : stepR false r s = some r') : repS_ r' = repS_ r ++ [s] := by
  by_cases hG : s.fTag = [65, 75, 71]
  · rw [stepR_G hG] at h
    unfold stepG at h
    obtain ⟨q, hq, rfl⟩ := Option.map_eq_some_iff.1 h
    obtain ⟨h1, h2⟩ := headF_els hq
    rw [h2 rfl] at h1
    obtain ⟨t, es⟩ := s
    simp only at hG h1 ⊢
    rw [hG, h1]
    unfold repS_
    simp [grpS]
  by_cases hM : s.fTag = [65, 75, 77]
  · rw [stepR_M hM] at h
    unfold stepM at h
    obtain ⟨q, hq, h⟩ := Option.bind_eq_some_iff.1 h
    obtain ⟨gs, hgs, rfl⟩ := Option.map_eq_some_iff.1 h
    obtain ⟨gp, g0, g', h1, h2, rfl⟩ := lastO_some hgs
    cases h2
    obtain ⟨h3, -⟩ := headF_els hq
    obtain ⟨t, es⟩ := s
    simp only at hM h3 ⊢
    rw [hM, h3]
    unfold repS_
    rw [h1]
    simp [grpS, msgS]
  by_cases hF : s.fTag = [65, 75, 70]
  · rw [stepR_F hF] at h
    unfold stepF at h
    obtain ⟨f, hf, h⟩ := Option.bind_eq_some_iff.1 h
    refine put_repS h fun m m' hm => ?_
    split at hm
    · rename_i hn
      cases hm
      unfold msgS
      simp [hn, flaw_seg hF hf]
    · cases hm
  by_cases hL : s.fTag = [65, 75, 82]
  · rw [stepR_L hL] at h
    unfold stepL at h
    split at h
    · rename_i t ht
      refine put_repS h fun m m' hm => ?_
      cases hm
      have : failS t = s := by
        obtain ⟨g, es⟩ := s
        simp only at hL ht ⊢
        rw [hL, mapO_map (fun _ _ => one1_el) ht]; rfl
      unfold msgS
      simp [this]
    · cases h
  · rw [stepR_N hG hM hF hL] at h; cases h
theorem runR_repS : ∀ {l : List Sg} {r r' : Rp} {i : Nat}, runR l false r i = .inl r' → repS_ r' = repS_ r ++ l
  | [], r, r', i, h => by cases h; simp
  | s :: l, r, r', i, h => by
    simp only [runR] at h
    split at h
    · rename_i r1 h1
      rw [runR_repS h, step_repS h1]; simp
    · cases h
theorem read_repS {l : List Sg} {r : Rp} (hne : l ≠ []) (h : runR l true zR 0 = .inl r) : repS_ r = l := by
  match l, hne, h with
  | s :: l, _, h =>
    simp only [runR] at h
    split at h
    · rename_i r1 h1
      rw [stepR_T] at h1
      rw [runR_repS h, stepI_repS h1]; rfl
    · cases h
end Go.Proofs.YtcbdpjgejbcpgaaGreatDoor

/-
  Plain laws of replies: what a right reply holds; what is written is read as it was.
-/
namespace Go.Proofs.YtcbdpjgejbcpgaaGreatDoor
set_option linter.unusedSimpArgs false
set_option linter.unusedVariables false
open Go.RowKit

theorem firstF_zero {f : Nat → Int} : ∀ {n i : Nat}, firstF f i n = 0 → ∀ j, i ≤ j → j < i + n → f j = 0
  | 0, i, _, j, h1, h2 => by omega
  | n + 1, i, h, j, h1, h2 => by
    unfold firstF at h
    by_cases hz : f i = 0
    · rw [if_neg (by simpa using hz)] at h
      rcases Nat.lt_or_ge i j with hlt | hge
      · exact firstF_zero h j (by omega) (by omega)
      · obtain rfl : j = i := by omega
        exact hz
    · rw [if_pos hz] at h; exact absurd h hz
theorem textF_of {t : List UInt8} (h1 : t.length ≤ 1000) (h2 : ∀ b ∈ t, badT b = false) : textF t = 0 := by
  unfold textF
  rw [if_neg (by omega)]
  have : t.findSome? (fun x => if badT x = true then some (3 : Int) else none) = none := by
    rw [List.findSome?_eq_none_iff]
    intro b hb
    rw [h2 b hb]; rfl
  rw [this]
theorem set_good : ∀ b ∈ refSet, badT b = false := by decide
theorem ref_text {t : List UInt8} (h : isRef t = true) : textF t = 0 := by
  unfold isRef at h
  simp only [Bool.and_eq_true, decide_eq_true_eq, List.all_eq_true] at h
  refine textF_of (by omega) fun b hb => ?_
  have := h.2 b hb
  unfold refByte at this
  exact set_good b (by simpa using this)
theorem low_good {b : UInt8} (h : lowB b = true) : badT b = false := by
  unfold lowB at h; unfold badT
  simp only [Bool.and_eq_true, decide_eq_true_eq] at h
  simp only [Bool.or_eq_false_iff, decide_eq_false_iff_not]
  omega
theorem nameB_good {b : UInt8} (h : nameB b = true) : badT b = false := by
  unfold nameB at h
  simp only [Bool.or_eq_true, Bool.and_eq_true, decide_eq_true_eq] at h
  rcases h with h | h
  · exact low_good h
  · unfold badT
    simp only [Bool.or_eq_false_iff, decide_eq_false_iff_not]
    omega
theorem name_text {t : List UInt8} (h : nameF t = true) : textF t = 0 := by
  cases t with
  | nil => rfl
  | cons b l =>
    unfold nameF at h
    simp only [Bool.and_eq_true, decide_eq_true_eq, List.all_eq_true] at h
    refine textF_of (by simp only [List.length_cons]; omega) fun c hc => ?_
    rcases List.mem_cons.1 hc with rfl | hc
    · exact low_good h.1.2
    · exact nameB_good (h.2 c hc)
theorem dec_good : ∀ (u : Nat), ∀ b ∈ Lib.decDigits u, 48 ≤ b.toNat ∧ b.toNat ≤ 57 := by
  intro u
  induction u using Nat.strongRecOn with
  | _ u ih =>
    intro b hb
    rw [Lib.decDigits] at hb
    have hd : ∀ k, k < 10 → (UInt8.ofNat (48 + k)).toNat = 48 + k := fun k hk => by rw [UInt8.toNat_ofNat_of_lt' (by show 48 + k < 256; omega)]
    split at hb
    · rename_i h
      simp only [List.mem_singleton] at hb; subst hb
      rw [hd u h]; omega
    · rename_i h
      rcases List.mem_append.1 hb with hb | hb
      · exact ih (u / 10) (by omega) b hb
      · simp only [List.mem_singleton] at hb; subst hb
        rw [hd (u % 10) (by omega)]; omega
theorem itoa_text {n : Int} (h : i64 n) : textF (Lib.itoa n) = 0 := by
  have hl := Lib.itoa_length_le n h.1 h.2
  have hd : ∀ (u : Nat) (b : UInt8), b ∈ Lib.decDigits u → badT b = false := fun u b hb => by
    have := dec_good u b hb
    unfold badT
    simp only [Bool.or_eq_false_iff, decide_eq_false_iff_not]
    omega
  refine textF_of (by omega) fun b hb => ?_
  unfold Lib.itoa at hb
  split at hb
  · rcases List.mem_cons.1 hb with rfl | hb
    · rfl
    · exact hd _ b hb
  · exact hd _ b hb
theorem tag_text {t : List UInt8} (h : tagF t = true) : textF t = 0 := by
  cases t with
  | nil => rfl
  | cons b l =>
    unfold tagF at h
    simp only [Bool.and_eq_true, decide_eq_true_eq, List.all_eq_true] at h
    have hl : ∀ {c : UInt8}, letB c = true → badT c = false := fun {c} hc => by
      unfold letB at hc; unfold badT
      simp only [Bool.and_eq_true, decide_eq_true_eq] at hc
      simp only [Bool.or_eq_false_iff, decide_eq_false_iff_not]; omega
    refine textF_of (by simp only [List.length_cons]; omega) fun c hc => ?_
    rcases List.mem_cons.1 hc with rfl | hc
    · exact hl h.1.2
    · have := h.2 c hc
      unfold tagB at this
      simp only [Bool.or_eq_true] at this
      rcases this with h1 | h1
      · exact hl h1
      · unfold badT
        simp only [Bool.not_eq_true', Bool.or_eq_false_iff, decide_eq_false_iff_not] at h1
        simp only [Bool.or_eq_false_iff, decide_eq_false_iff_not]; omega
/-! ### What a right reply holds -/
def inR (n lo hi : Int) : Prop := lo ≤ n ∧ n ≤ hi
theorem inR_of {n lo hi : Int} (h : outside n lo hi = false) : inR n lo hi := by
  unfold outside at h
  simp only [Bool.or_eq_false_iff, decide_eq_false_iff_not] at h
  exact ⟨by omega, by omega⟩
structure FlawG (f : Fl) : Prop where
  k : inR f.fKind 1 12
  s : inR f.fSegment 0 2000
  e : inR f.fAt.fElement 0 51
  r : inR f.fAt.fRepeat 0 21
  p : inR f.fAt.fPart 0 21
  n : textF f.fName = 0
structure MsgG (m : Mr) : Prop where
  ref : textF m.fRef = 0
  v : inR m.fVerdict 1 3
  flaws : ∀ f ∈ m.fFlaws, FlawG f
  fails : ∀ t ∈ m.fFailing, textF t = 0
structure GrpG (g : Gr) : Prop where
  ref : textF g.fRef = 0
  v : inR g.fVerdict 1 3
  msg : ∀ m ∈ g.fMessages, MsgG m
structure RightR (r : Rp) : Prop where
  ref : textF r.fRef = 0
  v : inR r.fVerdict 1 3
  grp : ∀ g ∈ r.fGroups, GrpG g
theorem flaws_good {l : List Fl} (h : flawsF l = 0) : ∀ f ∈ l, FlawG f := by
  intro f hf
  unfold flawsF at h
  split at h
  · cases h
  obtain ⟨i, hi⟩ := List.mem_iff_getElem?.1 hf
  have hil := get_le hi
  obtain ⟨p, hp⟩ := get_lt (l := l) (i := i - 1) (by omega)
  have h1 := firstF_zero h i (by omega) (by omega)
  simp only [flawAt, hi, hp] at h1
  generalize ha : outside f.fKind 1 12 = a at h1
  generalize hb : (outside f.fSegment 0 2000 || outside f.fAt.fElement 0 51 || outside f.fAt.fRepeat 0 21 || outside f.fAt.fPart 0 21) = b at h1
  generalize hc : (!decide (f.fName = []) && !tagF f.fName && !nameF f.fName) = c at h1
  cases a with
  | true => cases h1
  | false =>
  cases b with
  | true => cases h1
  | false =>
  cases c with
  | true => cases h1
  | false =>
  simp only [Bool.or_eq_false_iff] at hb
  refine ⟨inR_of ha, inR_of hb.1.1.1, inR_of hb.1.1.2, inR_of hb.1.2, inR_of hb.2, ?_⟩
  by_cases h0 : f.fName = []
  · rw [h0]; rfl
  · cases ht : tagF f.fName with
    | true => exact tag_text ht
    | false =>
      cases hn : nameF f.fName with
      | true => exact name_text hn
      | false => rw [ht, hn, decide_eq_false h0] at hc; cases hc
theorem fails_good {l : List Txt} (h : firstF (failAt l) 0 l.length = 0) : ∀ t ∈ l, textF t = 0 := by
  intro t ht
  obtain ⟨i, hi⟩ := List.mem_iff_getElem?.1 ht
  have hil := get_le hi
  obtain ⟨p, hp⟩ := get_lt (l := l) (i := i - 1) (by omega)
  have h1 := firstF_zero h i (by omega) (by omega)
  simp only [failAt, hi, hp, failN] at h1
  cases hn : nameF t with
  | true => exact name_text hn
  | false => rw [hn] at h1; cases h1
theorem verd_in {n : Int} (h : isVerdict n = true) : inR n 1 3 := by
  unfold isVerdict at h
  exact inR_of (by simpa using h)
theorem msg_good {m : Mr} {b : Bool} (h : msgF m b = 0) : MsgG m := by
  unfold msgF msgN at h
  cases h1 : isRef m.fRef with
  | false => rw [h1] at h; cases h
  | true =>
  cases h2 : isVerdict m.fVerdict with
  | false => rw [h1, h2] at h; cases h
  | true =>
  simp only [h1, h2, Bool.not_true, cond_false] at h
  cases b with
  | true => cases h
  | false =>
  simp only [cond_false] at h
  generalize (m.fUnknown && (!decide (m.fVerdict = 3) || someM m)) = d at h
  cases d with
  | true => cases h
  | false =>
  simp only [cond_false] at h
  by_cases h3 : flawsF m.fFlaws = 0
  · simp only [h3, decide_true, Bool.not_true, cond_false] at h
    cases h4 : decide (200 < m.fFailing.length) with
    | true => rw [h4] at h; cases h
    | false =>
    simp only [h4, cond_false] at h
    by_cases h5 : firstF (failAt m.fFailing) 0 m.fFailing.length = 0
    · exact ⟨ref_text h1, verd_in h2, flaws_good h3, fails_good h5⟩
    · rw [if_neg h5] at h; exact absurd h h5
  · simp only [h3, decide_false, Bool.not_false, cond_true] at h
theorem grp_good {g : Gr} {b : Bool} (h : grpF g b = 0) : GrpG g := by
  unfold grpF grpN at h
  cases h1 : isRef g.fRef with
  | false => rw [h1] at h; cases h
  | true =>
  cases h2 : isVerdict g.fVerdict with
  | false => rw [h1, h2] at h; cases h
  | true =>
  simp only [h1, h2, Bool.not_true, cond_false] at h
  cases b with
  | true => cases h
  | false =>
  simp only [cond_false] at h
  split at h
  · rename_i h3
    refine ⟨ref_text h1, verd_in h2, fun m hm => ?_⟩
    obtain ⟨i, hi⟩ := List.mem_iff_getElem?.1 hm
    have h4 := firstF_zero h3 i (by omega) (by have := get_le hi; omega)
    simp only [msgAt, hi] at h4
    exact msg_good h4
  · rename_i h3; exact absurd h h3
theorem rep_good {r : Rp} (h : rpF r = 0) : RightR r := by
  unfold rpF rpN at h
  cases h1 : isRef r.fRef with
  | false => rw [h1] at h; cases h
  | true =>
  cases h2 : isVerdict r.fVerdict with
  | false => rw [h1, h2] at h; cases h
  | true =>
  simp only [h1, h2, Bool.not_true, cond_false] at h
  cases h4 : decide (50 < r.fGroups.length) with
  | true => rw [h4] at h; cases h
  | false =>
  simp only [h4, cond_false] at h
  split at h
  · rename_i h3
    refine ⟨ref_text h1, verd_in h2, fun m hm => ?_⟩
    obtain ⟨i, hi⟩ := List.mem_iff_getElem?.1 hm
    have h4 := firstF_zero h3 i (by omega) (by have := get_le hi; omega)
    simp only [grpAt, hi] at h4
    exact grp_good h4
  · rename_i h3; exact absurd h h3
end Go.Proofs.YtcbdpjgejbcpgaaGreatDoor

/-
  Plain laws of replies: what is written is read as it was.
-/
namespace Go.Proofs.YtcbdpjgejbcpgaaGreatDoor
set_option linter.unusedSimpArgs false
set_option linter.unusedVariables false
open Go.RowKit

theorem headF_mk {b u : Bool} {a : Txt} {v : Int} (h0 : 0 ≤ v) (h1 : v ≤ 9999) (hu : u = true → b = true) : headF b ([el1 a, el1 (Lib.itoa v)] ++ (bif u then [el1 [49]] else [])) = some (a, v, u) := by
  obtain ⟨n1, n2, -⟩ := num_itoa h0 h1
  cases u with
  | false =>
    show headF b [el1 a, el1 (Lib.itoa v)] = _
    have hm : mapO one1 [el1 a, el1 (Lib.itoa v)] = some [a, Lib.itoa v] := rfl
    unfold headF
    rw [hm]
    simp only [n1, n2, if_true]
  | true =>
    show headF b [el1 a, el1 (Lib.itoa v), el1 [49]] = _
    have hm : mapO one1 [el1 a, el1 (Lib.itoa v), el1 [49]] = some [a, Lib.itoa v, [49]] := rfl
    unfold headF
    rw [hm]
    simp only [n1, n2, hu rfl, and_self, if_true]
theorem spotO_mk {e r p : Int} (he : inR e 0 51) (hr : inR r 0 21) (hp : inR p 0 21) (hz : ¬ (e = 0 ∧ r = 0 ∧ p = 0)) : spotO [Lib.itoa e, Lib.itoa r, Lib.itoa p] = some ⟨e, r, p⟩ := by
  obtain ⟨e1, e2, -⟩ := num_itoa he.1 (show e ≤ 9999 by have := he.2; omega)
  obtain ⟨r1, r2, -⟩ := num_itoa hr.1 (show r ≤ 9999 by have := hr.2; omega)
  obtain ⟨p1, p2, -⟩ := num_itoa hp.1 (show p ≤ 9999 by have := hp.2; omega)
  rw [spotO_good e1 r1 p1 (by rw [e2, r2, p2]; exact hz), e2, r2, p2]
theorem flaw_read {f : Fl} (h : FlawG f) : (mapO oneP (flawS f).fElements).bind flawL = some f := by
  obtain ⟨k, s, ⟨e, r, p⟩, n⟩ := f
  obtain ⟨hk, hs, he, hr, hp, -⟩ := h
  simp only at hk hs he hr hp
  obtain ⟨k1, k2, -⟩ := num_itoa (show 0 ≤ k by have := hk.1; omega) (show k ≤ 9999 by have := hk.2; omega)
  obtain ⟨s1, s2, -⟩ := num_itoa hs.1 (show s ≤ 9999 by have := hs.2; omega)
  have hL : ∀ r', flawL ([Lib.itoa k] :: [Lib.itoa s] :: r') = flawR k s r' := fun r' => by
    unfold flawL tx1
    simp only [Option.bind_some, k1, s1, k2, s2, and_self, if_true]
  unfold flawS
  simp only
  by_cases hz : e = 0 ∧ r = 0 ∧ p = 0
  · obtain ⟨rfl, rfl, rfl⟩ := hz
    by_cases hn : n = []
    · subst hn
      exact hL []
    · simp only [decide_eq_false hn]
      refine (hL [[[]], [n]]).trans ?_
      simp only [flawR, tx1, Option.bind_some, hn, if_false, if_true]
  · have hd : (decide (e = 0) && (decide (r = 0) && decide (p = 0))) = false := by simpa using hz
    have hsp := spotO_mk he hr hp hz
    by_cases hn : n = []
    · subst hn
      simp only [hd]
      refine (hL [[Lib.itoa e, Lib.itoa r, Lib.itoa p]]).trans ?_
      simp only [flawR, hsp, Option.map_some]
    · simp only [decide_eq_false hn, hd]
      refine (hL [[Lib.itoa e, Lib.itoa r, Lib.itoa p], [n]]).trans ?_
      have hne : ([Lib.itoa e, Lib.itoa r, Lib.itoa p] : List Txt) ≠ [[]] := by intro h; have := congrArg List.length h; simp at this
      simp only [flawR, tx1, Option.bind_some, hn, if_false, hne, hsp, Option.map_some]
theorem run_cons {b : Bool} {r r' : Rp} {s : Sg} {l : List Sg} {i : Nat} (h : stepR b r s = some r') : runR (s :: l) b r i = runR l false r' (i + 1) := by
  simp only [runR, h]
theorem run_flaws : ∀ (fl : List Fl) (rest : List Sg) (R : Txt) (V : Int) (gp : List Gr) (gR : Txt) (gV : Int) (mp : List Mr) (mR : Txt) (mV : Int) (u : Bool) (f0 : List Fl) (i : Nat), (∀ f ∈ fl, FlawG f) →
    ∃ j, runR (fl.map flawS ++ rest) false ⟨R, V, gp ++ [⟨gR, gV, mp ++ [⟨mR, mV, u, f0, []⟩]⟩]⟩ i = runR rest false ⟨R, V, gp ++ [⟨gR, gV, mp ++ [⟨mR, mV, u, f0 ++ fl, []⟩]⟩]⟩ j
  | [], rest, R, V, gp, gR, gV, mp, mR, mV, u, f0, i, _ => ⟨i, by simp⟩
  | f :: fl, rest, R, V, gp, gR, gV, mp, mR, mV, u, f0, i, h => by
    obtain ⟨j, hj⟩ := run_flaws fl rest R V gp gR gV mp mR mV u (f0 ++ [f]) (i + 1) (fun x hx => h x (List.mem_cons_of_mem _ hx))
    refine ⟨j, ?_⟩
    rw [List.map_cons, List.cons_append, run_cons (r' := ⟨R, V, gp ++ [⟨gR, gV, mp ++ [⟨mR, mV, u, f0 ++ [f], []⟩]⟩]⟩), hj, List.append_assoc]
    · rfl
    · rw [stepR_F rfl]
      unfold stepF
      rw [flaw_read (h f (by simp)), Option.bind_some, rpPut_snoc _ gp gR gV mp ⟨mR, mV, u, f0, []⟩ _ rfl]
      rfl
theorem run_fails : ∀ (ts : List Txt) (rest : List Sg) (R : Txt) (V : Int) (gp : List Gr) (gR : Txt) (gV : Int) (mp : List Mr) (mR : Txt) (mV : Int) (u : Bool) (fl : List Fl) (t0 : List Txt) (i : Nat),
    ∃ j, runR (ts.map failS ++ rest) false ⟨R, V, gp ++ [⟨gR, gV, mp ++ [⟨mR, mV, u, fl, t0⟩]⟩]⟩ i = runR rest false ⟨R, V, gp ++ [⟨gR, gV, mp ++ [⟨mR, mV, u, fl, t0 ++ ts⟩]⟩]⟩ j
  | [], rest, R, V, gp, gR, gV, mp, mR, mV, u, fl, t0, i => ⟨i, by simp⟩
  | t :: ts, rest, R, V, gp, gR, gV, mp, mR, mV, u, fl, t0, i => by
    obtain ⟨j, hj⟩ := run_fails ts rest R V gp gR gV mp mR mV u fl (t0 ++ [t]) (i + 1)
    refine ⟨j, ?_⟩
    rw [List.map_cons, List.cons_append, run_cons (r' := ⟨R, V, gp ++ [⟨gR, gV, mp ++ [⟨mR, mV, u, fl, t0 ++ [t]⟩]⟩]⟩), hj, List.append_assoc]
    · rfl
    · rw [stepR_L rfl]
      unfold stepL
      have : mapO one1 (failS t).fElements = some [t] := rfl
      rw [this]
      simp only
      rw [rpPut_snoc _ gp gR gV mp ⟨mR, mV, u, fl, t0⟩ _ rfl]
      rfl
theorem run_msg (m : Mr) (hm : MsgG m) (rest : List Sg) (R : Txt) (V : Int) (gp : List Gr) (gR : Txt) (gV : Int) (mp : List Mr) (i : Nat) :
    ∃ j, runR (msgS m ++ rest) false ⟨R, V, gp ++ [⟨gR, gV, mp⟩]⟩ i = runR rest false ⟨R, V, gp ++ [⟨gR, gV, mp ++ [m]⟩]⟩ j := by
  obtain ⟨j1, h1⟩ := run_flaws m.fFlaws (m.fFailing.map failS ++ rest) R V gp gR gV mp m.fRef m.fVerdict m.fUnknown [] (i + 1) hm.flaws
  obtain ⟨j2, h2⟩ := run_fails m.fFailing rest R V gp gR gV mp m.fRef m.fVerdict m.fUnknown ([] ++ m.fFlaws) [] j1
  refine ⟨j2, ?_⟩
  unfold msgS
  rw [List.cons_append, List.append_assoc, run_cons (r' := ⟨R, V, gp ++ [⟨gR, gV, mp ++ [⟨m.fRef, m.fVerdict, m.fUnknown, [], []⟩]⟩]⟩), h1, h2]
  · simp only [List.nil_append]
  · rw [stepR_M rfl]
    unfold stepM
    simp only
    rw [headF_mk (by have := hm.v.1; omega) (by have := hm.v.2; omega) (fun _ => rfl), Option.bind_some, lastO_snoc]
    rfl
theorem run_msgs : ∀ (ms : List Mr) (_ : ∀ m ∈ ms, MsgG m) (rest : List Sg) (R : Txt) (V : Int) (gp : List Gr) (gR : Txt) (gV : Int) (mp : List Mr) (i : Nat),
    ∃ j, runR (ms.flatMap msgS ++ rest) false ⟨R, V, gp ++ [⟨gR, gV, mp⟩]⟩ i = runR rest false ⟨R, V, gp ++ [⟨gR, gV, mp ++ ms⟩]⟩ j
  | [], _, rest, R, V, gp, gR, gV, mp, i => ⟨i, by simp⟩
  | m :: ms, h, rest, R, V, gp, gR, gV, mp, i => by
    obtain ⟨j1, h1⟩ := run_msg m (h m (by simp)) (ms.flatMap msgS ++ rest) R V gp gR gV mp i
    obtain ⟨j2, h2⟩ := run_msgs ms (fun x hx => h x (List.mem_cons_of_mem _ hx)) rest R V gp gR gV (mp ++ [m]) j1
    refine ⟨j2, ?_⟩
    rw [List.flatMap_cons, List.append_assoc, h1, h2, List.append_assoc]
    rfl
theorem run_grps : ∀ (gs : List Gr) (_ : ∀ g ∈ gs, GrpG g) (rest : List Sg) (R : Txt) (V : Int) (gp : List Gr) (i : Nat),
    ∃ j, runR (gs.flatMap grpS ++ rest) false ⟨R, V, gp⟩ i = runR rest false ⟨R, V, gp ++ gs⟩ j
  | [], _, rest, R, V, gp, i => ⟨i, by simp⟩
  | g :: gs, h, rest, R, V, gp, i => by
    have hg := h g (by simp)
    obtain ⟨j1, h1⟩ := run_msgs g.fMessages hg.msg (gs.flatMap grpS ++ rest) R V gp g.fRef g.fVerdict [] (i + 1)
    obtain ⟨j2, h2⟩ := run_grps gs (fun x hx => h x (List.mem_cons_of_mem _ hx)) rest R V (gp ++ [g]) j1
    refine ⟨j2, ?_⟩
    rw [List.flatMap_cons, List.append_assoc]
    show runR (_ :: (g.fMessages.flatMap msgS ++ (gs.flatMap grpS ++ rest))) _ _ _ = _
    rw [run_cons (r' := ⟨R, V, gp ++ [⟨g.fRef, g.fVerdict, []⟩]⟩), h1]
    · rw [List.nil_append]
      rw [h2, List.append_assoc]
      rfl
    · rw [stepR_G rfl]
      unfold stepG
      have h5 : headF false [el1 g.fRef, el1 (Lib.itoa g.fVerdict)] = some (g.fRef, g.fVerdict, false) := headF_mk (b := false) (u := false) (by have := hg.v.1; omega) (by have := hg.v.2; omega) (by intro h; cases h)
      simp only [h5, Option.map_some]
theorem run_rep (r : Rp) (h : RightR r) : runR (repS_ r) true zR 0 = .inl r := by
  obtain ⟨j, hj⟩ := run_grps r.fGroups h.grp [] r.fRef r.fVerdict [] 1
  unfold repS_
  rw [run_cons (r' := ⟨r.fRef, r.fVerdict, []⟩)]
  · rw [← List.append_nil (r.fGroups.flatMap grpS), hj]
    rfl
  · rw [stepR_T]
    unfold stepI
    have h5 : headF false [el1 r.fRef, el1 (Lib.itoa r.fVerdict)] = some (r.fRef, r.fVerdict, false) := headF_mk (b := false) (u := false) (by have := h.v.1; omega) (by have := h.v.2; omega) (by intro h; cases h)
    simp only [h5, Option.map_some, if_true]
/-! ### What is written are right segments -/
theorem seg_of {tag : List UInt8} {es : List Tapi_Element} (ht : tagF tag = true) (hl : es.length ≤ 50) (hs : ∀ e ∈ es, ∃ p : List Txt, e = elP p ∧ 1 ≤ p.length ∧ p.length ≤ 20 ∧ ∀ t ∈ p, textF t = 0) : segF ⟨tag, es⟩ = 0 := by
  refine segF_iff.2 ⟨ht, hl, fun e he => ?_⟩
  obtain ⟨p, rfl, h1, h2, h3⟩ := hs e he
  refine elemF_iff.2 ⟨by simp [elP], by simp [elP], fun q hq => ?_⟩
  simp only [elP, List.mem_singleton] at hq
  subst hq
  exact repF_iff.2 ⟨h1, h2, h3⟩
theorem one_ok {t : Txt} (h : textF t = 0) : ∃ p : List Txt, el1 t = elP p ∧ 1 ≤ p.length ∧ p.length ≤ 20 ∧ ∀ t ∈ p, textF t = 0 := ⟨[t], rfl, by simp, by simp, by simpa using h⟩
theorem it_text {n lo hi : Int} (h : inR n lo hi) (h0 : -9223372036854775808 ≤ lo) (h1 : hi ≤ 9223372036854775807) : textF (Lib.itoa n) = 0 := itoa_text ⟨by have := h.1; omega, by have := h.2; omega⟩
theorem flawS_right {f : Fl} (h : FlawG f) : segF (flawS f) = 0 := by
  have hk := it_text h.k (by omega) (by omega)
  have hs := it_text h.s (by omega) (by omega)
  have he := it_text h.e (by omega) (by omega)
  have hr := it_text h.r (by omega) (by omega)
  have hp := it_text h.p (by omega) (by omega)
  unfold flawS
  refine seg_of (by decide) ?_ (fun e hm => ?_)
  · cases (decide (f.fAt.fElement = 0) && (decide (f.fAt.fRepeat = 0) && decide (f.fAt.fPart = 0))) <;> cases decide (f.fName = []) <;> simp
  · rcases List.mem_append.1 hm with hm | hm
    · rcases List.mem_append.1 hm with hm | hm
      · simp at hm; rcases hm with rfl | rfl
        · exact one_ok hk
        · exact one_ok hs
      · revert hm
        cases !(decide (f.fAt.fElement = 0) && (decide (f.fAt.fRepeat = 0) && decide (f.fAt.fPart = 0))) with
        | true =>
          intro hm; simp at hm; subst hm
          exact ⟨_, rfl, by simp, by simp, by intro t ht; simp at ht; rcases ht with rfl | rfl | rfl <;> assumption⟩
        | false =>
          cases decide (f.fName = []) with
          | true => intro hm; simp at hm
          | false => intro hm; simp at hm; subst hm; exact one_ok rfl
    · revert hm
      cases decide (f.fName = []) with
      | true => intro hm; simp at hm
      | false => intro hm; simp at hm; subst hm; exact one_ok h.n
theorem two_right {tag : List UInt8} {a : Txt} {v : Int} (ht : tagF tag = true) (ha : textF a = 0) (hv : inR v 1 3) : segF ⟨tag, [el1 a, el1 (Lib.itoa v)]⟩ = 0 := by
  refine seg_of ht (by simp) (fun e he => ?_)
  simp at he
  rcases he with rfl | rfl
  · exact one_ok ha
  · exact one_ok (it_text hv (by omega) (by omega))
theorem repS_right {r : Rp} (h : RightR r) : ∀ s ∈ repS_ r, segF s = 0 := by
  intro s hs
  unfold repS_ at hs
  rcases List.mem_cons.1 hs with rfl | hs
  · exact two_right (by decide) h.ref h.v
  obtain ⟨g, hg, hs⟩ := List.mem_flatMap.1 hs
  have hgg := h.grp g hg
  unfold grpS at hs
  rcases List.mem_cons.1 hs with rfl | hs
  · exact two_right (by decide) hgg.ref hgg.v
  obtain ⟨m, hm, hs⟩ := List.mem_flatMap.1 hs
  have hmm := hgg.msg m hm
  unfold msgS at hs
  rcases List.mem_cons.1 hs with rfl | hs
  · cases hu : m.fUnknown with
    | false => exact two_right (by decide) hmm.ref hmm.v
    | true =>
      refine seg_of (by decide) (by simp) (fun e he => ?_)
      simp at he
      rcases he with rfl | rfl | rfl
      · exact one_ok hmm.ref
      · exact one_ok (it_text hmm.v (by omega) (by omega))
      · exact one_ok rfl
  rcases List.mem_append.1 hs with hs | hs
  · obtain ⟨f, hf, rfl⟩ := List.mem_map.1 hs
    exact flawS_right (hmm.flaws f hf)
  · obtain ⟨t, ht, rfl⟩ := List.mem_map.1 hs
    exact seg_of (by decide) (by simp) (fun e he => by simp at he; subst he; exact one_ok (hmm.fails t ht))
/-! ### Numbers are small -/
theorem decFrom_lt : ∀ (l : List UInt8) (a n : Nat), l.all isD = true → Lib.decFrom a l = some n → n < (a + 1) * 10 ^ l.length
  | [], a, n, _, h => by
    unfold Lib.decFrom at h
    cases h
    simp
  | x :: l, a, n, hd, h => by
    simp only [List.all_cons, Bool.and_eq_true] at hd
    unfold Lib.decFrom at h
    rw [digV hd.1] at h
    have h2 := decFrom_lt l _ n hd.2 h
    have hx := (isD_iff x).1 hd.1
    have : (a * 10 + (x.toNat - 48) + 1) * 10 ^ l.length ≤ (a + 1) * 10 ^ (x :: l).length := by
      rw [List.length_cons, Nat.pow_succ]
      have : (a + 1) * (10 ^ l.length * 10) = ((a + 1) * 10) * 10 ^ l.length := by rw [Nat.mul_comm (10 ^ l.length) 10, Nat.mul_assoc]
      rw [this]
      exact Nat.mul_le_mul_right _ (by omega)
    omega
theorem numV_lt {b : Txt} (h : numOk b = true) : 0 ≤ numV b ∧ numV b ≤ 9999 := by
  unfold numOk at h
  simp only [Bool.and_eq_true, Bool.not_eq_true', decide_eq_false_iff_not] at h
  obtain ⟨⟨⟨h1, h2⟩, h3⟩, -⟩ := h
  obtain ⟨n, hn⟩ := dec_some b 0 h3
  have hv : numV b = (n : Int) := by unfold numV; rw [atoi_dig h1 (by omega) h3, hn]; rfl
  have h4 := decFrom_lt b 0 n h3 hn
  have h5 : (10 : Nat) ^ b.length ≤ 10 ^ 4 := Nat.pow_le_pow_right (by omega) (by omega)
  rw [hv]
  omega
end Go.Proofs.YtcbdpjgejbcpgaaGreatDoor

/-
  Plain laws of replies: a reply is the same as itself; how long it is when it was read.
-/
namespace Go.Proofs.YtcbdpjgejbcpgaaGreatDoor
set_option linter.unusedSimpArgs false
set_option linter.unusedVariables false
open Go.RowKit

theorem sameMsg_refl (m : Mr) (h1 : m.fFlaws.length ≤ 1048576) (h2 : m.fFailing.length ≤ 1048576) : m_interchangeref7_sameMessage m m = some true := by
  unfold m_interchangeref7_sameMessage sims_G5_1_0; dsimp only
  simp only [sameTexts_refl m.fFailing (by omega), decide_true, Bool.not_true, orO_some, Bool.or_self, Option.bind_some, cond_false]
  refine (loop_allV m.fFlaws (fun _ => true) false (fun i e he => ?_) ?_).trans ?_
  · have hi := get_le he
    simp only [lt_dec hi, cond_true, getI_nat, he, Option.bind_some, decide_true, Bool.and_self, Bool.not_true, cond_false, wrapN i (by omega), if_true]
  · simp only [lt_dec_self, cond_false]; rfl
  · simp
theorem sameReply_refl (r : Rp) (h : RpLe 1048576 r) : m_interchangeref7_SameReply r r = some true := by
  unfold m_interchangeref7_SameReply sims_G5_2_0; dsimp only
  simp only [decide_true, Bool.not_true, orO_some, Bool.or_self, Option.bind_some, cond_false]
  refine (loop_allV r.fGroups (fun _ => true) false (fun i e he => ?_) ?_).trans ?_
  · have hi := get_le he
    have hg := h.1
    obtain ⟨h1, h2⟩ := h.2 e (List.mem_of_getElem? he)
    simp only [lt_dec hi, cond_true, getI_nat, he, Option.bind_some, decide_true, Bool.not_true, orO_some, Bool.or_self, cond_false, wrapN i (by omega), if_true]
    refine (loop_allV e.fMessages (fun _ => true) (.inr (.inr false)) (fun k m hm => ?_) ?_).trans ?_
    · have hk := get_le hm
      obtain ⟨h3, h4⟩ := h2 m (List.mem_of_getElem? hm)
      simp only [lt_dec hk, cond_true, getI_nat, hm, Option.bind_some, sameMsg_refl m h3 h4, Bool.not_true, cond_false, wrapN k (by omega), if_true]
    · simp only [lt_dec_self, cond_false]; rfl
    · simp
  · simp only [lt_dec_self, cond_false]; rfl
  · simp
theorem RpLe.mono {n k : Nat} {r : Rp} (h : RpLe n r) (hk : n ≤ k) : RpLe k r :=
  ⟨by have := h.1; omega, fun g hg => ⟨by have := (h.2 g hg).1; omega, fun m hm => by have := (h.2 g hg).2 m hm; omega⟩⟩
theorem runR_le : ∀ {l : List Sg} {b : Bool} {r r' : Rp} {i n : Nat}, runR l b r i = .inl r' → RpLe n r → RpLe (n + l.length) r'
  | [], b, r, r', i, n, h, hn => by cases h; exact hn
  | s :: l, b, r, r', i, n, h, hn => by
    simp only [runR] at h
    split at h
    · rename_i r1 h1
      have := runR_le h (hn.step h1)
      rw [List.length_cons]
      exact this.mono (by omega)
    · cases h
theorem zR_le (n : Nat) : RpLe n zR := ⟨Nat.zero_le _, by simp [zR]⟩
end Go.Proofs.YtcbdpjgejbcpgaaGreatDoor

/-
  Plain laws of replies: ReplySegmentsComeBack.
-/
namespace Go.Proofs.YtcbdpjgejbcpgaaGreatDoor
set_option linter.unusedSimpArgs false
set_option linter.unusedVariables false
open Go.RowKit

theorem spotO_small {c : List Txt} {s : Tapi_Spot} (h : spotO c = some s) : i64 s.fElement ∧ i64 s.fRepeat ∧ i64 s.fPart := by
  unfold spotO at h
  split at h
  · rename_i a b d
    split at h
    · rename_i hn
      cases h
      have h1 := numV_lt hn.1
      have h2 := numV_lt hn.2.1
      have h3 := numV_lt hn.2.2.1
      have q : ∀ x : Int, 0 ≤ x ∧ x ≤ 9999 → i64 x := fun x hx => ⟨by omega, by omega⟩
      exact ⟨q _ h1, q _ h2, q _ h3⟩
    · cases h
  · cases h
theorem flawL_small {l : List (List Txt)} {f : Fl} (h : flawL l = some f) : FlawI f := by
  have z : i64 0 := ⟨by omega, by omega⟩
  unfold flawL at h
  split at h
  · rename_i p q r
    obtain ⟨k, hk, h⟩ := Option.bind_eq_some_iff.1 h
    obtain ⟨g, hg, h⟩ := Option.bind_eq_some_iff.1 h
    split at h
    · rename_i hn
      have h1 := numV_lt hn.1
      have h2 := numV_lt hn.2
      have i1 : i64 (numV k) := ⟨by omega, by omega⟩
      have i2 : i64 (numV g) := ⟨by omega, by omega⟩
      unfold flawR at h
      split at h
      · cases h; exact ⟨i1, i2, z, z, z⟩
      · obtain ⟨s, hs, rfl⟩ := Option.map_eq_some_iff.1 h
        obtain ⟨h3, h4, h5⟩ := spotO_small hs
        exact ⟨i1, i2, h3, h4, h5⟩
      · obtain ⟨n, _, h⟩ := Option.bind_eq_some_iff.1 h
        split at h
        · cases h
        · split at h
          · cases h; exact ⟨i1, i2, z, z, z⟩
          · obtain ⟨s, hs, rfl⟩ := Option.map_eq_some_iff.1 h
            obtain ⟨h3, h4, h5⟩ := spotO_small hs
            exact ⟨i1, i2, h3, h4, h5⟩
      · cases h
    · cases h
  · cases h
theorem runR_tx {T : Txt → Prop} {V : Int → Prop} {F : Fl → Prop} (hV : ∀ x, numOk x = true → V (numV x)) : ∀ {l : List Sg} {b : Bool} {r r' : Rp} {i : Nat}, runR l b r i = .inl r' → RpTx T V F r →
    (∀ s ∈ l, (∀ ts, mapO one1 s.fElements = some ts → ∀ t ∈ ts, T t) ∧ ∀ f, (mapO oneP s.fElements).bind flawL = some f → F f) → RpTx T V F r'
  | [], b, r, r', i, h, hr, _ => by cases h; exact hr
  | s :: l, b, r, r', i, h, hr, hl => by
    simp only [runR] at h
    split at h
    · rename_i r1 h1
      have hs := hl s (by simp)
      exact runR_tx hV h (hr.step h1 hs.1 hV hs.2) fun x hx => hl x (List.mem_cons_of_mem _ hx)
    · cases h
theorem read_back (l : List Sg) (hs : TagsShort l) : (∃ n f, readF l = (zR, n, f) ∧ f ≠ 0) ∨ ∃ r, readF l = (r, 0, 0) ∧ m_reply_Segments r = some (l, 0) ∧ m_interchangeref2_SameSegments l l = some true := by
  unfold readF
  split
  case isFalse h => exact .inl ⟨_, _, rfl, h⟩
  rename_i h0
  obtain ⟨hl, hok⟩ := segs_in h0
  split
  · exact .inl ⟨_, _, rfl, by decide⟩
  rename_i r hr
  split
  · exact .inl ⟨_, _, rfl, by decide⟩
  rename_i hne
  split
  case isFalse h => exact .inl ⟨_, _, rfl, h⟩
  rename_i hz
  have hel : ∀ s ∈ l, ∀ e ∈ s.fElements, elemF e = 0 := fun s hs' => (segF_iff.1 (hok s hs')).2.2
  have h1 : RpLe 2000 r := (runR_le hr (zR_le 0)).mono (by omega)
  have h2 : RpTx ShortT i64 (fun f => f.fName.length ≤ 1000 ∧ FlawI f) r := runR_tx (fun x hx => ⟨by have := numV_lt hx; omega, by have := numV_lt hx; omega⟩) hr ⟨⟨by simp [zR, ShortT], show i64 0 from ⟨by omega, by omega⟩⟩, by simp [zR]⟩ (fun s hs' => ⟨fun ts hts t ht => one1_short (hel s hs') hts t ht, fun f hf => ⟨flaw_name (hel s hs') hf, by
    obtain ⟨q, _, hq⟩ := Option.bind_eq_some_iff.1 hf
    exact flawL_small hq⟩⟩)
  have hrok : RepOk r := rep_ok_of h1 ⟨⟨h2.1.1, trivial⟩, fun g hg => ⟨⟨(h2.2 g hg).1.1, trivial⟩, fun m hm => ⟨⟨((h2.2 g hg).2 m hm).1.1, trivial⟩, fun f hf => (((h2.2 g hg).2 m hm).2.1 f hf).1, ((h2.2 g hg).2 m hm).2.2⟩⟩⟩ (by omega)
  have hri : RepI r := ⟨h2.1.2, fun g hg => ⟨(h2.2 g hg).1.2, fun m hm => ⟨((h2.2 g hg).2 m hm).1.2, fun f hf => (((h2.2 g hg).2 m hm).2.1 f hf).2⟩⟩⟩
  have hrep := read_repS hne hr
  refine .inr ⟨r, rfl, ?_, sameSegs_refl l (by omega) fun x hx => seg_ok (hok x hx)⟩
  rw [psegs_eqL r hri hrok (by rw [hrep]; omega)]
  unfold repSegs
  rw [hrep, hz, decide_eq_false (by omega : ¬ 2000 < l.length)]
  rfl
theorem tags_of {l : List Sg} (h : ∀ s ∈ l, segF s = 0) : TagsShort l := fun s hs => by
  have := (segF_iff.1 (h s hs)).1
  unfold tagF at this
  split at this
  · rename_i h2; rw [h2]; simp
  · rename_i h2
    simp only [Bool.and_eq_true, decide_eq_true_eq] at this
    rw [h2]
    have := this.1.1.2
    simp only [List.length_cons]
    omega
theorem law_rback (r : Rp) (l : List Sg) (hi : RepI r) (hr : RepOk r) (hb : dvBL (rTapi_Reply r) ≤ 1048576) (hle : RpLe 1048576 r) (hs : TagsShort l) : m_interchangelaw7_ReplySegmentsComeBack r l = some true := by
  have tail : ((m_reply_Read l).bind fun x => bif !decide (x.snd.snd = 0) then (andO (decide (x.fst.fRef = [])) (m_interchangelaw7_awake.bind fun x => some x)).bind fun v => some v
      else (m_reply_Segments x.fst).bind fun x => (andO (decide (x.snd = 0)) ((m_interchangeref2_SameSegments x.fst l).bind fun x => some x)).bind fun v => (andO v (m_interchangelaw7_awake.bind fun x => some x)).bind fun v => some v) = some true := by
    rw [p_Read l hs]
    rcases read_back l hs with ⟨n, f, h1, h2⟩ | ⟨q, h1, h2, h3⟩
    · simp only [h1, Option.bind_some, decide_eq_false h2, Bool.not_false, cond_true, awake_eq, zR, decide_true, andO_some, Bool.and_self]
    · simp only [h1, Option.bind_some, decide_true, Bool.not_true, cond_false, h2, h3, awake_eq, andO_some, Bool.and_self]
  unfold m_interchangelaw7_ReplySegmentsComeBack sims_GM_0_0; dsimp only
  rw [psegs_eq r hi hr hb]
  simp only [Option.bind_some]
  unfold repSegs
  by_cases hz : rpF r = 0
  · simp only [hz, decide_true, Bool.not_true, cond_false]
    by_cases hn : 2000 < (repS_ r).length
    · simp only [hn, decide_true, cond_true]
      exact tail
    · have hg := rep_good hz
      have hall := repS_right hg
      have hrd : readF (repS_ r) = (r, 0, 0) := by
        unfold readF
        have h0 : segsF (repS_ r) = 0 := by
          unfold segsF
          rw [if_neg hn, listF_all hall]
        rw [if_pos h0, run_rep r hg]
        simp only
        rw [if_neg (by unfold repS_; simp), if_pos hz]
      simp only [hn, decide_false, cond_false, decide_true, cond_true, p_Read (repS_ r) (tags_of hall), hrd, Option.bind_some, Bool.not_true, orO_some, Bool.or_self, sameReply_refl r hle]
      exact tail
  · simp only [hz, decide_false, Bool.not_false, cond_true, cond_false]
    exact tail
end Go.Proofs.YtcbdpjgejbcpgaaGreatDoor

/-
  Bulk bounds the parts of a reply.
-/
namespace Go.Proofs.YtcbdpjgejbcpgaaGreatDoor
set_option linter.unusedSimpArgs false
set_option linter.unusedVariables false
open Go.RowKit

theorem rep_le (r : Rp) (hb : dvBL (rTapi_Reply r) ≤ 1048576) : RpLe 1048576 r := by
  have h0 : r.fGroups.length ≤ dvBR (r.fGroups.map rTapi_GroupReply) := dvBR_len (fun g => by simp only [rTapi_GroupReply, dvBL, dvB]; omega) _
  simp only [rTapi_Reply, dvBL, dvB] at hb
  refine ⟨by omega, fun g hg => ?_⟩
  have h1 : dvBL (rTapi_GroupReply g) ≤ dvBR (r.fGroups.map rTapi_GroupReply) := dvBR_mem (List.mem_map_of_mem hg)
  have h2 : g.fMessages.length ≤ dvBR (g.fMessages.map rTapi_MessageReply) := dvBR_len (fun m => by simp only [rTapi_MessageReply, dvBL, dvB]; omega) _
  simp only [rTapi_GroupReply, dvBL, dvB] at h1
  refine ⟨by omega, fun m hm => ?_⟩
  have h3 : dvBL (rTapi_MessageReply m) ≤ dvBR (g.fMessages.map rTapi_MessageReply) := dvBR_mem (List.mem_map_of_mem hm)
  have h4 : m.fFlaws.length ≤ dvBR (m.fFlaws.map rTapi_Flaw) := dvBR_len (fun m => by simp [rTapi_Flaw, rTapi_Spot, dvBL, dvB]) _
  have h5 : m.fFailing.length ≤ dvBR (m.fFailing.map rowS) := dvBR_len (fun m => by simp [rowS, dvBL, dvB]) _
  simp only [rTapi_MessageReply, dvBL, dvB] at h3
  exact ⟨by omega, by omega⟩
theorem law_rbackU (x0 : Tapi_Reply) (x1 : List Tapi_Segment) (o0 : okTapi_Reply x0) (o1 : okL okTapi_Segment x1) (hb : dvBL [.agg (rTapi_Reply x0), .slice (x1.map rTapi_Segment)] ≤ 1048576) : m_interchangelaw7_ReplySegmentsComeBack x0 x1 = some true := by
  have h : dvBL (rTapi_Reply x0) ≤ 1048576 := by simp only [dvBL, dvB] at hb; omega
  exact law_rback x0 x1 (rep_i x0 o0) (rep_ok x0 o0 h) h (rep_le x0 h) (fun s hs => (o1.2 s hs).1)
end Go.Proofs.YtcbdpjgejbcpgaaGreatDoor

/-
  Texts of mine, one behind the other (SXRP6, SXGP, SXRP7, SXGQ, SXRP8, SXK0, SXRP9a, SXRP9).
-/
import Derived.Test.YtcbdpjgejbcpgaaGreatDoorBX2
import Derived.KernelRfl
/-
  Plain laws of replies: what a list of segments is read as.
-/
namespace Go.Proofs.YtcbdpjgejbcpgaaGreatDoor
set_option linter.unusedSimpArgs false
set_option linter.unusedVariables false
open Go.RowKit

/-- The last of a list is changed. -/
def lastO {α : Type} (l : List α) (f : α → Option α) : Option (List α) := match l.getLast? with
  | some a => (f a).map fun b => l.dropLast ++ [b]
  | none => none
theorem lastO_nil {α : Type} (f : α → Option α) : lastO [] f = none := rfl
theorem lastO_snoc {α : Type} (l : List α) (a : α) (f : α → Option α) : lastO (l ++ [a]) f = (f a).map fun b => l ++ [b] := by
  unfold lastO
  simp
theorem snoc_cases {α : Type} (l : List α) : l = [] ∨ ∃ p a, l = p ++ [a] := by
  rcases List.eq_nil_or_concat l with h | ⟨p, a, h⟩
  · exact .inl h
  · exact .inr ⟨p, a, by rw [h, List.concat_eq_append]⟩
theorem set_snoc {α : Type} (l : List α) (a b : α) (h : l.length < 9223372036854775807) : (l ++ [a]).set (IntKind.i64.wrap (((l ++ [a]).length : Int) - 1)).toNat b = l ++ [b] := by
  rw [(getI_last l a h).2]
  simp
abbrev Sg := Tapi_Segment
def zR : Rp := ⟨[], 0, []⟩
noncomputable def rpPut (r : Rp) (f : Mr → Option Mr) : Option Rp := (lastO r.fGroups fun g => (lastO g.fMessages f).map fun ms => ⟨g.fRef, g.fVerdict, ms⟩).map fun gs => ⟨r.fRef, r.fVerdict, gs⟩
noncomputable def stepI (s : Sg) : Option Rp := if s.fTag = [65, 75, 73] then (headF false s.fElements).map fun h => ⟨h.1, h.2.1, []⟩ else none
noncomputable def stepG (r : Rp) (s : Sg) : Option Rp := (headF false s.fElements).map fun h => ⟨r.fRef, r.fVerdict, r.fGroups ++ [⟨h.1, h.2.1, []⟩]⟩
noncomputable def stepM (r : Rp) (s : Sg) : Option Rp := (headF true s.fElements).bind fun h => (lastO r.fGroups fun g => some ⟨g.fRef, g.fVerdict, g.fMessages ++ [⟨h.1, h.2.1, h.2.2, [], []⟩]⟩).map fun gs => ⟨r.fRef, r.fVerdict, gs⟩
noncomputable def stepF (r : Rp) (s : Sg) : Option Rp := ((mapO oneP s.fElements).bind flawL).bind fun f => rpPut r fun m => if m.fFailing = [] then some ⟨m.fRef, m.fVerdict, m.fUnknown, m.fFlaws ++ [f], m.fFailing⟩ else none
noncomputable def stepL (r : Rp) (s : Sg) : Option Rp := match mapO one1 s.fElements with
  | some [t] => rpPut r fun m => some ⟨m.fRef, m.fVerdict, m.fUnknown, m.fFlaws, m.fFailing ++ [t]⟩
  | _ => none
/-- One segment. -/
noncomputable def stepR (first : Bool) (r : Rp) (s : Sg) : Option Rp :=
  if first = true then stepI s
  else if s.fTag = [65, 75, 71] then stepG r s
  else if s.fTag = [65, 75, 77] then stepM r s
  else if s.fTag = [65, 75, 70] then stepF r s
  else if s.fTag = [65, 75, 82] then stepL r s
  else none
/-- All segments; or the number of the wrong one. -/
noncomputable def runR : List Sg → Bool → Rp → Nat → Rp ⊕ Nat
  | [], _, r, _ => .inl r
  | s :: l, b, r, i => match stepR b r s with
    | some r' => runR l false r' (i + 1)
    | none => .inr i
noncomputable def readF (l : List Sg) : Rp × Int × Int := if segsF l = 0 then (match runR l true zR 0 with
  | .inr i => (zR, (i : Int), 10)
  | .inl r => if l = [] then (zR, 0, 10) else if rpF r = 0 then (r, 0, 0) else (zR, 0, rpF r)) else (zR, 0, segsF l)
/-- How long the parts of a reply are. -/
def RpLe (n : Nat) (r : Rp) : Prop := r.fGroups.length ≤ n ∧ ∀ g ∈ r.fGroups, g.fMessages.length ≤ n ∧ ∀ m ∈ g.fMessages, m.fFlaws.length ≤ n ∧ m.fFailing.length ≤ n
theorem lastO_some {α : Type} {l : List α} {f : α → Option α} {l' : List α} (h : lastO l f = some l') : ∃ p a b, l = p ++ [a] ∧ f a = some b ∧ l' = p ++ [b] := by
  rcases snoc_cases l with rfl | ⟨p, a, rfl⟩
  · rw [lastO_nil] at h; cases h
  · rw [lastO_snoc] at h
    obtain ⟨b, hb, h⟩ := Option.map_eq_some_iff.1 h
    exact ⟨p, a, b, rfl, hb, h.symm⟩
theorem rpPut_some {r r' : Rp} {f : Mr → Option Mr} (h : rpPut r f = some r') : ∃ gp gR gV mp m m', r.fGroups = gp ++ [⟨gR, gV, mp ++ [m]⟩] ∧ f m = some m' ∧ r' = ⟨r.fRef, r.fVerdict, gp ++ [⟨gR, gV, mp ++ [m']⟩]⟩ := by
  unfold rpPut at h
  obtain ⟨gs, hgs, h⟩ := Option.map_eq_some_iff.1 h
  obtain ⟨gp, g, g', h1, h2, rfl⟩ := lastO_some hgs
  obtain ⟨ms, hms, h3⟩ := Option.map_eq_some_iff.1 h2
  obtain ⟨mp, m, m', h4, h5, rfl⟩ := lastO_some hms
  refine ⟨gp, g.fRef, g.fVerdict, mp, m, m', ?_, h5, ?_⟩
  · rw [h1, ← h4]
  · rw [← h, ← h3]
theorem rpPut_snoc (r : Rp) (gp : List Gr) (gR : Txt) (gV : Int) (mp : List Mr) (m : Mr) (f : Mr → Option Mr) (h : r.fGroups = gp ++ [⟨gR, gV, mp ++ [m]⟩]) : rpPut r f = (f m).map fun m' => ⟨r.fRef, r.fVerdict, gp ++ [⟨gR, gV, mp ++ [m']⟩]⟩ := by
  unfold rpPut
  rw [h, lastO_snoc]
  simp only [lastO_snoc]
  cases f m <;> rfl
theorem RpLe.put {n : Nat} {r r' : Rp} {f : Mr → Option Mr} (h : RpLe n r) (hp : rpPut r f = some r') (hf : ∀ m m', f m = some m' → m'.fFlaws.length ≤ m.fFlaws.length + 1 ∧ m'.fFailing.length ≤ m.fFailing.length + 1) : RpLe (n + 1) r' := by
  obtain ⟨gp, gR, gV, mp, m, m', h1, h2, rfl⟩ := rpPut_some hp
  have h3 := hf m m' h2
  obtain ⟨h4, h5⟩ := h
  rw [h1] at h4 h5
  refine ⟨by simp at h4 ⊢; omega, fun g hg => ?_⟩
  rcases List.mem_append.1 hg with hg | hg
  · obtain ⟨h6, h7⟩ := h5 g (List.mem_append_left _ hg)
    exact ⟨by omega, fun x hx => ⟨by have := (h7 x hx).1; omega, by have := (h7 x hx).2; omega⟩⟩
  · rw [List.mem_singleton] at hg
    subst hg
    obtain ⟨h6, h7⟩ := h5 ⟨gR, gV, mp ++ [m]⟩ (by simp)
    simp only [List.length_append, List.length_singleton] at h6 ⊢
    refine ⟨by omega, fun x hx => ?_⟩
    simp only at hx h7
    rcases List.mem_append.1 hx with hx | hx
    · have := h7 x (List.mem_append_left _ hx); omega
    · rw [List.mem_singleton] at hx
      subst hx
      have := h7 m (by simp); omega
theorem RpLe.step {n : Nat} {r r' : Rp} {s : Sg} {b : Bool} (h : RpLe n r) (hs : stepR b r s = some r') : RpLe (n + 1) r' := by
  unfold stepR at hs
  split at hs
  · unfold stepI at hs
    split at hs
    · obtain ⟨q, _, rfl⟩ := Option.map_eq_some_iff.1 hs
      exact ⟨by simp, by simp⟩
    · cases hs
  split at hs
  · unfold stepG at hs
    obtain ⟨q, _, rfl⟩ := Option.map_eq_some_iff.1 hs
    refine ⟨by have := h.1; simp; omega, fun g hg => ?_⟩
    rcases List.mem_append.1 hg with hg | hg
    · obtain ⟨h6, h7⟩ := h.2 g hg
      exact ⟨by omega, fun x hx => ⟨by have := (h7 x hx).1; omega, by have := (h7 x hx).2; omega⟩⟩
    · rw [List.mem_singleton] at hg
      subst hg
      exact ⟨by simp, by simp⟩
  split at hs
  · unfold stepM at hs
    obtain ⟨q, _, hs⟩ := Option.bind_eq_some_iff.1 hs
    obtain ⟨gs, hgs, rfl⟩ := Option.map_eq_some_iff.1 hs
    obtain ⟨gp, g0, g', h1, h2, rfl⟩ := lastO_some hgs
    cases h2
    obtain ⟨h4, h5⟩ := h
    rw [h1] at h4 h5
    refine ⟨by simp at h4 ⊢; omega, fun g hg => ?_⟩
    rcases List.mem_append.1 hg with hg | hg
    · obtain ⟨h6, h7⟩ := h5 g (List.mem_append_left _ hg)
      exact ⟨by omega, fun x hx => ⟨by have := (h7 x hx).1; omega, by have := (h7 x hx).2; omega⟩⟩
    · rw [List.mem_singleton] at hg
      subst hg
      obtain ⟨h6, h7⟩ := h5 g0 (by simp)
      refine ⟨by simp; omega, fun x hx => ?_⟩
      rcases List.mem_append.1 hx with hx | hx
      · have := h7 x hx; omega
      · rw [List.mem_singleton] at hx
        subst hx; simp
  split at hs
  · unfold stepF at hs
    obtain ⟨q, _, hs⟩ := Option.bind_eq_some_iff.1 hs
    refine h.put hs fun m m' hm => ?_
    split at hm
    · cases hm; simp
    · cases hm
  split at hs
  · unfold stepL at hs
    split at hs
    · refine h.put hs fun m m' hm => ?_
      cases hm; simp
    · cases hs
  · cases hs
/-- Whether the last message has a failing rule. -/
def FailsB (b : Bool) (r : Rp) : Prop := ∀ gp gR gV mp m, r.fGroups = gp ++ [⟨gR, gV, mp ++ [m]⟩] → b = !decide (m.fFailing = [])
theorem snoc_inj {α : Type} {p q : List α} {a b : α} (h : p ++ [a] = q ++ [b]) : p = q ∧ a = b := by
  have := List.append_inj' h rfl
  exact ⟨this.1, by simpa using this.2⟩
end Go.Proofs.YtcbdpjgejbcpgaaGreatDoor




/-
  Plain laws of replies: Read of the program.
-/
namespace Go.Proofs.YtcbdpjgejbcpgaaGreatDoor
set_option linter.unusedSimpArgs false
set_option linter.unusedVariables false
open Go.RowKit

theorem stepR_T (r : Rp) (s : Sg) : stepR true r s = stepI s := by unfold stepR; rw [if_pos rfl]
theorem stepR_G {r : Rp} {s : Sg} (h : s.fTag = [65, 75, 71]) : stepR false r s = stepG r s := by unfold stepR; rw [if_neg (by decide), if_pos h]
theorem stepR_M {r : Rp} {s : Sg} (h : s.fTag = [65, 75, 77]) : stepR false r s = stepM r s := by unfold stepR; rw [if_neg (by decide), if_neg (by rw [h]; decide), if_pos h]
theorem stepR_F {r : Rp} {s : Sg} (h : s.fTag = [65, 75, 70]) : stepR false r s = stepF r s := by unfold stepR; rw [if_neg (by decide), if_neg (by rw [h]; decide), if_neg (by rw [h]; decide), if_pos h]
theorem stepR_L {r : Rp} {s : Sg} (h : s.fTag = [65, 75, 82]) : stepR false r s = stepL r s := by unfold stepR; rw [if_neg (by decide), if_neg (by rw [h]; decide), if_neg (by rw [h]; decide), if_neg (by rw [h]; decide), if_pos h]
theorem stepR_N {r : Rp} {s : Sg} (h1 : s.fTag ≠ [65, 75, 71]) (h2 : s.fTag ≠ [65, 75, 77]) (h3 : s.fTag ≠ [65, 75, 70]) (h4 : s.fTag ≠ [65, 75, 82]) : stepR false r s = none := by unfold stepR; rw [if_neg (by decide), if_neg h1, if_neg h2, if_neg h3, if_neg h4]
/-- What holds of all texts, verdicts and flaws of a reply. -/
def RpTx (T : Txt → Prop) (V : Int → Prop) (F : Fl → Prop) (r : Rp) : Prop := (T r.fRef ∧ V r.fVerdict) ∧ ∀ g ∈ r.fGroups, (T g.fRef ∧ V g.fVerdict) ∧ ∀ m ∈ g.fMessages, (T m.fRef ∧ V m.fVerdict) ∧ (∀ f ∈ m.fFlaws, F f) ∧ ∀ t ∈ m.fFailing, T t
theorem headF_in {b : Bool} {es : List Tapi_Element} {h : Txt × Int × Bool} (hh : headF b es = some h) : ∃ ts x, mapO one1 es = some ts ∧ h.1 ∈ ts ∧ numOk x = true ∧ h.2.1 = numV x := by
  unfold headF at hh
  split at hh
  · rename_i a c hm
    split at hh
    · rename_i hn
      cases hh
      exact ⟨[a, c], c, hm, by simp, hn, rfl⟩
    · cases hh
  · rename_i a c d hm
    split at hh
    · rename_i hn
      cases hh
      exact ⟨[a, c, d], c, hm, by simp, hn.2.2, rfl⟩
    · cases hh
  · cases hh
theorem RpTx.put {T : Txt → Prop} {V : Int → Prop} {F : Fl → Prop} {r r' : Rp} {f : Mr → Option Mr} (h : RpTx T V F r) (hp : rpPut r f = some r')
    (hf : ∀ m m', f m = some m' → ((T m.fRef ∧ V m.fVerdict) ∧ (∀ f ∈ m.fFlaws, F f) ∧ ∀ t ∈ m.fFailing, T t) → ((T m'.fRef ∧ V m'.fVerdict) ∧ (∀ f ∈ m'.fFlaws, F f) ∧ ∀ t ∈ m'.fFailing, T t)) : RpTx T V F r' := by
  obtain ⟨gp, gR, gV, mp, m, m', h1, h2, rfl⟩ := rpPut_some hp
  obtain ⟨h4, h5⟩ := h
  rw [h1] at h5
  refine ⟨h4, fun g hg => ?_⟩
  rcases List.mem_append.1 hg with hg | hg
  · exact h5 g (List.mem_append_left _ hg)
  · rw [List.mem_singleton] at hg
    subst hg
    obtain ⟨h6, h7⟩ := h5 ⟨gR, gV, mp ++ [m]⟩ (by simp)
    refine ⟨h6, fun x hx => ?_⟩
    simp only at hx h7
    rcases List.mem_append.1 hx with hx | hx
    · exact h7 x (List.mem_append_left _ hx)
    · rw [List.mem_singleton] at hx
      subst hx
      exact hf m _ h2 (h7 m (by simp))
theorem RpTx.step {T : Txt → Prop} {V : Int → Prop} {F : Fl → Prop} {r r' : Rp} {s : Sg} {b : Bool} (h : RpTx T V F r) (hs : stepR b r s = some r')
    (hT : ∀ ts, mapO one1 s.fElements = some ts → ∀ t ∈ ts, T t) (hV : ∀ x, numOk x = true → V (numV x)) (hF : ∀ f, (mapO oneP s.fElements).bind flawL = some f → F f) : RpTx T V F r' := by
  have hH : ∀ {b : Bool} {q : Txt × Int × Bool}, headF b s.fElements = some q → T q.1 ∧ V q.2.1 := fun hq => by
    obtain ⟨ts, x, h1, h2, h3, h4⟩ := headF_in hq
    exact ⟨hT ts h1 _ h2, h4 ▸ hV x h3⟩
  unfold stepR at hs
  split at hs
  · unfold stepI at hs
    split at hs
    · obtain ⟨q, hq, rfl⟩ := Option.map_eq_some_iff.1 hs
      exact ⟨hH hq, by simp⟩
    · cases hs
  split at hs
  · unfold stepG at hs
    obtain ⟨q, hq, rfl⟩ := Option.map_eq_some_iff.1 hs
    refine ⟨h.1, fun g hg => ?_⟩
    rcases List.mem_append.1 hg with hg | hg
    · exact h.2 g hg
    · rw [List.mem_singleton] at hg
      subst hg
      exact ⟨hH hq, by simp⟩
  split at hs
  · unfold stepM at hs
    obtain ⟨q, hq, hs⟩ := Option.bind_eq_some_iff.1 hs
    obtain ⟨gs, hgs, rfl⟩ := Option.map_eq_some_iff.1 hs
    obtain ⟨gp, g0, g', h1, h2, rfl⟩ := lastO_some hgs
    cases h2
    obtain ⟨h4, h5⟩ := h
    rw [h1] at h5
    refine ⟨h4, fun g hg => ?_⟩
    rcases List.mem_append.1 hg with hg | hg
    · exact h5 g (List.mem_append_left _ hg)
    · rw [List.mem_singleton] at hg
      subst hg
      obtain ⟨h6, h7⟩ := h5 g0 (by simp)
      refine ⟨h6, fun x hx => ?_⟩
      rcases List.mem_append.1 hx with hx | hx
      · exact h7 x hx
      · rw [List.mem_singleton] at hx
        subst hx; exact ⟨hH hq, by simp, by simp⟩
  split at hs
  · unfold stepF at hs
    obtain ⟨q, hq, hs⟩ := Option.bind_eq_some_iff.1 hs
    refine h.put hs fun m m' hm h8 => ?_
    split at hm
    · cases hm
      refine ⟨h8.1, fun f hf => ?_, h8.2.2⟩
      rcases List.mem_append.1 hf with hf | hf
      · exact h8.2.1 f hf
      · rw [List.mem_singleton] at hf; subst hf; exact hF _ hq
    · cases hm
  split at hs
  · unfold stepL at hs
    split at hs
    · rename_i t ht
      refine h.put hs fun m m' hm h8 => ?_
      cases hm
      refine ⟨h8.1, h8.2.1, fun f hf => ?_⟩
      rcases List.mem_append.1 hf with hf | hf
      · exact h8.2.2 f hf
      · rw [List.mem_singleton] at hf; subst hf; exact hT _ ht _ (by simp)
    · cases hs
  · cases hs
def ShortT (t : Txt) : Prop := t.length ≤ 1000
def fg : Nat → Bool
  | 0 => true
  | _ + 1 => false
theorem flaw_name {es : List Tapi_Element} (hok : ∀ e ∈ es, elemF e = 0) {f : Tapi_Flaw} (hf : (mapO oneP es).bind flawL = some f) : f.fName.length ≤ 1000 := by
  obtain ⟨l, hl, hf⟩ := Option.bind_eq_some_iff.1 hf
  have h1 := mapO_ok hok l hl
  unfold flawL at hf
  split at hf
  · rename_i p q r
    obtain ⟨k, _, hf⟩ := Option.bind_eq_some_iff.1 hf
    obtain ⟨g, _, hf⟩ := Option.bind_eq_some_iff.1 hf
    split at hf
    · unfold flawR at hf
      split at hf
      · cases hf; simp
      · obtain ⟨s, _, rfl⟩ := Option.map_eq_some_iff.1 hf; simp
      · obtain ⟨n, hn, hf⟩ := Option.bind_eq_some_iff.1 hf
        have hsh : n.length ≤ 1000 := (h1 [n] (by rw [← tx1_mem hn]; simp)).2.2 n (by simp)
        split at hf
        · cases hf
        · split at hf
          · cases hf; exact hsh
          · obtain ⟨s, _, rfl⟩ := Option.map_eq_some_iff.1 hf; exact hsh
      · cases hf
    · cases hf
  · cases hf
theorem rep_ok_of {n : Nat} {r : Rp} (h1 : RpLe n r) (h2 : RpTx ShortT (fun _ => True) (fun f => f.fName.length ≤ 1000) r) (hn : n ≤ 1048576) : RepOk r := by
  unfold ShortT at h2
  have mx : (1048576 : Nat) ≤ MX := by unfold MX; omega
  refine ⟨by have := h2.1.1; omega, by have := h1.1; omega, fun g hg => ?_⟩
  obtain ⟨h3, h4⟩ := h1.2 g hg
  obtain ⟨h5, h6⟩ := h2.2 g hg
  refine ⟨by have := h5.1; omega, by omega, fun m hm => ?_⟩
  obtain ⟨h7, h8⟩ := h4 m hm
  obtain ⟨h9, h10, h11⟩ := h6 m hm
  exact ⟨by have := h9.1; omega, by omega, fun f hf => by have := h10 f hf; omega, by omega, fun t ht => by have := h11 t ht; omega⟩
theorem FailsB.noM {b : Bool} {r : Rp} {gp : List Gr} {gR : Txt} {gV : Int} (h : r.fGroups = gp ++ [⟨gR, gV, []⟩]) : FailsB b r := by
  intro gp' gR' gV' mp m h2
  rw [h] at h2
  have := (snoc_inj h2).2
  injection this with _ _ h3
  simp at h3
theorem FailsB.noG {b : Bool} {r : Rp} (h : r.fGroups = []) : FailsB b r := by
  intro gp' gR' gV' mp m h2
  rw [h] at h2
  simp at h2
theorem FailsB.ofM {b : Bool} {r : Rp} {gp : List Gr} {gR : Txt} {gV : Int} {mp : List Mr} {m : Mr} (h : r.fGroups = gp ++ [⟨gR, gV, mp ++ [m]⟩]) (hb : b = !decide (m.fFailing = [])) : FailsB b r := by
  intro gp' gR' gV' mp' m' h2
  rw [h] at h2
  have := (snoc_inj h2).2
  injection this with _ _ h3
  rw [← (snoc_inj h3).2]
  exact hb
theorem rpPut_noG {r : Rp} (h : r.fGroups = []) (f : Mr → Option Mr) : rpPut r f = none := by unfold rpPut; rw [h, lastO_nil]; rfl
theorem rpPut_noM {r : Rp} {gp : List Gr} {gR : Txt} {gV : Int} (h : r.fGroups = gp ++ [⟨gR, gV, []⟩]) (f : Mr → Option Mr) : rpPut r f = none := by unfold rpPut; rw [h, lastO_snoc]; rfl
theorem stepR_none {r : Rp} {s : Sg} (h1 : s.fTag ≠ [65, 75, 71]) (h2 : s.fTag ≠ [65, 75, 77]) (h : ∀ f, rpPut r f = none) : stepR false r s = none := by
  unfold stepR
  rw [if_neg (by decide), if_neg h1, if_neg h2]
  split
  · unfold stepF
    simp only [h]
    cases (mapO oneP s.fElements).bind flawL <;> rfl
  split
  · unfold stepL
    split
    · exact h _
    · rfl
  · rfl
theorem p_Read (l : List Sg) (hs : TagsShort l) : m_reply_Read l = some (readF l) := by
  unfold m_reply_Read sims_GTW_3_0; dsimp only
  rw [w_segs l hs]
  simp only [Option.bind_some]
  unfold readF
  by_cases h0 : segsF l = 0
  case neg => simp only [h0, decide_false, Bool.not_false, cond_true, if_false]; rfl
  simp only [h0, decide_true, Bool.not_true, cond_false, if_true]
  obtain ⟨hl, hok⟩ := segs_in h0
  refine loop_to (X := Nat × Rp × Bool) (fun x => (x.2.1.fRef, x.2.1.fVerdict, x.2.1.fGroups, !fg x.1, x.2.2, zR, (x.1 : Int))) (fun x => l.length - x.1)
    (fun x => x.1 ≤ l.length ∧ (x.1 = 0 → x.2.1 = zR) ∧ (RpLe x.1 x.2.1 ∧ RpTx ShortT (fun _ => True) (fun f => f.fName.length ≤ 1000) x.2.1) ∧ FailsB x.2.2 x.2.1 ∧ runR l true zR 0 = runR (l.drop x.1) (fg x.1) x.2.1 x.1) ?_ (0, zR, false)
    ⟨Nat.zero_le _, fun _ => rfl, ⟨⟨Nat.zero_le _, by simp [zR]⟩, ⟨by simp [zR, ShortT], trivial⟩, by simp [zR]⟩, FailsB.noG rfl, rfl⟩
  rintro ⟨i, r, b⟩ ⟨h1, h2, ⟨h3, h4⟩, h5, h6⟩
  simp only at h1 h2 h3 h4 h5 h6 ⊢
  rcases Nat.lt_or_ge i l.length with hi | hi
  case inr =>
    have hli : i = l.length := by omega
    subst hli
    rw [List.drop_length] at h6
    refine .inr ⟨_, by simp only [lt_dec_self, cond_false]; rfl, ?_⟩
    rw [h6]
    simp only [runR, outK]
    cases l with
    | nil => rfl
    | cons a l' =>
      simp only [List.length_cons, fg, Bool.not_false, Bool.not_true, cond_false, rep_eq r (rep_ok_of h3 h4 (by omega)), Option.bind_some]
      by_cases hr : rpF r = 0 <;> simp [hr, zR]
  obtain ⟨e, he⟩ := get_lt hi
  have hd : l.drop i = e :: l.drop (i + 1) := by
    rw [List.drop_eq_getElem_cons hi]
    congr 1
    exact Option.some.inj ((List.getElem?_eq_getElem hi).symm.trans he)
  have hrun : runR l true zR 0 = match stepR (fg i) r e with | some r' => runR (l.drop (i + 1)) false r' (i + 1) | none => .inr i := by rw [h6, hd]; rfl
  obtain ⟨htag, hlen, hel⟩ := segF_iff.1 (hok e (List.mem_of_getElem? he))
  have good : ∀ r' b', stepR (fg i) r e = some r' → FailsB b' r' → (i + 1 ≤ l.length ∧ (i + 1 = 0 → r' = zR) ∧ (RpLe (i + 1) r' ∧ RpTx ShortT (fun _ => True) (fun f => f.fName.length ≤ 1000) r') ∧ FailsB b' r' ∧ runR l true zR 0 = runR (l.drop (i + 1)) (fg (i + 1)) r' (i + 1)) := fun r' b' hst hb =>
    ⟨hi, nofun, ⟨h3.step hst, h4.step hst (fun ts hts t ht => one1_short hel hts t ht) (fun _ _ => trivial) (fun f hf => flaw_name hel hf)⟩, hb, by rw [hrun, hst]; rfl⟩
  simp only [lt_dec hi, cond_true, getI_nat, he, Option.bind_some, Bool.not_not, wrapN i (by omega)]
  cases i with
  | zero =>
    have hr := h2 rfl
    subst hr
    simp only [fg, cond_true] at good hrun ⊢
    rw [stepR_T] at good hrun
    obtain ⟨z, hz, hz2⟩ := p_head e false (by omega) hel
    rw [hz]
    simp only [Option.bind_some]
    unfold stepI at good hrun
    cases hh : headF false e.fElements with
    | none =>
      rw [hh] at hz2 hrun
      simp only at hz2
      simp only [hz2, andO_some, Bool.false_and, Bool.not_false, cond_true]
      refine .inr ⟨_, rfl, ?_⟩
      rw [hrun]
      by_cases ht : e.fTag = [65, 75, 73] <;> simp [ht] <;> rfl
    | some h =>
      rw [hh] at hz2 hrun good
      simp only at hz2
      subst hz2
      by_cases ht : e.fTag = [65, 75, 73]
      · simp only [ht, decide_true, andO_some, Bool.and_self, Bool.not_true, cond_false, if_true, Option.map_some] at good ⊢
        exact .inl ⟨(1, ⟨h.1, h.2.1, []⟩, b), good _ b rfl (FailsB.noG rfl), by simp only; omega, rfl⟩
      · simp only [ht, decide_false, andO_some, Bool.and_false, Bool.not_false, cond_true, if_false] at hrun ⊢
        exact .inr ⟨_, rfl, by rw [hrun]; rfl⟩
  | succ i =>
    simp only [fg, cond_false] at good hrun ⊢
    by_cases hG : e.fTag = [65, 75, 71]
    · rw [stepR_G hG] at good hrun
      unfold stepG at good hrun
      simp only [hG, decide_true, cond_true]
      obtain ⟨z, hz, hz2⟩ := p_head e false (by omega) hel
      rw [hz]
      simp only [Option.bind_some]
      rw [thenO_ok (by have := h3.1; simp only [List.length_singleton]; omega)]
      cases hh : headF false e.fElements with
      | none =>
        rw [hh] at hz2 hrun
        simp only at hz2
        simp only [hz2, Bool.not_false, cond_true]
        exact .inr ⟨_, rfl, by rw [hrun]; rfl⟩
      | some h =>
        rw [hh] at hz2 hrun good
        simp only at hz2
        subst hz2
        simp only [Bool.not_true, cond_false]
        exact .inl ⟨(i + 1 + 1, ⟨r.fRef, r.fVerdict, r.fGroups ++ [⟨h.1, h.2.1, []⟩]⟩, b), good _ b rfl (FailsB.noM rfl), by simp only; omega, rfl⟩
    simp only [hG, decide_false, cond_false]
    by_cases hM : e.fTag = [65, 75, 77]
    · rw [stepR_M hM] at good hrun
      unfold stepM at good hrun
      simp only [hM, decide_true, cond_true]
      obtain ⟨z, hz, hz2⟩ := p_head e true (by omega) hel
      rw [hz]
      simp only [Option.bind_some]
      rcases snoc_cases r.fGroups with hg | ⟨gp, g, hg⟩
      · simp only [hg, lastO_nil] at hrun
        simp only [hg, show decide (((([] : List Gr)).length : Int) = 0) = true from rfl, cond_true]
        refine .inr ⟨_, rfl, ?_⟩
        rw [hrun]
        cases headF true e.fElements <;> rfl
      · have hgl := h3.1
        rw [hg, List.length_append, List.length_singleton] at hgl
        simp only [hg, lastO_snoc] at hrun good
        have hz0 : decide (((gp ++ [g]).length : Int) = 0) = false := decide_eq_false (by simp; omega)
        simp only [hg, hz0, cond_false, (getI_last gp g (by omega)).1, Option.bind_some, set_snoc gp g _ (by omega)]
        have hml := (h3.2 g (by rw [hg]; simp)).1
        rw [thenO_ok (by simp only [List.length_singleton]; omega)]
        cases hh : headF true e.fElements with
        | none =>
          rw [hh] at hz2 hrun
          simp only at hz2
          simp only [hz2, Bool.not_false, cond_true]
          exact .inr ⟨_, rfl, by rw [hrun]; rfl⟩
        | some h =>
          rw [hh] at hz2 hrun good
          simp only at hz2
          subst hz2
          simp only [Bool.not_true, cond_false]
          exact .inl ⟨(i + 1 + 1, ⟨r.fRef, r.fVerdict, gp ++ [⟨g.fRef, g.fVerdict, g.fMessages ++ [⟨h.1, h.2.1, h.2.2, [], []⟩]⟩]⟩, false), good _ false rfl (FailsB.ofM rfl rfl), by simp only; omega, rfl⟩
    simp only [hM, decide_false, cond_false]
    rcases snoc_cases r.fGroups with hg | ⟨gp, g, hg⟩
    · rw [stepR_none hG hM (rpPut_noG hg)] at hrun
      simp only [hg, show decide (((([] : List Gr)).length : Int) = 0) = true from rfl, cond_true]
      exact .inr ⟨_, rfl, by rw [hrun]; rfl⟩
    obtain ⟨gR, gV, gM⟩ := g
    have hgl := h3.1
    rw [hg, List.length_append, List.length_singleton] at hgl
    have hz0 : decide (((gp ++ [(⟨gR, gV, gM⟩ : Gr)]).length : Int) = 0) = false := decide_eq_false (by simp; omega)
    simp only [hg, hz0, cond_false, (getI_last gp (⟨gR, gV, gM⟩ : Gr) (by omega)).1, Option.bind_some, set_snoc gp (⟨gR, gV, gM⟩ : Gr) _ (by omega), orO_some, Bool.false_or]
    have hml := (h3.2 ⟨gR, gV, gM⟩ (by rw [hg]; simp)).1
    simp only at hml
    rcases snoc_cases gM with rfl | ⟨mp, m, rfl⟩
    · rw [stepR_none hG hM (rpPut_noM hg)] at hrun
      simp only [show decide (((([] : List Mr)).length : Int) = 0) = true from rfl, cond_true]
      exact .inr ⟨_, rfl, by rw [hrun]; rfl⟩
    rw [List.length_append, List.length_singleton] at hml
    have hz1 : decide (((mp ++ [m]).length : Int) = 0) = false := decide_eq_false (by simp; omega)
    simp only [hz1, cond_false, (getI_last mp m (by omega)).1, Option.bind_some, set_snoc mp m _ (by omega)]
    have hfl := (h3.2 ⟨gR, gV, mp ++ [m]⟩ (by rw [hg]; simp)).2 m (by simp)
    have hb := h5 gp gR gV mp m hg
    by_cases hF : e.fTag = [65, 75, 70]
    · rw [stepR_F hF] at good hrun
      unfold stepF at good hrun
      simp only [rpPut_snoc r gp gR gV mp m _ hg] at good hrun
      simp only [hF, decide_true, cond_true]
      obtain ⟨z, hz, hz2⟩ := p_flawOf e (by omega) hel
      rw [hz]
      simp only [Option.bind_some]
      rw [thenO_ok (by simp only [List.length_singleton]; omega)]
      cases hh : (mapO oneP e.fElements).bind flawL with
      | none =>
        rw [hh] at hz2 hrun
        simp only [flawZ] at hz2
        simp only [hz2, andO_some, Bool.false_and, Option.bind_some, Bool.not_false, cond_true]
        exact .inr ⟨_, rfl, by rw [hrun]; rfl⟩
      | some f =>
        rw [hh] at hz2 hrun good
        simp only [flawZ] at hz2
        subst hz2
        simp only [andO_some, Bool.true_and, Option.bind_some, Bool.not_not, hb] at hrun good ⊢
        by_cases hf : m.fFailing = []
        · simp only [hf, if_true, Option.map_some, decide_true, Bool.not_true, cond_false] at good ⊢
          exact .inl ⟨(i + 1 + 1, ⟨r.fRef, r.fVerdict, gp ++ [⟨gR, gV, mp ++ [⟨m.fRef, m.fVerdict, m.fUnknown, m.fFlaws ++ [f], []⟩]⟩]⟩, false), good _ false rfl (FailsB.ofM rfl rfl), by simp only; omega, rfl⟩
        · simp only [hf, if_false, Option.map_none, decide_false, Bool.not_false, cond_true] at hrun ⊢
          exact .inr ⟨_, rfl, by rw [hrun]; rfl⟩
    simp only [hF, decide_false, cond_false]
    by_cases hL : e.fTag = [65, 75, 82]
    · rw [stepR_L hL] at good hrun
      unfold stepL at good hrun
      simp only [rpPut_snoc r gp gR gV mp m _ hg] at good hrun
      simp only [hL, decide_true, cond_true, p_plain e (by omega) hel, Option.bind_some]
      cases hh : mapO one1 e.fElements with
      | none =>
        simp only [hh] at hrun
        simp only [Bool.not_false, orO, cond_true, Option.bind_some]
        exact .inr ⟨_, rfl, by rw [hrun]; rfl⟩
      | some ts =>
        simp only [hh] at hrun good
        simp only [Bool.not_true, orO_some, Bool.false_or, Option.bind_some]
        match ts, hh, hrun, good with
        | [], hh, hrun, good =>
          simp only [show decide (((([] : List Txt)).length : Int) = 1) = false from rfl, Bool.not_false, cond_true]
          exact .inr ⟨_, rfl, by rw [hrun]; rfl⟩
        | [t], hh, hrun, good =>
          simp only [show decide (((([t] : List Txt)).length : Int) = 1) = true from rfl, Bool.not_true, cond_false, show getI [t] 0 = some t from rfl, Option.bind_some]
          rw [thenO_ok (by simp only [List.length_singleton]; omega)]
          exact .inl ⟨(i + 1 + 1, ⟨r.fRef, r.fVerdict, gp ++ [⟨gR, gV, mp ++ [⟨m.fRef, m.fVerdict, m.fUnknown, m.fFlaws, m.fFailing ++ [t]⟩]⟩]⟩, true), good _ true rfl (FailsB.ofM rfl (by simp)), by simp only; omega, rfl⟩
        | t :: u :: ts, hh, hrun, good =>
          simp only [show decide ((((t :: u :: ts : List Txt)).length : Int) = 1) = false from decide_eq_false (by simp; omega), Bool.not_false, cond_true]
          exact .inr ⟨_, rfl, by rw [hrun]; rfl⟩
    simp only [hL, decide_false, cond_false]
    rw [stepR_N hG hM hF hL] at hrun
    exact .inr ⟨_, rfl, by rw [hrun]; rfl⟩
end Go.Proofs.YtcbdpjgejbcpgaaGreatDoor




/-
  Plain laws of replies: Read of the reference.
-/
namespace Go.Proofs.YtcbdpjgejbcpgaaGreatDoor
set_option linter.unusedSimpArgs false
set_option linter.unusedVariables false
open Go.RowKit

theorem headF_no {b : Bool} {es : List Tapi_Element} (h : mapO oneP es = none) : headF b es = none := by
  unfold headF
  rw [one1_mapO, h]; rfl
theorem headF_jud {es : List Tapi_Element} {l : List (List Txt)} (hl : mapO oneP es = some l) : headF false es = (judF 2 l).map fun h => (h.1, h.2, false) := by
  unfold headF judF
  rw [one1_mapO, hl, Option.bind_some]
  cases mapO tx1 l with
  | none => rfl
  | some ts =>
    match ts with
    | [] => rfl
    | [a] => rfl
    | [a, b] => cases h : numOk b <;> simp [h]
    | [a, b, c] => simp
    | a :: b :: c :: d :: r =>
      have : ¬ (((c :: d :: r : List Txt).length : Int) + 2 ≤ 2) := by simp; omega
      simp only [this, false_and, if_false, Option.map_none]
theorem headM {es : List Tapi_Element} {l : List (List Txt)} (hl : mapO oneP es = some l) : (judF 3 l = none ∧ headF true es = none) ∨ (∃ a b, l = [[a], [b]] ∧ judF 3 l = some (a, numV b) ∧ headF true es = some (a, numV b, false)) ∨
    (∃ a b c, l = [[a], [b], [c]] ∧ judF 3 l = some (a, numV b) ∧ headF true es = if c = [49] then some (a, numV b, true) else none) := by
  unfold headF judF
  rw [one1_mapO, hl, Option.bind_some]
  cases hm : mapO tx1 l with
  | none => exact .inl ⟨rfl, rfl⟩
  | some ts =>
    have h1 := mapO_tx hm
    match ts, h1 with
    | [], h1 => exact .inl ⟨rfl, rfl⟩
    | [a], h1 => exact .inl ⟨rfl, rfl⟩
    | [a, b], h1 =>
      cases h : numOk b with
      | true => exact .inr (.inl ⟨a, b, h1, by simp [h], by simp [h]⟩)
      | false => exact .inl ⟨by simp [h], by simp [h]⟩
    | [a, b, c], h1 =>
      cases h : numOk b with
      | true => exact .inr (.inr ⟨a, b, c, h1, by simp [h], by simp [h]⟩)
      | false => exact .inl ⟨by simp [h], by simp [h]⟩
    | a :: b :: c :: d :: r, h1 =>
      have : ¬ (((c :: d :: r : List Txt).length : Int) + 2 ≤ 3) := by simp; omega
      exact .inl ⟨by simp only [this, false_and, if_false], rfl⟩
theorem stepR_nol {b : Bool} {r : Rp} {s : Sg} (h : mapO oneP s.fElements = none) : stepR b r s = none := by
  unfold stepR stepI stepG stepM stepF stepL
  rw [one1_mapO, h, headF_no h, headF_no h]
  simp
theorem tag_fg (i : Nat) (p : Bool) : decide (p = decide ((i : Int) = 0)) = (p == fg i) := by
  cases i with
  | zero => cases p <;> rfl
  | succ i =>
    have : decide (((i + 1 : Nat) : Int) = 0) = false := decide_eq_false (by omega)
    rw [this]
    cases p <;> rfl
theorem r_Read (l : List Sg) (hs : TagsShort l) : m_interchangeref7_Read l = some (readF l) := by
  unfold m_interchangeref7_Read sims_GTR_1_0; dsimp only
  rw [r_segs l hs]
  simp only [Option.bind_some]
  unfold readF
  by_cases h0 : segsF l = 0
  case neg => simp only [h0, decide_false, Bool.not_false, cond_true, if_false]; rfl
  simp only [h0, decide_true, Bool.not_true, cond_false, if_true]
  obtain ⟨hl, hok⟩ := segs_in h0
  refine loop_to (X := Nat × Rp) (fun x => (x.2.fRef, x.2.fVerdict, x.2.fGroups, zR, (x.1 : Int))) (fun x => l.length - x.1)
    (fun x => x.1 ≤ l.length ∧ (x.1 = 0 → x.2 = zR) ∧ (RpLe x.1 x.2 ∧ RpTx ShortT (fun _ => True) (fun f => f.fName.length ≤ 1000) x.2) ∧ runR l true zR 0 = runR (l.drop x.1) (fg x.1) x.2 x.1) ?_ (0, zR)
    ⟨Nat.zero_le _, fun _ => rfl, ⟨⟨Nat.zero_le _, by simp [zR]⟩, ⟨by simp [zR, ShortT], trivial⟩, by simp [zR]⟩, rfl⟩
  rintro ⟨i, r⟩ ⟨h1, h2, ⟨h3, h4⟩, h6⟩
  simp only at h1 h2 h3 h4 h6 ⊢
  rcases Nat.lt_or_ge i l.length with hi | hi
  case inr =>
    have hli : i = l.length := by omega
    subst hli
    rw [List.drop_length] at h6
    refine .inr ⟨_, by simp only [lt_dec_self, cond_false]; rfl, ?_⟩
    rw [h6]
    simp only [runR, outK]
    cases l with
    | nil => rfl
    | cons a l' =>
      have hz0 : decide (((a :: l').length : Int) = 0) = false := decide_eq_false (by simp; omega)
      simp only [hz0, cond_false, repR_eq r (rep_ok_of h3 h4 (by omega)), Option.bind_some]
      by_cases hr : rpF r = 0 <;> simp [hr, zR]
  obtain ⟨e, he⟩ := get_lt hi
  have hd : l.drop i = e :: l.drop (i + 1) := by
    rw [List.drop_eq_getElem_cons hi]
    congr 1
    exact Option.some.inj ((List.getElem?_eq_getElem hi).symm.trans he)
  have hrun : runR l true zR 0 = match stepR (fg i) r e with | some r' => runR (l.drop (i + 1)) false r' (i + 1) | none => .inr i := by rw [h6, hd]; rfl
  obtain ⟨htag, hlen, hel⟩ := segF_iff.1 (hok e (List.mem_of_getElem? he))
  have good : ∀ r', stepR (fg i) r e = some r' → (i + 1 ≤ l.length ∧ (i + 1 = 0 → r' = zR) ∧ (RpLe (i + 1) r' ∧ RpTx ShortT (fun _ => True) (fun f => f.fName.length ≤ 1000) r') ∧ runR l true zR 0 = runR (l.drop (i + 1)) (fg (i + 1)) r' (i + 1)) := fun r' hst =>
    ⟨hi, nofun, ⟨h3.step hst, h4.step hst (fun ts hts t ht => one1_short hel hts t ht) (fun _ _ => trivial) (fun f hf => flaw_name hel hf)⟩, by rw [hrun, hst]; rfl⟩
  simp only [lt_dec hi, cond_true, getI_nat, he, Option.bind_some, wrapN i (by omega), r_listed e (by omega) hel, tag_fg]
  cases hls : mapO oneP e.fElements with
  | none =>
    rw [stepR_nol hls] at hrun
    simp only [Bool.not_false, orO, cond_true, Option.bind_some]
    exact .inr ⟨_, rfl, by rw [hrun]; rfl⟩
  | some ls =>
  have hpo : ∀ p ∈ ls, PartOk p := mapO_ok hel ls hls
  have hll : ls.length ≤ 1000 := by rw [mapO_len hls]; omega
  simp only [Bool.not_true, orO_some, Bool.false_or, Option.bind_some]
  cases i with
  | zero =>
    have hr := h2 rfl
    subst hr
    simp only [fg] at good hrun ⊢
    rw [stepR_T] at good hrun
    unfold stepI at good hrun
    by_cases ht : e.fTag = [65, 75, 73]
    · obtain ⟨z, hz, hz2⟩ := r_judged ls 2 hll hpo
      simp only [ht, decide_true, beq_self_eq_true, Bool.not_true, cond_false, cond_true, hz, Option.bind_some, if_true, headF_jud hls] at good hrun ⊢
      cases hh : judF 2 ls with
      | none =>
        rw [hh] at hz2 hrun
        simp only at hz2
        simp only [hz2, Bool.not_false, cond_true]
        exact .inr ⟨_, rfl, by rw [hrun]; rfl⟩
      | some h =>
        rw [hh] at hz2 hrun good
        simp only at hz2
        subst hz2
        simp only [Bool.not_true, cond_false]
        exact .inl ⟨(1, ⟨h.1, h.2, []⟩), good _ rfl, by simp only; omega, rfl⟩
    · simp only [ht, decide_false, if_false, show (!(false == true)) = true from rfl, cond_true] at hrun ⊢
      exact .inr ⟨_, rfl, by rw [hrun]; rfl⟩
  | succ i =>
    simp only [fg] at good hrun ⊢
    by_cases hI : e.fTag = [65, 75, 73]
    · rw [stepR_N (by rw [hI]; decide) (by rw [hI]; decide) (by rw [hI]; decide) (by rw [hI]; decide)] at hrun
      simp only [hI, decide_true, show (!(true == false)) = true from rfl, cond_true]
      exact .inr ⟨_, rfl, by rw [hrun]; rfl⟩
    simp only [hI, decide_false, beq_self_eq_true, Bool.not_true, cond_false]
    by_cases hG : e.fTag = [65, 75, 71]
    · rw [stepR_G hG] at good hrun
      unfold stepG at good hrun
      rw [headF_jud hls] at good hrun
      simp only [hG, decide_true, cond_true]
      obtain ⟨z, hz, hz2⟩ := r_judged ls 2 hll hpo
      rw [hz]
      simp only [Option.bind_some]
      rw [thenO_ok (by have := h3.1; simp only [List.length_singleton]; omega)]
      cases hh : judF 2 ls with
      | none =>
        rw [hh] at hz2 hrun
        simp only at hz2
        simp only [hz2, Bool.not_false, cond_true]
        exact .inr ⟨_, rfl, by rw [hrun]; rfl⟩
      | some h =>
        rw [hh] at hz2 hrun good
        simp only at hz2
        subst hz2
        simp only [Bool.not_true, cond_false]
        exact .inl ⟨(i + 1 + 1, ⟨r.fRef, r.fVerdict, r.fGroups ++ [⟨h.1, h.2, []⟩]⟩), good _ rfl, by simp only; omega, rfl⟩
    simp only [hG, decide_false, cond_false]
    rcases snoc_cases r.fGroups with hg | ⟨gp, g, hg⟩
    · have hst : stepR false r e = none := by
        by_cases hM : e.fTag = [65, 75, 77]
        · rw [stepR_M hM]
          unfold stepM
          simp only [hg, lastO_nil]
          cases headF true e.fElements <;> rfl
        · exact stepR_none hG hM (rpPut_noG hg)
      rw [hst] at hrun
      simp only [hg, show decide (((([] : List Gr)).length : Int) = 0) = true from rfl, cond_true]
      exact .inr ⟨_, rfl, by rw [hrun]; rfl⟩
    obtain ⟨gR, gV, gM⟩ := g
    have hgl := h3.1
    rw [hg, List.length_append, List.length_singleton] at hgl
    have hz0 : decide (((gp ++ [(⟨gR, gV, gM⟩ : Gr)]).length : Int) = 0) = false := decide_eq_false (by simp; omega)
    simp only [hg, hz0, cond_false, (getI_last gp (⟨gR, gV, gM⟩ : Gr) (by omega)).1, Option.bind_some, set_snoc gp (⟨gR, gV, gM⟩ : Gr) _ (by omega)]
    have hml := (h3.2 ⟨gR, gV, gM⟩ (by rw [hg]; simp)).1
    simp only at hml
    by_cases hM : e.fTag = [65, 75, 77]
    · rw [stepR_M hM] at good hrun
      unfold stepM at good hrun
      simp only [hg, lastO_snoc, Option.map_some] at good hrun
      simp only [hM, decide_true, cond_true]
      obtain ⟨z, hz, hz2⟩ := r_judged ls 3 hll hpo
      rw [hz]
      simp only [Option.bind_some]
      rw [thenO_ok (by simp only [List.length_singleton]; omega)]
      rcases headM hls with ⟨hj, hh⟩ | ⟨a, c, hl2, hj, hh⟩ | ⟨a, c, d, hl2, hj, hh⟩
      · rw [hj] at hz2
        rw [hh] at hrun
        simp only at hz2
        simp only [hz2, andO, cond_false, Option.bind_some, Bool.not_false, cond_true]
        exact .inr ⟨_, rfl, by rw [hrun]; rfl⟩
      · rw [hj] at hz2
        simp only [hh, Option.bind_some] at hrun good
        simp only at hz2
        subst hz2 hl2
        simp only [show decide (((([[a], [c]] : List (List Txt))).length : Int) = 2) = true from rfl, show decide (((([[a], [c]] : List (List Txt))).length : Int) = 3) = false from rfl, orO, andO, cond_true, Option.bind_some, Bool.not_true, cond_false]
        exact .inl ⟨(i + 1 + 1, ⟨r.fRef, r.fVerdict, gp ++ [⟨gR, gV, gM ++ [⟨a, numV c, false, [], []⟩]⟩]⟩), good _ rfl, by simp only; omega, rfl⟩
      · rw [hj] at hz2
        simp only [hh] at hrun good
        simp only at hz2
        subst hz2 hl2
        simp only [show decide (((([[a], [c], [d]] : List (List Txt))).length : Int) = 2) = false from rfl, show decide (((([[a], [c], [d]] : List (List Txt))).length : Int) = 3) = true from rfl, show getI [[a], [c], [d]] 2 = some [d] from rfl, show getI [d] 0 = some d from rfl, orO_some, Bool.false_or, andO_some, Bool.true_and, Option.bind_some]
        by_cases hd1 : d = [49]
        · simp only [hd1, if_true, Option.bind_some, decide_true, Bool.not_true, cond_false] at good ⊢
          exact .inl ⟨(i + 1 + 1, ⟨r.fRef, r.fVerdict, gp ++ [⟨gR, gV, gM ++ [⟨a, numV c, true, [], []⟩]⟩]⟩), good _ rfl, by simp only; omega, rfl⟩
        · simp only [hd1, if_false, Option.bind_none, decide_false, Bool.not_false, cond_true] at hrun ⊢
          exact .inr ⟨_, rfl, by rw [hrun]; rfl⟩
    simp only [hM, decide_false, cond_false]
    rcases snoc_cases gM with rfl | ⟨mp, m, rfl⟩
    · rw [stepR_none hG hM (rpPut_noM hg)] at hrun
      simp only [show decide (((([] : List Mr)).length : Int) = 0) = true from rfl, cond_true]
      exact .inr ⟨_, rfl, by rw [hrun]; rfl⟩
    rw [List.length_append, List.length_singleton] at hml
    have hz1 : decide (((mp ++ [m]).length : Int) = 0) = false := decide_eq_false (by simp; omega)
    simp only [hz1, cond_false, (getI_last mp m (by omega)).1, Option.bind_some, set_snoc mp m _ (by omega)]
    have hfl := (h3.2 ⟨gR, gV, mp ++ [m]⟩ (by rw [hg]; simp)).2 m (by simp)
    by_cases hF : e.fTag = [65, 75, 70]
    · rw [stepR_F hF] at good hrun
      unfold stepF at good hrun
      simp only [rpPut_snoc r gp gR gV mp m _ hg, hls, Option.bind_some] at good hrun
      simp only [hF, decide_true, cond_true]
      obtain ⟨z, hz, hz2⟩ := r_flawOf ls hpo
      rw [hz]
      simp only [Option.bind_some]
      rw [thenO_ok (by simp only [List.length_singleton]; omega)]
      have hz3 : decide (((m.fFailing).length : Int) = 0) = decide (m.fFailing = []) := by
        cases m.fFailing with
        | nil => rfl
        | cons a t => rw [decide_eq_false (by simp; omega), decide_eq_false (by simp)]
      cases hh : flawL ls with
      | none =>
        rw [hh] at hz2 hrun
        simp only [flawZ] at hz2
        simp only [hz2, andO_some, Bool.false_and, Option.bind_some, Bool.not_false, cond_true]
        exact .inr ⟨_, rfl, by rw [hrun]; rfl⟩
      | some f =>
        rw [hh] at hz2 hrun good
        simp only [flawZ] at hz2
        subst hz2
        simp only [andO_some, Bool.true_and, Option.bind_some, hz3] at hrun good ⊢
        by_cases hf : m.fFailing = []
        · simp only [hf, if_true, Option.map_some, decide_true, Bool.not_true, cond_false] at good ⊢
          exact .inl ⟨(i + 1 + 1, ⟨r.fRef, r.fVerdict, gp ++ [⟨gR, gV, mp ++ [⟨m.fRef, m.fVerdict, m.fUnknown, m.fFlaws ++ [f], []⟩]⟩]⟩), good _ rfl, by simp only; omega, rfl⟩
        · simp only [hf, if_false, Option.map_none, decide_false, Bool.not_false, cond_true] at hrun ⊢
          exact .inr ⟨_, rfl, by rw [hrun]; rfl⟩
    simp only [hF, decide_false, cond_false]
    by_cases hL : e.fTag = [65, 75, 82]
    · rw [stepR_L hL] at good hrun
      unfold stepL at good hrun
      simp only [rpPut_snoc r gp gR gV mp m _ hg, one1_mapO, hls, Option.bind_some, Option.map_some] at good hrun
      simp only [hL, decide_true, cond_true, r_single ls hll, Option.bind_some, andO_some]
      cases hh : mapO tx1 ls with
      | none =>
        simp only [hh] at hrun
        simp only [Option.isSome_none, Bool.and_false, cond_false, Bool.not_false, cond_true]
        exact .inr ⟨_, rfl, by rw [hrun]; rfl⟩
      | some ts =>
        simp only [hh] at hrun good
        have hl2 := mapO_tx hh
        simp only [Option.isSome_some, Bool.and_true]
        match ts, hl2, hrun, good with
        | [], hl2, hrun, good =>
          subst hl2
          exact .inr ⟨_, rfl, by rw [hrun]; rfl⟩
        | [t], hl2, hrun, good =>
          subst hl2
          simp only [List.map_cons, List.map_nil, show decide (((([[t]] : List (List Txt))).length : Int) = 1) = true from rfl, cond_true, show getI [[t]] 0 = some [t] from rfl, show getI [t] 0 = some t from rfl, Option.bind_some, Bool.not_true, cond_false]
          rw [thenO_ok (by simp only [List.length_singleton]; omega)]
          exact .inl ⟨(i + 1 + 1, ⟨r.fRef, r.fVerdict, gp ++ [⟨gR, gV, mp ++ [⟨m.fRef, m.fVerdict, m.fUnknown, m.fFlaws, m.fFailing ++ [t]⟩]⟩]⟩), good _ rfl, by simp only; omega, rfl⟩
        | t :: u :: ts, hl2, hrun, good =>
          subst hl2
          have hz4 : decide ((((t :: u :: ts).map fun t => [t]).length : Int) = 1) = false := decide_eq_false (by simp; omega)
          simp only [hz4, cond_false, Bool.not_false, cond_true]
          exact .inr ⟨_, rfl, by rw [hrun]; rfl⟩
    simp only [hL, decide_false, cond_false]
    rw [stepR_N hG hM hF hL] at hrun
    exact .inr ⟨_, rfl, by rw [hrun]; rfl⟩
end Go.Proofs.YtcbdpjgejbcpgaaGreatDoor

/-
  The simple thing that the package does (awake), reckoned.
-/
namespace Go.Proofs.YtcbdpjgejbcpgaaGreatDoor
set_option linter.unusedSimpArgs false
set_option linter.unusedVariables false
open Go.RowKit

def aE : Tapi_BookEvent := ⟨1, 0, 0, [65], 0⟩
theorem aw_cb : m_reply_CheckBook [aE] = some 0 := by
  unfold m_reply_CheckBook sims_GA_2_0; dsimp only
  exact bind_loop (a := .inl 1) (loopC_some.2 ⟨3, by kernel_rfl⟩) (by kernel_rfl)
theorem aw_bk : m_reply_book [aE] = some ([⟨[65], 0, 0, -1, 0⟩], []) := by
  unfold m_reply_book sims_GA_0_1; dsimp only
  exact bind_loop (a := .inl ([⟨[65], 0, 0, -1, 0⟩], [], [([65], [0])], 1)) (loopC_some.2 ⟨3, by kernel_rfl⟩) (by kernel_rfl)
theorem aw_at : m_reply_at [aE] 0 = some [⟨[65], 0, 0, -1, 0⟩] := by
  unfold m_reply_at sims_GA_1_0; dsimp only
  refine bind_loop (a := .inl 1) (loopC_some.2 ⟨3, by kernel_rfl⟩) ?_
  have h : sliceI [aE] ((none : Option Int).getD 0) ((some (1 : Int)).getD ([aE].length : Int)) = some [aE] := by kernel_rfl
  simp only [outK]
  refine (congrArg (fun q => Option.bind q _) h).trans ?_
  simp only [Option.bind_some, aw_bk]
theorem aw_st : m_reply_StandingAt [aE] 0 = some (⟨1, 0, 0, 0, 0, 0⟩, 0) := by
  unfold m_reply_StandingAt sims_GA_3_0; dsimp only
  have hm : m_kit_IsMoment 0 = some true := by kernel_rfl
  simp only [aw_cb, aw_at, hm, Option.bind_some, decide_true, Bool.not_true, cond_false]
  exact bind_loop (a := .inl (⟨1, 0, 0, 0, 0, 0⟩, 1)) (loopC_some.2 ⟨3, by kernel_rfl⟩) (by kernel_rfl)
theorem awake_eq : m_interchangelaw7_awake = some true := by
  unfold m_interchangelaw7_awake sims_GA_4_0; dsimp only
  have h := aw_st
  unfold aE at h
  rw [h]
  rfl
end Go.Proofs.YtcbdpjgejbcpgaaGreatDoor

/-
  Plain laws of replies: a reply is the same as itself; how long it is when it was read.
-/
namespace Go.Proofs.YtcbdpjgejbcpgaaGreatDoor
set_option linter.unusedSimpArgs false
set_option linter.unusedVariables false
open Go.RowKit

theorem sameMsg_refl (m : Mr) (h1 : m.fFlaws.length ≤ 1048576) (h2 : m.fFailing.length ≤ 1048576) : m_interchangeref7_sameMessage m m = some true := by
  unfold m_interchangeref7_sameMessage sims_G5_1_0; dsimp only
  simp only [sameTexts_refl m.fFailing (by omega), decide_true, Bool.not_true, orO_some, Bool.or_self, Option.bind_some, cond_false]
  refine (loop_allV m.fFlaws (fun _ => true) false (fun i e he => ?_) ?_).trans ?_
  · have hi := get_le he
    simp only [lt_dec hi, cond_true, getI_nat, he, Option.bind_some, decide_true, Bool.and_self, Bool.not_true, cond_false, wrapN i (by omega), if_true]
  · simp only [lt_dec_self, cond_false]; rfl
  · simp
theorem sameReply_refl (r : Rp) (h : RpLe 1048576 r) : m_interchangeref7_SameReply r r = some true := by
  unfold m_interchangeref7_SameReply sims_G5_2_0; dsimp only
  simp only [decide_true, Bool.not_true, orO_some, Bool.or_self, Option.bind_some, cond_false]
  refine (loop_allV r.fGroups (fun _ => true) false (fun i e he => ?_) ?_).trans ?_
  · have hi := get_le he
    have hg := h.1
    obtain ⟨h1, h2⟩ := h.2 e (List.mem_of_getElem? he)
    simp only [lt_dec hi, cond_true, getI_nat, he, Option.bind_some, decide_true, Bool.not_true, orO_some, Bool.or_self, cond_false, wrapN i (by omega), if_true]
    refine (loop_allV e.fMessages (fun _ => true) (.inr (.inr false)) (fun k m hm => ?_) ?_).trans ?_
    · have hk := get_le hm
      obtain ⟨h3, h4⟩ := h2 m (List.mem_of_getElem? hm)
      simp only [lt_dec hk, cond_true, getI_nat, hm, Option.bind_some, sameMsg_refl m h3 h4, Bool.not_true, cond_false, wrapN k (by omega), if_true]
    · simp only [lt_dec_self, cond_false]; rfl
    · simp
  · simp only [lt_dec_self, cond_false]; rfl
  · simp
theorem RpLe.mono {n k : Nat} {r : Rp} (h : RpLe n r) (hk : n ≤ k) : RpLe k r :=
  ⟨by have := h.1; omega, fun g hg => ⟨by have := (h.2 g hg).1; omega, fun m hm => by have := (h.2 g hg).2 m hm; omega⟩⟩
theorem runR_le : ∀ {l : List Sg} {b : Bool} {r r' : Rp} {i n : Nat}, runR l b r i = .inl r' → RpLe n r → RpLe (n + l.length) r'
  | [], b, r, r', i, n, h, hn => by cases h; exact hn
  | s :: l, b, r, r', i, n, h, hn => by
    simp only [runR] at h
    split at h
    · rename_i r1 h1
      have := runR_le h (hn.step h1)
      rw [List.length_cons]
      exact this.mono (by omega)
    · cases h
theorem zR_le (n : Nat) : RpLe n zR := ⟨Nat.zero_le _, by simp [zR]⟩
theorem readF_le (l : List Sg) : RpLe 2000 (readF l).1 := by
  unfold readF
  split
  · rename_i h0
    split
    · exact zR_le _
    · rename_i r hr
      have h2 := runR_le hr (zR_le 0)
      split
      · exact zR_le _
      · split
        · exact h2.mono (by have := (segs_in h0).1; omega)
        · exact zR_le _
  · exact zR_le _
end Go.Proofs.YtcbdpjgejbcpgaaGreatDoor

/-
  Plain laws of replies: ReplyReadsMatchSpec.
-/
namespace Go.Proofs.YtcbdpjgejbcpgaaGreatDoor
set_option linter.unusedSimpArgs false
set_option linter.unusedVariables false
open Go.RowKit

theorem law_rreads (l : List Sg) (hs : TagsShort l) : m_interchangelaw7_ReplyReadsMatchSpec l = some true := by
  unfold m_interchangelaw7_ReplyReadsMatchSpec sims_GL_0_0; dsimp only
  simp only [p_Read l hs, r_Read l hs, sameReply_refl _ ((readF_le l).mono (by omega)), awake_eq, Option.bind_some, andO_some, decide_true, Bool.and_self]
end Go.Proofs.YtcbdpjgejbcpgaaGreatDoor

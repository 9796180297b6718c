/-
  Texts of mine, one behind the other (SAZ4, SAZ5, SAZ7, SAZ8, SAQ5, SAZ9, SAUY).
-/
import Derived.Test.YthcfbglbjipdaaaGreatDoorBA2
import Derived.KernelRfl
/-
  Plain laws of interchanges: what Split makes.
-/
namespace Go.Proofs.YthcfbglbjipdaaaGreatDoor
set_option linter.unusedSimpArgs false
set_option linter.unusedVariables false
open Go.RowKit

/-- The state: the parts ahead of the last one, the last one, its messages, its last group. -/
structure Sp where
  a : List Ix
  e : Ix
  many : Nat
  last : Int
def Sp.out (t : Sp) : List Ix := t.a ++ [t.e]
def hd (x : Ix) (r : List UInt8) (gs : List Gp) : Ix := ⟨r, x.fSender, x.fReceiver, x.fDay, x.fSecond, x.fTest, gs⟩
def wg (e : Ix) (gs : List Gp) : Ix := ⟨e.fRef, e.fSender, e.fReceiver, e.fDay, e.fSecond, e.fTest, gs⟩
def noRef (x : Ix) (j : Nat) : List UInt8 := if j = 0 then x.fRef else x.fRef ++ 45 :: Lib.itoa ((j + 1 : Nat) : Int)
def begT (x : Ix) (n : Nat) (t : Sp) : Sp := if t.many = n then ⟨t.a ++ [t.e], hd x (noRef x (t.a.length + 1)) [], 0, -1⟩ else t
def opn (last : Int) (i : Nat) (g : Gp) (gs : List Gp) : List Gp := if last = (i : Int) then gs else gs ++ [⟨g.fRef, g.fKind, []⟩]
def grpT (i : Nat) (g : Gp) (t : Sp) : Sp := ⟨t.a, wg t.e (opn t.last i g t.e.fGroups), t.many, i⟩
def addT (i : Nat) (g : Gp) (t : Sp) (m : Ms) : Sp := ⟨t.a, wg t.e (lastM (opn t.last i g t.e.fGroups) [m]), t.many + 1, i⟩
def msgT (x : Ix) (n i : Nat) (g : Gp) (t : Sp) (m : Ms) : Sp := addT i g (begT x n t) m
def gT (x : Ix) (n i : Nat) (g : Gp) (t : Sp) : Sp := g.fMessages.foldl (msgT x n i g) (if g.fMessages.length = 0 then grpT i g t else t)
def tI (x : Ix) (n : Nat) : Nat → Sp
  | 0 => ⟨[], hd x x.fRef [], 0, -1⟩
  | i + 1 => match x.fGroups[i]? with
    | some g => gT x n i g (tI x n i)
    | none => tI x n i
/-- What has been divided so far. -/
def PP' (G : List Gp) (i : Nat) (g : Gp) (k : Nat) : List Gp := G.take i ++ if k = 0 then [] else [⟨g.fRef, g.fKind, g.fMessages.take k⟩]
structure Inv (x : Ix) (n i k : Nat) (P : List Gp) (t : Sp) : Prop where
  ma : MA t.out = P
  many : mesN t.e.fGroups = t.many
  le : t.many ≤ n
  cnt : ∀ p ∈ t.a, 1 ≤ mesN p.fGroups ∧ mesN p.fGroups ≤ n
  hdr : ∀ (j : Nat) (p : Ix), t.out[j]? = some p → ∃ gs, p = hd x (noRef x j) gs
  lk : if k = 0 then t.last < (i : Int) else t.last = (i : Int)
  ne : 0 < k → t.e.fGroups ≠ []
  ne2 : t.a ≠ [] → t.e.fGroups ≠ [] ∧ 1 ≤ t.many
theorem mrg_lastM (b : Bool) (acc : List Gp) {gs : List Gp} (h : gs ≠ []) (ms : List Ms) : mrg b acc (lastM gs ms) = lastM (mrg b acc gs) ms := by
  rcases snoc_cases gs with rfl | ⟨t, g, rfl⟩
  · exact absurd rfl h
  · rw [lastM_snoc]
    cases t with
    | nil =>
      simp only [List.nil_append, mrg, List.append_nil]
      unfold put
      have hh : hitB b acc ⟨g.fRef, g.fKind, g.fMessages ++ ms⟩ = hitB b acc g := rfl
      rw [hh]
      cases hq : hitB b acc g with
      | false => simp only [cond_false]; rw [lastM_snoc]
      | true =>
        simp only [cond_true]
        rcases snoc_cases acc with rfl | ⟨a, e, rfl⟩
        · cases hq
        · rw [lastM_snoc, lastM_snoc, lastM_snoc]; simp
    | cons y t =>
      rw [mrg_snoc b acc (by simp), mrg_snoc b acc (by simp), lastM_snoc]
theorem MA_out (t : Sp) : MA t.out = mrg (decide (0 < t.a.length)) (MA t.a) t.e.fGroups := MA_snoc t.a t.e
theorem hdr_snoc {x : Ix} {a : List Ix} {e : Ix} {r : List UInt8} {gs : List Gp} (h : ∀ (j : Nat) (p : Ix), (a ++ [e])[j]? = some p → ∃ gs, p = hd x (noRef x j) gs) (e' : Ix) (he : ∀ r gs, e = hd x r gs → ∃ gs', e' = hd x r gs') :
    ∀ (j : Nat) (p : Ix), (a ++ [e'])[j]? = some p → ∃ gs, p = hd x (noRef x j) gs := by
  intro j p hp
  rcases Nat.lt_trichotomy j a.length with hj | hj | hj
  · exact h j p (by rw [List.getElem?_append_left hj] at hp ⊢; exact hp)
  · subst hj
    obtain ⟨gs0, h0⟩ := h a.length e (by simp)
    obtain ⟨gs', h1⟩ := he _ _ h0
    have : p = e' := by simpa using hp.symm
    exact ⟨gs', by rw [this, h1]⟩
  · rw [List.getElem?_eq_none (by simp; omega)] at hp; cases hp
theorem wg_hd {x : Ix} (gs' : List Gp) : ∀ (e : Ix) r gs, e = hd x r gs → ∃ gs'', wg e gs' = hd x r gs'' := by
  rintro _ r gs rfl
  exact ⟨gs', rfl⟩
/-- A message comes in. -/
theorem Inv.msg {x : Ix} {n i k : Nat} {g : Gp} {m : Ms} {t : Sp} (hn : 1 ≤ n) (hG : refsD x.fGroups) (hg : x.fGroups[i]? = some g) (hm : g.fMessages[k]? = some m) (h : Inv x n i k (PP' x.fGroups i g k) t) :
    Inv x n i (k + 1) (PP' x.fGroups i g (k + 1)) (msgT x n i g t m) := by
  have hi := get_le hg
  have htake : (PP' x.fGroups i g (k + 1)) = if k = 0 then PP' x.fGroups i g k ++ [⟨g.fRef, g.fKind, [m]⟩] else lastM (PP' x.fGroups i g k) [m] := by
    unfold PP'
    have e1 : g.fMessages.take (k + 1) = g.fMessages.take k ++ [m] := by rw [List.take_add_one, hm]; rfl
    by_cases hk : k = 0
    · subst hk; rw [e1]; simp
    · rw [if_neg hk, if_neg hk, if_neg (by omega), lastM_snoc, e1]
  have hlk := h.lk
  by_cases hb : t.many = n
  · -- a further part begins
    have ht : msgT x n i g t m = ⟨t.a ++ [t.e], hd x (noRef x (t.a.length + 1)) [⟨g.fRef, g.fKind, [m]⟩], 1, i⟩ := by
      unfold msgT addT begT
      rw [if_pos hb]
      simp only [opn]
      rw [if_neg (by omega)]
      rfl
    rw [ht]
    refine ⟨?_, rfl, hn, fun p hp => ?_, ?_, by simp, fun _ => by simp [hd], fun _ => ⟨by simp [hd], Nat.le_refl _⟩⟩
    · rw [MA_out]
      have e0 : MA (t.a ++ [t.e]) = PP' x.fGroups i g k := h.ma
      simp only [e0, hd, mrg, List.append_nil]
      rw [show decide (0 < (t.a ++ [t.e]).length) = true by simp, htake]
      by_cases hk : k = 0
      · subst hk
        rw [if_pos rfl]
        unfold put
        have : hitB true (PP' x.fGroups i g 0) ⟨g.fRef, g.fKind, [m]⟩ = false := by
          rcases snoc_cases (PP' x.fGroups i g 0) with h0 | ⟨q, y, hq⟩
          · rw [h0]; rfl
          · rw [hq, hitB_snoc]
            have hy : y ∈ x.fGroups.take i := by
              have : PP' x.fGroups i g 0 = x.fGroups.take i := by simp [PP']
              rw [← this, hq]; simp
            obtain ⟨j, hj⟩ := List.getElem?_of_mem hy
            rw [List.getElem?_take] at hj
            by_cases hji : j < i
            · rw [if_pos hji] at hj
              have := (pair_idx.1 hG) j i y g hj hg hji
              simp [this]
            · rw [if_neg hji] at hj; cases hj
        rw [this]; rfl
      · rw [if_neg hk]
        unfold put
        have : PP' x.fGroups i g k = x.fGroups.take i ++ [⟨g.fRef, g.fKind, g.fMessages.take k⟩] := by unfold PP'; rw [if_neg hk]
        rw [this, hitB_snoc]
        simp
    · rcases List.mem_append.1 hp with hp | hp
      · exact h.cnt p hp
      · rw [List.mem_singleton.1 hp, h.many]; omega
    · intro j p hp
      rcases Nat.lt_trichotomy j (t.a.length + 1) with hj | hj | hj
      · exact h.hdr j p (by unfold Sp.out at hp ⊢; rw [List.getElem?_append_left (by simp; omega)] at hp; exact hp)
      · subst hj
        have : p = hd x (noRef x (t.a.length + 1)) [⟨g.fRef, g.fKind, [m]⟩] := by
          have e1 : ((t.a ++ [t.e]) ++ [hd x (noRef x (t.a.length + 1)) [⟨g.fRef, g.fKind, [m]⟩]])[(t.a ++ [t.e]).length]? = some (hd x (noRef x (t.a.length + 1)) [⟨g.fRef, g.fKind, [m]⟩]) := by simp
          rw [show (t.a ++ [t.e]).length = t.a.length + 1 by simp] at e1
          unfold Sp.out at hp
          rw [e1] at hp
          exact (Option.some.inj hp).symm
        exact ⟨_, this⟩
      · unfold Sp.out at hp
        rw [List.getElem?_eq_none (by simp; omega)] at hp; cases hp
  · have ht : msgT x n i g t m = addT i g t m := by unfold msgT begT; rw [if_neg hb]
    rw [ht]
    have hlt : t.many < n := by have := h.le; omega
    have hgs : opn t.last i g t.e.fGroups ≠ [] := by
      unfold opn
      split
      · rename_i hq
        by_cases hk : k = 0
        · rw [if_pos hk] at hlk; omega
        · exact h.ne (by omega)
      · simp
    have hne2 : lastM (opn t.last i g t.e.fGroups) [m] ≠ [] := by
      rcases snoc_cases (opn t.last i g t.e.fGroups) with h0 | ⟨q, y, hq⟩
      · exact absurd h0 hgs
      · rw [hq, lastM_snoc]; simp
    have hmes : mesN (opn t.last i g t.e.fGroups) = t.many := by
      rw [← h.many]
      unfold opn
      split
      · rfl
      · unfold mesN; rw [sumN_app]; simp [sumN]
    refine ⟨?_, ?_, by simp only [addT]; omega, h.cnt, hdr_snoc (r := []) (gs := []) h.hdr _ (wg_hd _ t.e), by simp [addT], fun _ => hne2, fun _ => ⟨hne2, by simp [addT]⟩⟩
    · rw [MA_out]
      show mrg (decide (0 < t.a.length)) (MA t.a) (lastM (opn t.last i g t.e.fGroups) [m]) = _
      rw [mrg_lastM _ _ hgs, htake]
      have e0 : mrg (decide (0 < t.a.length)) (MA t.a) t.e.fGroups = PP' x.fGroups i g k := by rw [← MA_out]; exact h.ma
      unfold opn
      by_cases hk : k = 0
      · rw [if_pos hk] at hlk ⊢
        rw [if_neg (by omega)]
        have e1 : mrg (decide (0 < t.a.length)) (MA t.a) (t.e.fGroups ++ [⟨g.fRef, g.fKind, []⟩]) = PP' x.fGroups i g k ++ [⟨g.fRef, g.fKind, []⟩] := by
          by_cases hgs0 : t.e.fGroups = []
          · have ha : t.a = [] := by
              cases hta : t.a with
              | nil => rfl
              | cons y z => exact absurd hgs0 (h.ne2 (by simp [hta])).1
            rw [← e0, hgs0, ha]
            simp [mrg_false]
          · rw [mrg_snoc _ _ hgs0, e0]
        rw [e1, lastM_snoc]; rfl
      · rw [if_neg hk] at hlk ⊢
        rw [if_pos hlk, e0]
    · simp only [addT, wg]
      rw [lastM_mes hgs, hmes]; rfl
theorem PP_zero (G : List Gp) (i : Nat) (g : Gp) : PP' G i g 0 = G.take i := by simp [PP']
theorem PP_full {G : List Gp} {i : Nat} {g : Gp} (hg : G[i]? = some g) (h : g.fMessages ≠ []) : PP' G i g g.fMessages.length = G.take (i + 1) := by
  unfold PP'
  have : g.fMessages.length ≠ 0 := fun e => h (List.length_eq_zero_iff.1 e)
  rw [if_neg this, List.take_length, List.take_add_one, hg]; rfl
/-- An empty group. -/
theorem Inv.grp {x : Ix} {n i : Nat} {g : Gp} {t : Sp} (hg : x.fGroups[i]? = some g) (h0 : g.fMessages = []) (h : Inv x n i 0 (x.fGroups.take i) t) : Inv x n (i + 1) 0 (x.fGroups.take (i + 1)) (grpT i g t) := by
  have hlk := h.lk
  rw [if_pos rfl] at hlk
  have ho : opn t.last i g t.e.fGroups = t.e.fGroups ++ [g] := by
    unfold opn
    rw [if_neg (by omega)]
    obtain ⟨r, k, ms⟩ := g
    cases h0; rfl
  refine ⟨?_, ?_, h.le, h.cnt, hdr_snoc (r := []) (gs := []) h.hdr _ (wg_hd _ t.e), by rw [if_pos rfl]; show (i : Int) < ((i + 1 : Nat) : Int); omega, fun hq => absurd hq (Nat.lt_irrefl _), fun ha => ⟨by simp only [grpT, wg, ho]; simp, (h.ne2 ha).2⟩⟩
  · rw [MA_out]
    show mrg (decide (0 < t.a.length)) (MA t.a) (opn t.last i g t.e.fGroups) = _
    have e0 : mrg (decide (0 < t.a.length)) (MA t.a) t.e.fGroups = x.fGroups.take i := by rw [← MA_out]; exact h.ma
    rw [ho, List.take_add_one, hg]
    by_cases hgs0 : t.e.fGroups = []
    · have ha : t.a = [] := by
        cases hta : t.a with
        | nil => rfl
        | cons y z => exact absurd hgs0 (h.ne2 (by simp [hta])).1
      rw [← e0, hgs0, ha]
      simp [mrg_false]
    · rw [mrg_snoc _ _ hgs0, e0]; rfl
  · show mesN (opn t.last i g t.e.fGroups) = t.many
    rw [ho, ← h.many]
    unfold mesN
    rw [sumN_app]
    simp [sumN, h0]
theorem Inv.msgs {x : Ix} {n i : Nat} {g : Gp} {t : Sp} (hn : 1 ≤ n) (hG : refsD x.fGroups) (hg : x.fGroups[i]? = some g) (h : Inv x n i 0 (x.fGroups.take i) t) : ∀ k, k ≤ g.fMessages.length → Inv x n i k (PP' x.fGroups i g k) ((g.fMessages.take k).foldl (msgT x n i g) t)
  | 0, _ => by rw [PP_zero]; exact h
  | k + 1, hk => by
    obtain ⟨m, hm⟩ := get_lt (show k < g.fMessages.length by omega)
    rw [List.take_add_one, hm, List.foldl_append]
    exact (Inv.msgs hn hG hg h k (by omega)).msg hn hG hg hm
theorem Inv.whole {x : Ix} {n i : Nat} {g : Gp} {t : Sp} (hn : 1 ≤ n) (hG : refsD x.fGroups) (hg : x.fGroups[i]? = some g) (h : Inv x n i 0 (x.fGroups.take i) t) : Inv x n (i + 1) 0 (x.fGroups.take (i + 1)) (gT x n i g t) := by
  unfold gT
  by_cases h0 : g.fMessages = []
  · rw [h0]; exact h.grp hg h0
  · have hl : g.fMessages.length ≠ 0 := fun e => h0 (List.length_eq_zero_iff.1 e)
    have := h.msgs hn hG hg g.fMessages.length (Nat.le_refl _)
    rw [List.take_length, PP_full hg h0] at this
    rw [if_neg hl]
    have hlk := this.lk
    rw [if_neg hl] at hlk
    exact ⟨this.ma, this.many, this.le, this.cnt, this.hdr, by rw [if_pos rfl]; omega, fun hq => absurd hq (Nat.lt_irrefl _), this.ne2⟩
theorem inv_all {x : Ix} {n : Nat} (hn : 1 ≤ n) (hG : refsD x.fGroups) : ∀ i, i ≤ x.fGroups.length → Inv x n i 0 (x.fGroups.take i) (tI x n i)
  | 0, _ => by
    refine ⟨rfl, rfl, Nat.zero_le _, fun p hp => (by cases hp), fun j p hp => ?_, ?_, fun hq => absurd hq (Nat.lt_irrefl _), fun ha => absurd rfl ha⟩
    · cases j with
      | zero => exact ⟨[], by simpa [Sp.out, tI, noRef] using hp.symm⟩
      | succ j => simp [Sp.out, tI] at hp
    · rw [if_pos rfl]; show (-1 : Int) < ((0 : Nat) : Int); omega
  | i + 1, hi => by
    obtain ⟨g, hg⟩ := get_lt (show i < x.fGroups.length by omega)
    have := (inv_all hn hG i (by omega)).whole hn hG hg
    simp only [tI, hg]
    exact this
theorem sumN_ge {α : Type} (f : α → Nat) : ∀ {l : List α}, (∀ x ∈ l, 1 ≤ f x) → l.length ≤ sumN f l
  | [], _ => by simp
  | x :: l, h => by
    have h1 := h x (.head _)
    have h2 := sumN_ge f (l := l) fun y hy => h y (.tail _ hy)
    simp only [sumN, List.length_cons]
    omega
theorem Inv.few {x : Ix} {n i k : Nat} {P : List Gp} {t : Sp} (h : Inv x n i k P t) : t.a.length + t.many ≤ mesN P := by
  have h1 : t.a.length ≤ sumN (fun p => mesN p.fGroups) t.a := sumN_ge _ fun p hp => (h.cnt p hp).1
  have h2 : mesN P = sumN (fun p => mesN p.fGroups) t.out := by rw [← h.ma, MA_mes]
  rw [h2]
  unfold Sp.out
  rw [sumN_app]
  simp only [sumN, h.many]
  omega
theorem PP_mes {G : List Gp} {i : Nat} {g : Gp} (hg : G[i]? = some g) (k : Nat) : mesN (PP' G i g k) ≤ mesN G ∧ (PP' G i g k).length ≤ G.length := by
  have hs : SubG (PP' G i g k) (G.take i ++ [g]) := by
    unfold PP'
    refine (SubG.refl _).both ?_
    split
    · exact .nil
    · exact .cons ⟨rfl, rfl, List.take_sublist _ _⟩ .nil
  have hs2 : SubG (G.take i ++ [g]) G := by
    have : G.take i ++ [g] = G.take (i + 1) := by rw [List.take_add_one, hg]; rfl
    rw [this]
    have := (SubG.refl (G.take (i + 1))).app (G.drop (i + 1))
    rwa [List.take_append_drop] at this
  exact ⟨(hs.trans hs2).mesN, (hs.trans hs2).len⟩
theorem Inv.grps {x : Ix} {n i k : Nat} {P : List Gp} {t : Sp} (h : Inv x n i k P t) : t.e.fGroups.length ≤ P.length := by
  have := (MA_sub t.out t.e (by simp [Sp.out])).len
  rwa [h.ma] at this
end Go.Proofs.YthcfbglbjipdaaaGreatDoor

/-
  Plain laws of interchanges: Split.
-/
namespace Go.Proofs.YthcfbglbjipdaaaGreatDoor
set_option linter.unusedSimpArgs false
set_option linter.unusedVariables false
open Go.RowKit

theorem itoa_len (j : Nat) (hj : j < 256) : (Lib.itoa (j : Int)).length ≤ 20 := by
  have h : (List.range 256).all (fun j => decide ((Lib.itoa (j : Int)).length ≤ 20)) = true := by kernel_rfl
  have := List.all_eq_true.1 h j (List.mem_range.2 hj)
  simpa using this
theorem out_last {α : Type} (a : List α) (e : α) (h : a.length ≤ 1000000) : getI (a ++ [e]) (IntKind.i64.wrap (((a ++ [e]).length : Int) - 1)) = some e := by
  rw [show (a ++ [e]).length = a.length + 1 by simp, wrap_last _ (by omega), getI_last]
theorem out_at {α : Type} (a : List α) (e : α) (h : a.length ≤ 1000000) : (IntKind.i64.wrap (((a ++ [e]).length : Int) - 1)).toNat = a.length := by
  rw [show (a ++ [e]).length = a.length + 1 by simp, wrap_last _ (by omega), Int.toNat_natCast]
theorem add_tail {R : Type} (a : List Ix) (e : Ix) (last : Int) (i : Nat) (g : Gp) (m : Ms) (c : Nat) (hc : c ≤ 1) (ha : a.length ≤ 1000000) (hgl : e.fGroups.length ≤ 1000000) (hlast : last = (i : Int) → e.fGroups ≠ [])
    (hml : ∀ q ∈ e.fGroups, q.fMessages.length ≤ 1000000) (F : List Ix → Int → R) :
    ((getI (a ++ [e]) (IntKind.i64.wrap (((a ++ [e]).length : Int) - 1))).bind fun e1 : Ix => bif !decide (last = (i : Int)) then
      thenO (lenO (e1.fGroups.length + 1)) ((getI (e1.fGroups ++ [(⟨g.fRef, g.fKind, []⟩ : Gp)]) (IntKind.i64.wrap (((e1.fGroups ++ [(⟨g.fRef, g.fKind, []⟩ : Gp)]).length : Int) - 1))).bind fun e3 : Gp => thenO (lenO (e3.fMessages.length + c))
        (some (F ((a ++ [e]).set (IntKind.i64.wrap (((a ++ [e]).length : Int) - 1)).toNat (⟨e1.fRef, e1.fSender, e1.fReceiver, e1.fDay, e1.fSecond, e1.fTest, (e1.fGroups ++ [(⟨g.fRef, g.fKind, []⟩ : Gp)]).set (IntKind.i64.wrap (((e1.fGroups ++ [(⟨g.fRef, g.fKind, []⟩ : Gp)]).length : Int) - 1)).toNat (⟨e3.fRef, e3.fKind, e3.fMessages ++ [m]⟩ : Gp)⟩ : Ix)) (i : Int))))
      else (getI e1.fGroups (IntKind.i64.wrap ((e1.fGroups.length : Int) - 1))).bind fun e2 : Gp => thenO (lenO (e2.fMessages.length + c))
        (some (F ((a ++ [e]).set (IntKind.i64.wrap (((a ++ [e]).length : Int) - 1)).toNat (⟨e1.fRef, e1.fSender, e1.fReceiver, e1.fDay, e1.fSecond, e1.fTest, e1.fGroups.set (IntKind.i64.wrap ((e1.fGroups.length : Int) - 1)).toNat (⟨e2.fRef, e2.fKind, e2.fMessages ++ [m]⟩ : Gp)⟩ : Ix)) last))) =
    some (F (a ++ [wg e (lastM (opn last i g e.fGroups) [m])]) (i : Int)) := by
  simp only [out_last a e ha, out_at a e ha, Option.bind_some, set_at]
  unfold opn
  by_cases hl : last = (i : Int)
  · rw [decide_eq_true hl, if_pos hl]
    rcases snoc_cases e.fGroups with h0 | ⟨q, y, hq⟩
    · exact absurd h0 (hlast hl)
    · have h1 : q.length ≤ 1000000 := by rw [hq] at hgl; simp at hgl; omega
      have h2 := hml y (by rw [hq]; simp)
      simp only [hq, Bool.not_true, cond_false, out_last q y h1, out_at q y h1, Option.bind_some, set_at, lastM_snoc]
      rw [thenO_ok (by omega), hl]; rfl
  · rw [decide_eq_false hl, if_neg hl]
    simp only [Bool.not_false, cond_true, out_last _ _ hgl, out_at _ _ hgl, Option.bind_some, set_at, lastM_snoc]
    rw [thenO_ok (by omega), thenO_ok (by simp only [List.length_nil]; omega)]; rfl
theorem itoaO (j : Nat) (hj : j < 256) : m_strconv_Itoa (j : Int) = some (Lib.itoa (j : Int)) := by unfold m_strconv_Itoa; rw [if_pos (by omega)]
theorem strO_ok {R : Type} {n : Nat} {m : Option R} (h : n ≤ 1000000) : thenO (strO n) m = m := thenO_some (strO_some.2 (by omega))
def refAt (l : List Ix) (j : Nat) : Bool := match l[j]? with | some p => isRef p.fRef | none => false
theorem noRef_len (x : Ix) (hr : x.fRef.length ≤ 14) (j : Nat) (hj : j < 255) : (noRef x j).length ≤ 64 := by
  unfold noRef
  split
  · omega
  · have := itoa_len (j + 1) (by omega); simp only [List.length_append, List.length_cons]; omega
theorem w_Split (x : Ix) (n : Nat) (h1 : 1 ≤ n) (h2 : n ≤ 200) (hx : IxOk x) (hF : IxF x) (hci : ciF x = 0) (hr : x.fRef.length ≤ 14) (hs : ∀ g ∈ x.fGroups, ∀ m ∈ g.fMessages, SegsOk m.fSegments) :
    m_wire_Split x (n : Int) = if (List.range (tI x n x.fGroups.length).out.length).all (refAt (tI x n x.fGroups.length).out) = true then some ((tI x n x.fGroups.length).out, 0) else some ([], 3) := by
  have hG := hF.grp.2
  have hm200 := hF.mes
  have hg50 := hF.len
  unfold m_wire_Split sims_GS_1_0; dsimp only
  rw [w_ci x hx, hci]
  simp only [Option.bind_some, decide_true, Bool.not_true, cond_false, outside_eq]
  rw [show outside (n : Int) 1 200 = false by unfold outside; simp; omega]
  simp only [cond_false]
  rw [thenO_ok (by omega)]
  simp only [Option.bind_some, outK]
  refine bind_loop (a := .inl ((n : Int), x, (tI x n x.fGroups.length).out, ((tI x n x.fGroups.length).many : Int), (tI x n x.fGroups.length).last, (x.fGroups.length : Int))) (loop_pre x.fGroups (fun i _ => ((n : Int), x, (tI x n i).out, ((tI x n i).many : Int), (tI x n i).last, (i : Int))) (fun i g hg => ?_) (by simp only [lt_dec_self, cond_false]; rfl)) ?_
  · have hi := get_le hg
    have hgm := mes_mem g (List.mem_of_getElem? hg)
    have hI := inv_all h1 hG i (Nat.le_of_lt hi)
    have ht : tI x n (i + 1) = gT x n i g (tI x n i) := by simp only [tI, hg]
    rw [ht]
    generalize tI x n i = t at hI
    have hlk := hI.lk
    rw [if_pos rfl] at hlk
    simp only [lt_dec hi, cond_true, getI_nat, hg, Option.bind_some]
    by_cases h0 : g.fMessages = []
    · have hp := PP_mes hg 0
      rw [PP_zero] at hp
      have hfew := hI.few
      have hgr := hI.grps
      have ha : t.a.length ≤ 1000000 := by omega
      have hgl : t.e.fGroups.length ≤ 1000000 := by omega
      rw [show decide ((g.fMessages.length : Int) = 0) = true by rw [h0]; rfl]
      simp only [cond_true, Sp.out, out_last _ _ ha, out_at _ _ ha, Option.bind_some]
      rw [decide_eq_false (show ¬ t.last = (i : Int) by omega)]
      simp only [Bool.not_false, cond_true, out_last _ _ hgl, Option.bind_some, set_at]
      rw [thenO_ok (by omega)]
      simp only [Option.bind_some, outK]
      refine bind_loop (a := .inl ((n : Int), x, t.a ++ [wg t.e (t.e.fGroups ++ [⟨g.fRef, g.fKind, []⟩])], (t.many : Int), (i : Int), (0 : Int))) (loop_trace (fun _ : Nat => ((n : Int), x, t.a ++ [wg t.e (t.e.fGroups ++ [⟨g.fRef, g.fKind, []⟩])], (t.many : Int), (i : Int), (0 : Int))) 0 (fun j hj => absurd hj (by omega)) (by rw [h0]; rfl)) ?_
      have e0 : gT x n i g t = grpT i g t := by unfold gT; rw [h0]; rfl
      have e1 : opn t.last i g t.e.fGroups = t.e.fGroups ++ [⟨g.fRef, g.fKind, []⟩] := by unfold opn; rw [if_neg (show ¬ t.last = (i : Int) by omega)]
      simp only [outK, e0, grpT, e1, wrapN i (by omega)]
    · have hl : g.fMessages.length ≠ 0 := fun e => h0 (List.length_eq_zero_iff.1 e)
      rw [show decide ((g.fMessages.length : Int) = 0) = false from decide_eq_false (by omega)]
      simp only [cond_false]
      refine bind_loop (a := .inl ((n : Int), x, (gT x n i g t).out, ((gT x n i g t).many : Int), (gT x n i g t).last, (g.fMessages.length : Int))) ((loop_pre g.fMessages (fun k q => ((n : Int), x, (q.foldl (msgT x n i g) t).out, ((q.foldl (msgT x n i g) t).many : Int), (q.foldl (msgT x n i g) t).last, (k : Int))) (fun k m hm => ?_) (by simp only [lt_dec_self, cond_false]; unfold gT; rw [if_neg hl]; rfl))) (by simp only [outK, wrapN i (by omega : i < 9223372036854775807)])
      have hk := get_le hm
      have hK := hI.msgs h1 hG hg k (Nat.le_of_lt hk)
      have hp := PP_mes hg k
      rw [List.foldl_append, List.foldl_cons, List.foldl_nil]
      generalize (g.fMessages.take k).foldl (msgT x n i g) t = u at hK
      have hfew := hK.few
      have hgr := hK.grps
      have hkl := hK.lk
      have ha : u.a.length ≤ 1000000 := by omega
      have hgl : u.e.fGroups.length ≤ 1000000 := by omega
      have hml : ∀ q ∈ u.e.fGroups, q.fMessages.length ≤ 1000000 := fun q hq => by have := mes_mem q hq; have := hK.many; omega
      have hcl := cloneAll_eq _ (hs g (List.mem_of_getElem? hg) m (List.mem_of_getElem? hm))
      simp only [lt_dec hk, cond_true, getI_nat, hm, hg, Option.bind_some, hcl]
      by_cases hb : u.many = n
      · have hol : u.out.length = u.a.length + 1 := by simp [Sp.out]
        have e1 : Lib.itoa ((u.out.length + 1 : Nat) : Int) = Lib.itoa ((u.a.length + 1 + 1 : Nat) : Int) := by rw [hol]
        have hit := itoa_len (u.out.length + 1) (by omega)
        rw [decide_eq_true (show (u.many : Int) = (n : Int) by omega), show decide ((0 : Int) < (u.out.length : Int)) = true from decide_eq_true (by omega)]
        simp only [cond_true, wrapN u.out.length (by omega), itoaO _ (show u.out.length + 1 < 256 by omega), Option.bind_some]
        rw [strO_ok (by simp only [List.length_cons, List.length_nil]; omega), strO_ok (by simp only [List.length_cons]; omega), thenO_ok (by omega)]
        simp only [Option.bind_some, outK, hcl, getI_nat, hg]
        refine (add_tail (u.a ++ [u.e]) (hd x (x.fRef ++ 45 :: Lib.itoa ((u.out.length + 1 : Nat) : Int)) []) (-1) i g m 1 (Nat.le_refl 1) (by simp; omega) (by simp [hd]) (by omega) (by simp [hd]) (fun o l => Sum.inl ((n : Int), x, o, IntKind.i64.wrap (0 + 1), l, IntKind.i64.wrap ((k : Int) + 1)))).trans ?_
        have e2 : noRef x (u.a.length + 1) = x.fRef ++ 45 :: Lib.itoa ((u.out.length + 1 : Nat) : Int) := by unfold noRef; rw [if_neg (by omega), e1]
        simp only [msgT, begT, if_pos hb, addT, Sp.out, e2, wrapN k (by omega)]
        rw [show IntKind.i64.wrap (0 + 1) = ((0 + 1 : Nat) : Int) from by decide]
      · rw [decide_eq_false (show ¬ (u.many : Int) = (n : Int) by omega)]
        simp only [cond_false]
        refine (add_tail u.a u.e u.last i g m 1 (Nat.le_refl 1) ha hgl (fun hq => ?_) hml (fun o l => Sum.inl ((n : Int), x, o, IntKind.i64.wrap ((u.many : Int) + 1), l, IntKind.i64.wrap ((k : Int) + 1)))).trans ?_
        · by_cases hk0 : k = 0
          · rw [if_pos hk0] at hkl; omega
          · exact hK.ne (by omega)
        · simp only [msgT, begT, if_neg hb, addT, Sp.out, wrapN k (by omega), wrapN u.many (by omega)]
  · have hI := inv_all h1 hG x.fGroups.length (Nat.le_refl _)
    generalize tI x n x.fGroups.length = t at hI
    have hfew := hI.few
    rw [List.take_length] at hfew
    have hol : t.out.length = t.a.length + 1 := by simp [Sp.out]
    simp only [outK]
    refine (loop_allB t.out.length (refAt t.out) ([], 3) (fun _ => some (t.out, 0)) (fun j hj => ?_) (by simp only [lt_dec_self, cond_false]; rfl))
    obtain ⟨p, hp⟩ := get_lt hj
    obtain ⟨gs, hgs⟩ := hI.hdr j p hp
    have hpl : p.fRef.length ≤ 9223372036854775807 := by
      rw [hgs]
      have := noRef_len x hr j (by omega)
      simp only [hd]; omega
    simp only [lt_dec hj, cond_true, getI_nat, hp, Option.bind_some, isRef_eq _ hpl, refAt, wrapN j (by omega)]
    cases isRef p.fRef <;> rfl
end Go.Proofs.YthcfbglbjipdaaaGreatDoor

/-
  Plain laws of interchanges: the reference's Split.
-/
namespace Go.Proofs.YthcfbglbjipdaaaGreatDoor
set_option linter.unusedSimpArgs false
set_option linter.unusedVariables false
open Go.RowKit

theorem r_message (m : Ms) (h : SegsOk m.fSegments) : m_interchangeref2_message m = some m := by
  obtain ⟨h1, h2⟩ := h
  unfold m_interchangeref2_message sims_G8_0_0; dsimp only
  refine bind_loop (a := .inl (m.fRef, m.fKind, m.fVersion, m.fSegments, (m.fSegments.length : Int))) (loop_pre m.fSegments (fun i q => (m.fRef, m.fKind, m.fVersion, q, (i : Int))) (fun i s hs => ?_) (by simp only [lt_dec_self, cond_false]; rfl)) rfl
  have hi := get_le hs
  have hcp : m_interchangeref2_copied s = some s := by unfold m_interchangeref2_copied; rw [if_pos (h2 s (List.mem_of_getElem? hs))]
  simp only [lt_dec hi, cond_true, getI_nat, hs, Option.bind_some, hcp, wrapN i (by omega)]
  rw [thenO_ok (by simp [List.length_take]; omega)]
/-- The reference's state: the groups of the present part, the messages of its last group, the parts ahead of it, the messages of the present part. -/
structure RS where
  gs : List Gp
  ms : List Ms
  out : List Ix
  many : Nat
def reH (x : Ix) (p : Ix) : Ix := hd x x.fRef p.fGroups
def rStep (x : Ix) (n : Nat) (g : Gp) (r : RS) (m : Ms) : RS :=
  if r.many = n then ⟨[], [m], r.out ++ [hd x x.fRef (if 0 < r.ms.length then r.gs ++ [⟨g.fRef, g.fKind, r.ms⟩] else r.gs)], 1⟩ else ⟨r.gs, r.ms ++ [m], r.out, r.many + 1⟩
structure Rel (x : Ix) (i : Nat) (g : Gp) (t : Sp) (r : RS) : Prop where
  out : r.out = t.a.map (reH x)
  many : r.many = t.many
  last : (r.ms = [] ∧ t.e.fGroups = r.gs ∧ t.last ≠ (i : Int)) ∨ (r.ms ≠ [] ∧ t.e.fGroups = r.gs ++ [⟨g.fRef, g.fKind, r.ms⟩] ∧ t.last = (i : Int))
theorem Rel.step {x : Ix} {i n : Nat} {g : Gp} {t : Sp} {r : RS} (h : Rel x i g t r) (m : Ms) : Rel x i g (msgT x n i g t m) (rStep x n g r m) := by
  unfold msgT rStep begT addT
  rw [h.many]
  by_cases hb : t.many = n
  · rw [if_pos hb, if_pos hb]
    refine ⟨?_, rfl, .inr ⟨by simp, ?_, rfl⟩⟩
    · simp only [List.map_append, List.map_cons, List.map_nil, h.out]
      congr 2
      unfold reH
      rcases h.last with ⟨h1, h2, _⟩ | ⟨h1, h2, _⟩
      · rw [h1, if_neg (by simp), h2]
      · rw [if_pos (by cases hm : r.ms with | nil => exact absurd hm h1 | cons a b => simp), h2]
    · have e0 : opn (-1) i g (hd x (noRef x (t.a.length + 1)) []).fGroups = [] ++ [⟨g.fRef, g.fKind, []⟩] := by unfold opn; rw [if_neg (by omega)]; rfl
      show lastM (opn (-1) i g (hd x (noRef x (t.a.length + 1)) []).fGroups) [m] = _
      rw [e0, lastM_snoc]; rfl
  · rw [if_neg hb, if_neg hb]
    refine ⟨h.out, rfl, .inr ⟨by simp, ?_, rfl⟩⟩
    show lastM (opn t.last i g t.e.fGroups) [m] = _
    unfold opn
    rcases h.last with ⟨h1, h2, h3⟩ | ⟨h1, h2, h3⟩
    · rw [if_neg h3, h2, lastM_snoc, h1]
    · rw [if_pos h3, h2, lastM_snoc]
theorem Rel.steps {x : Ix} {i n : Nat} {g : Gp} : ∀ (l : List Ms) {t : Sp} {r : RS}, Rel x i g t r → Rel x i g (l.foldl (msgT x n i g) t) (l.foldl (rStep x n g) r)
  | [], _, _, h => h
  | m :: l, _, _, h => Rel.steps l (h.step m)
theorem Rel.grp {x : Ix} {i n : Nat} {g : Gp} {t : Sp} (hl : t.last ≠ (i : Int)) {r : RS} (hr : r = g.fMessages.foldl (rStep x n g) ⟨t.e.fGroups, [], t.a.map (reH x), t.many⟩) :
    r.out = (gT x n i g t).a.map (reH x) ∧ r.many = (gT x n i g t).many ∧ r.gs ++ [⟨g.fRef, g.fKind, r.ms⟩] = (gT x n i g t).e.fGroups := by
  have h0 : Rel x i g t ⟨t.e.fGroups, [], t.a.map (reH x), t.many⟩ := ⟨rfl, rfl, .inl ⟨rfl, rfl, hl⟩⟩
  unfold gT
  by_cases hm : g.fMessages = []
  · rw [hm] at hr ⊢
    subst hr
    refine ⟨rfl, rfl, ?_⟩
    show t.e.fGroups ++ _ = opn t.last i g t.e.fGroups
    unfold opn; rw [if_neg hl]; rfl
  · rw [if_neg (fun e => hm (List.length_eq_zero_iff.1 e))]
    have h1 := Rel.steps (n := n) g.fMessages h0
    rw [← hr] at h1
    refine ⟨h1.out, h1.many, ?_⟩
    rcases h1.last with ⟨h2, _, _⟩ | ⟨_, h2, _⟩
    · exfalso
      have : ∀ (l : List Ms) (r : RS), (l ≠ [] ∨ r.ms ≠ []) → (l.foldl (rStep x n g) r).ms ≠ [] := by
        intro l
        induction l with
        | nil => intro r h; exact h.resolve_left (fun h => h rfl)
        | cons m l ih =>
          intro r _
          refine ih _ (.inr ?_)
          unfold rStep; split <;> simp
      have h3 := this g.fMessages ⟨t.e.fGroups, [], t.a.map (reH x), t.many⟩ (.inl hm)
      rw [← hr] at h3
      exact h3 h2
    · exact h2.symm
theorem set_mid {α : Type} (A B : List α) (b c : α) {i : Nat} (hi : A.length = i) : (A ++ b :: B).set i c = A ++ c :: B := by
  subst hi; simp
theorem get_mid {α : Type} (A B : List α) (b : α) {i : Nat} (hi : A.length = i) : (A ++ b :: B)[i]? = some b := by
  subst hi; simp
/-- A loop in which what is known of the rounds before serves. -/
theorem loop_firstP {S A : Type} {f : S → Option (S ⊕ A)} {z : A} (st : Nat → S) (n : Nat) (g : Nat → Option A) (hs : ∀ i, i < n → (∀ j, j ≤ i → g j = none) → f (st i) = some (.inl (st (i + 1)))) (hx : ∀ i a, i < n → (∀ j, j < i → g j = none) → g i = some a → f (st i) = some (.inr a)) (he : (∀ j, j < n → g j = none) → f (st n) = some (.inr z)) : loopC f (st 0) = some ((firstS g 0 n).getD z) := by
  rcases firstS_cases g n with ⟨h1, h2⟩ | ⟨k, a, h1, h2, h3, h4⟩
  · rw [h1, Option.getD_none]
    exact loop_trace st n (fun i hi => hs i hi (fun j hj => h2 j (by omega))) (he h2)
  · rw [h4, Option.getD_some]
    exact loop_trace st k (fun i hi => hs i (by omega) (fun j hj => h2 j (by omega))) (hx k a h1 h2 h3)
noncomputable def rlF (x : Ix) (s : List Ix × Int) : Option ((List Ix × Int) ⊕ ((List Ix × Int) ⊕ (List Ix × Int))) := bif decide (s.snd < (s.fst.length : Int)) then
        thenO (strO (x.fRef.length + [45].length)) ((m_strconv_Itoa (IntKind.i64.wrap (s.snd + 1))).bind fun y => thenO (strO ((x.fRef ++ [45]).length + y.length)) ((getI s.fst s.snd).bind fun e => s.fst[s.snd.toNat]?.bind fun e =>
          (getI (s.fst.set s.snd.toNat ({ fRef := x.fRef ++ [45] ++ y, fSender := e.fSender, fReceiver := e.fReceiver, fDay := e.fDay, fSecond := e.fSecond, fTest := e.fTest, fGroups := e.fGroups } : Ix)) s.snd).bind fun e_1 =>
          (s.fst.set s.snd.toNat ({ fRef := x.fRef ++ [45] ++ y, fSender := e.fSender, fReceiver := e.fReceiver, fDay := e.fDay, fSecond := e.fSecond, fTest := e.fTest, fGroups := e.fGroups } : Ix))[s.snd.toNat]?.bind fun e_2 =>
          (m_interchangeref2_IsReference e_2.fRef).bind fun x_1 => bif !x_1 then inrO (inrO (some ([], 3))) else some (Sum.inl (s.fst.set s.snd.toNat ({ fRef := x.fRef ++ [45] ++ y, fSender := e.fSender, fReceiver := e.fReceiver, fDay := e.fDay, fSecond := e.fSecond, fTest := e.fTest, fGroups := e.fGroups } : Ix), IntKind.i64.wrap (s.snd + 1)))))
        else inrO (some (Sum.inl (s.fst, s.snd)))
theorem rlF_at (x : Ix) (hr : x.fRef.length ≤ 14) (L : List Ix) (i : Nat) (p : Ix) (hp : L[i]? = some p) (h0 : 0 < i) (hi : i < 255) (hL : L.length ≤ 1000000) (hpe : p = hd x (noRef x i) p.fGroups) :
    rlF x (L.take i ++ (L.drop i).map (reH x), (i : Int)) = bif isRef p.fRef then some (.inl (L.take (i + 1) ++ (L.drop (i + 1)).map (reH x), ((i + 1 : Nat) : Int))) else some (.inr (.inr ([], 3))) := by
  have hlt := get_le hp
  have hdr : L.drop i = p :: L.drop (i + 1) := by
    rw [List.drop_eq_getElem_cons hlt]
    rw [List.getElem?_eq_getElem hlt] at hp
    cases hp; rfl
  have htl : (L.take i).length = i := by rw [List.length_take]; omega
  have hlen : (L.take i ++ reH x p :: (L.drop (i + 1)).map (reH x)).length = L.length := by simp; omega
  have hset : (L.take i ++ reH x p :: (L.drop (i + 1)).map (reH x)).set i p = L.take (i + 1) ++ (L.drop (i + 1)).map (reH x) := by
    rw [set_mid _ _ _ _ htl, List.take_add_one, hp]
    simp
  have hget : (L.take (i + 1) ++ (L.drop (i + 1)).map (reH x))[i]? = some p := by
    rw [List.getElem?_append_left (by rw [List.length_take]; omega), List.getElem?_take, if_pos (by omega)]
    exact hp
  have hit := itoa_len (i + 1) (by omega)
  have href : x.fRef ++ [45] ++ Lib.itoa ((i + 1 : Nat) : Int) = noRef x i := by unfold noRef; rw [if_neg (by omega)]; simp
  have hnl := noRef_len x hr i hi
  have hpl : p.fRef.length ≤ 9223372036854775807 := by rw [hpe]; simp only [hd]; omega
  unfold rlF
  rw [hdr, List.map_cons]
  have hpx : ({ fRef := noRef x i, fSender := (reH x p).fSender, fReceiver := (reH x p).fReceiver, fDay := (reH x p).fDay, fSecond := (reH x p).fSecond, fTest := (reH x p).fTest, fGroups := (reH x p).fGroups } : Ix) = p := by
    rw [hpe]; rfl
  simp only [hlen, lt_dec hlt, cond_true, wrapN i (by omega), itoaO (i + 1) (by omega), Option.bind_some, getI_nat, Int.toNat_natCast, get_mid _ _ _ htl, href]
  rw [hpx, hset]
  simp only [hget, Option.bind_some, isReference_eq p.fRef hpl]
  rw [strO_ok (by simp; omega), strO_ok (by simp only [List.length_append, List.length_cons, List.length_nil]; omega)]
  cases isRef p.fRef <;> rfl
theorem r_Split (x : Ix) (n : Nat) (h1 : 1 ≤ n) (h2 : n ≤ 200) (hx : IxOk x) (hF : IxF x) (hci : ciF x = 0) (hr : x.fRef.length ≤ 14) (hs : ∀ g ∈ x.fGroups, ∀ m ∈ g.fMessages, SegsOk m.fSegments) :
    m_interchangeref2_Split x (n : Int) = if (List.range (tI x n x.fGroups.length).out.length).all (refAt (tI x n x.fGroups.length).out) = true then some ((tI x n x.fGroups.length).out, 0) else some ([], 3) := by
  have hG := hF.grp.2
  have hm200 := hF.mes
  have hg50 := hF.len
  unfold m_interchangeref2_Split sims_G9_0_0; dsimp only
  rw [r_ci x hx, hci]
  simp only [Option.bind_some, decide_true, Bool.not_true, cond_false, orO_some]
  rw [show (decide ((n : Int) < 1) || decide ((200 : Int) < (n : Int))) = false by simp; omega]
  simp only [cond_false]
  refine bind_loop (a := .inl (x.fRef, x.fSender, x.fReceiver, x.fDay, x.fSecond, x.fTest, (tI x n x.fGroups.length).e.fGroups, (tI x n x.fGroups.length).a.map (reH x), ((tI x n x.fGroups.length).many : Int), (x.fGroups.length : Int))) (loop_pre x.fGroups (fun i _ => (x.fRef, x.fSender, x.fReceiver, x.fDay, x.fSecond, x.fTest, (tI x n i).e.fGroups, (tI x n i).a.map (reH x), ((tI x n i).many : Int), (i : Int))) (fun i g hg => ?_) (by simp only [lt_dec_self, cond_false]; rfl)) ?_
  · have hi := get_le hg
    have hgm := mes_mem g (List.mem_of_getElem? hg)
    have hI := inv_all h1 hG i (Nat.le_of_lt hi)
    have ht : tI x n (i + 1) = gT x n i g (tI x n i) := by simp only [tI, hg]
    rw [ht]
    generalize tI x n i = t at hI
    have hlk := hI.lk
    rw [if_pos rfl] at hlk
    have hl : t.last ≠ (i : Int) := by omega
    have h0 : Rel x i g t ⟨t.e.fGroups, [], t.a.map (reH x), t.many⟩ := ⟨rfl, rfl, .inl ⟨rfl, rfl, hl⟩⟩
    simp only [lt_dec hi, cond_true, getI_nat, hg, Option.bind_some]
    have hbd : ∀ k, k ≤ g.fMessages.length → ∀ r : RS, r = (g.fMessages.take k).foldl (rStep x n g) ⟨t.e.fGroups, [], t.a.map (reH x), t.many⟩ → r.gs.length ≤ 1000000 ∧ r.ms.length ≤ 1000000 ∧ r.out.length ≤ 1000000 ∧ r.many ≤ 1000000 := by
      intro k hk r hrr
      have hK := hI.msgs h1 hG hg k hk
      have hR := Rel.steps (n := n) (g.fMessages.take k) h0
      rw [← hrr] at hR
      generalize (g.fMessages.take k).foldl (msgT x n i g) t = u at hK hR
      have hp := PP_mes hg k
      have hfew := hK.few
      have hgr := hK.grps
      have hmany := hK.many
      have hout : r.out.length = u.a.length := by rw [hR.out]; simp
      have hma := hR.many
      rcases hR.last with ⟨e1, e2, _⟩ | ⟨e1, e2, _⟩
      · rw [e2] at hgr
        exact ⟨by omega, by rw [e1]; simp, by omega, by omega⟩
      · rw [e2] at hgr
        have := mes_mem (⟨g.fRef, g.fKind, r.ms⟩ : Gp) (by rw [e2]; simp : _ ∈ u.e.fGroups)
        simp only [List.length_append, List.length_cons, List.length_nil] at hgr
        simp only at this
        exact ⟨by omega, by omega, by omega, by omega⟩
    refine bind_loop (a := .inl (x.fRef, x.fSender, x.fReceiver, x.fDay, x.fSecond, x.fTest, (g.fMessages.foldl (rStep x n g) ⟨t.e.fGroups, [], t.a.map (reH x), t.many⟩).gs, g.fRef, g.fKind, (g.fMessages.foldl (rStep x n g) ⟨t.e.fGroups, [], t.a.map (reH x), t.many⟩).ms, (g.fMessages.foldl (rStep x n g) ⟨t.e.fGroups, [], t.a.map (reH x), t.many⟩).out, ((g.fMessages.foldl (rStep x n g) ⟨t.e.fGroups, [], t.a.map (reH x), t.many⟩).many : Int), (g.fMessages.length : Int)))
      (loop_pre g.fMessages (fun k q => (x.fRef, x.fSender, x.fReceiver, x.fDay, x.fSecond, x.fTest, (q.foldl (rStep x n g) ⟨t.e.fGroups, [], t.a.map (reH x), t.many⟩).gs, g.fRef, g.fKind, (q.foldl (rStep x n g) ⟨t.e.fGroups, [], t.a.map (reH x), t.many⟩).ms, (q.foldl (rStep x n g) ⟨t.e.fGroups, [], t.a.map (reH x), t.many⟩).out, ((q.foldl (rStep x n g) ⟨t.e.fGroups, [], t.a.map (reH x), t.many⟩).many : Int), (k : Int))) (fun k m hm => ?_) (by simp only [lt_dec_self, cond_false]; rfl)) ?_
    · have hk := get_le hm
      obtain ⟨b1, b2, b3, b4⟩ := hbd k (Nat.le_of_lt hk) _ rfl
      rw [List.foldl_append, List.foldl_cons, List.foldl_nil]
      generalize (g.fMessages.take k).foldl (rStep x n g) ⟨t.e.fGroups, [], t.a.map (reH x), t.many⟩ = r at b1 b2 b3 b4
      have hmsg := r_message m (hs g (List.mem_of_getElem? hg) m (List.mem_of_getElem? hm))
      simp only [lt_dec hk, cond_true, getI_nat, hm, Option.bind_some, hmsg, wrapN k (by omega)]
      by_cases hb : r.many = n
      · rw [decide_eq_true (show (r.many : Int) = (n : Int) by omega)]
        simp only [cond_true]
        have e1 : rStep x n g r m = ⟨[], [m], r.out ++ [hd x x.fRef (if 0 < r.ms.length then r.gs ++ [⟨g.fRef, g.fKind, r.ms⟩] else r.gs)], 1⟩ := by unfold rStep; rw [if_pos hb]
        rw [e1]
        by_cases hp : 0 < r.ms.length
        · rw [decide_eq_true (show (0 : Int) < (r.ms.length : Int) by omega), if_pos hp]
          simp only [cond_true]
          rw [thenO_ok (by simp; omega), thenO_ok (by simp; omega), thenO_ok (by simp)]
          rw [show IntKind.i64.wrap 1 = ((1 : Nat) : Int) from by decide]
          rfl
        · rw [decide_eq_false (show ¬ (0 : Int) < (r.ms.length : Int) by omega), if_neg hp]
          simp only [cond_false]
          rw [thenO_ok (by simp; omega), thenO_ok (by simp)]
          rw [show IntKind.i64.wrap 1 = ((1 : Nat) : Int) from by decide]
          rfl
      · rw [decide_eq_false (show ¬ (r.many : Int) = (n : Int) by omega)]
        simp only [cond_false]
        have e1 : rStep x n g r m = ⟨r.gs, r.ms ++ [m], r.out, r.many + 1⟩ := by unfold rStep; rw [if_neg hb]
        rw [e1, thenO_ok (by simp; omega), wrapN r.many (by omega)]
    · obtain ⟨b1, b2, b3, b4⟩ := hbd g.fMessages.length (Nat.le_refl _) (g.fMessages.foldl (rStep x n g) ⟨t.e.fGroups, [], t.a.map (reH x), t.many⟩) (by rw [List.take_length])
      obtain ⟨c1, c2, c3⟩ := Rel.grp (x := x) (n := n) (g := g) hl rfl
      generalize g.fMessages.foldl (rStep x n g) ⟨t.e.fGroups, [], t.a.map (reH x), t.many⟩ = r at b1 b2 b3 b4 c1 c2 c3
      simp only [outK]
      rw [thenO_ok (by simp; omega), c3, c1, c2, wrapN i (by omega)]
  · have hI := inv_all h1 hG x.fGroups.length (Nat.le_refl _)
    generalize tI x n x.fGroups.length = t at hI
    have hfew := hI.few
    rw [List.take_length] at hfew
    have hol : t.out.length = t.a.length + 1 := by simp [Sp.out]
    simp only [outK]
    have e0 : t.a.map (reH x) ++ [(⟨x.fRef, x.fSender, x.fReceiver, x.fDay, x.fSecond, x.fTest, t.e.fGroups⟩ : Ix)] = t.out.map (reH x) := by unfold Sp.out; simp only [List.map_append, List.map_cons, List.map_nil]; rfl
    rw [thenO_ok (by simp; omega), e0]
    have hat : ∀ (j : Nat) (p : Ix), t.out[j]? = some p → p = hd x (noRef x j) p.fGroups := by
      intro j p hp
      obtain ⟨gs, rfl⟩ := hI.hdr j p hp
      rfl
    have hst : ∀ (i : Nat) (p : Ix), t.out[i]? = some p → (t.out.drop i).map (reH x) = reH x p :: (t.out.drop (i + 1)).map (reH x) := by
      intro i p hp
      have hi := get_le hp
      rw [List.drop_eq_getElem_cons hi, List.map_cons]
      congr 2
      rw [List.getElem?_eq_getElem hi] at hp
      cases hp; rfl
    obtain ⟨p0, hp0⟩ := get_lt (show 0 < t.out.length by omega)
    have hone : t.out.map (reH x) = t.out.take 1 ++ (t.out.drop 1).map (reH x) := by
      have h3 := hst 0 p0 hp0
      rw [List.drop_zero] at h3
      rw [h3, List.take_add_one, hp0]
      have h4 := hat 0 p0 hp0
      have h5 : reH x p0 = p0 := by
        rw [h4]; unfold reH hd noRef; rfl
      rw [h5]; rfl
    have hr0 : refAt t.out 0 = true := by
      unfold refAt
      rw [hp0, hat 0 p0 hp0]
      exact hF.ref
    have key := loop_firstP (A := (List Ix × Int) ⊕ (List Ix × Int)) (z := .inl (t.out, (t.out.length : Int))) (f := rlF x) (fun j => (t.out.take (j + 1) ++ (t.out.drop (j + 1)).map (reH x), ((j + 1 : Nat) : Int))) (t.out.length - 1) (fun j => bif refAt t.out (j + 1) then none else some (.inr ([], 3))) ?_ ?_ ?_
    · have h3 : ((0 + 1 : Nat) : Int) = 1 := rfl
      rw [hone]
      simp only [Nat.zero_add] at key
      refine bind_loop key ?_
      by_cases hall : (List.range t.out.length).all (refAt t.out) = true
      · rw [if_pos hall, firstS_none (fun j hj => by rw [List.all_eq_true.1 hall (j + 1) (List.mem_range.2 (by omega))]; rfl)]
        rfl
      · rw [if_neg hall]
        rcases firstS_cases (fun j => bif refAt t.out (j + 1) then none else some (Sum.inr (α := List Ix × Int) (([] : List Ix), (3 : Int)))) (t.out.length - 1) with ⟨h4, h5⟩ | ⟨k, a, h4, h5, h6, h7⟩
        · exfalso
          refine hall (List.all_eq_true.2 fun j hj => ?_)
          have hj := List.mem_range.1 hj
          cases j with
          | zero => exact hr0
          | succ j =>
            have := h5 j (by omega)
            cases hq : refAt t.out (j + 1) with
            | true => rfl
            | false => rw [hq] at this; cases this
        · rw [h7]
          cases hq : refAt t.out (k + 1) with
          | true => rw [hq] at h6; cases h6
          | false => rw [hq] at h6; cases h6; rfl
    · intro j hj hno
      obtain ⟨p, hp⟩ := get_lt (show j + 1 < t.out.length by omega)
      have h6 := hno j (Nat.le_refl _)
      have h7 : refAt t.out (j + 1) = isRef p.fRef := by unfold refAt; rw [hp]
      have := rlF_at x hr t.out (j + 1) p hp (by omega) (by omega) (by omega) (hat _ p hp)
      rw [this]
      rw [h7] at h6
      cases hq : isRef p.fRef with
      | true => rfl
      | false => rw [hq] at h6; cases h6
    · intro j a hj hno ha
      obtain ⟨p, hp⟩ := get_lt (show j + 1 < t.out.length by omega)
      have h7 : refAt t.out (j + 1) = isRef p.fRef := by unfold refAt; rw [hp]
      have := rlF_at x hr t.out (j + 1) p hp (by omega) (by omega) (by omega) (hat _ p hp)
      rw [this]
      rw [h7] at ha
      cases hq : isRef p.fRef with
      | true => rw [hq] at ha; cases ha
      | false => rw [hq] at ha; cases ha; rfl
    · intro _
      have e1 : t.out.length - 1 + 1 = t.out.length := by omega
      rw [e1, List.take_length, List.drop_length, List.map_nil, List.append_nil]
      unfold rlF
      simp only [lt_dec_self, cond_false]
      rfl
end Go.Proofs.YthcfbglbjipdaaaGreatDoor

/-
  Plain laws of interchanges: Merge of any interchanges, on both sides.
-/
namespace Go.Proofs.YthcfbglbjipdaaaGreatDoor
set_option linter.unusedSimpArgs false
set_option linter.unusedVariables false
open Go.RowKit

theorem put_stepR {R : Type} (b c : Bool) (acc : List Gp) (r k : List UInt8) (ms : List Ms) (n : Nat) (hn : n ≤ 1) (hl : acc.length ≤ 1073741824) (hm : ∀ e ∈ acc, e.fMessages.length + ms.length ≤ 137438953472) (F : List Gp → R) :
    ((andO b (some c)).bind fun v => (andO v (some (decide ((0 : Int) < (acc.length : Int))))).bind fun v =>
      (andO v ((getI acc (IntKind.i64.wrap ((acc.length : Int) - 1))).bind fun e => some (decide (e.fRef = r)))).bind fun v =>
      (andO v ((getI acc (IntKind.i64.wrap ((acc.length : Int) - 1))).bind fun e => some (decide (e.fKind = k)))).bind fun v =>
      bif v then (getI acc (IntKind.i64.wrap ((acc.length : Int) - 1))).bind fun x => (getI acc (IntKind.i64.wrap ((acc.length : Int) - 1))).bind fun e => thenO (lenO (x.fMessages.length + ms.length)) ((getI acc (IntKind.i64.wrap ((acc.length : Int) - 1))).bind fun e =>
        some (F (acc.set (IntKind.i64.wrap ((acc.length : Int) - 1)).toNat ⟨x.fRef, x.fKind, x.fMessages ++ ms⟩)))
      else thenO (lenO (acc.length + n)) (some (F (acc ++ [⟨r, k, ms⟩])))) = some (F (put (b && c) acc ⟨r, k, ms⟩)) := by
  rcases snoc_cases acc with rfl | ⟨a, e, rfl⟩
  · have e1 : decide ((0 : Int) < ((([] : List Gp).length : Nat) : Int)) = false := by decide
    simp only [e1, andO_some, Option.bind_some, Bool.and_false, andO_ff, cond_false]
    rw [thenO_ok (by simp only [List.length_nil]; omega)]
    unfold put
    rw [hitB_nil]; rfl
  · have hlen : (a ++ [e]).length = a.length + 1 := by simp
    have hl' : a.length ≤ 1099511627776 := by omega
    simp only [hlen, wrap_last _ hl', getI_last, Option.bind_some, andO_some, Int.toNat_natCast]
    rw [decide_eq_true (show (0 : Int) < ((a.length + 1 : Nat) : Int) by omega), Bool.and_true]
    unfold put
    rw [hitB_snoc, lastM_snoc]
    have hm' := hm e (by simp)
    cases hh : (b && c && decide (e.fRef = r) && decide (e.fKind = k)) with
    | true => 
      simp only [cond_true]
      rw [thenO_ok hm', set_at]
    | false => simp only [cond_false]; rw [thenO_ok (by omega)]

def clashB (x p : Ix) : Bool := !decide (p.fSender = x.fSender) || !decide (p.fReceiver = x.fReceiver) || !decide (p.fDay = x.fDay) || !decide (p.fSecond = x.fSecond) || !decide (p.fTest = x.fTest)
def refOf (x : Ix) (i : Nat) : List UInt8 := x.fRef ++ [45] ++ Lib.itoa ((i + 1 : Nat) : Int)
def refB (x p : Ix) (i : Nat) : Bool := decide (0 < i) && !decide (p.fRef = refOf x i)
def mErr (x p : Ix) (i : Nat) : Int := if ciF p = 0 then (bif clashB x p then 12 else bif refB x p i then 3 else 0) else ciF p
def errAt (l : List Ix) (x : Ix) (i : Nat) : Option (Ix × Int) := match l[i]? with
  | some p => if mErr x p i = 0 then none else some (zIx, mErr x p i)
  | none => none
def wIx (x : Ix) (gs : List Gp) : Ix := ⟨x.fRef, x.fSender, x.fReceiver, x.fDay, x.fSecond, x.fTest, gs⟩
def finF (x : Ix) (gs : List Gp) : Ix × Int := bif !decide (ciF (wIx x gs) = 0) then (zIx, ciF (wIx x gs)) else (wIx x gs, 0)
def mergeF (l : List Ix) : Ix × Int := match l[0]? with
  | none => (zIx, 9)
  | some x => bif decide ((200 : Int) < (l.length : Int)) then (zIx, 2) else (firstS (errAt l x) 0 l.length).getD (finF x (MA l))
theorem firstS_map {A B : Type} (h : A → B) (g : Nat → Option A) : ∀ (n i : Nat), firstS (fun j => (g j).map h) i n = (firstS g i n).map h
  | 0, _ => rfl
  | n + 1, i => by
    simp only [firstS]
    cases g i with
    | some a => rfl
    | none => exact firstS_map h g n (i + 1)
theorem mErr_zero {x p : Ix} {i : Nat} (h : mErr x p i = 0) : ciF p = 0 ∧ clashB x p = false ∧ refB x p i = false := by
  unfold mErr at h
  by_cases hc : ciF p = 0
  · rw [if_pos hc] at h
    cases h1 : clashB x p with
    | true => rw [h1] at h; cases h
    | false =>
    cases h2 : refB x p i with
    | true => rw [h1, h2] at h; cases h
    | false => exact ⟨hc, rfl, rfl⟩
  · rw [if_neg hc] at h; exact absurd h hc
theorem errAt_none {l : List Ix} {x p : Ix} {i : Nat} (hp : l[i]? = some p) (h : errAt l x i = none) : ciF p = 0 ∧ clashB x p = false ∧ refB x p i = false := by
  unfold errAt at h
  rw [hp] at h
  simp only at h
  by_cases hm : mErr x p i = 0
  · exact mErr_zero hm
  · rw [if_neg hm] at h; cases h
theorem errAt_some {l : List Ix} {x p : Ix} {i : Nat} {a : Ix × Int} (hp : l[i]? = some p) (h : errAt l x i = some a) : a = (zIx, mErr x p i) ∧ mErr x p i ≠ 0 := by
  unfold errAt at h
  rw [hp] at h
  simp only at h
  by_cases hm : mErr x p i = 0
  · rw [if_pos hm] at h; cases h
  · rw [if_neg hm] at h; cases h; exact ⟨rfl, hm⟩
theorem ixb_of {x : Ix} (hx : IxOk x) : IxB x.fGroups := ⟨hx.len, fun g hg => (hx.grp g hg).len, fun g hg m hm => ((hx.grp g hg).msg m hm).len⟩
theorem pt_of {p : Ix} (hp : IxOk p) (h : ciF p = 0) : PtOk p := ⟨((ci_iff (ixb_of hp)).1 h).len, fun g hg => ⟨(hp.grp g hg).len, fun m hm => segs_ok (ci_grp h g hg m hm)⟩⟩
theorem ref_len {p : Ix} (hp : IxOk p) (h : ciF p = 0) : p.fRef.length ≤ 14 := by
  have := ((ci_iff (ixb_of hp)).1 h).ref; unfold isRef at this; simp at this; omega
def GpQ (g : Gp) : Prop := g.fRef.length ≤ MX ∧ g.fKind.length ≤ MX ∧ ∀ m ∈ g.fMessages, MsOk m
theorem put_Q {b : Bool} {acc : List Gp} {g : Gp} (h : ∀ e ∈ acc, GpQ e) (hg : GpQ g) : ∀ e ∈ put b acc g, GpQ e := by
  unfold put
  cases hitB b acc g with
  | false =>
    intro e he
    rcases List.mem_append.1 he with he | he
    · exact h e he
    · rw [List.mem_singleton.1 he]; exact hg
  | true =>
    simp only [cond_true]
    rcases snoc_cases acc with rfl | ⟨a, y, rfl⟩
    · intro e he; simp [lastM] at he
    · rw [lastM_snoc]
      intro e he
      rcases List.mem_append.1 he with he | he
      · exact h e (by simp [he])
      · rw [List.mem_singleton.1 he]
        obtain ⟨h1, h2, h3⟩ := h y (by simp)
        exact ⟨h1, h2, fun m hm => (List.mem_append.1 hm).elim (h3 m) (hg.2.2 m)⟩
theorem mrg_Q {b : Bool} {acc : List Gp} (h : ∀ e ∈ acc, GpQ e) : ∀ {gs : List Gp}, (∀ e ∈ gs, GpQ e) → ∀ e ∈ mrg b acc gs, GpQ e
  | [], _ => h
  | g :: t, hg => by
    intro e he
    rcases List.mem_append.1 he with he | he
    · exact put_Q h (hg g (by simp)) e he
    · exact hg e (by simp [he])
theorem MA_Q (l : List Ix) : (∀ p ∈ l, IxOk p) → ∀ e ∈ MA l, GpQ e := by
  refine snoc_ind (P := fun l => (∀ p ∈ l, IxOk p) → ∀ e ∈ MA l, GpQ e) (fun _ e he => by cases he) (fun l a ih h => ?_) l
  rw [MA_snoc]
  exact mrg_Q (ih fun p hp => h p (by simp [hp])) fun g hg => by
    have := (h a (by simp)).grp g hg
    exact ⟨this.ref, this.kind, this.msg⟩
theorem MA_ok {l : List Ix} {x : Ix} (hx : IxOk x) (h : ∀ p ∈ l, IxOk p) (hl : l.length ≤ 200) (hc : ∀ p ∈ l, ciF p = 0) : IxOk (wIx x (MA l)) := by
  have h1 : (MA l).length ≤ 200 * 50 := Nat.le_trans (MA_len l) (sum_le _ _ _ hl fun p hp => (pt_of (h p hp) (hc p hp)).len)
  have h2 : mesN (MA l) ≤ 200 * 200 := by rw [MA_mes]; exact sum_le _ _ _ hl fun p hp => ((ci_iff (ixb_of (h p hp))).1 (hc p hp)).mes
  refine ⟨hx.ref, hx.snd, hx.rcv, by simp only [wIx]; omega, fun g hg => ?_⟩
  obtain ⟨q1, q2, q3⟩ := MA_Q l h g hg
  exact ⟨q1, q2, by have := mes_mem g (show g ∈ MA l from hg); omega, q3⟩
theorem take_pt {l : List Ix} {x : Ix} (hok : ∀ p ∈ l, IxOk p) {i : Nat} (hno : ∀ j, j < i → errAt l x j = none) : ∀ q ∈ l.take i, PtOk q := by
  intro q hq
  obtain ⟨j, hj⟩ := List.getElem?_of_mem hq
  rw [List.getElem?_take] at hj
  by_cases hji : j < i
  · rw [if_pos hji] at hj
    exact pt_of (hok q (List.mem_of_getElem? hj)) (errAt_none hj (hno j hji)).1
  · rw [if_neg hji] at hj; cases hj
theorem w_joinsF (x p : Ix) (i : Nat) (hi : i < 255) (h0 : 0 < i) (hr : x.fRef.length ≤ 14) : m_wire_joins x p ((i + 1 : Nat) : Int) = some (bif clashB x p then 12 else bif refB x p i then 3 else 0) := by
  have hit := itoa_len (i + 1) (by omega)
  unfold m_wire_joins sims_GM_0_0; dsimp only
  simp only [orO_some, Option.bind_some]
  rw [show (!decide (p.fSender = x.fSender) || !decide (p.fReceiver = x.fReceiver) || !decide (p.fDay = x.fDay) || !decide (p.fSecond = x.fSecond) || !decide (p.fTest = x.fTest)) = clashB x p from rfl]
  cases clashB x p with
  | true => rfl
  | false =>
    simp only [cond_false]
    rw [strO_ok (by simp; omega)]
    unfold m_strings_CutPrefix
    simp only [Option.bind_some, itoaO (i + 1) (by omega), orO_some]
    have e1 : (!Lib.hasPrefix p.fRef (x.fRef ++ [45]) || !decide (Lib.trimPrefix p.fRef (x.fRef ++ [45]) = Lib.itoa ((i + 1 : Nat) : Int))) = refB x p i := by
      unfold refB refOf
      rw [decide_eq_true h0, Bool.true_and]
      by_cases hq : p.fRef = x.fRef ++ [45] ++ Lib.itoa ((i + 1 : Nat) : Int)
      · rw [hq]; simp [Lib.trimPrefix, Lib.hasPrefix]
      · rw [decide_eq_false hq]
        cases hp : Lib.hasPrefix p.fRef (x.fRef ++ [45]) with
        | false => rfl
        | true =>
          rw [show decide (Lib.trimPrefix p.fRef (x.fRef ++ [45]) = Lib.itoa ((i + 1 : Nat) : Int)) = false from decide_eq_false fun hh => hq ?_]
          · rfl
          · have hp' := hp
            unfold Lib.hasPrefix at hp'
            obtain ⟨t, ht⟩ := List.isPrefixOf_iff_prefix.1 hp'
            unfold Lib.trimPrefix at hh
            rw [hp] at hh
            simp only [if_true] at hh
            rw [← ht] at hh ⊢
            rw [List.drop_left] at hh
            rw [hh]
    rw [e1]
    cases refB x p i <;> rfl
theorem clash_self (x : Ix) : clashB x x = false := by simp [clashB]
theorem w_MergeF (l : List Ix) (hok : ∀ p ∈ l, IxOk p) : m_wire_Merge l = some (mergeF l) := by
  unfold mergeF
  cases h0 : l[0]? with
  | none =>
    have hl : l = [] := by cases l with | nil => rfl | cons a b => cases h0
    subst hl
    unfold m_wire_Merge sims_GM_1_0; dsimp only
    rfl
  | some x0 =>
  have hpos := get_le h0
  have hg0 : getI l 0 = some x0 := by rw [show (0 : Int) = ((0 : Nat) : Int) from rfl, getI_nat]; exact h0
  have hx0 := hok x0 (List.mem_of_getElem? h0)
  unfold m_wire_Merge sims_GM_1_0; dsimp only
  rw [decide_eq_false (show ¬ (l.length : Int) = 0 by omega), cond_false]
  cases h200 : decide ((200 : Int) < (l.length : Int)) with
  | true => rfl
  | false =>
  have hlen : l.length ≤ 200 := by have := of_decide_eq_false h200; omega
  simp only [cond_false]
  rw [hg0]
  simp only [Option.bind_some]
  refine bind_loop (loop_firstP (z := .inl (x0.fRef, x0.fSender, x0.fReceiver, x0.fDay, x0.fSecond, x0.fTest, MA l, zIx, (l.length : Int))) (fun i => (x0.fRef, x0.fSender, x0.fReceiver, x0.fDay, x0.fSecond, x0.fTest, MA (l.take i), zIx, (i : Int))) l.length (fun i => (errAt l x0 i).map .inr) (fun i hi hno => ?_) (fun i a hi hno ha => ?_) (fun _ => ?_)) ?_
  · have hno : ∀ j, j ≤ i → errAt l x0 j = none := fun j hj => by simpa using hno j hj
    obtain ⟨p, hp⟩ := get_lt hi
    obtain ⟨c1, c2, c3⟩ := errAt_none hp (hno i (Nat.le_refl i))
    have hpok := hok p (List.mem_of_getElem? hp)
    have hP := pt_of hpok c1
    have hc : m_wire_CheckInterchange p = some 0 := by rw [w_ci p hpok, c1]
    have hPl := hP.len
    have hPm := hP.mes
    obtain ⟨hA1, hA2⟩ := MA_small (l := l.take i) (by rw [List.length_take]; omega) (take_pt hok fun j hj => hno j (by omega))
    have hti : (l.take i).length = i := by rw [List.length_take]; omega
    have htn : l.take (i + 1) = l.take i ++ [p] := take_snoc hp
    show _ = some (Sum.inl (x0.fRef, x0.fSender, x0.fReceiver, x0.fDay, x0.fSecond, x0.fTest, MA (l.take (i + 1)), zIx, ((i + 1 : Nat) : Int)))
    rw [htn]
    simp only [lt_dec hi, cond_true, getI_nat, hp, Option.bind_some, hc, decide_true, Bool.not_true, cond_false]
    have hgrp : ∀ (b : Bool) (k : Nat) (g : Gp), p.fGroups[k]? = some g → g.fMessages.length ≤ 137438953472 ∧ (∀ m ∈ g.fMessages, SegsOk m.fSegments) ∧ k < p.fGroups.length ∧ (p.fGroups.take k).length = k ∧ (mrg b (MA (l.take i)) (p.fGroups.take k)).length ≤ 1073741824 ∧ ∀ e ∈ mrg b (MA (l.take i)) (p.fGroups.take k), e.fMessages.length + g.fMessages.length ≤ 137438953472 := by
      intro b k g hg
      have hk := get_le hg
      obtain ⟨h1, h2⟩ := hP.grp g (List.mem_of_getElem? hg)
      have h3 : (p.fGroups.take k).length = k := by rw [List.length_take]; omega
      refine ⟨by omega, h2, hk, h3, ?_, fun e he => ?_⟩
      · have := mrg_len b (MA (l.take i)) (p.fGroups.take k); omega
      · have h4 := mes_mem e he
        rw [mrg_mes] at h4
        have h5 : mesN (p.fGroups.take k) ≤ mesN p.fGroups := sumN_sub _ (List.take_sublist _ _)
        omega
    have hfin : ∀ b, b = decide (0 < i) → mrg b (MA (l.take i)) p.fGroups = MA (l.take i ++ [p]) := fun b hb => by rw [MA_snoc, hti, hb]
    by_cases hz : 0 < i
    · have hj : m_wire_joins x0 p ((i + 1 : Nat) : Int) = some 0 := by
        rw [w_joinsF x0 p i (by omega) hz (ref_len hx0 (errAt_none h0 (hno 0 (by omega))).1), c2, c3]; rfl
      rw [decide_eq_true (show (0 : Int) < (i : Int) by omega)]
      simp only [cond_true, hg0, Option.bind_some, wrapN i (by omega), hj, decide_true, Bool.not_true, cond_false]
      refine bind_loop (a := .inl (x0.fRef, x0.fSender, x0.fReceiver, x0.fDay, x0.fSecond, x0.fTest, mrg true (MA (l.take i)) p.fGroups, (p.fGroups.length : Int))) (loop_pre p.fGroups (fun k q => (x0.fRef, x0.fSender, x0.fReceiver, x0.fDay, x0.fSecond, x0.fTest, mrg true (MA (l.take i)) q, (k : Int))) (fun k g hg => ?_) (by simp only [lt_dec_self, cond_false]; rfl)) (by rw [hfin true (by simp [hz])]; rfl)
      obtain ⟨a1, a2, a3, a4, a5, a6⟩ := hgrp true k g hg
      simp only [lt_dec a3, cond_true, getI_nat, hg, Option.bind_some, clone_msgs _ a1]
      refine bind_loop (a := .inl (x0.fRef, x0.fSender, x0.fReceiver, x0.fDay, x0.fSecond, x0.fTest, mrg true (MA (l.take i)) (p.fGroups.take k), g.fRef, g.fKind, g.fMessages, (g.fMessages.length : Int))) (loop_trace (fun j : Nat => (x0.fRef, x0.fSender, x0.fReceiver, x0.fDay, x0.fSecond, x0.fTest, mrg true (MA (l.take i)) (p.fGroups.take k), g.fRef, g.fKind, g.fMessages, (j : Int))) g.fMessages.length (fun j hj => ?_) (by simp only [lt_dec_self, cond_false]; rfl)) ?_
      · obtain ⟨m, hm⟩ := get_lt hj
        simp only [lt_dec hj, cond_true, getI_nat, hm, Option.bind_some, Int.toNat_natCast, cloneAll_eq _ (a2 m (List.mem_of_getElem? hm)), wrapN j (by omega)]
        rw [set_self hm]
      · simp only [outK]
        refine (put_step _ _ _ _ _ _ _ (by simp) a5 a6 (fun q => Sum.inl (x0.fRef, x0.fSender, x0.fReceiver, x0.fDay, x0.fSecond, x0.fTest, q, IntKind.i64.wrap ((k : Int) + 1)))).trans ?_
        rw [mrg_step true _ _ a4, wrapN k (by omega)]
    · have hi0 : i = 0 := by omega
      rw [decide_eq_false (show ¬ (0 : Int) < (i : Int) by omega)]
      simp only [cond_false]
      refine bind_loop (a := .inl (x0.fRef, x0.fSender, x0.fReceiver, x0.fDay, x0.fSecond, x0.fTest, mrg false (MA (l.take i)) p.fGroups, (p.fGroups.length : Int))) (loop_pre p.fGroups (fun k q => (x0.fRef, x0.fSender, x0.fReceiver, x0.fDay, x0.fSecond, x0.fTest, mrg false (MA (l.take i)) q, (k : Int))) (fun k g hg => ?_) (by simp only [lt_dec_self, cond_false]; rfl)) (by rw [hfin false (by simp [hz])]; simp only [outK, wrapN i (by omega : i < 9223372036854775807)])
      obtain ⟨a1, a2, a3, a4, a5, a6⟩ := hgrp false k g hg
      simp only [lt_dec a3, cond_true, getI_nat, hg, Option.bind_some, clone_msgs _ a1]
      refine bind_loop (a := .inl (x0.fRef, x0.fSender, x0.fReceiver, x0.fDay, x0.fSecond, x0.fTest, mrg false (MA (l.take i)) (p.fGroups.take k), g.fRef, g.fKind, g.fMessages, (g.fMessages.length : Int))) (loop_trace (fun j : Nat => (x0.fRef, x0.fSender, x0.fReceiver, x0.fDay, x0.fSecond, x0.fTest, mrg false (MA (l.take i)) (p.fGroups.take k), g.fRef, g.fKind, g.fMessages, (j : Int))) g.fMessages.length (fun j hj => ?_) (by simp only [lt_dec_self, cond_false]; rfl)) ?_
      · obtain ⟨m, hm⟩ := get_lt hj
        simp only [lt_dec hj, cond_true, getI_nat, hm, Option.bind_some, Int.toNat_natCast, cloneAll_eq _ (a2 m (List.mem_of_getElem? hm)), wrapN j (by omega)]
        rw [set_self hm]
      · simp only [outK]
        refine (put_step _ _ _ _ _ _ _ (by simp) a5 a6 (fun q => Sum.inl (x0.fRef, x0.fSender, x0.fReceiver, x0.fDay, x0.fSecond, x0.fTest, q, IntKind.i64.wrap ((k : Int) + 1)))).trans ?_
        rw [mrg_step false _ _ a4, wrapN k (by omega)]
  · have hno : ∀ j, j < i → errAt l x0 j = none := fun j hj => by simpa using hno j hj
    obtain ⟨p, hp⟩ := get_lt hi
    have hpok := hok p (List.mem_of_getElem? hp)
    obtain ⟨b, hb, rfl⟩ : ∃ b, errAt l x0 i = some b ∧ a = .inr b := by
      cases he : errAt l x0 i with
      | none => rw [he] at ha; cases ha
      | some b => rw [he] at ha; cases ha; exact ⟨b, rfl, rfl⟩
    obtain ⟨rfl, hne⟩ := errAt_some hp hb
    simp only [lt_dec hi, cond_true, getI_nat, hp, Option.bind_some, w_ci p hpok]
    unfold mErr at hne ⊢
    by_cases hc : ciF p = 0
    · rw [if_pos hc] at hne ⊢
      simp only [hc, decide_true, Bool.not_true, cond_false]
      by_cases hz : 0 < i
      · rw [decide_eq_true (show (0 : Int) < (i : Int) by omega)]
        simp only [cond_true, hg0, Option.bind_some, wrapN i (by omega), w_joinsF x0 p i (by omega) hz (ref_len hx0 (errAt_none h0 (hno 0 hz)).1)]
        rw [decide_eq_false hne]; rfl
      · have hi0 : i = 0 := by omega
        subst hi0
        rw [h0] at hp; cases hp
        rw [clash_self] at hne
        exact absurd rfl hne
    · rw [if_neg hc]
      rw [decide_eq_false hc]; rfl
  · show _ = _
    rw [List.take_length]
    simp only [lt_dec_self, cond_false]; rfl
  · rw [firstS_map]
    rcases firstS_cases (errAt l x0) l.length with ⟨h1, h2⟩ | ⟨k, a, _, _, _, h4⟩
    · have hy := MA_ok hx0 hok hlen (fun p hp => by
        obtain ⟨j, hj⟩ := List.getElem?_of_mem hp
        exact (errAt_none hj (h2 j (get_le hj))).1)
      rw [h1]
      simp only [Option.map_none, Option.getD_none, outK]
      have hw := w_ci (wIx x0 (MA l)) hy
      unfold wIx at hw
      rw [hw]
      unfold finF wIx
      simp only [Option.bind_some]
      cases decide (ciF _ = 0) <;> rfl
    · rw [h4]; rfl
theorem lt_int (i : Nat) : decide ((0 : Int) < (i : Int)) = decide (0 < i) := by
  by_cases h : 0 < i
  · rw [decide_eq_true h, decide_eq_true (by omega)]
  · rw [decide_eq_false h, decide_eq_false (by omega)]
theorem refChk {x p : Ix} {i : Nat} (hi : i < 255) (hr : 0 < i → x.fRef.length ≤ 14) :
    (andO (decide ((0 : Int) < (i : Int))) (thenO (strO (x.fRef.length + [(45 : UInt8)].length)) ((m_strconv_Itoa (IntKind.i64.wrap ((i : Int) + 1))).bind fun y => thenO (strO ((x.fRef ++ [45]).length + y.length)) (some !decide (p.fRef = x.fRef ++ [45] ++ y))))) = some (refB x p i) := by
  have hit := itoa_len (i + 1) (by omega)
  unfold refB refOf
  rw [lt_int]
  by_cases hz : 0 < i
  · rw [decide_eq_true hz]
    have h14 := hr hz
    simp only [Option.bind_some, wrapN i (by omega), itoaO (i + 1) (by omega)]
    rw [strO_ok (by simp; omega), strO_ok (by simp only [List.length_append, List.length_cons, List.length_nil]; omega)]
    rfl
  · rw [decide_eq_false hz]; rfl
theorem r_MergeF (l : List Ix) (hok : ∀ p ∈ l, IxOk p) : m_interchangeref2_Merge l = some (mergeF l) := by
  unfold mergeF
  cases h0 : l[0]? with
  | none =>
    have hl : l = [] := by cases l with | nil => rfl | cons a b => cases h0
    subst hl
    unfold m_interchangeref2_Merge sims_GO_0_0; dsimp only
    rfl
  | some x0 =>
  have hpos := get_le h0
  have hg0 : getI l 0 = some x0 := by rw [show (0 : Int) = ((0 : Nat) : Int) from rfl, getI_nat]; exact h0
  have hx0 := hok x0 (List.mem_of_getElem? h0)
  unfold m_interchangeref2_Merge sims_GO_0_0; dsimp only
  rw [decide_eq_false (show ¬ (l.length : Int) = 0 by omega), cond_false]
  cases h200 : decide ((200 : Int) < (l.length : Int)) with
  | true => rfl
  | false =>
  have hlen : l.length ≤ 200 := by have := of_decide_eq_false h200; omega
  simp only [cond_false]
  rw [hg0]
  simp only [Option.bind_some]
  refine bind_loop (loop_firstP (z := .inl (x0.fRef, x0.fSender, x0.fReceiver, x0.fDay, x0.fSecond, x0.fTest, MA l, zIx, (l.length : Int))) (fun i => (x0.fRef, x0.fSender, x0.fReceiver, x0.fDay, x0.fSecond, x0.fTest, MA (l.take i), zIx, (i : Int))) l.length (fun i => (errAt l x0 i).map .inr) (fun i hi hno => ?_) (fun i a hi hno ha => ?_) (fun _ => ?_)) ?_
  · have hno : ∀ j, j ≤ i → errAt l x0 j = none := fun j hj => by simpa using hno j hj
    obtain ⟨p, hp⟩ := get_lt hi
    obtain ⟨c1, c2, c3⟩ := errAt_none hp (hno i (Nat.le_refl i))
    have hpok := hok p (List.mem_of_getElem? hp)
    have hP := pt_of hpok c1
    have hc : m_interchangeref2_CheckInterchange p = some 0 := by rw [r_ci p hpok, c1]
    have hPl := hP.len
    have hPm := hP.mes
    obtain ⟨hA1, hA2⟩ := MA_small (l := l.take i) (by rw [List.length_take]; omega) (take_pt hok fun j hj => hno j (by omega))
    have hti : (l.take i).length = i := by rw [List.length_take]; omega
    have htn : l.take (i + 1) = l.take i ++ [p] := take_snoc hp
    show _ = some (Sum.inl (x0.fRef, x0.fSender, x0.fReceiver, x0.fDay, x0.fSecond, x0.fTest, MA (l.take (i + 1)), zIx, ((i + 1 : Nat) : Int)))
    rw [htn]
    simp only [lt_dec hi, cond_true, getI_nat, hp, Option.bind_some, hc, decide_true, Bool.not_true, cond_false]
    have hgrp : ∀ (b : Bool) (k : Nat) (g : Gp), p.fGroups[k]? = some g → g.fMessages.length ≤ 137438953472 ∧ (∀ m ∈ g.fMessages, SegsOk m.fSegments) ∧ k < p.fGroups.length ∧ (p.fGroups.take k).length = k ∧ (mrg b (MA (l.take i)) (p.fGroups.take k)).length ≤ 1073741824 ∧ ∀ e ∈ mrg b (MA (l.take i)) (p.fGroups.take k), e.fMessages.length + g.fMessages.length ≤ 137438953472 := by
      intro b k g hg
      have hk := get_le hg
      obtain ⟨h1, h2⟩ := hP.grp g (List.mem_of_getElem? hg)
      have h3 : (p.fGroups.take k).length = k := by rw [List.length_take]; omega
      refine ⟨by omega, h2, hk, h3, ?_, fun e he => ?_⟩
      · have := mrg_len b (MA (l.take i)) (p.fGroups.take k); omega
      · have h4 := mes_mem e he
        rw [mrg_mes] at h4
        have h5 : mesN (p.fGroups.take k) ≤ mesN p.fGroups := sumN_sub _ (List.take_sublist _ _)
        omega
    have hfin : ∀ b, b = decide (0 < i) → mrg b (MA (l.take i)) p.fGroups = MA (l.take i ++ [p]) := fun b hb => by rw [MA_snoc, hti, hb]
    have hz255 : i < 255 := by omega
    have cs : ∀ {R : Type} (v : Option R), True := fun _ => trivial
    simp only [orO_some, Option.bind_some]
    rw [show (!decide (p.fSender = x0.fSender) || !decide (p.fReceiver = x0.fReceiver) || !decide (p.fDay = x0.fDay) || !decide (p.fSecond = x0.fSecond) || !decide (p.fTest = x0.fTest)) = clashB x0 p from rfl, c2]
    simp only [cond_false]
    rw [refChk hz255 (fun hz => ref_len hx0 (errAt_none h0 (hno 0 (by omega))).1), c3]
    simp only [Option.bind_some, cond_false]
    refine bind_loop (a := .inl (x0.fRef, x0.fSender, x0.fReceiver, x0.fDay, x0.fSecond, x0.fTest, mrg (decide (0 < i)) (MA (l.take i)) p.fGroups, (p.fGroups.length : Int))) (loop_pre p.fGroups (fun k q => (x0.fRef, x0.fSender, x0.fReceiver, x0.fDay, x0.fSecond, x0.fTest, mrg (decide (0 < i)) (MA (l.take i)) q, (k : Int))) (fun k g hg => ?_) (by simp only [lt_dec_self, cond_false]; rfl)) (by rw [hfin (decide (0 < i)) rfl]; simp only [outK, wrapN i (by omega)])
    obtain ⟨a1, a2, a3, a4, a5, a6⟩ := hgrp (decide (0 < i)) k g hg
    simp only [lt_dec a3, cond_true, getI_nat, hg, Option.bind_some]
    refine bind_loop (a := .inl (x0.fRef, x0.fSender, x0.fReceiver, x0.fDay, x0.fSecond, x0.fTest, mrg (decide (0 < i)) (MA (l.take i)) (p.fGroups.take k), g.fRef, g.fKind, g.fMessages, (g.fMessages.length : Int))) (loop_pre g.fMessages (fun j q => (x0.fRef, x0.fSender, x0.fReceiver, x0.fDay, x0.fSecond, x0.fTest, mrg (decide (0 < i)) (MA (l.take i)) (p.fGroups.take k), g.fRef, g.fKind, q, (j : Int))) (fun j m hm => ?_) (by simp only [lt_dec_self, cond_false]; rfl)) ?_
    · have hj := get_le hm
      simp only [lt_dec hj, cond_true, getI_nat, hm, Option.bind_some, r_message m (a2 m (List.mem_of_getElem? hm)), wrapN j (by omega)]
      rw [thenO_ok (by simp [List.length_take]; omega)]
    · simp only [outK]
      rw [lt_int]
      refine (put_stepR _ _ _ _ _ _ _ (by simp) a5 a6 (fun q => Sum.inl (x0.fRef, x0.fSender, x0.fReceiver, x0.fDay, x0.fSecond, x0.fTest, q, IntKind.i64.wrap ((k : Int) + 1)))).trans ?_
      rw [mrg_step _ _ _ a4, wrapN k (by omega)]
  · have hno : ∀ j, j < i → errAt l x0 j = none := fun j hj => by simpa using hno j hj
    obtain ⟨p, hp⟩ := get_lt hi
    have hpok := hok p (List.mem_of_getElem? hp)
    obtain ⟨b, hb, rfl⟩ : ∃ b, errAt l x0 i = some b ∧ a = .inr b := by
      cases he : errAt l x0 i with
      | none => rw [he] at ha; cases ha
      | some b => rw [he] at ha; cases ha; exact ⟨b, rfl, rfl⟩
    obtain ⟨rfl, hne⟩ := errAt_some hp hb
    simp only [lt_dec hi, cond_true, getI_nat, hp, Option.bind_some, r_ci p hpok]
    unfold mErr at hne ⊢
    by_cases hc : ciF p = 0
    · rw [if_pos hc] at hne ⊢
      simp only [hc, decide_true, Bool.not_true, cond_false]
      simp only [orO_some, Option.bind_some]
      rw [show (!decide (p.fSender = x0.fSender) || !decide (p.fReceiver = x0.fReceiver) || !decide (p.fDay = x0.fDay) || !decide (p.fSecond = x0.fSecond) || !decide (p.fTest = x0.fTest)) = clashB x0 p from rfl]
      cases hcl : clashB x0 p with
      | true => rfl
      | false =>
        rw [hcl] at hne
        simp only [cond_false] at hne ⊢
        rw [refChk (show i < 255 by omega) (fun hz => ref_len hx0 (errAt_none h0 (hno 0 hz)).1)]
        cases hrf : refB x0 p i with
        | true => rfl
        | false => rw [hrf] at hne; exact absurd rfl hne
    · rw [if_neg hc]
      rw [decide_eq_false hc]; rfl
  · show _ = _
    rw [List.take_length]
    simp only [lt_dec_self, cond_false]; rfl
  · rw [firstS_map]
    rcases firstS_cases (errAt l x0) l.length with ⟨h1, h2⟩ | ⟨k, a, _, _, _, h4⟩
    · have hy := MA_ok hx0 hok hlen (fun p hp => by
        obtain ⟨j, hj⟩ := List.getElem?_of_mem hp
        exact (errAt_none hj (h2 j (get_le hj))).1)
      rw [h1]
      simp only [Option.map_none, Option.getD_none, outK]
      have hw := r_ci (wIx x0 (MA l)) hy
      unfold wIx at hw
      rw [hw]
      unfold finF wIx
      simp only [Option.bind_some]
      cases decide (ciF _ = 0) <;> rfl
    · rw [h4]; rfl
end Go.Proofs.YthcfbglbjipdaaaGreatDoor

/-
  Plain laws of the wire: marks.
-/
namespace Go.Proofs.YthcfbglbjipdaaaGreatDoor
set_option linter.unusedSimpArgs false
set_option linter.unusedVariables false
open Go.RowKit

/-- The first fault of a list, by its place. -/
def listFI {α : Type} (h : Nat → α → Int) : Nat → List α → Int
  | _, [] => 0
  | i, e :: l => if h i e = 0 then listFI h (i + 1) l else h i e
theorem loop_faultI {α R : Type} (l : List α) (h : Nat → α → Int) (ret : Int → R) (k : Int → Option R) {f : Int → Option (Int ⊕ (Int ⊕ R))}
    (hb : ∀ (i : Nat) (e : α), l[i]? = some e → f (i : Int) = if h i e = 0 then some (.inl ((i + 1 : Nat) : Int)) else some (.inr (.inr (ret (h i e)))))
    (he : f (l.length : Int) = some (.inr (.inl (l.length : Int)))) : (loopC f 0).bind (outK k) = if listFI h 0 l = 0 then k (l.length : Int) else some (ret (listFI h 0 l)) := by
  have : ∀ (t : List α) (i : Nat), l.drop i = t → i ≤ l.length → loopC f (i : Int) = if listFI h i t = 0 then some (.inl (l.length : Int)) else some (.inr (ret (listFI h i t))) := by
    intro t
    induction t with
    | nil =>
      intro i hd hi
      have := drop_nil_len hd hi
      subst this
      rw [loopC_eq, he]
      rfl
    | cons e t ih =>
      intro i hd hi
      obtain ⟨h1, h2, h3⟩ := drop_head hd
      rw [loopC_eq, hb i e h1]
      by_cases h0 : h i e = 0
      · simp only [listFI, h0, if_true]; exact ih (i + 1) h3 h2
      · simp only [listFI, h0, if_false]
  have e0 : loopC f 0 = if listFI h 0 l = 0 then some (.inl (l.length : Int)) else some (.inr (ret (listFI h 0 l))) := this l 0 rfl (Nat.zero_le _)
  rw [e0]
  by_cases h0 : listFI h 0 l = 0
  · rw [if_pos h0, if_pos h0]; rfl
  · rw [if_neg h0, if_neg h0]; rfl
def anyI {α : Type} (c : Nat → α → Bool) : Nat → List α → Bool
  | _, [] => false
  | i, e :: l => c i e || anyI c (i + 1) l
theorem listFI_any {α : Type} (c : Nat → α → Bool) (n : Int) (hn : n ≠ 0) : ∀ (l : List α) (i : Nat), listFI (fun i e => if c i e = true then n else 0) i l = if anyI c i l = true then n else 0
  | [], _ => rfl
  | e :: l, i => by
    simp only [listFI, anyI, listFI_any c n hn l (i + 1)]
    by_cases hc : c i e = true <;> simp [hc, hn]
def eqB (a b : UInt8) : Bool := decide ((a.toNat : Int) = (b.toNat : Int))
def bads (m : Tapi_Marks) : Bool := !markB m.fElement || !markB m.fPart || !markB m.fRepeat || !markB m.fEnd || (!decide ((m.fEscape.toNat : Int) = 0) && !markB m.fEscape)
def twice (m : Tapi_Marks) : Bool := eqB m.fPart m.fElement || eqB m.fRepeat m.fElement || eqB m.fRepeat m.fPart || eqB m.fEnd m.fElement || eqB m.fEnd m.fPart || eqB m.fEnd m.fRepeat || eqB m.fEscape m.fElement || eqB m.fEscape m.fPart || eqB m.fEscape m.fRepeat || eqB m.fEscape m.fEnd
def marksF (m : Tapi_Marks) : Int := if bads m = true then 3 else if twice m = true then 7 else 0
theorem contains_eq (l : List UInt8) (b : UInt8) (hl : l.length < 9223372036854775807) : m_slices_Contains_byte_byte l b = some (l.any (eqB b)) := by
  unfold m_slices_Contains_byte_byte sims_G1_1_0; dsimp only
  have hI : m_slices_Index_byte_byte l b = some (match l.findIdx? (eqB b) with | some i => (i : Int) | none => -1) := by
    unfold m_slices_Index_byte_byte sims_G1_0_0; dsimp only
    have : ∀ (t : List UInt8) (i : Nat) (f : Int → Option (Int ⊕ (Int ⊕ Int))), l.drop i = t → i ≤ l.length → (∀ (i : Nat) (e : UInt8), l[i]? = some e → f (i : Int) = bif eqB b e then some (.inr (.inr (i : Int))) else some (.inl ((i + 1 : Nat) : Int))) → f (l.length : Int) = some (.inr (.inl (l.length : Int))) →
        loopC f (i : Int) = some (match t.findIdx? (eqB b) with | some j => .inr (((i + j : Nat)) : Int) | none => .inl (l.length : Int)) := by
      intro t
      induction t with
      | nil =>
        intro i f hd hi hb he
        have := drop_nil_len hd hi
        subst this
        rw [loopC_eq, he]
        rfl
      | cons e t ih =>
        intro i f hd hi hb he
        obtain ⟨h1, h2, h3⟩ := drop_head hd
        rw [loopC_eq, hb i e h1, List.findIdx?_cons]
        cases hq : eqB b e with
        | true => simp
        | false =>
          simp only [cond_false]
          rw [ih (i + 1) f h3 h2 hb he]
          cases t.findIdx? (eqB b) with
          | none => rfl
          | some j => simp; omega
    refine bind_loop (this l 0 _ rfl (Nat.zero_le _) (fun i e he => ?_) ?_) ?_
    · have hi := get_le he
      simp only [lt_dec hi, cond_true, getI_nat, he, Option.bind_some, wrapN i (by omega)]
      show (bif eqB b e then _ else _) = _
      cases eqB b e <;> rfl
    · simp only [lt_dec_self, cond_false]; rfl
    · cases l.findIdx? (eqB b) with
      | none => rfl
      | some j => simp [outK]
  rw [hI]
  simp only [Option.bind_some]
  congr 1
  cases h : l.findIdx? (eqB b) with
  | none =>
    rw [List.findIdx?_eq_none_iff] at h
    symm
    simp only [List.any_eq_false]
    simpa using h
  | some j =>
    have h2 := List.findIdx?_eq_some_iff_getElem.1 h
    obtain ⟨hj, h3, -⟩ := h2
    symm
    simp only [decide_eq_true_eq, Int.natCast_nonneg, decide_true]
    exact List.any_eq_true.2 ⟨l[j], List.getElem_mem hj, h3⟩
theorem w_marks (m : Tapi_Marks) : m_wire_CheckMarks m = some (marksF m) := by
  unfold m_wire_CheckMarks sims_G1_2_0; dsimp only
  simp only [w_mark, Option.bind_some, orO_some, andO_some]
  unfold marksF
  have hb : bads m = (listF (fun b => if markB b = true then (0 : Int) else 3) [m.fElement, m.fPart, m.fRepeat, m.fEnd] != 0 || (!decide ((m.fEscape.toNat : Int) = 0) && !markB m.fEscape)) := by
    unfold bads
    simp only [listF]
    by_cases h1 : markB m.fElement = true <;> by_cases h2 : markB m.fPart = true <;> by_cases h3 : markB m.fRepeat = true <;> by_cases h4 : markB m.fEnd = true <;> simp [h1, h2, h3, h4]
  rw [hb]
  refine (loop_fault [m.fElement, m.fPart, m.fRepeat, m.fEnd] (fun b => if markB b = true then (0 : Int) else 3) (fun _ => 3) _ (fun i e he => ?_) ?_).trans ?_
  · have hi : i < 4 := get_le he
    have h4 : decide ((i : Int) < 4) = true := decide_eq_true (by omega)
    simp only [h4, cond_true, getI_nat, he, Option.bind_some, wrapN i (by omega)]
    cases markB e <;> rfl
  · rfl
  · by_cases h0 : listF (fun b => if markB b = true then (0 : Int) else 3) [m.fElement, m.fPart, m.fRepeat, m.fEnd] = 0
    · rw [if_pos h0, h0]
      simp only [bne_self_eq_false, Bool.false_or]
      by_cases h1 : (!decide ((m.fEscape.toNat : Int) = 0) && !markB m.fEscape) = true
      · rw [if_pos h1]; simp only [h1, cond_true]
      · rw [if_neg h1]
        simp only [Bool.not_eq_true] at h1
        simp only [h1, cond_false]
        rw [thenO_some (lenO_ok (by simp))]
        refine (loop_faultI [m.fElement, m.fPart, m.fRepeat, m.fEnd, m.fEscape] (fun i e => if ([m.fElement, m.fPart, m.fRepeat, m.fEnd].take i).any (eqB e) = true then 7 else 0) (fun a => a) _ (fun i e he => ?_) ?_).trans ?_
        · have hi : i < 5 := get_le he
          have h5 : decide ((i : Int) < 5) = true := decide_eq_true (by omega)
          have hs : sliceI [m.fElement, m.fPart, m.fRepeat, m.fEnd] 0 (if 4 < (i : Int) then 4 else (i : Int)) = some ([m.fElement, m.fPart, m.fRepeat, m.fEnd].take i) := by
            have : ¬ (4 < (i : Int)) := by omega
            rw [if_neg this]
            unfold sliceI
            rw [if_pos ⟨by omega, by omega, by simp; omega⟩]
            simp
          have hn : [m.fElement, m.fPart, m.fRepeat, m.fEnd, m.fEscape][(i : Int).toNat]? = some e := by simpa using he
          simp only [h5, cond_true, getI_nat, he, hn, Option.bind_some, wrapN i (by omega)]
          have hs2 : sliceI [m.fElement, m.fPart, m.fRepeat, m.fEnd] ((none : Option Int).getD 0) ((some (if 4 < (i : Int) then 4 else (i : Int))).getD ((4 : Nat) : Int)) = some ([m.fElement, m.fPart, m.fRepeat, m.fEnd].take i) := hs
          rw [hs2]
          simp only [Option.bind_some]
          rw [contains_eq _ e (by rw [List.length_take]; simp; omega)]
          simp only [Option.bind_some]
          cases ([m.fElement, m.fPart, m.fRepeat, m.fEnd].take i).any (eqB e) <;> rfl
        · rfl
        · rw [listFI_any (fun i e => ([m.fElement, m.fPart, m.fRepeat, m.fEnd].take i).any (eqB e)) 7 (by decide)]
          have : anyI (fun i e => ([m.fElement, m.fPart, m.fRepeat, m.fEnd].take i).any (eqB e)) 0 [m.fElement, m.fPart, m.fRepeat, m.fEnd, m.fEscape] = twice m := by
            rw [Bool.eq_iff_iff]
            simp only [anyI, List.take, List.any_cons, List.any_nil, twice, eqB, Bool.or_eq_true, decide_eq_true_eq, Bool.or_false, Bool.false_or, Bool.false_eq_true]
            omega
          rw [this]
          cases twice m <;> rfl
    · rw [if_neg h0]
      have : (listF (fun b => if markB b = true then (0 : Int) else 3) [m.fElement, m.fPart, m.fRepeat, m.fEnd] != 0) = true := by simpa using h0
      rw [this]
      rfl
end Go.Proofs.YthcfbglbjipdaaaGreatDoor

/-
  Plain laws of interchanges: WireSplitsMatchSpec.
-/
namespace Go.Proofs.YthcfbglbjipdaaaGreatDoor
set_option linter.unusedSimpArgs false
set_option linter.unusedVariables false
open Go.RowKit

theorem awake_tr : m_interchangelaw2_awake = some true := by
  unfold m_interchangelaw2_awake sims_GL_0_0; dsimp only
  have h : m_wire_Heading ⟨UInt8.ofNat (Int.toNat 42), UInt8.ofNat (Int.toNat 58), UInt8.ofNat (Int.toNat 94), UInt8.ofNat (Int.toNat 63), UInt8.ofNat (Int.toNat 126)⟩ = some ([77, 82, 75, 42, 58, 94, 63, 126], 0) := by
    unfold m_wire_Heading
    rw [w_marks]
    rfl
  rw [h]
  rfl
theorem sameMsgs_refl (l : List Ms) (hl : l.length ≤ 1048576) (h : ∀ m ∈ l, SegsOk m.fSegments) : m_interchangeref2_sameMessages l l = some true := by
  unfold m_interchangeref2_sameMessages sims_G3_3_0; dsimp only
  simp only [decide_true, Bool.not_true, cond_false]
  refine bind_loop (a := .inl (l.length : Int)) (loop_trace (fun i : Nat => (i : Int)) l.length (fun i hi => ?_) (by simp only [lt_dec_self, cond_false]; rfl)) rfl
  obtain ⟨e, he⟩ := get_lt hi
  obtain ⟨h1, h2⟩ := h e (List.mem_of_getElem? he)
  simp only [lt_dec hi, cond_true, getI_nat, he, Option.bind_some, decide_true, Bool.not_true, sameSegs_refl _ h1 h2, orO_some, Bool.or_self, cond_false, wrapN i (by omega)]
theorem sameX_refl (x : Ix) (hl : x.fGroups.length ≤ 1048576) (h : ∀ g ∈ x.fGroups, g.fMessages.length ≤ 1048576 ∧ ∀ m ∈ g.fMessages, SegsOk m.fSegments) : m_interchangeref2_SameInterchange x x = some true := by
  unfold m_interchangeref2_SameInterchange sims_G3_4_0; dsimp only
  simp only [decide_true, Bool.not_true, orO_some, Bool.or_self, Option.bind_some, cond_false]
  refine bind_loop (a := .inl (x.fGroups.length : Int)) (loop_trace (fun i : Nat => (i : Int)) x.fGroups.length (fun i hi => ?_) (by simp only [lt_dec_self, cond_false]; rfl)) rfl
  obtain ⟨e, he⟩ := get_lt hi
  obtain ⟨h1, h2⟩ := h e (List.mem_of_getElem? he)
  simp only [lt_dec hi, cond_true, getI_nat, he, Option.bind_some, decide_true, Bool.not_true, sameMsgs_refl _ h1 h2, orO_some, Bool.or_self, cond_false, wrapN i (by omega)]
theorem w_Split_bad (x : Ix) (n : Int) (hx : IxOk x) (h : ciF x ≠ 0) : m_wire_Split x n = some ([], ciF x) := by
  unfold m_wire_Split sims_GS_1_0; dsimp only
  rw [w_ci x hx]
  simp only [Option.bind_some]
  rw [decide_eq_false h]; rfl
theorem w_Split_out (x : Ix) (n : Int) (hx : IxOk x) (h : ciF x = 0) (ho : outside n 1 200 = true) : m_wire_Split x n = some ([], 1) := by
  unfold m_wire_Split sims_GS_1_0; dsimp only
  rw [w_ci x hx, h]
  simp only [Option.bind_some, decide_true, Bool.not_true, cond_false, outside_eq, ho, cond_true]
theorem r_Split_bad (x : Ix) (n : Int) (hx : IxOk x) (h : ciF x ≠ 0) : m_interchangeref2_Split x n = some ([], ciF x) := by
  unfold m_interchangeref2_Split sims_G9_0_0; dsimp only
  rw [r_ci x hx]
  simp only [Option.bind_some]
  rw [decide_eq_false h]; rfl
theorem r_Split_out (x : Ix) (n : Int) (hx : IxOk x) (h : ciF x = 0) (ho : outside n 1 200 = true) : m_interchangeref2_Split x n = some ([], 1) := by
  unfold m_interchangeref2_Split sims_G9_0_0; dsimp only
  rw [r_ci x hx, h]
  simp only [Option.bind_some, decide_true, Bool.not_true, cond_false, orO_some]
  rw [show (decide (n < 1) || decide ((200 : Int) < n)) = true from ho]; rfl
structure SameOk (x : Ix) : Prop where
  len : x.fGroups.length ≤ 1048576
  grp : ∀ g ∈ x.fGroups, g.fMessages.length ≤ 1048576 ∧ ∀ m ∈ g.fMessages, SegsOk m.fSegments
theorem both_Split (x : Ix) (n : Int) (hx : IxOk x) : ∃ r : List Ix × Int, m_wire_Split x n = some r ∧ m_interchangeref2_Split x n = some r ∧ r.1.length ≤ 1000000 ∧ ∀ p ∈ r.1, SameOk p := by
  have hB := ixb_of hx
  have bad : ∀ f : Int, m_wire_Split x n = some ([], f) → m_interchangeref2_Split x n = some ([], f) → ∃ r : List Ix × Int, m_wire_Split x n = some r ∧ m_interchangeref2_Split x n = some r ∧ r.1.length ≤ 1000000 ∧ ∀ p ∈ r.1, SameOk p :=
    fun f h1 h2 => ⟨_, h1, h2, by simp, fun p hp => by cases hp⟩
  by_cases hci : ciF x = 0
  case neg => exact bad _ (w_Split_bad x n hx hci) (r_Split_bad x n hx hci)
  cases ho : outside n 1 200 with
  | true => exact bad 1 (w_Split_out x n hx hci ho) (r_Split_out x n hx hci ho)
  | false =>
  have hF := (ci_iff hB).1 hci
  have hn : 1 ≤ n ∧ n ≤ 200 := by unfold outside at ho; simp at ho; omega
  obtain ⟨k, rfl⟩ : ∃ k : Nat, n = (k : Int) := ⟨n.toNat, by omega⟩
  have hr := ref_len hx hci
  have hsg : ∀ g ∈ x.fGroups, ∀ m ∈ g.fMessages, SegsOk m.fSegments := fun g hg m hm => segs_ok (ci_grp hci g hg m hm)
  have hS := w_Split x k (by omega) (by omega) hx hF hci hr hsg
  have hR := r_Split x k (by omega) (by omega) hx hF hci hr hsg
  have hI := inv_all (x := x) (n := k) (by omega) hF.grp.2 x.fGroups.length (Nat.le_refl _)
  rw [List.take_length] at hI
  generalize tI x k x.fGroups.length = t at hS hR hI
  by_cases hall : (List.range t.out.length).all (refAt t.out) = true
  case neg => rw [if_neg hall] at hS hR; exact bad 3 hS hR
  rw [if_pos hall] at hS hR
  have hme := hF.mes
  have hfew := hI.few
  have hol : t.out.length = t.a.length + 1 := by simp [Sp.out]
  have hsub : ∀ p ∈ t.out, SubG p.fGroups x.fGroups := fun p hp => by have := MA_sub t.out p hp; rwa [hI.ma] at this
  refine ⟨_, hS, hR, by simp only; omega, fun p hp => ⟨Nat.le_trans (hsub p hp).len hx.len, fun g hg => ?_⟩⟩
  obtain ⟨g', h1, r⟩ := (hsub p hp).mem g hg
  exact ⟨Nat.le_trans r.sub.length_le (hx.grp g' h1).len, fun m hm => hsg g' h1 m (r.sub.mem hm)⟩
theorem mergeF_ok (l : List Ix) (hok : ∀ p ∈ l, IxOk p) : SameOk (mergeF l).1 := by
  have hz : SameOk zIx := ⟨by simp [zIx], fun g hg => by cases hg⟩
  unfold mergeF
  cases h0 : l[0]? with
  | none => exact hz
  | some x =>
  have hx := hok x (List.mem_of_getElem? h0)
  cases h2 : decide ((200 : Int) < (l.length : Int)) with
  | true => exact hz
  | false =>
  have hlen : l.length ≤ 200 := by have := of_decide_eq_false h2; omega
  simp only [cond_false]
  rcases firstS_cases (errAt l x) l.length with ⟨h1, h2⟩ | ⟨k, a, hk, _, h3, h4⟩
  · rw [h1]
    simp only [Option.getD_none]
    have hy := MA_ok hx hok hlen (fun p hp => by
      obtain ⟨j, hj⟩ := List.getElem?_of_mem hp
      exact (errAt_none hj (h2 j (get_le hj))).1)
    unfold finF
    by_cases hc : ciF (wIx x (MA l)) = 0
    · rw [decide_eq_true hc]
      exact ⟨hy.len, fun g hg => ⟨(hy.grp g hg).len, fun m hm => segs_ok (ci_grp hc g hg m hm)⟩⟩
    · rw [decide_eq_false hc]; exact hz
  · rw [h4]
    obtain ⟨p, hp⟩ := get_lt hk
    obtain ⟨rfl, _⟩ := errAt_some hp h3
    exact hz
theorem law_splits (x : Ix) (n : Int) (l : List Ix) (hx : IxOk x) (hl : ∀ p ∈ l, IxOk p) : m_interchangelaw2_WireSplitsMatchSpec x n l = some true := by
  obtain ⟨r, h1, h2, h3, h4⟩ := both_Split x n hx
  have h5 := w_MergeF l hl
  have h6 := r_MergeF l hl
  have h7 := mergeF_ok l hl
  unfold m_interchangelaw2_WireSplitsMatchSpec sims_GL_1_0; dsimp only
  rw [h1]
  simp only [Option.bind_some]
  rw [h2]
  simp only [Option.bind_some, decide_true, Bool.not_true, orO_some, Bool.or_self, cond_false]
  refine bind_loop (a := .inl (r.1.length : Int)) (loop_trace (fun i : Nat => (i : Int)) r.1.length (fun i hi => ?_) (by simp only [lt_dec_self, cond_false]; rfl)) ?_
  · obtain ⟨p, hp⟩ := get_lt hi
    have hs := h4 p (List.mem_of_getElem? hp)
    simp only [lt_dec hi, cond_true, getI_nat, hp, Option.bind_some, sameX_refl p hs.len hs.grp, Bool.not_true, cond_false, wrapN i (by omega)]
  · simp only [outK, h5, h6, Option.bind_some, sameX_refl _ h7.len h7.grp, decide_true, andO_some, Bool.and_self, awake_tr]
end Go.Proofs.YthcfbglbjipdaaaGreatDoor

/-
  Bulk bounds the messages of an interchange.
-/
namespace Go.Proofs.YthcfbglbjipdaaaGreatDoor
set_option linter.unusedSimpArgs false
set_option linter.unusedVariables false
open Go.RowKit

theorem dvBR_len {α : Type} {row : α → List DV} (h : ∀ a, 1 ≤ dvBL (row a)) : ∀ (l : List α), l.length ≤ dvBR (l.map row)
  | [] => by simp
  | x :: l => by
    have h1 := h x
    have h2 := dvBR_len h l
    simp only [List.map_cons, dvBR, List.length_cons]
    omega
theorem dvBR_mem {r : List DV} : ∀ {rows : List (List DV)}, r ∈ rows → dvBL r ≤ dvBR rows
  | [], h => by cases h
  | x :: rows, h => by
    simp only [dvBR]
    rcases List.mem_cons.1 h with rfl | h
    · omega
    · have := dvBR_mem h; omega
theorem ix_ok (x : Ix) (o : okTapi_Interchange x) (hb : dvBL (rTapi_Interchange x) ≤ 1048576) : IxOk x := by
  obtain ⟨o1, o2, o3, _, _, _, o7⟩ := o
  have h0 : x.fGroups.length ≤ dvBR (x.fGroups.map rTapi_Group) := dvBR_len (fun m => by simp only [rTapi_Group, dvBL, dvB]; omega) _
  simp only [rTapi_Interchange, dvBL, dvB] at hb
  refine ⟨o1, o2, o3, by omega, fun g hg => ?_⟩
  obtain ⟨g1, g2, g3⟩ := o7.2 g hg
  have h1 : dvBL (rTapi_Group g) ≤ dvBR (x.fGroups.map rTapi_Group) := dvBR_mem (List.mem_map_of_mem hg)
  have h2 : g.fMessages.length ≤ dvBR (g.fMessages.map rTapi_Message) := dvBR_len (fun m => by simp only [rTapi_Message, dvBL, dvB]; omega) _
  simp only [rTapi_Group, dvBL, dvB] at h1
  refine ⟨g1, g2, by omega, fun m hm => ?_⟩
  obtain ⟨m1, m2, m3, m4⟩ := g3.2 m hm
  have h3 : dvBL (rTapi_Message m) ≤ dvBR (g.fMessages.map rTapi_Message) := dvBR_mem (List.mem_map_of_mem hm)
  have h4 : m.fSegments.length ≤ dvBR (m.fSegments.map rTapi_Segment) := dvBR_len (fun m => by simp only [rTapi_Segment, dvBL, dvB]; omega) _
  simp only [rTapi_Message, dvBL, dvB] at h3
  exact ⟨m1, m2, m3, by omega, fun s hs => (m4.2 s hs).1⟩

theorem ixs_ok (l : List Ix) (o : okL okTapi_Interchange l) (hb : dvBR (l.map rTapi_Interchange) ≤ 1048576) : ∀ p ∈ l, IxOk p := fun p hp =>
  ix_ok p (o.2 p hp) (Nat.le_trans (dvBR_mem (List.mem_map_of_mem hp)) hb)
end Go.Proofs.YthcfbglbjipdaaaGreatDoor

/-
  The engine, part U: a function's result as a plain computation (an Option), made along the walk.
-/
import Derived.Test.YtcnohbiegjahkaaGreatDoorSXEngM
namespace Go.Proofs.YtcnohbiegjahkaaGreatDoor
set_option linter.unusedSimpArgs false
set_option linter.unusedVariables false
open Go.RowKit

/-! ### Loops as plain functions -/
def loopN {S A : Type} (f : S → Option (S ⊕ A)) : Nat → S → Option A
  | 0, _ => none
  | n + 1, s => match f s with
    | some (.inl s') => loopN f n s'
    | some (.inr a) => some a
    | none => none

theorem loopN_mono {S A : Type} {f : S → Option (S ⊕ A)} {a : A} : ∀ {n m : Nat} {s : S}, n ≤ m → loopN f n s = some a → loopN f m s = some a
  | 0, _, _, _, h => by simp [loopN] at h
  | n + 1, 0, _, h, _ => by omega
  | n + 1, m + 1, s, h, hl => by
    simp only [loopN] at hl ⊢
    split at hl
    · exact loopN_mono (by omega) hl
    · exact hl
    · cases hl

open Classical in
/-- What a loop comes to, if it ends. -/
noncomputable def loopC {S A : Type} (f : S → Option (S ⊕ A)) (s : S) : Option A :=
  if h : ∃ n, (loopN f n s).isSome = true then loopN f (Classical.choose h) s else none

theorem loopC_some {S A : Type} {f : S → Option (S ⊕ A)} {s : S} {a : A} : loopC f s = some a ↔ ∃ n, loopN f n s = some a := by
  unfold loopC
  constructor
  · intro h
    split at h
    · exact ⟨_, h⟩
    · cases h
  · rintro ⟨n, hn⟩
    have hex : ∃ n, (loopN f n s).isSome = true := ⟨n, by rw [hn]; rfl⟩
    rw [dif_pos hex]
    have hc := Classical.choose_spec hex
    obtain ⟨a', ha'⟩ := Option.isSome_iff_exists.1 hc
    rw [ha']
    have h1 := loopN_mono (Nat.le_max_left n (Classical.choose hex)) hn
    have h2 := loopN_mono (Nat.le_max_right n (Classical.choose hex)) ha'
    rw [h1] at h2; exact h2.symm

theorem loopC_eq {S A : Type} (f : S → Option (S ⊕ A)) (s : S) : loopC f s = match f s with
    | some (.inl s') => loopC f s'
    | some (.inr a) => some a
    | none => none := by
  apply Option.ext
  intro a
  rw [loopC_some]
  cases hf : f s with
  | none =>
    constructor
    · rintro ⟨n, hn⟩
      cases n <;> simp [loopN, hf] at hn
    · intro h; cases h
  | some o =>
    cases o with
    | inl s' =>
      simp only
      rw [loopC_some]
      constructor
      · rintro ⟨n, hn⟩
        cases n with
        | zero => simp [loopN] at hn
        | succ n => exact ⟨n, by simpa only [loopN, hf] using hn⟩
      · rintro ⟨n, hn⟩
        exact ⟨n + 1, by simpa only [loopN, hf] using hn⟩
    | inr a' =>
      simp only
      constructor
      · rintro ⟨n, hn⟩
        cases n with
        | zero => simp [loopN] at hn
        | succ n => simpa only [loopN, hf] using hn
      · intro hn
        exact ⟨1, by simpa only [loopN, hf] using hn⟩

/-- What holds at the head of each round; a number that falls; what is there at the end. -/
theorem loopC_inv {S A : Type} {f : S → Option (S ⊕ A)} (I : S → Prop) (μ : S → Nat) (Post : A → Prop)
    (hs : ∀ s, I s → (∃ s', f s = some (.inl s') ∧ I s' ∧ μ s' < μ s) ∨ ∃ a, f s = some (.inr a) ∧ Post a) {s : S} (h0 : I s) : ∃ a, loopC f s = some a ∧ Post a := by
  have : ∀ n s, μ s ≤ n → I s → ∃ a, loopC f s = some a ∧ Post a := by
    intro n
    induction n with
    | zero =>
      intro s hn hI
      rcases hs s hI with ⟨s', h1, h2, h3⟩ | ⟨a, h1, h2⟩
      · omega
      · exact ⟨a, by rw [loopC_eq, h1], h2⟩
    | succ n ih =>
      intro s hn hI
      rcases hs s hI with ⟨s', h1, h2, h3⟩ | ⟨a, h1, h2⟩
      · obtain ⟨a, ha, hp⟩ := ih s' (by omega) h2
        exact ⟨a, by rw [loopC_eq, h1]; exact ha, hp⟩
      · exact ⟨a, by rw [loopC_eq, h1], h2⟩
  exact this _ s (Nat.le_refl _) h0

/-! ### Small computations -/
def getI {α : Type} (l : List α) (i : Int) : Option α := if 0 ≤ i then l[i.toNat]? else none
def sliceI {α : Type} (l : List α) (lo hi : Int) : Option (List α) := if 0 ≤ lo ∧ lo ≤ hi ∧ hi ≤ l.length then some ((l.take hi.toNat).drop lo.toNat) else none
def andO (b : Bool) (m : Option Bool) : Option Bool := bif b then m else some false
def orO (b : Bool) (m : Option Bool) : Option Bool := bif b then some true else m

/-! ### Operations one behind the other -/
section
variable {P : Program} {s : Nat → SV} {h : Nat → Ch} {K K' : St → Prop} {sos : List SO}

theorem AO_mono (hk : ∀ σ, K σ → K' σ) : ∀ {so : SO} {σ : St}, AO P so σ K → AO P so σ K'
  | .r dst op, σ, h => by
    simp only [AO] at h ⊢
    split at h
    · exact ⟨h.1, hk _ h.2⟩
    · exact h
  | .c dst f args, σ, h => by
    simp only [AO] at h ⊢
    split at h
    · obtain ⟨res, h1, h2, h3⟩ := h; exact ⟨res, h1, h2, hk _ h3⟩
    · exact h
  | .o dst op, σ, h => by
    obtain ⟨σ1, h1, p, v, h2, h3, h4⟩ := h; exact ⟨σ1, h1, p, v, h2, h3, hk _ h4⟩
  | .w dst op, σ, h => by
    obtain ⟨σ1, h1, p, v, h2, h3, h4⟩ := h; exact ⟨σ1, h1, p, v, h2, h3, hk _ h4⟩
  | .p dst f args, σ, h => by
    obtain ⟨σ1, h1, a1, a2, a3, a4, a5, a6, a7, b1, b2, b3, b4, b5, b6⟩ := h; exact ⟨σ1, h1, a1, a2, a3, a4, a5, a6, a7, b1, b2, b3, b4, b5, hk _ b6⟩
  | .x dst op late, σ, h => by
    simp only [AO] at h ⊢
    split at h
    · exact ⟨h.1, h.2.1, hk _ h.2.2⟩
    · exact h
  | .q dst f args late, σ, h => by
    obtain ⟨a1, a2, a3, a4, b1, b2, b3, b4, b5, b6, b7⟩ := h; exact ⟨a1, a2, a3, a4, b1, b2, b3, b4, b5, b6, hk _ b7⟩
  | .g t want dst o, σ, h => by
    simp only [AO] at h ⊢
    split at h
    · exact ⟨fun e => AO_mono hk (h.1 e), fun e => hk _ (h.2 e)⟩
    · exact hk _ h
    · exact h

theorem AOps_mono (hk : ∀ σ, K σ → K' σ) : ∀ {sos : List SO} {σ : St}, AOps P K sos σ → AOps P K' sos σ
  | [], _, h => hk _ h
  | _ :: _, _, h => AO_mono (fun _ => AOps_mono hk) h

theorem AOps_append : ∀ {l l' : List SO} {σ : St}, AOps P K (l ++ l') σ ↔ AOps P (AOps P K l') l σ
  | [], _, _ => Iff.rfl
  | _ :: _, _, _ => ⟨fun h => AO_mono (fun _ => AOps_append.1) h, fun h => AO_mono (fun _ => AOps_append.2) h⟩

/-- Slots of a list hold something else. -/
def memN : List Nat → Nat → Bool
  | [], _ => false
  | a :: l, j => if j = a then true else memN l j
def mixF (ds : List Nat) (g s : Nat → SV) : Nat → SV := fun j => if memN ds j = true then g j else s j
theorem mixF_app (ds : List Nat) (g s : Nat → SV) (j : Nat) : mixF ds g s j = if memN ds j = true then g j else s j := rfl

/-- Only the slots of the operations are written. -/
def dstsIn (ds : List Nat) : List SO → Bool
  | [] => true
  | o :: l => (match dstO o with | some d => memN ds d | none => false) && dstsIn ds l

theorem AOps_frame {ds : List Nat} : ∀ {l : List SO} {s s' : Nat → SV}, dstsIn ds l = true → (∀ j, memN ds j = false → s' j = s j) → AOps P K l ⟨s', h⟩ → AOps P (fun σ => K σ ∧ σ.h = h ∧ ∀ j, memN ds j = false → σ.s j = s j) l ⟨s', h⟩
  | [], s, s', _, ha, hk => ⟨hk, rfl, ha⟩
  | o :: l, s, s', hd, ha, hk => by
    simp only [dstsIn, Bool.and_eq_true] at hd
    obtain ⟨h1, h2⟩ := hd
    split at h1
    · rename_i d hd
      obtain ⟨v, hy, hr⟩ := AO_YS hd hk
      refine AO_mono (fun σ he => ?_) (YS_AO hd hy)
      subst he
      refine AOps_frame h2 (fun j hj => ?_) hr
      have hne : j ≠ d := fun e => by subst e; rw [hj] at h1; cases h1
      simp only [upd, hne, if_false]; exact ha j hj
    · cases h1

/-- An operation that waits for the guard t. -/
def gw (t : Nat) (want : Bool) : SO → SO
  | .g t' w d o => .g t' w d o
  | o => .g t want (dstO o) o
def gws (t : Nat) (want : Bool) (l : List SO) : List SO := l.map (gw t want)
/-- The guards within are guards of the list. -/
def gok : List Nat → List SO → Bool
  | _, [] => true
  | seen, .g t' _ d o :: l => memN seen t' && (match dstO o with | some e => decide (d = some e) && gok (e :: seen) l | none => false)
  | seen, o :: l => (match dstO o with | some e => gok (e :: seen) l | none => false)

theorem dstO_g {t : Nat} {w : Bool} {d : Option Nat} {o : SO} {e : Nat} (h : dstO o = some e) (hd : d = some e) : dstO (.g t w d o) = some e := by
  subst hd; simp [dstO, h]

theorem gws_take {t : Nat} {want : Bool} {ds : List Nat} : ∀ {l : List SO} {s : Nat → SV}, dstsIn ds l = true → memN ds t = false → s t = .d (.bool want) → AOps P K l ⟨s, h⟩ → AOps P K (gws t want l) ⟨s, h⟩
  | [], _, _, _, _, hk => hk
  | o :: l, s, hd, ht, hs, hk => by
    simp only [dstsIn, Bool.and_eq_true] at hd
    obtain ⟨h1, h2⟩ := hd
    split at h1
    · rename_i d hdo
      obtain ⟨v, hy, hr⟩ := AO_YS hdo hk
      have hne : t ≠ d := fun e => by subst e; rw [ht] at h1; cases h1
      have hrest : AOps P K (gws t want l) ⟨upd s d v, h⟩ := gws_take h2 ht (by simp only [upd, hne, if_false]; exact hs) hr
      have hoo : AO P o ⟨s, h⟩ (AOps P K (gws t want l)) := AO_mono (fun σ he => by subst he; exact hrest) (YS_AO hdo hy)
      have : AO P (gw t want o) ⟨s, h⟩ (AOps P K (gws t want l)) := by
        unfold gw
        split
        · exact hoo
        · show (match s t with | .d (.bool b) => _ | .d (.tup []) => _ | _ => _)
          rw [hs]
          exact ⟨fun _ => hoo, fun e => by cases want <;> simp at e⟩
      exact this
    · cases h1

theorem gws_skip {t : Nat} {want b : Bool} {ds : List Nat} (hb : b = !want) : ∀ {l : List SO} {seen : List Nat} {s : Nat → SV}, dstsIn ds l = true → gok seen l = true → memN ds t = false → s t = .d (.bool b) → (∀ j, memN seen j = true → s j = .d (.tup [])) →
    (∀ s', (∀ j, memN ds j = false → s' j = s j) → K ⟨s', h⟩) → AOps P K (gws t want l) ⟨s, h⟩
  | [], _, s, _, _, _, _, _, hk => hk s fun _ _ => rfl
  | o :: l, seen, s, hd, hg, ht, hs, hsn, hk => by
    simp only [dstsIn, Bool.and_eq_true] at hd
    obtain ⟨h1, h2⟩ := hd
    split at h1
    · rename_i d hdo
      have hne : t ≠ d := fun e => by subst e; rw [ht] at h1; cases h1
      have step : ∀ seen', gok (d :: seen') l = true → (∀ j, memN seen' j = true → s j = .d (.tup [])) → AOps P K (gws t want l) ⟨upd s d (.d (.tup [])), h⟩ := by
        intro seen' hg' hsn'
        refine gws_skip hb h2 hg' ht (by simp only [upd, hne, if_false]; exact hs) (fun j hj => ?_) (fun s' ha => hk s' fun j hj => ?_)
        · simp only [memN] at hj
          by_cases hjd : j = d
          · subst hjd; simp [upd]
          · simp only [hjd, if_false] at hj; simp only [upd, hjd, if_false]; exact hsn' j hj
        · rw [ha j hj]
          have : j ≠ d := fun e => by subst e; rw [hj] at h1; cases h1
          simp only [upd, this, if_false]
      cases o with
      | g t' w' d' o' =>
        simp only [gok, Bool.and_eq_true] at hg
        obtain ⟨g1, g2⟩ := hg
        split at g2
        · rename_i e he
          simp only [Bool.and_eq_true, decide_eq_true_eq] at g2
          have hde : d = e := by have := dstO_g (t := t') (w := w') he g2.1; rw [this] at hdo; exact (Option.some.inj hdo).symm
          subst hde
          show AO P (.g t' w' d' o') ⟨s, h⟩ _
          simp only [AO, hsn t' g1, g2.1, putS]
          exact step seen g2.2 hsn
        · cases g2
      | _ =>
        simp only [gok, hdo] at hg
        show AO P (.g t want _ _) ⟨s, h⟩ _
        simp only [AO, hs, hdo, putS]
        refine ⟨fun e => ?_, fun _ => step seen hg hsn⟩
        rw [hb] at e; cases want <;> simp at e
    · cases h1

/-- The slot holds this. -/
def boolK (u : Nat) (v : Bool) : St → Prop := fun σ => σ.s u = .d (.bool v)
/-- Operations that wait for a guard, and what is behind them. -/
def gapp (_ds : List Nat) (t : Nat) (want : Bool) (l rest : List SO) : List SO := gws t want l ++ rest

/-- a && b -/
theorem O_and {R : Type} {r : R} {t u d : Nat} {ds : List Nat} {l : List SO} {b : Bool} {m1 : Option Bool} {k : Bool → Option R} (hm : (andO b m1).bind k = some r) (hg : s t = .d (.bool b)) (hd : (dstsIn ds l && gok [] l && !memN ds t) = true)
    (h1 : ∀ v, m1 = some v → AOps P (boolK u v) l ⟨s, h⟩) (hk : ∀ v g, k v = some r → AOps P K sos ⟨upd (mixF ds g s) d (.d (.bool v)), h⟩) :
    AOps P K (gapp ds t true l (.r d (.pick (.t t) (.t u) (.c (.d (.bool false)))) :: sos)) ⟨s, h⟩ := by
  unfold gapp
  simp only [Bool.and_eq_true, Bool.not_eq_true'] at hd
  obtain ⟨⟨hd1, hd2⟩, hd3⟩ := hd
  rw [AOps_append]
  have fin : ∀ (s' : Nat → SV) (v : Bool), (∀ j, memN ds j = false → s' j = s j) → k v = some r → AOps P K sos ⟨upd s' d (.d (.bool v)), h⟩ := by
    intro s' v ha hv
    have := hk v s' hv
    have e : mixF ds s' s = s' := by
      funext j; simp only [mixF]; split
      · rfl
      · rename_i hj; exact (ha j (by simpa using hj)).symm
    rw [e] at this; exact this
  cases b with
  | true =>
    simp only [andO, cond_true] at hm
    cases hv : m1 with
    | none => rw [hv] at hm; cases hm
    | some v =>
      rw [hv] at hm
      have h2 := gws_take (t := t) (want := true) hd1 hd3 hg (AOps_frame hd1 (fun _ _ => rfl) (h1 v hv))
      refine AOps_mono (fun σ hσ => ?_) h2
      obtain ⟨h3, h4, h5⟩ := hσ
      unfold boolK at h3
      have h6 : σ.s t = .d (.bool true) := by rw [h5 t hd3]; exact hg
      show AO P (.r d _) σ _
      obtain ⟨sσ, hh⟩ := σ
      simp only at h3 h4 h5 h6; subst h4
      simp only [AO, rd, ev, h6, h3]
      exact ⟨trivial, fin _ v h5 hm⟩
  | false =>
    simp only [andO, cond_false, Option.bind_some] at hm
    refine gws_skip (want := true) rfl hd1 hd2 hd3 hg (fun j hj => by simp [memN] at hj) (fun s' ha => ?_)
    show AO P (.r d _) _ _
    have h6 : s' t = .d (.bool false) := by rw [ha t hd3]; exact hg
    simp only [AO, rd, ev, h6]
    exact ⟨trivial, fin _ false ha hm⟩

/-- a || b -/
theorem O_or {R : Type} {r : R} {t u d : Nat} {ds : List Nat} {l : List SO} {b : Bool} {m1 : Option Bool} {k : Bool → Option R} (hm : (orO b m1).bind k = some r) (hg : s t = .d (.bool b)) (hd : (dstsIn ds l && gok [] l && !memN ds t) = true)
    (h1 : ∀ v, m1 = some v → AOps P (boolK u v) l ⟨s, h⟩) (hk : ∀ v g, k v = some r → AOps P K sos ⟨upd (mixF ds g s) d (.d (.bool v)), h⟩) :
    AOps P K (gapp ds t false l (.r d (.pick (.t t) (.c (.d (.bool true))) (.t u)) :: sos)) ⟨s, h⟩ := by
  unfold gapp
  simp only [Bool.and_eq_true, Bool.not_eq_true'] at hd
  obtain ⟨⟨hd1, hd2⟩, hd3⟩ := hd
  rw [AOps_append]
  have fin : ∀ (s' : Nat → SV) (v : Bool), (∀ j, memN ds j = false → s' j = s j) → k v = some r → AOps P K sos ⟨upd s' d (.d (.bool v)), h⟩ := by
    intro s' v ha hv
    have := hk v s' hv
    have e : mixF ds s' s = s' := by
      funext j; simp only [mixF]; split
      · rfl
      · rename_i hj; exact (ha j (by simpa using hj)).symm
    rw [e] at this; exact this
  cases b with
  | false =>
    simp only [orO, cond_false] at hm
    cases hv : m1 with
    | none => rw [hv] at hm; cases hm
    | some v =>
      rw [hv] at hm
      have h2 := gws_take (t := t) (want := false) hd1 hd3 hg (AOps_frame hd1 (fun _ _ => rfl) (h1 v hv))
      refine AOps_mono (fun σ hσ => ?_) h2
      obtain ⟨h3, h4, h5⟩ := hσ
      unfold boolK at h3
      have h6 : σ.s t = .d (.bool false) := by rw [h5 t hd3]; exact hg
      show AO P (.r d _) σ _
      obtain ⟨sσ, hh⟩ := σ
      simp only at h3 h4 h5 h6; subst h4
      simp only [AO, rd, ev, h6, h3]
      exact ⟨trivial, fin _ v h5 hm⟩
  | true =>
    simp only [orO, cond_true, Option.bind_some] at hm
    refine gws_skip (want := false) rfl hd1 hd2 hd3 hg (fun j hj => by simp [memN] at hj) (fun s' ha => ?_)
    show AO P (.r d _) _ _
    have h6 : s' t = .d (.bool true) := by rw [ha t hd3]; exact hg
    simp only [AO, rd, ev, h6]
    exact ⟨trivial, fin _ true ha hm⟩
end
/-! two boxes in either order -/
mutual
theorem repV_comm (i j : Nat) : ∀ v : SV, repV i .any (repV j .any v) = repV j .any (repV i .any v)
  | .d v => rfl
  | .nils => rfl
  | .lit sz n cs => by simp only [repV, repL_comm i j cs]
  | .agg cs => by simp only [repV, repL_comm i j cs]
  | .tup cs => by simp only [repV, repL_comm i j cs]
  | .ref k off => by
    show repV i .any (if k = j then .d .any else .ref k off) = repV j .any (if k = i then .d .any else .ref k off)
    by_cases h1 : k = i
    · by_cases h2 : k = j
      · rw [if_pos h1, if_pos h2]; rfl
      · rw [if_pos h1, if_neg h2]; show (if k = i then _ else _) = _; rw [if_pos h1]; rfl
    · by_cases h2 : k = j
      · rw [if_neg h1, if_pos h2]; show _ = (if k = j then _ else _); rw [if_pos h2]; rfl
      · rw [if_neg h1, if_neg h2]; show (if k = i then _ else _) = (if k = j then _ else _); rw [if_neg h1, if_neg h2]
  | .vec k => by
    show repV i .any (if k = j then .d .any else .vec k) = repV j .any (if k = i then .d .any else .vec k)
    by_cases h1 : k = i
    · by_cases h2 : k = j
      · rw [if_pos h1, if_pos h2]; rfl
      · rw [if_pos h1, if_neg h2]; show (if k = i then _ else _) = _; rw [if_pos h1]; rfl
    · by_cases h2 : k = j
      · rw [if_neg h1, if_pos h2]; show _ = (if k = j then _ else _); rw [if_pos h2]; rfl
      · rw [if_neg h1, if_neg h2]; show (if k = i then _ else _) = (if k = j then _ else _); rw [if_neg h1, if_neg h2]
  | .vref k a b off => by
    show repV i .any (if k = j then .d .any else .vref k a b off) = repV j .any (if k = i then .d .any else .vref k a b off)
    by_cases h1 : k = i
    · by_cases h2 : k = j
      · rw [if_pos h1, if_pos h2]; rfl
      · rw [if_pos h1, if_neg h2]; show (if k = i then _ else _) = _; rw [if_pos h1]; rfl
    · by_cases h2 : k = j
      · rw [if_neg h1, if_pos h2]; show _ = (if k = j then _ else _); rw [if_pos h2]; rfl
      · rw [if_neg h1, if_neg h2]; show (if k = i then _ else _) = (if k = j then _ else _); rw [if_neg h1, if_neg h2]
  | .mp k => by
    show repV i .any (if k = j then .d .any else .mp k) = repV j .any (if k = i then .d .any else .mp k)
    by_cases h1 : k = i
    · by_cases h2 : k = j
      · rw [if_pos h1, if_pos h2]; rfl
      · rw [if_pos h1, if_neg h2]; show (if k = i then _ else _) = _; rw [if_pos h1]; rfl
    · by_cases h2 : k = j
      · rw [if_neg h1, if_pos h2]; show _ = (if k = j then _ else _); rw [if_pos h2]; rfl
      · rw [if_neg h1, if_neg h2]; show (if k = i then _ else _) = (if k = j then _ else _); rw [if_neg h1, if_neg h2]
  | .own m v => rfl
theorem repL_comm (i j : Nat) : ∀ l : List SV, repL i .any (repL j .any l) = repL j .any (repL i .any l)
  | [] => rfl
  | c :: cs => by simp only [repL, repV_comm i j c, repL_comm i j cs]
end
end Go.Proofs.YtcnohbiegjahkaaGreatDoor

/-
  The engine, part Wk: less may be said of what is owned.
-/
import Derived.Test.YtcnohbiegjahkaaGreatDoorSXEngW
namespace Go.Proofs.YtcnohbiegjahkaaGreatDoor
set_option linter.unusedSimpArgs false
set_option linter.unusedVariables false
open Go.RowKit

mutual
/-- The first mask owns no more than the second. -/
def mle : Mask → Mask → Bool
  | .sh, m => m.plain
  | .sl e' ms', .sl e ms => e' == e && mles ms' ms
  | .pt _, _ => false
  | .mp _ _, _ => false
  | .bld _ _, _ => false
  | .sl _ _, _ => false
def mles : List Mask → List Mask → Bool
  | [], [] => true
  | m' :: l', m :: l => mle m' m && mles l' l
  | _, _ => false
end
theorem mles_len : ∀ {l' l : List Mask}, mles l' l = true → l'.length = l.length
  | [], [], _ => rfl
  | [], _ :: _, h => by simp [mles] at h
  | _ :: _, [], h => by simp [mles] at h
  | _ :: l', _ :: l, h => by
    simp only [mles, Bool.and_eq_true] at h
    simp [mles_len h.2]

section
variable {w : World} {M : Nat → Prop}
/-- Less is owned: a part of the blocks; the others lie outside of what is owned then. -/
def Weak (M : Nat → Prop) (F : List Nat) (R : (Nat → Prop) → List Nat → Prop) : Prop :=
  ∃ F', F'.Sublist F ∧ ∀ M' : Nat → Prop, (∀ b, M' b → M b) → (∀ b ∈ F, b ∉ F' → ¬ M' b) → R M' F'

theorem Weak.append {F1 F2 : List Nat} {R1 R2 : (Nat → Prop) → List Nat → Prop} (hn : (F1 ++ F2).Nodup) (h1 : Weak M F1 R1) (h2 : Weak M F2 R2) :
    ∃ G1 G2, (G1 ++ G2).Sublist (F1 ++ F2) ∧ ∀ M' : Nat → Prop, (∀ b, M' b → M b) → (∀ b ∈ F1 ++ F2, b ∉ G1 ++ G2 → ¬ M' b) → R1 M' G1 ∧ R2 M' G2 := by
  obtain ⟨G1, s1, k1⟩ := h1
  obtain ⟨G2, s2, k2⟩ := h2
  obtain ⟨n1, n2, n3⟩ := List.nodup_append.1 hn
  refine ⟨G1, G2, s1.append s2, fun M' hM hF => ⟨k1 M' hM fun b hb hg => hF b (by simp [hb]) ?_, k2 M' hM fun b hb hg => hF b (by simp [hb]) ?_⟩⟩
  · simp only [List.mem_append, not_or]
    exact ⟨hg, fun hg2 => n3 b hb b (s2.subset hg2) rfl⟩
  · simp only [List.mem_append, not_or]
    exact ⟨fun hg1 => n3 b (s1.subset hg1) b hb rfl, hg⟩

theorem CellsBy.weak {R : List DV → List Value → List Nat → Prop} {R' : (Nat → Prop) → List DV → List Value → List Nat → Prop} : ∀ {rows : List (List DV)} {xs : List Value} {G : List Nat}, G.Nodup →
    (∀ r ys G', G'.Nodup → R r ys G' → Weak M G' fun M' F' => R' M' r ys F') → CellsBy R rows xs G → Weak M G fun M' F' => CellsBy (R' M') rows xs F'
  | [], xs, G, _, _, h => by
    obtain ⟨rfl, rfl⟩ := h
    exact ⟨[], List.Sublist.refl _, fun _ _ _ => ⟨rfl, rfl⟩⟩
  | r :: rs, xs, G, hn, hR, h => by
    obtain ⟨ys, zs, G1, G2, h1, rfl, h3, h4⟩ := h
    obtain ⟨n1, n2, _⟩ := List.nodup_append.1 hn
    obtain ⟨H1, H2, hs, hk⟩ := Weak.append hn (hR r ys G1 n1 h3) (CellsBy.weak n2 hR h4)
    exact ⟨H1 ++ H2, hs, fun M' hM hF => ⟨ys, zs, H1, H2, h1, rfl, (hk M' hM hF).1, (hk M' hM hF).2⟩⟩

mutual
theorem RepO.weak : ∀ (m' m : Mask) (d : DV) (v : Value) (F : List Nat), mle m' m = true → F.Nodup → RepO w M m d v F → Weak M F fun M' F' => RepO w M' m' d v F'
  | .sh, m, d, v, F, hm, hn, h => by
    refine ⟨[], List.nil_sublist _, fun M' hM hF => ?_⟩
    unfold RepO
    refine ⟨rfl, thaw_rep (κ := κ0) hM (.own m d) v F d (fun b hb => hF b hb (by simp)) (by unfold RepG; exact h) (by simp only [SV.thaw]; rw [if_pos (by simpa only [mle] using hm)])⟩
  | .sl e' ms', .sl e ms, d, v, F, hm, hn, h => by
    simp only [mle, Bool.and_eq_true, beq_iff_eq] at hm
    obtain ⟨rfl, hm⟩ := hm
    unfold RepO at h
    obtain ⟨rows, xs, G, hd, ho, h1, h2, h3, rfl⟩ := h
    obtain ⟨n1, n2, n3⟩ := List.nodup_append.1 hn
    obtain ⟨G', s1, k1⟩ := CellsBy.weak (R' := fun M' r ys G' => RepOL w M' ms' r ys G') n2 (fun r ys G' hG hr => RepOL.weak ms' ms r ys G' hm hG hr) h3
    refine ⟨blkL v ++ G', (List.Sublist.refl _).append s1, fun M' hM hF => ?_⟩
    unfold RepO
    have hl := mles_len hm
    refine ⟨rows, xs, G', hd, by rw [hl]; exact ho, h1, by rw [hl]; exact h2, k1 M' hM fun b hb hg => hF b (by simp [hb]) ?_, rfl⟩
    simp only [List.mem_append, not_or]
    exact ⟨fun hv => n3 b hv b hb rfl, hg⟩
  | .sl _ _, .sh, _, _, _, hm, _, _ => by simp [mle] at hm
  | .sl _ _, .pt _, _, _, _, hm, _, _ => by simp [mle] at hm
  | .sl _ _, .mp _ _, _, _, _, hm, _, _ => by simp [mle] at hm
  | .sl _ _, .bld _ _, _, _, _, hm, _, _ => by simp [mle] at hm
  | .pt _, _, _, _, _, hm, _, _ => by simp [mle] at hm
  | .mp _ _, _, _, _, _, hm, _, _ => by simp [mle] at hm
  | .bld _ _, _, _, _, _, hm, _, _ => by simp [mle] at hm
theorem RepOL.weak : ∀ (ms' ms : List Mask) (ds : List DV) (vs : List Value) (F : List Nat), mles ms' ms = true → F.Nodup → RepOL w M ms ds vs F → Weak M F fun M' F' => RepOL w M' ms' ds vs F'
  | [], [], ds, vs, F, hm, hn, h => by
    unfold RepOL at h
    obtain ⟨rfl, rfl, rfl⟩ := h
    exact ⟨[], List.Sublist.refl _, fun _ _ _ => by unfold RepOL; exact ⟨rfl, rfl, rfl⟩⟩
  | [], _ :: _, _, _, _, hm, _, _ => by simp [mles] at hm
  | _ :: _, [], _, _, _, hm, _, _ => by simp [mles] at hm
  | m' :: ms', m :: ms, ds, vs, F, hm, hn, h => by
    simp only [mles, Bool.and_eq_true] at hm
    unfold RepOL at h
    obtain ⟨d, ds', v, vs', F1, F2, h1, h2, rfl, h3, h4⟩ := h
    obtain ⟨n1, n2, _⟩ := List.nodup_append.1 hn
    obtain ⟨H1, H2, hs, hk⟩ := Weak.append hn (RepO.weak m' m d v F1 hm.1 n1 h3) (RepOL.weak ms' ms ds' vs' F2 hm.2 n2 h4)
    exact ⟨H1 ++ H2, hs, fun M' hM hF => by unfold RepOL; exact ⟨d, ds', v, vs', H1, H2, h1, h2, rfl, (hk M' hM hF).1, (hk M' hM hF).2⟩⟩
end
end

/-- A contract whose result owns less. -/
theorem FSpec.weak {P : Program} {f : FuncId} {as : List DV} {ms ms' : List Mask} {ds : List DV} (h : FSpec P f (as.map .d) (.agg (ownR ms ds)) (as.map .d)) (hl : ds.length = ms.length) (hm : mles ms' ms = true) : FSpec P f (as.map .d) (.agg (ownR ms' ds)) (as.map .d) := by
  refine ⟨h.1, fun w M vs F hM hF hn hv hgood hfree => ?_⟩
  refine (h.2 w M vs F hM hF hn hv hgood hfree).mono ?_
  rintro ev w' ⟨v, F1, F2, rfl, ho, hr, hnd, hb, hc⟩
  have hno : SV.noOwns (as.map SV.d) = true := by
    have : ∀ (l : List DV), SV.noOwns (l.map .d) = true := fun l => by induction l with | nil => rfl | cons d l ih => simp [SV.noOwns, SV.noOwn, ih]
    exact this as
  obtain ⟨hS, rfl⟩ := RepGL.to_S _ _ _ hno ho
  simp only [List.nil_append] at hnd hb hr hS ho ⊢
  unfold RepG at hr
  obtain ⟨us, hu, h1, h2⟩ := hr
  have h3 := (ownR_iff hl).1 h2
  obtain ⟨F', s1, k1⟩ := RepOL.weak ms' ms ds us F2 hm hnd h3
  have hext : Ext w' (fun b => M b ∨ b ∈ F2) w' (fun b => M b ∨ b ∈ F') := Ext.shrink fun b hb => by
    rcases hb with hb | hb
    · exact .inl hb
    · exact .inr (s1.subset hb)
  have hdis : ∀ b ∈ F2, ¬ M b := fun b hb2 hMb => by
    have := (hM b hMb)
    rcases (hb b hb2).1 with hbF | hge
    · exact this.2 hbF
    · omega
  refine ⟨v, [], F', rfl, RepGL.of_S _ _ (RepSL.ext hext _ _ hS), ?_, (List.nil_append F').symm ▸ s1.nodup hnd, fun b hb' => hb b (s1.subset (by simpa using hb')), hc⟩
  unfold RepG
  refine ⟨us, hu, h1, (ownR_iff (by rw [mles_len hm]; exact hl)).2 (k1 _ (fun b hb' => ?_) fun b hb2 hnb hb' => ?_)⟩
  · rcases hb' with hb' | hb'
    · exact .inl hb'
    · exact .inr (s1.subset (by simpa using hb'))
  · rcases hb' with hb' | hb'
    · exact hdis b hb2 hb'
    · exact hnb (by simpa using hb')

section
variable {P : Program} {s : Nat → SV} {h : Nat → Ch} {K : St → Prop} {sos : List SO} {α : Type} {row : α → List DV} {l : List α} {ms : List Mask}
end
end Go.Proofs.YtcnohbiegjahkaaGreatDoor

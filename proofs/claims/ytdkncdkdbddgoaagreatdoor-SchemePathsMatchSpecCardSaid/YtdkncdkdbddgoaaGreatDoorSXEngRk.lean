/-
  The engine, part Rk: a variable that is done becomes data; shifts; slices of arrays.
-/
import Derived.Test.YtdkncdkdbddgoaaGreatDoorSXEngRj
namespace Go.Proofs.YtdkncdkdbddgoaaGreatDoor
set_option linter.unusedSimpArgs false
set_option linter.unusedVariables false
open Go.RowKit

section
variable {P : Program} {c : Cx} {σ : St} {κ : Nat → Value} {φ : Nat → List Nat} {a : Act} {w : World}
end
theorem frzs_vcells {α : Type} {f : α → DV} : ∀ (l : List α), SV.frzs (vcells f l) = some (l.map f)
  | [] => rfl
  | x :: l => by
    have := frzs_vcells (f := f) l
    simp only [vcells, List.map_cons, SV.frzs, SV.frz] at this ⊢
    rw [this]
/-! ### Shifts -/
attribute [push_cast] frzs_vcells
section
variable {P : Program} {K : St → Prop} {sos : List SO} {s : Nat → SV} {h : Nat → Ch}
/-- a && b, of which a write behind it says that it may be read later. -/
theorem wr_st_s {σ σ' : St} {n : Nat} {x y : SX} {p : Prop} (hw : wr σ 0 (.st n x y) = some (p, σ')) : σ'.s = σ.s := by
  simp only [wr] at hw
  split at hw
  · split at hw
    · cases hw; rfl
    · cases hw
  · split at hw
    · split at hw
      · cases hw; rfl
      · cases hw
    · cases hw
  · cases hw
theorem x_late {t u d i n : Nat} {x y : SX} {s' : Nat → SV} {b v : Bool} {op : ROp} (hpk : ∀ (σ : St), σ.s = upd s' d (.d (.bool v)) → rd σ.h σ.s op = some (True, .d (.bool v))) (hx : AOps P K (.x 0 (.st n x y) [] :: sos) ⟨upd s' d (.d (.bool v)), h⟩) :
    AOps P K (.x 0 (.st n x y) [(i, d, op)] :: sos) ⟨upd s' d (.d (.bool v)), h⟩ := by
  simp only [AOps, AO] at hx ⊢
  split at hx
  · rename_i p σ' hw
    have hs := wr_st_s hw
    refine ⟨hx.1, ⟨?_, trivial⟩, hx.2.2⟩
    rw [hpk σ' hs, hs]
    exact ⟨trivial, (upd_same _ _ _).symm⟩
  · exact absurd hx (by simp)
theorem O_andX {R : Type} {r : R} {t u d i n : Nat} {x y : SX} {ds : List Nat} {l : List SO} {b : Bool} {m1 : Option Bool} {k : Bool → Option R} (hm : (andO b m1).bind k = some r) (hg : s t = .d (.bool b)) (hd : (dstsIn ds l && gok [] l && !memN ds t) = true) (hdd : (t != d && u != d) = true)
    (h1 : ∀ v, m1 = some v → AOps P (boolK u v) l ⟨s, h⟩) (hk : ∀ v g, k v = some r → AOps P K (.x 0 (.st n x y) [] :: sos) ⟨upd (mixF ds g s) d (.d (.bool v)), h⟩) :
    AOps P K (gapp ds t true l (.r d (.pick (.t t) (.t u) (.c (.d (.bool false)))) :: .x 0 (.st n x y) [(i, d, .pick (.t t) (.t u) (.c (.d (.bool false))))] :: sos)) ⟨s, h⟩ := by
  unfold gapp
  simp only [Bool.and_eq_true, Bool.not_eq_true'] at hd
  obtain ⟨⟨hd1, hd2⟩, hd3⟩ := hd
  simp only [Bool.and_eq_true, bne_iff_ne, ne_eq] at hdd
  rw [AOps_append]
  have fin : ∀ (s' : Nat → SV) (v : Bool), (∀ j, memN ds j = false → s' j = s j) → (b = true → s' u = .d (.bool v)) → (b = false → v = false) → k v = some r → AOps P K (.x 0 (.st n x y) [(i, d, .pick (.t t) (.t u) (.c (.d (.bool false))))] :: sos) ⟨upd s' d (.d (.bool v)), h⟩ := by
    intro s' v ha hu hf hv
    have := hk v s' hv
    have e : mixF ds s' s = s' := by
      funext j; simp only [mixF]; split
      · rfl
      · rename_i hj; exact (ha j (by simpa using hj)).symm
    rw [e] at this
    refine x_late (t := t) (u := u) (b := b) (fun σ hσ => ?_) this
    have ht : σ.s t = .d (.bool b) := by rw [hσ, upd_ne _ _ _ _ hdd.1, ha t hd3, hg]
    have hu' : σ.s u = s' u := by rw [hσ, upd_ne _ _ _ _ hdd.2]
    cases b with
    | true => simp only [rd, ev, ht, hu', hu rfl, if_true]
    | false => rw [hf rfl]; simp [rd, ev, ht]
  cases b with
  | true =>
    simp only [andO, cond_true] at hm
    cases hv : m1 with
    | none => rw [hv] at hm; cases hm
    | some v =>
      rw [hv] at hm
      have h2 := gws_take (t := t) (want := true) hd1 hd3 hg (AOps_frame hd1 (fun _ _ => rfl) (h1 v hv))
      refine AOps_mono (fun σ hσ => ?_) h2
      obtain ⟨h3, h4, h5⟩ := hσ
      unfold boolK at h3
      have h6 : σ.s t = .d (.bool true) := by rw [h5 t hd3]; exact hg
      show AO P (.r d _) σ _
      obtain ⟨sσ, hh⟩ := σ
      simp only at h3 h4 h5 h6; subst h4
      simp only [AO, rd, ev, h6, h3]
      exact ⟨trivial, fin _ v h5 (fun _ => h3) (fun e => by cases e) hm⟩
  | false =>
    simp only [andO, cond_false, Option.bind_some] at hm
    refine gws_skip (want := true) rfl hd1 hd2 hd3 hg (fun j hj => by simp [memN] at hj) (fun s' ha => ?_)
    show AO P (.r d _) _ _
    have h6 : s' t = .d (.bool false) := by rw [ha t hd3]; exact hg
    simp only [AO, rd, ev, h6]
    exact ⟨trivial, fin _ false ha (fun e => by cases e) (fun _ => rfl) hm⟩
end
end Go.Proofs.YtdkncdkdbddgoaaGreatDoor

/-
  The engine, part Rk: a variable that is done becomes data; shifts; slices of arrays.
-/
import Derived.Test.YtdkncdkdbddgoaaGreatDoorSCEngRj
namespace Go.Proofs.YtdkncdkdbddgoaaGreatDoor
set_option linter.unusedSimpArgs false
set_option linter.unusedVariables false
open Go.RowKit

section
variable {P : Program} {c : Cx} {σ : St} {κ : Nat → Value} {φ : Nat → List Nat} {a : Act} {w : World}
/-- A variable that is done becomes data. -/
theorem Ref.freezeB (hr : Ref c σ κ φ a w) {id slot : Nat} {cs : List SV} {ds : List DV} (hs : σ.s slot = .ref id 0) (hv : σ.h id = .box cs) (hf : SV.frzs cs = some ds) :
    Ref c { σ.swap id .any .dead with s := upd (repS id .any σ.s) slot (.d (.ptr ds)) } (upd κ id (.pointer none)) (upd φ id []) a w := by
  have h1 : Ref c (σ.swap id .any .dead) (upd κ id (.pointer none)) (upd φ id []) a w :=
    hr.swap rfl rfl rfl rfl (Nat.le_refl _) (fun _ _ _ => rfl) (by simp) (by simp) (by unfold Rep; trivial) rfl
  have hch := hr.chunks id
  rw [hv] at hch
  obtain ⟨b, T, vs, G, hk, hb, hone, hrep, hF⟩ := hch
  have hM : ∀ b, own c (upd φ id []) b → own c φ b := fun b hb => by
    rcases hb with h | ⟨j, h⟩
    · exact .inl h
    · by_cases hji : j = id
      · subst hji; rw [upd_same] at h; simp at h
      · rw [upd_ne _ _ _ _ hji] at h; exact .inr ⟨j, h⟩
  have hFn : ∀ b ∈ φ id, ¬ own c (upd φ id []) b := fun b hb => by
    rintro (h | ⟨j, h⟩)
    · have h1 := hr.m0 b h
      have h2 := (hr.mine id b hb).2
      rcases h2 with h2 | h2
      · omega
      · exact h1.2 h2
    · by_cases hji : j = id
      · subst hji; rw [upd_same] at h; simp at h
      · rw [upd_ne _ _ _ _ hji] at h; exact hr.sep j id b hji h hb
  have hL : RepL w (own c (upd φ id [])) ds vs := frzs_rep hM (fun b hb => hFn b (by rw [hF]; simp [hb])) hrep hf
  have hp : Rep w (own c (upd φ id [])) (.ptr ds) (κ id) := by
    unfold Rep
    refine ⟨b, 0, hk, hFn b (by rw [hF]; simp), (hr.mine id b (by rw [hF]; simp)).1, ?_⟩
    refine RepAt.of_cells hL hone fun j v hj => ?_
    unfold World.cell?
    simp only [hb, Nat.zero_add]
    simpa using hj
  have key : ∀ i v, RepS w (own c φ) κ (σ.s i) v → RepS w (own c (upd φ id [])) (upd κ id (.pointer none)) ((σ.swap id .any .dead).s i) v → RepS w (own c (upd φ id [])) (upd κ id (.pointer none)) (upd (repS id .any σ.s) slot (.d (.ptr ds)) i) v := fun i v h0 hv => by
    by_cases hi' : i = slot
    · subst hi'
      rw [hs] at h0
      simp only [RepS] at h0
      obtain ⟨b', hk', rfl⟩ := h0
      rw [hk] at hk'
      cases hk'
      simp only [upd_same, RepS]
      rw [← hk]
      exact hp
    · simp only [upd_ne _ _ _ _ hi']
      exact hv
  exact ⟨h1.chg, h1.size, h1.m0, h1.ntmps, h1.defers, h1.kok, fun i hi => key i _ (hr.slots i hi) (h1.slots i hi), fun i v hv => key _ v (hr.ghost i v hv) (h1.ghost i v hv), h1.chunks, h1.mine, h1.nod, h1.sep⟩
end
theorem imp_freezeB {s : Nat → SV} {h : Nat → Ch} {id slot : Nat} {cs : List SV} {ds : List DV} (hs : s slot = .ref id 0) (hv : h id = .box cs) (hf : SV.frzs cs = some ds) : Imp ⟨s, h⟩ ⟨upd (repS id .any s) slot (.d (.ptr ds)), upd (repH id .any h) id .dead⟩ := fun c κ φ a w hr => ⟨_, _, hr.freezeB hs hv hf⟩
theorem W_frzB {P : Program} {x : SC} {Q : AX → St → Prop} {s : Nat → SV} {h : Nat → Ch} {id slot : Nat} {cs : List SV} {ds : List DV} (hs : s slot = .ref id 0) (hv : h id = .box cs) (hf : SV.frzs cs = some ds) (hw : AW P x Q ⟨upd (repS id .any s) slot (.d (.ptr ds)), upd (repH id .any h) id .dead⟩) : AW P x Q ⟨s, h⟩ := W_imp (imp_freezeB hs hv hf) hw
theorem frzs_vcells {α : Type} {f : α → DV} : ∀ (l : List α), SV.frzs (vcells f l) = some (l.map f)
  | [] => rfl
  | x :: l => by
    have := frzs_vcells (f := f) l
    simp only [vcells, List.map_cons, SV.frzs, SV.frz] at this ⊢
    rw [this]
/-! ### Shifts -/
def shO (k : IntKind) (b : Int) : Option Unit := if 0 ≤ b ∧ b ≤ k.bits then some () else none
theorem shO_some {k : IntKind} {b : Int} : shO k b = some () ↔ 0 ≤ b ∧ b ≤ k.bits := by unfold shO; split <;> simp_all
abbrev cY (b : UInt8) : DV := .int .u8 b.toNat
def lnO (a n : Nat) : Option Unit := if a = n then some () else none
attribute [push_cast] frzs_vcells
section
variable {P : Program} {K : St → Prop} {sos : List SO} {s : Nat → SV} {h : Nat → Ch}
theorem O_shr {R : Type} {r : R} {k k' : IntKind} {a b : Int} {x y : SX} {dst : Nat} {kk : Option R} (hm : thenO (shO k b) kk = some r) (hx : ev s x = .d (.int k a)) (hy : ev s y = .d (.int k' b))
    (hk : kk = some r → AOps P K sos ⟨upd s dst (.d (.int k (a / 2 ^ b.toNat))), h⟩) : AOps P K (.r dst (.bin .shr x y) :: sos) ⟨s, h⟩ := by
  cases he : shO k b with
  | none => rw [he] at hm; cases hm
  | some u =>
    rw [he] at hm
    exact O_r (p := 0 ≤ b ∧ b ≤ k.bits) (v := .d (.int k (a / 2 ^ b.toNat))) (by by_cases hkk : k = k' <;> simp [rd, hx, hy, binD, intOp, hkk]) (shO_some.1 he) (hk hm)
/-- A slice of an array of bytes that is data, from a place on. -/
theorem O_slcPY {R : Type} {r : R} {n : Nat} {l : List UInt8} {k : IntKind} {i : Int} {x y : SX} {dst : Nat} {kk : Option R} (hm : thenO (inO i (n + 1)) (thenO (lnO l.length n) kk) = some r) (hx : ev s x = .d (.ptr (l.map cY))) (hy : ev s y = .d (.int k i))
    (hk : kk = some r → AOps P K sos ⟨upd s dst (.d (.slice ((l.drop i.toNat).map rowY))), h⟩) : AOps P K (.r dst (.slcP n x y) :: sos) ⟨s, h⟩ := by
  cases he : inO i (n + 1) with
  | none => rw [he] at hm; cases hm
  | some u =>
    cases he2 : lnO l.length n with
    | none => rw [he, he2] at hm; cases hm
    | some u2 =>
      rw [he, he2] at hm
      have e : ((l.map cY).drop i.toNat).map (fun c => [c]) = (l.drop i.toNat).map rowY := by
        rw [← List.map_drop, List.map_map]; rfl
      refine O_r (p := (l.map cY).length = n ∧ 0 ≤ i ∧ i ≤ n) (by simp only [rd, hx, hy, e]) ?_ (hk hm)
      unfold inO at he
      unfold lnO at he2
      split at he
      · split at he2
        · exact ⟨by simpa using ‹_›, by omega, by omega⟩
        · cases he2
      · cases he
/-- a && b, of which a write behind it says that it may be read later. -/
theorem wr_st_s {σ σ' : St} {n : Nat} {x y : SX} {p : Prop} (hw : wr σ 0 (.st n x y) = some (p, σ')) : σ'.s = σ.s := by
  simp only [wr] at hw
  split at hw
  · split at hw
    · cases hw; rfl
    · cases hw
  · split at hw
    · split at hw
      · cases hw; rfl
      · cases hw
    · cases hw
  · cases hw
theorem x_late {t u d i n : Nat} {x y : SX} {s' : Nat → SV} {b v : Bool} {op : ROp} (hpk : ∀ (σ : St), σ.s = upd s' d (.d (.bool v)) → rd σ.h σ.s op = some (True, .d (.bool v))) (hx : AOps P K (.x 0 (.st n x y) [] :: sos) ⟨upd s' d (.d (.bool v)), h⟩) :
    AOps P K (.x 0 (.st n x y) [(i, d, op)] :: sos) ⟨upd s' d (.d (.bool v)), h⟩ := by
  simp only [AOps, AO] at hx ⊢
  split at hx
  · rename_i p σ' hw
    have hs := wr_st_s hw
    refine ⟨hx.1, ⟨?_, trivial⟩, hx.2.2⟩
    rw [hpk σ' hs, hs]
    exact ⟨trivial, (upd_same _ _ _).symm⟩
  · exact absurd hx (by simp)
theorem O_andX {R : Type} {r : R} {t u d i n : Nat} {x y : SX} {ds : List Nat} {l : List SO} {b : Bool} {m1 : Option Bool} {k : Bool → Option R} (hm : (andO b m1).bind k = some r) (hg : s t = .d (.bool b)) (hd : (dstsIn ds l && gok [] l && !memN ds t) = true) (hdd : (t != d && u != d) = true)
    (h1 : ∀ v, m1 = some v → AOps P (boolK u v) l ⟨s, h⟩) (hk : ∀ v g, k v = some r → AOps P K (.x 0 (.st n x y) [] :: sos) ⟨upd (mixF ds g s) d (.d (.bool v)), h⟩) :
    AOps P K (gapp ds t true l (.r d (.pick (.t t) (.t u) (.c (.d (.bool false)))) :: .x 0 (.st n x y) [(i, d, .pick (.t t) (.t u) (.c (.d (.bool false))))] :: sos)) ⟨s, h⟩ := by
  unfold gapp
  simp only [Bool.and_eq_true, Bool.not_eq_true'] at hd
  obtain ⟨⟨hd1, hd2⟩, hd3⟩ := hd
  simp only [Bool.and_eq_true, bne_iff_ne, ne_eq] at hdd
  rw [AOps_append]
  have fin : ∀ (s' : Nat → SV) (v : Bool), (∀ j, memN ds j = false → s' j = s j) → (b = true → s' u = .d (.bool v)) → (b = false → v = false) → k v = some r → AOps P K (.x 0 (.st n x y) [(i, d, .pick (.t t) (.t u) (.c (.d (.bool false))))] :: sos) ⟨upd s' d (.d (.bool v)), h⟩ := by
    intro s' v ha hu hf hv
    have := hk v s' hv
    have e : mixF ds s' s = s' := by
      funext j; simp only [mixF]; split
      · rfl
      · rename_i hj; exact (ha j (by simpa using hj)).symm
    rw [e] at this
    refine x_late (t := t) (u := u) (b := b) (fun σ hσ => ?_) this
    have ht : σ.s t = .d (.bool b) := by rw [hσ, upd_ne _ _ _ _ hdd.1, ha t hd3, hg]
    have hu' : σ.s u = s' u := by rw [hσ, upd_ne _ _ _ _ hdd.2]
    cases b with
    | true => simp only [rd, ev, ht, hu', hu rfl, if_true]
    | false => rw [hf rfl]; simp [rd, ev, ht]
  cases b with
  | true =>
    simp only [andO, cond_true] at hm
    cases hv : m1 with
    | none => rw [hv] at hm; cases hm
    | some v =>
      rw [hv] at hm
      have h2 := gws_take (t := t) (want := true) hd1 hd3 hg (AOps_frame hd1 (fun _ _ => rfl) (h1 v hv))
      refine AOps_mono (fun σ hσ => ?_) h2
      obtain ⟨h3, h4, h5⟩ := hσ
      unfold boolK at h3
      have h6 : σ.s t = .d (.bool true) := by rw [h5 t hd3]; exact hg
      show AO P (.r d _) σ _
      obtain ⟨sσ, hh⟩ := σ
      simp only at h3 h4 h5 h6; subst h4
      simp only [AO, rd, ev, h6, h3]
      exact ⟨trivial, fin _ v h5 (fun _ => h3) (fun e => by cases e) hm⟩
  | false =>
    simp only [andO, cond_false, Option.bind_some] at hm
    refine gws_skip (want := true) rfl hd1 hd2 hd3 hg (fun j hj => by simp [memN] at hj) (fun s' ha => ?_)
    show AO P (.r d _) _ _
    have h6 : s' t = .d (.bool false) := by rw [ha t hd3]; exact hg
    simp only [AO, rd, ev, h6]
    exact ⟨trivial, fin _ false ha (fun e => by cases e) (fun _ => rfl) hm⟩
/-- Code of which nothing is said: where it is reached there is no result. -/
theorem W_any {R : Type} {r : R} {Q : AX → St → Prop} {σ : St} (hm : (none : Option R) = some r) : AW P .any Q σ := by cases hm
end
end Go.Proofs.YtdkncdkdbddgoaaGreatDoor

/-
  The engine, part Rk: a variable that is done becomes data; shifts; slices of arrays.
-/
import Derived.Test.YthcfbglbjipdaaaDoorSHEngRj
namespace Go.Proofs.YthcfbglbjipdaaaDoor
set_option linter.unusedSimpArgs false
set_option linter.unusedVariables false
open Go.RowKit

section
variable {P : Program} {c : Cx} {σ : St} {κ : Nat → Value} {φ : Nat → List Nat} {a : Act} {w : World}
/-- A variable that is done becomes data. -/
theorem Ref.freezeB (hr : Ref c σ κ φ a w) {id slot : Nat} {cs : List SV} {ds : List DV} (hs : σ.s slot = .ref id 0) (hv : σ.h id = .box cs) (hf : SV.frzs cs = some ds) :
    Ref c { σ.swap id .any .dead with s := upd (repS id .any σ.s) slot (.d (.ptr ds)) } (upd κ id (.pointer none)) (upd φ id []) a w := by
  have h1 : Ref c (σ.swap id .any .dead) (upd κ id (.pointer none)) (upd φ id []) a w :=
    hr.swap rfl rfl rfl rfl (Nat.le_refl _) (fun _ _ _ => rfl) (by simp) (by simp) (by unfold Rep; trivial) rfl
  have hch := hr.chunks id
  rw [hv] at hch
  obtain ⟨b, T, vs, G, hk, hb, hone, hrep, hF⟩ := hch
  have hM : ∀ b, own c (upd φ id []) b → own c φ b := fun b hb => by
    rcases hb with h | ⟨j, h⟩
    · exact .inl h
    · by_cases hji : j = id
      · subst hji; rw [upd_same] at h; simp at h
      · rw [upd_ne _ _ _ _ hji] at h; exact .inr ⟨j, h⟩
  have hFn : ∀ b ∈ φ id, ¬ own c (upd φ id []) b := fun b hb => by
    rintro (h | ⟨j, h⟩)
    · have h1 := hr.m0 b h
      have h2 := (hr.mine id b hb).2
      rcases h2 with h2 | h2
      · omega
      · exact h1.2 h2
    · by_cases hji : j = id
      · subst hji; rw [upd_same] at h; simp at h
      · rw [upd_ne _ _ _ _ hji] at h; exact hr.sep j id b hji h hb
  have hL : RepL w (own c (upd φ id [])) ds vs := frzs_rep hM (fun b hb => hFn b (by rw [hF]; simp [hb])) hrep hf
  have hp : Rep w (own c (upd φ id [])) (.ptr ds) (κ id) := by
    unfold Rep
    refine ⟨b, 0, hk, hFn b (by rw [hF]; simp), (hr.mine id b (by rw [hF]; simp)).1, ?_⟩
    refine RepAt.of_cells hL hone fun j v hj => ?_
    unfold World.cell?
    simp only [hb, Nat.zero_add]
    simpa using hj
  have key : ∀ i v, RepS w (own c φ) κ (σ.s i) v → RepS w (own c (upd φ id [])) (upd κ id (.pointer none)) ((σ.swap id .any .dead).s i) v → RepS w (own c (upd φ id [])) (upd κ id (.pointer none)) (upd (repS id .any σ.s) slot (.d (.ptr ds)) i) v := fun i v h0 hv => by
    by_cases hi' : i = slot
    · subst hi'
      rw [hs] at h0
      simp only [RepS] at h0
      obtain ⟨b', hk', rfl⟩ := h0
      rw [hk] at hk'
      cases hk'
      simp only [upd_same, RepS]
      rw [← hk]
      exact hp
    · simp only [upd_ne _ _ _ _ hi']
      exact hv
  exact ⟨h1.chg, h1.size, h1.m0, h1.ntmps, h1.defers, h1.kok, fun i hi => key i _ (hr.slots i hi) (h1.slots i hi), fun i v hv => key _ v (hr.ghost i v hv) (h1.ghost i v hv), h1.chunks, h1.mine, h1.nod, h1.sep⟩
end
theorem imp_freezeB {s : Nat → SV} {h : Nat → Ch} {id slot : Nat} {cs : List SV} {ds : List DV} (hs : s slot = .ref id 0) (hv : h id = .box cs) (hf : SV.frzs cs = some ds) : Imp ⟨s, h⟩ ⟨upd (repS id .any s) slot (.d (.ptr ds)), upd (repH id .any h) id .dead⟩ := fun c κ φ a w hr => ⟨_, _, hr.freezeB hs hv hf⟩
theorem W_frzB {P : Program} {x : SC} {Q : AX → St → Prop} {s : Nat → SV} {h : Nat → Ch} {id slot : Nat} {cs : List SV} {ds : List DV} (hs : s slot = .ref id 0) (hv : h id = .box cs) (hf : SV.frzs cs = some ds) (hw : AW P x Q ⟨upd (repS id .any s) slot (.d (.ptr ds)), upd (repH id .any h) id .dead⟩) : AW P x Q ⟨s, h⟩ := W_imp (imp_freezeB hs hv hf) hw
theorem frzs_vcells {α : Type} {f : α → DV} : ∀ (l : List α), SV.frzs (vcells f l) = some (l.map f)
  | [] => rfl
  | x :: l => by
    have := frzs_vcells (f := f) l
    simp only [vcells, List.map_cons, SV.frzs, SV.frz] at this ⊢
    rw [this]
/-! ### Shifts -/
def shO (k : IntKind) (b : Int) : Option Unit := if 0 ≤ b ∧ b ≤ k.bits then some () else none
theorem shO_some {k : IntKind} {b : Int} : shO k b = some () ↔ 0 ≤ b ∧ b ≤ k.bits := by unfold shO; split <;> simp_all
abbrev cY (b : UInt8) : DV := .int .u8 b.toNat
def lnO (a n : Nat) : Option Unit := if a = n then some () else none
attribute [push_cast] frzs_vcells
section
variable {P : Program} {K : St → Prop} {sos : List SO} {s : Nat → SV} {h : Nat → Ch}
theorem O_shr {R : Type} {r : R} {k : IntKind} {a b : Int} {x y : SX} {dst : Nat} {kk : Option R} (hm : thenO (shO k b) kk = some r) (hx : ev s x = .d (.int k a)) (hy : ev s y = .d (.int k b))
    (hk : kk = some r → AOps P K sos ⟨upd s dst (.d (.int k (a / 2 ^ b.toNat))), h⟩) : AOps P K (.r dst (.bin .shr x y) :: sos) ⟨s, h⟩ := by
  cases he : shO k b with
  | none => rw [he] at hm; cases hm
  | some u =>
    rw [he] at hm
    exact O_r (by simp only [rd, hx, hy, binD, intOp, if_true]) (shO_some.1 he) (hk hm)
/-- A slice of an array of bytes that is data, from a place on. -/
theorem O_slcPY {R : Type} {r : R} {n : Nat} {l : List UInt8} {k : IntKind} {i : Int} {x y : SX} {dst : Nat} {kk : Option R} (hm : thenO (inO i (n + 1)) (thenO (lnO l.length n) kk) = some r) (hx : ev s x = .d (.ptr (l.map cY))) (hy : ev s y = .d (.int k i))
    (hk : kk = some r → AOps P K sos ⟨upd s dst (.d (.slice ((l.drop i.toNat).map rowY))), h⟩) : AOps P K (.r dst (.slcP n x y) :: sos) ⟨s, h⟩ := by
  cases he : inO i (n + 1) with
  | none => rw [he] at hm; cases hm
  | some u =>
    cases he2 : lnO l.length n with
    | none => rw [he, he2] at hm; cases hm
    | some u2 =>
      rw [he, he2] at hm
      have e : ((l.map cY).drop i.toNat).map (fun c => [c]) = (l.drop i.toNat).map rowY := by
        rw [← List.map_drop, List.map_map]; rfl
      refine O_r (p := (l.map cY).length = n ∧ 0 ≤ i ∧ i ≤ n) (by simp only [rd, hx, hy, e]) ?_ (hk hm)
      unfold inO at he
      unfold lnO at he2
      split at he
      · split at he2
        · exact ⟨by simpa using ‹_›, by omega, by omega⟩
        · cases he2
      · cases he
/-- Code of which nothing is said: where it is reached there is no result. -/
theorem W_any {R : Type} {r : R} {Q : AX → St → Prop} {σ : St} (hm : (none : Option R) = some r) : AW P .any Q σ := by cases hm
end
end Go.Proofs.YthcfbglbjipdaaaDoor

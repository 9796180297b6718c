/-
  The engine, part Ri: chunks under other names; a call that is walked within the caller's walk.
-/
import Derived.Test.YtfbhhhghjehjjaaDoorSYEngRg
namespace Go.Proofs.YtfbhhhghjehjjaaDoor
set_option linter.unusedSimpArgs false
set_option linter.unusedVariables false
open Go.RowKit

mutual
def renV (π : Nat → Nat) : SV → SV
  | .ref id o => .ref (π id) o
  | .vec id => .vec (π id)
  | .vref id sz i o => .vref (π id) sz i o
  | .mp id => .mp (π id)
  | .agg cs => .agg (renL π cs)
  | .tup cs => .tup (renL π cs)
  | .lit sz n cs => .lit sz n (renL π cs)
  | .d v => .d v
  | .nils => .nils
  | .own m v => .own m v
def renL (π : Nat → Nat) : List SV → List SV
  | [] => []
  | c :: cs => renV π c :: renL π cs
end
def renR (π : Nat → Nat) (rows : List (List SV)) : List (List SV) := rows.map (renL π)
def renK (π : Nat → Nat) (kv : List (DV × SV)) : List (DV × SV) := kv.map fun p => (p.1, renV π p.2)
def renC (π : Nat → Nat) : Ch → Ch
  | .dead => .dead
  | .box cs => .box (renL π cs)
  | .vec e sz rows => .vec e sz (renR π rows)
  | .map kk kv => .map kk (renK π kv)
  | .bld T e bs => .bld T e bs

section
variable {w : World} {M : Nat → Prop} {κ : Nat → Value} {π : Nat → Nat}
mutual
theorem renV_rep (hπ : ∀ i, π (π i) = i) : ∀ (x : SV) (u : Value), RepS w M κ x u → RepS w M (fun i => κ (π i)) (renV π x) u
  | .ref id o, u, h => by unfold RepS at h; simp only [renV]; unfold RepS; simp only [hπ]; exact h
  | .vec id, u, h => by unfold RepS at h; simp only [renV]; unfold RepS; simp only [hπ]; exact h
  | .vref id sz i o, u, h => by unfold RepS at h; simp only [renV]; unfold RepS; simp only [hπ]; exact h
  | .mp id, u, h => by unfold RepS at h; simp only [renV]; unfold RepS; simp only [hπ]; exact h
  | .agg cs, u, h => by
    unfold RepS at h; simp only [renV]; unfold RepS
    obtain ⟨vs, h1, h2, h3⟩ := h
    exact ⟨vs, h1, h2, renL_rep hπ cs vs h3⟩
  | .tup cs, u, h => by
    unfold RepS at h; simp only [renV]; unfold RepS
    obtain ⟨vs, h1, h3⟩ := h
    exact ⟨vs, h1, renL_rep hπ cs vs h3⟩
  | .lit sz n cs, u, h => by
    unfold RepS at h; simp only [renV]; unfold RepS
    obtain ⟨b, vs, h1, h2, h3, h4, h5, h6, h7⟩ := h
    exact ⟨b, vs, h1, h2, h3, h4, h5, h6, renL_rep hπ cs vs h7⟩
  | .d v, u, h => by unfold RepS at h; simp only [renV]; unfold RepS; exact h
  | .nils, u, h => by unfold RepS at h; simp only [renV]; unfold RepS; exact h
  | .own m v, u, h => by unfold RepS at h; exact h.elim
theorem renL_rep (hπ : ∀ i, π (π i) = i) : ∀ (cs : List SV) (us : List Value), RepSL w M κ cs us → RepSL w M (fun i => κ (π i)) (renL π cs) us
  | [], us, h => by unfold RepSL at h; simp only [renL]; unfold RepSL; exact h
  | c :: cs, us, h => by
    unfold RepSL at h; simp only [renL]; unfold RepSL
    obtain ⟨u, vs, h1, h2, h3⟩ := h
    exact ⟨u, vs, h1, renV_rep hπ c u h2, renL_rep hπ cs vs h3⟩
end
mutual
theorem renV_repG (hπ : ∀ i, π (π i) = i) : ∀ (x : SV) (u : Value) (F : List Nat), RepG w M κ x u F → RepG w M (fun i => κ (π i)) (renV π x) u F
  | .own m v, u, F, h => by unfold RepG at h; simp only [renV]; unfold RepG; exact h
  | .agg cs, u, F, h => by
    unfold RepG at h; simp only [renV]; unfold RepG
    obtain ⟨vs, h1, h2, h3⟩ := h
    exact ⟨vs, h1, h2, renL_repG hπ cs vs F h3⟩
  | .tup cs, u, F, h => by
    unfold RepG at h; simp only [renV]; unfold RepG
    obtain ⟨vs, h1, h3⟩ := h
    exact ⟨vs, h1, renL_repG hπ cs vs F h3⟩
  | .d v, u, F, h => by unfold RepG at h; have := renV_rep hπ _ _ h.2; simp only [renV] at this ⊢; unfold RepG; exact ⟨h.1, this⟩
  | .nils, u, F, h => by unfold RepG at h; have := renV_rep hπ _ _ h.2; simp only [renV] at this ⊢; unfold RepG; exact ⟨h.1, this⟩
  | .lit sz n cs, u, F, h => by unfold RepG at h; have := renV_rep hπ _ _ h.2; simp only [renV] at this ⊢; unfold RepG; exact ⟨h.1, this⟩
  | .ref id o, u, F, h => by unfold RepG at h; have := renV_rep hπ _ _ h.2; simp only [renV] at this ⊢; unfold RepG; exact ⟨h.1, this⟩
  | .vec id, u, F, h => by unfold RepG at h; have := renV_rep hπ _ _ h.2; simp only [renV] at this ⊢; unfold RepG; exact ⟨h.1, this⟩
  | .vref id sz i o, u, F, h => by unfold RepG at h; have := renV_rep hπ _ _ h.2; simp only [renV] at this ⊢; unfold RepG; exact ⟨h.1, this⟩
  | .mp id, u, F, h => by unfold RepG at h; have := renV_rep hπ _ _ h.2; simp only [renV] at this ⊢; unfold RepG; exact ⟨h.1, this⟩
theorem renL_repG (hπ : ∀ i, π (π i) = i) : ∀ (cs : List SV) (us : List Value) (F : List Nat), RepGL w M κ cs us F → RepGL w M (fun i => κ (π i)) (renL π cs) us F
  | [], us, F, h => by unfold RepGL at h; simp only [renL]; unfold RepGL; exact h
  | c :: cs, us, F, h => by
    unfold RepGL at h; simp only [renL]; unfold RepGL
    obtain ⟨u, vs, F1, F2, h1, h2, h3, h4⟩ := h
    exact ⟨u, vs, F1, F2, h1, h2, renV_repG hπ c u F1 h3, renL_repG hπ cs vs F2 h4⟩
end
end

def renSt (π : Nat → Nat) (σ : St) : St := ⟨fun i => renV π (σ.s i), fun i => renC π (σ.h (π i))⟩
section
variable {c : Cx} {σ : St} {κ : Nat → Value} {φ : Nat → List Nat} {a : Act} {w : World} {π : Nat → Nat}
/-- Two ranges of names change places. -/
def sw (n b : Nat) (i : Nat) : Nat := if i < n then i + b else if b ≤ i ∧ i < b + n then i - b else i
/-! ### A frame within the frame -/
def inCx (c : Cx) (a : Act) (N : Nat) : Cx := { c with N := N, gs := (List.range c.N).map (fun i => a.tmps.getD i undef) ++ c.gs }
def inSt (N : Nat) (xs : List SV) (σ : St) : St := ⟨fun i => if i < N then (match xs[i]? with | some x => x | none => .d .any) else σ.s (i - N), σ.h⟩
def outSt (N : Nat) (dst : Option Nat) (v : SV) (σ : St) : St := ⟨match dst with | some d => upd (fun i => σ.s (N + i)) d v | none => fun i => σ.s (N + i), σ.h⟩
theorem Ref.enter (hr : Ref c σ κ φ a w) {xs : List SV} {vs : List Value} (hx : RepSL w (own c φ) κ xs vs) (N : Nat) (hN : vs.length ≤ N) :
    Ref (inCx c a N) (inSt N xs σ) κ φ { tmps := vs.toArray ++ Array.replicate (N - vs.toArray.size) undef, defers := [] } w := by
  have hget : ∀ {xs : List SV} {vs : List Value} (i : Nat) x, RepSL w (own c φ) κ xs vs → xs[i]? = some x → ∃ v, vs[i]? = some v ∧ RepS w (own c φ) κ x v := by
    intro xs
    induction xs with
    | nil => intro vs i x _ h; cases h
    | cons y ys ih =>
      intro vs i x h hx
      unfold RepSL at h
      obtain ⟨u, us, rfl, h1, h2⟩ := h
      cases i with
      | zero => simp at hx; subst hx; exact ⟨u, rfl, h1⟩
      | succ i => exact ih i x h2 (by simpa using hx)
  refine ⟨hr.chg, hr.size, hr.m0, ?_, rfl, hr.kok, fun i hi => ?_, fun i v hv => ?_, hr.chunks, hr.mine, hr.nod, hr.sep⟩
  · show _ = N
    simp; omega
  · have hi' : i < N := hi
    show RepS w (own c φ) κ (if i < N then _ else _) _
    rw [if_pos hi']
    cases hxi : xs[i]? with
    | none => simp [RepS, Rep]
    | some x =>
      obtain ⟨v, hv, h2⟩ := hget i x hx hxi
      have hlt : i < vs.length := (List.getElem?_eq_some_iff.1 hv).1
      rw [Array.getD_eq_getD_getElem?, Array.getElem?_append_left (by simpa using hlt)]
      simpa [hv] using h2
  · show RepS w (own c φ) κ (if N + i < N then _ else σ.s (N + i - N)) v
    rw [if_neg (by omega), Nat.add_sub_cancel_left]
    have hv' : ((List.range c.N).map (fun i => a.tmps.getD i undef) ++ c.gs)[i]? = some v := hv
    by_cases hlt : i < c.N
    · rw [List.getElem?_append_left (by simpa using hlt)] at hv'
      simp [hlt] at hv'
      subst hv'
      have := hr.slots i hlt
      simpa [Array.getD_eq_getD_getElem?] using this
    · rw [List.getElem?_append_right (by simp; omega)] at hv'
      have := hr.ghost (i - c.N) v (by simpa using hv')
      rwa [show c.N + (i - c.N) = i by omega] at this
end

section
variable {P : Program} {c : Cx} {σ : St} {κ : Nat → Value} {φ : Nat → List Nat} {a : Act} {w : World}
/-! ### In the walk that makes the computation -/
end

section
variable {P : Program} {x0 : SC} {Q : AX → St → Prop} {s : Nat → SV} {h : Nat → Ch} {α β : Type} {row : α → List DV} {row' : β → List DV} {ms ms' : List Mask} {l : List α}
/-- A slice goes back to its row (rows of masks of their own). -/
theorem imp_closeW {id cid e sz i off e' n' : Nat} {rowsB : List (List SV)} {cells : List SV} {x x' : α} {l' : List β} (hj : h cid = .vec e' n' rowsB) (hh : h id = .vec e sz ((vrowO ms row l).set i cells)) (hx : l[i]? = some x) (hc : (ownR ms (row x)).set off (.vec cid) = cells) (hr : rowsle rowsB (vrowO ms' row' l')) (hms : ms[off]? = some (.sl e' ms')) (hn : ms'.length = n')
    (hsz : ∀ b, (row' b).length = n') (hlt : off < (row x).length) (hy : row x' = (row x).set off (.slice (l'.map row'))) (hne : id ≠ cid) :
    Imp ⟨s, h⟩ ⟨repS cid .any s, upd (upd (repH cid .any h) id (.vec e sz (vrowO ms row (l.set i x')))) cid .dead⟩ := by
  subst hc
  exact imp_closeV hh hx hj hr hn hms (by rw [hn]; exact hsz) hlt hy hne
end
/-- Rows told one by one, read as rows of a kind. -/
theorem imp_norm1 {s : Nat → SV} {h : Nat → Ch} {α : Type} {e sz : Nat} {r0 : List SV} (id : Nat) (ms : List Mask) (row : α → List DV) {l : List α} (hh : h id = .vec e sz [r0]) (hr : rowsle [r0] (vrowO ms row l)) : Imp ⟨s, h⟩ ⟨s, upd h id (.vec e sz (vrowO ms row l))⟩ :=
  imp_normO (rows := []) (ys := [r0]) id ms row hh hr
theorem renR_append (π : Nat → Nat) (a b : List (List SV)) : renR π (a ++ b) = renR π a ++ renR π b := by simp [renR]
theorem renL_d (π : Nat → Nat) : ∀ (l : List DV), renL π (dR l) = dR l
  | [] => rfl
  | d :: l => by
    have := renL_d π l
    simp only [dR] at this
    simp only [dR, List.map_cons, renL, renV, this]
theorem renL_ownR (π : Nat → Nat) : ∀ (ms : List Mask) (ds : List DV), renL π (ownR ms ds) = ownR ms ds
  | [], ds => by simp [ownR, renL]
  | m :: ms, [] => by simp [ownR, renL]
  | m :: ms, d :: ds => by
    have := renL_ownR π ms ds
    simp only [ownR] at this
    simp only [ownR, List.zipWith_cons_cons, renL, this]
    cases m <;> rfl
theorem renR_vrow {α : Type} (π : Nat → Nat) (row : α → List DV) (l : List α) : renR π (vrow row l) = vrow row l := by
  simp only [renR, vrow, List.map_map]
  exact List.map_congr_left fun a _ => renL_d π (row a)
theorem renR_vrowO {α : Type} (π : Nat → Nat) (ms : List Mask) (row : α → List DV) (l : List α) : renR π (vrowO ms row l) = vrowO ms row l := by
  simp only [renR, vrowO, List.map_map]
  exact List.map_congr_left fun a _ => renL_ownR π ms (row a)
theorem renL_set (π : Nat → Nat) (y : SV) : ∀ (xs : List SV) (i : Nat), renL π (xs.set i y) = (renL π xs).set i (renV π y)
  | [], i => by simp [renL]
  | x :: xs, 0 => by simp only [List.set_cons_zero, renL]
  | x :: xs, i + 1 => by simp only [List.set_cons_succ, renL, renL_set π y xs i]
theorem renR_set (π : Nat → Nat) (rows : List (List SV)) (i : Nat) (r : List SV) : renR π (rows.set i r) = (renR π rows).set i (renL π r) := by simp only [renR, List.map_set]
theorem renK_data {K V : Type} {ke : K → DV} {f : V → DV} (π : Nat → Nat) (W : List (K × V)) : renK π (encM ke (fun v => .d (f v)) W) = encM ke (fun v => .d (f v)) W := by
  simp only [renK, encM, List.map_map]; rfl
theorem renK_own {K α : Type} {ke : K → DV} {e : Nat} {ms : List Mask} {row : α → List DV} (π : Nat → Nat) (W : List (K × List α)) : renK π (encM ke (ownV e ms row) W) = encM ke (ownV e ms row) W := by
  simp only [renK, encM, List.map_map]; rfl
theorem renR_nil (π : Nat → Nat) : renR π [] = [] := rfl
theorem renR_cons (π : Nat → Nat) (r : List SV) (l : List (List SV)) : renR π (r :: l) = renL π r :: renR π l := rfl
theorem renK_nil (π : Nat → Nat) : renK π [] = [] := rfl
theorem renSt_s (π : Nat → Nat) (σ : St) (i : Nat) : (renSt π σ).s i = renV π (σ.s i) := rfl
theorem renSt_h (π : Nat → Nat) (σ : St) (i : Nat) : (renSt π σ).h i = renC π (σ.h (π i)) := rfl
theorem inSt_s (N : Nat) (xs : List SV) (σ : St) (i : Nat) : (inSt N xs σ).s i = if i < N then (match xs[i]? with | some x => x | none => .d .any) else σ.s (i - N) := rfl
theorem inSt_h (N : Nat) (xs : List SV) (σ : St) (i : Nat) : (inSt N xs σ).h i = σ.h i := rfl
theorem outSt_s (N d : Nat) (v : SV) (σ : St) (i : Nat) : (outSt N (some d) v σ).s i = if i = d then v else σ.s (N + i) := rfl
theorem outSt_s0 (N : Nat) (v : SV) (σ : St) (i : Nat) : (outSt N none v σ).s i = σ.s (N + i) := rfl
theorem outSt_h (N : Nat) (d : Option Nat) (v : SV) (σ : St) (i : Nat) : (outSt N d v σ).h i = σ.h i := rfl
attribute [push_cast] renV renL renC renR_append renL_d renL_ownR renR_vrow renR_vrowO renL_set renR_set renK_data renK_own renR_nil renR_cons renK_nil renSt_s renSt_h inSt_s inSt_h outSt_s outSt_s0 outSt_h sw svL RV.sv resSV
end Go.Proofs.YtfbhhhghjehjjaaDoor

/-
  The engine, part X: maps, told as lists of keys and values.
-/
import Derived.Test.YtcnohbiegjahkaaGreatDoorSXEngV
namespace Go.Proofs.YtcnohbiegjahkaaGreatDoor
set_option linter.unusedSimpArgs false
set_option linter.unusedVariables false
open Go.RowKit

/-- The entries of a map. -/
def encM {K V : Type} (ke : K → DV) (ve : V → SV) (W : List (K × V)) : List (DV × SV) := W.map fun p => (ke p.1, ve p.2)
def getM {K V : Type} [DecidableEq K] : List (K × V) → K → Option V
  | [], _ => none
  | p :: W, k => if k = p.1 then some p.2 else getM W k
def putM {K V : Type} [DecidableEq K] : List (K × V) → K → V → List (K × V)
  | [], k, v => [(k, v)]
  | p :: W, k, v => if k = p.1 then (k, v) :: W else p :: putM W k v
/-- An owned slice of cells that nobody else points to. -/
def ownV {α : Type} (e : Nat) (ms : List Mask) (row : α → List DV) (l : List α) : SV := .own (.sl e ms) (.slice (l.map row))

section
variable {V : Type} {ve : V → SV}
theorem keyEq_str (a b : List UInt8) : keyEq (.str a) (.str b) = decide (a = b) := rfl
theorem kvGet_enc : ∀ (W : List (List UInt8 × V)) (k : List UInt8), kvGet (encM .str ve W) (.str k) = (getM W k).map ve
  | [], _ => rfl
  | p :: W, k => by
    simp only [encM, List.map_cons, kvGet, keyEq_str, getM]
    by_cases h : k = p.1
    · simp [h]
    · simp only [h, decide_false, if_false]; exact kvGet_enc W k
theorem kvSet_enc : ∀ (W : List (List UInt8 × V)) (k : List UInt8) (v : V), kvSet (encM .str ve W) (.str k) (ve v) = encM .str ve (putM W k v)
  | [], _, _ => rfl
  | p :: W, k, v => by
    simp only [encM, List.map_cons, kvSet, keyEq_str, putM]
    by_cases h : k = p.1
    · simp [h]
    · simp only [h, decide_false, if_false, List.map_cons]
      have := kvSet_enc W k v
      simp only [encM] at this
      simp [this]
end
theorem kvSet_set {α : Type} (k : List UInt8) (x y : α) : ∀ (kv : List (DV × α)), kvSet (kvSet kv (.str k) x) (.str k) y = kvSet kv (.str k) y
  | [] => by simp [kvSet, keyEq_str]
  | (q, e) :: kv => by
    simp only [kvSet]
    by_cases h : keyEq (.str k) q = true
    · simp only [h, if_true, kvSet, keyEq_str, decide_true]
    · simp only [Bool.not_eq_true] at h
      simp [h, kvSet, kvSet_set k x y kv]
theorem repK_enc {K V : Type} {ke : K → DV} {ve : V → SV} (id : Nat) (dv : DV) (hv : ∀ v, repV id dv (ve v) = ve v) : ∀ (W : List (K × V)), repK id dv (encM ke ve W) = encM ke ve W
  | [] => rfl
  | p :: W => by simp only [encM, List.map_cons, repK, hv]; rw [show W.map (fun p => (ke p.1, ve p.2)) = encM ke ve W from rfl, repK_enc id dv hv W]
theorem repK_own2 {K α : Type} {ke : K → DV} {row : α → List DV} {e : Nat} {ms : List Mask} (id : Nat) (dv : DV) (W : List (K × List α)) : repK id dv (encM ke (ownV e ms row) W) = encM ke (ownV e ms row) W := repK_enc id dv (fun _ => rfl) W
theorem repK_set (id : Nat) (dv : DV) (k : DV) (x : SV) : ∀ (kv : List (DV × SV)), repK id dv (kvSet kv k x) = kvSet (repK id dv kv) k (repV id dv x)
  | [] => rfl
  | (q, e) :: kv => by
    simp only [kvSet, repK]
    by_cases h : keyEq k q = true
    · simp only [h, if_true, repK]
    · simp [h, repK, repK_set id dv k x kv]
theorem ownR_sh {α : Type} {row : α → List DV} {n : Nat} (hsz : ∀ a, (row a).length = n) (l : List α) : (l.map row).map (ownR (List.replicate n .sh)) = vrow row l := by
  have h : ∀ (n : Nat) (r : List DV), r.length = n → ownR (List.replicate n .sh) r = dR r := by
    intro n
    induction n with
    | zero => intro r hr; cases r with
      | nil => rfl
      | cons a r => simp at hr
    | succ n ih => intro r hr; cases r with
      | nil => simp at hr
      | cons a r =>
        simp only [List.replicate_succ, ownR, List.zipWith_cons_cons, ownC]
        have := ih r (by simpa using hr)
        simp only [ownR] at this
        rw [this]; rfl
  simp only [vrow, List.map_map]
  apply List.map_congr_left
  intro a _
  simp only [Function.comp]
  exact h n (row a) (hsz a)

section
variable {P : Program} {s : Nat → SV} {h : Nat → Ch} {K : St → Prop} {sos : List SO} {α : Type} {row : α → List DV}

/-- The string in a variable's field. -/
def keyAt (h : Nat → Ch) (s : Nat → SV) (t off : Nat) : Option (List UInt8) :=
  match s t with
  | .ref id o => match h id with
    | .box cs => match cs[o + off]? with
      | some (.d (.str k)) => some k
      | _ => none
    | _ => none
  | _ => none
theorem O_lookM {dst id : Nat} {z v : SV} {m k : SX} {kv : List (DV × SV)} {key : List UInt8} (hx : ev s m = .mp id) (hk : ev s k = .d (.str key)) (hh : h id = .map .str kv) (hv : lookV kv (.str key) z = v) (hn : v.noOwn = true) (hrest : AOps P K sos ⟨upd s dst v, h⟩) : AOps P K (.r dst (.look .str z false m k) :: sos) ⟨s, h⟩ := by
  refine O_r (p := KK.str = KK.str ∧ KK.fits .str (.str key) = true ∧ v.noOwn = true) (v := v) ?_ ⟨rfl, rfl, hn⟩ hrest
  simp only [rd, hx, hk, hh, hv]; rfl
end
section
variable {P : Program} {s : Nat → SV} {h : Nat → Ch} {K : St → Prop} {sos : List SO} {α : Type} {row : α → List DV}
/-! ### Slice literals, read as slices -/
theorem slit_dv {sz n : Nat} {cs : List SV} {d : DV} (hd : (SV.lit sz n cs).toDV = some d) : ∃ ds, SV.toDVs cs = some ds ∧ d = .slice (chunkR sz n ds) := by
  unfold SV.toDV at hd
  split at hd
  · rename_i xs hx
    simp only [Option.some.injEq] at hd
    exact ⟨xs, hx, hd.symm⟩
  · cases hd
theorem O_idxLr {R : Type} {r : R} {l : List α} {sz k : Nat} {cs : List SV} {d : DV} {n : Int} {x i : SX} {ki : IntKind} {dst : Nat} {kk : α → Option R} (hm : (getI l n).bind kk = some r) (hx : ev s x = .lit sz k cs) (hd : (SV.lit sz k cs).toDV = some d) (he : d = .slice (l.map row)) (hi : ev s i = .d (.int ki n)) (hsz : ∀ e, (row e).length = sz)
    (hk : ∀ e, kk e = some r → AOps P K sos ⟨upd s dst (.d (.ptr (row e))), h⟩) : AOps P K (.r dst (.idx sz x i) :: sos) ⟨s, h⟩ := by
  obtain ⟨ds, h1, h2⟩ := slit_dv hd
  rw [he] at h2
  simp only [DV.slice.injEq] at h2
  cases hg : getI l n with
  | none => rw [hg] at hm; cases hm
  | some e =>
    rw [hg] at hm
    unfold getI at hg
    split at hg
    · rename_i h0
      refine O_r (p := 0 ≤ n ∧ (row e).length = sz) (v := .d (.ptr (row e))) ?_ ⟨h0, hsz e⟩ (hk e hm)
      simp only [rd, hi, hx, h1, ← h2, List.getElem?_map, hg, Option.map_some]
    · cases hg
theorem O_slcLr {R : Type} {r : R} {l : List α} {sz k : Nat} {cs : List SV} {d : DV} {lo hi : Option Int} {x : SX} {i j : Option SX} {dst : Nat} {kk : List α → Option R} (hm : (sliceI l (lo.getD 0) (hi.getD k)).bind kk = some r) (hx : ev s x = .lit sz k cs) (hd : (SV.lit sz k cs).toDV = some d) (he : d = .slice (l.map row)) (hl : evN s i = some lo) (hh : evN s j = some hi)
    (hk : ∀ e, kk e = some r → AOps P K sos ⟨upd s dst (.d (.slice (e.map row))), h⟩) : AOps P K (.r dst (.slc sz x i j) :: sos) ⟨s, h⟩ := by
  obtain ⟨ds, h1, h2⟩ := slit_dv hd
  rw [he] at h2
  simp only [DV.slice.injEq] at h2
  have hlen : l.length = k := by have := congrArg List.length h2; simpa [chunkR_length] using this
  cases hg : sliceI l (lo.getD 0) (hi.getD k) with
  | none => rw [hg] at hm; cases hm
  | some e =>
    rw [hg] at hm
    unfold sliceI at hg
    split at hg
    · rename_i h0
      simp only [Option.some.injEq] at hg
      refine O_r (p := sz = sz ∧ 0 ≤ lo.getD 0 ∧ lo.getD 0 ≤ hi.getD k ∧ hi.getD k ≤ k) (v := .d (.slice (e.map row))) ?_ ⟨rfl, by omega, by omega, by omega⟩ (hk e hm)
      simp only [rd, hx, hl, hh, h1, ← h2, ← hg, List.map_drop, List.map_take]
    · cases hg
theorem imp_slot {m : Nat} {v : SV} (hv : ∀ (w : World) (M : Nat → Prop) (κ : Nat → Value) (u : Value), RepS w M κ (s m) u → RepS w M κ v u) : Imp ⟨s, h⟩ ⟨upd s m v, h⟩ := by
  have key : ∀ (w : World) (M : Nat → Prop) (κ : Nat → Value) (i : Nat) (u : Value), RepS w M κ (s i) u → RepS w M κ (upd s m v i) u := by
    intro w M κ i u hu
    by_cases hi : i = m
    · subst hi; simp only [upd, if_true]; exact hv w M κ u hu
    · simp only [upd, hi, if_false]; exact hu
  intro c κ φ a w hr
  refine ⟨κ, φ, ?_⟩
  exact { hr with
    slots := fun i hi => key _ _ _ _ _ (hr.slots i hi)
    ghost := fun i v hv => key _ _ _ _ _ (hr.ghost i v hv) }
theorem lit_slot {w : World} {M : Nat → Prop} {κ : Nat → Value} {sz n : Nat} {cs : List SV} {ds : List DV} {u : Value} (hd : SV.toDVs cs = some ds) (hu : RepS w M κ (.lit sz n cs) u) : RepS w M κ (.lit sz n (dR ds)) u := by
  simp only [RepS] at hu ⊢
  obtain ⟨b, vs, h1, h2, h3, h4, h5, h6, h7⟩ := hu
  exact ⟨b, vs, h1, h2, h3, h4, h5, h6, dR_rep (RepSL.toDVs cs vs ds h7 hd)⟩
theorem chunkR_dR : ∀ (sz n : Nat) (ds : List DV), chunkR sz n (dR ds) = (chunkR sz n ds).map dR
  | _, 0, _ => rfl
  | sz, n + 1, ds => by
    simp only [chunkR, List.map_cons]
    rw [show (dR ds).drop sz = dR (ds.drop sz) by simp [dR, List.map_drop], chunkR_dR sz n]
    congr 1
    simp [dR, List.map_take]
/-- A slice literal that grows. -/
theorem O_appL {R : Type} {r : R} {l l2 : List α} {m n dst e sz k : Nat} {cs : List SV} {ds : List DV} {Y : SV} {d d2 : DV} {kk : Option R} (hm : thenO (lenO (l.length + l2.length)) kk = some r) (hx : s m = .lit sz k cs) (hds : SV.toDVs cs = some ds) (hd : (SV.lit sz k cs).toDV = some d) (hy : s n = Y) (hyd : Y.toDV = some d2) (he : d = .slice (l.map row)) (he2 : d2 = .slice (l2.map row)) (hpos : (!l2.isEmpty) = true) (hne : m ≠ n) (hsz : ∀ a, (row a).length = sz)
    (hk : kk = some r → AOps P K sos ⟨upd (repS dst .any (upd (upd s m (.lit sz k (dR ds))) n (.d (.slice (l2.map row))))) dst (.vec dst), upd (repH dst .any h) dst (.vec e sz (vrow row (l ++ l2)))⟩) : AOps P K (.w dst (.app e sz (.t m) (.t n)) :: sos) ⟨s, h⟩ := by
  cases hl : lenO (l.length + l2.length) with
  | none => rw [hl] at hm; cases hm
  | some u =>
    rw [hl] at hm
    have hlen := lenO_some.1 hl
    obtain ⟨ds', h1, h2⟩ := slit_dv hd
    rw [h1] at hds; cases hds
    rw [he] at h2
    simp only [DV.slice.injEq] at h2
    have hkl : k = l.length := by have := congrArg List.length h2; simpa [chunkR_length] using this.symm
    have hi1 : Imp ⟨s, h⟩ ⟨upd s m (.lit sz k (dR ds)), h⟩ := imp_slot fun w M κ u hu => by rw [hx] at hu; exact lit_slot h1 hu
    have hi2 : Imp ⟨upd s m (.lit sz k (dR ds)), h⟩ ⟨upd (upd s m (.lit sz k (dR ds))) n (.d (.slice (l2.map row))), h⟩ := svle_slot (by simp only [upd, Ne.symm hne, if_false, hy]; exact svle_dv (he2 ▸ hyd))
    refine O_wI (hi1.trans hi2) (p := sz = sz ∧ 0 < ((l2.map row).map dR).length ∧ (∀ r ∈ (l2.map row).map dR, r.length = sz) ∧ k + ((l2.map row).map dR).length ≤ 137438953472)
      ?_ ⟨rfl, ?_, vrow_all hsz l2, by simp only [List.length_map]; omega⟩ (hk hm)
    · simp only [wr, ev, upd, hne, if_false, if_true, rowsY, SV.toDV, growTo, St.swap]
      rw [chunkR_dR, ← h2, show (l2.map row).map dR = vrow row l2 from rfl, show (l.map row).map dR = vrow row l from rfl, vrow_append, repR_vrow]
    · cases l2 with
      | nil => simp at hpos
      | cons _ _ => simp
/-! ### Arrays of numbers -/
def vcells (c : α → DV) (l : List α) : List SV := l.map fun a => .d (c a)
/-! ### Bytes and strings -/
theorem bytesD_row : ∀ (l : List UInt8), bytesD (l.map rowY) = some l
  | [] => rfl
  | c :: l => by
    have hc : (0 : Int) ≤ c.toNat ∧ (c.toNat : Int) < 256 := by have := c.toNat_lt; omega
    simp only [List.map_cons, rowY, bytesD, hc, and_self, if_true]
    rw [bytesD_row l]
    simp
theorem O_cvbsD {l : List UInt8} {dst : Nat} {x : SX} (hx : ev s x = .d (.slice (l.map rowY))) (hk : AOps P K sos ⟨upd s dst (.d (.str l)), h⟩) : AOps P K (.r dst (.cvbs x) :: sos) ⟨s, h⟩ :=
  O_r (p := True) (v := .d (.str l)) (by simp only [rd, hx, bytesD_row]) trivial hk
end
theorem chle_map0 {K V : Type} {kk : KK} {ke : K → DV} {ve : V → SV} : chle (.map kk []) (.map kk (encM ke ve [])) := rfl
attribute [push_cast] repK_own2 repK_set kvSet_set keyAt
end Go.Proofs.YtcnohbiegjahkaaGreatDoor

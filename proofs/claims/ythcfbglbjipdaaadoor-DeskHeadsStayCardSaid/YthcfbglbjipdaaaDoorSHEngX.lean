/-
  The engine, part X: maps, told as lists of keys and values.
-/
import Derived.Test.YthcfbglbjipdaaaDoorSHEngV
namespace Go.Proofs.YthcfbglbjipdaaaDoor
set_option linter.unusedSimpArgs false
set_option linter.unusedVariables false
open Go.RowKit

/-- The entries of a map. -/
def encM {K V : Type} (ke : K → DV) (ve : V → SV) (W : List (K × V)) : List (DV × SV) := W.map fun p => (ke p.1, ve p.2)
/-- An owned slice of cells that nobody else points to. -/
def ownV {α : Type} (e : Nat) (ms : List Mask) (row : α → List DV) (l : List α) : SV := .own (.sl e ms) (.slice (l.map row))

section
variable {V : Type} {ve : V → SV}
theorem keyEq_str (a b : List UInt8) : keyEq (.str a) (.str b) = decide (a = b) := rfl
end
theorem kvSet_set {α : Type} (k : List UInt8) (x y : α) : ∀ (kv : List (DV × α)), kvSet (kvSet kv (.str k) x) (.str k) y = kvSet kv (.str k) y
  | [] => by simp [kvSet, keyEq_str]
  | (q, e) :: kv => by
    simp only [kvSet]
    by_cases h : keyEq (.str k) q = true
    · simp only [h, if_true, kvSet, keyEq_str, decide_true]
    · simp only [Bool.not_eq_true] at h
      simp [h, kvSet, kvSet_set k x y kv]
theorem repK_enc {K V : Type} {ke : K → DV} {ve : V → SV} (id : Nat) (dv : DV) (hv : ∀ v, repV id dv (ve v) = ve v) : ∀ (W : List (K × V)), repK id dv (encM ke ve W) = encM ke ve W
  | [] => rfl
  | p :: W => by simp only [encM, List.map_cons, repK, hv]; rw [show W.map (fun p => (ke p.1, ve p.2)) = encM ke ve W from rfl, repK_enc id dv hv W]
theorem repK_own2 {K α : Type} {ke : K → DV} {row : α → List DV} {e : Nat} {ms : List Mask} (id : Nat) (dv : DV) (W : List (K × List α)) : repK id dv (encM ke (ownV e ms row) W) = encM ke (ownV e ms row) W := repK_enc id dv (fun _ => rfl) W
theorem repK_set (id : Nat) (dv : DV) (k : DV) (x : SV) : ∀ (kv : List (DV × SV)), repK id dv (kvSet kv k x) = kvSet (repK id dv kv) k (repV id dv x)
  | [] => rfl
  | (q, e) :: kv => by
    simp only [kvSet, repK]
    by_cases h : keyEq k q = true
    · simp only [h, if_true, repK]
    · simp [h, repK, repK_set id dv k x kv]
theorem ownR_sh {α : Type} {row : α → List DV} {n : Nat} (hsz : ∀ a, (row a).length = n) (l : List α) : (l.map row).map (ownR (List.replicate n .sh)) = vrow row l := by
  have h : ∀ (n : Nat) (r : List DV), r.length = n → ownR (List.replicate n .sh) r = dR r := by
    intro n
    induction n with
    | zero => intro r hr; cases r with
      | nil => rfl
      | cons a r => simp at hr
    | succ n ih => intro r hr; cases r with
      | nil => simp at hr
      | cons a r =>
        simp only [List.replicate_succ, ownR, List.zipWith_cons_cons, ownC]
        have := ih r (by simpa using hr)
        simp only [ownR] at this
        rw [this]; rfl
  simp only [vrow, List.map_map]
  apply List.map_congr_left
  intro a _
  simp only [Function.comp]
  exact h n (row a) (hsz a)

section
variable {P : Program} {s : Nat → SV} {h : Nat → Ch} {K : St → Prop} {sos : List SO} {α : Type} {row : α → List DV}

/-- The string in a variable's field. -/
def keyAt (h : Nat → Ch) (s : Nat → SV) (t off : Nat) : Option (List UInt8) :=
  match s t with
  | .ref id o => match h id with
    | .box cs => match cs[o + off]? with
      | some (.d (.str k)) => some k
      | _ => none
    | _ => none
  | _ => none
end
section
variable {P : Program} {s : Nat → SV} {h : Nat → Ch} {K : St → Prop} {sos : List SO} {α : Type} {row : α → List DV}
/-! ### Slice literals, read as slices -/
/-! ### Arrays of numbers -/
def vcells (c : α → DV) (l : List α) : List SV := l.map fun a => .d (c a)
theorem vc_nil {c : α → DV} : cellsle [] (vcells c []) := .nil
theorem vc_cons {c : α → DV} {x : SV} {xs : List SV} {a : α} {l : List α} (h1 : svle x (.d (c a))) (h2 : cellsle xs (vcells c l)) : cellsle (x :: xs) (vcells c (a :: l)) := .consS h1 h2
def inO (n : Int) (len : Nat) : Option Unit := if 0 ≤ n ∧ n < len then some () else none
theorem O_aidxr {R : Type} {r : R} {len id dst : Nat} {n : Int} {x i : SX} {ki : IntKind} {kk : Option R} (hm : thenO (inO n len) kk = some r) (hx : ev s x = .ref id 0) (hi : ev s i = .d (.int ki n))
    (hk : kk = some r → AOps P K sos ⟨upd s dst (.ref id n.toNat), h⟩) : AOps P K (.r dst (.aidx 1 len x i) :: sos) ⟨s, h⟩ := by
  cases hl : inO n len with
  | none => rw [hl] at hm; cases hm
  | some u =>
    rw [hl] at hm
    unfold inO at hl
    split at hl
    · rename_i h0
      refine O_r (p := 0 ≤ n ∧ n < len) (v := .ref id n.toNat) ?_ h0 (hk hm)
      simp only [rd, hx, hi, Nat.zero_add, Nat.mul_one]
    · cases hl
theorem O_stC {R : Type} {r : R} {l : List α} {c : α → DV} {a : α} {d : DV} {id o dst : Nat} {p v : SX} {kk : α → Option R} (hm : (l[o]?).bind kk = some r) (hx : ev s p = .ref id o) (hh : h id = .box (vcells c l)) (hv : ev s v = .d d) (he : d = c a) (hc : (SV.d d).cells? = some [.d d])
    (hk : ∀ b, kk b = some r → AOps P K sos ⟨s, upd h id (.box (vcells c (l.set o a)))⟩) : AOps P K (.w dst (.st 1 p v) :: sos) ⟨s, h⟩ := by
  cases hl : l[o]? with
  | none => rw [hl] at hm; cases hm
  | some b =>
    rw [hl] at hm
    have hlt := (List.getElem?_eq_some_iff.1 hl).1
    refine O_w (p := ([SV.d d].length = 1 ∧ o + 1 ≤ (vcells c l).length)) ?_ ⟨rfl, by simp [vcells]; omega⟩ (hk b hm)
    simp only [wr, hx, hh, hv, hc]
    congr 5
    unfold splice vcells
    rw [he]
    apply List.ext_getElem?
    intro j
    simp only [List.map_set, List.length_singleton]
    rw [List.set_eq_take_append_cons_drop, if_pos (by simpa using hlt)]
    simp
/-! ### Bytes and strings -/
theorem bytesD_row : ∀ (l : List UInt8), bytesD (l.map rowY) = some l
  | [] => rfl
  | c :: l => by
    have hc : (0 : Int) ≤ c.toNat ∧ (c.toNat : Int) < 256 := by have := c.toNat_lt; omega
    simp only [List.map_cons, rowY, bytesD, hc, and_self, if_true]
    rw [bytesD_row l]
    simp
theorem O_cvbsD {l : List UInt8} {dst : Nat} {x : SX} (hx : ev s x = .d (.slice (l.map rowY))) (hk : AOps P K sos ⟨upd s dst (.d (.str l)), h⟩) : AOps P K (.r dst (.cvbs x) :: sos) ⟨s, h⟩ :=
  O_r (p := True) (v := .d (.str l)) (by simp only [rd, hx, bytesD_row]) trivial hk
theorem O_cvsb {l : List UInt8} {dst : Nat} {x : SX} (hx : ev s x = .d (.str l)) (hk : AOps P K sos ⟨upd s dst (.d (.slice (l.map rowY))), h⟩) : AOps P K (.r dst (.cvsb x) :: sos) ⟨s, h⟩ :=
  O_r (p := True) (v := .d (.slice (l.map rowY))) (by simp only [rd, hx]; rfl) trivial hk
end
theorem eR_nil {α : Type} {row : α → List DV} : ([] : List (List SV)) = vrow row ([] : List α) := rfl
theorem eR_cons {α : Type} {row : α → List DV} {r : List SV} {rs : List (List SV)} {a : α} {l : List α} (h1 : r = dR (row a)) (h2 : rs = vrow row l) : r :: rs = vrow row (a :: l) := vrow_cons h1 h2
attribute [push_cast] repK_own2 repK_set kvSet_set keyAt
end Go.Proofs.YthcfbglbjipdaaaDoor

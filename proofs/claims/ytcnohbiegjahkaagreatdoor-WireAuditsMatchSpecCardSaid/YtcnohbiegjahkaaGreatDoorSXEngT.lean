/-
  The engine, part T: a region whose order the model draws, and some of whose operations write.
-/
import Derived.Test.YtcnohbiegjahkaaGreatDoorSXEngK
namespace Go.Proofs.YtcnohbiegjahkaaGreatDoor
set_option linter.unusedSimpArgs false
set_option linter.unusedVariables false
open Go.RowKit

def xsW : WOp → List SX
  | .boxM x => [x]
  | .st _ p v => [p, v]
  | .app _ _ x y => [x, y]
  | .appS _ x y => [x, y]
  | .mkmap _ => []
  | .mset _ m k v => [m, k, v]
  | .trunc _ x hi => [x, hi]
  | .slM _ _ xs => xs
  | .bldM _ _ => []

def dstW (d : Nat) : WOp → Option Nat
  | .st _ _ _ => none
  | .mset _ _ _ _ => none
  | _ => some d

def isX : SO → Bool
  | .x _ _ _ => true
  | .q _ _ _ _ => true
  | _ => false

def dstE : SO → Option Nat
  | .x d op _ => dstW d op
  | .q d _ _ _ => some d
  | so => dstO so

def xsE : SO → List SX
  | .x _ op _ => xsW op
  | .q _ f args _ => f :: args
  | so => xsO so

def okE (so : SO) : Bool := isX so || (dstO so).isSome

open Classical in
/-- Some slots are forgotten: z stands there. -/
noncomputable def erz (z : Nat → SV) (U : Nat → Prop) (s : Nat → SV) : Nat → SV := fun t => if U t then z t else s t
theorem erz_not {z : Nat → SV} {U : Nat → Prop} {s : Nat → SV} {t : Nat} (h : ¬ U t) : erz z U s t = s t := by unfold erz; simp [h]
theorem erz_in {z : Nat → SV} {U : Nat → Prop} {s : Nat → SV} {t : Nat} (h : U t) : erz z U s t = z t := by unfold erz; simp [h]
theorem erz_congr {z : Nat → SV} {U : Nat → Prop} {s s' : Nat → SV} (h : ∀ t, ¬ U t → s t = s' t) : erz z U s = erz z U s' := by
  funext t
  by_cases hu : U t
  · rw [erz_in hu, erz_in hu]
  · rw [erz_not hu, erz_not hu, h t hu]
theorem ev_erz {z : Nat → SV} {U : Nat → Prop} {s : Nat → SV} {x : SX} (h : ∀ t, x = .t t → ¬ U t) : ev (erz z U s) x = ev s x := by
  cases x with
  | t n => exact erz_not (h n rfl)
  | c v => rfl
  | f i => rfl
theorem erz_grow {z : Nat → SV} {U : Nat → Prop} {s : Nat → SV} {id d : Nat} {v : SV} (hz : ∀ i t, repV i .any (z t) = z t) : upd (repS id .any (erz z U s)) d v = erz z (fun t => U t ∧ t ≠ d) (upd (repS id .any s) d v) := by
  funext t
  by_cases ht : t = d
  · subst ht; rw [upd_same, erz_not (by simp), upd_same]
  · rw [upd_ne _ _ _ _ ht]
    by_cases hu : U t
    · rw [erz_in (U := fun t => U t ∧ t ≠ d) ⟨hu, ht⟩]; simp [repS, erz_in hu, hz]
    · rw [erz_not (U := fun t => U t ∧ t ≠ d) (fun h => hu h.1), upd_ne _ _ _ _ ht]; simp [repS, erz_not hu]
/-- What a write does hangs on its operands alone. -/
theorem wr_frame {z : Nat → SV} (hz : ∀ i t, repV i .any (z t) = z t) {U : Nat → Prop} {σ σ' : St} {d : Nat} {op : WOp} {p : Prop} (h : wr σ d op = some (p, σ')) (hx : ∀ x ∈ xsW op, ∀ t, x = .t t → ¬ U t) :
    wr ⟨erz z U σ.s, σ.h⟩ d op = some (p, ⟨erz z (fun t => U t ∧ dstW d op ≠ some t) σ'.s, σ'.h⟩) := by
  have same : ∀ s : Nat → SV, erz z (fun t => U t ∧ (none : Option Nat) ≠ some t) s = erz z U s := fun s => by congr 1; funext t; simp
  have one : ∀ s : Nat → SV, erz z (fun t => U t ∧ (some d : Option Nat) ≠ some t) s = erz z (fun t => U t ∧ t ≠ d) s := fun s => by
    congr 1; funext t; simp only [ne_eq, Option.some.injEq, eq_comm]
  cases op with
  | boxM x =>
    have h1 := ev_erz (z := z) (s := σ.s) (hx x (by simp [xsW]))
    simp only [wr, dstW, h1, one] at h ⊢
    split at h
    · simp only [Option.some.injEq, Prod.mk.injEq] at h
      obtain ⟨rfl, rfl⟩ := h
      simp only [St.swap, erz_grow hz]
    · cases h
  | st n x y =>
    have h1 := ev_erz (z := z) (s := σ.s) (hx x (by simp [xsW]))
    have h2 := ev_erz (z := z) (s := σ.s) (hx y (by simp [xsW]))
    simp only [wr, dstW, h1, h2, same] at h ⊢
    split at h
    · split at h
      · rename_i h3 h4
        simp only [Option.some.injEq, Prod.mk.injEq] at h
        obtain ⟨rfl, rfl⟩ := h
        simp only
      · cases h
    · split at h
      · split at h
        · rename_i h5
          simp only [Option.some.injEq, Prod.mk.injEq] at h
          obtain ⟨rfl, rfl⟩ := h
          simp only
        · cases h
      · cases h
    · cases h
  | app e sz x y =>
    have h1 := ev_erz (z := z) (s := σ.s) (hx x (by simp [xsW]))
    have h2 := ev_erz (z := z) (s := σ.s) (hx y (by simp [xsW]))
    simp only [wr, dstW, h1, h2, one] at h ⊢
    split at h
    · split at h
      · simp only [Option.some.injEq, Prod.mk.injEq] at h
        obtain ⟨rfl, rfl⟩ := h
        simp only [growTo, St.swap, erz_grow hz]
      · cases h
    · simp only [Option.some.injEq, Prod.mk.injEq] at h
      obtain ⟨rfl, rfl⟩ := h
      simp only [growTo, St.swap, erz_grow hz]
    · simp only [Option.some.injEq, Prod.mk.injEq] at h
      obtain ⟨rfl, rfl⟩ := h
      simp only [growTo, St.swap, erz_grow hz]
    · cases h
  | appS e x y =>
    have h1 := ev_erz (z := z) (s := σ.s) (hx x (by simp [xsW]))
    have h2 := ev_erz (z := z) (s := σ.s) (hx y (by simp [xsW]))
    simp only [wr, dstW, h1, h2, one] at h ⊢
    split at h
    · split at h
      · simp only [Option.some.injEq, Prod.mk.injEq] at h
        obtain ⟨rfl, rfl⟩ := h
        simp only [growTo, St.swap, erz_grow hz]
      · cases h
    · simp only [Option.some.injEq, Prod.mk.injEq] at h
      obtain ⟨rfl, rfl⟩ := h
      simp only [growTo, St.swap, erz_grow hz]
    · cases h
  | bldM T e =>
    simp only [wr, dstW, one, Option.some.injEq, Prod.mk.injEq] at h ⊢
    obtain ⟨rfl, rfl⟩ := h
    simp only [St.swap, erz_grow hz, and_self]
  | mkmap kk =>
    simp only [wr, dstW, one, Option.some.injEq, Prod.mk.injEq] at h ⊢
    obtain ⟨rfl, rfl⟩ := h
    simp only [St.swap, erz_grow hz, and_self]
  | mset kk m k v =>
    have h1 := ev_erz (z := z) (s := σ.s) (hx m (by simp [xsW]))
    have h2 := ev_erz (z := z) (s := σ.s) (hx k (by simp [xsW]))
    have h3 := ev_erz (z := z) (s := σ.s) (hx v (by simp [xsW]))
    simp only [wr, dstW, h1, h2, h3, same] at h ⊢
    split at h
    · split at h
      · simp only [Option.some.injEq, Prod.mk.injEq] at h
        obtain ⟨rfl, rfl⟩ := h
        simp only
      · cases h
    · cases h
  | slM e sz xs =>
    have h1 : xs.map (ev (erz z U σ.s)) = xs.map (ev σ.s) := List.map_congr_left fun x hx' => ev_erz (hx x (by simpa only [xsW] using hx'))
    simp only [wr, dstW, h1, one] at h ⊢
    split at h
    · simp only [Option.some.injEq, Prod.mk.injEq] at h
      obtain ⟨rfl, rfl⟩ := h
      simp only [growTo, St.swap, erz_grow hz]
    · cases h
  | trunc sz x hi =>
    have h1 := ev_erz (z := z) (s := σ.s) (hx x (by simp [xsW]))
    have h2 := ev_erz (z := z) (s := σ.s) (hx hi (by simp [xsW]))
    simp only [wr, dstW, h1, h2, one] at h ⊢
    split at h
    · split at h
      · simp only [Option.some.injEq, Prod.mk.injEq] at h
        obtain ⟨rfl, rfl⟩ := h
        simp only [growTo, St.swap, erz_grow hz]
      · cases h
    · cases h

/-- The same of a call. -/
theorem takes_frame {z : Nat → SV} (hz : ∀ i t, repV i .any (z t) = z t) {U : Nat → Prop} {σ σ' : St} {d : Nat} {res : SV} (h : takes σ [] (some d) res = some σ') : takes ⟨erz z U σ.s, σ.h⟩ [] (some d) res = some ⟨erz z (fun t => U t ∧ (some d : Option Nat) ≠ some t) σ'.s, σ'.h⟩ := by
  have one : ∀ s : Nat → SV, erz z (fun t => U t ∧ (some d : Option Nat) ≠ some t) s = erz z (fun t => U t ∧ t ≠ d) s := fun s => by
    congr 1; funext t; simp only [ne_eq, Option.some.injEq, eq_comm]
  have plainE : ∀ (s : Nat → SV) (v : SV), upd (erz z U s) d v = erz z (fun t => U t ∧ t ≠ d) (upd s d v) := fun s v => by
    funext t
    by_cases ht : t = d
    · subst ht; rw [upd_same, erz_not (by simp), upd_same]
    · rw [upd_ne _ _ _ _ ht]
      by_cases hu : U t
      · rw [erz_in (U := fun t => U t ∧ t ≠ d) ⟨hu, ht⟩, erz_in hu]
      · rw [erz_not (U := fun t => U t ∧ t ≠ d) (fun h => hu h.1), upd_ne _ _ _ _ ht, erz_not hu]
  unfold takes at h ⊢
  simp only at h ⊢
  split at h
  · rename_i h0
    simp only [Option.some.injEq] at h; subst h
    rw [if_pos h0, one, plainE]
  · rename_i h0
    rw [if_neg h0]
    split at h
    · rename_i h1
      rw [if_pos h1]
      split at h
      · rename_i m v ho
        split at h
        · rename_i ch mk hoc
          simp only [Option.some.injEq] at h; subst h
          simp only [ho, hoc, one, erz_grow hz]
        · cases h
      · cases h
    · cases h

section
variable {σ : St}
/-- Some slots and chunks are forgotten. -/
theorem imp_weak {σ' : St} (hs : ∀ i, σ'.s i = σ.s i ∨ σ'.s i = .d .any) (hh : ∀ i, σ'.h i = σ.h i ∨ σ'.h i = .dead) : Imp σ σ' := fun c κ φ a w hr => by
  classical
  refine ⟨κ, fun i => if σ'.h i = σ.h i then φ i else [], ?_⟩
  have hsub : ∀ i b, b ∈ (if σ'.h i = σ.h i then φ i else []) → b ∈ φ i := fun i b hb => by
    split at hb
    · exact hb
    · simp at hb
  have hext : Ext w (own c φ) w (own c fun i => if σ'.h i = σ.h i then φ i else []) := Ext.shrink fun b hb => by
    rcases hb with hb | ⟨i, hb⟩
    · exact .inl hb
    · exact .inr ⟨i, hsub i b hb⟩
  have hslot : ∀ i v, RepS w (own c φ) κ (σ.s i) v → RepS w (own c fun i => if σ'.h i = σ.h i then φ i else []) κ (σ'.s i) v := fun i v hv => by
    rcases hs i with h | h
    · rw [h]; exact hv.ext hext
    · rw [h]; simp only [RepS]; unfold Rep; trivial
  refine ⟨hr.chg, hr.size, hr.m0, hr.ntmps, hr.defers, hr.kok, fun i hi => hslot i _ (hr.slots i hi), fun i v hv => hslot _ v (hr.ghost i v hv), fun i => ?_, fun i b hb => hr.mine i b (hsub i b hb), fun i => ?_, fun i j b hij hi hj => hr.sep i j b hij (hsub i b hi) (hsub j b hj)⟩
  · by_cases h : σ'.h i = σ.h i
    · simp only [h, if_true]; exact (hr.chunks i).ext hext (fun _ _ => rfl)
    · rcases hh i with h' | h'
      · exact absurd h' h
      · simp only [h, if_false]; rw [h']; rfl
  · split
    · exact hr.nod i
    · simp
end

/-- One step of the walk in the order of the text. -/
def Stp (P : Program) (so : SO) (σ σ' : St) : Prop :=
  match so with
  | .x d op late => ∃ p, wr σ d op = some (p, σ') ∧ p ∧ Rer σ' late
  | .q d f args late => ∃ fid as res, ev σ.s f = .d (.fn fid []) ∧ SV.toDVs (args.map (ev σ.s)) = some as ∧ FSpec P fid (as.map .d) res (as.map .d) ∧ res.closed = true ∧ takes σ [] (some d) res = some σ' ∧ Rer σ' late
  | so => ∃ d v, dstO so = some d ∧ YS P σ.h so σ.s v ∧ σ' = ⟨upd σ.s d v, σ.h⟩

theorem Stp_read {P : Program} {so : SO} {σ σ' : St} (hx : isX so = false) (h : Stp P so σ σ') : ∃ d v, dstO so = some d ∧ YS P σ.h so σ.s v ∧ σ' = ⟨upd σ.s d v, σ.h⟩ := by
  cases so <;> first | exact h | simp [isX] at hx

theorem AO_Stp {P : Program} {K : St → Prop} {so : SO} {σ : St} (hok : okE so = true) (h : AO P so σ K) : ∃ σ', Stp P so σ σ' ∧ K σ' := by
  by_cases hx : isX so = true
  · cases so <;> simp [isX] at hx
    · rename_i d op late
      simp only [AO] at h
      split at h
      · rename_i p σ' hw; exact ⟨σ', ⟨p, hw, h.1, h.2.1⟩, h.2.2⟩
      · exact h.elim
    · rename_i d f args late
      obtain ⟨fid, as, res, σ', h1, h2, h3, h4, h5, h6, h7⟩ := h
      exact ⟨σ', ⟨fid, as, res, h1, h2, h3, h4, h5, h6⟩, h7⟩
  · simp only [Bool.not_eq_true] at hx
    simp only [okE, hx, Bool.false_or, Option.isSome_iff_exists] at hok
    obtain ⟨d, hd⟩ := hok
    obtain ⟨v, hv, hk⟩ := AO_YS hd h
    refine ⟨_, ?_, hk⟩
    cases so <;> first | exact ⟨d, v, hd, hv, rfl⟩ | simp [isX] at hx

theorem trace_E {P : Program} {K : St → Prop} : ∀ (sos : List SO) (σ : St), (∀ so ∈ sos, okE so = true) → AOps P K sos σ → ∃ S : Nat → St, S 0 = σ ∧ (∀ (j : Nat) (so : SO), sos[j]? = some so → Stp P so (S j) (S (j + 1))) ∧ K (S sos.length)
  | [], σ, _, h => ⟨fun _ => σ, rfl, by simp, h⟩
  | so :: sos, σ, hok, h => by
    simp only [AOps] at h
    obtain ⟨σ', h1, h2⟩ := AO_Stp (hok so (by simp)) h
    obtain ⟨S, h3, h4, h5⟩ := trace_E sos σ' (fun s hs => hok s (by simp [hs])) h2
    refine ⟨fun j => match j with | 0 => σ | j + 1 => S j, rfl, fun j s hj => ?_, by simpa using h5⟩
    cases j with
    | zero => simp at hj; subst hj; simpa [h3] using h1
    | succ j => exact h4 j s (by simpa using hj)

mutual
theorem firm_rep (id : Nat) : ∀ v : SV, (repV id .any v).firm = true → repV id .any v = v
  | .d v, _ => rfl
  | .nils, _ => rfl
  | .lit sz n cs, h => by
    simp only [repV, SV.firm] at h ⊢
    rw [firms_rep id cs h]
  | .agg cs, h => by
    simp only [repV, SV.firm] at h ⊢
    rw [firms_rep id cs h]
  | .tup cs, h => by simp [repV, SV.firm] at h
  | .ref i off, h => by
    by_cases hi : i = id
    · simp [repV, hi, SV.firm] at h
    · simp [repV, hi]
  | .vec i, h => by
    by_cases hi : i = id
    · simp [repV, hi, SV.firm] at h
    · simp [repV, hi]
  | .vref i a b off, h => by
    by_cases hi : i = id
    · simp [repV, hi, SV.firm] at h
    · simp [repV, hi]
  | .mp i, h => by
    by_cases hi : i = id
    · simp [repV, hi, SV.firm] at h
    · simp [repV, hi]
  | .own m v, _ => rfl
theorem firms_rep (id : Nat) : ∀ l : List SV, SV.firms (repL id .any l) = true → repL id .any l = l
  | [], _ => rfl
  | c :: cs, h => by
    simp only [repL, SV.firms, Bool.and_eq_true] at h ⊢
    rw [firm_rep id c h.1, firms_rep id cs h.2]
end
mutual
theorem firm_keep (id : Nat) : ∀ v : SV, v.firm = true → repV id .any v = v
  | .d v, _ => rfl
  | .nils, _ => rfl
  | .lit sz n cs, h => by
    simp only [repV, SV.firm] at h ⊢
    rw [firms_keep id cs h]
  | .agg cs, h => by
    simp only [repV, SV.firm] at h ⊢
    rw [firms_keep id cs h]
  | .tup cs, h => by simp [SV.firm] at h
  | .ref i off, h => by simp [SV.firm] at h
  | .vec i, h => by simp [SV.firm] at h
  | .vref i a b off, h => by simp [SV.firm] at h
  | .mp i, h => by simp [SV.firm] at h
  | .own m v, h => by simp [SV.firm] at h
theorem firms_keep (id : Nat) : ∀ l : List SV, SV.firms l = true → repL id .any l = l
  | [], _ => rfl
  | c :: cs, h => by
    simp only [SV.firms, Bool.and_eq_true] at h
    simp only [repL]
    rw [firm_keep id c h.1, firms_keep id cs h.2]
end
/-- What is data is kept. -/
def firmS (s : Nat → SV) : Nat → SV := fun t => if (s t).firm = true then s t else .d .any
theorem firmS_rep (s : Nat → SV) (i t : Nat) : repV i .any (firmS s t) = firmS s t := by
  unfold firmS
  split
  · rename_i h; exact firm_keep i _ h
  · rfl
theorem firmS_or (s : Nat → SV) (t : Nat) : firmS s t = .d .any ∨ (firmS s t = s t ∧ (s t).firm = true) := by
  unfold firmS
  split
  · rename_i h; exact .inr ⟨rfl, h⟩
  · exact .inl rfl
theorem erz_weak (s : Nat → SV) (U : Nat → Prop) (t : Nat) : erz (firmS s) U s t = s t ∨ erz (firmS s) U s t = .d .any := by
  by_cases h : U t
  · rw [erz_in h]
    rcases firmS_or s t with h | h
    · exact .inr h
    · exact .inl h.1
  · exact .inl (erz_not h)
/-- Operations that read data alone. -/
def firmOp : ROp → Bool
  | .sslc _ _ _ => true
  | _ => false
def firmO : SO → Bool
  | .r _ op => firmOp op
  | _ => false
def isR : SO → Bool
  | .r _ _ => true
  | _ => false
/-- Slot n is told to be data. -/
def lateF (n : Nat) : List (Nat × Nat × ROp) → Bool
  | [] => false
  | (_, _, .cl _ [n']) :: l => n' == n || lateF n l
  | _ :: l => lateF n l
def lateM (op : ROp) (l : List (Nat × Nat × ROp)) : Bool :=
  match op with
  | .mv (.t n) => lateF n l
  | _ => false
theorem evN_firm {s : Nat → SV} {n : Nat} {a : Option Int} (h : evN s (some (.t n)) = some a) : (s n).firm = true := by
  simp only [evN, ev] at h
  split at h
  · rename_i h1; rw [h1]; rfl
  · cases h
theorem rd_firm {h : Nat → Ch} {s : Nat → SV} {op : ROp} {p : Prop} {v : SV} (hr : rd h s op = some (p, v)) (hf : firmOp op = true) {n : Nat} (hn : .t n ∈ xsR op) : (s n).firm = true := by
  cases op <;> simp only [firmOp, Bool.false_eq_true] at hf
  rename_i x lo hi
  simp only [rd] at hr
  split at hr
  · rename_i l a b h1 h2 h3
    simp only [xsR, List.mem_cons, List.mem_append, Option.mem_toList, Option.mem_def] at hn
    rcases hn with rfl | rfl | rfl
    · have : s n = .d (.str l) := h1
      rw [this]; rfl
    · exact evN_firm h2
    · exact evN_firm h3
  · cases hr

mutual
theorem firm_toDV : ∀ v : SV, v.firm = true → ∃ d, v.toDV = some d
  | .d v, _ => ⟨v, rfl⟩
  | .nils, _ => ⟨_, rfl⟩
  | .lit sz n cs, h => by
    obtain ⟨ds, hd⟩ := firms_toDVs cs (by simpa only [SV.firm] using h)
    exact ⟨_, by simp only [SV.toDV, hd]; rfl⟩
  | .agg cs, h => by
    obtain ⟨ds, hd⟩ := firms_toDVs cs (by simpa only [SV.firm] using h)
    exact ⟨_, by simp only [SV.toDV, hd]; rfl⟩
  | .tup cs, h => by simp [SV.firm] at h
  | .ref i off, h => by simp [SV.firm] at h
  | .vec i, h => by simp [SV.firm] at h
  | .vref i a b off, h => by simp [SV.firm] at h
  | .mp i, h => by simp [SV.firm] at h
  | .own m v, h => by simp [SV.firm] at h
theorem firms_toDVs : ∀ l : List SV, SV.firms l = true → ∃ ds, SV.toDVs l = some ds
  | [], _ => ⟨[], rfl⟩
  | c :: cs, h => by
    simp only [SV.firms, Bool.and_eq_true] at h
    obtain ⟨d, hd⟩ := firm_toDV c h.1
    obtain ⟨ds, hds⟩ := firms_toDVs cs h.2
    exact ⟨d :: ds, by simp only [SV.toDVs, hd, hds]⟩
end
theorem firmAll_mem {s : Nat → SV} : ∀ {l : List Nat}, firmAll s l = true → ∀ n ∈ l, (s n).firm = true
  | [], _, n, hn => by cases hn
  | m :: l, h, n, hn => by
    simp only [firmAll, Bool.and_eq_true] at h
    rcases List.mem_cons.1 hn with rfl | hn
    · exact h.1
    · exact firmAll_mem h.2 n hn
/-- What a write does to the other slots. -/
theorem wr_slots {σ σ' : St} {d : Nat} {op : WOp} {p : Prop} (h : wr σ d op = some (p, σ')) {n : Nat} (hn : dstW d op ≠ some n) : σ'.s n = σ.s n ∨ ∃ id, σ'.s n = repV id .any (σ.s n) := by
  have gr : ∀ (id e sz : Nat) (rows : List (List SV)), d ≠ n → (growTo σ d id e sz rows).s n = repV id .any (σ.s n) := fun id e sz rows hd => by
    simp only [growTo, upd, repS]; rw [if_neg (Ne.symm hd)]
  cases op with
  | boxM x =>
    have hd : d ≠ n := fun e => hn (by simp [dstW, e])
    simp only [wr] at h
    split at h
    · simp only [Option.some.injEq, Prod.mk.injEq] at h
      obtain ⟨rfl, rfl⟩ := h
      exact .inr ⟨d, by simp only [upd, repS]; rw [if_neg (Ne.symm hd)]⟩
    · cases h
  | st k x y =>
    simp only [wr] at h
    split at h
    · split at h
      · simp only [Option.some.injEq, Prod.mk.injEq] at h
        obtain ⟨rfl, rfl⟩ := h
        exact .inl rfl
      · cases h
    · split at h
      · split at h
        · simp only [Option.some.injEq, Prod.mk.injEq] at h
          obtain ⟨rfl, rfl⟩ := h
          exact .inl rfl
        · cases h
      · cases h
    · cases h
  | app e sz x y =>
    have hd : d ≠ n := fun e => hn (by simp [dstW, e])
    simp only [wr] at h
    split at h
    · split at h
      · simp only [Option.some.injEq, Prod.mk.injEq] at h
        obtain ⟨rfl, rfl⟩ := h
        exact .inr ⟨_, gr _ _ _ _ hd⟩
      · cases h
    · simp only [Option.some.injEq, Prod.mk.injEq] at h
      obtain ⟨rfl, rfl⟩ := h
      exact .inr ⟨_, gr _ _ _ _ hd⟩
    · simp only [Option.some.injEq, Prod.mk.injEq] at h
      obtain ⟨rfl, rfl⟩ := h
      exact .inr ⟨_, gr _ _ _ _ hd⟩
    · cases h
  | appS e x y =>
    have hd : d ≠ n := fun e => hn (by simp [dstW, e])
    simp only [wr] at h
    split at h
    · split at h
      · simp only [Option.some.injEq, Prod.mk.injEq] at h
        obtain ⟨rfl, rfl⟩ := h
        exact .inr ⟨_, gr _ _ _ _ hd⟩
      · cases h
    · simp only [Option.some.injEq, Prod.mk.injEq] at h
      obtain ⟨rfl, rfl⟩ := h
      exact .inr ⟨_, gr _ _ _ _ hd⟩
    · cases h
  | bldM T e' =>
    have hd : d ≠ n := fun e => hn (by simp [dstW, e])
    simp only [wr, Option.some.injEq, Prod.mk.injEq] at h
    obtain ⟨rfl, rfl⟩ := h
    exact .inr ⟨d, by simp only [upd, repS]; rw [if_neg (Ne.symm hd)]⟩
  | mkmap kk =>
    have hd : d ≠ n := fun e => hn (by simp [dstW, e])
    simp only [wr, Option.some.injEq, Prod.mk.injEq] at h
    obtain ⟨rfl, rfl⟩ := h
    exact .inr ⟨d, by simp only [upd, repS]; rw [if_neg (Ne.symm hd)]⟩
  | mset kk m k v =>
    simp only [wr] at h
    split at h
    · split at h
      · simp only [Option.some.injEq, Prod.mk.injEq] at h
        obtain ⟨rfl, rfl⟩ := h
        exact .inl rfl
      · cases h
    · cases h
  | slM e sz xs =>
    have hd : d ≠ n := fun e => hn (by simp [dstW, e])
    simp only [wr] at h
    split at h
    · simp only [Option.some.injEq, Prod.mk.injEq] at h
      obtain ⟨rfl, rfl⟩ := h
      exact .inr ⟨_, gr _ _ _ _ hd⟩
    · cases h
  | trunc sz x hi =>
    have hd : d ≠ n := fun e => hn (by simp [dstW, e])
    simp only [wr] at h
    split at h
    · split at h
      · simp only [Option.some.injEq, Prod.mk.injEq] at h
        obtain ⟨rfl, rfl⟩ := h
        exact .inr ⟨_, gr _ _ _ _ hd⟩
      · cases h
    · cases h
theorem Stp_slots {P : Program} {so : SO} {σ σ' : St} (h : Stp P so σ σ') {n : Nat} (hn : dstE so ≠ some n) : σ'.s n = σ.s n ∨ ∃ id, σ'.s n = repV id .any (σ.s n) := by
  by_cases hx : isX so = true
  · cases so <;> simp [isX] at hx
    · obtain ⟨p, hw, _, _⟩ := h
      exact wr_slots hw hn
    · rename_i d f args late
      obtain ⟨fid, as, res, _, _, _, _, ht, _⟩ := h
      have hd : d ≠ n := fun e => hn (by simp [dstE, e])
      simp only [takes] at ht
      split at ht
      · simp only [Option.some.injEq] at ht; subst ht
        exact .inl (by simp only [upd]; rw [if_neg (Ne.symm hd)])
      · split at ht
        · split at ht
          · split at ht
            · simp only [Option.some.injEq] at ht; subst ht
              exact .inr ⟨d, by simp only [upd, repS]; rw [if_neg (Ne.symm hd)]⟩
            · cases ht
          · cases ht
        · cases ht
  · simp only [Bool.not_eq_true] at hx
    obtain ⟨d, v, hd, _, rfl⟩ := Stp_read hx h
    have hdE : dstE so = some d := by cases so <;> first | exact hd | simp [isX] at hx
    have : n ≠ d := fun e => hn (by rw [hdE, e])
    exact .inl (by simp only [upd]; rw [if_neg this])
theorem slots_firm {P : Program} {sos : List SO} {S : Nat → St} (hS : ∀ (j : Nat) (so : SO), sos[j]? = some so → Stp P so (S j) (S (j + 1))) {a n : Nat} : ∀ b, a ≤ b → b ≤ sos.length → (∀ i, a ≤ i → i < b → (sos.map dstE)[i]? ≠ some (some n)) → ((S b).s n).firm = true → (S a).s n = (S b).s n := by
  intro b hab hb hn hf
  induction b with
  | zero => obtain rfl : a = 0 := by omega
            rfl
  | succ b ih =>
    by_cases hab' : a = b + 1
    · rw [hab']
    obtain ⟨so, hso⟩ : ∃ so, sos[b]? = some so := ⟨_, List.getElem?_eq_getElem (by omega)⟩
    have hd : dstE so ≠ some n := fun e => hn b (by omega) (by omega) (by simp [hso, e])
    have h1 : (S (b + 1)).s n = (S b).s n := by
      rcases Stp_slots (hS b so hso) hd with h | ⟨id, h⟩
      · exact h
      · rw [h] at hf ⊢; exact firm_rep id _ hf
    rw [h1] at hf ⊢
    exact ih (by omega) (by omega) (fun i hi hi' => hn i hi (by omega)) hf
theorem slots_d {P : Program} {sos : List SO} {S : Nat → St} (hS : ∀ (j : Nat) (so : SO), sos[j]? = some so → Stp P so (S j) (S (j + 1))) {a n : Nat} {v : DV} (hv : (S a).s n = .d v) : ∀ b, a ≤ b → b ≤ sos.length → (∀ i, a ≤ i → i < b → (sos.map dstE)[i]? ≠ some (some n)) → (S b).s n = .d v := by
  intro b hab hb hn
  induction b with
  | zero => obtain rfl : a = 0 := by omega
            exact hv
  | succ b ih =>
    by_cases hab' : a = b + 1
    · rw [← hab']; exact hv
    obtain ⟨so, hso⟩ : ∃ so, sos[b]? = some so := ⟨_, List.getElem?_eq_getElem (by omega)⟩
    have hd : dstE so ≠ some n := fun e => hn b (by omega) (by omega) (by simp [hso, e])
    have h0 := ih (by omega) (by omega) (fun i hi hi' => hn i hi (by omega))
    rcases Stp_slots (hS b so hso) hd with h | ⟨id, h⟩
    · rw [h, h0]
    · rw [h, h0]; rfl
theorem slots_fw {P : Program} {sos : List SO} {S : Nat → St} (hS : ∀ (j : Nat) (so : SO), sos[j]? = some so → Stp P so (S j) (S (j + 1))) {a n : Nat} (hv : ((S a).s n).firm = true) : ∀ b, a ≤ b → b ≤ sos.length → (∀ i, a ≤ i → i < b → (sos.map dstE)[i]? ≠ some (some n)) → (S b).s n = (S a).s n := by
  intro b hab hb hn
  induction b with
  | zero => obtain rfl : a = 0 := by omega
            rfl
  | succ b ih =>
    by_cases hab' : a = b + 1
    · rw [← hab']
    obtain ⟨so, hso⟩ : ∃ so, sos[b]? = some so := ⟨_, List.getElem?_eq_getElem (by omega)⟩
    have hd : dstE so ≠ some n := fun e => hn b (by omega) (by omega) (by simp [hso, e])
    have h0 := ih (by omega) (by omega) (fun i hi hi' => hn i hi (by omega))
    rcases Stp_slots (hS b so hso) hd with h | ⟨id, h⟩
    · rw [h, h0]
    · rw [h, h0]; exact firm_keep id _ hv
/-- A call that a box need not wait for, at data alone. -/
def lateC (sos : List SO) (a : Nat) : List (Nat × Nat × ROp) → Bool
  | [] => false
  | (a', d, .cl t ts) :: l => (a' == a && t == d && (match sos[a]? with
    | some (.c d' (.f _) args) => d' == d && args.all (fun x => match x with | .t n => ts.contains n | .c v => v.toDV.isSome | .f _ => false)
    | _ => false)) || lateC sos a l
  | _ :: l => lateC sos a l

/-- Is operation i a write? -/
def fX (sos : List SO) (i : Nat) : Bool := match sos[i]? with | some so => isX so | none => false

/-- The operands are there before, or are overwritten behind a write that waits. -/
def opnds (kp fo fw : Bool) (all : Array Oper) (sos : List SO) (dl : List (Option Nat)) (j : Nat) (o : Oper) (xs : List SX) : Bool :=
  (tmpsX xs).all fun t => (List.range dl.length).all fun b => dl[b]? != some (some t) || (decide (b < j) && o.after.any (fun e => Region.binds .any e && e.on == b)) ||
    ((List.range b).any fun p => decide (j ≤ p) && fX sos p && (p == j || back all j p [p])) ||
    (kp && fo && decide (j < b) && back all j b [b] && ((List.range sos.length).all fun p => !fX sos p || decide (p < b) || back all j p [p]) && (fw || (List.range b).any fun p => decide (j ≤ p) && fX sos p))

def lateOk (kp : Bool) (l0 : List (Nat × Nat × ROp)) (P : Program) (N : Nat) (all : Array Oper) (sos : List SO) (dl : List (Option Nat)) (a : Nat) : List (Nat × Nat × ROp) → Bool
  | [] => false
  | (a', d, op) :: l => (a' == a && dl[a]? == some (some d) && (match all[a]? with
    | some o => (match op with
      | .gd t want op' => matchO P N all o (.g t want (some d) (.r d op')) && opnds kp (firmOp op' || lateM op' l0) true all sos dl a o (.t t :: xsR op')
      | op => o.guard == none && matchU P N o (.r d op) && opnds kp (firmOp op || lateM op l0) true all sos dl a o (xsR op))
    | none => false)) || lateOk kp l0 P N all sos dl a l

def lateOf : SO → List (Nat × Nat × ROp)
  | .x _ _ l => l
  | .q _ _ _ l => l
  | _ => []

def ord1 (kp : Bool) (P : Program) (N : Nat) (all : Array Oper) (sos : List SO) (dl : List (Option Nat)) (j : Nat) (o : Oper) (so : SO) : Bool :=
  okE so && o.after.all (fun e => !Region.binds .any e || decide (e.on < j)) && opnds kp (isR so) (firmO so) all sos dl j o (xsE so) &&
  (List.range dl.length).all (fun b => b == j || dl[b]? != dl[j]? || dl[j]? == some none) &&
  (List.range j).all (fun p => match sos[p]? with
    | some sp => if isX sp then back all p j [j] else (!isX so || back all p j [j] || lateOk kp (lateOf so) P N all sos dl p (lateOf so) || lateC sos p (lateOf so))
    | none => false)

def ordK (kp : Bool) (P : Program) (N : Nat) (all : Array Oper) (sos : List SO) (dl : List (Option Nat)) : Nat → List Oper → List SO → Bool
  | _, [], [] => true
  | j, o :: ops, so :: l => ord1 kp P N all sos dl j o so && ordK kp P N all sos dl (j + 1) ops l
  | _, _, _ => false
abbrev ordL := ordK false

theorem ordL_get {kp : Bool} {P : Program} {N : Nat} {all : Array Oper} {sos : List SO} {dl : List (Option Nat)} : ∀ {ops : List Oper} {l : List SO} {k : Nat}, ordK kp P N all sos dl k ops l = true → ∀ (j : Nat) (o : Oper) (so : SO), ops[j]? = some o → l[j]? = some so → ord1 kp P N all sos dl (k + j) o so = true
  | [], [], k, h, j, o, so, ho, hs => by simp at ho
  | o' :: ops, so' :: l, k, h, j, o, so, ho, hs => by
    simp only [ordK, Bool.and_eq_true] at h
    cases j with
    | zero => simp at ho hs; subst ho hs; exact h.1
    | succ j =>
      have := ordL_get h.2 j o so (by simpa using ho) (by simpa using hs)
      rw [show k + (j + 1) = k + 1 + j by omega]; exact this
  | [], _ :: _, k, h, _, _, _, _, _ => by simp [ordK] at h
  | _ :: _, [], k, h, _, _, _, _, _ => by simp [ordK] at h

theorem opnds_spec {kp fo fw : Bool} {all : Array Oper} {sos : List SO} {dl : List (Option Nat)} {j : Nat} {o : Oper} {xs : List SX} (h : opnds kp fo fw all sos dl j o xs = true) {t : Nat} (ht : .t t ∈ xs) {b : Nat} (hb : dl[b]? = some (some t)) :
    (b < j ∧ ∃ e ∈ o.after, Region.binds .any e = true ∧ e.on = b) ∨ (∃ p, p < b ∧ j ≤ p ∧ fX sos p = true ∧ (p = j ∨ back all j p [p] = true)) ∨
      (kp = true ∧ fo = true ∧ j < b ∧ back all j b [b] = true ∧ (fw = true ∨ ∃ p, j ≤ p ∧ p < b ∧ fX sos p = true) ∧ ∀ p, p < sos.length → fX sos p = true → p < b ∨ back all j p [p] = true) := by
  have h1 := List.all_eq_true.1 h t (List.mem_filterMap.2 ⟨.t t, ht, rfl⟩)
  have h2 := List.all_eq_true.1 h1 b (List.mem_range.2 (List.getElem?_eq_some_iff.1 hb).1)
  simp only [hb, bne_self_eq_false, Bool.false_or, Bool.or_eq_true, Bool.and_eq_true, decide_eq_true_eq] at h2
  rcases h2 with (h2 | h2) | h2
  · obtain ⟨e, he, hb'⟩ := Array.any_eq_true'.1 h2.2
    simp only [Bool.and_eq_true, beq_iff_eq] at hb'
    exact .inl ⟨h2.1, e, he, hb'.1, hb'.2⟩
  · obtain ⟨p, hp, hp'⟩ := List.any_eq_true.1 h2
    simp only [Bool.and_eq_true, Bool.or_eq_true, decide_eq_true_eq, beq_iff_eq] at hp'
    exact .inr (.inl ⟨p, List.mem_range.1 hp, hp'.1.1, hp'.1.2, hp'.2⟩)
  · obtain ⟨⟨⟨⟨⟨k1, k2⟩, k3⟩, k4⟩, k5⟩, k6⟩ := h2
    refine .inr (.inr ⟨k1, k2, k3, k4, ?_, fun p hp hx => ?_⟩)
    · rcases k6 with k6 | k6
      · exact .inl k6
      · obtain ⟨p, hp, hp'⟩ := List.any_eq_true.1 k6
        simp only [Bool.and_eq_true, decide_eq_true_eq] at hp'
        exact .inr ⟨p, hp'.1, List.mem_range.1 hp, hp'.2⟩
    have := List.all_eq_true.1 k5 p (List.mem_range.2 hp)
    simpa [hx] using this

theorem lateF_spec {σ : St} {n : Nat} : ∀ {l : List (Nat × Nat × ROp)}, lateF n l = true → Rer σ l → (σ.s n).firm = true
  | [], h, _ => by simp [lateF] at h
  | (a, d, op) :: l, h, hr => by
    simp only [Rer] at hr
    unfold lateF at h
    split at h
    · cases h
    · rename_i heq
      simp only [List.cons.injEq, Prod.mk.injEq] at heq
      obtain ⟨⟨rfl, rfl, rfl⟩, rfl⟩ := heq
      simp only [Bool.or_eq_true, beq_iff_eq] at h
      rcases h with rfl | h
      · have h0 := hr.1
        simp only [rdG, rd] at h0
        split at h0
        · rename_i heq2
          split at heq2
          · rename_i hfa; simpa [firmAll] using hfa
          · cases heq2
        · exact h0.elim
      · exact lateF_spec h hr.2
    · rename_i heq
      simp only [List.cons.injEq] at heq
      obtain ⟨rfl, rfl⟩ := heq
      exact lateF_spec h hr.2
theorem lateM_spec {σ : St} {op : ROp} {l : List (Nat × Nat × ROp)} (h : lateM op l = true) (hr : Rer σ l) {n : Nat} (hn : .t n ∈ xsR op) : (σ.s n).firm = true := by
  unfold lateM at h
  split at h
  · simp only [xsR, List.mem_singleton, SX.t.injEq] at hn
    subst hn
    exact lateF_spec h hr
  · cases h
theorem bne_not {a b : Bool} (h : ¬ a = b) : a = !b := by cases a <;> cases b <;> first | rfl | exact absurd rfl h
theorem lateOk_spec {kp : Bool} {l0 : List (Nat × Nat × ROp)} {P : Program} {N : Nat} {all : Array Oper} {sos : List SO} {dl : List (Option Nat)} {a : Nat} {σ : St} : ∀ {l : List (Nat × Nat × ROp)}, lateOk kp l0 P N all sos dl a l = true → Rer σ l →
    ∃ d op o, dl[a]? = some (some d) ∧ all[a]? = some o ∧
      ((o.guard = none ∧ matchU P N o (.r d op) = true ∧ opnds kp (firmOp op || lateM op l0) true all sos dl a o (xsR op) = true ∧ ∃ p, rd σ.h σ.s op = some (p, σ.s d) ∧ p) ∨
       (∃ t want, matchO P N all o (.g t want (some d) (.r d op)) = true ∧ opnds kp (firmOp op || lateM op l0) true all sos dl a o (.t t :: xsR op) = true ∧ ∃ p, rdG σ.h σ.s (.gd t want op) = some (p, σ.s d) ∧ p))
  | [], h, _ => by simp [lateOk] at h
  | (a', d, op) :: l, h, hr => by
    simp only [lateOk, Bool.or_eq_true, Bool.and_eq_true, beq_iff_eq] at h
    simp only [Rer] at hr
    rcases h with ⟨⟨rfl, h1⟩, h2⟩ | h
    · split at h2
      · rename_i o ho
        obtain ⟨hr1, _⟩ := hr
        split at hr1
        · rename_i p v hrd
          obtain ⟨hp, rfl⟩ := hr1
          split at h2
          · rename_i t want op'
            simp only [Bool.and_eq_true] at h2
            exact ⟨d, op', o, h1, ho, .inr ⟨t, want, h2.1, h2.2, p, hrd, hp⟩⟩
          · rename_i hng
            simp only [Bool.and_eq_true, beq_iff_eq] at h2
            have hrd' : rd σ.h σ.s op = some (p, σ.s d) := by
              cases op <;> first | exact hrd | exact absurd rfl (hng _ _ _)
            exact ⟨d, op, o, h1, ho, .inl ⟨h2.1.1, h2.1.2, h2.2, p, hrd', hp⟩⟩
        · exact hr1.elim
      · cases h2
    · exact lateOk_spec h hr.2

theorem lateC_spec {sos : List SO} {a : Nat} {σ : St} : ∀ {l : List (Nat × Nat × ROp)}, lateC sos a l = true → Rer σ l → ∃ d fid args ts, sos[a]? = some (.c d (.f fid) args) ∧ (∀ x ∈ args, (∃ n, x = .t n ∧ n ∈ ts) ∨ ∃ v, x = .c v ∧ v.toDV.isSome = true) ∧ firmAll σ.s ts = true
  | [], h, _ => by simp [lateC] at h
  | (a', d, op) :: l, h, hr => by
    simp only [Rer] at hr
    cases op with
    | cl t ts =>
      simp only [lateC, Bool.or_eq_true, Bool.and_eq_true, beq_iff_eq] at h
      rcases h with ⟨_, h⟩ | h
      · split at h
        · rename_i d' fid args hs
          simp only [Bool.and_eq_true, beq_iff_eq, List.all_eq_true] at h
          refine ⟨d', fid, args, ts, hs, fun x hx => ?_, ?_⟩
          · have := h.2 x hx
            cases x with
            | t n => exact .inl ⟨n, rfl, by simpa using this⟩
            | c v => exact .inr ⟨v, rfl, this⟩
            | f i => cases this
          · have h0 := hr.1
            simp only [rdG, rd] at h0
            by_cases hf : firmAll σ.s ts = true
            · exact hf
            · simp [hf] at h0
        · cases h
      · exact lateC_spec h hr.2
    | _ => exact lateC_spec (by simpa only [lateC] using h) hr.2
theorem nextX (f : Nat → Bool) (n : Nat) : ∀ k, k ≤ n → ∃ M, k ≤ M ∧ M ≤ n ∧ (∀ i, k ≤ i → i < M → f i = false) ∧ (M = n ∨ (M < n ∧ f M = true)) := by
  intro k hk
  obtain ⟨m, hm⟩ : ∃ m, m = n - k := ⟨_, rfl⟩
  induction m generalizing k with
  | zero => exact ⟨k, Nat.le_refl _, hk, fun i h1 h2 => by omega, .inl (by omega)⟩
  | succ m ih =>
    by_cases hf : f k = true
    · exact ⟨k, Nat.le_refl _, hk, fun i h1 h2 => by omega, .inr ⟨by omega, hf⟩⟩
    · obtain ⟨M, h1, h2, h3, h4⟩ := ih (k + 1) (by omega) (by omega)
      refine ⟨M, by omega, h2, fun i h5 h6 => ?_, h4⟩
      by_cases hik : i = k
      · subst hik; simpa using hf
      · exact h3 i (by omega) h6

theorem lastX (f : Nat → Bool) (k : Nat) : ∀ M, k ≤ M → (∀ i, k ≤ i → i < M → f i = false) ∨ ∃ p, k ≤ p ∧ p < M ∧ f p = true ∧ ∀ i, p < i → i < M → f i = false := by
  intro M hM
  induction M with
  | zero => exact .inl fun i h1 h2 => by omega
  | succ M ih =>
    by_cases hk : k = M + 1
    · exact .inl fun i h1 h2 => by omega
    · by_cases hf : f M = true
      · exact .inr ⟨M, by omega, by omega, hf, fun i h1 h2 => by omega⟩
      · rcases ih (by omega) with h | ⟨p, h1, h2, h3, h4⟩
        · refine .inl fun i h1 h2 => ?_
          by_cases hi : i = M
          · subst hi; simpa using hf
          · exact h i h1 (by omega)
        · refine .inr ⟨p, h1, by omega, h3, fun i h5 h6 => ?_⟩
          by_cases hi : i = M
          · subst hi; simpa using hf
          · exact h4 i h5 (by omega)

section
variable {P : Program} {c : Cx}

theorem quiet {sos : List SO} {S : Nat → St} (hS : ∀ (j : Nat) (so : SO), sos[j]? = some so → Stp P so (S j) (S (j + 1))) {a : Nat} : ∀ b, a ≤ b → b ≤ sos.length → (∀ i, a ≤ i → i < b → fX sos i = false) →
    (S b).h = (S a).h ∧ ∀ t, (∀ i, a ≤ i → i < b → (sos.map dstE)[i]? ≠ some (some t)) → (S b).s t = (S a).s t := by
  intro b hab hb hf
  induction b with
  | zero => obtain rfl : a = 0 := by omega
            exact ⟨rfl, fun _ _ => rfl⟩
  | succ b ih =>
    by_cases hab' : a = b + 1
    · subst hab'; exact ⟨rfl, fun _ _ => rfl⟩
    obtain ⟨h1, h2⟩ := ih (by omega) (by omega) (fun i hi hi' => hf i hi (by omega))
    obtain ⟨so, hso⟩ : ∃ so, sos[b]? = some so := ⟨_, List.getElem?_eq_getElem (by omega)⟩
    have hx : isX so = false := by have := hf b (by omega) (by omega); simpa [fX, hso] using this
    obtain ⟨d, v, hd, _, he⟩ := Stp_read hx (hS b so hso)
    have hdE : dstE so = some d := by cases so <;> first | exact hd | simp [isX] at hx
    rw [he]
    refine ⟨h1, fun t ht => ?_⟩
    have hne : t ≠ d := fun e => by
      subst e
      exact ht b (by omega) (by omega) (by simp [hso, hdE])
    simp only [upd_ne _ _ _ _ hne]
    exact h2 t fun i hi hi' => ht i hi (by omega)

/-- The slots whose operation is still to come. -/
def toCome (dl : List (Option Nat)) (M : Nat) (L : Nat → Bool) (t : Nat) : Prop := ∃ i : Nat, i < M ∧ dl[i]? = some (some t) ∧ L i = false

theorem anyE_sound {ops : Array Oper} {sos : List SO} {S : Nat → St} {K : St → Prop} {Q : Exit → Act → World → Prop}
    (hQ : ∀ σ' κ' φ' a' w', Ref c σ' κ' φ' a' w' → K σ' → Q .normal a' w') (hm : matchOps P c.N ops ops.toList sos = true) {kp : Bool} {z : Nat → SV} (hz : ∀ i t, repV i .any (z t) = z t) (hzk : kp = true → ∀ t, ((S 0).s t).firm = true → z t = (S 0).s t) (hzw : ∀ t, z t = .d .any ∨ (z t = (S 0).s t ∧ ((S 0).s t).firm = true)) (hord : ordK kp P c.N ops sos (sos.map dstE) 0 ops.toList sos = true)
    (hS : ∀ (j : Nat) (so : SO), sos[j]? = some so → Stp P so (S j) (S (j + 1))) (hK : K (S sos.length)) :
    ∀ (fuel : Nat) (listed : Array Bool) (M : Nat) (κ : Nat → Value) (φ : Nat → List Nat) (a : Act) (w : World), listed.size = ops.size → (unl ops.size listed).length = fuel →
      (∀ (i : Nat) o, listed.getD i false = true → ops[i]? = some o → ∀ e ∈ o.after, Region.binds .any e = true → listed.getD e.on false = true) →
      M ≤ sos.length → (∀ i, i < M → fX sos i = true → listed.getD i false = true) → (M = sos.length ∨ (M < sos.length ∧ fX sos M = true)) → (∀ i, M ≤ i → listed.getD i false = false) →
      Ref c ⟨erz z (toCome (sos.map dstE) M (fun i => listed.getD i false)) (S M).s, (S M).h⟩ κ φ a w →
      wpAny P .any ops Q fuel listed a w := by
  obtain ⟨hml, hmo⟩ := matchOps_get hm
  have hlen : sos.length = ops.size := by simp at hml; omega
  have hget : ∀ j, j < ops.size → ∃ so, sos[j]? = some so := fun j hj => ⟨_, List.getElem?_eq_getElem (by omega)⟩
  have hdl : ∀ (j : Nat) so, sos[j]? = some so → (sos.map dstE)[j]? = some (dstE so) := fun j so h => by simp [h]
  have hord1 : ∀ (j : Nat) o so, ops[j]? = some o → sos[j]? = some so → ord1 kp P c.N ops sos (sos.map dstE) j o so = true := fun j o so ho hso => by
    have := ordL_get hord j o so (by simpa using ho) hso
    simpa using this
  have hedges : ∀ (j : Nat) o so, ops[j]? = some o → sos[j]? = some so → ∀ e ∈ o.after, Region.binds .any e = true → e.on < j := fun j o so ho hso e he hb => by
    have := hord1 j o so ho hso
    simp only [ord1, Bool.and_eq_true] at this
    have := Array.all_eq_true_iff_forall_mem.1 this.1.1.1.2 e he
    simpa [hb] using this
  have huniq : ∀ (j b : Nat) t, (sos.map dstE)[j]? = some (some t) → (sos.map dstE)[b]? = some (some t) → b = j := fun j b t hj hb => by
    have hjl : j < sos.length := by have := (List.getElem?_eq_some_iff.1 hj).1; simpa using this
    have hbl : b < (sos.map dstE).length := (List.getElem?_eq_some_iff.1 hb).1
    obtain ⟨so, hso⟩ := hget j (by omega)
    have := hord1 j ops[j] so (Array.getElem?_eq_getElem (by omega)) hso
    simp only [ord1, Bool.and_eq_true] at this
    have := List.all_eq_true.1 this.1.2 b (List.mem_range.2 hbl)
    simpa [hj, hb] using this
  have hafter : ∀ (p j : Nat), p < j → j < sos.length → fX sos p = true → back ops p j [j] = true := fun p j hpj hj hp => by
    obtain ⟨so, hso⟩ := hget j (by omega)
    obtain ⟨sp, hsp⟩ := hget p (by omega)
    have := hord1 j ops[j] so (Array.getElem?_eq_getElem (by omega)) hso
    simp only [ord1, Bool.and_eq_true] at this
    have := List.all_eq_true.1 this.2 p (List.mem_range.2 hpj)
    have hx : isX sp = true := by simpa [fX, hsp] using hp
    simpa [hsp, hx] using this
  -- when nothing is left, all has been done
  have fin : ∀ (listed : Array Bool) (M : Nat) (κ : Nat → Value) (φ : Nat → List Nat) (a : Act) (w : World), listed.size = ops.size → (M = sos.length ∨ (M < sos.length ∧ fX sos M = true)) → (∀ i, M ≤ i → listed.getD i false = false) →
      Ref c ⟨erz z (toCome (sos.map dstE) M (fun i => listed.getD i false)) (S M).s, (S M).h⟩ κ φ a w → Region.ready .any ops listed = [] → Q .normal a w := by
    intro listed M κ φ a w hls hM hun hr hready
    have all : ∀ j, j < ops.size → listed.getD j false = true := by
      intro j
      induction j using Nat.strongRecOn with
      | _ j ih =>
        intro hj
        by_cases hl : listed.getD j true = false
        · exfalso
          have ho : ops[j]? = some ops[j] := Array.getElem?_eq_getElem hj
          obtain ⟨so, hso⟩ := hget j hj
          have hx := hedges j ops[j] so ho hso
          have : j ∈ Region.ready .any ops listed := mem_ready.2 ⟨hl, ops[j], ho, fun e he hb => ih e.on (hx e he hb) (by have := hx e he hb; omega)⟩
          rw [hready] at this; simp at this
        · have hj' : j < listed.size := by omega
          simp [hj'] at hl ⊢
          exact hl
    have hMn : M = sos.length := by
      rcases hM with h | ⟨h, _⟩
      · exact h
      · have h1 := all M (by omega)
        rw [hun M (Nat.le_refl _)] at h1; cases h1
    refine hQ _ _ _ _ _ hr ?_
    have : erz z (toCome (sos.map dstE) M (fun i => listed.getD i false)) (S M).s = (S M).s := by
      funext t
      refine erz_not fun ⟨i, _, h1, h2⟩ => ?_
      have hil : i < sos.length := by have := (List.getElem?_eq_some_iff.1 h1).1; simpa using this
      simp only [all i (by omega)] at h2; cases h2
    rw [this, hMn]; exact hK
  intro fuel
  induction fuel with
  | zero =>
    intro listed M κ φ a w hls hu _ _ _ hM hun hr
    have hready : Region.ready .any ops listed = [] := by
      cases hrd : Region.ready .any ops listed with
      | nil => rfl
      | cons i l =>
        exfalso
        have hi : i ∈ Region.ready .any ops listed := by rw [hrd]; simp
        obtain ⟨h0, o, ho, _⟩ := mem_ready.1 hi
        have : i ∈ unl ops.size listed := by simp only [unl, List.mem_filter, List.mem_range, h0, Bool.not_false, and_true]; exact (Array.getElem?_eq_some_iff.1 ho).1
        rw [List.length_eq_zero_iff.1 hu] at this; simp at this
    exact ⟨hready, fin listed M κ φ a w hls hM hun hr hready⟩
  | succ fuel ih =>
    intro listed M κ φ a w hls hu hcl hMn hbef hM hun hr
    refine ⟨fin listed M κ φ a w hls hM hun hr, fun j hj => ?_⟩
    obtain ⟨h0, o, ho, hedge⟩ := mem_ready.1 hj
    have hjlt : j < ops.size := (Array.getElem?_eq_some_iff.1 ho).1
    obtain ⟨so, hso⟩ := hget j hjlt
    have hnl : listed.getD j false = false := by
      simp only [Array.getD_eq_getD_getElem?] at h0 ⊢
      have : j < listed.size := by omega
      simpa [this] using h0
    have hcl' := closed_set hcl ho hedge (by omega)
    have hli : (unl ops.size (listed.setIfInBounds j true)).length = fuel := by
      have := unl_set hjlt hls h0
      omega
    have hL' : ∀ i, (listed.setIfInBounds j true).getD i false = (listed.getD i false || i == j) := fun i => by
      by_cases hij : j = i
      · subst hij; simp [hls, hjlt]
      · rw [getD_set_ne false hij]; simp [Ne.symm hij]
    -- it does not stand behind the next write
    have hjM : j ≤ M := by
      rcases Nat.lt_or_ge M j with hlt | hle
      · exfalso
        rcases hM with h | ⟨h, hx⟩
        · omega
        · have h1 := hafter M j hlt (by omega) hx
          have h2 := back_sound hcl' j [j] (by simp [hL']) h1
          rw [hL', hun M (Nat.le_refl _)] at h2
          simp at h2
          omega
      · exact hle
    have hop := hord1 j o so ho hso
    -- an operand has been read
    have operand2 : ∀ (xs : List SX) (fo fw : Bool), opnds kp fo fw ops sos (sos.map dstE) j o xs = true → ∀ t, .t t ∈ xs → (¬ toCome (sos.map dstE) M (fun i => listed.getD i false) t ∧ ∀ b : Nat, (sos.map dstE)[b]? = some (some t) → b < j ∨ M ≤ b) ∨
        (kp = true ∧ fo = true ∧ ∃ b : Nat, (sos.map dstE)[b]? = some (some t) ∧ j < b ∧ b < M ∧ listed.getD b false = false ∧ (fw = true ∨ ∃ p, j ≤ p ∧ p < b ∧ fX sos p = true) ∧ ∀ p, p < M → fX sos p = true → p < b) := fun xs fo fw hxs t ht => by
      have hlate : ∀ b p : Nat, p < b → j ≤ p → fX sos p = true → (p = j ∨ back ops j p [p] = true) → M ≤ b := fun b p h1 h2 h3 h4 => by
        rcases Nat.lt_or_ge b M with hlt | hge
        · exfalso
          have hlp := hbef p (by omega) h3
          rcases h4 with rfl | h4
          · rw [hnl] at hlp; cases hlp
          · have := back_sound hcl p [p] (by simpa using hlp) h4
            rw [hnl] at this; cases this
        · exact hge
      by_cases hb3 : ∃ b : Nat, (sos.map dstE)[b]? = some (some t) ∧ kp = true ∧ fo = true ∧ j < b ∧ back ops j b [b] = true ∧ b < M ∧ (fw = true ∨ ∃ p, j ≤ p ∧ p < b ∧ fX sos p = true) ∧ ∀ p, p < sos.length → fX sos p = true → p < b ∨ back ops j p [p] = true
      · obtain ⟨b, hb, k1, k2, k3, k4, k5, k7, k6⟩ := hb3
        refine .inr ⟨k1, k2, b, hb, k3, k5, ?_, k7, fun p hp hx => ?_⟩
        · by_cases hlb : listed.getD b false = true
          · have := back_sound hcl b [b] (by simpa using hlb) k4
            rw [hnl] at this; cases this
          · simpa using hlb
        · rcases k6 p (by omega) hx with h | h
          · exact h
          · have := back_sound hcl p [p] (by simpa using hbef p hp hx) h
            rw [hnl] at this; cases this
      · refine .inl ⟨fun ⟨b, hb0, hb1, hb2⟩ => ?_, fun b hb => ?_⟩
        · rcases opnds_spec hxs ht hb1 with ⟨_, e, he, hbd, rfl⟩ | ⟨p, h1, h2, h3, h4⟩ | ⟨k1, k2, k3, k4, k7, k5⟩
          · simp only [hedge e he hbd] at hb2; cases hb2
          · have := hlate b p h1 h2 h3 h4; omega
          · exact hb3 ⟨b, hb1, k1, k2, k3, k4, hb0, k7, k5⟩
        · rcases opnds_spec hxs ht hb with ⟨h, _⟩ | ⟨p, h1, h2, h3, h4⟩ | ⟨k1, k2, k3, k4, k7, k5⟩
          · exact .inl h
          · exact .inr (hlate b p h1 h2 h3 h4)
          · refine .inr ?_
            rcases Nat.lt_or_ge b M with hlt | hge
            · exact absurd ⟨b, hb, k1, k2, k3, k4, hlt, k7, k5⟩ hb3
            · exact hge
    have operand : ∀ (xs : List SX), (∃ fw, opnds kp false fw ops sos (sos.map dstE) j o xs = true) → ∀ t, .t t ∈ xs → ¬ toCome (sos.map dstE) M (fun i => listed.getD i false) t ∧ ∀ b : Nat, (sos.map dstE)[b]? = some (some t) → b < j ∨ M ≤ b := fun xs ⟨fw, hxs⟩ t ht =>
      (operand2 xs false fw hxs t ht).resolve_right fun h => by cases h.2.1
    -- what stands at first in a slot that is still to be written
    have first : ∀ (n b k : Nat), kp = true → (sos.map dstE)[b]? = some (some n) → k ≤ b → k ≤ sos.length → b < M → listed.getD b false = false → ((S k).s n).firm = true → erz z (toCome (sos.map dstE) M (fun i => listed.getD i false)) (S M).s n = (S k).s n := fun n b k hkp hb hkb hks hbM hlb hf => by
      rw [erz_in (U := toCome (sos.map dstE) M (fun i => listed.getD i false)) ⟨b, hbM, hb, hlb⟩]
      have h0 := slots_firm hS (a := 0) (n := n) k (Nat.zero_le _) hks (fun i _ hi' h => by have := huniq b i n hb h; omega) hf
      rw [← h0]
      exact hzk hkp n (by rw [h0]; exact hf)
    unfold wpOp
    simp only [ho]
    by_cases hX : isX so = true
    · -- a write
      have hjM' : j = M := by
        rcases Nat.lt_or_ge j M with hlt | hle
        · have := hbef j hlt (by simpa [fX, hso] using hX)
          rw [hnl] at this; cases this
        · omega
      subst hjM'
      obtain ⟨e, so', hdW, hmo', hao⟩ : ∃ (e : Option Nat) (so' : SO), e = dstE so ∧ matchO P c.N ops o so' = true ∧ AO P so' ⟨erz z (toCome (sos.map dstE) j (fun i => listed.getD i false)) (S j).s, (S j).h⟩ (· = ⟨erz z (fun t => toCome (sos.map dstE) j (fun i => listed.getD i false) t ∧ e ≠ some t) (S (j + 1)).s, (S (j + 1)).h⟩) := by
        cases so <;> simp [isX] at hX
        · rename_i d op late
          obtain ⟨p, hw, hp, hrer⟩ := hS j _ hso
          have hxs : ∃ fw, opnds kp false fw ops sos (sos.map dstE) j o (xsW op) = true := by
            simp only [ord1, Bool.and_eq_true] at hop; exact ⟨_, hop.1.1.2⟩
          have hfr := wr_frame hz (U := toCome (sos.map dstE) j (fun i => listed.getD i false)) hw (fun x hx t ht => (operand _ hxs t (ht ▸ hx)).1)
          refine ⟨dstW d op, .x d op [], rfl, ?_, ?_⟩
          · have := hmo j o _ (by simpa using ho) hso
            simpa only [matchO, matchU] using this
          · simp only [AO, hfr, Rer, and_true, true_and]; exact hp
        · rename_i d f args late
          obtain ⟨fid, as, res, q1, q2, q3, q4, q5, hrer⟩ := hS j _ hso
          have hxs : ∃ fw, opnds kp false fw ops sos (sos.map dstE) j o (f :: args) = true := by
            simp only [ord1, Bool.and_eq_true] at hop; exact ⟨_, hop.1.1.2⟩
          refine ⟨some d, .q d f args [], rfl, ?_, ?_⟩
          · have := hmo j o _ (by simpa using ho) hso
            simpa only [matchO, matchU] using this
          · have hev : ∀ x ∈ f :: args, ev (erz z (toCome (sos.map dstE) j (fun i => listed.getD i false)) (S j).s) x = ev (S j).s x := fun x hx => ev_erz fun t ht => (operand _ hxs t (ht ▸ hx)).1
            have hargs : args.map (ev (erz z (toCome (sos.map dstE) j (fun i => listed.getD i false)) (S j).s)) = args.map (ev (S j).s) := List.map_congr_left fun x hx => hev x (by simp [hx])
            exact ⟨fid, as, res, _, by rw [← q1]; exact hev f (by simp), by rw [← q2]; simp only [hargs], q3, q4, takes_frame hz q5, trivial, rfl⟩
      refine o_sound hr hmo' hao fun σ' κ' φ' a' w' hr' hk => ?_
      subst hk
      obtain ⟨M', h1, h2, h3, h4⟩ := nextX (fX sos) sos.length (j + 1) (by omega)
      obtain ⟨q1, q2⟩ := quiet hS M' h1 h2 h3
      have hweak : Imp ⟨erz z (fun t => toCome (sos.map dstE) j (fun i => listed.getD i false) t ∧ e ≠ some t) (S (j + 1)).s, (S (j + 1)).h⟩ ⟨erz z (toCome (sos.map dstE) M' (fun i => (listed.setIfInBounds j true).getD i false)) (S M').s, (S M').h⟩ := by
        refine imp_weak (fun t => ?_) (fun i => .inl (by simp only [q1]))
        by_cases hU : toCome (sos.map dstE) M' (fun i => (listed.setIfInBounds j true).getD i false) t
        · show erz z (toCome (sos.map dstE) M' (fun i => (listed.setIfInBounds j true).getD i false)) (S M').s t = erz z (fun t => toCome (sos.map dstE) j (fun i => listed.getD i false) t ∧ e ≠ some t) (S (j + 1)).s t ∨ erz z (toCome (sos.map dstE) M' (fun i => (listed.setIfInBounds j true).getD i false)) (S M').s t = _
          by_cases hV : toCome (sos.map dstE) j (fun i => listed.getD i false) t ∧ e ≠ some t
          · rw [erz_in hU, erz_in (U := fun t => toCome (sos.map dstE) j (fun i => listed.getD i false) t ∧ e ≠ some t) hV]; exact .inl rfl
          · rw [erz_in hU, erz_not (U := fun t => toCome (sos.map dstE) j (fun i => listed.getD i false) t ∧ e ≠ some t) hV]
            rcases hzw t with h | ⟨h, hf⟩
            · exact .inr h
            · refine .inl ?_
              obtain ⟨i, hi0, hi1, hi2⟩ := hU
              have hij : j < i := by
                rcases Nat.lt_or_ge j i with h' | h'
                · exact h'
                · exfalso
                  simp only [hL', Bool.or_eq_false_iff, beq_eq_false_iff_ne, ne_eq] at hi2
                  refine hV ⟨⟨i, by omega, hi1, hi2.1⟩, fun he => ?_⟩
                  rw [hdW] at he
                  have := huniq j i t (by rw [hdl j so hso, he]) hi1
                  omega
              rw [h]
              exact (slots_fw hS (a := 0) hf (j + 1) (Nat.zero_le _) (by omega) fun q _ hq h' => by have := huniq i q t hi1 h'; omega).symm
        · refine .inl ?_
          simp only [erz_not hU]
          rw [erz_not, q2 t]
          · intro i hi hi' he
            refine hU ⟨i, hi', he, ?_⟩
            simp only [hL', hun i (by omega), Bool.false_or, beq_eq_false_iff_ne, ne_eq]
            omega
          · rintro ⟨⟨i, hi0, hi1, hi2⟩, _⟩
            refine hU ⟨i, by omega, hi1, ?_⟩
            simp only [hL', hi2, Bool.false_or, beq_eq_false_iff_ne, ne_eq]
            omega
      obtain ⟨κ2, φ2, hr2⟩ := hweak _ _ _ _ _ hr'
      refine ih (listed.setIfInBounds j true) M' κ2 φ2 a' w' (by simp [hls]) hli hcl' h2 ?_ h4 ?_ hr2
      · intro i hi hx
        rw [hL']
        by_cases hij : i = j
        · simp [hij]
        · rcases Nat.lt_or_ge i j with hlt | hge
          · simp [hbef i hlt hx]
          · rw [h3 i (by omega) hi] at hx; cases hx
      · intro i hi
        rw [hL', hun i (by omega)]; simp; omega
    · -- a read
      simp only [Bool.not_eq_true] at hX
      obtain ⟨d, v, hd, hy, he⟩ := Stp_read hX (hS j so hso)
      have hdE : dstE so = some d := by cases so <;> first | exact hd | simp [isX] at hX
      have hdj : (sos.map dstE)[j]? = some (some d) := by rw [hdl j so hso, hdE]
      have hjM' : j < M := by
        rcases hM with h | ⟨h, hx⟩
        · omega
        · rcases Nat.lt_or_ge j M with h' | h'
          · exact h'
          · obtain rfl : j = M := by omega
            simp only [fX, hso, hX] at hx; cases hx
      have hxs : opnds kp (isR so) (firmO so) ops sos (sos.map dstE) j o (xsO so) = true := by
        simp only [ord1, Bool.and_eq_true] at hop
        have := hop.1.1.2
        cases so <;> first | exact this | simp [isX] at hX
      have hstate : upd (erz z (toCome (sos.map dstE) M (fun i => listed.getD i false)) (S M).s) d ((S M).s d) = erz z (toCome (sos.map dstE) M (fun i => (listed.setIfInBounds j true).getD i false)) (S M).s := by
        funext t
        by_cases ht : t = d
        · subst ht
          rw [upd_same, erz_not]
          rintro ⟨i, _, hi1, hi2⟩
          have := huniq j i t hdj hi1
          subst this
          simp [hL'] at hi2
        · rw [upd_ne _ _ _ _ ht]
          by_cases hU : toCome (sos.map dstE) M (fun i => listed.getD i false) t
          · rw [erz_in hU, erz_in]
            obtain ⟨i, hi0, hi1, hi2⟩ := hU
            refine ⟨i, hi0, hi1, ?_⟩
            simp only [hL', hi2, Bool.false_or, beq_eq_false_iff_ne, ne_eq]
            intro hij
            subst hij
            rw [hdj] at hi1; simp at hi1; exact ht hi1.symm
          · rw [erz_not hU, erz_not]
            rintro ⟨i, hi0, hi1, hi2⟩
            exact hU ⟨i, hi0, hi1, by simp only [hL', Bool.or_eq_false_iff] at hi2; exact hi2.1⟩
      -- some operation that fits reads what stands there in the end
      have key : ∃ so', matchO P c.N ops o so' = true ∧ dstO so' = some d ∧ YS P (S M).h so' (erz z (toCome (sos.map dstE) M (fun i => listed.getD i false)) (S M).s) ((S M).s d) := by
        rcases lastX (fX sos) j M (by omega) with hno | ⟨p, hp1, hp2, hp3, hp4⟩
        · obtain ⟨q1, q2⟩ := quiet hS M (by omega) hMn hno
          obtain ⟨q3, q4⟩ := quiet hS (a := j + 1) M (by omega) hMn (fun i hi hi' => hno i (by omega) hi')
          have hv : (S M).s d = v := by
            rw [q4 d fun i hi hi' h => by have := huniq j i d hdj h; omega, he]
            simp [upd_same]
          refine ⟨so, hmo j o so (by simpa using ho) hso, hd, ?_⟩
          rw [hv, q1]
          refine YS_congr (s := (S j).s) (fun x hx => ?_) hy
          cases x with
          | t n =>
            show (S j).s n = erz z _ (S M).s n
            rcases operand2 _ _ _ hxs n hx with ⟨o1, o2⟩ | ⟨k1, k2, b, k3, k4, k5, k6, k7, _⟩
            · rw [erz_not o1, q2 n fun i hi hi' h => by have := o2 i h; omega]
            · refine (first n b j k1 k3 (by omega) (by omega) k5 k6 ?_).symm
              rcases k7 with k7 | ⟨p, m1, m2, m3⟩
              · cases so <;> simp only [firmO, Bool.false_eq_true] at k7
                obtain ⟨pp, hrd, _⟩ := hy
                exact rd_firm hrd k7 hx
              · have := hno p m1 (by omega)
                rw [m3] at this; cases this
          | c v => rfl
          | f i => rfl
        · have hjp : j < p := by
            rcases Nat.lt_or_ge j p with h | h
            · exact h
            · obtain rfl : p = j := by omega
              simp only [fX, hso, hX] at hp3; cases hp3
          obtain ⟨sp, hsp⟩ := hget p (by omega)
          have hpx : isX sp = true := by simpa [fX, hsp] using hp3
          have hpo := hord1 p ops[p] sp (Array.getElem?_eq_getElem (by omega)) hsp
          simp only [ord1, Bool.and_eq_true] at hpo
          have hl := List.all_eq_true.1 hpo.2 j (List.mem_range.2 hjp)
          simp only [hso, hX, hpx, Bool.not_true, Bool.false_or, Bool.false_eq_true, if_false, Bool.or_eq_true] at hl
          have hlp := hbef p hp2 hp3
          have hrer0 : Rer (S (p + 1)) (lateOf sp) := by
            cases sp <;> simp [isX] at hpx
            · obtain ⟨_, _, _, hrer⟩ := hS p _ hsp; exact hrer
            · obtain ⟨_, _, _, _, _, _, _, _, hrer⟩ := hS p _ hsp; exact hrer
          rcases hl with (hl | hl) | hl
          rotate_left 2
          · obtain ⟨d2, fid, args, ts, e1, e2, e3⟩ := lateC_spec hl hrer0
            rw [hso] at e1; simp only [Option.some.injEq] at e1; subst e1
            simp only [dstO, Option.some.injEq] at hd; subst hd
            obtain ⟨q1, q2⟩ := quiet hS (a := p + 1) M (by omega) hMn (fun i hi hi' => hp4 i (by omega) hi')
            have hslot : ∀ n, n ∈ ts → (.t n : SX) ∈ args → (S j).s n = (S M).s n ∧ erz z (toCome (sos.map dstE) M (fun i => listed.getD i false)) (S M).s n = (S M).s n ∧ ((S M).s n).firm = true := fun n hn hna => by
              obtain ⟨o1, o2⟩ := operand _ ⟨_, by simpa only [isR] using hxs⟩ n (by simp [xsO, hna])
              have h1 : (S M).s n = (S (p + 1)).s n := q2 n fun i hi hi' h => by have := o2 i h; omega
              have h2 := firmAll_mem e3 n hn
              have h3 := slots_firm hS (a := j) (n := n) (p + 1) (by omega) (by omega) (fun i hi hi' h => by have := o2 i h; omega) h2
              exact ⟨by rw [h1, h3], erz_not o1, by rw [h1]; exact h2⟩
            have hev : ∀ x ∈ args, ev (S j).s x = ev (erz z (toCome (sos.map dstE) M (fun i => listed.getD i false)) (S M).s) x ∧ ∃ v, (ev (S j).s x).toDV = some v := fun x hx => by
              rcases e2 x hx with ⟨n, rfl, hn⟩ | ⟨v, rfl, hv⟩
              · obtain ⟨k1, k2, k3⟩ := hslot n hn hx
                refine ⟨by simp only [ev]; rw [k2, k1], ?_⟩
                simp only [ev]; rw [k1]; exact firm_toDV _ k3
              · exact ⟨rfl, Option.isSome_iff_exists.1 hv⟩
            have hmap : args.map (ev (erz z (toCome (sos.map dstE) M (fun i => listed.getD i false)) (S M).s)) = args.map (ev (S j).s) := List.map_congr_left fun x hx => ((hev x hx).1).symm
            obtain ⟨ds, hds⟩ : ∃ ds, SV.toDVs (args.map (ev (S j).s)) = some ds := by
              have : ∀ l : List SX, (∀ x ∈ l, ∃ v, (ev (S j).s x).toDV = some v) → ∃ ds, SV.toDVs (l.map (ev (S j).s)) = some ds := fun l => by
                induction l with
                | nil => intro _; exact ⟨[], rfl⟩
                | cons x l ih =>
                  intro h
                  obtain ⟨v, hv⟩ := h x (by simp)
                  obtain ⟨ds, hds⟩ := ih fun y hy => h y (by simp [hy])
                  exact ⟨v :: ds, by simp only [List.map_cons, SV.toDVs, hv, hds]⟩
              exact this args fun x hx => (hev x hx).2
            simp only [YS, ev, toDVs_lends _ _ _ hds] at hy
            obtain ⟨res, y1, _, rfl⟩ := hy
            have hvM : (S M).s d2 = .d res := slots_d hS (a := j + 1) (by rw [he]; simp [upd]) M (by omega) hMn fun i hi hi' h => by have := huniq j i d2 hdj h; omega
            refine ⟨.c d2 (.f fid) args, hmo j o _ (by simpa using ho) hso, rfl, ?_⟩
            simp only [YS, ev, hmap, toDVs_lends _ _ _ hds]
            exact ⟨res, y1, .inl (by rw [hds]; rfl), hvM⟩
          · exfalso
            have := back_sound hcl p [p] (by simpa using hlp) hl
            rw [hnl] at this; cases this
          · have hrer : Rer (S (p + 1)) (lateOf sp) := by
              cases sp <;> simp [isX] at hpx
              · obtain ⟨_, _, _, hrer⟩ := hS p _ hsp; exact hrer
              · obtain ⟨_, _, _, _, _, _, _, _, hrer⟩ := hS p _ hsp; exact hrer
            obtain ⟨d2, op2, o2, k1, k2, kk⟩ := lateOk_spec hl hrer
            rw [ho] at k2; simp only [Option.some.injEq] at k2; subst k2
            rw [hdj] at k1; simp only [Option.some.injEq] at k1; subst k1
            obtain ⟨q1, q2⟩ := quiet hS (a := p + 1) M (by omega) hMn (fun i hi hi' => hp4 i (by omega) hi')
            have hvd : (S M).s d = (S (p + 1)).s d := q2 d fun i hi hi' h => by have := huniq j i d hdj h; omega
            -- the operands read the same
            have hsame : ∀ (xs : List SX) (fo : Bool), opnds kp fo true ops sos (sos.map dstE) j o xs = true → ∀ n, .t n ∈ xs → (fo = true → ((S (p + 1)).s n).firm = true) → erz z (toCome (sos.map dstE) M (fun i => listed.getD i false)) (S M).s n = (S (p + 1)).s n := fun xs fo hxs n hx hfm => by
              rcases operand2 _ _ _ hxs n hx with ⟨o1, o3⟩ | ⟨m1, m2, b, m3, m4, m5, m6, _, m7⟩
              · rw [erz_not o1, q2 n fun i hi hi' h => by have := o3 i h; omega]
              · have := m7 p hp2 hp3
                exact first n b (p + 1) m1 m3 (by omega) (by omega) m5 m6 (hfm m2)
            have hfirm : ∀ {op2 : ROp} {v : SV} {pp : Prop}, rd (S (p + 1)).h (S (p + 1)).s op2 = some (pp, v) → ∀ n, .t n ∈ xsR op2 → (firmOp op2 || lateM op2 (lateOf sp)) = true → ((S (p + 1)).s n).firm = true := fun hv n hn hf => by
              rw [Bool.or_eq_true] at hf
              rcases hf with hf | hf
              · exact rd_firm hv hf hn
              · exact lateM_spec hf hrer hn
            rcases kk with ⟨k3, k4, k5, pp, k6, k7⟩ | ⟨gt, gw, k4, k5, pp, k6, k7⟩
            · refine ⟨.r d op2, by simp only [matchO, k3, k4]; rfl, rfl, pp, ?_, k7⟩
              rw [q1, hvd, ← k6]
              refine rd_congr fun x hx => ?_
              cases x with
              | t n => exact hsame _ _ k5 n hx (hfirm k6 n hx)
              | c v => rfl
              | f i => rfl
            · have hgs : ((S (p + 1)).s gt).firm = true := by
                simp only [rdG] at k6
                split at k6
                · rename_i hb; rw [hb]; rfl
                · rename_i hb; rw [hb]; rfl
                · cases k6
              have e1 := hsame _ _ k5 gt (by simp) (fun _ => hgs)
              refine ⟨.g gt gw (some d) (.r d op2), k4, by simp [dstO], ?_⟩
              simp only [YS]
              simp only [rdG] at k6
              split at k6
              · rename_i b hb
                split at k6
                · rename_i hbw
                  refine .inl ⟨b, e1.trans hb, .inl ⟨hbw, pp, ?_, k7⟩⟩
                  rw [q1, hvd, ← k6]
                  refine rd_congr fun x hx => ?_
                  cases x with
                  | t n => exact hsame _ _ k5 n (List.mem_cons_of_mem _ hx) (hfirm k6 n hx)
                  | c v => rfl
                  | f i => rfl
                · rename_i hbw
                  simp only [Option.some.injEq, Prod.mk.injEq] at k6
                  refine .inl ⟨b, e1.trans hb, .inr ⟨?_, hvd.trans k6.2.symm⟩⟩
                  exact bne_not hbw
              · rename_i hb
                simp only [Option.some.injEq, Prod.mk.injEq] at k6
                exact .inr ⟨e1.trans hb, hvd.trans k6.2.symm⟩
              · cases k6
      obtain ⟨so', hm', hd', hy'⟩ := key
      refine o_sound hr hm' (YS_AO hd' hy') fun σ' κ' φ' a' w' hr' hk => ?_
      subst hk
      refine ih (listed.setIfInBounds j true) M κ' φ' a' w' (by simp [hls]) hli hcl' hMn ?_ hM ?_ ?_
      · intro i hi hx; rw [hL', hbef i hi hx]; rfl
      · intro i hi; rw [hL', hun i hi]; simp; omega
      · rw [← hstate]; exact hr'

/-- A region whose order is drawn, with writes: the order of the text serves for all. -/
theorem drawnE_any {ops : Array Oper} {sos : List SO} {K : St → Prop} {Q : Exit → Act → World → Prop} {σ : St} {a : Act} {w : World}
    (hQ : ∀ σ' κ' φ' a' w', Ref c σ' κ' φ' a' w' → K σ' → Q .normal a' w') (hm : matchOps P c.N ops ops.toList sos = true) (hord : ordK true P c.N ops sos (sos.map dstE) 0 ops.toList sos = true) (himp : ∀ U, ∃ κ' φ', Ref c ⟨erz (firmS σ.s) U σ.s, σ.h⟩ κ' φ' a w) (h : AOps P K sos σ) :
    wpAny P .any ops Q ops.size (Array.replicate ops.size false) a { w with drawn := w.drawn + 1 } := by
  obtain ⟨hml, hmo⟩ := matchOps_get hm
  have hlen : sos.length = ops.size := by simp at hml; omega
  obtain ⟨S, hS0, hS, hK⟩ := trace_E sos σ (fun so hso => by
    obtain ⟨j, hj, hj2⟩ := List.getElem_of_mem hso
    have := ordL_get hord j ops[j] so (by simp) (by rw [List.getElem?_eq_getElem hj, hj2])
    simp only [ord1, Bool.and_eq_true] at this
    exact this.1.1.1.1) h
  obtain ⟨M, h1, h2, h3, h4⟩ := nextX (fX sos) sos.length 0 (by omega)
  have hrep : ∀ i, (Array.replicate ops.size false).getD i false = false := fun i => by
    by_cases hi : i < ops.size <;> simp [hi]
  obtain ⟨κ', φ', hr⟩ := himp (toCome (sos.map dstE) M (fun i => (Array.replicate ops.size false).getD i false))
  refine anyE_sound (c := c) hQ hm (firmS_rep σ.s) (fun _ t h => by rw [hS0] at h ⊢; simp [firmS, h]) (fun t => by rw [hS0]; exact firmS_or σ.s t) hord hS hK ops.size _ M κ' φ' a _ (by simp) ?_ ?_ h2 ?_ h4 (fun i _ => hrep i) ?_
  · have : unl ops.size (Array.replicate ops.size false) = List.range ops.size := by
      unfold unl
      rw [List.filter_eq_self]
      intro i hi
      simp at hi
      simp [hi]
    rw [this]; simp
  · intro i o hi
    rw [hrep] at hi; cases hi
  · intro i hi hx
    rw [h3 i (by omega) hi] at hx; cases hx
  · obtain ⟨q1, q2⟩ := quiet hS M h1 h2 (fun i hi hi' => h3 i hi hi')
    rw [q1, hS0]
    have : erz (firmS σ.s) (toCome (sos.map dstE) M (fun i => (Array.replicate ops.size false).getD i false)) (S M).s = erz (firmS σ.s) (toCome (sos.map dstE) M (fun i => (Array.replicate ops.size false).getD i false)) σ.s := by
      refine erz_congr fun t ht => ?_
      rw [q2 t fun i hi hi' he => ht ⟨i, hi', he, hrep i⟩, hS0]
    rw [this]
    exact hr.grown ((Below.refl _ _).drew)
theorem drawnE_sound (hmix : P.follows .mixedOrders = true) {id : Nat} {ops : Array Oper} {sos : List SO} {K : St → Prop} {Q : Exit → Act → World → Prop} {σ : St} {a : Act} {w : World}
    (hQ : ∀ σ' κ' φ' a' w', Ref c σ' κ' φ' a' w' → K σ' → Q .normal a' w') (hm : matchOps P c.N ops ops.toList sos = true) (hord : ordK true P c.N ops sos (sos.map dstE) 0 ops.toList sos = true) (himp : ∀ U, ∃ κ' φ', Ref c ⟨erz (firmS σ.s) U σ.s, σ.h⟩ κ' φ' a w) (h : AOps P K sos σ) :
    (Code.region id ops true).wp P Q a w := wp_region_any hmix (drawnE_any hQ hm hord himp h)
end


/-! ### The same, walked in another order than the text's -/
def permO (π : List Nat) (ops : Array Oper) : Array Oper :=
  (π.filterMap fun i => (ops[i]?).map fun o => { o with after := o.after.map fun e => { e with on := π.idxOf e.on } }).toArray
def permOk (π : List Nat) (ops : Array Oper) : Bool :=
  π.length == ops.size && π.all (fun i => decide (i < ops.size)) && (List.range ops.size).all (fun i => π.contains i) && decide π.Nodup && ops.all (fun o => o.guard == none)

/-! ### Two operations, neither of which waits for the other -/
/-- Operation j waits for i too. -/
def addE (ops : Array Oper) (j i : Nat) : Array Oper := match ops[j]? with
  | some o => ops.setIfInBounds j { o with after := o.after.push ⟨i, .data⟩ }
  | none => ops
def pairOk (i : Nat) (ops : Array Oper) (π : List Nat) (s1 s2 : List SO) : Bool :=
  ops.all (fun o => o.guard == none) && decide (i + 1 < ops.size) && (List.range i).all (fun k => π[k]? == some k && !fX s1 k) && π[i]? == some (i + 1) && π[i + 1]? == some i && fX s1 i && fX s2 i && (List.range ops.size).all (fun k => decide (k < i + 2) || π[k]? == some k)
end Go.Proofs.YtcnohbiegjahkaaGreatDoor

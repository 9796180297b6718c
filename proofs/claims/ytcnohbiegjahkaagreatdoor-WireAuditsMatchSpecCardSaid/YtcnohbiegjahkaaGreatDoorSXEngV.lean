/-
  The engine, part V: the walk's rules that make the plain computation.
-/
import Derived.Test.YtcnohbiegjahkaaGreatDoorSXEngU
namespace Go.Proofs.YtcnohbiegjahkaaGreatDoor
set_option linter.unusedSimpArgs false
set_option linter.unusedVariables false
open Go.RowKit

/-! ### Rows of plain values -/
def rowI (n : Int) : List DV := [.int .i64 n]
def rowY (b : UInt8) : List DV := [.int .u8 b.toNat]
def rowS (s : List UInt8) : List DV := [.str s]
def rowB (b : Bool) : List DV := [.bool b]
def rowL {α : Type} (row : α → List DV) (l : List α) : List DV := [.slice (l.map row)]
/-- The rows of a slice that grows. -/
def vrow {α : Type} (row : α → List DV) (l : List α) : List (List SV) := (l.map row).map dR

def lenO (n : Nat) : Option Unit := if n ≤ 137438953472 then some () else none
theorem lenO_some {n : Nat} {u : Unit} : lenO n = some u ↔ n ≤ 137438953472 := by unfold lenO; split <;> simp_all
def thenO {R : Type} (c : Option Unit) (m : Option R) : Option R := c.bind fun _ => m
def rndQ {S R : Type} (mk : S → St) (Q : R → AX → St → Prop) : S ⊕ R → AX → St → Prop
  | .inl s', .normal, σ => Imp σ (mk s')
  | .inr r, .exit i, σ => Q r (.exit i) σ
  | .inr r, .ret, σ => Q r .ret σ
  | _, _, _ => False
def outK {T R : Type} (k : T → Option R) : T ⊕ R → Option R
  | .inl t => k t
  | .inr r => some r
def inrO {S R : Type} (m : Option R) : Option (S ⊕ R) := m.map .inr

section
variable {P : Program} {x y : SC} {σ : St} {s : Nat → SV} {h : Nat → Ch} {K : St → Prop} {sos : List SO}

theorem S_condB {R : Type} {r : R} {b : Bool} {m1 m2 : Option R} {Q : AX → St → Prop} {t : SX} (hm : (bif b then m1 else m2) = some r) (hc : ev s t = .d (.bool b)) (hx : m1 = some r → AW P x Q ⟨s, h⟩) (hy : m2 = some r → AW P y Q ⟨s, h⟩) : AW P (.cond t x y) Q ⟨s, h⟩ := by
  refine W_condB hc (fun e => ?_) (fun e => ?_)
  · subst e; exact hx hm
  · subst e; exact hy hm

theorem S_loop {S R : Type} {r : R} {Q : R → AX → St → Prop} (mk : S → St) {s0 : S} {step : S → Option (S ⊕ R)} (hm : loopC step s0 = some r) (h0 : Imp σ (mk s0)) (hb : ∀ s o, step s = some o → AW P x (rndQ mk Q o) (mk s)) : AW P (.loop x) (Q r) σ := by
  obtain ⟨n, hn⟩ := loopC_some.1 hm
  refine W_loop (fun m σ => ∃ s, σ = mk s ∧ loopN step m s = some r) n ⟨_, h0, s0, rfl, hn⟩ ?_
  rintro m _ ⟨s, rfl, hl⟩
  cases m with
  | zero => simp [loopN] at hl
  | succ m =>
    simp only [loopN] at hl
    split at hl
    · rename_i s' hs
      refine W_mono (fun e σ' he => ?_) (hb s _ hs)
      cases e with
      | normal => exact ⟨m, mk s', by omega, he, s', rfl, hl⟩
      | exit i => exact he.elim
      | ret => exact he.elim
    · rename_i r' hs
      simp only [Option.some.injEq] at hl; subst hl
      refine W_mono (fun e σ' he => ?_) (hb s _ hs)
      cases e with
      | normal => exact he.elim
      | exit i => exact he
      | ret => exact he
    · cases hl

theorem K_next {S R : Type} {mk : S → St} {Q : R → AX → St → Prop} {o : S ⊕ R} {s' : S} {M : St} (hm : some (.inl s') = some o) (hM : mk s' = M) (hi : Imp σ M) : rndQ mk Q o .normal σ := by
  cases hm; subst hM; exact hi
theorem K_leave {S R : Type} {mk : S → St} {Q : R → AX → St → Prop} {o : S ⊕ R} {m : Option R} {i : Nat} (hm : inrO m = some o) (hi : ∀ r, m = some r → Q r (.exit i) σ) : rndQ mk Q o (.exit i) σ := by
  cases m with
  | none => cases hm
  | some r => cases hm; exact hi r rfl
theorem K_leaveR {S R : Type} {mk : S → St} {Q : R → AX → St → Prop} {o : S ⊕ R} {m : Option R} (hm : inrO m = some o) (hi : ∀ r, m = some r → Q r .ret σ) : rndQ mk Q o .ret σ := by
  cases m with
  | none => cases hm
  | some r => cases hm; exact hi r rfl
theorem K_endS {R : Type} {r r0 : R} {qs : List RV} {d : DV} {enc : R → DV} (hm : some r0 = some r) (hw : resOf σ qs = some d) (he : d = enc r0) : endK qs (enc r) .ret σ := by
  cases hm; subst he; exact ⟨σ, Imp.refl σ, hw⟩
theorem K_end2 {A B : Type} {r : A × B} {a : A} {b : B} {qs : List RV} {d' d0 : DV} {enc : A × B → DV} (hm : some (a, b) = some r) (hw : resOf σ qs = some d') (h0 : enc (a, b) = d0) (he : d' = d0) : endK qs (enc r) .ret σ := K_endS hm hw (he.trans h0.symm)
theorem K_bool {v v0 : Bool} {u : Nat} (hm : some v0 = some v) (hw : s u = .d (.bool v0)) : boolK u v ⟨s, h⟩ := by
  cases hm; exact hw

/-! loops and meeting ways, with what stays the same (c) and what changes (s) -/
def ImpC (Q : AX → St → Prop) : Prop := ∀ e σ σ', Imp σ σ' → Q e σ' → Q e σ
theorem impC_seq {Q : AX → St → Prop} (hq : ImpC Q) : ImpC (seqK P y Q) := by
  intro e σ σ' hi h
  cases e with
  | normal => exact W_imp hi h
  | exit i => exact hq _ _ _ hi h
  | ret => exact hq _ _ _ hi h
theorem impC_block {Q : AX → St → Prop} {b : Nat} (hq : ImpC Q) : ImpC (blockK b Q) := by
  intro e σ σ' hi h
  cases e with
  | normal => exact hq _ _ _ hi h
  | exit i => simp only [blockK] at h ⊢; split at h <;> rename_i hb <;> simp only [hb, if_true, if_false] <;> exact hq _ _ _ hi h
  | ret => exact hq _ _ _ hi h
theorem impC_end {qs : List RV} {res : DV} : ImpC (endK qs res) := by
  intro e σ σ' hi h
  cases e with
  | normal => obtain ⟨σ1, h1, h2⟩ := h; exact ⟨σ1, hi.trans h1, h2⟩
  | exit i => exact h
  | ret => obtain ⟨σ1, h1, h2⟩ := h; exact ⟨σ1, hi.trans h1, h2⟩
theorem impC_endF {N n : Nat} {qs : List RV} {res : SV} {outs : List SV} : ImpC (endF N n qs res outs) := by
  intro e σ σ' hi h
  cases e with
  | normal => obtain ⟨σ1, h1, h2⟩ := h; exact ⟨σ1, hi.trans h1, h2⟩
  | exit i => exact h
  | ret => obtain ⟨σ1, h1, h2⟩ := h; exact ⟨σ1, hi.trans h1, h2⟩
theorem impC_rnd {S R : Type} {mk : S → St} {Q : R → AX → St → Prop} {o : S ⊕ R} (hq : ∀ r, ImpC (Q r)) : ImpC (rndQ mk Q o) := by
  intro e σ σ' hi h
  cases o with
  | inl s' => cases e with
    | normal => exact hi.trans h
    | exit i => exact h
    | ret => exact h
  | inr r => cases e with
    | normal => exact h
    | exit i => exact hq r _ _ _ hi h
    | ret => exact hq r _ _ _ hi h
def brkQ {S R : Type} (b : Nat) (mk : S → St) (Q : R → AX → St → Prop) : S ⊕ R → AX → St → Prop
  | .inl s', .exit i, σ => i = b ∧ Imp σ (mk s')
  | .inr r, .exit i, σ => i ≠ b ∧ Q r (.exit i) σ
  | .inr r, .ret, σ => Q r .ret σ
  | _, _, _ => False
theorem impC_brk {S R : Type} {b : Nat} {mk : S → St} {Q : R → AX → St → Prop} {o : S ⊕ R} (hq : ∀ r, ImpC (Q r)) : ImpC (brkQ b mk Q o) := by
  intro e σ σ' hi h
  cases o with
  | inl s' => cases e with
    | normal => exact h
    | exit i => exact ⟨h.1, hi.trans h.2⟩
    | ret => exact h
  | inr r => cases e with
    | normal => exact h
    | exit i => exact ⟨h.1, hq r _ _ _ hi h.2⟩
    | ret => exact hq r _ _ _ hi h
theorem K_brk {S R : Type} {b : Nat} {mk : S → St} {Q : R → AX → St → Prop} {o : S ⊕ R} {s' : S} {M : St} (hm : some (.inl s') = some o) (hM : mk s' = M) (hi : Imp σ M) : brkQ b mk Q o (.exit b) σ := by
  cases hm; subst hM; exact ⟨rfl, hi⟩
theorem K_brkR {S R : Type} {b : Nat} {mk : S → St} {Q : R → AX → St → Prop} {o : S ⊕ R} {m : Option R} (hm : inrO m = some o) (hi : ∀ r, m = some r → Q r .ret σ) : brkQ b mk Q o .ret σ := by
  cases m with
  | none => cases hm
  | some r => cases hm; exact hi r rfl
/-- A loop in its block. -/
theorem S_loopB {C S R : Type} {r : R} {b : Nat} {Q : R → AX → St → Prop} (mk : C → S → St) {c : C} {s0 : S} {step : S → Option (S ⊕ (S ⊕ R))} {k : S → Option R} (hm : (loopC step s0).bind (outK k) = some r) (h0 : Imp σ (mk c s0)) (hq : ∀ r, ImpC (Q r))
    (hb : ∀ s o, step s = some o → AW P x (rndQ (mk c) (brkQ b (mk c) Q) o) (mk c s)) (hk : ∀ s, k s = some r → Q r .normal (mk c s)) : AW P (.block b (.loop x)) (Q r) σ := by
  cases ha : loopC step s0 with
  | none => rw [ha] at hm; cases hm
  | some o =>
    rw [ha] at hm
    refine W_block (W_mono (fun e σ' he => ?_) (S_loop (mk c) ha h0 hb))
    cases o with
    | inl t =>
      cases e with
      | normal => exact he.elim
      | exit i => obtain ⟨h1, h2⟩ := he; subst h1; exact K_blockE (hq r _ _ _ h2 (hk t hm))
      | ret => exact he.elim
    | inr r' =>
      simp only [Option.bind_some, outK, Option.some.injEq] at hm; subst hm
      cases e with
      | normal => exact he.elim
      | exit i => exact K_blockN he.1 he.2
      | ret => exact he
theorem S_loopX {C S R : Type} {r : R} {b : Nat} {X : SC} {Q : R → AX → St → Prop} (hX : X = .block b (.loop x)) (mk : C → S → St) {c : C} {mk' : S → St} {s0 : S} {M : St} {step : S → Option (S ⊕ (S ⊕ R))} {k : S → Option R} (hm : (loopC step s0).bind (outK k) = some r) (hM : mk c s0 = M) (h0 : Imp σ M) (hmk : mk c = mk') (hq : ∀ r, ImpC (Q r))
    (hb : ∀ s o, step s = some o → AW P x (rndQ mk' (brkQ b mk' Q) o) (mk' s)) (hk : ∀ s, k s = some r → Q r .normal (mk' s)) : AW P X (Q r) σ := by
  subst hmk hM; rw [hX]; exact S_loopB mk hm h0 hq hb hk
/-- First this, then that. -/
structure Then (A B : Prop) : Prop where
  a : A
  b : B
/-- What a loop's walk leaves to show: its rounds, and what is behind it. -/
structure LoopB {S R : Type} (P : Program) (x : SC) (Q : R → AX → St → Prop) (r : R) (b : Nat) (m : S → St) (step : S → Option (S ⊕ (S ⊕ R))) (k : S → Option R) : Prop where
  hq : ∀ r, ImpC (Q r)
  hb : ∀ s o, step s = some o → AW P x (rndQ m (brkQ b m Q) o) (m s)
  hk : ∀ s, k s = some r → Q r .normal (m s)
theorem LoopB.of {S R : Type} {r : R} {b : Nat} {Q : R → AX → St → Prop} {m m' : S → St} {step : S → Option (S ⊕ (S ⊕ R))} {k : S → Option R} (hmk : m = m') (hq : ∀ r, ImpC (Q r))
    (hb : ∀ s o, step s = some o → AW P x (rndQ m' (brkQ b m' Q) o) (m' s)) (hk : ∀ s, k s = some r → Q r .normal (m' s)) : LoopB P x Q r b m step k := by
  subst hmk; exact ⟨hq, hb, hk⟩
theorem S_loopY {C S R : Type} {r : R} {b : Nat} {X : SC} {Q : R → AX → St → Prop} (hX : X = .block b (.loop x)) (mk : C → S → St) {c : C} {s0 : S} {M : St} {step : S → Option (S ⊕ (S ⊕ R))} {k : S → Option R} (hm : (loopC step s0).bind (outK k) = some r) (hM : mk c s0 = M)
    (h : Then (Imp σ M) (LoopB P x Q r b (mk c) step k)) : AW P X (Q r) σ := S_loopX hX mk hm hM h.a rfl h.b.hq h.b.hb h.b.hk
/-! calls -/
theorem O_cS {A R : Type} {r : R} {a : Option A} {k : A → Option R} {enc : A → DV} {dst f : Nat} {args : List SX} {as : List DV} (hm : a.bind k = some r) (ha : SV.toDVs (args.map (ev s)) = some as) (hs : ∀ x, a = some x → PureSpec P f as (enc x)) (hk : ∀ x, k x = some r → AOps P K sos ⟨upd s dst (.d (enc x)), h⟩) : AOps P K (.c dst (.f f) args :: sos) ⟨s, h⟩ := by
  cases hx : a with
  | none => rw [hx] at hm; cases hm
  | some x => rw [hx] at hm; exact O_c ha (hs x hx) (hk x hm)
theorem O_cF {A R : Type} {r : R} {a : Option A} {k : A → Option R} {enc : A → DV} {dst f : Nat} {args : List SX} {as0 as : List DV} (hm : a.bind k = some r) (ha : SV.toDVs (args.map (ev s)) = some as0) (hs : ∀ x, a = some x → PureSpec P f as (enc x)) (he : as0 = as) (hk : ∀ x, k x = some r → AOps P K sos ⟨upd s dst (.d (enc x)), h⟩) : AOps P K (.c dst (.f f) args :: sos) ⟨s, h⟩ := by
  subst he; exact O_cS hm ha hs hk
theorem O_cvS {A R : Type} {r : R} {a : Option A} {k : A → Option R} {enc : A → DV} {dst t f : Nat} {args : List SX} {as caps : List DV} (hm : a.bind k = some r) (hf : s t = .d (.fn f caps)) (ha : SV.toDVs (args.map (ev s)) = some as) (hs : ∀ x, a = some x → PureSpec P f (as ++ caps) (enc x)) (hk : ∀ x, k x = some r → AOps P K sos ⟨upd s dst (.d (enc x)), h⟩) : AOps P K (.c dst (.t t) args :: sos) ⟨s, h⟩ := by
  cases hx : a with
  | none => rw [hx] at hm; cases hm
  | some x => rw [hx] at hm; exact O_cv hf ha (hs x hx) (hk x hm)

theorem O_o2r {dst : Nat} {op : ROp} (hw : AOps P K (.r dst op :: sos) ⟨s, h⟩) : AOps P K (.o dst op :: sos) ⟨s, h⟩ := by
  simp only [AOps, AO] at hw ⊢
  split at hw
  · rename_i p v hr; exact ⟨⟨s, h⟩, Imp.refl _, p, v, hr, hw.1, hw.2⟩
  · exact hw.elim

/-! reads that may fail -/
theorem idxS_rd {α : Type} {l : List α} {row : α → List DV} {sz : Nat} {n : Int} {e : α} {x i : SX} {k : IntKind} (hx : ev s x = .d (.slice (l.map row))) (hi : ev s i = .d (.int k n)) (hsz : ∀ e, (row e).length = sz) (he : getI l n = some e) :
    rd h s (.idx sz x i) = some (0 ≤ n ∧ (row e).length = sz, .d (.ptr (row e))) ∧ 0 ≤ n ∧ (row e).length = sz := by
  unfold getI at he
  split at he
  · rename_i h0
    refine ⟨?_, h0, hsz e⟩
    simp only [rd, hi, hx, List.getElem?_map, he, Option.map_some]
  · cases he
theorem O_idxr {R α : Type} {r : R} {l : List α} {row : α → List DV} {sz : Nat} {n : Int} {x i : SX} {k : IntKind} {dst : Nat} {kk : α → Option R} (hm : (getI l n).bind kk = some r) (hx : ev s x = .d (.slice (l.map row))) (hi : ev s i = .d (.int k n)) (hsz : ∀ e, (row e).length = sz)
    (hk : ∀ e, kk e = some r → AOps P K sos ⟨upd s dst (.d (.ptr (row e))), h⟩) : AOps P K (.r dst (.idx sz x i) :: sos) ⟨s, h⟩ := by
  cases he : getI l n with
  | none => rw [he] at hm; cases hm
  | some e =>
    rw [he] at hm
    obtain ⟨h1, h2⟩ := idxS_rd (h := h) hx hi hsz he
    exact O_r h1 h2 (hk e hm)
theorem O_sidxr {R : Type} {r : R} {l : List UInt8} {n : Int} {x i : SX} {k : IntKind} {dst : Nat} {kk : UInt8 → Option R} (hm : (getI l n).bind kk = some r) (hx : ev s x = .d (.str l)) (hi : ev s i = .d (.int k n))
    (hk : ∀ e, kk e = some r → AOps P K sos ⟨upd s dst (.d (.int .u8 (e.toNat : Int))), h⟩) : AOps P K (.r dst (.sidx x i) :: sos) ⟨s, h⟩ := by
  cases he : getI l n with
  | none => rw [he] at hm; cases hm
  | some e =>
    rw [he] at hm
    unfold getI at he
    split at he
    · rename_i h0
      refine O_r (p := 0 ≤ n) (v := .d (.int .u8 e.toNat)) ?_ h0 (hk e hm)
      simp only [rd, hi, hx, he]
    · cases he
theorem O_slcr {R α : Type} {r : R} {l : List α} {row : α → List DV} {sz : Nat} {lo hi : Option Int} {x : SX} {i j : Option SX} {dst : Nat} {kk : List α → Option R} (hm : (sliceI l (lo.getD 0) (hi.getD l.length)).bind kk = some r) (hx : ev s x = .d (.slice (l.map row))) (hl : evN s i = some lo) (hh : evN s j = some hi) (hsz : ∀ e, (row e).length = sz)
    (hk : ∀ e, kk e = some r → AOps P K sos ⟨upd s dst (.d (.slice (e.map row))), h⟩) : AOps P K (.r dst (.slc sz x i j) :: sos) ⟨s, h⟩ := by
  cases he : sliceI l (lo.getD 0) (hi.getD l.length) with
  | none => rw [he] at hm; cases hm
  | some e =>
    rw [he] at hm
    unfold sliceI at he
    split at he
    · rename_i h0
      simp only [Option.some.injEq] at he
      refine O_r (p := (∀ r ∈ l.map row, r.length = sz) ∧ 0 ≤ lo.getD 0 ∧ lo.getD 0 ≤ hi.getD (l.map row).length ∧ hi.getD (l.map row).length ≤ (l.map row).length) (v := .d (.slice (e.map row))) ?_ ⟨fun q hq => by obtain ⟨z, _, rfl⟩ := List.mem_map.1 hq; exact hsz z, by simpa using h0⟩ (hk e hm)
      simp only [rd, hx, hl, hh, ← he, List.map_drop, List.map_take, List.length_map]
    · cases he
/-- An element of a slice that grows. -/
theorem O_idxVr {R α : Type} {r : R} {l : List α} {row : α → List DV} {sz e id : Nat} {n : Int} {x i : SX} {k : IntKind} {dst : Nat} {kk : α → Option R} (hm : (getI l n).bind kk = some r) (hx : ev s x = .vec id) (hh : h id = .vec e sz (vrow row l)) (hi : ev s i = .d (.int k n))
    (hk : ∀ a, kk a = some r → AOps P K sos ⟨upd s dst (.vref id sz n.toNat 0), h⟩) : AOps P K (.r dst (.idx sz x i) :: sos) ⟨s, h⟩ := by
  cases he : getI l n with
  | none => rw [he] at hm; cases hm
  | some a =>
    rw [he] at hm
    unfold getI at he
    split at he
    · rename_i h0
      obtain ⟨hlt, _⟩ := List.getElem?_eq_some_iff.1 he
      refine O_r (p := 0 ≤ n ∧ n < (vrow row l).length ∧ sz = sz) (v := .vref id sz n.toNat 0) ?_ ⟨h0, by simp only [vrow, List.length_map]; omega, rfl⟩ (hk a hm)
      simp only [rd, hi, hx, hh]
    · cases he
theorem O_ldV1r {R α : Type} {r : R} {l : List α} {row : α → List DV} {sz e id i off : Nat} {x : SX} {dst : Nat} {c : α → DV} {kk : α → Option R} (hm : (l[i]?).bind kk = some r) (hx : ev s x = .vref id sz i off) (hh : h id = .vec e sz (vrow row l)) (hc : ∀ a, (row a)[off]? = some (c a))
    (hk : ∀ a, kk a = some r → AOps P K sos ⟨upd s dst (.d (c a)), h⟩) : AOps P K (.r dst (.ld1 x) :: sos) ⟨s, h⟩ := by
  cases he : l[i]? with
  | none => rw [he] at hm; cases hm
  | some a =>
    rw [he] at hm
    refine O_r (p := sz = sz) (v := .d (c a)) ?_ rfl (hk a hm)
    simp only [rd, hx, hh, vrow, List.getElem?_map, he, Option.map_some, dR, hc a, SV.noOwn, if_true]
end

/-! ### Slots and chunks, read otherwise where that is allowed -/
def svle (x y : SV) : Prop := x = y ∨ ∃ d, x.toDV = some d ∧ y = .d d
def keepT (σ : St) : List (Nat × SV) → Prop
  | [] => True
  | (i, v) :: l => svle (σ.s i) v ∧ keepT σ l
theorem keepT_nil {σ : St} : keepT σ [] := trivial
theorem keepT_cons {s : Nat → SV} {h : Nat → Ch} {i : Nat} {v : SV} {l : List (Nat × SV)} (h1 : svle (s i) v) (h2 : keepT ⟨s, h⟩ l) : keepT ⟨s, h⟩ ((i, v) :: l) := ⟨h1, h2⟩
theorem svle_rfl {x y : SV} (h : x = y) : svle x y := .inl h
theorem svle_dv {x : SV} {d : DV} (h : x.toDV = some d) : svle x (.d d) := .inr ⟨d, h, rfl⟩
theorem svle_eq {x x' y : SV} (h1 : x = x') (h2 : x' = y) : svle x y := .inl (h1.trans h2)
theorem svle_td {x x' : SV} {d d' : DV} (h1 : x = x') (h2 : x'.toDV = some d') (h3 : d' = d) : svle x (.d d) := by subst h1 h3; exact svle_dv h2
theorem svle_rep {w : World} {M : Nat → Prop} {κ : Nat → Value} {x y : SV} {v : Value} (h : svle x y) (hx : RepS w M κ x v) : RepS w M κ y v := by
  rcases h with rfl | ⟨d, h1, rfl⟩
  · exact hx
  · exact RepS.toDV x v d hx h1
theorem imp_svle {σ σ' : St} (hh : σ'.h = σ.h) (hs : ∀ i, svle (σ.s i) (σ'.s i)) : Imp σ σ' := by
  intro c κ φ a w hr
  refine ⟨κ, φ, ?_⟩
  exact { hr with
    slots := fun i hi => svle_rep (hs i) (hr.slots i hi)
    ghost := fun i v hv => svle_rep (hs _) (hr.ghost i v hv)
    chunks := fun id => by rw [hh]; exact hr.chunks id }
theorem lk_keepT {σ : St} : ∀ {l : List (Nat × SV)}, keepT σ l → ∀ i, lk l i = .d .any ∨ svle (σ.s i) (lk l i)
  | [], _, i => .inl rfl
  | (j, v) :: l, h, i => by
    simp only [lk]
    by_cases hij : i = j
    · subst hij; simp only [if_true]; exact .inr h.1
    · simp only [hij, if_false]; exact lk_keepT h.2 i
mutual
theorem toDV_noOwn : ∀ (x : SV) (d : DV), x.toDV = some d → x.noOwn = true
  | .d _, _, _ => rfl
  | .nils, _, _ => rfl
  | .lit _ _ _, _, _ => rfl
  | .agg cs, d, h => by
    unfold SV.toDV at h
    split at h
    · rename_i xs hx; unfold SV.noOwn; exact toDVs_noOwns cs xs hx
    · cases h
  | .tup cs, d, h => by
    unfold SV.toDV at h
    split at h
    · rename_i xs hx; unfold SV.noOwn; exact toDVs_noOwns cs xs hx
    · cases h
  | .ref _ _, _, _ => rfl
  | .vec _, _, _ => rfl
  | .vref _ _ _ _, _, _ => rfl
  | .mp _, _, _ => rfl
  | .own _ _, d, h => by unfold SV.toDV at h; cases h
theorem toDVs_noOwns : ∀ (cs : List SV) (ds : List DV), SV.toDVs cs = some ds → SV.noOwns cs = true
  | [], _, _ => rfl
  | c :: cs, ds, h => by
    unfold SV.toDVs at h
    split at h
    · rename_i x xs h1 h2
      unfold SV.noOwns; rw [toDV_noOwn c x h1, toDVs_noOwns cs xs h2]; rfl
    · cases h
end
theorem svle_repG {w : World} {M : Nat → Prop} {κ : Nat → Value} {x y : SV} {v : Value} {F : List Nat} (h : svle x y) (hx : RepG w M κ x v F) : RepG w M κ y v F := by
  rcases h with rfl | ⟨d, h1, rfl⟩
  · exact hx
  · obtain ⟨h2, rfl⟩ := RepG.to_S x v F (toDV_noOwn x d h1) hx
    unfold RepG; exact ⟨rfl, RepS.toDV x v d h2 h1⟩
/-- The same for cells of what is owned: a nil slice is an owned one too. -/
def cle (x y : SV) : Prop := svle x y ∨ (x = .nils ∧ ∃ e ms, y = .own (.sl e ms) (.slice []))
theorem cle_repG {w : World} {M : Nat → Prop} {κ : Nat → Value} {x y : SV} {v : Value} {F : List Nat} (h : cle x y) (hx : RepG w M κ x v F) : RepG w M κ y v F := by
  rcases h with h | ⟨rfl, e, ms, rfl⟩
  · exact svle_repG h hx
  · simp only [RepG, RepS] at hx
    obtain ⟨rfl, rfl⟩ := hx
    unfold RepG RepO
    exact ⟨[], [], [], rfl, World.ownsRow_nil _ _ _ _, by simp, by simp, ⟨rfl, rfl⟩, rfl⟩
inductive cellsle : List SV → List SV → Prop
  | nil : cellsle [] []
  | cons {x y : SV} {xs ys : List SV} (h : cle x y) (hs : cellsle xs ys) : cellsle (x :: xs) (y :: ys)
theorem cellsle.consS {x y : SV} {xs ys : List SV} (h : svle x y) (hs : cellsle xs ys) : cellsle (x :: xs) (y :: ys) := .cons (.inl h) hs
theorem cellsle.rfl : ∀ {l : List SV}, cellsle l l
  | [] => .nil
  | _ :: _ => .consS (.inl _root_.rfl) cellsle.rfl
theorem cellsle.append {a b c d : List SV} (h : cellsle a b) (k : cellsle c d) : cellsle (a ++ c) (b ++ d) := by
  induction h with
  | nil => exact k
  | cons h _ ih => exact .cons h ih
theorem cellsle.length {a b : List SV} (h : cellsle a b) : b.length = a.length := by
  induction h with
  | nil => exact _root_.rfl
  | cons _ _ ih => simp [ih]
theorem cellsle_rep {w : World} {M : Nat → Prop} {κ : Nat → Value} {xs ys : List SV} (h : cellsle xs ys) : ∀ {vs : List Value} {F : List Nat}, RepGL w M κ xs vs F → RepGL w M κ ys vs F := by
  induction h with
  | nil => intro vs F h; exact h
  | cons h _ ih =>
    intro vs F hr
    unfold RepGL at hr ⊢
    obtain ⟨u, us, F1, F2, h1, h2, h3, h4⟩ := hr
    exact ⟨u, us, F1, F2, h1, h2, cle_repG h h3, ih h4⟩
inductive rowsle : List (List SV) → List (List SV) → Prop
  | nil : rowsle [] []
  | cons {x y : List SV} {xs ys : List (List SV)} (h : cellsle x y) (hs : rowsle xs ys) : rowsle (x :: xs) (y :: ys)
theorem rowsle.rfl : ∀ {l : List (List SV)}, rowsle l l
  | [] => .nil
  | _ :: _ => .cons cellsle.rfl rowsle.rfl
theorem rowsle.of_eq {a b : List (List SV)} (h : a = b) : rowsle a b := h ▸ rowsle.rfl
theorem rowsle.append {a b c d : List (List SV)} (h : rowsle a b) (k : rowsle c d) : rowsle (a ++ c) (b ++ d) := by
  induction h with
  | nil => exact k
  | cons h _ ih => exact .cons h ih
theorem rowsle.flat {a b : List (List SV)} (h : rowsle a b) : cellsle a.flatten b.flatten ∧ b.length = a.length ∧ ∀ sz, (∀ r ∈ a, r.length = sz) → ∀ r ∈ b, r.length = sz := by
  induction h with
  | nil => exact ⟨.nil, _root_.rfl, fun _ h => h⟩
  | cons h _ ih =>
    obtain ⟨h1, h2, h3⟩ := ih
    refine ⟨by simp only [List.flatten_cons]; exact h.append h1, by simp [h2], fun sz hs r hr => ?_⟩
    rcases List.mem_cons.1 hr with rfl | hr
    · rw [h.length]; exact hs _ (by simp)
    · exact h3 sz (fun r hr => hs r (by simp [hr])) r hr
def chle : Ch → Ch → Prop
  | .vec e sz rows, c => ∃ rows', c = .vec e sz rows' ∧ rowsle rows rows'
  | .box cs, c => ∃ cs', c = .box cs' ∧ cellsle cs cs'
  | a, b => a = b
theorem chle_rfl : ∀ {a b : Ch}, a = b → chle a b
  | .vec _ _ _, _, h => ⟨_, h.symm, rowsle.rfl⟩
  | .box _, _, h => ⟨_, h.symm, cellsle.rfl⟩
  | .dead, _, h => h
  | .map _ _, _, h => h
  | .bld _ _ _, _, h => h
theorem chle_eq {a a' b : Ch} (h1 : a = a') (h2 : chle a' b) : chle a b := h1 ▸ h2
theorem chle_vec {e sz : Nat} {a b : List (List SV)} (h : rowsle a b) : chle (.vec e sz a) (.vec e sz b) := ⟨b, rfl, h⟩
theorem chle_box {a b : List SV} (h : cellsle a b) : chle (.box a) (.box b) := ⟨b, rfl, h⟩
theorem chle_rep {w : World} {M : Nat → Prop} {κ : Nat → Value} {id : Nat} {F : List Nat} : ∀ {a b : Ch}, chle a b → RepC w M κ id a F → RepC w M κ id b F
  | .vec e sz rows, b, h, hr => by
    obtain ⟨rows', rfl, h⟩ := h
    obtain ⟨h1, h2, h3⟩ := h.flat
    obtain ⟨xs, G, k1, k2, k3, k4, k5⟩ := hr
    exact ⟨xs, G, by rw [h2]; exact k1, k2, h3 _ k3, cellsle_rep h1 k4, k5⟩
  | .box cs, b, h, hr => by
    obtain ⟨cs', rfl, h⟩ := h
    obtain ⟨b, T, vs, G, k1, k2, k3, k4, k5⟩ := hr
    exact ⟨b, T, vs, G, k1, k2, k3, cellsle_rep h k4, k5⟩
  | .dead, b, h, hr => by cases h; exact hr
  | .map _ _, b, h, hr => by cases h; exact hr
  | .bld _ _ _, b, h, hr => by cases h; exact hr
def keepC (σ : St) : List (Nat × Ch) → Prop
  | [] => True
  | (i, v) :: l => chle (σ.h i) v ∧ keepC σ l
theorem keepC_nil {σ : St} : keepC σ [] := trivial
theorem keepC_cons {s : Nat → SV} {h : Nat → Ch} {i : Nat} {v : Ch} {l : List (Nat × Ch)} (h1 : chle (h i) v) (h2 : keepC ⟨s, h⟩ l) : keepC ⟨s, h⟩ ((i, v) :: l) := ⟨h1, h2⟩
theorem imp_le {σ σ' : St} (hs : ∀ i, svle (σ.s i) (σ'.s i)) (hh : ∀ i, chle (σ.h i) (σ'.h i)) : Imp σ σ' := by
  intro c κ φ a w hr
  refine ⟨κ, φ, ?_⟩
  exact { hr with
    slots := fun i hi => svle_rep (hs i) (hr.slots i hi)
    ghost := fun i v hv => svle_rep (hs _) (hr.ghost i v hv)
    chunks := fun id => chle_rep (hh id) (hr.chunks id) }
open Classical in
theorem imp_stT {σ : St} {l : List (Nat × SV)} {hl : List (Nat × Ch)} (hs : keepT σ l) (hh : keepC σ hl) : Imp σ (st l hl) := by
  have hk : ∀ {hl : List (Nat × Ch)}, keepC σ hl → ∀ i, lh hl i = .dead ∨ chle (σ.h i) (lh hl i) := by
    intro hl
    induction hl with
    | nil => intro _ i; exact .inl rfl
    | cons p hl ih =>
      obtain ⟨j, v⟩ := p
      intro hk i
      simp only [lh]
      by_cases hij : i = j
      · subst hij; simp only [if_true]; exact .inr hk.1
      · simp only [hij, if_false]; exact ih hk.2 i
  have h1 : Imp σ ⟨fun i => if lk l i = .d .any then σ.s i else lk l i, fun i => if lh hl i = .dead then σ.h i else lh hl i⟩ := imp_le (fun i => by
    by_cases hi : lk l i = .d .any
    · simp only [hi, if_true]; exact .inl rfl
    · simp only [hi, if_false]
      rcases lk_keepT hs i with h | h
      · exact absurd h hi
      · exact h) (fun i => by
    by_cases hi : lh hl i = .dead
    · simp only [hi, if_true]; exact chle_rfl rfl
    · simp only [hi, if_false]
      rcases hk hh i with h | h
      · exact absurd h hi
      · exact h)
  refine h1.trans (imp_weak (fun i => ?_) (fun i => ?_))
  · by_cases hi : lk l i = .d .any
    · exact .inr hi
    · refine .inl ?_; simp only [hi, if_false]
  · by_cases hi : lh hl i = .dead
    · exact .inr hi
    · refine .inl ?_; simp only [hi, if_false]

/-! ### Rows are told as lists of plain values -/
section
variable {α : Type} {row : α → List DV}
theorem dv_slice {l l' : List (List DV)} (h : l = l') : DV.slice l = DV.slice l' := by rw [h]
theorem fold_nil : ([] : List (List DV)) = ([] : List α).map row := rfl
theorem fold_cons {r : List DV} {rs : List (List DV)} {a : α} {l : List α} (h1 : r = row a) (h2 : rs = l.map row) : r :: rs = (a :: l).map row := by rw [h1, h2]; rfl
theorem repR_vrow (id : Nat) (dv : DV) (l : List α) : repR id dv (vrow row l) = vrow row l := repR_dR id dv _
theorem frzR_vrow (l : List α) : SV.frzR (vrow row l) = some (l.map row) := frzR_dR _
theorem vrow_length (l : List α) : (vrow row l).length = l.length := by simp [vrow]
theorem f_tup {a b : List DV} (h : a = b) : DV.tup a = DV.tup b := by rw [h]
theorem f_agg {a b : List DV} (h : a = b) : DV.agg a = DV.agg b := by rw [h]
theorem f_cons {a b : DV} {l l' : List DV} (h : a = b) (k : l = l') : a :: l = b :: l' := by rw [h, k]
theorem f_byte (n : Int) (h : 0 ≤ n ∧ n < 256) : DV.int .u8 n = DV.int .u8 ((UInt8.ofNat n.toNat).toNat : Int) := by
  rw [UInt8.toNat_ofNat_of_lt' (by show n.toNat < 256; omega)]
  congr 1; omega
theorem r_nil : rowsle [] (vrow row ([] : List α)) := .nil
theorem r_rfl {l : List α} : rowsle (vrow row l) (vrow row l) := rowsle.rfl
end
section
variable {P : Program} {s : Nat → SV} {h : Nat → Ch} {K : St → Prop} {sos : List SO} {α : Type} {row : α → List DV}
theorem vrow_all {sz : Nat} (hsz : ∀ e, (row e).length = sz) (l : List α) : ∀ r ∈ vrow row l, r.length = sz := by
  intro r hr
  simp only [vrow, List.map_map, List.mem_map, Function.comp] at hr
  obtain ⟨a, _, rfl⟩ := hr
  simp [dR, hsz]
theorem vrow_append (l l' : List α) : vrow row l ++ vrow row l' = vrow row (l ++ l') := by simp [vrow]
theorem svle_slot {n : Nat} {v : SV} (hv : svle (s n) v) : Imp ⟨s, h⟩ ⟨upd s n v, h⟩ := imp_svle rfl fun i => by
  by_cases hi : i = n
  · subst hi; simp only [upd, if_true]; exact hv
  · simp only [upd, hi, if_false]; exact .inl rfl
/-- A growing slice: more is put behind. -/
theorem O_appV {R : Type} {r : R} {l l2 : List α} {m n dst e sz id : Nat} {Y : SV} {d : DV} {kk : Option R} (hm : thenO (lenO (l.length + l2.length)) kk = some r) (hx : s m = .vec id) (hh : h id = .vec e sz (vrow row l)) (hy : s n = Y) (hd : Y.toDV = some d) (he : d = .slice (l2.map row)) (hne : m ≠ n) (hsz : ∀ a, (row a).length = sz)
    (hk : kk = some r → AOps P K sos ⟨upd (repS id .any (upd s n (.d (.slice (l2.map row))))) dst (.vec id), upd (repH id .any h) id (.vec e sz (vrow row (l ++ l2)))⟩) : AOps P K (.w dst (.app e sz (.t m) (.t n)) :: sos) ⟨s, h⟩ := by
  cases hl : lenO (l.length + l2.length) with
  | none => rw [hl] at hm; cases hm
  | some u =>
    rw [hl] at hm
    have hlen := lenO_some.1 hl
    refine O_wI (svle_slot (n := n) (v := .d (.slice (l2.map row))) (by rw [hy]; exact svle_dv (he ▸ hd))) (p := e = e ∧ sz = sz ∧ (∀ r ∈ (l2.map row).map dR, r.length = sz) ∧ (vrow row l).length + ((l2.map row).map dR).length ≤ 137438953472) ?_ ⟨rfl, rfl, vrow_all hsz l2, by simp only [vrow_length, List.length_map]; exact hlen⟩ (hk hm)
    simp only [wr, ev, upd, hne, if_false, if_true, hx, rowsY, SV.toDV, hh, growTo, St.swap]
    rw [show (l2.map row).map dR = vrow row l2 from rfl, vrow_append, repR_vrow]
theorem O_appN {R : Type} {r : R} {l2 : List α} {m n dst e sz : Nat} {Y : SV} {d : DV} {kk : Option R} (hm : thenO (lenO l2.length) kk = some r) (hx : s m = .nils) (hy : s n = Y) (hd : Y.toDV = some d) (he : d = .slice (l2.map row)) (hne : m ≠ n) (hsz : ∀ a, (row a).length = sz)
    (hk : kk = some r → AOps P K sos ⟨upd (repS dst .any (upd s n (.d (.slice (l2.map row))))) dst (.vec dst), upd (repH dst .any h) dst (.vec e sz (vrow row l2))⟩) : AOps P K (.w dst (.app e sz (.t m) (.t n)) :: sos) ⟨s, h⟩ := by
  cases hl : lenO l2.length with
  | none => rw [hl] at hm; cases hm
  | some u =>
    rw [hl] at hm
    have hlen := lenO_some.1 hl
    refine O_wI (svle_slot (n := n) (v := .d (.slice (l2.map row))) (by rw [hy]; exact svle_dv (he ▸ hd))) (p := (∀ r ∈ (l2.map row).map dR, r.length = sz) ∧ ((l2.map row).map dR).length ≤ 137438953472) ?_ ⟨vrow_all hsz l2, by simp only [List.length_map]; exact hlen⟩ (hk hm)
    simp only [wr, ev, upd, hne, if_false, if_true, hx, rowsY, SV.toDV, growTo, St.swap]
    rw [show (l2.map row).map dR = vrow row l2 from rfl, repR_vrow]
theorem stV_wr {l : List α} {a : α} {f : α → α} {e sz id i off n : Nat} {p v : SX} {vs : List SV} (hx : ev s p = .vref id sz i off) (hh : h id = .vec e sz (vrow row l)) (hv : (ev s v).cells? = some vs) (hn : (vs.length == n) = true) (hc : ∀ a, splice (dR (row a)) off vs = dR (row (f a))) (hsz : ∀ a, (row a).length = sz) (ho : (decide (off + n ≤ sz)) = true) (ha : l[i]? = some a) (dst : Nat) :
    ∃ q, wr ⟨s, h⟩ dst (.st n p v) = some (q, ⟨s, upd h id (.vec e sz (vrow row (l.set i (f a))))⟩) ∧ q := by
  have hri : (vrow row l)[i]? = some (dR (row a)) := by simp [vrow, List.getElem?_map, ha]
  refine ⟨sz = sz ∧ vs.length = n ∧ off + n ≤ (dR (row a)).length, ?_, rfl, by simpa using hn, by simpa [dR, hsz] using ho⟩
  simp only [wr, hx, hh, hv, hri, hc a]
  congr 2
  simp [vrow, List.map_set]
theorem O_stVX {R : Type} {r : R} {l : List α} {f : α → α} {cs : α → List SV} {dst e sz id i off n : Nat} {p v : SX} {vs : List SV} {late : List (Nat × Nat × ROp)} {kk : α → Option R} (hm : (l[i]?).bind kk = some r) (hx : ev s p = .vref id sz i off) (hh : h id = .vec e sz (vrow row l)) (hv : (ev s v).cells? = some vs) (hn : (vs.length == n) = true) (hsz : ∀ a, (row a).length = sz) (ho : (decide (off + n ≤ sz)) = true) (hc0 : ∀ a, splice (dR (row a)) off vs = cs a) (hc1 : ∀ a, cs a = dR (row (f a)))
    (hl : ∀ a, Rer ⟨s, upd h id (.vec e sz (vrow row (l.set i (f a))))⟩ late)
    (hk : ∀ a, kk a = some r → AOps P K sos ⟨s, upd h id (.vec e sz (vrow row (l.set i (f a))))⟩) : AOps P K (.x dst (.st n p v) late :: sos) ⟨s, h⟩ := by
  cases ha : l[i]? with
  | none => rw [ha] at hm; cases hm
  | some a =>
    rw [ha] at hm
    obtain ⟨q, h1, h2⟩ := stV_wr hx hh hv hn (fun a => (hc0 a).trans (hc1 a)) hsz ho ha dst
    exact O_x h1 h2 (hl a) (hk a hm)
theorem O_ldAVr {R α : Type} {r : R} {l : List α} {row : α → List DV} {sz n e id i : Nat} {x : SX} {dst : Nat} {kk : α → Option R} (hm : (l[i]?).bind kk = some r) (hx : ev s x = .vref id sz i 0) (hh : h id = .vec e sz (vrow row l)) (hsz : ∀ a, (row a).length = n)
    (hk : ∀ a, kk a = some r → AOps P K sos ⟨upd s dst (.agg (dR (row a))), h⟩) : AOps P K (.r dst (.ldA n x) :: sos) ⟨s, h⟩ := by
  cases he : l[i]? with
  | none => rw [he] at hm; cases hm
  | some a =>
    rw [he] at hm
    have hn : SV.noOwns (dR (row a)) = true := by
      have : ∀ l : List DV, SV.noOwns (dR l) = true := fun l => by induction l with | nil => rfl | cons d l ih => simpa [dR, SV.noOwns, SV.noOwn] using ih
      exact this _
    have ht : (dR (row a)).take n = dR (row a) := List.take_of_length_le (by simp [dR, hsz])
    refine O_r (p := sz = sz ∧ 0 + n ≤ (dR (row a)).length) (v := .agg (dR (row a))) ?_ ⟨rfl, by simp [dR, hsz]⟩ (hk a hm)
    simp only [rd, hx, hh, vrow, List.getElem?_map, he, Option.map_some, List.drop_zero, ht, hn, if_true]
end

attribute [push_cast] mixF_app memN repR_vrow frzR_vrow vrow_length rowI rowY rowS rowB rowL List.length_map
end Go.Proofs.YtcnohbiegjahkaaGreatDoor

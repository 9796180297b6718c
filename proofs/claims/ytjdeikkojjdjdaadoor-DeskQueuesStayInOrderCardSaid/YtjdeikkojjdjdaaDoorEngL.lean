/-
  The engine, part L: statements; the contract of a function out of the walk of its body.
-/
import Derived.Test.YtjdeikkojjdjdaaDoorEngK
import Derived.LoopN
namespace Go.Proofs.YtjdeikkojjdjdaaDoor
set_option linter.unusedSimpArgs false
set_option linter.unusedVariables false
open Go.RowKit

/-- Steps of the proof's own, between statements: a slice that is done becomes data; a nil slice is one that can grow. -/
inductive Gh where
  | freeze (id : Nat)
  | vecnil (slot id e sz : Nat)

inductive SC where
  | skip
  | reg (ops : List SO)
  | regD (ops : List SO)
  | seq (x y : SC)
  | cut (x y : SC)
  | cond (c : SX) (x y : SC)
  | block (id : Nat) (x : SC)
  | loop (x : SC)
  | exit (id : Nat)
  | ret
  | gh (g : Gh) (x : SC)

inductive AX where
  | normal
  | exit (id : Nat)
  | ret
  deriving DecidableEq

def Gh.app (σ : St) : Gh → Option St
  | .freeze id => match σ.h id with
    | .vec _ _ rows => some (σ.swap id (.slice rows) .dead)
    | _ => none
  | .vecnil slot id e sz => match σ.s slot with
    | .nils => some { σ.swap id .any (.vec e sz []) with s := upd (repS id .any σ.s) slot (.vec id) }
    | _ => none

def AIter (W : (AX → St → Prop) → St → Prop) (Q : AX → St → Prop) : Nat → St → Prop
  | 0, _ => False
  | n + 1, σ => W (fun e σ' => match e with | .normal => AIter W Q n σ' | .exit i => Q (.exit i) σ' | .ret => Q .ret σ') σ

/-- The walk over statements. -/
def AW (P : Program) : SC → (AX → St → Prop) → St → Prop
  | .skip, Q, σ => Q .normal σ
  | .reg ops, Q, σ => AOps P (Q .normal) ops σ
  | .regD ops, Q, σ => AOps P (Q .normal) ops σ
  | .seq x y, Q, σ => AW P x (fun e σ' => match e with | .normal => AW P y Q σ' | .exit i => Q (.exit i) σ' | .ret => Q .ret σ') σ
  | .cut x y, Q, σ => AW P x (fun e σ' => match e with | .normal => AW P y Q σ' | .exit i => Q (.exit i) σ' | .ret => Q .ret σ') σ
  | .cond c x y, Q, σ => match ev σ.s c with
    | .d (.bool b) => (b = true → AW P x Q σ) ∧ (b = false → AW P y Q σ)
    | _ => False
  | .block id x, Q, σ => AW P x (fun e σ' => match e with | .normal => Q .normal σ' | .exit i => if i = id then Q .normal σ' else Q (.exit i) σ' | .ret => Q .ret σ') σ
  | .loop x, Q, σ => ∃ n, AIter (AW P x) Q n σ
  | .exit id, Q, σ => Q (.exit id) σ
  | .ret, Q, σ => Q .ret σ
  | .gh g x, Q, σ => match g.app σ with
    | some σ' => AW P x Q σ'
    | none => False

theorem AW_mono {P : Program} : ∀ (c : SC) {Q Q' : AX → St → Prop} {σ : St}, (∀ e σ, Q e σ → Q' e σ) → AW P c Q σ → AW P c Q' σ := by
  have aops : ∀ (ops : List SO) {K K' : St → Prop} {σ : St}, (∀ σ, K σ → K' σ) → AOps P K ops σ → AOps P K' ops σ := by
    have ao : ∀ (o : SO) {K K' : St → Prop} {σ : St}, (∀ σ, K σ → K' σ) → AO P o σ K → AO P o σ K' := by
      intro o
      induction o with
      | r dst op => intro K K' σ h ha; simp only [AO] at *; split at ha <;> first | exact ⟨ha.1, h _ ha.2⟩ | exact ha.elim
      | c dst f args => intro K K' σ h ha; simp only [AO] at *; split at ha <;> first | exact let ⟨r, h1, h2⟩ := ha; ⟨r, h1, h _ h2⟩ | exact ha.elim
      | w dst op => intro K K' σ h ha; simp only [AO] at *; split at ha <;> first | exact ⟨ha.1, h _ ha.2⟩ | exact ha.elim
      | g t want dst o ih => intro K K' σ h ha; simp only [AO] at *; split at ha <;> first | exact ⟨fun hb => ih h (ha.1 hb), fun hb => h _ (ha.2 hb)⟩ | exact h _ ha | exact ha.elim
    intro ops
    induction ops with
    | nil => intro K K' σ h ha; exact h _ ha
    | cons o l ih => intro K K' σ h ha; exact ao o (fun σ => ih h) ha
  intro c
  induction c with
  | skip => intro Q Q' σ h ha; exact h _ _ ha
  | reg ops => intro Q Q' σ h ha; exact aops ops (h .normal) ha
  | regD ops => intro Q Q' σ h ha; exact aops ops (h .normal) ha
  | seq x y ihx ihy =>
    intro Q Q' σ h ha
    refine ihx (fun e σ' he => ?_) ha
    cases e with
    | normal => exact ihy h he
    | exit i => exact h _ _ he
    | ret => exact h _ _ he
  | cut x y ihx ihy =>
    intro Q Q' σ h ha
    refine ihx (fun e σ' he => ?_) ha
    cases e with
    | normal => exact ihy h he
    | exit i => exact h _ _ he
    | ret => exact h _ _ he
  | cond c x y ihx ihy =>
    intro Q Q' σ h ha
    simp only [AW] at *
    split at ha
    · exact ⟨fun hb => ihx h (ha.1 hb), fun hb => ihy h (ha.2 hb)⟩
    · exact ha.elim
  | block id x ih =>
    intro Q Q' σ h ha
    refine ih (fun e σ' he => ?_) ha
    cases e with
    | normal => exact h _ _ he
    | exit i => simp only at *; split at he <;> simp_all
    | ret => exact h _ _ he
  | loop x ih =>
    intro Q Q' σ h ha
    obtain ⟨n, hn⟩ := ha
    refine ⟨n, ?_⟩
    revert σ
    induction n with
    | zero => intro σ hn; exact hn.elim
    | succ n ihn =>
      intro σ hn
      refine ih (fun e σ' he => ?_) hn
      cases e with
      | normal => exact ihn he
      | exit i => exact h _ _ he
      | ret => exact h _ _ he
  | exit id => intro Q Q' σ h ha; exact h _ _ ha
  | ret => intro Q Q' σ h ha; exact h _ _ ha
  | gh g x ih =>
    intro Q Q' σ h ha
    simp only [AW] at *
    split at ha
    · exact ih h ha
    · exact ha.elim

/-- Where ways meet: what holds behind the first statement. -/
theorem AW_cut {P : Program} {x y : SC} {Q : AX → St → Prop} {σ : St} (R : St → Prop) (hx : AW P x (fun e σ' => match e with | .normal => R σ' | .exit i => Q (.exit i) σ' | .ret => Q .ret σ') σ) (hy : ∀ σ', R σ' → AW P y Q σ') : AW P (.cut x y) Q σ := by
  refine AW_mono x (fun e σ' he => ?_) hx
  cases e with
  | normal => exact hy _ he
  | exit i => exact he
  | ret => exact he

/-- A loop: what holds at the head of each round, and a number that each round lowers. -/
theorem AW_loop {P : Program} {x : SC} {Q : AX → St → Prop} {σ : St} (I : Nat → St → Prop) (m : Nat) (h0 : I m σ)
    (hround : ∀ m σ, I m σ → AW P x (fun e σ' => match e with | .normal => ∃ m', m' < m ∧ I m' σ' | .exit i => Q (.exit i) σ' | .ret => Q .ret σ') σ) : AW P (.loop x) Q σ := by
  have key : ∀ n m σ, m < n → I m σ → AIter (AW P x) Q n σ := by
    intro n
    induction n with
    | zero => intro m σ h; omega
    | succ n ih =>
      intro m σ hm hI
      refine AW_mono x (fun e σ' he => ?_) (hround m σ hI)
      cases e with
      | normal => obtain ⟨m', h1, h2⟩ := he; exact ih m' σ' (by omega) h2
      | exit i => exact he
      | ret => exact he
  exact ⟨m + 1, key (m + 1) m σ (by omega) h0⟩

def matchC (P : Program) (N : Nat) : SC → Code → Bool
  | .gh _ x, c => matchC P N x c
  | .skip, .skip => true
  | .reg sos, .region _ ops false => matchOps P N ops ops.toList sos
  | .regD sos, .region _ ops true => matchOps P N ops ops.toList sos && (match dsts sos with | some ds => decide ds.Nodup && lexOk ops ds 0 ops.toList sos | none => false)
  | .seq x y, .seq a b => matchC P N x a && matchC P N y b
  | .cut x y, .seq a b => matchC P N x a && matchC P N y b
  | .cond t x y, .cond o a b => matchX N o t && matchC P N x a && matchC P N y b
  | .block i x, .block j a => i == j && matchC P N x a
  | .loop x, .loop a => matchC P N x a
  | .exit i, .exit j => i == j
  | .ret, .ret => true
  | _, _ => false

section
variable {P : Program} {B : Nat} {w0 : World} {M0 : Nat → Prop} {N : Nat}

/-- What the walk's post says of the model's. -/
def PostOf (B : Nat) (w0 : World) (M0 : Nat → Prop) (N : Nat) (Q : AX → St → Prop) (R : Exit → Act → World → Prop) : Prop :=
  (∀ σ κ a w, Ref B w0 M0 N σ κ a w → Q .normal σ → R .normal a w) ∧
  (∀ i σ κ a w, Ref B w0 M0 N σ κ a w → Q (.exit i) σ → R (.exit i) a w) ∧
  (∀ σ κ a w, Ref B w0 M0 N σ κ a w → Q .ret σ → R .ret a w)

theorem aw_sound (hmix : P.follows .mixedOrders = true) : ∀ (x : SC) (c : Code) {Q : AX → St → Prop} {R : Exit → Act → World → Prop} {σ : St} {κ : Nat → Value} {a : Act} {w : World}, matchC P N x c = true → PostOf B w0 M0 N Q R → Ref B w0 M0 N σ κ a w → AW P x Q σ → c.wp P R a w
  | .skip, c, Q, R, σ, κ, a, w, hm, hp, hr, h => by
    cases c <;> simp [matchC] at hm
    exact wp_skip (hp.1 _ _ _ _ hr h)
  | .reg sos, c, Q, R, σ, κ, a, w, hm, hp, hr, h => by
    obtain ⟨id, ops, rfl, hm⟩ : ∃ id ops, c = .region id ops false ∧ matchOps P N ops ops.toList sos = true := by
      cases c with
      | region id ops draw => cases draw with
        | false => exact ⟨id, ops, rfl, hm⟩
        | true => simp [matchC] at hm
      | _ => simp [matchC] at hm
    exact region_sound (K := Q .normal) (fun σ' κ' a' w' hr' hk => hp.1 _ _ _ _ hr' hk) hm hr h
  | .regD sos, c, Q, R, σ, κ, a, w, hm, hp, hr, h => by
    obtain ⟨id, ops, rfl, h1, h2⟩ : ∃ id ops, c = .region id ops true ∧ matchOps P N ops ops.toList sos = true ∧ (match dsts sos with | some ds => decide ds.Nodup && lexOk ops ds 0 ops.toList sos | none => false) = true := by
      cases c with
      | region id ops draw => cases draw with
        | true => simp only [matchC, Bool.and_eq_true] at hm; exact ⟨id, ops, rfl, hm.1, hm.2⟩
        | false => simp [matchC] at hm
      | _ => simp [matchC] at hm
    split at h2
    · rename_i ds hds
      simp only [Bool.and_eq_true, decide_eq_true_eq] at h2
      exact drawn_sound (K := Q .normal) hmix (fun σ' κ' a' w' hr' hk => hp.1 _ _ _ _ hr' hk) h1 hds h2.1 h2.2 hr h
    · cases h2
  | .seq x y, c, Q, R, σ, κ, a, w, hm, hp, hr, h => by
    cases c <;> simp only [matchC, Bool.false_eq_true, Bool.and_eq_true] at hm
    refine wp_seq (aw_sound hmix x _ (κ := κ) hm.1 ⟨?_, ?_, ?_⟩ hr h)
    · intro σ' κ' a' w' hr' hq; exact aw_sound hmix y _ hm.2 hp hr' hq
    · intro i σ' κ' a' w' hr' hq; exact hp.2.1 _ _ _ _ _ hr' hq
    · intro σ' κ' a' w' hr' hq; exact hp.2.2 _ _ _ _ hr' hq
  | .cut x y, c, Q, R, σ, κ, a, w, hm, hp, hr, h => by
    cases c <;> simp only [matchC, Bool.false_eq_true, Bool.and_eq_true] at hm
    refine wp_seq (aw_sound hmix x _ (κ := κ) hm.1 ⟨?_, ?_, ?_⟩ hr h)
    · intro σ' κ' a' w' hr' hq; exact aw_sound hmix y _ hm.2 hp hr' hq
    · intro i σ' κ' a' w' hr' hq; exact hp.2.1 _ _ _ _ _ hr' hq
    · intro σ' κ' a' w' hr' hq; exact hp.2.2 _ _ _ _ hr' hq
  | .cond t x y, c, Q, R, σ, κ, a, w, hm, hp, hr, h => by
    cases c <;> simp only [matchC, Bool.false_eq_true, Bool.and_eq_true] at hm
    simp only [AW] at h
    have ht := matchX_rep hr hm.1.1
    split at h
    · rename_i b hb
      rw [hb] at ht
      simp only [RepS, Rep] at ht
      exact wp_cond_split ht (fun hb => aw_sound hmix x _ hm.1.2 hp hr (h.1 hb)) (fun hb => aw_sound hmix y _ hm.2 hp hr (h.2 hb))
    · exact h.elim
  | .block i x, c, Q, R, σ, κ, a, w, hm, hp, hr, h => by
    cases c <;> simp only [matchC, Bool.false_eq_true, Bool.and_eq_true, beq_iff_eq] at hm
    obtain ⟨rfl, hm⟩ := hm
    refine wp_block (aw_sound hmix x _ (κ := κ) hm ⟨?_, ?_, ?_⟩ hr h)
    · intro σ' κ' a' w' hr' hq; exact hp.1 _ _ _ _ hr' hq
    · intro j σ' κ' a' w' hr' hq
      simp only [Exit.inBlock]
      by_cases hj : j = i
      · simp only [hj, if_true] at hq ⊢; exact hp.1 _ _ _ _ hr' hq
      · simp only [hj, if_false] at hq ⊢; exact hp.2.1 _ _ _ _ _ hr' hq
    · intro σ' κ' a' w' hr' hq; exact hp.2.2 _ _ _ _ hr' hq
  | .loop x, c, Q, R, σ, κ, a, w, hm, hp, hr, h => by
    cases c <;> simp only [matchC, Bool.false_eq_true] at hm
    rename_i body
    obtain ⟨n, hn⟩ := h
    refine wp_loop_rounds n ?_
    have key : ∀ n σ κ a w, Ref B w0 M0 N σ κ a w → AIter (AW P x) Q n σ → Code.rounds P body R n a w := by
      intro n
      induction n with
      | zero => intro σ κ a w hr h; exact h.elim
      | succ n ih =>
        intro σ κ a w hr h
        rw [rounds_succ]
        refine aw_sound hmix x _ (κ := κ) hm ⟨?_, ?_, ?_⟩ hr h
        · intro σ' κ' a' w' hr' hq; exact ih _ _ _ _ hr' hq
        · intro i σ' κ' a' w' hr' hq; exact hp.2.1 _ _ _ _ _ hr' hq
        · intro σ' κ' a' w' hr' hq; exact hp.2.2 _ _ _ _ hr' hq
    exact key n σ κ a w hr hn
  | .exit i, c, Q, R, σ, κ, a, w, hm, hp, hr, h => by
    cases c <;> simp only [matchC, Bool.false_eq_true, beq_iff_eq] at hm
    subst hm
    exact wp_exit (hp.2.1 _ _ _ _ _ hr h)
  | .ret, c, Q, R, σ, κ, a, w, hm, hp, hr, h => by
    cases c <;> simp [matchC] at hm
    exact wp_ret (hp.2.2 _ _ _ _ hr h)
  | .gh g x, c, Q, R, σ, κ, a, w, hm, hp, hr, h => by
    simp only [matchC] at hm
    simp only [AW] at h
    split at h
    · rename_i σ' hg
      cases g with
      | freeze id =>
        simp only [Gh.app] at hg
        split at hg
        · rename_i e sz rows hv
          simp only [Option.some.injEq] at hg; subst hg
          exact aw_sound hmix x c hm hp (hr.freeze hv) h
        · cases hg
      | vecnil slot id e sz =>
        simp only [Gh.app] at hg
        split at hg
        · rename_i hs
          simp only [Option.some.injEq] at hg; subst hg
          exact aw_sound hmix x c hm hp (hr.vecnil hs) h
        · cases hg
    · exact h.elim
end

mutual
/-- What a slot's value says when the function is over. -/
def SV.fin (h : Nat → Ch) : SV → Option DV
  | .d v => some v
  | .nils => some (.slice [])
  | .agg cs => match SV.finL h cs with | some xs => some (.agg xs) | none => none
  | .vec id => match h id with | .vec _ _ rows => some (.slice rows) | _ => none
  | .ref _ _ => none
  | .vref _ _ _ _ => none
  | .mp _ => none
def SV.finL (h : Nat → Ch) : List SV → Option (List DV)
  | [] => some []
  | c :: cs => match SV.fin h c, SV.finL h cs with | some x, some xs => some (x :: xs) | _, _ => none
end

section
variable {P : Program} {B : Nat} {w0 : World} {M0 : Nat → Prop} {N : Nat} {σ : St} {κ : Nat → Value} {a : Act} {w : World}

theorem Ref.shrink (_hr : Ref B w0 M0 N σ κ a w) : Ext w (own M0 σ.h κ) w M0 := Ext.shrink fun b hb => .inl hb

mutual
theorem fin_rep (hr : Ref B w0 M0 N σ κ a w) : ∀ (x : SV) (v : Value) (d : DV), RepS w (own M0 σ.h κ) κ x v → SV.fin σ.h x = some d → Rep w M0 d v
  | .d x, v, d, h, hf => by
    simp only [SV.fin, Option.some.injEq] at hf; subst hf
    exact h.d.ext hr.shrink
  | .nils, v, d, h, hf => by
    simp only [SV.fin, Option.some.injEq] at hf; subst hf
    simp only [RepS] at h; subst h; unfold Rep
    exact ⟨none, 0, rfl, Nat.le_refl _, fun _ => rfl, .inl rfl⟩
  | .agg cs, v, d, h, hf => by
    simp only [SV.fin] at hf
    split at hf
    · rename_i xs hxs
      simp only [Option.some.injEq] at hf; subst hf
      simp only [RepS] at h
      obtain ⟨vs, h1, h2, h3⟩ := h
      unfold Rep
      exact ⟨vs, h1, h2, finL_rep hr cs vs xs h3 hxs⟩
    · cases hf
  | .vec id, v, d, h, hf => by
    simp only [SV.fin] at hf
    split at hf
    · rename_i e sz rows hv
      simp only [Option.some.injEq] at hf; subst hf
      simp only [RepS] at h; subst h
      have hch := hr.chunks id
      rw [hv] at hch
      obtain ⟨xs, h1, h2, h3, h4⟩ := hch
      have h4' := h4.ext hr.shrink
      unfold Rep
      rcases h1.2 with ⟨hk, hn⟩ | ⟨g, cap, cur, hk, hB, hg, hcap, _, hcur, htake⟩
      · have : rows = [] := List.length_eq_zero_iff.1 hn
        subst this
        exact ⟨none, 0, hk, Nat.le_refl _, fun _ => rfl, .inl rfl⟩
      · refine ⟨some ⟨g, 0, none⟩, cap, hk, hcap, by simp, .inr ⟨g, 0, sz, rfl, fun h0 => ?_, (Array.getElem?_eq_some_iff.1 hg).1, ?_⟩⟩
        · have := hr.m0 g h0
          omega
        · rw [RepRows.iff]
          refine ⟨h3, RepAt.of_row hg h4' h2 fun j v hj => ?_⟩
          rw [← htake, List.getElem?_take] at hj
          split at hj
          · simpa using hj
          · cases hj
    · cases hf
  | .ref _ _, v, d, h, hf => by simp [SV.fin] at hf
  | .vref _ _ _ _, v, d, h, hf => by simp [SV.fin] at hf
  | .mp _, v, d, h, hf => by simp [SV.fin] at hf
theorem finL_rep (hr : Ref B w0 M0 N σ κ a w) : ∀ (cs : List SV) (vs : List Value) (ds : List DV), RepSL w (own M0 σ.h κ) κ cs vs → SV.finL σ.h cs = some ds → RepL w M0 ds vs
  | [], vs, ds, h, hf => by
    simp only [SV.finL, Option.some.injEq] at hf; subst hf
    simp only [RepSL] at h; unfold RepL; exact h
  | c :: cs, vs, ds, h, hf => by
    simp only [SV.finL] at hf
    split at hf
    · rename_i x xs hx hxs
      simp only [Option.some.injEq] at hf; subst hf
      simp only [RepSL] at h
      obtain ⟨u, us, h1, h2, h3⟩ := h
      unfold RepL
      exact ⟨u, us, h1, fin_rep hr c u x h2 hx, finL_rep hr cs us xs h3 hxs⟩
    · cases hf
end
end

/-- How a function's results are read: out of a slot, or (a struct) out of a variable. -/
inductive RV where
  | t (n : Nat)
  | cell (n sz : Nat)

def RV.get (σ : St) : RV → Option DV
  | .t n => SV.fin σ.h (σ.s n)
  | .cell n sz => match σ.s n with
    | .d (.ptr cs) => if sz ≤ cs.length then some (.agg (cs.take sz)) else none
    | .ref id off => match σ.h id with
      | .box cs => if off = 0 ∧ sz = cs.length then (match SV.finL σ.h cs with | some l => some (.agg l) | none => none) else none
      | _ => none
    | _ => none

def resL (σ : St) : List RV → Option (List DV)
  | [] => some []
  | r :: rs => match r.get σ, resL σ rs with | some x, some xs => some (x :: xs) | _, _ => none

def resOf (σ : St) (rs : List RV) : Option DV :=
  match resL σ rs with
  | some [x] => some x
  | some l => some (.tup l)
  | none => none

def matchRV (P : Program) (N : Nat) : ResultVar → RV → Bool
  | .tmp t, .t n => t == n && decide (n < N)
  | .cell a t, .cell n sz => a == n && decide (n < N) && (match P.underlying t with | some d => isAggD d | none => false) && (P.info? t).isSome && P.cellsOf t == sz
  | _, _ => false

def matchRVs (P : Program) (N : Nat) : List ResultVar → List RV → Bool
  | [], [] => true
  | r :: rs, q :: qs => matchRV P N r q && matchRVs P N rs qs
  | _, _ => false

section
variable {P : Program} {B : Nat} {w0 : World} {M0 : Nat → Prop} {N : Nat} {σ : St} {κ : Nat → Value} {a : Act} {w : World}

theorem rv_run (hr : Ref B w0 M0 N σ κ a w) {r : ResultVar} {q : RV} (hm : matchRV P N r q = true) {d : DV} (hg : q.get σ = some d) :
    ∃ v, (match r with | .tmp t => pure (a.tmps.getD t undef) | .cell a' t => do loadVar t (← asAddr (a.tmps.getD a' undef)) : Sem Value).run P w = .ok v w ∧ Rep w M0 d v := by
  cases r with
  | tmp t =>
    cases q with
    | t n =>
      simp only [matchRV, Bool.and_eq_true, beq_iff_eq, decide_eq_true_eq] at hm
      obtain ⟨rfl, hn⟩ := hm
      exact ⟨_, rfl, fin_rep hr _ _ _ (hr.slots t hn) hg⟩
    | cell _ _ => simp [matchRV] at hm
  | cell a' t =>
    cases q with
    | t n => simp [matchRV] at hm
    | cell n sz =>
      simp only [matchRV, Bool.and_eq_true, beq_iff_eq, decide_eq_true_eq] at hm
      obtain ⟨⟨⟨⟨rfl, hn⟩, h2⟩, h3⟩, rfl⟩ := hm
      split at h2
      · rename_i td htd
        have hs := hr.slots a' hn
        simp only [RV.get] at hg
        split at hg
        · rename_i cs heq
          rw [heq] at hs
          simp only [RepS, Rep] at hs
          obtain ⟨b, o, hv, hm', hlt, hat⟩ := hs
          split at hg
          · rename_i hle
            simp only [Option.some.injEq] at hg; subst hg
            obtain ⟨vs, hl, hone, hcell⟩ := hat.values
            have hlen := hl.length
            have := run_loadVarA (P := P) (w := w) (b := b) (o := o) (vs := vs.take (P.cellsOf t)) htd h2 h3 (by simp; omega) (fun j v hj => hcell j v (by
              rw [List.getElem?_take] at hj; split at hj
              · exact hj
              · cases hj))
            refine ⟨.agg (vs.take (P.cellsOf t)).toArray, by simp [hv, asAddr, this], ?_⟩
            unfold Rep
            exact ⟨_, rfl, fun z hz => hone z (List.mem_of_mem_take hz), (hl.take _).ext hr.shrink⟩
          · cases hg
        · rename_i id off heq
          rw [heq] at hs
          simp only [RepS] at hs
          obtain ⟨b, hkb, hv⟩ := hs
          split at hg
          · rename_i cs hbox
            split at hg
            · rename_i hoff
              obtain ⟨rfl, hsz⟩ := hoff
              split at hg
              · rename_i l hl'
                simp only [Option.some.injEq] at hg; subst hg
                obtain ⟨b', vs, hk', hl, h1', hcell⟩ := box_cells hr hbox
                rw [hkb] at hk'; simp at hk'; subst hk'
                have hlen := hl.length
                have := run_loadVarA (P := P) (w := w) (b := b) (o := 0) (vs := vs) htd h2 h3 (by omega) (fun j v hj => by rw [Nat.zero_add, hcell]; exact hj)
                refine ⟨.agg vs.toArray, by simp [hv, asAddr, this], ?_⟩
                unfold Rep
                exact ⟨_, rfl, h1', finL_rep hr _ _ _ hl hl'⟩
              · cases hg
            · cases hg
          · cases hg
        · cases hg
      · cases h2

theorem rvs_run (hr : Ref B w0 M0 N σ κ a w) : ∀ {rs : List ResultVar} {qs : List RV}, matchRVs P N rs qs = true → ∀ {ds : List DV}, resL σ qs = some ds →
    ∃ vs : List Value, (rs.mapM fun r => (match r with | .tmp t => pure (a.tmps.getD t undef) | .cell a' t => do loadVar t (← asAddr (a.tmps.getD a' undef)) : Sem Value)).run P w = .ok vs w ∧ RepL w M0 ds vs
  | [], [], _, ds, h => by
    simp only [resL, Option.some.injEq] at h; subst h
    exact ⟨[], by simp, by unfold RepL; rfl⟩
  | r :: rs, q :: qs, hm, ds, h => by
    simp only [matchRVs, Bool.and_eq_true] at hm
    simp only [resL] at h
    split at h
    · rename_i x xs hx hxs
      simp only [Option.some.injEq] at h; subst h
      obtain ⟨v, hv, hrep⟩ := rv_run hr hm.1 hx
      obtain ⟨vs, hvs, hreps⟩ := rvs_run hr hm.2 hxs
      refine ⟨v :: vs, ?_, by unfold RepL; exact ⟨v, vs, rfl, hrep, hreps⟩⟩
      simp only [List.mapM_cons, Sem.run_bind, Sem.run_pure]
      rw [hv]
      simp only [Result.andThen_ok, hvs]
    · cases h
  | [], _ :: _, hm, _, _ => by simp [matchRVs] at hm
  | _ :: _, [], hm, _, _ => by simp [matchRVs] at hm

theorem res_run (hr : Ref B w0 M0 N σ κ a w) {fn : Func} {qs : List RV} (hm : matchRVs P N fn.results.toList qs = true) {d : DV} (h : resOf σ qs = some d) : ∃ v, (results fn a.tmps).run P w = .ok v w ∧ Rep w M0 d v := by
  unfold resOf at h
  cases hl : resL σ qs with
  | none => simp [hl] at h
  | some ds =>
    obtain ⟨vs, hvs, hrep⟩ := rvs_run hr hm hl
    have hmap : ∀ g : ResultVar → Sem Value, (fn.results.mapM g).run P w = ((fn.results.toList.mapM g).run P w).andThen fun l w' => .ok l.toArray w' := fun g => by
      rw [Array.mapM_eq_mapM_toList]
      simp
    have hrun : (results fn a.tmps).run P w = .ok (if h : vs.toArray.size = 1 then vs.toArray[0] else .tuple vs.toArray) w := by
      unfold results
      simp only [Sem.run_bind]
      rw [hmap]
      exact congrArg (fun r : Result (List Value) => (r.andThen fun l w' => Result.ok l.toArray w').andThen fun (a : Array Value) w' => Sem.run P (pure (if h : a.size = 1 then a[0] else Value.tuple a)) w') hvs
    refine ⟨_, hrun, ?_⟩
    have hlen := hrep.length
    rw [hl] at h
    match ds, h, hrep, hlen with
    | [x], h, hrep, hlen =>
      simp only [Option.some.injEq] at h; subst h
      unfold RepL at hrep
      obtain ⟨u, us, rfl, h1, h2⟩ := hrep
      unfold RepL at h2; subst h2
      simpa using h1
    | [], h, hrep, hlen =>
      simp only [Option.some.injEq] at h; subst h
      simp at hlen; subst hlen
      unfold Rep
      exact ⟨[], by simp, hrep⟩
    | x :: y :: l, h, hrep, hlen =>
      simp only [Option.some.injEq] at h; subst h
      unfold Rep
      refine ⟨vs, ?_, hrep⟩
      simp only [List.length_cons] at hlen
      rw [dif_neg (by simp; omega)]
end

def initS (args : List DV) : Nat → SV := fun i => match args[i]? with | some x => .d x | none => .d .any

/-- The body of function f is the one that the walk goes over. -/
def fits (P : Program) (f : FuncId) (fn : Func) (x : SC) (qs : List RV) (n : Nat) : Bool :=
  P.follows .mixedOrders && callable P f && (match fn.body with | some c => matchC P fn.ntmps x c | none => false) && matchRVs P fn.ntmps fn.results.toList qs && decide (n ≤ fn.ntmps)

/-- THE CONTRACT OF A FUNCTION out of the walk of its body. -/
theorem pure_of_aw {P : Program} {f : FuncId} {fn : Func} {x : SC} {qs : List RV} {args : List DV} {res : DV} (hf : P.funcs[f]? = some fn) (hfit : fits P f fn x qs args.length = true)
    (h : AW P x (fun e σ => match e with | .normal => resOf σ qs = some res | .exit _ => False | .ret => resOf σ qs = some res) ⟨initS args, fun _ => .dead⟩) : PureSpec P f args res := by
  unfold fits at hfit
  simp only [Bool.and_eq_true, decide_eq_true_eq] at hfit
  obtain ⟨⟨⟨⟨hmix, hcal⟩, hm1⟩, hm2⟩, hm3⟩ := hfit
  obtain ⟨c, hb, hm1⟩ : ∃ c, fn.body = some c ∧ matchC P fn.ntmps x c = true := by
    split at hm1
    · rename_i c hc; exact ⟨c, hc, hm1⟩
    · cases hm1
  refine ⟨hcal, fun w M vs hM hrep => ?_⟩
  have hlen := hrep.length
  refine calls_of_wp hf hb ?_
  have hown : ∀ κ, own M (fun _ => Ch.dead) κ = M := fun κ => by
    funext b; apply propext; unfold own
    constructor
    · rintro (h | ⟨_, h, _⟩)
      · exact h
      · exact h.elim
    · exact .inl
  have hr : Ref w.heap.size w M fn.ntmps ⟨initS args, fun _ => .dead⟩ (fun _ => .pointer none) { tmps := vs.toArray ++ Array.replicate (fn.ntmps - vs.toArray.size) undef, defers := [] } w := by
    refine ⟨Below.refl _ _, Nat.le_refl _, hM, by simp; omega, rfl, fun _ => rfl, fun i hi => ?_, fun _ => trivial, fun _ _ _ _ h => h.elim⟩
    simp only [hown, initS]
    cases ha : args[i]? with
    | none => simp [RepS, Rep]
    | some y =>
      obtain ⟨v, hv, hrv⟩ := hrep.get ha
      have hi' : i < vs.length := (List.getElem?_eq_some_iff.1 hv).1
      simp only [RepS]
      rw [Array.getD_eq_getD_getElem?, Array.getElem?_append_left (by simpa using hi')]
      simp [hv, hrv]
  have fin : ∀ σ κ a w', Ref w.heap.size w M fn.ntmps σ κ a w' → resOf σ qs = some res → a.defers = [] ∧ ∃ v, (results fn a.tmps).run P w' = .ok v w' ∧ (∃ u, Ending.returned v = .returned u ∧ Rep w' M res u ∧ Below w.heap.size w w') := by
    intro σ κ a w' hr' hq
    obtain ⟨v, hv, hrv⟩ := res_run hr' hm2 hq
    exact ⟨hr'.defers, v, hv, v, rfl, hrv, hr'.below⟩
  exact aw_sound hmix x c hm1 ⟨fun σ κ a w' hr' hq => fin σ κ a w' hr' hq, fun i σ κ a w' hr' hq => hq.elim, fun σ κ a w' hr' hq => fin σ κ a w' hr' hq⟩ hr h

end Go.Proofs.YtjdeikkojjdjdaaDoor

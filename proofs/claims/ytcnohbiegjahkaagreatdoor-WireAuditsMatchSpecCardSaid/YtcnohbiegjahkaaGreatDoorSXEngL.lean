/-
  The engine, part L: statements; the contract of a function out of the walk of its body.
-/
import Derived.Test.YtcnohbiegjahkaaGreatDoorSXEngT
import Derived.LoopN
namespace Go.Proofs.YtcnohbiegjahkaaGreatDoor
set_option linter.unusedSimpArgs false
set_option linter.unusedVariables false
open Go.RowKit

/-- How a function's results are read: out of a slot, or (a struct) out of a variable. -/
inductive RV where
  | t (n : Nat)
  | cell (n sz : Nat)

def matchRV (P : Program) (N : Nat) : ResultVar → RV → Bool
  | .tmp t, .t n => t == n && decide (n < N)
  | .cell a t, .cell n sz => a == n && decide (n < N) && (match P.underlying t with | some d => isAggD d | none => false) && (P.info? t).isSome && P.cellsOf t == sz
  | _, _ => false

def matchRVs (P : Program) (N : Nat) : List ResultVar → List RV → Bool
  | [], [] => true
  | r :: rs, q :: qs => matchRV P N r q && matchRVs P N rs qs
  | _, _ => false

inductive SC where
  | skip
  | reg (ops : List SO)
  | regD (ops : List SO)
  | regE (ops : List SO)
  | regP (π : List Nat) (ops : List SO)
  | regV (π : List Nat) (pre : List SO) (x1 x2 : SO) (post : List SO)
  | seq (x y : SC)
  | cond (c : SX) (x y : SC)
  | block (id : Nat) (x : SC)
  | loop (x : SC)
  | exit (id : Nat)
  | ret
  | rangeM (d0 : Nat) (m : SX) (d2 dn df de b1 b2 : Nat) (sos : List SO) (x : SC)
  | inl (k : Nat) (sos : List SO) (N : Nat) (x : SC) (qs : List RV)
  | any

inductive AX where
  | normal
  | exit (id : Nat)
  | ret
  deriving DecidableEq

/-- Two writes, neither of which waits for the other. -/
def matchV (P : Program) (N : Nat) (π : List Nat) (ops : Array Oper) (i : Nat) (s1 s2 : List SO) : Bool :=
  pairOk i ops π s1 s2 && matchOps P N (addE ops (i + 1) i) (addE ops (i + 1) i).toList s1 && ordL P N (addE ops (i + 1) i) s1 (s1.map dstE) 0 (addE ops (i + 1) i).toList s1 &&
  permOk π (addE ops i (i + 1)) && matchOps P N (permO π (addE ops i (i + 1))) (permO π (addE ops i (i + 1))).toList s2 && ordL P N (permO π (addE ops i (i + 1))) s2 (s2.map dstE) 0 (permO π (addE ops i (i + 1))).toList s2
def isRange (P : Program) (d0 : Nat) : Op → Bool
  | .range t (.tmp x) => x == d0 && (match P.underlying t with | some (.map _ _) => true | _ => false)
  | _ => false
def isNext (d2 : Nat) : Op → Bool
  | .next (.tmp x) false => x == d2
  | _ => false
def isEntry (d2 : Nat) : Op → Bool
  | .entry (.tmp x) => x == d2
  | _ => false
def isExt0 (dn : Nat) : Op → Bool
  | .extract (.tmp x) 0 => x == dn
  | _ => false
/-- A range over a map: the operations around its body. -/
def rngOk (P : Program) (N : Nat) (d0 : Nat) (m : SX) (d2 dn df de : Nat) (o1 o2 o3 : Array Oper) (sos : List SO) : Bool :=
  match o1.toList, o2.toList, o3.toList with
  | [p, q], [n1, n2], e :: rest => matchOps P N o1 [p] [.r d0 (.mv m)] && q.guard.isNone && q.dst == some d2 && isRange P d0 q.op && n1.guard.isNone && n1.dst == some dn && isNext d2 n1.op && n2.guard.isNone && n2.dst == some df && isExt0 dn n2.op &&
      e.guard.isNone && e.dst == some de && isEntry d2 e.op && decide (d0 < N) && decide (d2 < N) && decide (dn < N) && decide (df < N) && decide (de < N) && decide (d2 ≠ dn) && decide (d2 ≠ df) && decide (dn ≠ df) && matchOps P N o3 rest sos
  | _, _, _ => false
def matchC (P : Program) (N : Nat) : SC → Code → Bool
  | .skip, .skip => true
  | .reg sos, .region _ ops false => matchOps P N ops ops.toList sos
  | .regD sos, .region _ ops true => matchOps P N ops ops.toList sos && (match dsts sos with | some ds => decide ds.Nodup && lexOk ops ds 0 ops.toList sos | none => false)
  | .regE sos, .region _ ops true => matchOps P N ops ops.toList sos && ordK true P N ops sos (sos.map dstE) 0 ops.toList sos
  | .regP π sos, .region _ ops true => permOk π ops && matchOps P N (permO π ops) (permO π ops).toList sos && ordK true P N (permO π ops) sos (sos.map dstE) 0 (permO π ops).toList sos
  | .regV π pre x1 x2 post, .region _ ops true => matchV P N π ops pre.length (pre ++ x1 :: x2 :: post) (pre ++ x2 :: x1 :: post)
  | .seq x y, .seq a b => matchC P N x a && matchC P N y b
  | .cond t x y, .cond o a b => matchX N o t && matchC P N x a && matchC P N y b
  | .block i x, .block j a => i == j && matchC P N x a
  | .loop x, .loop a => matchC P N x a
  | .exit i, .exit j => i == j
  | .ret, .ret => true
  | .rangeM d0 m d2 dn df de b1 b2 sos x, .seq (.region _ o1 false) (.block c1 (.loop (.seq (.region _ o2 false) (.seq (.cond (.tmp t) .skip (.exit c2)) (.block c3 (.seq (.region _ o3 false) y)))))) =>
      rngOk P N d0 m d2 dn df de o1 o2 o3 sos && c1 == b1 && c2 == b1 && c3 == b2 && t == df && decide (b1 ≠ b2) && matchC P N x y
  | .inl k sos N' x qs, .region _ ops false => matchOps P N ops ops.toList sos && (match sos[k]? with
      | some (.p _ (.f f) args) => callable P f && (match P.funcs[f]? with
        | some fn => decide (fn.ntmps = N') && decide (args.length ≤ N') && matchRVs P N' fn.results.toList qs && (match fn.body with | some code => matchC P N' x code | none => false)
        | none => false)
      | _ => false)
  | .any, _ => true
  | _, _ => false

/-- What the walk's post says of the model's. -/
def PostOf (c : Cx) (Q : AX → St → Prop) (R : Exit → Act → World → Prop) : Prop :=
  (∀ σ κ φ a w, Ref c σ κ φ a w → Q .normal σ → R .normal a w) ∧
  (∀ i σ κ φ a w, Ref c σ κ φ a w → Q (.exit i) σ → R (.exit i) a w) ∧
  (∀ σ κ φ a w, Ref c σ κ φ a w → Q .ret σ → R .ret a w)

/-- The walk over statements: whatever state of the model the abstract state speaks of, the statement leads to what Q says. -/
def AW (P : Program) (x : SC) (Q : AX → St → Prop) (σ : St) : Prop :=
  P.follows .mixedOrders = true → ∀ (c : Cx) (code : Code) (R : Exit → Act → World → Prop), matchC P c.N x code = true → PostOf c Q R → ∀ κ φ a w, Ref c σ κ φ a w → code.wp P R a w

def seqK (P : Program) (y : SC) (Q : AX → St → Prop) : AX → St → Prop
  | .normal, σ => AW P y Q σ
  | .exit i, σ => Q (.exit i) σ
  | .ret, σ => Q .ret σ

def blockK (id : Nat) (Q : AX → St → Prop) : AX → St → Prop
  | .normal, σ => Q .normal σ
  | .exit i, σ => if i = id then Q .normal σ else Q (.exit i) σ
  | .ret, σ => Q .ret σ

/-- Behind a round of a loop. -/
def roundK (I : Nat → St → Prop) (m : Nat) (Q : AX → St → Prop) : AX → St → Prop
  | .normal, σ => ∃ m' σ', m' < m ∧ Imp σ σ' ∧ I m' σ'
  | .exit i, σ => Q (.exit i) σ
  | .ret, σ => Q .ret σ

section
variable {P : Program} {x y : SC} {Q Q' : AX → St → Prop} {σ σ' : St}

theorem W_imp (h : Imp σ σ') (hw : AW P x Q σ') : AW P x Q σ := fun hmix c code R hm hp κ φ a w hr => by
  obtain ⟨κ', φ', hr'⟩ := h c κ φ a w hr
  exact hw hmix c code R hm hp κ' φ' a w hr'
theorem W_mono (h : ∀ e σ, Q e σ → Q' e σ) (hw : AW P x Q σ) : AW P x Q' σ := fun hmix c code R hm hp κ φ a w hr =>
  hw hmix c code R hm ⟨fun σ κ φ a w hr hq => hp.1 σ κ φ a w hr (h _ _ hq), fun i σ κ φ a w hr hq => hp.2.1 i σ κ φ a w hr (h _ _ hq), fun σ κ φ a w hr hq => hp.2.2 σ κ φ a w hr (h _ _ hq)⟩ κ φ a w hr

theorem W_skip (hw : Q .normal σ) : AW P .skip Q σ := fun _ c code R hm hp κ φ a w hr => by
  cases code <;> simp [matchC] at hm
  exact wp_skip (hp.1 _ _ _ _ _ hr hw)
theorem W_ret (hw : Q .ret σ) : AW P .ret Q σ := fun _ c code R hm hp κ φ a w hr => by
  cases code <;> simp [matchC] at hm
  exact wp_ret (hp.2.2 _ _ _ _ _ hr hw)
theorem W_exit {i : Nat} (hw : Q (.exit i) σ) : AW P (.exit i) Q σ := fun _ c code R hm hp κ φ a w hr => by
  cases code <;> simp only [matchC, Bool.false_eq_true, beq_iff_eq] at hm
  subst hm
  exact wp_exit (hp.2.1 _ _ _ _ _ _ hr hw)
theorem W_reg {ops : List SO} (hw : AOps P (Q .normal) ops σ) : AW P (.reg ops) Q σ := fun _ c code R hm hp κ φ a w hr => by
  obtain ⟨id, ops', rfl, hm⟩ : ∃ id ops', code = .region id ops' false ∧ matchOps P c.N ops' ops'.toList ops = true := by
    cases code with
    | region id ops' draw => cases draw with
      | false => exact ⟨id, ops', rfl, hm⟩
      | true => simp [matchC] at hm
    | _ => simp [matchC] at hm
  exact region_sound (K := Q .normal) (fun σ' κ' φ' a' w' hr' hk => hp.1 _ _ _ _ _ hr' hk) hm hr hw
theorem W_regD {ops : List SO} (hw : AOps P (Q .normal) ops σ) : AW P (.regD ops) Q σ := fun hmix c code R hm hp κ φ a w hr => by
  obtain ⟨id, ops', rfl, h1, h2⟩ : ∃ id ops', code = .region id ops' true ∧ matchOps P c.N ops' ops'.toList ops = true ∧ (match dsts ops with | some ds => decide ds.Nodup && lexOk ops' ds 0 ops'.toList ops | none => false) = true := by
    cases code with
    | region id ops' draw => cases draw with
      | true => simp only [matchC, Bool.and_eq_true] at hm; exact ⟨id, ops', rfl, hm.1, hm.2⟩
      | false => simp [matchC] at hm
    | _ => simp [matchC] at hm
  split at h2
  · rename_i ds hds
    simp only [Bool.and_eq_true, decide_eq_true_eq] at h2
    exact drawn_sound (K := Q .normal) hmix (fun σ' κ' φ' a' w' hr' hk => hp.1 _ _ _ _ _ hr' hk) h1 hds h2.1 h2.2 hr hw
  · cases h2
theorem W_seq (hw : AW P x (seqK P y Q) σ) : AW P (.seq x y) Q σ := fun hmix c code R hm hp κ φ a w hr => by
  cases code <;> simp only [matchC, Bool.false_eq_true, Bool.and_eq_true] at hm
  refine wp_seq (hw hmix c _ _ hm.1 ⟨?_, ?_, ?_⟩ κ φ a w hr)
  · intro σ' κ' φ' a' w' hr' hq; exact hq hmix c _ _ hm.2 hp κ' φ' a' w' hr'
  · intro i σ' κ' φ' a' w' hr' hq; exact hp.2.1 _ _ _ _ _ _ hr' hq
  · intro σ' κ' φ' a' w' hr' hq; exact hp.2.2 _ _ _ _ _ hr' hq
theorem W_cond {t : SX} {b : Bool} (hc : ev σ.s t = .d (.bool b)) (hx : b = true → AW P x Q σ) (hy : b = false → AW P y Q σ) : AW P (.cond t x y) Q σ := fun hmix c code R hm hp κ φ a w hr => by
  cases code <;> simp only [matchC, Bool.false_eq_true, Bool.and_eq_true] at hm
  have ht := matchX_rep hr hm.1.1
  rw [hc] at ht
  simp only [RepS, Rep] at ht
  exact wp_cond_split ht (fun hb => hx hb hmix c _ _ hm.1.2 hp κ φ a w hr) (fun hb => hy hb hmix c _ _ hm.2 hp κ φ a w hr)
theorem W_block {i : Nat} (hw : AW P x (blockK i Q) σ) : AW P (.block i x) Q σ := fun hmix c code R hm hp κ φ a w hr => by
  cases code <;> simp only [matchC, Bool.false_eq_true, Bool.and_eq_true, beq_iff_eq] at hm
  obtain ⟨rfl, hm⟩ := hm
  refine wp_block (hw hmix c _ _ hm ⟨?_, ?_, ?_⟩ κ φ a w hr)
  · intro σ' κ' φ' a' w' hr' hq; exact hp.1 _ _ _ _ _ hr' hq
  · intro j σ' κ' φ' a' w' hr' hq
    simp only [Exit.inBlock]
    by_cases hj : j = i
    · simp only [hj, blockK, if_true] at hq ⊢; exact hp.1 _ _ _ _ _ hr' hq
    · simp only [hj, blockK, if_false] at hq ⊢; exact hp.2.1 _ _ _ _ _ _ hr' hq
  · intro σ' κ' φ' a' w' hr' hq; exact hp.2.2 _ _ _ _ _ hr' hq

/-- A loop: what holds at the head of each round, and a number that each round lowers. -/
theorem W_loop (I : Nat → St → Prop) (m : Nat) (h0 : ∃ σ', Imp σ σ' ∧ I m σ') (hround : ∀ m σ, I m σ → AW P x (roundK I m Q) σ) : AW P (.loop x) Q σ := fun hmix c code R hm hp κ φ a w hr => by
  cases code <;> simp only [matchC, Bool.false_eq_true] at hm
  rename_i body
  obtain ⟨σ1, himp, hI⟩ := h0
  obtain ⟨κ1, φ1, hr⟩ := himp _ _ _ _ _ hr
  refine wp_loop_rounds (m + 1) ?_
  have key : ∀ n m σ κ φ a w, m < n → I m σ → Ref c σ κ φ a w → Code.rounds P body R n a w := by
    intro n
    induction n with
    | zero => intro m σ κ φ a w h; omega
    | succ n ih =>
      intro m σ κ φ a w hlt hI hr
      rw [rounds_succ]
      refine hround m σ hI hmix c _ _ hm ⟨?_, ?_, ?_⟩ κ φ a w hr
      · rintro σ' κ' φ' a' w' hr' ⟨m', σ2, h1, h2, h3⟩
        obtain ⟨κ2, φ2, hr2⟩ := h2 _ _ _ _ _ hr'
        exact ih m' σ2 κ2 φ2 a' w' (by omega) h3 hr2
      · intro i σ' κ' φ' a' w' hr' hq; exact hp.2.1 _ _ _ _ _ _ hr' hq
      · intro σ' κ' φ' a' w' hr' hq; exact hp.2.2 _ _ _ _ _ hr' hq
  exact key (m + 1) m σ1 κ1 φ1 a w (by omega) hI hr

end

/-! changes of the abstract state alone -/
section
variable {σ : St}

theorem imp_vecnil {slot id e sz : Nat} (hs : σ.s slot = .nils) : Imp σ ⟨upd (repS id .any σ.s) slot (.vec id), upd (repH id .any σ.h) id (.vec e sz [])⟩ := fun c κ φ a w hr => ⟨_, _, hr.vecnil hs⟩
theorem imp_freeze {id e sz : Nat} {rows : List (List SV)} {ds : List (List DV)} (hv : σ.h id = .vec e sz rows) (hf : SV.frzR rows = some ds) : Imp σ ⟨repS id (.slice ds) σ.s, upd (repH id (.slice ds) σ.h) id .dead⟩ := fun c κ φ a w hr => ⟨_, _, hr.freeze hv hf⟩
theorem imp_open {id id' : Nat} {p : Pt} {σ' : St} (hne : id ≠ id') (h : openSt σ id p id' = some σ') : Imp σ σ' := fun c κ φ a w hr => hr.openAt hne h
theorem imp_close {id id' : Nat} {p : Pt} {m : Mask} {d : DV} {ch : Ch} {mk : Nat → SV} (hne : id ≠ id') (ho : openCh m d = some (ch, mk)) (hsh : shapeOk m d) (hg : getP (σ.h id) p = some (mk id')) (hh : σ.h id' = ch) : Imp σ (closeSt σ id p id' m d) := fun c κ φ a w hr => hr.closeAt hne ho hsh hg hh
theorem W_regE {P : Program} {Q : AX → St → Prop} {ops : List SO} (hw : AOps P (Q .normal) ops σ) : AW P (.regE ops) Q σ := fun hmix c code R hm hp κ φ a w hr => by
  obtain ⟨id, ops', rfl, h1, h2⟩ : ∃ id ops', code = .region id ops' true ∧ matchOps P c.N ops' ops'.toList ops = true ∧ ordK true P c.N ops' ops (ops.map dstE) 0 ops'.toList ops = true := by
    cases code with
    | region id ops' draw => cases draw with
      | true => simp only [matchC, Bool.and_eq_true] at hm; exact ⟨id, ops', rfl, hm.1, hm.2⟩
      | false => simp [matchC] at hm
    | _ => simp [matchC] at hm
  refine drawnE_sound (K := Q .normal) hmix (fun σ' κ' φ' a' w' hr' hk => hp.1 _ _ _ _ _ hr' hk) h1 h2 (fun U => imp_weak (σ := σ) (σ' := ⟨erz (firmS σ.s) U σ.s, σ.h⟩) (fun i => erz_weak σ.s U i) (fun i => .inl rfl) c κ φ a w hr) hw

/-- Slots and chunks as lists. -/
def lk : List (Nat × SV) → Nat → SV
  | [], _ => .d .any
  | (i, v) :: l, j => if j = i then v else lk l j
def lh : List (Nat × Ch) → Nat → Ch
  | [], _ => .dead
  | (i, v) :: l, j => if j = i then v else lh l j
abbrev st (l : List (Nat × SV)) (h : List (Nat × Ch)) : St := ⟨lk l, lh h⟩

end

/-! results -/

def RV.get (σ : St) : RV → Option DV
  | .t n => SV.lend σ.h (σ.s n)
  | .cell n sz => match σ.s n with
    | .d (.ptr cs) => if sz ≤ cs.length then some (.agg (cs.take sz)) else none
    | .ref id off => match σ.h id with
      | .box cs => if off = 0 ∧ sz = cs.length then (match SV.lendCs σ.h cs with | some l => some (.agg l) | none => none) else none
      | _ => none
    | _ => none

def resL (σ : St) : List RV → Option (List DV)
  | [] => some []
  | r :: rs => match r.get σ, resL σ rs with | some x, some xs => some (x :: xs) | _, _ => none

def resOf (σ : St) (rs : List RV) : Option DV :=
  match resL σ rs with
  | some [x] => some x
  | some l => some (.tup l)
  | none => none

section
variable {P : Program} {c : Cx} {σ : St} {κ : Nat → Value} {φ : Nat → List Nat} {a : Act} {w : World}

theorem rv_run (hr : Ref c σ κ φ a w) {r : ResultVar} {q : RV} (hm : matchRV P c.N r q = true) {d : DV} (hg : q.get σ = some d) :
    ∃ v, (match r with | .tmp t => pure (a.tmps.getD t undef) | .cell a' t => do loadVar t (← asAddr (a.tmps.getD a' undef)) : Sem Value).run P w = .ok v w ∧ Rep w c.M0 d v := by
  cases r with
  | tmp t =>
    cases q with
    | t n =>
      simp only [matchRV, Bool.and_eq_true, beq_iff_eq, decide_eq_true_eq] at hm
      obtain ⟨rfl, hn⟩ := hm
      exact ⟨_, rfl, lend_rep hr _ _ _ (hr.slots t hn) hg⟩
    | cell _ _ => simp [matchRV] at hm
  | cell a' t =>
    cases q with
    | t n => simp [matchRV] at hm
    | cell n sz =>
      simp only [matchRV, Bool.and_eq_true, beq_iff_eq, decide_eq_true_eq] at hm
      obtain ⟨⟨⟨⟨rfl, hn⟩, h2⟩, h3⟩, rfl⟩ := hm
      split at h2
      · rename_i td htd
        have hs := hr.slots a' hn
        simp only [RV.get] at hg
        split at hg
        · rename_i cs heq
          rw [heq] at hs
          simp only [RepS, Rep] at hs
          obtain ⟨b, o, hv, hm', hlt, hat⟩ := hs
          split at hg
          · rename_i hle
            simp only [Option.some.injEq] at hg; subst hg
            obtain ⟨vs, hl, hone, hcell⟩ := hat.values
            have hlen := hl.length
            have := run_loadVarA (P := P) (w := w) (b := b) (o := o) (vs := vs.take (P.cellsOf t)) htd h2 h3 (by simp; omega) (fun j v hj => hcell j v (by
              rw [List.getElem?_take] at hj; split at hj
              · exact hj
              · cases hj))
            refine ⟨.agg (vs.take (P.cellsOf t)).toArray, by simp [hv, asAddr, this], ?_⟩
            unfold Rep
            exact ⟨_, rfl, fun z hz => hone z (List.mem_of_mem_take hz), (hl.take _).ext (Ext.shrink fun b hb => .inl hb)⟩
          · cases hg
        · rename_i id off heq
          rw [heq] at hs
          simp only [RepS] at hs
          obtain ⟨b, hkb, hv⟩ := hs
          split at hg
          · rename_i cs hbox
            split at hg
            · rename_i hoff
              obtain ⟨rfl, hsz⟩ := hoff
              split at hg
              · rename_i l hl'
                simp only [Option.some.injEq] at hg; subst hg
                have hch := hr.chunks id
                rw [hbox] at hch
                obtain ⟨b', T, vs, G, hk', hheap, h1', hl, hφ⟩ := hch
                rw [hkb] at hk'; simp at hk'; subst hk'
                have hlen := hl.length
                have := run_loadVarA (P := P) (w := w) (b := b) (o := 0) (vs := vs) htd h2 h3 (by omega) (fun j v hj => by rw [Nat.zero_add, cell_of_row w b j _ T _ hheap]; simpa using hj)
                refine ⟨.agg vs.toArray, by simp [hv, asAddr, this], ?_⟩
                unfold Rep
                exact ⟨_, rfl, h1', lendCs_rep hr (fun b' hb' => own_not hr (id := id) (by rw [hφ]; simp [hb'])) hl hl'⟩
              · cases hg
            · cases hg
          · cases hg
        · cases hg
      · cases h2

theorem rvs_run (hr : Ref c σ κ φ a w) : ∀ {rs : List ResultVar} {qs : List RV}, matchRVs P c.N rs qs = true → ∀ {ds : List DV}, resL σ qs = some ds →
    ∃ vs : List Value, (rs.mapM fun r => (match r with | .tmp t => pure (a.tmps.getD t undef) | .cell a' t => do loadVar t (← asAddr (a.tmps.getD a' undef)) : Sem Value)).run P w = .ok vs w ∧ RepL w c.M0 ds vs
  | [], [], _, ds, h => by
    simp only [resL, Option.some.injEq] at h; subst h
    exact ⟨[], by simp, by unfold RepL; rfl⟩
  | r :: rs, q :: qs, hm, ds, h => by
    simp only [matchRVs, Bool.and_eq_true] at hm
    simp only [resL] at h
    split at h
    · rename_i x xs hx hxs
      simp only [Option.some.injEq] at h; subst h
      obtain ⟨v, hv, hrep⟩ := rv_run hr hm.1 hx
      obtain ⟨vs, hvs, hreps⟩ := rvs_run hr hm.2 hxs
      refine ⟨v :: vs, ?_, by unfold RepL; exact ⟨v, vs, rfl, hrep, hreps⟩⟩
      simp only [List.mapM_cons, Sem.run_bind, Sem.run_pure]
      rw [hv]
      simp only [Result.andThen_ok, hvs]
    · cases h
  | [], _ :: _, hm, _, _ => by simp [matchRVs] at hm
  | _ :: _, [], hm, _, _ => by simp [matchRVs] at hm

theorem res_run (hr : Ref c σ κ φ a w) {fn : Func} {qs : List RV} (hm : matchRVs P c.N fn.results.toList qs = true) {d : DV} (h : resOf σ qs = some d) : ∃ v, (results fn a.tmps).run P w = .ok v w ∧ Rep w c.M0 d v := by
  unfold resOf at h
  cases hl : resL σ qs with
  | none => simp [hl] at h
  | some ds =>
    obtain ⟨vs, hvs, hrep⟩ := rvs_run hr hm hl
    have hmap : ∀ g : ResultVar → Sem Value, (fn.results.mapM g).run P w = ((fn.results.toList.mapM g).run P w).andThen fun l w' => .ok l.toArray w' := fun g => by
      rw [Array.mapM_eq_mapM_toList]
      simp
    have hrun : (results fn a.tmps).run P w = .ok (if h : vs.toArray.size = 1 then vs.toArray[0] else .tuple vs.toArray) w := by
      unfold results
      simp only [Sem.run_bind]
      rw [hmap]
      exact congrArg (fun r : Result (List Value) => (r.andThen fun l w' => Result.ok l.toArray w').andThen fun (a : Array Value) w' => Sem.run P (pure (if h : a.size = 1 then a[0] else Value.tuple a)) w') hvs
    refine ⟨_, hrun, ?_⟩
    have hlen := hrep.length
    rw [hl] at h
    match ds, h, hrep, hlen with
    | [x], h, hrep, hlen =>
      simp only [Option.some.injEq] at h; subst h
      unfold RepL at hrep
      obtain ⟨u, us, rfl, h1, h2⟩ := hrep
      unfold RepL at h2; subst h2
      simpa using h1
    | [], h, hrep, hlen =>
      simp only [Option.some.injEq] at h; subst h
      simp at hlen; subst hlen
      unfold Rep
      exact ⟨[], by simp, hrep⟩
    | x :: y :: l, h, hrep, hlen =>
      simp only [Option.some.injEq] at h; subst h
      unfold Rep
      refine ⟨vs, ?_, hrep⟩
      simp only [List.length_cons] at hlen
      rw [dif_neg (by simp; omega)]
end

def initS (args : List DV) : Nat → SV := fun i => match args[i]? with | some x => .d x | none => .d .any

/-- The body of function f is the one that the walk goes over. -/
def fits (P : Program) (f : FuncId) (fn : Func) (x : SC) (qs : List RV) (n : Nat) : Bool :=
  P.follows .mixedOrders && callable P f && (match fn.body with | some c => matchC P fn.ntmps x c | none => false) && matchRVs P fn.ntmps fn.results.toList qs && decide (n ≤ fn.ntmps)

theorem fits_spec {P : Program} {f : FuncId} {fn : Func} {x : SC} {qs : List RV} {n : Nat} (hfit : fits P f fn x qs n = true) : P.follows .mixedOrders = true ∧ callable P f = true ∧ (∃ c, fn.body = some c ∧ matchC P fn.ntmps x c = true) ∧ matchRVs P fn.ntmps fn.results.toList qs = true ∧ n ≤ fn.ntmps := by
  unfold fits at hfit
  simp only [Bool.and_eq_true, decide_eq_true_eq] at hfit
  obtain ⟨⟨⟨⟨hmix, hcal⟩, hm1⟩, hm2⟩, hm3⟩ := hfit
  refine ⟨hmix, hcal, ?_, hm2, hm3⟩
  split at hm1
  · rename_i c hc; exact ⟨c, hc, hm1⟩
  · cases hm1

/-- Behind a function's body: its result. -/
def endK (qs : List RV) (res : DV) : AX → St → Prop
  | .normal, σ => ∃ σ', Imp σ σ' ∧ resOf σ' qs = some res
  | .exit _, _ => False
  | .ret, σ => ∃ σ', Imp σ σ' ∧ resOf σ' qs = some res

/-- THE CONTRACT OF A FUNCTION out of the walk of its body. -/
theorem pure_walk {P : Program} {f : FuncId} {fn : Func} {x : SC} {qs : List RV} {args : List DV} {res : DV} (hf : P.funcs[f]? = some fn) (hfit : fits P f fn x qs args.length = true)
    (h : AW P x (endK qs res) ⟨initS args, fun _ => .dead⟩) : PureSpec P f args res := by
  obtain ⟨hmix, hcal, ⟨code, hb, hm1⟩, hm2, hm3⟩ := fits_spec hfit
  refine ⟨hcal, fun w M vs hM hrep hgood => ?_⟩
  have hlen := hrep.length
  refine calls_of_wp hf hb ?_
  let c : Cx := ⟨w.heap.size, w, M, fun _ => False, fn.ntmps, [], hgood, fun _ _ h => h, Nat.le_refl _⟩
  have hown : own c (fun _ => []) = M := by
    funext b; apply propext; unfold own
    constructor
    · rintro (h | ⟨_, h⟩)
      · exact h
      · simp at h
    · exact .inl
  have hr : Ref c ⟨initS args, fun _ => .dead⟩ (fun _ => .pointer none) (fun _ => []) { tmps := vs.toArray ++ Array.replicate (fn.ntmps - vs.toArray.size) undef, defers := [] } w := by
    refine ⟨Chg.refl _ _ _, Nat.le_refl _, fun b hb => ⟨hM b hb, id⟩, ?_, rfl, fun _ => rfl, fun i hi => ?_, fun i v hv => ?_, fun _ => rfl, fun _ b hb => ?_, fun _ => List.nodup_nil, fun _ _ b _ hb => ?_⟩
    · show _ = fn.ntmps
      simp; omega
    · rw [hown]
      simp only [initS]
      cases ha : args[i]? with
      | none => simp [RepS, Rep]
      | some y =>
        obtain ⟨v, hv, hrv⟩ := hrep.get ha
        have hi' : i < vs.length := (List.getElem?_eq_some_iff.1 hv).1
        simp only [RepS]
        rw [Array.getD_eq_getD_getElem?, Array.getElem?_append_left (by simpa using hi')]
        simp [hv, hrv]
    · simp [c] at hv
    · simp at hb
    · simp at hb
  have fin : ∀ σ κ φ a w', Ref c σ κ φ a w' → (∃ σ', Imp σ σ' ∧ resOf σ' qs = some res) → a.defers = [] ∧ ∃ v, (results fn a.tmps).run P w' = .ok v w' ∧ (∃ u, Ending.returned v = .returned u ∧ Rep w' M res u ∧ Below w.heap.size w w') := by
    rintro σ κ φ a w' hr' ⟨σ', himp, hq⟩
    obtain ⟨κ', φ', hr'⟩ := himp _ _ _ _ _ hr'
    obtain ⟨v, hv, hrv⟩ := res_run hr' hm2 hq
    exact ⟨hr'.defers, v, hv, v, rfl, hrv, hr'.chg.below fun _ h => h⟩
  exact h hmix c code _ hm1 ⟨fun σ κ φ a w' hr' hq => fin σ κ φ a w' hr' hq, fun i σ κ φ a w' hr' hq => hq.elim, fun σ κ φ a w' hr' hq => fin σ κ φ a w' hr' hq⟩ _ _ _ _ hr

end Go.Proofs.YtcnohbiegjahkaaGreatDoor

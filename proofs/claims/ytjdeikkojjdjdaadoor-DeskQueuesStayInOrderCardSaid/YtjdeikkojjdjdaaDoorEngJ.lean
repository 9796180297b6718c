/-
  The engine, part J: the operations of a region.
-/
import Derived.Test.YtjdeikkojjdjdaaDoorEngI
namespace Go.Proofs.YtjdeikkojjdjdaaDoor
set_option linter.unusedSimpArgs false
set_option linter.unusedVariables false
open Go.RowKit

section
variable {P : Program} {B : Nat} {w0 : World} {M0 : Nat → Prop} {N : Nat} {σ : St} {κ : Nat → Value} {a : Act} {w : World}

theorem wr_sound (hr : Ref B w0 M0 N σ κ a w) {o : Oper} {d : Nat} {op : WOp} (hm : matchW2 P N o.op o.dst d op = true) {p : Prop} {σ' : St} (hw : wr σ d op = some (p, σ')) (hp : p) : Writes P B w0 M0 N o a w σ' := by
  obtain ⟨dst, oop, ty, pos, aft, gd⟩ := o
  simp only at hm
  cases op with
  | boxM y =>
    simp only [matchW2, matchW, Bool.and_eq_true, beq_iff_eq] at hm
    obtain ⟨⟨rfl, hd⟩, hm⟩ := hm
    split at hm
    · simp only [wr] at hw
      split at hw
      · rename_i cs hc
        simp only [Option.some.injEq, Prod.mk.injEq] at hw
        obtain ⟨_, rfl⟩ := hw
        exact wr_box hr hm hc ty pos aft gd
      · cases hw
    · obtain ⟨v, i, z, rfl, hi, hz, hconst⟩ := zeroX_spec hm
      simp only [wr, ev] at hw
      split at hw
      · rename_i cs hc
        simp only [Option.some.injEq, Prod.mk.injEq] at hw
        obtain ⟨_, rfl⟩ := hw
        exact wr_alloc hr hi hz hconst hc ty pos aft gd
      · cases hw
    · cases hm
  | st n x y =>
    simp only [matchW2, matchW, Bool.and_eq_true, beq_iff_eq] at hm
    obtain ⟨rfl, hm⟩ := hm
    split at hm
    · simp only [Bool.and_eq_true, beq_iff_eq] at hm
      obtain ⟨⟨⟨h1, h2⟩, h3⟩, h4⟩ := hm
      simp only [wr] at hw
      split at hw
      · rename_i id off heq
        split at hw
        · rename_i cs vs hh hv
          simp only [Option.some.injEq, Prod.mk.injEq] at hw
          obtain ⟨rfl, rfl⟩ := hw
          exact wr_st_box hr h1 h2 h3 h4 heq hh hv hp.1 hp.2 ty pos aft gd
        · cases hw
      · rename_i id sz i off heq
        split at hw
        · rename_i e sz' rows vs hh hv
          split at hw
          · rename_i r hrow
            simp only [Option.some.injEq, Prod.mk.injEq] at hw
            obtain ⟨rfl, rfl⟩ := hw
            obtain ⟨rfl, hp1, hp2⟩ := hp
            exact wr_st_vec hr h1 h2 h3 h4 heq hh hv hrow hp1 hp2 ty pos aft gd
          · cases hw
        · cases hw
      · cases hw
    · cases hm
  | app e sz x y =>
    simp only [matchW2, matchW, Bool.and_eq_true, beq_iff_eq] at hm
    obtain ⟨⟨rfl, hd⟩, hm⟩ := hm
    split at hm
    · rename_i args ts
      split at hm
      · rename_i x' y' t t' hargs hts
        simp only [Bool.and_eq_true, beq_iff_eq] at hm
        obtain ⟨⟨⟨h1, h2⟩, rfl⟩, h3⟩ := hm
        split at h3
        · rename_i e' hu
          simp only [Bool.and_eq_true, beq_iff_eq] at h3
          obtain ⟨rfl, h3⟩ := h3
          split at h3
          · rename_i i hi
            simp only [Bool.and_eq_true, beq_iff_eq, decide_eq_true_eq] at h3
            obtain ⟨⟨⟨h4, h5⟩, h6⟩, h7⟩ := h3
            split at h7
            · rename_i z hz
              simp only [beq_iff_eq] at h7
              simp only [wr] at hw
              have hx := matchX_rep hr h1
              split at hw
              · rename_i id rows2 heq hyd
                rw [heq] at hx
                simp only [RepS] at hx
                split at hw
                · rename_i e2 sz2 rows hh
                  simp only [Option.some.injEq, Prod.mk.injEq] at hw
                  obtain ⟨rfl, rfl⟩ := hw
                  obtain ⟨rfl, rfl, hall, hlim⟩ := hp
                  have hch := hr.chunks id
                  rw [hh] at hch
                  simp only [RepC] at hch
                  exact wr_app_core hr hargs hts hu hi h4 h5 h6 hz h7 h2 hyd hall hlim (by rw [hx]; exact hch) (fun b hb => ⟨by rw [hh]; trivial, by rw [← hx]; exact hb⟩) ty pos aft gd
                · cases hw
              · rename_i rows2 heq hyd
                rw [heq] at hx
                simp only [RepS] at hx
                simp only [Option.some.injEq, Prod.mk.injEq] at hw
                obtain ⟨rfl, rfl⟩ := hw
                have := wr_app_core (id := d) (rows := []) hr hargs hts hu hi h4 h5 h6 hz h7 h2 hyd hp.1 (by simpa using hp.2) (by rw [hx]; exact ⟨[], World.ownsRow_nil w B e' sz, by simp, by simp, by simp [RepL]⟩) (fun b hb => by rw [hx] at hb; simp [blk] at hb) ty pos aft gd (d := d)
                simpa using this
              · cases hw
            · cases h7
          · cases h3
        · cases h3
      · cases hm
    · cases hm
  | mkmap kk =>
    simp only [matchW2, Bool.and_eq_true, beq_iff_eq] at hm
    obtain ⟨⟨rfl, hd⟩, hm⟩ := hm
    split at hm
    · simp only [wr, Option.some.injEq, Prod.mk.injEq] at hw
      obtain ⟨_, rfl⟩ := hw
      exact wr_mkmap hr kk ty pos aft gd
    · cases hm
  | mset kk m k v =>
    simp only [matchW2, Bool.and_eq_true, beq_iff_eq] at hm
    obtain ⟨rfl, hm⟩ := hm
    split at hm
    · simp only [Bool.and_eq_true] at hm
      obtain ⟨⟨⟨h1, h2⟩, h3⟩, h4⟩ := hm
      split at h4
      · rename_i kt e ht
        simp only [beq_iff_eq] at h4
        simp only [wr] at hw
        split at hw
        · rename_i id x d hm' hk' hv'
          split at hw
          · rename_i kk' kv hh
            simp only [Option.some.injEq, Prod.mk.injEq] at hw
            obtain ⟨rfl, rfl⟩ := hw
            obtain ⟨rfl, hf⟩ := hp
            exact wr_mset hr h1 h2 h3 ht h4 hm' hk' hv' hh hf ty pos aft gd
          · cases hw
        · cases hw
      · cases h4
    · cases hm
end

inductive SO where
  | r (dst : Nat) (op : ROp)
  | c (dst : Nat) (f : SX) (args : List SX)
  | w (dst : Nat) (op : WOp)
  | g (t : Nat) (want : Bool) (dst : Option Nat) (o : SO)

def putS (σ : St) (dst : Option Nat) (v : SV) : St :=
  match dst with
  | some d => ⟨upd σ.s d v, σ.h⟩
  | none => σ

/-- One operation, and what is asked behind it. -/
def AO (P : Program) : SO → St → (St → Prop) → Prop
  | .r dst op, σ, K => match rd σ.h σ.s op with
    | some (p, v) => p ∧ K ⟨upd σ.s dst v, σ.h⟩
    | none => False
  | .c dst f args, σ, K => match ev σ.s f, SV.toDVs (args.map (ev σ.s)) with
    | .d (.fn fid caps), some as => ∃ res, PureSpec P fid (as ++ caps) res ∧ K ⟨upd σ.s dst (.d res), σ.h⟩
    | _, _ => False
  | .w dst op, σ, K => match wr σ dst op with
    | some (p, σ') => p ∧ K σ'
    | none => False
  | .g t want dst o, σ, K => match σ.s t with
    | .d (.bool b) => (b = want → AO P o σ K) ∧ (b = !want → K (putS σ dst (.d (.tup []))))
    | .d (.tup []) => K (putS σ dst (.d (.tup [])))
    | _ => False

def AOps (P : Program) (K : St → Prop) : List SO → St → Prop
  | [], σ => K σ
  | o :: rest, σ => AO P o σ (AOps P K rest)

def matchU (P : Program) (N : Nat) (o : Oper) : SO → Bool
  | .r dst op => o.dst == some dst && decide (dst < N) && matchR P N o.op op
  | .c dst f args => o.dst == some dst && decide (dst < N) && (match o.op with
    | .call { callee := .value x, args := as, argTypes := _ } => matchX N x f && matchXs N as.toList args
    | _ => false)
  | .w d op => matchW2 P N o.op o.dst d op
  | .g _ _ _ _ => false

def matchO (P : Program) (N : Nat) (ops : Array Oper) (o : Oper) : SO → Bool
  | .g t want dst so => (match o.guard with
    | some (j, want') => want' == want && (ops[j]?).bind (·.dst) == some t && decide (t < N)
    | none => false) && o.dst == dst && matchU P N o so
  | so => o.guard == none && matchU P N o so

def matchOps (P : Program) (N : Nat) (ops : Array Oper) : List Oper → List SO → Bool
  | [], [] => true
  | o :: l, so :: sos => matchO P N ops o so && matchOps P N ops l sos
  | _, _ => false

section
variable {P : Program} {B : Nat} {w0 : World} {M0 : Nat → Prop} {N : Nat} {σ : St} {κ : Nat → Value} {a : Act} {w : World}

theorem exec_call {x : Operand} {f : FuncId} {args : Array Operand} {ts : Array TypeId} {caps : List Value} (hx : a.eval x = .func (.func f) #[] caps.toArray) (hf : callable P f = true) (dst : Option Tmp) (ty : TypeId) (pos : String) (aft : Array Edge) (gd : Option (Nat × Bool)) :
    (execOp a.eval ⟨dst, .call { callee := .value x, args, argTypes := ts }, ty, pos, aft, gd⟩).run P w = .ok (.enter f (args.toList.map a.eval ++ caps).toArray) w := by
  unfold callable at hf
  cases hfn : P.funcs[f]? with
  | none => simp [hfn] at hf
  | some fn =>
    simp only [hfn, Bool.and_eq_true, bne_iff_ne, ne_eq] at hf
    obtain ⟨h1, h2⟩ := hf
    have e : (args.map a.eval) ++ caps.toArray = (args.toList.map a.eval ++ caps).toArray := by
      rw [← Array.toList_inj]; simp
    have h3 : (fn.name == "runtime.NumGoroutine") = false := by simpa using h2
    have h4 : fn.body.isNone = false := by cases hb : fn.body <;> simp_all
    simp only [execOp, resolve, hx, Deferred.ofValue, Sem.run_bind, Sem.run_pure, Result.andThen_ok, invoke, callFunc, program, Sem.run, hfn, h3, h4, Bool.false_eq_true, if_false]
    simp [e]

/-- One operation (its guard aside), in the model. -/
theorem u_sound {ops : Array Oper} (hr : Ref B w0 M0 N σ κ a w) {o : Oper} {so : SO} (hm : matchU P N o so = true) {K : St → Prop} (h : AO P so σ K) {Q : Exit → Act → World → Prop} {next : Act → World → Prop}
    (hn : ∀ σ' κ' a' w', Ref B w0 M0 N σ' κ' a' w' → K σ' → next a' w') : o.wp P a w next Q := by
  cases so with
  | r dst op =>
    simp only [matchU, Bool.and_eq_true, beq_iff_eq, decide_eq_true_eq] at hm
    obtain ⟨⟨h1, h2⟩, h3⟩ := hm
    simp only [AO] at h
    split at h
    · rename_i p v hrd
      obtain ⟨u, w', hrun, hb, hrep⟩ := rd_sound hr h3 hrd h.1
      unfold Oper.wp
      rw [hrun]
      simp only [Oper.upon, h1]
      exact hn _ _ _ _ (hr.put hb hrep) h.2
    · exact h.elim
  | c dst f args =>
    simp only [matchU, Bool.and_eq_true, beq_iff_eq, decide_eq_true_eq] at hm
    obtain ⟨⟨h1, h2⟩, h3⟩ := hm
    simp only [AO] at h
    obtain ⟨odst, oop, ty, pos, aft, gd⟩ := o
    simp only at h1 h3
    subst h1
    split at h3
    · rename_i x as ts
      simp only [Bool.and_eq_true] at h3
      split at h
      · rename_i fid caps ds heq heqs
        obtain ⟨res, ⟨hcal, hspec⟩, hK⟩ := h
        have hx := matchX_rep hr h3.1
        rw [heq] at hx
        simp only [RepS, Rep] at hx
        obtain ⟨cvs, hx, hcaps⟩ := hx
        have hargs := RepSL.toDVs _ _ _ (matchXs_rep hr h3.2) heqs
        unfold Oper.wp
        rw [exec_call (P := P) (w := w) (args := as) hx hcal]
        simp only [Oper.upon]
        refine (hspec w (own M0 σ.h κ) _ (fun b hb => hr.own_lt hb) (hargs.append hcaps)).mono ?_
        rintro e w' ⟨v, rfl, hrep, hb⟩
        simp only
        exact hn _ _ _ _ (hr.put hb (by simpa only [RepS] using hrep)) hK
      · exact h.elim
    · cases h3
  | w d op =>
    simp only [matchU] at hm
    simp only [AO] at h
    split at h
    · rename_i p σ' hw
      obtain ⟨v, w', κ', hrun, hcase⟩ := wr_sound hr hm hw h.1
      unfold Oper.wp
      rw [hrun]
      rcases hcase with ⟨u, rfl, href⟩ | ⟨rfl, href⟩
      · simp only [Oper.upon]; exact hn _ _ _ _ href h.2
      · simp only [Oper.upon]; exact hn _ _ _ _ href h.2
    · exact h.elim
  | g _ _ _ _ => simp [matchU] at hm

theorem yielded_rep {ops : Array Oper} (hr : Ref B w0 M0 N σ κ a w) {j t : Nat} {b : Bool} (hj : (ops[j]?).bind (·.dst) = some t) (ht : t < N) (hs : σ.s t = .d (.bool b)) : yielded ops a.tmps j = some b := by
  have := hr.slots t ht
  rw [hs] at this
  simp only [RepS, Rep] at this
  have hlt : t < a.tmps.size := by rw [hr.ntmps]; exact ht
  have hg : a.tmps[t]? = some (.bool b) := by
    simp only [Array.getD_eq_getD_getElem?] at this
    rw [Array.getElem?_eq_getElem hlt] at this ⊢
    simpa using this
  unfold yielded
  simp [hj, hg]

theorem yielded_un {ops : Array Oper} (hr : Ref B w0 M0 N σ κ a w) {j t : Nat} (hj : (ops[j]?).bind (·.dst) = some t) (ht : t < N) (hs : σ.s t = .d (.tup [])) : yielded ops a.tmps j = none := by
  have := hr.slots t ht
  rw [hs] at this
  simp only [RepS, Rep, RepL] at this
  obtain ⟨vs, this, rfl⟩ := this
  have hlt : t < a.tmps.size := by rw [hr.ntmps]; exact ht
  have hg : a.tmps[t]? = some (.tuple #[]) := by
    simp only [Array.getD_eq_getD_getElem?] at this
    rw [Array.getElem?_eq_getElem hlt] at this ⊢
    simpa using this
  unfold yielded
  simp [hj, hg]

/-- One operation, with its guard. -/
theorem o_sound {ops : Array Oper} (hr : Ref B w0 M0 N σ κ a w) {o : Oper} {so : SO} (hm : matchO P N ops o so = true) {K : St → Prop} (h : AO P so σ K) {Q : Exit → Act → World → Prop} {next : Act → World → Prop}
    (hn : ∀ σ' κ' a' w', Ref B w0 M0 N σ' κ' a' w' → K σ' → next a' w') : if Region.wanted o (yielded ops a.tmps) then o.wp P a w next Q ∨ (o.asks P a w ∧ LetsOut Q) else next (a.put o.dst undef) w := by
  have plain : o.guard = none → matchU P N o so = true → if Region.wanted o (yielded ops a.tmps) then o.wp P a w next Q ∨ (o.asks P a w ∧ LetsOut Q) else next (a.put o.dst undef) w := fun hg hu => by
    have : Region.wanted o (yielded ops a.tmps) = true := by simp [Region.wanted, hg]
    rw [this, if_pos rfl]
    exact .inl (u_sound (ops := ops) hr hu h hn)
  have split : ∀ so, matchO P N ops o so = true → (∀ t want dst so', so ≠ .g t want dst so') → o.guard = none ∧ matchU P N o so = true := fun so hm hne => by
    cases so with
    | g t want dst so' => exact absurd rfl (hne t want dst so')
    | _ => simpa [matchO] using hm
  cases so with
  | g t want dst so' =>
    simp only [matchO, Bool.and_eq_true, beq_iff_eq] at hm
    obtain ⟨⟨h1, h2⟩, h3⟩ := hm
    split at h1
    · rename_i j want' hg
      simp only [Bool.and_eq_true, beq_iff_eq, decide_eq_true_eq] at h1
      obtain ⟨⟨rfl, h4⟩, h5⟩ := h1
      simp only [AO] at h
      split at h
      · rename_i b hs
        have hy := yielded_rep (ops := ops) hr h4 h5 hs
        by_cases hb : b = want'
        · have : Region.wanted o (yielded ops a.tmps) = true := by simp [Region.wanted, hg, hy, hb]
          rw [this, if_pos rfl]
          exact .inl (u_sound (ops := ops) hr h3 (h.1 hb) hn)
        · have : Region.wanted o (yielded ops a.tmps) = false := by simp [Region.wanted, hg, hy, hb]
          rw [this]
          simp only [Bool.false_eq_true, if_false]
          have hK := h.2 (by cases b <;> cases want' <;> simp_all)
          rw [h2]
          cases dst with
          | none => exact hn _ _ _ _ hr hK
          | some d => exact hn _ _ _ _ (hr.put (Below.refl _ _) (by simp [RepS, Rep, RepL, undef])) hK
      · rename_i hs
        have hy := yielded_un (ops := ops) hr h4 h5 hs
        have : Region.wanted o (yielded ops a.tmps) = false := by simp [Region.wanted, hg, hy]
        rw [this]
        simp only [Bool.false_eq_true, if_false]
        rw [h2]
        cases dst with
        | none => exact hn _ _ _ _ hr h
        | some d => exact hn _ _ _ _ (hr.put (Below.refl _ _) (by simp [RepS, Rep, RepL, undef])) h
      · exact h.elim
    · cases h1
  | r dst op => obtain ⟨h1, h2⟩ := split _ hm (by simp); exact plain h1 h2
  | c dst f args => obtain ⟨h1, h2⟩ := split _ hm (by simp); exact plain h1 h2
  | w d op => obtain ⟨h1, h2⟩ := split _ hm (by simp); exact plain h1 h2

/-- The operations of a region in the order of the text. -/
theorem ops_sound {ops : Array Oper} {K : St → Prop} {Q : Exit → Act → World → Prop} (hQ : ∀ σ' κ' a' w', Ref B w0 M0 N σ' κ' a' w' → K σ' → Q .normal a' w') :
    ∀ (sos : List SO) (l : List Oper) (k : Nat) (σ : St) (κ : Nat → Value) (a : Act) (w : World), (∀ j o, l[j]? = some o → ops[k + j]? = some o) → matchOps P N ops l sos = true → Ref B w0 M0 N σ κ a w → AOps P K sos σ →
    wpOps P ops Q (List.range' k l.length) a w
  | [], l, k, σ, κ, a, w, hl, hm, hr, h => by
    cases l with
    | nil => simp only [List.length_nil, List.range'_zero, wpOps]; exact hQ _ _ _ _ hr h
    | cons _ _ => simp [matchOps] at hm
  | so :: sos, l, k, σ, κ, a, w, hl, hm, hr, h => by
    cases l with
    | nil => simp [matchOps] at hm
    | cons o l =>
      simp only [matchOps, Bool.and_eq_true] at hm
      simp only [List.length_cons, List.range'_succ, wpOps]
      have ho : ops[k]? = some o := by simpa using hl 0 o (by simp)
      simp only [ho]
      simp only [AOps] at h
      exact o_sound hr hm.1 h fun σ' κ' a' w' hr' hk => ops_sound hQ sos l (k + 1) σ' κ' a' w' (fun j o' hj => by
        have := hl (j + 1) o' (by simpa using hj)
        rw [show k + 1 + j = k + (j + 1) by omega]; exact this) hm.2 hr' hk

theorem region_sound {id : Nat} {ops : Array Oper} {sos : List SO} {K : St → Prop} {Q : Exit → Act → World → Prop} (hQ : ∀ σ' κ' a' w', Ref B w0 M0 N σ' κ' a' w' → K σ' → Q .normal a' w') (hm : matchOps P N ops ops.toList sos = true) (hr : Ref B w0 M0 N σ κ a w) (h : AOps P K sos σ) :
    (Code.region id ops false).wp P Q a w := by
  refine wp_region ?_
  have := ops_sound (P := P) (ops := ops) hQ sos ops.toList 0 σ κ a w (fun j o hj => by simpa using hj) hm hr h
  simpa [List.range_eq_range'] using this
end

end Go.Proofs.YtjdeikkojjdjdaaDoor

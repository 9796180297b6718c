/-
  The engine, part M: the walk's rules, one for each step.
-/
import Derived.Test.YtjdeikkojjdjdaaDoorEngL
namespace Go.Proofs.YtjdeikkojjdjdaaDoor
set_option linter.unusedSimpArgs false
set_option linter.unusedVariables false
open Go.RowKit

def seqK (P : Program) (y : SC) (Q : AX → St → Prop) : AX → St → Prop
  | .normal, σ => AW P y Q σ
  | .exit i, σ => Q (.exit i) σ
  | .ret, σ => Q .ret σ

def blockK (id : Nat) (Q : AX → St → Prop) : AX → St → Prop
  | .normal, σ => Q .normal σ
  | .exit i, σ => if i = id then Q .normal σ else Q (.exit i) σ
  | .ret, σ => Q .ret σ

/-- Behind a function's body: its result. -/
def endK (qs : List RV) (res : DV) : AX → St → Prop
  | .normal, σ => resOf σ qs = some res
  | .exit _, _ => False
  | .ret, σ => resOf σ qs = some res

/-- Behind a round of a loop. -/
def roundK (I : Nat → St → Prop) (m : Nat) (Q : AX → St → Prop) : AX → St → Prop
  | .normal, σ => ∃ m', m' < m ∧ I m' σ
  | .exit i, σ => Q (.exit i) σ
  | .ret, σ => Q .ret σ

def cutK (R : St → Prop) (Q : AX → St → Prop) : AX → St → Prop
  | .normal, σ => R σ
  | .exit i, σ => Q (.exit i) σ
  | .ret, σ => Q .ret σ

section
variable {P : Program} {x y : SC} {Q : AX → St → Prop} {σ : St} {s : Nat → SV} {h : Nat → Ch} {K : St → Prop} {sos : List SO}

theorem pure_walk {f : FuncId} {fn : Func} {qs : List RV} {args : List DV} {res : DV} (hf : P.funcs[f]? = some fn) (hfit : fits P f fn x qs args.length = true)
    (hw : AW P x (endK qs res) ⟨initS args, fun _ => .dead⟩) : PureSpec P f args res := by
  refine pure_of_aw hf hfit (AW_mono x (fun e σ he => ?_) hw)
  cases e <;> exact he

theorem W_seq (hw : AW P x (seqK P y Q) σ) : AW P (.seq x y) Q σ := AW_mono x (fun e σ he => by cases e <;> exact he) hw
theorem W_cut (R : St → Prop) (hw : AW P x (cutK R Q) σ) (hy : ∀ σ', R σ' → AW P y Q σ') : AW P (.cut x y) Q σ :=
  AW_cut R (AW_mono x (fun e σ he => by cases e <;> exact he) hw) hy
theorem W_skip (hw : Q .normal σ) : AW P .skip Q σ := hw
theorem W_ret (hw : Q .ret σ) : AW P .ret Q σ := hw
theorem W_exit {i : Nat} (hw : Q (.exit i) σ) : AW P (.exit i) Q σ := hw
theorem W_block {i : Nat} (hw : AW P x (blockK i Q) σ) : AW P (.block i x) Q σ := AW_mono x (fun e σ he => by cases e <;> exact he) hw
theorem W_reg {ops : List SO} (hw : AOps P (Q .normal) ops σ) : AW P (.reg ops) Q σ := hw
theorem W_regD {ops : List SO} (hw : AOps P (Q .normal) ops σ) : AW P (.regD ops) Q σ := hw
theorem W_cond {c : SX} {b : Bool} (hc : ev s c = .d (.bool b)) (hx : b = true → AW P x Q ⟨s, h⟩) (hy : b = false → AW P y Q ⟨s, h⟩) : AW P (.cond c x y) Q ⟨s, h⟩ := by
  simp only [AW, hc]; exact ⟨hx, hy⟩
theorem W_condT {c : SX} (hc : ev s c = .d (.bool true)) (hx : AW P x Q ⟨s, h⟩) : AW P (.cond c x y) Q ⟨s, h⟩ := W_cond hc (fun _ => hx) (fun h => by cases h)
theorem W_condF {c : SX} (hc : ev s c = .d (.bool false)) (hy : AW P y Q ⟨s, h⟩) : AW P (.cond c x y) Q ⟨s, h⟩ := W_cond hc (fun h => by cases h) (fun _ => hy)
theorem W_loop (I : Nat → St → Prop) (m : Nat) (h0 : I m σ) (hround : ∀ m σ, I m σ → AW P x (roundK I m Q) σ) : AW P (.loop x) Q σ :=
  AW_loop I m h0 fun m σ hI => AW_mono x (fun e σ he => by cases e <;> exact he) (hround m σ hI)
theorem W_freeze {id e sz : Nat} {rows : List (List DV)} (hv : h id = .vec e sz rows) (hw : AW P x Q ⟨repS id (.slice rows) s, upd (repH id (.slice rows) h) id .dead⟩) : AW P (.gh (.freeze id) x) Q ⟨s, h⟩ := by
  simp only [AW, Gh.app, hv]; exact hw
theorem W_vecnil {slot id e sz : Nat} (hs : s slot = .nils) (hw : AW P x Q ⟨upd (repS id .any s) slot (.vec id), upd (repH id .any h) id (.vec e sz [])⟩) : AW P (.gh (.vecnil slot id e sz) x) Q ⟨s, h⟩ := by
  simp only [AW, Gh.app, hs]; exact hw

theorem K_seq (hw : AW P y Q σ) : seqK P y Q .normal σ := hw
theorem K_seqE {i : Nat} (hw : Q (.exit i) σ) : seqK P y Q (.exit i) σ := hw
theorem K_seqR (hw : Q .ret σ) : seqK P y Q .ret σ := hw
theorem K_block {i : Nat} (hw : Q .normal σ) : blockK i Q .normal σ := hw
theorem K_blockR {i : Nat} (hw : Q .ret σ) : blockK i Q .ret σ := hw
theorem K_blockE {i : Nat} (hw : Q .normal σ) : blockK i Q (.exit i) σ := by simp only [blockK, if_true]; exact hw
theorem K_blockN {i j : Nat} (hne : j ≠ i) (hw : Q (.exit j) σ) : blockK i Q (.exit j) σ := by simp only [blockK, hne, if_false]; exact hw
theorem K_end {qs : List RV} {res : DV} (hw : resOf σ qs = some res) : endK qs res .ret σ := hw
theorem K_round {I : Nat → St → Prop} {m : Nat} (m' : Nat) (hlt : m' < m) (hI : I m' σ) : roundK I m Q .normal σ := ⟨m', hlt, hI⟩
theorem K_roundE {I : Nat → St → Prop} {m i : Nat} (hw : Q (.exit i) σ) : roundK I m Q (.exit i) σ := hw
theorem K_roundR {I : Nat → St → Prop} {m : Nat} (hw : Q .ret σ) : roundK I m Q .ret σ := hw
theorem K_cut {R : St → Prop} (hw : R σ) : cutK R Q .normal σ := hw
theorem K_cutE {R : St → Prop} {i : Nat} (hw : Q (.exit i) σ) : cutK R Q (.exit i) σ := hw
theorem K_cutR {R : St → Prop} (hw : Q .ret σ) : cutK R Q .ret σ := hw

theorem O_nil (hk : K σ) : AOps P K [] σ := hk
theorem O_r {dst : Nat} {op : ROp} {p : Prop} {v : SV} (hr : rd h s op = some (p, v)) (hp : p) (hk : AOps P K sos ⟨upd s dst v, h⟩) : AOps P K (.r dst op :: sos) ⟨s, h⟩ := by
  simp only [AOps, AO, hr]; exact ⟨hp, hk⟩
theorem O_c {dst f : Nat} {args : List SX} {as : List DV} {res : DV} (ha : SV.toDVs (args.map (ev s)) = some as) (hs : PureSpec P f as res) (hk : AOps P K sos ⟨upd s dst (.d res), h⟩) : AOps P K (.c dst (.f f) args :: sos) ⟨s, h⟩ := by
  simp only [AOps, AO, ev, ha, List.append_nil]; exact ⟨res, hs, hk⟩
theorem O_cv {dst t f : Nat} {args : List SX} {as caps : List DV} {res : DV} (hf : s t = .d (.fn f caps)) (ha : SV.toDVs (args.map (ev s)) = some as) (hs : PureSpec P f (as ++ caps) res) (hk : AOps P K sos ⟨upd s dst (.d res), h⟩) : AOps P K (.c dst (.t t) args :: sos) ⟨s, h⟩ := by
  simp only [AOps, AO, ev, hf, ha]; exact ⟨res, hs, hk⟩
theorem O_w {dst : Nat} {op : WOp} {p : Prop} {s' : Nat → SV} {h' : Nat → Ch} (hw : wr ⟨s, h⟩ dst op = some (p, ⟨s', h'⟩)) (hp : p) (hk : AOps P K sos ⟨s', h'⟩) : AOps P K (.w dst op :: sos) ⟨s, h⟩ := by
  simp only [AOps, AO, hw]; exact ⟨hp, hk⟩
theorem upd_id (f : Nat → SV) (t : Nat) (v : SV) (hv : f t = v) : upd f t v = f := by
  funext j; by_cases hj : j = t
  · subst hj; rw [upd_same, hv]
  · rw [upd_ne _ _ _ _ hj]
/-- A guard that is known. -/
theorem O_gY {t : Nat} {want : Bool} {dst : Option Nat} {o : SO} (hg : s t = .d (.bool want)) (hk : AOps P K (o :: sos) ⟨s, h⟩) : AOps P K (.g t want dst o :: sos) ⟨s, h⟩ := by
  simp only [AOps, AO, hg]; exact ⟨fun _ => hk, fun hh => (by cases want <;> cases hh)⟩
theorem O_gN {t : Nat} {want b : Bool} {d : Nat} {o : SO} (hg : s t = .d (.bool b)) (hb : b = !want) (hk : AOps P K sos ⟨upd s d (.d (.tup [])), h⟩) : AOps P K (.g t want (some d) o :: sos) ⟨s, h⟩ := by
  simp only [AOps, AO, hg]; exact ⟨fun hh => (by subst hb; cases want <;> cases hh), fun _ => hk⟩
theorem O_gN0 {t : Nat} {want b : Bool} {o : SO} (hg : s t = .d (.bool b)) (hb : b = !want) (hk : AOps P K sos ⟨s, h⟩) : AOps P K (.g t want none o :: sos) ⟨s, h⟩ := by
  simp only [AOps, AO, hg]; exact ⟨fun hh => (by subst hb; cases want <;> cases hh), fun _ => hk⟩
theorem O_gU {t d : Nat} {want : Bool} {o : SO} (hg : s t = .d (.tup [])) (hk : AOps P K sos ⟨upd s d (.d (.tup [])), h⟩) : AOps P K (.g t want (some d) o :: sos) ⟨s, h⟩ := by
  simp only [AOps, AO, hg, putS]; exact hk
theorem O_gU0 {t : Nat} {want : Bool} {o : SO} (hg : s t = .d (.tup [])) (hk : AOps P K sos ⟨s, h⟩) : AOps P K (.g t want none o :: sos) ⟨s, h⟩ := by
  simp only [AOps, AO, hg, putS]; exact hk
theorem O_gT {t d : Nat} {o : SO} (hg : s t = .d (.bool true)) (hk : AOps P K sos ⟨upd s d (.d (.tup [])), h⟩) : AOps P K (.g t false (some d) o :: sos) ⟨s, h⟩ := O_gN hg rfl hk
theorem O_gF {t d : Nat} {o : SO} (hg : s t = .d (.bool false)) (hk : AOps P K sos ⟨upd s d (.d (.tup [])), h⟩) : AOps P K (.g t true (some d) o :: sos) ⟨s, h⟩ := O_gN hg rfl hk
theorem O_gT0 {t : Nat} {o : SO} (hg : s t = .d (.bool true)) (hk : AOps P K sos ⟨s, h⟩) : AOps P K (.g t false none o :: sos) ⟨s, h⟩ := O_gN0 hg rfl hk
theorem O_gF0 {t : Nat} {o : SO} (hg : s t = .d (.bool false)) (hk : AOps P K sos ⟨s, h⟩) : AOps P K (.g t true none o :: sos) ⟨s, h⟩ := O_gN0 hg rfl hk
/-- A guard that is not known: both ways; the slot holds what is then known. -/
theorem O_g {t : Nat} {want b : Bool} {dst : Option Nat} {o : SO} (hg : s t = .d (.bool b)) (hy : b = true → AOps P K (.g t want dst o :: sos) ⟨upd s t (.d (.bool true)), h⟩) (hn : b = false → AOps P K (.g t want dst o :: sos) ⟨upd s t (.d (.bool false)), h⟩) : AOps P K (.g t want dst o :: sos) ⟨s, h⟩ := by
  cases b with
  | true => have := hy rfl; rwa [upd_id _ _ _ hg] at this
  | false => have := hn rfl; rwa [upd_id _ _ _ hg] at this
end

theorem upd_app {α : Type} (f : Nat → α) (i j : Nat) (v : α) : upd f i v j = if j = i then v else f j := rfl
theorem repS_app (id : Nat) (dv : DV) (s : Nat → SV) (j : Nat) : repS id dv s j = repV id dv (s j) := rfl
theorem repH_app (id : Nat) (dv : DV) (h : Nat → Ch) (j : Nat) : repH id dv h j = repC id dv (h j) := rfl

attribute [push_cast] eqCellK eqCellsK KK.fits rd wr ev growTo St.swap upd_app repS_app repH_app repV repL repC initS binD intOp strOp rowOf rowsOf fillS SV.toDV SV.toDVs DV.cells? SV.cells? intsMin intsMax evN splice List.map_cons List.map_nil List.getElem?_cons_zero List.getElem?_cons_succ List.getElem?_nil List.drop_zero List.drop_succ_cons List.drop_nil List.take_zero List.take_succ_cons List.take_nil List.length_cons List.length_nil List.nil_append List.cons_append Option.getD_some Option.getD_none Int.toNat_natCast Int.toNat_zero and_true true_and and_self ne_eq decide_not Bool.not_true Bool.not_false Nat.zero_le Nat.le_refl decide_true decide_false not_true_eq_false not_false_eq_true Bool.and_self Bool.or_self Bool.and_true Bool.true_and Bool.and_false Bool.false_and

theorem wrap64 (n : Int) (h1 : -9223372036854775808 ≤ n) (h2 : n ≤ 9223372036854775807) : IntKind.i64.wrap n = n := by
  rw [IntKind.wrap_i64]; omega

/-- Behind a round of a loop that counts up to a number. -/
def forK (I : Nat → (Nat → SV) → (Nat → Ch) → Prop) (Q : AX → St → Prop) (k n t i N : Nat) : AX → St → Prop
  | .normal, σ => σ.s k = .d (.int .i64 i) ∧ σ.s n = .d (.int .i64 N) ∧ I (i + 1) (upd (upd σ.s t (.d (.int .i64 ((i : Int) + 1)))) k (.d (.int .i64 ((i : Int) + 1)))) σ.h
  | .exit j, σ => Q (.exit j) σ
  | .ret, σ => Q .ret σ

section
variable {P : Program} {Q : AX → St → Prop} {s : Nat → SV} {h : Nat → Ch}

theorem K_for {I : Nat → (Nat → SV) → (Nat → Ch) → Prop} {k n t i N : Nat} {σ : St} (h1 : σ.s k = .d (.int .i64 i)) (h2 : σ.s n = .d (.int .i64 N)) (h3 : I (i + 1) (upd (upd σ.s t (.d (.int .i64 ((i : Int) + 1)))) k (.d (.int .i64 ((i : Int) + 1)))) σ.h) : forK I Q k n t i N .normal σ := ⟨h1, h2, h3⟩
theorem K_forE {I : Nat → (Nat → SV) → (Nat → Ch) → Prop} {k n t i N j : Nat} {σ : St} (hw : Q (.exit j) σ) : forK I Q k n t i N (.exit j) σ := hw
theorem K_forR {I : Nat → (Nat → SV) → (Nat → Ch) → Prop} {k n t i N : Nat} {σ : St} (hw : Q .ret σ) : forK I Q k n t i N .ret σ := hw

/-- A loop that counts up to a number. -/
theorem W_for {b0 c k n t : Nat} {B : SC} (N : Nat) (I : Nat → (Nat → SV) → (Nat → Ch) → Prop) (hne : c ≠ k ∧ c ≠ n ∧ t ≠ n ∧ k ≠ n) (hN : N ≤ 4611686018427387904) (hk : s k = .d (.int .i64 0)) (hn : s n = .d (.int .i64 N)) (h0 : I 0 s h)
    (body : ∀ i s h, i < N → s k = .d (.int .i64 i) → s n = .d (.int .i64 N) → I i s h → AW P B (forK I (blockK b0 Q) k n t i N) ⟨upd s c (.d (.bool true)), h⟩)
    (done : ∀ s h, I N s h → Q .normal ⟨upd s c (.d (.bool false)), h⟩) :
    AW P (.loop (.seq (.reg [.r c (.bin .lss (.t k) (.t n))]) (.seq (.cond (.t c) .skip (.exit b0)) (.seq B (.reg [.r t (.bin .add (.t k) (.c (.d (.int .i64 1)))), .r k (.mv (.t t))]))))) (blockK b0 Q) ⟨s, h⟩ := by
  obtain ⟨hck, hcn, htn, hkn⟩ := hne
  refine W_loop (fun m σ => ∃ i : Nat, i ≤ N ∧ m = N - i ∧ σ.s k = .d (.int .i64 i) ∧ σ.s n = .d (.int .i64 N) ∧ I i σ.s σ.h) N ⟨0, Nat.zero_le _, rfl, hk, hn, h0⟩ ?_
  rintro m ⟨s, h⟩ ⟨i, hi, rfl, hk, hn, hI⟩
  dsimp only at hk hn hI
  refine W_seq (W_reg (O_r (p := True) (v := .d (.bool (decide ((i : Int) < (N : Int))))) (by simp only [rd, ev, hk, hn, binD, intOp, if_true]) trivial (O_nil (K_seq (W_seq (W_cond (b := decide ((i : Int) < (N : Int))) (by simp [ev, upd]) (fun hb => ?_) (fun hb => ?_)))))))
  · have hb' : i < N := by simpa using hb
    simp only [hb]
    refine W_skip (K_seq (W_seq ?_))
    refine AW_mono B ?_ (body i s h hb' hk hn hI)
    rintro e ⟨s', h'⟩ he
    cases e with
    | normal =>
      obtain ⟨h1, h2, h3⟩ := he
      dsimp only at h1 h2 h3
      have hw : IntKind.i64.wrap ((i : Int) + 1) = (i : Int) + 1 := wrap64 _ (by omega) (by omega)
      refine K_seq (W_reg (O_r (p := True) (v := .d (.int .i64 ((i : Int) + 1))) (by simp only [rd, ev, h1, binD, intOp, hw, if_true]) trivial (O_r (p := True) (v := .d (.int .i64 ((i : Int) + 1))) (by simp [rd, ev, upd]) trivial (O_nil ?_))))
      refine K_round (N - (i + 1)) (by omega) ⟨i + 1, by omega, rfl, by simp [upd], ?_, h3⟩
      dsimp only
      rw [upd_ne _ _ _ _ (Ne.symm hkn), upd_ne _ _ _ _ (Ne.symm htn), h2]
    | exit j => exact he
    | ret => exact he
  · have hb' : i = N := by simp at hb; omega
    subst hb'
    simp only [hb]
    exact W_exit (K_seqE (K_roundE (K_blockE (done s h hI))))
end

end Go.Proofs.YtjdeikkojjdjdaaDoor

/-
  The engine, part M: the walk's rules, one for each step.
-/
import Derived.Test.YtcnohbiegjahkaaGreatDoorSXEngS
namespace Go.Proofs.YtcnohbiegjahkaaGreatDoor
set_option linter.unusedSimpArgs false
set_option linter.unusedVariables false
open Go.RowKit


section
variable {P : Program} {x y : SC} {Q : AX → St → Prop} {σ : St} {s : Nat → SV} {h : Nat → Ch} {K : St → Prop} {sos : List SO}

theorem W_condB {t : SX} {b : Bool} (hc : ev s t = .d (.bool b)) (hx : b = true → AW P x Q ⟨s, h⟩) (hy : b = false → AW P y Q ⟨s, h⟩) : AW P (.cond t x y) Q ⟨s, h⟩ := W_cond (σ := ⟨s, h⟩) hc hx hy
theorem W_condT {t : SX} (hc : ev s t = .d (.bool true)) (hx : AW P x Q ⟨s, h⟩) : AW P (.cond t x y) Q ⟨s, h⟩ := W_condB hc (fun _ => hx) (fun h => by cases h)
theorem K_seq (hw : AW P y Q σ) : seqK P y Q .normal σ := hw
theorem K_seqE {i : Nat} (hw : Q (.exit i) σ) : seqK P y Q (.exit i) σ := hw
theorem K_seqR (hw : Q .ret σ) : seqK P y Q .ret σ := hw
theorem K_block {i : Nat} (hw : Q .normal σ) : blockK i Q .normal σ := hw
theorem K_blockR {i : Nat} (hw : Q .ret σ) : blockK i Q .ret σ := hw
theorem K_blockE {i : Nat} (hw : Q .normal σ) : blockK i Q (.exit i) σ := by simp only [blockK, if_true]; exact hw
theorem K_blockN {i j : Nat} (hne : j ≠ i) (hw : Q (.exit j) σ) : blockK i Q (.exit j) σ := by simp only [blockK, hne, if_false]; exact hw
theorem O_nil (hk : K σ) : AOps P K [] σ := hk
theorem O_r {dst : Nat} {op : ROp} {p : Prop} {v : SV} (hr : rd h s op = some (p, v)) (hp : p) (hk : AOps P K sos ⟨upd s dst v, h⟩) : AOps P K (.r dst op :: sos) ⟨s, h⟩ := by
  simp only [AOps, AO, hr]; exact ⟨hp, hk⟩
theorem O_c {dst f : Nat} {args : List SX} {as : List DV} {res : DV} (ha : SV.toDVs (args.map (ev s)) = some as) (hs : PureSpec P f as res) (hk : AOps P K sos ⟨upd s dst (.d res), h⟩) : AOps P K (.c dst (.f f) args :: sos) ⟨s, h⟩ := by
  have hl := toDVs_lends h _ _ ha
  simp only [AOps, AO, ev, hl, List.append_nil]; exact ⟨res, hs, .inl (by rw [ha]; rfl), hk⟩
theorem O_cv {dst t f : Nat} {args : List SX} {as caps : List DV} {res : DV} (hf : s t = .d (.fn f caps)) (ha : SV.toDVs (args.map (ev s)) = some as) (hs : PureSpec P f (as ++ caps) res) (hk : AOps P K sos ⟨upd s dst (.d res), h⟩) : AOps P K (.c dst (.t t) args :: sos) ⟨s, h⟩ := by
  have hl := toDVs_lends h _ _ ha
  simp only [AOps, AO, ev, hf, hl]; exact ⟨res, hs, .inl (by rw [ha]; rfl), hk⟩
theorem O_w {dst : Nat} {op : WOp} {p : Prop} {s' : Nat → SV} {h' : Nat → Ch} (hw : wr ⟨s, h⟩ dst op = some (p, ⟨s', h'⟩)) (hp : p) (hk : AOps P K sos ⟨s', h'⟩) : AOps P K (.w dst op :: sos) ⟨s, h⟩ :=
  ⟨⟨s, h⟩, Imp.refl _, p, _, hw, hp, hk⟩
theorem O_wI {dst : Nat} {op : WOp} {p : Prop} {σ1 : St} {s' : Nat → SV} {h' : Nat → Ch} (hi : Imp ⟨s, h⟩ σ1) (hw : wr σ1 dst op = some (p, ⟨s', h'⟩)) (hp : p) (hk : AOps P K sos ⟨s', h'⟩) : AOps P K (.w dst op :: sos) ⟨s, h⟩ :=
  ⟨σ1, hi, p, _, hw, hp, hk⟩
theorem O_x {dst : Nat} {op : WOp} {late : List (Nat × Nat × ROp)} {p : Prop} {s' : Nat → SV} {h' : Nat → Ch} (hw : wr ⟨s, h⟩ dst op = some (p, ⟨s', h'⟩)) (hp : p) (hl : Rer ⟨s', h'⟩ late) (hk : AOps P K sos ⟨s', h'⟩) : AOps P K (.x dst op late :: sos) ⟨s, h⟩ := by
  simp only [AOps, AO, hw]; exact ⟨hp, hl, hk⟩
theorem Rer_nil : Rer σ [] := trivial
theorem Rer_cons {a t : Nat} {op : ROp} {l : List (Nat × Nat × ROp)} {p : Prop} {v : SV} (hr : rd h s op = some (p, v)) (hp : p) (hv : v = s t) (hl : Rer ⟨s, h⟩ l) : Rer ⟨s, h⟩ ((a, t, op) :: l) := by
  simp only [Rer, rdG_rd hr]; exact ⟨⟨hp, hv⟩, hl⟩
/-- A call to which owned values are handed. -/
theorem O_p {dst : Option Nat} {f : Nat} {args : List SX} {ins outs : List SV} {res : SV} {L : List (Nat × Ch)} {σ1 : St} {s' : Nat → SV} {h' : Nat → Ch} (hi : Imp ⟨s, h⟩ σ1) (hs : FSpec P f ins res outs) (hc : res.closed = true) (hh : HandL σ1.h (args.map (ev σ1.s)) ins outs L) (ht : takes σ1 L dst res = some ⟨s', h'⟩) (hk : AOps P K sos ⟨s', h'⟩) : AOps P K (.p dst (.f f) args :: sos) ⟨s, h⟩ :=
  ⟨σ1, hi, f, [], ins, outs, res, L, _, rfl, by simpa using hs, hc, hh, ht, hk⟩
end

theorem upd_app {α : Type} (f : Nat → α) (i j : Nat) (v : α) : upd f i v j = if j = i then v else f j := rfl
theorem repS_app (id : Nat) (dv : DV) (s : Nat → SV) (j : Nat) : repS id dv s j = repV id dv (s j) := rfl
theorem repH_app (id : Nat) (dv : DV) (h : Nat → Ch) (j : Nat) : repH id dv h j = repC id dv (h j) := rfl
theorem st_s (l : List (Nat × SV)) (h : List (Nat × Ch)) : (st l h).s = lk l := rfl
theorem st_h (l : List (Nat × SV)) (h : List (Nat × Ch)) : (st l h).h = lh h := rfl

/-- Rows that point to no chunk. -/
theorem repL_dR (id : Nat) (dv : DV) : ∀ (r : List DV), repL id dv (dR r) = dR r
  | [] => rfl
  | d :: r => by
    have := repL_dR id dv r
    simp only [dR, List.map_cons, repL, repV] at *
    rw [this]
theorem repR_dR (id : Nat) (dv : DV) : ∀ (rows : List (List DV)), repR id dv (rows.map dR) = rows.map dR
  | [] => rfl
  | r :: rows => by simp [repR, repL_dR, repR_dR id dv rows]
theorem repV_ownC (id : Nat) (dv : DV) (m : Mask) (d : DV) : repV id dv (ownC m d) = ownC m d := by cases m <;> rfl
theorem repL_ownR (id : Nat) (dv : DV) : ∀ (ms : List Mask) (ds : List DV), repL id dv (ownR ms ds) = ownR ms ds
  | [], ds => by simp [ownR, repL]
  | m :: ms, [] => by simp [ownR, repL]
  | m :: ms, d :: ds => by
    have := repL_ownR id dv ms ds
    unfold ownR at *
    simp only [List.zipWith_cons_cons, repL, repV_ownC, this]
theorem repR_ownR (id : Nat) (dv : DV) (ms : List Mask) : ∀ (rows : List (List DV)), repR id dv (rows.map (ownR ms)) = rows.map (ownR ms)
  | [] => rfl
  | r :: rows => by simp [repR, repL_ownR, repR_ownR id dv ms rows]
theorem repR_append (id : Nat) (dv : DV) : ∀ (xs ys : List (List SV)), repR id dv (xs ++ ys) = repR id dv xs ++ repR id dv ys
  | [], ys => rfl
  | x :: xs, ys => by simp [repR, repR_append id dv xs ys]
theorem repR_take (id : Nat) (dv : DV) : ∀ (xs : List (List SV)) (n : Nat), repR id dv (xs.take n) = (repR id dv xs).take n
  | [], n => by simp [repR]
  | x :: xs, 0 => by simp [repR]
  | x :: xs, n + 1 => by simp [repR, repR_take id dv xs n]
theorem repR_set (id : Nat) (dv : DV) (r : List SV) : ∀ (xs : List (List SV)) (n : Nat), repR id dv (xs.set n r) = (repR id dv xs).set n (repL id dv r)
  | [], n => by simp [repR]
  | x :: xs, 0 => by simp [repR]
  | x :: xs, n + 1 => by simp [repR, repR_set id dv r xs n]
theorem frzs_dR : ∀ (r : List DV), SV.frzs (dR r) = some r
  | [] => rfl
  | d :: r => by have := frzs_dR r; simp only [dR, List.map_cons] at *; simp only [SV.frzs, SV.frz, this]
theorem frzR_dR : ∀ (rows : List (List DV)), SV.frzR (rows.map dR) = some rows
  | [] => rfl
  | r :: rows => by simp [SV.frzR, frzs_dR, frzR_dR rows]
theorem frz_ownC {m : Mask} {d : DV} (h : m.plain = true) : SV.frz (ownC m d) = some d := by
  cases m with
  | sh => rfl
  | sl e ms => simp only [ownC, SV.frz, h, if_true]
  | pt ms => simp only [ownC, SV.frz, h, if_true]
  | mp kk m => simp [Mask.plain] at h
  | bld T e => simp [Mask.plain] at h
theorem frzs_ownR : ∀ {ms : List Mask} {ds : List DV}, Mask.plains ms = true → ds.length = ms.length → SV.frzs (ownR ms ds) = some ds
  | [], ds, _, hl => by have : ds = [] := List.length_eq_zero_iff.1 hl; subst this; rfl
  | m :: ms, [], _, hl => by simp at hl
  | m :: ms, d :: ds, hp, hl => by
    simp only [Mask.plains, Bool.and_eq_true] at hp
    have := frzs_ownR (ms := ms) (ds := ds) hp.2 (by simpa using hl)
    unfold ownR at *
    simp only [List.zipWith_cons_cons, SV.frzs, frz_ownC hp.1, this]
theorem frzR_ownR {ms : List Mask} (hp : Mask.plains ms = true) : ∀ {rows : List (List DV)}, (∀ r ∈ rows, r.length = ms.length) → SV.frzR (rows.map (ownR ms)) = some rows
  | [], _ => rfl
  | r :: rows, h => by
    have := frzR_ownR hp (rows := rows) (fun r hr => h r (by simp [hr]))
    simp only [List.map_cons, SV.frzR, frzs_ownR hp (h r (by simp)), this]
theorem repK_own (id : Nat) (dv : DV) (m : Mask) : ∀ (ks vs : List DV), repK id dv (ks.zip (vs.map (ownC m))) = ks.zip (vs.map (ownC m))
  | [], vs => by simp [repK]
  | k :: ks, [] => by simp [repK]
  | k :: ks, v :: vs => by simp [repK, repV_ownC, repK_own id dv m ks vs]
theorem dR_cons (d : DV) (r : List DV) : dR (d :: r) = .d d :: dR r := rfl
theorem dR_nil : dR [] = [] := rfl

attribute [push_cast] firmAll SV.firm SV.firms eqCellK eqCellsK KK.fits rd wr ev growTo St.swap upd_app repS_app repH_app repV repL repC repR repK repR_dR repL_dR repR_ownR repL_ownR repR_append repR_take repR_set repK_own initS binD intOp strOp rowOf litCells fillS SV.toDV SV.toDVs DV.cells? SV.cells? intsMin intsMax evN splice lk lh st_s st_h SV.noOwn SV.noOwns SV.lend SV.lends SV.lendC SV.lendCs SV.frzR SV.frzs SV.frz frzR_dR chunkR rowsY updL takes SV.nOwn SV.nOwns SV.own1 SV.own1s SV.plug SV.plugs openCh openSt getP setP ownC SV.closed SV.closeds dR_cons dR_nil DV.flat DV.flats List.map_cons List.map_nil List.getElem?_cons_zero List.getElem?_cons_succ List.getElem?_nil List.drop_zero List.drop_succ_cons List.drop_nil List.take_zero List.take_succ_cons List.take_nil List.length_cons List.length_nil List.nil_append List.cons_append List.set_cons_zero List.set_cons_succ Option.getD_some Option.getD_none Int.toNat_natCast Int.toNat_zero and_true true_and and_self ne_eq decide_not Bool.not_true Bool.not_false Nat.zero_le Nat.le_refl decide_true decide_false not_true_eq_false not_false_eq_true Bool.and_self Bool.or_self Bool.and_true Bool.true_and Bool.and_false Bool.false_and Bool.or_true Bool.true_or Bool.or_false Bool.false_or

theorem wrap64 (n : Int) (h1 : -9223372036854775808 ≤ n) (h2 : n ≤ 9223372036854775807) : IntKind.i64.wrap n = n := by
  rw [IntKind.wrap_i64]; omega

section
variable {P : Program} {Q : AX → St → Prop} {σ : St} {α : Type} {mk : α → St} {μ : α → Nat} {I : α → Prop} {m : Nat}
end

section
variable {P : Program} {Q : AX → St → Prop} {σ : St} {α : Type} {mk : Nat → α → St} {I : Nat → α → Prop} {k n t i : Nat} {N : Int}

end

end Go.Proofs.YtcnohbiegjahkaaGreatDoor

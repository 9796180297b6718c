/-
  The engine, part W: slices of which one row is told cell by cell.
-/
import Derived.Test.YtdkncdkdbddgoaaDoorSXEngZ
namespace Go.Proofs.YtdkncdkdbddgoaaDoor
set_option linter.unusedSimpArgs false
set_option linter.unusedVariables false
open Go.RowKit

/-- Rows, of which one is told cell by cell. -/
def zrow (pre : List (List SV)) (cells : List SV) (post : List (List SV)) : List (List SV) := pre ++ cells :: post
theorem zrow_get {k : Nat} {pre post : List (List SV)} {cells : List SV} (hk : k = pre.length) : (zrow pre cells post)[k]? = some cells := by
  subst hk; unfold zrow; simp
theorem zrow_set {k : Nat} {pre post : List (List SV)} {cells c' : List SV} (hk : k = pre.length) : (zrow pre cells post).set k c' = zrow pre c' post := by
  subst hk; unfold zrow; simp
theorem zrow_length {pre post : List (List SV)} {cells : List SV} : (zrow pre cells post).length = pre.length + (post.length + 1) := by
  unfold zrow; simp
theorem repR_zrow (id : Nat) (dv : DV) {pre post : List (List SV)} {cells : List SV} : repR id dv (zrow pre cells post) = zrow (repR id dv pre) (repL id dv cells) (repR id dv post) := by
  unfold zrow; rw [repR_append]; simp only [repR]
section
variable {P : Program} {x0 : SC} {Q : AX → St → Prop} {s : Nat → SV} {h : Nat → Ch} {K : St → Prop} {sos : List SO} {α β : Type} {row : α → List DV} {row' : β → List DV} {ms ms' : List Mask} {l p q : List α} {x : α} {pre post : List (List SV)} {cells : List SV}

/-- A chunk goes back to its place in the focus. -/
theorem imp_closeZ {k id cid e sz off e' n : Nat} {rowsB : List (List SV)} {c' : List SV} {y : List β} (hj : h cid = .vec e' n rowsB) (hh : h id = .vec e sz (zrow pre cells post)) (hk : k = pre.length) (hc : cells[off]? = some (.vec cid)) (hr : rowsle rowsB (vrowO ms' row' y)) (hn : ms'.length = n)
    (hsz : ∀ a, (row' a).length = ms'.length) (hne : id ≠ cid) (hs : (repL cid .any cells).set off (.own (.sl e' ms') (.slice (y.map row'))) = c') : Imp ⟨s, h⟩ ⟨repS cid .any s, upd (upd (repH cid .any h) id (.vec e sz (zrow (repR cid .any pre) c' (repR cid .any post)))) cid .dead⟩ := by
  subst hn hs
  have h1 : Imp ⟨s, h⟩ ⟨s, upd h cid (.vec e' ms'.length (vrowO ms' row' y))⟩ := imp_le (fun _ => .inl rfl) fun j => by
    by_cases hj' : j = cid
    · subst hj'; simp only [upd, if_true, hj]; exact chle_vec hr
    · simp only [upd, hj', if_false]; exact chle_rfl rfl
  have hk' : k = (repR cid .any pre).length := by rw [repR_length]; exact hk
  have h2 := imp_close (σ := ⟨s, upd h cid (.vec e' ms'.length (vrowO ms' row' y))⟩) (id := id) (id' := cid) (p := .v k off) (m := .sl e' ms') (d := .slice (y.map row')) (ch := .vec e' ms'.length (vrowO ms' row' y)) (mk := .vec) hne
    (by simp only [openCh]; rfl) (by intro r hr; obtain ⟨a, _, rfl⟩ := List.mem_map.1 hr; exact hsz a) (by simp only [upd, hne, if_false, hh, getP, zrow_get hk, hc]) (by simp only [upd, if_true])
  have e1 : closeSt ⟨s, upd h cid (.vec e' ms'.length (vrowO ms' row' y))⟩ id (.v k off) cid (.sl e' ms') (.slice (y.map row')) = ⟨repS cid .any s, upd (upd (repH cid .any h) id (.vec e sz (zrow (repR cid .any pre) ((repL cid .any cells).set off (.own (.sl e' ms') (.slice (y.map row')))) (repR cid .any post)))) cid .dead⟩ := by
    have hset : setP (.own (.sl e' ms') (.slice (y.map row'))) (repC cid .any ((upd h cid (.vec e' ms'.length (vrowO ms' row' y))) id)) (.v k off) = .vec e sz (zrow (repR cid .any pre) ((repL cid .any cells).set off (.own (.sl e' ms') (.slice (y.map row')))) (repR cid .any post)) := by
      rw [show upd h cid (.vec e' ms'.length (vrowO ms' row' y)) id = h id from upd_ne _ _ _ _ hne, hh]
      simp only [repC, repR_zrow, setP, zrow_get hk', zrow_set hk']
    unfold closeSt
    dsimp only
    rw [hset]
    congr 1
    funext j
    by_cases hj1 : j = cid
    · subst hj1; simp only [upd, if_true]
    · by_cases hj2 : j = id
      · subst hj2; simp only [upd, hj1, if_false, if_true]
      · simp only [upd, hj1, hj2, if_false, repH]
  rw [e1] at h2
  exact h1.trans h2
end
/-! ### Rows of which the first own more than the others -/
def mixO {α : Type} (ms ms0 : List Mask) (row : α → List DV) (l : List α) (i : Nat) : List (List SV) := vrowO ms row (l.take i) ++ vrowO ms0 row (l.drop i)
section
variable {α : Type} {ms ms0 : List Mask} {row : α → List DV} {l : List α} {x : α} {i : Nat}
theorem mixO_zero : mixO ms ms0 row l 0 = vrowO ms0 row l := rfl
theorem mixO_all : mixO ms ms0 row l l.length = vrowO ms row l := by unfold mixO; simp [vrowO]
theorem mixO_zrow (h : l[i]? = some x) : mixO ms ms0 row l i = zrow (vrowO ms row (l.take i)) (ownR ms0 (row x)) (vrowO ms0 row (l.drop (i + 1))) := by
  obtain ⟨hlt, hget⟩ := List.getElem?_eq_some_iff.1 h
  unfold mixO zrow
  rw [List.drop_eq_getElem_cons hlt, hget]; rfl
theorem zrow_mixO (h : l[i]? = some x) : zrow (vrowO ms row (l.take i)) (ownR ms (row x)) (vrowO ms0 row (l.drop (i + 1))) = mixO ms ms0 row l (i + 1) := by
  obtain ⟨hlt, hget⟩ := List.getElem?_eq_some_iff.1 h
  unfold mixO zrow
  rw [List.take_succ_eq_append_getElem hlt, hget, vrowO_append, List.append_assoc]; rfl
theorem mixO_length : (mixO ms ms0 row l i).length = l.length := by unfold mixO; simp [vrowO_length]; omega
theorem repR_mixO (id : Nat) (dv : DV) : repR id dv (mixO ms ms0 row l i) = mixO ms ms0 row l i := by
  unfold mixO; rw [repR_append, repR_vrowO, repR_vrowO]
end
section
variable {P : Program} {s : Nat → SV} {h : Nat → Ch} {K : St → Prop} {sos : List SO} {α : Type} {row : α → List DV} {ms : List Mask} {p l : List α} {cells : List SV} {post : List (List SV)}
/-- The same, where the place is any number. -/
theorem O_idxK {id e sz dst k : Nat} {pre : List (List SV)} {y i : SX} {ki : IntKind} {n : Int} (hx : ev s y = .vec id) (hh : h id = .vec e sz (zrow pre cells post)) (hi : ev s i = .d (.int ki n)) (hpl : pre.length = k) (hn : n = (k : Int))
    (hk : AOps P K sos ⟨upd s dst (.vref id sz k 0), h⟩) : AOps P K (.r dst (.idx sz y i) :: sos) ⟨s, h⟩ := by
  subst hn hpl
  refine O_r (p := (0 : Int) ≤ (pre.length : Int) ∧ (pre.length : Int) < ((zrow pre cells post).length : Nat) ∧ sz = sz) (v := .vref id sz pre.length 0) (by simp only [rd, hi, hx, hh]; rfl) ⟨by omega, ?_, rfl⟩ hk
  rw [zrow_length]; omega
theorem O_ldK {id e sz off dst k : Nat} {pre : List (List SV)} {c : SV} {y : SX} (hp : ev s y = .vref id sz k off) (hh : h id = .vec e sz (zrow pre cells post)) (hpl : pre.length = k) (hc : cells[off]? = some c) (hno : c.noOwn = true)
    (hk : AOps P K sos ⟨upd s dst c, h⟩) : AOps P K (.r dst (.ld1 y) :: sos) ⟨s, h⟩ :=
  O_r (p := sz = sz) (v := c) (by simp only [rd, hp, hh, zrow_get hpl.symm, hc, hno, if_true]) rfl hk
theorem O_ldAK {id e sz off n dst k : Nat} {pre : List (List SV)} {cs : List SV} {y : SX} (hp : ev s y = .vref id sz k off) (hh : h id = .vec e sz (zrow pre cells post)) (hpl : pre.length = k) (hc : (cells.drop off).take n = cs) (hno : SV.noOwns cs = true) (hl : off + n ≤ cells.length)
    (hk : AOps P K sos ⟨upd s dst (.agg cs), h⟩) : AOps P K (.r dst (.ldA n y) :: sos) ⟨s, h⟩ :=
  O_r (p := sz = sz ∧ off + n ≤ cells.length) (v := .agg cs) (by simp only [rd, hp, hh, zrow_get hpl.symm, hc, hno, if_true]) ⟨rfl, hl⟩ hk
theorem O_stKx {id e sz off k : Nat} {pre : List (List SV)} {v0 : SV} {c' : List SV} {y v : SX} {late : List (Nat × Nat × ROp)} (hp : ev s y = .vref id sz k off) (hv : (ev s v).cells? = some [v0]) (hh : h id = .vec e sz (zrow pre cells post)) (hpl : pre.length = k) (ho : off < cells.length) (hs : cells.set off v0 = c')
    (hl : Rer ⟨s, upd h id (.vec e sz (zrow pre c' post))⟩ late) (hk : AOps P K sos ⟨s, upd h id (.vec e sz (zrow pre c' post))⟩) : AOps P K (.x 0 (.st 1 y v) late :: sos) ⟨s, h⟩ := by
  subst hs; rw [← splice_set1 ho] at hk hl
  exact O_x (p := sz = sz ∧ [v0].length = 1 ∧ off + 1 ≤ cells.length) (by simp only [wr, hp, hh, hv, zrow_get hpl.symm, zrow_set hpl.symm]) ⟨rfl, rfl, ho⟩ hl hk
theorem Rer_idxK {id e sz a t k : Nat} {pre : List (List SV)} {y i : SX} {ki : IntKind} {n : Int} {late : List (Nat × Nat × ROp)} (hx : ev s y = .vec id) (hh : h id = .vec e sz (zrow pre cells post)) (hi : ev s i = .d (.int ki n)) (hpl : pre.length = k) (hn : n = (k : Int)) (ht : s t = .vref id sz k 0)
    (hl : Rer ⟨s, h⟩ late) : Rer ⟨s, h⟩ ((a, t, .idx sz y i) :: late) := by
  subst hn hpl
  refine Rer_cons (p := (0 : Int) ≤ (pre.length : Int) ∧ (pre.length : Int) < ((zrow pre cells post).length : Nat) ∧ sz = sz) (v := .vref id sz pre.length 0) (by simp only [rd, hi, hx, hh]; rfl) ⟨by omega, ?_, rfl⟩ ht.symm hl
  rw [zrow_length]; omega
theorem Rer_ldK {id e sz off a t k : Nat} {pre : List (List SV)} {c : SV} {y : SX} {late : List (Nat × Nat × ROp)} (hp : ev s y = .vref id sz k off) (hh : h id = .vec e sz (zrow pre cells post)) (hpl : pre.length = k) (hc : cells[off]? = some c) (hno : c.noOwn = true) (ht : s t = c)
    (hl : Rer ⟨s, h⟩ late) : Rer ⟨s, h⟩ ((a, t, .ld1 y) :: late) :=
  Rer_cons (p := sz = sz) (v := c) (by simp only [rd, hp, hh, zrow_get hpl.symm, hc, hno, if_true]) rfl ht.symm hl
/-- A call whose result is an owned slice, told outright. -/
theorem O_pD {dst f e n : Nat} {args : List SX} {as0 as : List DV} (hx : SV.toDVs (args.map (ev s)) = some as0) (hs : FSpec P f (as.map .d) (.own (.sl e (List.replicate n .sh)) (.slice (l.map row))) (as.map .d)) (he : as0 = as) (hsz : ∀ a, (row a).length = n)
    (hk : AOps P K sos ⟨upd (repS dst .any s) dst (.vec dst), upd (repH dst .any h) dst (.vec e n (vrowO (List.replicate n .sh) row l))⟩) : AOps P K (.p (some dst) (.f f) args :: sos) ⟨s, h⟩ :=
  by
    rw [vrowO_sh hsz] at hk
    subst he
    exact O_p (σ1 := ⟨s, h⟩) (L := []) (Imp.refl _) hs rfl (hand_data hx) (takes_own hsz) hk
end
section
variable {P : Program} {s : Nat → SV} {h : Nat → Ch} {K : St → Prop} {sos : List SO} {α : Type} {row : α → List DV} {l : List α}
/-- An element of a slice, which is known. -/
theorem O_idxD {sz : Nat} {n : Int} {x i : SX} {k : IntKind} {dst : Nat} {e : α} (hx : ev s x = .d (.slice (l.map row))) (hi : ev s i = .d (.int k n)) (hsz : ∀ e, (row e).length = sz) (he : getI l n = some e)
    (hk : AOps P K sos ⟨upd s dst (.d (.ptr (row e))), h⟩) : AOps P K (.r dst (.idx sz x i) :: sos) ⟨s, h⟩ :=
  O_idxrE (l := l) (kk := fun _ => some ()) (r := ()) (by rw [he]; rfl) hx hi hsz fun e' he' _ => by
    rw [he] at he'; cases he'; exact hk
theorem getI_ofN {i : Nat} {e : α} (h : l[i]? = some e) : getI l (i : Int) = some e := by unfold getI; simpa using h
theorem takes_ownR {σ : St} {dst e n : Nat} (hsz : ∀ a, (row a).length = n) : takes σ [] (some dst) (.own (.sl e (List.replicate n .sh)) (.slice (l.map row))) = some ⟨upd (repS dst .any σ.s) dst (.vec dst), upd (repH dst .any σ.h) dst (.vec e n (vrowO (List.replicate n .sh) row l))⟩ := by
  rw [vrowO_sh hsz]; exact takes_own hsz
/-- A call whose result is an owned slice, where the order is drawn. -/
theorem O_qD {dst f e n : Nat} {args : List SX} {as0 as : List DV} {late : List (Nat × Nat × ROp)} (hx : SV.toDVs (args.map (ev s)) = some as0) (hs : FSpec P f (as.map .d) (.own (.sl e (List.replicate n .sh)) (.slice (l.map row))) (as.map .d)) (he : as0 = as) (hsz : ∀ a, (row a).length = n)
    (hl : Rer ⟨upd (repS dst .any s) dst (.vec dst), upd (repH dst .any h) dst (.vec e n (vrowO (List.replicate n .sh) row l))⟩ late)
    (hk : AOps P K sos ⟨upd (repS dst .any s) dst (.vec dst), upd (repH dst .any h) dst (.vec e n (vrowO (List.replicate n .sh) row l))⟩) : AOps P K (.q dst (.f f) args late :: sos) ⟨s, h⟩ := by
  subst he
  exact ⟨f, as0, _, _, rfl, hx, hs, rfl, takes_ownR hsz, hl, hk⟩
end
attribute [push_cast] repR_zrow repR_mixO mixO_length
end Go.Proofs.YtdkncdkdbddgoaaDoor

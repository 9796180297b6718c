/-
  The engine, part W: slices of which one row is told cell by cell.
-/
import Derived.Test.YthailknfgcegoaaDoorEngZ
namespace Go.Proofs.YthailknfgcegoaaDoor
set_option linter.unusedSimpArgs false
set_option linter.unusedVariables false
open Go.RowKit

/-- Rows, of which one is told cell by cell. -/
def zrow (pre : List (List SV)) (cells : List SV) (post : List (List SV)) : List (List SV) := pre ++ cells :: post
/-- The place of that row. -/
def nlen {α : Type} (p : List α) : Nat := p.length

theorem zrow_get {k : Nat} {pre post : List (List SV)} {cells : List SV} (hk : k = pre.length) : (zrow pre cells post)[k]? = some cells := by
  subst hk; unfold zrow; simp
theorem zrow_set {k : Nat} {pre post : List (List SV)} {cells c' : List SV} (hk : k = pre.length) : (zrow pre cells post).set k c' = zrow pre c' post := by
  subst hk; unfold zrow; simp
theorem zrow_length {pre post : List (List SV)} {cells : List SV} : (zrow pre cells post).length = pre.length + (post.length + 1) := by
  unfold zrow; simp
theorem repR_zrow (id : Nat) (dv : DV) {pre post : List (List SV)} {cells : List SV} : repR id dv (zrow pre cells post) = zrow (repR id dv pre) (repL id dv cells) (repR id dv post) := by
  unfold zrow; rw [repR_append]; simp only [repR]
section
variable {P : Program} {x0 : SC} {Q : AX → St → Prop} {s : Nat → SV} {h : Nat → Ch} {K : St → Prop} {sos : List SO} {α β : Type} {row : α → List DV} {row' : β → List DV} {ms ms' : List Mask} {l p q : List α} {x : α} {pre post : List (List SV)} {cells : List SV}

theorem vrowO_cons : vrowO ms row (x :: l) = ownR ms (row x) :: vrowO ms row l := rfl
theorem focus_eq {n : Int} (hx : getI l n = some x) : vrowO ms row l = zrow (vrowO ms row (l.take n.toNat)) (ownR ms (row x)) (vrowO ms row (l.drop (n.toNat + 1))) := by
  have h1 := getI_get hx
  obtain ⟨hlt, hget⟩ := List.getElem?_eq_some_iff.1 h1
  unfold zrow
  rw [← vrowO_cons, ← vrowO_append]
  congr 1
  subst hget
  rw [← List.drop_eq_getElem_cons hlt, List.take_append_drop]
theorem nlen_take {n : Int} (hx : getI l n = some x) : nlen (l.take n.toNat) = n.toNat := by
  have h1 := getI_lt hx
  unfold nlen; simp; omega
theorem nlen_pre : nlen p = (vrowO ms row p).length := by unfold nlen; rw [vrowO_length]
theorem upd_eq {f : Nat → Ch} {i : Nat} {c : Ch} (hc : f i = c) : upd f i c = f := by
  funext j; unfold upd; split
  · subst_vars; rfl
  · rfl
/-- A row comes into the focus. -/
theorem O_idxZ {R : Type} {r : R} {sz e id : Nat} {n : Int} {y i : SX} {k : IntKind} {dst : Nat} {kk : α → Option R} (hm : (getI l n).bind kk = some r) (hx : ev s y = .vec id) (hh : h id = .vec e sz (vrowO ms row l)) (hi : ev s i = .d (.int k n))
    (hk : ∀ a, getI l n = some a → kk a = some r → AOps P K sos ⟨upd s dst (.vref id sz (nlen (l.take n.toNat)) 0), upd h id (.vec e sz (zrow (vrowO ms row (l.take n.toNat)) (ownR ms (row a)) (vrowO ms row (l.drop (n.toNat + 1)))))⟩) : AOps P K (.r dst (.idx sz y i) :: sos) ⟨s, h⟩ := by
  cases ha : getI l n with
  | none => rw [ha] at hm; cases hm
  | some a =>
    rw [ha] at hm
    refine O_idxVO (l := l) (kk := fun _ => some r) (by rw [ha]; rfl) hx hh vrowO_length hi fun a' ha' _ => ?_
    have := hk a ha hm
    rw [← focus_eq ha, upd_eq hh, nlen_take ha] at this
    exact this
/-- The same row again. -/
theorem O_idxZs {sz e id : Nat} {n : Int} {y i : SX} {k : IntKind} {dst : Nat} (hx : ev s y = .vec id) (hh : h id = .vec e sz (zrow (vrowO ms row (l.take n.toNat)) cells post)) (hi : ev s i = .d (.int k n)) (hg : getI l n = some x)
    (hk : AOps P K sos ⟨upd s dst (.vref id sz (nlen (l.take n.toNat)) 0), h⟩) : AOps P K (.r dst (.idx sz y i) :: sos) ⟨s, h⟩ := by
  have hn : 0 ≤ n := by unfold getI at hg; split at hg <;> simp_all
  have hlt := getI_lt hg
  refine O_r (p := 0 ≤ n ∧ n < ((zrow (vrowO ms row (l.take n.toNat)) cells post).length : Nat) ∧ sz = sz) (v := .vref id sz n.toNat 0) (by simp only [rd, hi, hx, hh]) ⟨hn, ?_, rfl⟩ ?_
  · rw [zrow_length, vrowO_length]; simp only [List.length_take]; omega
  · rw [nlen_take hg] at hk; exact hk
/-- A cell of the row in the focus is read. -/
theorem O_ldZ {id e sz off dst : Nat} {c : SV} {y : SX} (hp : ev s y = .vref id sz (nlen p) off) (hh : h id = .vec e sz (zrow (vrowO ms row p) cells post)) (hc : cells[off]? = some c) (hno : c.noOwn = true)
    (hk : AOps P K sos ⟨upd s dst c, h⟩) : AOps P K (.r dst (.ld1 y) :: sos) ⟨s, h⟩ :=
  O_r (p := sz = sz) (v := c) (by simp only [rd, hp, hh, zrow_get nlen_pre, hc, hno, if_true]) rfl hk
theorem O_ldAZ {id e sz off n dst : Nat} {cs : List SV} {y : SX} (hp : ev s y = .vref id sz (nlen p) off) (hh : h id = .vec e sz (zrow (vrowO ms row p) cells post)) (hc : (cells.drop off).take n = cs) (hno : SV.noOwns cs = true) (hl : off + n ≤ cells.length)
    (hk : AOps P K sos ⟨upd s dst (.agg cs), h⟩) : AOps P K (.r dst (.ldA n y) :: sos) ⟨s, h⟩ :=
  O_r (p := sz = sz ∧ off + n ≤ cells.length) (v := .agg cs) (by simp only [rd, hp, hh, zrow_get nlen_pre, hc, hno, if_true]) ⟨rfl, hl⟩ hk
/-- A load that opens. -/
theorem imp_openZ {id cid e sz off e' : Nat} {k : Nat} {l' : List β} (hne : id ≠ cid) (hh : h id = .vec e sz (zrow pre cells post)) (hk : k = pre.length) (hc : cells[off]? = some (.own (.sl e' ms') (.slice (l'.map row')))) :
    Imp ⟨s, h⟩ ⟨repS cid .any s, upd (upd (repH cid .any h) id (.vec e sz (zrow (repR cid .any pre) ((repL cid .any cells).set off (.vec cid)) (repR cid .any post)))) cid (.vec e' ms'.length (vrowO ms' row' l'))⟩ := by
  refine imp_open (σ := ⟨s, h⟩) (p := .v k off) hne ?_
  have hg : getP (h id) (.v k off) = some (.own (.sl e' ms') (.slice (l'.map row'))) := by
    simp only [hh, getP, zrow_get hk, hc]
  have hk' : k = (repR cid .any pre).length := by rw [repR_length]; exact hk
  simp only [openSt, hg, openCh]
  simp only [hh, repC, repR_zrow, setP, zrow_get hk', zrow_set hk']
  rfl
theorem O_ldZo {id e sz off e' n' dst tp : Nat} {l' : List β} {c' : List SV} (hp : s tp = .vref id sz (nlen p) off) (hh : h id = .vec e sz (zrow (vrowO ms row p) cells (vrowO ms row q))) (hc : cells[off]? = some (.own (.sl e' ms') (.slice (l'.map row')))) (hne : id ≠ dst) (hn : ms'.length = n') (hs : (repL dst .any cells).set off (.vec dst) = c')
    (hk : AOps P K sos ⟨upd (repS dst .any s) dst (.vec dst), upd (upd (repH dst .any h) id (.vec e sz (zrow (vrowO ms row p) c' (vrowO ms row q)))) dst (.vec e' n' (vrowO ms' row' l'))⟩) : AOps P K (.o dst (.ld1 (.t tp)) :: sos) ⟨s, h⟩ := by
  subst hn hs
  have h1 := imp_openZ (s := s) hne hh nlen_pre hc
  simp only [repR_vrowO] at h1
  refine ⟨_, h1, sz = sz, .vec dst, ?_, rfl, hk⟩
  have e1 : ev (repS dst .any s) (.t tp) = .vref id sz (nlen p) off := by
    show repV dst .any (s tp) = _
    rw [hp]
    simp only [repV, hne, if_false]
  have hlen : off < (repL dst .any cells).length := by
    have := (List.getElem?_eq_some_iff.1 hc).1
    rw [repL_length]; exact this
  simp only [rd, e1, upd, hne, if_false, if_true, zrow_get (nlen_pre (ms := ms) (row := row) (p := p)), List.getElem?_set_self hlen, SV.noOwn]
/-- A cell of the row in the focus is written. -/
theorem stZ_wr {d id e sz off : Nat} {v0 : SV} {y v : SX} (hp : ev s y = .vref id sz (nlen p) off) (hv : (ev s v).cells? = some [v0]) (hh : h id = .vec e sz (zrow (vrowO ms row p) cells post)) :
    wr ⟨s, h⟩ d (.st 1 y v) = some (sz = sz ∧ [v0].length = 1 ∧ off + 1 ≤ cells.length, ⟨s, upd h id (.vec e sz (zrow (vrowO ms row p) (splice cells off [v0]) post))⟩) := by
  simp only [wr, hp, hh, hv, zrow_get nlen_pre, zrow_set nlen_pre]
theorem O_stZ {id e sz off : Nat} {v0 : SV} {c' : List SV} {y v : SX} (hp : ev s y = .vref id sz (nlen p) off) (hv : (ev s v).cells? = some [v0]) (hh : h id = .vec e sz (zrow (vrowO ms row p) cells post)) (ho : off < cells.length) (hs : cells.set off v0 = c')
    (hk : AOps P K sos ⟨s, upd h id (.vec e sz (zrow (vrowO ms row p) c' post))⟩) : AOps P K (.w 0 (.st 1 y v) :: sos) ⟨s, h⟩ := by
  subst hs; rw [← splice_set1 ho] at hk
  exact O_w (stZ_wr hp hv hh) ⟨rfl, rfl, ho⟩ hk
theorem O_stZx {id e sz off : Nat} {v0 : SV} {c' : List SV} {y v : SX} {late : List (Nat × Nat × ROp)} (hp : ev s y = .vref id sz (nlen p) off) (hv : (ev s v).cells? = some [v0]) (hh : h id = .vec e sz (zrow (vrowO ms row p) cells post)) (ho : off < cells.length) (hs : cells.set off v0 = c')
    (hl : Rer ⟨s, upd h id (.vec e sz (zrow (vrowO ms row p) c' post))⟩ late) (hk : AOps P K sos ⟨s, upd h id (.vec e sz (zrow (vrowO ms row p) c' post))⟩) : AOps P K (.x 0 (.st 1 y v) late :: sos) ⟨s, h⟩ := by
  subst hs; rw [← splice_set1 ho] at hk hl
  exact O_x (stZ_wr hp hv hh) ⟨rfl, rfl, ho⟩ hl hk
/-- A chunk goes back to its place in the focus. -/
theorem imp_closeZ {k id cid e sz off e' n : Nat} {rowsB : List (List SV)} {c' : List SV} {y : List β} (hj : h cid = .vec e' n rowsB) (hh : h id = .vec e sz (zrow pre cells post)) (hk : k = pre.length) (hc : cells[off]? = some (.vec cid)) (hr : rowsle rowsB (vrowO ms' row' y)) (hn : ms'.length = n)
    (hsz : ∀ a, (row' a).length = ms'.length) (hne : id ≠ cid) (hs : (repL cid .any cells).set off (.own (.sl e' ms') (.slice (y.map row'))) = c') : Imp ⟨s, h⟩ ⟨repS cid .any s, upd (upd (repH cid .any h) id (.vec e sz (zrow (repR cid .any pre) c' (repR cid .any post)))) cid .dead⟩ := by
  subst hn hs
  have h1 : Imp ⟨s, h⟩ ⟨s, upd h cid (.vec e' ms'.length (vrowO ms' row' y))⟩ := imp_le (fun _ => .inl rfl) fun j => by
    by_cases hj' : j = cid
    · subst hj'; simp only [upd, if_true, hj]; exact chle_vec hr
    · simp only [upd, hj', if_false]; exact chle_rfl rfl
  have hk' : k = (repR cid .any pre).length := by rw [repR_length]; exact hk
  have h2 := imp_close (σ := ⟨s, upd h cid (.vec e' ms'.length (vrowO ms' row' y))⟩) (id := id) (id' := cid) (p := .v k off) (m := .sl e' ms') (d := .slice (y.map row')) (ch := .vec e' ms'.length (vrowO ms' row' y)) (mk := .vec) hne
    (by simp only [openCh]; rfl) (by intro r hr; obtain ⟨a, _, rfl⟩ := List.mem_map.1 hr; exact hsz a) (by simp only [upd, hne, if_false, hh, getP, zrow_get hk, hc]) (by simp only [upd, if_true])
  have e1 : closeSt ⟨s, upd h cid (.vec e' ms'.length (vrowO ms' row' y))⟩ id (.v k off) cid (.sl e' ms') (.slice (y.map row')) = ⟨repS cid .any s, upd (upd (repH cid .any h) id (.vec e sz (zrow (repR cid .any pre) ((repL cid .any cells).set off (.own (.sl e' ms') (.slice (y.map row')))) (repR cid .any post)))) cid .dead⟩ := by
    have hset : setP (.own (.sl e' ms') (.slice (y.map row'))) (repC cid .any ((upd h cid (.vec e' ms'.length (vrowO ms' row' y))) id)) (.v k off) = .vec e sz (zrow (repR cid .any pre) ((repL cid .any cells).set off (.own (.sl e' ms') (.slice (y.map row')))) (repR cid .any post)) := by
      rw [show upd h cid (.vec e' ms'.length (vrowO ms' row' y)) id = h id from upd_ne _ _ _ _ hne, hh]
      simp only [repC, repR_zrow, setP, zrow_get hk', zrow_set hk']
    unfold closeSt
    dsimp only
    rw [hset]
    congr 1
    funext j
    by_cases hj1 : j = cid
    · subst hj1; simp only [upd, if_true]
    · by_cases hj2 : j = id
      · subst hj2; simp only [upd, hj1, if_false, if_true]
      · simp only [upd, hj1, hj2, if_false, repH]
  rw [e1] at h2
  exact h1.trans h2
/-- The focus is given up. -/
theorem imp_unZ {id e sz : Nat} (hh : h id = .vec e sz (zrow (vrowO ms row p) cells (vrowO ms row q))) (hc : cellsle cells (ownR ms (row x))) : Imp ⟨s, h⟩ ⟨s, upd h id (.vec e sz (vrowO ms row (p ++ x :: q)))⟩ :=
  imp_le (fun _ => .inl rfl) fun j => by
    by_cases hj : j = id
    · subst hj; simp only [upd, if_true, hh]
      refine chle_vec ?_
      exact r_appO r_rflO (r_appO (r_oneO hc) (r_rflO (ms := ms) (row := row) (l := q)))
    · simp only [upd, hj, if_false]; exact chle_rfl rfl
end
theorem focus_nat {α : Type} {ms : List Mask} {row : α → List DV} {l : List α} {i : Nat} {x : α} (h : l[i]? = some x) : vrowO ms row l = zrow (vrowO ms row (l.take i)) (ownR ms (row x)) (vrowO ms row (l.drop (i + 1))) := by
  obtain ⟨hlt, hget⟩ := List.getElem?_eq_some_iff.1 h
  unfold zrow
  rw [← vrowO_cons, ← vrowO_append]
  congr 1
  subst hget
  rw [← List.drop_eq_getElem_cons hlt, List.take_append_drop]
/-- The row in the focus has changed. -/
theorem zrow_un {α : Type} {ms : List Mask} {row : α → List DV} {l : List α} {i : Nat} (y : α) (h : i < l.length) : zrow (vrowO ms row (l.take i)) (ownR ms (row y)) (vrowO ms row (l.drop (i + 1))) = vrowO ms row (l.set i y) := by
  unfold zrow
  rw [← vrowO_cons, ← vrowO_append, List.set_eq_take_append_cons_drop, if_pos h]
theorem vrowO_take {α : Type} {ms : List Mask} {row : α → List DV} {l : List α} {n : Nat} : (vrowO ms row l).take n = vrowO ms row (l.take n) := by unfold vrowO; rw [← List.map_take, ← List.map_take]
theorem pre_len {α : Type} {ms : List Mask} {row : α → List DV} {l : List α} {i : Nat} (h : i < l.length) : (vrowO ms row (l.take i)).length = i := by
  rw [vrowO_length]; simp; omega
theorem K_endI {qs : List RV} {res : DV} {σ σ' : St} (hi : Imp σ σ') (h : endK qs res .ret σ') : endK qs res .ret σ := by
  obtain ⟨σ2, h2, h3⟩ := h; exact ⟨σ2, hi.trans h2, h3⟩
/-- A cell of the row in the focus is forgotten. -/
theorem imp_anyZ {s : Nat → SV} {h : Nat → Ch} {id e sz cid : Nat} {pre post : List (List SV)} (hh : h id = .vec e sz (zrow pre [.vec cid] post)) : Imp ⟨s, h⟩ ⟨s, upd h id (.vec e sz (zrow pre [.d .any] post))⟩ := fun c κ φ a w hr => by
  refine ⟨κ, φ, hr.chg, hr.size, hr.m0, hr.ntmps, hr.defers, hr.kok, hr.slots, hr.ghost, fun i => ?_, hr.mine, hr.nod, hr.sep⟩
  by_cases hi : i = id
  · subst hi
    have hc := hr.chunks i
    dsimp only at hc
    rw [hh] at hc
    simp only [upd_same, RepC, zrow] at hc ⊢
    obtain ⟨xs, G, h1, h2, h3, h4, h5⟩ := hc
    refine ⟨xs, G, by simpa using h1, h2, fun r hr => ?_, ?_, h5⟩
    · simp only [List.mem_append, List.mem_cons] at hr
      rcases hr with hr | rfl | hr
      · exact h3 r (by simp [hr])
      · have := h3 [.vec cid] (by simp); simpa using this
      · exact h3 r (by simp [hr])
    · simp only [List.flatten_append, List.flatten_cons, List.cons_append, List.nil_append] at h4 ⊢
      obtain ⟨F1, F2, hF, k1, k2⟩ := h4.split
      unfold RepGL at k2
      obtain ⟨u, us, G1, G2, q1, q2, q3, q4⟩ := k2
      rw [hF, ← List.take_append_drop pre.flatten.length xs]
      refine k1.append ?_
      unfold RepGL
      unfold RepG at q3
      refine ⟨u, us, [], G2, q1, by rw [q2, q3.1], ?_, q4⟩
      unfold RepG
      exact ⟨rfl, by simp only [RepS]; unfold Rep; trivial⟩
  · simp only [upd_ne _ _ _ _ hi]; exact hr.chunks i
/-! ### Rows of which the first own more than the others -/
def mixO {α : Type} (ms ms0 : List Mask) (row : α → List DV) (l : List α) (i : Nat) : List (List SV) := vrowO ms row (l.take i) ++ vrowO ms0 row (l.drop i)
section
variable {α : Type} {ms ms0 : List Mask} {row : α → List DV} {l : List α} {x : α} {i : Nat}
theorem mixO_zero : mixO ms ms0 row l 0 = vrowO ms0 row l := rfl
theorem mixO_all : mixO ms ms0 row l l.length = vrowO ms row l := by unfold mixO; simp [vrowO]
theorem mixO_zrow (h : l[i]? = some x) : mixO ms ms0 row l i = zrow (vrowO ms row (l.take i)) (ownR ms0 (row x)) (vrowO ms0 row (l.drop (i + 1))) := by
  obtain ⟨hlt, hget⟩ := List.getElem?_eq_some_iff.1 h
  unfold mixO zrow
  rw [List.drop_eq_getElem_cons hlt, hget]; rfl
theorem zrow_mixO (h : l[i]? = some x) : zrow (vrowO ms row (l.take i)) (ownR ms (row x)) (vrowO ms0 row (l.drop (i + 1))) = mixO ms ms0 row l (i + 1) := by
  obtain ⟨hlt, hget⟩ := List.getElem?_eq_some_iff.1 h
  unfold mixO zrow
  rw [List.take_succ_eq_append_getElem hlt, hget, vrowO_append, List.append_assoc]; rfl
theorem mixO_length : (mixO ms ms0 row l i).length = l.length := by unfold mixO; simp [vrowO_length]; omega
theorem repR_mixO (id : Nat) (dv : DV) : repR id dv (mixO ms ms0 row l i) = mixO ms ms0 row l i := by
  unfold mixO; rw [repR_append, repR_vrowO, repR_vrowO]
theorem nlen_takeN (h : l[i]? = some x) : (i : Int) = (nlen (l.take i) : Int) := by
  obtain ⟨hlt, _⟩ := List.getElem?_eq_some_iff.1 h
  unfold nlen; simp; omega
end
section
variable {P : Program} {s : Nat → SV} {h : Nat → Ch} {K : St → Prop} {sos : List SO} {α : Type} {row : α → List DV} {ms : List Mask} {p l : List α} {cells : List SV} {post : List (List SV)}
/-- A pointer to the row in the focus. -/
theorem O_idxP {id e sz dst : Nat} {y i : SX} {k : IntKind} {n : Int} (hx : ev s y = .vec id) (hh : h id = .vec e sz (zrow (vrowO ms row p) cells post)) (hi : ev s i = .d (.int k n)) (hn : n = (nlen p : Int))
    (hk : AOps P K sos ⟨upd s dst (.vref id sz (nlen p) 0), h⟩) : AOps P K (.r dst (.idx sz y i) :: sos) ⟨s, h⟩ := by
  subst hn
  refine O_r (p := (0 : Int) ≤ (nlen p : Int) ∧ (nlen p : Int) < ((zrow (vrowO ms row p) cells post).length : Nat) ∧ sz = sz) (v := .vref id sz (nlen p) 0) (by simp only [rd, hi, hx, hh]; rfl) ⟨by omega, ?_, rfl⟩ hk
  rw [zrow_length, vrowO_length]; unfold nlen; omega
/-- The same, where the place is any number. -/
theorem O_idxK {id e sz dst k : Nat} {pre : List (List SV)} {y i : SX} {ki : IntKind} {n : Int} (hx : ev s y = .vec id) (hh : h id = .vec e sz (zrow pre cells post)) (hi : ev s i = .d (.int ki n)) (hpl : pre.length = k) (hn : n = (k : Int))
    (hk : AOps P K sos ⟨upd s dst (.vref id sz k 0), h⟩) : AOps P K (.r dst (.idx sz y i) :: sos) ⟨s, h⟩ := by
  subst hn hpl
  refine O_r (p := (0 : Int) ≤ (pre.length : Int) ∧ (pre.length : Int) < ((zrow pre cells post).length : Nat) ∧ sz = sz) (v := .vref id sz pre.length 0) (by simp only [rd, hi, hx, hh]; rfl) ⟨by omega, ?_, rfl⟩ hk
  rw [zrow_length]; omega
theorem O_ldK {id e sz off dst k : Nat} {pre : List (List SV)} {c : SV} {y : SX} (hp : ev s y = .vref id sz k off) (hh : h id = .vec e sz (zrow pre cells post)) (hpl : pre.length = k) (hc : cells[off]? = some c) (hno : c.noOwn = true)
    (hk : AOps P K sos ⟨upd s dst c, h⟩) : AOps P K (.r dst (.ld1 y) :: sos) ⟨s, h⟩ :=
  O_r (p := sz = sz) (v := c) (by simp only [rd, hp, hh, zrow_get hpl.symm, hc, hno, if_true]) rfl hk
theorem O_ldAK {id e sz off n dst k : Nat} {pre : List (List SV)} {cs : List SV} {y : SX} (hp : ev s y = .vref id sz k off) (hh : h id = .vec e sz (zrow pre cells post)) (hpl : pre.length = k) (hc : (cells.drop off).take n = cs) (hno : SV.noOwns cs = true) (hl : off + n ≤ cells.length)
    (hk : AOps P K sos ⟨upd s dst (.agg cs), h⟩) : AOps P K (.r dst (.ldA n y) :: sos) ⟨s, h⟩ :=
  O_r (p := sz = sz ∧ off + n ≤ cells.length) (v := .agg cs) (by simp only [rd, hp, hh, zrow_get hpl.symm, hc, hno, if_true]) ⟨rfl, hl⟩ hk
theorem O_ldKo {id e sz off e' n' dst tp k : Nat} {pre : List (List SV)} {β : Type} {row' : β → List DV} {ms' : List Mask} {l' : List β} {c' : List SV} (hp : s tp = .vref id sz k off) (hh : h id = .vec e sz (zrow pre cells post)) (hpl : pre.length = k) (hc : cells[off]? = some (.own (.sl e' ms') (.slice (l'.map row')))) (hne : id ≠ dst) (hn : ms'.length = n') (hs : (repL dst .any cells).set off (.vec dst) = c')
    (hk : AOps P K sos ⟨upd (repS dst .any s) dst (.vec dst), upd (upd (repH dst .any h) id (.vec e sz (zrow (repR dst .any pre) c' (repR dst .any post)))) dst (.vec e' n' (vrowO ms' row' l'))⟩) : AOps P K (.o dst (.ld1 (.t tp)) :: sos) ⟨s, h⟩ := by
  subst hn hs
  have h1 := imp_openZ (s := s) hne hh hpl.symm hc
  refine ⟨_, h1, sz = sz, .vec dst, ?_, rfl, hk⟩
  have e1 : ev (repS dst .any s) (.t tp) = .vref id sz k off := by
    show repV dst .any (s tp) = _
    rw [hp]
    simp only [repV, hne, if_false]
  have hlen : off < (repL dst .any cells).length := by
    have := (List.getElem?_eq_some_iff.1 hc).1
    rw [repL_length]; exact this
  have hk' : k = (repR dst .any pre).length := by rw [repR_length]; exact hpl.symm
  simp only [rd, e1, upd, hne, if_false, if_true, zrow_get hk', List.getElem?_set_self hlen, SV.noOwn]
theorem O_stK {id e sz off k : Nat} {pre : List (List SV)} {v0 : SV} {c' : List SV} {y v : SX} (hp : ev s y = .vref id sz k off) (hv : (ev s v).cells? = some [v0]) (hh : h id = .vec e sz (zrow pre cells post)) (hpl : pre.length = k) (ho : off < cells.length) (hs : cells.set off v0 = c')
    (hk : AOps P K sos ⟨s, upd h id (.vec e sz (zrow pre c' post))⟩) : AOps P K (.w 0 (.st 1 y v) :: sos) ⟨s, h⟩ := by
  subst hs; rw [← splice_set1 ho] at hk
  exact O_w (p := sz = sz ∧ [v0].length = 1 ∧ off + 1 ≤ cells.length) (by simp only [wr, hp, hh, hv, zrow_get hpl.symm, zrow_set hpl.symm]) ⟨rfl, rfl, ho⟩ hk
theorem O_stKx {id e sz off k : Nat} {pre : List (List SV)} {v0 : SV} {c' : List SV} {y v : SX} {late : List (Nat × Nat × ROp)} (hp : ev s y = .vref id sz k off) (hv : (ev s v).cells? = some [v0]) (hh : h id = .vec e sz (zrow pre cells post)) (hpl : pre.length = k) (ho : off < cells.length) (hs : cells.set off v0 = c')
    (hl : Rer ⟨s, upd h id (.vec e sz (zrow pre c' post))⟩ late) (hk : AOps P K sos ⟨s, upd h id (.vec e sz (zrow pre c' post))⟩) : AOps P K (.x 0 (.st 1 y v) late :: sos) ⟨s, h⟩ := by
  subst hs; rw [← splice_set1 ho] at hk hl
  exact O_x (p := sz = sz ∧ [v0].length = 1 ∧ off + 1 ≤ cells.length) (by simp only [wr, hp, hh, hv, zrow_get hpl.symm, zrow_set hpl.symm]) ⟨rfl, rfl, ho⟩ hl hk
theorem Rer_idxK {id e sz a t k : Nat} {pre : List (List SV)} {y i : SX} {ki : IntKind} {n : Int} {late : List (Nat × Nat × ROp)} (hx : ev s y = .vec id) (hh : h id = .vec e sz (zrow pre cells post)) (hi : ev s i = .d (.int ki n)) (hpl : pre.length = k) (hn : n = (k : Int)) (ht : s t = .vref id sz k 0)
    (hl : Rer ⟨s, h⟩ late) : Rer ⟨s, h⟩ ((a, t, .idx sz y i) :: late) := by
  subst hn hpl
  refine Rer_cons (p := (0 : Int) ≤ (pre.length : Int) ∧ (pre.length : Int) < ((zrow pre cells post).length : Nat) ∧ sz = sz) (v := .vref id sz pre.length 0) (by simp only [rd, hi, hx, hh]; rfl) ⟨by omega, ?_, rfl⟩ ht.symm hl
  rw [zrow_length]; omega
theorem Rer_ldK {id e sz off a t k : Nat} {pre : List (List SV)} {c : SV} {y : SX} {late : List (Nat × Nat × ROp)} (hp : ev s y = .vref id sz k off) (hh : h id = .vec e sz (zrow pre cells post)) (hpl : pre.length = k) (hc : cells[off]? = some c) (hno : c.noOwn = true) (ht : s t = c)
    (hl : Rer ⟨s, h⟩ late) : Rer ⟨s, h⟩ ((a, t, .ld1 y) :: late) :=
  Rer_cons (p := sz = sz) (v := c) (by simp only [rd, hp, hh, zrow_get hpl.symm, hc, hno, if_true]) rfl ht.symm hl
/-- A call whose result is an owned slice, told outright. -/
theorem O_pD {dst f e n : Nat} {args : List SX} {as0 as : List DV} (hx : SV.toDVs (args.map (ev s)) = some as0) (hs : FSpec P f (as.map .d) (.own (.sl e (List.replicate n .sh)) (.slice (l.map row))) (as.map .d)) (he : as0 = as) (hsz : ∀ a, (row a).length = n)
    (hk : AOps P K sos ⟨upd (repS dst .any s) dst (.vec dst), upd (repH dst .any h) dst (.vec e n (vrowO (List.replicate n .sh) row l))⟩) : AOps P K (.p (some dst) (.f f) args :: sos) ⟨s, h⟩ :=
  by
    rw [vrowO_sh hsz] at hk
    subst he
    exact O_p (σ1 := ⟨s, h⟩) (L := []) (Imp.refl _) hs rfl (hand_data hx) (takes_own hsz) hk
end
section
variable {P : Program} {s : Nat → SV} {h : Nat → Ch} {K : St → Prop} {sos : List SO} {α : Type} {row : α → List DV} {l : List α}
/-- An element of a slice, which is known. -/
theorem O_idxD {sz : Nat} {n : Int} {x i : SX} {k : IntKind} {dst : Nat} {e : α} (hx : ev s x = .d (.slice (l.map row))) (hi : ev s i = .d (.int k n)) (hsz : ∀ e, (row e).length = sz) (he : getI l n = some e)
    (hk : AOps P K sos ⟨upd s dst (.d (.ptr (row e))), h⟩) : AOps P K (.r dst (.idx sz x i) :: sos) ⟨s, h⟩ :=
  O_idxrE (l := l) (kk := fun _ => some ()) (r := ()) (by rw [he]; rfl) hx hi hsz fun e' he' _ => by
    rw [he] at he'; cases he'; exact hk
theorem getI_ofN {i : Nat} {e : α} (h : l[i]? = some e) : getI l (i : Int) = some e := by unfold getI; simpa using h
/-- Rows are put behind, told outright. -/
theorem O_appD {dst e sz id : Nat} {y z : SX} {rows rows2 : List (List SV)} (hx : ev s y = .vec id) (hh : h id = .vec e sz rows) (hy : rowsY (ev s z) = some rows2) (hall : ∀ r ∈ rows2, r.length = sz) (hlen : rows.length + rows2.length ≤ 137438953472)
    (hk : AOps P K sos ⟨upd (repS id .any s) dst (.vec id), upd (repH id .any h) id (.vec e sz (repR id .any rows ++ repR id .any rows2))⟩) : AOps P K (.w dst (.app e sz y z) :: sos) ⟨s, h⟩ := by
  rw [← repR_append] at hk
  exact O_w (p := e = e ∧ sz = sz ∧ (∀ r ∈ rows2, r.length = sz) ∧ rows.length + rows2.length ≤ 137438953472) (by simp only [wr, hx, hy, hh, growTo, St.swap]) ⟨rfl, rfl, hall, hlen⟩ hk
theorem O_appDx {dst e sz id : Nat} {y z : SX} {rows rows2 : List (List SV)} {late : List (Nat × Nat × ROp)} (hx : ev s y = .vec id) (hh : h id = .vec e sz rows) (hy : rowsY (ev s z) = some rows2) (hall : ∀ r ∈ rows2, r.length = sz) (hlen : rows.length + rows2.length ≤ 137438953472)
    (hl : Rer ⟨upd (repS id .any s) dst (.vec id), upd (repH id .any h) id (.vec e sz (repR id .any rows ++ repR id .any rows2))⟩ late)
    (hk : AOps P K sos ⟨upd (repS id .any s) dst (.vec id), upd (repH id .any h) id (.vec e sz (repR id .any rows ++ repR id .any rows2))⟩) : AOps P K (.x dst (.app e sz y z) late :: sos) ⟨s, h⟩ := by
  rw [← repR_append] at hk hl
  exact O_x (p := e = e ∧ sz = sz ∧ (∀ r ∈ rows2, r.length = sz) ∧ rows.length + rows2.length ≤ 137438953472) (by simp only [wr, hx, hy, hh, growTo, St.swap]) ⟨rfl, rfl, hall, hlen⟩ hl hk
/-- Rows put behind nil. -/
theorem O_appNDx {dst e sz : Nat} {y z : SX} {rows2 : List (List SV)} {late : List (Nat × Nat × ROp)} (hx : ev s y = .nils) (hy : rowsY (ev s z) = some rows2) (hall : ∀ r ∈ rows2, r.length = sz) (hlen : rows2.length ≤ 137438953472)
    (hl : Rer ⟨upd (repS dst .any s) dst (.vec dst), upd (repH dst .any h) dst (.vec e sz (repR dst .any rows2))⟩ late)
    (hk : AOps P K sos ⟨upd (repS dst .any s) dst (.vec dst), upd (repH dst .any h) dst (.vec e sz (repR dst .any rows2))⟩) : AOps P K (.x dst (.app e sz y z) late :: sos) ⟨s, h⟩ :=
  O_x (p := (∀ r ∈ rows2, r.length = sz) ∧ rows2.length ≤ 137438953472) (by simp only [wr, hx, hy, growTo, St.swap]) ⟨hall, hlen⟩ hl hk
/-- A slice is cut short, told outright. -/
theorem O_truncD {dst e sz id : Nat} {y z : SX} {ki : IntKind} {n : Int} {rows : List (List SV)} (m : Nat) (hx : ev s y = .vec id) (hz : ev s z = .d (.int ki n)) (hh : h id = .vec e sz rows) (h0 : n = (m : Int)) (hn : m ≤ rows.length)
    (hk : AOps P K sos ⟨upd (repS id .any s) dst (.vec id), upd (repH id .any h) id (.vec e sz (repR id .any (rows.take m)))⟩) : AOps P K (.w dst (.trunc sz y z) :: sos) ⟨s, h⟩ := by
  subst h0
  exact O_w (p := sz = sz ∧ 0 ≤ (m : Int) ∧ (m : Int) ≤ rows.length) (by simp only [wr, hx, hz, hh, growTo, St.swap, Int.toNat_natCast]) ⟨rfl, by omega, by omega⟩ hk
theorem O_truncDx {dst e sz id : Nat} {y z : SX} {ki : IntKind} {n : Int} {rows : List (List SV)} {late : List (Nat × Nat × ROp)} (m : Nat) (hx : ev s y = .vec id) (hz : ev s z = .d (.int ki n)) (hh : h id = .vec e sz rows) (h0 : n = (m : Int)) (hn : m ≤ rows.length)
    (hl : Rer ⟨upd (repS id .any s) dst (.vec id), upd (repH id .any h) id (.vec e sz (repR id .any (rows.take m)))⟩ late)
    (hk : AOps P K sos ⟨upd (repS id .any s) dst (.vec id), upd (repH id .any h) id (.vec e sz (repR id .any (rows.take m)))⟩) : AOps P K (.x dst (.trunc sz y z) late :: sos) ⟨s, h⟩ := by
  subst h0
  exact O_x (p := sz = sz ∧ 0 ≤ (m : Int) ∧ (m : Int) ≤ rows.length) (by simp only [wr, hx, hz, hh, growTo, St.swap, Int.toNat_natCast]) ⟨rfl, by omega, by omega⟩ hl hk
/-- A call whose result owns one thing. -/
theorem O_pAD {dst f : Nat} {args : List SX} {as0 as : List DV} {res : SV} {m : Mask} {v : DV} {ch : Ch} {mk : Nat → SV} (hx : SV.toDVs (args.map (ev s)) = some as0)
    (hs : FSpec P f (as.map .d) res (as.map .d)) (he : as0 = as) (hn : res.nOwn = 1) (ho : res.own1 = some (m, v)) (hc : openCh m v = some (ch, mk)) (hcl : res.closed = true) {x : SV} (hpl : SV.plug (mk dst) res = x)
    (hk : AOps P K sos ⟨upd (repS dst .any s) dst x, upd (repH dst .any h) dst ch⟩) : AOps P K (.p (some dst) (.f f) args :: sos) ⟨s, h⟩ := by
  subst hpl
  exact O_pA (a := some ()) (k := fun _ => some ()) (r := ()) (res := fun _ => res) (m := m) (v := fun _ => v) (ch := fun _ => ch) rfl hx (fun _ _ => hs) he (fun _ => hn) (fun _ => ho) (fun _ => hc) (fun _ => hcl) (fun _ _ => hk)
theorem takes_ownR {σ : St} {dst e n : Nat} (hsz : ∀ a, (row a).length = n) : takes σ [] (some dst) (.own (.sl e (List.replicate n .sh)) (.slice (l.map row))) = some ⟨upd (repS dst .any σ.s) dst (.vec dst), upd (repH dst .any σ.h) dst (.vec e n (vrowO (List.replicate n .sh) row l))⟩ := by
  rw [vrowO_sh hsz]; exact takes_own hsz
/-- A call whose result is an owned slice, where the order is drawn. -/
theorem O_qD {dst f e n : Nat} {args : List SX} {as0 as : List DV} {late : List (Nat × Nat × ROp)} (hx : SV.toDVs (args.map (ev s)) = some as0) (hs : FSpec P f (as.map .d) (.own (.sl e (List.replicate n .sh)) (.slice (l.map row))) (as.map .d)) (he : as0 = as) (hsz : ∀ a, (row a).length = n)
    (hl : Rer ⟨upd (repS dst .any s) dst (.vec dst), upd (repH dst .any h) dst (.vec e n (vrowO (List.replicate n .sh) row l))⟩ late)
    (hk : AOps P K sos ⟨upd (repS dst .any s) dst (.vec dst), upd (repH dst .any h) dst (.vec e n (vrowO (List.replicate n .sh) row l))⟩) : AOps P K (.q dst (.f f) args late :: sos) ⟨s, h⟩ := by
  subst he
  exact ⟨f, as0, _, _, rfl, hx, hs, rfl, takes_ownR hsz, hl, hk⟩
/-- The same with a computation. -/
theorem O_qO {Y R : Type} {r : R} {a : Option Y} {k : Y → Option R} {dst f e n : Nat} {args : List SX} {as0 as : List DV} {l : Y → List α} {late : List (Nat × Nat × ROp)}
    (hm : a.bind k = some r) (hx : SV.toDVs (args.map (ev s)) = some as0)
    (hs : ∀ y, a = some y → FSpec P f (as.map .d) (.own (.sl e (List.replicate n .sh)) (.slice ((l y).map row))) (as.map .d)) (he : as0 = as) (hsz : ∀ a, (row a).length = n)
    (hl : ∀ y, Rer ⟨upd (repS dst .any s) dst (.vec dst), upd (repH dst .any h) dst (.vec e n (vrow row (l y)))⟩ late)
    (hk : ∀ y, k y = some r → AOps P K sos ⟨upd (repS dst .any s) dst (.vec dst), upd (repH dst .any h) dst (.vec e n (vrow row (l y)))⟩) : AOps P K (.q dst (.f f) args late :: sos) ⟨s, h⟩ := by
  subst he
  cases hy : a with
  | none => rw [hy] at hm; cases hm
  | some y =>
    rw [hy] at hm
    exact ⟨f, as0, _, _, rfl, hx, hs y hy, rfl, takes_own hsz, hl y, hk y hm⟩
end
attribute [push_cast] repR_zrow repR_mixO mixO_length
end Go.Proofs.YthailknfgcegoaaDoor

/-
  The engine, part Z: calls whose result is an owned slice.
-/
import Derived.Test.YtcbdpjgejbcpgaaGreatDoorSYEngY
namespace Go.Proofs.YtcbdpjgejbcpgaaGreatDoor
set_option linter.unusedSimpArgs false
set_option linter.unusedVariables false
open Go.RowKit

section
variable {P : Program} {s : Nat → SV} {h : Nat → Ch} {K : St → Prop} {sos : List SO} {α : Type} {row : α → List DV}
/-- A look at a row, which is known behind it. -/
theorem O_idxrE {R : Type} {r : R} {l : List α} {sz : Nat} {n : Int} {x i : SX} {k : IntKind} {dst : Nat} {kk : α → Option R} (hm : (getI l n).bind kk = some r) (hx : ev s x = .d (.slice (l.map row))) (hi : ev s i = .d (.int k n)) (hsz : ∀ e, (row e).length = sz)
    (hk : ∀ e, getI l n = some e → kk e = some r → AOps P K sos ⟨upd s dst (.d (.ptr (row e))), h⟩) : AOps P K (.r dst (.idx sz x i) :: sos) ⟨s, h⟩ := by
  cases he : getI l n with
  | none => rw [he] at hm; cases hm
  | some e =>
    rw [he] at hm
    obtain ⟨h1, h2⟩ := idxS_rd (h := h) hx hi hsz he
    exact O_r h1 h2 (hk e he hm)
/-- It may be looked at again. -/
theorem Rer_idx {l : List α} {sz a t : Nat} {n : Int} {x i : SX} {k : IntKind} {e : α} {late : List (Nat × Nat × ROp)} (hx : ev s x = .d (.slice (l.map row))) (hi : ev s i = .d (.int k n)) (he : getI l n = some e) (hsz : ∀ e, (row e).length = sz) (ht : s t = .d (.ptr (row e)))
    (hl : Rer ⟨s, h⟩ late) : Rer ⟨s, h⟩ ((a, t, .idx sz x i) :: late) := by
  obtain ⟨h1, h2⟩ := idxS_rd (h := h) hx hi hsz he
  exact Rer_cons h1 h2 ht.symm hl
end
/-! ### Slices whose rows own slices -/
def vrowO {α : Type} (ms : List Mask) (row : α → List DV) (l : List α) : List (List SV) := (l.map row).map (ownR ms)
section
variable {α : Type} {ms : List Mask} {row : α → List DV} {l : List α}
theorem vrowO_length : (vrowO ms row l).length = l.length := by simp [vrowO]
theorem vrowO_append {l2 : List α} : vrowO ms row (l ++ l2) = vrowO ms row l ++ vrowO ms row l2 := by simp [vrowO]
theorem vrowO_get {i : Nat} {x : α} (h : l[i]? = some x) : (vrowO ms row l)[i]? = some (ownR ms (row x)) := by simp [vrowO, List.getElem?_map, h]
theorem vrowO_set {i : Nat} {x : α} : vrowO ms row (l.set i x) = (vrowO ms row l).set i (ownR ms (row x)) := by simp [vrowO, List.map_set]
theorem vrowO_sh {n : Nat} (hsz : ∀ a, (row a).length = n) : vrowO (List.replicate n .sh) row l = vrow row l := ownR_sh hsz l
theorem repR_vrowO (id : Nat) (dv : DV) : ∀ (l : List α), repR id dv (vrowO ms row l) = vrowO ms row l
  | [] => rfl
  | x :: l => by
    have ih := repR_vrowO id dv l
    unfold vrowO at ih ⊢
    simp only [List.map_cons, repR, repL_ownR, ih]
theorem ownR_set : ∀ {ms : List Mask} {ds : List DV} {off : Nat} {m : Mask} {d : DV}, ms[off]? = some m → (ownR ms ds).set off (ownC m d) = ownR ms (ds.set off d)
  | [], ds, off, m, d, h => by simp at h
  | m' :: ms, [], off, m, d, h => by simp [ownR]
  | m' :: ms, c :: ds, 0, m, d, h => by simp at h; subst h; simp [ownR]
  | m' :: ms, c :: ds, off + 1, m, d, h => by
    have := ownR_set (ms := ms) (ds := ds) (off := off) (m := m) (d := d) (by simpa using h)
    simp only [ownR_cons, List.set_cons_succ, this]
theorem ownR_get : ∀ {ms : List Mask} {ds : List DV} {off : Nat} {m : Mask} {d : DV}, ms[off]? = some m → ds[off]? = some d → (ownR ms ds)[off]? = some (ownC m d)
  | [], ds, off, m, d, h, _ => by simp at h
  | m' :: ms, [], off, m, d, _, h => by simp at h
  | m' :: ms, c :: ds, 0, m, d, h, h2 => by simp at h h2; subst h h2; rfl
  | m' :: ms, c :: ds, off + 1, m, d, h, h2 => by
    rw [ownR_cons, List.getElem?_cons_succ]
    exact ownR_get (by simpa using h) (by simpa using h2)
end
section
variable {P : Program} {s : Nat → SV} {h : Nat → Ch} {K : St → Prop} {sos : List SO} {α β : Type} {row : α → List DV} {row' : β → List DV} {ms ms' : List Mask} {l : List α} {l' : List β} {x : α}
/-- A slice within a row becomes a chunk of its own. -/
theorem imp_openV {id cid e sz i off e' : Nat} (hh : h id = .vec e sz (vrowO ms row l)) (hx : l[i]? = some x) (hm : ms[off]? = some (.sl e' ms')) (hd : (row x)[off]? = some (.slice (l'.map row'))) (hne : id ≠ cid) :
    Imp ⟨s, h⟩ ⟨repS cid .any s, upd (upd (repH cid .any h) id (.vec e sz ((vrowO ms row l).set i ((ownR ms (row x)).set off (.vec cid))))) cid (.vec e' ms'.length (vrowO ms' row' l'))⟩ := by
  refine imp_open (σ := ⟨s, h⟩) (p := .v i off) hne ?_
  have hg : getP (h id) (.v i off) = some (.own (.sl e' ms') (.slice (l'.map row'))) := by
    simp only [hh, getP, vrowO_get hx]
    exact ownR_get hm hd
  simp only [openSt, hg, openCh]
  simp only [hh, repC, repR_vrowO, setP, vrowO_get hx]
  rfl
/-- A slice goes back to its row. -/
theorem imp_closeV {id cid e sz i off e' n : Nat} {rowsB : List (List SV)} {x' : α} (hh : h id = .vec e sz ((vrowO ms row l).set i ((ownR ms (row x)).set off (.vec cid)))) (hx : l[i]? = some x) (hj : h cid = .vec e' n rowsB) (hr : rowsle rowsB (vrowO ms' row' l')) (hn : ms'.length = n) (hm : ms[off]? = some (.sl e' ms'))
    (hsz : ∀ a, (row' a).length = ms'.length) (hlt : off < (row x).length) (hy : row x' = (row x).set off (.slice (l'.map row'))) (hne : id ≠ cid) :
    Imp ⟨s, h⟩ ⟨repS cid .any s, upd (upd (repH cid .any h) id (.vec e sz (vrowO ms row (l.set i x')))) cid .dead⟩ := by
  subst hn
  have hil : i < l.length := (List.getElem?_eq_some_iff.1 hx).1
  have hlen : off < (ownR ms (row x)).length := by
    unfold ownR
    have := (List.getElem?_eq_some_iff.1 hm).1
    simp only [List.length_zipWith]; omega
  have h1 : Imp ⟨s, h⟩ ⟨s, upd h cid (.vec e' ms'.length (vrowO ms' row' l'))⟩ := imp_le (fun _ => .inl rfl) fun j => by
    by_cases hj' : j = cid
    · subst hj'; simp only [upd, if_true, hj]; exact chle_vec hr
    · simp only [upd, hj', if_false]; exact chle_rfl rfl
  have hget : ((vrowO ms row l).set i ((ownR ms (row x)).set off (.vec cid)))[i]? = some ((ownR ms (row x)).set off (.vec cid)) := List.getElem?_set_self (by rw [vrowO_length]; exact hil)
  have h2 := imp_close (σ := ⟨s, upd h cid (.vec e' ms'.length (vrowO ms' row' l'))⟩) (id := id) (id' := cid) (p := .v i off) (m := .sl e' ms') (d := .slice (l'.map row')) (ch := .vec e' ms'.length (vrowO ms' row' l')) (mk := .vec) hne
    (by simp only [openCh]; rfl) (by intro r hr; obtain ⟨a, _, rfl⟩ := List.mem_map.1 hr; exact hsz a) (by simp only [upd, hne, if_false, hh, getP, hget]; exact List.getElem?_set_self hlen) (by simp only [upd, if_true])
  have e0 : repR cid .any ((vrowO ms row l).set i ((ownR ms (row x)).set off (.vec cid))) = (vrowO ms row l).set i ((ownR ms (row x)).set off (.d .any)) := by
    rw [repR_set, repR_vrowO]
    congr 1
    have := repL_set cid .any (.vec cid) (ownR ms (row x)) off
    rw [← this, repL_ownR]
    simp only [repV, if_true]
  have e1 : closeSt ⟨s, upd h cid (.vec e' ms'.length (vrowO ms' row' l'))⟩ id (.v i off) cid (.sl e' ms') (.slice (l'.map row')) = ⟨repS cid .any s, upd (upd (repH cid .any h) id (.vec e sz (vrowO ms row (l.set i x')))) cid .dead⟩ := by
    simp only [closeSt, upd, hne, if_false, hh, repC, e0]
    congr 1
    have hg2 : ((vrowO ms row l).set i ((ownR ms (row x)).set off (.d .any)))[i]? = some ((ownR ms (row x)).set off (.d .any)) := List.getElem?_set_self (by rw [vrowO_length]; exact hil)
    have e3 : ((ownR ms (row x)).set off (.d .any)).set off (.own (.sl e' ms') (.slice (l'.map row'))) = ownR ms (row x') := by
      rw [List.set_set, hy]
      exact ownR_set hm
    funext j
    by_cases hj1 : j = cid
    · subst hj1; simp only [upd, if_true]
    · by_cases hj2 : j = id
      · subst hj2
        simp only [upd, hj1, if_false, if_true, setP, hg2, e3, List.set_set, vrowO_set]
      · simp only [upd, hj1, hj2, if_false, repH]
  rw [e1] at h2
  exact h1.trans h2
/-- An element of a slice whose rows own slices. -/
theorem O_idxVO {R : Type} {r : R} {sz e id : Nat} {n : Int} {y i : SX} {k : IntKind} {dst : Nat} {rows : List (List SV)} {kk : α → Option R} (hm : (getI l n).bind kk = some r) (hx : ev s y = .vec id) (hh : h id = .vec e sz rows) (hl : rows.length = l.length) (hi : ev s i = .d (.int k n))
    (hk : ∀ a, getI l n = some a → kk a = some r → AOps P K sos ⟨upd s dst (.vref id sz n.toNat 0), h⟩) : AOps P K (.r dst (.idx sz y i) :: sos) ⟨s, h⟩ := by
  cases he : getI l n with
  | none => rw [he] at hm; cases hm
  | some a =>
    rw [he] at hm
    have he' := he
    unfold getI at he'
    split at he'
    · rename_i h0
      obtain ⟨hlt, _⟩ := List.getElem?_eq_some_iff.1 he'
      refine O_r (p := 0 ≤ n ∧ n < rows.length ∧ sz = sz) (v := .vref id sz n.toNat 0) ?_ ⟨h0, by omega, rfl⟩ (hk a he hm)
      simp only [rd, hi, hx, hh]
    · cases he'
end
section
variable {P : Program} {x0 : SC} {Q : AX → St → Prop} {s : Nat → SV} {h : Nat → Ch} {K : St → Prop} {sos : List SO} {α β : Type} {row : α → List DV} {row' : β → List DV} {ms ms' : List Mask} {l : List α}
theorem splice_set1 {cs : List SV} {off : Nat} {v : SV} (ho : off < cs.length) : splice cs off [v] = cs.set off v := by
  unfold splice
  refine List.ext_getElem? fun j => ?_
  simp only [List.length_cons, List.length_nil, Nat.zero_add, List.append_assoc, List.getElem?_append, List.length_take, List.getElem?_drop, List.getElem?_take, List.getElem?_set]
  have h3 : min off cs.length = off := by omega
  by_cases h1 : j < off
  · have : ¬ off = j := by omega
    simp [this, h1]
    omega
  · by_cases h2 : off = j
    · subst h2
      simp [h3, ho]
    · have h4 : ¬ j - off < 1 := by omega
      simp only [h3, h1, if_false, h2, h4, List.length_singleton]
      have h5 : off + 1 + (j - off - 1) = j := by omega
      simp only [h5]
/-- One cell of the row that is open is written. -/
theorem stF_wr {d id e sz i off : Nat} {R : List (List SV)} {cells : List SV} {v0 : SV} {y v : SX} (hp : ev s y = .vref id sz i off) (hv : (ev s v).cells? = some [v0]) (hh : h id = .vec e sz (R.set i cells)) (hi : i < R.length) (ho : off < cells.length) :
    wr ⟨s, h⟩ d (.st 1 y v) = some (sz = sz ∧ [v0].length = 1 ∧ off + 1 ≤ cells.length, ⟨s, upd h id (.vec e sz (R.set i (cells.set off v0)))⟩) := by
  have hg : (R.set i cells)[i]? = some cells := List.getElem?_set_self hi
  simp only [wr, hp, hv, hh, hg, splice_set1 ho, List.set_set]
theorem O_stFw {id e sz i off : Nat} {R : List (List SV)} {cells : List SV} {v0 : SV} {y v : SX} (hp : ev s y = .vref id sz i off) (hv : (ev s v).cells? = some [v0]) (hh : h id = .vec e sz (R.set i cells)) (hi : i < R.length) (ho : off < cells.length)
    (hk : AOps P K sos ⟨s, upd h id (.vec e sz (R.set i (cells.set off v0)))⟩) : AOps P K (.w 0 (.st 1 y v) :: sos) ⟨s, h⟩ := O_w (stF_wr hp hv hh hi ho) ⟨rfl, rfl, by omega⟩ hk
theorem O_stFx {id e sz i off : Nat} {R : List (List SV)} {cells cells' : List SV} {v0 : SV} {y v : SX} {late : List (Nat × Nat × ROp)} (hp : ev s y = .vref id sz i off) (hv : (ev s v).cells? = some [v0]) (hh : h id = .vec e sz (R.set i cells)) (hi : i < R.length) (ho : off < cells.length) (hs : cells.set off v0 = cells')
    (hl : Rer ⟨s, upd h id (.vec e sz (R.set i cells'))⟩ late) (hk : AOps P K sos ⟨s, upd h id (.vec e sz (R.set i cells'))⟩) : AOps P K (.x 0 (.st 1 y v) late :: sos) ⟨s, h⟩ := by
  subst hs
  exact O_x (stF_wr hp hv hh hi ho) ⟨rfl, rfl, by omega⟩ hl hk
end
section
variable {P : Program} {s : Nat → SV} {h : Nat → Ch} {K : St → Prop} {sos : List SO} {α β : Type} {row : α → List DV} {ms : List Mask} {l l2 : List α} {x : α}
theorem getI_get {n : Int} (h : getI l n = some x) : l[n.toNat]? = some x := by
  unfold getI at h; split at h
  · exact h
  · cases h
theorem r_rflO : rowsle (vrowO ms row l) (vrowO ms row l) := rowsle.rfl
theorem r_shS {l : List (List UInt8)} : rowsle (vrow rowS l) (vrowO [.sh] rowS l) := rowsle.of_eq (vrowO_sh (row := rowS) (n := 1) (fun _ => rfl)).symm
theorem r_nilO : rowsle [] (vrowO ms row ([] : List α)) := rowsle.rfl
theorem r_appO {a b : List (List SV)} (h1 : rowsle a (vrowO ms row l)) (h2 : rowsle b (vrowO ms row l2)) : rowsle (a ++ b) (vrowO ms row (l ++ l2)) := by rw [vrowO_append]; exact h1.append h2
theorem r_oneO {r : List SV} (h1 : cellsle r (ownR ms (row x))) : rowsle [r] (vrowO ms row [x]) := .cons h1 .nil
/-- Rows are put behind. -/
theorem O_appVO {R : Type} {r : R} {kk : Option R} {rows2 : List (List SV)} {k dst e sz id : Nat} {y z : SX} (hm : thenO (lenO (l.length + k)) kk = some r) (hx : ev s y = .vec id) (hh : h id = .vec e sz (vrowO ms row l)) (hy : rowsY (ev s z) = some rows2) (hl : rows2.length = k) (hall : ∀ r ∈ rows2, r.length = sz)
    (hk : kk = some r → AOps P K sos ⟨upd (repS id .any s) dst (.vec id), upd (repH id .any h) id (.vec e sz (vrowO ms row l ++ repR id .any rows2))⟩) : AOps P K (.w dst (.app e sz y z) :: sos) ⟨s, h⟩ := by
  cases hlo : lenO (l.length + k) with
  | none => rw [hlo] at hm; cases hm
  | some u =>
    rw [hlo] at hm
    have hlen := lenO_some.1 hlo
    refine O_w (p := e = e ∧ sz = sz ∧ (∀ r ∈ rows2, r.length = sz) ∧ (vrowO ms row l).length + rows2.length ≤ 137438953472) ?_ ⟨rfl, rfl, hall, by rw [vrowO_length, hl]; exact hlen⟩ (hk hm)
    have e1 : repR id .any (vrowO ms row l ++ rows2) = vrowO ms row l ++ repR id .any rows2 := by rw [repR_append, repR_vrowO]
    simp only [wr, hx, hy, hh, growTo, St.swap, e1]
/-- A cell of the row that is open is read. -/
theorem O_ldF {id e sz i off dst : Nat} {R : List (List SV)} {cells : List SV} {c : SV} {y : SX} (hp : ev s y = .vref id sz i off) (hh : h id = .vec e sz (R.set i cells)) (hi : i < R.length) (hc : cells[off]? = some c) (hno : c.noOwn = true)
    (hk : AOps P K sos ⟨upd s dst c, h⟩) : AOps P K (.r dst (.ld1 y) :: sos) ⟨s, h⟩ := by
  have hg : (R.set i cells)[i]? = some cells := List.getElem?_set_self hi
  refine O_r (p := sz = sz) (v := c) ?_ rfl hk
  simp only [rd, hp, hh, hg, hc, hno, if_true]
theorem getI_lt {n : Int} (h : getI l n = some x) : n.toNat < l.length := (List.getElem?_eq_some_iff.1 (getI_get h)).1
theorem frzR_vrowO (hp : Mask.plains ms = true) (hl : ∀ x, (row x).length = ms.length) : SV.frzR (vrowO ms row l) = some (l.map row) := frzR_ownR hp (fun r hr => by obtain ⟨x, _, rfl⟩ := List.mem_map.1 hr; exact hl x)
end
theorem frzR_vrowOP {β : Type} {row : β → List DV} {e : Nat} {ms : List Mask} {l : List (List β)} (hp : Mask.plains ms = true) : SV.frzR (vrowO [.sl e ms] (rowL row) l) = some (l.map (rowL row)) := frzR_vrowO (by simp only [Mask.plains, Mask.plain, hp, Bool.and_self]) (fun _ => rfl)
/-- Rows that were put behind become rows of the plain values. -/
theorem W_normO {P : Program} {x0 : SC} {Q : AX → St → Prop} {s : Nat → SV} {h : Nat → Ch} {α : Type} {e sz : Nat} {rows ys : List (List SV)} (id : Nat) (ms : List Mask) (row : α → List DV) {l : List α} (hh : h id = .vec e sz (rows ++ ys)) (hr : rowsle (rows ++ ys) (vrowO ms row l))
    (hk : AW P x0 Q ⟨s, upd h id (.vec e sz (vrowO ms row l))⟩) : AW P x0 Q ⟨s, h⟩ := by
  have h1 : Imp ⟨s, h⟩ ⟨s, upd h id (.vec e sz (vrowO ms row l))⟩ := imp_le (fun _ => .inl rfl) fun j => by
    by_cases hj : j = id
    · subst hj; simp only [upd, if_true, hh]; exact chle_vec hr
    · simp only [upd, hj, if_false]; exact chle_rfl rfl
  exact W_imp h1 hk
theorem imp_normO {s : Nat → SV} {h : Nat → Ch} {α : Type} {e sz : Nat} {rows ys : List (List SV)} (id : Nat) (ms : List Mask) (row : α → List DV) {l : List α} (hh : h id = .vec e sz (rows ++ ys)) (hr : rowsle (rows ++ ys) (vrowO ms row l)) : Imp ⟨s, h⟩ ⟨s, upd h id (.vec e sz (vrowO ms row l))⟩ := imp_le (fun _ => .inl rfl) fun j => by
    by_cases hj : j = id
    · subst hj; simp only [upd, if_true, hh]; exact chle_vec hr
    · simp only [upd, hj, if_false]; exact chle_rfl rfl
/-! ### Functions whose parameters are data and whose result owns -/
def iniD (N : Nat) (as : List DV) : Nat → SV := fun j => if j < N then (match as[j]? with | some d => .d d | none => .d .any) else match as[j - N]? with | some d => .d d | none => .d .any
theorem rok_all {h : Nat → Ch} {ys rs : List SV} {ids : List Nat} (hr : ROkL h ys rs ids) : ∀ {gs : List SV} {as : List DV}, SV.toDVs gs = some as → ROkL h (gs ++ ys) (as.map .d ++ rs) ids
  | [], as, hd => by simp only [SV.toDVs, Option.some.injEq] at hd; subst hd; exact hr
  | g :: gs, as, hd => by
    unfold SV.toDVs at hd
    split at hd
    · rename_i d ds' h1 h2
      simp only [Option.some.injEq] at hd; subst hd
      exact .data h1 (rok_all hr h2)
    · cases hd
/-- The end: the result's cells, of which some are chunks that are handed over. -/
theorem K_endO {R : Type} {r r0 : R} {σ : St} {N n : Nat} {q : RV} {ms : List Mask} {row : R → List DV} {as : List DV} {gs cs cs' : List SV} {ids : List Nat} {s1 : Nat → SV} {h1 : Nat → Ch} (hm : some r0 = some r) (hcl : Imp σ ⟨s1, h1⟩) (hq : svL ⟨s1, h1⟩ [q] = some [.agg cs]) (hg : ghosts N ⟨s1, h1⟩ n = gs) (hgs : SV.toDVs gs = some as)
    (hr : ROkL h1 cs cs' ids) (hG : cs' = ownR ms (row r0)) : endF N n [q] (.agg (ownR ms (row r))) (as.map .d) .ret σ := by
  cases hm
  subst hG
  refine ⟨⟨s1, h1⟩, hcl, [.agg cs], [.agg (ownR ms (row r))], ids, hq, rfl, rfl, ?_⟩
  rw [hg]
  refine rok_all ?_ hgs
  have := ROkL.agg (h := h1) hr (fun i _ => List.not_mem_nil) ROkL.nil
  simpa using this
theorem ROk_vec {α : Type} {row : α → List DV} {ms : List Mask} {h : Nat → Ch} {id e n : Nat} {l : List α} {xs rs : List SV} {ids : List Nat} (hh : h id = .vec e n (vrowO ms row l)) (hn : ms.length = n) (hsz : ∀ a, (row a).length = ms.length) (hi : id ∉ ids) (hl : ROkL h xs rs ids) : ROkL h (.vec id :: xs) (.own (.sl e ms) (.slice (l.map row)) :: rs) (id :: ids) := by
  subst hn
  exact .own (ch := .vec e ms.length (vrowO ms row l)) (mk := .vec) rfl (by intro r hr; obtain ⟨a, _, rfl⟩ := List.mem_map.1 hr; exact hsz a) hh hi hl
/-- The contract of a function whose parameters are data; its result may own. -/
theorem fspec_walkD {P : Program} {f N k : Nat} {fn : Func} {x : SC} {qs : List RV} {as : List DV} {res : SV} {outs : List SV} (hf : P.funcs[f]? = some fn) (hfit : fits P f fn x qs k = true) (hN : fn.ntmps = N) (hk : as.length = k) (hol : outs.length = k)
    (h : AW P x (endF N k qs res outs) ⟨iniD N as, fun _ => .dead⟩) : FSpec P f (as.map .d) res outs := by
  subst hN hk
  have hlen : (as.map SV.d).length = as.length := by simp
  refine fspec_walk (x := x) (qs := qs) hf (by rw [hlen]; exact hfit) ?_ (by rw [hlen]; exact hol) ?_
  · rw [List.all_eq_true]
    intro y hy
    obtain ⟨d, _, rfl⟩ := List.mem_map.1 hy
    rfl
  · rw [hlen]
    have e1 : iniS fn.ntmps (as.map .d) = iniD fn.ntmps as := by
      funext j
      unfold iniS iniD
      by_cases hlt : j < fn.ntmps
      · simp only [hlt, if_true, List.getElem?_map]
        cases as[j]? <;> simp [iniV]
      · simp only [hlt, if_false, List.getElem?_map]
        cases as[j - fn.ntmps]? <;> simp [iniV]
    have e2 : iniH (as.map .d) = fun _ => .dead := by
      funext j
      unfold iniH
      simp only [List.getElem?_map]
      cases as[j]? <;> simp [iniC]
    rw [e1, e2]; exact h
/-! ### Boxes whose cell is a slice of rows that own: closed and opened -/
section
variable {P : Program} {Q : AX → St → Prop} {x0 : SC} {s : Nat → SV} {h : Nat → Ch} {α : Type} {row : α → List DV}
theorem imp_openBO {id cid off n e : Nat} {cs cs' : List SV} {ms : List Mask} {l : List α} (hh : h id = .box cs) (hc : cs[off]? = some (.own (.sl e ms) (.slice (l.map row)))) (hne : id ≠ cid) (hn : ms.length = n) (hset : (repL cid .any cs).set off (.vec cid) = cs') :
    Imp ⟨s, h⟩ ⟨repS cid .any s, upd (upd (repH cid .any h) id (.box cs')) cid (.vec e n (vrowO ms row l))⟩ := by
  subst hn hset
  refine imp_open (σ := ⟨s, h⟩) (p := .b off) hne ?_
  have hg : getP (h id) (.b off) = some (.own (.sl e ms) (.slice (l.map row))) := by simp only [hh, getP, hc]
  simp only [openSt, hg, openCh]
  simp only [hh, repC, setP]
  rfl
theorem imp_closeBO {id cid off n e : Nat} {cs cs' : List SV} {ms : List Mask} {rows : List (List SV)} {l : List α} (hh : h id = .box cs) (hc : cs[off]? = some (.vec cid)) (hne : id ≠ cid) (hj : h cid = .vec e n rows) (hr : rowsle rows (vrowO ms row l)) (hn : ms.length = n) (hsz : ∀ a, (row a).length = ms.length) (hset : (repL cid .any cs).set off (.own (.sl e ms) (.slice (l.map row))) = cs') :
    Imp ⟨s, h⟩ ⟨repS cid .any s, upd (upd (repH cid .any h) id (.box cs')) cid .dead⟩ := by
  subst hset hn
  have h1 : Imp ⟨s, h⟩ ⟨s, upd h cid (.vec e ms.length (vrowO ms row l))⟩ := imp_le (fun _ => .inl rfl) fun i => by
    by_cases hi : i = cid
    · subst hi; simp only [upd, if_true, hj]; exact chle_vec hr
    · simp only [upd, hi, if_false]; exact chle_rfl rfl
  have h2 := imp_close (σ := ⟨s, upd h cid (.vec e ms.length (vrowO ms row l))⟩) (id := id) (id' := cid) (p := .b off) (m := .sl e ms) (d := .slice (l.map row)) (ch := .vec e ms.length (vrowO ms row l)) (mk := .vec) hne
    rfl (by intro r hr; obtain ⟨a, _, rfl⟩ := List.mem_map.1 hr; exact hsz a) (by simp only [upd, hne, if_false, hh, getP, hc]) (by simp only [upd, if_true])
  have e1 : closeSt ⟨s, upd h cid (.vec e ms.length (vrowO ms row l))⟩ id (.b off) cid (.sl e ms) (.slice (l.map row)) = ⟨repS cid .any s, upd (upd (repH cid .any h) id (.box ((repL cid .any cs).set off (.own (.sl e ms) (.slice (l.map row)))))) cid .dead⟩ := by
    simp only [closeSt, upd, hne, if_false, hh, repC, setP]
    congr 1
    funext i
    by_cases hi : i = cid
    · subst hi; simp only [upd, if_true]
    · by_cases hi2 : i = id
      · subst hi2; simp only [upd, hi, if_false, if_true]
      · simp only [upd, hi, hi2, if_false, repH]
  rw [e1] at h2
  exact h1.trans h2
theorem W_openBO {id cid off n e : Nat} {cs cs' : List SV} {ms : List Mask} {l : List α} (hh : h id = .box cs) (hc : cs[off]? = some (.own (.sl e ms) (.slice (l.map row)))) (hne : id ≠ cid) (hn : ms.length = n) (hset : (repL cid .any cs).set off (.vec cid) = cs')
    (hk : AW P x0 Q ⟨repS cid .any s, upd (upd (repH cid .any h) id (.box cs')) cid (.vec e n (vrowO ms row l))⟩) : AW P x0 Q ⟨s, h⟩ := W_imp (imp_openBO hh hc hne hn hset) hk
theorem W_closeBO {id cid off n e : Nat} {cs cs' : List SV} {ms : List Mask} {rows : List (List SV)} {l : List α} (hh : h id = .box cs) (hc : cs[off]? = some (.vec cid)) (hne : id ≠ cid) (hj : h cid = .vec e n rows) (hr : rowsle rows (vrowO ms row l)) (hn : ms.length = n) (hsz : ∀ a, (row a).length = ms.length) (hset : (repL cid .any cs).set off (.own (.sl e ms) (.slice (l.map row))) = cs')
    (hk : AW P x0 Q ⟨repS cid .any s, upd (upd (repH cid .any h) id (.box cs')) cid .dead⟩) : AW P x0 Q ⟨s, h⟩ := W_imp (imp_closeBO hh hc hne hj hr hn hsz hset) hk
/-- A chunk that lies in a box under another name (the slot of the call that gave it) takes the box's name. -/
theorem W_moveBO {id c cid off n e : Nat} {cs cs1 cs' : List SV} {ms : List Mask} {rows : List (List SV)} {l : List α} (hh : h id = .box cs) (hc : cs[off]? = some (.vec c)) (hne : id ≠ c) (hne' : id ≠ cid) (hj : h c = .vec e n rows) (hr : rowsle rows (vrowO ms row l)) (hn : ms.length = n) (hsz : ∀ a, (row a).length = ms.length)
    (hset : (repL c .any cs).set off (.own (.sl e ms) (.slice (l.map row))) = cs1) (ho : off < cs.length) (hset' : (repL cid .any cs1).set off (.vec cid) = cs')
    (hk : AW P x0 Q ⟨repS cid .any (repS c .any s), upd (upd (repH cid .any (upd (upd (repH c .any h) id (.box cs1)) c .dead)) id (.box cs')) cid (.vec e n (vrowO ms row l))⟩) : AW P x0 Q ⟨s, h⟩ := by
  refine W_closeBO hh hc hne hj hr hn hsz hset ?_
  refine W_openBO (ms := ms) (l := l) (row := row) (by simp only [upd, hne, if_false, if_true]) ?_ hne' hn hset' hk
  rw [← hset, List.getElem?_set_self (by rw [repL_length]; exact ho)]
end
attribute [push_cast] SV.plug SV.plugs iniD Mask.plains Mask.plain frzR_vrowOP repR_set repR_vrowO vrowO_length List.length_set List.set_set
/-- Ahead of a statement: a slice that grew becomes data. -/
theorem W_frz {P : Program} {x : SC} {Q : AX → St → Prop} {s : Nat → SV} {h : Nat → Ch} {id e sz : Nat} {rows : List (List SV)} {ds : List (List DV)} (hv : h id = .vec e sz rows) (hf : SV.frzR rows = some ds) (hw : AW P x Q ⟨repS id (.slice ds) s, upd (repH id (.slice ds) h) id .dead⟩) : AW P x Q ⟨s, h⟩ := W_imp (imp_freeze hv hf) hw
theorem ROk_vecS {α : Type} {row : α → List DV} {h : Nat → Ch} {id e n : Nat} {l : List α} {xs rs : List SV} {ids : List Nat} (hh : h id = .vec e n (vrow row l)) (hsz : ∀ a, (row a).length = n) (hi : id ∉ ids) (hl : ROkL h xs rs ids) : ROkL h (.vec id :: xs) (.own (.sl e (List.replicate n .sh)) (.slice (l.map row)) :: rs) (id :: ids) :=
  ROk_vec (ms := List.replicate n .sh) (by rw [vrowO_sh hsz]; exact hh) (by simp) (by simpa using hsz) hi hl
/-- A slice that came with a call's result goes into a box's field. -/
theorem W_moveBV {P : Program} {Q : AX → St → Prop} {x0 : SC} {s : Nat → SV} {h : Nat → Ch} {α : Type} {row : α → List DV} {id c cid off n e : Nat} {cs cs1 cs' : List SV} {rows : List (List SV)} {l : List α} (hh : h id = .box cs) (hc : cs[off]? = some (.vec c)) (hne : id ≠ c) (hne' : id ≠ cid) (hj : h c = .vec e n rows) (hr : rowsle rows (vrow row l)) (hsz : ∀ a, (row a).length = n)
    (hset : (repL c .any cs).set off (.own (.sl e (List.replicate n .sh)) (.slice (l.map row))) = cs1) (ho : off < cs.length) (hset' : (repL cid .any cs1).set off (.vec cid) = cs')
    (hk : AW P x0 Q ⟨repS cid .any (repS c .any s), upd (upd (repH cid .any (upd (upd (repH c .any h) id (.box cs1)) c .dead)) id (.box cs')) cid (.vec e n (vrow row l))⟩) : AW P x0 Q ⟨s, h⟩ :=
  W_moveBO (ms := List.replicate n .sh) (l := l) (row := row) hh hc hne hne' hj (by rw [vrowO_sh hsz]; exact hr) (by simp) (by simpa using hsz) hset ho hset' (by rw [vrowO_sh hsz]; exact hk)
theorem takes_ownA {α : Type} {row : α → List DV} {s : Nat → SV} {h : Nat → Ch} {dst e n : Nat} {l : List α} {res : SV} (hn : res.nOwn = 1) (ho : res.own1 = some (.sl e (List.replicate n .sh), .slice (l.map row))) (hsz : ∀ a, (row a).length = n) :
    takes ⟨s, h⟩ [] (some dst) res = some ⟨upd (repS dst .any s) dst (SV.plug (.vec dst) res), upd (repH dst .any h) dst (.vec e n (vrow row l))⟩ := by
  have h0 : ¬ res.nOwn = 0 := by rw [hn]; decide
  simp only [takes, if_neg h0, if_pos hn, ho, openCh, updL, List.length_replicate]
  rw [← vrowO_sh hsz]; rfl
/-- A call whose result owns a slice, and a box, in either order. -/
theorem K_pairA {P : Program} {K : St → Prop} {Y R α : Type} {row : α → List DV} {r : R} {a : Option Y} {k : Y → Option R} {d1 d2 f e n : Nat} {args : List SX} {as0 as : List DV} {res : Y → SV} {l : Y → List α} {v2 : SV} {k2 : List SV} {l1 l2 : List (Nat × Nat × ROp)} {post : List SO} {s : Nat → SV} {h : Nat → Ch}
    (hm : a.bind k = some r) (hx : SV.toDVs (args.map (ev s)) = some as0) (hs : ∀ y, a = some y → FSpec P f (as.map .d) (res y) (as.map .d)) (he : as0 = as) (hn : ∀ y, (res y).nOwn = 1) (ho : ∀ y, (res y).own1 = some (.sl e (List.replicate n .sh), .slice ((l y).map row))) (hsz : ∀ a, (row a).length = n) (hcl : ∀ y, (res y).closed = true)
    (hc2 : v2.cells? = some k2) (hne : d1 ≠ d2) (h21 : repL d1 .any k2 = k2) (h22 : repL d2 .any k2 = k2) (hx' : SV.toDVs (args.map (ev (upd (repS d2 .any s) d2 (.ref d2 0)))) = some as0) (hv : ∀ y, repV d2 .any (SV.plug (.vec d1) (res y)) = SV.plug (.vec d1) (res y))
    (r1 : ∀ y, Rer ⟨upd (repS d1 .any s) d1 (SV.plug (.vec d1) (res y)), upd (repH d1 .any h) d1 (.vec e n (vrow row (l y)))⟩ l1) (r2 : Rer ⟨upd (repS d2 .any s) d2 (.ref d2 0), upd (repH d2 .any h) d2 (.box k2)⟩ l2)
    (r3 : ∀ y, Rer ⟨upd (repS d2 .any (upd (repS d1 .any s) d1 (SV.plug (.vec d1) (res y)))) d2 (.ref d2 0), upd (repH d2 .any (upd (repH d1 .any h) d1 (.vec e n (vrow row (l y))))) d2 (.box k2)⟩ l1)
    (r4 : ∀ y, Rer ⟨upd (repS d2 .any (upd (repS d1 .any s) d1 (SV.plug (.vec d1) (res y)))) d2 (.ref d2 0), upd (repH d2 .any (upd (repH d1 .any h) d1 (.vec e n (vrow row (l y))))) d2 (.box k2)⟩ l2)
    (hk : ∀ y, k y = some r → AOps P K post ⟨upd (repS d2 .any (upd (repS d1 .any s) d1 (SV.plug (.vec d1) (res y)))) d2 (.ref d2 0), upd (repH d2 .any (upd (repH d1 .any h) d1 (.vec e n (vrow row (l y))))) d2 (.box k2)⟩) :
    pairK P K (.q d1 (.f f) args l1) (.x d2 (.boxM (.c v2)) l2) post ⟨s, h⟩ := by
  subst he
  cases hy : a with
  | none => rw [hy] at hm; cases hm
  | some y =>
    rw [hy] at hm
    constructor
    · refine ⟨f, as0, _, _, rfl, hx, hs y hy, hcl y, takes_ownA (hn y) (ho y) hsz, r1 y, ?_⟩
      simp only [AOps, AO, wr, ev, hc2, h22, St.swap]
      exact ⟨trivial, r4 y, hk y hm⟩
    · simp only [AOps, AO, wr, ev, hc2, h22, St.swap]
      refine ⟨trivial, r2, f, as0, _, _, rfl, hx', hs y hy, hcl y, takes_ownA (hn y) (ho y) hsz, ?_, ?_⟩
      · rw [pair_s hne (rep_refne hne) (hv y), pair_h hne (by simp only [repC, h21]) (by simp only [repC, repR_vrow])]; exact r3 y
      · rw [pair_s hne (rep_refne hne) (hv y), pair_h hne (by simp only [repC, h21]) (by simp only [repC, repR_vrow])]; exact hk y hm
end Go.Proofs.YtcbdpjgejbcpgaaGreatDoor

/-
  The engine, part Z: calls whose result is an owned slice.
-/
import Derived.Test.YtcnohbiegjahkaaGreatDoorSXEngY
namespace Go.Proofs.YtcnohbiegjahkaaGreatDoor
set_option linter.unusedSimpArgs false
set_option linter.unusedVariables false
open Go.RowKit

section
variable {P : Program} {s : Nat → SV} {h : Nat → Ch} {K : St → Prop} {sos : List SO} {α : Type} {row : α → List DV}
end
/-! ### Slices whose rows own slices -/
def vrowO {α : Type} (ms : List Mask) (row : α → List DV) (l : List α) : List (List SV) := (l.map row).map (ownR ms)
section
variable {α : Type} {ms : List Mask} {row : α → List DV} {l : List α}
theorem vrowO_length : (vrowO ms row l).length = l.length := by simp [vrowO]
theorem vrowO_append {l2 : List α} : vrowO ms row (l ++ l2) = vrowO ms row l ++ vrowO ms row l2 := by simp [vrowO]
theorem vrowO_get {i : Nat} {x : α} (h : l[i]? = some x) : (vrowO ms row l)[i]? = some (ownR ms (row x)) := by simp [vrowO, List.getElem?_map, h]
theorem vrowO_set {i : Nat} {x : α} : vrowO ms row (l.set i x) = (vrowO ms row l).set i (ownR ms (row x)) := by simp [vrowO, List.map_set]
theorem vrowO_sh {n : Nat} (hsz : ∀ a, (row a).length = n) : vrowO (List.replicate n .sh) row l = vrow row l := ownR_sh hsz l
theorem repR_vrowO (id : Nat) (dv : DV) : ∀ (l : List α), repR id dv (vrowO ms row l) = vrowO ms row l
  | [] => rfl
  | x :: l => by
    have ih := repR_vrowO id dv l
    unfold vrowO at ih ⊢
    simp only [List.map_cons, repR, repL_ownR, ih]
theorem ownR_set : ∀ {ms : List Mask} {ds : List DV} {off : Nat} {m : Mask} {d : DV}, ms[off]? = some m → (ownR ms ds).set off (ownC m d) = ownR ms (ds.set off d)
  | [], ds, off, m, d, h => by simp at h
  | m' :: ms, [], off, m, d, h => by simp [ownR]
  | m' :: ms, c :: ds, 0, m, d, h => by simp at h; subst h; simp [ownR]
  | m' :: ms, c :: ds, off + 1, m, d, h => by
    have := ownR_set (ms := ms) (ds := ds) (off := off) (m := m) (d := d) (by simpa using h)
    simp only [ownR_cons, List.set_cons_succ, this]
theorem ownR_get : ∀ {ms : List Mask} {ds : List DV} {off : Nat} {m : Mask} {d : DV}, ms[off]? = some m → ds[off]? = some d → (ownR ms ds)[off]? = some (ownC m d)
  | [], ds, off, m, d, h, _ => by simp at h
  | m' :: ms, [], off, m, d, _, h => by simp at h
  | m' :: ms, c :: ds, 0, m, d, h, h2 => by simp at h h2; subst h h2; rfl
  | m' :: ms, c :: ds, off + 1, m, d, h, h2 => by
    rw [ownR_cons, List.getElem?_cons_succ]
    exact ownR_get (by simpa using h) (by simpa using h2)
end
section
variable {P : Program} {s : Nat → SV} {h : Nat → Ch} {K : St → Prop} {sos : List SO} {α β : Type} {row : α → List DV} {row' : β → List DV} {ms ms' : List Mask} {l : List α} {l' : List β} {x : α}
/-- A slice within a row becomes a chunk of its own. -/
theorem imp_openV {id cid e sz i off e' : Nat} (hh : h id = .vec e sz (vrowO ms row l)) (hx : l[i]? = some x) (hm : ms[off]? = some (.sl e' ms')) (hd : (row x)[off]? = some (.slice (l'.map row'))) (hne : id ≠ cid) :
    Imp ⟨s, h⟩ ⟨repS cid .any s, upd (upd (repH cid .any h) id (.vec e sz ((vrowO ms row l).set i ((ownR ms (row x)).set off (.vec cid))))) cid (.vec e' ms'.length (vrowO ms' row' l'))⟩ := by
  refine imp_open (σ := ⟨s, h⟩) (p := .v i off) hne ?_
  have hg : getP (h id) (.v i off) = some (.own (.sl e' ms') (.slice (l'.map row'))) := by
    simp only [hh, getP, vrowO_get hx]
    exact ownR_get hm hd
  simp only [openSt, hg, openCh]
  simp only [hh, repC, repR_vrowO, setP, vrowO_get hx]
  rfl
/-- An element of a slice whose rows own slices. -/
theorem O_idxVO {R : Type} {r : R} {sz e id : Nat} {n : Int} {y i : SX} {k : IntKind} {dst : Nat} {rows : List (List SV)} {kk : α → Option R} (hm : (getI l n).bind kk = some r) (hx : ev s y = .vec id) (hh : h id = .vec e sz rows) (hl : rows.length = l.length) (hi : ev s i = .d (.int k n))
    (hk : ∀ a, getI l n = some a → kk a = some r → AOps P K sos ⟨upd s dst (.vref id sz n.toNat 0), h⟩) : AOps P K (.r dst (.idx sz y i) :: sos) ⟨s, h⟩ := by
  cases he : getI l n with
  | none => rw [he] at hm; cases hm
  | some a =>
    rw [he] at hm
    have he' := he
    unfold getI at he'
    split at he'
    · rename_i h0
      obtain ⟨hlt, _⟩ := List.getElem?_eq_some_iff.1 he'
      refine O_r (p := 0 ≤ n ∧ n < rows.length ∧ sz = sz) (v := .vref id sz n.toNat 0) ?_ ⟨h0, by omega, rfl⟩ (hk a he hm)
      simp only [rd, hi, hx, hh]
    · cases he'
end
section
variable {P : Program} {x0 : SC} {Q : AX → St → Prop} {s : Nat → SV} {h : Nat → Ch} {K : St → Prop} {sos : List SO} {α β : Type} {row : α → List DV} {row' : β → List DV} {ms ms' : List Mask} {l : List α}
theorem splice_set1 {cs : List SV} {off : Nat} {v : SV} (ho : off < cs.length) : splice cs off [v] = cs.set off v := by
  unfold splice
  refine List.ext_getElem? fun j => ?_
  simp only [List.length_cons, List.length_nil, Nat.zero_add, List.append_assoc, List.getElem?_append, List.length_take, List.getElem?_drop, List.getElem?_take, List.getElem?_set]
  have h3 : min off cs.length = off := by omega
  by_cases h1 : j < off
  · have : ¬ off = j := by omega
    simp [this, h1]
    omega
  · by_cases h2 : off = j
    · subst h2
      simp [h3, ho]
    · have h4 : ¬ j - off < 1 := by omega
      simp only [h3, h1, if_false, h2, h4, List.length_singleton]
      have h5 : off + 1 + (j - off - 1) = j := by omega
      simp only [h5]
end
section
variable {P : Program} {s : Nat → SV} {h : Nat → Ch} {K : St → Prop} {sos : List SO} {α β : Type} {row : α → List DV} {ms : List Mask} {l l2 : List α} {x : α}
theorem getI_get {n : Int} (h : getI l n = some x) : l[n.toNat]? = some x := by
  unfold getI at h; split at h
  · exact h
  · cases h
theorem r_rflO : rowsle (vrowO ms row l) (vrowO ms row l) := rowsle.rfl
theorem r_shS {l : List (List UInt8)} : rowsle (vrow rowS l) (vrowO [.sh] rowS l) := rowsle.of_eq (vrowO_sh (row := rowS) (n := 1) (fun _ => rfl)).symm
theorem r_nilO : rowsle [] (vrowO ms row ([] : List α)) := rowsle.rfl
theorem r_appO {a b : List (List SV)} (h1 : rowsle a (vrowO ms row l)) (h2 : rowsle b (vrowO ms row l2)) : rowsle (a ++ b) (vrowO ms row (l ++ l2)) := by rw [vrowO_append]; exact h1.append h2
theorem r_oneO {r : List SV} (h1 : cellsle r (ownR ms (row x))) : rowsle [r] (vrowO ms row [x]) := .cons h1 .nil
/-- Rows are put behind. -/
theorem O_appVO {R : Type} {r : R} {kk : Option R} {rows2 : List (List SV)} {k dst e sz id : Nat} {y z : SX} (hm : thenO (lenO (l.length + k)) kk = some r) (hx : ev s y = .vec id) (hh : h id = .vec e sz (vrowO ms row l)) (hy : rowsY (ev s z) = some rows2) (hl : rows2.length = k) (hall : ∀ r ∈ rows2, r.length = sz)
    (hk : kk = some r → AOps P K sos ⟨upd (repS id .any s) dst (.vec id), upd (repH id .any h) id (.vec e sz (vrowO ms row l ++ repR id .any rows2))⟩) : AOps P K (.w dst (.app e sz y z) :: sos) ⟨s, h⟩ := by
  cases hlo : lenO (l.length + k) with
  | none => rw [hlo] at hm; cases hm
  | some u =>
    rw [hlo] at hm
    have hlen := lenO_some.1 hlo
    refine O_w (p := e = e ∧ sz = sz ∧ (∀ r ∈ rows2, r.length = sz) ∧ (vrowO ms row l).length + rows2.length ≤ 137438953472) ?_ ⟨rfl, rfl, hall, by rw [vrowO_length, hl]; exact hlen⟩ (hk hm)
    have e1 : repR id .any (vrowO ms row l ++ rows2) = vrowO ms row l ++ repR id .any rows2 := by rw [repR_append, repR_vrowO]
    simp only [wr, hx, hy, hh, growTo, St.swap, e1]
/-- A cell of the row that is open is read. -/
theorem O_ldF {id e sz i off dst : Nat} {R : List (List SV)} {cells : List SV} {c : SV} {y : SX} (hp : ev s y = .vref id sz i off) (hh : h id = .vec e sz (R.set i cells)) (hi : i < R.length) (hc : cells[off]? = some c) (hno : c.noOwn = true)
    (hk : AOps P K sos ⟨upd s dst c, h⟩) : AOps P K (.r dst (.ld1 y) :: sos) ⟨s, h⟩ := by
  have hg : (R.set i cells)[i]? = some cells := List.getElem?_set_self hi
  refine O_r (p := sz = sz) (v := c) ?_ rfl hk
  simp only [rd, hp, hh, hg, hc, hno, if_true]
theorem getI_lt {n : Int} (h : getI l n = some x) : n.toNat < l.length := (List.getElem?_eq_some_iff.1 (getI_get h)).1
theorem frzR_vrowO (hp : Mask.plains ms = true) (hl : ∀ x, (row x).length = ms.length) : SV.frzR (vrowO ms row l) = some (l.map row) := frzR_ownR hp (fun r hr => by obtain ⟨x, _, rfl⟩ := List.mem_map.1 hr; exact hl x)
end
theorem O_appVOx {P : Program} {K : St → Prop} {sos : List SO} {s : Nat → SV} {h : Nat → Ch} {α : Type} {row : α → List DV} {ms : List Mask} {l : List α} {R : Type} {r : R} {kk : Option R} {rows2 : List (List SV)} {k dst e sz id : Nat} {y z : SX} {late : List (Nat × Nat × ROp)} (hm : thenO (lenO (l.length + k)) kk = some r) (hx : ev s y = .vec id) (hh : h id = .vec e sz (vrowO ms row l)) (hy : rowsY (ev s z) = some rows2) (hl : rows2.length = k) (hall : ∀ r ∈ rows2, r.length = sz)
    (hla : Rer ⟨upd (repS id .any s) dst (.vec id), upd (repH id .any h) id (.vec e sz (vrowO ms row l ++ repR id .any rows2))⟩ late) (hk : kk = some r → AOps P K sos ⟨upd (repS id .any s) dst (.vec id), upd (repH id .any h) id (.vec e sz (vrowO ms row l ++ repR id .any rows2))⟩) : AOps P K (.x dst (.app e sz y z) late :: sos) ⟨s, h⟩ := by
  cases hlo : lenO (l.length + k) with
  | none => rw [hlo] at hm; cases hm
  | some u =>
    rw [hlo] at hm
    have hlen := lenO_some.1 hlo
    refine O_x (p := e = e ∧ sz = sz ∧ (∀ r ∈ rows2, r.length = sz) ∧ (vrowO ms row l).length + rows2.length ≤ 137438953472) ?_ ⟨rfl, rfl, hall, by rw [vrowO_length, hl]; exact hlen⟩ hla (hk hm)
    have e1 : repR id .any (vrowO ms row l ++ rows2) = vrowO ms row l ++ repR id .any rows2 := by rw [repR_append, repR_vrowO]
    simp only [wr, hx, hy, hh, growTo, St.swap, e1]
theorem frzR_vrowOP {β : Type} {row : β → List DV} {e : Nat} {ms : List Mask} {l : List (List β)} (hp : Mask.plains ms = true) : SV.frzR (vrowO [.sl e ms] (rowL row) l) = some (l.map (rowL row)) := frzR_vrowO (by simp only [Mask.plains, Mask.plain, hp, Bool.and_self]) (fun _ => rfl)
theorem imp_normO {s : Nat → SV} {h : Nat → Ch} {α : Type} {e sz : Nat} {rows ys : List (List SV)} (id : Nat) (ms : List Mask) (row : α → List DV) {l : List α} (hh : h id = .vec e sz (rows ++ ys)) (hr : rowsle (rows ++ ys) (vrowO ms row l)) : Imp ⟨s, h⟩ ⟨s, upd h id (.vec e sz (vrowO ms row l))⟩ := imp_le (fun _ => .inl rfl) fun j => by
    by_cases hj : j = id
    · subst hj; simp only [upd, if_true, hh]; exact chle_vec hr
    · simp only [upd, hj, if_false]; exact chle_rfl rfl
/-! ### Functions whose parameters are data and whose result owns -/
def iniD (N : Nat) (as : List DV) : Nat → SV := fun j => if j < N then (match as[j]? with | some d => .d d | none => .d .any) else match as[j - N]? with | some d => .d d | none => .d .any
theorem rok_all {h : Nat → Ch} {ys rs : List SV} {ids : List Nat} (hr : ROkL h ys rs ids) : ∀ {gs : List SV} {as : List DV}, SV.toDVs gs = some as → ROkL h (gs ++ ys) (as.map .d ++ rs) ids
  | [], as, hd => by simp only [SV.toDVs, Option.some.injEq] at hd; subst hd; exact hr
  | g :: gs, as, hd => by
    unfold SV.toDVs at hd
    split at hd
    · rename_i d ds' h1 h2
      simp only [Option.some.injEq] at hd; subst hd
      exact .data h1 (rok_all hr h2)
    · cases hd
/-! ### Boxes whose cell is a slice of rows that own: closed and opened -/
section
variable {P : Program} {Q : AX → St → Prop} {x0 : SC} {s : Nat → SV} {h : Nat → Ch} {α : Type} {row : α → List DV}
theorem imp_openBO {id cid off n e : Nat} {cs cs' : List SV} {ms : List Mask} {l : List α} (hh : h id = .box cs) (hc : cs[off]? = some (.own (.sl e ms) (.slice (l.map row)))) (hne : id ≠ cid) (hn : ms.length = n) (hset : (repL cid .any cs).set off (.vec cid) = cs') :
    Imp ⟨s, h⟩ ⟨repS cid .any s, upd (upd (repH cid .any h) id (.box cs')) cid (.vec e n (vrowO ms row l))⟩ := by
  subst hn hset
  refine imp_open (σ := ⟨s, h⟩) (p := .b off) hne ?_
  have hg : getP (h id) (.b off) = some (.own (.sl e ms) (.slice (l.map row))) := by simp only [hh, getP, hc]
  simp only [openSt, hg, openCh]
  simp only [hh, repC, setP]
  rfl
theorem imp_closeBO {id cid off n e : Nat} {cs cs' : List SV} {ms : List Mask} {rows : List (List SV)} {l : List α} (hh : h id = .box cs) (hc : cs[off]? = some (.vec cid)) (hne : id ≠ cid) (hj : h cid = .vec e n rows) (hr : rowsle rows (vrowO ms row l)) (hn : ms.length = n) (hsz : ∀ a, (row a).length = ms.length) (hset : (repL cid .any cs).set off (.own (.sl e ms) (.slice (l.map row))) = cs') :
    Imp ⟨s, h⟩ ⟨repS cid .any s, upd (upd (repH cid .any h) id (.box cs')) cid .dead⟩ := by
  subst hset hn
  have h1 : Imp ⟨s, h⟩ ⟨s, upd h cid (.vec e ms.length (vrowO ms row l))⟩ := imp_le (fun _ => .inl rfl) fun i => by
    by_cases hi : i = cid
    · subst hi; simp only [upd, if_true, hj]; exact chle_vec hr
    · simp only [upd, hi, if_false]; exact chle_rfl rfl
  have h2 := imp_close (σ := ⟨s, upd h cid (.vec e ms.length (vrowO ms row l))⟩) (id := id) (id' := cid) (p := .b off) (m := .sl e ms) (d := .slice (l.map row)) (ch := .vec e ms.length (vrowO ms row l)) (mk := .vec) hne
    rfl (by intro r hr; obtain ⟨a, _, rfl⟩ := List.mem_map.1 hr; exact hsz a) (by simp only [upd, hne, if_false, hh, getP, hc]) (by simp only [upd, if_true])
  have e1 : closeSt ⟨s, upd h cid (.vec e ms.length (vrowO ms row l))⟩ id (.b off) cid (.sl e ms) (.slice (l.map row)) = ⟨repS cid .any s, upd (upd (repH cid .any h) id (.box ((repL cid .any cs).set off (.own (.sl e ms) (.slice (l.map row)))))) cid .dead⟩ := by
    simp only [closeSt, upd, hne, if_false, hh, repC, setP]
    congr 1
    funext i
    by_cases hi : i = cid
    · subst hi; simp only [upd, if_true]
    · by_cases hi2 : i = id
      · subst hi2; simp only [upd, hi, if_false, if_true]
      · simp only [upd, hi, hi2, if_false, repH]
  rw [e1] at h2
  exact h1.trans h2
theorem W_openBO {id cid off n e : Nat} {cs cs' : List SV} {ms : List Mask} {l : List α} (hh : h id = .box cs) (hc : cs[off]? = some (.own (.sl e ms) (.slice (l.map row)))) (hne : id ≠ cid) (hn : ms.length = n) (hset : (repL cid .any cs).set off (.vec cid) = cs')
    (hk : AW P x0 Q ⟨repS cid .any s, upd (upd (repH cid .any h) id (.box cs')) cid (.vec e n (vrowO ms row l))⟩) : AW P x0 Q ⟨s, h⟩ := W_imp (imp_openBO hh hc hne hn hset) hk
end
attribute [push_cast] SV.plug SV.plugs iniD Mask.plains Mask.plain frzR_vrowOP repR_set repR_vrowO vrowO_length List.length_set List.set_set
/-- Ahead of a statement: a slice that grew becomes data. -/
theorem W_frz {P : Program} {x : SC} {Q : AX → St → Prop} {s : Nat → SV} {h : Nat → Ch} {id e sz : Nat} {rows : List (List SV)} {ds : List (List DV)} (hv : h id = .vec e sz rows) (hf : SV.frzR rows = some ds) (hw : AW P x Q ⟨repS id (.slice ds) s, upd (repH id (.slice ds) h) id .dead⟩) : AW P x Q ⟨s, h⟩ := W_imp (imp_freeze hv hf) hw
end Go.Proofs.YtcnohbiegjahkaaGreatDoor

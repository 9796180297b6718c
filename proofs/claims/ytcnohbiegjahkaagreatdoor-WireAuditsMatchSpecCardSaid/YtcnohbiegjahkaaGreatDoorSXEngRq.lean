/-
  The engine, part Rq: maps of data; slices of pointers that are owned; maps within variables.
-/
import Derived.Test.YtcnohbiegjahkaaGreatDoorSXEngRp
import Derived.Test.YtcnohbiegjahkaaGreatDoorSXEngRg
import Derived.Test.YtcnohbiegjahkaaGreatDoorSXPL
namespace Go.Proofs.YtcnohbiegjahkaaGreatDoor
set_option linter.unusedSimpArgs false
set_option linter.unusedVariables false
open Go.RowKit

theorem repK_data {K V : Type} {ke : K → DV} {f : V → DV} (id : Nat) (dv : DV) (W : List (K × V)) : repK id dv (encM ke (fun v => .d (f v)) W) = encM ke (fun v => .d (f v)) W := repK_enc id dv (fun _ => rfl) W
attribute [push_cast] repK_data

section
variable {P : Program} {s : Nat → SV} {h : Nat → Ch} {K : St → Prop} {sos : List SO} {α : Type} {row : α → List DV}
/-- A look into a map whose values are data. -/
theorem O_lookD {V : Type} {dst id : Nat} {z : SV} {m k : SX} {W : List (List UInt8 × V)} {key : List UInt8} {f : V → DV} {z0 : V} {ve : V → SV} (hx : ev s m = .mp id) (hk : ev s k = .d (.str key)) (hh : h id = .map .str (encM .str ve W)) (hve : ve = fun v => .d (f v)) (hz : z = .d (f z0))
    (hrest : AOps P K sos ⟨upd s dst (.d (f ((getM W key).getD z0))), h⟩) : AOps P K (.r dst (.look .str z false m k) :: sos) ⟨s, h⟩ := by
  subst hve hz
  refine O_lookM hx hk hh ?_ rfl hrest
  unfold lookV
  rw [kvGet_enc]
  cases getM W key <;> rfl
theorem chle_mapS {V : Type} {W : List (List UInt8 × V)} {k : List UInt8} {v : V} {x : SV} {ve : V → SV} (hx : x = ve v) : chle (.map .str (kvSet (encM .str ve W) (.str k) x)) (.map .str (encM .str ve (putM W k v))) := by
  subst hx
  rw [kvSet_enc]
  exact chle_rfl rfl
end

/-- The row of a pointer. -/
def rowP {α : Type} (row : α → List DV) (x : α) : List DV := [.ptr (row x)]
theorem take_setN {β : Type} {L : List β} {i k : Nat} {c : β} (h : k ≤ i) : (L.set i c).take k = L.take k := by
  apply List.ext_getElem?
  intro j
  by_cases hj : j < k
  · rw [List.getElem?_take_of_lt hj, List.getElem?_take_of_lt hj, List.getElem?_set_ne (by omega)]
  · rw [List.getElem?_eq_none (by simp; omega), List.getElem?_eq_none (by simp; omega)]
theorem getI_lit {α : Type} {l : List α} {k : Nat} {x : α} (h : getI l (k : Int) = some x) : l[k]? = some x := by rwa [getI_nat] at h
section
variable {P : Program} {x0 : SC} {Q : AX → St → Prop} {s : Nat → SV} {h : Nat → Ch} {Kk : St → Prop} {sos : List SO} {α K V : Type} {row : α → List DV} {ms : List Mask} {l : List α} {x x' : α} {ke : K → DV} {fv : V → DV} {kk : KK} {σ σ' : St}
theorem W_impAt (x0 : SC) (hi : Imp σ σ') (hk : AW P x0 Q σ') : AW P x0 Q σ := W_imp hi hk
theorem O_oImp {dst : Nat} {op : ROp} {s' : Nat → SV} {h' : Nat → Ch} (hi : Imp ⟨s, h⟩ ⟨s', h'⟩) (hk : AOps P Kk (.o dst op :: sos) ⟨s', h'⟩) : AOps P Kk (.o dst op :: sos) ⟨s, h⟩ := by
  obtain ⟨σ1, h1, h2⟩ := hk
  exact ⟨σ1, hi.trans h1, h2⟩
/-- A pointer in a row is followed: its variable becomes a chunk. -/
theorem imp_openPt {id C e i : Nat} (hh : h id = .vec e 1 (vrowO [.pt ms] (rowP row) l)) (hx : l[i]? = some x) (hne : id ≠ C) :
    Imp ⟨s, h⟩ ⟨repS C .any s, upd (upd (repH C .any h) id (.vec e 1 ((vrowO [.pt ms] (rowP row) l).set i [.ref C 0]))) C (.box (ownR ms (row x)))⟩ := by
  refine imp_open (σ := ⟨s, h⟩) (p := .v i 0) hne ?_
  have hg : getP (h id) (.v i 0) = some (.own (.pt ms) (.ptr (row x))) := by
    simp only [hh, getP, vrowO_get hx]; rfl
  simp only [openSt, hg, openCh]
  simp only [hh, repC, repR_vrowO, setP, vrowO_get hx]
  rfl
theorem O_oPt {dst tp id C e i : Nat} (hp : s tp = .vref id 1 i 0) (hh : h id = .vec e 1 (vrowO [.pt ms] (rowP row) l)) (hx : l[i]? = some x) (hne : id ≠ C)
    (hk : AOps P Kk (.o dst (.ld1 (.t tp)) :: sos) ⟨repS C .any s, upd (upd (repH C .any h) id (.vec e 1 ((vrowO [.pt ms] (rowP row) l).set i [.ref C 0]))) C (.box (ownR ms (row x)))⟩) : AOps P Kk (.o dst (.ld1 (.t tp)) :: sos) ⟨s, h⟩ :=
  O_oImp (imp_openPt hh hx hne) hk
theorem imp_closeP0 {id C e i : Nat} {cs : List SV} {q : SV} {R R1 R2 : List (List SV)} (hh : h id = .vec e 1 R) (hg : R[i]? = some [.ref C 0]) (hj : h C = .box cs) (hc : cellsle cs (ownR ms (row x'))) (hlen : (row x').length = ms.length) (hne : id ≠ C) (h1 : repR C .any R = R1) (hq : R1[i]? = some [q])
    (h2 : R1.set i [.own (.pt ms) (.ptr (row x'))] = R2) : Imp ⟨s, h⟩ ⟨repS C .any s, upd (upd (repH C .any h) id (.vec e 1 R2)) C .dead⟩ := by
  subst h1 h2
  have i1 : Imp ⟨s, h⟩ ⟨s, upd h C (.box (ownR ms (row x')))⟩ := imp_box hj hc
  have i2 := imp_close (σ := ⟨s, upd h C (.box (ownR ms (row x')))⟩) (id := id) (id' := C) (p := .v i 0) (m := .pt ms) (d := .ptr (row x')) (ch := .box (ownR ms (row x'))) (mk := fun j => .ref j 0) hne
    rfl hlen (by simp only [upd, hne, if_false, hh, getP, hg]; rfl) (by simp only [upd, if_true])
  have e1 : closeSt ⟨s, upd h C (.box (ownR ms (row x')))⟩ id (.v i 0) C (.pt ms) (.ptr (row x')) = ⟨repS C .any s, upd (upd (repH C .any h) id (.vec e 1 ((repR C .any R).set i [.own (.pt ms) (.ptr (row x'))]))) C .dead⟩ := by
    simp only [closeSt, upd, hne, if_false, hh, repC]
    congr 1
    funext j
    by_cases hj1 : j = C
    · subst hj1; simp only [upd, if_true]
    · by_cases hj2 : j = id
      · subst hj2
        simp only [upd, hj1, if_false, if_true, setP, hq]
        rfl
      · simp only [upd, hj1, hj2, if_false, repH]
  rw [e1] at i2
  exact i1.trans i2
/-- The variable goes back behind its pointer. -/
theorem imp_closePt {id C e i : Nat} {cs : List SV} (hh : h id = .vec e 1 ((vrowO [.pt ms] (rowP row) l).set i [.ref C 0])) (hj : h C = .box cs) (hc : cellsle cs (ownR ms (row x'))) (hlen : ∀ x, (row x).length = ms.length) (hi : i < l.length) (hne : id ≠ C) :
    Imp ⟨s, h⟩ ⟨repS C .any s, upd (upd (repH C .any h) id (.vec e 1 (vrowO [.pt ms] (rowP row) (l.set i x')))) C .dead⟩ := by
  have hi' : i < (vrowO [.pt ms] (rowP row) l).length := by rw [vrowO_length]; exact hi
  refine imp_closeP0 (q := .d .any) hh (List.getElem?_set_self hi') hj hc (hlen _) hne (R1 := (vrowO [.pt ms] (rowP row) l).set i [.d .any]) ?_ (List.getElem?_set_self hi') ?_
  · rw [repR_set, repR_vrowO]
    simp only [repL, repV, if_true]
  · rw [List.set_set, vrowO_set]; rfl
/-- A new variable goes behind the pointer that was put behind the others. -/
theorem imp_closePa {id C e : Nat} {cs : List SV} {R0 : List (List SV)} (hh : h id = .vec e 1 (R0 ++ [[.ref C 0]])) (hR : rowsle R0 (vrowO [.pt ms] (rowP row) l)) (hj : h C = .box cs) (hc : cellsle cs (ownR ms (row x'))) (hlen : ∀ x, (row x).length = ms.length) (hne : id ≠ C) :
    Imp ⟨s, h⟩ ⟨repS C .any s, upd (upd (repH C .any h) id (.vec e 1 (vrowO [.pt ms] (rowP row) (l ++ [x'])))) C .dead⟩ := by
  have i0 : Imp ⟨s, h⟩ ⟨s, upd h id (.vec e 1 (vrowO [.pt ms] (rowP row) l ++ [[.ref C 0]]))⟩ := imp_le (fun _ => .inl rfl) fun j => by
    by_cases hj' : j = id
    · subst hj'; simp only [upd, if_true, hh]; exact chle_vec (hR.append rowsle.rfl)
    · simp only [upd, hj', if_false]; exact chle_rfl rfl
  refine i0.trans ?_
  have hlt : (vrowO [.pt ms] (rowP row) l ++ [[SV.ref C 0]])[l.length]? = some [.ref C 0] := by
    rw [List.getElem?_append_right (by rw [vrowO_length]; exact Nat.le_refl _), vrowO_length, Nat.sub_self]; rfl
  have hlt2 : (vrowO [.pt ms] (rowP row) l ++ [[SV.d .any]])[l.length]? = some [.d .any] := by
    rw [List.getElem?_append_right (by rw [vrowO_length]; exact Nat.le_refl _), vrowO_length, Nat.sub_self]; rfl
  have hr : ∀ (a b : List (List SV)), repR C .any (a ++ b) = repR C .any a ++ repR C .any b := fun a b => by
    induction a with
    | nil => rfl
    | cons r a ih => simp only [List.cons_append, repR, ih]
  have i1 := imp_closeP0 (s := s) (h := upd h id (.vec e 1 (vrowO [.pt ms] (rowP row) l ++ [[.ref C 0]]))) (id := id) (C := C) (e := e) (i := l.length) (cs := cs) (ms := ms) (row := row) (x' := x') (q := .d .any) (R := vrowO [.pt ms] (rowP row) l ++ [[.ref C 0]]) (R1 := vrowO [.pt ms] (rowP row) l ++ [[.d .any]]) (R2 := vrowO [.pt ms] (rowP row) (l ++ [x']))
    (by simp only [upd, if_true]) hlt (by simp only [upd, Ne.symm hne, if_false, hj]) hc (hlen _) hne (by rw [hr, repR_vrowO]; simp only [repR, repL, repV, if_true]) hlt2
    (by rw [vrowO_append, List.set_append_right _ _ (by rw [vrowO_length]; exact Nat.le_refl _), vrowO_length, Nat.sub_self]; rfl)
  have e1 : (⟨repS C .any s, upd (upd (repH C .any (upd h id (.vec e 1 (vrowO [.pt ms] (rowP row) l ++ [[.ref C 0]])))) id (.vec e 1 (vrowO [.pt ms] (rowP row) (l ++ [x'])))) C .dead⟩ : St) = ⟨repS C .any s, upd (upd (repH C .any h) id (.vec e 1 (vrowO [.pt ms] (rowP row) (l ++ [x'])))) C .dead⟩ := by
    congr 1
    funext j
    by_cases hj1 : j = C
    · simp only [upd, hj1, if_true]
    · by_cases hj2 : j = id
      · simp only [upd, hj1, hj2, if_false, if_true]
      · simp only [upd, hj1, hj2, if_false, repH]
  rw [e1] at i1
  exact i1
/-- A map within a variable becomes a chunk, and goes back. -/
theorem imp_openMB {id mid off : Nat} {cs cs' : List SV} {W : List (K × V)} (hh : h id = .box cs) (hc : cs[off]? = some (.own (.mp kk .sh) (dvM ke fv W))) (hne : id ≠ mid) (hset : (repL mid .any cs).set off (.mp mid) = cs') :
    Imp ⟨s, h⟩ ⟨repS mid .any s, upd (upd (repH mid .any h) id (.box cs')) mid (.map kk (encM ke (fun v => .d (fv v)) W))⟩ := by
  subst hset
  refine imp_open (σ := ⟨s, h⟩) (p := .b off) hne ?_
  have hg : getP (h id) (.b off) = some (.own (.mp kk .sh) (dvM ke fv W)) := by simp only [hh, getP, hc]
  simp only [openSt, hg, open_mp]
  simp only [hh, repC, setP]
theorem O_oMB {dst id mid off : Nat} {op : ROp} {cs cs' : List SV} {W : List (K × V)} (hh : h id = .box cs) (hc : cs[off]? = some (.own (.mp kk .sh) (dvM ke fv W))) (hne : id ≠ mid) (hset : (repL mid .any cs).set off (.mp mid) = cs')
    (hk : AOps P Kk (.o dst op :: sos) ⟨repS mid .any s, upd (upd (repH mid .any h) id (.box cs')) mid (.map kk (encM ke (fun v => .d (fv v)) W))⟩) : AOps P Kk (.o dst op :: sos) ⟨s, h⟩ := O_oImp (imp_openMB hh hc hne hset) hk
theorem imp_closeMB {id mid off : Nat} {cs cs' : List SV} {ch : Ch} {W : List (K × V)} (hh : h id = .box cs) (hc : cs[off]? = some (.mp mid)) (hne : id ≠ mid) (hj : h mid = ch) (hr : chle ch (.map kk (encM ke (fun v => .d (fv v)) W))) (hset : (repL mid .any cs).set off (.own (.mp kk .sh) (dvM ke fv W)) = cs') :
    Imp ⟨s, h⟩ ⟨repS mid .any s, upd (upd (repH mid .any h) id (.box cs')) mid .dead⟩ := by
  subst hset
  have i0 : Imp ⟨s, h⟩ ⟨s, upd h mid (.map kk (encM ke (fun v => .d (fv v)) W))⟩ := imp_le (fun _ => .inl rfl) fun j => by
    by_cases hj' : j = mid
    · subst hj'; simp only [upd, if_true, hj]; exact hr
    · simp only [upd, hj', if_false]; exact chle_rfl rfl
  have i1 := imp_close (σ := ⟨s, upd h mid (.map kk (encM ke (fun v => .d (fv v)) W))⟩) (id := id) (id' := mid) (p := .b off) (m := .mp kk .sh) (d := dvM ke fv W) (ch := .map kk (encM ke (fun v => .d (fv v)) W)) (mk := .mp) hne
    (open_mp W) (shape_mp W) (by simp only [upd, hne, if_false, hh, getP, hc]) (by simp only [upd, if_true])
  have e1 : closeSt ⟨s, upd h mid (.map kk (encM ke (fun v => .d (fv v)) W))⟩ id (.b off) mid (.mp kk .sh) (dvM ke fv W) = ⟨repS mid .any s, upd (upd (repH mid .any h) id (.box ((repL mid .any cs).set off (.own (.mp kk .sh) (dvM ke fv W))))) mid .dead⟩ := by
    simp only [closeSt, upd, hne, if_false, hh, repC, setP]
    congr 1
    funext i
    by_cases hi : i = mid
    · subst hi; simp only [upd, if_true]
    · by_cases hi2 : i = id
      · subst hi2; simp only [upd, hi, if_false, if_true]
      · simp only [upd, hi, hi2, if_false, repH]
  rw [e1] at i1
  exact i0.trans i1
/-- Data are written into a row that owns. -/
theorem O_stVOd {id e sz i off : Nat} {y v : SX} {d : DV} (hp : ev s y = .vref id sz i off) (hv : (ev s v).cells? = some [.d d]) (hh : h id = .vec e sz (vrowO ms row l)) (he : l[i]? = some x) (hms : ms[off]? = some .sh) (hx : (row x).set off d = row x') (hlen : ∀ x, (row x).length = ms.length)
    (hk : AOps P Kk sos ⟨s, upd h id (.vec e sz (vrowO ms row (l.set i x')))⟩) : AOps P Kk (.w 0 (.st 1 y v) :: sos) ⟨s, h⟩ := by
  have hg := vrowO_get (ms := ms) (row := row) he
  have ho : off < ms.length := (List.getElem?_eq_some_iff.1 hms).1
  have hl : (ownR ms (row x)).length = ms.length := by
    unfold ownR
    simp only [List.length_zipWith, hlen, Nat.min_self]
  refine O_w (p := sz = sz ∧ [SV.d d].length = 1 ∧ off + 1 ≤ (ownR ms (row x)).length) ?_ ⟨rfl, rfl, by omega⟩ hk
  simp only [wr, hp, hv, hh, hg]
  have e1 : splice (ownR ms (row x)) off [SV.d d] = ownR ms (row x') := by
    rw [splice_set1 (by omega), ← hx]
    exact ownR_set (m := .sh) hms
  rw [e1, vrowO_set]
/-- A slice whose rows own is cut off behind some rows. -/
theorem O_truncVO {R : Type} {r : R} {rows : List (List SV)} {dst e sz id : Nat} {ki : IntKind} {m : Int} {y z : SX} {k : List α → Option R} (hm : (sliceI l 0 m).bind k = some r) (hx : ev s y = .vec id) (hy : ev s z = .d (.int ki m)) (hh : h id = .vec e sz rows) (hl : rows.length = l.length) (ht : rows.take m.toNat = (vrowO ms row l).take m.toNat)
    (hk : ∀ l', k l' = some r → AOps P Kk sos ⟨upd (repS id .any s) dst (.vec id), upd (repH id .any h) id (.vec e sz (vrowO ms row l'))⟩) : AOps P Kk (.w dst (.trunc sz y z) :: sos) ⟨s, h⟩ := by
  cases hs : sliceI l 0 m with
  | none => rw [hs] at hm; cases hm
  | some l' =>
    rw [hs] at hm
    unfold sliceI at hs
    split at hs
    · rename_i h0
      simp only [Option.some.injEq] at hs
      have hl' : l' = l.take m.toNat := by rw [← hs]; simp
      refine O_w (p := sz = sz ∧ 0 ≤ m ∧ m ≤ rows.length) ?_ ⟨rfl, by omega, by omega⟩ (hk l' hm)
      simp only [wr, hx, hy, hh, growTo, St.swap, ht]
      rw [show (vrowO ms row l).take m.toNat = vrowO ms row l' by rw [hl']; simp [vrowO, List.map_take], repR_vrowO]
    · cases hs
theorem O_truncVOx {R : Type} {r : R} {rows : List (List SV)} {dst e sz id : Nat} {ki : IntKind} {m : Int} {y z : SX} {late : List (Nat × Nat × ROp)} {k : List α → Option R} (hm : (sliceI l 0 m).bind k = some r) (hx : ev s y = .vec id) (hy : ev s z = .d (.int ki m)) (hh : h id = .vec e sz rows) (hl : rows.length = l.length) (ht : rows.take m.toNat = (vrowO ms row l).take m.toNat)
    (hla : ∀ l' : List α, l'.length = m.toNat → Rer ⟨upd (repS id .any s) dst (.vec id), upd (repH id .any h) id (.vec e sz (vrowO ms row l'))⟩ late)
    (hk : ∀ l', k l' = some r → AOps P Kk sos ⟨upd (repS id .any s) dst (.vec id), upd (repH id .any h) id (.vec e sz (vrowO ms row l'))⟩) : AOps P Kk (.x dst (.trunc sz y z) late :: sos) ⟨s, h⟩ := by
  cases hs : sliceI l 0 m with
  | none => rw [hs] at hm; cases hm
  | some l' =>
    rw [hs] at hm
    unfold sliceI at hs
    split at hs
    · rename_i h0
      simp only [Option.some.injEq] at hs
      have hl' : l' = l.take m.toNat := by rw [← hs]; simp
      refine O_x (p := sz = sz ∧ 0 ≤ m ∧ m ≤ rows.length) ?_ ⟨rfl, by omega, by omega⟩ (hla l' (by rw [hl', List.length_take]; omega)) (hk l' hm)
      simp only [wr, hx, hy, hh, growTo, St.swap, ht]
      rw [show (vrowO ms row l).take m.toNat = vrowO ms row l' by rw [hl']; simp [vrowO, List.map_take], repR_vrowO]
    · cases hs
end
end Go.Proofs.YtcnohbiegjahkaaGreatDoor

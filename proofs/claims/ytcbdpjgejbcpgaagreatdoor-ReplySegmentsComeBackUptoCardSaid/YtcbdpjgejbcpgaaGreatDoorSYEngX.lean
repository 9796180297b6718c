/-
  The engine, part X: maps, told as lists of keys and values.
-/
import Derived.Test.YtcbdpjgejbcpgaaGreatDoorSYEngV
namespace Go.Proofs.YtcbdpjgejbcpgaaGreatDoor
set_option linter.unusedSimpArgs false
set_option linter.unusedVariables false
open Go.RowKit

/-- The entries of a map. -/
def encM {K V : Type} (ke : K → DV) (ve : V → SV) (W : List (K × V)) : List (DV × SV) := W.map fun p => (ke p.1, ve p.2)
def getM {K V : Type} [DecidableEq K] : List (K × V) → K → Option V
  | [], _ => none
  | p :: W, k => if k = p.1 then some p.2 else getM W k
def putM {K V : Type} [DecidableEq K] : List (K × V) → K → V → List (K × V)
  | [], k, v => [(k, v)]
  | p :: W, k, v => if k = p.1 then (k, v) :: W else p :: putM W k v
def optO {A R : Type} (o : Option A) (m0 : Option R) (m1 : A → Option R) : Option R := match o with | none => m0 | some a => m1 a
/-- An owned slice of cells that nobody else points to. -/
def ownV {α : Type} (e : Nat) (ms : List Mask) (row : α → List DV) (l : List α) : SV := .own (.sl e ms) (.slice (l.map row))

section
variable {V : Type} {ve : V → SV}
theorem keyEq_str (a b : List UInt8) : keyEq (.str a) (.str b) = decide (a = b) := rfl
theorem kvGet_enc : ∀ (W : List (List UInt8 × V)) (k : List UInt8), kvGet (encM .str ve W) (.str k) = (getM W k).map ve
  | [], _ => rfl
  | p :: W, k => by
    simp only [encM, List.map_cons, kvGet, keyEq_str, getM]
    by_cases h : k = p.1
    · simp [h]
    · simp only [h, decide_false, if_false]; exact kvGet_enc W k
theorem kvSet_enc : ∀ (W : List (List UInt8 × V)) (k : List UInt8) (v : V), kvSet (encM .str ve W) (.str k) (ve v) = encM .str ve (putM W k v)
  | [], _, _ => rfl
  | p :: W, k, v => by
    simp only [encM, List.map_cons, kvSet, keyEq_str, putM]
    by_cases h : k = p.1
    · simp [h]
    · simp only [h, decide_false, if_false, List.map_cons]
      have := kvSet_enc W k v
      simp only [encM] at this
      simp [this]
end
theorem kvSet_set {α : Type} (k : List UInt8) (x y : α) : ∀ (kv : List (DV × α)), kvSet (kvSet kv (.str k) x) (.str k) y = kvSet kv (.str k) y
  | [] => by simp [kvSet, keyEq_str]
  | (q, e) :: kv => by
    simp only [kvSet]
    by_cases h : keyEq (.str k) q = true
    · simp only [h, if_true, kvSet, keyEq_str, decide_true]
    · simp only [Bool.not_eq_true] at h
      simp [h, kvSet, kvSet_set k x y kv]
theorem kvGet_set {α : Type} (k : List UInt8) (x : α) : ∀ (kv : List (DV × α)), kvGet (kvSet kv (.str k) x) (.str k) = some x
  | [] => by simp [kvSet, kvGet, keyEq_str]
  | (q, e) :: kv => by
    simp only [kvSet]
    by_cases h : keyEq (.str k) q = true
    · simp only [h, if_true, kvGet, keyEq_str, decide_true]
    · simp only [Bool.not_eq_true] at h
      simp [h, kvGet, kvGet_set k x kv]
theorem repK_enc {K V : Type} {ke : K → DV} {ve : V → SV} (id : Nat) (dv : DV) (hv : ∀ v, repV id dv (ve v) = ve v) : ∀ (W : List (K × V)), repK id dv (encM ke ve W) = encM ke ve W
  | [] => rfl
  | p :: W => by simp only [encM, List.map_cons, repK, hv]; rw [show W.map (fun p => (ke p.1, ve p.2)) = encM ke ve W from rfl, repK_enc id dv hv W]
theorem repK_own2 {K α : Type} {ke : K → DV} {row : α → List DV} {e : Nat} {ms : List Mask} (id : Nat) (dv : DV) (W : List (K × List α)) : repK id dv (encM ke (ownV e ms row) W) = encM ke (ownV e ms row) W := repK_enc id dv (fun _ => rfl) W
theorem repK_set (id : Nat) (dv : DV) (k : DV) (x : SV) : ∀ (kv : List (DV × SV)), repK id dv (kvSet kv k x) = kvSet (repK id dv kv) k (repV id dv x)
  | [] => rfl
  | (q, e) :: kv => by
    simp only [kvSet, repK]
    by_cases h : keyEq k q = true
    · simp only [h, if_true, repK]
    · simp [h, repK, repK_set id dv k x kv]
theorem ownR_sh {α : Type} {row : α → List DV} {n : Nat} (hsz : ∀ a, (row a).length = n) (l : List α) : (l.map row).map (ownR (List.replicate n .sh)) = vrow row l := by
  have h : ∀ (n : Nat) (r : List DV), r.length = n → ownR (List.replicate n .sh) r = dR r := by
    intro n
    induction n with
    | zero => intro r hr; cases r with
      | nil => rfl
      | cons a r => simp at hr
    | succ n ih => intro r hr; cases r with
      | nil => simp at hr
      | cons a r =>
        simp only [List.replicate_succ, ownR, List.zipWith_cons_cons, ownC]
        have := ih r (by simpa using hr)
        simp only [ownR] at this
        rw [this]; rfl
  simp only [vrow, List.map_map]
  apply List.map_congr_left
  intro a _
  simp only [Function.comp]
  exact h n (row a) (hsz a)

section
variable {P : Program} {s : Nat → SV} {h : Nat → Ch} {K : St → Prop} {sos : List SO} {α : Type} {row : α → List DV}

/-- The value of a key is opened. -/
theorem imp_openM {id id' e n : Nat} {W : List (List UInt8 × List α)} {k : List UInt8} {w : List α} (hne : id ≠ id') (hh : h id = .map .str (encM .str (ownV e (List.replicate n .sh) row) W)) (hg : getM W k = some w) (hsz : ∀ a, (row a).length = n) :
    Imp ⟨s, h⟩ ⟨repS id' .any s, upd (upd (repH id' .any h) id (.map .str (kvSet (encM .str (ownV e (List.replicate n .sh) row) W) (.str k) (.vec id')))) id' (.vec e n (vrow row w))⟩ := by
  refine imp_open (σ := ⟨s, h⟩) (p := .m (.str k)) hne ?_
  have hgp : getP (h id) (.m (.str k)) = some (.own (.sl e (List.replicate n .sh)) (.slice (w.map row))) := by simp only [hh, getP, kvGet_enc, hg, Option.map_some]; rfl
  simp only [openSt, hgp, openCh, List.length_replicate, ownR_sh hsz]
  simp only [hh, repC, setP, repK_own2]
/-- The opened value of a key goes back. -/
theorem imp_closeM {id id' e n : Nat} {W : List (List UInt8 × List α)} {k : List UInt8} {w : List α} {KV : List (DV × SV)} (hne : id ≠ id') (hh : h id = .map .str KV) (hkv : KV = kvSet (encM .str (ownV e (List.replicate n .sh) row) W) (.str k) (.vec id')) (hv : h id' = .vec e n (vrow row w)) (hsz : ∀ a, (row a).length = n) :
    Imp ⟨s, h⟩ ⟨repS id' .any s, upd (upd (repH id' .any h) id (.map .str (encM .str (ownV e (List.replicate n .sh) row) (putM W k w)))) id' .dead⟩ := by
  have := imp_close (σ := ⟨s, h⟩) (id := id) (id' := id') (p := .m (.str k)) (m := .sl e (List.replicate n .sh)) (d := .slice (w.map row)) (ch := .vec e n (vrow row w)) (mk := .vec) hne
    (by simp only [openCh, List.length_replicate, ownR_sh hsz]) (by intro r hr; obtain ⟨a, _, rfl⟩ := List.mem_map.1 hr; simp [hsz]) (by simp only [hh, getP, hkv]; exact kvGet_set k _ _) hv
  simp only [closeSt, hh, repC, setP, hkv, repK_set, repK_own2, kvSet_set] at this
  rw [show SV.own (.sl e (List.replicate n .sh)) (.slice (List.map row w)) = ownV e (List.replicate n .sh) row w from rfl, kvSet_enc] at this
  exact this

theorem imp_closeR {id id' e n : Nat} {W : List (List UInt8 × List α)} {k : List UInt8} {w : List α} {rows : List (List SV)} {KV : List (DV × SV)} (hne : id ≠ id') (hh : h id = .map .str KV) (hkv : KV = kvSet (encM .str (ownV e (List.replicate n .sh) row) W) (.str k) (.vec id')) (hv : h id' = .vec e n rows) (hr : rowsle rows (vrow row w)) (hsz : ∀ a, (row a).length = n) :
    Imp ⟨s, h⟩ ⟨repS id' .any s, upd (upd (repH id' .any h) id (.map .str (encM .str (ownV e (List.replicate n .sh) row) (putM W k w)))) id' .dead⟩ := by
  have h1 : Imp ⟨s, h⟩ ⟨s, upd h id' (.vec e n (vrow row w))⟩ := imp_le (fun _ => .inl rfl) fun i => by
    by_cases hi : i = id'
    · subst hi; simp only [upd, if_true, hv]; exact chle_vec hr
    · simp only [upd, hi, if_false]; exact chle_rfl rfl
  have h2 := imp_closeM (s := s) (h := upd h id' (.vec e n (vrow row w))) (id := id) (id' := id') (W := W) (k := k) (w := w) hne (by simp only [upd, hne, if_false]; exact hh) hkv (by simp only [upd, if_true]) hsz
  have e1 : upd (upd (repH id' .any (upd h id' (.vec e n (vrow row w)))) id (.map .str (encM .str (ownV e (List.replicate n .sh) row) (putM W k w)))) id' .dead = upd (upd (repH id' .any h) id (.map .str (encM .str (ownV e (List.replicate n .sh) row) (putM W k w)))) id' .dead := by
    funext i
    simp only [upd, repH]
    by_cases hi : i = id'
    · simp [hi]
    · simp [hi]
  rw [e1] at h2
  exact h1.trans h2
/-- The string in a variable's field. -/
def keyAt (h : Nat → Ch) (s : Nat → SV) (t off : Nat) : Option (List UInt8) :=
  match s t with
  | .ref id o => match h id with
    | .box cs => match cs[o + off]? with
      | some (.d (.str k)) => some k
      | _ => none
    | _ => none
  | _ => none
/-- Behind a statement that looks a key up and writes it: the value is opened first, if there is one. -/
theorem W_openM {R : Type} {r : R} {x : SC} {Q : AX → St → Prop} {id e n : Nat} (id' mslot t off : Nat) {W : List (List UInt8 × List α)} {k : List UInt8} {m0 : Option R} {m1 : List α → Option R} (hm : optO (getM W k) m0 m1 = some r) (hmp : s mslot = .mp id) (hkey : keyAt h s t off = some k) (hh : h id = .map .str (encM .str (ownV e (List.replicate n .sh) row) W)) (hne : id ≠ id') (hsz : ∀ a, (row a).length = n)
    (h0 : getM W k = none → m0 = some r → AW P x Q ⟨s, h⟩)
    (h1 : ∀ w, m1 w = some r → AW P x Q ⟨repS id' .any s, upd (upd (repH id' .any h) id (.map .str (kvSet (encM .str (ownV e (List.replicate n .sh) row) W) (.str k) (.vec id')))) id' (.vec e n (vrow row w))⟩) : AW P x Q ⟨s, h⟩ := by
  cases hg : getM W k with
  | none => rw [hg] at hm; exact h0 hg hm
  | some w => rw [hg] at hm; exact W_imp (imp_openM hne hh hg hsz) (h1 w hm)
theorem look_none {W : List (List UInt8 × List α)} {k : List UInt8} {e : Nat} {ms : List Mask} (hg : getM W k = none) {z : SV} : lookV (encM .str (ownV e ms row) W) (.str k) z = z := by
  simp only [lookV, kvGet_enc, hg]; rfl
theorem look_set {kv : List (DV × SV)} {k : List UInt8} {x z : SV} : lookV (kvSet kv (.str k) x) (.str k) z = x := by
  simp only [lookV, kvGet_set]; rfl
theorem O_lookM {dst id : Nat} {z v : SV} {m k : SX} {kv : List (DV × SV)} {key : List UInt8} (hx : ev s m = .mp id) (hk : ev s k = .d (.str key)) (hh : h id = .map .str kv) (hv : lookV kv (.str key) z = v) (hn : v.noOwn = true) (hrest : AOps P K sos ⟨upd s dst v, h⟩) : AOps P K (.r dst (.look .str z false m k) :: sos) ⟨s, h⟩ := by
  refine O_r (p := KK.str = KK.str ∧ KK.fits .str (.str key) = true ∧ v.noOwn = true) (v := v) ?_ ⟨rfl, rfl, hn⟩ hrest
  simp only [rd, hx, hk, hh, hv]; rfl
/-- A look that opens what it finds. -/
theorem O_lookO {R : Type} {r : R} {dst id e n : Nat} {z : SV} {m k : SX} {W : List (List UInt8 × List α)} {key : List UInt8} {m0 : Option R} {m1 : List α → Option R} (hm : optO (getM W key) m0 m1 = some r) (hx : ev s m = .mp id) (hk : ev s k = .d (.str key)) (hh : h id = .map .str (encM .str (ownV e (List.replicate n .sh) row) W)) (hne : id ≠ dst) (hsz : ∀ a, (row a).length = n) (hz : z.noOwn = true)
    (hx' : ev (repS dst .any s) m = .mp id) (hk' : ev (repS dst .any s) k = .d (.str key))
    (h0 : m0 = some r → AOps P K sos ⟨upd s dst z, h⟩)
    (h1 : ∀ w, m1 w = some r → AOps P K sos ⟨upd (repS dst .any s) dst (.vec dst), upd (upd (repH dst .any h) id (.map .str (kvSet (encM .str (ownV e (List.replicate n .sh) row) W) (.str key) (.vec dst)))) dst (.vec e n (vrow row w))⟩) : AOps P K (.o dst (.look .str z false m k) :: sos) ⟨s, h⟩ := by
  cases hg : getM W key with
  | none =>
    rw [hg] at hm
    refine O_o (p := KK.str = KK.str ∧ KK.fits .str (.str key) = true ∧ z.noOwn = true) (v := z) ?_ ⟨rfl, rfl, hz⟩ (h0 hm)
    simp only [rd, hx, hk, hh, look_none hg]; rfl
  | some w =>
    rw [hg] at hm
    refine O_oI (imp_openM (id' := dst) hne hh hg hsz) (p := KK.str = KK.str ∧ KK.fits .str (.str key) = true ∧ (SV.vec dst).noOwn = true) (v := .vec dst) ?_ ⟨rfl, rfl, rfl⟩ (h1 w hm)
    have hne' : id ≠ dst := hne
    simp only [rd, hx', hk', upd, hne', if_false, if_true, look_set]; rfl
/-- A nil slice that grows, in a region whose order is drawn. -/
theorem O_appNX {R : Type} {r : R} {rows2 : List (List SV)} {n dst e sz : Nat} {x y : SX} {late : List (Nat × Nat × ROp)} {kk : Option R} (hm : thenO (lenO n) kk = some r) (hx : ev s x = .nils) (hy : rowsY (ev s y) = some rows2) (hn : rows2.length = n) (hsz : (rows2.all fun q => q.length == sz) = true)
    (hl : Rer ⟨upd (repS dst .any s) dst (.vec dst), upd (repH dst .any h) dst (.vec e sz (repR dst .any rows2))⟩ late)
    (hk : kk = some r → AOps P K sos ⟨upd (repS dst .any s) dst (.vec dst), upd (repH dst .any h) dst (.vec e sz (repR dst .any rows2))⟩) : AOps P K (.x dst (.app e sz x y) late :: sos) ⟨s, h⟩ := by
  cases hlo : lenO n with
  | none => rw [hlo] at hm; cases hm
  | some u =>
    rw [hlo] at hm
    have hlen := lenO_some.1 hlo
    refine O_x (p := (∀ r ∈ rows2, r.length = sz) ∧ rows2.length ≤ 137438953472) ?_ ⟨fun q hq => by have := List.all_eq_true.1 hsz q hq; simpa using this, by omega⟩ hl (hk hm)
    simp only [wr, hx, hy, growTo, St.swap]
/-- A growing slice is cut short. -/
theorem O_truncX {R : Type} {r : R} {l : List α} {dst e sz id : Nat} {ki : IntKind} {m : Int} {x y : SX} {late : List (Nat × Nat × ROp)} {kk : List α → Option R} (hm : (sliceI l 0 m).bind kk = some r) (hx : ev s x = .vec id) (hy : ev s y = .d (.int ki m)) (hh : h id = .vec e sz (vrow row l))
    (hl : ∀ l', Rer ⟨upd (repS id .any s) dst (.vec id), upd (repH id .any h) id (.vec e sz (vrow row l'))⟩ late)
    (hk : ∀ l', kk l' = some r → AOps P K sos ⟨upd (repS id .any s) dst (.vec id), upd (repH id .any h) id (.vec e sz (vrow row l'))⟩) : AOps P K (.x dst (.trunc sz x y) late :: sos) ⟨s, h⟩ := by
  cases hs : sliceI l 0 m with
  | none => rw [hs] at hm; cases hm
  | some l' =>
    rw [hs] at hm
    unfold sliceI at hs
    split at hs
    · rename_i h0
      simp only [Option.some.injEq] at hs
      have hl' : l' = l.take m.toNat := by rw [← hs]; simp
      refine O_x (p := sz = sz ∧ 0 ≤ m ∧ m ≤ (vrow row l).length) ?_ ⟨rfl, by omega, by simp only [vrow_length]; omega⟩ (hl l') (hk l' hm)
      simp only [wr, hx, hy, hh, growTo, St.swap]
      rw [show (vrow row l).take m.toNat = vrow row l' by rw [hl']; simp [vrow, List.map_take], repR_vrow]
    · cases hs
end
section
variable {P : Program} {s : Nat → SV} {h : Nat → Ch} {K : St → Prop} {sos : List SO} {α : Type} {row : α → List DV}
/-! ### Slice literals, read as slices -/
theorem slit_dv {sz n : Nat} {cs : List SV} {d : DV} (hd : (SV.lit sz n cs).toDV = some d) : ∃ ds, SV.toDVs cs = some ds ∧ d = .slice (chunkR sz n ds) := by
  unfold SV.toDV at hd
  split at hd
  · rename_i xs hx
    simp only [Option.some.injEq] at hd
    exact ⟨xs, hx, hd.symm⟩
  · cases hd
theorem imp_slot {m : Nat} {v : SV} (hv : ∀ (w : World) (M : Nat → Prop) (κ : Nat → Value) (u : Value), RepS w M κ (s m) u → RepS w M κ v u) : Imp ⟨s, h⟩ ⟨upd s m v, h⟩ := by
  have key : ∀ (w : World) (M : Nat → Prop) (κ : Nat → Value) (i : Nat) (u : Value), RepS w M κ (s i) u → RepS w M κ (upd s m v i) u := by
    intro w M κ i u hu
    by_cases hi : i = m
    · subst hi; simp only [upd, if_true]; exact hv w M κ u hu
    · simp only [upd, hi, if_false]; exact hu
  intro c κ φ a w hr
  refine ⟨κ, φ, ?_⟩
  exact { hr with
    slots := fun i hi => key _ _ _ _ _ (hr.slots i hi)
    ghost := fun i v hv => key _ _ _ _ _ (hr.ghost i v hv) }
theorem lit_slot {w : World} {M : Nat → Prop} {κ : Nat → Value} {sz n : Nat} {cs : List SV} {ds : List DV} {u : Value} (hd : SV.toDVs cs = some ds) (hu : RepS w M κ (.lit sz n cs) u) : RepS w M κ (.lit sz n (dR ds)) u := by
  simp only [RepS] at hu ⊢
  obtain ⟨b, vs, h1, h2, h3, h4, h5, h6, h7⟩ := hu
  exact ⟨b, vs, h1, h2, h3, h4, h5, h6, dR_rep (RepSL.toDVs cs vs ds h7 hd)⟩
theorem chunkR_dR : ∀ (sz n : Nat) (ds : List DV), chunkR sz n (dR ds) = (chunkR sz n ds).map dR
  | _, 0, _ => rfl
  | sz, n + 1, ds => by
    simp only [chunkR, List.map_cons]
    rw [show (dR ds).drop sz = dR (ds.drop sz) by simp [dR, List.map_drop], chunkR_dR sz n]
    congr 1
    simp [dR, List.map_take]
/-- A slice literal that grows. -/
theorem O_appL {R : Type} {r : R} {l l2 : List α} {m n dst e sz k : Nat} {cs : List SV} {ds : List DV} {Y : SV} {d d2 : DV} {kk : Option R} (hm : thenO (lenO (l.length + l2.length)) kk = some r) (hx : s m = .lit sz k cs) (hds : SV.toDVs cs = some ds) (hd : (SV.lit sz k cs).toDV = some d) (hy : s n = Y) (hyd : Y.toDV = some d2) (he : d = .slice (l.map row)) (he2 : d2 = .slice (l2.map row)) (hpos : (!l2.isEmpty) = true) (hne : m ≠ n) (hsz : ∀ a, (row a).length = sz)
    (hk : kk = some r → AOps P K sos ⟨upd (repS dst .any (upd (upd s m (.lit sz k (dR ds))) n (.d (.slice (l2.map row))))) dst (.vec dst), upd (repH dst .any h) dst (.vec e sz (vrow row (l ++ l2)))⟩) : AOps P K (.w dst (.app e sz (.t m) (.t n)) :: sos) ⟨s, h⟩ := by
  cases hl : lenO (l.length + l2.length) with
  | none => rw [hl] at hm; cases hm
  | some u =>
    rw [hl] at hm
    have hlen := lenO_some.1 hl
    obtain ⟨ds', h1, h2⟩ := slit_dv hd
    rw [h1] at hds; cases hds
    rw [he] at h2
    simp only [DV.slice.injEq] at h2
    have hkl : k = l.length := by have := congrArg List.length h2; simpa [chunkR_length] using this.symm
    have hi1 : Imp ⟨s, h⟩ ⟨upd s m (.lit sz k (dR ds)), h⟩ := imp_slot fun w M κ u hu => by rw [hx] at hu; exact lit_slot h1 hu
    have hi2 : Imp ⟨upd s m (.lit sz k (dR ds)), h⟩ ⟨upd (upd s m (.lit sz k (dR ds))) n (.d (.slice (l2.map row))), h⟩ := svle_slot (by simp only [upd, Ne.symm hne, if_false, hy]; exact svle_dv (he2 ▸ hyd))
    refine O_wI (hi1.trans hi2) (p := sz = sz ∧ 0 < ((l2.map row).map dR).length ∧ (∀ r ∈ (l2.map row).map dR, r.length = sz) ∧ k + ((l2.map row).map dR).length ≤ 137438953472)
      ?_ ⟨rfl, ?_, vrow_all hsz l2, by simp only [List.length_map]; omega⟩ (hk hm)
    · simp only [wr, ev, upd, hne, if_false, if_true, rowsY, SV.toDV, growTo, St.swap]
      rw [chunkR_dR, ← h2, show (l2.map row).map dR = vrow row l2 from rfl, show (l.map row).map dR = vrow row l from rfl, vrow_append, repR_vrow]
    · cases l2 with
      | nil => simp at hpos
      | cons _ _ => simp
/-! ### Arrays of numbers -/
def cI (n : Int) : DV := .int .i64 n
def vcells (c : α → DV) (l : List α) : List SV := l.map fun a => .d (c a)
theorem vc_nil {c : α → DV} : cellsle [] (vcells c []) := .nil
theorem vc_cons {c : α → DV} {x : SV} {xs : List SV} {a : α} {l : List α} (h1 : svle x (.d (c a))) (h2 : cellsle xs (vcells c l)) : cellsle (x :: xs) (vcells c (a :: l)) := .consS h1 h2
def inO (n : Int) (len : Nat) : Option Unit := if 0 ≤ n ∧ n < len then some () else none
theorem O_aidxr {R : Type} {r : R} {len id dst : Nat} {n : Int} {x i : SX} {ki : IntKind} {kk : Option R} (hm : thenO (inO n len) kk = some r) (hx : ev s x = .ref id 0) (hi : ev s i = .d (.int ki n))
    (hk : kk = some r → AOps P K sos ⟨upd s dst (.ref id n.toNat), h⟩) : AOps P K (.r dst (.aidx 1 len x i) :: sos) ⟨s, h⟩ := by
  cases hl : inO n len with
  | none => rw [hl] at hm; cases hm
  | some u =>
    rw [hl] at hm
    unfold inO at hl
    split at hl
    · rename_i h0
      refine O_r (p := 0 ≤ n ∧ n < len) (v := .ref id n.toNat) ?_ h0 (hk hm)
      simp only [rd, hx, hi, Nat.zero_add, Nat.mul_one]
    · cases hl
theorem O_ldCr {R : Type} {r : R} {l : List α} {c : α → DV} {id o dst : Nat} {x : SX} {kk : α → Option R} (hm : (l[o]?).bind kk = some r) (hx : ev s x = .ref id o) (hh : h id = .box (vcells c l))
    (hk : ∀ a, kk a = some r → AOps P K sos ⟨upd s dst (.d (c a)), h⟩) : AOps P K (.r dst (.ld1 x) :: sos) ⟨s, h⟩ := by
  cases hl : l[o]? with
  | none => rw [hl] at hm; cases hm
  | some a =>
    rw [hl] at hm
    refine O_r (p := True) (v := .d (c a)) ?_ trivial (hk a hm)
    simp only [rd, hx, hh, vcells, List.getElem?_map, hl, Option.map_some, SV.noOwn, if_true]
theorem O_stC {R : Type} {r : R} {l : List α} {c : α → DV} {a : α} {d : DV} {id o dst : Nat} {p v : SX} {kk : α → Option R} (hm : (l[o]?).bind kk = some r) (hx : ev s p = .ref id o) (hh : h id = .box (vcells c l)) (hv : ev s v = .d d) (he : d = c a) (hc : (SV.d d).cells? = some [.d d])
    (hk : ∀ b, kk b = some r → AOps P K sos ⟨s, upd h id (.box (vcells c (l.set o a)))⟩) : AOps P K (.w dst (.st 1 p v) :: sos) ⟨s, h⟩ := by
  cases hl : l[o]? with
  | none => rw [hl] at hm; cases hm
  | some b =>
    rw [hl] at hm
    have hlt := (List.getElem?_eq_some_iff.1 hl).1
    refine O_w (p := ([SV.d d].length = 1 ∧ o + 1 ≤ (vcells c l).length)) ?_ ⟨rfl, by simp [vcells]; omega⟩ (hk b hm)
    simp only [wr, hx, hh, hv, hc]
    congr 5
    unfold splice vcells
    rw [he]
    apply List.ext_getElem?
    intro j
    simp only [List.map_set, List.length_singleton]
    rw [List.set_eq_take_append_cons_drop, if_pos (by simpa using hlt)]
    simp
/-! ### Bytes and strings -/
end
theorem eR_nil {α : Type} {row : α → List DV} : ([] : List (List SV)) = vrow row ([] : List α) := rfl
theorem eR_cons {α : Type} {row : α → List DV} {r : List SV} {rs : List (List SV)} {a : α} {l : List α} (h1 : r = dR (row a)) (h2 : rs = vrow row l) : r :: rs = vrow row (a :: l) := vrow_cons h1 h2
theorem chle_map0 {K V : Type} {kk : KK} {ke : K → DV} {ve : V → SV} : chle (.map kk []) (.map kk (encM ke ve [])) := rfl
attribute [push_cast] repK_own2 repK_set kvSet_set keyAt
end Go.Proofs.YtcbdpjgejbcpgaaGreatDoor

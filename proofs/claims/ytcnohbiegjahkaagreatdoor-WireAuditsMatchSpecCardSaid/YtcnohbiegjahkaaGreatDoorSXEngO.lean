/-
  The engine, part O: an owned value within a chunk becomes a chunk of its own, and goes back.
-/
import Derived.Test.YtcnohbiegjahkaaGreatDoorSXEngI
namespace Go.Proofs.YtcnohbiegjahkaaGreatDoor
set_option linter.unusedSimpArgs false
set_option linter.unusedVariables false
open Go.RowKit

def ownC (m : Mask) (d : DV) : SV :=
  match m with
  | .sh => .d d
  | .sl e ms => .own (.sl e ms) d
  | .pt ms => .own (.pt ms) d
  | .mp kk m => .own (.mp kk m) d
  | .bld T e => .own (.bld T e) d
def ownR (ms : List Mask) (ds : List DV) : List SV := List.zipWith ownC ms ds

/-- The chunk that an owned value makes, and what points to it. -/
def openCh : Mask → DV → Option (Ch × (Nat → SV))
  | .sl e ms, .slice rows => some (.vec e ms.length (rows.map (ownR ms)), .vec)
  | .pt ms, .ptr cs => some (.box (ownR ms cs), fun id => .ref id 0)
  | .mp kk m, .map ks vs => some (.map kk (ks.zip (vs.map (ownC m))), .mp)
  | .bld T e, .str bs => some (.bld T e bs, fun id => .ref id 0)
  | _, _ => none

section
variable {w : World} {M : Nat → Prop} {κ : Nat → Value}

theorem ownC_iff {m : Mask} {d : DV} {u : Value} {F : List Nat} : RepG w M κ (ownC m d) u F ↔ RepO w M m d u F := by
  cases m with
  | sh => simp only [ownC, RepG, RepS, RepO]
  | _ => simp only [ownC, RepG]

theorem ownR_iff : ∀ {ms : List Mask} {ds : List DV} {us : List Value} {F : List Nat}, ds.length = ms.length → (RepGL w M κ (ownR ms ds) us F ↔ RepOL w M ms ds us F)
  | [], ds, us, F, h => by
    have : ds = [] := List.length_eq_zero_iff.1 h
    subst this
    simp [ownR, RepGL, RepOL]
  | m :: ms, [], us, F, h => by simp at h
  | m :: ms, d :: ds, us, F, h => by
    have ih := fun us F => ownR_iff (ms := ms) (ds := ds) (us := us) (F := F) (by simpa using h)
    unfold ownR at *
    simp only [List.zipWith_cons_cons, RepGL, RepOL]
    constructor
    · rintro ⟨u, us', F1, F2, rfl, rfl, h1, h2⟩
      exact ⟨d, ds, u, us', F1, F2, rfl, rfl, rfl, ownC_iff.1 h1, (ih us' F2).1 h2⟩
    · rintro ⟨d', ds', u, us', F1, F2, h0, rfl, rfl, h1, h2⟩
      simp only [List.cons.injEq] at h0
      obtain ⟨rfl, rfl⟩ := h0
      exact ⟨u, us', F1, F2, rfl, rfl, ownC_iff.2 h1, (ih us' F2).2 h2⟩

theorem ownR_length {ms : List Mask} {ds : List DV} (h : ds.length = ms.length) : (ownR ms ds).length = ms.length := by simp [ownR, h]

theorem ownRows_iff {ms : List Mask} : ∀ {rows : List (List DV)} {xs : List Value} {G : List Nat}, (∀ r ∈ rows, r.length = ms.length) → (RepGL w M κ (rows.map (ownR ms)).flatten xs G ↔ CellsBy (fun r ys G' => RepOL w M ms r ys G') rows xs G)
  | [], xs, G, _ => by simp [RepGL, CellsBy]
  | r :: rows, xs, G, h => by
    have hr := h r (by simp)
    have ih := fun xs G => ownRows_iff (rows := rows) (xs := xs) (G := G) (fun r hr => h r (by simp [hr]))
    simp only [List.map_cons, List.flatten_cons, CellsBy]
    constructor
    · intro hg
      obtain ⟨G1, G2, rfl, h1, h2⟩ := hg.split
      exact ⟨_, _, G1, G2, (List.take_append_drop _ _).symm, rfl, (ownR_iff hr).1 h1, (ih _ _).1 h2⟩
    · rintro ⟨ys, zs, G1, G2, rfl, rfl, h1, h2⟩
      exact ((ownR_iff hr).2 h1).append ((ih _ _).2 h2)

theorem ownMap_iff {kk : KK} {m : Mask} : ∀ {ks vs : List DV} {es : List MapEntry} {G : List Nat}, vs.length = ks.length → (RepMap w M κ kk (ks.zip (vs.map (ownC m))) es G ↔ MapBy (fun d v G' => RepO w M m d v G') kk ks vs es G)
  | [], vs, es, G, h => by
    have : vs = [] := List.length_eq_zero_iff.1 h
    subst this
    simp [RepMap, MapBy]
  | k :: ks, [], es, G, h => by simp at h
  | k :: ks, d :: vs, es, G, h => by
    have ih := fun es G => ownMap_iff (kk := kk) (m := m) (ks := ks) (vs := vs) (es := es) (G := G) (by simpa using h)
    simp only [List.map_cons, List.zip_cons_cons, RepMap, MapBy]
    constructor
    · rintro ⟨e, rest, F1, F2, rfl, rfl, h1, h2, h3, h4⟩
      exact ⟨d, vs, e, rest, F1, F2, rfl, rfl, rfl, h1, h2, ownC_iff.1 h3, (ih _ _).1 h4⟩
    · rintro ⟨d', vs', e, rest, F1, F2, h0, rfl, rfl, h1, h2, h3, h4⟩
      simp only [List.cons.injEq] at h0
      obtain ⟨rfl, rfl⟩ := h0
      exact ⟨e, rest, F1, F2, rfl, rfl, h1, h2, ownC_iff.2 h3, (ih _ _).2 h4⟩

theorem MapBy.len {R : DV → Value → List Nat → Prop} {kk : KK} : ∀ {ks vs : List DV} {es : List MapEntry} {G : List Nat}, MapBy R kk ks vs es G → vs.length = ks.length
  | [], vs, es, G, h => by simp [MapBy] at h; simp [h]
  | k :: ks, vs, es, G, h => by
    simp only [MapBy] at h
    obtain ⟨d, ds', e, es', G1, G2, rfl, _, _, _, _, _, h6⟩ := h
    simp [MapBy.len h6]
theorem RepOL.len : ∀ {ms : List Mask} {ds : List DV} {vs : List Value} {F : List Nat}, RepOL w M ms ds vs F → ds.length = ms.length
  | [], ds, vs, F, h => by simp [RepOL] at h; simp [h]
  | m :: ms, ds, vs, F, h => by
    simp only [RepOL] at h
    obtain ⟨d, ds', v, vs', F1, F2, rfl, _, _, _, h4⟩ := h
    simp [RepOL.len h4]

/-- The shape that goes with a mask. -/
def shapeOk : Mask → DV → Prop
  | .sl _ ms, .slice rows => ∀ r ∈ rows, r.length = ms.length
  | .pt ms, .ptr cs => cs.length = ms.length
  | .mp _ _, .map ks vs => vs.length = ks.length
  | _, _ => True

theorem open_iff {m : Mask} {d : DV} {u : Value} {F : List Nat} {id : Nat} {ch : Ch} {mk : Nat → SV} (hs : shapeOk m d) (h : openCh m d = some (ch, mk)) (hk : κ id = u) : RepC w M κ id ch F ↔ RepO w M m d u F := by
  subst hk
  unfold openCh at h
  split at h
  · rename_i e ms rows
    simp only [Option.some.injEq, Prod.mk.injEq] at h
    obtain ⟨rfl, rfl⟩ := h
    simp only [shapeOk] at hs
    simp only [RepC, RepO]
    constructor
    · rintro ⟨xs, G, h1, h2, h3, h4, rfl⟩
      exact ⟨rows, xs, G, rfl, by simpa using h1, h2, hs, (ownRows_iff hs).1 h4, rfl⟩
    · rintro ⟨rows', xs, G, h0, h1, h2, h3, h4, rfl⟩
      simp only [DV.slice.injEq] at h0; subst h0
      exact ⟨xs, G, by simpa using h1, h2, fun r hr => by
        obtain ⟨q, hq, rfl⟩ := List.mem_map.1 hr
        exact ownR_length (hs q hq), (ownRows_iff hs).2 h4, rfl⟩
  · rename_i ms cs
    simp only [Option.some.injEq, Prod.mk.injEq] at h
    obtain ⟨rfl, rfl⟩ := h
    simp only [shapeOk] at hs
    simp only [RepC, RepO]
    constructor
    · rintro ⟨b, T, vs, G, h1, h2, h3, h4, rfl⟩
      exact ⟨cs, b, T, vs, G, rfl, h1, h2, h3, (ownR_iff hs).1 h4, rfl⟩
    · rintro ⟨cs', b, T, vs, G, h0, h1, h2, h3, h4, rfl⟩
      simp only [DV.ptr.injEq] at h0; subst h0
      exact ⟨b, T, vs, G, h1, h2, h3, (ownR_iff hs).2 h4, rfl⟩
  · rename_i kk m ks vs
    simp only [Option.some.injEq, Prod.mk.injEq] at h
    obtain ⟨rfl, rfl⟩ := h
    simp only [shapeOk] at hs
    simp only [RepC, RepO]
    constructor
    · rintro ⟨r, es, clock, G, h1, h2, hB, h3, rfl⟩
      exact ⟨ks, vs, r, es, clock, G, rfl, h1, h2, hB, (ownMap_iff hs).1 h3, rfl⟩
    · rintro ⟨ks', vs', r, es, clock, G, h0, h1, h2, hB, h3, rfl⟩
      simp only [DV.map.injEq] at h0; obtain ⟨rfl, rfl⟩ := h0
      exact ⟨r, es, clock, G, h1, h2, hB, (ownMap_iff hs).2 h3, rfl⟩
  · rename_i T e bs
    simp only [Option.some.injEq, Prod.mk.injEq] at h
    obtain ⟨rfl, rfl⟩ := h
    simp only [RepC, RepO]
    constructor
    · exact fun h => ⟨bs, rfl, h⟩
    · rintro ⟨bs', h0, h1⟩
      simp only [DV.str.injEq] at h0; subst h0
      exact h1
  · cases h

theorem RepO.shape {m : Mask} {d : DV} {u : Value} {F : List Nat} (h : RepO w M m d u F) : shapeOk m d := by
  cases m with
  | sh => simp [shapeOk]
  | sl e ms =>
    simp only [RepO] at h
    obtain ⟨rows, xs, G, rfl, _, _, h3, _⟩ := h
    exact h3
  | pt ms =>
    simp only [RepO] at h
    obtain ⟨cs, b, T, vs, G, rfl, _, _, _, h4, _⟩ := h
    exact h4.len
  | mp kk m =>
    simp only [RepO] at h
    obtain ⟨ks, ds, r, es, clock, G, rfl, _, _, _, h4, _⟩ := h
    exact h4.len
  | bld T e => simp [shapeOk]

theorem open_one {m : Mask} {d : DV} {u : Value} {F : List Nat} {ch : Ch} {mk : Nat → SV} (h : RepO w M m d u F) (ho : openCh m d = some (ch, mk)) : u.oneCell' = true ∧ ∀ (κ : Nat → Value) (id : Nat), κ id = u → RepS w M κ (mk id) u := by
  unfold openCh at ho
  split at ho
  · simp only [Option.some.injEq, Prod.mk.injEq] at ho
    obtain ⟨rfl, rfl⟩ := ho
    simp only [RepO] at h
    obtain ⟨rows', xs, G, _, h1, _⟩ := h
    refine ⟨?_, fun κ id hk => by simp only [RepS]; exact hk.symm⟩
    rcases h1.2 with ⟨rfl, _⟩ | ⟨g, cap, cur, rfl, _⟩ <;> rfl
  · simp only [Option.some.injEq, Prod.mk.injEq] at ho
    obtain ⟨rfl, rfl⟩ := ho
    simp only [RepO] at h
    obtain ⟨cs', b, T, vs, G, _, rfl, _⟩ := h
    exact ⟨rfl, fun κ id hk => by simp only [RepS]; exact ⟨b, hk, rfl⟩⟩
  · simp only [Option.some.injEq, Prod.mk.injEq] at ho
    obtain ⟨rfl, rfl⟩ := ho
    simp only [RepO] at h
    obtain ⟨ks', vs', r, es, clock, G, _, rfl, _⟩ := h
    exact ⟨rfl, fun κ id hk => by simp only [RepS]; exact hk.symm⟩
  · simp only [Option.some.injEq, Prod.mk.injEq] at ho
    obtain ⟨rfl, rfl⟩ := ho
    simp only [RepO] at h
    obtain ⟨bs', _, b, p, u', rfl, _⟩ := h
    exact ⟨rfl, fun κ id hk => by simp only [RepS]; exact ⟨b, hk, rfl⟩⟩
  · cases ho
end

/-- A place within a chunk. -/
inductive Pt where
  | b (off : Nat)
  | v (i off : Nat)
  | m (k : DV)

def getP : Ch → Pt → Option SV
  | .box cs, .b off => cs[off]?
  | .vec _ _ rows, .v i off => match rows[i]? with | some r => r[off]? | none => none
  | .map _ kv, .m k => kvGet kv k
  | _, _ => none
def setP (x : SV) : Ch → Pt → Ch
  | .box cs, .b off => .box (cs.set off x)
  | .vec e sz rows, .v i off => match rows[i]? with | some r => .vec e sz (rows.set i (r.set off x)) | none => .vec e sz rows
  | .map kk kv, .m k => .map kk (kvSet kv k x)
  | c, _ => c

theorem repR_get (id : Nat) (dv : DV) : ∀ (xs : List (List SV)) (i : Nat), (repR id dv xs)[i]? = (xs[i]?).map (repL id dv)
  | [], i => by simp [repR]
  | x :: xs, 0 => by simp [repR]
  | x :: xs, i + 1 => by simp [repR, repR_get id dv xs i]
theorem repL_set (id : Nat) (dv : DV) (y : SV) : ∀ (xs : List SV) (i : Nat), (repL id dv xs).set i (repV id dv y) = repL id dv (xs.set i y)
  | [], i => by simp [repL]
  | x :: xs, 0 => by simp [repL]
  | x :: xs, i + 1 => by simp [repL, repL_set id dv y xs i]

section
variable {w : World} {M : Nat → Prop} {κ : Nat → Value}

theorem RepGL.focus {cs : List SV} {vs : List Value} {F : List Nat} {i : Nat} {x : SV} (h : RepGL w M κ cs vs F) (hx : cs[i]? = some x) :
    ∃ u F1 Fx F2, F = F1 ++ (Fx ++ F2) ∧ RepG w M κ x u Fx ∧ ∀ (M' : Nat → Prop) (κ' : Nat → Value) (id' : Nat) (dv : DV) (v : Value), Ext w M w M' → κ' = upd κ id' v → Rep w M' dv (κ id') → ∀ x' F', RepG w M' κ' x' u F' → RepGL w M' κ' ((repL id' dv cs).set i x') vs (F1 ++ (F' ++ F2)) := by
  have hlt := (List.getElem?_eq_some_iff.1 hx).1
  have hc : cs = cs.take i ++ (x :: cs.drop (i + 1)) := by
    conv => lhs; rw [← List.take_append_drop i cs, List.drop_eq_getElem_cons hlt, (List.getElem?_eq_some_iff.1 hx).2]
  have hl := h.length
  rw [hc] at h
  obtain ⟨F1, F', rfl, h1, h2⟩ := h.split
  unfold RepGL at h2
  obtain ⟨u, us, Fx, F2, hv, rfl, h3, h4⟩ := h2
  refine ⟨u, F1, Fx, F2, rfl, h3, fun M' κ' id' dv v hext hκ hd x' F' hx' => ?_⟩
  subst hκ
  have e1 : (repL id' dv cs).set i x' = repL id' dv (cs.take i) ++ (x' :: repL id' dv (cs.drop (i + 1))) := by
    have hlen : (repL id' dv (cs.take i)).length = i := by rw [repL_length, List.length_take]; omega
    conv => lhs; rw [hc]
    rw [repL_append, repL, List.set_append_right _ _ (by omega)]
    simp [hlen]
  rw [e1]
  have e2 : vs = vs.take (cs.take i).length ++ (u :: us) := by rw [← hv, List.take_append_drop]
  rw [e2]
  refine (repLG hext hd _ _ _ (fun _ _ => rfl) h1).append ?_
  unfold RepGL
  exact ⟨u, us, F', F2, rfl, rfl, hx', repLG hext hd _ _ _ (fun _ _ => rfl) h4⟩

theorem RepMap.focus {kk : KK} {k : DV} {x : SV} : ∀ {kv : List (DV × SV)} {es : List MapEntry} {F : List Nat}, RepMap w M κ kk kv es F → kvGet kv k = some x →
    ∃ u F1 Fx F2, F = F1 ++ (Fx ++ F2) ∧ RepG w M κ x u Fx ∧ ∀ (M' : Nat → Prop) (κ' : Nat → Value) (id' : Nat) (dv : DV) (v : Value), Ext w M w M' → κ' = upd κ id' v → Rep w M' dv (κ id') → ∀ x' F', RepG w M' κ' x' u F' → RepMap w M' κ' kk (kvSet (repK id' dv kv) k x') es (F1 ++ (F' ++ F2))
  | [], es, F, h, hg => by simp [kvGet] at hg
  | (k', y) :: kv, es, F, h, hg => by
    unfold RepMap at h
    obtain ⟨e, rest, Fa, Fb, rfl, rfl, h1, h2, h3, h4⟩ := h
    simp only [kvGet] at hg
    split at hg
    · rename_i heq
      simp only [Option.some.injEq] at hg; subst hg
      have hkey : keyVal k = keyVal k' ∧ kk.fits k = kk.fits k' := by
        cases k <;> cases k' <;> simp_all [keyEq, keyVal]
      refine ⟨e.val, [], Fa, Fb, rfl, h3, fun M' κ' id' dv v hext hκ hd x' F' hx' => ?_⟩
      subst hκ
      simp only [repK, kvSet, heq, if_true, List.nil_append]
      unfold RepMap
      exact ⟨e, rest, F', Fb, rfl, rfl, by rw [hkey.2]; exact h1, by rw [hkey.1]; exact h2, hx', repK_rep hext hd _ _ _ (fun _ _ => rfl) h4⟩
    · rename_i hne
      simp only [Bool.not_eq_true] at hne
      obtain ⟨u, F1, Fx, F2, rfl, k1, k2⟩ := RepMap.focus h4 hg
      refine ⟨u, Fa ++ F1, Fx, F2, by simp, k1, fun M' κ' id' dv v hext hκ hd x' F' hx' => ?_⟩
      have := k2 M' κ' id' dv v hext hκ hd x' F' hx'
      subst hκ
      simp only [repK, kvSet, hne, Bool.false_eq_true, if_false]
      unfold RepMap
      exact ⟨e, rest, Fa, F1 ++ (F' ++ F2), rfl, by simp, h1, h2, repVG hext hd _ _ _ (fun _ _ => rfl) h3, this⟩

theorem flatten_set {α : Type} {sz : Nat} {x : α} : ∀ {rows : List (List α)} {i off : Nat} {r : List α}, (∀ q ∈ rows, q.length = sz) → rows[i]? = some r → off < r.length → (rows.set i (r.set off x)).flatten = rows.flatten.set (i * sz + off) x
  | [], i, off, r, _, h, _ => by simp at h
  | q :: rows, 0, off, r, hall, h, hlt => by
    simp at h; subst h
    simp only [List.set_cons_zero, List.flatten_cons, Nat.zero_mul, Nat.zero_add]
    rw [List.set_append_left _ _ hlt]
  | q :: rows, i + 1, off, r, hall, h, hlt => by
    have hq := hall q (by simp)
    simp only [List.set_cons_succ, List.flatten_cons]
    rw [flatten_set (fun q hq => hall q (by simp [hq])) (by simpa using h) hlt, List.set_append_right _ _ (by rw [Nat.add_mul]; omega)]
    congr 2
    rw [Nat.add_mul]; omega

theorem flatten_get {α : Type} {sz : Nat} : ∀ {rows : List (List α)} {i off : Nat} {r : List α} {x : α}, (∀ q ∈ rows, q.length = sz) → rows[i]? = some r → r[off]? = some x → rows.flatten[i * sz + off]? = some x
  | [], i, off, r, x, _, h, _ => by simp at h
  | q :: rows, 0, off, r, x, hall, h, hx => by
    simp at h; subst h
    rw [List.flatten_cons, Nat.zero_mul, Nat.zero_add, List.getElem?_append_left (List.getElem?_eq_some_iff.1 hx).1]; exact hx
  | q :: rows, i + 1, off, r, x, hall, h, hx => by
    have hq := hall q (by simp)
    rw [List.flatten_cons, List.getElem?_append_right (by rw [Nat.add_mul]; omega)]
    rw [show (i + 1) * sz + off - q.length = i * sz + off by rw [Nat.add_mul]; omega]
    exact flatten_get (fun q hq => hall q (by simp [hq])) (by simpa using h) hx

theorem RepC.focus {id : Nat} {ch : Ch} {F : List Nat} {p : Pt} {x : SV} (h : RepC w M κ id ch F) (hx : getP ch p = some x) :
    ∃ u F1 Fx F2, F = F1 ++ (Fx ++ F2) ∧ RepG w M κ x u Fx ∧ ∀ (M' : Nat → Prop) (κ' : Nat → Value) (id' : Nat) (dv : DV) (v : Value), id ≠ id' → Ext w M w M' → κ' = upd κ id' v → Rep w M' dv (κ id') → ∀ x' F', RepG w M' κ' x' u F' → RepC w M' κ' id (setP x' (repC id' dv ch) p) (F1 ++ (F' ++ F2)) := by
  cases ch with
  | dead => simp [getP] at hx
  | box cs =>
    cases p with
    | b off =>
      simp only [getP] at hx
      obtain ⟨b, T, vs, G, h1, h2, h3, h4, rfl⟩ := h
      obtain ⟨u, F1, Fx, F2, rfl, k1, k2⟩ := h4.focus hx
      refine ⟨u, b :: F1, Fx, F2, rfl, k1, fun M' κ' id' dv v hne hext hκ hd x' F' hx' => ?_⟩
      have := k2 M' κ' id' dv v hext hκ hd x' F' hx'
      exact ⟨b, T, vs, _, by rw [hκ, upd_ne _ _ _ _ hne]; exact h1, h2, h3, this, rfl⟩
    | v i off => simp [getP] at hx
    | m k => simp [getP] at hx
  | vec e sz rows =>
    cases p with
    | v i off =>
      simp only [getP] at hx
      split at hx
      · rename_i r hr
        obtain ⟨xs, G, h1, h2, h3, h4, rfl⟩ := h
        obtain ⟨u, F1, Fx, F2, rfl, k1, k2⟩ := h4.focus (flatten_get h3 hr hx)
        refine ⟨u, blkL (κ id) ++ F1, Fx, F2, by simp, k1, fun M' κ' id' dv v hne hext hκ hd x' F' hx' => ?_⟩
        have := k2 M' κ' id' dv v hext hκ hd x' F' hx'
        have hkj : κ' id = κ id := by rw [hκ, upd_ne _ _ _ _ hne]
        have hr' : (repR id' dv rows)[i]? = some (repL id' dv r) := by rw [repR_get, hr]; rfl
        have hall' := repR_all id' dv sz rows h3
        simp only [repC, setP, hr']
        refine ⟨xs, F1 ++ (F' ++ F2), by rw [hkj, List.length_set, repR_length]; exact h1, h2, fun q hq => ?_, ?_, by rw [hkj]; simp⟩
        · rcases List.mem_or_eq_of_mem_set hq with h | h
          · exact hall' q h
          · subst h; rw [List.length_set, repL_length]; exact h3 r (List.mem_of_getElem? hr)
        · rw [flatten_set hall' hr' (by rw [repL_length]; exact (List.getElem?_eq_some_iff.1 hx).1), repR_flatten]
          exact this
      · cases hx
    | b off => simp [getP] at hx
    | m k => simp [getP] at hx
  | map kk kv =>
    cases p with
    | m k =>
      simp only [getP] at hx
      obtain ⟨r, es, clock, G, h1, h2, hB, h3, rfl⟩ := h
      obtain ⟨u, F1, Fx, F2, rfl, k1, k2⟩ := h3.focus hx
      refine ⟨u, r :: F1, Fx, F2, rfl, k1, fun M' κ' id' dv v hne hext hκ hd x' F' hx' => ?_⟩
      have := k2 M' κ' id' dv v hext hκ hd x' F' hx'
      exact ⟨r, es, clock, _, by rw [hκ, upd_ne _ _ _ _ hne]; exact h1, h2, hB, this, rfl⟩
    | b off => simp [getP] at hx
    | v i off => simp [getP] at hx
  | bld T e bs => cases p <;> simp [getP] at hx
end

/-- The owned value at a place becomes chunk id'. -/
def openSt (σ : St) (id : Nat) (p : Pt) (id' : Nat) : Option St :=
  match getP (σ.h id) p with
  | some (.own m d) => match openCh m d with
    | some (ch, mk) => some ⟨repS id' .any σ.s, upd (upd (repH id' .any σ.h) id (setP (mk id') (repC id' .any (σ.h id)) p)) id' ch⟩
    | none => none
  | _ => none

/-- Chunk id' goes back to a place. -/
def closeSt (σ : St) (id : Nat) (p : Pt) (id' : Nat) (m : Mask) (d : DV) : St :=
  ⟨repS id' .any σ.s, upd (upd (repH id' .any σ.h) id (setP (.own m d) (repC id' .any (σ.h id)) p)) id' .dead⟩

section
variable {c : Cx} {σ : St} {κ : Nat → Value} {φ : Nat → List Nat} {a : Act} {w : World}

theorem Ref.openAt (hr : Ref c σ κ φ a w) {id id' : Nat} {p : Pt} {σ' : St} (hne : id ≠ id') (h : openSt σ id p id' = some σ') : ∃ κ' φ', Ref c σ' κ' φ' a w := by
  unfold openSt at h
  split at h
  · rename_i m d hg
    split at h
    · rename_i ch mk ho
      simp only [Option.some.injEq] at h; subst h
      obtain ⟨u, F1, Fx, F2, hφ, hx, hset⟩ := (hr.chunks id).focus hg
      simp only [RepG] at hx
      obtain ⟨hone, hmk⟩ := open_one hx ho
      have hnod := hr.nod id
      rw [hφ] at hnod
      obtain ⟨n1, n2, n3⟩ := List.nodup_append.1 hnod
      obtain ⟨n4, n5, n6⟩ := List.nodup_append.1 n2
      refine ⟨upd κ id' u, _, hr.two (G := F1 ++ ([] ++ F2)) (G' := Fx) hne hone ?_ ?_ ?_ n4 ?_ (by unfold Rep; trivial) (fun hext => ?_) (fun hext => ?_)⟩
      · intro b hb; left; rw [hφ]; simp at hb ⊢; rcases hb with h | h <;> simp [h]
      · intro b hb; left; rw [hφ]; simp [hb]
      · simp only [List.nil_append]
        exact List.nodup_append.2 ⟨n1, n5, fun x hx y hy => n3 x hx y (by simp [hy])⟩
      · intro b hb hbx
        simp at hb
        rcases hb with h | h
        · exact n3 b h b (by simp [hbx]) rfl
        · exact n6 b hbx b h rfl
      · exact hset _ _ id' .any u hne hext rfl (by unfold Rep; trivial) (mk id') [] (RepG.of_S _ _ ((hmk (upd κ id' u) id' (by rw [upd_same])).ext hext))
      · exact (open_iff hx.shape ho (by rw [upd_same])).2 (RepO.ext hext _ _ _ _ (fun _ _ => rfl) hx)
    · cases h
  · cases h

theorem mk_val {m : Mask} {d : DV} {ch : Ch} {mk : Nat → SV} {M : Nat → Prop} {id : Nat} {u : Value} {F : List Nat} (ho : openCh m d = some (ch, mk)) (hs : RepG w M κ (mk id) u F) (hc : RepC w M κ id ch (φ id)) : κ id = u ∧ F = [] := by
  unfold openCh at ho
  split at ho
  · simp only [Option.some.injEq, Prod.mk.injEq] at ho
    obtain ⟨rfl, rfl⟩ := ho
    simp only [RepG, RepS] at hs
    exact ⟨hs.2.symm, hs.1⟩
  · simp only [Option.some.injEq, Prod.mk.injEq] at ho
    obtain ⟨rfl, rfl⟩ := ho
    simp only [RepG, RepS] at hs
    obtain ⟨rfl, b, h1, h2⟩ := hs
    exact ⟨h1.trans h2.symm, rfl⟩
  · simp only [Option.some.injEq, Prod.mk.injEq] at ho
    obtain ⟨rfl, rfl⟩ := ho
    simp only [RepG, RepS] at hs
    exact ⟨hs.2.symm, hs.1⟩
  · simp only [Option.some.injEq, Prod.mk.injEq] at ho
    obtain ⟨rfl, rfl⟩ := ho
    simp only [RepG, RepS] at hs
    obtain ⟨rfl, b, h1, h2⟩ := hs
    exact ⟨h1.trans h2.symm, rfl⟩
  · cases ho

theorem Ref.closeAt (hr : Ref c σ κ φ a w) {id id' : Nat} {p : Pt} {m : Mask} {d : DV} {ch : Ch} {mk : Nat → SV} (hne : id ≠ id') (ho : openCh m d = some (ch, mk)) (hsh : shapeOk m d) (hg : getP (σ.h id) p = some (mk id')) (hh : σ.h id' = ch) : ∃ κ' φ', Ref c (closeSt σ id p id' m d) κ' φ' a w := by
  obtain ⟨u, F1, Fx, F2, hφ, hx, hset⟩ := (hr.chunks id).focus hg
  have hch := hr.chunks id'
  rw [hh] at hch
  obtain ⟨hku, rfl⟩ := mk_val (φ := φ) ho hx hch
  have hO := (open_iff hsh ho hku).1 hch
  have hnod := hr.nod id
  rw [hφ] at hnod
  simp only [List.nil_append] at hφ hnod
  obtain ⟨n1, n2, n3⟩ := List.nodup_append.1 hnod
  have hsep : ∀ b, b ∈ φ id' → b ∉ F1 ∧ b ∉ F2 := fun b hb => ⟨fun h => hr.sep id id' b hne (by rw [hφ]; simp [h]) hb, fun h => hr.sep id id' b hne (by rw [hφ]; simp [h]) hb⟩
  unfold closeSt
  refine ⟨upd κ id' (.pointer none), _, hr.two (G := F1 ++ (φ id' ++ F2)) (G' := []) hne rfl ?_ (by simp) ?_ (by simp) (by simp) (by unfold Rep; trivial) (fun hext => ?_) (fun hext => rfl)⟩
  · intro b hb
    simp at hb
    rcases hb with h | h | h
    · left; rw [hφ]; simp [h]
    · exact .inr h
    · left; rw [hφ]; simp [h]
  · refine List.nodup_append.2 ⟨n1, List.nodup_append.2 ⟨hr.nod id', n2, fun x hx y hy e => (hsep x hx).2 (e ▸ hy)⟩, fun x hx y hy e => ?_⟩
    subst e
    rcases List.mem_append.1 hy with h | h
    · exact (hsep x h).1 hx
    · exact n3 x hx x h rfl
  · refine hset _ _ id' .any (.pointer none) hne hext rfl (by unfold Rep; trivial) (.own m d) (φ id') ?_
    simp only [RepG]
    exact RepO.ext hext _ _ _ _ (fun _ _ => rfl) hO
end

end Go.Proofs.YtcnohbiegjahkaaGreatDoor

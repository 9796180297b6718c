/-
  The engine, part Rp: slices and maps that are lent to a function, at its first or second place.
-/
import Derived.Test.YtcnohbiegjahkaaGreatDoorSXEngRo
namespace Go.Proofs.YtcnohbiegjahkaaGreatDoor
set_option linter.unusedSimpArgs false
set_option linter.unusedVariables false
open Go.RowKit

/-- The slots at the beginning: these, and once more behind all slots. -/
def iniX (N : Nat) (l : List SV) : Nat → SV := fun j => if j < N then (match l[j]? with | some x => x | none => .d .any) else match l[j - N]? with | some x => x | none => .d .any
theorem lent_get {pre post : List DV} {x : SV} (j : Nat) : (pre.map SV.d ++ x :: post.map SV.d)[j]? = if j = pre.length then some x else if j < pre.length then (pre[j]?).map SV.d else (post[j - pre.length - 1]?).map SV.d := by
  by_cases h : j = pre.length
  · subst h
    rw [if_pos rfl, List.getElem?_append_right (by simp)]
    simp
  · rw [if_neg h]
    by_cases h2 : j < pre.length
    · rw [if_pos h2, List.getElem?_append_left (by simpa using h2), List.getElem?_map]
    · rw [if_neg h2, List.getElem?_append_right (by simp; omega)]
      obtain ⟨i, hi⟩ : ∃ i, j - (pre.map SV.d).length = i + 1 := ⟨j - pre.length - 1, by simp; omega⟩
      rw [hi, List.getElem?_cons_succ, List.getElem?_map]
      have : j - pre.length - 1 = i := by simp at hi; omega
      rw [this]
theorem fspec_walkG {P : Program} {f N k : Nat} {fn : Func} {x : SC} {qs : List RV} {m : Mask} {d : DV} {ch : Ch} {mk : Nat → SV} {pre post : List DV} {res : SV} {outs : List SV} (hf : P.funcs[f]? = some fn) (hfit : fits P f fn x qs k = true) (hN : fn.ntmps = N) (hk : pre.length + post.length + 1 = k) (ho : openCh m d = some (ch, mk)) (hol : outs.length = k)
    (h : AW P x (endF N k qs res outs) ⟨iniX N (pre.map .d ++ mk pre.length :: post.map .d), upd (fun _ => .dead) pre.length ch⟩) : FSpec P f (pre.map .d ++ .own m d :: post.map .d) res outs := by
  subst hN hk
  have hlen : (pre.map SV.d ++ SV.own m d :: post.map SV.d).length = pre.length + post.length + 1 := by simp; omega
  refine fspec_walk (x := x) (qs := qs) hf (by rw [hlen]; exact hfit) ?_ (by rw [hlen]; exact hol) ?_
  · rw [List.all_eq_true]
    intro y hy
    rcases List.mem_append.1 hy with hy | hy
    · obtain ⟨d, _, rfl⟩ := List.mem_map.1 hy; rfl
    · rcases List.mem_cons.1 hy with rfl | hy
      · simp only [argOk, ho, Option.isSome_some]
      · obtain ⟨d, _, rfl⟩ := List.mem_map.1 hy; rfl
  · rw [hlen]
    have hv : ∀ i, iniV i (.own m d) = mk i := fun i => by simp only [iniV, ho]
    have hx : ∀ j, (match (pre.map SV.d ++ SV.own m d :: post.map SV.d)[j]? with | some x => iniV j x | none => SV.d .any) = (match (pre.map SV.d ++ mk pre.length :: post.map SV.d)[j]? with | some x => x | none => SV.d .any) := fun j => by
      rw [lent_get, lent_get]
      by_cases h1 : j = pre.length
      · subst h1; simp only [if_true, hv]
      · rw [if_neg h1, if_neg h1]
        by_cases h2 : j < pre.length
        · rw [if_pos h2]; cases pre[j]? <;> rfl
        · rw [if_neg h2]; cases post[j - pre.length - 1]? <;> rfl
    have e1 : iniS fn.ntmps (pre.map SV.d ++ SV.own m d :: post.map SV.d) = iniX fn.ntmps (pre.map .d ++ mk pre.length :: post.map .d) := by
      funext j
      unfold iniS iniX
      by_cases hlt : j < fn.ntmps
      · simp only [hlt, if_true]; exact hx j
      · simp only [hlt, if_false]; exact hx (j - fn.ntmps)
    have e2 : iniH (pre.map SV.d ++ SV.own m d :: post.map SV.d) = upd (fun _ => .dead) pre.length ch := by
      funext j
      unfold iniH upd
      rw [lent_get]
      by_cases h1 : j = pre.length
      · rw [if_pos h1, if_pos h1]
        simp only [iniC, ho]
      · rw [if_neg h1, if_neg h1]
        by_cases h2 : j < pre.length
        · rw [if_pos h2]; cases pre[j]? <;> rfl
        · rw [if_neg h2]; cases post[j - pre.length - 1]? <;> rfl
    rw [e1, e2]; exact h
/-- The same, told slot by slot. -/
def iniL0 (N : Nat) (c : SV) (as : List DV) : Nat → SV := fun j => if j = 0 then c else if j < N then (match as[j - 1]? with | some d => .d d | none => .d .any) else if j = N then c else match as[j - N - 1]? with | some d => .d d | none => .d .any
def iniL1 (N : Nat) (a : DV) (c : SV) (as : List DV) : Nat → SV := fun j => if j = 0 then .d a else if j = 1 then c else if j < N then (match as[j - 2]? with | some d => .d d | none => .d .any) else if j = N then .d a else if j = N + 1 then c else match as[j - N - 2]? with | some d => .d d | none => .d .any
theorem iniX_0 {N : Nat} {c : SV} {as : List DV} (hN : 0 < N) : iniX N (c :: as.map .d) = iniL0 N c as := by
  funext j
  unfold iniX iniL0
  by_cases h0 : j = 0
  · subst h0; simp [hN]
  · obtain ⟨i, rfl⟩ : ∃ i, j = i + 1 := ⟨j - 1, by omega⟩
    by_cases hlt : i + 1 < N
    · simp only [hlt, if_true, List.getElem?_cons_succ, List.getElem?_map, Nat.add_sub_cancel]
      rw [if_neg (by omega)]
      cases as[i]? <;> rfl
    · simp only [hlt, if_false]
      rw [if_neg (by omega)]
      by_cases he : i + 1 = N
      · simp only [he, if_true, Nat.sub_self, List.getElem?_cons_zero]
      · obtain ⟨q, hq⟩ : ∃ q, i + 1 - N = q + 1 := ⟨i + 1 - N - 1, by omega⟩
        simp only [he, if_false, hq, List.getElem?_cons_succ, List.getElem?_map, Nat.add_sub_cancel]
        cases as[q]? <;> rfl
theorem fspec_walkL0 {P : Program} {f N k : Nat} {fn : Func} {x : SC} {qs : List RV} {m : Mask} {d : DV} {ch : Ch} {mk : Nat → SV} {post : List DV} {res : SV} {outs : List SV} (hf : P.funcs[f]? = some fn) (hfit : fits P f fn x qs k = true) (hN : fn.ntmps = N) (hk : post.length + 1 = k) (ho : openCh m d = some (ch, mk)) (hol : outs.length = k) (hpos : 0 < N)
    (h : AW P x (endF N k qs res outs) ⟨iniL0 N (mk 0) post, upd (fun _ => .dead) 0 ch⟩) : FSpec P f (.own m d :: post.map .d) res outs := by
  rw [← iniX_0 hpos] at h
  exact fspec_walkG (pre := []) hf hfit hN (by simpa using hk) ho hol h
/-! ### Slices and maps of data -/
section
variable {α K V : Type} {row : α → List DV} {n e : Nat} {ke : K → DV} {f : V → DV} {kk : KK}
theorem open_sl (hsz : ∀ a, (row a).length = n) (l : List α) : openCh (.sl e (List.replicate n .sh)) (.slice (l.map row)) = some (.vec e n (vrow row l), .vec) := by
  simp only [openCh, List.length_replicate, ownR_sh hsz]
theorem shape_sl (hsz : ∀ a, (row a).length = n) (l : List α) : shapeOk (.sl e (List.replicate n .sh)) (.slice (l.map row)) := by
  intro r hr
  obtain ⟨a, _, rfl⟩ := List.mem_map.1 hr
  rw [List.length_replicate]; exact hsz a
/-- A map as data. -/
def dvM (ke : K → DV) (f : V → DV) (W : List (K × V)) : DV := .map (W.map fun p => ke p.1) (W.map fun p => f p.2)
theorem open_mp (W : List (K × V)) : openCh (.mp kk .sh) (dvM ke f W) = some (.map kk (encM ke (fun v => .d (f v)) W), .mp) := by
  have : ∀ W : List (K × V), (W.map fun p => ke p.1).zip ((W.map fun p => f p.2).map (ownC .sh)) = encM ke (fun v => .d (f v)) W := fun W => by
    induction W with
    | nil => rfl
    | cons p W ih =>
      simp only [List.map_cons, List.zip_cons_cons, ih]
      rfl
  unfold dvM
  simp only [openCh, this]
theorem shape_mp (W : List (K × V)) : shapeOk (.mp kk .sh) (dvM ke f W) := by
  unfold dvM shapeOk
  simp
end
section
variable {P : Program} {s : Nat → SV} {h : Nat → Ch} {Kk : St → Prop} {sos : List SO} {α K V Y R : Type} {row : α → List DV} {ke : K → DV} {fv : V → DV} {kk : KK} {σ : St} {g0 : SV} {d0 : DV}
theorem hand_atM {h : Nat → Ch} {g1 g2 : List SV} {a1 a2 : List DV} {id : Nat} {m : Mask} {d d' : DV} {ch ch' : Ch} {mk mk' : Nat → SV} (h1 : SV.toDVs g1 = some a1) (h2 : SV.toDVs g2 = some a2) (ho : openCh m d = some (ch, mk)) (hs : shapeOk m d) (ho' : openCh m d' = some (ch', mk')) (hh : h id = ch) :
    HandL h (g1 ++ mk id :: g2) (a1.map .d ++ .own m d :: a2.map .d) (a1.map .d ++ .own m d' :: a2.map .d) [(id, ch')] := by
  induction g1 generalizing a1 with
  | nil =>
    simp only [SV.toDVs, Option.some.injEq] at h1; subst h1
    exact .ptr ho hs ho' hh (by simp) (hand_data h2)
  | cons g g1 ih =>
    unfold SV.toDVs at h1
    split at h1
    · rename_i d0 ds' h3 h4
      simp only [Option.some.injEq] at h1; subst h1
      exact .data h3 (ih h4)
    · cases h1
/-- A call to which something is lent. -/
theorem O_pL {r : R} {a : Option Y} {k : Y → Option R} {dst : Option Nat} {f id : Nat} {args : List SX} {g1 g2 : List SV} {a1 a2 : List DV} {m : Mask} {d : DV} {D : Y → DV} {ch : Ch} {C : Y → Ch} {mk : Nat → SV} {E : Y → SV} {ins outs : Y → List SV} {s' : Y → Nat → SV}
    (hm : a.bind k = some r) (hx : args.map (ev s) = g1 ++ mk id :: g2) (h1 : SV.toDVs g1 = some a1) (h2 : SV.toDVs g2 = some a2) (hh : h id = ch) (ho : openCh m d = some (ch, mk)) (hsh : shapeOk m d) (ho' : ∀ y, openCh m (D y) = some (C y, mk))
    (hs : ∀ y, a = some y → FSpec P f (ins y) (E y) (outs y)) (hi : ∀ y, ins y = a1.map .d ++ .own m d :: a2.map .d) (hou : ∀ y, outs y = a1.map .d ++ .own m (D y) :: a2.map .d) (henc : ∀ y, (E y).closed = true ∧ (E y).nOwn = 0)
    (hd : ∀ y, s' y = match dst with | some t => upd s t (E y) | none => s) (hk : ∀ y, k y = some r → AOps P Kk sos ⟨s' y, upd h id (C y)⟩) : AOps P Kk (.p dst (.f f) args :: sos) ⟨s, h⟩ := by
  cases hy : a with
  | none => rw [hy] at hm; cases hm
  | some y =>
    rw [hy] at hm
    obtain ⟨c1, c2⟩ := henc y
    refine O_p (σ1 := ⟨s, h⟩) (L := [(id, C y)]) (Imp.refl _) (hs y hy) c1 ?_ (s' := s' y) (h' := upd h id (C y)) ?_ (hk y hm)
    · have e1 : args.map (ev (St.s ⟨s, h⟩)) = g1 ++ mk id :: g2 := hx
      rw [e1, hi y, hou y]
      exact hand_atM h1 h2 ho hsh (ho' y) hh
    · rw [hd y]
      cases dst <;> simp only [takes, c2, if_true, updL]
theorem O_pLs0 {r : R} {a : Option Y} {k : Y → Option R} {dst f id e n : Nat} {args : List SX} {gs : List SV} {as0 as : List DV} {l : List α} {l' : Y → List α} {E : Y → SV} (hm : a.bind k = some r)  (hx : args.map (ev s) =  .vec id :: gs) (hgs : SV.toDVs gs = some as0) (hh : h id = .vec e n (vrow row l)) (hsz : ∀ a, (row a).length = n)
    (hs : ∀ y, a = some y → FSpec P f ( .own (.sl e (List.replicate n .sh)) (.slice (l.map row)) :: as.map .d) (E y) ( .own (.sl e (List.replicate n .sh)) (.slice ((l' y).map row)) :: as.map .d)) (he : as0 = as) (henc : ∀ y, (E y).closed = true ∧ (E y).nOwn = 0)
    (hk : ∀ y, k y = some r → AOps P Kk sos ⟨upd s dst (E y), upd h id (.vec e n (vrow row (l' y)))⟩) : AOps P Kk (.p (some dst) (.f f) args :: sos) ⟨s, h⟩ := by
  subst he
  exact O_pL (mk := .vec) (g1 := []) (a1 := []) (m := .sl e (List.replicate n .sh)) (C := fun y => .vec e n (vrow row (l' y))) (D := fun y => .slice ((l' y).map row)) (ins := fun _ => _) (outs := fun y => _) (s' := fun y => upd s dst (E y)) hm hx (rfl) hgs hh (open_sl hsz l) (shape_sl hsz l) (fun y => open_sl hsz (l' y)) hs (fun _ => rfl) (fun _ => rfl) henc (fun _ => rfl) hk
theorem rok_at {h : Nat → Ch} {g1 g2 xs : List SV} {a1 a2 ds : List DV} {id : Nat} {m : Mask} {d : DV} {ch : Ch} {mk : Nat → SV} (h1 : SV.toDVs g1 = some a1) (h2 : SV.toDVs g2 = some a2) (h3 : SV.toDVs xs = some ds) (ho : openCh m d = some (ch, mk)) (hs : shapeOk m d) (hh : h id = ch) :
    ROkL h ((g1 ++ mk id :: g2) ++ xs) ((a1.map .d ++ .own m d :: a2.map .d) ++ ds.map .d) [id] := by
  induction g1 generalizing a1 with
  | nil =>
    simp only [SV.toDVs, Option.some.injEq] at h1; subst h1
    exact .own ho hs hh (by simp) (rok_all (rok_data h3) h2)
  | cons g g1 ih =>
    unfold SV.toDVs at h1
    split at h1
    · rename_i d0 ds' h4 h5
      simp only [Option.some.injEq] at h1; subst h1
      exact .data h4 (ih h5)
    · cases h1
theorem ghosts_h {N : Nat} {s1 : Nat → SV} {h1 h2 : Nat → Ch} : ∀ n, ghosts N ⟨s1, h1⟩ n = ghosts N ⟨s1, h2⟩ n
  | 0 => rfl
  | n + 1 => by
    show ghosts N ⟨s1, h1⟩ n ++ [s1 (N + n)] = ghosts N ⟨s1, h2⟩ n ++ [s1 (N + n)]
    rw [ghosts_h (h1 := h1) (h2 := h2) n]
theorem toDVs_len : ∀ {xs : List SV} {ds : List DV}, SV.toDVs xs = some ds → ds.length = xs.length
  | [], ds, hd => by simp only [SV.toDVs, Option.some.injEq] at hd; subst hd; rfl
  | x :: xs, ds, hd => by
    unfold SV.toDVs at hd
    split at hd
    · rename_i d ds' h1 h2
      simp only [Option.some.injEq] at hd; subst hd
      simp [toDVs_len h2]
    · cases hd
theorem K_endLs0 {A : Type} {r : A × List α} {a : A} {l : List α} {N k n e : Nat} {qs : List RV} {E : A × List α → SV} {as ds : List DV} {gs xs : List SV} {rows : List (List SV)} {s1 : Nat → SV} {h1 : Nat → Ch} (hm : some (a, l) = some r) (hcl : Imp σ ⟨s1, h1⟩) (hh : h1 0 = .vec e n rows) (hr : rowsle rows (vrow row l)) (hsz : ∀ a, (row a).length = n)
    (hg : ghosts N ⟨s1, h1⟩ k =  .vec 0 :: gs)  (hgs : SV.toDVs gs = some as) (hq : svL ⟨s1, upd h1 0 (.vec e n (vrow row l))⟩ qs = some xs) (hxs : SV.toDVs xs = some ds) (he : E (a, l) = resSV (ds.map .d)) : endF N k qs (E r) ( .own (.sl e (List.replicate n .sh)) (.slice (r.2.map row)) :: as.map .d) .ret σ := by
  cases hm
  have h2 : Imp ⟨s1, h1⟩ ⟨s1, upd h1 0 (.vec e n (vrow row l))⟩ := imp_le (fun _ => .inl rfl) fun j => by
    by_cases hj : j = 0
    · subst hj; simp only [upd, if_true, hh]; exact chle_vec hr
    · simp only [upd, hj, if_false]; exact chle_rfl rfl
  refine ⟨_, Imp.trans hcl h2, xs, ds.map .d, [0], hq, he, by rw [List.length_map, toDVs_len hxs], ?_⟩
  rw [ghosts_h (h2 := h1), hg]
  exact rok_at (g1 := []) (a1 := []) (mk := .vec) (rfl) hgs hxs (open_sl hsz l) (shape_sl hsz l) (by simp only [upd, if_true])
theorem K_endLs0N {A : Type} {r : A × List α} {a : A} {l : List α} {N k n e : Nat} {qs : List RV} {E : A × List α → SV} {as ds : List DV} {gs xs : List SV} {rows : List (List SV)} {s1 : Nat → SV} {h1 : Nat → Ch} (hm : some (a, l) = some r) (hcl : Imp σ ⟨s1, h1⟩) (hh : h1 0 = .vec e n rows) (hr : rowsle rows (vrow row l)) (hsz : ∀ a, (row a).length = n)
    (hg : ghosts N ⟨s1, h1⟩ k =  .vec 0 :: gs)  (hgs : SV.toDVs gs = some as) (hq : svL ⟨s1, upd h1 0 (.vec e n (vrow row l))⟩ qs = some xs) (hxs : SV.toDVs xs = some ds) (he : E (a, l) = resSV (ds.map .d)) : endF N k qs (E r) ( .own (.sl e (List.replicate n .sh)) (.slice (r.2.map row)) :: as.map .d) .normal σ := by
  cases hm
  have h2 : Imp ⟨s1, h1⟩ ⟨s1, upd h1 0 (.vec e n (vrow row l))⟩ := imp_le (fun _ => .inl rfl) fun j => by
    by_cases hj : j = 0
    · subst hj; simp only [upd, if_true, hh]; exact chle_vec hr
    · simp only [upd, hj, if_false]; exact chle_rfl rfl
  refine ⟨_, Imp.trans hcl h2, xs, ds.map .d, [0], hq, he, by rw [List.length_map, toDVs_len hxs], ?_⟩
  rw [ghosts_h (h2 := h1), hg]
  exact rok_at (g1 := []) (a1 := []) (mk := .vec) (rfl) hgs hxs (open_sl hsz l) (shape_sl hsz l) (by simp only [upd, if_true])
end
attribute [push_cast] iniL0 iniL1
end Go.Proofs.YtcnohbiegjahkaaGreatDoor

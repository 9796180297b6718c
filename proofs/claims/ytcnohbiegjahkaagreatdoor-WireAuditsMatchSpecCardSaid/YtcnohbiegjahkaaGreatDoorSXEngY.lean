/-
  The engine, part Y: variables of which some parts are owned slices, handed to functions by pointer.
-/
import Derived.Test.YtcnohbiegjahkaaGreatDoorSXEngX
namespace Go.Proofs.YtcnohbiegjahkaaGreatDoor
set_option linter.unusedSimpArgs false
set_option linter.unusedVariables false
open Go.RowKit

theorem ownR_cons (m : Mask) (ms : List Mask) (d : DV) (ds : List DV) : ownR (m :: ms) (d :: ds) = ownC m d :: ownR ms ds := rfl
theorem ownR_nil : ownR [] [] = [] := rfl
theorem rok_data {h : Nat → Ch} : ∀ {xs : List SV} {ds : List DV}, SV.toDVs xs = some ds → ROkL h xs (ds.map .d) []
  | [], ds, hd => by simp only [SV.toDVs, Option.some.injEq] at hd; subst hd; exact .nil
  | x :: xs, ds, hd => by
    unfold SV.toDVs at hd
    split at hd
    · rename_i d ds' h1 h2
      simp only [Option.some.injEq] at hd; subst hd
      exact .data h1 (rok_data h2)
    · cases hd
theorem hand_data {h : Nat → Ch} : ∀ {xs : List SV} {ds : List DV}, SV.toDVs xs = some ds → HandL h xs (ds.map .d) (ds.map .d) []
  | [], ds, hd => by simp only [SV.toDVs, Option.some.injEq] at hd; subst hd; exact .nil
  | x :: xs, ds, hd => by
    unfold SV.toDVs at hd
    split at hd
    · rename_i d ds' h1 h2
      simp only [Option.some.injEq] at hd; subst hd
      exact .data h1 (hand_data h2)
    · cases hd

section
variable {P : Program} {x : SC} {Q : AX → St → Prop} {σ : St} {s : Nat → SV} {h : Nat → Ch} {K : St → Prop} {sos : List SO} {α : Type} {row : α → List DV}

/-- A part that is an owned slice becomes a chunk. -/
theorem imp_openBs {id cid off n e : Nat} {cs cs' : List SV} {ms : List Mask} {l : List α} (hh : h id = .box cs) (hc : cs[off]? = some (.own (.sl e ms) (.slice (l.map row)))) (hne : id ≠ cid) (hms : ms = List.replicate n .sh) (hsz : ∀ a, (row a).length = n) (hset : (repL cid .any cs).set off (.vec cid) = cs') :
    Imp ⟨s, h⟩ ⟨repS cid .any s, upd (upd (repH cid .any h) id (.box cs')) cid (.vec e n (vrow row l))⟩ := by
  subst hms hset
  refine imp_open (σ := ⟨s, h⟩) (p := .b off) hne ?_
  have hg : getP (h id) (.b off) = some (.own (.sl e (List.replicate n .sh)) (.slice (l.map row))) := by simp only [hh, getP, hc]
  simp only [openSt, hg, openCh, List.length_replicate, ownR_sh hsz]
  simp only [hh, repC, setP]
theorem W_openBs {id cid off n e : Nat} {cs cs' : List SV} {ms : List Mask} {l : List α} (hh : h id = .box cs) (hc : cs[off]? = some (.own (.sl e ms) (.slice (l.map row)))) (hne : id ≠ cid) (hms : ms = List.replicate n .sh) (hsz : ∀ a, (row a).length = n) (hset : (repL cid .any cs).set off (.vec cid) = cs')
    (hk : AW P x Q ⟨repS cid .any s, upd (upd (repH cid .any h) id (.box cs')) cid (.vec e n (vrow row l))⟩) : AW P x Q ⟨s, h⟩ := W_imp (imp_openBs hh hc hne hms hsz hset) hk
/-- A part that is nil becomes an empty owned slice. -/
theorem imp_nilB {id cid off n e : Nat} {cs cs' : List SV} (hh : h id = .box cs) (hc : cs[off]? = some .nils) (hne : id ≠ cid) (hset : (repL cid .any cs).set off (.vec cid) = cs') :
    Imp ⟨s, h⟩ ⟨repS cid .any s, upd (upd (repH cid .any h) id (.box cs')) cid (.vec e n [])⟩ := by
  have h1 : Imp ⟨s, h⟩ ⟨s, upd h id (.box (cs.set off (.own (.sl e (List.replicate n .sh)) (.slice []))))⟩ := imp_le (fun _ => .inl rfl) fun i => by
    by_cases hi : i = id
    · subst hi
      simp only [upd, if_true, hh]
      refine chle_box ?_
      have key : ∀ (cs : List SV) (off : Nat), cs[off]? = some .nils → cellsle cs (cs.set off (.own (.sl e (List.replicate n .sh)) (.slice []))) := by
        intro cs
        induction cs with
        | nil => intro off hc; simp at hc
        | cons c cs ih =>
          intro off hc
          cases off with
          | zero => simp at hc; subst hc; exact .cons (.inr ⟨rfl, _, _, rfl⟩) cellsle.rfl
          | succ off => exact .consS (.inl rfl) (ih off (by simpa using hc))
      exact key cs off hc
    · simp only [upd, hi, if_false]; exact chle_rfl rfl
  have hlt : off < cs.length := (List.getElem?_eq_some_iff.1 hc).1
  have h2 := imp_openBs (s := s) (h := upd h id (.box (cs.set off (.own (.sl e (List.replicate n .sh)) (.slice []))))) (id := id) (cid := cid) (off := off) (n := n) (e := e) (l := ([] : List Unit)) (row := fun _ => List.replicate n .any) (by simp only [upd, if_true]; rfl) (by rw [List.getElem?_set_self hlt]; rfl) hne rfl (by simp) rfl
  refine h1.trans ?_
  have e1 : upd (upd (repH cid .any (upd h id (.box (cs.set off (.own (.sl e (List.replicate n .sh)) (.slice [])))))) id (.box ((repL cid .any (cs.set off (.own (.sl e (List.replicate n .sh)) (.slice [])))).set off (.vec cid)))) cid (.vec e n (vrow (fun _ => List.replicate n .any) ([] : List Unit))) = upd (upd (repH cid .any h) id (.box cs')) cid (.vec e n []) := by
    funext i
    simp only [upd, repH]
    by_cases hi : i = cid
    · simp [hi, vrow]
    · by_cases hi2 : i = id
      · simp only [hi2, hne, if_false, if_true]
        rw [← hset]
        congr 1
        have := repL_set cid .any (.own (.sl e (List.replicate n .sh)) (.slice [])) cs off
        simp only [repV] at this
        rw [← this, List.set_set]
      · simp [hi, hi2]
  rw [e1] at h2
  exact h2
/-- An owned slice goes back to its part. -/
theorem imp_closeBs {id cid off n e : Nat} {cs cs' : List SV} {rows : List (List SV)} {l : List α} (hh : h id = .box cs) (hc : cs[off]? = some (.vec cid)) (hne : id ≠ cid) (hj : h cid = .vec e n rows) (hr : rowsle rows (vrow row l)) (hsz : ∀ a, (row a).length = n) (hset : (repL cid .any cs).set off (.own (.sl e (List.replicate n .sh)) (.slice (l.map row))) = cs') :
    Imp ⟨s, h⟩ ⟨repS cid .any s, upd (upd (repH cid .any h) id (.box cs')) cid .dead⟩ := by
  subst hset
  have h1 : Imp ⟨s, h⟩ ⟨s, upd h cid (.vec e n (vrow row l))⟩ := imp_le (fun _ => .inl rfl) fun i => by
    by_cases hi : i = cid
    · subst hi; simp only [upd, if_true, hj]; exact chle_vec hr
    · simp only [upd, hi, if_false]; exact chle_rfl rfl
  have h2 := imp_close (σ := ⟨s, upd h cid (.vec e n (vrow row l))⟩) (id := id) (id' := cid) (p := .b off) (m := .sl e (List.replicate n .sh)) (d := .slice (l.map row)) (ch := .vec e n (vrow row l)) (mk := .vec) hne
    (by simp only [openCh, List.length_replicate, ownR_sh hsz]) (by intro r hr; obtain ⟨a, _, rfl⟩ := List.mem_map.1 hr; simp [hsz]) (by simp only [upd, hne, if_false, hh, getP, hc]) (by simp only [upd, if_true])
  have e1 : closeSt ⟨s, upd h cid (.vec e n (vrow row l))⟩ id (.b off) cid (.sl e (List.replicate n .sh)) (.slice (l.map row)) = ⟨repS cid .any s, upd (upd (repH cid .any h) id (.box ((repL cid .any cs).set off (.own (.sl e (List.replicate n .sh)) (.slice (l.map row)))))) cid .dead⟩ := by
    simp only [closeSt, upd, hne, if_false, hh, repC, setP]
    congr 1
    funext i
    by_cases hi : i = cid
    · subst hi; simp only [upd, if_true]
    · by_cases hi2 : i = id
      · subst hi2; simp only [upd, hi, if_false, if_true]
      · simp only [upd, hi, hi2, if_false, repH]
  rw [e1] at h2
  exact h1.trans h2
/-- Only some part of it is read otherwise. -/
theorem imp_box {id : Nat} {cs cs' : List SV} (hh : h id = .box cs) (hc : cellsle cs cs') : Imp ⟨s, h⟩ ⟨s, upd h id (.box cs')⟩ := imp_le (fun _ => .inl rfl) fun i => by
  by_cases hi : i = id
  · subst hi; simp only [upd, if_true, hh]; exact chle_box hc
  · simp only [upd, hi, if_false]; exact chle_rfl rfl

/-- A call to which a variable is handed by pointer. -/
theorem O_pM {Y R : Type} {r : R} {a : Option Y} {k : Y → Option R} {dst : Nat} {f id : Nat} {args : List SX} {ms : List Mask} {E : Y → SV} {G : Y → List DV} {ci as0 as : List DV} {gs cs : List SV} {s1 : Nat → SV} {h1 : Nat → Ch}
    (hm : a.bind k = some r) (hcl : Imp ⟨s, h⟩ ⟨s1, h1⟩) (hx : args.map (ev s1) = .ref id 0 :: gs) (hgs : SV.toDVs gs = some as0) (hh : h1 id = .box cs) (hcs : cellsle cs (ownR ms ci)) (hlen : ci.length = ms.length)
    (hs : ∀ y, a = some y → FSpec P f (.own (.pt ms) (.ptr ci) :: as.map .d) (E y) (.own (.pt ms) (.ptr (G y)) :: as.map .d)) (he : as0 = as) (henc : ∀ y, (E y).closed = true ∧ (E y).nOwn = 0 ∧ (G y).length = ms.length)
    (hk : ∀ y, k y = some r → AOps P K sos ⟨upd s1 dst (E y), upd h1 id (.box (ownR ms (G y)))⟩) : AOps P K (.p (some dst) (.f f) args :: sos) ⟨s, h⟩ := by
  subst he
  cases hy : a with
  | none => rw [hy] at hm; cases hm
  | some y =>
    rw [hy] at hm
    obtain ⟨c1, c2, c3⟩ := henc y
    have hmap : ∀ (l : List SX) (h' : Nat → Ch), l.map (ev (St.s ⟨s1, h'⟩)) = l.map (ev s1) := fun _ _ => rfl
    refine O_p (σ1 := ⟨s1, upd h1 id (.box (ownR ms ci))⟩) (L := [(id, .box (ownR ms (G y)))]) (hcl.trans (imp_box hh hcs)) (hs y hy) c1 ?_ (s' := upd s1 dst (E y)) (h' := upd h1 id (.box (ownR ms (G y)))) ?_ (hk y hm)
    · rw [hmap, hx]
      exact .ptr (ch := .box (ownR ms ci)) (mk := fun id => .ref id 0) (ch' := .box (ownR ms (G y))) (mk' := fun id => .ref id 0) rfl (by simp only [shapeOk]; exact hlen) rfl (by simp only [upd, if_true]) (by simp) (hand_data hgs)
    · simp only [takes, c2, if_true, updL]
      congr 2
      funext i
      by_cases hi : i = id
      · simp [upd, hi]
      · simp [upd, hi]
/-- The end of such a function. -/
theorem K_endP {A X : Type} {r : A × X} {a : A} {x0 : X} {N n : Nat} {qs : List RV} {ms : List Mask} {G : A × X → List DV} {E : A × X → SV} {as ds : List DV} {gs cs xs : List SV} {s1 : Nat → SV} {h1 : Nat → Ch}
    (hm : some (a, x0) = some r) (hcl : Imp σ ⟨s1, h1⟩) (hh : h1 0 = .box cs) (hcs : cellsle cs (ownR ms (G (a, x0)))) (hlen : ∀ x, (G x).length = ms.length) (hg : ghosts N ⟨s1, h1⟩ n = .ref 0 0 :: gs) (hgs : SV.toDVs gs = some as)
    (hq : svL ⟨s1, upd h1 0 (.box (ownR ms (G (a, x0))))⟩ qs = some xs) (hxs : SV.toDVs xs = some ds) (he : E (a, x0) = resSV (ds.map .d)) : endF N n qs (E r) (.own (.pt ms) (.ptr (G r)) :: as.map .d) .ret σ := by
  cases hm
  have hgh : ∀ (n : Nat) (h' : Nat → Ch), ghosts N ⟨s1, h'⟩ n = ghosts N ⟨s1, h1⟩ n := by
    intro n
    induction n with
    | zero => intro _; rfl
    | succ n ih => intro h'; simp only [ghosts, ih h']
  have hxl : ds.length = xs.length := by
    have : ∀ {xs : List SV} {ds : List DV}, SV.toDVs xs = some ds → ds.length = xs.length := by
      intro xs
      induction xs with
      | nil => intro ds hd; simp only [SV.toDVs, Option.some.injEq] at hd; subst hd; rfl
      | cons x xs ih =>
        intro ds hd
        unfold SV.toDVs at hd
        split at hd
        · rename_i d ds' h1 h2
          simp only [Option.some.injEq] at hd; subst hd
          simp [ih h2]
        · cases hd
    exact this hxs
  refine ⟨⟨s1, upd h1 0 (.box (ownR ms (G (a, x0))))⟩, hcl.trans (imp_box hh hcs), xs, ds.map .d, [0], hq, he, by simp [hxl], ?_⟩
  rw [hgh, hg]
  have hall : SV.toDVs (gs ++ xs) = some (as ++ ds) := by
    have : ∀ {gs : List SV} {as : List DV}, SV.toDVs gs = some as → SV.toDVs (gs ++ xs) = some (as ++ ds) := by
      intro gs
      induction gs with
      | nil => intro as hd; simp only [SV.toDVs, Option.some.injEq] at hd; subst hd; simpa using hxs
      | cons g gs ih =>
        intro as hd
        unfold SV.toDVs at hd
        split at hd
        · rename_i d as' h1 h2
          simp only [Option.some.injEq] at hd; subst hd
          simp only [List.cons_append, SV.toDVs, h1, ih h2]
        · cases hd
    exact this hgs
  rw [List.cons_append, List.cons_append, ← List.map_append]
  exact .own (ch := .box (ownR ms (G (a, x0)))) (mk := fun id => .ref id 0) rfl (by simp only [shapeOk]; exact hlen _) (by simp only [upd, if_true]) (by simp) (rok_data hall)
theorem K_endPN {A X : Type} {r : A × X} {a : A} {x0 : X} {N n : Nat} {qs : List RV} {ms : List Mask} {G : A × X → List DV} {E : A × X → SV} {as ds : List DV} {gs cs xs : List SV} {s1 : Nat → SV} {h1 : Nat → Ch}
    (hm : some (a, x0) = some r) (hcl : Imp σ ⟨s1, h1⟩) (hh : h1 0 = .box cs) (hcs : cellsle cs (ownR ms (G (a, x0)))) (hlen : ∀ x, (G x).length = ms.length) (hg : ghosts N ⟨s1, h1⟩ n = .ref 0 0 :: gs) (hgs : SV.toDVs gs = some as)
    (hq : svL ⟨s1, upd h1 0 (.box (ownR ms (G (a, x0))))⟩ qs = some xs) (hxs : SV.toDVs xs = some ds) (he : E (a, x0) = resSV (ds.map .d)) : endF N n qs (E r) (.own (.pt ms) (.ptr (G r)) :: as.map .d) .normal σ := by
  cases hm
  have hgh : ∀ (n : Nat) (h' : Nat → Ch), ghosts N ⟨s1, h'⟩ n = ghosts N ⟨s1, h1⟩ n := by
    intro n
    induction n with
    | zero => intro _; rfl
    | succ n ih => intro h'; simp only [ghosts, ih h']
  have hxl : ds.length = xs.length := by
    have : ∀ {xs : List SV} {ds : List DV}, SV.toDVs xs = some ds → ds.length = xs.length := by
      intro xs
      induction xs with
      | nil => intro ds hd; simp only [SV.toDVs, Option.some.injEq] at hd; subst hd; rfl
      | cons x xs ih =>
        intro ds hd
        unfold SV.toDVs at hd
        split at hd
        · rename_i d ds' h1 h2
          simp only [Option.some.injEq] at hd; subst hd
          simp [ih h2]
        · cases hd
    exact this hxs
  refine ⟨⟨s1, upd h1 0 (.box (ownR ms (G (a, x0))))⟩, hcl.trans (imp_box hh hcs), xs, ds.map .d, [0], hq, he, by simp [hxl], ?_⟩
  rw [hgh, hg]
  have hall : SV.toDVs (gs ++ xs) = some (as ++ ds) := by
    have : ∀ {gs : List SV} {as : List DV}, SV.toDVs gs = some as → SV.toDVs (gs ++ xs) = some (as ++ ds) := by
      intro gs
      induction gs with
      | nil => intro as hd; simp only [SV.toDVs, Option.some.injEq] at hd; subst hd; simpa using hxs
      | cons g gs ih =>
        intro as hd
        unfold SV.toDVs at hd
        split at hd
        · rename_i d as' h1 h2
          simp only [Option.some.injEq] at hd; subst hd
          simp only [List.cons_append, SV.toDVs, h1, ih h2]
        · cases hd
    exact this hgs
  rw [List.cons_append, List.cons_append, ← List.map_append]
  exact .own (ch := .box (ownR ms (G (a, x0)))) (mk := fun id => .ref id 0) rfl (by simp only [shapeOk]; exact hlen _) (by simp only [upd, if_true]) (by simp) (rok_data hall)
end
theorem cle_own {x : SV} {m : Mask} {d d' : DV} (h1 : x = .own m d) (h2 : d = d') : cle x (.own m d') := by rw [h1, h2]; exact .inl (.inl rfl)
theorem he_0 : SV.tup [] = resSV (([] : List DV).map .d) := rfl
section
variable {P : Program} {x : SC} {Q : AX → St → Prop} {s : Nat → SV} {h : Nat → Ch} {K : St → Prop} {sos : List SO} {α : Type} {row : α → List DV}
theorem W_nilB {id cid off n e : Nat} {cs cs' : List SV} (hh : h id = .box cs) (hc : cs[off]? = some .nils) (hne : id ≠ cid) (hset : (repL cid .any cs).set off (.vec cid) = cs')
    (hk : AW P x Q ⟨repS cid .any s, upd (upd (repH cid .any h) id (.box cs')) cid (.vec e n [])⟩) : AW P x Q ⟨s, h⟩ := W_imp (imp_nilB hh hc hne hset) hk
end
/-- The beginning of such a function. -/
def ini0 (N : Nat) (as : List DV) : Nat → SV := fun j => if j = 0 then .ref 0 0 else if j < N then (match as[j - 1]? with | some d => .d d | none => .d .any) else if j = N then .ref 0 0 else match as[j - N - 1]? with | some d => .d d | none => .d .any
theorem fspec_walk1 {P : Program} {f N k : Nat} {fn : Func} {x : SC} {qs : List RV} {ms : List Mask} {cs : List DV} {as : List DV} {res : SV} {outs : List SV} (hf : P.funcs[f]? = some fn) (hfit : fits P f fn x qs k = true) (hN : fn.ntmps = N) (hk : as.length + 1 = k) (hol : outs.length = k) (hpos : 0 < N)
    (h : AW P x (endF N k qs res outs) ⟨ini0 N as, upd (fun _ => .dead) 0 (.box (ownR ms cs))⟩) : FSpec P f (.own (.pt ms) (.ptr cs) :: as.map .d) res outs := by
  subst hN hk
  have hlen : (SV.own (.pt ms) (.ptr cs) :: as.map SV.d).length = as.length + 1 := by simp
  refine fspec_walk (x := x) (qs := qs) hf (by rw [hlen]; exact hfit) ?_ (by rw [hlen]; exact hol) ?_
  · simp only [List.all_cons, argOk, openCh, Option.isSome_some, Bool.true_and]
    rw [List.all_eq_true]
    intro y hy
    obtain ⟨d, _, rfl⟩ := List.mem_map.1 hy
    rfl
  · rw [hlen]
    have e1 : iniS fn.ntmps (.own (.pt ms) (.ptr cs) :: as.map .d) = ini0 fn.ntmps as := by
      funext j
      unfold iniS ini0
      by_cases h0 : j = 0
      · subst h0; simp [hpos, iniV, openCh]
      · obtain ⟨i, rfl⟩ : ∃ i, j = i + 1 := ⟨j - 1, by omega⟩
        by_cases hlt : i + 1 < fn.ntmps
        · simp only [hlt, if_true, List.getElem?_cons_succ, List.getElem?_map, Nat.add_sub_cancel]
          rw [if_neg (by omega)]
          cases as[i]? <;> simp [iniV]
        · simp only [hlt, if_false]
          rw [if_neg (by omega)]
          by_cases he : i + 1 = fn.ntmps
          · simp only [he, if_true, Nat.sub_self, List.getElem?_cons_zero]; simp [iniV, openCh]
          · obtain ⟨q, hq⟩ : ∃ q, i + 1 - fn.ntmps = q + 1 := ⟨i + 1 - fn.ntmps - 1, by omega⟩
            simp only [he, if_false, hq, List.getElem?_cons_succ, List.getElem?_map, Nat.add_sub_cancel]
            cases as[q]? <;> simp [iniV]
    have e2 : iniH (.own (.pt ms) (.ptr cs) :: as.map .d) = upd (fun _ => .dead) 0 (.box (ownR ms cs)) := by
      funext j
      unfold iniH
      cases j with
      | zero => simp [upd, iniC, openCh]
      | succ j =>
        simp only [List.getElem?_cons_succ, List.getElem?_map, upd]
        rw [if_neg (by omega)]
        cases as[j]? <;> simp [iniC]
    rw [e1, e2]; exact h
attribute [push_cast] ownR_cons ownR_nil ini0 ghosts svL RV.sv
end Go.Proofs.YtcnohbiegjahkaaGreatDoor

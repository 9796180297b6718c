/-
  The engine, part Y: variables of which some parts are owned slices, handed to functions by pointer.
-/
import Derived.Test.YtdkncdkdbddgoaaDoorSXEngX
namespace Go.Proofs.YtdkncdkdbddgoaaDoor
set_option linter.unusedSimpArgs false
set_option linter.unusedVariables false
open Go.RowKit

theorem ownR_cons (m : Mask) (ms : List Mask) (d : DV) (ds : List DV) : ownR (m :: ms) (d :: ds) = ownC m d :: ownR ms ds := rfl
theorem ownR_nil : ownR [] [] = [] := rfl
theorem rok_data {h : Nat → Ch} : ∀ {xs : List SV} {ds : List DV}, SV.toDVs xs = some ds → ROkL h xs (ds.map .d) []
  | [], ds, hd => by simp only [SV.toDVs, Option.some.injEq] at hd; subst hd; exact .nil
  | x :: xs, ds, hd => by
    unfold SV.toDVs at hd
    split at hd
    · rename_i d ds' h1 h2
      simp only [Option.some.injEq] at hd; subst hd
      exact .data h1 (rok_data h2)
    · cases hd
theorem hand_data {h : Nat → Ch} : ∀ {xs : List SV} {ds : List DV}, SV.toDVs xs = some ds → HandL h xs (ds.map .d) (ds.map .d) []
  | [], ds, hd => by simp only [SV.toDVs, Option.some.injEq] at hd; subst hd; exact .nil
  | x :: xs, ds, hd => by
    unfold SV.toDVs at hd
    split at hd
    · rename_i d ds' h1 h2
      simp only [Option.some.injEq] at hd; subst hd
      exact .data h1 (hand_data h2)
    · cases hd

section
variable {P : Program} {x : SC} {Q : AX → St → Prop} {σ : St} {s : Nat → SV} {h : Nat → Ch} {K : St → Prop} {sos : List SO} {α : Type} {row : α → List DV}

/-- Only some part of it is read otherwise. -/
theorem imp_box {id : Nat} {cs cs' : List SV} (hh : h id = .box cs) (hc : cellsle cs cs') : Imp ⟨s, h⟩ ⟨s, upd h id (.box cs')⟩ := imp_le (fun _ => .inl rfl) fun i => by
  by_cases hi : i = id
  · subst hi; simp only [upd, if_true, hh]; exact chle_box hc
  · simp only [upd, hi, if_false]; exact chle_rfl rfl

/-- A call to which a variable is handed by pointer. -/
theorem O_pM {Y R : Type} {r : R} {a : Option Y} {k : Y → Option R} {dst : Nat} {f id : Nat} {args : List SX} {ms : List Mask} {E : Y → SV} {G : Y → List DV} {ci as0 as : List DV} {gs cs : List SV} {s1 : Nat → SV} {h1 : Nat → Ch}
    (hm : a.bind k = some r) (hcl : Imp ⟨s, h⟩ ⟨s1, h1⟩) (hx : args.map (ev s1) = .ref id 0 :: gs) (hgs : SV.toDVs gs = some as0) (hh : h1 id = .box cs) (hcs : cellsle cs (ownR ms ci)) (hlen : ci.length = ms.length)
    (hs : ∀ y, a = some y → FSpec P f (.own (.pt ms) (.ptr ci) :: as.map .d) (E y) (.own (.pt ms) (.ptr (G y)) :: as.map .d)) (he : as0 = as) (henc : ∀ y, (E y).closed = true ∧ (E y).nOwn = 0 ∧ (G y).length = ms.length)
    (hk : ∀ y, k y = some r → AOps P K sos ⟨upd s1 dst (E y), upd h1 id (.box (ownR ms (G y)))⟩) : AOps P K (.p (some dst) (.f f) args :: sos) ⟨s, h⟩ := by
  subst he
  cases hy : a with
  | none => rw [hy] at hm; cases hm
  | some y =>
    rw [hy] at hm
    obtain ⟨c1, c2, c3⟩ := henc y
    have hmap : ∀ (l : List SX) (h' : Nat → Ch), l.map (ev (St.s ⟨s1, h'⟩)) = l.map (ev s1) := fun _ _ => rfl
    refine O_p (σ1 := ⟨s1, upd h1 id (.box (ownR ms ci))⟩) (L := [(id, .box (ownR ms (G y)))]) (hcl.trans (imp_box hh hcs)) (hs y hy) c1 ?_ (s' := upd s1 dst (E y)) (h' := upd h1 id (.box (ownR ms (G y)))) ?_ (hk y hm)
    · rw [hmap, hx]
      exact .ptr (ch := .box (ownR ms ci)) (mk := fun id => .ref id 0) (ch' := .box (ownR ms (G y))) (mk' := fun id => .ref id 0) rfl (by simp only [shapeOk]; exact hlen) rfl (by simp only [upd, if_true]) (by simp) (hand_data hgs)
    · simp only [takes, c2, if_true, updL]
      congr 2
      funext i
      by_cases hi : i = id
      · simp [upd, hi]
      · simp [upd, hi]
/-- The end of such a function. -/
theorem K_endP {A X : Type} {r : A × X} {a : A} {x0 : X} {N n : Nat} {qs : List RV} {ms : List Mask} {G : A × X → List DV} {E : A × X → SV} {as ds : List DV} {gs cs xs : List SV} {s1 : Nat → SV} {h1 : Nat → Ch}
    (hm : some (a, x0) = some r) (hcl : Imp σ ⟨s1, h1⟩) (hh : h1 0 = .box cs) (hcs : cellsle cs (ownR ms (G (a, x0)))) (hlen : ∀ x, (G x).length = ms.length) (hg : ghosts N ⟨s1, h1⟩ n = .ref 0 0 :: gs) (hgs : SV.toDVs gs = some as)
    (hq : svL ⟨s1, upd h1 0 (.box (ownR ms (G (a, x0))))⟩ qs = some xs) (hxs : SV.toDVs xs = some ds) (he : E (a, x0) = resSV (ds.map .d)) : endF N n qs (E r) (.own (.pt ms) (.ptr (G r)) :: as.map .d) .ret σ := by
  cases hm
  have hgh : ∀ (n : Nat) (h' : Nat → Ch), ghosts N ⟨s1, h'⟩ n = ghosts N ⟨s1, h1⟩ n := by
    intro n
    induction n with
    | zero => intro _; rfl
    | succ n ih => intro h'; simp only [ghosts, ih h']
  have hxl : ds.length = xs.length := by
    have : ∀ {xs : List SV} {ds : List DV}, SV.toDVs xs = some ds → ds.length = xs.length := by
      intro xs
      induction xs with
      | nil => intro ds hd; simp only [SV.toDVs, Option.some.injEq] at hd; subst hd; rfl
      | cons x xs ih =>
        intro ds hd
        unfold SV.toDVs at hd
        split at hd
        · rename_i d ds' h1 h2
          simp only [Option.some.injEq] at hd; subst hd
          simp [ih h2]
        · cases hd
    exact this hxs
  refine ⟨⟨s1, upd h1 0 (.box (ownR ms (G (a, x0))))⟩, hcl.trans (imp_box hh hcs), xs, ds.map .d, [0], hq, he, by simp [hxl], ?_⟩
  rw [hgh, hg]
  have hall : SV.toDVs (gs ++ xs) = some (as ++ ds) := by
    have : ∀ {gs : List SV} {as : List DV}, SV.toDVs gs = some as → SV.toDVs (gs ++ xs) = some (as ++ ds) := by
      intro gs
      induction gs with
      | nil => intro as hd; simp only [SV.toDVs, Option.some.injEq] at hd; subst hd; simpa using hxs
      | cons g gs ih =>
        intro as hd
        unfold SV.toDVs at hd
        split at hd
        · rename_i d as' h1 h2
          simp only [Option.some.injEq] at hd; subst hd
          simp only [List.cons_append, SV.toDVs, h1, ih h2]
        · cases hd
    exact this hgs
  rw [List.cons_append, List.cons_append, ← List.map_append]
  exact .own (ch := .box (ownR ms (G (a, x0)))) (mk := fun id => .ref id 0) rfl (by simp only [shapeOk]; exact hlen _) (by simp only [upd, if_true]) (by simp) (rok_data hall)
end
theorem cle_own {x : SV} {m : Mask} {d d' : DV} (h1 : x = .own m d) (h2 : d = d') : cle x (.own m d') := by rw [h1, h2]; exact .inl (.inl rfl)
theorem cle_nil {x : SV} {e : Nat} {ms : List Mask} (h1 : x = .nils) : cle x (.own (.sl e ms) (.slice [])) := .inr ⟨h1, _, _, rfl⟩
theorem he_0 : SV.tup [] = resSV (([] : List DV).map .d) := rfl
theorem he_1 {d e : DV} (h : d = e) : SV.d e = resSV ([d].map .d) := by rw [h]; rfl
theorem he_n {d d' : DV} {ds es : List DV} (h : d :: d' :: ds = es) : SV.tup (es.map .d) = resSV ((d :: d' :: ds).map .d) := by rw [← h]; rfl
section
variable {P : Program} {x : SC} {Q : AX → St → Prop} {s : Nat → SV} {h : Nat → Ch} {K : St → Prop} {sos : List SO} {α : Type} {row : α → List DV}
/-- A pointer that may be nil. -/
def optP (row : α → List DV) : Option α → DV
  | none => .raw (.pointer none)
  | some a => .ptr (row a)
theorem f_optN : DV.raw (.pointer none) = optP row none := rfl
theorem f_optS {cs : List DV} {a : α} (h : cs = row a) : DV.ptr cs = optP row (some a) := by rw [h]; rfl
theorem O_nilcO {R : Type} {r : R} {o : Option α} {dst : Nat} {x : SX} {kk : α → Option R} (hm : o.bind kk = some r) (hx : ev s x = .d (optP row o)) (hk : ∀ a, kk a = some r → AOps P K sos ⟨upd s dst (.d (.ptr (row a))), h⟩) : AOps P K (.r dst (.nilc x) :: sos) ⟨s, h⟩ := by
  cases o with
  | none => cases hm
  | some a => exact O_r (p := True) (v := .d (.ptr (row a))) (by simp only [rd, hx, optP]) trivial (hk a hm)
end
/-- The beginning of such a function. -/
def ini0 (N : Nat) (as : List DV) : Nat → SV := fun j => if j = 0 then .ref 0 0 else if j < N then (match as[j - 1]? with | some d => .d d | none => .d .any) else if j = N then .ref 0 0 else match as[j - N - 1]? with | some d => .d d | none => .d .any
theorem fspec_walk1 {P : Program} {f N k : Nat} {fn : Func} {x : SC} {qs : List RV} {ms : List Mask} {cs : List DV} {as : List DV} {res : SV} {outs : List SV} (hf : P.funcs[f]? = some fn) (hfit : fits P f fn x qs k = true) (hN : fn.ntmps = N) (hk : as.length + 1 = k) (hol : outs.length = k) (hpos : 0 < N)
    (h : AW P x (endF N k qs res outs) ⟨ini0 N as, upd (fun _ => .dead) 0 (.box (ownR ms cs))⟩) : FSpec P f (.own (.pt ms) (.ptr cs) :: as.map .d) res outs := by
  subst hN hk
  have hlen : (SV.own (.pt ms) (.ptr cs) :: as.map SV.d).length = as.length + 1 := by simp
  refine fspec_walk (x := x) (qs := qs) hf (by rw [hlen]; exact hfit) ?_ (by rw [hlen]; exact hol) ?_
  · simp only [List.all_cons, argOk, openCh, Option.isSome_some, Bool.true_and]
    rw [List.all_eq_true]
    intro y hy
    obtain ⟨d, _, rfl⟩ := List.mem_map.1 hy
    rfl
  · rw [hlen]
    have e1 : iniS fn.ntmps (.own (.pt ms) (.ptr cs) :: as.map .d) = ini0 fn.ntmps as := by
      funext j
      unfold iniS ini0
      by_cases h0 : j = 0
      · subst h0; simp [hpos, iniV, openCh]
      · obtain ⟨i, rfl⟩ : ∃ i, j = i + 1 := ⟨j - 1, by omega⟩
        by_cases hlt : i + 1 < fn.ntmps
        · simp only [hlt, if_true, List.getElem?_cons_succ, List.getElem?_map, Nat.add_sub_cancel]
          rw [if_neg (by omega)]
          cases as[i]? <;> simp [iniV]
        · simp only [hlt, if_false]
          rw [if_neg (by omega)]
          by_cases he : i + 1 = fn.ntmps
          · simp only [he, if_true, Nat.sub_self, List.getElem?_cons_zero]; simp [iniV, openCh]
          · obtain ⟨q, hq⟩ : ∃ q, i + 1 - fn.ntmps = q + 1 := ⟨i + 1 - fn.ntmps - 1, by omega⟩
            simp only [he, if_false, hq, List.getElem?_cons_succ, List.getElem?_map, Nat.add_sub_cancel]
            cases as[q]? <;> simp [iniV]
    have e2 : iniH (.own (.pt ms) (.ptr cs) :: as.map .d) = upd (fun _ => .dead) 0 (.box (ownR ms cs)) := by
      funext j
      unfold iniH
      cases j with
      | zero => simp [upd, iniC, openCh]
      | succ j =>
        simp only [List.getElem?_cons_succ, List.getElem?_map, upd]
        rw [if_neg (by omega)]
        cases as[j]? <;> simp [iniC]
    rw [e1, e2]; exact h
attribute [push_cast] ownR_cons ownR_nil ini0 ghosts svL RV.sv
end Go.Proofs.YtdkncdkdbddgoaaDoor

/-
  The engine, part Z: calls whose result is an owned slice.
-/
import Derived.Test.YtdkncdkdbddgoaaDoorSXEngY
namespace Go.Proofs.YtdkncdkdbddgoaaDoor
set_option linter.unusedSimpArgs false
set_option linter.unusedVariables false
open Go.RowKit

section
variable {P : Program} {s : Nat → SV} {h : Nat → Ch} {K : St → Prop} {sos : List SO} {α : Type} {row : α → List DV}
theorem takes_own {σ : St} {dst e n : Nat} {l : List α} (hsz : ∀ a, (row a).length = n) : takes σ [] (some dst) (.own (.sl e (List.replicate n .sh)) (.slice (l.map row))) = some ⟨upd (repS dst .any σ.s) dst (.vec dst), upd (repH dst .any σ.h) dst (.vec e n (vrow row l))⟩ := by
  simp only [takes, SV.nOwn, SV.own1, openCh, List.length_replicate, ownR_sh hsz, SV.plug, updL]
  rfl
/-- A call whose result is an owned slice. -/
theorem O_pO {Y R : Type} {r : R} {a : Option Y} {k : Y → Option R} {dst f e n : Nat} {args : List SX} {as0 as : List DV} {l : Y → List α}
    (hm : a.bind k = some r) (hx : SV.toDVs (args.map (ev s)) = some as0)
    (hs : ∀ y, a = some y → FSpec P f (as.map .d) (.own (.sl e (List.replicate n .sh)) (.slice ((l y).map row))) (as.map .d)) (he : as0 = as) (hsz : ∀ a, (row a).length = n)
    (hk : ∀ y, k y = some r → AOps P K sos ⟨upd (repS dst .any s) dst (.vec dst), upd (repH dst .any h) dst (.vec e n (vrow row (l y)))⟩) : AOps P K (.p (some dst) (.f f) args :: sos) ⟨s, h⟩ := by
  subst he
  cases hy : a with
  | none => rw [hy] at hm; cases hm
  | some y =>
    rw [hy] at hm
    exact O_p (σ1 := ⟨s, h⟩) (L := []) (Imp.refl _) (hs y hy) rfl (hand_data hx) (takes_own hsz) (hk y hm)
/-- A look at a row, which is known behind it. -/
theorem O_idxrE {R : Type} {r : R} {l : List α} {sz : Nat} {n : Int} {x i : SX} {k : IntKind} {dst : Nat} {kk : α → Option R} (hm : (getI l n).bind kk = some r) (hx : ev s x = .d (.slice (l.map row))) (hi : ev s i = .d (.int k n)) (hsz : ∀ e, (row e).length = sz)
    (hk : ∀ e, getI l n = some e → kk e = some r → AOps P K sos ⟨upd s dst (.d (.ptr (row e))), h⟩) : AOps P K (.r dst (.idx sz x i) :: sos) ⟨s, h⟩ := by
  cases he : getI l n with
  | none => rw [he] at hm; cases hm
  | some e =>
    rw [he] at hm
    obtain ⟨h1, h2⟩ := idxS_rd (h := h) hx hi hsz he
    exact O_r h1 h2 (hk e he hm)
end
/-! ### Slices whose rows own slices -/
def vrowO {α : Type} (ms : List Mask) (row : α → List DV) (l : List α) : List (List SV) := (l.map row).map (ownR ms)
section
variable {α : Type} {ms : List Mask} {row : α → List DV} {l : List α}
theorem vrowO_length : (vrowO ms row l).length = l.length := by simp [vrowO]
theorem vrowO_append {l2 : List α} : vrowO ms row (l ++ l2) = vrowO ms row l ++ vrowO ms row l2 := by simp [vrowO]
theorem vrowO_sh {n : Nat} (hsz : ∀ a, (row a).length = n) : vrowO (List.replicate n .sh) row l = vrow row l := ownR_sh hsz l
theorem repR_vrowO (id : Nat) (dv : DV) : ∀ (l : List α), repR id dv (vrowO ms row l) = vrowO ms row l
  | [] => rfl
  | x :: l => by
    have ih := repR_vrowO id dv l
    unfold vrowO at ih ⊢
    simp only [List.map_cons, repR, repL_ownR, ih]
end
section
variable {P : Program} {s : Nat → SV} {h : Nat → Ch} {K : St → Prop} {sos : List SO} {α β : Type} {row : α → List DV} {row' : β → List DV} {ms ms' : List Mask} {l : List α} {l' : List β} {x : α}
end
section
variable {P : Program} {x0 : SC} {Q : AX → St → Prop} {s : Nat → SV} {h : Nat → Ch} {K : St → Prop} {sos : List SO} {α β : Type} {row : α → List DV} {row' : β → List DV} {ms ms' : List Mask} {l : List α}
theorem splice_set1 {cs : List SV} {off : Nat} {v : SV} (ho : off < cs.length) : splice cs off [v] = cs.set off v := by
  unfold splice
  refine List.ext_getElem? fun j => ?_
  simp only [List.length_cons, List.length_nil, Nat.zero_add, List.append_assoc, List.getElem?_append, List.length_take, List.getElem?_drop, List.getElem?_take, List.getElem?_set]
  have h3 : min off cs.length = off := by omega
  by_cases h1 : j < off
  · have : ¬ off = j := by omega
    simp [this, h1]
    omega
  · by_cases h2 : off = j
    · subst h2
      simp [h3, ho]
    · have h4 : ¬ j - off < 1 := by omega
      simp only [h3, h1, if_false, h2, h4, List.length_singleton]
      have h5 : off + 1 + (j - off - 1) = j := by omega
      simp only [h5]
end
section
variable {P : Program} {s : Nat → SV} {h : Nat → Ch} {K : St → Prop} {sos : List SO} {α β : Type} {row : α → List DV} {ms : List Mask} {l l2 : List α} {x : α}
theorem r_rflO : rowsle (vrowO ms row l) (vrowO ms row l) := rowsle.rfl
theorem r_shS {l : List (List UInt8)} : rowsle (vrow rowS l) (vrowO [.sh] rowS l) := rowsle.of_eq (vrowO_sh (row := rowS) (n := 1) (fun _ => rfl)).symm
theorem r_shI {l : List Int} : rowsle (vrow rowI l) (vrowO [.sh] rowI l) := rowsle.of_eq (vrowO_sh (row := rowI) (n := 1) (fun _ => rfl)).symm
theorem r_nilO : rowsle [] (vrowO ms row ([] : List α)) := rowsle.rfl
theorem r_appO {a b : List (List SV)} (h1 : rowsle a (vrowO ms row l)) (h2 : rowsle b (vrowO ms row l2)) : rowsle (a ++ b) (vrowO ms row (l ++ l2)) := by rw [vrowO_append]; exact h1.append h2
theorem r_oneO {r : List SV} (h1 : cellsle r (ownR ms (row x))) : rowsle [r] (vrowO ms row [x]) := .cons h1 .nil
theorem c_ownN {row : β → List DV} {e : Nat} {ms : List Mask} : cellsle [.nils] (ownR [.sl e ms] (rowL row ([] : List β))) := .cons (.inr ⟨rfl, _, _, rfl⟩) cellsle.nil
theorem c_ownL {row : β → List DV} {e : Nat} {ms : List Mask} {y : List β} : cellsle [.own (.sl e ms) (.slice (y.map row))] (ownR [.sl e ms] (rowL row y)) := cellsle.rfl
theorem frzR_vrowO (hp : Mask.plains ms = true) (hl : ∀ x, (row x).length = ms.length) : SV.frzR (vrowO ms row l) = some (l.map row) := frzR_ownR hp (fun r hr => by obtain ⟨x, _, rfl⟩ := List.mem_map.1 hr; exact hl x)
end
/-- Behind a loop without an end. -/
theorem K_neverF {R : Type} {r : R} {N n : Nat} {qs : List RV} {res : SV} {outs : List SV} {σ : St} (hm : (none : Option R) = some r) : endF N n qs res outs .normal σ := by cases hm
theorem frzR_vrowOP {β : Type} {row : β → List DV} {e : Nat} {ms : List Mask} {l : List (List β)} (hp : Mask.plains ms = true) : SV.frzR (vrowO [.sl e ms] (rowL row) l) = some (l.map (rowL row)) := frzR_vrowO (by simp only [Mask.plains, Mask.plain, hp, Bool.and_self]) (fun _ => rfl)
/-! ### Functions whose parameters are data and whose result owns -/
def iniD (N : Nat) (as : List DV) : Nat → SV := fun j => if j < N then (match as[j]? with | some d => .d d | none => .d .any) else match as[j - N]? with | some d => .d d | none => .d .any
theorem rok_all {h : Nat → Ch} {ys rs : List SV} {ids : List Nat} (hr : ROkL h ys rs ids) : ∀ {gs : List SV} {as : List DV}, SV.toDVs gs = some as → ROkL h (gs ++ ys) (as.map .d ++ rs) ids
  | [], as, hd => by simp only [SV.toDVs, Option.some.injEq] at hd; subst hd; exact hr
  | g :: gs, as, hd => by
    unfold SV.toDVs at hd
    split at hd
    · rename_i d ds' h1 h2
      simp only [Option.some.injEq] at hd; subst hd
      exact .data h1 (rok_all hr h2)
    · cases hd
/-- The end: the result's cells, of which some are chunks that are handed over. -/
theorem K_endO {R : Type} {r r0 : R} {σ : St} {N n : Nat} {q : RV} {ms : List Mask} {row : R → List DV} {as : List DV} {gs cs cs' : List SV} {ids : List Nat} {s1 : Nat → SV} {h1 : Nat → Ch} (hm : some r0 = some r) (hcl : Imp σ ⟨s1, h1⟩) (hq : svL ⟨s1, h1⟩ [q] = some [.agg cs]) (hg : ghosts N ⟨s1, h1⟩ n = gs) (hgs : SV.toDVs gs = some as)
    (hr : ROkL h1 cs cs' ids) (hG : cs' = ownR ms (row r0)) : endF N n [q] (.agg (ownR ms (row r))) (as.map .d) .ret σ := by
  cases hm
  subst hG
  refine ⟨⟨s1, h1⟩, hcl, [.agg cs], [.agg (ownR ms (row r))], ids, hq, rfl, rfl, ?_⟩
  rw [hg]
  refine rok_all ?_ hgs
  have := ROkL.agg (h := h1) hr (fun i _ => List.not_mem_nil) ROkL.nil
  simpa using this
theorem ROk_vec {α : Type} {row : α → List DV} {ms : List Mask} {h : Nat → Ch} {id e n : Nat} {l : List α} {xs rs : List SV} {ids : List Nat} (hh : h id = .vec e n (vrowO ms row l)) (hn : ms.length = n) (hsz : ∀ a, (row a).length = ms.length) (hi : id ∉ ids) (hl : ROkL h xs rs ids) : ROkL h (.vec id :: xs) (.own (.sl e ms) (.slice (l.map row)) :: rs) (id :: ids) := by
  subst hn
  exact .own (ch := .vec e ms.length (vrowO ms row l)) (mk := .vec) rfl (by intro r hr; obtain ⟨a, _, rfl⟩ := List.mem_map.1 hr; exact hsz a) hh hi hl
/-- The contract of a function whose parameters are data; its result may own. -/
theorem fspec_walkD {P : Program} {f N k : Nat} {fn : Func} {x : SC} {qs : List RV} {as : List DV} {res : SV} {outs : List SV} (hf : P.funcs[f]? = some fn) (hfit : fits P f fn x qs k = true) (hN : fn.ntmps = N) (hk : as.length = k) (hol : outs.length = k)
    (h : AW P x (endF N k qs res outs) ⟨iniD N as, fun _ => .dead⟩) : FSpec P f (as.map .d) res outs := by
  subst hN hk
  have hlen : (as.map SV.d).length = as.length := by simp
  refine fspec_walk (x := x) (qs := qs) hf (by rw [hlen]; exact hfit) ?_ (by rw [hlen]; exact hol) ?_
  · rw [List.all_eq_true]
    intro y hy
    obtain ⟨d, _, rfl⟩ := List.mem_map.1 hy
    rfl
  · rw [hlen]
    have e1 : iniS fn.ntmps (as.map .d) = iniD fn.ntmps as := by
      funext j
      unfold iniS iniD
      by_cases hlt : j < fn.ntmps
      · simp only [hlt, if_true, List.getElem?_map]
        cases as[j]? <;> simp [iniV]
      · simp only [hlt, if_false, List.getElem?_map]
        cases as[j - fn.ntmps]? <;> simp [iniV]
    have e2 : iniH (as.map .d) = fun _ => .dead := by
      funext j
      unfold iniH
      simp only [List.getElem?_map]
      cases as[j]? <;> simp [iniC]
    rw [e1, e2]; exact h
/-! ### Boxes whose cell is a slice of rows that own: closed and opened -/
section
variable {P : Program} {Q : AX → St → Prop} {x0 : SC} {s : Nat → SV} {h : Nat → Ch} {α : Type} {row : α → List DV}
end
attribute [push_cast] SV.plug SV.plugs iniD Mask.plains Mask.plain frzR_vrowOP repR_set repR_vrowO vrowO_length List.length_set List.set_set
/-- Ahead of a statement: a slice that grew becomes data. -/
theorem W_frz {P : Program} {x : SC} {Q : AX → St → Prop} {s : Nat → SV} {h : Nat → Ch} {id e sz : Nat} {rows : List (List SV)} {ds : List (List DV)} (hv : h id = .vec e sz rows) (hf : SV.frzR rows = some ds) (hw : AW P x Q ⟨repS id (.slice ds) s, upd (repH id (.slice ds) h) id .dead⟩) : AW P x Q ⟨s, h⟩ := W_imp (imp_freeze hv hf) hw
end Go.Proofs.YtdkncdkdbddgoaaDoor

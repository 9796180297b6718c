/-
  The engine, part Ro: rows that own more than one slice; whole rows written.
-/
import Derived.Test.YtcnohbiegjahkaaGreatDoorSXEngRm
namespace Go.Proofs.YtcnohbiegjahkaaGreatDoor
set_option linter.unusedSimpArgs false
set_option linter.unusedVariables false
open Go.RowKit

section
variable {P : Program} {x0 : SC} {Q : AX → St → Prop} {s : Nat → SV} {h : Nat → Ch} {K : St → Prop} {sos : List SO} {α β : Type} {row : α → List DV} {row' : β → List DV} {ms ms' : List Mask} {l : List α} {l' : List β}
/-- A chunk goes back to its row, which is told cell by cell. -/
theorem imp_closeG {id cid e sz i off e' n' : Nat} {rowsB : List (List SV)} {cells cells' : List SV} (hj : h cid = .vec e' n' rowsB) (hh : h id = .vec e sz ((vrowO ms row l).set i cells)) (hd : cells[off]? = some (.vec cid)) (hr : rowsle rowsB (vrowO ms' row' l')) (hn : ms'.length = n')
    (hsz : ∀ b, (row' b).length = n') (hi : i < l.length) (hne : id ≠ cid) (hc : (repL cid .any cells).set off (.own (.sl e' ms') (.slice (l'.map row'))) = cells') :
    Imp ⟨s, h⟩ ⟨repS cid .any s, upd (upd (repH cid .any h) id (.vec e sz ((vrowO ms row l).set i cells'))) cid .dead⟩ := by
  subst hn hc
  have hi' : i < (vrowO ms row l).length := by rw [vrowO_length]; exact hi
  have h1 : Imp ⟨s, h⟩ ⟨s, upd h cid (.vec e' ms'.length (vrowO ms' row' l'))⟩ := imp_le (fun _ => .inl rfl) fun j => by
    by_cases hj' : j = cid
    · subst hj'; simp only [upd, if_true, hj]; exact chle_vec hr
    · simp only [upd, hj', if_false]; exact chle_rfl rfl
  have hget : ((vrowO ms row l).set i cells)[i]? = some cells := List.getElem?_set_self hi'
  have h2 := imp_close (σ := ⟨s, upd h cid (.vec e' ms'.length (vrowO ms' row' l'))⟩) (id := id) (id' := cid) (p := .v i off) (m := .sl e' ms') (d := .slice (l'.map row')) (ch := .vec e' ms'.length (vrowO ms' row' l')) (mk := .vec) hne
    (by simp only [openCh]; rfl) (by intro r hr; obtain ⟨a, _, rfl⟩ := List.mem_map.1 hr; exact hsz a) (by simp only [upd, hne, if_false, hh, getP, hget]; exact hd) (by simp only [upd, if_true])
  have hg1 : ((vrowO ms row l).set i (repL cid .any cells))[i]? = some (repL cid .any cells) := List.getElem?_set_self hi'
  have e1 : closeSt ⟨s, upd h cid (.vec e' ms'.length (vrowO ms' row' l'))⟩ id (.v i off) cid (.sl e' ms') (.slice (l'.map row')) = ⟨repS cid .any s, upd (upd (repH cid .any h) id (.vec e sz ((vrowO ms row l).set i ((repL cid .any cells).set off (.own (.sl e' ms') (.slice (l'.map row'))))))) cid .dead⟩ := by
    simp only [closeSt, upd, hne, if_false, hh, repC, repR_set, repR_vrowO]
    congr 1
    funext j
    by_cases hj1 : j = cid
    · subst hj1; simp only [upd, if_true]
    · by_cases hj2 : j = id
      · subst hj2
        simp only [upd, hj1, if_false, if_true, setP, hg1, List.set_set]
      · simp only [upd, hj1, hj2, if_false, repH]
  rw [e1] at h2
  exact h1.trans h2
theorem rowsle_set : ∀ {a b : List (List SV)} {i : Nat} {c c' : List SV}, rowsle a b → cellsle c c' → rowsle (a.set i c) (b.set i c')
  | _, _, _, _, _, .nil, _ => .nil
  | _, _, 0, _, _, .cons _ hs, hc => .cons hc hs
  | _, _, _ + 1, _, _, .cons h hs, hc => .cons h (rowsle_set hs hc)
/-- A row told cell by cell is one of the rows again. -/
theorem imp_normS {id e sz i : Nat} {cells : List SV} {x' : α} (hh : h id = .vec e sz ((vrowO ms row l).set i cells)) (hc : cellsle cells (ownR ms (row x'))) :
    Imp ⟨s, h⟩ ⟨s, upd h id (.vec e sz (vrowO ms row (l.set i x')))⟩ := imp_le (fun _ => .inl rfl) fun j => by
  by_cases hj : j = id
  · subst hj
    simp only [upd, if_true, hh, vrowO_set]
    exact chle_vec (rowsle_set rowsle.rfl hc)
  · simp only [upd, hj, if_false]; exact chle_rfl rfl
theorem O_stFAx {id e sz i n : Nat} {R : List (List SV)} {cells cs : List SV} {y v : SX} {late : List (Nat × Nat × ROp)} (hp : ev s y = .vref id sz i 0) (hv : (ev s v).cells? = some cs) (hh : h id = .vec e sz (R.set i cells)) (hi : i < R.length) (hn : cs.length = n) (hl : cells.length = n)
    (hr : Rer ⟨s, upd h id (.vec e sz (R.set i cs))⟩ late) (hk : AOps P K sos ⟨s, upd h id (.vec e sz (R.set i cs))⟩) : AOps P K (.x 0 (.st n y v) late :: sos) ⟨s, h⟩ := by
  have hg : (R.set i cells)[i]? = some cells := List.getElem?_set_self hi
  have e1 : splice cells 0 cs = cs := by
    unfold splice
    simp only [List.take_zero, List.nil_append, Nat.zero_add]
    rw [List.drop_eq_nil_of_le (by omega), List.append_nil]
  refine O_x (p := sz = sz ∧ cs.length = n ∧ 0 + n ≤ cells.length) (s' := s) (h' := upd h id (.vec e sz (R.set i cs))) ?_ ⟨rfl, hn, by omega⟩ hr hk
  simp only [wr, hp, hv, hh, hg, e1, List.set_set]
/-- a || b where a holds, a && b where it doesn't: b is not looked at. -/
theorem O_orT {t u d : Nat} {ds : List Nat} {l : List SO} (hg : s t = .d (.bool true)) (hd : (dstsIn ds l && gok [] l && !memN ds t) = true) (hk : ∀ g, AOps P K sos ⟨upd (mixF ds g s) d (.d (.bool true)), h⟩) :
    AOps P K (gapp ds t false l (.r d (.pick (.t t) (.c (.d (.bool true))) (.t u)) :: sos)) ⟨s, h⟩ :=
  O_or (R := Bool) (r := true) (k := fun v => bif v then some true else none) (b := true) (m1 := none) rfl hg hd (fun v h => by cases h) (fun v g hv => by
    cases v with
    | true => exact hk g
    | false => cases hv)
end
end Go.Proofs.YtcnohbiegjahkaaGreatDoor

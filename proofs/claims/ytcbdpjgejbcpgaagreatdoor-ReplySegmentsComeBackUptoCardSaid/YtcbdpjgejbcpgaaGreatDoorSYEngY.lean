/-
  The engine, part Y: variables of which some parts are owned slices, handed to functions by pointer.
-/
import Derived.Test.YtcbdpjgejbcpgaaGreatDoorSYEngX
namespace Go.Proofs.YtcbdpjgejbcpgaaGreatDoor
set_option linter.unusedSimpArgs false
set_option linter.unusedVariables false
open Go.RowKit

theorem ownR_cons (m : Mask) (ms : List Mask) (d : DV) (ds : List DV) : ownR (m :: ms) (d :: ds) = ownC m d :: ownR ms ds := rfl
theorem ownR_nil : ownR [] [] = [] := rfl
section
variable {P : Program} {x : SC} {Q : AX → St → Prop} {σ : St} {s : Nat → SV} {h : Nat → Ch} {K : St → Prop} {sos : List SO} {α : Type} {row : α → List DV}

/-- A part that is an owned slice becomes a chunk. -/
theorem imp_openBs {id cid off n e : Nat} {cs cs' : List SV} {ms : List Mask} {l : List α} (hh : h id = .box cs) (hc : cs[off]? = some (.own (.sl e ms) (.slice (l.map row)))) (hne : id ≠ cid) (hms : ms = List.replicate n .sh) (hsz : ∀ a, (row a).length = n) (hset : (repL cid .any cs).set off (.vec cid) = cs') :
    Imp ⟨s, h⟩ ⟨repS cid .any s, upd (upd (repH cid .any h) id (.box cs')) cid (.vec e n (vrow row l))⟩ := by
  subst hms hset
  refine imp_open (σ := ⟨s, h⟩) (p := .b off) hne ?_
  have hg : getP (h id) (.b off) = some (.own (.sl e (List.replicate n .sh)) (.slice (l.map row))) := by simp only [hh, getP, hc]
  simp only [openSt, hg, openCh, List.length_replicate, ownR_sh hsz]
  simp only [hh, repC, setP]
/-- A part that is nil becomes an empty owned slice. -/
theorem imp_nilB {id cid off n e : Nat} {cs cs' : List SV} (hh : h id = .box cs) (hc : cs[off]? = some .nils) (hne : id ≠ cid) (hset : (repL cid .any cs).set off (.vec cid) = cs') :
    Imp ⟨s, h⟩ ⟨repS cid .any s, upd (upd (repH cid .any h) id (.box cs')) cid (.vec e n [])⟩ := by
  have h1 : Imp ⟨s, h⟩ ⟨s, upd h id (.box (cs.set off (.own (.sl e (List.replicate n .sh)) (.slice []))))⟩ := imp_le (fun _ => .inl rfl) fun i => by
    by_cases hi : i = id
    · subst hi
      simp only [upd, if_true, hh]
      refine chle_box ?_
      have key : ∀ (cs : List SV) (off : Nat), cs[off]? = some .nils → cellsle cs (cs.set off (.own (.sl e (List.replicate n .sh)) (.slice []))) := by
        intro cs
        induction cs with
        | nil => intro off hc; simp at hc
        | cons c cs ih =>
          intro off hc
          cases off with
          | zero => simp at hc; subst hc; exact .cons (.inr ⟨rfl, _, _, rfl⟩) cellsle.rfl
          | succ off => exact .consS (.inl rfl) (ih off (by simpa using hc))
      exact key cs off hc
    · simp only [upd, hi, if_false]; exact chle_rfl rfl
  have hlt : off < cs.length := (List.getElem?_eq_some_iff.1 hc).1
  have h2 := imp_openBs (s := s) (h := upd h id (.box (cs.set off (.own (.sl e (List.replicate n .sh)) (.slice []))))) (id := id) (cid := cid) (off := off) (n := n) (e := e) (l := ([] : List Unit)) (row := fun _ => List.replicate n .any) (by simp only [upd, if_true]; rfl) (by rw [List.getElem?_set_self hlt]; rfl) hne rfl (by simp) rfl
  refine h1.trans ?_
  have e1 : upd (upd (repH cid .any (upd h id (.box (cs.set off (.own (.sl e (List.replicate n .sh)) (.slice [])))))) id (.box ((repL cid .any (cs.set off (.own (.sl e (List.replicate n .sh)) (.slice [])))).set off (.vec cid)))) cid (.vec e n (vrow (fun _ => List.replicate n .any) ([] : List Unit))) = upd (upd (repH cid .any h) id (.box cs')) cid (.vec e n []) := by
    funext i
    simp only [upd, repH]
    by_cases hi : i = cid
    · simp [hi, vrow]
    · by_cases hi2 : i = id
      · simp only [hi2, hne, if_false, if_true]
        rw [← hset]
        congr 1
        have := repL_set cid .any (.own (.sl e (List.replicate n .sh)) (.slice [])) cs off
        simp only [repV] at this
        rw [← this, List.set_set]
      · simp [hi, hi2]
  rw [e1] at h2
  exact h2
end
theorem cle_own {x : SV} {m : Mask} {d d' : DV} (h1 : x = .own m d) (h2 : d = d') : cle x (.own m d') := by rw [h1, h2]; exact .inl (.inl rfl)
section
variable {P : Program} {x : SC} {Q : AX → St → Prop} {s : Nat → SV} {h : Nat → Ch} {K : St → Prop} {sos : List SO} {α : Type} {row : α → List DV}
theorem W_nilB {id cid off n e : Nat} {cs cs' : List SV} (hh : h id = .box cs) (hc : cs[off]? = some .nils) (hne : id ≠ cid) (hset : (repL cid .any cs).set off (.vec cid) = cs')
    (hk : AW P x Q ⟨repS cid .any s, upd (upd (repH cid .any h) id (.box cs')) cid (.vec e n [])⟩) : AW P x Q ⟨s, h⟩ := W_imp (imp_nilB hh hc hne hset) hk
/-- A pointer that may be nil. -/
def optP (row : α → List DV) : Option α → DV
  | none => .raw (.pointer none)
  | some a => .ptr (row a)
theorem f_optN : DV.raw (.pointer none) = optP row none := rfl
theorem f_optS {cs : List DV} {a : α} (h : cs = row a) : DV.ptr cs = optP row (some a) := by rw [h]; rfl
/-- In a region whose order is drawn: a growing slice, whose rows are told. -/
theorem O_appVX {R : Type} {r : R} {l l2 : List α} {rows rows2 : List (List SV)} {dst e sz id : Nat} {x y : SX} {late : List (Nat × Nat × ROp)} {kk : Option R} (hm : thenO (lenO (l.length + l2.length)) kk = some r) (hx : ev s x = .vec id) (hh : h id = .vec e sz rows) (hl1 : rows = vrow row l) (hy : rowsY (ev s y) = some rows2) (hl2 : rows2 = vrow row l2) (hsz : ∀ a, (row a).length = sz)
    (hl : Rer ⟨upd (repS id .any s) dst (.vec id), upd (repH id .any h) id (.vec e sz (vrow row (l ++ l2)))⟩ late)
    (hk : kk = some r → AOps P K sos ⟨upd (repS id .any s) dst (.vec id), upd (repH id .any h) id (.vec e sz (vrow row (l ++ l2)))⟩) : AOps P K (.x dst (.app e sz x y) late :: sos) ⟨s, h⟩ := by
  subst hl1 hl2
  cases hlo : lenO (l.length + l2.length) with
  | none => rw [hlo] at hm; cases hm
  | some u =>
    rw [hlo] at hm
    have hlen := lenO_some.1 hlo
    refine O_x (p := e = e ∧ sz = sz ∧ (∀ r ∈ vrow row l2, r.length = sz) ∧ (vrow row l).length + (vrow row l2).length ≤ 137438953472) ?_ ⟨rfl, rfl, vrow_all hsz l2, by simp only [vrow_length]; exact hlen⟩ hl (hk hm)
    simp only [wr, hx, hy, hh, growTo, St.swap, vrow_append, repR_vrow]
end
/-- The beginning of such a function. -/
def ini0 (N : Nat) (as : List DV) : Nat → SV := fun j => if j = 0 then .ref 0 0 else if j < N then (match as[j - 1]? with | some d => .d d | none => .d .any) else if j = N then .ref 0 0 else match as[j - N - 1]? with | some d => .d d | none => .d .any
attribute [push_cast] ownR_cons ownR_nil ini0 ghosts svL RV.sv
end Go.Proofs.YtcbdpjgejbcpgaaGreatDoor

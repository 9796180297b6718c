/-
  Texts of mine, one behind the other (SAY9, SAY10, SAKS, SAK1, SAUK, SAK0, SAK2).
-/
import Derived.Test.YthailknfgcegoaaGreatDoorBK3
import Derived.KernelRfl
/-
  Plain laws of the replies: the faults.
-/
namespace Go.Proofs.YthailknfgcegoaaGreatDoor
set_option linter.unusedSimpArgs false
set_option linter.unusedVariables false
open Go.RowKit
theorem isFlaw_eq (n : Int) : m57 n = some (!outside n 1 12) := by
  unfold m57 w15; dsimp only
  simp only [outside_eq, Option.bind_some]
def flawN (a b c d : Bool) : Int := bif a then 4 else bif b then 1 else bif c then 3 else bif d then 8 else 0
def flawAt (l : List Fl) (i : Nat) : Int := match l[i]?, l[i - 1]? with
  | some e, some p => flawN (outside e.fKind 1 12) (outside e.fSegment 0 2000 || outside e.fAt.fElement 0 51 || outside e.fAt.fRepeat 0 21 || outside e.fAt.fPart 0 21)
    (!decide (e.fName = []) && !tagF e.fName && !nameF e.fName) (decide (0 < i) && decide (e.fSegment < p.fSegment))
  | _, _ => 0
def flawsF (l : List Fl) : Int := if 500 < l.length then 2 else firstF (flawAt l) 0 l.length
theorem big_dec (n k : Nat) : decide ((k : Int) < (n : Int)) = decide (k < n) := by congr 1; apply propext; omega
theorem flaws_eq (l : List Fl) (hl : l.length ≤ MX) (hn : ∀ f ∈ l, f.fName.length ≤ MX) : m64 l = some (flawsF l) := by
  have hl' := hl
  unfold MX at hl'
  unfold m64 w16; dsimp only
  rw [show decide ((500 : Int) < (l.length : Int)) = decide (500 < l.length) from big_dec l.length 500]
  unfold flawsF
  by_cases hb : 500 < l.length
  · simp [hb]
  · simp only [hb, decide_false, cond_false, if_false]
    refine (loop_fS (fun i : Nat => (i : Int)) (n := l.length) (g := flawAt l) (fun i hi => ?_) (by simp only [lt_dec_self, cond_false]; rfl) _).trans ?_
    · obtain ⟨e, he⟩ := get_lt hi
      obtain ⟨p, hp⟩ := get_lt (l := l) (i := i - 1) (by omega)
      have hs := hn e (List.mem_of_getElem? he)
      simp only [lt_dec hi, cond_true, getI_nat, he, Option.bind_some, isFlaw_eq, outside_eq, orO_some, andO_some, w_tag _ hs, w_name _ hs, prev_eq l i hp hl hi (fun e_1 => some (decide (e.fSegment < e_1.fSegment))) rfl, wrapN i (by omega), flawAt, hp]
      generalize outside e.fKind 1 12 = a
      generalize (outside e.fSegment 0 2000 || outside e.fAt.fElement 0 51 || outside e.fAt.fRepeat 0 21 || outside e.fAt.fPart 0 21) = b
      generalize (!decide (e.fName = []) && !tagF e.fName && !nameF e.fName) = c
      generalize (decide (0 < i) && decide (e.fSegment < p.fSegment)) = d
      cases a <;> cases b <;> cases c <;> cases d <;> rfl
    · split
      · rename_i h; rw [h]
      · rfl
theorem flawsR_eq (l : List Fl) (hl : l.length ≤ MX) (hn : ∀ f ∈ l, f.fName.length ≤ MX) : m61 l = some (flawsF l) := by
  have hl' := hl
  unfold MX at hl'
  unfold m61 w15; dsimp only
  rw [show decide ((500 : Int) < (l.length : Int)) = decide (500 < l.length) from big_dec l.length 500]
  unfold flawsF
  by_cases hb : 500 < l.length
  · simp [hb]
  · simp only [hb, decide_false, cond_false, if_false]
    refine (loop_fS (fun i : Nat => (i : Int)) (n := l.length) (g := flawAt l) (fun i hi => ?_) (by simp only [lt_dec_self, cond_false]; rfl) _).trans ?_
    · obtain ⟨e, he⟩ := get_lt hi
      obtain ⟨p, hp⟩ := get_lt (l := l) (i := i - 1) (by omega)
      have hs := hn e (List.mem_of_getElem? he)
      simp only [lt_dec hi, cond_true, getI_nat, he, Option.bind_some, within_eq, orO_some, andO_some, r_tag _ hs, r_name _ hs, prev_eq l i hp hl hi (fun e_1 => some (decide (e.fSegment < e_1.fSegment))) rfl, wrapN i (by omega), flawAt, hp, Bool.not_not]
      generalize outside e.fKind 1 12 = a
      generalize (outside e.fSegment 0 2000 || outside e.fAt.fElement 0 51 || outside e.fAt.fRepeat 0 21 || outside e.fAt.fPart 0 21) = b
      generalize (!decide (e.fName = []) && !tagF e.fName && !nameF e.fName) = c
      generalize (decide (0 < i) && decide (e.fSegment < p.fSegment)) = d
      cases a <;> cases b <;> cases c <;> cases d <;> rfl
    · split
      · rename_i h; rw [h]
      · rfl
def failN (a b : Bool) : Int := bif a then (bif b then 8 else 0) else 5
def failAt (l : List (List UInt8)) (i : Nat) : Int := match l[i]?, l[i - 1]? with
  | some e, some p => failN (nameF e) (decide (0 < i) && (Op.bytesLess e p || decide (e = p)))
  | _, _ => 0
def someM (m : Mr) : Bool := decide (0 < m.fFlaws.length) || decide (0 < m.fFailing.length)
def msgN (a b c d : Bool) (fl : Int) (g : Bool) (fr : Int) (e : Bool) : Int :=
  bif !a then 3 else bif !b then 4 else bif c then 7 else bif d then 12 else bif !decide (fl = 0) then fl else bif g then 2 else if fr = 0 then (bif e then 12 else 0) else fr
def msgF (m : Mr) (twice : Bool) : Int :=
  msgN (isRef m.fRef) (isVerdict m.fVerdict) twice (m.fUnknown && (!decide (m.fVerdict = 3) || someM m)) (flawsF m.fFlaws) (decide (200 < m.fFailing.length)) (firstF (failAt m.fFailing) 0 m.fFailing.length) (decide (m.fVerdict = 1) && someM m)
theorem pos_dec (n : Nat) : decide (0 < (n : Int)) = decide (0 < n) := by congr 1; apply propext; omega
theorem msg_eq (m : Mr) (h : MsgOk m) (l : List Mr) (hl : l.length ≤ MX) : m67 m l = some (msgF m (l.any fun o => decide (o.fRef = m.fRef))) := by
  have hf := h.fails
  unfold MX at hf
  have h1 : ∀ a, m48 a m = some (decide (a.fRef = m.fRef)) := fun a => by unfold m48 w14; dsimp only
  unfold m67 w17; dsimp only
  simp only [orO_some, andO_some, Option.bind_some, isRef_eq _ h.ref, isVerdict_eq, anyM_eq l hl _ _ _ _ _ h1, flaws_eq _ h.flaws h.names, pos_dec]
  rw [show decide ((200 : Int) < (m.fFailing.length : Int)) = decide (200 < m.fFailing.length) from big_dec m.fFailing.length 200]
  unfold msgF
  have hsm : (decide (0 < m.fFlaws.length) || decide (0 < m.fFailing.length)) = someM m := rfl
  rw [hsm]
  unfold msgN
  cases isRef m.fRef with
  | false => rfl
  | true =>
  cases isVerdict m.fVerdict with
  | false => rfl
  | true =>
  cases (l.any fun o => decide (o.fRef = m.fRef)) with
  | true => rfl
  | false =>
  cases (m.fUnknown && (!decide (m.fVerdict = 3) || someM m)) with
  | true => rfl
  | false =>
  cases hz : decide (flawsF m.fFlaws = 0) with
  | false => rfl
  | true =>
  cases hb : decide (200 < m.fFailing.length) with
  | true => rfl
  | false =>
  simp only [Bool.not_true, cond_false]
  refine (loop_fS (fun i : Nat => (i : Int)) (n := m.fFailing.length) (g := failAt m.fFailing) (fun i hi => ?_) (by simp only [lt_dec_self, cond_false]; rfl) _).trans ?_
  · obtain ⟨e, he⟩ := get_lt hi
    obtain ⟨p, hp⟩ := get_lt (l := m.fFailing) (i := i - 1) (by omega)
    have hs := h.fail e (List.mem_of_getElem? he)
    simp only [lt_dec hi, cond_true, getI_nat, he, Option.bind_some, w_name _ hs, prev_eq m.fFailing i hp h.fails hi (fun e_1 => some (Op.bytesLess e e_1 || decide (e = e_1))) rfl, wrapN i (by omega), failAt, hp]
    generalize nameF e = a
    generalize (decide (0 < i) && (Op.bytesLess e p || decide (e = p))) = b
    cases a <;> cases b <;> rfl
  · by_cases hq : firstF (failAt m.fFailing) 0 m.fFailing.length = 0
    · rw [if_pos hq, if_pos hq]; cases decide (m.fVerdict = 1) && someM m <;> rfl
    · rw [if_neg hq, if_neg hq]
end Go.Proofs.YthailknfgcegoaaGreatDoor

/-
  Plain laws of the replies: messages of the reference, groups, CheckReply.
-/
namespace Go.Proofs.YthailknfgcegoaaGreatDoor
set_option linter.unusedSimpArgs false
set_option linter.unusedVariables false
open Go.RowKit
theorem before_eq {α : Type} (l : List α) (i : Nat) (hi : i ≤ l.length) (hl : l.length ≤ MX) (q : α → Bool) {f : Int → Option (Int ⊕ (Int ⊕ Int))} (K : Int → Option Int)
    (hf : ∀ k o, k < i → l[k]? = some o → f (k : Int) = bif q o then some (.inr (.inr 7)) else some (.inl ((k + 1 : Nat) : Int))) (he : f (i : Int) = some (.inr (.inl (i : Int)))) :
    (loopC f 0).bind (outK K) = bif (l.take i).any q then some 7 else K (i : Int) := by
  refine (loop_fS (fun i : Nat => (i : Int)) (n := i) (g := anyAt l q 7) (fun k hk => ?_) he K).trans ?_
  · obtain ⟨o, ho⟩ := get_lt (l := l) (i := k) (by omega)
    rw [hf k o hk ho]
    simp only [anyAt, ho]
    cases q o <;> rfl
  · rw [firstF_any l q 7 (by decide) i hi]
    cases (l.take i).any q <;> rfl
theorem msgR_eq (l : List Mr) (i : Nat) {m : Mr} (hm : l[i]? = some m) (h : MsgOk m) (hl : l.length ≤ MX) : m66 l i = some (msgF m ((l.take i).any fun o => decide (o.fRef = m.fRef))) := by
  have hf := h.fails
  have hil := get_le hm
  have hl' := hl
  unfold MX at hf hl'
  unfold m66 w16; dsimp only
  simp only [getI_nat, hm, orO_some, andO_some, Option.bind_some, isReference_eq _ h.ref, isVerdictR_eq, flawsR_eq _ h.flaws h.names, pos_dec]
  rw [show decide ((200 : Int) < (m.fFailing.length : Int)) = decide (200 < m.fFailing.length) from big_dec m.fFailing.length 200]
  unfold msgF
  have hsm : (decide (0 < m.fFlaws.length) || decide (0 < m.fFailing.length)) = someM m := rfl
  rw [Bool.or_assoc, hsm]
  unfold msgN
  cases isRef m.fRef with
  | false => rfl
  | true =>
  cases isVerdict m.fVerdict with
  | false => rfl
  | true =>
  simp only [Bool.not_true, cond_false]
  rw [before_eq l i (by omega) hl (fun o => decide (o.fRef = m.fRef)) _ (fun k o hk ho => by
    simp only [lt_dec hk, cond_true, getI_nat, ho, Option.bind_some, wrapN k (by omega)]
    cases decide (o.fRef = m.fRef) <;> rfl) (by simp only [lt_dec_self, cond_false]; rfl)]
  cases ((l.take i).any fun o => decide (o.fRef = m.fRef)) with
  | true => rfl
  | false =>
  cases (m.fUnknown && (!decide (m.fVerdict = 3) || someM m)) with
  | true => rfl
  | false =>
  cases hz : decide (flawsF m.fFlaws = 0) with
  | false => rfl
  | true =>
  cases hb : decide (200 < m.fFailing.length) with
  | true => rfl
  | false =>
  simp only [Bool.not_true, cond_false]
  refine (loop_fS (fun i : Nat => (i : Int)) (n := m.fFailing.length) (g := failAt m.fFailing) (fun i hi => ?_) (by simp only [lt_dec_self, cond_false]; rfl) _).trans ?_
  · obtain ⟨e, he⟩ := get_lt hi
    obtain ⟨p, hp⟩ := get_lt (l := m.fFailing) (i := i - 1) (by omega)
    have hs := h.fail e (List.mem_of_getElem? he)
    simp only [lt_dec hi, cond_true, getI_nat, he, Option.bind_some, r_name _ hs, prev_eq m.fFailing i hp h.fails hi (fun e_1 => some (Op.bytesLess e e_1 || decide (e = e_1))) rfl, wrapN i (by omega), failAt, hp]
    generalize nameF e = a
    generalize (decide (0 < i) && (Op.bytesLess e p || decide (e = p))) = b
    cases a <;> cases b <;> rfl
  · by_cases hq : firstF (failAt m.fFailing) 0 m.fFailing.length = 0
    · rw [if_pos hq, if_pos hq]; cases decide (m.fVerdict = 1) && someM m <;> rfl
    · rw [if_neg hq, if_neg hq]
def msgAt (l : List Mr) (i : Nat) : Int := match l[i]? with
  | some m => msgF m ((l.take i).any fun o => decide (o.fRef = m.fRef))
  | none => 0
def grpN (a b c : Bool) (fm : Int) (e : Bool) : Int := bif !a then 3 else bif !b then 4 else bif c then 7 else if fm = 0 then (bif e then 12 else 0) else fm
def grpF (g : Gr) (twice : Bool) : Int := grpN (isRef g.fRef) (isVerdict g.fVerdict) twice (firstF (msgAt g.fMessages) 0 g.fMessages.length) (!decide (vG g = g.fVerdict))
theorem grp_eq (g : Gr) (h : GrpOk g) (l : List Gr) (hl : l.length ≤ MX) : m71 g l = some (grpF g (l.any fun o => decide (o.fRef = g.fRef))) := by
  have hlen := h.len
  have h1 : ∀ a, m46 a g = some (decide (a.fRef = g.fRef)) := fun a => by unfold m46 w14; dsimp only
  unfold m71 w18; dsimp only
  simp only [Option.bind_some, isRef_eq _ h.ref, isVerdict_eq, anyG_eq l hl _ _ _ _ _ h1, vG_eq g h.len]
  unfold grpF grpN
  cases isRef g.fRef with
  | false => rfl
  | true =>
  cases isVerdict g.fVerdict with
  | false => rfl
  | true =>
  cases (l.any fun o => decide (o.fRef = g.fRef)) with
  | true => rfl
  | false =>
  simp only [Bool.not_true, cond_false]
  refine (loop_fS (fun i : Nat => (i : Int)) (n := g.fMessages.length) (g := msgAt g.fMessages) (fun i hi => ?_) (by simp only [lt_dec_self, cond_false]; rfl) _).trans ?_
  · obtain ⟨e, he⟩ := get_lt hi
    have hs := h.msg e (List.mem_of_getElem? he)
    have hsl : sliceI g.fMessages ((none : Option Int).getD 0) ((some (i : Int)).getD (g.fMessages.length : Int)) = some (g.fMessages.take i) := sliceI_take g.fMessages i (by omega)
    simp only [lt_dec hi, cond_true, getI_nat, he, Option.bind_some, hsl, msg_eq e hs _ (show (g.fMessages.take i).length ≤ MX by rw [List.length_take]; unfold MX; omega), wrapN i (by omega), msgAt]
    generalize msgF e _ = a
    by_cases ha : a = 0 <;> simp [ha, inrO]
  · by_cases hq : firstF (msgAt g.fMessages) 0 g.fMessages.length = 0
    · rw [if_pos hq, if_pos hq]; cases decide (vG g = g.fVerdict) <;> rfl
    · rw [if_neg hq, if_neg hq]
theorem grpR_eq (l : List Gr) (i : Nat) {g : Gr} (hg : l[i]? = some g) (h : GrpOk g) (hl : l.length ≤ MX) : m70 l i = some (grpF g ((l.take i).any fun o => decide (o.fRef = g.fRef))) := by
  have hlen := h.len
  have hil := get_le hg
  have hl' := hl
  unfold MX at hl'
  unfold m70 w17; dsimp only
  simp only [getI_nat, hg, Option.bind_some, isReference_eq _ h.ref, isVerdictR_eq, vGR_eq g h.len]
  unfold grpF grpN
  cases isRef g.fRef with
  | false => rfl
  | true =>
  cases isVerdict g.fVerdict with
  | false => rfl
  | true =>
  simp only [Bool.not_true, cond_false]
  rw [before_eq l i (by omega) hl (fun o => decide (o.fRef = g.fRef)) _ (fun k o hk ho => by
    simp only [lt_dec hk, cond_true, getI_nat, ho, Option.bind_some, wrapN k (by omega)]
    cases decide (o.fRef = g.fRef) <;> rfl) (by simp only [lt_dec_self, cond_false]; rfl)]
  cases ((l.take i).any fun o => decide (o.fRef = g.fRef)) with
  | true => rfl
  | false =>
  simp only [cond_false]
  refine (loop_fS (fun i : Nat => (i : Int)) (n := g.fMessages.length) (g := msgAt g.fMessages) (fun i hi => ?_) (by simp only [lt_dec_self, cond_false]; rfl) _).trans ?_
  · obtain ⟨e, he⟩ := get_lt hi
    have hs := h.msg e (List.mem_of_getElem? he)
    simp only [lt_dec hi, cond_true, msgR_eq g.fMessages i he hs (show g.fMessages.length ≤ MX by unfold MX; omega), Option.bind_some, wrapN i (by omega), msgAt, he]
    generalize msgF e _ = a
    by_cases ha : a = 0 <;> simp [ha, inrO]
  · by_cases hq : firstF (msgAt g.fMessages) 0 g.fMessages.length = 0
    · rw [if_pos hq, if_pos hq]
      rw [show decide (g.fVerdict = vG g) = decide (vG g = g.fVerdict) from by congr 1; apply propext; exact eq_comm]
      cases decide (vG g = g.fVerdict) <;> rfl
    · rw [if_neg hq, if_neg hq]
def grpAt (l : List Gr) (i : Nat) : Int := match l[i]? with
  | some g => grpF g ((l.take i).any fun o => decide (o.fRef = g.fRef))
  | none => 0
def manyF (l : List Gr) : Int := l.foldl (fun n g => IntKind.i64.wrap (n + (g.fMessages.length : Int))) 0
def rpN (a b c : Bool) (fg : Int) (d e : Bool) : Int := bif !a then 3 else bif !b then 4 else bif c then 2 else if fg = 0 then (bif d then 2 else bif e then 12 else 0) else fg
def rpF (r : Rp) : Int := rpN (isRef r.fRef) (isVerdict r.fVerdict) (decide (50 < r.fGroups.length)) (firstF (grpAt r.fGroups) 0 r.fGroups.length) (decide (200 < manyF r.fGroups)) (!decide (vR r = r.fVerdict))
theorem rep_eq (r : Rp) (h : RepOk r) : m73 r = some (rpF r) := by
  have hlen := h.len
  unfold MX at hlen
  unfold m73 w19; dsimp only
  rw [show decide ((50 : Int) < (r.fGroups.length : Int)) = decide (50 < r.fGroups.length) from big_dec r.fGroups.length 50]
  simp only [Option.bind_some, isRef_eq _ h.ref, isVerdict_eq]
  unfold rpF rpN
  cases isRef r.fRef with
  | false => rfl
  | true =>
  cases isVerdict r.fVerdict with
  | false => rfl
  | true =>
  by_cases hb : 50 < r.fGroups.length
  · simp [hb]
  simp only [hb, decide_false, Bool.not_true, cond_false, vR_eq r (by omega), Option.bind_some]
  refine (loop_fS (fun i : Nat => (manyF (r.fGroups.take i), (i : Int))) (n := r.fGroups.length) (g := grpAt r.fGroups) (fun i hi => ?_) (by simp only [lt_dec_self, cond_false]; rfl) _).trans ?_
  · obtain ⟨e, he⟩ := get_lt hi
    have hs := h.grp e (List.mem_of_getElem? he)
    have hsl : sliceI r.fGroups ((none : Option Int).getD 0) ((some (i : Int)).getD (r.fGroups.length : Int)) = some (r.fGroups.take i) := sliceI_take r.fGroups i (by omega)
    have hm : manyF (r.fGroups.take (i + 1)) = IntKind.i64.wrap (manyF (r.fGroups.take i) + (e.fMessages.length : Int)) := foldl_snoc he
    simp only [lt_dec hi, cond_true, getI_nat, he, Option.bind_some, hsl, grp_eq e hs _ (show (r.fGroups.take i).length ≤ MX by rw [List.length_take]; unfold MX; omega), wrapN i (by omega), grpAt, hm]
    generalize grpF e _ = a
    by_cases ha : a = 0 <;> simp [ha, inrO]
  · by_cases hq : firstF (grpAt r.fGroups) 0 r.fGroups.length = 0
    · rw [if_pos hq, if_pos hq]
      simp only [List.take_length]
      cases decide (200 < manyF r.fGroups) <;> cases decide (vR r = r.fVerdict) <;> rfl
    · rw [if_neg hq, if_neg hq]
theorem repR_eq (r : Rp) (h : RepOk r) : m72 r = some (rpF r) := by
  have hlen := h.len
  unfold MX at hlen
  unfold m72 w18; dsimp only
  rw [show decide ((50 : Int) < (r.fGroups.length : Int)) = decide (50 < r.fGroups.length) from big_dec r.fGroups.length 50]
  simp only [Option.bind_some, isReference_eq _ h.ref, isVerdictR_eq]
  unfold rpF rpN
  cases isRef r.fRef with
  | false => rfl
  | true =>
  cases isVerdict r.fVerdict with
  | false => rfl
  | true =>
  by_cases hb : 50 < r.fGroups.length
  · simp [hb]
  simp only [hb, decide_false, Bool.not_true, cond_false, vRR_eq r (by omega), Option.bind_some]
  refine (loop_fS (fun i : Nat => (manyF (r.fGroups.take i), (i : Int))) (n := r.fGroups.length) (g := grpAt r.fGroups) (fun i hi => ?_) (by simp only [lt_dec_self, cond_false]; rfl) _).trans ?_
  · obtain ⟨e, he⟩ := get_lt hi
    have hs := h.grp e (List.mem_of_getElem? he)
    have hm : manyF (r.fGroups.take (i + 1)) = IntKind.i64.wrap (manyF (r.fGroups.take i) + (e.fMessages.length : Int)) := foldl_snoc he
    simp only [lt_dec hi, cond_true, grpR_eq r.fGroups i he hs h.len, getI_nat, he, Option.bind_some, wrapN i (by omega), grpAt, hm]
    generalize grpF e _ = a
    by_cases ha : a = 0 <;> simp [ha, inrO]
  · by_cases hq : firstF (grpAt r.fGroups) 0 r.fGroups.length = 0
    · rw [if_pos hq, if_pos hq]
      simp only [List.take_length]
      rw [show decide (r.fVerdict = vR r) = decide (vR r = r.fVerdict) from by congr 1; apply propext; exact eq_comm]
      cases decide (200 < manyF r.fGroups) <;> cases decide (vR r = r.fVerdict) <;> rfl
    · rw [if_neg hq, if_neg hq]
end Go.Proofs.YthailknfgcegoaaGreatDoor

/-
  Segments: when they are right; sameness.
-/
namespace Go.Proofs.YthailknfgcegoaaGreatDoor
set_option linter.unusedSimpArgs false
set_option linter.unusedVariables false
open Go.RowKit
theorem listF_all {α : Type} {h : α → Int} : ∀ {l : List α}, (∀ e ∈ l, h e = 0) → listF h l = 0
  | [], _ => rfl
  | e :: l, hl => by
    unfold listF
    rw [if_pos (hl e (by simp))]
    exact listF_all fun e he => hl e (by simp [he])
theorem repF_iff {l : List (List UInt8)} : repF l = 0 ↔ (1 ≤ l.length ∧ l.length ≤ 20 ∧ ∀ t ∈ l, textF t = 0) := by
  unfold repF
  by_cases h1 : l.length = 0
  · simp [h1]
  · by_cases h2 : 20 < l.length
    · simp [h1, h2]; omega
    · rw [if_neg h1, if_neg h2]
      exact ⟨fun h => ⟨by omega, by omega, listF_zero h⟩, fun h => listF_all h.2.2⟩
theorem elemF_iff {e : T1} : elemF e = 0 ↔ (1 ≤ e.fRepeats.length ∧ e.fRepeats.length ≤ 20 ∧ ∀ t ∈ e.fRepeats, repF t = 0) := by
  unfold elemF
  by_cases h1 : e.fRepeats.length = 0
  · simp [h1]
  · by_cases h2 : 20 < e.fRepeats.length
    · simp [h1, h2]; omega
    · rw [if_neg h1, if_neg h2]
      exact ⟨fun h => ⟨by omega, by omega, listF_zero h⟩, fun h => listF_all h.2.2⟩
theorem segF_iff {s : T2} : segF s = 0 ↔ (tagF s.fTag = true ∧ s.fElements.length ≤ 50 ∧ ∀ e ∈ s.fElements, elemF e = 0) := by
  unfold segF
  by_cases h1 : tagF s.fTag = false
  · simp [h1]
  · by_cases h2 : 50 < s.fElements.length
    · simp [h1, h2]; intro h; omega
    · rw [if_neg h1, if_neg h2]
      exact ⟨fun h => ⟨by simpa using h1, by omega, listF_zero h⟩, fun h => listF_all h.2.2⟩
theorem seg_ok {s : T2} (h : segF s = 0) : cloneOk s := by
  obtain ⟨_, h2, h3⟩ := segF_iff.1 h
  refine ⟨by omega, fun e he => ?_⟩
  obtain ⟨_, h5, h6⟩ := elemF_iff.1 (h3 e he)
  refine ⟨by omega, fun p hp => ?_⟩
  obtain ⟨_, h8, _⟩ := repF_iff.1 (h6 p hp)
  omega
theorem sameTexts_refl (l : List (List UInt8)) (hl : l.length ≤ 137438953472) : m78 l l = some true := by
  unfold m78 w20; dsimp only
  simp only [decide_true, Bool.not_true, cond_false]
  refine bind_loop (a := .inl (l.length : Int)) (loop_trace (fun i => (i : Int)) l.length (fun i hi => ?_) ?_) rfl
  · obtain ⟨e, he⟩ := get_lt hi
    simp only [lt_dec hi, cond_true, getI_nat, he, Option.bind_some, decide_true, Bool.not_true, cond_false, wrapN i (by omega)]
  · simp only [lt_dec_self, cond_false]; rfl
theorem sameSeg_refl (x : T2) (hx : cloneOk x) : m82 x x = some true := by
  obtain ⟨h1, h2⟩ := hx
  unfold m82 w22; dsimp only
  simp only [decide_true, Bool.not_true, orO_some, Bool.or_self, Option.bind_some, cond_false]
  refine bind_loop (a := .inl (x.fElements.length : Int)) (loop_trace (fun i => (i : Int)) x.fElements.length (fun i hi => ?_) ?_) rfl
  · obtain ⟨e, he⟩ := get_lt hi
    obtain ⟨h3, h4⟩ := h2 e (List.mem_of_getElem? he)
    simp only [lt_dec hi, cond_true, getI_nat, he, Option.bind_some, decide_true, Bool.not_true, cond_false, wrapN i (by omega)]
    refine bind_loop (a := .inl (e.fRepeats.length : Int)) (loop_trace (fun i => (i : Int)) e.fRepeats.length (fun k hk => ?_) ?_) rfl
    · obtain ⟨p, hp⟩ := get_lt hk
      simp only [lt_dec hk, cond_true, getI_nat, hp, Option.bind_some, sameTexts_refl p (h4 p (List.mem_of_getElem? hp)), Bool.not_true, cond_false, wrapN k (by omega)]
    · simp only [lt_dec_self, cond_false]; rfl
  · simp only [lt_dec_self, cond_false]; rfl
theorem sameSegs_refl (l : List T2) (hl : l.length ≤ 137438953472) (hx : ∀ x ∈ l, cloneOk x) : m87 l l = some true := by
  unfold m87 w24; dsimp only
  simp only [decide_true, Bool.not_true, cond_false]
  refine bind_loop (a := .inl (l.length : Int)) (loop_trace (fun i => (i : Int)) l.length (fun i hi => ?_) ?_) rfl
  · obtain ⟨e, he⟩ := get_lt hi
    simp only [lt_dec hi, cond_true, getI_nat, he, Option.bind_some, sameSeg_refl e (hx e (List.mem_of_getElem? he)), Bool.not_true, cond_false, wrapN i (by omega)]
  · simp only [lt_dec_self, cond_false]; rfl
theorem segs_in {l : List T2} (h : segsF l = 0) : l.length ≤ 2000 ∧ ∀ x ∈ l, segF x = 0 := by
  unfold segsF at h
  by_cases h1 : 2000 < l.length
  · simp [h1] at h
  · rw [if_neg h1] at h; exact ⟨by omega, listF_zero h⟩
end Go.Proofs.YthailknfgcegoaaGreatDoor

/-
  Plain laws of interchanges: CheckInterchange on both sides.
-/
namespace Go.Proofs.YthailknfgcegoaaGreatDoor
set_option linter.unusedSimpArgs false
set_option linter.unusedVariables false
open Go.RowKit
abbrev Ms := T3
abbrev Gp := T4
abbrev Ix := T5
structure MsOk (m : Ms) : Prop where
  ref : m.fRef.length ≤ MX
  kind : m.fKind.length ≤ MX
  ver : m.fVersion.length ≤ MX
  len : m.fSegments.length ≤ 1048576
  tags : TagsShort m.fSegments
structure GpOk (g : Gp) : Prop where
  ref : g.fRef.length ≤ MX
  kind : g.fKind.length ≤ MX
  len : g.fMessages.length ≤ 1048576
  msg : ∀ m ∈ g.fMessages, MsOk m
structure IxOk (x : Ix) : Prop where
  ref : x.fRef.length ≤ MX
  snd : x.fSender.length ≤ MX
  rcv : x.fReceiver.length ≤ MX
  len : x.fGroups.length ≤ 1048576
  grp : ∀ g ∈ x.fGroups, GpOk g
theorem loop_allB {R : Type} (n : Nat) (q : Nat → Bool) (z : R) {f : Int → Option (Int ⊕ (Int ⊕ R))} (K : Int → Option R)
    (hf : ∀ i : Nat, i < n → f (i : Int) = bif q i then some (.inl ((i + 1 : Nat) : Int)) else some (.inr (.inr z))) (he : f (n : Int) = some (.inr (.inl (n : Int)))) :
    (loopC f 0).bind (outK K) = if (List.range n).all q = true then K (n : Int) else some z := by
  have h := loop_first (f := f) (z := .inl (n : Int)) (fun i : Nat => (i : Int)) n (fun i => if q i = true then none else some (.inr z)) (fun i hi hg => by
    rw [hf i hi]
    cases hq : q i with
    | true => rfl
    | false => simp [hq] at hg) (fun i a hi hg => by
    rw [hf i hi]
    cases hq : q i with
    | true => simp [hq] at hg
    | false => simp only [hq, Bool.false_eq_true, if_false, Option.some.injEq] at hg; simp only [cond_false, hg]) he
  rw [show ((0 : Nat) : Int) = 0 from rfl] at h
  rw [h]
  rcases firstS_cases (fun i => if q i = true then (none : Option (Int ⊕ R)) else some (.inr z)) n with ⟨h1, h2⟩ | ⟨k, a, h1, h2, h3, h4⟩
  · have : (List.range n).all q = true := by
      rw [List.all_eq_true]
      intro i hi
      have := h2 i (List.mem_range.1 hi)
      cases hq : q i with
      | true => rfl
      | false => simp [hq] at this
    rw [h1, if_pos this]; rfl
  · have hk : q k = false := by
      cases hq : q k with
      | false => rfl
      | true => simp [hq] at h3
    have : ¬ (List.range n).all q = true := by
      rw [List.all_eq_true]
      intro hall
      have := hall k (List.mem_range.2 h1)
      rw [hk] at this; cases this
    rw [h4, if_neg this]
    simp only [hk, Bool.false_eq_true, if_false, Option.some.injEq] at h3
    rw [← h3]; rfl
theorem firstF_zero {f : Nat → Int} : ∀ {n i : Nat}, firstF f i n = 0 → ∀ j, i ≤ j → j < i + n → f j = 0
  | 0, i, _, j, h1, h2 => by omega
  | n + 1, i, h, j, h1, h2 => by
    unfold firstF at h
    by_cases hz : f i = 0
    · rw [if_neg (by simpa using hz)] at h
      rcases Nat.lt_or_ge i j with hlt | hge
      · exact firstF_zero h j (by omega) (by omega)
      · obtain rfl : j = i := by omega
        exact hz
    · rw [if_pos hz] at h; exact absurd h hz
theorem anyIG_eq (l : List Gp) (hl : l.length ≤ MX) (f1 : FuncId) (c1 : List DV) (p1 : Gp → Option Bool) (h1) (q : Gp → Bool) (hq : ∀ a, p1 a = some (q a)) :
    m36 l f1 c1 p1 h1 = some (l.any q) := by
  unfold MX at hl
  unfold m36 w10; dsimp only
  unfold m23 w9; dsimp only
  generalize hf : (fun s : Int => _) = f
  have key := loop_first (f := f) (z := .inl (l.length : Int)) (fun i : Nat => (i : Int)) l.length (fun i => match l[i]? with | some o => if q o = true then some (.inr (i : Int)) else none | none => none) (fun i hi hg => by
    subst hf
    obtain ⟨e, he⟩ := get_lt hi
    simp only [he] at hg
    cases hb : q e with
    | true => simp [hb] at hg
    | false => simp only [lt_dec hi, cond_true, getI_nat, he, Option.bind_some, hq, hb, cond_false, wrapN i (by omega)]) (fun i a hi hg => by
    subst hf
    obtain ⟨e, he⟩ := get_lt hi
    simp only [he] at hg
    cases hb : q e with
    | false => simp [hb] at hg
    | true =>
      simp only [hb, if_true, Option.some.injEq] at hg
      simp only [lt_dec hi, cond_true, getI_nat, he, Option.bind_some, hq, hb, ← hg]; rfl) (by
    subst hf
    simp only [lt_dec_self, cond_false]; rfl)
  rw [show ((0 : Nat) : Int) = 0 from rfl] at key
  rw [key]
  rcases firstS_cases (fun i => match l[i]? with | some o => if q o = true then some (.inr (i : Int)) else none | none => (none : Option (Int ⊕ Int))) l.length with ⟨h1, h2⟩ | ⟨k, a, h1, h2, h3, h4⟩
  · rw [h1]
    have : l.any q = false := by
      rw [List.any_eq_false]
      intro x hx
      obtain ⟨i, hi, rfl⟩ := List.mem_iff_getElem.1 hx
      have := h2 i hi
      simp only [List.getElem?_eq_getElem hi] at this
      intro hb; simp [hb] at this
    rw [this]; rfl
  · rw [h4]
    obtain ⟨e, he⟩ := get_lt h1
    simp only [he] at h3
    cases hb : q e with
    | false => simp [hb] at h3
    | true =>
      simp only [hb, if_true, Option.some.injEq] at h3
      have : l.any q = true := List.any_eq_true.2 ⟨e, List.mem_of_getElem? he, hb⟩
      rw [this, ← h3]
      simp [outK]
theorem anyIM_eq (l : List Ms) (hl : l.length ≤ MX) (f1 : FuncId) (c1 : List DV) (p1 : Ms → Option Bool) (h1) (q : Ms → Bool) (hq : ∀ a, p1 a = some (q a)) :
    m37 l f1 c1 p1 h1 = some (l.any q) := by
  unfold MX at hl
  unfold m37 w10; dsimp only
  unfold m25 w9; dsimp only
  generalize hf : (fun s : Int => _) = f
  have key := loop_first (f := f) (z := .inl (l.length : Int)) (fun i : Nat => (i : Int)) l.length (fun i => match l[i]? with | some o => if q o = true then some (.inr (i : Int)) else none | none => none) (fun i hi hg => by
    subst hf
    obtain ⟨e, he⟩ := get_lt hi
    simp only [he] at hg
    cases hb : q e with
    | true => simp [hb] at hg
    | false => simp only [lt_dec hi, cond_true, getI_nat, he, Option.bind_some, hq, hb, cond_false, wrapN i (by omega)]) (fun i a hi hg => by
    subst hf
    obtain ⟨e, he⟩ := get_lt hi
    simp only [he] at hg
    cases hb : q e with
    | false => simp [hb] at hg
    | true =>
      simp only [hb, if_true, Option.some.injEq] at hg
      simp only [lt_dec hi, cond_true, getI_nat, he, Option.bind_some, hq, hb, ← hg]; rfl) (by
    subst hf
    simp only [lt_dec_self, cond_false]; rfl)
  rw [show ((0 : Nat) : Int) = 0 from rfl] at key
  rw [key]
  rcases firstS_cases (fun i => match l[i]? with | some o => if q o = true then some (.inr (i : Int)) else none | none => (none : Option (Int ⊕ Int))) l.length with ⟨h1, h2⟩ | ⟨k, a, h1, h2, h3, h4⟩
  · rw [h1]
    have : l.any q = false := by
      rw [List.any_eq_false]
      intro x hx
      obtain ⟨i, hi, rfl⟩ := List.mem_iff_getElem.1 hx
      have := h2 i hi
      simp only [List.getElem?_eq_getElem hi] at this
      intro hb; simp [hb] at this
    rw [this]; rfl
  · rw [h4]
    obtain ⟨e, he⟩ := get_lt h1
    simp only [he] at h3
    cases hb : q e with
    | false => simp [hb] at h3
    | true =>
      simp only [hb, if_true, Option.some.injEq] at h3
      have : l.any q = true := List.any_eq_true.2 ⟨e, List.mem_of_getElem? he, hb⟩
      rw [this, ← h3]
      simp [outK]
theorem containsS_eq (l : List (List UInt8)) (t : List UInt8) (hl : l.length ≤ 1048576) : m38 l t = some (l.any fun e => decide (t = e)) := by
  unfold m38 w10; dsimp only
  unfold m27 w9; dsimp only
  generalize hf : (fun s : Int => _) = f
  have key := loop_first (f := f) (z := .inl (l.length : Int)) (fun i : Nat => (i : Int)) l.length (fun i => match l[i]? with | some o => if t = o then some (.inr (i : Int)) else none | none => none) (fun i hi hg => by
    subst hf
    obtain ⟨e, he⟩ := get_lt hi
    simp only [he] at hg
    have hb : ¬ t = e := fun h => by simp [h] at hg
    simp only [lt_dec hi, cond_true, getI_nat, he, Option.bind_some, hb, decide_false, cond_false, wrapN i (by omega)]) (fun i a hi hg => by
    subst hf
    obtain ⟨e, he⟩ := get_lt hi
    simp only [he] at hg
    by_cases hb : t = e
    · simp only [hb, if_true, Option.some.injEq] at hg
      simp only [lt_dec hi, cond_true, getI_nat, he, Option.bind_some, hb, decide_true, ← hg]; rfl
    · simp [hb] at hg) (by
    subst hf
    simp only [lt_dec_self, cond_false]; rfl)
  rw [show ((0 : Nat) : Int) = 0 from rfl] at key
  rw [key]
  rcases firstS_cases (fun i => match l[i]? with | some o => if t = o then some (.inr (i : Int)) else none | none => (none : Option (Int ⊕ Int))) l.length with ⟨h1, h2⟩ | ⟨k, a, h1, h2, h3, h4⟩
  · rw [h1]
    have : (l.any fun e => decide (t = e)) = false := by
      rw [List.any_eq_false]
      intro x hx
      obtain ⟨i, hi, rfl⟩ := List.mem_iff_getElem.1 hx
      have := h2 i hi
      simp only [List.getElem?_eq_getElem hi] at this
      intro hb
      have hb' := of_decide_eq_true hb
      rw [if_pos hb'] at this; cases this
    rw [this]; rfl
  · rw [h4]
    obtain ⟨e, he⟩ := get_lt h1
    simp only [he] at h3
    by_cases hb : t = e
    · simp only [hb, if_true, Option.some.injEq] at h3
      have : (l.any fun e => decide (t = e)) = true := List.any_eq_true.2 ⟨e, List.mem_of_getElem? he, decide_eq_true hb⟩
      rw [this, ← h3]
      simp [outK]
    · simp [hb] at h3
def headTags : List (List UInt8) := [[73, 72, 68], [71, 72, 68], [77, 72, 68]]
def tailTags : List (List UInt8) := [[73, 84, 82], [71, 84, 82], [77, 84, 82]]
def envT (t : List UInt8) : Bool := (headTags.any fun e => decide (t = e)) || (tailTags.any fun e => decide (t = e))
theorem w_head (t : List UInt8) : m38 [[73, 72, 68], [71, 72, 68], [77, 72, 68]] t = some (headTags.any fun e => decide (t = e)) := containsS_eq _ t (by decide)
theorem w_tail (t : List UInt8) : m38 [[73, 84, 82], [71, 84, 82], [77, 84, 82]] t = some (tailTags.any fun e => decide (t = e)) := containsS_eq _ t (by decide)
theorem r_env (t : List UInt8) : m39 t = some (envT t) := by
  unfold m39 w10; dsimp only
  unfold m32 w9; dsimp only
  unfold envT headTags tailTags
  simp only [List.any_cons, List.any_nil, Bool.or_false]
  by_cases h1 : t = [73, 72, 68]
  · subst h1; rfl
  · by_cases h2 : t = [71, 72, 68]
    · subst h2; rfl
    · by_cases h3 : t = [77, 72, 68]
      · subst h3; rfl
      · by_cases h4 : t = [73, 84, 82]
        · subst h4; rfl
        · by_cases h5 : t = [71, 84, 82]
          · subst h5; rfl
          · by_cases h6 : t = [77, 84, 82]
            · subst h6; rfl
            · simp [h1, h2, h3, h4, h5, h6]
def imN (a b c : Bool) (fs : Int) (e : Bool) : Int := bif !a then 3 else bif b then 5 else bif c then 7 else bif !decide (fs = 0) then fs else bif e then 4 else 0
def imF (m : Ms) (tw : Bool) : Int := imN (isRef m.fRef) (!nameF m.fKind || !nameF m.fVersion) tw (segsF m.fSegments) (m.fSegments.any fun s => envT s.fTag)
theorem w_heads : m26 = some [[73, 72, 68], [71, 72, 68], [77, 72, 68]] := by unfold m26 w9; dsimp only
theorem w_tails : m28 = some [[73, 84, 82], [71, 84, 82], [77, 84, 82]] := by unfold m28 w9; dsimp only
theorem env_end (l : List T2) : (if firstF (anyAt l (fun s => envT s.fTag) 4) 0 l.length = 0 then some 0 else some (firstF (anyAt l (fun s => envT s.fTag) 4) 0 l.length)) = some (bif l.any fun s => envT s.fTag then (4 : Int) else 0) := by
  rw [firstF_any l _ 4 (by decide) l.length (Nat.le_refl _), List.take_length]
  cases l.any fun s => envT s.fTag <;> rfl
theorem w_msg (m : Ms) (h : MsOk m) (l : List Ms) (hl : l.length ≤ MX) : m40 m l = some (imF m (l.any fun o => decide (o.fRef = m.fRef))) := by
  have hlen := h.len
  have h1 : ∀ a, m24 a m = some (decide (a.fRef = m.fRef)) := fun a => by unfold m24 w9; dsimp only
  unfold m40 w11; dsimp only
  simp only [orO_some, Option.bind_some, isRef_eq _ h.ref, w_name _ h.kind, w_name _ h.ver, anyIM_eq l hl _ _ _ _ _ h1, w_segs _ h.tags]
  unfold imF imN
  cases isRef m.fRef with
  | false => rfl
  | true =>
  cases (!nameF m.fKind || !nameF m.fVersion) with
  | true => rfl
  | false =>
  cases (l.any fun o => decide (o.fRef = m.fRef)) with
  | true => rfl
  | false =>
  cases hz : decide (segsF m.fSegments = 0) with
  | false => rfl
  | true =>
  simp only [Bool.not_true, cond_false, w_heads, w_tails, Option.bind_some, w_head, w_tail, orO_some]
  refine (loop_fS (fun i : Nat => (i : Int)) (n := m.fSegments.length) (g := anyAt m.fSegments (fun s => envT s.fTag) 4) (fun i hi => ?_) (by simp only [lt_dec_self, cond_false]; rfl) _).trans (env_end _)
  obtain ⟨e, he⟩ := get_lt hi
  simp only [lt_dec hi, cond_true, getI_nat, he, Option.bind_some, wrapN i (by omega), anyAt]
  change (bif envT e.fTag then _ else _) = _
  by_cases hb : envT e.fTag = true <;> simp [hb, inrO]
theorem r_msg (l : List Ms) (i : Nat) {m : Ms} (hm : l[i]? = some m) (h : MsOk m) (hl : l.length ≤ MX) : m41 l i = some (imF m ((l.take i).any fun o => decide (o.fRef = m.fRef))) := by
  have hlen := h.len
  have hil := get_le hm
  have hl' := hl
  unfold MX at hl'
  unfold m41 w11; dsimp only
  simp only [getI_nat, hm, orO_some, Option.bind_some, isReference_eq _ h.ref, r_name _ h.kind, r_name _ h.ver, r_segs _ h.tags]
  unfold imF imN
  cases isRef m.fRef with
  | false => rfl
  | true =>
  cases (!nameF m.fKind || !nameF m.fVersion) with
  | true => rfl
  | false =>
  simp only [Bool.not_true, cond_false]
  rw [before_eq l i (by omega) hl (fun o => decide (o.fRef = m.fRef)) _ (fun k o hk ho => by
    simp only [lt_dec hk, cond_true, getI_nat, ho, Option.bind_some, wrapN k (by omega)]
    cases decide (o.fRef = m.fRef) <;> rfl) (by simp only [lt_dec_self, cond_false]; rfl)]
  cases ((l.take i).any fun o => decide (o.fRef = m.fRef)) with
  | true => rfl
  | false =>
  cases hz : decide (segsF m.fSegments = 0) with
  | false => rfl
  | true =>
  simp only [Bool.not_true, cond_false, r_env, Option.bind_some]
  refine (loop_fS (fun i : Nat => (i : Int)) (n := m.fSegments.length) (g := anyAt m.fSegments (fun s => envT s.fTag) 4) (fun i hi => ?_) (by simp only [lt_dec_self, cond_false]; rfl) _).trans (env_end _)
  obtain ⟨e, he⟩ := get_lt hi
  simp only [lt_dec hi, cond_true, getI_nat, he, Option.bind_some, wrapN i (by omega), anyAt]
  by_cases hb : envT e.fTag = true <;> simp [hb, inrO]
def imAt (l : List Ms) (i : Nat) : Int := match l[i]? with
  | some m => imF m ((l.take i).any fun o => decide (o.fRef = m.fRef))
  | none => 0
def igN (a b c : Bool) (fm : Int) : Int := bif !a then 3 else bif !b then 5 else bif c then 7 else fm
def igF (g : Gp) (tw : Bool) : Int := igN (isRef g.fRef) (nameF g.fKind) tw (firstF (imAt g.fMessages) 0 g.fMessages.length)
theorem if_same (a : Int) : (if a = 0 then some 0 else some a) = some a := by split <;> simp_all
theorem sliceI_to {α : Type} (l : List α) {i : Nat} (h : i ≤ l.length) : sliceI l ((none : Option Int).getD 0) ((some (i : Int)).getD (l.length : Int)) = some (l.take i) := sliceI_take l i h
theorem w_grp (g : Gp) (h : GpOk g) (l : List Gp) (hl : l.length ≤ MX) : m42 g l = some (igF g (l.any fun o => decide (o.fRef = g.fRef))) := by
  have hlen := h.len
  have h1 : ∀ a, m22 a g = some (decide (a.fRef = g.fRef)) := fun a => by unfold m22 w9; dsimp only
  unfold m42 w12; dsimp only
  simp only [Option.bind_some, isRef_eq _ h.ref, w_name _ h.kind, anyIG_eq l hl _ _ _ _ _ h1]
  unfold igF igN
  cases isRef g.fRef with
  | false => rfl
  | true =>
  cases nameF g.fKind with
  | false => rfl
  | true =>
  cases (l.any fun o => decide (o.fRef = g.fRef)) with
  | true => rfl
  | false =>
  simp only [Bool.not_true, cond_false]
  refine (loop_fS (fun i : Nat => (i : Int)) (n := g.fMessages.length) (g := imAt g.fMessages) (fun i hi => ?_) (by simp only [lt_dec_self, cond_false]; rfl) _).trans (if_same _)
  obtain ⟨e, he⟩ := get_lt hi
  have hs := h.msg e (List.mem_of_getElem? he)
  simp only [lt_dec hi, cond_true, getI_nat, he, Option.bind_some, sliceI_to g.fMessages (Nat.le_of_lt hi), w_msg e hs _ (show (g.fMessages.take i).length ≤ MX by rw [List.length_take]; unfold MX; omega), wrapN i (by omega), imAt]
  generalize imF e _ = a
  by_cases ha : a = 0 <;> simp [ha, inrO]
theorem r_grp (l : List Gp) (i : Nat) {g : Gp} (hg : l[i]? = some g) (h : GpOk g) (hl : l.length ≤ MX) : m43 l i = some (igF g ((l.take i).any fun o => decide (o.fRef = g.fRef))) := by
  have hlen := h.len
  have hil := get_le hg
  have hl' := hl
  unfold MX at hl'
  unfold m43 w12; dsimp only
  simp only [getI_nat, hg, Option.bind_some, isReference_eq _ h.ref, r_name _ h.kind]
  unfold igF igN
  cases isRef g.fRef with
  | false => rfl
  | true =>
  cases nameF g.fKind with
  | false => rfl
  | true =>
  simp only [Bool.not_true, cond_false]
  rw [before_eq l i (by omega) hl (fun o => decide (o.fRef = g.fRef)) _ (fun k o hk ho => by
    simp only [lt_dec hk, cond_true, getI_nat, ho, Option.bind_some, wrapN k (by omega)]
    cases decide (o.fRef = g.fRef) <;> rfl) (by simp only [lt_dec_self, cond_false]; rfl)]
  cases ((l.take i).any fun o => decide (o.fRef = g.fRef)) with
  | true => rfl
  | false =>
  simp only [cond_false]
  refine (loop_fS (fun i : Nat => (i : Int)) (n := g.fMessages.length) (g := imAt g.fMessages) (fun i hi => ?_) (by simp only [lt_dec_self, cond_false]; rfl) _).trans (if_same _)
  obtain ⟨e, he⟩ := get_lt hi
  have hs := h.msg e (List.mem_of_getElem? he)
  simp only [lt_dec hi, cond_true, r_msg g.fMessages i he hs (show g.fMessages.length ≤ MX by unfold MX; omega), Option.bind_some, wrapN i (by omega), imAt, he]
  generalize imF e _ = a
  by_cases ha : a = 0 <;> simp [ha, inrO]
def igAt (l : List Gp) (i : Nat) : Int := match l[i]? with
  | some g => igF g ((l.take i).any fun o => decide (o.fRef = g.fRef))
  | none => 0
def segN (l : List Ms) (n : Int) : Int := l.foldl (fun n m => IntKind.i64.wrap (n + IntKind.i64.wrap (2 + (m.fSegments.length : Int)))) n
def cntF (l : List Gp) : Int × Int := l.foldl (fun s g => (IntKind.i64.wrap (s.1 + (g.fMessages.length : Int)), segN g.fMessages (IntKind.i64.wrap (s.2 + 2)))) (0, 2)
def ciN (a b c d : Bool) (fg : Int) (e : Bool) : Int := bif !a then 3 else bif b then 5 else bif c then 1 else bif d then 2 else if fg = 0 then (bif e then 2 else 0) else fg
def ciF (x : Ix) : Int := ciN (isRef x.fRef) (!nameF x.fSender || !nameF x.fReceiver) (outside x.fDay 1 3652059 || outside x.fSecond 0 86399) (decide (50 < x.fGroups.length)) (firstF (igAt x.fGroups) 0 x.fGroups.length)
  (decide (200 < (cntF x.fGroups).1) || decide (2000 < (cntF x.fGroups).2))
theorem seg_loop (l : List Ms) (hl : l.length ≤ 1048576) (n : Int) {R : Type} {f : Int × Int → Option ((Int × Int) ⊕ ((Int × Int) ⊕ R))} (K : Int × Int → Option R)
    (hf : ∀ (i : Nat) e (a : Int), l[i]? = some e → f (a, (i : Int)) = some (.inl (IntKind.i64.wrap (a + IntKind.i64.wrap (2 + (e.fSegments.length : Int))), ((i + 1 : Nat) : Int)))) (he : ∀ a, f (a, (l.length : Int)) = some (.inr (.inl (a, (l.length : Int))))) :
    (loopC f (n, 0)).bind (outK K) = K (segN l n, (l.length : Int)) := by
  refine bind_loop (a := .inl (segN l n, (l.length : Int))) (loop_pre l (fun i q => (segN q n, (i : Int))) (fun i e h => ?_) (he _)) rfl
  rw [hf i e _ h]
  unfold segN
  rw [List.foldl_append]; rfl
theorem w_counts (x : Ix) (h : IxOk x) : m29 x = some (cntF x.fGroups) := by
  have hlen := h.len
  unfold m29 w9; dsimp only
  refine bind_loop (a := .inl ((cntF x.fGroups).1, (cntF x.fGroups).2, (x.fGroups.length : Int))) (loop_pre x.fGroups (fun i q => ((cntF q).1, (cntF q).2, (i : Int))) (fun i e he => ?_) (by simp only [lt_dec_self, cond_false]; rfl)) rfl
  have hi := get_le he
  have hg := (h.grp e (List.mem_of_getElem? he)).len
  simp only [lt_dec hi, cond_true, getI_nat, he, Option.bind_some]
  refine (seg_loop e.fMessages hg _ _ (fun k m a hm => ?_) (fun a => by simp only [lt_dec_self, cond_false]; rfl)).trans ?_
  · have hk := get_le hm
    simp only [lt_dec hk, cond_true, getI_nat, hm, Option.bind_some, wrapN k (by omega)]
  · simp only [wrapN i (by omega)]
    unfold cntF
    rw [List.foldl_append]; rfl
theorem w_ci (x : Ix) (h : IxOk x) : m44 x = some (ciF x) := by
  have hlen := h.len
  have hday : m35 x.fDay = some (!outside x.fDay 1 3652059) := by unfold m35 w10; dsimp only; simp only [outside_eq, Option.bind_some]
  unfold m44 w13; dsimp only
  rw [show decide ((50 : Int) < (x.fGroups.length : Int)) = decide (50 < x.fGroups.length) from big_dec x.fGroups.length 50]
  simp only [Option.bind_some, orO_some, isRef_eq _ h.ref, w_name _ h.snd, w_name _ h.rcv, hday, outside_eq, Bool.not_not, w_counts x h]
  unfold ciF ciN
  cases isRef x.fRef with
  | false => rfl
  | true =>
  cases (!nameF x.fSender || !nameF x.fReceiver) with
  | true => rfl
  | false =>
  cases (outside x.fDay 1 3652059 || outside x.fSecond 0 86399) with
  | true => rfl
  | false =>
  cases decide (50 < x.fGroups.length) with
  | true => rfl
  | false =>
  simp only [Bool.not_true, cond_false]
  refine (loop_fS (fun i : Nat => (i : Int)) (n := x.fGroups.length) (g := igAt x.fGroups) (fun i hi => ?_) (by simp only [lt_dec_self, cond_false]; rfl) _).trans ?_
  · obtain ⟨e, he⟩ := get_lt hi
    have hs := h.grp e (List.mem_of_getElem? he)
    simp only [lt_dec hi, cond_true, getI_nat, he, Option.bind_some, sliceI_to x.fGroups (Nat.le_of_lt hi), w_grp e hs _ (show (x.fGroups.take i).length ≤ MX by rw [List.length_take]; unfold MX; omega), wrapN i (by omega), igAt]
    generalize igF e _ = a
    by_cases ha : a = 0 <;> simp [ha, inrO]
  · by_cases hq : firstF (igAt x.fGroups) 0 x.fGroups.length = 0
    · rw [if_pos hq, if_pos hq]
      cases decide (200 < (cntF x.fGroups).1) <;> cases decide (2000 < (cntF x.fGroups).2) <;> rfl
    · rw [if_neg hq, if_neg hq]
theorem r_ci (x : Ix) (h : IxOk x) : m45 x = some (ciF x) := by
  have hlen := h.len
  unfold m45 w13; dsimp only
  rw [show decide ((50 : Int) < (x.fGroups.length : Int)) = decide (50 < x.fGroups.length) from big_dec x.fGroups.length 50]
  simp only [Option.bind_some, orO_some, isReference_eq _ h.ref, r_name _ h.snd, r_name _ h.rcv]
  have hr : (decide (x.fDay < 1) || decide (3652059 < x.fDay) || decide (x.fSecond < 0) || decide (86399 < x.fSecond)) = (outside x.fDay 1 3652059 || outside x.fSecond 0 86399) := by unfold outside; simp only [Bool.or_assoc]
  rw [hr]
  unfold ciF ciN
  cases isRef x.fRef with
  | false => rfl
  | true =>
  cases (!nameF x.fSender || !nameF x.fReceiver) with
  | true => rfl
  | false =>
  cases (outside x.fDay 1 3652059 || outside x.fSecond 0 86399) with
  | true => rfl
  | false =>
  cases decide (50 < x.fGroups.length) with
  | true => rfl
  | false =>
  simp only [Bool.not_true, cond_false]
  refine (loop_fS (fun i : Nat => ((cntF (x.fGroups.take i)).1, (cntF (x.fGroups.take i)).2, (i : Int))) (n := x.fGroups.length) (g := igAt x.fGroups) (fun i hi => ?_) (by simp only [lt_dec_self, cond_false]; rfl) _).trans ?_
  · obtain ⟨e, he⟩ := get_lt hi
    have hs := h.grp e (List.mem_of_getElem? he)
    have hg := hs.len
    simp only [lt_dec hi, cond_true, r_grp x.fGroups i he hs (show x.fGroups.length ≤ MX by unfold MX; omega), getI_nat, he, Option.bind_some, igAt]
    generalize igF e _ = a
    by_cases ha : a = 0
    · simp only [ha, decide_true, Bool.not_true, cond_false, if_true]
      refine (seg_loop e.fMessages hg _ _ (fun k m a hm => ?_) (fun a => by simp only [lt_dec_self, cond_false]; rfl)).trans ?_
      · have hk := get_le hm
        simp only [lt_dec hk, cond_true, getI_nat, hm, Option.bind_some, wrapN k (by omega)]
      · have hc : cntF (x.fGroups.take (i + 1)) = (IntKind.i64.wrap ((cntF (x.fGroups.take i)).1 + (e.fMessages.length : Int)), segN e.fMessages (IntKind.i64.wrap ((cntF (x.fGroups.take i)).2 + 2))) := foldl_snoc he
        simp only [hc, wrapN i (by omega)]
    · simp [ha, inrO]
  · by_cases hq : firstF (igAt x.fGroups) 0 x.fGroups.length = 0
    · rw [if_pos hq, if_pos hq]
      simp only [List.take_length]
      cases decide (200 < (cntF x.fGroups).1) <;> cases decide (2000 < (cntF x.fGroups).2) <;> rfl
    · rw [if_neg hq, if_neg hq]
end Go.Proofs.YthailknfgcegoaaGreatDoor

/-
  Bulk bounds the messages of an interchange and of a reply.
-/
namespace Go.Proofs.YthailknfgcegoaaGreatDoor
set_option linter.unusedSimpArgs false
set_option linter.unusedVariables false
open Go.RowKit
theorem dvBR_len {α : Type} {row : α → List DV} (h : ∀ a, 1 ≤ dvBL (row a)) : ∀ (l : List α), l.length ≤ dvBR (l.map row)
  | [] => by simp
  | x :: l => by
    have h1 := h x
    have h2 := dvBR_len h l
    simp only [List.map_cons, dvBR, List.length_cons]
    omega
theorem dvBR_mem {r : List DV} : ∀ {rows : List (List DV)}, r ∈ rows → dvBL r ≤ dvBR rows
  | [], h => by cases h
  | x :: rows, h => by
    simp only [dvBR]
    rcases List.mem_cons.1 h with rfl | h
    · omega
    · have := dvBR_mem h; omega
theorem rep_ok (r : Rp) (o : okTapi_Reply r) (hb : dvBL (r14 r) ≤ 1048576) : RepOk r := by
  obtain ⟨o1, _, o3⟩ := o
  refine ⟨o1, o3.1, fun g hg => ?_⟩
  obtain ⟨g1, _, g3⟩ := o3.2 g hg
  have h1 : dvBL (r13 g) ≤ dvBR (r.fGroups.map r13) := dvBR_mem (List.mem_map_of_mem hg)
  have h2 : g.fMessages.length ≤ dvBR (g.fMessages.map r12) := dvBR_len (fun m => by simp only [r12, dvBL, dvB]; omega) _
  simp only [r14, r13, dvBL, dvB] at hb h1
  refine ⟨g1, by omega, fun m hm => ?_⟩
  obtain ⟨m1, _, _, m4, m5⟩ := g3.2 m hm
  exact ⟨m1, m4.1, fun f hf => (m4.2 f hf).2.2.2, m5.1, m5.2⟩
theorem ix_ok (x : Ix) (o : okTapi_Interchange x) (hb : dvBL (r9 x) ≤ 1048576) : IxOk x := by
  obtain ⟨o1, o2, o3, _, _, _, o7⟩ := o
  have h0 : x.fGroups.length ≤ dvBR (x.fGroups.map r8) := dvBR_len (fun m => by simp only [r8, dvBL, dvB]; omega) _
  simp only [r9, dvBL, dvB] at hb
  refine ⟨o1, o2, o3, by omega, fun g hg => ?_⟩
  obtain ⟨g1, g2, g3⟩ := o7.2 g hg
  have h1 : dvBL (r8 g) ≤ dvBR (x.fGroups.map r8) := dvBR_mem (List.mem_map_of_mem hg)
  have h2 : g.fMessages.length ≤ dvBR (g.fMessages.map r7) := dvBR_len (fun m => by simp only [r7, dvBL, dvB]; omega) _
  simp only [r8, dvBL, dvB] at h1
  refine ⟨g1, g2, by omega, fun m hm => ?_⟩
  obtain ⟨m1, m2, m3, m4⟩ := g3.2 m hm
  have h3 : dvBL (r7 m) ≤ dvBR (g.fMessages.map r7) := dvBR_mem (List.mem_map_of_mem hm)
  have h4 : m.fSegments.length ≤ dvBR (m.fSegments.map r6) := dvBR_len (fun m => by simp only [r6, dvBL, dvB]; omega) _
  simp only [r7, dvBL, dvB] at h3
  exact ⟨m1, m2, m3, by omega, fun s hs => (m4.2 s hs).1⟩
end Go.Proofs.YthailknfgcegoaaGreatDoor

/-
  The simple thing that the package does (awake), reckoned.
-/
namespace Go.Proofs.YthailknfgcegoaaGreatDoor
set_option linter.unusedSimpArgs false
set_option linter.unusedVariables false
open Go.RowKit
def aE : T11 := ⟨1, 0, 0, [65], 0⟩
theorem aw_cb : m90 [aE] = some 0 := by
  unfold m90 w25; dsimp only
  exact bind_loop (a := .inl 1) (loopC_some.2 ⟨3, by kernel_rfl⟩) (by kernel_rfl)
theorem aw_bk : m80 [aE] = some ([⟨[65], 0, 0, -1, 0⟩], []) := by
  unfold m80 w21; dsimp only
  exact bind_loop (a := .inl ([⟨[65], 0, 0, -1, 0⟩], [], [([65], [0])], 1)) (loopC_some.2 ⟨3, by kernel_rfl⟩) (by kernel_rfl)
theorem aw_at : m84 [aE] 0 = some [⟨[65], 0, 0, -1, 0⟩] := by
  unfold m84 w22; dsimp only
  refine bind_loop (a := .inl 1) (loopC_some.2 ⟨3, by kernel_rfl⟩) ?_
  have h : sliceI [aE] ((none : Option Int).getD 0) ((some (1 : Int)).getD ([aE].length : Int)) = some [aE] := by kernel_rfl
  simp only [outK]
  refine (congrArg (fun q => Option.bind q _) h).trans ?_
  simp only [Option.bind_some, aw_bk]
theorem aw_st : m93 [aE] 0 = some (⟨1, 0, 0, 0, 0, 0⟩, 0) := by
  unfold m93 w27; dsimp only
  have hm : m83 0 = some true := by kernel_rfl
  simp only [aw_cb, aw_at, hm, Option.bind_some, decide_true, Bool.not_true, cond_false]
  exact bind_loop (a := .inl (⟨1, 0, 0, 0, 0, 0⟩, 1)) (loopC_some.2 ⟨3, by kernel_rfl⟩) (by kernel_rfl)
theorem awake_eq : m94 = some true := by
  unfold m94 w28; dsimp only
  have h := aw_st
  unfold aE at h
  rw [h]
  rfl
end Go.Proofs.YthailknfgcegoaaGreatDoor

/-
  Plain laws: Kept on both sides; ReplyKeptMatchesSpec.
-/
namespace Go.Proofs.YthailknfgcegoaaGreatDoor
set_option linter.unusedSimpArgs false
set_option linter.unusedVariables false
open Go.RowKit
theorem ci_grp {x : Ix} (h : ciF x = 0) : ∀ g ∈ x.fGroups, ∀ m ∈ g.fMessages, segsF m.fSegments = 0 := by
  unfold ciF ciN at h
  have hf : firstF (igAt x.fGroups) 0 x.fGroups.length = 0 := by
    revert h
    cases isRef x.fRef with
    | false => intro h; cases h
    | true =>
    cases (!nameF x.fSender || !nameF x.fReceiver) with
    | true => intro h; cases h
    | false =>
    cases (outside x.fDay 1 3652059 || outside x.fSecond 0 86399) with
    | true => intro h; cases h
    | false =>
    cases decide (50 < x.fGroups.length) with
    | true => intro h; cases h
    | false =>
      intro h
      simp only [Bool.not_true, cond_false] at h
      by_cases hq : firstF (igAt x.fGroups) 0 x.fGroups.length = 0
      · exact hq
      · rw [if_neg hq] at h; exact h
  intro g hg m hm
  obtain ⟨i, hi, rfl⟩ := List.mem_iff_getElem.1 hg
  have h1 := firstF_zero hf i (by omega) (by omega)
  simp only [igAt, List.getElem?_eq_getElem hi] at h1
  have h2 : firstF (imAt x.fGroups[i].fMessages) 0 x.fGroups[i].fMessages.length = 0 := by
    revert h1
    unfold igF igN
    cases isRef x.fGroups[i].fRef with
    | false => intro h; cases h
    | true =>
    cases nameF x.fGroups[i].fKind with
    | false => intro h; cases h
    | true =>
    cases ((x.fGroups.take i).any fun o => decide (o.fRef = x.fGroups[i].fRef)) with
    | true => intro h; cases h
    | false => intro h; exact h
  obtain ⟨k, hk, rfl⟩ := List.mem_iff_getElem.1 hm
  have h3 := firstF_zero h2 k (by omega) (by omega)
  simp only [imAt, List.getElem?_eq_getElem hk] at h3
  revert h3
  unfold imF imN
  cases isRef _ with
  | false => intro h; cases h
  | true =>
  cases (!nameF _ || !nameF _) with
  | true => intro h; cases h
  | false =>
  cases List.any _ _ with
  | true => intro h; cases h
  | false =>
    intro h
    by_cases hz : segsF (x.fGroups[i].fMessages[k]).fSegments = 0
    · exact hz
    · simp only [hz, decide_false, Bool.not_true, Bool.not_false, cond_false, cond_true] at h
def SegsOk (l : List T2) : Prop := l.length ≤ 137438953472 ∧ ∀ s ∈ l, cloneOk s
theorem segs_ok {l : List T2} (h : segsF l = 0) : SegsOk l := by
  obtain ⟨h1, h2⟩ := segs_in h
  exact ⟨by omega, fun s hs => seg_ok (h2 s hs)⟩
theorem cloneAll_eq (l : List T2) (h : SegsOk l) : m20 l = some l := by
  obtain ⟨h1, h2⟩ := h
  have hc : m99 l = some l := by
    unfold m99
    rw [if_pos h1]
  unfold m20 w8; dsimp only
  rw [hc]
  simp only [Option.bind_some]
  refine bind_loop (a := .inl (l, (l.length : Int))) (loop_trace (fun i : Nat => (l, (i : Int))) l.length (fun i hi => ?_) ?_) rfl
  · obtain ⟨e, he⟩ := get_lt hi
    have hm : m102 e = some e := by unfold m102; rw [if_pos (h2 e (List.mem_of_getElem? he))]
    have hs : l.set i e = l := by
      obtain ⟨hi', rfl⟩ := List.getElem?_eq_some_iff.1 he
      exact List.set_getElem_self hi'
    simp only [lt_dec hi, cond_true, getI_nat, he, Option.bind_some, Int.toNat_natCast, hm, hs, wrapN i (by omega)]
  · simp only [lt_dec_self, cond_false]; rfl
def pairB {α β : Type} (l : List α) (r : List β) (q : α → β → Bool) (i : Nat) : Bool := match l[i]?, r[i]? with
  | some a, some b => q a b
  | _, _ => true
def eqL {α β : Type} (l : List α) (r : List β) (q : α → β → Bool) : Bool := decide (l.length = r.length) && (List.range l.length).all (pairB l r q)
theorem eqL_loop {α β R : Type} (l : List α) (r : List β) (q : α → β → Bool) (hl : l.length ≤ 1048576) (hlen : l.length = r.length) (z : R) {f : Int → Option (Int ⊕ (Int ⊕ R))} (K : Int → Option R)
    (hf : ∀ (i : Nat) a b, l[i]? = some a → r[i]? = some b → f (i : Int) = bif q a b then some (.inl ((i + 1 : Nat) : Int)) else some (.inr (.inr z))) (he : f (l.length : Int) = some (.inr (.inl (l.length : Int)))) :
    (loopC f 0).bind (outK K) = if (List.range l.length).all (pairB l r q) = true then K (l.length : Int) else some z := by
  refine loop_allB l.length (pairB l r q) z K (fun i hi => ?_) he
  obtain ⟨a, ha⟩ := get_lt hi
  obtain ⟨b, hb⟩ := get_lt (l := r) (i := i) (by omega)
  rw [hf i a b ha hb]
  simp only [pairB, ha, hb]
theorem eqFuncG (l : List Gp) (r : List Gr) (hl : l.length ≤ 1048576) (f1 : FuncId) (c1 : List DV) (p1 : Gp → Gr → Option Bool) (h1) (q : Gp → Gr → Bool) (hq : ∀ a b, a ∈ l → p1 a b = some (q a b)) :
    m74 l r f1 c1 p1 h1 = some (eqL l r q) := by
  unfold m74 w20; dsimp only
  unfold eqL
  have hi : ((l.length : Int) = (r.length : Int)) ↔ l.length = r.length := by omega
  by_cases hlen : l.length = r.length
  · simp only [hi, hlen, decide_true, Bool.not_true, cond_false, Bool.true_and]
    rw [← hlen]
    refine (eqL_loop l r q hl hlen false _ (fun i a b ha hb => ?_) (by simp only [lt_dec_self, cond_false]; rfl)).trans ?_
    · have hlt := get_le ha
      simp only [lt_dec hlt, cond_true, getI_nat, ha, hb, Option.bind_some, hq a b (List.mem_of_getElem? ha), wrapN i (by omega)]
      cases q a b <;> rfl
    · by_cases hb : (List.range l.length).all (pairB l r q) = true
      · rw [if_pos hb, hb]
      · rw [if_neg hb]; simp only [Bool.not_eq_true] at hb; rw [hb]
  · simp only [hi, hlen, decide_false, Bool.not_false, cond_true, Bool.false_and]
theorem eqFuncM (l : List Ms) (r : List Mr) (hl : l.length ≤ 1048576) (f1 : FuncId) (c1 : List DV) (p1 : Ms → Mr → Option Bool) (h1) (q : Ms → Mr → Bool) (hq : ∀ a b, a ∈ l → p1 a b = some (q a b)) :
    m75 l r f1 c1 p1 h1 = some (eqL l r q) := by
  unfold m75 w20; dsimp only
  unfold eqL
  have hi : ((l.length : Int) = (r.length : Int)) ↔ l.length = r.length := by omega
  by_cases hlen : l.length = r.length
  · simp only [hi, hlen, decide_true, Bool.not_true, cond_false, Bool.true_and]
    rw [← hlen]
    refine (eqL_loop l r q hl hlen false _ (fun i a b ha hb => ?_) (by simp only [lt_dec_self, cond_false]; rfl)).trans ?_
    · have hlt := get_le ha
      simp only [lt_dec hlt, cond_true, getI_nat, ha, hb, Option.bind_some, hq a b (List.mem_of_getElem? ha), wrapN i (by omega)]
      cases q a b <;> rfl
    · by_cases hb : (List.range l.length).all (pairB l r q) = true
      · rw [if_pos hb, hb]
      · rw [if_neg hb]; simp only [Bool.not_eq_true] at hb; rw [hb]
  · simp only [hi, hlen, decide_false, Bool.not_false, cond_true, Bool.false_and]
def qM (a : Ms) (b : Mr) : Bool := decide (a.fRef = b.fRef)
def qG (a : Gp) (b : Gr) : Bool := decide (a.fRef = b.fRef) && eqL a.fMessages b.fMessages qM
def agF (x : Ix) (r : Rp) : Bool := decide (x.fRef = r.fRef) && eqL x.fGroups r.fGroups qG
theorem w_agrees (x : Ix) (h : IxOk x) (r : Rp) : m86 x r = some (agF x r) := by
  have h2 : ∀ a b, m76 a b = some (qM a b) := fun a b => by unfold m76 w20; dsimp only; rfl
  have h1 : ∀ a b, a ∈ x.fGroups → m81 a b = some (qG a b) := fun a b ha => by
    unfold m81 w22; dsimp only
    rw [eqFuncM a.fMessages b.fMessages (h.grp a ha).len _ _ _ _ qM (fun a b _ => h2 a b)]
    simp only [Option.bind_some, andO_some]; rfl
  unfold m86 w24; dsimp only
  rw [eqFuncG x.fGroups r.fGroups h.len _ _ _ _ qG h1]
  simp only [Option.bind_some, andO_some]; rfl
theorem r_belong (x : Ix) (h : IxOk x) (r : Rp) : m77 x r = some (agF x r) := by
  have hl := h.len
  unfold m77 w20; dsimp only
  unfold agF eqL
  have hi : ((x.fGroups.length : Int) = (r.fGroups.length : Int)) ↔ x.fGroups.length = r.fGroups.length := by omega
  simp only [orO_some, Option.bind_some, hi]
  by_cases hr : x.fRef = r.fRef
  · by_cases hlen : x.fGroups.length = r.fGroups.length
    · simp only [hr, hlen, decide_true, Bool.not_true, Bool.or_self, cond_false, Bool.true_and]
      rw [← hlen]
      refine (eqL_loop x.fGroups r.fGroups qG hl hlen false _ (fun i a b ha hb => ?_) (by simp only [lt_dec_self, cond_false]; rfl)).trans ?_
      · have hlt := get_le ha
        have hal := (h.grp a (List.mem_of_getElem? ha)).len
        have hj : ((a.fMessages.length : Int) = (b.fMessages.length : Int)) ↔ a.fMessages.length = b.fMessages.length := by omega
        simp only [lt_dec hlt, cond_true, getI_nat, ha, hb, Option.bind_some, hj]
        unfold qG eqL
        by_cases hr2 : a.fRef = b.fRef
        · by_cases hlen2 : a.fMessages.length = b.fMessages.length
          · simp only [hr2, hlen2, decide_true, Bool.not_true, Bool.or_self, cond_false, Bool.true_and]
            rw [← hlen2]
            refine (eqL_loop a.fMessages b.fMessages qM hal hlen2 (R := Int ⊕ (Int ⊕ Bool)) (.inr (.inr false)) _ (fun k p q hp hq => ?_) (by simp only [lt_dec_self, cond_false]; rfl)).trans ?_
            · have hkt := get_le hp
              simp only [lt_dec hkt, cond_true, getI_nat, hp, hq, Option.bind_some, wrapN k (by omega), qM]
              cases decide (p.fRef = q.fRef) <;> rfl
            · by_cases hb2 : (List.range a.fMessages.length).all (pairB a.fMessages b.fMessages qM) = true
              · rw [if_pos hb2, hb2]; simp only [wrapN i (by omega), cond_true]
              · rw [if_neg hb2]; simp only [Bool.not_eq_true] at hb2; rw [hb2]; rfl
          · simp only [hr2, hlen2, decide_true, decide_false, Bool.not_true, Bool.not_false, Bool.false_or, cond_true, Bool.false_and, Bool.true_and]; rfl
        · simp only [hr2, decide_false, Bool.not_false, Bool.true_or, cond_true, Bool.false_and]; rfl
      · by_cases hb : (List.range x.fGroups.length).all (pairB x.fGroups r.fGroups qG) = true
        · rw [if_pos hb, hb]
        · rw [if_neg hb]; simp only [Bool.not_eq_true] at hb; rw [hb]
    · simp only [hr, hlen, decide_true, decide_false, Bool.not_true, Bool.not_false, Bool.false_or, cond_true, Bool.false_and, Bool.true_and]
  · simp only [hr, decide_false, Bool.not_false, Bool.true_or, cond_true, Bool.false_and]
theorem ag_grp {x : Ix} {r : Rp} (h : agF x r = true) {i : Nat} {g : Gp} (hg : x.fGroups[i]? = some g) : ∃ p : Gr, r.fGroups[i]? = some p ∧ ∀ (k : Nat) (m : Ms), g.fMessages[k]? = some m → ∃ q, p.fMessages[k]? = some q := by
  unfold agF eqL at h
  simp only [Bool.and_eq_true, decide_eq_true_eq, List.all_eq_true, List.mem_range] at h
  obtain ⟨_, hlen, hall⟩ := h
  have hi := get_le hg
  obtain ⟨p, hp⟩ := get_lt (l := r.fGroups) (i := i) (by omega)
  refine ⟨p, hp, fun k m hm => ?_⟩
  have := hall i hi
  simp only [pairB, hg, hp, qG, eqL, Bool.and_eq_true, decide_eq_true_eq] at this
  exact get_lt (by have := get_le hm; omega)
def keepAt (ms : List Ms) (rs : List Mr) (k : Nat) : List Ms := match ms[k]?, rs[k]? with
  | some m, some p => if p.fVerdict = 3 then [] else [m]
  | _, _ => []
def keepTo (ms : List Ms) (rs : List Mr) (n : Nat) : List Ms := (List.range n).flatMap (keepAt ms rs)
def keepGAt (gs : List Gp) (rs : List Gr) (i : Nat) : List Gp := match gs[i]?, rs[i]? with
  | some g, some p => if 0 < (keepTo g.fMessages p.fMessages g.fMessages.length).length ∨ g.fMessages.length = 0 then [⟨g.fRef, g.fKind, keepTo g.fMessages p.fMessages g.fMessages.length⟩] else []
  | _, _ => []
def keepG (gs : List Gp) (rs : List Gr) (n : Nat) : List Gp := (List.range n).flatMap (keepGAt gs rs)
theorem range_flat {α : Type} (f : Nat → List α) (n : Nat) : (List.range (n + 1)).flatMap f = (List.range n).flatMap f ++ f n := by rw [List.range_succ, List.flatMap_append]; simp
theorem flat_len {α : Type} (f : Nat → List α) (hf : ∀ i, (f i).length ≤ 1) : ∀ n, ((List.range n).flatMap f).length ≤ n
  | 0 => by simp
  | n + 1 => by rw [range_flat, List.length_append]; have := flat_len f hf n; have := hf n; omega
theorem keepTo_len (ms : List Ms) (rs : List Mr) (n : Nat) : (keepTo ms rs n).length ≤ n := flat_len _ (fun i => by unfold keepAt; split <;> (try split) <;> simp) n
theorem keepG_len (gs : List Gp) (rs : List Gr) (n : Nat) : (keepG gs rs n).length ≤ n := flat_len _ (fun i => by unfold keepGAt; split <;> (try split) <;> simp) n
theorem keepTo_mem {ms : List Ms} {rs : List Mr} {n : Nat} {m : Ms} (h : m ∈ keepTo ms rs n) : m ∈ ms := by
  unfold keepTo at h
  obtain ⟨i, _, hi⟩ := List.mem_flatMap.1 h
  unfold keepAt at hi
  split at hi
  · rename_i m' p hm _
    split at hi
    · cases hi
    · have : m = m' := by simpa using hi
      rw [this]; exact List.mem_of_getElem? hm
  · cases hi
theorem keepG_mem {gs : List Gp} {rs : List Gr} {n : Nat} {g : Gp} (h : g ∈ keepG gs rs n) : ∃ g' ∈ gs, g.fMessages.length ≤ g'.fMessages.length ∧ ∀ m ∈ g.fMessages, m ∈ g'.fMessages := by
  unfold keepG at h
  obtain ⟨i, _, hi⟩ := List.mem_flatMap.1 h
  unfold keepGAt at hi
  split at hi
  · rename_i g' p hg _
    split at hi
    · have : g = ⟨g'.fRef, g'.fKind, keepTo g'.fMessages p.fMessages g'.fMessages.length⟩ := by simpa using hi
      subst this
      exact ⟨g', List.mem_of_getElem? hg, keepTo_len _ _ _, fun m hm => keepTo_mem hm⟩
    · cases hi
  · cases hi
def noIx : Ix := ⟨[], [], [], 0, 0, false, []⟩
def keptF (x : Ix) (r : Rp) : Ix × Int :=
  bif !decide (ciF x = 0) then (noIx, ciF x) else bif !decide (rpF r = 0) then (noIx, rpF r) else bif !agF x r then (noIx, 12) else
  (⟨x.fRef, x.fSender, x.fReceiver, x.fDay, x.fSecond, x.fTest, keepG x.fGroups r.fGroups x.fGroups.length⟩, 0)
theorem w_Kept (x : Ix) (h : IxOk x) (r : Rp) (hr : RepOk r) : m91 x r = some (keptF x r) := by
  have hl := h.len
  unfold m91 w26; dsimp only
  simp only [w_ci x h, rep_eq r hr, w_agrees x h r, Option.bind_some]
  unfold keptF noIx
  by_cases h0 : ciF x = 0
  case neg => simp [h0]
  by_cases h1 : rpF r = 0
  case neg => simp [h0, h1]
  cases h2 : agF x r with
  | false => simp [h0, h1]
  | true =>
  simp only [h0, h1, decide_true, Bool.not_true, cond_false]
  have hseg := ci_grp h0
  refine bind_loop (a := .inl (x.fRef, x.fSender, x.fReceiver, x.fDay, x.fSecond, x.fTest, keepG x.fGroups r.fGroups x.fGroups.length, (x.fGroups.length : Int)))
    (loop_trace (fun i : Nat => (x.fRef, x.fSender, x.fReceiver, x.fDay, x.fSecond, x.fTest, keepG x.fGroups r.fGroups i, (i : Int))) x.fGroups.length (fun i hi => ?_) (by simp only [lt_dec_self, cond_false]; rfl)) rfl
  obtain ⟨g, hg⟩ := get_lt hi
  obtain ⟨p, hp, hpm⟩ := ag_grp h2 hg
  have hgl := (h.grp g (List.mem_of_getElem? hg)).len
  simp only [lt_dec hi, cond_true, getI_nat, hg, Option.bind_some, hp]
  refine (bind_loop (a := .inl (x.fRef, x.fSender, x.fReceiver, x.fDay, x.fSecond, x.fTest, keepG x.fGroups r.fGroups i, g.fRef, g.fKind, keepTo g.fMessages p.fMessages g.fMessages.length, (g.fMessages.length : Int)))
    (loop_trace (fun k : Nat => (x.fRef, x.fSender, x.fReceiver, x.fDay, x.fSecond, x.fTest, keepG x.fGroups r.fGroups i, g.fRef, g.fKind, keepTo g.fMessages p.fMessages k, (k : Int))) g.fMessages.length (fun k hk => ?_) (by simp only [lt_dec_self, cond_false]; rfl)) rfl).trans ?_
  · obtain ⟨m, hm⟩ := get_lt hk
    obtain ⟨q, hq⟩ := hpm k m hm
    have hkl := keepTo_len g.fMessages p.fMessages k
    have hstep : keepTo g.fMessages p.fMessages (k + 1) = keepTo g.fMessages p.fMessages k ++ (if q.fVerdict = 3 then [] else [m]) := by
      unfold keepTo; rw [range_flat]; simp only [keepAt, hm, hq]
    simp only [lt_dec hk, cond_true, getI_nat, hm, hq, Option.bind_some, hstep, wrapN k (by omega)]
    by_cases hv : q.fVerdict = 3
    · simp only [hv, decide_true, Bool.not_true, cond_false, if_true, List.append_nil]
    · simp only [hv, decide_false, Bool.not_false, cond_true, if_false, cloneAll_eq _ (segs_ok (hseg g (List.mem_of_getElem? hg) m (List.mem_of_getElem? hm))), Option.bind_some]
      rw [thenO_some (lenO_ok (by simp only [List.length_cons, List.length_nil]; omega))]
  · have hkl := keepG_len x.fGroups r.fGroups i
    have hstep : keepG x.fGroups r.fGroups (i + 1) = keepG x.fGroups r.fGroups i ++ (if 0 < (keepTo g.fMessages p.fMessages g.fMessages.length).length ∨ g.fMessages.length = 0 then [⟨g.fRef, g.fKind, keepTo g.fMessages p.fMessages g.fMessages.length⟩] else []) := by
      unfold keepG; rw [range_flat]; simp only [keepGAt, hg, hp]
    simp only [outK, orO_some, Option.bind_some, hstep, wrapN i (by omega)]
    have e1 : decide (0 < ((keepTo g.fMessages p.fMessages g.fMessages.length).length : Int)) = decide (0 < (keepTo g.fMessages p.fMessages g.fMessages.length).length) := pos_dec _
    have e2 : decide ((g.fMessages.length : Int) = 0) = decide (g.fMessages.length = 0) := by congr 1; apply propext; omega
    rw [e1, e2, ← Bool.decide_or]
    by_cases hc : 0 < (keepTo g.fMessages p.fMessages g.fMessages.length).length ∨ g.fMessages.length = 0
    · rw [decide_eq_true hc, if_pos hc, cond_true, thenO_some (lenO_ok (by simp only [List.length_cons, List.length_nil]; omega))]
    · rw [decide_eq_false hc, if_neg hc, cond_false, List.append_nil]
theorem r_Kept (x : Ix) (h : IxOk x) (r : Rp) (hr : RepOk r) : m85 x r = some (keptF x r) := by
  have hl := h.len
  unfold m85 w23; dsimp only
  simp only [r_ci x h, repR_eq r hr, r_belong x h r, Option.bind_some]
  unfold keptF noIx
  by_cases h0 : ciF x = 0
  case neg => simp [h0]
  by_cases h1 : rpF r = 0
  case neg => simp [h0, h1]
  cases h2 : agF x r with
  | false => simp [h0, h1]
  | true =>
  simp only [h0, h1, decide_true, Bool.not_true, cond_false]
  refine bind_loop (a := .inl (x.fRef, x.fSender, x.fReceiver, x.fDay, x.fSecond, x.fTest, keepG x.fGroups r.fGroups x.fGroups.length, (x.fGroups.length : Int)))
    (loop_trace (fun i : Nat => (x.fRef, x.fSender, x.fReceiver, x.fDay, x.fSecond, x.fTest, keepG x.fGroups r.fGroups i, (i : Int))) x.fGroups.length (fun i hi => ?_) (by simp only [lt_dec_self, cond_false]; rfl)) rfl
  obtain ⟨g, hg⟩ := get_lt hi
  obtain ⟨p, hp, hpm⟩ := ag_grp h2 hg
  have hgl := (h.grp g (List.mem_of_getElem? hg)).len
  simp only [lt_dec hi, cond_true, getI_nat, hg, Option.bind_some, hp]
  refine (bind_loop (a := .inl (x.fRef, x.fSender, x.fReceiver, x.fDay, x.fSecond, x.fTest, keepG x.fGroups r.fGroups i, g.fRef, g.fKind, keepTo g.fMessages p.fMessages g.fMessages.length, (g.fMessages.length : Int)))
    (loop_trace (fun k : Nat => (x.fRef, x.fSender, x.fReceiver, x.fDay, x.fSecond, x.fTest, keepG x.fGroups r.fGroups i, g.fRef, g.fKind, keepTo g.fMessages p.fMessages k, (k : Int))) g.fMessages.length (fun k hk => ?_) (by simp only [lt_dec_self, cond_false]; rfl)) rfl).trans ?_
  · obtain ⟨m, hm⟩ := get_lt hk
    obtain ⟨q, hq⟩ := hpm k m hm
    have hkl := keepTo_len g.fMessages p.fMessages k
    have hstep : keepTo g.fMessages p.fMessages (k + 1) = keepTo g.fMessages p.fMessages k ++ (if q.fVerdict = 3 then [] else [m]) := by
      unfold keepTo; rw [range_flat]; simp only [keepAt, hm, hq]
    simp only [lt_dec hk, cond_true, getI_nat, hm, hq, Option.bind_some, hstep, wrapN k (by omega)]
    by_cases hv : q.fVerdict = 3
    · simp only [hv, decide_true, Bool.not_true, cond_false, if_true, List.append_nil]
    · simp only [hv, decide_false, Bool.not_false, cond_true, if_false]
      rw [thenO_some (lenO_ok (by simp only [List.length_cons, List.length_nil]; omega))]
  · have hkl := keepG_len x.fGroups r.fGroups i
    have hstep : keepG x.fGroups r.fGroups (i + 1) = keepG x.fGroups r.fGroups i ++ (if 0 < (keepTo g.fMessages p.fMessages g.fMessages.length).length ∨ g.fMessages.length = 0 then [⟨g.fRef, g.fKind, keepTo g.fMessages p.fMessages g.fMessages.length⟩] else []) := by
      unfold keepG; rw [range_flat]; simp only [keepGAt, hg, hp]
    simp only [outK, orO_some, Option.bind_some, hstep, wrapN i (by omega)]
    have e1 : decide (0 < ((keepTo g.fMessages p.fMessages g.fMessages.length).length : Int)) = decide (0 < (keepTo g.fMessages p.fMessages g.fMessages.length).length) := pos_dec _
    have e2 : decide ((g.fMessages.length : Int) = 0) = decide (g.fMessages.length = 0) := by congr 1; apply propext; omega
    rw [e1, e2, ← Bool.decide_or]
    by_cases hc : 0 < (keepTo g.fMessages p.fMessages g.fMessages.length).length ∨ g.fMessages.length = 0
    · rw [decide_eq_true hc, if_pos hc, cond_true, thenO_some (lenO_ok (by simp only [List.length_cons, List.length_nil]; omega))]
    · rw [decide_eq_false hc, if_neg hc, cond_false, List.append_nil]
theorem sameMs_refl (l : List Ms) (hl : l.length ≤ 1048576) (h : ∀ m ∈ l, SegsOk m.fSegments) : m89 l l = some true := by
  unfold m89 w25; dsimp only
  simp only [decide_true, Bool.not_true, cond_false]
  refine bind_loop (a := .inl (l.length : Int)) (loop_trace (fun i : Nat => (i : Int)) l.length (fun i hi => ?_) (by simp only [lt_dec_self, cond_false]; rfl)) rfl
  obtain ⟨e, he⟩ := get_lt hi
  obtain ⟨h1, h2⟩ := h e (List.mem_of_getElem? he)
  simp only [lt_dec hi, cond_true, getI_nat, he, Option.bind_some, decide_true, Bool.not_true, sameSegs_refl _ h1 h2, orO_some, Bool.or_self, cond_false, wrapN i (by omega)]
theorem sameIx_refl (x : Ix) (hl : x.fGroups.length ≤ 1048576) (h : ∀ g ∈ x.fGroups, g.fMessages.length ≤ 1048576 ∧ ∀ m ∈ g.fMessages, SegsOk m.fSegments) : m92 x x = some true := by
  unfold m92 w27; dsimp only
  simp only [decide_true, Bool.not_true, orO_some, Bool.or_self, Option.bind_some, cond_false]
  refine bind_loop (a := .inl (x.fGroups.length : Int)) (loop_trace (fun i : Nat => (i : Int)) x.fGroups.length (fun i hi => ?_) (by simp only [lt_dec_self, cond_false]; rfl)) rfl
  obtain ⟨e, he⟩ := get_lt hi
  obtain ⟨h1, h2⟩ := h e (List.mem_of_getElem? he)
  simp only [lt_dec hi, cond_true, getI_nat, he, Option.bind_some, decide_true, Bool.not_true, sameMs_refl _ h1 h2, orO_some, Bool.or_self, cond_false, wrapN i (by omega)]
theorem law_Kept (x : Ix) (h : IxOk x) (r : Rp) (hr : RepOk r) : m95 x r = some true := by
  have hs : m92 (keptF x r).1 (keptF x r).1 = some true := by
    have hl := h.len
    unfold keptF
    by_cases h0 : ciF x = 0
    case neg => simp only [h0, decide_false, Bool.not_false, cond_true]; exact sameIx_refl noIx (by simp [noIx]) (by simp [noIx])
    by_cases h1 : rpF r = 0
    case neg => simp only [h0, h1, decide_true, Bool.not_true, cond_false, decide_false, Bool.not_false, cond_true]; exact sameIx_refl noIx (by simp [noIx]) (by simp [noIx])
    cases h2 : agF x r with
    | false => simp only [h0, h1, decide_true, Bool.not_true, cond_false, Bool.not_false, cond_true]; exact sameIx_refl noIx (by simp [noIx]) (by simp [noIx])
    | true =>
      simp only [h0, h1, decide_true, Bool.not_true, cond_false]
      refine sameIx_refl _ (Nat.le_trans (keepG_len _ _ _) hl) (fun g hg => ?_)
      obtain ⟨g', k1, k2, k3⟩ := keepG_mem hg
      exact ⟨Nat.le_trans k2 (h.grp g' k1).len, fun m hm => segs_ok (ci_grp h0 g' k1 m (k3 m hm))⟩
  unfold m95 w29; dsimp only
  simp only [w_Kept x h r hr, r_Kept x h r hr, Option.bind_some, hs, awake_eq, andO_some, decide_true, Bool.and_self]
end Go.Proofs.YthailknfgcegoaaGreatDoor

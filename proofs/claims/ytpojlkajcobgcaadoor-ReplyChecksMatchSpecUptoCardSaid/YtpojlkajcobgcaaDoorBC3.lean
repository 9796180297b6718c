/-
  Texts of mine, one behind the other (SAY10, SAKS, SAK0, SAC1, SAUC).
-/
import Derived.Test.YtpojlkajcobgcaaDoorBC2
import Derived.KernelRfl
import Derived.Test.YtpojlkajcobgcaaDoorSAEngN
/-
  Plain laws of the replies: messages of the reference, groups, CheckReply.
-/
namespace Go.Proofs.YtpojlkajcobgcaaDoor
set_option linter.unusedSimpArgs false
set_option linter.unusedVariables false
open Go.RowKit

/-- The loop that looks for one before. -/
theorem before_eq {α : Type} (l : List α) (i : Nat) (hi : i ≤ l.length) (hl : l.length ≤ MX) (q : α → Bool) {f : Int → Option (Int ⊕ (Int ⊕ Int))} (K : Int → Option Int)
    (hf : ∀ k o, k < i → l[k]? = some o → f (k : Int) = bif q o then some (.inr (.inr 7)) else some (.inl ((k + 1 : Nat) : Int))) (he : f (i : Int) = some (.inr (.inl (i : Int)))) :
    (loopC f 0).bind (outK K) = bif (l.take i).any q then some 7 else K (i : Int) := by
  refine (loop_fS (fun i : Nat => (i : Int)) (n := i) (g := anyAt l q 7) (fun k hk => ?_) he K).trans ?_
  · obtain ⟨o, ho⟩ := get_lt (l := l) (i := k) (by omega)
    rw [hf k o hk ho]
    simp only [anyAt, ho]
    cases q o <;> rfl
  · rw [firstF_any l q 7 (by decide) i hi]
    cases (l.take i).any q <;> rfl
theorem msgR_eq (l : List Mr) (i : Nat) {m : Mr} (hm : l[i]? = some m) (h : MsgOk m) (hl : l.length ≤ MX) : m_interchangeref7_checkMessage l i = some (msgF m ((l.take i).any fun o => decide (o.fRef = m.fRef))) := by
  have hf := h.fails
  have hil := get_le hm
  have hl' := hl
  unfold MX at hf hl'
  unfold m_interchangeref7_checkMessage sims_G5_2_0; dsimp only
  simp only [getI_nat, hm, orO_some, andO_some, Option.bind_some, isReference_eq _ h.ref, isVerdictR_eq, flawsR_eq _ h.flaws h.names, pos_dec]
  rw [show decide ((200 : Int) < (m.fFailing.length : Int)) = decide (200 < m.fFailing.length) from big_dec m.fFailing.length 200]
  unfold msgF
  have hsm : (decide (0 < m.fFlaws.length) || decide (0 < m.fFailing.length)) = someM m := rfl
  rw [Bool.or_assoc, hsm]
  unfold msgN
  cases isRef m.fRef with
  | false => rfl
  | true =>
  cases isVerdict m.fVerdict with
  | false => rfl
  | true =>
  simp only [Bool.not_true, cond_false]
  rw [before_eq l i (by omega) hl (fun o => decide (o.fRef = m.fRef)) _ (fun k o hk ho => by
    simp only [lt_dec hk, cond_true, getI_nat, ho, Option.bind_some, wrapN k (by omega)]
    cases decide (o.fRef = m.fRef) <;> rfl) (by simp only [lt_dec_self, cond_false]; rfl)]
  cases ((l.take i).any fun o => decide (o.fRef = m.fRef)) with
  | true => rfl
  | false =>
  cases (m.fUnknown && (!decide (m.fVerdict = 3) || someM m)) with
  | true => rfl
  | false =>
  cases hz : decide (flawsF m.fFlaws = 0) with
  | false => rfl
  | true =>
  cases hb : decide (200 < m.fFailing.length) with
  | true => rfl
  | false =>
  simp only [Bool.not_true, cond_false]
  refine (loop_fS (fun i : Nat => (i : Int)) (n := m.fFailing.length) (g := failAt m.fFailing) (fun i hi => ?_) (by simp only [lt_dec_self, cond_false]; rfl) _).trans ?_
  · obtain ⟨e, he⟩ := get_lt hi
    obtain ⟨p, hp⟩ := get_lt (l := m.fFailing) (i := i - 1) (by omega)
    have hs := h.fail e (List.mem_of_getElem? he)
    simp only [lt_dec hi, cond_true, getI_nat, he, Option.bind_some, r_name _ hs, prev_eq m.fFailing i hp h.fails hi (fun e_1 => some (Op.bytesLess e e_1 || decide (e = e_1))) rfl, wrapN i (by omega), failAt, hp]
    generalize nameF e = a
    generalize (decide (0 < i) && (Op.bytesLess e p || decide (e = p))) = b
    cases a <;> cases b <;> rfl
  · by_cases hq : firstF (failAt m.fFailing) 0 m.fFailing.length = 0
    · rw [if_pos hq, if_pos hq]; cases decide (m.fVerdict = 1) && someM m <;> rfl
    · rw [if_neg hq, if_neg hq]
/-! ### Groups -/
def msgAt (l : List Mr) (i : Nat) : Int := match l[i]? with
  | some m => msgF m ((l.take i).any fun o => decide (o.fRef = m.fRef))
  | none => 0
def grpN (a b c : Bool) (fm : Int) (e : Bool) : Int := bif !a then 3 else bif !b then 4 else bif c then 7 else if fm = 0 then (bif e then 12 else 0) else fm
def grpF (g : Gr) (twice : Bool) : Int := grpN (isRef g.fRef) (isVerdict g.fVerdict) twice (firstF (msgAt g.fMessages) 0 g.fMessages.length) (!decide (vG g = g.fVerdict))
theorem grp_eq (g : Gr) (h : GrpOk g) (l : List Gr) (hl : l.length ≤ MX) : m_reply_groupFault g l = some (grpF g (l.any fun o => decide (o.fRef = g.fRef))) := by
  have hlen := h.len
  have h1 : ∀ a, m_reply_groupFault_1 a g = some (decide (a.fRef = g.fRef)) := fun a => by unfold m_reply_groupFault_1 sims_G5_0_0; dsimp only
  unfold m_reply_groupFault sims_G5_4_0; dsimp only
  simp only [Option.bind_some, isRef_eq _ h.ref, isVerdict_eq, anyG_eq l hl _ _ _ _ _ h1, vG_eq g h.len]
  unfold grpF grpN
  cases isRef g.fRef with
  | false => rfl
  | true =>
  cases isVerdict g.fVerdict with
  | false => rfl
  | true =>
  cases (l.any fun o => decide (o.fRef = g.fRef)) with
  | true => rfl
  | false =>
  simp only [Bool.not_true, cond_false]
  refine (loop_fS (fun i : Nat => (i : Int)) (n := g.fMessages.length) (g := msgAt g.fMessages) (fun i hi => ?_) (by simp only [lt_dec_self, cond_false]; rfl) _).trans ?_
  · obtain ⟨e, he⟩ := get_lt hi
    have hs := h.msg e (List.mem_of_getElem? he)
    have hsl : sliceI g.fMessages ((none : Option Int).getD 0) ((some (i : Int)).getD (g.fMessages.length : Int)) = some (g.fMessages.take i) := sliceI_take g.fMessages i (by omega)
    simp only [lt_dec hi, cond_true, getI_nat, he, Option.bind_some, hsl, msg_eq e hs _ (show (g.fMessages.take i).length ≤ MX by rw [List.length_take]; unfold MX; omega), wrapN i (by omega), msgAt]
    generalize msgF e _ = a
    by_cases ha : a = 0 <;> simp [ha, inrO]
  · by_cases hq : firstF (msgAt g.fMessages) 0 g.fMessages.length = 0
    · rw [if_pos hq, if_pos hq]; cases decide (vG g = g.fVerdict) <;> rfl
    · rw [if_neg hq, if_neg hq]
theorem grpR_eq (l : List Gr) (i : Nat) {g : Gr} (hg : l[i]? = some g) (h : GrpOk g) (hl : l.length ≤ MX) : m_interchangeref7_checkGroup l i = some (grpF g ((l.take i).any fun o => decide (o.fRef = g.fRef))) := by
  have hlen := h.len
  have hil := get_le hg
  have hl' := hl
  unfold MX at hl'
  unfold m_interchangeref7_checkGroup sims_G5_3_0; dsimp only
  simp only [getI_nat, hg, Option.bind_some, isReference_eq _ h.ref, isVerdictR_eq, vGR_eq g h.len]
  unfold grpF grpN
  cases isRef g.fRef with
  | false => rfl
  | true =>
  cases isVerdict g.fVerdict with
  | false => rfl
  | true =>
  simp only [Bool.not_true, cond_false]
  rw [before_eq l i (by omega) hl (fun o => decide (o.fRef = g.fRef)) _ (fun k o hk ho => by
    simp only [lt_dec hk, cond_true, getI_nat, ho, Option.bind_some, wrapN k (by omega)]
    cases decide (o.fRef = g.fRef) <;> rfl) (by simp only [lt_dec_self, cond_false]; rfl)]
  cases ((l.take i).any fun o => decide (o.fRef = g.fRef)) with
  | true => rfl
  | false =>
  simp only [cond_false]
  refine (loop_fS (fun i : Nat => (i : Int)) (n := g.fMessages.length) (g := msgAt g.fMessages) (fun i hi => ?_) (by simp only [lt_dec_self, cond_false]; rfl) _).trans ?_
  · obtain ⟨e, he⟩ := get_lt hi
    have hs := h.msg e (List.mem_of_getElem? he)
    simp only [lt_dec hi, cond_true, msgR_eq g.fMessages i he hs (show g.fMessages.length ≤ MX by unfold MX; omega), Option.bind_some, wrapN i (by omega), msgAt, he]
    generalize msgF e _ = a
    by_cases ha : a = 0 <;> simp [ha, inrO]
  · by_cases hq : firstF (msgAt g.fMessages) 0 g.fMessages.length = 0
    · rw [if_pos hq, if_pos hq]
      rw [show decide (g.fVerdict = vG g) = decide (vG g = g.fVerdict) from by congr 1; apply propext; exact eq_comm]
      cases decide (vG g = g.fVerdict) <;> rfl
    · rw [if_neg hq, if_neg hq]
/-! ### Replies -/
def grpAt (l : List Gr) (i : Nat) : Int := match l[i]? with
  | some g => grpF g ((l.take i).any fun o => decide (o.fRef = g.fRef))
  | none => 0
def manyF (l : List Gr) : Int := l.foldl (fun n g => IntKind.i64.wrap (n + (g.fMessages.length : Int))) 0
def rpN (a b c : Bool) (fg : Int) (d e : Bool) : Int := bif !a then 3 else bif !b then 4 else bif c then 2 else if fg = 0 then (bif d then 2 else bif e then 12 else 0) else fg
def rpF (r : Rp) : Int := rpN (isRef r.fRef) (isVerdict r.fVerdict) (decide (50 < r.fGroups.length)) (firstF (grpAt r.fGroups) 0 r.fGroups.length) (decide (200 < manyF r.fGroups)) (!decide (vR r = r.fVerdict))
theorem rep_eq (r : Rp) (h : RepOk r) : m_reply_CheckReply r = some (rpF r) := by
  have hlen := h.len
  unfold MX at hlen
  unfold m_reply_CheckReply sims_G5_5_0; dsimp only
  rw [show decide ((50 : Int) < (r.fGroups.length : Int)) = decide (50 < r.fGroups.length) from big_dec r.fGroups.length 50]
  simp only [Option.bind_some, isRef_eq _ h.ref, isVerdict_eq]
  unfold rpF rpN
  cases isRef r.fRef with
  | false => rfl
  | true =>
  cases isVerdict r.fVerdict with
  | false => rfl
  | true =>
  by_cases hb : 50 < r.fGroups.length
  · simp [hb]
  simp only [hb, decide_false, Bool.not_true, cond_false, vR_eq r (by omega), Option.bind_some]
  refine (loop_fS (fun i : Nat => (manyF (r.fGroups.take i), (i : Int))) (n := r.fGroups.length) (g := grpAt r.fGroups) (fun i hi => ?_) (by simp only [lt_dec_self, cond_false]; rfl) _).trans ?_
  · obtain ⟨e, he⟩ := get_lt hi
    have hs := h.grp e (List.mem_of_getElem? he)
    have hsl : sliceI r.fGroups ((none : Option Int).getD 0) ((some (i : Int)).getD (r.fGroups.length : Int)) = some (r.fGroups.take i) := sliceI_take r.fGroups i (by omega)
    have hm : manyF (r.fGroups.take (i + 1)) = IntKind.i64.wrap (manyF (r.fGroups.take i) + (e.fMessages.length : Int)) := foldl_snoc he
    simp only [lt_dec hi, cond_true, getI_nat, he, Option.bind_some, hsl, grp_eq e hs _ (show (r.fGroups.take i).length ≤ MX by rw [List.length_take]; unfold MX; omega), wrapN i (by omega), grpAt, hm]
    generalize grpF e _ = a
    by_cases ha : a = 0 <;> simp [ha, inrO]
  · by_cases hq : firstF (grpAt r.fGroups) 0 r.fGroups.length = 0
    · rw [if_pos hq, if_pos hq]
      simp only [List.take_length]
      cases decide (200 < manyF r.fGroups) <;> cases decide (vR r = r.fVerdict) <;> rfl
    · rw [if_neg hq, if_neg hq]
theorem repR_eq (r : Rp) (h : RepOk r) : m_interchangeref7_CheckReply r = some (rpF r) := by
  have hlen := h.len
  unfold MX at hlen
  unfold m_interchangeref7_CheckReply sims_G5_4_0; dsimp only
  rw [show decide ((50 : Int) < (r.fGroups.length : Int)) = decide (50 < r.fGroups.length) from big_dec r.fGroups.length 50]
  simp only [Option.bind_some, isReference_eq _ h.ref, isVerdictR_eq]
  unfold rpF rpN
  cases isRef r.fRef with
  | false => rfl
  | true =>
  cases isVerdict r.fVerdict with
  | false => rfl
  | true =>
  by_cases hb : 50 < r.fGroups.length
  · simp [hb]
  simp only [hb, decide_false, Bool.not_true, cond_false, vRR_eq r (by omega), Option.bind_some]
  refine (loop_fS (fun i : Nat => (manyF (r.fGroups.take i), (i : Int))) (n := r.fGroups.length) (g := grpAt r.fGroups) (fun i hi => ?_) (by simp only [lt_dec_self, cond_false]; rfl) _).trans ?_
  · obtain ⟨e, he⟩ := get_lt hi
    have hs := h.grp e (List.mem_of_getElem? he)
    have hm : manyF (r.fGroups.take (i + 1)) = IntKind.i64.wrap (manyF (r.fGroups.take i) + (e.fMessages.length : Int)) := foldl_snoc he
    simp only [lt_dec hi, cond_true, grpR_eq r.fGroups i he hs h.len, getI_nat, he, Option.bind_some, wrapN i (by omega), grpAt, hm]
    generalize grpF e _ = a
    by_cases ha : a = 0 <;> simp [ha, inrO]
  · by_cases hq : firstF (grpAt r.fGroups) 0 r.fGroups.length = 0
    · rw [if_pos hq, if_pos hq]
      simp only [List.take_length]
      rw [show decide (r.fVerdict = vR r) = decide (vR r = r.fVerdict) from by congr 1; apply propext; exact eq_comm]
      cases decide (200 < manyF r.fGroups) <;> cases decide (vR r = r.fVerdict) <;> rfl
    · rw [if_neg hq, if_neg hq]
end Go.Proofs.YtpojlkajcobgcaaDoor

/-
  Segments: when they are right; sameness.
-/
namespace Go.Proofs.YtpojlkajcobgcaaDoor
set_option linter.unusedSimpArgs false
set_option linter.unusedVariables false
open Go.RowKit

theorem sameTexts_refl (l : List (List UInt8)) (hl : l.length ≤ 137438953472) : m_interchangeref2_SameTexts l l = some true := by
  unfold m_interchangeref2_SameTexts sims_G5_0_0; dsimp only
  simp only [decide_true, Bool.not_true, cond_false]
  refine bind_loop (a := .inl (l.length : Int)) (loop_trace (fun i => (i : Int)) l.length (fun i hi => ?_) ?_) rfl
  · obtain ⟨e, he⟩ := get_lt hi
    simp only [lt_dec hi, cond_true, getI_nat, he, Option.bind_some, decide_true, Bool.not_true, cond_false, wrapN i (by omega)]
  · simp only [lt_dec_self, cond_false]; rfl
theorem sameSeg_refl (x : Tapi_Segment) (hx : cloneOk x) : m_interchangeref2_SameSegment x x = some true := by
  obtain ⟨h1, h2⟩ := hx
  unfold m_interchangeref2_SameSegment sims_G5_1_1; dsimp only
  simp only [decide_true, Bool.not_true, orO_some, Bool.or_self, Option.bind_some, cond_false]
  refine bind_loop (a := .inl (x.fElements.length : Int)) (loop_trace (fun i => (i : Int)) x.fElements.length (fun i hi => ?_) ?_) rfl
  · obtain ⟨e, he⟩ := get_lt hi
    obtain ⟨h3, h4⟩ := h2 e (List.mem_of_getElem? he)
    simp only [lt_dec hi, cond_true, getI_nat, he, Option.bind_some, decide_true, Bool.not_true, cond_false, wrapN i (by omega)]
    refine bind_loop (a := .inl (e.fRepeats.length : Int)) (loop_trace (fun i => (i : Int)) e.fRepeats.length (fun k hk => ?_) ?_) rfl
    · obtain ⟨p, hp⟩ := get_lt hk
      simp only [lt_dec hk, cond_true, getI_nat, hp, Option.bind_some, sameTexts_refl p (h4 p (List.mem_of_getElem? hp)), Bool.not_true, cond_false, wrapN k (by omega)]
    · simp only [lt_dec_self, cond_false]; rfl
  · simp only [lt_dec_self, cond_false]; rfl
theorem sameSegs_refl (l : List Tapi_Segment) (hl : l.length ≤ 137438953472) (hx : ∀ x ∈ l, cloneOk x) : m_interchangeref2_SameSegments l l = some true := by
  unfold m_interchangeref2_SameSegments sims_G5_2_0; dsimp only
  simp only [decide_true, Bool.not_true, cond_false]
  refine bind_loop (a := .inl (l.length : Int)) (loop_trace (fun i => (i : Int)) l.length (fun i hi => ?_) ?_) rfl
  · obtain ⟨e, he⟩ := get_lt hi
    simp only [lt_dec hi, cond_true, getI_nat, he, Option.bind_some, sameSeg_refl e (hx e (List.mem_of_getElem? he)), Bool.not_true, cond_false, wrapN i (by omega)]
  · simp only [lt_dec_self, cond_false]; rfl

end Go.Proofs.YtpojlkajcobgcaaDoor

/-
  The simple thing that the package does (awake), reckoned.
-/
namespace Go.Proofs.YtpojlkajcobgcaaDoor
set_option linter.unusedSimpArgs false
set_option linter.unusedVariables false
open Go.RowKit

def aE : Tapi_BookEvent := ⟨1, 0, 0, [65], 0⟩
theorem aw_cb : m_reply_CheckBook [aE] = some 0 := by
  unfold m_reply_CheckBook sims_G9_3_0; dsimp only
  exact bind_loop (a := .inl 1) (loopC_some.2 ⟨3, by kernel_rfl⟩) (by kernel_rfl)
theorem aw_bk : m_reply_book [aE] = some ([⟨[65], 0, 0, -1, 0⟩], []) := by
  unfold m_reply_book sims_G9_0_1; dsimp only
  exact bind_loop (a := .inl ([⟨[65], 0, 0, -1, 0⟩], [], [([65], [0])], 1)) (loopC_some.2 ⟨3, by kernel_rfl⟩) (by kernel_rfl)
theorem aw_at : m_reply_at [aE] 0 = some [⟨[65], 0, 0, -1, 0⟩] := by
  unfold m_reply_at sims_G9_1_0; dsimp only
  refine bind_loop (a := .inl 1) (loopC_some.2 ⟨3, by kernel_rfl⟩) ?_
  have h : sliceI [aE] ((none : Option Int).getD 0) ((some (1 : Int)).getD ([aE].length : Int)) = some [aE] := by kernel_rfl
  simp only [outK]
  refine (congrArg (fun q => Option.bind q _) h).trans ?_
  simp only [Option.bind_some, aw_bk]
theorem aw_st : m_reply_StandingAt [aE] 0 = some (⟨1, 0, 0, 0, 0, 0⟩, 0) := by
  unfold m_reply_StandingAt sims_G9_4_0; dsimp only
  have hm : m_kit_IsMoment 0 = some true := by kernel_rfl
  simp only [aw_cb, aw_at, hm, Option.bind_some, decide_true, Bool.not_true, cond_false]
  exact bind_loop (a := .inl (⟨1, 0, 0, 0, 0, 0⟩, 1)) (loopC_some.2 ⟨3, by kernel_rfl⟩) (by kernel_rfl)
theorem awake_eq : m_interchangelaw7_awake = some true := by
  unfold m_interchangelaw7_awake sims_G9_5_0; dsimp only
  have h := aw_st
  unfold aE at h
  rw [h]
  rfl
end Go.Proofs.YtpojlkajcobgcaaDoor

/-
  Plain laws: the segments of a reply on both sides; ReplyChecksMatchSpec.
-/
namespace Go.Proofs.YtpojlkajcobgcaaDoor
set_option linter.unusedSimpArgs false
set_option linter.unusedVariables false
open Go.RowKit

/-! ### Loops that put something behind for each element -/
theorem app_loop {α β R : Type} (l : List α) (base : List β) (f : α → List β) (B : Nat) (hB : (base ++ l.flatMap f).length ≤ B) {F : List β × Int → Option ((List β × Int) ⊕ ((List β × Int) ⊕ R))} (K : List β × Int → Option R)
    (hb : ∀ (i : Nat) e (out : List β), l[i]? = some e → out.length + (f e).length ≤ B → F (out, (i : Int)) = some (.inl (out ++ f e, ((i + 1 : Nat) : Int)))) (he : ∀ out, F (out, (l.length : Int)) = some (.inr (.inl (out, (l.length : Int))))) :
    (loopC F (base, 0)).bind (outK K) = K (base ++ l.flatMap f, (l.length : Int)) := by
  refine bind_loop (a := .inl (base ++ l.flatMap f, (l.length : Int))) ?_ rfl
  have h := loop_pre (f := F) (a := .inl (base ++ l.flatMap f, (l.length : Int))) l (fun i q => (base ++ q.flatMap f, (i : Int))) (fun i e h => ?_) (he _)
  · simpa using h
  · have hlen : (base ++ (l.take i).flatMap f).length + (f e).length ≤ B := by
      have h1 : l.flatMap f = (l.take i).flatMap f ++ (f e ++ (l.drop (i + 1)).flatMap f) := by
        conv => lhs; rw [← List.take_append_drop i l]
        rw [List.flatMap_append, List.drop_eq_getElem_cons (get_le h)]
        rw [List.flatMap_cons]
        have : l[i]'(get_le h) = e := by
          have := List.getElem?_eq_getElem (get_le h)
          rw [h] at this; exact (Option.some.inj this).symm
        rw [this]
      rw [h1] at hB
      simp only [List.length_append] at hB ⊢
      omega
    rw [hb i e _ h hlen]
    simp [List.append_assoc]
theorem flat_len {α β : Type} {row : α → List DV} {f : α → List β} : ∀ {l : List α}, (∀ a ∈ l, (f a).length ≤ dvBL (row a)) → (l.flatMap f).length ≤ dvBR (l.map row)
  | [], _ => by simp
  | a :: l, h => by
    have h1 := h a (by simp)
    have h2 := flat_len (l := l) fun b hb => h b (by simp [hb])
    simp only [List.flatMap_cons, List.length_append, List.map_cons, dvBR]
    omega

/-! ### Segments of texts -/
def el1 (t : List UInt8) : Tapi_Element := ⟨[[t]]⟩
def elP (p : List (List UInt8)) : Tapi_Element := ⟨[p]⟩
theorem made_eq (tag : List UInt8) (ts : List (List UInt8)) (h : ts.length ≤ 1000) : m_wire_Made tag ts = some ⟨tag, ts.map el1⟩ := by
  unfold m_wire_Made sims_G6_0_1; dsimp only
  refine bind_loop (a := .inl (tag, ts.map el1, (ts.length : Int))) (loop_pre ts (fun i q => (tag, q.map el1, (i : Int))) (fun i e he => ?_) ?_) rfl
  · have hi := get_le he
    simp only [lt_dec hi, cond_true, getI_nat, he, Option.bind_some, wrapN i (by omega)]
    rw [thenO_ok (by simp; omega), List.map_append]
    rfl
  · simp only [lt_dec_self, cond_false]; rfl
theorem rseg_eq (tag : List UInt8) (ts : List (List (List UInt8))) (h : ts.length ≤ 1000) : m_interchangeref7_segment tag ts = some ⟨tag, ts.map elP⟩ := by
  unfold m_interchangeref7_segment sims_G6_0_2; dsimp only
  refine bind_loop (a := .inl (tag, ts.map elP, (ts.length : Int))) (loop_pre ts (fun i q => (tag, q.map elP, (i : Int))) (fun i e he => ?_) ?_) rfl
  · have hi := get_le he
    simp only [lt_dec hi, cond_true, getI_nat, he, Option.bind_some, wrapN i (by omega)]
    rw [thenO_ok (by simp; omega), List.map_append]
    rfl
  · simp only [lt_dec_self, cond_false]; rfl
abbrev i64 (n : Int) : Prop := -9223372036854775808 ≤ n ∧ n ≤ 9223372036854775807
theorem itoa_eq {n : Int} (h : i64 n) : m_strconv_Itoa n = some (Lib.itoa n) := by unfold m_strconv_Itoa; rw [if_pos h]
structure FlawI (f : Tapi_Flaw) : Prop where
  k : i64 f.fKind
  s : i64 f.fSegment
  e : i64 f.fAt.fElement
  r : i64 f.fAt.fRepeat
  p : i64 f.fAt.fPart
def flawS (f : Tapi_Flaw) : Tapi_Segment :=
  ⟨[65, 75, 70], [el1 (Lib.itoa f.fKind), el1 (Lib.itoa f.fSegment)] ++
    (bif !(decide (f.fAt.fElement = 0) && (decide (f.fAt.fRepeat = 0) && decide (f.fAt.fPart = 0))) then [elP [Lib.itoa f.fAt.fElement, Lib.itoa f.fAt.fRepeat, Lib.itoa f.fAt.fPart]]
      else bif !decide (f.fName = []) then [el1 []] else []) ++ (bif !decide (f.fName = []) then [el1 f.fName] else [])⟩
theorem flaw_eq (f : Tapi_Flaw) (h : FlawI f) : m_reply_flawSegment f = some (flawS f) := by
  have he : ∀ p, m_reply_element p = some (elP p) := fun p => by unfold m_reply_element sims_G6_0_0; dsimp only; rfl
  unfold m_reply_flawSegment sims_G7_1_0; dsimp only
  simp only [itoa_eq h.k, itoa_eq h.s, itoa_eq h.e, itoa_eq h.r, itoa_eq h.p, Option.bind_some, made_eq [65, 75, 70] [Lib.itoa f.fKind, Lib.itoa f.fSegment] (by simp), he, List.map_cons, List.map_nil, List.length_cons, List.length_nil, List.length_append]
  unfold flawS
  cases (decide (f.fAt.fElement = 0) && (decide (f.fAt.fRepeat = 0) && decide (f.fAt.fPart = 0))) <;> cases decide (f.fName = []) <;> rfl
theorem rflaw_eq (f : Tapi_Flaw) (h : FlawI f) : m_interchangeref7_flawSegment f = some (flawS f) := by
  unfold m_interchangeref7_flawSegment sims_G8_1_0; dsimp only
  simp only [itoa_eq h.k, itoa_eq h.s, itoa_eq h.e, itoa_eq h.r, itoa_eq h.p, Option.bind_some]
  rw [rseg_eq, rseg_eq, rseg_eq, rseg_eq, rseg_eq, rseg_eq]
  · unfold flawS
    cases (decide (f.fAt.fElement = 0) && (decide (f.fAt.fRepeat = 0) && decide (f.fAt.fPart = 0))) <;> cases decide (f.fName = []) <;> rfl
  all_goals simp
def failS (s : List UInt8) : Tapi_Segment := ⟨[65, 75, 82], [el1 s]⟩
def msgS (m : Tapi_MessageReply) : List Tapi_Segment :=
  ⟨[65, 75, 77], [el1 m.fRef, el1 (Lib.itoa m.fVerdict)] ++ (bif m.fUnknown then [el1 [49]] else [])⟩ :: (m.fFlaws.map flawS ++ m.fFailing.map failS)
def grpS (g : Tapi_GroupReply) : List Tapi_Segment := ⟨[65, 75, 71], [el1 g.fRef, el1 (Lib.itoa g.fVerdict)]⟩ :: g.fMessages.flatMap msgS
def repS_ (r : Tapi_Reply) : List Tapi_Segment := ⟨[65, 75, 73], [el1 r.fRef, el1 (Lib.itoa r.fVerdict)]⟩ :: r.fGroups.flatMap grpS
structure RepI (r : Tapi_Reply) : Prop where
  v : i64 r.fVerdict
  g : ∀ g ∈ r.fGroups, i64 g.fVerdict ∧ ∀ m ∈ g.fMessages, i64 m.fVerdict ∧ ∀ f ∈ m.fFlaws, FlawI f
theorem msgS_len (m : Tapi_MessageReply) : (msgS m).length ≤ dvBL (rTapi_MessageReply m) := by
  have h1 : m.fFlaws.length ≤ dvBR (m.fFlaws.map rTapi_Flaw) := by
    have := flat_len (l := m.fFlaws) (row := rTapi_Flaw) (f := fun a => [a]) (fun a _ => by simp [rTapi_Flaw, rTapi_Spot, dvBL, dvB])
    simpa using this
  have h2 : m.fFailing.length ≤ dvBR (m.fFailing.map rowS) := by
    have := flat_len (l := m.fFailing) (row := rowS) (f := fun a => [a]) (fun a _ => by simp [rowS, dvBL, dvB])
    simpa using this
  unfold msgS
  simp only [rTapi_MessageReply, dvBL, dvB, List.length_cons, List.length_append, List.length_map]
  omega
theorem grpS_len (g : Tapi_GroupReply) : (grpS g).length ≤ dvBL (rTapi_GroupReply g) := by
  have h1 := flat_len (l := g.fMessages) (row := rTapi_MessageReply) (f := msgS) (fun a _ => msgS_len a)
  unfold grpS
  simp only [rTapi_GroupReply, dvBL, dvB, List.length_cons]
  omega
theorem repS_len (r : Tapi_Reply) : (repS_ r).length ≤ dvBL (rTapi_Reply r) := by
  have h1 := flat_len (l := r.fGroups) (row := rTapi_GroupReply) (f := grpS) (fun a _ => grpS_len a)
  unfold repS_
  simp only [rTapi_Reply, dvBL, dvB, List.length_cons]
  omega
theorem map_flat {α β : Type} (f : α → β) : ∀ l : List α, l.flatMap (fun a => [f a]) = l.map f
  | [] => rfl
  | a :: l => by simp [map_flat f l]
/-- The loops over the flaws and the failing rules of a message. -/
theorem msg_loops {R : Type} (m : Tapi_MessageReply) (out : List Tapi_Segment) (hd : Tapi_Segment) (hB : out.length + (1 + m.fFlaws.length + m.fFailing.length) ≤ 1048576)
    {F G : List Tapi_Segment × Int → Option ((List Tapi_Segment × Int) ⊕ ((List Tapi_Segment × Int) ⊕ R))} (K : List Tapi_Segment × Int → Option R)
    (hF : ∀ (i : Nat) e (o : List Tapi_Segment), m.fFlaws[i]? = some e → o.length + 1 ≤ 1048576 → F (o, (i : Int)) = some (.inl (o ++ [flawS e], ((i + 1 : Nat) : Int)))) (heF : ∀ o, F (o, (m.fFlaws.length : Int)) = some (.inr (.inl (o, (m.fFlaws.length : Int)))))
    (hG : ∀ (i : Nat) e (o : List Tapi_Segment), m.fFailing[i]? = some e → o.length + 1 ≤ 1048576 → G (o, (i : Int)) = some (.inl (o ++ [failS e], ((i + 1 : Nat) : Int)))) (heG : ∀ o, G (o, (m.fFailing.length : Int)) = some (.inr (.inl (o, (m.fFailing.length : Int))))) :
    (loopC F (out ++ [hd], 0)).bind (outK fun s => (loopC G (s.1, 0)).bind (outK K)) = K (out ++ hd :: (m.fFlaws.map flawS ++ m.fFailing.map failS), (m.fFailing.length : Int)) := by
  have h1 := app_loop m.fFlaws (out ++ [hd]) (fun e => [flawS e]) 1048576 (by rw [map_flat]; simp; omega) (F := F) (fun s => (loopC G (s.1, 0)).bind (outK K)) (fun i e o h hl => hF i e o h (by simpa using hl)) heF
  rw [h1, map_flat]
  have h2 := app_loop m.fFailing (out ++ [hd] ++ m.fFlaws.map flawS) (fun e => [failS e]) 1048576 (by rw [map_flat]; simp; omega) (F := G) K (fun i e o h hl => hG i e o h (by simpa using hl)) heG
  rw [h2, map_flat]
  simp [List.append_assoc]
theorem msgS_eq (m : Tapi_MessageReply) : (msgS m).length = 1 + m.fFlaws.length + m.fFailing.length := by unfold msgS; simp; omega
set_option maxHeartbeats 1000000 in
theorem segs_eq (r : Tapi_Reply) (h : RepI r) (hb : dvBL (rTapi_Reply r) ≤ 1048576) : m_reply_segments r = some (repS_ r) := by
  have hlen := repS_len r
  have hg : r.fGroups.length ≤ 1048576 := by
    have := flat_len (l := r.fGroups) (row := rTapi_GroupReply) (f := fun g => [g]) (fun a _ => by simp only [rTapi_GroupReply, dvBL, dvB, List.length_singleton]; omega)
    have h2 : (r.fGroups.flatMap fun g => [g]).length = r.fGroups.length := by simp
    simp only [rTapi_Reply, dvBL, dvB] at hb
    omega
  unfold m_reply_segments sims_G8_1_0; dsimp only
  simp only [itoa_eq h.v, Option.bind_some, made_eq [65, 75, 73] [r.fRef, Lib.itoa r.fVerdict] (by simp), List.map_cons, List.map_nil]
  refine (app_loop r.fGroups [⟨[65, 75, 73], [el1 r.fRef, el1 (Lib.itoa r.fVerdict)]⟩] grpS 1048576 (by unfold repS_ at hlen; simp only [List.cons_append, List.nil_append]; omega) _ ?_ ?_).trans rfl
  rotate_left
  · intro out; simp only [lt_dec_self, cond_false]; rfl
  intro i g out hi ho
  obtain ⟨hv, hm⟩ := h.g g (List.mem_of_getElem? hi)
  have hil := get_le hi
  have hgl : (grpS g).length = 1 + (g.fMessages.flatMap msgS).length := by unfold grpS; simp; omega
  have hml : g.fMessages.length ≤ (g.fMessages.flatMap msgS).length := by
    clear hm hgl hi ho
    induction g.fMessages with
    | nil => simp
    | cons m l ih => simp only [List.flatMap_cons, List.length_append, List.length_cons, msgS_eq]; omega
  simp only [lt_dec hil, cond_true, getI_nat, hi, Option.bind_some, itoa_eq hv, made_eq [65, 75, 71] [g.fRef, Lib.itoa g.fVerdict] (by simp), List.map_cons, List.map_nil, wrapN i (by omega)]
  rw [thenO_ok (by simp only [List.length_cons, List.length_nil]; omega)]
  refine (app_loop g.fMessages (out ++ [⟨[65, 75, 71], [el1 g.fRef, el1 (Lib.itoa g.fVerdict)]⟩]) msgS 1048576 (by simp only [List.length_append, List.length_singleton]; omega) _ ?_ ?_).trans ?_
  rotate_left
  · intro out; simp only [lt_dec_self, cond_false]; rfl
  · simp [grpS, List.append_assoc, outK]
  intro k m o hk hol
  obtain ⟨hmv, hf⟩ := hm m (List.mem_of_getElem? hk)
  have hkl := get_le hk
  rw [msgS_eq] at hol
  simp only [lt_dec hkl, cond_true, getI_nat, hk, Option.bind_some, itoa_eq hmv, wrapN k (by omega)]
  have F1 : ∀ (i : Nat) e, m.fFlaws[i]? = some e → i < m.fFlaws.length ∧ m_reply_flawSegment e = some (flawS e) := fun i e he => ⟨get_le he, flaw_eq e (hf e (List.mem_of_getElem? he))⟩
  have hS : ∀ (i : Nat) (o : List Tapi_Segment) x, o.length + 1 ≤ 1048576 → thenO (R := x) (lenO (o.length + 1)) = fun k => k := fun i o x h => by funext k; exact thenO_ok (by omega)
  cases hu : m.fUnknown with
  | true =>
    simp only [cond_true]
    rw [thenO_ok (by simp), made_eq [65, 75, 77] [m.fRef, Lib.itoa m.fVerdict, [49]] (by simp)]
    simp only [Option.bind_some]
    rw [thenO_ok (by simp only [List.length_cons, List.length_nil]; omega)]
    refine (msg_loops m o _ (by omega) _ (fun j e o' hj ho' => ?_) (fun o => by simp only [lt_dec_self, cond_false]; rfl) (fun j e o' hj ho' => ?_) (fun o => by simp only [lt_dec_self, cond_false]; rfl)).trans ?_
    · obtain ⟨hjl, hfe⟩ := F1 j e hj
      simp only [lt_dec hjl, cond_true, getI_nat, hj, Option.bind_some, hfe, wrapN j (by omega)]
      rw [thenO_ok (by simp only [List.length_cons, List.length_nil]; omega)]
    · have hjl := get_le hj
      simp only [lt_dec hjl, cond_true, getI_nat, hj, Option.bind_some, made_eq [65, 75, 82] [e] (by simp), wrapN j (by omega)]
      rw [thenO_ok (by simp only [List.length_cons, List.length_nil]; omega)]
      rfl
    · unfold msgS; rw [hu]; rfl
  | false =>
    simp only [cond_false]
    rw [made_eq [65, 75, 77] [m.fRef, Lib.itoa m.fVerdict] (by simp)]
    simp only [Option.bind_some]
    rw [thenO_ok (by simp only [List.length_cons, List.length_nil]; omega)]
    refine (msg_loops m o _ (by omega) _ (fun j e o' hj ho' => ?_) (fun o => by simp only [lt_dec_self, cond_false]; rfl) (fun j e o' hj ho' => ?_) (fun o => by simp only [lt_dec_self, cond_false]; rfl)).trans ?_
    · obtain ⟨hjl, hfe⟩ := F1 j e hj
      simp only [lt_dec hjl, cond_true, getI_nat, hj, Option.bind_some, hfe, wrapN j (by omega)]
      rw [thenO_ok (by simp only [List.length_cons, List.length_nil]; omega)]
    · have hjl := get_le hj
      simp only [lt_dec hjl, cond_true, getI_nat, hj, Option.bind_some, made_eq [65, 75, 82] [e] (by simp), wrapN j (by omega)]
      rw [thenO_ok (by simp only [List.length_cons, List.length_nil]; omega)]
      rfl
    · unfold msgS; rw [hu]; rfl
def repSegs (r : Tapi_Reply) : List Tapi_Segment × Int := bif !decide (rpF r = 0) then ([], rpF r) else bif decide (2000 < (repS_ r).length) then ([], 2) else (repS_ r, 0)
theorem psegs_eq (r : Tapi_Reply) (h : RepI r) (hr : RepOk r) (hb : dvBL (rTapi_Reply r) ≤ 1048576) : m_reply_Segments r = some (repSegs r) := by
  unfold m_reply_Segments sims_G8_2_0; dsimp only
  simp only [rep_eq r hr, segs_eq r h hb, Option.bind_some]
  rw [show decide ((2000 : Int) < ((repS_ r).length : Int)) = decide (2000 < (repS_ r).length) from big_dec (repS_ r).length 2000]
  unfold repSegs
  cases decide (rpF r = 0) <;> cases decide (2000 < (repS_ r).length) <;> rfl
theorem rseg_end (r : Tapi_Reply) : (bif decide ((2000 : Int) < (([(⟨[65, 75, 73], [el1 r.fRef, el1 (Lib.itoa r.fVerdict)]⟩ : Tapi_Segment)] ++ r.fGroups.flatMap grpS).length : Int)) then some (([] : List Tapi_Segment), (2 : Int)) else some ([(⟨[65, 75, 73], [el1 r.fRef, el1 (Lib.itoa r.fVerdict)]⟩ : Tapi_Segment)] ++ r.fGroups.flatMap grpS, 0)) = some (bif decide (2000 < (repS_ r).length) then ([], 2) else (repS_ r, 0)) := by
  have h : [(⟨[65, 75, 73], [el1 r.fRef, el1 (Lib.itoa r.fVerdict)]⟩ : Tapi_Segment)] ++ r.fGroups.flatMap grpS = repS_ r := rfl
  rw [h]
  rw [show decide ((2000 : Int) < ((repS_ r).length : Int)) = decide (2000 < (repS_ r).length) from big_dec (repS_ r).length 2000]
  cases decide (2000 < (repS_ r).length) <;> rfl
set_option maxHeartbeats 1000000 in
theorem rsegs_eq (r : Tapi_Reply) (h : RepI r) (hr : RepOk r) (hb : dvBL (rTapi_Reply r) ≤ 1048576) : m_interchangeref7_Segments r = some (repSegs r) := by
  have hlen := repS_len r
  have hg : r.fGroups.length ≤ 1048576 := by
    have := flat_len (l := r.fGroups) (row := rTapi_GroupReply) (f := fun g => [g]) (fun a _ => by simp only [rTapi_GroupReply, dvBL, dvB, List.length_singleton]; omega)
    have h2 : (r.fGroups.flatMap fun g => [g]).length = r.fGroups.length := by simp
    simp only [rTapi_Reply, dvBL, dvB] at hb
    omega
  unfold m_interchangeref7_Segments sims_G8_2_0; dsimp only
  simp only [repR_eq r hr, Option.bind_some]
  unfold repSegs
  cases hz : decide (rpF r = 0) with
  | false => rfl
  | true =>
  simp only [Bool.not_true, cond_false]
  simp only [itoa_eq h.v, Option.bind_some, rseg_eq [65, 75, 73] [[r.fRef], [Lib.itoa r.fVerdict]] (by simp), List.map_cons, List.map_nil]
  refine (app_loop r.fGroups [⟨[65, 75, 73], [el1 r.fRef, el1 (Lib.itoa r.fVerdict)]⟩] grpS 1048576 (by unfold repS_ at hlen; simp only [List.cons_append, List.nil_append]; omega) _ ?_ ?_).trans ?_
  rotate_left
  · intro out; simp only [lt_dec_self, cond_false]; rfl
  · exact rseg_end r
  intro i g out hi ho
  obtain ⟨hv, hm⟩ := h.g g (List.mem_of_getElem? hi)
  have hil := get_le hi
  have hgl : (grpS g).length = 1 + (g.fMessages.flatMap msgS).length := by unfold grpS; simp; omega
  have hml : g.fMessages.length ≤ (g.fMessages.flatMap msgS).length := by
    clear hm hgl hi ho
    induction g.fMessages with
    | nil => simp
    | cons m l ih => simp only [List.flatMap_cons, List.length_append, List.length_cons, msgS_eq]; omega
  simp only [lt_dec hil, cond_true, getI_nat, hi, Option.bind_some, itoa_eq hv, rseg_eq [65, 75, 71] [[g.fRef], [Lib.itoa g.fVerdict]] (by simp), List.map_cons, List.map_nil, wrapN i (by omega)]
  rw [thenO_ok (by simp only [List.length_cons, List.length_nil]; omega)]
  refine (app_loop g.fMessages (out ++ [⟨[65, 75, 71], [el1 g.fRef, el1 (Lib.itoa g.fVerdict)]⟩]) msgS 1048576 (by simp only [List.length_append, List.length_singleton]; omega) _ ?_ ?_).trans ?_
  rotate_left
  · intro out; simp only [lt_dec_self, cond_false]; rfl
  · simp [grpS, List.append_assoc, outK]
  intro k m o hk hol
  obtain ⟨hmv, hf⟩ := hm m (List.mem_of_getElem? hk)
  have hkl := get_le hk
  rw [msgS_eq] at hol
  simp only [lt_dec hkl, cond_true, getI_nat, hk, Option.bind_some, itoa_eq hmv, wrapN k (by omega)]
  have F1 : ∀ (i : Nat) e, m.fFlaws[i]? = some e → i < m.fFlaws.length ∧ m_interchangeref7_flawSegment e = some (flawS e) := fun i e he => ⟨get_le he, rflaw_eq e (hf e (List.mem_of_getElem? he))⟩
  have hS : ∀ (i : Nat) (o : List Tapi_Segment) x, o.length + 1 ≤ 1048576 → thenO (R := x) (lenO (o.length + 1)) = fun k => k := fun i o x h => by funext k; exact thenO_ok (by omega)
  cases hu : m.fUnknown with
  | true =>
    simp only [cond_true]
    rw [thenO_ok (by simp), rseg_eq [65, 75, 77] [[m.fRef], [Lib.itoa m.fVerdict], [[49]]] (by simp)]
    simp only [Option.bind_some]
    rw [thenO_ok (by simp only [List.length_cons, List.length_nil]; omega)]
    refine (msg_loops m o _ (by omega) _ (fun j e o' hj ho' => ?_) (fun o => by simp only [lt_dec_self, cond_false]; rfl) (fun j e o' hj ho' => ?_) (fun o => by simp only [lt_dec_self, cond_false]; rfl)).trans ?_
    · obtain ⟨hjl, hfe⟩ := F1 j e hj
      simp only [lt_dec hjl, cond_true, getI_nat, hj, Option.bind_some, hfe, wrapN j (by omega)]
      rw [thenO_ok (by simp only [List.length_cons, List.length_nil]; omega)]
    · have hjl := get_le hj
      simp only [lt_dec hjl, cond_true, getI_nat, hj, Option.bind_some, rseg_eq [65, 75, 82] [[e]] (by simp), wrapN j (by omega)]
      rw [thenO_ok (by simp only [List.length_cons, List.length_nil]; omega)]
      rfl
    · unfold msgS; rw [hu]; rfl
  | false =>
    simp only [cond_false]
    rw [rseg_eq [65, 75, 77] [[m.fRef], [Lib.itoa m.fVerdict]] (by simp)]
    simp only [Option.bind_some]
    rw [thenO_ok (by simp only [List.length_cons, List.length_nil]; omega)]
    refine (msg_loops m o _ (by omega) _ (fun j e o' hj ho' => ?_) (fun o => by simp only [lt_dec_self, cond_false]; rfl) (fun j e o' hj ho' => ?_) (fun o => by simp only [lt_dec_self, cond_false]; rfl)).trans ?_
    · obtain ⟨hjl, hfe⟩ := F1 j e hj
      simp only [lt_dec hjl, cond_true, getI_nat, hj, Option.bind_some, hfe, wrapN j (by omega)]
      rw [thenO_ok (by simp only [List.length_cons, List.length_nil]; omega)]
    · have hjl := get_le hj
      simp only [lt_dec hjl, cond_true, getI_nat, hj, Option.bind_some, rseg_eq [65, 75, 82] [[e]] (by simp), wrapN j (by omega)]
      rw [thenO_ok (by simp only [List.length_cons, List.length_nil]; omega)]
      rfl
    · unfold msgS; rw [hu]; rfl
theorem el1_ok (l : List (List UInt8)) (p : List (List UInt8)) (tag : List UInt8) (hl : l.length ≤ 10) (es : List Tapi_Element) (hes : ∀ e ∈ es, ∃ p, e = elP p ∧ p.length ≤ 10) (hn : es.length ≤ 10) : cloneOk ⟨tag, es⟩ := by
  refine ⟨by show es.length ≤ _; omega, fun e he => ?_⟩
  obtain ⟨p, rfl, hp⟩ := hes e he
  refine ⟨by simp [elP], fun q hq => ?_⟩
  simp [elP] at hq
  subst hq; omega
theorem seg_small (tag : List UInt8) (es : List Tapi_Element) (hes : ∀ e ∈ es, ∃ p, e = elP p ∧ p.length ≤ 10) (hn : es.length ≤ 10) : cloneOk ⟨tag, es⟩ := el1_ok [] [] tag (by simp) es hes hn
theorem isP (t : List UInt8) : ∃ p, el1 t = elP p ∧ p.length ≤ 10 := ⟨[t], rfl, by simp⟩
theorem flawS_ok (f : Tapi_Flaw) : cloneOk (flawS f) := by
  unfold flawS
  refine seg_small _ _ (fun e he => ?_) ?_
  · rcases List.mem_append.1 he with he | he
    · rcases List.mem_append.1 he with he | he
      · simp at he; rcases he with rfl | rfl <;> exact isP _
      · revert he
        cases !(decide (f.fAt.fElement = 0) && (decide (f.fAt.fRepeat = 0) && decide (f.fAt.fPart = 0))) with
        | true => intro he; simp at he; subst he; exact ⟨_, rfl, by simp⟩
        | false =>
          cases decide (f.fName = []) with
          | true => intro he; simp at he
          | false => intro he; simp at he; subst he; exact isP _
    · revert he
      cases decide (f.fName = []) with
      | true => intro he; simp at he
      | false => intro he; simp at he; subst he; exact isP _
  · cases (decide (f.fAt.fElement = 0) && (decide (f.fAt.fRepeat = 0) && decide (f.fAt.fPart = 0))) <;> cases decide (f.fName = []) <;> simp
theorem msgS_ok (m : Tapi_MessageReply) : ∀ s ∈ msgS m, cloneOk s := by
  intro s hs
  unfold msgS at hs
  rcases List.mem_cons.1 hs with rfl | hs
  · refine seg_small _ _ (fun e he => ?_) ?_
    · rcases List.mem_append.1 he with he | he
      · simp at he; rcases he with rfl | rfl <;> exact isP _
      · cases hu : m.fUnknown with
        | true => rw [hu] at he; simp at he; subst he; exact isP _
        | false => rw [hu] at he; simp at he
    · cases m.fUnknown <;> simp
  · rcases List.mem_append.1 hs with hs | hs
    · obtain ⟨f, _, rfl⟩ := List.mem_map.1 hs; exact flawS_ok f
    · obtain ⟨f, _, rfl⟩ := List.mem_map.1 hs
      exact seg_small _ _ (fun e he => by simp at he; subst he; exact isP _) (by simp)
theorem repS_ok (r : Tapi_Reply) : ∀ s ∈ repS_ r, cloneOk s := by
  intro s hs
  unfold repS_ at hs
  rcases List.mem_cons.1 hs with rfl | hs
  · exact seg_small _ _ (fun e he => by simp at he; rcases he with rfl | rfl <;> exact isP _) (by simp)
  · obtain ⟨g, _, hs⟩ := List.mem_flatMap.1 hs
    unfold grpS at hs
    rcases List.mem_cons.1 hs with rfl | hs
    · exact seg_small _ _ (fun e he => by simp at he; rcases he with rfl | rfl <;> exact isP _) (by simp)
    · obtain ⟨m, _, hs⟩ := List.mem_flatMap.1 hs
      exact msgS_ok m s hs
theorem repSegs_ok (r : Tapi_Reply) (hb : dvBL (rTapi_Reply r) ≤ 1048576) : (repSegs r).1.length ≤ 137438953472 ∧ ∀ s ∈ (repSegs r).1, cloneOk s := by
  have h1 := repS_len r
  unfold repSegs
  cases decide (rpF r = 0) with
  | false => exact ⟨by simp, by simp⟩
  | true =>
    cases decide (2000 < (repS_ r).length) with
    | true => exact ⟨by simp, by simp⟩
    | false => exact ⟨by simp only [Bool.not_true, cond_false]; omega, repS_ok r⟩
theorem law_checks (r : Tapi_Reply) (h : RepI r) (hr : RepOk r) (hb : dvBL (rTapi_Reply r) ≤ 1048576) : m_interchangelaw7_ReplyChecksMatchSpec r = some true := by
  obtain ⟨h1, h2⟩ := repSegs_ok r hb
  unfold m_interchangelaw7_ReplyChecksMatchSpec sims_G9_6_0; dsimp only
  simp only [psegs_eq r h hr hb, rsegs_eq r h hr hb, rep_eq r hr, repR_eq r hr, Option.bind_some, sameSegs_refl _ h1 h2, awake_eq, decide_true, andO_some, Bool.and_self]
end Go.Proofs.YtpojlkajcobgcaaDoor

/-
  Bulk bounds the messages of a reply; its numbers.
-/
namespace Go.Proofs.YtpojlkajcobgcaaDoor
set_option linter.unusedSimpArgs false
set_option linter.unusedVariables false
open Go.RowKit

theorem dvBR_len {α : Type} {row : α → List DV} (h : ∀ a, 1 ≤ dvBL (row a)) : ∀ (l : List α), l.length ≤ dvBR (l.map row)
  | [] => by simp
  | x :: l => by
    have h1 := h x
    have h2 := dvBR_len h l
    simp only [List.map_cons, dvBR, List.length_cons]
    omega
theorem dvBR_mem {r : List DV} : ∀ {rows : List (List DV)}, r ∈ rows → dvBL r ≤ dvBR rows
  | [], h => by cases h
  | x :: rows, h => by
    simp only [dvBR]
    rcases List.mem_cons.1 h with rfl | h
    · omega
    · have := dvBR_mem h; omega
theorem rep_ok (r : Rp) (o : okTapi_Reply r) (hb : dvBL (rTapi_Reply r) ≤ 1048576) : RepOk r := by
  obtain ⟨o1, _, o3⟩ := o
  refine ⟨o1, o3.1, fun g hg => ?_⟩
  obtain ⟨g1, _, g3⟩ := o3.2 g hg
  have h1 : dvBL (rTapi_GroupReply g) ≤ dvBR (r.fGroups.map rTapi_GroupReply) := dvBR_mem (List.mem_map_of_mem hg)
  have h2 : g.fMessages.length ≤ dvBR (g.fMessages.map rTapi_MessageReply) := dvBR_len (fun m => by simp only [rTapi_MessageReply, dvBL, dvB]; omega) _
  simp only [rTapi_Reply, rTapi_GroupReply, dvBL, dvB] at hb h1
  refine ⟨g1, by omega, fun m hm => ?_⟩
  obtain ⟨m1, _, _, m4, m5⟩ := g3.2 m hm
  exact ⟨m1, m4.1, fun f hf => (m4.2 f hf).2.2.2, m5.1, m5.2⟩
theorem flaw_i (f : Tapi_Flaw) (o : okTapi_Flaw f) : FlawI f := ⟨o.1, o.2.1, o.2.2.1.1, o.2.2.1.2.1, o.2.2.1.2.2⟩
theorem rep_i (r : Tapi_Reply) (o : okTapi_Reply r) : RepI r :=
  ⟨o.2.1, fun g hg => ⟨(o.2.2.2 g hg).2.1, fun m hm => ⟨((o.2.2.2 g hg).2.2.2 m hm).2.1, fun f hf => flaw_i f (((o.2.2.2 g hg).2.2.2 m hm).2.2.2.1.2 f hf)⟩⟩⟩
end Go.Proofs.YtpojlkajcobgcaaDoor

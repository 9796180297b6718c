/-
  Texts of mine, one behind the other (SAI1, SAUI, SAQ5, SAQ6, SAQ7, SAQ8, SAJ10, SAJ11, SAI2).
-/
import Derived.Test.YtlmmfddbpagiaaaGreatDoorBA2
import Derived.Lib.ItoaLen
/-
  Plain laws: the segments of an interchange; they are right.
-/
namespace Go.Proofs.YtlmmfddbpagiaaaGreatDoor
set_option linter.unusedSimpArgs false
set_option linter.unusedVariables false
open Go.RowKit

/-! ### What a right interchange has -/
theorem ciN_zero {a b c d e : Bool} {fg : Int} (h : ciN a b c d fg e = 0) : a = true ∧ b = false ∧ c = false ∧ d = false ∧ fg = 0 ∧ e = false := by
  unfold ciN at h
  cases a <;> cases b <;> cases c <;> cases d <;> first | (cases h; done) | skip
  by_cases hz : fg = 0
  · cases e
    · exact ⟨rfl, rfl, rfl, rfl, hz, rfl⟩
    · simp [hz] at h
  · simp [hz] at h
theorem igN_zero {a b c : Bool} {fm : Int} (h : igN a b c fm = 0) : a = true ∧ b = true ∧ c = false ∧ fm = 0 := by
  unfold igN at h
  cases a <;> cases b <;> cases c <;> first | (cases h; done) | exact ⟨rfl, rfl, rfl, h⟩
theorem imN_zero {a b c e : Bool} {fs : Int} (h : imN a b c fs e = 0) : a = true ∧ b = false ∧ c = false ∧ fs = 0 ∧ e = false := by
  unfold imN at h
  cases a <;> cases b <;> cases c <;> first | (cases h; done) | skip
  by_cases hz : fs = 0
  · cases e
    · exact ⟨rfl, rfl, rfl, hz, rfl⟩
    · simp [hz] at h
  · simp [hz] at h
structure MsR (m : Ms) : Prop where
  ref : isRef m.fRef = true
  kind : nameF m.fKind = true
  ver : nameF m.fVersion = true
  segs : segsF m.fSegments = 0
  env : ∀ s ∈ m.fSegments, envT s.fTag = false
structure GpR (g : Gp) : Prop where
  ref : isRef g.fRef = true
  kind : nameF g.fKind = true
  msg : ∀ m ∈ g.fMessages, MsR m
structure IxR (x : Ix) : Prop where
  ref : isRef x.fRef = true
  snd : nameF x.fSender = true
  rcv : nameF x.fReceiver = true
  day : outside x.fDay 1 3652059 = false
  sec : outside x.fSecond 0 86399 = false
  len : x.fGroups.length ≤ 50
  grp : ∀ g ∈ x.fGroups, GpR g
  many : (cntF x.fGroups).1 ≤ 200
  segs : (cntF x.fGroups).2 ≤ 2000
theorem orB_false {a b : Bool} (h : (a || b) = false) : a = false ∧ b = false := by cases a <;> cases b <;> first | exact ⟨rfl, rfl⟩ | cases h
theorem notB_false {a : Bool} (h : (!a) = false) : a = true := by cases a <;> first | rfl | cases h
theorem ms_right {l : List Ms} {i : Nat} {m : Ms} (hm : l[i]? = some m) (h : imAt l i = 0) : MsR m := by
  unfold imAt at h
  simp only [hm] at h
  obtain ⟨h1, h2, _, h4, h5⟩ := imN_zero h
  obtain ⟨k1, k2⟩ := orB_false h2
  refine ⟨h1, notB_false k1, notB_false k2, h4, fun s hs => ?_⟩
  cases hb : envT s.fTag with
  | false => rfl
  | true => rw [List.any_eq_false] at h5; exact absurd hb (h5 s hs)
theorem gp_right {l : List Gp} {i : Nat} {g : Gp} (hg : l[i]? = some g) (h : igAt l i = 0) : GpR g := by
  unfold igAt at h
  simp only [hg] at h
  obtain ⟨h1, h2, _, h4⟩ := igN_zero h
  refine ⟨h1, h2, fun m hm => ?_⟩
  obtain ⟨k, hk, rfl⟩ := List.mem_iff_getElem.1 hm
  exact ms_right (List.getElem?_eq_getElem hk) (firstF_zero h4 k (by omega) (by omega))
theorem ix_right {x : Ix} (h : ciF x = 0) : IxR x := by
  obtain ⟨h1, h2, h3, h4, h5, h6⟩ := ciN_zero h
  obtain ⟨k1, k2⟩ := orB_false h2
  obtain ⟨k3, k4⟩ := orB_false h3
  obtain ⟨k5, k6⟩ := orB_false h6
  refine ⟨h1, notB_false k1, notB_false k2, k3, k4, by have := of_decide_eq_false h4; omega, fun g hg => ?_, by have := of_decide_eq_false k5; omega, by have := of_decide_eq_false k6; omega⟩
  obtain ⟨k, hk, rfl⟩ := List.mem_iff_getElem.1 hg
  exact gp_right (List.getElem?_eq_getElem hk) (firstF_zero h5 k (by omega) (by omega))

/-! ### The segments -/
abbrev mkS (tag : List UInt8) (ts : List (List UInt8)) : Tapi_Segment := ⟨tag, ts.map el1⟩
def mgS (m : Ms) : List Tapi_Segment := mkS [77, 72, 68] [m.fRef, m.fKind, m.fVersion] :: (m.fSegments ++ [mkS [77, 84, 82] [Lib.itoa ((m.fSegments.length : Int) + 2), m.fRef]])
def gpS (g : Gp) : List Tapi_Segment := mkS [71, 72, 68] [g.fRef, g.fKind] :: (g.fMessages.flatMap mgS ++ [mkS [71, 84, 82] [Lib.itoa (g.fMessages.length : Int), g.fRef]])
def ixS (x : Ix) : List Tapi_Segment :=
  mkS [73, 72, 68] [x.fRef, x.fSender, x.fReceiver, Lib.itoa x.fDay, Lib.itoa x.fSecond, bif x.fTest then [49] else []] :: (x.fGroups.flatMap gpS ++ [mkS [73, 84, 82] [Lib.itoa (x.fGroups.length : Int), x.fRef]])
theorem mgS_length (m : Ms) : (mgS m).length = m.fSegments.length + 2 := by unfold mgS; simp
theorem gpS_length (g : Gp) : (gpS g).length = (g.fMessages.flatMap mgS).length + 2 := by unfold gpS; simp only [List.length_cons, List.length_append, List.length_nil]
theorem ixS_length (x : Ix) : (ixS x).length = (x.fGroups.flatMap gpS).length + 2 := by unfold ixS; simp only [List.length_cons, List.length_append, List.length_nil]
theorem mgS_len (m : Ms) : (mgS m).length ≤ dvBL (rTapi_Message m) := by
  have h1 := flat_len (l := m.fSegments) (row := rTapi_Segment) (f := fun a => [a]) (fun a _ => by simp only [rTapi_Segment, dvBL, dvB, List.length_singleton]; omega)
  have h2 : (m.fSegments.flatMap fun a => [a]).length = m.fSegments.length := by simp
  rw [mgS_length]
  simp only [rTapi_Message, dvBL, dvB]
  omega
theorem gpS_len (g : Gp) : (gpS g).length ≤ dvBL (rTapi_Group g) := by
  have h1 := flat_len (l := g.fMessages) (row := rTapi_Message) (f := mgS) (fun a _ => mgS_len a)
  rw [gpS_length]
  simp only [rTapi_Group, dvBL, dvB]
  omega
theorem ixS_len (x : Ix) : (ixS x).length ≤ dvBL (rTapi_Interchange x) := by
  have h1 := flat_len (l := x.fGroups) (row := rTapi_Group) (f := gpS) (fun a _ => gpS_len a)
  rw [ixS_length]
  simp only [rTapi_Interchange, dvBL, dvB]
  omega
theorem plain_eq (tag : List UInt8) (ts : List (List UInt8)) (h : ts.length ≤ 1000) : m_interchangeref2_plain tag ts = some (mkS tag ts) := by
  unfold m_interchangeref2_plain sims_G4_0_2; dsimp only
  refine bind_loop (a := .inl (tag, ts.map el1, (ts.length : Int))) (loop_pre ts (fun i q => (tag, q.map el1, (i : Int))) (fun i e he => ?_) ?_) rfl
  · have hi := get_le he
    simp only [lt_dec hi, cond_true, getI_nat, he, Option.bind_some, wrapN i (by omega)]
    rw [thenO_ok (by simp; omega), List.map_append]
    rfl
  · simp only [lt_dec_self, cond_false]; rfl
theorem tail_eq (tag : List UInt8) (n : Int) (ref : List UInt8) (h : i64 n) : m_wire_tail tag n ref = some (mkS tag [Lib.itoa n, ref]) := by
  unfold m_wire_tail sims_G4_1_0; dsimp only
  simp only [itoa_eq h, Option.bind_some, made_eq tag [Lib.itoa n, ref] (by simp)]
structure IxN (x : Ix) : Prop where
  day : i64 x.fDay
  sec : i64 x.fSecond
  bulk : dvBL (rTapi_Interchange x) ≤ 1048576
theorem ms_small {g : Gp} : g.fMessages.length ≤ (g.fMessages.flatMap mgS).length := by
  induction g.fMessages with
  | nil => simp
  | cons m l ih => simp only [List.flatMap_cons, List.length_append, List.length_cons, mgS_length]; omega
theorem gp_small {x : Ix} : x.fGroups.length ≤ (x.fGroups.flatMap gpS).length := by
  induction x.fGroups with
  | nil => simp
  | cons m l ih => simp only [List.flatMap_cons, List.length_append, List.length_cons, gpS_length]; omega
set_option maxHeartbeats 1000000 in
theorem w_segments (x : Ix) (hn : IxN x) (hr : IxR x) : m_wire_segments x = some (ixS x) := by
  have hlen := ixS_len x
  have hb := hn.bulk
  have hl2 := ixS_length x
  have hg := gp_small (x := x)
  unfold m_wire_segments sims_G4_2_0; dsimp only
  have hc : ∀ t : List UInt8, m_wire_Made [73, 72, 68] [x.fRef, x.fSender, x.fReceiver, Lib.itoa x.fDay, Lib.itoa x.fSecond, t] = some (mkS [73, 72, 68] [x.fRef, x.fSender, x.fReceiver, Lib.itoa x.fDay, Lib.itoa x.fSecond, t]) := fun t => made_eq _ _ (by simp)
  cases ht : x.fTest
  all_goals
    simp only [cond_true, cond_false, itoa_eq hn.day, itoa_eq hn.sec, Option.bind_some, hc]
    refine (app_loop x.fGroups [_] gpS 1048576 (by simp only [List.length_append, List.length_singleton]; omega) _ ?_ ?_).trans ?_
    rotate_left
    · intro out; simp only [lt_dec_self, cond_false]; rfl
    · simp only [outK, tail_eq [73, 84, 82] (x.fGroups.length : Int) x.fRef ⟨by omega, by omega⟩, Option.bind_some]
      rw [thenO_ok (by simp only [List.length_append, List.length_singleton, List.length_cons, List.length_nil]; omega)]
      unfold ixS; rw [ht]; rfl
    intro i g out hi ho
    have hil := get_le hi
    have hgr := hr.grp g (List.mem_of_getElem? hi)
    rw [gpS_length] at ho
    have hms := ms_small (g := g)
    simp only [lt_dec hil, cond_true, getI_nat, hi, Option.bind_some, made_eq [71, 72, 68] [g.fRef, g.fKind] (by simp), wrapN i (by omega)]
    rw [thenO_ok (by simp only [List.length_cons, List.length_nil]; omega)]
    refine (app_loop g.fMessages (out ++ [_]) mgS 1048576 (by simp only [List.length_append, List.length_singleton]; omega) _ ?_ ?_).trans ?_
    rotate_left
    · intro out; simp only [lt_dec_self, cond_false]; rfl
    · simp only [outK, tail_eq [71, 84, 82] (g.fMessages.length : Int) g.fRef ⟨by omega, by omega⟩, Option.bind_some]
      rw [thenO_ok (by simp only [List.length_append, List.length_singleton, List.length_cons, List.length_nil]; omega)]
      simp [gpS, List.append_assoc]
    intro k m o hk hol
    have hkl := get_le hk
    have hmr := hgr.msg m (List.mem_of_getElem? hk)
    rw [mgS_length] at hol
    simp only [lt_dec hkl, cond_true, getI_nat, hk, Option.bind_some, made_eq [77, 72, 68] [m.fRef, m.fKind, m.fVersion] (by simp), cloneAll_eq _ (segs_ok hmr.segs), wrapN k (by omega), wrap64 ((m.fSegments.length : Int) + 2) (by omega) (by omega), tail_eq [77, 84, 82] ((m.fSegments.length : Int) + 2) m.fRef ⟨by omega, by omega⟩]
    rw [thenO_ok (by simp only [List.length_cons, List.length_nil]; omega), thenO_ok (by simp only [List.length_append, List.length_cons, List.length_nil]; omega), thenO_ok (by simp only [List.length_append, List.length_cons, List.length_nil]; omega)]
    simp [mgS, List.append_assoc]
set_option maxHeartbeats 1000000 in
theorem r_segments (x : Ix) (hn : IxN x) (hr : IxR x) : m_interchangeref2_segments x = some (ixS x) := by
  have hlen := ixS_len x
  have hb := hn.bulk
  have hl2 := ixS_length x
  have hg := gp_small (x := x)
  unfold m_interchangeref2_segments sims_G4_1_0; dsimp only
  have hc : ∀ t : List UInt8, m_interchangeref2_plain [73, 72, 68] [x.fRef, x.fSender, x.fReceiver, Lib.itoa x.fDay, Lib.itoa x.fSecond, t] = some (mkS [73, 72, 68] [x.fRef, x.fSender, x.fReceiver, Lib.itoa x.fDay, Lib.itoa x.fSecond, t]) := fun t => plain_eq _ _ (by simp)
  cases ht : x.fTest
  all_goals
    simp only [cond_true, cond_false, itoa_eq hn.day, itoa_eq hn.sec, Option.bind_some, hc]
    refine (app_loop x.fGroups [_] gpS 1048576 (by simp only [List.length_append, List.length_singleton]; omega) _ ?_ ?_).trans ?_
    rotate_left
    · intro out; simp only [lt_dec_self, cond_false]; rfl
    · simp only [outK, itoa_eq (show i64 (x.fGroups.length : Int) from ⟨by omega, by omega⟩), plain_eq [73, 84, 82] [Lib.itoa (x.fGroups.length : Int), x.fRef] (by simp), Option.bind_some]
      rw [thenO_ok (by simp only [List.length_append, List.length_singleton, List.length_cons, List.length_nil]; omega)]
      unfold ixS; rw [ht]; rfl
    intro i g out hi ho
    have hil := get_le hi
    have hgr := hr.grp g (List.mem_of_getElem? hi)
    rw [gpS_length] at ho
    have hms := ms_small (g := g)
    simp only [lt_dec hil, cond_true, getI_nat, hi, Option.bind_some, plain_eq [71, 72, 68] [g.fRef, g.fKind] (by simp), wrapN i (by omega)]
    rw [thenO_ok (by simp only [List.length_cons, List.length_nil]; omega)]
    refine (app_loop g.fMessages (out ++ [_]) mgS 1048576 (by simp only [List.length_append, List.length_singleton]; omega) _ ?_ ?_).trans ?_
    rotate_left
    · intro out; simp only [lt_dec_self, cond_false]; rfl
    · simp only [outK, itoa_eq (show i64 (g.fMessages.length : Int) from ⟨by omega, by omega⟩), plain_eq [71, 84, 82] [Lib.itoa (g.fMessages.length : Int), g.fRef] (by simp), Option.bind_some]
      rw [thenO_ok (by simp only [List.length_append, List.length_singleton, List.length_cons, List.length_nil]; omega)]
      simp [gpS, List.append_assoc]
    intro k m o hk hol
    have hkl := get_le hk
    have hmr := hgr.msg m (List.mem_of_getElem? hk)
    obtain ⟨hs1, hs2⟩ := segs_ok hmr.segs
    rw [mgS_length] at hol
    simp only [lt_dec hkl, cond_true, getI_nat, hk, Option.bind_some, plain_eq [77, 72, 68] [m.fRef, m.fKind, m.fVersion] (by simp), wrapN k (by omega), wrap64 ((m.fSegments.length : Int) + 2) (by omega) (by omega), itoa_eq (show i64 ((m.fSegments.length : Int) + 2) from ⟨by omega, by omega⟩), plain_eq [77, 84, 82] [Lib.itoa ((m.fSegments.length : Int) + 2), m.fRef] (by simp)]
    rw [thenO_ok (by simp only [List.length_cons, List.length_nil]; omega)]
    refine (app_loop m.fSegments (o ++ [_]) (fun s => [s]) 1048576 (by rw [List.flatMap_singleton']; simp only [List.length_append, List.length_singleton]; omega) _ ?_ ?_).trans ?_
    rotate_left
    · intro out; simp only [lt_dec_self, cond_false]; rfl
    · simp only [outK, List.flatMap_singleton']
      rw [thenO_ok (by simp only [List.length_append, List.length_cons, List.length_nil]; omega)]
      simp [mgS, List.append_assoc]
    intro j s o2 hj hoj
    have hjl := get_le hj
    have hcp : m_interchangeref2_copied s = some s := by unfold m_interchangeref2_copied; rw [if_pos (hs2 s (List.mem_of_getElem? hj))]
    simp only [List.length_singleton] at hoj
    simp only [lt_dec hjl, cond_true, getI_nat, hj, Option.bind_some, hcp, wrapN j (by omega)]
    rw [thenO_ok (by simp only [List.length_cons, List.length_nil]; omega)]

/-! ### They are right -/
theorem textF_of {t : List UInt8} (h1 : t.length ≤ 1000) (h2 : ∀ b ∈ t, badT b = false) : textF t = 0 := by
  unfold textF
  rw [if_neg (by omega)]
  have : t.findSome? (fun x => if badT x = true then some (3 : Int) else none) = none := by
    rw [List.findSome?_eq_none_iff]
    intro b hb
    rw [h2 b hb]; rfl
  rw [this]
theorem set_good : ∀ b ∈ refSet, badT b = false := by decide
theorem ref_text {t : List UInt8} (h : isRef t = true) : textF t = 0 := by
  unfold isRef at h
  simp only [Bool.and_eq_true, decide_eq_true_eq, List.all_eq_true] at h
  refine textF_of (by omega) fun b hb => ?_
  have := h.2 b hb
  unfold refByte at this
  exact set_good b (by simpa using this)
theorem low_good {b : UInt8} (h : lowB b = true) : badT b = false := by
  unfold lowB at h; unfold badT
  simp only [Bool.and_eq_true, decide_eq_true_eq] at h
  simp only [Bool.or_eq_false_iff, decide_eq_false_iff_not]
  omega
theorem nameB_good {b : UInt8} (h : nameB b = true) : badT b = false := by
  unfold nameB at h
  simp only [Bool.or_eq_true, Bool.and_eq_true, decide_eq_true_eq] at h
  rcases h with h | h
  · exact low_good h
  · unfold badT
    simp only [Bool.or_eq_false_iff, decide_eq_false_iff_not]
    omega
theorem name_text {t : List UInt8} (h : nameF t = true) : textF t = 0 := by
  cases t with
  | nil => rfl
  | cons b l =>
    unfold nameF at h
    simp only [Bool.and_eq_true, decide_eq_true_eq, List.all_eq_true] at h
    refine textF_of (by simp only [List.length_cons]; omega) fun c hc => ?_
    rcases List.mem_cons.1 hc with rfl | hc
    · exact low_good h.1.2
    · exact nameB_good (h.2 c hc)
theorem dec_good : ∀ (u : Nat), ∀ b ∈ Lib.decDigits u, 48 ≤ b.toNat ∧ b.toNat ≤ 57 := by
  intro u
  induction u using Nat.strongRecOn with
  | _ u ih =>
    intro b hb
    rw [Lib.decDigits] at hb
    have hd : ∀ k, k < 10 → (UInt8.ofNat (48 + k)).toNat = 48 + k := fun k hk => by rw [UInt8.toNat_ofNat_of_lt' (by show 48 + k < 256; omega)]
    split at hb
    · rename_i h
      simp only [List.mem_singleton] at hb; subst hb
      rw [hd u h]; omega
    · rename_i h
      rcases List.mem_append.1 hb with hb | hb
      · exact ih (u / 10) (by omega) b hb
      · simp only [List.mem_singleton] at hb; subst hb
        rw [hd (u % 10) (by omega)]; omega
theorem itoa_text {n : Int} (h : i64 n) : textF (Lib.itoa n) = 0 := by
  have hl := Lib.itoa_length_le n h.1 h.2
  have hd : ∀ (u : Nat) (b : UInt8), b ∈ Lib.decDigits u → badT b = false := fun u b hb => by
    have := dec_good u b hb
    unfold badT
    simp only [Bool.or_eq_false_iff, decide_eq_false_iff_not]
    omega
  refine textF_of (by omega) fun b hb => ?_
  unfold Lib.itoa at hb
  split at hb
  · rcases List.mem_cons.1 hb with rfl | hb
    · rfl
    · exact hd _ b hb
  · exact hd _ b hb
theorem mkS_right {tag : List UInt8} {ts : List (List UInt8)} (ht : tagF tag = true) (hl : ts.length ≤ 50) (hs : ∀ t ∈ ts, textF t = 0) : segF (mkS tag ts) = 0 := by
  refine segF_iff.2 ⟨ht, by simpa using hl, fun e he => ?_⟩
  obtain ⟨t, htm, rfl⟩ := List.mem_map.1 he
  refine elemF_iff.2 ⟨by simp [el1], by simp [el1], fun p hp => ?_⟩
  simp only [el1, List.mem_singleton] at hp
  subst hp
  exact repF_iff.2 ⟨by simp, by simp, fun q hq => by simp only [List.mem_singleton] at hq; subst hq; exact hs q htm⟩
theorem three {P : List UInt8 → Prop} {a b c : List UInt8} (ha : P a) (hb : P b) (hc : P c) : ∀ t ∈ [a, b, c], P t := by
  intro t ht; simp at ht; rcases ht with rfl | rfl | rfl <;> assumption
theorem two {P : List UInt8 → Prop} {a b : List UInt8} (ha : P a) (hb : P b) : ∀ t ∈ [a, b], P t := by
  intro t ht; simp at ht; rcases ht with rfl | rfl <;> assumption
theorem ixS_all {x : Ix} (hn : IxN x) (hr : IxR x) : ∀ s ∈ ixS x, segF s = 0 := by
  have hlen := ixS_len x
  have hb := hn.bulk
  have hl2 := ixS_length x
  have hg := gp_small (x := x)
  intro s hs
  unfold ixS at hs
  rcases List.mem_cons.1 hs with rfl | hs
  · refine mkS_right (by decide) (by simp) fun t ht => ?_
    simp at ht
    rcases ht with rfl | rfl | rfl | rfl | rfl | rfl
    · exact ref_text hr.ref
    · exact name_text hr.snd
    · exact name_text hr.rcv
    · exact itoa_text hn.day
    · exact itoa_text hn.sec
    · cases x.fTest <;> rfl
  · rcases List.mem_append.1 hs with hs | hs
    · obtain ⟨g, hgm, hs⟩ := List.mem_flatMap.1 hs
      have hgr := hr.grp g hgm
      have hgl : (gpS g).length ≤ (x.fGroups.flatMap gpS).length := by
        obtain ⟨i, hi, rfl⟩ := List.mem_iff_getElem.1 hgm
        exact flat_in (List.getElem?_eq_getElem hi)
      rw [gpS_length] at hgl
      have hms := ms_small (g := g)
      unfold gpS at hs
      rcases List.mem_cons.1 hs with rfl | hs
      · exact mkS_right (by decide) (by simp) (two (ref_text hgr.ref) (name_text hgr.kind))
      · rcases List.mem_append.1 hs with hs | hs
        · obtain ⟨m, hmm, hs⟩ := List.mem_flatMap.1 hs
          have hmr := hgr.msg m hmm
          have hml : (mgS m).length ≤ (g.fMessages.flatMap mgS).length := by
            obtain ⟨i, hi, rfl⟩ := List.mem_iff_getElem.1 hmm
            exact flat_in (List.getElem?_eq_getElem hi)
          rw [mgS_length] at hml
          unfold mgS at hs
          rcases List.mem_cons.1 hs with rfl | hs
          · exact mkS_right (by decide) (by simp) (three (ref_text hmr.ref) (name_text hmr.kind) (name_text hmr.ver))
          · rcases List.mem_append.1 hs with hs | hs
            · exact (segs_in hmr.segs).2 s hs
            · simp only [List.mem_singleton] at hs; subst hs
              exact mkS_right (by decide) (by simp) (two (itoa_text ⟨by omega, by omega⟩) (ref_text hmr.ref))
        · simp only [List.mem_singleton] at hs; subst hs
          exact mkS_right (by decide) (by simp) (two (itoa_text ⟨by omega, by omega⟩) (ref_text hgr.ref))
    · simp only [List.mem_singleton] at hs; subst hs
      exact mkS_right (by decide) (by simp) (two (itoa_text ⟨by omega, by omega⟩) (ref_text hr.ref))
theorem segN_eq : ∀ (l : List Ms) (n : Int), 0 ≤ n → n + ((l.flatMap mgS).length : Int) ≤ 1000000000 → segN l n = n + ((l.flatMap mgS).length : Int)
  | [], n, _, _ => by simp [segN]
  | m :: l, n, h0, h => by
    simp only [List.flatMap_cons, List.length_append, mgS_length] at h ⊢
    have e : segN (m :: l) n = segN l (IntKind.i64.wrap (n + IntKind.i64.wrap (2 + (m.fSegments.length : Int)))) := rfl
    rw [e, wrap64 (2 + (m.fSegments.length : Int)) (by omega) (by omega), wrap64 _ (by omega) (by omega), segN_eq l _ (by omega) (by omega)]
    omega
theorem cnt_go : ∀ (l : List Gp) (a b : Int), 0 ≤ b → b + ((l.flatMap gpS).length : Int) ≤ 1000000000 →
    (l.foldl (fun s g => (IntKind.i64.wrap (s.1 + (g.fMessages.length : Int)), segN g.fMessages (IntKind.i64.wrap (s.2 + 2)))) (a, b)).2 = b + ((l.flatMap gpS).length : Int)
  | [], a, b, _, _ => by simp
  | g :: l, a, b, h0, h => by
    simp only [List.flatMap_cons, List.length_append, gpS_length] at h ⊢
    rw [List.foldl_cons]
    have e : segN g.fMessages (IntKind.i64.wrap (b + 2)) = b + 2 + ((g.fMessages.flatMap mgS).length : Int) := by
      rw [wrap64 _ (by omega) (by omega), segN_eq _ _ (by omega) (by omega)]
    rw [cnt_go l _ _ (by simp only [e]; omega) (by simp only [e]; omega)]
    simp only [e]; omega
theorem ixS_right {x : Ix} (hn : IxN x) (hr : IxR x) : segsF (ixS x) = 0 := by
  have hlen := ixS_len x
  have hb := hn.bulk
  have hl2 := ixS_length x
  have hc : (cntF x.fGroups).2 = 2 + ((x.fGroups.flatMap gpS).length : Int) := cnt_go x.fGroups 0 2 (by omega) (by omega)
  have := hr.segs
  unfold segsF
  rw [if_neg (by omega)]
  exact listF_all (ixS_all hn hr)
end Go.Proofs.YtlmmfddbpagiaaaGreatDoor

/-
  Bulk bounds the messages of an interchange.
-/
namespace Go.Proofs.YtlmmfddbpagiaaaGreatDoor
set_option linter.unusedSimpArgs false
set_option linter.unusedVariables false
open Go.RowKit

theorem dvBR_len {α : Type} {row : α → List DV} (h : ∀ a, 1 ≤ dvBL (row a)) : ∀ (l : List α), l.length ≤ dvBR (l.map row)
  | [] => by simp
  | x :: l => by
    have h1 := h x
    have h2 := dvBR_len h l
    simp only [List.map_cons, dvBR, List.length_cons]
    omega
theorem dvBR_mem {r : List DV} : ∀ {rows : List (List DV)}, r ∈ rows → dvBL r ≤ dvBR rows
  | [], h => by cases h
  | x :: rows, h => by
    simp only [dvBR]
    rcases List.mem_cons.1 h with rfl | h
    · omega
    · have := dvBR_mem h; omega
theorem ix_ok (x : Ix) (o : okTapi_Interchange x) (hb : dvBL (rTapi_Interchange x) ≤ 1048576) : IxOk x := by
  obtain ⟨o1, o2, o3, _, _, _, o7⟩ := o
  have h0 : x.fGroups.length ≤ dvBR (x.fGroups.map rTapi_Group) := dvBR_len (fun m => by simp only [rTapi_Group, dvBL, dvB]; omega) _
  simp only [rTapi_Interchange, dvBL, dvB] at hb
  refine ⟨o1, o2, o3, by omega, fun g hg => ?_⟩
  obtain ⟨g1, g2, g3⟩ := o7.2 g hg
  have h1 : dvBL (rTapi_Group g) ≤ dvBR (x.fGroups.map rTapi_Group) := dvBR_mem (List.mem_map_of_mem hg)
  have h2 : g.fMessages.length ≤ dvBR (g.fMessages.map rTapi_Message) := dvBR_len (fun m => by simp only [rTapi_Message, dvBL, dvB]; omega) _
  simp only [rTapi_Group, dvBL, dvB] at h1
  refine ⟨g1, g2, by omega, fun m hm => ?_⟩
  obtain ⟨m1, m2, m3, m4⟩ := g3.2 m hm
  have h3 : dvBL (rTapi_Message m) ≤ dvBR (g.fMessages.map rTapi_Message) := dvBR_mem (List.mem_map_of_mem hm)
  have h4 : m.fSegments.length ≤ dvBR (m.fSegments.map rTapi_Segment) := dvBR_len (fun m => by simp only [rTapi_Segment, dvBL, dvB]; omega) _
  simp only [rTapi_Message, dvBL, dvB] at h3
  exact ⟨m1, m2, m3, by omega, fun s hs => (m4.2 s hs).1⟩
theorem ix_n (x : Ix) (o : okTapi_Interchange x) (hb : dvBL (rTapi_Interchange x) ≤ 1048576) : IxN x := ⟨o.2.2.2.1, o.2.2.2.2.1, hb⟩
end Go.Proofs.YtlmmfddbpagiaaaGreatDoor

/-
  Plain laws of the wire: marks.
-/
namespace Go.Proofs.YtlmmfddbpagiaaaGreatDoor
set_option linter.unusedSimpArgs false
set_option linter.unusedVariables false
open Go.RowKit

/-- The first fault of a list, by its place. -/
def listFI {α : Type} (h : Nat → α → Int) : Nat → List α → Int
  | _, [] => 0
  | i, e :: l => if h i e = 0 then listFI h (i + 1) l else h i e
theorem loop_faultI {α R : Type} (l : List α) (h : Nat → α → Int) (ret : Int → R) (k : Int → Option R) {f : Int → Option (Int ⊕ (Int ⊕ R))}
    (hb : ∀ (i : Nat) (e : α), l[i]? = some e → f (i : Int) = if h i e = 0 then some (.inl ((i + 1 : Nat) : Int)) else some (.inr (.inr (ret (h i e)))))
    (he : f (l.length : Int) = some (.inr (.inl (l.length : Int)))) : (loopC f 0).bind (outK k) = if listFI h 0 l = 0 then k (l.length : Int) else some (ret (listFI h 0 l)) := by
  have : ∀ (t : List α) (i : Nat), l.drop i = t → i ≤ l.length → loopC f (i : Int) = if listFI h i t = 0 then some (.inl (l.length : Int)) else some (.inr (ret (listFI h i t))) := by
    intro t
    induction t with
    | nil =>
      intro i hd hi
      have := drop_nil_len hd hi
      subst this
      rw [loopC_eq, he]
      rfl
    | cons e t ih =>
      intro i hd hi
      obtain ⟨h1, h2, h3⟩ := drop_head hd
      rw [loopC_eq, hb i e h1]
      by_cases h0 : h i e = 0
      · simp only [listFI, h0, if_true]; exact ih (i + 1) h3 h2
      · simp only [listFI, h0, if_false]
  have e0 : loopC f 0 = if listFI h 0 l = 0 then some (.inl (l.length : Int)) else some (.inr (ret (listFI h 0 l))) := this l 0 rfl (Nat.zero_le _)
  rw [e0]
  by_cases h0 : listFI h 0 l = 0
  · rw [if_pos h0, if_pos h0]; rfl
  · rw [if_neg h0, if_neg h0]; rfl
def anyI {α : Type} (c : Nat → α → Bool) : Nat → List α → Bool
  | _, [] => false
  | i, e :: l => c i e || anyI c (i + 1) l
theorem listFI_any {α : Type} (c : Nat → α → Bool) (n : Int) (hn : n ≠ 0) : ∀ (l : List α) (i : Nat), listFI (fun i e => if c i e = true then n else 0) i l = if anyI c i l = true then n else 0
  | [], _ => rfl
  | e :: l, i => by
    simp only [listFI, anyI, listFI_any c n hn l (i + 1)]
    by_cases hc : c i e = true <;> simp [hc, hn]
def eqB (a b : UInt8) : Bool := decide ((a.toNat : Int) = (b.toNat : Int))
def bads (m : Tapi_Marks) : Bool := !markB m.fElement || !markB m.fPart || !markB m.fRepeat || !markB m.fEnd || (!decide ((m.fEscape.toNat : Int) = 0) && !markB m.fEscape)
def twice (m : Tapi_Marks) : Bool := eqB m.fPart m.fElement || eqB m.fRepeat m.fElement || eqB m.fRepeat m.fPart || eqB m.fEnd m.fElement || eqB m.fEnd m.fPart || eqB m.fEnd m.fRepeat || eqB m.fEscape m.fElement || eqB m.fEscape m.fPart || eqB m.fEscape m.fRepeat || eqB m.fEscape m.fEnd
def marksF (m : Tapi_Marks) : Int := if bads m = true then 3 else if twice m = true then 7 else 0
theorem any_fault (l : List UInt8) (e : UInt8) : listF (fun b => if eqB e b = true then (7 : Int) else 0) l = if l.any (eqB e) = true then 7 else 0 := by
  induction l with
  | nil => rfl
  | cons b l ih =>
    simp only [listF, ih, List.any_cons]
    by_cases hc : eqB e b = true <;> simp [hc]
theorem r_marks (m : Tapi_Marks) : m_interchangeref2_CheckMarks m = some (marksF m) := by
  unfold m_interchangeref2_CheckMarks sims_G1_1_0; dsimp only
  simp only [r_mark, Option.bind_some, orO_some, andO_some]
  unfold marksF
  have hb : (!markB m.fElement || !markB m.fPart || !markB m.fRepeat || !markB m.fEnd || !decide ((m.fEscape.toNat : Int) = 0) && !markB m.fEscape) = bads m := rfl
  rw [hb]
  by_cases h : bads m = true
  · simp only [h, cond_true, if_true]
  · rw [if_neg h]
    simp only [Bool.not_eq_true] at h
    simp only [h, cond_false]
    refine (loop_faultI [m.fElement, m.fPart, m.fRepeat, m.fEscape, m.fEnd] (fun i e => if ([m.fElement, m.fPart, m.fRepeat, m.fEscape, m.fEnd].take i).any (eqB e) = true then 7 else 0) (fun a => a) _ (fun i e he => ?_) ?_).trans ?_
    · have hi : i < 5 := get_le he
      have h5 : decide ((i : Int) < 5) = true := decide_eq_true (by omega)
      simp only [h5, cond_true, getI_nat, he, Option.bind_some, wrapN i (by omega)]
      have hlen : ([m.fElement, m.fPart, m.fRepeat, m.fEscape, m.fEnd].take i).length = i := by rw [List.length_take]; simp; omega
      refine (loop_fault ([m.fElement, m.fPart, m.fRepeat, m.fEscape, m.fEnd].take i) (fun b => if eqB e b = true then (7 : Int) else 0) (fun a => .inr (.inr a)) _ (fun j b hj => ?_) ?_).trans ?_
      · have hji := get_le hj
        rw [hlen] at hji
        rw [List.getElem?_take_of_lt hji] at hj
        have h6 : decide ((j : Int) < (i : Int)) = true := decide_eq_true (by omega)
        simp only [h6, cond_true, getI_nat, hj, Option.bind_some, wrapN j (by omega)]
        show (bif eqB e b then _ else _) = _
        cases eqB e b <;> rfl
      · rw [hlen]
        simp only [lt_dec_self, cond_false]
        first | done | rfl
      · rw [any_fault]
    · rfl
    · rw [listFI_any (fun i e => ([m.fElement, m.fPart, m.fRepeat, m.fEscape, m.fEnd].take i).any (eqB e)) 7 (by decide)]
      have : anyI (fun i e => ([m.fElement, m.fPart, m.fRepeat, m.fEscape, m.fEnd].take i).any (eqB e)) 0 [m.fElement, m.fPart, m.fRepeat, m.fEscape, m.fEnd] = twice m := by
        rw [Bool.eq_iff_iff]
        simp only [anyI, List.take, List.any_cons, List.any_nil, twice, eqB, Bool.or_eq_true, decide_eq_true_eq, Bool.or_false, Bool.false_or, Bool.false_eq_true]
        omega
      rw [this]
      cases twice m <;> rfl
theorem contains_eq (l : List UInt8) (b : UInt8) (hl : l.length < 9223372036854775807) : m_slices_Contains_byte_byte l b = some (l.any (eqB b)) := by
  unfold m_slices_Contains_byte_byte sims_G1_1_0; dsimp only
  have hI : m_slices_Index_byte_byte l b = some (match l.findIdx? (eqB b) with | some i => (i : Int) | none => -1) := by
    unfold m_slices_Index_byte_byte sims_G1_0_0; dsimp only
    have : ∀ (t : List UInt8) (i : Nat) (f : Int → Option (Int ⊕ (Int ⊕ Int))), l.drop i = t → i ≤ l.length → (∀ (i : Nat) (e : UInt8), l[i]? = some e → f (i : Int) = bif eqB b e then some (.inr (.inr (i : Int))) else some (.inl ((i + 1 : Nat) : Int))) → f (l.length : Int) = some (.inr (.inl (l.length : Int))) →
        loopC f (i : Int) = some (match t.findIdx? (eqB b) with | some j => .inr (((i + j : Nat)) : Int) | none => .inl (l.length : Int)) := by
      intro t
      induction t with
      | nil =>
        intro i f hd hi hb he
        have := drop_nil_len hd hi
        subst this
        rw [loopC_eq, he]
        rfl
      | cons e t ih =>
        intro i f hd hi hb he
        obtain ⟨h1, h2, h3⟩ := drop_head hd
        rw [loopC_eq, hb i e h1, List.findIdx?_cons]
        cases hq : eqB b e with
        | true => simp
        | false =>
          simp only [cond_false]
          rw [ih (i + 1) f h3 h2 hb he]
          cases t.findIdx? (eqB b) with
          | none => rfl
          | some j => simp; omega
    refine bind_loop (this l 0 _ rfl (Nat.zero_le _) (fun i e he => ?_) ?_) ?_
    · have hi := get_le he
      simp only [lt_dec hi, cond_true, getI_nat, he, Option.bind_some, wrapN i (by omega)]
      show (bif eqB b e then _ else _) = _
      cases eqB b e <;> rfl
    · simp only [lt_dec_self, cond_false]; rfl
    · cases l.findIdx? (eqB b) with
      | none => rfl
      | some j => simp [outK]
  rw [hI]
  simp only [Option.bind_some]
  congr 1
  cases h : l.findIdx? (eqB b) with
  | none =>
    rw [List.findIdx?_eq_none_iff] at h
    symm
    simp only [List.any_eq_false]
    simpa using h
  | some j =>
    have h2 := List.findIdx?_eq_some_iff_getElem.1 h
    obtain ⟨hj, h3, -⟩ := h2
    symm
    simp only [decide_eq_true_eq, Int.natCast_nonneg, decide_true]
    exact List.any_eq_true.2 ⟨l[j], List.getElem_mem hj, h3⟩
theorem w_marks (m : Tapi_Marks) : m_wire_CheckMarks m = some (marksF m) := by
  unfold m_wire_CheckMarks sims_G1_3_0; dsimp only
  simp only [w_mark, Option.bind_some, orO_some, andO_some]
  unfold marksF
  have hb : bads m = (listF (fun b => if markB b = true then (0 : Int) else 3) [m.fElement, m.fPart, m.fRepeat, m.fEnd] != 0 || (!decide ((m.fEscape.toNat : Int) = 0) && !markB m.fEscape)) := by
    unfold bads
    simp only [listF]
    by_cases h1 : markB m.fElement = true <;> by_cases h2 : markB m.fPart = true <;> by_cases h3 : markB m.fRepeat = true <;> by_cases h4 : markB m.fEnd = true <;> simp [h1, h2, h3, h4]
  rw [hb]
  refine (loop_fault [m.fElement, m.fPart, m.fRepeat, m.fEnd] (fun b => if markB b = true then (0 : Int) else 3) (fun _ => 3) _ (fun i e he => ?_) ?_).trans ?_
  · have hi : i < 4 := get_le he
    have h4 : decide ((i : Int) < 4) = true := decide_eq_true (by omega)
    simp only [h4, cond_true, getI_nat, he, Option.bind_some, wrapN i (by omega)]
    cases markB e <;> rfl
  · rfl
  · by_cases h0 : listF (fun b => if markB b = true then (0 : Int) else 3) [m.fElement, m.fPart, m.fRepeat, m.fEnd] = 0
    · rw [if_pos h0, h0]
      simp only [bne_self_eq_false, Bool.false_or]
      by_cases h1 : (!decide ((m.fEscape.toNat : Int) = 0) && !markB m.fEscape) = true
      · rw [if_pos h1]; simp only [h1, cond_true]
      · rw [if_neg h1]
        simp only [Bool.not_eq_true] at h1
        simp only [h1, cond_false]
        rw [thenO_some (lenO_ok (by simp))]
        refine (loop_faultI [m.fElement, m.fPart, m.fRepeat, m.fEnd, m.fEscape] (fun i e => if ([m.fElement, m.fPart, m.fRepeat, m.fEnd].take i).any (eqB e) = true then 7 else 0) (fun a => a) _ (fun i e he => ?_) ?_).trans ?_
        · have hi : i < 5 := get_le he
          have h5 : decide ((i : Int) < 5) = true := decide_eq_true (by omega)
          have hs : sliceI [m.fElement, m.fPart, m.fRepeat, m.fEnd] 0 (if 4 < (i : Int) then 4 else (i : Int)) = some ([m.fElement, m.fPart, m.fRepeat, m.fEnd].take i) := by
            have : ¬ (4 < (i : Int)) := by omega
            rw [if_neg this]
            unfold sliceI
            rw [if_pos ⟨by omega, by omega, by simp; omega⟩]
            simp
          have hn : [m.fElement, m.fPart, m.fRepeat, m.fEnd, m.fEscape][(i : Int).toNat]? = some e := by simpa using he
          simp only [h5, cond_true, getI_nat, he, hn, Option.bind_some, wrapN i (by omega)]
          have hs2 : sliceI [m.fElement, m.fPart, m.fRepeat, m.fEnd] ((none : Option Int).getD 0) ((some (if 4 < (i : Int) then 4 else (i : Int))).getD ((4 : Nat) : Int)) = some ([m.fElement, m.fPart, m.fRepeat, m.fEnd].take i) := hs
          rw [hs2]
          simp only [Option.bind_some]
          rw [contains_eq _ e (by rw [List.length_take]; simp; omega)]
          simp only [Option.bind_some]
          cases ([m.fElement, m.fPart, m.fRepeat, m.fEnd].take i).any (eqB e) <;> rfl
        · rfl
        · rw [listFI_any (fun i e => ([m.fElement, m.fPart, m.fRepeat, m.fEnd].take i).any (eqB e)) 7 (by decide)]
          have : anyI (fun i e => ([m.fElement, m.fPart, m.fRepeat, m.fEnd].take i).any (eqB e)) 0 [m.fElement, m.fPart, m.fRepeat, m.fEnd, m.fEscape] = twice m := by
            rw [Bool.eq_iff_iff]
            simp only [anyI, List.take, List.any_cons, List.any_nil, twice, eqB, Bool.or_eq_true, decide_eq_true_eq, Bool.or_false, Bool.false_or, Bool.false_eq_true]
            omega
          rw [this]
          cases twice m <;> rfl
    · rw [if_neg h0]
      have : (listF (fun b => if markB b = true then (0 : Int) else 3) [m.fElement, m.fPart, m.fRepeat, m.fEnd] != 0) = true := by simpa using h0
      rw [this]
      rfl
end Go.Proofs.YtlmmfddbpagiaaaGreatDoor

/-
  Plain laws of the wire: how many bytes are marks.
-/
namespace Go.Proofs.YtlmmfddbpagiaaaGreatDoor
set_option linter.unusedSimpArgs false
set_option linter.unusedVariables false
open Go.RowKit

/-- Segments, then marks. -/
def bothF (l : List Tapi_Segment) (m : Tapi_Marks) : Int := if segsF l = 0 then marksF m else segsF l
theorem w_both (l : List Tapi_Segment) (m : Tapi_Marks) (hs : TagsShort l) : m_wire_checkBoth l m = some (bothF l m) := by
  unfold m_wire_checkBoth sims_G6_1_0; dsimp only
  simp only [w_segs l hs, w_marks, Option.bind_some, bothF]
  by_cases h : segsF l = 0 <;> simp [h]
def isM (m : Tapi_Marks) (b : UInt8) : Bool := decide ((b.toNat : Int) = (m.fElement.toNat : Int)) || decide ((b.toNat : Int) = (m.fPart.toNat : Int)) || decide ((b.toNat : Int) = (m.fRepeat.toNat : Int)) || decide ((b.toNat : Int) = (m.fEnd.toNat : Int)) || (!decide ((m.fEscape.toNat : Int) = 0) && decide ((b.toNat : Int) = (m.fEscape.toNat : Int)))
theorem w_isM (m : Tapi_Marks) (b : UInt8) : m_wire_isMark m b = some (isM m b) := by
  unfold m_wire_isMark sims_G6_0_0; dsimp only
  simp only [orO_some, andO_some, Option.bind_some, isM]
theorem r_isM (m : Tapi_Marks) (b : UInt8) : m_interchangeref2_isMark m b = some (isM m b) := by
  unfold m_interchangeref2_isMark sims_G6_0_0; dsimp only
  simp only [orO_some, andO_some, Option.bind_some, isM]
/-! ### Counts -/
def cntT (m : Tapi_Marks) (t : List UInt8) : Nat := t.countP (isM m)
def cntR (m : Tapi_Marks) (l : List (List UInt8)) : Nat := (l.map (cntT m)).sum
def cntE (m : Tapi_Marks) (x : Tapi_Element) : Nat := (x.fRepeats.map (cntR m)).sum
def cntS (m : Tapi_Marks) (s : Tapi_Segment) : Nat := (s.fElements.map (cntE m)).sum
def cntL (m : Tapi_Marks) (l : List Tapi_Segment) : Nat := (l.map (cntS m)).sum
theorem sum_take {α : Type} {c : α → Nat} {l : List α} {i : Nat} {e : α} (h : l[i]? = some e) : ((l.take i ++ [e]).map c).sum = ((l.take i).map c).sum + c e := by simp
/-- What right segments have at most. -/
theorem text_len {t : List UInt8} (h : textF t = 0) : t.length ≤ 1000 := by
  unfold textF at h
  split at h
  · cases h
  · omega
theorem rep_len {l : List (List UInt8)} (h : repF l = 0) : l.length ≤ 20 ∧ 0 < l.length ∧ ∀ t ∈ l, textF t = 0 := by
  unfold repF at h
  split at h
  · cases h
  · split at h
    · cases h
    · exact ⟨by omega, by omega, listF_zero h⟩
theorem elem_len {x : Tapi_Element} (h : elemF x = 0) : x.fRepeats.length ≤ 20 ∧ 0 < x.fRepeats.length ∧ ∀ t ∈ x.fRepeats, repF t = 0 := by
  unfold elemF at h
  split at h
  · cases h
  · split at h
    · cases h
    · exact ⟨by omega, by omega, listF_zero h⟩
theorem tag_len {t : List UInt8} (h : tagF t = true) : t.length ≤ 6 ∧ 2 ≤ t.length := by
  cases t with
  | nil => cases h
  | cons b t =>
    simp only [tagF, Bool.and_eq_true, decide_eq_true_eq] at h
    simp only [List.length_cons]
    omega
theorem seg_len {s : Tapi_Segment} (h : segF s = 0) : tagF s.fTag = true ∧ s.fTag.length ≤ 6 ∧ 2 ≤ s.fTag.length ∧ s.fElements.length ≤ 50 ∧ ∀ e ∈ s.fElements, elemF e = 0 := by
  unfold segF at h
  split at h
  · cases h
  · rename_i h1
    have h1 : tagF s.fTag = true := by simpa using h1
    split at h
    · cases h
    · exact ⟨h1, (tag_len h1).1, (tag_len h1).2, by omega, listF_zero h⟩
theorem segs_len {l : List Tapi_Segment} (h : segsF l = 0) : l.length ≤ 2000 ∧ ∀ s ∈ l, segF s = 0 := by
  unfold segsF at h
  split at h
  · cases h
  · exact ⟨by omega, listF_zero h⟩
theorem cntT_le (m : Tapi_Marks) (t : List UInt8) : cntT m t ≤ t.length := List.countP_le_length
/-! ### The program's counts -/
theorem w_needed (m : Tapi_Marks) (t : List UInt8) (ht : t.length < 4611686018427387904) : m_wire_needed m t = some ((cntT m t : Nat) : Int) := by
  unfold m_wire_needed sims_G6_1_0; dsimp only
  refine bind_loop (loop_pre (a := .inl (((cntT m t : Nat) : Int), ((t.length : Nat) : Int))) t (fun i pre => (((cntT m pre : Nat) : Int), ((i : Nat) : Int))) (fun i e he => ?_) ?_) ?_
  · have hi := get_le he
    have hc : cntT m (t.take i) ≤ i := by have := cntT_le m (t.take i); rw [take_len he] at this; exact this
    have hs : cntT m (t.take i ++ [e]) = cntT m (t.take i) + (if isM m e = true then 1 else 0) := by simp [cntT, List.countP_append, List.countP_singleton]
    simp only [lt_dec hi, cond_true, getI_nat, he, Option.bind_some, w_isM, wrapN i (by omega), wrapN (cntT m (t.take i)) (by omega), hs]
    cases isM m e <;> rfl
  · simp only [lt_dec_self, cond_false]; rfl
  · rfl
end Go.Proofs.YtlmmfddbpagiaaaGreatDoor

/-
  Plain laws of the wire: what the reference writes.
-/
namespace Go.Proofs.YtlmmfddbpagiaaaGreatDoor
set_option linter.unusedSimpArgs false
set_option linter.unusedVariables false
open Go.RowKit

/-- A part with its mark and its place. -/
structure Prt where
  sp : Tapi_Spot
  mark : UInt8
  t : List UInt8
def escR (m : Tapi_Marks) (t : List UInt8) : List UInt8 := t.flatMap fun b => if isM m b = true ∧ m.fEscape.toNat ≠ 0 then [m.fEscape, b] else [b]
theorem escR_snoc (m : Tapi_Marks) (t : List UInt8) (b : UInt8) : escR m (t ++ [b]) = escR m t ++ (if isM m b = true ∧ m.fEscape.toNat ≠ 0 then [m.fEscape, b] else [b]) := by simp [escR]
theorem escR_len (m : Tapi_Marks) : ∀ (t : List UInt8), (escR m t).length ≤ 2 * t.length
  | [] => by simp [escR]
  | b :: t => by
    have := escR_len m t
    have h : escR m (b :: t) = (if isM m b = true ∧ m.fEscape.toNat ≠ 0 then [m.fEscape, b] else [b]) ++ escR m t := by simp [escR]
    rw [h, List.length_append, List.length_cons]
    split <;> simp <;> omega
theorem cntT_snoc (m : Tapi_Marks) (t : List UInt8) (b : UInt8) : cntT m (t ++ [b]) = cntT m t + (if isM m b = true then 1 else 0) := by simp [cntT, List.countP_append, List.countP_singleton]
abbrev RT := List UInt8 × List Tinterchangeref2_piece × Nat
def rStep (m : Tapi_Marks) (seg : Int) (w : RT) (p : Prt) : RT := (w.1 ++ p.mark :: escR m p.t, w.2.1 ++ [⟨seg, p.sp, ((w.1.length : Nat) : Int), ((w.1.length + 1 : Nat) : Int), ((w.1.length + 1 + (escR m p.t).length : Nat) : Int)⟩], w.2.2 + cntT m p.t)
theorem r_part (m : Tapi_Marks) (o : List UInt8) (ps : List Tinterchangeref2_piece) (c : Nat) (seg : Int) (sp : Tapi_Spot) (mk : UInt8) (t : List UInt8) (ht : t.length ≤ 1000) (ho : o.length ≤ 137438950000) (hps : ps.length ≤ 137438950000) (hc : c ≤ 137438950000) :
    m_interchange_interchangeref2_writer_part ⟨m, o, ps, (c : Int)⟩ seg sp mk t = some ((), ⟨m, (rStep m seg (o, ps, c) ⟨sp, mk, t⟩).1, (rStep m seg (o, ps, c) ⟨sp, mk, t⟩).2.1, (((rStep m seg (o, ps, c) ⟨sp, mk, t⟩).2.2 : Nat) : Int)⟩) := by
  unfold m_interchange_interchangeref2_writer_part sims_G6_1_2; dsimp only
  rw [thenO_ok (by simp; omega)]
  refine bind_loop (loop_pre (a := .inl (m, o ++ mk :: escR m t, ps, ((c + cntT m t : Nat) : Int), ((t.length : Nat) : Int))) t (fun i pre => (m, o ++ mk :: escR m pre, ps, ((c + cntT m pre : Nat) : Int), ((i : Nat) : Int))) (fun i e he => ?_) ?_) ?_
  · have hi := get_le he
    have hl := take_len he
    have h1 := escR_len m (t.take i)
    have h2 := cntT_le m (t.take i)
    have hw : IntKind.i64.wrap (((c + cntT m (t.take i) : Nat) : Int) + 1) = ((c + cntT m (t.take i) + 1 : Nat) : Int) := wrapN _ (by omega)
    simp only [lt_dec hi, cond_true, getI_nat, he, Option.bind_some, r_isM, wrapN i (by omega), hw]
    simp (disch := (first | omega | (simp only [List.length_append, List.length_cons, List.length_nil]; omega))) only [thenO_ok]
    by_cases hm : isM m e = true
    · by_cases hz : m.fEscape.toNat = 0
      · have d : decide ((m.fEscape.toNat : Int) = 0) = true := decide_eq_true (by omega)
        simp only [hm, d, Bool.not_true, cond_true, cond_false]
        rw [escR_snoc, cntT_snoc, if_pos hm, if_neg (fun h => h.2 hz)]
        simp [Nat.add_assoc]
      · have d : decide ((m.fEscape.toNat : Int) = 0) = false := decide_eq_false (by omega)
        simp only [hm, d, Bool.not_false, cond_true]
        rw [escR_snoc, cntT_snoc, if_pos hm, if_pos ⟨hm, hz⟩]
        simp [Nat.add_assoc]
    · rw [escR_snoc, cntT_snoc, if_neg hm, if_neg (fun h => hm h.1)]
      simp only [Bool.not_eq_true] at hm
      simp only [hm, cond_false]
      simp
  · simp only [lt_dec_self, cond_false]; rfl
  · simp only [outK]
    rw [thenO_ok (by simp; omega)]
    simp [rStep, Nat.add_assoc, Nat.add_comm, Nat.add_left_comm]
/-! ### The parts of a segment, in order -/
def pmark (m : Tapi_Marks) (r p : Nat) : UInt8 := if 0 < p then m.fPart else if 0 < r then m.fRepeat else m.fElement
def spotOf (e r p : Nat) : Tapi_Spot := ⟨((e + 1 : Nat) : Int), ((r + 1 : Nat) : Int), ((p + 1 : Nat) : Int)⟩
def ptsP (m : Tapi_Marks) (e r : Nat) : Nat → List UInt8 → List Prt := fun p t => [⟨spotOf e r p, pmark m r p, t⟩]
def ptsR (m : Tapi_Marks) (e : Nat) : Nat → List (List UInt8) → List Prt := fun r l => ixMap (ptsP m e r) 0 l
def ptsE (m : Tapi_Marks) : Nat → Tapi_Element → List Prt := fun e x => ixMap (ptsR m e) 0 x.fRepeats
def ptsS (m : Tapi_Marks) (s : Tapi_Segment) : List Prt := ixMap (ptsE m) 0 s.fElements
def TextsOK (l : List Prt) : Prop := ∀ p ∈ l, p.t.length ≤ 1000
theorem tx_R {m : Tapi_Marks} {e r : Nat} {l : List (List UInt8)} (h : ∀ t ∈ l, textF t = 0) : TextsOK (ixMap (ptsP m e r) 0 l) := ixMap_all fun i t ht y hy => by
  simp only [ptsP, List.mem_singleton] at hy; subst hy; exact text_len (h t ht)
theorem tx_E {m : Tapi_Marks} {e : Nat} {l : List (List (List UInt8))} (h : ∀ t ∈ l, repF t = 0) : TextsOK (ixMap (ptsR m e) 0 l) := ixMap_all fun i t ht y hy => tx_R (rep_len (h t ht)).2.2 y hy
theorem tx_S {m : Tapi_Marks} {l : List Tapi_Element} (h : ∀ t ∈ l, elemF t = 0) : TextsOK (ixMap (ptsE m) 0 l) := ixMap_all fun i t ht y hy => tx_E (elem_len (h t ht)).2.2 y hy
theorem ln_R {m : Tapi_Marks} {e r : Nat} {l : List (List UInt8)} : (ixMap (ptsP m e r) 0 l).length ≤ l.length := by
  have := ixMap_len (f := ptsP m e r) (b := 1) l 0 (fun i t ht => by simp [ptsP])
  omega
theorem ln_E {m : Tapi_Marks} {e : Nat} {l : List (List (List UInt8))} (h : ∀ t ∈ l, repF t = 0) : (ixMap (ptsR m e) 0 l).length ≤ l.length * 20 := ixMap_len l 0 fun i t ht => Nat.le_trans ln_R (rep_len (h t ht)).1
theorem ln_S {m : Tapi_Marks} {l : List Tapi_Element} (h : ∀ t ∈ l, elemF t = 0) : (ixMap (ptsE m) 0 l).length ≤ l.length * 400 := ixMap_len l 0 fun i t ht => by
  have h1 := elem_len (h t ht)
  have h2 := ln_E (m := m) (e := i) h1.2.2
  unfold ptsE
  omega
/-! ### The reference's writer -/
def rPts (m : Tapi_Marks) (seg : Int) (w : RT) (l : List Prt) : RT := l.foldl (rStep m seg) w
def rHead (w : RT) (i : Nat) (s : Tapi_Segment) : RT := (w.1 ++ s.fTag, w.2.1 ++ [⟨((i : Nat) : Int), ⟨0, 0, 0⟩, ((w.1.length : Nat) : Int), ((w.1.length : Nat) : Int), ((w.1.length + s.fTag.length : Nat) : Int)⟩], w.2.2)
def tailB (m : Tapi_Marks) (lines : Bool) : List UInt8 := bif lines then [m.fEnd, 10] else [m.fEnd]
def rSeg (m : Tapi_Marks) (lines : Bool) (i : Nat) (w : RT) (s : Tapi_Segment) : RT := ((rPts m (i : Int) (rHead w i s) (ptsS m s)).1 ++ tailB m lines, (rPts m (i : Int) (rHead w i s) (ptsS m s)).2)
def rSegs (m : Tapi_Marks) (lines : Bool) : Nat → RT → List Tapi_Segment → RT
  | _, w, [] => w
  | i, w, s :: l => rSegs m lines (i + 1) (rSeg m lines i w s) l
theorem rSegs_snoc (m : Tapi_Marks) (lines : Bool) : ∀ (l : List Tapi_Segment) (i : Nat) (w : RT) (s : Tapi_Segment), rSegs m lines i w (l ++ [s]) = rSeg m lines (i + l.length) (rSegs m lines i w l) s
  | [], i, w, s => rfl
  | x :: l, i, w, s => by
    simp only [List.cons_append, rSegs, rSegs_snoc m lines l (i + 1), List.length_cons]
    rw [show i + 1 + l.length = i + (l.length + 1) by omega]
def Bd (w : RT) (k : Nat) : Prop := w.1.length ≤ 2010 * k ∧ w.2.1.length ≤ k ∧ w.2.2 ≤ 1000 * k
theorem Bd.mono {w : RT} {k k' : Nat} (h : Bd w k) (hk : k ≤ k') : Bd w k' := by
  obtain ⟨h1, h2, h3⟩ := h; exact ⟨by omega, by omega, by omega⟩
theorem Bd.step {m : Tapi_Marks} {seg : Int} {w : RT} {p : Prt} {k : Nat} (h : Bd w k) (hp : p.t.length ≤ 1000) : Bd (rStep m seg w p) (k + 1) := by
  obtain ⟨h1, h2, h3⟩ := h
  have h4 := escR_len m p.t
  have h5 := cntT_le m p.t
  refine ⟨?_, ?_, ?_⟩ <;> simp only [rStep, List.length_append, List.length_cons, List.length_nil] <;> omega
theorem Bd.pts {m : Tapi_Marks} {seg : Int} : ∀ {l : List Prt} {w : RT} {k : Nat}, Bd w k → TextsOK l → Bd (rPts m seg w l) (k + l.length)
  | [], w, k, h, _ => h
  | p :: l, w, k, h, ht => by
    have := Bd.pts (m := m) (seg := seg) (l := l) (h.step (m := m) (seg := seg) (ht p (by simp))) (fun q hq => ht q (by simp [hq]))
    rw [show k + (p :: l).length = k + 1 + l.length by simp; omega]
    exact this
theorem Bd.head {w : RT} {k i : Nat} {s : Tapi_Segment} (h : Bd w k) (hs : s.fTag.length ≤ 6) : Bd (rHead w i s) (k + 1) := by
  obtain ⟨h1, h2, h3⟩ := h
  refine ⟨?_, ?_, ?_⟩ <;> simp only [rHead, List.length_append, List.length_cons, List.length_nil] <;> omega
theorem Bd.tail {w : RT} {k : Nat} {m : Tapi_Marks} {lines : Bool} (h : Bd w k) : Bd (w.1 ++ tailB m lines, w.2) (k + 1) := by
  obtain ⟨h1, h2, h3⟩ := h
  refine ⟨?_, by simp only; omega, by simp only; omega⟩
  simp only [List.length_append]
  cases lines <;> simp [tailB] <;> omega
theorem Bd.seg {w : RT} {k i : Nat} {m : Tapi_Marks} {lines : Bool} {s : Tapi_Segment} (h : Bd w k) (hs : segF s = 0) : Bd (rSeg m lines i w s) (k + 20002) := by
  obtain ⟨-, h1, -, h2, h3⟩ := seg_len hs
  have h4 := ln_S (m := m) h3
  have := ((h.head (i := i) h1).pts (m := m) (seg := (i : Int)) (l := ptsS m s) (tx_S h3)).tail (m := m) (lines := lines)
  refine this.mono ?_
  unfold ptsS
  omega
theorem Bd.segs {m : Tapi_Marks} {lines : Bool} : ∀ {l : List Tapi_Segment} {i : Nat} {w : RT} {k : Nat}, Bd w k → (∀ s ∈ l, segF s = 0) → Bd (rSegs m lines i w l) (k + l.length * 20002)
  | [], i, w, k, h, _ => by simpa [rSegs] using h
  | s :: l, i, w, k, h, hs => by
    have := Bd.segs (m := m) (lines := lines) (l := l) (i := i + 1) (h.seg (i := i) (m := m) (lines := lines) (hs s (by simp))) (fun x hx => hs x (by simp [hx]))
    refine this.mono ?_
    simp only [List.length_cons]; omega
theorem rPts_append (m : Tapi_Marks) (seg : Int) (w : RT) (l l2 : List Prt) : rPts m seg w (l ++ l2) = rPts m seg (rPts m seg w l) l2 := by simp [rPts]
theorem r_written (l : List Tapi_Segment) (m : Tapi_Marks) (lines : Bool) (h : segsF l = 0) :
    m_interchangeref2_written l m lines = some (some ⟨m, (rSegs m lines 0 ([], [], 0) l).1, (rSegs m lines 0 ([], [], 0) l).2.1, (((rSegs m lines 0 ([], [], 0) l).2.2 : Nat) : Int)⟩) := by
  unfold m_interchangeref2_written sims_G6_2_2; dsimp only
  obtain ⟨hl, hs⟩ := segs_len h
  have hB0 : Bd (([], [], 0) : RT) 0 := ⟨by simp, by simp, by simp⟩
  refine bind_loop (loop_pre (a := .inl (m, (rSegs m lines 0 ([], [], 0) l).1, (rSegs m lines 0 ([], [], 0) l).2.1, (((rSegs m lines 0 ([], [], 0) l).2.2 : Nat) : Int), ((l.length : Nat) : Int))) l
    (fun i pre => (m, (rSegs m lines 0 ([], [], 0) pre).1, (rSegs m lines 0 ([], [], 0) pre).2.1, (((rSegs m lines 0 ([], [], 0) pre).2.2 : Nat) : Int), ((i : Nat) : Int))) (fun i s hsi => ?_) ?_) ?_
  · have hi := get_le hsi
    have hil := take_len hsi
    have hBi := Bd.segs (m := m) (lines := lines) (i := 0) hB0 (l := l.take i) (fun s hs' => hs s (mem_take hs'))
    rw [hil] at hBi
    rw [rSegs_snoc, hil, Nat.zero_add]
    generalize hw : rSegs m lines 0 ([], [], 0) (l.take i) = w at hBi ⊢
    obtain ⟨-, htl, -, hel, hes⟩ := seg_len (hs s (List.mem_of_getElem? hsi))
    have hBh := hBi.head (i := i) htl
    obtain ⟨b1, b2, b3⟩ := hBi
    have hwt : IntKind.i64.wrap ((w.1.length : Int) + (s.fTag.length : Int)) = ((w.1.length + s.fTag.length : Nat) : Int) := by rw [wrap64 _ (by omega) (by omega)]; simp
    simp only [lt_dec hi, cond_true, getI_nat, hsi, Option.bind_some, wrapN i (by omega), hwt]
    simp (disch := (first | omega | (simp only [List.length_append, List.length_cons, List.length_nil]; omega))) only [thenO_ok]
    refine bind_loop (loop_pre (a := .inl (m, (rPts m (i : Int) (rHead w i s) (ptsS m s)).1, (rPts m (i : Int) (rHead w i s) (ptsS m s)).2.1, (((rPts m (i : Int) (rHead w i s) (ptsS m s)).2.2 : Nat) : Int), ((s.fElements.length : Nat) : Int))) s.fElements
      (fun e pre => (m, (rPts m (i : Int) (rHead w i s) (ixMap (ptsE m) 0 pre)).1, (rPts m (i : Int) (rHead w i s) (ixMap (ptsE m) 0 pre)).2.1, (((rPts m (i : Int) (rHead w i s) (ixMap (ptsE m) 0 pre)).2.2 : Nat) : Int), ((e : Nat) : Int))) (fun e x hxe => ?_) ?_) ?_
    · have he := get_le hxe
      have hell := take_len hxe
      have hpe : ∀ t ∈ s.fElements.take e, elemF t = 0 := fun t ht => hes t (mem_take ht)
      have hBe := (hBh.pts (m := m) (seg := (i : Int)) (tx_S (m := m) hpe)).mono (k' := i * 20002 + 1 + e * 400) (by have := ln_S (m := m) hpe; rw [hell] at this; omega)
      rw [ixMap_snoc, rPts_append, hell]
      generalize hw1 : rPts m (i : Int) (rHead w i s) (ixMap (ptsE m) 0 (s.fElements.take e)) = w1 at hBe ⊢
      obtain ⟨hrl, -, hrs⟩ := elem_len (hes x (List.mem_of_getElem? hxe))
      simp only [lt_dec he, cond_true, getI_nat, hxe, Option.bind_some, wrapN e (by omega)]
      refine bind_loop (loop_pre (a := .inl (m, (rPts m (i : Int) w1 (ptsE m e x)).1, (rPts m (i : Int) w1 (ptsE m e x)).2.1, (((rPts m (i : Int) w1 (ptsE m e x)).2.2 : Nat) : Int), pmark m x.fRepeats.length 0, ((x.fRepeats.length : Nat) : Int))) x.fRepeats
        (fun r pre => (m, (rPts m (i : Int) w1 (ixMap (ptsR m e) 0 pre)).1, (rPts m (i : Int) w1 (ixMap (ptsR m e) 0 pre)).2.1, (((rPts m (i : Int) w1 (ixMap (ptsR m e) 0 pre)).2.2 : Nat) : Int), pmark m r 0, ((r : Nat) : Int))) (fun r parts hpr => ?_) ?_) ?_
      · have hr := get_le hpr
        have hrll := take_len hpr
        have hpr' : ∀ t ∈ x.fRepeats.take r, repF t = 0 := fun t ht => hrs t (mem_take ht)
        have hBr := (hBe.pts (m := m) (seg := (i : Int)) (tx_E (m := m) (e := e) hpr')).mono (k' := i * 20002 + 1 + e * 400 + r * 20) (by have := ln_E (m := m) (e := e) hpr'; rw [hrll] at this; omega)
        rw [ixMap_snoc, rPts_append, hrll]
        generalize hw2 : rPts m (i : Int) w1 (ixMap (ptsR m e) 0 (x.fRepeats.take r)) = w2 at hBr ⊢
        obtain ⟨hpl, -, hps⟩ := rep_len (hrs parts (List.mem_of_getElem? hpr))
        simp only [lt_dec hr, cond_true, getI_nat, hpr, Option.bind_some, wrapN r (by omega)]
        refine bind_loop (loop_pre (a := .inl (m, (rPts m (i : Int) w2 (ptsR m e r parts)).1, (rPts m (i : Int) w2 (ptsR m e r parts)).2.1, (((rPts m (i : Int) w2 (ptsR m e r parts)).2.2 : Nat) : Int), pmark m r parts.length, ((parts.length : Nat) : Int))) parts
          (fun p pre => (m, (rPts m (i : Int) w2 (ixMap (ptsP m e r) 0 pre)).1, (rPts m (i : Int) w2 (ixMap (ptsP m e r) 0 pre)).2.1, (((rPts m (i : Int) w2 (ixMap (ptsP m e r) 0 pre)).2.2 : Nat) : Int), pmark m r p, ((p : Nat) : Int))) (fun p t htp => ?_) ?_) ?_
        · have hp := get_le htp
          have hpll := take_len htp
          have hpt : ∀ t ∈ parts.take p, textF t = 0 := fun t ht => hps t (mem_take ht)
          have hBp := (hBr.pts (m := m) (seg := (i : Int)) (tx_R (m := m) (e := e) (r := r) hpt)).mono (k' := i * 20002 + 1 + e * 400 + r * 20 + p) (by have := ln_R (m := m) (e := e) (r := r) (l := parts.take p); rw [hpll] at this; omega)
          rw [ixMap_snoc, rPts_append, hpll]
          generalize hw3 : rPts m (i : Int) w2 (ixMap (ptsP m e r) 0 (parts.take p)) = w3 at hBp ⊢
          obtain ⟨c1, c2, c3⟩ := hBp
          have htl := text_len (hps t (List.mem_of_getElem? htp))
          simp only [lt_dec hp, cond_true, getI_nat, htp, Option.bind_some, wrapN p (by omega), wrapN r (by omega), wrapN e (by omega)]
          have := r_part m w3.1 w3.2.1 w3.2.2 (i : Int) (spotOf e r p) (pmark m r p) t htl (by omega) (by omega) (by omega)
          unfold spotOf at this
          rw [this]
          simp only [Option.bind_some]
          rfl
        · simp only [lt_dec_self, cond_false]; rfl
        · rfl
      · simp only [getI_nat, hxe, Option.bind_some, lt_dec_self, cond_false]; rfl
      · rfl
    · simp only [lt_dec_self, cond_false]; rfl
    · have hBs := hBh.pts (m := m) (seg := (i : Int)) (l := ptsS m s) (tx_S hes)
      have h4 := ln_S (m := m) hes
      have hBs := hBs.mono (k' := i * 20002 + 20001) (by unfold ptsS; omega)
      simp only [outK, rSeg]
      generalize rPts m (i : Int) (rHead w i s) (ptsS m s) = w1 at hBs ⊢
      obtain ⟨c1, c2, c3⟩ := hBs
      simp (disch := (first | omega | (simp only [List.length_append, List.length_cons, List.length_nil]; omega))) only [thenO_ok]
      cases lines with
      | true => simp [tailB]
      | false => simp [tailB]
  · simp only [lt_dec_self, cond_false]; rfl
  · rfl
end Go.Proofs.YtlmmfddbpagiaaaGreatDoor

/-
  Plain laws of the wire: the law of the checks.
-/
namespace Go.Proofs.YtlmmfddbpagiaaaGreatDoor
set_option linter.unusedSimpArgs false
set_option linter.unusedVariables false
open Go.RowKit

theorem ixMap_sum {α β : Type} {f : Nat → α → List β} {g : β → Nat} {c : α → Nat} (h : ∀ i e, ((f i e).map g).sum = c e) : ∀ (l : List α) (i : Nat), ((ixMap f i l).map g).sum = (l.map c).sum
  | [], _ => rfl
  | x :: l, i => by simp only [ixMap, List.map_append, List.sum_append, h, ixMap_sum h l, List.map_cons, List.sum_cons]
theorem ptsS_sum (m : Tapi_Marks) (s : Tapi_Segment) : ((ptsS m s).map fun p => cntT m p.t).sum = cntS m s := by
  unfold ptsS cntS
  refine ixMap_sum (fun e x => ?_) _ _
  unfold ptsE cntE
  refine ixMap_sum (fun r l => ?_) _ _
  unfold ptsR cntR
  refine ixMap_sum (fun p t => ?_) _ _
  simp [ptsP]
theorem rPts_cnt (m : Tapi_Marks) (seg : Int) : ∀ (l : List Prt) (w : RT), (rPts m seg w l).2.2 = w.2.2 + (l.map fun p => cntT m p.t).sum
  | [], w => by simp [rPts]
  | p :: l, w => by
    have := rPts_cnt m seg l (rStep m seg w p)
    simp only [rPts, List.foldl_cons] at this ⊢
    rw [this]
    simp [rStep, Nat.add_assoc]
theorem rSegs_cnt (m : Tapi_Marks) (lines : Bool) : ∀ (l : List Tapi_Segment) (i : Nat) (w : RT), (rSegs m lines i w l).2.2 = w.2.2 + cntL m l
  | [], i, w => by simp [rSegs, cntL]
  | s :: l, i, w => by
    simp only [rSegs]
    rw [rSegs_cnt m lines l (i + 1)]
    simp only [rSeg, rPts_cnt, ptsS_sum, rHead, cntL, List.map_cons, List.sum_cons]
    omega
theorem both_segs {l : List Tapi_Segment} {m : Tapi_Marks} (h : bothF l m = 0) : segsF l = 0 ∧ marksF m = 0 := by
  unfold bothF at h
  split at h
  · rename_i h1; exact ⟨h1, h⟩
  · rename_i h1; exact absurd h h1
theorem awake_true : m_interchangelaw2_awake = some true := by
  unfold m_interchangelaw2_awake sims_G6_1_0; dsimp only
  have h : m_wire_Heading ⟨UInt8.ofNat (Int.toNat 42), UInt8.ofNat (Int.toNat 58), UInt8.ofNat (Int.toNat 94), UInt8.ofNat (Int.toNat 63), UInt8.ofNat (Int.toNat 126)⟩ = some ([77, 82, 75, 42, 58, 94, 63, 126], 0) := by
    unfold m_wire_Heading
    rw [w_marks]
    rfl
  rw [h]
  rfl
end Go.Proofs.YtlmmfddbpagiaaaGreatDoor

/-
  Plain laws of the wire: what the program writes.
-/
namespace Go.Proofs.YtlmmfddbpagiaaaGreatDoor
set_option linter.unusedSimpArgs false
set_option linter.unusedVariables false
open Go.RowKit

/-- A search for a place. -/
theorem loop_index {α : Type} (l : List α) (q : α → Bool) {f : Int → Option (Int ⊕ (Int ⊕ Int))} (hb : ∀ (i : Nat) (e : α), l[i]? = some e → f (i : Int) = bif q e then some (.inr (.inr (i : Int))) else some (.inl ((i + 1 : Nat) : Int))) (he : f (l.length : Int) = some (.inr (.inl (l.length : Int)))) :
    loopC f 0 = some (match l.findIdx? q with | some j => .inr ((j : Nat) : Int) | none => .inl (l.length : Int)) := by
  have : ∀ (t : List α) (i : Nat), l.drop i = t → i ≤ l.length → loopC f (i : Int) = some (match t.findIdx? q with | some j => .inr (((i + j : Nat)) : Int) | none => .inl (l.length : Int)) := by
    intro t
    induction t with
    | nil =>
      intro i hd hi
      have := drop_nil_len hd hi
      subst this
      rw [loopC_eq, he]
      rfl
    | cons e t ih =>
      intro i hd hi
      obtain ⟨h1, h2, h3⟩ := drop_head hd
      rw [loopC_eq, hb i e h1, List.findIdx?_cons]
      cases hq : q e with
      | true => simp
      | false =>
        simp only [cond_false]
        rw [ih (i + 1) h3 h2]
        cases t.findIdx? q with
        | none => rfl
        | some j => simp; omega
  have h0 : loopC f 0 = _ := this l 0 rfl (Nat.zero_le _)
  rw [h0]
  cases l.findIdx? q with
  | none => rfl
  | some j => simp
theorem find_any {α : Type} (l : List α) (q : α → Bool) : decide (0 ≤ (match l.findIdx? q with | some j => ((j : Nat) : Int) | none => -1)) = l.any q := by
  cases h : l.findIdx? q with
  | none =>
    rw [List.findIdx?_eq_none_iff] at h
    symm
    have : l.any q = false := by
      rw [List.any_eq_false]
      intro x hx; rw [h x hx]; decide
    rw [this]; rfl
  | some j =>
    obtain ⟨hj, h3, -⟩ := List.findIdx?_eq_some_iff_getElem.1 h
    symm
    have : l.any q = true := List.any_eq_true.2 ⟨l[j], List.getElem_mem hj, h3⟩
    rw [this]; simp
theorem containsFunc_str (l : List (List UInt8)) (f1 : FuncId) (c1 : List DV) (p1 : List UInt8 → Option Bool) (h1 : ∀ a0 r, p1 a0 = some r → PureSpec Tryz.prog f1 ([.str a0] ++ c1) (.bool r)) (q : List UInt8 → Bool) (hp : ∀ t ∈ l, p1 t = some (q t)) (hl : l.length ≤ 9223372036854775807) :
    m_slices_ContainsFunc_string_string l f1 c1 p1 h1 = some (l.any q) := by
  unfold m_slices_ContainsFunc_string_string sims_G6_1_0; dsimp only
  have hI : m_slices_IndexFunc_string_string l f1 c1 p1 h1 = some (match l.findIdx? q with | some j => ((j : Nat) : Int) | none => -1) := by
    unfold m_slices_IndexFunc_string_string sims_G6_0_0; dsimp only
    refine bind_loop (loop_index l q (fun i e he => ?_) ?_) ?_
    · have hi := get_le he
      simp only [lt_dec hi, cond_true, getI_nat, he, Option.bind_some, hp e (List.mem_of_getElem? he), wrapN i (by omega)]
      cases q e <;> rfl
    · simp only [lt_dec_self, cond_false]; rfl
    · cases l.findIdx? q <;> rfl
  rw [hI]
  simp only [Option.bind_some, find_any]
theorem sum_pos {α : Type} (c : α → Nat) : ∀ (l : List α), decide (0 < (l.map c).sum) = l.any (fun x => decide (0 < c x))
  | [] => rfl
  | x :: l => by
    rw [List.any_cons, ← sum_pos c l, List.map_cons, List.sum_cons]
    by_cases h : 0 < c x
    · simp [h]; omega
    · have : c x = 0 := by omega
      simp [this]

theorem loop_pre0 {α T A : Type} (l : List α) (st : Nat → List α → T) {f : T → Option (T ⊕ A)} {a : A} {s0 : T} (h0 : st 0 [] = s0)
    (hb : ∀ (i : Nat) (e : α), l[i]? = some e → f (st i (l.take i)) = some (.inl (st (i + 1) (l.take i ++ [e]))))
    (he : f (st l.length l) = some (.inr a)) : loopC f s0 = some a := by subst h0; exact loop_pre l st hb he
def escW (m : Tapi_Marks) (t : List UInt8) : List UInt8 := t.flatMap fun b => if isM m b = true then [m.fEscape, b] else [b]
theorem escW_snoc (m : Tapi_Marks) (t : List UInt8) (b : UInt8) : escW m (t ++ [b]) = escW m t ++ (if isM m b = true then [m.fEscape, b] else [b]) := by simp [escW]
theorem escW_len (m : Tapi_Marks) : ∀ (t : List UInt8), (escW m t).length ≤ 2 * t.length
  | [] => by simp [escW]
  | b :: t => by
    have := escW_len m t
    have h : escW m (b :: t) = (if isM m b = true then [m.fEscape, b] else [b]) ++ escW m t := by simp [escW]
    rw [h, List.length_append, List.length_cons]
    split <;> simp <;> omega
/-- A mark that cannot be written. -/
def badB (m : Tapi_Marks) (n : Nat) : Bool := decide (m.fEscape.toNat = 0) && decide (0 < n)
theorem badB_add (m : Tapi_Marks) (a b : Nat) (bad : Bool) : (bad || badB m a || badB m b) = (bad || badB m (a + b)) := by
  unfold badB
  by_cases h : m.fEscape.toNat = 0 <;> by_cases ha : 0 < a <;> by_cases hb : 0 < b <;> simp [h, ha, hb] <;> omega
theorem w_text_ (m : Tapi_Marks) (lines : Bool) (b : List UInt8) (ps : List Twire_place) (ss : List Int) (bad : Bool) (t : List UInt8) (ht : t.length ≤ 1000) (hb : b.length ≤ 137438950000) :
    m_interchange_wire_writer_text ⟨m, lines, b, ps, ss, bad⟩ t = some ((), ⟨m, lines, b ++ escW m t, ps, ss, bad || badB m (cntT m t)⟩) := by
  unfold m_interchange_wire_writer_text sims_G6_1_1; dsimp only
  refine bind_loop (loop_pre0 (a := .inl (m, lines, b ++ escW m t, ps, ss, (bad || badB m (cntT m t)), ((t.length : Nat) : Int))) t (fun i pre => (m, lines, b ++ escW m pre, ps, ss, (bad || badB m (cntT m pre)), ((i : Nat) : Int))) ?_ (fun i e he => ?_) ?_) ?_
  · simp [escW, cntT, badB]
  · have hi := get_le he
    have hl := take_len he
    have h1 := escW_len m (t.take i)
    simp only [lt_dec hi, cond_true, getI_nat, he, Option.bind_some, w_isM, wrapN i (by omega), orO_some]
    simp (disch := (first | omega | (simp only [List.length_append, List.length_cons, List.length_nil]; omega))) only [thenO_ok]
    by_cases hm : isM m e = true
    · have hd : (bad || badB m (cntT m (t.take i)) || decide ((m.fEscape.toNat : Int) = 0)) = (bad || badB m (cntT m (t.take i) + 1)) := by
        rw [← badB_add]
        congr 1
        unfold badB
        by_cases hz : m.fEscape.toNat = 0 <;> simp [hz]
      simp only [hm, cond_true, hd]
      rw [escW_snoc, cntT_snoc, if_pos hm, if_pos hm]
      simp
    · rw [escW_snoc, cntT_snoc, if_neg hm, if_neg hm]
      simp only [Bool.not_eq_true] at hm
      simp only [hm, cond_false]
      simp
  · simp only [lt_dec_self, cond_false]; rfl
  · rfl
abbrev WrT := List UInt8 × List Twire_place × Bool
def wStep (m : Tapi_Marks) (seg : Int) (w : WrT) (p : Prt) : WrT := (w.1 ++ p.mark :: escW m p.t, w.2.1 ++ [⟨seg, p.sp, ((w.1.length + 1 : Nat) : Int), ((w.1.length + 1 + (escW m p.t).length : Nat) : Int)⟩], w.2.2 || badB m (cntT m p.t))
def wPts (m : Tapi_Marks) (seg : Int) (w : WrT) (l : List Prt) : WrT := l.foldl (wStep m seg) w
theorem wPts_append (m : Tapi_Marks) (seg : Int) (w : WrT) (l l2 : List Prt) : wPts m seg w (l ++ l2) = wPts m seg (wPts m seg w l) l2 := by simp [wPts]
def Bw (w : WrT) (k : Nat) : Prop := w.1.length ≤ 500010 + 2010 * k ∧ w.2.1.length ≤ 40000000 + k
theorem Bw.mono {w : WrT} {k k' : Nat} (h : Bw w k) (hk : k ≤ k') : Bw w k' := by
  obtain ⟨h1, h2⟩ := h; exact ⟨by omega, by omega⟩
theorem Bw.step {m : Tapi_Marks} {seg : Int} {w : WrT} {p : Prt} {k : Nat} (h : Bw w k) (hp : p.t.length ≤ 1000) : Bw (wStep m seg w p) (k + 1) := by
  obtain ⟨h1, h2⟩ := h
  have h4 := escW_len m p.t
  refine ⟨?_, ?_⟩ <;> simp only [wStep, List.length_append, List.length_cons, List.length_nil] <;> omega
theorem Bw.pts {m : Tapi_Marks} {seg : Int} : ∀ {l : List Prt} {w : WrT} {k : Nat}, Bw w k → TextsOK l → Bw (wPts m seg w l) (k + l.length)
  | [], w, k, h, _ => h
  | p :: l, w, k, h, ht => by
    have := Bw.pts (m := m) (seg := seg) (l := l) (h.step (m := m) (seg := seg) (ht p (by simp))) (fun q hq => ht q (by simp [hq]))
    rw [show k + (p :: l).length = k + 1 + l.length by simp; omega]
    exact this
abbrev WQ := List UInt8 × List Twire_place × List Int × Bool
def wIn (m : Tapi_Marks) (i : Nat) (w : WQ) (s : Tapi_Segment) : WrT := wPts m (i : Int) (w.1 ++ s.fTag, w.2.1, w.2.2.2) (ptsS m s)
def wSeg (m : Tapi_Marks) (lines : Bool) (i : Nat) (w : WQ) (s : Tapi_Segment) : WQ := ((wIn m i w s).1 ++ tailB m lines, (wIn m i w s).2.1, w.2.2.1 ++ [((w.1.length : Nat) : Int)], (wIn m i w s).2.2)
theorem w_segment (m : Tapi_Marks) (lines : Bool) (w : WQ) (i : Nat) (s : Tapi_Segment) (hs : segF s = 0) (hb : w.1.length ≤ 499992) (hp : w.2.1.length ≤ 40000000) (hss : w.2.2.1.length ≤ 3000) :
    m_interchange_wire_writer_segment ⟨m, lines, w.1, w.2.1, w.2.2.1, w.2.2.2⟩ (i : Int) s = some ((), ⟨m, lines, (wSeg m lines i w s).1, (wSeg m lines i w s).2.1, (wSeg m lines i w s).2.2.1, (wSeg m lines i w s).2.2.2⟩) := by
  obtain ⟨-, htl, -, hel, hes⟩ := seg_len hs
  unfold wSeg wIn
  unfold m_interchange_wire_writer_segment sims_G6_2_1; dsimp only
  simp (disch := (first | omega | (simp only [List.length_append, List.length_cons, List.length_nil]; omega))) only [thenO_ok]
  have hBh : Bw (w.1 ++ s.fTag, w.2.1, w.2.2.2) 0 := ⟨by simp only [List.length_append]; omega, by simp only; omega⟩
  generalize hw0 : ((w.1 ++ s.fTag, w.2.1, w.2.2.2) : WrT) = w0 at hBh ⊢
  have e1 : w.1 ++ s.fTag = w0.1 := by rw [← hw0]
  have e2 : w.2.1 = w0.2.1 := by rw [← hw0]
  have e3 : w.2.2.2 = w0.2.2 := by rw [← hw0]
  rw [e1, e2, e3]
  generalize w.2.2.1 ++ [((w.1.length : Nat) : Int)] = ss
  refine bind_loop (loop_pre (a := .inl (m, lines, (wPts m (i : Int) w0 (ptsS m s)).1, (wPts m (i : Int) w0 (ptsS m s)).2.1, ss, (wPts m (i : Int) w0 (ptsS m s)).2.2, ((s.fElements.length : Nat) : Int))) s.fElements
    (fun e pre => (m, lines, (wPts m (i : Int) w0 (ixMap (ptsE m) 0 pre)).1, (wPts m (i : Int) w0 (ixMap (ptsE m) 0 pre)).2.1, ss, (wPts m (i : Int) w0 (ixMap (ptsE m) 0 pre)).2.2, ((e : Nat) : Int))) (fun e x hxe => ?_) ?_) ?_
  · have he := get_le hxe
    have hell := take_len hxe
    have hpe : ∀ t ∈ s.fElements.take e, elemF t = 0 := fun t ht => hes t (mem_take ht)
    have hBe := (hBh.pts (m := m) (seg := (i : Int)) (tx_S (m := m) hpe)).mono (k' := e * 400) (by have := ln_S (m := m) hpe; rw [hell] at this; omega)
    rw [ixMap_snoc, wPts_append, hell]
    generalize hw1 : wPts m (i : Int) w0 (ixMap (ptsE m) 0 (s.fElements.take e)) = w1 at hBe ⊢
    obtain ⟨hrl, -, hrs⟩ := elem_len (hes x (List.mem_of_getElem? hxe))
    simp only [lt_dec he, cond_true, getI_nat, hxe, Option.bind_some, wrapN e (by omega)]
    refine bind_loop (loop_pre (a := .inl (m, lines, (wPts m (i : Int) w1 (ptsE m e x)).1, (wPts m (i : Int) w1 (ptsE m e x)).2.1, ss, (wPts m (i : Int) w1 (ptsE m e x)).2.2, pmark m x.fRepeats.length 0, ((x.fRepeats.length : Nat) : Int))) x.fRepeats
      (fun r pre => (m, lines, (wPts m (i : Int) w1 (ixMap (ptsR m e) 0 pre)).1, (wPts m (i : Int) w1 (ixMap (ptsR m e) 0 pre)).2.1, ss, (wPts m (i : Int) w1 (ixMap (ptsR m e) 0 pre)).2.2, pmark m r 0, ((r : Nat) : Int))) (fun r parts hpr => ?_) ?_) ?_
    · have hr := get_le hpr
      have hrll := take_len hpr
      have hpr' : ∀ t ∈ x.fRepeats.take r, repF t = 0 := fun t ht => hrs t (mem_take ht)
      have hBr := (hBe.pts (m := m) (seg := (i : Int)) (tx_E (m := m) (e := e) hpr')).mono (k' := e * 400 + r * 20) (by have := ln_E (m := m) (e := e) hpr'; rw [hrll] at this; omega)
      rw [ixMap_snoc, wPts_append, hrll]
      generalize hw2 : wPts m (i : Int) w1 (ixMap (ptsR m e) 0 (x.fRepeats.take r)) = w2 at hBr ⊢
      obtain ⟨hpl, -, hps⟩ := rep_len (hrs parts (List.mem_of_getElem? hpr))
      simp only [lt_dec hr, cond_true, getI_nat, hpr, Option.bind_some, wrapN r (by omega)]
      refine bind_loop (loop_pre (a := .inl (m, lines, (wPts m (i : Int) w2 (ptsR m e r parts)).1, (wPts m (i : Int) w2 (ptsR m e r parts)).2.1, ss, (wPts m (i : Int) w2 (ptsR m e r parts)).2.2, pmark m r parts.length, ((parts.length : Nat) : Int))) parts
        (fun p pre => (m, lines, (wPts m (i : Int) w2 (ixMap (ptsP m e r) 0 pre)).1, (wPts m (i : Int) w2 (ixMap (ptsP m e r) 0 pre)).2.1, ss, (wPts m (i : Int) w2 (ixMap (ptsP m e r) 0 pre)).2.2, pmark m r p, ((p : Nat) : Int))) (fun p t htp => ?_) ?_) ?_
      · have hp := get_le htp
        have hpll := take_len htp
        have hpt : ∀ t ∈ parts.take p, textF t = 0 := fun t ht => hps t (mem_take ht)
        have hBp := (hBr.pts (m := m) (seg := (i : Int)) (tx_R (m := m) (e := e) (r := r) hpt)).mono (k' := e * 400 + r * 20 + p) (by have := ln_R (m := m) (e := e) (r := r) (l := parts.take p); rw [hpll] at this; omega)
        rw [ixMap_snoc, wPts_append, hpll]
        generalize hw3 : wPts m (i : Int) w2 (ixMap (ptsP m e r) 0 (parts.take p)) = w3 at hBp ⊢
        obtain ⟨c1, c2⟩ := hBp
        have htl := text_len (hps t (List.mem_of_getElem? htp))
        simp only [lt_dec hp, cond_true, getI_nat, htp, Option.bind_some, wrapN p (by omega), wrapN r (by omega), wrapN e (by omega)]
        rw [thenO_ok (by simp only [List.length_cons, List.length_nil]; omega)]
        rw [w_text_ m lines (w3.1 ++ [pmark m r p]) w3.2.1 ss w3.2.2 t htl (by simp only [List.length_append, List.length_cons, List.length_nil]; omega)]
        simp only [Option.bind_some]
        rw [thenO_ok (by omega)]
        have e4 : wPts m (i : Int) w3 (ptsP m e r p t) = wStep m (i : Int) w3 ⟨spotOf e r p, pmark m r p, t⟩ := rfl
        rw [e4]
        unfold wStep
        simp only [spotOf, List.append_assoc, List.cons_append, List.nil_append, List.length_append, List.length_cons, List.length_nil]
        have e5 : w3.1.length + (0 + 1) = w3.1.length + 1 := by omega
        have e6 : w3.1.length + ((escW m t).length + 1) = w3.1.length + 1 + (escW m t).length := by omega
        rw [e6]
        rfl
      · simp only [lt_dec_self, cond_false]; rfl
      · rfl
    · simp only [lt_dec_self, cond_false]; rfl
    · rfl
  · simp only [lt_dec_self, cond_false]; rfl
  · have hBs := hBh.pts (m := m) (seg := (i : Int)) (l := ptsS m s) (tx_S hes)
    have h4 := ln_S (m := m) hes
    have hBs := hBs.mono (k' := 20000) (by unfold ptsS; omega)
    simp only [outK]
    generalize wPts m (i : Int) w0 (ptsS m s) = w1 at hBs ⊢
    obtain ⟨c1, c2⟩ := hBs
    simp (disch := (first | omega | (simp only [List.length_append, List.length_cons, List.length_nil]; omega))) only [thenO_ok]
    cases lines with
    | true => simp [tailB]
    | false => simp [tailB]
/-! ### All segments -/
def wNext (m : Tapi_Marks) (lines : Bool) (i : Nat) (w : WQ) (s : Tapi_Segment) : WQ := if w.1.length ≤ 499992 then wSeg m lines i w s else (w.1, w.2.1, w.2.2.1, w.2.2.2 || badB m (cntS m s))
def wSegs (m : Tapi_Marks) (lines : Bool) : Nat → WQ → List Tapi_Segment → WQ
  | _, w, [] => w
  | i, w, s :: l => wSegs m lines (i + 1) (wNext m lines i w s) l
theorem wSegs_snoc (m : Tapi_Marks) (lines : Bool) : ∀ (l : List Tapi_Segment) (i : Nat) (w : WQ) (s : Tapi_Segment), wSegs m lines i w (l ++ [s]) = wNext m lines (i + l.length) (wSegs m lines i w l) s
  | [], i, w, s => rfl
  | x :: l, i, w, s => by
    simp only [List.cons_append, wSegs, wSegs_snoc m lines l (i + 1), List.length_cons]
    rw [show i + 1 + l.length = i + (l.length + 1) by omega]
theorem wPts_len (m : Tapi_Marks) (seg : Int) : ∀ (l : List Prt) (w : WrT), (wPts m seg w l).2.1.length = w.2.1.length + l.length
  | [], w => rfl
  | p :: l, w => by
    have := wPts_len m seg l (wStep m seg w p)
    simp only [wPts, List.foldl_cons] at this ⊢
    rw [this]; simp [wStep]; omega
theorem wNext_len {m : Tapi_Marks} {lines : Bool} {i : Nat} {w : WQ} {s : Tapi_Segment} (hs : segF s = 0) : (wNext m lines i w s).2.1.length ≤ w.2.1.length + 20000 ∧ (wNext m lines i w s).2.2.1.length ≤ w.2.2.1.length + 1 := by
  unfold wNext
  split
  · obtain ⟨-, -, -, h2, h3⟩ := seg_len hs
    have h4 := ln_S (m := m) h3
    simp only [wSeg, wIn, wPts_len, List.length_append, List.length_cons, List.length_nil, ptsS]
    omega
  · exact ⟨by simp only; omega, by simp only; omega⟩
theorem wSegs_len {m : Tapi_Marks} {lines : Bool} : ∀ {l : List Tapi_Segment} {i : Nat} {w : WQ}, (∀ s ∈ l, segF s = 0) → (wSegs m lines i w l).2.1.length ≤ w.2.1.length + l.length * 20000 ∧ (wSegs m lines i w l).2.2.1.length ≤ w.2.2.1.length + l.length
  | [], i, w, _ => by simp [wSegs]
  | s :: l, i, w, h => by
    have h1 := wNext_len (m := m) (lines := lines) (i := i) (w := w) (h s (by simp))
    have h2 := wSegs_len (m := m) (lines := lines) (l := l) (i := i + 1) (w := wNext m lines i w s) fun x hx => h x (by simp [hx])
    simp only [wSegs, List.length_cons]
    omega
def w0 : WQ := ([], [], [], false)
/-- What it writes, and the fault. -/
def writF (l : List Tapi_Segment) (m : Tapi_Marks) (lines : Bool) : Option Twire_writer × Int :=
  if bothF l m ≠ 0 then (none, bothF l m) else if (wSegs m lines 0 w0 l).2.2.2 = true then (none, 3) else if 499992 < (wSegs m lines 0 w0 l).1.length then (none, 2) else
  (some ⟨m, lines, (wSegs m lines 0 w0 l).1, (wSegs m lines 0 w0 l).2.1, (wSegs m lines 0 w0 l).2.2.1, (wSegs m lines 0 w0 l).2.2.2⟩, 0)
theorem w_written (l : List Tapi_Segment) (m : Tapi_Marks) (lines : Bool) (ht : TagsShort l) : m_wire_written l m lines 499992 = some (writF l m lines) := by
  unfold m_wire_written sims_G6_3_1; dsimp only
  unfold writF
  simp only [w_both l m ht, Option.bind_some]
  by_cases h : bothF l m = 0
  · rw [if_neg (fun e => e h)]
    simp only [h, decide_true, Bool.not_true, cond_false]
    have hseg : segsF l = 0 := by
      unfold bothF at h
      split at h
      · assumption
      · rename_i h1; exact absurd h h1
    obtain ⟨hl, hs⟩ := segs_len hseg
    refine bind_loop (loop_pre (a := .inl (m, lines, (wSegs m lines 0 w0 l).1, (wSegs m lines 0 w0 l).2.1, (wSegs m lines 0 w0 l).2.2.1, (wSegs m lines 0 w0 l).2.2.2, ((l.length : Nat) : Int))) l
      (fun i pre => (m, lines, (wSegs m lines 0 w0 pre).1, (wSegs m lines 0 w0 pre).2.1, (wSegs m lines 0 w0 pre).2.2.1, (wSegs m lines 0 w0 pre).2.2.2, ((i : Nat) : Int))) (fun i s hsi => ?_) ?_) ?_
    · have hi := get_le hsi
      have hil := take_len hsi
      have hsg := hs s (List.mem_of_getElem? hsi)
      have hlen := wSegs_len (m := m) (lines := lines) (i := 0) (w := w0) (l := l.take i) fun s hs' => hs s (mem_take hs')
      rw [hil] at hlen
      rw [wSegs_snoc, hil, Nat.zero_add]
      generalize hw : wSegs m lines 0 w0 (l.take i) = w at hlen ⊢
      simp only [w0, List.length_nil, Nat.zero_add] at hlen
      simp only [lt_dec hi, cond_true, getI_nat, hsi, Option.bind_some, wrapN i (by omega)]
      unfold wNext
      by_cases hb : w.1.length ≤ 499992
      · have d : decide ((w.1.length : Int) ≤ 499992) = true := decide_eq_true (by omega)
        rw [if_pos hb]
        simp only [d, cond_true]
        have := w_segment m lines w i s hsg hb (by omega) (by omega)
        rw [this]
        rfl
      · have d : decide ((w.1.length : Int) ≤ 499992) = false := decide_eq_false (by omega)
        rw [if_neg hb]
        simp only [d, cond_false]
        obtain ⟨-, -, -, hel, hes⟩ := seg_len hsg
        refine bind_loop (loop_pre0 (a := .inl (m, lines, w.1, w.2.1, w.2.2.1, (w.2.2.2 || badB m (cntS m s)), ((s.fElements.length : Nat) : Int))) s.fElements
          (fun e pre => (m, lines, w.1, w.2.1, w.2.2.1, (w.2.2.2 || badB m ((pre.map (cntE m)).sum)), ((e : Nat) : Int))) ?_ (fun e x hxe => ?_) ?_) ?_
        · simp [badB]
        · have he := get_le hxe
          obtain ⟨hrl, -, hrs⟩ := elem_len (hes x (List.mem_of_getElem? hxe))
          rw [sum_take hxe, ← badB_add]
          generalize (w.2.2.2 || badB m (((s.fElements.take e).map (cntE m)).sum)) = bad
          simp only [lt_dec he, cond_true, getI_nat, hxe, Option.bind_some, wrapN e (by omega)]
          refine bind_loop (loop_pre0 (a := .inl (m, lines, w.1, w.2.1, w.2.2.1, (bad || badB m (cntE m x)), ((x.fRepeats.length : Nat) : Int))) x.fRepeats
            (fun r pre => (m, lines, w.1, w.2.1, w.2.2.1, (bad || badB m ((pre.map (cntR m)).sum)), ((r : Nat) : Int))) ?_ (fun r parts hpr => ?_) ?_) ?_
          · simp [badB]
          · have hr := get_le hpr
            obtain ⟨hpl, -, hps⟩ := rep_len (hrs parts (List.mem_of_getElem? hpr))
            rw [sum_take hpr, ← badB_add]
            generalize (bad || badB m (((x.fRepeats.take r).map (cntR m)).sum)) = bad2
            have hc := containsFunc_str parts 40 [DV.ptr (rTapi_Marks m)] (fun a0 => m_wire_written_1 a0 m) (fun a0 r h => spec_wire_written_1 a0 m r h) (fun t => decide (0 < cntT m t)) (fun t ht => by
              have htl := text_len (hps t ht)
              unfold m_wire_written_1 sims_G6_2_0; dsimp only
              rw [w_needed m t (by omega)]
              simp only [Option.bind_some]
              congr 1
              simp) (by omega)
            simp only [lt_dec hr, cond_true, getI_nat, hpr, Option.bind_some, wrapN r (by omega), andO_some, orO_some]
            rw [hc]
            simp only [Option.bind_some, andO_some, orO_some]
            have e4 : (bad2 || (decide ((m.fEscape.toNat : Int) = 0) && parts.any fun t => decide (0 < cntT m t))) = (bad2 || badB m (cntR m parts)) := by
              unfold badB cntR
              rw [sum_pos]
              congr 2
              congr 1
              apply propext
              omega
            rw [e4]
          · simp only [lt_dec_self, cond_false]; rfl
          · rfl
        · simp only [lt_dec_self, cond_false]; rfl
        · rfl
    · simp only [lt_dec_self, cond_false]; rfl
    · simp only [outK]
      generalize wSegs m lines 0 w0 l = w
      cases hbad : w.2.2.2 with
      | true => rfl
      | false =>
        simp only [cond_false, Bool.false_eq_true, if_false]
        by_cases hb : 499992 < w.1.length
        · have d : decide ((499992 : Int) < (w.1.length : Int)) = true := decide_eq_true (by omega)
          rw [if_pos hb]; simp only [d, cond_true]
        · have d : decide ((499992 : Int) < (w.1.length : Int)) = false := decide_eq_false (by omega)
          rw [if_neg hb]; simp only [d, cond_false]
  · rw [if_pos h]
    simp only [h, decide_false, Bool.not_false, cond_true]
end Go.Proofs.YtlmmfddbpagiaaaGreatDoor

/-
  Plain laws of the wire: both write the same.
-/
namespace Go.Proofs.YtlmmfddbpagiaaaGreatDoor
set_option linter.unusedSimpArgs false
set_option linter.unusedVariables false
open Go.RowKit

def plOf (q : Tinterchangeref2_piece) : Option Twire_place := if q.fat.fElement = 0 then none else some ⟨q.fsegment, q.fat, q.ffrom, q.fto⟩
def stOf (q : Tinterchangeref2_piece) : Option Int := if q.fat.fElement = 0 then some q.fbegin else none
/-- Where no mark is without an escape. -/
def CanEsc (m : Tapi_Marks) (n : Nat) : Prop := m.fEscape.toNat ≠ 0 ∨ n = 0
theorem esc_same {m : Tapi_Marks} {t : List UInt8} (h : CanEsc m (cntT m t)) : escR m t = escW m t := by
  induction t with
  | nil => rfl
  | cons b t ih =>
    have h1 : cntT m (b :: t) = cntT m t + (if isM m b = true then 1 else 0) := by simp [cntT, List.countP_cons]
    have h2 : escR m (b :: t) = (if isM m b = true ∧ m.fEscape.toNat ≠ 0 then [m.fEscape, b] else [b]) ++ escR m t := by simp [escR]
    have h3 : escW m (b :: t) = (if isM m b = true then [m.fEscape, b] else [b]) ++ escW m t := by simp [escW]
    rw [h2, h3]
    rcases h with h | h
    · rw [ih (.inl h)]
      by_cases hm : isM m b = true <;> simp [hm, h]
    · rw [h1] at h
      by_cases hm : isM m b = true
      · rw [if_pos hm] at h; omega
      · rw [if_neg hm] at h
        rw [ih (.inr (by omega))]
        simp [hm]
/-- The states of both writers say the same. -/
def Same (w : WrT) (r : RT) (ss : List Int) : Prop := w.1 = r.1 ∧ r.2.1.filterMap plOf = w.2.1 ∧ r.2.1.filterMap stOf = ss
theorem spot_ne {m : Tapi_Marks} {s : Tapi_Segment} : ∀ p ∈ ptsS m s, p.sp.fElement ≠ 0 := by
  unfold ptsS
  refine ixMap_all fun e x hx => ?_
  unfold ptsE
  refine ixMap_all fun r l hl => ?_
  unfold ptsR
  refine ixMap_all fun p t ht y hy => ?_
  simp only [ptsP, List.mem_singleton] at hy
  subst hy
  show ((e + 1 : Nat) : Int) ≠ 0
  omega
theorem Same.pts {m : Tapi_Marks} {seg : Int} {ss : List Int} : ∀ {l : List Prt} {w : WrT} {r : RT}, Same w r ss → (∀ p ∈ l, p.sp.fElement ≠ 0) → (∀ p ∈ l, CanEsc m (cntT m p.t)) → Same (wPts m seg w l) (rPts m seg r l) ss
  | [], w, r, h, _, _ => h
  | p :: l, w, r, h, h1, h2 => by
    refine Same.pts (l := l) (w := wStep m seg w p) (r := rStep m seg r p) ?_ (fun q hq => h1 q (by simp [hq])) fun q hq => h2 q (by simp [hq])
    obtain ⟨e1, e2, e3⟩ := h
    have hp := h1 p (by simp)
    have he := esc_same (h2 p (by simp))
    refine ⟨?_, ?_, ?_⟩
    · simp only [wStep, rStep, e1, he]
    · simp only [wStep, rStep, List.filterMap_append, e2, List.filterMap_cons, List.filterMap_nil, plOf, hp, if_false, e1, he]
    · simp only [rStep, List.filterMap_append, e3, List.filterMap_cons, List.filterMap_nil, stOf, hp, if_false, List.append_nil]
theorem sum_mem {α : Type} {c : α → Nat} : ∀ {l : List α} {x : α}, x ∈ l → c x ≤ (l.map c).sum
  | y :: l, x, h => by
    rcases List.mem_cons.1 h with rfl | h
    · simp
    · have := sum_mem (c := c) h
      simp only [List.map_cons, List.sum_cons]; omega
theorem CanEsc.le {m : Tapi_Marks} {a b : Nat} (h : CanEsc m b) (hab : a ≤ b) : CanEsc m a := by
  rcases h with h | h
  · exact .inl h
  · exact .inr (by omega)
theorem pts_esc {m : Tapi_Marks} {s : Tapi_Segment} (h : CanEsc m (cntS m s)) : ∀ p ∈ ptsS m s, CanEsc m (cntT m p.t) := fun p hp => h.le (by
  rw [← ptsS_sum]
  exact sum_mem (c := fun p : Prt => cntT m p.t) hp)
theorem Same.seg {m : Tapi_Marks} {lines : Bool} {i : Nat} {w : WQ} {r : RT} {s : Tapi_Segment} (h : Same (w.1, w.2.1, w.2.2.2) r w.2.2.1) (hc : CanEsc m (cntS m s)) :
    Same ((wSeg m lines i w s).1, (wSeg m lines i w s).2.1, (wSeg m lines i w s).2.2.2) (rSeg m lines i r s) (wSeg m lines i w s).2.2.1 := by
  obtain ⟨e1, e2, e3⟩ := h
  simp only at e1 e2 e3
  have h1 : Same (w.1 ++ s.fTag, w.2.1, w.2.2.2) (rHead r i s) (w.2.2.1 ++ [((w.1.length : Nat) : Int)]) := by
    refine ⟨?_, ?_, ?_⟩
    · simp only [rHead, e1]
    · simp only [rHead, List.filterMap_append, e2, List.filterMap_cons, List.filterMap_nil, plOf, if_true, List.append_nil]
    · simp only [rHead, List.filterMap_append, e3, List.filterMap_cons, List.filterMap_nil, stOf, if_true, e1]
  obtain ⟨f1, f2, f3⟩ := h1.pts (m := m) (seg := (i : Int)) (l := ptsS m s) spot_ne (pts_esc hc)
  exact ⟨by simp only [wSeg, rSeg, wIn]; rw [f1], f2, f3⟩
theorem rPts_grow (m : Tapi_Marks) (seg : Int) : ∀ (l : List Prt) (w : RT), w.1.length ≤ (rPts m seg w l).1.length
  | [], w => Nat.le_refl _
  | p :: l, w => by
    have := rPts_grow m seg l (rStep m seg w p)
    have h2 : w.1.length ≤ (rStep m seg w p).1.length := by simp only [rStep, List.length_append]; omega
    simp only [rPts, List.foldl_cons] at this ⊢
    omega
theorem rSeg_grow (m : Tapi_Marks) (lines : Bool) (i : Nat) (w : RT) (s : Tapi_Segment) : w.1.length ≤ (rSeg m lines i w s).1.length := by
  have := rPts_grow m (i : Int) (ptsS m s) (rHead w i s)
  have h2 : w.1.length ≤ (rHead w i s).1.length := by simp only [rHead, List.length_append]; omega
  simp only [rSeg, List.length_append]
  omega
def Both (w : WQ) (r : RT) : Prop := (w.1.length ≤ 499992 ∧ Same (w.1, w.2.1, w.2.2.2) r w.2.2.1) ∨ (499992 < w.1.length ∧ 499992 < r.1.length)
theorem both_all {m : Tapi_Marks} {lines : Bool} : ∀ {l : List Tapi_Segment} {i : Nat} {w : WQ} {r : RT}, Both w r → CanEsc m (cntL m l) → Both (wSegs m lines i w l) (rSegs m lines i r l)
  | [], i, w, r, h, _ => h
  | s :: l, i, w, r, h, hc => by
    have hs : cntL m (s :: l) = cntS m s + cntL m l := by simp [cntL]
    rw [hs] at hc
    simp only [wSegs, rSegs]
    refine both_all (l := l) ?_ (hc.le (by omega))
    rcases h with ⟨h1, h2⟩ | ⟨h1, h2⟩
    · have h3 := h2.seg (lines := lines) (i := i) (hc.le (show cntS m s ≤ _ by omega))
      unfold wNext
      rw [if_pos h1]
      by_cases hb : (wSeg m lines i w s).1.length ≤ 499992
      · exact .inl ⟨hb, h3⟩
      · refine .inr ⟨by omega, ?_⟩
        rw [← h3.1]
        simp only
        omega
    · have h3 := rSeg_grow m lines i r s
      unfold wNext
      rw [if_neg (by omega)]
      exact .inr ⟨h1, by omega⟩
theorem wPts_bad (m : Tapi_Marks) (seg : Int) : ∀ (l : List Prt) (w : WrT), (wPts m seg w l).2.2 = (w.2.2 || badB m ((l.map fun p => cntT m p.t).sum))
  | [], w => by simp [wPts, badB]
  | p :: l, w => by
    have := wPts_bad m seg l (wStep m seg w p)
    simp only [wPts, List.foldl_cons] at this ⊢
    rw [this]
    simp only [wStep, List.map_cons, List.sum_cons, badB_add]
theorem wSegs_bad (m : Tapi_Marks) (lines : Bool) : ∀ (l : List Tapi_Segment) (i : Nat) (w : WQ), (wSegs m lines i w l).2.2.2 = (w.2.2.2 || badB m (cntL m l))
  | [], i, w => by simp [wSegs, cntL, badB]
  | s :: l, i, w => by
    simp only [wSegs]
    rw [wSegs_bad m lines l (i + 1)]
    have hs : cntL m (s :: l) = cntS m s + cntL m l := by simp [cntL]
    rw [hs, ← badB_add]
    congr 1
    unfold wNext
    split
    · simp only [wSeg, wIn, wPts_bad, ptsS_sum]
    · rfl
/-- What both write, and the fault. -/
def rAll (m : Tapi_Marks) (lines : Bool) (l : List Tapi_Segment) : RT := rSegs m lines 0 ([], [], 0) l
def joinF (l : List Tapi_Segment) (m : Tapi_Marks) (lines : Bool) : Int :=
  if bothF l m ≠ 0 then bothF l m else if badB m (cntL m l) = true then 3 else if 499992 < (rAll m lines l).1.length then 2 else 0
theorem r_join (l : List Tapi_Segment) (m : Tapi_Marks) (lines : Bool) (h : bothF l m = 0) :
    m_interchangeref2_join l m lines 499992 = some (if joinF l m lines = 0 then (some ⟨m, (rAll m lines l).1, (rAll m lines l).2.1, (((rAll m lines l).2.2 : Nat) : Int)⟩, 0) else (none, joinF l m lines)) := by
  unfold m_interchangeref2_join sims_G6_3_0; dsimp only
  have hs := (both_segs h).1
  simp only [r_written l m lines hs, Option.bind_some, andO_some]
  have hc : (rSegs m lines 0 ([], [], 0) l).2.2 = cntL m l := by rw [rSegs_cnt]; simp
  have e1 : (decide ((m.fEscape.toNat : Int) = 0) && decide ((0 : Int) < (((rSegs m lines 0 ([], [], 0) l).2.2 : Nat) : Int))) = badB m (cntL m l) := by
    rw [hc]
    unfold badB
    congr 1
    · congr 1; apply propext; omega
    · congr 1; apply propext; omega
  rw [e1]
  have e2 : joinF l m lines = if badB m (cntL m l) = true then 3 else if 499992 < (rAll m lines l).1.length then 2 else 0 := by unfold joinF; exact if_neg (fun e => e h)
  rw [e2]
  cases hb : badB m (cntL m l) with
  | true => simp
  | false =>
    simp only [cond_false, Bool.false_eq_true, if_false, rAll]
    by_cases hl : 499992 < (rSegs m lines 0 ([], [], 0) l).1.length
    · have d : decide ((499992 : Int) < ((rSegs m lines 0 ([], [], 0) l).1.length : Int)) = true := decide_eq_true (by omega)
      simp only [d, cond_true]; simp [hl]
    · have d : decide ((499992 : Int) < ((rSegs m lines 0 ([], [], 0) l).1.length : Int)) = false := decide_eq_false (by omega)
      simp only [d, cond_false]; simp [hl]
theorem w_writ (l : List Tapi_Segment) (m : Tapi_Marks) (lines : Bool) :
    ∃ pl ss, (joinF l m lines = 0 → (rAll m lines l).2.1.filterMap plOf = pl ∧ (rAll m lines l).2.1.filterMap stOf = ss) ∧
      writF l m lines = if joinF l m lines = 0 then (some ⟨m, lines, (rAll m lines l).1, pl, ss, false⟩, 0) else (none, joinF l m lines) := by
  refine ⟨(wSegs m lines 0 w0 l).2.1, (wSegs m lines 0 w0 l).2.2.1, ?_⟩
  unfold writF joinF
  by_cases h : bothF l m = 0
  · simp only [h, ne_eq, not_true_eq_false, if_false]
    have hbad := wSegs_bad m lines l 0 w0
    have hbad : (wSegs m lines 0 w0 l).2.2.2 = badB m (cntL m l) := by rw [hbad]; simp [w0]
    rw [hbad]
    cases hb : badB m (cntL m l) with
    | true => simp
    | false =>
      simp only [Bool.false_eq_true, if_false]
      have hc : CanEsc m (cntL m l) := by
        unfold badB at hb
        by_cases hz : m.fEscape.toNat = 0
        · simp [hz] at hb; exact .inr hb
        · exact .inl hz
      have h0 : Both w0 (([], [], 0) : RT) := .inl ⟨by simp [w0], rfl, rfl, rfl⟩
      have hB := both_all (lines := lines) (i := 0) h0 hc
      rcases hB with ⟨h1, h2, h3, h4⟩ | ⟨h1, h2⟩
      · simp only at h2
        have h5 : ¬ 499992 < (rAll m lines l).1.length := by unfold rAll; rw [← h2]; omega
        have h6 : ¬ 499992 < (wSegs m lines 0 w0 l).1.length := by omega
        simp only [h5, h6, if_false]
        refine ⟨fun _ => ⟨h3, h4⟩, ?_⟩
        simp only [if_true]
        unfold rAll
        rw [← h2]
      · have h5 : 499992 < (rAll m lines l).1.length := h2
        simp only [h1, h5, if_true]
        exact ⟨fun e => absurd e (by decide), rfl⟩
  · simp only [ne_eq, h, not_false_eq_true, if_true, if_false]
    exact ⟨fun e => e.elim, trivial⟩
end Go.Proofs.YtlmmfddbpagiaaaGreatDoor

/-
  Plain laws: Pack on both sides; WireInterchangesMatchSpec.
-/
namespace Go.Proofs.YtlmmfddbpagiaaaGreatDoor
set_option linter.unusedSimpArgs false
set_option linter.unusedVariables false
open Go.RowKit

theorem head_eq (m : Tapi_Marks) : m_wire_Heading m = some (if marksF m = 0 then (hbytes m, 0) else ([], marksF m)) := by
  unfold m_wire_Heading
  rw [w_marks]
  simp only [Option.bind_some]
  by_cases h : marksF m = 0 <;> simp [h]
theorem rhead_eq (m : Tapi_Marks) : m_interchangeref2_heading m = some (hbytes m) := by
  unfold m_interchangeref2_heading sims_G4_0_0; dsimp only
  unfold hbytes
  by_cases h : m.fEscape.toNat = 0
  · have h2 : m.fEscape = 0 := UInt8.toNat_inj.1 (by simpa using h)
    have d : decide ((m.fEscape.toNat : Int) = 0) = true := decide_eq_true (by omega)
    simp only [d, cond_true, h2, if_true]
    rfl
  · have h2 : m.fEscape ≠ 0 := fun e => h (by rw [e]; rfl)
    have d : decide ((m.fEscape.toNat : Int) = 0) = false := decide_eq_false (by omega)
    simp only [d, cond_false, if_neg h2]
    rfl
/-- What both pack, and the fault. -/
def packF (x : Ix) (m : Tapi_Marks) (lines : Bool) : List UInt8 × Int :=
  if ciF x ≠ 0 then ([], ciF x) else if marksF m ≠ 0 then ([], marksF m) else if joinF (ixS x) m lines ≠ 0 then ([], joinF (ixS x) m lines) else (hbytes m ++ (rAll m lines (ixS x)).1, 0)
theorem ixS_tags {x : Ix} (hn : IxN x) (hr : IxR x) : TagsShort (ixS x) := fun s hs => by
  have := (seg_len (ixS_all hn hr s hs)).2.1
  omega
theorem join_short {l : List Tapi_Segment} {m : Tapi_Marks} {lines : Bool} (h : joinF l m lines = 0) : (rAll m lines l).1.length ≤ 499992 := by
  unfold joinF at h
  by_cases h1 : bothF l m = 0
  · rw [if_neg (fun e => e h1)] at h
    by_cases h2 : badB m (cntL m l) = true
    · rw [if_pos h2] at h; cases h
    · rw [if_neg h2] at h
      by_cases h3 : 499992 < (rAll m lines l).1.length
      · rw [if_pos h3] at h; cases h
      · omega
  · rw [if_pos h1] at h; exact absurd h h1
theorem w_pack (x : Ix) (m : Tapi_Marks) (lines : Bool) (ho : IxOk x) (hn : IxN x) : m_wire_Pack x m lines = some (packF x m lines) := by
  unfold m_wire_Pack sims_G7_1_0; dsimp only
  unfold packF
  simp only [w_ci x ho, head_eq, Option.bind_some]
  by_cases hc : ciF x = 0
  · have hr := ix_right hc
    simp only [hc, decide_true, Bool.not_true, cond_false, ne_eq, not_true_eq_false, if_false]
    by_cases hm : marksF m = 0
    · obtain ⟨pl, ss, -, hw⟩ := w_writ (ixS x) m lines
      simp only [hm, if_true, decide_true, Bool.not_true, cond_false, not_true_eq_false, if_false, w_segments x hn hr, Option.bind_some, w_written _ m lines (ixS_tags hn hr), hw]
      by_cases hj : joinF (ixS x) m lines = 0
      · have := join_short hj
        simp only [hj, if_true, decide_true, Bool.not_true, cond_false, not_true_eq_false, if_false, Option.bind_some]
        rw [thenO_ok (by simp only [hbytes, List.length_cons, List.length_nil]; omega)]
      · simp [hj]
    · simp [hm]
  · simp [hc]
theorem r_pack (x : Ix) (m : Tapi_Marks) (lines : Bool) (ho : IxOk x) (hn : IxN x) : m_interchangeref2_Pack x m lines = some (packF x m lines) := by
  unfold m_interchangeref2_Pack sims_G7_1_0; dsimp only
  unfold packF
  simp only [r_ci x ho, r_marks, Option.bind_some]
  by_cases hc : ciF x = 0
  · have hr := ix_right hc
    simp only [hc, decide_true, Bool.not_true, cond_false, ne_eq, not_true_eq_false, if_false]
    by_cases hm : marksF m = 0
    · have hb : bothF (ixS x) m = 0 := by unfold bothF; rw [if_pos (ixS_right hn hr), hm]
      simp only [hm, decide_true, Bool.not_true, cond_false, not_true_eq_false, if_false, r_segments x hn hr, Option.bind_some, r_join _ m lines hb]
      by_cases hj : joinF (ixS x) m lines = 0
      · have := join_short hj
        simp only [hj, if_true, decide_true, Bool.not_true, cond_false, not_true_eq_false, if_false, Option.bind_some, rhead_eq]
        rw [thenO_ok (by simp only [hbytes, List.length_cons, List.length_nil]; omega)]
      · simp [hj]
    · simp [hm]
  · simp [hc]
def segsR (x : Ix) : List Tapi_Segment × Int := if ciF x ≠ 0 then ([], ciF x) else (ixS x, 0)
theorem w_Segments (x : Ix) (ho : IxOk x) (hn : IxN x) : m_wire_Segments x = some (segsR x) := by
  unfold m_wire_Segments sims_G4_3_0; dsimp only
  unfold segsR
  simp only [w_ci x ho, Option.bind_some]
  by_cases hc : ciF x = 0
  · simp [hc, w_segments x hn (ix_right hc)]
  · simp [hc]
theorem r_Segments (x : Ix) (ho : IxOk x) (hn : IxN x) : m_interchangeref2_Segments x = some (segsR x) := by
  unfold m_interchangeref2_Segments sims_G4_2_0; dsimp only
  unfold segsR
  simp only [r_ci x ho, Option.bind_some]
  by_cases hc : ciF x = 0
  · simp [hc, r_segments x hn (ix_right hc)]
  · simp [hc]
theorem segsR_ok (x : Ix) (hn : IxN x) : (segsR x).1.length ≤ 137438953472 ∧ ∀ s ∈ (segsR x).1, cloneOk s := by
  unfold segsR
  by_cases hc : ciF x = 0
  · have hr := ix_right hc
    have h := segs_ok (ixS_right hn hr)
    simp only [hc, ne_eq, not_true_eq_false, if_false]
    exact h
  · simp [hc]
theorem law_interchanges (x : Ix) (m : Tapi_Marks) (lines : Bool) (ho : IxOk x) (hn : IxN x) : m_interchangelaw2_WireInterchangesMatchSpec x m lines = some true := by
  have hE : ∀ a b, m_bytes_Equal a b = some (decide (a = b)) := fun a b => by
    unfold m_bytes_Equal sims_G3_0_1; dsimp only
  obtain ⟨h1, h2⟩ := segsR_ok x hn
  unfold m_interchangelaw2_WireInterchangesMatchSpec sims_G7_2_0; dsimp only
  simp only [w_Segments x ho hn, r_Segments x ho hn, w_pack x m lines ho hn, r_pack x m lines ho hn, w_ci x ho, r_ci x ho, sameSegs_refl _ h1 h2, hE, awake_true, Option.bind_some, andO_some, decide_true, Bool.true_and, Bool.and_self]
end Go.Proofs.YtlmmfddbpagiaaaGreatDoor

/-
  The engine, part H: what is owned changes: variables are made and written, slices grow, a slice that is done is data.
-/
import Derived.Test.YtjdeikkojjdjdaaDoorEngG
namespace Go.Proofs.YtjdeikkojjdjdaaDoor
set_option linter.unusedSimpArgs false
set_option linter.unusedVariables false
open Go.RowKit

mutual
/-- Chunk id is gone (or anew); what was its slice reads as dv from now on. -/
def repV (id : Nat) (dv : DV) : SV → SV
  | .d v => .d v
  | .nils => .nils
  | .agg cs => .agg (repL id dv cs)
  | .ref i off => if i = id then .d .any else .ref i off
  | .vec i => if i = id then .d dv else .vec i
  | .vref i sz k off => if i = id then .d .any else .vref i sz k off
  | .mp i => if i = id then .d .any else .mp i
def repL (id : Nat) (dv : DV) : List SV → List SV
  | [] => []
  | c :: cs => repV id dv c :: repL id dv cs
end

def repC (id : Nat) (dv : DV) : Ch → Ch
  | .dead => .dead
  | .box cs => .box (repL id dv cs)
  | .vec e sz rows => .vec e sz rows
  | .map kk kv => .map kk kv

def repS (id : Nat) (dv : DV) (s : Nat → SV) : Nat → SV := fun i => repV id dv (s i)
def repH (id : Nat) (dv : DV) (h : Nat → Ch) : Nat → Ch := fun i => repC id dv (h i)

/-- Chunk id becomes c; its slice, as it was, reads as dv. -/
def St.swap (σ : St) (id : Nat) (dv : DV) (c : Ch) : St := ⟨repS id dv σ.s, upd (repH id dv σ.h) id c⟩

theorem repC_live (id : Nat) (dv : DV) (c : Ch) : (repC id dv c).live ↔ c.live := by cases c <;> simp [repC, Ch.live]

mutual
theorem repV_rep {w w' : World} {M M' : Nat → Prop} {κ : Nat → Value} (h : Ext w M w' M') {id : Nat} {dv : DV} {v : Value} (hd : Rep w' M' dv (κ id)) : ∀ (x : SV) (u : Value), RepS w M κ x u → RepS w' M' (upd κ id v) (repV id dv x) u
  | .d x, u, hr => by simp only [RepS, repV] at *; exact hr.ext h
  | .nils, u, hr => by simp only [RepS, repV] at *; exact hr
  | .agg cs, u, hr => by
    simp only [RepS, repV] at *
    obtain ⟨vs, h1, h2, h3⟩ := hr
    exact ⟨vs, h1, h2, repL_rep h hd cs vs h3⟩
  | .ref i off, u, hr => by
    simp only [repV]
    split
    · simp [RepS, Rep]
    · rename_i hne
      simp only [RepS] at *
      rw [upd_ne _ _ _ _ hne]; exact hr
  | .vec i, u, hr => by
    simp only [repV]
    split
    · rename_i he
      subst he
      simp only [RepS] at *; subst hr; exact hd
    · rename_i hne
      simp only [RepS] at *
      rw [upd_ne _ _ _ _ hne]; exact hr
  | .vref i sz k off, u, hr => by
    simp only [repV]
    split
    · simp [RepS, Rep]
    · rename_i hne
      simp only [RepS] at *
      rw [upd_ne _ _ _ _ hne]; exact hr
  | .mp i, u, hr => by
    simp only [repV]
    split
    · simp [RepS, Rep]
    · rename_i hne
      simp only [RepS] at *
      rw [upd_ne _ _ _ _ hne]; exact hr
theorem repL_rep {w w' : World} {M M' : Nat → Prop} {κ : Nat → Value} (h : Ext w M w' M') {id : Nat} {dv : DV} {v : Value} (hd : Rep w' M' dv (κ id)) : ∀ (cs : List SV) (us : List Value), RepSL w M κ cs us → RepSL w' M' (upd κ id v) (repL id dv cs) us
  | [], us, hr => by simp only [RepSL, repL] at *; exact hr
  | c :: cs, us, hr => by
    simp only [RepSL, repL] at *
    obtain ⟨u, us', h1, h2, h3⟩ := hr
    exact ⟨u, us', h1, repV_rep h hd c u h2, repL_rep h hd cs us' h3⟩
end

section
variable {P : Program} {B : Nat} {w0 : World} {M0 : Nat → Prop} {N : Nat} {σ : St} {κ : Nat → Value} {a : Act} {w : World}

theorem swap_live {id j : Nat} {dv : DV} {c : Ch} (hne : j ≠ id) : ((σ.swap id dv c).h j).live ↔ (σ.h j).live := by
  simp only [St.swap, upd_ne _ _ _ _ hne, repH, repC_live]

/-- What is kept when chunk id becomes another: the readings of all that is not owned. -/
theorem swap_ext (hr : Ref B w0 M0 N σ κ a w) {id : Nat} {v : Value} {dv : DV} {c : Ch} {w' : World} (hsize : w.heap.size ≤ w'.heap.size)
    (hkeep : ∀ b, b < w.heap.size → ¬((σ.h id).live ∧ blk (κ id) = some b) → w'.heap[b]? = w.heap[b]?)
    (hnew : ∀ b, c.live → blk v = some b → w.heap.size ≤ b ∨ ((σ.h id).live ∧ blk (κ id) = some b)) :
    Ext w (own M0 σ.h κ) w' (own M0 (σ.swap id dv c).h (upd κ id v)) := by
  refine ⟨hsize, fun b hb hm => ⟨hkeep b hb fun ⟨h1, h2⟩ => hm (.inr ⟨id, h1, h2⟩), ?_⟩⟩
  rintro (h0 | ⟨j, hl, hj⟩)
  · exact hm (.inl h0)
  · by_cases hji : j = id
    · subst hji
      rw [upd_same] at hj
      simp only [St.swap, upd_same] at hl
      rcases hnew b hl hj with h1 | h1
      · omega
      · exact hm (.inr ⟨j, h1⟩)
    · rw [swap_live hji] at hl
      rw [upd_ne _ _ _ _ hji] at hj
      exact hm (.inr ⟨j, hl, hj⟩)

theorem Ref.swap (hr : Ref B w0 M0 N σ κ a w) {id : Nat} {v : Value} {dv : DV} {c : Ch} {w' : World} (hone : v.oneCell' = true)
    (hos : w'.os = w.os) (htape : w'.tape = w.tape) (hout : w'.output = w.output) (hsize : w.heap.size ≤ w'.heap.size)
    (hkeep : ∀ b, b < w.heap.size → ¬((σ.h id).live ∧ blk (κ id) = some b) → w'.heap[b]? = w.heap[b]?)
    (hnew : ∀ b, c.live → blk v = some b → w.heap.size ≤ b ∨ ((σ.h id).live ∧ blk (κ id) = some b))
    (hd : Rep w' (own M0 (σ.swap id dv c).h (upd κ id v)) dv (κ id))
    (hc : RepC B w' (own M0 (σ.swap id dv c).h (upd κ id v)) (upd κ id v) id c) : Ref B w0 M0 N (σ.swap id dv c) (upd κ id v) a w' := by
  have hext := swap_ext (dv := dv) hr hsize hkeep hnew
  have hB : Below B w w' := ⟨hos, htape, hout, hsize, fun k hk => hkeep k (Nat.lt_of_lt_of_le hk hr.size) fun ⟨h1, h2⟩ => by
    have := ((hr.chunks id).lt h1 h2).1
    omega⟩
  refine ⟨hr.below.trans hB, Nat.le_trans hr.size hsize, hr.m0, hr.ntmps, hr.defers, fun j => ?_, fun i hi => ?_, fun j => ?_, ?_⟩
  · by_cases hji : j = id
    · subst hji; rw [upd_same]; exact hone
    · rw [upd_ne _ _ _ _ hji]; exact hr.kok j
  · exact repV_rep hext hd _ _ (hr.slots i hi)
  · by_cases hji : j = id
    · subst hji
      have : (σ.swap j dv c).h j = c := by simp [St.swap, upd_same]
      rw [this]; exact hc
    · have he : (σ.swap id dv c).h j = repC id dv (σ.h j) := by simp [St.swap, upd_ne _ _ _ _ hji, repH]
      have hch := hr.chunks j
      have hblk : (σ.h j).live → ∀ b, blk (κ j) = some b → w'.heap[b]? = w.heap[b]? := fun hl b hb =>
        hkeep b ((hch).lt hl hb).2 fun ⟨h1, h2⟩ => hr.sep j id b hji hl h1 hb h2
      rw [he]
      have hk : upd κ id v j = κ j := upd_ne _ _ _ _ hji
      cases hcj : σ.h j with
      | dead => trivial
      | box cs =>
        rw [hcj] at hch hblk
        obtain ⟨b', T, vs, hk', hB', hh, h1, h2⟩ := hch
        exact ⟨b', T, vs, by rw [hk]; exact hk', hB', by rw [hblk trivial b' (by rw [hk']; rfl)]; exact hh, h1, repL_rep hext hd cs vs h2⟩
      | vec e sz rows =>
        rw [hcj] at hch hblk
        have := RepC.ext (κ := κ) (id := j) (c := .vec e sz rows) hext hblk hch
        simp only [repC, RepC] at this ⊢
        rw [hk]; exact this
      | map kk kv =>
        rw [hcj] at hch hblk
        have := RepC.ext (κ := κ) (id := j) (c := .map kk kv) hext hblk hch
        simp only [repC, RepC] at this ⊢
        rw [hk]; exact this
  · intro i j b hij hi hj hbi hbj
    have key : ∀ i j, i ≠ j → ((σ.swap id dv c).h i).live → ((σ.swap id dv c).h j).live → blk (upd κ id v i) = some b → blk (upd κ id v j) = some b → i = id → False := by
      intro i j hij hi hj hbi hbj hii
      subst hii
      have hji : j ≠ i := fun e => hij e.symm
      rw [upd_same] at hbi
      rw [upd_ne _ _ _ _ hji] at hbj
      rw [swap_live hji] at hj
      simp only [St.swap, upd_same] at hi
      have hlt := ((hr.chunks j).lt hj hbj).2
      rcases hnew b hi hbi with h1 | ⟨h1, h2⟩
      · omega
      · exact hr.sep j i b hji hj h1 hbj h2
    by_cases hii : i = id
    · exact key i j hij hi hj hbi hbj hii
    · by_cases hjj : j = id
      · exact key j i (fun e => hij e.symm) hj hi hbj hbi hjj
      · rw [swap_live hii] at hi
        rw [swap_live hjj] at hj
        rw [upd_ne _ _ _ _ hii] at hbi
        rw [upd_ne _ _ _ _ hjj] at hbj
        exact hr.sep i j b hij hi hj hbi hbj

/-- A chunk is written in place. -/
theorem Ref.modify (hr : Ref B w0 M0 N σ κ a w) {id : Nat} {c : Ch} {w' : World} (hlive : (σ.h id).live) (hcl : c.live)
    (hos : w'.os = w.os) (htape : w'.tape = w.tape) (hout : w'.output = w.output) (hsize : w'.heap.size = w.heap.size)
    (hkeep : ∀ b, blk (κ id) ≠ some b → w'.heap[b]? = w.heap[b]?)
    (hc : Ext w (own M0 σ.h κ) w' (own M0 σ.h κ) → RepC B w' (own M0 σ.h κ) κ id c) : Ref B w0 M0 N ⟨σ.s, upd σ.h id c⟩ κ a w' := by
  have hown : own M0 (upd σ.h id c) κ = own M0 σ.h κ := by
    funext b
    apply propext
    unfold own
    constructor
    · rintro (h | ⟨j, hl, hj⟩)
      · exact .inl h
      · by_cases hji : j = id
        · subst hji; exact .inr ⟨j, hlive, hj⟩
        · rw [upd_ne _ _ _ _ hji] at hl; exact .inr ⟨j, hl, hj⟩
    · rintro (h | ⟨j, hl, hj⟩)
      · exact .inl h
      · by_cases hji : j = id
        · subst hji; exact .inr ⟨j, by rw [upd_same]; exact hcl, hj⟩
        · exact .inr ⟨j, by rw [upd_ne _ _ _ _ hji]; exact hl, hj⟩
  have hext : Ext w (own M0 σ.h κ) w' (own M0 σ.h κ) := ⟨by omega, fun b hb hm => ⟨hkeep b fun h => hm (.inr ⟨id, hlive, h⟩), hm⟩⟩
  have hB : Below B w w' := ⟨hos, htape, hout, by omega, fun k hk => hkeep k fun h => by
    have := ((hr.chunks id).lt hlive h).1
    omega⟩
  have hlv : ∀ j, (upd σ.h id c j).live → (σ.h j).live := fun j hl => by
    by_cases hji : j = id
    · subst hji; exact hlive
    · rw [upd_ne _ _ _ _ hji] at hl; exact hl
  refine ⟨hr.below.trans hB, by have := hr.size; omega, hr.m0, hr.ntmps, hr.defers, hr.kok, fun i hi => ?_, fun j => ?_, fun i j b hij hi hj => hr.sep i j b hij (hlv i hi) (hlv j hj)⟩
  · simp only [hown]; exact RepS.ext hext _ _ (hr.slots i hi)
  · simp only [hown]
    by_cases hji : j = id
    · subst hji; rw [upd_same]; exact hc hext
    · rw [upd_ne _ _ _ _ hji]
      exact (hr.chunks j).ext hext fun hl b hb => hkeep b fun h => hr.sep j id b hji hl hlive hb h

/-- A slice that is done becomes data. -/
theorem Ref.freeze (hr : Ref B w0 M0 N σ κ a w) {id e sz : Nat} {rows : List (List DV)} (hv : σ.h id = .vec e sz rows) : Ref B w0 M0 N (σ.swap id (.slice rows) .dead) (upd κ id (.pointer none)) a w := by
  have hext := swap_ext (dv := .slice rows) (c := .dead) (v := .pointer none) hr (id := id) (w' := w) (Nat.le_refl _) (fun _ _ _ => rfl) (fun b hl => hl.elim)
  refine hr.swap rfl rfl rfl rfl (Nat.le_refl _) (fun _ _ _ => rfl) (fun b hl => hl.elim) ?_ trivial
  have hch := hr.chunks id
  rw [hv] at hch
  obtain ⟨xs, h1, h2, h3, h4⟩ := hch
  have h4' := h4.ext hext
  unfold Rep
  rcases h1.2 with ⟨hk, hn⟩ | ⟨g, cap, cur, hk, hB, hg, hcap, _, hcur, htake⟩
  · have : rows = [] := List.length_eq_zero_iff.1 hn
    subst this
    exact ⟨none, 0, hk, Nat.le_refl _, fun _ => rfl, .inl rfl⟩
  · refine ⟨some ⟨g, 0, none⟩, cap, hk, hcap, by simp, .inr ⟨g, 0, sz, rfl, ?_, (Array.getElem?_eq_some_iff.1 hg).1, ?_⟩⟩
    · rintro (h0 | ⟨j, hl, hj⟩)
      · have := hr.m0 g h0
        omega
      · by_cases hji : j = id
        · subst hji; simp [St.swap, upd_same, Ch.live] at hl
        · rw [swap_live hji] at hl
          rw [upd_ne _ _ _ _ hji] at hj
          exact hr.sep j id g hji hl (by rw [hv]; trivial) hj (by rw [hk]; rfl)
    · rw [RepRows.iff]
      refine ⟨h3, RepAt.of_row hg h4' h2 fun j v hj => ?_⟩
      rw [← htake, List.getElem?_take] at hj
      split at hj
      · simpa using hj
      · cases hj

/-- A nil slice is one that can grow. -/
theorem Ref.vecnil (hr : Ref B w0 M0 N σ κ a w) {id e sz slot : Nat} (hs : σ.s slot = .nils) : Ref B w0 M0 N { σ.swap id .any (.vec e sz []) with s := upd (repS id .any σ.s) slot (.vec id) } (upd κ id (.slice none 0 0)) a w := by
  have h1 : Ref B w0 M0 N (σ.swap id .any (.vec e sz [])) (upd κ id (.slice none 0 0)) a w := by
    refine hr.swap rfl rfl rfl rfl (Nat.le_refl _) (fun _ _ _ => rfl) (fun b _ hb => by simp [blk] at hb) (by unfold Rep; trivial) ?_
    simp only [RepC]
    exact ⟨[], by rw [upd_same]; exact World.ownsRow_nil w B e sz, by simp, by simp, by simp [RepL]⟩
  refine ⟨h1.below, h1.size, h1.m0, h1.ntmps, h1.defers, h1.kok, fun i hi => ?_, h1.chunks, h1.sep⟩
  by_cases hi' : i = slot
  · subst hi'
    have := hr.slots i hi
    rw [hs] at this
    simp only [RepS] at this
    simp only [upd_same, RepS]
    exact this
  · simp only [upd_ne _ _ _ _ hi']
    exact h1.slots i hi
end

end Go.Proofs.YtjdeikkojjdjdaaDoor

/-
  The engine, part H: what is owned changes hands.
-/
import Derived.Test.YtcnohbiegjahkaaGreatDoorSXEngG
namespace Go.Proofs.YtcnohbiegjahkaaGreatDoor
set_option linter.unusedSimpArgs false
set_option linter.unusedVariables false
open Go.RowKit

mutual
/-- Chunk id is gone (or anew); what was its slice reads as dv from now on. -/
def repV (id : Nat) (dv : DV) : SV → SV
  | .d v => .d v
  | .nils => .nils
  | .lit sz n cs => .lit sz n (repL id dv cs)
  | .agg cs => .agg (repL id dv cs)
  | .tup cs => .tup (repL id dv cs)
  | .ref i off => if i = id then .d .any else .ref i off
  | .vec i => if i = id then .d dv else .vec i
  | .vref i sz k off => if i = id then .d .any else .vref i sz k off
  | .mp i => if i = id then .d .any else .mp i
  | .own m v => .own m v
def repL (id : Nat) (dv : DV) : List SV → List SV
  | [] => []
  | c :: cs => repV id dv c :: repL id dv cs
end

def repR (id : Nat) (dv : DV) : List (List SV) → List (List SV)
  | [] => []
  | r :: rs => repL id dv r :: repR id dv rs
def repK (id : Nat) (dv : DV) : List (DV × SV) → List (DV × SV)
  | [] => []
  | (k, c) :: kv => (k, repV id dv c) :: repK id dv kv

def repC (id : Nat) (dv : DV) : Ch → Ch
  | .dead => .dead
  | .box cs => .box (repL id dv cs)
  | .vec e sz rows => .vec e sz (repR id dv rows)
  | .map kk kv => .map kk (repK id dv kv)
  | .bld T e bs => .bld T e bs

def repS (id : Nat) (dv : DV) (s : Nat → SV) : Nat → SV := fun i => repV id dv (s i)
def repH (id : Nat) (dv : DV) (h : Nat → Ch) : Nat → Ch := fun i => repC id dv (h i)

/-- Chunk id becomes c; its slice, as it was, reads as dv. -/
def St.swap (σ : St) (id : Nat) (dv : DV) (c : Ch) : St := ⟨repS id dv σ.s, upd (repH id dv σ.h) id c⟩

theorem repL_append (id : Nat) (dv : DV) : ∀ (xs ys : List SV), repL id dv (xs ++ ys) = repL id dv xs ++ repL id dv ys
  | [], ys => rfl
  | x :: xs, ys => by simp [repL, repL_append id dv xs ys]
theorem repL_length (id : Nat) (dv : DV) : ∀ (xs : List SV), (repL id dv xs).length = xs.length
  | [] => rfl
  | x :: xs => by simp [repL, repL_length id dv xs]
theorem repR_flatten (id : Nat) (dv : DV) : ∀ (rs : List (List SV)), (repR id dv rs).flatten = repL id dv rs.flatten
  | [] => rfl
  | r :: rs => by simp [repR, repL_append, repR_flatten id dv rs]
theorem repR_length (id : Nat) (dv : DV) : ∀ (rs : List (List SV)), (repR id dv rs).length = rs.length
  | [] => rfl
  | r :: rs => by simp [repR, repR_length id dv rs]
theorem repR_all (id : Nat) (dv : DV) (sz : Nat) : ∀ (rs : List (List SV)), (∀ r ∈ rs, r.length = sz) → ∀ r ∈ repR id dv rs, r.length = sz
  | [], _, r, hr => by simp [repR] at hr
  | q :: rs, h, r, hr => by
    simp only [repR, List.mem_cons] at hr
    rcases hr with rfl | hr
    · rw [repL_length]; exact h q (by simp)
    · exact repR_all id dv sz rs (fun r hr => h r (by simp [hr])) r hr

section
variable {w w' : World} {M M' : Nat → Prop} {κ : Nat → Value} {id : Nat} {dv : DV} {v : Value}
mutual
theorem repV_rep (h : Ext w M w' M') (hd : Rep w' M' dv (κ id)) : ∀ (x : SV) (u : Value), RepS w M κ x u → RepS w' M' (upd κ id v) (repV id dv x) u
  | .d x, u, hr => by simp only [RepS, repV] at *; exact hr.ext h
  | .nils, u, hr => by simp only [RepS, repV] at *; exact hr
  | .lit sz n cs, u, hr => by
    simp only [RepS, repV] at *
    obtain ⟨b, vs, h1, h2, h3, h4, h5, h6, h7⟩ := hr
    exact ⟨b, vs, h1, (h.keep b h3 h2).2, Nat.lt_of_lt_of_le h3 h.size, h4, h5, fun j v hj => by rw [h.cell h3 h2]; exact h6 j v hj, repL_rep h hd cs vs h7⟩
  | .agg cs, u, hr => by
    simp only [RepS, repV] at *
    obtain ⟨vs, h1, h2, h3⟩ := hr
    exact ⟨vs, h1, h2, repL_rep h hd cs vs h3⟩
  | .tup cs, u, hr => by
    simp only [RepS, repV] at *
    obtain ⟨vs, h1, h3⟩ := hr
    exact ⟨vs, h1, repL_rep h hd cs vs h3⟩
  | .ref i off, u, hr => by
    simp only [repV]
    split
    · simp [RepS, Rep]
    · rename_i hne
      simp only [RepS] at *
      rw [upd_ne _ _ _ _ hne]; exact hr
  | .vec i, u, hr => by
    simp only [repV]
    split
    · rename_i he
      subst he
      simp only [RepS] at *; subst hr; exact hd
    · rename_i hne
      simp only [RepS] at *
      rw [upd_ne _ _ _ _ hne]; exact hr
  | .vref i sz k off, u, hr => by
    simp only [repV]
    split
    · simp [RepS, Rep]
    · rename_i hne
      simp only [RepS] at *
      rw [upd_ne _ _ _ _ hne]; exact hr
  | .mp i, u, hr => by
    simp only [repV]
    split
    · simp [RepS, Rep]
    · rename_i hne
      simp only [RepS] at *
      rw [upd_ne _ _ _ _ hne]; exact hr
  | .own _ _, u, hr => by simp only [RepS] at hr
theorem repL_rep (h : Ext w M w' M') (hd : Rep w' M' dv (κ id)) : ∀ (cs : List SV) (us : List Value), RepSL w M κ cs us → RepSL w' M' (upd κ id v) (repL id dv cs) us
  | [], us, hr => by simp only [RepSL, repL] at *; exact hr
  | c :: cs, us, hr => by
    simp only [RepSL, repL] at *
    obtain ⟨u, us', h1, h2, h3⟩ := hr
    exact ⟨u, us', h1, repV_rep h hd c u h2, repL_rep h hd cs us' h3⟩
end

mutual
theorem repVG (h : Ext w M w' M') (hd : Rep w' M' dv (κ id)) : ∀ (x : SV) (u : Value) (F : List Nat), (∀ b ∈ F, w'.heap[b]? = w.heap[b]?) → RepG w M κ x u F → RepG w' M' (upd κ id v) (repV id dv x) u F
  | .own m d, u, F, hk, hr => by simp only [RepG, repV] at *; exact RepO.ext h m d u F hk hr
  | .agg cs, u, F, hk, hr => by
    simp only [RepG, repV] at *
    obtain ⟨vs, h1, h2, h3⟩ := hr
    exact ⟨vs, h1, h2, repLG h hd cs vs F hk h3⟩
  | .tup cs, u, F, hk, hr => by
    simp only [RepG, repV] at *
    obtain ⟨vs, h1, h3⟩ := hr
    exact ⟨vs, h1, repLG h hd cs vs F hk h3⟩
  | .d x, u, F, hk, hr => by simp only [RepG] at hr; obtain ⟨rfl, hr⟩ := hr; exact RepG.of_S _ _ (repV_rep h hd _ _ hr)
  | .nils, u, F, hk, hr => by simp only [RepG] at hr; obtain ⟨rfl, hr⟩ := hr; exact RepG.of_S _ _ (repV_rep h hd _ _ hr)
  | .lit _ _ _, u, F, hk, hr => by simp only [RepG] at hr; obtain ⟨rfl, hr⟩ := hr; exact RepG.of_S _ _ (repV_rep h hd _ _ hr)
  | .ref _ _, u, F, hk, hr => by simp only [RepG] at hr; obtain ⟨rfl, hr⟩ := hr; exact RepG.of_S _ _ (repV_rep h hd _ _ hr)
  | .vec _, u, F, hk, hr => by simp only [RepG] at hr; obtain ⟨rfl, hr⟩ := hr; exact RepG.of_S _ _ (repV_rep h hd _ _ hr)
  | .vref _ _ _ _, u, F, hk, hr => by simp only [RepG] at hr; obtain ⟨rfl, hr⟩ := hr; exact RepG.of_S _ _ (repV_rep h hd _ _ hr)
  | .mp _, u, F, hk, hr => by simp only [RepG] at hr; obtain ⟨rfl, hr⟩ := hr; exact RepG.of_S _ _ (repV_rep h hd _ _ hr)
theorem repLG (h : Ext w M w' M') (hd : Rep w' M' dv (κ id)) : ∀ (cs : List SV) (us : List Value) (F : List Nat), (∀ b ∈ F, w'.heap[b]? = w.heap[b]?) → RepGL w M κ cs us F → RepGL w' M' (upd κ id v) (repL id dv cs) us F
  | [], us, F, hk, hr => by simp only [RepGL, repL] at *; exact hr
  | c :: cs, us, F, hk, hr => by
    simp only [RepGL, repL] at *
    obtain ⟨u, us', F1, F2, h1, rfl, h2, h3⟩ := hr
    exact ⟨u, us', F1, F2, h1, rfl, repVG h hd c u F1 (fun b hb => hk b (by simp [hb])) h2, repLG h hd cs us' F2 (fun b hb => hk b (by simp [hb])) h3⟩
end

theorem repK_rep (h : Ext w M w' M') (hd : Rep w' M' dv (κ id)) {kk : KK} : ∀ (kv : List (DV × SV)) (es : List MapEntry) (F : List Nat), (∀ b ∈ F, w'.heap[b]? = w.heap[b]?) → RepMap w M κ kk kv es F → RepMap w' M' (upd κ id v) kk (repK id dv kv) es F
  | [], es, F, hk, hr => by simp only [RepMap, repK] at *; exact hr
  | (k, c) :: kv, es, F, hk, hr => by
    simp only [RepMap, repK] at *
    obtain ⟨e, rest, F1, F2, h1, rfl, h2, h3, h4, h5⟩ := hr
    exact ⟨e, rest, F1, F2, h1, rfl, h2, h3, repVG h hd c _ F1 (fun b hb => hk b (by simp [hb])) h4, repK_rep h hd kv rest F2 (fun b hb => hk b (by simp [hb])) h5⟩

theorem repC_rep (h : Ext w M w' M') (hd : Rep w' M' dv (κ id)) {j : Nat} (hj : j ≠ id) {c : Ch} {F : List Nat} (hk : ∀ b ∈ F, w'.heap[b]? = w.heap[b]?) (hc : RepC w M κ j c F) : RepC w' M' (upd κ id v) j (repC id dv c) F := by
  have hkj : upd κ id v j = κ j := upd_ne _ _ _ _ hj
  cases c with
  | dead => exact hc
  | box cs =>
    obtain ⟨b, T, vs, G, h1, h2, h3, h4, rfl⟩ := hc
    exact ⟨b, T, vs, G, by rw [hkj]; exact h1, by rw [hk b (by simp)]; exact h2, h3, repLG h hd cs vs G (fun b hb => hk b (by simp [hb])) h4, rfl⟩
  | vec e sz rows =>
    obtain ⟨xs, G, h1, h2, h3, h4, rfl⟩ := hc
    refine ⟨xs, G, by rw [hkj, repR_length]; exact ownsRow_ext (fun b hb => hk b (by simp [hb])) h1, h2, repR_all id dv sz rows h3, ?_, by rw [hkj]⟩
    rw [repR_flatten]
    exact repLG h hd _ xs G (fun b hb => hk b (by simp [hb])) h4
  | map kk kv =>
    obtain ⟨r, es, clock, G, h1, h2, hB, h3, rfl⟩ := hc
    exact ⟨r, es, clock, G, by rw [hkj]; exact h1, by rw [hk r (by simp)]; exact h2, hB, repK_rep h hd kv es G (fun b hb => hk b (by simp [hb])) h3, rfl⟩
  | bld T e bs => show BldAt w' T e bs (upd κ id v j) F; rw [hkj]; exact BldAt.ext hk hc
end

section
variable {P : Program} {c : Cx} {σ : St} {κ : Nat → Value} {φ : Nat → List Nat} {a : Act} {w : World}

/-- What is kept when chunk id becomes another: the readings of all that is not owned. -/
theorem swap_ext (hr : Ref c σ κ φ a w) {id : Nat} {F' : List Nat} {w' : World} (hsize : w.heap.size ≤ w'.heap.size)
    (hkeep : ∀ b, b < w.heap.size → b ∉ φ id → w'.heap[b]? = w.heap[b]?) (hF : ∀ b ∈ F', (w.heap.size ≤ b ∨ b ∈ φ id) ∧ b < w'.heap.size) :
    Ext w (own c φ) w' (own c (upd φ id F')) := by
  refine ⟨hsize, fun b hb hm => ⟨hkeep b hb fun h1 => hm (.inr ⟨id, h1⟩), ?_⟩⟩
  rintro (h0 | ⟨j, hj⟩)
  · exact hm (.inl h0)
  · by_cases hji : j = id
    · subst hji
      rw [upd_same] at hj
      rcases (hF b hj).1 with h1 | h1
      · omega
      · exact hm (.inr ⟨j, h1⟩)
    · rw [upd_ne _ _ _ _ hji] at hj
      exact hm (.inr ⟨j, hj⟩)

theorem Ref.swap (hr : Ref c σ κ φ a w) {id : Nat} {v : Value} {dv : DV} {ch : Ch} {F' : List Nat} {w' : World} (hone : v.oneCell' = true)
    (hos : w'.os = w.os) (htape : w'.tape = w.tape) (hout : w'.output = w.output) (hsize : w.heap.size ≤ w'.heap.size)
    (hkeep : ∀ b, b < w.heap.size → b ∉ φ id → w'.heap[b]? = w.heap[b]?)
    (hF : ∀ b ∈ F', (w.heap.size ≤ b ∨ b ∈ φ id) ∧ b < w'.heap.size) (hnod : F'.Nodup)
    (hd : Rep w' (own c (upd φ id F')) dv (κ id))
    (hc : RepC w' (own c (upd φ id F')) (upd κ id v) id ch F') : Ref c (σ.swap id dv ch) (upd κ id v) (upd φ id F') a w' := by
  have hext := swap_ext hr hsize hkeep hF
  refine ⟨hr.chg.trans ⟨hos, htape, hout, hsize, fun b hb hA => hkeep b (Nat.lt_of_lt_of_le hb hr.size) fun hbi => ?_⟩, Nat.le_trans hr.size hsize, hr.m0, hr.ntmps, hr.defers, fun j => ?_, fun i hi => repV_rep hext hd _ _ (hr.slots i hi), fun i v hv => repV_rep hext hd _ _ (hr.ghost i v hv), fun j => ?_, fun j b hb => ?_, fun j => ?_, ?_⟩
  · rcases (hr.mine id b hbi).2 with h | h
    · omega
    · exact hA h
  · by_cases hji : j = id
    · subst hji; rw [upd_same]; exact hone
    · rw [upd_ne _ _ _ _ hji]; exact hr.kok j
  · by_cases hji : j = id
    · subst hji
      rw [show (σ.swap j dv ch).h j = ch by simp [St.swap, upd_same], upd_same]; exact hc
    · rw [show (σ.swap id dv ch).h j = repC id dv (σ.h j) by simp [St.swap, upd_ne _ _ _ _ hji, repH], upd_ne _ _ _ _ hji]
      exact repC_rep hext hd hji (fun b hb => hkeep b (hr.mine j b hb).1 fun hb' => hr.sep j id b hji hb hb') (hr.chunks j)
  · by_cases hji : j = id
    · subst hji
      rw [upd_same] at hb
      refine ⟨(hF b hb).2, ?_⟩
      rcases (hF b hb).1 with h | h
      · exact .inl (Nat.le_trans hr.size h)
      · exact (hr.mine j b h).2
    · rw [upd_ne _ _ _ _ hji] at hb
      exact ⟨Nat.lt_of_lt_of_le (hr.mine j b hb).1 hsize, (hr.mine j b hb).2⟩
  · by_cases hji : j = id
    · subst hji; rw [upd_same]; exact hnod
    · rw [upd_ne _ _ _ _ hji]; exact hr.nod j
  · have key : ∀ j b, j ≠ id → b ∈ F' → b ∈ φ j → False := fun j b hj h1 h2 => by
      rcases (hF b h1).1 with h | h
      · have := (hr.mine j b h2).1; omega
      · exact hr.sep j id b hj h2 h
    intro i j b hij hi hj
    by_cases hii : i = id
    · subst hii
      rw [upd_same] at hi; rw [upd_ne _ _ _ _ (Ne.symm hij)] at hj
      exact key j b (Ne.symm hij) hi hj
    · rw [upd_ne _ _ _ _ hii] at hi
      by_cases hjj : j = id
      · subst hjj; rw [upd_same] at hj; exact key i b hii hj hi
      · rw [upd_ne _ _ _ _ hjj] at hj; exact hr.sep i j b hij hi hj

/-- A chunk is written in place. -/
theorem Ref.modify (hr : Ref c σ κ φ a w) {id : Nat} {ch : Ch} {F' : List Nat} {w' : World}
    (hos : w'.os = w.os) (htape : w'.tape = w.tape) (hout : w'.output = w.output) (hsize : w'.heap.size = w.heap.size)
    (hkeep : ∀ b, b ∉ φ id → w'.heap[b]? = w.heap[b]?) (hF : F'.Sublist (φ id))
    (hc : Ext w (own c φ) w' (own c (upd φ id F')) → RepC w' (own c (upd φ id F')) κ id ch F') : Ref c ⟨σ.s, upd σ.h id ch⟩ κ (upd φ id F') a w' := by
  have hF' : ∀ b ∈ F', (w.heap.size ≤ b ∨ b ∈ φ id) ∧ b < w'.heap.size := fun b hb => ⟨.inr (hF.subset hb), by rw [hsize]; exact (hr.mine id b (hF.subset hb)).1⟩
  have hext := swap_ext hr (by omega) (fun b _ hb => hkeep b hb) hF'
  refine ⟨hr.chg.trans ⟨hos, htape, hout, by omega, fun b hb hA => hkeep b fun hbi => ?_⟩, by have := hr.size; omega, hr.m0, hr.ntmps, hr.defers, hr.kok, fun i hi => RepS.ext hext _ _ (hr.slots i hi), fun i v hv => RepS.ext hext _ _ (hr.ghost i v hv), fun j => ?_, fun j b hb => ?_, fun j => ?_, ?_⟩
  · rcases (hr.mine id b hbi).2 with h | h
    · omega
    · exact hA h
  · by_cases hji : j = id
    · subst hji; dsimp only; rw [upd_same, upd_same]; exact hc hext
    · dsimp only; rw [upd_ne _ _ _ _ hji, upd_ne _ _ _ _ hji]
      exact (hr.chunks j).ext hext fun b hb => hkeep b fun hb' => hr.sep j id b hji hb hb'
  · by_cases hji : j = id
    · subst hji; rw [upd_same] at hb; exact ⟨(hF' b hb).2, (hr.mine j b (hF.subset hb)).2⟩
    · rw [upd_ne _ _ _ _ hji] at hb; rw [hsize]; exact hr.mine j b hb
  · by_cases hji : j = id
    · subst hji; rw [upd_same]; exact (hr.nod j).sublist hF
    · rw [upd_ne _ _ _ _ hji]; exact hr.nod j
  · have sub : ∀ i b, b ∈ upd φ id F' i → b ∈ φ i := fun i b hb => by
      by_cases hii : i = id
      · subst hii; rw [upd_same] at hb; exact hF.subset hb
      · rwa [upd_ne _ _ _ _ hii] at hb
    exact fun i j b hij hi hj => hr.sep i j b hij (sub i b hi) (sub j b hj)

/-- Two chunks share out what they own anew; the memory stays as it is. -/
theorem Ref.two (hr : Ref c σ κ φ a w) {id id' : Nat} {u : Value} {dv : DV} {ch ch' : Ch} {G G' : List Nat} (hne : id ≠ id') (hone : u.oneCell' = true)
    (hG : ∀ b ∈ G, b ∈ φ id ∨ b ∈ φ id') (hG' : ∀ b ∈ G', b ∈ φ id ∨ b ∈ φ id') (hn : G.Nodup) (hn' : G'.Nodup) (hdis : ∀ b ∈ G, b ∉ G')
    (hd : Rep w (own c (upd (upd φ id G) id' G')) dv (κ id'))
    (hc : Ext w (own c φ) w (own c (upd (upd φ id G) id' G')) → RepC w (own c (upd (upd φ id G) id' G')) (upd κ id' u) id ch G)
    (hc' : Ext w (own c φ) w (own c (upd (upd φ id G) id' G')) → RepC w (own c (upd (upd φ id G) id' G')) (upd κ id' u) id' ch' G') :
    Ref c ⟨repS id' dv σ.s, upd (upd (repH id' dv σ.h) id ch) id' ch'⟩ (upd κ id' u) (upd (upd φ id G) id' G') a w := by
  have sub : ∀ i b, b ∈ upd (upd φ id G) id' G' i → ∃ k, b ∈ φ k ∧ (k = i ∨ ((k = id ∨ k = id') ∧ (i = id ∨ i = id'))) := fun i b hb => by
    by_cases hi' : i = id'
    · subst hi'; rw [upd_same] at hb
      rcases hG' b hb with h | h
      · exact ⟨id, h, .inr ⟨.inl rfl, .inr rfl⟩⟩
      · exact ⟨i, h, .inl rfl⟩
    · rw [upd_ne _ _ _ _ hi'] at hb
      by_cases hi : i = id
      · subst hi; rw [upd_same] at hb
        rcases hG b hb with h | h
        · exact ⟨i, h, .inl rfl⟩
        · exact ⟨id', h, .inr ⟨.inr rfl, .inl rfl⟩⟩
      · rw [upd_ne _ _ _ _ hi] at hb; exact ⟨i, hb, .inl rfl⟩
  have hext : Ext w (own c φ) w (own c (upd (upd φ id G) id' G')) := Ext.shrink fun b hb => by
    rcases hb with h | ⟨i, h⟩
    · exact .inl h
    · obtain ⟨k, hk, _⟩ := sub i b h; exact .inr ⟨k, hk⟩
  refine ⟨hr.chg, hr.size, hr.m0, hr.ntmps, hr.defers, fun j => ?_, fun i hi => repV_rep hext hd _ _ (hr.slots i hi), fun i v hv => repV_rep hext hd _ _ (hr.ghost i v hv), fun j => ?_, fun j b hb => ?_, fun j => ?_, ?_⟩
  · by_cases hj : j = id'
    · subst hj; rw [upd_same]; exact hone
    · rw [upd_ne _ _ _ _ hj]; exact hr.kok j
  · by_cases hj' : j = id'
    · subst hj'; simp only [upd_same]; exact hc' hext
    · dsimp only; rw [upd_ne _ _ _ _ hj', upd_ne _ _ _ _ hj']
      by_cases hj : j = id
      · subst hj; rw [upd_same, upd_same]; exact hc hext
      · rw [upd_ne _ _ _ _ hj, upd_ne _ _ _ _ hj]
        exact repC_rep hext hd hj' (fun _ _ => rfl) (hr.chunks j)
  · obtain ⟨k, hk, _⟩ := sub j b hb; exact hr.mine k b hk
  · by_cases hj' : j = id'
    · subst hj'; rw [upd_same]; exact hn'
    · rw [upd_ne _ _ _ _ hj']
      by_cases hj : j = id
      · subst hj; rw [upd_same]; exact hn
      · rw [upd_ne _ _ _ _ hj]; exact hr.nod j
  · intro i j b hij hi hj
    obtain ⟨k, hk, h1⟩ := sub i b hi
    obtain ⟨l, hl, h2⟩ := sub j b hj
    have hkl : k = l := Classical.byContradiction fun hkl => hr.sep k l b hkl hk hl
    subst hkl
    have both : (i = id ∨ i = id') ∧ (j = id ∨ j = id') := by
      rcases h1 with rfl | ⟨h1, h1'⟩
      · rcases h2 with rfl | ⟨h2, h2'⟩
        · exact absurd rfl hij
        · exact ⟨h2, h2'⟩
      · rcases h2 with rfl | ⟨h2, h2'⟩
        · exact ⟨h1', h1⟩
        · exact ⟨h1', h2'⟩
    rcases both with ⟨rfl | rfl, rfl | rfl⟩
    · exact hij rfl
    · rw [upd_ne _ _ _ _ hij, upd_same] at hi; rw [upd_same] at hj; exact hdis b hi hj
    · rw [upd_same] at hi; rw [upd_ne _ _ _ _ (Ne.symm hij), upd_same] at hj; exact hdis b hj hi
    · exact hij rfl

mutual
def Mask.plain : Mask → Bool
  | .sh => true
  | .sl _ ms => Mask.plains ms
  | .pt ms => Mask.plains ms
  | .mp _ _ => false
  | .bld _ _ => false
def Mask.plains : List Mask → Bool
  | [] => true
  | m :: ms => Mask.plain m && Mask.plains ms
end

theorem rep_of_row {M : Nat → Prop} {e sz : Nat} {v : Value} {rows : List (List DV)} {xs : List Value} (ho : w.ownsRow 0 e sz v rows.length xs) (hone : ∀ x ∈ xs, x.oneCell' = true) (hall : ∀ r ∈ rows, r.length = sz) (hl : RepL w M rows.flatten xs) (hM : ∀ b ∈ blkL v, ¬ M b) : Rep w M (.slice rows) v := by
  unfold Rep
  rcases ho.2 with ⟨hk, hn⟩ | ⟨g, cap, cur, hk, hB, hg, hcap, _, hcur, htake⟩
  · have : rows = [] := List.length_eq_zero_iff.1 hn
    subst this
    exact ⟨none, 0, hk, Nat.le_refl _, fun _ => rfl, .inl rfl⟩
  · refine ⟨some ⟨g, 0, none⟩, cap, hk, hcap, by simp, .inr ⟨g, 0, sz, rfl, hM g (by simp [blkL, hk, blk]), (Array.getElem?_eq_some_iff.1 hg).1, ?_⟩⟩
    rw [RepRows.iff]
    refine ⟨hall, RepAt.of_row hg hl hone fun j v hj => ?_⟩
    rw [← htake, List.getElem?_take] at hj
    split at hj
    · simpa using hj
    · cases hj

theorem CellsBy.flat {R : List DV → List Value → List Nat → Prop} {M : Nat → Prop} {G0 : List Nat} : ∀ {rows : List (List DV)} {xs : List Value} {G : List Nat}, (∀ b ∈ G, b ∈ G0) → (∀ r ys G', (∀ b ∈ G', b ∈ G0) → R r ys G' → RepL w M r ys) → CellsBy R rows xs G → RepL w M rows.flatten xs
  | [], xs, G, _, _, h => by obtain ⟨rfl, _⟩ := h; simp [RepL]
  | r :: rs, xs, G, hG, hR, h => by
    obtain ⟨ys, zs, G1, G2, rfl, rfl, h3, h4⟩ := h
    rw [List.flatten_cons]
    exact (hR r ys G1 (fun b hb => hG b (by simp [hb])) h3).append (CellsBy.flat (fun b hb => hG b (by simp [hb])) hR h4)

mutual
/-- What was owned is data. -/
theorem RepO.frz {M M' : Nat → Prop} (hM : ∀ b, M' b → M b) : ∀ (m : Mask) (d : DV) (v : Value) (F : List Nat), m.plain = true → (∀ b ∈ F, ¬ M' b) → RepO w M m d v F → Rep w M' d v
  | .sh, d, v, F, _, hF, hr => by unfold RepO at hr; exact hr.2.ext (Ext.shrink hM)
  | .sl e ms, d, v, F, hp, hF, hr => by
    unfold RepO at hr
    obtain ⟨rows, xs, G, rfl, ho, h1, h2, h3, rfl⟩ := hr
    refine rep_of_row ho h1 h2 ?_ (fun b hb => hF b (by simp [hb]))
    exact h3.flat (G0 := G) (fun b hb => hb) fun r ys G' hG hr => RepOL.frz hM ms r ys G' (by simpa [Mask.plain] using hp) (fun b hb => hF b (by simp [hG b hb])) hr
  | .pt ms, d, v, F, hp, hF, hr => by
    unfold RepO at hr
    obtain ⟨cs, b, T, vs, G, rfl, rfl, hh, h1, h2, rfl⟩ := hr
    have hl := RepOL.frz hM ms cs vs G (by simpa [Mask.plain] using hp) (fun b hb => hF b (by simp [hb])) h2
    unfold Rep
    exact ⟨b, 0, rfl, hF b (by simp), (Array.getElem?_eq_some_iff.1 hh).1, RepAt.of_row hh hl h1 (by simp)⟩
  | .mp _ _, d, v, F, hp, _, _ => by simp [Mask.plain] at hp
  | .bld _ _, d, v, F, hp, _, _ => by simp [Mask.plain] at hp
theorem RepOL.frz {M M' : Nat → Prop} (hM : ∀ b, M' b → M b) : ∀ (ms : List Mask) (ds : List DV) (vs : List Value) (F : List Nat), Mask.plains ms = true → (∀ b ∈ F, ¬ M' b) → RepOL w M ms ds vs F → RepL w M' ds vs
  | [], ds, vs, F, _, _, hr => by unfold RepOL at hr; obtain ⟨rfl, rfl, _⟩ := hr; unfold RepL; rfl
  | m :: ms, ds, vs, F, hp, hF, hr => by
    unfold RepOL at hr
    obtain ⟨d, ds', v, vs', F1, F2, rfl, rfl, rfl, h3, h4⟩ := hr
    simp only [Mask.plains, Bool.and_eq_true] at hp
    unfold RepL
    exact ⟨v, vs', rfl, RepO.frz hM m d v F1 hp.1 (fun b hb => hF b (by simp [hb])) h3, RepOL.frz hM ms ds' vs' F2 hp.2 (fun b hb => hF b (by simp [hb])) h4⟩
end

/-- A cell as data. -/
def SV.frz : SV → Option DV
  | .own m v => if m.plain then some v else none
  | .d v => some v
  | .nils => some (.slice [])
  | .lit sz n cs => SV.toDV (.lit sz n cs)
  | _ => none
def SV.frzs : List SV → Option (List DV)
  | [] => some []
  | c :: cs => match SV.frz c, SV.frzs cs with | some x, some xs => some (x :: xs) | _, _ => none
def SV.frzR : List (List SV) → Option (List (List DV))
  | [] => some []
  | r :: rs => match SV.frzs r, SV.frzR rs with | some x, some xs => some (x :: xs) | _, _ => none

theorem frz_rep {M M' : Nat → Prop} (hM : ∀ b, M' b → M b) {x : SV} {u : Value} {F : List Nat} {d : DV} (hF : ∀ b ∈ F, ¬ M' b) (hr : RepG w M κ x u F) (h : x.frz = some d) : Rep w M' d u := by
  cases x with
  | own m d' =>
    simp only [SV.frz] at h
    split at h
    · rename_i hp
      simp only [Option.some.injEq] at h; subst h
      simp only [RepG] at hr
      exact hr.frz hM m _ u F hp hF
    · cases h
  | d v => exact (RepS.toDV (.d v) _ _ (by simp only [RepG] at hr; exact hr.2) (by simpa only [SV.frz, SV.toDV] using h)).ext (Ext.shrink hM)
  | nils => exact (RepS.toDV .nils _ _ (by simp only [RepG] at hr; exact hr.2) (by simpa only [SV.frz, SV.toDV] using h)).ext (Ext.shrink hM)
  | lit sz n cs => exact (RepS.toDV (.lit sz n cs) _ _ (by simp only [RepG] at hr; exact hr.2) (by simpa only [SV.frz] using h)).ext (Ext.shrink hM)
  | _ => simp [SV.frz] at h

theorem frzs_rep {M M' : Nat → Prop} (hM : ∀ b, M' b → M b) : ∀ {cs : List SV} {us : List Value} {F : List Nat} {ds : List DV}, (∀ b ∈ F, ¬ M' b) → RepGL w M κ cs us F → SV.frzs cs = some ds → RepL w M' ds us
  | [], us, F, ds, hF, hr, h => by
    simp only [SV.frzs, Option.some.injEq] at h; subst h
    simp only [RepGL] at hr; unfold RepL; exact hr.1
  | c :: cs, us, F, ds, hF, hr, h => by
    simp only [SV.frzs] at h
    split at h
    · rename_i x xs hx hxs
      simp only [Option.some.injEq] at h; subst h
      simp only [RepGL] at hr
      obtain ⟨u, us', F1, F2, rfl, rfl, h1, h2⟩ := hr
      unfold RepL
      exact ⟨u, us', rfl, frz_rep hM (fun b hb => hF b (by simp [hb])) h1 hx, frzs_rep hM (fun b hb => hF b (by simp [hb])) h2 hxs⟩
    · cases h

theorem frzs_append : ∀ (xs ys : List SV), SV.frzs (xs ++ ys) = match SV.frzs xs, SV.frzs ys with | some a, some b => some (a ++ b) | _, _ => none
  | [], ys => by simp only [List.nil_append, SV.frzs]; cases SV.frzs ys <;> rfl
  | x :: xs, ys => by
    simp only [List.cons_append, SV.frzs, frzs_append xs ys]
    cases SV.frz x <;> cases SV.frzs xs <;> cases SV.frzs ys <;> rfl
theorem frzs_length : ∀ {xs : List SV} {ds : List DV}, SV.frzs xs = some ds → ds.length = xs.length
  | [], ds, h => by simp only [SV.frzs, Option.some.injEq] at h; subst h; rfl
  | x :: xs, ds, h => by
    simp only [SV.frzs] at h
    split at h
    · rename_i y ys hy hys
      simp only [Option.some.injEq] at h; subst h
      simp [frzs_length hys]
    · cases h
theorem frzR_spec : ∀ {rows : List (List SV)} {ds : List (List DV)}, SV.frzR rows = some ds → SV.frzs rows.flatten = some ds.flatten ∧ ds.length = rows.length ∧ ∀ sz, (∀ r ∈ rows, r.length = sz) → ∀ r ∈ ds, r.length = sz
  | [], ds, h => by simp only [SV.frzR, Option.some.injEq] at h; subst h; simp [SV.frzs]
  | r :: rows, ds, h => by
    simp only [SV.frzR] at h
    split at h
    · rename_i x xs hx hxs
      simp only [Option.some.injEq] at h; subst h
      obtain ⟨h1, h2, h3⟩ := frzR_spec hxs
      refine ⟨by simp only [List.flatten_cons, frzs_append, hx, h1], by simp [h2], fun sz hall q hq => ?_⟩
      simp only [List.mem_cons] at hq
      rcases hq with rfl | hq
      · rw [frzs_length hx]; exact hall r (by simp)
      · exact h3 sz (fun r hr => hall r (by simp [hr])) q hq
    · cases h

/-- A chunk's slice as data, where its blocks are no longer owned. -/
theorem vec_frz {M M' : Nat → Prop} (hM : ∀ b, M' b → M b) {id e sz : Nat} {rows : List (List SV)} {F : List Nat} {ds : List (List DV)} (hF : ∀ b ∈ F, ¬ M' b) (hr : RepC w M κ id (.vec e sz rows) F) (h : SV.frzR rows = some ds) : Rep w M' (.slice ds) (κ id) := by
  obtain ⟨xs, G, h1, h2, h3, h4, rfl⟩ := hr
  obtain ⟨k1, k2, k3⟩ := frzR_spec h
  exact rep_of_row (by rw [k2]; exact h1) h2 (k3 sz h3) (frzs_rep hM (fun b hb => hF b (by simp [hb])) h4 k1) (fun b hb => hF b (by simp [hb]))

/-- A slice that is done becomes data. -/
theorem Ref.freeze (hr : Ref c σ κ φ a w) {id e sz : Nat} {rows : List (List SV)} {ds : List (List DV)} (hv : σ.h id = .vec e sz rows) (hf : SV.frzR rows = some ds) : Ref c (σ.swap id (.slice ds) .dead) (upd κ id (.pointer none)) (upd φ id []) a w := by
  refine hr.swap rfl rfl rfl rfl (Nat.le_refl _) (fun _ _ _ => rfl) (by simp) (by simp) ?_ rfl
  have hch := hr.chunks id
  rw [hv] at hch
  refine vec_frz (M := own c φ) (fun b hb => ?_) (fun b hb => ?_) hch hf
  · rcases hb with h | ⟨j, h⟩
    · exact .inl h
    · by_cases hji : j = id
      · subst hji; rw [upd_same] at h; simp at h
      · rw [upd_ne _ _ _ _ hji] at h; exact .inr ⟨j, h⟩
  · rintro (h | ⟨j, h⟩)
    · have h1 := hr.m0 b h
      have h2 := (hr.mine id b hb).2
      rcases h2 with h2 | h2
      · omega
      · exact h1.2 h2
    · by_cases hji : j = id
      · subst hji; rw [upd_same] at h; simp at h
      · rw [upd_ne _ _ _ _ hji] at h; exact hr.sep j id b hji h hb

/-- A chunk is given up. -/
theorem Ref.drop (hr : Ref c σ κ φ a w) (id : Nat) : Ref c ⟨σ.s, upd σ.h id .dead⟩ κ (upd φ id []) a w :=
  hr.modify rfl rfl rfl rfl (fun _ _ => rfl) (List.nil_sublist _) (fun _ => rfl)

/-- A nil slice is one that can grow. -/
theorem Ref.vecnil (hr : Ref c σ κ φ a w) {id e sz slot : Nat} (hs : σ.s slot = .nils) : Ref c { σ.swap id .any (.vec e sz []) with s := upd (repS id .any σ.s) slot (.vec id) } (upd κ id (.slice none 0 0)) (upd φ id []) a w := by
  have h1 : Ref c (σ.swap id .any (.vec e sz [])) (upd κ id (.slice none 0 0)) (upd φ id []) a w := by
    refine hr.swap rfl rfl rfl rfl (Nat.le_refl _) (fun _ _ _ => rfl) (by simp) (by simp) (by unfold Rep; trivial) ?_
    simp only [RepC]
    exact ⟨[], [], by rw [upd_same]; exact World.ownsRow_nil w 0 e sz, by simp, by simp, by simp [RepGL], by rw [upd_same]; rfl⟩
  have key : ∀ i v, RepS w (own c φ) κ (σ.s i) v → RepS w (own c (upd φ id [])) (upd κ id (.slice none 0 0)) ((σ.swap id .any (.vec e sz [])).s i) v → RepS w (own c (upd φ id [])) (upd κ id (.slice none 0 0)) (upd (repS id .any σ.s) slot (.vec id) i) v := fun i v h0 hv => by
    by_cases hi' : i = slot
    · subst hi'
      rw [hs] at h0
      simp only [RepS] at h0
      simp only [upd_same, RepS]
      exact h0
    · simp only [upd_ne _ _ _ _ hi']
      exact hv
  exact ⟨h1.chg, h1.size, h1.m0, h1.ntmps, h1.defers, h1.kok, fun i hi => key i _ (hr.slots i hi) (h1.slots i hi), fun i v hv => key _ v (hr.ghost i v hv) (h1.ghost i v hv), h1.chunks, h1.mine, h1.nod, h1.sep⟩
end

end Go.Proofs.YtcnohbiegjahkaaGreatDoor

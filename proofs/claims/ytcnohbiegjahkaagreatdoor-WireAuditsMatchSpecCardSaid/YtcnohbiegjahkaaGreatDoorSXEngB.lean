/-
  The engine, part B: the abstract state of a running function (slots and chunks), and what it says of the model's state.
-/
import Derived.Test.YtcnohbiegjahkaaGreatDoorSXEngA
namespace Go.Proofs.YtcnohbiegjahkaaGreatDoor
set_option linter.unusedSimpArgs false
set_option linter.unusedVariables false
open Go.RowKit

/-- What a slot holds: data, or something that the running function owns. -/
inductive SV where
  | d (v : DV)
  | nils
  | lit (sz n : Nat) (cs : List SV)
  | agg (cs : List SV)
  | tup (cs : List SV)
  | ref (id off : Nat)
  | vec (id : Nat)
  | vref (id sz i off : Nat)
  | mp (id : Nat)
  | own (m : Mask) (v : DV)

/-- n rows of sz cells. -/
def chunkR {α : Type} (sz : Nat) : Nat → List α → List (List α)
  | 0, _ => []
  | n + 1, l => l.take sz :: chunkR sz n (l.drop sz)

theorem chunkR_length {α : Type} (sz : Nat) : ∀ (n : Nat) (l : List α), (chunkR sz n l).length = n
  | 0, _ => rfl
  | n + 1, l => by simp [chunkR, chunkR_length sz n]
theorem chunkR_flatten {α : Type} (sz : Nat) : ∀ (n : Nat) (l : List α), l.length = n * sz → (chunkR sz n l).flatten = l
  | 0, l, h => by simp at h; subst h; rfl
  | n + 1, l, h => by
    rw [Nat.add_mul] at h
    simp only [chunkR, List.flatten_cons]
    rw [chunkR_flatten sz n _ (by simp; omega), List.take_append_drop]
theorem chunkR_all {α : Type} (sz : Nat) : ∀ (n : Nat) (l : List α), l.length = n * sz → ∀ r ∈ chunkR sz n l, r.length = sz
  | 0, l, _, r, hr => by simp [chunkR] at hr
  | n + 1, l, h, r, hr => by
    rw [Nat.add_mul] at h
    simp only [chunkR, List.mem_cons] at hr
    rcases hr with rfl | hr
    · simp; omega
    · exact chunkR_all sz n _ (by simp; omega) r hr

mutual
def SV.toDV : SV → Option DV
  | .d v => some v
  | .nils => some (.slice [])
  | .lit sz n cs => match SV.toDVs cs with | some xs => some (.slice (chunkR sz n xs)) | none => none
  | .agg cs => match SV.toDVs cs with | some xs => some (.agg xs) | none => none
  | .tup cs => match SV.toDVs cs with | some xs => some (.tup xs) | none => none
  | .ref _ _ => none
  | .vec _ => none
  | .vref _ _ _ _ => none
  | .mp _ => none
  | .own _ _ => none
def SV.toDVs : List SV → Option (List DV)
  | [] => some []
  | c :: cs => match SV.toDV c, SV.toDVs cs with | some x, some xs => some (x :: xs) | _, _ => none
end

/-- What the running function owns: a variable in memory, a slice with all of its array, a map (a list of entries, each key once). -/
inductive Ch where
  | dead
  | box (cells : List SV)
  | vec (e sz : Nat) (rows : List (List SV))
  | map (kk : KK) (kv : List (DV × SV))
  | bld (T e : Nat) (bs : List UInt8)

structure St where
  s : Nat → SV
  h : Nat → Ch

def upd {α : Type} (f : Nat → α) (i : Nat) (v : α) : Nat → α := fun j => if j = i then v else f j
theorem upd_same {α : Type} (f : Nat → α) (i : Nat) (v : α) : upd f i v i = v := by simp [upd]
theorem upd_ne {α : Type} (f : Nat → α) (i j : Nat) (v : α) (h : j ≠ i) : upd f i v j = f j := by simp [upd, h]

mutual
def RepS (w : World) (M : Nat → Prop) (κ : Nat → Value) : SV → Value → Prop
  | .d v, u => Rep w M v u
  | .nils, u => u = .slice none 0 0
  | .lit sz n cs, u => ∃ b, ∃ vs : List Value, u = .slice (some ⟨b, 0, none⟩) n n ∧ ¬ M b ∧ b < w.heap.size ∧ vs.length = n * sz ∧ (∀ x ∈ vs, x.oneCell' = true) ∧ (∀ j v, vs[j]? = some v → w.cell? ⟨b, j, none⟩ = some v) ∧ RepSL w M κ cs vs
  | .agg cs, u => ∃ vs : List Value, u = .agg vs.toArray ∧ (∀ x ∈ vs, x.oneCell' = true) ∧ RepSL w M κ cs vs
  | .tup cs, u => ∃ vs : List Value, u = .tuple vs.toArray ∧ RepSL w M κ cs vs
  | .ref id off, u => ∃ b, κ id = .pointer (some ⟨b, 0, none⟩) ∧ u = .pointer (some ⟨b, off, none⟩)
  | .vec id, u => u = κ id
  | .vref id sz i off, u => ∃ b len cap, κ id = .slice (some ⟨b, 0, none⟩) len cap ∧ u = .pointer (some ⟨b, i * sz + off, none⟩)
  | .mp id, u => u = κ id
  | .own _ _, _ => False
def RepSL (w : World) (M : Nat → Prop) (κ : Nat → Value) : List SV → List Value → Prop
  | [], vs => vs = []
  | c :: cs, vs => ∃ u us, vs = u :: us ∧ RepS w M κ c u ∧ RepSL w M κ cs us
end

mutual
theorem RepS.ext {w w' : World} {M M' : Nat → Prop} {κ : Nat → Value} (h : Ext w M w' M') : ∀ (x : SV) (v : Value), RepS w M κ x v → RepS w' M' κ x v
  | .d x, v, hr => by unfold RepS at *; exact hr.ext h
  | .nils, v, hr => by unfold RepS at *; exact hr
  | .lit sz n cs, v, hr => by
    unfold RepS at *
    obtain ⟨b, vs, h1, h2, h3, h4, h5, h6, h7⟩ := hr
    exact ⟨b, vs, h1, (h.keep b h3 h2).2, Nat.lt_of_lt_of_le h3 h.size, h4, h5, fun j v hj => by rw [h.cell h3 h2]; exact h6 j v hj, RepSL.ext h cs vs h7⟩
  | .agg cs, v, hr => by
    unfold RepS at *
    obtain ⟨vs, hv, h1, hl⟩ := hr
    exact ⟨vs, hv, h1, RepSL.ext h cs vs hl⟩
  | .tup cs, v, hr => by
    unfold RepS at *
    obtain ⟨vs, hv, hl⟩ := hr
    exact ⟨vs, hv, RepSL.ext h cs vs hl⟩
  | .ref _ _, v, hr => by unfold RepS at *; exact hr
  | .vec _, v, hr => by unfold RepS at *; exact hr
  | .vref _ _ _ _, v, hr => by unfold RepS at *; exact hr
  | .mp _, v, hr => by unfold RepS at *; exact hr
  | .own _ _, v, hr => by unfold RepS at *; exact hr
theorem RepSL.ext {w w' : World} {M M' : Nat → Prop} {κ : Nat → Value} (h : Ext w M w' M') : ∀ (cs : List SV) (vs : List Value), RepSL w M κ cs vs → RepSL w' M' κ cs vs
  | [], vs, hr => by unfold RepSL at *; exact hr
  | c :: cs, vs, hr => by
    unfold RepSL at *
    obtain ⟨u, us, hv, h1, h2⟩ := hr
    exact ⟨u, us, hv, RepS.ext h c u h1, RepSL.ext h cs us h2⟩
end

theorem RepAt.of_cells {w : World} {M : Nat → Prop} : ∀ {cs : List DV} {vs : List Value} {b o : Nat}, RepL w M cs vs → (∀ x ∈ vs, x.oneCell' = true) → (∀ j v, vs[j]? = some v → w.cell? ⟨b, o + j, none⟩ = some v) → RepAt w M cs b o
  | [], vs, b, o, _, _, _ => by unfold RepAt; trivial
  | c :: cs, vs, b, o, h, h1, h2 => by
    unfold RepL at h
    obtain ⟨u, us, rfl, h3, h4⟩ := h
    unfold RepAt
    exact ⟨⟨u, by simpa using h2 0 u (by simp), h1 u (by simp), h3⟩, RepAt.of_cells h4 (fun x hx => h1 x (by simp [hx])) fun j v hj => by
      have := h2 (j + 1) v (by simpa using hj)
      rwa [show o + (j + 1) = o + 1 + j by omega] at this⟩
theorem RepL.len {w : World} {M : Nat → Prop} : ∀ {cs : List DV} {vs : List Value}, RepL w M cs vs → vs.length = cs.length
  | [], vs, h => by unfold RepL at h; simp [h]
  | c :: cs, vs, h => by unfold RepL at h; obtain ⟨u, us, rfl, _, h2⟩ := h; simp [RepL.len h2]
theorem RepL.cut {w : World} {M : Nat → Prop} : ∀ {cs : List DV} {vs : List Value} (n : Nat), RepL w M cs vs → RepL w M (cs.take n) (vs.take n) ∧ RepL w M (cs.drop n) (vs.drop n)
  | cs, vs, 0, h => by simpa [RepL] using h
  | [], vs, n + 1, h => by unfold RepL at h; subst h; simp [RepL]
  | c :: cs, vs, n + 1, h => by
    unfold RepL at h
    obtain ⟨u, us, rfl, h1, h2⟩ := h
    obtain ⟨h3, h4⟩ := RepL.cut n h2
    simp only [List.take_succ_cons, List.drop_succ_cons]
    refine ⟨?_, h4⟩
    unfold RepL
    exact ⟨u, _, rfl, h1, h3⟩
theorem RepRows.of_cells {w : World} {M : Nat → Prop} {sz : Nat} : ∀ {n : Nat} {xs : List DV} {vs : List Value} {b o : Nat}, RepL w M xs vs → (∀ x ∈ vs, x.oneCell' = true) → (∀ j v, vs[j]? = some v → w.cell? ⟨b, o + j, none⟩ = some v) → xs.length = n * sz → RepRows w M (chunkR sz n xs) b o sz
  | 0, xs, vs, b, o, _, _, _, _ => by unfold chunkR RepRows; trivial
  | n + 1, xs, vs, b, o, h, h1, h2, hl => by
    rw [Nat.add_mul] at hl
    obtain ⟨h3, h4⟩ := h.cut sz
    unfold chunkR RepRows
    refine ⟨by simp; omega, RepAt.of_cells h3 (fun x hx => h1 x (List.mem_of_mem_take hx)) fun j v hj => h2 j v ?_, RepRows.of_cells h4 (fun x hx => h1 x (List.mem_of_mem_drop hx)) (fun j v hj => ?_) (by simp; omega)⟩
    · rw [List.getElem?_take] at hj; split at hj
      · exact hj
      · cases hj
    · rw [List.getElem?_drop] at hj
      have := h2 _ v hj
      rwa [show o + (sz + j) = o + sz + j by omega] at this

mutual
theorem RepS.toDV {w : World} {M : Nat → Prop} {κ : Nat → Value} : ∀ (x : SV) (v : Value) (d : DV), RepS w M κ x v → x.toDV = some d → Rep w M d v
  | .d x, v, d, hr, hd => by
    simp only [SV.toDV, Option.some.injEq] at hd
    subst hd; unfold RepS at hr; exact hr
  | .nils, v, d, hr, hd => by
    simp only [SV.toDV, Option.some.injEq] at hd
    subst hd; unfold RepS at hr; subst hr; unfold Rep
    exact ⟨none, 0, rfl, Nat.le_refl _, fun _ => rfl, .inl rfl⟩
  | .lit sz n cs, v, d, hr, hd => by
    unfold SV.toDV at hd
    unfold RepS at hr
    obtain ⟨b, vs, h1, h2, h3, h4, h5, h6, h7⟩ := hr
    cases hc : SV.toDVs cs with
    | none => simp [hc] at hd
    | some xs =>
      simp only [hc, Option.some.injEq] at hd
      subst hd
      have hl := RepSL.toDVs cs vs xs h7 hc
      unfold Rep
      refine ⟨some ⟨b, 0, none⟩, n, by rw [chunkR_length]; exact h1, by rw [chunkR_length]; exact Nat.le_refl _, by simp, .inr ⟨b, 0, sz, rfl, h2, h3, ?_⟩⟩
      exact RepRows.of_cells hl h5 (fun j v hj => by rw [Nat.zero_add]; exact h6 j v hj) (by rw [← hl.len]; exact h4)
  | .agg cs, v, d, hr, hd => by
    unfold SV.toDV at hd
    unfold RepS at hr
    obtain ⟨vs, hv, h1, hl⟩ := hr
    cases hc : SV.toDVs cs with
    | none => simp [hc] at hd
    | some xs =>
      simp only [hc, Option.some.injEq] at hd
      subst hd
      unfold Rep
      exact ⟨vs, hv, h1, RepSL.toDVs cs vs xs hl hc⟩
  | .tup cs, v, d, hr, hd => by
    unfold SV.toDV at hd
    unfold RepS at hr
    obtain ⟨vs, hv, hl⟩ := hr
    cases hc : SV.toDVs cs with
    | none => simp [hc] at hd
    | some xs =>
      simp only [hc, Option.some.injEq] at hd
      subst hd
      unfold Rep
      exact ⟨vs, hv, RepSL.toDVs cs vs xs hl hc⟩
  | .ref _ _, v, d, hr, hd => by simp [SV.toDV] at hd
  | .vec _, v, d, hr, hd => by simp [SV.toDV] at hd
  | .vref _ _ _ _, v, d, hr, hd => by simp [SV.toDV] at hd
  | .mp _, v, d, hr, hd => by simp [SV.toDV] at hd
  | .own _ _, v, d, hr, hd => by simp [SV.toDV] at hd
theorem RepSL.toDVs {w : World} {M : Nat → Prop} {κ : Nat → Value} : ∀ (cs : List SV) (vs : List Value) (ds : List DV), RepSL w M κ cs vs → SV.toDVs cs = some ds → RepL w M ds vs
  | [], vs, ds, hr, hd => by
    simp only [SV.toDVs, Option.some.injEq] at hd
    subst hd; unfold RepSL at hr; unfold RepL; exact hr
  | c :: cs, vs, ds, hr, hd => by
    unfold SV.toDVs at hd
    unfold RepSL at hr
    obtain ⟨u, us, hv, h1, h2⟩ := hr
    cases hc : SV.toDV c with
    | none => simp [hc] at hd
    | some x =>
      cases hcs : SV.toDVs cs with
      | none => simp [hc, hcs] at hd
      | some xs =>
        simp only [hc, hcs, Option.some.injEq] at hd
        subst hd
        unfold RepL
        exact ⟨u, us, hv, RepS.toDV c u x h1 hc, RepSL.toDVs cs us xs h2 hcs⟩
end

mutual
/-- As RepS, where owned values may stand within; F: their blocks. -/
def RepG (w : World) (M : Nat → Prop) (κ : Nat → Value) : SV → Value → List Nat → Prop
  | .own m d, u, F => RepO w M m d u F
  | .agg cs, u, F => ∃ vs : List Value, u = .agg vs.toArray ∧ (∀ x ∈ vs, x.oneCell' = true) ∧ RepGL w M κ cs vs F
  | .tup cs, u, F => ∃ vs : List Value, u = .tuple vs.toArray ∧ RepGL w M κ cs vs F
  | .d x, u, F => F = [] ∧ RepS w M κ (.d x) u
  | .nils, u, F => F = [] ∧ RepS w M κ .nils u
  | .lit sz n cs, u, F => F = [] ∧ RepS w M κ (.lit sz n cs) u
  | .ref i o, u, F => F = [] ∧ RepS w M κ (.ref i o) u
  | .vec i, u, F => F = [] ∧ RepS w M κ (.vec i) u
  | .vref i s k o, u, F => F = [] ∧ RepS w M κ (.vref i s k o) u
  | .mp i, u, F => F = [] ∧ RepS w M κ (.mp i) u
def RepGL (w : World) (M : Nat → Prop) (κ : Nat → Value) : List SV → List Value → List Nat → Prop
  | [], vs, F => vs = [] ∧ F = []
  | c :: cs, vs, F => ∃ u us F1 F2, vs = u :: us ∧ F = F1 ++ F2 ∧ RepG w M κ c u F1 ∧ RepGL w M κ cs us F2
end

mutual
theorem RepG.ext {w w' : World} {M M' : Nat → Prop} {κ : Nat → Value} (h : Ext w M w' M') : ∀ (x : SV) (v : Value) (F : List Nat), (∀ b ∈ F, w'.heap[b]? = w.heap[b]?) → RepG w M κ x v F → RepG w' M' κ x v F
  | .own m d, v, F, hk, hr => by unfold RepG at *; exact RepO.ext h m d v F hk hr
  | .agg cs, v, F, hk, hr => by
    unfold RepG at *
    obtain ⟨vs, hv, h1, hl⟩ := hr
    exact ⟨vs, hv, h1, RepGL.ext h cs vs F hk hl⟩
  | .tup cs, v, F, hk, hr => by
    unfold RepG at *
    obtain ⟨vs, hv, hl⟩ := hr
    exact ⟨vs, hv, RepGL.ext h cs vs F hk hl⟩
  | .d _, v, F, hk, hr => by unfold RepG at *; exact ⟨hr.1, hr.2.ext h⟩
  | .nils, v, F, hk, hr => by unfold RepG at *; exact ⟨hr.1, hr.2.ext h⟩
  | .lit _ _ _, v, F, hk, hr => by unfold RepG at *; exact ⟨hr.1, hr.2.ext h⟩
  | .ref _ _, v, F, hk, hr => by unfold RepG at *; exact ⟨hr.1, hr.2.ext h⟩
  | .vec _, v, F, hk, hr => by unfold RepG at *; exact ⟨hr.1, hr.2.ext h⟩
  | .vref _ _ _ _, v, F, hk, hr => by unfold RepG at *; exact ⟨hr.1, hr.2.ext h⟩
  | .mp _, v, F, hk, hr => by unfold RepG at *; exact ⟨hr.1, hr.2.ext h⟩
theorem RepGL.ext {w w' : World} {M M' : Nat → Prop} {κ : Nat → Value} (h : Ext w M w' M') : ∀ (cs : List SV) (vs : List Value) (F : List Nat), (∀ b ∈ F, w'.heap[b]? = w.heap[b]?) → RepGL w M κ cs vs F → RepGL w' M' κ cs vs F
  | [], vs, F, _, hr => by unfold RepGL at *; exact hr
  | c :: cs, vs, F, hk, hr => by
    unfold RepGL at *
    obtain ⟨u, us, F1, F2, hv, rfl, h1, h2⟩ := hr
    exact ⟨u, us, F1, F2, hv, rfl, RepG.ext h c u F1 (fun b hb => hk b (by simp [hb])) h1, RepGL.ext h cs us F2 (fun b hb => hk b (by simp [hb])) h2⟩
end

mutual
theorem RepG.of_S {w : World} {M : Nat → Prop} {κ : Nat → Value} : ∀ (x : SV) (v : Value), RepS w M κ x v → RepG w M κ x v []
  | .own m d, v, hr => by unfold RepS at hr; exact hr.elim
  | .agg cs, v, hr => by
    unfold RepS at hr; unfold RepG
    obtain ⟨vs, hv, h1, hl⟩ := hr
    exact ⟨vs, hv, h1, RepGL.of_S cs vs hl⟩
  | .tup cs, v, hr => by
    unfold RepS at hr; unfold RepG
    obtain ⟨vs, hv, hl⟩ := hr
    exact ⟨vs, hv, RepGL.of_S cs vs hl⟩
  | .d _, v, hr => by unfold RepG; exact ⟨rfl, hr⟩
  | .nils, v, hr => by unfold RepG; exact ⟨rfl, hr⟩
  | .lit _ _ _, v, hr => by unfold RepG; exact ⟨rfl, hr⟩
  | .ref _ _, v, hr => by unfold RepG; exact ⟨rfl, hr⟩
  | .vec _, v, hr => by unfold RepG; exact ⟨rfl, hr⟩
  | .vref _ _ _ _, v, hr => by unfold RepG; exact ⟨rfl, hr⟩
  | .mp _, v, hr => by unfold RepG; exact ⟨rfl, hr⟩
theorem RepGL.of_S {w : World} {M : Nat → Prop} {κ : Nat → Value} : ∀ (cs : List SV) (vs : List Value), RepSL w M κ cs vs → RepGL w M κ cs vs []
  | [], vs, hr => by unfold RepSL at hr; unfold RepGL; exact ⟨hr, rfl⟩
  | c :: cs, vs, hr => by
    unfold RepSL at hr; unfold RepGL
    obtain ⟨u, us, hv, h1, h2⟩ := hr
    exact ⟨u, us, [], [], hv, rfl, RepG.of_S c u h1, RepGL.of_S cs us h2⟩
end

mutual
def SV.noOwn : SV → Bool
  | .own _ _ => false
  | .agg cs => SV.noOwns cs
  | .tup cs => SV.noOwns cs
  | .d _ => true
  | .nils => true
  | .lit _ _ _ => true
  | .ref _ _ => true
  | .vec _ => true
  | .vref _ _ _ _ => true
  | .mp _ => true
def SV.noOwns : List SV → Bool
  | [] => true
  | c :: cs => SV.noOwn c && SV.noOwns cs
end

mutual
theorem RepG.to_S {w : World} {M : Nat → Prop} {κ : Nat → Value} : ∀ (x : SV) (v : Value) (F : List Nat), x.noOwn = true → RepG w M κ x v F → RepS w M κ x v ∧ F = []
  | .own m d, v, F, hn, hr => by simp [SV.noOwn] at hn
  | .agg cs, v, F, hn, hr => by
    unfold RepG at hr
    unfold RepS
    obtain ⟨vs, hv, h1, hl⟩ := hr
    obtain ⟨h2, h3⟩ := RepGL.to_S cs vs F (by simpa [SV.noOwn] using hn) hl
    exact ⟨⟨vs, hv, h1, h2⟩, h3⟩
  | .tup cs, v, F, hn, hr => by
    unfold RepG at hr
    unfold RepS
    obtain ⟨vs, hv, hl⟩ := hr
    obtain ⟨h2, h3⟩ := RepGL.to_S cs vs F (by simpa [SV.noOwn] using hn) hl
    exact ⟨⟨vs, hv, h2⟩, h3⟩
  | .d _, v, F, hn, hr => by unfold RepG at hr; exact ⟨hr.2, hr.1⟩
  | .nils, v, F, hn, hr => by unfold RepG at hr; exact ⟨hr.2, hr.1⟩
  | .lit _ _ _, v, F, hn, hr => by unfold RepG at hr; exact ⟨hr.2, hr.1⟩
  | .ref _ _, v, F, hn, hr => by unfold RepG at hr; exact ⟨hr.2, hr.1⟩
  | .vec _, v, F, hn, hr => by unfold RepG at hr; exact ⟨hr.2, hr.1⟩
  | .vref _ _ _ _, v, F, hn, hr => by unfold RepG at hr; exact ⟨hr.2, hr.1⟩
  | .mp _, v, F, hn, hr => by unfold RepG at hr; exact ⟨hr.2, hr.1⟩
theorem RepGL.to_S {w : World} {M : Nat → Prop} {κ : Nat → Value} : ∀ (cs : List SV) (vs : List Value) (F : List Nat), SV.noOwns cs = true → RepGL w M κ cs vs F → RepSL w M κ cs vs ∧ F = []
  | [], vs, F, hn, hr => by unfold RepGL at hr; unfold RepSL; exact hr
  | c :: cs, vs, F, hn, hr => by
    unfold RepGL at hr; unfold RepSL
    obtain ⟨u, us, F1, F2, hv, rfl, h1, h2⟩ := hr
    simp only [SV.noOwns, Bool.and_eq_true] at hn
    obtain ⟨k1, rfl⟩ := RepG.to_S c u F1 hn.1 h1
    obtain ⟨k2, rfl⟩ := RepGL.to_S cs us F2 hn.2 h2
    exact ⟨⟨u, us, hv, k1, k2⟩, rfl⟩
end

/-- What a chunk's value looks like. -/
def kOk (κ : Nat → Value) : Prop := ∀ id, (κ id).oneCell' = true

/-- The entries of a map in memory, in the order in which they were put. -/
def RepMap (w : World) (M : Nat → Prop) (κ : Nat → Value) (kk : KK) : List (DV × SV) → List MapEntry → List Nat → Prop
  | [], es, F => es = [] ∧ F = []
  | (k, c) :: kv, es, F => ∃ e rest F1 F2, es = e :: rest ∧ F = F1 ++ F2 ∧ kk.fits k = true ∧ keyVal k = some e.key ∧ RepG w M κ c e.val F1 ∧ RepMap w M κ kk kv rest F2

def RepC (w : World) (M : Nat → Prop) (κ : Nat → Value) (id : Nat) : Ch → List Nat → Prop
  | .dead, F => F = []
  | .box cs, F => ∃ b T vs G, κ id = .pointer (some ⟨b, 0, none⟩) ∧ w.heap[b]? = some (.cells (List.toArray vs) T (0, 0)) ∧ (∀ x ∈ vs, x.oneCell' = true) ∧ RepGL w M κ cs vs G ∧ F = b :: G
  | .vec e sz rows, F => ∃ xs G, w.ownsRow 0 e sz (κ id) rows.length xs ∧ (∀ x ∈ xs, x.oneCell' = true) ∧ (∀ r ∈ rows, r.length = sz) ∧ RepGL w M κ rows.flatten xs G ∧ F = blkL (κ id) ++ G
  | .map kk kv, F => ∃ r es clock G, κ id = .map (some r) ∧ w.heap[r]? = some (.map (List.toArray es) clock) ∧ Born es clock ∧ RepMap w M κ kk kv es G ∧ F = r :: G
  | .bld T e bs, F => BldAt w T e bs (κ id) F

/-- The listed tables that the seat's contracts read: block, kind, numbers. -/
def tabs : List (Nat × IntKind × List Int) := [(1, .u64, (List.range 20).map fun i => ((10 ^ i : Nat) : Int))]
/-- A table lies in the world; no numbers: one number, whichever. -/
def TabAt (w : World) (t : Nat × IntKind × List Int) : Prop :=
  (t.2.2 = [] ∧ ∃ m, w.cell? ⟨t.1, 0, none⟩ = some (.int t.2.1 m)) ∨ (t.2.2 ≠ [] ∧ ∃ u f, w.heap[t.1]? = some (.cells (t.2.2.map fun z => Value.int t.2.1 z).toArray u f))
theorem TabAt.at {w : World} {t : Nat × IntKind × List Int} (h : TabAt w t) (hn : t.2.2 ≠ []) : ∃ u f, w.heap[t.1]? = some (.cells (t.2.2.map fun z => Value.int t.2.1 z).toArray u f) := by
  rcases h with ⟨h, _⟩ | ⟨_, h⟩
  · exact absurd h hn
  · exact h
theorem TabAt.int {w : World} {t : Nat × IntKind × List Int} (h : TabAt w t) (hn : t.2.2 = []) : ∃ m, w.cell? ⟨t.1, 0, none⟩ = some (.int t.2.1 m) := by
  rcases h with ⟨_, h⟩ | ⟨h, _⟩
  · exact h
  · exact absurd hn h
theorem TabAt.keep {w w' : World} {t : Nat × IntKind × List Int} (h : TabAt w t) (hk : w'.heap[t.1]? = w.heap[t.1]?) : TabAt w' t := by
  rcases h with ⟨h1, m, h2⟩ | ⟨h1, u, f, h2⟩
  · refine .inl ⟨h1, m, ?_⟩
    unfold World.cell? at h2 ⊢
    simp only at h2 ⊢
    rw [hk]; exact h2
  · exact .inr ⟨h1, u, f, by rw [hk]; exact h2⟩
/-- The tables lie in the world. -/
def Good (w : World) : Prop := ∀ t ∈ tabs, TabAt w t
def Free (A : Nat → Prop) : Prop := ∀ t ∈ tabs, ¬ A t.1
theorem TabAt.lt {w : World} {t : Nat × IntKind × List Int} (h : TabAt w t) : t.1 < w.heap.size := by
  rcases h with ⟨_, m, h⟩ | ⟨_, u, f, h⟩
  · unfold World.cell? at h
    simp only at h
    by_cases hlt : t.1 < w.heap.size
    · exact hlt
    · rw [Array.getElem?_eq_none (by omega)] at h; cases h
  · exact (Array.getElem?_eq_some_iff.1 h).1
theorem Good.below {w w' : World} (h : Good w) (hb : Below w.heap.size w w') : Good w' := fun t ht => (h t ht).keep (hb.block t.1 (h t ht).lt)

/-- A running function's frame: the heap's size when it was entered; the world then; the blocks that its callers own; the blocks that were handed to it; how many slots there are. -/
structure Cx where
  B : Nat
  w0 : World
  M0 : Nat → Prop
  A : Nat → Prop
  N : Nat
  gs : List Value
  good : Good w0
  free : Free A
  le : w0.heap.size ≤ B

/-- The world has changed: new blocks, and blocks of A. -/
structure Chg (B : Nat) (A : Nat → Prop) (w w' : World) : Prop where
  os : w'.os = w.os
  tape : w'.tape = w.tape
  output : w'.output = w.output
  size : w.heap.size ≤ w'.heap.size
  block : ∀ b, b < B → ¬ A b → w'.heap[b]? = w.heap[b]?

theorem Chg.refl (B : Nat) (A : Nat → Prop) (w : World) : Chg B A w w := ⟨rfl, rfl, rfl, Nat.le_refl _, fun _ _ _ => rfl⟩
theorem Chg.trans {B : Nat} {A : Nat → Prop} {w w' w'' : World} (h : Chg B A w w') (k : Chg B A w' w'') : Chg B A w w'' :=
  ⟨k.os.trans h.os, k.tape.trans h.tape, k.output.trans h.output, Nat.le_trans h.size k.size, fun b hb ha => (k.block b hb ha).trans (h.block b hb ha)⟩
theorem Chg.mono {B B' : Nat} {A A' : Nat → Prop} {w w' : World} (h : Chg B A w w') (hB : B' ≤ B) (hA : ∀ b, b < B' → A b → A' b) : Chg B' A' w w' :=
  ⟨h.os, h.tape, h.output, h.size, fun b hb ha => h.block b (by omega) fun h' => ha (hA b hb h')⟩
theorem Chg.of_below {B : Nat} {A : Nat → Prop} {w w' : World} (h : Below B w w') : Chg B A w w' := ⟨h.os, h.tape, h.output, h.size, fun b hb _ => h.block b hb⟩
theorem Chg.below {B : Nat} {A : Nat → Prop} {w w' : World} (h : Chg B A w w') (hA : ∀ b, ¬ A b) : Below B w w' := ⟨h.os, h.tape, h.output, h.size, fun b hb => h.block b hb (hA b)⟩

/-- The blocks that are owned: those of the caller, and those of the chunks. -/
def own (c : Cx) (φ : Nat → List Nat) (b : Nat) : Prop := c.M0 b ∨ ∃ id, b ∈ φ id

/-- The model's state is one of those that the abstract state speaks of. -/
structure Ref (c : Cx) (σ : St) (κ : Nat → Value) (φ : Nat → List Nat) (a : Act) (w : World) : Prop where
  chg : Chg c.B c.A c.w0 w
  size : c.B ≤ w.heap.size
  m0 : ∀ b, c.M0 b → b < c.B ∧ ¬ c.A b
  ntmps : a.tmps.size = c.N
  defers : a.defers = []
  kok : kOk κ
  slots : ∀ i, i < c.N → RepS w (own c φ) κ (σ.s i) (a.tmps.getD i undef)
  ghost : ∀ i v, c.gs[i]? = some v → RepS w (own c φ) κ (σ.s (c.N + i)) v
  chunks : ∀ id, RepC w (own c φ) κ id (σ.h id) (φ id)
  mine : ∀ id b, b ∈ φ id → b < w.heap.size ∧ (c.B ≤ b ∨ c.A b)
  nod : ∀ id, (φ id).Nodup
  sep : ∀ i j b, i ≠ j → b ∈ φ i → b ∈ φ j → False

theorem Ref.good {c : Cx} {σ : St} {κ : Nat → Value} {φ : Nat → List Nat} {a : Act} {w : World} (h : Ref c σ κ φ a w) : Good w := fun t ht =>
  (c.good t ht).keep (h.chg.block t.1 (Nat.lt_of_lt_of_le (c.good t ht).lt c.le) (c.free t ht))
theorem Ref.free {c : Cx} {σ : St} {κ : Nat → Value} {φ : Nat → List Nat} {a : Act} {w : World} (h : Ref c σ κ φ a w) {id : Nat} : Free (· ∈ φ id) := fun t ht hb => by
  rcases (h.mine id t.1 hb).2 with h1 | h1
  · have := Nat.lt_of_lt_of_le (c.good t ht).lt c.le; omega
  · exact c.free t ht h1
theorem Ref.own_lt {c : Cx} {σ : St} {κ : Nat → Value} {φ : Nat → List Nat} {a : Act} {w : World} (h : Ref c σ κ φ a w) {b : Nat} (hb : own c φ b) : b < w.heap.size := by
  rcases hb with hb | ⟨id, hb⟩
  · exact Nat.lt_of_lt_of_le (h.m0 b hb).1 h.size
  · exact (h.mine id b hb).1

theorem RepMap.ext {w w' : World} {M M' : Nat → Prop} {κ : Nat → Value} {kk : KK} (h : Ext w M w' M') : ∀ (kv : List (DV × SV)) (es : List MapEntry) (F : List Nat), (∀ b ∈ F, w'.heap[b]? = w.heap[b]?) → RepMap w M κ kk kv es F → RepMap w' M' κ kk kv es F
  | [], es, F, _, hr => by unfold RepMap at *; exact hr
  | (k, c) :: kv, es, F, hk, hr => by
    unfold RepMap at *
    obtain ⟨e, rest, F1, F2, h1, rfl, h2, h3, h4, h5⟩ := hr
    exact ⟨e, rest, F1, F2, h1, rfl, h2, h3, RepG.ext h c _ F1 (fun b hb => hk b (by simp [hb])) h4, RepMap.ext h kv rest F2 (fun b hb => hk b (by simp [hb])) h5⟩

theorem RepC.ext {w w' : World} {M M' : Nat → Prop} {κ : Nat → Value} {id : Nat} {c : Ch} {F : List Nat} (h : Ext w M w' M') (hk : ∀ b ∈ F, w'.heap[b]? = w.heap[b]?) (hc : RepC w M κ id c F) : RepC w' M' κ id c F := by
  cases c with
  | dead => exact hc
  | box cs =>
    obtain ⟨b, T, vs, G, h1, h2, h3, h4, rfl⟩ := hc
    exact ⟨b, T, vs, G, h1, by rw [hk b (by simp)]; exact h2, h3, RepGL.ext h cs vs G (fun b hb => hk b (by simp [hb])) h4, rfl⟩
  | vec e sz rows =>
    obtain ⟨xs, G, h1, h2, h3, h4, rfl⟩ := hc
    exact ⟨xs, G, ownsRow_ext (fun b hb => hk b (by simp [hb])) h1, h2, h3, RepGL.ext h _ xs G (fun b hb => hk b (by simp [hb])) h4, rfl⟩
  | map kk kv =>
    obtain ⟨r, es, clock, G, h1, h2, hB, h3, rfl⟩ := hc
    exact ⟨r, es, clock, G, h1, by rw [hk r (by simp)]; exact h2, hB, RepMap.ext h kv es G (fun b hb => hk b (by simp [hb])) h3, rfl⟩
  | bld T e bs => exact BldAt.ext hk hc

theorem Ext.of_below {w w' : World} {M : Nat → Prop} (h : Below w.heap.size w w') : Ext w M w' M := ⟨h.size, fun b hb hm => ⟨h.block b hb, hm⟩⟩

theorem getD_set (t : Array Value) (d i : Nat) (v : Value) : (t.setIfInBounds d v).getD i undef = if d = i ∧ d < t.size then v else t.getD i undef := by
  by_cases h : d = i
  · subst h
    by_cases hs : d < t.size <;> simp [hs]
  · simp [h]

/-- The world has new blocks; no slot has been written. -/
theorem Ref.grown {c : Cx} {σ : St} {κ : Nat → Value} {φ : Nat → List Nat} {a : Act} {w w' : World} (h : Ref c σ κ φ a w)
    (hb : Below w.heap.size w w') : Ref c σ κ φ a w' := by
  have hext : Ext w (own c φ) w' (own c φ) := Ext.of_below hb
  exact ⟨h.chg.trans (Chg.of_below (hb.mono h.size)), Nat.le_trans h.size hb.size, h.m0, h.ntmps, h.defers, h.kok, fun i hi => RepS.ext hext _ _ (h.slots i hi), fun i v hv => RepS.ext hext _ _ (h.ghost i v hv),
    fun id => (h.chunks id).ext hext fun b hbk => hb.block b (h.mine id b hbk).1, fun id b hb' => ⟨Nat.lt_of_lt_of_le (h.mine id b hb').1 hb.size, (h.mine id b hb').2⟩, h.nod, h.sep⟩

/-- One slot has been written. -/
theorem Ref.putS {c : Cx} {σ : St} {κ : Nat → Value} {φ : Nat → List Nat} {a : Act} {w : World} (h : Ref c σ κ φ a w) {dst : Nat} {x : SV} {v : Value} (hd' : dst < c.N)
    (hx : RepS w (own c φ) κ x v) : Ref c { σ with s := upd σ.s dst x } κ φ (a.put (some dst) v) w := by
  refine ⟨h.chg, h.size, h.m0, by simp [Act.put, h.ntmps], h.defers, h.kok, fun i hi => ?_, fun i v hv => by dsimp only; rw [upd_ne _ _ _ _ (by omega)]; exact h.ghost i v hv, h.chunks, h.mine, h.nod, h.sep⟩
  simp only [Act.put, getD_set]
  by_cases hd : dst = i
  · subst hd; simp [h.ntmps, hi, upd_same, hx]
  · simp only [hd, false_and, if_false]
    rw [upd_ne _ _ _ _ (fun e => hd e.symm)]
    exact h.slots i hi

/-- The world has new blocks; one slot has been written. -/
theorem Ref.put {c : Cx} {σ : St} {κ : Nat → Value} {φ : Nat → List Nat} {a : Act} {w w' : World} (h : Ref c σ κ φ a w) {dst : Nat} {x : SV} {v : Value} (hd' : dst < c.N)
    (hb : Below w.heap.size w w') (hx : RepS w' (own c φ) κ x v) : Ref c { σ with s := upd σ.s dst x } κ φ (a.put (some dst) v) w' := (h.grown hb).putS hd' hx

end Go.Proofs.YtcnohbiegjahkaaGreatDoor

/-
  The engine, part J: calls, and the operations of a region.
-/
import Derived.Test.YtcnohbiegjahkaaGreatDoorSXEngO
namespace Go.Proofs.YtcnohbiegjahkaaGreatDoor
set_option linter.unusedSimpArgs false
set_option linter.unusedVariables false
open Go.RowKit

/-- The contract of a function that only computes: it makes memory, and turns none that was there. -/
def PureSpec (P : Program) (f : FuncId) (args : List DV) (res : DV) : Prop :=
  callable P f = true ∧ ∀ (w : World) (M : Nat → Prop) (vs : List Value), (∀ b, M b → b < w.heap.size) → RepL w M args vs → Good w →
    Calls P f vs.toArray w fun e w' => ∃ v, e = .returned v ∧ Rep w' M res v ∧ Below w.heap.size w w'

def κ0 : Nat → Value := fun _ => .pointer none

/-- The contract of a function to which owned values are handed: args before, outs behind the call (what was moved is any); res: the result, which may be owned. -/
def FSpec (P : Program) (f : FuncId) (args : List SV) (res : SV) (outs : List SV) : Prop :=
  callable P f = true ∧ ∀ (w : World) (M : Nat → Prop) (vs : List Value) (F : List Nat), (∀ b, M b → b < w.heap.size ∧ b ∉ F) → (∀ b ∈ F, b < w.heap.size) → F.Nodup → RepGL w (fun b => M b ∨ b ∈ F) κ0 args vs F → Good w → Free (· ∈ F) →
    Calls P f vs.toArray w fun e w' => ∃ v F1 F2, e = .returned v ∧ RepGL w' (fun b => M b ∨ b ∈ F1 ++ F2) κ0 outs vs F1 ∧ RepG w' (fun b => M b ∨ b ∈ F1 ++ F2) κ0 res v F2 ∧ (F1 ++ F2).Nodup ∧
      (∀ b ∈ F1 ++ F2, (b ∈ F ∨ w.heap.size ≤ b) ∧ b < w'.heap.size) ∧ Chg w.heap.size (· ∈ F) w w'

mutual
/-- No chunk is pointed to. -/
def SV.closed : SV → Bool
  | .own _ _ => true
  | .agg cs => SV.closeds cs
  | .tup cs => SV.closeds cs
  | .d _ => true
  | .nils => true
  | .lit _ _ cs => SV.closeds cs
  | .ref _ _ => false
  | .vec _ => false
  | .vref _ _ _ _ => false
  | .mp _ => false
def SV.closeds : List SV → Bool
  | [] => true
  | c :: cs => SV.closed c && SV.closeds cs
end

section
variable {w : World} {M : Nat → Prop} {κ κ' : Nat → Value}
mutual
theorem RepS.kappa : ∀ (x : SV) (u : Value), x.closed = true → RepS w M κ x u → RepS w M κ' x u
  | .own _ _, u, _, h => by simp only [RepS] at h
  | .agg cs, u, hc, h => by
    simp only [RepS] at *
    obtain ⟨vs, h1, h2, h3⟩ := h
    exact ⟨vs, h1, h2, RepSL.kappa cs vs (by simpa [SV.closed] using hc) h3⟩
  | .tup cs, u, hc, h => by
    simp only [RepS] at *
    obtain ⟨vs, h1, h3⟩ := h
    exact ⟨vs, h1, RepSL.kappa cs vs (by simpa [SV.closed] using hc) h3⟩
  | .d _, u, _, h => by simp only [RepS] at *; exact h
  | .nils, u, _, h => by simp only [RepS] at *; exact h
  | .lit _ _ cs, u, hc, h => by
    simp only [RepS] at *
    obtain ⟨b, vs, h1, h2, h3, h4, h5, h6, h7⟩ := h
    exact ⟨b, vs, h1, h2, h3, h4, h5, h6, RepSL.kappa cs vs (by simpa [SV.closed] using hc) h7⟩
  | .ref _ _, u, hc, _ => by simp [SV.closed] at hc
  | .vec _, u, hc, _ => by simp [SV.closed] at hc
  | .vref _ _ _ _, u, hc, _ => by simp [SV.closed] at hc
  | .mp _, u, hc, _ => by simp [SV.closed] at hc
theorem RepSL.kappa : ∀ (cs : List SV) (us : List Value), SV.closeds cs = true → RepSL w M κ cs us → RepSL w M κ' cs us
  | [], us, _, h => by simp only [RepSL] at *; exact h
  | c :: cs, us, hc, h => by
    simp only [RepSL, SV.closeds, Bool.and_eq_true] at *
    obtain ⟨u, us', h1, h2, h3⟩ := h
    exact ⟨u, us', h1, RepS.kappa c u hc.1 h2, RepSL.kappa cs us' hc.2 h3⟩
end
mutual
theorem RepG.kappa : ∀ (x : SV) (u : Value) (F : List Nat), x.closed = true → RepG w M κ x u F → RepG w M κ' x u F
  | .own _ _, u, F, _, h => by simp only [RepG] at *; exact h
  | .agg cs, u, F, hc, h => by
    simp only [RepG] at *
    obtain ⟨vs, h1, h2, h3⟩ := h
    exact ⟨vs, h1, h2, RepGL.kappa cs vs F (by simpa [SV.closed] using hc) h3⟩
  | .tup cs, u, F, hc, h => by
    simp only [RepG] at *
    obtain ⟨vs, h1, h3⟩ := h
    exact ⟨vs, h1, RepGL.kappa cs vs F (by simpa [SV.closed] using hc) h3⟩
  | .d _, u, F, hc, h => by simp only [RepG] at *; exact ⟨h.1, h.2.kappa _ _ hc⟩
  | .nils, u, F, hc, h => by simp only [RepG] at *; exact ⟨h.1, h.2.kappa _ _ hc⟩
  | .lit _ _ _, u, F, hc, h => by simp only [RepG] at *; exact ⟨h.1, h.2.kappa _ _ hc⟩
  | .ref _ _, u, F, hc, _ => by simp [SV.closed] at hc
  | .vec _, u, F, hc, _ => by simp [SV.closed] at hc
  | .vref _ _ _ _, u, F, hc, _ => by simp [SV.closed] at hc
  | .mp _, u, F, hc, _ => by simp [SV.closed] at hc
theorem RepGL.kappa : ∀ (cs : List SV) (us : List Value) (F : List Nat), SV.closeds cs = true → RepGL w M κ cs us F → RepGL w M κ' cs us F
  | [], us, F, _, h => by simp only [RepGL] at *; exact h
  | c :: cs, us, F, hc, h => by
    simp only [RepGL, SV.closeds, Bool.and_eq_true] at *
    obtain ⟨u, us', F1, F2, h1, h2, h3, h4⟩ := h
    exact ⟨u, us', F1, F2, h1, h2, RepG.kappa c u F1 hc.1 h3, RepGL.kappa cs us' F2 hc.2 h4⟩
end
end

/-! lending: what is owned is read as data for the time of a call -/
def SV.lendC (h : Nat → Ch) : SV → Option DV
  | .own m v => if m.plain then some v else none
  | .d v => some v
  | .nils => some (.slice [])
  | .lit sz n cs => SV.toDV (.lit sz n cs)
  | .vec id => match h id with | .vec _ _ rows => (match SV.frzR rows with | some ds => some (.slice ds) | none => none) | _ => none
  | _ => none
def SV.lendCs (h : Nat → Ch) : List SV → Option (List DV)
  | [] => some []
  | c :: cs => match SV.lendC h c, SV.lendCs h cs with | some x, some xs => some (x :: xs) | _, _ => none
mutual
def SV.lend (h : Nat → Ch) : SV → Option DV
  | .vec id => match h id with | .vec _ _ rows => (match SV.frzR rows with | some ds => some (.slice ds) | none => none) | _ => none
  | .agg cs => match SV.lends h cs with | some xs => some (.agg xs) | none => none
  | .d v => some v
  | .nils => some (.slice [])
  | .lit sz n cs => SV.toDV (.lit sz n cs)
  | .tup cs => SV.toDV (.tup cs)
  | .ref id off => if off = 0 then (match h id with | .box cs => (match SV.lendCs h cs with | some ds => some (.ptr ds) | none => none) | _ => none) else none
  | .vref _ _ _ _ => none
  | .mp _ => none
  | .own _ _ => none
def SV.lends (h : Nat → Ch) : List SV → Option (List DV)
  | [] => some []
  | c :: cs => match SV.lend h c, SV.lends h cs with | some x, some xs => some (x :: xs) | _, _ => none
end

mutual
/-- Nothing of it lies in memory. -/
def DV.flat : DV → Bool
  | .int _ _ => true
  | .bool _ => true
  | .str _ => true
  | .raw _ => true
  | .err => true
  | .any => true
  | .agg cs => DV.flats cs
  | .tup cs => DV.flats cs
  | .slice _ => false
  | .ptr _ => false
  | .fn _ _ => false
  | .map _ _ => false
def DV.flats : List DV → Bool
  | [] => true
  | c :: cs => DV.flat c && DV.flats cs
end

section
variable {w w' : World} {M M' : Nat → Prop}
mutual
theorem Rep.flat : ∀ (d : DV) (v : Value), d.flat = true → Rep w M d v → Rep w' M' d v
  | .int _ _, v, _, h => by unfold Rep at *; exact h
  | .bool _, v, _, h => by unfold Rep at *; exact h
  | .str _, v, _, h => by unfold Rep at *; exact h
  | .raw _, v, _, h => by unfold Rep at *; exact h
  | .err, v, _, h => by unfold Rep at *; exact h
  | .any, v, _, h => by unfold Rep at *; exact h
  | .agg cs, v, hf, h => by
    unfold Rep at *
    obtain ⟨vs, h1, h2, h3⟩ := h
    exact ⟨vs, h1, h2, RepL.flat cs vs (by simpa [DV.flat] using hf) h3⟩
  | .tup cs, v, hf, h => by
    unfold Rep at *
    obtain ⟨vs, h1, h3⟩ := h
    exact ⟨vs, h1, RepL.flat cs vs (by simpa [DV.flat] using hf) h3⟩
  | .slice _, v, hf, _ => by simp [DV.flat] at hf
  | .ptr _, v, hf, _ => by simp [DV.flat] at hf
  | .fn _ _, v, hf, _ => by simp [DV.flat] at hf
  | .map _ _, v, hf, _ => by simp [DV.flat] at hf
theorem RepL.flat : ∀ (ds : List DV) (vs : List Value), DV.flats ds = true → RepL w M ds vs → RepL w' M' ds vs
  | [], vs, _, h => by unfold RepL at *; exact h
  | d :: ds, vs, hf, h => by
    unfold RepL at *
    obtain ⟨u, us, h1, h2, h3⟩ := h
    simp only [DV.flats, Bool.and_eq_true] at hf
    exact ⟨u, us, h1, Rep.flat d u hf.1 h2, RepL.flat ds us hf.2 h3⟩
end
end

section
variable {c : Cx} {σ : St} {κ : Nat → Value} {φ : Nat → List Nat} {a : Act} {w : World}

theorem vec_lend (hr : Ref c σ κ φ a w) {id e sz : Nat} {rows : List (List SV)} {ds : List (List DV)} (hv : σ.h id = .vec e sz rows) (hds : SV.frzR rows = some ds) : Rep w c.M0 (.slice ds) (κ id) := by
  have hch := hr.chunks id
  rw [hv] at hch
  exact vec_frz (M := own c φ) (fun b hb => .inl hb) (fun b hb => own_not hr hb) hch hds
theorem lendC_rep (hr : Ref c σ κ φ a w) {x : SV} {u : Value} {F : List Nat} {d : DV} (hF : ∀ b ∈ F, ¬ c.M0 b) (h : RepG w (own c φ) κ x u F) (hl : SV.lendC σ.h x = some d) : Rep w c.M0 d u := by
  have hsh : ∀ b, c.M0 b → own c φ b := fun b hb => .inl hb
  cases x with
  | own m v => exact frz_rep hsh hF h (by simpa only [SV.lendC, SV.frz] using hl)
  | d v => exact frz_rep hsh hF h (by simpa only [SV.lendC, SV.frz] using hl)
  | nils => exact frz_rep hsh hF h (by simpa only [SV.lendC, SV.frz] using hl)
  | lit sz n cs => exact frz_rep hsh hF h (by simpa only [SV.lendC, SV.frz] using hl)
  | vec id =>
    simp only [SV.lendC] at hl
    split at hl
    · rename_i e sz rows hv
      split at hl
      · rename_i ds hds
        simp only [Option.some.injEq] at hl; subst hl
        simp only [RepG, RepS] at h
        rw [h.2]
        exact vec_lend hr hv hds
      · cases hl
    · cases hl
  | _ => simp [SV.lendC] at hl
theorem lendCs_rep (hr : Ref c σ κ φ a w) : ∀ {cs : List SV} {us : List Value} {F : List Nat} {ds : List DV}, (∀ b ∈ F, ¬ c.M0 b) → RepGL w (own c φ) κ cs us F → SV.lendCs σ.h cs = some ds → RepL w c.M0 ds us
  | [], us, F, ds, hF, h, hl => by
    simp only [SV.lendCs, Option.some.injEq] at hl; subst hl
    simp only [RepGL] at h; unfold RepL; exact h.1
  | x :: cs, us, F, ds, hF, h, hl => by
    simp only [SV.lendCs] at hl
    split at hl
    · rename_i y ys hy hys
      simp only [Option.some.injEq] at hl; subst hl
      simp only [RepGL] at h
      obtain ⟨u, us', F1, F2, rfl, rfl, h1, h2⟩ := h
      unfold RepL
      exact ⟨u, us', rfl, lendC_rep hr (fun b hb => hF b (by simp [hb])) h1 hy, lendCs_rep hr (fun b hb => hF b (by simp [hb])) h2 hys⟩
    · cases hl
theorem box_lend (hr : Ref c σ κ φ a w) {id : Nat} {cs : List SV} {ds : List DV} (hv : σ.h id = .box cs) (hl : SV.lendCs σ.h cs = some ds) : Rep w c.M0 (.ptr ds) (κ id) := by
  have hch := hr.chunks id
  rw [hv] at hch
  obtain ⟨b, T, vs, G, h1, h2, h3, h4, hφ⟩ := hch
  have hn : ∀ b' ∈ b :: G, ¬ c.M0 b' := fun b' hb' => own_not hr (id := id) (by rw [hφ]; exact hb')
  unfold Rep
  exact ⟨b, 0, h1, hn b (by simp), (Array.getElem?_eq_some_iff.1 h2).1, RepAt.of_row h2 (lendCs_rep hr (fun b' hb' => hn b' (by simp [hb'])) h4 hl) h3 (by simp)⟩

mutual
theorem lend_rep (hr : Ref c σ κ φ a w) : ∀ (x : SV) (v : Value) (d : DV), RepS w (own c φ) κ x v → SV.lend σ.h x = some d → Rep w c.M0 d v
  | .vec id, v, d, h, hl => by
    simp only [SV.lend] at hl
    split at hl
    · rename_i e sz rows hv
      split at hl
      · rename_i ds hds
        simp only [Option.some.injEq] at hl; subst hl
        simp only [RepS] at h; subst h
        have hch := hr.chunks id
        rw [hv] at hch
        exact vec_frz (M := own c φ) (fun b hb => .inl hb) (fun b hb => own_not hr hb) hch hds
      · cases hl
    · cases hl
  | .agg cs, v, d, h, hl => by
    simp only [SV.lend] at hl
    split at hl
    · rename_i xs hxs
      simp only [Option.some.injEq] at hl; subst hl
      simp only [RepS] at h
      obtain ⟨vs, h1, h2, h3⟩ := h
      unfold Rep
      exact ⟨vs, h1, h2, lends_rep hr cs vs xs h3 hxs⟩
    · cases hl
  | .d x, v, d, h, hl => (RepS.toDV (.d x) v d h (by simpa only [SV.lend, SV.toDV] using hl)).ext (Ext.shrink fun b hb => .inl hb)
  | .nils, v, d, h, hl => (RepS.toDV .nils v d h (by simpa only [SV.lend, SV.toDV] using hl)).ext (Ext.shrink fun b hb => .inl hb)
  | .lit sz n cs, v, d, h, hl => (RepS.toDV (.lit sz n cs) v d h (by simpa only [SV.lend] using hl)).ext (Ext.shrink fun b hb => .inl hb)
  | .tup cs, v, d, h, hl => (RepS.toDV (.tup cs) v d h (by simpa only [SV.lend] using hl)).ext (Ext.shrink fun b hb => .inl hb)
  | .ref id off, v, d, h, hl => by
    simp only [SV.lend] at hl
    split at hl
    · rename_i h0
      subst h0
      split at hl
      · rename_i cs hv
        split at hl
        · rename_i ds hds
          simp only [Option.some.injEq] at hl; subst hl
          simp only [RepS] at h
          obtain ⟨b, hk, rfl⟩ := h
          rw [← hk]
          exact box_lend hr hv hds
        · cases hl
      · cases hl
    · cases hl
  | .vref _ _ _ _, v, d, h, hl => by simp [SV.lend] at hl
  | .mp _, v, d, h, hl => by simp [SV.lend] at hl
  | .own _ _, v, d, h, hl => by simp [SV.lend] at hl
theorem lends_rep (hr : Ref c σ κ φ a w) : ∀ (cs : List SV) (vs : List Value) (ds : List DV), RepSL w (own c φ) κ cs vs → SV.lends σ.h cs = some ds → RepL w c.M0 ds vs
  | [], vs, ds, h, hl => by
    simp only [SV.lends, Option.some.injEq] at hl; subst hl
    simp only [RepSL] at h; unfold RepL; exact h
  | x :: cs, vs, ds, h, hl => by
    simp only [SV.lends] at hl
    split at hl
    · rename_i y ys hy hys
      simp only [Option.some.injEq] at hl; subst hl
      simp only [RepSL] at h
      obtain ⟨u, us, h1, h2, h3⟩ := h
      unfold RepL
      exact ⟨u, us, h1, lend_rep hr x u y h2 hy, lends_rep hr cs us ys h3 hys⟩
    · cases hl
end
end

/-! handing over -/
def updL {α : Type} : List (Nat × α) → (Nat → α) → Nat → α
  | [], f => f
  | (i, v) :: L, f => upd (updL L f) i v

inductive HandL (h : Nat → Ch) : List SV → List SV → List SV → List (Nat × Ch) → Prop
  | nil : HandL h [] [] [] []
  | data {x : SV} {d : DV} {xs ins outs : List SV} {L : List (Nat × Ch)} (hx : x.toDV = some d) (hl : HandL h xs ins outs L) : HandL h (x :: xs) (.d d :: ins) (.d d :: outs) L
  | nils {e : Nat} {ms : List Mask} {xs ins outs : List SV} {L : List (Nat × Ch)} (hl : HandL h xs ins outs L) : HandL h (.nils :: xs) (.own (.sl e ms) (.slice []) :: ins) (.d .any :: outs) L
  | move {id : Nat} {m : Mask} {d : DV} {ch : Ch} {mk : Nat → SV} {xs ins outs : List SV} {L : List (Nat × Ch)} (ho : openCh m d = some (ch, mk)) (hs : shapeOk m d) (hh : h id = ch) (hn : id ∉ L.map Prod.fst) (hl : HandL h xs ins outs L) :
      HandL h (mk id :: xs) (.own m d :: ins) (.d .any :: outs) ((id, .dead) :: L)
  | ptr {id : Nat} {m : Mask} {d d' : DV} {ch ch' : Ch} {mk mk' : Nat → SV} {xs ins outs : List SV} {L : List (Nat × Ch)} (ho : openCh m d = some (ch, mk)) (hs : shapeOk m d) (ho' : openCh m d' = some (ch', mk')) (hh : h id = ch) (hn : id ∉ L.map Prod.fst) (hl : HandL h xs ins outs L) :
      HandL h (mk id :: xs) (.own m d :: ins) (.own m d' :: outs) ((id, ch') :: L)

def footL (φ : Nat → List Nat) : List (Nat × Ch) → List Nat
  | [] => []
  | (id, _) :: L => φ id ++ footL φ L

theorem mem_footL {φ : Nat → List Nat} {b : Nat} : ∀ {L : List (Nat × Ch)}, b ∈ footL φ L ↔ ∃ id ∈ L.map Prod.fst, b ∈ φ id
  | [] => by simp [footL]
  | (i, ch) :: L => by simp only [footL, List.mem_append, mem_footL (L := L)]; simp

theorem updL_not {α : Type} {j : Nat} {f : Nat → α} : ∀ {L : List (Nat × α)}, j ∉ L.map Prod.fst → updL L f j = f j
  | [], _ => rfl
  | (i, v) :: L, h => by
    simp only [List.map_cons, List.mem_cons, not_or] at h
    rw [updL, upd_ne _ _ _ _ h.1, updL_not h.2]

section
variable {c : Cx} {σ : St} {κ : Nat → Value} {φ : Nat → List Nat} {a : Act} {w : World}

theorem hand_nodup (hr : Ref c σ κ φ a w) {xs ins outs : List SV} {L : List (Nat × Ch)} (h : HandL σ.h xs ins outs L) : (footL φ L).Nodup ∧ (L.map Prod.fst).Nodup := by
  have key : ∀ (id : Nat) (L : List (Nat × Ch)), id ∉ L.map Prod.fst → (footL φ L).Nodup ∧ (L.map Prod.fst).Nodup → ∀ ch, (footL φ ((id, ch) :: L)).Nodup ∧ (((id, ch) :: L).map Prod.fst).Nodup := fun id L hn ih ch => by
    refine ⟨List.nodup_append.2 ⟨hr.nod id, ih.1, fun x hx y hy e => ?_⟩, by simpa using ⟨by simpa using hn, ih.2⟩⟩
    subst e
    obtain ⟨j, hj, hx'⟩ := mem_footL.1 hy
    exact hr.sep id j x (fun e => hn (e ▸ hj)) hx hx'
  induction h with
  | nil => simp [footL]
  | data _ _ ih => exact ih
  | nils _ ih => exact ih
  | move _ _ _ hn _ ih => exact key _ _ hn ih _
  | ptr _ _ _ _ hn _ ih => exact key _ _ hn ih _

theorem hand_rep (hr : Ref c σ κ φ a w) {M : Nat → Prop} (hM : ∀ b, M b → own c φ b) {xs ins outs : List SV} {L : List (Nat × Ch)} (h : HandL σ.h xs ins outs L) : ∀ {vs : List Value}, RepSL w (own c φ) κ xs vs → RepGL w M κ0 ins vs (footL φ L) := by
  have hext : Ext w (own c φ) w M := Ext.shrink hM
  have key : ∀ {id : Nat} {m : Mask} {d : DV} {ch : Ch} {mk : Nat → SV} {u : Value}, openCh m d = some (ch, mk) → shapeOk m d → σ.h id = ch → RepS w (own c φ) κ (mk id) u → RepG w M κ0 (.own m d) u (φ id) := fun {id m d ch mk u} ho hs hh hu => by
    have hch := hr.chunks id
    rw [hh] at hch
    obtain ⟨hk, _⟩ := mk_val (φ := φ) ho (RepG.of_S _ _ hu) hch
    simp only [RepG]
    exact RepO.ext hext _ _ _ _ (fun _ _ => rfl) ((open_iff hs ho hk).1 hch)
  induction h with
  | nil => intro vs hx; simp only [RepSL] at hx; simp [RepGL, footL, hx]
  | data hx _ ih =>
    intro vs hxs
    simp only [RepSL] at hxs
    obtain ⟨u, us, rfl, h1, h2⟩ := hxs
    simp only [RepGL]
    exact ⟨u, us, [], _, rfl, by simp, by unfold RepG RepS; exact ⟨rfl, (RepS.toDV _ _ _ h1 hx).ext hext⟩, ih h2⟩
  | nils _ ih =>
    intro vs hxs
    simp only [RepSL] at hxs
    obtain ⟨u, us, rfl, h1, h2⟩ := hxs
    simp only [RepS] at h1
    simp only [RepGL]
    refine ⟨u, us, [], _, rfl, by simp, ?_, ih h2⟩
    simp only [RepG, RepO]
    subst h1
    exact ⟨[], [], [], rfl, World.ownsRow_nil w 0 _ _, by simp, by simp, by simp [CellsBy], by simp [blkL, blk]⟩
  | move ho hs hh _ _ ih =>
    intro vs hxs
    simp only [RepSL] at hxs
    obtain ⟨u, us, rfl, h1, h2⟩ := hxs
    simp only [RepGL]
    exact ⟨u, us, _, _, rfl, rfl, key ho hs hh h1, ih h2⟩
  | ptr ho hs _ hh _ _ ih =>
    intro vs hxs
    simp only [RepSL] at hxs
    obtain ⟨u, us, rfl, h1, h2⟩ := hxs
    simp only [RepGL]
    exact ⟨u, us, _, _, rfl, rfl, key ho hs hh h1, ih h2⟩

/-- What comes back. -/
theorem hand_back (hr : Ref c σ κ φ a w) {w' : World} {M : Nat → Prop} {xs ins outs : List SV} {L : List (Nat × Ch)} (h : HandL σ.h xs ins outs L) : ∀ {vs : List Value} {F : List Nat}, RepSL w (own c φ) κ xs vs → RepGL w' M κ0 outs vs F →
    ∃ Ls : List (Nat × List Nat), Ls.map Prod.fst = L.map Prod.fst ∧ (∀ b, b ∈ F ↔ ∃ p ∈ Ls, b ∈ p.2) ∧ (F.Nodup → (∀ p ∈ Ls, p.2.Nodup) ∧ ∀ p ∈ Ls, ∀ q ∈ Ls, ∀ b, p.1 ≠ q.1 → b ∈ p.2 → b ∉ q.2) ∧
      (∀ j, j ∈ L.map Prod.fst → RepC w' M κ j (updL L σ.h j) (updL Ls φ j)) ∧ ∀ p ∈ Ls, updL Ls φ p.1 = p.2 := by
  have key : ∀ {id : Nat} {L : List (Nat × Ch)} {ch' : Ch} {F1 F2 : List Nat} {Ls : List (Nat × List Nat)}, id ∉ L.map Prod.fst → RepC w' M κ id ch' F1 → Ls.map Prod.fst = L.map Prod.fst → (∀ b, b ∈ F2 ↔ ∃ p ∈ Ls, b ∈ p.2) →
      (F2.Nodup → (∀ p ∈ Ls, p.2.Nodup) ∧ ∀ p ∈ Ls, ∀ q ∈ Ls, ∀ b, p.1 ≠ q.1 → b ∈ p.2 → b ∉ q.2) → (∀ j, j ∈ L.map Prod.fst → RepC w' M κ j (updL L σ.h j) (updL Ls φ j)) → (∀ p ∈ Ls, updL Ls φ p.1 = p.2) →
      ∃ Ls' : List (Nat × List Nat), Ls'.map Prod.fst = ((id, ch') :: L).map Prod.fst ∧ (∀ b, b ∈ F1 ++ F2 ↔ ∃ p ∈ Ls', b ∈ p.2) ∧ ((F1 ++ F2).Nodup → (∀ p ∈ Ls', p.2.Nodup) ∧ ∀ p ∈ Ls', ∀ q ∈ Ls', ∀ b, p.1 ≠ q.1 → b ∈ p.2 → b ∉ q.2) ∧
        (∀ j, j ∈ ((id, ch') :: L).map Prod.fst → RepC w' M κ j (updL ((id, ch') :: L) σ.h j) (updL Ls' φ j)) ∧ ∀ p ∈ Ls', updL Ls' φ p.1 = p.2 := fun {id L ch' F1 F2 Ls} hn hC h1 h2 h3 h4 h5 => by
    have hne : ∀ p ∈ Ls, p.1 ≠ id := fun p hp e => hn (by rw [← h1, ← e]; exact List.mem_map_of_mem hp)
    refine ⟨(id, F1) :: Ls, by simp [h1], fun b => ?_, fun hnod => ?_, fun j hj => ?_, fun p hp => ?_⟩
    · simp [h2 b]
    · obtain ⟨n1, n2, n3⟩ := List.nodup_append.1 hnod
      obtain ⟨k1, k2⟩ := h3 n2
      refine ⟨fun p hp => ?_, fun p hp q hq b hpq hb => ?_⟩
      · rcases List.mem_cons.1 hp with rfl | hp
        · exact n1
        · exact k1 p hp
      · rcases List.mem_cons.1 hp with rfl | hp
        · rcases List.mem_cons.1 hq with rfl | hq
          · exact absurd rfl hpq
          · exact fun hb' => n3 b hb b ((h2 b).2 ⟨q, hq, hb'⟩) rfl
        · rcases List.mem_cons.1 hq with rfl | hq
          · exact fun hb' => n3 b hb' b ((h2 b).2 ⟨p, hp, hb⟩) rfl
          · exact k2 p hp q hq b hpq hb
    · simp only [updL]
      by_cases hji : j = id
      · subst hji; rw [upd_same, upd_same]; exact hC
      · rw [upd_ne _ _ _ _ hji, upd_ne _ _ _ _ hji]
        simp only [List.map_cons, List.mem_cons, hji, false_or] at hj
        exact h4 j hj
    · simp only [updL]
      rcases List.mem_cons.1 hp with rfl | hp
      · rw [upd_same]
      · rw [upd_ne _ _ _ _ (hne p hp)]; exact h5 p hp
  induction h with
  | nil =>
    intro vs F _ hF
    simp only [RepGL] at hF
    exact ⟨[], rfl, by simp [hF.2], fun _ => by simp, by simp, by simp⟩
  | data hx _ ih =>
    intro vs F hxs hF
    simp only [RepSL] at hxs
    obtain ⟨u, us, rfl, h1, h2⟩ := hxs
    simp only [RepGL, List.cons.injEq] at hF
    obtain ⟨_, _, F1, F2, ⟨rfl, rfl⟩, rfl, k1, k2⟩ := hF
    simp only [RepG] at k1
    obtain ⟨rfl, _⟩ := k1
    simpa using ih h2 k2
  | nils _ ih =>
    intro vs F hxs hF
    simp only [RepSL] at hxs
    obtain ⟨u, us, rfl, h1, h2⟩ := hxs
    simp only [RepGL, List.cons.injEq] at hF
    obtain ⟨_, _, F1, F2, ⟨rfl, rfl⟩, rfl, k1, k2⟩ := hF
    simp only [RepG] at k1
    obtain ⟨rfl, _⟩ := k1
    simpa using ih h2 k2
  | move _ _ _ hn _ ih =>
    intro vs F hxs hF
    simp only [RepSL] at hxs
    obtain ⟨u, us, rfl, h1, h2⟩ := hxs
    simp only [RepGL, List.cons.injEq] at hF
    obtain ⟨_, _, F1, F2, ⟨rfl, rfl⟩, rfl, k1, k2⟩ := hF
    simp only [RepG] at k1
    obtain ⟨rfl, _⟩ := k1
    obtain ⟨Ls, g1, g2, g3, g4, g5⟩ := ih h2 k2
    exact key hn (ch' := .dead) rfl g1 g2 g3 g4 g5
  | @ptr id m d d' ch ch' mk mk' _ _ _ _ ho hs ho' hh hn _ ih =>
    intro vs F hxs hF
    simp only [RepSL] at hxs
    obtain ⟨u, us, rfl, h1, h2⟩ := hxs
    simp only [RepGL, List.cons.injEq] at hF
    obtain ⟨_, _, F1, F2, ⟨rfl, rfl⟩, rfl, k1, k2⟩ := hF
    have hch := hr.chunks id
    rw [hh] at hch
    obtain ⟨hk, _⟩ := mk_val (φ := φ) ho (RepG.of_S _ _ h1) hch
    simp only [RepG] at k1
    obtain ⟨Ls, g1, g2, g3, g4, g5⟩ := ih h2 k2
    exact key hn ((open_iff k1.shape ho' hk).2 k1) g1 g2 g3 g4 g5

/-- The state behind a call (without its result). -/
theorem Ref.called (hr : Ref c σ κ φ a w) {w' : World} {xs ins outs : List SV} {L : List (Nat × Ch)} {vs : List Value} {F1 F2 : List Nat} (h : HandL σ.h xs ins outs L) (hxs : RepSL w (own c φ) κ xs vs)
    (hback : RepGL w' (fun b => (own c φ b ∧ b ∉ footL φ L) ∨ b ∈ F1 ++ F2) κ0 outs vs F1) (hnod : (F1 ++ F2).Nodup) (hin : ∀ b ∈ F1 ++ F2, (b ∈ footL φ L ∨ w.heap.size ≤ b) ∧ b < w'.heap.size) (hchg : Chg w.heap.size (· ∈ footL φ L) w w') :
    ∃ φ1, Ref c ⟨σ.s, updL L σ.h⟩ κ φ1 a w' ∧ (∀ b, own c φ1 b → (own c φ b ∧ b ∉ footL φ L) ∨ b ∈ F1 ++ F2) ∧ ∀ id b, b ∈ F2 → b ∉ φ1 id := by
  obtain ⟨n1, n2, n3⟩ := List.nodup_append.1 hnod
  obtain ⟨Ls, g1, g2, g3, g4, g5⟩ := hand_back hr h hxs hback
  obtain ⟨g3a, g3b⟩ := g3 n1
  obtain ⟨_, hnd⟩ := hand_nodup hr h
  have hsub : ∀ j b, b ∈ updL Ls φ j → (j ∈ L.map Prod.fst ∧ b ∈ F1 ∧ ∃ p ∈ Ls, p.1 = j ∧ b ∈ p.2) ∨ (j ∉ L.map Prod.fst ∧ b ∈ φ j) := fun j b hb => by
    by_cases hj : j ∈ L.map Prod.fst
    · have hj' := hj
      rw [← g1] at hj
      obtain ⟨p, hp, rfl⟩ := List.mem_map.1 hj
      rw [g5 p hp] at hb
      exact .inl ⟨hj', (g2 b).2 ⟨p, hp, hb⟩, p, hp, rfl, hb⟩
    · rw [updL_not (by rw [g1]; exact hj)] at hb
      exact .inr ⟨hj, hb⟩
  have hownsub : ∀ b, own c (updL Ls φ) b → (own c φ b ∧ b ∉ footL φ L) ∨ b ∈ F1 ++ F2 := fun b hb => by
    rcases hb with hb | ⟨j, hb⟩
    · refine .inl ⟨.inl hb, fun hf => ?_⟩
      obtain ⟨id, _, hi⟩ := mem_footL.1 hf
      exact own_not hr hi hb
    · rcases hsub j b hb with ⟨_, h1, _⟩ | ⟨hj, h1⟩
      · exact .inr (by simp [h1])
      · refine .inl ⟨.inr ⟨j, h1⟩, fun hf => ?_⟩
        obtain ⟨id, hid, hi⟩ := mem_footL.1 hf
        exact hr.sep j id b (fun e => hj (e ▸ hid)) h1 hi
  have hext : Ext w (own c φ) w' (own c (updL Ls φ)) := ⟨hchg.size, fun b hb hm => ⟨hchg.block b hb fun hf => by
      obtain ⟨id, _, hi⟩ := mem_footL.1 hf
      exact hm (.inr ⟨id, hi⟩), fun ho => by
      rcases hownsub b ho with h | h
      · exact hm h.1
      · rcases (hin b h).1 with h | h
        · obtain ⟨id, _, hi⟩ := mem_footL.1 h
          exact hm (.inr ⟨id, hi⟩)
        · omega⟩⟩
  have hkeep : ∀ j, j ∉ L.map Prod.fst → ∀ b ∈ φ j, w'.heap[b]? = w.heap[b]? := fun j hj b hb => hchg.block b (hr.mine j b hb).1 fun hf => by
    obtain ⟨id, hid, hi⟩ := mem_footL.1 hf
    exact hr.sep j id b (fun e => hj (e ▸ hid)) hb hi
  refine ⟨updL Ls φ, ⟨?_, Nat.le_trans hr.size hchg.size, hr.m0, hr.ntmps, hr.defers, hr.kok, fun i hi => RepS.ext hext _ _ (hr.slots i hi), fun i v hv => RepS.ext hext _ _ (hr.ghost i v hv), fun j => ?_, fun j b hb => ?_, fun j => ?_, fun i j b hij hi hj => ?_⟩, hownsub, fun id b hb hbi => ?_⟩
  · refine hr.chg.trans ⟨hchg.os, hchg.tape, hchg.output, hchg.size, fun b hb hA => hchg.block b (Nat.lt_of_lt_of_le hb hr.size) fun hf => ?_⟩
    obtain ⟨id, _, hi⟩ := mem_footL.1 hf
    rcases (hr.mine id b hi).2 with h | h
    · omega
    · exact hA h
  · by_cases hj : j ∈ L.map Prod.fst
    · exact (g4 j hj).ext (Ext.shrink hownsub) (fun _ _ => rfl)
    · dsimp only
      rw [updL_not hj, updL_not (by rw [g1]; exact hj)]
      exact (hr.chunks j).ext hext (hkeep j hj)
  · rcases hsub j b hb with ⟨_, h1, _⟩ | ⟨hj, h1⟩
    · have := hin b (by simp [h1])
      refine ⟨this.2, ?_⟩
      rcases this.1 with h | h
      · obtain ⟨id, _, hi⟩ := mem_footL.1 h
        exact (hr.mine id b hi).2
      · exact .inl (Nat.le_trans hr.size h)
    · exact ⟨Nat.lt_of_lt_of_le (hr.mine j b h1).1 hchg.size, (hr.mine j b h1).2⟩
  · by_cases hj : j ∈ L.map Prod.fst
    · rw [← g1] at hj
      obtain ⟨p, hp, rfl⟩ := List.mem_map.1 hj
      rw [g5 p hp]; exact g3a p hp
    · rw [updL_not (by rw [g1]; exact hj)]; exact hr.nod j
  · rcases hsub i b hi with ⟨_, h1, p, hp, rfl, hbp⟩ | ⟨hi', h1⟩
    · rcases hsub j b hj with ⟨_, _, q, hq, rfl, hbq⟩ | ⟨hj', h2⟩
      · exact g3b p hp q hq b hij hbp hbq
      · rcases (hin b (by simp [h1])).1 with h | h
        · obtain ⟨id, hid, hi⟩ := mem_footL.1 h
          exact hr.sep j id b (fun e => hj' (e ▸ hid)) h2 hi
        · have := (hr.mine j b h2).1; omega
    · rcases hsub j b hj with ⟨_, h2, _⟩ | ⟨hj', h2⟩
      · rcases (hin b (by simp [h2])).1 with h | h
        · obtain ⟨id, hid, hi⟩ := mem_footL.1 h
          exact hr.sep i id b (fun e => hi' (e ▸ hid)) h1 hi
        · have := (hr.mine i b h1).1; omega
      · exact hr.sep i j b hij h1 h2
  · rcases hsub id b hbi with ⟨_, h1, _⟩ | ⟨hj', h2⟩
    · exact n3 b h1 b hb rfl
    · rcases (hin b (by simp [hb])).1 with h | h
      · obtain ⟨i, hid, hi⟩ := mem_footL.1 h
        exact hr.sep id i b (fun e => hj' (e ▸ hid)) h2 hi
      · have := (hr.mine id b h2).1; omega

/-- The state behind a call whose result is owned: it is chunk dst. -/
theorem Ref.called2 (hr : Ref c σ κ φ a w) {w' : World} {xs ins outs : List SV} {L : List (Nat × Ch)} {vs : List Value} {F1 F2 : List Nat} (h : HandL σ.h xs ins outs L) (hxs : RepSL w (own c φ) κ xs vs)
    (hback : RepGL w' (fun b => (own c φ b ∧ b ∉ footL φ L) ∨ b ∈ F1 ++ F2) κ0 outs vs F1) (hnod : (F1 ++ F2).Nodup) (hin : ∀ b ∈ F1 ++ F2, (b ∈ footL φ L ∨ w.heap.size ≤ b) ∧ b < w'.heap.size) (hchg : Chg w.heap.size (· ∈ footL φ L) w w')
    {dst : Nat} {u : Value} {ch : Ch} (hone : u.oneCell' = true) (hres : RepC w' (fun b => (own c φ b ∧ b ∉ footL φ L) ∨ b ∈ F1 ++ F2) (upd κ dst u) dst ch F2) :
    ∃ φ1, Ref c ⟨repS dst .any σ.s, upd (repH dst .any (updL L σ.h)) dst ch⟩ (upd κ dst u) φ1 a w' ∧ (∀ b, own c φ1 b → (own c φ b ∧ b ∉ footL φ L) ∨ b ∈ F1 ++ F2) := by
  obtain ⟨n1, n2, n3⟩ := List.nodup_append.1 hnod
  obtain ⟨Ls, g1, g2, g3, g4, g5⟩ := hand_back hr h hxs hback
  obtain ⟨g3a, g3b⟩ := g3 n1
  obtain ⟨_, hnd⟩ := hand_nodup hr h
  have hsub : ∀ j b, b ∈ updL Ls φ j → (j ∈ L.map Prod.fst ∧ b ∈ F1 ∧ ∃ p ∈ Ls, p.1 = j ∧ b ∈ p.2) ∨ (j ∉ L.map Prod.fst ∧ b ∈ φ j) := fun j b hb => by
    by_cases hj : j ∈ L.map Prod.fst
    · have hj' := hj
      rw [← g1] at hj
      obtain ⟨p, hp, rfl⟩ := List.mem_map.1 hj
      rw [g5 p hp] at hb
      exact .inl ⟨hj', (g2 b).2 ⟨p, hp, hb⟩, p, hp, rfl, hb⟩
    · rw [updL_not (by rw [g1]; exact hj)] at hb
      exact .inr ⟨hj, hb⟩
  have hown1 : ∀ b, own c (updL Ls φ) b → (own c φ b ∧ b ∉ footL φ L) ∨ b ∈ F1 ++ F2 := fun b hb => by
    rcases hb with hb | ⟨j, hb⟩
    · refine .inl ⟨.inl hb, fun hf => ?_⟩
      obtain ⟨id, _, hi⟩ := mem_footL.1 hf
      exact own_not hr hi hb
    · rcases hsub j b hb with ⟨_, h1, _⟩ | ⟨hj, h1⟩
      · exact .inr (by simp [h1])
      · refine .inl ⟨.inr ⟨j, h1⟩, fun hf => ?_⟩
        obtain ⟨id, hid, hi⟩ := mem_footL.1 hf
        exact hr.sep j id b (fun e => hj (e ▸ hid)) h1 hi
  have hcase : ∀ j b, b ∈ upd (updL Ls φ) dst F2 j → (j = dst ∧ b ∈ F2) ∨ (j ≠ dst ∧ b ∈ updL Ls φ j) := fun j b hb => by
    by_cases hj : j = dst
    · subst hj; rw [upd_same] at hb; exact .inl ⟨rfl, hb⟩
    · rw [upd_ne _ _ _ _ hj] at hb; exact .inr ⟨hj, hb⟩
  have hownsub : ∀ b, own c (upd (updL Ls φ) dst F2) b → (own c φ b ∧ b ∉ footL φ L) ∨ b ∈ F1 ++ F2 := fun b hb => by
    rcases hb with hb | ⟨j, hb⟩
    · exact hown1 b (.inl hb)
    · rcases hcase j b hb with ⟨_, h1⟩ | ⟨_, h1⟩
      · exact .inr (by simp [h1])
      · exact hown1 b (.inr ⟨j, h1⟩)
  have hext : Ext w (own c φ) w' (own c (upd (updL Ls φ) dst F2)) := ⟨hchg.size, fun b hb hm => ⟨hchg.block b hb fun hf => by
      obtain ⟨id, _, hi⟩ := mem_footL.1 hf
      exact hm (.inr ⟨id, hi⟩), fun ho => by
      rcases hownsub b ho with h | h
      · exact hm h.1
      · rcases (hin b h).1 with h | h
        · obtain ⟨id, _, hi⟩ := mem_footL.1 h
          exact hm (.inr ⟨id, hi⟩)
        · omega⟩⟩
  have hkeep : ∀ j, j ∉ L.map Prod.fst → ∀ b ∈ φ j, w'.heap[b]? = w.heap[b]? := fun j hj b hb => hchg.block b (hr.mine j b hb).1 fun hf => by
    obtain ⟨id, hid, hi⟩ := mem_footL.1 hf
    exact hr.sep j id b (fun e => hj (e ▸ hid)) hb hi
  have hany : ∀ (w : World) (M : Nat → Prop) (v : Value), Rep w M .any v := fun w M v => by unfold Rep; trivial
  have hF2 : ∀ j b, b ∈ F2 → b ∈ updL Ls φ j → False := fun j b hb hbj => by
    rcases hsub j b hbj with ⟨_, h1, _⟩ | ⟨hj', h2⟩
    · exact n3 b h1 b hb rfl
    · rcases (hin b (by simp [hb])).1 with h | h
      · obtain ⟨i, hid, hi⟩ := mem_footL.1 h
        exact hr.sep j i b (fun e => hj' (e ▸ hid)) h2 hi
      · have := (hr.mine j b h2).1; omega
  refine ⟨upd (updL Ls φ) dst F2, ⟨?_, Nat.le_trans hr.size hchg.size, hr.m0, hr.ntmps, hr.defers, fun j => ?_, fun i hi => repV_rep hext (hany _ _ _) _ _ (hr.slots i hi), fun i v hv => repV_rep hext (hany _ _ _) _ _ (hr.ghost i v hv), fun j => ?_, fun j b hb => ?_, fun j => ?_, fun i j b hij hi hj => ?_⟩, hownsub⟩
  · refine hr.chg.trans ⟨hchg.os, hchg.tape, hchg.output, hchg.size, fun b hb hA => hchg.block b (Nat.lt_of_lt_of_le hb hr.size) fun hf => ?_⟩
    obtain ⟨id, _, hi⟩ := mem_footL.1 hf
    rcases (hr.mine id b hi).2 with h | h
    · omega
    · exact hA h
  · by_cases hj : j = dst
    · subst hj; rw [upd_same]; exact hone
    · rw [upd_ne _ _ _ _ hj]; exact hr.kok j
  · dsimp only
    by_cases hjd : j = dst
    · subst hjd
      rw [upd_same, upd_same]
      exact hres.ext (Ext.shrink hownsub) (fun _ _ => rfl)
    · rw [upd_ne _ _ _ _ hjd, upd_ne _ _ _ _ hjd]
      by_cases hj : j ∈ L.map Prod.fst
      · exact repC_rep (Ext.shrink hownsub) (hany _ _ _) hjd (fun _ _ => rfl) (g4 j hj)
      · have := repC_rep (v := u) hext (hany _ _ (κ dst)) hjd (hkeep j hj) (hr.chunks j)
        rw [updL_not (by rw [g1]; exact hj)]
        simp only [repH]
        rw [updL_not hj]
        exact this
  · rcases hcase j b hb with ⟨_, h1⟩ | ⟨_, hb⟩
    · have := hin b (by simp [h1])
      refine ⟨this.2, ?_⟩
      rcases this.1 with h | h
      · obtain ⟨id, _, hi⟩ := mem_footL.1 h
        exact (hr.mine id b hi).2
      · exact .inl (Nat.le_trans hr.size h)
    · rcases hsub j b hb with ⟨_, h1, _⟩ | ⟨hj, h1⟩
      · have := hin b (by simp [h1])
        refine ⟨this.2, ?_⟩
        rcases this.1 with h | h
        · obtain ⟨id, _, hi⟩ := mem_footL.1 h
          exact (hr.mine id b hi).2
        · exact .inl (Nat.le_trans hr.size h)
      · exact ⟨Nat.lt_of_lt_of_le (hr.mine j b h1).1 hchg.size, (hr.mine j b h1).2⟩
  · by_cases hjd : j = dst
    · subst hjd; rw [upd_same]; exact n2
    · rw [upd_ne _ _ _ _ hjd]
      by_cases hj : j ∈ L.map Prod.fst
      · rw [← g1] at hj
        obtain ⟨p, hp, rfl⟩ := List.mem_map.1 hj
        rw [g5 p hp]; exact g3a p hp
      · rw [updL_not (by rw [g1]; exact hj)]; exact hr.nod j
  · rcases hcase i b hi with ⟨ei, hi2⟩ | ⟨_, hi⟩
    · rcases hcase j b hj with ⟨ej, hj2⟩ | ⟨_, hj⟩
      · exact hij (ei.trans ej.symm)
      · exact hF2 j b hi2 hj
    · rcases hcase j b hj with ⟨ej, hj2⟩ | ⟨_, hj⟩
      · exact hF2 i b hj2 hi
      · rcases hsub i b hi with ⟨_, h1, p, hp, rfl, hbp⟩ | ⟨hi', h1⟩
        · rcases hsub j b hj with ⟨_, _, q, hq, rfl, hbq⟩ | ⟨hj', h2⟩
          · exact g3b p hp q hq b hij hbp hbq
          · rcases (hin b (by simp [h1])).1 with h | h
            · obtain ⟨id, hid, hi⟩ := mem_footL.1 h
              exact hr.sep j id b (fun e => hj' (e ▸ hid)) h2 hi
            · have := (hr.mine j b h2).1; omega
        · rcases hsub j b hj with ⟨_, h2, _⟩ | ⟨hj', h2⟩
          · rcases (hin b (by simp [h2])).1 with h | h
            · obtain ⟨id, hid, hi⟩ := mem_footL.1 h
              exact hr.sep i id b (fun e => hi' (e ▸ hid)) h1 hi
            · have := (hr.mine i b h1).1; omega
          · exact hr.sep i j b hij h1 h2
end

end Go.Proofs.YtcnohbiegjahkaaGreatDoor

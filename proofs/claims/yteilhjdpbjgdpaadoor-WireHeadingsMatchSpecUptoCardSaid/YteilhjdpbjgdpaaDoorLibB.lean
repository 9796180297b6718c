/-
  Calls whose result is an owned slice; bytes.Clone.
-/
import Derived.Test.YteilhjdpbjgdpaaDoorLibO
import Derived.Test.YteilhjdpbjgdpaaDoorEngY
import Derived.Test.YteilhjdpbjgdpaaDoorShelfB
import Derived.KernelRfl
namespace Go.Proofs.YteilhjdpbjgdpaaDoor
set_option linter.unusedSimpArgs false
set_option linter.unusedVariables false
open Go.RowKit Go.Shelf Go.Lib

theorem dR_flat : ∀ (rows : List (List DV)), (rows.map dR).flatten = dR rows.flatten
  | [] => rfl
  | r :: rows => by
    have ih := dR_flat rows
    simp only [dR, List.map_cons, List.flatten_cons, List.map_append] at ih ⊢
    rw [ih]
/-- A contract whose result is an owned slice, out of what the kit says of the call. -/
theorem own_spec {P : Program} {f : FuncId} {args : List DV} {rows : List (List DV)} {size e : Nat} (hcall : callable P f = true) (hall : ∀ r ∈ rows, r.length = size)
    (h : ∀ (w : World) (M : Nat → Prop) (vs : List Value), (∀ b, M b → b < w.heap.size) → RepL w M args vs → Calls P f vs.toArray w fun ev w' => ∃ v news, ev = .returned v ∧ w'.ownsRow w.heap.size e size v rows.length news ∧ RepL w M rows.flatten news ∧ (∀ u ∈ news, u.oneCell' = true) ∧ Below w.heap.size w w') :
    FSpec P f (args.map .d) (.own (.sl e (List.replicate size .sh)) (.slice rows)) (args.map .d) := by
  refine ⟨hcall, fun w M vs F hM hF hn hv => ?_⟩
  have hno : SV.noOwns (args.map SV.d) = true := toDVs_noOwns _ _ (dR_toDVs args)
  obtain ⟨hS, rfl⟩ := RepGL.to_S _ _ _ hno hv
  have hR := RepSL.toDVs _ _ _ hS (dR_toDVs args)
  refine (h w _ vs (fun b hb => by rcases hb with hb | hb; exact (hM b hb).1; cases hb) hR).mono ?_
  rintro ev w' ⟨v, news, rfl, ho, hnews, h1, hB⟩
  have hfresh : ∀ b ∈ blkL v, w.heap.size ≤ b ∧ b < w'.heap.size := by
    intro b hb
    rcases ho.2 with ⟨rfl, _⟩ | ⟨g, cap, cur, rfl, hb2, hg, _⟩
    · simp [blkL, blk] at hb
    · simp [blkL, blk] at hb
      subst hb
      exact ⟨hb2, (Array.getElem?_eq_some_iff.1 hg).1⟩
  have hext : Ext w (fun b => M b ∨ b ∈ ([] : List Nat)) w' (fun b => M b ∨ b ∈ [] ++ blkL v) := ⟨hB.size, fun b hb hm => ⟨hB.block b hb, fun hm' => by
    rcases hm' with hm' | hm'
    · exact hm (.inl hm')
    · have := (hfresh b (by simpa using hm')).1; omega⟩⟩
  refine ⟨v, [], blkL v, rfl, RepGL.of_S _ _ (RepSL.of_d (hR.ext hext)), ?_, ?_, ?_, Chg.of_below hB⟩
  · unfold RepG RepO
    refine ⟨rows, news, [], rfl, ⟨by simpa using ho.1, ?_⟩, h1, by simpa using hall, ?_, by simp⟩
    · rcases ho.2 with hn | ⟨g, cap, cur, hv, hb, rest⟩
      · exact .inl hn
      · simp only [List.length_replicate]
        exact .inr ⟨g, cap, cur, hv, Nat.zero_le _, rest⟩
    · refine (ownRows_iff (κ := κ0) (by simpa using hall)).1 ?_
      have e1 : rows.map (ownR (List.replicate size .sh)) = rows.map dR := List.map_congr_left fun r hr => by
        have := ownR_sh (row := fun _ : Unit => r) (n := size) (fun _ => hall r hr) [()]
        simpa [vrow] using this
      rw [e1, dR_flat]
      exact RepGL.of_S _ _ (RepSL.of_d (hnews.ext hext))
  · cases hv' : blk v with
    | none => simp [blkL, hv']
    | some b => simp [blkL, hv']
  · intro b hb
    have := hfresh b (by simpa using hb)
    exact ⟨.inr this.1, this.2⟩

def m_bytes_Clone (l : List UInt8) : Option (List UInt8) := if l.length ≤ 137438953472 then some l else none
theorem byte_news {w : World} {M : Nat → Prop} : ∀ {l : List UInt8} {news : List Value}, RepL w M (l.map rowY).flatten news → news = (l.map fun b => (b.toNat : Int)).map (Value.int .u8)
  | [], news, h => by simpa [RepL] using h
  | b :: l, news, h => by
    simp only [List.map_cons, List.flatten_cons, rowY, List.cons_append, List.nil_append, RepL, Rep] at h
    obtain ⟨u, us, rfl, rfl, h⟩ := h
    rw [byte_news h]
    rfl
theorem spec_bytes_Clone (l : List UInt8) : ∀ r, m_bytes_Clone l = some r → FSpec Tryd.prog 20 (([.slice (List.map rowY l)] : List DV).map .d) (.own (.sl 5 (List.replicate 1 .sh)) (.slice (List.map rowY r))) (([.slice (List.map rowY l)] : List DV).map .d) := by
  intro r hr
  unfold m_bytes_Clone at hr
  split at hr
  · rename_i hlen
    cases hr
    refine own_spec (by kernel_rfl) (by intro r hr; obtain ⟨b, _, rfl⟩ := List.mem_map.1 hr; rfl) (fun w M vs hM hv => ?_)
    simp only [RepL] at hv
    obtain ⟨u, us, rfl, hu, rfl⟩ := hv
    have hS : RepS w M (fun _ => .pointer none) (.d (.slice (l.map rowY))) u := by simpa only [RepS] using hu
    obtain ⟨ad, cap, news, hu', k1, k2, k3⟩ := rowsY_rep (sz := 1) hS (rows2 := (l.map rowY).map dR) rfl (by intro r hr; obtain ⟨q, hq, rfl⟩ := List.mem_map.1 hr; obtain ⟨b, _, rfl⟩ := List.mem_map.1 hq; simp [dR, rowY])
    simp only [List.length_map] at hu'
    rw [dR_flatten] at k1
    have k1' : RepL w M (l.map rowY).flatten news := RepSL.toDVs _ _ _ k1 (dR_toDVs _)
    have hnews := byte_news k1'
    have hone : ∀ u ∈ news, u.oneCell' = true := k2
    have fin : ∀ v' w', w'.ownsRow w.heap.size 5 1 v' l.length ((l.map fun b => (b.toNat : Int)).map (Value.int .u8)) → Below w.heap.size w w' → ∃ v news', Ending.returned v' = Ending.returned v ∧ w'.ownsRow w.heap.size 5 1 v (l.map rowY).length news' ∧ RepL w M (l.map rowY).flatten news' ∧ (∀ u ∈ news', u.oneCell' = true) ∧ Below w.heap.size w w' := fun v' w' ho hB =>
      ⟨v', news, rfl, by rw [hnews, List.length_map]; exact ho, k1', hone, hB⟩
    subst hu'
    cases ad with
    | none =>
      have hl : l = [] := by
        unfold Rep at hu
        obtain ⟨a', cap', he, _, hn', hc⟩ := hu
        simp only [Value.slice.injEq, List.length_map] at he
        rcases hc with hc | ⟨b, o, sz, hc, _⟩
        · simpa using hc
        · rw [← he.1] at hc; cases hc
      subst hl
      refine (Any.bytes_Clone_nil Tryd.lays4 0 cap w).mono ?_
      rintro e w' ⟨rfl, rfl⟩
      exact fin _ _ ⟨rfl, .inl ⟨rfl, rfl⟩⟩ (Below.refl _ _)
    | some a =>
      refine (Any.bytes_Clone_at Tryd.lays4 a l.length cap (l.map fun b => (b.toNat : Int)) w (by simp) (by omega) (fun i hi => ?_)).mono ?_
      · rcases k3 with ⟨h0, _⟩ | ⟨b, o, ha, hcells⟩
        · have : l = [] := by simpa using h0
          subst this; simp at hi
        · cases ha
          rw [addr_add]
          refine hcells i _ ?_
          rw [hnews]
          simp [List.getElem?_map, List.getD_eq_getElem?_getD, List.getElem?_eq_getElem hi]
      · rintro e w' ⟨v', rfl, ho, -, hB⟩
        exact fin v' w' ho hB
  · cases hr
end Go.Proofs.YteilhjdpbjgdpaaDoor

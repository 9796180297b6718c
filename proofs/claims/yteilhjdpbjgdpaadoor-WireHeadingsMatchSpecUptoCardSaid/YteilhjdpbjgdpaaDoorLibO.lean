/-
  A row that a call has made, as data.
-/
import Derived.Test.YteilhjdpbjgdpaaDoorEngX
namespace Go.Proofs.YteilhjdpbjgdpaaDoor
set_option linter.unusedSimpArgs false
set_option linter.unusedVariables false
open Go.RowKit Go.Lib
theorem dR_toDVs : ∀ (l : List DV), SV.toDVs (dR l) = some l
  | [] => rfl
  | d :: l => by
    have ih := dR_toDVs l
    simp only [dR, List.map_cons, SV.toDVs, SV.toDV] at ih ⊢
    rw [ih]
theorem chunkR_flat {α : Type} {sz : Nat} : ∀ (rows : List (List α)), (∀ r ∈ rows, r.length = sz) → chunkR sz rows.length rows.flatten = rows
  | [], _ => rfl
  | r :: rows, h => by
    have hr := h r (by simp)
    simp only [List.length_cons, chunkR, List.flatten_cons]
    rw [List.take_append_of_le_length (by omega), List.drop_append_of_le_length (by omega), List.take_of_length_le (by omega), List.drop_of_length_le (by omega), List.nil_append, chunkR_flat rows fun r hr => h r (by simp [hr])]
/-- What comes back, as data. -/
theorem owned_rep {w w' : World} {M : Nat → Prop} {e size : Nat} {v : Value} {rows : List (List DV)} {news : List Value} (hM : ∀ b, M b → b < w.heap.size) (hall : ∀ r ∈ rows, r.length = size) (ho : w'.ownsRow w.heap.size e size v rows.length news) (hrep : RepL w' M rows.flatten news) (h1 : ∀ u ∈ news, u.oneCell' = true) : Rep w' M (.slice rows) v := by
  have ho' := ho
  rcases ho.2 with ⟨rfl, hn⟩ | ⟨g, cap, cur, rfl, hb, hg, hnc, hcm, hcs, htake⟩
  · have : rows = [] := List.length_eq_zero_iff.1 hn
    subst this
    unfold Rep
    exact ⟨none, 0, rfl, Nat.le_refl _, fun _ => rfl, .inl rfl⟩
  · unfold Rep
    refine ⟨some ⟨g, 0, none⟩, cap, rfl, hnc, by simp, .inr ⟨g, 0, size, rfl, fun hm => ?_, (Array.getElem?_eq_some_iff.1 hg).1, ?_⟩⟩
    · have := hM g hm; omega
    · have h2 := RepRows.of_cells (n := rows.length) (sz := size) (b := g) (o := 0) hrep h1 (fun j u hj => by
        have := ho'.cells (g := g) rfl j u hj
        rw [addr_add] at this
        exact this) (by rw [flatten_len hall])
      rwa [chunkR_flat rows hall] at h2
end Go.Proofs.YteilhjdpbjgdpaaDoor

/-
  strings.IndexByte and strings.ContainsAny (of ASCII).
-/
import Derived.Test.YteilhjdpbjgdpaaDoorEngY
import Derived.Test.YteilhjdpbjgdpaaDoorShelf
import Derived.KernelRfl
namespace Go.Proofs.YteilhjdpbjgdpaaDoor
set_option linter.unusedSimpArgs false
set_option linter.unusedVariables false
open Go.RowKit Go.Shelf

def m_strings_IndexByte (s : List UInt8) (c : UInt8) : Option Int := some (Lib.indexByte s c)
theorem spec_strings_IndexByte (s : List UInt8) (c : UInt8) : ∀ r, m_strings_IndexByte s c = some r → PureSpec Tryd.prog 82 [.str s, .int .u8 c.toNat] (.int .i64 r) := by
  intro r hr
  cases hr
  refine ⟨by kernel_rfl, fun w M vs hM hv => ?_⟩
  simp only [RepL, Rep] at hv
  obtain ⟨u, us, rfl, rfl, u', us', rfl, rfl, rfl⟩ := hv
  have hcon := Any.strings_IndexByte Tryd.lays137 ⟨s.toArray⟩ (c.toNat : Int) w
  refine Calls.mono hcon ?_
  rintro e w' ⟨rfl, rfl⟩
  refine ⟨_, rfl, ?_, Below.refl _ _⟩
  simp only [Rep]
  have : ((c.toNat : Int)).toNat.toUInt8 = c := by simp
  rw [this]
def m_strings_ContainsAny (s cs : List UInt8) : Option Bool := if s.length < 4294967281 ∧ cs.length < 4294967281 ∧ s.all (fun b => decide (b.toNat < 128)) = true ∧ cs.all (fun b => decide (b.toNat < 128)) = true then some (Lib.containsAny s cs) else none
theorem spec_strings_ContainsAny (s cs : List UInt8) : ∀ r, m_strings_ContainsAny s cs = some r → PureSpec Tryd.prog 80 [.str s, .str cs] (.bool r) := by
  intro r hr
  unfold m_strings_ContainsAny at hr
  split at hr
  · rename_i h
    obtain ⟨h1, h2, h3, h4⟩ := h
    cases hr
    refine ⟨by kernel_rfl, fun w M vs hM hv => ?_⟩
    simp only [RepL, Rep] at hv
    obtain ⟨u, us, rfl, rfl, u', us', rfl, rfl, rfl⟩ := hv
    have asc : ∀ (l : List UInt8), l.all (fun b => decide (b.toNat < 128)) = true → ∀ (j : Nat) b, l[j]? = some b → b.toNat < 128 := fun l hl j b hb => by
      have := List.all_eq_true.1 hl b (List.mem_of_getElem? hb)
      simpa using this
    have hcon := Any.strings_ContainsAny_laid Tryd.lays150 (by kernel_rfl) ⟨s.toArray⟩ ⟨cs.toArray⟩ w (by simpa [ByteArray.size] using h1) (by simpa [ByteArray.size] using h2) (asc s h3) (asc cs h4)
    refine Calls.mono hcon ?_
    rintro e w' ⟨rfl, hB⟩
    exact ⟨_, rfl, by simp [Rep], hB⟩
  · cases hr
end Go.Proofs.YteilhjdpbjgdpaaDoor

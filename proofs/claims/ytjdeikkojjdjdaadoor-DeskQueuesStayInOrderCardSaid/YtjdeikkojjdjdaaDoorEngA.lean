/-
  The engine, part A: data values, how a value reads as a data value, and what keeps such a reading.
-/
import Derived.Calls
import Derived.Orders
import Derived.Below
import Derived.WalkKit
namespace Go.Proofs.YtjdeikkojjdjdaaDoor
set_option linter.unusedSimpArgs false
set_option linter.unusedVariables false
open Go.RowKit

/-- What a value says, whatever memory it lies in. -/
inductive DV where
  | int (k : IntKind) (n : Int)
  | bool (b : Bool)
  | str (s : List UInt8)
  | slice (rows : List (List DV))
  | agg (cs : List DV)
  | tup (cs : List DV)
  | ptr (cs : List DV)
  | fn (f : FuncId) (caps : List DV)
  | raw (v : Value)
  | err
  | any

mutual
/-- The value v reads as the data value, in cells of blocks outside M. -/
def Rep (w : World) (M : Nat → Prop) : DV → Value → Prop
  | .int k n, v => v = .int k n
  | .bool b, v => v = .bool b
  | .str s, v => v = .string ⟨s.toArray⟩
  | .slice rows, v => ∃ a cap, v = .slice a rows.length cap ∧ rows.length ≤ cap ∧ (a = none → cap = 0) ∧
      (rows = [] ∨ ∃ b o sz, a = some ⟨b, o, none⟩ ∧ ¬ M b ∧ b < w.heap.size ∧ RepRows w M rows b o sz)
  | .agg cs, v => ∃ vs : List Value, v = .agg vs.toArray ∧ (∀ x ∈ vs, x.oneCell' = true) ∧ RepL w M cs vs
  | .tup cs, v => ∃ vs : List Value, v = .tuple vs.toArray ∧ RepL w M cs vs
  | .ptr cs, v => ∃ b o, v = .pointer (some ⟨b, o, none⟩) ∧ ¬ M b ∧ b < w.heap.size ∧ RepAt w M cs b o
  | .fn f caps, v => ∃ vs : List Value, v = .func (.func f) #[] vs.toArray ∧ RepL w M caps vs
  | .raw u, v => v = u
  | .err, v => ∃ t u, v = .iface t u
  | .any, _ => True
def RepL (w : World) (M : Nat → Prop) : List DV → List Value → Prop
  | [], vs => vs = []
  | c :: cs, vs => ∃ u us, vs = u :: us ∧ Rep w M c u ∧ RepL w M cs us
def RepAt (w : World) (M : Nat → Prop) : List DV → Nat → Nat → Prop
  | [], _, _ => True
  | c :: cs, b, o => (∃ v, w.cell? ⟨b, o, none⟩ = some v ∧ v.oneCell' = true ∧ Rep w M c v) ∧ RepAt w M cs b (o + 1)
def RepRows (w : World) (M : Nat → Prop) : List (List DV) → Nat → Nat → Nat → Prop
  | [], _, _, _ => True
  | r :: rs, b, o, sz => r.length = sz ∧ RepAt w M r b o ∧ RepRows w M rs b (o + sz) sz
end

/-- w' has all that w has outside M (new blocks may be there), and M' is no more than M among the old blocks. -/
structure Ext (w : World) (M : Nat → Prop) (w' : World) (M' : Nat → Prop) : Prop where
  size : w.heap.size ≤ w'.heap.size
  keep : ∀ b, b < w.heap.size → ¬ M b → w'.heap[b]? = w.heap[b]? ∧ ¬ M' b

theorem Ext.cell {w w' : World} {M M' : Nat → Prop} (h : Ext w M w' M') {b o : Nat} (hb : b < w.heap.size) (hm : ¬ M b) :
    w'.cell? ⟨b, o, none⟩ = w.cell? ⟨b, o, none⟩ := by
  unfold World.cell?; simp only; rw [(h.keep b hb hm).1]

theorem Ext.refl (w : World) (M : Nat → Prop) : Ext w M w M := ⟨Nat.le_refl _, fun _ _ h => ⟨rfl, h⟩⟩

theorem Ext.trans {w w' w'' : World} {M M' M'' : Nat → Prop} (h : Ext w M w' M') (k : Ext w' M' w'' M'') : Ext w M w'' M'' :=
  ⟨Nat.le_trans h.size k.size, fun b hb hm => by
    obtain ⟨h1, h2⟩ := h.keep b hb hm
    obtain ⟨k1, k2⟩ := k.keep b (Nat.lt_of_lt_of_le hb h.size) h2
    exact ⟨k1.trans h1, k2⟩⟩

theorem Ext.shrink {w : World} {M M' : Nat → Prop} (h : ∀ b, M' b → M b) : Ext w M w M' :=
  ⟨Nat.le_refl _, fun b _ hm => ⟨rfl, fun h' => hm (h b h')⟩⟩

mutual
theorem Rep.ext {w w' : World} {M M' : Nat → Prop} (h : Ext w M w' M') : ∀ (d : DV) (v : Value), Rep w M d v → Rep w' M' d v
  | .int _ _, _, hr => by unfold Rep at *; exact hr
  | .bool _, _, hr => by unfold Rep at *; exact hr
  | .str _, _, hr => by unfold Rep at *; exact hr
  | .slice rows, v, hr => by
    unfold Rep at *
    obtain ⟨a, cap, hv, hl, hn, hc⟩ := hr
    refine ⟨a, cap, hv, hl, hn, ?_⟩
    rcases hc with hc | ⟨b, o, sz, ha, hm, hb, hrows⟩
    · exact .inl hc
    · exact .inr ⟨b, o, sz, ha, (h.keep b hb hm).2, Nat.lt_of_lt_of_le hb h.size, RepRows.ext h rows b o sz hb hm hrows⟩
  | .agg cs, v, hr => by
    unfold Rep at *
    obtain ⟨vs, hv, h1, hl⟩ := hr
    exact ⟨vs, hv, h1, RepL.ext h cs vs hl⟩
  | .tup cs, v, hr => by
    unfold Rep at *
    obtain ⟨vs, hv, hl⟩ := hr
    exact ⟨vs, hv, RepL.ext h cs vs hl⟩
  | .ptr cs, v, hr => by
    unfold Rep at *
    obtain ⟨b, o, hv, hm, hb, hc⟩ := hr
    exact ⟨b, o, hv, (h.keep b hb hm).2, Nat.lt_of_lt_of_le hb h.size, RepAt.ext h cs b o hb hm hc⟩
  | .fn _ caps, v, hr => by
    unfold Rep at *
    obtain ⟨vs, hv, hl⟩ := hr
    exact ⟨vs, hv, RepL.ext h caps vs hl⟩
  | .raw _, _, hr => by unfold Rep at *; exact hr
  | .err, _, hr => by unfold Rep at *; exact hr
  | .any, _, _ => by unfold Rep; trivial
theorem RepL.ext {w w' : World} {M M' : Nat → Prop} (h : Ext w M w' M') : ∀ (cs : List DV) (vs : List Value), RepL w M cs vs → RepL w' M' cs vs
  | [], _, hr => by unfold RepL at *; exact hr
  | c :: cs, vs, hr => by
    unfold RepL at *
    obtain ⟨u, us, hv, h1, h2⟩ := hr
    exact ⟨u, us, hv, Rep.ext h c u h1, RepL.ext h cs us h2⟩
theorem RepAt.ext {w w' : World} {M M' : Nat → Prop} (h : Ext w M w' M') : ∀ (cs : List DV) (b o : Nat), b < w.heap.size → ¬ M b → RepAt w M cs b o → RepAt w' M' cs b o
  | [], _, _, _, _, _ => by unfold RepAt; trivial
  | c :: cs, b, o, hb, hm, hr => by
    unfold RepAt at *
    obtain ⟨⟨v, hv, h1, hc⟩, hrest⟩ := hr
    exact ⟨⟨v, by rw [h.cell hb hm]; exact hv, h1, Rep.ext h c v hc⟩, RepAt.ext h cs b (o + 1) hb hm hrest⟩
theorem RepRows.ext {w w' : World} {M M' : Nat → Prop} (h : Ext w M w' M') : ∀ (rs : List (List DV)) (b o sz : Nat), b < w.heap.size → ¬ M b → RepRows w M rs b o sz → RepRows w' M' rs b o sz
  | [], _, _, _, _, _, _ => by unfold RepRows; trivial
  | r :: rs, b, o, sz, hb, hm, hr => by
    unfold RepRows at *
    obtain ⟨h1, h2, h3⟩ := hr
    exact ⟨h1, RepAt.ext h r b o hb hm h2, RepRows.ext h rs b (o + sz) sz hb hm h3⟩
end

def callable (P : Program) (f : FuncId) : Bool :=
  match P.funcs[f]? with
  | some fn => fn.body.isSome && fn.name != "runtime.NumGoroutine"
  | none => false

/-- The contract of a function that only computes: it makes memory, and turns none that was there. -/
def PureSpec (P : Program) (f : FuncId) (args : List DV) (res : DV) : Prop :=
  callable P f = true ∧ ∀ (w : World) (M : Nat → Prop) (vs : List Value), (∀ b, M b → b < w.heap.size) → RepL w M args vs →
    Calls P f vs.toArray w fun e w' => ∃ v, e = .returned v ∧ Rep w' M res v ∧ Below w.heap.size w w'

end Go.Proofs.YtjdeikkojjdjdaaDoor

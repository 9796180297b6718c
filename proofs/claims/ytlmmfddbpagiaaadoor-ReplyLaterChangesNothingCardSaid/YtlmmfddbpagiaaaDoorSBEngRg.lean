/-
  The engine, part Rg: a range over a map, whose entries come in whatever order.
-/
import Derived.Test.YtlmmfddbpagiaaaDoorSBEngZz
import Derived.Maps.RangeRun
namespace Go.Proofs.YtlmmfddbpagiaaaDoor
set_option linter.unusedSimpArgs false
set_option linter.unusedVariables false
open Go.RowKit
open Go.ChangeMaps (setBlock)

theorem keyVal_rep {w : World} {M : Nat → Prop} {d : DV} {v : Value} (h : keyVal d = some v) : Rep w M d v := by
  cases d <;> simp [keyVal] at h <;> (subst h; unfold Rep; rfl)
theorem rep_keyVal {w : World} {M : Nat → Prop} {d : DV} {u v : Value} (h : keyVal d = some u) (hr : Rep w M d v) : v = u := by
  cases d <;> simp [keyVal] at h <;> (subst h; unfold Rep at hr; exact hr)

/-- The entries of a map, and what they say. -/
def EntOf (p : DV × DV) (e : MapEntry) : Prop := keyVal p.1 = some e.key ∧ keyVal p.2 = some e.val
inductive EntsOf : List (DV × DV) → List MapEntry → Prop
  | nil : EntsOf [] []
  | cons {p e l es} : EntOf p e → EntsOf l es → EntsOf (p :: l) (e :: es)

theorem repMap_ents {w : World} {M : Nat → Prop} {κ : Nat → Value} {kk : KK} : ∀ {l : List (DV × DV)} {es : List MapEntry} {F : List Nat}, (∀ p ∈ l, (keyVal p.2).isSome = true) → RepMap w M κ kk (l.map fun p => (p.1, .d p.2)) es F → EntsOf l es ∧ F = []
  | [], es, F, _, h => by
    unfold RepMap at h; obtain ⟨rfl, rfl⟩ := h; exact ⟨.nil, rfl⟩
  | p :: l, es, F, hv, h => by
    simp only [List.map_cons] at h
    unfold RepMap at h
    obtain ⟨e, rest, F1, F2, rfl, rfl, h1, h2, h3, h4⟩ := h
    unfold RepG at h3
    obtain ⟨rfl, h3⟩ := h3
    obtain ⟨h5, rfl⟩ := repMap_ents (fun q hq => hv q (by simp [hq])) h4
    obtain ⟨u, hu⟩ := Option.isSome_iff_exists.1 (hv p (by simp))
    unfold RepS at h3
    refine ⟨.cons ⟨h2, ?_⟩ h5, rfl⟩
    rw [rep_keyVal hu h3]; exact hu

/-- The entries with what they say. -/
theorem ents_zip : ∀ {l : List (DV × DV)} {es : List MapEntry}, EntsOf l es → ∃ z : List ((DV × DV) × MapEntry), z.map (·.1) = l ∧ z.map (·.2) = es ∧ ∀ x ∈ z, EntOf x.1 x.2
  | _, _, .nil => ⟨[], rfl, rfl, by simp⟩
  | p :: l, e :: es, .cons h hs => by
    obtain ⟨z, h1, h2, h3⟩ := ents_zip hs
    refine ⟨(p, e) :: z, by simp [h1], by simp [h2], fun x hx => ?_⟩
    rcases List.mem_cons.1 hx with rfl | hx
    · exact h
    · exact h3 x hx

/-- What is left when one entry has been handed out. -/
theorem left_perm {α : Type} {b : α → Nat} {x : α} : ∀ {l : List α}, (l.map b).Nodup → x ∈ l → l.Perm (x :: l.filter fun y => b y != b x)
  | y :: l, hn, hx => by
    have hn' : b y ∉ l.map b ∧ (l.map b).Nodup := List.nodup_cons.1 hn
    rcases List.mem_cons.1 hx with rfl | hx
    · have : l.filter (fun y => b y != b x) = l := List.filter_eq_self.2 fun z hz => by
        simp only [bne_iff_ne, ne_eq]
        intro he; exact hn'.1 (by rw [← he]; exact List.mem_map.2 ⟨z, hz, rfl⟩)
      rw [List.filter_cons, if_neg (by simp), this]
    · have hne : b y ≠ b x := fun he => hn'.1 (by rw [he]; exact List.mem_map.2 ⟨x, hx, rfl⟩)
      rw [List.filter_cons, if_pos (by simpa using hne)]
      exact ((left_perm hn'.2 hx).cons y).trans (List.Perm.swap _ _ _)

/-- An operation that gives a value. -/
theorem wpList_val {P : Program} {ops : Array Oper} {Q : Exit → Act → World → Prop} {o : Oper} {rest : List Oper} {a : Act} {w w' : World} {v : Value} (hg : o.guard = none) (hrun : (execOp a.eval o).run P w = .ok (.value v) w') (hk : wpList P ops Q rest (a.put o.dst v) w') : wpList P ops Q (o :: rest) a w :=
  wpList_plain hg fun K hK => by
    unfold Oper.wp
    rw [hrun]
    exact hK _ _ hk

section
variable {c : Cx} {σ : St} {κ : Nat → Value} {φ : Nat → List Nat} {a : Act} {w : World}

/-- A frame of its own within a running function: what happens behind it leaves two blocks alone. -/
structure Sub (c c1 : Cx) : Prop where
  n : c1.N = c.N
  gs : c1.gs = c.gs
  chg : Chg c.B c.A c.w0 c1.w0
  B : c.B ≤ c1.B
  M0 : ∀ b, c.M0 b → c1.M0 b
  A : ∀ b, c1.A b → c.B ≤ b ∨ c.A b

/-- Out of the frame again. -/
theorem Ref.back {c c1 : Cx} (hs : Sub c c1) (h0 : ∀ b, c.M0 b → b < c.B ∧ ¬ c.A b) (hr : Ref c1 σ κ φ a w) : Ref c σ κ φ a w := by
  have hsh : Ext w (own c1 φ) w (own c φ) := Ext.shrink fun b hb => by
    rcases hb with hb | hb
    · exact .inl (hs.M0 b hb)
    · exact .inr hb
  refine ⟨hs.chg.trans (hr.chg.mono hs.B fun b hb ha => ?_), Nat.le_trans hs.B hr.size, h0, by rw [hr.ntmps, hs.n], hr.defers, hr.kok, fun i hi => ?_, fun i v hv => ?_, fun id => (hr.chunks id).ext hsh fun _ _ => rfl, fun id b hb => ⟨(hr.mine id b hb).1, ?_⟩, hr.nod, hr.sep⟩
  · rcases hs.A b ha with h | h
    · omega
    · exact h
  · exact RepS.ext hsh _ _ (hr.slots i (by rw [hs.n]; exact hi))
  · have := hr.ghost i v (by rw [hs.gs]; exact hv)
    rw [hs.n] at this
    exact RepS.ext hsh _ _ this
  · rcases (hr.mine id b hb).2 with h | h
    · exact .inl (Nat.le_trans hs.B h)
    · exact hs.A b h

/-- The frame at a world, with some blocks held. -/
def frameAt (c : Cx) (w : World) (M : Nat → Prop) (φ : Nat → List Nat) (hg : Good w) (hf : Free fun b => ∃ id, b ∈ φ id) : Cx := ⟨w.heap.size, w, M, fun b => ∃ id, b ∈ φ id, c.N, c.gs, hg, hf, Nat.le_refl _⟩

theorem setBlock_heap {w : World} {q b : Nat} {o : Obj} (h : b ≠ q) : (setBlock w q o).heap[b]? = w.heap[b]? := by
  simp [setBlock, Array.getElem?_setIfInBounds, Ne.symm h]
theorem setBlock_at {w : World} {q : Nat} {o : Obj} (h : q < w.heap.size) : (setBlock w q o).heap[q]? = some o := by
  simp [setBlock, h]
theorem setBlock_size {w : World} {q : Nat} {o : Obj} : (setBlock w q o).heap.size = w.heap.size := by simp [setBlock]

/-- A held block has been written: the frame anew. -/
theorem Ref.again {c1 : Cx} (hr : Ref c1 σ κ φ a w) {q : Nat} (hq : c1.M0 q) (hqt : ∀ t ∈ tabs, t.1 ≠ q) {o : Obj} {w1 : World} (hw : w1 = w ∨ w1 = w.drew) :
    ∃ (hg : Good (setBlock w1 q o)) (hf : Free fun b => ∃ id, b ∈ φ id), Ref (frameAt c1 (setBlock w1 q o) c1.M0 φ hg hf) σ κ φ a (setBlock w1 q o) ∧ Chg c1.B c1.A c1.w0 w ∧ w1.heap = w.heap ∧ w1.os = w.os ∧ w1.tape = w.tape ∧ w1.output = w.output := by
  have hh : w1.heap = w.heap ∧ w1.os = w.os ∧ w1.tape = w.tape ∧ w1.output = w.output := by rcases hw with rfl | rfl <;> exact ⟨rfl, rfl, rfl, rfl⟩
  have hqlt : q < w.heap.size := hr.own_lt (.inl hq)
  have hkeep : ∀ b, b ≠ q → (setBlock w1 q o).heap[b]? = w.heap[b]? := fun b hb => by rw [setBlock_heap hb, hh.1]
  have hsz : (setBlock w1 q o).heap.size = w.heap.size := by rw [setBlock_size, hh.1]
  have hgood : Good (setBlock w1 q o) := fun t ht => by
    obtain ⟨u, f, hc⟩ := hr.good t ht
    exact ⟨u, f, by rw [hkeep _ (hqt t ht)]; exact hc⟩
  have hfree : Free fun b => ∃ id, b ∈ φ id := fun t ht hb => by
    obtain ⟨id, hb⟩ := hb
    exact hr.free (id := id) t ht hb
  have hown : own (frameAt c1 (setBlock w1 q o) c1.M0 φ hgood hfree) φ = own c1 φ := rfl
  have hext : Ext w (own c1 φ) (setBlock w1 q o) (own c1 φ) := ⟨Nat.le_of_eq hsz.symm, fun b hb hm => ⟨hkeep b fun he => hm (.inl (he ▸ hq)), hm⟩⟩
  have hmq : ∀ id b, b ∈ φ id → b ≠ q := fun id b hb he => by
    subst he
    have h1 := hr.m0 b hq
    rcases (hr.mine id b hb).2 with h | h
    · omega
    · exact h1.2 h
  refine ⟨hgood, hfree, ⟨Chg.refl _ _ _, Nat.le_refl _, fun b hb => ?_, hr.ntmps, hr.defers, hr.kok, fun i hi => ?_, fun i v hv => ?_, fun id => ?_, fun id b hb => ?_, hr.nod, hr.sep⟩, hr.chg, hh⟩
  · have h1 := hr.m0 b hb
    have := hr.size
    refine ⟨by show b < (setBlock w1 q o).heap.size; rw [hsz]; omega, fun ⟨id, hid⟩ => ?_⟩
    rcases (hr.mine id b hid).2 with h | h
    · omega
    · exact h1.2 h
  · rw [hown]; exact RepS.ext hext _ _ (hr.slots i hi)
  · rw [hown]; exact RepS.ext hext _ _ (hr.ghost i v hv)
  · rw [hown]; exact (hr.chunks id).ext hext fun b hb => hkeep b (hmq id b hb)
  · exact ⟨by rw [hsz]; exact (hr.mine id b hb).1, .inr ⟨id, hb⟩⟩

/-- Into a frame: a map goes out of sight, and a new block is held. -/
theorem Ref.into (hr : Ref c σ κ φ a w) {mid r d2 : Nat} (hF : φ mid = [r]) (hd : d2 < c.N) (o : Obj) :
    ∃ (hg : Good (w.alloc o)) (hf : Free fun b => ∃ id, b ∈ upd φ mid [] id), Ref (frameAt c (w.alloc o) (fun b => c.M0 b ∨ b = r ∨ b = w.heap.size) (upd φ mid []) hg hf) ⟨upd σ.s d2 (.d (.raw (.pointer (some ⟨w.heap.size, 0, none⟩)))), upd σ.h mid .dead⟩ κ (upd φ mid []) (a.put (some d2) (.pointer (some ⟨w.heap.size, 0, none⟩))) (w.alloc o) ∧
      Sub c (frameAt c (w.alloc o) (fun b => c.M0 b ∨ b = r ∨ b = w.heap.size) (upd φ mid []) hg hf) := by
  have hB : Below w.heap.size w (w.alloc o) := (Below.refl _ w).alloc (Nat.le_refl _) o
  have hgood : Good (w.alloc o) := hr.good.below hB
  have hsub : ∀ id b, b ∈ upd φ mid [] id → b ∈ φ id ∧ id ≠ mid := fun id b hb => by
    by_cases h : id = mid
    · subst h; rw [upd_same] at hb; cases hb
    · rw [upd_ne _ _ _ _ h] at hb; exact ⟨hb, h⟩
  have hfree : Free fun b => ∃ id, b ∈ upd φ mid [] id := fun t ht hb => by
    obtain ⟨id, hb⟩ := hb
    exact hr.free (id := id) t ht (hsub id _ hb).1
  have hr' : r ∈ φ mid := by rw [hF]; simp
  have hrlt : r < w.heap.size := (hr.mine mid r hr').1
  have hown : ∀ b, own (frameAt c (w.alloc o) (fun b => c.M0 b ∨ b = r ∨ b = w.heap.size) (upd φ mid []) hgood hfree) (upd φ mid []) b → own c φ b ∨ b = w.heap.size := by
    rintro b ((h | h | h) | ⟨id, h⟩)
    · exact .inl (.inl h)
    · subst h; exact .inl (.inr ⟨mid, hr'⟩)
    · exact .inr h
    · exact .inl (.inr ⟨id, (hsub id b h).1⟩)
  have hext : Ext w (own c φ) (w.alloc o) (own (frameAt c (w.alloc o) (fun b => c.M0 b ∨ b = r ∨ b = w.heap.size) (upd φ mid []) hgood hfree) (upd φ mid [])) := ⟨hB.size, fun b hb hm => ⟨hB.block b hb, fun h => by
    rcases hown b h with h | h
    · exact hm h
    · omega⟩⟩
  have hput := (hr.putS (x := .d (.raw (.pointer (some ⟨w.heap.size, 0, none⟩)))) (v := .pointer (some ⟨w.heap.size, 0, none⟩)) hd (by unfold RepS Rep; rfl)).drop mid
  have hsz := hr.size
  refine ⟨hgood, hfree, ⟨Chg.refl _ _ _, Nat.le_refl _, fun b hb => ?_, hput.ntmps, hput.defers, hr.kok, fun i hi => ?_, fun i v hv => ?_, fun id => ?_, fun id b hb => ?_, hput.nod, hput.sep⟩, ⟨rfl, rfl, hr.chg.trans (Chg.of_below (hB.mono hr.size)), Nat.le_trans hr.size hB.size, fun b hb => .inl hb, ?_⟩⟩
  · rcases hb with h | h | h
    · have h1 := hr.m0 b h
      refine ⟨Nat.lt_of_lt_of_le h1.1 (Nat.le_trans hr.size hB.size), fun ⟨id, hid⟩ => ?_⟩
      rcases (hr.mine id b (hsub id b hid).1).2 with h2 | h2
      · omega
      · exact h1.2 h2
    · subst h
      refine ⟨Nat.lt_of_lt_of_le hrlt hB.size, fun ⟨id, hid⟩ => ?_⟩
      exact hr.sep id mid b (hsub id b hid).2 (hsub id b hid).1 hr'
    · subst h
      refine ⟨by show w.heap.size < (w.alloc o).heap.size; simp [World.alloc_eq], fun ⟨id, hid⟩ => ?_⟩
      have := (hr.mine id _ (hsub id _ hid).1).1; omega
  · have h1 := hr.putS (x := .d (.raw (.pointer (some ⟨w.heap.size, 0, none⟩)))) (v := .pointer (some ⟨w.heap.size, 0, none⟩)) hd (by unfold RepS Rep; rfl)
    exact RepS.ext hext _ _ (h1.slots i hi)
  · have h1 := hr.putS (x := .d (.raw (.pointer (some ⟨w.heap.size, 0, none⟩)))) (v := .pointer (some ⟨w.heap.size, 0, none⟩)) hd (by unfold RepS Rep; rfl)
    exact RepS.ext hext _ _ (h1.ghost i v hv)
  · by_cases h : id = mid
    · subst h; simp only [upd_same]; rfl
    · simp only [upd_ne _ _ _ _ h]; exact (hr.chunks id).ext hext fun b hb => hB.block b (hr.mine id b hb).1
  · exact ⟨Nat.lt_of_lt_of_le (hr.mine id b (hsub id b hb).1).1 hB.size, .inr ⟨id, hb⟩⟩
  · rintro b ⟨id, hb⟩
    exact (hr.mine id b (hsub id b hb).1).2
end

/-- Behind a round of a range over a map. -/
def rngK (b1 b2 : Nat) (J : St → Prop) (Q : AX → St → Prop) : AX → St → Prop
  | .normal, σ => ∃ σ', Imp σ σ' ∧ J σ'
  | .exit i, σ => if i = b2 then ∃ σ', Imp σ σ' ∧ J σ' else if i = b1 then Q .normal σ else Q (.exit i) σ
  | .ret, σ => Q .ret σ

section
variable {P : Program} {c : Cx} {σ : St} {κ : Nat → Value} {φ : Nat → List Nat} {a : Act} {w : World}

theorem extract_run {t : Operand} {i d : Nat} {o : Oper} {vs : List Value} {v : Value} (ho : o.op = .extract t i) (ht : a.eval t = .tuple vs.toArray) (hv : vs[i]? = some v) : (execOp a.eval o).run P w = .ok (.value v) w := by
  simp only [execOp, ho, ht, Instr.extract]
  simp [hv]

/-- The rounds of a range over a map. -/
theorem range_rounds (hmix : P.follows .mixedOrders = true) {c : Cx} {R : Exit → Act → World → Prop} {Q : AX → St → Prop} (hp : PostOf c Q R) (h0 : ∀ b, c.M0 b → b < c.B ∧ ¬ c.A b)
    {d2 b1 dn df b2 de i2 i3 : Nat} {sos : List SO} {body : SC} {o3 : Array Oper} {on oe ox : Oper} {rest : List Oper} {bc : Code} {ty : TypeId}
    (hn1 : on.guard = none) (hn2 : on.dst = some dn) (hn3 : on.op = .next (.tmp d2) false) (hx1 : ox.guard = none) (hx2 : ox.dst = some df) (hx3 : ox.op = .extract (.tmp dn) 0)
    (he0 : o3.toList = oe :: rest) (he1 : oe.guard = none) (he2 : oe.dst = some de) (he3 : oe.op = .entry (.tmp d2)) (hdn : dn < c.N) (hdf : df < c.N) (hde : de < c.N) (hd2 : d2 < c.N) (hne1 : d2 ≠ dn) (hne2 : d2 ≠ df) (hne3 : dn ≠ df)
    (hmo : matchOps P c.N o3 rest sos = true) (hmb : matchC P c.N body bc = true) (hb12 : b1 ≠ b2)
    {r q clock : Nat} {es : List MapEntry} (hB : Born es clock) (hqt : ∀ t ∈ tabs, t.1 ≠ q) (hqc : c.B ≤ q)
    (I : List (DV × DV) → St → Prop) (hI : ∀ l σ, I l σ → σ.s d2 = .d (.raw (.pointer (some ⟨q, 0, none⟩))) ∧ σ.s dn = .d .any ∧ σ.s df = .d .any) (hperm : ∀ l l' σ, l'.Perm l → I l σ → I l' σ)
    (hstep : ∀ e l σ, I (e :: l) σ → AOps P (fun σ => AW P body (rngK b1 b2 (I l) Q) σ) sos ⟨upd σ.s de (.d (.tup [e.1, e.2])), σ.h⟩)
    (hend : ∀ σ, I [] σ → Q .normal σ) :
    ∀ (n : Nat) (z : List ((DV × DV) × MapEntry)) (seen : Array Nat) (c0 : Nat) (c1 : Cx) (σ : St) (κ : Nat → Value) (φ : Nat → List Nat) (a : Act) (w : World), z.length < n → (∀ x ∈ z, EntOf x.1 x.2) → (z.map (·.2)) = es.filter (fun e => !seen.contains e.born) → clock ≤ c0 →
      Sub c c1 → c1.M0 r → c1.M0 q → I (z.map (·.1)) σ → Ref c1 σ κ φ a w → w.heap[r]? = some (.map es.toArray clock) → w.heap[q]? = some (.mapIter (some r) clock seen c0) →
      Code.rounds P (.seq (.region i2 #[on, ox] false) (.seq (.cond (.tmp df) .skip (.exit b1)) (.block b2 (.seq (.region i3 o3 false) bc)))) (Exit.inBlock b1 R) n a w := by
  intro n
  induction n with
  | zero => intro z seen c0 c1 σ κ φ a w h; omega
  | succ n ih =>
    intro z seen c0 c1 σ κ φ a w hlt hz hzes hc0 hsub hMr hMq hIz hr hhr hhq
    rw [rounds_succ]
    have hN : c1.N = c.N := hsub.n
    obtain ⟨hs2, hsn, hsf⟩ := hI _ _ hIz
    have htd2 : a.tmps.getD d2 undef = .pointer (some ⟨q, 0, none⟩) := by
      have := hr.slots d2 (by rw [hN]; exact hd2)
      rw [hs2] at this
      unfold RepS Rep at this; exact this
    have hrun := run_next_at (P := P) w on.type q r clock c0 seen es.toArray clock hhq hhr (fun x hx => hB.1 x (by simpa using hx)) hc0
    have hleft : (leftOf es.toArray seen).toList = z.map (·.2) := by
      rw [hzes]; unfold leftOf; simp
    refine wp_seq (wp_region_list ?_)
    show wpList P #[on, ox] _ [on, ox] a w
    rcases hrun with ⟨h1, h2⟩ | ⟨e, he, w1, hw1, h2⟩
    · -- nothing is left
      have hz0 : z = [] := by
        have : (leftOf es.toArray seen).toList.length = 0 := by simpa using h1
        rw [hleft, List.length_map] at this
        exact List.eq_nil_of_length_eq_zero this
      subst hz0
      refine wpList_val hn1 (v := .tuple #[.bool false]) (w' := w) ?_ (wpList_val hx1 (v := .bool false) (w' := w) ?_ (wpList_nil ?_))
      · simp only [execOp, hn3, Act.eval, htd2, Sem.run_bind, h2, Result.andThen]; rfl
      · refine extract_run (vs := [.bool false]) (d := 0) hx3 ?_ rfl
        rw [hn2]
        simp only [Act.eval, Act.put, getD_set, hr.ntmps, hN, hdn, and_self, if_true]
      · rw [hn2, hx2]
        refine wp_seq (wp_cond_false (by simp only [Act.eval, Act.put, getD_set, Array.size_setIfInBounds, hr.ntmps, hN, hdf, and_self, if_true]) (wp_exit ?_))
        have hr1 := (hr.putS (dst := dn) (x := .d .any) (v := .tuple #[.bool false]) (by rw [hN]; exact hdn) (by unfold RepS Rep; trivial))
        have hr2 := (hr1.putS (dst := df) (x := .d .any) (v := .bool false) (by rw [hN]; exact hdf) (by unfold RepS Rep; trivial))
        have hst : (⟨upd (upd σ.s dn (.d .any)) df (.d .any), σ.h⟩ : St) = σ := by
          have : upd (upd σ.s dn (.d .any)) df (.d .any) = σ.s := by
            funext j; simp only [upd]; split
            · rename_i hj; subst hj; exact hsf.symm
            · split
              · rename_i hj; subst hj; exact hsn.symm
              · rfl
          rw [this]
        have hr3 : Ref c1 σ κ φ ((a.put (some dn) (.tuple #[.bool false])).put (some df) (.bool false)) w := by rw [← hst]; exact hr2
        simp only [Exit.then, Exit.inBlock, if_true]
        exact hp.1 _ _ _ _ _ (hr3.back hsub h0) (hend _ hIz)
    · -- an entry comes out
      obtain ⟨x, hx, rfl⟩ := List.mem_map.1 (hleft ▸ he)
      have hnod : (z.map fun x => x.2.born).Nodup := by
        have : (z.map fun x => x.2.born) = (es.filter (fun e => !seen.contains e.born)).map (·.born) := by rw [← hzes, List.map_map]; rfl
        rw [this]
        exact (List.filter_sublist.map _).nodup hB.2
      have hpm := left_perm (b := fun y : (DV × DV) × MapEntry => y.2.born) hnod hx
      have hI2 : I (x.1 :: (z.filter fun y => y.2.born != x.2.born).map (·.1)) σ := hperm _ _ _ (by simpa using (hpm.symm.map (·.1))) hIz
      have hlen : (z.filter fun y => y.2.born != x.2.born).length < n := by
        have := hpm.length_eq; simp at this; omega
      have hzes' : (z.filter fun y => y.2.born != x.2.born).map (·.2) = es.filter fun e => !(seen.push x.2.born).contains e.born := by
        have h3 : (z.filter fun y => y.2.born != x.2.born).map (·.2) = (z.map (·.2)).filter fun e => e.born != x.2.born := by rw [List.filter_map]; rfl
        rw [h3, hzes, List.filter_filter]
        refine List.filter_congr fun e _ => ?_
        simp only [Array.contains_push, Bool.not_or, bne]
        rw [Bool.and_comm]
      obtain ⟨hg', hf', hr1, hchg, hheap⟩ := hr.again hMq hqt hw1 (o := .mapIter (some r) clock (seen.push x.2.born) clock)
      have hqlt : q < w1.heap.size := by rw [hheap.1]; exact hr.own_lt (.inl hMq)
      have hrq : r ≠ q := fun h => by rw [h, hhq] at hhr; cases hhr
      have hhq' : (setBlock w1 q (.mapIter (some r) clock (seen.push x.2.born) clock)).heap[q]? = some (.mapIter (some r) clock (seen.push x.2.born) clock) := setBlock_at hqlt
      have hhr' : (setBlock w1 q (.mapIter (some r) clock (seen.push x.2.born) clock)).heap[r]? = some (.map es.toArray clock) := by rw [setBlock_heap hrq, hheap.1]; exact hhr
      generalize hw2 : setBlock w1 q (.mapIter (some r) clock (seen.push x.2.born) clock) = w2 at *
      have hsub2 : Sub c (frameAt c1 w2 c1.M0 φ hg' hf') := by
        refine ⟨hsub.n, hsub.gs, ?_, ?_, hsub.M0, ?_⟩
        · refine (hsub.chg.trans (hchg.mono hsub.B fun b hb ha => ?_)).trans ?_
          · rcases hsub.A b ha with h | h
            · omega
            · exact h
          · show Chg c.B c.A w w2
            rw [← hw2]
            refine ⟨hheap.2.1, hheap.2.2.1, hheap.2.2.2, by rw [setBlock_size, hheap.1]; exact Nat.le_refl _, fun b hb _ => ?_⟩
            rw [setBlock_heap (by omega), hheap.1]
        · show c.B ≤ w2.heap.size
          rw [← hw2, setBlock_size, hheap.1]
          exact Nat.le_trans hsub.B hr.size
        · rintro b ⟨id, hb⟩
          rcases (hr.mine id b hb).2 with h | h
          · exact .inl (Nat.le_trans hsub.B h)
          · exact hsub.A b h
      have hrn1 := (hr1.putS (dst := dn) (x := .d .any) (v := .tuple #[.bool true, x.2.key, x.2.val]) (by show dn < c1.N; rw [hN]; exact hdn) (by unfold RepS Rep; trivial))
      have hrn2 := (hrn1.putS (dst := df) (x := .d .any) (v := .bool true) (by show df < c1.N; rw [hN]; exact hdf) (by unfold RepS Rep; trivial))
      have hst : (⟨upd (upd σ.s dn (.d .any)) df (.d .any), σ.h⟩ : St) = σ := by
        have : upd (upd σ.s dn (.d .any)) df (.d .any) = σ.s := by
          funext j; simp only [upd]; split
          · rename_i hj; subst hj; exact hsf.symm
          · split
            · rename_i hj; subst hj; exact hsn.symm
            · rfl
        rw [this]
      have hr3 : Ref (frameAt c1 w2 c1.M0 φ hg' hf') σ κ φ ((a.put (some dn) (.tuple #[.bool true, x.2.key, x.2.val])).put (some df) (.bool true)) w2 := by rw [← hst]; exact hrn2
      have key : ∀ σ' κ' φ' a' w', Ref (frameAt c1 w2 c1.M0 φ hg' hf') σ' κ' φ' a' w' → (∃ σ2, Imp σ' σ2 ∧ I ((z.filter fun y => y.2.born != x.2.born).map (·.1)) σ2) →
          Code.rounds P (.seq (.region i2 #[on, ox] false) (.seq (.cond (.tmp df) .skip (.exit b1)) (.block b2 (.seq (.region i3 o3 false) bc)))) (Exit.inBlock b1 R) n a' w' := by
        rintro σ' κ' φ' a' w' hr' ⟨σ2, himp, hI3⟩
        obtain ⟨κ2, φ2, hr4⟩ := himp _ _ _ _ _ hr'
        have hkeep : ∀ b, c1.M0 b → w'.heap[b]? = w2.heap[b]? := fun b hb => by
          have := hr4.m0 b hb
          exact hr4.chg.block b this.1 this.2
        exact ih _ _ clock _ σ2 κ2 φ2 a' w' hlen (fun y hy => hz y (List.mem_filter.1 hy).1) hzes' (Nat.le_refl _) hsub2 hMr hMq hI3 hr4 (by rw [hkeep r hMr]; exact hhr') (by rw [hkeep q hMq]; exact hhq')
      refine wpList_val hn1 (v := .tuple #[.bool true, x.2.key, x.2.val]) (w' := w2) ?_ (wpList_val hx1 (v := .bool true) (w' := w2) ?_ (wpList_nil ?_))
      · simp only [execOp, hn3, Act.eval, htd2, Sem.run_bind, h2, Result.andThen]; rfl
      · refine extract_run (vs := [.bool true, x.2.key, x.2.val]) (d := 0) hx3 ?_ rfl
        rw [hn2]
        simp only [Act.eval, Act.put, getD_set, hr.ntmps, hN, hdn, and_self, if_true]
      rw [hn2, hx2]
      refine wp_seq (wp_cond_true (by simp only [Act.eval, Act.put, getD_set, Array.size_setIfInBounds, hr.ntmps, hN, hdf, and_self, if_true]) (wp_skip ?_))
      refine wp_block (wp_seq (wp_region ?_))
      rw [List.range_eq_range', ← Array.length_toList, he0, wpOps_eq_wpList (oe :: rest) 0 (fun j => by rw [← he0]; simp)]
      generalize ha2 : (a.put (some dn) (.tuple #[.bool true, x.2.key, x.2.val])).put (some df) (.bool true) = a2 at hr3 ⊢
      have htd3 : a2.tmps.getD d2 undef = .pointer (some ⟨q, 0, none⟩) := by
        have := hr3.slots d2 (by show d2 < c1.N; rw [hN]; exact hd2)
        rw [hs2] at this
        unfold RepS Rep at this; exact this
      have hxe : x.2 ∈ es := (List.mem_filter.1 (hzes ▸ List.mem_map.2 ⟨x, hx, rfl⟩)).1
      refine wpList_val he1 (v := .tuple #[x.2.key, x.2.val]) (w' := w2) ?_ ?_
      · have hrun2 := run_entry_at (P := P) w2 q r clock seen es.toArray clock x.2 hhq' hhr' (by simpa using hxe) (by simpa using hB.2)
        simp only [execOp, he3, Act.eval, htd3, Sem.run_bind]
        rw [hrun2]; rfl
      rw [← wpOps_eq_wpList rest 1 (fun j => by
        have : o3.toList[1 + j]? = rest[j]? := by rw [he0, Nat.add_comm]; simp
        rw [← this]; simp), he2]
      obtain ⟨hk1, hk2⟩ := hz x hx
      have hr5 := hr3.putS (dst := de) (x := .d (.tup [x.1.1, x.1.2])) (v := .tuple #[x.2.key, x.2.val]) (by show de < c1.N; rw [hN]; exact hde) (by
        unfold RepS Rep
        refine ⟨[x.2.key, x.2.val], rfl, ?_⟩
        simp only [RepL]
        exact ⟨_, _, rfl, keyVal_rep hk1, _, _, rfl, keyVal_rep hk2, rfl⟩)
      refine ops_sound (K := fun σ => AW P body (rngK b1 b2 (I ((z.filter fun y => y.2.born != x.2.born).map (·.1))) Q) σ) ?_ sos rest 1 _ κ φ _ w2 (fun j o hj => ?_) (by show matchOps P c1.N o3 rest sos = true; rw [hN]; exact hmo) hr5 (hstep _ _ _ hI2)
      · intro σ' κ' φ' a' w' hr' hK
        refine hK hmix (frameAt c1 w2 c1.M0 φ hg' hf') bc _ (by show matchC P c1.N body bc = true; rw [hN]; exact hmb) ⟨?_, ?_, ?_⟩ κ' φ' a' w' hr'
        · intro σ2 κ2 φ2 a3 w3 hr6 hq6
          exact key _ _ _ _ _ hr6 hq6
        · intro i σ2 κ2 φ2 a3 w3 hr6 hq6
          simp only [rngK] at hq6
          simp only [Exit.inBlock, Exit.then]
          by_cases hi : i = b2
          · simp only [hi, if_true] at hq6 ⊢
            exact key _ _ _ _ _ hr6 hq6
          · simp only [hi, if_false] at hq6 ⊢
            by_cases hj : i = b1
            · simp only [hj, if_true] at hq6 ⊢
              exact hp.1 _ _ _ _ _ (hr6.back hsub2 h0) hq6
            · simp only [hj, if_false] at hq6 ⊢
              exact hp.2.1 _ _ _ _ _ _ (hr6.back hsub2 h0) hq6
        · intro σ2 κ2 φ2 a3 w3 hr6 hq6
          exact hp.2.2 _ _ _ _ _ (hr6.back hsub2 h0) hq6
      · have : o3.toList[1 + j]? = rest[j]? := by rw [he0, Nat.add_comm]; simp
        rw [← Array.getElem?_toList, this]; exact hj

theorem isRange_eq {d0 : Nat} {op : Op} (h : isRange P d0 op = true) : ∃ t k v, op = .range t (.tmp d0) ∧ P.underlying t = some (.map k v) := by
  unfold isRange at h
  split at h
  · simp only [Bool.and_eq_true, beq_iff_eq] at h
    obtain ⟨rfl, h⟩ := h
    split at h
    · rename_i k v hu
      exact ⟨_, k, v, rfl, hu⟩
    · cases h
  · cases h
theorem isNext_eq {d : Nat} {op : Op} (h : isNext d op = true) : op = .next (.tmp d) false := by
  unfold isNext at h
  split at h
  · simp only [beq_iff_eq] at h; subst h; rfl
  · cases h
theorem isEntry_eq {d : Nat} {op : Op} (h : isEntry d op = true) : op = .entry (.tmp d) := by
  unfold isEntry at h
  split at h
  · simp only [beq_iff_eq] at h; subst h; rfl
  · cases h
theorem isExt0_eq {d : Nat} {op : Op} (h : isExt0 d op = true) : op = .extract (.tmp d) 0 := by
  unfold isExt0 at h
  split at h
  · simp only [beq_iff_eq] at h; subst h; rfl
  · cases h
theorem none_of {α : Type} {o : Option α} (h : o.isNone = true) : o = none := by cases o <;> first | rfl | cases h

theorem rangeM_inv {N d0 d2 dn df de b1 b2 : Nat} {m : SX} {sos : List SO} {x : SC} {code : Code} (h : matchC P N (.rangeM d0 m d2 dn df de b1 b2 sos x) code = true) :
    ∃ i1 o1 i2 o2 i3 o3 y, code = .seq (.region i1 o1 false) (.block b1 (.loop (.seq (.region i2 o2 false) (.seq (.cond (.tmp df) .skip (.exit b1)) (.block b2 (.seq (.region i3 o3 false) y)))))) ∧ rngOk P N d0 m d2 dn df de o1 o2 o3 sos = true ∧ b1 ≠ b2 ∧ matchC P N x y = true := by
  unfold matchC at h
  split at h <;> first | (rename_i heq; cases heq; done) | (cases h; done) | skip
  rename_i i1 o1 c1 i2 o2 t c2 c3 i3 o3 y heq
  cases heq
  simp only [Bool.and_eq_true, beq_iff_eq, decide_eq_true_eq] at h
  obtain ⟨⟨⟨⟨⟨⟨hm, rfl⟩, rfl⟩, rfl⟩, rfl⟩, hb12⟩, hmb⟩ := h
  exact ⟨i1, o1, i2, o2, i3, o3, y, rfl, hm, hb12, hmb⟩
theorem matchOps_one {N : Nat} {ops : Array Oper} {o : Oper} {so : SO} (h : matchOps P N ops [o] [so] = true) : matchO P N ops o so = true := by
  simpa [matchOps] using h
theorem range_run {t : TypeId} {k v : TypeId} {d0 r clock : Nat} {o : Oper} {es : Array MapEntry} (ho : o.op = .range t (.tmp d0)) (hu : P.underlying t = some (.map k v)) (ht : a.tmps.getD d0 undef = .map (some r)) (hr : w.heap[r]? = some (.map es clock)) :
    (execOp a.eval o).run P w = .ok (.value (.pointer (some ⟨w.heap.size, 0, none⟩))) (w.alloc (.mapIter (some r) clock #[] clock)) := by
  simp only [execOp, ho, Act.eval, ht, Instr.range, Sem.run_bind, run_underlying hu, Result.andThen, getObj, Sem.run, hr]
  rfl
/-- A range over a map: the map goes out of sight. -/
theorem W_range {Q : AX → St → Prop} {d0 d2 dn df de b1 b2 mid : Nat} {m : SX} {sos : List SO} {x : SC} {kk : KK} {L : List (DV × DV)} (hx : ev σ.s m = .mp mid) (hh : σ.h mid = .map kk (L.map fun p => (p.1, .d p.2))) (hv : ∀ p ∈ L, (keyVal p.2).isSome = true)
    (h : ∀ p : Value, ∃ I : List (DV × DV) → St → Prop, (∀ l σ, I l σ → σ.s d2 = .d (.raw p) ∧ σ.s dn = .d .any ∧ σ.s df = .d .any) ∧ (∀ l l' σ, l'.Perm l → I l σ → I l' σ) ∧
      (∀ e l σ, I (e :: l) σ → AOps P (fun σ => AW P x (rngK b1 b2 (I l) Q) σ) sos ⟨upd σ.s de (.d (.tup [e.1, e.2])), σ.h⟩) ∧ (∀ σ, I [] σ → Q .normal σ) ∧
      ∃ σ', Imp ⟨upd (upd σ.s d0 (.mp mid)) d2 (.d (.raw p)), upd σ.h mid .dead⟩ σ' ∧ I L σ') : AW P (.rangeM d0 m d2 dn df de b1 b2 sos x) Q σ := fun hmix c code R hm hp κ φ a w hr => by
  obtain ⟨i1, o1, i2, o2, i3, o3, y, rfl, hm, hb12, hmb⟩ := rangeM_inv hm
  unfold rngOk at hm
  split at hm
  · rename_i p q n1 n2 e rest ho1 ho2 ho3
    simp only [Bool.and_eq_true, beq_iff_eq, decide_eq_true_eq] at hm
    obtain ⟨⟨⟨⟨⟨⟨⟨⟨⟨⟨⟨⟨⟨⟨⟨⟨⟨⟨⟨⟨⟨hp1, hq1⟩, hq2⟩, hq3⟩, hn1⟩, hn2⟩, hn3⟩, hx1⟩, hx2⟩, hx3⟩, he1⟩, he2⟩, he3⟩, hd0⟩, hd2⟩, hdn⟩, hdf⟩, hde⟩, hne1⟩, hne2⟩, hne3⟩, hmo⟩ := hm
    obtain ⟨ty, k, v, hq3, hu⟩ := isRange_eq hq3
    obtain rfl : o2 = #[n1, n2] := Array.toList_inj.1 ho2
    refine wp_seq (wp_region ?_)
    rw [← Array.length_toList, ho1]
    show wpOps P o1 _ [0, 1] a w
    have hg0 : o1[0]? = some p := by rw [← Array.getElem?_toList, ho1]; rfl
    have hg1 : o1[1]? = some q := by rw [← Array.getElem?_toList, ho1]; rfl
    simp only [wpOps, hg0, hg1]
    have h0 := hr.m0
    refine o_sound (K := fun σ' => σ' = ⟨upd σ.s d0 (.mp mid), σ.h⟩) hr (matchOps_one hp1) ?_ ?_
    · show AO P (.r d0 (.mv m)) σ _
      simp only [AO, rd, hx]
      exact ⟨trivial, trivial⟩
    rintro σ1 κ1 φ1 a1 w1 hr1 rfl
    have hwant : Region.wanted q (yielded o1 a1.tmps) = true := by simp [Region.wanted, none_of hq1]
    rw [hwant, if_pos rfl]
    refine .inl ?_
    have hc := hr1.chunks mid
    rw [show (⟨upd σ.s d0 (SV.mp mid), σ.h⟩ : St).h mid = .map kk (L.map fun p => (p.1, .d p.2)) from hh] at hc
    obtain ⟨r, es, clock, G, hκ, hblock, hB, hrep, hφ⟩ := hc
    obtain ⟨hents, rfl⟩ := repMap_ents hv hrep
    have hsl := hr1.slots d0 hd0
    rw [show (⟨upd σ.s d0 (SV.mp mid), σ.h⟩ : St).s d0 = .mp mid from upd_same _ _ _] at hsl
    unfold RepS at hsl
    unfold Oper.wp
    rw [range_run hq3 hu (hsl.trans hκ) hblock]
    rw [Oper.upon_value, hq2]
    simp only [Exit.then]
    obtain ⟨hg, hf, hr2, hsub⟩ := hr1.into (mid := mid) (r := r) hφ hd2 (.mapIter (some r) clock #[] clock)
    obtain ⟨I, hI, hperm, hstep, hend, σ', himp, hIL⟩ := h (.pointer (some ⟨w1.heap.size, 0, none⟩))
    obtain ⟨κ2, φ2, hr3⟩ := himp _ _ _ _ _ hr2
    obtain ⟨z, hz1, hz2, hz3⟩ := ents_zip hents
    have hwp : ∀ b, (b = r ∨ b = w1.heap.size) → (w1.alloc (.mapIter (some r) clock #[] clock)).heap[b]? = (w1.alloc (.mapIter (some r) clock #[] clock)).heap[b]? := fun _ _ => rfl
    refine wp_block (wp_loop_rounds (z.length + 1) ?_)
    have hrlt : r < w1.heap.size := (Array.getElem?_eq_some_iff.1 hblock).1
    refine range_rounds hmix hp h0 (none_of hn1) hn2 (isNext_eq hn3) (none_of hx1) hx2 (isExt0_eq hx3) ho3 (none_of he1) he2 (isEntry_eq he3) hdn hdf hde hd2 hne1 hne2 hne3 hmo hmb hb12 (ty := ty) (r := r) (q := w1.heap.size) hB ?_ ?_ I hI hperm hstep hend (z.length + 1) z #[] clock _ σ' κ2 φ2 _ _ (Nat.lt_succ_self _) hz3 ?_ (Nat.le_refl _) hsub (.inr (.inl rfl)) (.inr (.inr rfl)) (by rw [hz1]; exact hIL) hr3 ?_ ?_
    · intro t ht he
      have := (hr1.good t ht).lt
      omega
    · exact hr1.size
    · rw [hz2]; exact (List.filter_eq_self.2 fun e _ => by simp).symm
    · rw [((Below.refl _ w1).alloc (Nat.le_refl _) _).block r hrlt]; exact hblock
    · show (w1.heap.push _)[w1.heap.size]? = _; simp
  · cases hm

/-! ### In the walk that makes the computation -/
/-- The rounds over a list of entries. -/
def foldC {E S R : Type} (step : E → S → Option (S ⊕ (S ⊕ R))) (k : S → Option R) : List E → S → Option R
  | [], s => k s
  | e :: l, s => match step e s with
    | some (.inl s') => foldC step k l s'
    | some (.inr o) => outK k o
    | none => none
open Classical in
/-- What comes out in whatever order the entries come. -/
noncomputable def rangeC {E S R : Type} (l : List E) (step : E → S → Option (S ⊕ (S ⊕ R))) (s : S) (k : S → Option R) : Option R :=
  if h : ∃ r, ∀ l' : List E, l'.Perm l → foldC step k l' s = some r then some h.choose else none
theorem rangeC_all {E S R : Type} {l : List E} {step : E → S → Option (S ⊕ (S ⊕ R))} {s : S} {k : S → Option R} {r : R} (h : rangeC l step s k = some r) : ∀ l' : List E, l'.Perm l → foldC step k l' s = some r := by
  unfold rangeC at h
  split at h
  · rename_i hh
    simp only [Option.some.injEq] at h
    subst h
    exact hh.choose_spec
  · cases h
theorem rangeC_of {E S R : Type} {l : List E} {step : E → S → Option (S ⊕ (S ⊕ R))} {s : S} {k : S → Option R} {r : R} (h : ∀ l' : List E, l'.Perm l → foldC step k l' s = some r) : rangeC l step s k = some r := by
  have hh : ∃ r, ∀ l' : List E, l'.Perm l → foldC step k l' s = some r := ⟨r, h⟩
  unfold rangeC
  rw [dif_pos hh]
  have h1 := hh.choose_spec l (List.Perm.refl _)
  rw [h l (List.Perm.refl _)] at h1
  simpa using h1.symm
theorem perm_map_inv {α β : Type} {g : α → β} : ∀ {L' L : List β}, L'.Perm L → ∀ {l : List α}, L = l.map g → ∃ l' : List α, l'.Perm l ∧ L' = l'.map g := by
  intro L' L h
  induction h with
  | nil =>
    intro l hl
    have : l = [] := by simpa using hl.symm
    subst this
    exact ⟨[], .refl _, rfl⟩
  | cons x h ih =>
    intro l hl
    cases l with
    | nil => cases hl
    | cons a l =>
      simp only [List.map_cons, List.cons.injEq] at hl
      obtain ⟨l', h1, h2⟩ := ih hl.2
      exact ⟨a :: l', h1.cons a, by simp [h2, hl.1]⟩
  | swap x y l0 =>
    intro l hl
    cases l with
    | nil => cases hl
    | cons a l => cases l with
      | nil => simp at hl
      | cons b l =>
        simp only [List.map_cons, List.cons.injEq] at hl
        exact ⟨b :: a :: l, List.Perm.swap _ _ _, by simp [hl.1, hl.2.1, hl.2.2]⟩
  | trans h1 h2 ih1 ih2 =>
    intro l hl
    obtain ⟨l2, p2, e2⟩ := ih2 hl
    obtain ⟨l1, p1, e1⟩ := ih1 e2
    exact ⟨l1, p1.trans p2, e1⟩

/-- What the walk of a range over a map leaves to show. -/
structure RangeB {V S R : Type} (P : Program) (x : SC) (Q : R → AX → St → Prop) (r : R) (b1 b2 d2 dn df de : Nat) (p : Value) (sos : List SO) (f : V → DV) (m : S → St) (step : List UInt8 × V → S → Option (S ⊕ (S ⊕ R))) (k : S → Option R) : Prop where
  hs : ∀ s, (m s).s d2 = .d (.raw p) ∧ (m s).s dn = .d .any ∧ (m s).s df = .d .any
  hq : ∀ r, ImpC (Q r)
  hb : ∀ e s o, step e s = some o → AOps P (AW P x (blockK b2 (rndQ m (brkQ b1 m Q) o))) sos ⟨upd (m s).s de (.d (.tup [.str e.1, f e.2])), (m s).h⟩
  hk : ∀ s, k s = some r → Q r .normal (m s)
theorem RangeB.of {V S R : Type} {x : SC} {Q : R → AX → St → Prop} {r : R} {b1 b2 d2 dn df de : Nat} {p : Value} {sos : List SO} {f : V → DV} {m m' : S → St} {step : List UInt8 × V → S → Option (S ⊕ (S ⊕ R))} {k : S → Option R} (hmk : m = m')
    (hs : ∀ s, (m' s).s d2 = .d (.raw p) ∧ (m' s).s dn = .d .any ∧ (m' s).s df = .d .any) (hq : ∀ r, ImpC (Q r))
    (hb : ∀ e s o, step e s = some o → AOps P (AW P x (blockK b2 (rndQ m' (brkQ b1 m' Q) o))) sos ⟨upd (m' s).s de (.d (.tup [.str e.1, f e.2])), (m' s).h⟩)
    (hk : ∀ s, k s = some r → Q r .normal (m' s)) : RangeB P x Q r b1 b2 d2 dn df de p sos f m step k := by
  subst hmk; exact ⟨hs, hq, hb, hk⟩
theorem S_rangeY {V C S R : Type} {r : R} {d0 d2 dn df de b1 b2 mid : Nat} {m : SX} {sos : List SO} {x X : SC} {Q : R → AX → St → Prop} (hX : X = .rangeM d0 m d2 dn df de b1 b2 sos x) (mk : C → S → St) {s0 : S} {W : List (List UInt8 × V)} {f : V → DV} {ve : V → SV} {step : List UInt8 × V → S → Option (S ⊕ (S ⊕ R))} {k : S → Option R} {s : Nat → SV} {h : Nat → Ch}
    (hm : rangeC W step s0 k = some r) (hx : ev s m = .mp mid) (hh : h mid = .map .str (encM .str ve W)) (hve : ve = fun v => .d (f v)) (hf : ∀ v, (keyVal (f v)).isSome = true) (hb12 : (b1 ≠ b2))
    (hr : ∀ p, ∃ c M, mk c s0 = M ∧ Then (Imp ⟨upd (upd s d0 (.mp mid)) d2 (.d (.raw p)), upd h mid .dead⟩ M) (RangeB P x Q r b1 b2 d2 dn df de p sos f (mk c) step k)) : AW P X (Q r) ⟨s, h⟩ := by
  subst hX hve
  refine W_range (σ := ⟨s, h⟩) (kk := .str) (L := W.map fun e => (.str e.1, f e.2)) hx ?_ ?_ fun p => ?_
  · show h mid = _
    rw [hh]
    simp only [encM, List.map_map]; rfl
  · intro q hq
    obtain ⟨e, _, rfl⟩ := List.mem_map.1 hq
    exact hf _
  obtain ⟨c, M, hM, himp, hB⟩ := hr p
  subst hM
  refine ⟨fun L' σ => ∃ l s, L' = l.map (fun e => (.str e.1, f e.2)) ∧ σ = mk c s ∧ ∀ l' : List (List UInt8 × V), l'.Perm l → foldC step k l' s = some r, ?_, ?_, ?_, ?_, _, himp, W, s0, rfl, rfl, rangeC_all hm⟩
  · rintro _ _ ⟨l, s, rfl, rfl, _⟩
    exact hB.hs s
  · rintro L L' _ hp ⟨l, s, rfl, rfl, hl⟩
    obtain ⟨l', h1, h2⟩ := perm_map_inv hp rfl
    exact ⟨l', s, h2, rfl, fun q hq => hl q (hq.trans h1)⟩
  · rintro e L _ ⟨l, s, hL, rfl, hl⟩
    cases l with
    | nil => cases hL
    | cons e0 l =>
      simp only [List.map_cons, List.cons.injEq] at hL
      obtain ⟨rfl, rfl⟩ := hL
      have hl0 : ∀ l' : List (List UInt8 × V), l'.Perm l → foldC step k (e0 :: l') s = some r := fun l' hp => hl _ (hp.cons _)
      cases ho : step e0 s with
      | none => have := hl0 l (.refl _); simp [foldC, ho] at this
      | some o =>
        refine AOps_mono (fun σ hσ => W_mono (fun e σ' he => ?_) hσ) (hB.hb e0 s o ho)
        have hnext : ∀ s', o = .inl s' → ∀ σ', Imp σ' (mk c s') → ∃ σ2, Imp σ' σ2 ∧ ∃ l1 s, l.map (fun e => (DV.str e.1, f e.2)) = l1.map (fun e => (.str e.1, f e.2)) ∧ σ2 = mk c s ∧ ∀ l' : List (List UInt8 × V), l'.Perm l1 → foldC step k l' s = some r := by
          rintro s' rfl σ' hi
          exact ⟨_, hi, l, s', rfl, rfl, fun l' hp => by have := hl0 l' hp; simpa [foldC, ho] using this⟩
        have hout : ∀ q, o = .inr q → outK k q = some r := by
          rintro q rfl
          have := hl0 l (.refl _); simpa [foldC, ho] using this
        cases o with
        | inl s' =>
          cases e with
          | normal => exact hnext s' rfl _ he
          | ret => exact he.elim
          | exit i =>
            simp only [blockK] at he
            by_cases hi : i = b2
            · simp only [hi, if_true] at he
              simp only [rngK, hi, if_true]
              exact hnext s' rfl _ he
            · simp only [hi, if_false] at he; exact he.elim
        | inr q =>
          have hk := hout q rfl
          cases e with
          | normal => exact he.elim
          | ret =>
            simp only [blockK] at he
            cases q with
            | inl s' => exact he.elim
            | inr r' => simp only [outK, Option.some.injEq] at hk; subst hk; exact he
          | exit i =>
            simp only [blockK] at he
            by_cases hi : i = b2
            · simp only [hi, if_true] at he; exact he.elim
            · simp only [hi, if_false] at he
              cases q with
              | inl s' =>
                obtain ⟨rfl, hi2⟩ := he
                simp only [rngK, hi, if_false, if_true]
                exact hB.hq r _ _ _ hi2 (hB.hk s' hk)
              | inr r' =>
                simp only [outK, Option.some.injEq] at hk; subst hk
                obtain ⟨hne, he⟩ := he
                simp only [rngK, hi, if_false, hne]
                exact he
  · rintro _ ⟨l, s, hL, rfl, hl⟩
    have : l = [] := by simpa using hL.symm
    subst this
    exact hB.hk s (by have := hl [] (.refl _); simpa [foldC] using this)
end
end Go.Proofs.YtlmmfddbpagiaaaDoor

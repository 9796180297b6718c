/-
  The engine, part I: operations that write what is owned; calls; a region's operations one behind the other.
-/
import Derived.Test.YtjdeikkojjdjdaaDoorEngH
namespace Go.Proofs.YtjdeikkojjdjdaaDoor
set_option linter.unusedSimpArgs false
set_option linter.unusedVariables false
open Go.RowKit

inductive WOp where
  | boxM (x : SX)
  | st (n : Nat) (p v : SX)
  | app (e sz : Nat) (x y : SX)
  | mkmap (kk : KK)
  | mset (kk : KK) (m k v : SX)

/-- Writing n cells from place off on. -/
def splice {α : Type} (cs : List α) (off : Nat) (vs : List α) : List α := cs.take off ++ vs ++ cs.drop (off + vs.length)

def growTo (σ : St) (dst id e sz : Nat) (rows : List (List DV)) : St :=
  { σ.swap id .any (.vec e sz rows) with s := upd (repS id .any σ.s) dst (.vec id) }

def wr (σ : St) (dst : Nat) : WOp → Option (Prop × St)
  | .boxM x => match (ev σ.s x).cells? with
    | some cs => some (True, { σ.swap dst .any (.box (repL dst .any cs)) with s := upd (repS dst .any σ.s) dst (.ref dst 0) })
    | none => none
  | .st n p v => match ev σ.s p with
    | .ref id off => match σ.h id, (ev σ.s v).cells? with
      | .box cs, some vs => some (vs.length = n ∧ off + n ≤ cs.length, ⟨σ.s, upd σ.h id (.box (splice cs off vs))⟩)
      | _, _ => none
    | .vref id sz i off => match σ.h id, rowOf (ev σ.s v) with
      | .vec e sz' rows, some vs => match rows[i]? with
        | some r => some (sz' = sz ∧ vs.length = n ∧ off + n ≤ r.length, ⟨σ.s, upd σ.h id (.vec e sz' (rows.set i (splice r off vs)))⟩)
        | none => none
      | _, _ => none
    | _ => none
  | .app e sz x y => match ev σ.s x, (ev σ.s y).toDV with
    | .vec id, some (.slice rows2) => match σ.h id with
      | .vec e' sz' rows => some (e' = e ∧ sz' = sz ∧ (∀ r ∈ rows2, r.length = sz) ∧ rows.length + rows2.length ≤ 2147483648, growTo σ dst id e sz (rows ++ rows2))
      | _ => none
    | .nils, some (.slice rows2) => some ((∀ r ∈ rows2, r.length = sz) ∧ rows2.length ≤ 2147483648, growTo σ dst dst e sz rows2)
    | _, _ => none
  | .mkmap kk => some (True, { σ.swap dst .any (.map kk []) with s := upd (repS dst .any σ.s) dst (.mp dst) })
  | .mset kk m k v => match ev σ.s m, ev σ.s k, (ev σ.s v).toDV with
    | .mp id, .d x, some d => match σ.h id with
      | .map kk' kv => some (kk' = kk ∧ kk.fits x = true, ⟨σ.s, upd σ.h id (.map kk (kvSet kv x d))⟩)
      | _ => none
    | _, _, _ => none

def matchW (P : Program) (N : Nat) (op : Op) (dst : Option Tmp) (d : Nat) : WOp → Bool
  | .boxM y => dst == some d && decide (d < N) && (match op with
    | .box _ x => matchX N x y
    | .alloc t => zeroX P t y
    | _ => false)
  | .st n p v => dst == none && (match op with
    | .store t x y => matchX N x p && matchX N y v && (P.info? t).isSome && P.cellsOf t == n
    | _ => false)
  | .app e sz x y => dst == some d && decide (d < N) && (match op with
    | .call { callee := .builtin .append, args, argTypes } => (match args.toList, argTypes.toList with
      | [x', y'], [t, t'] => matchX N x' x && matchX N y' y && t == t' && (match P.underlying t with
        | some (.slice e') => e' == e && (match P.info? e with | some i => i.size == sz && decide (0 < sz) && decide (i.bytes ≤ 65536) && (match i.zero with | some z => z.cells.size == sz | none => false) | none => false)
        | _ => false)
      | _, _ => false)
    | _ => false)
  | .mkmap _ => false
  | .mset _ _ _ _ => false

def matchW2 (P : Program) (N : Nat) (op : Op) (dst : Option Tmp) (d : Nat) : WOp → Bool
  | .mkmap kk => dst == some d && decide (d < N) && (match op with
    | .makeMap t none => (match P.underlying t with | some (.map kt _) => kkOf P kt == some kk | _ => false)
    | _ => false)
  | .mset kk m k v => dst == none && (match op with
    | .mapUpdate t x y z => matchX N x m && matchX N y k && matchX N z v && (match P.underlying t with | some (.map kt _) => kkOf P kt == some kk | _ => false)
    | _ => false)
  | w => matchW P N op dst d w

section
variable {P : Program} {B : Nat} {w0 : World} {M0 : Nat → Prop} {N : Nat} {σ : St} {κ : Nat → Value} {a : Act} {w : World}

theorem splice_rep {M : Nat → Prop} {cs vs : List SV} {us ws : List Value} {off : Nat} (h : RepSL w M κ cs us) (k : RepSL w M κ vs ws) : RepSL w M κ (splice cs off vs) (us.take off ++ ws ++ us.drop (off + ws.length)) := by
  unfold splice
  rw [k.length]
  exact ((h.take off).append k).append (h.drop _)

theorem splice_repD {M : Nat → Prop} {cs vs : List DV} {us ws : List Value} {off : Nat} (h : RepL w M cs us) (k : RepL w M vs ws) : RepL w M (splice cs off vs) (us.take off ++ ws ++ us.drop (off + ws.length)) := by
  unfold splice
  rw [k.length]
  exact ((h.take off).append k).append (h.drop _)

theorem splice_one {us ws : List Value} {off : Nat} (h : ∀ x ∈ us, x.oneCell' = true) (k : ∀ x ∈ ws, x.oneCell' = true) : ∀ x ∈ us.take off ++ ws ++ us.drop (off + ws.length), x.oneCell' = true := by
  intro x hx
  simp only [List.mem_append] at hx
  rcases hx with (hx | hx) | hx
  · exact h x (List.mem_of_mem_take hx)
  · exact k x hx
  · exact h x (List.mem_of_mem_drop hx)

/-- The flat cells of rows of which one has been written. -/
theorem flatten_splice {sz : Nat} : ∀ (rows : List (List DV)) (i off : Nat) (r vs : List DV), (∀ q ∈ rows, q.length = sz) → rows[i]? = some r → off + vs.length ≤ r.length →
    (rows.set i (splice r off vs)).flatten = splice rows.flatten (i * sz + off) vs
  | [], i, off, r, vs, _, h, _ => by simp at h
  | q :: rows, 0, off, r, vs, hall, h, hle => by
    simp at h; subst h
    simp only [List.set_cons_zero, List.flatten_cons, Nat.zero_mul, Nat.zero_add, splice]
    rw [List.take_append_of_le_length (by omega), List.drop_append_of_le_length (by omega)]
    simp
  | q :: rows, i + 1, off, r, vs, hall, h, hle => by
    have hq := hall q (by simp)
    have ih := flatten_splice (sz := sz) rows i off r vs (fun q hq => hall q (by simp [hq])) (by simpa using h) hle
    simp only [List.set_cons_succ, List.flatten_cons]
    rw [ih]
    unfold splice
    rw [show (i + 1) * sz + off = q.length + (i * sz + off) by rw [Nat.add_mul]; omega]
    rw [List.take_length_add_append, show q.length + (i * sz + off) + vs.length = q.length + (i * sz + off + vs.length) by omega, List.drop_length_add_append]
    simp

theorem setRow_facts (w : World) (g : Nat) (cs : Array Value) : (w.setRow g cs).os = w.os ∧ (w.setRow g cs).tape = w.tape ∧ (w.setRow g cs).output = w.output ∧ (w.setRow g cs).heap.size = w.heap.size ∧ ∀ b, b ≠ g → (w.setRow g cs).heap[b]? = w.heap[b]? :=
  ⟨rfl, rfl, rfl, by simp [World.setRow], fun b hb => setRow_other w g b cs hb⟩

theorem run_st {t : TypeId} {x y : Operand} {b o n : Nat} {vs : List Value} {cur : Array Value} {T : TypeId} (hi : (P.info? t).isSome = true) (hn : P.cellsOf t = n) (hx : a.eval x = .pointer (some ⟨b, o, none⟩)) (hv : (a.eval y).cells = vs.toArray) (hl : vs.length = n)
    (hone : ∀ x ∈ vs, x.oneCell' = true) (hb : w.heap[b]? = some (.cells cur T (0, 0))) (hle : o + vs.length ≤ cur.size) (dst : Option Tmp) (ty : TypeId) (pos : String) (aft : Array Edge) (gd : Option (Nat × Bool)) :
    (execOp a.eval ⟨dst, .store t x y, ty, pos, aft, gd⟩).run P w = .ok .skip (w.setRow b (cur.toList.take o ++ vs ++ cur.toList.drop (o + vs.length)).toArray) := by
  have hs := run_storeCells_at P b o T vs 0 cur w hb (by simpa using hle) hone
  simp only [Nat.add_zero] at hs
  have hns : ¬ (vs.toArray.size ≠ P.cellsOf t) := by simp; omega
  simp only [execOp, Instr.storeAt, Instr.sureAddr, hx, Sem.run_bind, Sem.run_pure, Result.andThen_ok, storeVar, run_sizeOf' hi, hv]
  rw [if_neg hns]
  simp only [hs, Sem.run_bind, Result.andThen_ok, Sem.run_pure]

/-- What a write comes to: the model goes on in a state of the new abstract state. -/
def Writes (P : Program) (B : Nat) (w0 : World) (M0 : Nat → Prop) (N : Nat) (o : Oper) (a : Act) (w : World) (σ' : St) : Prop :=
  ∃ v w' κ', (execOp a.eval o).run P w = .ok v w' ∧ ((∃ u, v = .value u ∧ Ref B w0 M0 N σ' κ' (a.put o.dst u) w') ∨ (v = .skip ∧ Ref B w0 M0 N σ' κ' (a.put o.dst undef) w'))

theorem wr_new (hr : Ref B w0 M0 N σ κ a w) {T : TypeId} {o : Oper} {d : Nat} {cs : List SV} {vs : List Value} (hd : o.dst = some d) (h2 : ∀ u ∈ vs, u.oneCell' = true) (h3 : RepSL w (own M0 σ.h κ) κ cs vs)
    (hrun : (execOp a.eval o).run P w = .ok (.value (.pointer (some ⟨w.heap.size, 0, none⟩))) (w.alloc (.cells vs.toArray T))) :
    Writes P B w0 M0 N o a w { σ.swap d .any (.box (repL d .any cs)) with s := upd (repS d .any σ.s) d (.ref d 0) } := by
  have hB : Below w.heap.size w (w.alloc (.cells vs.toArray T)) := (Below.refl _ _).alloc (Nat.le_refl _) _
  have hnew : ∀ b, (Ch.box (repL d .any cs)).live → blk (.pointer (some ⟨w.heap.size, 0, none⟩)) = some b → w.heap.size ≤ b ∨ ((σ.h d).live ∧ blk (κ d) = some b) := fun b _ hb => by
    simp [blk] at hb; subst hb; exact .inl (Nat.le_refl _)
  have hext := swap_ext (dv := .any) (c := .box (repL d .any cs)) (v := .pointer (some ⟨w.heap.size, 0, none⟩)) hr (id := d) hB.size (fun b hb _ => hB.block b hb) hnew
  have href : Ref B w0 M0 N (σ.swap d .any (.box (repL d .any cs))) (upd κ d (.pointer (some ⟨w.heap.size, 0, none⟩))) a (w.alloc (.cells vs.toArray T)) := by
    refine hr.swap rfl rfl rfl rfl hB.size (fun b hb _ => hB.block b hb) hnew (by unfold Rep; trivial) ?_
    exact ⟨w.heap.size, T, vs, by rw [upd_same], hr.size, heap_alloc_new w _, h2, repL_rep hext (by unfold Rep; trivial) cs vs h3⟩
  refine ⟨.value (.pointer (some ⟨w.heap.size, 0, none⟩)), w.alloc (.cells vs.toArray T), upd κ d (.pointer (some ⟨w.heap.size, 0, none⟩)), hrun, .inl ⟨.pointer (some ⟨w.heap.size, 0, none⟩), rfl, ?_⟩⟩
  rw [hd]
  exact href.put (dst := d) (Below.refl _ _) (by simp only [RepS]; exact ⟨w.heap.size, by rw [upd_same], rfl⟩)

theorem wr_box (hr : Ref B w0 M0 N σ κ a w) {T : TypeId} {x : Operand} {y : SX} {d : Nat} {cs : List SV} (hm : matchX N x y = true) (hc : (ev σ.s y).cells? = some cs) (ty : TypeId) (pos : String) (aft : Array Edge) (gd : Option (Nat × Bool)) :
    Writes P B w0 M0 N ⟨some d, .box T x, ty, pos, aft, gd⟩ a w { σ.swap d .any (.box (repL d .any cs)) with s := upd (repS d .any σ.s) d (.ref d 0) } := by
  obtain ⟨vs, h1, h2, h3⟩ := (matchX_rep hr hm).cells hr.kok hc
  refine wr_new hr rfl h2 h3 (T := T) ?_
  simp only [execOp, Instr.box, newVar, newRow, newObj, h1, Sem.run_bind, Sem.run, Result.andThen_ok, Sem.run_pure]
  rfl

theorem wr_alloc (hr : Ref B w0 M0 N σ κ a w) {t : TypeId} {i : TypeInfo} {z : Value} {v : SV} {d : Nat} {cs : List SV} (hi : P.info? t = some i) (hz : i.zero = some z) (hv : constOk z v = true) (hc : v.cells? = some cs) (ty : TypeId) (pos : String) (aft : Array Edge) (gd : Option (Nat × Bool)) :
    Writes P B w0 M0 N ⟨some d, .alloc t, ty, pos, aft, gd⟩ a w { σ.swap d .any (.box (repL d .any cs)) with s := upd (repS d .any σ.s) d (.ref d 0) } := by
  obtain ⟨vs, h1, h2, h3⟩ := (constOk_rep (w := w) (M := own M0 σ.h κ) (κ := κ) hv).cells hr.kok hc
  exact wr_new hr rfl h2 h3 (run_alloc hi hz h1)

theorem wr_st_box (hr : Ref B w0 M0 N σ κ a w) {t : TypeId} {x y : Operand} {p v : SX} {n id off : Nat} {cs vs : List SV} (h1 : matchX N x p = true) (h2 : matchX N y v = true) (hi : (P.info? t).isSome = true) (hn : P.cellsOf t = n)
    (hp : ev σ.s p = .ref id off) (hh : σ.h id = .box cs) (hv : (ev σ.s v).cells? = some vs) (hl : vs.length = n) (hle : off + n ≤ cs.length) (ty : TypeId) (pos : String) (aft : Array Edge) (gd : Option (Nat × Bool)) :
    Writes P B w0 M0 N ⟨none, .store t x y, ty, pos, aft, gd⟩ a w ⟨σ.s, upd σ.h id (.box (splice cs off vs))⟩ := by
  have hx := matchX_rep hr h1
  rw [hp] at hx
  simp only [RepS] at hx
  obtain ⟨b, hkb, hx⟩ := hx
  obtain ⟨us, hu1, hu2, hu3⟩ := (matchX_rep hr h2).cells hr.kok hv
  have hch := hr.chunks id
  rw [hh] at hch
  obtain ⟨b', T, ws, hk', hB, hheap, hone, hrep⟩ := hch
  rw [hkb] at hk'; simp at hk'; subst hk'
  have hul := hu3.length
  have hwl := hrep.length
  have hrun := run_st (P := P) (a := a) hi hn hx hu1 (by omega) hu2 hheap (by simp; omega) none ty pos aft gd
  simp only at hrun
  obtain ⟨f1, f2, f3, f4, f5⟩ := setRow_facts w b (ws.take off ++ us ++ ws.drop (off + us.length)).toArray
  refine ⟨.skip, _, κ, hrun, .inr ⟨rfl, ?_⟩⟩
  refine hr.modify (by rw [hh]; trivial) trivial f1 f2 f3 f4 (fun b' hb' => f5 b' fun e => hb' (by rw [hkb, e]; rfl)) fun hext => ?_
  exact ⟨b, T, _, hkb, hB, setRow_heap w b _ _ T _ hheap, splice_one hone hu2, splice_rep (RepSL.ext hext _ _ hrep) (RepSL.ext hext _ _ hu3)⟩

theorem wr_st_vec (hr : Ref B w0 M0 N σ κ a w) {t : TypeId} {x y : Operand} {p v : SX} {n id sz i off e : Nat} {rows : List (List DV)} {r vs : List DV} (h1 : matchX N x p = true) (h2 : matchX N y v = true) (hi : (P.info? t).isSome = true) (hn : P.cellsOf t = n)
    (hp : ev σ.s p = .vref id sz i off) (hh : σ.h id = .vec e sz rows) (hv : rowOf (ev σ.s v) = some vs) (hrow : rows[i]? = some r) (hl : vs.length = n) (hle : off + n ≤ r.length) (ty : TypeId) (pos : String) (aft : Array Edge) (gd : Option (Nat × Bool)) :
    Writes P B w0 M0 N ⟨none, .store t x y, ty, pos, aft, gd⟩ a w ⟨σ.s, upd σ.h id (.vec e sz (rows.set i (splice r off vs)))⟩ := by
  have hx := matchX_rep hr h1
  rw [hp] at hx
  simp only [RepS] at hx
  obtain ⟨b, len, cap, hkb, hx⟩ := hx
  unfold rowOf at hv
  cases hd : (ev σ.s v).toDV with
  | none => simp [hd] at hv
  | some dd =>
    simp only [hd] at hv
    obtain ⟨us, hu1, hu2, hu3⟩ := (RepS.toDV _ _ dd (matchX_rep hr h2) hd).cells hv
    have hch := hr.chunks id
    rw [hh] at hch
    obtain ⟨xs, ho, hone, hall, hrep⟩ := hch
    have hul := hu3.length
    have hxl := hrep.length
    have hrl := hall r (List.mem_of_getElem? hrow)
    have hi' : i < rows.length := (List.getElem?_eq_some_iff.1 hrow).1
    rcases ho.2 with ⟨hk0, hn0⟩ | ⟨g, cap', cur, hkg, hB, hheap, hcap, hmax, hcur, htake⟩
    · omega
    · rw [hkb] at hkg; simp at hkg
      obtain ⟨rfl, rfl, rfl⟩ := hkg
      have hxs := ho.1
      have hfit : i * sz + off + us.length ≤ rows.length * sz := by
        have h1 : (i + 1) * sz ≤ rows.length * sz := Nat.mul_le_mul_right _ hi'
        rw [Nat.add_mul] at h1; omega
      have hcapsz : rows.length * sz ≤ cap * sz := Nat.mul_le_mul_right _ hcap
      have hrun := run_st (P := P) (a := a) hi hn hx hu1 (by omega) hu2 hheap (by omega) none ty pos aft gd
      obtain ⟨f1, f2, f3, f4, f5⟩ := setRow_facts w b (cur.toList.take (i * sz + off) ++ us ++ cur.toList.drop (i * sz + off + us.length)).toArray
      refine ⟨.skip, _, κ, hrun, .inr ⟨rfl, ?_⟩⟩
      refine hr.modify (by rw [hh]; trivial) trivial f1 f2 f3 f4 (fun b' hb' => f5 b' fun e => hb' (by rw [hkb, e]; rfl)) fun hext => ?_
      refine ⟨xs.take (i * sz + off) ++ us ++ xs.drop (i * sz + off + us.length), ⟨?_, .inr ⟨b, cap, _, by rw [hkb]; simp, hB, setRow_heap w b _ _ e _ hheap, by simpa using hcap, hmax, ?_, ?_⟩⟩, splice_one hone hu2, ?_, ?_⟩
      · simp; omega
      · simp; omega
      · simp only [List.length_set]
        rw [← htake, List.take_take, List.drop_take]
        rw [show min (i * sz + off) (rows.length * sz) = i * sz + off by omega]
        rw [List.append_assoc, List.take_append, List.take_append]
        simp only [List.length_take, Array.length_toList]
        rw [List.take_of_length_le (l := List.take (i * sz + off) cur.toList) (by simp; omega)]
        rw [show min (i * sz + off) cur.size = i * sz + off by omega]
        rw [List.take_of_length_le (l := us) (by omega)]
        simp only [List.append_assoc]
        congr 3
        omega
      · intro q hq
        rcases List.mem_or_eq_of_mem_set hq with h | h
        · exact hall q h
        · subst h; simp [splice]; omega
      · rw [flatten_splice (sz := sz) rows i off r vs hall hrow (by omega)]
        exact splice_repD (RepL.ext hext _ _ hrep) (RepL.ext hext _ _ hu3)

theorem blk_ownBlock (v : Value) (h : ∀ x, v ≠ .pointer x) (h' : ∀ x, v ≠ .map x) : blk v = v.ownBlock := by
  cases v with
  | slice x n c => cases x <;> rfl
  | pointer x => exact absurd rfl (h x)
  | map x => exact absurd rfl (h' x)
  | _ => rfl

/-- Where the slice lies that append hands back. -/
theorem append_block (w : World) {t ty e : TypeId} {i : TypeInfo} {z : Value} (ht : P.underlying t = some (.slice e)) (hi : P.info? e = some i) (hz : i.zero = some z) {v : Value} {n : Nat} {xs : List Value} (hown : w.ownsRow B e i.size v n xs)
    {ad : Addr} {m c : Nat} {news : List Value} (hl : news.length = m * i.size) (hnews : ∀ j u, news[j]? = some u → w.cell? (ad.add j) = some u) (h1 : ∀ u ∈ news, u.oneCell' = true) (hm : 0 < m)
    (h63 : n + m ≤ 2147483648) (hbytes : (n + m) * i.bytes ≤ 140737488355328) {v' : Value} {w' : World} (hrun : (Builtin.append_ #[t, t] ty #[v, .slice (some ad) m c]).run P w = .ok v' w') :
    ∀ b, blk v' = some b → w.heap.size ≤ b ∨ blk v = some b := by
  intro b hb
  rcases hown.2 with ⟨rfl, rfl⟩ | ⟨g, cap, cur, rfl, hbg, hg, hnc, hcm, hcs, htake⟩
  · rw [Nat.zero_add] at hbytes
    have := run_append_nil (P := P) w t ty e i z ht hi hz ad m c news hl hnews hm (by omega) (by omega)
    rw [this] at hrun
    simp only [Result.ok.injEq] at hrun
    rw [← hrun.1] at hb
    simp [blk] at hb
    exact .inl (by omega)
  · by_cases hroom : n + m ≤ cap
    · have hfit : n * i.size + news.length ≤ cur.size := by rw [hl, hcs, ← Nat.add_mul]; exact Nat.mul_le_mul_right _ hroom
      have := run_append_room (P := P) w t ty e i ht hi g n cap cur hg ad m c news hl hnews h1 hroom hfit
      rw [this] at hrun
      simp only [Result.ok.injEq] at hrun
      rw [← hrun.1] at hb
      exact .inr hb
    · have := run_append_grow (P := P) w t ty e i z ht hi hz ⟨g, 0, none⟩ n cap xs hown.1 (hown.cells (g := g) rfl) ad m c news hl hnews (by omega) (by omega) (growslice_fits (by omega) hbytes)
      rw [this] at hrun
      simp only [Result.ok.injEq] at hrun
      rw [← hrun.1] at hb
      simp [blk] at hb
      exact .inl (by omega)

/-- Growing a slice that is owned (or nil) by the rows of another. -/
theorem wr_app_core (hr : Ref B w0 M0 N σ κ a w) {t e sz d id : Nat} {x' y' : Operand} {args : Array Operand} {ts : Array TypeId} {y : SX} {rows rows2 : List (List DV)} {i : TypeInfo} {z : Value} (ha : args.toList = [x', y']) (hts : ts.toList = [t, t])
    (hu : P.underlying t = some (.slice e)) (hi : P.info? e = some i) (hsz : i.size = sz) (hpos : 0 < sz) (hby : i.bytes ≤ 65536) (hz : i.zero = some z) (hzs : z.cells.size = sz)
    (hy : matchX N y' y = true) (hyd : (ev σ.s y).toDV = some (.slice rows2)) (hall : ∀ r ∈ rows2, r.length = sz) (hlim : rows.length + rows2.length ≤ 2147483648)
    (hown : ∃ xs, w.ownsRow B e sz (a.eval x') rows.length xs ∧ (∀ x ∈ xs, x.oneCell' = true) ∧ (∀ r ∈ rows, r.length = sz) ∧ RepL w (own M0 σ.h κ) rows.flatten xs)
    (hmine : ∀ b, blk (a.eval x') = some b → (σ.h id).live ∧ blk (κ id) = some b) (ty : TypeId) (pos : String) (aft : Array Edge) (gd : Option (Nat × Bool)) :
    Writes P B w0 M0 N ⟨some d, .call { callee := .builtin .append, args, argTypes := ts }, ty, pos, aft, gd⟩ a w (growTo σ d id e sz (rows ++ rows2)) := by
  have e1 : args = #[x', y'] := by rw [← Array.toList_inj]; exact ha
  have e2 : ts = #[t, t] := by rw [← Array.toList_inj]; exact hts
  subst e1 e2
  obtain ⟨xs, ho, hone, hall1, hrep⟩ := hown
  have hyr := RepS.toDV _ _ _ (matchX_rep hr hy) hyd
  unfold Rep at hyr
  obtain ⟨ad, cap, hyv, hcap, hnone, hyc⟩ := hyr
  -- the new rows' cells, and an address at which they lie
  obtain ⟨news, h1, h2, h3⟩ : ∃ news : List Value, RepL w (own M0 σ.h κ) rows2.flatten news ∧ (∀ x ∈ news, x.oneCell' = true) ∧ (rows2 = [] ∧ news = [] ∨ ∃ b o, ad = some ⟨b, o, none⟩ ∧ ∀ j u, news[j]? = some u → w.cell? ⟨b, o + j, none⟩ = some u) := by
    by_cases hemp : rows2 = []
    · subst hemp; exact ⟨[], by simp [RepL], by simp, .inl ⟨rfl, rfl⟩⟩
    · rcases hyc with hyc | ⟨b, o, sz', rfl, hm, hb, hrr⟩
      · exact absurd hyc hemp
      · rw [RepRows.iff] at hrr
        obtain ⟨vs, hv1, hv2, hv3⟩ := hrr.2.values
        exact ⟨vs, hv1, hv2, .inr ⟨b, o, rfl, hv3⟩⟩
  have hnl : news.length = rows2.length * sz := by
    rw [h1.length, List.length_flatten]
    clear h1 h3 hyd hyv hcap hyc hlim
    induction rows2 with
    | nil => simp
    | cons r rs ih => simp [hall r (by simp), ih fun q hq => hall q (by simp [hq]), Nat.add_mul]; omega
  -- the run
  obtain ⟨v', w', hrun, hown', hgrow, hv'⟩ : ∃ v' w', (Builtin.append_ #[t, t] ty #[a.eval x', a.eval y']).run P w = .ok v' w' ∧ w'.ownsRow B e sz v' (rows.length + rows2.length) (xs ++ news) ∧ w.grownBy w' (a.eval x').ownBlock ∧ ∀ b, blk v' = some b → w.heap.size ≤ b ∨ blk (a.eval x') = some b := by
    rcases h3 with ⟨rfl, rfl⟩ | ⟨b, o, rfl, hcells⟩
    · refine ⟨a.eval x', w, ?_, by simpa using ho, ⟨rfl, rfl, rfl, Nat.le_refl _, fun _ _ _ => rfl⟩, fun b hb => .inr hb⟩
      have hfc : (Builtin.firstCells sz 0 (.slice ad 0 cap)).run P w = .ok #[] w := by
        cases ad <;> simp [Builtin.firstCells, loadCells, loadCellsFrom]
      rcases ho.2 with ⟨hv, hn⟩ | ⟨g, cap', cur, hv, _, _, hcap', _⟩
      · simp at hyv
        simp [Builtin.append_, hv, hyv, run_underlying hu, sizeOf, typeInfo, hi, Builtin.lenOf, hsz, hfc]
      · simp at hyv
        have hs0 : ∀ A : Addr, (storeCells A [] 0).run P w = .ok () w := fun A => by simp [storeCells]
        simp [Builtin.append_, hv, hyv, run_underlying hu, sizeOf, typeInfo, hi, Builtin.lenOf, hsz, hfc, hcap', hs0]
    · have hbytes : (rows.length + rows2.length) * i.bytes ≤ 140737488355328 := by
        have := Nat.mul_le_mul hlim hby
        omega
      obtain ⟨v', w', hr1, hr2, hr3, _⟩ := run_append_own (P := P) w B t ty e i z sz i.bytes hu hi hz hsz rfl hzs hpos (a.eval x') rows.length xs ho ⟨b, o, none⟩ rows2.length cap news hnl (fun j u hj => by rw [addr_add]; exact hcells j u hj) h2 (by simp only [maxLen]; omega) hbytes hr.size
      refine ⟨v', w', by rw [hyv]; exact hr1, hr2, hr3, ?_⟩
      by_cases hm0 : rows2.length = 0
      · have hr20 : rows2 = [] := List.length_eq_zero_iff.1 hm0
        subst hr20
        have hn0 : news = [] := List.length_eq_zero_iff.1 (by simpa using hnl)
        subst hn0
        rcases ho.2 with ⟨hv, hn⟩ | ⟨g, cap', cur, hv, _, hg, hcap', _, hcur, _⟩
        · have : (Builtin.append_ #[t, t] ty #[.slice none 0 0, .slice (some ⟨b, o, none⟩) 0 cap]).run P w = .ok (.slice none 0 0) w := by
            simp [Builtin.append_, run_underlying hu, sizeOf, typeInfo, hi, Builtin.lenOf, Builtin.firstCells, loadCells, loadCellsFrom]
          rw [hv] at hr1
          simp only [List.length_nil] at hr1
          rw [this] at hr1
          simp only [Result.ok.injEq] at hr1
          intro b' hb'
          rw [← hr1.1] at hb'
          simp [blk] at hb'
        · subst hsz
          have := run_append_room (P := P) (ty := ty) w t e i hu hi g rows.length cap' cur hg ⟨b, o, none⟩ 0 cap [] (by simp) (by simp) (by simp) (by simpa using hcap') (by simp; rw [hcur]; exact Nat.mul_le_mul_right _ hcap')
          rw [hv] at hr1
          simp only [List.length_nil] at hr1
          rw [this] at hr1
          simp only [Result.ok.injEq] at hr1
          intro b' hb'
          rw [← hr1.1] at hb'
          rw [hv]
          exact .inr hb'
      · subst hsz
        exact append_block (P := P) w hu hi hz ho hnl (fun j u hj => by rw [addr_add]; exact hcells j u hj) h2 (by omega) hlim hbytes hr1
  have hshape : ∀ (v : Value) (n : Nat) (xs : List Value) (w : World), w.ownsRow B e sz v n xs → (∀ x, v ≠ .pointer x) ∧ (∀ x, v ≠ .map x) ∧ v.oneCell' = true := fun v n xs w h => by
    rcases h.2 with ⟨rfl, _⟩ | ⟨g, c, u, rfl, _⟩ <;> simp [Value.oneCell']
  have hs1 := hshape _ _ _ _ ho
  have hs2 := hshape _ _ _ _ hown'
  have hbx : (a.eval x').ownBlock = blk (a.eval x') := (blk_ownBlock _ hs1.1 hs1.2.1).symm
  have hkeep : ∀ b, b < w.heap.size → ¬((σ.h id).live ∧ blk (κ id) = some b) → w'.heap[b]? = w.heap[b]? := fun b hb hn => hgrow.block b hb fun he => hn (hmine b (by rw [← hbx]; exact he.symm))
  have hnew : ∀ b, (Ch.vec e sz (rows ++ rows2)).live → blk v' = some b → w.heap.size ≤ b ∨ ((σ.h id).live ∧ blk (κ id) = some b) := fun b _ hb => (hv' b hb).imp _root_.id (hmine b)
  have hext := swap_ext (dv := .any) (c := .vec e sz (rows ++ rows2)) (v := v') hr (id := id) hgrow.size hkeep hnew
  have href : Ref B w0 M0 N (σ.swap id .any (.vec e sz (rows ++ rows2))) (upd κ id v') a w' := by
    refine hr.swap hs2.2.2 hgrow.os hgrow.tape hgrow.output hgrow.size hkeep hnew (by unfold Rep; trivial) ?_
    refine ⟨xs ++ news, by rw [upd_same, List.length_append]; exact hown', fun x hx => ?_, fun r hr' => ?_, ?_⟩
    · rcases List.mem_append.1 hx with hx | hx
      · exact hone x hx
      · exact h2 x hx
    · rcases List.mem_append.1 hr' with hr' | hr'
      · exact hall1 r hr'
      · exact hall r hr'
    · rw [List.flatten_append]
      exact (hrep.ext hext).append (h1.ext hext)
  refine ⟨.value v', w', upd κ id v', ?_, .inl ⟨v', rfl, ?_⟩⟩
  · obtain ⟨cs, hcs⟩ := exec_builtin (P := P) (w := w) (dst := some d) (ty := ty) (pos := pos) (aft := aft) (gd := gd) a.eval .append #[x', y'] #[t, t]
    rw [hcs]
    simp only [builtin, Sem.run_bind]
    rw [show (#[x', y'].map a.eval) = #[a.eval x', a.eval y'] by simp, hrun]
    rfl
  · exact href.put (dst := d) (Below.refl _ _) (by simp only [RepS, upd_same])

theorem wr_mkmap (hr : Ref B w0 M0 N σ κ a w) {t : TypeId} {d : Nat} (kk : KK) (ty : TypeId) (pos : String) (aft : Array Edge) (gd : Option (Nat × Bool)) :
    Writes P B w0 M0 N ⟨some d, .makeMap t none, ty, pos, aft, gd⟩ a w { σ.swap d .any (.map kk []) with s := upd (repS d .any σ.s) d (.mp d) } := by
  have hB : Below w.heap.size w (w.alloc (.map #[] 0)) := (Below.refl _ _).alloc (Nat.le_refl _) _
  have hnew : ∀ b, (Ch.map kk []).live → blk (.map (some w.heap.size)) = some b → w.heap.size ≤ b ∨ ((σ.h d).live ∧ blk (κ d) = some b) := fun b _ hb => by
    simp [blk] at hb; subst hb; exact .inl (Nat.le_refl _)
  have href : Ref B w0 M0 N (σ.swap d .any (.map kk [])) (upd κ d (.map (some w.heap.size))) a (w.alloc (.map #[] 0)) := by
    refine hr.swap rfl rfl rfl rfl hB.size (fun b hb _ => hB.block b hb) hnew (by unfold Rep; trivial) ?_
    exact ⟨w.heap.size, [], 0, by rw [upd_same], hr.size, heap_alloc_new w _, by unfold RepMap; rfl⟩
  refine ⟨.value (.map (some w.heap.size)), w.alloc (.map #[] 0), upd κ d (.map (some w.heap.size)), ?_, .inl ⟨.map (some w.heap.size), rfl, ?_⟩⟩
  · simp only [execOp, Instr.makeMap, newObj, Sem.run_bind, Sem.run, Result.andThen_ok, Sem.run_pure, Option.map_none]
    rfl
  · exact href.put (dst := d) (Below.refl _ _) (by simp only [RepS, upd_same])

theorem sameBits_key {kk : KK} {x : DV} {v : Value} (hf : kk.fits x = true) (hk : keyVal x = some v) (n : Nat) : Instr.sameBits n v v = true := by
  cases kk <;> cases x <;> simp [KK.fits] at hf <;> simp [keyVal] at hk <;> subst hk <;> simp [Instr.sameBits, bytes_beq]

theorem wr_mset (hr : Ref B w0 M0 N σ κ a w) {t kt e : TypeId} {x y z : Operand} {m k v : SX} {kk : KK} {id : Nat} {kv : List (DV × DV)} {kd vd : DV} (h1 : matchX N x m = true) (h2 : matchX N y k = true) (h3 : matchX N z v = true) (ht : P.underlying t = some (.map kt e)) (hk : kkOf P kt = some kk)
    (hm : ev σ.s m = .mp id) (hkd : ev σ.s k = .d kd) (hvd : (ev σ.s v).toDV = some vd) (hh : σ.h id = .map kk kv) (hf : kk.fits kd = true) (ty : TypeId) (pos : String) (aft : Array Edge) (gd : Option (Nat × Bool)) :
    Writes P B w0 M0 N ⟨none, .mapUpdate t x y z, ty, pos, aft, gd⟩ a w ⟨σ.s, upd σ.h id (.map kk (kvSet kv kd vd))⟩ := by
  have hx := matchX_rep hr h1
  have hy := matchX_rep hr h2
  have hz := RepS.toDV _ _ _ (matchX_rep hr h3) hvd
  rw [hm] at hx
  rw [hkd] at hy
  simp only [RepS] at hx
  have hch := hr.chunks id
  rw [hh] at hch
  obtain ⟨r, es, clock, hkr, hB, hheap, hmap⟩ := hch
  have hx' := hx.trans hkr
  have hdesc := kkOf_spec hk
  have hkey := keyVal_of hf hy.d
  have hck : ∀ b, (Instr.checkKey b 10000 kt (a.eval y)).run P w = .ok () w := fun b => checkKey_plain hdesc _ 9999
  have hgo : (getObj r).run P w = .ok (.map es.toArray clock) w := by simp [getObj, Sem.run, hheap]
  have hso : ∀ o, (setObj r o).run P w = .ok () { w with heap := w.heap.setIfInBounds r o } := fun o => by simp [setObj, Sem.run, hheap]
  have hrlt : r < w.heap.size := (Array.getElem?_eq_some_iff.1 hheap).1
  have fin : ∀ (es' : List MapEntry) (c' : Nat), (∀ w' : World, Ext w (own M0 σ.h κ) w' (own M0 σ.h κ) → RepMap w' (own M0 σ.h κ) kk (kvSet kv kd vd) es') →
      Ref B w0 M0 N ⟨σ.s, upd σ.h id (.map kk (kvSet kv kd vd))⟩ κ a { w with heap := w.heap.setIfInBounds r (.map es'.toArray c') } := fun es' c' hrm => by
    refine hr.modify (by rw [hh]; trivial) trivial rfl rfl rfl (by simp) (fun b hb => ?_) fun hext => ?_
    · have hne : r ≠ b := fun e => hb (by rw [hkr, e]; rfl)
      simp [Array.getElem?_setIfInBounds_ne hne]
    · exact ⟨r, es', c', hkr, hB, by simp [hrlt], hrm _ hext⟩
  cases hg : kvGet kv kd with
  | none =>
    have hfn := run_find (P := P) (w := w) hdesc (find_none hf hkey 0 hmap hg)
    refine ⟨.skip, _, κ, ?_, .inr ⟨rfl, fin (es ++ [{ key := a.eval y, val := a.eval z, born := clock }]) (clock + 1) fun w' hext => map_push hf hkey (hmap.ext hext) hg vd _ (hz.ext hext)⟩⟩
    simp only [execOp, Instr.mapUpdate, Sem.run_bind, run_underlying ht, Result.andThen_ok, hx', hgo, hck, hfn, hso, Sem.run_pure]
    simp
  | some d' =>
    obtain ⟨j, e', g1, g2, g3, g4, g5⟩ := find_some hf hkey 0 hmap hg
    have hfn := run_find (P := P) (w := w) hdesc g2
    have hstay : (Instr.keyThatStays e'.key (a.eval y)).run P w = .ok (a.eval y) w := by
      rw [g4]
      simp [Instr.keyThatStays, sameBits_key hf hkey]
    refine ⟨.skip, _, κ, ?_, .inr ⟨rfl, fin (es.modify j fun e => { e with key := a.eval y, val := a.eval z }) clock fun w' hext => ?_⟩⟩
    · simp only [Nat.zero_add] at hfn
      simp only [execOp, Instr.mapUpdate, Sem.run_bind, run_underlying ht, Result.andThen_ok, hx', hgo, hck, hfn, List.getElem?_toArray, g1, Option.map_some, Option.getD_some, hstay, hso, Sem.run_pure, List.modify_toArray]
    · obtain ⟨j2, e2, k1, k2, k3, k4, k5⟩ := find_some hf hkey 0 (hmap.ext hext) hg
      have : j2 = j := by rw [g2] at k2; simp at k2; omega
      subst this
      exact k5 vd _ (hz.ext hext)
end
end Go.Proofs.YtjdeikkojjdjdaaDoor

/-
  The engine, part G: an operation that reads and computes, whichever it is.
-/
import Derived.Test.YtcnohbiegjahkaaGreatDoorSXEngF
namespace Go.Proofs.YtcnohbiegjahkaaGreatDoor
set_option linter.unusedSimpArgs false
set_option linter.unusedVariables false
open Go.RowKit

section
variable {P : Program} {c : Cx} {σ : St} {κ : Nat → Value} {φ : Nat → List Nat} {a : Act} {w : World}

theorem RepS.d {M : Nat → Prop} {x : DV} {v : Value} (h : RepS w M κ (.d x) v) : Rep w M x v := by simpa only [RepS] using h

/-- A cell of a box. -/
theorem box_cells (hr : Ref c σ κ φ a w) {id : Nat} {cs : List SV} (hb : σ.h id = .box cs) : ∃ b vs G, κ id = .pointer (some ⟨b, 0, none⟩) ∧ RepGL w (own c φ) κ cs vs G ∧ (∀ x ∈ vs, x.oneCell' = true) ∧ ∀ j : Nat, w.cell? ⟨b, j, none⟩ = vs[j]? := by
  have h := hr.chunks id
  rw [hb] at h
  obtain ⟨b, T, vs, G, h1, h3, h4, h5, _⟩ := h
  exact ⟨b, vs, G, h1, h5, h4, fun j => by rw [cell_of_row w b j _ T _ h3]; simp⟩

theorem flatten_len {α : Type} {sz : Nat} : ∀ {rows : List (List α)}, (∀ r ∈ rows, r.length = sz) → rows.flatten.length = rows.length * sz
  | [], _ => by simp
  | r :: rows, h => by
    have := flatten_len (rows := rows) (fun r hr => h r (by simp [hr]))
    simp only [List.flatten_cons, List.length_append, List.length_cons, this, h r (by simp), Nat.add_mul]; omega

theorem rows_split {α : Type} {rows : List (List α)} {i : Nat} {r : List α} (hi : rows[i]? = some r) : rows.flatten = (rows.take i).flatten ++ (r ++ (rows.drop (i + 1)).flatten) := by
  have hlt := (List.getElem?_eq_some_iff.1 hi).1
  conv => lhs; rw [← List.take_append_drop i rows, List.drop_eq_getElem_cons hlt, (List.getElem?_eq_some_iff.1 hi).2]
  simp

/-- The cells of a row, out of those of all rows. -/
theorem row_cells {M : Nat → Prop} {rows : List (List SV)} {sz i : Nat} {r : List SV} {xs : List Value} {G : List Nat} (hall : ∀ r ∈ rows, r.length = sz) (h : RepGL w M κ rows.flatten xs G) (hi : rows[i]? = some r) :
    ∃ G1 G2 G3, G = G1 ++ (G2 ++ G3) ∧ RepGL w M κ (rows.take i).flatten (xs.take (i * sz)) G1 ∧ RepGL w M κ r ((xs.drop (i * sz)).take sz) G2 ∧ RepGL w M κ (rows.drop (i + 1)).flatten (xs.drop (i * sz + sz)) G3 := by
  have hlt := (List.getElem?_eq_some_iff.1 hi).1
  have hrl := hall r (List.mem_of_getElem? hi)
  rw [rows_split hi] at h
  obtain ⟨G1, G', rfl, h1, h2⟩ := h.split
  obtain ⟨G2, G3, rfl, h3, h4⟩ := h2.split
  have hl : (rows.take i).flatten.length = i * sz := by
    rw [flatten_len (sz := sz) (fun r hr => hall r (List.mem_of_mem_take hr)), List.length_take, show min i rows.length = i by omega]
  rw [hl] at h1 h3 h4
  rw [hrl] at h3 h4
  rw [List.drop_drop] at h4
  exact ⟨G1, G2, G3, rfl, h1, h3, h4⟩

/-- A row of a slice that is being made. -/
theorem vec_cells (hr : Ref c σ κ φ a w) {id e sz : Nat} {rows : List (List SV)} (hb : σ.h id = .vec e sz rows) {i : Nat} {r : List SV} (hi : rows[i]? = some r) {b len cap : Nat} (hk : κ id = .slice (some ⟨b, 0, none⟩) len cap) :
    r.length = sz ∧ ∃ vs G, RepGL w (own c φ) κ r vs G ∧ (∀ x ∈ vs, x.oneCell' = true) ∧ ∀ j v, vs[j]? = some v → w.cell? ⟨b, i * sz + j, none⟩ = some v := by
  have h := hr.chunks id
  rw [hb] at h
  obtain ⟨xs, G, h1, h2, h3, h4, _⟩ := h
  have hrl := h3 r (List.mem_of_getElem? hi)
  obtain ⟨G1, G2, G3, _, _, h5, _⟩ := row_cells h3 h4 hi
  refine ⟨hrl, _, G2, h5, fun x hx => h2 x (List.mem_of_mem_drop (List.mem_of_mem_take hx)), fun j v hj => ?_⟩
  rw [List.getElem?_take] at hj
  split at hj
  · rw [List.getElem?_drop] at hj
    have hcell := h1.cells (g := b) (by rw [hk]; rfl) (i * sz + j) v hj
    rw [addr_add] at hcell
    simpa using hcell
  · cases hj

theorem vec_len (hr : Ref c σ κ φ a w) {id e sz : Nat} {rows : List (List SV)} (hb : σ.h id = .vec e sz rows) : (κ id = .slice none 0 0 ∧ rows = []) ∨ ∃ b cap, κ id = .slice (some ⟨b, 0, none⟩) rows.length cap := by
  have h := hr.chunks id
  rw [hb] at h
  obtain ⟨xs, G, h1, _⟩ := h
  rcases h1.2 with ⟨hv, hn⟩ | ⟨g, cap, cur, hv, _⟩
  · exact .inl ⟨hv, List.length_eq_zero_iff.1 hn⟩
  · exact .inr ⟨g, cap, hv⟩

theorem RepMap.length {M : Nat → Prop} {kk : KK} : ∀ {kv : List (DV × SV)} {es : List MapEntry} {F : List Nat}, RepMap w M κ kk kv es F → es.length = kv.length
  | [], es, F, h => by unfold RepMap at h; simp [h]
  | (k, c) :: kv, es, F, h => by
    unfold RepMap at h
    obtain ⟨e, rest, _, _, rfl, _, _, _, _, h5⟩ := h
    simp [RepMap.length h5]

theorem parts_match (hr : Ref c σ κ φ a w) {fs : Array Field} : ∀ {ps : List (Nat × Operand)} {qs : List (Nat × Nat × SX)}, matchParts P c.N fs ps qs = true →
    All2 (fun (p : Nat × Nat × SV) (q : Nat × Operand) => (∃ f, fs[q.1]? = some f ∧ f.offset = p.1 ∧ P.cellsOf f.type = p.2.1) ∧ RepS w (own c φ) κ p.2.2 (a.eval q.2)) (qs.map fun p => (p.1, p.2.1, ev σ.s p.2.2)) ps
  | [], [], _ => .nil
  | (i, x) :: ps, (off, n, y) :: qs, h => by
    simp only [matchParts, Bool.and_eq_true] at h
    obtain ⟨⟨h1, h2⟩, h3⟩ := h
    refine .cons ⟨?_, matchX_rep hr h2⟩ (parts_match hr h3)
    split at h1
    · rename_i f hf
      simp at h1
      exact ⟨f, hf, h1.1.1, h1.2⟩
    · cases h1
  | [], _ :: _, h => by simp [matchParts] at h
  | _ :: _, [], h => by simp [matchParts] at h

theorem partsA_match (hr : Ref c σ κ φ a w) {sz : Nat} : ∀ {ps : List (Nat × Operand)} {qs : List (Nat × Nat × SX)}, matchPartsA c.N sz ps qs = true →
    All2 (fun (p : Nat × Nat × SV) (q : Nat × Operand) => (p.1 = q.1 * sz ∧ p.2.1 = sz) ∧ RepS w (own c φ) κ p.2.2 (a.eval q.2)) (qs.map fun p => (p.1, p.2.1, ev σ.s p.2.2)) ps
  | [], [], _ => .nil
  | (i, x) :: ps, (off, n, y) :: qs, h => by
    simp only [matchPartsA, Bool.and_eq_true, beq_iff_eq] at h
    obtain ⟨⟨⟨h0, h1⟩, h2⟩, h3⟩ := h
    exact .cons ⟨⟨h0, h1⟩, matchX_rep hr h2⟩ (partsA_match hr h3)
  | [], _ :: _, h => by simp [matchPartsA] at h
  | _ :: _, [], h => by simp [matchPartsA] at h

/-- Bytes told in cells. -/
theorem bytesC_rep {M : Nat → Prop} : ∀ {cs : List SV} {l : List UInt8} {vs : List Value}, bytesC cs = some l → RepSL w M κ cs vs → cs.length = l.length ∧ vs.length = l.length ∧ ∀ (j : Nat) (c : UInt8), l[j]? = some c → vs[j]? = some (.int .u8 c.toNat)
  | [], l, vs, h, hr => by
    simp only [bytesC, Option.some.injEq] at h; subst h
    simp only [RepSL] at hr; subst hr
    simp
  | x :: cs, l, vs, h, hr => by
    unfold bytesC at h
    split at h
    · rename_i heq; cases heq
    · rename_i n r heq
      simp only [List.cons.injEq] at heq
      obtain ⟨rfl, rfl⟩ := heq
      split at h
      · rename_i hn
        split at h
        · rename_i l' hl'
          simp only [Option.some.injEq] at h; subst h
          simp only [RepSL] at hr
          obtain ⟨u, us, rfl, h1, h2⟩ := hr
          obtain ⟨k1, k2, k3⟩ := bytesC_rep hl' h2
          simp only [RepS, Rep] at h1
          subst h1
          refine ⟨by simp [k1], by simp [k2], fun j c hj => ?_⟩
          cases j with
          | zero =>
            simp at hj; subst hj
            have : (UInt8.ofNat n.toNat).toNat = n.toNat := UInt8.toNat_ofNat_of_lt' (by show n.toNat < 256; omega)
            simp only [List.getElem?_cons_zero, this]
            congr 2; omega
          | succ j => simpa using k3 j c (by simpa using hj)
        · cases h
      · cases h
    · cases h
theorem bytesC_noOwn : ∀ {cs : List SV} {l : List UInt8}, bytesC cs = some l → SV.noOwns cs = true
  | [], _, _ => rfl
  | x :: cs, l, h => by
    unfold bytesC at h
    split at h
    · rename_i heq; cases heq
    · rename_i n r heq
      simp only [List.cons.injEq] at heq
      obtain ⟨rfl, rfl⟩ := heq
      split at h
      · split at h
        · rename_i l' hl'
          simp only [SV.noOwns, SV.noOwn, bytesC_noOwn hl', Bool.and_self]
        · cases h
      · cases h
    · cases h
theorem bytesD_rows {M : Nat → Prop} : ∀ {rows : List (List DV)} {l : List UInt8} {b o sz : Nat}, bytesD rows = some l → RepRows w M rows b o sz → rows.length = l.length ∧ ∀ (j : Nat) (c : UInt8), l[j]? = some c → w.cell? ⟨b, o + j, none⟩ = some (.int .u8 c.toNat)
  | [], l, b, o, sz, h, hr => by
    simp only [bytesD, Option.some.injEq] at h; subst h
    simp
  | r :: rows, l, b, o, sz, h, hr => by
    unfold bytesD at h
    split at h
    · rename_i heq; cases heq
    · rename_i n r' heq
      simp only [List.cons.injEq] at heq
      obtain ⟨rfl, rfl⟩ := heq
      split at h
      · rename_i hn
        split at h
        · rename_i l' hl'
          simp only [Option.some.injEq] at h; subst h
          simp only [RepRows] at hr
          obtain ⟨h0, h1, h2⟩ := hr
          simp at h0; subst h0
          obtain ⟨k1, k2⟩ := bytesD_rows hl' h2
          simp only [RepAt] at h1
          obtain ⟨⟨v, hv, _, hr'⟩, _⟩ := h1
          simp only [Rep] at hr'
          subst hr'
          refine ⟨by simp [k1], fun j c hj => ?_⟩
          cases j with
          | zero =>
            simp at hj; subst hj
            have : (UInt8.ofNat n.toNat).toNat = n.toNat := UInt8.toNat_ofNat_of_lt' (by show n.toNat < 256; omega)
            rw [Nat.add_zero, hv, this]
            congr 2; omega
          | succ j =>
            have := k2 j c (by simpa using hj)
            rwa [show o + 1 + j = o + (j + 1) by omega] at this
        · cases h
      · cases h
    · cases h
theorem bytesD_len : ∀ {rows : List (List DV)} {l : List UInt8}, bytesD rows = some l → rows.length = l.length
  | [], l, h => by simp only [bytesD, Option.some.injEq] at h; subst h; rfl
  | r :: rows, l, h => by
    unfold bytesD at h
    split at h
    · rename_i heq; cases heq
    · rename_i n r' heq
      simp only [List.cons.injEq] at heq
      obtain ⟨rfl, rfl⟩ := heq
      split at h
      · split at h
        · rename_i l' hl'
          simp only [Option.some.injEq] at h; subst h
          simp [bytesD_len hl']
        · cases h
      · cases h
    · cases h

theorem rows_match (hr : Ref c σ κ φ a w) : ∀ {k : Nat} {ps : List (Nat × Operand)} {qs : List SX}, matchRows c.N k ps qs = true →
    RepSL w (own c φ) κ (qs.map (ev σ.s)) (ps.map fun q => a.eval q.2) ∧ ∀ (j : Nat) q, ps[j]? = some q → q.1 = k + j
  | _, [], [], _ => by simp [RepSL]
  | k, (i, x) :: ps, y :: qs, h => by
    simp only [matchRows, Bool.and_eq_true, beq_iff_eq] at h
    obtain ⟨⟨h1, h2⟩, h3⟩ := h
    obtain ⟨h4, h5⟩ := rows_match hr h3
    refine ⟨by simp only [List.map_cons, RepSL]; exact ⟨_, _, rfl, matchX_rep hr h2, h4⟩, fun j q hj => ?_⟩
    cases j with
    | zero => simp at hj; subst hj; simp [h1]
    | succ j => have := h5 j q (by simpa using hj); omega
  | _, [], _ :: _, h => by simp [matchRows] at h
  | _, _ :: _, [], h => by simp [matchRows] at h

theorem boolOk_spec {t : TypeId} (h : boolOk P t = true) : P.underlying t = some .bool := by
  unfold boolOk at h; split at h
  · assumption
  · cases h
theorem ptrOk_spec {t : TypeId} (h : ptrOk P t = true) : ∃ e, P.underlying t = some (.pointer e) := by
  unfold ptrOk at h; split at h
  · exact ⟨_, by assumption⟩
  · cases h
theorem ifaceOk_spec {t : TypeId} (h : ifaceOk P t = true) : ∃ ms, P.underlying t = some (.interface ms) := by
  unfold ifaceOk at h; split at h
  · exact ⟨_, by assumption⟩
  · cases h

theorem zeroX_spec {t : TypeId} {y : SX} (h : zeroX P t y = true) : ∃ v i z, y = .c v ∧ P.info? t = some i ∧ i.zero = some z ∧ constOk z v = true := by
  cases y with
  | c v =>
    simp only [zeroX] at h
    split at h
    · rename_i i hi
      split at h
      · rename_i z hz; exact ⟨v, i, z, rfl, hi, hz, h⟩
      · cases h
    · cases h
  | _ => simp [zeroX] at h

theorem rd_sound (hr : Ref c σ κ φ a w) {o : Oper} {op : ROp} (hm : matchR P c.N o.op op = true) {p : Prop} {x : SV} (hrd : rd σ.h σ.s op = some (p, x)) (hp : p) : Gives P a o w (own c φ) κ x := by
  obtain ⟨dst, oop, ty, pos, aft, gd⟩ := o
  simp only at hm
  cases op with
  | mv y =>
    simp only [rd, Option.some.injEq, Prod.mk.injEq] at hrd
    obtain ⟨_, rfl⟩ := hrd
    simp only [matchR] at hm
    split at hm
    · exact gives_mv (matchX_rep hr hm)
    · exact gives_assign (matchX_rep hr hm)
    · cases hm
  | pick c b d =>
    simp only [matchR] at hm
    split at hm
    · simp only [Bool.and_eq_true] at hm
      obtain ⟨⟨h1, h2⟩, h3⟩ := hm
      have hc := matchX_rep hr h1
      simp only [rd] at hrd
      split at hrd
      · rename_i heq
        rw [heq] at hc
        simp only [Option.some.injEq, Prod.mk.injEq] at hrd
        obtain ⟨_, rfl⟩ := hrd
        exact gives_pick hc (by simpa using matchX_rep hr h2)
      · rename_i heq
        rw [heq] at hc
        simp only [Option.some.injEq, Prod.mk.injEq] at hrd
        obtain ⟨_, rfl⟩ := hrd
        exact gives_pick hc (by simpa using matchX_rep hr h3)
      · cases hrd
    · cases hm
  | boxI y =>
    simp only [matchR] at hm
    split at hm
    · have hy := matchX_rep hr hm
      simp only [rd] at hrd
      split at hrd
      · rename_i cs heq
        simp only [Option.some.injEq, Prod.mk.injEq] at hrd
        obtain ⟨_, rfl⟩ := hrd
        unfold rowOf at heq
        cases hd : (ev σ.s y).toDV with
        | none => simp [hd] at heq
        | some dd =>
          simp only [hd] at heq
          obtain ⟨vs, h1, h2, h3⟩ := (RepS.toDV _ _ dd hy hd).cells heq
          exact gives_box (fun b hb => hr.own_lt hb) h1 h2 h3
      · cases hrd
    · obtain ⟨v, i, z, rfl, hi, hz, hconst⟩ := zeroX_spec hm
      have hy : RepS w (own c φ) κ v z := constOk_rep hconst
      simp only [rd, ev] at hrd
      split at hrd
      · rename_i cs heq
        simp only [Option.some.injEq, Prod.mk.injEq] at hrd
        obtain ⟨_, rfl⟩ := hrd
        unfold rowOf at heq
        cases hd : v.toDV with
        | none => simp [hd] at heq
        | some dd =>
          simp only [hd] at heq
          obtain ⟨vs, h1, h2, h3⟩ := (RepS.toDV _ _ dd hy hd).cells heq
          exact gives_alloc hi hz (fun b hb => hr.own_lt hb) h1 h2 h3
      · cases hrd
    · cases hm
  | ld1 y =>
    simp only [matchR] at hm
    split at hm
    · simp only [Bool.and_eq_true] at hm
      obtain ⟨h1, h2⟩ := hm
      have hy := matchX_rep hr h1
      split at h2
      · rename_i d hd
        simp only [Bool.not_eq_true'] at h2
        simp only [rd] at hrd
        split at hrd
        · rename_i c cs heq
          simp only [Option.some.injEq, Prod.mk.injEq] at hrd
          obtain ⟨_, rfl⟩ := hrd
          rw [heq] at hy
          simp only [RepS, Rep, RepAt] at hy
          obtain ⟨b, o, hv, hm', hlt, ⟨v, hv', _, hrep⟩, _⟩ := hy
          exact gives_ld1 hd h2 hv hv' (by simpa only [RepS] using hrep)
        · rename_i id off heq
          rw [heq] at hy
          simp only [RepS] at hy
          obtain ⟨b, hkb, hv⟩ := hy
          split at hrd
          · rename_i cs hbox
            split at hrd
            · rename_i c hc
              split at hrd
              · rename_i hno
                simp only [Option.some.injEq, Prod.mk.injEq] at hrd
                obtain ⟨_, rfl⟩ := hrd
                obtain ⟨b', vs, G, hk', hl, h1', hcell⟩ := box_cells hr hbox
                rw [hkb] at hk'; simp at hk'; subst hk'
                obtain ⟨v, G', hv1, hv2⟩ := hl.get hc
                exact gives_ld1 hd h2 hv (by rw [hcell]; exact hv1) (RepG.to_S _ _ _ hno hv2).1
              · cases hrd
            · cases hrd
          · cases hrd
        · rename_i id sz i off heq
          rw [heq] at hy
          simp only [RepS] at hy
          obtain ⟨b, len, cap, hkb, hv⟩ := hy
          split at hrd
          · rename_i e sz' rows hbox
            split at hrd
            · rename_i r hrow
              split at hrd
              · rename_i c hc
                split at hrd
                · rename_i hno
                  simp only [Option.some.injEq, Prod.mk.injEq] at hrd
                  obtain ⟨rfl, rfl⟩ := hrd
                  subst hp
                  obtain ⟨hlen, vs, G, hl, _, hcell⟩ := vec_cells hr hbox hrow hkb
                  obtain ⟨v, G', hv1, hv2⟩ := hl.get hc
                  exact gives_ld1 hd h2 hv (hcell off v hv1) (RepG.to_S _ _ _ hno hv2).1
                · cases hrd
              · cases hrd
            · cases hrd
          · cases hrd
        · cases hrd
      · cases h2
    · cases hm
  | ldA n y =>
    simp only [matchR] at hm
    split at hm
    · simp only [Bool.and_eq_true, beq_iff_eq] at hm
      obtain ⟨⟨⟨h1, h2⟩, h3⟩, h4⟩ := hm
      have hy := matchX_rep hr h1
      split at h2
      · rename_i d hd
        simp only [rd] at hrd
        split at hrd
        · rename_i cs heq
          simp only [Option.some.injEq, Prod.mk.injEq] at hrd
          obtain ⟨rfl, rfl⟩ := hrd
          rw [heq] at hy
          simp only [RepS, Rep] at hy
          obtain ⟨b, o, hv, hm', hlt, hat⟩ := hy
          obtain ⟨vs, hl, hone, hcell⟩ := hat.values
          have hlen := hl.length
          refine gives_ldA (vs := vs.take n) hd h2 h3 (by simp; omega) hv (fun j v hj => hcell j v ?_) ?_
          · rw [List.getElem?_take] at hj; split at hj
            · exact hj
            · cases hj
          · simp only [RepS, Rep]
            exact ⟨_, rfl, fun z hz => hone z (List.mem_of_mem_take hz), hl.take n⟩
        · rename_i id off heq
          rw [heq] at hy
          simp only [RepS] at hy
          obtain ⟨b, hkb, hv⟩ := hy
          split at hrd
          · rename_i cs hbox
            split at hrd
            · rename_i hno
              simp only [Option.some.injEq, Prod.mk.injEq] at hrd
              obtain ⟨rfl, rfl⟩ := hrd
              obtain ⟨b', vs, G, hk', hl, h1', hcell⟩ := box_cells hr hbox
              rw [hkb] at hk'; simp at hk'; subst hk'
              have hlen := hl.length
              refine gives_ldA (vs := (vs.drop off).take n) hd h2 h3 (by simp; omega) hv (fun j v hj => ?_) ?_
              · rw [List.getElem?_take] at hj; split at hj
                · rw [List.getElem?_drop] at hj; rw [hcell]; exact hj
                · cases hj
              · simp only [RepS]
                obtain ⟨G1, _, k1⟩ := hl.drop off
                obtain ⟨G2, _, k2⟩ := k1.take n
                exact ⟨_, rfl, fun z hz => h1' z (List.mem_of_mem_drop (List.mem_of_mem_take hz)), (RepGL.to_S _ _ _ hno k2).1⟩
            · cases hrd
          · cases hrd
        · rename_i id sz i off heq
          rw [heq] at hy
          simp only [RepS] at hy
          obtain ⟨b, len, cap, hkb, hv⟩ := hy
          split at hrd
          · rename_i e sz' rows hbox
            split at hrd
            · rename_i r hrow
              split at hrd
              · rename_i hno
                simp only [Option.some.injEq, Prod.mk.injEq] at hrd
                obtain ⟨rfl, rfl⟩ := hrd
                obtain ⟨rfl, hle⟩ := hp
                obtain ⟨hlen, vs, G, hl, hone, hcell⟩ := vec_cells hr hbox hrow hkb
                have hlen := hl.length
                refine gives_ldA (vs := (vs.drop off).take n) hd h2 h3 (by simp; omega) hv (fun j v hj => ?_) ?_
                · rw [List.getElem?_take] at hj; split at hj
                  · rw [List.getElem?_drop] at hj
                    have := hcell _ _ hj
                    rwa [← Nat.add_assoc] at this
                  · cases hj
                · simp only [RepS]
                  obtain ⟨G1, _, k1⟩ := hl.drop off
                  obtain ⟨G2, _, k2⟩ := k1.take n
                  exact ⟨_, rfl, fun z hz => hone z (List.mem_of_mem_drop (List.mem_of_mem_take hz)), (RepGL.to_S _ _ _ hno k2).1⟩
              · cases hrd
            · cases hrd
          · cases hrd
        · cases hrd
      · cases h2
    · cases hm
  | fld off y =>
    simp only [matchR] at hm
    split at hm
    · simp only [Bool.and_eq_true] at hm
      obtain ⟨h1, h2⟩ := hm
      have hy := matchX_rep hr h1
      split at h2
      · rename_i fs hfs
        split at h2
        · rename_i f hf
          simp only [Bool.and_eq_true, beq_iff_eq, bne_iff_ne] at h2
          obtain ⟨⟨rfl, h3⟩, h4⟩ := h2
          simp only [rd] at hrd
          split at hrd
          · rename_i cs heq
            simp only [Option.some.injEq, Prod.mk.injEq] at hrd
            obtain ⟨_, rfl⟩ := hrd
            rw [heq] at hy
            simp only [RepS, Rep] at hy
            obtain ⟨b, o, hv, hm', hlt, hat⟩ := hy
            exact gives_fld hfs hf h3 h4 hv (by simp only [RepS, Rep]; exact ⟨b, _, rfl, hm', hlt, hat.drop _⟩)
          · rename_i id o heq
            simp only [Option.some.injEq, Prod.mk.injEq] at hrd
            obtain ⟨_, rfl⟩ := hrd
            rw [heq] at hy
            simp only [RepS] at hy
            obtain ⟨b, hkb, hv⟩ := hy
            exact gives_fld hfs hf h3 h4 hv (by simp only [RepS]; exact ⟨b, hkb, rfl⟩)
          · rename_i id sz i o heq
            simp only [Option.some.injEq, Prod.mk.injEq] at hrd
            obtain ⟨_, rfl⟩ := hrd
            rw [heq] at hy
            simp only [RepS] at hy
            obtain ⟨b, len, cap, hkb, hv⟩ := hy
            exact gives_fld hfs hf h3 h4 hv (by simp only [RepS]; exact ⟨b, len, cap, hkb, by rw [Nat.add_assoc]⟩)
          · cases hrd
        · cases h2
      · cases h2
    · cases hm
  | prt1 off y =>
    simp only [matchR] at hm
    split at hm
    · simp only [Bool.and_eq_true] at hm
      obtain ⟨h1, h2⟩ := hm
      have hy := matchX_rep hr h1
      split at h2
      · rename_i fs hfs
        split at h2
        · rename_i f hf
          simp only [Bool.and_eq_true, beq_iff_eq] at h2
          obtain ⟨rfl, h3⟩ := h2
          split at h3
          · rename_i d hd
            simp only [Bool.not_eq_true'] at h3
            simp only [rd] at hrd
            split at hrd
            · rename_i cs heq
              split at hrd
              · rename_i c hc
                simp only [Option.some.injEq, Prod.mk.injEq] at hrd
                obtain ⟨_, rfl⟩ := hrd
                rw [heq] at hy
                simp only [RepS, Rep] at hy
                obtain ⟨vs, hv, _, hl⟩ := hy
                obtain ⟨v, hv1, hv2⟩ := hl.get hc
                exact gives_prt1 hfs hf hd h3 hv hv1 (by simpa only [RepS] using hv2)
              · cases hrd
            · rename_i cs heq
              split at hrd
              · rename_i c hc
                simp only [Option.some.injEq, Prod.mk.injEq] at hrd
                obtain ⟨_, rfl⟩ := hrd
                rw [heq] at hy
                simp only [RepS] at hy
                obtain ⟨vs, hv, _, hl⟩ := hy
                obtain ⟨v, hv1, hv2⟩ := hl.get hc
                exact gives_prt1 hfs hf hd h3 hv hv1 hv2
              · cases hrd
            · cases hrd
          · cases h3
        · cases h2
      · cases h2
    · cases hm
  | prtA off n y =>
    simp only [matchR] at hm
    split at hm
    · simp only [Bool.and_eq_true] at hm
      obtain ⟨h1, h2⟩ := hm
      have hy := matchX_rep hr h1
      split at h2
      · rename_i fs hfs
        split at h2
        · rename_i f hf
          simp only [Bool.and_eq_true, beq_iff_eq] at h2
          obtain ⟨⟨⟨rfl, h3⟩, h4⟩, rfl⟩ := h2
          split at h3
          · rename_i d hd
            simp only [rd] at hrd
            split at hrd
            · rename_i cs heq
              simp only [Option.some.injEq, Prod.mk.injEq] at hrd
              obtain ⟨_, rfl⟩ := hrd
              rw [heq] at hy
              simp only [RepS, Rep] at hy
              obtain ⟨vs, hv, hone, hl⟩ := hy
              exact gives_prtA hfs hf hd h3 h4 hv (by simp only [RepS, Rep]; exact ⟨_, rfl, fun z hz => hone z (List.mem_of_mem_drop (List.mem_of_mem_take hz)), (hl.drop _).take _⟩)
            · rename_i cs heq
              simp only [Option.some.injEq, Prod.mk.injEq] at hrd
              obtain ⟨_, rfl⟩ := hrd
              rw [heq] at hy
              simp only [RepS] at hy
              obtain ⟨vs, hv, hone, hl⟩ := hy
              exact gives_prtA hfs hf hd h3 h4 hv (by simp only [RepS]; exact ⟨_, rfl, fun z hz => hone z (List.mem_of_mem_drop (List.mem_of_mem_take hz)), (hl.drop _).take _⟩)
            · cases hrd
          · cases h3
        · cases h2
      · cases h2
    · cases hm
  | idx sz y j =>
    simp only [matchR] at hm
    split at hm
    · simp only [Bool.and_eq_true] at hm
      obtain ⟨⟨h1, h2⟩, h3⟩ := hm
      have hy := matchX_rep hr h1
      have hj := matchX_rep hr h2
      split at h3
      · rename_i e he
        simp only [Bool.and_eq_true, beq_iff_eq] at h3
        obtain ⟨h4, rfl⟩ := h3
        simp only [rd] at hrd
        split at hrd
        · rename_i k n heqi
          rw [heqi] at hj
          simp only [RepS, Rep] at hj
          split at hrd
          · rename_i rows heq
            rw [heq] at hy
            simp only [RepS, Rep] at hy
            obtain ⟨ad, cap, hv, hc, hn, hcase⟩ := hy
            split at hrd
            · rename_i r hrow
              simp only [Option.some.injEq, Prod.mk.injEq] at hrd
              obtain ⟨rfl, rfl⟩ := hrd
              obtain ⟨h0, hlen⟩ := hp
              have hlt : n.toNat < rows.length := (List.getElem?_eq_some_iff.1 hrow).1
              rcases hcase with hcase | ⟨b, o, sz', rfl, hm', hb, hrows⟩
              · subst hcase; simp at hrow
              · have hsz : sz' = P.cellsOf e := by
                  rw [RepRows.iff] at hrows
                  rw [← hlen]; exact (hrows.1 r (List.mem_of_getElem? hrow)).symm
                subst hsz
                refine gives_idx he h4 hv hj h0 (by omega) ?_
                simp only [RepS, Rep]
                refine ⟨b, _, rfl, hm', hb, ?_⟩
                have := hrows.drop n.toNat
                rw [List.drop_eq_getElem_cons hlt] at this
                unfold RepRows at this
                have e : rows[n.toNat] = r := (List.getElem?_eq_some_iff.1 hrow).2
                rw [e] at this
                exact this.2.1
            · cases hrd
          · rename_i sz2 k cs heq
            rw [heq] at hy
            split at hrd
            · rename_i ds hds
              have hy' := RepS.toDV _ _ (.slice (chunkR sz2 k ds)) hy (by simp only [SV.toDV, hds])
              generalize chunkR sz2 k ds = rows at hrd hy'
              simp only [Rep] at hy'
              obtain ⟨ad, cap, hv, hc, hn, hcase⟩ := hy'
              split at hrd
              · rename_i r hrow
                simp only [Option.some.injEq, Prod.mk.injEq] at hrd
                obtain ⟨rfl, rfl⟩ := hrd
                obtain ⟨h0, hlen⟩ := hp
                have hlt : n.toNat < rows.length := (List.getElem?_eq_some_iff.1 hrow).1
                rcases hcase with hcase | ⟨b, o, sz', rfl, hm', hb, hrows⟩
                · subst hcase; simp at hrow
                · have hsz : sz' = P.cellsOf e := by
                    rw [RepRows.iff] at hrows
                    rw [← hlen]; exact (hrows.1 r (List.mem_of_getElem? hrow)).symm
                  subst hsz
                  refine gives_idx he h4 hv hj h0 (by omega) ?_
                  simp only [RepS, Rep]
                  refine ⟨b, _, rfl, hm', hb, ?_⟩
                  have := hrows.drop n.toNat
                  rw [List.drop_eq_getElem_cons hlt] at this
                  unfold RepRows at this
                  have e : rows[n.toNat] = r := (List.getElem?_eq_some_iff.1 hrow).2
                  rw [e] at this
                  exact this.2.1
              · cases hrd
            · cases hrd
          · rename_i id heq
            rw [heq] at hy
            simp only [RepS] at hy
            split at hrd
            · rename_i e' sz' rows hbox
              simp only [Option.some.injEq, Prod.mk.injEq] at hrd
              obtain ⟨rfl, rfl⟩ := hrd
              obtain ⟨h0, h5, rfl⟩ := hp
              rcases vec_len hr hbox with ⟨_, rfl⟩ | ⟨b, cap, hkb⟩
              · simp at h5; omega
              · refine gives_idx he h4 (hy.trans hkb) hj h0 h5 ?_
                simp only [RepS]
                exact ⟨b, _, cap, hkb, by simp⟩
            · cases hrd
          · cases hrd
        · cases hrd
      · cases h3
    · cases hm
  | sidx y j =>
    simp only [matchR] at hm
    split at hm
    · simp only [Bool.and_eq_true] at hm
      obtain ⟨⟨h1, h2⟩, h3⟩ := hm
      have hy := matchX_rep hr h1
      have hj := matchX_rep hr h2
      split at h3
      · rename_i he
        simp only [rd] at hrd
        split at hrd
        · rename_i l k n heq heqi
          rw [heqi] at hj
          rw [heq] at hy
          simp only [RepS, Rep] at hj hy
          split at hrd
          · rename_i c hc
            simp only [Option.some.injEq, Prod.mk.injEq] at hrd
            obtain ⟨rfl, rfl⟩ := hrd
            exact gives_sidx he hy hj hp hc
          · cases hrd
        · cases hrd
      · cases h3
    · cases hm
  | bin b y z =>
    simp only [matchR] at hm
    split at hm
    · simp only [Bool.and_eq_true, beq_iff_eq] at hm
      obtain ⟨⟨rfl, h1⟩, h2⟩ := hm
      have hy := matchX_rep hr h1
      have hz := matchX_rep hr h2
      simp only [rd] at hrd
      split at hrd
      · rename_i heq heq'
        rw [heq] at hy; rw [heq'] at hz
        split at hrd
        · rename_i hb
          simp only [Option.some.injEq, Prod.mk.injEq] at hrd
          obtain ⟨rfl, rfl⟩ := hrd
          exact gives_bin (by trivial) hy.d hz.d hb hp
        · cases hrd
      · rename_i heq heq'
        rw [heq] at hy; rw [heq'] at hz
        split at hrd
        · rename_i hb
          simp only [Option.some.injEq, Prod.mk.injEq] at hrd
          obtain ⟨rfl, rfl⟩ := hrd
          exact gives_bin (by trivial) hy.d hz.d hb hp
        · cases hrd
      · cases hrd
    · cases hm
  | binB b y z =>
    simp only [matchR] at hm
    split at hm
    · simp only [Bool.and_eq_true, beq_iff_eq] at hm
      obtain ⟨⟨⟨rfl, h1⟩, h2⟩, h3⟩ := hm
      have hy := matchX_rep hr h1
      have hz := matchX_rep hr h2
      have ht := boolOk_spec h3
      simp only [rd] at hrd
      split at hrd
      · rename_i heq heq'
        rw [heq] at hy; rw [heq'] at hz
        split at hrd
        · rename_i hb
          simp only [Option.some.injEq, Prod.mk.injEq] at hrd
          obtain ⟨rfl, rfl⟩ := hrd
          (refine gives_bin ?_ hy.d hz.d hb hp; exact ht)
        · cases hrd
      · cases hrd
    · cases hm
  | binI b y z =>
    simp only [matchR] at hm
    split at hm
    · simp only [Bool.and_eq_true, beq_iff_eq, Bool.or_eq_true] at hm
      obtain ⟨⟨⟨⟨rfl, h1⟩, h2⟩, h3⟩, h4⟩ := hm
      have hy := matchX_rep hr h1
      have hz := matchX_rep hr h2
      have ht := ifaceOk_spec h3
      simp only [rd] at hrd
      split at hrd
      · rename_i heq heq'
        rw [heq] at hy; rw [heq'] at hz
        split at hrd
        · rename_i hb
          simp only [Option.some.injEq, Prod.mk.injEq] at hrd
          obtain ⟨rfl, rfl⟩ := hrd
          (refine gives_bin ?_ hy.d hz.d hb hp; exact ⟨h4, ht⟩)
        · cases hrd
      · rename_i heq heq'
        rw [heq] at hy; rw [heq'] at hz
        split at hrd
        · rename_i hb
          simp only [Option.some.injEq, Prod.mk.injEq] at hrd
          obtain ⟨rfl, rfl⟩ := hrd
          (refine gives_bin ?_ hy.d hz.d hb hp; exact ⟨h4, ht⟩)
        · cases hrd
      · cases hrd
    · cases hm
  | gd _ _ _ => simp [matchR] at hm
  | binP b y z =>
    simp only [matchR] at hm
    split at hm
    · simp only [Bool.and_eq_true, beq_iff_eq] at hm
      obtain ⟨⟨⟨rfl, h1⟩, h2⟩, h3⟩ := hm
      have hy := matchX_rep hr h1
      have hz := matchX_rep hr h2
      obtain ⟨e, he⟩ := ptrOk_spec h3
      simp only [rd] at hrd
      split at hrd
      · rename_i heq
        rw [heq] at hz
        simp only [RepS, Rep] at hz
        split at hrd
        · split at hrd
          · rename_i heq2
            rw [heq2] at hy
            simp only [RepS] at hy
            obtain ⟨bb, _, hv⟩ := hy
            simp only [Option.some.injEq, Prod.mk.injEq] at hrd
            obtain ⟨_, rfl⟩ := hrd
            exact gives_same (v := .bool false) (by simp [execOp, hv, hz, eqGuard, binOp, equal_ptrN _ he]) (by simp [RepS, Rep])
          · rename_i heq2
            rw [heq2] at hy
            simp only [RepS] at hy
            obtain ⟨bb, _, _, _, hv⟩ := hy
            simp only [Option.some.injEq, Prod.mk.injEq] at hrd
            obtain ⟨_, rfl⟩ := hrd
            exact gives_same (v := .bool false) (by simp [execOp, hv, hz, eqGuard, binOp, equal_ptrN _ he]) (by simp [RepS, Rep])
          · rename_i heq2
            rw [heq2] at hy
            simp only [RepS, Rep] at hy
            simp only [Option.some.injEq, Prod.mk.injEq] at hrd
            obtain ⟨_, rfl⟩ := hrd
            exact gives_same (v := .bool true) (by simp [execOp, hy, hz, eqGuard, binOp, equal_ptrN _ he]) (by simp [RepS, Rep])
          · cases hrd
        · cases hrd
      · cases hrd
    · cases hm
  | not y =>
    simp only [matchR] at hm
    split at hm
    · have hy := matchX_rep hr hm
      simp only [rd] at hrd
      split at hrd
      · rename_i heq
        rw [heq] at hy
        simp only [RepS, Rep] at hy
        simp only [Option.some.injEq, Prod.mk.injEq] at hrd
        obtain ⟨_, rfl⟩ := hrd
        exact gives_not hy
      · cases hrd
    · cases hm
  | neg y =>
    simp only [matchR] at hm
    split at hm
    · have hy := matchX_rep hr hm
      simp only [rd] at hrd
      split at hrd
      · rename_i heq
        rw [heq] at hy
        simp only [RepS, Rep] at hy
        simp only [Option.some.injEq, Prod.mk.injEq] at hrd
        obtain ⟨_, rfl⟩ := hrd
        exact gives_neg hy
      · cases hrd
    · cases hm
  | cvi k y =>
    simp only [matchR] at hm
    split at hm
    · simp only [Bool.and_eq_true] at hm
      obtain ⟨⟨h1, h2⟩, h3⟩ := hm
      have hy := matchX_rep hr h1
      split at h3
      · rename_i ht
        simp only [beq_iff_eq] at h3
        subst h3
        simp only [rd] at hrd
        split at hrd
        · rename_i heq
          rw [heq] at hy
          simp only [RepS, Rep] at hy
          simp only [Option.some.injEq, Prod.mk.injEq] at hrd
          obtain ⟨_, rfl⟩ := hrd
          exact gives_cvi h2 ht hy
        · cases hrd
      · cases h3
    · cases hm
  | ext y i =>
    simp only [matchR] at hm
    split at hm
    · simp only [Bool.and_eq_true, beq_iff_eq] at hm
      obtain ⟨h1, rfl⟩ := hm
      have hy := matchX_rep hr h1
      simp only [rd] at hrd
      split at hrd
      · rename_i cs heq
        rw [heq] at hy
        simp only [RepS, Rep] at hy
        obtain ⟨vs, hv, hl⟩ := hy
        split at hrd
        · rename_i c hc
          simp only [Option.some.injEq, Prod.mk.injEq] at hrd
          obtain ⟨_, rfl⟩ := hrd
          obtain ⟨v, hv1, hv2⟩ := hl.get hc
          exact gives_ext hv hv1 (by simpa only [RepS] using hv2)
        · cases hrd
      · rename_i cs heq
        rw [heq] at hy
        simp only [RepS] at hy
        obtain ⟨vs, hv, hl⟩ := hy
        split at hrd
        · rename_i c hc
          simp only [Option.some.injEq, Prod.mk.injEq] at hrd
          obtain ⟨_, rfl⟩ := hrd
          obtain ⟨v, hv1, hv2⟩ := hl.get hc
          exact gives_ext hv hv1 hv2
        · cases hrd
      · cases hrd
    · cases hm
  | len y =>
    simp only [matchR] at hm
    split at hm
    · split at hm
      · rename_i x' t' hx' ht'
        simp only [Bool.and_eq_true] at hm
        obtain ⟨h1, h2⟩ := hm
        have hy := matchX_rep hr h1
        split at h2
        · rename_i e he
          simp only [rd] at hrd
          split at hrd
          · rename_i rows heq
            rw [heq] at hy
            simp only [RepS, Rep] at hy
            obtain ⟨ad, cap, hv, _⟩ := hy
            simp only [Option.some.injEq, Prod.mk.injEq] at hrd
            obtain ⟨_, rfl⟩ := hrd
            exact gives_len_slice hx' ht' he hv
          · rename_i heq
            rw [heq] at hy
            simp only [RepS] at hy
            simp only [Option.some.injEq, Prod.mk.injEq] at hrd
            obtain ⟨_, rfl⟩ := hrd
            exact gives_len_slice hx' ht' he hy
          · rename_i n' heq
            rw [heq] at hy
            simp only [RepS] at hy
            obtain ⟨b, vs, hv, _⟩ := hy
            simp only [Option.some.injEq, Prod.mk.injEq] at hrd
            obtain ⟨_, rfl⟩ := hrd
            exact gives_len_slice hx' ht' he hv
          · rename_i id heq
            rw [heq] at hy
            simp only [RepS] at hy
            split at hrd
            · rename_i e' sz' rows hbox
              simp only [Option.some.injEq, Prod.mk.injEq] at hrd
              obtain ⟨_, rfl⟩ := hrd
              rcases vec_len hr hbox with ⟨hk0, rfl⟩ | ⟨b, cap, hkb⟩
              · exact gives_len_slice hx' ht' he (hy.trans hk0)
              · exact gives_len_slice hx' ht' he (hy.trans hkb)
            · cases hrd
          · cases hrd
        · cases h2
      · cases hm
    · cases hm
  | lenT y =>
    simp only [matchR] at hm
    split at hm
    · split at hm
      · rename_i x' t' hx' ht'
        simp only [Bool.and_eq_true] at hm
        obtain ⟨h1, h2⟩ := hm
        have hy := matchX_rep hr h1
        split at h2
        · rename_i he
          simp only [rd] at hrd
          split at hrd
          · rename_i l heq
            rw [heq] at hy
            simp only [RepS, Rep] at hy
            simp only [Option.some.injEq, Prod.mk.injEq] at hrd
            obtain ⟨_, rfl⟩ := hrd
            exact gives_len_str hx' ht' he hy
          · cases hrd
        · cases h2
      · cases hm
    · cases hm
  | lenM y =>
    simp only [matchR] at hm
    split at hm
    · split at hm
      · rename_i x' t' hx' ht'
        simp only [Bool.and_eq_true] at hm
        obtain ⟨h1, h2⟩ := hm
        have hy := matchX_rep hr h1
        split at h2
        · rename_i he
          simp only [rd] at hrd
          split at hrd
          · rename_i id heq
            rw [heq] at hy
            simp only [RepS] at hy
            split at hrd
            · rename_i kv hbox
              simp only [Option.some.injEq, Prod.mk.injEq] at hrd
              obtain ⟨_, rfl⟩ := hrd
              have hch := hr.chunks id
              rw [hbox] at hch
              obtain ⟨r, es, clock, G, hk, hh, _, hmap, _⟩ := hch
              rw [← hmap.length]
              exact gives_len_map hx' ht' he (hy.trans hk) hh
            · cases hrd
          · cases hrd
        · cases h2
      · cases hm
    · cases hm
  | mins y ys =>
    simp only [matchR] at hm
    split at hm
    · rename_i args ts
      have hxs := matchXs_rep hr hm
      simp only [rd] at hrd
      split at hrd
      · rename_i m l heq heqs
        cases hargs : args.toList with
        | nil => rw [hargs] at hm; simp [matchXs] at hm
        | cons x' xs' =>
          rw [hargs] at hxs
          simp only [List.map_cons, RepSL, List.cons.injEq] at hxs
          obtain ⟨u, us, ⟨rfl, rfl⟩, hx1, hx2⟩ := hxs
          rw [heq] at hx1
          simp only [RepS, Rep] at hx1
          split at hrd
          · rename_i r hmin
            simp only [Option.some.injEq, Prod.mk.injEq] at hrd
            obtain ⟨_, rfl⟩ := hrd
            exact gives_mins hargs hx1 (RepSL.toDVs _ _ _ hx2 heqs) hmin
          · cases hrd
      · cases hrd
    · cases hm
  | maxs y ys =>
    simp only [matchR] at hm
    split at hm
    · rename_i args ts
      have hxs := matchXs_rep hr hm
      simp only [rd] at hrd
      split at hrd
      · rename_i m l heq heqs
        cases hargs : args.toList with
        | nil => rw [hargs] at hm; simp [matchXs] at hm
        | cons x' xs' =>
          rw [hargs] at hxs
          simp only [List.map_cons, RepSL, List.cons.injEq] at hxs
          obtain ⟨u, us, ⟨rfl, rfl⟩, hx1, hx2⟩ := hxs
          rw [heq] at hx1
          simp only [RepS, Rep] at hx1
          split at hrd
          · rename_i r hmin
            simp only [Option.some.injEq, Prod.mk.injEq] at hrd
            obtain ⟨_, rfl⟩ := hrd
            exact gives_maxs hargs hx1 (RepSL.toDVs _ _ _ hx2 heqs) hmin
          · cases hrd
      · cases hrd
    · cases hm
  | mkfn f ys =>
    simp only [matchR] at hm
    split at hm
    · simp only [Bool.and_eq_true, beq_iff_eq] at hm
      obtain ⟨⟨rfl, h2⟩, h3⟩ := hm
      have hxs := matchXs_rep hr h3
      simp only [rd] at hrd
      split at hrd
      · rename_i l heqs
        simp only [Option.some.injEq, Prod.mk.injEq] at hrd
        obtain ⟨_, rfl⟩ := hrd
        exact gives_mkfn h2 (RepSL.toDVs _ _ _ hxs heqs)
      · cases hrd
    · cases hm
  | build zs ps =>
    simp only [matchR] at hm
    split at hm
    · split at hm
      · rename_i fs i hu hi
        simp only [Bool.and_eq_true] at hm
        obtain ⟨⟨h1, h2⟩, h3⟩ := hm
        split at h1
        · rename_i z hz
          simp only [rd] at hrd
          split at hrd
          · rename_i cs hfill
            simp only [Option.some.injEq, Prod.mk.injEq] at hrd
            obtain ⟨_, rfl⟩ := hrd
            exact gives_build hr.kok hu hi hz h1 h2 (parts_match hr h3) hfill
          · cases hrd
        · cases h1
      · rename_i len e i hu hi
        split at hm
        · rename_i ie hie
          simp only [Bool.and_eq_true] at hm
          obtain ⟨h1, h3⟩ := hm
          split at h1
          · rename_i z hz
            simp only [rd] at hrd
            split at hrd
            · rename_i cs hfill
              simp only [Option.some.injEq, Prod.mk.injEq] at hrd
              obtain ⟨_, rfl⟩ := hrd
              exact gives_buildA hr.kok hu hi hie hz h1 (partsA_match hr h3) hfill
            · cases hrd
          · cases h1
        · cases hm
      · cases hm
    · cases hm
  | bslice sz xs =>
    simp only [matchR] at hm
    split at hm
    · simp only [Bool.and_eq_true, beq_iff_eq] at hm
      obtain ⟨⟨h1, h2⟩, h3⟩ := hm
      obtain ⟨hrep, hidx⟩ := rows_match hr h2
      split at h3
      · rename_i e he
        split at h3
        · rename_i i hi
          simp only [Bool.and_eq_true, beq_iff_eq, decide_eq_true_eq] at h3
          obtain ⟨⟨⟨h4, h5⟩, h6⟩, h7⟩ := h3
          split at h7
          · rename_i z hz
            simp only [beq_iff_eq] at h7
            simp only [rd] at hrd
            split at hrd
            · rename_i rows hrows
              simp only [Option.some.injEq, Prod.mk.injEq] at hrd
              obtain ⟨_, rfl⟩ := hrd
              have := gives_bslice (dst := dst) (ty := ty) (pos := pos) (aft := aft) (gd := gd) hr.kok (fun b hb => hr.own_lt hb) he hi h4 h5 h6 hz h7 h1 hrep (fun j q hj => by simpa using hidx j q hj) hrows
              simpa using this
            · cases hrd
          · cases h7
        · cases h3
      · cases h3
    · cases hm
  | slc sz y l h =>
    simp only [matchR] at hm
    split at hm
    · rename_i t x' lo hi
      simp only [Bool.and_eq_true] at hm
      obtain ⟨⟨⟨h1, h2⟩, h3⟩, h4⟩ := hm
      have hy := matchX_rep hr h1
      split at h4
      · rename_i e he
        simp only [Bool.and_eq_true, beq_iff_eq, decide_eq_true_eq] at h4
        obtain ⟨⟨h5, rfl⟩, h7⟩ := h4
        have hox : ∀ (lo : Option Operand) (l : Option SX), matchOX c.N lo l = true → ∀ x y, lo = some x → l = some y → RepS w (own c φ) κ (ev σ.s y) (a.eval x) := fun lo l hml x y e1 e2 => by
          subst e1 e2; simp only [matchOX] at hml; exact matchX_rep hr hml
        simp only [rd] at hrd
        split at hrd
        · rename_i rows l' h' heq hl hh
          simp only [Option.some.injEq, Prod.mk.injEq] at hrd
          obtain ⟨rfl, rfl⟩ := hrd
          rw [heq] at hy
          exact gives_slc he h5 rfl h7 hy.d (evN_rep (hox lo l h2) h2 hl) (evN_rep (hox hi h h3) h3 hh) hp.1 hp.2.1 hp.2.2.1 hp.2.2.2
        · rename_i sz2 k cs l' h' heq hl hh
          split at hrd
          · rename_i ds hds
            simp only [Option.some.injEq, Prod.mk.injEq] at hrd
            obtain ⟨rfl, rfl⟩ := hrd
            rw [heq] at hy
            obtain ⟨rfl, hp⟩ := hp
            have hy' := RepS.toDV _ _ (.slice (chunkR (P.cellsOf e) k ds)) hy (by simp only [SV.toDV, hds])
            have hlen := chunkR_length (P.cellsOf e) k ds
            have hall : ∀ r ∈ chunkR (P.cellsOf e) k ds, r.length = P.cellsOf e := by
              simp only [RepS] at hy
              obtain ⟨b, vs, _, _, _, hvl, _, _, hsl⟩ := hy
              exact chunkR_all _ k ds (by rw [← (RepSL.toDVs _ _ _ hsl hds).length, hvl])
            have := gives_slc (dst := dst) (ty := ty) (pos := pos) (aft := aft) (gd := gd) (κ := κ) he h5 rfl h7 hy' (evN_rep (hox lo l h2) h2 hl) (evN_rep (hox hi h h3) h3 hh) hall hp.1 (by rw [hlen]; exact hp.2.1) (by rw [hlen]; exact hp.2.2)
            rw [hlen] at this
            exact this
          · cases hrd
        · rename_i l' h' heq hl hh
          simp only [Option.some.injEq, Prod.mk.injEq] at hrd
          obtain ⟨rfl, rfl⟩ := hrd
          rw [heq] at hy
          simp only [RepS] at hy
          exact gives_slc_nil he h5 hy (evN_rep (hox lo l h2) h2 hl) (evN_rep (hox hi h h3) h3 hh) hp.1 hp.2
        · cases hrd
      · cases h4
    · cases hm
  | sslc y l h =>
    simp only [matchR] at hm
    split at hm
    · rename_i t x' lo hi
      simp only [Bool.and_eq_true] at hm
      obtain ⟨⟨⟨h1, h2⟩, h3⟩, h4⟩ := hm
      have hy := matchX_rep hr h1
      split at h4
      · rename_i he
        have hox : ∀ (lo : Option Operand) (l : Option SX), matchOX c.N lo l = true → ∀ x y, lo = some x → l = some y → RepS w (own c φ) κ (ev σ.s y) (a.eval x) := fun lo l hml x y e1 e2 => by
          subst e1 e2; simp only [matchOX] at hml; exact matchX_rep hr hml
        simp only [rd] at hrd
        split at hrd
        · rename_i b l' h' heq hl hh
          simp only [Option.some.injEq, Prod.mk.injEq] at hrd
          obtain ⟨rfl, rfl⟩ := hrd
          rw [heq] at hy
          simp only [RepS, Rep] at hy
          exact gives_sslc he hy (evN_rep (hox lo l h2) h2 hl) (evN_rep (hox hi h h3) h3 hh) hp.1 hp.2.1 hp.2.2
        · cases hrd
      · cases h4
    · cases hm
  | nilc y =>
    simp only [matchR] at hm
    split at hm
    · have hy := matchX_rep hr hm
      simp only [rd] at hrd
      split at hrd
      · rename_i heq
        rw [heq] at hy
        simp only [Option.some.injEq, Prod.mk.injEq] at hrd
        obtain ⟨_, rfl⟩ := hrd
        have hy' := hy
        simp only [RepS] at hy'
        obtain ⟨b, _, hv⟩ := hy'
        exact gives_same (by simp [execOp, hv]) (hv ▸ hy)
      · rename_i heq
        rw [heq] at hy
        simp only [Option.some.injEq, Prod.mk.injEq] at hrd
        obtain ⟨_, rfl⟩ := hrd
        have hy' := hy
        simp only [RepS] at hy'
        obtain ⟨b, _, _, _, hv⟩ := hy'
        exact gives_same (by simp [execOp, hv]) (hv ▸ hy)
      · rename_i heq
        rw [heq] at hy
        simp only [Option.some.injEq, Prod.mk.injEq] at hrd
        obtain ⟨_, rfl⟩ := hrd
        have hy' := hy
        simp only [RepS, Rep] at hy'
        obtain ⟨b, o, hv, _⟩ := hy'
        exact gives_same (by simp [execOp, hv]) (hv ▸ hy)
      · cases hrd
    · cases hm
  | aidx sz n y j =>
    simp only [matchR] at hm
    split at hm
    · simp only [Bool.and_eq_true] at hm
      obtain ⟨⟨h1, h2⟩, h3⟩ := hm
      have hy := matchX_rep hr h1
      have hj := matchX_rep hr h2
      split at h3
      · rename_i len e he
        simp only [Bool.and_eq_true, beq_iff_eq] at h3
        obtain ⟨⟨rfl, h4⟩, rfl⟩ := h3
        simp only [rd] at hrd
        split at hrd
        · rename_i id off k i heq heqi
          rw [heq] at hy; rw [heqi] at hj
          simp only [RepS, Rep] at hy hj
          obtain ⟨b, hkb, hv⟩ := hy
          simp only [Option.some.injEq, Prod.mk.injEq] at hrd
          obtain ⟨rfl, rfl⟩ := hrd
          refine gives_same (v := .pointer (some ⟨b, off + i.toNat * P.cellsOf e, none⟩)) ?_ (by simp only [RepS]; exact ⟨b, hkb, rfl⟩)
          simp [execOp, Instr.indexAt, hj, hv, asIntOf, run_underlying he, Instr.sureAddr, hp, run_sizeOf' h4, addr_add]
        · cases hrd
      · cases h3
    · cases hm
  | slcP n y l =>
    simp only [matchR] at hm
    split at hm
    · simp only [Bool.and_eq_true] at hm
      obtain ⟨⟨h1, h2⟩, h3⟩ := hm
      have hy := matchX_rep hr h1
      have hj := matchX_rep hr h2
      split at h3
      · rename_i len e he
        simp only [Bool.and_eq_true, beq_iff_eq] at h3
        obtain ⟨⟨rfl, h4⟩, h5⟩ := h3
        simp only [rd] at hrd
        split at hrd
        · rename_i cs k i heq heqi
          rw [heq] at hy; rw [heqi] at hj
          simp only [RepS] at hy hj
          unfold Rep at hj
          simp only [Option.some.injEq, Prod.mk.injEq] at hrd
          obtain ⟨rfl, rfl⟩ := hrd
          exact gives_slcP he h4 h5 hy hj hp.1 hp.2.1 hp.2.2
        · cases hrd
      · cases h3
    · cases hm
  | slc3 sz y l h m =>
    simp only [matchR] at hm
    split at hm
    · rename_i t x' lo hi mx
      simp only [Bool.and_eq_true] at hm
      obtain ⟨⟨⟨⟨h1, h2⟩, h3⟩, h4⟩, h5⟩ := hm
      have hy := matchX_rep hr h1
      have hh := matchX_rep hr h3
      have hmm := matchX_rep hr h4
      split at h5
      · rename_i e he
        simp only [Bool.and_eq_true, beq_iff_eq, decide_eq_true_eq] at h5
        obtain ⟨⟨h6, rfl⟩, h7⟩ := h5
        have hox : ∀ x y, lo = some x → l = some y → RepS w (own c φ) κ (ev σ.s y) (a.eval x) := fun x y e1 e2 => by
          subst e1 e2; simp only [matchOX] at h2; exact matchX_rep hr h2
        simp only [rd] at hrd
        split at hrd
        · rename_i rows l' k h' k' m' heq hl heqh heqm
          rw [heq] at hy; rw [heqh] at hh; rw [heqm] at hmm
          simp only [RepS, Rep] at hh hmm
          simp only [Option.some.injEq, Prod.mk.injEq] at hrd
          obtain ⟨rfl, rfl⟩ := hrd
          exact gives_slc3 he h6 rfl hy.d (evN_rep hox h2 hl) hh hmm hp.1 hp.2.1 hp.2.2.1 hp.2.2.2.1 hp.2.2.2.2
        · cases hrd
      · cases h5
    · cases hm
  | cvis y =>
    simp only [matchR] at hm
    split at hm
    · simp only [Bool.and_eq_true] at hm
      obtain ⟨⟨h1, h2⟩, h3⟩ := hm
      have hy := matchX_rep hr h1
      split at h2
      · rename_i k hs
        split at h3
        · rename_i ht
          simp only [rd] at hrd
          split at hrd
          · rename_i heq
            rw [heq] at hy
            simp only [RepS, Rep] at hy
            simp only [Option.some.injEq, Prod.mk.injEq] at hrd
            obtain ⟨_, rfl⟩ := hrd
            exact gives_cvis hs ht hy
          · cases hrd
        · cases h3
      · cases h2
    · cases hm
  | cl t ts => simp [matchR] at hm
  | cvsb y =>
    simp only [matchR] at hm
    split at hm
    · simp only [Bool.and_eq_true] at hm
      obtain ⟨⟨h1, h2⟩, h3⟩ := hm
      have hy := matchX_rep hr h1
      split at h2
      · rename_i e ht
        split at h2
        · rename_i he
          split at h3
          · rename_i hs
            simp only [rd] at hrd
            split at hrd
            · rename_i heq
              rw [heq] at hy
              simp only [RepS, Rep] at hy
              simp only [Option.some.injEq, Prod.mk.injEq] at hrd
              obtain ⟨_, rfl⟩ := hrd
              exact gives_cvsb (fun b hb => hr.own_lt hb) hs ht he hy
            · cases hrd
          · cases h3
        · cases h2
      · cases h2
    · cases hm
  | cvbs y =>
    simp only [matchR] at hm
    split at hm
    · simp only [Bool.and_eq_true] at hm
      obtain ⟨⟨h1, h2⟩, h3⟩ := hm
      have hy := matchX_rep hr h1
      split at h2
      · rename_i e hs
        split at h2
        · rename_i he
          split at h3
          · rename_i ht
            simp only [rd] at hrd
            split at hrd
            · rename_i rows heq
              rw [heq] at hy
              split at hrd
              · rename_i l hl
                simp only [Option.some.injEq, Prod.mk.injEq] at hrd
                obtain ⟨_, rfl⟩ := hrd
                simp only [RepS, Rep] at hy
                obtain ⟨ad, cap, hv, _, _, hc⟩ := hy
                refine gives_cvbs hs he ht ⟨ad, cap, by rw [hv, bytesD_len hl], ?_⟩
                rcases hc with rfl | ⟨b, o, sz, rfl, _, _, hrows⟩
                · simp only [bytesD, Option.some.injEq] at hl; exact .inl hl.symm
                · exact .inr ⟨b, o, rfl, (bytesD_rows hl hrows).2⟩
              · cases hrd
            · rename_i heq
              rw [heq] at hy
              simp only [RepS] at hy
              simp only [Option.some.injEq, Prod.mk.injEq] at hrd
              obtain ⟨_, rfl⟩ := hrd
              exact gives_cvbs hs he ht ⟨none, 0, hy, .inl rfl⟩
            · rename_i sz n cs heq
              rw [heq] at hy
              split at hrd
              · rename_i l hl
                simp only [Option.some.injEq, Prod.mk.injEq] at hrd
                obtain ⟨rfl, rfl⟩ := hrd
                simp only [RepS] at hy
                obtain ⟨b, vs, hv, _, _, hlen, _, hcell, hrep⟩ := hy
                obtain ⟨k1, k2, k3⟩ := bytesC_rep hl hrep
                have hp1 : sz = 1 := hp
                subst hp1
                refine gives_cvbs hs he ht ⟨some ⟨b, 0, none⟩, n, by rw [hv, ← k2, hlen, Nat.mul_one], .inr ⟨b, 0, rfl, fun j c hj => ?_⟩⟩
                rw [Nat.zero_add]; exact hcell j _ (k3 j c hj)
              · cases hrd
            · rename_i id heq
              rw [heq] at hy
              simp only [RepS] at hy
              split at hrd
              · rename_i e' sz rows hbox
                split at hrd
                · rename_i l hl
                  simp only [Option.some.injEq, Prod.mk.injEq] at hrd
                  obtain ⟨rfl, rfl⟩ := hrd
                  have hp1 : sz = 1 := hp
                  subst hp1
                  have hch := hr.chunks id
                  rw [hbox] at hch
                  obtain ⟨xs, G, g1, g2, g3, g4, _⟩ := hch
                  have hflat : rows.flatten.length = rows.length := by
                    have := flatten_len g3; simpa using this
                  have hrep := bytesC_rep hl (RepGL.to_S _ _ _ (bytesC_noOwn hl) g4).1
                  obtain ⟨k1, k2, k3⟩ := hrep
                  rcases vec_len hr hbox with ⟨hk0, rfl⟩ | ⟨b, cap, hkb⟩
                  · simp only [List.flatten_nil, bytesC, Option.some.injEq] at hl
                    subst hl
                    exact gives_cvbs hs he ht ⟨none, 0, hy.trans hk0, .inl rfl⟩
                  · refine gives_cvbs hs he ht ⟨some ⟨b, 0, none⟩, cap, by rw [hy, hkb, ← hflat, k1], .inr ⟨b, 0, rfl, fun j c hj => ?_⟩⟩
                    have hcell := g1.cells (g := b) (by rw [hkb]; rfl) j _ (k3 j c hj)
                    rw [addr_add] at hcell
                    exact hcell
                · cases hrd
              · cases hrd
            · cases hrd
          · cases h3
        · cases h2
      · cases h2
    · cases hm
  | look kk z ok m k =>
    simp only [matchR] at hm
    split at hm
    · simp only [Bool.and_eq_true, beq_iff_eq] at hm
      obtain ⟨⟨⟨h1, h2⟩, rfl⟩, h3⟩ := hm
      have hx := matchX_rep hr h1
      have hi := matchX_rep hr h2
      split at h3
      · rename_i kt e ht
        simp only [Bool.and_eq_true, beq_iff_eq] at h3
        simp only [rd] at hrd
        split at hrd
        · rename_i id d heq heqi
          rw [heq] at hx
          rw [heqi] at hi
          simp only [RepS] at hx
          split at hrd
          · rename_i kk' kv hbox
            simp only [Option.some.injEq, Prod.mk.injEq] at hrd
            obtain ⟨rfl, rfl⟩ := hrd
            obtain ⟨rfl, hf, hno⟩ := hp
            have hch := hr.chunks id
            rw [hbox] at hch
            obtain ⟨r, es, clock, G, hk, hh, _, hmap, _⟩ := hch
            exact gives_look ht h3.1 h3.2 (hx.trans hk) hh hmap hf hno hi.d
          · cases hrd
        · cases hrd
      · cases h3
    · cases hm
  | eqs b kks y z =>
    simp only [matchR] at hm
    split at hm
    · simp only [Bool.and_eq_true, beq_iff_eq, Bool.not_eq_true'] at hm
      obtain ⟨⟨⟨⟨⟨rfl, h1⟩, h2⟩, h3⟩, h4⟩, h5⟩ := hm
      split at h3
      · rename_i fs ht
        simp only [rd] at hrd
        split at hrd
        · rename_i cs ds hy hz
          have hx := RepS.toDV _ _ _ (matchX_rep hr h1) hy
          have hx' := RepS.toDV _ _ _ (matchX_rep hr h2) hz
          split at hrd
          · rename_i q hq
            split at hrd
            · simp only [Option.some.injEq, Prod.mk.injEq] at hrd
              obtain ⟨_, rfl⟩ := hrd
              exact gives_eqs ht h4 h5 h3 hx hx' hq (.inl rfl)
            · simp only [Option.some.injEq, Prod.mk.injEq] at hrd
              obtain ⟨_, rfl⟩ := hrd
              exact gives_eqs ht h4 h5 h3 hx hx' hq (.inr rfl)
            · cases hrd
          · cases hrd
        · cases hrd
      · cases h3
    · cases hm
end
end Go.Proofs.YtcnohbiegjahkaaGreatDoor

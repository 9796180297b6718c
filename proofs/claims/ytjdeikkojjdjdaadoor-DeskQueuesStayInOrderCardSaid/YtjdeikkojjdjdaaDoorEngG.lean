/-
  The engine, part G: an operation that reads and computes, whichever it is.
-/
import Derived.Test.YtjdeikkojjdjdaaDoorEngF
namespace Go.Proofs.YtjdeikkojjdjdaaDoor
set_option linter.unusedSimpArgs false
set_option linter.unusedVariables false
open Go.RowKit

section
variable {P : Program} {B : Nat} {w0 : World} {M0 : Nat → Prop} {N : Nat} {σ : St} {κ : Nat → Value} {a : Act} {w : World}

theorem RepS.d {M : Nat → Prop} {x : DV} {v : Value} (h : RepS w M κ (.d x) v) : Rep w M x v := by simpa only [RepS] using h

/-- A cell of a box. -/
theorem box_cells (hr : Ref B w0 M0 N σ κ a w) {id : Nat} {cs : List SV} (hb : σ.h id = .box cs) : ∃ b vs, κ id = .pointer (some ⟨b, 0, none⟩) ∧ RepSL w (own M0 σ.h κ) κ cs vs ∧ (∀ x ∈ vs, x.oneCell' = true) ∧ ∀ j : Nat, w.cell? ⟨b, j, none⟩ = vs[j]? := by
  have h := hr.chunks id
  rw [hb] at h
  obtain ⟨b, T, vs, h1, h2, h3, h4, h5⟩ := h
  exact ⟨b, vs, h1, h5, h4, fun j => by rw [cell_of_row w b j _ T _ h3]; simp⟩

/-- A row of a slice that is being made. -/
theorem vec_cells (hr : Ref B w0 M0 N σ κ a w) {id e sz : Nat} {rows : List (List DV)} (hb : σ.h id = .vec e sz rows) {i : Nat} {r : List DV} (hi : rows[i]? = some r) {b len cap : Nat} (hk : κ id = .slice (some ⟨b, 0, none⟩) len cap) :
    r.length = sz ∧ RepAt w (own M0 σ.h κ) r b (i * sz) := by
  have h := hr.chunks id
  rw [hb] at h
  obtain ⟨xs, h1, h2, h3, h4⟩ := h
  have hrl := h3 r (List.mem_of_getElem? hi)
  refine ⟨hrl, ?_⟩
  rw [RepAt.iff]
  intro j c hc
  have hj : j < r.length := (List.getElem?_eq_some_iff.1 hc).1
  have hfl : rows.flatten[i * sz + j]? = some c := by
    clear h1 h4 hb
    induction rows generalizing i with
    | nil => simp at hi
    | cons q rows ih =>
      have hq := h3 q (by simp)
      cases i with
      | zero =>
        simp at hi; subst hi
        rw [List.flatten_cons, Nat.zero_mul, Nat.zero_add, List.getElem?_append_left hj]; exact hc
      | succ i =>
        have := ih (i := i) (by simpa using hi) (fun r hr => h3 r (List.mem_cons_of_mem _ hr))
        rw [List.flatten_cons, List.getElem?_append_right (by rw [Nat.add_mul]; omega)]
        rw [show (i + 1) * sz + j - q.length = i * sz + j by rw [Nat.add_mul]; omega]
        exact this
  obtain ⟨v, hv, hrep⟩ := h4.get hfl
  have hcell := h1.cells (g := b) (by rw [hk]; rfl) (i * sz + j) v hv
  rw [addr_add] at hcell
  exact ⟨v, by simpa using hcell, h2 v (List.mem_of_getElem? hv), hrep⟩

theorem vec_len (hr : Ref B w0 M0 N σ κ a w) {id e sz : Nat} {rows : List (List DV)} (hb : σ.h id = .vec e sz rows) : (κ id = .slice none 0 0 ∧ rows = []) ∨ ∃ b cap, κ id = .slice (some ⟨b, 0, none⟩) rows.length cap := by
  have h := hr.chunks id
  rw [hb] at h
  obtain ⟨xs, h1, h2, h3, h4⟩ := h
  rcases h1.2 with ⟨hv, hn⟩ | ⟨g, cap, cur, hv, _⟩
  · exact .inl ⟨hv, List.length_eq_zero_iff.1 hn⟩
  · exact .inr ⟨g, cap, hv⟩

theorem RepMap.length {M : Nat → Prop} {kk : KK} : ∀ {kv : List (DV × DV)} {es : List MapEntry}, RepMap w M kk kv es → es.length = kv.length
  | [], es, h => by unfold RepMap at h; simp [h]
  | (k, c) :: kv, es, h => by
    unfold RepMap at h
    obtain ⟨e, rest, rfl, _, _, _, h5⟩ := h
    simp [RepMap.length h5]

theorem parts_match (hr : Ref B w0 M0 N σ κ a w) {fs : Array Field} : ∀ {ps : List (Nat × Operand)} {qs : List (Nat × Nat × SX)}, matchParts P N fs ps qs = true →
    All2 (fun (p : Nat × Nat × SV) (q : Nat × Operand) => (∃ f, fs[q.1]? = some f ∧ f.offset = p.1 ∧ P.cellsOf f.type = p.2.1) ∧ RepS w (own M0 σ.h κ) κ p.2.2 (a.eval q.2)) (qs.map fun p => (p.1, p.2.1, ev σ.s p.2.2)) ps
  | [], [], _ => .nil
  | (i, x) :: ps, (off, n, y) :: qs, h => by
    simp only [matchParts, Bool.and_eq_true] at h
    obtain ⟨⟨h1, h2⟩, h3⟩ := h
    refine .cons ⟨?_, matchX_rep hr h2⟩ (parts_match hr h3)
    split at h1
    · rename_i f hf
      simp at h1
      exact ⟨f, hf, h1.1.1, h1.2⟩
    · cases h1
  | [], _ :: _, h => by simp [matchParts] at h
  | _ :: _, [], h => by simp [matchParts] at h

theorem rows_match (hr : Ref B w0 M0 N σ κ a w) : ∀ {k : Nat} {ps : List (Nat × Operand)} {qs : List SX}, matchRows N k ps qs = true →
    RepSL w (own M0 σ.h κ) κ (qs.map (ev σ.s)) (ps.map fun q => a.eval q.2) ∧ ∀ (j : Nat) q, ps[j]? = some q → q.1 = k + j
  | _, [], [], _ => by simp [RepSL]
  | k, (i, x) :: ps, y :: qs, h => by
    simp only [matchRows, Bool.and_eq_true, beq_iff_eq] at h
    obtain ⟨⟨h1, h2⟩, h3⟩ := h
    obtain ⟨h4, h5⟩ := rows_match hr h3
    refine ⟨by simp only [List.map_cons, RepSL]; exact ⟨_, _, rfl, matchX_rep hr h2, h4⟩, fun j q hj => ?_⟩
    cases j with
    | zero => simp at hj; subst hj; simp [h1]
    | succ j => have := h5 j q (by simpa using hj); omega
  | _, [], _ :: _, h => by simp [matchRows] at h
  | _, _ :: _, [], h => by simp [matchRows] at h

theorem boolOk_spec {t : TypeId} (h : boolOk P t = true) : P.underlying t = some .bool := by
  unfold boolOk at h; split at h
  · assumption
  · cases h
theorem ifaceOk_spec {t : TypeId} (h : ifaceOk P t = true) : ∃ ms, P.underlying t = some (.interface ms) := by
  unfold ifaceOk at h; split at h
  · exact ⟨_, by assumption⟩
  · cases h

theorem zeroX_spec {t : TypeId} {y : SX} (h : zeroX P t y = true) : ∃ v i z, y = .c v ∧ P.info? t = some i ∧ i.zero = some z ∧ constOk z v = true := by
  cases y with
  | c v =>
    simp only [zeroX] at h
    split at h
    · rename_i i hi
      split at h
      · rename_i z hz; exact ⟨v, i, z, rfl, hi, hz, h⟩
      · cases h
    · cases h
  | _ => simp [zeroX] at h

theorem rd_sound (hr : Ref B w0 M0 N σ κ a w) {o : Oper} {op : ROp} (hm : matchR P N o.op op = true) {p : Prop} {x : SV} (hrd : rd σ.h σ.s op = some (p, x)) (hp : p) : Gives P a o w (own M0 σ.h κ) κ x := by
  obtain ⟨dst, oop, ty, pos, aft, gd⟩ := o
  simp only at hm
  cases op with
  | mv y =>
    simp only [rd, Option.some.injEq, Prod.mk.injEq] at hrd
    obtain ⟨_, rfl⟩ := hrd
    simp only [matchR] at hm
    split at hm
    · exact gives_mv (matchX_rep hr hm)
    · exact gives_assign (matchX_rep hr hm)
    · cases hm
  | pick c b d =>
    simp only [matchR] at hm
    split at hm
    · simp only [Bool.and_eq_true] at hm
      obtain ⟨⟨h1, h2⟩, h3⟩ := hm
      have hc := matchX_rep hr h1
      simp only [rd] at hrd
      split at hrd
      · rename_i heq
        rw [heq] at hc
        simp only [Option.some.injEq, Prod.mk.injEq] at hrd
        obtain ⟨_, rfl⟩ := hrd
        exact gives_pick hc (by simpa using matchX_rep hr h2)
      · rename_i heq
        rw [heq] at hc
        simp only [Option.some.injEq, Prod.mk.injEq] at hrd
        obtain ⟨_, rfl⟩ := hrd
        exact gives_pick hc (by simpa using matchX_rep hr h3)
      · cases hrd
    · cases hm
  | boxI y =>
    simp only [matchR] at hm
    split at hm
    · have hy := matchX_rep hr hm
      simp only [rd] at hrd
      split at hrd
      · rename_i cs heq
        simp only [Option.some.injEq, Prod.mk.injEq] at hrd
        obtain ⟨_, rfl⟩ := hrd
        unfold rowOf at heq
        cases hd : (ev σ.s y).toDV with
        | none => simp [hd] at heq
        | some dd =>
          simp only [hd] at heq
          obtain ⟨vs, h1, h2, h3⟩ := (RepS.toDV _ _ dd hy hd).cells heq
          exact gives_box (fun b hb => hr.own_lt hb) h1 h2 h3
      · cases hrd
    · obtain ⟨v, i, z, rfl, hi, hz, hconst⟩ := zeroX_spec hm
      have hy : RepS w (own M0 σ.h κ) κ v z := constOk_rep hconst
      simp only [rd, ev] at hrd
      split at hrd
      · rename_i cs heq
        simp only [Option.some.injEq, Prod.mk.injEq] at hrd
        obtain ⟨_, rfl⟩ := hrd
        unfold rowOf at heq
        cases hd : v.toDV with
        | none => simp [hd] at heq
        | some dd =>
          simp only [hd] at heq
          obtain ⟨vs, h1, h2, h3⟩ := (RepS.toDV _ _ dd hy hd).cells heq
          exact gives_alloc hi hz (fun b hb => hr.own_lt hb) h1 h2 h3
      · cases hrd
    · cases hm
  | ld1 y =>
    simp only [matchR] at hm
    split at hm
    · simp only [Bool.and_eq_true] at hm
      obtain ⟨h1, h2⟩ := hm
      have hy := matchX_rep hr h1
      split at h2
      · rename_i d hd
        simp only [Bool.not_eq_true'] at h2
        simp only [rd] at hrd
        split at hrd
        · rename_i c cs heq
          simp only [Option.some.injEq, Prod.mk.injEq] at hrd
          obtain ⟨_, rfl⟩ := hrd
          rw [heq] at hy
          simp only [RepS, Rep, RepAt] at hy
          obtain ⟨b, o, hv, hm', hlt, ⟨v, hv', _, hrep⟩, _⟩ := hy
          exact gives_ld1 hd h2 hv hv' (by simpa only [RepS] using hrep)
        · rename_i id off heq
          rw [heq] at hy
          simp only [RepS] at hy
          obtain ⟨b, hkb, hv⟩ := hy
          split at hrd
          · rename_i cs hbox
            split at hrd
            · rename_i c hc
              simp only [Option.some.injEq, Prod.mk.injEq] at hrd
              obtain ⟨_, rfl⟩ := hrd
              obtain ⟨b', vs, hk', hl, h1', hcell⟩ := box_cells hr hbox
              rw [hkb] at hk'; simp at hk'; subst hk'
              obtain ⟨v, hv1, hv2⟩ := hl.get hc
              exact gives_ld1 hd h2 hv (by rw [hcell]; exact hv1) hv2
            · cases hrd
          · cases hrd
        · rename_i id sz i off heq
          rw [heq] at hy
          simp only [RepS] at hy
          obtain ⟨b, len, cap, hkb, hv⟩ := hy
          split at hrd
          · rename_i e sz' rows hbox
            split at hrd
            · rename_i r hrow
              split at hrd
              · rename_i c hc
                simp only [Option.some.injEq, Prod.mk.injEq] at hrd
                obtain ⟨rfl, rfl⟩ := hrd
                subst hp
                obtain ⟨hlen, hat⟩ := vec_cells hr hbox hrow hkb
                rw [RepAt.iff] at hat
                obtain ⟨v, hv1, _, hv2⟩ := hat off c hc
                exact gives_ld1 hd h2 hv hv1 (by simpa only [RepS] using hv2)
              · cases hrd
            · cases hrd
          · cases hrd
        · cases hrd
      · cases h2
    · cases hm
  | ldA n y =>
    simp only [matchR] at hm
    split at hm
    · simp only [Bool.and_eq_true, beq_iff_eq] at hm
      obtain ⟨⟨⟨h1, h2⟩, h3⟩, h4⟩ := hm
      have hy := matchX_rep hr h1
      split at h2
      · rename_i d hd
        simp only [rd] at hrd
        split at hrd
        · rename_i cs heq
          simp only [Option.some.injEq, Prod.mk.injEq] at hrd
          obtain ⟨rfl, rfl⟩ := hrd
          rw [heq] at hy
          simp only [RepS, Rep] at hy
          obtain ⟨b, o, hv, hm', hlt, hat⟩ := hy
          obtain ⟨vs, hl, hone, hcell⟩ := hat.values
          have hlen := hl.length
          refine gives_ldA (vs := vs.take n) hd h2 h3 (by simp; omega) hv (fun j v hj => hcell j v ?_) ?_
          · rw [List.getElem?_take] at hj; split at hj
            · exact hj
            · cases hj
          · simp only [RepS, Rep]
            exact ⟨_, rfl, fun z hz => hone z (List.mem_of_mem_take hz), hl.take n⟩
        · rename_i id off heq
          rw [heq] at hy
          simp only [RepS] at hy
          obtain ⟨b, hkb, hv⟩ := hy
          split at hrd
          · rename_i cs hbox
            simp only [Option.some.injEq, Prod.mk.injEq] at hrd
            obtain ⟨rfl, rfl⟩ := hrd
            obtain ⟨b', vs, hk', hl, h1', hcell⟩ := box_cells hr hbox
            rw [hkb] at hk'; simp at hk'; subst hk'
            have hlen := hl.length
            refine gives_ldA (vs := (vs.drop off).take n) hd h2 h3 (by simp; omega) hv (fun j v hj => ?_) ?_
            · rw [List.getElem?_take] at hj; split at hj
              · rw [List.getElem?_drop] at hj; rw [hcell]; exact hj
              · cases hj
            · simp only [RepS]
              exact ⟨_, rfl, fun z hz => h1' z (List.mem_of_mem_drop (List.mem_of_mem_take hz)), (hl.drop off).take n⟩
          · cases hrd
        · rename_i id sz i off heq
          rw [heq] at hy
          simp only [RepS] at hy
          obtain ⟨b, len, cap, hkb, hv⟩ := hy
          split at hrd
          · rename_i e sz' rows hbox
            split at hrd
            · rename_i r hrow
              simp only [Option.some.injEq, Prod.mk.injEq] at hrd
              obtain ⟨rfl, rfl⟩ := hrd
              obtain ⟨rfl, hle⟩ := hp
              obtain ⟨hlen, hat⟩ := vec_cells hr hbox hrow hkb
              obtain ⟨vs, hl, hone, hcell⟩ := (hat.drop off).values
              have hlen := hl.length
              refine gives_ldA (vs := vs.take n) hd h2 h3 (by simp at hlen ⊢; omega) hv (fun j v hj => hcell j v ?_) ?_
              · rw [List.getElem?_take] at hj; split at hj
                · exact hj
                · cases hj
              · simp only [RepS, Rep]
                exact ⟨_, rfl, fun z hz => hone z (List.mem_of_mem_take hz), hl.take n⟩
            · cases hrd
          · cases hrd
        · cases hrd
      · cases h2
    · cases hm
  | fld off y =>
    simp only [matchR] at hm
    split at hm
    · simp only [Bool.and_eq_true] at hm
      obtain ⟨h1, h2⟩ := hm
      have hy := matchX_rep hr h1
      split at h2
      · rename_i fs hfs
        split at h2
        · rename_i f hf
          simp only [Bool.and_eq_true, beq_iff_eq, bne_iff_ne] at h2
          obtain ⟨⟨rfl, h3⟩, h4⟩ := h2
          simp only [rd] at hrd
          split at hrd
          · rename_i cs heq
            simp only [Option.some.injEq, Prod.mk.injEq] at hrd
            obtain ⟨_, rfl⟩ := hrd
            rw [heq] at hy
            simp only [RepS, Rep] at hy
            obtain ⟨b, o, hv, hm', hlt, hat⟩ := hy
            exact gives_fld hfs hf h3 h4 hv (by simp only [RepS, Rep]; exact ⟨b, _, rfl, hm', hlt, hat.drop _⟩)
          · rename_i id o heq
            simp only [Option.some.injEq, Prod.mk.injEq] at hrd
            obtain ⟨_, rfl⟩ := hrd
            rw [heq] at hy
            simp only [RepS] at hy
            obtain ⟨b, hkb, hv⟩ := hy
            exact gives_fld hfs hf h3 h4 hv (by simp only [RepS]; exact ⟨b, hkb, rfl⟩)
          · rename_i id sz i o heq
            simp only [Option.some.injEq, Prod.mk.injEq] at hrd
            obtain ⟨_, rfl⟩ := hrd
            rw [heq] at hy
            simp only [RepS] at hy
            obtain ⟨b, len, cap, hkb, hv⟩ := hy
            exact gives_fld hfs hf h3 h4 hv (by simp only [RepS]; exact ⟨b, len, cap, hkb, by rw [Nat.add_assoc]⟩)
          · cases hrd
        · cases h2
      · cases h2
    · cases hm
  | prt1 off y =>
    simp only [matchR] at hm
    split at hm
    · simp only [Bool.and_eq_true] at hm
      obtain ⟨h1, h2⟩ := hm
      have hy := matchX_rep hr h1
      split at h2
      · rename_i fs hfs
        split at h2
        · rename_i f hf
          simp only [Bool.and_eq_true, beq_iff_eq] at h2
          obtain ⟨rfl, h3⟩ := h2
          split at h3
          · rename_i d hd
            simp only [Bool.not_eq_true'] at h3
            simp only [rd] at hrd
            split at hrd
            · rename_i cs heq
              split at hrd
              · rename_i c hc
                simp only [Option.some.injEq, Prod.mk.injEq] at hrd
                obtain ⟨_, rfl⟩ := hrd
                rw [heq] at hy
                simp only [RepS, Rep] at hy
                obtain ⟨vs, hv, _, hl⟩ := hy
                obtain ⟨v, hv1, hv2⟩ := hl.get hc
                exact gives_prt1 hfs hf hd h3 hv hv1 (by simpa only [RepS] using hv2)
              · cases hrd
            · rename_i cs heq
              split at hrd
              · rename_i c hc
                simp only [Option.some.injEq, Prod.mk.injEq] at hrd
                obtain ⟨_, rfl⟩ := hrd
                rw [heq] at hy
                simp only [RepS] at hy
                obtain ⟨vs, hv, _, hl⟩ := hy
                obtain ⟨v, hv1, hv2⟩ := hl.get hc
                exact gives_prt1 hfs hf hd h3 hv hv1 hv2
              · cases hrd
            · cases hrd
          · cases h3
        · cases h2
      · cases h2
    · cases hm
  | prtA off n y =>
    simp only [matchR] at hm
    split at hm
    · simp only [Bool.and_eq_true] at hm
      obtain ⟨h1, h2⟩ := hm
      have hy := matchX_rep hr h1
      split at h2
      · rename_i fs hfs
        split at h2
        · rename_i f hf
          simp only [Bool.and_eq_true, beq_iff_eq] at h2
          obtain ⟨⟨⟨rfl, h3⟩, h4⟩, rfl⟩ := h2
          split at h3
          · rename_i d hd
            simp only [rd] at hrd
            split at hrd
            · rename_i cs heq
              simp only [Option.some.injEq, Prod.mk.injEq] at hrd
              obtain ⟨_, rfl⟩ := hrd
              rw [heq] at hy
              simp only [RepS, Rep] at hy
              obtain ⟨vs, hv, hone, hl⟩ := hy
              exact gives_prtA hfs hf hd h3 h4 hv (by simp only [RepS, Rep]; exact ⟨_, rfl, fun z hz => hone z (List.mem_of_mem_drop (List.mem_of_mem_take hz)), (hl.drop _).take _⟩)
            · rename_i cs heq
              simp only [Option.some.injEq, Prod.mk.injEq] at hrd
              obtain ⟨_, rfl⟩ := hrd
              rw [heq] at hy
              simp only [RepS] at hy
              obtain ⟨vs, hv, hone, hl⟩ := hy
              exact gives_prtA hfs hf hd h3 h4 hv (by simp only [RepS]; exact ⟨_, rfl, fun z hz => hone z (List.mem_of_mem_drop (List.mem_of_mem_take hz)), (hl.drop _).take _⟩)
            · cases hrd
          · cases h3
        · cases h2
      · cases h2
    · cases hm
  | idx sz y j =>
    simp only [matchR] at hm
    split at hm
    · simp only [Bool.and_eq_true] at hm
      obtain ⟨⟨h1, h2⟩, h3⟩ := hm
      have hy := matchX_rep hr h1
      have hj := matchX_rep hr h2
      split at h3
      · rename_i e he
        simp only [Bool.and_eq_true, beq_iff_eq] at h3
        obtain ⟨h4, rfl⟩ := h3
        simp only [rd] at hrd
        split at hrd
        · rename_i k n heqi
          rw [heqi] at hj
          simp only [RepS, Rep] at hj
          split at hrd
          · rename_i rows heq
            rw [heq] at hy
            simp only [RepS, Rep] at hy
            obtain ⟨ad, cap, hv, hc, hn, hcase⟩ := hy
            split at hrd
            · rename_i r hrow
              simp only [Option.some.injEq, Prod.mk.injEq] at hrd
              obtain ⟨rfl, rfl⟩ := hrd
              obtain ⟨h0, hlen⟩ := hp
              have hlt : n.toNat < rows.length := (List.getElem?_eq_some_iff.1 hrow).1
              rcases hcase with hcase | ⟨b, o, sz', rfl, hm', hb, hrows⟩
              · subst hcase; simp at hrow
              · have hsz : sz' = P.cellsOf e := by
                  rw [RepRows.iff] at hrows
                  rw [← hlen]; exact (hrows.1 r (List.mem_of_getElem? hrow)).symm
                subst hsz
                refine gives_idx he h4 hv hj h0 (by omega) ?_
                simp only [RepS, Rep]
                refine ⟨b, _, rfl, hm', hb, ?_⟩
                have := hrows.drop n.toNat
                rw [List.drop_eq_getElem_cons hlt] at this
                unfold RepRows at this
                have e : rows[n.toNat] = r := (List.getElem?_eq_some_iff.1 hrow).2
                rw [e] at this
                exact this.2.1
            · cases hrd
          · rename_i id heq
            rw [heq] at hy
            simp only [RepS] at hy
            split at hrd
            · rename_i e' sz' rows hbox
              simp only [Option.some.injEq, Prod.mk.injEq] at hrd
              obtain ⟨rfl, rfl⟩ := hrd
              obtain ⟨h0, h5, rfl⟩ := hp
              rcases vec_len hr hbox with ⟨_, rfl⟩ | ⟨b, cap, hkb⟩
              · simp at h5; omega
              · refine gives_idx he h4 (hy.trans hkb) hj h0 h5 ?_
                simp only [RepS]
                exact ⟨b, _, cap, hkb, by simp⟩
            · cases hrd
          · cases hrd
        · cases hrd
      · cases h3
    · cases hm
  | sidx y j =>
    simp only [matchR] at hm
    split at hm
    · simp only [Bool.and_eq_true] at hm
      obtain ⟨⟨h1, h2⟩, h3⟩ := hm
      have hy := matchX_rep hr h1
      have hj := matchX_rep hr h2
      split at h3
      · rename_i he
        simp only [rd] at hrd
        split at hrd
        · rename_i l k n heq heqi
          rw [heqi] at hj
          rw [heq] at hy
          simp only [RepS, Rep] at hj hy
          split at hrd
          · rename_i c hc
            simp only [Option.some.injEq, Prod.mk.injEq] at hrd
            obtain ⟨rfl, rfl⟩ := hrd
            exact gives_sidx he hy hj hp hc
          · cases hrd
        · cases hrd
      · cases h3
    · cases hm
  | bin b y z =>
    simp only [matchR] at hm
    split at hm
    · simp only [Bool.and_eq_true, beq_iff_eq] at hm
      obtain ⟨⟨rfl, h1⟩, h2⟩ := hm
      have hy := matchX_rep hr h1
      have hz := matchX_rep hr h2
      simp only [rd] at hrd
      split at hrd
      · rename_i heq heq'
        rw [heq] at hy; rw [heq'] at hz
        split at hrd
        · rename_i hb
          simp only [Option.some.injEq, Prod.mk.injEq] at hrd
          obtain ⟨rfl, rfl⟩ := hrd
          exact gives_bin (by trivial) hy.d hz.d hb hp
        · cases hrd
      · rename_i heq heq'
        rw [heq] at hy; rw [heq'] at hz
        split at hrd
        · rename_i hb
          simp only [Option.some.injEq, Prod.mk.injEq] at hrd
          obtain ⟨rfl, rfl⟩ := hrd
          exact gives_bin (by trivial) hy.d hz.d hb hp
        · cases hrd
      · cases hrd
    · cases hm
  | binB b y z =>
    simp only [matchR] at hm
    split at hm
    · simp only [Bool.and_eq_true, beq_iff_eq] at hm
      obtain ⟨⟨⟨rfl, h1⟩, h2⟩, h3⟩ := hm
      have hy := matchX_rep hr h1
      have hz := matchX_rep hr h2
      have ht := boolOk_spec h3
      simp only [rd] at hrd
      split at hrd
      · rename_i heq heq'
        rw [heq] at hy; rw [heq'] at hz
        split at hrd
        · rename_i hb
          simp only [Option.some.injEq, Prod.mk.injEq] at hrd
          obtain ⟨rfl, rfl⟩ := hrd
          (refine gives_bin ?_ hy.d hz.d hb hp; exact ht)
        · cases hrd
      · cases hrd
    · cases hm
  | binI b y z =>
    simp only [matchR] at hm
    split at hm
    · simp only [Bool.and_eq_true, beq_iff_eq, Bool.or_eq_true] at hm
      obtain ⟨⟨⟨⟨rfl, h1⟩, h2⟩, h3⟩, h4⟩ := hm
      have hy := matchX_rep hr h1
      have hz := matchX_rep hr h2
      have ht := ifaceOk_spec h3
      simp only [rd] at hrd
      split at hrd
      · rename_i heq heq'
        rw [heq] at hy; rw [heq'] at hz
        split at hrd
        · rename_i hb
          simp only [Option.some.injEq, Prod.mk.injEq] at hrd
          obtain ⟨rfl, rfl⟩ := hrd
          (refine gives_bin ?_ hy.d hz.d hb hp; exact ⟨h4, ht⟩)
        · cases hrd
      · rename_i heq heq'
        rw [heq] at hy; rw [heq'] at hz
        split at hrd
        · rename_i hb
          simp only [Option.some.injEq, Prod.mk.injEq] at hrd
          obtain ⟨rfl, rfl⟩ := hrd
          (refine gives_bin ?_ hy.d hz.d hb hp; exact ⟨h4, ht⟩)
        · cases hrd
      · cases hrd
    · cases hm
  | not y =>
    simp only [matchR] at hm
    split at hm
    · have hy := matchX_rep hr hm
      simp only [rd] at hrd
      split at hrd
      · rename_i heq
        rw [heq] at hy
        simp only [RepS, Rep] at hy
        simp only [Option.some.injEq, Prod.mk.injEq] at hrd
        obtain ⟨_, rfl⟩ := hrd
        exact gives_not hy
      · cases hrd
    · cases hm
  | neg y =>
    simp only [matchR] at hm
    split at hm
    · have hy := matchX_rep hr hm
      simp only [rd] at hrd
      split at hrd
      · rename_i heq
        rw [heq] at hy
        simp only [RepS, Rep] at hy
        simp only [Option.some.injEq, Prod.mk.injEq] at hrd
        obtain ⟨_, rfl⟩ := hrd
        exact gives_neg hy
      · cases hrd
    · cases hm
  | cvi k y =>
    simp only [matchR] at hm
    split at hm
    · simp only [Bool.and_eq_true] at hm
      obtain ⟨⟨h1, h2⟩, h3⟩ := hm
      have hy := matchX_rep hr h1
      split at h3
      · rename_i ht
        simp only [beq_iff_eq] at h3
        subst h3
        simp only [rd] at hrd
        split at hrd
        · rename_i heq
          rw [heq] at hy
          simp only [RepS, Rep] at hy
          simp only [Option.some.injEq, Prod.mk.injEq] at hrd
          obtain ⟨_, rfl⟩ := hrd
          exact gives_cvi h2 ht hy
        · cases hrd
      · cases h3
    · cases hm
  | ext y i =>
    simp only [matchR] at hm
    split at hm
    · simp only [Bool.and_eq_true, beq_iff_eq] at hm
      obtain ⟨h1, rfl⟩ := hm
      have hy := matchX_rep hr h1
      simp only [rd] at hrd
      split at hrd
      · rename_i cs heq
        rw [heq] at hy
        simp only [RepS, Rep] at hy
        obtain ⟨vs, hv, hl⟩ := hy
        split at hrd
        · rename_i c hc
          simp only [Option.some.injEq, Prod.mk.injEq] at hrd
          obtain ⟨_, rfl⟩ := hrd
          obtain ⟨v, hv1, hv2⟩ := hl.get hc
          exact gives_ext hv hv1 (by simpa only [RepS] using hv2)
        · cases hrd
      · cases hrd
    · cases hm
  | len y =>
    simp only [matchR] at hm
    split at hm
    · split at hm
      · rename_i x' t' hx' ht'
        simp only [Bool.and_eq_true] at hm
        obtain ⟨h1, h2⟩ := hm
        have hy := matchX_rep hr h1
        split at h2
        · rename_i e he
          simp only [rd] at hrd
          split at hrd
          · rename_i rows heq
            rw [heq] at hy
            simp only [RepS, Rep] at hy
            obtain ⟨ad, cap, hv, _⟩ := hy
            simp only [Option.some.injEq, Prod.mk.injEq] at hrd
            obtain ⟨_, rfl⟩ := hrd
            exact gives_len_slice hx' ht' he hv
          · rename_i heq
            rw [heq] at hy
            simp only [RepS] at hy
            simp only [Option.some.injEq, Prod.mk.injEq] at hrd
            obtain ⟨_, rfl⟩ := hrd
            exact gives_len_slice hx' ht' he hy
          · rename_i id heq
            rw [heq] at hy
            simp only [RepS] at hy
            split at hrd
            · rename_i e' sz' rows hbox
              simp only [Option.some.injEq, Prod.mk.injEq] at hrd
              obtain ⟨_, rfl⟩ := hrd
              rcases vec_len hr hbox with ⟨hk0, rfl⟩ | ⟨b, cap, hkb⟩
              · exact gives_len_slice hx' ht' he (hy.trans hk0)
              · exact gives_len_slice hx' ht' he (hy.trans hkb)
            · cases hrd
          · cases hrd
        · cases h2
      · cases hm
    · cases hm
  | lenT y =>
    simp only [matchR] at hm
    split at hm
    · split at hm
      · rename_i x' t' hx' ht'
        simp only [Bool.and_eq_true] at hm
        obtain ⟨h1, h2⟩ := hm
        have hy := matchX_rep hr h1
        split at h2
        · rename_i he
          simp only [rd] at hrd
          split at hrd
          · rename_i l heq
            rw [heq] at hy
            simp only [RepS, Rep] at hy
            simp only [Option.some.injEq, Prod.mk.injEq] at hrd
            obtain ⟨_, rfl⟩ := hrd
            exact gives_len_str hx' ht' he hy
          · cases hrd
        · cases h2
      · cases hm
    · cases hm
  | lenM y =>
    simp only [matchR] at hm
    split at hm
    · split at hm
      · rename_i x' t' hx' ht'
        simp only [Bool.and_eq_true] at hm
        obtain ⟨h1, h2⟩ := hm
        have hy := matchX_rep hr h1
        split at h2
        · rename_i he
          simp only [rd] at hrd
          split at hrd
          · rename_i id heq
            rw [heq] at hy
            simp only [RepS] at hy
            split at hrd
            · rename_i kv hbox
              simp only [Option.some.injEq, Prod.mk.injEq] at hrd
              obtain ⟨_, rfl⟩ := hrd
              have hch := hr.chunks id
              rw [hbox] at hch
              obtain ⟨r, es, clock, hk, hB, hh, hmap⟩ := hch
              rw [← hmap.length]
              exact gives_len_map hx' ht' he (hy.trans hk) hh
            · cases hrd
          · cases hrd
        · cases h2
      · cases hm
    · cases hm
  | mins y ys =>
    simp only [matchR] at hm
    split at hm
    · rename_i args ts
      have hxs := matchXs_rep hr hm
      simp only [rd] at hrd
      split at hrd
      · rename_i m l heq heqs
        cases hargs : args.toList with
        | nil => rw [hargs] at hm; simp [matchXs] at hm
        | cons x' xs' =>
          rw [hargs] at hxs
          simp only [List.map_cons, RepSL, List.cons.injEq] at hxs
          obtain ⟨u, us, ⟨rfl, rfl⟩, hx1, hx2⟩ := hxs
          rw [heq] at hx1
          simp only [RepS, Rep] at hx1
          split at hrd
          · rename_i r hmin
            simp only [Option.some.injEq, Prod.mk.injEq] at hrd
            obtain ⟨_, rfl⟩ := hrd
            exact gives_mins hargs hx1 (RepSL.toDVs _ _ _ hx2 heqs) hmin
          · cases hrd
      · cases hrd
    · cases hm
  | maxs y ys =>
    simp only [matchR] at hm
    split at hm
    · rename_i args ts
      have hxs := matchXs_rep hr hm
      simp only [rd] at hrd
      split at hrd
      · rename_i m l heq heqs
        cases hargs : args.toList with
        | nil => rw [hargs] at hm; simp [matchXs] at hm
        | cons x' xs' =>
          rw [hargs] at hxs
          simp only [List.map_cons, RepSL, List.cons.injEq] at hxs
          obtain ⟨u, us, ⟨rfl, rfl⟩, hx1, hx2⟩ := hxs
          rw [heq] at hx1
          simp only [RepS, Rep] at hx1
          split at hrd
          · rename_i r hmin
            simp only [Option.some.injEq, Prod.mk.injEq] at hrd
            obtain ⟨_, rfl⟩ := hrd
            exact gives_maxs hargs hx1 (RepSL.toDVs _ _ _ hx2 heqs) hmin
          · cases hrd
      · cases hrd
    · cases hm
  | mkfn f ys =>
    simp only [matchR] at hm
    split at hm
    · simp only [Bool.and_eq_true, beq_iff_eq] at hm
      obtain ⟨⟨rfl, h2⟩, h3⟩ := hm
      have hxs := matchXs_rep hr h3
      simp only [rd] at hrd
      split at hrd
      · rename_i l heqs
        simp only [Option.some.injEq, Prod.mk.injEq] at hrd
        obtain ⟨_, rfl⟩ := hrd
        exact gives_mkfn h2 (RepSL.toDVs _ _ _ hxs heqs)
      · cases hrd
    · cases hm
  | build zs ps =>
    simp only [matchR] at hm
    split at hm
    · split at hm
      · rename_i fs i hu hi
        simp only [Bool.and_eq_true] at hm
        obtain ⟨⟨h1, h2⟩, h3⟩ := hm
        split at h1
        · rename_i z hz
          simp only [rd] at hrd
          split at hrd
          · rename_i cs hfill
            simp only [Option.some.injEq, Prod.mk.injEq] at hrd
            obtain ⟨_, rfl⟩ := hrd
            exact gives_build hr.kok hu hi hz h1 h2 (parts_match hr h3) hfill
          · cases hrd
        · cases h1
      · cases hm
    · cases hm
  | bslice sz xs =>
    simp only [matchR] at hm
    split at hm
    · simp only [Bool.and_eq_true, beq_iff_eq] at hm
      obtain ⟨⟨h1, h2⟩, h3⟩ := hm
      obtain ⟨hrep, hidx⟩ := rows_match hr h2
      split at h3
      · rename_i e he
        split at h3
        · rename_i i hi
          simp only [Bool.and_eq_true, beq_iff_eq, decide_eq_true_eq] at h3
          obtain ⟨⟨⟨h4, h5⟩, h6⟩, h7⟩ := h3
          split at h7
          · rename_i z hz
            simp only [beq_iff_eq] at h7
            simp only [rd] at hrd
            split at hrd
            · rename_i rows hrows
              simp only [Option.some.injEq, Prod.mk.injEq] at hrd
              obtain ⟨_, rfl⟩ := hrd
              exact gives_bslice (fun b hb => hr.own_lt hb) he hi h4 h5 h6 hz h7 h1 hrep (fun j q hj => by simpa using hidx j q hj) hrows
            · cases hrd
          · cases h7
        · cases h3
      · cases h3
    · cases hm
  | slc sz y l h =>
    simp only [matchR] at hm
    split at hm
    · rename_i t x' lo hi
      simp only [Bool.and_eq_true] at hm
      obtain ⟨⟨⟨h1, h2⟩, h3⟩, h4⟩ := hm
      have hy := matchX_rep hr h1
      split at h4
      · rename_i e he
        simp only [Bool.and_eq_true, beq_iff_eq, decide_eq_true_eq] at h4
        obtain ⟨⟨h5, rfl⟩, h7⟩ := h4
        have hox : ∀ (lo : Option Operand) (l : Option SX), matchOX N lo l = true → ∀ x y, lo = some x → l = some y → RepS w (own M0 σ.h κ) κ (ev σ.s y) (a.eval x) := fun lo l hml x y e1 e2 => by
          subst e1 e2; simp only [matchOX] at hml; exact matchX_rep hr hml
        simp only [rd] at hrd
        split at hrd
        · rename_i rows l' h' heq hl hh
          simp only [Option.some.injEq, Prod.mk.injEq] at hrd
          obtain ⟨rfl, rfl⟩ := hrd
          rw [heq] at hy
          exact gives_slc he h5 rfl h7 hy.d (evN_rep (hox lo l h2) h2 hl) (evN_rep (hox hi h h3) h3 hh) hp.1 hp.2.1 hp.2.2.1 hp.2.2.2
        · rename_i l' h' heq hl hh
          simp only [Option.some.injEq, Prod.mk.injEq] at hrd
          obtain ⟨rfl, rfl⟩ := hrd
          rw [heq] at hy
          simp only [RepS] at hy
          exact gives_slc_nil he h5 hy (evN_rep (hox lo l h2) h2 hl) (evN_rep (hox hi h h3) h3 hh) hp.1 hp.2
        · cases hrd
      · cases h4
    · cases hm
  | sslc y l h =>
    simp only [matchR] at hm
    split at hm
    · rename_i t x' lo hi
      simp only [Bool.and_eq_true] at hm
      obtain ⟨⟨⟨h1, h2⟩, h3⟩, h4⟩ := hm
      have hy := matchX_rep hr h1
      split at h4
      · rename_i he
        have hox : ∀ (lo : Option Operand) (l : Option SX), matchOX N lo l = true → ∀ x y, lo = some x → l = some y → RepS w (own M0 σ.h κ) κ (ev σ.s y) (a.eval x) := fun lo l hml x y e1 e2 => by
          subst e1 e2; simp only [matchOX] at hml; exact matchX_rep hr hml
        simp only [rd] at hrd
        split at hrd
        · rename_i b l' h' heq hl hh
          simp only [Option.some.injEq, Prod.mk.injEq] at hrd
          obtain ⟨rfl, rfl⟩ := hrd
          rw [heq] at hy
          simp only [RepS, Rep] at hy
          exact gives_sslc he hy (evN_rep (hox lo l h2) h2 hl) (evN_rep (hox hi h h3) h3 hh) hp.1 hp.2.1 hp.2.2
        · cases hrd
      · cases h4
    · cases hm
  | look kk z ok m k =>
    simp only [matchR] at hm
    split at hm
    · simp only [Bool.and_eq_true, beq_iff_eq] at hm
      obtain ⟨⟨⟨h1, h2⟩, rfl⟩, h3⟩ := hm
      have hx := matchX_rep hr h1
      have hi := matchX_rep hr h2
      split at h3
      · rename_i kt e ht
        simp only [Bool.and_eq_true, beq_iff_eq] at h3
        simp only [rd] at hrd
        split at hrd
        · rename_i id d heq heqi
          rw [heq] at hx
          rw [heqi] at hi
          simp only [RepS] at hx
          split at hrd
          · rename_i kk' kv hbox
            simp only [Option.some.injEq, Prod.mk.injEq] at hrd
            obtain ⟨rfl, rfl⟩ := hrd
            obtain ⟨rfl, hf⟩ := hp
            have hch := hr.chunks id
            rw [hbox] at hch
            obtain ⟨r, es, clock, hk, hB, hh, hmap⟩ := hch
            exact gives_look ht h3.1 h3.2 (hx.trans hk) hh hmap hf hi.d
          · cases hrd
        · cases hrd
      · cases h3
    · cases hm
  | eqs b kks y z =>
    simp only [matchR] at hm
    split at hm
    · simp only [Bool.and_eq_true, beq_iff_eq, Bool.not_eq_true'] at hm
      obtain ⟨⟨⟨⟨⟨rfl, h1⟩, h2⟩, h3⟩, h4⟩, h5⟩ := hm
      split at h3
      · rename_i fs ht
        simp only [rd] at hrd
        split at hrd
        · rename_i cs ds hy hz
          have hx := RepS.toDV _ _ _ (matchX_rep hr h1) hy
          have hx' := RepS.toDV _ _ _ (matchX_rep hr h2) hz
          split at hrd
          · rename_i q hq
            split at hrd
            · simp only [Option.some.injEq, Prod.mk.injEq] at hrd
              obtain ⟨_, rfl⟩ := hrd
              exact gives_eqs ht h4 h5 h3 hx hx' hq (.inl rfl)
            · simp only [Option.some.injEq, Prod.mk.injEq] at hrd
              obtain ⟨_, rfl⟩ := hrd
              exact gives_eqs ht h4 h5 h3 hx hx' hq (.inr rfl)
            · cases hrd
          · cases hrd
        · cases hrd
      · cases h3
    · cases hm
end
end Go.Proofs.YtjdeikkojjdjdaaDoor

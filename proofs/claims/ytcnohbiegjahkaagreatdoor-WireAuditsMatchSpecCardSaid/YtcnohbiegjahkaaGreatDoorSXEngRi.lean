/-
  The engine, part Ri: chunks under other names; a call that is walked within the caller's walk.
-/
import Derived.Test.YtcnohbiegjahkaaGreatDoorSXEngRg
namespace Go.Proofs.YtcnohbiegjahkaaGreatDoor
set_option linter.unusedSimpArgs false
set_option linter.unusedVariables false
open Go.RowKit

mutual
def renV (π : Nat → Nat) : SV → SV
  | .ref id o => .ref (π id) o
  | .vec id => .vec (π id)
  | .vref id sz i o => .vref (π id) sz i o
  | .mp id => .mp (π id)
  | .agg cs => .agg (renL π cs)
  | .tup cs => .tup (renL π cs)
  | .lit sz n cs => .lit sz n (renL π cs)
  | .d v => .d v
  | .nils => .nils
  | .own m v => .own m v
def renL (π : Nat → Nat) : List SV → List SV
  | [] => []
  | c :: cs => renV π c :: renL π cs
end
def renR (π : Nat → Nat) (rows : List (List SV)) : List (List SV) := rows.map (renL π)
def renK (π : Nat → Nat) (kv : List (DV × SV)) : List (DV × SV) := kv.map fun p => (p.1, renV π p.2)
def renC (π : Nat → Nat) : Ch → Ch
  | .dead => .dead
  | .box cs => .box (renL π cs)
  | .vec e sz rows => .vec e sz (renR π rows)
  | .map kk kv => .map kk (renK π kv)
  | .bld T e bs => .bld T e bs

theorem renL_append (π : Nat → Nat) : ∀ (xs ys : List SV), renL π (xs ++ ys) = renL π xs ++ renL π ys
  | [], _ => rfl
  | x :: xs, ys => by simp only [List.cons_append, renL, renL_append π xs ys]
theorem renL_length (π : Nat → Nat) : ∀ (xs : List SV), (renL π xs).length = xs.length
  | [] => rfl
  | x :: xs => by simp only [renL, List.length_cons, renL_length π xs]
theorem renR_flatten (π : Nat → Nat) : ∀ (rs : List (List SV)), (renR π rs).flatten = renL π rs.flatten
  | [] => rfl
  | r :: rs => by
    have := renR_flatten π rs
    simp only [renR] at this
    simp only [renR, List.map_cons, List.flatten_cons, this, renL_append]

section
variable {w : World} {M : Nat → Prop} {κ : Nat → Value} {π : Nat → Nat}
mutual
theorem renV_rep (hπ : ∀ i, π (π i) = i) : ∀ (x : SV) (u : Value), RepS w M κ x u → RepS w M (fun i => κ (π i)) (renV π x) u
  | .ref id o, u, h => by unfold RepS at h; simp only [renV]; unfold RepS; simp only [hπ]; exact h
  | .vec id, u, h => by unfold RepS at h; simp only [renV]; unfold RepS; simp only [hπ]; exact h
  | .vref id sz i o, u, h => by unfold RepS at h; simp only [renV]; unfold RepS; simp only [hπ]; exact h
  | .mp id, u, h => by unfold RepS at h; simp only [renV]; unfold RepS; simp only [hπ]; exact h
  | .agg cs, u, h => by
    unfold RepS at h; simp only [renV]; unfold RepS
    obtain ⟨vs, h1, h2, h3⟩ := h
    exact ⟨vs, h1, h2, renL_rep hπ cs vs h3⟩
  | .tup cs, u, h => by
    unfold RepS at h; simp only [renV]; unfold RepS
    obtain ⟨vs, h1, h3⟩ := h
    exact ⟨vs, h1, renL_rep hπ cs vs h3⟩
  | .lit sz n cs, u, h => by
    unfold RepS at h; simp only [renV]; unfold RepS
    obtain ⟨b, vs, h1, h2, h3, h4, h5, h6, h7⟩ := h
    exact ⟨b, vs, h1, h2, h3, h4, h5, h6, renL_rep hπ cs vs h7⟩
  | .d v, u, h => by unfold RepS at h; simp only [renV]; unfold RepS; exact h
  | .nils, u, h => by unfold RepS at h; simp only [renV]; unfold RepS; exact h
  | .own m v, u, h => by unfold RepS at h; exact h.elim
theorem renL_rep (hπ : ∀ i, π (π i) = i) : ∀ (cs : List SV) (us : List Value), RepSL w M κ cs us → RepSL w M (fun i => κ (π i)) (renL π cs) us
  | [], us, h => by unfold RepSL at h; simp only [renL]; unfold RepSL; exact h
  | c :: cs, us, h => by
    unfold RepSL at h; simp only [renL]; unfold RepSL
    obtain ⟨u, vs, h1, h2, h3⟩ := h
    exact ⟨u, vs, h1, renV_rep hπ c u h2, renL_rep hπ cs vs h3⟩
end
mutual
theorem renV_repG (hπ : ∀ i, π (π i) = i) : ∀ (x : SV) (u : Value) (F : List Nat), RepG w M κ x u F → RepG w M (fun i => κ (π i)) (renV π x) u F
  | .own m v, u, F, h => by unfold RepG at h; simp only [renV]; unfold RepG; exact h
  | .agg cs, u, F, h => by
    unfold RepG at h; simp only [renV]; unfold RepG
    obtain ⟨vs, h1, h2, h3⟩ := h
    exact ⟨vs, h1, h2, renL_repG hπ cs vs F h3⟩
  | .tup cs, u, F, h => by
    unfold RepG at h; simp only [renV]; unfold RepG
    obtain ⟨vs, h1, h3⟩ := h
    exact ⟨vs, h1, renL_repG hπ cs vs F h3⟩
  | .d v, u, F, h => by unfold RepG at h; have := renV_rep hπ _ _ h.2; simp only [renV] at this ⊢; unfold RepG; exact ⟨h.1, this⟩
  | .nils, u, F, h => by unfold RepG at h; have := renV_rep hπ _ _ h.2; simp only [renV] at this ⊢; unfold RepG; exact ⟨h.1, this⟩
  | .lit sz n cs, u, F, h => by unfold RepG at h; have := renV_rep hπ _ _ h.2; simp only [renV] at this ⊢; unfold RepG; exact ⟨h.1, this⟩
  | .ref id o, u, F, h => by unfold RepG at h; have := renV_rep hπ _ _ h.2; simp only [renV] at this ⊢; unfold RepG; exact ⟨h.1, this⟩
  | .vec id, u, F, h => by unfold RepG at h; have := renV_rep hπ _ _ h.2; simp only [renV] at this ⊢; unfold RepG; exact ⟨h.1, this⟩
  | .vref id sz i o, u, F, h => by unfold RepG at h; have := renV_rep hπ _ _ h.2; simp only [renV] at this ⊢; unfold RepG; exact ⟨h.1, this⟩
  | .mp id, u, F, h => by unfold RepG at h; have := renV_rep hπ _ _ h.2; simp only [renV] at this ⊢; unfold RepG; exact ⟨h.1, this⟩
theorem renL_repG (hπ : ∀ i, π (π i) = i) : ∀ (cs : List SV) (us : List Value) (F : List Nat), RepGL w M κ cs us F → RepGL w M (fun i => κ (π i)) (renL π cs) us F
  | [], us, F, h => by unfold RepGL at h; simp only [renL]; unfold RepGL; exact h
  | c :: cs, us, F, h => by
    unfold RepGL at h; simp only [renL]; unfold RepGL
    obtain ⟨u, vs, F1, F2, h1, h2, h3, h4⟩ := h
    exact ⟨u, vs, F1, F2, h1, h2, renV_repG hπ c u F1 h3, renL_repG hπ cs vs F2 h4⟩
end
theorem renK_rep (hπ : ∀ i, π (π i) = i) {kk : KK} : ∀ (kv : List (DV × SV)) (es : List MapEntry) (F : List Nat), RepMap w M κ kk kv es F → RepMap w M (fun i => κ (π i)) kk (renK π kv) es F
  | [], es, F, h => by unfold RepMap at h; simp only [renK, List.map_nil]; unfold RepMap; exact h
  | (k, c) :: kv, es, F, h => by
    unfold RepMap at h
    obtain ⟨e, rest, F1, F2, h1, h2, h3, h4, h5, h6⟩ := h
    have ih := renK_rep hπ kv rest F2 h6
    simp only [renK] at ih
    simp only [renK, List.map_cons]
    unfold RepMap
    exact ⟨e, rest, F1, F2, h1, h2, h3, h4, renV_repG hπ c _ F1 h5, ih⟩
theorem renC_rep (hπ : ∀ i, π (π i) = i) {id : Nat} {ch : Ch} {F : List Nat} (h : RepC w M κ (π id) ch F) : RepC w M (fun i => κ (π i)) id (renC π ch) F := by
  cases ch with
  | dead => exact h
  | box cs =>
    obtain ⟨b, T, vs, G, h1, h2, h3, h4, h5⟩ := h
    exact ⟨b, T, vs, G, h1, h2, h3, renL_repG hπ _ _ _ h4, h5⟩
  | vec e sz rows =>
    obtain ⟨xs, G, h1, h2, h3, h4, h5⟩ := h
    refine ⟨xs, G, by simpa [renR] using h1, h2, fun r hr => ?_, by rw [renR_flatten]; exact renL_repG hπ _ _ _ h4, h5⟩
    obtain ⟨q, hq, rfl⟩ := List.mem_map.1 hr
    rw [renL_length]; exact h3 q hq
  | map kk kv =>
    obtain ⟨r, es, clock, G, h1, h2, h3, h4, h5⟩ := h
    exact ⟨r, es, clock, G, h1, h2, h3, renK_rep hπ _ _ _ h4, h5⟩
  | bld T e bs => exact h
end

def renSt (π : Nat → Nat) (σ : St) : St := ⟨fun i => renV π (σ.s i), fun i => renC π (σ.h (π i))⟩
section
variable {c : Cx} {σ : St} {κ : Nat → Value} {φ : Nat → List Nat} {a : Act} {w : World} {π : Nat → Nat}
theorem Ref.ren (hπ : ∀ i, π (π i) = i) (hr : Ref c σ κ φ a w) : Ref c (renSt π σ) (fun i => κ (π i)) (fun i => φ (π i)) a w := by
  have hown : own c (fun i => φ (π i)) = own c φ := funext fun b => propext ⟨fun h => h.imp id fun ⟨i, hi⟩ => ⟨π i, hi⟩, fun h => h.imp id fun ⟨i, hi⟩ => ⟨π i, by show b ∈ φ (π (π i)); rw [hπ]; exact hi⟩⟩
  refine ⟨hr.chg, hr.size, hr.m0, hr.ntmps, hr.defers, fun i => hr.kok (π i), fun i hi => ?_, fun i v hv => ?_, fun i => ?_, fun i b hb => hr.mine (π i) b hb, fun i => hr.nod (π i), fun i j b hij hi hj => ?_⟩
  · rw [hown]; exact renV_rep hπ _ _ (hr.slots i hi)
  · rw [hown]; exact renV_rep hπ _ _ (hr.ghost i v hv)
  · rw [hown]; exact renC_rep hπ (hr.chunks (π i))
  · exact hr.sep (π i) (π j) b (fun h => hij (by rw [← hπ i, h, hπ])) hi hj
theorem imp_ren (hπ : ∀ i, π (π i) = i) : Imp σ (renSt π σ) := fun _ _ _ _ _ hr => ⟨_, _, hr.ren hπ⟩
/-- Two ranges of names change places. -/
def sw (n b : Nat) (i : Nat) : Nat := if i < n then i + b else if b ≤ i ∧ i < b + n then i - b else i
theorem sw_sw {n b : Nat} (h : n ≤ b) (i : Nat) : sw n b (sw n b i) = i := by
  by_cases h1 : i < n
  · have e : sw n b i = i + b := by unfold sw; rw [if_pos h1]
    rw [e]; unfold sw
    rw [if_neg (by omega), if_pos ⟨by omega, by omega⟩]; omega
  · by_cases h2 : b ≤ i ∧ i < b + n
    · have e : sw n b i = i - b := by unfold sw; rw [if_neg h1, if_pos h2]
      rw [e]; unfold sw
      rw [if_pos (by omega)]; omega
    · have e : sw n b i = i := by unfold sw; rw [if_neg h1, if_neg h2]
      rw [e, e]
theorem imp_sw {n b : Nat} (h : n ≤ b) : Imp σ (renSt (sw n b) σ) := imp_ren (sw_sw h)

/-! ### A frame within the frame -/
def inCx (c : Cx) (a : Act) (N : Nat) : Cx := { c with N := N, gs := (List.range c.N).map (fun i => a.tmps.getD i undef) ++ c.gs }
def inSt (N : Nat) (xs : List SV) (σ : St) : St := ⟨fun i => if i < N then (match xs[i]? with | some x => x | none => .d .any) else σ.s (i - N), σ.h⟩
def outSt (N : Nat) (dst : Option Nat) (v : SV) (σ : St) : St := ⟨match dst with | some d => upd (fun i => σ.s (N + i)) d v | none => fun i => σ.s (N + i), σ.h⟩
theorem Ref.enter (hr : Ref c σ κ φ a w) {xs : List SV} {vs : List Value} (hx : RepSL w (own c φ) κ xs vs) (N : Nat) (hN : vs.length ≤ N) :
    Ref (inCx c a N) (inSt N xs σ) κ φ { tmps := vs.toArray ++ Array.replicate (N - vs.toArray.size) undef, defers := [] } w := by
  have hget : ∀ {xs : List SV} {vs : List Value} (i : Nat) x, RepSL w (own c φ) κ xs vs → xs[i]? = some x → ∃ v, vs[i]? = some v ∧ RepS w (own c φ) κ x v := by
    intro xs
    induction xs with
    | nil => intro vs i x _ h; cases h
    | cons y ys ih =>
      intro vs i x h hx
      unfold RepSL at h
      obtain ⟨u, us, rfl, h1, h2⟩ := h
      cases i with
      | zero => simp at hx; subst hx; exact ⟨u, rfl, h1⟩
      | succ i => exact ih i x h2 (by simpa using hx)
  refine ⟨hr.chg, hr.size, hr.m0, ?_, rfl, hr.kok, fun i hi => ?_, fun i v hv => ?_, hr.chunks, hr.mine, hr.nod, hr.sep⟩
  · show _ = N
    simp; omega
  · have hi' : i < N := hi
    show RepS w (own c φ) κ (if i < N then _ else _) _
    rw [if_pos hi']
    cases hxi : xs[i]? with
    | none => simp [RepS, Rep]
    | some x =>
      obtain ⟨v, hv, h2⟩ := hget i x hx hxi
      have hlt : i < vs.length := (List.getElem?_eq_some_iff.1 hv).1
      rw [Array.getD_eq_getD_getElem?, Array.getElem?_append_left (by simpa using hlt)]
      simpa [hv] using h2
  · show RepS w (own c φ) κ (if N + i < N then _ else σ.s (N + i - N)) v
    rw [if_neg (by omega), Nat.add_sub_cancel_left]
    have hv' : ((List.range c.N).map (fun i => a.tmps.getD i undef) ++ c.gs)[i]? = some v := hv
    by_cases hlt : i < c.N
    · rw [List.getElem?_append_left (by simpa using hlt)] at hv'
      simp [hlt] at hv'
      subst hv'
      have := hr.slots i hlt
      simpa [Array.getD_eq_getD_getElem?] using this
    · rw [List.getElem?_append_right (by simp; omega)] at hv'
      have := hr.ghost (i - c.N) v (by simpa using hv')
      rwa [show c.N + (i - c.N) = i by omega] at this
theorem Ref.leave {c : Cx} {a a' : Act} {σ : St} {κ : Nat → Value} {φ : Nat → List Nat} {w : World} {N : Nat} (hn : a.tmps.size = c.N) (hd : a.defers = []) (hr : Ref (inCx c a N) σ κ φ a' w) : Ref c ⟨fun i => σ.s (N + i), σ.h⟩ κ φ a w := by
  refine ⟨hr.chg, hr.size, hr.m0, hn, hd, hr.kok, fun i hi => ?_, fun i v hv => ?_, hr.chunks, hr.mine, hr.nod, hr.sep⟩
  · exact hr.ghost i (a.tmps.getD i undef) (by
      show ((List.range c.N).map (fun i => a.tmps.getD i undef) ++ c.gs)[i]? = _
      rw [List.getElem?_append_left (by simpa using hi)]
      simp [hi])
  · have := hr.ghost (c.N + i) v (by
      show ((List.range c.N).map (fun i => a.tmps.getD i undef) ++ c.gs)[c.N + i]? = _
      rw [List.getElem?_append_right (by simp)]
      simpa using hv)
    exact this
end

/-- Behind the body that is walked within; site: where the caller's chunks lie meanwhile. -/
def inlK (P : Program) (site N : Nat) (dst : Option Nat) (qs : List RV) (post : List SO) (K : St → Prop) : AX → St → Prop
  | .exit _, _ => False
  | _, σ => ∃ σ', Imp σ σ' ∧ ∃ xs, svL σ' qs = some xs ∧ ∃ σ2, Imp (renSt (sw 100000 site) (outSt N dst (resSV xs) σ')) σ2 ∧ AOps P K post σ2
/-- Ahead of the body. -/
def inP (P : Program) (site N : Nat) (args : List SX) (x : SC) (K : AX → St → Prop) (σ : St) : Prop := ∃ σ2, Imp (renSt (sw 100000 site) (inSt N (args.map (ev σ.s)) σ)) σ2 ∧ AW P x K σ2

section
variable {P : Program} {c : Cx} {σ : St} {κ : Nat → Value} {φ : Nat → List Nat} {a : Act} {w : World}
theorem ops_sound_k {ops : Array Oper} {K : St → Prop} {Q : Exit → Act → World → Prop} {rest : List Nat} (hQ : ∀ σ' κ' φ' a' w', Ref c σ' κ' φ' a' w' → K σ' → wpOps P ops Q rest a' w') :
    ∀ (sos : List SO) (l : List Oper) (k : Nat) (σ : St) (κ : Nat → Value) (φ : Nat → List Nat) (a : Act) (w : World), (∀ j o, l[j]? = some o → ops[k + j]? = some o) → matchOps P c.N ops l sos = true → Ref c σ κ φ a w → AOps P K sos σ →
    wpOps P ops Q (List.range' k l.length ++ rest) a w
  | [], l, k, σ, κ, φ, a, w, hl, hm, hr, h => by
    cases l with
    | nil => exact hQ _ _ _ _ _ hr h
    | cons _ _ => simp [matchOps] at hm
  | so :: sos, l, k, σ, κ, φ, a, w, hl, hm, hr, h => by
    cases l with
    | nil => simp [matchOps] at hm
    | cons o l =>
      simp only [matchOps, Bool.and_eq_true] at hm
      simp only [List.length_cons, List.range'_succ, List.cons_append, wpOps]
      have ho : ops[k]? = some o := by simpa using hl 0 o (by simp)
      simp only [ho]
      simp only [AOps] at h
      exact o_sound hr hm.1 h fun σ' κ' φ' a' w' hr' hk => ops_sound_k hQ sos l (k + 1) σ' κ' φ' a' w' (fun j o' hj => by
        have := hl (j + 1) o' (by simpa using hj)
        rw [show k + 1 + j = k + (j + 1) by omega]; exact this) hm.2 hr' hk
theorem matchOps_split {N : Nat} {ops : Array Oper} : ∀ {sos : List SO} {l : List Oper} {k : Nat} {so : SO}, matchOps P N ops l sos = true → sos[k]? = some so →
    ∃ l1 o l2, l = l1 ++ o :: l2 ∧ l1.length = k ∧ matchOps P N ops l1 (sos.take k) = true ∧ matchO P N ops o so = true ∧ matchOps P N ops l2 (sos.drop (k + 1)) = true
  | [], _, _, _, _, h => by cases h
  | s :: sos, [], _, _, hm, _ => by simp [matchOps] at hm
  | s :: sos, o :: l, 0, so, hm, h => by
    simp only [matchOps, Bool.and_eq_true] at hm
    simp at h; subst h
    exact ⟨[], o, l, rfl, rfl, rfl, hm.1, hm.2⟩
  | s :: sos, o :: l, k + 1, so, hm, h => by
    simp only [matchOps, Bool.and_eq_true] at hm
    obtain ⟨l1, o', l2, rfl, h1, h2, h3, h4⟩ := matchOps_split hm.2 (by simpa using h)
    exact ⟨o :: l1, o', l2, rfl, by simp [h1], by simp [matchOps, hm.1, h2], h3, by simpa using h4⟩
theorem resSV_rep {M : Nat → Prop} {xs : List SV} {us : List Value} (h : RepSL w M κ xs us) : RepS w M κ (resSV xs) (if h : us.toArray.size = 1 then us.toArray[0] else .tuple us.toArray) := by
  have hl := h.length
  match xs, us, h, hl with
  | [x], [u], h, _ =>
    unfold RepSL at h
    obtain ⟨u', us', h1, h2, h3⟩ := h
    simp only [List.cons.injEq] at h1
    obtain ⟨rfl, rfl⟩ := h1
    simpa [resSV] using h2
  | [], [], h, _ => simp only [resSV]; unfold RepS; exact ⟨[], by simp, h⟩
  | x :: y :: xs, u :: v :: us, h, _ =>
    simp only [resSV]; unfold RepS
    exact ⟨_, by rw [dif_neg (by simp)], h⟩

/-- A call that is walked within the caller's walk. -/
theorem W_inl {Q : AX → St → Prop} {k N f : Nat} {sos : List SO} {x : SC} {qs : List RV} {dst : Option Nat} {args : List SX} (hk : sos[k]? = some (.p dst (.f f) args))
    {site : Nat} (hsite : 100000 ≤ site) (hw : AOps P (inP P site N args x (inlK P site N dst qs (sos.drop (k + 1)) (Q .normal))) (sos.take k) σ) : AW P (.inl k sos N x qs) Q σ := fun hmix c code R hm hp κ φ a w hr => by
  obtain ⟨id, ops, rfl, hm⟩ : ∃ id ops, code = .region id ops false ∧ matchC P c.N (.inl k sos N x qs) (.region id ops false) = true := by
    cases code with
    | region id ops draw => cases draw with
      | false => exact ⟨id, ops, rfl, hm⟩
      | true => simp [matchC] at hm
    | _ => simp [matchC] at hm
  simp only [matchC, hk, Bool.and_eq_true] at hm
  obtain ⟨hm1, hcal, hm2⟩ := hm
  cases hf : P.funcs[f]? with
  | none => simp [hf] at hm2
  | some fn =>
    simp only [hf, Bool.and_eq_true, decide_eq_true_eq] at hm2
    obtain ⟨⟨⟨hN, hlen⟩, hres⟩, hbody⟩ := hm2
    cases hb : fn.body with
    | none => simp [hb] at hbody
    | some bc =>
      simp only [hb] at hbody
      obtain ⟨l1, o, l2, hops, hl1, k1, k2, k3⟩ := matchOps_split hm1 hk
      refine wp_region ?_
      have hsize : ops.size = l1.length + (1 + l2.length) := by rw [← Array.length_toList, hops]; simp; omega
      rw [hsize, List.range_eq_range', ← List.range'_append_1 , ← List.range'_append_1]
      have hgo : ops[l1.length]? = some o := by rw [← Array.getElem?_toList, hops]; simp
      refine ops_sound_k ?_ _ l1 0 σ κ φ a w (fun j o' hj => ?_) k1 hr hw
      · rintro σ1 κ1 φ1 a1 w1 hr1 ⟨σ2, himp, hbw⟩
        simp only [Nat.zero_add, List.range'_one, List.singleton_append, wpOps, hgo]
        simp only [matchO, Bool.and_eq_true, beq_iff_eq, matchU] at k2
        obtain ⟨hg, ⟨⟨hdst, hdN⟩, hcall⟩⟩ := k2
        have hwant : Region.wanted o (yielded ops a1.tmps) = true := by simp [Region.wanted, hg]
        rw [hwant, if_pos rfl]
        refine .inl ?_
        obtain ⟨od, oop, oty, opos, oaft, ogd⟩ := o
        simp only at hdst hcall hg
        split at hcall
        · rename_i xo as ts
          simp only [Bool.and_eq_true] at hcall
          have hX := matchX_rep hr1 hcall.1
          have hA := matchXs_rep hr1 hcall.2
          simp only [ev, RepS, Rep, RepL] at hX
          obtain ⟨caps, hX, rfl⟩ := hX
          have hrun := exec_call (P := P) (w := w1) (a := a1) (args := as) (ts := ts) (caps := []) hX hcal od oty opos oaft ogd
          unfold Oper.wp
          rw [hrun, Oper.upon_enter]
          refine calls_of_wp hf hb ?_
          have hAl := hA.length
          have hen := hr1.enter hA N (by rw [hAl]; simpa using hlen)
          obtain ⟨κ2, φ2, hr2⟩ := ((imp_sw hsite).trans himp) _ _ _ _ _ hen
          have fin : ∀ σ3 κ3 φ3 a3 w3, Ref (inCx c a1 N) σ3 κ3 φ3 a3 w3 → (∃ σ', Imp σ3 σ' ∧ ∃ xs, svL σ' qs = some xs ∧ ∃ σ2, Imp (renSt (sw 100000 site) (outSt N dst (resSV xs) σ')) σ2 ∧ AOps P (Q .normal) (sos.drop (k + 1)) σ2) →
              a3.defers = [] ∧ ∃ v, (results fn a3.tmps).run P w3 = .ok v w3 ∧ wpOps P ops R (List.range' (l1.length + 1) l2.length) (a1.put od v) w3 := by
            rintro σ3 κ3 φ3 a3 w3 hr3 ⟨σ', hi, xs, hsv, σ4, hi4, hpost⟩
            obtain ⟨κ4, φ4, hr4⟩ := hi _ _ _ _ _ hr3
            obtain ⟨us, hus, hxs⟩ := rvs_sv hr4 hres hsv
            refine ⟨hr3.defers, _, results_run hus, ?_⟩
            have hback := hr4.leave hr1.ntmps hr1.defers
            have hput : Ref c (outSt N dst (resSV xs) σ') κ4 φ4 (a1.put od (if h : us.toArray.size = 1 then us.toArray[0] else .tuple us.toArray)) w3 := by
              subst hdst
              cases od with
              | none => exact hback
              | some d =>
                have hd : d < c.N := by simpa using hdN
                exact hback.putS hd (resSV_rep hxs)
            obtain ⟨κ5, φ5, hr5⟩ := ((imp_sw hsite).trans hi4) _ _ _ _ _ hput
            exact ops_sound (K := Q .normal) (fun σ' κ' φ' a' w' hr' hk => hp.1 _ _ _ _ _ hr' hk) _ l2 (l1.length + 1) σ4 κ5 φ5 _ w3 (fun j o' hj => by
              rw [← Array.getElem?_toList, hops, List.getElem?_append_right (by omega)]
              rw [show l1.length + 1 + j - l1.length = j + 1 by omega]
              simpa using hj) k3 hr5 hpost
          have hNf : (inCx c a1 N).N = N := rfl
          have htm : ({ tmps := (as.toList.map a1.eval ++ []).toArray ++ Array.replicate (fn.ntmps - (as.toList.map a1.eval ++ []).toArray.size) undef, defers := [] } : Act) = { tmps := (as.toList.map a1.eval).toArray ++ Array.replicate (N - (as.toList.map a1.eval).toArray.size) undef, defers := [] } := by
            rw [hN, List.append_nil]
          rw [htm]
          exact hbw hmix (inCx c a1 N) bc _ (by rw [hNf]; exact hbody) ⟨fun σ κ φ a w' hr' hq => fin σ κ φ a w' hr' hq, fun i σ κ φ a w' hr' hq => hq.elim, fun σ κ φ a w' hr' hq => fin σ κ φ a w' hr' hq⟩ _ _ _ _ hr2
        · cases hcall
      · rw [Nat.zero_add, ← Array.getElem?_toList, hops, List.getElem?_append_left (List.getElem?_eq_some_iff.1 hj).1]; exact hj

/-! ### In the walk that makes the computation -/
theorem K_enter {site N : Nat} {args : List SX} {x : SC} {K : AX → St → Prop} {M : St} (hi : Imp (renSt (sw 100000 site) (inSt N (args.map (ev σ.s)) σ)) M) (hw : AW P x K M) : inP P site N args x K σ := ⟨M, hi, hw⟩
theorem K_inlN {site N : Nat} {dst : Option Nat} {qs : List RV} {post : List SO} {K : St → Prop} {xs : List SV} {M : St} (hx : svL σ qs = some xs) (hi : Imp (renSt (sw 100000 site) (outSt N dst (resSV xs) σ)) M) (hk : AOps P K post M) : inlK P site N dst qs post K .normal σ := ⟨σ, Imp.refl _, xs, hx, M, hi, hk⟩
/-- A call within, whose ways go on apart. -/
theorem S_inlx {Q : AX → St → Prop} {X : SC} {k N f : Nat} {sos pre post : List SO} {x : SC} {qs : List RV} {dst : Option Nat} {args : List SX} (site : Nat) (hX : X = .inl k sos N x qs) (hk : sos[k]? = some (.p dst (.f f) args)) (hpre : sos.take k = pre) (hpost : sos.drop (k + 1) = post) (hsite : 100000 ≤ site)
    (hw : AOps P (inP P site N args x (inlK P site N dst qs post (Q .normal))) pre σ) : AW P X Q σ := by
  subst hX hpre hpost; exact W_inl hk hsite hw
end

section
variable {P : Program} {x0 : SC} {Q : AX → St → Prop} {s : Nat → SV} {h : Nat → Ch} {α β : Type} {row : α → List DV} {row' : β → List DV} {ms ms' : List Mask} {l : List α}
end
theorem cle_nilM {β : Type} {row : β → List DV} {x : SV} {e : Nat} {ms : List Mask} (h1 : x = .nils) : cle x (.own (.sl e ms) (.slice (List.map row ([] : List β)))) := .inr ⟨h1, _, _, rfl⟩
/-- A load of data out of a row that owns other things. -/
theorem O_ldGi {P : Program} {s : Nat → SV} {h : Nat → Ch} {K : St → Prop} {sos : List SO} {α : Type} {row : α → List DV} {ms : List Mask} {l : List α} {x : α} {id e sz i off dst : Nat} {c : SV} {y : SX} (hp : ev s y = .vref id sz i off) (hh : h id = .vec e sz (vrowO ms row l)) (hx : l[i]? = some x) (hc : (ownR ms (row x))[off]? = some c) (hno : c.noOwn = true)
    (hk : AOps P K sos ⟨upd s dst c, h⟩) : AOps P K (.r dst (.ld1 y) :: sos) ⟨s, h⟩ := by
  refine O_r (p := sz = sz) (v := c) ?_ rfl hk
  simp only [rd, hp, hh, vrowO_get hx, hc, hno, if_true]
/-- Rows told one by one, read as rows of a kind. -/
theorem imp_norm1 {s : Nat → SV} {h : Nat → Ch} {α : Type} {e sz : Nat} {r0 : List SV} (id : Nat) (ms : List Mask) (row : α → List DV) {l : List α} (hh : h id = .vec e sz [r0]) (hr : rowsle [r0] (vrowO ms row l)) : Imp ⟨s, h⟩ ⟨s, upd h id (.vec e sz (vrowO ms row l))⟩ :=
  imp_normO (rows := []) (ys := [r0]) id ms row hh hr
theorem renR_append (π : Nat → Nat) (a b : List (List SV)) : renR π (a ++ b) = renR π a ++ renR π b := by simp [renR]
theorem renL_d (π : Nat → Nat) : ∀ (l : List DV), renL π (dR l) = dR l
  | [] => rfl
  | d :: l => by
    have := renL_d π l
    simp only [dR] at this
    simp only [dR, List.map_cons, renL, renV, this]
theorem renL_ownR (π : Nat → Nat) : ∀ (ms : List Mask) (ds : List DV), renL π (ownR ms ds) = ownR ms ds
  | [], ds => by simp [ownR, renL]
  | m :: ms, [] => by simp [ownR, renL]
  | m :: ms, d :: ds => by
    have := renL_ownR π ms ds
    simp only [ownR] at this
    simp only [ownR, List.zipWith_cons_cons, renL, this]
    cases m <;> rfl
theorem renR_vrow {α : Type} (π : Nat → Nat) (row : α → List DV) (l : List α) : renR π (vrow row l) = vrow row l := by
  simp only [renR, vrow, List.map_map]
  exact List.map_congr_left fun a _ => renL_d π (row a)
theorem renR_vrowO {α : Type} (π : Nat → Nat) (ms : List Mask) (row : α → List DV) (l : List α) : renR π (vrowO ms row l) = vrowO ms row l := by
  simp only [renR, vrowO, List.map_map]
  exact List.map_congr_left fun a _ => renL_ownR π ms (row a)
theorem renL_set (π : Nat → Nat) (y : SV) : ∀ (xs : List SV) (i : Nat), renL π (xs.set i y) = (renL π xs).set i (renV π y)
  | [], i => by simp [renL]
  | x :: xs, 0 => by simp only [List.set_cons_zero, renL]
  | x :: xs, i + 1 => by simp only [List.set_cons_succ, renL, renL_set π y xs i]
theorem renR_set (π : Nat → Nat) (rows : List (List SV)) (i : Nat) (r : List SV) : renR π (rows.set i r) = (renR π rows).set i (renL π r) := by simp only [renR, List.map_set]
theorem renK_data {K V : Type} {ke : K → DV} {f : V → DV} (π : Nat → Nat) (W : List (K × V)) : renK π (encM ke (fun v => .d (f v)) W) = encM ke (fun v => .d (f v)) W := by
  simp only [renK, encM, List.map_map]; rfl
theorem renK_own {K α : Type} {ke : K → DV} {e : Nat} {ms : List Mask} {row : α → List DV} (π : Nat → Nat) (W : List (K × List α)) : renK π (encM ke (ownV e ms row) W) = encM ke (ownV e ms row) W := by
  simp only [renK, encM, List.map_map]; rfl
theorem renR_nil (π : Nat → Nat) : renR π [] = [] := rfl
theorem renR_cons (π : Nat → Nat) (r : List SV) (l : List (List SV)) : renR π (r :: l) = renL π r :: renR π l := rfl
theorem renK_nil (π : Nat → Nat) : renK π [] = [] := rfl
theorem renSt_s (π : Nat → Nat) (σ : St) (i : Nat) : (renSt π σ).s i = renV π (σ.s i) := rfl
theorem renSt_h (π : Nat → Nat) (σ : St) (i : Nat) : (renSt π σ).h i = renC π (σ.h (π i)) := rfl
theorem inSt_s (N : Nat) (xs : List SV) (σ : St) (i : Nat) : (inSt N xs σ).s i = if i < N then (match xs[i]? with | some x => x | none => .d .any) else σ.s (i - N) := rfl
theorem inSt_h (N : Nat) (xs : List SV) (σ : St) (i : Nat) : (inSt N xs σ).h i = σ.h i := rfl
theorem outSt_s (N d : Nat) (v : SV) (σ : St) (i : Nat) : (outSt N (some d) v σ).s i = if i = d then v else σ.s (N + i) := rfl
theorem outSt_s0 (N : Nat) (v : SV) (σ : St) (i : Nat) : (outSt N none v σ).s i = σ.s (N + i) := rfl
theorem outSt_h (N : Nat) (d : Option Nat) (v : SV) (σ : St) (i : Nat) : (outSt N d v σ).h i = σ.h i := rfl
attribute [push_cast] renV renL renC renR_append renL_d renL_ownR renR_vrow renR_vrowO renL_set renR_set renK_data renK_own renR_nil renR_cons renK_nil renSt_s renSt_h inSt_s inSt_h outSt_s outSt_s0 outSt_h sw svL RV.sv resSV
theorem all_len {rows : List (List SV)} {sz : Nat} (h : (rows.all fun q => q.length == sz) = true) : ∀ r ∈ rows, r.length = sz := fun q hq => by have := List.all_eq_true.1 h q hq; simpa using this
end Go.Proofs.YtcnohbiegjahkaaGreatDoor

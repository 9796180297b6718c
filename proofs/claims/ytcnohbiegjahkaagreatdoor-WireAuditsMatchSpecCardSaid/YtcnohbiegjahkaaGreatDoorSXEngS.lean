/-
  The engine, part S: the contract of a function to which owned values are handed.
-/
import Derived.Test.YtcnohbiegjahkaaGreatDoorSXEngL
namespace Go.Proofs.YtcnohbiegjahkaaGreatDoor
set_option linter.unusedSimpArgs false
set_option linter.unusedVariables false
open Go.RowKit

/-- What stands at the end, and what the contract says of it; the chunks that are handed back. -/
inductive ROkL (h : Nat → Ch) : List SV → List SV → List Nat → Prop
  | nil : ROkL h [] [] []
  | any {x : SV} {xs rs : List SV} {ids : List Nat} (hl : ROkL h xs rs ids) : ROkL h (x :: xs) (.d .any :: rs) ids
  | data {x : SV} {d : DV} {xs rs : List SV} {ids : List Nat} (hx : x.toDV = some d) (hl : ROkL h xs rs ids) : ROkL h (x :: xs) (.d d :: rs) ids
  | nils {e : Nat} {ms : List Mask} {xs rs : List SV} {ids : List Nat} (hl : ROkL h xs rs ids) : ROkL h (.nils :: xs) (.own (.sl e ms) (.slice []) :: rs) ids
  | own {id : Nat} {m : Mask} {d : DV} {ch : Ch} {mk : Nat → SV} {xs rs : List SV} {ids : List Nat} (ho : openCh m d = some (ch, mk)) (hs : shapeOk m d) (hh : h id = ch) (hn : id ∉ ids) (hl : ROkL h xs rs ids) : ROkL h (mk id :: xs) (.own m d :: rs) (id :: ids)
  | agg {cs rs1 xs rs : List SV} {ids1 ids : List Nat} (hc : ROkL h cs rs1 ids1) (hn : ∀ i ∈ ids1, i ∉ ids) (hl : ROkL h xs rs ids) : ROkL h (.agg cs :: xs) (.agg rs1 :: rs) (ids1 ++ ids)

section
variable {P : Program} {c : Cx} {σ : St} {κ : Nat → Value} {φ : Nat → List Nat} {a : Act} {w : World}

theorem rok_rep (hr : Ref c σ κ φ a w) {xs rs : List SV} {ids : List Nat} (h : ROkL σ.h xs rs ids) : ∀ {vs : List Value}, RepSL w (own c φ) κ xs vs →
    ∃ F, (∀ M : Nat → Prop, (∀ b, M b → own c φ b) → RepGL w M κ0 rs vs F) ∧ (∀ b ∈ F, ∃ id ∈ ids, b ∈ φ id) ∧ F.Nodup := by
  induction h with
  | nil => intro vs hx; simp only [RepSL] at hx; exact ⟨[], fun M _ => by simp [RepGL, hx], by simp, by simp⟩
  | any _ ih =>
    intro vs hxs
    simp only [RepSL] at hxs
    obtain ⟨u, us, rfl, h1, h2⟩ := hxs
    obtain ⟨F, k1, k2, k3⟩ := ih h2
    refine ⟨F, fun M hM => ?_, k2, k3⟩
    simp only [RepGL]
    exact ⟨u, us, [], F, rfl, rfl, by unfold RepG RepS Rep; exact ⟨rfl, trivial⟩, k1 M hM⟩
  | data hx _ ih =>
    intro vs hxs
    simp only [RepSL] at hxs
    obtain ⟨u, us, rfl, h1, h2⟩ := hxs
    obtain ⟨F, k1, k2, k3⟩ := ih h2
    refine ⟨F, fun M hM => ?_, k2, k3⟩
    simp only [RepGL]
    exact ⟨u, us, [], F, rfl, rfl, by unfold RepG RepS; exact ⟨rfl, (RepS.toDV _ _ _ h1 hx).ext (Ext.shrink hM)⟩, k1 M hM⟩
  | nils _ ih =>
    intro vs hxs
    simp only [RepSL] at hxs
    obtain ⟨u, us, rfl, h1, h2⟩ := hxs
    obtain ⟨F, k1, k2, k3⟩ := ih h2
    refine ⟨F, fun M hM => ?_, k2, k3⟩
    simp only [RepGL]
    refine ⟨u, us, [], F, rfl, rfl, ?_, k1 M hM⟩
    simp only [RepS] at h1
    subst h1
    simp only [RepG, RepO]
    exact ⟨[], [], [], rfl, World.ownsRow_nil w 0 _ _, by simp, by simp, by simp [CellsBy], by simp [blkL, blk]⟩
  | @own id m d ch mk _ _ ids ho hs hh hn _ ih =>
    intro vs hxs
    simp only [RepSL] at hxs
    obtain ⟨u, us, rfl, h1, h2⟩ := hxs
    obtain ⟨F, k1, k2, k3⟩ := ih h2
    have hch := hr.chunks id
    rw [hh] at hch
    obtain ⟨hk, _⟩ := mk_val (φ := φ) ho (RepG.of_S _ _ h1) hch
    have hO := (open_iff hs ho hk).1 hch
    refine ⟨φ id ++ F, fun M hM => ?_, fun b hb => ?_, List.nodup_append.2 ⟨hr.nod id, k3, fun x hx y hy e => ?_⟩⟩
    · simp only [RepGL]
      exact ⟨u, us, φ id, F, rfl, rfl, by simp only [RepG]; exact RepO.ext (Ext.shrink hM) _ _ _ _ (fun _ _ => rfl) hO, k1 M hM⟩
    · rcases List.mem_append.1 hb with hb | hb
      · exact ⟨id, by simp, hb⟩
      · obtain ⟨j, hj, hbj⟩ := k2 b hb; exact ⟨j, by simp [hj], hbj⟩
    · subst e
      obtain ⟨j, hj, hxj⟩ := k2 x hy
      exact hr.sep id j x (fun e => hn (e ▸ hj)) hx hxj
  | @agg cs rs1 xs rs ids1 ids _ hn _ ih1 ih =>
    intro vs hxs
    simp only [RepSL] at hxs
    obtain ⟨u, us, rfl, h1, h2⟩ := hxs
    simp only [RepS] at h1
    obtain ⟨vs', rfl, h3, h4⟩ := h1
    obtain ⟨F1, g1, g2, g3⟩ := ih1 h4
    obtain ⟨F, k1, k2, k3⟩ := ih h2
    refine ⟨F1 ++ F, fun M hM => ?_, fun b hb => ?_, List.nodup_append.2 ⟨g3, k3, fun x hx y hy e => ?_⟩⟩
    · simp only [RepGL]
      exact ⟨_, us, F1, F, rfl, rfl, by simp only [RepG]; exact ⟨vs', rfl, h3, g1 M hM⟩, k1 M hM⟩
    · rcases List.mem_append.1 hb with hb | hb
      · obtain ⟨j, hj, hbj⟩ := g2 b hb; exact ⟨j, by simp [hj], hbj⟩
      · obtain ⟨j, hj, hbj⟩ := k2 b hb; exact ⟨j, by simp [hj], hbj⟩
    · subst e
      obtain ⟨i, hi, hxi⟩ := g2 x hx
      obtain ⟨j, hj, hxj⟩ := k2 x hy
      exact hr.sep i j x (fun e => hn i hi (e ▸ hj)) hxi hxj

/-- A result as it stands at the end. -/
def RV.sv (σ : St) : RV → Option SV
  | .t n => some (σ.s n)
  | .cell n sz => match σ.s n with
    | .d (.ptr cs) => if sz ≤ cs.length then some (.d (.agg (cs.take sz))) else none
    | .ref id off => match σ.h id with
      | .box cs => if off = 0 ∧ sz = cs.length ∧ SV.noOwns cs = true then some (.agg cs) else none
      | _ => none
    | _ => none
def svL (σ : St) : List RV → Option (List SV)
  | [] => some []
  | r :: rs => match r.sv σ, svL σ rs with | some x, some xs => some (x :: xs) | _, _ => none

theorem rv_sv (hr : Ref c σ κ φ a w) {r : ResultVar} {q : RV} (hm : matchRV P c.N r q = true) {x : SV} (hg : q.sv σ = some x) :
    ∃ v, (match r with | .tmp t => pure (a.tmps.getD t undef) | .cell a' t => do loadVar t (← asAddr (a.tmps.getD a' undef)) : Sem Value).run P w = .ok v w ∧ RepS w (own c φ) κ x v := by
  cases r with
  | tmp t =>
    cases q with
    | t n =>
      simp only [matchRV, Bool.and_eq_true, beq_iff_eq, decide_eq_true_eq] at hm
      obtain ⟨rfl, hn⟩ := hm
      simp only [RV.sv, Option.some.injEq] at hg
      subst hg
      exact ⟨_, rfl, hr.slots t hn⟩
    | cell _ _ => simp [matchRV] at hm
  | cell a' t =>
    cases q with
    | t n => simp [matchRV] at hm
    | cell n sz =>
      simp only [matchRV, Bool.and_eq_true, beq_iff_eq, decide_eq_true_eq] at hm
      obtain ⟨⟨⟨⟨rfl, hn⟩, h2⟩, h3⟩, rfl⟩ := hm
      split at h2
      · rename_i td htd
        have hs := hr.slots a' hn
        simp only [RV.sv] at hg
        split at hg
        · rename_i cs heq
          rw [heq] at hs
          simp only [RepS, Rep] at hs
          obtain ⟨b, o, hv, hm', hlt, hat⟩ := hs
          split at hg
          · rename_i hle
            simp only [Option.some.injEq] at hg; subst hg
            obtain ⟨vs, hl, hone, hcell⟩ := hat.values
            have hlen := hl.length
            have := run_loadVarA (P := P) (w := w) (b := b) (o := o) (vs := vs.take (P.cellsOf t)) htd h2 h3 (by simp; omega) (fun j v hj => hcell j v (by
              rw [List.getElem?_take] at hj; split at hj
              · exact hj
              · cases hj))
            refine ⟨.agg (vs.take (P.cellsOf t)).toArray, by simp [hv, asAddr, this], ?_⟩
            simp only [RepS, Rep]
            exact ⟨_, rfl, fun z hz => hone z (List.mem_of_mem_take hz), hl.take _⟩
          · cases hg
        · rename_i id off heq
          rw [heq] at hs
          simp only [RepS] at hs
          obtain ⟨b, hkb, hv⟩ := hs
          split at hg
          · rename_i cs hbox
            split at hg
            · rename_i hoff
              obtain ⟨rfl, hsz, hno⟩ := hoff
              simp only [Option.some.injEq] at hg; subst hg
              have hch := hr.chunks id
              rw [hbox] at hch
              obtain ⟨b', T, vs, G, hk', hheap, h1', hl, hφ⟩ := hch
              rw [hkb] at hk'; simp at hk'; subst hk'
              have hlen := hl.length
              have := run_loadVarA (P := P) (w := w) (b := b) (o := 0) (vs := vs) htd h2 h3 (by omega) (fun j v hj => by rw [Nat.zero_add, cell_of_row w b j _ T _ hheap]; simpa using hj)
              refine ⟨.agg vs.toArray, by simp [hv, asAddr, this], ?_⟩
              simp only [RepS]
              exact ⟨_, rfl, h1', (RepGL.to_S _ _ _ hno hl).1⟩
            · cases hg
          · cases hg
        · cases hg
      · cases h2

theorem rvs_sv (hr : Ref c σ κ φ a w) : ∀ {rs : List ResultVar} {qs : List RV}, matchRVs P c.N rs qs = true → ∀ {xs : List SV}, svL σ qs = some xs →
    ∃ vs : List Value, (rs.mapM fun r => (match r with | .tmp t => pure (a.tmps.getD t undef) | .cell a' t => do loadVar t (← asAddr (a.tmps.getD a' undef)) : Sem Value)).run P w = .ok vs w ∧ RepSL w (own c φ) κ xs vs
  | [], [], _, xs, h => by
    simp only [svL, Option.some.injEq] at h; subst h
    exact ⟨[], by simp, by unfold RepSL; rfl⟩
  | r :: rs, q :: qs, hm, xs, h => by
    simp only [matchRVs, Bool.and_eq_true] at hm
    simp only [svL] at h
    split at h
    · rename_i y ys hx hxs
      simp only [Option.some.injEq] at h; subst h
      obtain ⟨v, hv, hrep⟩ := rv_sv hr hm.1 hx
      obtain ⟨vs, hvs, hreps⟩ := rvs_sv hr hm.2 hxs
      refine ⟨v :: vs, ?_, by unfold RepSL; exact ⟨v, vs, rfl, hrep, hreps⟩⟩
      simp only [List.mapM_cons, Sem.run_bind, Sem.run_pure]
      rw [hv]
      simp only [Result.andThen_ok, hvs]
    · cases h
  | [], _ :: _, hm, _, _ => by simp [matchRVs] at hm
  | _ :: _, [], hm, _, _ => by simp [matchRVs] at hm

theorem results_run {fn : Func} {vs : List Value} (hvs : (fn.results.toList.mapM fun r => (match r with | .tmp t => pure (a.tmps.getD t undef) | .cell a' t => do loadVar t (← asAddr (a.tmps.getD a' undef)) : Sem Value)).run P w = .ok vs w) :
    (results fn a.tmps).run P w = .ok (if h : vs.toArray.size = 1 then vs.toArray[0] else .tuple vs.toArray) w := by
  have hmap : ∀ g : ResultVar → Sem Value, (fn.results.mapM g).run P w = ((fn.results.toList.mapM g).run P w).andThen fun l w' => .ok l.toArray w' := fun g => by
    rw [Array.mapM_eq_mapM_toList]
    simp
  unfold results
  simp only [Sem.run_bind]
  rw [hmap]
  exact congrArg (fun r : Result (List Value) => (r.andThen fun l w' => Result.ok l.toArray w').andThen fun (a : Array Value) w' => Sem.run P (pure (if h : a.size = 1 then a[0] else Value.tuple a)) w') hvs
end

/-- The results together. -/
def resSV : List SV → SV
  | [x] => x
  | l => .tup l

def iniV (i : Nat) : SV → SV
  | .own m v => match openCh m v with | some (_, mk) => mk i | none => .d .any
  | x => x
def iniC : SV → Ch
  | .own m v => match openCh m v with | some (ch, _) => ch | none => .dead
  | _ => .dead
/-- The slots at the beginning: the arguments, and once more behind all slots. -/
def iniS (N : Nat) (args : List SV) : Nat → SV := fun j => if j < N then (match args[j]? with | some x => iniV j x | none => .d .any) else match args[j - N]? with | some x => iniV (j - N) x | none => .d .any
def iniH (args : List SV) : Nat → Ch := fun i => match args[i]? with | some x => iniC x | none => .dead
def ghosts (N : Nat) (σ : St) : Nat → List SV
  | 0 => []
  | n + 1 => ghosts N σ n ++ [σ.s (N + n)]

/-- The arguments of such a contract. -/
def argOk : SV → Bool
  | .own m v => (openCh m v).isSome
  | x => x.noOwn && x.closed

def endF (N n : Nat) (qs : List RV) (res : SV) (outs : List SV) : AX → St → Prop
  | .exit _, _ => False
  | _, σ => ∃ σ', Imp σ σ' ∧ ∃ xs rs ids, svL σ' qs = some xs ∧ res = resSV rs ∧ rs.length = xs.length ∧ ROkL σ'.h (ghosts N σ' n ++ xs) (outs ++ rs) ids

section
variable {P : Program}

theorem ghosts_rep {c : Cx} {σ : St} {κ : Nat → Value} {φ : Nat → List Nat} {a : Act} {w : World} (hr : Ref c σ κ φ a w) : ∀ n, n ≤ c.gs.length → RepSL w (own c φ) κ (ghosts c.N σ n) (c.gs.take n)
  | 0, _ => by simp [ghosts, RepSL]
  | n + 1, h => by
    have hn : c.gs[n]? = some c.gs[n] := List.getElem?_eq_getElem (by omega)
    rw [List.take_add_one, hn]
    exact (ghosts_rep hr n (by omega)).append (RepSL.one (hr.ghost n _ hn))
/-- The footprints of the arguments, one by one. -/
theorem split_args {w : World} {M : Nat → Prop} : ∀ {args : List SV} {vs : List Value} {F : List Nat}, RepGL w M κ0 args vs F → ∃ Fs : List (List Nat), Fs.flatten = F ∧ Fs.length = args.length ∧ ∀ (i : Nat) x v G, args[i]? = some x → vs[i]? = some v → Fs[i]? = some G → RepG w M κ0 x v G
  | [], vs, F, h => by simp only [RepGL] at h; exact ⟨[], by simp [h], rfl, by simp⟩
  | x :: args, vs, F, h => by
    simp only [RepGL] at h
    obtain ⟨u, us, F1, F2, rfl, rfl, h1, h2⟩ := h
    obtain ⟨Fs, k1, k2, k3⟩ := split_args h2
    refine ⟨F1 :: Fs, by simp [k1], by simp [k2], fun i x' v G hx hv hG => ?_⟩
    cases i with
    | zero => simp at hx hv hG; subst hx hv hG; exact h1
    | succ i => exact k3 i x' v G (by simpa using hx) (by simpa using hv) (by simpa using hG)

theorem flatten_sep {Fs : List (List Nat)} (h : Fs.flatten.Nodup) : (∀ G ∈ Fs, G.Nodup) ∧ ∀ (i j : Nat) G H b, i ≠ j → Fs[i]? = some G → Fs[j]? = some H → b ∈ G → b ∉ H := by
  induction Fs with
  | nil => simp
  | cons F Fs ih =>
    simp only [List.flatten_cons] at h
    obtain ⟨n1, n2, n3⟩ := List.nodup_append.1 h
    obtain ⟨k1, k2⟩ := ih n2
    refine ⟨by simpa using ⟨n1, k1⟩, fun i j G H b hij hi hj hb hbH => ?_⟩
    have mem : ∀ (k : Nat) G, Fs[k]? = some G → ∀ b ∈ G, b ∈ Fs.flatten := fun k G hk b hb => List.mem_flatten.2 ⟨G, List.mem_of_getElem? hk, hb⟩
    cases i with
    | zero =>
      cases j with
      | zero => exact hij rfl
      | succ j => simp at hi hj; subst hi; exact n3 b hb b (mem j H hj b hbH) rfl
    | succ i =>
      cases j with
      | zero => simp at hi hj; subst hj; exact n3 b hbH b (mem i G hi b hb) rfl
      | succ j => exact k2 i j G H b (by omega) (by simpa using hi) (by simpa using hj) hb hbH

/-- THE CONTRACT out of the walk of the body. -/
theorem fspec_walk {f : FuncId} {fn : Func} {x : SC} {qs : List RV} {args outs : List SV} {res : SV} (hf : P.funcs[f]? = some fn) (hfit : fits P f fn x qs args.length = true) (hok : args.all argOk = true) (hol : outs.length = args.length)
    (h : AW P x (endF fn.ntmps args.length qs res outs) ⟨iniS fn.ntmps args, iniH args⟩) : FSpec P f args res outs := by
  obtain ⟨hmix, hcal, ⟨code, hb, hm1⟩, hm2, hm3⟩ := fits_spec hfit
  refine ⟨hcal, fun w M vs F hM hF hnod hrep hgood hfree => ?_⟩
  have hlen := hrep.length
  obtain ⟨Fs, hFs, hFl, hFr⟩ := split_args hrep
  obtain ⟨hFn, hFd⟩ := flatten_sep (by rw [hFs]; exact hnod)
  refine calls_of_wp hf hb ?_
  let c : Cx := ⟨w.heap.size, w, M, (· ∈ F), fn.ntmps, vs, hgood, hfree, Nat.le_refl _⟩
  let κ : Nat → Value := fun i => match args[i]? with | some (.own _ _) => vs[i]?.getD (.pointer none) | _ => .pointer none
  let φ : Nat → List Nat := fun i => Fs[i]?.getD []
  have hφF : ∀ i b, b ∈ φ i → b ∈ F := fun i b hb => by
    simp only [φ] at hb
    cases hi : Fs[i]? with
    | none => simp [hi] at hb
    | some G => simp [hi] at hb; rw [← hFs]; exact List.mem_flatten.2 ⟨G, List.mem_of_getElem? hi, hb⟩
  have hown : ∀ b, own c φ b ↔ (M b ∨ b ∈ F) := fun b => by
    constructor
    · rintro (h | ⟨i, h⟩)
      · exact .inl h
      · exact .inr (hφF i b h)
    · rintro (h | h)
      · exact .inl h
      · rw [← hFs] at h
        obtain ⟨G, hG, hbG⟩ := List.mem_flatten.1 h
        obtain ⟨i, hi, rfl⟩ := List.getElem_of_mem hG
        exact .inr ⟨i, by simp only [φ, List.getElem?_eq_getElem hi]; exact hbG⟩
  have hown' : own c φ = fun b => M b ∨ b ∈ F := funext fun b => propext (hown b)
  -- each argument
  have harg : ∀ i x, args[i]? = some x → ∃ v, vs[i]? = some v ∧ RepS w (own c φ) κ (iniV i x) v ∧ RepC w (own c φ) κ i (iniC x) (φ i) ∧ (κ i).oneCell' = true := fun i x hx => by
    have hi : i < args.length := (List.getElem?_eq_some_iff.1 hx).1
    have hv : vs[i]? = some vs[i] := List.getElem?_eq_getElem (by omega)
    have hG : Fs[i]? = some Fs[i] := List.getElem?_eq_getElem (by omega)
    have hr := hFr i x _ _ hx hv hG
    have hφi : φ i = Fs[i] := by simp only [φ, hG, Option.getD_some]
    have hok' := List.all_eq_true.1 hok x (List.mem_of_getElem? hx)
    refine ⟨_, hv, ?_⟩
    rw [hown', hφi]
    have plain : (∀ m d, x ≠ .own m d) → RepS w (fun b => M b ∨ b ∈ F) κ (iniV i x) vs[i] ∧ RepC w (fun b => M b ∨ b ∈ F) κ i (iniC x) Fs[i] ∧ (κ i).oneCell' = true := fun hne => by
      have hno : x.noOwn = true ∧ x.closed = true := by
        cases x <;> simp_all [argOk]
      obtain ⟨h1, h2⟩ := RepG.to_S _ _ _ hno.1 hr
      have e1 : iniV i x = x := by cases x <;> simp_all [iniV]
      have e2 : iniC x = .dead := by cases x <;> simp_all [iniC]
      rw [e1, e2]
      refine ⟨h1.kappa _ _ hno.2, h2, ?_⟩
      simp only [κ, hx]
      cases x <;> first | rfl | simp_all
    cases x with
    | own m d =>
      simp only [argOk] at hok'
      obtain ⟨⟨ch, mk⟩, ho⟩ := Option.isSome_iff_exists.1 hok'
      simp only [RepG] at hr
      obtain ⟨hone, hmk⟩ := open_one hr ho
      have hκ : κ i = vs[i] := by simp only [κ, hx, hv, Option.getD_some]
      simp only [iniV, iniC, ho]
      exact ⟨hmk κ i hκ, (open_iff hr.shape ho hκ).2 hr, by rw [hκ]; exact hone⟩
    | _ => exact plain (by simp)
  have hr : Ref c ⟨iniS fn.ntmps args, iniH args⟩ κ φ { tmps := vs.toArray ++ Array.replicate (fn.ntmps - vs.toArray.size) undef, defers := [] } w := by
    refine ⟨Chg.refl _ _ _, Nat.le_refl _, fun b hb => ⟨(hM b hb).1, (hM b hb).2⟩, ?_, rfl, fun i => ?_, fun i hi => ?_, fun i v hv => ?_, fun i => ?_, fun i b hb => ⟨hF b (hφF i b hb), .inr (hφF i b hb)⟩, fun i => ?_, fun i j b hij hi hj => ?_⟩
    · show _ = fn.ntmps
      simp; omega
    · cases hx : args[i]? with
      | none => simp only [κ, hx]; rfl
      | some x => obtain ⟨_, _, _, _, h4⟩ := harg i x hx; exact h4
    · simp only [iniS]
      have hi' : i < fn.ntmps := hi
      simp only [hi', if_true]
      cases hx : args[i]? with
      | none => simp [RepS, Rep]
      | some x =>
        obtain ⟨v, hv, h2, _⟩ := harg i x hx
        have hi' : i < vs.length := (List.getElem?_eq_some_iff.1 hv).1
        rw [Array.getD_eq_getD_getElem?, Array.getElem?_append_left (by simpa using hi')]
        simpa [hv] using h2
    · show RepS w (own c φ) κ (iniS fn.ntmps args (fn.ntmps + i)) v
      have e : ¬ (fn.ntmps + i < fn.ntmps) := by omega
      simp only [iniS, e, if_false, Nat.add_sub_cancel_left]
      cases hx : args[i]? with
      | none => simp [RepS, Rep]
      | some x =>
        obtain ⟨v', hv', h2, _⟩ := harg i x hx
        have : vs[i]? = some v := hv
        rw [this] at hv'; simp at hv'; subst hv'; exact h2
    · show RepC w (own c φ) κ i (iniH args i) (φ i)
      simp only [iniH]
      cases hx : args[i]? with
      | none =>
        have : Fs[i]? = none := by rw [List.getElem?_eq_none_iff, hFl]; exact List.getElem?_eq_none_iff.1 hx
        simp only [RepC, φ, this, Option.getD_none]
      | some x => obtain ⟨_, _, _, h3, _⟩ := harg i x hx; exact h3
    · simp only [φ]
      cases hi : Fs[i]? with
      | none => simp
      | some G => simp; exact hFn G (List.mem_of_getElem? hi)
    · simp only [φ] at hi hj
      cases hFi : Fs[i]? with
      | none => simp [hFi] at hi
      | some G =>
        cases hFj : Fs[j]? with
        | none => simp [hFj] at hj
        | some H =>
          simp [hFi] at hi; simp [hFj] at hj
          exact hFd i j G H b hij hFi hFj hi hj
  have fin : ∀ σ κ φ a w', Ref c σ κ φ a w' → (∃ σ', Imp σ σ' ∧ ∃ xs rs ids, svL σ' qs = some xs ∧ res = resSV rs ∧ rs.length = xs.length ∧ ROkL σ'.h (ghosts fn.ntmps σ' args.length ++ xs) (outs ++ rs) ids) →
      a.defers = [] ∧ ∃ v, (results fn a.tmps).run P w' = .ok v w' ∧ (∃ v' F1 F2, Ending.returned v = .returned v' ∧ RepGL w' (fun b => M b ∨ b ∈ F1 ++ F2) κ0 outs vs F1 ∧ RepG w' (fun b => M b ∨ b ∈ F1 ++ F2) κ0 res v' F2 ∧ (F1 ++ F2).Nodup ∧
      (∀ b ∈ F1 ++ F2, (b ∈ F ∨ w.heap.size ≤ b) ∧ b < w'.heap.size) ∧ Chg w.heap.size (· ∈ F) w w') := by
    rintro σ κ φ a w' hr' ⟨σ', himp, xs, rs, ids, hsv, rfl, hrl, hrok⟩
    obtain ⟨κ', φ', hr'⟩ := himp _ _ _ _ _ hr'
    obtain ⟨us, hus, hxs⟩ := rvs_sv hr' hm2 hsv
    have hgh := ghosts_rep hr' args.length (by show args.length ≤ vs.length; omega)
    rw [show c.gs.take args.length = vs from List.take_of_length_le (by show vs.length ≤ args.length; omega)] at hgh
    obtain ⟨F', k1, k2, k3⟩ := rok_rep hr' hrok (hgh.append hxs)
    have hMF : ∀ b, (M b ∨ b ∈ F') → own c φ' b := fun b hb => by
      rcases hb with hb | hb
      · exact .inl hb
      · obtain ⟨i, _, hi⟩ := k2 b hb; exact .inr ⟨i, hi⟩
    obtain ⟨F1, F2, hF12, k4, k5⟩ := (k1 (fun b => M b ∨ b ∈ F') hMF).split
    rw [hol] at k4 k5
    rw [show args.length = vs.length by omega, List.take_left] at k4
    rw [show args.length = vs.length by omega, List.drop_left] at k5
    subst hF12
    refine ⟨hr'.defers, _, results_run hus, _, F1, F2, rfl, k4, ?_, k3, fun b hb => ?_, hr'.chg⟩
    · have hul := hxs.length
      match rs, hrl, k5 with
      | [r], hrl, k5 =>
        have : us.length = 1 := by simp at hrl; omega
        match us, this, k5 with
        | [u], _, k5 =>
          simp only [RepGL, List.cons.injEq] at k5
          obtain ⟨_, _, G1, G2, ⟨rfl, rfl⟩, hG, g1, _, rfl⟩ := k5
          rw [List.append_nil] at hG
          subst hG
          simpa [resSV] using g1
      | [], hrl, k5 =>
        have : us = [] := List.length_eq_zero_iff.1 (by simp at hrl; omega)
        subst this
        simp only [resSV, RepG]
        exact ⟨[], by simp, k5⟩
      | r :: r' :: rs, hrl, k5 =>
        simp only [resSV, RepG]
        refine ⟨us, ?_, k5⟩
        simp only [List.length_cons] at hrl
        rw [dif_neg (by simp; omega)]
    · obtain ⟨i, _, hi⟩ := k2 b hb
      have := hr'.mine i b hi
      exact ⟨this.2.symm, this.1⟩
  exact h hmix c code _ hm1 ⟨fun σ κ φ a w' hr' hq => fin σ κ φ a w' hr' hq, fun i σ κ φ a w' hr' hq => hq.elim, fun σ κ φ a w' hr' hq => fin σ κ φ a w' hr' hq⟩ _ _ _ _ hr
end

/-! the owned result as data -/
mutual
def SV.thaw : SV → Option DV
  | .own m v => if m.plain then some v else none
  | .agg cs => match SV.thaws cs with | some l => some (.agg l) | none => none
  | .tup cs => match SV.thaws cs with | some l => some (.tup l) | none => none
  | .d v => some v
  | .nils => some (.slice [])
  | .lit s n cs => SV.toDV (.lit s n cs)
  | .ref _ _ => none
  | .vec _ => none
  | .vref _ _ _ _ => none
  | .mp _ => none
def SV.thaws : List SV → Option (List DV)
  | [] => some []
  | c :: cs => match SV.thaw c, SV.thaws cs with | some x, some xs => some (x :: xs) | _, _ => none
end
mutual
theorem thaw_rep {w : World} {M M' : Nat → Prop} {κ : Nat → Value} (hM : ∀ b, M' b → M b) : ∀ (x : SV) (u : Value) (F : List Nat) (d : DV), (∀ b ∈ F, ¬ M' b) → RepG w M κ x u F → x.thaw = some d → Rep w M' d u
  | .own m v, u, F, d, hF, hr, h => frz_rep hM hF hr (by simpa only [SV.thaw, SV.frz] using h)
  | .d v, u, F, d, hF, hr, h => frz_rep hM hF hr (by simpa only [SV.thaw, SV.frz] using h)
  | .nils, u, F, d, hF, hr, h => frz_rep hM hF hr (by simpa only [SV.thaw, SV.frz] using h)
  | .lit s n cs, u, F, d, hF, hr, h => frz_rep hM hF hr (by simpa only [SV.thaw, SV.frz] using h)
  | .agg cs, u, F, d, hF, hr, h => by
    simp only [SV.thaw] at h
    split at h
    · rename_i l hl
      simp only [Option.some.injEq] at h; subst h
      simp only [RepG] at hr
      obtain ⟨vs, h1, h2, h3⟩ := hr
      unfold Rep
      exact ⟨vs, h1, h2, thaws_rep hM cs vs F l hF h3 hl⟩
    · cases h
  | .tup cs, u, F, d, hF, hr, h => by
    simp only [SV.thaw] at h
    split at h
    · rename_i l hl
      simp only [Option.some.injEq] at h; subst h
      simp only [RepG] at hr
      obtain ⟨vs, h1, h3⟩ := hr
      unfold Rep
      exact ⟨vs, h1, thaws_rep hM cs vs F l hF h3 hl⟩
    · cases h
  | .ref _ _, _, _, _, _, _, h => by simp [SV.thaw] at h
  | .vec _, _, _, _, _, _, h => by simp [SV.thaw] at h
  | .vref _ _ _ _, _, _, _, _, _, h => by simp [SV.thaw] at h
  | .mp _, _, _, _, _, _, h => by simp [SV.thaw] at h
theorem thaws_rep {w : World} {M M' : Nat → Prop} {κ : Nat → Value} (hM : ∀ b, M' b → M b) : ∀ (cs : List SV) (us : List Value) (F : List Nat) (ds : List DV), (∀ b ∈ F, ¬ M' b) → RepGL w M κ cs us F → SV.thaws cs = some ds → RepL w M' ds us
  | [], us, F, ds, hF, hr, h => by
    simp only [SV.thaws, Option.some.injEq] at h; subst h
    simp only [RepGL] at hr; unfold RepL; exact hr.1
  | c :: cs, us, F, ds, hF, hr, h => by
    simp only [SV.thaws] at h
    split at h
    · rename_i x xs hx hxs
      simp only [Option.some.injEq] at h; subst h
      simp only [RepGL] at hr
      obtain ⟨u, us', F1, F2, rfl, rfl, h1, h2⟩ := hr
      unfold RepL
      exact ⟨u, us', rfl, thaw_rep hM c u F1 x (fun b hb => hF b (by simp [hb])) h1 hx, thaws_rep hM cs us' F2 xs (fun b hb => hF b (by simp [hb])) h2 hxs⟩
    · cases h
end

theorem FSpec.pure {P : Program} {f : FuncId} {args : List DV} {res : SV} {outs : List SV} {d : DV} (h : FSpec P f (args.map .d) res outs) (hd : res.thaw = some d) : PureSpec P f args d := by
  refine ⟨h.1, fun w M vs hM hrep hgood => ?_⟩
  have hin : RepGL w (fun b => M b ∨ b ∈ ([] : List Nat)) κ0 (args.map .d) vs [] := RepGL.of_S _ _ (RepSL.of_d (hrep.ext (Ext.shrink fun b hb => by simpa using hb)))
  refine (h.2 w M vs [] (fun b hb => ⟨hM b hb, by simp⟩) (by simp) (by simp) hin hgood (fun _ _ h => by cases h)).mono ?_
  rintro e w' ⟨v, F1, F2, rfl, _, h2, _, h4, h5⟩
  refine ⟨v, rfl, thaw_rep (fun b hb => .inl hb) res v F2 d (fun b hb hm => ?_) h2 hd, h5.below (by simp)⟩
  have := (h4 b (by simp [hb])).1
  have := hM b hm
  simp at *
  omega

end Go.Proofs.YtcnohbiegjahkaaGreatDoor

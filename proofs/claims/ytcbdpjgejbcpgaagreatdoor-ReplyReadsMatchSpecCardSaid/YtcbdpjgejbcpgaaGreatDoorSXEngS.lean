/-
  The engine, part S: the contract of a function to which owned values are handed.
-/
import Derived.Test.YtcbdpjgejbcpgaaGreatDoorSXEngL
namespace Go.Proofs.YtcbdpjgejbcpgaaGreatDoor
set_option linter.unusedSimpArgs false
set_option linter.unusedVariables false
open Go.RowKit

/-- What stands at the end, and what the contract says of it; the chunks that are handed back. -/
inductive ROkL (h : Nat → Ch) : List SV → List SV → List Nat → Prop
  | nil : ROkL h [] [] []
  | any {x : SV} {xs rs : List SV} {ids : List Nat} (hl : ROkL h xs rs ids) : ROkL h (x :: xs) (.d .any :: rs) ids
  | data {x : SV} {d : DV} {xs rs : List SV} {ids : List Nat} (hx : x.toDV = some d) (hl : ROkL h xs rs ids) : ROkL h (x :: xs) (.d d :: rs) ids
  | nils {e : Nat} {ms : List Mask} {xs rs : List SV} {ids : List Nat} (hl : ROkL h xs rs ids) : ROkL h (.nils :: xs) (.own (.sl e ms) (.slice []) :: rs) ids
  | own {id : Nat} {m : Mask} {d : DV} {ch : Ch} {mk : Nat → SV} {xs rs : List SV} {ids : List Nat} (ho : openCh m d = some (ch, mk)) (hs : shapeOk m d) (hh : h id = ch) (hn : id ∉ ids) (hl : ROkL h xs rs ids) : ROkL h (mk id :: xs) (.own m d :: rs) (id :: ids)
  | agg {cs rs1 xs rs : List SV} {ids1 ids : List Nat} (hc : ROkL h cs rs1 ids1) (hn : ∀ i ∈ ids1, i ∉ ids) (hl : ROkL h xs rs ids) : ROkL h (.agg cs :: xs) (.agg rs1 :: rs) (ids1 ++ ids)

section
variable {P : Program} {c : Cx} {σ : St} {κ : Nat → Value} {φ : Nat → List Nat} {a : Act} {w : World}

/-- A result as it stands at the end. -/
def RV.sv (σ : St) : RV → Option SV
  | .t n => some (σ.s n)
  | .cell n sz => match σ.s n with
    | .d (.ptr cs) => if sz ≤ cs.length then some (.d (.agg (cs.take sz))) else none
    | .ref id off => match σ.h id with
      | .box cs => if off = 0 ∧ sz = cs.length ∧ SV.noOwns cs = true then some (.agg cs) else none
      | _ => none
    | _ => none
def svL (σ : St) : List RV → Option (List SV)
  | [] => some []
  | r :: rs => match r.sv σ, svL σ rs with | some x, some xs => some (x :: xs) | _, _ => none

theorem rv_sv (hr : Ref c σ κ φ a w) {r : ResultVar} {q : RV} (hm : matchRV P c.N r q = true) {x : SV} (hg : q.sv σ = some x) :
    ∃ v, (match r with | .tmp t => pure (a.tmps.getD t undef) | .cell a' t => do loadVar t (← asAddr (a.tmps.getD a' undef)) : Sem Value).run P w = .ok v w ∧ RepS w (own c φ) κ x v := by
  cases r with
  | tmp t =>
    cases q with
    | t n =>
      simp only [matchRV, Bool.and_eq_true, beq_iff_eq, decide_eq_true_eq] at hm
      obtain ⟨rfl, hn⟩ := hm
      simp only [RV.sv, Option.some.injEq] at hg
      subst hg
      exact ⟨_, rfl, hr.slots t hn⟩
    | cell _ _ => simp [matchRV] at hm
  | cell a' t =>
    cases q with
    | t n => simp [matchRV] at hm
    | cell n sz =>
      simp only [matchRV, Bool.and_eq_true, beq_iff_eq, decide_eq_true_eq] at hm
      obtain ⟨⟨⟨⟨rfl, hn⟩, h2⟩, h3⟩, rfl⟩ := hm
      split at h2
      · rename_i td htd
        have hs := hr.slots a' hn
        simp only [RV.sv] at hg
        split at hg
        · rename_i cs heq
          rw [heq] at hs
          simp only [RepS, Rep] at hs
          obtain ⟨b, o, hv, hm', hlt, hat⟩ := hs
          split at hg
          · rename_i hle
            simp only [Option.some.injEq] at hg; subst hg
            obtain ⟨vs, hl, hone, hcell⟩ := hat.values
            have hlen := hl.length
            have := run_loadVarA (P := P) (w := w) (b := b) (o := o) (vs := vs.take (P.cellsOf t)) htd h2 h3 (by simp; omega) (fun j v hj => hcell j v (by
              rw [List.getElem?_take] at hj; split at hj
              · exact hj
              · cases hj))
            refine ⟨.agg (vs.take (P.cellsOf t)).toArray, by simp [hv, asAddr, this], ?_⟩
            simp only [RepS, Rep]
            exact ⟨_, rfl, fun z hz => hone z (List.mem_of_mem_take hz), hl.take _⟩
          · cases hg
        · rename_i id off heq
          rw [heq] at hs
          simp only [RepS] at hs
          obtain ⟨b, hkb, hv⟩ := hs
          split at hg
          · rename_i cs hbox
            split at hg
            · rename_i hoff
              obtain ⟨rfl, hsz, hno⟩ := hoff
              simp only [Option.some.injEq] at hg; subst hg
              have hch := hr.chunks id
              rw [hbox] at hch
              obtain ⟨b', T, vs, G, hk', hheap, h1', hl, hφ⟩ := hch
              rw [hkb] at hk'; simp at hk'; subst hk'
              have hlen := hl.length
              have := run_loadVarA (P := P) (w := w) (b := b) (o := 0) (vs := vs) htd h2 h3 (by omega) (fun j v hj => by rw [Nat.zero_add, cell_of_row w b j _ T _ hheap]; simpa using hj)
              refine ⟨.agg vs.toArray, by simp [hv, asAddr, this], ?_⟩
              simp only [RepS]
              exact ⟨_, rfl, h1', (RepGL.to_S _ _ _ hno hl).1⟩
            · cases hg
          · cases hg
        · cases hg
      · cases h2

theorem rvs_sv (hr : Ref c σ κ φ a w) : ∀ {rs : List ResultVar} {qs : List RV}, matchRVs P c.N rs qs = true → ∀ {xs : List SV}, svL σ qs = some xs →
    ∃ vs : List Value, (rs.mapM fun r => (match r with | .tmp t => pure (a.tmps.getD t undef) | .cell a' t => do loadVar t (← asAddr (a.tmps.getD a' undef)) : Sem Value)).run P w = .ok vs w ∧ RepSL w (own c φ) κ xs vs
  | [], [], _, xs, h => by
    simp only [svL, Option.some.injEq] at h; subst h
    exact ⟨[], by simp, by unfold RepSL; rfl⟩
  | r :: rs, q :: qs, hm, xs, h => by
    simp only [matchRVs, Bool.and_eq_true] at hm
    simp only [svL] at h
    split at h
    · rename_i y ys hx hxs
      simp only [Option.some.injEq] at h; subst h
      obtain ⟨v, hv, hrep⟩ := rv_sv hr hm.1 hx
      obtain ⟨vs, hvs, hreps⟩ := rvs_sv hr hm.2 hxs
      refine ⟨v :: vs, ?_, by unfold RepSL; exact ⟨v, vs, rfl, hrep, hreps⟩⟩
      simp only [List.mapM_cons, Sem.run_bind, Sem.run_pure]
      rw [hv]
      simp only [Result.andThen_ok, hvs]
    · cases h
  | [], _ :: _, hm, _, _ => by simp [matchRVs] at hm
  | _ :: _, [], hm, _, _ => by simp [matchRVs] at hm

theorem results_run {fn : Func} {vs : List Value} (hvs : (fn.results.toList.mapM fun r => (match r with | .tmp t => pure (a.tmps.getD t undef) | .cell a' t => do loadVar t (← asAddr (a.tmps.getD a' undef)) : Sem Value)).run P w = .ok vs w) :
    (results fn a.tmps).run P w = .ok (if h : vs.toArray.size = 1 then vs.toArray[0] else .tuple vs.toArray) w := by
  have hmap : ∀ g : ResultVar → Sem Value, (fn.results.mapM g).run P w = ((fn.results.toList.mapM g).run P w).andThen fun l w' => .ok l.toArray w' := fun g => by
    rw [Array.mapM_eq_mapM_toList]
    simp
  unfold results
  simp only [Sem.run_bind]
  rw [hmap]
  exact congrArg (fun r : Result (List Value) => (r.andThen fun l w' => Result.ok l.toArray w').andThen fun (a : Array Value) w' => Sem.run P (pure (if h : a.size = 1 then a[0] else Value.tuple a)) w') hvs
end

/-- The results together. -/
def resSV : List SV → SV
  | [x] => x
  | l => .tup l

def ghosts (N : Nat) (σ : St) : Nat → List SV
  | 0 => []
  | n + 1 => ghosts N σ n ++ [σ.s (N + n)]

section
variable {P : Program}

end

/-! the owned result as data -/
mutual
def SV.thaw : SV → Option DV
  | .own m v => if m.plain then some v else none
  | .agg cs => match SV.thaws cs with | some l => some (.agg l) | none => none
  | .tup cs => match SV.thaws cs with | some l => some (.tup l) | none => none
  | .d v => some v
  | .nils => some (.slice [])
  | .lit s n cs => SV.toDV (.lit s n cs)
  | .ref _ _ => none
  | .vec _ => none
  | .vref _ _ _ _ => none
  | .mp _ => none
def SV.thaws : List SV → Option (List DV)
  | [] => some []
  | c :: cs => match SV.thaw c, SV.thaws cs with | some x, some xs => some (x :: xs) | _, _ => none
end
mutual
theorem thaw_rep {w : World} {M M' : Nat → Prop} {κ : Nat → Value} (hM : ∀ b, M' b → M b) : ∀ (x : SV) (u : Value) (F : List Nat) (d : DV), (∀ b ∈ F, ¬ M' b) → RepG w M κ x u F → x.thaw = some d → Rep w M' d u
  | .own m v, u, F, d, hF, hr, h => frz_rep hM hF hr (by simpa only [SV.thaw, SV.frz] using h)
  | .d v, u, F, d, hF, hr, h => frz_rep hM hF hr (by simpa only [SV.thaw, SV.frz] using h)
  | .nils, u, F, d, hF, hr, h => frz_rep hM hF hr (by simpa only [SV.thaw, SV.frz] using h)
  | .lit s n cs, u, F, d, hF, hr, h => frz_rep hM hF hr (by simpa only [SV.thaw, SV.frz] using h)
  | .agg cs, u, F, d, hF, hr, h => by
    simp only [SV.thaw] at h
    split at h
    · rename_i l hl
      simp only [Option.some.injEq] at h; subst h
      simp only [RepG] at hr
      obtain ⟨vs, h1, h2, h3⟩ := hr
      unfold Rep
      exact ⟨vs, h1, h2, thaws_rep hM cs vs F l hF h3 hl⟩
    · cases h
  | .tup cs, u, F, d, hF, hr, h => by
    simp only [SV.thaw] at h
    split at h
    · rename_i l hl
      simp only [Option.some.injEq] at h; subst h
      simp only [RepG] at hr
      obtain ⟨vs, h1, h3⟩ := hr
      unfold Rep
      exact ⟨vs, h1, thaws_rep hM cs vs F l hF h3 hl⟩
    · cases h
  | .ref _ _, _, _, _, _, _, h => by simp [SV.thaw] at h
  | .vec _, _, _, _, _, _, h => by simp [SV.thaw] at h
  | .vref _ _ _ _, _, _, _, _, _, h => by simp [SV.thaw] at h
  | .mp _, _, _, _, _, _, h => by simp [SV.thaw] at h
theorem thaws_rep {w : World} {M M' : Nat → Prop} {κ : Nat → Value} (hM : ∀ b, M' b → M b) : ∀ (cs : List SV) (us : List Value) (F : List Nat) (ds : List DV), (∀ b ∈ F, ¬ M' b) → RepGL w M κ cs us F → SV.thaws cs = some ds → RepL w M' ds us
  | [], us, F, ds, hF, hr, h => by
    simp only [SV.thaws, Option.some.injEq] at h; subst h
    simp only [RepGL] at hr; unfold RepL; exact hr.1
  | c :: cs, us, F, ds, hF, hr, h => by
    simp only [SV.thaws] at h
    split at h
    · rename_i x xs hx hxs
      simp only [Option.some.injEq] at h; subst h
      simp only [RepGL] at hr
      obtain ⟨u, us', F1, F2, rfl, rfl, h1, h2⟩ := hr
      unfold RepL
      exact ⟨u, us', rfl, thaw_rep hM c u F1 x (fun b hb => hF b (by simp [hb])) h1 hx, thaws_rep hM cs us' F2 xs (fun b hb => hF b (by simp [hb])) h2 hxs⟩
    · cases h
end

theorem FSpec.pure {P : Program} {f : FuncId} {args : List DV} {res : SV} {outs : List SV} {d : DV} (h : FSpec P f (args.map .d) res outs) (hd : res.thaw = some d) : PureSpec P f args d := by
  refine ⟨h.1, fun w M vs hM hrep hgood => ?_⟩
  have hin : RepGL w (fun b => M b ∨ b ∈ ([] : List Nat)) κ0 (args.map .d) vs [] := RepGL.of_S _ _ (RepSL.of_d (hrep.ext (Ext.shrink fun b hb => by simpa using hb)))
  refine (h.2 w M vs [] (fun b hb => ⟨hM b hb, by simp⟩) (by simp) (by simp) hin hgood (fun _ _ h => by cases h)).mono ?_
  rintro e w' ⟨v, F1, F2, rfl, _, h2, _, h4, h5⟩
  refine ⟨v, rfl, thaw_rep (fun b hb => .inl hb) res v F2 d (fun b hb hm => ?_) h2 hd, h5.below (by simp)⟩
  have := (h4 b (by simp [hb])).1
  have := hM b hm
  simp at *
  omega

end Go.Proofs.YtcbdpjgejbcpgaaGreatDoor

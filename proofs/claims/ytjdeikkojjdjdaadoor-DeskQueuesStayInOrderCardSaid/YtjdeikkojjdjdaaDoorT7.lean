import Derived.Test.YtjdeikkojjdjdaaDoorT6
namespace Go.Proofs.YtjdeikkojjdjdaaDoor
set_option linter.unusedSimpArgs false
set_option linter.unusedVariables false
open Go.RowKit

def mx (a b : Int) : Int := if b > a then b else a
def endOf (s : Sent) (b : Int) : Int := mx (mx b s.done) s.gave
/-- When a job is tried first, after those that came before. -/
def beginOf (inOrder : Bool) (lane : List UInt8) : List (Job × Sent) → Int → Int
  | [], b => b
  | q :: l, b => beginOf inOrder lane l (if inOrder && decide (q.1.lane = lane) then endOf q.2 b else b)
def freeOf (lane : List UInt8) : List (Job × Sent) → Int → Int
  | [], b => b
  | q :: l, b => freeOf lane l (if q.1.lane = lane then endOf q.2 b else b)
def boxT (p : Policy) (outs : List Outage) : List (Job × Sent) → List Job → Option (List Sent)
  | prev, [] => some (prev.map (·.2))
  | prev, j :: js =>
    let r := runT outs j.lane (waitsL p) (beginOf p.inOrder j.lane prev j.on) 1
    if 2000000000000000 < r.2 then none else boxT p outs (prev ++ [(j, r.1)]) js
theorem mx_comm3 (a b c : Int) : mx (mx a b) c = mx a (mx b c) := by unfold mx; by_cases h1 : b > a <;> by_cases h2 : c > b <;> by_cases h3 : c > a <;> simp [*] <;> omega
theorem endOf_mx (s : Sent) (a b : Int) : endOf s (mx a b) = mx a (endOf s b) := by simp only [endOf, mx_comm3]
theorem freeOf_mx (lane : List UInt8) : ∀ (l : List (Job × Sent)) (a b : Int), freeOf lane l (mx a b) = mx a (freeOf lane l b)
  | [], _, _ => rfl
  | q :: l, a, b => by
    simp only [freeOf]
    split
    · rw [endOf_mx, freeOf_mx]
    · rw [freeOf_mx]
theorem begin_free (lane : List UInt8) : ∀ (l : List (Job × Sent)) (b : Int), beginOf true lane l b = freeOf lane l b
  | [], _ => rfl
  | q :: l, b => by simp only [beginOf, freeOf, Bool.true_and, decide_eq_true_eq]; exact begin_free lane l _
theorem begin_off (lane : List UInt8) : ∀ (l : List (Job × Sent)) (b : Int), beginOf false lane l b = b
  | [], _ => rfl
  | q :: l, b => by simp only [beginOf, Bool.false_and, Bool.false_eq_true, if_false]; exact begin_off lane l _
theorem free_snoc (lane : List UInt8) : ∀ (l : List (Job × Sent)) (q : Job × Sent) (b : Int), freeOf lane (l ++ [q]) b = if q.1.lane = lane then endOf q.2 (freeOf lane l b) else freeOf lane l b
  | [], q, b => rfl
  | x :: l, q, b => by simp only [List.cons_append, freeOf]; exact free_snoc lane l q _
theorem begin_snoc (io : Bool) (lane : List UInt8) : ∀ (l : List (Job × Sent)) (q : Job × Sent) (b : Int), beginOf io lane (l ++ [q]) b = if (io && decide (q.1.lane = lane)) = true then endOf q.2 (beginOf io lane l b) else beginOf io lane l b
  | [], q, b => rfl
  | x :: l, q, b => by simp only [List.cons_append, beginOf]; exact begin_snoc io lane l q _

structure SentOk (s : Sent) : Prop where
  d0 : -1 ≤ s.done
  d1 : s.done ≤ 2000000000000000
  g0 : -1 ≤ s.gave
  g1 : s.gave ≤ 2000000000000000
theorem mx_le {a b c : Int} (h1 : a ≤ c) (h2 : b ≤ c) : mx a b ≤ c := by unfold mx; split <;> omega
theorem le_mx {a b c : Int} (h1 : c ≤ a) : c ≤ mx a b := by unfold mx; split <;> omega
theorem endOf_bd {s : Sent} {b : Int} (hs : SentOk s) (h1 : 0 ≤ b) (h2 : b ≤ 2000000000000000) : 0 ≤ endOf s b ∧ endOf s b ≤ 2000000000000000 :=
  ⟨le_mx (le_mx h1), mx_le (mx_le h2 hs.d1) hs.g1⟩
theorem begin_bd {io : Bool} {lane : List UInt8} : ∀ {l : List (Job × Sent)} {b : Int}, (∀ q ∈ l, SentOk q.2) → 0 ≤ b → b ≤ 2000000000000000 → 0 ≤ beginOf io lane l b ∧ beginOf io lane l b ≤ 2000000000000000
  | [], b, _, h1, h2 => ⟨h1, h2⟩
  | q :: l, b, h, h1, h2 => by
    simp only [beginOf]
    split
    · have := endOf_bd (h q (by simp)) h1 h2
      exact begin_bd (fun x hx => h x (by simp [hx])) this.1 this.2
    · exact begin_bd (fun x hx => h x (by simp [hx])) h1 h2
theorem run_ok (l : List Outage) (lane : List UInt8) : ∀ (ws : List Int) (t n : Int), (∀ w ∈ ws, 0 ≤ w) → 0 ≤ t → (runT l lane ws t n).2 ≤ 2000000000000000 → SentOk (runT l lane ws t n).1
  | [], t, n, _, h0, h => by
    simp only [runT] at *
    split at h <;> rename_i ha <;> simp only [ha, if_true, if_false, Bool.false_eq_true] <;> constructor <;> simp only at * <;> omega
  | w :: ws, t, n, hw, h0, h => by
    simp only [runT] at *
    by_cases ha : answers l lane t = true
    · simp only [ha, if_true] at *
      constructor <;> simp only at * <;> omega
    · simp only [ha, if_false, Bool.false_eq_true] at *
      exact run_ok l lane ws (t + w) (n + 1) (fun x hx => hw x (by simp [hx])) (by have := hw w (by simp); omega) h
theorem lookV_set (kv : List (DV × DV)) (a b : List UInt8) (d z : DV) : lookV (kvSet kv (.str a) d) (.str b) z = if a = b then d else lookV kv (.str b) z := by
  unfold lookV
  induction kv with
  | nil => 
    simp only [kvSet, kvGet, keyEq]
    by_cases h : a = b
    · simp [h]
    · have h' : b ≠ a := fun e => h e.symm
      simp [h, h']
  | cons x kv ih =>
    obtain ⟨k, e⟩ := x
    simp only [kvSet]
    by_cases hk : keyEq (.str a) k = true
    · simp only [hk, if_true, kvGet]
      have hka : k = .str a := by
        cases k <;> simp [keyEq] at hk
        rw [hk]
      subst hka
      by_cases h : a = b
      · subst h; simp [keyEq]
      · have h' : b ≠ a := fun e => h e.symm
        simp [keyEq, h, h']
    · simp only [hk, Bool.false_eq_true, if_false, kvGet]
      by_cases hkb : keyEq (.str b) k = true
      · simp only [hkb, if_true]
        have hne : a ≠ b := fun e => by subst e; exact hk hkb
        simp [hne]
      · simp only [hkb, Bool.false_eq_true, if_false]; exact ih
end Go.Proofs.YtjdeikkojjdjdaaDoor

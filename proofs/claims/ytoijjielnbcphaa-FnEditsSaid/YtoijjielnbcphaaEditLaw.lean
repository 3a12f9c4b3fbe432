/-
  Plain laws: the table of edit distances of all prefixes, as the program computes it (the least of three, or four) and as the reference does; both agree. No condition.
-/
import Derived.Test.YtoijjielnbcphaaBase
namespace Go.Proofs.Ytoijjielnbcphaa
set_option linter.unusedVariables false
set_option linter.unusedSimpArgs false

/-- An exchange ends at the places i + 1, j + 1 (counted from 1). -/
def swapAt (sw : Bool) (a b : List UInt8) (i j : Nat) : Bool := sw && decide (1 ≤ i) && decide (1 ≤ j) && (a.getD i 0 == b.getD (j - 1) 0) && (a.getD (i - 1) 0 == b.getD j 0)
def cost (a b : List UInt8) (i j : Nat) : Nat := if a.getD i 0 = b.getD j 0 then 0 else 1
/-- The program's row i + 1 out of the rows i and i - 1. -/
def nextD (sw : Bool) (a b : List UInt8) (i : Nat) (cur prev : Nat → Nat) : Nat → Nat
  | 0 => i + 1
  | j + 1 =>
    let m := min (min (cur (j + 1) + 1) (nextD sw a b i cur prev j + 1)) (cur j + cost a b i j)
    if swapAt sw a b i j = true then min m (prev (j - 1) + 1) else m
def rowsD (sw : Bool) (a b : List UInt8) : Nat → (Nat → Nat) × (Nat → Nat)
  | 0 => (fun j => j, fun _ => 0)
  | i + 1 => (nextD sw a b i (rowsD sw a b i).1 (rowsD sw a b i).2, (rowsD sw a b i).1)
/-- The distance of the first i bytes of a and the first j bytes of b. -/
def D (sw : Bool) (a b : List UInt8) (i j : Nat) : Nat := (rowsD sw a b i).1 j
variable {sw : Bool} {a b : List UInt8}
theorem D_zero (j : Nat) : D sw a b 0 j = j := rfl
theorem D_left (i : Nat) : D sw a b i 0 = i := by cases i <;> rfl
theorem rowsD_prev (i : Nat) (h : 1 ≤ i) (j : Nat) : (rowsD sw a b i).2 j = D sw a b (i - 1) j := by
  obtain ⟨k, rfl⟩ : ∃ k, i = k + 1 := ⟨i - 1, by omega⟩
  rfl
/-- The least of three. -/
def low3 (sw : Bool) (a b : List UInt8) (i j : Nat) : Nat := min (min (D sw a b i (j + 1) + 1) (D sw a b (i + 1) j + 1)) (D sw a b i j + cost a b i j)
theorem D_succ (i j : Nat) : D sw a b (i + 1) (j + 1) = if swapAt sw a b i j = true then min (low3 sw a b i j) (D sw a b (i - 1) (j - 1) + 1) else low3 sw a b i j := by
  by_cases h : swapAt sw a b i j = true
  · rw [if_pos h]
    have h1 : 1 ≤ i := by unfold swapAt at h; simp at h; omega
    rw [← rowsD_prev i h1]
    show nextD sw a b i _ _ (j + 1) = _
    rw [nextD]
    simp only [h, if_true]
    rfl
  · rw [if_neg h]
    show nextD sw a b i _ _ (j + 1) = _
    rw [nextD]
    simp only [h, if_false]
    rfl
theorem cost_le (i j : Nat) : cost a b i j ≤ 1 := by unfold cost; split <;> omega
theorem D_le3 (i j : Nat) : D sw a b (i + 1) (j + 1) ≤ low3 sw a b i j := by rw [D_succ]; split <;> omega
theorem D_up2 (i j : Nat) : D sw a b (i + 1) j ≤ D sw a b i j + 1 := by
  cases j with
  | zero => rw [D_left, D_left]; omega
  | succ j => have := D_le3 (sw := sw) (a := a) (b := b) i j; unfold low3 at this; omega
theorem D_up1 (i j : Nat) : D sw a b i (j + 1) ≤ D sw a b i j + 1 := by
  cases i with
  | zero => rw [D_zero, D_zero]; omega
  | succ i => have := D_le3 (sw := sw) (a := a) (b := b) i j; unfold low3 at this; omega
theorem D_diag (i j : Nat) : D sw a b (i + 1) (j + 1) ≤ D sw a b i j + 1 := by
  have := D_le3 (sw := sw) (a := a) (b := b) i j; have := cost_le (a := a) (b := b) i j; unfold low3 at *; omega
theorem swap_pos {i j : Nat} (h : swapAt sw a b i j = true) : 1 ≤ i ∧ 1 ≤ j := by unfold swapAt at h; simp at h; omega
theorem D_down1 (i : Nat) : ∀ j, D sw a b i j ≤ D sw a b i (j + 1) + 1 := by
  induction i with
  | zero => intro j; rw [D_zero, D_zero]; omega
  | succ i ih =>
    intro j
    have u := D_up2 (sw := sw) (a := a) (b := b) i j
    have l := ih j
    rw [D_succ]
    split
    · rename_i h
      obtain ⟨h1, h2⟩ := swap_pos h
      have d := D_diag (sw := sw) (a := a) (b := b) (i - 1) (j - 1)
      rw [show i - 1 + 1 = i from by omega, show j - 1 + 1 = j from by omega] at d
      unfold low3; omega
    · unfold low3; omega
theorem D_down2 (j : Nat) : ∀ i, D sw a b i j ≤ D sw a b (i + 1) j + 1 := by
  induction j with
  | zero => intro i; rw [D_left, D_left]; omega
  | succ j ih =>
    intro i
    have u := D_up1 (sw := sw) (a := a) (b := b) i j
    have l := ih i
    rw [D_succ]
    split
    · rename_i h
      obtain ⟨h1, h2⟩ := swap_pos h
      have d := D_diag (sw := sw) (a := a) (b := b) (i - 1) (j - 1)
      rw [show i - 1 + 1 = i from by omega, show j - 1 + 1 = j from by omega] at d
      unfold low3; omega
    · unfold low3; omega
/-- What the reference takes in the place of the least of three. -/
theorem low3_eq {i j : Nat} (h : a.getD i 0 = b.getD j 0) : low3 sw a b i j = D sw a b i j := by
  have l1 := D_down1 (sw := sw) (a := a) (b := b) i j
  have l2 := D_down2 (sw := sw) (a := a) (b := b) j i
  unfold low3 cost; rw [if_pos h]; omega
theorem low3_ne {i j : Nat} (h : ¬ a.getD i 0 = b.getD j 0) : low3 sw a b i j = 1 + min (min (D sw a b i (j + 1)) (D sw a b (i + 1) j)) (D sw a b i j) := by
  unfold low3 cost; rw [if_neg h]; omega
theorem D_le (i j : Nat) : D sw a b i j ≤ i + j := by
  induction i with
  | zero => rw [D_zero]; omega
  | succ i ih => have := D_up2 (sw := sw) (a := a) (b := b) i j; omega
end Go.Proofs.Ytoijjielnbcphaa

/-
  Walks of MinOverlap and LengthBounds (program and reference) and of their small helpers. No condition.
-/
import Derived.Test.YtojhpmdlhbiomaaWithin
import Derived.Deep.QuietTactic
import Derived.BigQuiet
namespace Go.Proofs.Ytojhpmdlhbiomaa
open Go.RowKit
set_option linter.unusedVariables false
set_option linter.unusedSimpArgs false

def minOver (a b t : Int) : Int := if inB a 0 1000 = true ∧ inB b 0 1000 = true ∧ inB t 1 1000 = true then (t * (a + b) + 999 + t) / (1000 + t) else -1
def lenLow (n t : Int) : Int := if inB n 0 1000 = true ∧ inB t 1 1000 = true then (n * t + 999) / 1000 else -1
def lenHigh (n t : Int) : Int := if inB n 0 1000 = true ∧ inB t 1 1000 = true then n * 1000 / t else -1
theorem mul_bd {a b A B : Int} (h1 : 0 ≤ a) (h2 : a ≤ A) (h3 : 0 ≤ b) (h4 : b ≤ B) : 0 ≤ a * b ∧ a * b ≤ A * B :=
  ⟨Int.mul_nonneg h1 h3, Int.mul_le_mul h2 h4 h3 (Int.le_trans h1 h2)⟩

set_option maxHeartbeats 400000 in
theorem l5Good_any (a b t : Int) (w : World) :
    Calls Try.prog 50 #[.int .i64 a, .int .i64 b, .int .i64 t] w fun e w' => e = .returned (.bool (inB a 0 1000 && inB b 0 1000 && inB t 1 1000)) ∧ w = w' := by
  cases ha : inB a 0 1000
  · go_enter Try.func50, Try.ntmps50
    go_wp2_with (go_at_call 32; refine (l1In_any _ _ _ _).mono ?_; rintro e w' ⟨rfl, rfl⟩)
    go_ret
    exact ⟨rfl, rfl⟩
  cases hb : inB b 0 1000
  · go_enter Try.func50, Try.ntmps50
    go_wp2_with (go_at_call 32; refine (l1In_any _ _ _ _).mono ?_; rintro e w' ⟨rfl, rfl⟩)
    go_ret
    exact ⟨rfl, rfl⟩
  cases ht : inB t 1 1000
  all_goals
    go_enter Try.func50, Try.ntmps50
    go_wp2_with (go_at_call 32; refine (l1In_any _ _ _ _).mono ?_; rintro e w' ⟨rfl, rfl⟩)
    go_ret
    exact ⟨rfl, rfl⟩
set_option maxHeartbeats 400000 in
theorem isSize_any (a : Int) (w : World) :
    Calls Try.prog 51 #[.int .i64 a] w fun e w' => e = .returned (.bool (inB a 0 1000)) ∧ w = w' := by
  go_enter Try.func51, Try.ntmps51
  go_wp2_with (go_at_call 34; refine (within_any _ _ _ _).mono ?_; rintro e w' ⟨rfl, rfl⟩)
  go_ret
  exact ⟨rfl, rfl⟩
set_option maxHeartbeats 400000 in
theorem isThreshold_any (a : Int) (w : World) :
    Calls Try.prog 52 #[.int .i64 a] w fun e w' => e = .returned (.bool (inB a 1 1000)) ∧ w = w' := by
  go_enter Try.func52, Try.ntmps52
  go_wp2_with (go_at_call 34; refine (within_any _ _ _ _).mono ?_; rintro e w' ⟨rfl, rfl⟩)
  go_ret
  exact ⟨rfl, rfl⟩


end Go.Proofs.Ytojhpmdlhbiomaa

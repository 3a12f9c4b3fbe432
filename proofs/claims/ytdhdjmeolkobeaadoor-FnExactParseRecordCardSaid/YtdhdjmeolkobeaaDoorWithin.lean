/-
  Walks of the range tests within (program) and l1In (reference): whether a number lies from b to c. No condition.
-/
import Derived.Test.YtdhdjmeolkobeaaDoorFacts
namespace Go.Proofs.YtdhdjmeolkobeaaDoor
open Go.RowKit
set_option linter.unusedVariables false
set_option linter.unusedSimpArgs false

def inB (a b c : Int) : Bool := decide (b ≤ a) && decide (a ≤ c)
theorem inB_lo {a b c : Int} (h : ¬ b ≤ a) : inB a b c = false := by unfold inB; simp; omega
theorem inB_hi {a b c : Int} (h : ¬ a ≤ c) : inB a b c = false := by unfold inB; simp; omega
theorem inB_in {a b c : Int} (h : b ≤ a) (h2 : a ≤ c) : inB a b c = true := by unfold inB; simp; omega
theorem inB_yes {a b c : Int} (h : inB a b c = true) : b ≤ a ∧ a ≤ c := by unfold inB at h; simpa using h
theorem inB_no {a b c : Int} (h : inB a b c = false) : ¬ (b ≤ a ∧ a ≤ c) := by unfold inB at h; simp at h; omega

set_option maxHeartbeats 400000 in
theorem within_any (a b c : Int) (w : World) :
    Calls Tryd.prog 40 #[.int .i64 a, .int .i64 b, .int .i64 c] w fun e w' => e = .returned (.bool (inB a b c)) ∧ w = w' := by
  by_cases h : b ≤ a
  · by_cases h2 : a ≤ c
    · have H := Lib.hid (inB_in h h2)
      go_enter Tryd.func40, Tryd.ntmps40
      go_wp2
      go_ret
      exact ⟨by rw [H.out]; rfl, rfl⟩
    · have H := Lib.hid (inB_hi (b := b) h2)
      go_enter Tryd.func40, Tryd.ntmps40
      go_wp2
      go_ret
      exact ⟨by rw [H.out]; rfl, rfl⟩
  · have H := Lib.hid (inB_lo (c := c) h)
    go_enter Tryd.func40, Tryd.ntmps40
    go_wp2
    go_ret
    exact ⟨by rw [H.out]; rfl, rfl⟩
theorem within_in (a b c : Int) (w : World) (h1 : b ≤ a) (h2 : a ≤ c) :
    Calls Tryd.prog 40 #[.int .i64 a, .int .i64 b, .int .i64 c] w fun e w' => e = .returned (.bool true) ∧ w = w' :=
  (within_any a b c w).mono fun _ _ ⟨he, hw⟩ => ⟨by rw [he, inB_in h1 h2], hw⟩
theorem within_lo (a b c : Int) (w : World) (h : ¬ b ≤ a) :
    Calls Tryd.prog 40 #[.int .i64 a, .int .i64 b, .int .i64 c] w fun e w' => e = .returned (.bool false) ∧ w = w' :=
  (within_any a b c w).mono fun _ _ ⟨he, hw⟩ => ⟨by rw [he, inB_lo h], hw⟩
theorem within_hi (a b c : Int) (w : World) (h : ¬ a ≤ c) :
    Calls Tryd.prog 40 #[.int .i64 a, .int .i64 b, .int .i64 c] w fun e w' => e = .returned (.bool false) ∧ w = w' :=
  (within_any a b c w).mono fun _ _ ⟨he, hw⟩ => ⟨by rw [he, inB_hi h], hw⟩

set_option maxHeartbeats 400000 in
theorem l1In_any (a b c : Int) (w : World) :
    Calls Tryd.prog 41 #[.int .i64 a, .int .i64 b, .int .i64 c] w fun e w' => e = .returned (.bool (inB a b c)) ∧ w = w' := by
  by_cases h : b ≤ a
  · by_cases h2 : a ≤ c
    · have H := Lib.hid (inB_in h h2)
      go_enter Tryd.func41, Tryd.ntmps41
      go_wp2
      go_ret
      exact ⟨by rw [H.out]; rfl, rfl⟩
    · have H := Lib.hid (inB_hi (b := b) h2)
      go_enter Tryd.func41, Tryd.ntmps41
      go_wp2
      go_ret
      exact ⟨by rw [H.out]; rfl, rfl⟩
  · have H := Lib.hid (inB_lo (c := c) h)
    go_enter Tryd.func41, Tryd.ntmps41
    go_wp2
    go_ret
    exact ⟨by rw [H.out]; rfl, rfl⟩
end Go.Proofs.YtdhdjmeolkobeaaDoor

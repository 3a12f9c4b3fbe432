/-
  Walks of EditDistance, SwapDistance, EditWithin, EditScore (program and reference). No condition.
-/
import Derived.Test.YtdhdjmeolkobeaaDist
import Derived.Test.YtdhdjmeolkobeaaDist2
namespace Go.Proofs.Ytdhdjmeolkobeaa
open Go.RowKit
set_option linter.unusedVariables false
set_option linter.unusedSimpArgs false
set_option maxRecDepth 100000

def dV (sw : Bool) (a b : ByteArray) : Int := if a.size ≤ 40 ∧ b.size ≤ 40 then (D sw a.data.toList b.data.toList a.size b.size : Int) else -1
theorem dV_in {sw : Bool} {a b : ByteArray} (h : a.size ≤ 40) (h2 : b.size ≤ 40) : dV sw a b = (D sw a.data.toList b.data.toList a.size b.size : Int) := if_pos ⟨h, h2⟩
theorem dV_out {sw : Bool} {a b : ByteArray} (h : ¬ (a.size ≤ 40 ∧ b.size ≤ 40)) : dV sw a b = -1 := if_neg h
theorem D_max (sw : Bool) (a b : List UInt8) (i j : Nat) : D sw a b i j ≤ max i j := by
  induction i generalizing j with
  | zero => rw [D_zero]; omega
  | succ i ih =>
    cases j with
    | zero => rw [D_left]; omega
    | succ j => have := D_diag (sw := sw) (a := a) (b := b) i j; have := ih j; omega
theorem dV_range (sw : Bool) (a b : ByteArray) : -1 ≤ dV sw a b ∧ dV sw a b ≤ 40 ∧ (0 ≤ dV sw a b → dV sw a b ≤ (a.size : Int) ∨ dV sw a b ≤ (b.size : Int)) := by
  unfold dV
  have := D_max sw a.data.toList b.data.toList a.size b.size
  split <;> omega
theorem l4Fits_any (a b : ByteArray) (w : World) :
    Calls Try.prog 20 #[.string a, .string b] w fun e w' => e = .returned (.bool (decide (a.size ≤ 40) && decide (b.size ≤ 40))) ∧ w = w' := by
  by_cases h1 : a.size ≤ 40
  · have H : Hid ((decide (a.size ≤ 40) && decide (b.size ≤ 40)) = decide (b.size ≤ 40)) := Lib.hid (by simp [h1])
    have d1 : (a.size : Int) ≤ 40 := by omega
    by_cases h2 : b.size ≤ 40
    · have H2 : Hid (decide (b.size ≤ 40) = true) := Lib.hid (by simp [h2])
      have d2 : (b.size : Int) ≤ 40 := by omega
      go_enter Try.func20, Try.ntmps20
      go_wp2
      go_ret
      exact ⟨by rw [H.out, H2.out]; rfl, rfl⟩
    · have H2 : Hid (decide (b.size ≤ 40) = false) := Lib.hid (by simp; omega)
      have d2 : decide ((b.size : Int) ≤ 40) = false := by simp; omega
      go_enter Try.func20, Try.ntmps20
      go_wp2
      go_ret
      exact ⟨by rw [H.out, H2.out]; rfl, rfl⟩
  · have H : Hid ((decide (a.size ≤ 40) && decide (b.size ≤ 40)) = false) := Lib.hid (by simp [h1])
    have d1 : decide ((a.size : Int) ≤ 40) = false := by simp; omega
    go_enter Try.func20, Try.ntmps20
    go_wp2
    go_ret
    exact ⟨by rw [H.out]; rfl, rfl⟩
set_option maxHeartbeats 1000000 in
theorem specEditDistance (a b : ByteArray) (w : World) :
    Calls Try.prog 22 #[.string a, .string b] w fun e w' => e = .returned (.int .i64 (dV false a b)) ∧ Below w.heap.size w w' := by
  cases hf : (decide (a.size ≤ 40) && decide (b.size ≤ 40))
  · have H : Hid (dV false a b = -1) := Lib.hid (dV_out (by simp at hf; omega))
    go_enter Try.func22, Try.ntmps22
    go_wp2_with (go_at_call 20; refine (l4Fits_any a b _).mono ?_; rintro e w' ⟨rfl, rfl⟩)
    go_ret
    exact ⟨by rw [H.out]; rfl, Below.refl _ _⟩
  · have h12 : a.size ≤ 40 ∧ b.size ≤ 40 := by simpa using hf
    obtain ⟨h1, h2⟩ := h12
    have H : Hid (dV false a b = (D false a.data.toList b.data.toList a.size b.size : Int)) := Lib.hid (dV_in h1 h2)
    have c1 : (a.size : Int) < ((a.size + 1 : Nat) : Int) := by omega
    have c2 : (b.size : Int) < ((b.size + 1 : Nat) : Int) := by omega
    go_enter Try.func22, Try.ntmps22
    go_wp2_with (first
      | (go_at_call 20; refine (l4Fits_any a b _).mono ?_; rintro e w' ⟨rfl, rfl⟩)
      | (go_at_call 37; refine (specTable a b false _ (by omega) (by omega)).mono ?_; rintro e w' ⟨T, cap, rfl, hb, ht⟩; obtain ⟨g, g1, g2⟩ := ht a.size (by omega); have g3 := g2 b.size (by omega); clear ht g2))
    go_ret
    exact ⟨by rw [H.out]; rfl, hb⟩
def within (d n : Int) : Int := if 0 ≤ d ∧ d ≤ n then d else -1
def score (d : Int) (m : Int) : Int := if d < 0 then 0 else if m = 0 then 1000 else 1000 * (m - d) / m
end Go.Proofs.Ytdhdjmeolkobeaa

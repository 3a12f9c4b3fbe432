/-
  Walks of MinOverlap and LengthBounds (program and reference) and of their small helpers. No condition.
-/
import Derived.Test.YtnlpdpkhdkghiaaWithin
import Derived.Deep.QuietTactic
import Derived.BigQuiet
namespace Go.Proofs.Ytnlpdpkhdkghiaa
open Go.RowKit
set_option linter.unusedVariables false
set_option linter.unusedSimpArgs false

def minOver (a b t : Int) : Int := if inB a 0 1000 = true ∧ inB b 0 1000 = true ∧ inB t 1 1000 = true then (t * (a + b) + 999 + t) / (1000 + t) else -1
def lenLow (n t : Int) : Int := if inB n 0 1000 = true ∧ inB t 1 1000 = true then (n * t + 999) / 1000 else -1
def lenHigh (n t : Int) : Int := if inB n 0 1000 = true ∧ inB t 1 1000 = true then n * 1000 / t else -1
theorem mul_bd {a b A B : Int} (h1 : 0 ≤ a) (h2 : a ≤ A) (h3 : 0 ≤ b) (h4 : b ≤ B) : 0 ≤ a * b ∧ a * b ≤ A * B :=
  ⟨Int.mul_nonneg h1 h3, Int.mul_le_mul h2 h4 h3 (Int.le_trans h1 h2)⟩

set_option maxHeartbeats 400000 in
theorem l5Good_any (a b t : Int) (w : World) :
    Calls Try.prog 42 #[.int .i64 a, .int .i64 b, .int .i64 t] w fun e w' => e = .returned (.bool (inB a 0 1000 && inB b 0 1000 && inB t 1 1000)) ∧ w = w' := by
  cases ha : inB a 0 1000
  · go_enter Try.func42, Try.ntmps42
    go_wp2_with (go_at_call 41; refine (l1In_any _ _ _ _).mono ?_; rintro e w' ⟨rfl, rfl⟩)
    go_ret
    exact ⟨rfl, rfl⟩
  cases hb : inB b 0 1000
  · go_enter Try.func42, Try.ntmps42
    go_wp2_with (go_at_call 41; refine (l1In_any _ _ _ _).mono ?_; rintro e w' ⟨rfl, rfl⟩)
    go_ret
    exact ⟨rfl, rfl⟩
  cases ht : inB t 1 1000
  all_goals
    go_enter Try.func42, Try.ntmps42
    go_wp2_with (go_at_call 41; refine (l1In_any _ _ _ _).mono ?_; rintro e w' ⟨rfl, rfl⟩)
    go_ret
    exact ⟨rfl, rfl⟩
set_option maxHeartbeats 400000 in
theorem isSize_any (a : Int) (w : World) :
    Calls Try.prog 43 #[.int .i64 a] w fun e w' => e = .returned (.bool (inB a 0 1000)) ∧ w = w' := by
  go_enter Try.func43, Try.ntmps43
  go_wp2_with (go_at_call 38; refine (within_any _ _ _ _).mono ?_; rintro e w' ⟨rfl, rfl⟩)
  go_ret
  exact ⟨rfl, rfl⟩
set_option maxHeartbeats 400000 in
theorem isThreshold_any (a : Int) (w : World) :
    Calls Try.prog 44 #[.int .i64 a] w fun e w' => e = .returned (.bool (inB a 1 1000)) ∧ w = w' := by
  go_enter Try.func44, Try.ntmps44
  go_wp2_with (go_at_call 38; refine (within_any _ _ _ _).mono ?_; rintro e w' ⟨rfl, rfl⟩)
  go_ret
  exact ⟨rfl, rfl⟩
set_option maxHeartbeats 400000 in
theorem ceilDiv_any (a b : Int) (w : World) (ha : 0 ≤ a) (ha2 : a ≤ 4000000000) (hb : 1 ≤ b) (hb2 : b ≤ 4000000000) :
    Calls Try.prog 45 #[.int .i64 a, .int .i64 b] w fun e w' => e = .returned (.int .i64 ((a + b - 1) / b)) ∧ w = w' := by
  go_enter Try.func45, Try.ntmps45
  go_wp2
  go_ret
  exact ⟨rfl, rfl⟩

set_option maxHeartbeats 800000 in
theorem specMinOverlap (a b t : Int) (w : World) :
    Calls Try.prog 25 #[.int .i64 a, .int .i64 b, .int .i64 t] w fun e w' => e = .returned (.int .i64 (minOver a b t)) ∧ w = w' := by
  cases hg : (inB a 0 1000 && inB b 0 1000 && inB t 1 1000)
  · have H : Hid (minOver a b t = -1) := by
      apply Lib.hid; unfold minOver; apply if_neg; intro h; rw [h.1, h.2.1, h.2.2] at hg; cases hg
    go_enter Try.func25, Try.ntmps25
    go_wp2_with (go_at_call 42; refine (l5Good_any _ _ _ _).mono ?_; rintro e w' ⟨rfl, rfl⟩; rw [hg])
    go_ret
    exact ⟨by rw [H.out]; rfl, rfl⟩
  · simp only [Bool.and_eq_true] at hg
    obtain ⟨⟨ha, hb⟩, ht⟩ := hg
    obtain ⟨a1, a2⟩ := inB_yes ha
    obtain ⟨b1, b2⟩ := inB_yes hb
    obtain ⟨t1, t2⟩ := inB_yes ht
    obtain ⟨m1, m2⟩ := mul_bd (a := t) (b := a + b) (A := 1000) (B := 2000) (by omega) t2 (by omega) (by omega)
    have H : Hid (minOver a b t = (t * (a + b) + 999 + t) / (1000 + t)) := by unfold minOver; exact if_pos ⟨ha, hb, ht⟩
    go_enter Try.func25, Try.ntmps25
    go_wp2_with (go_at_call 42; refine (l5Good_any _ _ _ _).mono ?_; rintro e w' ⟨rfl, rfl⟩; rw [ha, hb, ht])
    go_ret
    exact ⟨by rw [H.out]; rfl, rfl⟩
set_option maxHeartbeats 800000 in
theorem implMinOverlap (a b t : Int) (w : World) :
    Calls Try.prog 26 #[.int .i64 a, .int .i64 b, .int .i64 t] w fun e w' => e = .returned (.int .i64 (minOver a b t)) ∧ w = w' := by
  cases ha : inB a 0 1000
  · have H : Hid (minOver a b t = -1) := by unfold minOver; rw [ha]; rfl
    go_enter Try.func26, Try.ntmps26
    go_wp2_with (go_at_call 43; refine (isSize_any _ _).mono ?_; rintro e w' ⟨rfl, rfl⟩)
    go_ret
    exact ⟨by rw [H.out]; rfl, rfl⟩
  cases hb : inB b 0 1000
  · have H : Hid (minOver a b t = -1) := by unfold minOver; rw [ha, hb]; rfl
    go_enter Try.func26, Try.ntmps26
    go_wp2_with (go_at_call 43; refine (isSize_any _ _).mono ?_; rintro e w' ⟨rfl, rfl⟩)
    go_ret
    exact ⟨by rw [H.out]; rfl, rfl⟩
  cases ht : inB t 1 1000
  · have H : Hid (minOver a b t = -1) := by unfold minOver; rw [ha, hb, ht]; rfl
    go_enter Try.func26, Try.ntmps26
    go_wp2_with (first | (go_at_call 43; refine (isSize_any _ _).mono ?_; rintro e w' ⟨rfl, rfl⟩) | (go_at_call 44; refine (isThreshold_any _ _).mono ?_; rintro e w' ⟨rfl, rfl⟩))
    go_ret
    exact ⟨by rw [H.out]; rfl, rfl⟩
  obtain ⟨a1, a2⟩ := inB_yes ha
  obtain ⟨b1, b2⟩ := inB_yes hb
  obtain ⟨t1, t2⟩ := inB_yes ht
  obtain ⟨m1, m2⟩ := mul_bd (a := t) (b := a + b) (A := 1000) (B := 2000) (by omega) t2 (by omega) (by omega)
  have H : Hid (minOver a b t = (t * (a + b) + (1000 + t) - 1) / (1000 + t)) := by
    unfold minOver; rw [if_pos ⟨ha, hb, ht⟩]; congr 1; omega
  go_enter Try.func26, Try.ntmps26
  go_wp2_with (first | (go_at_call 43; refine (isSize_any _ _).mono ?_; rintro e w' ⟨rfl, rfl⟩) | (go_at_call 44; refine (isThreshold_any _ _).mono ?_; rintro e w' ⟨rfl, rfl⟩) | (go_at_call 45; refine (ceilDiv_any _ _ _ (by omega) (by omega) (by omega) (by omega)).mono ?_; rintro e w' ⟨rfl, rfl⟩))
  go_ret
  exact ⟨by rw [H.out]; rfl, rfl⟩

set_option maxHeartbeats 800000 in
theorem specLengthBounds (n t : Int) (w : World) :
    Calls Try.prog 23 #[.int .i64 n, .int .i64 t] w fun e w' => e = .returned (.tuple #[.int .i64 (lenLow n t), .int .i64 (lenHigh n t)]) ∧ ∃ k, w' = w.drewN k := by
  have h0 : inB 0 0 1000 = true := inB_in (by omega) (by omega)
  cases ha : inB n 0 1000
  · have H : Hid (lenLow n t = -1 ∧ lenHigh n t = -1) := by unfold lenLow lenHigh; rw [ha]; exact ⟨rfl, rfl⟩
    go_enter Try.func23, Try.ntmps23
    go_wp2_with (go_at_call 42; refine (l5Good_any _ _ _ _).mono ?_; rintro e w' ⟨rfl, rfl⟩; rw [ha])
    go_ret2
    exact ⟨by rw [H.out.1, H.out.2]; rfl, 0, rfl⟩
  cases ht : inB t 1 1000
  · have H : Hid (lenLow n t = -1 ∧ lenHigh n t = -1) := by unfold lenLow lenHigh; rw [ha, ht]; exact ⟨rfl, rfl⟩
    go_enter Try.func23, Try.ntmps23
    go_wp2_with (go_at_call 42; refine (l5Good_any _ _ _ _).mono ?_; rintro e w' ⟨rfl, rfl⟩; rw [ha, ht])
    go_ret2
    exact ⟨by rw [H.out.1, H.out.2]; rfl, 0, rfl⟩
  obtain ⟨a1, a2⟩ := inB_yes ha
  obtain ⟨t1, t2⟩ := inB_yes ht
  obtain ⟨m1, m2⟩ := mul_bd (a := n) (b := t) (A := 1000) (B := 1000) a1 a2 (by omega) t2
  have H : Hid (lenLow n t = (n * t + 999) / 1000 ∧ lenHigh n t = n * 1000 / t) := by unfold lenLow lenHigh; exact ⟨if_pos ⟨ha, ht⟩, if_pos ⟨ha, ht⟩⟩
  go_enter Try.func23, Try.ntmps23
  go_wp2_with (go_at_call 42; refine (l5Good_any _ _ _ _).mono ?_; rintro e w' ⟨rfl, rfl⟩; rw [ha, ht, h0])
  go_quiet (fail)
  go_wp2
  go_ret2
  exact ⟨by rw [H.out.1, H.out.2]; rfl, _, rfl⟩
set_option maxHeartbeats 800000 in
theorem implLengthBounds (n t : Int) (w : World) :
    Calls Try.prog 24 #[.int .i64 n, .int .i64 t] w fun e w' => e = .returned (.tuple #[.int .i64 (lenLow n t), .int .i64 (lenHigh n t)]) ∧ ∃ k, w' = w.drewN k := by
  cases ha : inB n 0 1000
  · have H : Hid (lenLow n t = -1 ∧ lenHigh n t = -1) := by unfold lenLow lenHigh; rw [ha]; exact ⟨rfl, rfl⟩
    go_enter Try.func24, Try.ntmps24
    go_wp2_with (go_at_call 43; refine (isSize_any _ _).mono ?_; rintro e w' ⟨rfl, rfl⟩)
    go_ret2
    exact ⟨by rw [H.out.1, H.out.2]; rfl, 0, rfl⟩
  cases ht : inB t 1 1000
  · have H : Hid (lenLow n t = -1 ∧ lenHigh n t = -1) := by unfold lenLow lenHigh; rw [ha, ht]; exact ⟨rfl, rfl⟩
    go_enter Try.func24, Try.ntmps24
    go_wp2_with (first | (go_at_call 43; refine (isSize_any _ _).mono ?_; rintro e w' ⟨rfl, rfl⟩) | (go_at_call 44; refine (isThreshold_any _ _).mono ?_; rintro e w' ⟨rfl, rfl⟩))
    go_ret2
    exact ⟨by rw [H.out.1, H.out.2]; rfl, 0, rfl⟩
  obtain ⟨a1, a2⟩ := inB_yes ha
  obtain ⟨t1, t2⟩ := inB_yes ht
  obtain ⟨m1, m2⟩ := mul_bd (a := n) (b := t) (A := 1000) (B := 1000) a1 a2 (by omega) t2
  have H : Hid (lenLow n t = (n * t + 1000 - 1) / 1000 ∧ lenHigh n t = n * 1000 / t) := by
    unfold lenLow lenHigh; refine ⟨?_, if_pos ⟨ha, ht⟩⟩; rw [if_pos ⟨ha, ht⟩]; congr 1; omega
  go_enter Try.func24, Try.ntmps24
  go_wp2_with (first | (go_at_call 43; refine (isSize_any _ _).mono ?_; rintro e w' ⟨rfl, rfl⟩) | (go_at_call 44; refine (isThreshold_any _ _).mono ?_; rintro e w' ⟨rfl, rfl⟩))
  have mw : IntKind.i64.wrap (n * t) = n * t := IntWalk.i64_in _ (by omega)
  go_quiet ((go_at_call 45; exact Calls.quiet_of_same ((ceilDiv_any _ _ _ (by omega) (by omega) (by omega) (by omega)).mono fun _ _ ⟨h1, h2⟩ => ⟨h1, h2.symm⟩)))
  go_wp2
  go_ret2
  exact ⟨by rw [H.out.1, H.out.2]; rfl, _, rfl⟩
end Go.Proofs.Ytnlpdpkhdkghiaa

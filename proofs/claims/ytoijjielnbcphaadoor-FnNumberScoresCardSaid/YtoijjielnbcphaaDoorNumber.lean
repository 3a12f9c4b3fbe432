/-
  Walks of NumberScore (program and reference). No condition.
-/
import Derived.Test.YtoijjielnbcphaaDoorWithin
namespace Go.Proofs.YtoijjielnbcphaaDoor
open Go.RowKit
set_option linter.unusedVariables false
set_option linter.unusedSimpArgs false
set_option maxRecDepth 100000

def dist (a b : Int) : Int := if a ≤ b then b - a else a - b
def numScore (a b c : Int) : Int := if inB a 0 9999 = true ∧ inB b 0 9999 = true ∧ inB c 1 9999 = true then (if c ≤ dist a b then 0 else 1000 * (c - dist a b) / c) else 0

set_option maxHeartbeats 400000 in
theorem l7Num_any (a : Int) (w : World) :
    Calls Tryd.prog 68 #[.int .i64 a] w fun e w' => e = .returned (.bool (inB a 0 9999)) ∧ w = w' := by
  go_enter Tryd.func68, Tryd.ntmps68
  go_wp2_with (go_at_call 64; refine (l1In_any _ _ _ _).mono ?_; rintro e w' ⟨rfl, rfl⟩)
  go_ret
  exact ⟨rfl, rfl⟩

theorem numScore_far {a b c : Int} (ha : inB a 0 9999 = true) (hb : inB b 0 9999 = true) (hc : inB c 1 9999 = true) (hd : c ≤ dist a b) : numScore a b c = 0 := by
  unfold numScore; rw [if_pos ⟨ha, hb, hc⟩, if_pos hd]
theorem numScore_near {a b c d : Int} (ha : inB a 0 9999 = true) (hb : inB b 0 9999 = true) (hc : inB c 1 9999 = true) (hd : dist a b = d) (h : ¬ c ≤ d) : numScore a b c = 1000 * (c - d) / c := by
  unfold numScore; rw [if_pos ⟨ha, hb, hc⟩, hd, if_neg h]

set_option maxHeartbeats 1000000 in
theorem specNumberScore (a b c : Int) (w : World) :
    Calls Tryd.prog 36 #[.int .i64 a, .int .i64 b, .int .i64 c] w fun e w' => e = .returned (.int .i64 (numScore a b c)) ∧ w = w' := by
  cases ha : inB a 0 9999
  · have H : Hid (numScore a b c = 0) := by unfold numScore; rw [ha]; rfl
    go_enter Tryd.func36, Tryd.ntmps36
    go_wp2_with (first | (go_at_call 68; refine (l7Num_any _ _).mono ?_; rintro e w' ⟨rfl, rfl⟩) | (go_at_call 64; refine (l1In_any _ _ _ _).mono ?_; rintro e w' ⟨rfl, rfl⟩))
    go_ret
    exact ⟨by rw [H.out]; rfl, rfl⟩
  cases hb : inB b 0 9999
  · have H : Hid (numScore a b c = 0) := by unfold numScore; rw [ha, hb]; rfl
    go_enter Tryd.func36, Tryd.ntmps36
    go_wp2_with (first | (go_at_call 68; refine (l7Num_any _ _).mono ?_; rintro e w' ⟨rfl, rfl⟩) | (go_at_call 64; refine (l1In_any _ _ _ _).mono ?_; rintro e w' ⟨rfl, rfl⟩))
    go_ret
    exact ⟨by rw [H.out]; rfl, rfl⟩
  cases hc : inB c 1 9999
  · have H : Hid (numScore a b c = 0) := by unfold numScore; rw [ha, hb, hc]; rfl
    go_enter Tryd.func36, Tryd.ntmps36
    go_wp2_with (first | (go_at_call 68; refine (l7Num_any _ _).mono ?_; rintro e w' ⟨rfl, rfl⟩) | (go_at_call 64; refine (l1In_any _ _ _ _).mono ?_; rintro e w' ⟨rfl, rfl⟩))
    go_ret
    exact ⟨by rw [H.out]; rfl, rfl⟩
  have ha' := inB_yes ha
  have hb' := inB_yes hb
  have hc' := inB_yes hc
  obtain ⟨a1, a2⟩ := ha'
  obtain ⟨b1, b2⟩ := hb'
  obtain ⟨c1, c2⟩ := hc'
  rcases Int.lt_trichotomy a b with hab | rfl | hab
  · rcases Int.lt_trichotomy c (b - a) with hd | rfl | hd
    · have H : Hid (numScore a b c = 0) := Lib.hid (numScore_far ha hb hc (by unfold dist; rw [if_pos (by omega)]; omega))
      go_enter Tryd.func36, Tryd.ntmps36
      go_wp2_with (first | (go_at_call 68; refine (l7Num_any _ _).mono ?_; rintro e w' ⟨rfl, rfl⟩) | (go_at_call 64; refine (l1In_any _ _ _ _).mono ?_; rintro e w' ⟨rfl, rfl⟩))
      go_ret
      exact ⟨by rw [H.out]; rfl, rfl⟩
    · have H : Hid (numScore a b (b - a) = 0) := Lib.hid (numScore_far ha hb hc (by unfold dist; rw [if_pos (by omega)]; omega))
      go_enter Tryd.func36, Tryd.ntmps36
      go_wp2_with (first | (go_at_call 68; refine (l7Num_any _ _).mono ?_; rintro e w' ⟨rfl, rfl⟩) | (go_at_call 64; refine (l1In_any _ _ _ _).mono ?_; rintro e w' ⟨rfl, rfl⟩))
      go_ret
      exact ⟨by rw [H.out]; rfl, rfl⟩
    · have H : Hid (numScore a b c = 1000 * (c - (b - a)) / c) := Lib.hid (numScore_near ha hb hc (by unfold dist; rw [if_pos (by omega)]) (by omega))
      go_enter Tryd.func36, Tryd.ntmps36
      go_wp2_with (first | (go_at_call 68; refine (l7Num_any _ _).mono ?_; rintro e w' ⟨rfl, rfl⟩) | (go_at_call 64; refine (l1In_any _ _ _ _).mono ?_; rintro e w' ⟨rfl, rfl⟩))
      go_ret
      exact ⟨by rw [H.out]; rfl, rfl⟩
  · have H : Hid (numScore a a c = 1000 * c / c) := Lib.hid (by rw [numScore_near ha hb hc (d := 0) (by unfold dist; rw [if_pos (by omega)]; omega) (by omega), Int.sub_zero])
    go_enter Tryd.func36, Tryd.ntmps36
    go_wp2_with (first | (go_at_call 68; refine (l7Num_any _ _).mono ?_; rintro e w' ⟨rfl, rfl⟩) | (go_at_call 64; refine (l1In_any _ _ _ _).mono ?_; rintro e w' ⟨rfl, rfl⟩))
    go_ret
    exact ⟨by rw [H.out]; rfl, rfl⟩
  · rcases Int.lt_trichotomy c (a - b) with hd | rfl | hd
    · have H : Hid (numScore a b c = 0) := Lib.hid (numScore_far ha hb hc (by unfold dist; rw [if_neg (by omega)]; omega))
      go_enter Tryd.func36, Tryd.ntmps36
      go_wp2_with (first | (go_at_call 68; refine (l7Num_any _ _).mono ?_; rintro e w' ⟨rfl, rfl⟩) | (go_at_call 64; refine (l1In_any _ _ _ _).mono ?_; rintro e w' ⟨rfl, rfl⟩))
      go_ret
      exact ⟨by rw [H.out]; rfl, rfl⟩
    · have H : Hid (numScore a b (a - b) = 0) := Lib.hid (numScore_far ha hb hc (by unfold dist; rw [if_neg (by omega)]; omega))
      go_enter Tryd.func36, Tryd.ntmps36
      go_wp2_with (first | (go_at_call 68; refine (l7Num_any _ _).mono ?_; rintro e w' ⟨rfl, rfl⟩) | (go_at_call 64; refine (l1In_any _ _ _ _).mono ?_; rintro e w' ⟨rfl, rfl⟩))
      go_ret
      exact ⟨by rw [H.out]; rfl, rfl⟩
    · have H : Hid (numScore a b c = 1000 * (c - (a - b)) / c) := Lib.hid (numScore_near ha hb hc (by unfold dist; rw [if_neg (by omega)]) (by omega))
      go_enter Tryd.func36, Tryd.ntmps36
      go_wp2_with (first | (go_at_call 68; refine (l7Num_any _ _).mono ?_; rintro e w' ⟨rfl, rfl⟩) | (go_at_call 64; refine (l1In_any _ _ _ _).mono ?_; rintro e w' ⟨rfl, rfl⟩))
      go_ret
      exact ⟨by rw [H.out]; rfl, rfl⟩

set_option maxHeartbeats 1000000 in
theorem implNumberScore (a b c : Int) (w : World) :
    Calls Tryd.prog 35 #[.int .i64 a, .int .i64 b, .int .i64 c] w fun e w' => e = .returned (.int .i64 (numScore a b c)) ∧ w = w' := by
  cases ha : inB a 0 9999
  · have H : Hid (numScore a b c = 0) := by unfold numScore; rw [ha]; rfl
    go_enter Tryd.func35, Tryd.ntmps35
    go_wp2_with (go_at_call 61; refine (within_any _ _ _ _).mono ?_; rintro e w' ⟨rfl, rfl⟩)
    go_ret
    exact ⟨by rw [H.out]; rfl, rfl⟩
  cases hb : inB b 0 9999
  · have H : Hid (numScore a b c = 0) := by unfold numScore; rw [ha, hb]; rfl
    go_enter Tryd.func35, Tryd.ntmps35
    go_wp2_with (go_at_call 61; refine (within_any _ _ _ _).mono ?_; rintro e w' ⟨rfl, rfl⟩)
    go_ret
    exact ⟨by rw [H.out]; rfl, rfl⟩
  cases hc : inB c 1 9999
  · have H : Hid (numScore a b c = 0) := by unfold numScore; rw [ha, hb, hc]; rfl
    go_enter Tryd.func35, Tryd.ntmps35
    go_wp2_with (go_at_call 61; refine (within_any _ _ _ _).mono ?_; rintro e w' ⟨rfl, rfl⟩)
    go_ret
    exact ⟨by rw [H.out]; rfl, rfl⟩
  have ha' := inB_yes ha
  have hb' := inB_yes hb
  have hc' := inB_yes hc
  obtain ⟨a1, a2⟩ := ha'
  obtain ⟨b1, b2⟩ := hb'
  obtain ⟨c1, c2⟩ := hc'
  rcases Int.lt_trichotomy a b with hab | rfl | hab
  · rcases Int.lt_trichotomy c (b - a) with hd | rfl | hd
    · have H : Hid (numScore a b c = 0) := Lib.hid (numScore_far ha hb hc (by unfold dist; rw [if_pos (by omega)]; omega))
      go_enter Tryd.func35, Tryd.ntmps35
      go_wp2_with (go_at_call 61; refine (within_any _ _ _ _).mono ?_; rintro e w' ⟨rfl, rfl⟩)
      go_ret
      exact ⟨by rw [H.out]; rfl, rfl⟩
    · have H : Hid (numScore a b (b - a) = 0) := Lib.hid (numScore_far ha hb hc (by unfold dist; rw [if_pos (by omega)]; omega))
      go_enter Tryd.func35, Tryd.ntmps35
      go_wp2_with (go_at_call 61; refine (within_any _ _ _ _).mono ?_; rintro e w' ⟨rfl, rfl⟩)
      go_ret
      exact ⟨by rw [H.out]; rfl, rfl⟩
    · have H : Hid (numScore a b c = 1000 * (c - (b - a)) / c) := Lib.hid (numScore_near ha hb hc (by unfold dist; rw [if_pos (by omega)]) (by omega))
      go_enter Tryd.func35, Tryd.ntmps35
      go_wp2_with (go_at_call 61; refine (within_any _ _ _ _).mono ?_; rintro e w' ⟨rfl, rfl⟩)
      go_ret
      exact ⟨by rw [H.out]; rfl, rfl⟩
  · have H : Hid (numScore a a c = 1000 * c / c) := Lib.hid (by rw [numScore_near ha hb hc (d := 0) (by unfold dist; rw [if_pos (by omega)]; omega) (by omega), Int.sub_zero])
    go_enter Tryd.func35, Tryd.ntmps35
    go_wp2_with (go_at_call 61; refine (within_any _ _ _ _).mono ?_; rintro e w' ⟨rfl, rfl⟩)
    go_ret
    exact ⟨by rw [H.out]; rfl, rfl⟩
  · rcases Int.lt_trichotomy c (a - b) with hd | rfl | hd
    · have H : Hid (numScore a b c = 0) := Lib.hid (numScore_far ha hb hc (by unfold dist; rw [if_neg (by omega)]; omega))
      go_enter Tryd.func35, Tryd.ntmps35
      go_wp2_with (go_at_call 61; refine (within_any _ _ _ _).mono ?_; rintro e w' ⟨rfl, rfl⟩)
      go_ret
      exact ⟨by rw [H.out]; rfl, rfl⟩
    · have H : Hid (numScore a b (a - b) = 0) := Lib.hid (numScore_far ha hb hc (by unfold dist; rw [if_neg (by omega)]; omega))
      go_enter Tryd.func35, Tryd.ntmps35
      go_wp2_with (go_at_call 61; refine (within_any _ _ _ _).mono ?_; rintro e w' ⟨rfl, rfl⟩)
      go_ret
      exact ⟨by rw [H.out]; rfl, rfl⟩
    · have H : Hid (numScore a b c = 1000 * (c - (a - b)) / c) := Lib.hid (numScore_near ha hb hc (by unfold dist; rw [if_neg (by omega)]) (by omega))
      go_enter Tryd.func35, Tryd.ntmps35
      go_wp2_with (go_at_call 61; refine (within_any _ _ _ _).mono ?_; rintro e w' ⟨rfl, rfl⟩)
      go_ret
      exact ⟨by rw [H.out]; rfl, rfl⟩

end Go.Proofs.YtoijjielnbcphaaDoor

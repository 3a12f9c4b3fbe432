/-
  Walks of EditDistance, SwapDistance, EditWithin, EditScore (program and reference). No condition.
-/
import Derived.Test.YtoijjielnbcphaaDist
import Derived.Test.YtoijjielnbcphaaDist2
namespace Go.Proofs.Ytoijjielnbcphaa
open Go.RowKit
set_option linter.unusedVariables false
set_option linter.unusedSimpArgs false
set_option maxRecDepth 100000

def dV (sw : Bool) (a b : ByteArray) : Int := if a.size ≤ 40 ∧ b.size ≤ 40 then (D sw a.data.toList b.data.toList a.size b.size : Int) else -1
theorem dV_in {sw : Bool} {a b : ByteArray} (h : a.size ≤ 40) (h2 : b.size ≤ 40) : dV sw a b = (D sw a.data.toList b.data.toList a.size b.size : Int) := if_pos ⟨h, h2⟩
theorem dV_out {sw : Bool} {a b : ByteArray} (h : ¬ (a.size ≤ 40 ∧ b.size ≤ 40)) : dV sw a b = -1 := if_neg h
theorem D_max (sw : Bool) (a b : List UInt8) (i j : Nat) : D sw a b i j ≤ max i j := by
  induction i generalizing j with
  | zero => rw [D_zero]; omega
  | succ i ih =>
    cases j with
    | zero => rw [D_left]; omega
    | succ j => have := D_diag (sw := sw) (a := a) (b := b) i j; have := ih j; omega
theorem dV_range (sw : Bool) (a b : ByteArray) : -1 ≤ dV sw a b ∧ dV sw a b ≤ 40 ∧ (0 ≤ dV sw a b → dV sw a b ≤ (a.size : Int) ∨ dV sw a b ≤ (b.size : Int)) := by
  unfold dV
  have := D_max sw a.data.toList b.data.toList a.size b.size
  split <;> omega
set_option maxHeartbeats 1000000 in
theorem implDistance (a b : ByteArray) (sw : Bool) (w : World) :
    Calls Try.prog 37 #[.string a, .string b, .bool sw] w fun e w' => e = .returned (.int .i64 (dV sw a b)) ∧ Below w.heap.size w w' := by
  by_cases h1 : a.size ≤ 40
  · by_cases h2 : b.size ≤ 40
    · have H : Hid (dV sw a b = (D sw a.data.toList b.data.toList a.size b.size : Int)) := Lib.hid (dV_in h1 h2)
      have d1 : decide ((40 : Int) < (a.size : Int)) = false := by simp; omega
      have d2 : decide ((40 : Int) < (b.size : Int)) = false := by simp; omega
      have c1 : (a.size : Int) < ((a.size + 1 : Nat) : Int) := by omega
      have c2 : (b.size : Int) < ((b.size + 1 : Nat) : Int) := by omega
      go_enter Try.func37, Try.ntmps37
      go_wp2_with (go_at_call 43; refine (implDistances a b sw _ (by omega) (by omega)).mono ?_; rintro e w' ⟨rfl, hb, ht⟩; obtain ⟨g, g1, g2⟩ := ht a.size (by omega); have g3 := g2 b.size (by omega); clear ht g2)
      go_ret
      exact ⟨by rw [H.out]; rfl, hb⟩
    · have H : Hid (dV sw a b = -1) := Lib.hid (dV_out (by omega))
      have d1 : decide ((40 : Int) < (a.size : Int)) = false := by simp; omega
      have d2 : (40 : Int) < (b.size : Int) := by omega
      go_enter Try.func37, Try.ntmps37
      go_wp2
      go_ret
      exact ⟨by rw [H.out]; rfl, Below.refl _ _⟩
  · have H : Hid (dV sw a b = -1) := Lib.hid (dV_out (by omega))
    have d1 : (40 : Int) < (a.size : Int) := by omega
    go_enter Try.func37, Try.ntmps37
    go_wp2
    go_ret
    exact ⟨by rw [H.out]; rfl, Below.refl _ _⟩
theorem implEditDistance (a b : ByteArray) (w : World) :
    Calls Try.prog 7 #[.string a, .string b] w fun e w' => e = .returned (.int .i64 (dV false a b)) ∧ Below w.heap.size w w' := by
  go_enter Try.func7, Try.ntmps7
  go_wp2_with (go_at_call 37; refine (implDistance a b false _).mono ?_; rintro e w' ⟨rfl, hb⟩)
  go_ret
  exact ⟨rfl, hb⟩
theorem implSwapDistance (a b : ByteArray) (w : World) :
    Calls Try.prog 8 #[.string a, .string b] w fun e w' => e = .returned (.int .i64 (dV true a b)) ∧ Below w.heap.size w w' := by
  go_enter Try.func8, Try.ntmps8
  go_wp2_with (go_at_call 37; refine (implDistance a b true _).mono ?_; rintro e w' ⟨rfl, hb⟩)
  go_ret
  exact ⟨rfl, hb⟩
theorem l4Fits_any (a b : ByteArray) (w : World) :
    Calls Try.prog 38 #[.string a, .string b] w fun e w' => e = .returned (.bool (decide (a.size ≤ 40) && decide (b.size ≤ 40))) ∧ w = w' := by
  by_cases h1 : a.size ≤ 40
  · have H : Hid ((decide (a.size ≤ 40) && decide (b.size ≤ 40)) = decide (b.size ≤ 40)) := Lib.hid (by simp [h1])
    have d1 : (a.size : Int) ≤ 40 := by omega
    by_cases h2 : b.size ≤ 40
    · have H2 : Hid (decide (b.size ≤ 40) = true) := Lib.hid (by simp [h2])
      have d2 : (b.size : Int) ≤ 40 := by omega
      go_enter Try.func38, Try.ntmps38
      go_wp2
      go_ret
      exact ⟨by rw [H.out, H2.out]; rfl, rfl⟩
    · have H2 : Hid (decide (b.size ≤ 40) = false) := Lib.hid (by simp; omega)
      have d2 : decide ((b.size : Int) ≤ 40) = false := by simp; omega
      go_enter Try.func38, Try.ntmps38
      go_wp2
      go_ret
      exact ⟨by rw [H.out, H2.out]; rfl, rfl⟩
  · have H : Hid ((decide (a.size ≤ 40) && decide (b.size ≤ 40)) = false) := Lib.hid (by simp [h1])
    have d1 : decide ((a.size : Int) ≤ 40) = false := by simp; omega
    go_enter Try.func38, Try.ntmps38
    go_wp2
    go_ret
    exact ⟨by rw [H.out]; rfl, rfl⟩
set_option maxHeartbeats 1000000 in
theorem specEditDistance (a b : ByteArray) (w : World) :
    Calls Try.prog 9 #[.string a, .string b] w fun e w' => e = .returned (.int .i64 (dV false a b)) ∧ Below w.heap.size w w' := by
  cases hf : (decide (a.size ≤ 40) && decide (b.size ≤ 40))
  · have H : Hid (dV false a b = -1) := Lib.hid (dV_out (by simp at hf; omega))
    go_enter Try.func9, Try.ntmps9
    go_wp2_with (go_at_call 38; refine (l4Fits_any a b _).mono ?_; rintro e w' ⟨rfl, rfl⟩)
    go_ret
    exact ⟨by rw [H.out]; rfl, Below.refl _ _⟩
  · have h12 : a.size ≤ 40 ∧ b.size ≤ 40 := by simpa using hf
    obtain ⟨h1, h2⟩ := h12
    have H : Hid (dV false a b = (D false a.data.toList b.data.toList a.size b.size : Int)) := Lib.hid (dV_in h1 h2)
    have c1 : (a.size : Int) < ((a.size + 1 : Nat) : Int) := by omega
    have c2 : (b.size : Int) < ((b.size + 1 : Nat) : Int) := by omega
    go_enter Try.func9, Try.ntmps9
    go_wp2_with (first
      | (go_at_call 38; refine (l4Fits_any a b _).mono ?_; rintro e w' ⟨rfl, rfl⟩)
      | (go_at_call 39; refine (specTable a b false _ (by omega) (by omega)).mono ?_; rintro e w' ⟨T, cap, rfl, hb, ht⟩; obtain ⟨g, g1, g2⟩ := ht a.size (by omega); have g3 := g2 b.size (by omega); clear ht g2))
    go_ret
    exact ⟨by rw [H.out]; rfl, hb⟩
set_option maxHeartbeats 1000000 in
theorem specSwapDistance (a b : ByteArray) (w : World) :
    Calls Try.prog 10 #[.string a, .string b] w fun e w' => e = .returned (.int .i64 (dV true a b)) ∧ Below w.heap.size w w' := by
  cases hf : (decide (a.size ≤ 40) && decide (b.size ≤ 40))
  · have H : Hid (dV true a b = -1) := Lib.hid (dV_out (by simp at hf; omega))
    go_enter Try.func10, Try.ntmps10
    go_wp2_with (go_at_call 38; refine (l4Fits_any a b _).mono ?_; rintro e w' ⟨rfl, rfl⟩)
    go_ret
    exact ⟨by rw [H.out]; rfl, Below.refl _ _⟩
  · have h12 : a.size ≤ 40 ∧ b.size ≤ 40 := by simpa using hf
    obtain ⟨h1, h2⟩ := h12
    have H : Hid (dV true a b = (D true a.data.toList b.data.toList a.size b.size : Int)) := Lib.hid (dV_in h1 h2)
    have c1 : (a.size : Int) < ((a.size + 1 : Nat) : Int) := by omega
    have c2 : (b.size : Int) < ((b.size + 1 : Nat) : Int) := by omega
    go_enter Try.func10, Try.ntmps10
    go_wp2_with (first
      | (go_at_call 38; refine (l4Fits_any a b _).mono ?_; rintro e w' ⟨rfl, rfl⟩)
      | (go_at_call 39; refine (specTable a b true _ (by omega) (by omega)).mono ?_; rintro e w' ⟨T, cap, rfl, hb, ht⟩; obtain ⟨g, g1, g2⟩ := ht a.size (by omega); have g3 := g2 b.size (by omega); clear ht g2))
    go_ret
    exact ⟨by rw [H.out]; rfl, hb⟩
def within (d n : Int) : Int := if 0 ≤ d ∧ d ≤ n then d else -1
theorem implEditWithin (a b : ByteArray) (n : Int) (w : World) :
    Calls Try.prog 15 #[.string a, .string b, .int .i64 n] w fun e w' => e = .returned (.int .i64 (within (dV false a b) n)) ∧ Below w.heap.size w w' := by
  obtain ⟨d0, _, _⟩ := dV_range false a b
  by_cases h : dV false a b ≤ n
  · have H : Hid (within (dV false a b) n = dV false a b) := Lib.hid (by unfold within; split <;> omega)
    go_enter Try.func15, Try.ntmps15
    go_wp2_with (go_at_call 7; refine (implEditDistance a b _).mono ?_; rintro e w' ⟨rfl, hb⟩)
    go_ret
    exact ⟨by rw [H.out]; rfl, hb⟩
  · have H : Hid (within (dV false a b) n = -1) := Lib.hid (by unfold within; split <;> omega)
    go_enter Try.func15, Try.ntmps15
    go_wp2_with (go_at_call 7; refine (implEditDistance a b _).mono ?_; rintro e w' ⟨rfl, hb⟩)
    go_ret
    exact ⟨by rw [H.out]; rfl, hb⟩
theorem specEditWithin (a b : ByteArray) (n : Int) (w : World) :
    Calls Try.prog 16 #[.string a, .string b, .int .i64 n] w fun e w' => e = .returned (.int .i64 (within (dV false a b) n)) ∧ Below w.heap.size w w' := by
  by_cases h0 : 0 ≤ dV false a b
  · have d0 : decide (dV false a b < 0) = false := by simp; omega
    by_cases h : dV false a b ≤ n
    · have H : Hid (within (dV false a b) n = dV false a b) := Lib.hid (by unfold within; split <;> omega)
      have d1 : decide (n < dV false a b) = false := by simp; omega
      clear h0 h
      go_enter Try.func16, Try.ntmps16
      go_wp2_with (go_at_call 9; refine (specEditDistance a b _).mono ?_; rintro e w' ⟨rfl, hb⟩)
      go_ret
      exact ⟨by rw [H.out]; rfl, hb⟩
    · have H : Hid (within (dV false a b) n = -1) := Lib.hid (by unfold within; split <;> omega)
      have d1 : n < dV false a b := by omega
      clear h0 h
      go_enter Try.func16, Try.ntmps16
      go_wp2_with (go_at_call 9; refine (specEditDistance a b _).mono ?_; rintro e w' ⟨rfl, hb⟩)
      go_ret
      exact ⟨by rw [H.out]; rfl, hb⟩
  · have d0 : dV false a b < 0 := by omega
    have H : Hid (within (dV false a b) n = -1) := Lib.hid (by unfold within; split <;> omega)
    clear h0
    go_enter Try.func16, Try.ntmps16
    go_wp2_with (go_at_call 9; refine (specEditDistance a b _).mono ?_; rintro e w' ⟨rfl, hb⟩)
    go_ret
    exact ⟨by rw [H.out]; rfl, hb⟩
def score (d : Int) (m : Int) : Int := if d < 0 then 0 else if m = 0 then 1000 else 1000 * (m - d) / m
set_option maxHeartbeats 1000000 in
theorem implEditScore_m (a b : ByteArray) (w : World) (m : Nat) (hm : m ≤ 1048576) (ha : a.size ≤ m) (hbs : b.size ≤ m) (hor : (a.size < b.size ∧ m = b.size) ∨ (¬ a.size < b.size ∧ m = a.size)) :
    Calls Try.prog 11 #[.string a, .string b] w fun e w' => e = .returned (.int .i64 (score (dV false a b) m)) ∧ Below w.heap.size w w' := by
  obtain ⟨d0, d1, d2⟩ := dV_range false a b
  obtain ⟨d, hd⟩ : ∃ d, d = dV false a b := ⟨_, rfl⟩
  have hle : 0 ≤ d → d ≤ m := by intro h; rw [← hd] at d2; have := d2 h; omega
  rw [← hd] at d0 d1
  rw [← hd]
  have Hd := Lib.hid hd
  clear d2 hd
  by_cases h0 : d < 0
  · have H : Hid (score d m = 0) := Lib.hid (by unfold score; rw [if_pos h0])
    rcases hor with ⟨o1, rfl⟩ | ⟨o1, rfl⟩
    all_goals
      go_enter Try.func11, Try.ntmps11
      go_wp2_with (go_at_call 7; refine (implEditDistance a b _).mono ?_; rintro e w' ⟨rfl, hb⟩; rw [← Hd.out])
      go_ret
      exact ⟨by rw [H.out]; rfl, hb⟩
  · have hle2 := hle (by omega)
    have d00 : decide (d < 0) = false := by simp; omega
    clear hle
    by_cases hz : m = 0
    · have H : Hid (score d m = 1000) := Lib.hid (by unfold score; rw [if_neg h0, if_pos (by omega)])
      rcases hor with ⟨o1, rfl⟩ | ⟨o1, rfl⟩
      · omega
      · have z1 : ((a.size : Int) == 0) = true := by simp [hz]
        have Hz := Lib.hid hz; clear hz
        go_enter Try.func11, Try.ntmps11
        go_wp2_with (go_at_call 7; refine (implEditDistance a b _).mono ?_; rintro e w' ⟨rfl, hb⟩; rw [← Hd.out])
        go_ret
        exact ⟨by rw [H.out]; rfl, hb⟩
    · have H : Hid (score d m = 1000 * ((m : Int) - d) / m) := Lib.hid (by unfold score; rw [if_neg h0, if_neg (by omega)])
      have zw : IntKind.i64.wrap (1000 * ((m : Int) - d)) = 1000 * ((m : Int) - d) := IntWalk.i64_in _ (by omega)
      have z1 : ((m : Int) == 0) = false := by simp; omega
      have mp : (0 : Int) < (m : Int) := by omega
      have Hz := Lib.hid hz; clear hz
      rcases hor with ⟨o1, rfl⟩ | ⟨o1, rfl⟩
      all_goals
        have he : ¬ (if a.size < b.size then b else a) = ByteArray.empty := by
          intro e
          have h2 := Hz.out
          first
            | (rw [if_pos o1] at e; rw [e] at h2; exact h2 rfl)
            | (rw [if_neg o1] at e; rw [e] at h2; exact h2 rfl)
        first
          | rw [if_pos o1] at he
          | rw [if_neg o1] at he
        go_enter Try.func11, Try.ntmps11
        go_wp2_with (go_at_call 7; refine (implEditDistance a b _).mono ?_; rintro e w' ⟨rfl, hb⟩; rw [← Hd.out])
        go_ret
        exact ⟨by rw [H.out]; rfl, hb⟩
theorem implEditScore (a b : ByteArray) (w : World) (ha : a.size ≤ 1048576) (hbs : b.size ≤ 1048576) :
    Calls Try.prog 11 #[.string a, .string b] w fun e w' => e = .returned (.int .i64 (score (dV false a b) ((max a.size b.size : Nat) : Int))) ∧ Below w.heap.size w w' :=
  implEditScore_m a b w _ (by omega) (by omega) (by omega) (by omega)
set_option maxHeartbeats 1000000 in
theorem specEditScore_m (a b : ByteArray) (w : World) (m : Nat) (hm : m ≤ 1048576) (ha : a.size ≤ m) (hbs : b.size ≤ m) (hor : (a.size < b.size ∧ m = b.size) ∨ (¬ a.size < b.size ∧ m = a.size)) :
    Calls Try.prog 12 #[.string a, .string b] w fun e w' => e = .returned (.int .i64 (score (dV false a b) m)) ∧ Below w.heap.size w w' := by
  obtain ⟨d0, d1, d2⟩ := dV_range false a b
  obtain ⟨d, hd⟩ : ∃ d, d = dV false a b := ⟨_, rfl⟩
  have hle : 0 ≤ d → d ≤ m := by intro h; rw [← hd] at d2; have := d2 h; omega
  rw [← hd] at d0 d1
  rw [← hd]
  have Hd := Lib.hid hd
  clear d2 hd
  by_cases h0 : d < 0
  · have H : Hid (score d m = 0) := Lib.hid (by unfold score; rw [if_pos h0])
    rcases hor with ⟨o1, rfl⟩ | ⟨o1, rfl⟩
    all_goals
      go_enter Try.func12, Try.ntmps12
      go_wp2_with (go_at_call 9; refine (specEditDistance a b _).mono ?_; rintro e w' ⟨rfl, hb⟩; rw [← Hd.out])
      go_ret
      exact ⟨by rw [H.out]; rfl, hb⟩
  · have hle2 := hle (by omega)
    have d00 : decide (d < 0) = false := by simp; omega
    clear hle
    by_cases hz : m = 0
    · have H : Hid (score d m = 1000) := Lib.hid (by unfold score; rw [if_neg h0, if_pos (by omega)])
      rcases hor with ⟨o1, rfl⟩ | ⟨o1, rfl⟩
      · omega
      · have z1 : ((a.size : Int) == 0) = true := by simp [hz]
        have Hz := Lib.hid hz; clear hz
        go_enter Try.func12, Try.ntmps12
        go_wp2_with (go_at_call 9; refine (specEditDistance a b _).mono ?_; rintro e w' ⟨rfl, hb⟩; rw [← Hd.out])
        go_ret
        exact ⟨by rw [H.out]; rfl, hb⟩
    · have H : Hid (score d m = 1000 * ((m : Int) - d) / m) := Lib.hid (by unfold score; rw [if_neg h0, if_neg (by omega)])
      have zw : IntKind.i64.wrap (1000 * ((m : Int) - d)) = 1000 * ((m : Int) - d) := IntWalk.i64_in _ (by omega)
      have z1 : ((m : Int) == 0) = false := by simp; omega
      have mp : (0 : Int) < (m : Int) := by omega
      have Hz := Lib.hid hz; clear hz
      rcases hor with ⟨o1, rfl⟩ | ⟨o1, rfl⟩
      all_goals
        have he : ¬ (if a.size < b.size then b else a) = ByteArray.empty := by
          intro e
          have h2 := Hz.out
          first
            | (rw [if_pos o1] at e; rw [e] at h2; exact h2 rfl)
            | (rw [if_neg o1] at e; rw [e] at h2; exact h2 rfl)
        first
          | rw [if_pos o1] at he
          | rw [if_neg o1] at he
        go_enter Try.func12, Try.ntmps12
        go_wp2_with (go_at_call 9; refine (specEditDistance a b _).mono ?_; rintro e w' ⟨rfl, hb⟩; rw [← Hd.out])
        go_ret
        exact ⟨by rw [H.out]; rfl, hb⟩
theorem specEditScore (a b : ByteArray) (w : World) (ha : a.size ≤ 1048576) (hbs : b.size ≤ 1048576) :
    Calls Try.prog 12 #[.string a, .string b] w fun e w' => e = .returned (.int .i64 (score (dV false a b) ((max a.size b.size : Nat) : Int))) ∧ Below w.heap.size w w' :=
  specEditScore_m a b w _ (by omega) (by omega) (by omega) (by omega)
end Go.Proofs.Ytoijjielnbcphaa

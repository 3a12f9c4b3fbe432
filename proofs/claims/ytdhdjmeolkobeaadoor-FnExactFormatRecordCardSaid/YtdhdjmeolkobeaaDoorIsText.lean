/-
  Walks of IsText (program and reference): whether all bytes of s lie from 32 to 126 and s has at most 40 bytes. Condition: s has at most 2^20 bytes.
-/
import Derived.Test.YtdhdjmeolkobeaaDoorWithin
namespace Go.Proofs.YtdhdjmeolkobeaaDoor
open Go.RowKit
set_option linter.unusedVariables false
set_option linter.unusedSimpArgs false

def isText (s : ByteArray) : Bool := s.data.toList.all (rng 32 126) && decide (s.size ≤ 40)
theorem isText_no (s : ByteArray) (k : Nat) (h : k < s.size) (hf : rng 32 126 s[k] = false) : isText s = false := by
  unfold isText; rw [all_no s k h _ hf]; rfl
theorem isText_len (s : ByteArray) (h : (s.data.toList.take s.size).all (rng 32 126) = true) : isText s = decide ((s.size : Int) ≤ 40) := by
  rw [take_all] at h; unfold isText; rw [h]; simp; omega

set_option maxHeartbeats 400000 in
theorem implIsText (s : ByteArray) (w : World) (hs : s.size ≤ 1048576) :
    Calls Tryd.prog 81 #[.string s] w fun e w' => e = .returned (.bool (isText s)) ∧ w = w' := by
  go_enter Tryd.func81, Tryd.ntmps81
  go_wp2
  go_loop [6] (fun i => ∃ k : Nat, k ≤ s.size ∧ i = .int .i64 k ∧ (s.data.toList.take k).all (rng 32 126) = true) (fun i => s.size - (intOf i).toNat)
  case atStart => exact ⟨0, Nat.zero_le _, rfl, rfl⟩
  case round =>
    obtain ⟨k, hk, rfl, hall⟩ := hrel
    have Hall := Lib.hid hall; clear hall
    by_cases hlt : k < s.size
    · have hb0 := byte_le s[k]
      rcases range_cases s[k].toNat 32 126 (by omega) with h1 | ⟨h1, h2⟩ | ⟨h1, h2⟩
      · have H := Lib.hid (isText_no s k hlt (rng_lo h1))
        go_wp2_with (go_at_call 40; refine (within_lo _ _ _ _ (by assumption)).mono ?_; rintro e w' ⟨rfl, rfl⟩)
        go_ret
        exact ⟨by rw [H.out]; rfl, rfl⟩
      · have H := Lib.hid (all_snoc s k hlt _ Hall.out (rng_in h1 h2))
        go_wp2_with (go_at_call 40; refine (within_in _ _ _ _ (by assumption) (by assumption)).mono ?_; rintro e w' ⟨rfl, rfl⟩)
        go_round
        case rel => exact ⟨k + 1, by omega, by go_num, H.out⟩
        case measure => simp [intOf]; omega
      · have H := Lib.hid (isText_no s k hlt (rng_hi h2))
        go_wp2_with (go_at_call 40; refine (within_hi _ _ _ _ (by assumption)).mono ?_; rintro e w' ⟨rfl, rfl⟩)
        go_ret
        exact ⟨by rw [H.out]; rfl, rfl⟩
    · obtain rfl : k = s.size := by omega
      have H := Lib.hid (isText_len s Hall.out)
      go_wp2
      go_ret
      exact ⟨by rw [H.out]; rfl, rfl⟩
set_option maxHeartbeats 400000 in
theorem specIsText (s : ByteArray) (w : World) (hs : s.size ≤ 1048576) :
    Calls Tryd.prog 79 #[.string s] w fun e w' => e = .returned (.bool (isText s)) ∧ w = w' := by
  go_enter Tryd.func79, Tryd.ntmps79
  go_wp2
  go_loop [3] (fun i => ∃ k : Nat, k ≤ s.size ∧ i = .int .i64 k ∧ (s.data.toList.take k).all (rng 32 126) = true) (fun i => s.size - (intOf i).toNat)
  case atStart => exact ⟨0, Nat.zero_le _, rfl, rfl⟩
  case round =>
    obtain ⟨k, hk, rfl, hall⟩ := hrel
    have Hall := Lib.hid hall; clear hall
    by_cases hlt : k < s.size
    · have hb0 := byte_le s[k]
      rcases range_cases s[k].toNat 32 126 (by omega) with h1 | ⟨h1, h2⟩ | ⟨h1, h2⟩
      · have H := Lib.hid (isText_no s k hlt (rng_lo h1))
        go_wp2
        go_ret
        exact ⟨by rw [H.out]; rfl, rfl⟩
      · have H := Lib.hid (all_snoc s k hlt _ Hall.out (rng_in h1 h2))
        go_wp2
        go_round
        case rel => exact ⟨k + 1, by omega, by go_num, H.out⟩
        case measure => simp [intOf]; omega
      · have H := Lib.hid (isText_no s k hlt (rng_hi h2))
        go_wp2
        go_ret
        exact ⟨by rw [H.out]; rfl, rfl⟩
    · obtain rfl : k = s.size := by omega
      have H := Lib.hid (isText_len s Hall.out)
      go_wp2
      go_ret
      exact ⟨by rw [H.out]; rfl, rfl⟩
end Go.Proofs.YtdhdjmeolkobeaaDoor

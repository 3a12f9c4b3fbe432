/-
  Walks of DigitsOf (program and reference) and of isDigit: both return the digits among the bytes of s. Condition: s has at most 2^20 bytes.
-/
import Derived.Test.YtoijjielnbcphaaDoorFacts
namespace Go.Proofs.YtoijjielnbcphaaDoor
open Go.RowKit
set_option linter.unusedVariables false
set_option linter.unusedSimpArgs false
set_option maxRecDepth 100000

def digB (c : UInt8) : Bool := rng 48 57 c
def digitsOf (l : List UInt8) : List UInt8 := l.filter digB
theorem digitsOf_snoc_yes (l : List UInt8) (c : UInt8) (h : digB c = true) : digitsOf (l ++ [c]) = digitsOf l ++ [c] := by simp [digitsOf, List.filter_append, h]
theorem digitsOf_snoc_no (l : List UInt8) (c : UInt8) (h : digB c = false) : digitsOf (l ++ [c]) = digitsOf l := by simp [digitsOf, List.filter_append, h]
theorem digitsOf_le (s : ByteArray) (k : Nat) (h : k ≤ s.size) : (digitsOf (s.data.toList.take k)).length ≤ k := by
  have := List.length_filter_le digB (s.data.toList.take k); rw [take_len s k h] at this; exact this

set_option maxHeartbeats 400000 in
theorem isDigit_any (c : UInt8) (w : World) :
    Calls Tryd.prog 71 #[.int .u8 c.toNat] w fun e w' => e = .returned (.bool (digB c)) ∧ w = w' := by
  rcases range_cases c.toNat 48 57 (by omega) with h | ⟨h, h2⟩ | ⟨h, h2⟩
  · have Hd := Lib.hid (show digB c = false from rng_lo h)
    go_enter Tryd.func71, Tryd.ntmps71
    go_wp2
    go_ret
    exact ⟨by rw [Hd.out]; rfl, rfl⟩
  · have Hd := Lib.hid (show digB c = true from rng_in h h2)
    go_enter Tryd.func71, Tryd.ntmps71
    go_wp2
    go_ret
    exact ⟨by rw [Hd.out]; rfl, rfl⟩
  · have Hd := Lib.hid (show digB c = false from rng_hi h2)
    go_enter Tryd.func71, Tryd.ntmps71
    go_wp2
    go_ret
    exact ⟨by rw [Hd.out]; rfl, rfl⟩

set_option maxHeartbeats 400000 in
theorem implDigitsOf (s : ByteArray) (w : World) (hs : s.size ≤ 1048576) :
    Calls Tryd.prog 40 #[.string s] w fun e w' => e = .returned (.string (bstr (digitsOf s.data.toList))) ∧ Below w.heap.size w w' := by
  go_enter Tryd.func40, Tryd.ntmps40
  go_wp2
  go_loopw [3, 7] (fun v i wr => ∃ k : Nat, k ≤ s.size ∧ i = .int .i64 k ∧ Bld 5 w.heap.size w wr v (digitsOf (s.data.toList.take k))) (fun _ i _ => s.size - (intOf i).toNat)
  case atStart => exact ⟨0, Nat.zero_le _, rfl, Bld.nil _ _⟩
  case round =>
    obtain ⟨k, hk, rfl, hb⟩ := hrel
    by_cases hlt : k < s.size
    · have hle := digitsOf_le s k hk
      cases hd : digB s[k]
      · have hsn := digitsOf_snoc_no (s.data.toList.take k) s[k] hd
        rw [← take_snoc s k hlt] at hsn
        have Hd := Lib.hid hd; clear hd
        have Hsn := Lib.hid hsn; clear hsn
        go_wp2_with (go_at_call 71; refine (isDigit_any _ _).mono ?_; rintro e w' ⟨rfl, rfl⟩; rw [Hd.out])
        go_roundw
        case rel => exact ⟨k + 1, by omega, by go_num, by rw [Hsn.out]; exact hb⟩
        case measure => simp [intOf]; omega
      · have hsn := digitsOf_snoc_yes (s.data.toList.take k) s[k] hd
        rw [← take_snoc s k hlt] at hsn
        have Hd := Lib.hid hd; clear hd
        have Hsn := Lib.hid hsn; clear hsn
        go_wp2_with (first
          | (go_at_call 71; refine (isDigit_any _ _).mono ?_; rintro e w' ⟨rfl, rfl⟩; rw [Hd.out])
          | (at_builtin; refine wpList_push1 rfl _ _ 22 rfl _ _ Tryd.underlying22 infoB _ _ rfl hb _ s[k] rfl rfl (by omega) ?_; intro v' w' hb'))
        go_roundw
        case rel => exact ⟨k + 1, by omega, by go_num, by rw [Hsn.out]; exact hb'⟩
        case measure => simp [intOf]; omega
    · obtain rfl : k = s.size := by omega
      have ht := text hb
      rw [take_all] at ht hb
      go_wp2
      go_ret
      exact ⟨rfl, hb.bel⟩

set_option maxHeartbeats 400000 in
theorem specDigitsOf (s : ByteArray) (w : World) (hs : s.size ≤ 1048576) :
    Calls Tryd.prog 41 #[.string s] w fun e w' => e = .returned (.string (bstr (digitsOf s.data.toList))) ∧ Below w.heap.size w w' := by
  go_enter Tryd.func41, Tryd.ntmps41
  go_wp2
  go_loopw [3, 4] (fun v i wr => ∃ k : Nat, k ≤ s.size ∧ i = .int .i64 k ∧ Bld 5 w.heap.size w wr v (digitsOf (s.data.toList.take k))) (fun _ i _ => s.size - (intOf i).toNat)
  case atStart => exact ⟨0, Nat.zero_le _, rfl, Bld.empty _ _⟩
  case round =>
    obtain ⟨k, hk, rfl, hb⟩ := hrel
    by_cases hlt : k < s.size
    · have hle := digitsOf_le s k hk
      rcases range_cases s[k].toNat 48 57 (by omega) with h1 | ⟨h1, h2⟩ | ⟨h1, h2⟩
      · have hsn := digitsOf_snoc_no (s.data.toList.take k) s[k] (rng_lo h1)
        rw [← take_snoc s k hlt] at hsn
        have Hsn := Lib.hid hsn; clear hsn
        go_wp2
        go_roundw
        case rel => exact ⟨k + 1, by omega, by go_num, by rw [Hsn.out]; exact hb⟩
        case measure => simp [intOf]; omega
      · have hsn := digitsOf_snoc_yes (s.data.toList.take k) s[k] (rng_in h1 h2)
        rw [← take_snoc s k hlt] at hsn
        have Hsn := Lib.hid hsn; clear hsn
        go_wp2_with (at_builtin; refine wpList_push1 rfl _ _ 22 rfl _ _ Tryd.underlying22 infoB _ _ rfl hb _ s[k] rfl rfl (by omega) ?_; intro v' w' hb')
        go_roundw
        case rel => exact ⟨k + 1, by omega, by go_num, by rw [Hsn.out]; exact hb'⟩
        case measure => simp [intOf]; omega
      · have hsn := digitsOf_snoc_no (s.data.toList.take k) s[k] (rng_hi h2)
        rw [← take_snoc s k hlt] at hsn
        have Hsn := Lib.hid hsn; clear hsn
        go_wp2
        go_roundw
        case rel => exact ⟨k + 1, by omega, by go_num, by rw [Hsn.out]; exact hb⟩
        case measure => simp [intOf]; omega
    · obtain rfl : k = s.size := by omega
      have ht := text hb
      rw [take_all] at ht hb
      go_wp2
      go_ret
      exact ⟨rfl, hb.bel⟩
end Go.Proofs.YtoijjielnbcphaaDoor

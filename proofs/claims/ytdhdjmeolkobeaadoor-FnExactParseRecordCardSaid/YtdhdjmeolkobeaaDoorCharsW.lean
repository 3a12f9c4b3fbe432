/-
  Walks of the tests of one byte: isSmall, isDigit, l2Word, isWordByte. No condition.
-/
import Derived.Test.YtdhdjmeolkobeaaDoorChars
namespace Go.Proofs.YtdhdjmeolkobeaaDoor
open Go.RowKit
set_option linter.unusedVariables false
set_option linter.unusedSimpArgs false
theorem isSmall_any (c : UInt8) (w : World) :
    Calls Tryd.prog 106 #[.int .u8 c.toNat] w fun e w' => e = .returned (.bool (rng 97 122 c)) ∧ w = w' := by
  rcases range_cases c.toNat 97 122 (by omega) with h | ⟨h, h2⟩ | ⟨h, h2⟩
  · have Hd := Lib.hid (show rng 97 122 c = false from rng_lo h)
    go_enter Tryd.func106, Tryd.ntmps106
    go_wp2
    go_ret
    exact ⟨by rw [Hd.out]; rfl, rfl⟩
  · have Hd := Lib.hid (show rng 97 122 c = true from rng_in h h2)
    go_enter Tryd.func106, Tryd.ntmps106
    go_wp2
    go_ret
    exact ⟨by rw [Hd.out]; rfl, rfl⟩
  · have Hd := Lib.hid (show rng 97 122 c = false from rng_hi h2)
    go_enter Tryd.func106, Tryd.ntmps106
    go_wp2
    go_ret
    exact ⟨by rw [Hd.out]; rfl, rfl⟩
theorem isDigit_any (c : UInt8) (w : World) :
    Calls Tryd.prog 134 #[.int .u8 c.toNat] w fun e w' => e = .returned (.bool (rng 48 57 c)) ∧ w = w' := by
  rcases range_cases c.toNat 48 57 (by omega) with h | ⟨h, h2⟩ | ⟨h, h2⟩
  · have Hd := Lib.hid (show rng 48 57 c = false from rng_lo h)
    go_enter Tryd.func134, Tryd.ntmps134
    go_wp2
    go_ret
    exact ⟨by rw [Hd.out]; rfl, rfl⟩
  · have Hd := Lib.hid (show rng 48 57 c = true from rng_in h h2)
    go_enter Tryd.func134, Tryd.ntmps134
    go_wp2
    go_ret
    exact ⟨by rw [Hd.out]; rfl, rfl⟩
  · have Hd := Lib.hid (show rng 48 57 c = false from rng_hi h2)
    go_enter Tryd.func134, Tryd.ntmps134
    go_wp2
    go_ret
    exact ⟨by rw [Hd.out]; rfl, rfl⟩
theorem l2Word_any (c : UInt8) (w : World) :
    Calls Tryd.prog 97 #[.int .u8 c.toNat] w fun e w' => e = .returned (.bool (wordB c)) ∧ w = w' := by
  have hb0 := byte_le c
  have Hd : Hid (wordB c = (rng 97 122 c || (rng 65 90 c || rng 48 57 c))) := Lib.hid rfl
  rcases range_cases c.toNat 97 122 (by omega) with h | ⟨h, h2⟩ | ⟨h, h2⟩
  · have H1 := Lib.hid (rng_lo (hi := 122) h)
    rcases range_cases c.toNat 65 90 (by omega) with i | ⟨i, i2⟩ | ⟨i, i2⟩
    · have H2 := Lib.hid (rng_lo (hi := 90) i)
      rcases range_cases c.toNat 48 57 (by omega) with j | ⟨j, j2⟩ | ⟨j, j2⟩
      · have H3 := Lib.hid (rng_lo (hi := 57) j)
        go_enter Tryd.func97, Tryd.ntmps97
        go_wp2
        go_ret
        exact ⟨by rw [Hd.out, H1.out, H2.out, H3.out]; rfl, rfl⟩
      · have H3 := Lib.hid (rng_in j j2)
        go_enter Tryd.func97, Tryd.ntmps97
        go_wp2
        go_ret
        exact ⟨by rw [Hd.out, H1.out, H2.out, H3.out]; rfl, rfl⟩
      · have H3 := Lib.hid (rng_hi (lo := 48) j2)
        go_enter Tryd.func97, Tryd.ntmps97
        go_wp2
        go_ret
        exact ⟨by rw [Hd.out, H1.out, H2.out, H3.out]; rfl, rfl⟩
    · have H2 := Lib.hid (rng_in i i2)
      go_enter Tryd.func97, Tryd.ntmps97
      go_wp2
      go_ret
      exact ⟨by rw [Hd.out, H1.out, H2.out]; rfl, rfl⟩
    · have H2 := Lib.hid (rng_hi (lo := 65) i2)
      have H3 : Hid (rng 48 57 c = false) := Lib.hid (rng_hi (by omega))
      have j2 : ¬ (c.toNat : Int) ≤ 57 := by omega
      go_enter Tryd.func97, Tryd.ntmps97
      go_wp2
      go_ret
      exact ⟨by rw [Hd.out, H1.out, H2.out, H3.out]; rfl, rfl⟩
  · have H1 := Lib.hid (rng_in h h2)
    go_enter Tryd.func97, Tryd.ntmps97
    go_wp2
    go_ret
    exact ⟨by rw [Hd.out, H1.out]; rfl, rfl⟩
  · have H1 := Lib.hid (rng_hi (lo := 97) h2)
    have H2 : Hid (rng 65 90 c = false) := Lib.hid (rng_hi (by omega))
    have H3 : Hid (rng 48 57 c = false) := Lib.hid (rng_hi (by omega))
    have i2 : ¬ (c.toNat : Int) ≤ 90 := by omega
    have j2 : ¬ (c.toNat : Int) ≤ 57 := by omega
    go_enter Tryd.func97, Tryd.ntmps97
    go_wp2
    go_ret
    exact ⟨by rw [Hd.out, H1.out, H2.out, H3.out]; rfl, rfl⟩
theorem isWordByte_any (c : UInt8) (w : World) :
    Calls Tryd.prog 104 #[.int .u8 c.toNat] w fun e w' => e = .returned (.bool (wordB c)) ∧ w = w' := by
  have hb0 := byte_le c
  have Hd : Hid (wordB c = (rng 97 122 c || (rng 65 90 c || rng 48 57 c))) := Lib.hid rfl
  cases hs : rng 97 122 c
  · rcases range_cases c.toNat 65 90 (by omega) with i | ⟨i, i2⟩ | ⟨i, i2⟩
    · have H2 := Lib.hid (rng_lo (hi := 90) i)
      cases hd : rng 48 57 c
      · go_enter Tryd.func104, Tryd.ntmps104
        go_wp2_with (first | (go_at_call 106; refine (isSmall_any _ _).mono ?_; rintro e w' ⟨rfl, rfl⟩) | (go_at_call 134; refine (isDigit_any _ _).mono ?_; rintro e w' ⟨rfl, rfl⟩))
        go_ret
        exact ⟨by rw [Hd.out, H2.out, hs, hd]; rfl, rfl⟩
      · go_enter Tryd.func104, Tryd.ntmps104
        go_wp2_with (first | (go_at_call 106; refine (isSmall_any _ _).mono ?_; rintro e w' ⟨rfl, rfl⟩) | (go_at_call 134; refine (isDigit_any _ _).mono ?_; rintro e w' ⟨rfl, rfl⟩))
        go_ret
        exact ⟨by rw [Hd.out, H2.out, hs, hd]; rfl, rfl⟩
    · have H2 := Lib.hid (rng_in i i2)
      go_enter Tryd.func104, Tryd.ntmps104
      go_wp2_with (first | (go_at_call 106; refine (isSmall_any _ _).mono ?_; rintro e w' ⟨rfl, rfl⟩) | (go_at_call 134; refine (isDigit_any _ _).mono ?_; rintro e w' ⟨rfl, rfl⟩))
      go_ret
      exact ⟨by rw [Hd.out, H2.out, hs]; rfl, rfl⟩
    · have H2 := Lib.hid (rng_hi (lo := 65) i2)
      have i3 : decide ((c.toNat : Int) ≤ 90) = false := by simp; omega
      cases hd : rng 48 57 c
      · go_enter Tryd.func104, Tryd.ntmps104
        go_wp2_with (first | (go_at_call 106; refine (isSmall_any _ _).mono ?_; rintro e w' ⟨rfl, rfl⟩) | (go_at_call 134; refine (isDigit_any _ _).mono ?_; rintro e w' ⟨rfl, rfl⟩))
        go_ret
        exact ⟨by rw [Hd.out, H2.out, hs, hd]; rfl, rfl⟩
      · go_enter Tryd.func104, Tryd.ntmps104
        go_wp2_with (first | (go_at_call 106; refine (isSmall_any _ _).mono ?_; rintro e w' ⟨rfl, rfl⟩) | (go_at_call 134; refine (isDigit_any _ _).mono ?_; rintro e w' ⟨rfl, rfl⟩))
        go_ret
        exact ⟨by rw [Hd.out, H2.out, hs, hd]; rfl, rfl⟩
  · go_enter Tryd.func104, Tryd.ntmps104
    go_wp2_with (first | (go_at_call 106; refine (isSmall_any _ _).mono ?_; rintro e w' ⟨rfl, rfl⟩) | (go_at_call 134; refine (isDigit_any _ _).mono ?_; rintro e w' ⟨rfl, rfl⟩))
    go_ret
    exact ⟨by rw [Hd.out, hs]; rfl, rfl⟩
end Go.Proofs.YtdhdjmeolkobeaaDoor

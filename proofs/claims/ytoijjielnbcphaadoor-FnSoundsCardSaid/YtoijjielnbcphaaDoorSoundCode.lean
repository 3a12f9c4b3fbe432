/-
  Walks of SoundCode (program and reference). Condition: the strings have at most 2^20 bytes; the table of codes holds what the program lays.
-/
import Derived.Test.YtoijjielnbcphaaDoorSoundLaw
import Derived.Test.YtoijjielnbcphaaDoorMarked
import Derived.Test.YtoijjielnbcphaaDoorCharsW
import Derived.Test.YtoijjielnbcphaaDoorEnv
namespace Go.Proofs.YtoijjielnbcphaaDoor
open Go.RowKit
set_option linter.unusedVariables false
set_option linter.unusedSimpArgs false
theorem sc_letter {c d : UInt8} (h : low c = d) (hr : rng 97 122 d = true) : sc c = sndL.getD (d.toNat - 97) 0 := by unfold sc; rw [h, hr]; rfl
theorem sc_none {c d : UInt8} (h : low c = d) (hr : rng 97 122 d = false) : sc c = -2 := by unfold sc; rw [h, hr]; rfl
set_option maxHeartbeats 1600000 in
theorem implSoundCode (c : UInt8) (w : World) (ev : Snd w) :
    Calls Tryd.prog 16 #[.int .u8 c.toNat] w fun e w' => e = .returned (.int .i64 (sc c)) ∧ w = w' := by
  have hb0 := byte_le c
  obtain ⟨d, hd⟩ : ∃ d, low c = d := ⟨_, rfl⟩
  have hb1 := byte_le d
  have Hd := Lib.hid hd
  rcases range_cases c.toNat 65 90 (by omega) with i | ⟨i, i2⟩ | ⟨i, i2⟩
  · have hcd : c = d := by rw [← hd]; exact (low_lo i).symm
    subst hcd
    clear hd
    cases hr : rng 97 122 c
    · have H := Lib.hid (sc_none Hd.out hr)
      go_enter Tryd.func16, Tryd.ntmps16
      go_wp2_with (go_at_call 55; refine (isSmall_any c _).mono ?_; rintro e w' ⟨rfl, rfl⟩)
      go_ret
      exact ⟨by rw [H.out]; rfl, rfl⟩
    · have H := Lib.hid (sc_letter Hd.out hr)
      obtain ⟨r1, r2⟩ := rng_iff.1 hr
      have hc := ev.cell (c.toNat - 97) (by omega)
      have r3 : (97 : Int) ≤ (c.toNat : Int) := by omega
      have r4 : (c.toNat : Int) ≤ 122 := by omega
      go_enter Tryd.func16, Tryd.ntmps16
      go_wp2_with (go_at_call 55; refine (isSmall_any c _).mono ?_; rintro e w' ⟨rfl, rfl⟩)
      go_ret
      exact ⟨by rw [H.out]; rfl, rfl⟩
  · have hl := low_in i i2
    rw [hd] at hl
    clear hd
    cases hr : rng 97 122 d
    · exfalso; have : rng 97 122 d = true := rng_iff.2 (by omega); rw [hr] at this; cases this
    · have H := Lib.hid (sc_letter Hd.out hr)
      obtain ⟨r1, r2⟩ := rng_iff.1 hr
      have hc := ev.cell (d.toNat - 97) (by omega)
      have r3 : (97 : Int) ≤ (d.toNat : Int) := by omega
      have r4 : (d.toNat : Int) ≤ 122 := by omega
      go_enter Tryd.func16, Tryd.ntmps16
      go_wp2_with (go_at_call 55; refine (isSmall_any d _).mono ?_; rintro e w' ⟨rfl, rfl⟩)
      go_ret
      exact ⟨by rw [H.out]; rfl, rfl⟩
  · have hcd : c = d := by rw [← hd]; exact (low_hi i2).symm
    subst hcd
    clear hd
    have i3 : decide ((c.toNat : Int) ≤ 90) = false := by simp; omega
    cases hr : rng 97 122 c
    · have H := Lib.hid (sc_none Hd.out hr)
      go_enter Tryd.func16, Tryd.ntmps16
      go_wp2_with (go_at_call 55; refine (isSmall_any c _).mono ?_; rintro e w' ⟨rfl, rfl⟩)
      go_ret
      exact ⟨by rw [H.out]; rfl, rfl⟩
    · have H := Lib.hid (sc_letter Hd.out hr)
      obtain ⟨r1, r2⟩ := rng_iff.1 hr
      have hc := ev.cell (c.toNat - 97) (by omega)
      have r3 : (97 : Int) ≤ (c.toNat : Int) := by omega
      have r4 : (c.toNat : Int) ≤ 122 := by omega
      go_enter Tryd.func16, Tryd.ntmps16
      go_wp2_with (go_at_call 55; refine (isSmall_any c _).mono ?_; rintro e w' ⟨rfl, rfl⟩)
      go_ret
      exact ⟨by rw [H.out]; rfl, rfl⟩
set_option maxHeartbeats 1600000 in
theorem specSC_98 (c : UInt8) (w : World) (hd : low c = 98) :
    Calls Tryd.prog 17 #[.int .u8 c.toNat] w fun e w' => e = .returned (.int .i64 (sc c)) ∧ Below w.heap.size w w' := by
  have H : Hid (sc c = 1) := Lib.hid (by rw [sc_letter hd (by decide)]; decide)
  obtain ⟨T, hT⟩ : ∃ T, bstr [low c] = T := ⟨_, rfl⟩
  have Hf : Hid (bstr (fold (bstr [c]).data.toList) = T) := Lib.hid (by rw [bstr_list]; exact hT)
  have f1 : T.toList = [98] := by rw [← hT, toList_eq, bstr_list, hd]
  clear hT
  have ht := text1 w (c.toNat : Int) c rfl
  have hb := (Below.refl w.heap.size w).alloc (Nat.le_refl _) (.cells #[.int .u8 (c.toNat : Int)] 5)
  have Hb := Lib.hid hb; clear hb
  go_enter Tryd.func17, Tryd.ntmps17
  go_wp2_with fail
  refine (specFoldCase (bstr [c]) _ (by rw [bstr_size]; simp)).mono ?_
  rintro e w1 ⟨rfl, hb1⟩
  rw [Hf.out]
  have HB := Lib.hid (Hb.out.trans (hb1.mono Hb.out.size))
  clear hb1 ht
  rename_i K2 a2 K1 a1 K0 a0
  have A1 := Lib.hid a1; clear a1
  go_wp2
  refine A1.out _ _ ?_
  clear A1
  repeat go_step
  go_ret
  exact ⟨by rw [H.out]; rfl, HB.out⟩

set_option maxHeartbeats 1600000 in
theorem specSC_102 (c : UInt8) (w : World) (hd : low c = 102) :
    Calls Tryd.prog 17 #[.int .u8 c.toNat] w fun e w' => e = .returned (.int .i64 (sc c)) ∧ Below w.heap.size w w' := by
  have H : Hid (sc c = 1) := Lib.hid (by rw [sc_letter hd (by decide)]; decide)
  obtain ⟨T, hT⟩ : ∃ T, bstr [low c] = T := ⟨_, rfl⟩
  have Hf : Hid (bstr (fold (bstr [c]).data.toList) = T) := Lib.hid (by rw [bstr_list]; exact hT)
  have f1 : T.toList = [102] := by rw [← hT, toList_eq, bstr_list, hd]
  clear hT
  have ht := text1 w (c.toNat : Int) c rfl
  have hb := (Below.refl w.heap.size w).alloc (Nat.le_refl _) (.cells #[.int .u8 (c.toNat : Int)] 5)
  have Hb := Lib.hid hb; clear hb
  go_enter Tryd.func17, Tryd.ntmps17
  go_wp2_with fail
  refine (specFoldCase (bstr [c]) _ (by rw [bstr_size]; simp)).mono ?_
  rintro e w1 ⟨rfl, hb1⟩
  rw [Hf.out]
  have HB := Lib.hid (Hb.out.trans (hb1.mono Hb.out.size))
  clear hb1 ht
  rename_i K2 a2 K1 a1 K0 a0
  have A1 := Lib.hid a1; clear a1
  go_wp2
  refine A1.out _ _ ?_
  clear A1
  repeat go_step
  go_ret
  exact ⟨by rw [H.out]; rfl, HB.out⟩

set_option maxHeartbeats 1600000 in
theorem specSC_112 (c : UInt8) (w : World) (hd : low c = 112) :
    Calls Tryd.prog 17 #[.int .u8 c.toNat] w fun e w' => e = .returned (.int .i64 (sc c)) ∧ Below w.heap.size w w' := by
  have H : Hid (sc c = 1) := Lib.hid (by rw [sc_letter hd (by decide)]; decide)
  obtain ⟨T, hT⟩ : ∃ T, bstr [low c] = T := ⟨_, rfl⟩
  have Hf : Hid (bstr (fold (bstr [c]).data.toList) = T) := Lib.hid (by rw [bstr_list]; exact hT)
  have f1 : T.toList = [112] := by rw [← hT, toList_eq, bstr_list, hd]
  clear hT
  have ht := text1 w (c.toNat : Int) c rfl
  have hb := (Below.refl w.heap.size w).alloc (Nat.le_refl _) (.cells #[.int .u8 (c.toNat : Int)] 5)
  have Hb := Lib.hid hb; clear hb
  go_enter Tryd.func17, Tryd.ntmps17
  go_wp2_with fail
  refine (specFoldCase (bstr [c]) _ (by rw [bstr_size]; simp)).mono ?_
  rintro e w1 ⟨rfl, hb1⟩
  rw [Hf.out]
  have HB := Lib.hid (Hb.out.trans (hb1.mono Hb.out.size))
  clear hb1 ht
  rename_i K2 a2 K1 a1 K0 a0
  have A1 := Lib.hid a1; clear a1
  go_wp2
  refine A1.out _ _ ?_
  clear A1
  repeat go_step
  go_ret
  exact ⟨by rw [H.out]; rfl, HB.out⟩

set_option maxHeartbeats 1600000 in
theorem specSC_118 (c : UInt8) (w : World) (hd : low c = 118) :
    Calls Tryd.prog 17 #[.int .u8 c.toNat] w fun e w' => e = .returned (.int .i64 (sc c)) ∧ Below w.heap.size w w' := by
  have H : Hid (sc c = 1) := Lib.hid (by rw [sc_letter hd (by decide)]; decide)
  obtain ⟨T, hT⟩ : ∃ T, bstr [low c] = T := ⟨_, rfl⟩
  have Hf : Hid (bstr (fold (bstr [c]).data.toList) = T) := Lib.hid (by rw [bstr_list]; exact hT)
  have f1 : T.toList = [118] := by rw [← hT, toList_eq, bstr_list, hd]
  clear hT
  have ht := text1 w (c.toNat : Int) c rfl
  have hb := (Below.refl w.heap.size w).alloc (Nat.le_refl _) (.cells #[.int .u8 (c.toNat : Int)] 5)
  have Hb := Lib.hid hb; clear hb
  go_enter Tryd.func17, Tryd.ntmps17
  go_wp2_with fail
  refine (specFoldCase (bstr [c]) _ (by rw [bstr_size]; simp)).mono ?_
  rintro e w1 ⟨rfl, hb1⟩
  rw [Hf.out]
  have HB := Lib.hid (Hb.out.trans (hb1.mono Hb.out.size))
  clear hb1 ht
  rename_i K2 a2 K1 a1 K0 a0
  have A1 := Lib.hid a1; clear a1
  go_wp2
  refine A1.out _ _ ?_
  clear A1
  repeat go_step
  go_ret
  exact ⟨by rw [H.out]; rfl, HB.out⟩

set_option maxHeartbeats 1600000 in
theorem specSC_99 (c : UInt8) (w : World) (hd : low c = 99) :
    Calls Tryd.prog 17 #[.int .u8 c.toNat] w fun e w' => e = .returned (.int .i64 (sc c)) ∧ Below w.heap.size w w' := by
  have H : Hid (sc c = 2) := Lib.hid (by rw [sc_letter hd (by decide)]; decide)
  obtain ⟨T, hT⟩ : ∃ T, bstr [low c] = T := ⟨_, rfl⟩
  have Hf : Hid (bstr (fold (bstr [c]).data.toList) = T) := Lib.hid (by rw [bstr_list]; exact hT)
  have f1 : T.toList = [99] := by rw [← hT, toList_eq, bstr_list, hd]
  clear hT
  have ht := text1 w (c.toNat : Int) c rfl
  have hb := (Below.refl w.heap.size w).alloc (Nat.le_refl _) (.cells #[.int .u8 (c.toNat : Int)] 5)
  have Hb := Lib.hid hb; clear hb
  go_enter Tryd.func17, Tryd.ntmps17
  go_wp2_with fail
  refine (specFoldCase (bstr [c]) _ (by rw [bstr_size]; simp)).mono ?_
  rintro e w1 ⟨rfl, hb1⟩
  rw [Hf.out]
  have HB := Lib.hid (Hb.out.trans (hb1.mono Hb.out.size))
  clear hb1 ht
  rename_i K2 a2 K1 a1 K0 a0
  have A1 := Lib.hid a1; clear a1
  go_wp2
  refine A1.out _ _ ?_
  clear A1
  repeat go_step
  go_ret
  exact ⟨by rw [H.out]; rfl, HB.out⟩

set_option maxHeartbeats 1600000 in
theorem specSC_103 (c : UInt8) (w : World) (hd : low c = 103) :
    Calls Tryd.prog 17 #[.int .u8 c.toNat] w fun e w' => e = .returned (.int .i64 (sc c)) ∧ Below w.heap.size w w' := by
  have H : Hid (sc c = 2) := Lib.hid (by rw [sc_letter hd (by decide)]; decide)
  obtain ⟨T, hT⟩ : ∃ T, bstr [low c] = T := ⟨_, rfl⟩
  have Hf : Hid (bstr (fold (bstr [c]).data.toList) = T) := Lib.hid (by rw [bstr_list]; exact hT)
  have f1 : T.toList = [103] := by rw [← hT, toList_eq, bstr_list, hd]
  clear hT
  have ht := text1 w (c.toNat : Int) c rfl
  have hb := (Below.refl w.heap.size w).alloc (Nat.le_refl _) (.cells #[.int .u8 (c.toNat : Int)] 5)
  have Hb := Lib.hid hb; clear hb
  go_enter Tryd.func17, Tryd.ntmps17
  go_wp2_with fail
  refine (specFoldCase (bstr [c]) _ (by rw [bstr_size]; simp)).mono ?_
  rintro e w1 ⟨rfl, hb1⟩
  rw [Hf.out]
  have HB := Lib.hid (Hb.out.trans (hb1.mono Hb.out.size))
  clear hb1 ht
  rename_i K2 a2 K1 a1 K0 a0
  have A1 := Lib.hid a1; clear a1
  go_wp2
  refine A1.out _ _ ?_
  clear A1
  repeat go_step
  go_ret
  exact ⟨by rw [H.out]; rfl, HB.out⟩

set_option maxHeartbeats 1600000 in
theorem specSC_106 (c : UInt8) (w : World) (hd : low c = 106) :
    Calls Tryd.prog 17 #[.int .u8 c.toNat] w fun e w' => e = .returned (.int .i64 (sc c)) ∧ Below w.heap.size w w' := by
  have H : Hid (sc c = 2) := Lib.hid (by rw [sc_letter hd (by decide)]; decide)
  obtain ⟨T, hT⟩ : ∃ T, bstr [low c] = T := ⟨_, rfl⟩
  have Hf : Hid (bstr (fold (bstr [c]).data.toList) = T) := Lib.hid (by rw [bstr_list]; exact hT)
  have f1 : T.toList = [106] := by rw [← hT, toList_eq, bstr_list, hd]
  clear hT
  have ht := text1 w (c.toNat : Int) c rfl
  have hb := (Below.refl w.heap.size w).alloc (Nat.le_refl _) (.cells #[.int .u8 (c.toNat : Int)] 5)
  have Hb := Lib.hid hb; clear hb
  go_enter Tryd.func17, Tryd.ntmps17
  go_wp2_with fail
  refine (specFoldCase (bstr [c]) _ (by rw [bstr_size]; simp)).mono ?_
  rintro e w1 ⟨rfl, hb1⟩
  rw [Hf.out]
  have HB := Lib.hid (Hb.out.trans (hb1.mono Hb.out.size))
  clear hb1 ht
  rename_i K2 a2 K1 a1 K0 a0
  have A1 := Lib.hid a1; clear a1
  go_wp2
  refine A1.out _ _ ?_
  clear A1
  repeat go_step
  go_ret
  exact ⟨by rw [H.out]; rfl, HB.out⟩

set_option maxHeartbeats 1600000 in
theorem specSC_107 (c : UInt8) (w : World) (hd : low c = 107) :
    Calls Tryd.prog 17 #[.int .u8 c.toNat] w fun e w' => e = .returned (.int .i64 (sc c)) ∧ Below w.heap.size w w' := by
  have H : Hid (sc c = 2) := Lib.hid (by rw [sc_letter hd (by decide)]; decide)
  obtain ⟨T, hT⟩ : ∃ T, bstr [low c] = T := ⟨_, rfl⟩
  have Hf : Hid (bstr (fold (bstr [c]).data.toList) = T) := Lib.hid (by rw [bstr_list]; exact hT)
  have f1 : T.toList = [107] := by rw [← hT, toList_eq, bstr_list, hd]
  clear hT
  have ht := text1 w (c.toNat : Int) c rfl
  have hb := (Below.refl w.heap.size w).alloc (Nat.le_refl _) (.cells #[.int .u8 (c.toNat : Int)] 5)
  have Hb := Lib.hid hb; clear hb
  go_enter Tryd.func17, Tryd.ntmps17
  go_wp2_with fail
  refine (specFoldCase (bstr [c]) _ (by rw [bstr_size]; simp)).mono ?_
  rintro e w1 ⟨rfl, hb1⟩
  rw [Hf.out]
  have HB := Lib.hid (Hb.out.trans (hb1.mono Hb.out.size))
  clear hb1 ht
  rename_i K2 a2 K1 a1 K0 a0
  have A1 := Lib.hid a1; clear a1
  go_wp2
  refine A1.out _ _ ?_
  clear A1
  repeat go_step
  go_ret
  exact ⟨by rw [H.out]; rfl, HB.out⟩

set_option maxHeartbeats 1600000 in
theorem specSC_113 (c : UInt8) (w : World) (hd : low c = 113) :
    Calls Tryd.prog 17 #[.int .u8 c.toNat] w fun e w' => e = .returned (.int .i64 (sc c)) ∧ Below w.heap.size w w' := by
  have H : Hid (sc c = 2) := Lib.hid (by rw [sc_letter hd (by decide)]; decide)
  obtain ⟨T, hT⟩ : ∃ T, bstr [low c] = T := ⟨_, rfl⟩
  have Hf : Hid (bstr (fold (bstr [c]).data.toList) = T) := Lib.hid (by rw [bstr_list]; exact hT)
  have f1 : T.toList = [113] := by rw [← hT, toList_eq, bstr_list, hd]
  clear hT
  have ht := text1 w (c.toNat : Int) c rfl
  have hb := (Below.refl w.heap.size w).alloc (Nat.le_refl _) (.cells #[.int .u8 (c.toNat : Int)] 5)
  have Hb := Lib.hid hb; clear hb
  go_enter Tryd.func17, Tryd.ntmps17
  go_wp2_with fail
  refine (specFoldCase (bstr [c]) _ (by rw [bstr_size]; simp)).mono ?_
  rintro e w1 ⟨rfl, hb1⟩
  rw [Hf.out]
  have HB := Lib.hid (Hb.out.trans (hb1.mono Hb.out.size))
  clear hb1 ht
  rename_i K2 a2 K1 a1 K0 a0
  have A1 := Lib.hid a1; clear a1
  go_wp2
  refine A1.out _ _ ?_
  clear A1
  repeat go_step
  go_ret
  exact ⟨by rw [H.out]; rfl, HB.out⟩

set_option maxHeartbeats 1600000 in
theorem specSC_115 (c : UInt8) (w : World) (hd : low c = 115) :
    Calls Tryd.prog 17 #[.int .u8 c.toNat] w fun e w' => e = .returned (.int .i64 (sc c)) ∧ Below w.heap.size w w' := by
  have H : Hid (sc c = 2) := Lib.hid (by rw [sc_letter hd (by decide)]; decide)
  obtain ⟨T, hT⟩ : ∃ T, bstr [low c] = T := ⟨_, rfl⟩
  have Hf : Hid (bstr (fold (bstr [c]).data.toList) = T) := Lib.hid (by rw [bstr_list]; exact hT)
  have f1 : T.toList = [115] := by rw [← hT, toList_eq, bstr_list, hd]
  clear hT
  have ht := text1 w (c.toNat : Int) c rfl
  have hb := (Below.refl w.heap.size w).alloc (Nat.le_refl _) (.cells #[.int .u8 (c.toNat : Int)] 5)
  have Hb := Lib.hid hb; clear hb
  go_enter Tryd.func17, Tryd.ntmps17
  go_wp2_with fail
  refine (specFoldCase (bstr [c]) _ (by rw [bstr_size]; simp)).mono ?_
  rintro e w1 ⟨rfl, hb1⟩
  rw [Hf.out]
  have HB := Lib.hid (Hb.out.trans (hb1.mono Hb.out.size))
  clear hb1 ht
  rename_i K2 a2 K1 a1 K0 a0
  have A1 := Lib.hid a1; clear a1
  go_wp2
  refine A1.out _ _ ?_
  clear A1
  repeat go_step
  go_ret
  exact ⟨by rw [H.out]; rfl, HB.out⟩

set_option maxHeartbeats 1600000 in
theorem specSC_120 (c : UInt8) (w : World) (hd : low c = 120) :
    Calls Tryd.prog 17 #[.int .u8 c.toNat] w fun e w' => e = .returned (.int .i64 (sc c)) ∧ Below w.heap.size w w' := by
  have H : Hid (sc c = 2) := Lib.hid (by rw [sc_letter hd (by decide)]; decide)
  obtain ⟨T, hT⟩ : ∃ T, bstr [low c] = T := ⟨_, rfl⟩
  have Hf : Hid (bstr (fold (bstr [c]).data.toList) = T) := Lib.hid (by rw [bstr_list]; exact hT)
  have f1 : T.toList = [120] := by rw [← hT, toList_eq, bstr_list, hd]
  clear hT
  have ht := text1 w (c.toNat : Int) c rfl
  have hb := (Below.refl w.heap.size w).alloc (Nat.le_refl _) (.cells #[.int .u8 (c.toNat : Int)] 5)
  have Hb := Lib.hid hb; clear hb
  go_enter Tryd.func17, Tryd.ntmps17
  go_wp2_with fail
  refine (specFoldCase (bstr [c]) _ (by rw [bstr_size]; simp)).mono ?_
  rintro e w1 ⟨rfl, hb1⟩
  rw [Hf.out]
  have HB := Lib.hid (Hb.out.trans (hb1.mono Hb.out.size))
  clear hb1 ht
  rename_i K2 a2 K1 a1 K0 a0
  have A1 := Lib.hid a1; clear a1
  go_wp2
  refine A1.out _ _ ?_
  clear A1
  repeat go_step
  go_ret
  exact ⟨by rw [H.out]; rfl, HB.out⟩

set_option maxHeartbeats 1600000 in
theorem specSC_122 (c : UInt8) (w : World) (hd : low c = 122) :
    Calls Tryd.prog 17 #[.int .u8 c.toNat] w fun e w' => e = .returned (.int .i64 (sc c)) ∧ Below w.heap.size w w' := by
  have H : Hid (sc c = 2) := Lib.hid (by rw [sc_letter hd (by decide)]; decide)
  obtain ⟨T, hT⟩ : ∃ T, bstr [low c] = T := ⟨_, rfl⟩
  have Hf : Hid (bstr (fold (bstr [c]).data.toList) = T) := Lib.hid (by rw [bstr_list]; exact hT)
  have f1 : T.toList = [122] := by rw [← hT, toList_eq, bstr_list, hd]
  clear hT
  have ht := text1 w (c.toNat : Int) c rfl
  have hb := (Below.refl w.heap.size w).alloc (Nat.le_refl _) (.cells #[.int .u8 (c.toNat : Int)] 5)
  have Hb := Lib.hid hb; clear hb
  go_enter Tryd.func17, Tryd.ntmps17
  go_wp2_with fail
  refine (specFoldCase (bstr [c]) _ (by rw [bstr_size]; simp)).mono ?_
  rintro e w1 ⟨rfl, hb1⟩
  rw [Hf.out]
  have HB := Lib.hid (Hb.out.trans (hb1.mono Hb.out.size))
  clear hb1 ht
  rename_i K2 a2 K1 a1 K0 a0
  have A1 := Lib.hid a1; clear a1
  go_wp2
  refine A1.out _ _ ?_
  clear A1
  repeat go_step
  go_ret
  exact ⟨by rw [H.out]; rfl, HB.out⟩

set_option maxHeartbeats 1600000 in
theorem specSC_100 (c : UInt8) (w : World) (hd : low c = 100) :
    Calls Tryd.prog 17 #[.int .u8 c.toNat] w fun e w' => e = .returned (.int .i64 (sc c)) ∧ Below w.heap.size w w' := by
  have H : Hid (sc c = 3) := Lib.hid (by rw [sc_letter hd (by decide)]; decide)
  obtain ⟨T, hT⟩ : ∃ T, bstr [low c] = T := ⟨_, rfl⟩
  have Hf : Hid (bstr (fold (bstr [c]).data.toList) = T) := Lib.hid (by rw [bstr_list]; exact hT)
  have f1 : T.toList = [100] := by rw [← hT, toList_eq, bstr_list, hd]
  clear hT
  have ht := text1 w (c.toNat : Int) c rfl
  have hb := (Below.refl w.heap.size w).alloc (Nat.le_refl _) (.cells #[.int .u8 (c.toNat : Int)] 5)
  have Hb := Lib.hid hb; clear hb
  go_enter Tryd.func17, Tryd.ntmps17
  go_wp2_with fail
  refine (specFoldCase (bstr [c]) _ (by rw [bstr_size]; simp)).mono ?_
  rintro e w1 ⟨rfl, hb1⟩
  rw [Hf.out]
  have HB := Lib.hid (Hb.out.trans (hb1.mono Hb.out.size))
  clear hb1 ht
  rename_i K2 a2 K1 a1 K0 a0
  have A1 := Lib.hid a1; clear a1
  go_wp2
  refine A1.out _ _ ?_
  clear A1
  repeat go_step
  go_ret
  exact ⟨by rw [H.out]; rfl, HB.out⟩

set_option maxHeartbeats 1600000 in
theorem specSC_116 (c : UInt8) (w : World) (hd : low c = 116) :
    Calls Tryd.prog 17 #[.int .u8 c.toNat] w fun e w' => e = .returned (.int .i64 (sc c)) ∧ Below w.heap.size w w' := by
  have H : Hid (sc c = 3) := Lib.hid (by rw [sc_letter hd (by decide)]; decide)
  obtain ⟨T, hT⟩ : ∃ T, bstr [low c] = T := ⟨_, rfl⟩
  have Hf : Hid (bstr (fold (bstr [c]).data.toList) = T) := Lib.hid (by rw [bstr_list]; exact hT)
  have f1 : T.toList = [116] := by rw [← hT, toList_eq, bstr_list, hd]
  clear hT
  have ht := text1 w (c.toNat : Int) c rfl
  have hb := (Below.refl w.heap.size w).alloc (Nat.le_refl _) (.cells #[.int .u8 (c.toNat : Int)] 5)
  have Hb := Lib.hid hb; clear hb
  go_enter Tryd.func17, Tryd.ntmps17
  go_wp2_with fail
  refine (specFoldCase (bstr [c]) _ (by rw [bstr_size]; simp)).mono ?_
  rintro e w1 ⟨rfl, hb1⟩
  rw [Hf.out]
  have HB := Lib.hid (Hb.out.trans (hb1.mono Hb.out.size))
  clear hb1 ht
  rename_i K2 a2 K1 a1 K0 a0
  have A1 := Lib.hid a1; clear a1
  go_wp2
  refine A1.out _ _ ?_
  clear A1
  repeat go_step
  go_ret
  exact ⟨by rw [H.out]; rfl, HB.out⟩

set_option maxHeartbeats 1600000 in
theorem specSC_108 (c : UInt8) (w : World) (hd : low c = 108) :
    Calls Tryd.prog 17 #[.int .u8 c.toNat] w fun e w' => e = .returned (.int .i64 (sc c)) ∧ Below w.heap.size w w' := by
  have H : Hid (sc c = 4) := Lib.hid (by rw [sc_letter hd (by decide)]; decide)
  obtain ⟨T, hT⟩ : ∃ T, bstr [low c] = T := ⟨_, rfl⟩
  have Hf : Hid (bstr (fold (bstr [c]).data.toList) = T) := Lib.hid (by rw [bstr_list]; exact hT)
  have f1 : T.toList = [108] := by rw [← hT, toList_eq, bstr_list, hd]
  clear hT
  have ht := text1 w (c.toNat : Int) c rfl
  have hb := (Below.refl w.heap.size w).alloc (Nat.le_refl _) (.cells #[.int .u8 (c.toNat : Int)] 5)
  have Hb := Lib.hid hb; clear hb
  go_enter Tryd.func17, Tryd.ntmps17
  go_wp2_with fail
  refine (specFoldCase (bstr [c]) _ (by rw [bstr_size]; simp)).mono ?_
  rintro e w1 ⟨rfl, hb1⟩
  rw [Hf.out]
  have HB := Lib.hid (Hb.out.trans (hb1.mono Hb.out.size))
  clear hb1 ht
  rename_i K2 a2 K1 a1 K0 a0
  have A1 := Lib.hid a1; clear a1
  go_wp2
  refine A1.out _ _ ?_
  clear A1
  repeat go_step
  go_ret
  exact ⟨by rw [H.out]; rfl, HB.out⟩

set_option maxHeartbeats 1600000 in
theorem specSC_109 (c : UInt8) (w : World) (hd : low c = 109) :
    Calls Tryd.prog 17 #[.int .u8 c.toNat] w fun e w' => e = .returned (.int .i64 (sc c)) ∧ Below w.heap.size w w' := by
  have H : Hid (sc c = 5) := Lib.hid (by rw [sc_letter hd (by decide)]; decide)
  obtain ⟨T, hT⟩ : ∃ T, bstr [low c] = T := ⟨_, rfl⟩
  have Hf : Hid (bstr (fold (bstr [c]).data.toList) = T) := Lib.hid (by rw [bstr_list]; exact hT)
  have f1 : T.toList = [109] := by rw [← hT, toList_eq, bstr_list, hd]
  clear hT
  have ht := text1 w (c.toNat : Int) c rfl
  have hb := (Below.refl w.heap.size w).alloc (Nat.le_refl _) (.cells #[.int .u8 (c.toNat : Int)] 5)
  have Hb := Lib.hid hb; clear hb
  go_enter Tryd.func17, Tryd.ntmps17
  go_wp2_with fail
  refine (specFoldCase (bstr [c]) _ (by rw [bstr_size]; simp)).mono ?_
  rintro e w1 ⟨rfl, hb1⟩
  rw [Hf.out]
  have HB := Lib.hid (Hb.out.trans (hb1.mono Hb.out.size))
  clear hb1 ht
  rename_i K2 a2 K1 a1 K0 a0
  have A1 := Lib.hid a1; clear a1
  go_wp2
  refine A1.out _ _ ?_
  clear A1
  repeat go_step
  go_ret
  exact ⟨by rw [H.out]; rfl, HB.out⟩

set_option maxHeartbeats 1600000 in
theorem specSC_110 (c : UInt8) (w : World) (hd : low c = 110) :
    Calls Tryd.prog 17 #[.int .u8 c.toNat] w fun e w' => e = .returned (.int .i64 (sc c)) ∧ Below w.heap.size w w' := by
  have H : Hid (sc c = 5) := Lib.hid (by rw [sc_letter hd (by decide)]; decide)
  obtain ⟨T, hT⟩ : ∃ T, bstr [low c] = T := ⟨_, rfl⟩
  have Hf : Hid (bstr (fold (bstr [c]).data.toList) = T) := Lib.hid (by rw [bstr_list]; exact hT)
  have f1 : T.toList = [110] := by rw [← hT, toList_eq, bstr_list, hd]
  clear hT
  have ht := text1 w (c.toNat : Int) c rfl
  have hb := (Below.refl w.heap.size w).alloc (Nat.le_refl _) (.cells #[.int .u8 (c.toNat : Int)] 5)
  have Hb := Lib.hid hb; clear hb
  go_enter Tryd.func17, Tryd.ntmps17
  go_wp2_with fail
  refine (specFoldCase (bstr [c]) _ (by rw [bstr_size]; simp)).mono ?_
  rintro e w1 ⟨rfl, hb1⟩
  rw [Hf.out]
  have HB := Lib.hid (Hb.out.trans (hb1.mono Hb.out.size))
  clear hb1 ht
  rename_i K2 a2 K1 a1 K0 a0
  have A1 := Lib.hid a1; clear a1
  go_wp2
  refine A1.out _ _ ?_
  clear A1
  repeat go_step
  go_ret
  exact ⟨by rw [H.out]; rfl, HB.out⟩

set_option maxHeartbeats 1600000 in
theorem specSC_114 (c : UInt8) (w : World) (hd : low c = 114) :
    Calls Tryd.prog 17 #[.int .u8 c.toNat] w fun e w' => e = .returned (.int .i64 (sc c)) ∧ Below w.heap.size w w' := by
  have H : Hid (sc c = 6) := Lib.hid (by rw [sc_letter hd (by decide)]; decide)
  obtain ⟨T, hT⟩ : ∃ T, bstr [low c] = T := ⟨_, rfl⟩
  have Hf : Hid (bstr (fold (bstr [c]).data.toList) = T) := Lib.hid (by rw [bstr_list]; exact hT)
  have f1 : T.toList = [114] := by rw [← hT, toList_eq, bstr_list, hd]
  clear hT
  have ht := text1 w (c.toNat : Int) c rfl
  have hb := (Below.refl w.heap.size w).alloc (Nat.le_refl _) (.cells #[.int .u8 (c.toNat : Int)] 5)
  have Hb := Lib.hid hb; clear hb
  go_enter Tryd.func17, Tryd.ntmps17
  go_wp2_with fail
  refine (specFoldCase (bstr [c]) _ (by rw [bstr_size]; simp)).mono ?_
  rintro e w1 ⟨rfl, hb1⟩
  rw [Hf.out]
  have HB := Lib.hid (Hb.out.trans (hb1.mono Hb.out.size))
  clear hb1 ht
  rename_i K2 a2 K1 a1 K0 a0
  have A1 := Lib.hid a1; clear a1
  go_wp2
  refine A1.out _ _ ?_
  clear A1
  repeat go_step
  go_ret
  exact ⟨by rw [H.out]; rfl, HB.out⟩

set_option maxHeartbeats 1600000 in
theorem specSC_97 (c : UInt8) (w : World) (hd : low c = 97) :
    Calls Tryd.prog 17 #[.int .u8 c.toNat] w fun e w' => e = .returned (.int .i64 (sc c)) ∧ Below w.heap.size w w' := by
  have H : Hid (sc c = 0) := Lib.hid (by rw [sc_letter hd (by decide)]; decide)
  obtain ⟨T, hT⟩ : ∃ T, bstr [low c] = T := ⟨_, rfl⟩
  have Hf : Hid (bstr (fold (bstr [c]).data.toList) = T) := Lib.hid (by rw [bstr_list]; exact hT)
  have f1 : T.toList = [97] := by rw [← hT, toList_eq, bstr_list, hd]
  clear hT
  have ht := text1 w (c.toNat : Int) c rfl
  have hb := (Below.refl w.heap.size w).alloc (Nat.le_refl _) (.cells #[.int .u8 (c.toNat : Int)] 5)
  have Hb := Lib.hid hb; clear hb
  go_enter Tryd.func17, Tryd.ntmps17
  go_wp2_with fail
  refine (specFoldCase (bstr [c]) _ (by rw [bstr_size]; simp)).mono ?_
  rintro e w1 ⟨rfl, hb1⟩
  rw [Hf.out]
  have HB := Lib.hid (Hb.out.trans (hb1.mono Hb.out.size))
  clear hb1 ht
  rename_i K2 a2 K1 a1 K0 a0
  have A1 := Lib.hid a1; clear a1
  go_wp2
  refine A1.out _ _ ?_
  clear A1
  repeat go_step
  go_ret
  exact ⟨by rw [H.out]; rfl, HB.out⟩

set_option maxHeartbeats 1600000 in
theorem specSC_101 (c : UInt8) (w : World) (hd : low c = 101) :
    Calls Tryd.prog 17 #[.int .u8 c.toNat] w fun e w' => e = .returned (.int .i64 (sc c)) ∧ Below w.heap.size w w' := by
  have H : Hid (sc c = 0) := Lib.hid (by rw [sc_letter hd (by decide)]; decide)
  obtain ⟨T, hT⟩ : ∃ T, bstr [low c] = T := ⟨_, rfl⟩
  have Hf : Hid (bstr (fold (bstr [c]).data.toList) = T) := Lib.hid (by rw [bstr_list]; exact hT)
  have f1 : T.toList = [101] := by rw [← hT, toList_eq, bstr_list, hd]
  clear hT
  have ht := text1 w (c.toNat : Int) c rfl
  have hb := (Below.refl w.heap.size w).alloc (Nat.le_refl _) (.cells #[.int .u8 (c.toNat : Int)] 5)
  have Hb := Lib.hid hb; clear hb
  go_enter Tryd.func17, Tryd.ntmps17
  go_wp2_with fail
  refine (specFoldCase (bstr [c]) _ (by rw [bstr_size]; simp)).mono ?_
  rintro e w1 ⟨rfl, hb1⟩
  rw [Hf.out]
  have HB := Lib.hid (Hb.out.trans (hb1.mono Hb.out.size))
  clear hb1 ht
  rename_i K2 a2 K1 a1 K0 a0
  have A1 := Lib.hid a1; clear a1
  go_wp2
  refine A1.out _ _ ?_
  clear A1
  repeat go_step
  go_ret
  exact ⟨by rw [H.out]; rfl, HB.out⟩

set_option maxHeartbeats 1600000 in
theorem specSC_105 (c : UInt8) (w : World) (hd : low c = 105) :
    Calls Tryd.prog 17 #[.int .u8 c.toNat] w fun e w' => e = .returned (.int .i64 (sc c)) ∧ Below w.heap.size w w' := by
  have H : Hid (sc c = 0) := Lib.hid (by rw [sc_letter hd (by decide)]; decide)
  obtain ⟨T, hT⟩ : ∃ T, bstr [low c] = T := ⟨_, rfl⟩
  have Hf : Hid (bstr (fold (bstr [c]).data.toList) = T) := Lib.hid (by rw [bstr_list]; exact hT)
  have f1 : T.toList = [105] := by rw [← hT, toList_eq, bstr_list, hd]
  clear hT
  have ht := text1 w (c.toNat : Int) c rfl
  have hb := (Below.refl w.heap.size w).alloc (Nat.le_refl _) (.cells #[.int .u8 (c.toNat : Int)] 5)
  have Hb := Lib.hid hb; clear hb
  go_enter Tryd.func17, Tryd.ntmps17
  go_wp2_with fail
  refine (specFoldCase (bstr [c]) _ (by rw [bstr_size]; simp)).mono ?_
  rintro e w1 ⟨rfl, hb1⟩
  rw [Hf.out]
  have HB := Lib.hid (Hb.out.trans (hb1.mono Hb.out.size))
  clear hb1 ht
  rename_i K2 a2 K1 a1 K0 a0
  have A1 := Lib.hid a1; clear a1
  go_wp2
  refine A1.out _ _ ?_
  clear A1
  repeat go_step
  go_ret
  exact ⟨by rw [H.out]; rfl, HB.out⟩

set_option maxHeartbeats 1600000 in
theorem specSC_111 (c : UInt8) (w : World) (hd : low c = 111) :
    Calls Tryd.prog 17 #[.int .u8 c.toNat] w fun e w' => e = .returned (.int .i64 (sc c)) ∧ Below w.heap.size w w' := by
  have H : Hid (sc c = 0) := Lib.hid (by rw [sc_letter hd (by decide)]; decide)
  obtain ⟨T, hT⟩ : ∃ T, bstr [low c] = T := ⟨_, rfl⟩
  have Hf : Hid (bstr (fold (bstr [c]).data.toList) = T) := Lib.hid (by rw [bstr_list]; exact hT)
  have f1 : T.toList = [111] := by rw [← hT, toList_eq, bstr_list, hd]
  clear hT
  have ht := text1 w (c.toNat : Int) c rfl
  have hb := (Below.refl w.heap.size w).alloc (Nat.le_refl _) (.cells #[.int .u8 (c.toNat : Int)] 5)
  have Hb := Lib.hid hb; clear hb
  go_enter Tryd.func17, Tryd.ntmps17
  go_wp2_with fail
  refine (specFoldCase (bstr [c]) _ (by rw [bstr_size]; simp)).mono ?_
  rintro e w1 ⟨rfl, hb1⟩
  rw [Hf.out]
  have HB := Lib.hid (Hb.out.trans (hb1.mono Hb.out.size))
  clear hb1 ht
  rename_i K2 a2 K1 a1 K0 a0
  have A1 := Lib.hid a1; clear a1
  go_wp2
  refine A1.out _ _ ?_
  clear A1
  repeat go_step
  go_ret
  exact ⟨by rw [H.out]; rfl, HB.out⟩

set_option maxHeartbeats 1600000 in
theorem specSC_117 (c : UInt8) (w : World) (hd : low c = 117) :
    Calls Tryd.prog 17 #[.int .u8 c.toNat] w fun e w' => e = .returned (.int .i64 (sc c)) ∧ Below w.heap.size w w' := by
  have H : Hid (sc c = 0) := Lib.hid (by rw [sc_letter hd (by decide)]; decide)
  obtain ⟨T, hT⟩ : ∃ T, bstr [low c] = T := ⟨_, rfl⟩
  have Hf : Hid (bstr (fold (bstr [c]).data.toList) = T) := Lib.hid (by rw [bstr_list]; exact hT)
  have f1 : T.toList = [117] := by rw [← hT, toList_eq, bstr_list, hd]
  clear hT
  have ht := text1 w (c.toNat : Int) c rfl
  have hb := (Below.refl w.heap.size w).alloc (Nat.le_refl _) (.cells #[.int .u8 (c.toNat : Int)] 5)
  have Hb := Lib.hid hb; clear hb
  go_enter Tryd.func17, Tryd.ntmps17
  go_wp2_with fail
  refine (specFoldCase (bstr [c]) _ (by rw [bstr_size]; simp)).mono ?_
  rintro e w1 ⟨rfl, hb1⟩
  rw [Hf.out]
  have HB := Lib.hid (Hb.out.trans (hb1.mono Hb.out.size))
  clear hb1 ht
  rename_i K2 a2 K1 a1 K0 a0
  have A1 := Lib.hid a1; clear a1
  go_wp2
  refine A1.out _ _ ?_
  clear A1
  repeat go_step
  go_ret
  exact ⟨by rw [H.out]; rfl, HB.out⟩

set_option maxHeartbeats 1600000 in
theorem specSC_121 (c : UInt8) (w : World) (hd : low c = 121) :
    Calls Tryd.prog 17 #[.int .u8 c.toNat] w fun e w' => e = .returned (.int .i64 (sc c)) ∧ Below w.heap.size w w' := by
  have H : Hid (sc c = 0) := Lib.hid (by rw [sc_letter hd (by decide)]; decide)
  obtain ⟨T, hT⟩ : ∃ T, bstr [low c] = T := ⟨_, rfl⟩
  have Hf : Hid (bstr (fold (bstr [c]).data.toList) = T) := Lib.hid (by rw [bstr_list]; exact hT)
  have f1 : T.toList = [121] := by rw [← hT, toList_eq, bstr_list, hd]
  clear hT
  have ht := text1 w (c.toNat : Int) c rfl
  have hb := (Below.refl w.heap.size w).alloc (Nat.le_refl _) (.cells #[.int .u8 (c.toNat : Int)] 5)
  have Hb := Lib.hid hb; clear hb
  go_enter Tryd.func17, Tryd.ntmps17
  go_wp2_with fail
  refine (specFoldCase (bstr [c]) _ (by rw [bstr_size]; simp)).mono ?_
  rintro e w1 ⟨rfl, hb1⟩
  rw [Hf.out]
  have HB := Lib.hid (Hb.out.trans (hb1.mono Hb.out.size))
  clear hb1 ht
  rename_i K2 a2 K1 a1 K0 a0
  have A1 := Lib.hid a1; clear a1
  go_wp2
  refine A1.out _ _ ?_
  clear A1
  repeat go_step
  go_ret
  exact ⟨by rw [H.out]; rfl, HB.out⟩

set_option maxHeartbeats 1600000 in
theorem specSC_104 (c : UInt8) (w : World) (hd : low c = 104) :
    Calls Tryd.prog 17 #[.int .u8 c.toNat] w fun e w' => e = .returned (.int .i64 (sc c)) ∧ Below w.heap.size w w' := by
  have H : Hid (sc c = (-1)) := Lib.hid (by rw [sc_letter hd (by decide)]; decide)
  obtain ⟨T, hT⟩ : ∃ T, bstr [low c] = T := ⟨_, rfl⟩
  have Hf : Hid (bstr (fold (bstr [c]).data.toList) = T) := Lib.hid (by rw [bstr_list]; exact hT)
  have f1 : T.toList = [104] := by rw [← hT, toList_eq, bstr_list, hd]
  clear hT
  have ht := text1 w (c.toNat : Int) c rfl
  have hb := (Below.refl w.heap.size w).alloc (Nat.le_refl _) (.cells #[.int .u8 (c.toNat : Int)] 5)
  have Hb := Lib.hid hb; clear hb
  go_enter Tryd.func17, Tryd.ntmps17
  go_wp2_with fail
  refine (specFoldCase (bstr [c]) _ (by rw [bstr_size]; simp)).mono ?_
  rintro e w1 ⟨rfl, hb1⟩
  rw [Hf.out]
  have HB := Lib.hid (Hb.out.trans (hb1.mono Hb.out.size))
  clear hb1 ht
  rename_i K2 a2 K1 a1 K0 a0
  have A1 := Lib.hid a1; clear a1
  go_wp2
  refine A1.out _ _ ?_
  clear A1
  repeat go_step
  go_ret
  exact ⟨by rw [H.out]; rfl, HB.out⟩

set_option maxHeartbeats 1600000 in
theorem specSC_119 (c : UInt8) (w : World) (hd : low c = 119) :
    Calls Tryd.prog 17 #[.int .u8 c.toNat] w fun e w' => e = .returned (.int .i64 (sc c)) ∧ Below w.heap.size w w' := by
  have H : Hid (sc c = (-1)) := Lib.hid (by rw [sc_letter hd (by decide)]; decide)
  obtain ⟨T, hT⟩ : ∃ T, bstr [low c] = T := ⟨_, rfl⟩
  have Hf : Hid (bstr (fold (bstr [c]).data.toList) = T) := Lib.hid (by rw [bstr_list]; exact hT)
  have f1 : T.toList = [119] := by rw [← hT, toList_eq, bstr_list, hd]
  clear hT
  have ht := text1 w (c.toNat : Int) c rfl
  have hb := (Below.refl w.heap.size w).alloc (Nat.le_refl _) (.cells #[.int .u8 (c.toNat : Int)] 5)
  have Hb := Lib.hid hb; clear hb
  go_enter Tryd.func17, Tryd.ntmps17
  go_wp2_with fail
  refine (specFoldCase (bstr [c]) _ (by rw [bstr_size]; simp)).mono ?_
  rintro e w1 ⟨rfl, hb1⟩
  rw [Hf.out]
  have HB := Lib.hid (Hb.out.trans (hb1.mono Hb.out.size))
  clear hb1 ht
  rename_i K2 a2 K1 a1 K0 a0
  have A1 := Lib.hid a1; clear a1
  go_wp2
  refine A1.out _ _ ?_
  clear A1
  repeat go_step
  go_ret
  exact ⟨by rw [H.out]; rfl, HB.out⟩

set_option maxHeartbeats 1600000 in
theorem specSC_no (c : UInt8) (w : World) (hd : rng 97 122 (low c) = false) :
    Calls Tryd.prog 17 #[.int .u8 c.toNat] w fun e w' => e = .returned (.int .i64 (sc c)) ∧ Below w.heap.size w w' := by
  have H : Hid (sc c = (-2)) := Lib.hid (sc_none rfl hd)
  obtain ⟨T, hT⟩ : ∃ T, bstr [low c] = T := ⟨_, rfl⟩
  have Hf : Hid (bstr (fold (bstr [c]).data.toList) = T) := Lib.hid (by rw [bstr_list]; exact hT)
  have f1 : T.toList = [low c] := by rw [← hT, toList_eq, bstr_list]
  have g98 : (low c == 98) = false := beq_eq_false_iff_ne.2 (by intro e; rw [e] at hd; revert hd; decide)
  have g102 : (low c == 102) = false := beq_eq_false_iff_ne.2 (by intro e; rw [e] at hd; revert hd; decide)
  have g112 : (low c == 112) = false := beq_eq_false_iff_ne.2 (by intro e; rw [e] at hd; revert hd; decide)
  have g118 : (low c == 118) = false := beq_eq_false_iff_ne.2 (by intro e; rw [e] at hd; revert hd; decide)
  have g99 : (low c == 99) = false := beq_eq_false_iff_ne.2 (by intro e; rw [e] at hd; revert hd; decide)
  have g103 : (low c == 103) = false := beq_eq_false_iff_ne.2 (by intro e; rw [e] at hd; revert hd; decide)
  have g106 : (low c == 106) = false := beq_eq_false_iff_ne.2 (by intro e; rw [e] at hd; revert hd; decide)
  have g107 : (low c == 107) = false := beq_eq_false_iff_ne.2 (by intro e; rw [e] at hd; revert hd; decide)
  have g113 : (low c == 113) = false := beq_eq_false_iff_ne.2 (by intro e; rw [e] at hd; revert hd; decide)
  have g115 : (low c == 115) = false := beq_eq_false_iff_ne.2 (by intro e; rw [e] at hd; revert hd; decide)
  have g120 : (low c == 120) = false := beq_eq_false_iff_ne.2 (by intro e; rw [e] at hd; revert hd; decide)
  have g122 : (low c == 122) = false := beq_eq_false_iff_ne.2 (by intro e; rw [e] at hd; revert hd; decide)
  have g100 : (low c == 100) = false := beq_eq_false_iff_ne.2 (by intro e; rw [e] at hd; revert hd; decide)
  have g116 : (low c == 116) = false := beq_eq_false_iff_ne.2 (by intro e; rw [e] at hd; revert hd; decide)
  have g108 : (low c == 108) = false := beq_eq_false_iff_ne.2 (by intro e; rw [e] at hd; revert hd; decide)
  have g109 : (low c == 109) = false := beq_eq_false_iff_ne.2 (by intro e; rw [e] at hd; revert hd; decide)
  have g110 : (low c == 110) = false := beq_eq_false_iff_ne.2 (by intro e; rw [e] at hd; revert hd; decide)
  have g114 : (low c == 114) = false := beq_eq_false_iff_ne.2 (by intro e; rw [e] at hd; revert hd; decide)
  have g97 : (low c == 97) = false := beq_eq_false_iff_ne.2 (by intro e; rw [e] at hd; revert hd; decide)
  have g101 : (low c == 101) = false := beq_eq_false_iff_ne.2 (by intro e; rw [e] at hd; revert hd; decide)
  have g105 : (low c == 105) = false := beq_eq_false_iff_ne.2 (by intro e; rw [e] at hd; revert hd; decide)
  have g111 : (low c == 111) = false := beq_eq_false_iff_ne.2 (by intro e; rw [e] at hd; revert hd; decide)
  have g117 : (low c == 117) = false := beq_eq_false_iff_ne.2 (by intro e; rw [e] at hd; revert hd; decide)
  have g121 : (low c == 121) = false := beq_eq_false_iff_ne.2 (by intro e; rw [e] at hd; revert hd; decide)
  have g104 : (low c == 104) = false := beq_eq_false_iff_ne.2 (by intro e; rw [e] at hd; revert hd; decide)
  have g119 : (low c == 119) = false := beq_eq_false_iff_ne.2 (by intro e; rw [e] at hd; revert hd; decide)
  obtain ⟨d, hdd⟩ : ∃ d, low c = d := ⟨_, rfl⟩
  rw [hdd] at f1 g98 g102 g112 g118 g99 g103 g106 g107 g113 g115 g120 g122 g100 g116 g108 g109 g110 g114 g97 g101 g105 g111 g117 g121 g104 g119
  clear hdd
  clear hT
  have ht := text1 w (c.toNat : Int) c rfl
  have hb := (Below.refl w.heap.size w).alloc (Nat.le_refl _) (.cells #[.int .u8 (c.toNat : Int)] 5)
  have Hb := Lib.hid hb; clear hb
  go_enter Tryd.func17, Tryd.ntmps17
  go_wp2_with fail
  refine (specFoldCase (bstr [c]) _ (by rw [bstr_size]; simp)).mono ?_
  rintro e w1 ⟨rfl, hb1⟩
  rw [Hf.out]
  have HB := Lib.hid (Hb.out.trans (hb1.mono Hb.out.size))
  clear hb1 ht
  rename_i K2 a2 K1 a1 K0 a0
  have A1 := Lib.hid a1; clear a1
  go_wp2
  refine A1.out _ _ ?_
  clear A1
  repeat go_step
  go_ret
  exact ⟨by rw [H.out]; rfl, HB.out⟩

theorem specSoundCode (c : UInt8) (w : World) :
    Calls Tryd.prog 17 #[.int .u8 c.toNat] w fun e w' => e = .returned (.int .i64 (sc c)) ∧ Below w.heap.size w w' := by
  cases hr : rng 97 122 (low c)
  · exact specSC_no c w hr
  · obtain ⟨r1, r2⟩ := rng_iff.1 hr
    have h : (low c).toNat = 97 ∨ (low c).toNat = 98 ∨ (low c).toNat = 99 ∨ (low c).toNat = 100 ∨ (low c).toNat = 101 ∨ (low c).toNat = 102 ∨ (low c).toNat = 103 ∨ (low c).toNat = 104 ∨ (low c).toNat = 105 ∨ (low c).toNat = 106 ∨ (low c).toNat = 107 ∨ (low c).toNat = 108 ∨ (low c).toNat = 109 ∨ (low c).toNat = 110 ∨ (low c).toNat = 111 ∨ (low c).toNat = 112 ∨ (low c).toNat = 113 ∨ (low c).toNat = 114 ∨ (low c).toNat = 115 ∨ (low c).toNat = 116 ∨ (low c).toNat = 117 ∨ (low c).toNat = 118 ∨ (low c).toNat = 119 ∨ (low c).toNat = 120 ∨ (low c).toNat = 121 ∨ (low c).toNat = 122 := by omega
    rcases h with h | h | h | h | h | h | h | h | h | h | h | h | h | h | h | h | h | h | h | h | h | h | h | h | h | h
    · exact specSC_97 c w (UInt8.toNat_inj.1 (by rw [h]; rfl))
    · exact specSC_98 c w (UInt8.toNat_inj.1 (by rw [h]; rfl))
    · exact specSC_99 c w (UInt8.toNat_inj.1 (by rw [h]; rfl))
    · exact specSC_100 c w (UInt8.toNat_inj.1 (by rw [h]; rfl))
    · exact specSC_101 c w (UInt8.toNat_inj.1 (by rw [h]; rfl))
    · exact specSC_102 c w (UInt8.toNat_inj.1 (by rw [h]; rfl))
    · exact specSC_103 c w (UInt8.toNat_inj.1 (by rw [h]; rfl))
    · exact specSC_104 c w (UInt8.toNat_inj.1 (by rw [h]; rfl))
    · exact specSC_105 c w (UInt8.toNat_inj.1 (by rw [h]; rfl))
    · exact specSC_106 c w (UInt8.toNat_inj.1 (by rw [h]; rfl))
    · exact specSC_107 c w (UInt8.toNat_inj.1 (by rw [h]; rfl))
    · exact specSC_108 c w (UInt8.toNat_inj.1 (by rw [h]; rfl))
    · exact specSC_109 c w (UInt8.toNat_inj.1 (by rw [h]; rfl))
    · exact specSC_110 c w (UInt8.toNat_inj.1 (by rw [h]; rfl))
    · exact specSC_111 c w (UInt8.toNat_inj.1 (by rw [h]; rfl))
    · exact specSC_112 c w (UInt8.toNat_inj.1 (by rw [h]; rfl))
    · exact specSC_113 c w (UInt8.toNat_inj.1 (by rw [h]; rfl))
    · exact specSC_114 c w (UInt8.toNat_inj.1 (by rw [h]; rfl))
    · exact specSC_115 c w (UInt8.toNat_inj.1 (by rw [h]; rfl))
    · exact specSC_116 c w (UInt8.toNat_inj.1 (by rw [h]; rfl))
    · exact specSC_117 c w (UInt8.toNat_inj.1 (by rw [h]; rfl))
    · exact specSC_118 c w (UInt8.toNat_inj.1 (by rw [h]; rfl))
    · exact specSC_119 c w (UInt8.toNat_inj.1 (by rw [h]; rfl))
    · exact specSC_120 c w (UInt8.toNat_inj.1 (by rw [h]; rfl))
    · exact specSC_121 c w (UInt8.toNat_inj.1 (by rw [h]; rfl))
    · exact specSC_122 c w (UInt8.toNat_inj.1 (by rw [h]; rfl))
end Go.Proofs.YtoijjielnbcphaaDoor

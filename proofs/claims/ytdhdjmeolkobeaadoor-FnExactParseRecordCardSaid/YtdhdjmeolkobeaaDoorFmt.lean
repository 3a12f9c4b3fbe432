/-
  Walks of FormatInt (program and reference). Condition: the table of powers of ten holds what the library lays.
-/
import Derived.Test.YtdhdjmeolkobeaaDoorEnv
import Derived.Test.YtdhdjmeolkobeaaDoorNumLaw
import Derived.Test.YtdhdjmeolkobeaaDoorShelf
import Derived.Shelf.GgClosure.Gives
namespace Go.Proofs.YtdhdjmeolkobeaaDoor
open Go.RowKit
set_option linter.unusedVariables false
set_option linter.unusedSimpArgs false
set_option maxRecDepth 100000
theorem implFormatInt (n : Int) (w : World) (ht : Tab w) (h0 : -9223372036854775808 ≤ n) (h1 : n ≤ 9223372036854775807) :
    Calls Tryd.prog 39 #[.int .i64 n] w fun e w' => e = .returned (.string (bstr (Lib.itoa n))) ∧ Below w.heap.size w w' := by
  have C := Lib.hid (Tryd.strconv_Itoa n h0 h1 w ht)
  go_enter Tryd.func39, Tryd.ntmps39
  go_wp2_with fail
  refine C.out.mono ?_
  rintro e w1 ⟨rfl, k, os, hw⟩
  have hb : Below w.heap.size w w1 := by rw [hw]; exact below_grown w k os
  clear hw
  go_wp2
  go_ret
  exact ⟨rfl, hb⟩
theorem i64r {x : Int} (h : (Lit.int .i64 x).wf = true) : -9223372036854775808 ≤ x ∧ x ≤ 9223372036854775807 := by
  have h2 : IntKind.i64.min ≤ x ∧ x ≤ 9223372036854775807 := by simpa [Lit.wf] using h
  exact h2
theorem catF_ok (a b : List UInt8) (h : a.length + b.length ≤ 1000000000000) : ¬ 9223372036854775807 < (bstr a).size + (bstr b).size := by rw [bstr_size, bstr_size]; omega
theorem bstr_addF (a b : List UInt8) : bstr a ++ bstr b = bstr (a ++ b) := by apply ByteArray.ext; simp [bstr]
set_option maxHeartbeats 1600000 in
theorem specFormatInt (n : Int) (w : World) (h0 : -9223372036854775808 ≤ n) (h1 : n ≤ 9223372036854775807) :
    Calls Tryd.prog 34 #[.int .i64 n] w fun e w' => e = .returned (.string (bstr (Lib.itoa n))) ∧ Below w.heap.size w w' := by
  by_cases hz : n = 0
  · subst hz
    have H := Lib.hid itoa_zero
    go_enter Tryd.func34, Tryd.ntmps34
    go_wp2
    go_ret
    exact ⟨by rw [H.out]; rfl, Below.refl _ _⟩
  · have e19 : (10 : Nat) ^ 19 = 10000000000000000000 := by decide
    by_cases hn : 0 ≤ n
    · obtain ⟨u, rfl⟩ := Int.eq_ofNat_of_zero_le hn
      have hu : u ≠ 0 := by omega
      have H := Lib.hid (itoa_pos u hu)
      have Hlen := Lib.hid (dg0_len_le 19 u (by rw [e19]; omega))
      have q0 : ((u : Int) == 0) = false := by rw [beq_eq_false_iff_ne]; omega
      have q1 : decide ((u : Int) < 0) = false := by simp
      clear e19 hz hn hu
      go_enter Tryd.func34, Tryd.ntmps34
      go_wp2
      clear q0 q1
      go_loopw [0, 3] (fun t o wr => ∃ (m : Nat) (l : List UInt8), m ≤ u ∧ t = .int .i64 m ∧ o = .string (bstr l) ∧ dg0 m ++ l = dg0 u ∧ Below w.heap.size w wr) (fun t _ _ => (intOf t).toNat)
      case atStart => exact ⟨u, [], Nat.le_refl _, rfl, rfl, by simp, Below.refl _ _⟩
      case round =>
        obtain ⟨m, l, hm, rfl, rfl, he, hb⟩ := hrel
        have hl : l.length ≤ 19 := by have := congrArg List.length he; rw [List.length_append] at this; have := Hlen.out; omega
        by_cases hz : m = 0
        · have HE : Hid (l = dg0 u) := Lib.hid (by rw [← he, hz, dg0_zero]; rfl)
          clear he
          subst hz
          go_wp2
          go_ret
          exact ⟨by rw [H.out, ← HE.out]; rfl, hb⟩
        · have hd : dg0 (m / 10) ++ (dch (m % 10) :: l) = dg0 u := by rw [← he, dg0_pos hz]; simp
          have Hd := Lib.hid hd; clear hd he
          have p0 : ((m : Int) != 0) = true := by rw [bne_iff_ne]; omega
          have p1 : decide ((m : Int) % 10 < 0) = false := by simp; omega
          have ht := text1 wr (48 + (m : Int) % 10) (dch (m % 10)) (by rw [digit_toNat _ (by omega)]; omega)
          have hb2 := Lib.hid (hb.alloc hb.size (.cells #[.int .u8 (48 + (m : Int) % 10)] 5))
          have hcat := catF_ok [dch (m % 10)] l (by simp; omega)
          have hmp : 1 ≤ m := by omega
          clear hb hz
          go_wp2
          refine ⟨⟨m / 10, dch (m % 10) :: l, by omega, by go_num, ?_, Hd.out, hb2.out⟩, by simp [intOf]; omega⟩
          rw [bstr_addF]; rfl
    · obtain ⟨u, hu0⟩ : ∃ u : Nat, n = -(u : Int) := ⟨n.natAbs, by omega⟩
      subst hu0
      have hu : u ≠ 0 := by omega
      have H := Lib.hid (itoa_neg' u hu)
      have Hlen := Lib.hid (dg0_len_le 19 u (by rw [e19]; omega))
      have q0 : ((-(u : Int)) == 0) = false := by rw [beq_eq_false_iff_ne]; omega
      have q1 : -(u : Int) < 0 := by omega
      have q2 : 0 < u := by omega
      have hu9 : (u : Int) ≤ 9223372036854775808 := by omega
      clear e19 hz hn hu
      go_enter Tryd.func34, Tryd.ntmps34
      go_wp2
      clear q0 q1
      go_loopw [0, 3] (fun t o wr => ∃ (m : Nat) (l : List UInt8), m ≤ u ∧ t = .int .i64 (-(m : Int)) ∧ o = .string (bstr l) ∧ dg0 m ++ l = dg0 u ∧ Below w.heap.size w wr) (fun t _ _ => (intOf t).natAbs)
      case atStart => exact ⟨u, [], Nat.le_refl _, rfl, rfl, by simp, Below.refl _ _⟩
      case round =>
        obtain ⟨m, l, hm, rfl, rfl, he, hb⟩ := hrel
        have hl : l.length ≤ 19 := by have := congrArg List.length he; rw [List.length_append] at this; have := Hlen.out; omega
        by_cases hz : m = 0
        · have HE : Hid (l = dg0 u) := Lib.hid (by rw [← he, hz, dg0_zero]; rfl)
          clear he
          subst hz
          have hcat := catF_ok [45] l (by simp; omega)
          go_wp2
          go_ret
          exact ⟨by rw [H.out, ← HE.out]; exact congrArg (fun b => Ending.returned (Value.string b)) (bstr_addF [45] l), hb⟩
        · have hd : dg0 (m / 10) ++ (dch (m % 10) :: l) = dg0 u := by rw [← he, dg0_pos hz]; simp
          have Hd := Lib.hid hd; clear hd he
          obtain ⟨r, hr⟩ : ∃ r, r = m % 10 := ⟨_, rfl⟩
          obtain ⟨d, hdd⟩ : ∃ d, d = m / 10 := ⟨_, rfl⟩
          have hr10 : r < 10 := by omega
          have hdm : d < m := by omega
          have p0 : ((-(m : Int)) != 0) = true := by rw [bne_iff_ne]; omega
          have e1 : (-(m : Int)).tmod 10 = -(r : Int) := by rw [Int.neg_tmod, hr]; rfl
          have e2 : (-(m : Int)).tdiv 10 = -(d : Int) := by rw [Int.neg_tdiv, hdd]; rfl
          have e3 : IntKind.i64.wrap (-(d : Int)) = -(d : Int) := IntWalk.i64_in _ (by omega)
          rw [← hr, ← hdd] at Hd
          have hcat := catF_ok [dch r] l (by simp; omega)
          clear hz hr hdd
          by_cases hr0 : r = 0
          · subst hr0
            have ht := text1 wr 48 (dch 0) (by rw [digit_toNat _ hr10]; rfl)
            have hb2 := Lib.hid (hb.alloc hb.size (.cells #[.int .u8 48] 5))
            clear hb
            go_wp2
            refine ⟨⟨d, dch 0 :: l, by omega, rfl, ?_, Hd.out, hb2.out⟩, by simp [intOf]; omega⟩
            rw [bstr_addF]; rfl
          · have ht := text1 wr (48 + (r : Int)) (dch r) (by rw [digit_toNat _ hr10]; omega)
            have hb2 := Lib.hid (hb.alloc hb.size (.cells #[.int .u8 (48 + (r : Int))] 5))
            clear hb
            have p1 : -(r : Int) < 0 := by omega
            have e4 : IntKind.i64.wrap (- -(r : Int)) = (r : Int) := by rw [Int.neg_neg]; exact IntWalk.i64_in _ (by omega)
            clear hr0
            go_wp2
            refine ⟨⟨d, dch r :: l, by omega, rfl, ?_, Hd.out, hb2.out⟩, by simp [intOf]; omega⟩
            rw [bstr_addF]; rfl
end Go.Proofs.YtdhdjmeolkobeaaDoor

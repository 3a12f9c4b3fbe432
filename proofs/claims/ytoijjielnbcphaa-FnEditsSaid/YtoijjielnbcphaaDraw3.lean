/-
  Walks of the draws of spoilt strings and texts: each returns some string of bounded size. Condition: the code has at most 2^20 bytes.
-/
import Derived.Test.YtoijjielnbcphaaDraw2
namespace Go.Proofs.Ytoijjielnbcphaa
open Go.RowKit
set_option linter.unusedVariables false
set_option linter.unusedSimpArgs false
set_option maxRecDepth 100000
def one8 (n : Int) : ByteArray := bstr [UInt8.ofNat (IntKind.u8.wrap n).toNat]
theorem one8_size (n : Int) : (one8 n).size = 1 := by unfold one8; rw [bstr_size]; rfl
theorem wrap8 (n : Int) : 0 ≤ IntKind.u8.wrap n ∧ IntKind.u8.wrap n ≤ 255 := by
  have h : IntKind.u8.wrap n = n % 256 := by simp [IntKind.wrap, IntKind.bits, IntKind.signed]
  omega
theorem conv1 (W : World) (n : Int) : (convert 22 9 (.slice (some ⟨W.heap.size, 0, none⟩) 1 1)).run Try.prog (W.alloc (.cells #[.int .u8 (IntKind.u8.wrap n)] 5)) = .ok (.string (one8 n)) (W.alloc (.cells #[.int .u8 (IntKind.u8.wrap n)] 5)) :=
  text1 W _ _ (by
    have h := wrap8 n
    have e : ∀ m : Nat, m < 256 → (UInt8.ofNat m).toNat = m := fun m hm => by simp; omega
    rw [e _ (by omega)]
    omega)
theorem conv1d (W : World) (n : Int) : (convert 22 9 (.slice (some ⟨W.heap.size, 0, none⟩) 1 1)).run Try.prog (W.alloc (.cells #[.int .u8 (IntKind.u8.wrap n)] 5)).drew = .ok (.string (one8 n)) (W.alloc (.cells #[.int .u8 (IntKind.u8.wrap n)] 5)).drew :=
  conv1 W.drew n
theorem stepD {g : Nat} {l : List UInt8} {w W W' : World} (h : Drew g l w W ∧ True) (hd : Drew g l W W') : Drew g l w W' ∧ True := ⟨h.1.trans hd, trivial⟩
theorem allocD {g : Nat} {l : List UInt8} {w W : World} (h : Drew g l w W ∧ True) (o : Obj) : Drew g l w (W.alloc o) ∧ True := ⟨h.1.below ((Below.refl _ _).alloc (Nat.le_refl _) o), trivial⟩
theorem drewD {g : Nat} {l : List UInt8} {w : World} (h : Cur w g l) : Drew g l w w.drew ∧ True := ⟨(Drew.refl h).below (Below.refl _ _).drew, trivial⟩
set_option maxHeartbeats 4000000 in
theorem l1Spoil_any (g : Nat) (l : List UInt8) (s : ByteArray) (w : World) (hc : Cur w g l) (hs : s.size ≤ 1000) :
    Calls Try.prog 64 #[.pointer (some ⟨g, 0, none⟩), .string s] w fun e w' => ∃ t, t.size ≤ s.size + 3 ∧ e = .returned (.string t) ∧ Drew g l w w' := by
  have Hc := Lib.hid hc
  clear hc
  by_cases h0 : s.size = 0
  · have d0 : ((s.size : Int) == 0) = true := by rw [h0]; rfl
    go_enter Try.func64, Try.ntmps64
    go_wp2_with fail
    refine (l1Text_any g l 3 _ Hc.out (by decide)).mono ?_
    rintro e w1 ⟨t, ht, rfl, hd⟩
    go_wp2
    go_ret
    exact ⟨t, by omega, rfl, hd⟩
  · have d0 : ((s.size : Int) == 0) = false := by rw [beq_eq_false_iff_ne]; omega
    go_enter Try.func64, Try.ntmps64
    go_wp2_with fail
    refine (l1Below_any g l s.size _ Hc.out (by omega) (by omega)).mono ?_
    rintro e w1 ⟨k, hk, rfl, hd⟩
    have HD1 := Lib.hid hd
    clear hd
    go_wp2_with fail
    refine (l1Below_any g l 4 _ HD1.out.1 (by decide) (by decide)).mono ?_
    rintro e w2 ⟨x, hx, rfl, hd⟩
    have HD2 := Lib.hid (HD1.out.trans hd)
    clear hd
    obtain ⟨K, hK⟩ : ∃ K, K = k + 1 := ⟨_, rfl⟩
    have eK : (k : Int) + 1 = (K : Int) := by omega
    have wK : IntKind.i64.wrap (K : Int) = (K : Int) := IntWalk.i64_in _ (by omega)
    have kI : (k : Int) ≤ (s.size : Int) := by omega
    have kN : k ≤ s.size := by omega
    have kI2 : (k : Int) < (s.size : Int) := by omega
    have k0 : (0 : Int) ≤ (k : Int) := by omega
    have KI : (K : Int) ≤ (s.size : Int) := by omega
    have KN : K ≤ s.size := by omega
    have z1 : (s.extract 0 k).size = k := by rw [ByteArray.size_extract]; omega
    have z2 : (s.extract K s.size).size = s.size - K := by rw [ByteArray.size_extract]; omega
    have z3 : (s.extract k s.size).size = s.size - k := by rw [ByteArray.size_extract]; omega
    have Z1 := Lib.hid z1
    have Z2 := Lib.hid z2
    have Z3 := Lib.hid z3
    have HK := Lib.hid hK
    clear hK h0
    by_cases x0 : x = 0
    · have d1 : ((x : Int) == 0) = true := by rw [x0]; rfl
      have ct : ¬ 9223372036854775807 < (s.extract 0 k).size + (s.extract K s.size).size := by omega
      clear x0 z1 z2 z3
      go_wp2
      go_quiet (fail)
      have HD3 := Lib.hid (HD2.out.below (below_drewN w2 nq))
      go_wp2
      go_ret
      refine ⟨_, ?_, rfl, HD3.out⟩
      rw [ByteArray.size_append, Z1.out, Z2.out]; omega
    · have d1 : ((x : Int) == 0) = false := by rw [beq_eq_false_iff_ne]; omega
      by_cases x1 : x = 1
      · have d2 : ((x : Int) == 1) = true := by rw [x1]; rfl
        have c1 := fun (W : World) (n : Int) => conv1 W n
        have c2 := fun (W : World) (n : Int) => conv1d W n
        have ct1 : ∀ n, ¬ 9223372036854775807 < (s.extract 0 k).size + (one8 n).size := fun n => by rw [one8_size, z1]; omega
        have ct2 : ∀ n, ¬ 9223372036854775807 < (s.extract 0 k).size + (one8 n).size + (s.extract k s.size).size := fun n => by rw [one8_size, z1, z3]; omega
        have ct3 : ∀ n, ¬ 9223372036854775807 < k + (one8 n).size := fun n => by rw [one8_size]; omega
        have ct4 : ∀ n, ¬ 9223372036854775807 < k + (one8 n).size + (s.size - k) := fun n => by rw [one8_size]; omega
        have ct5 : ∀ n, ¬ 9223372036854775807 < min k s.size + (one8 n).size := fun n => by rw [one8_size]; omega
        have ct6 : ∀ n, ¬ 9223372036854775807 < min k s.size + (one8 n).size + (s.size - k) := fun n => by rw [one8_size]; omega
        clear x0 x1 z1 z2 z3
        go_wp2
        go_region_held (fun W => Drew g l w2 W ∧ True)
          (first | assumption | exact drewD HD2.out.1 | exact stepD (by assumption) (by assumption) | exact allocD (by assumption) _)
          (first | (go_at_call 65; refine (l1Byte_any g l _ (And.left (by assumption) : Drew g l w2 _).1).mono ?_; rintro e w3 ⟨y, hy, rfl, hd3⟩; (have q1 := ct1 (y : Int)); (have q2 := ct2 (y : Int)); (have q3 := ct3 (y : Int)); (have q4 := ct4 (y : Int)); (have q5 := ct5 (y : Int)); (have q6 := ct6 (y : Int))))
        all_goals
          have c7 : Drew g l w2 _ := And.left (by assumption)
          have HD3 := Lib.hid (HD2.out.trans c7)
          go_wp2
          go_ret
          refine ⟨_, ?_, rfl, HD3.out⟩
          rw [ByteArray.size_append, ByteArray.size_append, one8_size, Z1.out, Z3.out]; omega
      · have d2 : ((x : Int) == 1) = false := by rw [beq_eq_false_iff_ne]; omega
        by_cases x2 : x = 2
        · have d3 : ((x : Int) == 2) = true := by rw [x2]; rfl
          clear x0 x1 x2 z1 z2 z3
          go_wp2
          go_ret
          exact ⟨_, by rw [Z1.out]; omega, rfl, HD2.out⟩
        · have d3 : ((x : Int) == 2) = false := by rw [beq_eq_false_iff_ne]; omega
          have ct1 : ∀ n, ¬ 9223372036854775807 < (s.extract 0 k).size + (one8 n).size := fun n => by rw [one8_size, z1]; omega
          have ct2 : ∀ n, ¬ 9223372036854775807 < (s.extract 0 k).size + (one8 n).size + (s.extract K s.size).size := fun n => by rw [one8_size, z1, z2]; omega
          have c1 := fun (W : World) (n : Int) => conv1 W n
          have c2 := fun (W : World) (n : Int) => conv1d W n
          have ct3 : ∀ n, ¬ 9223372036854775807 < k + (one8 n).size := fun n => by rw [one8_size]; omega
          have ct4 : ∀ n, ¬ 9223372036854775807 < k + (one8 n).size + (s.size - K) := fun n => by rw [one8_size]; omega
          have ct5 : ∀ n, ¬ 9223372036854775807 < min k s.size + (one8 n).size := fun n => by rw [one8_size]; omega
          have ct6 : ∀ n, ¬ 9223372036854775807 < min k s.size + (one8 n).size + (s.size - K) := fun n => by rw [one8_size]; omega
          clear x0 x1 x2 z1 z2 z3
          go_wp2
          go_region_held (fun W => Drew g l w2 W ∧ True)
          (first | assumption | exact drewD HD2.out.1 | exact stepD (by assumption) (by assumption) | exact allocD (by assumption) _)
          (first | (go_at_call 40; refine (l1Below_any g l 255 _ (And.left (by assumption) : Drew g l w2 _).1 (by decide) (by decide)).mono ?_; rintro e w3 ⟨y, hy, rfl, hd3⟩; (have q1 := ct1 (bits .xor .i64 (IntKind.i64.wrap (s[k].toNat : Int)) (IntKind.i64.wrap (1 + (y : Int))))); (have q2 := ct2 (bits .xor .i64 (IntKind.i64.wrap (s[k].toNat : Int)) (IntKind.i64.wrap (1 + (y : Int))))); (have q3 := ct3 (bits .xor .i64 (IntKind.i64.wrap (s[k].toNat : Int)) (IntKind.i64.wrap (1 + (y : Int))))); (have q4 := ct4 (bits .xor .i64 (IntKind.i64.wrap (s[k].toNat : Int)) (IntKind.i64.wrap (1 + (y : Int))))); (have q5 := ct5 (bits .xor .i64 (IntKind.i64.wrap (s[k].toNat : Int)) (IntKind.i64.wrap (1 + (y : Int))))); (have q6 := ct6 (bits .xor .i64 (IntKind.i64.wrap (s[k].toNat : Int)) (IntKind.i64.wrap (1 + (y : Int)))))))
          all_goals
            have c7 : Drew g l w2 _ := And.left (by assumption)
            have HD3 := Lib.hid (HD2.out.trans c7)
            go_wp2
            go_ret
            refine ⟨_, ?_, rfl, HD3.out⟩
            rw [ByteArray.size_append, ByteArray.size_append, one8_size, Z1.out, Z2.out]; omega
set_option maxHeartbeats 4000000 in
theorem l2Text_any (g : Nat) (l : List UInt8) (w : World) (hc : Cur w g l) :
    Calls Try.prog 62 #[.pointer (some ⟨g, 0, none⟩)] w fun e w' => ∃ s, s.size ≤ 100 ∧ e = .returned (.string s) ∧ Drew g l w w' := by
  have Hc := Lib.hid hc
  clear hc
  go_enter Try.func62, Try.ntmps62
  go_wp2_with fail
  refine (l1Below_any g l 12 _ Hc.out (by decide) (by decide)).mono ?_
  rintro e w1 ⟨x, hx, rfl, hd⟩
  have HD1 := Lib.hid hd
  clear hd Hc
  by_cases x0 : x = 0
  · have d1 : ((x : Int) == 0) = true := by rw [x0]; rfl
    clear x0
    go_wp2_with fail
    refine (l2Name_any g l _ HD1.out.1).mono ?_
    rintro e w2 ⟨s, hs, rfl, hd⟩
    have HD2 := Lib.hid (HD1.out.trans hd)
    have HS := Lib.hid hs
    clear hd hs
    go_wp2_with fail
    refine (l1Spoil_any g l s _ HD2.out.1 (by have := HS.out; omega)).mono ?_
    rintro e w3 ⟨t, ht, rfl, hd⟩
    have HD3 := Lib.hid (HD2.out.trans hd)
    have HT := Lib.hid (show t.size ≤ 100 by have := HS.out; omega)
    clear hd ht
    go_wp2
    go_ret
    exact ⟨t, HT.out, rfl, HD3.out⟩
  · have d1 : ((x : Int) == 0) = false := by rw [beq_eq_false_iff_ne]; omega
    by_cases x1 : x = 1
    · have d2 : ((x : Int) == 1) = true := by rw [x1]; rfl
      clear x0 x1
      go_wp2_with fail
      refine (litPick (fun s => s.size ≤ 100) g l _ _ _ _ _ HD1.out.1 ?_ ?_ ?_ ?_ ?_).mono ?_
      · rfl
      · rfl
      · decide
      · decide
      · decide +kernel
      rintro e w2 ⟨t, ht, rfl, hd⟩
      have HD3 := Lib.hid (HD1.out.trans hd)
      have HT := Lib.hid ht
      clear hd ht
      go_wp2
      go_ret
      exact ⟨t, HT.out, rfl, HD3.out⟩
    · have d2 : ((x : Int) == 1) = false := by rw [beq_eq_false_iff_ne]; omega
      by_cases x2 : x = 2
      · have d3 : ((x : Int) == 2) = true := by rw [x2]; rfl
        clear x0 x1 x2
        go_wp2_with fail
        refine (l1Below_any g l 7 _ HD1.out.1 (by decide) (by decide)).mono ?_
        rintro e w2 ⟨m, hm, rfl, hd⟩
        have HD2 := Lib.hid (HD1.out.trans hd)
        clear hd
        obtain ⟨M, hM⟩ : ∃ M, M = 36 + m := ⟨_, rfl⟩
        have eM : 36 + (m : Int) = (M : Int) := by omega
        have HM := Lib.hid hM
        clear hM
        go_wp2
        go_loopw [3, 4] (fun v i wr => ∃ (k : Nat) (o : ByteArray), i = .int .i64 k ∧ v = .string o ∧ o.size + k ≤ 50 ∧ Drew g l w wr) (fun _ i _ => (intOf i).toNat)
        case atStart => exact ⟨M, ⟨#[]⟩, by go_num, rfl, by have := HM.out; show 0 + M ≤ 50; omega, HD2.out⟩
        case round =>
          obtain ⟨k, o, rfl, rfl, hk, hd⟩ := hrel
          have HD := Lib.hid hd
          clear hd
          by_cases hk0 : k = 0
          · subst hk0
            go_wp2
            go_ret
            exact ⟨o, by omega, rfl, HD.out⟩
          · have hkp : (0 : Int) < (k : Int) := by omega
            have hkn : 0 < k := by omega
            clear hk0
            obtain ⟨K, hK⟩ : ∃ K, K = k - 1 := ⟨_, rfl⟩
            have eK : (k : Int) - 1 = (K : Int) := by omega
            have HKl : Hid (o.size + 1 + K ≤ 50) := Lib.hid (by omega)
            have HKm : Hid (K < k) := Lib.hid (by omega)
            clear hK
            go_wp2_with fail
            refine (litPick (fun s => s.size = 1) g l _ _ _ _ _ HD.out.1 ?_ ?_ ?_ ?_ ?_).mono ?_
            · rfl
            · rfl
            · decide
            · decide
            · decide +kernel
            rintro e w3 ⟨t, ht, rfl, hd⟩
            have HD3 := Lib.hid (HD.out.trans hd)
            have ct : ¬ 9223372036854775807 < o.size + t.size := by omega
            have HT := Lib.hid ht
            clear hd ht
            go_wp2
            go_roundw
            case rel => exact ⟨K, _, by go_num, rfl, by have := HKl.out; rw [ByteArray.size_append, HT.out]; omega, HD3.out⟩
            case measure => have := HKm.out; simp [intOf]; omega
      · have d3 : ((x : Int) == 2) = false := by rw [beq_eq_false_iff_ne]; omega
        clear x0 x1 x2
        go_wp2_with fail
        refine (l2Name_any g l _ HD1.out.1).mono ?_
        rintro e w2 ⟨s, hs, rfl, hd⟩
        have HD2 := Lib.hid (HD1.out.trans hd)
        have HS := Lib.hid hs
        clear hd hs
        go_wp2
        go_ret
        exact ⟨s, by have := HS.out; omega, rfl, HD2.out⟩
end Go.Proofs.Ytoijjielnbcphaa

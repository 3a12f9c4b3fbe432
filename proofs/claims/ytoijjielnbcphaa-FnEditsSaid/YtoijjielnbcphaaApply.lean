/-
  Walks of ApplyScript (program and reference). Condition: the strings have at most 2^20 bytes.
-/
import Derived.Test.YtoijjielnbcphaaFacts
import Derived.Test.YtoijjielnbcphaaApplyLaw
namespace Go.Proofs.Ytoijjielnbcphaa
open Go.RowKit
set_option linter.unusedVariables false
set_option linter.unusedSimpArgs false
set_option maxRecDepth 100000

set_option maxHeartbeats 4000000 in
theorem implApplyScript (a s : ByteArray) (w : World) (ha : a.size ≤ 1048576) (hs : s.size ≤ 1048576) :
    Calls Try.prog 19 #[.string a, .string s] w fun e w' => e = .returned (.tuple #[.string (appS a s), .bool (appB a s)]) ∧ Below w.heap.size w w' := by
  go_enter Try.func19, Try.ntmps19
  go_wp2
  go_loopw [6, 7, 8] (fun v at_ ix wr => ∃ (k i : Nat) (o : List UInt8), k ≤ s.size ∧ i ≤ a.size ∧ o.length ≤ k ∧ ix = .int .i64 k ∧ at_ = .int .i64 i ∧ app (s.data.toList.drop k) false (a.data.toList.drop i) o = appO a s ∧ Bld 5 w.heap.size w wr v o) (fun _ _ ix _ => s.size - (intOf ix).toNat)
  case atStart => exact ⟨0, 0, [], Nat.zero_le _, Nat.zero_le _, Nat.le_refl _, rfl, rfl, rfl, Bld.nil _ _⟩
  case round =>
    obtain ⟨k, i, o, hk, hi, hlo, rfl, rfl, hq, hb⟩ := hrel
    have Hq := Lib.hid hq; clear hq
    by_cases hlt : k < s.size
    · have hb0 := byte_le s[k]
      by_cases hc : (s[k].toNat : Int) = 61
      · have hce : s[k] = 61 := byte_eq (n := 61) (by omega) hc
        have b61 : ((s[k].toNat : Int) == 61) = true := by simp [hc]
        have b126 : ((s[k].toNat : Int) == 126) = false := by rw [hc]; rfl
        have b45 : ((s[k].toNat : Int) == 45) = false := by rw [hc]; rfl
        have b43 : ((s[k].toNat : Int) == 43) = false := by rw [hc]; rfl
        clear hc
        by_cases hia : i < a.size
        · have Hn := Lib.hid ((app_copy hlt hia hce).symm.trans Hq.out)
          have i1 : ((i : Int) == (a.size : Int)) = false := by simp; omega
          clear hce
          go_wp2_with (at_builtin; refine wpList_push1 rfl _ _ 22 rfl _ _ Try.underlying22 infoB _ _ rfl hb _ (a[i]) rfl rfl (by omega) ?_; intro v' w' hb')
          go_roundw
          case rel => exact ⟨k + 1, i + 1, _, by omega, by omega, by simp; omega, by go_num, by go_num, Hn.out, hb'⟩
          case measure => simp [intOf]; omega
        · have H := Lib.hid (app_none (Hq.out.symm.trans (app_over hlt (Or.inl hce) (by omega))))
          have i1 : ((i : Int) == (a.size : Int)) = true := by simp; omega
          clear hce
          go_wp2
          go_ret2
          exact ⟨by rw [H.out.1, H.out.2]; rfl, hb.bel⟩
      by_cases hc45 : (s[k].toNat : Int) = 45
      · have hce : s[k] = 45 := byte_eq (n := 45) (by omega) hc45
        clear hc; have hc := hc45; clear hc45
        have b61 : ((s[k].toNat : Int) == 61) = false := by rw [hc]; rfl
        have b126 : ((s[k].toNat : Int) == 126) = false := by rw [hc]; rfl
        have b45 : ((s[k].toNat : Int) == 45) = true := by simp [hc]
        have b43 : ((s[k].toNat : Int) == 43) = false := by rw [hc]; rfl
        clear hc
        by_cases hia : i < a.size
        · have Hn := Lib.hid ((app_skip hlt hia hce).symm.trans Hq.out)
          have i1 : ((i : Int) == (a.size : Int)) = false := by simp; omega
          clear hce
          go_wp2
          go_roundw
          case rel => exact ⟨k + 1, i + 1, _, by omega, by omega, by omega, by go_num, by go_num, Hn.out, hb⟩
          case measure => simp [intOf]; omega
        · have H := Lib.hid (app_none (Hq.out.symm.trans (app_over hlt (Or.inr (Or.inl hce)) (by omega))))
          have i1 : ((i : Int) == (a.size : Int)) = true := by simp; omega
          clear hce
          go_wp2
          go_ret2
          exact ⟨by rw [H.out.1, H.out.2]; rfl, hb.bel⟩
      by_cases hc126 : (s[k].toNat : Int) = 126
      · have hce : s[k] = 126 := byte_eq (n := 126) (by omega) hc126
        clear hc hc45; have hc := hc126; clear hc126
        have b61 : ((s[k].toNat : Int) == 61) = false := by rw [hc]; rfl
        have b126 : ((s[k].toNat : Int) == 126) = true := by simp [hc]
        have b45 : ((s[k].toNat : Int) == 45) = false := by rw [hc]; rfl
        have b43 : ((s[k].toNat : Int) == 43) = false := by rw [hc]; rfl
        clear hc
        by_cases hia : i < a.size
        · by_cases hk1 : k + 1 < s.size
          · have Hn := Lib.hid ((app_turn hk1 hia hce).symm.trans Hq.out)
            have i1 : ((i : Int) == (a.size : Int)) = false := by simp; omega
            have i2 : (((k : Int) + 1) == (s.size : Int)) = false := by simp; omega
            clear hce
            go_wp2_with (at_builtin; refine wpList_push1 rfl _ _ 22 rfl _ _ Try.underlying22 infoB _ _ rfl hb _ (s[k + 1]) rfl rfl (by omega) ?_; intro v' w' hb')
            go_roundw
            case rel => exact ⟨k + 2, i + 1, _, by omega, by omega, by simp; omega, by go_num, by go_num, Hn.out, hb'⟩
            case measure => simp [intOf]; omega
          · have H := Lib.hid (app_none (Hq.out.symm.trans (app_turn_no hlt hce (by omega))))
            have i1 : ((i : Int) == (a.size : Int)) = false := by simp; omega
            have i2 : (((k : Int) + 1) == (s.size : Int)) = true := by simp; omega
            clear hce
            go_wp2
            go_ret2
            exact ⟨by rw [H.out.1, H.out.2]; rfl, hb.bel⟩
        · have H := Lib.hid (app_none (Hq.out.symm.trans (app_over hlt (Or.inr (Or.inr hce)) (by omega))))
          have i1 : ((i : Int) == (a.size : Int)) = true := by simp; omega
          clear hce
          go_wp2
          go_ret2
          exact ⟨by rw [H.out.1, H.out.2]; rfl, hb.bel⟩
      by_cases hc43 : (s[k].toNat : Int) = 43
      · have hce : s[k] = 43 := byte_eq (n := 43) (by omega) hc43
        clear hc hc45 hc126; have hc := hc43; clear hc43
        have b61 : ((s[k].toNat : Int) == 61) = false := by rw [hc]; rfl
        have b126 : ((s[k].toNat : Int) == 126) = false := by rw [hc]; rfl
        have b45 : ((s[k].toNat : Int) == 45) = false := by rw [hc]; rfl
        have b43 : ((s[k].toNat : Int) == 43) = true := by simp [hc]
        clear hc
        by_cases hk1 : k + 1 < s.size
        · have Hn := Lib.hid ((app_put (a := a) (i := i) hk1 hce).symm.trans Hq.out)
          have i2 : (((k : Int) + 1) == (s.size : Int)) = false := by simp; omega
          clear hce
          go_wp2_with (at_builtin; refine wpList_push1 rfl _ _ 22 rfl _ _ Try.underlying22 infoB _ _ rfl hb _ (s[k + 1]) rfl rfl (by omega) ?_; intro v' w' hb')
          go_roundw
          case rel => exact ⟨k + 2, i, _, by omega, by omega, by simp; omega, by go_num, by go_num, Hn.out, hb'⟩
          case measure => simp [intOf]; omega
        · have H := Lib.hid (app_none (Hq.out.symm.trans (app_put_no (a := a) (i := i) hlt hce (by omega))))
          have i2 : (((k : Int) + 1) == (s.size : Int)) = true := by simp; omega
          clear hce
          go_wp2
          go_ret2
          exact ⟨by rw [H.out.1, H.out.2]; rfl, hb.bel⟩
      have H := Lib.hid (app_none (Hq.out.symm.trans (app_bad (a := a) (i := i) hlt (byte_ne (n := 61) (by omega) hc) (byte_ne (n := 45) (by omega) hc45) (byte_ne (n := 126) (by omega) hc126) (byte_ne (n := 43) (by omega) hc43))))
      have b61 := (neI hc).1
      have b45 := (neI hc45).1
      have b126 := (neI hc126).1
      have b43 := (neI hc43).1
      clear hc hc45 hc126 hc43
      go_wp2
      go_ret2
      exact ⟨by rw [H.out.1, H.out.2]; rfl, hb.bel⟩
    · obtain rfl : k = s.size := by omega
      by_cases hia : i < a.size
      · have H := Lib.hid (app_none (Hq.out.symm.trans (app_left (Nat.le_refl _) hia)))
        go_wp2
        go_ret2
        exact ⟨by rw [H.out.1, H.out.2]; rfl, hb.bel⟩
      · have H := Lib.hid (app_some (Hq.out.symm.trans (app_end (Nat.le_refl _) (by omega))))
        have ht := text hb
        go_wp2
        go_ret2
        exact ⟨by rw [H.out.1, H.out.2]; rfl, hb.bel⟩
end Go.Proofs.Ytoijjielnbcphaa

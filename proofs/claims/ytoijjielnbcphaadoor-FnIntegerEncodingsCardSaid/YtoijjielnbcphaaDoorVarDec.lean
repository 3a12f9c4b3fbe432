/-
  Walks of DecodeVarint (program and reference). Condition: s has at most 2^20 bytes.
-/
import Derived.Test.YtoijjielnbcphaaDoorVarDecLaw
import Derived.Deep.RegionWith
import Derived.Lib.SlBytesConst
namespace Go.Proofs.YtoijjielnbcphaaDoor
open Go.RowKit
set_option linter.unusedVariables false
set_option linter.unusedSimpArgs false
set_option maxRecDepth 100000

theorem and127u (c : UInt8) : bits .and .u8 (c.toNat : Int) 127 = (c.toNat : Int) % 128 := by
  have h := bits_mask .u8 8 (by decide) wraps_u8 7 (by decide) (c.toNat : Int) (by omega) (by have := byte_le c; rw [show (2 : Int) ^ 8 = 256 from by decide]; omega)
  rwa [show (2 : Int) ^ 7 - 1 = 127 from by decide, show (2 : Int) ^ 7 = 128 from by decide] at h

theorem var_or (n c k : Nat) (z : Int) (hz : z = (c : Int)) (hn : n < 128 ^ k) (hc : c < 128) (hk : k ≤ 6) :
    bits .or .i64 (n : Int) (wrap64 (z * 2 ^ (7 * k))) = ((n + c * 128 ^ k : Nat) : Int) := by
  subst hz
  have h62 : (2 : Int) ^ 62 = 4611686018427387904 := by decide
  have hp : (2 : Int) ^ (7 * k) = ((128 ^ k : Nat) : Int) := by rw [Int.pow_mul, Int.natCast_pow]; rfl
  have h1 : (128 : Nat) ^ k ≤ 128 ^ 6 := Nat.pow_le_pow_right (by decide) hk
  have h2 : (128 : Nat) ^ 6 = 4398046511104 := by decide
  have h0 : 0 < (128 : Nat) ^ k := Nat.pow_pos (by decide)
  have hm : c * 128 ^ k ≤ 127 * 128 ^ k := Nat.mul_le_mul_right _ (by omega)
  have e : (c : Int) * 2 ^ (7 * k) = ((c * 128 ^ k : Nat) : Int) := by rw [hp]; simp
  rw [e, IntWalk.wrap64_in _ (by omega), or_swap _ _ (by omega) (by omega) (by omega) (by omega),
    or_i64 (7 * k) _ _ (by omega) (by rw [hp, ← Int.natCast_emod, Nat.mul_mod_left]; rfl) (by omega) (by omega) (by rw [hp]; omega) (by omega)]
  omega

theorem sliceTo (s : ByteArray) (k : Nat) (z : Int) (hz : z = (k : Int)) (hk : k ≤ s.size) (wx : World) :
    (Instr.slice 9 (.string s) none (some (.int .i64 z)) none).run Tryd.prog wx = .ok (.string (s.extract 0 k)) wx := by
  subst hz
  rw [run_slice_string_h wx 9 s Tryd.underlying9 .i64 (k : Int) (by omega) (by omega), Int.toNat_natCast]
set_option maxRecDepth 100000 in
set_option maxHeartbeats 2000000 in
theorem implDecodeVarint (s : ByteArray) (w : World) (hs : s.size ≤ 1048576) :
    Calls Tryd.prog 24 #[.string s] w fun e w' => e = .returned (.tuple #[.int .i64 (decN s), .int .i64 (decK s)]) ∧ Below w.heap.size w w' := by
  go_enter Tryd.func24, Tryd.ntmps24
  go_wp2
  go_loopw [4, 5] (fun nv i wr => ∃ k : Nat, k ≤ s.size ∧ k ≤ 7 ∧ i = .int .i64 k ∧ nv = .int .i64 (val s k) ∧ (∀ i (hi : i < k) (h2 : i < s.size), 128 ≤ s[i].toNat) ∧ Below w.heap.size w wr) (fun _ i _ => s.size - (intOf i).toNat)
  case atStart => exact ⟨0, Nat.zero_le _, by omega, rfl, by rw [val_zero]; rfl, by omega, Below.refl _ _⟩
  case round =>
    obtain ⟨k, hk, hk7, rfl, rfl, hall, hb⟩ := hrel
    have Hall := Lib.hid hall; clear hall
    by_cases hlt : k < s.size
    · by_cases h7 : k < 7
      · have hv := val_lt s k hk
        have hvs := Lib.hid (val_succ s k hlt)
        have hmx := Lib.hid (val_max s (k + 1) (by omega) (by omega))
        have hand := and127u s[k]
        have hb0 := byte_le s[k]
        have hstep := var_or (val s k) (s[k].toNat % 128) k ((s[k].toNat : Int) % 128) (by simp) (val_lt s k hk) (Nat.mod_lt _ (by decide)) (by omega)
        rw [← hvs.out] at hstep
        have k7 : (k : Int) < 7 := by omega
        obtain ⟨V, hV⟩ : ∃ V, V = val s (k + 1) := ⟨_, rfl⟩
        rw [← hV] at hstep hmx
        have HV := Lib.hid hV; clear hV
        have hVm : (V : Int) ≤ 562949953421311 := by have := hmx.out; omega
        by_cases hbig : 128 ≤ s[k].toNat
        · have Hn : Hid (∀ i (hi : i < k + 1) (h2 : i < s.size), 128 ≤ s[i].toNat) := Lib.hid (by
            intro i hi h2
            by_cases e : i = k
            · subst e; exact hbig
            · exact Hall.out i (by omega) h2)
          have hb2 : ¬ (s[k].toNat : Int) < 128 := by omega
          clear hbig
          go_wp2
          go_roundw
          case rel => exact ⟨k + 1, by omega, by omega, by go_num, by rw [HV.out], Hn.out, hb⟩
          case measure => simp [intOf]; omega
        · have hb2 : (s[k].toNat : Int) < 128 := by omega
          have hst := Lib.hid (isVar_eq s (k + 1) (by omega))
          rw [← HV.out] at hst
          have hsl := fun wx => sliceTo s (k + 1) ((k : Int) + 1) (by omega) (by omega) wx
          have Hlow := Lib.hid (show s[k].toNat < 128 by omega)
          clear hbig
          cases hv2 : isVar s (k + 1)
          · have H := Lib.hid (dec_stop hlt Hlow.out (fun i hi => Hall.out i hi (by omega)) hv2)
            have ht : ((bstr (varL V)).toList == (s.extract 0 (k + 1)).toList) = false := by rw [← hst.out]; exact hv2
            have ht2 : ((bstr (varL V)).toList != (s.extract 0 (k + 1)).toList) = true := by rw [bne, ht]; rfl
            clear hv2
            go_wp2
            have kw : IntKind.i64.wrap ((k : Int) + 1) = (k : Int) + 1 := IntWalk.i64_in _ (by omega)
            go_region_with (go_at_call 62; refine (varint_any _ _ hVm).mono ?_; rintro e w' ⟨rfl, hw⟩)
            all_goals
              clear kw hsl
              go_wp2
              go_ret2
              exact ⟨by rw [H.out.1, H.out.2]; rfl, hb.drew.trans (Below.mono hw hb.size)⟩
          · have H := Lib.hid (dec_hit (by omega) hv2)
            have ht : ((bstr (varL V)).toList == (s.extract 0 (k + 1)).toList) = true := by rw [← hst.out]; exact hv2
            have ht2 : ((bstr (varL V)).toList != (s.extract 0 (k + 1)).toList) = false := by rw [bne, ht]; rfl
            clear hv2
            go_wp2
            have kw : IntKind.i64.wrap ((k : Int) + 1) = (k : Int) + 1 := IntWalk.i64_in _ (by omega)
            go_region_with (go_at_call 62; refine (varint_any _ _ hVm).mono ?_; rintro e w' ⟨rfl, hw⟩)
            all_goals
              clear kw hsl
              go_wp2
              go_ret2
              exact ⟨by rw [H.out.1, H.out.2, ← HV.out]; rfl, hb.drew.trans (Below.mono hw hb.size)⟩
      · obtain rfl : k = 7 := by omega
        have H := Lib.hid (dec_none hk (Or.inr rfl) (fun i hi => Hall.out i hi (by omega)))
        go_wp2
        go_ret2
        exact ⟨by rw [H.out.1, H.out.2]; rfl, hb⟩
    · obtain rfl : k = s.size := by omega
      have H := Lib.hid (dec_none (Nat.le_refl _) (Or.inl rfl) (fun i hi => Hall.out i hi (by omega)))
      go_wp2
      go_ret2
      exact ⟨by rw [H.out.1, H.out.2]; rfl, hb⟩

/-- What the reference's inner loop has summed from place i to k. -/
def valD (s : ByteArray) (k i : Nat) : Nat := valL ((s.data.toList.take k).drop i)
theorem valD_zero (s : ByteArray) (k : Nat) : valD s k 0 = val s k := by simp [valD, val]
theorem valD_end (s : ByteArray) (k : Nat) : valD s k k = 0 := by unfold valD; rw [List.drop_eq_nil_of_le (by simp; omega)]; rfl
theorem valD_step (s : ByteArray) (k i : Nat) (h : i < k) (hk : k ≤ s.size) : valD s k i = valD s k (i + 1) * 128 + (s[i]'(by omega)).toNat % 128 := by
  unfold valD
  have hl : i < (s.data.toList.take k).length := by rw [take_len s k hk]; exact h
  rw [List.drop_eq_getElem_cons hl, valL, List.getElem_take]
  have e : s.data.toList[i]'(by rw [dlen]; omega) = s[i]'(by omega) := rfl
  rw [e]; omega
theorem valD_max (s : ByteArray) (k i : Nat) (hk : k ≤ 7) (hi : 1 ≤ i) : valD s k i ≤ 4398046511104 := by
  have h1 := valL_lt ((s.data.toList.take k).drop i)
  have h2 : ((s.data.toList.take k).drop i).length ≤ 6 := by simp; omega
  have h3 : (128 : Nat) ^ ((s.data.toList.take k).drop i).length ≤ 128 ^ 6 := Nat.pow_le_pow_right (by decide) h2
  have h4 : (128 : Nat) ^ 6 = 4398046511104 := by decide
  unfold valD; omega
theorem encV_val (s : ByteArray) (k : Nat) (h : k ≤ s.size) (h7 : k ≤ 7) : encV (val s k) = varL (val s k) := by
  have hm := val_max s k h h7
  unfold encV
  rw [inB_in (by omega) (by omega), if_pos rfl, Int.toNat_natCast]

end Go.Proofs.YtoijjielnbcphaaDoor

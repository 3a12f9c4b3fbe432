/-
  Walks of DecodeHex (program and reference). Condition: s has at most 2^20 bytes.
-/
import Derived.Test.YtoijjielnbcphaaDoorHexDecLaw
import Derived.Test.YtoijjielnbcphaaDoorShelf
import Derived.Deep.QuietTactic
import Derived.BigQuiet
namespace Go.Proofs.YtoijjielnbcphaaDoor
open Go.RowKit
set_option linter.unusedVariables false
set_option linter.unusedSimpArgs false
set_option maxRecDepth 100000

theorem idx_any (c : UInt8) (w : World) :
    Calls Tryd.prog 65 #[.string ⟨#[48, 49, 50, 51, 52, 53, 54, 55, 56, 57, 97, 98, 99, 100, 101, 102]⟩, .int .u8 c.toNat] w fun e w' => e = .returned (.int .i64 (hexV c)) ∧ w' = w :=
  (Tryd.strings_IndexByte _ _ w).mono fun _ _ ⟨h1, h2⟩ => ⟨by
    rw [h1, ← hexV_index]
    have : ((c.toNat : Int).toNat).toUInt8 = c := by simp
    rw [this]; rfl, h2⟩
set_option maxHeartbeats 2000000 in
theorem implDecodeHex (s : ByteArray) (w : World) (hs : s.size ≤ 1048576) :
    Calls Tryd.prog 30 #[.string s] w fun e w' => e = .returned (.tuple #[.string (decHS s), .bool (decHB s)]) ∧ Below w.heap.size w w' := by
  by_cases hodd : s.size % 2 = 1
  · have H := Lib.hid (decH_none (s := s) (decH_odd _ _ (by rw [dlen]; exact hodd)))
    have m1 : (((s.size : Int) % 2) == 1) = true := by simp; omega
    clear hodd
    go_enter Tryd.func30, Tryd.ntmps30
    go_wp2
    go_ret2
    exact ⟨by rw [H.out.1, H.out.2]; rfl, by first | exact Below.refl _ _ | exact (Below.refl _ _).alloc (Nat.le_refl _) _⟩
  · have m1 : (((s.size : Int) % 2) == 1) = false := by simp; omega
    go_enter Tryd.func30, Tryd.ntmps30
    go_wp2
    go_loopw [4, 5] (fun v i wr => ∃ (k : Nat) (o : List UInt8), k ≤ s.size ∧ k % 2 = 0 ∧ o.length ≤ k ∧ i = .int .i64 k ∧ decH (s.data.toList.drop k) o = decHO s ∧ Bld 5 w.heap.size w wr v o) (fun _ i _ => s.size - (intOf i).toNat)
    case atStart => exact ⟨0, [], Nat.zero_le _, rfl, Nat.le_refl _, rfl, rfl, by first | exact Bld.nil _ _ | exact Bld.empty _ _⟩
    case round =>
      obtain ⟨k, o, hk, hk2, hlo, rfl, hq, hb⟩ := hrel
      have Hq := Lib.hid hq; clear hq
      by_cases hlt : k < s.size
      · have hlt2 : k + 1 < s.size := by omega
        obtain ⟨m, hm⟩ : ∃ m, m = k + 1 := ⟨_, rfl⟩
        have hm2 : m < s.size := by omega
        have r1 := hexV_range s[k]
        have r2 := hexV_range s[m]
        have Hbad : Hid (hexV s[k] < 0 ∨ hexV s[m] < 0 → decHS s = bstr [] ∧ decHB s = false) := Lib.hid (by subst hm; exact fun h => decH_none (Hq.out.symm.trans (decH_bad (o := o) hlt2 h)))
        have Hstep : Hid (0 ≤ hexV s[k] → 0 ≤ hexV s[m] → decH (s.data.toList.drop (k + 2)) (o ++ [UInt8.ofNat (16 * (hexV s[k]).toNat + (hexV s[m]).toNat)]) = decHO s) := Lib.hid (by subst hm; exact fun h1 h2 => (decH_step (o := o) hlt2 h1 h2).symm.trans Hq.out)
        have km : (k : Int) + 1 = (m : Int) := by omega
        have k1 : (k : Int) < (s.size : Int) := by omega
        have k2 : (m : Int) < (s.size : Int) := by omega
        have Hmod := Lib.hid hk2; clear hk2
        have Hm := Lib.hid hm; clear hm
        have Hlt2 := Lib.hid hlt2; clear hlt2
        obtain ⟨x0, x1⟩ := r1
        obtain ⟨y0, y1⟩ := r2
        by_cases hx : hexV s[k] < 0
        · have H := Lib.hid (Hbad.out (Or.inl hx))
          go_wp2_with (fail)
          go_quiet ((go_at_call 65; exact Calls.quiet_of_same (idx_any _ _))); clear km; go_wp2_with ((at_builtin; refine wpList_push1 rfl _ _ 22 rfl _ _ Tryd.underlying22 infoB _ _ rfl (hb.drewN _) _ (UInt8.ofNat (16 * (hexV s[k]).toNat + (hexV s[m]).toNat)) rfl ?_ (by omega) ?_; (first | exact Hby.out | (rw [← Hby.out]; omega) | (rw [← Hby.out, hor]; omega)); intro v' w' hb'))
          go_ret2
          exact ⟨by rw [H.out.1, H.out.2]; rfl, by first | exact hb.bel | exact hb.bel.trans ((below_drewN _ _).mono hb.big)⟩
        by_cases hy : hexV s[m] < 0
        · have H := Lib.hid (Hbad.out (Or.inr hy))
          go_wp2_with (fail)
          go_quiet ((go_at_call 65; exact Calls.quiet_of_same (idx_any _ _))); clear km; go_wp2_with ((at_builtin; refine wpList_push1 rfl _ _ 22 rfl _ _ Tryd.underlying22 infoB _ _ rfl (hb.drewN _) _ (UInt8.ofNat (16 * (hexV s[k]).toNat + (hexV s[m]).toNat)) rfl ?_ (by omega) ?_; (first | exact Hby.out | (rw [← Hby.out]; omega) | (rw [← Hby.out, hor]; omega)); intro v' w' hb'))
          go_ret2
          exact ⟨by rw [H.out.1, H.out.2]; rfl, by first | exact hb.bel | exact hb.bel.trans ((below_drewN _ _).mono hb.big)⟩
        have Hn := Lib.hid (Hstep.out (by omega) (by omega))
        have hx2 : 0 ≤ hexV s[k] := by omega
        have hy2 : 0 ≤ hexV s[m] := by omega
        have Hby := Lib.hid (hex_byte _ _ hx2 x1 hy2 y1)
        have hor := hex_or _ _ hx2 x1 hy2 y1
        go_wp2_with (fail)
        go_quiet ((go_at_call 65; exact Calls.quiet_of_same (idx_any _ _))); clear km; go_wp2_with ((at_builtin; refine wpList_push1 rfl _ _ 22 rfl _ _ Tryd.underlying22 infoB _ _ rfl (hb.drewN _) _ (UInt8.ofNat (16 * (hexV s[k]).toNat + (hexV s[m]).toNat)) rfl ?_ (by omega) ?_; (first | exact Hby.out | (rw [← Hby.out]; omega) | (rw [← Hby.out, hor]; omega)); intro v' w' hb'))
        try clear km
        go_roundw
        case rel => exact ⟨k + 2, _, by have := Hlt2.out; omega, by have := Hmod.out; omega, by simp; omega, by go_num, Hn.out, hb'⟩
        case measure => simp [intOf]; omega
      · obtain rfl : k = s.size := by omega
        have H := Lib.hid (decH_some (Hq.out.symm.trans decH_end))
        have ht := text hb
        go_wp2
        go_ret2
        exact ⟨by rw [H.out.1, H.out.2]; rfl, hb.bel⟩
end Go.Proofs.YtoijjielnbcphaaDoor

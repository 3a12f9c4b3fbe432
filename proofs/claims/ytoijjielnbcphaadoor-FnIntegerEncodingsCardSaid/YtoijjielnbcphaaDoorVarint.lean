/-
  Walks of EncodeVarint (program and reference) and of varint: base 128, least digits first. No condition.
-/
import Derived.Test.YtoijjielnbcphaaDoorWithin
namespace Go.Proofs.YtoijjielnbcphaaDoor
open Go.RowKit
set_option linter.unusedVariables false
set_option linter.unusedSimpArgs false
set_option maxRecDepth 100000

def varL (n : Nat) : List UInt8 := if n < 128 then [UInt8.ofNat n] else UInt8.ofNat (128 + n % 128) :: varL (n / 128)
termination_by n
decreasing_by omega
theorem varL_lo {n : Nat} (h : n < 128) : varL n = [UInt8.ofNat n] := by rw [varL, if_pos h]
theorem varL_hi {n : Nat} (h : ¬ n < 128) : varL n = UInt8.ofNat (128 + n % 128) :: varL (n / 128) := by rw [varL, if_neg h]
def encV (n : Int) : List UInt8 := if inB n 0 562949953421311 = true then varL n.toNat else []
theorem var_step {q : List UInt8} {m n : Nat} (h : ¬ m < 128) (hq : q ++ varL m = varL n) : (q ++ [UInt8.ofNat (128 + m % 128)]) ++ varL (m / 128) = varL n := by
  rw [← hq, varL_hi h]; simp

set_option maxHeartbeats 800000 in
theorem varint_any (n : Nat) (w : World) (hn : (n : Int) ≤ 562949953421311) :
    Calls Tryd.prog 62 #[.int .i64 n] w fun e w' => e = .returned (.string (bstr (varL n))) ∧ Below w.heap.size w w' := by
  go_enter Tryd.func62, Tryd.ntmps62
  go_wp2
  go_loopw [0, 3] (fun nv v wr => ∃ (m : Nat) (q : List UInt8), nv = .int .i64 m ∧ m ≤ n ∧ q ++ varL m = varL n ∧ q.length * 127 + m ≤ n ∧ Bld 5 w.heap.size w wr v q) (fun nv _ _ => (intOf nv).toNat)
  case atStart => exact ⟨n, [], rfl, Nat.le_refl _, rfl, by simp, Bld.nil _ _⟩
  case round =>
    obtain ⟨m, q, rfl, hm, hq, hl, hb⟩ := hrel
    have Hq := Lib.hid hq; clear hq
    by_cases h : m < 128
    · have hd : ¬ (128 : Int) ≤ (m : Int) := by omega
      have H : Hid (q ++ [UInt8.ofNat m] = varL n) := by rw [← varL_lo h]; exact Hq.out
      go_wp2_with (at_builtin; refine wpList_push1 rfl _ _ 22 rfl _ _ Tryd.underlying22 infoB _ _ rfl hb _ (UInt8.ofNat m) rfl ?_ (by omega) ?_; (exact (byte_of m (by omega)).symm); intro v' w' hb'; have ht := text hb')
      go_ret
      exact ⟨by rw [← H.out]; rfl, hb'.bel⟩
    · have hd : (128 : Int) ≤ (m : Int) := by omega
      have H := Lib.hid (var_step h Hq.out)
      have HB := Lib.hid (var_byte m (by omega))
      go_wp2_with (at_builtin; refine wpList_push1 rfl _ _ 22 rfl _ _ Tryd.underlying22 infoB _ _ rfl hb _ (UInt8.ofNat (128 + m % 128)) rfl ?_ (by omega) ?_; (rw [HB.out, byte_of _ (by omega)]; omega); intro v' w' hb')
      go_roundw
      case rel => exact ⟨m / 128, _, by go_num, by omega, H.out, by simp; omega, hb'⟩
      case measure => simp [intOf]; omega
set_option maxHeartbeats 400000 in
theorem implEncodeVarint (n : Int) (w : World) :
    Calls Tryd.prog 23 #[.int .i64 n] w fun e w' => e = .returned (.string (bstr (encV n))) ∧ Below w.heap.size w w' := by
  cases h : inB n 0 562949953421311
  · have H : Hid (encV n = []) := by unfold encV; rw [h]; rfl
    go_enter Tryd.func23, Tryd.ntmps23
    go_wp2_with (go_at_call 61; refine (within_any _ _ _ _).mono ?_; rintro e w' ⟨rfl, rfl⟩)
    go_ret
    exact ⟨by rw [H.out]; rfl, Below.refl _ _⟩
  · obtain ⟨h1, h2⟩ := inB_yes h
    obtain ⟨m, rfl⟩ := Int.eq_ofNat_of_zero_le h1
    have H : Hid (encV m = varL m) := by unfold encV; rw [h]; rfl
    go_enter Tryd.func23, Tryd.ntmps23
    go_wp2_with (first | (go_at_call 61; refine (within_any _ _ _ _).mono ?_; rintro e w' ⟨rfl, rfl⟩) | (go_at_call 62; refine (varint_any _ _ (by omega)).mono ?_; rintro e w' ⟨rfl, hb⟩))
    go_ret
    exact ⟨by rw [H.out]; rfl, hb⟩
end Go.Proofs.YtoijjielnbcphaaDoor

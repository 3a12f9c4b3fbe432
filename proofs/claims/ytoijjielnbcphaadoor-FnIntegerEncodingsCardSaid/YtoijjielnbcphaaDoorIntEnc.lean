/-
  The draws of FnIntegerEncodings and the plain laws of its round trips. No condition.
-/
import Derived.Test.YtoijjielnbcphaaDoorGreat
import Derived.Test.YtoijjielnbcphaaDoorVarDec
import Derived.Test.YtoijjielnbcphaaDoorFixed
import Derived.Test.YtoijjielnbcphaaDoorHex
import Derived.Test.YtoijjielnbcphaaDoorHexDec
import Derived.Test.YtoijjielnbcphaaDoorParse
namespace Go.Proofs.YtoijjielnbcphaaDoor
open Go.RowKit
set_option linter.unusedVariables false
set_option linter.unusedSimpArgs false
set_option maxRecDepth 100000
theorem ofNat8 (n : Nat) (h : n < 256) : (UInt8.ofNat n).toNat = n := by simp; omega
theorem valL_varL : ∀ (f n : Nat), n ≤ f → valL (varL n) = n
  | 0, n, h => by
    obtain rfl : n = 0 := by omega
    rw [varL_lo (by omega)]; rfl
  | f + 1, n, h => by
    by_cases hn : n < 128
    · rw [varL_lo hn]
      show (UInt8.ofNat n).toNat % 128 + 128 * 0 = n
      rw [ofNat8 _ (by omega)]; omega
    · rw [varL_hi hn]
      show (UInt8.ofNat (128 + n % 128)).toNat % 128 + 128 * valL (varL (n / 128)) = n
      rw [valL_varL f (n / 128) (by omega), ofNat8 _ (by omega)]; omega
theorem varL_len : ∀ (k n : Nat), n < 128 ^ (k + 1) → (varL n).length ≤ k + 1 ∧ 1 ≤ (varL n).length
  | 0, n, h => by rw [varL_lo (by simpa using h)]; simp
  | k + 1, n, h => by
    by_cases hn : n < 128
    · rw [varL_lo hn]; simp
    · rw [varL_hi hn]
      have := varL_len k (n / 128) (by rw [Nat.pow_succ] at h; omega)
      simp; omega
/-- An encoded number is decoded, whatever follows. -/
theorem dec_enc {n : Nat} (h : n ≤ 562949953421311) (t : ByteArray) : decN (bstr (varL n) ++ t) = (n : Int) ∧ decK (bstr (varL n) ++ t) = ((varL n).length : Int) := by
  have hl := varL_len 6 n (by have : (128 : Nat) ^ 7 = 562949953421312 := by decide
                              omega)
  obtain ⟨j, hj⟩ : ∃ j, (varL n).length = j + 1 := ⟨(varL n).length - 1, by omega⟩
  have hdata : (bstr (varL n) ++ t).data.toList = varL n ++ t.data.toList := by simp [bstr]
  have htake : (bstr (varL n) ++ t).data.toList.take (j + 1) = varL n := by rw [hdata, ← hj, List.take_left']; rfl
  have hv : val (bstr (varL n) ++ t) (j + 1) = n := by unfold val; rw [htake, valL_varL n n (Nat.le_refl _)]
  have hi : isVar (bstr (varL n) ++ t) (j + 1) = true := by
    unfold isVar
    rw [hv, htake]
    simp only [Bool.and_eq_true, decide_eq_true_eq, beq_iff_eq, and_true]
    rw [ByteArray.size_append, bstr_size, hj]; omega
  obtain ⟨h1, h2⟩ := dec_hit (by omega : j < 7) hi
  rw [hv] at h1
  exact ⟨h1, by rw [h2, hj]; omega⟩
theorem encV_yes {n : Nat} (h : n ≤ 562949953421311) : encV (n : Int) = varL n := by
  unfold encV; rw [inB_in (by omega) (by omega), if_pos rfl]; rfl
theorem encV_no {n : Int} (h : ¬ (0 ≤ n ∧ n ≤ 562949953421311)) : encV n = [] := by
  unfold encV; rw [if_neg]; intro e; exact h (inB_yes e)
theorem decF_encL : ∀ (m n : Nat) (l : List UInt8), (encL n m).foldl (fun n c => n * 256 + c.toNat) (decF l) = decF l * 256 ^ m + n % 256 ^ m
  | 0, n, l => by simp [encL, Nat.mod_one]
  | m + 1, n, l => by
    have hs : (encL n (m + 1)).foldl (fun n c => n * 256 + c.toNat) (decF l) = (encL n m).foldl (fun n c => n * 256 + c.toNat) (decF (l ++ [UInt8.ofNat (n / 256 ^ m % 256)])) := by
      rw [decF_snoc]; rfl
    rw [hs, decF_encL m n, decF_snoc, ofNat8 _ (by omega)]
    have h1 := Nat.mod_mul (x := n) (a := 256 ^ m) (b := 256)
    rw [Nat.pow_succ, h1, Nat.add_mul, Nat.mul_assoc, Nat.mul_comm 256 (256 ^ m), Nat.mul_comm (n / 256 ^ m % 256)]
    omega
theorem decF_enc {n m : Nat} (h : n < 256 ^ m) : decF (encL n m) = n := by
  have := decF_encL m n []
  rw [Nat.mod_eq_of_lt h] at this
  simpa [decF] using this
theorem decW_enc {n m : Nat} (hz : inB (m : Int) 1 7 = true) (h : n < 256 ^ m) (t : ByteArray) : decOk (bstr (encL n m) ++ t) (m : Int) = true ∧ decVal (bstr (encL n m) ++ t) (m : Int) = (n : Int) := by
  have ok : decOk (bstr (encL n m) ++ t) (m : Int) = true := by
    unfold decOk; rw [hz, Bool.true_and, decide_eq_true_eq, ByteArray.size_append, bstr_size, encL_len]; omega
  refine ⟨ok, ?_⟩
  unfold decVal
  rw [if_pos ok, Int.toNat_natCast]
  have hdata : (bstr (encL n m) ++ t).data.toList = encL n m ++ t.data.toList := by simp [bstr]
  rw [hdata, List.take_left' (encL_len n m), decF_enc h]
theorem decH_hex : ∀ (l o : List UInt8), decH (hexL l) o = some (o ++ l)
  | [], o => by simp [hexL, decH]
  | c :: l, o => by
    have e : hexL (c :: l) = hexC (c.toNat / 16) :: hexC (c.toNat % 16) :: hexL l := rfl
    have hc := c.toNat_lt
    rw [e, decH, hexV_digit _ (by omega), hexV_digit _ (by omega), if_neg (by omega), decH_hex l]
    have : UInt8.ofNat (16 * ((c.toNat / 16 : Nat) : Int).toNat + ((c.toNat % 16 : Nat) : Int).toNat) = c := by
      apply UInt8.toNat_inj.1
      rw [ofNat8 _ (by omega)]; omega
    rw [this]; simp
theorem hex_back (s : ByteArray) : decHS (bstr (hexL s.data.toList)) = s ∧ decHB (bstr (hexL s.data.toList)) = true := by
  have := decH_some (s := bstr (hexL s.data.toList)) (o := s.data.toList) (by unfold decHO; rw [bstr_list, decH_hex]; rfl)
  rw [bstr_of] at this; exact this
/-- The number of a numeral, without a bound. -/
def numOf (l : List UInt8) : Int := if l.head? = some 45 then -(dv l.tail : Int) else dv l
theorem head_dg0 (u : Nat) : (dg0 u).head? ≠ some 45 := by
  intro e
  have h := dg0_all u
  cases hx : dg0 u with
  | nil => rw [hx] at e; simp at e
  | cons c m =>
    rw [hx] at e h
    simp at e; subst e
    simp at h
    exact absurd h.1 (by decide)
theorem numOf_itoa (n : Int) : numOf (Lib.itoa n) = n := by
  by_cases h : n = 0
  · subst h; rw [itoa_zero]; decide
  · by_cases hn : 0 ≤ n
    · obtain ⟨u, rfl⟩ := Int.eq_ofNat_of_zero_le hn
      rw [itoa_pos u (by omega)]
      unfold numOf; rw [if_neg (head_dg0 u), dv_dg0]
    · obtain ⟨u, hu⟩ : ∃ u : Nat, n = -(u : Int) := ⟨n.natAbs, by omega⟩
      subst hu
      rw [itoa_neg' u (by omega)]
      unfold numOf; rw [if_pos (show (45 :: dg0 u).head? = some 45 from rfl), List.tail_cons, dv_dg0]
theorem pInt_big {n : Int} (h : ¬ (-999999999 ≤ n ∧ n ≤ 999999999)) : pInt (Lib.itoa n) = none := by
  cases hp : pInt (Lib.itoa n) with
  | none => rfl
  | some m =>
    obtain ⟨h1, h2, h3⟩ := pInt_some hp
    have := congrArg numOf h1
    rw [numOf_itoa, numOf_itoa] at this
    exact absurd ⟨by omega, by omega⟩ h
theorem drawVar (a : Option Addr) (c : Nat) (l : List UInt8) (w : World) (hr : RowAt fU w a l) (hl : l.length ≤ 1048576) :
    Calls Tryd.prog 21 #[.slice a l.length c] w fun e w' => ∃ x, (-9223372036854775808 ≤ x ∧ x ≤ 9223372036854775807) ∧ e = .returned (.int .i64 x) ∧ Below w.heap.size w w' := by
  have HR := Lib.hid hr
  clear hr
  go_enter Tryd.func21, Tryd.ntmps21
  go_wp2_with fail
  refine (newCur a c l _ HR.out hl).mono ?_
  rintro e w1 ⟨g, rfl, hg, hc, hb⟩
  go_wp2_with fail
  refine (l1Num_any g l _ hc).mono ?_
  rintro e w2 ⟨x, hx, rfl, hd⟩
  have HX := Lib.hid hx
  have HB := Lib.hid (hd.bel hb hg)
  clear hx hd hb hc
  go_wp2
  go_ret
  exact ⟨x, HX.out, rfl, HB.out⟩
theorem drawHex (a : Option Addr) (c : Nat) (l : List UInt8) (w : World) (hr : RowAt fU w a l) (hl : l.length ≤ 1048576) :
    Calls Tryd.prog 22 #[.slice a l.length c] w fun e w' => ∃ s, s.size ≤ 40 ∧ e = .returned (.string s) ∧ Below w.heap.size w w' := by
  have HR := Lib.hid hr
  clear hr
  go_enter Tryd.func22, Tryd.ntmps22
  go_wp2_with fail
  refine (newCur a c l _ HR.out hl).mono ?_
  rintro e w1 ⟨g, rfl, hg, hc, hb⟩
  go_wp2_with fail
  refine (l1Text_any g l 40 _ hc (by decide)).mono ?_
  rintro e w2 ⟨x, hx, rfl, hd⟩
  have HX := Lib.hid hx
  have HB := Lib.hid (hd.bel hb hg)
  clear hx hd hb hc
  go_wp2
  go_ret
  exact ⟨x, HX.out, rfl, HB.out⟩
theorem drawFix (a : Option Addr) (c : Nat) (l : List UInt8) (w : World) (hr : RowAt fU w a l) (hl : l.length ≤ 1048576) :
    Calls Tryd.prog 25 #[.slice a l.length c] w fun e w' => ∃ x z, (-9223372036854775808 ≤ x ∧ x ≤ 9223372036854775807) ∧ (-1 ≤ z ∧ z ≤ 8) ∧ e = .returned (.tuple #[.int .i64 x, .int .i64 z]) ∧ Below w.heap.size w w' := by
  have HR := Lib.hid hr
  clear hr
  go_enter Tryd.func25, Tryd.ntmps25
  go_wp2_with fail
  refine (newCur a c l _ HR.out hl).mono ?_
  rintro e w1 ⟨g, rfl, hg, hc, hb⟩
  go_wp2_with fail
  refine (l1Num_any g l _ hc).mono ?_
  rintro e w2 ⟨x, hx, rfl, hd⟩
  have HX := Lib.hid hx
  have HD := Lib.hid hd
  clear hx hd
  go_wp2_with fail
  refine (l1Below_any g l 10 _ HD.out.1 (by decide) (by decide)).mono ?_
  rintro e w3 ⟨y, hy, rfl, hd⟩
  have HB := Lib.hid ((HD.out.trans hd).bel hb hg)
  clear hd hb hc
  go_wp2
  go_ret2
  exact ⟨x, (y : Int) - 1, HX.out, by omega, rfl, HB.out⟩
end Go.Proofs.YtoijjielnbcphaaDoor

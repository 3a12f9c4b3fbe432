/-
  Walks of PhoneScore (program and reference) and of strings.HasSuffix. Condition: the strings have at most 2^20 bytes.
-/
import Derived.Test.YtoijjielnbcphaaDoorDigits
import Derived.Test.YtoijjielnbcphaaDoorPhoneLaw
import Derived.Deep.QuietTactic
import Derived.BigQuiet
namespace Go.Proofs.YtoijjielnbcphaaDoor
open Go.RowKit
set_option linter.unusedVariables false
set_option linter.unusedSimpArgs false
set_option maxRecDepth 100000

set_option maxHeartbeats 400000 in
theorem hasSuffix_any (x y : ByteArray) (w : World) (hx : x.size ≤ 1048576) (hy : y.size ≤ 1048576) :
    Calls Tryd.prog 70 #[.string x, .string y] w fun e w' => e = .returned (.bool (hasSuf x y)) ∧ w = w' := by
  by_cases h : y.size ≤ x.size
  · have H : Hid (hasSuf x y = ((x.extract (x.size - y.size) x.size).toList == y.toList)) := Lib.hid (by unfold hasSuf; rw [decide_eq_true h]; rfl)
    go_enter Tryd.func70, Tryd.ntmps70
    go_wp2
    go_ret
    exact ⟨by rw [H.out]; rfl, rfl⟩
  · have H : Hid (hasSuf x y = false) := Lib.hid (by unfold hasSuf; rw [decide_eq_false h]; rfl)
    go_enter Tryd.func70, Tryd.ntmps70
    go_wp2
    go_ret
    exact ⟨by rw [H.out]; rfl, rfl⟩
theorem lcp_comm : ∀ x y : List UInt8, lcp x y = lcp y x
  | [], [] => rfl
  | [], y :: ys => rfl
  | x :: xs, [] => rfl
  | x :: xs, y :: ys => by
    have := lcp_comm xs ys
    by_cases h : x = y
    · subst h; simp [lcp, this]
    · simp [lcp, h, Ne.symm h]
theorem suf_1 {x y : ByteArray} {k : Nat} (hk : lcs x.data.toList y.data.toList = k) (hy : k ≤ y.size) (hx : k ≤ x.size) : hasSuf x y = decide (k = y.size) := by
  unfold hasSuf
  by_cases h : y.size ≤ x.size
  · rw [hasSuf_iff x y h, hk, decide_eq_true h]; rfl
  · rw [decide_eq_false h, decide_eq_false (by omega)]; rfl
theorem suf_2 {x y : ByteArray} {k : Nat} (hk : lcs x.data.toList y.data.toList = k) (hy : k ≤ y.size) (hx : k ≤ x.size) : hasSuf y x = decide (k = x.size) :=
  suf_1 (by rw [← hk]; exact lcp_comm _ _) hx hy

set_option maxHeartbeats 4000000 in
theorem specPhoneScore (a b : ByteArray) (w : World) (ha : a.size ≤ 1048576) (hb : b.size ≤ 1048576) :
    Calls Tryd.prog 39 #[.string a, .string b] w fun e w' => e = .returned (.int .i64 (phone (bstr (digitsOf a.data.toList)) (bstr (digitsOf b.data.toList)))) ∧ Below w.heap.size w w' := by
  have d1 := fun wx => specDigitsOf a wx ha
  have d2 := fun wx => specDigitsOf b wx hb
  have l1 := digitsOf_le a a.size (Nat.le_refl _)
  have l2 := digitsOf_le b b.size (Nat.le_refl _)
  rw [take_all] at l1 l2
  rw [← bstr_size] at l1 l2
  obtain ⟨x, hx⟩ : ∃ x, x = bstr (digitsOf a.data.toList) := ⟨_, rfl⟩
  obtain ⟨y, hy⟩ : ∃ y, y = bstr (digitsOf b.data.toList) := ⟨_, rfl⟩
  rw [← hx] at d1 l1 ⊢
  rw [← hy] at d2 l2 ⊢
  clear hx hy
  have D1 := Lib.hid d1; clear d1
  have D2 := Lib.hid d2; clear d2
  have hx : x.size ≤ 1048576 := by omega
  have hy : y.size ≤ 1048576 := by omega
  clear l1 l2
  go_enter Tryd.func39, Tryd.ntmps39
  go_wp2_with fail
  refine (D1.out _).mono ?_
  rintro e w1 ⟨rfl, b1⟩
  go_wp2_with fail
  refine (D2.out _).mono ?_
  rintro e w2 ⟨rfl, b2⟩
  have b3 := b1.trans (b2.mono b1.size)
  clear b1 b2 D1 D2 ha hb
  go_wp2_with fail
  go_loopw [7] (fun n wr => ∃ k : Nat, k ≤ x.size ∧ k ≤ y.size ∧ n = .int .i64 k ∧ x.data.toList.reverse.take k = y.data.toList.reverse.take k ∧ Below w.heap.size w wr) (fun n _ => x.size - (intOf n).toNat)
  case atStart => exact ⟨0, Nat.zero_le _, Nat.zero_le _, rfl, rfl, b3⟩
  case round =>
    obtain ⟨k, k1, k2, rfl, ht, hbr⟩ := hrel
    clear b3
    have Ht := Lib.hid ht; clear ht
    by_cases hc : ∃ (p : k < x.size) (q : k < y.size), x[x.size - 1 - k] = y[y.size - 1 - k]
    · obtain ⟨p, q, he⟩ := hc
      have Hn := Lib.hid (rev_take_succ x y k p q Ht.out he)
      have q1 : (k : Int) < (x.size : Int) := by omega
      have q2 : (k : Int) < (y.size : Int) := by omega
      obtain ⟨m, hm⟩ : ∃ m, m = x.size - 1 - k := ⟨_, rfl⟩
      obtain ⟨n, hn⟩ : ∃ n, n = y.size - 1 - k := ⟨_, rfl⟩
      have m1 : (m : Int) < (x.size : Int) := by omega
      have n1 : (n : Int) < (y.size : Int) := by omega
      have m2 : m < x.size := by omega
      have n2 : n < y.size := by omega
      have he2 : ((x[m].toNat : Int) == (y[n].toNat : Int)) = true := by subst hm hn; rw [he]; simp
      have u6 : (x.size : Int) - 1 - k = (m : Int) := by omega
      have v6 : (y.size : Int) - 1 - k = (n : Int) := by omega
      clear he hm hn
      go_wp2
      go_quiet (fail)
      clear u6 v6
      go_wp2
      go_roundw
      case rel => exact ⟨k + 1, by omega, by omega, by go_num, Hn.out, hbr.trans ((below_drewN _ _).mono hbr.size)⟩
      case measure => simp [intOf]; omega
    · have Hk : Hid (lcs x.data.toList y.data.toList = k) := Lib.hid (lcs_of x y k k1 k2 Ht.out (by
        by_cases p : k < x.size
        · by_cases q : k < y.size
          · exact Or.inr (Or.inr ⟨p, q, fun h => hc ⟨p, q, h⟩⟩)
          · omega
        · omega))
      have s1 := suf_1 Hk.out k2 k1
      have s2 := suf_2 Hk.out k2 k1
      have b3 := eq_iff_lcs x y
      rw [Hk.out] at b3
      by_cases a1 : x.size < 4
      · have H := Lib.hid (phone_0 Hk.out (Or.inl a1))
        clear b3 s1 s2
        by_cases h1 : k < x.size
        · by_cases h2 : k < y.size
          · skip
            first | (exfalso; omega) | skip
            all_goals
              have q1 : (k : Int) < (x.size : Int) := by omega
              have q2 : (k : Int) < (y.size : Int) := by omega
              obtain ⟨m, hm⟩ : ∃ m, m = x.size - 1 - k := ⟨_, rfl⟩
              obtain ⟨n, hn⟩ : ∃ n, n = y.size - 1 - k := ⟨_, rfl⟩
              have m1 : (m : Int) < (x.size : Int) := by omega
              have n1 : (n : Int) < (y.size : Int) := by omega
              have m2 : m < x.size := by omega
              have n2 : n < y.size := by omega
              have he2 : ((x[m].toNat : Int) == (y[n].toNat : Int)) = false := by
                rw [beq_eq_false_iff_ne]
                intro e; subst hm hn; exact hc ⟨h1, h2, UInt8.toNat_inj.1 (by omega)⟩
              have u6 : (x.size : Int) - 1 - k = (m : Int) := by omega
              have v6 : (y.size : Int) - 1 - k = (n : Int) := by omega
              clear hm hn hc
              go_wp2
              go_quiet (fail)
              go_wp2_with (go_at_call 70; refine (hasSuffix_any _ _ _ (by assumption) (by assumption)).mono ?_; rintro e w' ⟨rfl, rfl⟩)
              go_ret
              exact ⟨by rw [H.out]; rfl, hbr.trans ((below_drewN _ _).mono hbr.size)⟩
          · skip
            first | (exfalso; omega) | skip
            all_goals
              have q1 : (k : Int) < (x.size : Int) := by omega
              have q2 : ¬ (k : Int) < (y.size : Int) := by omega
              have q3 : decide ((k : Int) < (y.size : Int)) = false := decide_eq_false q2
              go_wp2
              go_quiet (fail)
              go_wp2_with (go_at_call 70; refine (hasSuffix_any _ _ _ (by assumption) (by assumption)).mono ?_; rintro e w' ⟨rfl, rfl⟩)
              go_ret
              exact ⟨by rw [H.out]; rfl, hbr.trans ((below_drewN _ _).mono hbr.size)⟩
        · skip
          first | (exfalso; omega) | skip
          all_goals
            have q1 : ¬ (k : Int) < (x.size : Int) := by omega
            have q2 : decide ((k : Int) < (x.size : Int)) = false := decide_eq_false q1
            go_wp2
            go_quiet (fail)
            go_wp2_with (go_at_call 70; refine (hasSuffix_any _ _ _ (by assumption) (by assumption)).mono ?_; rintro e w' ⟨rfl, rfl⟩)
            go_ret
            exact ⟨by rw [H.out]; rfl, hbr.trans ((below_drewN _ _).mono hbr.size)⟩
      by_cases a2 : y.size < 4
      · have H := Lib.hid (phone_0 Hk.out (Or.inr (Or.inl a2)))
        clear b3 s1 s2
        by_cases h1 : k < x.size
        · by_cases h2 : k < y.size
          · skip
            first | (exfalso; omega) | skip
            all_goals
              have q1 : (k : Int) < (x.size : Int) := by omega
              have q2 : (k : Int) < (y.size : Int) := by omega
              obtain ⟨m, hm⟩ : ∃ m, m = x.size - 1 - k := ⟨_, rfl⟩
              obtain ⟨n, hn⟩ : ∃ n, n = y.size - 1 - k := ⟨_, rfl⟩
              have m1 : (m : Int) < (x.size : Int) := by omega
              have n1 : (n : Int) < (y.size : Int) := by omega
              have m2 : m < x.size := by omega
              have n2 : n < y.size := by omega
              have he2 : ((x[m].toNat : Int) == (y[n].toNat : Int)) = false := by
                rw [beq_eq_false_iff_ne]
                intro e; subst hm hn; exact hc ⟨h1, h2, UInt8.toNat_inj.1 (by omega)⟩
              have u6 : (x.size : Int) - 1 - k = (m : Int) := by omega
              have v6 : (y.size : Int) - 1 - k = (n : Int) := by omega
              clear hm hn hc
              go_wp2
              go_quiet (fail)
              go_wp2_with (go_at_call 70; refine (hasSuffix_any _ _ _ (by assumption) (by assumption)).mono ?_; rintro e w' ⟨rfl, rfl⟩)
              go_ret
              exact ⟨by rw [H.out]; rfl, hbr.trans ((below_drewN _ _).mono hbr.size)⟩
          · skip
            first | (exfalso; omega) | skip
            all_goals
              have q1 : (k : Int) < (x.size : Int) := by omega
              have q2 : ¬ (k : Int) < (y.size : Int) := by omega
              have q3 : decide ((k : Int) < (y.size : Int)) = false := decide_eq_false q2
              go_wp2
              go_quiet (fail)
              go_wp2_with (go_at_call 70; refine (hasSuffix_any _ _ _ (by assumption) (by assumption)).mono ?_; rintro e w' ⟨rfl, rfl⟩)
              go_ret
              exact ⟨by rw [H.out]; rfl, hbr.trans ((below_drewN _ _).mono hbr.size)⟩
        · skip
          first | (exfalso; omega) | skip
          all_goals
            have q1 : ¬ (k : Int) < (x.size : Int) := by omega
            have q2 : decide ((k : Int) < (x.size : Int)) = false := decide_eq_false q1
            go_wp2
            go_quiet (fail)
            go_wp2_with (go_at_call 70; refine (hasSuffix_any _ _ _ (by assumption) (by assumption)).mono ?_; rintro e w' ⟨rfl, rfl⟩)
            go_ret
            exact ⟨by rw [H.out]; rfl, hbr.trans ((below_drewN _ _).mono hbr.size)⟩
      by_cases a3 : k < 4
      · have H := Lib.hid (phone_0 Hk.out (Or.inr (Or.inr a3)))
        clear b3 s1 s2
        by_cases h1 : k < x.size
        · by_cases h2 : k < y.size
          · skip
            first | (exfalso; omega) | skip
            all_goals
              have q1 : (k : Int) < (x.size : Int) := by omega
              have q2 : (k : Int) < (y.size : Int) := by omega
              obtain ⟨m, hm⟩ : ∃ m, m = x.size - 1 - k := ⟨_, rfl⟩
              obtain ⟨n, hn⟩ : ∃ n, n = y.size - 1 - k := ⟨_, rfl⟩
              have m1 : (m : Int) < (x.size : Int) := by omega
              have n1 : (n : Int) < (y.size : Int) := by omega
              have m2 : m < x.size := by omega
              have n2 : n < y.size := by omega
              have he2 : ((x[m].toNat : Int) == (y[n].toNat : Int)) = false := by
                rw [beq_eq_false_iff_ne]
                intro e; subst hm hn; exact hc ⟨h1, h2, UInt8.toNat_inj.1 (by omega)⟩
              have u6 : (x.size : Int) - 1 - k = (m : Int) := by omega
              have v6 : (y.size : Int) - 1 - k = (n : Int) := by omega
              clear hm hn hc
              go_wp2
              go_quiet (fail)
              go_wp2_with (go_at_call 70; refine (hasSuffix_any _ _ _ (by assumption) (by assumption)).mono ?_; rintro e w' ⟨rfl, rfl⟩)
              go_ret
              exact ⟨by rw [H.out]; rfl, hbr.trans ((below_drewN _ _).mono hbr.size)⟩
          · skip
            first | (exfalso; omega) | skip
            all_goals
              have q1 : (k : Int) < (x.size : Int) := by omega
              have q2 : ¬ (k : Int) < (y.size : Int) := by omega
              have q3 : decide ((k : Int) < (y.size : Int)) = false := decide_eq_false q2
              go_wp2
              go_quiet (fail)
              go_wp2_with (go_at_call 70; refine (hasSuffix_any _ _ _ (by assumption) (by assumption)).mono ?_; rintro e w' ⟨rfl, rfl⟩)
              go_ret
              exact ⟨by rw [H.out]; rfl, hbr.trans ((below_drewN _ _).mono hbr.size)⟩
        · skip
          first | (exfalso; omega) | skip
          all_goals
            have q1 : ¬ (k : Int) < (x.size : Int) := by omega
            have q2 : decide ((k : Int) < (x.size : Int)) = false := decide_eq_false q1
            go_wp2
            go_quiet (fail)
            go_wp2_with (go_at_call 70; refine (hasSuffix_any _ _ _ (by assumption) (by assumption)).mono ?_; rintro e w' ⟨rfl, rfl⟩)
            go_ret
            exact ⟨by rw [H.out]; rfl, hbr.trans ((below_drewN _ _).mono hbr.size)⟩
      have g1 : ¬ (x.size < 4 ∨ y.size < 4 ∨ k < 4) := by omega
      by_cases ex : k = x.size
      · by_cases ey : k = y.size
        · have H := Lib.hid (phone_1 Hk.out g1 ⟨ex, ey⟩)
          rw [decide_eq_true (show k = x.size ∧ k = y.size from ⟨ex, ey⟩)] at b3
          have e1 : ((k : Int) == (x.size : Int)) = true := by simp [ex]
          have e2 : ((k : Int) == (y.size : Int)) = true := by simp [ey]
          have Ex := Lib.hid ex; clear ex
          have Ey := Lib.hid ey; clear ey
          clear s1 s2 g1
          by_cases h1 : k < x.size
          · exact absurd Ex.out (by omega)
          · skip
            have q1 : ¬ (k : Int) < (x.size : Int) := by omega
            have q2 : decide ((k : Int) < (x.size : Int)) = false := decide_eq_false q1
            go_wp2
            go_quiet (fail)
            go_wp2_with (go_at_call 70; refine (hasSuffix_any _ _ _ (by assumption) (by assumption)).mono ?_; rintro e w' ⟨rfl, rfl⟩)
            go_ret
            exact ⟨by rw [H.out]; rfl, hbr.trans ((below_drewN _ _).mono hbr.size)⟩
        · have e1 : ((k : Int) == (x.size : Int)) = true := by simp [ex]
          have e2 : ((k : Int) == (y.size : Int)) = false := by simp; omega
          rw [decide_eq_false (show ¬ (k = x.size ∧ k = y.size) from by omega)] at b3
          rw [decide_eq_false ey] at s1
          rw [decide_eq_true ex] at s2
          by_cases h7 : 7 ≤ k
          · have H := Lib.hid (phone_8 Hk.out g1 (by omega) (Or.inl h7))
            have Ex := Lib.hid ex; clear ex
            clear g1
            by_cases h1 : k < x.size
            · exact absurd Ex.out (by omega)
            · skip
              have q1 : ¬ (k : Int) < (x.size : Int) := by omega
              have q2 : decide ((k : Int) < (x.size : Int)) = false := decide_eq_false q1
              go_wp2
              go_quiet (fail)
              go_wp2_with (go_at_call 70; refine (hasSuffix_any _ _ _ (by assumption) (by assumption)).mono ?_; rintro e w' ⟨rfl, rfl⟩)
              go_ret
              exact ⟨by rw [H.out]; rfl, hbr.trans ((below_drewN _ _).mono hbr.size)⟩
          · have H := Lib.hid (phone_8 Hk.out g1 (by omega) (Or.inr (Or.inl ex)))
            have Ex := Lib.hid ex; clear ex
            clear g1
            by_cases h1 : k < x.size
            · exact absurd Ex.out (by omega)
            · skip
              have q1 : ¬ (k : Int) < (x.size : Int) := by omega
              have q2 : decide ((k : Int) < (x.size : Int)) = false := decide_eq_false q1
              go_wp2
              go_quiet (fail)
              go_wp2_with (go_at_call 70; refine (hasSuffix_any _ _ _ (by assumption) (by assumption)).mono ?_; rintro e w' ⟨rfl, rfl⟩)
              go_ret
              exact ⟨by rw [H.out]; rfl, hbr.trans ((below_drewN _ _).mono hbr.size)⟩
      · have e1 : ((k : Int) == (x.size : Int)) = false := by simp; omega
        rw [decide_eq_false (show ¬ (k = x.size ∧ k = y.size) from by omega)] at b3
        rw [decide_eq_false ex] at s2
        have h1 : k < x.size := by omega
        by_cases ey : k = y.size
        · have e2 : ((k : Int) == (y.size : Int)) = true := by simp [ey]
          rw [decide_eq_true ey] at s1
          by_cases h7 : 7 ≤ k
          · have H := Lib.hid (phone_8 Hk.out g1 (by omega) (Or.inl h7))
            have h2 : ¬ k < y.size := by omega
            have Ey := Lib.hid ey; clear ey
            clear g1
            have q1 : (k : Int) < (x.size : Int) := by omega
            have q2 : ¬ (k : Int) < (y.size : Int) := by omega
            have q3 : decide ((k : Int) < (y.size : Int)) = false := decide_eq_false q2
            go_wp2
            go_quiet (fail)
            go_wp2_with (go_at_call 70; refine (hasSuffix_any _ _ _ (by assumption) (by assumption)).mono ?_; rintro e w' ⟨rfl, rfl⟩)
            go_ret
            exact ⟨by rw [H.out]; rfl, hbr.trans ((below_drewN _ _).mono hbr.size)⟩
          · have H := Lib.hid (phone_8 Hk.out g1 (by omega) (Or.inr (Or.inr ey)))
            have h2 : ¬ k < y.size := by omega
            have Ey := Lib.hid ey; clear ey
            clear g1
            have q1 : (k : Int) < (x.size : Int) := by omega
            have q2 : ¬ (k : Int) < (y.size : Int) := by omega
            have q3 : decide ((k : Int) < (y.size : Int)) = false := decide_eq_false q2
            go_wp2
            go_quiet (fail)
            go_wp2_with (go_at_call 70; refine (hasSuffix_any _ _ _ (by assumption) (by assumption)).mono ?_; rintro e w' ⟨rfl, rfl⟩)
            go_ret
            exact ⟨by rw [H.out]; rfl, hbr.trans ((below_drewN _ _).mono hbr.size)⟩
        · have e2 : ((k : Int) == (y.size : Int)) = false := by simp; omega
          rw [decide_eq_false ey] at s1
          have h2 : k < y.size := by omega
          by_cases h7 : 7 ≤ k
          · have H := Lib.hid (phone_8 Hk.out g1 (by omega) (Or.inl h7))
            clear g1
            have q1 : (k : Int) < (x.size : Int) := by omega
            have q2 : (k : Int) < (y.size : Int) := by omega
            obtain ⟨m, hm⟩ : ∃ m, m = x.size - 1 - k := ⟨_, rfl⟩
            obtain ⟨n, hn⟩ : ∃ n, n = y.size - 1 - k := ⟨_, rfl⟩
            have m1 : (m : Int) < (x.size : Int) := by omega
            have n1 : (n : Int) < (y.size : Int) := by omega
            have m2 : m < x.size := by omega
            have n2 : n < y.size := by omega
            have he2 : ((x[m].toNat : Int) == (y[n].toNat : Int)) = false := by
              rw [beq_eq_false_iff_ne]
              intro e; subst hm hn; exact hc ⟨h1, h2, UInt8.toNat_inj.1 (by omega)⟩
            have u6 : (x.size : Int) - 1 - k = (m : Int) := by omega
            have v6 : (y.size : Int) - 1 - k = (n : Int) := by omega
            clear hm hn hc
            go_wp2
            go_quiet (fail)
            go_wp2_with (go_at_call 70; refine (hasSuffix_any _ _ _ (by assumption) (by assumption)).mono ?_; rintro e w' ⟨rfl, rfl⟩)
            go_ret
            exact ⟨by rw [H.out]; rfl, hbr.trans ((below_drewN _ _).mono hbr.size)⟩
          · have H := Lib.hid (phone_4 Hk.out g1 (by omega) (by omega))
            clear g1
            have q1 : (k : Int) < (x.size : Int) := by omega
            have q2 : (k : Int) < (y.size : Int) := by omega
            obtain ⟨m, hm⟩ : ∃ m, m = x.size - 1 - k := ⟨_, rfl⟩
            obtain ⟨n, hn⟩ : ∃ n, n = y.size - 1 - k := ⟨_, rfl⟩
            have m1 : (m : Int) < (x.size : Int) := by omega
            have n1 : (n : Int) < (y.size : Int) := by omega
            have m2 : m < x.size := by omega
            have n2 : n < y.size := by omega
            have he2 : ((x[m].toNat : Int) == (y[n].toNat : Int)) = false := by
              rw [beq_eq_false_iff_ne]
              intro e; subst hm hn; exact hc ⟨h1, h2, UInt8.toNat_inj.1 (by omega)⟩
            have u6 : (x.size : Int) - 1 - k = (m : Int) := by omega
            have v6 : (y.size : Int) - 1 - k = (n : Int) := by omega
            clear hm hn hc
            go_wp2
            go_quiet (fail)
            go_wp2_with (go_at_call 70; refine (hasSuffix_any _ _ _ (by assumption) (by assumption)).mono ?_; rintro e w' ⟨rfl, rfl⟩)
            go_ret
            exact ⟨by rw [H.out]; rfl, hbr.trans ((below_drewN _ _).mono hbr.size)⟩
set_option maxHeartbeats 4000000 in
theorem implPhoneScore (a b : ByteArray) (w : World) (ha : a.size ≤ 1048576) (hb : b.size ≤ 1048576) :
    Calls Tryd.prog 38 #[.string a, .string b] w fun e w' => e = .returned (.int .i64 (phone (bstr (digitsOf a.data.toList)) (bstr (digitsOf b.data.toList)))) ∧ Below w.heap.size w w' := by
  have d1 := fun wx => implDigitsOf a wx ha
  have d2 := fun wx => implDigitsOf b wx hb
  have l1 := digitsOf_le a a.size (Nat.le_refl _)
  have l2 := digitsOf_le b b.size (Nat.le_refl _)
  rw [take_all] at l1 l2
  rw [← bstr_size] at l1 l2
  obtain ⟨x, hx⟩ : ∃ x, x = bstr (digitsOf a.data.toList) := ⟨_, rfl⟩
  obtain ⟨y, hy⟩ : ∃ y, y = bstr (digitsOf b.data.toList) := ⟨_, rfl⟩
  rw [← hx] at d1 l1 ⊢
  rw [← hy] at d2 l2 ⊢
  clear hx hy
  have D1 := Lib.hid d1; clear d1
  have D2 := Lib.hid d2; clear d2
  have hx : x.size ≤ 1048576 := by omega
  have hy : y.size ≤ 1048576 := by omega
  clear l1 l2
  go_enter Tryd.func38, Tryd.ntmps38
  go_wp2_with fail
  refine (D1.out _).mono ?_
  rintro e w1 ⟨rfl, b1⟩
  go_wp2_with fail
  refine (D2.out _).mono ?_
  rintro e w2 ⟨rfl, b2⟩
  have b3 := b1.trans (b2.mono b1.size)
  clear b1 b2 D1 D2 ha hb
  go_wp2_with fail
  go_loopw [7] (fun n wr => ∃ k : Nat, k ≤ x.size ∧ k ≤ y.size ∧ n = .int .i64 k ∧ x.data.toList.reverse.take k = y.data.toList.reverse.take k ∧ Below w.heap.size w wr) (fun n _ => x.size - (intOf n).toNat)
  case atStart => exact ⟨0, Nat.zero_le _, Nat.zero_le _, rfl, rfl, b3⟩
  case round =>
    obtain ⟨k, k1, k2, rfl, ht, hbr⟩ := hrel
    clear b3
    have Ht := Lib.hid ht; clear ht
    by_cases hc : ∃ (p : k < x.size) (q : k < y.size), x[x.size - 1 - k] = y[y.size - 1 - k]
    · obtain ⟨p, q, he⟩ := hc
      have Hn := Lib.hid (rev_take_succ x y k p q Ht.out he)
      have q1 : (k : Int) < (x.size : Int) := by omega
      have q2 : (k : Int) < (y.size : Int) := by omega
      obtain ⟨m, hm⟩ : ∃ m, m = x.size - 1 - k := ⟨_, rfl⟩
      obtain ⟨n, hn⟩ : ∃ n, n = y.size - 1 - k := ⟨_, rfl⟩
      have m1 : (m : Int) < (x.size : Int) := by omega
      have n1 : (n : Int) < (y.size : Int) := by omega
      have m2 : m < x.size := by omega
      have n2 : n < y.size := by omega
      have he2 : ((x[m].toNat : Int) == (y[n].toNat : Int)) = true := by subst hm hn; rw [he]; simp
      have u6 : (x.size : Int) - 1 - k = (m : Int) := by omega
      have v6 : (y.size : Int) - 1 - k = (n : Int) := by omega
      clear he hm hn
      go_wp2
      go_quiet (fail)
      clear u6 v6
      go_wp2
      go_roundw
      case rel => exact ⟨k + 1, by omega, by omega, by go_num, Hn.out, hbr.trans ((below_drewN _ _).mono hbr.size)⟩
      case measure => simp [intOf]; omega
    · have Hk : Hid (lcs x.data.toList y.data.toList = k) := Lib.hid (lcs_of x y k k1 k2 Ht.out (by
        by_cases p : k < x.size
        · by_cases q : k < y.size
          · exact Or.inr (Or.inr ⟨p, q, fun h => hc ⟨p, q, h⟩⟩)
          · omega
        · omega))
      have s1 := suf_1 Hk.out k2 k1
      have s2 := suf_2 Hk.out k2 k1
      have b3 := eq_iff_lcs x y
      rw [Hk.out] at b3
      by_cases a1 : x.size < 4
      · have H := Lib.hid (phone_0 Hk.out (Or.inl a1))
        clear b3 s1 s2
        by_cases h1 : k < x.size
        · by_cases h2 : k < y.size
          · skip
            first | (exfalso; omega) | skip
            all_goals
              have q1 : (k : Int) < (x.size : Int) := by omega
              have q2 : (k : Int) < (y.size : Int) := by omega
              obtain ⟨m, hm⟩ : ∃ m, m = x.size - 1 - k := ⟨_, rfl⟩
              obtain ⟨n, hn⟩ : ∃ n, n = y.size - 1 - k := ⟨_, rfl⟩
              have m1 : (m : Int) < (x.size : Int) := by omega
              have n1 : (n : Int) < (y.size : Int) := by omega
              have m2 : m < x.size := by omega
              have n2 : n < y.size := by omega
              have he2 : ((x[m].toNat : Int) == (y[n].toNat : Int)) = false := by
                rw [beq_eq_false_iff_ne]
                intro e; subst hm hn; exact hc ⟨h1, h2, UInt8.toNat_inj.1 (by omega)⟩
              have u6 : (x.size : Int) - 1 - k = (m : Int) := by omega
              have v6 : (y.size : Int) - 1 - k = (n : Int) := by omega
              clear hm hn hc
              go_wp2
              go_quiet (fail)
              go_wp2_with (go_at_call 70; refine (hasSuffix_any _ _ _ (by assumption) (by assumption)).mono ?_; rintro e w' ⟨rfl, rfl⟩)
              go_ret
              exact ⟨by rw [H.out]; rfl, hbr.trans ((below_drewN _ _).mono hbr.size)⟩
          · skip
            first | (exfalso; omega) | skip
            all_goals
              have q1 : (k : Int) < (x.size : Int) := by omega
              have q2 : ¬ (k : Int) < (y.size : Int) := by omega
              have q3 : decide ((k : Int) < (y.size : Int)) = false := decide_eq_false q2
              go_wp2
              go_quiet (fail)
              go_wp2_with (go_at_call 70; refine (hasSuffix_any _ _ _ (by assumption) (by assumption)).mono ?_; rintro e w' ⟨rfl, rfl⟩)
              go_ret
              exact ⟨by rw [H.out]; rfl, hbr.trans ((below_drewN _ _).mono hbr.size)⟩
        · skip
          first | (exfalso; omega) | skip
          all_goals
            have q1 : ¬ (k : Int) < (x.size : Int) := by omega
            have q2 : decide ((k : Int) < (x.size : Int)) = false := decide_eq_false q1
            go_wp2
            go_quiet (fail)
            go_wp2_with (go_at_call 70; refine (hasSuffix_any _ _ _ (by assumption) (by assumption)).mono ?_; rintro e w' ⟨rfl, rfl⟩)
            go_ret
            exact ⟨by rw [H.out]; rfl, hbr.trans ((below_drewN _ _).mono hbr.size)⟩
      by_cases a2 : y.size < 4
      · have H := Lib.hid (phone_0 Hk.out (Or.inr (Or.inl a2)))
        clear b3 s1 s2
        by_cases h1 : k < x.size
        · by_cases h2 : k < y.size
          · skip
            first | (exfalso; omega) | skip
            all_goals
              have q1 : (k : Int) < (x.size : Int) := by omega
              have q2 : (k : Int) < (y.size : Int) := by omega
              obtain ⟨m, hm⟩ : ∃ m, m = x.size - 1 - k := ⟨_, rfl⟩
              obtain ⟨n, hn⟩ : ∃ n, n = y.size - 1 - k := ⟨_, rfl⟩
              have m1 : (m : Int) < (x.size : Int) := by omega
              have n1 : (n : Int) < (y.size : Int) := by omega
              have m2 : m < x.size := by omega
              have n2 : n < y.size := by omega
              have he2 : ((x[m].toNat : Int) == (y[n].toNat : Int)) = false := by
                rw [beq_eq_false_iff_ne]
                intro e; subst hm hn; exact hc ⟨h1, h2, UInt8.toNat_inj.1 (by omega)⟩
              have u6 : (x.size : Int) - 1 - k = (m : Int) := by omega
              have v6 : (y.size : Int) - 1 - k = (n : Int) := by omega
              clear hm hn hc
              go_wp2
              go_quiet (fail)
              go_wp2_with (go_at_call 70; refine (hasSuffix_any _ _ _ (by assumption) (by assumption)).mono ?_; rintro e w' ⟨rfl, rfl⟩)
              go_ret
              exact ⟨by rw [H.out]; rfl, hbr.trans ((below_drewN _ _).mono hbr.size)⟩
          · skip
            first | (exfalso; omega) | skip
            all_goals
              have q1 : (k : Int) < (x.size : Int) := by omega
              have q2 : ¬ (k : Int) < (y.size : Int) := by omega
              have q3 : decide ((k : Int) < (y.size : Int)) = false := decide_eq_false q2
              go_wp2
              go_quiet (fail)
              go_wp2_with (go_at_call 70; refine (hasSuffix_any _ _ _ (by assumption) (by assumption)).mono ?_; rintro e w' ⟨rfl, rfl⟩)
              go_ret
              exact ⟨by rw [H.out]; rfl, hbr.trans ((below_drewN _ _).mono hbr.size)⟩
        · skip
          first | (exfalso; omega) | skip
          all_goals
            have q1 : ¬ (k : Int) < (x.size : Int) := by omega
            have q2 : decide ((k : Int) < (x.size : Int)) = false := decide_eq_false q1
            go_wp2
            go_quiet (fail)
            go_wp2_with (go_at_call 70; refine (hasSuffix_any _ _ _ (by assumption) (by assumption)).mono ?_; rintro e w' ⟨rfl, rfl⟩)
            go_ret
            exact ⟨by rw [H.out]; rfl, hbr.trans ((below_drewN _ _).mono hbr.size)⟩
      by_cases a3 : k < 4
      · have H := Lib.hid (phone_0 Hk.out (Or.inr (Or.inr a3)))
        clear b3 s1 s2
        by_cases h1 : k < x.size
        · by_cases h2 : k < y.size
          · skip
            first | (exfalso; omega) | skip
            all_goals
              have q1 : (k : Int) < (x.size : Int) := by omega
              have q2 : (k : Int) < (y.size : Int) := by omega
              obtain ⟨m, hm⟩ : ∃ m, m = x.size - 1 - k := ⟨_, rfl⟩
              obtain ⟨n, hn⟩ : ∃ n, n = y.size - 1 - k := ⟨_, rfl⟩
              have m1 : (m : Int) < (x.size : Int) := by omega
              have n1 : (n : Int) < (y.size : Int) := by omega
              have m2 : m < x.size := by omega
              have n2 : n < y.size := by omega
              have he2 : ((x[m].toNat : Int) == (y[n].toNat : Int)) = false := by
                rw [beq_eq_false_iff_ne]
                intro e; subst hm hn; exact hc ⟨h1, h2, UInt8.toNat_inj.1 (by omega)⟩
              have u6 : (x.size : Int) - 1 - k = (m : Int) := by omega
              have v6 : (y.size : Int) - 1 - k = (n : Int) := by omega
              clear hm hn hc
              go_wp2
              go_quiet (fail)
              go_wp2_with (go_at_call 70; refine (hasSuffix_any _ _ _ (by assumption) (by assumption)).mono ?_; rintro e w' ⟨rfl, rfl⟩)
              go_ret
              exact ⟨by rw [H.out]; rfl, hbr.trans ((below_drewN _ _).mono hbr.size)⟩
          · skip
            first | (exfalso; omega) | skip
            all_goals
              have q1 : (k : Int) < (x.size : Int) := by omega
              have q2 : ¬ (k : Int) < (y.size : Int) := by omega
              have q3 : decide ((k : Int) < (y.size : Int)) = false := decide_eq_false q2
              go_wp2
              go_quiet (fail)
              go_wp2_with (go_at_call 70; refine (hasSuffix_any _ _ _ (by assumption) (by assumption)).mono ?_; rintro e w' ⟨rfl, rfl⟩)
              go_ret
              exact ⟨by rw [H.out]; rfl, hbr.trans ((below_drewN _ _).mono hbr.size)⟩
        · skip
          first | (exfalso; omega) | skip
          all_goals
            have q1 : ¬ (k : Int) < (x.size : Int) := by omega
            have q2 : decide ((k : Int) < (x.size : Int)) = false := decide_eq_false q1
            go_wp2
            go_quiet (fail)
            go_wp2_with (go_at_call 70; refine (hasSuffix_any _ _ _ (by assumption) (by assumption)).mono ?_; rintro e w' ⟨rfl, rfl⟩)
            go_ret
            exact ⟨by rw [H.out]; rfl, hbr.trans ((below_drewN _ _).mono hbr.size)⟩
      have g1 : ¬ (x.size < 4 ∨ y.size < 4 ∨ k < 4) := by omega
      by_cases ex : k = x.size
      · by_cases ey : k = y.size
        · have H := Lib.hid (phone_1 Hk.out g1 ⟨ex, ey⟩)
          rw [decide_eq_true (show k = x.size ∧ k = y.size from ⟨ex, ey⟩)] at b3
          have e1 : ((k : Int) == (x.size : Int)) = true := by simp [ex]
          have e2 : ((k : Int) == (y.size : Int)) = true := by simp [ey]
          have Ex := Lib.hid ex; clear ex
          have Ey := Lib.hid ey; clear ey
          clear s1 s2 g1
          by_cases h1 : k < x.size
          · exact absurd Ex.out (by omega)
          · skip
            have q1 : ¬ (k : Int) < (x.size : Int) := by omega
            have q2 : decide ((k : Int) < (x.size : Int)) = false := decide_eq_false q1
            go_wp2
            go_quiet (fail)
            go_wp2_with (go_at_call 70; refine (hasSuffix_any _ _ _ (by assumption) (by assumption)).mono ?_; rintro e w' ⟨rfl, rfl⟩)
            go_ret
            exact ⟨by rw [H.out]; rfl, hbr.trans ((below_drewN _ _).mono hbr.size)⟩
        · have e1 : ((k : Int) == (x.size : Int)) = true := by simp [ex]
          have e2 : ((k : Int) == (y.size : Int)) = false := by simp; omega
          rw [decide_eq_false (show ¬ (k = x.size ∧ k = y.size) from by omega)] at b3
          rw [decide_eq_false ey] at s1
          rw [decide_eq_true ex] at s2
          by_cases h7 : 7 ≤ k
          · have H := Lib.hid (phone_8 Hk.out g1 (by omega) (Or.inl h7))
            have Ex := Lib.hid ex; clear ex
            clear g1
            by_cases h1 : k < x.size
            · exact absurd Ex.out (by omega)
            · skip
              have q1 : ¬ (k : Int) < (x.size : Int) := by omega
              have q2 : decide ((k : Int) < (x.size : Int)) = false := decide_eq_false q1
              go_wp2
              go_quiet (fail)
              go_wp2_with (go_at_call 70; refine (hasSuffix_any _ _ _ (by assumption) (by assumption)).mono ?_; rintro e w' ⟨rfl, rfl⟩)
              go_ret
              exact ⟨by rw [H.out]; rfl, hbr.trans ((below_drewN _ _).mono hbr.size)⟩
          · have H := Lib.hid (phone_8 Hk.out g1 (by omega) (Or.inr (Or.inl ex)))
            have Ex := Lib.hid ex; clear ex
            clear g1
            by_cases h1 : k < x.size
            · exact absurd Ex.out (by omega)
            · skip
              have q1 : ¬ (k : Int) < (x.size : Int) := by omega
              have q2 : decide ((k : Int) < (x.size : Int)) = false := decide_eq_false q1
              go_wp2
              go_quiet (fail)
              go_wp2_with (go_at_call 70; refine (hasSuffix_any _ _ _ (by assumption) (by assumption)).mono ?_; rintro e w' ⟨rfl, rfl⟩)
              go_ret
              exact ⟨by rw [H.out]; rfl, hbr.trans ((below_drewN _ _).mono hbr.size)⟩
      · have e1 : ((k : Int) == (x.size : Int)) = false := by simp; omega
        rw [decide_eq_false (show ¬ (k = x.size ∧ k = y.size) from by omega)] at b3
        rw [decide_eq_false ex] at s2
        have h1 : k < x.size := by omega
        by_cases ey : k = y.size
        · have e2 : ((k : Int) == (y.size : Int)) = true := by simp [ey]
          rw [decide_eq_true ey] at s1
          by_cases h7 : 7 ≤ k
          · have H := Lib.hid (phone_8 Hk.out g1 (by omega) (Or.inl h7))
            have h2 : ¬ k < y.size := by omega
            have Ey := Lib.hid ey; clear ey
            clear g1
            have q1 : (k : Int) < (x.size : Int) := by omega
            have q2 : ¬ (k : Int) < (y.size : Int) := by omega
            have q3 : decide ((k : Int) < (y.size : Int)) = false := decide_eq_false q2
            go_wp2
            go_quiet (fail)
            go_wp2_with (go_at_call 70; refine (hasSuffix_any _ _ _ (by assumption) (by assumption)).mono ?_; rintro e w' ⟨rfl, rfl⟩)
            go_ret
            exact ⟨by rw [H.out]; rfl, hbr.trans ((below_drewN _ _).mono hbr.size)⟩
          · have H := Lib.hid (phone_8 Hk.out g1 (by omega) (Or.inr (Or.inr ey)))
            have h2 : ¬ k < y.size := by omega
            have Ey := Lib.hid ey; clear ey
            clear g1
            have q1 : (k : Int) < (x.size : Int) := by omega
            have q2 : ¬ (k : Int) < (y.size : Int) := by omega
            have q3 : decide ((k : Int) < (y.size : Int)) = false := decide_eq_false q2
            go_wp2
            go_quiet (fail)
            go_wp2_with (go_at_call 70; refine (hasSuffix_any _ _ _ (by assumption) (by assumption)).mono ?_; rintro e w' ⟨rfl, rfl⟩)
            go_ret
            exact ⟨by rw [H.out]; rfl, hbr.trans ((below_drewN _ _).mono hbr.size)⟩
        · have e2 : ((k : Int) == (y.size : Int)) = false := by simp; omega
          rw [decide_eq_false ey] at s1
          have h2 : k < y.size := by omega
          by_cases h7 : 7 ≤ k
          · have H := Lib.hid (phone_8 Hk.out g1 (by omega) (Or.inl h7))
            clear g1
            have q1 : (k : Int) < (x.size : Int) := by omega
            have q2 : (k : Int) < (y.size : Int) := by omega
            obtain ⟨m, hm⟩ : ∃ m, m = x.size - 1 - k := ⟨_, rfl⟩
            obtain ⟨n, hn⟩ : ∃ n, n = y.size - 1 - k := ⟨_, rfl⟩
            have m1 : (m : Int) < (x.size : Int) := by omega
            have n1 : (n : Int) < (y.size : Int) := by omega
            have m2 : m < x.size := by omega
            have n2 : n < y.size := by omega
            have he2 : ((x[m].toNat : Int) == (y[n].toNat : Int)) = false := by
              rw [beq_eq_false_iff_ne]
              intro e; subst hm hn; exact hc ⟨h1, h2, UInt8.toNat_inj.1 (by omega)⟩
            have u6 : (x.size : Int) - 1 - k = (m : Int) := by omega
            have v6 : (y.size : Int) - 1 - k = (n : Int) := by omega
            clear hm hn hc
            go_wp2
            go_quiet (fail)
            go_wp2_with (go_at_call 70; refine (hasSuffix_any _ _ _ (by assumption) (by assumption)).mono ?_; rintro e w' ⟨rfl, rfl⟩)
            go_ret
            exact ⟨by rw [H.out]; rfl, hbr.trans ((below_drewN _ _).mono hbr.size)⟩
          · have H := Lib.hid (phone_4 Hk.out g1 (by omega) (by omega))
            clear g1
            have q1 : (k : Int) < (x.size : Int) := by omega
            have q2 : (k : Int) < (y.size : Int) := by omega
            obtain ⟨m, hm⟩ : ∃ m, m = x.size - 1 - k := ⟨_, rfl⟩
            obtain ⟨n, hn⟩ : ∃ n, n = y.size - 1 - k := ⟨_, rfl⟩
            have m1 : (m : Int) < (x.size : Int) := by omega
            have n1 : (n : Int) < (y.size : Int) := by omega
            have m2 : m < x.size := by omega
            have n2 : n < y.size := by omega
            have he2 : ((x[m].toNat : Int) == (y[n].toNat : Int)) = false := by
              rw [beq_eq_false_iff_ne]
              intro e; subst hm hn; exact hc ⟨h1, h2, UInt8.toNat_inj.1 (by omega)⟩
            have u6 : (x.size : Int) - 1 - k = (m : Int) := by omega
            have v6 : (y.size : Int) - 1 - k = (n : Int) := by omega
            clear hm hn hc
            go_wp2
            go_quiet (fail)
            go_wp2_with (go_at_call 70; refine (hasSuffix_any _ _ _ (by assumption) (by assumption)).mono ?_; rintro e w' ⟨rfl, rfl⟩)
            go_ret
            exact ⟨by rw [H.out]; rfl, hbr.trans ((below_drewN _ _).mono hbr.size)⟩
end Go.Proofs.YtoijjielnbcphaaDoor

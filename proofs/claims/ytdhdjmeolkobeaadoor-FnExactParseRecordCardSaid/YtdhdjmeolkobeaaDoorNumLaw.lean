/-
  Plain laws on decimal numerals: the digits of a number, the number of a numeral. No condition.
-/
import Derived.Test.YtdhdjmeolkobeaaDoorBase
import Derived.Lib.ItoaNum
import Derived.Lib.AtoiAllCases
namespace Go.Proofs.YtdhdjmeolkobeaaDoor
set_option linter.unusedVariables false
set_option linter.unusedSimpArgs false

/-- The digit d. -/
def dch (d : Nat) : UInt8 := UInt8.ofNat (48 + d)
/-- The digits of u, none for 0. -/
def dg0 (u : Nat) : List UInt8 := if h : u = 0 then [] else dg0 (u / 10) ++ [dch (u % 10)]
termination_by u
decreasing_by omega
theorem dg0_zero : dg0 0 = [] := by rw [dg0, dif_pos rfl]
theorem dg0_pos {u : Nat} (h : u ≠ 0) : dg0 u = dg0 (u / 10) ++ [dch (u % 10)] := by rw [dg0, dif_neg h]
theorem decDigits_dg0 (u : Nat) (h : u ≠ 0) : Lib.decDigits u = dg0 u := by
  induction u using Nat.strongRecOn with
  | _ u ih =>
    by_cases h2 : u < 10
    · rw [Lib.decDigits, dif_pos h2, dg0_pos h, show u / 10 = 0 from by omega, dg0_zero, show u % 10 = u from by omega]; rfl
    · rw [Lib.decDigits, dif_neg h2, dg0_pos h, ih (u / 10) (by omega) (by omega)]; rfl
theorem itoa_zero : Lib.itoa 0 = [48] := by
  unfold Lib.itoa; rw [if_neg (by omega), show (0 : Int).toNat = 0 from rfl, Lib.decDigits, dif_pos (by omega)]; rfl
theorem itoa_pos (u : Nat) (h : u ≠ 0) : Lib.itoa (u : Int) = dg0 u := by
  unfold Lib.itoa; rw [if_neg (by omega), Int.toNat_natCast, decDigits_dg0 u h]
theorem itoa_neg' (u : Nat) (h : u ≠ 0) : Lib.itoa (-(u : Int)) = 45 :: dg0 u := by
  unfold Lib.itoa; rw [if_pos (by omega), show (-(u : Int)).natAbs = u from by omega, decDigits_dg0 u h]
theorem dg0_len_le : ∀ (k u : Nat), u < 10 ^ k → (dg0 u).length ≤ k
  | 0, u, h => by
    obtain rfl : u = 0 := by simpa using h
    rw [dg0_zero]; simp
  | k + 1, u, h => by
    by_cases e : u = 0
    · subst e; rw [dg0_zero]; simp
    · rw [dg0_pos e, List.length_append]
      have := dg0_len_le k (u / 10) (by rw [Nat.pow_succ] at h; omega)
      simp; omega
theorem itoa_len (n : Int) (h0 : -9223372036854775808 ≤ n) (h1 : n ≤ 9223372036854775807) : (Lib.itoa n).length ≤ 20 := by
  have e19 : (10 : Nat) ^ 19 = 10000000000000000000 := by decide
  by_cases h : n = 0
  · subst h; rw [itoa_zero]; simp
  · by_cases hn : 0 ≤ n
    · obtain ⟨u, rfl⟩ := Int.eq_ofNat_of_zero_le hn
      rw [itoa_pos u (by omega)]
      have := dg0_len_le 19 u (by rw [e19]; omega)
      omega
    · obtain ⟨u, hu⟩ : ∃ u : Nat, n = -(u : Int) := ⟨n.natAbs, by omega⟩
      subst hu
      rw [itoa_neg' u (by omega)]
      have := dg0_len_le 19 u (by rw [e19]; omega)
      simp; omega

/-! ### from digits -/
def dgB (c : UInt8) : Bool := rng 48 57 c
/-- The digits' value. -/
def dv (l : List UInt8) : Nat := l.foldl (fun (a : Nat) (c : UInt8) => a * 10 + (c.toNat - 48)) 0
theorem dv_snoc (l : List UInt8) (c : UInt8) : dv (l ++ [c]) = dv l * 10 + (c.toNat - 48) := by simp [dv]
theorem dgB_iff {c : UInt8} (h : dgB c = true) : 48 ≤ c.toNat ∧ c.toNat ≤ 57 := by
  unfold dgB rng at h; simp at h; omega
theorem digit_toNat (d : Nat) (h : d < 10) : (dch d).toNat = 48 + d := UInt8.toNat_ofNat_of_lt (by show 48 + d < 256; omega)
theorem digit_dgB (d : Nat) (h : d < 10) : dgB (dch d) = true := by
  unfold dgB rng; rw [digit_toNat d h]; simp; omega
theorem dv_lt : ∀ (l : List UInt8), l.all dgB = true → dv l < 10 ^ l.length := by
  refine snoc_ind ?_ ?_
  · intro _; simp [dv]
  · intro l c ih h
    rw [List.all_append, Bool.and_eq_true] at h
    have h1 := ih h.1
    have h2 : dgB c = true := by simpa using h.2
    have h3 := dgB_iff h2
    rw [dv_snoc, List.length_append, show l.length + [c].length = l.length + 1 from rfl, Nat.pow_succ]
    omega
theorem dg0_all (u : Nat) : (dg0 u).all dgB = true := by
  induction u using Nat.strongRecOn with
  | _ u ih =>
    by_cases e : u = 0
    · subst e; rw [dg0_zero]; rfl
    · rw [dg0_pos e, List.all_append, ih (u / 10) (by omega)]
      have := digit_dgB (u % 10) (by omega)
      simp only [List.all_cons, List.all_nil, this]; rfl
theorem dv_dg0 (u : Nat) : dv (dg0 u) = u := by
  induction u using Nat.strongRecOn with
  | _ u ih =>
    by_cases e : u = 0
    · subst e; rw [dg0_zero]; rfl
    · rw [dg0_pos e, dv_snoc, ih (u / 10) (by omega), digit_toNat _ (by omega)]
      omega
theorem dg0_ne {u : Nat} (h : u ≠ 0) : dg0 u ≠ [] := by rw [dg0_pos h]; simp
theorem filter_all {l : List UInt8} (h : l.all dgB = true) : l.filter dgB = l := by
  rw [List.filter_eq_self]; simpa [List.all_eq_true] using h
/-- The digits among the first eleven bytes. -/
def dgs (l : List UInt8) : List UInt8 := (l.take 11).filter dgB
def sgn (l : List UInt8) (n : Nat) : Int := if l.head? = some 45 then -(n : Int) else n
def pVal (l : List UInt8) : Int := sgn l (dv (dgs l))
/-- The number of a numeral of at most nine digits. -/
def pInt (l : List UInt8) : Option Int := if (dgs l).length ≤ 9 ∧ l.length ≤ 10 ∧ Lib.itoa (pVal l) = l then some (pVal l) else none
theorem dgs_all (l : List UInt8) : (dgs l).all dgB = true := by
  rw [List.all_eq_true]; intro c hc; exact (List.mem_filter.1 hc).2
theorem dgs_len (l : List UInt8) : (dgs l).length ≤ 11 := by
  have := List.length_filter_le dgB (l.take 11)
  unfold dgs; simp at this ⊢; omega
theorem pVal_small {l : List UInt8} (h : (dgs l).length ≤ 9) : -999999999 ≤ pVal l ∧ pVal l ≤ 999999999 := by
  have h1 := dv_lt (dgs l) (dgs_all l)
  have h2 : 10 ^ (dgs l).length ≤ 10 ^ 9 := Nat.pow_le_pow_right (by decide) h
  have h3 : (10 : Nat) ^ 9 = 1000000000 := by decide
  unfold pVal sgn
  split <;> omega
theorem pVal_range (l : List UInt8) : -100000000000 ≤ pVal l ∧ pVal l ≤ 100000000000 := by
  have h1 := dv_lt (dgs l) (dgs_all l)
  have h2 : 10 ^ (dgs l).length ≤ 10 ^ 11 := Nat.pow_le_pow_right (by decide) (dgs_len l)
  have h3 : (10 : Nat) ^ 11 = 100000000000 := by decide
  unfold pVal sgn
  split <;> omega
theorem pInt_some {l : List UInt8} {n : Int} (h : pInt l = some n) : Lib.itoa n = l ∧ -999999999 ≤ n ∧ n ≤ 999999999 := by
  unfold pInt at h
  split at h
  · rename_i h2
    obtain rfl := Option.some.inj h
    exact ⟨h2.2.2, pVal_small h2.1⟩
  · cases h
theorem pInt_itoa (n : Int) (h0 : -999999999 ≤ n) (h1 : n ≤ 999999999) : pInt (Lib.itoa n) = some n := by
  have e9 : (10 : Nat) ^ 9 = 1000000000 := by decide
  by_cases h : n = 0
  · subst h; rw [itoa_zero]; decide +kernel
  · by_cases hn : 0 ≤ n
    · obtain ⟨u, rfl⟩ := Int.eq_ofNat_of_zero_le hn
      have hl := dg0_len_le 9 u (by rw [e9]; omega)
      have hu : u ≠ 0 := by omega
      have hd : dgs (dg0 u) = dg0 u := by
        unfold dgs; rw [List.take_of_length_le (by omega), filter_all (dg0_all u)]
      have hs : (dg0 u).head? ≠ some 45 := by
        intro e
        cases hx : dg0 u with
        | nil => rw [hx] at e; simp at e
        | cons c m =>
          rw [hx] at e; simp at e; subst e
          have := dg0_all u; rw [hx] at this; simp at this
          exact absurd this.1 (by decide)
      have hv : pVal (dg0 u) = (u : Int) := by unfold pVal sgn; rw [hd, dv_dg0, if_neg hs]
      rw [itoa_pos u hu]
      unfold pInt
      rw [hv, if_pos ⟨by rw [hd]; exact hl, by omega, itoa_pos u hu⟩]
    · obtain ⟨u, hu⟩ : ∃ u : Nat, n = -(u : Int) := ⟨n.natAbs, by omega⟩
      subst hu
      have hl := dg0_len_le 9 u (by rw [e9]; omega)
      have hu : u ≠ 0 := by omega
      have hd : dgs (45 :: dg0 u) = dg0 u := by
        unfold dgs
        rw [List.take_of_length_le (by simp; omega), List.filter_cons, if_neg (by decide), filter_all (dg0_all u)]
      have hv : pVal (45 :: dg0 u) = -(u : Int) := by unfold pVal sgn; rw [hd, dv_dg0, if_pos (show (45 :: dg0 u).head? = some 45 from rfl)]
      rw [itoa_neg' u hu]
      unfold pInt
      rw [hv, if_pos ⟨by rw [hd]; exact hl, by simp; omega, itoa_neg' u hu⟩]

/-! ### the library's reading -/
theorem parse_append : ∀ (l r : List UInt8) (a v : Nat), Lib.parseUint10 a l = .ok v → Lib.parseUint10 a (l ++ r) = Lib.parseUint10 v r
  | [], r, a, v, h => by
    simp only [Lib.parseUint10] at h; injection h with h; subst h; rfl
  | c :: l, r, a, v, h => by
    rw [List.cons_append]
    simp only [Lib.parseUint10] at h ⊢
    split at h
    · rename_i hc
      rw [if_pos hc]
      split at h
      · cases h
      · rename_i h2
        rw [if_neg h2]
        split at h
        · cases h
        · rename_i h3
          rw [if_neg h3]
          exact parse_append l r _ v h
    · cases h
theorem parse_dg0 (u : Nat) (h : u < 1000000000000000000) : Lib.parseUint10 0 (dg0 u) = .ok u := by
  induction u using Nat.strongRecOn with
  | _ u ih =>
    by_cases e : u = 0
    · subst e; rw [dg0_zero]; rfl
    · rw [dg0_pos e, parse_append _ _ _ _ (ih (u / 10) (by omega) (by omega))]
      have hd := digit_toNat (u % 10) (by omega)
      simp only [Lib.parseUint10]
      rw [hd, if_pos (by omega), if_neg (by omega), if_neg (by omega)]
      congr 1; omega
theorem atoi_itoa (n : Int) (h0 : -999999999 ≤ n) (h1 : n ≤ 999999999) : Lib.atoiAll (Lib.itoa n) = .ok n := by
  by_cases h : n = 0
  · subst h; rw [itoa_zero]; decide +kernel
  · by_cases hn : 0 ≤ n
    · obtain ⟨u, rfl⟩ := Int.eq_ofNat_of_zero_le hn
      have hu : u ≠ 0 := by omega
      rw [itoa_pos u hu]
      have hp := parse_dg0 u (by omega)
      cases hx : dg0 u with
      | nil => exact absurd hx (dg0_ne hu)
      | cons c m =>
        have hc : dgB c = true := by have := dg0_all u; rw [hx] at this; simp at this; exact this.1
        have hc2 := dgB_iff hc
        rw [hx] at hp
        have hm : Lib.parseMag (c :: m) = .ok u := by unfold Lib.parseMag; rw [if_neg (by simp)]; exact hp
        rw [Lib.atoiAll_plain c m (by omega) (by omega), hm]
        unfold Lib.signless
        simp only []
        rw [if_neg (by omega)]
    · obtain ⟨u, hu⟩ : ∃ u : Nat, n = -(u : Int) := ⟨n.natAbs, by omega⟩
      subst hu
      have hu : u ≠ 0 := by omega
      rw [itoa_neg' u hu]
      have hp := parse_dg0 u (by omega)
      have hm : Lib.parseMag (dg0 u) = .ok u := by unfold Lib.parseMag; rw [if_neg (dg0_ne hu)]; exact hp
      rw [Lib.atoiAll_minus, hm]
      unfold Lib.signed
      simp only []
      rw [if_neg (by omega)]
/-- Atoi, the numeral written again, and the range: both readings agree. -/
theorem pInt_cases (l : List UInt8) : (∃ n, Lib.atoiAll l = .ok n ∧ Lib.itoa n = l ∧ -999999999 ≤ n ∧ n ≤ 999999999 ∧ pInt l = some n) ∨
    (pInt l = none ∧ ∀ n, Lib.atoiAll l = .ok n → Lib.itoa n = l → ¬ (-999999999 ≤ n ∧ n ≤ 999999999)) := by
  cases h : pInt l with
  | some n =>
    obtain ⟨h1, h2, h3⟩ := pInt_some h
    exact Or.inl ⟨n, by rw [← h1]; exact atoi_itoa n h2 h3, h1, h2, h3, rfl⟩
  | none =>
    refine Or.inr ⟨rfl, fun n h1 h2 h3 => ?_⟩
    have := pInt_itoa n h3.1 h3.2
    rw [h2, h] at this
    cases this
end Go.Proofs.YtdhdjmeolkobeaaDoor

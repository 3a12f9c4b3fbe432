/-
  Plain laws: the number that the first bytes of a string stand for in base 128, and which beginning of it is a varint. No condition.
-/
import Derived.Test.YtoijjielnbcphaaDoorVarint
namespace Go.Proofs.YtoijjielnbcphaaDoor
set_option linter.unusedVariables false
set_option linter.unusedSimpArgs false

def valL : List UInt8 → Nat
  | [] => 0
  | c :: l => c.toNat % 128 + 128 * valL l
theorem valL_snoc (l : List UInt8) (c : UInt8) : valL (l ++ [c]) = valL l + c.toNat % 128 * 128 ^ l.length := by
  induction l with
  | nil => simp [valL]
  | cons d l ih =>
    have : c.toNat % 128 * 128 ^ (l.length + 1) = 128 * (c.toNat % 128 * 128 ^ l.length) := by rw [Nat.pow_succ, ← Nat.mul_assoc, Nat.mul_comm]
    simp only [List.cons_append, valL, ih, List.length_cons, this]
    omega
theorem valL_lt (l : List UInt8) : valL l < 128 ^ l.length := by
  induction l with
  | nil => simp [valL]
  | cons d l ih =>
    simp only [valL, List.length_cons, Nat.pow_succ]
    have := Nat.mod_lt d.toNat (show 0 < 128 by decide)
    omega
/-- All bytes but the last have the high bit, the last has not. -/
def Good (l : List UInt8) : Prop := ∃ q z, l = q ++ [z] ∧ z.toNat < 128 ∧ ∀ c ∈ q, 128 ≤ c.toNat
theorem varL_good : ∀ (f n : Nat), n ≤ f → Good (varL n)
  | 0, n, h => by
    obtain rfl : n = 0 := by omega
    rw [varL_lo (by decide)]; exact ⟨[], _, rfl, by decide, by simp⟩
  | f + 1, n, h => by
    by_cases hn : n < 128
    · rw [varL_lo hn]; exact ⟨[], _, rfl, by simp; omega, by simp⟩
    · obtain ⟨q, z, h1, h2, h3⟩ := varL_good f (n / 128) (by omega)
      rw [varL_hi hn, h1]
      refine ⟨_ :: q, z, rfl, h2, ?_⟩
      intro c hc
      rcases List.mem_cons.1 hc with rfl | hc
      · simp; omega
      · exact h3 c hc
theorem good_snoc {l : List UInt8} {c : UInt8} (h : Good (l ++ [c])) : c.toNat < 128 ∧ ∀ d ∈ l, 128 ≤ d.toNat := by
  obtain ⟨q, z, h1, h2, h3⟩ := h
  obtain ⟨rfl, e⟩ := List.append_inj' h1 rfl
  simp only [List.cons.injEq, and_true] at e
  subst e
  exact ⟨h2, h3⟩
def val (s : ByteArray) (k : Nat) : Nat := valL (s.data.toList.take k)
/-- The first k bytes are the varint of their number. -/
def isVar (s : ByteArray) (k : Nat) : Bool := decide (k ≤ s.size) && (varL (val s k) == s.data.toList.take k)
def decFind (s : ByteArray) : Option Nat := (List.range 7).find? fun j => isVar s (j + 1)
def decN (s : ByteArray) : Int := match decFind s with | some j => (val s (j + 1) : Int) | none => 0
def decK (s : ByteArray) : Int := match decFind s with | some j => (j : Int) + 1 | none => 0
theorem isVar_bytes {s : ByteArray} {j : Nat} (h : isVar s (j + 1) = true) : ∃ hj : j < s.size, s[j].toNat < 128 ∧ ∀ i (hi : i < j), 128 ≤ (s[i]'(by omega)).toNat := by
  unfold isVar at h
  simp only [Bool.and_eq_true, decide_eq_true_eq, beq_iff_eq] at h
  have hj : j < s.size := h.1
  have hg := varL_good _ _ (Nat.le_refl (val s (j + 1)))
  rw [h.2, take_snoc s j hj] at hg
  obtain ⟨h1, h2⟩ := good_snoc hg
  refine ⟨hj, h1, fun i hi => h2 _ ?_⟩
  have : (s.data.toList.take j)[i]? = some (s[i]'(by omega)) := by
    rw [List.getElem?_take, if_pos hi, List.getElem?_eq_getElem (by rw [dlen]; omega)]; rfl
  exact List.mem_of_getElem? this
/-- There is one such beginning at most. -/
theorem isVar_one {s : ByteArray} {i j : Nat} (h1 : isVar s (i + 1) = true) (h2 : isVar s (j + 1) = true) : i = j := by
  obtain ⟨a1, b1, c1⟩ := isVar_bytes h1
  obtain ⟨a2, b2, c2⟩ := isVar_bytes h2
  rcases Nat.lt_trichotomy i j with h | h | h
  · have := c2 i h; omega
  · exact h
  · have := c1 j h; omega
theorem dec_hit {s : ByteArray} {j : Nat} (hj : j < 7) (h : isVar s (j + 1) = true) : decN s = (val s (j + 1) : Int) ∧ decK s = (j : Int) + 1 := by
  have hf : decFind s = some j := by
    unfold decFind
    rw [List.find?_range_eq_some]
    refine ⟨h, by simpa using hj, ?_⟩
    intro i hi
    cases hv : isVar s (i + 1) with
    | false => rfl
    | true => have := isVar_one hv h; omega
  unfold decN decK; rw [hf]; exact ⟨rfl, rfl⟩
theorem dec_miss {s : ByteArray} (h : ∀ j, j < 7 → isVar s (j + 1) = false) : decN s = 0 ∧ decK s = 0 := by
  have hf : decFind s = none := by
    unfold decFind
    rw [List.find?_range_eq_none]
    intro i hi
    simp [h i hi]
  unfold decN decK; rw [hf]; exact ⟨rfl, rfl⟩
/-- The program stops at the first byte without the high bit: if that beginning is no varint, none is. -/
theorem dec_stop {s : ByteArray} {j : Nat} (hj : j < s.size) (hb : s[j].toNat < 128) (hall : ∀ i (hi : i < j), 128 ≤ (s[i]'(by omega)).toNat) (h : isVar s (j + 1) = false) : decN s = 0 ∧ decK s = 0 := by
  refine dec_miss fun i hi => ?_
  cases hv : isVar s (i + 1) with
  | false => rfl
  | true =>
    obtain ⟨a1, b1, c1⟩ := isVar_bytes hv
    rcases Nat.lt_trichotomy i j with h1 | h1 | h1
    · have := hall i h1; omega
    · subst h1; rw [h] at hv; cases hv
    · have := c1 j h1; omega
theorem dec_none {s : ByteArray} {n : Nat} (hn : n ≤ s.size) (hend : n = s.size ∨ n = 7) (hall : ∀ i (hi : i < n), 128 ≤ (s[i]'(by omega)).toNat) : decN s = 0 ∧ decK s = 0 := by
  refine dec_miss fun i hi => ?_
  cases hv : isVar s (i + 1) with
  | false => rfl
  | true =>
    obtain ⟨a1, b1, c1⟩ := isVar_bytes hv
    by_cases h1 : i < n
    · have := hall i h1; omega
    · omega
theorem val_zero (s : ByteArray) : val s 0 = 0 := by simp [val, valL]
theorem val_succ (s : ByteArray) (k : Nat) (h : k < s.size) : val s (k + 1) = val s k + s[k].toNat % 128 * 128 ^ k := by
  unfold val; rw [take_snoc s k h, valL_snoc, take_len s k (by omega)]
theorem val_lt (s : ByteArray) (k : Nat) (h : k ≤ s.size) : val s k < 128 ^ k := by
  have := valL_lt (s.data.toList.take k); rw [take_len s k h] at this; exact this
theorem val_max (s : ByteArray) (k : Nat) (h : k ≤ s.size) (h7 : k ≤ 7) : val s k ≤ 562949953421311 := by
  have h1 := val_lt s k h
  have h2 : (128 : Nat) ^ k ≤ 128 ^ 7 := Nat.pow_le_pow_right (by decide) h7
  have h3 : (128 : Nat) ^ 7 = 562949953421312 := by decide
  omega
theorem isVar_eq (s : ByteArray) (k : Nat) (h : k ≤ s.size) : isVar s k = ((bstr (varL (val s k))).toList == (s.extract 0 k).toList) := by
  unfold isVar
  rw [decide_eq_true h, bstr_toList, extract_bstr, bstr_toList, Bool.true_and]
  simp
end Go.Proofs.YtoijjielnbcphaaDoor

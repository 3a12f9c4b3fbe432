/-
  Plain laws: the length of the longest common end of two lists of bytes, and the score that PhoneScore takes of it. No condition.
-/
import Derived.Test.YtoijjielnbcphaaDoorBase
namespace Go.Proofs.YtoijjielnbcphaaDoor
set_option linter.unusedVariables false
set_option linter.unusedSimpArgs false

def lcp : List UInt8 → List UInt8 → Nat
  | x :: xs, y :: ys => if x = y then lcp xs ys + 1 else 0
  | _, _ => 0
theorem lcp_of : ∀ (k : Nat) (x y : List UInt8), k ≤ x.length → k ≤ y.length → x.take k = y.take k → (k = x.length ∨ k = y.length ∨ x[k]? ≠ y[k]?) → lcp x y = k
  | 0, [], y, _, _, _, _ => by simp [lcp]
  | 0, x :: xs, [], _, _, _, _ => by simp [lcp]
  | 0, x :: xs, y :: ys, _, _, _, h => by
    have : x ≠ y := by simpa using h
    simp [lcp, this]
  | k + 1, [], y, h, _, _, _ => by simp at h
  | k + 1, x :: xs, [], _, h, _, _ => by simp at h
  | k + 1, x :: xs, y :: ys, h1, h2, ht, h => by
    simp only [List.take_succ_cons, List.cons.injEq] at ht
    have := lcp_of k xs ys (by simpa using h1) (by simpa using h2) ht.2 (by simpa using h)
    simp [lcp, ht.1, this]
/-- How many bytes at their ends agree. -/
def lcs (x y : List UInt8) : Nat := lcp x.reverse y.reverse
theorem rev_at (s : ByteArray) (k : Nat) (h : k < s.size) : s.data.toList.reverse[k]? = some (s[s.size - 1 - k]'(by omega)) := by
  have hl := dlen s
  rw [List.getElem?_reverse (by omega), hl, List.getElem?_eq_getElem (by omega)]
  rfl
theorem lcs_of (x y : ByteArray) (k : Nat) (h1 : k ≤ x.size) (h2 : k ≤ y.size) (ht : x.data.toList.reverse.take k = y.data.toList.reverse.take k)
    (h : k = x.size ∨ k = y.size ∨ ∃ (p : k < x.size) (q : k < y.size), x[x.size - 1 - k] ≠ y[y.size - 1 - k]) : lcs x.data.toList y.data.toList = k := by
  refine lcp_of k _ _ (by rw [List.length_reverse, dlen]; exact h1) (by rw [List.length_reverse, dlen]; exact h2) ht ?_
  rw [List.length_reverse, List.length_reverse, dlen, dlen]
  rcases h with h | h | ⟨p, q, h⟩
  · exact Or.inl h
  · exact Or.inr (Or.inl h)
  · refine Or.inr (Or.inr ?_)
    rw [rev_at x k p, rev_at y k q]
    intro e; exact h (Option.some.inj e)
theorem rev_take_succ (x y : ByteArray) (k : Nat) (h1 : k < x.size) (h2 : k < y.size) (ht : x.data.toList.reverse.take k = y.data.toList.reverse.take k) (he : x[x.size - 1 - k] = y[y.size - 1 - k]) :
    x.data.toList.reverse.take (k + 1) = y.data.toList.reverse.take (k + 1) := by
  have e1 := rev_at x k h1
  have e2 := rev_at y k h2
  rw [List.take_add_one, List.take_add_one, ht, e1, e2, he]
theorem lcp_le : ∀ x y : List UInt8, lcp x y ≤ x.length ∧ lcp x y ≤ y.length
  | [], y => by simp [lcp]
  | x :: xs, [] => by simp [lcp]
  | x :: xs, y :: ys => by
    have := lcp_le xs ys
    unfold lcp; split <;> simp <;> omega
theorem lcp_take : ∀ x y : List UInt8, x.take (lcp x y) = y.take (lcp x y)
  | [], y => by simp [lcp]
  | x :: xs, [] => by simp [lcp]
  | x :: xs, y :: ys => by
    have := lcp_take xs ys
    unfold lcp; split
    · rename_i h; simp [h, this]
    · simp
theorem lcp_prefix : ∀ x y : List UInt8, lcp x y = y.length ↔ x.take y.length = y
  | [], [] => by simp [lcp]
  | [], y :: ys => by simp [lcp]
  | x :: xs, [] => by simp [lcp]
  | x :: xs, y :: ys => by
    have := lcp_prefix xs ys
    unfold lcp; split
    · rename_i h; subst h; simp [this]
    · rename_i h; simp [h]
/-- HasSuffix's own test. -/
def hasSuf (x y : ByteArray) : Bool := decide (y.size ≤ x.size) && ((x.extract (x.size - y.size) x.size).toList == y.toList)
theorem hasSuf_iff (x y : ByteArray) (h : y.size ≤ x.size) : ((x.extract (x.size - y.size) x.size).toList == y.toList) = decide (lcs x.data.toList y.data.toList = y.size) := by
  rw [extract_bstr, bstr_toList, toList_eq]
  have e : x.size - (x.size - y.size) = y.size := by omega
  rw [e, Bool.eq_iff_iff, beq_iff_eq, decide_eq_true_eq]
  have hp := lcp_prefix x.data.toList.reverse y.data.toList.reverse
  rw [List.length_reverse, dlen] at hp
  unfold lcs
  rw [hp]
  have hx := dlen x
  have hy := dlen y
  have h3 : (x.data.toList.drop (x.size - y.size)).take y.size = x.data.toList.drop (x.size - y.size) := List.take_of_length_le (by rw [List.length_drop, hx]; omega)
  rw [h3]
  have h4 : x.data.toList.reverse.take y.size = (x.data.toList.drop (x.size - y.size)).reverse := by
    rw [List.take_reverse, hx]
  rw [h4]
  constructor
  · intro h; rw [h]
  · intro h; exact List.reverse_inj.1 h
theorem eq_iff_lcs (x y : ByteArray) : (x.toList == y.toList) = decide (lcs x.data.toList y.data.toList = x.size ∧ lcs x.data.toList y.data.toList = y.size) := by
  rw [toList_eq, toList_eq, Bool.eq_iff_iff, beq_iff_eq, decide_eq_true_eq]
  have hx := dlen x
  have hy := dlen y
  constructor
  · intro h
    have : lcs x.data.toList y.data.toList = x.size := by
      refine lcs_of x y x.size (Nat.le_refl _) (by rw [← hx, h, hy]; exact Nat.le_refl _) (by rw [h]) (Or.inl rfl)
    exact ⟨this, by rw [this, ← hx, h, hy]⟩
  · rintro ⟨h1, h2⟩
    have ht := lcp_take x.data.toList.reverse y.data.toList.reverse
    unfold lcs at h1 h2
    have hl1 : x.data.toList.reverse.take x.size = x.data.toList.reverse := List.take_of_length_le (by rw [List.length_reverse, hx]; exact Nat.le_refl _)
    have hl2 : y.data.toList.reverse.take y.size = y.data.toList.reverse := List.take_of_length_le (by rw [List.length_reverse, hy]; exact Nat.le_refl _)
    rw [h1] at ht h2
    rw [hl1, h2, hl2] at ht
    exact List.reverse_inj.1 ht
def phone (x y : ByteArray) : Int :=
  if x.size < 4 ∨ y.size < 4 ∨ lcs x.data.toList y.data.toList < 4 then 0
  else if lcs x.data.toList y.data.toList = x.size ∧ lcs x.data.toList y.data.toList = y.size then 1000
  else if 7 ≤ lcs x.data.toList y.data.toList ∨ lcs x.data.toList y.data.toList = x.size ∨ lcs x.data.toList y.data.toList = y.size then 800 else 400
theorem phone_0 {x y : ByteArray} {k : Nat} (hk : lcs x.data.toList y.data.toList = k) (h : x.size < 4 ∨ y.size < 4 ∨ k < 4) : phone x y = 0 := by unfold phone; rw [hk, if_pos h]
theorem phone_1 {x y : ByteArray} {k : Nat} (hk : lcs x.data.toList y.data.toList = k) (h : ¬ (x.size < 4 ∨ y.size < 4 ∨ k < 4)) (h2 : k = x.size ∧ k = y.size) : phone x y = 1000 := by unfold phone; rw [hk, if_neg h, if_pos h2]
theorem phone_8 {x y : ByteArray} {k : Nat} (hk : lcs x.data.toList y.data.toList = k) (h : ¬ (x.size < 4 ∨ y.size < 4 ∨ k < 4)) (h2 : ¬ (k = x.size ∧ k = y.size)) (h3 : 7 ≤ k ∨ k = x.size ∨ k = y.size) : phone x y = 800 := by unfold phone; rw [hk, if_neg h, if_neg h2, if_pos h3]
theorem phone_4 {x y : ByteArray} {k : Nat} (hk : lcs x.data.toList y.data.toList = k) (h : ¬ (x.size < 4 ∨ y.size < 4 ∨ k < 4)) (h2 : ¬ (k = x.size ∧ k = y.size)) (h3 : ¬ (7 ≤ k ∨ k = x.size ∨ k = y.size)) : phone x y = 400 := by unfold phone; rw [hk, if_neg h, if_neg h2, if_neg h3]
end Go.Proofs.YtoijjielnbcphaaDoor

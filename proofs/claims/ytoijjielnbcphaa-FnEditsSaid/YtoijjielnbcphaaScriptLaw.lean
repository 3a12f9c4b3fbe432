/-
  Plain laws: the edit distance by its first bytes and by its last bytes; reversal, symmetry, the triangle inequality; the script of least cost. No condition.
-/
import Derived.Test.YtoijjielnbcphaaEditLaw
namespace Go.Proofs.Ytoijjielnbcphaa
set_option linter.unusedVariables false
set_option linter.unusedSimpArgs false
def c1 (x y : UInt8) : Nat := if x = y then 0 else 1
theorem c1_le (x y : UInt8) : c1 x y ≤ 1 := by unfold c1; split <;> omega
theorem c1_comm (x y : UInt8) : c1 x y = c1 y x := by
  unfold c1
  by_cases h : x = y
  · rw [if_pos h, if_pos h.symm]
  · rw [if_neg h, if_neg (fun e => h e.symm)]
theorem c1_tri (x y z : UInt8) : c1 x y ≤ c1 x z + c1 z y := by
  unfold c1
  by_cases h : x = z
  · subst h; simp
  · rw [if_neg h]; split <;> omega
def edGo (x : UInt8) (f : List UInt8 → Nat) (n : Nat) : List UInt8 → Nat
  | [] => n
  | y :: b => min (min (f (y :: b) + 1) (edGo x f n b + 1)) (f b + c1 x y)
/-- The distance by the first bytes. -/
def ED : List UInt8 → List UInt8 → Nat
  | [] => fun b => b.length
  | x :: a => edGo x (ED a) (a.length + 1)
theorem ED_nil (b : List UInt8) : ED [] b = b.length := rfl
theorem ED_left (a : List UInt8) : ED a [] = a.length := by cases a <;> rfl
theorem ED_cons (x y : UInt8) (a b : List UInt8) : ED (x :: a) (y :: b) = min (min (ED a (y :: b) + 1) (ED (x :: a) b + 1)) (ED a b + c1 x y) := rfl
theorem ED_del (x : UInt8) (a b : List UInt8) : ED (x :: a) b ≤ ED a b + 1 := by
  cases b with
  | nil => rw [ED_left, ED_left]; simp
  | cons y b => rw [ED_cons]; omega
theorem ED_ins (y : UInt8) (a b : List UInt8) : ED a (y :: b) ≤ ED a b + 1 := by
  cases a with
  | nil => rw [ED_nil, ED_nil]; simp
  | cons x a => rw [ED_cons]; omega
theorem ED_sub (x y : UInt8) (a b : List UInt8) : ED (x :: a) (y :: b) ≤ ED a b + c1 x y := by rw [ED_cons]; omega
theorem ED_comm : ∀ a b : List UInt8, ED a b = ED b a
  | [], b => by rw [ED_nil, ED_left]
  | x :: a, [] => by rw [ED_nil, ED_left]
  | x :: a, y :: b => by
    rw [ED_cons, ED_cons, ED_comm a (y :: b), ED_comm (x :: a) b, ED_comm a b, c1_comm x y]
    omega
termination_by a b => a.length + b.length
theorem ED_len : ∀ a b : List UInt8, a.length ≤ b.length + ED a b ∧ b.length ≤ a.length + ED a b ∧ ED a b ≤ max a.length b.length
  | [], b => by rw [ED_nil]; simp
  | x :: a, [] => by rw [ED_left]; simp
  | x :: a, y :: b => by
    have h1 := ED_len a (y :: b)
    have h2 := ED_len (x :: a) b
    have h3 := ED_len a b
    have h4 := c1_le x y
    rw [ED_cons]
    simp only [List.length_cons] at *
    omega
termination_by a b => a.length + b.length
theorem ED_self : ∀ a : List UInt8, ED a a = 0
  | [] => rfl
  | x :: a => by have := ED_sub x x a a; rw [ED_self a] at this; simp [c1] at this; exact this
theorem ED_zero : ∀ a b : List UInt8, ED a b = 0 → a = b
  | [], b => by rw [ED_nil]; intro h; exact (List.eq_nil_of_length_eq_zero h).symm
  | x :: a, [] => by rw [ED_left]; intro h; simp at h
  | x :: a, y :: b => by
    rw [ED_cons]
    intro h
    have h1 : ED a b = 0 := by omega
    have h2 : c1 x y = 0 := by omega
    have h3 : x = y := by
      unfold c1 at h2
      by_cases e : x = y
      · exact e
      · rw [if_neg e] at h2; omega
    rw [h3, ED_zero a b h1]
termination_by a b => a.length + b.length
theorem ED_tri_n : ∀ (n : Nat) (a b c : List UInt8), a.length + b.length + c.length ≤ n → ED a b ≤ ED a c + ED c b
  | n, [], b, c, _ => by have := ED_len c b; rw [ED_nil, ED_nil]; omega
  | n, x :: a, [], c, _ => by have := ED_len (x :: a) c; rw [ED_left, ED_left]; omega
  | n, x :: a, y :: b, [], _ => by have := ED_len (x :: a) (y :: b); rw [ED_left, ED_nil]; simp only [List.length_cons] at *; omega
  | 0, x :: a, y :: b, z :: c, h => by simp at h
  | n + 1, x :: a, y :: b, z :: c, h => by
    simp only [List.length_cons] at h
    have i1 := ED_tri_n n a (y :: b) (z :: c) (by simp only [List.length_cons]; omega)
    have i2 := ED_tri_n n (x :: a) (y :: b) c (by simp only [List.length_cons]; omega)
    have i3 := ED_tri_n n (x :: a) b (z :: c) (by simp only [List.length_cons]; omega)
    have i4 := ED_tri_n n a (y :: b) c (by simp only [List.length_cons]; omega)
    have i5 := ED_tri_n n (x :: a) b c (by simp only [List.length_cons]; omega)
    have i6 := ED_tri_n n a b c (by omega)
    have d1 := ED_del x a (y :: b)
    have d2 := ED_ins y (x :: a) b
    have d3 := ED_sub x y a b
    have t := c1_tri x y z
    have e1 := ED_cons x z a c
    have e2 := ED_cons z y c b
    omega
/-- The triangle inequality. -/
theorem ED_tri (a b c : List UInt8) : ED a b ≤ ED a c + ED c b := ED_tri_n _ a b c (Nat.le_refl _)

/-! ### by the last bytes -/
theorem ED_nil_left (x : UInt8) (a : List UInt8) : ED (a ++ [x]) [] = a.length + 1 := by rw [ED_left]; simp
theorem ED_snoc_del (x : UInt8) : ∀ a b : List UInt8, ED (a ++ [x]) b ≤ ED a b + 1
  | [], b => ED_del x [] b
  | u :: a, [] => by rw [ED_left, ED_left]; simp
  | u :: a, v :: b => by
    have h1 := ED_snoc_del x a (v :: b)
    have h2 := ED_snoc_del x (u :: a) b
    have h3 := ED_snoc_del x a b
    simp only [List.cons_append] at *
    rw [ED_cons, ED_cons]
    omega
termination_by a b => a.length + b.length
theorem ED_snoc_ins (y : UInt8) (a b : List UInt8) : ED a (b ++ [y]) ≤ ED a b + 1 := by
  rw [ED_comm a, ED_comm a]; exact ED_snoc_del y b a
theorem ED_snoc_sub (x y : UInt8) : ∀ a b : List UInt8, ED (a ++ [x]) (b ++ [y]) ≤ ED a b + c1 x y
  | [], [] => by
    show ED [x] [y] ≤ _
    have := ED_sub x y [] []
    exact this
  | [], v :: b => by
    have h2 := ED_snoc_sub x y [] b
    rw [ED_nil] at *
    have := ED_ins v [x] (b ++ [y])
    simp only [List.nil_append, List.cons_append, List.length_cons] at *
    omega
  | u :: a, [] => by
    have h1 := ED_snoc_sub x y a []
    rw [ED_left] at *
    have := ED_del u (a ++ [x]) [y]
    simp only [List.nil_append, List.cons_append, List.length_cons] at *
    omega
  | u :: a, v :: b => by
    have h1 := ED_snoc_sub x y a (v :: b)
    have h2 := ED_snoc_sub x y (u :: a) b
    have h3 := ED_snoc_sub x y a b
    simp only [List.cons_append] at *
    rw [ED_cons, ED_cons]
    omega
termination_by a b => a.length + b.length
theorem min_step {P Q R c p q r E k : Nat} (h : min (min (p + 1) (q + 1)) (r + c) ≤ E) (hp : P ≤ p + k) (hq : Q ≤ q + k) (hr : R ≤ r + k) : min (min (P + 1) (Q + 1)) (R + c) ≤ E + k := by omega
/-- The least of three, by the last bytes: none is missed. -/
theorem ED_snoc_ge (x y : UInt8) : ∀ a b : List UInt8, min (min (ED a (b ++ [y]) + 1) (ED (a ++ [x]) b + 1)) (ED a b + c1 x y) ≤ ED (a ++ [x]) (b ++ [y])
  | [], [] => by
    show _ ≤ ED [x] [y]
    rw [ED_cons]
    simp only [ED_nil, ED_left, List.nil_append, List.length_cons, List.length_nil]
    omega
  | [], v :: b => by
    have h2 := ED_snoc_ge x y [] b
    simp only [List.nil_append, List.cons_append] at *
    have e1 := ED_cons x v [] (b ++ [y])
    have e2 := ED_cons x v [] b
    rw [ED_nil, ED_nil] at *
    simp only [List.length_cons, List.length_append, List.length_nil] at *
    have := c1_le x v
    have := c1_le x y
    omega
  | u :: a, [] => by
    have h1 := ED_snoc_ge x y a []
    simp only [List.nil_append, List.cons_append] at *
    have e1 := ED_cons u y (a ++ [x]) []
    have e2 := ED_cons u y a []
    rw [ED_left, ED_left] at *
    simp only [List.length_cons, List.length_append, List.length_nil] at *
    have := c1_le u y
    have := c1_le x y
    omega
  | u :: a, v :: b => by
    have h1 := ED_snoc_ge x y a (v :: b)
    have h2 := ED_snoc_ge x y (u :: a) b
    have h3 := ED_snoc_ge x y a b
    simp only [List.cons_append] at *
    have g1 := min_step (k := 1) h1 (ED_del u a (v :: (b ++ [y]))) (ED_del u (a ++ [x]) (v :: b)) (ED_del u a (v :: b))
    have g2 := min_step (k := 1) h2 (ED_ins v (u :: a) (b ++ [y])) (ED_ins v (u :: (a ++ [x])) b) (ED_ins v (u :: a) b)
    have g3 := min_step (k := c1 u v) h3 (ED_sub u v a (b ++ [y])) (ED_sub u v (a ++ [x]) b) (ED_sub u v a b)
    rw [ED_cons u v (a ++ [x]) (b ++ [y])]
    exact Nat.le_min.2 ⟨Nat.le_min.2 ⟨g1, g2⟩, g3⟩
termination_by a b => a.length + b.length
theorem ED_snoc (x y : UInt8) (a b : List UInt8) : ED (a ++ [x]) (b ++ [y]) = min (min (ED a (b ++ [y]) + 1) (ED (a ++ [x]) b + 1)) (ED a b + c1 x y) := by
  have h1 := ED_snoc_ge x y a b
  have h2 := ED_snoc_del x a (b ++ [y])
  have h3 := ED_snoc_ins y (a ++ [x]) b
  have h4 := ED_snoc_sub x y a b
  omega
theorem ED_rev : ∀ a b : List UInt8, ED a.reverse b.reverse = ED a b
  | [], b => by rw [List.reverse_nil, ED_nil, ED_nil, List.length_reverse]
  | x :: a, [] => by rw [List.reverse_nil, ED_left, ED_left, List.length_reverse]
  | x :: a, y :: b => by
    have h1 := ED_rev a (y :: b)
    have h2 := ED_rev (x :: a) b
    have h3 := ED_rev a b
    rw [List.reverse_cons, List.reverse_cons, ED_snoc, ED_cons, h3]
    rw [List.reverse_cons] at h1 h2
    rw [h1, h2]
termination_by a b => a.length + b.length

/-! ### the table -/
theorem D_ED (a b : List UInt8) : ∀ i j, i ≤ a.length → j ≤ b.length → D false a b i j = ED (a.take i) (b.take j)
  | 0, j, _, hj => by rw [D_zero, List.take_zero, ED_nil, List.length_take]; omega
  | i + 1, 0, hi, _ => by rw [D_left, List.take_zero, ED_left, List.length_take]; omega
  | i + 1, j + 1, hi, hj => by
    have h1 := D_ED a b i (j + 1) (by omega) hj
    have h2 := D_ED a b (i + 1) j hi (by omega)
    have h3 := D_ED a b i j (by omega) (by omega)
    have ea : a.take (i + 1) = a.take i ++ [a[i]] := List.take_succ_eq_append_getElem (by omega)
    have eb : b.take (j + 1) = b.take j ++ [b[j]] := List.take_succ_eq_append_getElem (by omega)
    rw [D_succ, if_neg (by simp [swapAt])]
    unfold low3
    rw [h1, h2, h3, ea, eb, ED_snoc]
    have hc : cost a b i j = c1 a[i] b[j] := by
      unfold cost c1
      simp [List.getD, show i < a.length by omega, show j < b.length by omega]
    rw [hc]
termination_by i j => i + j
theorem D_full (a b : List UInt8) : D false a b a.length b.length = ED a b := by
  rw [D_ED a b _ _ (Nat.le_refl _) (Nat.le_refl _), List.take_length, List.take_length]
/-- The table of the reversed strings holds the distances of the endings. -/
theorem D_rev (a b : List UInt8) (i j : Nat) (hi : i ≤ a.length) (hj : j ≤ b.length) : D false a.reverse b.reverse i j = ED (a.drop (a.length - i)) (b.drop (b.length - j)) := by
  rw [D_ED _ _ _ _ (by simpa using hi) (by simpa using hj), ← ED_rev]
  congr 1
  · rw [List.take_reverse]
    simp
  · rw [List.take_reverse]
    simp
theorem D_swap_le (a b : List UInt8) : ∀ i j, D true a b i j ≤ D false a b i j
  | 0, j => by rw [D_zero, D_zero]; omega
  | i + 1, 0 => by rw [D_left, D_left]; omega
  | i + 1, j + 1 => by
    have h1 := D_swap_le a b i (j + 1)
    have h2 := D_swap_le a b (i + 1) j
    have h3 := D_swap_le a b i j
    have h4 := D_le3 (sw := true) (a := a) (b := b) i j
    rw [D_succ (sw := false), if_neg (by simp [swapAt])]
    unfold low3 at *
    omega
termination_by i j => i + j

/-! ### the script -/
/-- One choice: 61 '=', 126 '~', 45 '-', 43 '+'. -/
def scr : Nat → List UInt8 → List UInt8 → List UInt8
  | 0, _, _ => []
  | k + 1, a, b =>
    match a, b with
    | [], [] => []
    | [], y :: b => 43 :: y :: scr k [] b
    | x :: a, [] => 45 :: scr k a []
    | x :: a, y :: b =>
      if x = y ∧ ED a b = ED (x :: a) (y :: b) then 61 :: scr k a b
      else if ED a b + 1 = ED (x :: a) (y :: b) then 126 :: y :: scr k a b
      else if ED a (y :: b) + 1 = ED (x :: a) (y :: b) then 45 :: scr k a (y :: b)
      else 43 :: y :: scr k (x :: a) b
theorem scr_more : ∀ (k : Nat) (a b : List UInt8), a.length + b.length ≤ k → scr (k + 1) a b = scr k a b
  | 0, [], [], _ => rfl
  | 0, x :: a, b, h => by simp at h
  | 0, [], y :: b, h => by simp at h
  | k + 1, [], [], _ => rfl
  | k + 1, [], y :: b, h => by
    rw [scr, scr, scr_more k [] b (by simp at h ⊢; omega)]
  | k + 1, x :: a, [], h => by
    rw [scr, scr, scr_more k a [] (by simp at h ⊢; omega)]
  | k + 1, x :: a, y :: b, h => by
    simp only [List.length_cons] at h
    rw [scr, scr, scr_more k a b (by omega), scr_more k a (y :: b) (by simp only [List.length_cons]; omega), scr_more k (x :: a) b (by simp only [List.length_cons]; omega)]
/-- The script. -/
def scrip (a b : List UInt8) : List UInt8 := scr (a.length + b.length) a b
theorem scr_eq {k : Nat} {a b : List UInt8} (h : a.length + b.length ≤ k) : scr k a b = scrip a b := by
  obtain ⟨d, rfl⟩ : ∃ d, k = a.length + b.length + d := ⟨k - (a.length + b.length), by omega⟩
  clear h
  induction d with
  | zero => rfl
  | succ d ih => rw [← Nat.add_assoc, scr_more _ _ _ (by omega), ih]
theorem scrip_nil : scrip [] [] = [] := rfl
theorem scrip_ins (y : UInt8) (b : List UInt8) : scrip [] (y :: b) = 43 :: y :: scrip [] b := by
  unfold scrip; rw [show ([] : List UInt8).length + (y :: b).length = b.length + 1 from by simp, scr, scr_eq (by simp)]; rfl
theorem scrip_del (x : UInt8) (a : List UInt8) : scrip (x :: a) [] = 45 :: scrip a [] := by
  unfold scrip; rw [show (x :: a).length + ([] : List UInt8).length = a.length + 1 from by simp, scr, scr_eq (by simp)]; rfl
theorem scrip_cons (x y : UInt8) (a b : List UInt8) : scrip (x :: a) (y :: b) =
    if x = y ∧ ED a b = ED (x :: a) (y :: b) then 61 :: scrip a b
    else if ED a b + 1 = ED (x :: a) (y :: b) then 126 :: y :: scrip a b
    else if ED a (y :: b) + 1 = ED (x :: a) (y :: b) then 45 :: scrip a (y :: b)
    else 43 :: y :: scrip (x :: a) b := by
  conv => lhs; unfold scrip
  rw [show (x :: a).length + (y :: b).length = (a.length + b.length + 1) + 1 from by simp; omega, scr, scr_eq (by omega), scr_eq (by simp; omega), scr_eq (by simp; omega)]
theorem scrip_len : ∀ (a b : List UInt8), (scrip a b).length ≤ a.length + 2 * b.length
  | [], [] => by simp [scrip_nil]
  | [], y :: b => by have := scrip_len [] b; rw [scrip_ins]; simp at *; omega
  | x :: a, [] => by have := scrip_len a []; rw [scrip_del]; simp at *; omega
  | x :: a, y :: b => by
    have h1 := scrip_len a b
    have h2 := scrip_len a (y :: b)
    have h3 := scrip_len (x :: a) b
    rw [scrip_cons]
    simp only [List.length_cons] at *
    split
    · simp; omega
    · split
      · simp; omega
      · split
        · simp; omega
        · simp; omega
termination_by a b => a.length + b.length
end Go.Proofs.Ytoijjielnbcphaa

/-
  Plain laws of edit scripts: a script applied to the first string gives the second, and its cost is the distance.
-/
import Derived.Test.YtoijjielnbcphaaScriptLaw
import Derived.Test.YtoijjielnbcphaaApplyLaw
namespace Go.Proofs.Ytoijjielnbcphaa
set_option linter.unusedVariables false
set_option linter.unusedSimpArgs false
/-- The cost of a script; the flag says that the next sign is written, not read. -/
def cst : Bool → List UInt8 → Nat
  | _, [] => 0
  | true, _ :: r => cst false r
  | false, c :: r => if c = 126 ∨ c = 43 then 1 + cst true r else if c = 45 then 1 + cst false r else cst false r
theorem cst_put {c : UInt8} (h : c = 126 ∨ c = 43) (r : List UInt8) : cst false (c :: r) = 1 + cst true r := by rw [cst, if_pos h]
theorem cst_del (r : List UInt8) : cst false (45 :: r) = 1 + cst false r := by rw [cst, if_neg (by decide), if_pos rfl]
theorem cst_other {c : UInt8} (h : ¬ (c = 126 ∨ c = 43)) (h2 : c ≠ 45) (r : List UInt8) : cst false (c :: r) = cst false r := by rw [cst, if_neg h, if_neg h2]
theorem cst_skip (c : UInt8) (r : List UInt8) : cst true (c :: r) = cst false r := rfl
theorem cst_le : ∀ (b : Bool) (l : List UInt8), cst b l ≤ l.length
  | _, [] => by simp [cst]
  | true, _ :: r => by have := cst_le false r; rw [cst_skip, List.length_cons]; omega
  | false, c :: r => by
    have h1 := cst_le true r
    have h2 := cst_le false r
    rw [cst, List.length_cons]
    split
    · omega
    · split <;> omega
theorem cst_scrip : ∀ (a b : List UInt8), cst false (scrip a b) = ED a b
  | [], [] => rfl
  | [], y :: b => by
    rw [scrip_ins, cst_put (Or.inr rfl), cst_skip, cst_scrip [] b, ED_nil, ED_nil, List.length_cons]; omega
  | x :: a, [] => by
    rw [scrip_del, cst_del, cst_scrip a [], ED_left, ED_left, List.length_cons]; omega
  | x :: a, y :: b => by
    have h1 := cst_scrip a b
    have h2 := cst_scrip a (y :: b)
    have h3 := cst_scrip (x :: a) b
    rw [scrip_cons]
    split
    · rename_i h
      rw [cst_other (by decide) (by decide), h1]; exact h.2
    · rename_i h
      split
      · rename_i g
        rw [cst_put (Or.inl rfl), cst_skip, h1]; omega
      · rename_i g
        split
        · rename_i k
          rw [cst_del, h2]; omega
        · rename_i k
          rw [cst_put (Or.inr rfl), cst_skip, h3]
          have hc := ED_cons x y a b
          have hs := c1_le x y
          by_cases hxy : x = y
          · have : c1 x y = 0 := by unfold c1; rw [if_pos hxy]
            have hne : ED a b ≠ ED (x :: a) (y :: b) := fun e => h ⟨hxy, e⟩
            omega
          · have : c1 x y = 1 := by unfold c1; rw [if_neg hxy]
            omega
termination_by a b => a.length + b.length
theorem app_scrip : ∀ (a b o : List UInt8), app (scrip a b) false a o = some (o ++ b)
  | [], [], o => by rw [scrip_nil]; simp [app]
  | [], y :: b, o => by
    rw [scrip_ins]
    have := app_scrip [] b (o ++ [y])
    simp only [app]
    simp
    rw [this]; simp
  | x :: a, [], o => by
    rw [scrip_del]
    have := app_scrip a [] o
    simp only [app]
    simp
    rw [this]; simp
  | x :: a, y :: b, o => by
    have h1 := app_scrip a b (o ++ [x])
    have h2 := app_scrip a b (o ++ [y])
    have h3 := app_scrip a (y :: b) o
    have h4 := app_scrip (x :: a) b (o ++ [y])
    rw [scrip_cons]
    split
    · rename_i h
      simp only [app]
      simp
      rw [h1, h.1]; simp
    · split
      · simp only [app]
        simp
        rw [h2]; simp
      · split
        · simp only [app]
          simp
          rw [h3]
        · simp only [app]
          simp
          rw [h4]; simp
termination_by a b => a.length + b.length
theorem appO_scrip (a b : ByteArray) : appS a (bstr (scrip a.data.toList b.data.toList)) = b ∧ appB a (bstr (scrip a.data.toList b.data.toList)) = true := by
  have h : appO a (bstr (scrip a.data.toList b.data.toList)) = some b.data.toList := by
    unfold appO; rw [bstr_list, app_scrip]; simp
  obtain ⟨h1, h2⟩ := app_some h
  exact ⟨by rw [h1]; exact bstr_of b, h2⟩
end Go.Proofs.Ytoijjielnbcphaa

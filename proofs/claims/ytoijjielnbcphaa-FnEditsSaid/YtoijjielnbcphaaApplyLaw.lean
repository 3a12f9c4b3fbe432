/-
  Plain laws: what a script of edits makes of a string, step by step. No condition.
-/
import Derived.Test.YtoijjielnbcphaaBase
namespace Go.Proofs.Ytoijjielnbcphaa
set_option linter.unusedVariables false
set_option linter.unusedSimpArgs false

/-- The script's steps on what is left of the string; what has been written so far; whether the next sign is to be written. -/
def app : List UInt8 → Bool → List UInt8 → List UInt8 → Option (List UInt8)
  | [], p, rest, out => if p = true then none else if rest = [] then some out else none
  | c :: cs, p, rest, out =>
    if p = true then app cs false rest (out ++ [c])
    else if c = 61 then (match rest with | x :: r => app cs false r (out ++ [x]) | [] => none)
    else if c = 45 then (match rest with | _ :: r => app cs false r out | [] => none)
    else if c = 126 then (match rest with | _ :: r => app cs true r out | [] => none)
    else if c = 43 then app cs true rest out
    else none
theorem drop_cons (s : ByteArray) (k : Nat) (h : k < s.size) : s.data.toList.drop k = s[k] :: s.data.toList.drop (k + 1) := by
  rw [List.drop_eq_getElem_cons (by rw [dlen]; exact h)]; rfl
theorem drop_end (s : ByteArray) (k : Nat) (h : s.size ≤ k) : s.data.toList.drop k = [] := List.drop_eq_nil_of_le (by rw [dlen]; exact h)
section
variable {s a : ByteArray} {k i : Nat} {o : List UInt8}
theorem app_end (h : s.size ≤ k) (h2 : a.size ≤ i) : app (s.data.toList.drop k) false (a.data.toList.drop i) o = some o := by
  rw [drop_end s k h, drop_end a i h2]; simp [app]
theorem app_left (h : s.size ≤ k) (h2 : i < a.size) : app (s.data.toList.drop k) false (a.data.toList.drop i) o = none := by
  rw [drop_end s k h, drop_cons a i h2]; simp [app]
theorem app_copy (h : k < s.size) (h2 : i < a.size) (hc : s[k] = 61) : app (s.data.toList.drop k) false (a.data.toList.drop i) o = app (s.data.toList.drop (k + 1)) false (a.data.toList.drop (i + 1)) (o ++ [a[i]]) := by
  rw [drop_cons s k h, drop_cons a i h2, hc]; simp [app]
theorem app_skip (h : k < s.size) (h2 : i < a.size) (hc : s[k] = 45) : app (s.data.toList.drop k) false (a.data.toList.drop i) o = app (s.data.toList.drop (k + 1)) false (a.data.toList.drop (i + 1)) o := by
  rw [drop_cons s k h, drop_cons a i h2, hc]; simp [app]
theorem app_turn (h : k + 1 < s.size) (h2 : i < a.size) (hc : s[k] = 126) : app (s.data.toList.drop k) false (a.data.toList.drop i) o = app (s.data.toList.drop (k + 2)) false (a.data.toList.drop (i + 1)) (o ++ [s[k + 1]]) := by
  rw [drop_cons s k (by omega), drop_cons s (k + 1) h, drop_cons a i h2, hc]; simp [app]
theorem app_put (h : k + 1 < s.size) (hc : s[k] = 43) : app (s.data.toList.drop k) false (a.data.toList.drop i) o = app (s.data.toList.drop (k + 2)) false (a.data.toList.drop i) (o ++ [s[k + 1]]) := by
  rw [drop_cons s k (by omega), drop_cons s (k + 1) h, hc]; simp [app]
theorem app_put_no (h : k < s.size) (hc : s[k] = 43) (h2 : s.size ≤ k + 1) : app (s.data.toList.drop k) false (a.data.toList.drop i) o = none := by
  rw [drop_cons s k (by omega), drop_end s (k + 1) h2, hc]; simp [app]
theorem app_turn_no (h : k < s.size) (hc : s[k] = 126) (h2 : s.size ≤ k + 1) : app (s.data.toList.drop k) false (a.data.toList.drop i) o = none := by
  rw [drop_cons s k (by omega), drop_end s (k + 1) h2, hc]; simp [app]
  split <;> simp
theorem app_over (h : k < s.size) (hc : s[k] = 61 ∨ s[k] = 45 ∨ s[k] = 126) (h2 : a.size ≤ i) : app (s.data.toList.drop k) false (a.data.toList.drop i) o = none := by
  rw [drop_cons s k h, drop_end a i h2]
  rcases hc with hc | hc | hc <;> rw [hc] <;> simp [app]
theorem app_bad (h : k < s.size) (h1 : s[k] ≠ 61) (h2 : s[k] ≠ 45) (h3 : s[k] ≠ 126) (h4 : s[k] ≠ 43) : app (s.data.toList.drop k) false (a.data.toList.drop i) o = none := by
  rw [drop_cons s k h]; simp [app, h1, h2, h3, h4]
end
def appO (a s : ByteArray) : Option (List UInt8) := app s.data.toList false a.data.toList []
def appS (a s : ByteArray) : ByteArray := bstr ((appO a s).getD [])
def appB (a s : ByteArray) : Bool := (appO a s).isSome
theorem app_none {a s : ByteArray} (h : appO a s = none) : appS a s = bstr [] ∧ appB a s = false := by unfold appS appB; rw [h]; exact ⟨rfl, rfl⟩
theorem app_some {a s : ByteArray} {o : List UInt8} (h : appO a s = some o) : appS a s = bstr o ∧ appB a s = true := by unfold appS appB; rw [h]; exact ⟨rfl, rfl⟩
end Go.Proofs.Ytoijjielnbcphaa

/-
  Plain laws on bytes: small letters and digits, the bytes of words. No condition.
-/
import Derived.Test.YtdhdjmeolkobeaaDoorFold
namespace Go.Proofs.YtdhdjmeolkobeaaDoor
set_option linter.unusedVariables false
set_option linter.unusedSimpArgs false

def aln (c : UInt8) : Bool := rng 97 122 c || rng 48 57 c
def wordB (c : UInt8) : Bool := rng 97 122 c || (rng 65 90 c || rng 48 57 c)
theorem aln_of {c : UInt8} (h : wordB c = true) (h2 : low c = c) : aln c = true := by
  unfold wordB at h
  unfold aln
  cases h1 : rng 65 90 c
  · rw [h1] at h; simpa using h
  · exfalso
    unfold low at h2; rw [h1] at h2
    have := congrArg UInt8.toNat h2
    unfold rng at h1; simp at h1
    simp at this; omega
theorem low_aln {c : UInt8} (h : aln c = true) : low c = c := by
  unfold low
  cases h1 : rng 65 90 c
  · rfl
  · exfalso
    unfold aln rng at h; unfold rng at h1
    simp at h h1
    omega
theorem fold_id : ∀ l : List UInt8, l.all aln = true → fold l = l := by
  intro l h
  induction l with
  | nil => rfl
  | cons c l ih =>
    simp only [List.all_cons, Bool.and_eq_true] at h
    show low c :: fold l = c :: l
    rw [low_aln h.1, ih h.2]
theorem alnum_yes : ∀ l : List UInt8, l.all wordB = true → fold l = l → l.all aln = true := by
  intro l h h2
  induction l with
  | nil => rfl
  | cons c l ih =>
    simp only [List.all_cons, Bool.and_eq_true] at h ⊢
    have h3 : low c :: fold l = c :: l := h2
    simp only [List.cons.injEq] at h3
    exact ⟨aln_of h.1 h3.1, ih h.2 h3.2⟩
end Go.Proofs.YtdhdjmeolkobeaaDoor

/-
  Plain laws on sound codes: the code of a letter, the run over a word, the code of a word. No condition.
-/
import Derived.Test.YtoijjielnbcphaaDoorChars
import Derived.Test.YtoijjielnbcphaaDoorNumLaw
import Derived.Test.YtoijjielnbcphaaDoorEnv
namespace Go.Proofs.YtoijjielnbcphaaDoor
set_option linter.unusedVariables false
set_option linter.unusedSimpArgs false
def sc (c : UInt8) : Int := if rng 97 122 (low c) then sndL.getD ((low c).toNat - 97) 0 else -2
theorem snd_range : ∀ i, i < 26 → -1 ≤ sndL.getD i 0 ∧ sndL.getD i 0 ≤ 6 := by decide
theorem rng_iff {lo hi : Nat} {c : UInt8} : rng lo hi c = true ↔ lo ≤ c.toNat ∧ c.toNat ≤ hi := by unfold rng; simp
theorem sc_range (c : UInt8) : -2 ≤ sc c ∧ sc c ≤ 6 := by
  unfold sc
  split
  · rename_i h
    obtain ⟨h1, h2⟩ := rng_iff.1 h
    have := snd_range ((low c).toNat - 97) (by omega)
    omega
  · omega
def sxStep (st : List UInt8 × Int) (c : UInt8) : List UInt8 × Int := if 0 < sc c ∧ sc c ≠ st.2 then (st.1 ++ [dch (sc c).toNat], sc c) else if 0 ≤ sc c then (st.1, sc c) else st
def sx : List UInt8 → List UInt8 × Int
  | [] => ([], 0)
  | c :: r => r.foldl sxStep ([low c], sc c)
theorem sx_snoc {l : List UInt8} (h : l ≠ []) (c : UInt8) : sx (l ++ [c]) = sxStep (sx l) c := by
  cases l with
  | nil => exact absurd rfl h
  | cons d r => simp [sx]
theorem sx_one (c : UInt8) : sx [c] = ([low c], sc c) := rfl
theorem sxStep_len (st : List UInt8 × Int) (c : UInt8) : st.1.length ≤ (sxStep st c).1.length ∧ (sxStep st c).1.length ≤ st.1.length + 1 := by
  unfold sxStep; split
  · simp
  · split <;> simp
theorem sx_len : ∀ l : List UInt8, (sx l).1.length ≤ l.length ∧ (l ≠ [] → 1 ≤ (sx l).1.length) := by
  refine snoc_ind ?_ ?_
  · simp [sx]
  · intro l c ih
    by_cases h : l = []
    · subst h; simp [sx_one]
    · rw [sx_snoc h]
      have := sxStep_len (sx l) c
      have h1 := ih.2 h
      refine ⟨by rw [List.length_append, List.length_singleton]; omega, fun _ => by omega⟩
def badS (l : List UInt8) : Bool := l.any fun c => sc c == -2
def sndx (l : List UInt8) : List UInt8 := if l = [] ∨ badS l = true then [] else ((sx l).1 ++ [48, 48, 48]).take 4
theorem sndx_nil : sndx [] = [] := rfl
theorem sndx_bad {l : List UInt8} (h : badS l = true) : sndx l = [] := by unfold sndx; rw [if_pos (Or.inr h)]
theorem sndx_ok {l : List UInt8} (h : badS l = false) (hn : l ≠ []) : sndx l = ((sx l).1 ++ [48, 48, 48]).take 4 := by
  unfold sndx; rw [if_neg (by rw [h]; simp [hn])]
theorem sndx_len {l : List UInt8} : sndx l = [] ∨ (sndx l).length = 4 := by
  unfold sndx
  split
  · exact Or.inl rfl
  · rename_i h
    have hn : l ≠ [] := fun e => h (Or.inl e)
    have := (sx_len l).2 hn
    right; simp; omega
theorem badS_at (s : ByteArray) (k : Nat) (h : k < s.size) (hb : (sc s[k] == -2) = true) : badS s.data.toList = true := by
  unfold badS; rw [List.any_eq_true]; exact ⟨_, mem_at s k h, hb⟩
theorem badS_take (s : ByteArray) (k : Nat) (h : k < s.size) (h1 : badS (s.data.toList.take k) = false) (hb : (sc s[k] == -2) = false) : badS (s.data.toList.take (k + 1)) = false := by
  unfold badS at h1 ⊢; rw [take_snoc s k h, List.any_append, h1]; simp only [List.any_cons, List.any_nil, hb]; rfl
theorem take_ne (s : ByteArray) (k : Nat) (h : k ≤ s.size) (h1 : 1 ≤ k) : s.data.toList.take k ≠ [] := by
  intro e; have := congrArg List.length e; rw [take_len s k h] at this; simp at this; omega
theorem sx_take (s : ByteArray) (k : Nat) (h : k < s.size) (h1 : 1 ≤ k) : sx (s.data.toList.take (k + 1)) = sxStep (sx (s.data.toList.take k)) s[k] := by
  rw [take_snoc s k h, sx_snoc (take_ne s k (Nat.le_of_lt h) h1)]
theorem step_push {st : List UInt8 × Int} {c : UInt8} (h : 0 < sc c) (h2 : sc c ≠ st.2) : sxStep st c = (st.1 ++ [dch (sc c).toNat], sc c) := by unfold sxStep; rw [if_pos ⟨h, h2⟩]
theorem step_set {st : List UInt8 × Int} {c : UInt8} (h0 : 0 ≤ sc c) (h : ¬ (0 < sc c ∧ sc c ≠ st.2)) : sxStep st c = (st.1, sc c) := by unfold sxStep; rw [if_neg h, if_pos h0]
theorem step_keep {st : List UInt8 × Int} {c : UInt8} (h0 : ¬ 0 ≤ sc c) : sxStep st c = st := by unfold sxStep; rw [if_neg (by omega), if_neg h0]
end Go.Proofs.YtoijjielnbcphaaDoor

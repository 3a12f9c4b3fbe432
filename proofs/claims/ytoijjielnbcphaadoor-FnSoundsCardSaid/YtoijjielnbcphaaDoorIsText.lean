/-
  Walks of IsText (program and reference): whether all bytes of s lie from 32 to 126 and s has at most 40 bytes. Condition: s has at most 2^20 bytes.
-/
import Derived.Test.YtoijjielnbcphaaDoorWithin
namespace Go.Proofs.YtoijjielnbcphaaDoor
open Go.RowKit
set_option linter.unusedVariables false
set_option linter.unusedSimpArgs false

def isText (s : ByteArray) : Bool := s.data.toList.all (rng 32 126) && decide (s.size ≤ 40)
theorem isText_no (s : ByteArray) (k : Nat) (h : k < s.size) (hf : rng 32 126 s[k] = false) : isText s = false := by
  unfold isText; rw [all_no s k h _ hf]; rfl
theorem isText_len (s : ByteArray) (h : (s.data.toList.take s.size).all (rng 32 126) = true) : isText s = decide ((s.size : Int) ≤ 40) := by
  rw [take_all] at h; unfold isText; rw [h]; simp; omega

end Go.Proofs.YtoijjielnbcphaaDoor

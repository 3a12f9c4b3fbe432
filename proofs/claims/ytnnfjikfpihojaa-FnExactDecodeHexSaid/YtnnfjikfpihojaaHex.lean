/-
  Walks of EncodeHex (program and reference): two digits for each byte. Condition: s has at most 2^20 bytes.
-/
import Derived.Test.YtnnfjikfpihojaaRegion
import Derived.StillTailTactics
import Derived.Deep.QuietTactic
import Derived.BigQuiet
namespace Go.Proofs.Ytnnfjikfpihojaa
open Go.RowKit
set_option linter.unusedVariables false
set_option linter.unusedSimpArgs false

def hexTab : List UInt8 := [48, 49, 50, 51, 52, 53, 54, 55, 56, 57, 97, 98, 99, 100, 101, 102]
def hexC (n : Nat) : UInt8 := hexTab.getD n 0
theorem tab_at (z : Int) (m : Nat) (h : z.toNat < (⟨#[48, 49, 50, 51, 52, 53, 54, 55, 56, 57, 97, 98, 99, 100, 101, 102]⟩ : ByteArray).size) (hz : z.toNat = m) :
    ((⟨#[48, 49, 50, 51, 52, 53, 54, 55, 56, 57, 97, 98, 99, 100, 101, 102]⟩ : ByteArray)[z.toNat].toNat : Int) = ((hexC m).toNat : Int) := by
  subst hz
  have h2 : z.toNat < hexTab.length := h
  have : (⟨#[48, 49, 50, 51, 52, 53, 54, 55, 56, 57, 97, 98, 99, 100, 101, 102]⟩ : ByteArray)[z.toNat] = hexC z.toNat := by
    have e : hexC z.toNat = hexTab[z.toNat] := by unfold hexC; simp [List.getD, h2]
    rw [e]; rfl
  exact congrArg (fun b : UInt8 => (b.toNat : Int)) this
def hexOf (c : UInt8) : List UInt8 := [hexC (c.toNat / 16), hexC (c.toNat % 16)]
def hexL (l : List UInt8) : List UInt8 := l.flatMap hexOf
theorem hexL_snoc (l : List UInt8) (c : UInt8) : hexL (l ++ [c]) = hexL l ++ [hexC (c.toNat / 16), hexC (c.toNat % 16)] := by simp [hexL, hexOf]
theorem hexL_len : ∀ l : List UInt8, (hexL l).length = 2 * l.length := by
  refine snoc_ind (by simp [hexL]) ?_
  intro l c ih; rw [hexL_snoc]; simp [ih]; omega

set_option maxHeartbeats 400000 in
theorem l1Digit_any (z : Int) (w : World) (h0 : 0 ≤ z) (h1 : z < 16) :
    Calls Try.prog 58 #[.int .i64 z] w fun e w' => e = .returned (.int .u8 (hexC z.toNat).toNat) ∧ w = w' := by
  go_enter Try.func58, Try.ntmps58
  go_wp2
  go_ret
  exact ⟨int_ret (tab_at _ _ _ rfl), rfl⟩
end Go.Proofs.Ytnnfjikfpihojaa

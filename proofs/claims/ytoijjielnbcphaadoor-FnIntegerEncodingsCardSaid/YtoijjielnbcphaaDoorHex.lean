/-
  Walks of EncodeHex (program and reference): two digits for each byte. Condition: s has at most 2^20 bytes.
-/
import Derived.Test.YtoijjielnbcphaaDoorRegion
import Derived.StillTailTactics
import Derived.Deep.QuietTactic
import Derived.BigQuiet
namespace Go.Proofs.YtoijjielnbcphaaDoor
open Go.RowKit
set_option linter.unusedVariables false
set_option linter.unusedSimpArgs false
set_option maxRecDepth 100000

def hexTab : List UInt8 := [48, 49, 50, 51, 52, 53, 54, 55, 56, 57, 97, 98, 99, 100, 101, 102]
def hexC (n : Nat) : UInt8 := hexTab.getD n 0
theorem tab_at (z : Int) (m : Nat) (h : z.toNat < (⟨#[48, 49, 50, 51, 52, 53, 54, 55, 56, 57, 97, 98, 99, 100, 101, 102]⟩ : ByteArray).size) (hz : z.toNat = m) :
    ((⟨#[48, 49, 50, 51, 52, 53, 54, 55, 56, 57, 97, 98, 99, 100, 101, 102]⟩ : ByteArray)[z.toNat].toNat : Int) = ((hexC m).toNat : Int) := by
  subst hz
  have h2 : z.toNat < hexTab.length := h
  have : (⟨#[48, 49, 50, 51, 52, 53, 54, 55, 56, 57, 97, 98, 99, 100, 101, 102]⟩ : ByteArray)[z.toNat] = hexC z.toNat := by
    have e : hexC z.toNat = hexTab[z.toNat] := by unfold hexC; simp [List.getD, h2]
    rw [e]; rfl
  exact congrArg (fun b : UInt8 => (b.toNat : Int)) this
def hexOf (c : UInt8) : List UInt8 := [hexC (c.toNat / 16), hexC (c.toNat % 16)]
def hexL (l : List UInt8) : List UInt8 := l.flatMap hexOf
theorem hexL_snoc (l : List UInt8) (c : UInt8) : hexL (l ++ [c]) = hexL l ++ [hexC (c.toNat / 16), hexC (c.toNat % 16)] := by simp [hexL, hexOf]
theorem hexL_len : ∀ l : List UInt8, (hexL l).length = 2 * l.length := by
  refine snoc_ind (by simp [hexL]) ?_
  intro l c ih; rw [hexL_snoc]; simp [ih]; omega

set_option maxHeartbeats 800000 in
theorem implEncodeHex (s : ByteArray) (w : World) (hs : s.size ≤ 1048576) :
    Calls Tryd.prog 29 #[.string s] w fun e w' => e = .returned (.string (bstr (hexL s.data.toList))) ∧ Below w.heap.size w w' := by
  have hmk := makeB w 0 (2 * s.size) (Nat.zero_le _) (by omega)
  have e2 : ((2 * s.size : Nat) : Int) = 2 * (s.size : Int) := by omega
  rw [e2, show ((0 : Nat) : Int) = 0 from rfl] at hmk
  clear e2
  obtain ⟨W1, hW1⟩ : ∃ W1, W1 = w.alloc (.cells (madeCells #[.int .u8 0] (2 * s.size)) 5) := ⟨_, rfl⟩
  have hb0 : Bld 5 w.heap.size w W1 (.slice (some ⟨w.heap.size, 0, none⟩) 0 (2 * s.size)) [] := by rw [hW1]; exact Bld.room _ _ _ _ (size_madeCells _ _) (by unfold maxLen; omega)
  rw [← hW1] at hmk
  clear hW1
  go_enter Tryd.func29, Tryd.ntmps29
  go_wp2
  clear hmk
  go_loopw [3, 11] (fun v i wr => ∃ k : Nat, k ≤ s.size ∧ i = .int .i64 k ∧ Bld 5 w.heap.size w wr v (hexL (s.data.toList.take k))) (fun _ i _ => s.size - (intOf i).toNat)
  case atStart => exact ⟨0, Nat.zero_le _, rfl, hb0⟩
  case round =>
    obtain ⟨k, hk, rfl, hb⟩ := hrel
    clear hb0
    by_cases hlt : k < s.size
    · have hbb := byte_le s[k]
      go_wp2
      have Hsn := Lib.hid ((congrArg hexL (take_snoc s k hlt)).trans (hexL_snoc _ _))
      have hq : (0 : Int) ≤ (s[k].toNat : Int) / 16 ∧ (s[k].toNat : Int) / 16 < 16 := by omega
      have hr : (0 : Int) ≤ (s[k].toNat : Int) % 16 ∧ (s[k].toNat : Int) % 16 < 16 := by omega
      have hand := u8_and15 (x := (s[k].toNat : Int)) (by omega) (by omega)
      have hle := hexL_len (s.data.toList.take k)
      rw [take_len s k hk] at hle
      have Hle := Lib.hid hle; clear hle
      go_region_law (refine step_push2 rfl _ _ 22 rfl _ _ Tryd.underlying22 infoB _ _ rfl hb _ _ (hexC (s[k].toNat / 16)) (hexC (s[k].toNat % 16)) rfl ?_ ?_ ?_ ?_; (exact tab_at _ _ _ (by omega)); (exact tab_at _ _ _ (by omega)); (rw [Hle.out]; omega); intro v2 w2 hb2)
      clear hand hb
      all_goals
        go_wp2
        go_roundw
        case rel => exact ⟨k + 1, by omega, by go_num, by rw [Hsn.out]; exact hb2⟩
        case measure => simp [intOf]; omega
    · obtain rfl : k = s.size := by omega
      have ht := text hb
      rw [take_all] at ht hb
      go_wp2
      go_ret
      exact ⟨rfl, hb.bel⟩
end Go.Proofs.YtoijjielnbcphaaDoor

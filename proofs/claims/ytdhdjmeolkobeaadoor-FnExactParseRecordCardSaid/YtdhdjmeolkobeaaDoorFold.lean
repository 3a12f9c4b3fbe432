/-
  Walks of FoldCase (program and reference): capital letters become small ones. Condition: s has at most 2^20 bytes.
-/
import Derived.Test.YtdhdjmeolkobeaaDoorMapped
namespace Go.Proofs.YtdhdjmeolkobeaaDoor
open Go.RowKit
set_option linter.unusedVariables false
set_option linter.unusedSimpArgs false

def low (c : UInt8) : UInt8 := if rng 65 90 c then c + 32 else c
theorem low_in {c : UInt8} (h : 65 ≤ (c.toNat : Int)) (h2 : (c.toNat : Int) ≤ 90) : (c.toNat : Int) + 32 = ((low c).toNat : Int) := by
  unfold low; rw [rng_in h h2]; simp; omega
theorem low_lo {c : UInt8} (h : ¬ 65 ≤ (c.toNat : Int)) : low c = c := by unfold low; rw [rng_lo h]; rfl
theorem low_hi {c : UInt8} (h : ¬ (c.toNat : Int) ≤ 90) : low c = c := by unfold low; rw [rng_hi h]; rfl
def fold (l : List UInt8) : List UInt8 := l.map low
theorem fold_snoc (s : ByteArray) (k : Nat) (h : k < s.size) : fold (s.data.toList.take (k + 1)) = fold (s.data.toList.take k) ++ [low s[k]] := by
  rw [take_snoc s k h]; simp [fold]
theorem fold_len (s : ByteArray) (k : Nat) (h : k ≤ s.size) : (fold (s.data.toList.take k)).length = k := by unfold fold; rw [List.length_map, take_len s k h]

set_option maxHeartbeats 400000 in
theorem specFoldCase (s : ByteArray) (w : World) (hs : s.size ≤ 1048576) :
    Calls Tryd.prog 68 #[.string s] w fun e w' => e = .returned (.string (bstr (fold s.data.toList))) ∧ Below w.heap.size w w' := by
  go_enter Tryd.func68, Tryd.ntmps68
  go_wp2
  go_loopw [3, 4] (fun v i wr => ∃ k : Nat, k ≤ s.size ∧ i = .int .i64 k ∧ Bld 5 w.heap.size w wr v (fold (s.data.toList.take k))) (fun _ i _ => s.size - (intOf i).toNat)
  case atStart => exact ⟨0, Nat.zero_le _, rfl, Bld.empty _ _⟩
  case round =>
    obtain ⟨k, hk, rfl, hb⟩ := hrel
    by_cases hlt : k < s.size
    · have hle := fold_len s k hk
      have Hle := Lib.hid hle; clear hle
      have Hsn := Lib.hid (fold_snoc s k hlt)
      have hb0 := byte_le s[k]
      rcases range_cases s[k].toNat 65 90 (by omega) with h1 | ⟨h1, h2⟩ | ⟨h1, h2⟩
      · have Hl := Lib.hid (low_lo h1)
        go_wp2_with (at_builtin; refine wpList_push1 rfl _ _ 42 rfl _ _ Tryd.underlying42 infoB _ _ rfl hb _ (low s[k]) rfl ?_ ?_ ?_; (rw [Hl.out]); (rw [Hle.out]; omega); intro v' w' hb')
        go_roundw
        case rel => exact ⟨k + 1, by omega, by go_num, by rw [Hsn.out]; exact hb'⟩
        case measure => simp [intOf]; omega
      · have Hl := Lib.hid (low_in h1 h2)
        go_wp2_with (at_builtin; refine wpList_push1 rfl _ _ 42 rfl _ _ Tryd.underlying42 infoB _ _ rfl hb _ (low s[k]) rfl ?_ ?_ ?_; (exact Hl.out); (rw [Hle.out]; omega); intro v' w' hb')
        go_roundw
        case rel => exact ⟨k + 1, by omega, by go_num, by rw [Hsn.out]; exact hb'⟩
        case measure => simp [intOf]; omega
      · have Hl := Lib.hid (low_hi h2)
        go_wp2_with (at_builtin; refine wpList_push1 rfl _ _ 42 rfl _ _ Tryd.underlying42 infoB _ _ rfl hb _ (low s[k]) rfl ?_ ?_ ?_; (rw [Hl.out]); (rw [Hle.out]; omega); intro v' w' hb')
        go_roundw
        case rel => exact ⟨k + 1, by omega, by go_num, by rw [Hsn.out]; exact hb'⟩
        case measure => simp [intOf]; omega
    · obtain rfl : k = s.size := by omega
      have ht := text hb
      rw [take_all] at ht hb
      go_wp2
      go_ret
      exact ⟨rfl, hb.bel⟩

theorem callFunc_fold (args : Array Value) (w : World) : (callFunc 105 args).run Tryd.prog w = .ok (.enter 105 args) w := by kernel_rfl
set_option maxHeartbeats 400000 in
theorem lowFn (c : UInt8) (w : World) :
    Calls Tryd.prog 105 #[.int .u8 c.toNat] w fun e w' => e = .returned (.int .u8 (low c).toNat) ∧ w = w' := by
  have hb0 := byte_le c
  rcases range_cases c.toNat 65 90 (by omega) with h1 | ⟨h1, h2⟩ | ⟨h1, h2⟩
  · have Hl := Lib.hid (low_lo h1)
    go_enter Tryd.func105, Tryd.ntmps105
    go_wp2
    go_ret
    exact ⟨by rw [Hl.out]; rfl, rfl⟩
  · have Hl := Lib.hid (low_in h1 h2)
    go_enter Tryd.func105, Tryd.ntmps105
    go_wp2
    go_ret
    exact ⟨by rw [← Hl.out]; rfl, rfl⟩
  · have Hl := Lib.hid (low_hi h2)
    go_enter Tryd.func105, Tryd.ntmps105
    go_wp2
    go_ret
    exact ⟨by rw [Hl.out]; rfl, rfl⟩
set_option maxHeartbeats 400000 in
theorem implFoldCase (s : ByteArray) (w : World) (hs : s.size ≤ 1048576) :
    Calls Tryd.prog 76 #[.string s] w fun e w' => e = .returned (.string (bstr (fold s.data.toList))) ∧ Below w.heap.size w w' := by
  go_enter Tryd.func76, Tryd.ntmps76
  go_wp2_with fail
  refine (mapped_any 105 low callFunc_fold (Lib.hid lowFn) s _ hs).mono ?_
  rintro e w1 ⟨rfl, hb⟩
  go_wp2
  go_ret
  exact ⟨rfl, hb⟩
end Go.Proofs.YtdhdjmeolkobeaaDoor

/-
  Walks of StripMarks, Normalize, IsNormal (program and reference) and of words (program). Condition: s has at most 2^20 bytes; the world has its shape.
-/
import Derived.Test.YtoijjielnbcphaaWordsLaw
import Derived.Test.YtoijjielnbcphaaCharsW
import Derived.Test.YtoijjielnbcphaaCollapse
import Derived.Test.YtoijjielnbcphaaIsText
import Derived.Test.YtoijjielnbcphaaSeqMore
import Derived.Test.YtoijjielnbcphaaEnv
import Derived.Test.YtoijjielnbcphaaShelf
import Derived.Shelf.GgClosure.GivesRunes
namespace Go.Proofs.Ytoijjielnbcphaa
open Go.RowKit
set_option linter.unusedVariables false
set_option linter.unusedSimpArgs false
set_option maxRecDepth 100000
theorem fold_length (l : List UInt8) : (fold l).length = l.length := by simp [fold]
theorem strip_take (s : ByteArray) (k : Nat) (h : k < s.size) (hn : s[k] ≠ 39) : strip (s.data.toList.take (k + 1)) = strip (s.data.toList.take k) ++ [keepB s[k]] := by
  rw [take_snoc s k h, strip_append, strip_one hn]
theorem strip_take_no (s : ByteArray) (k : Nat) (h : k < s.size) (hn : s[k] = 39) : strip (s.data.toList.take (k + 1)) = strip (s.data.toList.take k) := by
  rw [take_snoc s k h, strip_append, hn, strip_one_no, List.append_nil]
theorem strip_le (s : ByteArray) (k : Nat) (h : k ≤ s.size) : (strip (s.data.toList.take k)).length ≤ k := by
  have := strip_len (s.data.toList.take k); rw [take_len s k h] at this; exact this
set_option maxHeartbeats 1600000 in
theorem specStrip (s : ByteArray) (w : World) (hs : s.size ≤ 1048576) :
    Calls Try.prog 81 #[.string s] w fun e w' => e = .returned (.string (bstr (strip s.data.toList))) ∧ Below w.heap.size w w' := by
  go_enter Try.func81, Try.ntmps81
  go_wp2
  go_loopw [3, 4] (fun v i wr => ∃ k : Nat, k ≤ s.size ∧ i = .int .i64 k ∧ Bld 5 w.heap.size w wr v (strip (s.data.toList.take k))) (fun _ i _ => s.size - (intOf i).toNat)
  case atStart => exact ⟨0, Nat.zero_le _, rfl, Bld.empty _ _⟩
  case round =>
    obtain ⟨k, hk, rfl, hb⟩ := hrel
    by_cases hlt : k < s.size
    · have Hle := Lib.hid (strip_le s k hk)
      have hb0 := byte_le s[k]
      cases hw : wordB s[k]
      · cases h1 : ((s[k].toNat : Int) == 32)
        · cases h2 : ((s[k].toNat : Int) != 39)
          · have H : Hid (strip (s.data.toList.take (k + 1)) = strip (s.data.toList.take k)) := Lib.hid (strip_take_no s k hlt (UInt8.toNat_inj.1 (by have := bne_eq_false_iff_eq.1 h2; show s[k].toNat = 39; omega)))
            go_wp2_with (go_at_call 60; refine (l2Word_any s[k] _).mono ?_; rintro e w' ⟨rfl, rfl⟩)
            go_roundw
            case rel => exact ⟨k + 1, by omega, by go_num, by rw [H.out]; exact hb⟩
            case measure => simp [intOf]; omega
          · have H : Hid (strip (s.data.toList.take (k + 1)) = strip (s.data.toList.take k) ++ [32]) := Lib.hid (by
              rw [strip_take s k hlt (by rintro e; rw [e] at h2; revert h2; decide)]; unfold keepB; rw [hw]; rfl)
            go_wp2_with (first
              | (go_at_call 60; refine (l2Word_any s[k] _).mono ?_; rintro e w' ⟨rfl, rfl⟩)
              | (at_builtin; refine wpList_push1 rfl _ _ 22 rfl _ _ Try.underlying22 infoB _ _ rfl hb _ 32 rfl ?_ ?_ ?_; (rfl); (have := Hle.out; omega); intro v' w' hb'))
            go_roundw
            case rel => exact ⟨k + 1, by omega, by go_num, by rw [H.out]; exact hb'⟩
            case measure => simp [intOf]; omega
        · have e32 : s[k] = 32 := UInt8.toNat_inj.1 (by have := beq_iff_eq.1 h1; show s[k].toNat = 32; omega)
          have H : Hid (strip (s.data.toList.take (k + 1)) = strip (s.data.toList.take k) ++ [s[k]]) := Lib.hid (by
            rw [strip_take s k hlt (by rw [e32]; decide)]; unfold keepB; rw [hw, e32]; rfl)
          clear e32
          go_wp2_with (first
            | (go_at_call 60; refine (l2Word_any s[k] _).mono ?_; rintro e w' ⟨rfl, rfl⟩)
            | (at_builtin; refine wpList_push1 rfl _ _ 22 rfl _ _ Try.underlying22 infoB _ _ rfl hb _ s[k] rfl ?_ ?_ ?_; (rfl); (have := Hle.out; omega); intro v' w' hb'))
          go_roundw
          case rel => exact ⟨k + 1, by omega, by go_num, by rw [H.out]; exact hb'⟩
          case measure => simp [intOf]; omega
      · have H : Hid (strip (s.data.toList.take (k + 1)) = strip (s.data.toList.take k) ++ [s[k]]) := Lib.hid (by
          rw [strip_take s k hlt (word_no_39 hw)]; unfold keepB; rw [hw]; rfl)
        go_wp2_with (first
          | (go_at_call 60; refine (l2Word_any s[k] _).mono ?_; rintro e w' ⟨rfl, rfl⟩)
          | (at_builtin; refine wpList_push1 rfl _ _ 22 rfl _ _ Try.underlying22 infoB _ _ rfl hb _ s[k] rfl ?_ ?_ ?_; (rfl); (have := Hle.out; omega); intro v' w' hb'))
        go_roundw
        case rel => exact ⟨k + 1, by omega, by go_num, by rw [H.out]; exact hb'⟩
        case measure => simp [intOf]; omega
    · obtain rfl : k = s.size := by omega
      have ht := text hb
      rw [take_all] at ht hb
      go_wp2
      go_ret
      exact ⟨rfl, hb.bel⟩
theorem specNorm (s : ByteArray) (w : World) (hs : s.size ≤ 1048576) :
    Calls Try.prog 63 #[.string s] w fun e w' => e = .returned (.string (bstr (norm s.data.toList))) ∧ Below w.heap.size w w' := by
  have l1 : (bstr (fold s.data.toList)).size ≤ 1048576 := by rw [bstr_size, fold_length, dlen]; exact hs
  have l2 : (bstr (strip (fold s.data.toList))).size ≤ 1048576 := by
    have := strip_len (fold s.data.toList); rw [fold_length, dlen] at this; rw [bstr_size]; omega
  go_enter Try.func63, Try.ntmps63
  go_wp2_with fail
  refine (specFoldCase s _ hs).mono ?_
  rintro e w1 ⟨rfl, hb1⟩
  go_wp2_with fail
  refine (specStrip _ _ l1).mono ?_
  rintro e w2 ⟨rfl, hb2⟩
  rw [bstr_list]
  go_wp2_with fail
  refine (specCollapse _ _ l2).mono ?_
  rintro e w3 ⟨rfl, hb3⟩
  rw [bstr_list]
  go_wp2
  go_ret
  exact ⟨rfl, (hb1.trans (hb2.mono hb1.size)).trans (hb3.mono (Nat.le_trans hb1.size hb2.size))⟩
def isNormal (s : ByteArray) : Bool := isText s && ((bstr (norm s.data.toList)).toList == s.toList)
end Go.Proofs.Ytoijjielnbcphaa

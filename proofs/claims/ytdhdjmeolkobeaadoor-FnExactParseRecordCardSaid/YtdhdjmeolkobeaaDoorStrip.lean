/-
  Walks of StripMarks, Normalize, IsNormal (program and reference) and of words (program). Condition: s has at most 2^20 bytes; the world has its shape.
-/
import Derived.Test.YtdhdjmeolkobeaaDoorWordsLaw
import Derived.Test.YtdhdjmeolkobeaaDoorCharsW
import Derived.Test.YtdhdjmeolkobeaaDoorCollapse
import Derived.Test.YtdhdjmeolkobeaaDoorIsText
import Derived.Test.YtdhdjmeolkobeaaDoorSeqMore
import Derived.Test.YtdhdjmeolkobeaaDoorEnv
import Derived.Test.YtdhdjmeolkobeaaDoorShelf
import Derived.Shelf.GgClosure.GivesRunes
namespace Go.Proofs.YtdhdjmeolkobeaaDoor
open Go.RowKit
set_option linter.unusedVariables false
set_option linter.unusedSimpArgs false
set_option maxRecDepth 100000
theorem fold_length (l : List UInt8) : (fold l).length = l.length := by simp [fold]
theorem strip_take (s : ByteArray) (k : Nat) (h : k < s.size) (hn : s[k] ≠ 39) : strip (s.data.toList.take (k + 1)) = strip (s.data.toList.take k) ++ [keepB s[k]] := by
  rw [take_snoc s k h, strip_append, strip_one hn]
theorem strip_take_no (s : ByteArray) (k : Nat) (h : k < s.size) (hn : s[k] = 39) : strip (s.data.toList.take (k + 1)) = strip (s.data.toList.take k) := by
  rw [take_snoc s k h, strip_append, hn, strip_one_no, List.append_nil]
theorem strip_le (s : ByteArray) (k : Nat) (h : k ≤ s.size) : (strip (s.data.toList.take k)).length ≤ k := by
  have := strip_len (s.data.toList.take k); rw [take_len s k h] at this; exact this
theorem callFunc_strip (args : Array Value) (w : World) : (callFunc 103 args).run Tryd.prog w = .ok (.enter 103 args) w := by kernel_rfl
theorem keepFn (c : UInt8) (w : World) :
    Calls Tryd.prog 103 #[.int .u8 c.toNat] w fun e w' => e = .returned (.int .u8 (keepB c).toNat) ∧ w = w' := by
  have hb0 := byte_le c
  cases hw : wordB c
  · have H : Hid (keepB c = 32) := Lib.hid (by unfold keepB; rw [hw]; rfl)
    go_enter Tryd.func103, Tryd.ntmps103
    go_wp2_with (go_at_call 104; refine (isWordByte_any c _).mono ?_; rintro e w' ⟨rfl, rfl⟩)
    go_ret
    exact ⟨by rw [H.out]; rfl, rfl⟩
  · have H : Hid (keepB c = c) := Lib.hid (by unfold keepB; rw [hw]; rfl)
    go_enter Tryd.func103, Tryd.ntmps103
    go_wp2_with (go_at_call 104; refine (isWordByte_any c _).mono ?_; rintro e w' ⟨rfl, rfl⟩)
    go_ret
    exact ⟨by rw [H.out]; rfl, rfl⟩
set_option maxHeartbeats 800000 in
theorem implStrip (s : ByteArray) (w : World) (hsh : Sh w) (hs : s.size ≤ 1048576) :
    Calls Tryd.prog 75 #[.string s] w fun e w' => e = .returned (.string (bstr (strip s.data.toList))) ∧ Below w.heap.size w w' := by
  have hl : (s.data.toList.filter fun c => decide (c ≠ 39)).length ≤ 1048576 := by have := List.length_filter_le (fun c => decide (c ≠ 39)) s.data.toList; rw [dlen] at this; omega
  obtain ⟨L, hL⟩ : ∃ L, L = s.data.toList.filter fun c => decide (c ≠ 39) := ⟨_, rfl⟩
  have HS : Hid (L.map keepB = strip s.data.toList) := Lib.hid (by rw [hL]; rfl)
  rw [← hL] at hl
  have HE : Hid ((⟨(Lib.replaceAll s.data.toList (⟨#[39]⟩ : ByteArray).data.toList (⟨#[]⟩ : ByteArray).data.toList).toArray⟩ : ByteArray) = bstr L) := Lib.hid (by
    rw [show (⟨#[39]⟩ : ByteArray).data.toList = [39] from rfl, show (⟨#[]⟩ : ByteArray).data.toList = [] from rfl, replaceAll_one, hL]; rfl)
  clear hL
  have HZ : Hid (s.size + Lib.countB s ⟨#[39]⟩ * (⟨#[]⟩ : ByteArray).size ≤ 140737488355328) := Lib.hid (by
    rw [show (⟨#[]⟩ : ByteArray).size = 0 from rfl, Nat.mul_zero]; omega)
  go_enter Tryd.func75, Tryd.ntmps75
  go_wp2_with fail
  refine (Tryd.strings_ReplaceAll_shaped s ⟨#[39]⟩ ⟨#[]⟩ _ hsh (by omega) (by decide) HZ.out).mono ?_
  rintro e w1 ⟨rfl, hb1⟩
  rw [HE.out]
  go_wp2_with fail
  refine (mapped_any 103 keepB callFunc_strip (Lib.hid keepFn) _ _ (by rw [bstr_size]; exact hl)).mono ?_
  rintro e w2 ⟨rfl, hb2⟩
  rw [bstr_list, HS.out]
  go_wp2
  go_ret
  exact ⟨rfl, hb1.trans (hb2.mono hb1.size)⟩
set_option maxHeartbeats 1600000 in
theorem specStrip (s : ByteArray) (w : World) (hs : s.size ≤ 1048576) :
    Calls Tryd.prog 67 #[.string s] w fun e w' => e = .returned (.string (bstr (strip s.data.toList))) ∧ Below w.heap.size w w' := by
  go_enter Tryd.func67, Tryd.ntmps67
  go_wp2
  go_loopw [3, 4] (fun v i wr => ∃ k : Nat, k ≤ s.size ∧ i = .int .i64 k ∧ Bld 5 w.heap.size w wr v (strip (s.data.toList.take k))) (fun _ i _ => s.size - (intOf i).toNat)
  case atStart => exact ⟨0, Nat.zero_le _, rfl, Bld.empty _ _⟩
  case round =>
    obtain ⟨k, hk, rfl, hb⟩ := hrel
    by_cases hlt : k < s.size
    · have Hle := Lib.hid (strip_le s k hk)
      have hb0 := byte_le s[k]
      cases hw : wordB s[k]
      · cases h1 : ((s[k].toNat : Int) == 32)
        · cases h2 : ((s[k].toNat : Int) != 39)
          · have H : Hid (strip (s.data.toList.take (k + 1)) = strip (s.data.toList.take k)) := Lib.hid (strip_take_no s k hlt (UInt8.toNat_inj.1 (by have := bne_eq_false_iff_eq.1 h2; show s[k].toNat = 39; omega)))
            go_wp2_with (go_at_call 97; refine (l2Word_any s[k] _).mono ?_; rintro e w' ⟨rfl, rfl⟩)
            go_roundw
            case rel => exact ⟨k + 1, by omega, by go_num, by rw [H.out]; exact hb⟩
            case measure => simp [intOf]; omega
          · have H : Hid (strip (s.data.toList.take (k + 1)) = strip (s.data.toList.take k) ++ [32]) := Lib.hid (by
              rw [strip_take s k hlt (by rintro e; rw [e] at h2; revert h2; decide)]; unfold keepB; rw [hw]; rfl)
            go_wp2_with (first
              | (go_at_call 97; refine (l2Word_any s[k] _).mono ?_; rintro e w' ⟨rfl, rfl⟩)
              | (at_builtin; refine wpList_push1 rfl _ _ 42 rfl _ _ Tryd.underlying42 infoB _ _ rfl hb _ 32 rfl ?_ ?_ ?_; (rfl); (have := Hle.out; omega); intro v' w' hb'))
            go_roundw
            case rel => exact ⟨k + 1, by omega, by go_num, by rw [H.out]; exact hb'⟩
            case measure => simp [intOf]; omega
        · have e32 : s[k] = 32 := UInt8.toNat_inj.1 (by have := beq_iff_eq.1 h1; show s[k].toNat = 32; omega)
          have H : Hid (strip (s.data.toList.take (k + 1)) = strip (s.data.toList.take k) ++ [s[k]]) := Lib.hid (by
            rw [strip_take s k hlt (by rw [e32]; decide)]; unfold keepB; rw [hw, e32]; rfl)
          clear e32
          go_wp2_with (first
            | (go_at_call 97; refine (l2Word_any s[k] _).mono ?_; rintro e w' ⟨rfl, rfl⟩)
            | (at_builtin; refine wpList_push1 rfl _ _ 42 rfl _ _ Tryd.underlying42 infoB _ _ rfl hb _ s[k] rfl ?_ ?_ ?_; (rfl); (have := Hle.out; omega); intro v' w' hb'))
          go_roundw
          case rel => exact ⟨k + 1, by omega, by go_num, by rw [H.out]; exact hb'⟩
          case measure => simp [intOf]; omega
      · have H : Hid (strip (s.data.toList.take (k + 1)) = strip (s.data.toList.take k) ++ [s[k]]) := Lib.hid (by
          rw [strip_take s k hlt (word_no_39 hw)]; unfold keepB; rw [hw]; rfl)
        go_wp2_with (first
          | (go_at_call 97; refine (l2Word_any s[k] _).mono ?_; rintro e w' ⟨rfl, rfl⟩)
          | (at_builtin; refine wpList_push1 rfl _ _ 42 rfl _ _ Tryd.underlying42 infoB _ _ rfl hb _ s[k] rfl ?_ ?_ ?_; (rfl); (have := Hle.out; omega); intro v' w' hb'))
        go_roundw
        case rel => exact ⟨k + 1, by omega, by go_num, by rw [H.out]; exact hb'⟩
        case measure => simp [intOf]; omega
    · obtain rfl : k = s.size := by omega
      have ht := text hb
      rw [take_all] at ht hb
      go_wp2
      go_ret
      exact ⟨rfl, hb.bel⟩
theorem implNorm (s : ByteArray) (w : World) (hsh : Sh w) (hs : s.size ≤ 1048576) :
    Calls Tryd.prog 51 #[.string s] w fun e w' => e = .returned (.string (bstr (norm s.data.toList))) ∧ Below w.heap.size w w' := by
  have l1 : (bstr (fold s.data.toList)).size ≤ 1048576 := by rw [bstr_size, fold_length, dlen]; exact hs
  have l2 : (bstr (strip (fold s.data.toList))).size ≤ 1048576 := by
    have := strip_len (fold s.data.toList); rw [fold_length, dlen] at this; rw [bstr_size]; omega
  go_enter Tryd.func51, Tryd.ntmps51
  go_wp2_with fail
  refine (implFoldCase s _ hs).mono ?_
  rintro e w1 ⟨rfl, hb1⟩
  go_wp2_with fail
  refine (implStrip _ _ (hsh.below hb1) l1).mono ?_
  rintro e w2 ⟨rfl, hb2⟩
  rw [bstr_list]
  go_wp2_with fail
  refine (implCollapse _ _ l2).mono ?_
  rintro e w3 ⟨rfl, hb3⟩
  rw [bstr_list]
  go_wp2
  go_ret
  exact ⟨rfl, (hb1.trans (hb2.mono hb1.size)).trans (hb3.mono (Nat.le_trans hb1.size hb2.size))⟩
theorem specNorm (s : ByteArray) (w : World) (hs : s.size ≤ 1048576) :
    Calls Tryd.prog 47 #[.string s] w fun e w' => e = .returned (.string (bstr (norm s.data.toList))) ∧ Below w.heap.size w w' := by
  have l1 : (bstr (fold s.data.toList)).size ≤ 1048576 := by rw [bstr_size, fold_length, dlen]; exact hs
  have l2 : (bstr (strip (fold s.data.toList))).size ≤ 1048576 := by
    have := strip_len (fold s.data.toList); rw [fold_length, dlen] at this; rw [bstr_size]; omega
  go_enter Tryd.func47, Tryd.ntmps47
  go_wp2_with fail
  refine (specFoldCase s _ hs).mono ?_
  rintro e w1 ⟨rfl, hb1⟩
  go_wp2_with fail
  refine (specStrip _ _ l1).mono ?_
  rintro e w2 ⟨rfl, hb2⟩
  rw [bstr_list]
  go_wp2_with fail
  refine (specCollapse _ _ l2).mono ?_
  rintro e w3 ⟨rfl, hb3⟩
  rw [bstr_list]
  go_wp2
  go_ret
  exact ⟨rfl, (hb1.trans (hb2.mono hb1.size)).trans (hb3.mono (Nat.le_trans hb1.size hb2.size))⟩
def isNormal (s : ByteArray) : Bool := isText s && ((bstr (norm s.data.toList)).toList == s.toList)
theorem callFunc_words (args : Array Value) (w : World) : (callFunc 73 args).run Tryd.prog w = .ok (.enter 73 args) w := by kernel_rfl
theorem spaceFn (n : Nat) (w : World) (hn : n ≤ 1114111) :
    Calls Tryd.prog 73 #[.int .i32 n] w fun e w' => e = .returned (.bool (n == 32)) ∧ w = w' := by
  have H : Hid (((n : Int) == 32) = (n == 32)) := Lib.hid (by
    rw [Bool.eq_iff_iff, beq_iff_eq, beq_iff_eq]; omega)
  go_enter Tryd.func73, Tryd.ntmps73
  go_wp2
  go_ret
  exact ⟨by rw [← H.out]; rfl, rfl⟩
/-- The parts between spaces, as a slice that the call builds. -/
theorem implWords (l : List UInt8) (w : World) (ha : ∀ c ∈ l, c.toNat < 128) (hl : l.length ≤ 1048576) :
    Calls Tryd.prog 50 #[.string (bstr l)] w fun e w' => ∃ A, e = .returned (.slice (some ⟨A, 0, none⟩) (flds l).length (flds l).length) ∧ BldG fS 9 w.heap.size w w' (.slice (some ⟨A, 0, none⟩) (flds l).length (flds l).length) ((flds l).map bstr) := by
  have HG := Lib.hid (goFields_flds l ha (fun n => n == 32) (fun n => rfl))
  have hp : PredAtRunes Tryd.prog 73 #[] (fun n => n == 32) w := fun W x hx hb => by
    have := spaceFn x W hx
    exact this.mono fun e w' ⟨h1, h2⟩ => ⟨h1, 0, by rw [← h2]; rfl⟩
  have HP := Lib.hid hp
  clear hp ha
  go_enter Tryd.func50, Tryd.ntmps50
  go_wp2_with fail
  refine (Tryd.strings_FieldsFunc_runes 73 #[] callFunc_words (fun n => n == 32) (bstr l) _ (by rw [bstr_size]; omega) HP.out).mono ?_
  rintro e w1 ⟨A, rfl, hA, ho, hb⟩
  rw [HG.out, List.length_map, List.map_map] at ho
  rw [HG.out, List.length_map]
  have hB : BldG fS 9 w.heap.size w w1 (.slice (some ⟨A, 0, none⟩) (flds l).length (flds l).length) ((flds l).map bstr) := by
    refine ⟨?_, hb, hb.size⟩
    rw [List.length_map, List.map_map]
    exact ho
  clear ho hb hA
  go_wp2
  go_ret
  exact ⟨A, rfl, hB⟩
end Go.Proofs.YtdhdjmeolkobeaaDoor

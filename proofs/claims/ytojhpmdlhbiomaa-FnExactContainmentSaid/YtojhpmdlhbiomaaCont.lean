/-
  Walks of Containment (program and reference). Condition: at most 2^20 elements each, each of at most 2^20 bytes.
-/
import Derived.Test.YtojhpmdlhbiomaaRatio
namespace Go.Proofs.Ytojhpmdlhbiomaa
open Go.RowKit Go.Sort
set_option linter.unusedVariables false
set_option linter.unusedSimpArgs false
set_option maxRecDepth 100000
def cont (a b : List ByteArray) : Int := if sets2 a b = true then rat (1000 * (comG a b : Int)) (min (a.length : Int) b.length) else 0
set_option maxHeartbeats 800000 in
theorem implContainment (a1 a2 : Option Addr) (c1 c2 : Nat) (l1 l2 : List ByteArray) (w : World) (hr1 : RowAt fS w a1 l1) (hr2 : RowAt fS w a2 l2) (h1 : l1.length ≤ 1048576) (h2 : l2.length ≤ 1048576) (z1 : Hid (∀ k (h : k < l1.length), l1[k].size ≤ 1048576)) (z2 : Hid (∀ k (h : k < l2.length), l2[k].size ≤ 1048576)) :
    Calls Try.prog 25 #[.slice a1 l1.length c1, .slice a2 l2.length c2] w fun e w' => e = .returned (.int .i64 (cont l1 l2)) ∧ Below w.heap.size w w' := by
  have HR1 := Lib.hid hr1
  have HR2 := Lib.hid hr2
  clear hr1 hr2
  cases ht : sets2 l1 l2
  · have H : Hid (cont l1 l2 = 0) := Lib.hid (by unfold cont; rw [ht]; rfl)
    have HT := Lib.hid ht
    clear ht
    go_enter Try.func25, Try.ntmps25
    go_wp2_with fail
    refine (implSets a1 a2 c1 c2 l1 l2 _ HR1.out HR2.out (by omega) (by omega) z1 z2).mono ?_
    rintro e w1 ⟨rfl, hb1⟩
    rw [HT.out]
    go_wp2
    go_ret
    exact ⟨by rw [H.out]; rfl, hb1⟩
  · have H : Hid (rat (1000 * (comG l1 l2 : Int)) (min (l1.length : Int) l2.length) = cont l1 l2) := Lib.hid (by unfold cont; rw [ht]; rfl)
    have HT := Lib.hid ht
    clear ht
    have hle := comG_le l1 l2
    obtain ⟨m, hm⟩ : ∃ m, comG l1 l2 = m := ⟨_, rfl⟩
    rw [hm] at hle H
    have HM := Lib.hid hm
    clear hm
    go_enter Try.func25, Try.ntmps25
    go_wp2_with fail
    refine (implSets a1 a2 c1 c2 l1 l2 _ HR1.out HR2.out (by omega) (by omega) z1 z2).mono ?_
    rintro e w1 ⟨rfl, hb1⟩
    rw [HT.out]
    go_wp2_with fail
    refine (overlap_any a1 a2 c1 c2 l1 l2 _ (HR1.out.below hb1) (HR2.out.below hb1) h1 h2).mono ?_
    rintro e w2 ⟨rfl, hb2⟩
    rw [HM.out]
    go_wp2_with fail
    refine (quotient_any _ _ _ (by omega) (by omega) (by omega) (by omega)).mono ?_
    rintro e w3 ⟨rfl, rfl⟩
    go_wp2
    go_ret
    exact ⟨by rw [← H.out]; rfl, hb1.trans (hb2.mono hb1.size)⟩
set_option maxHeartbeats 800000 in
theorem specContainment (a1 a2 : Option Addr) (c1 c2 : Nat) (l1 l2 : List ByteArray) (w : World) (hr1 : RowAt fS w a1 l1) (hr2 : RowAt fS w a2 l2) (h1 : l1.length ≤ 1048576) (h2 : l2.length ≤ 1048576) (z1 : Hid (∀ k (h : k < l1.length), l1[k].size ≤ 1048576)) (z2 : Hid (∀ k (h : k < l2.length), l2[k].size ≤ 1048576)) :
    Calls Try.prog 24 #[.slice a1 l1.length c1, .slice a2 l2.length c2] w fun e w' => e = .returned (.int .i64 (cont l1 l2)) ∧ Below w.heap.size w w' := by
  have HR1 := Lib.hid hr1
  have HR2 := Lib.hid hr2
  clear hr1 hr2
  cases ht : sets2 l1 l2
  · have H : Hid (cont l1 l2 = 0) := Lib.hid (by unfold cont; rw [ht]; rfl)
    have HT := Lib.hid ht
    clear ht
    go_enter Try.func24, Try.ntmps24
    go_wp2_with fail
    refine (specSets a1 a2 c1 c2 l1 l2 _ HR1.out HR2.out (by omega) (by omega) z1 z2).mono ?_
    rintro e w1 ⟨rfl, hb1⟩
    rw [HT.out]
    go_wp2
    go_ret
    exact ⟨by rw [H.out]; rfl, hb1⟩
  · have ht1 : tset l1 = true := by unfold sets2 at ht; rw [Bool.and_eq_true] at ht; exact ht.1
    have H : Hid (rat (1000 * (comG l1 l2 : Int)) (min (l1.length : Int) l2.length) = cont l1 l2) := Lib.hid (by
      unfold cont; rw [ht, if_pos rfl])
    have HT := Lib.hid ht
    have HL := Lib.hid (comL_len (b := l2) ht1)
    clear ht ht1
    have hle := comG_le l1 l2
    obtain ⟨m, hm⟩ : ∃ m, comG l1 l2 = m := ⟨_, rfl⟩
    rw [hm] at hle H HL
    clear hm
    go_enter Try.func24, Try.ntmps24
    go_wp2_with fail
    refine (specSets a1 a2 c1 c2 l1 l2 _ HR1.out HR2.out (by omega) (by omega) z1 z2).mono ?_
    rintro e w1 ⟨rfl, hb1⟩
    rw [HT.out]
    go_wp2_with fail
    refine (specCommon a1 a2 c1 c2 l1 l2 _ (HR1.out.below hb1) (HR2.out.below hb1) h1 h2).mono ?_
    rintro e w2 ⟨b, off, c, rfl, hrow, hcc, hb2⟩
    rw [HL.out]
    clear hrow hcc
    go_wp2_with fail
    refine (l5Ratio_any _ _ _ (by omega) (by omega) (by omega) (by omega)).mono ?_
    rintro e w3 ⟨rfl, rfl⟩
    go_wp2
    go_ret
    exact ⟨by rw [← H.out]; rfl, hb1.trans (hb2.mono hb1.size)⟩
end Go.Proofs.Ytojhpmdlhbiomaa

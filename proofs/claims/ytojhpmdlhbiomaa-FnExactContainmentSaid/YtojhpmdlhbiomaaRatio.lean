/-
  Walks of Dice, Containment (program and reference). Condition: at most 2^20 elements each, each of at most 2^20 bytes.
-/
import Derived.Test.YtojhpmdlhbiomaaSets
import Derived.Test.YtojhpmdlhbiomaaTokset
namespace Go.Proofs.Ytojhpmdlhbiomaa
open Go.RowKit Go.Sort
set_option linter.unusedVariables false
set_option linter.unusedSimpArgs false
set_option maxRecDepth 100000
def rat (n d : Int) : Int := if d = 0 then 1000 else n / d
theorem rat_zero (n : Int) : rat n 0 = 1000 := rfl
theorem rat_pos {n d : Int} (h : ¬ d = 0) : rat n d = n / d := if_neg h
theorem tset_up {l : List ByteArray} (h : tset l = true) : Up (l.map bs) := by
  unfold tset at h
  rw [List.all_eq_true] at h
  have step : ∀ k (h1 : k + 1 < l.length), bs (l[k]'(by omega)) < bs l[k + 1] := by
    intro k h1
    have hk := h (k + 1) (List.mem_range.2 h1)
    unfold tokAt at hk
    simp only [Nat.add_sub_cancel, Bool.and_eq_true, Bool.or_eq_true, decide_eq_true_eq] at hk
    rcases hk.2.2 with h0 | h0
    · omega
    · rw [getD_at h1, getD_at (by omega : k < l.length), less_bs, decide_eq_true_eq] at h0
      exact h0
  have all : ∀ d k (h1 : k + 1 + d < l.length), bs (l[k]'(by omega)) < bs l[k + 1 + d] := by
    intro d
    induction d with
    | zero => intro k h1; exact step k h1
    | succ d ih => intro k h1; exact bs_tr (ih k (by omega)) (step (k + 1 + d) (by omega))
  unfold Up
  rw [List.pairwise_iff_getElem]
  intro i j hi hj hij
  rw [List.length_map] at hi hj
  rw [List.getElem_map, List.getElem_map]
  have := all (j - i - 1) i (by omega)
  have e : i + 1 + (j - i - 1) = j := by omega
  simp only [e] at this
  exact this
theorem comL_len {a b : List ByteArray} (h : tset a = true) : (comL a b).length = comG a b := by
  rw [comL_eq, List.length_map, commonS_len (tset_up h)]; rfl
theorem uniL_len {a b : List ByteArray} (h : tset a = true) (h2 : tset b = true) : (uniL a b).length + comG a b = a.length + b.length := by
  rw [uniL_eq, List.length_map]
  have := uniteS_len (tset_up h) (tset_up h2)
  rw [List.length_map, List.length_map] at this; exact this
theorem comG_le2 (a b : List ByteArray) : comG a b ≤ b.length := by have := interN_le_right (a.map bs) (b.map bs); rw [List.length_map] at this; exact this
theorem quotient_any (n d : Int) (w : World) (h0 : 0 ≤ n) (h1 : n ≤ 4000000000) (h2 : 0 ≤ d) (h3 : d ≤ 4000000000) :
    Calls Try.prog 48 #[.int .i64 n, .int .i64 d] w fun e w' => e = .returned (.int .i64 (rat n d)) ∧ w = w' := by
  by_cases hd : d = 0
  · subst hd
    go_enter Try.func48, Try.ntmps48
    go_wp2
    go_ret
    exact ⟨rfl, rfl⟩
  · have H := Lib.hid (rat_pos (n := n) hd)
    have hb : (d == 0) = false := beq_eq_false_iff_ne.2 hd
    have hd1 : 1 ≤ d := by omega
    clear hd
    go_enter Try.func48, Try.ntmps48
    go_wp2
    go_ret
    exact ⟨by rw [H.out]; rfl, rfl⟩
theorem l5Ratio_any (n d : Int) (w : World) (h0 : 0 ≤ n) (h1 : n ≤ 4000000) (h2 : 0 ≤ d) (h3 : d ≤ 4000000000) :
    Calls Try.prog 46 #[.int .i64 n, .int .i64 d] w fun e w' => e = .returned (.int .i64 (rat (1000 * n) d)) ∧ w = w' := by
  by_cases hd : d = 0
  · subst hd
    go_enter Try.func46, Try.ntmps46
    go_wp2
    go_ret
    exact ⟨rfl, rfl⟩
  · have H := Lib.hid (rat_pos (n := 1000 * n) hd)
    have hb : (d == 0) = false := beq_eq_false_iff_ne.2 hd
    have hd1 : 1 ≤ d := by omega
    clear hd
    go_enter Try.func46, Try.ntmps46
    go_wp2
    go_ret
    exact ⟨by rw [H.out]; rfl, rfl⟩
/-- Both are sets of tokens. -/
def sets2 (a b : List ByteArray) : Bool := tset a && tset b
theorem sets2_no {a : List ByteArray} (b : List ByteArray) (h : tset a = false) : sets2 a b = false := by unfold sets2; rw [h]; rfl
theorem sets2_yes {a : List ByteArray} (b : List ByteArray) (h : tset a = true) : sets2 a b = tset b := by unfold sets2; rw [h]; rfl
theorem specSets (a1 a2 : Option Addr) (c1 c2 : Nat) (l1 l2 : List ByteArray) (w : World) (hr1 : RowAt fS w a1 l1) (hr2 : RowAt fS w a2 l2) (h1 : l1.length ≤ 9223372036854775807) (h2 : l2.length ≤ 9223372036854775807) (z1 : Hid (∀ k (h : k < l1.length), l1[k].size ≤ 1048576)) (z2 : Hid (∀ k (h : k < l2.length), l2[k].size ≤ 1048576)) :
    Calls Try.prog 45 #[.slice a1 l1.length c1, .slice a2 l2.length c2] w fun e w' => e = .returned (.bool (sets2 l1 l2)) ∧ Below w.heap.size w w' := by
  have HR1 := Lib.hid hr1
  have HR2 := Lib.hid hr2
  clear hr1 hr2
  cases ht : tset l1
  · have H := Lib.hid (sets2_no l2 ht)
    have HT := Lib.hid ht
    clear ht
    go_enter Try.func45, Try.ntmps45
    go_wp2_with fail
    refine (specIsTokenSet a1 c1 l1 _ HR1.out h1 z1).mono ?_
    rintro e w1 ⟨rfl, hb1⟩
    rw [HT.out]
    go_wp2
    go_ret
    exact ⟨by rw [H.out]; rfl, hb1⟩
  · have H := Lib.hid (sets2_yes l2 ht)
    have HT := Lib.hid ht
    clear ht
    go_enter Try.func45, Try.ntmps45
    go_wp2_with fail
    refine (specIsTokenSet a1 c1 l1 _ HR1.out h1 z1).mono ?_
    rintro e w1 ⟨rfl, hb1⟩
    rw [HT.out]
    go_wp2_with fail
    refine (specIsTokenSet a2 c2 l2 _ (HR2.out.below hb1) h2 z2).mono ?_
    rintro e w2 ⟨rfl, hb2⟩
    go_wp2
    go_ret
    exact ⟨by rw [H.out]; rfl, hb1.trans (hb2.mono hb1.size)⟩
theorem implSets (a1 a2 : Option Addr) (c1 c2 : Nat) (l1 l2 : List ByteArray) (w : World) (hr1 : RowAt fS w a1 l1) (hr2 : RowAt fS w a2 l2) (h1 : l1.length ≤ 9223372036854775807) (h2 : l2.length ≤ 9223372036854775807) (z1 : Hid (∀ k (h : k < l1.length), l1[k].size ≤ 1048576)) (z2 : Hid (∀ k (h : k < l2.length), l2[k].size ≤ 1048576)) :
    Calls Try.prog 47 #[.slice a1 l1.length c1, .slice a2 l2.length c2] w fun e w' => e = .returned (.bool (sets2 l1 l2)) ∧ Below w.heap.size w w' := by
  have HR1 := Lib.hid hr1
  have HR2 := Lib.hid hr2
  clear hr1 hr2
  cases ht : tset l1
  · have H := Lib.hid (sets2_no l2 ht)
    have HT := Lib.hid ht
    clear ht
    go_enter Try.func47, Try.ntmps47
    go_wp2_with fail
    refine (implIsTokenSet a1 c1 l1 _ HR1.out h1 z1).mono ?_
    rintro e w1 ⟨rfl, hb1⟩
    rw [HT.out]
    go_wp2
    go_ret
    exact ⟨by rw [H.out]; rfl, hb1⟩
  · have H := Lib.hid (sets2_yes l2 ht)
    have HT := Lib.hid ht
    clear ht
    go_enter Try.func47, Try.ntmps47
    go_wp2_with fail
    refine (implIsTokenSet a1 c1 l1 _ HR1.out h1 z1).mono ?_
    rintro e w1 ⟨rfl, hb1⟩
    rw [HT.out]
    go_wp2_with fail
    refine (implIsTokenSet a2 c2 l2 _ (HR2.out.below hb1) h2 z2).mono ?_
    rintro e w2 ⟨rfl, hb2⟩
    go_wp2
    go_ret
    exact ⟨by rw [H.out]; rfl, hb1.trans (hb2.mono hb1.size)⟩
theorem overlap_any (a1 a2 : Option Addr) (c1 c2 : Nat) (l1 l2 : List ByteArray) (w : World) (hr1 : RowAt fS w a1 l1) (hr2 : RowAt fS w a2 l2) (h1 : l1.length ≤ 1048576) (h2 : l2.length ≤ 1048576) :
    Calls Try.prog 49 #[.slice a1 l1.length c1, .slice a2 l2.length c2] w fun e w' => e = .returned (.int .i64 (comG l1 l2)) ∧ Below w.heap.size w w' := by
  have HR1 := Lib.hid hr1
  have HR2 := Lib.hid hr2
  clear hr1 hr2
  go_enter Try.func49, Try.ntmps49
  go_wp2_with fail
  refine (implComG a1 a2 c1 c2 l1 l2 _ HR1.out HR2.out h1 h2).mono ?_
  rintro e w1 ⟨rfl, hb1⟩
  go_wp2
  go_ret
  exact ⟨rfl, hb1⟩
def dice (a b : List ByteArray) : Int := if sets2 a b = true then rat (2000 * (comG a b : Int)) ((a.length : Int) + b.length) else 0
set_option maxHeartbeats 800000 in
theorem implDice (a1 a2 : Option Addr) (c1 c2 : Nat) (l1 l2 : List ByteArray) (w : World) (hr1 : RowAt fS w a1 l1) (hr2 : RowAt fS w a2 l2) (h1 : l1.length ≤ 1048576) (h2 : l2.length ≤ 1048576) (z1 : Hid (∀ k (h : k < l1.length), l1[k].size ≤ 1048576)) (z2 : Hid (∀ k (h : k < l2.length), l2[k].size ≤ 1048576)) :
    Calls Try.prog 27 #[.slice a1 l1.length c1, .slice a2 l2.length c2] w fun e w' => e = .returned (.int .i64 (dice l1 l2)) ∧ Below w.heap.size w w' := by
  have HR1 := Lib.hid hr1
  have HR2 := Lib.hid hr2
  clear hr1 hr2
  cases ht : sets2 l1 l2
  · have H : Hid (dice l1 l2 = 0) := Lib.hid (by unfold dice; rw [ht]; rfl)
    have HT := Lib.hid ht
    clear ht
    go_enter Try.func27, Try.ntmps27
    go_wp2_with fail
    refine (implSets a1 a2 c1 c2 l1 l2 _ HR1.out HR2.out (by omega) (by omega) z1 z2).mono ?_
    rintro e w1 ⟨rfl, hb1⟩
    rw [HT.out]
    go_wp2
    go_ret
    exact ⟨by rw [H.out]; rfl, hb1⟩
  · have H : Hid (rat (2000 * (comG l1 l2 : Int)) ((l1.length : Int) + l2.length) = dice l1 l2) := Lib.hid (by unfold dice; rw [ht]; rfl)
    have HT := Lib.hid ht
    clear ht
    have hle := comG_le l1 l2
    obtain ⟨m, hm⟩ : ∃ m, comG l1 l2 = m := ⟨_, rfl⟩
    rw [hm] at hle H
    have HM := Lib.hid hm
    clear hm
    go_enter Try.func27, Try.ntmps27
    go_wp2_with fail
    refine (implSets a1 a2 c1 c2 l1 l2 _ HR1.out HR2.out (by omega) (by omega) z1 z2).mono ?_
    rintro e w1 ⟨rfl, hb1⟩
    rw [HT.out]
    go_wp2_with fail
    refine (overlap_any a1 a2 c1 c2 l1 l2 _ (HR1.out.below hb1) (HR2.out.below hb1) h1 h2).mono ?_
    rintro e w2 ⟨rfl, hb2⟩
    rw [HM.out]
    go_wp2_with fail
    refine (quotient_any _ _ _ (by omega) (by omega) (by omega) (by omega)).mono ?_
    rintro e w3 ⟨rfl, rfl⟩
    go_wp2
    go_ret
    exact ⟨by rw [← H.out]; rfl, hb1.trans (hb2.mono hb1.size)⟩
set_option maxHeartbeats 800000 in
theorem specDice (a1 a2 : Option Addr) (c1 c2 : Nat) (l1 l2 : List ByteArray) (w : World) (hr1 : RowAt fS w a1 l1) (hr2 : RowAt fS w a2 l2) (h1 : l1.length ≤ 1048576) (h2 : l2.length ≤ 1048576) (z1 : Hid (∀ k (h : k < l1.length), l1[k].size ≤ 1048576)) (z2 : Hid (∀ k (h : k < l2.length), l2[k].size ≤ 1048576)) :
    Calls Try.prog 26 #[.slice a1 l1.length c1, .slice a2 l2.length c2] w fun e w' => e = .returned (.int .i64 (dice l1 l2)) ∧ Below w.heap.size w w' := by
  have HR1 := Lib.hid hr1
  have HR2 := Lib.hid hr2
  clear hr1 hr2
  cases ht : sets2 l1 l2
  · have H : Hid (dice l1 l2 = 0) := Lib.hid (by unfold dice; rw [ht]; rfl)
    have HT := Lib.hid ht
    clear ht
    go_enter Try.func26, Try.ntmps26
    go_wp2_with fail
    refine (specSets a1 a2 c1 c2 l1 l2 _ HR1.out HR2.out (by omega) (by omega) z1 z2).mono ?_
    rintro e w1 ⟨rfl, hb1⟩
    rw [HT.out]
    go_wp2
    go_ret
    exact ⟨by rw [H.out]; rfl, hb1⟩
  · have ht1 : tset l1 = true := by unfold sets2 at ht; rw [Bool.and_eq_true] at ht; exact ht.1
    have H : Hid (rat (1000 * (2 * (comG l1 l2 : Int))) ((l1.length : Int) + l2.length) = dice l1 l2) := Lib.hid (by
      unfold dice; rw [ht, if_pos rfl]; congr 1; omega)
    have HT := Lib.hid ht
    have HL := Lib.hid (comL_len (b := l2) ht1)
    clear ht ht1
    have hle := comG_le l1 l2
    obtain ⟨m, hm⟩ : ∃ m, comG l1 l2 = m := ⟨_, rfl⟩
    rw [hm] at hle H HL
    clear hm
    go_enter Try.func26, Try.ntmps26
    go_wp2_with fail
    refine (specSets a1 a2 c1 c2 l1 l2 _ HR1.out HR2.out (by omega) (by omega) z1 z2).mono ?_
    rintro e w1 ⟨rfl, hb1⟩
    rw [HT.out]
    go_wp2_with fail
    refine (specCommon a1 a2 c1 c2 l1 l2 _ (HR1.out.below hb1) (HR2.out.below hb1) h1 h2).mono ?_
    rintro e w2 ⟨b, off, c, rfl, hrow, hcc, hb2⟩
    rw [HL.out]
    clear hrow hcc
    go_wp2_with fail
    refine (l5Ratio_any _ _ _ (by omega) (by omega) (by omega) (by omega)).mono ?_
    rintro e w3 ⟨rfl, rfl⟩
    go_wp2
    go_ret
    exact ⟨by rw [← H.out]; rfl, hb1.trans (hb2.mono hb1.size)⟩
end Go.Proofs.Ytojhpmdlhbiomaa

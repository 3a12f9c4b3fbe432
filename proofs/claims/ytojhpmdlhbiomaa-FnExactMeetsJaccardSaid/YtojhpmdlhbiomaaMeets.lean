/-
  Walks of MeetsJaccard (program and reference). Condition: at most 2^20 elements together, each of at most 2^20 bytes.
-/
import Derived.Test.YtojhpmdlhbiomaaRatio
import Derived.Test.YtojhpmdlhbiomaaBounds
namespace Go.Proofs.Ytojhpmdlhbiomaa
open Go.RowKit Go.Sort
set_option linter.unusedVariables false
set_option linter.unusedSimpArgs false
set_option maxRecDepth 100000
def meetsG (x y t : Int) : Bool := inB x 0 1000 && inB y 0 1000 && inB t 1 1000
def meets (a b : List ByteArray) (t : Int) : Bool := sets2 a b && (meetsG a.length b.length t && decide (t * ((a.length : Int) + b.length - comG a b) ≤ 1000 * (comG a b : Int)))
theorem meets_no {a b : List ByteArray} (t : Int) (h : sets2 a b = false) : meets a b t = false := by unfold meets; rw [h]; rfl
theorem meets_bad {a b : List ByteArray} {t : Int} (h : meetsG a.length b.length t = false) : meets a b t = false := by unfold meets; rw [h, Bool.false_and, Bool.and_false]
theorem meets_ok {a b : List ByteArray} {t : Int} (h : sets2 a b = true) (h2 : meetsG a.length b.length t = true) : meets a b t = decide (t * ((a.length : Int) + b.length - comG a b) ≤ 1000 * (comG a b : Int)) := by
  unfold meets; rw [h, h2, Bool.true_and, Bool.true_and]
theorem mul_in {t u : Int} (h1 : 1 ≤ t) (h2 : t ≤ 1000) (h3 : 0 ≤ u) (h4 : u ≤ 2000) : 0 ≤ t * u ∧ t * u ≤ 2000000 := by
  refine ⟨Int.mul_nonneg (by omega) h3, ?_⟩
  have h := Int.mul_le_mul h2 h4 h3 (by omega : (0 : Int) ≤ 1000)
  omega
set_option maxHeartbeats 800000 in
theorem specMeets (a1 a2 : Option Addr) (c1 c2 : Nat) (l1 l2 : List ByteArray) (t : Int) (w : World) (hr1 : RowAt fS w a1 l1) (hr2 : RowAt fS w a2 l2) (h1 : l1.length ≤ 1048576) (h2 : l2.length ≤ 1048576) (h12 : l1.length + l2.length ≤ 1048576) (z1 : Hid (∀ k (h : k < l1.length), l1[k].size ≤ 1048576)) (z2 : Hid (∀ k (h : k < l2.length), l2[k].size ≤ 1048576)) :
    Calls Try.prog 28 #[.slice a1 l1.length c1, .slice a2 l2.length c2, .int .i64 t] w fun e w' => e = .returned (.bool (meets l1 l2 t)) ∧ Below w.heap.size w w' := by
  have HR1 := Lib.hid hr1
  have HR2 := Lib.hid hr2
  clear hr1 hr2
  cases ht : sets2 l1 l2
  · have H := Lib.hid (meets_no t ht)
    have HT := Lib.hid ht
    clear ht
    go_enter Try.func28, Try.ntmps28
    go_wp2_with fail
    refine (specSets a1 a2 c1 c2 l1 l2 _ HR1.out HR2.out (by omega) (by omega) z1 z2).mono ?_
    rintro e w1 ⟨rfl, hb1⟩
    rw [HT.out]
    go_wp2
    go_ret
    exact ⟨by rw [H.out]; rfl, hb1⟩
  · cases hg : meetsG l1.length l2.length t
    · have H := Lib.hid (meets_bad hg)
      have HT := Lib.hid ht
      have HG : Hid ((inB l1.length 0 1000 && inB l2.length 0 1000 && inB t 1 1000) = false) := Lib.hid hg
      clear ht hg
      go_enter Try.func28, Try.ntmps28
      go_wp2_with fail
      refine (specSets a1 a2 c1 c2 l1 l2 _ HR1.out HR2.out (by omega) (by omega) z1 z2).mono ?_
      rintro e w1 ⟨rfl, hb1⟩
      rw [HT.out]
      go_wp2_with fail
      refine (l5Good_any _ _ _ _).mono ?_
      rintro e w2 ⟨rfl, rfl⟩
      rw [HG.out]
      go_wp2
      go_ret
      exact ⟨by rw [H.out]; rfl, hb1⟩
    · have H := Lib.hid (meets_ok ht hg)
      have hg2 := hg
      unfold meetsG at hg2
      simp only [Bool.and_eq_true] at hg2
      obtain ⟨⟨g1, g2⟩, g3⟩ := hg2
      obtain ⟨_, p1⟩ := inB_yes g1
      obtain ⟨_, p2⟩ := inB_yes g2
      obtain ⟨t1, t2⟩ := inB_yes g3
      have ht1 : tset l1 = true := by unfold sets2 at ht; rw [Bool.and_eq_true] at ht; exact ht.1
      have ht2 : tset l2 = true := by unfold sets2 at ht; rw [Bool.and_eq_true] at ht; exact ht.2
      have hul := uniL_len ht1 ht2
      have HL := Lib.hid (comL_len (b := l2) ht1)
      have hle := comG_le l1 l2
      have hle2 := comG_le2 l1 l2
      obtain ⟨m, hm⟩ : ∃ m, comG l1 l2 = m := ⟨_, rfl⟩
      obtain ⟨u, hu⟩ : ∃ u, (uniL l1 l2).length = u := ⟨_, rfl⟩
      rw [hm] at hle hle2 H HL hul
      rw [hu] at hul
      have hue : (l1.length : Int) + l2.length - m = (u : Int) := by omega
      rw [hue] at H
      have hmu := mul_in (u := (u : Int)) t1 t2 (by omega) (by omega)
      obtain ⟨q1, q2⟩ := hmu
      have HU := Lib.hid hu
      have HT := Lib.hid ht
      have HG : Hid ((inB l1.length 0 1000 && inB l2.length 0 1000 && inB t 1 1000) = true) := Lib.hid hg
      clear ht hg g1 g2 g3 ht1 ht2 hm hu hue
      go_enter Try.func28, Try.ntmps28
      go_wp2_with fail
      refine (specSets a1 a2 c1 c2 l1 l2 _ HR1.out HR2.out (by omega) (by omega) z1 z2).mono ?_
      rintro e w1 ⟨rfl, hb1⟩
      rw [HT.out]
      go_wp2_with fail
      refine (l5Good_any _ _ _ _).mono ?_
      rintro e w2 ⟨rfl, rfl⟩
      rw [HG.out]
      go_wp2_with fail
      refine (specCommon a1 a2 c1 c2 l1 l2 _ (HR1.out.below hb1) (HR2.out.below hb1) h1 h2).mono ?_
      rintro e w3 ⟨b, off, c, rfl, hrow, hcc, hb3⟩
      rw [HL.out]
      clear hrow hcc
      have hb13 := hb1.trans (hb3.mono hb1.size)
      go_wp2_with fail
      refine (specUnite a1 a2 c1 c2 l1 l2 _ (HR1.out.below hb13) (HR2.out.below hb13) h12).mono ?_
      rintro e w4 ⟨b', off', c', rfl, hrow, hcc, hb4⟩
      rw [HU.out]
      clear hrow hcc
      go_wp2
      go_ret
      exact ⟨by rw [H.out]; rfl, hb13.trans (hb4.mono hb13.size)⟩
theorem meetsG_1 {x y t : Int} (h : inB x 0 1000 = false) : meetsG x y t = false := by unfold meetsG; rw [h]; rfl
theorem meetsG_2 {x y t : Int} (h : inB y 0 1000 = false) : meetsG x y t = false := by unfold meetsG; rw [h, Bool.and_false]; rfl
theorem meetsG_3 {x y t : Int} (h : inB t 1 1000 = false) : meetsG x y t = false := by unfold meetsG; rw [h, Bool.and_false]
set_option maxHeartbeats 800000 in
theorem implMeets (a1 a2 : Option Addr) (c1 c2 : Nat) (l1 l2 : List ByteArray) (t : Int) (w : World) (hr1 : RowAt fS w a1 l1) (hr2 : RowAt fS w a2 l2) (h1 : l1.length ≤ 1048576) (h2 : l2.length ≤ 1048576) (z1 : Hid (∀ k (h : k < l1.length), l1[k].size ≤ 1048576)) (z2 : Hid (∀ k (h : k < l2.length), l2[k].size ≤ 1048576)) :
    Calls Try.prog 29 #[.slice a1 l1.length c1, .slice a2 l2.length c2, .int .i64 t] w fun e w' => e = .returned (.bool (meets l1 l2 t)) ∧ Below w.heap.size w w' := by
  have HR1 := Lib.hid hr1
  have HR2 := Lib.hid hr2
  clear hr1 hr2
  cases ht : sets2 l1 l2
  · have H := Lib.hid (meets_no t ht)
    have HT := Lib.hid ht
    clear ht
    go_enter Try.func29, Try.ntmps29
    go_wp2_with fail
    refine (implSets a1 a2 c1 c2 l1 l2 _ HR1.out HR2.out (by omega) (by omega) z1 z2).mono ?_
    rintro e w1 ⟨rfl, hb1⟩
    rw [HT.out]
    go_wp2
    go_ret
    exact ⟨by rw [H.out]; rfl, hb1⟩
  · have HT := Lib.hid ht
    cases g1 : inB l1.length 0 1000
    · have H := Lib.hid (meets_bad (meetsG_1 (y := l2.length) (t := t) g1))
      have G1 := Lib.hid g1
      clear ht g1
      go_enter Try.func29, Try.ntmps29
      go_wp2_with fail
      refine (implSets a1 a2 c1 c2 l1 l2 _ HR1.out HR2.out (by omega) (by omega) z1 z2).mono ?_
      rintro e w1 ⟨rfl, hb1⟩
      rw [HT.out]
      go_wp2_with fail
      refine (isSize_any _ _).mono ?_
      rintro e w2 ⟨rfl, rfl⟩
      rw [G1.out]
      go_wp2
      go_ret
      exact ⟨by rw [H.out]; rfl, hb1⟩
    · cases g2 : inB l2.length 0 1000
      · have H := Lib.hid (meets_bad (meetsG_2 (x := l1.length) (t := t) g2))
        have G1 := Lib.hid g1
        have G2 := Lib.hid g2
        clear ht g1 g2
        go_enter Try.func29, Try.ntmps29
        go_wp2_with fail
        refine (implSets a1 a2 c1 c2 l1 l2 _ HR1.out HR2.out (by omega) (by omega) z1 z2).mono ?_
        rintro e w1 ⟨rfl, hb1⟩
        rw [HT.out]
        go_wp2_with fail
        refine (isSize_any _ _).mono ?_
        rintro e w2 ⟨rfl, rfl⟩
        rw [G1.out]
        go_wp2_with fail
        refine (isSize_any _ _).mono ?_
        rintro e w3 ⟨rfl, rfl⟩
        rw [G2.out]
        go_wp2
        go_ret
        exact ⟨by rw [H.out]; rfl, hb1⟩
      · cases g3 : inB t 1 1000
        · have H := Lib.hid (meets_bad (a := l1) (b := l2) (meetsG_3 (x := l1.length) (y := l2.length) g3))
          have G1 := Lib.hid g1
          have G2 := Lib.hid g2
          have G3 := Lib.hid g3
          clear ht g1 g2 g3
          go_enter Try.func29, Try.ntmps29
          go_wp2_with fail
          refine (implSets a1 a2 c1 c2 l1 l2 _ HR1.out HR2.out (by omega) (by omega) z1 z2).mono ?_
          rintro e w1 ⟨rfl, hb1⟩
          rw [HT.out]
          go_wp2_with fail
          refine (isSize_any _ _).mono ?_
          rintro e w2 ⟨rfl, rfl⟩
          rw [G1.out]
          go_wp2_with fail
          refine (isSize_any _ _).mono ?_
          rintro e w3 ⟨rfl, rfl⟩
          rw [G2.out]
          go_wp2_with fail
          refine (isThreshold_any _ _).mono ?_
          rintro e w4 ⟨rfl, rfl⟩
          rw [G3.out]
          go_wp2
          go_ret
          exact ⟨by rw [H.out]; rfl, hb1⟩
        · have H := Lib.hid (meets_ok (t := t) ht (by unfold meetsG; rw [g1, g2, g3]; rfl))
          obtain ⟨_, p1⟩ := inB_yes g1
          obtain ⟨_, p2⟩ := inB_yes g2
          obtain ⟨t1, t2⟩ := inB_yes g3
          have G1 := Lib.hid g1
          have G2 := Lib.hid g2
          have G3 := Lib.hid g3
          have hle := comG_le l1 l2
          have hle2 := comG_le2 l1 l2
          obtain ⟨m, hm⟩ : ∃ m, comG l1 l2 = m := ⟨_, rfl⟩
          rw [hm] at hle hle2 H
          have HM := Lib.hid hm
          obtain ⟨q1, q2⟩ := mul_in (u := (l1.length : Int) + l2.length - m) t1 t2 (by omega) (by omega)
          clear ht g1 g2 g3 hm
          go_enter Try.func29, Try.ntmps29
          go_wp2_with fail
          refine (implSets a1 a2 c1 c2 l1 l2 _ HR1.out HR2.out (by omega) (by omega) z1 z2).mono ?_
          rintro e w1 ⟨rfl, hb1⟩
          rw [HT.out]
          go_wp2_with fail
          refine (isSize_any _ _).mono ?_
          rintro e w2 ⟨rfl, rfl⟩
          rw [G1.out]
          go_wp2_with fail
          refine (isSize_any _ _).mono ?_
          rintro e w3 ⟨rfl, rfl⟩
          rw [G2.out]
          go_wp2_with fail
          refine (isThreshold_any _ _).mono ?_
          rintro e w4 ⟨rfl, rfl⟩
          rw [G3.out]
          go_wp2_with fail
          refine (overlap_any a1 a2 c1 c2 l1 l2 _ (HR1.out.below hb1) (HR2.out.below hb1) h1 h2).mono ?_
          rintro e w5 ⟨rfl, hb5⟩
          rw [HM.out]
          go_wp2
          go_ret
          exact ⟨by rw [H.out]; rfl, hb1.trans (hb5.mono hb1.size)⟩
end Go.Proofs.Ytojhpmdlhbiomaa

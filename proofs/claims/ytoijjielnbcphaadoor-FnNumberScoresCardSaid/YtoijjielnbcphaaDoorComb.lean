/-
  Walks of CombineScores (program and reference): the weighted mean of scores. Condition: the slices have at most 2^20 elements.
-/
import Derived.Test.YtoijjielnbcphaaDoorInts
import Derived.Test.YtoijjielnbcphaaDoorWithin
namespace Go.Proofs.YtoijjielnbcphaaDoor
open Go.RowKit
set_option linter.unusedVariables false
set_option linter.unusedSimpArgs false
set_option maxRecDepth 100000

def okP (p : Int × Int) : Bool := inB p.1 0 1000 && inB p.2 0 1000
def sumP (l w : List Int) : Int := ((l.zip w).map fun p => p.1 * p.2).sum
def sumW (l w : List Int) : Int := ((l.zip w).map fun p => p.2).sum
def combAll (l w : List Int) : Int := if sumW l w = 0 then 0 else sumP l w / sumW l w
def comb (l w : List Int) : Int := if l.length = w.length ∧ (l.zip w).all okP = true then combAll l w else 0
theorem comb_bad {l w : List Int} {k : Nat} (h1 : k < l.length) (h2 : k < w.length) (h : okP (l[k], w[k]) = false) : comb l w = 0 := by
  unfold comb
  apply if_neg
  rintro ⟨_, ha⟩
  have hz : k < (l.zip w).length := by simp; omega
  have := List.all_eq_true.1 ha _ (List.getElem_mem hz)
  rw [List.getElem_zip, h] at this
  cases this
theorem zip_take_succ {l w : List Int} {k : Nat} (h1 : k < l.length) (h2 : k < w.length) : (l.take (k + 1)).zip (w.take (k + 1)) = (l.take k).zip (w.take k) ++ [(l[k], w[k])] := by
  rw [List.take_succ_eq_append_getElem h1, List.take_succ_eq_append_getElem h2, List.zip_append (by simp; omega)]
  rfl
theorem sumP_step {l w : List Int} {k : Nat} (h1 : k < l.length) (h2 : k < w.length) : sumP (l.take (k + 1)) (w.take (k + 1)) = sumP (l.take k) (w.take k) + l[k] * w[k] := by
  unfold sumP; rw [zip_take_succ h1 h2]; simp
theorem sumW_step {l w : List Int} {k : Nat} (h1 : k < l.length) (h2 : k < w.length) : sumW (l.take (k + 1)) (w.take (k + 1)) = sumW (l.take k) (w.take k) + w[k] := by
  unfold sumW; rw [zip_take_succ h1 h2]; simp
theorem all_step {l w : List Int} {k : Nat} (h1 : k < l.length) (h2 : k < w.length) (ha : ((l.take k).zip (w.take k)).all okP = true) (h : okP (l[k], w[k]) = true) : ((l.take (k + 1)).zip (w.take (k + 1))).all okP = true := by
  rw [zip_take_succ h1 h2, List.all_append, ha]; simp [h]
theorem mul_1000 {a b : Int} (h1 : 0 ≤ a) (h2 : a ≤ 1000) (h3 : 0 ≤ b) (h4 : b ≤ 1000) : 0 ≤ a * b ∧ a * b ≤ 1000000 :=
  ⟨Int.mul_nonneg h1 h3, Int.mul_le_mul h2 h4 h3 (Int.le_trans h1 h2)⟩
theorem comb_end {l w : List Int} (h : l.length = w.length) (ha : ((l.take l.length).zip (w.take l.length)).all okP = true) : comb l w = combAll l w := by
  unfold comb
  rw [List.take_length, h, List.take_length] at ha
  exact if_pos ⟨h, ha⟩
theorem take_both {l w : List Int} (h : l.length = w.length) : sumP (l.take l.length) (w.take l.length) = sumP l w ∧ sumW (l.take l.length) (w.take l.length) = sumW l w := by
  rw [List.take_length, h, List.take_length]; exact ⟨rfl, rfl⟩

set_option maxHeartbeats 2000000 in
theorem specCombineScores (a1 a2 : Option Addr) (c1 c2 : Nat) (l1 l2 : List Int) (w : World) (hr1 : RowAt fI w a1 l1) (hr2 : RowAt fI w a2 l2) (hl : l1.length ≤ 1048576) (hl2 : l2.length ≤ 1048576) :
    Calls Tryd.prog 47 #[.slice a1 l1.length c1, .slice a2 l2.length c2] w fun e w' => e = .returned (.int .i64 (comb l1 l2)) ∧ Below w.heap.size w w' := by
  by_cases hlen : l1.length = l2.length
  · have e1 : ((l1.length : Int) == (l2.length : Int)) = true := by simp [hlen]
    have e2 : ((l1.length : Int) != (l2.length : Int)) = false := by simp [hlen]
    have Hlen := Lib.hid hlen; clear hlen
    go_enter Tryd.func47, Tryd.ntmps47
    go_wp2
    go_loopw [5, 6, 7] (fun sp sw i wr => ∃ (k : Nat) (p q : Int), k ≤ l1.length ∧ i = .int .i64 k ∧ sp = .int .i64 p ∧ sw = .int .i64 q ∧ p = sumP (l1.take k) (l2.take k) ∧ q = sumW (l1.take k) (l2.take k) ∧ 0 ≤ p ∧ p ≤ 1000000 * k ∧ 0 ≤ q ∧ q ≤ 1000 * k ∧ ((l1.take k).zip (l2.take k)).all okP = true ∧ Below w.heap.size w wr) (fun _ _ i _ => l1.length - (intOf i).toNat)
    case atStart => exact ⟨0, 0, 0, Nat.zero_le _, rfl, rfl, rfl, by simp [sumP], by simp [sumW], by omega, by omega, by omega, by omega, by simp, Below.refl _ _⟩
    case round =>
      obtain ⟨k, p, q, hk, rfl, rfl, rfl, hp, hq, p0, p1, q0, q1, ha, hb⟩ := hrel
      have Hp := Lib.hid hp; clear hp
      have Hq := Lib.hid hq; clear hq
      have Ha := Lib.hid ha; clear ha
      by_cases hlt : k < l1.length
      · have hlt2 : k < l2.length := by have := Hlen.out; omega
        obtain ⟨b1, o1, rfl, hc1⟩ := (hr1.below hb).cell k hlt
        obtain ⟨b2, o2, rfl, hc2⟩ := (hr2.below hb).cell k hlt2
        unfold fI at hc1 hc2
        have k1 : (k : Int) < (l1.length : Int) := by omega
        have k2 : (k : Int) < (l2.length : Int) := by omega
        have Hbad := Lib.hid (fun h => comb_bad (l := l1) (w := l2) (k := k) hlt hlt2 h)
        have Hall := Lib.hid (fun h => all_step hlt hlt2 Ha.out h)
        have Hsp := Lib.hid (sumP_step hlt hlt2)
        have Hsw := Lib.hid (sumW_step hlt hlt2)
        obtain ⟨x, hx⟩ : ∃ x, x = l1[k] := ⟨_, rfl⟩
        obtain ⟨y, hy⟩ : ∃ y, y = l2[k] := ⟨_, rfl⟩
        rw [← hx] at hc1 Hbad Hall Hsp
        rw [← hy] at hc2 Hbad Hall Hsp Hsw
        clear hx hy
        cases i1 : inB x 0 1000
        · have H : Hid (comb l1 l2 = 0) := Lib.hid (Hbad.out (by unfold okP; rw [i1]; rfl))
          go_wp2_with (go_at_call 64; refine (l1In_any _ _ _ _).mono ?_; rintro e w' ⟨rfl, rfl⟩)
          go_ret
          exact ⟨by rw [H.out]; rfl, hb⟩
        cases i2 : inB y 0 1000
        · have H : Hid (comb l1 l2 = 0) := Lib.hid (Hbad.out (by unfold okP; rw [i1, i2]; rfl))
          go_wp2_with (go_at_call 64; refine (l1In_any _ _ _ _).mono ?_; rintro e w' ⟨rfl, rfl⟩)
          go_ret
          exact ⟨by rw [H.out]; rfl, hb⟩
        have Hall2 := Lib.hid (Hall.out (by unfold okP; rw [i1, i2]; rfl))
        obtain ⟨x0, x1⟩ := inB_yes i1
        obtain ⟨y0, y1⟩ := inB_yes i2
        obtain ⟨m0, m1⟩ := mul_1000 x0 x1 y0 y1
        go_wp2_with (go_at_call 64; refine (l1In_any _ _ _ _).mono ?_; rintro e w' ⟨rfl, rfl⟩)
        have mw : IntKind.i64.wrap (x * y) = x * y := IntWalk.i64_in _ (by omega)
        have aw : IntKind.i64.wrap (p + x * y) = p + x * y := IntWalk.i64_in _ (by omega)
        try (go_quiet (fail); clear mw aw; go_wp2)
        go_roundw
        case rel => exact ⟨k + 1, _, _, by omega, by go_num, rfl, rfl, by rw [Hsp.out, ← Hp.out], by rw [Hsw.out, ← Hq.out], by omega, by omega, by omega, by omega, Hall2.out, by first | exact hb | exact hb.trans ((below_drewN _ _).mono hb.size)⟩
        case measure => simp [intOf]; omega
      · obtain rfl : k = l1.length := by omega
        have H := Lib.hid (comb_end Hlen.out Ha.out)
        have Ht := Lib.hid (take_both Hlen.out)
        by_cases hz : q = 0
        · have H2 : Hid (comb l1 l2 = 0) := Lib.hid (by rw [H.out]; unfold combAll; rw [if_pos (by rw [← Ht.out.2, ← Hq.out]; exact hz)])
          subst hz
          go_wp2
          go_ret
          exact ⟨by rw [H2.out]; rfl, hb⟩
        · have H2 : Hid (comb l1 l2 = p / q) := Lib.hid (by rw [H.out]; unfold combAll; rw [← Ht.out.2, ← Ht.out.1, ← Hq.out, ← Hp.out, if_neg hz])
          have hz0 : 1 ≤ q := by omega
          obtain ⟨z1, z2⟩ := neI hz
          go_wp2
          go_ret
          exact ⟨by rw [H2.out]; rfl, hb⟩
  · have e1 : ((l1.length : Int) == (l2.length : Int)) = false := by simp; omega
    have e2 : ((l1.length : Int) != (l2.length : Int)) = true := by simp; omega
    have Hn : Hid (comb l1 l2 = 0) := Lib.hid (by unfold comb; exact if_neg fun h => hlen h.1)
    clear hlen
    go_enter Tryd.func47, Tryd.ntmps47
    go_wp2
    go_ret
    exact ⟨by rw [Hn.out]; rfl, Below.refl _ _⟩
set_option maxHeartbeats 2000000 in
theorem implCombineScores (a1 a2 : Option Addr) (c1 c2 : Nat) (l1 l2 : List Int) (w : World) (hr1 : RowAt fI w a1 l1) (hr2 : RowAt fI w a2 l2) (hl : l1.length ≤ 1048576) (hl2 : l2.length ≤ 1048576) :
    Calls Tryd.prog 46 #[.slice a1 l1.length c1, .slice a2 l2.length c2] w fun e w' => e = .returned (.int .i64 (comb l1 l2)) ∧ Below w.heap.size w w' := by
  by_cases hlen : l1.length = l2.length
  · have e1 : ((l1.length : Int) == (l2.length : Int)) = true := by simp [hlen]
    have e2 : ((l1.length : Int) != (l2.length : Int)) = false := by simp [hlen]
    have Hlen := Lib.hid hlen; clear hlen
    go_enter Tryd.func46, Tryd.ntmps46
    go_wp2
    go_loopw [5, 6, 16] (fun sp sw i wr => ∃ (k : Nat) (p q : Int), k ≤ l1.length ∧ i = .int .i64 k ∧ sp = .int .i64 p ∧ sw = .int .i64 q ∧ p = sumP (l1.take k) (l2.take k) ∧ q = sumW (l1.take k) (l2.take k) ∧ 0 ≤ p ∧ p ≤ 1000000 * k ∧ 0 ≤ q ∧ q ≤ 1000 * k ∧ ((l1.take k).zip (l2.take k)).all okP = true ∧ Below w.heap.size w wr) (fun _ _ i _ => l1.length - (intOf i).toNat)
    case atStart => exact ⟨0, 0, 0, Nat.zero_le _, rfl, rfl, rfl, by simp [sumP], by simp [sumW], by omega, by omega, by omega, by omega, by simp, Below.refl _ _⟩
    case round =>
      obtain ⟨k, p, q, hk, rfl, rfl, rfl, hp, hq, p0, p1, q0, q1, ha, hb⟩ := hrel
      have Hp := Lib.hid hp; clear hp
      have Hq := Lib.hid hq; clear hq
      have Ha := Lib.hid ha; clear ha
      by_cases hlt : k < l1.length
      · have hlt2 : k < l2.length := by have := Hlen.out; omega
        obtain ⟨b1, o1, rfl, hc1⟩ := (hr1.below hb).cell k hlt
        obtain ⟨b2, o2, rfl, hc2⟩ := (hr2.below hb).cell k hlt2
        unfold fI at hc1 hc2
        have k1 : (k : Int) < (l1.length : Int) := by omega
        have k2 : (k : Int) < (l2.length : Int) := by omega
        have Hbad := Lib.hid (fun h => comb_bad (l := l1) (w := l2) (k := k) hlt hlt2 h)
        have Hall := Lib.hid (fun h => all_step hlt hlt2 Ha.out h)
        have Hsp := Lib.hid (sumP_step hlt hlt2)
        have Hsw := Lib.hid (sumW_step hlt hlt2)
        obtain ⟨x, hx⟩ : ∃ x, x = l1[k] := ⟨_, rfl⟩
        obtain ⟨y, hy⟩ : ∃ y, y = l2[k] := ⟨_, rfl⟩
        rw [← hx] at hc1 Hbad Hall Hsp
        rw [← hy] at hc2 Hbad Hall Hsp Hsw
        clear hx hy
        cases i1 : inB x 0 1000
        · have H : Hid (comb l1 l2 = 0) := Lib.hid (Hbad.out (by unfold okP; rw [i1]; rfl))
          go_wp2_with (go_at_call 61; refine (within_any _ _ _ _).mono ?_; rintro e w' ⟨rfl, rfl⟩)
          go_ret
          exact ⟨by rw [H.out]; rfl, hb⟩
        cases i2 : inB y 0 1000
        · have H : Hid (comb l1 l2 = 0) := Lib.hid (Hbad.out (by unfold okP; rw [i1, i2]; rfl))
          go_wp2_with (go_at_call 61; refine (within_any _ _ _ _).mono ?_; rintro e w' ⟨rfl, rfl⟩)
          go_ret
          exact ⟨by rw [H.out]; rfl, hb⟩
        have Hall2 := Lib.hid (Hall.out (by unfold okP; rw [i1, i2]; rfl))
        obtain ⟨x0, x1⟩ := inB_yes i1
        obtain ⟨y0, y1⟩ := inB_yes i2
        obtain ⟨m0, m1⟩ := mul_1000 x0 x1 y0 y1
        go_wp2_with (go_at_call 61; refine (within_any _ _ _ _).mono ?_; rintro e w' ⟨rfl, rfl⟩)
        have mw : IntKind.i64.wrap (x * y) = x * y := IntWalk.i64_in _ (by omega)
        have aw : IntKind.i64.wrap (p + x * y) = p + x * y := IntWalk.i64_in _ (by omega)
        try (go_quiet (fail); clear mw aw; go_wp2)
        go_roundw
        case rel => exact ⟨k + 1, _, _, by omega, by go_num, rfl, rfl, by rw [Hsp.out, ← Hp.out], by rw [Hsw.out, ← Hq.out], by omega, by omega, by omega, by omega, Hall2.out, by first | exact hb | exact hb.trans ((below_drewN _ _).mono hb.size)⟩
        case measure => simp [intOf]; omega
      · obtain rfl : k = l1.length := by omega
        have H := Lib.hid (comb_end Hlen.out Ha.out)
        have Ht := Lib.hid (take_both Hlen.out)
        by_cases hz : q = 0
        · have H2 : Hid (comb l1 l2 = 0) := Lib.hid (by rw [H.out]; unfold combAll; rw [if_pos (by rw [← Ht.out.2, ← Hq.out]; exact hz)])
          subst hz
          go_wp2
          go_ret
          exact ⟨by rw [H2.out]; rfl, hb⟩
        · have H2 : Hid (comb l1 l2 = p / q) := Lib.hid (by rw [H.out]; unfold combAll; rw [← Ht.out.2, ← Ht.out.1, ← Hq.out, ← Hp.out, if_neg hz])
          have hz0 : 1 ≤ q := by omega
          obtain ⟨z1, z2⟩ := neI hz
          go_wp2
          go_ret
          exact ⟨by rw [H2.out]; rfl, hb⟩
  · have e1 : ((l1.length : Int) == (l2.length : Int)) = false := by simp; omega
    have e2 : ((l1.length : Int) != (l2.length : Int)) = true := by simp; omega
    have Hn : Hid (comb l1 l2 = 0) := Lib.hid (by unfold comb; exact if_neg fun h => hlen h.1)
    clear hlen
    go_enter Tryd.func46, Tryd.ntmps46
    go_wp2
    go_ret
    exact ⟨by rw [Hn.out]; rfl, Below.refl _ _⟩
end Go.Proofs.YtoijjielnbcphaaDoor

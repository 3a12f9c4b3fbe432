/-
  Walk of the program's table of edit distances. Condition: the strings have at most 2^20 bytes.
-/
import Derived.Test.YtoijjielnbcphaaTab
import Derived.StillTailTactics
import Derived.Deep.QuietTactic
import Derived.BigQuiet
namespace Go.Proofs.Ytoijjielnbcphaa
open Go.RowKit
set_option linter.unusedVariables false
set_option linter.unusedSimpArgs false
set_option maxRecDepth 100000

set_option maxRecDepth 100000 in
set_option maxHeartbeats 4000000 in
theorem implDistances (a b : ByteArray) (sw : Bool) (w : World) (ha : a.size ≤ 1048576) (hbs : b.size ≤ 1048576) :
    Calls Try.prog 43 #[.string a, .string b, .bool sw] w fun e w' => e = .returned (.slice (some ⟨w.heap.size, 0, none⟩) (a.size + 1) (a.size + 1)) ∧ Below w.heap.size w w' ∧ IsTab w' w.heap.size (a.size + 1) (b.size + 1) (D sw a.data.toList b.data.toList) := by
  obtain ⟨R, hR⟩ : ∃ R, R = a.size + 1 := ⟨_, rfl⟩
  obtain ⟨C, hC⟩ : ∃ C, C = b.size + 1 := ⟨_, rfl⟩
  rw [← hR, ← hC]
  have rR : (a.size : Int) + 1 = (R : Int) := by omega
  have rC : (b.size : Int) + 1 = (C : Int) := by omega
  have mT := makeTop R (by omega)
  have R0 : R ≤ 1048577 := by omega
  have C0 : C ≤ 1048577 := by omega
  have HR := Lib.hid hR; have HC := Lib.hid hC; clear hR hC
  have hO0 := tabO_start w R C (D sw a.data.toList b.data.toList)
  go_enter Try.func43, Try.ntmps43
  go_wp2
  clear mT
  go_loopw [17] (fun i wr => ∃ c : Nat, c ≤ R ∧ i = .int .i64 c ∧ TabO w wr R C c (D sw a.data.toList b.data.toList)) (fun i _ => R - (intOf i).toNat)
  case atStart => exact ⟨0, Nat.zero_le _, rfl, hO0⟩
  case round =>
    obtain ⟨c, hc, rfl, hO⟩ := hrel
    clear hO0 rR
    by_cases hlt : c < R
    · have k1 : (c : Int) < (R : Int) := by omega
      have hsize := hO.size
      have mR := makeRow C (by have := HC.out; omega)
      have hst1 : ∀ o, (wr.alloc o).cell? ⟨w.heap.size, c, none⟩ = some (fTop w.heap.size C c c) := fun o => (hO.top.alloc o).cell hlt
      have hst2 : ∀ o, (wr.alloc o).frozen? ⟨w.heap.size, c, none⟩ = false := fun o => (hO.top.alloc o).frozen c
      have hI0 := tabI_start hO
      have hst3 : ((wr.alloc (.cells (madeCells #[.int .i64 0] C) 3)).setCell ⟨w.heap.size, c, none⟩ (.slice (some ⟨w.heap.size + 1 + c, 0, none⟩) C C)).cell? ⟨w.heap.size, c, none⟩ = some (.slice (some ⟨w.heap.size + 1 + c, 0, none⟩) C C) := hI0.head hlt (Nat.le_refl _)
      go_wp2
      clear hst1 hst2 hst3 mR hsize
      go_loopw [32] (fun v wi => ∃ (m : Nat) (f : Nat → Value), m ≤ C ∧ v = .int .i64 m ∧ TabI w wi R C c (D sw a.data.toList b.data.toList) f ∧ ∀ r, r < m → f r = .int .i64 (D sw a.data.toList b.data.toList c r)) (fun i _ => C - (intOf i).toNat)
      case atStart => exact ⟨0, _, Nat.zero_le _, rfl, hI0, by omega⟩
      case round =>
        obtain ⟨m, f, hm, rfl, hI, hf⟩ := hrel
        clear hI0 rC hO
        have Hf := Lib.hid hf; clear hf
        by_cases hlm : m < C
        · have k2 : (m : Int) < (C : Int) := by omega
          have g1 := hI.head hlt (Nat.le_refl _)
          have g2 := hI.cur.cell hlm
          have g3 := hI.cur.frozen m
          by_cases hc0 : c = 0
          · have z1 : ((c : Int) == 0) = true := by simp [hc0]
            have Hc := Lib.hid hc0; clear hc0
            go_wp2
            go_roundw
            case rel => exact ⟨m + 1, _, by omega, by go_num, hI.set m _, by
              intro r hr
              by_cases e : r = m
              · subst e; simp [Hc.out, D_zero]
              · rw [if_neg e]; exact Hf.out r (by omega)⟩
            case measure => simp [intOf]; omega
          have z1 : ((c : Int) == 0) = false := by simp; omega
          by_cases hm0 : m = 0
          · have z2 : ((m : Int) == 0) = true := by simp [hm0]
            have Hc := Lib.hid hm0; clear hm0
            go_wp2
            go_roundw
            case rel => exact ⟨m + 1, _, by omega, by go_num, hI.set m _, by
              intro r hr
              by_cases e : r = m
              · subst e; simp [Hc.out, D_left]
              · rw [if_neg e]; exact Hf.out r (by omega)⟩
            case measure => simp [intOf]; omega
          have z2 : ((m : Int) == 0) = false := by simp; omega
          obtain ⟨p, hp⟩ : ∃ p, c = p + 1 := ⟨c - 1, by omega⟩
          obtain ⟨q, hq⟩ : ∃ q, m = q + 1 := ⟨m - 1, by omega⟩
          have Hp := Lib.hid hp; have Hq := Lib.hid hq
          have r1 : (c : Int) - 1 = (p : Int) := by omega
          have r2 : (m : Int) - 1 = (q : Int) := by omega
          have r3 : IntKind.i64.wrap (p : Int) = (p : Int) := IntWalk.i64_in _ (by omega)
          have r4 : IntKind.i64.wrap (q : Int) = (q : Int) := IntWalk.i64_in _ (by omega)
          have b1 : (p : Int) < (a.size : Int) := by have := HR.out; omega
          have b2 : (q : Int) < (b.size : Int) := by have := HC.out; omega
          have b3 : (p : Int) < (R : Int) := by omega
          have b4 : (q : Int) < (C : Int) := by omega
          have l1 := D_le (sw := sw) (a := a.data.toList) (b := b.data.toList) p m
          have l2 := D_le (sw := sw) (a := a.data.toList) (b := b.data.toList) p q
          have l3 := D_le (sw := sw) (a := a.data.toList) (b := b.data.toList) c q
          obtain ⟨x, hx⟩ : ∃ x, x = D sw a.data.toList b.data.toList p m := ⟨_, rfl⟩
          obtain ⟨y, hy⟩ : ∃ y, y = D sw a.data.toList b.data.toList p q := ⟨_, rfl⟩
          obtain ⟨z, hz⟩ : ∃ z, z = D sw a.data.toList b.data.toList c q := ⟨_, rfl⟩
          rw [← hx] at l1; rw [← hy] at l2; rw [← hz] at l3
          have Hx := Lib.hid hx; have Hy := Lib.hid hy; have Hz := Lib.hid hz
          clear hx hy hz hp hq
          have HaR := HR.out; have HbC := HC.out
          have lx : x ≤ 3000000 := by omega
          have ly : y ≤ 3000000 := by omega
          have lz : z ≤ 3000000 := by omega
          clear l1 l2 l3 HaR HbC
          have wx : IntKind.i64.wrap ((x : Int) + 1) = (x : Int) + 1 := IntWalk.i64_in _ (by omega)
          have wy : IntKind.i64.wrap ((y : Int) + 1) = (y : Int) + 1 := IntWalk.i64_in _ (by omega)
          have wy0 : IntKind.i64.wrap (y : Int) = (y : Int) := IntWalk.i64_in _ (by omega)
          have wz : IntKind.i64.wrap ((z : Int) + 1) = (z : Int) + 1 := IntWalk.i64_in _ (by omega)
          obtain ⟨t1, ht1⟩ : ∃ t1 : Nat, t1 = min (x + 1) (z + 1) := ⟨_, rfl⟩
          have Ht1 := Lib.hid ht1; clear ht1
          by_cases heq : a.data.toList.getD p 0 = b.data.toList.getD q 0
          · have eqab := bytesEq (by omega) (by omega) heq
            obtain ⟨t, ht⟩ : ∃ t : Nat, t = min t1 y := ⟨_, rfl⟩
            have hm3 : (if (y : Int) < (if z < x then (z : Int) + 1 else (x : Int) + 1) then (y : Int) else (if z < x then (z : Int) + 1 else (x : Int) + 1)) = (t : Int) := by
              have := Ht1.out; split <;> split <;> omega
            have Hm3 := Lib.hid hm3; clear hm3
            have Ht : Hid (t = low3 sw a.data.toList b.data.toList p q) := Lib.hid (by unfold low3 cost; rw [if_pos heq, ht, Ht1.out, Hx.out, Hy.out, Hz.out, Hp.out, Hq.out]; simp)
            have lt : t ≤ 3000001 := by omega
            clear ht heq
            go_wp2
            go_quiet (fail)
            have hI2 := hI.drewN nq
            generalize hw2 : wr.drewN nq = w2
            rw [hw2] at hI2
            clear hw2 hI g1 g2 g3
            go_wp2
            have g1 := hI2.head hlt (Nat.le_refl _)
            have g2 := hI2.cur.cell hlm
            have g3 := hI2.cur.frozen m
            have g4 := hI2.head (i := p) (by omega) (by omega)
            have g5 := hI2.cell (i := p) (j := m) (by omega) hlm
            have g6 := hI2.cell (i := p) (j := q) (by omega) (by omega)
            have g7 := hI2.cur.cell (i := q) (by omega)
            rw [Hf.out q (by omega)] at g7
            rw [← Hx.out] at g5; rw [← Hy.out] at g6; rw [← Hz.out] at g7
            go_still_tail 36, (by kernel_rfl)
            rw [Hm3.out]
            change wpList _ _ _ _ _ w2.drew
            have hI3 := hI2.drew
            generalize hw3 : w2.drew = w3
            rw [hw3] at hI3
            clear hw3 hI2 g1 g2 g3 g4 g5 g6 g7
            have g1 := hI3.head hlt (Nat.le_refl _)
            have g2 := hI3.cur.cell hlm
            have g3 := hI3.cur.frozen m
            go_wp2
            have hI4 := hI3.set m (.int .i64 t)
            generalize hw4 : w3.setCell { block := w.heap.size + 1 + c, off := m } (Value.int IntKind.i64 (t : Int)) = w4
            rw [hw4] at hI4
            clear hw4 hI3 g1 g2 g3
            have hF : ∀ v : Nat, D sw a.data.toList b.data.toList c m = v → (∀ r, r < m + 1 → (if r = m then .int .i64 (v : Int) else f r) = Value.int .i64 (D sw a.data.toList b.data.toList c r)) := by
              intro v hv r hr
              by_cases e : r = m
              · subst e; rw [if_pos rfl, hv]
              · rw [if_neg e]; exact Hf.out r (by omega)
            have HF := Lib.hid hF; clear hF
            have Hno : Hid (¬ swapAt sw a.data.toList b.data.toList p q = true → D sw a.data.toList b.data.toList c m = t) := Lib.hid (fun h => by rw [Hp.out, Hq.out, D_succ, if_neg h, Ht.out])
            cases sw
            · go_wp2
              go_quiet (fail)
              go_wp2
              go_roundw
              case rel => exact ⟨m + 1, _, by omega, by go_num, hI4.drewN _, HF.out t (Hno.out (by simp [swapAt]))⟩
              case measure => simp [intOf]; omega
            by_cases hp1 : 1 ≤ p
            case neg =>
              have d1 : decide ((1 : Int) < (c : Int)) = false := by have := Hp.out; simp; omega
              go_wp2
              go_quiet (fail)
              go_wp2
              go_roundw
              case rel => exact ⟨m + 1, _, by omega, by go_num, hI4.drewN _, HF.out t (Hno.out (fun h => hp1 (swap_pos h).1))⟩
              case measure => simp [intOf]; omega
            by_cases hq1 : 1 ≤ q
            case neg =>
              have d1 : (1 : Int) < (c : Int) := by have := Hp.out; omega
              have d2 : decide ((1 : Int) < (m : Int)) = false := by have := Hq.out; simp; omega
              go_wp2
              go_quiet (fail)
              go_wp2
              go_roundw
              case rel => exact ⟨m + 1, _, by omega, by go_num, hI4.drewN _, HF.out t (Hno.out (fun h => hq1 (swap_pos h).2))⟩
              case measure => simp [intOf]; omega
            have d1 : (1 : Int) < (c : Int) := by have := Hp.out; omega
            have d2 : (1 : Int) < (m : Int) := by have := Hq.out; omega
            obtain ⟨p2, hp2⟩ : ∃ p2, p2 = p - 1 := ⟨_, rfl⟩
            obtain ⟨q2, hq2⟩ : ∃ q2, q2 = q - 1 := ⟨_, rfl⟩
            have s1 : (c : Int) - 2 = (p2 : Int) := by have := Hp.out; omega
            have s2 : (m : Int) - 2 = (q2 : Int) := by have := Hq.out; omega
            have s3 : IntKind.i64.wrap (p2 : Int) = (p2 : Int) := IntWalk.i64_in _ (by omega)
            have s4 : IntKind.i64.wrap (q2 : Int) = (q2 : Int) := IntWalk.i64_in _ (by omega)
            have c1 : (p2 : Int) < (a.size : Int) := by omega
            have c2 : (q2 : Int) < (b.size : Int) := by omega
            have c3 : (p2 : Int) < (R : Int) := by omega
            have c4 : (q2 : Int) < (C : Int) := by omega
            have Hp2 := Lib.hid hp2; have Hq2 := Lib.hid hq2; clear hp2 hq2
            by_cases e1 : a.data.toList.getD p 0 = b.data.toList.getD q2 0
            case neg =>
              have e1b := bytesNe (by omega) (by omega) e1
              have H1 := Lib.hid e1; clear e1
              go_wp2
              go_quiet (fail)
              go_wp2
              go_roundw
              case rel => exact ⟨m + 1, _, by omega, by go_num, hI4.drewN _, HF.out t (Hno.out (swap_n1 (by rw [← Hq2.out]; exact H1.out)))⟩
              case measure => simp [intOf]; omega
            have e1b := bytesEq (by omega) (by omega) e1
            have H1 := Lib.hid e1; clear e1
            by_cases e2 : a.data.toList.getD p2 0 = b.data.toList.getD q 0
            case neg =>
              have e2b := bytesNe (by omega) (by omega) e2
              have H2 := Lib.hid e2; clear e2
              go_wp2
              go_quiet (fail)
              go_wp2
              go_roundw
              case rel => exact ⟨m + 1, _, by omega, by go_num, hI4.drewN _, HF.out t (Hno.out (swap_n2 (by rw [← Hp2.out]; exact H2.out)))⟩
              case measure => simp [intOf]; omega
            have e2b := bytesEq (by omega) (by omega) e2
            have H2 := Lib.hid e2; clear e2
            have Hsw : Hid (swapAt true a.data.toList b.data.toList p q = true) := Lib.hid (swap_all rfl hp1 hq1 (by rw [← Hq2.out]; exact H1.out) (by rw [← Hp2.out]; exact H2.out))
            go_wp2
            go_quiet (fail)
            have hI5 := hI4.drewN nq
            generalize hw5 : w4.drewN nq = w5
            rw [hw5] at hI5
            clear hw5 hI4 e1b e2b
            go_wp2
            have g1 := hI5.head hlt (Nat.le_refl _)
            have g2 := hI5.cur.cell hlm
            rw [if_pos rfl] at g2
            have g3 := hI5.cur.frozen m
            have g4 := hI5.head (i := p2) (by omega) (by omega)
            have g5 := hI5.cell (i := p2) (j := q2) (by omega) (by omega)
            have l5 := D_le (sw := true) (a := a.data.toList) (b := b.data.toList) p2 q2
            obtain ⟨v, hv⟩ : ∃ v, v = D true a.data.toList b.data.toList p2 q2 := ⟨_, rfl⟩
            rw [← hv] at g5 l5
            have Hv := Lib.hid hv; clear hv
            have lv : v ≤ 3000000 := by omega
            clear l5
            have wv : IntKind.i64.wrap ((v : Int) + 1) = (v : Int) + 1 := IntWalk.i64_in _ (by omega)
            obtain ⟨t2, ht2⟩ : ∃ t2 : Nat, t2 = min t (v + 1) := ⟨_, rfl⟩
            have hm4 : (if (v : Int) + 1 < (t : Int) then (v : Int) + 1 else (t : Int)) = (t2 : Int) := by split <;> omega
            have Hm4 := Lib.hid hm4
            have Ht2 : Hid (t2 = D true a.data.toList b.data.toList c m) := Lib.hid (by rw [Hp.out, Hq.out, D_succ, if_pos Hsw.out, ht2, Ht.out, Hv.out, Hp2.out, Hq2.out])
            clear hm4 ht2
            go_still_tail 24, (by kernel_rfl)
            rw [Hm4.out]
            change wpList _ _ _ _ _ w5.drew
            have hI6 := hI5.drew
            generalize hw6 : w5.drew = w6
            rw [hw6] at hI6
            clear hw6 hI5 g1 g2 g3 g4 g5
            have g1 := hI6.head hlt (Nat.le_refl _)
            have g2 := hI6.cur.cell hlm
            have g3 := hI6.cur.frozen m
            go_wp2
            go_roundw
            case rel => exact ⟨m + 1, _, by omega, by go_num, hI6.set m _, by
              intro r hr
              by_cases e : r = m
              · subst e; simp [Ht2.out]
              · rw [if_neg e, if_neg e]; exact Hf.out r (by omega)⟩
            case measure => simp [intOf]; omega
          · have eqab := bytesNe (by omega) (by omega) heq
            obtain ⟨t, ht⟩ : ∃ t : Nat, t = min t1 (y + 1) := ⟨_, rfl⟩
            have hm3 : (if (y : Int) + 1 < (if z < x then (z : Int) + 1 else (x : Int) + 1) then (y : Int) + 1 else (if z < x then (z : Int) + 1 else (x : Int) + 1)) = (t : Int) := by
              have := Ht1.out; split <;> split <;> omega
            have Hm3 := Lib.hid hm3; clear hm3
            have Ht : Hid (t = low3 sw a.data.toList b.data.toList p q) := Lib.hid (by unfold low3 cost; rw [if_neg heq, ht, Ht1.out, Hx.out, Hy.out, Hz.out, Hp.out, Hq.out])
            have lt : t ≤ 3000001 := by omega
            clear ht heq
            go_wp2
            go_quiet (fail)
            have hI2 := hI.drewN nq
            generalize hw2 : wr.drewN nq = w2
            rw [hw2] at hI2
            clear hw2 hI g1 g2 g3
            go_wp2
            have g1 := hI2.head hlt (Nat.le_refl _)
            have g2 := hI2.cur.cell hlm
            have g3 := hI2.cur.frozen m
            have g4 := hI2.head (i := p) (by omega) (by omega)
            have g5 := hI2.cell (i := p) (j := m) (by omega) hlm
            have g6 := hI2.cell (i := p) (j := q) (by omega) (by omega)
            have g7 := hI2.cur.cell (i := q) (by omega)
            rw [Hf.out q (by omega)] at g7
            rw [← Hx.out] at g5; rw [← Hy.out] at g6; rw [← Hz.out] at g7
            go_still_tail 36, (by kernel_rfl)
            rw [Hm3.out]
            change wpList _ _ _ _ _ w2.drew
            have hI3 := hI2.drew
            generalize hw3 : w2.drew = w3
            rw [hw3] at hI3
            clear hw3 hI2 g1 g2 g3 g4 g5 g6 g7
            have g1 := hI3.head hlt (Nat.le_refl _)
            have g2 := hI3.cur.cell hlm
            have g3 := hI3.cur.frozen m
            go_wp2
            have hI4 := hI3.set m (.int .i64 t)
            generalize hw4 : w3.setCell { block := w.heap.size + 1 + c, off := m } (Value.int IntKind.i64 (t : Int)) = w4
            rw [hw4] at hI4
            clear hw4 hI3 g1 g2 g3
            have hF : ∀ v : Nat, D sw a.data.toList b.data.toList c m = v → (∀ r, r < m + 1 → (if r = m then .int .i64 (v : Int) else f r) = Value.int .i64 (D sw a.data.toList b.data.toList c r)) := by
              intro v hv r hr
              by_cases e : r = m
              · subst e; rw [if_pos rfl, hv]
              · rw [if_neg e]; exact Hf.out r (by omega)
            have HF := Lib.hid hF; clear hF
            have Hno : Hid (¬ swapAt sw a.data.toList b.data.toList p q = true → D sw a.data.toList b.data.toList c m = t) := Lib.hid (fun h => by rw [Hp.out, Hq.out, D_succ, if_neg h, Ht.out])
            cases sw
            · go_wp2
              go_quiet (fail)
              go_wp2
              go_roundw
              case rel => exact ⟨m + 1, _, by omega, by go_num, hI4.drewN _, HF.out t (Hno.out (by simp [swapAt]))⟩
              case measure => simp [intOf]; omega
            by_cases hp1 : 1 ≤ p
            case neg =>
              have d1 : decide ((1 : Int) < (c : Int)) = false := by have := Hp.out; simp; omega
              go_wp2
              go_quiet (fail)
              go_wp2
              go_roundw
              case rel => exact ⟨m + 1, _, by omega, by go_num, hI4.drewN _, HF.out t (Hno.out (fun h => hp1 (swap_pos h).1))⟩
              case measure => simp [intOf]; omega
            by_cases hq1 : 1 ≤ q
            case neg =>
              have d1 : (1 : Int) < (c : Int) := by have := Hp.out; omega
              have d2 : decide ((1 : Int) < (m : Int)) = false := by have := Hq.out; simp; omega
              go_wp2
              go_quiet (fail)
              go_wp2
              go_roundw
              case rel => exact ⟨m + 1, _, by omega, by go_num, hI4.drewN _, HF.out t (Hno.out (fun h => hq1 (swap_pos h).2))⟩
              case measure => simp [intOf]; omega
            have d1 : (1 : Int) < (c : Int) := by have := Hp.out; omega
            have d2 : (1 : Int) < (m : Int) := by have := Hq.out; omega
            obtain ⟨p2, hp2⟩ : ∃ p2, p2 = p - 1 := ⟨_, rfl⟩
            obtain ⟨q2, hq2⟩ : ∃ q2, q2 = q - 1 := ⟨_, rfl⟩
            have s1 : (c : Int) - 2 = (p2 : Int) := by have := Hp.out; omega
            have s2 : (m : Int) - 2 = (q2 : Int) := by have := Hq.out; omega
            have s3 : IntKind.i64.wrap (p2 : Int) = (p2 : Int) := IntWalk.i64_in _ (by omega)
            have s4 : IntKind.i64.wrap (q2 : Int) = (q2 : Int) := IntWalk.i64_in _ (by omega)
            have c1 : (p2 : Int) < (a.size : Int) := by omega
            have c2 : (q2 : Int) < (b.size : Int) := by omega
            have c3 : (p2 : Int) < (R : Int) := by omega
            have c4 : (q2 : Int) < (C : Int) := by omega
            have Hp2 := Lib.hid hp2; have Hq2 := Lib.hid hq2; clear hp2 hq2
            by_cases e1 : a.data.toList.getD p 0 = b.data.toList.getD q2 0
            case neg =>
              have e1b := bytesNe (by omega) (by omega) e1
              have H1 := Lib.hid e1; clear e1
              go_wp2
              go_quiet (fail)
              go_wp2
              go_roundw
              case rel => exact ⟨m + 1, _, by omega, by go_num, hI4.drewN _, HF.out t (Hno.out (swap_n1 (by rw [← Hq2.out]; exact H1.out)))⟩
              case measure => simp [intOf]; omega
            have e1b := bytesEq (by omega) (by omega) e1
            have H1 := Lib.hid e1; clear e1
            by_cases e2 : a.data.toList.getD p2 0 = b.data.toList.getD q 0
            case neg =>
              have e2b := bytesNe (by omega) (by omega) e2
              have H2 := Lib.hid e2; clear e2
              go_wp2
              go_quiet (fail)
              go_wp2
              go_roundw
              case rel => exact ⟨m + 1, _, by omega, by go_num, hI4.drewN _, HF.out t (Hno.out (swap_n2 (by rw [← Hp2.out]; exact H2.out)))⟩
              case measure => simp [intOf]; omega
            have e2b := bytesEq (by omega) (by omega) e2
            have H2 := Lib.hid e2; clear e2
            have Hsw : Hid (swapAt true a.data.toList b.data.toList p q = true) := Lib.hid (swap_all rfl hp1 hq1 (by rw [← Hq2.out]; exact H1.out) (by rw [← Hp2.out]; exact H2.out))
            go_wp2
            go_quiet (fail)
            have hI5 := hI4.drewN nq
            generalize hw5 : w4.drewN nq = w5
            rw [hw5] at hI5
            clear hw5 hI4 e1b e2b
            go_wp2
            have g1 := hI5.head hlt (Nat.le_refl _)
            have g2 := hI5.cur.cell hlm
            rw [if_pos rfl] at g2
            have g3 := hI5.cur.frozen m
            have g4 := hI5.head (i := p2) (by omega) (by omega)
            have g5 := hI5.cell (i := p2) (j := q2) (by omega) (by omega)
            have l5 := D_le (sw := true) (a := a.data.toList) (b := b.data.toList) p2 q2
            obtain ⟨v, hv⟩ : ∃ v, v = D true a.data.toList b.data.toList p2 q2 := ⟨_, rfl⟩
            rw [← hv] at g5 l5
            have Hv := Lib.hid hv; clear hv
            have lv : v ≤ 3000000 := by omega
            clear l5
            have wv : IntKind.i64.wrap ((v : Int) + 1) = (v : Int) + 1 := IntWalk.i64_in _ (by omega)
            obtain ⟨t2, ht2⟩ : ∃ t2 : Nat, t2 = min t (v + 1) := ⟨_, rfl⟩
            have hm4 : (if (v : Int) + 1 < (t : Int) then (v : Int) + 1 else (t : Int)) = (t2 : Int) := by split <;> omega
            have Hm4 := Lib.hid hm4
            have Ht2 : Hid (t2 = D true a.data.toList b.data.toList c m) := Lib.hid (by rw [Hp.out, Hq.out, D_succ, if_pos Hsw.out, ht2, Ht.out, Hv.out, Hp2.out, Hq2.out])
            clear hm4 ht2
            go_still_tail 24, (by kernel_rfl)
            rw [Hm4.out]
            change wpList _ _ _ _ _ w5.drew
            have hI6 := hI5.drew
            generalize hw6 : w5.drew = w6
            rw [hw6] at hI6
            clear hw6 hI5 g1 g2 g3 g4 g5
            have g1 := hI6.head hlt (Nat.le_refl _)
            have g2 := hI6.cur.cell hlm
            have g3 := hI6.cur.frozen m
            go_wp2
            go_roundw
            case rel => exact ⟨m + 1, _, by omega, by go_num, hI6.set m _, by
              intro r hr
              by_cases e : r = m
              · subst e; simp [Ht2.out]
              · rw [if_neg e, if_neg e]; exact Hf.out r (by omega)⟩
            case measure => simp [intOf]; omega
        · obtain rfl : m = C := by omega
          go_wp2
          go_roundw
          case rel => exact ⟨c + 1, by omega, by go_num, hI.close Hf.out⟩
          case measure => simp [intOf]; omega
    · obtain rfl : c = R := by omega
      go_wp2
      go_ret
      exact ⟨rfl, hO.bel, hO.tab⟩
end Go.Proofs.Ytoijjielnbcphaa

/-
  Walks of CompareRecords (program and reference). No condition.
-/
import Derived.Test.YtebfjikgececlaaLex
import Derived.Test.YtebfjikgececlaaOpenRec
namespace Go.Proofs.Ytebfjikgececlaa
open Go.RowKit
set_option linter.unusedVariables false
set_option linter.unusedSimpArgs false
theorem stepB {W0 W W' : World} {Q : Prop} (h : Below W0.heap.size W0 W ∧ Q) (hb : Below W.heap.size W W') : Below W0.heap.size W0 W' := h.1.trans (hb.mono h.1.size)
/-- Two records, in blocks of a world, and all that was below it. -/
theorem keepR2 {W0 W : World} {b0 b1 : Nat} {s0 n0 m0 s1 n1 m1 : Int} {a0 a1 : Option Addr} {l0 c0 l1 c1 : Nat} (q0 : Hid (RecAt W0 b0 s0 n0 m0 a0 l0 c0)) (q1 : Hid (RecAt W0 b1 s1 n1 m1 a1 l1 c1)) (h : Below W0.heap.size W0 W) :
    Below W0.heap.size W0 W ∧ W.cell? ⟨b0, 0, none⟩ = some (.int .i64 s0) ∧ W.cell? ⟨b0, 1, none⟩ = some (.int .i64 n0) ∧ W.cell? ⟨b0, 2, none⟩ = some (.int .i64 m0) ∧ W.cell? ⟨b0, 3, none⟩ = some (.slice a0 l0 c0) ∧
    W.cell? ⟨b1, 0, none⟩ = some (.int .i64 s1) ∧ W.cell? ⟨b1, 1, none⟩ = some (.int .i64 n1) ∧ W.cell? ⟨b1, 2, none⟩ = some (.int .i64 m1) ∧ W.cell? ⟨b1, 3, none⟩ = some (.slice a1 l1 c1) := by
  obtain ⟨p0, p1, p2, p3⟩ := q0.out.below h
  obtain ⟨t0, t1, t2, t3⟩ := q1.out.below h
  exact ⟨h, p0, p1, p2, p3, t0, t1, t2, t3⟩
def cmpR (s k v s2 k2 v2 : Int) (l m : List ByteArray) : Int := firstNZ [cmpO s k s2 k2, cmpI v v2, lexS l m]
set_option maxHeartbeats 2000000 in
theorem implCompareRecords (s k v s2 k2 v2 : Int) (a a2 : Option Addr) (c c2 : Nat) (l m : List ByteArray) (w : World) (hr : RowAt fS w a l) (hr2 : RowAt fS w a2 m) (hl : l.length ≤ 9223372036854775807) :
    Calls Try.prog 19 #[recV s k v a l.length c, recV s2 k2 v2 a2 m.length c2] w fun e w' => e = .returned (.int .i64 (cmpR s k v s2 k2 v2 l m)) ∧ Below w.heap.size w w' := by
  (try unfold recV)
  go_enter Try.func19, Try.ntmps19
  go_wp2
  obtain ⟨W0, hW0⟩ : ∃ W0, W0 = ((w.alloc (.cells #[.int .i64 s, .int .i64 k, .int .i64 v, .slice a l.length c] 31)).alloc (.cells #[.int .i64 s2, .int .i64 k2, .int .i64 v2, .slice a2 m.length c2] 31)) := ⟨_, rfl⟩
  have q0 : RecAt W0 w.heap.size s k v a l.length c := by rw [hW0]; exact (RecAt.new w _ _ _ _ _ _ _).below ((Below.refl _ _).alloc (Nat.le_refl _) _)
  have q1 : RecAt W0 (w.heap.size + 1) s2 k2 v2 a2 m.length c2 := by
    rw [hW0]
    have := RecAt.new (w.alloc (.cells #[.int .i64 s, .int .i64 k, .int .i64 v, .slice a l.length c] 31)) s2 k2 v2 a2 m.length c2 31
    simpa using this
  have c0 : Below w.heap.size w W0 := by rw [hW0]; exact ((Below.refl _ _).alloc (Nat.le_refl _) _).alloc (by simp) _
  rw [← hW0]
  clear hW0
  have Q0 := Lib.hid q0; have Q1 := Lib.hid q1
  have R0 := Lib.hid (hr.below c0); have R1 := Lib.hid (hr2.below c0)
  clear q0 q1
  go_region_held3 (fun W => Below W0.heap.size W0 W ∧ W.cell? ⟨w.heap.size, 0, none⟩ = some (.int .i64 s) ∧ W.cell? ⟨w.heap.size, 1, none⟩ = some (.int .i64 k) ∧ W.cell? ⟨w.heap.size, 2, none⟩ = some (.int .i64 v) ∧ W.cell? ⟨w.heap.size, 3, none⟩ = some (.slice a l.length c) ∧
          W.cell? ⟨w.heap.size + 1, 0, none⟩ = some (.int .i64 s2) ∧ W.cell? ⟨w.heap.size + 1, 1, none⟩ = some (.int .i64 k2) ∧ W.cell? ⟨w.heap.size + 1, 2, none⟩ = some (.int .i64 v2) ∧ W.cell? ⟨w.heap.size + 1, 3, none⟩ = some (.slice a2 m.length c2))
        (first | assumption | exact keepR2 Q0 Q1 (Below.refl _ _).drew | exact keepR2 Q0 Q1 (stepB (by assumption) ((Below.refl _ _).alloc (Nat.le_refl _) _)) | exact keepR2 Q0 Q1 (stepB (by assumption) (by assumption)))
        (first
          | (go_at_call 30; refine (compareOrigins_any s k v s2 k2 v2 a a2 _ _ _ _ _).mono ?_; rintro e w' ⟨rfl, hb⟩)
          | (go_at_call 33; refine (cmpInt_any _ _ _).mono ?_; rintro e w' ⟨rfl, rfl⟩)
          | (go_at_call 34; refine (slicesCompare_any a a2 c c2 l m _ (R0.out.below (And.left (by assumption))) (R1.out.below (And.left (by assumption))) hl).mono ?_; rintro e w' ⟨rfl, rfl⟩)
          | (go_at_call 32; refine (cmpOr_any _ 3 [cmpO s k s2 k2, cmpI v v2, lexS l m] _ (rowAt_three _ _ _ _ _) (by simp)).mono ?_; rintro e w' ⟨rfl, rfl⟩))
  all_goals
    go_wp2
    go_ret
    exact ⟨rfl, c0.trans (Below.mono (B := W0.heap.size) (And.left (by assumption)) c0.size)⟩
theorem l8Int_any (a b : Int) (w : World) :
    Calls Try.prog 31 #[.int .i64 a, .int .i64 b] w fun e w' => e = .returned (.int .i64 (cmpI a b)) ∧ w' = w := by
  by_cases h1 : a < b
  · have H := Lib.hid (cmpI_lt h1)
    go_enter Try.func31, Try.ntmps31
    go_wp2
    go_ret
    exact ⟨by rw [H.out]; rfl, rfl⟩
  · by_cases h2 : b < a
    · have H := Lib.hid (cmpI_gt h2)
      go_enter Try.func31, Try.ntmps31
      go_wp2
      go_ret
      exact ⟨by rw [H.out]; rfl, rfl⟩
    · have H := Lib.hid (cmpI_eq (a := a) (b := b) (by omega))
      go_enter Try.func31, Try.ntmps31
      go_wp2
      go_ret
      exact ⟨by rw [H.out]; rfl, rfl⟩
theorem cmpR_s {s k v s2 k2 v2 : Int} {l m : List ByteArray} (h : cmpI s s2 ≠ 0) : cmpR s k v s2 k2 v2 l m = cmpI s s2 := by
  have h0 : cmpO s k s2 k2 = cmpI s s2 := firstNZ_hit (l := [cmpI s s2, cmpI k k2]) (k := 0) (by simp) h (fun j hj => by omega)
  exact (firstNZ_hit (l := [cmpO s k s2 k2, cmpI v v2, lexS l m]) (k := 0) (by simp) (by show cmpO s k s2 k2 ≠ 0; rw [h0]; exact h) (fun j hj => by omega)).trans h0
theorem cmpR_k {s k v s2 k2 v2 : Int} {l m : List ByteArray} (h : cmpI s s2 = 0) (h2 : cmpI k k2 ≠ 0) : cmpR s k v s2 k2 v2 l m = cmpI k k2 := by
  have h0 : cmpO s k s2 k2 = cmpI k k2 := by unfold cmpO firstNZ; rw [List.find?_cons_of_neg (by simp [h]), List.find?_cons_of_pos (by simp [h2])]; rfl
  exact (firstNZ_hit (l := [cmpO s k s2 k2, cmpI v v2, lexS l m]) (k := 0) (by simp) (by show cmpO s k s2 k2 ≠ 0; rw [h0]; exact h2) (fun j hj => by omega)).trans h0
theorem cmpO_00 {s k s2 k2 : Int} (h : cmpI s s2 = 0) (h2 : cmpI k k2 = 0) : cmpO s k s2 k2 = 0 := by
  unfold cmpO firstNZ; rw [List.find?_cons_of_neg (by simp [h]), List.find?_cons_of_neg (by simp [h2])]; rfl
theorem cmpR_v {s k v s2 k2 v2 : Int} {l m : List ByteArray} (h : cmpI s s2 = 0) (h2 : cmpI k k2 = 0) (h3 : cmpI v v2 ≠ 0) : cmpR s k v s2 k2 v2 l m = cmpI v v2 := by
  unfold cmpR firstNZ; rw [List.find?_cons_of_neg (by simp [cmpO_00 h h2]), List.find?_cons_of_pos (by simp [h3])]; rfl
theorem cmpR_l {s k v s2 k2 v2 : Int} {l m : List ByteArray} (h : cmpI s s2 = 0) (h2 : cmpI k k2 = 0) (h3 : cmpI v v2 = 0) : cmpR s k v s2 k2 v2 l m = lexS l m := by
  unfold cmpR firstNZ; rw [List.find?_cons_of_neg (by simp [cmpO_00 h h2]), List.find?_cons_of_neg (by simp [h3])]
  by_cases hz : lexS l m = 0
  · rw [List.find?_cons_of_neg (by simp [hz])]; exact hz.symm
  · rw [List.find?_cons_of_pos (by simp [hz])]; rfl
set_option maxHeartbeats 2000000 in
theorem specCompareRecords (s k v s2 k2 v2 : Int) (a a2 : Option Addr) (c c2 : Nat) (l m : List ByteArray) (w : World) (hr : RowAt fS w a l) (hr2 : RowAt fS w a2 m) (hl : l.length ≤ 1048576) (hl2 : m.length ≤ 1048576) :
    Calls Try.prog 18 #[recV s k v a l.length c, recV s2 k2 v2 a2 m.length c2] w fun e w' => e = .returned (.int .i64 (cmpR s k v s2 k2 v2 l m)) ∧ Below w.heap.size w w' := by
  obtain ⟨R, hR⟩ : ∃ R, R = cmpR s k v s2 k2 v2 l m := ⟨_, rfl⟩
  rw [← hR]
  have HR : Hid (R = R) := Lib.hid rfl
  by_cases h1 : cmpI s s2 = 0
  · have e1 : (cmpI s s2 == 0) = true := by simp [h1]
    by_cases h2 : cmpI k k2 = 0
    · have e2 : (cmpI k k2 == 0) = true := by simp [h2]
      by_cases h3 : cmpI v v2 = 0
      · have HS : Hid ((cmpI v v2 = 0 ∧ R = lexS (l.drop 0) (m.drop 0)) ∨ (cmpI v v2 ≠ 0 ∧ cmpI v v2 = R)) := Lib.hid (Or.inl ⟨h3, hR.trans (cmpR_l h1 h2 h3)⟩)
        clear hR
        (try clear h3)
        (try clear h2)
        clear h1
        go_enter Try.func18, Try.ntmps18
        go_wp2_with (go_at_call 31; refine (l8Int_any _ _ _).mono ?_; rintro e w' ⟨rfl, rfl⟩)
        (try clear e3)
        (try clear e2)
        clear e1
        obtain ⟨W0, hW0⟩ : ∃ W0, W0 = ((w.alloc (.cells #[.int .i64 s, .int .i64 k, .int .i64 v, .slice a l.length c] 31)).alloc (.cells #[.int .i64 s2, .int .i64 k2, .int .i64 v2, .slice a2 m.length c2] 31)) := ⟨_, rfl⟩
        have q0 : RecAt W0 w.heap.size s k v a l.length c := by rw [hW0]; exact (RecAt.new w _ _ _ _ _ _ _).below ((Below.refl _ _).alloc (Nat.le_refl _) _)
        have q1 : RecAt W0 (w.heap.size + 1) s2 k2 v2 a2 m.length c2 := by
          rw [hW0]
          have := RecAt.new (w.alloc (.cells #[.int .i64 s, .int .i64 k, .int .i64 v, .slice a l.length c] 31)) s2 k2 v2 a2 m.length c2 31
          simpa using this
        have c0 : Below w.heap.size w W0 := by rw [hW0]; exact ((Below.refl _ _).alloc (Nat.le_refl _) _).alloc (by simp) _
        rw [← hW0]
        clear hW0
        have Q0 := Lib.hid q0; have Q1 := Lib.hid q1
        have R0 := Lib.hid (hr.below c0); have R1 := Lib.hid (hr2.below c0)
        have C0 := Lib.hid c0
        clear q0 q1 c0 hr hr2
        go_loopw [5, 6] (fun d i wr => ∃ (j : Nat) (z : Int), j ≤ l.length ∧ j ≤ m.length ∧ i = .int .i64 j ∧ d = .int .i64 z ∧ ((z = 0 ∧ R = lexS (l.drop j) (m.drop j)) ∨ (z ≠ 0 ∧ z = R)) ∧ Below W0.heap.size W0 wr) (fun d i _ => 2 * l.length - 2 * (intOf i).toNat)
        case atStart => exact ⟨0, _, Nat.zero_le _, Nat.zero_le _, rfl, rfl, HS.out, Below.refl _ _⟩
        case round =>
          obtain ⟨j, z, hj, hj2, rfl, rfl, hz, hb⟩ := hrel
          obtain ⟨p0, p1, p2, p3⟩ := Q0.out.below hb
          obtain ⟨t0, t1, t2, t3⟩ := Q1.out.below hb
          rcases hz with ⟨rfl, hR⟩ | ⟨hz, hzR⟩
          · by_cases j1 : j < l.length
            · by_cases j2 : j < m.length
              · have k1 : (j : Int) < (l.length : Int) := by omega
                have k2 : (j : Int) < (m.length : Int) := by omega
                obtain ⟨b1, o1, ea, hc1⟩ := (R0.out.below hb).cell j j1
                obtain ⟨b2, o2, eb, hc2⟩ := (R1.out.below hb).cell j j2
                unfold fS at hc1 hc2
                have Hs := Lib.hid (hR.trans (lex_step j1 j2))
                obtain ⟨x, hx⟩ : ∃ x, x = l[j] := ⟨_, rfl⟩
                obtain ⟨y, hy⟩ : ∃ y, y = m[j] := ⟨_, rfl⟩
                rw [← hx] at hc1 Hs
                rw [← hy] at hc2 Hs
                clear hx hy hR
                rw [ea] at p3
                rw [eb] at t3
                clear ea eb
                cases g1 : Go.Op.bytesLess x.toList y.toList
                · cases g2 : (x.toList == y.toList)
                  · have H : Hid (cmpS x y = 1) := Lib.hid (by unfold cmpS; rw [g1, g2]; rfl)
                    have H2 : Hid (1 = R) := Lib.hid (by rw [Hs.out, H.out]; rfl)
                    go_wp2
                    go_quiet (fail)
                    go_wp2
                    go_quiet (fail)
                    go_wp2
                    go_roundw
                    case rel => exact ⟨j + 1, _, by omega, by omega, by go_num, rfl, Or.inr ⟨by decide, H2.out⟩, hb.trans ((below_drewN _ _).mono hb.size)⟩
                    case measure => simp [intOf]; omega
                  · have H : Hid (cmpS x y = 0) := Lib.hid (by unfold cmpS; rw [g1, g2]; rfl)
                    have H2 : Hid (R = lexS (l.drop (j + 1)) (m.drop (j + 1))) := Lib.hid (by rw [Hs.out, if_pos H.out])
                    go_wp2
                    go_quiet (fail)
                    go_wp2
                    go_quiet (fail)
                    go_wp2
                    go_roundw
                    case rel => exact ⟨j + 1, _, by omega, by omega, by go_num, rfl, Or.inl ⟨rfl, H2.out⟩, hb.trans ((below_drewN _ _).mono hb.size)⟩
                    case measure => simp [intOf]; omega
                · have H : Hid (cmpS x y = -1) := Lib.hid (by unfold cmpS; rw [g1]; rfl)
                  have H2 : Hid (-1 = R) := Lib.hid (by rw [Hs.out, H.out]; rfl)
                  go_wp2
                  go_quiet (fail)
                  go_wp2
                  go_quiet (fail)
                  go_wp2
                  go_roundw
                  case rel => exact ⟨j + 1, _, by omega, by omega, by go_num, rfl, Or.inr ⟨by decide, H2.out⟩, hb.trans ((below_drewN _ _).mono hb.size)⟩
                  case measure => simp [intOf]; omega
              · have k1 : (j : Int) < (l.length : Int) := by omega
                have k2 : decide ((j : Int) < (m.length : Int)) = false := by simp; omega
                have H : Hid (cmpI (l.length : Int) (m.length : Int) = R) := Lib.hid (by rw [hR, lex_long j1 j2]; exact cmpI_gt (by omega))
                clear hR
                go_wp2_with (go_at_call 31; refine (l8Int_any _ _ _).mono ?_; rintro e w' ⟨rfl, rfl⟩)
                go_ret
                exact ⟨by rw [← H.out]; rfl, C0.out.trans (hb.mono C0.out.size)⟩
            · have k1 : decide ((j : Int) < (l.length : Int)) = false := by simp; omega
              have H : Hid (cmpI (l.length : Int) (m.length : Int) = R) := Lib.hid (by
                rw [hR]
                by_cases j2 : j < m.length
                · rw [lex_short j1 j2]; exact cmpI_lt (by omega)
                · rw [lex_same j1 j2]; exact cmpI_eq (by omega))
              clear hR
              go_wp2_with (go_at_call 31; refine (l8Int_any _ _ _).mono ?_; rintro e w' ⟨rfl, rfl⟩)
              go_ret
              exact ⟨by rw [← H.out]; rfl, C0.out.trans (hb.mono C0.out.size)⟩
          · obtain ⟨u1, u2⟩ := neI hz
            have Hz := Lib.hid hzR; clear hz hzR
            go_wp2
            all_goals
              go_ret
              exact ⟨by rw [Hz.out]; rfl, C0.out.trans (hb.mono C0.out.size)⟩
      · have HS : Hid ((cmpI v v2 = 0 ∧ R = lexS (l.drop 0) (m.drop 0)) ∨ (cmpI v v2 ≠ 0 ∧ cmpI v v2 = R)) := Lib.hid (Or.inr ⟨h3, (hR.trans (cmpR_v h1 h2 h3)).symm⟩)
        clear hR
        (try clear h3)
        (try clear h2)
        clear h1
        go_enter Try.func18, Try.ntmps18
        go_wp2_with (go_at_call 31; refine (l8Int_any _ _ _).mono ?_; rintro e w' ⟨rfl, rfl⟩)
        (try clear e3)
        (try clear e2)
        clear e1
        obtain ⟨W0, hW0⟩ : ∃ W0, W0 = ((w.alloc (.cells #[.int .i64 s, .int .i64 k, .int .i64 v, .slice a l.length c] 31)).alloc (.cells #[.int .i64 s2, .int .i64 k2, .int .i64 v2, .slice a2 m.length c2] 31)) := ⟨_, rfl⟩
        have q0 : RecAt W0 w.heap.size s k v a l.length c := by rw [hW0]; exact (RecAt.new w _ _ _ _ _ _ _).below ((Below.refl _ _).alloc (Nat.le_refl _) _)
        have q1 : RecAt W0 (w.heap.size + 1) s2 k2 v2 a2 m.length c2 := by
          rw [hW0]
          have := RecAt.new (w.alloc (.cells #[.int .i64 s, .int .i64 k, .int .i64 v, .slice a l.length c] 31)) s2 k2 v2 a2 m.length c2 31
          simpa using this
        have c0 : Below w.heap.size w W0 := by rw [hW0]; exact ((Below.refl _ _).alloc (Nat.le_refl _) _).alloc (by simp) _
        rw [← hW0]
        clear hW0
        have Q0 := Lib.hid q0; have Q1 := Lib.hid q1
        have R0 := Lib.hid (hr.below c0); have R1 := Lib.hid (hr2.below c0)
        have C0 := Lib.hid c0
        clear q0 q1 c0 hr hr2
        go_loopw [5, 6] (fun d i wr => ∃ (j : Nat) (z : Int), j ≤ l.length ∧ j ≤ m.length ∧ i = .int .i64 j ∧ d = .int .i64 z ∧ ((z = 0 ∧ R = lexS (l.drop j) (m.drop j)) ∨ (z ≠ 0 ∧ z = R)) ∧ Below W0.heap.size W0 wr) (fun d i _ => 2 * l.length - 2 * (intOf i).toNat)
        case atStart => exact ⟨0, _, Nat.zero_le _, Nat.zero_le _, rfl, rfl, HS.out, Below.refl _ _⟩
        case round =>
          obtain ⟨j, z, hj, hj2, rfl, rfl, hz, hb⟩ := hrel
          obtain ⟨p0, p1, p2, p3⟩ := Q0.out.below hb
          obtain ⟨t0, t1, t2, t3⟩ := Q1.out.below hb
          rcases hz with ⟨rfl, hR⟩ | ⟨hz, hzR⟩
          · by_cases j1 : j < l.length
            · by_cases j2 : j < m.length
              · have k1 : (j : Int) < (l.length : Int) := by omega
                have k2 : (j : Int) < (m.length : Int) := by omega
                obtain ⟨b1, o1, ea, hc1⟩ := (R0.out.below hb).cell j j1
                obtain ⟨b2, o2, eb, hc2⟩ := (R1.out.below hb).cell j j2
                unfold fS at hc1 hc2
                have Hs := Lib.hid (hR.trans (lex_step j1 j2))
                obtain ⟨x, hx⟩ : ∃ x, x = l[j] := ⟨_, rfl⟩
                obtain ⟨y, hy⟩ : ∃ y, y = m[j] := ⟨_, rfl⟩
                rw [← hx] at hc1 Hs
                rw [← hy] at hc2 Hs
                clear hx hy hR
                rw [ea] at p3
                rw [eb] at t3
                clear ea eb
                cases g1 : Go.Op.bytesLess x.toList y.toList
                · cases g2 : (x.toList == y.toList)
                  · have H : Hid (cmpS x y = 1) := Lib.hid (by unfold cmpS; rw [g1, g2]; rfl)
                    have H2 : Hid (1 = R) := Lib.hid (by rw [Hs.out, H.out]; rfl)
                    go_wp2
                    go_quiet (fail)
                    go_wp2
                    go_quiet (fail)
                    go_wp2
                    go_roundw
                    case rel => exact ⟨j + 1, _, by omega, by omega, by go_num, rfl, Or.inr ⟨by decide, H2.out⟩, hb.trans ((below_drewN _ _).mono hb.size)⟩
                    case measure => simp [intOf]; omega
                  · have H : Hid (cmpS x y = 0) := Lib.hid (by unfold cmpS; rw [g1, g2]; rfl)
                    have H2 : Hid (R = lexS (l.drop (j + 1)) (m.drop (j + 1))) := Lib.hid (by rw [Hs.out, if_pos H.out])
                    go_wp2
                    go_quiet (fail)
                    go_wp2
                    go_quiet (fail)
                    go_wp2
                    go_roundw
                    case rel => exact ⟨j + 1, _, by omega, by omega, by go_num, rfl, Or.inl ⟨rfl, H2.out⟩, hb.trans ((below_drewN _ _).mono hb.size)⟩
                    case measure => simp [intOf]; omega
                · have H : Hid (cmpS x y = -1) := Lib.hid (by unfold cmpS; rw [g1]; rfl)
                  have H2 : Hid (-1 = R) := Lib.hid (by rw [Hs.out, H.out]; rfl)
                  go_wp2
                  go_quiet (fail)
                  go_wp2
                  go_quiet (fail)
                  go_wp2
                  go_roundw
                  case rel => exact ⟨j + 1, _, by omega, by omega, by go_num, rfl, Or.inr ⟨by decide, H2.out⟩, hb.trans ((below_drewN _ _).mono hb.size)⟩
                  case measure => simp [intOf]; omega
              · have k1 : (j : Int) < (l.length : Int) := by omega
                have k2 : decide ((j : Int) < (m.length : Int)) = false := by simp; omega
                have H : Hid (cmpI (l.length : Int) (m.length : Int) = R) := Lib.hid (by rw [hR, lex_long j1 j2]; exact cmpI_gt (by omega))
                clear hR
                go_wp2_with (go_at_call 31; refine (l8Int_any _ _ _).mono ?_; rintro e w' ⟨rfl, rfl⟩)
                go_ret
                exact ⟨by rw [← H.out]; rfl, C0.out.trans (hb.mono C0.out.size)⟩
            · have k1 : decide ((j : Int) < (l.length : Int)) = false := by simp; omega
              have H : Hid (cmpI (l.length : Int) (m.length : Int) = R) := Lib.hid (by
                rw [hR]
                by_cases j2 : j < m.length
                · rw [lex_short j1 j2]; exact cmpI_lt (by omega)
                · rw [lex_same j1 j2]; exact cmpI_eq (by omega))
              clear hR
              go_wp2_with (go_at_call 31; refine (l8Int_any _ _ _).mono ?_; rintro e w' ⟨rfl, rfl⟩)
              go_ret
              exact ⟨by rw [← H.out]; rfl, C0.out.trans (hb.mono C0.out.size)⟩
          · obtain ⟨u1, u2⟩ := neI hz
            have Hz := Lib.hid hzR; clear hz hzR
            go_wp2
            all_goals
              go_ret
              exact ⟨by rw [Hz.out]; rfl, C0.out.trans (hb.mono C0.out.size)⟩
    · obtain ⟨e2, e3⟩ := neI h2
      have HS : Hid ((cmpI k k2 = 0 ∧ R = lexS (l.drop 0) (m.drop 0)) ∨ (cmpI k k2 ≠ 0 ∧ cmpI k k2 = R)) := Lib.hid (Or.inr ⟨h2, (hR.trans (cmpR_k h1 h2)).symm⟩)
      clear hR
      (try clear h3)
      (try clear h2)
      clear h1
      go_enter Try.func18, Try.ntmps18
      go_wp2_with (go_at_call 31; refine (l8Int_any _ _ _).mono ?_; rintro e w' ⟨rfl, rfl⟩)
      (try clear e3)
      (try clear e2)
      clear e1
      obtain ⟨W0, hW0⟩ : ∃ W0, W0 = ((w.alloc (.cells #[.int .i64 s, .int .i64 k, .int .i64 v, .slice a l.length c] 31)).alloc (.cells #[.int .i64 s2, .int .i64 k2, .int .i64 v2, .slice a2 m.length c2] 31)) := ⟨_, rfl⟩
      have q0 : RecAt W0 w.heap.size s k v a l.length c := by rw [hW0]; exact (RecAt.new w _ _ _ _ _ _ _).below ((Below.refl _ _).alloc (Nat.le_refl _) _)
      have q1 : RecAt W0 (w.heap.size + 1) s2 k2 v2 a2 m.length c2 := by
        rw [hW0]
        have := RecAt.new (w.alloc (.cells #[.int .i64 s, .int .i64 k, .int .i64 v, .slice a l.length c] 31)) s2 k2 v2 a2 m.length c2 31
        simpa using this
      have c0 : Below w.heap.size w W0 := by rw [hW0]; exact ((Below.refl _ _).alloc (Nat.le_refl _) _).alloc (by simp) _
      rw [← hW0]
      clear hW0
      have Q0 := Lib.hid q0; have Q1 := Lib.hid q1
      have R0 := Lib.hid (hr.below c0); have R1 := Lib.hid (hr2.below c0)
      have C0 := Lib.hid c0
      clear q0 q1 c0 hr hr2
      go_loopw [5, 6] (fun d i wr => ∃ (j : Nat) (z : Int), j ≤ l.length ∧ j ≤ m.length ∧ i = .int .i64 j ∧ d = .int .i64 z ∧ ((z = 0 ∧ R = lexS (l.drop j) (m.drop j)) ∨ (z ≠ 0 ∧ z = R)) ∧ Below W0.heap.size W0 wr) (fun d i _ => 2 * l.length - 2 * (intOf i).toNat)
      case atStart => exact ⟨0, _, Nat.zero_le _, Nat.zero_le _, rfl, rfl, HS.out, Below.refl _ _⟩
      case round =>
        obtain ⟨j, z, hj, hj2, rfl, rfl, hz, hb⟩ := hrel
        obtain ⟨p0, p1, p2, p3⟩ := Q0.out.below hb
        obtain ⟨t0, t1, t2, t3⟩ := Q1.out.below hb
        rcases hz with ⟨rfl, hR⟩ | ⟨hz, hzR⟩
        · by_cases j1 : j < l.length
          · by_cases j2 : j < m.length
            · have k1 : (j : Int) < (l.length : Int) := by omega
              have k2 : (j : Int) < (m.length : Int) := by omega
              obtain ⟨b1, o1, ea, hc1⟩ := (R0.out.below hb).cell j j1
              obtain ⟨b2, o2, eb, hc2⟩ := (R1.out.below hb).cell j j2
              unfold fS at hc1 hc2
              have Hs := Lib.hid (hR.trans (lex_step j1 j2))
              obtain ⟨x, hx⟩ : ∃ x, x = l[j] := ⟨_, rfl⟩
              obtain ⟨y, hy⟩ : ∃ y, y = m[j] := ⟨_, rfl⟩
              rw [← hx] at hc1 Hs
              rw [← hy] at hc2 Hs
              clear hx hy hR
              rw [ea] at p3
              rw [eb] at t3
              clear ea eb
              cases g1 : Go.Op.bytesLess x.toList y.toList
              · cases g2 : (x.toList == y.toList)
                · have H : Hid (cmpS x y = 1) := Lib.hid (by unfold cmpS; rw [g1, g2]; rfl)
                  have H2 : Hid (1 = R) := Lib.hid (by rw [Hs.out, H.out]; rfl)
                  go_wp2
                  go_quiet (fail)
                  go_wp2
                  go_quiet (fail)
                  go_wp2
                  go_roundw
                  case rel => exact ⟨j + 1, _, by omega, by omega, by go_num, rfl, Or.inr ⟨by decide, H2.out⟩, hb.trans ((below_drewN _ _).mono hb.size)⟩
                  case measure => simp [intOf]; omega
                · have H : Hid (cmpS x y = 0) := Lib.hid (by unfold cmpS; rw [g1, g2]; rfl)
                  have H2 : Hid (R = lexS (l.drop (j + 1)) (m.drop (j + 1))) := Lib.hid (by rw [Hs.out, if_pos H.out])
                  go_wp2
                  go_quiet (fail)
                  go_wp2
                  go_quiet (fail)
                  go_wp2
                  go_roundw
                  case rel => exact ⟨j + 1, _, by omega, by omega, by go_num, rfl, Or.inl ⟨rfl, H2.out⟩, hb.trans ((below_drewN _ _).mono hb.size)⟩
                  case measure => simp [intOf]; omega
              · have H : Hid (cmpS x y = -1) := Lib.hid (by unfold cmpS; rw [g1]; rfl)
                have H2 : Hid (-1 = R) := Lib.hid (by rw [Hs.out, H.out]; rfl)
                go_wp2
                go_quiet (fail)
                go_wp2
                go_quiet (fail)
                go_wp2
                go_roundw
                case rel => exact ⟨j + 1, _, by omega, by omega, by go_num, rfl, Or.inr ⟨by decide, H2.out⟩, hb.trans ((below_drewN _ _).mono hb.size)⟩
                case measure => simp [intOf]; omega
            · have k1 : (j : Int) < (l.length : Int) := by omega
              have k2 : decide ((j : Int) < (m.length : Int)) = false := by simp; omega
              have H : Hid (cmpI (l.length : Int) (m.length : Int) = R) := Lib.hid (by rw [hR, lex_long j1 j2]; exact cmpI_gt (by omega))
              clear hR
              go_wp2_with (go_at_call 31; refine (l8Int_any _ _ _).mono ?_; rintro e w' ⟨rfl, rfl⟩)
              go_ret
              exact ⟨by rw [← H.out]; rfl, C0.out.trans (hb.mono C0.out.size)⟩
          · have k1 : decide ((j : Int) < (l.length : Int)) = false := by simp; omega
            have H : Hid (cmpI (l.length : Int) (m.length : Int) = R) := Lib.hid (by
              rw [hR]
              by_cases j2 : j < m.length
              · rw [lex_short j1 j2]; exact cmpI_lt (by omega)
              · rw [lex_same j1 j2]; exact cmpI_eq (by omega))
            clear hR
            go_wp2_with (go_at_call 31; refine (l8Int_any _ _ _).mono ?_; rintro e w' ⟨rfl, rfl⟩)
            go_ret
            exact ⟨by rw [← H.out]; rfl, C0.out.trans (hb.mono C0.out.size)⟩
        · obtain ⟨u1, u2⟩ := neI hz
          have Hz := Lib.hid hzR; clear hz hzR
          go_wp2
          all_goals
            go_ret
            exact ⟨by rw [Hz.out]; rfl, C0.out.trans (hb.mono C0.out.size)⟩
  · obtain ⟨e1, e2⟩ := neI h1
    have HS : Hid ((cmpI s s2 = 0 ∧ R = lexS (l.drop 0) (m.drop 0)) ∨ (cmpI s s2 ≠ 0 ∧ cmpI s s2 = R)) := Lib.hid (Or.inr ⟨h1, (hR.trans (cmpR_s h1)).symm⟩)
    clear hR
    (try clear h3)
    (try clear h2)
    clear h1
    go_enter Try.func18, Try.ntmps18
    go_wp2_with (go_at_call 31; refine (l8Int_any _ _ _).mono ?_; rintro e w' ⟨rfl, rfl⟩)
    (try clear e3)
    (try clear e2)
    clear e1
    obtain ⟨W0, hW0⟩ : ∃ W0, W0 = ((w.alloc (.cells #[.int .i64 s, .int .i64 k, .int .i64 v, .slice a l.length c] 31)).alloc (.cells #[.int .i64 s2, .int .i64 k2, .int .i64 v2, .slice a2 m.length c2] 31)) := ⟨_, rfl⟩
    have q0 : RecAt W0 w.heap.size s k v a l.length c := by rw [hW0]; exact (RecAt.new w _ _ _ _ _ _ _).below ((Below.refl _ _).alloc (Nat.le_refl _) _)
    have q1 : RecAt W0 (w.heap.size + 1) s2 k2 v2 a2 m.length c2 := by
      rw [hW0]
      have := RecAt.new (w.alloc (.cells #[.int .i64 s, .int .i64 k, .int .i64 v, .slice a l.length c] 31)) s2 k2 v2 a2 m.length c2 31
      simpa using this
    have c0 : Below w.heap.size w W0 := by rw [hW0]; exact ((Below.refl _ _).alloc (Nat.le_refl _) _).alloc (by simp) _
    rw [← hW0]
    clear hW0
    have Q0 := Lib.hid q0; have Q1 := Lib.hid q1
    have R0 := Lib.hid (hr.below c0); have R1 := Lib.hid (hr2.below c0)
    have C0 := Lib.hid c0
    clear q0 q1 c0 hr hr2
    go_loopw [5, 6] (fun d i wr => ∃ (j : Nat) (z : Int), j ≤ l.length ∧ j ≤ m.length ∧ i = .int .i64 j ∧ d = .int .i64 z ∧ ((z = 0 ∧ R = lexS (l.drop j) (m.drop j)) ∨ (z ≠ 0 ∧ z = R)) ∧ Below W0.heap.size W0 wr) (fun d i _ => 2 * l.length - 2 * (intOf i).toNat)
    case atStart => exact ⟨0, _, Nat.zero_le _, Nat.zero_le _, rfl, rfl, HS.out, Below.refl _ _⟩
    case round =>
      obtain ⟨j, z, hj, hj2, rfl, rfl, hz, hb⟩ := hrel
      obtain ⟨p0, p1, p2, p3⟩ := Q0.out.below hb
      obtain ⟨t0, t1, t2, t3⟩ := Q1.out.below hb
      rcases hz with ⟨rfl, hR⟩ | ⟨hz, hzR⟩
      · by_cases j1 : j < l.length
        · by_cases j2 : j < m.length
          · have k1 : (j : Int) < (l.length : Int) := by omega
            have k2 : (j : Int) < (m.length : Int) := by omega
            obtain ⟨b1, o1, ea, hc1⟩ := (R0.out.below hb).cell j j1
            obtain ⟨b2, o2, eb, hc2⟩ := (R1.out.below hb).cell j j2
            unfold fS at hc1 hc2
            have Hs := Lib.hid (hR.trans (lex_step j1 j2))
            obtain ⟨x, hx⟩ : ∃ x, x = l[j] := ⟨_, rfl⟩
            obtain ⟨y, hy⟩ : ∃ y, y = m[j] := ⟨_, rfl⟩
            rw [← hx] at hc1 Hs
            rw [← hy] at hc2 Hs
            clear hx hy hR
            rw [ea] at p3
            rw [eb] at t3
            clear ea eb
            cases g1 : Go.Op.bytesLess x.toList y.toList
            · cases g2 : (x.toList == y.toList)
              · have H : Hid (cmpS x y = 1) := Lib.hid (by unfold cmpS; rw [g1, g2]; rfl)
                have H2 : Hid (1 = R) := Lib.hid (by rw [Hs.out, H.out]; rfl)
                go_wp2
                go_quiet (fail)
                go_wp2
                go_quiet (fail)
                go_wp2
                go_roundw
                case rel => exact ⟨j + 1, _, by omega, by omega, by go_num, rfl, Or.inr ⟨by decide, H2.out⟩, hb.trans ((below_drewN _ _).mono hb.size)⟩
                case measure => simp [intOf]; omega
              · have H : Hid (cmpS x y = 0) := Lib.hid (by unfold cmpS; rw [g1, g2]; rfl)
                have H2 : Hid (R = lexS (l.drop (j + 1)) (m.drop (j + 1))) := Lib.hid (by rw [Hs.out, if_pos H.out])
                go_wp2
                go_quiet (fail)
                go_wp2
                go_quiet (fail)
                go_wp2
                go_roundw
                case rel => exact ⟨j + 1, _, by omega, by omega, by go_num, rfl, Or.inl ⟨rfl, H2.out⟩, hb.trans ((below_drewN _ _).mono hb.size)⟩
                case measure => simp [intOf]; omega
            · have H : Hid (cmpS x y = -1) := Lib.hid (by unfold cmpS; rw [g1]; rfl)
              have H2 : Hid (-1 = R) := Lib.hid (by rw [Hs.out, H.out]; rfl)
              go_wp2
              go_quiet (fail)
              go_wp2
              go_quiet (fail)
              go_wp2
              go_roundw
              case rel => exact ⟨j + 1, _, by omega, by omega, by go_num, rfl, Or.inr ⟨by decide, H2.out⟩, hb.trans ((below_drewN _ _).mono hb.size)⟩
              case measure => simp [intOf]; omega
          · have k1 : (j : Int) < (l.length : Int) := by omega
            have k2 : decide ((j : Int) < (m.length : Int)) = false := by simp; omega
            have H : Hid (cmpI (l.length : Int) (m.length : Int) = R) := Lib.hid (by rw [hR, lex_long j1 j2]; exact cmpI_gt (by omega))
            clear hR
            go_wp2_with (go_at_call 31; refine (l8Int_any _ _ _).mono ?_; rintro e w' ⟨rfl, rfl⟩)
            go_ret
            exact ⟨by rw [← H.out]; rfl, C0.out.trans (hb.mono C0.out.size)⟩
        · have k1 : decide ((j : Int) < (l.length : Int)) = false := by simp; omega
          have H : Hid (cmpI (l.length : Int) (m.length : Int) = R) := Lib.hid (by
            rw [hR]
            by_cases j2 : j < m.length
            · rw [lex_short j1 j2]; exact cmpI_lt (by omega)
            · rw [lex_same j1 j2]; exact cmpI_eq (by omega))
          clear hR
          go_wp2_with (go_at_call 31; refine (l8Int_any _ _ _).mono ?_; rintro e w' ⟨rfl, rfl⟩)
          go_ret
          exact ⟨by rw [← H.out]; rfl, C0.out.trans (hb.mono C0.out.size)⟩
      · obtain ⟨u1, u2⟩ := neI hz
        have Hz := Lib.hid hzR; clear hz hzR
        go_wp2
        all_goals
          go_ret
          exact ⟨by rw [Hz.out]; rfl, C0.out.trans (hb.mono C0.out.size)⟩
end Go.Proofs.Ytebfjikgececlaa

/-
  FnExactCompareRecords returns true for every two records. No condition.
-/
import Derived.Test.YtebfjikgececlaaCmpRec
import Derived.Test.YtebfjikgececlaaOpenRec
import Derived.Deep.RegionHeld3
import Derived.ProofKit
import Derived.OpenShut
import Derived.ShutString
import Derived.ChangeOld
namespace Go.Proofs.Ytebfjikgececlaa
open Go.ChangeShapes Go.WideShapes Go.ChangeAt Go.RowKit
open Go.ChangeMaps (open_string shut_string)
set_option linter.unusedVariables false
set_option linter.unusedSimpArgs false
set_option maxHeartbeats 4000000 in
theorem fnExactCompareRecords_walk {w : World} (s0 n0 m0 : Int) (a0 : Option Addr) (len0 cap0 : Nat) (z0 : List ByteArray) (w0 : ArgS w a0 len0 z0) (s1 n1 m1 : Int) (a1 : Option Addr) (len1 cap1 : Nat) (z1 : List ByteArray) (w1 : ArgS w a1 len1 z1) :
    Calls Try.prog 5 #[recV s0 n0 m0 a0 len0 cap0, recV s1 n1 m1 a1 len1 cap1] w fun e w' => e = .returned (.bool true) ∧ Below w.heap.size w w' := by
  obtain ⟨rfl, r0, f0, g0⟩ := w0
  obtain ⟨rfl, r1, f1, g1⟩ := w1
  have G0 := Lib.hid g0; clear g0
  have G1 := Lib.hid g1; clear g1
  obtain ⟨W0, hW0⟩ : ∃ W0, W0 = ((w.alloc (.cells #[.int .i64 s0, .int .i64 n0, .int .i64 m0, .slice a0 z0.length cap0] 28)).alloc (.cells #[.int .i64 s1, .int .i64 n1, .int .i64 m1, .slice a1 z1.length cap1] 28)) := ⟨_, rfl⟩
  have q0 : RecAt W0 w.heap.size s0 n0 m0 a0 z0.length cap0 := by rw [hW0]; exact (RecAt.new w _ _ _ _ _ _ _).below ((Below.refl _ _).alloc (Nat.le_refl _) _)
  have q1 : RecAt W0 (w.heap.size + 1) s1 n1 m1 a1 z1.length cap1 := by
    rw [hW0]
    have := RecAt.new (w.alloc (.cells #[.int .i64 s0, .int .i64 n0, .int .i64 m0, .slice a0 z0.length cap0] 28)) s1 n1 m1 a1 z1.length cap1 28
    simpa using this
  have c0 : Below w.heap.size w W0 := by rw [hW0]; exact ((Below.refl _ _).alloc (Nat.le_refl _) _).alloc (by simp) _
  have HW0 := Lib.hid hW0; clear hW0
  have Q0 := Lib.hid q0; have Q1 := Lib.hid q1
  obtain ⟨R, hR⟩ : ∃ R, cmpR s0 n0 m0 s1 n1 m1 z0 z1 = R := ⟨_, rfl⟩
  have HR := Lib.hid hR; clear hR
  have hRR : (R != R) = false := by simp
  by_cases h0 : (z0.length : Int) + sumS z0 ≤ 1048576
  · have H0 := Lib.hid (szS_yes h0)
    by_cases h1 : (z1.length : Int) + sumS z1 ≤ 1048576 - z0.length - sumS z0
    · have H1 := Lib.hid (szS_yes h1)
      (try unfold recV)
      go_enter Try.func5, Try.ntmps5
      go_wp2_with fail
      rw [← HW0.out]
      refine (szRecord_any s0 n0 m0 a0 cap0 z0 _ _ (r0.below c0) f0 G0 (by omega) (by omega)).mono ?_
      rintro e x1 ⟨rfl, b1⟩
      rw [H0.out]
      obtain ⟨p0, p1, p2, p3⟩ := Q1.out.below b1
      go_wp2_with fail
      refine (szRecord_any s1 n1 m1 a1 cap1 z1 _ _ (r1.below (c0.trans (b1.mono c0.size))) f1 G1 (by omega) (by omega)).mono ?_
      rintro e x2 ⟨rfl, b2⟩
      rw [H1.out]
      have b2' := b1.trans (b2.mono b1.size)
      clear p0 p1 p2 p3
      obtain ⟨p0, p1, p2, p3⟩ := Q0.out.below b2'
      obtain ⟨t0, t1, t2, t3⟩ := Q1.out.below b2'
      go_wp2
      clear p0 p1 p2 p3 t0 t1 t2 t3
      have B2 := Lib.hid b2'
      have hbig : w.heap.size ≤ W0.heap.size := c0.size
      go_region_held3 (fun W => Below W0.heap.size W0 W ∧ W.cell? ⟨w.heap.size, 0, none⟩ = some (.int .i64 s0) ∧ W.cell? ⟨w.heap.size, 1, none⟩ = some (.int .i64 n0) ∧ W.cell? ⟨w.heap.size, 2, none⟩ = some (.int .i64 m0) ∧ W.cell? ⟨w.heap.size, 3, none⟩ = some (.slice a0 z0.length cap0) ∧
          W.cell? ⟨w.heap.size + 1, 0, none⟩ = some (.int .i64 s1) ∧ W.cell? ⟨w.heap.size + 1, 1, none⟩ = some (.int .i64 n1) ∧ W.cell? ⟨w.heap.size + 1, 2, none⟩ = some (.int .i64 m1) ∧ W.cell? ⟨w.heap.size + 1, 3, none⟩ = some (.slice a1 z1.length cap1))
        (first | assumption | exact keepR2 Q0 Q1 B2.out.drew | exact keepR2 Q0 Q1 (stepB (by assumption) (by assumption)))
        (first
          | (go_at_call 15; with_reducible (show Calls _ _ #[.agg #[.int .i64 s0, .int .i64 n0, .int .i64 m0, .slice a0 z0.length cap0]] _ _); refine (toRecord_any s0 n0 m0 a0 cap0 z0 _ (r0.below (c0.trans (Below.mono (B := W0.heap.size) (And.left (by assumption)) hbig))) (by omega)).mono ?_; rintro e w' ⟨ga, rfl, hoa, hba⟩)
          | (go_at_call 15; with_reducible (show Calls _ _ #[.agg #[.int .i64 s1, .int .i64 n1, .int .i64 m1, .slice a1 z1.length cap1]] _ _); refine (toRecord_any s1 n1 m1 a1 cap1 z1 _ (r1.below (c0.trans (Below.mono (B := W0.heap.size) (And.left (by assumption)) hbig))) (by omega)).mono ?_; rintro e w' ⟨gb, rfl, hob, hbb⟩)
          | (go_at_call 18; refine (specCompareRecords s0 n0 m0 s1 n1 m1 _ _ _ _ z0 z1 _ (hoa.below hbb).at hob.at (by omega) (by omega)).mono ?_; rintro e w' ⟨rfl, hb⟩; rw [HR.out]))
      have c3 : Below W0.heap.size W0 w' := And.left (by assumption)
      obtain ⟨x3, hx3⟩ : ∃ x3, x3 = w' := ⟨_, rfl⟩
      rw [← hx3] at c3
      obtain ⟨p0, p1, p2, p3⟩ := Q0.out.below c3
      obtain ⟨t0, t1, t2, t3⟩ := Q1.out.below c3
      subst hx3
      go_wp2_with fail
      refine (toRecord_any s0 n0 m0 a0 cap0 z0 _ (r0.below (c0.trans (c3.mono hbig))) (by omega)).mono ?_
      rintro e x4 ⟨g4, rfl, o4, b4⟩
      have c4 := c3.trans (b4.mono c3.size)
      clear p0 p1 p2 p3 t0 t1 t2 t3
      have q4 : ∀ o, RecAt (x4.alloc o) (w.heap.size + 1) s1 n1 m1 a1 z1.length cap1 := fun o => Q1.out.below (c4.alloc c4.size o)
      have t0 := fun o => (q4 o).c0
      have t1 := fun o => (q4 o).c1
      have t2 := fun o => (q4 o).c2
      have t3 := fun o => (q4 o).c3
      clear q4
      go_wp2_with fail
      clear t0 t1 t2 t3
      have u5 := RecAt.new x4 s0 n0 m0 (some ⟨g4, 0, none⟩) z0.length z0.length 31
      have c5 := c4.alloc c4.size (.cells #[.int .i64 s0, .int .i64 n0, .int .i64 m0, .slice (some ⟨g4, 0, none⟩) z0.length z0.length] 31)
      have b5 : Below x4.heap.size x4 (x4.alloc (.cells #[.int .i64 s0, .int .i64 n0, .int .i64 m0, .slice (some ⟨g4, 0, none⟩) z0.length z0.length] 31)) := (Below.refl _ _).alloc (Nat.le_refl _) _
      generalize x4.alloc (.cells #[.int .i64 s0, .int .i64 n0, .int .i64 m0, .slice (some ⟨g4, 0, none⟩) z0.length z0.length] 31) = x5 at u5 c5 b5 ⊢
      have o5 := o4.below b5
      refine (toRecord_any s1 n1 m1 a1 cap1 z1 _ (r1.below (c0.trans (c5.mono hbig))) (by omega)).mono ?_
      rintro e x6 ⟨g6, rfl, o6, b6⟩
      have c6 := c5.trans (b6.mono c5.size)
      have u6 := u5.below b6
      have o6' := o5.below b6
      have q6 : ∀ o, RecAt (x6.alloc o) x4.heap.size s0 n0 m0 (some ⟨g4, 0, none⟩) z0.length z0.length := fun o => u6.below ((Below.refl _ _).alloc (Nat.le_refl _) o)
      have t0 := fun o => (q6 o).c0
      have t1 := fun o => (q6 o).c1
      have t2 := fun o => (q6 o).c2
      have t3 := fun o => (q6 o).c3
      clear q6
      go_wp2_with fail
      clear t0 t1 t2 t3
      have u7 := RecAt.new x6 s1 n1 m1 (some ⟨g6, 0, none⟩) z1.length z1.length 31
      have c7 := c6.alloc c6.size (.cells #[.int .i64 s1, .int .i64 n1, .int .i64 m1, .slice (some ⟨g6, 0, none⟩) z1.length z1.length] 31)
      have b7 : Below x6.heap.size x6 (x6.alloc (.cells #[.int .i64 s1, .int .i64 n1, .int .i64 m1, .slice (some ⟨g6, 0, none⟩) z1.length z1.length] 31)) := (Below.refl _ _).alloc (Nat.le_refl _) _
      generalize x6.alloc (.cells #[.int .i64 s1, .int .i64 n1, .int .i64 m1, .slice (some ⟨g6, 0, none⟩) z1.length z1.length] 31) = x7 at u7 c7 b7 ⊢
      refine (implCompareRecords s0 n0 m0 s1 n1 m1 _ _ _ _ z0 z1 _ ((o6'.below b7).at) ((o6.below b7).at) f0).mono ?_
      rintro e x8 ⟨rfl, b8⟩
      rw [HR.out]
      have c8 := c7.trans (b8.mono c7.size)
      have U0 := Lib.hid ((u6.below b7).below b8)
      have U1 := Lib.hid (u7.below b8)
      have K0 := Lib.hid (Q0.out.below c8)
      have K1 := Lib.hid (Q1.out.below c8)
      have R0 := Lib.hid (r0.below (c0.trans (c8.mono hbig)))
      have R1 := Lib.hid (r1.below (c0.trans (c8.mono hbig)))
      have V0 := Lib.hid ((o6'.below b7).below b8).at
      have V1 := Lib.hid ((o6.below b7).below b8).at
      clear u5 u6 u7 b5 b6 b7 c5 c6 c7 b8
      obtain ⟨B4, hB4⟩ : ∃ b, b = x4.heap.size := ⟨_, rfl⟩
      obtain ⟨B6, hB6⟩ : ∃ b, b = x6.heap.size := ⟨_, rfl⟩
      rw [← hB4] at U0 ⊢
      rw [← hB6] at U1 ⊢
      clear hB4 hB6
      go_wp2
      go_region_held3 (fun W => Below x8.heap.size x8 W ∧ W.cell? ⟨B4, 0, none⟩ = some (.int .i64 s0) ∧ W.cell? ⟨B4, 1, none⟩ = some (.int .i64 n0) ∧ W.cell? ⟨B4, 2, none⟩ = some (.int .i64 m0) ∧ W.cell? ⟨B4, 3, none⟩ = some (.slice (some ⟨g4, 0, none⟩) z0.length z0.length) ∧
          W.cell? ⟨w.heap.size, 0, none⟩ = some (.int .i64 s0) ∧ W.cell? ⟨w.heap.size, 1, none⟩ = some (.int .i64 n0) ∧ W.cell? ⟨w.heap.size, 2, none⟩ = some (.int .i64 m0) ∧ W.cell? ⟨w.heap.size, 3, none⟩ = some (.slice a0 z0.length cap0))
        (first | assumption | exact keepR2 U0 K0 (Below.refl _ _).drew | exact keepR2 U0 K0 (stepB (by assumption) (by assumption)))
        (first
          | (go_at_call 15; refine (toRecord_any s0 n0 m0 a0 cap0 z0 _ (R0.out.below (And.left (by assumption))) (by omega)).mono ?_; rintro e w' ⟨g, rfl, ho, hb⟩)
          | (go_at_call 17; refine (eqRecord_same s0 n0 m0 _ _ _ _ z0 _ (V0.out.below (And.left (by assumption))) ho.at f0).mono ?_; rintro e w' ⟨rfl, hb⟩))
      have c9 : Below x8.heap.size x8 w' := And.left (by assumption)
      obtain ⟨x9, hx9⟩ : ∃ x9, x9 = w' := ⟨_, rfl⟩
      rw [← hx9] at c9
      subst hx9
      go_wp2
      go_region_held3 (fun W => Below x8.heap.size x8 W ∧ W.cell? ⟨B6, 0, none⟩ = some (.int .i64 s1) ∧ W.cell? ⟨B6, 1, none⟩ = some (.int .i64 n1) ∧ W.cell? ⟨B6, 2, none⟩ = some (.int .i64 m1) ∧ W.cell? ⟨B6, 3, none⟩ = some (.slice (some ⟨g6, 0, none⟩) z1.length z1.length) ∧
          W.cell? ⟨w.heap.size + 1, 0, none⟩ = some (.int .i64 s1) ∧ W.cell? ⟨w.heap.size + 1, 1, none⟩ = some (.int .i64 n1) ∧ W.cell? ⟨w.heap.size + 1, 2, none⟩ = some (.int .i64 m1) ∧ W.cell? ⟨w.heap.size + 1, 3, none⟩ = some (.slice a1 z1.length cap1))
        (first | assumption | exact keepR2 U1 K1 c9.drew | exact keepR2 U1 K1 (stepB (by assumption) (by assumption)))
        (first
          | (go_at_call 15; refine (toRecord_any s1 n1 m1 a1 cap1 z1 _ (R1.out.below (And.left (by assumption))) (by omega)).mono ?_; rintro e w' ⟨g, rfl, ho, hb⟩)
          | (go_at_call 17; refine (eqRecord_same s1 n1 m1 _ _ _ _ z1 _ (V1.out.below (And.left (by assumption))) ho.at f1).mono ?_; rintro e w' ⟨rfl, hb⟩))
      have c10 : Below x8.heap.size x8 w' := And.left (by assumption)
      go_wp2
      go_ret
      exact ⟨rfl, (c0.trans (c8.mono hbig)).trans (c10.mono (by have := c8.size; omega))⟩
    · have H1 := Lib.hid (szS_no (l := z1) (left := 1048576 - z0.length - sumS z0) (by omega))
      (try unfold recV)
      go_enter Try.func5, Try.ntmps5
      go_wp2_with fail
      rw [← HW0.out]
      refine (szRecord_any s0 n0 m0 a0 cap0 z0 _ _ (r0.below c0) f0 G0 (by omega) (by omega)).mono ?_
      rintro e x1 ⟨rfl, b1⟩
      rw [H0.out]
      obtain ⟨p0, p1, p2, p3⟩ := Q1.out.below b1
      go_wp2_with fail
      refine (szRecord_any s1 n1 m1 a1 cap1 z1 _ _ (r1.below (c0.trans (b1.mono c0.size))) f1 G1 (by omega) (by omega)).mono ?_
      rintro e x2 ⟨rfl, b2⟩
      rw [H1.out]
      have b2' := b1.trans (b2.mono b1.size)
      go_wp2
      go_ret
      exact ⟨rfl, c0.trans (b2'.mono c0.size)⟩
  · have H0 := Lib.hid (szS_no (l := z0) (left := 1048576) (by omega))
    (try unfold recV)
    go_enter Try.func5, Try.ntmps5
    go_wp2_with fail
    rw [← HW0.out]
    refine (szRecord_any s0 n0 m0 a0 cap0 z0 _ _ (r0.below c0) f0 G0 (by omega) (by omega)).mono ?_
    rintro e x1 ⟨rfl, b1⟩
    rw [H0.out]
    go_wp2
    go_ret
    exact ⟨rfl, c0.trans (b1.mono c0.size)⟩
set_option maxRecDepth 100000 in
theorem fnExactCompareRecords_lifted (os : Os) (started : os.Started) (H : Type) (enc : TypeId × Value → H) :
    ReturnsInHanded {} Try.checked os 5 .any (Rows.fnExactCompareRecordsSpec.pre6 enc Try.prog Try.f5 Rows.fnExactCompareRecordsRow.domain false) (Rows.fnExactCompareRecordsSpec.post enc Try.prog Try.f5 false true false false) := by
  refine returnsInHanded_of_change (C := Try.checked) own started (by kernel_rfl) Try.func5
    (ChangeSpec.witness6 (enc := enc) (C := Try.checked) false ⟨#[], #[.agg #[.int .i64 0, .int .i64 0, .int .i64 0, .slice none 0 0], .agg #[.int .i64 0, .int .i64 0, .int .i64 0, .slice none 0 0]], []⟩ 8 (by kernel_rfl) (by kernel_rfl) (by kernel_rfl) (by kernel_rfl)) ?_
  intro W base args ds gs before hval0 hW hcnd hsz
  have hval : ∀ (j : Nat) t v, Try.f5.params[j]? = some t → args[j]? = some v → Value.okWide Try.prog W .any base t v := hval0
  have hW' := hW
  obtain ⟨p, q, hA0, hV, rfl, hfz, hnd⟩ := hW
  have hA : DataW.TrodAll enc Try.prog W 0 (fun _ => true) true Try.f5.params.toList args.toList ds p := hA0
  rw [Try.params5] at hA hval
  obtain ⟨v0, vs0, d0, ds0, p0, q0, hargs, rfl, rfl, h0, r0⟩ := trodAll_cons hA
  obtain ⟨v1, vs1, d1, ds1, p1, q1, rfl, rfl, rfl, h1, r1⟩ := trodAll_cons r0
  obtain ⟨rfl, rfl, rfl⟩ := trodAll_nil r1
  obtain rfl : args = #[v0, v1] := by cases args; simp_all
  obtain ⟨rfl, rfl⟩ := trodVars_none hV
  have k0 := h0
  have lt0 : ∀ x ∈ p0, x.block < W.heap.size := by obtain ⟨m, hm⟩ := k0; exact DataW.trod_lt m _ _ _ hm
  obtain ⟨s0, n0, m0, a0, len0, cap0, z0, rfl, w0⟩ := open_rec (hval 0 28 v0 rfl rfl) h0
  have k1 := h1
  have lt1 : ∀ x ∈ p1, x.block < W.heap.size := by obtain ⟨m, hm⟩ := k1; exact DataW.trod_lt m _ _ _ hm
  obtain ⟨s1, n1, m1, a1, len1, cap1, z1, rfl, w1⟩ := open_rec (hval 1 28 v1 rfl rfl) h1
  clear hA0 hval0
  refine (fnExactCompareRecords_walk (w := W) s0 n0 m0 a0 len0 cap0 z0 w0 s1 n1 m1 a1 len1 cap1 z1 w1).mono fun e W' ⟨he, bel⟩ => ?_
  subst he
  exact ⟨_, rfl, _, _, _, [], _, [], hW', trodAll_mk1 (shut_bool Try.underlying4 _), (trodAll_cons_mk (Below.trod laidOut (by kernel_rfl) (of_decide_eq_true (by kernel_rfl)) k0 bel lt0) (trodAll_cons_mk (Below.trod laidOut (by kernel_rfl) (of_decide_eq_true (by kernel_rfl)) k1 bel lt1) trodAll_mk0)), rfl, bel.frame _, fun h => by cases h⟩

theorem fnExactCompareRecords_over : Rows.fnExactCompareRecordsRow.holds Try.pinned (OpenSpec.ofChange Rows.fnExactCompareRecordsSpec) :=
  OpenClaim.holds_of_wide 5 Try.f5 rfl rfl rfl rfl rfl rfl rfl ⟨rfl, rfl, rfl, rfl, rfl⟩ rfl rfl rfl rfl rfl (by kernel_rfl) Try.func5 (by kernel_rfl)
    (of_decide_eq_true (by kernel_rfl)) (by unfold Func.isWrapper; first | (rw [if_pos (by decide +kernel)]; kernel_rfl) | (rw [if_neg (by decide +kernel)]; exact ⟨rfl, rfl⟩))
    (fun os started H enc _ => fnExactCompareRecords_lifted os started H enc)

theorem fnExactCompareRecords_holds : Rows.FnExactCompareRecordsSaid := fnExactCompareRecords_over
#print axioms fnExactCompareRecords_holds
end Go.Proofs.Ytebfjikgececlaa

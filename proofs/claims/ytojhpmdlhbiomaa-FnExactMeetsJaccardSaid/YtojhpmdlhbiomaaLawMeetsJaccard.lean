/-
  FnExactMeetsJaccard returns true for every two slices of strings and every int. No condition.
-/
import Derived.Test.YtojhpmdlhbiomaaMeets
import Derived.Test.YtojhpmdlhbiomaaStrs
import Derived.Test.YtojhpmdlhbiomaaOpen
import Derived.ProofKit
import Derived.OpenShut
import Derived.ShutString
import Derived.ChangeOld
namespace Go.Proofs.Ytojhpmdlhbiomaa
open Go.ChangeShapes Go.WideShapes Go.ChangeAt Go.RowKit
open Go.ChangeMaps (open_string shut_string)
set_option linter.unusedVariables false
set_option linter.unusedSimpArgs false
set_option maxHeartbeats 1000000 in
theorem fnExactMeetsJaccard_walk {w : World} (a0 : Option Addr) (len0 cap0 : Nat) (z0 : List ByteArray) (w0 : ArgS w a0 len0 z0) (a1 : Option Addr) (len1 cap1 : Nat) (z1 : List ByteArray) (w1 : ArgS w a1 len1 z1) (a2 : Int) (w2 : (Lit.int .i64 a2).wf = true) :
    Calls Try.prog 9 #[.slice a0 len0 cap0, .slice a1 len1 cap1, .int .i64 a2] w fun e w' => e = .returned (.bool true) ∧ Below w.heap.size w w' := by
  obtain ⟨rfl, r0, f0, g0⟩ := w0
  have G0 := Lib.hid g0; clear g0
  obtain ⟨rfl, r1, f1, g1⟩ := w1
  have G1 := Lib.hid g1; clear g1
  by_cases h0 : (z0.length : Int) + sumS z0 ≤ 1048576
  · have H0 := Lib.hid (szS_yes h0)
    by_cases h1 : (z1.length : Int) + sumS z1 ≤ 1048576 - z0.length - sumS z0
    · have H1 := Lib.hid (szS_yes h1)
      go_enter Try.func9, Try.ntmps9
      go_wp2_with fail
      refine (szStringS_any a0 cap0 z0 _ _ r0 f0 G0.out (by omega) (by omega)).mono ?_
      rintro e x0 ⟨rfl, rfl⟩
      rw [H0.out]
      go_wp2_with fail
      refine (szStringS_any a1 cap1 z1 _ _ r1 f1 G1.out (by omega) (by omega)).mono ?_
      rintro e x0 ⟨rfl, rfl⟩
      rw [H1.out]
      go_wp2_with fail
      refine (toStringS_any a0 cap0 z0 _ r0 (by omega)).mono ?_
      rintro e x1 ⟨p1, rfl, o1, b1⟩
      have c1 := b1
      go_wp2_with fail
      refine (toStringS_any a1 cap1 z1 _ (r1.below c1) (by omega)).mono ?_
      rintro e x2 ⟨p2, rfl, o2, b2⟩
      have c2 := c1.trans (b2.mono c1.size)
      go_wp2_with fail
      refine (specMeets _ _ _ _ z0 z1 _ _ ((o1.below b2).at) (o2.at) (by omega) (by omega) (by omega) (Lib.hid (fun k h => by have := sumS_ge h; omega)) (Lib.hid (fun k h => by have := sumS_ge h; omega))).mono ?_
      rintro e x3 ⟨rfl, b3⟩
      have c3 := c2.trans (b3.mono c2.size)
      go_wp2_with fail
      refine (toStringS_any a0 cap0 z0 _ (r0.below c3) (by omega)).mono ?_
      rintro e x4 ⟨p4, rfl, o4, b4⟩
      have c4 := c3.trans (b4.mono c3.size)
      go_wp2_with fail
      refine (toStringS_any a1 cap1 z1 _ (r1.below c4) (by omega)).mono ?_
      rintro e x5 ⟨p5, rfl, o5, b5⟩
      have c5 := c4.trans (b5.mono c4.size)
      go_wp2_with fail
      refine (implMeets _ _ _ _ z0 z1 _ _ ((o4.below b5).at) (o5.at) (by omega) (by omega) (Lib.hid (fun k h => by have := sumS_ge h; omega)) (Lib.hid (fun k h => by have := sumS_ge h; omega))).mono ?_
      rintro e x6 ⟨rfl, b6⟩
      have c6 := c5.trans (b6.mono c5.size)
      go_wp2_with fail
      refine (toStringS_any a0 cap0 z0 _ (r0.below c6) (by omega)).mono ?_
      rintro e x7 ⟨p7, rfl, o7, b7⟩
      have c7 := c6.trans (b7.mono c6.size)
      go_wp2_with fail
      refine (eqStringS_any _ _ _ _ z0 z0 _ ((((o4.below b5).below b6).below b7).at) (o7.at) f0).mono ?_
      rintro e x8 ⟨rfl, b8⟩
      have c8 := c7.trans (b8.mono c7.size)
      rw [show decide (z0 = z0) = true from decide_eq_true rfl]
      go_wp2_with fail
      refine (toStringS_any a1 cap1 z1 _ (r1.below c8) (by omega)).mono ?_
      rintro e x9 ⟨p9, rfl, o9, b9⟩
      have c9 := c8.trans (b9.mono c8.size)
      go_wp2_with fail
      refine (eqStringS_any _ _ _ _ z1 z1 _ (((((o5.below b6).below b7).below b8).below b9).at) (o9.at) f1).mono ?_
      rintro e x10 ⟨rfl, b10⟩
      have c10 := c9.trans (b10.mono c9.size)
      rw [show decide (z1 = z1) = true from decide_eq_true rfl]
      go_wp2
      go_ret
      exact ⟨rfl, c10⟩
    · have H1 := Lib.hid (szS_no (l := z1) (left := 1048576 - z0.length - sumS z0) (by omega))
      go_enter Try.func9, Try.ntmps9
      go_wp2_with fail
      refine (szStringS_any a0 cap0 z0 _ _ r0 f0 G0.out (by omega) (by omega)).mono ?_
      rintro e x0 ⟨rfl, rfl⟩
      rw [H0.out]
      go_wp2_with fail
      refine (szStringS_any a1 cap1 z1 _ _ r1 f1 G1.out (by omega) (by omega)).mono ?_
      rintro e x0 ⟨rfl, rfl⟩
      rw [H1.out]
      go_wp2
      go_ret
      exact ⟨rfl, Below.refl _ _⟩
  · have H0 := Lib.hid (szS_no (l := z0) (left := 1048576) (by omega))
    go_enter Try.func9, Try.ntmps9
    go_wp2_with fail
    refine (szStringS_any a0 cap0 z0 _ _ r0 f0 G0.out (by omega) (by omega)).mono ?_
    rintro e x0 ⟨rfl, rfl⟩
    rw [H0.out]
    go_wp2
    go_ret
    exact ⟨rfl, Below.refl _ _⟩

set_option maxRecDepth 100000 in
theorem fnExactMeetsJaccard_lifted (os : Os) (started : os.Started) (H : Type) (enc : TypeId × Value → H) :
    ReturnsInHanded {} Try.checked os 9 .any (Rows.fnExactMeetsJaccardSpec.pre6 enc Try.prog Try.f9 Rows.fnExactMeetsJaccardRow.domain false) (Rows.fnExactMeetsJaccardSpec.post enc Try.prog Try.f9 false true false false) := by
  refine returnsInHanded_of_change (C := Try.checked) own started (by kernel_rfl) Try.func9
    (ChangeSpec.witness6 (enc := enc) (C := Try.checked) false ⟨#[], #[.slice none 0 0, .slice none 0 0, .int .i64 0], []⟩ 8 (by kernel_rfl) (by kernel_rfl) (by kernel_rfl) (by kernel_rfl)) ?_
  intro W base args ds gs before hval0 hW hcnd hsz
  have hval : ∀ (j : Nat) t v, Try.f9.params[j]? = some t → args[j]? = some v → Value.okWide Try.prog W .any base t v := hval0
  have hW' := hW
  obtain ⟨p, q, hA0, hV, rfl, hfz, hnd⟩ := hW
  have hA : DataW.TrodAll enc Try.prog W 0 (fun _ => true) true Try.f9.params.toList args.toList ds p := hA0
  rw [Try.params9] at hA hval
  obtain ⟨v0, vs0, d0, ds0, p0, q0, hargs, rfl, rfl, h0, r0⟩ := trodAll_cons hA
  obtain ⟨v1, vs1, d1, ds1, p1, q1, rfl, rfl, rfl, h1, r1⟩ := trodAll_cons r0
  obtain ⟨v2, vs2, d2, ds2, p2, q2, rfl, rfl, rfl, h2, r2⟩ := trodAll_cons r1
  obtain ⟨rfl, rfl, rfl⟩ := trodAll_nil r2
  obtain rfl : args = #[v0, v1, v2] := by cases args; simp_all
  obtain ⟨rfl, rfl⟩ := trodVars_none hV
  obtain ⟨a0, len0, cap0, rfl⟩ := okWide_slice Try.underlying22 (hval 0 22 v0 rfl rfl)
  have k0 := h0
  have lt0 : ∀ x ∈ p0, x.block < W.heap.size := by obtain ⟨m, hm⟩ := k0; exact DataW.trod_lt m _ _ _ hm
  obtain ⟨z0, w0⟩ := open_strs_is Try.underlying22 Try.underlying9 (by kernel_rfl) h0
  obtain ⟨a1, len1, cap1, rfl⟩ := okWide_slice Try.underlying22 (hval 1 22 v1 rfl rfl)
  have k1 := h1
  have lt1 : ∀ x ∈ p1, x.block < W.heap.size := by obtain ⟨m, hm⟩ := k1; exact DataW.trod_lt m _ _ _ hm
  obtain ⟨z1, w1⟩ := open_strs_is Try.underlying22 Try.underlying9 (by kernel_rfl) h1
  obtain ⟨a2, rfl, rfl, rfl, w2⟩ := open_int Try.underlying3 (hval 2 3 v2 rfl rfl) h2
  clear hA0 hval0
  refine (fnExactMeetsJaccard_walk (w := W) a0 len0 cap0 z0 w0 a1 len1 cap1 z1 w1 a2 w2).mono fun e W' ⟨he, bel⟩ => ?_
  subst he
  exact ⟨_, rfl, _, _, _, [], _, [], hW', trodAll_mk1 (shut_bool Try.underlying4 _), (trodAll_cons_mk (Below.trod laidOut (by kernel_rfl) (of_decide_eq_true (by kernel_rfl)) k0 bel lt0) (trodAll_cons_mk (Below.trod laidOut (by kernel_rfl) (of_decide_eq_true (by kernel_rfl)) k1 bel lt1) (trodAll_cons_mk (shut_int Try.underlying3 w2) trodAll_mk0))), rfl, bel.frame _, fun h => by cases h⟩

theorem fnExactMeetsJaccard_over : Rows.fnExactMeetsJaccardRow.holds Try.pinned (OpenSpec.ofChange Rows.fnExactMeetsJaccardSpec) :=
  OpenClaim.holds_of_wide 9 Try.f9 rfl rfl rfl rfl rfl rfl rfl ⟨rfl, rfl, rfl, rfl, rfl⟩ rfl rfl rfl rfl rfl (by kernel_rfl) Try.func9 (by kernel_rfl)
    (of_decide_eq_true (by kernel_rfl)) (by unfold Func.isWrapper; first | (rw [if_pos (by decide +kernel)]; kernel_rfl) | (rw [if_neg (by decide +kernel)]; exact ⟨rfl, rfl⟩))
    (fun os started H enc _ => fnExactMeetsJaccard_lifted os started H enc)

theorem fnExactMeetsJaccard_holds : Rows.FnExactMeetsJaccardSaid := fnExactMeetsJaccard_over
#print axioms fnExactMeetsJaccard_holds
end Go.Proofs.Ytojhpmdlhbiomaa

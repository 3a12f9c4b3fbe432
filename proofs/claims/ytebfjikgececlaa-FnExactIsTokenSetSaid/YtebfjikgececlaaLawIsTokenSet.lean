/-
  FnExactIsTokenSet returns true for every slice of strings. No condition.
-/
import Derived.Test.YtebfjikgececlaaTokset
import Derived.Test.YtebfjikgececlaaOpen
import Derived.ProofKit
import Derived.OpenShut
import Derived.ShutString
import Derived.ChangeOld
namespace Go.Proofs.Ytebfjikgececlaa
open Go.ChangeShapes Go.WideShapes Go.ChangeAt Go.RowKit
open Go.ChangeMaps (open_string shut_string)
set_option linter.unusedVariables false
set_option linter.unusedSimpArgs false
set_option maxHeartbeats 1000000 in
theorem fnExactIsTokenSet_walk {w : World} (a0 : Option Addr) (len0 cap0 : Nat) (z0 : List ByteArray) (w0 : ArgS w a0 len0 z0) :
    Calls Try.prog 3 #[.slice a0 len0 cap0] w fun e w' => e = .returned (.bool true) ∧ Below w.heap.size w w' := by
  obtain ⟨rfl, r0, f0, g0⟩ := w0
  have G0 := Lib.hid g0; clear g0
  by_cases h0 : (z0.length : Int) + sumS z0 ≤ 1048576
  · have H0 := Lib.hid (szS_yes h0)
    go_enter Try.func3, Try.ntmps3
    go_wp2_with fail
    refine (szStringS_any a0 cap0 z0 _ _ r0 f0 G0.out (by omega) (by omega)).mono ?_
    rintro e x0 ⟨rfl, rfl⟩
    rw [H0.out]
    go_wp2_with fail
    refine (toStringS_any a0 cap0 z0 _ r0 (by omega)).mono ?_
    rintro e x1 ⟨p1, rfl, o1, b1⟩
    have c1 := b1
    go_wp2_with fail
    refine (specIsTokenSet _ _ z0 _ (o1.at) f0 (Lib.hid (fun k h => by have := sumS_ge h; omega))).mono ?_
    rintro e x2 ⟨rfl, b2⟩
    have c2 := c1.trans (b2.mono c1.size)
    go_wp2_with fail
    refine (toStringS_any a0 cap0 z0 _ (r0.below c2) (by omega)).mono ?_
    rintro e x3 ⟨p3, rfl, o3, b3⟩
    have c3 := c2.trans (b3.mono c2.size)
    go_wp2_with fail
    refine (implIsTokenSet _ _ z0 _ (o3.at) f0 (Lib.hid (fun k h => by have := sumS_ge h; omega))).mono ?_
    rintro e x4 ⟨rfl, b4⟩
    have c4 := c3.trans (b4.mono c3.size)
    go_wp2_with fail
    refine (toStringS_any a0 cap0 z0 _ (r0.below c4) (by omega)).mono ?_
    rintro e x5 ⟨p5, rfl, o5, b5⟩
    have c5 := c4.trans (b5.mono c4.size)
    go_wp2_with fail
    refine (eqStringS_any _ _ _ _ z0 z0 _ (((o3.below b4).below b5).at) (o5.at) f0).mono ?_
    rintro e x6 ⟨rfl, b6⟩
    have c6 := c5.trans (b6.mono c5.size)
    rw [show decide (z0 = z0) = true from decide_eq_true rfl]
    go_wp2
    go_ret
    exact ⟨rfl, c6⟩
  · have H0 := Lib.hid (szS_no (l := z0) (left := 1048576) (by omega))
    go_enter Try.func3, Try.ntmps3
    go_wp2_with fail
    refine (szStringS_any a0 cap0 z0 _ _ r0 f0 G0.out (by omega) (by omega)).mono ?_
    rintro e x0 ⟨rfl, rfl⟩
    rw [H0.out]
    go_wp2
    go_ret
    exact ⟨rfl, Below.refl _ _⟩

set_option maxRecDepth 100000 in
theorem fnExactIsTokenSet_lifted (os : Os) (started : os.Started) (H : Type) (enc : TypeId × Value → H) :
    ReturnsInHanded {} Try.checked os 3 .any (Rows.fnExactIsTokenSetSpec.pre6 enc Try.prog Try.f3 Rows.fnExactIsTokenSetRow.domain false) (Rows.fnExactIsTokenSetSpec.post enc Try.prog Try.f3 false true false false) := by
  refine returnsInHanded_of_change (C := Try.checked) own started (by kernel_rfl) Try.func3
    (ChangeSpec.witness6 (enc := enc) (C := Try.checked) false ⟨#[], #[.slice none 0 0], []⟩ 8 (by kernel_rfl) (by kernel_rfl) (by kernel_rfl) (by kernel_rfl)) ?_
  intro W base args ds gs before hval0 hW hcnd hsz
  have hval : ∀ (j : Nat) t v, Try.f3.params[j]? = some t → args[j]? = some v → Value.okWide Try.prog W .any base t v := hval0
  have hW' := hW
  obtain ⟨p, q, hA0, hV, rfl, hfz, hnd⟩ := hW
  have hA : DataW.TrodAll enc Try.prog W 0 (fun _ => true) true Try.f3.params.toList args.toList ds p := hA0
  rw [Try.params3] at hA hval
  obtain ⟨v0, vs0, d0, ds0, p0, q0, hargs, rfl, rfl, h0, r0⟩ := trodAll_cons hA
  obtain ⟨rfl, rfl, rfl⟩ := trodAll_nil r0
  obtain rfl : args = #[v0] := by cases args; simp_all
  obtain ⟨rfl, rfl⟩ := trodVars_none hV
  obtain ⟨a0, len0, cap0, rfl⟩ := okWide_slice Try.underlying22 (hval 0 22 v0 rfl rfl)
  have k0 := h0
  have lt0 : ∀ x ∈ p0, x.block < W.heap.size := by obtain ⟨m, hm⟩ := k0; exact DataW.trod_lt m _ _ _ hm
  obtain ⟨z0, w0⟩ := open_strs_is Try.underlying22 Try.underlying9 (by kernel_rfl) h0
  clear hA0 hval0
  refine (fnExactIsTokenSet_walk (w := W) a0 len0 cap0 z0 w0).mono fun e W' ⟨he, bel⟩ => ?_
  subst he
  exact ⟨_, rfl, _, _, _, [], _, [], hW', trodAll_mk1 (shut_bool Try.underlying4 _), (trodAll_cons_mk (Below.trod laidOut (by kernel_rfl) (of_decide_eq_true (by kernel_rfl)) k0 bel lt0) trodAll_mk0), rfl, bel.frame _, fun h => by cases h⟩

theorem fnExactIsTokenSet_over : Rows.fnExactIsTokenSetRow.holds Try.pinned (OpenSpec.ofChange Rows.fnExactIsTokenSetSpec) :=
  OpenClaim.holds_of_wide 3 Try.f3 rfl rfl rfl rfl rfl rfl rfl ⟨rfl, rfl, rfl, rfl, rfl⟩ rfl rfl rfl rfl rfl (by kernel_rfl) Try.func3 (by kernel_rfl)
    (of_decide_eq_true (by kernel_rfl)) (by unfold Func.isWrapper; first | (rw [if_pos (by decide +kernel)]; kernel_rfl) | (rw [if_neg (by decide +kernel)]; exact ⟨rfl, rfl⟩))
    (fun os started H enc _ => fnExactIsTokenSet_lifted os started H enc)

theorem fnExactIsTokenSet_holds : Rows.FnExactIsTokenSetSaid := fnExactIsTokenSet_over
#print axioms fnExactIsTokenSet_holds
end Go.Proofs.Ytebfjikgececlaa

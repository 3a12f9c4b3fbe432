/-
  FnExactCombineScores returns true for every two slices of ints. No condition.
-/
import Derived.Test.YtnnfjikfpihojaaComb
import Derived.Test.YtnnfjikfpihojaaOpen
import Derived.ProofKit
import Derived.OpenShut
import Derived.ShutString
import Derived.ChangeOld
namespace Go.Proofs.Ytnnfjikfpihojaa
open Go.ChangeShapes Go.WideShapes Go.ChangeAt Go.RowKit
open Go.ChangeMaps (open_string shut_string)
set_option linter.unusedVariables false
set_option linter.unusedSimpArgs false
set_option maxHeartbeats 1000000 in
theorem fnExactCombineScores_walk {w : World} (a0 : Option Addr) (len0 cap0 : Nat) (z0 : List Int) (w0 : ArgI w a0 len0 z0) (a1 : Option Addr) (len1 cap1 : Nat) (z1 : List Int) (w1 : ArgI w a1 len1 z1) :
    Calls Try.prog 6 #[.slice a0 len0 cap0, .slice a1 len1 cap1] w fun e w' => e = .returned (.bool true) ∧ Below w.heap.size w w' := by
  obtain ⟨rfl, r0, f0, g0⟩ := w0
  obtain ⟨rfl, r1, f1, g1⟩ := w1
  clear g0 g1
  by_cases hA : z0.length ≤ 1048576
  · by_cases hB : z1.length ≤ 1048576
    · go_enter Try.func6, Try.ntmps6
      go_wp2_with fail
      refine (toIntS_any a0 cap0 z0 _ r0 hA).mono ?_
      rintro e x1 ⟨p0, rfl, o0, b1⟩
      go_wp2_with fail
      refine (toIntS_any a1 cap1 z1 _ (r1.below b1) hB).mono ?_
      rintro e x2 ⟨p1, rfl, o1, b2⟩
      have b2' := b1.trans (b2.mono b1.size)
      go_wp2_with fail
      refine (specCombineScores _ _ _ _ z0 z1 _ (o0.below b2).at o1.at hA hB).mono ?_
      rintro e x3 ⟨rfl, b3⟩
      have b3' := b2'.trans (b3.mono b2'.size)
      go_wp2_with fail
      refine (toIntS_any a0 cap0 z0 _ (r0.below b3') hA).mono ?_
      rintro e x4 ⟨p2, rfl, o2, b4⟩
      have b4' := b3'.trans (b4.mono b3'.size)
      go_wp2_with fail
      refine (toIntS_any a1 cap1 z1 _ (r1.below b4') hB).mono ?_
      rintro e x5 ⟨p3, rfl, o3, b5⟩
      have b5' := b4'.trans (b5.mono b4'.size)
      go_wp2_with fail
      refine (implCombineScores _ _ _ _ z0 z1 _ (o2.below b5).at o3.at hA hB).mono ?_
      rintro e x6 ⟨rfl, b6⟩
      have b6' := b5'.trans (b6.mono b5'.size)
      go_wp2_with fail
      refine (toIntS_any a0 cap0 z0 _ (r0.below b6') hA).mono ?_
      rintro e x7 ⟨p4, rfl, o4, b7⟩
      have b7' := b6'.trans (b7.mono b6'.size)
      go_wp2_with fail
      refine (eqIntS_any _ _ _ _ z0 z0 _ (((o2.below b5).below b6).below b7).at o4.at f0).mono ?_
      rintro e x8 ⟨rfl, b8⟩
      have b8' := b7'.trans (b8.mono b7'.size)
      rw [show decide (z0 = z0) = true from decide_eq_true rfl]
      go_wp2_with fail
      refine (toIntS_any a1 cap1 z1 _ (r1.below b8') hB).mono ?_
      rintro e x9 ⟨p5, rfl, o5, b9⟩
      have b9' := b8'.trans (b9.mono b8'.size)
      go_wp2_with fail
      refine (eqIntS_any _ _ _ _ z1 z1 _ ((((o3.below b6).below b7).below b8).below b9).at o5.at f1).mono ?_
      rintro e x10 ⟨rfl, b10⟩
      have b10' := b9'.trans (b10.mono b9'.size)
      rw [show decide (z1 = z1) = true from decide_eq_true rfl]
      go_wp2
      go_ret
      exact ⟨rfl, b10'⟩
    · go_enter Try.func6, Try.ntmps6
      go_wp2
      go_ret
      exact ⟨rfl, Below.refl _ _⟩
  · go_enter Try.func6, Try.ntmps6
    go_wp2
    go_ret
    exact ⟨rfl, Below.refl _ _⟩

set_option maxRecDepth 100000 in
theorem fnExactCombineScores_lifted (os : Os) (started : os.Started) (H : Type) (enc : TypeId × Value → H) :
    ReturnsInHanded {} Try.checked os 6 .any (Rows.fnExactCombineScoresSpec.pre6 enc Try.prog Try.f6 Rows.fnExactCombineScoresRow.domain false) (Rows.fnExactCombineScoresSpec.post enc Try.prog Try.f6 false true false false) := by
  refine returnsInHanded_of_change (C := Try.checked) own started (by kernel_rfl) Try.func6
    (ChangeSpec.witness6 (enc := enc) (C := Try.checked) false ⟨#[], #[.slice none 0 0, .slice none 0 0], []⟩ 8 (by kernel_rfl) (by kernel_rfl) (by kernel_rfl) (by kernel_rfl)) ?_
  intro W base args ds gs before hval0 hW hcnd hsz
  have hval : ∀ (j : Nat) t v, Try.f6.params[j]? = some t → args[j]? = some v → Value.okWide Try.prog W .any base t v := hval0
  have hW' := hW
  obtain ⟨p, q, hA0, hV, rfl, hfz, hnd⟩ := hW
  have hA : DataW.TrodAll enc Try.prog W 0 (fun _ => true) true Try.f6.params.toList args.toList ds p := hA0
  rw [Try.params6] at hA hval
  obtain ⟨v0, vs0, d0, ds0, p0, q0, hargs, rfl, rfl, h0, r0⟩ := trodAll_cons hA
  obtain ⟨v1, vs1, d1, ds1, p1, q1, rfl, rfl, rfl, h1, r1⟩ := trodAll_cons r0
  obtain ⟨rfl, rfl, rfl⟩ := trodAll_nil r1
  obtain rfl : args = #[v0, v1] := by cases args; simp_all
  obtain ⟨rfl, rfl⟩ := trodVars_none hV
  obtain ⟨a0, len0, cap0, rfl⟩ := okWide_slice Try.underlying31 (hval 0 31 v0 rfl rfl)
  have k0 := h0
  have lt0 : ∀ x ∈ p0, x.block < W.heap.size := by obtain ⟨m, hm⟩ := k0; exact DataW.trod_lt m _ _ _ hm
  obtain ⟨z0, w0⟩ := open_ints_is Try.underlying31 Try.underlying3 (by kernel_rfl) h0
  obtain ⟨a1, len1, cap1, rfl⟩ := okWide_slice Try.underlying31 (hval 1 31 v1 rfl rfl)
  have k1 := h1
  have lt1 : ∀ x ∈ p1, x.block < W.heap.size := by obtain ⟨m, hm⟩ := k1; exact DataW.trod_lt m _ _ _ hm
  obtain ⟨z1, w1⟩ := open_ints_is Try.underlying31 Try.underlying3 (by kernel_rfl) h1
  clear hA0 hval0
  refine (fnExactCombineScores_walk (w := W) a0 len0 cap0 z0 w0 a1 len1 cap1 z1 w1).mono fun e W' ⟨he, bel⟩ => ?_
  subst he
  exact ⟨_, rfl, _, _, _, [], _, [], hW', trodAll_mk1 (shut_bool Try.underlying4 _), (trodAll_cons_mk (Below.trod laidOut (by kernel_rfl) (of_decide_eq_true (by kernel_rfl)) k0 bel lt0) (trodAll_cons_mk (Below.trod laidOut (by kernel_rfl) (of_decide_eq_true (by kernel_rfl)) k1 bel lt1) trodAll_mk0)), rfl, bel.frame _, fun h => by cases h⟩

theorem fnExactCombineScores_over : Rows.fnExactCombineScoresRow.holds Try.pinned (OpenSpec.ofChange Rows.fnExactCombineScoresSpec) :=
  OpenClaim.holds_of_wide 6 Try.f6 rfl rfl rfl rfl rfl rfl rfl ⟨rfl, rfl, rfl, rfl, rfl⟩ rfl rfl rfl rfl rfl (by kernel_rfl) Try.func6 (by kernel_rfl)
    (of_decide_eq_true (by kernel_rfl)) (by unfold Func.isWrapper; first | (rw [if_pos (by decide +kernel)]; kernel_rfl) | (rw [if_neg (by decide +kernel)]; exact ⟨rfl, rfl⟩))
    (fun os started H enc _ => fnExactCombineScores_lifted os started H enc)

theorem fnExactCombineScores_holds : Rows.FnExactCombineScoresSaid := fnExactCombineScores_over
#print axioms fnExactCombineScores_holds
end Go.Proofs.Ytnnfjikfpihojaa

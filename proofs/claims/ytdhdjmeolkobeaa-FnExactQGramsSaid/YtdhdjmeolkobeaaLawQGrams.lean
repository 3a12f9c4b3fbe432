/-
  FnExactQGrams returns true for every string and number. No condition.
-/
import Derived.Test.YtdhdjmeolkobeaaGrams
import Derived.Test.YtdhdjmeolkobeaaUp
import Derived.ProofKit
import Derived.OpenShut
import Derived.ShutString
import Derived.ChangeOld
namespace Go.Proofs.Ytdhdjmeolkobeaa
open Go.ChangeShapes Go.WideShapes Go.ChangeAt Go.RowKit
open Go.ChangeMaps (open_string shut_string)
set_option linter.unusedVariables false
set_option linter.unusedSimpArgs false
set_option maxRecDepth 100000 in
set_option maxHeartbeats 4000000 in
theorem fnExactQGrams_walk  (a0 : ByteArray) (w0 : a0.size ≤ maxLen) (a1 : Int) (w1 : (Lit.int .i64 a1).wf = true) (w : World) :
    Calls Try.prog 4 #[.string a0, .int .i64 a1] w fun e w' => e = .returned (.bool true) ∧ Below w.heap.size w w' := by
  unfold maxLen at w0
  by_cases hs0 : a0.size ≤ 1048576
  · skip
    have hLl0 : (qgr a0 a1).length ≤ 4000000 := (by have := qgr_len a0 a1; omega)
    obtain ⟨L, hL⟩ : ∃ L, qgr a0 a1 = L := ⟨_, rfl⟩
    rw [hL] at hLl0
    have hLl : L.length ≤ 4000000 := hLl0
    have HL := Lib.hid hL
    clear hL hLl0
    go_enter Try.func4, Try.ntmps4
    go_wp2_with fail
    refine (specQGrams a0 a1 _ hs0 (i64q w1).1 (i64q w1).2).mono ?_
    rintro e x1 ⟨bw, ow, cw, rfl, rw0, _, b⟩
    rw [HL.out] at rw0 ⊢
    have C1 := Lib.hid b
    have RW1 := Lib.hid rw0.up
    clear rw0 b
    go_wp2_with fail
    refine (implQGrams a0 a1 _ hs0 (i64q w1).1 (i64q w1).2).mono ?_
    rintro e x2 ⟨gg, cg, rfl, hB⟩
    rw [HL.out] at hB ⊢
    have b := hB.bel
    have C2 := Lib.hid (C1.out.trans (b.mono C1.out.size))
    have i2 : x1.heap.size ≤ x2.heap.size := b.size
    have RW2 := Lib.hid (RW1.out.below b)
    clear RW1
    have GG2 := Lib.hid hB.row.inn
    clear hB b
    go_wp2_with fail
    refine (eqStringS_any gg _ cg _ L L _ GG2.out.at RW2.out.at (by omega)).mono ?_
    rintro e x3 ⟨rfl, b⟩
    rw [show decide (L = L) = true from decide_eq_true rfl]
    have C3 := Lib.hid (C2.out.trans (b.mono C2.out.size))
    have i3 : x2.heap.size ≤ x3.heap.size := b.size
    have RW3 := Lib.hid (RW2.out.below b)
    clear RW2
    have GG3 := Lib.hid (GG2.out.below b)
    clear GG2
    clear b
    go_wp2_with fail
    refine (markStringS_any (lo := x1.heap.size) (hi := x2.heap.size) gg cg L 1 x3 GG3.out (by omega) (by omega)).mono ?_
    rintro e x4 ⟨rfl, g, h⟩
    have hlo : w.heap.size ≤ x1.heap.size := C1.out.size
    have C4 := Lib.hid (C3.out.trans (h.below (B := w.heap.size) (hlo) C3.out.size))
    have i4 : x3.heap.size ≤ x4.heap.size := h.size
    have RW4 := Lib.hid (RW3.out.only h (by omega))
    clear RW3
    have GG4 := Lib.hid g
    clear g h hlo GG3
    go_wp2_with fail
    refine (heldStringS_any gg cg L.length 1 x4 GG4.out.at (by omega) (by omega)).mono ?_
    rintro e x5 ⟨rfl, b⟩
    have C5 := Lib.hid (C4.out.trans (b.mono C4.out.size))
    have i5 : x4.heap.size ≤ x5.heap.size := b.size
    have RW5 := Lib.hid (RW4.out.below b)
    clear RW4
    have GG5 := Lib.hid (GG4.out.below b)
    clear GG4
    clear b
    have d2 : decide (((1 + L.length : Nat) : Int) < 0) = false := by simp; omega
    have d3 : (((1 + L.length : Nat) : Int) != ((1 + L.length : Nat) : Int)) = false := by simp
    go_wp2_with fail
    refine (implQGrams a0 a1 _ hs0 (i64q w1).1 (i64q w1).2).mono ?_
    rintro e x6 ⟨gh, ch, rfl, hB⟩
    rw [HL.out] at hB ⊢
    have b := hB.bel
    have C6 := Lib.hid (C5.out.trans (b.mono C5.out.size))
    have i6 : x5.heap.size ≤ x6.heap.size := b.size
    have RW6 := Lib.hid (RW5.out.below b)
    clear RW5
    have GG6 := Lib.hid (GG5.out.below b)
    clear GG5
    have HH6 := Lib.hid hB.row
    clear hB b
    go_wp2_with fail
    refine (eqStringS_any gh _ ch _ L L _ HH6.out.at RW6.out.at (by omega)).mono ?_
    rintro e x7 ⟨rfl, b⟩
    rw [show decide (L = L) = true from decide_eq_true rfl]
    have C7 := Lib.hid (C6.out.trans (b.mono C6.out.size))
    have i7 : x6.heap.size ≤ x7.heap.size := b.size
    have RW7 := Lib.hid (RW6.out.below b)
    clear RW6
    have GG7 := Lib.hid (GG6.out.below b)
    clear GG6
    have HH7 := Lib.hid (HH6.out.below b)
    clear HH6
    clear b
    go_wp2_with fail
    refine (heldStringS_any gg cg L.length 1 x7 GG7.out.at (by omega) (by omega)).mono ?_
    rintro e x8 ⟨rfl, b⟩
    have C8 := Lib.hid (C7.out.trans (b.mono C7.out.size))
    have i8 : x7.heap.size ≤ x8.heap.size := b.size
    have RW8 := Lib.hid (RW7.out.below b)
    clear RW7
    have GG8 := Lib.hid (GG7.out.below b)
    clear GG7
    have HH8 := Lib.hid (HH7.out.below b)
    clear HH7
    clear b
    go_wp2
    go_ret
    exact ⟨rfl, C8.out⟩
  · go_enter Try.func4, Try.ntmps4
    go_wp2
    go_ret
    exact ⟨rfl, Below.refl _ _⟩

set_option maxRecDepth 100000 in
theorem fnExactQGrams_lifted (os : Os) (started : os.Started) (H : Type) (enc : TypeId × Value → H) :
    ReturnsInHanded {} Try.checked os 4 .any (Rows.fnExactQGramsSpec.pre6 enc Try.prog Try.f4 Rows.fnExactQGramsRow.domain false) (Rows.fnExactQGramsSpec.post enc Try.prog Try.f4 false true false false) := by
  refine returnsInHanded_of_change (C := Try.checked) own started (by kernel_rfl) Try.func4
    (ChangeSpec.witness6 (enc := enc) (C := Try.checked) false ⟨#[], #[.string ByteArray.empty, .int .i64 0], []⟩ 8 (by kernel_rfl) (by kernel_rfl) (by kernel_rfl) (by kernel_rfl)) ?_
  intro W base args ds gs before hval0 hW hcnd hsz
  have hval : ∀ (j : Nat) t v, Try.f4.params[j]? = some t → args[j]? = some v → Value.okWide Try.prog W .any base t v := hval0
  have hW' := hW
  obtain ⟨p, q, hA0, hV, rfl, hfz, hnd⟩ := hW
  have hA : DataW.TrodAll enc Try.prog W 0 (fun _ => true) true Try.f4.params.toList args.toList ds p := hA0
  rw [Try.params4] at hA hval
  obtain ⟨v0, vs0, d0, ds0, p0, q0, hargs, rfl, rfl, h0, r0⟩ := trodAll_cons hA
  obtain ⟨v1, vs1, d1, ds1, p1, q1, rfl, rfl, rfl, h1, r1⟩ := trodAll_cons r0
  obtain ⟨rfl, rfl, rfl⟩ := trodAll_nil r1
  obtain rfl : args = #[v0, v1] := by cases args; simp_all
  obtain ⟨rfl, rfl⟩ := trodVars_none hV
  obtain ⟨a0, rfl, rfl, rfl, w0⟩ := open_string Try.underlying9 (hval 0 9 v0 rfl rfl) h0
  obtain ⟨a1, rfl, rfl, rfl, w1⟩ := open_int Try.underlying3 (hval 1 3 v1 rfl rfl) h1
  clear hA0 hval0
  refine (fnExactQGrams_walk a0 w0 a1 w1 W).mono fun e W' ⟨he, bel⟩ => ?_
  subst he
  exact ⟨_, rfl, _, _, _, [], _, [], hW', trodAll_mk1 (shut_bool Try.underlying4 _), (trodAll_cons_mk (shut_string Try.underlying9 w0) (trodAll_cons_mk (shut_int Try.underlying3 w1) trodAll_mk0)), rfl, bel.frame _, fun h => by cases h⟩

theorem fnExactQGrams_over : Rows.fnExactQGramsRow.holds Try.pinned (OpenSpec.ofChange Rows.fnExactQGramsSpec) :=
  OpenClaim.holds_of_wide 4 Try.f4 rfl rfl rfl rfl rfl rfl rfl ⟨rfl, rfl, rfl, rfl, rfl⟩ rfl rfl rfl rfl rfl (by kernel_rfl) Try.func4 (by kernel_rfl)
    (of_decide_eq_true (by kernel_rfl)) (by unfold Func.isWrapper; first | (rw [if_pos (by decide +kernel)]; kernel_rfl) | (rw [if_neg (by decide +kernel)]; exact ⟨rfl, rfl⟩))
    (fun os started H enc _ => fnExactQGrams_lifted os started H enc)

theorem fnExactQGrams_holds : Rows.FnExactQGramsSaid := fnExactQGrams_over
#print axioms fnExactQGrams_holds
end Go.Proofs.Ytdhdjmeolkobeaa

/-
  FnExactCommonTokens returns true for every two slices of strings. No condition.
-/
import Derived.Test.YtdhdjmeolkobeaaCommon
import Derived.Test.YtdhdjmeolkobeaaUp
import Derived.Test.YtdhdjmeolkobeaaOpen
import Derived.ProofKit
import Derived.OpenShut
import Derived.ShutString
import Derived.ChangeOld
namespace Go.Proofs.Ytdhdjmeolkobeaa
open Go.ChangeShapes Go.WideShapes Go.ChangeAt Go.RowKit
open Go.ChangeMaps (open_string shut_string)
set_option linter.unusedVariables false
set_option linter.unusedSimpArgs false
theorem comL_len0 (a b : List ByteArray) : (comL a b).length ≤ a.length := by
  unfold comL; exact Nat.le_trans (putsL_le _) (List.length_filter_le _ _)
set_option maxRecDepth 100000 in
set_option maxHeartbeats 4000000 in
theorem fnExactCommonTokens_walk {w : World} (a0 : Option Addr) (len0 cap0 : Nat) (z0 : List ByteArray) (w0 : ArgS w a0 len0 z0) (a1 : Option Addr) (len1 cap1 : Nat) (z1 : List ByteArray) (w1 : ArgS w a1 len1 z1) :
    Calls Try.prog 6 #[.slice a0 len0 cap0, .slice a1 len1 cap1] w fun e w' => e = .returned (.bool true) ∧ Below w.heap.size w w' := by
  obtain ⟨rfl, r0, f0, g0⟩ := w0
  have G0 := Lib.hid g0; clear g0
  obtain ⟨rfl, r1, f1, g1⟩ := w1
  have G1 := Lib.hid g1; clear g1
  by_cases hz0 : (z0.length : Int) + sumS z0 ≤ 1048576
  · have H0 := Lib.hid (szS_yes hz0)
    by_cases hz1 : (z1.length : Int) + sumS z1 ≤ 1048576 - z0.length - sumS z0
    · have H1 := Lib.hid (szS_yes hz1)
      have hLl0 : (comL z0 z1).length ≤ 4000000 := (by have := comL_len0 z0 z1; omega)
      obtain ⟨L, hL⟩ : ∃ L, comL z0 z1 = L := ⟨_, rfl⟩
      rw [hL] at hLl0
      have hLl : L.length ≤ 4000000 := hLl0
      have HL := Lib.hid hL
      clear hL hLl0
      go_enter Try.func6, Try.ntmps6
      go_wp2_with fail
      refine (szStringS_any a0 cap0 z0 _ _ r0 f0 G0.out (by omega) (by omega)).mono ?_
      rintro e x0 ⟨rfl, rfl⟩
      rw [H0.out]
      go_wp2_with fail
      refine (szStringS_any a1 cap1 z1 _ _ r1 f1 G1.out (by omega) (by omega)).mono ?_
      rintro e x0 ⟨rfl, rfl⟩
      rw [H1.out]
      go_wp2_with fail
      refine (toStringS_any a0 cap0 z0 _ r0 (by omega)).mono ?_
      rintro e x1 ⟨pSA0, rfl, o, b⟩
      have C1 := Lib.hid b
      have SA01 := Lib.hid o.inn
      clear o b
      go_wp2_with fail
      refine (toStringS_any a1 cap1 z1 _ (r1.below C1.out) (by omega)).mono ?_
      rintro e x2 ⟨pSA1, rfl, o, b⟩
      have C2 := Lib.hid (C1.out.trans (b.mono C1.out.size))
      have i2 : x1.heap.size ≤ x2.heap.size := b.size
      have SA02 := Lib.hid (SA01.out.below b)
      clear SA01
      have SA12 := Lib.hid o.inn
      clear o b
      go_wp2_with fail
      refine (specCommon _ _ _ _ z0 z1 _ SA02.out.at SA12.out.at (by omega) (by omega)).mono ?_
      rintro e x3 ⟨bw, ow, cw, rfl, rw0, _, b⟩
      rw [HL.out] at rw0 ⊢
      have C3 := Lib.hid (C2.out.trans (b.mono C2.out.size))
      have i3 : x2.heap.size ≤ x3.heap.size := b.size
      have SA03 := Lib.hid (SA02.out.below b)
      clear SA02
      have SA13 := Lib.hid (SA12.out.below b)
      clear SA12
      have RW3 := Lib.hid rw0.up
      clear rw0 b
      clear SA03
      clear SA13
      go_wp2_with fail
      refine (toStringS_any a0 cap0 z0 _ (r0.below C3.out) (by omega)).mono ?_
      rintro e x4 ⟨pXA0, rfl, o, b⟩
      have C4 := Lib.hid (C3.out.trans (b.mono C3.out.size))
      have i4 : x3.heap.size ≤ x4.heap.size := b.size
      have RW4 := Lib.hid (RW3.out.below b)
      clear RW3
      have XA04 := Lib.hid o.inn
      clear o b
      go_wp2_with fail
      refine (toStringS_any a1 cap1 z1 _ (r1.below C4.out) (by omega)).mono ?_
      rintro e x5 ⟨pXA1, rfl, o, b⟩
      have C5 := Lib.hid (C4.out.trans (b.mono C4.out.size))
      have i5 : x4.heap.size ≤ x5.heap.size := b.size
      have RW5 := Lib.hid (RW4.out.below b)
      clear RW4
      have XA05 := Lib.hid (XA04.out.below b)
      clear XA04
      have XA15 := Lib.hid o.inn
      clear o b
      go_wp2_with fail
      refine (implCommon _ _ _ _ _ z0 z1 _ XA05.out.at XA15.out.at (by omega) (by omega)).mono ?_
      rintro e x6 ⟨gg, cg, rfl, hB⟩
      rw [HL.out] at hB ⊢
      have b := hB.bel
      have C6 := Lib.hid (C5.out.trans (b.mono C5.out.size))
      have i6 : x5.heap.size ≤ x6.heap.size := b.size
      have RW6 := Lib.hid (RW5.out.below b)
      clear RW5
      have XA06 := Lib.hid (XA05.out.below b)
      clear XA05
      have XA16 := Lib.hid (XA15.out.below b)
      clear XA15
      have GG6 := Lib.hid hB.row.inn
      clear hB b
      go_wp2_with fail
      refine (eqStringS_any gg _ cg _ L L _ GG6.out.at RW6.out.at (by omega)).mono ?_
      rintro e x7 ⟨rfl, b⟩
      rw [show decide (L = L) = true from decide_eq_true rfl]
      have C7 := Lib.hid (C6.out.trans (b.mono C6.out.size))
      have i7 : x6.heap.size ≤ x7.heap.size := b.size
      have RW7 := Lib.hid (RW6.out.below b)
      clear RW6
      have XA07 := Lib.hid (XA06.out.below b)
      clear XA06
      have XA17 := Lib.hid (XA16.out.below b)
      clear XA16
      have GG7 := Lib.hid (GG6.out.below b)
      clear GG6
      clear b
      go_wp2_with fail
      refine (toStringS_any a0 cap0 z0 _ (r0.below C7.out) (by omega)).mono ?_
      rintro e x8 ⟨pYA, rfl, o, b⟩
      have C8 := Lib.hid (C7.out.trans (b.mono C7.out.size))
      have i8 : x7.heap.size ≤ x8.heap.size := b.size
      have RW8 := Lib.hid (RW7.out.below b)
      clear RW7
      have XA08 := Lib.hid (XA07.out.below b)
      clear XA07
      have XA18 := Lib.hid (XA17.out.below b)
      clear XA17
      have GG8 := Lib.hid (GG7.out.below b)
      clear GG7
      have YA8 := Lib.hid o.inn
      clear o b
      go_wp2_with fail
      refine (eqStringS_any _ _ _ _ z0 z0 _ XA08.out.at YA8.out.at (f0)).mono ?_
      rintro e x9 ⟨rfl, b⟩
      rw [show decide (z0 = z0) = true from decide_eq_true rfl]
      have C9 := Lib.hid (C8.out.trans (b.mono C8.out.size))
      have i9 : x8.heap.size ≤ x9.heap.size := b.size
      have RW9 := Lib.hid (RW8.out.below b)
      clear RW8
      have XA09 := Lib.hid (XA08.out.below b)
      clear XA08
      have XA19 := Lib.hid (XA18.out.below b)
      clear XA18
      have GG9 := Lib.hid (GG8.out.below b)
      clear GG8
      have YA9 := Lib.hid (YA8.out.below b)
      clear YA8
      clear b
      clear YA9
      go_wp2_with fail
      refine (toStringS_any a1 cap1 z1 _ (r1.below C9.out) (by omega)).mono ?_
      rintro e x10 ⟨pYA, rfl, o, b⟩
      have C10 := Lib.hid (C9.out.trans (b.mono C9.out.size))
      have i10 : x9.heap.size ≤ x10.heap.size := b.size
      have RW10 := Lib.hid (RW9.out.below b)
      clear RW9
      have XA010 := Lib.hid (XA09.out.below b)
      clear XA09
      have XA110 := Lib.hid (XA19.out.below b)
      clear XA19
      have GG10 := Lib.hid (GG9.out.below b)
      clear GG9
      have YA10 := Lib.hid o.inn
      clear o b
      go_wp2_with fail
      refine (eqStringS_any _ _ _ _ z1 z1 _ XA110.out.at YA10.out.at (f1)).mono ?_
      rintro e x11 ⟨rfl, b⟩
      rw [show decide (z1 = z1) = true from decide_eq_true rfl]
      have C11 := Lib.hid (C10.out.trans (b.mono C10.out.size))
      have i11 : x10.heap.size ≤ x11.heap.size := b.size
      have RW11 := Lib.hid (RW10.out.below b)
      clear RW10
      have XA011 := Lib.hid (XA010.out.below b)
      clear XA010
      have XA111 := Lib.hid (XA110.out.below b)
      clear XA110
      have GG11 := Lib.hid (GG10.out.below b)
      clear GG10
      have YA11 := Lib.hid (YA10.out.below b)
      clear YA10
      clear b
      clear YA11
      go_wp2_with fail
      refine (markStringS_any (lo := x3.heap.size) (hi := x4.heap.size) (some ⟨pXA0, 0, none⟩) z0.length z0 (1) x11 XA011.out (by omega) (by omega)).mono ?_
      rintro e x12 ⟨rfl, g, h⟩
      have hlo : w.heap.size ≤ x3.heap.size := C3.out.size
      have C12 := Lib.hid (C11.out.trans (h.below (B := w.heap.size) (hlo) C11.out.size))
      have i12 : x11.heap.size ≤ x12.heap.size := h.size
      have RW12 := Lib.hid (RW11.out.only h (by omega))
      clear RW11
      have XA112 := Lib.hid (XA111.out.only h (by omega))
      clear XA111
      have GG12 := Lib.hid (GG11.out.only h (by omega))
      clear GG11
      have XA012 := Lib.hid g
      clear g h hlo XA011
      clear XA012
      go_wp2_with fail
      refine (markStringS_any (lo := x4.heap.size) (hi := x5.heap.size) (some ⟨pXA1, 0, none⟩) z1.length z1 (1 + z0.length) x12 XA112.out (by omega) (by omega)).mono ?_
      rintro e x13 ⟨rfl, g, h⟩
      have hlo : w.heap.size ≤ x4.heap.size := C4.out.size
      have C13 := Lib.hid (C12.out.trans (h.below (B := w.heap.size) (hlo) C12.out.size))
      have i13 : x12.heap.size ≤ x13.heap.size := h.size
      have RW13 := Lib.hid (RW12.out.only h (by omega))
      clear RW12
      have GG13 := Lib.hid (GG12.out.only h (by omega))
      clear GG12
      have XA113 := Lib.hid g
      clear g h hlo XA112
      clear XA113
      have d1 : decide (((1 + z0.length + z1.length : Nat) : Int) < 0) = false := by simp; omega
      go_wp2_with fail
      refine (eqStringS_any gg _ cg _ L L _ GG13.out.at RW13.out.at (by omega)).mono ?_
      rintro e x14 ⟨rfl, b⟩
      rw [show decide (L = L) = true from decide_eq_true rfl]
      have C14 := Lib.hid (C13.out.trans (b.mono C13.out.size))
      have i14 : x13.heap.size ≤ x14.heap.size := b.size
      have RW14 := Lib.hid (RW13.out.below b)
      clear RW13
      have GG14 := Lib.hid (GG13.out.below b)
      clear GG13
      clear b
      (try clear d1)
      go_wp2_with fail
      refine (markStringS_any (lo := x5.heap.size) (hi := x6.heap.size) gg cg L 1 x14 GG14.out (by omega) (by omega)).mono ?_
      rintro e x15 ⟨rfl, g, h⟩
      have hlo : w.heap.size ≤ x5.heap.size := C5.out.size
      have C15 := Lib.hid (C14.out.trans (h.below (B := w.heap.size) (hlo) C14.out.size))
      have i15 : x14.heap.size ≤ x15.heap.size := h.size
      have RW15 := Lib.hid (RW14.out.only h (by omega))
      clear RW14
      have GG15 := Lib.hid g
      clear g h hlo GG14
      go_wp2_with fail
      refine (heldStringS_any gg cg L.length 1 x15 GG15.out.at (by omega) (by omega)).mono ?_
      rintro e x16 ⟨rfl, b⟩
      have C16 := Lib.hid (C15.out.trans (b.mono C15.out.size))
      have i16 : x15.heap.size ≤ x16.heap.size := b.size
      have RW16 := Lib.hid (RW15.out.below b)
      clear RW15
      have GG16 := Lib.hid (GG15.out.below b)
      clear GG15
      clear b
      have d2 : decide (((1 + L.length : Nat) : Int) < 0) = false := by simp; omega
      have d3 : (((1 + L.length : Nat) : Int) != ((1 + L.length : Nat) : Int)) = false := by simp
      go_wp2_with fail
      refine (toStringS_any a0 cap0 z0 _ (r0.below C16.out) (by omega)).mono ?_
      rintro e x17 ⟨pZA0, rfl, o, b⟩
      have C17 := Lib.hid (C16.out.trans (b.mono C16.out.size))
      have i17 : x16.heap.size ≤ x17.heap.size := b.size
      have RW17 := Lib.hid (RW16.out.below b)
      clear RW16
      have GG17 := Lib.hid (GG16.out.below b)
      clear GG16
      have ZA017 := Lib.hid o.inn
      clear o b
      go_wp2_with fail
      refine (toStringS_any a1 cap1 z1 _ (r1.below C17.out) (by omega)).mono ?_
      rintro e x18 ⟨pZA1, rfl, o, b⟩
      have C18 := Lib.hid (C17.out.trans (b.mono C17.out.size))
      have i18 : x17.heap.size ≤ x18.heap.size := b.size
      have RW18 := Lib.hid (RW17.out.below b)
      clear RW17
      have GG18 := Lib.hid (GG17.out.below b)
      clear GG17
      have ZA018 := Lib.hid (ZA017.out.below b)
      clear ZA017
      have ZA118 := Lib.hid o.inn
      clear o b
      go_wp2_with fail
      refine (implCommon _ _ _ _ _ z0 z1 _ ZA018.out.at ZA118.out.at (by omega) (by omega)).mono ?_
      rintro e x19 ⟨gh, ch, rfl, hB⟩
      rw [HL.out] at hB ⊢
      have b := hB.bel
      have C19 := Lib.hid (C18.out.trans (b.mono C18.out.size))
      have i19 : x18.heap.size ≤ x19.heap.size := b.size
      have RW19 := Lib.hid (RW18.out.below b)
      clear RW18
      have GG19 := Lib.hid (GG18.out.below b)
      clear GG18
      have ZA019 := Lib.hid (ZA018.out.below b)
      clear ZA018
      have ZA119 := Lib.hid (ZA118.out.below b)
      clear ZA118
      have HH19 := Lib.hid hB.row
      clear hB b
      clear ZA019
      clear ZA119
      go_wp2_with fail
      refine (eqStringS_any gh _ ch _ L L _ HH19.out.at RW19.out.at (by omega)).mono ?_
      rintro e x20 ⟨rfl, b⟩
      rw [show decide (L = L) = true from decide_eq_true rfl]
      have C20 := Lib.hid (C19.out.trans (b.mono C19.out.size))
      have i20 : x19.heap.size ≤ x20.heap.size := b.size
      have RW20 := Lib.hid (RW19.out.below b)
      clear RW19
      have GG20 := Lib.hid (GG19.out.below b)
      clear GG19
      have HH20 := Lib.hid (HH19.out.below b)
      clear HH19
      clear b
      go_wp2_with fail
      refine (heldStringS_any gg cg L.length 1 x20 GG20.out.at (by omega) (by omega)).mono ?_
      rintro e x21 ⟨rfl, b⟩
      have C21 := Lib.hid (C20.out.trans (b.mono C20.out.size))
      have i21 : x20.heap.size ≤ x21.heap.size := b.size
      have RW21 := Lib.hid (RW20.out.below b)
      clear RW20
      have GG21 := Lib.hid (GG20.out.below b)
      clear GG20
      have HH21 := Lib.hid (HH20.out.below b)
      clear HH20
      clear b
      go_wp2
      go_ret
      exact ⟨rfl, C21.out⟩
    · have H1 := Lib.hid (szS_no (l := z1) (left := 1048576 - z0.length - sumS z0) (by omega))
      go_enter Try.func6, Try.ntmps6
      go_wp2_with fail
      refine (szStringS_any a0 cap0 z0 _ _ r0 f0 G0.out (by omega) (by omega)).mono ?_
      rintro e x0 ⟨rfl, rfl⟩
      rw [H0.out]
      go_wp2_with fail
      refine (szStringS_any a1 cap1 z1 _ _ r1 f1 G1.out (by omega) (by omega)).mono ?_
      rintro e x0 ⟨rfl, rfl⟩
      rw [H1.out]
      go_wp2
      go_ret
      exact ⟨rfl, Below.refl _ _⟩
  · have H0 := Lib.hid (szS_no (l := z0) (left := 1048576) (by omega))
    go_enter Try.func6, Try.ntmps6
    go_wp2_with fail
    refine (szStringS_any a0 cap0 z0 _ _ r0 f0 G0.out (by omega) (by omega)).mono ?_
    rintro e x0 ⟨rfl, rfl⟩
    rw [H0.out]
    go_wp2
    go_ret
    exact ⟨rfl, Below.refl _ _⟩

set_option maxRecDepth 100000 in
theorem fnExactCommonTokens_lifted (os : Os) (started : os.Started) (H : Type) (enc : TypeId × Value → H) :
    ReturnsInHanded {} Try.checked os 6 .any (Rows.fnExactCommonTokensSpec.pre6 enc Try.prog Try.f6 Rows.fnExactCommonTokensRow.domain false) (Rows.fnExactCommonTokensSpec.post enc Try.prog Try.f6 false true false false) := by
  refine returnsInHanded_of_change (C := Try.checked) own started (by kernel_rfl) Try.func6
    (ChangeSpec.witness6 (enc := enc) (C := Try.checked) false ⟨#[], #[.slice none 0 0, .slice none 0 0], []⟩ 8 (by kernel_rfl) (by kernel_rfl) (by kernel_rfl) (by kernel_rfl)) ?_
  intro W base args ds gs before hval0 hW hcnd hsz
  have hval : ∀ (j : Nat) t v, Try.f6.params[j]? = some t → args[j]? = some v → Value.okWide Try.prog W .any base t v := hval0
  have hW' := hW
  obtain ⟨p, q, hA0, hV, rfl, hfz, hnd⟩ := hW
  have hA : DataW.TrodAll enc Try.prog W 0 (fun _ => true) true Try.f6.params.toList args.toList ds p := hA0
  rw [Try.params6] at hA hval
  obtain ⟨v0, vs0, d0, ds0, p0, q0, hargs, rfl, rfl, h0, r0⟩ := trodAll_cons hA
  obtain ⟨v1, vs1, d1, ds1, p1, q1, rfl, rfl, rfl, h1, r1⟩ := trodAll_cons r0
  obtain ⟨rfl, rfl, rfl⟩ := trodAll_nil r1
  obtain rfl : args = #[v0, v1] := by cases args; simp_all
  obtain ⟨rfl, rfl⟩ := trodVars_none hV
  obtain ⟨a0, len0, cap0, rfl⟩ := okWide_slice Try.underlying24 (hval 0 24 v0 rfl rfl)
  have k0 := h0
  have lt0 : ∀ x ∈ p0, x.block < W.heap.size := by obtain ⟨m, hm⟩ := k0; exact DataW.trod_lt m _ _ _ hm
  obtain ⟨z0, w0⟩ := open_strs_is Try.underlying24 Try.underlying9 (by kernel_rfl) h0
  obtain ⟨a1, len1, cap1, rfl⟩ := okWide_slice Try.underlying24 (hval 1 24 v1 rfl rfl)
  have k1 := h1
  have lt1 : ∀ x ∈ p1, x.block < W.heap.size := by obtain ⟨m, hm⟩ := k1; exact DataW.trod_lt m _ _ _ hm
  obtain ⟨z1, w1⟩ := open_strs_is Try.underlying24 Try.underlying9 (by kernel_rfl) h1
  clear hA0 hval0
  refine (fnExactCommonTokens_walk (w := W) a0 len0 cap0 z0 w0 a1 len1 cap1 z1 w1).mono fun e W' ⟨he, bel⟩ => ?_
  subst he
  exact ⟨_, rfl, _, _, _, [], _, [], hW', trodAll_mk1 (shut_bool Try.underlying4 _), (trodAll_cons_mk (Below.trod laidOut (by kernel_rfl) (of_decide_eq_true (by kernel_rfl)) k0 bel lt0) (trodAll_cons_mk (Below.trod laidOut (by kernel_rfl) (of_decide_eq_true (by kernel_rfl)) k1 bel lt1) trodAll_mk0)), rfl, bel.frame _, fun h => by cases h⟩

theorem fnExactCommonTokens_over : Rows.fnExactCommonTokensRow.holds Try.pinned (OpenSpec.ofChange Rows.fnExactCommonTokensSpec) :=
  OpenClaim.holds_of_wide 6 Try.f6 rfl rfl rfl rfl rfl rfl rfl ⟨rfl, rfl, rfl, rfl, rfl⟩ rfl rfl rfl rfl rfl (by kernel_rfl) Try.func6 (by kernel_rfl)
    (of_decide_eq_true (by kernel_rfl)) (by unfold Func.isWrapper; first | (rw [if_pos (by decide +kernel)]; kernel_rfl) | (rw [if_neg (by decide +kernel)]; exact ⟨rfl, rfl⟩))
    (fun os started H enc _ => fnExactCommonTokens_lifted os started H enc)

theorem fnExactCommonTokens_holds : Rows.FnExactCommonTokensSaid := fnExactCommonTokens_over
#print axioms fnExactCommonTokens_holds
end Go.Proofs.Ytdhdjmeolkobeaa

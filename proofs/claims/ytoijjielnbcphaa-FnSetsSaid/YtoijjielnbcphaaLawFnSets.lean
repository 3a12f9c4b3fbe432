/-
  FnSets returns true for every code. No condition.
-/
import Derived.Test.YtoijjielnbcphaaSetLaw
import Derived.ProofKit
import Derived.OpenShut
import Derived.ShutString
import Derived.ChangeOld
namespace Go.Proofs.Ytoijjielnbcphaa
open Go.ChangeShapes Go.WideShapes Go.ChangeAt Go.RowKit
open Go.ChangeMaps (open_string shut_string)
set_option linter.unusedVariables false
set_option linter.unusedSimpArgs false
theorem comL_len1 (a b : List ByteArray) : (comL a b).length ≤ a.length := by
  unfold comL; exact Nat.le_trans (putsL_le _) (List.length_filter_le _ _)
theorem uniL_len1 (a b : List ByteArray) : (uniL a b).length ≤ a.length + b.length := by
  unfold uniL; have := putsL_le (a ++ b); rw [List.length_append] at this; exact this
set_option maxRecDepth 100000 in
set_option maxHeartbeats 8000000 in
theorem fnSets_walk {w : World} (a0 : Option Addr) (len0 cap0 : Nat) (z0 : List UInt8) (w0 : ArgB w a0 len0 z0) :
    Calls Try.prog 4 #[.slice a0 len0 cap0] w fun e w' => e = .returned (.bool true) ∧ Below w.heap.size w w' := by
  obtain ⟨rfl, hrow⟩ := w0
  have HR := Lib.hid hrow
  clear hrow
  by_cases hbig : 1048576 < z0.length
  · have HB : Hid (decide (1048576 < z0.length) = true) := Lib.hid (decide_eq_true hbig)
    go_enter Try.func4, Try.ntmps4
    go_wp2_with fail
    refine (big_any a0 z0.length cap0 _).mono ?_
    rintro e w1 ⟨rfl, rfl⟩
    rw [HB.out]
    go_wp2
    go_ret
    exact ⟨rfl, Below.refl _ _⟩
  · have HB : Hid (decide (1048576 < z0.length) = false) := Lib.hid (decide_eq_false hbig)
    have hl : z0.length ≤ 1048576 := by omega
    clear hbig
    go_enter Try.func4, Try.ntmps4
    go_wp2_with fail
    refine (big_any a0 z0.length cap0 _).mono ?_
    rintro e w1 ⟨rfl, rfl⟩
    rw [HB.out]
    go_wp2_with fail
    refine (drawJac a0 cap0 z0 _ HR.out hl).mono ?_
    rintro e w1 ⟨b1, o1, c1, b2, o2, c2, a, b, ha, hb, hsa, hsb, hra, hrb, rfl, hbw⟩
    have C1 := Lib.hid hbw
    have RA := Lib.hid hra
    have RB := Lib.hid hrb
    have ZA : Hid (∀ k (h : k < a.length), a[k].size ≤ 1048576) := Lib.hid fun k h => Nat.le_trans (hsa _ (List.getElem_mem h)) (by decide)
    have ZB : Hid (∀ k (h : k < b.length), b[k].size ≤ 1048576) := Lib.hid fun k h => Nat.le_trans (hsb _ (List.getElem_mem h)) (by decide)
    have ZX : Hid (∀ k (h : k < (comL a b).length), (comL a b)[k].size ≤ 1048576) := Lib.hid fun k h => Nat.le_trans (hsa _ (com_mem (List.getElem_mem h))) (by decide)
    have ZY : Hid (∀ k (h : k < (uniL a b).length), (uniL a b)[k].size ≤ 1048576) := Lib.hid fun k h => by
      rcases uni_mem (List.getElem_mem h) with h | h
      · exact Nat.le_trans (hsa _ h) (by decide)
      · exact Nat.le_trans (hsb _ h) (by decide)
    have XL := Lib.hid (comL_len1 a b)
    have YL := Lib.hid (uniL_len1 a b)
    have D0 := Lib.hid (Below.refl w1.heap.size w1)
    clear hbw hra hrb hsa hsb
    obtain ⟨J, hJ⟩ : ∃ J, jacc a b = J := ⟨_, rfl⟩
    obtain ⟨D, hD⟩ : ∃ D, dice a b = D := ⟨_, rfl⟩
    obtain ⟨C, hC⟩ : ∃ C, cont a b = C := ⟨_, rfl⟩
    have hch := chain a b
    rw [hJ, hD, hC] at hch
    obtain ⟨jd, dc⟩ := hch
    have jj : (J != J) = false := by simp
    have dd : (D != D) = false := by simp
    have cc : (C != C) = false := by simp
    have HJ := Lib.hid hJ
    have HD := Lib.hid hD
    have HC := Lib.hid hC
    have HJ2 : Hid (jacc b a = J) := Lib.hid (by rw [jacc_comm, hJ])
    have HD2 : Hid (dice b a = D) := Lib.hid (by rw [dice_comm, hD])
    have HC2 : Hid (cont b a = C) := Lib.hid (by rw [cont_comm, hC])
    clear hJ hD hC
    go_wp2_with fail
    refine (implJaccard _ _ _ _ a b _ (RA.out.below D0.out) (RB.out.below D0.out) (by omega) (by omega) ZA ZB).mono ?_
    rintro e w2 ⟨rfl, bb⟩
    rw [HJ.out]
    have D1 := Lib.hid (D0.out.trans (bb.mono D0.out.size))
    clear bb
    go_wp2_with fail
    refine (implDice _ _ _ _ a b _ (RA.out.below D1.out) (RB.out.below D1.out) (by omega) (by omega) ZA ZB).mono ?_
    rintro e w3 ⟨rfl, bb⟩
    rw [HD.out]
    have D2 := Lib.hid (D1.out.trans (bb.mono D1.out.size))
    clear bb
    go_wp2_with fail
    refine (implContainment _ _ _ _ a b _ (RA.out.below D2.out) (RB.out.below D2.out) (by omega) (by omega) ZA ZB).mono ?_
    rintro e w4 ⟨rfl, bb⟩
    rw [HC.out]
    have D3 := Lib.hid (D2.out.trans (bb.mono D2.out.size))
    clear bb
    go_wp2_with fail
    refine (specJaccard _ _ _ _ a b _ (RA.out.below D3.out) (RB.out.below D3.out) (by omega) (by omega) (by omega) ZA ZB).mono ?_
    rintro e w5 ⟨rfl, bb⟩
    rw [HJ.out]
    have D4 := Lib.hid (D3.out.trans (bb.mono D3.out.size))
    clear bb
    go_wp2_with fail
    refine (specDice _ _ _ _ a b _ (RA.out.below D4.out) (RB.out.below D4.out) (by omega) (by omega) ZA ZB).mono ?_
    rintro e w6 ⟨rfl, bb⟩
    rw [HD.out]
    have D5 := Lib.hid (D4.out.trans (bb.mono D4.out.size))
    clear bb
    go_wp2_with fail
    refine (specContainment _ _ _ _ a b _ (RA.out.below D5.out) (RB.out.below D5.out) (by omega) (by omega) ZA ZB).mono ?_
    rintro e w7 ⟨rfl, bb⟩
    rw [HC.out]
    have D6 := Lib.hid (D5.out.trans (bb.mono D5.out.size))
    clear bb
    go_wp2_with fail
    refine (implJaccard _ _ _ _ b a _ (RB.out.below D6.out) (RA.out.below D6.out) (by omega) (by omega) ZB ZA).mono ?_
    rintro e w8 ⟨rfl, bb⟩
    rw [HJ2.out]
    have D7 := Lib.hid (D6.out.trans (bb.mono D6.out.size))
    clear bb
    go_wp2_with fail
    refine (implDice _ _ _ _ b a _ (RB.out.below D7.out) (RA.out.below D7.out) (by omega) (by omega) ZB ZA).mono ?_
    rintro e w9 ⟨rfl, bb⟩
    rw [HD2.out]
    have D8 := Lib.hid (D7.out.trans (bb.mono D7.out.size))
    clear bb
    go_wp2_with fail
    refine (implContainment _ _ _ _ b a _ (RB.out.below D8.out) (RA.out.below D8.out) (by omega) (by omega) ZB ZA).mono ?_
    rintro e w10 ⟨rfl, bb⟩
    rw [HC2.out]
    have D9 := Lib.hid (D8.out.trans (bb.mono D8.out.size))
    clear bb
    go_wp2_with fail
    clear jd dc
    refine (implCommon _ _ _ _ _ a b _ (RA.out.below D9.out) (RB.out.below D9.out) (by omega) (by omega)).mono ?_
    rintro e wc ⟨xa, xc, rfl, hbg⟩
    obtain ⟨X, hX⟩ : ∃ X, comL a b = X := ⟨_, rfl⟩
    rw [hX] at hbg ZX XL ⊢
    have HX := Lib.hid hX
    have RX := Lib.hid hbg.row.at
    have E0 := Lib.hid (D9.out.trans (hbg.bel.mono D9.out.size))
    clear hbg hX
    have xl := XL.out
    go_wp2_with fail
    refine (implUnite _ _ _ _ _ _ a b _ (RA.out.below E0.out) (RB.out.below E0.out) (by omega)).mono ?_
    rintro e wu ⟨ya, yc, rfl, hbg⟩
    obtain ⟨Y, hY⟩ : ∃ Y, uniL a b = Y := ⟨_, rfl⟩
    rw [hY] at hbg ZY YL ⊢
    have HY := Lib.hid hY
    have RX2 := Lib.hid (RX.out.below hbg.bel)
    have RY := Lib.hid hbg.row.at
    have E1 := Lib.hid (E0.out.trans (hbg.bel.mono E0.out.size))
    clear hbg hY RX
    have yl := YL.out
    go_wp2_with fail
    refine (specCommon _ _ _ _ a b _ (RA.out.below E1.out) (RB.out.below E1.out) (by omega) (by omega)).mono ?_
    rintro e wd ⟨kb, ko, kd, rfl, hre, _, bb⟩
    rw [HX.out] at hre ⊢
    have RE := Lib.hid hre
    have RX3 := Lib.hid (RX2.out.below bb)
    have RY2 := Lib.hid (RY.out.below bb)
    have E2 := Lib.hid (E1.out.trans (bb.mono E1.out.size))
    clear bb hre RX2 RY
    go_wp2_with fail
    refine (specEqualTokens _ _ _ _ X X _ RX3.out RE.out (by omega)).mono ?_
    rintro e we ⟨rfl, bb⟩
    rw [show decide (X = X) = true from decide_eq_true rfl]
    have RX4 := Lib.hid (RX3.out.below bb)
    have RY3 := Lib.hid (RY2.out.below bb)
    have E3 := Lib.hid (E2.out.trans (bb.mono E2.out.size))
    clear bb RE RX3 RY2
    go_wp2_with fail
    refine (specUnite _ _ _ _ a b _ (RA.out.below E3.out) (RB.out.below E3.out) (by omega)).mono ?_
    rintro e wf ⟨kb2, ko2, kd2, rfl, hre, _, bb⟩
    rw [HY.out] at hre ⊢
    have RE := Lib.hid hre
    have RX5 := Lib.hid (RX4.out.below bb)
    have RY4 := Lib.hid (RY3.out.below bb)
    have E4 := Lib.hid (E3.out.trans (bb.mono E3.out.size))
    clear bb hre RX4 RY3
    go_wp2_with fail
    refine (specEqualTokens _ _ _ _ Y Y _ RY4.out RE.out (by omega)).mono ?_
    rintro e wg ⟨rfl, bb⟩
    rw [show decide (Y = Y) = true from decide_eq_true rfl]
    have RX6 := Lib.hid (RX5.out.below bb)
    have RY5 := Lib.hid (RY4.out.below bb)
    have E5 := Lib.hid (E4.out.trans (bb.mono E4.out.size))
    clear bb RE RX5 RY4
    obtain ⟨TA, hTA⟩ : ∃ T, tset a = T := ⟨_, rfl⟩
    obtain ⟨TB, hTB⟩ : ∃ T, tset b = T := ⟨_, rfl⟩
    have HTA := Lib.hid hTA
    have HTB := Lib.hid hTB
    have ta : (TA != TA) = false := by simp
    clear hTA hTB
    go_wp2_with fail
    refine (implIsTokenSet _ _ a _ (RA.out.below E5.out) (by omega) ZA).mono ?_
    rintro e wh ⟨rfl, bb⟩
    rw [HTA.out]
    have RX7 := Lib.hid (RX6.out.below bb)
    have RY6 := Lib.hid (RY5.out.below bb)
    have E6 := Lib.hid (E5.out.trans (bb.mono E5.out.size))
    clear bb RX6 RY5
    go_wp2_with fail
    refine (specIsTokenSet _ _ a _ (RA.out.below E6.out) (by omega) ZA).mono ?_
    rintro e wi ⟨rfl, bb⟩
    rw [HTA.out]
    have RX8 := Lib.hid (RX7.out.below bb)
    have RY7 := Lib.hid (RY6.out.below bb)
    have E7 := Lib.hid (E6.out.trans (bb.mono E6.out.size))
    clear bb RX7 RY6
    go_wp2_with fail
    refine (specIsTokenSet _ _ a _ (RA.out.below E7.out) (by omega) ZA).mono ?_
    rintro e wj ⟨rfl, bb⟩
    rw [HTA.out]
    have RX9 := Lib.hid (RX8.out.below bb)
    have RY8 := Lib.hid (RY7.out.below bb)
    have E8 := Lib.hid (E7.out.trans (bb.mono E7.out.size))
    clear bb RX8 RY7 ta
    cases TA
    · obtain ⟨z1, z2, z3⟩ := zero_no (sets2_no b HTA.out)
      obtain rfl : J = 0 := HJ.out.symm.trans z1
      obtain rfl : D = 0 := HD.out.symm.trans z2
      obtain rfl : C = 0 := HC.out.symm.trans z3
      clear z1 z2 z3
      go_wp2
      go_ret
      exact ⟨rfl, C1.out.trans (E8.out.mono C1.out.size)⟩
    · go_wp2_with fail
      refine (specIsTokenSet _ _ b _ (RB.out.below E8.out) (by omega) ZB).mono ?_
      rintro e wk ⟨rfl, bb⟩
      rw [HTB.out]
      have RX10 := Lib.hid (RX9.out.below bb)
      have RY9 := Lib.hid (RY8.out.below bb)
      have E9 := Lib.hid (E8.out.trans (bb.mono E8.out.size))
      clear bb RX9 RY8
      cases TB
      · obtain ⟨z1, z2, z3⟩ := zero_no (show sets2 a b = false by rw [sets2_yes b HTA.out]; exact HTB.out)
        obtain rfl : J = 0 := HJ.out.symm.trans z1
        obtain rfl : D = 0 := HD.out.symm.trans z2
        obtain rfl : C = 0 := HC.out.symm.trans z3
        clear z1 z2 z3
        go_wp2
        go_ret
        exact ⟨rfl, C1.out.trans (E9.out.mono C1.out.size)⟩
      · have hls := len_sum HTA.out HTB.out
        rw [HX.out, HY.out] at hls
        have hfull := jacc_full HTA.out HTB.out
        rw [HJ.out] at hfull
        have htx : tset X = true := by rw [← HX.out]; exact com_tset HTA.out
        have hty : tset Y = true := by rw [← HY.out]; exact uni_tset HTA.out HTB.out
        have HTX := Lib.hid htx
        have HTY := Lib.hid hty
        have hle : ((X.length : Int) + (Y.length : Int) == (a.length : Int) + (b.length : Int)) = true := by rw [beq_iff_eq]; omega
        obtain ⟨F, hF⟩ : ∃ F, decide (a = b) = F := ⟨_, rfl⟩
        rw [hF] at hfull
        have HF := Lib.hid hF
        have ff : (F == F) = true := by simp
        clear hls htx hty hF
        go_wp2_with fail
        refine (specEqualTokens _ _ _ _ a b _ (RA.out.below E9.out) (RB.out.below E9.out) (by omega)).mono ?_
        rintro e wl ⟨rfl, bb⟩
        rw [HF.out]
        have RX11 := Lib.hid (RX10.out.below bb)
        have RY10 := Lib.hid (RY9.out.below bb)
        have E10 := Lib.hid (E9.out.trans (bb.mono E9.out.size))
        clear bb RX10 RY9
        go_wp2_with fail
        refine (implIsTokenSet _ _ X _ RX11.out (by omega) ZX).mono ?_
        rintro e wm ⟨rfl, bb⟩
        rw [HTX.out]
        have RY11 := Lib.hid (RY10.out.below bb)
        have E11 := Lib.hid (E10.out.trans (bb.mono E10.out.size))
        clear bb RX11 RY10
        go_wp2_with fail
        refine (implIsTokenSet _ _ Y _ RY11.out (by omega) ZY).mono ?_
        rintro e wn ⟨rfl, bb⟩
        rw [HTY.out]
        have E12 := Lib.hid (E11.out.trans (bb.mono E11.out.size))
        clear bb RY11
        go_wp2
        go_ret
        exact ⟨rfl, C1.out.trans (E12.out.mono C1.out.size)⟩
set_option maxRecDepth 100000 in
theorem fnSets_lifted (os : Os) (started : os.Started) (H : Type) (enc : TypeId × Value → H) :
    ReturnsInHanded {} Try.checked os 4 .any (Rows.fnSetsSpec.pre6 enc Try.prog Try.f4 Rows.fnSetsRow.domain false) (Rows.fnSetsSpec.post enc Try.prog Try.f4 false true false false) := by
  refine returnsInHanded_of_change (C := Try.checked) own started (by kernel_rfl) Try.func4
    (ChangeSpec.witness6 (enc := enc) (C := Try.checked) false ⟨#[], #[.slice none 0 0], []⟩ 8 (by kernel_rfl) (by kernel_rfl) (by kernel_rfl) (by kernel_rfl)) ?_
  intro W base args ds gs before hval0 hW hcnd hsz
  have hval : ∀ (j : Nat) t v, Try.f4.params[j]? = some t → args[j]? = some v → Value.okWide Try.prog W .any base t v := hval0
  have hW' := hW
  obtain ⟨p, q, hA0, hV, rfl, hfz, hnd⟩ := hW
  have hA : DataW.TrodAll enc Try.prog W 0 (fun _ => true) true Try.f4.params.toList args.toList ds p := hA0
  rw [Try.params4] at hA hval
  obtain ⟨v0, vs0, d0, ds0, p0, q0, hargs, rfl, rfl, h0, r0⟩ := trodAll_cons hA
  obtain ⟨rfl, rfl, rfl⟩ := trodAll_nil r0
  obtain rfl : args = #[v0] := by cases args; simp_all
  obtain ⟨rfl, rfl⟩ := trodVars_none hV
  obtain ⟨a0, len0, cap0, rfl⟩ := okWide_slice Try.underlying22 (hval 0 22 v0 rfl rfl)
  have k0 := h0
  have lt0 : ∀ x ∈ p0, x.block < W.heap.size := by obtain ⟨m, hm⟩ := k0; exact DataW.trod_lt m _ _ _ hm
  obtain ⟨z0, w0⟩ := open_bytes_is Try.underlying22 Try.underlying5 (by kernel_rfl) h0
  clear hA0 hval0
  refine (fnSets_walk (w := W) a0 len0 cap0 z0 w0).mono fun e W' ⟨he, bel⟩ => ?_
  subst he
  exact ⟨_, rfl, _, _, _, [], _, [], hW', trodAll_mk1 (shut_bool Try.underlying4 _), (trodAll_cons_mk (Below.trod laidOut (by kernel_rfl) (of_decide_eq_true (by kernel_rfl)) k0 bel lt0) trodAll_mk0), rfl, bel.frame _, fun h => by cases h⟩

theorem fnSets_over : Rows.fnSetsRow.holds Try.pinned (OpenSpec.ofChange Rows.fnSetsSpec) :=
  OpenClaim.holds_of_wide 4 Try.f4 rfl rfl rfl rfl rfl rfl rfl ⟨rfl, rfl, rfl, rfl, rfl⟩ rfl rfl rfl rfl rfl (by kernel_rfl) Try.func4 (by kernel_rfl)
    (of_decide_eq_true (by kernel_rfl)) (by unfold Func.isWrapper; first | (rw [if_pos (by decide +kernel)]; kernel_rfl) | (rw [if_neg (by decide +kernel)]; exact ⟨rfl, rfl⟩))
    (fun os started H enc _ => fnSets_lifted os started H enc)

theorem fnSets_holds : Rows.FnSetsSaid := fnSets_over
#print axioms fnSets_holds
end Go.Proofs.Ytoijjielnbcphaa

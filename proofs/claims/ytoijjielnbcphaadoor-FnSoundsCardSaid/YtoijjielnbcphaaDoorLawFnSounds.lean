/-
  FnSounds returns true for every code. Condition: the listed variables hold what the program's text lays (the card ties them).
-/
import Derived.Test.YtoijjielnbcphaaDoorSndDraw
import Derived.ProofKit
import Derived.OpenShut
import Derived.ShutString
import Derived.ChangeOld
import Derived.OpenVars
import Derived.Lay
import Derived.SevenTiedAt
import Derived.Test.YtoijjielnbcphaaDoorCards
import Derived.Test.YtoijjielnbcphaaDoorTie
namespace Go.Proofs.YtoijjielnbcphaaDoor
open Go.ChangeShapes Go.WideShapes Go.ChangeAt Go.RowKit
open Go.ChangeMaps (open_string shut_string)
set_option linter.unusedVariables false
set_option linter.unusedSimpArgs false
set_option maxHeartbeats 8000000 in
theorem fnSounds_walk {w : World} (a0 : Option Addr) (len0 cap0 : Nat) (z0 : List UInt8) (w0 : ArgB w a0 len0 z0) (ev : ShSnd w) :
    Calls Tryd.prog 3 #[.slice a0 len0 cap0] w fun e w' => e = .returned (.bool true) ∧ Below w.heap.size w w' := by
  obtain ⟨rfl, hrow⟩ := w0
  have HR := Lib.hid hrow
  have HE := Lib.hid ev
  clear hrow ev
  by_cases hbig : 1048576 < z0.length
  · have HB : Hid (decide (1048576 < z0.length) = true) := Lib.hid (decide_eq_true hbig)
    go_enter Tryd.func3, Tryd.ntmps3
    go_wp2_with fail
    refine (big_any a0 z0.length cap0 _).mono ?_
    rintro e w1 ⟨rfl, rfl⟩
    rw [HB.out]
    go_wp2
    go_ret
    exact ⟨rfl, Below.refl _ _⟩
  · have HB : Hid (decide (1048576 < z0.length) = false) := Lib.hid (decide_eq_false hbig)
    have hl : z0.length ≤ 1048576 := by omega
    clear hbig
    go_enter Tryd.func3, Tryd.ntmps3
    go_wp2_with fail
    refine (big_any a0 z0.length cap0 _).mono ?_
    rintro e w1 ⟨rfl, rfl⟩
    rw [HB.out]
    go_wp2_with fail
    refine (drawAlike a0 cap0 z0 _ HR.out hl).mono ?_
    rintro e w1 ⟨a, b, ha, hb, rfl, b1⟩
    have C1 := Lib.hid b1
    clear b1
    go_wp2_with fail
    refine (implSoundex a _ (HE.out.below C1.out).snd (by omega)).mono ?_
    rintro e w2 ⟨rfl, b2⟩
    have C2 := Lib.hid (C1.out.trans (b2.mono C1.out.size))
    clear b2
    obtain ⟨S, hS⟩ : ∃ S, bstr (sndx a.data.toList) = S := ⟨_, rfl⟩
    have hcase := sound_cases a S hS
    rw [hS]
    have HS := Lib.hid hS
    have HC := Lib.hid hcase
    clear hS hcase
    have ss : (S.toList != S.toList) = false := by simp
    go_wp2_with fail
    refine (specSoundex a _ (by omega)).mono ?_
    rintro e w3 ⟨rfl, b3⟩
    rw [HS.out]
    have C3 := Lib.hid (C2.out.trans (b3.mono C2.out.size))
    clear b3
    go_wp2_with fail
    refine (specFoldCase a _ (by omega)).mono ?_
    rintro e w4 ⟨rfl, b4⟩
    have C4 := Lib.hid (C3.out.trans (b4.mono C3.out.size))
    clear b4
    obtain ⟨F, hF⟩ : ∃ F, bstr (fold a.data.toList) = F := ⟨_, rfl⟩
    have hFz : F.size ≤ 1048576 := by rw [← hF, bstr_size]; unfold fold; rw [List.length_map, dlen]; omega
    have HF : Hid (bstr (sndx F.data.toList) = S) := Lib.hid (by rw [← hF, bstr_list, sndx_fold]; exact HS.out)
    rw [hF]
    clear hF
    go_wp2_with fail
    refine (implSoundex F _ (HE.out.below C4.out).snd hFz).mono ?_
    rintro e w5 ⟨rfl, b5⟩
    rw [HF.out]
    have C5 := Lib.hid (C4.out.trans (b5.mono C4.out.size))
    clear b5
    go_wp2_with fail
    refine (implAlike a b _ (HE.out.below C5.out).snd (by omega) (by omega)).mono ?_
    rintro e w6 ⟨rfl, b6⟩
    have C6 := Lib.hid (C5.out.trans (b6.mono C5.out.size))
    clear b6
    have hco := alike_comm a b
    obtain ⟨A, hA⟩ : ∃ A, alike a b = A := ⟨_, rfl⟩
    rw [hA] at hco ⊢
    have HA := Lib.hid hA
    have HCO := Lib.hid hco
    clear hA hco
    go_wp2_with fail
    refine (specAlike a b _ (by omega) (by omega)).mono ?_
    rintro e w7 ⟨rfl, b7⟩
    rw [HA.out]
    have C7 := Lib.hid (C6.out.trans (b7.mono C6.out.size))
    clear b7
    go_wp2_with fail
    refine (implAlike a b _ (HE.out.below C7.out).snd (by omega) (by omega)).mono ?_
    rintro e w8 ⟨rfl, b8⟩
    rw [HA.out]
    have C8 := Lib.hid (C7.out.trans (b8.mono C7.out.size))
    clear b8
    go_wp2_with fail
    refine (implAlike b a _ (HE.out.below C8.out).snd (by omega) (by omega)).mono ?_
    rintro e w9 ⟨rfl, b9⟩
    rw [HCO.out]
    have C9 := Lib.hid (C8.out.trans (b9.mono C8.out.size))
    clear b9
    go_wp2_with fail
    refine (drawSCode a0 cap0 z0 _ (HR.out.below C9.out) hl).mono ?_
    rintro e wa ⟨n, rfl, ba⟩
    have CA := Lib.hid (C9.out.trans (ba.mono C9.out.size))
    clear ba
    go_wp2_with fail
    refine (drawSKeys a0 cap0 z0 _ (HR.out.below CA.out) hl).mono ?_
    rintro e wb ⟨t, ht, rfl, bb⟩
    have CB := Lib.hid (CA.out.trans (bb.mono CA.out.size))
    clear bb
    obtain ⟨K, hK⟩ : ∃ K, skeys t = K := ⟨_, rfl⟩
    have hKz := skeys_size t
    have hKt := skeys_tset t
    have hKl := skeys_len t
    have hks := fun w hw => implSKeys t w hw (by omega)
    have hks2 := fun w => specSKeys t w (by omega)
    rw [hK] at hKz hKt hKl hks hks2
    have HKZ : Hid (∀ k (h : k < K.length), K[k].size ≤ 1048576) := Lib.hid fun k h => Nat.le_trans (hKz k h) (by decide)
    have HKT := Lib.hid hKt
    have HKS := Lib.hid hks
    have HKS2 := Lib.hid hks2
    clear hK hKz hKt hks hks2
    go_wp2_with fail
    refine (HKS.out _ (HE.out.below CB.out)).mono ?_
    rintro e wc ⟨ka, kc, rfl, hbg⟩
    have RK := Lib.hid hbg.row.at
    have CC := Lib.hid (CB.out.trans (hbg.bel.mono CB.out.size))
    clear hbg
    go_wp2_with fail
    refine (implSoundCode n _ (HE.out.below CC.out).snd).mono ?_
    rintro e w' ⟨rfl, rfl⟩
    obtain ⟨N, hN⟩ : ∃ N, sc n = N := ⟨_, rfl⟩
    rw [hN]
    have HN := Lib.hid hN
    clear hN
    have nn : (N != N) = false := by simp
    go_wp2_with fail
    refine (specSoundCode n _).mono ?_
    rintro e wd ⟨rfl, bd⟩
    rw [HN.out]
    have RK2 := Lib.hid (RK.out.below bd)
    have CD := Lib.hid (CC.out.trans (bd.mono CC.out.size))
    clear bd RK
    go_wp2_with fail
    refine (HKS2.out _).mono ?_
    rintro e we ⟨kb, ko, kd, rfl, hre, _, be⟩
    have RK3 := Lib.hid (RK2.out.below be)
    have RE := Lib.hid hre
    have CE := Lib.hid (CD.out.trans (be.mono CD.out.size))
    clear be RK2 hre
    go_wp2_with fail
    refine (specEqualTokens _ _ _ _ K K _ RK3.out RE.out (by omega)).mono ?_
    rintro e wf ⟨rfl, bf⟩
    rw [show decide (K = K) = true from decide_eq_true rfl]
    have RK4 := Lib.hid (RK3.out.below bf)
    have CF := Lib.hid (CE.out.trans (bf.mono CE.out.size))
    clear bf RK3 RE
    go_wp2_with fail
    refine (specIsTokenSet _ _ K _ RK4.out (by omega) HKZ).mono ?_
    rintro e wg ⟨rfl, bg⟩
    rw [HKT.out]
    have CG := Lib.hid (CF.out.trans (bg.mono CF.out.size))
    clear bg RK4
    rcases HC.out with h1 | ⟨h1, h2, h3⟩
    · go_wp2
      go_ret
      exact ⟨rfl, CG.out⟩
    · have h4 : ((S.size : Int) == 4) = true := by rw [h2]; rfl
      have H3 := Lib.hid h3
      clear h2 h3
      go_wp2_with fail
      refine (implAlike a a _ (HE.out.below CG.out).snd (by omega) (by omega)).mono ?_
      rintro e wh ⟨rfl, bh⟩
      rw [H3.out]
      have CH := Lib.hid (CG.out.trans (bh.mono CG.out.size))
      clear bh
      go_wp2
      go_ret
      exact ⟨rfl, CH.out⟩
theorem codes_in : ("loop.example/g01923/impl.soundCodes", (Lib.tabData .i64 sndL : DataW Unit)) ∈ Rows.fnSoundsRow.laid := by
  rw [← (show (Rows.laid_loop_example_g01923_impl_soundCodes : DataW Unit) = Lib.tabData .i64 sndL by kernel_rfl)]
  exact .tail _ (.head _)
set_option maxRecDepth 100000 in
theorem fnSounds_lifted (os : Os) (started : os.Started) (H : Type) (enc : TypeId × Value → H) :
    ReturnsInHanded {} Tryd.checked os 3 .any (fun w args => (Rows.fnSoundsSpec.pre enc Tryd.prog Tryd.f3 [] false w args ∧ laidMetH Tryd.prog Rows.fnSoundsRow.laid w) ∧ sizedMet enc Tryd.prog Tryd.f3 (OpenSpec.ofChange Rows.fnSoundsSpec) false w args) (Rows.fnSoundsSpec.post enc Tryd.prog Tryd.f3 false true false false) := by
  refine returnsIn_laid (C := Tryd.checked) (X := fun w _ => laidMetH Tryd.prog Rows.fnSoundsRow.laid w) (fun _ _ _ hh h => h.of_heap hh) own started (by kernel_rfl) Tryd.func3
    (ChangeSpec.witness_shaped (enc := enc) (C := Tryd.checked) (os := os) (X := fun w _ => laidMetH Tryd.prog Rows.fnSoundsRow.laid w) false (World.laidAll Tryd.prog os Rows.fnSoundsRow.laid) #[.slice none 0 0] 8 (World.laidAll_os _ _ _)
      (World.shaped_of_ZipB (by kernel_rfl) (by kernel_rfl)) (by kernel_rfl) (by kernel_rfl) (by kernel_rfl)
      (by rw [MakeChecks.laidMetH_plain _ _ _ (by kernel_rfl)]; exact laidMet_laidAll _ (by kernel_rfl) (by kernel_rfl))) ?_
  intro W base args ds gs before hval0 hW hL0 hsh
  have hL : laidMet Tryd.prog Rows.fnSoundsRow.laid W := by rw [MakeChecks.laidMetH_plain _ _ _ (by kernel_rfl)] at hL0; exact hL0
  have hval : ∀ (j : Nat) t v, Tryd.f3.params[j]? = some t → args[j]? = some v → Value.okWide Tryd.prog W .any base t v := hval0
  have hW' := hW
  obtain ⟨p, q, hA0, hV, rfl, hfz, hnd⟩ := hW
  have hA : DataW.TrodAll enc Tryd.prog W 0 (fun _ => true) true Tryd.f3.params.toList args.toList ds p := hA0
  rw [Tryd.params3] at hA hval
  obtain ⟨v0, vs0, d0, ds0, p0, q0, hargs, rfl, rfl, h0, r0⟩ := trodAll_cons hA
  obtain ⟨rfl, rfl, rfl⟩ := trodAll_nil r0
  obtain rfl : args = #[v0] := by cases args; simp_all
  have hV0 := hV
  obtain ⟨_, _, _, _, dv, pv, rfl, _, _, _, _, rfl⟩ := trodVars_one hV
  obtain ⟨a0, len0, cap0, rfl⟩ := okWide_slice Tryd.underlying22 (hval 0 22 v0 rfl rfl)
  have k0 := h0
  have lt0 : ∀ x ∈ p0, x.block < W.heap.size := by obtain ⟨m, hm⟩ := k0; exact DataW.trod_lt m _ _ _ hm
  obtain ⟨z0, w0⟩ := open_bytes_is Tryd.underlying22 Tryd.underlying5 (by kernel_rfl) h0
  clear hA0 hval0
  refine (fnSounds_walk (w := W) a0 len0 cap0 z0 w0 ⟨hsh, snd_mk hL codes_in⟩).mono fun e W' ⟨he, bel⟩ => ?_
  subst he
  exact ⟨_, rfl, _, _, _, [], _, _, hW', trodAll_mk1 (shut_bool Tryd.underlying4 _), (trodAll_cons_mk (Below.trod laidOut (by kernel_rfl) (of_decide_eq_true (by kernel_rfl)) k0 bel lt0) trodAll_mk0), Below.trodVars laidOut bel (by kernel_rfl) hV0, bel.frame _, fun h => by cases h⟩

theorem fnSounds_over : Rows.fnSoundsRow.holds Tryd.pinned (OpenSpec.ofChange Rows.fnSoundsSpec) :=
  OpenClaim.holds_of_wide 3 Tryd.f3 rfl rfl rfl rfl rfl rfl rfl ⟨rfl, rfl, rfl, rfl, rfl⟩ rfl rfl rfl rfl rfl (by kernel_rfl) Tryd.func3 (by kernel_rfl)
    (of_decide_eq_true (by kernel_rfl)) (by unfold Func.isWrapper; first | (rw [if_pos (by decide +kernel)]; kernel_rfl) | (rw [if_neg (by decide +kernel)]; exact ⟨rfl, rfl⟩))
    (fun os started H enc _ => fnSounds_lifted os started H enc)

theorem fnSounds_said : Rows.FnSoundsSaid := fnSounds_over
theorem fnSounds_holds : Rows.FnSoundsCardSaid :=
  Claim7.holds_tied_plain_at .later [] _ true _ _ fnSounds_said (fun _ h => by cases h) (by kernel_rfl) (fun _ h => by cases h) fnSounds_row_tie rfl ⟨rfl, rfl⟩ (by kernel_rfl) rfl
    (fun f fn hf hfn => by
      obtain rfl : f = 3 := Option.some.inj ((show Tryd.prog.funcNamed "loop.example/g01923/laws.FnSounds" = some 3 by kernel_rfl).symm.trans hf) |>.symm
      obtain rfl : fn = Tryd.f3 := (Option.some.inj (Tryd.func3.symm.trans hfn)).symm
      exact ⟨by kernel_rfl, fun j t ht => by
        rw [Tryd.params3] at ht
        have hm : t ∈ [22] := by simpa using Array.mem_of_getElem? ht
        have hall : ([22].all fun u => !Tryd.prog.wantsStandIn u) = true := by kernel_rfl
        exact (show Tryd.prog.wantsStandIn t = false by simpa using List.all_eq_true.1 hall t hm)⟩)
    (by kernel_rfl)
#print axioms fnSounds_holds
end Go.Proofs.YtoijjielnbcphaaDoor

/-
  FnIntegerEncodings returns true for every code. Condition: the listed variables hold what the program's text lays (the card ties them).
-/
import Derived.Test.YtoijjielnbcphaaDoorIntEnc
import Derived.ProofKit
import Derived.OpenShut
import Derived.ShutString
import Derived.ChangeOld
import Derived.OpenVars
import Derived.Lay
import Derived.SevenTiedAt
import Derived.Test.YtoijjielnbcphaaDoorCards
import Derived.Test.YtoijjielnbcphaaDoorTie
namespace Go.Proofs.YtoijjielnbcphaaDoor
open Go.ChangeShapes Go.WideShapes Go.ChangeAt Go.RowKit
open Go.ChangeMaps (open_string shut_string)
set_option linter.unusedVariables false
set_option linter.unusedSimpArgs false
theorem isEmpty_bstr (l : List UInt8) : (bstr l).toList.isEmpty = l.isEmpty := by rw [bstr_toList]
theorem ne_nil_isEmpty {l : List UInt8} (h : 1 ≤ l.length) : l.isEmpty = false := by cases l with | nil => simp at h | cons _ _ => rfl
theorem wf_mk {v : Int} (h0 : -9223372036854775808 ≤ v) (h1 : v ≤ 9223372036854775807) : (Lit.int .i64 v).wf = true := by
  have h2 : IntKind.i64.min ≤ v ∧ v ≤ 9223372036854775807 := ⟨h0, h1⟩
  simpa [Lit.wf] using h2
theorem fix_cases (v z : Int) (f tl : ByteArray) (h : bstr (encW v z) = f) :
    (f.toList.isEmpty = false ∧ decOk (f ++ tl) z = true ∧ decVal (f ++ tl) z = v ∧ (f.size : Int) = z ∧ f.size ≤ 7) ∨ (f.toList.isEmpty = true ∧ f.size ≤ 7) := by
  by_cases hc : inB z 1 7 = true ∧ 0 ≤ v ∧ v < 256 ^ z.toNat
  · left
    obtain ⟨h1, h2, h3⟩ := hc
    obtain ⟨z1, z7⟩ := inB_yes h1
    obtain ⟨m, rfl⟩ := Int.eq_ofNat_of_zero_le (show 0 ≤ z by omega)
    obtain ⟨n, rfl⟩ := Int.eq_ofNat_of_zero_le h2
    have hn : n < 256 ^ m := by
      rw [Int.toNat_natCast, ← pow_cast] at h3; exact_mod_cast h3
    rw [encW_yes h1 hn] at h
    obtain ⟨d1, d2⟩ := decW_enc h1 hn tl
    rw [h] at d1 d2
    have hz : f.size = m := by rw [← h, bstr_size, encL_len]
    exact ⟨by rw [← h, isEmpty_bstr, ne_nil_isEmpty (by rw [encL_len]; omega)], d1, d2, by omega, by omega⟩
  · right
    have he : encW v z = [] := by unfold encW; rw [if_neg hc]
    rw [he] at h
    exact ⟨by rw [← h, isEmpty_bstr]; rfl, by rw [← h]; decide⟩
theorem parse_cases (v : Int) (v0 : -9223372036854775808 ≤ v) (v1 : v ≤ 9223372036854775807) :
    (pB (Lib.itoa v) = true ∧ (pV (Lib.itoa v) == v) = true ∧ (-1000000000 : Int) < v ∧ v < 1000000000) ∨ (pB (Lib.itoa v) = false ∧ decide ((-1000000000 : Int) < v) = false) ∨ (pB (Lib.itoa v) = false ∧ (-1000000000 : Int) < v ∧ decide (v < 1000000000) = false) := by
  by_cases h : -999999999 ≤ v ∧ v ≤ 999999999
  · left
    obtain ⟨h1, h2⟩ := pV_some (pInt_itoa v h.1 h.2)
    exact ⟨h2, by rw [h1]; simp, by omega, by omega⟩
  · obtain ⟨h1, h2⟩ := pV_none (pInt_big h)
    by_cases hl : (-1000000000 : Int) < v
    · right; right; exact ⟨h2, hl, decide_eq_false (by omega)⟩
    · right; left; exact ⟨h2, decide_eq_false hl⟩
set_option maxRecDepth 100000 in
set_option maxHeartbeats 8000000 in
theorem fnIntegerEncodings_walk {w : World} (a0 : Option Addr) (len0 cap0 : Nat) (z0 : List UInt8) (w0 : ArgB w a0 len0 z0) (ev : Num w) :
    Calls Tryd.prog 4 #[.slice a0 len0 cap0] w fun e w' => e = .returned (.bool true) ∧ Below w.heap.size w w' := by
  obtain ⟨rfl, hrow⟩ := w0
  have HR := Lib.hid hrow
  have HE := Lib.hid ev
  clear hrow ev
  by_cases hbig : 1048576 < z0.length
  · have HB : Hid (decide (1048576 < z0.length) = true) := Lib.hid (decide_eq_true hbig)
    go_enter Tryd.func4, Tryd.ntmps4
    go_wp2_with fail
    refine (big_any a0 z0.length cap0 _).mono ?_
    rintro e w1 ⟨rfl, rfl⟩
    rw [HB.out]
    go_wp2
    go_ret
    exact ⟨rfl, Below.refl _ _⟩
  · have HB : Hid (decide (1048576 < z0.length) = false) := Lib.hid (decide_eq_false hbig)
    have hl : z0.length ≤ 1048576 := by omega
    clear hbig
    go_enter Tryd.func4, Tryd.ntmps4
    go_wp2_with fail
    refine (big_any a0 z0.length cap0 _).mono ?_
    rintro e w1 ⟨rfl, rfl⟩
    rw [HB.out]
    go_wp2_with fail
    refine (drawVar a0 cap0 z0 _ HR.out hl).mono ?_
    rintro e w1 ⟨n, ⟨n0, n1⟩, rfl, b1⟩
    have C1 := Lib.hid b1
    clear b1
    go_wp2_with fail
    refine (drawHex a0 cap0 z0 _ (HR.out.below C1.out) hl).mono ?_
    rintro e w2 ⟨tl, htl, rfl, b2⟩
    have C2 := Lib.hid (C1.out.trans (b2.mono C1.out.size))
    clear b2
    go_wp2_with fail
    refine (implEncodeVarint n _).mono ?_
    rintro e w3 ⟨rfl, b3⟩
    have C3 := Lib.hid (C2.out.trans (b3.mono C2.out.size))
    clear b3
    obtain ⟨s, hs⟩ : ∃ s, bstr (encV n) = s := ⟨_, rfl⟩
    rw [hs]
    have hcase : (s.toList.isEmpty = false ∧ (0 : Int) ≤ n ∧ n ≤ 562949953421311 ∧ decN (s ++ tl) = n ∧ decK (s ++ tl) = (s.size : Int) ∧ s.size ≤ 7) ∨
        (s.toList.isEmpty = true ∧ decide ((0 : Int) ≤ n) = false ∧ s.size ≤ 7) ∨ (s.toList.isEmpty = true ∧ (0 : Int) ≤ n ∧ decide (n ≤ 562949953421311) = false ∧ s.size ≤ 7) := by
      by_cases h0 : 0 ≤ n
      · by_cases h1 : n ≤ 562949953421311
        · left
          obtain ⟨m, rfl⟩ := Int.eq_ofNat_of_zero_le h0
          have hm : m ≤ 562949953421311 := by omega
          have hv := varL_len 6 m (by have : (128 : Nat) ^ 7 = 562949953421312 := by decide
                                      omega)
          rw [encV_yes hm] at hs
          have hd := dec_enc hm tl
          rw [hs] at hd
          have hz : s.size = (varL m).length := by rw [← hs, bstr_size]
          exact ⟨by rw [← hs, isEmpty_bstr, ne_nil_isEmpty hv.2], h0, h1, hd.1, by rw [hd.2, hz], by omega⟩
        · right; right
          rw [encV_no (by omega)] at hs
          exact ⟨by rw [← hs, isEmpty_bstr]; rfl, h0, decide_eq_false h1, by rw [← hs]; decide⟩
      · right; left
        rw [encV_no (by omega)] at hs
        exact ⟨by rw [← hs, isEmpty_bstr]; rfl, decide_eq_false h0, by rw [← hs]; decide⟩
    have hsz : s.size ≤ 7 := by rcases hcase with h | h | h <;> omega
    have ct : ¬ 9223372036854775807 < s.size + tl.size := by omega
    have HC := Lib.hid hcase
    clear hcase hs
    go_wp2_with fail
    refine (implDecodeVarint (s ++ tl) _ (by rw [ByteArray.size_append]; omega)).mono ?_
    rintro e w4 ⟨rfl, b4⟩
    have C4 := Lib.hid (C3.out.trans (b4.mono C3.out.size))
    clear b4
    obtain ⟨X, hX⟩ : ∃ X, decN (s ++ tl) = X := ⟨_, rfl⟩
    obtain ⟨K, hK⟩ : ∃ K, decK (s ++ tl) = K := ⟨_, rfl⟩
    rw [hX, hK] at HC ⊢
    have hc2 := HC.out
    clear HC hX hK
    have hc3 : (s.toList.isEmpty = false ∧ (0 : Int) ≤ n ∧ n ≤ 562949953421311 ∧ (X != n) = false ∧ (K != (s.size : Int)) = false) ∨
        (s.toList.isEmpty = true ∧ decide ((0 : Int) ≤ n) = false) ∨ (s.toList.isEmpty = true ∧ (0 : Int) ≤ n ∧ decide (n ≤ 562949953421311) = false) := by
      rcases hc2 with ⟨h1, h2, h3, h4, h5, _⟩ | ⟨h1, h2, _⟩ | ⟨h1, h2, h3, _⟩
      · left; exact ⟨h1, h2, h3, by rw [h4]; simp, by rw [h5]; simp⟩
      · right; left; exact ⟨h1, h2⟩
      · right; right; exact ⟨h1, h2, h3⟩
    clear hc2
    rcases hc3 with ⟨e1, e2, e3, e4, e5⟩ | ⟨e1, e2⟩ | ⟨e1, e2, e3⟩
    all_goals
      go_wp2_with fail
      clear e1 e2
      refine (drawFix a0 cap0 z0 _ (HR.out.below C4.out) hl).mono ?_
      rintro e w5 ⟨v, z, ⟨v0, v1⟩, ⟨q0, q1⟩, rfl, b5⟩
      have C5 := Lib.hid (C4.out.trans (b5.mono C4.out.size))
      have HWF := Lib.hid (wf_mk v0 v1)
      clear b5
      go_wp2_with fail
      refine (implEncodeFixed v z _ HWF.out).mono ?_
      rintro e w6 ⟨rfl, b6⟩
      have C6 := Lib.hid (C5.out.trans (b6.mono C5.out.size))
      clear b6
      obtain ⟨f, hf⟩ : ∃ f, bstr (encW v z) = f := ⟨_, rfl⟩
      rw [hf]
      have HF := Lib.hid hf
      have hcf := fix_cases v z f tl hf
      have hfs : f.size ≤ 7 := by rcases hcf with h | h <;> omega
      have cf : ¬ 9223372036854775807 < f.size + tl.size := by omega
      have HCF := Lib.hid hcf
      clear hcf hf
      go_wp2_with fail
      refine (implDecodeFixed (f ++ tl) z _ (by rw [ByteArray.size_append]; omega)).mono ?_
      rintro e w7 ⟨rfl, rfl⟩
      obtain ⟨Y, hY⟩ : ∃ Y, decVal (f ++ tl) z = Y := ⟨_, rfl⟩
      obtain ⟨I, hI⟩ : ∃ I, decOk (f ++ tl) z = I := ⟨_, rfl⟩
      rw [hY, hI] at HCF ⊢
      have hcf := HCF.out
      clear HCF hY hI
      have hcg : (f.toList.isEmpty = false ∧ I = true ∧ (Y != v) = false ∧ ((f.size : Int) != z) = false) ∨ f.toList.isEmpty = true := by
        rcases hcf with ⟨h1, h2, h3, h4, _⟩ | ⟨h1, _⟩
        · left; exact ⟨h1, h2, by rw [h3]; simp, by rw [h4]; simp⟩
        · right; exact h1
      clear hcf
      rcases hcg with ⟨f1, rfl, f3, f4⟩ | f1
      all_goals
        go_wp2_with fail
        refine (specEncodeFixed v z _ HWF.out).mono ?_
        rintro e w8 ⟨rfl, b8⟩
        rw [HF.out]
        have C8 := Lib.hid (C6.out.trans (b8.mono C6.out.size))
        clear b8
        go_wp2_with fail
        clear f1
        refine (implEncodeHex tl _ (by omega)).mono ?_
        rintro e w9 ⟨rfl, b9⟩
        have C9 := Lib.hid (C8.out.trans (b9.mono C8.out.size))
        clear b9
        obtain ⟨H, hH⟩ : ∃ H, bstr (hexL tl.data.toList) = H := ⟨_, rfl⟩
        have hback := hex_back tl
        have hHz : H.size = 2 * tl.size := by rw [← hH, bstr_size, hexL_len, dlen]
        rw [hH] at hback ⊢
        have HBK := Lib.hid hback
        clear hH hback
        go_wp2_with fail
        refine (implDecodeHex H _ (by omega)).mono ?_
        rintro e wa ⟨rfl, ba⟩
        rw [HBK.out.1, HBK.out.2]
        have CA := Lib.hid (C9.out.trans (ba.mono C9.out.size))
        clear ba
        go_wp2_with fail
        refine (implFormatInt v _ (HE.out.tab.below CA.out) v0 v1).mono ?_
        rintro e wb ⟨rfl, bb⟩
        have CB := Lib.hid (CA.out.trans (bb.mono CA.out.size))
        clear bb
        obtain ⟨D, hD⟩ : ∃ D, bstr (Lib.itoa v) = D := ⟨_, rfl⟩
        have hDz : D.size ≤ 20 := by rw [← hD, bstr_size]; exact itoa_len v v0 v1
        have hDl : D.data.toList = Lib.itoa v := by rw [← hD, bstr_list]
        have hp := parse_cases v v0 v1
        rw [← hDl] at hp
        rw [hD]
        have HD := Lib.hid hD
        have HP := Lib.hid hp
        clear hD hDl hp
        go_wp2_with fail
        refine (implParseInt D _ (HE.out.below CB.out) (by omega)).mono ?_
        rintro e wc ⟨rfl, bc⟩
        have CC := Lib.hid (CB.out.trans (bc.mono CB.out.size))
        clear bc
        obtain ⟨Z, hZ⟩ : ∃ Z, pV D.data.toList = Z := ⟨_, rfl⟩
        obtain ⟨G, hG⟩ : ∃ G, pB D.data.toList = G := ⟨_, rfl⟩
        rw [hZ, hG] at HP ⊢
        have hp := HP.out
        clear HP hZ hG
        have tt : (tl.toList == tl.toList) = true := by simp
        have dd : (D.toList == D.toList) = true := by simp
        have hh : ((H.size : Int) == 2 * (tl.size : Int)) = true := by rw [beq_iff_eq]; omega
        rcases hp with ⟨rfl, g2, g3, g4⟩ | ⟨rfl, g3⟩ | ⟨rfl, g3, g4⟩
        all_goals
          go_wp2_with fail
          refine (specFormatInt v _ v0 v1).mono ?_
          rintro e wd ⟨rfl, bd⟩
          rw [HD.out]
          have CD := Lib.hid (CC.out.trans (bd.mono CC.out.size))
          clear bd
          go_wp2
          go_ret
          exact ⟨rfl, CD.out⟩
theorem pow10_in : ("internal/strconv.uint64pow10", (Lib.tabData .u64 Lib.pow10Tab : DataW Unit)) ∈ Rows.fnIntegerEncodingsRow.laid := by
  rw [← (show (Rows.laid_internal_strconv_uint64pow10 : DataW Unit) = Lib.tabData .u64 Lib.pow10Tab by kernel_rfl)]
  exact .tail _ (.tail _ (.head _))
theorem num_of {W : World} (h : laidMet Tryd.prog Rows.fnIntegerEncodingsRow.laid W) (hs : W.ShapedOpen Tryd.prog) : Num W := ⟨tab_mk h pow10_in, errs_mk h 4 3 rfl rfl, hs⟩
set_option maxRecDepth 100000 in
theorem fnIntegerEncodings_lifted (os : Os) (started : os.Started) (H : Type) (enc : TypeId × Value → H) :
    ReturnsInHanded {} Tryd.checked os 4 .any (fun w args => (Rows.fnIntegerEncodingsSpec.pre enc Tryd.prog Tryd.f4 [] false w args ∧ laidMetH Tryd.prog Rows.fnIntegerEncodingsRow.laid w) ∧ sizedMet enc Tryd.prog Tryd.f4 (OpenSpec.ofChange Rows.fnIntegerEncodingsSpec) false w args) (Rows.fnIntegerEncodingsSpec.post enc Tryd.prog Tryd.f4 false true false false) := by
  refine returnsIn_laid (C := Tryd.checked) (X := fun w _ => laidMetH Tryd.prog Rows.fnIntegerEncodingsRow.laid w) (fun _ _ _ hh h => h.of_heap hh) own started (by kernel_rfl) Tryd.func4
    (ChangeSpec.witness_shaped (enc := enc) (C := Tryd.checked) (os := os) (X := fun w _ => laidMetH Tryd.prog Rows.fnIntegerEncodingsRow.laid w) false (World.laidAll Tryd.prog os Rows.fnIntegerEncodingsRow.laid) #[.slice none 0 0] 8 (World.laidAll_os _ _ _)
      (World.shaped_of_ZipB (by kernel_rfl) (by kernel_rfl)) (by kernel_rfl) (by kernel_rfl) (by kernel_rfl)
      (by rw [MakeChecks.laidMetH_plain _ _ _ (by kernel_rfl)]; exact laidMet_laidAll _ (by kernel_rfl) (by kernel_rfl))) ?_
  intro W base args ds gs before hval0 hW hL0 hsh
  have hL : laidMet Tryd.prog Rows.fnIntegerEncodingsRow.laid W := by rw [MakeChecks.laidMetH_plain _ _ _ (by kernel_rfl)] at hL0; exact hL0
  have hval : ∀ (j : Nat) t v, Tryd.f4.params[j]? = some t → args[j]? = some v → Value.okWide Tryd.prog W .any base t v := hval0
  have hW' := hW
  obtain ⟨p, q, hA0, hV, rfl, hfz, hnd⟩ := hW
  have hA : DataW.TrodAll enc Tryd.prog W 0 (fun _ => true) true Tryd.f4.params.toList args.toList ds p := hA0
  rw [Tryd.params4] at hA hval
  obtain ⟨v0, vs0, d0, ds0, p0, q0, hargs, rfl, rfl, h0, r0⟩ := trodAll_cons hA
  obtain ⟨rfl, rfl, rfl⟩ := trodAll_nil r0
  obtain rfl : args = #[v0] := by cases args; simp_all
  obtain ⟨rfl, rfl⟩ := trodVars_none hV
  obtain ⟨a0, len0, cap0, rfl⟩ := okWide_slice Tryd.underlying22 (hval 0 22 v0 rfl rfl)
  have k0 := h0
  have lt0 : ∀ x ∈ p0, x.block < W.heap.size := by obtain ⟨m, hm⟩ := k0; exact DataW.trod_lt m _ _ _ hm
  obtain ⟨z0, w0⟩ := open_bytes_is Tryd.underlying22 Tryd.underlying5 (by kernel_rfl) h0
  clear hA0 hval0
  refine (fnIntegerEncodings_walk (w := W) a0 len0 cap0 z0 w0 (num_of hL hsh)).mono fun e W' ⟨he, bel⟩ => ?_
  subst he
  exact ⟨_, rfl, _, _, _, [], _, [], hW', trodAll_mk1 (shut_bool Tryd.underlying4 _), (trodAll_cons_mk (Below.trod laidOut (by kernel_rfl) (of_decide_eq_true (by kernel_rfl)) k0 bel lt0) trodAll_mk0), rfl, bel.frame _, fun h => by cases h⟩

theorem fnIntegerEncodings_over : Rows.fnIntegerEncodingsRow.holds Tryd.pinned (OpenSpec.ofChange Rows.fnIntegerEncodingsSpec) :=
  OpenClaim.holds_of_wide 4 Tryd.f4 rfl rfl rfl rfl rfl rfl rfl ⟨rfl, rfl, rfl, rfl, rfl⟩ rfl rfl rfl rfl rfl (by kernel_rfl) Tryd.func4 (by kernel_rfl)
    (of_decide_eq_true (by kernel_rfl)) (by unfold Func.isWrapper; first | (rw [if_pos (by decide +kernel)]; kernel_rfl) | (rw [if_neg (by decide +kernel)]; exact ⟨rfl, rfl⟩))
    (fun os started H enc _ => fnIntegerEncodings_lifted os started H enc)

theorem fnIntegerEncodings_said : Rows.FnIntegerEncodingsSaid := fnIntegerEncodings_over
theorem fnIntegerEncodings_holds : Rows.FnIntegerEncodingsCardSaid :=
  Claim7.holds_tied_plain_at .later [] _ true _ _ fnIntegerEncodings_said (fun _ h => by cases h) (by kernel_rfl) (fun _ h => by cases h) fnIntegerEncodings_row_tie rfl ⟨rfl, rfl⟩ (by kernel_rfl) rfl
    (fun f fn hf hfn => by
      obtain rfl : f = 4 := Option.some.inj ((show Tryd.prog.funcNamed "loop.example/g01923/laws.FnIntegerEncodings" = some 4 by kernel_rfl).symm.trans hf) |>.symm
      obtain rfl : fn = Tryd.f4 := (Option.some.inj (Tryd.func4.symm.trans hfn)).symm
      exact ⟨by kernel_rfl, fun j t ht => by
        rw [Tryd.params4] at ht
        have hm : t ∈ [22] := by simpa using Array.mem_of_getElem? ht
        have hall : ([22].all fun u => !Tryd.prog.wantsStandIn u) = true := by kernel_rfl
        exact (show Tryd.prog.wantsStandIn t = false by simpa using List.all_eq_true.1 hall t hm)⟩)
    (by kernel_rfl)
#print axioms fnIntegerEncodings_holds
end Go.Proofs.YtoijjielnbcphaaDoor

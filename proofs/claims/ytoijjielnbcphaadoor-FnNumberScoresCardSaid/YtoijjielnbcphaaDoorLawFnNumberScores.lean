/-
  FnNumberScores returns true for every code. Condition: the listed variables hold what the program's text lays (the card ties them).
-/
import Derived.Test.YtoijjielnbcphaaDoorNumDraw
import Derived.ProofKit
import Derived.OpenShut
import Derived.ShutString
import Derived.ChangeOld
import Derived.OpenVars
import Derived.Lay
import Derived.SevenTiedAt
import Derived.Test.YtoijjielnbcphaaDoorCards
import Derived.Test.YtoijjielnbcphaaDoorTie
namespace Go.Proofs.YtoijjielnbcphaaDoor
open Go.ChangeShapes Go.WideShapes Go.ChangeAt Go.RowKit
open Go.ChangeMaps (open_string shut_string)
set_option linter.unusedVariables false
set_option linter.unusedSimpArgs false
theorem forall_snoc {l : List Int} {k : Nat} (hk : k < l.length) {lo hi x : Int} (hx : l[k] = x) (h : ∀ z ∈ l.take k, lo ≤ z ∧ z ≤ hi) {lo' hi' : Int} (h1 : lo' ≤ lo ∧ lo' ≤ x) (h2 : hi ≤ hi' ∧ x ≤ hi') : ∀ z ∈ l.take (k + 1), lo' ≤ z ∧ z ≤ hi' := by
  intro z hz
  rw [List.take_succ_eq_append_getElem hk, hx, List.mem_append, List.mem_singleton] at hz
  rcases hz with hz | rfl
  · have := h z hz; omega
  · omega
set_option maxHeartbeats 8000000 in
theorem fnNumberScores_walk {w : World} (a0 : Option Addr) (len0 cap0 : Nat) (z0 : List UInt8) (w0 : ArgB w a0 len0 z0) (ev : Num w) :
    Calls Tryd.prog 5 #[.slice a0 len0 cap0] w fun e w' => e = .returned (.bool true) ∧ Below w.heap.size w w' := by
  obtain ⟨rfl, hrow⟩ := w0
  have HR := Lib.hid hrow
  have HE := Lib.hid ev
  clear hrow ev
  by_cases hbig : 1048576 < z0.length
  · have HB : Hid (decide (1048576 < z0.length) = true) := Lib.hid (decide_eq_true hbig)
    go_enter Tryd.func5, Tryd.ntmps5
    go_wp2_with fail
    refine (big_any a0 z0.length cap0 _).mono ?_
    rintro e w1 ⟨rfl, rfl⟩
    rw [HB.out]
    go_wp2
    go_ret
    exact ⟨rfl, Below.refl _ _⟩
  · have HB : Hid (decide (1048576 < z0.length) = false) := Lib.hid (decide_eq_false hbig)
    have hl : z0.length ≤ 1048576 := by omega
    clear hbig
    go_enter Tryd.func5, Tryd.ntmps5
    go_wp2_with fail
    refine (big_any a0 z0.length cap0 _).mono ?_
    rintro e w1 ⟨rfl, rfl⟩
    rw [HB.out]
    go_wp2_with fail
    refine (drawNum a0 cap0 z0 _ HR.out hl).mono ?_
    rintro e w1 ⟨x, y, z, rfl, b1⟩
    have C1 := Lib.hid b1
    clear b1
    go_wp2_with fail
    refine (implNumberScore x y z _).mono ?_
    rintro e w' ⟨rfl, rfl⟩
    have hc := numScore_comm x y z
    obtain ⟨n0, n1⟩ := numScore_range x y z
    obtain ⟨n, hn⟩ : ∃ n, numScore x y z = n := ⟨_, rfl⟩
    rw [hn] at hc n0 n1 ⊢
    have HN := Lib.hid hn
    have HC := Lib.hid hc
    clear hn hc
    have nn : (n != n) = false := by simp
    go_wp2_with fail
    refine (specNumberScore x y z _).mono ?_
    rintro e w' ⟨rfl, rfl⟩
    rw [HN.out]
    go_wp2_with fail
    refine (implNumberScore y x z _).mono ?_
    rintro e w' ⟨rfl, rfl⟩
    rw [HC.out]
    go_wp2_with fail
    refine (drawPhone a0 cap0 z0 _ (HR.out.below C1.out) hl).mono ?_
    rintro e w2 ⟨p, q, hp, hq, rfl, b2⟩
    have C2 := Lib.hid (C1.out.trans (b2.mono C1.out.size))
    clear b2
    clear n0 n1
    go_wp2_with fail
    refine (implPhoneScore p q _ (by omega) (by omega)).mono ?_
    rintro e w3 ⟨rfl, b3⟩
    have C3 := Lib.hid (C2.out.trans (b3.mono C2.out.size))
    clear b3
    have hc := phone_comm (bstr (digitsOf p.data.toList)) (bstr (digitsOf q.data.toList))
    obtain ⟨k, hk⟩ : ∃ k, phone (bstr (digitsOf p.data.toList)) (bstr (digitsOf q.data.toList)) = k := ⟨_, rfl⟩
    rw [hk] at hc ⊢
    have HK := Lib.hid hk
    have HC2 := Lib.hid hc
    clear hk hc
    have kk : (k != k) = false := by simp
    go_wp2_with fail
    refine (specPhoneScore p q _ (by omega) (by omega)).mono ?_
    rintro e w4 ⟨rfl, b4⟩
    rw [HK.out]
    have C4 := Lib.hid (C3.out.trans (b4.mono C3.out.size))
    clear b4
    go_wp2_with fail
    refine (implPhoneScore q p _ (by omega) (by omega)).mono ?_
    rintro e w5 ⟨rfl, b5⟩
    rw [HC2.out]
    have C5 := Lib.hid (C4.out.trans (b5.mono C4.out.size))
    clear b5
    go_wp2_with fail
    refine (implDigitsOf p _ (by omega)).mono ?_
    rintro e w6 ⟨rfl, b6⟩
    have C6 := Lib.hid (C5.out.trans (b6.mono C5.out.size))
    clear b6
    obtain ⟨D, hD⟩ : ∃ D, bstr (digitsOf p.data.toList) = D := ⟨_, rfl⟩
    rw [hD]
    have HD := Lib.hid hD
    clear hD
    have dd : (D.toList != D.toList) = false := by simp
    have dd2 : (D.toList == D.toList) = true := by simp
    go_wp2_with fail
    refine (specDigitsOf p _ (by omega)).mono ?_
    rintro e w7 ⟨rfl, b7⟩
    rw [HD.out]
    have C7 := Lib.hid (C6.out.trans (b7.mono C6.out.size))
    clear b7
    go_wp2_with fail
    refine (drawYear a0 cap0 z0 _ (HR.out.below C7.out) hl).mono ?_
    rintro e w8 ⟨Y, hY, rfl, b8⟩
    have C8 := Lib.hid (C7.out.trans (b8.mono C7.out.size))
    clear b8
    go_wp2_with fail
    refine (implParseYear Y _ (HE.out.below C8.out) (by omega)).mono ?_
    rintro e w9 ⟨rfl, b9⟩
    have C9 := Lib.hid (C8.out.trans (b9.mono C8.out.size))
    clear b9
    obtain ⟨v, hv⟩ : ∃ v, yearV Y.data.toList = v := ⟨_, rfl⟩
    rw [hv]
    have HV := Lib.hid hv
    clear hv
    have vv : (v != v) = false := by simp
    go_wp2_with fail
    refine (specParseYear Y _ (by omega)).mono ?_
    rintro e wa ⟨rfl, ba⟩
    rw [HV.out]
    have CA := Lib.hid (C9.out.trans (ba.mono C9.out.size))
    clear ba
    go_wp2_with fail
    refine (drawComb a0 cap0 z0 _ (HR.out.below CA.out) hl).mono ?_
    rintro e wb ⟨pa, pb, c1, c2, la, lb, ha, hb, ra, rb, rfl, bb⟩
    have CB := Lib.hid (CA.out.trans (bb.mono CA.out.size))
    have RA := Lib.hid ra
    have RB := Lib.hid rb
    clear bb ra rb
    go_wp2_with fail
    refine (implCombineScores _ _ _ _ la lb _ RA.out RB.out (by omega) (by omega)).mono ?_
    rintro e wc ⟨rfl, bc⟩
    have CC := Lib.hid (CB.out.trans (bc.mono CB.out.size))
    have RA2 := Lib.hid (RA.out.below bc)
    have RB2 := Lib.hid (RB.out.below bc)
    clear bc RA RB
    have hbet := fun lo hi h => comb_between (l := la) (w := lb) (lo := lo) (hi := hi) h
    obtain ⟨c, hcc⟩ : ∃ c, comb la lb = c := ⟨_, rfl⟩
    rw [hcc] at hbet ⊢
    have HCC := Lib.hid hcc
    have HBET := Lib.hid hbet
    clear hcc hbet
    have cc : (c != c) = false := by simp
    go_wp2_with fail
    refine (specCombineScores _ _ _ _ la lb _ RA2.out RB2.out (by omega) (by omega)).mono ?_
    rintro e wd ⟨rfl, bd⟩
    rw [HCC.out]
    have CD := Lib.hid (CC.out.trans (bd.mono CC.out.size))
    have RA3 := Lib.hid (RA2.out.below bd)
    clear bd RA2 RB2
    go_wp2
    go_loopw [14, 15, 16] (fun u v i wr => ∃ (k : Nat) (lo hi : Int), k ≤ la.length ∧ i = .int .i64 k ∧ u = .int .i64 lo ∧ v = .int .i64 hi ∧ (∀ z ∈ la.take k, lo ≤ z ∧ z ≤ hi) ∧ wr = wd) (fun _ _ i _ => la.length - (intOf i).toNat)
    case atStart => exact ⟨0, 1000, 0, Nat.zero_le _, rfl, rfl, rfl, by simp, rfl⟩
    case round =>
      obtain ⟨j, lo, hi, hj, rfl, rfl, rfl, hall, rfl⟩ := hrel
      have HALL := Lib.hid hall
      clear hall
      by_cases hlt : j < la.length
      · obtain ⟨b1, o1, rfl, hc1⟩ := RA3.out.cell j hlt
        unfold fI at hc1
        have k1 : (j : Int) < (la.length : Int) := by omega
        obtain ⟨s, hs⟩ : ∃ s, s = la[j] := ⟨_, rfl⟩
        rw [← hs] at hc1
        have HS := Lib.hid hs
        clear hs
        go_wp2
        go_roundw
        case rel => exact ⟨j + 1, min lo s, max hi s, by omega, by go_num, rfl, rfl, forall_snoc hlt HS.out.symm HALL.out (by omega) (by omega), by trivial⟩
        case measure => simp [intOf]; omega
      · obtain rfl : j = la.length := by omega
        have hf := HALL.out
        rw [List.take_length] at hf
        rcases HBET.out lo hi hf with rfl | ⟨h1, h2⟩
        · clear hf
          go_wp2
          go_ret
          exact ⟨rfl, CD.out⟩
        · clear hf
          by_cases c0 : c = 0
          · subst c0
            go_wp2
            go_ret
            exact ⟨rfl, CD.out⟩
          · have c0' : (c == 0) = false := by rw [beq_eq_false_iff_ne]; exact c0
            go_wp2
            go_ret
            exact ⟨rfl, CD.out⟩
theorem pow10_in : ("internal/strconv.uint64pow10", (Lib.tabData .u64 Lib.pow10Tab : DataW Unit)) ∈ Rows.fnNumberScoresRow.laid := by
  rw [← (show (Rows.laid_internal_strconv_uint64pow10 : DataW Unit) = Lib.tabData .u64 Lib.pow10Tab by kernel_rfl)]
  exact .tail _ (.tail _ (.head _))
theorem num_of {W : World} (h : laidMet Tryd.prog Rows.fnNumberScoresRow.laid W) (hs : W.ShapedOpen Tryd.prog) : Num W := ⟨tab_mk h pow10_in, errs_mk h 4 3 rfl rfl, hs⟩
set_option maxRecDepth 100000 in
theorem fnNumberScores_lifted (os : Os) (started : os.Started) (H : Type) (enc : TypeId × Value → H) :
    ReturnsInHanded {} Tryd.checked os 5 .any (fun w args => (Rows.fnNumberScoresSpec.pre enc Tryd.prog Tryd.f5 [] false w args ∧ laidMetH Tryd.prog Rows.fnNumberScoresRow.laid w) ∧ sizedMet enc Tryd.prog Tryd.f5 (OpenSpec.ofChange Rows.fnNumberScoresSpec) false w args) (Rows.fnNumberScoresSpec.post enc Tryd.prog Tryd.f5 false true false false) := by
  refine returnsIn_laid (C := Tryd.checked) (X := fun w _ => laidMetH Tryd.prog Rows.fnNumberScoresRow.laid w) (fun _ _ _ hh h => h.of_heap hh) own started (by kernel_rfl) Tryd.func5
    (ChangeSpec.witness_shaped (enc := enc) (C := Tryd.checked) (os := os) (X := fun w _ => laidMetH Tryd.prog Rows.fnNumberScoresRow.laid w) false (World.laidAll Tryd.prog os Rows.fnNumberScoresRow.laid) #[.slice none 0 0] 8 (World.laidAll_os _ _ _)
      (World.shaped_of_ZipB (by kernel_rfl) (by kernel_rfl)) (by kernel_rfl) (by kernel_rfl) (by kernel_rfl)
      (by rw [MakeChecks.laidMetH_plain _ _ _ (by kernel_rfl)]; exact laidMet_laidAll _ (by kernel_rfl) (by kernel_rfl))) ?_
  intro W base args ds gs before hval0 hW hL0 hsh
  have hL : laidMet Tryd.prog Rows.fnNumberScoresRow.laid W := by rw [MakeChecks.laidMetH_plain _ _ _ (by kernel_rfl)] at hL0; exact hL0
  have hval : ∀ (j : Nat) t v, Tryd.f5.params[j]? = some t → args[j]? = some v → Value.okWide Tryd.prog W .any base t v := hval0
  have hW' := hW
  obtain ⟨p, q, hA0, hV, rfl, hfz, hnd⟩ := hW
  have hA : DataW.TrodAll enc Tryd.prog W 0 (fun _ => true) true Tryd.f5.params.toList args.toList ds p := hA0
  rw [Tryd.params5] at hA hval
  obtain ⟨v0, vs0, d0, ds0, p0, q0, hargs, rfl, rfl, h0, r0⟩ := trodAll_cons hA
  obtain ⟨rfl, rfl, rfl⟩ := trodAll_nil r0
  obtain rfl : args = #[v0] := by cases args; simp_all
  obtain ⟨rfl, rfl⟩ := trodVars_none hV
  obtain ⟨a0, len0, cap0, rfl⟩ := okWide_slice Tryd.underlying22 (hval 0 22 v0 rfl rfl)
  have k0 := h0
  have lt0 : ∀ x ∈ p0, x.block < W.heap.size := by obtain ⟨m, hm⟩ := k0; exact DataW.trod_lt m _ _ _ hm
  obtain ⟨z0, w0⟩ := open_bytes_is Tryd.underlying22 Tryd.underlying5 (by kernel_rfl) h0
  clear hA0 hval0
  refine (fnNumberScores_walk (w := W) a0 len0 cap0 z0 w0 (num_of hL hsh)).mono fun e W' ⟨he, bel⟩ => ?_
  subst he
  exact ⟨_, rfl, _, _, _, [], _, [], hW', trodAll_mk1 (shut_bool Tryd.underlying4 _), (trodAll_cons_mk (Below.trod laidOut (by kernel_rfl) (of_decide_eq_true (by kernel_rfl)) k0 bel lt0) trodAll_mk0), rfl, bel.frame _, fun h => by cases h⟩

theorem fnNumberScores_over : Rows.fnNumberScoresRow.holds Tryd.pinned (OpenSpec.ofChange Rows.fnNumberScoresSpec) :=
  OpenClaim.holds_of_wide 5 Tryd.f5 rfl rfl rfl rfl rfl rfl rfl ⟨rfl, rfl, rfl, rfl, rfl⟩ rfl rfl rfl rfl rfl (by kernel_rfl) Tryd.func5 (by kernel_rfl)
    (of_decide_eq_true (by kernel_rfl)) (by unfold Func.isWrapper; first | (rw [if_pos (by decide +kernel)]; kernel_rfl) | (rw [if_neg (by decide +kernel)]; exact ⟨rfl, rfl⟩))
    (fun os started H enc _ => fnNumberScores_lifted os started H enc)

theorem fnNumberScores_said : Rows.FnNumberScoresSaid := fnNumberScores_over
theorem fnNumberScores_holds : Rows.FnNumberScoresCardSaid :=
  Claim7.holds_tied_plain_at .later [] _ true _ _ fnNumberScores_said (fun _ h => by cases h) (by kernel_rfl) (fun _ h => by cases h) fnNumberScores_row_tie rfl ⟨rfl, rfl⟩ (by kernel_rfl) rfl
    (fun f fn hf hfn => by
      obtain rfl : f = 5 := Option.some.inj ((show Tryd.prog.funcNamed "loop.example/g01923/laws.FnNumberScores" = some 5 by kernel_rfl).symm.trans hf) |>.symm
      obtain rfl : fn = Tryd.f5 := (Option.some.inj (Tryd.func5.symm.trans hfn)).symm
      exact ⟨by kernel_rfl, fun j t ht => by
        rw [Tryd.params5] at ht
        have hm : t ∈ [22] := by simpa using Array.mem_of_getElem? ht
        have hall : ([22].all fun u => !Tryd.prog.wantsStandIn u) = true := by kernel_rfl
        exact (show Tryd.prog.wantsStandIn t = false by simpa using List.all_eq_true.1 hall t hm)⟩)
    (by kernel_rfl)
#print axioms fnNumberScores_holds
end Go.Proofs.YtoijjielnbcphaaDoor

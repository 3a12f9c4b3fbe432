/-
  FnExactFormatRecord returns true for every record. Condition: the listed tables hold what the program's text lays (the card ties them).
-/
import Derived.Test.YtdhdjmeolkobeaaDoorRecFmt
import Derived.Test.YtdhdjmeolkobeaaDoorOpenRec
import Derived.ProofKit
import Derived.OpenShut
import Derived.ShutString
import Derived.ChangeOld
import Derived.OpenVars
import Derived.Lay
import Derived.SevenTiedAt
import Derived.Test.YtdhdjmeolkobeaaDoorCards
import Derived.Test.YtdhdjmeolkobeaaDoorTie
namespace Go.Proofs.YtdhdjmeolkobeaaDoor
open Go.ChangeShapes Go.WideShapes Go.ChangeAt Go.RowKit
open Go.ChangeMaps (open_string shut_string)
set_option linter.unusedVariables false
set_option linter.unusedSimpArgs false
abbrev Env (w : World) : Prop := Tab w
theorem stepL {W0 W W' : World} {Q : Prop} (h : Below W0.heap.size W0 W ∧ Q) (hb : Below W.heap.size W W') : Below W0.heap.size W0 W' := h.1.trans (hb.mono h.1.size)
theorem keepL2 {W0 W : World} {b0 b1 : Nat} {s0 n0 m0 s1 n1 m1 : Int} {a0 a1 : Option Addr} {l0 c0 l1 c1 : Nat} (q0 : Hid (RecAt W0 b0 s0 n0 m0 a0 l0 c0)) (q1 : Hid (RecAt W0 b1 s1 n1 m1 a1 l1 c1)) (h : Below W0.heap.size W0 W) :
    Below W0.heap.size W0 W ∧ W.cell? ⟨b0, 0, none⟩ = some (.int .i64 s0) ∧ W.cell? ⟨b0, 1, none⟩ = some (.int .i64 n0) ∧ W.cell? ⟨b0, 2, none⟩ = some (.int .i64 m0) ∧ W.cell? ⟨b0, 3, none⟩ = some (.slice a0 l0 c0) ∧
    W.cell? ⟨b1, 0, none⟩ = some (.int .i64 s1) ∧ W.cell? ⟨b1, 1, none⟩ = some (.int .i64 n1) ∧ W.cell? ⟨b1, 2, none⟩ = some (.int .i64 m1) ∧ W.cell? ⟨b1, 3, none⟩ = some (.slice a1 l1 c1) := by
  obtain ⟨p0, p1, p2, p3⟩ := q0.out.below h
  obtain ⟨t0, t1, t2, t3⟩ := q1.out.below h
  exact ⟨h, p0, p1, p2, p3, t0, t1, t2, t3⟩
set_option maxHeartbeats 2000000 in
theorem fnExactFormatRecord_walk {w : World} (s0 n0 m0 : Int) (a0 : Option Addr) (len0 cap0 : Nat) (z0 : List ByteArray) (w0 : ArgS w a0 len0 z0) (ev : Env w) :
    Calls Tryd.prog 6 #[recV s0 n0 m0 a0 len0 cap0] w fun e w' => e = .returned (.bool true) ∧ Below w.heap.size w w' := by
  obtain ⟨rfl, r0, f0, g0⟩ := w0
  have G0 := Lib.hid g0; clear g0
  obtain ⟨W0, hW0⟩ : ∃ W0, W0 = w.alloc (.cells #[.int .i64 s0, .int .i64 n0, .int .i64 m0, .slice a0 z0.length cap0] 24) := ⟨_, rfl⟩
  have q0 : RecAt W0 w.heap.size s0 n0 m0 a0 z0.length cap0 := by rw [hW0]; exact RecAt.new w _ _ _ _ _ _ _
  have c0 : Below w.heap.size w W0 := by rw [hW0]; exact (Below.refl _ _).alloc (Nat.le_refl _) _
  have HW0 := Lib.hid hW0; clear hW0
  have Q0 := Lib.hid q0; clear q0
  have hbig : w.heap.size ≤ W0.heap.size := c0.size
  obtain ⟨R, hR⟩ : ∃ R, bstr (fname s0 n0 m0 z0) = R := ⟨_, rfl⟩
  have HR := Lib.hid hR; clear hR
  have hRR : (R.toList != R.toList) = false := by simp
  by_cases h0 : (z0.length : Int) + sumS z0 ≤ 1048576
  · have H0 := Lib.hid (szS_yes h0)
    have G1 : Hid (∀ k (h : k < z0.length), z0[k].size ≤ 1048576) := Lib.hid (fun k h => by have := sumS_ge h; omega)
    have hz0 : (z0.length : Int) + sumS z0 ≤ 1048576 := h0
    (try unfold recV)
    go_enter Tryd.func6, Tryd.ntmps6
    go_wp2_with fail
    rw [← HW0.out]
    refine (szRecord_any s0 n0 m0 a0 cap0 z0 _ _ (r0.below c0) f0 G0 (by omega) (by omega)).mono ?_
    rintro e x1 ⟨rfl, b1⟩
    rw [H0.out]
    have c1 := c0.trans (b1.mono c0.size)
    obtain ⟨p0, p1, p2, p3⟩ := Q0.out.below b1
    go_wp2_with fail
    refine (toRecord_any s0 n0 m0 a0 cap0 z0 _ (r0.below c1) (by omega)).mono ?_
    rintro e x2 ⟨g2, rfl, o2, b2⟩
    have c2 := c1.trans (b2.mono c1.size)
    have d2 := b1.trans (b2.mono b1.size)
    clear p0 p1 p2 p3
    go_wp2_with fail
    refine (specFormatRecord s0 n0 m0 _ _ z0 _ o2.at (by omega) G1).mono ?_
    rintro e x3 ⟨rfl, b3⟩
    rw [HR.out]
    have c3 := c2.trans (b3.mono c2.size)
    have d3 := d2.trans (b3.mono d2.size)
    obtain ⟨p0, p1, p2, p3⟩ := Q0.out.below d3
    go_wp2_with fail
    refine (toRecord_any s0 n0 m0 a0 cap0 z0 _ (r0.below c3) (by omega)).mono ?_
    rintro e x4 ⟨g4, rfl, o4, b4⟩
    have c4 := c3.trans (b4.mono c3.size)
    have d4 := d3.trans (b4.mono d3.size)
    clear p0 p1 p2 p3
    go_wp2_with fail
    have u5 := RecAt.new x4 s0 n0 m0 (some ⟨g4, 0, none⟩) z0.length z0.length 27
    have c5 := c4.alloc c4.size (.cells #[.int .i64 s0, .int .i64 n0, .int .i64 m0, .slice (some ⟨g4, 0, none⟩) z0.length z0.length] 27)
    have d5 := d4.alloc d4.size (.cells #[.int .i64 s0, .int .i64 n0, .int .i64 m0, .slice (some ⟨g4, 0, none⟩) z0.length z0.length] 27)
    have b5 : Below x4.heap.size x4 (x4.alloc (.cells #[.int .i64 s0, .int .i64 n0, .int .i64 m0, .slice (some ⟨g4, 0, none⟩) z0.length z0.length] 27)) := (Below.refl _ _).alloc (Nat.le_refl _) _
    generalize x4.alloc (.cells #[.int .i64 s0, .int .i64 n0, .int .i64 m0, .slice (some ⟨g4, 0, none⟩) z0.length z0.length] 27) = x5 at u5 c5 d5 b5 ⊢
    refine (implFormatRecord s0 n0 m0 _ _ z0 _ (ev.below c5) ((o4.below b5).at) (by omega) G1 (Nat.le_refl _)).mono ?_
    rintro e x6 ⟨rfl, b6⟩
    rw [HR.out]
    have c6 := c5.trans (b6.mono c5.size)
    have d6 := d5.trans (b6.mono d5.size)
    have U0 := Lib.hid (u5.below b6)
    have K0 := Lib.hid (Q0.out.below d6)
    have R0 := Lib.hid (r0.below c6)
    have V0 := Lib.hid ((o4.below b5).below b6).at
    clear u5 b5 c5 d5 b6
    obtain ⟨B4, hB4⟩ : ∃ b, b = x4.heap.size := ⟨_, rfl⟩
    rw [← hB4] at U0 ⊢
    clear hB4
    go_wp2
    go_region_held3 (fun W => Below x6.heap.size x6 W ∧ W.cell? ⟨B4, 0, none⟩ = some (.int .i64 s0) ∧ W.cell? ⟨B4, 1, none⟩ = some (.int .i64 n0) ∧ W.cell? ⟨B4, 2, none⟩ = some (.int .i64 m0) ∧ W.cell? ⟨B4, 3, none⟩ = some (.slice (some ⟨g4, 0, none⟩) z0.length z0.length) ∧
        W.cell? ⟨w.heap.size, 0, none⟩ = some (.int .i64 s0) ∧ W.cell? ⟨w.heap.size, 1, none⟩ = some (.int .i64 n0) ∧ W.cell? ⟨w.heap.size, 2, none⟩ = some (.int .i64 m0) ∧ W.cell? ⟨w.heap.size, 3, none⟩ = some (.slice a0 z0.length cap0))
      (first | assumption | exact keepL2 U0 K0 (Below.refl _ _).drew | exact keepL2 U0 K0 (stepL (by assumption) (by assumption)))
      (first
        | (go_at_call 12; refine (toRecord_any s0 n0 m0 a0 cap0 z0 _ (R0.out.below (And.left (by assumption))) (by omega)).mono ?_; rintro e w' ⟨g, rfl, ho, hb⟩)
        | (go_at_call 14; refine (eqRecord_same s0 n0 m0 _ _ _ _ z0 _ (V0.out.below (And.left (by assumption))) ho.at f0).mono ?_; rintro e w' ⟨rfl, hb⟩))
    have c7 : Below x6.heap.size x6 w' := And.left (by assumption)
    go_wp2
    go_ret
    exact ⟨rfl, c6.trans (c7.mono c6.size)⟩
  · have H0 := Lib.hid (szS_no (l := z0) (left := 1048576) (by omega))
    (try unfold recV)
    go_enter Tryd.func6, Tryd.ntmps6
    go_wp2_with fail
    rw [← HW0.out]
    refine (szRecord_any s0 n0 m0 a0 cap0 z0 _ _ (r0.below c0) f0 G0 (by omega) (by omega)).mono ?_
    rintro e x1 ⟨rfl, b1⟩
    rw [H0.out]
    go_wp2
    go_ret
    exact ⟨rfl, c0.trans (b1.mono c0.size)⟩

theorem pow10_in : ("internal/strconv.uint64pow10", (Lib.tabData .u64 Lib.pow10Tab : DataW Unit)) ∈ Rows.fnExactFormatRecordRow.laid := by
  rw [← (show (Rows.laid_internal_strconv_uint64pow10 : DataW Unit) = Lib.tabData .u64 Lib.pow10Tab by kernel_rfl)]
  exact .tail _ (.tail _ (.head _))
set_option maxRecDepth 100000 in
theorem fnExactFormatRecord_lifted (os : Os) (started : os.Started) (H : Type) (enc : TypeId × Value → H) :
    ReturnsInHanded {} Tryd.checked os 6 .any (fun w args => (Rows.fnExactFormatRecordSpec.pre enc Tryd.prog Tryd.f6 [] false w args ∧ laidMetH Tryd.prog Rows.fnExactFormatRecordRow.laid w) ∧ sizedMet enc Tryd.prog Tryd.f6 (OpenSpec.ofChange Rows.fnExactFormatRecordSpec) false w args) (Rows.fnExactFormatRecordSpec.post enc Tryd.prog Tryd.f6 false true false false) := by
  refine returnsIn_laid (C := Tryd.checked) (X := fun w _ => laidMetH Tryd.prog Rows.fnExactFormatRecordRow.laid w) (fun _ _ _ hh h => h.of_heap hh) own started (by kernel_rfl) Tryd.func6
    (ChangeSpec.witness_shaped (enc := enc) (C := Tryd.checked) (os := os) (X := fun w _ => laidMetH Tryd.prog Rows.fnExactFormatRecordRow.laid w) false (World.laidAll Tryd.prog os Rows.fnExactFormatRecordRow.laid) #[.agg #[.int .i64 0, .int .i64 0, .int .i64 0, .slice none 0 0]] 8 (World.laidAll_os _ _ _)
      (World.shaped_of_ZipB (by kernel_rfl) (by kernel_rfl)) (by kernel_rfl) (by kernel_rfl) (by kernel_rfl)
      (by rw [MakeChecks.laidMetH_plain _ _ _ (by kernel_rfl)]; exact laidMet_laidAll _ (by kernel_rfl) (by kernel_rfl))) ?_
  intro W base args ds gs before hval0 hW hL0 hsh
  have hL : laidMet Tryd.prog Rows.fnExactFormatRecordRow.laid W := by rw [MakeChecks.laidMetH_plain _ _ _ (by kernel_rfl)] at hL0; exact hL0
  have hval : ∀ (j : Nat) t v, Tryd.f6.params[j]? = some t → args[j]? = some v → Value.okWide Tryd.prog W .any base t v := hval0
  have hW' := hW
  obtain ⟨p, q, hA0, hV, rfl, hfz, hnd⟩ := hW
  have hA : DataW.TrodAll enc Tryd.prog W 0 (fun _ => true) true Tryd.f6.params.toList args.toList ds p := hA0
  rw [Tryd.params6] at hA hval
  obtain ⟨v0, vs0, d0, ds0, p0, q0, hargs, rfl, rfl, h0, r0⟩ := trodAll_cons hA
  obtain ⟨rfl, rfl, rfl⟩ := trodAll_nil r0
  obtain rfl : args = #[v0] := by cases args; simp_all
  obtain ⟨rfl, rfl⟩ := trodVars_none hV
  have k0 := h0
  have lt0 : ∀ x ∈ p0, x.block < W.heap.size := by obtain ⟨m, hm⟩ := k0; exact DataW.trod_lt m _ _ _ hm
  obtain ⟨s0, n0, m0, a0, len0, cap0, z0, rfl, w0⟩ := open_rec (hval 0 24 v0 rfl rfl) h0
  clear hA0 hval0
  refine (fnExactFormatRecord_walk (w := W) s0 n0 m0 a0 len0 cap0 z0 w0 (tab_mk hL pow10_in)).mono fun e W' ⟨he, bel⟩ => ?_
  subst he
  exact ⟨_, rfl, _, _, _, [], _, [], hW', trodAll_mk1 (shut_bool Tryd.underlying4 _), (trodAll_cons_mk (Below.trod laidOut (by kernel_rfl) (of_decide_eq_true (by kernel_rfl)) k0 bel lt0) trodAll_mk0), rfl, bel.frame _, fun h => by cases h⟩

theorem fnExactFormatRecord_over : Rows.fnExactFormatRecordRow.holds Tryd.pinned (OpenSpec.ofChange Rows.fnExactFormatRecordSpec) :=
  OpenClaim.holds_of_wide 6 Tryd.f6 rfl rfl rfl rfl rfl rfl rfl ⟨rfl, rfl, rfl, rfl, rfl⟩ rfl rfl rfl rfl rfl (by kernel_rfl) Tryd.func6 (by kernel_rfl)
    (of_decide_eq_true (by kernel_rfl)) (by unfold Func.isWrapper; first | (rw [if_pos (by decide +kernel)]; kernel_rfl) | (rw [if_neg (by decide +kernel)]; exact ⟨rfl, rfl⟩))
    (fun os started H enc _ => fnExactFormatRecord_lifted os started H enc)

theorem fnExactFormatRecord_said : Rows.FnExactFormatRecordSaid := fnExactFormatRecord_over
theorem fnExactFormatRecord_holds : Rows.FnExactFormatRecordCardSaid :=
  Claim7.holds_tied_plain_at .later [] _ true _ _ fnExactFormatRecord_said (fun _ h => by cases h) (by kernel_rfl) (fun _ h => by cases h) fnExactFormatRecord_row_tie rfl ⟨rfl, rfl⟩ (by kernel_rfl) rfl
    (fun f fn hf hfn => by
      obtain rfl : f = 6 := Option.some.inj ((show Tryd.prog.funcNamed "loop.example/g01923/laws.FnExactFormatRecord" = some 6 by kernel_rfl).symm.trans hf) |>.symm
      obtain rfl : fn = Tryd.f6 := (Option.some.inj (Tryd.func6.symm.trans hfn)).symm
      exact ⟨by kernel_rfl, fun j t ht => by
        rw [Tryd.params6] at ht
        have hm : t ∈ [24] := by simpa using Array.mem_of_getElem? ht
        have hall : ([24].all fun u => !Tryd.prog.wantsStandIn u) = true := by kernel_rfl
        exact (show Tryd.prog.wantsStandIn t = false by simpa using List.all_eq_true.1 hall t hm)⟩)
    (by kernel_rfl)
#print axioms fnExactFormatRecord_holds
end Go.Proofs.YtdhdjmeolkobeaaDoor

/-
  FnExactNewRecord returns true for all values. No condition.
-/
import Derived.Test.YtebfjikgececlaaNewRec
import Derived.Test.YtebfjikgececlaaMarkRec
import Derived.ProofKit
import Derived.OpenShut
import Derived.ShutString
import Derived.ChangeOld
namespace Go.Proofs.Ytebfjikgececlaa
open Go.ChangeShapes Go.WideShapes Go.ChangeAt Go.RowKit
open Go.ChangeMaps (open_string shut_string)
set_option linter.unusedVariables false
set_option linter.unusedSimpArgs false
theorem selL_len (b : Bool) (l : List ByteArray) : (selL b l).length ≤ l.length := by unfold selL; split <;> simp
set_option maxRecDepth 100000 in
set_option maxHeartbeats 8000000 in
theorem fnExactNewRecord_walk {w : World} (s : Int) (w0 : (Lit.int .i64 s).wf = true) (k : Int) (w1 : (Lit.int .i64 k).wf = true) (v : Int) (w2 : (Lit.int .i64 v).wf = true) (a : Option Addr) (len cap : Nat) (z : List ByteArray) (w3 : ArgS w a len z) :
    Calls Try.prog 7 #[.int .i64 s, .int .i64 k, .int .i64 v, .slice a len cap] w fun e w' => e = .returned (.bool true) ∧ Below w.heap.size w w' := by
  obtain ⟨rfl, r0, f0, g0⟩ := w3
  have G0 := Lib.hid g0; clear g0
  by_cases h0 : (z.length : Int) + sumS z ≤ 1048576
  · have H0 := Lib.hid (szS_yes h0)
    have G1 : Hid (∀ k (h : k < z.length), z[k].size ≤ 1048576) := Lib.hid (fun k h => by have := sumS_ge h; omega)
    have hz0 : (z.length : Int) + sumS z ≤ 1048576 := h0
    obtain ⟨ok, hok⟩ : ∃ ok, validR s k v z = ok := ⟨_, rfl⟩
    obtain ⟨S, hS⟩ : ∃ x, selI ok s = x := ⟨_, rfl⟩
    obtain ⟨K, hK⟩ : ∃ x, selI ok k = x := ⟨_, rfl⟩
    obtain ⟨V, hV⟩ : ∃ x, selI ok v = x := ⟨_, rfl⟩
    obtain ⟨L, hL⟩ : ∃ x, selL ok z = x := ⟨_, rfl⟩
    have hLl : L.length ≤ z.length := by rw [← hL]; exact selL_len ok z
    have NE : ∀ (W : World) (e : Ending) (W' : World), NewEnd W s k v z (validR s k v z) e W' → ∃ a c, e = .returned (.tuple #[recV S K V a L.length c, .bool ok]) ∧ RowOwn fS W.heap.size W' a L ∧ Below W.heap.size W W' := by
      rw [hok]; intro W e W' h; unfold NewEnd at h; rwa [hS, hK, hV, hL] at h
    have HN := Lib.hid NE
    clear NE hok hS hK hV hL h0
    have hoo : (ok != ok) = false := by simp
    go_enter Try.func7, Try.ntmps7
    go_wp2_with fail
    refine (szStringS_any a cap z _ _ r0 f0 G0.out (by omega) (by omega)).mono ?_
    rintro e x0 ⟨rfl, rfl⟩
    rw [H0.out]
    go_wp2_with fail
    refine (toStringS_any a cap z _ r0 (by omega)).mono ?_
    rintro e x1 ⟨g1, rfl, o1, b1⟩
    have HO1 := Lib.hid o1
    have HC1 := Lib.hid b1
    clear o1 b1
    go_wp2_with fail
    refine (specNewRecord s k v g1 0 _ z x1 HO1.out.at (by omega) G1).mono ?_
    intro e x2 hn
    obtain ⟨aw, cw, rfl, ow, b2⟩ := HN.out _ _ _ hn
    clear hn
    have i12 : x1.heap.size ≤ x2.heap.size := b2.size
    have HC2 := Lib.hid (HC1.out.trans (b2.mono HC1.out.size))
    have HOW := Lib.hid ow.inn
    clear ow b2
    unfold recV
    go_wp2_with fail
    have u3 := RecAt.new x2 S K V aw L.length cw 31
    have b3 : Below x2.heap.size x2 (x2.alloc (.cells #[.int .i64 S, .int .i64 K, .int .i64 V, .slice aw L.length cw] 31)) := (Below.refl _ _).alloc (Nat.le_refl _) _
    have i23 : x2.heap.size < (x2.alloc (.cells #[.int .i64 S, .int .i64 K, .int .i64 V, .slice aw L.length cw] 31)).heap.size := by simp
    generalize x2.alloc (.cells #[.int .i64 S, .int .i64 K, .int .i64 V, .slice aw L.length cw] 31) = x3 at u3 b3 i23 ⊢
    have HC3 := Lib.hid (HC2.out.trans (b3.mono HC2.out.size))
    have HW3 := Lib.hid (HOW.out.below b3)
    have U3 := Lib.hid u3
    clear u3 b3
    refine (toStringS_any a cap z x3 (r0.below HC3.out) (by omega)).mono ?_
    rintro e x4 ⟨g4, rfl, o4, b4⟩
    have i34 : x3.heap.size ≤ x4.heap.size := b4.size
    have HC4 := Lib.hid (HC3.out.trans (b4.mono HC3.out.size))
    have HW4 := Lib.hid (HW3.out.below b4)
    have U4 := Lib.hid (U3.out.below b4)
    have HX4 := Lib.hid o4.inn
    clear o4 b4
    go_wp2_with fail
    refine (implNewRecord s k v g4 0 _ z x4 HX4.out.at (by omega) G1).mono ?_
    intro e x5 hn
    obtain ⟨ag, cg, rfl, og, b5⟩ := HN.out _ _ _ hn
    clear hn
    have i45 : x4.heap.size ≤ x5.heap.size := b5.size
    have HC5 := Lib.hid (HC4.out.trans (b5.mono HC4.out.size))
    have HW5 := Lib.hid (HW4.out.below b5)
    have U5 := Lib.hid (U4.out.below b5)
    have HX5 := Lib.hid (HX4.out.below b5)
    have HG5 := Lib.hid og.inn
    clear og b5
    unfold recV
    have q5 : ∀ o, RecAt (x5.alloc o) x2.heap.size S K V aw L.length cw := fun o => U5.out.below ((Below.refl _ _).alloc (Nat.le_refl _) o)
    have t0 := fun o => (q5 o).c0
    have t1 := fun o => (q5 o).c1
    have t2 := fun o => (q5 o).c2
    have t3 := fun o => (q5 o).c3
    clear q5
    go_wp2_with fail
    clear t0 t1 t2 t3
    have u6 := RecAt.new x5 S K V ag L.length cg 31
    have b6 : Below x5.heap.size x5 (x5.alloc (.cells #[.int .i64 S, .int .i64 K, .int .i64 V, .slice ag L.length cg] 31)) := (Below.refl _ _).alloc (Nat.le_refl _) _
    have i56 : x5.heap.size < (x5.alloc (.cells #[.int .i64 S, .int .i64 K, .int .i64 V, .slice ag L.length cg] 31)).heap.size := by simp
    generalize x5.alloc (.cells #[.int .i64 S, .int .i64 K, .int .i64 V, .slice ag L.length cg] 31) = x6 at u6 b6 i56 ⊢
    have HC6 := Lib.hid (HC5.out.trans (b6.mono HC5.out.size))
    have HW6 := Lib.hid (HW5.out.below b6)
    have U6 := Lib.hid (U5.out.below b6)
    have HX6 := Lib.hid (HX5.out.below b6)
    have HG6 := Lib.hid (HG5.out.below b6)
    have V6 := Lib.hid u6
    clear u6 b6
    obtain ⟨B0, hB0⟩ : ∃ b, b = x2.heap.size := ⟨_, rfl⟩
    obtain ⟨B1, hB1⟩ : ∃ b, b = x5.heap.size := ⟨_, rfl⟩
    rw [← hB0] at U6 HW6 i12 i23 ⊢
    rw [← hB1] at V6 HG6 i45 i56 ⊢
    clear hB0 hB1
    -- eqRecord(g0, w0)
    refine (eqRecord_same S K V _ _ _ _ L x6 HG6.out.at HW6.out.at (by omega)).mono ?_
    rintro e x7 ⟨rfl, b7⟩
    have HC7 := Lib.hid (HC6.out.trans (b7.mono HC6.out.size))
    have HW7 := Lib.hid (HW6.out.below b7)
    have U7 := Lib.hid (U6.out.below b7)
    have HX7 := Lib.hid (HX6.out.below b7)
    have HG7 := Lib.hid (HG6.out.below b7)
    have V7 := Lib.hid (V6.out.below b7)
    have i67 : x6.heap.size ≤ x7.heap.size := b7.size
    clear b7
    go_wp2_with fail
    -- eqStringS(x3, toStringS(aFields))
    refine (toStringS_any a cap z x7 (r0.below HC7.out) (by omega)).mono ?_
    rintro e x8 ⟨g8, rfl, o8, b8⟩
    have HC8 := Lib.hid (HC7.out.trans (b8.mono HC7.out.size))
    have HW8 := Lib.hid (HW7.out.below b8)
    have U8 := Lib.hid (U7.out.below b8)
    have HX8 := Lib.hid (HX7.out.below b8)
    have HG8 := Lib.hid (HG7.out.below b8)
    have V8 := Lib.hid (V7.out.below b8)
    have i78 : x7.heap.size ≤ x8.heap.size := b8.size
    clear b8
    go_wp2_with fail
    refine (eqStringS_any _ _ _ _ z z x8 HX8.out.at o8.at f0).mono ?_
    rintro e x9 ⟨rfl, b9⟩
    rw [show decide (z = z) = true from decide_eq_true rfl]
    have HC9 := Lib.hid (HC8.out.trans (b9.mono HC8.out.size))
    have HW9 := Lib.hid (HW8.out.below b9)
    have U9 := Lib.hid (U8.out.below b9)
    have HX9 := Lib.hid (HX8.out.below b9)
    have HG9 := Lib.hid (HG8.out.below b9)
    have V9 := Lib.hid (V8.out.below b9)
    have i89 : x8.heap.size ≤ x9.heap.size := b9.size
    clear b9 o8
    go_wp2_with fail
    -- markStringS(x3, 1)
    refine (markStringS_any (lo := x3.heap.size) (hi := x4.heap.size) (some ⟨g4, 0, none⟩) z.length z 1 x9 HX9.out (by omega) (by omega)).mono ?_
    rintro e xa ⟨rfl, _, oa⟩
    have HCa := Lib.hid (HC9.out.trans (oa.below (B := w.heap.size) (by have := HC3.out.size; omega) HC9.out.size))
    have HWa := Lib.hid (HW9.out.only oa (by omega))
    have Ua := Lib.hid (U9.out.only oa (by omega))
    have HGa := Lib.hid (HG9.out.only oa (by omega))
    have Va := Lib.hid (V9.out.only oa (by omega))
    have i9a : x9.heap.size ≤ xa.heap.size := oa.size
    clear oa
    have d1 : decide (((1 + z.length : Nat) : Int) < 0) = false := by simp; omega
    obtain ⟨p0, p1, p2, p3⟩ := Ua.out
    obtain ⟨t0, t1, t2, t3⟩ := Va.out
    go_wp2_with fail
    clear p0 p1 p2 p3 t0 t1 t2 t3
    refine (eqRecord_same S K V _ _ _ _ L xa HGa.out.at HWa.out.at (by omega)).mono ?_
    rintro e xb ⟨rfl, bb⟩
    have HCb := Lib.hid (HCa.out.trans (bb.mono HCa.out.size))
    have HWb := Lib.hid (HWa.out.below bb)
    have Ub := Lib.hid (Ua.out.below bb)
    have HGb := Lib.hid (HGa.out.below bb)
    have Vb := Lib.hid (Va.out.below bb)
    have iab : xa.heap.size ≤ xb.heap.size := bb.size
    clear bb
    obtain ⟨t0, t1, t2, t3⟩ := Vb.out
    go_wp2_with fail
    clear d1
    -- markRecord(g0, 1)
    clear t0 t1 t2 t3
    refine (markRecord_any (lo := x4.heap.size) (hi := B1) S K V ag cg L 1 xb HGb.out (by omega) (by omega) (by omega)).mono ?_
    rintro e xc ⟨rfl, hgc, oc⟩
    have HCc := Lib.hid (HCb.out.trans (oc.below (B := w.heap.size) (by have := HC4.out.size; omega) HCb.out.size))
    have HWc := Lib.hid (HWb.out.only oc (by omega))
    have Uc := Lib.hid (Ub.out.only oc (by omega))
    have HGc := Lib.hid hgc
    have Vc := Lib.hid (Vb.out.only oc (by omega))
    have ibc : xb.heap.size ≤ xc.heap.size := oc.size
    clear oc hgc
    obtain ⟨t0, t1, t2, t3⟩ := Vc.out
    go_wp2_with fail
    clear t0 t1 t2 t3
    -- heldRecord(g0, 1)
    refine (heldRecord_any S K V ag L.length cg 1 xc HGc.out.at (by omega) (by omega)).mono ?_
    rintro e xd ⟨rfl, bd⟩
    have HCd := Lib.hid (HCc.out.trans (bd.mono HCc.out.size))
    have HWd := Lib.hid (HWc.out.below bd)
    have Ud := Lib.hid (Uc.out.below bd)
    have HGd := Lib.hid (HGc.out.below bd)
    have Vd := Lib.hid (Vc.out.below bd)
    have icd : xc.heap.size ≤ xd.heap.size := bd.size
    clear bd
    have d2 : decide (((1 + L.length : Nat) : Int) < 0) = false := by simp; omega
    have d3 : (((1 + L.length : Nat) : Int) != ((1 + L.length : Nat) : Int)) = false := by simp
    go_wp2_with fail
    -- again
    refine (toStringS_any a cap z xd (r0.below HCd.out) (by omega)).mono ?_
    rintro e xe ⟨ge, rfl, oe, be⟩
    have HCe := Lib.hid (HCd.out.trans (be.mono HCd.out.size))
    have HWe := Lib.hid (HWd.out.below be)
    have Ue := Lib.hid (Ud.out.below be)
    have HGe := Lib.hid (HGd.out.below be)
    have Ve := Lib.hid (Vd.out.below be)
    clear be
    have HOe := Lib.hid oe
    clear oe
    go_wp2_with fail
    refine (implNewRecord s k v ge 0 _ z xe HOe.out.at (by omega) G1).mono ?_
    intro e xf hn
    obtain ⟨ah, ch, rfl, oh, bf⟩ := HN.out _ _ _ hn
    clear hn
    have HCf := Lib.hid (HCe.out.trans (bf.mono HCe.out.size))
    have HWf := Lib.hid (HWe.out.below bf)
    have Uf := Lib.hid (Ue.out.below bf)
    have HGf := Lib.hid (HGe.out.below bf)
    have Vf := Lib.hid (Ve.out.below bf)
    have HHf := Lib.hid oh
    clear bf oh
    unfold recV
    have qf : ∀ o, RecAt (xf.alloc o) B0 S K V aw L.length cw := fun o => Uf.out.below ((Below.refl _ _).alloc (Nat.le_refl _) o)
    have t0 := fun o => (qf o).c0
    have t1 := fun o => (qf o).c1
    have t2 := fun o => (qf o).c2
    have t3 := fun o => (qf o).c3
    clear qf
    go_wp2_with fail
    clear t0 t1 t2 t3
    have bg : Below xf.heap.size xf (xf.alloc (.cells #[.int .i64 S, .int .i64 K, .int .i64 V, .slice ah L.length ch] 31)) := (Below.refl _ _).alloc (Nat.le_refl _) _
    generalize xf.alloc (.cells #[.int .i64 S, .int .i64 K, .int .i64 V, .slice ah L.length ch] 31) = xg at bg ⊢
    have HCg := Lib.hid (HCf.out.trans (bg.mono HCf.out.size))
    have HWg := Lib.hid (HWf.out.below bg)
    have HGg := Lib.hid (HGf.out.below bg)
    have Vg := Lib.hid (Vf.out.below bg)
    have HHg := Lib.hid (HHf.out.below bg)
    clear bg
    refine (eqRecord_same S K V _ _ _ _ L xg HHg.out.at HWg.out.at (by omega)).mono ?_
    rintro e xh ⟨rfl, bh⟩
    have HCh := Lib.hid (HCg.out.trans (bh.mono HCg.out.size))
    have HGh := Lib.hid (HGg.out.below bh)
    have Vh := Lib.hid (Vg.out.below bh)
    clear bh
    obtain ⟨t0, t1, t2, t3⟩ := Vh.out
    go_wp2_with fail
    clear t0 t1 t2 t3
    refine (heldRecord_any S K V ag L.length cg 1 xh HGh.out.at (by omega) (by omega)).mono ?_
    rintro e xi ⟨rfl, bi⟩
    go_wp2
    go_ret
    exact ⟨rfl, HCh.out.trans (bi.mono HCh.out.size)⟩
  · have H0 := Lib.hid (szS_no (l := z) (left := 1048576) (by omega))
    go_enter Try.func7, Try.ntmps7
    go_wp2_with fail
    refine (szStringS_any a cap z _ _ r0 f0 G0.out (by omega) (by omega)).mono ?_
    rintro e x0 ⟨rfl, rfl⟩
    rw [H0.out]
    go_wp2
    go_ret
    exact ⟨rfl, Below.refl _ _⟩
set_option maxRecDepth 100000 in
theorem fnExactNewRecord_lifted (os : Os) (started : os.Started) (H : Type) (enc : TypeId × Value → H) :
    ReturnsInHanded {} Try.checked os 7 .any (Rows.fnExactNewRecordSpec.pre6 enc Try.prog Try.f7 Rows.fnExactNewRecordRow.domain false) (Rows.fnExactNewRecordSpec.post enc Try.prog Try.f7 false true false false) := by
  refine returnsInHanded_of_change (C := Try.checked) own started (by kernel_rfl) Try.func7
    (ChangeSpec.witness6 (enc := enc) (C := Try.checked) false ⟨#[], #[.int .i64 0, .int .i64 0, .int .i64 0, .slice none 0 0], []⟩ 8 (by kernel_rfl) (by kernel_rfl) (by kernel_rfl) (by kernel_rfl)) ?_
  intro W base args ds gs before hval0 hW hcnd hsz
  have hval : ∀ (j : Nat) t v, Try.f7.params[j]? = some t → args[j]? = some v → Value.okWide Try.prog W .any base t v := hval0
  have hW' := hW
  obtain ⟨p, q, hA0, hV, rfl, hfz, hnd⟩ := hW
  have hA : DataW.TrodAll enc Try.prog W 0 (fun _ => true) true Try.f7.params.toList args.toList ds p := hA0
  rw [Try.params7] at hA hval
  obtain ⟨v0, vs0, d0, ds0, p0, q0, hargs, rfl, rfl, h0, r0⟩ := trodAll_cons hA
  obtain ⟨v1, vs1, d1, ds1, p1, q1, rfl, rfl, rfl, h1, r1⟩ := trodAll_cons r0
  obtain ⟨v2, vs2, d2, ds2, p2, q2, rfl, rfl, rfl, h2, r2⟩ := trodAll_cons r1
  obtain ⟨v3, vs3, d3, ds3, p3, q3, rfl, rfl, rfl, h3, r3⟩ := trodAll_cons r2
  obtain ⟨rfl, rfl, rfl⟩ := trodAll_nil r3
  obtain rfl : args = #[v0, v1, v2, v3] := by cases args; simp_all
  obtain ⟨rfl, rfl⟩ := trodVars_none hV
  obtain ⟨a0, rfl, rfl, rfl, w0⟩ := open_int Try.underlying3 (hval 0 3 v0 rfl rfl) h0
  obtain ⟨a1, rfl, rfl, rfl, w1⟩ := open_int Try.underlying3 (hval 1 3 v1 rfl rfl) h1
  obtain ⟨a2, rfl, rfl, rfl, w2⟩ := open_int Try.underlying3 (hval 2 3 v2 rfl rfl) h2
  obtain ⟨a3, len3, cap3, rfl⟩ := okWide_slice Try.underlying22 (hval 3 22 v3 rfl rfl)
  have k3 := h3
  have lt3 : ∀ x ∈ p3, x.block < W.heap.size := by obtain ⟨m, hm⟩ := k3; exact DataW.trod_lt m _ _ _ hm
  obtain ⟨z3, w3⟩ := open_strs_is Try.underlying22 Try.underlying9 (by kernel_rfl) h3
  clear hA0 hval0
  refine (fnExactNewRecord_walk (w := W) a0 w0 a1 w1 a2 w2 a3 len3 cap3 z3 w3).mono fun e W' ⟨he, bel⟩ => ?_
  subst he
  exact ⟨_, rfl, _, _, _, [], _, [], hW', trodAll_mk1 (shut_bool Try.underlying4 _), (trodAll_cons_mk (shut_int Try.underlying3 w0) (trodAll_cons_mk (shut_int Try.underlying3 w1) (trodAll_cons_mk (shut_int Try.underlying3 w2) (trodAll_cons_mk (Below.trod laidOut (by kernel_rfl) (of_decide_eq_true (by kernel_rfl)) k3 bel lt3) trodAll_mk0)))), rfl, bel.frame _, fun h => by cases h⟩

theorem fnExactNewRecord_over : Rows.fnExactNewRecordRow.holds Try.pinned (OpenSpec.ofChange Rows.fnExactNewRecordSpec) :=
  OpenClaim.holds_of_wide 7 Try.f7 rfl rfl rfl rfl rfl rfl rfl ⟨rfl, rfl, rfl, rfl, rfl⟩ rfl rfl rfl rfl rfl (by kernel_rfl) Try.func7 (by kernel_rfl)
    (of_decide_eq_true (by kernel_rfl)) (by unfold Func.isWrapper; first | (rw [if_pos (by decide +kernel)]; kernel_rfl) | (rw [if_neg (by decide +kernel)]; exact ⟨rfl, rfl⟩))
    (fun os started H enc _ => fnExactNewRecord_lifted os started H enc)

theorem fnExactNewRecord_holds : Rows.FnExactNewRecordSaid := fnExactNewRecord_over
#print axioms fnExactNewRecord_holds
end Go.Proofs.Ytebfjikgececlaa

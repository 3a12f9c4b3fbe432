/-
  FnExactParseRecord returns true for every string. Condition: the listed variables hold what the program's text lays (the card ties them).
-/
import Derived.Test.YtdhdjmeolkobeaaDoorPRec5
import Derived.Test.YtdhdjmeolkobeaaDoorMarkRec
import Derived.ProofKit
import Derived.OpenShut
import Derived.ShutString
import Derived.ChangeOld
import Derived.OpenVars
import Derived.Lay
import Derived.SevenTiedAt
import Derived.Test.YtdhdjmeolkobeaaDoorCards
import Derived.Test.YtdhdjmeolkobeaaDoorTie
namespace Go.Proofs.YtdhdjmeolkobeaaDoor
open Go.ChangeShapes Go.WideShapes Go.ChangeAt Go.RowKit
open Go.ChangeMaps (open_string shut_string)
set_option linter.unusedVariables false
set_option linter.unusedSimpArgs false
theorem hit_one {S : List UInt8} {s k v s' k' v' : Int} {l l' : List ByteArray} (h : Hit S s k v l) (h' : Hit S s' k' v' l') : s = s' ∧ k = k' ∧ v = v' ∧ l = l' := by
  obtain ⟨-, -, e3, e4, -, e6, -, e8⟩ := hit_built h
  obtain ⟨-, -, f3, f4, -, f6, -, f8⟩ := hit_built h'
  exact ⟨e3.symm.trans f3, e4.symm.trans f4, e6.symm.trans f6, e8.symm.trans f8⟩
/-- What ParseRecord gives back is one and the same for one text. -/
theorem pend_one (S : List UInt8) : ∃ (s k v : Int) (l : List ByteArray) (ok : Bool), l.length ≤ 4 ∧ ∀ (W : World) (e : Ending) (W' : World), PEnd W S e W' → ∃ a c, e = .returned (.tuple #[recV s k v a l.length c, .bool ok]) ∧ RowOwn fS W.heap.size W' a l ∧ Below W.heap.size W W' := by
  by_cases hx : ∃ s k v l, Hit S s k v l
  · obtain ⟨s, k, v, l, hh⟩ := hx
    refine ⟨s, k, v, l, true, by obtain ⟨_, _, _, h4, _⟩ := validR_mk hh.1; omega, fun W e W' h => ?_⟩
    rcases h with ⟨s', k', v', l', a, c, hh', e1, e2, e3⟩ | ⟨hn, _⟩
    · obtain ⟨rfl, rfl, rfl, rfl⟩ := hit_one hh hh'
      exact ⟨a, c, e1, e2, e3⟩
    · exact absurd hh (hn _ _ _ _)
  · refine ⟨0, 0, 0, [], false, by simp, fun W e W' h => ?_⟩
    rcases h with ⟨s', k', v', l', a, c, hh', _⟩ | ⟨_, e1, e3⟩
    · exact absurd ⟨_, _, _, _, hh'⟩ hx
    · exact ⟨none, 0, e1, Or.inl rfl, e3⟩
set_option maxRecDepth 100000 in
set_option maxHeartbeats 8000000 in
theorem fnExactParseRecord_walk (a0 : ByteArray) (w0 : a0.size ≤ maxLen) (w : World) (ev : Num w) :
    Calls Tryd.prog 7 #[.string a0] w fun e w' => e = .returned (.bool true) ∧ Below w.heap.size w w' := by
  unfold maxLen at w0
  by_cases hs0 : a0.size ≤ 1048576
  · obtain ⟨S, K, V, L, ok, hL, hN⟩ := pend_one a0.data.toList
    have HN := Lib.hid hN
    have HE := Lib.hid ev
    clear hN ev
    have hoo : (ok != ok) = false := by simp
    go_enter Tryd.func7, Tryd.ntmps7
    go_wp2_with fail
    refine (specParse a0 _ hs0).mono ?_
    intro e x2 hn
    obtain ⟨aw, cw, rfl, ow, b2⟩ := HN.out _ _ _ hn
    clear hn
    have i12 : w.heap.size ≤ x2.heap.size := b2.size
    have HC2 := Lib.hid b2
    have HOW := Lib.hid ow.inn
    clear ow b2
    unfold recV
    go_wp2_with fail
    have u3 := RecAt.new x2 S K V aw L.length cw 27
    have b3 : Below x2.heap.size x2 (x2.alloc (.cells #[.int .i64 S, .int .i64 K, .int .i64 V, .slice aw L.length cw] 27)) := (Below.refl _ _).alloc (Nat.le_refl _) _
    have i23 : x2.heap.size < (x2.alloc (.cells #[.int .i64 S, .int .i64 K, .int .i64 V, .slice aw L.length cw] 27)).heap.size := by simp
    generalize x2.alloc (.cells #[.int .i64 S, .int .i64 K, .int .i64 V, .slice aw L.length cw] 27) = x4 at u3 b3 i23 ⊢
    have HC4 := Lib.hid (HC2.out.trans (b3.mono HC2.out.size))
    have HW4 := Lib.hid (HOW.out.below b3)
    have U4 := Lib.hid u3
    clear u3 b3
    refine (implParse a0 x4 (HE.out.below HC4.out) hs0).mono ?_
    intro e x5 hn
    obtain ⟨ag, cg, rfl, og, b5⟩ := HN.out _ _ _ hn
    clear hn
    have i45 : x4.heap.size ≤ x5.heap.size := b5.size
    have HC5 := Lib.hid (HC4.out.trans (b5.mono HC4.out.size))
    have HW5 := Lib.hid (HW4.out.below b5)
    have U5 := Lib.hid (U4.out.below b5)
    have HG5 := Lib.hid og.inn
    clear og b5
    unfold recV
    have q5 : ∀ o, RecAt (x5.alloc o) x2.heap.size S K V aw L.length cw := fun o => U5.out.below ((Below.refl _ _).alloc (Nat.le_refl _) o)
    have t0 := fun o => (q5 o).c0
    have t1 := fun o => (q5 o).c1
    have t2 := fun o => (q5 o).c2
    have t3 := fun o => (q5 o).c3
    clear q5
    go_wp2_with fail
    clear t0 t1 t2 t3
    have u6 := RecAt.new x5 S K V ag L.length cg 27
    have b6 : Below x5.heap.size x5 (x5.alloc (.cells #[.int .i64 S, .int .i64 K, .int .i64 V, .slice ag L.length cg] 27)) := (Below.refl _ _).alloc (Nat.le_refl _) _
    have i56 : x5.heap.size < (x5.alloc (.cells #[.int .i64 S, .int .i64 K, .int .i64 V, .slice ag L.length cg] 27)).heap.size := by simp
    generalize x5.alloc (.cells #[.int .i64 S, .int .i64 K, .int .i64 V, .slice ag L.length cg] 27) = x6 at u6 b6 i56 ⊢
    have HC6 := Lib.hid (HC5.out.trans (b6.mono HC5.out.size))
    have HW6 := Lib.hid (HW5.out.below b6)
    have U6 := Lib.hid (U5.out.below b6)
    have HG6 := Lib.hid (HG5.out.below b6)
    have V6 := Lib.hid u6
    clear u6 b6
    obtain ⟨B0, hB0⟩ : ∃ b, b = x2.heap.size := ⟨_, rfl⟩
    obtain ⟨B1, hB1⟩ : ∃ b, b = x5.heap.size := ⟨_, rfl⟩
    rw [← hB0] at U6 HW6 i12 i23 ⊢
    rw [← hB1] at V6 HG6 i45 i56 ⊢
    clear hB0 hB1
    -- eqRecord(g0, w0)
    refine (eqRecord_same S K V _ _ _ _ L x6 HG6.out.at HW6.out.at (by omega)).mono ?_
    rintro e xb ⟨rfl, bb⟩
    have HCb := Lib.hid (HC6.out.trans (bb.mono HC6.out.size))
    have HWb := Lib.hid (HW6.out.below bb)
    have Ub := Lib.hid (U6.out.below bb)
    have HGb := Lib.hid (HG6.out.below bb)
    have Vb := Lib.hid (V6.out.below bb)
    have iab : x6.heap.size ≤ xb.heap.size := bb.size
    clear bb
    obtain ⟨t0, t1, t2, t3⟩ := Vb.out
    go_wp2_with fail
    -- markRecord(g0, 1)
    clear t0 t1 t2 t3
    refine (markRecord_any (lo := x4.heap.size) (hi := B1) S K V ag cg L 1 xb HGb.out (by omega) (by omega) (by omega)).mono ?_
    rintro e xc ⟨rfl, hgc, oc⟩
    have HCc := Lib.hid (HCb.out.trans (oc.below (B := w.heap.size) (by have := HC4.out.size; omega) HCb.out.size))
    have HWc := Lib.hid (HWb.out.only oc (by omega))
    have Uc := Lib.hid (Ub.out.only oc (by omega))
    have HGc := Lib.hid hgc
    have Vc := Lib.hid (Vb.out.only oc (by omega))
    have ibc : xb.heap.size ≤ xc.heap.size := oc.size
    clear oc hgc
    obtain ⟨t0, t1, t2, t3⟩ := Vc.out
    go_wp2_with fail
    clear t0 t1 t2 t3
    -- heldRecord(g0, 1)
    refine (heldRecord_any S K V ag L.length cg 1 xc HGc.out.at (by omega) (by omega)).mono ?_
    rintro e xe ⟨rfl, bd⟩
    have HCe := Lib.hid (HCc.out.trans (bd.mono HCc.out.size))
    have HWe := Lib.hid (HWc.out.below bd)
    have Ue := Lib.hid (Uc.out.below bd)
    have HGe := Lib.hid (HGc.out.below bd)
    have Ve := Lib.hid (Vc.out.below bd)
    have icd : xc.heap.size ≤ xe.heap.size := bd.size
    clear bd
    have d2 : decide (((1 + L.length : Nat) : Int) < 0) = false := by simp; omega
    have d3 : (((1 + L.length : Nat) : Int) != ((1 + L.length : Nat) : Int)) = false := by simp
    go_wp2_with fail
    -- again
    refine (implParse a0 xe (HE.out.below HCe.out) hs0).mono ?_
    intro e xf hn
    obtain ⟨ah, ch, rfl, oh, bf⟩ := HN.out _ _ _ hn
    clear hn
    have HCf := Lib.hid (HCe.out.trans (bf.mono HCe.out.size))
    have HWf := Lib.hid (HWe.out.below bf)
    have Uf := Lib.hid (Ue.out.below bf)
    have HGf := Lib.hid (HGe.out.below bf)
    have Vf := Lib.hid (Ve.out.below bf)
    have HHf := Lib.hid oh
    clear bf oh
    unfold recV
    have qf : ∀ o, RecAt (xf.alloc o) B0 S K V aw L.length cw := fun o => Uf.out.below ((Below.refl _ _).alloc (Nat.le_refl _) o)
    have t0 := fun o => (qf o).c0
    have t1 := fun o => (qf o).c1
    have t2 := fun o => (qf o).c2
    have t3 := fun o => (qf o).c3
    clear qf
    go_wp2_with fail
    clear t0 t1 t2 t3
    have bg : Below xf.heap.size xf (xf.alloc (.cells #[.int .i64 S, .int .i64 K, .int .i64 V, .slice ah L.length ch] 27)) := (Below.refl _ _).alloc (Nat.le_refl _) _
    generalize xf.alloc (.cells #[.int .i64 S, .int .i64 K, .int .i64 V, .slice ah L.length ch] 27) = xg at bg ⊢
    have HCg := Lib.hid (HCf.out.trans (bg.mono HCf.out.size))
    have HWg := Lib.hid (HWf.out.below bg)
    have HGg := Lib.hid (HGf.out.below bg)
    have Vg := Lib.hid (Vf.out.below bg)
    have HHg := Lib.hid (HHf.out.below bg)
    clear bg
    refine (eqRecord_same S K V _ _ _ _ L xg HHg.out.at HWg.out.at (by omega)).mono ?_
    rintro e xh ⟨rfl, bh⟩
    have HCh := Lib.hid (HCg.out.trans (bh.mono HCg.out.size))
    have HGh := Lib.hid (HGg.out.below bh)
    have Vh := Lib.hid (Vg.out.below bh)
    clear bh
    obtain ⟨t0, t1, t2, t3⟩ := Vh.out
    go_wp2_with fail
    clear t0 t1 t2 t3
    refine (heldRecord_any S K V ag L.length cg 1 xh HGh.out.at (by omega) (by omega)).mono ?_
    rintro e xi ⟨rfl, bi⟩
    go_wp2
    go_ret
    exact ⟨rfl, HCh.out.trans (bi.mono HCh.out.size)⟩
  · go_enter Tryd.func7, Tryd.ntmps7
    go_wp2
    go_ret
    exact ⟨rfl, Below.refl _ _⟩
theorem pow10_in : ("internal/strconv.uint64pow10", (Lib.tabData .u64 Lib.pow10Tab : DataW Unit)) ∈ Rows.fnExactParseRecordRow.laid := by
  rw [← (show (Rows.laid_internal_strconv_uint64pow10 : DataW Unit) = Lib.tabData .u64 Lib.pow10Tab by kernel_rfl)]
  exact .tail _ (.tail _ (.head _))
theorem num_of {W : World} (h : laidMet Tryd.prog Rows.fnExactParseRecordRow.laid W) (hs : W.ShapedOpen Tryd.prog) : Num W := ⟨tab_mk h pow10_in, errs_mk h 5 4 rfl rfl, hs⟩
set_option maxRecDepth 100000 in
theorem fnExactParseRecord_lifted (os : Os) (started : os.Started) (H : Type) (enc : TypeId × Value → H) :
    ReturnsInHanded {} Tryd.checked os 7 .any (fun w args => (Rows.fnExactParseRecordSpec.pre enc Tryd.prog Tryd.f7 [] false w args ∧ laidMetH Tryd.prog Rows.fnExactParseRecordRow.laid w) ∧ sizedMet enc Tryd.prog Tryd.f7 (OpenSpec.ofChange Rows.fnExactParseRecordSpec) false w args) (Rows.fnExactParseRecordSpec.post enc Tryd.prog Tryd.f7 false true false false) := by
  refine returnsIn_laid (C := Tryd.checked) (X := fun w _ => laidMetH Tryd.prog Rows.fnExactParseRecordRow.laid w) (fun _ _ _ hh h => h.of_heap hh) own started (by kernel_rfl) Tryd.func7
    (ChangeSpec.witness_shaped (enc := enc) (C := Tryd.checked) (os := os) (X := fun w _ => laidMetH Tryd.prog Rows.fnExactParseRecordRow.laid w) false (World.laidAll Tryd.prog os Rows.fnExactParseRecordRow.laid) #[.string ByteArray.empty] 8 (World.laidAll_os _ _ _)
      (World.shaped_of_ZipB (by kernel_rfl) (by kernel_rfl)) (by kernel_rfl) (by kernel_rfl) (by kernel_rfl)
      (by rw [MakeChecks.laidMetH_plain _ _ _ (by kernel_rfl)]; exact laidMet_laidAll _ (by kernel_rfl) (by kernel_rfl))) ?_
  intro W base args ds gs before hval0 hW hL0 hsh
  have hL : laidMet Tryd.prog Rows.fnExactParseRecordRow.laid W := by rw [MakeChecks.laidMetH_plain _ _ _ (by kernel_rfl)] at hL0; exact hL0
  have hval : ∀ (j : Nat) t v, Tryd.f7.params[j]? = some t → args[j]? = some v → Value.okWide Tryd.prog W .any base t v := hval0
  have hW' := hW
  obtain ⟨p, q, hA0, hV, rfl, hfz, hnd⟩ := hW
  have hA : DataW.TrodAll enc Tryd.prog W 0 (fun _ => true) true Tryd.f7.params.toList args.toList ds p := hA0
  rw [Tryd.params7] at hA hval
  obtain ⟨v0, vs0, d0, ds0, p0, q0, hargs, rfl, rfl, h0, r0⟩ := trodAll_cons hA
  obtain ⟨rfl, rfl, rfl⟩ := trodAll_nil r0
  obtain rfl : args = #[v0] := by cases args; simp_all
  obtain ⟨rfl, rfl⟩ := trodVars_none hV
  obtain ⟨a0, rfl, rfl, rfl, w0⟩ := open_string Tryd.underlying9 (hval 0 9 v0 rfl rfl) h0
  clear hA0 hval0
  refine (fnExactParseRecord_walk a0 w0 W (num_of hL hsh)).mono fun e W' ⟨he, bel⟩ => ?_
  subst he
  exact ⟨_, rfl, _, _, _, [], _, [], hW', trodAll_mk1 (shut_bool Tryd.underlying4 _), (trodAll_cons_mk (shut_string Tryd.underlying9 w0) trodAll_mk0), rfl, bel.frame _, fun h => by cases h⟩

theorem fnExactParseRecord_over : Rows.fnExactParseRecordRow.holds Tryd.pinned (OpenSpec.ofChange Rows.fnExactParseRecordSpec) :=
  OpenClaim.holds_of_wide 7 Tryd.f7 rfl rfl rfl rfl rfl rfl rfl ⟨rfl, rfl, rfl, rfl, rfl⟩ rfl rfl rfl rfl rfl (by kernel_rfl) Tryd.func7 (by kernel_rfl)
    (of_decide_eq_true (by kernel_rfl)) (by unfold Func.isWrapper; first | (rw [if_pos (by decide +kernel)]; kernel_rfl) | (rw [if_neg (by decide +kernel)]; exact ⟨rfl, rfl⟩))
    (fun os started H enc _ => fnExactParseRecord_lifted os started H enc)

theorem fnExactParseRecord_said : Rows.FnExactParseRecordSaid := fnExactParseRecord_over
theorem fnExactParseRecord_holds : Rows.FnExactParseRecordCardSaid :=
  Claim7.holds_tied_plain_at .later [] _ true _ _ fnExactParseRecord_said (fun _ h => by cases h) (by kernel_rfl) (fun _ h => by cases h) fnExactParseRecord_row_tie rfl ⟨rfl, rfl⟩ (by kernel_rfl) rfl
    (fun f fn hf hfn => by
      obtain rfl : f = 7 := Option.some.inj ((show Tryd.prog.funcNamed "loop.example/g01923/laws.FnExactParseRecord" = some 7 by kernel_rfl).symm.trans hf) |>.symm
      obtain rfl : fn = Tryd.f7 := (Option.some.inj (Tryd.func7.symm.trans hfn)).symm
      exact ⟨by kernel_rfl, fun j t ht => by
        rw [Tryd.params7] at ht
        have hm : t ∈ [9] := by simpa using Array.mem_of_getElem? ht
        have hall : ([9].all fun u => !Tryd.prog.wantsStandIn u) = true := by kernel_rfl
        exact (show Tryd.prog.wantsStandIn t = false by simpa using List.all_eq_true.1 hall t hm)⟩)
    (by kernel_rfl)
#print axioms fnExactParseRecord_holds
end Go.Proofs.YtdhdjmeolkobeaaDoor

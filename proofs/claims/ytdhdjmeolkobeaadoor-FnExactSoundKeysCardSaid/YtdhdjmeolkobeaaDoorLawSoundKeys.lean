/-
  FnExactSoundKeys returns true for every string. Condition: the listed tables hold what the program's text lays (the card ties them).
-/
import Derived.Test.YtdhdjmeolkobeaaDoorSKeys
import Derived.Test.YtdhdjmeolkobeaaDoorUp
import Derived.ProofKit
import Derived.OpenShut
import Derived.ShutString
import Derived.ChangeOld
import Derived.OpenVars
import Derived.Lay
import Derived.SevenTiedAt
import Derived.Test.YtdhdjmeolkobeaaDoorCards
import Derived.Test.YtdhdjmeolkobeaaDoorTie
namespace Go.Proofs.YtdhdjmeolkobeaaDoor
open Go.ChangeShapes Go.WideShapes Go.ChangeAt Go.RowKit
open Go.ChangeMaps (open_string shut_string)
set_option linter.unusedVariables false
set_option linter.unusedSimpArgs false
set_option maxRecDepth 100000 in
set_option maxHeartbeats 4000000 in
theorem fnExactSoundKeys_walk  (a0 : ByteArray) (w0 : a0.size ≤ maxLen) (w : World) (ev : ShSnd w) :
    Calls Tryd.prog 9 #[.string a0] w fun e w' => e = .returned (.bool true) ∧ Below w.heap.size w w' := by
  unfold maxLen at w0
  by_cases hs0 : a0.size ≤ 1048576
  · skip
    have hLl0 : (skeys a0).length ≤ 4000000 := (by have := skeys_len a0; omega)
    obtain ⟨L, hL⟩ : ∃ L, skeys a0 = L := ⟨_, rfl⟩
    rw [hL] at hLl0
    have hLl : L.length ≤ 4000000 := hLl0
    have HL := Lib.hid hL
    clear hL hLl0
    go_enter Tryd.func9, Tryd.ntmps9
    go_wp2_with fail
    refine (specSKeys a0 _ hs0).mono ?_
    rintro e x1 ⟨bw, ow, cw, rfl, rw0, _, b⟩
    rw [HL.out] at rw0 ⊢
    have C1 := Lib.hid b
    have RW1 := Lib.hid rw0.up
    clear rw0 b
    go_wp2_with fail
    refine (implSKeys a0 _ (ev.below C1.out) hs0).mono ?_
    rintro e x2 ⟨gg, cg, rfl, hB⟩
    rw [HL.out] at hB ⊢
    have b := hB.bel
    have C2 := Lib.hid (C1.out.trans (b.mono C1.out.size))
    have i2 : x1.heap.size ≤ x2.heap.size := b.size
    have RW2 := Lib.hid (RW1.out.below b)
    clear RW1
    have GG2 := Lib.hid hB.row.inn
    clear hB b
    go_wp2_with fail
    refine (eqStringS_any gg _ cg _ L L _ GG2.out.at RW2.out.at (by omega)).mono ?_
    rintro e x3 ⟨rfl, b⟩
    rw [show decide (L = L) = true from decide_eq_true rfl]
    have C3 := Lib.hid (C2.out.trans (b.mono C2.out.size))
    have i3 : x2.heap.size ≤ x3.heap.size := b.size
    have RW3 := Lib.hid (RW2.out.below b)
    clear RW2
    have GG3 := Lib.hid (GG2.out.below b)
    clear GG2
    clear b
    go_wp2_with fail
    refine (markStringS_any (lo := x1.heap.size) (hi := x2.heap.size) gg cg L 1 x3 GG3.out (by omega) (by omega)).mono ?_
    rintro e x4 ⟨rfl, g, h⟩
    have hlo : w.heap.size ≤ x1.heap.size := C1.out.size
    have C4 := Lib.hid (C3.out.trans (h.below (B := w.heap.size) (hlo) C3.out.size))
    have i4 : x3.heap.size ≤ x4.heap.size := h.size
    have RW4 := Lib.hid (RW3.out.only h (by omega))
    clear RW3
    have GG4 := Lib.hid g
    clear g h hlo GG3
    go_wp2_with fail
    refine (heldStringS_any gg cg L.length 1 x4 GG4.out.at (by omega) (by omega)).mono ?_
    rintro e x5 ⟨rfl, b⟩
    have C5 := Lib.hid (C4.out.trans (b.mono C4.out.size))
    have i5 : x4.heap.size ≤ x5.heap.size := b.size
    have RW5 := Lib.hid (RW4.out.below b)
    clear RW4
    have GG5 := Lib.hid (GG4.out.below b)
    clear GG4
    clear b
    have d2 : decide (((1 + L.length : Nat) : Int) < 0) = false := by simp; omega
    have d3 : (((1 + L.length : Nat) : Int) != ((1 + L.length : Nat) : Int)) = false := by simp
    go_wp2_with fail
    refine (implSKeys a0 _ (ev.below C5.out) hs0).mono ?_
    rintro e x6 ⟨gh, ch, rfl, hB⟩
    rw [HL.out] at hB ⊢
    have b := hB.bel
    have C6 := Lib.hid (C5.out.trans (b.mono C5.out.size))
    have i6 : x5.heap.size ≤ x6.heap.size := b.size
    have RW6 := Lib.hid (RW5.out.below b)
    clear RW5
    have GG6 := Lib.hid (GG5.out.below b)
    clear GG5
    have HH6 := Lib.hid hB.row
    clear hB b
    go_wp2_with fail
    refine (eqStringS_any gh _ ch _ L L _ HH6.out.at RW6.out.at (by omega)).mono ?_
    rintro e x7 ⟨rfl, b⟩
    rw [show decide (L = L) = true from decide_eq_true rfl]
    have C7 := Lib.hid (C6.out.trans (b.mono C6.out.size))
    have i7 : x6.heap.size ≤ x7.heap.size := b.size
    have RW7 := Lib.hid (RW6.out.below b)
    clear RW6
    have GG7 := Lib.hid (GG6.out.below b)
    clear GG6
    have HH7 := Lib.hid (HH6.out.below b)
    clear HH6
    clear b
    go_wp2_with fail
    refine (heldStringS_any gg cg L.length 1 x7 GG7.out.at (by omega) (by omega)).mono ?_
    rintro e x8 ⟨rfl, b⟩
    have C8 := Lib.hid (C7.out.trans (b.mono C7.out.size))
    have i8 : x7.heap.size ≤ x8.heap.size := b.size
    have RW8 := Lib.hid (RW7.out.below b)
    clear RW7
    have GG8 := Lib.hid (GG7.out.below b)
    clear GG7
    have HH8 := Lib.hid (HH7.out.below b)
    clear HH7
    clear b
    go_wp2
    go_ret
    exact ⟨rfl, C8.out⟩
  · go_enter Tryd.func9, Tryd.ntmps9
    go_wp2
    go_ret
    exact ⟨rfl, Below.refl _ _⟩

theorem codes_in : ("loop.example/g01923/impl.soundCodes", (Lib.tabData .i64 sndL : DataW Unit)) ∈ Rows.fnExactSoundKeysRow.laid := by
  rw [← (show (Rows.laid_loop_example_g01923_impl_soundCodes : DataW Unit) = Lib.tabData .i64 sndL by kernel_rfl)]
  exact .tail _ (.head _)
set_option maxRecDepth 100000 in
theorem fnExactSoundKeys_lifted (os : Os) (started : os.Started) (H : Type) (enc : TypeId × Value → H) :
    ReturnsInHanded {} Tryd.checked os 9 .any (fun w args => (Rows.fnExactSoundKeysSpec.pre enc Tryd.prog Tryd.f9 [] false w args ∧ laidMetH Tryd.prog Rows.fnExactSoundKeysRow.laid w) ∧ sizedMet enc Tryd.prog Tryd.f9 (OpenSpec.ofChange Rows.fnExactSoundKeysSpec) false w args) (Rows.fnExactSoundKeysSpec.post enc Tryd.prog Tryd.f9 false true false false) := by
  refine returnsIn_laid (C := Tryd.checked) (X := fun w _ => laidMetH Tryd.prog Rows.fnExactSoundKeysRow.laid w) (fun _ _ _ hh h => h.of_heap hh) own started (by kernel_rfl) Tryd.func9
    (ChangeSpec.witness_shaped (enc := enc) (C := Tryd.checked) (os := os) (X := fun w _ => laidMetH Tryd.prog Rows.fnExactSoundKeysRow.laid w) false (World.laidAll Tryd.prog os Rows.fnExactSoundKeysRow.laid) #[.string ByteArray.empty] 8 (World.laidAll_os _ _ _)
      (World.shaped_of_ZipB (by kernel_rfl) (by kernel_rfl)) (by kernel_rfl) (by kernel_rfl) (by kernel_rfl)
      (by rw [MakeChecks.laidMetH_plain _ _ _ (by kernel_rfl)]; exact laidMet_laidAll _ (by kernel_rfl) (by kernel_rfl))) ?_
  intro W base args ds gs before hval0 hW hL0 hsh
  have hL : laidMet Tryd.prog Rows.fnExactSoundKeysRow.laid W := by rw [MakeChecks.laidMetH_plain _ _ _ (by kernel_rfl)] at hL0; exact hL0
  have hval : ∀ (j : Nat) t v, Tryd.f9.params[j]? = some t → args[j]? = some v → Value.okWide Tryd.prog W .any base t v := hval0
  have hW' := hW
  obtain ⟨p, q, hA0, hV, rfl, hfz, hnd⟩ := hW
  have hA : DataW.TrodAll enc Tryd.prog W 0 (fun _ => true) true Tryd.f9.params.toList args.toList ds p := hA0
  rw [Tryd.params9] at hA hval
  obtain ⟨v0, vs0, d0, ds0, p0, q0, hargs, rfl, rfl, h0, r0⟩ := trodAll_cons hA
  obtain ⟨rfl, rfl, rfl⟩ := trodAll_nil r0
  obtain rfl : args = #[v0] := by cases args; simp_all
  have hV0 := hV
  obtain ⟨_, _, _, _, dv, pv, rfl, _, _, _, _, rfl⟩ := trodVars_one hV
  obtain ⟨a0, rfl, rfl, rfl, w0⟩ := open_string Tryd.underlying9 (hval 0 9 v0 rfl rfl) h0
  clear hA0 hval0
  refine (fnExactSoundKeys_walk a0 w0 W ⟨hsh, snd_mk hL codes_in⟩).mono fun e W' ⟨he, bel⟩ => ?_
  subst he
  exact ⟨_, rfl, _, _, _, [], _, _, hW', trodAll_mk1 (shut_bool Tryd.underlying4 _), (trodAll_cons_mk (shut_string Tryd.underlying9 w0) trodAll_mk0), Below.trodVars laidOut bel (by kernel_rfl) hV0, bel.frame _, fun h => by cases h⟩

theorem fnExactSoundKeys_over : Rows.fnExactSoundKeysRow.holds Tryd.pinned (OpenSpec.ofChange Rows.fnExactSoundKeysSpec) :=
  OpenClaim.holds_of_wide 9 Tryd.f9 rfl rfl rfl rfl rfl rfl rfl ⟨rfl, rfl, rfl, rfl, rfl⟩ rfl rfl rfl rfl rfl (by kernel_rfl) Tryd.func9 (by kernel_rfl)
    (of_decide_eq_true (by kernel_rfl)) (by unfold Func.isWrapper; first | (rw [if_pos (by decide +kernel)]; kernel_rfl) | (rw [if_neg (by decide +kernel)]; exact ⟨rfl, rfl⟩))
    (fun os started H enc _ => fnExactSoundKeys_lifted os started H enc)

theorem fnExactSoundKeys_said : Rows.FnExactSoundKeysSaid := fnExactSoundKeys_over
theorem fnExactSoundKeys_holds : Rows.FnExactSoundKeysCardSaid :=
  Claim7.holds_tied_plain_at .later [] _ true _ _ fnExactSoundKeys_said (fun _ h => by cases h) (by kernel_rfl) (fun _ h => by cases h) fnExactSoundKeys_row_tie rfl ⟨rfl, rfl⟩ (by kernel_rfl) rfl
    (fun f fn hf hfn => by
      obtain rfl : f = 9 := Option.some.inj ((show Tryd.prog.funcNamed "loop.example/g01923/laws.FnExactSoundKeys" = some 9 by kernel_rfl).symm.trans hf) |>.symm
      obtain rfl : fn = Tryd.f9 := (Option.some.inj (Tryd.func9.symm.trans hfn)).symm
      exact ⟨by kernel_rfl, fun j t ht => by
        rw [Tryd.params9] at ht
        have hm : t ∈ [9] := by simpa using Array.mem_of_getElem? ht
        have hall : ([9].all fun u => !Tryd.prog.wantsStandIn u) = true := by kernel_rfl
        exact (show Tryd.prog.wantsStandIn t = false by simpa using List.all_eq_true.1 hall t hm)⟩)
    (by kernel_rfl)
#print axioms fnExactSoundKeys_holds
end Go.Proofs.YtdhdjmeolkobeaaDoor

/-
  FnExactSoundCode returns true for every byte. Condition: the table of codes holds what the program's text lays (the card ties it).
-/
import Derived.Test.YtdemjdcgmjibfaaDoorSoundCode
import Derived.ProofKit
import Derived.OpenShut
import Derived.ShutString
import Derived.ChangeOld
import Derived.OpenVars
import Derived.Lay
import Derived.SevenTiedAt
import Derived.Test.YtdemjdcgmjibfaaDoorCards
import Derived.Test.YtdemjdcgmjibfaaDoorTie
namespace Go.Proofs.YtdemjdcgmjibfaaDoor
open Go.ChangeShapes Go.WideShapes Go.ChangeAt Go.RowKit
open Go.ChangeMaps (open_string shut_string)
set_option linter.unusedVariables false
set_option linter.unusedSimpArgs false
theorem u8_of {n : Int} (h : (Lit.int .u8 n).wf = true) : ∃ c : UInt8, n = (c.toNat : Int) := by
  have h2 : IntKind.u8.min ≤ n ∧ n ≤ IntKind.u8.max := by simpa [Lit.wf] using h
  have h3 : 0 ≤ n := h2.1
  have h4 : n ≤ 255 := h2.2
  refine ⟨UInt8.ofNat n.toNat, ?_⟩
  have : (UInt8.ofNat n.toNat).toNat = n.toNat := by simp; omega
  rw [this]; omega
def scI (n : Int) : Int := sc (UInt8.ofNat n.toNat)
theorem scI_of (c : UInt8) : scI c.toNat = sc c := by unfold scI; simp
theorem specSC (n : Int) (w : World) (h : (Lit.int .u8 n).wf = true) : Calls Tryd.prog 19 #[.int .u8 n] w fun e w' => e = .returned (.int .i64 (scI n)) ∧ Below w.heap.size w w' := by
  obtain ⟨c, rfl⟩ := u8_of h
  rw [scI_of]; exact specSoundCode c w
theorem implSC (n : Int) (w : World) (ev : Snd w) (h : (Lit.int .u8 n).wf = true) : Calls Tryd.prog 20 #[.int .u8 n] w fun e w' => e = .returned (.int .i64 (scI n)) ∧ Below w.heap.size w w' := by
  obtain ⟨c, rfl⟩ := u8_of h
  rw [scI_of]; exact (implSoundCode c w ev).mono fun _ _ ⟨h1, h2⟩ => ⟨h1, h2 ▸ Below.refl _ _⟩
set_option maxHeartbeats 400000 in
theorem fnExactSoundCode_walk (a0 : Int) (w0 : (Lit.int .u8 a0).wf = true) (w : World) (ev : Snd w) :
    Calls Tryd.prog 6 #[.int .u8 a0] w fun e w' => e = .returned (.bool true) ∧ Below w.heap.size w w' := by
  go_enter Tryd.func6, Tryd.ntmps6
  go_wp2_with fail
  refine (specSC a0 _ w0).mono ?_
  rintro e x1 ⟨rfl, hb1⟩
  go_wp2_with fail
  refine (implSC a0 _ (ev.below hb1) w0).mono ?_
  rintro e x2 ⟨rfl, hb2⟩
  go_wp2
  go_ret
  exact ⟨rfl, hb1.trans (hb2.mono hb1.size)⟩

theorem codes_in : ("loop.example/g01923/impl.soundCodes", (Lib.tabData .i64 sndL : DataW Unit)) ∈ Rows.fnExactSoundCodeRow.laid := by
  rw [← (show (Rows.laid_loop_example_g01923_impl_soundCodes : DataW Unit) = Lib.tabData .i64 sndL by kernel_rfl)]
  exact .head _
set_option maxRecDepth 100000 in
theorem fnExactSoundCode_lifted (os : Os) (started : os.Started) (H : Type) (enc : TypeId × Value → H) :
    ReturnsInHanded {} Tryd.checked os 6 .any (fun w args => (Rows.fnExactSoundCodeSpec.pre enc Tryd.prog Tryd.f6 [] false w args ∧ laidMetH Tryd.prog Rows.fnExactSoundCodeRow.laid w) ∧ sizedMet enc Tryd.prog Tryd.f6 (OpenSpec.ofChange Rows.fnExactSoundCodeSpec) false w args) (Rows.fnExactSoundCodeSpec.post enc Tryd.prog Tryd.f6 false true false false) := by
  refine returnsIn_laid (C := Tryd.checked) (X := fun w _ => laidMetH Tryd.prog Rows.fnExactSoundCodeRow.laid w) (fun _ _ _ hh h => h.of_heap hh) own started (by kernel_rfl) Tryd.func6
    (ChangeSpec.witness_shaped (enc := enc) (C := Tryd.checked) (os := os) (X := fun w _ => laidMetH Tryd.prog Rows.fnExactSoundCodeRow.laid w) false (World.laidAll Tryd.prog os Rows.fnExactSoundCodeRow.laid) #[.int .u8 0] 8 (World.laidAll_os _ _ _)
      (World.shaped_of_ZipB (by kernel_rfl) (by kernel_rfl)) (by kernel_rfl) (by kernel_rfl) (by kernel_rfl)
      (by rw [MakeChecks.laidMetH_plain _ _ _ (by kernel_rfl)]; exact laidMet_laidAll _ (by kernel_rfl) (by kernel_rfl))) ?_
  intro W base args ds gs before hval0 hW hL0 hsh
  have hL : laidMet Tryd.prog Rows.fnExactSoundCodeRow.laid W := by rw [MakeChecks.laidMetH_plain _ _ _ (by kernel_rfl)] at hL0; exact hL0
  have hval : ∀ (j : Nat) t v, Tryd.f6.params[j]? = some t → args[j]? = some v → Value.okWide Tryd.prog W .any base t v := hval0
  have hW' := hW
  obtain ⟨p, q, hA0, hV, rfl, hfz, hnd⟩ := hW
  have hA : DataW.TrodAll enc Tryd.prog W 0 (fun _ => true) true Tryd.f6.params.toList args.toList ds p := hA0
  rw [Tryd.params6] at hA hval
  obtain ⟨v0, vs0, d0, ds0, p0, q0, hargs, rfl, rfl, h0, r0⟩ := trodAll_cons hA
  obtain ⟨rfl, rfl, rfl⟩ := trodAll_nil r0
  obtain rfl : args = #[v0] := by cases args; simp_all
  have hV0 := hV
  obtain ⟨_, _, _, _, dv, pv, rfl, _, _, _, _, rfl⟩ := trodVars_one hV
  obtain ⟨a0, rfl, rfl, rfl, w0⟩ := open_int Tryd.underlying5 (hval 0 5 v0 rfl rfl) h0
  clear hA0 hval0
  refine (fnExactSoundCode_walk a0 w0 W (snd_mk hL codes_in)).mono fun e W' ⟨he, bel⟩ => ?_
  subst he
  exact ⟨_, rfl, _, _, _, [], _, _, hW', trodAll_mk1 (shut_bool Tryd.underlying4 _), (trodAll_cons_mk (shut_int Tryd.underlying5 w0) trodAll_mk0), Below.trodVars laidOut bel (by kernel_rfl) hV0, bel.frame _, fun h => by cases h⟩

theorem fnExactSoundCode_over : Rows.fnExactSoundCodeRow.holds Tryd.pinned (OpenSpec.ofChange Rows.fnExactSoundCodeSpec) :=
  OpenClaim.holds_of_wide 6 Tryd.f6 rfl rfl rfl rfl rfl rfl rfl ⟨rfl, rfl, rfl, rfl, rfl⟩ rfl rfl rfl rfl rfl (by kernel_rfl) Tryd.func6 (by kernel_rfl)
    (of_decide_eq_true (by kernel_rfl)) (by unfold Func.isWrapper; first | (rw [if_pos (by decide +kernel)]; kernel_rfl) | (rw [if_neg (by decide +kernel)]; exact ⟨rfl, rfl⟩))
    (fun os started H enc _ => fnExactSoundCode_lifted os started H enc)

theorem fnExactSoundCode_said : Rows.FnExactSoundCodeSaid := fnExactSoundCode_over
theorem fnExactSoundCode_holds : Rows.FnExactSoundCodeCardSaid :=
  Claim7.holds_tied_plain_at .later [] _ true _ _ fnExactSoundCode_said (fun _ h => by cases h) (by kernel_rfl) (fun _ h => by cases h) fnExactSoundCode_row_tie rfl ⟨rfl, rfl⟩ (by kernel_rfl) rfl
    (fun f fn hf hfn => by
      obtain rfl : f = 6 := Option.some.inj ((show Tryd.prog.funcNamed "loop.example/g01923/laws.FnExactSoundCode" = some 6 by kernel_rfl).symm.trans hf) |>.symm
      obtain rfl : fn = Tryd.f6 := (Option.some.inj (Tryd.func6.symm.trans hfn)).symm
      exact ⟨by kernel_rfl, fun j t ht => by
        rw [Tryd.params6] at ht
        have hm : t ∈ [5] := by simpa using Array.mem_of_getElem? ht
        have hall : ([5].all fun u => !Tryd.prog.wantsStandIn u) = true := by kernel_rfl
        exact (show Tryd.prog.wantsStandIn t = false by simpa using List.all_eq_true.1 hall t hm)⟩)
    (by kernel_rfl)
#print axioms fnExactSoundCode_holds
end Go.Proofs.YtdemjdcgmjibfaaDoor

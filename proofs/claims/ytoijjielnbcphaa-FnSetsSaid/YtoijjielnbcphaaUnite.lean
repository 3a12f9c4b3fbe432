/-
  Walks of slices.Grow of nil, slices.Concat of two slices of strings, UniteTokens (program). Condition: at most 2^20 elements together.
-/
import Derived.Test.YtoijjielnbcphaaSorted
import Derived.Test.YtoijjielnbcphaaSets
import Derived.Lib.AppendZerosOnto
namespace Go.Proofs.Ytoijjielnbcphaa
open Go.RowKit Go.Sort
set_option linter.unusedVariables false
set_option linter.unusedSimpArgs false
set_option maxRecDepth 100000
theorem uniL_ssL (a b : List ByteArray) : uniL a b = ssL (a ++ b) := by unfold uniL putsL ssL; rw [puts_sset]
theorem zeroCells_size (cs : Array Value) (k : Nat) : (Builtin.zeroCells cs k).size = k * cs.size := by
  simp [Builtin.zeroCells]
set_option maxHeartbeats 1600000 in
theorem growNil (n : Nat) (w : World) (hn : n ≤ 1048576) :
    Calls Try.prog 76 #[.slice none 0 0, .int .i64 n] w fun e w' => ∃ v, e = .returned v ∧ BldG fS 9 w.heap.size w w' v [] := by
  by_cases h0 : n = 0
  · subst h0
    go_enter Try.func76, Try.ntmps76
    go_wp2
    go_ret
    exact ⟨_, rfl, BldG.nil _ _ _⟩
  · obtain ⟨i, hi0, h1, h2, h3⟩ := info_parts infoS
    have hp : 0 < n := by omega
    obtain ⟨G, hG⟩ : ∃ G, G = grownCap w (0 + n) 0 9 := ⟨_, rfl⟩
    have hGn : 0 + n ≤ grownCap w (0 + n) 0 9 := grownCap_ge w _ _ _
    have hGm := grownCap_le_maxLen w (0 + n) 0 9 (by unfold maxLen; omega)
    have hold : (Builtin.firstCells i.size 0 (.slice none 0 0)).run Try.prog w.drew = .ok ([] : List Value).toArray w.drew := run_firstCells_none w.drew i.size 0 0 0
    have hrz : ∀ ty, (Builtin.append_ #[34, 3] ty #[.slice none 0 0, .int .i64 (n : Int)]).run Try.prog w =
        .ok (.slice (some ⟨w.heap.size, 0, none⟩) n G) (w.drew.alloc (.cells (([] : List Value).toArray ++ Builtin.zeroCells (Value.string .empty).cells n ++ Builtin.zeroCells (Value.string .empty).cells (G - n)) 9)) := fun ty => by
      have h := Lib.run_append_grow_zeros (P := Try.prog) w 34 3 ty 9 i (.string .empty) .i64 .i64 Try.underlying34 Try.underlying3 hi0 h1 none 0 0 [] hold n hp (by omega) (by omega) (by omega) (by rw [h3]; omega)
        (by rw [h3]; exact growslice_fits (by omega) (by omega))
      rw [← hG] at h
      simpa using h
    rw [← hG] at hGn hGm
    have hsz : (([] : List Value).toArray ++ Builtin.zeroCells (Value.string .empty).cells n ++ Builtin.zeroCells (Value.string .empty).cells (G - n)).size = G := by
      simp [zeroCells_size, Value.cells]; omega
    have HB : Hid (BldG fS 9 w.heap.size w (w.drew.alloc (.cells (([] : List Value).toArray ++ Builtin.zeroCells (Value.string .empty).cells n ++ Builtin.zeroCells (Value.string .empty).cells (G - n)) 9)) (.slice (some ⟨w.heap.size, 0, none⟩) 0 G) []) := Lib.hid
      ⟨World.ownsRow_made w.drew _ G (Nat.le_refl _) hGm (by omega), ((Below.refl _ _).drew).alloc (Nat.le_refl _) _, by simp⟩
    have hG1 : G ≤ 9223372036854775807 := by unfold maxLen at hGm; omega
    have hGi : (n : Int) ≤ (G : Int) := by omega
    have hn0 : ¬ n = 0 := h0
    clear hold hG hsz h1 h2 h3 hi0 hGm
    generalize w.drew.alloc (.cells (([] : List Value).toArray ++ Builtin.zeroCells (Value.string .empty).cells n ++ Builtin.zeroCells (Value.string .empty).cells (G - n)) 9) = w2 at hrz HB
    go_enter Try.func76, Try.ntmps76
    go_wp2_with (at_builtin; refine Lib.wpList_append_run _ rfl _ _ _ _ rfl _ _ rfl rfl _ _ (hrz _) ?_)
    all_goals (go_ret; exact ⟨_, rfl, HB.out⟩)
set_option maxHeartbeats 2000000 in
theorem concat2 (g b1 o1 b2 o2 : Nat) (c1 c2 : Nat) (l1 l2 : List ByteArray) (w : World) (hg0 : w.cell? ⟨g, 0, none⟩ = some (.slice (some ⟨b1, o1, none⟩) l1.length c1)) (hg1 : w.cell? ⟨g, 1, none⟩ = some (.slice (some ⟨b2, o2, none⟩) l2.length c2))
    (hr1 : RowAt fS w (some ⟨b1, o1, none⟩) l1) (hr2 : RowAt fS w (some ⟨b2, o2, none⟩) l2) (hl : l1.length + l2.length ≤ 1048576) :
    Calls Try.prog 56 #[.slice (some ⟨g, 0, none⟩) 2 2] w fun e w' => ∃ a c, e = .returned (.slice a (l1 ++ l2).length c) ∧ BldG fS 9 w.heap.size w w' (.slice a (l1 ++ l2).length c) (l1 ++ l2) := by
  have HR1 := Lib.hid hr1
  have HR2 := Lib.hid hr2
  have HG0 := Lib.hid hg0
  have HG1 := Lib.hid hg1
  clear hr1 hr2
  obtain ⟨n1, hn1⟩ : ∃ n, l1.length = n := ⟨_, rfl⟩
  obtain ⟨n2, hn2⟩ : ∃ n, l2.length = n := ⟨_, rfl⟩
  rw [hn1] at hg0 hl HG0
  rw [hn2] at hg1 hl HG1
  have HN1 := Lib.hid hn1
  have HN2 := Lib.hid hn2
  clear hn1 hn2
  go_enter Try.func56, Try.ntmps56
  go_wp2
  go_loopw [3, 11] (fun z i wr => ∃ k : Nat, k ≤ 2 ∧ i = .int .i64 k ∧ z = .int .i64 ((if k = 0 then 0 else if k = 1 then n1 else n1 + n2 : Nat) : Int) ∧ w = wr) (fun _ i => fun _ => 2 - (intOf i).toNat)
  case atStart => exact ⟨0, Nat.zero_le _, rfl, rfl, rfl⟩
  case round =>
    obtain ⟨k, hk, rfl, rfl, hw⟩ := hrel
    subst hw
    have hk3 : k = 0 ∨ k = 1 ∨ k = 2 := by omega
    rcases hk3 with rfl | rfl | rfl
    · go_wp2
      go_roundw
      case rel => exact ⟨1, by omega, rfl, by simp, by first | rfl | trivial⟩
      case measure => simp [intOf]
    · go_wp2
      go_roundw
      case rel => exact ⟨2, by omega, rfl, by simp, by first | rfl | trivial⟩
      case measure => simp [intOf]
    · obtain ⟨m, hm⟩ : ∃ m, m = n1 + n2 := ⟨_, rfl⟩
      rw [show ((if (2 : Nat) = 0 then 0 else if (2 : Nat) = 1 then n1 else n1 + n2 : Nat) : Int) = (m : Int) from by rw [hm]; simp]
      have hml : m ≤ 1048576 := by omega
      clear hm
      go_wp2_with fail
      refine (growNil m _ hml).mono ?_
      rintro e w2 ⟨v, rfl, hB⟩
      have HB := Lib.hid hB
      clear hB hg0 hg1
      go_wp2
      go_loopw [6, 27] (fun v i wr => ∃ k : Nat, k ≤ 2 ∧ i = .int .i64 k ∧ BldG fS 9 w.heap.size w wr v (if k = 0 then [] else if k = 1 then l1 else l1 ++ l2)) (fun _ i _ => 2 - (intOf i).toNat)
      case atStart => exact ⟨0, Nat.zero_le _, rfl, HB.out⟩
      case round =>
        obtain ⟨k, hk, rfl, hb⟩ := hrel
        have g0 := (hb.bel.cell (p := ⟨g, 0, none⟩) (World.block_lt_of_cell? w _ HG0.out)).trans HG0.out
        have g1 := (hb.bel.cell (p := ⟨g, 1, none⟩) (World.block_lt_of_cell? w _ HG1.out)).trans HG1.out
        have hk3 : k = 0 ∨ k = 1 ∨ k = 2 := by omega
        rcases hk3 with rfl | rfl | rfl
        · have hb0 : BldG fS 9 w.heap.size w wr _ ([] : List ByteArray) := hb
          have HRX := Lib.hid (HR1.out.below hb.bel).news
          clear hb
          go_wp2_with (at_builtin; refine wpList_addG rfl _ _ 34 rfl _ _ Try.underlying34 _ _ infoS rfl fS_one _ _ rfl hb0 ⟨b1, o1, none⟩ n1 c1 l1 rfl HN1.out HRX.out ?_ ?_ ?_; (simp; omega); (simp; omega); intro v' w' hb')
          rw [List.nil_append] at hb'
          go_roundw
          case rel => exact ⟨1, by omega, rfl, hb'⟩
          case measure => simp [intOf]
        · have hb0 : BldG fS 9 w.heap.size w wr _ l1 := hb
          have HRX := Lib.hid (HR2.out.below hb.bel).news
          have hl1 : l1.length ≤ 1048576 := by rw [HN1.out]; omega
          have HL : Hid (l1.length + n2 ≤ 1048576) := Lib.hid (by rw [HN1.out]; omega)
          clear hb
          go_wp2_with (at_builtin; refine wpList_addG rfl _ _ 34 rfl _ _ Try.underlying34 _ _ infoS rfl fS_one _ _ rfl hb0 ⟨b2, o2, none⟩ n2 c2 l2 rfl HN2.out HRX.out ?_ ?_ ?_; (have := HL.out; omega); (have := HL.out; omega); intro v' w' hb')
          go_roundw
          case rel => exact ⟨2, by omega, rfl, hb'⟩
          case measure => simp [intOf]
        · have hb0 : BldG fS 9 w.heap.size w wr _ (l1 ++ l2) := hb
          obtain ⟨a, c, rfl⟩ := hb0.form
          clear hb
          have HB0 := Lib.hid hb0
          clear hb0
          go_wp2
          go_ret
          exact ⟨a, c, rfl, HB0.out⟩
set_option maxHeartbeats 800000 in
theorem implUnite (b1 o1 b2 o2 c1 c2 : Nat) (l1 l2 : List ByteArray) (w : World) (hr1 : RowAt fS w (some ⟨b1, o1, none⟩) l1) (hr2 : RowAt fS w (some ⟨b2, o2, none⟩) l2) (hl : l1.length + l2.length ≤ 1048576) :
    Calls Try.prog 29 #[.slice (some ⟨b1, o1, none⟩) l1.length c1, .slice (some ⟨b2, o2, none⟩) l2.length c2] w fun e w' => ∃ a c, e = .returned (.slice a (uniL l1 l2).length c) ∧ BldG fS 9 w.heap.size w w' (.slice a (uniL l1 l2).length c) (uniL l1 l2) := by
  have HU := Lib.hid (uniL_ssL l1 l2)
  have HR1 := Lib.hid hr1
  have HR2 := Lib.hid hr2
  clear hr1 hr2
  obtain ⟨W0, hW0⟩ : ∃ W0, W0 = w.alloc (.cells #[.slice (some ⟨b1, o1, none⟩) l1.length c1, .slice (some ⟨b2, o2, none⟩) l2.length c2] 34) := ⟨_, rfl⟩
  have hB0 : Below w.heap.size w W0 := by rw [hW0]; exact (Below.refl _ _).alloc (Nat.le_refl _) _
  have g0 : W0.cell? ⟨w.heap.size, 0, none⟩ = some (.slice (some ⟨b1, o1, none⟩) l1.length c1) := by rw [hW0]; simp
  have g1 : W0.cell? ⟨w.heap.size, 1, none⟩ = some (.slice (some ⟨b2, o2, none⟩) l2.length c2) := by rw [hW0]; simp
  have HG0 := Lib.hid g0
  have HG1 := Lib.hid g1
  have HB0 := Lib.hid hB0
  have HW0 := Lib.hid hW0
  clear g0 g1 hB0 hW0
  go_enter Try.func29, Try.ntmps29
  go_wp2_with fail
  rw [← HW0.out]
  refine (concat2 w.heap.size b1 o1 b2 o2 c1 c2 l1 l2 _ HG0.out HG1.out (HR1.out.below HB0.out) (HR2.out.below HB0.out) hl).mono ?_
  rintro e w1 ⟨a, c, rfl, hB⟩
  have HC1 := Lib.hid (HB0.out.trans (hB.bel.mono HB0.out.size))
  have HRow := Lib.hid hB.row.at
  clear hB
  go_wp2_with fail
  refine (sortedSet_any a c (l1 ++ l2) _ _ (by simp) HRow.out (by rw [List.length_append]; exact hl)).mono ?_
  rintro e w2 ⟨a2, c2', rfl, hB2⟩
  rw [← HU.out] at hB2 ⊢
  have HB2 : Hid (BldG fS 9 w.heap.size w w2 (.slice a2 (uniL l1 l2).length c2') (uniL l1 l2)) := Lib.hid ⟨ownMono hB2.own HC1.out.size, HC1.out.trans (hB2.bel.mono HC1.out.size), Nat.le_trans HC1.out.size hB2.big⟩
  clear hB2
  go_wp2
  go_ret
  exact ⟨a2, c2', rfl, HB2.out⟩
end Go.Proofs.Ytoijjielnbcphaa

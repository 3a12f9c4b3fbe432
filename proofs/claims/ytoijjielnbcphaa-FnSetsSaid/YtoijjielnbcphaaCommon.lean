/-
  Walks of CommonTokens (program): the closure that asks whether a token is missing, slices.DeleteFunc on the sorted set. Condition: at most 2^20 elements each.
-/
import Derived.Test.YtoijjielnbcphaaSorted
import Derived.Test.YtoijjielnbcphaaSets
namespace Go.Proofs.Ytoijjielnbcphaa
open Go.RowKit Go.Sort
set_option linter.unusedVariables false
set_option linter.unusedSimpArgs false
set_option maxRecDepth 100000
theorem callFunc_com (args : Array Value) (w : World) : (callFunc 54 args).run Try.prog w = .ok (.enter 54 args) w := by kernel_rfl
theorem contains_inL (l : List ByteArray) (x : ByteArray) : Lib.containsS l x = inL l x := by
  rw [inL_mem, Bool.eq_iff_iff, decide_eq_true_eq]
  rw [Lib.containsS_iff, List.mem_map]
  constructor
  · intro h; exact ⟨x, h, rfl⟩
  · rintro ⟨y, hy, he⟩
    have : bstr (bs y) = bstr (bs x) := by rw [he]
    rw [bstr_bs, bstr_bs] at this
    rw [← this]; exact hy
theorem notIn (N b2 o2 c2 : Nat) (l2 : List ByteArray) (x : ByteArray) (W : World) (hN : W.cell? ⟨N, 0, none⟩ = some (.slice (some ⟨b2, o2, none⟩) l2.length c2)) (hr : RowAt fS W (some ⟨b2, o2, none⟩) l2) (hl : l2.length ≤ 1048576) :
    Calls Try.prog 54 #[.string x, .pointer (some ⟨N, 0, none⟩)] W fun e w' => e = .returned (.bool (!inL l2 x)) ∧ W = w' := by
  have HC : Hid (Calls Try.prog 55 #[.slice (some ⟨b2, o2, none⟩) l2.length c2, .string x] W fun e w' => e = .returned (.bool (inL l2 x)) ∧ w' = W) := Lib.hid (by
    cases l2 with
    | nil =>
      refine (Try.slices_Contains_string_empty _ _ _ _).mono ?_
      rintro e w' ⟨rfl, rfl⟩
      exact ⟨rfl, rfl⟩
    | cons y l =>
      have hc : ∀ j, j < (y :: l).length → W.cell? ⟨b2, o2 + j, none⟩ = some (.string ((y :: l).getD j ByteArray.empty)) := by
        intro j hj
        rcases hr with h | ⟨b, off, h1, h2⟩
        · cases h
        · injection h1 with h1
          injection h1 with e1 e2 e3
          subst e1 e2
          rw [h2 j _ (List.getElem?_eq_getElem hj), List.getD_eq_getElem?_getD, List.getElem?_eq_getElem hj]; rfl
      refine (Try.slices_Contains_string b2 o2 (y :: l).length c2 (y :: l) x W (Nat.le_refl _) (by omega) hc).mono ?_
      rintro e w' ⟨rfl, rfl⟩
      rw [List.take_length, contains_inL]
      exact ⟨rfl, rfl⟩)
  clear hr
  go_enter Try.func54, Try.ntmps54
  go_wp2_with fail
  refine HC.out.mono ?_
  rintro e w' ⟨rfl, rfl⟩
  go_wp2
  go_ret
  exact ⟨rfl, rfl⟩
theorem delNil (fv : Value) (w : World) : Calls Try.prog 52 #[.slice none 0 0, fv] w fun e w' => e = .returned (.slice none 0 0) ∧ Below w.heap.size w w' := by
  go_enter Try.func52, Try.ntmps52
  go_wp2_with fail
  refine (Try.slices_IndexFunc_empty (α := ByteArray) none 0 fv _).mono ?_
  rintro e w' ⟨rfl, rfl⟩
  go_wp2
  go_ret
  exact ⟨rfl, Below.refl _ _⟩
theorem sorted_cell {w : World} {g n : Nat} {os : Array Obj} {d : Array (List UInt8)} {a : Addr} {v : Value} (h : w.cell? a = some v) (hne : a.block ≠ g) : (sortWorld encStr w g 0 n d os).cell? a = some v :=
  (grownBy_sorted (w := w) (g := g) (n := n) (os := os) d).cell h (by intro e; exact hne (Option.some.inj e))
theorem sorted_row {w : World} {g n : Nat} {os : Array Obj} {d : Array (List UInt8)} {b o : Nat} {l : List ByteArray} (h : RowAt fS w (some ⟨b, o, none⟩) l) (hne : l = [] ∨ b ≠ g) : RowAt fS (sortWorld encStr w g 0 n d os) (some ⟨b, o, none⟩) l := by
  rcases h with h | ⟨b', o', h1, h2⟩
  · exact Or.inl h
  · injection h1 with h1
    injection h1 with e1 e2 e3
    subst e1 e2
    rcases hne with hne | hne
    · exact Or.inl hne
    · exact Or.inr ⟨b, o, rfl, fun i x hx => sorted_cell (h2 i x hx) hne⟩
/-- slices.DeleteFunc on the sorted set: what is in the other slice stays. -/
theorem delO {w0 : World} (B N b2 o2 c2 : Nat) (a : Option Addr) (c : Nat) (l l2 : List ByteArray) (w : World) (hB : BldG fS 9 B w0 w (.slice a l.length c) l) (hl : l.length ≤ 1048576)
    (hN : w.cell? ⟨N, 0, none⟩ = some (.slice (some ⟨b2, o2, none⟩) l2.length c2)) (hNB : N < B) (hr : RowAt fS w (some ⟨b2, o2, none⟩) l2) (hb2 : l2 = [] ∨ b2 < B) (hl2 : l2.length ≤ 1048576) :
    Calls Try.prog 52 #[.slice a l.length c, .func (.func 54) #[] #[.pointer (some ⟨N, 0, none⟩)]] w fun e w' => ∃ a' c', e = .returned (.slice a' (l.filter fun x => inL l2 x).length c') ∧ BldG fS 9 B w0 w' (.slice a' (l.filter fun x => inL l2 x).length c') (l.filter fun x => inL l2 x) := by
  rcases hB.own.2 with ⟨h1, h2⟩ | ⟨g, cap, cur, h1, hg0, hb, hcap, hmax, hsz, htk⟩
  · obtain rfl : l = [] := List.eq_nil_of_length_eq_zero h2
    injection h1 with e1 e2 e3
    subst e1 e3
    refine (delNil _ w).mono ?_
    rintro e w' ⟨rfl, hb⟩
    exact ⟨none, 0, rfl, hB.below hb⟩
  · injection h1 with e1 e2 e3
    subst e1 e3
    have hll : (l.map bs).length = l.length := List.length_map ..
    have htk' : cur.toList.take (l.map bs).length = (l.map bs).map encStr := by rw [← map_fS, hll]; simpa using htk
    have hH := holds_of_block hb htk'
    have hp : PredAt Try.prog 54 #[.pointer (some ⟨N, 0, none⟩)] encStr (fun x => !inL l2 (bstr x)) w := by
      intro W x hW
      exact (notIn N b2 o2 c2 l2 (bstr x) W ((hW.cell (World.block_lt_of_cell? w _ hN)).trans hN) (hr.below hW) hl2).mono fun e w' ⟨h1, h2⟩ => ⟨h1, 0, by rw [← h2]; rfl⟩
    have hpo : PredOver Try.prog 54 #[.pointer (some ⟨N, 0, none⟩)] encStr (fun x => !inL l2 (bstr x)) g 0 (l.map bs).toArray.size w := by
      intro n os dk x hdk
      exact (notIn N b2 o2 c2 l2 (bstr x) _ (sorted_cell hN (by show N ≠ g; omega)) (sorted_row hr (hb2.imp id (fun h => by omega))) hl2).mono fun e w' ⟨h1, h2⟩ => ⟨h1, 0, by rw [← h2]; rfl⟩
    have hc := Try.slices_DeleteFunc encStr (fun x => rfl) (fun x => !inL l2 (bstr x)) 54 #[.pointer (some ⟨N, 0, none⟩)] callFunc_com [] (fun w => rfl) g 0 c (l.map bs).toArray w hp hpo hH (by simp; omega) (by simpa using hcap)
    rw [List.size_toArray, hll] at hc
    refine hc.mono ?_
    rintro e w' ⟨rfl, q, rfl⟩
    have hf : ((l.map bs).filter fun x => !!inL l2 (bstr x)) = (l.filter fun x => inL l2 x).map bs := by
      rw [List.filter_map]
      congr 1
      apply List.filter_congr
      intro x _
      simp [Function.comp, bstr_bs]
    rw [List.toList_toArray, hf, List.length_map]
    refine ⟨some ⟨g, 0, none⟩, c, rfl, hB.grown (grownBy_put _) ?_⟩
    have hfl := List.length_filter_le (fun x => inL l2 x) l
    have := own_put (w := w) (B := B) (g := g) (cap := c) (n := q) (e := 9) (cur := cur) (ts := (l.filter fun x => inL l2 x).map bs) (pad := List.replicate (l.length - (l.filter fun x => inL l2 x).length) []) hg0 hb (by rw [List.length_append, List.length_map, List.length_replicate]; omega) hmax hsz
    rw [List.length_map] at this
    rw [map_fS]
    exact this
theorem comL_filter (a b : List ByteArray) : (ssL a).filter (fun x => inL b x) = comL a b := by
  rw [comL_eq, ← commonS_eq]
  unfold ssL
  rw [List.filter_map]
  congr 1
  apply List.filter_congr
  intro x _
  simp only [Function.comp]
  rw [inL_mem, bs_bstr]
set_option maxHeartbeats 1600000 in
theorem implCommon (a1 : Option Addr) (b2 o2 c1 c2 : Nat) (l1 l2 : List ByteArray) (w : World) (hr1 : RowAt fS w a1 l1) (hr2 : RowAt fS w (some ⟨b2, o2, none⟩) l2) (h1 : l1.length ≤ 1048576) (h2 : l2.length ≤ 1048576) :
    Calls Try.prog 28 #[.slice a1 l1.length c1, .slice (some ⟨b2, o2, none⟩) l2.length c2] w fun e w' => ∃ a c, e = .returned (.slice a (comL l1 l2).length c) ∧ BldG fS 9 w.heap.size w w' (.slice a (comL l1 l2).length c) (comL l1 l2) := by
  obtain ⟨W0, hW0⟩ : ∃ W0, W0 = w.alloc (.cells #[.slice (some ⟨b2, o2, none⟩) l2.length c2] 34) := ⟨_, rfl⟩
  have hB0 : Below w.heap.size w W0 := by rw [hW0]; exact (Below.refl _ _).alloc (Nat.le_refl _) _
  have hz0 : W0.heap.size = w.heap.size + 1 := by rw [hW0]; simp
  have g0 : W0.cell? ⟨w.heap.size, 0, none⟩ = some (.slice (some ⟨b2, o2, none⟩) l2.length c2) := by rw [hW0]; simp
  have hb2 : l2 = [] ∨ b2 < w.heap.size := by
    rcases hr2 with h | ⟨b, off, e, h⟩
    · exact Or.inl h
    · cases hx : l2 with
      | nil => exact Or.inl rfl
      | cons y l =>
        right
        injection e with e
        injection e with e1 e2 e3
        subst e1 e2
        exact World.block_lt_of_cell? w _ (h 0 y (by rw [hx]; rfl))
  have HR1 := Lib.hid (hr1.below hB0)
  have HR2 := Lib.hid (hr2.below hB0)
  have HG0 := Lib.hid g0
  have HB0 := Lib.hid hB0
  have HW0 := Lib.hid hW0
  have HZ := Lib.hid hz0
  have Hb2 := Lib.hid hb2
  have HC := Lib.hid (comL_filter l1 l2)
  have HL := Lib.hid (ssL_len l1)
  clear hr1 hr2 g0 hB0 hW0 hz0 hb2
  go_enter Try.func28, Try.ntmps28
  go_wp2_with fail
  rw [← HW0.out]
  refine (sortedSet_any a1 c1 l1 _ l1.length rfl HR1.out h1).mono ?_
  rintro e w1 ⟨a', c', rfl, hB⟩
  have HB := Lib.hid hB
  have HG1 := Lib.hid ((hB.bel.cell (p := ⟨w.heap.size, 0, none⟩) (World.block_lt_of_cell? W0 _ HG0.out)).trans HG0.out)
  have HR3 := Lib.hid (HR2.out.below hB.bel)
  clear hB
  go_wp2_with fail
  refine (delO W0.heap.size w.heap.size b2 o2 c2 a' c' (ssL l1) l2 _ HB.out (by have := HL.out; omega) HG1.out (by rw [HZ.out]; omega) HR3.out (Hb2.out.imp id (fun h => by rw [HZ.out]; omega)) h2).mono ?_
  rintro e w2 ⟨a2, c2', rfl, hB2⟩
  rw [HC.out] at hB2 ⊢
  have HB2 : Hid (BldG fS 9 w.heap.size w w2 (.slice a2 (comL l1 l2).length c2') (comL l1 l2)) := Lib.hid ⟨ownMono hB2.own HB0.out.size, HB0.out.trans (hB2.bel.mono HB0.out.size), Nat.le_trans HB0.out.size hB2.big⟩
  clear hB2
  go_wp2
  go_ret
  exact ⟨a2, c2', rfl, HB2.out⟩
end Go.Proofs.Ytoijjielnbcphaa

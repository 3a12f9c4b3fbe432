/-
  Walks of the law's helpers on records: eqRecord, szRecord, toRecord. Condition: as for the slices of strings.
-/
import Derived.Test.YtdhdjmeolkobeaaDoorStrs
import Derived.Deep.OwnRows
namespace Go.Proofs.YtdhdjmeolkobeaaDoor
open Go.RowKit
set_option linter.unusedVariables false
set_option linter.unusedSimpArgs false
abbrev recV (s k v : Int) (a : Option Addr) (n c : Nat) : Value := .agg #[.int .i64 s, .int .i64 k, .int .i64 v, .slice a n c]
theorem RowOwn.setOther {α : Type} {f : α → Value} {B : Nat} {w : World} {a : Option Addr} {l : List α} (h : RowOwn f B w a l) {p : Addr} (hp : p.block < B) (v : Value) : RowOwn f B (w.setCell p v) a l := by
  rcases h with h | ⟨b, h1, h2, h3⟩
  · exact Or.inl h
  · refine Or.inr ⟨b, h1, h2, fun i x hx => ?_⟩
    obtain ⟨hc, hf⟩ := h3 i x hx
    have hb : (w.setCell p v).heap[b]? = w.heap[b]? := Below.heap_setCell _ _ _ _ (by omega)
    exact ⟨(World.cell?_of_block (a := ⟨b, i, none⟩) hb).trans hc, (World.frozen?_of_block (a := ⟨b, i, none⟩) hb).trans hf⟩
set_option maxHeartbeats 800000 in
theorem eqRecord_same (s k v : Int) (a1 a2 : Option Addr) (c1 c2 : Nat) (l : List ByteArray) (w : World) (hr1 : RowAt fS w a1 l) (hr2 : RowAt fS w a2 l) (hl : l.length ≤ 9223372036854775807) :
    Calls Tryd.prog 14 #[recV s k v a1 l.length c1, recV s k v a2 l.length c2] w fun e w' => e = .returned (.bool true) ∧ Below w.heap.size w w' := by
  (try unfold recV)
  have H : Hid (decide (l = l) = true) := Lib.hid (decide_eq_true rfl)
  go_enter Tryd.func14, Tryd.ntmps14
  go_wp2_with (go_at_call 27; refine (eqStringS_any a1 a2 c1 c2 l l _ ((hr1.below ((Below.refl _ _).alloc (Nat.le_refl _) _)).below ((Below.refl _ _).alloc (Nat.le_refl _) _)) ((hr2.below ((Below.refl _ _).alloc (Nat.le_refl _) _)).below ((Below.refl _ _).alloc (Nat.le_refl _) _)) hl).mono ?_; rintro e w' ⟨rfl, hb⟩; rw [H.out])
  go_ret
  exact ⟨rfl, (((Below.refl _ _).alloc (Nat.le_refl _) _).alloc (by simp) _).trans (hb.mono (by simp; omega))⟩
theorem szRecord_any (s k v : Int) (a : Option Addr) (cap : Nat) (l : List ByteArray) (z : Int) (w : World) (hrow : RowAt fS w a l) (hl : l.length ≤ 9223372036854775807) (hs : Hid (∀ k (h : k < l.length), l[k].size ≤ 9223372036854775807)) (h0 : 0 ≤ z) (h1 : z ≤ 1048576) :
    Calls Tryd.prog 10 #[recV s k v a l.length cap, .int .i64 z] w fun e w' => e = .returned (.int .i64 (szS l z)) ∧ Below w.heap.size w w' := by
  (try unfold recV)
  have hrow2 := hrow.below ((Below.refl _ _).alloc (Nat.le_refl _) (.cells #[.int .i64 s, .int .i64 k, .int .i64 v, .slice a l.length cap] 24))
  by_cases hle : (l.length : Int) + sumS l ≤ z
  · have H := Lib.hid (szS_yes hle)
    have d : decide (z - (l.length : Int) - (sumS l : Int) < 0) = false := by simp; omega
    go_enter Tryd.func10, Tryd.ntmps10
    go_wp2_with (go_at_call 32; refine (szStringS_any a cap l z _ hrow2 hl hs.out h0 h1).mono ?_; rintro e w' ⟨rfl, rfl⟩; rw [H.out])
    go_ret
    exact ⟨by rw [H.out]; rfl, (Below.refl _ _).alloc (Nat.le_refl _) _⟩
  · have H := Lib.hid (szS_no (l := l) (left := z) (by omega))
    go_enter Tryd.func10, Tryd.ntmps10
    go_wp2_with (go_at_call 32; refine (szStringS_any a cap l z _ hrow2 hl hs.out h0 h1).mono ?_; rintro e w' ⟨rfl, rfl⟩; rw [H.out])
    go_ret
    exact ⟨by rw [H.out]; rfl, (Below.refl _ _).alloc (Nat.le_refl _) _⟩
set_option maxHeartbeats 800000 in
theorem toRecord_any (s k v : Int) (a : Option Addr) (cap : Nat) (l : List ByteArray) (w : World) (hrow : RowAt fS w a l) (hl : l.length ≤ 1048576) :
    Calls Tryd.prog 12 #[recV s k v a l.length cap] w fun e w' => ∃ g, e = .returned (recV s k v (some ⟨g, 0, none⟩) l.length l.length) ∧ RowOwn fS w.heap.size w' (some ⟨g, 0, none⟩) l ∧ Below w.heap.size w w' := by
  (try unfold recV)
  go_enter Tryd.func12, Tryd.ntmps12
  go_wp2_with fail
  obtain ⟨W0, hW0⟩ : ∃ W0, W0 = (((w.alloc (.cells #[.int .i64 s, .int .i64 k, .int .i64 v, .slice a l.length cap] 24)).alloc (.cells #[.int .i64 0, .int .i64 0, .int .i64 0, .slice none 0 0] 27)).alloc (.cells #[.int .i64 s, .int .i64 k, .int .i64 v, .slice none 0 0] 27)) := ⟨_, rfl⟩
  have hz : W0.heap.size = w.heap.size + 3 := by rw [hW0]; simp
  have hb0 : Below w.heap.size w W0 := by rw [hW0]; exact (((Below.refl _ _).alloc (Nat.le_refl _) _).alloc (by simp) _).alloc (by simp; omega) _
  have hk1 : W0.heap[w.heap.size + 1]? = some (.cells #[.int .i64 0, .int .i64 0, .int .i64 0, .slice none 0 0] 27) := by
    rw [hW0, Below.heap_alloc _ _ _ (by simp)]
    have := Go.Deep.blk_alloc_new (w.alloc (.cells #[.int .i64 s, .int .i64 k, .int .i64 v, .slice a l.length cap] 24)) (.cells #[.int .i64 0, .int .i64 0, .int .i64 0, .slice none 0 0] 27)
    rwa [show (w.alloc (.cells #[.int .i64 s, .int .i64 k, .int .i64 v, .slice a l.length cap] 24)).heap.size = w.heap.size + 1 from by simp] at this
  have hk2 : W0.heap[w.heap.size + 1 + 1]? = some (.cells #[.int .i64 s, .int .i64 k, .int .i64 v, .slice none 0 0] 27) := by
    rw [hW0]
    have := Go.Deep.blk_alloc_new ((w.alloc (.cells #[.int .i64 s, .int .i64 k, .int .i64 v, .slice a l.length cap] 24)).alloc (.cells #[.int .i64 0, .int .i64 0, .int .i64 0, .slice none 0 0] 27)) (.cells #[.int .i64 s, .int .i64 k, .int .i64 v, .slice none 0 0] 27)
    rwa [show ((w.alloc (.cells #[.int .i64 s, .int .i64 k, .int .i64 v, .slice a l.length cap] 24)).alloc (.cells #[.int .i64 0, .int .i64 0, .int .i64 0, .slice none 0 0] 27)).heap.size = w.heap.size + 1 + 1 from by simp] at this
  rw [← hW0]
  clear hW0
  refine (toStringS_any a cap l W0 (hrow.below hb0) hl).mono ?_
  rintro e w2 ⟨g, rfl, ho, hb⟩
  have hk1' := (hb.block (w.heap.size + 1) (by omega)).trans hk1
  have hk2' := (hb.block (w.heap.size + 1 + 1) (by omega)).trans hk2
  have f1 : ∀ i, w2.frozen? ⟨w.heap.size + 1, i, none⟩ = false := fun i => by simp [World.frozen?, hk1']
  have f2 : ∀ i, w2.frozen? ⟨w.heap.size + 1 + 1, i, none⟩ = false := fun i => by simp [World.frozen?, hk2']
  have d0 : w2.cell? ⟨w.heap.size + 1, 0, none⟩ = some (.int .i64 0) := by simp [World.cell?, hk1']
  have d1 : w2.cell? ⟨w.heap.size + 1, 1, none⟩ = some (.int .i64 0) := by simp [World.cell?, hk1']
  have d2 : w2.cell? ⟨w.heap.size + 1, 2, none⟩ = some (.int .i64 0) := by simp [World.cell?, hk1']
  have d3 : w2.cell? ⟨w.heap.size + 1, 3, none⟩ = some (.slice none 0 0) := by simp [World.cell?, hk1']
  have e0 : w2.cell? ⟨w.heap.size + 1 + 1, 0, none⟩ = some (.int .i64 s) := by simp [World.cell?, hk2']
  have e1 : w2.cell? ⟨w.heap.size + 1 + 1, 1, none⟩ = some (.int .i64 k) := by simp [World.cell?, hk2']
  have e2 : w2.cell? ⟨w.heap.size + 1 + 1, 2, none⟩ = some (.int .i64 v) := by simp [World.cell?, hk2']
  have e3 : w2.cell? ⟨w.heap.size + 1 + 1, 3, none⟩ = some (.slice none 0 0) := by simp [World.cell?, hk2']
  have Hk := Lib.hid hk1'
  clear hk1 hk2 hk1' hk2'
  go_wp2
  have h0 : (w2.setCell ⟨w.heap.size + 1 + 1, 3, none⟩ (.slice (some ⟨g, 0, none⟩) l.length l.length)).heap[w.heap.size + 1]? = some (.cells #[.int .i64 0, .int .i64 0, .int .i64 0, .slice none 0 0] 27) := by
    rw [Below.heap_setCell _ _ _ _ (by show w.heap.size + 1 ≠ w.heap.size + 1 + 1; omega)]; exact Hk.out
  have h1 := heap_setCell_same _ _ 0 _ _ (.int .i64 s) h0
  have h2 := heap_setCell_same _ _ 1 _ _ (.int .i64 k) h1
  have h3 := heap_setCell_same _ _ 2 _ _ (.int .i64 v) h2
  have h4 := heap_setCell_same _ _ 3 _ _ (.slice (some ⟨g, 0, none⟩) l.length l.length) h3
  (try simp only [Exit.inBlock, Exit.then])
  refine bodyPost_ret (results_cell_row rfl _ _ (w.heap.size + 1) 27 _ (0, 0) _ rfl h4 Tryd.underlying27 rfl (by kernel_rfl)) rfl ?_
  refine ⟨g, rfl, ?_, ?_⟩
  · have ho2 := ho.mono (B' := w.heap.size + 3) (by omega)
    exact (((((ho2.setOther (by show w.heap.size + 1 + 1 < _; omega) _).setOther (by show w.heap.size + 1 < _; omega) _).setOther (by show w.heap.size + 1 < _; omega) _).setOther (by show w.heap.size + 1 < _; omega) _).setOther (by show w.heap.size + 1 < _; omega) _).mono (by omega)
  · have hbb := hb0.trans (hb.mono (by omega))
    exact (((((hbb.setCell (by show w.heap.size ≤ w.heap.size + 1 + 1; omega) _).setCell (by show w.heap.size ≤ w.heap.size + 1; omega) _).setCell (by show w.heap.size ≤ w.heap.size + 1; omega) _).setCell (by show w.heap.size ≤ w.heap.size + 1; omega) _).setCell (by show w.heap.size ≤ w.heap.size + 1; omega) _)
end Go.Proofs.YtdhdjmeolkobeaaDoor

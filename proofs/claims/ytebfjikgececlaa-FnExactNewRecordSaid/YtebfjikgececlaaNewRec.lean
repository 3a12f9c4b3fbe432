/-
  Walks of NewRecord (program and reference). Condition: the fields have at most 2^20 bytes.
-/
import Derived.Test.YtebfjikgececlaaValid
import Derived.Test.YtebfjikgececlaaSeqMore
namespace Go.Proofs.Ytebfjikgececlaa
open Go.RowKit
set_option linter.unusedVariables false
set_option linter.unusedSimpArgs false
def selI (b : Bool) (x : Int) : Int := if b then x else 0
def selL (b : Bool) (l : List ByteArray) : List ByteArray := if b then l else []
def NewEnd (w : World) (s k v : Int) (l : List ByteArray) (ok : Bool) (e : Ending) (w' : World) : Prop :=
  ∃ a c, e = .returned (.tuple #[recV (selI ok s) (selI ok k) (selI ok v) a (selL ok l).length c, .bool ok]) ∧ RowOwn fS w.heap.size w' a (selL ok l) ∧ Below w.heap.size w w'
/-- What was written into the result's block. -/
theorem newRec_end {W : World} {g : Nat} {e : TypeId} {s k v : Int} {a : Option Addr} {n c : Nat} {s0 k0 v0 : Int} {a0 : Option Addr} {n0 c0 : Nat} (h : W.heap[g]? = some (.cells #[.int .i64 s0, .int .i64 k0, .int .i64 v0, .slice a0 n0 c0] e)) :
    ((((W.setCell ⟨g, 0, none⟩ (.int .i64 s)).setCell ⟨g, 1, none⟩ (.int .i64 k)).setCell ⟨g, 2, none⟩ (.int .i64 v)).setCell ⟨g, 3, none⟩ (.slice a n c)).heap[g]? = some (.cells #[.int .i64 s, .int .i64 k, .int .i64 v, .slice a n c] e (0, 0)) := by
  have h1 := heap_setCell_same _ _ 0 _ _ (.int .i64 s) h
  have h2 := heap_setCell_same _ _ 1 _ _ (.int .i64 k) h1
  have h3 := heap_setCell_same _ _ 2 _ _ (.int .i64 v) h2
  exact heap_setCell_same _ _ 3 _ _ (.slice a n c) h3
theorem newRec_row {W : World} {B g : Nat} {s k v : Int} {a : Option Addr} {n c : Nat} {a' : Option Addr} {l : List ByteArray} (h : RowOwn fS B W a' l) (hg : g < B) :
    RowOwn fS B ((((W.setCell ⟨g, 0, none⟩ (.int .i64 s)).setCell ⟨g, 1, none⟩ (.int .i64 k)).setCell ⟨g, 2, none⟩ (.int .i64 v)).setCell ⟨g, 3, none⟩ (.slice a n c)) a' l :=
  (((h.setOther (by exact hg) _).setOther (by exact hg) _).setOther (by exact hg) _).setOther (by exact hg) _
theorem newRec_below {w W : World} {B g : Nat} {s k v : Int} {a : Option Addr} {n c : Nat} (h : Below B w W) (hg : B ≤ g) :
    Below B w ((((W.setCell ⟨g, 0, none⟩ (.int .i64 s)).setCell ⟨g, 1, none⟩ (.int .i64 k)).setCell ⟨g, 2, none⟩ (.int .i64 v)).setCell ⟨g, 3, none⟩ (.slice a n c)) :=
  (((h.setCell (by exact hg) _).setCell (by exact hg) _).setCell (by exact hg) _).setCell (by exact hg) _
/-- A block known whole, read cell by cell. -/
theorem blk_facts {W : World} {g : Nat} {e : TypeId} {s k v : Int} {a : Option Addr} {n c : Nat} (h : W.heap[g]? = some (.cells #[.int .i64 s, .int .i64 k, .int .i64 v, .slice a n c] e)) :
    RecAt W g s k v a n c ∧ ∀ i, W.frozen? ⟨g, i, none⟩ = false :=
  ⟨⟨by simp [World.cell?, h], by simp [World.cell?, h], by simp [World.cell?, h], by simp [World.cell?, h]⟩, fun i => by simp [World.frozen?, h]⟩
set_option maxHeartbeats 2000000 in
theorem implNewRecord (s k v : Int) (g o : Nat) (c : Nat) (l : List ByteArray) (w : World) (hr : RowAt fS w (some ⟨g, o, none⟩) l) (hl : l.length ≤ 1048576) (hs : Hid (∀ k (h : k < l.length), l[k].size ≤ 1048576)) :
    Calls Try.prog 23 #[.int .i64 s, .int .i64 k, .int .i64 v, .slice (some ⟨g, o, none⟩) l.length c] w (NewEnd w s k v l (validR s k v l)) := by
  obtain ⟨ok, hok⟩ : ∃ ok, validR s k v l = ok := ⟨_, rfl⟩
  rw [hok]
  have HV := Lib.hid hok; clear hok
  have f0 : l.length ≤ 9223372036854775807 := by omega
  obtain ⟨W0, hW0⟩ : ∃ W0, W0 = w.alloc (.cells #[.int .i64 0, .int .i64 0, .int .i64 0, .slice none 0 0] 31) := ⟨_, rfl⟩
  have hk0 : W0.heap[w.heap.size]? = some (.cells #[.int .i64 0, .int .i64 0, .int .i64 0, .slice none 0 0] 31) := by rw [hW0]; exact Go.Deep.blk_alloc_new _ _
  have c0 : Below w.heap.size w W0 := by rw [hW0]; exact (Below.refl _ _).alloc (Nat.le_refl _) _
  have hz0 : w.heap.size < W0.heap.size := by rw [hW0]; simp
  have hsz : W0.heap.size = w.heap.size + 1 := by rw [hW0]; simp
  have HE : BldG fS 9 (w.heap.size + 1) W0 (W0.alloc (.cells #[] 9)) (.slice (some ⟨w.heap.size + 1, 0, none⟩) 0 0) [] := by have := BldG.empty fS 9 W0; rwa [hsz] at this
  have HSZ := Lib.hid hsz; clear hsz
  have HK0 := Lib.hid hk0
  have HR := Lib.hid (hr.below c0)
  clear hk0 hr
  go_enter Try.func23, Try.ntmps23
  go_wp2_with fail
  rw [← hW0]
  clear hW0
  refine (cloneS _ _ l W0 HR.out hl).mono ?_
  rintro e w1 ⟨a', c', rfl, hB⟩
  have hb1 := hB.bel
  have c1 := c0.trans (hb1.mono c0.size)
  have hz1 : W0.heap.size ≤ w1.heap.size := hb1.size
  have hk1 := (hb1.block w.heap.size hz0).trans HK0.out
  have ho1 := hB.row
  clear hb1 hB HR HK0
  obtain ⟨W2, hW2⟩ : ∃ W2, W2 = w1.alloc (.cells #[.int .i64 s, .int .i64 k, .int .i64 v, .slice a' l.length c'] 31) := ⟨_, rfl⟩
  have c2 : Below w.heap.size w W2 := by rw [hW2]; exact c1.alloc c1.size _
  have b2 : Below w1.heap.size w1 W2 := by rw [hW2]; exact (Below.refl _ _).alloc (Nat.le_refl _) _
  have hk2 := (b2.block w.heap.size (by omega)).trans hk1
  have hr2 : W2.heap[w1.heap.size]? = some (.cells #[.int .i64 s, .int .i64 k, .int .i64 v, .slice a' l.length c'] 31) := by rw [hW2]; exact Go.Deep.blk_alloc_new _ _
  have hz2 : w1.heap.size < W2.heap.size := by rw [hW2]; simp
  have ho2 := ho1.below b2
  clear hk1 ho1 b2
  go_wp2_with fail
  rw [← hW2]
  clear hW2
  refine (implValid s k v a' c' l W2 ho2.at f0 hs).mono ?_
  rintro e w3 ⟨rfl, b3⟩
  rw [HV.out]
  have c3 := c2.trans (b3.mono c2.size)
  have hk3 := (b3.block w.heap.size (by omega)).trans hk2
  have hr3 := (b3.block w1.heap.size (by omega)).trans hr2
  have ho3 := ho2.below b3
  clear hk2 hr2 ho2 b3 c2
  obtain ⟨⟨p0, p1, p2, p3⟩, pf⟩ := blk_facts hk3
  obtain ⟨⟨t0, t1, t2, t3⟩, tf⟩ := blk_facts hr3
  have HK := Lib.hid hk3
  have HO := Lib.hid ho3
  have HC := Lib.hid c3
  have hne : w.heap.size ≠ w1.heap.size := by omega
  have hzz : w.heap.size < W0.heap.size := hz0
  clear hk3 hr3 ho3 c3
  cases ok
  · go_wp2
    (try simp only [Exit.inBlock, Exit.then])
    refine bodyPost_ret (results_cell2 rfl _ _ w.heap.size 31 _ (0, 0) _ rfl (newRec_end HK.out) Try.underlying31 rfl (by kernel_rfl)) rfl ?_
    exact ⟨none, 0, rfl, Or.inl rfl, newRec_below HC.out (Nat.le_refl _)⟩
  · go_wp2
    (try simp only [Exit.inBlock, Exit.then])
    refine bodyPost_ret (results_cell2 rfl _ _ w.heap.size 31 _ (0, 0) _ rfl (newRec_end HK.out) Try.underlying31 rfl (by kernel_rfl)) rfl ?_
    exact ⟨a', c', rfl, RowOwn.mono (B' := w.heap.size) (newRec_row HO.out hzz) (Nat.le_of_lt hz0), newRec_below HC.out (Nat.le_refl _)⟩
set_option maxHeartbeats 2000000 in
theorem specNewRecord (s k v : Int) (g o : Nat) (c : Nat) (l : List ByteArray) (w : World) (hr : RowAt fS w (some ⟨g, o, none⟩) l) (hl : l.length ≤ 1048576) (hs : Hid (∀ k (h : k < l.length), l[k].size ≤ 1048576)) :
    Calls Try.prog 22 #[.int .i64 s, .int .i64 k, .int .i64 v, .slice (some ⟨g, o, none⟩) l.length c] w (NewEnd w s k v l (validR s k v l)) := by
  obtain ⟨ok, hok⟩ : ∃ ok, validR s k v l = ok := ⟨_, rfl⟩
  rw [hok]
  have HV := Lib.hid hok; clear hok
  have f0 : l.length ≤ 9223372036854775807 := by omega
  obtain ⟨W0, hW0⟩ : ∃ W0, W0 = w.alloc (.cells #[.int .i64 0, .int .i64 0, .int .i64 0, .slice none 0 0] 31) := ⟨_, rfl⟩
  have hk0 : W0.heap[w.heap.size]? = some (.cells #[.int .i64 0, .int .i64 0, .int .i64 0, .slice none 0 0] 31) := by rw [hW0]; exact Go.Deep.blk_alloc_new _ _
  have c0 : Below w.heap.size w W0 := by rw [hW0]; exact (Below.refl _ _).alloc (Nat.le_refl _) _
  have hz0 : w.heap.size < W0.heap.size := by rw [hW0]; simp
  have hsz : W0.heap.size = w.heap.size + 1 := by rw [hW0]; simp
  have HE : BldG fS 9 (w.heap.size + 1) W0 (W0.alloc (.cells #[] 9)) (.slice (some ⟨w.heap.size + 1, 0, none⟩) 0 0) [] := by have := BldG.empty fS 9 W0; rwa [hsz] at this
  have HSZ := Lib.hid hsz; clear hsz
  have HK0 := Lib.hid hk0
  have HR := Lib.hid (hr.below c0)
  clear hk0 hr
  go_enter Try.func22, Try.ntmps22
  go_wp2_with (at_builtin; rw [← hW0]; clear hW0; refine wpList_addG rfl _ _ 22 rfl _ _ Try.underlying22 _ _ infoS rfl fS_one _ _ rfl HE ⟨g, o, none⟩ l.length c l rfl rfl ?_ ?_ ?_ ?_; (exact (HR.out.below ((Below.refl _ _).alloc (Nat.le_refl _) _)).news); (simp; omega); (simp; omega); intro v1 w1 hB; rw [List.nil_append, ← HSZ.out] at hB; obtain ⟨a', c', rfl⟩ := hB.form)
  have hb1 := hB.bel
  have c1 := c0.trans (hb1.mono c0.size)
  have hz1 : W0.heap.size ≤ w1.heap.size := hb1.size
  have hk1 := (hb1.block w.heap.size hz0).trans HK0.out
  have ho1 := hB.row
  clear hb1 hB HR HK0
  obtain ⟨W2, hW2⟩ : ∃ W2, W2 = w1.alloc (.cells #[.int .i64 s, .int .i64 k, .int .i64 v, .slice a' l.length c'] 31) := ⟨_, rfl⟩
  have c2 : Below w.heap.size w W2 := by rw [hW2]; exact c1.alloc c1.size _
  have b2 : Below w1.heap.size w1 W2 := by rw [hW2]; exact (Below.refl _ _).alloc (Nat.le_refl _) _
  have hk2 := (b2.block w.heap.size (by omega)).trans hk1
  have hr2 : W2.heap[w1.heap.size]? = some (.cells #[.int .i64 s, .int .i64 k, .int .i64 v, .slice a' l.length c'] 31) := by rw [hW2]; exact Go.Deep.blk_alloc_new _ _
  have hz2 : w1.heap.size < W2.heap.size := by rw [hW2]; simp
  have ho2 := ho1.below b2
  clear hk1 ho1 b2
  go_wp2_with fail
  rw [← hW2]
  clear hW2
  refine (specValid s k v a' c' l W2 ho2.at (by omega) hs).mono ?_
  rintro e w3 ⟨rfl, b3⟩
  rw [HV.out]
  have c3 := c2.trans (b3.mono c2.size)
  have hk3 := (b3.block w.heap.size (by omega)).trans hk2
  have hr3 := (b3.block w1.heap.size (by omega)).trans hr2
  have ho3 := ho2.below b3
  clear hk2 hr2 ho2 b3 c2
  obtain ⟨⟨p0, p1, p2, p3⟩, pf⟩ := blk_facts hk3
  obtain ⟨⟨t0, t1, t2, t3⟩, tf⟩ := blk_facts hr3
  have HK := Lib.hid hk3
  have HO := Lib.hid ho3
  have HC := Lib.hid c3
  have hne : w.heap.size ≠ w1.heap.size := by omega
  have hzz : w.heap.size < W0.heap.size := hz0
  clear hk3 hr3 ho3 c3
  cases ok
  · go_wp2
    (try simp only [Exit.inBlock, Exit.then])
    refine bodyPost_ret (results_cell2 rfl _ _ w.heap.size 31 _ (0, 0) _ rfl (newRec_end HK.out) Try.underlying31 rfl (by kernel_rfl)) rfl ?_
    exact ⟨none, 0, rfl, Or.inl rfl, newRec_below HC.out (Nat.le_refl _)⟩
  · go_wp2
    (try simp only [Exit.inBlock, Exit.then])
    refine bodyPost_ret (results_cell2 rfl _ _ w.heap.size 31 _ (0, 0) _ rfl (newRec_end HK.out) Try.underlying31 rfl (by kernel_rfl)) rfl ?_
    exact ⟨a', c', rfl, RowOwn.mono (B' := w.heap.size) (newRec_row HO.out hzz) (Nat.le_of_lt hz0), newRec_below HC.out (Nat.le_refl _)⟩
end Go.Proofs.Ytebfjikgececlaa

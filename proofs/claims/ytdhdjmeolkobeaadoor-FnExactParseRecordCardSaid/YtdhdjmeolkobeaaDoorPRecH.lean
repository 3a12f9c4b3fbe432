/-
  Helpers for the walk of spec.ParseRecord: its plain laws, a record put into its block. No condition.
-/
import Derived.Test.YtdhdjmeolkobeaaDoorPRec4
namespace Go.Proofs.YtdhdjmeolkobeaaDoor
open Go.RowKit Go.Sort
set_option linter.unusedVariables false
set_option linter.unusedSimpArgs false
theorem spF_small {S : List UInt8} (h : S.length ≤ 1048576) : (spF S).length ≤ 1048576 ∧ ∀ k (hk : k < (spF S).length), (spF S)[k].size ≤ 1048576 := by
  have h2 := cutP_len 124 S []
  refine ⟨by unfold spF parts; rw [List.length_map, List.length_tail]; omega, fun k hk => ?_⟩
  have hm : (spF S)[k] ∈ spF S := List.getElem_mem _
  unfold spF at hm
  obtain ⟨y, hy, e⟩ := List.mem_map.1 hm
  have h3 := cutP_size 124 _ _ y (List.mem_of_mem_tail hy)
  have h4 : (spF S)[k].size = y.length := by
    show ((parts 124 S).tail.map bstr)[k].size = _
    rw [← e, bstr_size]
  rw [h4]; simp at h3; omega
theorem parts_small {c : UInt8} {S : List UInt8} : ∀ w ∈ parts c S, w.length ≤ S.length := by
  intro w hw
  have := cutP_size c S [] w hw
  simpa using this
theorem tail_ext (A : ByteArray) : (A.extract 1 A.size).data.toList = A.data.toList.tail := by
  rw [extract_bstr, bstr_list, List.take_of_length_le (by rw [List.length_drop, dlen]; omega)]
  simp
theorem spec_no {S : List UInt8} {P : List (List UInt8)} (hP : parts 46 (prX S) = P) (h : P.length ≠ 2 ∨ ∃ a b, P = [a, b] ∧ (a.length < 2 ∨ fname (((a.headD 0).toNat : Int) - 97) (pV a.tail) (pV b) (spF S) ≠ S)) : ∀ s k v l, ¬ Hit S s k v l := by
  intro s k v l hh
  obtain ⟨e1, e2, e3, e4, e5, e6⟩ := spec_hit hh
  rw [hP] at e1
  rcases h with h | ⟨a, b, e, h⟩
  · rw [e1] at h; exact h rfl
  · rw [e1] at e
    injection e with ea eb
    injection eb with eb _
    subst ea eb
    rcases h with h | h
    · omega
    · apply h
      rw [e4, e5, e3]
      have : (((oname s k).headD 0).toNat : Int) - 97 = s := e6
      rw [this]; exact hh.2
theorem drew_heap (w : World) : w.drew.heap = w.heap := rfl
theorem alloc_heap (w : World) (o : Obj) : (w.alloc o).heap = w.heap.push o := rfl
theorem row_far {w W : World} {B R : Nat} {n : Int} {a : Option Addr} {l : List ByteArray} (h : RowOwn fS B w a l) (hc : w.cell? ⟨R, 0, none⟩ = some (.int .i64 n)) (hb : ∀ i, i ≠ R → W.heap[i]? = w.heap[i]?) : RowOwn fS B W a l := by
  match l, h with
  | [], _ => exact Or.inl rfl
  | y :: r, h =>
    rcases h with h | ⟨b, rfl, h2, h3⟩
    · cases h
    · refine Or.inr ⟨b, rfl, h2, fun i x hx => ?_⟩
      have h0 := (h3 0 y rfl).1
      have hne : b ≠ R := by
        rintro rfl
        have : some (Value.int .i64 n) = some (fS y) := hc.symm.trans h0
        cases this
      have e := hb b hne
      exact ⟨(World.cell?_of_block (a := ⟨b, i, none⟩) e).trans (h3 i x hx).1, (World.frozen?_of_block (a := ⟨b, i, none⟩) e).trans (h3 i x hx).2⟩
/-- A record is written into its block: the block, a row of strings, and what lay below. -/
theorem rec_put {w0 W : World} {B R : Nat} {e : TypeId} {s k v : Int} {a : Option Addr} {n c : Nat} {s0 k0 v0 : Int} {a0 : Option Addr} {n0 c0 : Nat} {a' : Option Addr} {l : List ByteArray}
    (h : W.heap[R]? = some (.cells #[.int .i64 s0, .int .i64 k0, .int .i64 v0, .slice a0 n0 c0] e)) (hB : B ≤ R) (hb : Below B w0 W) (hr : RowOwn fS B W a' l) :
    ∃ W', W' = ((((W.setCell ⟨R, 0, none⟩ (.int .i64 s)).setCell ⟨R, 1, none⟩ (.int .i64 k)).setCell ⟨R, 2, none⟩ (.int .i64 v)).setCell ⟨R, 3, none⟩ (.slice a n c)) ∧
      W'.heap[R]? = some (.cells #[.int .i64 s, .int .i64 k, .int .i64 v, .slice a n c] e) ∧ Below B w0 W' ∧ RowOwn fS B W' a' l ∧ W'.heap.size = W.heap.size := by
  refine ⟨_, rfl, newRec_end h, newRec_below hb hB, ?_, by simp⟩
  refine row_far hr (blk_facts h).1.c0 fun i hi => ?_
  rw [heap_setCell_other _ _ _ _ (by exact hi), heap_setCell_other _ _ _ _ (by exact hi), heap_setCell_other _ _ _ _ (by exact hi), heap_setCell_other _ _ _ _ (by exact hi)]
/-- What a call of its own memory keeps: the frame, and one cell. -/
theorem keepS {w4 W : World} {b o : Nat} {A : ByteArray} (h0 : w4.cell? ⟨b, o, none⟩ = some (.string A)) (hb : Below w4.heap.size w4 W) : Below w4.heap.size w4 W ∧ W.cell? ⟨b, o, none⟩ = some (.string A) :=
  ⟨hb, (hb.cell (World.block_lt_of_cell? w4 _ h0)).trans h0⟩
end Go.Proofs.YtdhdjmeolkobeaaDoor

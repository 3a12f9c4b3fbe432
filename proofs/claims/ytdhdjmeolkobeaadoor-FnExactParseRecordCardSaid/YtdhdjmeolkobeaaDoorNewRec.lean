/-
  Walks of NewRecord (program and reference). Condition: the fields have at most 2^20 bytes.
-/
import Derived.Test.YtdhdjmeolkobeaaDoorValid
import Derived.Test.YtdhdjmeolkobeaaDoorSeqMore
namespace Go.Proofs.YtdhdjmeolkobeaaDoor
open Go.RowKit
set_option linter.unusedVariables false
set_option linter.unusedSimpArgs false
set_option maxRecDepth 100000
def selI (b : Bool) (x : Int) : Int := if b then x else 0
def selL (b : Bool) (l : List ByteArray) : List ByteArray := if b then l else []
def NewEnd (w : World) (s k v : Int) (l : List ByteArray) (ok : Bool) (e : Ending) (w' : World) : Prop :=
  ∃ a c, e = .returned (.tuple #[recV (selI ok s) (selI ok k) (selI ok v) a (selL ok l).length c, .bool ok]) ∧ RowOwn fS w.heap.size w' a (selL ok l) ∧ Below w.heap.size w w'
/-- What was written into the result's block. -/
theorem newRec_end {W : World} {g : Nat} {e : TypeId} {s k v : Int} {a : Option Addr} {n c : Nat} {s0 k0 v0 : Int} {a0 : Option Addr} {n0 c0 : Nat} (h : W.heap[g]? = some (.cells #[.int .i64 s0, .int .i64 k0, .int .i64 v0, .slice a0 n0 c0] e)) :
    ((((W.setCell ⟨g, 0, none⟩ (.int .i64 s)).setCell ⟨g, 1, none⟩ (.int .i64 k)).setCell ⟨g, 2, none⟩ (.int .i64 v)).setCell ⟨g, 3, none⟩ (.slice a n c)).heap[g]? = some (.cells #[.int .i64 s, .int .i64 k, .int .i64 v, .slice a n c] e (0, 0)) := by
  have h1 := heap_setCell_same _ _ 0 _ _ (.int .i64 s) h
  have h2 := heap_setCell_same _ _ 1 _ _ (.int .i64 k) h1
  have h3 := heap_setCell_same _ _ 2 _ _ (.int .i64 v) h2
  exact heap_setCell_same _ _ 3 _ _ (.slice a n c) h3
theorem newRec_row {W : World} {B g : Nat} {s k v : Int} {a : Option Addr} {n c : Nat} {a' : Option Addr} {l : List ByteArray} (h : RowOwn fS B W a' l) (hg : g < B) :
    RowOwn fS B ((((W.setCell ⟨g, 0, none⟩ (.int .i64 s)).setCell ⟨g, 1, none⟩ (.int .i64 k)).setCell ⟨g, 2, none⟩ (.int .i64 v)).setCell ⟨g, 3, none⟩ (.slice a n c)) a' l :=
  (((h.setOther (by exact hg) _).setOther (by exact hg) _).setOther (by exact hg) _).setOther (by exact hg) _
theorem newRec_below {w W : World} {B g : Nat} {s k v : Int} {a : Option Addr} {n c : Nat} (h : Below B w W) (hg : B ≤ g) :
    Below B w ((((W.setCell ⟨g, 0, none⟩ (.int .i64 s)).setCell ⟨g, 1, none⟩ (.int .i64 k)).setCell ⟨g, 2, none⟩ (.int .i64 v)).setCell ⟨g, 3, none⟩ (.slice a n c)) :=
  (((h.setCell (by exact hg) _).setCell (by exact hg) _).setCell (by exact hg) _).setCell (by exact hg) _
/-- A block known whole, read cell by cell. -/
theorem blk_facts {W : World} {g : Nat} {e : TypeId} {s k v : Int} {a : Option Addr} {n c : Nat} (h : W.heap[g]? = some (.cells #[.int .i64 s, .int .i64 k, .int .i64 v, .slice a n c] e)) :
    RecAt W g s k v a n c ∧ ∀ i, W.frozen? ⟨g, i, none⟩ = false :=
  ⟨⟨by simp [World.cell?, h], by simp [World.cell?, h], by simp [World.cell?, h], by simp [World.cell?, h]⟩, fun i => by simp [World.frozen?, h]⟩
end Go.Proofs.YtdhdjmeolkobeaaDoor

/-
  Walks of the laws' marks on a record: markRecord, heldRecord. Condition: at most 2^20 fields.
-/
import Derived.Test.YtdhdjmeolkobeaaDoorMark
import Derived.Test.YtdhdjmeolkobeaaDoorOpenRec
namespace Go.Proofs.YtdhdjmeolkobeaaDoor
open Go.RowKit
set_option linter.unusedVariables false
set_option linter.unusedSimpArgs false
theorem RecAt.only {w w' : World} {b : Nat} {s k v : Int} {a : Option Addr} {n c lo hi : Nat} (h : RecAt w b s k v a n c) (ho : Only lo hi w w') (hb : b < lo ∨ hi ≤ b) : RecAt w' b s k v a n c := by
  have e := ho.block b (World.block_lt_of_cell? w _ h.c0) hb
  exact ⟨(World.cell?_of_block (a := ⟨b, 0, none⟩) e).trans h.c0, (World.cell?_of_block (a := ⟨b, 1, none⟩) e).trans h.c1, (World.cell?_of_block (a := ⟨b, 2, none⟩) e).trans h.c2, (World.cell?_of_block (a := ⟨b, 3, none⟩) e).trans h.c3⟩
set_option maxHeartbeats 800000 in
theorem markRecord_any {lo hi : Nat} (s k v : Int) (a : Option Addr) (c : Nat) (l : List ByteArray) (m : Nat) (w : World) (hrow : RowIn fS lo hi w a l) (hh : hi ≤ w.heap.size) (h1 : 1 ≤ m) (h2 : m + l.length ≤ 10000000) :
    Calls Tryd.prog 23 #[recV s k v a l.length c, .int .i64 m] w fun e w' => e = .returned (.int .i64 ((m + l.length : Nat) : Int)) ∧ RowIn fS lo hi w' a (marks m l.length) ∧ Only lo hi w w' := by
  (try unfold recV)
  have hB : Below w.heap.size w (w.alloc (.cells #[.int .i64 s, .int .i64 k, .int .i64 v, .slice a l.length c] 27)) := (Below.refl _ _).alloc (Nat.le_refl _) _
  have hrow2 := hrow.below hB
  have HB := Lib.hid hB; clear hB
  go_enter Tryd.func23, Tryd.ntmps23
  go_wp2_with (go_at_call 28; refine (markStringS_any a c l m _ hrow2 h1 h2).mono ?_; rintro e w' ⟨rfl, hr, ho⟩)
  go_ret
  exact ⟨rfl, hr, (Only.ofBelow HB.out).trans ho⟩
set_option maxHeartbeats 800000 in
theorem heldRecord_any (s k v : Int) (a : Option Addr) (n c : Nat) (m : Nat) (w : World) (hrow : RowAt fS w a (marks m n)) (h1 : 1 ≤ m) (h2 : m + n ≤ 10000000) :
    Calls Tryd.prog 24 #[recV s k v a n c, .int .i64 m] w fun e w' => e = .returned (.int .i64 ((m + n : Nat) : Int)) ∧ Below w.heap.size w w' := by
  (try unfold recV)
  have hB : Below w.heap.size w (w.alloc (.cells #[.int .i64 s, .int .i64 k, .int .i64 v, .slice a n c] 27)) := (Below.refl _ _).alloc (Nat.le_refl _) _
  have hrow2 := hrow.below hB
  have HB := Lib.hid hB; clear hB
  have d0 : decide (((m + n : Nat) : Int) < 0) = false := by simp; omega
  go_enter Tryd.func24, Tryd.ntmps24
  go_wp2_with (go_at_call 29; refine (heldStringS_any a c n m _ hrow2 h1 h2).mono ?_; rintro e w' ⟨rfl, hb⟩)
  go_ret
  exact ⟨rfl, HB.out.trans (hb.mono HB.out.size)⟩
end Go.Proofs.YtdhdjmeolkobeaaDoor

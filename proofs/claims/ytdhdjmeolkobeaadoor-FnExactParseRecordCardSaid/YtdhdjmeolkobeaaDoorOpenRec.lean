/-
  Plain helpers: what is known of a record that comes in as an argument of a law. No condition.
-/
import Derived.Test.YtdhdjmeolkobeaaDoorOpen
import Derived.Test.YtdhdjmeolkobeaaDoorRecord
import Derived.Lib.SmallJoins
namespace Go.Proofs.YtdhdjmeolkobeaaDoor
open Go.ChangeShapes Go.WideShapes Go.ChangeAt Go.RowKit
set_option linter.unusedVariables false
set_option linter.unusedSimpArgs false
set_option maxRecDepth 100000
theorem open_rec {H : Type} {enc : TypeId × Value → H} {w : World} {base b0 : Nat} {spare : Nat → Bool} {held : Bool} {r : Reach} {v : Value} {d : DataW H} {ps : List MemPlace}
    (hv : Value.okWide Tryd.prog w r b0 24 v) (h : DataW.Trod enc Tryd.prog w base spare held 24 v d ps) :
    ∃ s k n a len cap l, v = recV s k n a len cap ∧ ArgS w a len l := by
  obtain ⟨v0, v1, v2, v3, y0, y1, y2, y3, n, rfl, -, -, t0, t1, t2, t3⟩ := Joins.open_agg4 Tryd.underlying24 (by kernel_rfl) (by kernel_rfl) hv h
  obtain ⟨z0, e0, -⟩ := DataW.trod_int Tryd.underlying3 t0
  obtain ⟨z1, e1, -⟩ := DataW.trod_int Tryd.underlying3 t1
  obtain ⟨z2, e2, -⟩ := DataW.trod_int Tryd.underlying3 t2
  simp only [List.cons.injEq, and_true] at e0 e1 e2
  subst e0; subst e1; subst e2
  have hsl : ∃ a len cap, v3 = .slice a len cap := by
    rcases open_strings (P := Tryd.prog) Tryd.underlying22 Tryd.underlying9 (by kernel_rfl) t3 with ⟨hcs, _⟩ | ⟨x, l, c, ss, hcs, hx⟩
    · simp only [List.cons.injEq, and_true] at hcs; exact ⟨_, _, _, hcs⟩
    · simp only [List.cons.injEq, and_true] at hcs; exact ⟨_, _, _, hcs⟩
  obtain ⟨a, len, cap, rfl⟩ := hsl
  have hT : DataW.Trod enc Tryd.prog w base spare held 22 (.slice a len cap) y3.1 y3.2 := ⟨n, by simpa [Value.cells] using t3⟩
  obtain ⟨l, hl⟩ := open_strs_is (P := Tryd.prog) Tryd.underlying22 Tryd.underlying9 (by kernel_rfl) hT
  exact ⟨z0, z1, z2, a, len, cap, l, rfl, hl⟩
/-- Block b holds a record. -/
structure RecAt (w : World) (b : Nat) (s k v : Int) (a : Option Addr) (n c : Nat) : Prop where
  c0 : w.cell? ⟨b, 0, none⟩ = some (.int .i64 s)
  c1 : w.cell? ⟨b, 1, none⟩ = some (.int .i64 k)
  c2 : w.cell? ⟨b, 2, none⟩ = some (.int .i64 v)
  c3 : w.cell? ⟨b, 3, none⟩ = some (.slice a n c)
theorem RecAt.below {w w' : World} {b : Nat} {s k v : Int} {a : Option Addr} {n c : Nat} (h : RecAt w b s k v a n c) (hb : Below w.heap.size w w') : RecAt w' b s k v a n c :=
  ⟨(hb.cell (World.block_lt_of_cell? w _ h.c0)).trans h.c0, (hb.cell (World.block_lt_of_cell? w _ h.c1)).trans h.c1, (hb.cell (World.block_lt_of_cell? w _ h.c2)).trans h.c2, (hb.cell (World.block_lt_of_cell? w _ h.c3)).trans h.c3⟩
theorem RecAt.new (w : World) (s k v : Int) (a : Option Addr) (n c : Nat) (e : TypeId) : RecAt (w.alloc (.cells #[.int .i64 s, .int .i64 k, .int .i64 v, .slice a n c] e)) w.heap.size s k v a n c :=
  ⟨by simp, by simp, by simp, by simp⟩
end Go.Proofs.YtdhdjmeolkobeaaDoor

/-
  Plain helpers: a table of rows of ints in new memory, one block a row. No condition.
-/
import Derived.Test.YtoijjielnbcphaaRegion
import Derived.Test.YtoijjielnbcphaaEditLaw
import Derived.Deep.OwnRows
namespace Go.Proofs.Ytoijjielnbcphaa
open Go.RowKit
set_option linter.unusedVariables false
set_option linter.unusedSimpArgs false
set_option maxRecDepth 100000

def fTop (N R c : Nat) : Nat → Value := fun j => if j < c then .slice (some ⟨N + 1 + j, 0, none⟩) R R else .slice none 0 0
structure TabO (w wr : World) (R C c : Nat) (Z : Nat → Nat → Nat) : Prop where
  bel : Below w.heap.size w wr
  size : wr.heap.size = w.heap.size + 1 + c
  top : wr.rowIs w.heap.size 46 R (fTop w.heap.size C c)
  done : ∀ j, j < c → wr.rowIs (w.heap.size + 1 + j) 3 C (fun r => .int .i64 (Z j r))
structure TabI (w wi : World) (R C c : Nat) (Z : Nat → Nat → Nat) (f : Nat → Value) : Prop where
  bel : Below w.heap.size w wi
  size : wi.heap.size = w.heap.size + 1 + c + 1
  top : wi.rowIs w.heap.size 46 R (fTop w.heap.size C (c + 1))
  done : ∀ j, j < c → wi.rowIs (w.heap.size + 1 + j) 3 C (fun r => .int .i64 (Z j r))
  cur : wi.rowIs (w.heap.size + 1 + c) 3 C f
/-- What the call hands back: the table. -/
def IsTab (w : World) (T R C : Nat) (Z : Nat → Nat → Nat) : Prop :=
  ∀ i, i < R → ∃ g, w.cell? ⟨T, i, none⟩ = some (.slice (some ⟨g, 0, none⟩) C C) ∧ ∀ j, j < C → w.cell? ⟨g, j, none⟩ = some (.int .i64 (Z i j))
section
variable {w wr wi : World} {R C c : Nat} {Z : Nat → Nat → Nat} {f : Nat → Value}
theorem tabO_start (w : World) (R C : Nat) (Z : Nat → Nat → Nat) : TabO w (w.alloc (.cells (madeCells #[.slice none 0 0] R) 46)) R C 0 Z :=
  ⟨(Below.refl _ _).alloc (Nat.le_refl _) _, by simp, (World.rowIs_made w _ R _).congr (fun j _ => by simp [fTop]), fun j hj => absurd hj (Nat.not_lt_zero _)⟩
theorem tabI_start (h : TabO w wr R C c Z) :
    TabI w ((wr.alloc (.cells (madeCells #[.int .i64 0] C) 3)).setCell ⟨w.heap.size, c, none⟩ (.slice (some ⟨w.heap.size + 1 + c, 0, none⟩) C C)) R C c Z (fun _ => .int .i64 0) := by
  have hnew := World.rowIs_made wr (.int .i64 0) C 3
  rw [h.size] at hnew
  refine ⟨(h.bel.alloc (by rw [h.size]; omega) _).setCell (Nat.le_refl _) _, by simp [h.size], ((h.top.alloc _).set c _).congr (fun j _ => ?_), fun j hj => ((h.done j hj).alloc _).setOther (by show w.heap.size + 1 + j ≠ w.heap.size; omega) _,
    (hnew.setOther (by show w.heap.size + 1 + c ≠ w.heap.size; omega) _).congr (fun i _ => by simp)⟩
  simp only [fTop]
  by_cases e : j = c
  · subst e; simp
  · rw [if_neg e]
    by_cases hlt : j < c
    · rw [if_pos hlt, if_pos (by omega)]
    · rw [if_neg hlt, if_neg (by omega)]
theorem TabI.set (h : TabI w wi R C c Z f) (r : Nat) (v : Value) : TabI w (wi.setCell ⟨w.heap.size + 1 + c, r, none⟩ v) R C c Z (fun j => if j = r then v else f j) :=
  ⟨h.bel.setCell (by show w.heap.size ≤ w.heap.size + 1 + c; omega) _, by simp [h.size], h.top.setOther (by show w.heap.size ≠ w.heap.size + 1 + c; omega) _,
    fun j hj => (h.done j hj).setOther (by show w.heap.size + 1 + j ≠ w.heap.size + 1 + c; omega) _, h.cur.set r _⟩
theorem TabI.drew (h : TabI w wi R C c Z f) : TabI w wi.drew R C c Z f := ⟨h.bel.drew, h.size, h.top.drew, fun j hj => (h.done j hj).drew, h.cur.drew⟩
theorem TabI.drewN (h : TabI w wi R C c Z f) (k : Nat) : TabI w (wi.drewN k) R C c Z f := by
  have e : (wi.drewN k).heap = wi.heap := rfl
  refine ⟨h.bel.trans ((below_drewN _ _).mono (by have := h.size; omega)), h.size, h.top.of_block rfl, fun j hj => (h.done j hj).of_block rfl, h.cur.of_block rfl⟩
theorem TabI.close (h : TabI w wi R C c Z f) (hf : ∀ r, r < C → f r = .int .i64 (Z c r)) : TabO w wi R C (c + 1) Z :=
  ⟨h.bel, by rw [h.size]; omega, h.top, fun j hj => by
    by_cases e : j = c
    · subst e; exact h.cur.congr hf
    · exact h.done j (by omega)⟩
theorem TabO.tab (h : TabO w wr R C R Z) : IsTab wr w.heap.size R C Z := fun i hi =>
  ⟨w.heap.size + 1 + i, by rw [h.top.cell hi]; simp [fTop, hi], fun j hj => (h.done i hi).cell hj⟩
/-- The cell of the outer block at i ≤ c. -/
theorem TabI.head (h : TabI w wi R C c Z f) {i : Nat} (hi : i < R) (hc : i ≤ c) : wi.cell? ⟨w.heap.size, i, none⟩ = some (.slice (some ⟨w.heap.size + 1 + i, 0, none⟩) C C) := by
  rw [h.top.cell hi]; simp only [fTop]; rw [if_pos (by omega)]
theorem TabI.cell (h : TabI w wi R C c Z f) {i j : Nat} (hi : i < c) (hj : j < C) : wi.cell? ⟨w.heap.size + 1 + i, j, none⟩ = some (.int .i64 (Z i j)) := (h.done i hi).cell hj
end
theorem bget (s : ByteArray) (i : Nat) (h : i < s.size) : s[i] = s.data.toList.getD i 0 := by
  have h2 : i < s.data.toList.length := by simpa using h
  simp only [List.getD, List.getElem?_eq_getElem h2]; rfl
theorem bytesEq {a b : ByteArray} {p q : Nat} (hp : p < a.size) (hq : q < b.size) (h : a.data.toList.getD p 0 = b.data.toList.getD q 0) : ((a[p].toNat : Int) == (b[q].toNat : Int)) = true := by
  rw [bget a p hp, bget b q hq, h]; simp
theorem bytesNe {a b : ByteArray} {p q : Nat} (hp : p < a.size) (hq : q < b.size) (h : ¬ a.data.toList.getD p 0 = b.data.toList.getD q 0) : ((a[p].toNat : Int) == (b[q].toNat : Int)) = false := by
  rw [bget a p hp, bget b q hq, beq_eq_false_iff_ne]
  intro e; exact h (UInt8.toNat_inj.1 (by omega))
theorem swap_all {sw : Bool} {a b : List UInt8} {p q : Nat} (h1 : sw = true) (h2 : 1 ≤ p) (h3 : 1 ≤ q) (h4 : a.getD p 0 = b.getD (q - 1) 0) (h5 : a.getD (p - 1) 0 = b.getD q 0) : swapAt sw a b p q = true := by
  unfold swapAt; rw [h1, h4, h5]; simp [h2, h3]
theorem swap_n1 {sw : Bool} {a b : List UInt8} {p q : Nat} (h : ¬ a.getD p 0 = b.getD (q - 1) 0) : ¬ swapAt sw a b p q = true := by
  unfold swapAt; intro e; simp only [Bool.and_eq_true, beq_iff_eq] at e; exact h e.1.2
theorem swap_n2 {sw : Bool} {a b : List UInt8} {p q : Nat} (h : ¬ a.getD (p - 1) 0 = b.getD q 0) : ¬ swapAt sw a b p q = true := by
  unfold swapAt; intro e; simp only [Bool.and_eq_true, beq_iff_eq] at e; exact h e.2
theorem makeRow (C : Nat) (hC : C ≤ 2097152) (w : World) :
    (Instr.makeSlice 46 (.int .i64 (C : Int)) (.int .i64 (C : Int))).run Try.prog w = .ok (.slice (some ⟨w.heap.size, 0, none⟩) C C) (w.alloc (.cells (madeCells #[.int .i64 0] C) 3)) :=
  run_make_row' (P := Try.prog) 46 3 (.int .i64 0) 8 Try.underlying46 (by kernel_rfl) rfl .i64 .i64 C (by omega) (by omega) w
theorem makeTop (C : Nat) (hC : C ≤ 2097152) (w : World) :
    (Instr.makeSlice 47 (.int .i64 (C : Int)) (.int .i64 (C : Int))).run Try.prog w = .ok (.slice (some ⟨w.heap.size, 0, none⟩) C C) (w.alloc (.cells (madeCells #[.slice none 0 0] C) 46)) :=
  run_make_row' (P := Try.prog) 47 46 (.slice none 0 0) 24 Try.underlying47 (by kernel_rfl) rfl .i64 .i64 C (by omega) (by omega) w
end Go.Proofs.Ytoijjielnbcphaa

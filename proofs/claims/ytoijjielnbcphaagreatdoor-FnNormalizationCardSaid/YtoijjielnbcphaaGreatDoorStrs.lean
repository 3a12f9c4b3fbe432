/-
  Walks of the laws' small helpers on slices of strings: szStringS, toStringS, eqStringS. Condition: the slices' lengths are bounded as said.
-/
import Derived.Test.YtoijjielnbcphaaGreatDoorSeq
import Derived.Deep.QuietTactic
import Derived.BigQuiet
namespace Go.Proofs.YtoijjielnbcphaaGreatDoor
open Go.RowKit
set_option linter.unusedVariables false
set_option linter.unusedSimpArgs false

def sumS (l : List ByteArray) : Nat := (l.map (·.size)).sum
theorem sumS_append (a b : List ByteArray) : sumS (a ++ b) = sumS a + sumS b := by simp [sumS]
theorem sumS_take_succ (l : List ByteArray) (k : Nat) (h : k < l.length) : sumS (l.take (k + 1)) = sumS (l.take k) + l[k].size := by
  rw [List.take_succ_eq_append_getElem h, sumS_append]; simp [sumS]
theorem sumS_take_le (l : List ByteArray) (k : Nat) : sumS (l.take k) ≤ sumS l := by
  have h := congrArg sumS (List.take_append_drop k l)
  rw [sumS_append] at h
  omega
theorem sumS_ge {l : List ByteArray} {k : Nat} (h : k < l.length) : l[k].size ≤ sumS l := by
  have := sumS_take_le l (k + 1); rw [sumS_take_succ l k h] at this; omega
/-- What szStringS returns. -/
def szS (l : List ByteArray) (left : Int) : Int := if (l.length : Int) + sumS l ≤ left then left - (l.length + sumS l) else -1
theorem szS_no {l : List ByteArray} {left : Int} (h : left < (l.length : Int) + sumS l) : szS l left = -1 := by unfold szS; rw [if_neg (by omega)]
theorem szS_yes {l : List ByteArray} {left : Int} (h : (l.length : Int) + sumS l ≤ left) : szS l left = left - l.length - sumS l := by unfold szS; rw [if_pos h]; omega


/-- The first k of l, z behind. -/
def fillG {α : Type} (z : α) (l : List α) (k : Nat) : List α := l.take k ++ List.replicate (l.length - k) z
theorem fillG_zero {α : Type} (z : α) (l : List α) : fillG z l 0 = List.replicate l.length z := by simp [fillG]
theorem fillG_all {α : Type} (z : α) (l : List α) : fillG z l l.length = l := by simp [fillG]
theorem fillG_len {α : Type} (z : α) (l : List α) (k : Nat) (h : k ≤ l.length) : (fillG z l k).length = l.length := by simp [fillG]; omega
theorem fillG_succ {α : Type} (z : α) (l : List α) (k : Nat) (h : k < l.length) : (fillG z l k).set k l[k] = fillG z l (k + 1) := by
  unfold fillG
  rw [List.set_append_right _ _ (by simp; omega), List.take_succ_eq_append_getElem h, List.append_assoc]
  congr 1
  have e1 : k - (List.take k l).length = 0 := by simp; omega
  have e2 : l.length - k = (l.length - (k + 1)) + 1 := by omega
  rw [e1, e2, List.replicate_succ, List.set_cons_zero]
  simp
/-- Block g holds the list l from its head on, none of it frozen. -/
def LiesG {α : Type} (f : α → Value) (w : World) (g : Nat) (l : List α) : Prop := ∀ i x, l[i]? = some x → w.cell? ⟨g, i, none⟩ = some (f x) ∧ w.frozen? ⟨g, i, none⟩ = false
theorem LiesG.set {α : Type} {f : α → Value} {w : World} {g : Nat} {l : List α} (h : LiesG f w g l) (i : Nat) (hi : i < l.length) (c : α) : LiesG f (w.setCell ⟨g, i, none⟩ (f c)) g (l.set i c) := by
  intro j x hx
  have hj : j < l.length := by
    have := (List.getElem?_eq_some_iff.1 hx).1; rwa [List.length_set] at this
  refine ⟨?_, by rw [World.frozen?_setCell]; exact (h j _ (List.getElem?_eq_getElem hj)).2⟩
  by_cases e : i = j
  · subst e
    rw [World.cell?_setCell_same _ _ _ (h i _ (List.getElem?_eq_getElem hi)).1]
    rw [List.getElem?_set_self hi] at hx
    rw [Option.some.inj hx]
  · rw [World.cell?_setCell_other _ _ _ _ (by simp [e])]
    rw [List.getElem?_set_ne e] at hx
    exact (h j x hx).1
theorem LiesG.make {α : Type} {f : α → Value} (w : World) (e : TypeId) (n : Nat) (z : α) : LiesG f (w.alloc (.cells (madeCells #[f z] n) e)) w.heap.size (List.replicate n z) := by
  intro j x hx
  have hj := (List.getElem?_eq_some_iff.1 hx).1
  rw [List.length_replicate] at hj
  refine ⟨?_, World.frozen?_alloc_at _ _ _ _ rfl⟩
  rw [World.cell?_alloc_at _ _ _ _ rfl, ← Array.getElem?_toList, toList_madeCells_one]
  rw [List.getElem?_replicate, if_pos hj] at hx ⊢
  rw [Option.some.inj hx]
theorem LiesG.own {α : Type} {f : α → Value} {w : World} {g : Nat} {l : List α} (h : LiesG f w g l) {B : Nat} (hB : B ≤ g) : RowOwn f B w (some ⟨g, 0, none⟩) l := Or.inr ⟨g, rfl, hB, h⟩
theorem LiesG.some {α : Type} {f : α → Value} {w : World} {g : Nat} {l : List α} (h : LiesG f w g l) (k : Nat) (hk : k < l.length) : (∃ v, w.cell? ⟨g, k, none⟩ = some v) ∧ w.frozen? ⟨g, k, none⟩ = false :=
  ⟨⟨_, (h k _ (List.getElem?_eq_getElem hk)).1⟩, (h k _ (List.getElem?_eq_getElem hk)).2⟩

theorem makeS (w : World) (n : Nat) (hn : n ≤ 17592186044416) :
    (Instr.makeSlice 27 (.int .i64 (n : Int)) (.int .i64 (n : Int))).run Tryz.prog w = .ok (.slice (some ⟨w.heap.size, 0, none⟩) n n) (w.alloc (.cells (madeCells #[fS ByteArray.empty] n) 9)) := by
  obtain ⟨i, hi0, h1, h2, h3⟩ := info_parts infoS
  have := run_make (P := Tryz.prog) w 27 9 i (.string .empty) Tryz.underlying27 hi0 h1 .i64 .i64 n n (by omega) (by omega) (by rw [h3]; omega) (by omega)
  rw [h2] at this
  simpa [Value.cells, fS] using this


theorem eq_of_take {α : Type} {l1 l2 : List α} (h : l1.length = l2.length) (ht : l1.take l1.length = l2.take l1.length) : l1 = l2 := by
  rw [List.take_length, h, List.take_length] at ht; exact ht
theorem take_succ_eq {α : Type} {l1 l2 : List α} {k : Nat} (h1 : k < l1.length) (h2 : k < l2.length) (ht : l1.take k = l2.take k) (he : l1[k] = l2[k]) : l1.take (k + 1) = l2.take (k + 1) := by
  rw [List.take_succ_eq_append_getElem h1, List.take_succ_eq_append_getElem h2, ht, he]
theorem ne_of_at {α : Type} [DecidableEq α] {l1 l2 : List α} {k : Nat} (h1 : k < l1.length) (h2 : k < l2.length) (he : l1[k] ≠ l2[k]) : decide (l1 = l2) = false := by
  apply decide_eq_false; intro h; subst h; exact he rfl
theorem beq_str (x y : ByteArray) : (x.toList == y.toList) = decide (x = y) := by
  rw [toList_eq, toList_eq, Bool.eq_iff_iff]
  simp only [beq_iff_eq, decide_eq_true_eq]
  constructor
  · intro h; apply ByteArray.ext; exact Array.toList_inj.1 h
  · intro h; rw [h]

set_option maxHeartbeats 1600000 in
theorem specEqualTokens (a1 a2 : Option Addr) (c1 c2 : Nat) (l1 l2 : List ByteArray) (w : World) (hr1 : RowAt fS w a1 l1) (hr2 : RowAt fS w a2 l2) (hl : l1.length ≤ 9223372036854775807) :
    Calls Tryz.prog 21 #[.slice a1 l1.length c1, .slice a2 l2.length c2] w fun e w' => e = .returned (.bool (decide (l1 = l2))) ∧ Below w.heap.size w w' := by
  by_cases hlen : l1.length = l2.length
  · have e1 : ((l1.length : Int) == (l2.length : Int)) = true := by simp [hlen]
    have e2 : ((l1.length : Int) != (l2.length : Int)) = false := by simp [hlen]
    have Hlen := Lib.hid hlen; clear hlen
    go_enter Tryz.func21, Tryz.ntmps21
    go_wp2
    go_loopw [5] (fun i wr => ∃ k : Nat, k ≤ l1.length ∧ i = .int .i64 k ∧ l1.take k = l2.take k ∧ Below w.heap.size w wr) (fun i _ => l1.length - (intOf i).toNat)
    case atStart => exact ⟨0, Nat.zero_le _, rfl, rfl, Below.refl _ _⟩
    case round =>
      obtain ⟨k, hk, rfl, ht, hb⟩ := hrel
      have Ht := Lib.hid ht; clear ht
      by_cases hlt : k < l1.length
      · have hlt2 : k < l2.length := by have := Hlen.out; omega
        obtain ⟨b1, o1, rfl, hc1⟩ := (hr1.below hb).cell k hlt
        obtain ⟨b2, o2, rfl, hc2⟩ := (hr2.below hb).cell k hlt2
        unfold fS at hc1 hc2
        have k1 : (k : Int) < (l1.length : Int) := by omega
        have k2 : (k : Int) < (l2.length : Int) := by omega
        by_cases he : l1[k] = l2[k]
        · have Hn := Lib.hid (take_succ_eq hlt hlt2 Ht.out he)
          rw [← he] at hc2
          obtain ⟨x, hx⟩ : ∃ x, x = l1[k] := ⟨_, rfl⟩
          rw [← hx] at hc1 hc2
          clear hx he
          go_wp2
          go_quiet (fail)
          go_wp2
          go_roundw
          case rel => exact ⟨k + 1, by omega, by go_num, Hn.out, hb.trans ((below_drewN _ _).mono hb.size)⟩
          case measure => simp [intOf]; omega
        · have Hn := Lib.hid (ne_of_at hlt hlt2 he)
          have hq : (l1[k].toList == l2[k].toList) = false := by rw [beq_str]; exact decide_eq_false he
          obtain ⟨x, hx⟩ : ∃ x, x = l1[k] := ⟨_, rfl⟩
          obtain ⟨y, hy⟩ : ∃ y, y = l2[k] := ⟨_, rfl⟩
          rw [← hx] at hc1 hq
          rw [← hy] at hc2 hq
          have hq2 : (x.toList != y.toList) = true := by rw [bne, hq]; rfl
          clear hx hy he
          go_wp2
          go_quiet (fail)
          go_wp2
          go_ret
          exact ⟨by rw [Hn.out]; rfl, hb.trans ((below_drewN _ _).mono hb.size)⟩
      · obtain rfl : k = l1.length := by omega
        have Hn : Hid (decide (l1 = l2) = true) := Lib.hid (decide_eq_true (eq_of_take Hlen.out Ht.out))
        go_wp2
        go_ret
        exact ⟨by rw [Hn.out]; rfl, hb⟩
  · have e1 : ((l1.length : Int) == (l2.length : Int)) = false := by simp; omega
    have e2 : ((l1.length : Int) != (l2.length : Int)) = true := by simp; omega
    have Hn : Hid (decide (l1 = l2) = false) := Lib.hid (decide_eq_false fun h => hlen (by rw [h]))
    clear hlen
    go_enter Tryz.func21, Tryz.ntmps21
    go_wp2
    go_ret
    exact ⟨by rw [Hn.out]; rfl, Below.refl _ _⟩
end Go.Proofs.YtoijjielnbcphaaGreatDoor

/-
  Walks of the laws' small helpers on slices of strings: szStringS, toStringS, eqStringS. Condition: the slices' lengths are bounded as said.
-/
import Derived.Test.YtdhdjmeolkobeaaDoorSeq
import Derived.Deep.QuietTactic
import Derived.BigQuiet
namespace Go.Proofs.YtdhdjmeolkobeaaDoor
open Go.RowKit
set_option linter.unusedVariables false
set_option linter.unusedSimpArgs false

def sumS (l : List ByteArray) : Nat := (l.map (·.size)).sum
theorem sumS_append (a b : List ByteArray) : sumS (a ++ b) = sumS a + sumS b := by simp [sumS]
theorem sumS_take_succ (l : List ByteArray) (k : Nat) (h : k < l.length) : sumS (l.take (k + 1)) = sumS (l.take k) + l[k].size := by
  rw [List.take_succ_eq_append_getElem h, sumS_append]; simp [sumS]
theorem sumS_take_le (l : List ByteArray) (k : Nat) : sumS (l.take k) ≤ sumS l := by
  have h := congrArg sumS (List.take_append_drop k l)
  rw [sumS_append] at h
  omega
theorem sumS_ge {l : List ByteArray} {k : Nat} (h : k < l.length) : l[k].size ≤ sumS l := by
  have := sumS_take_le l (k + 1); rw [sumS_take_succ l k h] at this; omega
/-- What szStringS returns. -/
def szS (l : List ByteArray) (left : Int) : Int := if (l.length : Int) + sumS l ≤ left then left - (l.length + sumS l) else -1
theorem szS_no {l : List ByteArray} {left : Int} (h : left < (l.length : Int) + sumS l) : szS l left = -1 := by unfold szS; rw [if_neg (by omega)]
theorem szS_yes {l : List ByteArray} {left : Int} (h : (l.length : Int) + sumS l ≤ left) : szS l left = left - l.length - sumS l := by unfold szS; rw [if_pos h]; omega

set_option maxHeartbeats 800000 in
theorem szStringS_any (a : Option Addr) (cap : Nat) (l : List ByteArray) (z : Int) (w : World) (hrow : RowAt fS w a l) (hl : l.length ≤ 9223372036854775807) (hs : ∀ k (h : k < l.length), l[k].size ≤ 9223372036854775807)
    (h0 : 0 ≤ z) (h1 : z ≤ 1048576) :
    Calls Tryd.prog 32 #[.slice a l.length cap, .int .i64 z] w fun e w' => e = .returned (.int .i64 (szS l z)) ∧ w = w' := by
  have Hs := Lib.hid hs; clear hs
  by_cases hn : z - (l.length : Int) < 0
  · have H : Hid (szS l z = -1) := Lib.hid (szS_no (by omega))
    go_enter Tryd.func32, Tryd.ntmps32
    go_wp2
    go_ret
    exact ⟨by rw [H.out]; rfl, rfl⟩
  · go_enter Tryd.func32, Tryd.ntmps32
    go_wp2
    go_loop [1, 5] (fun v i => ∃ k : Nat, k ≤ l.length ∧ i = .int .i64 k ∧ v = .int .i64 (z - l.length - sumS (l.take k)) ∧ 0 ≤ z - (l.length : Int) - sumS (l.take k)) (fun _ i => l.length - (intOf i).toNat)
    case atStart => exact ⟨0, Nat.zero_le _, rfl, by simp [sumS], by simp [sumS]; omega⟩
    case round =>
      obtain ⟨k, hk, rfl, rfl, hpos⟩ := hrel
      by_cases hlt : k < l.length
      · obtain ⟨b, off, rfl, hc⟩ := hrow.cell k hlt
        have hsz := Hs.out k hlt
        have hst := sumS_take_succ l k hlt
        have hge := sumS_take_le l (k + 1)
        obtain ⟨x, hx⟩ : ∃ x, x = l[k] := ⟨_, rfl⟩
        rw [← hx] at hc hsz hst
        obtain ⟨q, hq⟩ : ∃ q, q = sumS (l.take k) := ⟨_, rfl⟩
        rw [← hq] at hst hpos ⊢
        have hge2 : q + x.size ≤ sumS l := by omega
        have Hst := Lib.hid hst
        clear hq hx hst hge hrow
        unfold fS at hc
        by_cases hneg : z - (l.length : Int) - q - x.size < 0
        · have H : Hid (szS l z = -1) := Lib.hid (szS_no (by omega))
          go_wp2
          go_ret
          exact ⟨by rw [H.out]; rfl, rfl⟩
        · go_wp2
          go_round
          case rel => exact ⟨k + 1, by omega, by go_num, by rw [Hst.out]; go_num, by rw [Hst.out]; omega⟩
          case measure => simp [intOf]; omega
      · obtain rfl : k = l.length := by omega
        rw [List.take_length] at hpos
        have H := Lib.hid (szS_yes (l := l) (left := z) (by omega))
        rw [List.take_length]
        go_wp2
        go_ret
        exact ⟨by rw [H.out]; rfl, rfl⟩

/-- The first k of l, z behind. -/
def fillG {α : Type} (z : α) (l : List α) (k : Nat) : List α := l.take k ++ List.replicate (l.length - k) z
theorem fillG_zero {α : Type} (z : α) (l : List α) : fillG z l 0 = List.replicate l.length z := by simp [fillG]
theorem fillG_all {α : Type} (z : α) (l : List α) : fillG z l l.length = l := by simp [fillG]
theorem fillG_len {α : Type} (z : α) (l : List α) (k : Nat) (h : k ≤ l.length) : (fillG z l k).length = l.length := by simp [fillG]; omega
theorem fillG_succ {α : Type} (z : α) (l : List α) (k : Nat) (h : k < l.length) : (fillG z l k).set k l[k] = fillG z l (k + 1) := by
  unfold fillG
  rw [List.set_append_right _ _ (by simp; omega), List.take_succ_eq_append_getElem h, List.append_assoc]
  congr 1
  have e1 : k - (List.take k l).length = 0 := by simp; omega
  have e2 : l.length - k = (l.length - (k + 1)) + 1 := by omega
  rw [e1, e2, List.replicate_succ, List.set_cons_zero]
  simp
/-- Block g holds the list l from its head on, none of it frozen. -/
def LiesG {α : Type} (f : α → Value) (w : World) (g : Nat) (l : List α) : Prop := ∀ i x, l[i]? = some x → w.cell? ⟨g, i, none⟩ = some (f x) ∧ w.frozen? ⟨g, i, none⟩ = false
theorem LiesG.set {α : Type} {f : α → Value} {w : World} {g : Nat} {l : List α} (h : LiesG f w g l) (i : Nat) (hi : i < l.length) (c : α) : LiesG f (w.setCell ⟨g, i, none⟩ (f c)) g (l.set i c) := by
  intro j x hx
  have hj : j < l.length := by
    have := (List.getElem?_eq_some_iff.1 hx).1; rwa [List.length_set] at this
  refine ⟨?_, by rw [World.frozen?_setCell]; exact (h j _ (List.getElem?_eq_getElem hj)).2⟩
  by_cases e : i = j
  · subst e
    rw [World.cell?_setCell_same _ _ _ (h i _ (List.getElem?_eq_getElem hi)).1]
    rw [List.getElem?_set_self hi] at hx
    rw [Option.some.inj hx]
  · rw [World.cell?_setCell_other _ _ _ _ (by simp [e])]
    rw [List.getElem?_set_ne e] at hx
    exact (h j x hx).1
theorem LiesG.make {α : Type} {f : α → Value} (w : World) (e : TypeId) (n : Nat) (z : α) : LiesG f (w.alloc (.cells (madeCells #[f z] n) e)) w.heap.size (List.replicate n z) := by
  intro j x hx
  have hj := (List.getElem?_eq_some_iff.1 hx).1
  rw [List.length_replicate] at hj
  refine ⟨?_, World.frozen?_alloc_at _ _ _ _ rfl⟩
  rw [World.cell?_alloc_at _ _ _ _ rfl, ← Array.getElem?_toList, toList_madeCells_one]
  rw [List.getElem?_replicate, if_pos hj] at hx ⊢
  rw [Option.some.inj hx]
theorem LiesG.own {α : Type} {f : α → Value} {w : World} {g : Nat} {l : List α} (h : LiesG f w g l) {B : Nat} (hB : B ≤ g) : RowOwn f B w (some ⟨g, 0, none⟩) l := Or.inr ⟨g, rfl, hB, h⟩
theorem LiesG.some {α : Type} {f : α → Value} {w : World} {g : Nat} {l : List α} (h : LiesG f w g l) (k : Nat) (hk : k < l.length) : (∃ v, w.cell? ⟨g, k, none⟩ = some v) ∧ w.frozen? ⟨g, k, none⟩ = false :=
  ⟨⟨_, (h k _ (List.getElem?_eq_getElem hk)).1⟩, (h k _ (List.getElem?_eq_getElem hk)).2⟩

theorem makeS (w : World) (n : Nat) (hn : n ≤ 17592186044416) :
    (Instr.makeSlice 22 (.int .i64 (n : Int)) (.int .i64 (n : Int))).run Tryd.prog w = .ok (.slice (some ⟨w.heap.size, 0, none⟩) n n) (w.alloc (.cells (madeCells #[fS ByteArray.empty] n) 9)) := by
  obtain ⟨i, hi0, h1, h2, h3⟩ := info_parts infoS
  have := run_make (P := Tryd.prog) w 22 9 i (.string .empty) Tryd.underlying22 hi0 h1 .i64 .i64 n n (by omega) (by omega) (by rw [h3]; omega) (by omega)
  rw [h2] at this
  simpa [Value.cells, fS] using this

set_option maxHeartbeats 800000 in
theorem toStringS_any (a : Option Addr) (cap : Nat) (l : List ByteArray) (w : World) (hrow : RowAt fS w a l) (hl : l.length ≤ 1048576) :
    Calls Tryd.prog 35 #[.slice a l.length cap] w fun e w' => ∃ g, e = .returned (.slice (some ⟨g, 0, none⟩) l.length l.length) ∧ RowOwn fS w.heap.size w' (some ⟨g, 0, none⟩) l ∧ Below w.heap.size w w' := by
  have hmk := makeS w l.length (by omega)
  obtain ⟨W1, hW1⟩ : ∃ W1, W1 = w.alloc (.cells (madeCells #[fS ByteArray.empty] l.length) 9) := ⟨_, rfl⟩
  have hl0 : LiesG fS W1 w.heap.size (fillG ByteArray.empty l 0) := by rw [hW1, fillG_zero]; exact LiesG.make w 9 l.length ByteArray.empty
  have hbel : Below w.heap.size w W1 := by rw [hW1]; exact (Below.refl _ _).alloc (Nat.le_refl _) _
  have hsz : w.heap.size < W1.heap.size := by rw [hW1]; simp
  rw [← hW1] at hmk
  clear hW1
  go_enter Tryd.func35, Tryd.ntmps35
  go_wp2
  clear hmk
  go_loopw [4] (fun i wr => ∃ k : Nat, k ≤ l.length ∧ i = .int .i64 k ∧ LiesG fS wr w.heap.size (fillG ByteArray.empty l k) ∧ Below w.heap.size w wr ∧ w.heap.size < wr.heap.size) (fun i _ => l.length - (intOf i).toNat)
  case atStart => exact ⟨0, Nat.zero_le _, rfl, hl0, hbel, hsz⟩
  case round =>
    obtain ⟨k, hk, rfl, hlr, hbr, hzr⟩ := hrel
    clear hl0 hbel hsz
    by_cases hlt : k < l.length
    · obtain ⟨b, off, rfl, hc⟩ := (hrow.below hbr).cell k hlt
      have hlen := fillG_len ByteArray.empty l k hk
      obtain ⟨⟨c0, hc0⟩, hf⟩ := hlr.some k (by rw [hlen]; exact hlt)
      have Hset := Lib.hid (hlr.set k (by rw [hlen]; exact hlt) l[k])
      have Hsuc := Lib.hid (fillG_succ ByteArray.empty l k hlt)
      have Hb := Lib.hid (hbr.setCell (p := ⟨w.heap.size, k, none⟩) (Nat.le_refl _) (fS l[k]))
      obtain ⟨x, hx⟩ : ∃ x, x = l[k] := ⟨_, rfl⟩
      rw [← hx] at hc Hset Hsuc Hb
      clear hx hlen hlr hbr
      unfold fS at hc
      go_wp2
      go_roundw
      case rel => exact ⟨k + 1, by omega, by go_num, by rw [← Hsuc.out]; exact Hset.out, Hb.out, by simpa [World.setCell] using hzr⟩
      case measure => simp [intOf]; omega
    · obtain rfl : k = l.length := by omega
      have hro := hlr.own (Nat.le_refl _)
      rw [fillG_all] at hro
      clear hlr
      go_wp2
      go_ret
      exact ⟨_, rfl, hro, hbr⟩

theorem eq_of_take {α : Type} {l1 l2 : List α} (h : l1.length = l2.length) (ht : l1.take l1.length = l2.take l1.length) : l1 = l2 := by
  rw [List.take_length, h, List.take_length] at ht; exact ht
theorem take_succ_eq {α : Type} {l1 l2 : List α} {k : Nat} (h1 : k < l1.length) (h2 : k < l2.length) (ht : l1.take k = l2.take k) (he : l1[k] = l2[k]) : l1.take (k + 1) = l2.take (k + 1) := by
  rw [List.take_succ_eq_append_getElem h1, List.take_succ_eq_append_getElem h2, ht, he]
theorem ne_of_at {α : Type} [DecidableEq α] {l1 l2 : List α} {k : Nat} (h1 : k < l1.length) (h2 : k < l2.length) (he : l1[k] ≠ l2[k]) : decide (l1 = l2) = false := by
  apply decide_eq_false; intro h; subst h; exact he rfl
theorem beq_str (x y : ByteArray) : (x.toList == y.toList) = decide (x = y) := by
  rw [toList_eq, toList_eq, Bool.eq_iff_iff]
  simp only [beq_iff_eq, decide_eq_true_eq]
  constructor
  · intro h; apply ByteArray.ext; exact Array.toList_inj.1 h
  · intro h; rw [h]

set_option maxHeartbeats 1600000 in
theorem eqStringS_any (a1 a2 : Option Addr) (c1 c2 : Nat) (l1 l2 : List ByteArray) (w : World) (hr1 : RowAt fS w a1 l1) (hr2 : RowAt fS w a2 l2) (hl : l1.length ≤ 9223372036854775807) :
    Calls Tryd.prog 27 #[.slice a1 l1.length c1, .slice a2 l2.length c2] w fun e w' => e = .returned (.bool (decide (l1 = l2))) ∧ Below w.heap.size w w' := by
  by_cases hlen : l1.length = l2.length
  · have e1 : ((l1.length : Int) == (l2.length : Int)) = true := by simp [hlen]
    have e2 : ((l1.length : Int) != (l2.length : Int)) = false := by simp [hlen]
    have Hlen := Lib.hid hlen; clear hlen
    go_enter Tryd.func27, Tryd.ntmps27
    go_wp2
    go_loopw [5] (fun i wr => ∃ k : Nat, k ≤ l1.length ∧ i = .int .i64 k ∧ l1.take k = l2.take k ∧ Below w.heap.size w wr) (fun i _ => l1.length - (intOf i).toNat)
    case atStart => exact ⟨0, Nat.zero_le _, rfl, rfl, Below.refl _ _⟩
    case round =>
      obtain ⟨k, hk, rfl, ht, hb⟩ := hrel
      have Ht := Lib.hid ht; clear ht
      by_cases hlt : k < l1.length
      · have hlt2 : k < l2.length := by have := Hlen.out; omega
        obtain ⟨b1, o1, rfl, hc1⟩ := (hr1.below hb).cell k hlt
        obtain ⟨b2, o2, rfl, hc2⟩ := (hr2.below hb).cell k hlt2
        unfold fS at hc1 hc2
        have k1 : (k : Int) < (l1.length : Int) := by omega
        have k2 : (k : Int) < (l2.length : Int) := by omega
        by_cases he : l1[k] = l2[k]
        · have Hn := Lib.hid (take_succ_eq hlt hlt2 Ht.out he)
          rw [← he] at hc2
          obtain ⟨x, hx⟩ : ∃ x, x = l1[k] := ⟨_, rfl⟩
          rw [← hx] at hc1 hc2
          clear hx he
          go_wp2
          go_quiet (fail)
          go_wp2
          go_roundw
          case rel => exact ⟨k + 1, by omega, by go_num, Hn.out, hb.trans ((below_drewN _ _).mono hb.size)⟩
          case measure => simp [intOf]; omega
        · have Hn := Lib.hid (ne_of_at hlt hlt2 he)
          have hq : (l1[k].toList == l2[k].toList) = false := by rw [beq_str]; exact decide_eq_false he
          obtain ⟨x, hx⟩ : ∃ x, x = l1[k] := ⟨_, rfl⟩
          obtain ⟨y, hy⟩ : ∃ y, y = l2[k] := ⟨_, rfl⟩
          rw [← hx] at hc1 hq
          rw [← hy] at hc2 hq
          have hq2 : (x.toList != y.toList) = true := by rw [bne, hq]; rfl
          clear hx hy he
          go_wp2
          go_quiet (fail)
          go_wp2
          go_ret
          exact ⟨by rw [Hn.out]; rfl, hb.trans ((below_drewN _ _).mono hb.size)⟩
      · obtain rfl : k = l1.length := by omega
        have Hn : Hid (decide (l1 = l2) = true) := Lib.hid (decide_eq_true (eq_of_take Hlen.out Ht.out))
        go_wp2
        go_ret
        exact ⟨by rw [Hn.out]; rfl, hb⟩
  · have e1 : ((l1.length : Int) == (l2.length : Int)) = false := by simp; omega
    have e2 : ((l1.length : Int) != (l2.length : Int)) = true := by simp; omega
    have Hn : Hid (decide (l1 = l2) = false) := Lib.hid (decide_eq_false fun h => hlen (by rw [h]))
    clear hlen
    go_enter Tryd.func27, Tryd.ntmps27
    go_wp2
    go_ret
    exact ⟨by rw [Hn.out]; rfl, Below.refl _ _⟩
end Go.Proofs.YtdhdjmeolkobeaaDoor

/-
  Walks of the laws' small helpers on slices of ints: toIntS, eqIntS. Condition: the slices' lengths are bounded as said.
-/
import Derived.Test.YtnnfjikfpihojaaStrs
namespace Go.Proofs.Ytnnfjikfpihojaa
open Go.RowKit
set_option linter.unusedVariables false
set_option linter.unusedSimpArgs false

theorem makeI (w : World) (n : Nat) (hn : n ≤ 17592186044416) :
    (Instr.makeSlice 31 (.int .i64 (n : Int)) (.int .i64 (n : Int))).run Try.prog w = .ok (.slice (some ⟨w.heap.size, 0, none⟩) n n) (w.alloc (.cells (madeCells #[fI 0] n) 3)) := by
  obtain ⟨i, hi0, h1, h2, h3⟩ := info_parts infoI
  have := run_make (P := Try.prog) w 31 3 i (.int .i64 0) Try.underlying31 hi0 h1 .i64 .i64 n n (by omega) (by omega) (by rw [h3]; omega) (by omega)
  rw [h2] at this
  simpa [Value.cells, fI] using this

set_option maxHeartbeats 800000 in
theorem toIntS_any (a : Option Addr) (cap : Nat) (l : List Int) (w : World) (hrow : RowAt fI w a l) (hl : l.length ≤ 1048576) :
    Calls Try.prog 24 #[.slice a l.length cap] w fun e w' => ∃ g, e = .returned (.slice (some ⟨g, 0, none⟩) l.length l.length) ∧ RowOwn fI w.heap.size w' (some ⟨g, 0, none⟩) l ∧ Below w.heap.size w w' := by
  have hmk := makeI w l.length (by omega)
  obtain ⟨W1, hW1⟩ : ∃ W1, W1 = w.alloc (.cells (madeCells #[fI 0] l.length) 3) := ⟨_, rfl⟩
  have hl0 : LiesG fI W1 w.heap.size (fillG (0 : Int) l 0) := by rw [hW1, fillG_zero]; exact LiesG.make w 3 l.length (0 : Int)
  have hbel : Below w.heap.size w W1 := by rw [hW1]; exact (Below.refl _ _).alloc (Nat.le_refl _) _
  have hsz : w.heap.size < W1.heap.size := by rw [hW1]; simp
  rw [← hW1] at hmk
  clear hW1
  go_enter Try.func24, Try.ntmps24
  go_wp2
  clear hmk
  go_loopw [4] (fun i wr => ∃ k : Nat, k ≤ l.length ∧ i = .int .i64 k ∧ LiesG fI wr w.heap.size (fillG (0 : Int) l k) ∧ Below w.heap.size w wr ∧ w.heap.size < wr.heap.size) (fun i _ => l.length - (intOf i).toNat)
  case atStart => exact ⟨0, Nat.zero_le _, rfl, hl0, hbel, hsz⟩
  case round =>
    obtain ⟨k, hk, rfl, hlr, hbr, hzr⟩ := hrel
    clear hl0 hbel hsz
    by_cases hlt : k < l.length
    · obtain ⟨b, off, rfl, hc⟩ := (hrow.below hbr).cell k hlt
      have hlen := fillG_len (0 : Int) l k hk
      obtain ⟨⟨c0, hc0⟩, hf⟩ := hlr.some k (by rw [hlen]; exact hlt)
      have Hset := Lib.hid (hlr.set k (by rw [hlen]; exact hlt) l[k])
      have Hsuc := Lib.hid (fillG_succ (0 : Int) l k hlt)
      have Hb := Lib.hid (hbr.setCell (p := ⟨w.heap.size, k, none⟩) (Nat.le_refl _) (fI l[k]))
      obtain ⟨x, hx⟩ : ∃ x, x = l[k] := ⟨_, rfl⟩
      rw [← hx] at hc Hset Hsuc Hb
      clear hx hlen hlr hbr
      unfold fI at hc
      go_wp2
      go_roundw
      case rel => exact ⟨k + 1, by omega, by go_num, by rw [← Hsuc.out]; exact Hset.out, Hb.out, by simpa [World.setCell] using hzr⟩
      case measure => simp [intOf]; omega
    · obtain rfl : k = l.length := by omega
      have hro := hlr.own (Nat.le_refl _)
      rw [fillG_all] at hro
      clear hlr
      go_wp2
      go_ret
      exact ⟨_, rfl, hro, hbr⟩

set_option maxHeartbeats 1600000 in
theorem eqIntS_any (a1 a2 : Option Addr) (c1 c2 : Nat) (l1 l2 : List Int) (w : World) (hr1 : RowAt fI w a1 l1) (hr2 : RowAt fI w a2 l2) (hl : l1.length ≤ 9223372036854775807) :
    Calls Try.prog 26 #[.slice a1 l1.length c1, .slice a2 l2.length c2] w fun e w' => e = .returned (.bool (decide (l1 = l2))) ∧ Below w.heap.size w w' := by
  by_cases hlen : l1.length = l2.length
  · have e1 : ((l1.length : Int) == (l2.length : Int)) = true := by simp [hlen]
    have e2 : ((l1.length : Int) != (l2.length : Int)) = false := by simp [hlen]
    have Hlen := Lib.hid hlen; clear hlen
    go_enter Try.func26, Try.ntmps26
    go_wp2
    go_loopw [5] (fun i wr => ∃ k : Nat, k ≤ l1.length ∧ i = .int .i64 k ∧ l1.take k = l2.take k ∧ Below w.heap.size w wr) (fun i _ => l1.length - (intOf i).toNat)
    case atStart => exact ⟨0, Nat.zero_le _, rfl, rfl, Below.refl _ _⟩
    case round =>
      obtain ⟨k, hk, rfl, ht, hb⟩ := hrel
      have Ht := Lib.hid ht; clear ht
      by_cases hlt : k < l1.length
      · have hlt2 : k < l2.length := by have := Hlen.out; omega
        obtain ⟨b1, o1, rfl, hc1⟩ := (hr1.below hb).cell k hlt
        obtain ⟨b2, o2, rfl, hc2⟩ := (hr2.below hb).cell k hlt2
        unfold fI at hc1 hc2
        have k1 : (k : Int) < (l1.length : Int) := by omega
        have k2 : (k : Int) < (l2.length : Int) := by omega
        by_cases he : l1[k] = l2[k]
        · have Hn := Lib.hid (take_succ_eq hlt hlt2 Ht.out he)
          rw [← he] at hc2
          obtain ⟨x, hx⟩ : ∃ x, x = l1[k] := ⟨_, rfl⟩
          rw [← hx] at hc1 hc2
          clear hx he
          go_wp2
          go_quiet (fail)
          go_wp2
          go_roundw
          case rel => exact ⟨k + 1, by omega, by go_num, Hn.out, hb.trans ((below_drewN _ _).mono hb.size)⟩
          case measure => simp [intOf]; omega
        · have Hn := Lib.hid (ne_of_at hlt hlt2 he)
          have hq : (l1[k] == l2[k]) = false := by simpa using he
          obtain ⟨x, hx⟩ : ∃ x, x = l1[k] := ⟨_, rfl⟩
          obtain ⟨y, hy⟩ : ∃ y, y = l2[k] := ⟨_, rfl⟩
          rw [← hx] at hc1 hq
          rw [← hy] at hc2 hq
          have hq2 : (x != y) = true := by rw [bne, hq]; rfl
          clear hx hy he
          go_wp2
          go_quiet (fail)
          go_wp2
          go_ret
          exact ⟨by rw [Hn.out]; rfl, hb.trans ((below_drewN _ _).mono hb.size)⟩
      · obtain rfl : k = l1.length := by omega
        have Hn : Hid (decide (l1 = l2) = true) := Lib.hid (decide_eq_true (eq_of_take Hlen.out Ht.out))
        go_wp2
        go_ret
        exact ⟨by rw [Hn.out]; rfl, hb⟩
  · have e1 : ((l1.length : Int) == (l2.length : Int)) = false := by simp; omega
    have e2 : ((l1.length : Int) != (l2.length : Int)) = true := by simp; omega
    have Hn : Hid (decide (l1 = l2) = false) := Lib.hid (decide_eq_false fun h => hlen (by rw [h]))
    clear hlen
    go_enter Try.func26, Try.ntmps26
    go_wp2
    go_ret
    exact ⟨by rw [Hn.out]; rfl, Below.refl _ _⟩
end Go.Proofs.Ytnnfjikfpihojaa

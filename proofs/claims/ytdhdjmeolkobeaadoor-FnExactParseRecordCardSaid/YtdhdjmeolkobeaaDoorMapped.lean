/-
  A walk of mapped (program): each byte of s replaced by what the closure gives. Condition: s has at most 2^20 bytes.
-/
import Derived.Test.YtdhdjmeolkobeaaDoorFacts
namespace Go.Proofs.YtdhdjmeolkobeaaDoor
open Go.RowKit
set_option linter.unusedVariables false
set_option linter.unusedSimpArgs false

set_option maxHeartbeats 400000 in
theorem mapped_any (C : Nat) (f : UInt8 → UInt8) (hcf : ∀ (args : Array Value) (w : World), (callFunc C args).run Tryd.prog w = .ok (.enter C args) w) (hby : Hid (∀ (c : UInt8) (w : World), Calls Tryd.prog C #[.int .u8 c.toNat] w fun e w' => e = .returned (.int .u8 (f c).toNat) ∧ w = w'))
    (s : ByteArray) (w : World) (hs : s.size ≤ 1048576) :
    Calls Tryd.prog 101 #[.string s, .func (.func C) #[] #[]] w fun e w' => e = .returned (.string (bstr (s.data.toList.map f))) ∧ Below w.heap.size w w' := by
  have hconv := Lib.run_convert_string_bytes (P := Tryd.prog) w 9 42 5 s Tryd.underlying9 Tryd.underlying42 Tryd.underlying5
  obtain ⟨W1, hW1⟩ : ∃ W1, W1 = Lib.bytesWorld w 5 s := ⟨_, rfl⟩
  have hl : LiesB W1 w.heap.size s.data.toList := by rw [hW1]; exact LiesB.conv w 5 s
  have hbel : Below w.heap.size w W1 := by rw [hW1]; exact below_conv w 5 s
  have hsz : w.heap.size < W1.heap.size := by rw [hW1, Lib.bytesWorld_size]; omega
  rw [← hW1] at hconv
  clear hW1
  go_enter Tryd.func101, Tryd.ntmps101
  go_wp2
  go_loopw [12] (fun i wr => ∃ k : Nat, k ≤ s.size ∧ i = .int .i64 k ∧ LiesB wr w.heap.size (part f s.data.toList k) ∧ Below w.heap.size w wr ∧ w.heap.size < wr.heap.size) (fun i _ => s.size - (intOf i).toNat)
  case atStart => exact ⟨0, Nat.zero_le _, rfl, by rw [part_zero]; exact hl, hbel, hsz⟩
  case round =>
    obtain ⟨k, hk, rfl, hlr, hbr, hzr⟩ := hrel
    have hd := dlen s
    have Hd := Lib.hid hd; clear hd hconv hl hbel hsz
    by_cases hlt : k < s.size
    · have hc : wr.cell? ⟨w.heap.size, k, none⟩ = some (.int .u8 s[k].toNat) := by
        have := (hlr k (by rw [part_len _ _ _ (by rw [Hd.out]; exact hk), Hd.out]; exact hlt)).1
        rw [part_at _ _ _ (by rw [Hd.out]; exact hlt)] at this
        exact this
      have hf := (hlr k (by rw [part_len _ _ _ (by rw [Hd.out]; exact hk), Hd.out]; exact hlt)).2
      have Hn : Hid (LiesB (wr.setCell ⟨w.heap.size, k, none⟩ (.int .u8 (f s[k]).toNat)) w.heap.size (part f s.data.toList (k + 1))) := by
        have := hlr.set k (by rw [part_len _ _ _ (by rw [Hd.out]; exact hk), Hd.out]; exact hlt) (f s[k]) _ rfl
        have e := part_succ f s.data.toList k (by rw [Hd.out]; exact hlt)
        rw [← e]
        exact this
      have Hb : Hid (Below w.heap.size w (wr.setCell ⟨w.heap.size, k, none⟩ (.int .u8 (f s[k]).toNat))) := hbr.setCell (Nat.le_refl _) _
      clear hlr hbr
      go_wp2_with fail
      refine (hby.out _ _).mono ?_
      rintro e w' ⟨rfl, rfl⟩
      go_wp2
      go_roundw
      case rel => exact ⟨k + 1, by omega, by go_num, Hn.out, Hb.out, by simpa [World.setCell] using hzr⟩
      case measure => simp [intOf]; omega
    · obtain rfl : k = s.size := by omega
      have ht := hlr.text (P := Tryd.prog) (grownCap w s.size 0 5) s.size (by rw [part_len _ _ _ (by rw [Hd.out]; exact hk), Hd.out]) 42 9 5 Tryd.underlying42 Tryd.underlying5 Tryd.underlying9
      have e := part_all f s.data.toList
      rw [Hd.out] at e
      rw [e] at ht
      clear e
      go_wp2
      go_ret
      exact ⟨rfl, hbr⟩
end Go.Proofs.YtdhdjmeolkobeaaDoor

/-
  Walks of the draws of words, texts and numbers: each returns some value of bounded size. Condition: the code has at most 2^20 bytes.
-/
import Derived.Test.YtoijjielnbcphaaDraw
import Derived.Deep.OwnRows
import Derived.Deep.RegionHeld
namespace Go.Proofs.Ytoijjielnbcphaa
open Go.RowKit
set_option linter.unusedVariables false
set_option linter.unusedSimpArgs false
set_option maxRecDepth 100000
set_option maxHeartbeats 1600000 in
theorem newCur (a : Option Addr) (c : Nat) (l : List UInt8) (w : World) (hr : RowAt fU w a l) (hl : l.length ≤ 1048576) :
    Calls Try.prog 36 #[.slice a l.length c] w fun e w' => ∃ g, e = .returned (.pointer (some ⟨g, 0, none⟩)) ∧ w.heap.size ≤ g ∧ Cur w' g l ∧ Below w.heap.size w w' := by
  have HR := Lib.hid hr
  clear hr
  go_enter Try.func36, Try.ntmps36
  go_wp2
  go_loop [3, 4] (fun h i => ∃ (k m : Nat), k ≤ l.length ∧ i = .int .i64 k ∧ h = .int .i64 m ∧ m ≤ 2000000000) (fun _ i => l.length - (intOf i).toNat)
  case atStart => exact ⟨0, 10101 + l.length, Nat.zero_le _, rfl, by go_num, by omega⟩
  case round =>
    obtain ⟨k, m, hk, rfl, rfl, hm⟩ := hrel
    have fin : ∀ h : Nat, h ≤ 2000000000 → Cur (w.alloc (.cells #[.slice a l.length c, .int .i64 0, .int .i64 h] 63)) w.heap.size l := by
      intro h hh
      refine ⟨⟨a, c, 0, h, ?_, Nat.zero_le _, by omega, by omega, HR.out.below ((Below.refl _ _).alloc (Nat.le_refl _) _), ?_⟩, hl⟩
      · exact Go.Deep.blk_alloc_new w _
      · intro hne b off ha
        rcases HR.out with h1 | ⟨b', off', h1, h2⟩
        · exact absurd h1 hne
        · rw [ha] at h1
          injection h1 with h1
          injection h1 with e1 e2 e3
          subst e1 e2
          cases l with
          | nil => exact absurd rfl hne
          | cons x l => exact World.block_lt_of_cell? w _ (h2 0 x rfl)
    have Hfin := Lib.hid (fin m hm)
    have Hb : Hid (Below w.heap.size w (w.alloc (.cells #[.slice a l.length c, .int .i64 0, .int .i64 (m : Int)] 63))) := Lib.hid ((Below.refl _ _).alloc (Nat.le_refl _) _)
    clear fin
    by_cases hlt : k < l.length
    · by_cases h4 : k < 4000
      · obtain ⟨b, off, ha, hc⟩ := HR.out.cell k hlt
        have hby := byte_le l[k]
        obtain ⟨y, hy⟩ : ∃ y : Nat, y = (l[k]).toNat := ⟨_, rfl⟩
        replace hc : w.cell? ⟨b, off + k, none⟩ = some (.int .u8 y) := by rw [hy]; exact hc
        rw [← hy] at hby
        subst ha
        have hx := and_le ((m : Int) * 131 + (y : Int) + 7) 1073741823 (by decide)
        obtain ⟨x, hxx⟩ : ∃ x, bits .and .i64 ((m : Int) * 131 + (y : Int) + 7) ((1073741823 : Nat) : Int) = x := ⟨_, rfl⟩
        rw [hxx] at hx
        obtain ⟨x, rfl⟩ := Int.eq_ofNat_of_zero_le hx.1
        have HX : Hid (bits .and .i64 ((m : Int) * 131 + (y : Int) + 7) 1073741823 = (x : Int)) := Lib.hid hxx
        have hx1 : x ≤ 1073741823 := by omega
        clear hy hx hxx
        go_wp2
        rw [HX.out]
        go_wp2
        go_round
        case rel => exact ⟨k + 1, x, by omega, by go_num, rfl, by omega⟩
        case measure => simp [intOf]; omega
      · have hd : decide ((k : Int) < 4000) = false := decide_eq_false (by omega)
        go_wp2
        go_ret
        exact ⟨_, rfl, Nat.le_refl _, Hfin.out, Hb.out⟩
    · have hd : decide ((k : Int) < (l.length : Int)) = false := decide_eq_false (by omega)
      go_wp2
      go_ret
      exact ⟨_, rfl, Nat.le_refl _, Hfin.out, Hb.out⟩
def strOfV : Value → ByteArray
  | .string s => s
  | _ => ByteArray.empty
def intOfV : Value → Int
  | .int _ n => n
  | _ => 0
def strsV (vs : Array Value) : List ByteArray := vs.toList.map strOfV
def intsV (vs : Array Value) : List Int := vs.toList.map intOfV
theorem litRow {α : Type} {f : α → Value} (w : World) (vs : Array Value) (e : TypeId) (r : List α) (h : r.map f = vs.toList) : RowAt f (w.alloc (.cells vs e)) (some ⟨w.heap.size, 0, none⟩) r := by
  refine Or.inr ⟨_, 0, rfl, fun i x hx => ?_⟩
  rw [Nat.zero_add, World.cell?_alloc_at _ _ _ _ rfl, ← Array.getElem?_toList, ← h, List.getElem?_map, hx]
  rfl
/-- A pick out of a literal slice. -/
theorem litPick (P : ByteArray → Prop) (g : Nat) (l : List UInt8) (vs : Array Value) (e : TypeId) (n c : Nat) (w : World) (hc : Cur w g l) (hv : (strsV vs).map fS = vs.toList) (hn : vs.size = n) (h0 : 0 < n) (hl : n ≤ 1000) (hP : ∀ s ∈ strsV vs, P s) :
    Calls Try.prog 66 #[.pointer (some ⟨g, 0, none⟩), .slice (some ⟨w.heap.size, 0, none⟩) n c] (w.alloc (.cells vs e)) fun e' w' => ∃ s, P s ∧ e' = .returned (.string s) ∧ Drew g l w w' := by
  have hb : Below w.heap.size w (w.alloc (.cells vs e)) := (Below.refl _ _).alloc (Nat.le_refl _) _
  refine (l1Pick_any g l w.heap.size 0 c (strsV vs) n (by simp [strsV, hn]) _ (hc.below hb) (litRow w vs e _ hv) h0 hl).mono ?_
  rintro e' w' ⟨s, hs, rfl, hd⟩
  exact ⟨s, hP s hs, rfl, ((Drew.refl hc).below hb).trans hd⟩
theorem fU_one (y : UInt8) : (fU y).oneCell' = true := rfl
theorem fU_byte (x : Nat) (h : x ≤ 255) : Value.int .u8 (x : Int) = fU (UInt8.ofNat x) := by unfold fU; rw [byte_of x (by omega)]
theorem bldD_text {g : Nat} {code : List UInt8} {w0 w : World} {v : Value} {l : List UInt8} (h : BldD fU 5 g code w0 w v l) : (convert 22 9 v).run Try.prog w = .ok (.string (bstr l)) w :=
  text (B := w0.heap.size) (w0 := w) ⟨h.own, Below.refl _ _, h.big⟩
set_option maxHeartbeats 1600000 in
theorem l1Text_any (g : Nat) (l : List UInt8) (n : Nat) (w : World) (hc : Cur w g l) (hn : n ≤ 1000) :
    Calls Try.prog 82 #[.pointer (some ⟨g, 0, none⟩), .int .i64 n] w fun e w' => ∃ s, s.size ≤ n ∧ e = .returned (.string s) ∧ Drew g l w w' := by
  have Hc := Lib.hid hc
  have HB0 : Hid (BldD fU 5 g l w (w.alloc (.cells #[] 5)) (.slice (some ⟨w.heap.size, 0, none⟩) 0 0) []) := Lib.hid (BldD.empty fU 5 (Drew.refl hc) hc)
  clear hc
  go_enter Try.func82, Try.ntmps82
  go_wp2_with fail
  refine (l1Below_any g l 4 _ HB0.out.drew.1 (by decide) (by decide)).mono ?_
  rintro e w1 ⟨st, hst, rfl, hd⟩
  have HB1 := Lib.hid (HB0.out.step hd)
  clear hd
  go_wp2_with fail
  refine (l1Below_any g l (n + 1) _ HB1.out.drew.1 (by omega) (by omega)).mono ?_
  rintro e w2 ⟨m, hm, rfl, hd⟩
  have HB2 := Lib.hid (HB1.out.step hd)
  clear hd
  go_wp2
  go_loopw [5, 7, 8] (fun v i _ wr => ∃ (k : Nat) (o : List UInt8), i = .int .i64 k ∧ o.length + k ≤ n ∧ BldD fU 5 g l w wr v o) (fun _ i _ _ => (intOf i).toNat)
  case atStart => exact ⟨m, [], rfl, by simp; omega, HB2.out⟩
  case round =>
    obtain ⟨k, o, rfl, hk, hb⟩ := hrel
    by_cases hk0 : k = 0
    · subst hk0
      have ht := bldD_text hb
      go_wp2
      go_ret
      exact ⟨bstr o, by rw [bstr_size]; omega, rfl, hb.drew⟩
    · have hkp : (0 : Int) < (k : Int) := by omega
      have hkn : 0 < k := by omega
      clear hk0
      go_wp2_with fail
      refine (l1Byte_any g l _ hb.drew.1).mono ?_
      rintro e w3 ⟨x, hx, rfl, hd⟩
      have hb3 := hb.step hd
      clear hb hd
      obtain ⟨K, hK⟩ : ∃ K, K = k - 1 := ⟨_, rfl⟩
      have eK : (k : Int) - 1 = (K : Int) := by omega
      have HKl : Hid (o.length + 1 + K ≤ n) := Lib.hid (by omega)
      have HKm : Hid (K < k) := Lib.hid (by omega)
      clear hK
      by_cases s1 : st = 1
      · have d1 : ((st : Int) == 1) = true := by rw [s1]; rfl
        have d2 : ((st : Int) == 2) = false := by rw [s1]; rfl
        clear s1
        go_wp2_with (at_builtin; refine wpList_pushD rfl _ _ 22 rfl _ Try.underlying22 _ _ infoB rfl fU_one _ _ rfl hb3 (UInt8.ofNat (x % 2)) _ ?_ rfl ?_ ?_ ?_; (exact fU_byte (x % 2) (by omega)); (omega); (omega); intro v' w' hb')
        go_roundw
        case rel => exact ⟨K, _, by go_num, by have := HKl.out; simp; omega, hb'⟩
        case measure => have := HKm.out; simp [intOf]; omega
      · have d1 : ((st : Int) == 1) = false := by rw [beq_eq_false_iff_ne]; omega
        by_cases s2 : st = 2
        · have d2 : ((st : Int) == 2) = true := by rw [s2]; rfl
          clear s1 s2
          go_wp2_with (at_builtin; refine wpList_pushD rfl _ _ 22 rfl _ Try.underlying22 _ _ infoB rfl fU_one _ _ rfl hb3 (UInt8.ofNat (97 + x % 4)) _ ?_ rfl ?_ ?_ ?_; (exact fU_byte (97 + x % 4) (by omega)); (omega); (omega); intro v' w' hb')
          go_roundw
          case rel => exact ⟨K, _, by go_num, by have := HKl.out; simp; omega, hb'⟩
          case measure => have := HKm.out; simp [intOf]; omega
        · have d2 : ((st : Int) == 2) = false := by rw [beq_eq_false_iff_ne]; omega
          clear s1 s2
          go_wp2_with (at_builtin; refine wpList_pushD rfl _ _ 22 rfl _ Try.underlying22 _ _ infoB rfl fU_one _ _ rfl hb3 (UInt8.ofNat x) _ ?_ rfl ?_ ?_ ?_; (exact fU_byte x hx); (omega); (omega); intro v' w' hb')
          go_roundw
          case rel => exact ⟨K, _, by go_num, by have := HKl.out; simp; omega, hb'⟩
          case measure => have := HKm.out; simp [intOf]; omega
set_option maxHeartbeats 1600000 in
theorem l2Name_any (g : Nat) (l : List UInt8) (w : World) (hc : Cur w g l) :
    Calls Try.prog 79 #[.pointer (some ⟨g, 0, none⟩)] w fun e w' => ∃ s, s.size ≤ 40 ∧ e = .returned (.string s) ∧ Drew g l w w' := by
  go_enter Try.func79, Try.ntmps79
  go_wp2_with fail
  refine (litPick (fun s => s.size ≤ 10) g l _ _ _ _ _ hc ?_ ?_ ?_ ?_ ?_).mono ?_
  · rfl
  · rfl
  · decide
  · decide
  · decide +kernel
  rintro e w1 ⟨s1, hs1, rfl, hd1⟩
  go_wp2_with fail
  refine (litPick (fun s => s.size ≤ 10) g l _ _ _ _ _ hd1.1 ?_ ?_ ?_ ?_ ?_).mono ?_
  · rfl
  · rfl
  · decide
  · decide
  · decide +kernel
  rintro e w2 ⟨s2, hs2, rfl, hd2⟩
  have HD2 := Lib.hid (hd1.trans hd2)
  clear hd1 hd2
  go_wp2_with fail
  refine (l1Below_any g l 6 _ HD2.out.1 (by decide) (by decide)).mono ?_
  rintro e w3 ⟨x, hx, rfl, hd3⟩
  have HD3 := Lib.hid (HD2.out.trans hd3)
  clear hd3
  have a1 : ¬ 9223372036854775807 < s2.size + 2 := by omega
  have a2 : ¬ 9223372036854775807 < s2.size + 2 + s1.size := by omega
  have a3 : ¬ 9223372036854775807 < s1.size + 1 := by omega
  have a4 : ¬ 9223372036854775807 < s1.size + 1 + s2.size := by omega
  by_cases x0 : x = 0
  · have d0 : ((x : Int) == 0) = true := by rw [x0]; rfl
    clear x0
    go_wp2
    go_ret
    have q1 : (⟨#[44, 32]⟩ : ByteArray).size = 2 := rfl
    have q2 : (⟨#[32]⟩ : ByteArray).size = 1 := rfl
    refine ⟨_, ?_, rfl, HD3.out⟩
    simp only [ByteArray.size_append]
    omega
  · have d0 : ((x : Int) == 0) = false := by rw [beq_eq_false_iff_ne]; omega
    by_cases x1 : x = 1
    · have d1 : ((x : Int) == 1) = true := by rw [x1]; rfl
      clear x0 x1
      go_wp2_with fail
      refine (litPick (fun s => s.size ≤ 10) g l _ _ _ _ _ HD3.out.1 ?_ ?_ ?_ ?_ ?_).mono ?_
      · rfl
      · rfl
      · decide
      · decide
      · decide +kernel
      rintro e w4 ⟨s3, hs3, rfl, hd4⟩
      have HD4 := Lib.hid (HD3.out.trans hd4)
      clear hd4
      have a5 : ¬ 9223372036854775807 < s1.size + 1 + s3.size := by omega
      have a6 : ¬ 9223372036854775807 < s1.size + 1 + s3.size + 1 := by omega
      have a7 : ¬ 9223372036854775807 < s1.size + 1 + s3.size + 1 + s2.size := by omega
      go_wp2
      go_ret
      have q1 : (⟨#[44, 32]⟩ : ByteArray).size = 2 := rfl
      have q2 : (⟨#[32]⟩ : ByteArray).size = 1 := rfl
      refine ⟨_, ?_, rfl, HD4.out⟩
      simp only [ByteArray.size_append]
      omega
    · have d1 : ((x : Int) == 1) = false := by rw [beq_eq_false_iff_ne]; omega
      by_cases x2 : x = 2
      · have d2 : ((x : Int) == 2) = true := by rw [x2]; rfl
        clear x0 x1 x2
        go_wp2
        go_ret
        exact ⟨s1, by omega, rfl, HD3.out⟩
      · have d2 : ((x : Int) == 2) = false := by rw [beq_eq_false_iff_ne]; omega
        clear x0 x1 x2
        go_wp2
        go_ret
        have q1 : (⟨#[44, 32]⟩ : ByteArray).size = 2 := rfl
        have q2 : (⟨#[32]⟩ : ByteArray).size = 1 := rfl
        refine ⟨_, ?_, rfl, HD3.out⟩
        simp only [ByteArray.size_append]
        omega
end Go.Proofs.Ytoijjielnbcphaa

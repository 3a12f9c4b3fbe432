/-
  Walks of DecodeFixed and EncodeFixed (program and reference). Condition: a string has at most 2^20 bytes.
-/
import Derived.Test.YtoijjielnbcphaaDoorWithin
namespace Go.Proofs.YtoijjielnbcphaaDoor
open Go.RowKit
set_option linter.unusedVariables false
set_option linter.unusedSimpArgs false
set_option maxRecDepth 100000

theorem wf_i64 {x : Int} (h : (Lit.int .i64 x).wf = true) : -9223372036854775808 ≤ x ∧ x ≤ 9223372036854775807 := by
  have : IntKind.i64.min ≤ x ∧ x ≤ 9223372036854775807 := by simpa [Lit.wf] using h
  exact this
def decF (l : List UInt8) : Nat := l.foldl (fun n c => n * 256 + c.toNat) 0
theorem decF_snoc (l : List UInt8) (c : UInt8) : decF (l ++ [c]) = decF l * 256 + c.toNat := by simp [decF]
theorem decF_lt (l : List UInt8) : decF l < 256 ^ l.length := by
  refine snoc_ind (P := fun l => decF l < 256 ^ l.length) (by simp [decF]) ?_ l
  intro l c ih
  rw [decF_snoc, List.length_append, List.length_singleton, Nat.pow_succ]
  have := c.toNat_lt
  omega
theorem decF_small (s : ByteArray) (k : Nat) (h : k ≤ 6) : (decF (s.data.toList.take k) : Int) < 281474976710656 := by
  have h1 := decF_lt (s.data.toList.take k)
  have h2 : (256 : Nat) ^ (s.data.toList.take k).length ≤ 256 ^ 6 := Nat.pow_le_pow_right (by decide) (by rw [List.length_take]; omega)
  have h3 : (256 : Nat) ^ 6 = 281474976710656 := by decide
  omega
theorem decF_step (s : ByteArray) (k : Nat) (h : k < s.size) : (decF (s.data.toList.take (k + 1)) : Int) = (decF (s.data.toList.take k) : Int) * 256 + (s[k].toNat : Int) := by
  rw [take_snoc s k h, decF_snoc]; simp
/-- The number and whether there is one. -/
def decOk (s : ByteArray) (k : Int) : Bool := inB k 1 7 && decide (k ≤ s.size)
def decVal (s : ByteArray) (k : Int) : Int := if decOk s k = true then (decF (s.data.toList.take k.toNat) : Int) else 0

set_option maxHeartbeats 800000 in
theorem implDecodeFixed (s : ByteArray) (z : Int) (w : World) (hs : s.size ≤ 1048576) :
    Calls Tryd.prog 27 #[.string s, .int .i64 z] w fun e w' => e = .returned (.tuple #[.int .i64 (decVal s z), .bool (decOk s z)]) ∧ w = w' := by
  cases hz : inB z 1 7
  · have H : Hid (decVal s z = 0 ∧ decOk s z = false) := by
      have : decOk s z = false := by unfold decOk; rw [hz]; rfl
      exact ⟨by unfold decVal; rw [this]; rfl, this⟩
    go_enter Tryd.func27, Tryd.ntmps27
    go_wp2_with (go_at_call 61; refine (within_any _ _ _ _).mono ?_; rintro e w' ⟨rfl, rfl⟩)
    go_ret2
    exact ⟨by rw [H.out.1, H.out.2]; rfl, rfl⟩
  obtain ⟨h1, h7⟩ := inB_yes hz
  obtain ⟨n, rfl⟩ := Int.eq_ofNat_of_zero_le (show 0 ≤ z by omega)
  by_cases hn : n ≤ s.size
  · have H : Hid (decVal s n = (decF (s.data.toList.take n) : Int) ∧ decOk s n = true) := by
      have : decOk s n = true := by unfold decOk; rw [hz]; simp; exact hn
      exact ⟨by unfold decVal; rw [this]; rfl, this⟩
    go_enter Tryd.func27, Tryd.ntmps27
    go_wp2_with (go_at_call 61; refine (within_any _ _ _ _).mono ?_; rintro e w' ⟨rfl, rfl⟩)
    go_loop [6, 18] (fun v i => ∃ k : Nat, k ≤ n ∧ i = .int .i64 k ∧ v = .int .i64 (decF (s.data.toList.take k))) (fun _ i => n - (intOf i).toNat)
    case atStart => exact ⟨0, Nat.zero_le _, rfl, rfl⟩
    case round =>
      obtain ⟨k, hk, rfl, rfl⟩ := hrel
      by_cases hlt : k < n
      · have hks : k < s.size := by omega
        have hsm := decF_small s k (by omega)
        have hst := Lib.hid (decF_step s k hks)
        have hb := byte_le s[k]
        have h62 : (2 : Int) ^ 62 = 4611686018427387904 := by decide
        have hor := Lib.hid (or_i64 8 ((decF (s.data.toList.take k) : Int) * 256) (s[k].toNat : Int) (by omega) (by rw [show (2 : Int) ^ 8 = 256 from by decide]; omega) (by omega) (by omega) (by rw [show (2 : Int) ^ 8 = 256 from by decide]; omega) (by omega))
        clear h62
        go_wp2
        go_round
        case rel => exact ⟨k + 1, by omega, by go_num, by rw [hor.out, hst.out]⟩
        case measure => simp [intOf]; omega
      · obtain rfl : k = n := by omega
        go_wp2
        go_ret2
        exact ⟨by rw [H.out.1, H.out.2]; rfl, rfl⟩
  · have H : Hid (decVal s n = 0 ∧ decOk s n = false) := by
      have : decOk s n = false := by unfold decOk; rw [hz]; simp; omega
      exact ⟨by unfold decVal; rw [this]; rfl, this⟩
    go_enter Tryd.func27, Tryd.ntmps27
    go_wp2_with (go_at_call 61; refine (within_any _ _ _ _).mono ?_; rintro e w' ⟨rfl, rfl⟩)
    go_ret2
    exact ⟨by rw [H.out.1, H.out.2]; rfl, rfl⟩

theorem cat_ok (a b : List UInt8) (h : a.length + b.length ≤ 1000000000000) : ¬ 9223372036854775807 < (bstr a).size + (bstr b).size := by rw [bstr_size, bstr_size]; omega
theorem bstr_add (a b : List UInt8) : bstr a ++ bstr b = bstr (a ++ b) := by apply ByteArray.ext; simp [bstr]
/-- The lowest k bytes of n, the highest of them first. -/
def encL (n : Nat) : Nat → List UInt8
  | 0 => []
  | k + 1 => UInt8.ofNat (n / 256 ^ k % 256) :: encL n k
def encW (n z : Int) : List UInt8 := if inB z 1 7 = true ∧ 0 ≤ n ∧ n < 256 ^ z.toNat then encL n.toNat z.toNat else []
theorem pow_cast (m : Nat) : ((256 ^ m : Nat) : Int) = (256 : Int) ^ m := by rw [Int.natCast_pow]; rfl
theorem encW_yes {n m : Nat} (hz : inB m 1 7 = true) (h : n < 256 ^ m) : encW n m = encL n m := by
  unfold encW
  have : (n : Int) < 256 ^ m := by rw [← pow_cast]; omega
  have e : (m : Int).toNat = m := Int.toNat_natCast m
  have e2 : (n : Int).toNat = n := Int.toNat_natCast n
  rw [e, e2, if_pos ⟨hz, by omega, this⟩]
theorem encW_no {n m : Nat} (h : ¬ n < 256 ^ m) : encW n m = [] := by
  unfold encW
  apply if_neg
  rintro ⟨_, _, h3⟩
  rw [Int.toNat_natCast] at h3
  rw [← pow_cast] at h3
  omega
theorem encL_len (n : Nat) : ∀ m, (encL n m).length = m
  | 0 => rfl
  | m + 1 => by rw [encL, List.length_cons, encL_len n m]
theorem encL_at (n : Nat) : ∀ m k, k < m → (encL n m).getD k 0 = UInt8.ofNat (n / 256 ^ (m - 1 - k) % 256)
  | 0, k, h => by omega
  | m + 1, 0, _ => by simp [encL]
  | m + 1, k + 1, h => by
    have := encL_at n m k (by omega)
    have e : m + 1 - 1 - (k + 1) = m - 1 - k := by omega
    rw [e, ← this]; rfl
/-- The first k of the bytes l, zeros behind. -/
def fillL (l : List UInt8) (k : Nat) : List UInt8 := l.take k ++ List.replicate (l.length - k) 0
theorem fillL_zero (l : List UInt8) : fillL l 0 = List.replicate l.length 0 := by simp [fillL]
theorem fillL_all (l : List UInt8) : fillL l l.length = l := by simp [fillL]
theorem fillL_len (l : List UInt8) (k : Nat) (h : k ≤ l.length) : (fillL l k).length = l.length := by simp [fillL]; omega
theorem fillL_succ (l : List UInt8) (k : Nat) (h : k < l.length) : (fillL l k).set k (l.getD k 0) = fillL l (k + 1) := by
  unfold fillL
  rw [List.set_append_right _ _ (by simp; omega), List.take_succ_eq_append_getElem h, List.append_assoc]
  congr 1
  have e1 : k - (List.take k l).length = 0 := by simp; omega
  have e2 : l.length - k = (l.length - (k + 1)) + 1 := by omega
  rw [e1, e2, List.replicate_succ, List.set_cons_zero]
  simp [h]
theorem pow_256 (k : Nat) : 2 ^ (8 * k) = 256 ^ k := by rw [Nat.pow_mul]
theorem encL_val (n m k : Nat) (h : k < m) : (n : Int) / 2 ^ (8 * (m - 1 - k)) % 256 = (((encL n m).getD k 0).toNat : Int) := by
  rw [encL_at n m k h, byte_of _ (Nat.mod_lt _ (by decide)), ← pow_256]
  simp
theorem div_zero_iff (n k : Nat) : n / 256 ^ k = 0 ↔ n < 256 ^ k := by
  rw [Nat.div_eq_zero_iff]; have := Nat.pow_pos (n := k) (show 0 < 256 by decide); omega

set_option maxHeartbeats 800000 in
theorem specEncodeFixed (v z : Int) (w : World) (wf : (Lit.int .i64 v).wf = true) :
    Calls Tryd.prog 28 #[.int .i64 v, .int .i64 z] w fun e w' => e = .returned (.string (bstr (encW v z))) ∧ Below w.heap.size w w' := by
  cases hz : inB z 1 7
  · have H : Hid (encW v z = []) := by unfold encW; rw [hz]; rfl
    go_enter Tryd.func28, Tryd.ntmps28
    go_wp2_with (go_at_call 64; refine (l1In_any _ _ _ _).mono ?_; rintro e w' ⟨rfl, rfl⟩)
    go_ret
    exact ⟨by rw [H.out]; rfl, Below.refl _ _⟩
  obtain ⟨h1, h7⟩ := inB_yes hz
  obtain ⟨m, rfl⟩ := Int.eq_ofNat_of_zero_le (show 0 ≤ z by omega)
  by_cases hv : v < 0
  · have H : Hid (encW v m = []) := by unfold encW; exact if_neg (by omega)
    go_enter Tryd.func28, Tryd.ntmps28
    go_wp2_with (go_at_call 64; refine (l1In_any _ _ _ _).mono ?_; rintro e w' ⟨rfl, rfl⟩)
    go_ret
    exact ⟨by rw [H.out]; rfl, Below.refl _ _⟩
  obtain ⟨n, rfl⟩ := Int.eq_ofNat_of_zero_le (show 0 ≤ v by omega)
  have hmax : (n : Int) ≤ 9223372036854775807 := (wf_i64 wf).2
  have hv0 : decide ((n : Int) < 0) = false := by simp
  clear wf hv
  go_enter Tryd.func28, Tryd.ntmps28
  go_wp2_with (go_at_call 64; refine (l1In_any _ _ _ _).mono ?_; rintro e w' ⟨rfl, rfl⟩)
  go_loopw [0, 5, 6] (fun nv o i wr => ∃ k : Nat, k ≤ m ∧ i = .int .i64 k ∧ nv = .int .i64 ((n / 256 ^ k : Nat) : Int) ∧ o = .string (bstr (encL n k)) ∧ Below w.heap.size w wr) (fun _ _ i _ => m - (intOf i).toNat)
  case atStart => exact ⟨0, Nat.zero_le _, rfl, by simp, rfl, Below.refl _ _⟩
  case round =>
    obtain ⟨k, hk, rfl, rfl, rfl, hb⟩ := hrel
    obtain ⟨d, hd⟩ : ∃ d, d = n / 256 ^ k := ⟨_, rfl⟩
    have hdn : d ≤ n := by rw [hd]; exact Nat.div_le_self _ _
    rw [← hd]
    have Hd := Lib.hid hd; clear hd
    have hd0 : 0 ≤ (d : Int) := by omega
    by_cases hlt : k < m
    · have ht := text1 wr ((d : Int) % 256) (UInt8.ofNat (d % 256)) (by rw [byte_of _ (by omega)]; omega)
      have hb2 := Lib.hid (hb.alloc hb.size (.cells #[.int .u8 ((d : Int) % 256)] 5))
      have hcat := cat_ok [UInt8.ofNat (d % 256)] (encL n k) (by rw [encL_len]; simp; omega)
      clear hb
      go_wp2
      refine ⟨⟨k + 1, by omega, by go_num, ?_, ?_, hb2.out⟩, by simp [intOf]; omega⟩
      · rw [Nat.pow_succ, ← Nat.div_div_eq_div_mul, ← Hd.out]; go_num
      · rw [bstr_add, encL, ← Hd.out]; rfl
    · obtain rfl : k = m := by omega
      by_cases hz0 : d = 0
      · have H : Hid (encW n k = encL n k) := by
          have h2 : n < 256 ^ k := (div_zero_iff n k).1 (by rw [← Hd.out]; exact hz0)
          exact Lib.hid (encW_yes hz h2)
        subst hz0
        go_wp2
        go_ret
        exact ⟨by rw [H.out]; rfl, hb⟩
      · have H : Hid (encW n k = []) := by
          have h2 : ¬ n < 256 ^ k := fun h => hz0 (by rw [Hd.out]; exact (div_zero_iff n k).2 h)
          exact Lib.hid (encW_no h2)
        have hd1 : 0 < (d : Int) := by omega
        go_wp2
        go_ret
        exact ⟨by rw [H.out]; rfl, hb⟩
set_option maxHeartbeats 800000 in
theorem implEncodeFixed (v z : Int) (w : World) (wf : (Lit.int .i64 v).wf = true) :
    Calls Tryd.prog 26 #[.int .i64 v, .int .i64 z] w fun e w' => e = .returned (.string (bstr (encW v z))) ∧ Below w.heap.size w w' := by
  cases hz : inB z 1 7
  · have H : Hid (encW v z = []) := by unfold encW; rw [hz]; rfl
    go_enter Tryd.func26, Tryd.ntmps26
    go_wp2_with (go_at_call 61; refine (within_any _ _ _ _).mono ?_; rintro e w' ⟨rfl, rfl⟩)
    go_ret
    exact ⟨by rw [H.out]; rfl, Below.refl _ _⟩
  obtain ⟨h1, h7⟩ := inB_yes hz
  obtain ⟨m, rfl⟩ := Int.eq_ofNat_of_zero_le (show 0 ≤ z by omega)
  by_cases hv : v < 0
  · have H : Hid (encW v m = []) := by unfold encW; exact if_neg (by omega)
    go_enter Tryd.func26, Tryd.ntmps26
    go_wp2_with (go_at_call 61; refine (within_any _ _ _ _).mono ?_; rintro e w' ⟨rfl, rfl⟩)
    go_ret
    exact ⟨by rw [H.out]; rfl, Below.refl _ _⟩
  obtain ⟨n, rfl⟩ := Int.eq_ofNat_of_zero_le (show 0 ≤ v by omega)
  have hmax : (n : Int) ≤ 9223372036854775807 := (wf_i64 wf).2
  have hv0 : decide ((n : Int) < 0) = false := by simp
  clear wf hv
  have hpw : (2 : Int) ^ (8 * m) = ((256 ^ m : Nat) : Int) := by rw [← pow_256]; simp
  by_cases hlo : n < 256 ^ m
  · have hd0 : ¬ (0 : Int) < (n : Int) / 2 ^ (8 * m) := by
      have := (div_zero_iff n m).2 hlo
      rw [hpw, ← Int.natCast_ediv]; omega
    have H := Lib.hid (encW_yes hz hlo)
    have hmk := makeB w m m (Nat.le_refl _) (by omega)
    obtain ⟨W1, hW1⟩ : ∃ W1, W1 = w.alloc (.cells (madeCells #[.int .u8 0] m) 5) := ⟨_, rfl⟩
    have hel := encL_len n m
    have hl : LiesB W1 w.heap.size (fillL (encL n m) 0) := by rw [hW1, fillL_zero, hel]; exact LiesB.make w 5 m
    have hbel : Below w.heap.size w W1 := by rw [hW1]; exact (Below.refl _ _).alloc (Nat.le_refl _) _
    have hsz : w.heap.size < W1.heap.size := by rw [hW1]; simp
    rw [← hW1] at hmk
    clear hW1 hlo hpw
    have Hel := Lib.hid hel; clear hel
    go_enter Tryd.func26, Tryd.ntmps26
    go_wp2_with (go_at_call 61; refine (within_any _ _ _ _).mono ?_; rintro e w' ⟨rfl, rfl⟩)
    clear hmk
    go_loopw [25] (fun i wr => ∃ k : Nat, k ≤ m ∧ i = .int .i64 k ∧ LiesB wr w.heap.size (fillL (encL n m) k) ∧ Below w.heap.size w wr ∧ w.heap.size < wr.heap.size) (fun i _ => m - (intOf i).toNat)
    case atStart => exact ⟨0, Nat.zero_le _, rfl, hl, hbel, hsz⟩
    case round =>
      obtain ⟨k, hk, rfl, hlr, hbr, hzr⟩ := hrel
      clear hl hbel hsz
      by_cases hlt : k < m
      · obtain ⟨c0, hc0⟩ : ∃ v, wr.cell? ⟨w.heap.size, k, none⟩ = some v := ⟨_, (hlr k (by rw [fillL_len _ _ (by rw [Hel.out]; exact hk), Hel.out]; exact hlt)).1⟩
        have hf := (hlr k (by rw [fillL_len _ _ (by rw [Hel.out]; exact hk), Hel.out]; exact hlt)).2
        have Hlr := Lib.hid hlr; clear hlr
        have Hbr := Lib.hid hbr; clear hbr
        go_wp2
        refine ⟨⟨k + 1, by omega, by go_num, ?_, Hbr.out.setCell (Nat.le_refl _) _, by simpa [World.setCell] using hzr⟩, by simp [intOf]; omega⟩
        have hs := Hlr.out.set k (by rw [fillL_len _ _ (by rw [Hel.out]; exact hk), Hel.out]; exact hlt) ((encL n m).getD k 0) ((n : Int) / 2 ^ (8 * (m - 1 - k)) % 256) (encL_val n m k hlt)
        rw [fillL_succ _ _ (by rw [Hel.out]; exact hlt)] at hs
        exact hs
      · obtain rfl : k = m := by omega
        have ht := hlr.text (P := Tryd.prog) k k (by rw [fillL_len _ _ (by rw [Hel.out]; exact hk), Hel.out]) 22 9 5 Tryd.underlying22 Tryd.underlying5 Tryd.underlying9
        have e := fillL_all (encL n k)
        rw [Hel.out] at e
        rw [e] at ht
        clear e
        go_wp2
        go_ret
        exact ⟨by rw [H.out]; rfl, hbr⟩
  · have hd0 : (0 : Int) < (n : Int) / 2 ^ (8 * m) := by
      have h3 : ¬ n / 256 ^ m = 0 := fun h => hlo ((div_zero_iff n m).1 h)
      rw [hpw, ← Int.natCast_ediv]; exact Int.natCast_pos.2 (Nat.pos_of_ne_zero h3)
    have H := Lib.hid (encW_no hlo)
    clear hlo hpw
    go_enter Tryd.func26, Tryd.ntmps26
    go_wp2_with (go_at_call 61; refine (within_any _ _ _ _).mono ?_; rintro e w' ⟨rfl, rfl⟩)
    go_ret
    exact ⟨by rw [H.out]; rfl, Below.refl _ _⟩
end Go.Proofs.YtoijjielnbcphaaDoor

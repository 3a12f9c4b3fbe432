/-
  Walks of QGrams (program and reference). Condition: s has at most 2^20 bytes.
-/
import Derived.Test.YtoijjielnbcphaaGreatDoorPutT
import Derived.Test.YtoijjielnbcphaaGreatDoorSets
import Derived.Test.YtoijjielnbcphaaGreatDoorWithin
namespace Go.Proofs.YtoijjielnbcphaaGreatDoor
open Go.RowKit Go.Sort
set_option linter.unusedVariables false
set_option linter.unusedSimpArgs false
set_option maxRecDepth 100000
def grams (s : ByteArray) (q k : Nat) : List ByteArray := (List.range k).map fun i => s.extract i (i + q)
theorem grams_zero (s : ByteArray) (q : Nat) : grams s q 0 = [] := rfl
theorem grams_succ (s : ByteArray) (q k : Nat) : grams s q (k + 1) = grams s q k ++ [s.extract k (k + q)] := by unfold grams; rw [List.range_succ, List.map_append]; rfl
theorem grams_len (s : ByteArray) (q k : Nat) : (grams s q k).length = k := by simp [grams]
/-- All grams of q bytes, in order. -/
def qgr (s : ByteArray) (q : Int) : List ByteArray := if inB q 1 3 = true then srt (grams s q.toNat (s.size + 1 - q.toNat)) else []
def putsT (l : List ByteArray) : List ByteArray := (puts true (l.map bs)).map bstr
theorem putsT_snoc (l : List ByteArray) (s : ByteArray) : putsT (l ++ [s]) = putL true (putsT l) s := by
  unfold putsT putL
  rw [map_bs_bstr, List.map_append]
  simp [puts, List.foldl_append]
theorem putsT_srt (l : List ByteArray) : putsT l = srt l := by unfold putsT srt; rw [puts_sort]
theorem i64q {x : Int} (h : (Lit.int .i64 x).wf = true) : -9223372036854775808 ≤ x ∧ x ≤ 9223372036854775807 := by
  have h2 : IntKind.i64.min ≤ x ∧ x ≤ 9223372036854775807 := by simpa [Lit.wf] using h
  exact h2
theorem qgr_no {s : ByteArray} {q : Int} (h : inB q 1 3 = false) : qgr s q = [] := by unfold qgr; rw [h]; rfl
theorem qgr_yes {s : ByteArray} {Q : Nat} (h : inB (Q : Int) 1 3 = true) : qgr s (Q : Int) = srt (grams s Q (s.size + 1 - Q)) := by unfold qgr; rw [h]; rfl
theorem qgr_len (s : ByteArray) (q : Int) : (qgr s q).length ≤ s.size + 1 := by
  unfold qgr; split
  · rw [srt_len, grams_len]; omega
  · simp
theorem putsT_len (l : List ByteArray) : (putsT l).length = l.length := by rw [putsT_srt, srt_len]
set_option maxHeartbeats 1600000 in
theorem implQGrams (s : ByteArray) (q : Int) (w : World) (hs : s.size ≤ 1048576) (q0 : -9223372036854775808 ≤ q) (q1 : q ≤ 9223372036854775807) :
    Calls Tryz.prog 25 #[.string s, .int .i64 q] w fun e w' => ∃ a c, e = .returned (.slice a (qgr s q).length c) ∧ BldG fS 9 w.heap.size w w' (.slice a (qgr s q).length c) (qgr s q) := by
  cases hq : inB q 1 3
  · have H := Lib.hid (qgr_no (s := s) hq)
    have HQ := Lib.hid hq
    clear hq
    go_enter Tryz.func25, Tryz.ntmps25
    go_wp2_with fail
    refine (within_any q 1 3 _).mono ?_
    rintro e w1 ⟨rfl, rfl⟩
    rw [HQ.out]
    go_wp2
    go_ret
    exact ⟨none, 0, by rw [H.out]; rfl, by rw [H.out]; exact BldG.nil _ _ _⟩
  · obtain ⟨h1, h3⟩ := inB_yes hq
    obtain ⟨Q, rfl⟩ := Int.eq_ofNat_of_zero_le (show 0 ≤ q by omega)
    have H := Lib.hid (qgr_yes (s := s) hq)
    have HQ := Lib.hid hq
    clear hq q0 q1
    obtain ⟨N, hN⟩ : ∃ N, N = s.size + 1 - Q := ⟨_, rfl⟩
    rw [← hN] at H
    have hN1 : N ≤ s.size := by omega
    have hN2 : ∀ k : Nat, k < N → k + Q ≤ s.size := fun k h => by omega
    have hN3 : ∀ k : Nat, ¬ k < N → s.size < k + Q := fun k h => by omega
    have HN2 := Lib.hid hN2
    have HN3 := Lib.hid hN3
    clear hN hN2 hN3
    go_enter Tryz.func25, Tryz.ntmps25
    go_wp2_with fail
    refine (within_any _ 1 3 _).mono ?_
    rintro e w1 ⟨rfl, rfl⟩
    rw [HQ.out]
    go_wp2
    go_loopw [5, 6] (fun v i wr => ∃ k : Nat, k ≤ N ∧ i = .int .i64 k ∧ BldG fS 9 w.heap.size w wr v (grams s Q k)) (fun _ i _ => N - (intOf i).toNat)
    case atStart => exact ⟨0, Nat.zero_le _, rfl, BldG.nil _ _ _⟩
    case round =>
      obtain ⟨k, hk, rfl, hb⟩ := hrel
      have HL := Lib.hid (grams_len s Q k)
      by_cases hlt : k < N
      · have hle := HN2.out k hlt
        have HS := Lib.hid (grams_succ s Q k)
        have hle2 : (k : Int) + (Q : Int) ≤ (s.size : Int) := by omega
        obtain ⟨K, hK⟩ : ∃ K, K = k + Q := ⟨_, rfl⟩
        have e1 : (k : Int) + (Q : Int) = (K : Int) := by omega
        have e2 : k ≤ K := by omega
        have e3 : K ≤ s.size := by omega
        rw [← hK] at HS
        clear hK
        go_wp2_with (at_builtin; refine wpList_pushG rfl _ _ 27 rfl _ _ Tryz.underlying27 _ _ infoS rfl fS_one _ _ rfl hb (s.extract k K) rfl ?_ ?_ ?_; (rw [HL.out]; omega); (rw [HL.out]; omega); intro v' w' hb')
        go_roundw
        case rel => exact ⟨k + 1, by omega, by go_num, by rw [HS.out]; exact hb'⟩
        case measure => simp [intOf]; omega
      · obtain rfl : k = N := by omega
        have hgt := HN3.out k hlt
        have d : decide ((k : Int) + (Q : Int) ≤ (s.size : Int)) = false := decide_eq_false (by omega)
        obtain ⟨a, c, rfl⟩ := hb.form
        have HB := Lib.hid hb
        clear hb
        go_wp2_with fail
        refine (sortO _ (grams s Q k) _ _ HB.out.own (by rw [HL.out]; omega)).mono ?_
        rintro e w2 ⟨rfl, hso, hg⟩
        have hB2 := HB.out.grown (l' := srt (grams s Q k)) hg (by rw [srt_len]; exact hso)
        have HB2 := Lib.hid hB2
        clear hso hg hB2
        go_wp2
        go_ret
        have e : (grams s Q k).length = (qgr s (Q : Int)).length := by rw [H.out, srt_len]
        exact ⟨a, c, by rw [← e]; rfl, by rw [← e, H.out]; exact HB2.out⟩
set_option maxHeartbeats 1600000 in
theorem specQGrams (s : ByteArray) (q : Int) (w : World) (hs : s.size ≤ 1048576) (q0 : -9223372036854775808 ≤ q) (q1 : q ≤ 9223372036854775807) :
    Calls Tryz.prog 27 #[.string s, .int .i64 q] w fun e w' => ∃ b off c, e = .returned (.slice (some ⟨b, off, none⟩) (qgr s q).length c) ∧ RowAt fS w' (some ⟨b, off, none⟩) (qgr s q) ∧ (qgr s q).length ≤ c ∧ Below w.heap.size w w' := by
  cases hq : inB q 1 3
  · have H := Lib.hid (qgr_no (s := s) hq)
    have HQ := Lib.hid hq
    clear hq
    by_cases hle : q ≤ (s.size : Int)
    · go_enter Tryz.func27, Tryz.ntmps27
      go_wp2
      go_loopw [5, 6] (fun v i wr => ∃ b off c, v = .slice (some ⟨b, off, none⟩) 0 c ∧ i = .int .i64 0 ∧ Below w.heap.size w wr) (fun _ i _ => 0)
      case atStart => exact ⟨_, _, _, rfl, rfl, (Below.refl _ _).alloc (Nat.le_refl _) _⟩
      case round =>
        obtain ⟨b, off, c, rfl, rfl, hb⟩ := hrel
        go_wp2_with fail
        refine (l1In_any q 1 3 _).mono ?_
        rintro e w1 ⟨rfl, rfl⟩
        rw [HQ.out]
        go_wp2
        go_ret
        exact ⟨b, off, c, by rw [H.out]; rfl, by rw [H.out]; exact RowAt.nil _ _, by rw [H.out]; exact Nat.zero_le _, hb⟩
    · have d : decide (q ≤ (s.size : Int)) = false := decide_eq_false hle
      go_enter Tryz.func27, Tryz.ntmps27
      go_wp2
      go_loopw [5, 6] (fun v i wr => ∃ b off c, v = .slice (some ⟨b, off, none⟩) 0 c ∧ i = .int .i64 0 ∧ Below w.heap.size w wr) (fun _ i _ => 0)
      case atStart => exact ⟨_, _, _, rfl, rfl, (Below.refl _ _).alloc (Nat.le_refl _) _⟩
      case round =>
        obtain ⟨b, off, c, rfl, rfl, hb⟩ := hrel
        go_wp2
        go_ret
        exact ⟨b, off, c, by rw [H.out]; rfl, by rw [H.out]; exact RowAt.nil _ _, by rw [H.out]; exact Nat.zero_le _, hb⟩
  · obtain ⟨h1, h3⟩ := inB_yes hq
    obtain ⟨Q, rfl⟩ := Int.eq_ofNat_of_zero_le (show 0 ≤ q by omega)
    have H := Lib.hid (qgr_yes (s := s) hq)
    have HQ := Lib.hid hq
    clear hq q0 q1
    obtain ⟨N, hN⟩ : ∃ N, N = s.size + 1 - Q := ⟨_, rfl⟩
    rw [← hN] at H
    have hN1 : N ≤ s.size := by omega
    have hN2 : ∀ k : Nat, k < N → k + Q ≤ s.size := fun k h => by omega
    have hN3 : ∀ k : Nat, ¬ k < N → s.size < k + Q := fun k h => by omega
    have HN2 := Lib.hid hN2
    have HN3 := Lib.hid hN3
    clear hN hN2 hN3
    go_enter Tryz.func27, Tryz.ntmps27
    go_wp2
    go_loopw [5, 6] (fun v i wr => ∃ (k b off c : Nat) (M : List ByteArray), k ≤ N ∧ i = .int .i64 k ∧ M = putsT (grams s Q k) ∧ v = .slice (some ⟨b, off, none⟩) M.length c ∧ RowAt fS wr (some ⟨b, off, none⟩) M ∧ M.length ≤ c ∧ Below w.heap.size w wr) (fun _ i _ => N - (intOf i).toNat)
    case atStart => exact ⟨0, _, _, _, [], Nat.zero_le _, rfl, rfl, rfl, RowAt.nil _ _, Nat.zero_le _, (Below.refl _ _).alloc (Nat.le_refl _) _⟩
    case round =>
      obtain ⟨k, b, off, c, M, hk, rfl, hM, rfl, hrow, hMc, hb⟩ := hrel
      have hMl : M.length ≤ 1048576 := by rw [hM, putsT_len, grams_len]; omega
      have HM := Lib.hid hM
      have HRow := Lib.hid hrow
      clear hM hrow
      by_cases hlt : k < N
      · have hle := HN2.out k hlt
        have HS := Lib.hid (grams_succ s Q k)
        have hle2 : (k : Int) + (Q : Int) ≤ (s.size : Int) := by omega
        obtain ⟨K, hK⟩ : ∃ K, K = k + Q := ⟨_, rfl⟩
        have e1 : (k : Int) + (Q : Int) = (K : Int) := by omega
        have e2 : k ≤ K := by omega
        have e3 : K ≤ s.size := by omega
        rw [← hK] at HS
        obtain ⟨x, hx⟩ : ∃ x, s.extract k K = x := ⟨_, rfl⟩
        have HP : Hid (putL true M x = putsT (grams s Q (k + 1))) := Lib.hid (by rw [HS.out, hx, putsT_snoc, HM.out])
        clear hK HS
        go_wp2_with fail
        refine (l1In_any _ 1 3 _).mono ?_
        rintro e w1 ⟨rfl, rfl⟩
        rw [HQ.out]
        go_wp2_with fail
        refine (l3PutT_any b off c M _ _ HRow.out hMl hMc).mono ?_
        rintro e w2 ⟨b2, o2, c2, rfl, hrow2, hc2, hb2⟩
        (try rw [hx] at hrow2 hc2 ⊢)
        go_wp2
        go_roundw
        case rel => exact ⟨k + 1, b2, o2, c2, _, by omega, by go_num, HP.out, rfl, hrow2, hc2, hb.trans (hb2.mono hb.size)⟩
        case measure => simp [intOf]; omega
      · obtain rfl : k = N := by omega
        have hgt := HN3.out k hlt
        have d : decide ((k : Int) + (Q : Int) ≤ (s.size : Int)) = false := decide_eq_false (by omega)
        have HE : Hid (M = qgr s (Q : Int)) := Lib.hid (by rw [H.out, HM.out, putsT_srt])
        go_wp2
        go_ret
        exact ⟨b, off, c, by rw [← HE.out]; rfl, by rw [← HE.out]; exact HRow.out, by rw [← HE.out]; exact hMc, hb⟩
end Go.Proofs.YtoijjielnbcphaaGreatDoor

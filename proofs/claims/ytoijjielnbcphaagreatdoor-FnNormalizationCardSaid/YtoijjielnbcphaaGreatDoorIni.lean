/-
  Walks of Initials (program and reference). Condition: s has at most 2^20 bytes; the world has its shape.
-/
import Derived.Test.YtoijjielnbcphaaGreatDoorStrip
namespace Go.Proofs.YtoijjielnbcphaaGreatDoor
open Go.RowKit
set_option linter.unusedVariables false
set_option linter.unusedSimpArgs false
set_option maxRecDepth 100000
theorem ini_first (t : ByteArray) (h : 0 < t.size) : ini (t.data.toList.take 1) = [t[0]] := by
  rw [take_snoc t 0 h]; rfl
theorem ini_next (t : ByteArray) (p : Nat) (h : p + 1 < t.size) : ini (t.data.toList.take (p + 1 + 1)) = ini (t.data.toList.take (p + 1)) ++ (if t[p] == 32 then [t[p + 1]] else []) := by
  rw [take_snoc t (p + 1) h]
  unfold ini
  rw [iniA_snoc]
  have hp : p < t.size := by omega
  have hne : ¬ t.data.toList.take (p + 1) = [] := by rw [take_snoc t p hp]; simp
  rw [if_neg hne]
  have hg : (t.data.toList.take (p + 1)).getLast? = some t[p] := by rw [take_snoc t p hp]; simp
  rw [hg]
  by_cases he : t[p] = 32
  · simp [he]
  · simp [he]
theorem ini_at (t : ByteArray) (k : Nat) (h : k ≤ t.size) : (ini (t.data.toList.take k)).length ≤ k := by
  refine Nat.le_trans (ini_len _) ?_
  rw [take_len t k h]; exact Nat.le_refl _
theorem heads_snoc (F : List (List UInt8)) (k : Nat) (h : k < F.length) : (F.take (k + 1)).map (fun x => x.getD 0 0) = (F.take k).map (fun x => x.getD 0 0) ++ [F[k].getD 0 0] := by
  rw [List.take_succ_eq_append_getElem h, List.map_append]; rfl
theorem word_head {x : List UInt8} (h : Word x) : ∃ hs : 0 < (bstr x).size, (bstr x)[0] = x.getD 0 0 := by
  cases x with
  | nil => exact absurd rfl h.1
  | cons c r => exact ⟨by rw [bstr_size]; simp, rfl⟩
set_option maxHeartbeats 800000 in
theorem specInitials (s : ByteArray) (w : World) (hs : s.size ≤ 1048576) :
    Calls Tryz.prog 13 #[.string s] w fun e w' => e = .returned (.string (bstr (ini (norm s.data.toList)))) ∧ Below w.heap.size w w' := by
  have hnl := norm_len s.data.toList
  rw [dlen] at hnl
  obtain ⟨t, ht⟩ : ∃ t, t = bstr (norm s.data.toList) := ⟨_, rfl⟩
  have hts : t.size ≤ 1048576 := by rw [ht, bstr_size]; omega
  have Hd : Hid (ini t.data.toList = ini (norm s.data.toList)) := Lib.hid (by rw [ht, bstr_list])
  have Ht := Lib.hid ht
  clear ht hnl
  go_enter Tryz.func13, Tryz.ntmps13
  go_wp2_with fail
  refine (specNorm s _ hs).mono ?_
  rintro e w1 ⟨rfl, hb1⟩
  rw [← Ht.out]
  have hb0 := (Bld.empty 5 w)
  have hbs : Bld 5 w.heap.size w w1 (.slice (some ⟨w.heap.size, 0, none⟩) 0 0) [] := by
    refine ⟨?_, hb0.bel.trans (hb1.mono hb0.big), Nat.le_trans hb0.big hb1.size⟩
    refine ⟨hb0.own.1, ?_⟩
    rcases hb0.own.2 with h1 | ⟨g, cap, cur, h1, h2, h3, h4⟩
    · exact Or.inl h1
    · exact Or.inr ⟨g, cap, cur, h1, h2, (hb1.block g (Array.getElem?_eq_some_iff.1 h3).1).trans h3, h4⟩
  have HBs := Lib.hid hbs
  clear hb0 hb1 hbs
  go_wp2
  go_loopw [3, 5] (fun v i wr => ∃ k : Nat, k ≤ t.size ∧ i = .int .i64 k ∧ Bld 5 w.heap.size w wr v (ini (t.data.toList.take k))) (fun _ i _ => t.size - (intOf i).toNat)
  case atStart => exact ⟨0, Nat.zero_le _, rfl, HBs.out⟩
  case round =>
    obtain ⟨k, hk, rfl, hb⟩ := hrel
    have HL := Lib.hid (ini_at t k hk)
    by_cases hlt : k < t.size
    · cases k with
      | zero =>
        have H := Lib.hid (ini_first t hlt)
        go_wp2_with (at_builtin; refine wpList_push1 rfl _ _ 22 rfl _ _ Tryz.underlying22 infoB _ _ rfl hb _ t[0] rfl ?_ ?_ ?_; (rfl); (have := HL.out; omega); intro v' w' hb')
        go_roundw
        case rel => exact ⟨1, by omega, by go_num, by rw [H.out]; exact hb'⟩
        case measure => simp [intOf]; omega
      | succ p =>
        have kb : (((p : Int) + 1) == 0) = false := by simp; omega
        have hp : p < t.size := by omega
        cases h32 : ((t[p].toNat : Int) == 32)
        · have H : Hid (ini (t.data.toList.take (p + 1 + 1)) = ini (t.data.toList.take (p + 1))) := Lib.hid (by
            rw [ini_next t p hlt]
            have : (t[p] == 32) = false := by
              rw [beq_eq_false_iff_ne]; intro e; rw [e] at h32; revert h32; decide
            rw [this]; simp)
          go_wp2
          go_roundw
          case rel => exact ⟨p + 1 + 1, by omega, by go_num, by rw [H.out]; exact hb⟩
          case measure => simp [intOf]; omega
        · have H : Hid (ini (t.data.toList.take (p + 1 + 1)) = ini (t.data.toList.take (p + 1)) ++ [t[p + 1]]) := Lib.hid (by
            rw [ini_next t p hlt]
            have : (t[p] == 32) = true := by
              rw [beq_iff_eq]; exact UInt8.toNat_inj.1 (by have := beq_iff_eq.1 h32; show t[p].toNat = 32; omega)
            rw [this]; rfl)
          go_wp2_with (at_builtin; refine wpList_push1 rfl _ _ 22 rfl _ _ Tryz.underlying22 infoB _ _ rfl hb _ t[p + 1] rfl ?_ ?_ ?_; (rfl); (have := HL.out; omega); intro v' w' hb')
          go_roundw
          case rel => exact ⟨p + 1 + 1, by omega, by go_num, by rw [H.out]; exact hb'⟩
          case measure => simp [intOf]; omega
    · obtain rfl : k = t.size := by omega
      rw [take_all, Hd.out] at hb
      have ht := text hb
      go_wp2
      go_ret
      exact ⟨rfl, hb.bel⟩
set_option maxHeartbeats 800000 in
theorem implInitials (s : ByteArray) (w : World) (hsh : Sh w) (hs : s.size ≤ 1048576) :
    Calls Tryz.prog 12 #[.string s] w fun e w' => e = .returned (.string (bstr (ini (norm s.data.toList)))) ∧ Below w.heap.size w w' := by
  have hnl := norm_len s.data.toList
  rw [dlen] at hnl
  have hini := ini_norm s.data.toList
  have hil := ini_len (norm s.data.toList)
  have Ha := Lib.hid (norm_ascii s.data.toList)
  have hwd := flds_word (norm s.data.toList)
  obtain ⟨N, hN⟩ : ∃ N, N = norm s.data.toList := ⟨_, rfl⟩
  rw [← hN] at hini hil hnl Ha hwd
  obtain ⟨F, hF⟩ : ∃ F, F = flds N := ⟨_, rfl⟩
  rw [← hF] at hini hwd
  have hFl : F.length ≤ 1048576 := by rw [hini, List.length_map] at hil; omega
  have HI := Lib.hid hini
  have HN := Lib.hid hN
  have HF := Lib.hid hF
  have HWd := Lib.hid hwd
  have hNl : N.length ≤ 1048576 := by omega
  clear hini hil hN hF hwd
  go_enter Tryz.func12, Tryz.ntmps12
  go_wp2_with fail
  refine (implNorm s _ hsh hs).mono ?_
  rintro e w1 ⟨rfl, hb1⟩
  rw [← HN.out]
  go_wp2_with fail
  refine (implWords N _ Ha.out hNl).mono ?_
  rintro e w2 ⟨A, rfl, hB⟩
  rw [← HF.out] at hB ⊢
  have hbel := hb1.trans (hB.bel.mono hb1.size)
  have HR := Lib.hid hB.row.at
  have HB1 := Lib.hid hbel
  clear hB hb1 hbel
  go_wp2
  go_loopw [3, 10] (fun v i wr => ∃ k : Nat, k ≤ F.length ∧ i = .int .i64 k ∧ Bld 5 w2.heap.size w2 wr v ((F.take k).map fun x => x.getD 0 0)) (fun _ i _ => F.length - (intOf i).toNat)
  case atStart => exact ⟨0, Nat.zero_le _, rfl, Bld.nil _ _⟩
  case round =>
    obtain ⟨k, hk, rfl, hb⟩ := hrel
    by_cases hlt : k < F.length
    · have hlen : k < (F.map bstr).length := by rw [List.length_map]; exact hlt
      obtain ⟨g, off, hg, hc⟩ := (HR.out.below hb.bel).cell k hlen
      have hg2 := (Option.some.inj hg)
      have hg3 : g = A := by injection hg2 with e1 e2 e3; exact e1.symm
      have hg4 : off = 0 := by injection hg2 with e1 e2 e3; exact e2.symm
      subst hg3 hg4
      rw [Nat.zero_add, List.getElem_map] at hc
      clear hg hg2
      obtain ⟨hw1, hw2⟩ := word_head (HWd.out F[k] (List.getElem_mem hlt))
      have HS := Lib.hid (heads_snoc F k hlt)
      obtain ⟨T, hT⟩ : ∃ T, T = bstr F[k] := ⟨_, rfl⟩
      have HT2 : Hid (∃ h : 0 < T.size, T[0] = F[k].getD 0 0) := Lib.hid (by subst hT; exact ⟨hw1, hw2⟩)
      have hTs : 0 < T.size := by rw [hT]; exact hw1
      rw [← hT] at hc
      replace hc : wr.cell? ⟨g, k, none⟩ = some (.string T) := hc
      clear hT hw1 hw2 hlen
      go_wp2_with (at_builtin; refine wpList_push1 rfl _ _ 22 rfl _ _ Tryz.underlying22 infoB _ _ rfl hb _ T[0] rfl ?_ ?_ ?_; (rfl); (rw [List.length_map, List.length_take]; omega); intro v' w' hb')
      go_roundw
      case rel => exact ⟨k + 1, by omega, by go_num, by rw [HS.out]; obtain ⟨q1, q2⟩ := HT2.out; rw [← q2]; exact hb'⟩
      case measure => simp [intOf]; omega
    · obtain rfl : k = F.length := by omega
      rw [List.take_length, ← HI.out] at hb
      have ht := text hb
      go_wp2
      go_ret
      exact ⟨by rw [HN.out]; rfl, HB1.out.trans (hb.bel.mono HB1.out.size)⟩
end Go.Proofs.YtoijjielnbcphaaGreatDoor

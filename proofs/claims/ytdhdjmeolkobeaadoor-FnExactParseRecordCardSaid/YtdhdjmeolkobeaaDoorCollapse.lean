/-
  Walks of CollapseSpaces (program and reference). Condition: s has at most 2^20 bytes.
-/
import Derived.Test.YtdhdjmeolkobeaaDoorFacts
import Derived.Test.YtdhdjmeolkobeaaDoorCollapseLaw
namespace Go.Proofs.YtdhdjmeolkobeaaDoor
open Go.RowKit
set_option linter.unusedVariables false
set_option linter.unusedSimpArgs false

theorem collapse_le (s : ByteArray) (k : Nat) (h : k ≤ s.size) : (collapse (s.data.toList.take k)).length + (if (colSt (s.data.toList.take k)).2 = true ∧ collapse (s.data.toList.take k) ≠ [] then 1 else 0) ≤ k := by
  have := collapse_len (s.data.toList.take k); rw [take_len s k h] at this; exact this

set_option maxHeartbeats 800000 in
theorem specCollapse (s : ByteArray) (w : World) (hs : s.size ≤ 1048576) :
    Calls Tryd.prog 66 #[.string s] w fun e w' => e = .returned (.string (bstr (collapse s.data.toList))) ∧ Below w.heap.size w w' := by
  go_enter Tryd.func66, Tryd.ntmps66
  go_wp2
  go_loopw [3, 4] (fun v i wr => ∃ (k : Nat) (a : Option Addr) (cap : Nat), k ≤ s.size ∧ i = .int .i64 k ∧ v = .slice a (collapse (s.data.toList.take k)).length cap ∧ Bld 5 w.heap.size w wr (.slice a (collapse (s.data.toList.take k)).length cap) (collapse (s.data.toList.take k))) (fun _ i _ => s.size - (intOf i).toNat)
  case atStart => exact ⟨0, _, _, Nat.zero_le _, rfl, rfl, Bld.empty _ _⟩
  case round =>
    obtain ⟨k, a, cap, hk, rfl, rfl, hb⟩ := hrel
    by_cases hlt : k < s.size
    · have hle := collapse_le s k hk
      have hle2 : (collapse (s.data.toList.take k)).length ≤ k := by omega
      have Hle := Lib.hid hle2; clear hle hle2
      have hts := Lib.hid (take_snoc s k hlt)
      by_cases hc : (s[k].toNat : Int) = 32
      · have e : Hid (collapse (s.data.toList.take (k + 1)) = collapse (s.data.toList.take k)) := by rw [hts.out]; exact collapse_space _ _ (byte_eq (n := 32) (by omega) hc)
        obtain ⟨e1, e2⟩ := eqI hc
        clear hc
        go_wp2
        go_roundw
        case rel => exact ⟨k + 1, a, cap, by omega, by go_num, by rw [e.out], by rw [e.out]; exact hb⟩
        case measure => simp [intOf]; omega
      · have hne : s[k] ≠ 32 := byte_ne (n := 32) (by omega) hc
        obtain ⟨e1, e2⟩ := neI hc
        clear hc
        by_cases h0 : collapse (s.data.toList.take k) = []
        · have e : Hid (collapse (s.data.toList.take (k + 1)) = [] ++ [s[k]]) := by rw [hts.out]; exact collapse_first _ _ hne h0
          rw [h0] at hb
          have H0 := Lib.hid h0; clear h0
          have hz : (collapse (s.data.toList.take k)).length = 0 := by rw [H0.out]; rfl
          rw [hz]
          clear hz
          go_wp2_with (at_builtin; refine wpList_push1 rfl _ _ 42 rfl _ _ Tryd.underlying42 infoB _ _ rfl hb _ s[k] rfl rfl (by simp) ?_; intro v' w' hb'; obtain ⟨a', cap', rfl⟩ := hb'.form)
          go_roundw
          case rel => exact ⟨k + 1, a', cap', by omega, by go_num, by rw [e.out]; simp, by rw [e.out]; exact hb'⟩
          case measure => simp [intOf]; omega
        · have hk0 : 0 < k := by
            rcases Nat.eq_zero_or_pos k with h | h
            · subst h; exact absurd rfl h0
            · exact h
          have hpos : 0 < (collapse (s.data.toList.take k)).length := List.length_pos_iff.2 h0
          have h2 : (colSt (s.data.toList.take k)).2 = (s[k - 1] == 32) := by
            obtain ⟨j, rfl⟩ : ∃ j, k = j + 1 := ⟨k - 1, by omega⟩
            rw [take_snoc s j (by omega), colSt_two]
            rfl
          by_cases hp : (s[k - 1].toNat : Int) = 32
          · have e : Hid (collapse (s.data.toList.take (k + 1)) = collapse (s.data.toList.take k) ++ [32] ++ [s[k]]) := by
              rw [hts.out]; exact collapse_gap _ _ hne h0 (by rw [h2, byte_eq (n := 32) (by omega) hp]; rfl)
            obtain ⟨p1, p2⟩ := eqI hp
            clear hp h2 h0
            go_wp2_with (first | (at_builtin; refine wpList_push1 rfl (.tmp 26) (.tmp 27) 42 rfl _ _ Tryd.underlying42 infoB _ _ rfl hb _ 32 rfl rfl (by have := Hle.out; omega) ?_; intro v1 w1 hb1) | (at_builtin; refine wpList_push1 rfl (.tmp 29) (.tmp 33) 42 rfl _ _ Tryd.underlying42 infoB _ _ rfl hb1 _ s[k] rfl rfl (by have := Hle.out; simp; omega) ?_; intro v2 w2 hb2; obtain ⟨a', cap', rfl⟩ := hb2.form))
            go_roundw
            case rel => exact ⟨k + 1, a', cap', by omega, by go_num, by rw [e.out]; simp, by rw [e.out]; exact hb2⟩
            case measure => simp [intOf]; omega
          · have e : Hid (collapse (s.data.toList.take (k + 1)) = collapse (s.data.toList.take k) ++ [s[k]]) := by
              rw [hts.out]; exact collapse_more _ _ hne h0 (by rw [h2]; simpa using byte_ne (n := 32) (by omega) hp)
            obtain ⟨p1, p2⟩ := neI hp
            clear hp h2 h0
            go_wp2_with (at_builtin; refine wpList_push1 rfl (.tmp 29) (.tmp 33) 42 rfl _ _ Tryd.underlying42 infoB _ _ rfl hb _ s[k] rfl rfl (by have := Hle.out; omega) ?_; intro v2 w2 hb2; obtain ⟨a', cap', rfl⟩ := hb2.form)
            go_roundw
            case rel => exact ⟨k + 1, a', cap', by omega, by go_num, by rw [e.out]; simp, by rw [e.out]; exact hb2⟩
            case measure => simp [intOf]; omega
    · obtain rfl : k = s.size := by omega
      have ht := text hb
      rw [take_all] at ht hb
      rw [take_all]
      go_wp2
      go_ret
      exact ⟨rfl, hb.bel⟩

theorem icol_le (s : ByteArray) (k : Nat) (h : k ≤ s.size) : (icol (s.data.toList.take k)).length ≤ k := by
  have := icol_len (s.data.toList.take k); rw [take_len s k h] at this; exact this
theorem last_at (l : List UInt8) (h : 0 < l.length) : l.getLast? = some (l.getD (l.length - 1) 0) := by
  rw [List.getLast?_eq_getElem?, List.getD, List.getElem?_eq_getElem (by omega)]; rfl

theorem last_cases (l : List UInt8) : l = [] ∨ ∃ q z, l = q ++ [z] :=
  snoc_ind (P := fun l => l = [] ∨ ∃ q z, l = q ++ [z]) (Or.inl rfl) (fun q z _ => Or.inr ⟨q, z, rfl⟩) l

set_option maxHeartbeats 400000 in
theorem trimSuffix_none (s t : ByteArray) (w : World) (hs : s.size ≤ 1048576) (ht : t.size = 1) (h0 : s.size = 0) :
    Calls Tryd.prog 100 #[.string s, .string t] w fun e w' => e = .returned (.string s) ∧ w = w' := by
  go_enter Tryd.func100, Tryd.ntmps100
  go_wp2
  go_ret
  exact ⟨rfl, rfl⟩
set_option maxHeartbeats 400000 in
theorem trimSuffix_hit (s t : ByteArray) (w : World) (hs : s.size ≤ 1048576) (ht : t.size = 1) (h0 : 1 ≤ s.size) (hq : ((s.extract (s.size - 1) s.size).toList == t.toList) = true) :
    Calls Tryd.prog 100 #[.string s, .string t] w fun e w' => e = .returned (.string (s.extract 0 (s.size - 1))) ∧ w = w' := by
  go_enter Tryd.func100, Tryd.ntmps100
  go_wp2
  go_ret
  exact ⟨rfl, rfl⟩
set_option maxHeartbeats 400000 in
theorem trimSuffix_miss (s t : ByteArray) (w : World) (hs : s.size ≤ 1048576) (ht : t.size = 1) (h0 : 1 ≤ s.size) (hq : ((s.extract (s.size - 1) s.size).toList == t.toList) = false) :
    Calls Tryd.prog 100 #[.string s, .string t] w fun e w' => e = .returned (.string s) ∧ w = w' := by
  go_enter Tryd.func100, Tryd.ntmps100
  go_wp2
  go_ret
  exact ⟨rfl, rfl⟩
theorem trimSuffix_space (l : List UInt8) (w : World) (hs : l.length ≤ 1048576) :
    Calls Tryd.prog 100 #[.string (bstr l), .string (bstr [32])] w fun e w' => e = .returned (.string (bstr (trim1 l))) ∧ w = w' := by
  rcases last_cases l with rfl | ⟨q, z, rfl⟩
  · exact trimSuffix_none _ _ _ (by simp [bstr_size]) rfl rfl
  · have hn : (bstr (q ++ [z])).size = q.length + 1 := by simp [bstr_size]
    rw [List.length_append, List.length_singleton] at hs
    have hx : (bstr (q ++ [z])).extract ((bstr (q ++ [z])).size - 1) (bstr (q ++ [z])).size = bstr [z] := by
      rw [bstr_extract, hn]; congr 1; simp
    by_cases hz : z = 32
    · subst hz
      refine (trimSuffix_hit _ _ _ (by omega) rfl (by omega) (by rw [hx]; simp [bstr_toList])).mono ?_
      rintro e w' ⟨rfl, rfl⟩
      refine ⟨?_, rfl⟩
      rw [bstr_extract, hn]
      congr 2
      simp [trim1]
    · refine (trimSuffix_miss _ _ _ (by omega) rfl (by omega) (by rw [hx, bstr_toList, bstr_toList]; simpa using hz)).mono ?_
      rintro e w' ⟨rfl, rfl⟩
      exact ⟨by simp [trim1, hz], rfl⟩
set_option maxHeartbeats 800000 in
theorem implCollapse (s : ByteArray) (w : World) (hs : s.size ≤ 1048576) :
    Calls Tryd.prog 74 #[.string s] w fun e w' => e = .returned (.string (bstr (collapse s.data.toList))) ∧ Below w.heap.size w w' := by
  go_enter Tryd.func74, Tryd.ntmps74
  go_wp2
  go_loopw [3, 7] (fun v i wr => ∃ (k : Nat) (a : Option Addr) (cap : Nat), k ≤ s.size ∧ i = .int .i64 k ∧ v = .slice a (icol (s.data.toList.take k)).length cap ∧ Bld 5 w.heap.size w wr (.slice a (icol (s.data.toList.take k)).length cap) (icol (s.data.toList.take k))) (fun _ i _ => s.size - (intOf i).toNat)
  case atStart => exact ⟨0, _, _, Nat.zero_le _, rfl, rfl, Bld.nil _ _⟩
  case round =>
    obtain ⟨k, a, cap, hk, rfl, rfl, hb⟩ := hrel
    by_cases hlt : k < s.size
    · have Hle := Lib.hid (icol_le s k hk)
      have hts := Lib.hid ((congrArg icol (take_snoc s k hlt)).trans (icol_snoc _ _))
      obtain ⟨q, hq⟩ : ∃ q, q = icol (s.data.toList.take k) := ⟨_, rfl⟩
      rw [← hq] at hb Hle hts ⊢
      clear hq
      by_cases hc : (s[k].toNat : Int) = 32
      · have hce : s[k] = 32 := byte_eq (n := 32) (by omega) hc
        obtain ⟨e1, e2⟩ := eqI hc
        by_cases h0 : q = []
        · have e : Hid (icol (s.data.toList.take (k + 1)) = q) := by
            have := hts.out
            apply Lib.hid; rw [this]; unfold icolStep; rw [if_pos ⟨hce, Or.inl h0⟩]
          subst h0
          clear hc hce
          go_wp2
          go_roundw
          case rel => exact ⟨k + 1, a, cap, by omega, by go_num, by rw [e.out], by rw [e.out]; exact hb⟩
          case measure => simp [intOf]; omega
        · have hpos : 0 < q.length := List.length_pos_iff.2 h0
          obtain ⟨g, rfl⟩ : ∃ g : Nat, a = some ⟨g, 0, none⟩ := by
            rcases hb.own.2 with ⟨h1, h2⟩ | ⟨g, _, _, h1, _⟩
            · omega
            · simp only [Value.slice.injEq] at h1; exact ⟨g, h1.1⟩
          have hcell := (hb.cells (q.length - 1) (by omega)).2.2.1
          have hle2 := Hle.out
          have hlast := last_at q hpos
          obtain ⟨z, hz⟩ : ∃ z, z = q.getD (q.length - 1) 0 := ⟨_, rfl⟩
          rw [← hz] at hcell hlast
          clear hz
          have hlen : (0 : Int) < (q.length : Int) := by omega
          by_cases hp : (z.toNat : Int) = 32
          · have e : Hid (icol (s.data.toList.take (k + 1)) = q) := by
              have := hts.out
              apply Lib.hid; rw [this]; unfold icolStep; rw [if_pos ⟨hce, Or.inr (by rw [hlast, byte_eq (n := 32) (by omega) hp]; rfl)⟩]
            obtain ⟨p1, p2⟩ := eqI hp
            clear hc hce hp h0 hlast
            go_wp2
            go_roundw
            case rel => exact ⟨k + 1, _, cap, by omega, by go_num, by rw [e.out], by rw [e.out]; exact hb⟩
            case measure => simp [intOf]; omega
          · have e : Hid (icol (s.data.toList.take (k + 1)) = q ++ [s[k]]) := by
              have := hts.out
              have hz2 : z ≠ 32 := by simpa using byte_ne (n := 32) (by omega) hp
              apply Lib.hid; rw [this]; unfold icolStep; rw [if_neg]; rintro ⟨_, h | h⟩
              · exact h0 h
              · rw [hlast] at h; exact hz2 (Option.some.inj h)
            obtain ⟨p1, p2⟩ := neI hp
            clear hc hce hp h0 hlast
            go_wp2_with (at_builtin; refine wpList_push1 rfl _ _ 42 rfl _ _ Tryd.underlying42 infoB _ _ rfl hb _ s[k] rfl rfl (by omega) ?_; intro v2 w2 hb2; obtain ⟨a', cap', rfl⟩ := hb2.form)
            go_roundw
            case rel => exact ⟨k + 1, a', cap', by omega, by go_num, by rw [e.out]; simp, by rw [e.out]; exact hb2⟩
            case measure => simp [intOf]; omega
      · have hne : s[k] ≠ 32 := byte_ne (n := 32) (by omega) hc
        have e : Hid (icol (s.data.toList.take (k + 1)) = q ++ [s[k]]) := by
          have := hts.out
          apply Lib.hid; rw [this]; unfold icolStep; rw [if_neg]; rintro ⟨h, _⟩; exact hne h
        have hle2 := Hle.out
        obtain ⟨e1, e2⟩ := neI hc
        clear hc hne
        go_wp2_with (at_builtin; refine wpList_push1 rfl _ _ 42 rfl _ _ Tryd.underlying42 infoB _ _ rfl hb _ s[k] rfl rfl (by omega) ?_; intro v2 w2 hb2; obtain ⟨a', cap', rfl⟩ := hb2.form)
        go_roundw
        case rel => exact ⟨k + 1, a', cap', by omega, by go_num, by rw [e.out]; simp, by rw [e.out]; exact hb2⟩
        case measure => simp [intOf]; omega
    · obtain rfl : k = s.size := by omega
      have ht := text hb
      rw [take_all] at ht hb
      rw [take_all]
      have hl := icol_le s s.size (Nat.le_refl _)
      rw [take_all] at hl
      have Hl := Lib.hid hl; clear hl
      have Htr := Lib.hid (trim1_icol s.data.toList)
      go_wp2_with (go_at_call 100; refine (trimSuffix_space _ _ (by have := Hl.out; omega)).mono ?_; rintro e w' ⟨rfl, rfl⟩)
      go_ret
      exact ⟨by rw [← Htr.out]; rfl, hb.bel⟩
end Go.Proofs.YtdhdjmeolkobeaaDoor

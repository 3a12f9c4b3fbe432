/-
  Walks of Soundex and SoundsAlike (program and reference). Condition: s has at most 2^20 bytes; the table of codes holds what the program lays.
-/
import Derived.Test.YtoijjielnbcphaaDoorSoundCode
import Derived.Test.YtoijjielnbcphaaDoorFold
namespace Go.Proofs.YtoijjielnbcphaaDoor
open Go.RowKit
set_option linter.unusedVariables false
set_option linter.unusedSimpArgs false
set_option maxRecDepth 100000
theorem take_one (s : ByteArray) (h : 0 < s.size) : s.data.toList.take 1 = [s[0]] := by
  rw [take_snoc s 0 h]; rfl
theorem ext_one (s : ByteArray) (h : 0 < s.size) : s.extract 0 1 = bstr [s[0]] := by
  rw [extract_bstr, ← take_one s h]; rfl
theorem bstr_addX (a b : List UInt8) : bstr a ++ bstr b = bstr (a ++ b) := by apply ByteArray.ext; simp [bstr]
theorem empty_of {s : ByteArray} (h : s.size = 0) : s = ⟨#[]⟩ := by
  cases s with | mk d => simp [ByteArray.size] at h; subst h; rfl
theorem ne_empty {s : ByteArray} (h : 0 < s.size) : s.toList.isEmpty = false := by
  rw [List.isEmpty_eq_false_iff, toList_eq]; intro e; have := dlen s; rw [e] at this; simp at this; omega
theorem max_take (s : ByteArray) (k : Nat) (h : k < s.size) (h1 : 1 ≤ k) : sx (s.data.toList.take (max (k + 1) 1)) = sxStep (sx (s.data.toList.take (max k 1))) s[k] := by
  rw [Nat.max_eq_left (by omega), Nat.max_eq_left h1, sx_take s k h h1]
theorem max_len (s : ByteArray) (k : Nat) (h : k ≤ s.size) : (sx (s.data.toList.take (max k 1))).1.length ≤ max k 1 := by
  refine Nat.le_trans (sx_len _).1 ?_
  rw [List.length_take]; omega
theorem Bld.below {e : TypeId} {B : Nat} {w0 w w' : World} {v : Value} {l : List UInt8} (h : Bld e B w0 w v l) (hb : Below w.heap.size w w') : Bld e B w0 w' v l := by
  refine ⟨⟨h.own.1, ?_⟩, h.bel.trans (hb.mono h.big), Nat.le_trans h.big hb.size⟩
  rcases h.own.2 with h1 | ⟨g, cap, cur, h1, h2, h3, h4⟩
  · exact Or.inl h1
  · exact Or.inr ⟨g, cap, cur, h1, h2, (hb.block g (Array.getElem?_eq_some_iff.1 h3).1).trans h3, h4⟩
theorem BldM.rebase {e : TypeId} {B B0 : Nat} {w0 w00 w : World} {v : Value} {l : List UInt8} (h : BldM e B w0 w v l) (hb : Below B0 w00 w0) (hB : B0 ≤ B) : BldM e B0 w00 w v l := by
  obtain ⟨g, cap, cur, fz, h1, h2, h3⟩ := h.own
  exact ⟨⟨g, cap, cur, fz, h1, Nat.le_trans hB h2, h3⟩, hb.trans (h.bel.mono hB), Nat.le_trans hB h.big⟩
set_option maxHeartbeats 1600000 in
theorem implSoundex (s : ByteArray) (w : World) (ev : Snd w) (hs : s.size ≤ 1048576) :
    Calls Tryd.prog 8 #[.string s] w fun e w' => e = .returned (.string (bstr (sndx s.data.toList))) ∧ Below w.heap.size w w' := by
  by_cases h0 : s.size = 0
  · obtain rfl := empty_of h0
    clear h0
    go_enter Tryd.func8, Tryd.ntmps8
    go_wp2
    go_ret
    exact ⟨rfl, Below.refl _ _⟩
  · have h1 : 0 < s.size := by omega
    have n1 := ne_empty h1
    have xa := ext_one s h1
    have lc : (bstr [s[0]]).size ≤ 1048576 := by rw [bstr_size]; simp
    clear h0
    go_enter Tryd.func8, Tryd.ntmps8
    go_wp2_with fail
    refine (implFoldCase (bstr [s[0]]) _ lc).mono ?_
    rintro e w1 ⟨rfl, hb1⟩
    rw [bstr_list]
    go_wp2_with fail
    rw [Lib.run_convert_string_bytes w1 9 22 5 _ Tryd.underlying9 Tryd.underlying22 Tryd.underlying5]
    have hB := (BldM.conv w1 5 (bstr (fold [s[0]])) (by rw [bstr_size]; simp [fold])).rebase hb1 hb1.size
    rw [bstr_list] at hB
    obtain ⟨V, hV⟩ : ∃ V, V = Value.slice (some ⟨w1.heap.size, 0, none⟩) (bstr (fold [s[0]])).size (grownCap w1 (bstr (fold [s[0]])).size 0 5) := ⟨_, rfl⟩
    obtain ⟨W, hW⟩ : ∃ W, W = Lib.bytesWorld w1 5 (bstr (fold [s[0]])) := ⟨_, rfl⟩
    rw [← hV, ← hW] at hB ⊢
    have HT := Lib.hid (take_one s h1)
    have HB : Hid (BldM 5 w.heap.size w W V (sx (s.data.toList.take (max 0 1))).1) := Lib.hid (by
      rw [Nat.max_eq_right (by omega), HT.out]; exact hB)
    clear hV hW hB hb1 xa lc n1
    have evW : Snd W := ev.below HB.out.bel
    go_wp2_with (go_at_call 16; refine (implSoundCode s[0] _ evW).mono ?_; rintro e w' ⟨rfl, rfl⟩)
    obtain ⟨p0, hp0⟩ : ∃ p, p = Value.int .i64 (sc s[0]) := ⟨_, rfl⟩
    have HP : Hid (p0 = .int .i64 (sx (s.data.toList.take (max 0 1))).2) := Lib.hid (by
      rw [Nat.max_eq_right (by omega), HT.out]; exact hp0)
    rw [← hp0]
    clear hp0 evW
    go_loopw [3, 4, 18] (fun v q i wr => ∃ k : Nat, k ≤ s.size ∧ i = .int .i64 k ∧ q = .int .i64 (sx (s.data.toList.take (max k 1))).2 ∧ BldM 5 w.heap.size w wr v (sx (s.data.toList.take (max k 1))).1 ∧ badS (s.data.toList.take k) = false) (fun _ _ i _ => s.size - (intOf i).toNat)
    case atStart => exact ⟨0, Nat.zero_le _, rfl, HP.out, HB.out, rfl⟩
    case round =>
      obtain ⟨k, hk, rfl, hq, hb, hbad⟩ := hrel
      have HL := Lib.hid (max_len s k hk)
      have Hbad := Lib.hid hbad
      clear hbad HB HP HT
      by_cases hlt : k < s.size
      · have hev : Snd wr := ev.below hb.bel
        cases hz2 : (sc s[k] == -2)
        · have Hb2 : Hid (badS (s.data.toList.take (k + 1)) = false) := Lib.hid (badS_take s k hlt Hbad.out hz2)
          have HQ := Lib.hid hq
          clear hq
          rcases Nat.eq_zero_or_pos k with rfl | hk1
          · have z2 := hz2
            go_wp2_with (go_at_call 16; refine (implSoundCode s[0] _ hev).mono ?_; rintro e w' ⟨rfl, rfl⟩)
            go_roundw
            case rel => exact ⟨1, by omega, by go_num, HQ.out, hb, Hb2.out⟩
            case measure => simp [intOf]; omega
          · have kb : ((k : Int) == 0) = false := by simp; omega
            have hr := sc_range s[k]
            have hmt := max_take s k hlt hk1
            obtain ⟨z, hz⟩ : ∃ z, z = sc s[k] := ⟨_, rfl⟩
            obtain ⟨p, hp⟩ : ∃ p, p = (sx (s.data.toList.take (max k 1))).2 := ⟨_, rfl⟩
            have hq2 := HQ.out
            rw [← hp] at hq2
            subst hq2
            clear HQ
            by_cases hn : 0 ≤ sc s[k]
            · have zn : decide (z < 0) = false := by rw [hz]; simp; exact hn
              by_cases h1p : 0 < sc s[k] ∧ sc s[k] ≠ (sx (s.data.toList.take (max k 1))).2
              · have Hst : Hid (sx (s.data.toList.take (max (k + 1) 1)) = ((sx (s.data.toList.take (max k 1))).1 ++ [dch z.toNat], z)) := Lib.hid (by
                  rw [hmt, step_push h1p.1 h1p.2, ← hz])
                have zp : decide (0 < z) = true := by rw [hz]; simp; exact h1p.1
                have zq : (z != p) = true := by rw [bne_iff_ne, hz, hp]; exact h1p.2
                rw [← hz] at hr hz2
                have hd : 48 + z = ((dch z.toNat).toNat : Int) := by rw [digit_toNat _ (by omega)]; omega
                have Hd := Lib.hid hd
                have HZ := Lib.hid hz
                clear hmt hp h1p hn hd hz
                go_wp2_with (first
                  | (go_at_call 16; refine (implSoundCode s[k] _ hev).mono ?_; rintro e w' ⟨rfl, rfl⟩; rw [← HZ.out])
                  | (at_builtin; refine wpList_pushM rfl _ _ 22 rfl _ _ Tryd.underlying22 infoB _ _ rfl hb _ (dch z.toNat) rfl ?_ ?_ ?_; (exact Hd.out); (have := HL.out; omega); intro v' w' hb'))
                go_roundw
                case rel => exact ⟨k + 1, by omega, by go_num, by rw [Hst.out], by rw [Hst.out]; exact hb', Hb2.out⟩
                case measure => simp [intOf]; omega
              · have Hst : Hid (sx (s.data.toList.take (max (k + 1) 1)) = ((sx (s.data.toList.take (max k 1))).1, z)) := Lib.hid (by
                  rw [hmt, step_set hn h1p, ← hz])
                rw [← hz] at hr hz2
                have HZ := Lib.hid hz
                by_cases h0p : 0 < z
                · have zp : decide (0 < z) = true := by simp; exact h0p
                  have zq : (z != p) = false := by
                    rw [bne_eq_false_iff_eq, hz, hp]
                    exact Decidable.byContradiction fun e => h1p ⟨by rw [← hz]; exact h0p, e⟩
                  clear hmt hp h1p hn hz
                  go_wp2_with (go_at_call 16; refine (implSoundCode s[k] _ hev).mono ?_; rintro e w' ⟨rfl, rfl⟩; rw [← HZ.out])
                  go_roundw
                  case rel => exact ⟨k + 1, by omega, by go_num, by rw [Hst.out], by rw [Hst.out]; exact hb, Hb2.out⟩
                  case measure => simp [intOf]; omega
                · have zp : decide (0 < z) = false := by simp; omega
                  clear hmt hp h1p hn hz
                  go_wp2_with (go_at_call 16; refine (implSoundCode s[k] _ hev).mono ?_; rintro e w' ⟨rfl, rfl⟩; rw [← HZ.out])
                  go_roundw
                  case rel => exact ⟨k + 1, by omega, by go_num, by rw [Hst.out], by rw [Hst.out]; exact hb, Hb2.out⟩
                  case measure => simp [intOf]; omega
            · have Hst : Hid (sx (s.data.toList.take (max (k + 1) 1)) = sx (s.data.toList.take (max k 1))) := Lib.hid (by
                rw [hmt, step_keep hn])
              have zn : decide (z < 0) = true := by rw [hz]; simp; omega
              rw [← hz] at hr hz2
              have HZ := Lib.hid hz
              have HP := Lib.hid hp
              clear hmt hp hn hz
              go_wp2_with (go_at_call 16; refine (implSoundCode s[k] _ hev).mono ?_; rintro e w' ⟨rfl, rfl⟩; rw [← HZ.out])
              go_roundw
              case rel => exact ⟨k + 1, by omega, by go_num, by rw [Hst.out, HP.out], by rw [Hst.out]; exact hb, Hb2.out⟩
              case measure => simp [intOf]; omega
        · have H : Hid (bstr (sndx s.data.toList) = ⟨#[]⟩) := Lib.hid (by rw [sndx_bad (badS_at s k hlt hz2)]; rfl)
          clear hq
          go_wp2_with (go_at_call 16; refine (implSoundCode s[k] _ hev).mono ?_; rintro e w' ⟨rfl, rfl⟩)
          go_ret
          exact ⟨by rw [H.out]; rfl, hb.bel⟩
      · obtain rfl : k = s.size := by omega
        have hmx : s.data.toList.take (max s.size 1) = s.data.toList := by rw [Nat.max_eq_left (by omega), take_all]
        rw [hmx] at hb
        have hbd := Hbad.out
        rw [take_all] at hbd
        obtain ⟨L, hL⟩ : ∃ L, L = (sx s.data.toList).1 := ⟨_, rfl⟩
        have hll := (sx_len s.data.toList).1
        rw [← hL, dlen] at hll
        rw [← hL] at hb
        have HX : Hid (bstr ((L ++ [48, 48, 48]).take 4) = bstr (sndx s.data.toList)) := Lib.hid (by
          rw [sndx_ok hbd (by intro e; have := dlen s; rw [e] at this; simp at this; omega), ← hL])
        have hL1 : 1 ≤ L.length := by rw [hL]; exact (sx_len _).2 (by intro e; have := dlen s; rw [e] at this; simp at this; omega)
        have ht := textM hb
        have hcat : bstr L ++ (⟨#[48, 48, 48]⟩ : ByteArray) = bstr (L ++ [48, 48, 48]) := bstr_addX L [48, 48, 48]
        have hsz : (bstr (L ++ [48, 48, 48])).size = L.length + 3 := by rw [bstr_size]; simp
        have hex : (bstr (L ++ [48, 48, 48])).extract 0 4 = bstr ((L ++ [48, 48, 48]).take 4) := by rw [bstr_extract]; rfl
        clear hL hmx hbd HL Hbad hq
        have hfit : ¬ 9223372036854775807 < (bstr L).size + 3 := by rw [bstr_size]; omega
        go_wp2
        go_ret
        exact ⟨by rw [← HX.out]; rfl, hb.bel⟩
theorem pad_start (L : List UInt8) : (L ++ [48, 48, 48]).take (L.take 4).length = L.take 4 := by
  rw [List.length_take]
  by_cases h : 4 ≤ L.length
  · rw [Nat.min_eq_left h, List.take_append_of_le_length h]
  · rw [Nat.min_eq_right (by omega), List.take_append_of_le_length (Nat.le_refl _), List.take_length, List.take_of_length_le (by omega)]
theorem pad_over (L R : List UInt8) (n : Nat) (h : L.length ≤ n) : (L ++ R).take n = L ++ R.take (n - L.length) := by
  rw [List.take_append, List.take_of_length_le h]
theorem pad_step (L : List UInt8) (m : Nat) (h1 : 1 ≤ L.length) (hm : (L.take 4).length ≤ m) (h4 : m < 4) : (L ++ [48, 48, 48]).take (m + 1) = (L ++ [48, 48, 48]).take m ++ [48] := by
  rw [List.length_take] at hm
  rw [pad_over L _ (m + 1) (by omega), pad_over L _ m (by omega), List.append_assoc]
  obtain ⟨d, hd⟩ : ∃ d, m - L.length = d := ⟨_, rfl⟩
  have e1 : m + 1 - L.length = d + 1 := by omega
  rw [e1, hd]
  have hd : d = 0 ∨ d = 1 ∨ d = 2 := by omega
  rcases hd with rfl | rfl | rfl <;> rfl
theorem take4_push (L : List UInt8) (d : UInt8) (h : (L.take 4).length < 4) : (L ++ [d]).take 4 = L.take 4 ++ [d] := by
  rw [List.length_take] at h
  rw [List.take_of_length_le (by simp; omega), List.take_of_length_le (by omega)]
theorem take4_keep (L : List UInt8) (d : UInt8) (h : ¬ (L.take 4).length < 4) : (L ++ [d]).take 4 = L.take 4 := by
  rw [List.length_take] at h
  rw [List.take_append_of_le_length (by omega)]
def lenOfV : Value → Nat
  | .slice _ n _ => n
  | _ => 0
theorem take4_len (L : List UInt8) : (L.take 4).length ≤ 4 := by rw [List.length_take]; omega
set_option maxHeartbeats 1600000 in
theorem specSoundex (s : ByteArray) (w : World) (hs : s.size ≤ 1048576) :
    Calls Tryd.prog 9 #[.string s] w fun e w' => e = .returned (.string (bstr (sndx s.data.toList))) ∧ Below w.heap.size w w' := by
  go_enter Tryd.func9, Tryd.ntmps9
  go_wp2
  go_loopw [3, 4, 5] (fun v q i wr => ∃ k : Nat, k ≤ s.size ∧ i = .int .i64 k ∧ q = .int .i64 (sx (s.data.toList.take k)).2 ∧ Bld 5 w.heap.size w wr v ((sx (s.data.toList.take k)).1.take 4) ∧ badS (s.data.toList.take k) = false) (fun _ _ i _ => s.size - (intOf i).toNat)
  case atStart => exact ⟨0, Nat.zero_le _, rfl, rfl, Bld.empty _ _, rfl⟩
  case round =>
    obtain ⟨k, hk, rfl, hq, hb, hbad⟩ := hrel
    have Hbad := Lib.hid hbad
    have HQ := Lib.hid hq
    clear hbad hq
    by_cases hlt : k < s.size
    · cases hz2 : (sc s[k] == -2)
      · have Hb2 : Hid (badS (s.data.toList.take (k + 1)) = false) := Lib.hid (badS_take s k hlt Hbad.out hz2)
        rcases Nat.eq_zero_or_pos k with rfl | hk1
        · have xa := ext_one s hlt
          have lc : (bstr [s[0]]).size ≤ 1048576 := by rw [bstr_size]; simp
          have lf : 0 < (bstr (fold [s[0]])).size := by rw [bstr_size]; simp [fold]
          have Hst : Hid (sx (s.data.toList.take 1) = ([low s[0]], sc s[0])) := Lib.hid (by rw [take_one s hlt]; rfl)
          have Hlo : Hid ((bstr (fold [s[0]]))[0] = low s[0]) := Lib.hid rfl
          replace hb : Bld 5 w.heap.size w wr _ [] := hb
          obtain ⟨a, cp, hv⟩ := hb.form
          subst hv
          go_wp2_with (first
            | (go_at_call 17; refine (specSoundCode s[0] _).mono ?_; rintro e w1 ⟨rfl, hb1⟩)
            | (go_at_call 10; refine (specFoldCase (bstr [s[0]]) _ lc).mono ?_; rintro e w2 ⟨rfl, hb2⟩; rw [bstr_list])
            | (at_builtin; refine wpList_push1 rfl _ _ 22 rfl _ _ Tryd.underlying22 infoB _ _ rfl ((hb.below hb1).below hb2) _ ((bstr (fold [s[0]]))[0]) rfl ?_ ?_ ?_; (rfl); (simp); intro v' w' hb'))
          go_roundw
          case rel => exact ⟨1, by omega, by go_num, by rw [Hst.out], by rw [Hst.out]; exact hb', Hb2.out⟩
          case measure => simp [intOf]; omega
        · have kb : ((k : Int) == 0) = false := by simp; omega
          have hr := sc_range s[k]
          have hmt := sx_take s k hlt hk1
          obtain ⟨z, hz⟩ : ∃ z, z = sc s[k] := ⟨_, rfl⟩
          obtain ⟨p, hp⟩ : ∃ p, p = (sx (s.data.toList.take k)).2 := ⟨_, rfl⟩
          obtain ⟨L, hL⟩ : ∃ L, L = (sx (s.data.toList.take k)).1 := ⟨_, rfl⟩
          have hq2 := HQ.out
          rw [← hp] at hq2
          rw [← hL] at hb
          obtain ⟨O, hO⟩ : ∃ O, O = L.take 4 := ⟨_, rfl⟩
          have hl4 := take4_len L
          rw [← hO] at hb hl4
          subst hq2
          clear HQ
          obtain ⟨a, cp, hv⟩ := hb.form
          subst hv
          by_cases hn : 0 ≤ sc s[k]
          · have zn : decide (0 ≤ z) = true := by rw [hz]; simp; exact hn
            by_cases h1p : 0 < sc s[k] ∧ sc s[k] ≠ (sx (s.data.toList.take k)).2
            · have hst : sx (s.data.toList.take (k + 1)) = (L ++ [dch z.toNat], z) := by rw [hmt, step_push h1p.1 h1p.2, ← hz, ← hL]
              have zp : decide (0 < z) = true := by rw [hz]; simp; exact h1p.1
              have zq : (z != p) = true := by rw [bne_iff_ne, hz, hp]; exact h1p.2
              rw [← hz] at hr hz2
              have hd : 48 + z = ((dch z.toNat).toNat : Int) := by rw [digit_toNat _ (by omega)]; omega
              have Hd := Lib.hid hd
              have HZ := Lib.hid hz
              have Hst := Lib.hid hst
              by_cases h4 : O.length < 4
              · have Ht4 : Hid ((L ++ [dch z.toNat]).take 4 = O ++ [dch z.toNat]) := Lib.hid (by rw [hO]; exact take4_push L (dch z.toNat) (by rw [← hO]; exact h4))
                have h44 : decide ((O.length : Int) < 4) = true := decide_eq_true (by omega)
                clear hO hmt hp h1p hn hd hz hL hst
                go_wp2_with (first
                  | (go_at_call 17; refine (specSoundCode s[k] _).mono ?_; rintro e w1 ⟨rfl, hb1⟩; rw [← HZ.out])
                  | (at_builtin; refine wpList_push1 rfl _ _ 22 rfl _ _ Tryd.underlying22 infoB _ _ rfl (hb.below hb1) _ (dch z.toNat) rfl ?_ ?_ ?_; (exact Hd.out); (omega); intro v' w' hb'))
                go_roundw
                case rel => exact ⟨k + 1, by omega, by go_num, by rw [Hst.out], by rw [Hst.out, Ht4.out]; exact hb', Hb2.out⟩
                case measure => simp [intOf]; omega
              · have Ht4 : Hid ((L ++ [dch z.toNat]).take 4 = O) := Lib.hid (by rw [hO]; exact take4_keep L (dch z.toNat) (by rw [← hO]; exact h4))
                have h44 : decide ((O.length : Int) < 4) = false := decide_eq_false (by omega)
                clear hO hmt hp h1p hn hd hz hL hst
                go_wp2_with (go_at_call 17; refine (specSoundCode s[k] _).mono ?_; rintro e w1 ⟨rfl, hb1⟩; rw [← HZ.out])
                go_roundw
                case rel => exact ⟨k + 1, by omega, by go_num, by rw [Hst.out], by rw [Hst.out, Ht4.out]; exact hb.below hb1, Hb2.out⟩
                case measure => simp [intOf]; omega
            · have HO := Lib.hid hO
              have Hst : Hid (sx (s.data.toList.take (k + 1)) = (L, z)) := Lib.hid (by rw [hmt, step_set hn h1p, ← hz, ← hL])
              rw [← hz] at hr hz2
              have HZ := Lib.hid hz
              by_cases h0p : 0 < z
              · have zp : decide (0 < z) = true := by simp; exact h0p
                have zq : (z != p) = false := by
                  rw [bne_eq_false_iff_eq, hz, hp]
                  exact Decidable.byContradiction fun e => h1p ⟨by rw [← hz]; exact h0p, e⟩
                clear hO hmt hp h1p hn hz hL
                go_wp2_with (go_at_call 17; refine (specSoundCode s[k] _).mono ?_; rintro e w1 ⟨rfl, hb1⟩; rw [← HZ.out])
                go_roundw
                case rel => exact ⟨k + 1, by omega, by go_num, by rw [Hst.out], by rw [Hst.out, ← HO.out]; exact hb.below hb1, Hb2.out⟩
                case measure => simp [intOf]; omega
              · have zp : decide (0 < z) = false := by simp; omega
                clear hO hmt hp h1p hn hz hL
                go_wp2_with (go_at_call 17; refine (specSoundCode s[k] _).mono ?_; rintro e w1 ⟨rfl, hb1⟩; rw [← HZ.out])
                go_roundw
                case rel => exact ⟨k + 1, by omega, by go_num, by rw [Hst.out], by rw [Hst.out, ← HO.out]; exact hb.below hb1, Hb2.out⟩
                case measure => simp [intOf]; omega
          · have HO := Lib.hid hO
            have Hst : Hid (sx (s.data.toList.take (k + 1)) = (L, p)) := Lib.hid (by rw [hmt, step_keep hn, hL, hp])
            have zn : decide (0 ≤ z) = false := by rw [hz]; simp; omega
            have zp : decide (0 < z) = false := by rw [hz]; simp; omega
            rw [← hz] at hr hz2
            have HZ := Lib.hid hz
            clear hO hmt hp hn hz hL
            go_wp2_with (go_at_call 17; refine (specSoundCode s[k] _).mono ?_; rintro e w1 ⟨rfl, hb1⟩; rw [← HZ.out])
            go_roundw
            case rel => exact ⟨k + 1, by omega, by go_num, by rw [Hst.out], by rw [Hst.out, ← HO.out]; exact hb.below hb1, Hb2.out⟩
            case measure => simp [intOf]; omega
      · have H : Hid (bstr (sndx s.data.toList) = ⟨#[]⟩) := Lib.hid (by rw [sndx_bad (badS_at s k hlt hz2)]; rfl)
        clear HQ
        go_wp2_with (go_at_call 17; refine (specSoundCode s[k] _).mono ?_; rintro e w1 ⟨rfl, hb1⟩)
        go_ret
        exact ⟨by rw [H.out]; rfl, (hb.below hb1).bel⟩
    · obtain rfl : k = s.size := by omega
      have hbd := Hbad.out
      rw [take_all] at hb hbd
      clear HQ Hbad
      obtain ⟨L, hL⟩ : ∃ L, L = (sx s.data.toList).1 := ⟨_, rfl⟩
      rw [← hL] at hb
      obtain ⟨a, cp, hv⟩ := hb.form
      have hl4 := take4_len L
      by_cases h0 : s.size = 0
      · have hL0 : L = [] := by
          have := (sx_len s.data.toList).1; rw [← hL, dlen] at this
          exact List.length_eq_zero_iff.1 (by omega)
        have H : Hid (bstr (sndx s.data.toList) = ⟨#[]⟩) := Lib.hid (by rw [empty_of h0]; rfl)
        subst hL0
        subst hv
        clear hL hbd h0
        go_wp2
        go_ret
        exact ⟨by rw [H.out]; rfl, hb.bel⟩
      · have hne : s.data.toList ≠ [] := by intro e; have := dlen s; rw [e] at this; simp at this; omega
        have hL1 : 1 ≤ L.length := by rw [hL]; exact (sx_len _).2 hne
        have HX : Hid (bstr ((L ++ [48, 48, 48]).take 4) = bstr (sndx s.data.toList)) := Lib.hid (by rw [sndx_ok hbd hne, ← hL])
        have hl1 : (((L.take 4).length : Int) == 0) = false := beq_eq_false_iff_ne.2 (by rw [List.length_take]; omega)
        have HST := Lib.hid (pad_start L)
        have HPS : ∀ m, (L.take 4).length ≤ m → m < 4 → (L ++ [48, 48, 48]).take (m + 1) = (L ++ [48, 48, 48]).take m ++ [48] := fun m => pad_step L m hL1
        have HPL : ∀ m, m ≤ 4 → ((L ++ [48, 48, 48]).take m).length = m := fun m hm => by rw [List.length_take, List.length_append]; simp; omega
        have Hps := Lib.hid HPS
        have Hpl := Lib.hid HPL
        obtain ⟨O, hO⟩ : ∃ O, O = L.take 4 := ⟨_, rfl⟩
        rw [← hO] at hb hl4 hl1 HST hv Hps
        have HO := Lib.hid hO
        have hbel := Lib.hid hb
        subst hv
        clear hL hbd hO HPS HPL hb
        go_wp2
        go_loopw [3] (fun v wr2 => ∃ m : Nat, O.length ≤ m ∧ m ≤ 4 ∧ Bld 5 w.heap.size w wr2 v ((L ++ [48, 48, 48]).take m)) (fun v _ => 4 - lenOfV v)
        case atStart => exact ⟨O.length, Nat.le_refl _, hl4, by rw [HST.out]; exact hbel.out⟩
        case round =>
          obtain ⟨m, hm1, hm4, hb3⟩ := hrel
          obtain ⟨Y, hY⟩ : ∃ Y, Y = (L ++ [48, 48, 48]).take m := ⟨_, rfl⟩
          have hYl : Y.length = m := by rw [hY]; exact Hpl.out m hm4
          rw [← hY] at hb3
          obtain ⟨a3, cp3, hv3⟩ := hb3.form
          rw [hYl] at hv3
          subst hv3
          have HY := Lib.hid hY
          have HYl := Lib.hid hYl
          clear hY hYl
          by_cases hm : m < 4
          · go_wp2_with (at_builtin; refine wpList_push1 rfl _ _ 22 rfl _ _ Tryd.underlying22 infoB _ _ rfl hb3 _ 48 rfl ?_ ?_ ?_; (rfl); (rw [HYl.out]; omega); intro v' w' hb')
            have hb5 : Bld 5 w.heap.size w w' v' ((L ++ [48, 48, 48]).take (m + 1)) := by rw [Hps.out m hm1 hm, ← HY.out]; exact hb'
            go_roundw
            case rel => exact ⟨m + 1, by omega, by omega, hb5⟩
            case measure =>
              obtain ⟨a6, cp6, hv6⟩ := hb'.form
              subst hv6
              simp [lenOfV, HYl.out]; omega
          · obtain rfl : m = 4 := by omega
            have ht := text hb3
            have HX2 : Hid (bstr Y = bstr (sndx s.data.toList)) := Lib.hid (by rw [HY.out]; exact HX.out)
            go_wp2
            go_ret
            exact ⟨by rw [← HX2.out]; rfl, hb3.bel⟩
end Go.Proofs.YtoijjielnbcphaaDoor

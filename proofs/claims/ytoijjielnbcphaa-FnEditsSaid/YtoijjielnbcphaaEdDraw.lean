/-
  Walks of the draws of FnEdits (l4Two, l4Short, fresh). Condition: the code has at most 2^20 bytes.
-/
import Derived.Test.YtoijjielnbcphaaDraw3
import Derived.Test.YtoijjielnbcphaaStrip
import Derived.Test.YtoijjielnbcphaaGreat
import Derived.Test.YtoijjielnbcphaaIsText
import Derived.Laws.OwnMore
import Derived.OwnWalk
namespace Go.Proofs.Ytoijjielnbcphaa
open Go.RowKit Go.Sort
set_option linter.unusedVariables false
set_option linter.unusedSimpArgs false
set_option maxRecDepth 100000
theorem norm_size {x : ByteArray} (h : x.size ≤ 110) : (bstr (norm x.data.toList)).size ≤ 110 := by
  have := norm_len x.data.toList; rw [dlen] at this; rw [bstr_size]; omega
set_option maxHeartbeats 1600000 in
theorem l4Two_any (g : Nat) (l : List UInt8) (w : World) (hc : Cur w g l) :
    Calls Try.prog 35 #[.pointer (some ⟨g, 0, none⟩)] w fun e w' => ∃ x y, x.size ≤ 110 ∧ y.size ≤ 110 ∧ e = .returned (.tuple #[.string x, .string y]) ∧ Drew g l w w' := by
  go_enter Try.func35, Try.ntmps35
  go_wp2_with fail
  refine (l2Text_any g l _ hc).mono ?_
  rintro e w1 ⟨a, ha, rfl, hd⟩
  have HA := Lib.hid ha
  have HD := Lib.hid hd
  clear ha hd hc
  go_wp2_with fail
  refine (l1Below_any g l 4 _ HD.out.1 (by decide) (by decide)).mono ?_
  rintro e w2 ⟨x, hx, rfl, hd⟩
  have HD2 := Lib.hid (HD.out.trans hd)
  clear hd
  by_cases x0 : x = 0
  · have d1 : ((x : Int) == 0) = true := by rw [x0]; rfl
    clear x0
    go_wp2_with fail
    refine (l2Text_any g l _ HD2.out.1).mono ?_
    rintro e w3 ⟨b, hb, rfl, hd⟩
    have HB := Lib.hid hb
    have HD3 := Lib.hid (HD2.out.trans hd)
    clear hb hd
    go_wp2
    go_ret2
    exact ⟨a, b, by have := HA.out; omega, by have := HB.out; omega, rfl, HD3.out⟩
  · have d1 : ((x : Int) == 0) = false := by rw [beq_eq_false_iff_ne]; omega
    by_cases x1 : x = 1
    · have d2 : ((x : Int) == 1) = true := by rw [x1]; rfl
      clear x0 x1
      go_wp2
      go_ret2
      exact ⟨a, a, by have := HA.out; omega, by have := HA.out; omega, rfl, HD2.out⟩
    · have d2 : ((x : Int) == 1) = false := by rw [beq_eq_false_iff_ne]; omega
      clear x0 x1
      go_wp2_with fail
      refine (specNorm a _ (by have := HA.out; omega)).mono ?_
      rintro e w3 ⟨rfl, b3⟩
      have HX : Hid ((bstr (norm a.data.toList)).size ≤ 110) := Lib.hid (norm_size (by have := HA.out; omega))
      have HD3 := Lib.hid (HD2.out.below b3)
      clear b3
      obtain ⟨X, hX⟩ : ∃ X, bstr (norm a.data.toList) = X := ⟨_, rfl⟩
      rw [hX] at HX ⊢
      clear hX
      go_wp2_with fail
      refine (l1Spoil_any g l a _ HD3.out.1 (by have := HA.out; omega)).mono ?_
      rintro e w4 ⟨t, ht, rfl, hd⟩
      have HT : Hid (t.size ≤ 110) := Lib.hid (by have := HA.out; omega)
      have HD4 := Lib.hid (HD3.out.trans hd)
      clear hd ht
      go_wp2_with fail
      refine (specNorm t _ (by have := HT.out; omega)).mono ?_
      rintro e w5 ⟨rfl, b5⟩
      have HY : Hid ((bstr (norm t.data.toList)).size ≤ 110) := Lib.hid (norm_size HT.out)
      have HD5 := Lib.hid (HD4.out.below b5)
      clear b5
      obtain ⟨Y, hY⟩ : ∃ Y, bstr (norm t.data.toList) = Y := ⟨_, rfl⟩
      rw [hY] at HY ⊢
      clear hY
      go_wp2
      go_ret2
      exact ⟨X, Y, HX.out, HY.out, rfl, HD5.out⟩
theorem l4Short_any (g : Nat) (l : List UInt8) (w : World) (hc : Cur w g l) :
    Calls Try.prog 41 #[.pointer (some ⟨g, 0, none⟩)] w fun e w' => ∃ x y, isText x = true ∧ isText y = true ∧ e = .returned (.tuple #[.string x, .string y]) ∧ Drew g l w w' := by
  go_enter Try.func41, Try.ntmps41
  go_wp2_with fail
  refine (litPick (fun s => isText s = true) g l _ _ _ _ _ hc ?_ ?_ ?_ ?_ ?_).mono ?_
  · rfl
  · rfl
  · decide
  · decide
  · decide +kernel
  rintro e w1 ⟨a, ha, rfl, hd⟩
  have HA := Lib.hid ha
  have HD := Lib.hid hd
  clear ha hd hc
  go_wp2_with fail
  refine (litPick (fun s => isText s = true) g l _ _ _ _ _ HD.out.1 ?_ ?_ ?_ ?_ ?_).mono ?_
  · rfl
  · rfl
  · decide
  · decide
  · decide +kernel
  rintro e w2 ⟨b, hb, rfl, hd⟩
  have HB := Lib.hid hb
  have HD2 := Lib.hid (HD.out.trans hd)
  clear hb hd
  go_wp2
  go_ret2
  exact ⟨a, b, HA.out, HB.out, rfl, HD2.out⟩
theorem drawED (a : Option Addr) (c : Nat) (l : List UInt8) (w : World) (hr : RowAt fU w a l) (hl : l.length ≤ 1048576) :
    Calls Try.prog 6 #[.slice a l.length c] w fun e w' => ∃ x y, x.size ≤ 110 ∧ y.size ≤ 110 ∧ e = .returned (.tuple #[.string x, .string y]) ∧ Below w.heap.size w w' := by
  have HR := Lib.hid hr
  clear hr
  go_enter Try.func6, Try.ntmps6
  go_wp2_with fail
  refine (newCur a c l _ HR.out hl).mono ?_
  rintro e w1 ⟨g, rfl, hg, hc, hb⟩
  have HB1 := Lib.hid hb
  have HG := Lib.hid hg
  clear hb hg
  go_wp2_with fail
  refine (l4Two_any g l _ hc).mono ?_
  rintro e w2 ⟨x, y, hx, hy, rfl, hd⟩
  have HX := Lib.hid hx
  have HY := Lib.hid hy
  have HB := Lib.hid (hd.bel HB1.out HG.out)
  clear hd hc hx hy
  go_wp2
  go_ret2
  exact ⟨x, y, HX.out, HY.out, rfl, HB.out⟩
theorem drawEW (a : Option Addr) (c : Nat) (l : List UInt8) (w : World) (hr : RowAt fU w a l) (hl : l.length ≤ 1048576) :
    Calls Try.prog 14 #[.slice a l.length c] w fun e w' => ∃ x y n, e = .returned (.tuple #[.string x, .string y, .int .i64 n]) ∧ Below w.heap.size w w' := by
  have HR := Lib.hid hr
  clear hr
  go_enter Try.func14, Try.ntmps14
  go_wp2_with fail
  refine (newCur a c l _ HR.out hl).mono ?_
  rintro e w1 ⟨g, rfl, hg, hc, hb⟩
  have HB1 := Lib.hid hb
  have HG := Lib.hid hg
  clear hb hg
  go_wp2_with fail
  refine (l4Two_any g l _ hc).mono ?_
  rintro e w2 ⟨x, y, hx, hy, rfl, hd⟩
  have HD := Lib.hid hd
  clear hd hc hx hy
  go_wp2_with fail
  refine (l1Below_any g l 8 _ HD.out.1 (by decide) (by decide)).mono ?_
  rintro e w3 ⟨n, hn, rfl, hd⟩
  have HB := Lib.hid ((HD.out.trans hd).bel HB1.out HG.out)
  clear hd
  go_wp2
  go_ret3
  exact ⟨x, y, _, rfl, HB.out⟩
theorem drawES (a : Option Addr) (c : Nat) (l : List UInt8) (w : World) (hr : RowAt fU w a l) (hl : l.length ≤ 1048576) :
    Calls Try.prog 17 #[.slice a l.length c] w fun e w' => ∃ x y, isText x = true ∧ isText y = true ∧ e = .returned (.tuple #[.string x, .string y]) ∧ Below w.heap.size w w' := by
  have HR := Lib.hid hr
  clear hr
  go_enter Try.func17, Try.ntmps17
  go_wp2_with fail
  refine (newCur a c l _ HR.out hl).mono ?_
  rintro e w1 ⟨g, rfl, hg, hc, hb⟩
  have HB1 := Lib.hid hb
  have HG := Lib.hid hg
  clear hb hg
  go_wp2_with fail
  refine (l4Short_any g l _ hc).mono ?_
  rintro e w2 ⟨x, y, hx, hy, rfl, hd⟩
  have HX := Lib.hid hx
  have HY := Lib.hid hy
  have HB := Lib.hid (hd.bel HB1.out HG.out)
  clear hd hc hx hy
  go_wp2
  go_ret2
  exact ⟨x, y, HX.out, HY.out, rfl, HB.out⟩
def fV : Int → Value := fun n => .int .u8 n
theorem rowV {w : World} {a : Option Addr} {L : List Int} (h : RowAt fV w a L) (hL : ∀ x ∈ L, 0 ≤ x ∧ x ≤ 255) : RowAt fU w a (L.map fun n => UInt8.ofNat n.toNat) := by
  rcases h with h | ⟨b, off, h1, h2⟩
  · left; rw [h]; rfl
  · refine Or.inr ⟨b, off, h1, fun i y hy => ?_⟩
    rw [List.getElem?_map, Option.map_eq_some_iff] at hy
    obtain ⟨n, hn, rfl⟩ := hy
    rw [h2 i n hn]
    obtain ⟨n0, n1⟩ := hL n (List.mem_of_getElem? hn)
    have e1 : ∀ m : Nat, m < 256 → (UInt8.ofNat m).toNat = m := fun m hm => by simp; omega
    show some (Value.int .u8 n) = some (Value.int .u8 (((UInt8.ofNat n.toNat).toNat : Nat) : Int))
    rw [e1 _ (by omega)]
    congr 2
    omega
set_option maxHeartbeats 1600000 in
theorem fresh_any (a : Option Addr) (c : Nat) (l : List UInt8) (w : World) (hr : RowAt fU w a l) (hl : l.length ≤ 1048576) :
    Calls Try.prog 13 #[.slice a l.length c, .int .i64 9] w fun e w' => ∃ b c' L, e = .returned (.slice b L.length c') ∧ L.length ≤ 1000 ∧ RowAt fU w' b L ∧ Below w.heap.size w w' := by
  have HR := Lib.hid hr
  have HB0 : Hid (BldG fV 5 w.heap.size w (w.alloc (.cells #[.int .u8 9] 5)) (.slice (some ⟨w.heap.size, 0, none⟩) 1 1) [9]) :=
    Lib.hid ⟨World.ownsRow_lit w #[.int .u8 9] 1 (Nat.le_refl _) (by decide) rfl, (Below.refl _ _).alloc (Nat.le_refl _) _, by simp⟩
  clear hr
  go_enter Try.func13, Try.ntmps13
  go_wp2
  go_loopw [5, 6] (fun v i wr => ∃ (k : Nat) (L : List Int), k ≤ l.length ∧ k ≤ 600 ∧ i = .int .i64 k ∧ L.length = k + 1 ∧ (∀ x ∈ L, 0 ≤ x ∧ x ≤ 255) ∧ BldG fV 5 w.heap.size w wr v L) (fun _ i _ => l.length - (intOf i).toNat)
  case atStart => exact ⟨0, [9], Nat.zero_le _, by omega, rfl, rfl, by simp, HB0.out⟩
  case round =>
    obtain ⟨k, L, hk, hk6, rfl, hL, hall, hb⟩ := hrel
    have HALL := Lib.hid hall
    have HLl := Lib.hid hL
    clear hall
    by_cases hlt : k < l.length
    · by_cases h6 : k < 600
      · obtain ⟨b1, o1, ea, hcl⟩ := (HR.out.below hb.bel).cell k hlt
        subst ea
        unfold fU at hcl
        have k1 : (k : Int) < (l.length : Int) := by omega
        have k6 : (k : Int) < 600 := by omega
        have hbx := byte_le l[k]
        obtain ⟨x, hx⟩ : ∃ x, x = l[k] := ⟨_, rfl⟩
        rw [← hx] at hcl hbx
        clear hx
        go_wp2_with (at_builtin; refine wpList_pushG rfl _ _ 22 rfl _ 5 Try.underlying22 _ _ infoB rfl (fun _ => rfl) _ _ rfl hb _ rfl ?_ ?_ ?_; (omega); (omega); intro v' w' hb')
        go_roundw
        case rel => exact ⟨k + 1, _, by omega, by omega, by go_num, by rw [List.length_append, HLl.out]; rfl, fun y hy => by
          rcases List.mem_append.1 hy with h | h
          · exact HALL.out y h
          · rw [List.mem_singleton.1 h]; exact wrap8 _, hb'⟩
        case measure => simp [intOf]; omega
      · have k6 : ¬ (k : Int) < 600 := by omega
        have k1 : (k : Int) < (l.length : Int) := by omega
        obtain ⟨p, cc, rfl⟩ := hb.form
        have HRW := Lib.hid (rowV hb.row.at HALL.out)
        have HBL := Lib.hid hb.bel
        clear hb
        go_wp2
        go_ret
        exact ⟨p, cc, L.map fun n => UInt8.ofNat n.toNat, by first | (rw [List.length_map]; done) | (rw [List.length_map, HLl.out]; done) | (simp [HLl.out]; done), by rw [List.length_map, HLl.out]; omega, HRW.out, HBL.out⟩
    · have k1 : ¬ (k : Int) < (l.length : Int) := by omega
      obtain ⟨p, cc, rfl⟩ := hb.form
      have HRW := Lib.hid (rowV hb.row.at HALL.out)
      have HBL := Lib.hid hb.bel
      clear hb
      go_wp2
      go_ret
      exact ⟨p, cc, L.map fun n => UInt8.ofNat n.toNat, by first | (rw [List.length_map]; done) | (rw [List.length_map, HLl.out]; done) | (simp [HLl.out]; done), by rw [List.length_map, HLl.out]; omega, HRW.out, HBL.out⟩
end Go.Proofs.Ytoijjielnbcphaa

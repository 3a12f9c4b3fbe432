/-
  Walk of impl.readOrigin. Condition: the string has at most 2^20 bytes; the listed variables hold what the library lays.
-/
import Derived.Test.YtdhdjmeolkobeaaDoorPRecLaw
import Derived.Test.YtdhdjmeolkobeaaDoorParse
import Derived.Test.YtdhdjmeolkobeaaDoorShelf
import Derived.OwnWalk
namespace Go.Proofs.YtdhdjmeolkobeaaDoor
open Go.RowKit Go.Sort
set_option linter.unusedVariables false
set_option linter.unusedSimpArgs false
set_option maxRecDepth 100000
def abcd : List UInt8 := [97, 98, 99, 100]
theorem abcd_range (c : UInt8) : -1 ≤ Lib.indexByte abcd c ∧ Lib.indexByte abcd c ≤ 3 := by
  have h : ∀ n : Fin 256, -1 ≤ Lib.indexByte abcd (UInt8.ofNat n.val) ∧ Lib.indexByte abcd (UInt8.ofNat n.val) ≤ 3 := by decide +kernel
  have := h ⟨c.toNat, c.toNat_lt⟩
  rwa [show UInt8.ofNat c.toNat = c by simp] at this
theorem abcd_hit (s : Int) (h0 : 0 ≤ s) (h1 : s ≤ 3) : Lib.indexByte abcd (UInt8.ofNat (97 + s.toNat)) = s := by
  obtain ⟨u, rfl⟩ := Int.eq_ofNat_of_zero_le h0
  have hu : u ≤ 3 := by omega
  rw [Int.toNat_natCast]
  match u, hu with
  | 0, _ => decide
  | 1, _ => decide
  | 2, _ => decide
  | 3, _ => decide
/-- What readOrigin says of a head: where its first sign lies, the number behind, whether both are good. -/
def roS (O : ByteArray) : Int := Lib.indexByte abcd (O.data.toList.getD 0 0)
def roT (O : ByteArray) : List UInt8 := (O.extract 1 O.size).data.toList
def roK (O : ByteArray) : Int := pV (roT O)
def roB (O : ByteArray) : Bool := pB (roT O) && (decide (0 ≤ roS O) && inB (roK O) 1 99)
set_option maxHeartbeats 1600000 in
theorem readOrigin_any (O : ByteArray) (w : World) (ev : Num w) (hs : O.size ≤ 1048576) :
    Calls Tryd.prog 45 #[.string O] w fun e w' => e = .returned (if O.size = 0 then .tuple #[.int .i64 0, .int .i64 0, .bool false] else .tuple #[.int .i64 (roS O), .int .i64 (roK O), .bool (roB O)]) ∧ Below w.heap.size w w' := by
  by_cases h0 : O.size = 0
  · have he : O.toList.isEmpty = true := by
      rw [toList_eq, List.isEmpty_iff]; exact List.eq_nil_of_length_eq_zero (by rw [dlen]; exact h0)
    rw [if_pos h0]
    clear h0
    go_enter Tryd.func45, Tryd.ntmps45
    go_wp2
    go_ret3
    exact ⟨rfl, Below.refl _ _⟩
  · have he : O.toList.isEmpty = false := by
      rw [List.isEmpty_eq_false_iff, toList_eq]; intro e; have := dlen O; rw [e] at this; simp at this; omega
    rw [if_neg h0]
    have h1 : (1 : Int) ≤ (O.size : Int) := by omega
    have h1n : 1 ≤ O.size := by omega
    have h0n : 0 < O.size := by omega
    have h0i : (0 : Int) < (O.size : Int) := by omega
    have hg : O.data.toList.getD 0 0 = O[0] := by
      rw [List.getD, List.getElem?_eq_getElem (by rw [dlen]; omega)]; rfl
    have hr := abcd_range O[0]
    have HRS : Hid (Lib.indexByte abcd O[0] = roS O) := Lib.hid (by unfold roS; rw [hg])
    have HT : Hid (Lib.indexByte (⟨#[97, 98, 99, 100]⟩ : ByteArray).data.toList ((O[0].toNat : Int).toNat.toUInt8) = roS O) := Lib.hid (by
      rw [← HRS.out, Int.toNat_natCast]
      have : O[0].toNat.toUInt8 = O[0] := by simp
      rw [this]; rfl)
    rw [HRS.out] at hr
    clear h0 hg
    obtain ⟨src, hsrc⟩ : ∃ x, roS O = x := ⟨_, rfl⟩
    obtain ⟨key, hkey⟩ : ∃ x, roK O = x := ⟨_, rfl⟩
    obtain ⟨b, hb⟩ : ∃ x, pB (roT O) = x := ⟨_, rfl⟩
    obtain ⟨g, hgd⟩ : ∃ x, inB key 1 99 = x := ⟨_, rfl⟩
    have HB : Hid (roB O = (b && (decide (0 ≤ src) && g))) := Lib.hid (by unfold roB; rw [hb, hsrc, hkey, hgd])
    have HSRC := Lib.hid hsrc
    have HKEY := Lib.hid hkey
    have HBB := Lib.hid hb
    have HG := Lib.hid hgd
    rw [hsrc] at hr
    clear hsrc hkey hb hgd
    go_enter Tryd.func45, Tryd.ntmps45
    go_wp2_with fail
    refine (Tryd.strings_IndexByte _ _ _).mono ?_
    rintro e w' ⟨rfl, rfl⟩
    rw [HT.out, HSRC.out]
    go_wp2_with fail
    refine (implParseInt (O.extract 1 O.size) _ ev (by rw [ByteArray.size_extract]; omega)).mono ?_
    rintro e w1 ⟨rfl, b1⟩
    have HB1 := Lib.hid b1
    clear b1
    rw [show pV (O.extract 1 O.size).data.toList = key from HKEY.out, show pB (O.extract 1 O.size).data.toList = b from HBB.out]
    cases b
    · go_wp2
      go_ret3
      exact ⟨by rw [HSRC.out, HKEY.out, HB.out]; rfl, HB1.out⟩
    · by_cases hp : (0 : Int) ≤ src
      · go_wp2_with (go_at_call 40; refine (within_any _ _ _ _).mono ?_; rintro e w' ⟨rfl, rfl⟩)
        go_ret3
        exact ⟨by rw [HSRC.out, HKEY.out, HB.out, HG.out, decide_eq_true hp]; simp, HB1.out⟩
      · have hn : decide (0 ≤ src) = false := decide_eq_false hp
        have HNN := Lib.hid hn
        clear hn
        go_wp2
        go_ret3
        exact ⟨by rw [HSRC.out, HKEY.out, HB.out, HNN.out]; simp, HB1.out⟩
/-- What the program reads out of a text: the head, its two parts, the fields. -/
def prX (S : List UInt8) : List UInt8 := (Lib.cut S [124]).1
def prR (S : List UInt8) : List UInt8 := (Lib.cut S [124]).2.1
def prO (S : List UInt8) : List UInt8 := (Lib.cut (prX S) [46]).1
def prV (S : List UInt8) : List UInt8 := (Lib.cut (prX S) [46]).2.1
def prF (S : List UInt8) : List ByteArray := (parts 124 (prR S)).map bstr
theorem roS_hit {s k : Int} (h0 : 0 ≤ s) (h1 : s ≤ 3) : roS (bstr (oname s k)) = s := by
  unfold roS; rw [bstr_list]; unfold oname; exact abcd_hit s h0 h1
theorem roT_hit {s k : Int} : roT (bstr (oname s k)) = Lib.itoa k := by
  unfold roT
  rw [extract_bstr, bstr_list, bstr_list, bstr_size]
  unfold oname
  simp
theorem hit_built {S : List UInt8} {s k v : Int} {l : List ByteArray} (h : Hit S s k v l) :
    prO S = oname s k ∧ prV S = Lib.itoa v ∧ roS (bstr (prO S)) = s ∧ roK (bstr (prO S)) = k ∧ roB (bstr (prO S)) = true ∧ pV (prV S) = v ∧ pB (prV S) = true ∧ prF S = l := by
  obtain ⟨⟨h0, h1⟩, ⟨k0, k1⟩, ⟨v0, v1⟩, _, _⟩ := validR_mk h.1
  obtain ⟨R, hR, hp⟩ := h.cut
  have eX : prX S = oname s k ++ 46 :: Lib.itoa v := by unfold prX; rw [hR]
  have eO : prO S = oname s k := by unfold prO; rw [eX, h.cut46]
  have eV : prV S = Lib.itoa v := by unfold prV; rw [eX, h.cut46]
  have hk := pV_some (pInt_itoa k (by omega) (by omega))
  have hv := pV_some (pInt_itoa v (by omega) (by omega))
  have eS := roS_hit (k := k) h0 h1
  have eK : roK (bstr (oname s k)) = k := by unfold roK; rw [roT_hit]; exact hk.1
  refine ⟨eO, eV, by rw [eO]; exact eS, by rw [eO]; exact eK, ?_, by rw [eV]; exact hv.1, by rw [eV]; exact hv.2, ?_⟩
  · rw [eO]; unfold roB
    rw [roT_hit, hk.2, eS, eK, decide_eq_true h0]
    simp [inB]; omega
  · unfold prF prR
    rw [hR]
    show (parts 124 R).map bstr = l
    rw [hp, List.map_map]
    conv => rhs; rw [← List.map_id l]
    apply List.map_congr_left
    intro x _
    exact bstr_of x
end Go.Proofs.YtdhdjmeolkobeaaDoor

/-
  Walks of SoundsAlike (program and reference). Condition: the strings have at most 2^20 bytes; the table of codes holds what the program lays.
-/
import Derived.Test.YtoijjielnbcphaaDoorSound
namespace Go.Proofs.YtoijjielnbcphaaDoor
open Go.RowKit
set_option linter.unusedVariables false
set_option linter.unusedSimpArgs false
set_option maxRecDepth 100000
theorem bstr_isEmpty (l : List UInt8) : (bstr l).toList.isEmpty = l.isEmpty := by rw [bstr_toList]
def alike (a b : ByteArray) : Bool := !(sndx a.data.toList).isEmpty && ((bstr (sndx a.data.toList)).toList == (bstr (sndx b.data.toList)).toList)
theorem alike_no {a : ByteArray} (b : ByteArray) (h : (sndx a.data.toList).isEmpty = true) : alike a b = false := by unfold alike; rw [h]; rfl
theorem alike_yes {a : ByteArray} (b : ByteArray) (h : (sndx a.data.toList).isEmpty = false) : alike a b = ((bstr (sndx a.data.toList)).toList == (bstr (sndx b.data.toList)).toList) := by unfold alike; rw [h]; rfl
theorem codes_empty (a : ByteArray) (x : Bool) (h : (sndx a.data.toList).isEmpty = x) : ∃ T, bstr (sndx a.data.toList) = T ∧ T.toList.isEmpty = x := ⟨_, rfl, by rw [bstr_toList, h]⟩
set_option maxHeartbeats 800000 in
theorem specAlike (a b : ByteArray) (w : World) (ha : a.size ≤ 1048576) (hb : b.size ≤ 1048576) :
    Calls Tryd.prog 12 #[.string a, .string b] w fun e w' => e = .returned (.bool (alike a b)) ∧ Below w.heap.size w w' := by
  cases hx : (sndx a.data.toList).isEmpty
  · obtain ⟨A, hA, hA2⟩ := codes_empty a _ hx
    obtain ⟨B, hB⟩ : ∃ B, bstr (sndx b.data.toList) = B := ⟨_, rfl⟩
    have H : Hid (alike a b = (A.toList == B.toList)) := Lib.hid (by rw [alike_yes b hx, hA, hB])
    have HA := Lib.hid hA
    have HB := Lib.hid hB
    clear hA hB hx
    go_enter Tryd.func12, Tryd.ntmps12
    go_wp2_with fail
    refine (specSoundex a _ ha).mono ?_
    rintro e w1 ⟨rfl, hb1⟩
    rw [HA.out]
    go_wp2_with fail
    refine (specSoundex b _ hb).mono ?_
    rintro e w2 ⟨rfl, hb2⟩
    rw [HB.out]
    go_wp2
    go_ret
    exact ⟨by rw [H.out]; rfl, hb1.trans (hb2.mono hb1.size)⟩
  · obtain ⟨A, hA, hA2⟩ := codes_empty a _ hx
    have H := Lib.hid (alike_no b hx)
    have HA := Lib.hid hA
    clear hA hx
    go_enter Tryd.func12, Tryd.ntmps12
    go_wp2_with fail
    refine (specSoundex a _ ha).mono ?_
    rintro e w1 ⟨rfl, hb1⟩
    rw [HA.out]
    go_wp2
    go_ret
    exact ⟨by rw [H.out]; rfl, hb1⟩
set_option maxHeartbeats 800000 in
theorem implAlike (a b : ByteArray) (w : World) (ev : Snd w) (ha : a.size ≤ 1048576) (hb : b.size ≤ 1048576) :
    Calls Tryd.prog 11 #[.string a, .string b] w fun e w' => e = .returned (.bool (alike a b)) ∧ Below w.heap.size w w' := by
  cases hx : (sndx a.data.toList).isEmpty
  · obtain ⟨A, hA, hA2⟩ := codes_empty a _ hx
    obtain ⟨B, hB⟩ : ∃ B, bstr (sndx b.data.toList) = B := ⟨_, rfl⟩
    have H : Hid (alike a b = (A.toList == B.toList)) := Lib.hid (by rw [alike_yes b hx, hA, hB])
    have HA := Lib.hid hA
    have HB := Lib.hid hB
    clear hA hB hx
    go_enter Tryd.func11, Tryd.ntmps11
    go_wp2_with fail
    refine (implSoundex a _ ev ha).mono ?_
    rintro e w1 ⟨rfl, hb1⟩
    have ev1 := ev.below hb1
    rw [HA.out]
    go_wp2_with fail
    refine (implSoundex a _ ev1 ha).mono ?_
    rintro e w2 ⟨rfl, hb2⟩
    have ev2 := ev1.below hb2
    rw [HA.out]
    go_wp2_with fail
    refine (implSoundex b _ ev2 hb).mono ?_
    rintro e w3 ⟨rfl, hb3⟩
    rw [HB.out]
    have h12 := hb1.trans (hb2.mono hb1.size)
    go_wp2
    go_ret
    exact ⟨by rw [H.out]; rfl, h12.trans (hb3.mono h12.size)⟩
  · obtain ⟨A, hA, hA2⟩ := codes_empty a _ hx
    have H := Lib.hid (alike_no b hx)
    have HA := Lib.hid hA
    clear hA hx
    go_enter Tryd.func11, Tryd.ntmps11
    go_wp2_with fail
    refine (implSoundex a _ ev ha).mono ?_
    rintro e w1 ⟨rfl, hb1⟩
    rw [HA.out]
    go_wp2
    go_ret
    exact ⟨by rw [H.out]; rfl, hb1⟩
end Go.Proofs.YtoijjielnbcphaaDoor

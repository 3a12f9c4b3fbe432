/-
  Plain laws for the reference's ParseRecord: what it reads out of a text, and that a text's record is read back.
-/
import Derived.Test.YtdhdjmeolkobeaaDoorPRec3
namespace Go.Proofs.YtdhdjmeolkobeaaDoor
set_option linter.unusedVariables false
set_option linter.unusedSimpArgs false
theorem parts_cut (c : UInt8) (S : List UInt8) : ∃ tl, parts c S = (Lib.cut S [c]).1 :: tl ∧ (tl = [] ∨ tl = parts c (Lib.cut S [c]).2.1) := by
  rcases first_split c S with h | ⟨w, r, rfl, h⟩
  · exact ⟨[], by rw [parts_no h, cut_no h], Or.inl rfl⟩
  · exact ⟨parts c r, by rw [parts_at r h, cut_at r h], Or.inr (by rw [cut_at r h])⟩
/-- The parts behind the first sign. -/
def spF (S : List UInt8) : List ByteArray := (parts 124 S).tail.map bstr
theorem spec_hit {S : List UInt8} {s k v : Int} {l : List ByteArray} (h : Hit S s k v l) :
    parts 46 (prX S) = [oname s k, Lib.itoa v] ∧ 2 ≤ (oname s k).length ∧ spF S = l ∧ pV (oname s k).tail = k ∧ pV (Lib.itoa v) = v ∧ ((UInt8.ofNat (97 + s.toNat)).toNat : Int) - 97 = s := by
  obtain ⟨⟨h0, h1⟩, ⟨k0, k1⟩, ⟨v0, v1⟩, _, _⟩ := validR_mk h.1
  obtain ⟨R, hR, hp⟩ := h.cut
  have eX : prX S = oname s k ++ 46 :: Lib.itoa v := by unfold prX; rw [hR]
  have hkl : 1 ≤ (Lib.itoa k).length := by
    obtain ⟨u, rfl⟩ := Int.eq_ofNat_of_zero_le (show 0 ≤ k by omega)
    rw [itoa_pos u (by omega)]
    have := dg0_ne (u := u) (by omega)
    cases hd : dg0 u with
    | nil => exact absurd hd this
    | cons _ _ => simp
  refine ⟨by rw [eX, h.parts46], by unfold oname; simp; omega, ?_, ?_, (pV_some (pInt_itoa v (by omega) (by omega))).1, ?_⟩
  · unfold spF
    rw [h.parts, List.tail_cons, List.map_map]
    conv => rhs; rw [← List.map_id l]
    apply List.map_congr_left
    intro x _
    exact bstr_of x
  · unfold oname; exact (pV_some (pInt_itoa k (by omega) (by omega))).1
  · have e1 : ∀ m : Nat, m < 256 → (UInt8.ofNat m).toNat = m := fun m hm => by simp; omega
    rw [e1 _ (by omega)]; omega
end Go.Proofs.YtdhdjmeolkobeaaDoor

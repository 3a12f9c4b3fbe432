/-
  Plain laws: what DecodeHex makes of a list of digits. No condition.
-/
import Derived.Test.YtoijjielnbcphaaDoorHex
import Derived.Lib.Bytealg
namespace Go.Proofs.YtoijjielnbcphaaDoor
open Go.RowKit
set_option linter.unusedVariables false
set_option linter.unusedSimpArgs false
set_option maxRecDepth 100000

theorem Bld.drewN {e : TypeId} {B : Nat} {w0 w : World} {v : Value} {l : List UInt8} (h : Bld e B w0 w v l) (k : Nat) : Bld e B w0 (w.drewN k) v l :=
  ⟨h.own, h.bel.trans ((below_drewN w k).mono h.big), h.big⟩
def hexV (c : UInt8) : Int := if rng 48 57 c then (c.toNat : Int) - 48 else if rng 97 102 c then (c.toNat : Int) - 87 else -1
theorem all_bytes {p : UInt8 → Prop} (h : ∀ n, n < 256 → p (UInt8.ofNat n)) (c : UInt8) : p c := by
  have := h c.toNat c.toNat_lt
  simpa using this
theorem hexV_index (c : UInt8) : Lib.indexByte hexTab c = hexV c := all_bytes (p := fun c => Lib.indexByte hexTab c = hexV c) (by decide +kernel) c
theorem hexV_digit (k : Nat) (h : k < 16) : hexV (hexC k) = k := by
  have : ∀ k, k < 16 → hexV (hexC k) = (k : Int) := by decide +kernel
  exact this k h
theorem hexV_none (c : UInt8) (h : ∀ j, j < 16 → hexC j ≠ c) : hexV c = -1 := by
  have : ∀ c : UInt8, hexV c = -1 ∨ ∃ j, j < 16 ∧ hexC j = c := all_bytes (p := fun c => hexV c = -1 ∨ ∃ j, j < 16 ∧ hexC j = c) (by decide +kernel)
  rcases this c with h1 | ⟨j, h1, h2⟩
  · exact h1
  · exact absurd h2 (h j h1)
theorem hexV_range (c : UInt8) : -1 ≤ hexV c ∧ hexV c ≤ 15 := all_bytes (p := fun c => -1 ≤ hexV c ∧ hexV c ≤ 15) (by decide +kernel) c

def decH : List UInt8 → List UInt8 → Option (List UInt8)
  | [], o => some o
  | [_], _ => none
  | c :: d :: l, o => if hexV c < 0 ∨ hexV d < 0 then none else decH l (o ++ [UInt8.ofNat (16 * (hexV c).toNat + (hexV d).toNat)])
theorem decH_odd : ∀ (l o : List UInt8), l.length % 2 = 1 → decH l o = none
  | [], o, h => by simp at h
  | [_], o, h => rfl
  | c :: d :: l, o, h => by
    rw [decH]
    split
    · rfl
    · exact decH_odd l _ (by simp at h; omega)
def decHO (s : ByteArray) : Option (List UInt8) := decH s.data.toList []
def decHS (s : ByteArray) : ByteArray := bstr ((decHO s).getD [])
def decHB (s : ByteArray) : Bool := (decHO s).isSome
theorem decH_none {s : ByteArray} (h : decHO s = none) : decHS s = bstr [] ∧ decHB s = false := by unfold decHS decHB; rw [h]; exact ⟨rfl, rfl⟩
theorem decH_some {s : ByteArray} {o : List UInt8} (h : decHO s = some o) : decHS s = bstr o ∧ decHB s = true := by unfold decHS decHB; rw [h]; exact ⟨rfl, rfl⟩
theorem drop_two (s : ByteArray) (k : Nat) (h : k + 1 < s.size) : s.data.toList.drop k = s[k] :: s[k + 1] :: s.data.toList.drop (k + 2) := by
  rw [List.drop_eq_getElem_cons (by rw [dlen]; omega), List.drop_eq_getElem_cons (by rw [dlen]; omega)]; rfl
theorem decH_bad {s : ByteArray} {k : Nat} {o : List UInt8} (h : k + 1 < s.size) (hb : hexV s[k] < 0 ∨ hexV s[k + 1] < 0) : decH (s.data.toList.drop k) o = none := by
  rw [drop_two s k h, decH, if_pos hb]
theorem decH_step {s : ByteArray} {k : Nat} {o : List UInt8} (h : k + 1 < s.size) (h1 : 0 ≤ hexV s[k]) (h2 : 0 ≤ hexV s[k + 1]) :
    decH (s.data.toList.drop k) o = decH (s.data.toList.drop (k + 2)) (o ++ [UInt8.ofNat (16 * (hexV s[k]).toNat + (hexV s[k + 1]).toNat)]) := by
  rw [drop_two s k h, decH, if_neg (by omega)]
theorem decH_end {s : ByteArray} {o : List UInt8} : decH (s.data.toList.drop s.size) o = some o := by
  rw [List.drop_eq_nil_of_le (by rw [dlen]; exact Nat.le_refl _), decH]
theorem hex_byte (a b : Int) (h1 : 0 ≤ a) (h2 : a ≤ 15) (h3 : 0 ≤ b) (h4 : b ≤ 15) : 16 * a + b = ((UInt8.ofNat (16 * a.toNat + b.toNat)).toNat : Int) := by
  rw [byte_of _ (by omega)]; omega
theorem hex_or (a b : Int) (h1 : 0 ≤ a) (h2 : a ≤ 15) (h3 : 0 ≤ b) (h4 : b ≤ 15) : bits .or .i64 (a * 16) b = 16 * a + b := by
  have h62 : (2 : Int) ^ 62 = 4611686018427387904 := by decide
  have h16 : (2 : Int) ^ 4 = 16 := by decide
  rw [or_i64 4 (a * 16) b (by omega) (by rw [h16]; omega) (by omega) (by omega) (by rw [h16]; omega) (by omega)]
  omega
end Go.Proofs.YtoijjielnbcphaaDoor

/-
  Walks of the comparisons of strings and of slices of strings (cmp.Compare, slices.Compare). No condition.
-/
import Derived.Test.YtebfjikgececlaaCmp
namespace Go.Proofs.Ytebfjikgececlaa
open Go.RowKit
set_option linter.unusedVariables false
set_option linter.unusedSimpArgs false
def cmpS (x y : ByteArray) : Int := if Go.Op.bytesLess x.toList y.toList = true then -1 else if (x.toList == y.toList) = true then 0 else 1
def lexS : List ByteArray → List ByteArray → Int
  | [], [] => 0
  | [], _ :: _ => -1
  | _ :: _, [] => 1
  | x :: l, y :: m => if cmpS x y = 0 then lexS l m else cmpS x y
theorem lex_step {l m : List ByteArray} {k : Nat} (h1 : k < l.length) (h2 : k < m.length) : lexS (l.drop k) (m.drop k) = if cmpS l[k] m[k] = 0 then lexS (l.drop (k + 1)) (m.drop (k + 1)) else cmpS l[k] m[k] := by
  rw [List.drop_eq_getElem_cons h1, List.drop_eq_getElem_cons h2]; rfl
theorem lex_long {l m : List ByteArray} {k : Nat} (h1 : k < l.length) (h2 : ¬ k < m.length) : lexS (l.drop k) (m.drop k) = 1 := by
  have e : m.drop k = [] := List.drop_eq_nil_of_le (by omega)
  rw [List.drop_eq_getElem_cons h1, e]; rfl
theorem lex_short {l m : List ByteArray} {k : Nat} (h1 : ¬ k < l.length) (h2 : k < m.length) : lexS (l.drop k) (m.drop k) = -1 := by
  have e : l.drop k = [] := List.drop_eq_nil_of_le (by omega)
  rw [List.drop_eq_getElem_cons h2, e]; rfl
theorem lex_same {l m : List ByteArray} {k : Nat} (h1 : ¬ k < l.length) (h2 : ¬ k < m.length) : lexS (l.drop k) (m.drop k) = 0 := by
  have e1 : l.drop k = [] := List.drop_eq_nil_of_le (by omega)
  have e2 : m.drop k = [] := List.drop_eq_nil_of_le (by omega)
  rw [e1, e2]; rfl
set_option maxHeartbeats 400000 in
theorem cmpStr_any (x y : ByteArray) (w : World) :
    Calls Try.prog 47 #[.string x, .string y] w fun e w' => e = .returned (.int .i64 (cmpS x y)) ∧ w' = w := by
  have q1 : (x.toList != x.toList) = false := by simp
  have q2 : (y.toList != y.toList) = false := by simp
  have q3 : (x.toList == x.toList) = true := by simp
  have q4 : (y.toList == y.toList) = true := by simp
  cases h1 : Go.Op.bytesLess x.toList y.toList
  · cases h2 : (x.toList == y.toList)
    · have H : Hid (cmpS x y = 1) := Lib.hid (by unfold cmpS; rw [h1, h2]; rfl)
      go_enter Try.func47, Try.ntmps47
      go_wp2
      go_ret
      exact ⟨by rw [H.out]; rfl, rfl⟩
    · have H : Hid (cmpS x y = 0) := Lib.hid (by unfold cmpS; rw [h1, h2]; rfl)
      go_enter Try.func47, Try.ntmps47
      go_wp2
      go_ret
      exact ⟨by rw [H.out]; rfl, rfl⟩
  · have H : Hid (cmpS x y = -1) := Lib.hid (by unfold cmpS; rw [h1]; rfl)
    go_enter Try.func47, Try.ntmps47
    go_wp2
    go_ret
    exact ⟨by rw [H.out]; rfl, rfl⟩
set_option maxHeartbeats 800000 in
theorem slicesCompare_any (a1 a2 : Option Addr) (c1 c2 : Nat) (l m : List ByteArray) (w : World) (hr1 : RowAt fS w a1 l) (hr2 : RowAt fS w a2 m) (hl : l.length ≤ 9223372036854775807) :
    Calls Try.prog 34 #[.slice a1 l.length c1, .slice a2 m.length c2] w fun e w' => e = .returned (.int .i64 (lexS l m)) ∧ w' = w := by
  have Hd : Hid (lexS l m = lexS (l.drop 0) (m.drop 0)) := Lib.hid rfl
  go_enter Try.func34, Try.ntmps34
  go_wp2
  go_loop [11] (fun i => ∃ k : Nat, k ≤ l.length ∧ i = .int .i64 k ∧ lexS l m = lexS (l.drop k) (m.drop k)) (fun i => l.length - (intOf i).toNat)
  case atStart => exact ⟨0, Nat.zero_le _, rfl, Hd.out⟩
  case round =>
    obtain ⟨k, hk, rfl, hlex⟩ := hrel
    have Hlex := Lib.hid hlex; clear hlex
    by_cases hlt : k < l.length
    · have k1 : (k : Int) < (l.length : Int) := by omega
      obtain ⟨b1, o1, rfl, hc1⟩ := hr1.cell k hlt
      unfold fS at hc1
      by_cases hlt2 : k < m.length
      · have k2 : (k : Int) < (m.length : Int) := by omega
        obtain ⟨b2, o2, rfl, hc2⟩ := hr2.cell k hlt2
        unfold fS at hc2
        have Hs := Lib.hid (lex_step hlt hlt2)
        obtain ⟨x, hx⟩ : ∃ x, x = l[k] := ⟨_, rfl⟩
        obtain ⟨y, hy⟩ : ∃ y, y = m[k] := ⟨_, rfl⟩
        rw [← hx] at hc1 Hs
        rw [← hy] at hc2 Hs
        clear hx hy
        by_cases hz : cmpS x y = 0
        · have q : (cmpS x y != 0) = false := by simp [hz]
          have H : Hid (lexS l m = lexS (l.drop (k + 1)) (m.drop (k + 1))) := Lib.hid (by rw [Hlex.out, Hs.out, if_pos hz])
          clear hz
          go_wp2_with (go_at_call 47; refine (cmpStr_any _ _ _).mono ?_; rintro e w' ⟨rfl, rfl⟩)
          go_round
          case rel => exact ⟨k + 1, by omega, by go_num, H.out⟩
          case measure => simp [intOf]; omega
        · have q : (cmpS x y != 0) = true := by simp [hz]
          have H : Hid (lexS l m = cmpS x y) := Lib.hid (by rw [Hlex.out, Hs.out, if_neg hz])
          clear hz
          go_wp2_with (go_at_call 47; refine (cmpStr_any _ _ _).mono ?_; rintro e w' ⟨rfl, rfl⟩)
          go_ret
          exact ⟨by rw [H.out]; rfl, rfl⟩
      · have H := Lib.hid (Hlex.out.trans (lex_long hlt hlt2))
        have k2 : (m.length : Int) ≤ (k : Int) := by omega
        go_wp2
        go_ret
        exact ⟨by rw [H.out]; rfl, rfl⟩
    · obtain rfl : k = l.length := by omega
      by_cases hlt2 : l.length < m.length
      · have H := Lib.hid (Hlex.out.trans (lex_short hlt hlt2))
        go_wp2
        go_ret
        exact ⟨by rw [H.out]; rfl, rfl⟩
      · have H := Lib.hid (Hlex.out.trans (lex_same hlt hlt2))
        go_wp2
        go_ret
        exact ⟨by rw [H.out]; rfl, rfl⟩
end Go.Proofs.Ytebfjikgececlaa

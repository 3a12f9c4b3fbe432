/-
  Walks of SameOrigin (program and reference) and of the comparisons of ints beneath it. No condition.
-/
import Derived.Test.YtebfjikgececlaaRecord
import Derived.Deep.RegionHeld3
import Derived.Deep.QuietTactic
import Derived.BigQuiet
namespace Go.Proofs.Ytebfjikgececlaa
open Go.RowKit
set_option linter.unusedVariables false
set_option linter.unusedSimpArgs false
def cmpI (a b : Int) : Int := if a < b then -1 else if b < a then 1 else 0
theorem cmpI_lt {a b : Int} (h : a < b) : cmpI a b = -1 := if_pos h
theorem cmpI_gt {a b : Int} (h : b < a) : cmpI a b = 1 := by unfold cmpI; rw [if_neg (by omega), if_pos h]
theorem cmpI_eq {a b : Int} (h : a = b) : cmpI a b = 0 := by unfold cmpI; rw [if_neg (by omega), if_neg (by omega)]
theorem cmpI_zero {a b : Int} : cmpI a b = 0 ↔ a = b := by unfold cmpI; split <;> (try split) <;> omega
def sameO (s k s2 k2 : Int) : Bool := decide (s = s2 ∧ k = k2)
def firstNZ (l : List Int) : Int := (l.find? (fun x => x != 0)).getD 0
theorem firstNZ_hit {l : List Int} {k : Nat} (h : k < l.length) (hz : l[k] ≠ 0) (ha : ∀ j (hj : j < k), l[j]'(by omega) = 0) : firstNZ l = l[k] := by
  unfold firstNZ
  induction l generalizing k with
  | nil => simp at h
  | cons x l ih =>
    cases k with
    | zero => simp at hz ⊢; rw [List.find?_cons_of_pos (by simp [hz])]; rfl
    | succ k =>
      have h0 : x = 0 := ha 0 (by omega)
      rw [List.find?_cons_of_neg (by simp [h0])]
      exact ih (k := k) (by simp at h; omega) hz (fun j hj => ha (j + 1) (by omega))
theorem firstNZ_none {l : List Int} (ha : ∀ j (hj : j < l.length), l[j] = 0) : firstNZ l = 0 := by
  unfold firstNZ
  rw [List.find?_eq_none.2]
  · rfl
  · intro x hx
    obtain ⟨j, hj, rfl⟩ := List.getElem_of_mem hx
    simp [ha j hj]
set_option maxHeartbeats 400000 in
theorem cmpInt_any (a b : Int) (w : World) :
    Calls Try.prog 33 #[.int .i64 a, .int .i64 b] w fun e w' => e = .returned (.int .i64 (cmpI a b)) ∧ w' = w := by
  have q1 : (a != a) = false := by simp
  have q2 : (b != b) = false := by simp
  by_cases h1 : a < b
  · have H := Lib.hid (cmpI_lt h1)
    go_enter Try.func33, Try.ntmps33
    go_wp2
    go_ret
    exact ⟨by rw [H.out]; rfl, rfl⟩
  · by_cases h2 : b < a
    · have H := Lib.hid (cmpI_gt h2)
      go_enter Try.func33, Try.ntmps33
      go_wp2
      go_ret
      exact ⟨by rw [H.out]; rfl, rfl⟩
    · obtain rfl : a = b := by omega
      have H := Lib.hid (cmpI_eq (a := a) rfl)
      go_enter Try.func33, Try.ntmps33
      go_wp2
      go_ret
      exact ⟨by rw [H.out]; rfl, rfl⟩
set_option maxHeartbeats 800000 in
theorem cmpOr_any (a : Option Addr) (c : Nat) (l : List Int) (w : World) (hr : RowAt fI w a l) (hl : l.length ≤ 9223372036854775807) :
    Calls Try.prog 32 #[.slice a l.length c] w fun e w' => e = .returned (.int .i64 (firstNZ l)) ∧ w = w' := by
  go_enter Try.func32, Try.ntmps32
  go_wp2
  go_loop [8] (fun i => ∃ k : Nat, k ≤ l.length ∧ i = .int .i64 k ∧ ∀ j (hj : j < l.length), j < k → l[j] = 0) (fun i => l.length - (intOf i).toNat)
  case atStart => exact ⟨0, Nat.zero_le _, rfl, by omega⟩
  case round =>
    obtain ⟨k, hk, rfl, hall⟩ := hrel
    have Hall := Lib.hid hall; clear hall
    by_cases hlt : k < l.length
    · have k1 : (k : Int) < (l.length : Int) := by omega
      obtain ⟨b1, o1, rfl, hc1⟩ := hr.cell k hlt
      unfold fI at hc1
      by_cases hz : l[k] = 0
      · have q : (l[k] != 0) = false := by simp [hz]
        have Hz := Lib.hid hz; clear hz
        go_wp2
        go_round
        case rel => exact ⟨k + 1, by omega, by go_num, fun j hj hjk => by
          by_cases e : j = k
          · subst e; exact Hz.out
          · exact Hall.out j hj (by omega)⟩
        case measure => simp [intOf]; omega
      · have q : (l[k] != 0) = true := by simp [hz]
        have H := Lib.hid (firstNZ_hit hlt hz (fun j hj => Hall.out j (by omega) hj))
        clear hz
        go_wp2
        go_ret
        exact ⟨by rw [H.out]; rfl, rfl⟩
    · obtain rfl : k = l.length := by omega
      have H := Lib.hid (firstNZ_none (fun j hj => Hall.out j hj hj))
      go_wp2
      go_ret
      exact ⟨by rw [H.out]; rfl, rfl⟩
theorem keep4 {w0 W W' : World} {p0 p1 p2 p3 : Addr} {v0 v1 v2 v3 : Value} (h : W.cell? p0 = some v0 ∧ W.cell? p1 = some v1 ∧ W.cell? p2 = some v2 ∧ W.cell? p3 = some v3 ∧ Below w0.heap.size w0 W) (hb : Below W.heap.size W W') :
    W'.cell? p0 = some v0 ∧ W'.cell? p1 = some v1 ∧ W'.cell? p2 = some v2 ∧ W'.cell? p3 = some v3 ∧ Below w0.heap.size w0 W' := by
  obtain ⟨h0, h1, h2, h3, h4⟩ := h
  exact ⟨(hb.cell (World.block_lt_of_cell? W _ h0)).trans h0, (hb.cell (World.block_lt_of_cell? W _ h1)).trans h1, (hb.cell (World.block_lt_of_cell? W _ h2)).trans h2, (hb.cell (World.block_lt_of_cell? W _ h3)).trans h3, h4.trans (hb.mono h4.size)⟩
theorem rowAt_two (W : World) (e : TypeId) (a b : Int) : RowAt fI (W.alloc (.cells #[.int .i64 a, .int .i64 b] e)) (some ⟨W.heap.size, 0, none⟩) [a, b] := by
  refine Or.inr ⟨_, 0, rfl, fun i x hx => ?_⟩
  match i, hx with
  | 0, hx => simp at hx; subst hx; simp [fI]
  | 1, hx => simp at hx; subst hx; simp [fI]
theorem RowAt.drew {α : Type} {f : α → Value} {w : World} {a : Option Addr} {l : List α} (h : RowAt f w a l) : RowAt f w.drew a l := h
theorem rowAt_three (W : World) (e : TypeId) (a b c : Int) : RowAt fI (W.alloc (.cells #[.int .i64 a, .int .i64 b, .int .i64 c] e)) (some ⟨W.heap.size, 0, none⟩) [a, b, c] := by
  refine Or.inr ⟨_, 0, rfl, fun i x hx => ?_⟩
  match i, hx with
  | 0, hx => simp at hx; subst hx; simp [fI]
  | 1, hx => simp at hx; subst hx; simp [fI]
  | 2, hx => simp at hx; subst hx; simp [fI]
theorem specSameOrigin (s k v s2 k2 v2 : Int) (a a2 : Option Addr) (n c n2 c2 : Nat) (w : World) :
    Calls Try.prog 14 #[recV s k v a n c, recV s2 k2 v2 a2 n2 c2] w fun e w' => e = .returned (.bool (sameO s k s2 k2)) ∧ Below w.heap.size w w' := by
  (try unfold recV)
  by_cases h1 : s = s2
  · by_cases h2 : k = k2
    · have H : Hid (sameO s k s2 k2 = true) := Lib.hid (decide_eq_true ⟨h1, h2⟩)
      subst h1; subst h2
      go_enter Try.func14, Try.ntmps14
      go_wp2
      go_ret
      exact ⟨by rw [H.out]; rfl, ((Below.refl _ _).alloc (Nat.le_refl _) _).alloc (by simp) _⟩
    · have H : Hid (sameO s k s2 k2 = false) := Lib.hid (decide_eq_false fun h => h2 h.2)
      obtain ⟨e1, e2⟩ := neI h2
      clear h2
      subst h1
      go_enter Try.func14, Try.ntmps14
      go_wp2
      go_ret
      exact ⟨by rw [H.out]; rfl, ((Below.refl _ _).alloc (Nat.le_refl _) _).alloc (by simp) _⟩
  · have H : Hid (sameO s k s2 k2 = false) := Lib.hid (decide_eq_false fun h => h1 h.1)
    obtain ⟨e1, e2⟩ := neI h1
    clear h1
    go_enter Try.func14, Try.ntmps14
    go_wp2
    go_ret
    exact ⟨by rw [H.out]; rfl, ((Below.refl _ _).alloc (Nat.le_refl _) _).alloc (by simp) _⟩
def cmpO (s k s2 k2 : Int) : Int := firstNZ [cmpI s s2, cmpI k k2]
set_option maxHeartbeats 1000000 in
theorem compareOrigins_any (s k v s2 k2 v2 : Int) (a a2 : Option Addr) (n c n2 c2 : Nat) (w : World) :
    Calls Try.prog 30 #[recV s k v a n c, recV s2 k2 v2 a2 n2 c2] w fun e w' => e = .returned (.int .i64 (cmpO s k s2 k2)) ∧ Below w.heap.size w w' := by
  (try unfold recV)
  go_enter Try.func30, Try.ntmps30
  go_wp2
  obtain ⟨W0, hW0⟩ : ∃ W0, W0 = ((w.alloc (.cells #[.int .i64 s, .int .i64 k, .int .i64 v, .slice a n c] 31)).alloc (.cells #[.int .i64 s2, .int .i64 k2, .int .i64 v2, .slice a2 n2 c2] 31)) := ⟨_, rfl⟩
  have g0 : W0.cell? ⟨w.heap.size, 0, none⟩ = some (.int .i64 s) := by rw [hW0]; simp
  have g1 : W0.cell? ⟨w.heap.size, 1, none⟩ = some (.int .i64 k) := by rw [hW0]; simp
  have g2 : W0.cell? ⟨w.heap.size + 1, 0, none⟩ = some (.int .i64 s2) := by rw [hW0]; simp
  have g3 : W0.cell? ⟨w.heap.size + 1, 1, none⟩ = some (.int .i64 k2) := by rw [hW0]; simp
  have hb0 : Below w.heap.size w W0 := by rw [hW0]; exact ((Below.refl _ _).alloc (Nat.le_refl _) _).alloc (by simp) _
  rw [← hW0]
  clear hW0
  go_region_held3 (fun W => W.cell? ⟨w.heap.size, 0, none⟩ = some (.int .i64 s) ∧ W.cell? ⟨w.heap.size, 1, none⟩ = some (.int .i64 k) ∧ W.cell? ⟨w.heap.size + 1, 0, none⟩ = some (.int .i64 s2) ∧ W.cell? ⟨w.heap.size + 1, 1, none⟩ = some (.int .i64 k2) ∧ Below w.heap.size w W) (first | assumption | exact ⟨g0, g1, g2, g3, hb0.drew⟩ | exact keep4 (by assumption) ((Below.refl _ _).alloc (Nat.le_refl _) _) | exact keep4 (by assumption) (by assumption)) (first
    | (go_at_call 33; refine (cmpInt_any _ _ _).mono ?_; rintro e w' ⟨rfl, rfl⟩)
    | (go_at_call 32; refine (cmpOr_any _ 2 [cmpI s s2, cmpI k k2] _ (rowAt_two W0 _ _ _).drew (by simp)).mono ?_; rintro e w' ⟨rfl, rfl⟩))
  all_goals
    go_wp2
    go_ret
    exact ⟨rfl, (hb0.alloc (by have := hb0.size; omega) _).drew⟩
theorem cmpO_zero (s k s2 k2 : Int) : (cmpO s k s2 k2 == 0) = sameO s k s2 k2 := by
  unfold cmpO sameO firstNZ
  rw [Bool.eq_iff_iff]
  simp only [beq_iff_eq, decide_eq_true_eq]
  by_cases h1 : s = s2
  · rw [List.find?_cons_of_neg (by simp [cmpI_zero.2 h1])]
    by_cases h2 : k = k2
    · rw [List.find?_cons_of_neg (by simp [cmpI_zero.2 h2])]; simp [h1, h2]
    · rw [List.find?_cons_of_pos (by simp [cmpI_zero, h2])]; simp [cmpI_zero, h1, h2]
  · rw [List.find?_cons_of_pos (by simp [cmpI_zero, h1])]; simp [cmpI_zero, h1]
theorem implSameOrigin (s k v s2 k2 v2 : Int) (a a2 : Option Addr) (n c n2 c2 : Nat) (w : World) :
    Calls Try.prog 16 #[recV s k v a n c, recV s2 k2 v2 a2 n2 c2] w fun e w' => e = .returned (.bool (sameO s k s2 k2)) ∧ Below w.heap.size w w' := by
  have H := Lib.hid (cmpO_zero s k s2 k2)
  obtain ⟨z, hz⟩ : ∃ z, z = cmpO s k s2 k2 := ⟨_, rfl⟩
  rw [← hz] at H
  have Hz := Lib.hid hz; clear hz
  have hb0 : Below w.heap.size w ((w.alloc (.cells #[.int .i64 s, .int .i64 k, .int .i64 v, .slice a n c] 31)).alloc (.cells #[.int .i64 s2, .int .i64 k2, .int .i64 v2, .slice a2 n2 c2] 31)) := ((Below.refl _ _).alloc (Nat.le_refl _) _).alloc (by simp) _
  have Hb0 := Lib.hid hb0; clear hb0
  (try unfold recV)
  go_enter Try.func16, Try.ntmps16
  go_wp2_with (go_at_call 30; refine (compareOrigins_any s k v s2 k2 v2 a a2 n c n2 c2 _).mono ?_; rintro e w' ⟨rfl, hb⟩; rw [← Hz.out])
  go_ret
  exact ⟨by rw [← H.out]; rfl, Hb0.out.trans (hb.mono (by simp; omega))⟩
end Go.Proofs.Ytebfjikgececlaa

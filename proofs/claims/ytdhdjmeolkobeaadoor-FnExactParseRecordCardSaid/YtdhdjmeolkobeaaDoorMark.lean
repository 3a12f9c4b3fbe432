/-
  Walks of the laws' marks (markText, markStringS, heldStringS): fresh strings written into a slice and read again; what such a write leaves alone. Condition: at most 2^22 marks.
-/
import Derived.Test.YtdhdjmeolkobeaaDoorStrs
import Derived.Test.YtdhdjmeolkobeaaDoorNumLaw
import Derived.Deep.RegionHeld3
namespace Go.Proofs.YtdhdjmeolkobeaaDoor
open Go.RowKit
set_option linter.unusedVariables false
set_option linter.unusedSimpArgs false
set_option maxRecDepth 100000

/-- Nothing that was there has changed, but blocks from lo on and below hi. -/
structure Only (lo hi : Nat) (w w' : World) : Prop where
  os : w'.os = w.os
  tape : w'.tape = w.tape
  output : w'.output = w.output
  size : w.heap.size ≤ w'.heap.size
  block : ∀ i, i < w.heap.size → (i < lo ∨ hi ≤ i) → w'.heap[i]? = w.heap[i]?
theorem Only.refl (lo hi : Nat) (w : World) : Only lo hi w w := ⟨rfl, rfl, rfl, Nat.le_refl _, fun _ _ _ => rfl⟩
theorem Only.trans {lo hi : Nat} {a b c : World} (h : Only lo hi a b) (k : Only lo hi b c) : Only lo hi a c :=
  ⟨k.os.trans h.os, k.tape.trans h.tape, k.output.trans h.output, Nat.le_trans h.size k.size, fun i hi ho => (k.block i (Nat.lt_of_lt_of_le hi h.size) ho).trans (h.block i hi ho)⟩
theorem Only.ofBelow {lo hi : Nat} {w w' : World} (h : Below w.heap.size w w') : Only lo hi w w' := ⟨h.os, h.tape, h.output, h.size, fun i hi _ => h.block i hi⟩
theorem Only.set {lo hi : Nat} {a w : World} (h : Only lo hi a w) {p : Addr} (h1 : lo ≤ p.block) (h2 : p.block < hi) (v : Value) : Only lo hi a (w.setCell p v) :=
  ⟨h.os, h.tape, h.output, by simpa [World.setCell] using h.size, fun i hi ho => (Below.heap_setCell w p v i (by omega)).trans (h.block i hi ho)⟩
theorem Only.below {lo hi B : Nat} {w w' : World} (h : Only lo hi w w') (h1 : B ≤ lo) (h2 : B ≤ w.heap.size) : Below B w w' :=
  ⟨h.os, h.tape, h.output, h.size, fun i hi => h.block i (Nat.lt_of_lt_of_le hi h2) (Or.inl (Nat.lt_of_lt_of_le hi h1))⟩
/-- A slice's row in a block from lo on and below hi, nothing of it frozen. -/
def RowIn {α : Type} (f : α → Value) (lo hi : Nat) (w : World) (a : Option Addr) (l : List α) : Prop :=
  l = [] ∨ ∃ b, a = some ⟨b, 0, none⟩ ∧ lo ≤ b ∧ b < hi ∧ LiesG f w b l
section
variable {α : Type} {f : α → Value}
theorem LiesG.lt {w : World} {g : Nat} {l : List α} (h : LiesG f w g l) (hl : 0 < l.length) : g < w.heap.size :=
  World.block_lt_of_cell? w _ (h 0 _ (List.getElem?_eq_getElem hl)).1
theorem LiesG.keep {w w' : World} {g : Nat} {l : List α} (h : LiesG f w g l) (hb : w'.heap[g]? = w.heap[g]?) : LiesG f w' g l :=
  fun i x hx => ⟨(World.cell?_of_block (a := ⟨g, i, none⟩) hb).trans (h i x hx).1, (World.frozen?_of_block (a := ⟨g, i, none⟩) hb).trans (h i x hx).2⟩
theorem LiesG.below {w w' : World} {g : Nat} {l : List α} (h : LiesG f w g l) (hb : Below w.heap.size w w') : LiesG f w' g l := by
  cases l with
  | nil => intro i x hx; simp at hx
  | cons x l => exact h.keep (hb.block g (h.lt (by simp)))
theorem RowOwn.inn {B : Nat} {w : World} {a : Option Addr} {l : List α} (h : RowOwn f B w a l) : RowIn f B w.heap.size w a l := by
  rcases h with h | ⟨b, h1, h2, h3⟩
  · exact Or.inl h
  · cases l with
    | nil => exact Or.inl rfl
    | cons x l => exact Or.inr ⟨b, h1, h2, LiesG.lt (l := x :: l) h3 (by simp), h3⟩
theorem RowIn.own {lo hi : Nat} {w : World} {a : Option Addr} {l : List α} (h : RowIn f lo hi w a l) : RowOwn f lo w a l := by
  rcases h with h | ⟨b, h1, h2, h3, h4⟩
  · exact Or.inl h
  · exact Or.inr ⟨b, h1, h2, h4⟩
theorem RowIn.at {lo hi : Nat} {w : World} {a : Option Addr} {l : List α} (h : RowIn f lo hi w a l) : RowAt f w a l := h.own.at
theorem RowIn.below {lo hi : Nat} {w w' : World} {a : Option Addr} {l : List α} (h : RowIn f lo hi w a l) (hb : Below w.heap.size w w') : RowIn f lo hi w' a l := by
  rcases h with h | ⟨b, h1, h2, h3, h4⟩
  · exact Or.inl h
  · exact Or.inr ⟨b, h1, h2, h3, h4.below hb⟩
theorem RowIn.mono {lo hi lo' hi' : Nat} {w : World} {a : Option Addr} {l : List α} (h : RowIn f lo hi w a l) (h1 : lo' ≤ lo) (h2 : hi ≤ hi') : RowIn f lo' hi' w a l := by
  rcases h with h | ⟨b, e, g1, g2, g3⟩
  · exact Or.inl h
  · exact Or.inr ⟨b, e, by omega, by omega, g3⟩
/-- Another row is left alone. -/
theorem RowIn.only {lo hi lo' hi' : Nat} {w w' : World} {a : Option Addr} {l : List α} (h : RowIn f lo hi w a l) (ho : Only lo' hi' w w') (hd : hi ≤ lo' ∨ hi' ≤ lo) : RowIn f lo hi w' a l := by
  rcases h with h | ⟨b, h1, h2, h3, h4⟩
  · exact Or.inl h
  · cases l with
    | nil => exact Or.inl rfl
    | cons x l => exact Or.inr ⟨b, h1, h2, h3, h4.keep (ho.block b (h4.lt (by simp)) (by omega))⟩
end

/-! ### the marks -/
def mkT (k : Nat) : ByteArray := bstr (109 :: dg0 k)
def marks (k n : Nat) : List ByteArray := (List.range n).map fun i => mkT (k + i)
theorem marks_len (k n : Nat) : (marks k n).length = n := by simp [marks]
theorem marks_at (k n i : Nat) (h : i < n) : (marks k n)[i]? = some (mkT (k + i)) := by simp [marks, h]
def mixM (k : Nat) (l : List ByteArray) (j : Nat) : List ByteArray := marks k j ++ l.drop j
theorem mixM_zero (k : Nat) (l : List ByteArray) : mixM k l 0 = l := by simp [mixM, marks]
theorem mixM_all (k : Nat) (l : List ByteArray) : mixM k l l.length = marks k l.length := by simp [mixM]
theorem mixM_len (k : Nat) (l : List ByteArray) (j : Nat) (h : j ≤ l.length) : (mixM k l j).length = l.length := by simp [mixM, marks_len]; omega
theorem mixM_succ (k : Nat) (l : List ByteArray) (j : Nat) (h : j < l.length) : (mixM k l j).set j (mkT (k + j)) = mixM k l (j + 1) := by
  unfold mixM
  rw [List.set_append_right _ _ (by rw [marks_len]; omega), marks_len, Nat.sub_self, List.drop_eq_getElem_cons h, List.set_cons_zero]
  simp [marks, List.range_succ]
theorem catM_ok (a b : List UInt8) (h : a.length + b.length ≤ 1000000000000) : ¬ 9223372036854775807 < (bstr a).size + (bstr b).size := by rw [bstr_size, bstr_size]; omega
theorem bstr_addM (a b : List UInt8) : bstr a ++ bstr b = bstr (a ++ b) := by apply ByteArray.ext; simp [bstr]
theorem keepM {w0 W W' : World} {a : Addr} {v : Value} (hc : Hid (∀ W, Below w0.heap.size w0 W → W.cell? a = some v)) (h : W.cell? a = some v ∧ Below w0.heap.size w0 W) (hb : Below W.heap.size W W') : W'.cell? a = some v ∧ Below w0.heap.size w0 W' :=
  ⟨hc.out _ (h.2.trans (hb.mono h.2.size)), h.2.trans (hb.mono h.2.size)⟩
set_option maxHeartbeats 800000 in
theorem markText_any (k : Nat) (w : World) (h1 : 1 ≤ k) (h2 : k ≤ 10000000) :
    Calls Tryd.prog 52 #[.int .i64 k] w fun e w' => e = .returned (.string (mkT k)) ∧ Below w.heap.size w w' := by
  have d0 : decide ((k : Int) ≤ 0) = false := by simp; omega
  have hlen : (dg0 k).length ≤ 8 := dg0_len_le 8 k (by omega)
  have Hlen := Lib.hid hlen; clear hlen
  go_enter Tryd.func52, Tryd.ntmps52
  go_wp2
  clear d0
  go_loopw [0, 3] (fun t o wr => ∃ (m : Nat) (l : List UInt8), m ≤ k ∧ t = .int .i64 m ∧ o = .string (bstr l) ∧ dg0 m ++ l = dg0 k ∧ Below w.heap.size w wr) (fun t _ _ => (intOf t).toNat)
  case atStart => exact ⟨k, [], Nat.le_refl _, rfl, rfl, by simp, Below.refl _ _⟩
  case round =>
    obtain ⟨m, l, hm, rfl, rfl, he, hb⟩ := hrel
    have hl : l.length ≤ 8 := by have := congrArg List.length he; rw [List.length_append] at this; have := Hlen.out; omega
    by_cases hz : m = 0
    · have H : Hid ((⟨#[109]⟩ : ByteArray) ++ bstr l = mkT k) := Lib.hid (by
        rw [show (⟨#[109]⟩ : ByteArray) = bstr [109] from rfl, bstr_addM]; unfold mkT; rw [← he, hz, dg0_zero]; rfl)
      clear he
      subst hz
      have hcat := catM_ok [109] l (by simp; omega)
      go_wp2
      go_ret
      exact ⟨by rw [← H.out]; rfl, hb⟩
    · have hd : dg0 (m / 10) ++ (dch (m % 10) :: l) = dg0 k := by rw [← he, dg0_pos hz]; simp
      have Hd := Lib.hid hd; clear hd he
      have p0 : 0 < (m : Int) := by omega
      have ht := text1 wr (48 + (m : Int) % 10) (dch (m % 10)) (by rw [digit_toNat _ (by omega)]; omega)
      have hb2 := Lib.hid (hb.alloc hb.size (.cells #[.int .u8 (48 + (m : Int) % 10)] 5))
      have hcat := catM_ok [dch (m % 10)] l (by simp; omega)
      clear hb hz
      go_wp2
      refine ⟨⟨m / 10, dch (m % 10) :: l, by omega, by go_num, ?_, Hd.out, hb2.out⟩, by simp [intOf]; omega⟩
      rw [bstr_addM]; rfl
set_option maxHeartbeats 800000 in
theorem markStringS_any {lo hi : Nat} (a : Option Addr) (c : Nat) (l : List ByteArray) (k : Nat) (w : World) (hrow : RowIn fS lo hi w a l) (h1 : 1 ≤ k) (h2 : k + l.length ≤ 10000000) :
    Calls Tryd.prog 28 #[.slice a l.length c, .int .i64 k] w fun e w' => e = .returned (.int .i64 ((k + l.length : Nat) : Int)) ∧ RowIn fS lo hi w' a (marks k l.length) ∧ Only lo hi w w' := by
  by_cases hz : l.length = 0
  · have hl : l = [] := List.eq_nil_of_length_eq_zero hz
    subst hl
    simp only [List.length_nil, Nat.add_zero]
    go_enter Tryd.func28, Tryd.ntmps28
    go_wp2
    go_loopw [1, 5] (fun t i wr => t = .int .i64 k ∧ i = .int .i64 0 ∧ w = wr) (fun _ i _ => 0)
    case atStart => exact ⟨rfl, rfl, rfl⟩
    case round =>
      obtain ⟨rfl, rfl, rfl⟩ := hrel
      go_wp2
      go_ret
      exact ⟨rfl, Or.inl rfl, Only.refl _ _ _⟩
  · rcases hrow with h0 | ⟨b, rfl, hlo, hhi, hL⟩
    · exact absurd (by rw [h0]; rfl) hz
    · have hpos : 0 < l.length := by omega
      have HL : LiesG fS w b (mixM k l 0) := by rw [mixM_zero]; exact hL
      clear hz hL
      go_enter Tryd.func28, Tryd.ntmps28
      go_wp2
      go_loopw [1, 5] (fun t i wr => ∃ j : Nat, j ≤ l.length ∧ i = .int .i64 j ∧ t = .int .i64 ((k + j : Nat) : Int) ∧ LiesG fS wr b (mixM k l j) ∧ Only lo hi w wr) (fun _ i _ => l.length - (intOf i).toNat)
      case atStart => exact ⟨0, Nat.zero_le _, rfl, rfl, HL, Only.refl _ _ _⟩
      case round =>
        obtain ⟨j, hj, rfl, rfl, hLr, hO⟩ := hrel
        clear HL
        by_cases hlt : j < l.length
        · have hlen := mixM_len k l j hj
          have hbl := hLr.lt (by rw [hlen]; exact hpos)
          have Hlen := Lib.hid hlen; clear hlen
          have HLr := Lib.hid hLr; clear hLr
          go_wp2_with fail
          refine (markText_any (k + j) _ (by omega) (by omega)).mono ?_
          rintro e w2 ⟨rfl, hb2⟩
          have hL2 := HLr.out.below hb2
          obtain ⟨⟨c0, hc0⟩, hf⟩ := hL2.some j (by rw [Hlen.out]; exact hlt)
          have hs := hL2.set j (by rw [Hlen.out]; exact hlt) (mkT (k + j))
          rw [mixM_succ k l j hlt] at hs
          have Hs := Lib.hid hs
          have HO := Lib.hid ((hO.trans (Only.ofBelow hb2)).set (p := ⟨b, j, none⟩) hlo hhi (fS (mkT (k + j))))
          clear hs hL2 hb2 hO
          go_wp2
          go_roundw
          case rel => exact ⟨j + 1, by omega, by go_num, by go_num, Hs.out, HO.out⟩
          case measure => simp [intOf]; omega
        · obtain rfl : j = l.length := by omega
          rw [mixM_all] at hLr
          have HR : Hid (RowIn fS lo hi wr (some ⟨b, 0, none⟩) (marks k l.length)) := Or.inr ⟨b, rfl, hlo, hhi, hLr⟩
          clear hLr
          go_wp2
          go_ret
          exact ⟨rfl, HR.out, hO⟩
set_option maxHeartbeats 1600000 in
theorem heldStringS_any (a : Option Addr) (c : Nat) (n : Nat) (k : Nat) (w : World) (hrow : RowAt fS w a (marks k n)) (h1 : 1 ≤ k) (h2 : k + n ≤ 10000000) :
    Calls Tryd.prog 29 #[.slice a n c, .int .i64 k] w fun e w' => e = .returned (.int .i64 ((k + n : Nat) : Int)) ∧ Below w.heap.size w w' := by
  have Hrow := Lib.hid hrow; clear hrow
  go_enter Tryd.func29, Tryd.ntmps29
  go_wp2
  go_loopw [1, 5] (fun t i wr => ∃ j : Nat, j ≤ n ∧ i = .int .i64 j ∧ t = .int .i64 ((k + j : Nat) : Int) ∧ Below w.heap.size w wr) (fun _ i _ => n - (intOf i).toNat)
  case atStart => exact ⟨0, Nat.zero_le _, rfl, rfl, Below.refl _ _⟩
  case round =>
    obtain ⟨j, hj, rfl, rfl, hb⟩ := hrel
    by_cases hlt : j < n
    · obtain ⟨b, off, ea, hc⟩ := (Hrow.out.below hb).cell j (by rw [marks_len]; exact hlt)
      have hx : (marks k n)[j]'(by rw [marks_len]; exact hlt) = mkT (k + j) := by
        have := marks_at k n j hlt
        rw [List.getElem?_eq_getElem (by rw [marks_len]; exact hlt)] at this
        exact Option.some.inj this
      rw [hx] at hc
      clear hx
      subst ea
      unfold fS at hc
      obtain ⟨x, hx⟩ : ∃ x, mkT (k + j) = x := ⟨_, rfl⟩
      rw [hx] at hc
      have Hx := Lib.hid hx; clear hx
      have hq : (x.toList != x.toList) = false := by simp
      have Hc : Hid (∀ W, Below wr.heap.size wr W → W.cell? ⟨b, off + j, none⟩ = some (.string x)) := Lib.hid fun W hW => (hW.cell (World.block_lt_of_cell? wr _ hc)).trans hc
      have k1 : (j : Int) < (n : Int) := by omega
      have k2 : (0 : Int) ≤ (j : Int) := by omega
      have Hb := Lib.hid hb; clear hb
      go_wp2
      go_region_held3 (fun W => W.cell? ⟨b, off + j, none⟩ = some (.string x) ∧ Below wr.heap.size wr W) (first | assumption | exact ⟨Hc.out _ (Below.refl _ _).drew, (Below.refl _ _).drew⟩ | exact keepM Hc (by assumption) (by assumption)) (first
        | (go_at_call 52; refine (markText_any (k + j) _ (by omega) (by omega)).mono ?_; rintro e w' ⟨rfl, hv⟩; rw [Hx.out]))
      have HB : Hid (Below w.heap.size w w') := Hb.out.trans (Below.mono (B := wr.heap.size) (And.right (by assumption)) Hb.out.size)
      go_wp2
      go_roundw
      case rel => exact ⟨j + 1, by omega, by go_num, by go_num, HB.out⟩
      case measure => simp [intOf]; omega
    · obtain rfl : j = n := by omega
      go_wp2
      go_ret
      exact ⟨rfl, hb⟩
end Go.Proofs.YtdhdjmeolkobeaaDoor

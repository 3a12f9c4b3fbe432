/-
  Walks of RecordName (program and reference). Condition: the fields have at most 2^20 bytes; the table of powers of ten holds what the library lays.
-/
import Derived.Test.YtdhdjmeolkobeaaDoorValid
import Derived.Test.YtdhdjmeolkobeaaDoorFmt
import Derived.Deep.RegionHeld3
import Derived.Deep.RegionWith
namespace Go.Proofs.YtdhdjmeolkobeaaDoor
open Go.RowKit
set_option linter.unusedVariables false
set_option linter.unusedSimpArgs false
set_option maxRecDepth 100000
def oname (s k : Int) : List UInt8 := UInt8.ofNat (97 + s.toNat) :: Lib.itoa k
def rname (s k v : Int) (l : List ByteArray) : List UInt8 := if validR s k v l = true then oname s k else []
theorem validR_bounds {s k v : Int} {l : List ByteArray} (h : validR s k v l = true) : (0 ≤ s ∧ s ≤ 3) ∧ (1 ≤ k ∧ k ≤ 99) ∧ (1 ≤ v ∧ v ≤ 999) ∧ l.length = 4 ∧ l.all fieldB = true := by
  unfold validR at h
  simp only [Bool.and_eq_true, decide_eq_true_eq] at h
  exact ⟨inB_yes h.1, inB_yes h.2.1, inB_yes h.2.2.1, h.2.2.2.1, h.2.2.2.2⟩
theorem catN_ok (a b : List UInt8) (h : a.length + b.length ≤ 1000000000000) : ¬ 9223372036854775807 < (bstr a).size + (bstr b).size := by rw [bstr_size, bstr_size]; omega
theorem bstr_addN (a b : List UInt8) : bstr a ++ bstr b = bstr (a ++ b) := by apply ByteArray.ext; simp [bstr]
theorem itoa_small (k : Int) (h0 : 0 ≤ k) (h1 : k ≤ 999) : (Lib.itoa k).length ≤ 20 := itoa_len k (by omega) (by omega)
theorem keepT {w0 W W' : World} (h : Below w0.heap.size w0 W ∧ Tab W) (hb : Below W.heap.size W W') : Below w0.heap.size w0 W' ∧ Tab W' := ⟨h.1.trans (hb.mono h.1.size), h.2.below hb⟩
set_option maxHeartbeats 1600000 in
theorem originName_any (s k : Int) (w : World) (ev : Tab w) (h0 : 0 ≤ s) (h1 : s ≤ 3) (k0 : 1 ≤ k) (k1 : k ≤ 99) :
    Calls Tryd.prog 37 #[.int .i64 s, .int .i64 k] w fun e w' => e = .returned (.string (bstr (oname s k))) ∧ Below w.heap.size w w' := by
  obtain ⟨L, hL⟩ : ∃ L, Lib.itoa k = L := ⟨_, rfl⟩
  have hl := itoa_small k (by omega) (by omega)
  rw [hL] at hl
  have HL := Lib.hid hL
  have Hev := Lib.hid ev
  have hs : s = 0 ∨ s = 1 ∨ s = 2 ∨ s = 3 := by omega
  clear hL ev h0 h1
  rcases hs with rfl | rfl | rfl | rfl
  · have H : Hid (oname 0 k = [97] ++ L) := Lib.hid (by unfold oname; rw [HL.out]; rfl)
    have hx : (⟨#[97, 98, 99, 100]⟩ : ByteArray).extract 0 1 = bstr [97] := by decide +kernel
    have wj : IntKind.i64.wrap 1 = 1 := by decide
    have hcat := catN_ok [97] L (by simp; omega)
    go_enter Tryd.func37, Tryd.ntmps37
    go_wp2
    go_region_held3 (fun W => Below w.heap.size w W ∧ Tab W)
      (first | assumption | exact ⟨(Below.refl _ _).drew, Hev.out⟩ | exact keepT (by assumption) (by assumption))
      (first | (go_at_call 39; refine (implFormatInt k _ (And.right (by assumption)) (by omega) (by omega)).mono ?_; rintro e w' ⟨rfl, hb⟩; rw [HL.out]))
    have c7 : Below w.heap.size w w' := And.left (show Below w.heap.size w w' ∧ Tab w' by assumption)
    go_wp2
    go_ret
    exact ⟨by rw [H.out, ← bstr_addN]; rfl, c7⟩
  · have H : Hid (oname 1 k = [98] ++ L) := Lib.hid (by unfold oname; rw [HL.out]; rfl)
    have hx : (⟨#[97, 98, 99, 100]⟩ : ByteArray).extract 1 2 = bstr [98] := by decide +kernel
    have wj : IntKind.i64.wrap 2 = 2 := by decide
    have hcat := catN_ok [98] L (by simp; omega)
    go_enter Tryd.func37, Tryd.ntmps37
    go_wp2
    go_region_held3 (fun W => Below w.heap.size w W ∧ Tab W)
      (first | assumption | exact ⟨(Below.refl _ _).drew, Hev.out⟩ | exact keepT (by assumption) (by assumption))
      (first | (go_at_call 39; refine (implFormatInt k _ (And.right (by assumption)) (by omega) (by omega)).mono ?_; rintro e w' ⟨rfl, hb⟩; rw [HL.out]))
    have c7 : Below w.heap.size w w' := And.left (show Below w.heap.size w w' ∧ Tab w' by assumption)
    go_wp2
    go_ret
    exact ⟨by rw [H.out, ← bstr_addN]; rfl, c7⟩
  · have H : Hid (oname 2 k = [99] ++ L) := Lib.hid (by unfold oname; rw [HL.out]; rfl)
    have hx : (⟨#[97, 98, 99, 100]⟩ : ByteArray).extract 2 3 = bstr [99] := by decide +kernel
    have wj : IntKind.i64.wrap 3 = 3 := by decide
    have hcat := catN_ok [99] L (by simp; omega)
    go_enter Tryd.func37, Tryd.ntmps37
    go_wp2
    go_region_held3 (fun W => Below w.heap.size w W ∧ Tab W)
      (first | assumption | exact ⟨(Below.refl _ _).drew, Hev.out⟩ | exact keepT (by assumption) (by assumption))
      (first | (go_at_call 39; refine (implFormatInt k _ (And.right (by assumption)) (by omega) (by omega)).mono ?_; rintro e w' ⟨rfl, hb⟩; rw [HL.out]))
    have c7 : Below w.heap.size w w' := And.left (show Below w.heap.size w w' ∧ Tab w' by assumption)
    go_wp2
    go_ret
    exact ⟨by rw [H.out, ← bstr_addN]; rfl, c7⟩
  · have H : Hid (oname 3 k = [100] ++ L) := Lib.hid (by unfold oname; rw [HL.out]; rfl)
    have hx : (⟨#[97, 98, 99, 100]⟩ : ByteArray).extract 3 4 = bstr [100] := by decide +kernel
    have wj : IntKind.i64.wrap 4 = 4 := by decide
    have hcat := catN_ok [100] L (by simp; omega)
    go_enter Tryd.func37, Tryd.ntmps37
    go_wp2
    go_region_held3 (fun W => Below w.heap.size w W ∧ Tab W)
      (first | assumption | exact ⟨(Below.refl _ _).drew, Hev.out⟩ | exact keepT (by assumption) (by assumption))
      (first | (go_at_call 39; refine (implFormatInt k _ (And.right (by assumption)) (by omega) (by omega)).mono ?_; rintro e w' ⟨rfl, hb⟩; rw [HL.out]))
    have c7 : Below w.heap.size w w' := And.left (show Below w.heap.size w w' ∧ Tab w' by assumption)
    go_wp2
    go_ret
    exact ⟨by rw [H.out, ← bstr_addN]; rfl, c7⟩
set_option maxHeartbeats 1600000 in
theorem implRecordName (s k v : Int) (a : Option Addr) (c : Nat) (l : List ByteArray) (w : World) (ev : Tab w) (hr : RowAt fS w a l) (hl : l.length ≤ 1048576) (hs : Hid (∀ k (h : k < l.length), l[k].size ≤ 1048576)) :
    Calls Tryd.prog 13 #[recV s k v a l.length c] w fun e w' => e = .returned (.string (bstr (rname s k v l))) ∧ Below w.heap.size w w' := by
  (try unfold recV)
  obtain ⟨W0, hW0⟩ : ∃ W0, W0 = w.alloc (.cells #[.int .i64 s, .int .i64 k, .int .i64 v, .slice a l.length c] 27) := ⟨_, rfl⟩
  have hB : Below w.heap.size w W0 := by rw [hW0]; exact (Below.refl _ _).alloc (Nat.le_refl _) _
  have q0 : RecAt W0 w.heap.size s k v a l.length c := by rw [hW0]; exact RecAt.new w _ _ _ _ _ _ _
  have HQ := Lib.hid q0
  obtain ⟨p0, p1, p2, p3⟩ := q0
  have HB := Lib.hid hB; clear hB
  have HR := Lib.hid (hr.below HB.out)
  have HE := Lib.hid (ev.below HB.out)
  clear hr ev
  have HW := Lib.hid hW0; clear hW0
  cases hv : validR s k v l
  · have H : Hid (rname s k v l = []) := Lib.hid (by unfold rname; rw [hv]; rfl)
    have HV := Lib.hid hv
    clear hv
    go_enter Tryd.func13, Tryd.ntmps13
    go_wp2_with fail
    rw [← HW.out]
    refine (implValid s k v a c l _ HR.out (by omega) hs).mono ?_
    rintro e w1 ⟨rfl, hb1⟩
    rw [HV.out]
    go_wp2
    go_ret
    exact ⟨by rw [H.out]; rfl, HB.out.trans (hb1.mono HB.out.size)⟩
  · have H : Hid (rname s k v l = oname s k) := Lib.hid (by unfold rname; rw [hv]; rfl)
    obtain ⟨⟨s0, s1⟩, ⟨k0, k1⟩, hrest⟩ := validR_bounds hv
    clear hrest
    have HV := Lib.hid hv
    clear hv
    go_enter Tryd.func13, Tryd.ntmps13
    go_wp2_with fail
    rw [← HW.out]
    refine (implValid s k v a c l _ HR.out (by omega) hs).mono ?_
    rintro e w1 ⟨rfl, hb1⟩
    rw [HV.out]
    obtain ⟨g0, g1, g2, g3⟩ := HQ.out.below hb1
    clear p0 p1 p2 p3
    go_wp2_with fail
    refine (originName_any s k _ (HE.out.below hb1) s0 s1 k0 k1).mono ?_
    rintro e w2 ⟨rfl, hb2⟩
    go_wp2
    go_ret
    exact ⟨by rw [H.out]; rfl, HB.out.trans ((hb1.trans (hb2.mono hb1.size)).mono HB.out.size)⟩
theorem textN (c : UInt8) (n : Int) (hn : n = (c.toNat : Int)) (W : World) (N : Nat) (h : W.cell? ⟨N, 0, none⟩ = some (.int .u8 n)) :
    (convert 42 9 (.slice (some ⟨N, 0, none⟩) 1 1)).run Tryd.prog W = .ok (.string (bstr [c])) W := by
  subst hn
  rw [run_convert_bytes_arg W 42 5 Tryd.underlying42 Tryd.underlying5 N 0 1 1 [(c.toNat : Int)] rfl ?_ 9 Tryd.underlying9]
  · simp [strOfNums, bstr]
  · intro i hi
    obtain rfl : i = 0 := by simp at hi; omega
    simpa using h
theorem keepR {w0 W : World} {b : Nat} {s k v : Int} {a : Option Addr} {n c : Nat} (q : Hid (RecAt w0 b s k v a n c)) (h : Below w0.heap.size w0 W) :
    Below w0.heap.size w0 W ∧ W.cell? ⟨b, 0, none⟩ = some (.int .i64 s) ∧ W.cell? ⟨b, 1, none⟩ = some (.int .i64 k) ∧ W.cell? ⟨b, 2, none⟩ = some (.int .i64 v) ∧ W.cell? ⟨b, 3, none⟩ = some (.slice a n c) := by
  obtain ⟨p0, p1, p2, p3⟩ := q.out.below h
  exact ⟨h, p0, p1, p2, p3⟩
theorem stepR {W0 W W' : World} {Q : Prop} (h : Below W0.heap.size W0 W ∧ Q) (hb : Below W.heap.size W W') : Below W0.heap.size W0 W' := h.1.trans (hb.mono h.1.size)
theorem newR {W W' : World} {n : Int} {e : TypeId} (hb : Below (W.alloc (.cells #[.int .u8 n] e)).drew.heap.size (W.alloc (.cells #[.int .u8 n] e)).drew W') : W'.cell? ⟨W.heap.size, 0, none⟩ = some (.int .u8 n) :=
  (hb.cell (p := ⟨W.heap.size, 0, none⟩) (by show W.heap.size < (W.alloc _).heap.size; simp)).trans (by show (W.alloc _).cell? _ = _; simp)
theorem allocR {W0 W : World} {Q : Prop} (h : Below W0.heap.size W0 W ∧ Q) (o : Obj) : Below W0.heap.size W0 (W.alloc o) := h.1.alloc h.1.size o
set_option maxHeartbeats 2000000 in
theorem specRecordName (s k v : Int) (a : Option Addr) (c : Nat) (l : List ByteArray) (w : World) (hr : RowAt fS w a l) (hl : l.length ≤ 1048576) (hs : Hid (∀ k (h : k < l.length), l[k].size ≤ 1048576)) :
    Calls Tryd.prog 11 #[recV s k v a l.length c] w fun e w' => e = .returned (.string (bstr (rname s k v l))) ∧ Below w.heap.size w w' := by
  (try unfold recV)
  obtain ⟨W0, hW0⟩ : ∃ W0, W0 = w.alloc (.cells #[.int .i64 s, .int .i64 k, .int .i64 v, .slice a l.length c] 27) := ⟨_, rfl⟩
  have hB : Below w.heap.size w W0 := by rw [hW0]; exact (Below.refl _ _).alloc (Nat.le_refl _) _
  have q0 : RecAt W0 w.heap.size s k v a l.length c := by rw [hW0]; exact RecAt.new w _ _ _ _ _ _ _
  have HQ := Lib.hid q0
  obtain ⟨p0, p1, p2, p3⟩ := q0
  have HB := Lib.hid hB; clear hB
  have HR := Lib.hid (hr.below HB.out)
  clear hr
  have HW := Lib.hid hW0; clear hW0
  cases hv : validR s k v l
  · have H : Hid (rname s k v l = []) := Lib.hid (by unfold rname; rw [hv]; rfl)
    have HV := Lib.hid hv
    clear hv
    go_enter Tryd.func11, Tryd.ntmps11
    go_wp2_with fail
    rw [← HW.out]
    refine (specValid s k v a c l _ HR.out hl hs).mono ?_
    rintro e w1 ⟨rfl, hb1⟩
    rw [HV.out]
    go_wp2
    go_ret
    exact ⟨by rw [H.out]; rfl, HB.out.trans (hb1.mono HB.out.size)⟩
  · have H : Hid (rname s k v l = oname s k) := Lib.hid (by unfold rname; rw [hv]; rfl)
    obtain ⟨⟨s0, s1⟩, ⟨k0, k1⟩, hrest⟩ := validR_bounds hv
    have HV := Lib.hid hv
    clear hv hrest
    obtain ⟨L, hL⟩ : ∃ L, Lib.itoa k = L := ⟨_, rfl⟩
    have hll := itoa_small k (by omega) (by omega)
    rw [hL] at hll
    obtain ⟨ch, hch⟩ : ∃ ch : UInt8, UInt8.ofNat (97 + s.toNat) = ch := ⟨_, rfl⟩
    have hcv : 97 + s = (ch.toNat : Int) := by rw [← hch, byte_of _ (by omega)]; omega
    have HN : Hid (oname s k = [ch] ++ L) := Lib.hid (by unfold oname; rw [hL, hch]; rfl)
    have HL := Lib.hid hL
    have w1c : IntKind.i64.wrap (97 + s) = 97 + s := IntWalk.i64_in _ (by omega)
    have w2c : IntKind.u8.wrap (97 + s) = 97 + s := IntWalk.u8_in _ (by omega)
    have ht := textN ch (97 + s) hcv
    have hcat := catN_ok [ch] L (by simp; omega)
    have HT := Lib.hid ht
    clear ht hL hch hcv
    go_enter Tryd.func11, Tryd.ntmps11
    go_wp2_with fail
    rw [← HW.out]
    refine (specValid s k v a c l _ HR.out hl hs).mono ?_
    rintro e w1 ⟨rfl, hb1⟩
    rw [HV.out]
    have Q1 := Lib.hid (HQ.out.below hb1)
    have HB1 := Lib.hid (HB.out.trans (hb1.mono HB.out.size))
    clear p0 p1 p2 p3 hb1
    obtain ⟨g0, g1, g2, g3⟩ := Q1.out
    have ht := HT.out
    have ht1 : ∀ W : World, (convert 42 9 (.slice (some ⟨W.heap.size, 0, none⟩) 1 1)).run Tryd.prog (W.alloc (.cells #[.int .u8 (97 + s)] 5)) = .ok (.string (bstr [ch])) (W.alloc (.cells #[.int .u8 (97 + s)] 5)) :=
      fun W => HT.out _ _ (by simp)
    have ht2 : ∀ W : World, (convert 42 9 (.slice (some ⟨W.heap.size, 0, none⟩) 1 1)).run Tryd.prog (W.alloc (.cells #[.int .u8 (97 + s)] 5)).drew = .ok (.string (bstr [ch])) (W.alloc (.cells #[.int .u8 (97 + s)] 5)).drew :=
      fun W => HT.out _ _ (by show (W.alloc _).cell? _ = _; simp)
    obtain ⟨B, hB⟩ : ∃ B, B = w.heap.size := ⟨_, rfl⟩
    rw [← hB] at g0 g1 g2 g3 Q1 ⊢
    have HBB := Lib.hid hB
    clear hB
    go_wp2
    go_region_held (fun W => Below w1.heap.size w1 W ∧ W.cell? ⟨B, 0, none⟩ = some (.int .i64 s) ∧ W.cell? ⟨B, 1, none⟩ = some (.int .i64 k) ∧ W.cell? ⟨B, 2, none⟩ = some (.int .i64 v) ∧ W.cell? ⟨B, 3, none⟩ = some (.slice a l.length c))
      (first | assumption | exact keepR Q1 (Below.refl _ _).drew | exact keepR Q1 (stepR (by assumption) (by assumption)) | exact keepR Q1 (allocR (by assumption) _))
      (first | (go_at_call 34; refine (specFormatInt k _ (by omega) (by omega)).mono ?_; rintro e w' ⟨rfl, hb⟩; rw [HL.out]; (try have hcx := ht w' _ (newR hb))))
    all_goals
      have c7 : Below w1.heap.size w1 _ := And.left (by assumption)
      go_wp2
      go_ret
      exact ⟨by rw [H.out, HN.out, ← bstr_addN]; rfl, by first | exact HB1.out.trans (c7.mono HB1.out.size) | exact (HB1.out.trans (c7.mono HB1.out.size)).alloc (Nat.le_trans HB1.out.size c7.size) _⟩
end Go.Proofs.YtdhdjmeolkobeaaDoor

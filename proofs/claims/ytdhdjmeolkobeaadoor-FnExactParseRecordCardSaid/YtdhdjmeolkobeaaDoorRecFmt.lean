/-
  Walks of FormatRecord (program and reference). Condition: the fields have at most 2^20 bytes; the table of powers of ten holds what the library lays.
-/
import Derived.Test.YtdhdjmeolkobeaaDoorRecName
import Derived.Lib.Join
namespace Go.Proofs.YtdhdjmeolkobeaaDoor
open Go.RowKit
set_option linter.unusedVariables false
set_option linter.unusedSimpArgs false
set_option maxRecDepth 100000
def barred (l : List ByteArray) : List UInt8 := (l.map fun x => 124 :: x.data.toList).flatten
theorem barred_nil : barred [] = [] := rfl
theorem barred_snoc (l : List ByteArray) (x : ByteArray) : barred (l ++ [x]) = barred l ++ (124 :: x.data.toList) := by simp [barred]
theorem barred_len : ∀ (l : List ByteArray), (∀ x ∈ l, x.size ≤ 1048576) → (barred l).length ≤ l.length * 1048577
  | [], _ => by simp [barred]
  | x :: l, h => by
    have h1 := barred_len l (fun y hy => h y (by simp [hy]))
    have h2 := h x (by simp)
    have e : barred (x :: l) = (124 :: x.data.toList) ++ barred l := by simp [barred]
    rw [e, List.length_append, List.length_cons, List.length_cons, dlen]; omega
/-- The text of a record. -/
def fname (s k v : Int) (l : List ByteArray) : List UInt8 := if validR s k v l = true then oname s k ++ [46] ++ Lib.itoa v ++ barred l else []
theorem oname_len (s k : Int) (h0 : 0 ≤ k) (h1 : k ≤ 999) : (oname s k).length ≤ 21 := by unfold oname; have := itoa_small k h0 h1; simp; omega
theorem join_barred {l : List ByteArray} (h : l.length = 4) : 124 :: Lib.join (l.map (·.data.toList)) [124] = barred l := by
  match l, h with
  | [a, b, c, d], _ => simp [Lib.join, barred, List.intercalate]
theorem size_fields {l : List ByteArray} (hs : ∀ k (h : k < l.length), l[k].size ≤ 1048576) : ∀ x ∈ l, x.size ≤ 1048576 := by
  intro x hx
  obtain ⟨i, hi, rfl⟩ := List.mem_iff_getElem.1 hx
  exact hs i hi
set_option maxHeartbeats 4000000 in
theorem implFmtRec (s k v : Int) (a : Option Addr) (c : Nat) (l : List ByteArray) (w : World) (ev : Tab w) (hr : RowAt fS w a l) (hs : Hid (∀ k (h : k < l.length), l[k].size ≤ 1048576)) (hc : l.length ≤ c)
    (h4 : l.length = 4) (s0 : 0 ≤ s) (s1 : s ≤ 3) (k0 : 1 ≤ k) (k1 : k ≤ 99) (v0 : 1 ≤ v) (v1 : v ≤ 999) :
    Calls Tryd.prog 42 #[recV s k v a 4 c] w fun e w' => e = .returned (.string (bstr (oname s k ++ [46] ++ Lib.itoa v ++ barred l))) ∧ Below w.heap.size w w' := by
  (try unfold recV)
  obtain ⟨W0, hW0⟩ : ∃ W0, W0 = w.alloc (.cells #[.int .i64 s, .int .i64 k, .int .i64 v, .slice a 4 c] 27) := ⟨_, rfl⟩
  have hB : Below w.heap.size w W0 := by rw [hW0]; exact (Below.refl _ _).alloc (Nat.le_refl _) _
  have q0 : RecAt W0 w.heap.size s k v a 4 c := by rw [hW0]; exact RecAt.new w _ _ _ _ _ _ _
  have HQ := Lib.hid q0
  obtain ⟨b, off, rfl, hx00⟩ := hr.cell 0 (by omega)
  clear hx00
  have hrow := hr.below hB
  have HROW : Hid (∀ W, Below W0.heap.size W0 W → (∀ (j : Nat) x, l[j]? = some x → W.cell? ⟨b, off + j, none⟩ = some (.string x)) ∧ b < W.heap.size) := Lib.hid (by
    intro W hW
    have h1 := hrow.below hW
    rcases h1 with h1 | ⟨b', off', e, h2⟩
    · rw [h1] at h4; simp at h4
    · injection e with e
      injection e with e1 e2 e3
      subst e1 e2
      refine ⟨h2, ?_⟩
      have : l[0]? = some l[0] := List.getElem?_eq_getElem (by omega)
      exact World.block_lt_of_cell? W _ (h2 0 _ this))
  obtain ⟨p0, p1, p2, p3⟩ := q0
  have HB := Lib.hid hB; clear hB
  have HE := Lib.hid (ev.below HB.out)
  have HW := Lib.hid hW0
  clear hr ev hW0 hrow
  obtain ⟨O, hO⟩ : ∃ O, oname s k = O := ⟨_, rfl⟩
  obtain ⟨V, hV⟩ : ∃ V, Lib.itoa v = V := ⟨_, rfl⟩
  obtain ⟨J, hJ⟩ : ∃ J, Lib.join (l.map (·.data.toList)) [124] = J := ⟨_, rfl⟩
  have hb := join_barred h4
  have hol := oname_len s k (by omega) (by omega)
  have hvl := itoa_small v (by omega) (by omega)
  have hbl := barred_len l (size_fields hs.out)
  rw [← hb, hJ, h4, List.length_cons] at hbl
  rw [hJ] at hb
  rw [hO] at hol
  rw [hV] at hvl
  have H : Hid (oname s k ++ [46] ++ Lib.itoa v ++ barred l = ((((O ++ [46]) ++ V) ++ [124]) ++ J)) := Lib.hid (by rw [hO, hV, ← hb]; simp)
  have HO := Lib.hid hO
  have HV := Lib.hid hV
  have HJ : Hid ((⟨(Lib.join (l.map (·.data.toList)) (⟨#[124]⟩ : ByteArray).data.toList).toArray⟩ : ByteArray) = bstr J) := Lib.hid (by rw [show (⟨#[124]⟩ : ByteArray).data.toList = [124] from rfl, hJ]; rfl)
  have HJL : Hid ((Lib.join (l.map (·.data.toList)) (⟨#[124]⟩ : ByteArray).data.toList).length ≤ 140737488355328) := Lib.hid (by rw [show (⟨#[124]⟩ : ByteArray).data.toList = [124] from rfl, hJ]; omega)
  have t1 : ¬ 9223372036854775807 < (bstr O).size + 1 := by rw [bstr_size]; omega
  have t2 : ¬ 9223372036854775807 < (bstr O).size + 1 + (bstr V).size := by rw [bstr_size, bstr_size]; omega
  have t3 : ¬ 9223372036854775807 < (bstr O).size + 1 + (bstr V).size + 1 := by rw [bstr_size, bstr_size]; omega
  have t4 : ¬ 9223372036854775807 < (bstr O).size + 1 + (bstr V).size + 1 + (bstr J).size := by rw [bstr_size, bstr_size, bstr_size]; omega
  have H4 := Lib.hid h4
  clear hO hV hJ hb hbl h4
  go_enter Tryd.func42, Tryd.ntmps42
  go_wp2_with fail
  rw [← HW.out]
  obtain ⟨B, hB⟩ : ∃ B, B = w.heap.size := ⟨_, rfl⟩
  rw [← hB] at p0 p1 p2 p3 HQ ⊢
  have HBB := Lib.hid hB
  clear hB
  go_wp2
  go_region_held3 (fun W => Below W0.heap.size W0 W ∧ W.cell? ⟨B, 0, none⟩ = some (.int .i64 s) ∧ W.cell? ⟨B, 1, none⟩ = some (.int .i64 k) ∧ W.cell? ⟨B, 2, none⟩ = some (.int .i64 v) ∧ W.cell? ⟨B, 3, none⟩ = some (.slice (some ⟨b, off, none⟩) 4 c))
    (first | assumption | exact keepR HQ (Below.refl _ _).drew | exact keepR HQ (stepR (by assumption) (by assumption)))
    (first
      | (go_at_call 37; refine (originName_any s k _ (HE.out.below (And.left (by assumption))) s0 s1 k0 k1).mono ?_; rintro e w1 ⟨rfl, hb1⟩; rw [HO.out])
      | (go_at_call 39; refine (implFormatInt v _ (HE.out.below (And.left (by assumption))) (by omega) (by omega)).mono ?_; rintro e w2 ⟨rfl, hb2⟩; rw [HV.out])
      | (go_at_call 62; rw [← H4.out]; refine (Tryd.strings_Join b off c l ⟨#[124]⟩ _ (HROW.out _ (And.left (by assumption))).1 (HROW.out _ (And.left (by assumption))).2 (by rw [H4.out]; omega) hc HJL.out).mono ?_; rintro e w3 ⟨rfl, hb3⟩; rw [HJ.out]))
  have c7 : Below W0.heap.size W0 w3 := And.left (by assumption)
  go_wp2
  go_ret
  exact ⟨by rw [H.out, ← bstr_addN, ← bstr_addN, ← bstr_addN, ← bstr_addN]; rfl, HB.out.trans (c7.mono HB.out.size)⟩
set_option maxHeartbeats 2000000 in
theorem implFormatRecord (s k v : Int) (a : Option Addr) (c : Nat) (l : List ByteArray) (w : World) (ev : Tab w) (hr : RowAt fS w a l) (hl : l.length ≤ 1048576) (hs : Hid (∀ k (h : k < l.length), l[k].size ≤ 1048576)) (hc : l.length ≤ c) :
    Calls Tryd.prog 20 #[recV s k v a l.length c] w fun e w' => e = .returned (.string (bstr (fname s k v l))) ∧ Below w.heap.size w w' := by
  (try unfold recV)
  obtain ⟨W0, hW0⟩ : ∃ W0, W0 = w.alloc (.cells #[.int .i64 s, .int .i64 k, .int .i64 v, .slice a l.length c] 27) := ⟨_, rfl⟩
  have hB : Below w.heap.size w W0 := by rw [hW0]; exact (Below.refl _ _).alloc (Nat.le_refl _) _
  have q0 : RecAt W0 w.heap.size s k v a l.length c := by rw [hW0]; exact RecAt.new w _ _ _ _ _ _ _
  have HQ := Lib.hid q0
  obtain ⟨p0, p1, p2, p3⟩ := q0
  have HB := Lib.hid hB; clear hB
  have HR := Lib.hid (hr.below HB.out)
  have HE := Lib.hid (ev.below HB.out)
  clear hr ev
  have HW := Lib.hid hW0; clear hW0
  cases hv : validR s k v l
  · have H : Hid (fname s k v l = []) := Lib.hid (by unfold fname; rw [hv]; rfl)
    have HV := Lib.hid hv
    clear hv
    go_enter Tryd.func20, Tryd.ntmps20
    go_wp2_with fail
    rw [← HW.out]
    refine (implValid s k v a c l _ HR.out (by omega) hs).mono ?_
    rintro e w1 ⟨rfl, hb1⟩
    rw [HV.out]
    go_wp2
    go_ret
    exact ⟨by rw [H.out]; rfl, HB.out.trans (hb1.mono HB.out.size)⟩
  · have H : Hid (fname s k v l = oname s k ++ [46] ++ Lib.itoa v ++ barred l) := Lib.hid (by unfold fname; rw [hv]; rfl)
    obtain ⟨⟨s0, s1⟩, ⟨k0, k1⟩, ⟨v0, v1⟩, h4, hall⟩ := validR_bounds hv
    have HV := Lib.hid hv
    have H4 := Lib.hid h4
    obtain ⟨M, hM⟩ : ∃ M, bstr (oname s k ++ [46] ++ Lib.itoa v ++ barred l) = M := ⟨_, rfl⟩
    have HM := Lib.hid hM
    clear hv hall h4 hM
    go_enter Tryd.func20, Tryd.ntmps20
    go_wp2_with fail
    rw [← HW.out]
    refine (implValid s k v a c l _ HR.out (by omega) hs).mono ?_
    rintro e w1 ⟨rfl, hb1⟩
    rw [HV.out]
    obtain ⟨g0, g1, g2, g3⟩ := HQ.out.below hb1
    clear p0 p1 p2 p3
    go_wp2_with fail
    rw [H4.out]
    refine (implFmtRec s k v a c l _ (HE.out.below hb1) (HR.out.below hb1) hs hc H4.out s0 s1 k0 k1 v0 v1).mono ?_
    rintro e w2 ⟨rfl, hb2⟩
    rw [HM.out]
    go_wp2
    go_ret
    exact ⟨by rw [H.out, HM.out]; rfl, HB.out.trans ((hb1.trans (hb2.mono hb1.size)).mono HB.out.size)⟩
theorem oname_rname {s k v : Int} {l : List ByteArray} (h : validR s k v l = true) : rname s k v l = oname s k := by unfold rname; rw [h]; rfl
set_option maxHeartbeats 4000000 in
theorem specFormatRecord (s k v : Int) (a : Option Addr) (c : Nat) (l : List ByteArray) (w : World) (hr : RowAt fS w a l) (hl : l.length ≤ 1048576) (hs : Hid (∀ k (h : k < l.length), l[k].size ≤ 1048576)) :
    Calls Tryd.prog 19 #[recV s k v a l.length c] w fun e w' => e = .returned (.string (bstr (fname s k v l))) ∧ Below w.heap.size w w' := by
  (try unfold recV)
  obtain ⟨W0, hW0⟩ : ∃ W0, W0 = w.alloc (.cells #[.int .i64 s, .int .i64 k, .int .i64 v, .slice a l.length c] 27) := ⟨_, rfl⟩
  have hB : Below w.heap.size w W0 := by rw [hW0]; exact (Below.refl _ _).alloc (Nat.le_refl _) _
  have q0 : RecAt W0 w.heap.size s k v a l.length c := by rw [hW0]; exact RecAt.new w _ _ _ _ _ _ _
  have HQ := Lib.hid q0
  obtain ⟨p0, p1, p2, p3⟩ := q0
  have HB := Lib.hid hB; clear hB
  have HR := Lib.hid (hr.below HB.out)
  clear hr
  have HW := Lib.hid hW0; clear hW0
  cases hv : validR s k v l
  · have H : Hid (fname s k v l = []) := Lib.hid (by unfold fname; rw [hv]; rfl)
    have HV := Lib.hid hv
    clear hv
    go_enter Tryd.func19, Tryd.ntmps19
    go_wp2_with fail
    rw [← HW.out]
    refine (specValid s k v a c l _ HR.out hl hs).mono ?_
    rintro e w1 ⟨rfl, hb1⟩
    rw [HV.out]
    go_wp2
    go_ret
    exact ⟨by rw [H.out]; rfl, HB.out.trans (hb1.mono HB.out.size)⟩
  · have H : Hid (fname s k v l = oname s k ++ [46] ++ Lib.itoa v ++ barred l) := Lib.hid (by unfold fname; rw [hv]; rfl)
    obtain ⟨⟨s0, s1⟩, ⟨k0, k1⟩, ⟨v0, v1⟩, h4, hall⟩ := validR_bounds hv
    have HN := Lib.hid (oname_rname hv)
    have HV := Lib.hid hv
    have hbl := barred_len l (size_fields hs.out)
    have hbk : ∀ j, (barred (l.take j)).length ≤ 4194308 := fun j => by
      have := barred_len (l.take j) (fun x hx => size_fields hs.out x (List.mem_of_mem_take hx))
      have h2 : (l.take j).length ≤ 4 := by rw [List.length_take]; omega
      omega
    have HBK := Lib.hid hbk
    have hol := oname_len s k (by omega) (by omega)
    have hvl := itoa_small v (by omega) (by omega)
    obtain ⟨O, hO⟩ : ∃ O, oname s k = O := ⟨_, rfl⟩
    obtain ⟨V, hVV⟩ : ∃ V, Lib.itoa v = V := ⟨_, rfl⟩
    rw [hO] at hol
    rw [hVV] at hvl
    have t1 : ¬ 9223372036854775807 < (bstr O).size + 1 := by rw [bstr_size]; omega
    have t2 : ¬ 9223372036854775807 < (bstr O).size + 1 + (bstr V).size := by rw [bstr_size, bstr_size]; omega
    have HO : Hid (bstr (rname s k v l) = bstr O) := Lib.hid (by rw [HN.out, hO])
    have HI := Lib.hid hVV
    have HE : Hid (fname s k v l = (O ++ [46] ++ V) ++ barred l) := Lib.hid (by rw [H.out, hO, hVV])
    clear hv hall h4 hbl hbk hO hVV
    go_enter Tryd.func19, Tryd.ntmps19
    go_wp2_with fail
    rw [← HW.out]
    refine (specValid s k v a c l _ HR.out hl hs).mono ?_
    rintro e w1 ⟨rfl, hb1⟩
    rw [HV.out]
    have Q1 := Lib.hid (HQ.out.below hb1)
    have R1 := Lib.hid (HR.out.below hb1)
    have HB1 := Lib.hid (HB.out.trans (hb1.mono HB.out.size))
    clear p0 p1 p2 p3 hb1
    obtain ⟨g0, g1, g2, g3⟩ := Q1.out
    obtain ⟨B, hB⟩ : ∃ B, B = w.heap.size := ⟨_, rfl⟩
    rw [← hB] at g0 g1 g2 g3 Q1 ⊢
    have HBB := Lib.hid hB
    clear hB
    go_wp2
    go_region_held3 (fun W => Below w1.heap.size w1 W ∧ W.cell? ⟨B, 0, none⟩ = some (.int .i64 s) ∧ W.cell? ⟨B, 1, none⟩ = some (.int .i64 k) ∧ W.cell? ⟨B, 2, none⟩ = some (.int .i64 v) ∧ W.cell? ⟨B, 3, none⟩ = some (.slice a l.length c))
      (first | assumption | exact keepR Q1 (Below.refl _ _).drew | exact keepR Q1 (stepR (by assumption) (by assumption)))
      (first
        | (go_at_call 11; refine (specRecordName s k v a c l _ (R1.out.below (And.left (by assumption))) hl hs).mono ?_; rintro e w2 ⟨rfl, hb2⟩; rw [HO.out])
        | (go_at_call 34; refine (specFormatInt v _ (by omega) (by omega)).mono ?_; rintro e w3 ⟨rfl, hb3⟩; rw [HI.out]))
    have c7 : Below w1.heap.size w1 w3 := And.left (by assumption)
    rename_i hS8
    have Q3 := Lib.hid (Q1.out.below c7)
    have R3 := Lib.hid (R1.out.below c7)
    have HB3 := Lib.hid (HB1.out.trans (c7.mono HB1.out.size))
    clear hS8 c7 g0 g1 g2 g3
    go_wp2
    go_loopw [3, 4] (fun t i wr => ∃ j : Nat, j ≤ l.length ∧ i = .int .i64 j ∧ t = .string (bstr ((O ++ [46] ++ V) ++ barred (l.take j))) ∧ Below w3.heap.size w3 wr) (fun _ i _ => l.length - (intOf i).toNat)
    case atStart => exact ⟨0, Nat.zero_le _, rfl, by rw [List.take_zero, barred_nil, List.append_nil, ← bstr_addN, ← bstr_addN]; rfl, Below.refl _ _⟩
    case round =>
      obtain ⟨j, hj, rfl, rfl, hw⟩ := hrel
      have HWr := Lib.hid hw
      obtain ⟨g0, g1, g2, g3⟩ := Q3.out.below hw
      by_cases hlt : j < l.length
      · obtain ⟨b, off, ea, hcx⟩ := (R3.out.below hw).cell j hlt
        subst ea
        have hsz := hs.out j hlt
        have hb1 := HBK.out j
        have ht : barred (l.take (j + 1)) = barred (l.take j) ++ (124 :: (l[j]).data.toList) := by rw [List.take_succ_eq_append_getElem hlt, barred_snoc]
        obtain ⟨x, hx⟩ : ∃ x, x = l[j] := ⟨_, rfl⟩
        rw [← hx] at hcx hsz ht
        replace hcx : wr.cell? ⟨b, off + j, none⟩ = some (.string x) := hcx
        obtain ⟨M, hM⟩ : ∃ M, M = (O ++ [46] ++ V) ++ barred (l.take j) := ⟨_, rfl⟩
        have hMl : M.length ≤ 4194400 := by rw [hM]; simp; omega
        have HT : Hid (bstr M ++ ⟨#[124]⟩ ++ x = bstr ((O ++ [46] ++ V) ++ barred (l.take (j + 1)))) := Lib.hid (by
          rw [ht, ← List.append_assoc, ← hM, show (124 :: x.data.toList) = [124] ++ x.data.toList from rfl, ← List.append_assoc, ← bstr_addN, ← bstr_addN, bstr_of]; rfl)
        rw [← hM]
        have u1 : ¬ 9223372036854775807 < (bstr M).size + 1 := by rw [bstr_size]; omega
        have u2 : ¬ 9223372036854775807 < (bstr M).size + 1 + x.size := by rw [bstr_size]; omega
        clear hx ht hM
        go_wp2
        go_roundw
        case rel => exact ⟨j + 1, by omega, by go_num, by rw [← HT.out], HWr.out⟩
        case measure => simp [intOf]; omega
      · obtain rfl : j = l.length := by omega
        rw [List.take_length]
        go_wp2
        go_ret
        exact ⟨by rw [HE.out]; rfl, HB3.out.trans (HWr.out.mono HB3.out.size)⟩
end Go.Proofs.YtdhdjmeolkobeaaDoor

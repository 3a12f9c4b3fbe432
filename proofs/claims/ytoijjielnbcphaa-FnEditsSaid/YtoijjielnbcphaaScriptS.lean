/-
  Walk of EditScript (reference). No condition.
-/
import Derived.Test.YtoijjielnbcphaaScript
namespace Go.Proofs.Ytoijjielnbcphaa
open Go.RowKit
set_option linter.unusedVariables false
set_option linter.unusedSimpArgs false
set_option maxRecDepth 100000
theorem keepE {w0 W W' : World} (h : Below w0.heap.size w0 W ∧ True) (hb : Below W.heap.size W W') : Below w0.heap.size w0 W' ∧ True := ⟨h.1.trans (hb.mono h.1.size), trivial⟩
/-- The distance of two endings. -/
theorem dV_drop (a b : ByteArray) (i j : Nat) (ha : a.size ≤ 40) (hb : b.size ≤ 40) : dV false (a.extract i a.size) (b.extract j b.size) = (ED (a.data.toList.drop i) (b.data.toList.drop j) : Int) := by
  have e : ∀ (s : ByteArray) (k : Nat), s.extract k s.size = bstr (s.data.toList.drop k) := by
    intro s k
    rw [extract_bstr, List.take_of_length_le (by rw [List.length_drop, dlen]; omega)]
  rw [e, e, dV_in (by rw [bstr_size, List.length_drop, dlen]; omega) (by rw [bstr_size, List.length_drop, dlen]; omega), bstr_list, bstr_list, bstr_size, bstr_size, D_full]
theorem extract_oneE (s : ByteArray) (k : Nat) (h : k < s.size) : s.extract k (k + 1) = bstr [s[k]] := by
  rw [extract_bstr, drop_consE s k h]
  have e : k + 1 - k = 1 := by omega
  rw [e]; rfl
set_option maxHeartbeats 8000000 in
theorem specScript (a b : ByteArray) (w : World) (ha : a.size ≤ 1048576) (hb : b.size ≤ 1048576) :
    Calls Try.prog 20 #[.string a, .string b] w fun e w' => e = .returned (.string (bstr (escr a b))) ∧ Below w.heap.size w w' := by
  cases hf : (decide (a.size ≤ 40) && decide (b.size ≤ 40))
  · have H : Hid (escr a b = []) := Lib.hid (by
      cases h1 : isText a
      · exact escr_no1 h1
      · cases h2 : isText b
        · exact escr_no2 h2
        · have := isText_40 h1; have := isText_40 h2; simp at hf; omega)
    have HF := Lib.hid hf
    clear hf
    go_enter Try.func20, Try.ntmps20
    go_wp2_with fail
    refine (l4Fits_any a b _).mono ?_
    rintro e w' ⟨rfl, rfl⟩
    rw [HF.out]
    go_wp2
    go_ret
    exact ⟨by rw [H.out]; rfl, Below.refl _ _⟩
  have HF := Lib.hid hf
  clear hf
  cases h1 : isText a
  · have H := Lib.hid (escr_no1 (b := b) h1)
    have H1 := Lib.hid h1
    clear h1
    go_enter Try.func20, Try.ntmps20
    go_wp2_with fail
    refine (l4Fits_any a b _).mono ?_
    rintro e w' ⟨rfl, rfl⟩
    rw [HF.out]
    go_wp2_with fail
    refine (specIsText a _ ha).mono ?_
    rintro e w' ⟨rfl, rfl⟩
    rw [H1.out]
    go_wp2
    go_ret
    exact ⟨by rw [H.out]; rfl, Below.refl _ _⟩
  cases h2 : isText b
  · have H := Lib.hid (escr_no2 (a := a) h2)
    have H1 := Lib.hid h1
    have H2 := Lib.hid h2
    clear h1 h2
    go_enter Try.func20, Try.ntmps20
    go_wp2_with fail
    refine (l4Fits_any a b _).mono ?_
    rintro e w' ⟨rfl, rfl⟩
    rw [HF.out]
    go_wp2_with fail
    refine (specIsText a _ ha).mono ?_
    rintro e w' ⟨rfl, rfl⟩
    rw [H1.out]
    go_wp2_with fail
    refine (specIsText b _ hb).mono ?_
    rintro e w' ⟨rfl, rfl⟩
    rw [H2.out]
    go_wp2
    go_ret
    exact ⟨by rw [H.out]; rfl, Below.refl _ _⟩
  have H1 := Lib.hid h1
  have H2 := Lib.hid h2
  have ha4 := isText_40 h1
  have hb4 := isText_40 h2
  obtain ⟨S, hS⟩ : ∃ S, escr a b = S := ⟨_, rfl⟩
  have hS1 := hS
  rw [escr_yes h1 h2] at hS1
  have hSl : S.length ≤ 120 := by
    have := scrip_len a.data.toList b.data.toList
    rw [hS1, dlen, dlen] at this; omega
  have HS := Lib.hid hS
  have HS1 := Lib.hid hS1
  clear h1 h2 hS hS1
  go_enter Try.func20, Try.ntmps20
  go_wp2_with fail
  refine (l4Fits_any a b _).mono ?_
  rintro e w' ⟨rfl, rfl⟩
  rw [HF.out]
  go_wp2_with fail
  refine (specIsText a _ ha).mono ?_
  rintro e w' ⟨rfl, rfl⟩
  rw [H1.out]
  go_wp2_with fail
  refine (specIsText b _ hb).mono ?_
  rintro e w' ⟨rfl, rfl⟩
  rw [H2.out]
  go_wp2
  go_loopw [5, 6, 7] (fun v si sj wr => ∃ (i j : Nat) (l : List UInt8), i ≤ a.size ∧ j ≤ b.size ∧ si = .int .i64 i ∧ sj = .int .i64 j ∧ v = .string (bstr l) ∧ l ++ scrip (a.data.toList.drop i) (b.data.toList.drop j) = S ∧ Below w.heap.size w wr) (fun _ si sj _ => (a.size - (intOf si).toNat) + (b.size - (intOf sj).toNat))
  case atStart => exact ⟨0, 0, [], Nat.zero_le _, Nat.zero_le _, rfl, rfl, rfl, by rw [List.drop_zero, List.drop_zero, List.nil_append]; exact HS1.out, Below.refl _ _⟩
  case round =>
    obtain ⟨i, j, l, hi, hj, rfl, rfl, rfl, hl, hbl⟩ := hrel
    have hll : l.length ≤ 120 := by have := congrArg List.length hl; rw [List.length_append] at this; omega
    have Hbl := Lib.hid hbl
    clear hbl
    have HE00 := Lib.hid (dV_drop a b i j ha4 hb4)
    by_cases hiA : i < a.size
    · have hdx := drop_consE a i hiA
      have ciA : (i : Int) < (a.size : Int) := by omega
      obtain ⟨I, hI⟩ : ∃ I, I = i + 1 := ⟨_, rfl⟩
      have wi1 : (i : Int) + 1 = (I : Int) := by omega
      have wI : IntKind.i64.wrap (I : Int) = (I : Int) := IntWalk.i64_in _ (by omega)
      have cI : (I : Int) ≤ (a.size : Int) := by omega
      have cIn : I ≤ a.size := by omega
      rw [← hI] at hdx
      have hx0 := byte_le a[i]
      have HE10 := Lib.hid (dV_drop a b I j ha4 hb4)
      by_cases hjB : j < b.size
      · have hdy := drop_consE b j hjB
        have cjB : (j : Int) < (b.size : Int) := by omega
        obtain ⟨J, hJ⟩ : ∃ J, J = j + 1 := ⟨_, rfl⟩
        have wj1 : (j : Int) + 1 = (J : Int) := by omega
        have wJ : IntKind.i64.wrap (J : Int) = (J : Int) := IntWalk.i64_in _ (by omega)
        have cJ : (J : Int) ≤ (b.size : Int) := by omega
        have cJn : J ≤ b.size := by omega
        have cjJ : j ≤ J := by omega
        rw [← hJ] at hdy
        have hb0 := byte_le b[j]
        have j0 : (0 : Int) ≤ (j : Int) := by omega
        have jJ : (j : Int) ≤ (J : Int) := by omega
        have HE11 := Lib.hid (dV_drop a b I J ha4 hb4)
        rw [hdx, hdy, scrip_cons] at hl
        rw [hdx, hdy] at HE00
        rw [hdy] at HE10
        obtain ⟨E00, h00⟩ : ∃ E, E = ED (a[i] :: a.data.toList.drop I) (b[j] :: b.data.toList.drop J) := ⟨_, rfl⟩
        obtain ⟨E11, h11⟩ : ∃ E, E = ED (a.data.toList.drop I) (b.data.toList.drop J) := ⟨_, rfl⟩
        obtain ⟨E10, h10⟩ : ∃ E, E = ED (a.data.toList.drop I) (b[j] :: b.data.toList.drop J) := ⟨_, rfl⟩
        have k0 := ED_len (a[i] :: a.data.toList.drop I) (b[j] :: b.data.toList.drop J)
        simp only [List.length_drop, List.length_cons, dlen] at k0
        rw [← h00] at k0
        have l00 : E00 ≤ 41 := by omega
        rw [← h00, ← h11, ← h10] at hl
        rw [← h00] at HE00
        rw [← h11] at HE11
        rw [← h10] at HE10
        have w00 : IntKind.i64.wrap ((E00 : Int) - 1) = (E00 : Int) - 1 := IntWalk.i64_in _ (by omega)
        have Hl := Lib.hid hl
        have HDx := Lib.hid hdx
        have HDy := Lib.hid hdy
        have xb := extract_oneE b j hjB
        rw [← hJ] at xb
        have ct1 : ¬ 9223372036854775807 < (bstr l).size + 1 := by rw [bstr_size]; omega
        have ct2 : ¬ 9223372036854775807 < (bstr l).size + 1 + (bstr [b[j]]).size := by rw [bstr_size, bstr_size]; simp; omega
        clear k0 h00 h11 h10 hl hdx hdy hI hJ
        -- left
        go_wp2
        go_region_held3 (fun W => Below wr.heap.size wr W ∧ True)
          (first | assumption | exact ⟨(Below.refl _ _).drew, trivial⟩ | exact keepE (by assumption) (by assumption))
          (first | (go_at_call 9; refine (specEditDistance _ _ _).mono ?_; rintro e w7 ⟨rfl, hb⟩; rw [HE00.out]))
        have B7 := Lib.hid (Hbl.out.trans ((And.left (show Below wr.heap.size wr w7 ∧ True by assumption)).mono Hbl.out.size))
        rename_i hS7
        clear hS7 hb
        by_cases he : a[i] = b[j]
        · have d9 := byteEq he
          by_cases h11 : E11 = E00
          · have HL : Hid ((l ++ [61]) ++ scrip (a.data.toList.drop I) (b.data.toList.drop J) = S) := Lib.hid (by
              have := Hl.out; rw [if_pos ⟨he, h11⟩] at this; rw [← this]; simp)
            have d10 := natEq h11
            clear he h11 Hl
            go_wp2
            go_region_held3 (fun W => Below w7.heap.size w7 W ∧ True)
              (first | assumption | exact ⟨(Below.refl _ _).drew, trivial⟩ | exact keepE (by assumption) (by assumption))
              (first | (go_at_call 9; refine (specEditDistance _ _ _).mono ?_; rintro e w8 ⟨rfl, hb⟩; rw [HE11.out]))
            all_goals
              have B8 := Lib.hid (B7.out.trans ((And.left (show Below w7.heap.size w7 w8 ∧ True by assumption)).mono B7.out.size))
              rename_i hS8
              clear hS8 hb
              go_wp2
              go_roundw
              case rel => exact ⟨I, J, l ++ [61], by omega, by omega, by go_num, by go_num, by rw [← bstr_addE]; rfl, HL.out, B8.out⟩
              case measure => simp [intOf]; omega
          · have Hl2 : Hid (l ++ (if E11 + 1 = E00 then 126 :: b[j] :: scrip (a.data.toList.drop I) (b.data.toList.drop J) else if E10 + 1 = E00 then 45 :: scrip (a.data.toList.drop I) (b[j] :: b.data.toList.drop J) else 43 :: b[j] :: scrip (a[i] :: a.data.toList.drop I) (b.data.toList.drop J)) = S) := Lib.hid (by
              have := Hl.out; rwa [if_neg (fun h => h11 h.2)] at this)
            have d10 := natNe h11
            clear he h11 Hl
            go_wp2
            go_region_held3 (fun W => Below w7.heap.size w7 W ∧ True)
              (first | assumption | exact ⟨(Below.refl _ _).drew, trivial⟩ | exact keepE (by assumption) (by assumption))
              (first | (go_at_call 9; refine (specEditDistance _ _ _).mono ?_; rintro e w8 ⟨rfl, hb⟩; rw [HE11.out]))
            all_goals
              have B8 := Lib.hid (B7.out.trans ((And.left (show Below w7.heap.size w7 w8 ∧ True by assumption)).mono B7.out.size))
              rename_i hS8
              clear hS8 hb
              by_cases h14 : E11 + 1 = E00
              · have HL : Hid ((l ++ [126, b[j]]) ++ scrip (a.data.toList.drop I) (b.data.toList.drop J) = S) := Lib.hid (by
                  have := Hl2.out; rw [if_pos h14] at this; rw [← this]; simp)
                have d14 : ((E11 : Int) == (E00 : Int) - 1) = true := by rw [beq_iff_eq]; omega
                clear h14 Hl2
                go_wp2
                go_region_held3 (fun W => Below w8.heap.size w8 W ∧ True)
                  (first | assumption | exact ⟨(Below.refl _ _).drew, trivial⟩ | exact keepE (by assumption) (by assumption))
                  (first | (go_at_call 9; refine (specEditDistance _ _ _).mono ?_; rintro e w9 ⟨rfl, hb⟩; rw [HE11.out]))
                all_goals
                  have B9 := Lib.hid (B8.out.trans ((And.left (show Below w8.heap.size w8 w9 ∧ True by assumption)).mono B8.out.size))
                  rename_i hS8
                  clear hS8 hb
                  go_wp2
                  go_roundw
                  case rel => exact ⟨I, J, (l ++ [126]) ++ [b[j]], by omega, by omega, by go_num, by go_num, by rw [← bstr_addE, ← bstr_addE]; rfl, by rw [List.append_assoc l]; exact HL.out, B9.out⟩
                  case measure => simp [intOf]; omega
              · have d14 : ((E11 : Int) == (E00 : Int) - 1) = false := by rw [beq_eq_false_iff_ne]; omega
                by_cases h18 : E10 + 1 = E00
                · have HL : Hid ((l ++ [45]) ++ scrip (a.data.toList.drop I) (b.data.toList.drop j) = S) := Lib.hid (by
                    have := Hl2.out; rw [if_neg h14, if_pos h18] at this; rw [HDy.out, ← this]; simp)
                  have d18 : ((E10 : Int) == (E00 : Int) - 1) = true := by rw [beq_iff_eq]; omega
                  clear h14 h18 Hl2
                  go_wp2
                  go_region_held3 (fun W => Below w8.heap.size w8 W ∧ True)
                    (first | assumption | exact ⟨(Below.refl _ _).drew, trivial⟩ | exact keepE (by assumption) (by assumption))
                    (first | (go_at_call 9; refine (specEditDistance _ _ _).mono ?_; rintro e w9 ⟨rfl, hb⟩; rw [HE11.out]))
                  all_goals
                    have B9 := Lib.hid (B8.out.trans ((And.left (show Below w8.heap.size w8 w9 ∧ True by assumption)).mono B8.out.size))
                    rename_i hS8
                    clear hS8 hb
                    go_wp2
                    go_region_held3 (fun W => Below w9.heap.size w9 W ∧ True)
                      (first | assumption | exact ⟨(Below.refl _ _).drew, trivial⟩ | exact keepE (by assumption) (by assumption))
                      (first | (go_at_call 9; refine (specEditDistance _ _ _).mono ?_; rintro e wa ⟨rfl, hb⟩; rw [HE10.out]))
                    all_goals
                      have BA := Lib.hid (B9.out.trans ((And.left (show Below w9.heap.size w9 wa ∧ True by assumption)).mono B9.out.size))
                      rename_i hS8
                      clear hS8 hb
                      go_wp2
                      go_roundw
                      case rel => exact ⟨I, j, l ++ [45], by omega, by omega, by go_num, rfl, by rw [← bstr_addE]; rfl, HL.out, BA.out⟩
                      case measure => simp [intOf]; omega
                · have HL : Hid ((l ++ [43, b[j]]) ++ scrip (a.data.toList.drop i) (b.data.toList.drop J) = S) := Lib.hid (by
                    have := Hl2.out; rw [if_neg h14, if_neg h18] at this; rw [HDx.out, ← this]; simp)
                  have d18 : ((E10 : Int) == (E00 : Int) - 1) = false := by rw [beq_eq_false_iff_ne]; omega
                  clear h14 h18 Hl2
                  go_wp2
                  go_region_held3 (fun W => Below w8.heap.size w8 W ∧ True)
                    (first | assumption | exact ⟨(Below.refl _ _).drew, trivial⟩ | exact keepE (by assumption) (by assumption))
                    (first | (go_at_call 9; refine (specEditDistance _ _ _).mono ?_; rintro e w9 ⟨rfl, hb⟩; rw [HE11.out]))
                  all_goals
                    have B9 := Lib.hid (B8.out.trans ((And.left (show Below w8.heap.size w8 w9 ∧ True by assumption)).mono B8.out.size))
                    rename_i hS8
                    clear hS8 hb
                    go_wp2
                    go_region_held3 (fun W => Below w9.heap.size w9 W ∧ True)
                      (first | assumption | exact ⟨(Below.refl _ _).drew, trivial⟩ | exact keepE (by assumption) (by assumption))
                      (first | (go_at_call 9; refine (specEditDistance _ _ _).mono ?_; rintro e wa ⟨rfl, hb⟩; rw [HE10.out]))
                    all_goals
                      have BA := Lib.hid (B9.out.trans ((And.left (show Below w9.heap.size w9 wa ∧ True by assumption)).mono B9.out.size))
                      rename_i hS8
                      clear hS8 hb
                      go_wp2
                      go_roundw
                      case rel => exact ⟨i, J, (l ++ [43]) ++ [b[j]], by omega, by omega, rfl, by go_num, by rw [← bstr_addE, ← bstr_addE]; rfl, by rw [List.append_assoc l]; exact HL.out, BA.out⟩
                      case measure => simp [intOf]; omega
        · have Hl2 : Hid (l ++ (if E11 + 1 = E00 then 126 :: b[j] :: scrip (a.data.toList.drop I) (b.data.toList.drop J) else if E10 + 1 = E00 then 45 :: scrip (a.data.toList.drop I) (b[j] :: b.data.toList.drop J) else 43 :: b[j] :: scrip (a[i] :: a.data.toList.drop I) (b.data.toList.drop J)) = S) := Lib.hid (by
            have := Hl.out; rwa [if_neg (fun h => he h.1)] at this)
          have d9 := byteNe he
          · skip
            clear he Hl
            go_wp2
            go_quiet (fail)
            have B8 := Lib.hid (B7.out.trans ((below_drewN w7 nq).mono B7.out.size))
            generalize w7.drewN nq = w8 at B8 ⊢
            by_cases h14 : E11 + 1 = E00
            · have HL : Hid ((l ++ [126, b[j]]) ++ scrip (a.data.toList.drop I) (b.data.toList.drop J) = S) := Lib.hid (by
                have := Hl2.out; rw [if_pos h14] at this; rw [← this]; simp)
              have d14 : ((E11 : Int) == (E00 : Int) - 1) = true := by rw [beq_iff_eq]; omega
              clear h14 Hl2
              go_wp2
              go_region_held3 (fun W => Below w8.heap.size w8 W ∧ True)
                (first | assumption | exact ⟨(Below.refl _ _).drew, trivial⟩ | exact keepE (by assumption) (by assumption))
                (first | (go_at_call 9; refine (specEditDistance _ _ _).mono ?_; rintro e w9 ⟨rfl, hb⟩; rw [HE11.out]))
              all_goals
                have B9 := Lib.hid (B8.out.trans ((And.left (show Below w8.heap.size w8 w9 ∧ True by assumption)).mono B8.out.size))
                rename_i hS8
                clear hS8 hb
                go_wp2
                go_roundw
                case rel => exact ⟨I, J, (l ++ [126]) ++ [b[j]], by omega, by omega, by go_num, by go_num, by rw [← bstr_addE, ← bstr_addE]; rfl, by rw [List.append_assoc l]; exact HL.out, B9.out⟩
                case measure => simp [intOf]; omega
            · have d14 : ((E11 : Int) == (E00 : Int) - 1) = false := by rw [beq_eq_false_iff_ne]; omega
              by_cases h18 : E10 + 1 = E00
              · have HL : Hid ((l ++ [45]) ++ scrip (a.data.toList.drop I) (b.data.toList.drop j) = S) := Lib.hid (by
                  have := Hl2.out; rw [if_neg h14, if_pos h18] at this; rw [HDy.out, ← this]; simp)
                have d18 : ((E10 : Int) == (E00 : Int) - 1) = true := by rw [beq_iff_eq]; omega
                clear h14 h18 Hl2
                go_wp2
                go_region_held3 (fun W => Below w8.heap.size w8 W ∧ True)
                  (first | assumption | exact ⟨(Below.refl _ _).drew, trivial⟩ | exact keepE (by assumption) (by assumption))
                  (first | (go_at_call 9; refine (specEditDistance _ _ _).mono ?_; rintro e w9 ⟨rfl, hb⟩; rw [HE11.out]))
                all_goals
                  have B9 := Lib.hid (B8.out.trans ((And.left (show Below w8.heap.size w8 w9 ∧ True by assumption)).mono B8.out.size))
                  rename_i hS8
                  clear hS8 hb
                  go_wp2
                  go_region_held3 (fun W => Below w9.heap.size w9 W ∧ True)
                    (first | assumption | exact ⟨(Below.refl _ _).drew, trivial⟩ | exact keepE (by assumption) (by assumption))
                    (first | (go_at_call 9; refine (specEditDistance _ _ _).mono ?_; rintro e wa ⟨rfl, hb⟩; rw [HE10.out]))
                  all_goals
                    have BA := Lib.hid (B9.out.trans ((And.left (show Below w9.heap.size w9 wa ∧ True by assumption)).mono B9.out.size))
                    rename_i hS8
                    clear hS8 hb
                    go_wp2
                    go_roundw
                    case rel => exact ⟨I, j, l ++ [45], by omega, by omega, by go_num, rfl, by rw [← bstr_addE]; rfl, HL.out, BA.out⟩
                    case measure => simp [intOf]; omega
              · have HL : Hid ((l ++ [43, b[j]]) ++ scrip (a.data.toList.drop i) (b.data.toList.drop J) = S) := Lib.hid (by
                  have := Hl2.out; rw [if_neg h14, if_neg h18] at this; rw [HDx.out, ← this]; simp)
                have d18 : ((E10 : Int) == (E00 : Int) - 1) = false := by rw [beq_eq_false_iff_ne]; omega
                clear h14 h18 Hl2
                go_wp2
                go_region_held3 (fun W => Below w8.heap.size w8 W ∧ True)
                  (first | assumption | exact ⟨(Below.refl _ _).drew, trivial⟩ | exact keepE (by assumption) (by assumption))
                  (first | (go_at_call 9; refine (specEditDistance _ _ _).mono ?_; rintro e w9 ⟨rfl, hb⟩; rw [HE11.out]))
                all_goals
                  have B9 := Lib.hid (B8.out.trans ((And.left (show Below w8.heap.size w8 w9 ∧ True by assumption)).mono B8.out.size))
                  rename_i hS8
                  clear hS8 hb
                  go_wp2
                  go_region_held3 (fun W => Below w9.heap.size w9 W ∧ True)
                    (first | assumption | exact ⟨(Below.refl _ _).drew, trivial⟩ | exact keepE (by assumption) (by assumption))
                    (first | (go_at_call 9; refine (specEditDistance _ _ _).mono ?_; rintro e wa ⟨rfl, hb⟩; rw [HE10.out]))
                  all_goals
                    have BA := Lib.hid (B9.out.trans ((And.left (show Below w9.heap.size w9 wa ∧ True by assumption)).mono B9.out.size))
                    rename_i hS8
                    clear hS8 hb
                    go_wp2
                    go_roundw
                    case rel => exact ⟨i, J, (l ++ [43]) ++ [b[j]], by omega, by omega, rfl, by go_num, by rw [← bstr_addE, ← bstr_addE]; rfl, by rw [List.append_assoc l]; exact HL.out, BA.out⟩
                    case measure => simp [intOf]; omega
      · have hj0 : b.data.toList.drop j = [] := List.drop_eq_nil_of_le (by rw [dlen]; omega)
        rw [hdx, hj0, scrip_del] at hl
        rw [hdx, hj0, ED_left] at HE00
        rw [hj0, ED_left] at HE10
        have HL : Hid ((l ++ [45]) ++ scrip (a.data.toList.drop I) [] = S) := Lib.hid (by rw [← hl]; simp)
        have HJ := Lib.hid hj0
        obtain ⟨K, hK2⟩ : ∃ K, K = (a.data.toList.drop I).length := ⟨_, rfl⟩
        obtain ⟨E00, hE⟩ : ∃ E, E = K + 1 := ⟨_, rfl⟩
        have hK : (a[i] :: a.data.toList.drop I).length = E00 := by rw [hE, hK2]; rfl
        have hKl : K ≤ 40 := by rw [hK2, List.length_drop, dlen]; omega
        rw [hK] at HE00
        rw [← hK2] at HE10
        have d18 : ((K : Int) == (E00 : Int) - 1) = true := by rw [beq_iff_eq]; omega
        have w00 : IntKind.i64.wrap ((E00 : Int) - 1) = (E00 : Int) - 1 := IntWalk.i64_in _ (by omega)
        have cjn : decide ((j : Int) < (b.size : Int)) = false := by simp; omega
        have cjn2 : ¬ j < b.size := hjB
        have ct1 : ¬ 9223372036854775807 < (bstr l).size + 1 := by rw [bstr_size]; omega
        clear hdx hj0 hl hK hK2 hjB hI hE
        go_wp2
        go_region_held3 (fun W => Below wr.heap.size wr W ∧ True)
          (first | assumption | exact ⟨(Below.refl _ _).drew, trivial⟩ | exact keepE (by assumption) (by assumption))
          (first | (go_at_call 9; refine (specEditDistance _ _ _).mono ?_; rintro e w7 ⟨rfl, hb⟩; rw [HE00.out]))
        have B7 := Lib.hid (Hbl.out.trans ((And.left (show Below wr.heap.size wr w7 ∧ True by assumption)).mono Hbl.out.size))
        rename_i hS7
        clear hS7 hb
        go_wp2
        go_quiet (fail)
        have B8 := Lib.hid (B7.out.trans ((below_drewN w7 nq).mono B7.out.size))
        generalize w7.drewN nq = w8 at B8 ⊢
        go_wp2
        go_quiet (fail)
        have B9 := Lib.hid (B8.out.trans ((below_drewN w8 nq).mono B8.out.size))
        generalize w8.drewN nq = w9 at B9 ⊢
        go_wp2
        go_region_held3 (fun W => Below w9.heap.size w9 W ∧ True)
          (first | assumption | exact ⟨(Below.refl _ _).drew, trivial⟩ | exact keepE (by assumption) (by assumption))
          (first | (go_at_call 9; refine (specEditDistance _ _ _).mono ?_; rintro e wa ⟨rfl, hb⟩; rw [HE10.out]))
        all_goals
          have BA := Lib.hid (B9.out.trans ((And.left (show Below w9.heap.size w9 wa ∧ True by assumption)).mono B9.out.size))
          rename_i hS8
          clear hS8 hb
          go_wp2
          go_roundw
          case rel => exact ⟨I, j, l ++ [45], by omega, by omega, by go_num, rfl, by rw [← bstr_addE]; rfl, by rw [HJ.out]; exact HL.out, BA.out⟩
          case measure => simp [intOf]; omega
    · have hi0 : a.data.toList.drop i = [] := List.drop_eq_nil_of_le (by rw [dlen]; omega)
      rw [hi0] at hl HE00
      have HI := Lib.hid hi0
      have cin : decide ((i : Int) < (a.size : Int)) = false := by simp; omega
      have cin2 : ¬ i < a.size := hiA
      by_cases hjB : j < b.size
      · have hdy := drop_consE b j hjB
        have cjB : (j : Int) < (b.size : Int) := by omega
        obtain ⟨J, hJ⟩ : ∃ J, J = j + 1 := ⟨_, rfl⟩
        have wj1 : (j : Int) + 1 = (J : Int) := by omega
        have wJ : IntKind.i64.wrap (J : Int) = (J : Int) := IntWalk.i64_in _ (by omega)
        have cJ : (J : Int) ≤ (b.size : Int) := by omega
        have cJn : J ≤ b.size := by omega
        have cjJ : j ≤ J := by omega
        rw [← hJ] at hdy
        have hb0 := byte_le b[j]
        rw [hdy, scrip_ins] at hl
        have HL : Hid ((l ++ [43, b[j]]) ++ scrip [] (b.data.toList.drop J) = S) := Lib.hid (by rw [← hl]; simp)
        have xb := extract_oneE b j hjB
        rw [← hJ] at xb
        have ct1 : ¬ 9223372036854775807 < (bstr l).size + 1 := by rw [bstr_size]; omega
        have ct2 : ¬ 9223372036854775807 < (bstr l).size + 1 + (bstr [b[j]]).size := by rw [bstr_size, bstr_size]; simp; omega
        have j0 : (0 : Int) ≤ (j : Int) := by omega
        have jJ : (j : Int) ≤ (J : Int) := by omega
        obtain ⟨K, hK2⟩ : ∃ K : Int, K = (ED [] (b.data.toList.drop j) : Int) := ⟨_, rfl⟩
        rw [← hK2] at HE00
        clear hdy hl hi0 hiA hK2 hJ
        go_wp2
        go_region_held3 (fun W => Below wr.heap.size wr W ∧ True)
          (first | assumption | exact ⟨(Below.refl _ _).drew, trivial⟩ | exact keepE (by assumption) (by assumption))
          (first | (go_at_call 9; refine (specEditDistance _ _ _).mono ?_; rintro e w7 ⟨rfl, hb⟩; rw [HE00.out]))
        have B7 := Lib.hid (Hbl.out.trans ((And.left (show Below wr.heap.size wr w7 ∧ True by assumption)).mono Hbl.out.size))
        rename_i hS7
        clear hS7 hb
        go_wp2
        go_quiet (fail)
        have B8 := Lib.hid (B7.out.trans ((below_drewN w7 nq).mono B7.out.size))
        generalize w7.drewN nq = w8 at B8 ⊢
        go_wp2
        go_quiet (fail)
        have B9 := Lib.hid (B8.out.trans ((below_drewN w8 nq).mono B8.out.size))
        generalize w8.drewN nq = w9 at B9 ⊢
        go_wp2
        go_quiet (fail)
        have BA := Lib.hid (B9.out.trans ((below_drewN w9 nq).mono B9.out.size))
        generalize w9.drewN nq = wa at BA ⊢
        go_wp2
        go_roundw
        case rel => exact ⟨i, J, (l ++ [43]) ++ [b[j]], by omega, by omega, rfl, by go_num, by rw [← bstr_addE, ← bstr_addE]; rfl, by rw [HI.out, List.append_assoc l]; exact HL.out, BA.out⟩
        case measure => simp [intOf]; omega
      · have hj0 : b.data.toList.drop j = [] := List.drop_eq_nil_of_le (by rw [dlen]; omega)
        rw [hj0, scrip_nil, List.append_nil] at hl
        have HL := Lib.hid hl
        have cjn : decide ((j : Int) < (b.size : Int)) = false := by simp; omega
        clear hi0 hj0 hl
        go_wp2
        go_ret
        exact ⟨by rw [HS.out, ← HL.out]; rfl, Hbl.out⟩
end Go.Proofs.Ytoijjielnbcphaa

/-
  Walks of Tokens (program and reference) and of l2Cut. Condition: the string has at most 2^20 bytes; the world has its shape.
-/
import Derived.Test.YtdhdjmeolkobeaaDoorStrip
import Derived.Test.YtdhdjmeolkobeaaDoorSorted
import Derived.Test.YtdhdjmeolkobeaaDoorSets
namespace Go.Proofs.YtdhdjmeolkobeaaDoor
open Go.RowKit Go.Sort
set_option linter.unusedVariables false
set_option linter.unusedSimpArgs false
set_option maxRecDepth 100000
theorem putsL_ssL (l : List ByteArray) : putsL l = ssL l := by unfold putsL ssL; rw [puts_sset]
/-- The tokens of a string. -/
def toksL (s : ByteArray) : List ByteArray := ssL ((flds (norm s.data.toList)).map bstr)
theorem cutP_len (sep : UInt8) : ∀ (l cur : List UInt8), (cutP sep cur l).length ≤ l.length + 1
  | [], cur => by simp [cutP]
  | c :: l, cur => by
    unfold cutP
    split
    · have := cutP_len sep l []; simp; omega
    · have := cutP_len sep l (cur ++ [c]); simp; omega
theorem flds_len (l : List UInt8) : (flds l).length ≤ l.length + 1 := by
  unfold flds fl
  exact Nat.le_trans (List.length_filter_le _ _) (cutP_len 32 l [])
theorem joinW_le : ∀ G : List (List UInt8), (∀ x ∈ G, Word x) → G.length ≤ (joinW G).length := by
  intro G
  induction G with
  | nil => intro _; simp
  | cons x G ih =>
    intro hG
    have h1 := ih (fun y hy => hG y (by simp [hy]))
    have h2 := (hG x (by simp)).1
    have h3 : 1 ≤ x.length := by
      cases x with
      | nil => exact absurd rfl h2
      | cons _ _ => simp
    rw [joinW_cons]
    split
    · rename_i e; subst e; simp at h1 ⊢; omega
    · simp at h1 ⊢; omega
theorem flds_le (l : List UInt8) : (flds l).length ≤ l.length := by
  have h1 := joinW_le (flds l) (flds_word l)
  have h3 := collapse_len l
  rw [← collapse_join l] at h1; omega
theorem toksL_len (s : ByteArray) : (toksL s).length ≤ s.size + 1 := by
  unfold toksL
  refine Nat.le_trans (ssL_len _) ?_
  rw [List.length_map]
  refine Nat.le_trans (flds_len _) ?_
  have := norm_len s.data.toList
  rw [dlen] at this; omega
theorem nilStr_yes {s : ByteArray} (h : s.data.toList = []) : s.toList.isEmpty = true := by rw [toList_eq, h]; rfl
theorem nilStr_no {s : ByteArray} (h : s.data.toList ≠ []) : s.toList.isEmpty = false := by
  rw [toList_eq]; cases hx : s.data.toList with
  | nil => exact absurd hx h
  | cons _ _ => rfl
set_option maxHeartbeats 800000 in
theorem implTokens (s : ByteArray) (w : World) (hsh : Sh w) (hs : s.size ≤ 1048576) :
    Calls Tryd.prog 26 #[.string s] w fun e w' => ∃ a c, e = .returned (.slice a (toksL s).length c) ∧ BldG fS 9 w.heap.size w w' (.slice a (toksL s).length c) (toksL s) := by
  have hnl := norm_len s.data.toList
  rw [dlen] at hnl
  have Ha := Lib.hid (norm_ascii s.data.toList)
  obtain ⟨T, hT⟩ : ∃ T, toksL s = T := ⟨_, rfl⟩
  have hT2 : ssL ((flds (norm s.data.toList)).map bstr) = T := hT
  have hF0 := flds_len (norm s.data.toList)
  obtain ⟨N, hN⟩ : ∃ N, norm s.data.toList = N := ⟨_, rfl⟩
  rw [hN] at hnl hT2 Ha hF0
  obtain ⟨F, hF⟩ : ∃ F, flds N = F := ⟨_, rfl⟩
  rw [hF] at hT2 hF0
  have hF1 : F.length ≤ 1048576 := by have := flds_le N; rw [hF] at this; omega
  have HT := Lib.hid hT
  have HT2 := Lib.hid hT2
  have HN := Lib.hid hN
  have HF := Lib.hid hF
  have hNl : N.length ≤ 1048576 := by omega
  clear hT hT2 hN hF hF0 hnl
  go_enter Tryd.func26, Tryd.ntmps26
  go_wp2_with fail
  refine (implNorm s _ hsh hs).mono ?_
  rintro e w1 ⟨rfl, hb1⟩
  rw [HN.out]
  go_wp2_with fail
  refine (implWords N _ Ha.out hNl).mono ?_
  rintro e w2 ⟨A, rfl, hB⟩
  rw [HF.out] at hB ⊢
  have HR := Lib.hid hB.row.at
  have hb2 := hb1.trans (hB.bel.mono hb1.size)
  clear hB
  go_wp2_with fail
  refine (sortedSet_any _ _ (F.map bstr) _ F.length (List.length_map ..) HR.out (by rw [List.length_map]; exact hF1)).mono ?_
  rintro e w3 ⟨a', c', rfl, hB3⟩
  rw [HT2.out] at hB3 ⊢
  go_wp2
  go_ret
  exact ⟨a', c', by rw [HT.out]; rfl, by rw [HT.out]; exact ⟨ownMono hB3.own hb2.size, hb2.trans (hB3.bel.mono hb2.size), Nat.le_trans hb2.size hB3.big⟩⟩
theorem cutP_nil (c : UInt8) (cur : List UInt8) : cutP c cur [] = [cur] := by simp [cutP]
theorem cutP_eq (c : UInt8) (cur l : List UInt8) : cutP c cur (c :: l) = cur :: cutP c [] l := by rw [cutP, if_pos rfl]
theorem cutP_ne {c x : UInt8} (h : x ≠ c) (cur l : List UInt8) : cutP c cur (x :: l) = cutP c (cur ++ [x]) l := by rw [cutP, if_neg h]
theorem seg_snoc (s : ByteArray) (f k : Nat) (hf : f ≤ k) (h : k < s.size) : (s.data.toList.take (k + 1)).drop f = (s.data.toList.take k).drop f ++ [s[k]] := by
  rw [take_snoc s k h, List.drop_append_of_le_length (by rw [take_len s k (by omega)]; exact hf)]
theorem seg_self (s : ByteArray) (k : Nat) : (s.data.toList.take k).drop k = [] := List.drop_eq_nil_of_le (by rw [List.length_take]; omega)
theorem seg_ext (s : ByteArray) (f k : Nat) (h : f ≤ k) : s.extract f k = bstr ((s.data.toList.take k).drop f) := by rw [extract_bstr, List.drop_take]
theorem drop_consT (s : ByteArray) (k : Nat) (h : k < s.size) : s.data.toList.drop k = s[k] :: s.data.toList.drop (k + 1) := by
  rw [List.drop_eq_getElem_cons (by simpa using h)]; rfl
set_option maxHeartbeats 1600000 in
theorem specCut (s : ByteArray) (c : UInt8) (n : Int) (hn : n = (c.toNat : Int)) (w : World) (hs : s.size ≤ 1048576) :
    Calls Tryd.prog 43 #[.string s, .int .u8 n] w fun e w' => ∃ a cap, e = .returned (.slice a ((parts c s.data.toList).map bstr).length cap) ∧ BldG fS 9 w.heap.size w w' (.slice a ((parts c s.data.toList).map bstr).length cap) ((parts c s.data.toList).map bstr) := by
  have hc0 := byte_le c
  obtain ⟨X, hX⟩ : ∃ X, parts c s.data.toList = X := ⟨_, rfl⟩
  have hX2 : cutP c [] s.data.toList = X := hX
  have HX := Lib.hid hX
  have HX2 := Lib.hid hX2
  have HN := Lib.hid hn
  clear hX hX2 hn
  go_enter Tryd.func43, Tryd.ntmps43
  go_wp2
  go_loopw [5, 6, 7] (fun v fr i wr => ∃ (k f : Nat) (A : List (List UInt8)), k ≤ s.size ∧ f ≤ k ∧ i = .int .i64 k ∧ fr = .int .i64 f ∧ A.length ≤ k ∧ A ++ cutP c ((s.data.toList.take k).drop f) (s.data.toList.drop k) = X ∧ BldG fS 9 w.heap.size w wr v (A.map bstr)) (fun _ _ i _ => s.size - (intOf i).toNat)
  case atStart => exact ⟨0, 0, [], Nat.zero_le _, Nat.zero_le _, rfl, rfl, Nat.zero_le _, by rw [seg_self, List.drop_zero, List.nil_append]; exact HX2.out, BldG.empty _ _ _⟩
  case round =>
    obtain ⟨k, f, A, hk, hf, rfl, rfl, hA, he, hb⟩ := hrel
    by_cases hlt : k < s.size
    · rw [drop_consT s k hlt] at he
      by_cases hcx : s[k] = c
      · have hq : ((s[k].toNat : Int) == n) = true := by rw [HN.out, hcx]; simp
        rw [hcx, cutP_eq] at he
        have HE : Hid ((A ++ [(s.data.toList.take k).drop f]) ++ cutP c ((s.data.toList.take (k + 1)).drop (k + 1)) (s.data.toList.drop (k + 1)) = X) := Lib.hid (by rw [← he, seg_self]; simp)
        have HS : Hid (A.map bstr ++ [s.extract f k] = (A ++ [(s.data.toList.take k).drop f]).map bstr) := Lib.hid (by rw [seg_ext s f k hf, List.map_append]; rfl)
        have hfk : (f : Int) ≤ (k : Int) := by omega
        have hL : (A.map bstr).length ≤ 1048576 := by rw [List.length_map]; omega
        clear he hcx
        go_wp2_with (at_builtin; refine wpList_pushG rfl _ _ 22 rfl _ _ Tryd.underlying22 _ _ infoS rfl fS_one _ _ rfl hb (s.extract f k) rfl ?_ ?_ ?_; (omega); (omega); intro v' w' hb')
        go_roundw
        case rel => exact ⟨k + 1, k + 1, _, by omega, Nat.le_refl _, by go_num, by go_num, by simp; omega, HE.out, by rw [← HS.out]; exact hb'⟩
        case measure => simp [intOf]; omega
      · have hq : ((s[k].toNat : Int) == n) = false := by
          rw [HN.out, beq_eq_false_iff_ne]; intro e; exact hcx (UInt8.toNat_inj.1 (by omega))
        rw [cutP_ne hcx, ← seg_snoc s f k hf hlt] at he
        have HE := Lib.hid he
        have hb0 := byte_le s[k]
        clear he hcx
        go_wp2
        go_roundw
        case rel => exact ⟨k + 1, f, A, by omega, by omega, by go_num, rfl, by omega, HE.out, hb⟩
        case measure => simp [intOf]; omega
    · obtain rfl : k = s.size := by omega
      have hnil : s.data.toList.drop s.size = [] := List.drop_eq_nil_of_le (by rw [dlen]; exact Nat.le_refl _)
      rw [hnil, cutP_nil] at he
      clear hnil
      have HS : Hid (A.map bstr ++ [s.extract f s.size] = X.map bstr) := Lib.hid (by rw [seg_ext s f s.size hf, ← he, List.map_append]; rfl)
      have hL : (A.map bstr).length ≤ 1048576 := by rw [List.length_map]; omega
      have hfk : (f : Int) ≤ (s.size : Int) := by omega
      clear he
      go_wp2_with (at_builtin; refine wpList_pushG rfl _ _ 22 rfl _ _ Tryd.underlying22 _ _ infoS rfl fS_one _ _ rfl hb (s.extract f s.size) rfl ?_ ?_ ?_; (omega); (omega); intro v' w' hb')
      rw [HS.out] at hb'
      obtain ⟨a, cap, rfl⟩ := hb'.form
      go_ret
      exact ⟨a, cap, by rw [HX.out]; rfl, by rw [HX.out]; exact hb'⟩
def neB (x : ByteArray) : Bool := ne x.data.toList
theorem filt_parts (l : List UInt8) : ((parts 32 l).map bstr).filter neB = (flds l).map bstr := by
  unfold flds fl parts
  rw [List.filter_map]
  congr 1
theorem neTake (L : List ByteArray) (k : Nat) : ((L.take k).filter neB).length ≤ (L.filter neB).length :=
  List.Sublist.length_le (List.Sublist.filter _ (List.take_sublist k L))
theorem neSnoc (L : List ByteArray) (k : Nat) (h : k < L.length) : (L.take (k + 1)).filter neB = (L.take k).filter neB ++ (if neB L[k] then [L[k]] else []) := by
  rw [List.take_succ_eq_append_getElem h, List.filter_append]
  congr 1
  cases h2 : neB L[k] <;> simp [h2]
set_option maxHeartbeats 1600000 in
theorem specTokens (s : ByteArray) (w : World) (hs : s.size ≤ 1048576) :
    Calls Tryd.prog 25 #[.string s] w fun e w' => ∃ b off c, e = .returned (.slice (some ⟨b, off, none⟩) (toksL s).length c) ∧ RowAt fS w' (some ⟨b, off, none⟩) (toksL s) ∧ (toksL s).length ≤ c ∧ Below w.heap.size w w' := by
  have hnl := norm_len s.data.toList
  rw [dlen] at hnl
  obtain ⟨T, hT⟩ : ∃ T, toksL s = T := ⟨_, rfl⟩
  have hT2 : ssL ((flds (norm s.data.toList)).map bstr) = T := hT
  have hfl := flds_le (norm s.data.toList)
  have hpl := cutP_len 32 (norm s.data.toList) []
  have hfp := filt_parts (norm s.data.toList)
  rw [← hfp] at hT2
  have hfn : (((parts 32 (norm s.data.toList)).map bstr).filter neB).length ≤ 1048576 := by rw [hfp, List.length_map]; omega
  have hpl2 : ((parts 32 (norm s.data.toList)).map bstr).length ≤ 1048577 := by rw [List.length_map]; unfold parts; omega
  have HNl : Hid ((bstr (norm s.data.toList)).size ≤ 1048576) := Lib.hid (by rw [bstr_size]; omega)
  have HBl := Lib.hid (bstr_list (norm s.data.toList))
  obtain ⟨N, hN⟩ : ∃ N, norm s.data.toList = N := ⟨_, rfl⟩
  rw [hN] at hT2 hfn hpl2 HNl HBl
  obtain ⟨PP, hPP⟩ : ∃ PP, (parts 32 N).map bstr = PP := ⟨_, rfl⟩
  rw [hPP] at hT2 hfn hpl2
  have HT := Lib.hid hT
  have HT2 : Hid (putsL (PP.filter neB) = T) := Lib.hid (by rw [putsL_ssL]; exact hT2)
  have HN := Lib.hid hN
  have HP := Lib.hid hPP
  have HF := Lib.hid hfn
  clear hT hT2 hN hPP hfp hfl hpl hnl hfn
  go_enter Tryd.func25, Tryd.ntmps25
  go_wp2_with fail
  refine (specNorm s _ hs).mono ?_
  rintro e w1 ⟨rfl, hb1⟩
  rw [HN.out]
  go_wp2_with fail
  refine (specCut (bstr N) 32 32 rfl _ HNl.out).mono ?_
  rintro e w2 ⟨a, cap, rfl, hB⟩
  rw [HBl.out, HP.out] at hB ⊢
  have HR := Lib.hid hB.row.at
  have HB2 := Lib.hid (((Below.refl w.heap.size w).alloc (Nat.le_refl _) (.cells #[] 9)).trans ((hb1.trans (hB.bel.mono hb1.size)).mono (by simp)))
  have hsz : w.heap.size ≤ w2.heap.size := HB2.out.size
  have hlow : RowAt fS w2 (some ⟨w.heap.size, 0, none⟩) [] := RowAt.nil _ _
  clear hb1 hB
  go_wp2
  go_loopw [3, 5] (fun v i wr => ∃ (k b off c : Nat) (M : List ByteArray), k ≤ PP.length ∧ i = .int .i64 k ∧ M = putsL ((PP.take k).filter neB) ∧ v = .slice (some ⟨b, off, none⟩) M.length c ∧ RowAt fS wr (some ⟨b, off, none⟩) M ∧ M.length ≤ c ∧ Below w2.heap.size w2 wr) (fun _ i _ => PP.length - (intOf i).toNat)
  case atStart => exact ⟨0, _, _, _, [], Nat.zero_le _, rfl, rfl, rfl, RowAt.nil _ _, Nat.zero_le _, Below.refl _ _⟩
  case round =>
    obtain ⟨k, b, off, c, M, hk, rfl, hM, rfl, hrow, hMc, hb⟩ := hrel
    have hMl : M.length ≤ 1048576 := by rw [hM]; exact Nat.le_trans (putsL_le _) (Nat.le_trans (neTake PP k) HF.out)
    have HM := Lib.hid hM
    have HRow := Lib.hid hrow
    clear hM hrow
    by_cases hlt : k < PP.length
    · obtain ⟨b1, o1, ha, hc⟩ := (HR.out.below hb).cell k hlt
      have hf := neSnoc PP k hlt
      obtain ⟨x, hx⟩ : ∃ x, x = PP[k] := ⟨_, rfl⟩
      rw [← hx] at hc hf
      replace hc : wr.cell? ⟨b1, o1 + k, none⟩ = some (.string x) := hc
      subst ha
      by_cases hxe : x.data.toList = []
      · have hem := nilStr_yes hxe
        have H : Hid (M = putsL ((PP.take (k + 1)).filter neB)) := Lib.hid (by rw [hf, HM.out]; simp [neB, ne, hxe])
        clear hf hx hxe
        go_wp2
        go_roundw
        case rel => exact ⟨k + 1, b, off, c, M, by omega, by go_num, H.out, rfl, HRow.out, hMc, hb⟩
        case measure => simp [intOf]; omega
      · have hem := nilStr_no hxe
        have H : Hid (putL false M x = putsL ((PP.take (k + 1)).filter neB)) := Lib.hid (by
          have hne : neB x = true := by unfold neB ne; cases hq : x.data.toList with
            | nil => exact absurd hq hxe
            | cons _ _ => rfl
          rw [hf, hne, HM.out, if_pos rfl, putsL_snoc])
        clear hf hx hxe
        go_wp2_with (go_at_call 48; refine (l3PutF_any b off c M x _ HRow.out hMl hMc).mono ?_; rintro e w3 ⟨b2, o2, c2, rfl, hrow2, hc2, hb2⟩)
        go_roundw
        case rel => exact ⟨k + 1, b2, o2, c2, _, by omega, by go_num, H.out, rfl, hrow2, hc2, hb.trans (hb2.mono hb.size)⟩
        case measure => simp [intOf]; omega
    · obtain rfl : k = PP.length := by omega
      have H : Hid (M = toksL s) := Lib.hid (by rw [HM.out, List.take_length, HT.out, HT2.out])
      go_wp2
      go_ret
      exact ⟨b, off, c, by rw [← H.out]; rfl, by rw [← H.out]; exact HRow.out, by rw [← H.out]; exact hMc, HB2.out.trans (hb.mono HB2.out.size)⟩
end Go.Proofs.YtdhdjmeolkobeaaDoor

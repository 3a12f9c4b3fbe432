/-
  FnNormalization returns true for every code. Condition: the listed tables hold what the program's text lays (the card ties them).
-/
import Derived.Test.YtoijjielnbcphaaGreatDoorNormLaw
import Derived.ProofKit
import Derived.OpenShut
import Derived.ShutString
import Derived.ChangeOld
import Derived.OpenVars
import Derived.Lay
import Derived.SevenTiedAt
import Derived.Test.YtoijjielnbcphaaGreatDoorCards
import Derived.Test.YtoijjielnbcphaaGreatDoorTie
namespace Go.Proofs.YtoijjielnbcphaaGreatDoor
open Go.ChangeShapes Go.WideShapes Go.ChangeAt Go.RowKit
open Go.ChangeMaps (open_string shut_string)
set_option linter.unusedVariables false
set_option linter.unusedSimpArgs false
set_option maxRecDepth 100000 in
set_option maxHeartbeats 16000000 in
theorem fnNormalization_walk {w : World} (a0 : Option Addr) (len0 cap0 : Nat) (z0 : List UInt8) (w0 : ArgB w a0 len0 z0) (ev : Sh w) :
    Calls Tryz.prog 3 #[.slice a0 len0 cap0] w fun e w' => e = .returned (.bool true) ∧ Below w.heap.size w w' := by
  obtain ⟨rfl, hrow⟩ := w0
  have HR := Lib.hid hrow
  have HE := Lib.hid ev
  clear hrow ev
  by_cases hbig : 1048576 < z0.length
  · have HB : Hid (decide (1048576 < z0.length) = true) := Lib.hid (decide_eq_true hbig)
    go_enter Tryz.func3, Tryz.ntmps3
    go_wp2_with fail
    refine (big_any a0 z0.length cap0 _).mono ?_
    rintro e w1 ⟨rfl, rfl⟩
    rw [HB.out]
    go_wp2
    go_ret
    exact ⟨rfl, Below.refl _ _⟩
  · have HB : Hid (decide (1048576 < z0.length) = false) := Lib.hid (decide_eq_false hbig)
    have hl : z0.length ≤ 1048576 := by omega
    clear hbig
    have D0 := Lib.hid (Below.refl w.heap.size w)
    go_enter Tryz.func3, Tryz.ntmps3
    go_wp2_with fail
    refine (big_any a0 z0.length cap0 _).mono ?_
    rintro e w1 ⟨rfl, rfl⟩
    rw [HB.out]
    go_wp2_with fail
    refine (drawNorm a0 cap0 z0 _ HR.out hl).mono ?_
    rintro e x1 ⟨s, hs, rfl, bb⟩
    have D1 := Lib.hid (D0.out.trans (bb.mono D0.out.size))
    clear bb
    obtain ⟨N, hN⟩ : ∃ X, bstr (norm s.data.toList) = X := ⟨_, rfl⟩
    have HN := Lib.hid hN
    have HN2 : Hid (bstr (norm N.data.toList) = N) := Lib.hid (by rw [← hN, bstr_list, norm_norm])
    have nN : (N.toList != N.toList) = false := by simp
    obtain ⟨F, hF⟩ : ∃ X, bstr (fold s.data.toList) = X := ⟨_, rfl⟩
    have HF := Lib.hid hF
    have HF2 : Hid (bstr (fold F.data.toList) = F) := Lib.hid (by rw [← hF, bstr_list, fold_fold])
    have nF : (F.toList != F.toList) = false := by simp
    obtain ⟨M, hM⟩ : ∃ X, bstr (strip s.data.toList) = X := ⟨_, rfl⟩
    have HM := Lib.hid hM
    have HM2 : Hid (bstr (strip M.data.toList) = M) := Lib.hid (by rw [← hM, bstr_list, strip_strip])
    have nM : (M.toList != M.toList) = false := by simp
    obtain ⟨K, hK⟩ : ∃ X, bstr (collapse s.data.toList) = X := ⟨_, rfl⟩
    have HK := Lib.hid hK
    have HK2 : Hid (bstr (collapse K.data.toList) = K) := Lib.hid (by rw [← hK, bstr_list, collapse_collapse])
    have nK : (K.toList != K.toList) = false := by simp
    have zN : N.size ≤ 100 := by have := norm_len s.data.toList; rw [dlen] at this; rw [← hN, bstr_size]; omega
    have zM : M.size ≤ 100 := by have := strip_len s.data.toList; rw [dlen] at this; rw [← hM, bstr_size]; omega
    have zF : F.size ≤ 100 := by rw [← hF, bstr_size]; unfold fold; rw [List.length_map, dlen]; omega
    have zK : K.size ≤ 100 := by have := collapse_len s.data.toList; rw [dlen] at this; rw [← hK, bstr_size]; omega
    have hTN : toksL N = toksL s := by rw [← hN]; exact toks_norm s
    clear hN hF hM hK
    go_wp2_with fail
    refine (implNorm s _ (HE.out.below D1.out) (by omega)).mono ?_
    rintro e x2 ⟨rfl, bb⟩
    have D2 := Lib.hid (D1.out.trans (bb.mono D1.out.size))
    clear bb
    rw [HN.out]
    go_wp2_with fail
    refine (specNorm s _ (by omega)).mono ?_
    rintro e x3 ⟨rfl, bb⟩
    have D3 := Lib.hid (D2.out.trans (bb.mono D2.out.size))
    clear bb
    rw [HN.out]
    go_wp2_with fail
    refine (implNorm N _ (HE.out.below D3.out) (by omega)).mono ?_
    rintro e x4 ⟨rfl, bb⟩
    have D4 := Lib.hid (D3.out.trans (bb.mono D3.out.size))
    clear bb
    rw [HN2.out]
    obtain ⟨T1, hT1⟩ : ∃ X, isText s = X := ⟨_, rfl⟩
    have HT1 := Lib.hid hT1
    have n1 : (T1 != T1) = false := by simp
    clear hT1
    obtain ⟨T2, hT2⟩ : ∃ X, isNormal s = X := ⟨_, rfl⟩
    have HT2 := Lib.hid hT2
    have n2 : (T2 != T2) = false := by simp
    clear hT2
    obtain ⟨I, hI⟩ : ∃ X, bstr (ini (norm s.data.toList)) = X := ⟨_, rfl⟩
    have HI := Lib.hid hI
    have nI : (I.toList != I.toList) = false := by simp
    clear hI
    go_wp2_with fail
    refine (implIsText s _ (by omega)).mono ?_
    rintro e w' ⟨rfl, rfl⟩
    rw [HT1.out]
    go_wp2_with fail
    refine (specIsText s _ (by omega)).mono ?_
    rintro e w' ⟨rfl, rfl⟩
    rw [HT1.out]
    go_wp2_with fail
    refine (implIsNormal s _ (HE.out.below D4.out) (by omega)).mono ?_
    rintro e x5 ⟨rfl, bb⟩
    have D5 := Lib.hid (D4.out.trans (bb.mono D4.out.size))
    clear bb
    rw [HT2.out]
    go_wp2_with fail
    refine (specIsNormal s _ (by omega)).mono ?_
    rintro e x6 ⟨rfl, bb⟩
    have D6 := Lib.hid (D5.out.trans (bb.mono D5.out.size))
    clear bb
    rw [HT2.out]
    go_wp2_with fail
    refine (implInitials s _ (HE.out.below D6.out) (by omega)).mono ?_
    rintro e x7 ⟨rfl, bb⟩
    have D7 := Lib.hid (D6.out.trans (bb.mono D6.out.size))
    clear bb
    rw [HI.out]
    go_wp2_with fail
    refine (specInitials s _ (by omega)).mono ?_
    rintro e x8 ⟨rfl, bb⟩
    have D8 := Lib.hid (D7.out.trans (bb.mono D7.out.size))
    clear bb
    rw [HI.out]
    go_wp2_with fail
    refine (implFoldCase s _ (by omega)).mono ?_
    rintro e x9 ⟨rfl, bb⟩
    have D9 := Lib.hid (D8.out.trans (bb.mono D8.out.size))
    clear bb
    rw [HF.out]
    go_wp2_with fail
    refine (specFoldCase s _ (by omega)).mono ?_
    rintro e x10 ⟨rfl, bb⟩
    have D10 := Lib.hid (D9.out.trans (bb.mono D9.out.size))
    clear bb
    rw [HF.out]
    go_wp2_with fail
    refine (implStrip s _ (HE.out.below D10.out) (by omega)).mono ?_
    rintro e x11 ⟨rfl, bb⟩
    have D11 := Lib.hid (D10.out.trans (bb.mono D10.out.size))
    clear bb
    rw [HM.out]
    go_wp2_with fail
    refine (specStrip s _ (by omega)).mono ?_
    rintro e x12 ⟨rfl, bb⟩
    have D12 := Lib.hid (D11.out.trans (bb.mono D11.out.size))
    clear bb
    rw [HM.out]
    go_wp2_with fail
    refine (implCollapse s _ (by omega)).mono ?_
    rintro e x13 ⟨rfl, bb⟩
    have D13 := Lib.hid (D12.out.trans (bb.mono D12.out.size))
    clear bb
    rw [HK.out]
    go_wp2_with fail
    refine (specCollapse s _ (by omega)).mono ?_
    rintro e x14 ⟨rfl, bb⟩
    have D14 := Lib.hid (D13.out.trans (bb.mono D13.out.size))
    clear bb
    rw [HK.out]
    go_wp2_with fail
    refine (implFoldCase s _ (by omega)).mono ?_
    rintro e x15 ⟨rfl, bb⟩
    have D15 := Lib.hid (D14.out.trans (bb.mono D14.out.size))
    clear bb
    rw [HF.out]
    go_wp2_with fail
    refine (implFoldCase F _ (by omega)).mono ?_
    rintro e x16 ⟨rfl, bb⟩
    have D16 := Lib.hid (D15.out.trans (bb.mono D15.out.size))
    clear bb
    rw [HF2.out]
    go_wp2_with fail
    refine (implFoldCase s _ (by omega)).mono ?_
    rintro e x17 ⟨rfl, bb⟩
    have D17 := Lib.hid (D16.out.trans (bb.mono D16.out.size))
    clear bb
    rw [HF.out]
    go_wp2_with fail
    refine (implStrip s _ (HE.out.below D17.out) (by omega)).mono ?_
    rintro e x18 ⟨rfl, bb⟩
    have D18 := Lib.hid (D17.out.trans (bb.mono D17.out.size))
    clear bb
    rw [HM.out]
    go_wp2_with fail
    refine (implStrip M _ (HE.out.below D18.out) (by omega)).mono ?_
    rintro e x19 ⟨rfl, bb⟩
    have D19 := Lib.hid (D18.out.trans (bb.mono D18.out.size))
    clear bb
    rw [HM2.out]
    go_wp2_with fail
    refine (implStrip s _ (HE.out.below D19.out) (by omega)).mono ?_
    rintro e x20 ⟨rfl, bb⟩
    have D20 := Lib.hid (D19.out.trans (bb.mono D19.out.size))
    clear bb
    rw [HM.out]
    go_wp2_with fail
    refine (implCollapse s _ (by omega)).mono ?_
    rintro e x21 ⟨rfl, bb⟩
    have D21 := Lib.hid (D20.out.trans (bb.mono D20.out.size))
    clear bb
    rw [HK.out]
    go_wp2_with fail
    refine (implCollapse K _ (by omega)).mono ?_
    rintro e x22 ⟨rfl, bb⟩
    have D22 := Lib.hid (D21.out.trans (bb.mono D21.out.size))
    clear bb
    rw [HK2.out]
    go_wp2_with fail
    refine (implCollapse s _ (by omega)).mono ?_
    rintro e x23 ⟨rfl, bb⟩
    have D23 := Lib.hid (D22.out.trans (bb.mono D22.out.size))
    clear bb
    rw [HK.out]
    clear nN nF nM nK n1 n2 nI zF zM zK
    obtain ⟨L, hL⟩ : ∃ X, toksL s = X := ⟨_, rfl⟩
    have hLz := toksL_size s
    have hLt := toks_tset s
    have hLl := toksL_len s
    have hsp := fun (ws : List ByteArray) h => toks_sp (s := s) (ws := ws) h
    have hit := fun w hw => implTokens s w hw (by omega)
    have hst := fun w => specTokens s w (by omega)
    rw [hL] at hLz hLt hLl hTN hit hst
    simp only [hL] at hsp
    have HTN := Lib.hid hTN
    have HLZ : Hid (∀ x ∈ L, x.size ≤ 100) := Lib.hid fun x hx => Nat.le_trans (hLz x hx) hs
    have HLZ2 : Hid (∀ k (h : k < L.length), L[k].size ≤ 1048576) := Lib.hid fun k h => Nat.le_trans (hLz _ (List.getElem_mem h)) (by omega)
    have HLT := Lib.hid hLt
    have HSP := Lib.hid hsp
    have HIT := Lib.hid hit
    have HST := Lib.hid hst
    have HIN : Hid (∀ w, Sh w → Calls Tryz.prog 20 #[.string N] w fun e w' => ∃ a c, e = .returned (.slice a L.length c) ∧ BldG fS 9 w.heap.size w w' (.slice a L.length c) L) := Lib.hid fun w hw => by
      have := implTokens N w hw (by omega)
      rw [HTN.out] at this; exact this
    clear hL hLz hLt hTN hsp hit hst
    go_wp2_with fail
    refine (HIT.out _ (HE.out.below D23.out)).mono ?_
    rintro e y1 ⟨la, lc, rfl, hbg⟩
    have RL := Lib.hid hbg.row.at
    have bb := hbg.bel
    clear hbg
    have D24 := Lib.hid (D23.out.trans (bb.mono D23.out.size))
    clear bb
    go_wp2
    go_loopw [6, 7] (fun t i wr => ∃ k : Nat, k ≤ L.length ∧ i = .int .i64 ((k : Int) - 1) ∧ t = .string (bstr (sp (L.drop k).reverse)) ∧ wr = y1) (fun _ i _ => (intOf i + 1).toNat)
    case atStart => exact ⟨L.length, Nat.le_refl _, by go_num, by rw [List.drop_length]; rfl, rfl⟩
    case round =>
      obtain ⟨k, hk, rfl, rfl, rfl⟩ := hrel
      by_cases hk0 : k = 0
      · subst hk0
        have hT : toksL (bstr (sp (L.drop 0).reverse)) = L := HSP.out _ (fun x => by rw [List.drop_zero, List.mem_reverse])
        have hTz : (bstr (sp (L.drop 0).reverse)).size ≤ 1048576 := by
          have h1 := sp_len (ws := (L.drop 0).reverse) (fun x hx => by rw [List.drop_zero, List.mem_reverse] at hx; exact HLZ.out x hx)
          rw [List.length_reverse, List.drop_zero] at h1
          rw [bstr_size, List.drop_zero]; omega
        obtain ⟨t, ht⟩ : ∃ X, bstr (sp (L.drop 0).reverse) = X := ⟨_, rfl⟩
        rw [ht] at hT hTz ⊢
        have HITT : Hid (∀ w, Sh w → Calls Tryz.prog 20 #[.string t] w fun e w' => ∃ a c, e = .returned (.slice a L.length c) ∧ BldG fS 9 w.heap.size w w' (.slice a L.length c) L) := Lib.hid fun w hw => by
          have := implTokens t w hw hTz
          rw [hT] at this; exact this
        clear hT hTz ht
        go_wp2_with fail
        refine (HST.out _).mono ?_
        rintro e y2 ⟨kb, ko, kc, rfl, hre, _, bb⟩
        have D25 := Lib.hid (D24.out.trans (bb.mono D24.out.size))
        have RL1 := Lib.hid (RL.out.below bb)
        clear RL
        have RE := Lib.hid hre
        clear bb hre
        go_wp2_with fail
        refine (specEqualTokens _ _ _ _ L L _ RL1.out RE.out (by omega)).mono ?_
        rintro e x26 ⟨rfl, bb⟩
        rw [show decide (L = L) = true from decide_eq_true rfl]
        have D26 := Lib.hid (D25.out.trans (bb.mono D25.out.size))
        have RL2 := Lib.hid (RL1.out.below bb)
        clear RL1
        clear bb
        clear RE
        go_wp2_with fail
        refine (HITT.out _ (HE.out.below D26.out)).mono ?_
        rintro e x27 ⟨ta, tc, rfl, hbg⟩
        have RE := Lib.hid hbg.row.at
        have bb := hbg.bel
        clear hbg
        have D27 := Lib.hid (D26.out.trans (bb.mono D26.out.size))
        have RL3 := Lib.hid (RL2.out.below bb)
        clear RL2
        clear bb
        go_wp2_with fail
        refine (specEqualTokens _ _ _ _ L L _ RE.out RL3.out (by omega)).mono ?_
        rintro e x28 ⟨rfl, bb⟩
        rw [show decide (L = L) = true from decide_eq_true rfl]
        have D28 := Lib.hid (D27.out.trans (bb.mono D27.out.size))
        have RL4 := Lib.hid (RL3.out.below bb)
        clear RL3
        clear bb
        clear RE
        go_wp2_with fail
        refine (HIN.out _ (HE.out.below D28.out)).mono ?_
        rintro e x29 ⟨ta, tc, rfl, hbg⟩
        have RE := Lib.hid hbg.row.at
        have bb := hbg.bel
        clear hbg
        have D29 := Lib.hid (D28.out.trans (bb.mono D28.out.size))
        have RL5 := Lib.hid (RL4.out.below bb)
        clear RL4
        clear bb
        go_wp2_with fail
        refine (specEqualTokens _ _ _ _ L L _ RE.out RL5.out (by omega)).mono ?_
        rintro e x30 ⟨rfl, bb⟩
        rw [show decide (L = L) = true from decide_eq_true rfl]
        have D30 := Lib.hid (D29.out.trans (bb.mono D29.out.size))
        have RL6 := Lib.hid (RL5.out.below bb)
        clear RL5
        clear bb
        clear RE
        go_wp2_with fail
        refine (implIsTokenSet _ _ L _ RL6.out (by omega) HLZ2).mono ?_
        rintro e x31 ⟨rfl, bb⟩
        have D31 := Lib.hid (D30.out.trans (bb.mono D30.out.size))
        have RL7 := Lib.hid (RL6.out.below bb)
        clear RL6
        clear bb
        rw [HLT.out]
        clear RL7
        go_wp2_with fail
        refine (drawQ a0 cap0 z0 _ (HR.out.below D31.out) hl).mono ?_
        rintro e q1 ⟨u, q, hu, hq, rfl, bb⟩
        have D32 := Lib.hid (D31.out.trans (bb.mono D31.out.size))
        clear bb
        have hgl := qgr_len u q
        have hgc := qgr_cases u q
        have hig := fun w => implQGrams u q w (by omega) (by omega) (by omega)
        have hsg := fun w => specQGrams u q w (by omega) (by omega) (by omega)
        obtain ⟨G, hG⟩ : ∃ X, qgr u q = X := ⟨_, rfl⟩
        rw [hG] at hgl hgc hig hsg
        have HIG := Lib.hid hig
        have HSG := Lib.hid hsg
        have HGC := Lib.hid hgc
        clear hG hgc hig hsg
        go_wp2_with fail
        refine (HIG.out _).mono ?_
        rintro e q2 ⟨ga, gc, rfl, hbg⟩
        have RG := Lib.hid hbg.row.at
        have bb := hbg.bel
        clear hbg
        have D33 := Lib.hid (D32.out.trans (bb.mono D32.out.size))
        clear bb
        go_wp2_with fail
        refine (drawCom a0 cap0 z0 _ (HR.out.below D33.out) hl).mono ?_
        rintro e q3 ⟨b1, o1, c1, b2, o2, c2, X, Y, hxl, hyl, hxc, hyc, hrx, hry, rfl, bb⟩
        have D34 := Lib.hid (D33.out.trans (bb.mono D33.out.size))
        have RG1 := Lib.hid (RG.out.below bb)
        clear RG
        have RX := Lib.hid hrx
        have RY := Lib.hid hry
        clear bb hrx hry
        obtain ⟨V, hV⟩ : ∃ V, comG X Y = V := ⟨_, rfl⟩
        have hV2 := comG_comm X Y
        rw [hV] at hV2
        have HV := Lib.hid hV
        have HV2 := Lib.hid hV2
        have nV : ((V : Int) != (V : Int)) = false := by simp
        clear hV hV2
        go_wp2_with fail
        refine (HSG.out _).mono ?_
        rintro e q4 ⟨kb, ko, kc, rfl, hre, _, bb⟩
        have D35 := Lib.hid (D34.out.trans (bb.mono D34.out.size))
        have RG2 := Lib.hid (RG1.out.below bb)
        clear RG1
        have RX1 := Lib.hid (RX.out.below bb)
        clear RX
        have RY1 := Lib.hid (RY.out.below bb)
        clear RY
        have RE := Lib.hid hre
        clear bb hre
        go_wp2_with fail
        refine (specEqualTokens _ _ _ _ G G _ RG2.out RE.out (by omega)).mono ?_
        rintro e x36 ⟨rfl, bb⟩
        rw [show decide (G = G) = true from decide_eq_true rfl]
        have D36 := Lib.hid (D35.out.trans (bb.mono D35.out.size))
        have RG3 := Lib.hid (RG2.out.below bb)
        clear RG2
        have RX2 := Lib.hid (RX1.out.below bb)
        clear RX1
        have RY2 := Lib.hid (RY1.out.below bb)
        clear RY1
        clear bb
        clear RE
        go_wp2_with fail
        refine (implComG _ _ _ _ X Y _ RX2.out RY2.out (by omega) (by omega)).mono ?_
        rintro e x37 ⟨rfl, bb⟩
        have D37 := Lib.hid (D36.out.trans (bb.mono D36.out.size))
        have RG4 := Lib.hid (RG3.out.below bb)
        clear RG3
        have RX3 := Lib.hid (RX2.out.below bb)
        clear RX2
        have RY3 := Lib.hid (RY2.out.below bb)
        clear RY2
        clear bb
        rw [HV.out]
        go_wp2_with fail
        refine (specComG _ _ _ _ X Y _ RX3.out RY3.out (by omega) (by omega) (by omega)).mono ?_
        rintro e x38 ⟨rfl, bb⟩
        have D38 := Lib.hid (D37.out.trans (bb.mono D37.out.size))
        have RG5 := Lib.hid (RG4.out.below bb)
        clear RG4
        have RX4 := Lib.hid (RX3.out.below bb)
        clear RX3
        have RY4 := Lib.hid (RY3.out.below bb)
        clear RY3
        clear bb
        rw [HV.out]
        go_wp2_with fail
        refine (implComG _ _ _ _ X Y _ RX4.out RY4.out (by omega) (by omega)).mono ?_
        rintro e x39 ⟨rfl, bb⟩
        have D39 := Lib.hid (D38.out.trans (bb.mono D38.out.size))
        have RG6 := Lib.hid (RG5.out.below bb)
        clear RG5
        have RX5 := Lib.hid (RX4.out.below bb)
        clear RX4
        have RY5 := Lib.hid (RY4.out.below bb)
        clear RY4
        clear bb
        rw [HV.out]
        go_wp2_with fail
        refine (implComG _ _ _ _ Y X _ RY5.out RX5.out (by omega) (by omega)).mono ?_
        rintro e x40 ⟨rfl, bb⟩
        have D40 := Lib.hid (D39.out.trans (bb.mono D39.out.size))
        have RG7 := Lib.hid (RG6.out.below bb)
        clear RG6
        have RX6 := Lib.hid (RX5.out.below bb)
        clear RX5
        have RY6 := Lib.hid (RY5.out.below bb)
        clear RY5
        clear bb
        rw [HV2.out]
        rcases HGC.out with h0 | ⟨h0, h1, h2⟩
        · have g0 : ((G.length : Int) == 0) = true := by rw [h0]; rfl
          clear h0
          go_wp2
          go_ret
          exact ⟨rfl, D40.out⟩
        · have g0 : ((G.length : Int) == 0) = false := by rw [beq_eq_false_iff_ne]; omega
          have g1 : ((G.length : Int) == (u.size : Int) - q + 1) = true := by rw [beq_iff_eq]; exact h1
          have H2 := Lib.hid h2
          have g2 : ((G.length : Int) == (G.length : Int)) = true := by simp
          clear h0 h1 h2
          go_wp2_with fail
          refine (implComG _ _ _ _ G G _ RG7.out RG7.out (by omega) (by omega)).mono ?_
          rintro e q9 ⟨rfl, bb⟩
          rw [H2.out]
          have DD := Lib.hid (D40.out.trans (bb.mono D40.out.size))
          clear bb
          go_wp2
          go_ret
          exact ⟨rfl, DD.out⟩
      · obtain ⟨j, rfl⟩ : ∃ j, k = j + 1 := ⟨k - 1, by omega⟩
        have hlt : j < L.length := by omega
        obtain ⟨lb, lo, ea, hcl⟩ := RL.out.cell j hlt
        subst ea
        have hxz := HLZ.out L[j] (List.getElem_mem hlt)
        have hdr : (L.drop j).reverse = (L.drop (j + 1)).reverse ++ [L[j]] := by rw [List.drop_eq_getElem_cons hlt, List.reverse_cons]
        obtain ⟨x, hx⟩ : ∃ x, x = L[j] := ⟨_, rfl⟩
        rw [← hx] at hcl hxz hdr
        replace hcl : wr.cell? ⟨lb, lo + j, none⟩ = some (.string x) := hcl
        have hz := sp_len (ws := (L.drop (j + 1)).reverse) (fun x hx => HLZ.out x (List.mem_of_mem_drop (List.mem_reverse.1 hx)))
        rw [List.length_reverse, List.length_drop] at hz
        obtain ⟨B, hB⟩ : ∃ B, B = sp (L.drop (j + 1)).reverse := ⟨_, rfl⟩
        rw [← hB] at hz ⊢
        have HT : Hid (bstr B ++ ⟨#[32]⟩ ++ x = bstr (sp (L.drop j).reverse)) := Lib.hid (by
          rw [hdr, sp_snoc, ← hB, show (32 :: x.data.toList) = [32] ++ x.data.toList from rfl, ← List.append_assoc, ← bstr_addM, ← bstr_addM, bstr_of]; rfl)
        have u1 : ¬ 9223372036854775807 < (bstr B).size + 1 := by rw [bstr_size]; omega
        have u2 : ¬ 9223372036854775807 < (bstr B).size + 1 + x.size := by rw [bstr_size]; omega
        have ej : ((j + 1 : Nat) : Int) - 1 = (j : Int) := by omega
        have j0 : (0 : Int) ≤ (j : Int) := by omega
        have j1 : (j : Int) < (L.length : Int) := by omega
        rw [ej]
        clear hdr hB hx hz hk hk0
        go_wp2
        go_roundw
        case rel => exact ⟨j, by omega, by go_num, by rw [← HT.out], by trivial⟩
        case measure => simp [intOf]
set_option maxRecDepth 100000 in
theorem fnNormalization_lifted (os : Os) (started : os.Started) (H : Type) (enc : TypeId × Value → H) :
    ReturnsInHanded {} Tryz.checked os 3 .any (fun w args => (Rows.fnNormalizationSpec.pre enc Tryz.prog Tryz.f3 [] false w args ∧ laidMetH Tryz.prog Rows.fnNormalizationRow.laid w) ∧ sizedMet enc Tryz.prog Tryz.f3 (OpenSpec.ofChange Rows.fnNormalizationSpec) false w args) (Rows.fnNormalizationSpec.post enc Tryz.prog Tryz.f3 false true false false) := by
  refine returnsIn_laid (C := Tryz.checked) (X := fun w _ => laidMetH Tryz.prog Rows.fnNormalizationRow.laid w) (fun _ _ _ hh h => h.of_heap hh) own started (by kernel_rfl) Tryz.func3
    (ChangeSpec.witness_shaped (enc := enc) (C := Tryz.checked) (os := os) (X := fun w _ => laidMetH Tryz.prog Rows.fnNormalizationRow.laid w) false (World.laidAll Tryz.prog os Rows.fnNormalizationRow.laid) #[.slice none 0 0] 8 (World.laidAll_os _ _ _)
      (World.shaped_of_ZipB (by kernel_rfl) (by kernel_rfl)) (by kernel_rfl) (by kernel_rfl) (by kernel_rfl)
      (by rw [MakeChecks.laidMetH_plain _ _ _ (by kernel_rfl)]; exact laidMet_laidAll _ (by kernel_rfl) (by kernel_rfl))) ?_
  intro W base args ds gs before hval0 hW hL0 hsh
  have hL : laidMet Tryz.prog Rows.fnNormalizationRow.laid W := by rw [MakeChecks.laidMetH_plain _ _ _ (by kernel_rfl)] at hL0; exact hL0
  have hval : ∀ (j : Nat) t v, Tryz.f3.params[j]? = some t → args[j]? = some v → Value.okWide Tryz.prog W .any base t v := hval0
  have hW' := hW
  obtain ⟨p, q, hA0, hV, rfl, hfz, hnd⟩ := hW
  have hA : DataW.TrodAll enc Tryz.prog W 0 (fun _ => true) true Tryz.f3.params.toList args.toList ds p := hA0
  rw [Tryz.params3] at hA hval
  obtain ⟨v0, vs0, d0, ds0, p0, q0, hargs, rfl, rfl, h0, r0⟩ := trodAll_cons hA
  obtain ⟨rfl, rfl, rfl⟩ := trodAll_nil r0
  obtain rfl : args = #[v0] := by cases args; simp_all
  obtain ⟨rfl, rfl⟩ := trodVars_none hV
  obtain ⟨a0, len0, cap0, rfl⟩ := okWide_slice Tryz.underlying22 (hval 0 22 v0 rfl rfl)
  have k0 := h0
  have lt0 : ∀ x ∈ p0, x.block < W.heap.size := by obtain ⟨m, hm⟩ := k0; exact DataW.trod_lt m _ _ _ hm
  obtain ⟨z0, w0⟩ := open_bytes_is Tryz.underlying22 Tryz.underlying5 (by kernel_rfl) h0
  clear hA0 hval0
  refine (fnNormalization_walk (w := W) a0 len0 cap0 z0 w0 hsh).mono fun e W' ⟨he, bel⟩ => ?_
  subst he
  exact ⟨_, rfl, _, _, _, [], _, [], hW', trodAll_mk1 (shut_bool Tryz.underlying4 _), (trodAll_cons_mk (Below.trod laidOut (by kernel_rfl) (of_decide_eq_true (by kernel_rfl)) k0 bel lt0) trodAll_mk0), rfl, bel.frame _, fun h => by cases h⟩

theorem fnNormalization_over : Rows.fnNormalizationRow.holds Tryz.pinned (OpenSpec.ofChange Rows.fnNormalizationSpec) :=
  OpenClaim.holds_of_wide 3 Tryz.f3 rfl rfl rfl rfl rfl rfl rfl ⟨rfl, rfl, rfl, rfl, rfl⟩ rfl rfl rfl rfl rfl (by kernel_rfl) Tryz.func3 (by kernel_rfl)
    (of_decide_eq_true (by kernel_rfl)) (by unfold Func.isWrapper; first | (rw [if_pos (by decide +kernel)]; kernel_rfl) | (rw [if_neg (by decide +kernel)]; exact ⟨rfl, rfl⟩))
    (fun os started H enc _ => fnNormalization_lifted os started H enc)

theorem fnNormalization_said : Rows.FnNormalizationSaid := fnNormalization_over
theorem fnNormalization_holds : Rows.FnNormalizationCardSaid :=
  Claim7.holds_tied_plain_at .later [] _ true _ _ fnNormalization_said (fun _ h => by cases h) (by kernel_rfl) (fun _ h => by cases h) fnNormalization_row_tie rfl ⟨rfl, rfl⟩ (by kernel_rfl) rfl
    (fun f fn hf hfn => by
      obtain rfl : f = 3 := Option.some.inj ((show Tryz.prog.funcNamed "loop.example/g01923/laws.FnNormalization" = some 3 by kernel_rfl).symm.trans hf) |>.symm
      obtain rfl : fn = Tryz.f3 := (Option.some.inj (Tryz.func3.symm.trans hfn)).symm
      exact ⟨by kernel_rfl, fun j t ht => by
        rw [Tryz.params3] at ht
        have hm : t ∈ [22] := by simpa using Array.mem_of_getElem? ht
        have hall : ([22].all fun u => !Tryz.prog.wantsStandIn u) = true := by kernel_rfl
        exact (show Tryz.prog.wantsStandIn t = false by simpa using List.all_eq_true.1 hall t hm)⟩)
    (by kernel_rfl)
#print axioms fnNormalization_holds
end Go.Proofs.YtoijjielnbcphaaGreatDoor

/-
  Walk of spec.ParseRecord. Condition: the string has at most 2^20 bytes.
-/
import Derived.Test.YtdhdjmeolkobeaaDoorPRecH
import Derived.Deep.RegionHeldLaw
namespace Go.Proofs.YtdhdjmeolkobeaaDoor
open Go.RowKit Go.Sort
set_option linter.unusedVariables false
set_option linter.unusedSimpArgs false
set_option maxRecDepth 100000
set_option maxHeartbeats 4000000 in
theorem specParse (s : ByteArray) (w : World) (hs : s.size ≤ 1048576) :
    Calls Tryd.prog 21 #[.string s] w (PEnd w s.data.toList) := by
  obtain ⟨tl, hpt, -⟩ := parts_cut 124 s.data.toList
  have hX : (Lib.cut s.data.toList [124]).1 = prX s.data.toList := rfl
  rw [hX] at hpt
  have hsf : spF s.data.toList = tl.map bstr := by unfold spF; rw [hpt]; rfl
  have hsm := spF_small (S := s.data.toList) (by rw [dlen]; exact hs)
  rw [hsf] at hsm
  obtain ⟨F, hF⟩ : ∃ F, tl.map bstr = F := ⟨_, rfl⟩
  obtain ⟨W0, hW0⟩ : ∃ W0, W0 = w.alloc (.cells #[.int .i64 0, .int .i64 0, .int .i64 0, .slice none 0 0] 27) := ⟨_, rfl⟩
  have hk0 : W0.heap[w.heap.size]? = some (.cells #[.int .i64 0, .int .i64 0, .int .i64 0, .slice none 0 0] 27) := by rw [hW0]; exact Go.Deep.blk_alloc_new _ _
  have c0 : Below w.heap.size w W0 := by rw [hW0]; exact (Below.refl _ _).alloc (Nat.le_refl _) _
  have hz0 : w.heap.size < W0.heap.size := by rw [hW0]; simp
  have HK0 := Lib.hid hk0
  have HC0 := Lib.hid c0
  have hsp := specCut s 124 124 rfl W0 hs
  rw [hpt, List.map_cons, hF] at hsp
  rw [hF] at hsf hsm
  have HS := Lib.hid hsp
  have HSF := Lib.hid hsf
  obtain ⟨hF1, hF2⟩ := hsm
  have HF2 := Lib.hid hF2
  clear hk0 c0 hsp hpt hX hsf hF2 hF
  go_enter Tryd.func21, Tryd.ntmps21
  go_wp2_with fail
  rw [← hW0]
  clear hW0
  refine HS.out.mono ?_
  rintro e w1 ⟨la, lc, rfl, hb1⟩
  have hk1 := (hb1.bel.block w.heap.size hz0).trans HK0.out
  have hz1 : w.heap.size < w1.heap.size := Nat.lt_of_lt_of_le hz0 hb1.big
  have HC1 := Lib.hid (HC0.out.trans (hb1.bel.mono HC0.out.size))
  have hrow := hb1.row.at
  have hlc := ownCap hb1.own
  obtain ⟨lb, lo, ea, hcl⟩ := hrow.cell 0 (by simp)
  subst ea
  have HROW := Lib.hid hrow
  have HLC := Lib.hid hlc
  replace hcl : w1.cell? ⟨lb, lo, none⟩ = some (.string (bstr (prX s.data.toList))) := hcl
  clear hb1 hrow hlc
  have hlen : (0 : Int) < ((bstr (prX s.data.toList) :: F).length : Int) := by simp
  obtain ⟨P, hP⟩ : ∃ P, parts 46 (prX s.data.toList) = P := ⟨_, rfl⟩
  have zX : (bstr (prX s.data.toList)).size ≤ 1048576 := by
    have := cut_len s.data.toList [124]
    rw [dlen] at this; rw [bstr_size]; unfold prX; omega
  have hc2 := specCut (bstr (prX s.data.toList)) 46 46 rfl w1 zX
  rw [bstr_list, hP] at hc2
  have hps : ∀ p ∈ P, p.length ≤ 1048576 := by
    intro p hp
    rw [← hP] at hp
    have := parts_small p hp
    rw [bstr_size] at zX; omega
  have HPS := Lib.hid hps
  have HC2 := Lib.hid hc2
  have HP := Lib.hid hP
  clear hc2 hP hps
  go_wp2_with fail
  refine HC2.out.mono ?_
  rintro e w2 ⟨ha, hc, rfl, hb2⟩
  have hk2 := (hb2.bel.block w.heap.size hz1).trans hk1
  have hz2 : w.heap.size < w2.heap.size := Nat.lt_of_lt_of_le hz1 hb2.big
  have HC2' := Lib.hid (HC1.out.trans (hb2.bel.mono HC1.out.size))
  have HROW2 := Lib.hid (HROW.out.below hb2.bel)
  have hrow2 := hb2.row.at
  clear hb2 hk1 hcl zX HC2
  by_cases hN : P.length = 2
  · match P, hN, hrow2, HP, HPS with
    | [a, b], hN, hrow2, HP, HPS =>
      obtain ⟨A, hA⟩ : ∃ A, bstr a = A := ⟨_, rfl⟩
      obtain ⟨B, hB⟩ : ∃ B, bstr b = B := ⟨_, rfl⟩
      have hAl : A.size = a.length := by rw [← hA, bstr_size]
      have hBl : B.size = b.length := by rw [← hB, bstr_size]
      have zA : A.size ≤ 1048576 := by rw [hAl]; exact HPS.out a (by simp)
      have zB : B.size ≤ 1048576 := by rw [hBl]; exact HPS.out b (by simp)
      have hAd : A.data.toList = a := by rw [← hA]; exact bstr_list a
      have hBd : B.data.toList = b := by rw [← hB]; exact bstr_list b
      simp only [List.map_cons, List.map_nil, hA, hB, List.length_cons, List.length_nil] at hrow2 ⊢
      obtain ⟨hbk, ho, ea, h0c⟩ := hrow2.cell 0 (by simp)
      obtain ⟨hbk', ho', ea', h1c⟩ := hrow2.cell 1 (by simp)
      rw [ea] at ea'
      injection ea' with ea'
      injection ea' with e1 e2 _
      subst e1 e2 ea
      replace h0c : w2.cell? ⟨hbk, ho, none⟩ = some (.string A) := h0c
      replace h1c : w2.cell? ⟨hbk, ho + 1, none⟩ = some (.string B) := h1c
      have HR2 := Lib.hid hrow2
      have HAd := Lib.hid hAd
      have HBd := Lib.hid hBd
      have HAl := Lib.hid hAl
      clear hrow2 hA hB hBl hAd hBd hN HPS hAl
      by_cases h2 : A.size < 2
      · have HNO := Lib.hid (spec_no HP.out (Or.inr ⟨a, b, rfl, Or.inl (by rw [← HAl.out]; exact h2)⟩))
        have h2' : ((A.size : Int)) < 2 := by omega
        obtain ⟨⟨p0, p1, p2, p3⟩, pf⟩ := blk_facts hk2
        have HK := Lib.hid hk2
        go_wp2
        (try simp only [Exit.inBlock, Exit.then])
        refine bodyPost_ret (results_cell2 rfl _ _ w.heap.size 27 _ (0, 0) _ rfl (newRec_end HK.out) Tryd.underlying27 rfl (by kernel_rfl)) rfl ?_
        exact Or.inr ⟨HNO.out, rfl, newRec_below HC2'.out (Nat.le_refl _)⟩
      · have h2' : ¬ ((A.size : Int)) < 2 := by omega
        have hext : (A.extract 1 A.size).data.toList = a.tail := by rw [tail_ext, HAd.out]
        have hp3 := specParseInt (A.extract 1 A.size) w2 (by rw [ByteArray.size_extract]; omega)
        rw [hext] at hp3
        obtain ⟨K, hK⟩ : ∃ K, pV a.tail = K := ⟨_, rfl⟩
        obtain ⟨KB, hKB⟩ : ∃ KB, pB a.tail = KB := ⟨_, rfl⟩
        rw [hK, hKB] at hp3
        have HP3 := Lib.hid hp3
        have HK := Lib.hid hK
        obtain ⟨V, hV⟩ : ∃ V, pV b = V := ⟨_, rfl⟩
        obtain ⟨VB, hVB⟩ : ∃ VB, pB b = VB := ⟨_, rfl⟩
        have HV := Lib.hid hV
        have HVB := Lib.hid hVB
        clear hp3 hext hK hKB hV hVB
        go_wp2_with fail
        refine HP3.out.mono ?_
        rintro e w3 ⟨rfl, b3⟩
        have hk3 := (b3.block w.heap.size hz2).trans hk2
        have hz3 : w.heap.size < w3.heap.size := Nat.lt_of_lt_of_le hz2 b3.size
        have HC3 := Lib.hid (HC2'.out.trans (b3.mono HC2'.out.size))
        have HROW3 := Lib.hid (HROW2.out.below b3)
        have g0c := (b3.cell (World.block_lt_of_cell? w2 _ h0c)).trans h0c
        have g1c := (b3.cell (World.block_lt_of_cell? w2 _ h1c)).trans h1c
        clear b3 hk2 h0c h1c HP3
        have hp4 := specParseInt B w3 zB
        rw [HBd.out, HV.out, HVB.out] at hp4
        have HP4 := Lib.hid hp4
        clear hp4
        go_wp2_with fail
        refine HP4.out.mono ?_
        rintro e w4 ⟨rfl, b4⟩
        have hk4 := (b4.block w.heap.size hz3).trans hk3
        have hz4 : w.heap.size < w4.heap.size := Nat.lt_of_lt_of_le hz3 b4.size
        have HC4 := Lib.hid (HC3.out.trans (b4.mono HC3.out.size))
        have HROW4 := Lib.hid (HROW3.out.below b4)
        have h0c := (b4.cell (World.block_lt_of_cell? w3 _ g0c)).trans g0c
        clear b4 hk3 g0c g1c HP4
        have hFc : F.length + 1 ≤ lc := HLC.out
        have hFi : (1 : Int) ≤ (F.length : Int) + 1 := by have := Int.natCast_nonneg F.length; omega
        have hFi2 : (F.length : Int) + 1 ≤ (lc : Int) := by omega
        have hA0 : (0 : Int) < (A.size : Int) := by omega
        have hA0' : 0 < A.size := by omega
        obtain ⟨x, r, hax⟩ : ∃ x r, a = x :: r := by
          cases a with
          | nil => exfalso; have h9 := HAl.out; rw [List.length_nil] at h9; omega
          | cons x r => exact ⟨x, r, rfl⟩
        have hx0 : A[0] = x := by
          have e1 := HAd.out
          rw [hax] at e1
          have e2 : A.data.toList[0]? = some x := by rw [e1]; rfl
          have e3 : A.data.toList[0]? = some A[0] := by
            rw [List.getElem?_eq_getElem (by rw [dlen]; exact hA0')]; rfl
          rw [e3] at e2; injection e2
        have hx3 := x.toNat_lt
        have w1' : IntKind.i64.wrap (x.toNat : Int) = (x.toNat : Int) := IntWalk.i64_in _ (by omega)
        have w2' : IntKind.i64.wrap ((x.toNat : Int) - 97) = (x.toNat : Int) - 97 := IntWalk.i64_in _ (by omega)
        obtain ⟨AD, hAD⟩ : ∃ AD : Addr, (if lc = 1 then some (⟨lb, lo, none⟩ : Addr) else some ⟨lb, lo + 1, none⟩) = some AD ∧ ∀ W, Below w4.heap.size w4 W → ∀ j y, F[j]? = some y → W.cell? (AD.add j) = some (fS y) := by
          by_cases hl1 : lc = 1
          · refine ⟨_, if_pos hl1, ?_⟩
            intro W hB j y hy
            have : F = [] := List.eq_nil_of_length_eq_zero (by omega)
            rw [this] at hy; cases hy
          · exact ⟨_, if_neg hl1, fun W hB => RowAt.news (rowDrop (HROW4.out.below hB) 1)⟩
        have HNw := Lib.hid hAD.2
        have hAD1 := hAD.1
        clear hAD
        go_wp2
        refine wp_region_held_drew (S := fun W => Below w4.heap.size w4 W ∧ W.cell? ⟨hbk, ho, none⟩ = some (.string A)) (by kernel_rfl) ⟨(Below.refl _ _).drew, h0c⟩ (fun hHeld => ?_)
        refine wpAnyH_take (i := 0) (v := ?_) rfl (by kernel_rfl) (by kernel_rfl) (by kernel_rfl) (fun _ _ _ h => h) (Or.inl ⟨by rfl, ?_⟩) (by assumption) ?_
        rotate_left
        · (intro W hSw; (try dsimp only at hSw); go_simp; first | done | with_reducible rfl)
        (try simp only [Act.put, List.setIfInBounds_toArray, List.set_cons_zero, List.set_cons_succ])
        refine wpAnyH_take (i := 1) (v := ?_) rfl (by kernel_rfl) (by kernel_rfl) (by kernel_rfl) (fun _ _ _ h => h) (Or.inl ⟨by rfl, ?_⟩) (by assumption) ?_
        rotate_left
        · (intro W hSw; (try dsimp only at hSw); go_simp; first | done | with_reducible rfl)
        (try simp only [Act.put, List.setIfInBounds_toArray, List.set_cons_zero, List.set_cons_succ])
        refine wpAnyH_take (i := 2) (v := ?_) rfl (by kernel_rfl) (by kernel_rfl) (by kernel_rfl) (fun _ _ _ h => h) (Or.inl ⟨by rfl, ?_⟩) (by assumption) ?_
        rotate_left
        · (intro W hSw; (try dsimp only at hSw); go_simp; first | done | with_reducible rfl)
        (try simp only [Act.put, List.setIfInBounds_toArray, List.set_cons_zero, List.set_cons_succ])
        refine wpAnyH_take (i := 3) (v := ?_) rfl (by kernel_rfl) (by kernel_rfl) (by kernel_rfl) (fun _ _ _ h => h) (Or.inl ⟨by rfl, ?_⟩) (by assumption) ?_
        rotate_left
        · (intro W hSw; (try dsimp only at hSw); go_simp; first | done | with_reducible rfl)
        (try simp only [Act.put, List.setIfInBounds_toArray, List.set_cons_zero, List.set_cons_succ])
        refine wpAnyH_take (i := 4) (v := ?_) rfl (by kernel_rfl) (by kernel_rfl) (by kernel_rfl) (fun _ _ _ h => h) (Or.inl ⟨by rfl, ?_⟩) (by assumption) ?_
        rotate_left
        · (intro W hSw; (try dsimp only at hSw); go_simp; first | done | with_reducible rfl)
        (try simp only [Act.put, List.setIfInBounds_toArray, List.set_cons_zero, List.set_cons_succ])
        refine wpAnyH_take (i := 5) (v := ?_) rfl (by kernel_rfl) (by kernel_rfl) (by kernel_rfl) (fun _ _ _ h => h) (Or.inl ⟨by rfl, ?_⟩) (by assumption) ?_
        rotate_left
        · (intro W hSw; (try dsimp only at hSw); go_simp; first | done | with_reducible rfl)
        (try simp only [Act.put, List.setIfInBounds_toArray, List.set_cons_zero, List.set_cons_succ])
        refine wpAnyH_take (i := 6) (v := ?_) rfl (by kernel_rfl) (by kernel_rfl) (by kernel_rfl) (fun _ _ _ h => h) (Or.inl ⟨by rfl, ?_⟩) (by assumption) ?_
        rotate_left
        · (intro W hSw; (try dsimp only at hSw); go_simp; first | done | with_reducible rfl)
        (try simp only [Act.put, List.setIfInBounds_toArray, List.set_cons_zero, List.set_cons_succ])
        refine wpAnyH_take (i := 7) (v := ?_) rfl (by kernel_rfl) (by kernel_rfl) (by kernel_rfl) (fun _ _ _ h => h) (Or.inl ⟨by rfl, ?_⟩) (by assumption) ?_
        rotate_left
        · (intro W hSw; (try dsimp only at hSw); go_simp; first | done | with_reducible rfl)
        (try simp only [Act.put, List.setIfInBounds_toArray, List.set_cons_zero, List.set_cons_succ])
        refine wpAnyH_take (i := 9) (v := ?_) rfl (by kernel_rfl) (by kernel_rfl) (by kernel_rfl) (fun _ _ _ h => h) (Or.inl ⟨by rfl, ?_⟩) (by assumption) ?_
        rotate_left
        · (intro W hSw; (try dsimp only at hSw); go_simp; first | done | with_reducible rfl)
        (try simp only [Act.put, List.setIfInBounds_toArray, List.set_cons_zero, List.set_cons_succ])
        refine wpAnyH_take (i := 10) (v := ?_) rfl (by kernel_rfl) (by kernel_rfl) (by kernel_rfl) (fun _ _ _ h => h) (Or.inl ⟨by rfl, ?_⟩) (by assumption) ?_
        rotate_left
        · (intro W hSw; (try dsimp only at hSw); go_simp; first | done | with_reducible rfl)
        (try simp only [Act.put, List.setIfInBounds_toArray, List.set_cons_zero, List.set_cons_succ])
        refine wpAnyH_ready (rs := [8, 13]) (by kernel_rfl) (by simp) ?_
        refine AllReadyH.cons rfl (fun Kx hK => ?_) ?_
        go_simp
        refine hK.out _ _ ?_ (fun hHeld2 => ?_)
        · exact keepS h0c (hHeld.1.alloc hHeld.1.size _)
        clear hK Kx hHeld
        have hHeld := hHeld2
        clear hHeld2
        refine wpAnyH_ready (rs := [11, 13]) (by kernel_rfl) (by simp) ?_
        refine AllReadyH.cons rfl (fun Kx hK => ?_) ?_
        refine step_addG (f := fS) (w0 := w4) rfl (.tmp 51) (.tmp 53) 22 rfl 9 Tryd.underlying22 _ _ infoS rfl (fun _ => rfl) (.slice (some ⟨w4.heap.size, 0, none⟩) 0 0) [] rfl (by repeat (first | assumption | exact emptyAt _ _ (by repeat (first | exact Below.refl _ _ | refine Below.drew ?_ | refine Below.alloc ?_ (by simp) _)) _ (by simp) | refine BldG.drew1 ?_ | refine BldG.alloc ?_ _)) AD F.length _ F rfl rfl (HNw.out _ (by repeat (first | exact Below.refl _ _ | refine Below.drew ?_ | refine Below.alloc ?_ (by simp) _))) (by simp; omega) (by simp; omega) ?_
        intro v1 w5 hb5 hg5
        rw [List.nil_append] at hb5
        obtain ⟨a5, c5, rfl⟩ := hb5.form
        go_simp
        refine hK.out _ _ ?_ (fun hHeld2 => ?_)
        · exact keepS h0c hb5.bel
        clear hK Kx hHeld
        have hHeld := hHeld2
        clear hHeld2
        refine wpAnyH_take (i := 12) (v := ?_) rfl (by kernel_rfl) (by kernel_rfl) (by kernel_rfl) (fun _ _ _ h => h) (Or.inl ⟨by rfl, ?_⟩) (by assumption) ?_
        rotate_left
        · (intro W hSw; (try dsimp only at hSw); go_simp; first | done | with_reducible rfl)
        (try simp only [Act.put, List.setIfInBounds_toArray, List.set_cons_zero, List.set_cons_succ])
        refine wpAnyH_ready (rs := [13]) (by kernel_rfl) (by simp) ?_
        refine AllReadyH.cons rfl (fun Kx hK => ?_) AllReadyH.nil
        go_simp
        refine hK.out _ _ ?_ (fun hHeld2 => ?_)
        · exact keepS h0c (hHeld.1.alloc hHeld.1.size _)
        clear hK Kx hHeld
        have hHeld := hHeld2
        clear hHeld2
        refine wpAnyH_ready (rs := [14]) (by kernel_rfl) (by simp) ?_
        refine AllReadyH.cons rfl (fun Kx hK => ?_) AllReadyH.nil
        go_simp
        refine hK.out _ _ ?_ (fun hHeld2 => ?_)
        · exact keepS h0c (hb5.bel.alloc hb5.big _)
        clear hK Kx hHeld
        have hHeld := hHeld2
        clear hHeld2
        refine wpAnyH_done (by kernel_rfl) ?_ _
        obtain ⟨W6, hW6⟩ : ∃ W6, W6 = w5.alloc (.cells #[.int .i64 ((x.toNat : Int) - 97), .int .i64 K, .int .i64 V, .slice a5 F.length c5] 27) := ⟨_, rfl⟩
        have hr6 : W6.heap[w5.heap.size]? = some (.cells #[.int .i64 ((x.toNat : Int) - 97), .int .i64 K, .int .i64 V, .slice a5 F.length c5] 27) := by rw [hW6]; exact Go.Deep.blk_alloc_new _ _
        have b6 : Below w4.heap.size w4 W6 := by rw [hW6]; exact hb5.bel.alloc hb5.big _
        have ro6 : RowOwn fS w4.heap.size W6 a5 F := by rw [hW6]; exact hb5.row.below ((Below.refl _ _).alloc (Nat.le_refl _) _)
        have hR6 : w4.heap.size ≤ w5.heap.size := hb5.big
        have hR7 : w5.heap.size < W6.heap.size := by rw [hW6]; simp
        rw [← hW6]
        have hRw : w.heap.size < w5.heap.size := Nat.lt_of_lt_of_le hz4 hR6
        obtain ⟨R, hR⟩ : ∃ R, w5.heap.size = R := ⟨_, rfl⟩
        rw [hR] at hr6 hRw hR7 ⊢
        clear hR hHeld hb5 hg5 hW6
        rotate_left
        refine AllReadyH.cons rfl (fun Kx hK => ?_) AllReadyH.nil
        go_simp
        refine hK.out _ _ ?_ (fun hHeld2 => ?_)
        · exact keepS h0c (hHeld.1.alloc hHeld.1.size _)
        clear hK Kx hHeld
        have hHeld := hHeld2
        clear hHeld2
        refine wpAnyH_ready (rs := [11]) (by kernel_rfl) (by simp) ?_
        refine AllReadyH.cons rfl (fun Kx hK => ?_) AllReadyH.nil
        refine step_addG (f := fS) (w0 := w4) rfl (.tmp 51) (.tmp 53) 22 rfl 9 Tryd.underlying22 _ _ infoS rfl (fun _ => rfl) (.slice (some ⟨w4.heap.size, 0, none⟩) 0 0) [] rfl (by repeat (first | assumption | exact emptyAt _ _ (by repeat (first | exact Below.refl _ _ | refine Below.drew ?_ | refine Below.alloc ?_ (by simp) _)) _ (by simp) | refine BldG.drew1 ?_ | refine BldG.alloc ?_ _)) AD F.length _ F rfl rfl (HNw.out _ (by repeat (first | exact Below.refl _ _ | refine Below.drew ?_ | refine Below.alloc ?_ (by simp) _))) (by simp; omega) (by simp; omega) ?_
        intro v1 w5 hb5 hg5
        rw [List.nil_append] at hb5
        obtain ⟨a5, c5, rfl⟩ := hb5.form
        go_simp
        refine hK.out _ _ ?_ (fun hHeld2 => ?_)
        · exact keepS h0c hb5.bel
        clear hK Kx hHeld
        have hHeld := hHeld2
        clear hHeld2
        have rb : w5.heap[w4.heap.size + 1]? = some (.cells #[.int .i64 0, .int .i64 0, .int .i64 0, .slice none 0 0] 27) := (hg5.block _ (by first | (simp; done) | (simp; omega)) (by simp [Value.ownBlock]; done)).trans (by simp only [drew_heap, alloc_heap, Array.getElem?_push, Array.size_push]; simp; done)
        obtain ⟨⟨p0, p1, p2, p3⟩, pf⟩ := blk_facts rb
        refine wpAnyH_take (i := 12) (v := ?_) rfl (by kernel_rfl) (by kernel_rfl) (by kernel_rfl) (fun _ _ _ h => h) (Or.inl ⟨by rfl, ?_⟩) (by assumption) ?_
        rotate_left
        · (intro W hSw; (try dsimp only at hSw); go_simp; first | done | with_reducible rfl)
        (try simp only [Act.put, List.setIfInBounds_toArray, List.set_cons_zero, List.set_cons_succ])
        refine wpAnyH_ready (rs := [14]) (by kernel_rfl) (by simp) ?_
        refine AllReadyH.cons rfl (fun Kx hK => ?_) AllReadyH.nil
        go_simp
        refine hK.out _ _ ?_ (fun hHeld2 => ?_)
        · exact keepS h0c (newRec_below hHeld.1 (by exact Nat.le_succ _))
        clear hK Kx hHeld
        have hHeld := hHeld2
        clear hHeld2
        refine wpAnyH_done (by kernel_rfl) ?_ _
        have hR6 : w4.heap.size ≤ w4.heap.size + 1 := Nat.le_succ _
        obtain ⟨W6, hW6, hr6, b6, ro6, hs6⟩ := rec_put (s := (x.toNat : Int) - 97) (k := K) (v := V) (a := a5) (n := F.length) (c := c5) rb hR6 hb5.bel hb5.row
        have hR7 : w4.heap.size + 1 < W6.heap.size := by rw [hs6]; exact (Array.getElem?_eq_some_iff.1 rb).1
        rw [← hW6]
        clear rb p0 p1 p2 p3 pf hs6
        have hRw : w.heap.size < w4.heap.size + 1 := Nat.lt_of_lt_of_le hz4 hR6
        obtain ⟨R, hR⟩ : ∃ R, w4.heap.size + 1 = R := ⟨_, rfl⟩
        rw [hR] at hr6 hRw hR7 ⊢
        clear hR hHeld hb5 hg5 hW6
        rotate_left
        refine AllReadyH.cons rfl (fun Kx hK => ?_) AllReadyH.nil
        go_simp
        refine hK.out _ _ ?_ (fun hHeld2 => ?_)
        · exact keepS h0c (hHeld.1.alloc hHeld.1.size _)
        clear hK Kx hHeld
        have hHeld := hHeld2
        clear hHeld2
        refine wpAnyH_ready (rs := [8]) (by kernel_rfl) (by simp) ?_
        refine AllReadyH.cons rfl (fun Kx hK => ?_) AllReadyH.nil
        go_simp
        refine hK.out _ _ ?_ (fun hHeld2 => ?_)
        · exact keepS h0c (hHeld.1.alloc hHeld.1.size _)
        clear hK Kx hHeld
        have hHeld := hHeld2
        clear hHeld2
        refine wpAnyH_ready (rs := [11]) (by kernel_rfl) (by simp) ?_
        refine AllReadyH.cons rfl (fun Kx hK => ?_) AllReadyH.nil
        refine step_addG (f := fS) (w0 := w4) rfl (.tmp 51) (.tmp 53) 22 rfl 9 Tryd.underlying22 _ _ infoS rfl (fun _ => rfl) (.slice (some ⟨w4.heap.size + 1, 0, none⟩) 0 0) [] rfl (by repeat (first | assumption | exact emptyAt _ _ (by repeat (first | exact Below.refl _ _ | refine Below.drew ?_ | refine Below.alloc ?_ (by simp) _)) _ (by simp) | refine BldG.drew1 ?_ | refine BldG.alloc ?_ _)) AD F.length _ F rfl rfl (HNw.out _ (by repeat (first | exact Below.refl _ _ | refine Below.drew ?_ | refine Below.alloc ?_ (by simp) _))) (by simp; omega) (by simp; omega) ?_
        intro v1 w5 hb5 hg5
        rw [List.nil_append] at hb5
        obtain ⟨a5, c5, rfl⟩ := hb5.form
        go_simp
        refine hK.out _ _ ?_ (fun hHeld2 => ?_)
        · exact keepS h0c hb5.bel
        clear hK Kx hHeld
        have hHeld := hHeld2
        clear hHeld2
        have rb : w5.heap[w4.heap.size]? = some (.cells #[.int .i64 0, .int .i64 0, .int .i64 0, .slice none 0 0] 27) := (hg5.block _ (by first | (simp; done) | (simp; omega)) (by simp [Value.ownBlock]; done)).trans (by simp only [drew_heap, alloc_heap, Array.getElem?_push, Array.size_push]; simp; done)
        obtain ⟨⟨p0, p1, p2, p3⟩, pf⟩ := blk_facts rb
        refine wpAnyH_take (i := 12) (v := ?_) rfl (by kernel_rfl) (by kernel_rfl) (by kernel_rfl) (fun _ _ _ h => h) (Or.inl ⟨by rfl, ?_⟩) (by assumption) ?_
        rotate_left
        · (intro W hSw; (try dsimp only at hSw); go_simp; first | done | with_reducible rfl)
        (try simp only [Act.put, List.setIfInBounds_toArray, List.set_cons_zero, List.set_cons_succ])
        refine wpAnyH_ready (rs := [14]) (by kernel_rfl) (by simp) ?_
        refine AllReadyH.cons rfl (fun Kx hK => ?_) AllReadyH.nil
        go_simp
        refine hK.out _ _ ?_ (fun hHeld2 => ?_)
        · exact keepS h0c (newRec_below hHeld.1 (by exact Nat.le_refl _))
        clear hK Kx hHeld
        have hHeld := hHeld2
        clear hHeld2
        refine wpAnyH_done (by kernel_rfl) ?_ _
        have hR6 : w4.heap.size ≤ w4.heap.size := Nat.le_refl _
        obtain ⟨W6, hW6, hr6, b6, ro6, hs6⟩ := rec_put (s := (x.toNat : Int) - 97) (k := K) (v := V) (a := a5) (n := F.length) (c := c5) rb hR6 hb5.bel hb5.row
        have hR7 : w4.heap.size < W6.heap.size := by rw [hs6]; exact (Array.getElem?_eq_some_iff.1 rb).1
        rw [← hW6]
        clear rb p0 p1 p2 p3 pf hs6
        have hRw : w.heap.size < w4.heap.size := Nat.lt_of_lt_of_le hz4 hR6
        obtain ⟨R, hR⟩ : ∃ R, w4.heap.size = R := ⟨_, rfl⟩
        rw [hR] at hr6 hRw hR7 ⊢
        clear hR hHeld hb5 hg5 hW6
        rotate_left
        all_goals
          have hk6 := (b6.block w.heap.size hz4).trans hk4
          have HC6 := Lib.hid (HC4.out.trans (b6.mono HC4.out.size))
          have hz6 : w.heap.size < W6.heap.size := Nat.lt_of_lt_of_le hz4 b6.size
          obtain ⟨⟨p0, p1, p2, p3⟩, pf⟩ := blk_facts hr6
          have hfmt := specFormatRecord ((x.toNat : Int) - 97) K V a5 c5 F W6 ro6.at hF1 HF2
          have HFM := Lib.hid hfmt
          have HAX := Lib.hid hax
          have RO6 := Lib.hid ro6
          clear hfmt hax ro6 b6 w1' w2' hx3 hx0 hA0 hA0' HNw hAD1 h0c hFc hFi hFi2
          go_wp2_with fail
          refine HFM.out.mono ?_
          rintro e w7 ⟨rfl, b7⟩
          have hk7 := (b7.block w.heap.size hz6).trans hk6
          have hr7 := (b7.block R hR7).trans hr6
          have RO7 := Lib.hid (RO6.out.below b7)
          have HC7 := Lib.hid (HC6.out.trans (b7.mono HC6.out.size))
          clear p0 p1 p2 p3 pf
          obtain ⟨⟨p0, p1, p2, p3⟩, pf⟩ := blk_facts hk7
          obtain ⟨⟨t0, t1, t2, t3⟩, tf⟩ := blk_facts hr7
          have HKK := Lib.hid hk7
          have HZ := Lib.hid hz4
          have hne : w.heap.size ≠ R := Nat.ne_of_lt hRw
          clear hk4 hk6 hr6 hk7 hr7 b7
          by_cases hg : fname ((x.toNat : Int) - 97) K V F = s.data.toList
          · have hit : Hit s.data.toList ((x.toNat : Int) - 97) K V F := by
              refine hit_of ?_ hg
              intro h0
              have h9 := HP.out
              rw [h0] at h9
              have h10 : (parts 46 (prX [])).length = 1 := by decide
              rw [h9] at h10
              cases h10
            have HIT := Lib.hid hit
            rw [show bstr (fname ((x.toNat : Int) - 97) K V F) = s by rw [hg]; exact bstr_of s]
            have sq : (s.toList != s.toList) = false := by simp
            clear hg hit
            go_wp2
            (try simp only [Exit.inBlock, Exit.then])
            refine bodyPost_ret (results_cell2 rfl _ _ w.heap.size 27 _ (0, 0) _ rfl (newRec_end HKK.out) Tryd.underlying27 rfl (by kernel_rfl)) rfl ?_
            exact Or.inl ⟨_, K, V, F, _, _, HIT.out, rfl, RowOwn.mono (newRec_row RO7.out HZ.out) (Nat.le_of_lt HZ.out), newRec_below HC7.out (Nat.le_refl _)⟩
          · have hno : ∀ s' k v l, ¬ Hit s.data.toList s' k v l := by
              refine spec_no HP.out (Or.inr ⟨a, b, rfl, Or.inr ?_⟩)
              rw [HK.out, HV.out, HSF.out, HAX.out]
              exact hg
            obtain ⟨T, hT⟩ : ∃ y, bstr (fname ((x.toNat : Int) - 97) K V F) = y := ⟨_, rfl⟩
            have hne2 : T.toList ≠ s.toList := by rw [← hT, bstr_toList, toList_eq]; exact hg
            rw [hT]
            have q1 : (T.toList != s.toList) = true := by rw [bne_iff_ne]; exact hne2
            have q2 : (T.toList == s.toList) = false := by rw [beq_eq_false_iff_ne]; exact hne2
            have q3 : decide (T.toList = s.toList) = false := decide_eq_false hne2
            have HNN := Lib.hid hno
            clear hg hno hT hne2
            go_wp2
            (try simp only [Exit.inBlock, Exit.then])
            refine bodyPost_ret (results_cell2 rfl _ _ w.heap.size 27 _ (0, 0) _ rfl (newRec_end HKK.out) Tryd.underlying27 rfl (by kernel_rfl)) rfl ?_
            exact Or.inr ⟨HNN.out, rfl, newRec_below HC7.out (Nat.le_refl _)⟩
  · have HNO := Lib.hid (spec_no HP.out (Or.inl hN))
    obtain ⟨N, hNN⟩ : ∃ N, (P.map bstr).length = N := ⟨_, rfl⟩
    rw [hNN]
    have q1 : ((N : Int) != 2) = true := by
      rw [bne_iff_ne, ← hNN, List.length_map]; omega
    have q2 : ((N : Int) == 2) = false := by
      rw [beq_eq_false_iff_ne, ← hNN, List.length_map]; omega
    have q3 : ¬ ((N : Int) = 2) := by rw [← hNN, List.length_map]; omega
    clear hNN hrow2 hN
    obtain ⟨⟨p0, p1, p2, p3⟩, pf⟩ := blk_facts hk2
    have HK := Lib.hid hk2
    go_wp2
    (try simp only [Exit.inBlock, Exit.then])
    refine bodyPost_ret (results_cell2 rfl _ _ w.heap.size 27 _ (0, 0) _ rfl (newRec_end HK.out) Tryd.underlying27 rfl (by kernel_rfl)) rfl ?_
    exact Or.inr ⟨HNO.out, rfl, newRec_below HC2'.out (Nat.le_refl _)⟩
end Go.Proofs.YtdhdjmeolkobeaaDoor

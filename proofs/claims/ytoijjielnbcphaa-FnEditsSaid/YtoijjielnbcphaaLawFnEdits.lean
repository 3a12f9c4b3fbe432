/-
  FnEdits returns true for every code. No condition.
-/
import Derived.Test.YtoijjielnbcphaaEdDraw
import Derived.Test.YtoijjielnbcphaaEdPlain
import Derived.Test.YtoijjielnbcphaaScriptS
import Derived.Test.YtoijjielnbcphaaApply
import Derived.ProofKit
import Derived.OpenShut
import Derived.ShutString
import Derived.ChangeOld
namespace Go.Proofs.Ytoijjielnbcphaa
open Go.ChangeShapes Go.WideShapes Go.ChangeAt Go.RowKit
open Go.ChangeMaps (open_string shut_string)
set_option linter.unusedVariables false
set_option linter.unusedSimpArgs false
theorem dV_ED {a b : ByteArray} (h : a.size ≤ 40) (h2 : b.size ≤ 40) : dV false a b = (ED a.data.toList b.data.toList : Int) := by
  rw [dV_in h h2]
  have := D_full a.data.toList b.data.toList
  rw [dlen, dlen] at this
  rw [this]
theorem dV_comm (a b : ByteArray) : dV false b a = dV false a b := by
  by_cases h : a.size ≤ 40 ∧ b.size ≤ 40
  · rw [dV_ED h.1 h.2, dV_ED h.2 h.1, ED_comm]
  · rw [dV_out h, dV_out (fun k => h ⟨k.2, k.1⟩)]
theorem dV_swap (a b : ByteArray) : dV true a b ≤ dV false a b := by
  by_cases h : a.size ≤ 40 ∧ b.size ≤ 40
  · rw [dV_in h.1 h.2, dV_in h.1 h.2]
    have := D_swap_le a.data.toList b.data.toList a.size b.size
    omega
  · rw [dV_out h, dV_out h]; omega
theorem cst_true_drop (l : List UInt8) (m : Nat) : cst true (l.drop m) = cst false (l.drop (m + 1)) := by
  by_cases h : m < l.length
  · rw [List.drop_eq_getElem_cons h, cst_skip]
  · rw [List.drop_eq_nil_of_le (by omega), List.drop_eq_nil_of_le (by omega)]; simp [cst]
theorem list_eq_of {a b : ByteArray} (h : a.data.toList = b.data.toList) : a = b := by apply ByteArray.ext; exact Array.toList_inj.1 h
set_option maxRecDepth 100000 in
set_option maxHeartbeats 16000000 in
theorem fnEdits_walk {w : World} (a0 : Option Addr) (len0 cap0 : Nat) (z0 : List UInt8) (w0 : ArgB w a0 len0 z0) :
    Calls Try.prog 3 #[.slice a0 len0 cap0] w fun e w' => e = .returned (.bool true) ∧ Below w.heap.size w w' := by
  obtain ⟨rfl, hrow⟩ := w0
  have HR := Lib.hid hrow
  clear hrow
  by_cases hbig : 1048576 < z0.length
  · have HB : Hid (decide (1048576 < z0.length) = true) := Lib.hid (decide_eq_true hbig)
    go_enter Try.func3, Try.ntmps3
    go_wp2_with fail
    refine (big_any a0 z0.length cap0 _).mono ?_
    rintro e w1 ⟨rfl, rfl⟩
    rw [HB.out]
    go_wp2
    go_ret
    exact ⟨rfl, Below.refl _ _⟩
  · have HB : Hid (decide (1048576 < z0.length) = false) := Lib.hid (decide_eq_false hbig)
    have hl : z0.length ≤ 1048576 := by omega
    clear hbig
    go_enter Try.func3, Try.ntmps3
    go_wp2_with fail
    refine (big_any a0 z0.length cap0 _).mono ?_
    rintro e w1 ⟨rfl, rfl⟩
    rw [HB.out]
    go_wp2_with fail
    refine (drawED a0 cap0 z0 _ HR.out hl).mono ?_
    rintro e w1 ⟨a, b, ha, hb, rfl, bb⟩
    have D1 := Lib.hid bb
    clear bb
    obtain ⟨n, hn⟩ : ∃ n, dV false a b = n := ⟨_, rfl⟩
    obtain ⟨s, hs⟩ : ∃ n, dV true a b = n := ⟨_, rfl⟩
    have hsn := dV_swap a b
    rw [hn, hs] at hsn
    have nn : (n != n) = false := by simp
    have ss : (s != s) = false := by simp
    have HN := Lib.hid hn
    have HS := Lib.hid hs
    have HN2 : Hid (dV false b a = n) := Lib.hid (by rw [dV_comm, hn])
    clear hn hs
    go_wp2_with fail
    refine (implEditDistance a b _).mono ?_
    rintro e w2 ⟨rfl, bb⟩
    rw [HN.out]
    have D2 := Lib.hid (D1.out.trans (bb.mono D1.out.size))
    clear bb
    go_wp2_with fail
    refine (implSwapDistance a b _).mono ?_
    rintro e w3 ⟨rfl, bb⟩
    rw [HS.out]
    have D3 := Lib.hid (D2.out.trans (bb.mono D2.out.size))
    clear bb
    go_wp2_with fail
    refine (specEditDistance a b _).mono ?_
    rintro e w4 ⟨rfl, bb⟩
    rw [HN.out]
    have D4 := Lib.hid (D3.out.trans (bb.mono D3.out.size))
    clear bb
    go_wp2_with fail
    refine (specSwapDistance a b _).mono ?_
    rintro e w5 ⟨rfl, bb⟩
    rw [HS.out]
    have D5 := Lib.hid (D4.out.trans (bb.mono D4.out.size))
    clear bb
    go_wp2_with fail
    refine (implEditDistance b a _).mono ?_
    rintro e w6 ⟨rfl, bb⟩
    rw [HN2.out]
    have D6 := Lib.hid (D5.out.trans (bb.mono D5.out.size))
    clear bb
    obtain ⟨E, hE⟩ : ∃ E, score (dV false a b) ((max a.size b.size : Nat) : Int) = E := ⟨_, rfl⟩
    have HEE := Lib.hid hE
    have ee : (E != E) = false := by simp
    clear hE
    go_wp2_with fail
    refine (implEditScore a b _ (by omega) (by omega)).mono ?_
    rintro e w7 ⟨rfl, bb⟩
    rw [HEE.out]
    have D7 := Lib.hid (D6.out.trans (bb.mono D6.out.size))
    clear bb
    go_wp2_with fail
    refine (specEditScore a b _ (by omega) (by omega)).mono ?_
    rintro e w8 ⟨rfl, bb⟩
    rw [HEE.out]
    have D8 := Lib.hid (D7.out.trans (bb.mono D7.out.size))
    clear bb
    have hcase : (n = -1) ∨ (∃ N : Nat, n = (N : Int) ∧ a.size ≤ 40 ∧ b.size ≤ 40 ∧ N = ED a.data.toList b.data.toList) := by
      by_cases h : a.size ≤ 40 ∧ b.size ≤ 40
      · right; exact ⟨_, by rw [← HN.out, dV_ED h.1 h.2], h.1, h.2, rfl⟩
      · left; rw [← HN.out, dV_out h]
    have hcase2 : (n = -1) ∨ (∃ N : Nat, n = (N : Int) ∧ N ≤ 40 ∧ (Hid (a.size ≤ 40 ∧ b.size ≤ 40 ∧ N = ED a.data.toList b.data.toList)) ∧ ((((N : Int) == 0) = true ∧ (a.toList == b.toList) = true) ∨ (((N : Int) == 0) = false ∧ (a.toList == b.toList) = false)) ∧
        ∃ M m : Nat, max (a.size : Int) (b.size : Int) = (M : Int) ∧ min (a.size : Int) (b.size : Int) = (m : Int) ∧ N ≤ M ∧ m ≤ M ∧ M ≤ 40 ∧ M ≤ N + m) := by
      rcases hcase with h | ⟨N, h1, h2, h3, h4⟩
      · exact Or.inl h
      · obtain ⟨e1, e2, e3⟩ := ED_len a.data.toList b.data.toList
        rw [dlen, dlen, ← h4] at e1 e2 e3
        refine Or.inr ⟨N, h1, by omega, Lib.hid ⟨h2, h3, h4⟩, ?_, max a.size b.size, min a.size b.size, by omega, by omega, by omega, by omega, by omega, by omega⟩
        by_cases h0 : N = 0
        · left
          have := list_eq_of (ED_zero _ _ (h4.symm.trans h0))
          exact ⟨by rw [h0]; rfl, by rw [this]; simp⟩
        · right
          refine ⟨by rw [beq_eq_false_iff_ne]; omega, ?_⟩
          rw [beq_eq_false_iff_ne, toList_eq, toList_eq]
          intro he
          rw [he, ED_self] at h4
          exact h0 h4
    have HCS := Lib.hid hcase2
    clear hcase hcase2
    rcases HCS.out with hn1 | ⟨N, rfl, hN40, hinf, heq, M, m, hM, hm, l1, l2, l3, l4⟩
    · have x0 : ¬ (0 : Int) ≤ n := by omega
      clear hn1
      go_wp2_with fail
      refine (fresh_any a0 cap0 z0 _ (HR.out.below D8.out) hl).mono ?_
      rintro e w9 ⟨fb, fc, L, rfl, hL, hfr, bb⟩
      have D9 := Lib.hid (D8.out.trans (bb.mono D8.out.size))
      clear bb
      go_wp2_with fail
      refine (drawED fb fc L _ hfr (by omega)).mono ?_
      rintro e w10 ⟨c, c2, hc, hc2, rfl, bb⟩
      have D10 := Lib.hid (D9.out.trans (bb.mono D9.out.size))
      clear bb hfr
      go_wp2_with fail
      refine (drawEW a0 cap0 z0 _ (HR.out.below D10.out) hl).mono ?_
      rintro e v1 ⟨x, y, lim, rfl, bb⟩
      have F1 := Lib.hid (D10.out.trans (bb.mono D10.out.size))
      clear bb
      obtain ⟨W, hW⟩ : ∃ W, within (dV false x y) lim = W := ⟨_, rfl⟩
      have HW := Lib.hid hW
      have ww : (W != W) = false := by simp
      clear hW
      go_wp2_with fail
      refine (implEditWithin x y lim _).mono ?_
      rintro e v2 ⟨rfl, bb⟩
      rw [HW.out]
      have F2 := Lib.hid (F1.out.trans (bb.mono F1.out.size))
      clear bb
      go_wp2_with fail
      refine (specEditWithin x y lim _).mono ?_
      rintro e v3 ⟨rfl, bb⟩
      rw [HW.out]
      have F3 := Lib.hid (F2.out.trans (bb.mono F2.out.size))
      clear bb ww
      go_wp2_with fail
      refine (drawES a0 cap0 z0 _ (HR.out.below F3.out) hl).mono ?_
      rintro e v4 ⟨u, v, hu, hv, rfl, bb⟩
      have F4 := Lib.hid (F3.out.trans (bb.mono F3.out.size))
      clear bb
      have u40 := isText_40 hu
      have v40 := isText_40 hv
      obtain ⟨ap1, ap2⟩ := appO_scrip u v
      have hT : bstr (escr u v) = bstr (scrip u.data.toList v.data.toList) := by rw [escr_yes hu hv]
      have hcs := cst_scrip u.data.toList v.data.toList
      have hsl := scrip_len u.data.toList v.data.toList
      rw [dlen, dlen] at hsl
      have hdv := dV_ED u40 v40
      rw [← hcs] at hdv
      obtain ⟨T, hTT⟩ : ∃ T, bstr (scrip u.data.toList v.data.toList) = T := ⟨_, rfl⟩
      have hTl : scrip u.data.toList v.data.toList = T.data.toList := by rw [← hTT, bstr_list]
      rw [hTT] at ap1 ap2 hT
      rw [hTl] at hdv hsl
      rw [dlen] at hsl
      have hcle := cst_le false T.data.toList
      rw [dlen] at hcle
      have AP1 := Lib.hid ap1
      have AP2 := Lib.hid ap2
      have HTT := Lib.hid hT
      have HDV := Lib.hid hdv
      have tt : (T.toList == T.toList) = true := by simp
      have vv : (v.toList == v.toList) = true := by simp
      clear ap1 ap2 hT hdv hcs hTT hTl hu hv
      go_wp2_with fail
      refine (implScript u v _ (by omega) (by omega)).mono ?_
      rintro e v5 ⟨rfl, bb⟩
      rw [HTT.out]
      have F5 := Lib.hid (F4.out.trans (bb.mono F4.out.size))
      clear bb
      go_wp2_with fail
      refine (implApplyScript u T _ (by omega) (by omega)).mono ?_
      rintro e v6 ⟨rfl, bb⟩
      rw [AP1.out, AP2.out]
      have F6 := Lib.hid (F5.out.trans (bb.mono F5.out.size))
      clear bb
      go_wp2
      go_loopw [17, 18] (fun q i wr => ∃ k cc : Nat, k ≤ T.size + 1 ∧ i = .int .i64 k ∧ q = .int .i64 cc ∧ cc + cst false (T.data.toList.drop k) = cst false T.data.toList ∧ wr = v6) (fun _ i _ => T.size + 1 - (intOf i).toNat)
      case atStart => exact ⟨0, 0, Nat.zero_le _, rfl, rfl, by rw [List.drop_zero, Nat.zero_add], rfl⟩
      case round =>
        obtain ⟨k, cc, hk, rfl, rfl, hinv, rfl⟩ := hrel
        by_cases hlt : k < T.size
        · have hdr := drop_cons T k hlt
          rw [hdr] at hinv
          have k1 : (k : Int) < (T.size : Int) := by omega
          obtain ⟨x, hx⟩ : ∃ x, x = T[k] := ⟨_, rfl⟩
          rw [← hx] at hinv
          by_cases e1 : x = 126 ∨ x = 43
          · rw [cst_put e1, cst_true_drop] at hinv
            have INV : Hid (cc + 1 + cst false (T.data.toList.drop (k + 2)) = cst false T.data.toList) := Lib.hid (by rw [show k + 1 + 1 = k + 2 from rfl] at hinv; omega)
            have cb : cc ≤ 200 := by omega
            clear hinv hdr
            rcases e1 with e1 | e1
            · have f1 : ((T[k].toNat : Int) == 126) = true := by rw [← hx, e1]; rfl
              clear hx e1
              go_wp2
              go_roundw
              case rel => exact ⟨k + 2, cc + 1, by omega, by go_num, by go_num, INV.out, by trivial⟩
              case measure => simp [intOf]; omega
            · have f0 : ((T[k].toNat : Int) == 126) = false := by rw [← hx, e1]; rfl
              have f1 : ((T[k].toNat : Int) == 43) = true := by rw [← hx, e1]; rfl
              clear hx e1
              go_wp2
              go_roundw
              case rel => exact ⟨k + 2, cc + 1, by omega, by go_num, by go_num, INV.out, by trivial⟩
              case measure => simp [intOf]; omega
          · have g1 : x ≠ 126 := fun h => e1 (Or.inl h)
            have g2 : x ≠ 43 := fun h => e1 (Or.inr h)
            have ne : ∀ d : UInt8, x ≠ d → ((T[k].toNat : Int) == (d.toNat : Int)) = false := by
              intro d hd
              rw [← hx, beq_eq_false_iff_ne]
              intro h
              exact hd (UInt8.toNat_inj.1 (by omega))
            have f0 : ((T[k].toNat : Int) == 126) = false := ne 126 g1
            have f1 : ((T[k].toNat : Int) == 43) = false := ne 43 g2
            by_cases e2 : x = 45
            · have f2 : ((T[k].toNat : Int) == 45) = true := by rw [← hx, e2]; rfl
              rw [e2, cst_del] at hinv
              have INV : Hid (cc + 1 + cst false (T.data.toList.drop (k + 1)) = cst false T.data.toList) := Lib.hid (by omega)
              have cb : cc ≤ 200 := by omega
              clear hinv hdr hx e1 e2 g1 g2 ne
              go_wp2
              go_roundw
              case rel => exact ⟨k + 1, cc + 1, by omega, by go_num, by go_num, INV.out, by trivial⟩
              case measure => simp [intOf]; omega
            · have f2 : ((T[k].toNat : Int) == 45) = false := ne 45 e2
              rw [cst_other e1 e2] at hinv
              have INV := Lib.hid hinv
              clear hinv hdr hx e1 e2 g1 g2 ne
              go_wp2
              go_roundw
              case rel => exact ⟨k + 1, cc, by omega, by go_num, by go_num, INV.out, by trivial⟩
              case measure => simp [intOf]; omega
        · have k1 : ¬ (k : Int) < (T.size : Int) := by omega
          rw [List.drop_eq_nil_of_le (by rw [dlen]; omega)] at hinv
          have hc0 : cst false ([] : List UInt8) = 0 := by simp [cst]
          rw [hc0, Nat.add_zero] at hinv
          have HDV2 : Hid (dV false u v = (cc : Int)) := Lib.hid (by rw [HDV.out, hinv])
          have cq : ((cc : Int) == (cc : Int)) = true := by simp
          clear hinv hc0
          go_wp2_with fail
          refine (specScript u v _ (by omega) (by omega)).mono ?_
          rintro e v7 ⟨rfl, bb⟩
          rw [HTT.out]
          have F7 := Lib.hid (F6.out.trans (bb.mono F6.out.size))
          clear bb
          go_wp2_with fail
          refine (specEditDistance u v _).mono ?_
          rintro e v8 ⟨rfl, bb⟩
          rw [HDV2.out]
          have F8 := Lib.hid (F7.out.trans (bb.mono F7.out.size))
          clear bb
          go_wp2
          go_ret
          exact ⟨rfl, F8.out⟩
    · rcases heq with ⟨q1, q2⟩ | ⟨q1, q2⟩
      all_goals
        have x1 : ¬ (M : Int) < (N : Int) := by omega
        have x2 : ¬ (N : Int) < (M : Int) - (m : Int) := by omega
        go_wp2_with fail
        refine (fresh_any a0 cap0 z0 _ (HR.out.below D8.out) hl).mono ?_
        rintro e w9 ⟨fb, fc, L, rfl, hL, hfr, bb⟩
        have D9 := Lib.hid (D8.out.trans (bb.mono D8.out.size))
        clear bb q1 q2 hM hm x1 x2
        go_wp2_with fail
        refine (drawED fb fc L _ hfr (by omega)).mono ?_
        rintro e w10 ⟨c, c2, hc, hc2, rfl, bb⟩
        have D10 := Lib.hid (D9.out.trans (bb.mono D9.out.size))
        clear bb hfr
        by_cases hc40 : c.size ≤ 40
        · obtain ⟨P, hP, Q, hQ, hPQ, hP4, hQ4⟩ : ∃ P : Nat, dV false a c = (P : Int) ∧ ∃ Q : Nat, dV false c b = (Q : Int) ∧ N ≤ P + Q ∧ P ≤ 40 ∧ Q ≤ 40 := by
            obtain ⟨g1, g2, g3⟩ := hinf.out
            refine ⟨_, dV_ED g1 hc40, _, dV_ED hc40 g2, by rw [g3]; exact ED_tri _ _ _, ?_, ?_⟩
            · have := (ED_len a.data.toList c.data.toList).2.2; rw [dlen, dlen] at this; omega
            · have := (ED_len c.data.toList b.data.toList).2.2; rw [dlen, dlen] at this; omega
          have HP := Lib.hid hP
          have HQ := Lib.hid hQ
          have x3 : ¬ (P : Int) + (Q : Int) < (N : Int) := by omega
          have x4 : (c.size : Int) ≤ 40 := by omega
          clear hP hQ hPQ
          go_wp2_with fail
          refine (implEditDistance a c _).mono ?_
          rintro e w11 ⟨rfl, bb⟩
          rw [HP.out]
          have D11 := Lib.hid (D10.out.trans (bb.mono D10.out.size))
          clear bb
          go_wp2_with fail
          refine (implEditDistance c b _).mono ?_
          rintro e w12 ⟨rfl, bb⟩
          rw [HQ.out]
          have D12 := Lib.hid (D11.out.trans (bb.mono D11.out.size))
          clear bb
          go_wp2_with fail
          refine (drawEW a0 cap0 z0 _ (HR.out.below D12.out) hl).mono ?_
          rintro e v1 ⟨x, y, lim, rfl, bb⟩
          have F1 := Lib.hid (D12.out.trans (bb.mono D12.out.size))
          clear bb
          obtain ⟨W, hW⟩ : ∃ W, within (dV false x y) lim = W := ⟨_, rfl⟩
          have HW := Lib.hid hW
          have ww : (W != W) = false := by simp
          clear hW
          go_wp2_with fail
          refine (implEditWithin x y lim _).mono ?_
          rintro e v2 ⟨rfl, bb⟩
          rw [HW.out]
          have F2 := Lib.hid (F1.out.trans (bb.mono F1.out.size))
          clear bb
          go_wp2_with fail
          refine (specEditWithin x y lim _).mono ?_
          rintro e v3 ⟨rfl, bb⟩
          rw [HW.out]
          have F3 := Lib.hid (F2.out.trans (bb.mono F2.out.size))
          clear bb ww
          go_wp2_with fail
          refine (drawES a0 cap0 z0 _ (HR.out.below F3.out) hl).mono ?_
          rintro e v4 ⟨u, v, hu, hv, rfl, bb⟩
          have F4 := Lib.hid (F3.out.trans (bb.mono F3.out.size))
          clear bb
          have u40 := isText_40 hu
          have v40 := isText_40 hv
          obtain ⟨ap1, ap2⟩ := appO_scrip u v
          have hT : bstr (escr u v) = bstr (scrip u.data.toList v.data.toList) := by rw [escr_yes hu hv]
          have hcs := cst_scrip u.data.toList v.data.toList
          have hsl := scrip_len u.data.toList v.data.toList
          rw [dlen, dlen] at hsl
          have hdv := dV_ED u40 v40
          rw [← hcs] at hdv
          obtain ⟨T, hTT⟩ : ∃ T, bstr (scrip u.data.toList v.data.toList) = T := ⟨_, rfl⟩
          have hTl : scrip u.data.toList v.data.toList = T.data.toList := by rw [← hTT, bstr_list]
          rw [hTT] at ap1 ap2 hT
          rw [hTl] at hdv hsl
          rw [dlen] at hsl
          have hcle := cst_le false T.data.toList
          rw [dlen] at hcle
          have AP1 := Lib.hid ap1
          have AP2 := Lib.hid ap2
          have HTT := Lib.hid hT
          have HDV := Lib.hid hdv
          have tt : (T.toList == T.toList) = true := by simp
          have vv : (v.toList == v.toList) = true := by simp
          clear ap1 ap2 hT hdv hcs hTT hTl hu hv
          go_wp2_with fail
          refine (implScript u v _ (by omega) (by omega)).mono ?_
          rintro e v5 ⟨rfl, bb⟩
          rw [HTT.out]
          have F5 := Lib.hid (F4.out.trans (bb.mono F4.out.size))
          clear bb
          go_wp2_with fail
          refine (implApplyScript u T _ (by omega) (by omega)).mono ?_
          rintro e v6 ⟨rfl, bb⟩
          rw [AP1.out, AP2.out]
          have F6 := Lib.hid (F5.out.trans (bb.mono F5.out.size))
          clear bb
          go_wp2
          go_loopw [17, 18] (fun q i wr => ∃ k cc : Nat, k ≤ T.size + 1 ∧ i = .int .i64 k ∧ q = .int .i64 cc ∧ cc + cst false (T.data.toList.drop k) = cst false T.data.toList ∧ wr = v6) (fun _ i _ => T.size + 1 - (intOf i).toNat)
          case atStart => exact ⟨0, 0, Nat.zero_le _, rfl, rfl, by rw [List.drop_zero, Nat.zero_add], rfl⟩
          case round =>
            obtain ⟨k, cc, hk, rfl, rfl, hinv, rfl⟩ := hrel
            by_cases hlt : k < T.size
            · have hdr := drop_cons T k hlt
              rw [hdr] at hinv
              have k1 : (k : Int) < (T.size : Int) := by omega
              obtain ⟨x, hx⟩ : ∃ x, x = T[k] := ⟨_, rfl⟩
              rw [← hx] at hinv
              by_cases e1 : x = 126 ∨ x = 43
              · rw [cst_put e1, cst_true_drop] at hinv
                have INV : Hid (cc + 1 + cst false (T.data.toList.drop (k + 2)) = cst false T.data.toList) := Lib.hid (by rw [show k + 1 + 1 = k + 2 from rfl] at hinv; omega)
                have cb : cc ≤ 200 := by omega
                clear hinv hdr
                rcases e1 with e1 | e1
                · have f1 : ((T[k].toNat : Int) == 126) = true := by rw [← hx, e1]; rfl
                  clear hx e1
                  go_wp2
                  go_roundw
                  case rel => exact ⟨k + 2, cc + 1, by omega, by go_num, by go_num, INV.out, by trivial⟩
                  case measure => simp [intOf]; omega
                · have f0 : ((T[k].toNat : Int) == 126) = false := by rw [← hx, e1]; rfl
                  have f1 : ((T[k].toNat : Int) == 43) = true := by rw [← hx, e1]; rfl
                  clear hx e1
                  go_wp2
                  go_roundw
                  case rel => exact ⟨k + 2, cc + 1, by omega, by go_num, by go_num, INV.out, by trivial⟩
                  case measure => simp [intOf]; omega
              · have g1 : x ≠ 126 := fun h => e1 (Or.inl h)
                have g2 : x ≠ 43 := fun h => e1 (Or.inr h)
                have ne : ∀ d : UInt8, x ≠ d → ((T[k].toNat : Int) == (d.toNat : Int)) = false := by
                  intro d hd
                  rw [← hx, beq_eq_false_iff_ne]
                  intro h
                  exact hd (UInt8.toNat_inj.1 (by omega))
                have f0 : ((T[k].toNat : Int) == 126) = false := ne 126 g1
                have f1 : ((T[k].toNat : Int) == 43) = false := ne 43 g2
                by_cases e2 : x = 45
                · have f2 : ((T[k].toNat : Int) == 45) = true := by rw [← hx, e2]; rfl
                  rw [e2, cst_del] at hinv
                  have INV : Hid (cc + 1 + cst false (T.data.toList.drop (k + 1)) = cst false T.data.toList) := Lib.hid (by omega)
                  have cb : cc ≤ 200 := by omega
                  clear hinv hdr hx e1 e2 g1 g2 ne
                  go_wp2
                  go_roundw
                  case rel => exact ⟨k + 1, cc + 1, by omega, by go_num, by go_num, INV.out, by trivial⟩
                  case measure => simp [intOf]; omega
                · have f2 : ((T[k].toNat : Int) == 45) = false := ne 45 e2
                  rw [cst_other e1 e2] at hinv
                  have INV := Lib.hid hinv
                  clear hinv hdr hx e1 e2 g1 g2 ne
                  go_wp2
                  go_roundw
                  case rel => exact ⟨k + 1, cc, by omega, by go_num, by go_num, INV.out, by trivial⟩
                  case measure => simp [intOf]; omega
            · have k1 : ¬ (k : Int) < (T.size : Int) := by omega
              rw [List.drop_eq_nil_of_le (by rw [dlen]; omega)] at hinv
              have hc0 : cst false ([] : List UInt8) = 0 := by simp [cst]
              rw [hc0, Nat.add_zero] at hinv
              have HDV2 : Hid (dV false u v = (cc : Int)) := Lib.hid (by rw [HDV.out, hinv])
              have cq : ((cc : Int) == (cc : Int)) = true := by simp
              clear hinv hc0
              go_wp2_with fail
              refine (specScript u v _ (by omega) (by omega)).mono ?_
              rintro e v7 ⟨rfl, bb⟩
              rw [HTT.out]
              have F7 := Lib.hid (F6.out.trans (bb.mono F6.out.size))
              clear bb
              go_wp2_with fail
              refine (specEditDistance u v _).mono ?_
              rintro e v8 ⟨rfl, bb⟩
              rw [HDV2.out]
              have F8 := Lib.hid (F7.out.trans (bb.mono F7.out.size))
              clear bb
              go_wp2
              go_ret
              exact ⟨rfl, F8.out⟩
        · have x4 : ¬ (c.size : Int) ≤ 40 := by omega
          go_wp2_with fail
          refine (drawEW a0 cap0 z0 _ (HR.out.below D10.out) hl).mono ?_
          rintro e v1 ⟨x, y, lim, rfl, bb⟩
          have F1 := Lib.hid (D10.out.trans (bb.mono D10.out.size))
          clear bb
          obtain ⟨W, hW⟩ : ∃ W, within (dV false x y) lim = W := ⟨_, rfl⟩
          have HW := Lib.hid hW
          have ww : (W != W) = false := by simp
          clear hW
          go_wp2_with fail
          refine (implEditWithin x y lim _).mono ?_
          rintro e v2 ⟨rfl, bb⟩
          rw [HW.out]
          have F2 := Lib.hid (F1.out.trans (bb.mono F1.out.size))
          clear bb
          go_wp2_with fail
          refine (specEditWithin x y lim _).mono ?_
          rintro e v3 ⟨rfl, bb⟩
          rw [HW.out]
          have F3 := Lib.hid (F2.out.trans (bb.mono F2.out.size))
          clear bb ww
          go_wp2_with fail
          refine (drawES a0 cap0 z0 _ (HR.out.below F3.out) hl).mono ?_
          rintro e v4 ⟨u, v, hu, hv, rfl, bb⟩
          have F4 := Lib.hid (F3.out.trans (bb.mono F3.out.size))
          clear bb
          have u40 := isText_40 hu
          have v40 := isText_40 hv
          obtain ⟨ap1, ap2⟩ := appO_scrip u v
          have hT : bstr (escr u v) = bstr (scrip u.data.toList v.data.toList) := by rw [escr_yes hu hv]
          have hcs := cst_scrip u.data.toList v.data.toList
          have hsl := scrip_len u.data.toList v.data.toList
          rw [dlen, dlen] at hsl
          have hdv := dV_ED u40 v40
          rw [← hcs] at hdv
          obtain ⟨T, hTT⟩ : ∃ T, bstr (scrip u.data.toList v.data.toList) = T := ⟨_, rfl⟩
          have hTl : scrip u.data.toList v.data.toList = T.data.toList := by rw [← hTT, bstr_list]
          rw [hTT] at ap1 ap2 hT
          rw [hTl] at hdv hsl
          rw [dlen] at hsl
          have hcle := cst_le false T.data.toList
          rw [dlen] at hcle
          have AP1 := Lib.hid ap1
          have AP2 := Lib.hid ap2
          have HTT := Lib.hid hT
          have HDV := Lib.hid hdv
          have tt : (T.toList == T.toList) = true := by simp
          have vv : (v.toList == v.toList) = true := by simp
          clear ap1 ap2 hT hdv hcs hTT hTl hu hv
          go_wp2_with fail
          refine (implScript u v _ (by omega) (by omega)).mono ?_
          rintro e v5 ⟨rfl, bb⟩
          rw [HTT.out]
          have F5 := Lib.hid (F4.out.trans (bb.mono F4.out.size))
          clear bb
          go_wp2_with fail
          refine (implApplyScript u T _ (by omega) (by omega)).mono ?_
          rintro e v6 ⟨rfl, bb⟩
          rw [AP1.out, AP2.out]
          have F6 := Lib.hid (F5.out.trans (bb.mono F5.out.size))
          clear bb
          go_wp2
          go_loopw [17, 18] (fun q i wr => ∃ k cc : Nat, k ≤ T.size + 1 ∧ i = .int .i64 k ∧ q = .int .i64 cc ∧ cc + cst false (T.data.toList.drop k) = cst false T.data.toList ∧ wr = v6) (fun _ i _ => T.size + 1 - (intOf i).toNat)
          case atStart => exact ⟨0, 0, Nat.zero_le _, rfl, rfl, by rw [List.drop_zero, Nat.zero_add], rfl⟩
          case round =>
            obtain ⟨k, cc, hk, rfl, rfl, hinv, rfl⟩ := hrel
            by_cases hlt : k < T.size
            · have hdr := drop_cons T k hlt
              rw [hdr] at hinv
              have k1 : (k : Int) < (T.size : Int) := by omega
              obtain ⟨x, hx⟩ : ∃ x, x = T[k] := ⟨_, rfl⟩
              rw [← hx] at hinv
              by_cases e1 : x = 126 ∨ x = 43
              · rw [cst_put e1, cst_true_drop] at hinv
                have INV : Hid (cc + 1 + cst false (T.data.toList.drop (k + 2)) = cst false T.data.toList) := Lib.hid (by rw [show k + 1 + 1 = k + 2 from rfl] at hinv; omega)
                have cb : cc ≤ 200 := by omega
                clear hinv hdr
                rcases e1 with e1 | e1
                · have f1 : ((T[k].toNat : Int) == 126) = true := by rw [← hx, e1]; rfl
                  clear hx e1
                  go_wp2
                  go_roundw
                  case rel => exact ⟨k + 2, cc + 1, by omega, by go_num, by go_num, INV.out, by trivial⟩
                  case measure => simp [intOf]; omega
                · have f0 : ((T[k].toNat : Int) == 126) = false := by rw [← hx, e1]; rfl
                  have f1 : ((T[k].toNat : Int) == 43) = true := by rw [← hx, e1]; rfl
                  clear hx e1
                  go_wp2
                  go_roundw
                  case rel => exact ⟨k + 2, cc + 1, by omega, by go_num, by go_num, INV.out, by trivial⟩
                  case measure => simp [intOf]; omega
              · have g1 : x ≠ 126 := fun h => e1 (Or.inl h)
                have g2 : x ≠ 43 := fun h => e1 (Or.inr h)
                have ne : ∀ d : UInt8, x ≠ d → ((T[k].toNat : Int) == (d.toNat : Int)) = false := by
                  intro d hd
                  rw [← hx, beq_eq_false_iff_ne]
                  intro h
                  exact hd (UInt8.toNat_inj.1 (by omega))
                have f0 : ((T[k].toNat : Int) == 126) = false := ne 126 g1
                have f1 : ((T[k].toNat : Int) == 43) = false := ne 43 g2
                by_cases e2 : x = 45
                · have f2 : ((T[k].toNat : Int) == 45) = true := by rw [← hx, e2]; rfl
                  rw [e2, cst_del] at hinv
                  have INV : Hid (cc + 1 + cst false (T.data.toList.drop (k + 1)) = cst false T.data.toList) := Lib.hid (by omega)
                  have cb : cc ≤ 200 := by omega
                  clear hinv hdr hx e1 e2 g1 g2 ne
                  go_wp2
                  go_roundw
                  case rel => exact ⟨k + 1, cc + 1, by omega, by go_num, by go_num, INV.out, by trivial⟩
                  case measure => simp [intOf]; omega
                · have f2 : ((T[k].toNat : Int) == 45) = false := ne 45 e2
                  rw [cst_other e1 e2] at hinv
                  have INV := Lib.hid hinv
                  clear hinv hdr hx e1 e2 g1 g2 ne
                  go_wp2
                  go_roundw
                  case rel => exact ⟨k + 1, cc, by omega, by go_num, by go_num, INV.out, by trivial⟩
                  case measure => simp [intOf]; omega
            · have k1 : ¬ (k : Int) < (T.size : Int) := by omega
              rw [List.drop_eq_nil_of_le (by rw [dlen]; omega)] at hinv
              have hc0 : cst false ([] : List UInt8) = 0 := by simp [cst]
              rw [hc0, Nat.add_zero] at hinv
              have HDV2 : Hid (dV false u v = (cc : Int)) := Lib.hid (by rw [HDV.out, hinv])
              have cq : ((cc : Int) == (cc : Int)) = true := by simp
              clear hinv hc0
              go_wp2_with fail
              refine (specScript u v _ (by omega) (by omega)).mono ?_
              rintro e v7 ⟨rfl, bb⟩
              rw [HTT.out]
              have F7 := Lib.hid (F6.out.trans (bb.mono F6.out.size))
              clear bb
              go_wp2_with fail
              refine (specEditDistance u v _).mono ?_
              rintro e v8 ⟨rfl, bb⟩
              rw [HDV2.out]
              have F8 := Lib.hid (F7.out.trans (bb.mono F7.out.size))
              clear bb
              go_wp2
              go_ret
              exact ⟨rfl, F8.out⟩
set_option maxRecDepth 100000 in
theorem fnEdits_lifted (os : Os) (started : os.Started) (H : Type) (enc : TypeId × Value → H) :
    ReturnsInHanded {} Try.checked os 3 .any (Rows.fnEditsSpec.pre6 enc Try.prog Try.f3 Rows.fnEditsRow.domain false) (Rows.fnEditsSpec.post enc Try.prog Try.f3 false true false false) := by
  refine returnsInHanded_of_change (C := Try.checked) own started (by kernel_rfl) Try.func3
    (ChangeSpec.witness6 (enc := enc) (C := Try.checked) false ⟨#[], #[.slice none 0 0], []⟩ 8 (by kernel_rfl) (by kernel_rfl) (by kernel_rfl) (by kernel_rfl)) ?_
  intro W base args ds gs before hval0 hW hcnd hsz
  have hval : ∀ (j : Nat) t v, Try.f3.params[j]? = some t → args[j]? = some v → Value.okWide Try.prog W .any base t v := hval0
  have hW' := hW
  obtain ⟨p, q, hA0, hV, rfl, hfz, hnd⟩ := hW
  have hA : DataW.TrodAll enc Try.prog W 0 (fun _ => true) true Try.f3.params.toList args.toList ds p := hA0
  rw [Try.params3] at hA hval
  obtain ⟨v0, vs0, d0, ds0, p0, q0, hargs, rfl, rfl, h0, r0⟩ := trodAll_cons hA
  obtain ⟨rfl, rfl, rfl⟩ := trodAll_nil r0
  obtain rfl : args = #[v0] := by cases args; simp_all
  obtain ⟨rfl, rfl⟩ := trodVars_none hV
  obtain ⟨a0, len0, cap0, rfl⟩ := okWide_slice Try.underlying22 (hval 0 22 v0 rfl rfl)
  have k0 := h0
  have lt0 : ∀ x ∈ p0, x.block < W.heap.size := by obtain ⟨m, hm⟩ := k0; exact DataW.trod_lt m _ _ _ hm
  obtain ⟨z0, w0⟩ := open_bytes_is Try.underlying22 Try.underlying5 (by kernel_rfl) h0
  clear hA0 hval0
  refine (fnEdits_walk (w := W) a0 len0 cap0 z0 w0).mono fun e W' ⟨he, bel⟩ => ?_
  subst he
  exact ⟨_, rfl, _, _, _, [], _, [], hW', trodAll_mk1 (shut_bool Try.underlying4 _), (trodAll_cons_mk (Below.trod laidOut (by kernel_rfl) (of_decide_eq_true (by kernel_rfl)) k0 bel lt0) trodAll_mk0), rfl, bel.frame _, fun h => by cases h⟩

theorem fnEdits_over : Rows.fnEditsRow.holds Try.pinned (OpenSpec.ofChange Rows.fnEditsSpec) :=
  OpenClaim.holds_of_wide 3 Try.f3 rfl rfl rfl rfl rfl rfl rfl ⟨rfl, rfl, rfl, rfl, rfl⟩ rfl rfl rfl rfl rfl (by kernel_rfl) Try.func3 (by kernel_rfl)
    (of_decide_eq_true (by kernel_rfl)) (by unfold Func.isWrapper; first | (rw [if_pos (by decide +kernel)]; kernel_rfl) | (rw [if_neg (by decide +kernel)]; exact ⟨rfl, rfl⟩))
    (fun os started H enc _ => fnEdits_lifted os started H enc)

theorem fnEdits_holds : Rows.FnEditsSaid := fnEdits_over
#print axioms fnEdits_holds
end Go.Proofs.Ytoijjielnbcphaa

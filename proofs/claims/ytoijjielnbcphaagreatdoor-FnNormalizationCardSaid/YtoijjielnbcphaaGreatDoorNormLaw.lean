/-
  What FnNormalization needs: the plain laws (the tokens of a text do not depend on the order of its words; tokens are a token set) and the walks of its draws. Condition: the code has at most 2^20 bytes.
-/
import Derived.Test.YtoijjielnbcphaaGreatDoorToks
import Derived.Test.YtoijjielnbcphaaGreatDoorGrams
import Derived.Test.YtoijjielnbcphaaGreatDoorIni
import Derived.Test.YtoijjielnbcphaaGreatDoorDraw3
import Derived.Test.YtoijjielnbcphaaGreatDoorGreat
import Derived.Test.YtoijjielnbcphaaGreatDoorTokset
import Derived.Test.YtoijjielnbcphaaGreatDoorComG
import Derived.Test.YtoijjielnbcphaaGreatDoorIsText
import Derived.Test.YtoijjielnbcphaaGreatDoorCollapse
import Derived.Test.YtoijjielnbcphaaGreatDoorStrs
namespace Go.Proofs.YtoijjielnbcphaaGreatDoor
open Go.RowKit Go.Sort
set_option linter.unusedVariables false
set_option linter.unusedSimpArgs false
set_option maxRecDepth 100000
theorem bstr_addM (a b : List UInt8) : bstr a ++ bstr b = bstr (a ++ b) := by apply ByteArray.ext; simp [bstr]
/-- The words, a blank ahead of each. -/
def sp (ws : List ByteArray) : List UInt8 := ws.flatMap fun x => 32 :: x.data.toList
theorem sp_snoc (ws : List ByteArray) (x : ByteArray) : sp (ws ++ [x]) = sp ws ++ (32 :: x.data.toList) := by unfold sp; rw [List.flatMap_append]; simp
theorem sp_cons (x : ByteArray) (ws : List ByteArray) : sp (x :: ws) = 32 :: (x.data.toList ++ sp ws) := by unfold sp; rw [List.flatMap_cons]; rfl
theorem sp_len {ws : List ByteArray} (h : ∀ x ∈ ws, x.size ≤ 100) : (sp ws).length ≤ 101 * ws.length := by
  induction ws with
  | nil => simp [sp]
  | cons x ws ih =>
    have h1 := ih fun y hy => h y (.tail _ hy)
    have h2 := h x (.head _)
    rw [sp_cons, List.length_cons, List.length_append, dlen, List.length_cons]
    omega
theorem fl_spw : ∀ (ws : List ByteArray) (cur : List UInt8), cur ≠ [] → (∀ x ∈ ws, Word x.data.toList) → fl cur (sp ws) = cur :: ws.map bs
  | [], cur, hc, _ => by rw [show sp [] = [] from rfl, fl_end hc]; rfl
  | x :: ws, cur, hc, h => by
    obtain ⟨h1, h2⟩ := h x (.head _)
    rw [sp_cons, fl_stop hc, fl_append _ h2, List.nil_append, fl_spw ws _ h1 fun y hy => h y (.tail _ hy)]
    rfl
theorem flds_sp {ws : List ByteArray} (h : ∀ x ∈ ws, Word x.data.toList) : flds (sp ws) = ws.map bs := by
  cases ws with
  | nil => rfl
  | cons x ws =>
    obtain ⟨h1, h2⟩ := h x (.head _)
    unfold flds
    rw [sp_cons, fl_sp, fl_append _ h2, List.nil_append, fl_spw ws _ h1 fun y hy => h y (.tail _ hy)]
    rfl
theorem tok_mem {s x : ByteArray} (h : x ∈ toksL s) : Word x.data.toList ∧ ∀ c ∈ x.data.toList, c ∈ norm s.data.toList := by
  have hm : bs x ∈ (toksL s).map bs := List.mem_map_of_mem h
  unfold toksL at hm
  rw [ssL_bs, mem_sset, map_bs_bstr] at hm
  exact ⟨flds_word _ _ hm, fun c hc => flds_mem hm hc⟩
theorem tok_aln {s x : ByteArray} (h : x ∈ toksL s) : ∀ c ∈ x.data.toList, aln c = true := by
  intro c hc
  obtain ⟨h1, h2⟩ := tok_mem h
  have h3 := norm_ok _ _ (h2 c hc)
  have h4 := h1.2 c hc
  unfold ok2 at h3
  rcases Bool.or_eq_true _ _ |>.mp h3 with h5 | h5
  · exact h5
  · exact absurd (beq_iff_eq.1 h5) h4
theorem toks_sp {s : ByteArray} {ws : List ByteArray} (h : ∀ x, x ∈ ws ↔ x ∈ toksL s) : toksL (bstr (sp ws)) = toksL s := by
  have hw : ∀ x ∈ ws, Word x.data.toList := fun x hx => (tok_mem ((h x).1 hx)).1
  have hok : ∀ c ∈ sp ws, ok2 c = true := by
    intro c hc
    unfold sp at hc
    rw [List.mem_flatMap] at hc
    obtain ⟨x, hx, hc⟩ := hc
    unfold ok2
    rcases List.mem_cons.1 hc with rfl | hc
    · rfl
    · rw [tok_aln ((h x).1 hx) c hc]; rfl
  have e1 : toksL (bstr (sp ws)) = ssL ws := by
    show ssL ((flds (norm (bstr (sp ws)).data.toList)).map bstr) = ssL ws
    rw [bstr_list, flds_norm, fold_ok2 hok, strip_ok2 hok, flds_sp hw, List.map_map]
    congr 1
    conv => rhs; rw [← List.map_id ws]
    apply List.map_congr_left
    intro x _
    exact bstr_bs x
  rw [e1]
  have hu : Up ((toksL s).map bs) := by unfold toksL; rw [ssL_bs]; exact up_sset _
  have e2 : sset (ws.map bs) = (toksL s).map bs := by
    refine Up.unique (up_sset _) hu fun x => ?_
    rw [mem_sset, List.mem_map, List.mem_map]
    constructor
    · rintro ⟨y, hy, e⟩; exact ⟨y, (h y).1 hy, e⟩
    · rintro ⟨y, hy, e⟩; exact ⟨y, (h y).2 hy, e⟩
  unfold ssL
  rw [e2, List.map_map]
  conv => rhs; rw [← List.map_id (toksL s)]
  apply List.map_congr_left
  intro x _
  exact bstr_bs x
theorem toks_norm (s : ByteArray) : toksL (bstr (norm s.data.toList)) = toksL s := by
  unfold toksL; rw [bstr_list, norm_norm]
theorem tset_ofUp {l : List ByteArray} (hu : Up (l.map bs)) (hx : ∀ x ∈ l, ¬ x.size = 0 ∧ alnum x = true) : tset l = true := by
  refine tset_yes fun k hk => ?_
  obtain ⟨h1, h2⟩ := hx l[k] (List.getElem_mem _)
  refine tok_yes hk (by omega) h1 h2 ?_
  by_cases h0 : k = 0
  · exact Or.inl h0
  · right
    rw [less_bs, decide_eq_true_iff]
    have := List.pairwise_iff_getElem.1 hu (k - 1) k (by simp; omega) (by simpa using hk) (by omega)
    simpa using this
theorem toks_tset (s : ByteArray) : tset (toksL s) = true := by
  refine tset_ofUp ?_ ?_
  · unfold toksL; rw [ssL_bs]; exact up_sset _
  · intro x hx
    refine ⟨fun h0 => (tok_mem hx).1.1 ?_, ?_⟩
    · have := dlen x; rw [h0] at this; exact List.eq_nil_of_length_eq_zero this
    · unfold alnum; exact List.all_eq_true.2 (tok_aln hx)
theorem toksL_le (s : ByteArray) : (toksL s).length ≤ s.size := by
  unfold toksL
  refine Nat.le_trans (ssL_len _) ?_
  rw [List.length_map]
  refine Nat.le_trans (flds_le _) ?_
  have := norm_len s.data.toList
  rw [dlen] at this; exact this
/-- Each token is no longer than the string. -/
theorem toksL_size (s : ByteArray) : ∀ x ∈ toksL s, x.size ≤ s.size := by
  intro x hx
  unfold toksL ssL at hx
  obtain ⟨y, hy, rfl⟩ := List.mem_map.1 hx
  rw [mem_sset, List.map_map] at hy
  obtain ⟨z, hz, rfl⟩ := List.mem_map.1 hy
  rw [bstr_size]
  have hw : (z : List UInt8).length ≤ (joinW (flds (norm s.data.toList))).length := by
    have : ∀ G : List (List UInt8), z ∈ G → z.length ≤ (joinW G).length := by
      intro G
      induction G with
      | nil => intro h; simp at h
      | cons u G ih =>
        intro h
        rw [joinW_cons]
        rcases List.mem_cons.1 h with h | h
        · subst h; simp
        · have := ih h
          split
          · rename_i e; rw [e] at h; simp at h
          · simp; omega
    exact this _ hz
  have h2 := collapse_len (norm s.data.toList)
  rw [collapse_join] at h2
  have h3 := norm_len s.data.toList
  rw [dlen] at h3
  simp only [Function.comp, bs_bstr]
  omega
theorem qgr_cases (u : ByteArray) (q : Int) : (qgr u q).length = 0 ∨ ((qgr u q).length ≠ 0 ∧ ((qgr u q).length : Int) = (u.size : Int) - q + 1 ∧ comG (qgr u q) (qgr u q) = (qgr u q).length) := by
  by_cases h0 : (qgr u q).length = 0
  · exact Or.inl h0
  · right
    refine ⟨h0, ?_, by unfold comG; rw [interN_self, List.length_map]⟩
    cases hq : inB q 1 3
    · rw [qgr_no hq] at h0; exact absurd rfl h0
    · have hb := inB_yes hq
      obtain ⟨Q, rfl⟩ := Int.eq_ofNat_of_zero_le (show 0 ≤ q by omega)
      rw [qgr_yes hq, srt_len, grams_len] at h0 ⊢
      omega
theorem comG_comm (a b : List ByteArray) : comG b a = comG a b := interN_comm _ _
theorem drawNorm (a : Option Addr) (c : Nat) (l : List UInt8) (w : World) (hr : RowAt fU w a l) (hl : l.length ≤ 1048576) :
    Calls Tryz.prog 5 #[.slice a l.length c] w fun e w' => ∃ x, x.size ≤ 100 ∧ e = .returned (.string x) ∧ Below w.heap.size w w' := by
  have HR := Lib.hid hr
  clear hr
  go_enter Tryz.func5, Tryz.ntmps5
  go_wp2_with fail
  refine (newCur a c l _ HR.out hl).mono ?_
  rintro e w1 ⟨g, rfl, hg, hc, hb⟩
  have HB1 := Lib.hid hb
  have HG := Lib.hid hg
  clear hb hg
  go_wp2_with fail
  refine (l2Text_any g l _ hc).mono ?_
  rintro e w2 ⟨x, hx, rfl, hd⟩
  have HX := Lib.hid hx
  have HB := Lib.hid (hd.bel HB1.out HG.out)
  clear hd hc hx
  go_wp2
  go_ret
  exact ⟨x, HX.out, rfl, HB.out⟩
theorem norm_size {x : ByteArray} (h : x.size ≤ 100) : (bstr (norm x.data.toList)).size ≤ 100 := by
  have := norm_len x.data.toList; rw [dlen] at this; rw [bstr_size]; omega
theorem drawQ (a : Option Addr) (c : Nat) (l : List UInt8) (w : World) (hr : RowAt fU w a l) (hl : l.length ≤ 1048576) :
    Calls Tryz.prog 24 #[.slice a l.length c] w fun e w' => ∃ x q, x.size ≤ 100 ∧ (-10 ≤ q ∧ q ≤ 10) ∧ e = .returned (.tuple #[.string x, .int .i64 q]) ∧ Below w.heap.size w w' := by
  have HR := Lib.hid hr
  clear hr
  go_enter Tryz.func24, Tryz.ntmps24
  go_wp2_with fail
  refine (newCur a c l _ HR.out hl).mono ?_
  rintro e w1 ⟨g, rfl, hg, hc, hb⟩
  have HB1 := Lib.hid hb
  have HG := Lib.hid hg
  clear hb hg
  go_wp2_with fail
  refine (l2Text_any g l _ hc).mono ?_
  rintro e w2 ⟨x, hx, rfl, hd⟩
  have HX := Lib.hid (norm_size hx)
  have HD := Lib.hid hd
  clear hd hc
  go_wp2_with fail
  refine (specNorm x _ (by omega)).mono ?_
  rintro e w3 ⟨rfl, b3⟩
  have HD2 := Lib.hid (HD.out.below b3)
  clear b3 hx
  obtain ⟨X, hX⟩ : ∃ X, bstr (norm x.data.toList) = X := ⟨_, rfl⟩
  rw [hX] at HX ⊢
  clear hX
  go_wp2_with fail
  refine (litPickInt (fun s => -10 ≤ s ∧ s ≤ 10) g l _ _ _ _ _ HD2.out.1 ?_ ?_ ?_ ?_ ?_).mono ?_
  · rfl
  · rfl
  · decide
  · decide
  · decide +kernel
  rintro e w4 ⟨q, hq, rfl, hd⟩
  have HQ := Lib.hid hq
  have HB := Lib.hid ((HD2.out.trans hd).bel HB1.out HG.out)
  clear hd hq
  go_wp2
  go_ret2
  exact ⟨X, q, HX.out, HQ.out, rfl, HB.out⟩
theorem drawCom (a : Option Addr) (c : Nat) (l : List UInt8) (w : World) (hr : RowAt fU w a l) (hl : l.length ≤ 1048576) :
    Calls Tryz.prog 26 #[.slice a l.length c] w fun e w' => ∃ b1 o1 c1 b2 o2 c2 x y, x.length ≤ 200 ∧ y.length ≤ 200 ∧ x.length ≤ c1 ∧ y.length ≤ c2 ∧ RowAt fS w' (some ⟨b1, o1, none⟩) x ∧ RowAt fS w' (some ⟨b2, o2, none⟩) y ∧ e = .returned (.tuple #[.slice (some ⟨b1, o1, none⟩) x.length c1, .slice (some ⟨b2, o2, none⟩) y.length c2]) ∧ Below w.heap.size w w' := by
  have HR := Lib.hid hr
  clear hr
  go_enter Tryz.func26, Tryz.ntmps26
  go_wp2_with fail
  refine (newCur a c l _ HR.out hl).mono ?_
  rintro e w1 ⟨g, rfl, hg, hc, hb⟩
  have HB1 := Lib.hid hb
  have HG := Lib.hid hg
  clear hb hg
  go_wp2_with fail
  refine (l2Text_any g l _ hc).mono ?_
  rintro e w2 ⟨x, hx, rfl, hd⟩
  have HX := Lib.hid (norm_size hx)
  have HD := Lib.hid hd
  clear hd hc
  go_wp2_with fail
  refine (specNorm x _ (by omega)).mono ?_
  rintro e w3 ⟨rfl, b3⟩
  have HD2 := Lib.hid (HD.out.below b3)
  clear b3 hx
  obtain ⟨X, hX⟩ : ∃ X, bstr (norm x.data.toList) = X := ⟨_, rfl⟩
  rw [hX] at HX ⊢
  clear hX
  have hgl := qgr_len X 2
  have hXz := HX.out
  go_wp2_with fail
  refine (specQGrams X 2 _ (by omega) (by omega) (by omega)).mono ?_
  rintro e w4 ⟨b1, o1, c1, rfl, r1, k1, bb⟩
  obtain ⟨G, hG⟩ : ∃ G, qgr X 2 = G := ⟨_, rfl⟩
  rw [hG] at hgl r1 k1 ⊢
  have HD3 := Lib.hid (HD2.out.below bb)
  have R1 := Lib.hid r1
  have K1 := Lib.hid k1
  have HGl : Hid (G.length ≤ 200) := Lib.hid (by omega)
  clear bb r1 k1 hgl hG hXz
  go_wp2_with fail
  refine (l2Text_any g l _ HD3.out.1).mono ?_
  rintro e w5 ⟨y, hy, rfl, hd⟩
  have HY := Lib.hid (norm_size hy)
  have R2 := Lib.hid (R1.out.off fS_off HD3.out.1 hd.2)
  have HD4 := Lib.hid (HD3.out.trans hd)
  clear hd
  go_wp2_with fail
  refine (specNorm y _ (by omega)).mono ?_
  rintro e w6 ⟨rfl, b6⟩
  have HD5 := Lib.hid (HD4.out.below b6)
  have R3 := Lib.hid (R2.out.below b6)
  clear b6 hy
  obtain ⟨Y, hY⟩ : ∃ Y, bstr (norm y.data.toList) = Y := ⟨_, rfl⟩
  rw [hY] at HY ⊢
  clear hY
  have hgl := qgr_len Y 2
  have hYz := HY.out
  go_wp2_with fail
  refine (specQGrams Y 2 _ (by omega) (by omega) (by omega)).mono ?_
  rintro e w7 ⟨b2, o2, c2, rfl, r2, k2, bb⟩
  obtain ⟨H, hH⟩ : ∃ H, qgr Y 2 = H := ⟨_, rfl⟩
  rw [hH] at hgl r2 k2 ⊢
  have HD6 := Lib.hid (HD5.out.below bb)
  have R4 := Lib.hid (R3.out.below bb)
  have R5 := Lib.hid r2
  have K2 := Lib.hid k2
  have HHl : Hid (H.length ≤ 200) := Lib.hid (by omega)
  clear bb r2 k2 hgl hH hYz
  go_wp2
  go_ret2
  exact ⟨b1, o1, c1, b2, o2, c2, G, H, HGl.out, HHl.out, K1.out, K2.out, R4.out, R5.out, rfl, HD6.out.bel HB1.out HG.out⟩
end Go.Proofs.YtoijjielnbcphaaGreatDoor

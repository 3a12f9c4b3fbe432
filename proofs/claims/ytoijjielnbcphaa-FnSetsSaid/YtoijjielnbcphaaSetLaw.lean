/-
  What FnSets needs: the plain laws of the set scores and the walks of the draws of token lists. Condition: the code has at most 2^20 bytes.
-/
import Derived.Test.YtoijjielnbcphaaJacc
import Derived.Test.YtoijjielnbcphaaCont
import Derived.Test.YtoijjielnbcphaaUnite
import Derived.Test.YtoijjielnbcphaaCommon
import Derived.Test.YtoijjielnbcphaaPutO
import Derived.Test.YtoijjielnbcphaaDraw2
import Derived.Test.YtoijjielnbcphaaGreat
namespace Go.Proofs.Ytoijjielnbcphaa
open Go.RowKit Go.Sort
set_option linter.unusedVariables false
set_option linter.unusedSimpArgs false
set_option maxRecDepth 100000
theorem bs_inj {x y : ByteArray} (h : bs x = bs y) : x = y := by apply ByteArray.ext; exact Array.toList_inj.1 h
theorem map_bs_inj : ∀ {a b : List ByteArray}, a.map bs = b.map bs → a = b
  | [], [], _ => rfl
  | [], _ :: _, h => by cases h
  | _ :: _, [], h => by cases h
  | x :: a, y :: b, h => by
    rw [List.map_cons, List.map_cons, List.cons.injEq] at h
    rw [bs_inj h.1, map_bs_inj h.2]
theorem tset_tok {l : List ByteArray} (h : tset l = true) (k : Nat) (hk : k < l.length) : ¬ l[k].size = 0 ∧ alnum l[k] = true ∧ (k = 0 ∨ bs (l[k - 1]'(by omega)) < bs l[k]) := by
  have h1 := List.all_eq_true.1 h k (List.mem_range.2 hk)
  refine ⟨fun h0 => ?_, ?_, ?_⟩
  · rw [tok_empty hk h0] at h1; cases h1
  · cases ha : alnum l[k]
    · rw [tok_alnum hk ha] at h1; cases h1
    · rfl
  · by_cases h0 : k = 0
    · exact Or.inl h0
    · right
      cases hb : Go.Op.bytesLess (l[k - 1]'(by omega)).toList l[k].toList
      · rw [tok_less hk (by omega) h0 hb] at h1; cases h1
      · rw [less_bs, decide_eq_true_iff] at hb; exact hb
theorem tset_Up {l : List ByteArray} (h : tset l = true) : Up (l.map bs) := by
  refine List.pairwise_iff_getElem.2 ?_
  intro i j hi hj hij
  rw [List.length_map] at hi hj
  rw [List.getElem_map, List.getElem_map]
  induction j with
  | zero => omega
  | succ j ih =>
    have h1 : bs (l[j]'(by omega)) < bs l[j + 1] := by
      rcases (tset_tok h (j + 1) hj).2.2 with h0 | h0
      · omega
      · exact h0
    by_cases he : i = j
    · subst he; exact h1
    · exact bs_tr (ih (by rw [List.length_map]; omega) (by omega) (by omega)) h1
theorem tset_mem {l : List ByteArray} (h : tset l = true) {x : ByteArray} (hx : x ∈ l) : ¬ x.size = 0 ∧ alnum x = true := by
  obtain ⟨k, hk, rfl⟩ := List.mem_iff_getElem.1 hx
  exact ⟨(tset_tok h k hk).1, (tset_tok h k hk).2.1⟩
theorem tset_ofUp {l : List ByteArray} (hu : Up (l.map bs)) (hx : ∀ x ∈ l, ¬ x.size = 0 ∧ alnum x = true) : tset l = true := by
  refine tset_yes fun k hk => ?_
  obtain ⟨h1, h2⟩ := hx l[k] (List.getElem_mem _)
  refine tok_yes hk (by omega) h1 h2 ?_
  by_cases h0 : k = 0
  · exact Or.inl h0
  · right
    rw [less_bs, decide_eq_true_iff]
    have := List.pairwise_iff_getElem.1 hu (k - 1) k (by simp; omega) (by simpa using hk) (by omega)
    simpa using this
theorem mem_bs {l : List ByteArray} {x : ByteArray} : bs x ∈ l.map bs ↔ x ∈ l := by
  rw [List.mem_map]
  exact ⟨fun ⟨y, hy, e⟩ => bs_inj e ▸ hy, fun h => ⟨x, h, rfl⟩⟩
theorem comG_comm (a b : List ByteArray) : comG b a = comG a b := interN_comm _ _
theorem sets2_comm (a b : List ByteArray) : sets2 b a = sets2 a b := by unfold sets2; exact Bool.and_comm _ _
theorem jacc_comm (a b : List ByteArray) : jacc b a = jacc a b := by
  unfold jacc; rw [sets2_comm, comG_comm, Int.add_comm]
theorem dice_comm (a b : List ByteArray) : dice b a = dice a b := by
  unfold dice; rw [sets2_comm, comG_comm, Int.add_comm]
theorem cont_comm (a b : List ByteArray) : cont b a = cont a b := by
  unfold cont; rw [sets2_comm, comG_comm, Int.min_comm]
theorem ediv_le_cross {x y u v : Int} (hy : 0 < y) (hv : 0 < v) (h : x * v ≤ u * y) : x / y ≤ u / v := by
  refine Int.le_ediv_of_mul_le hv ?_
  have h1 : x / y * y ≤ x := Int.ediv_mul_le x (by omega)
  have h2 : x / y * y * v ≤ x * v := Int.mul_le_mul_of_nonneg_right h1 (by omega)
  have h3 : x / y * v * y ≤ u * y := by
    rw [Int.mul_assoc, Int.mul_comm v y, ← Int.mul_assoc]; omega
  exact Int.le_of_mul_le_mul_right h3 hy
theorem chain (a b : List ByteArray) : jacc a b ≤ dice a b ∧ dice a b ≤ cont a b := by
  unfold jacc dice cont
  by_cases hs : sets2 a b = true
  · rw [if_pos hs, if_pos hs, if_pos hs]
    have h1 := comG_le a b
    have h2 := comG_le2 a b
    generalize comG a b = n at *
    generalize a.length = p at *
    generalize b.length = q at *
    unfold rat
    constructor
    · by_cases h0 : (p : Int) + q - n = 0
      · rw [if_pos h0, if_pos (by omega)]; omega
      · rw [if_neg h0, if_neg (by omega)]
        refine ediv_le_cross (by omega) (by omega) ?_
        have h3 : (n : Int) * (2 * n) ≤ n * (p + q) := Int.mul_le_mul_of_nonneg_left (by omega) (by omega)
        rw [Int.mul_assoc, Int.mul_assoc, Int.mul_sub]
        rw [← Int.mul_assoc, Int.mul_comm (n : Int) 2, Int.mul_assoc] at h3
        omega
    · by_cases h0 : (p : Int) + q = 0
      · rw [if_pos h0, if_pos (by omega)]; omega
      · rw [if_neg h0]
        by_cases hm : min (p : Int) q = 0
        · rw [if_pos hm, show (n : Int) = 0 by omega]
          rw [Int.mul_zero, Int.zero_ediv]; omega
        · rw [if_neg hm]
          refine ediv_le_cross (by omega) (by omega) ?_
          have h3 : (n : Int) * (2 * min (p : Int) q) ≤ n * (p + q) := Int.mul_le_mul_of_nonneg_left (by omega) (by omega)
          rw [Int.mul_assoc, Int.mul_assoc]
          rw [← Int.mul_assoc, Int.mul_comm (n : Int) 2, Int.mul_assoc] at h3
          omega
  · rw [if_neg hs, if_neg hs, if_neg hs]; omega
theorem zero_no {a b : List ByteArray} (h : sets2 a b = false) : jacc a b = 0 ∧ dice a b = 0 ∧ cont a b = 0 := by
  unfold jacc dice cont; rw [h]; exact ⟨rfl, rfl, rfl⟩
theorem com_len {a b : List ByteArray} (ha : tset a = true) : (comL a b).length = comG a b := by
  rw [comL_eq, List.length_map, commonS_len (tset_Up ha)]; rfl
theorem len_sum {a b : List ByteArray} (ha : tset a = true) (hb : tset b = true) : (comL a b).length + (uniL a b).length = a.length + b.length := by
  have h := uniteS_len (tset_Up ha) (tset_Up hb)
  rw [List.length_map, List.length_map] at h
  rw [com_len ha, uniL_eq, List.length_map]
  show interN (a.map bs) (b.map bs) + _ = _
  omega
theorem full_mem {a b : List Bs} (ha : Up a) (h : interN a b = a.length) : ∀ x ∈ a, x ∈ b := by
  rw [interN_nodup ha.nodup, List.length_filter_eq_length_iff] at h
  intro x hx
  have := h x hx
  exact decide_eq_true_iff.1 this
theorem jacc_full {a b : List ByteArray} (ha : tset a = true) (hb : tset b = true) : (jacc a b == 1000) = decide (a = b) := by
  have hs : sets2 a b = true := by unfold sets2; rw [ha, hb]; rfl
  have h1 := comG_le a b
  have h2 := comG_le2 a b
  unfold jacc
  rw [if_pos hs]
  unfold rat
  by_cases he : a = b
  · subst he
    have hn : comG a a = a.length := by unfold comG; rw [interN_self, List.length_map]
    rw [hn, decide_eq_true rfl, beq_iff_eq]
    by_cases h0 : (a.length : Int) + a.length - a.length = 0
    · rw [if_pos h0]
    · rw [if_neg h0, show (a.length : Int) + a.length - a.length = a.length by omega]
      exact Int.mul_ediv_cancel _ (by omega)
  · rw [decide_eq_false he, beq_eq_false_iff_ne]
    intro hj
    apply he
    have hn : comG a b = a.length ∧ comG a b = b.length := by
      by_cases h0 : (a.length : Int) + b.length - comG a b = 0
      · omega
      · rw [if_neg h0] at hj
        have h3 : 1000 * ((a.length : Int) + b.length - comG a b) ≤ 1000 * (comG a b : Int) := by
          have := Int.ediv_mul_le (1000 * (comG a b : Int)) (b := (a.length : Int) + b.length - comG a b) (by omega)
          rw [hj] at this; exact this
        omega
    refine map_bs_inj (Up.unique (tset_Up ha) (tset_Up hb) fun x => ⟨full_mem (tset_Up ha) (by rw [List.length_map]; exact hn.1) x, full_mem (tset_Up hb) (by rw [List.length_map, interN_comm]; exact hn.2) x⟩)
theorem com_tset {a b : List ByteArray} (ha : tset a = true) : tset (comL a b) = true := by
  refine tset_ofUp ?_ ?_
  · rw [comL_eq, map_bs_bstr]; exact up_sset _
  · intro x hx
    refine tset_mem ha ?_
    rw [← mem_bs, comL_eq, map_bs_bstr] at hx
    unfold commonS at hx
    rw [mem_sset, List.mem_filter] at hx
    exact mem_bs.1 hx.1
theorem uni_tset {a b : List ByteArray} (ha : tset a = true) (hb : tset b = true) : tset (uniL a b) = true := by
  refine tset_ofUp ?_ ?_
  · rw [uniL_eq, map_bs_bstr]; exact up_sset _
  · intro x hx
    rw [← mem_bs, uniL_eq, map_bs_bstr] at hx
    unfold uniteS at hx
    rw [mem_sset, List.mem_append] at hx
    rcases hx with hx | hx
    · exact tset_mem ha (mem_bs.1 hx)
    · exact tset_mem hb (mem_bs.1 hx)
theorem com_mem {a b : List ByteArray} {x : ByteArray} (hx : x ∈ comL a b) : x ∈ a := by
  rw [← mem_bs, comL_eq, map_bs_bstr] at hx
  unfold commonS at hx
  rw [mem_sset, List.mem_filter] at hx
  exact mem_bs.1 hx.1
theorem uni_mem {a b : List ByteArray} {x : ByteArray} (hx : x ∈ uniL a b) : x ∈ a ∨ x ∈ b := by
  rw [← mem_bs, uniL_eq, map_bs_bstr] at hx
  unfold uniteS at hx
  rw [mem_sset, List.mem_append] at hx
  exact hx.imp mem_bs.1 mem_bs.1
theorem put_mem {l : List ByteArray} {s x : ByteArray} (hx : x ∈ putL false l s) : x = s ∨ x ∈ l := by
  unfold putL at hx
  obtain ⟨y, hy, rfl⟩ := List.mem_map.1 hx
  rcases mem_putS.1 hy with rfl | h
  · left; exact bs_inj (bs_bstr _)
  · right; rw [← mem_bs, bs_bstr]; exact h
/-- A drawn list of tokens. -/
structure Lst (g : Nat) (code : List UInt8) (w0 w : World) (v : Value) (b off c : Nat) (L : List ByteArray) : Prop where
  form : v = .slice (some ⟨b, off, none⟩) L.length c
  bld : BldD fS 9 g code w0 w v L
  small : ∀ x ∈ L, x.size ≤ 40
theorem Lst.row {g : Nat} {code : List UInt8} {w0 w : World} {v : Value} {b off c : Nat} {L : List ByteArray} (h : Lst g code w0 w v b off c L) : RowAt fS w (some ⟨b, off, none⟩) L := by
  have hb : BldG fS 9 w0.heap.size w w v L := ⟨h.bld.own, Below.refl _ _, h.bld.big⟩
  rw [h.form] at hb
  exact hb.row.at
theorem Lst.cap {g : Nat} {code : List UInt8} {w0 w : World} {v : Value} {b off c : Nat} {L : List ByteArray} (h : Lst g code w0 w v b off c L) : L.length ≤ c := by
  have := h.bld.own
  rw [h.form] at this
  exact ownCap this
theorem Lst.step {g : Nat} {code : List UInt8} {w0 w w' : World} {v : Value} {b off c : Nat} {L : List ByteArray} (h : Lst g code w0 w v b off c L) (hd : Drew g code w w') : Lst g code w0 w' v b off c L := ⟨h.form, h.bld.step hd, h.small⟩
set_option maxHeartbeats 1600000 in
theorem l3Set_any (g : Nat) (l : List UInt8) (w : World) (hc : Cur w g l) :
    Calls Try.prog 68 #[.pointer (some ⟨g, 0, none⟩)] w fun e w' => ∃ b off c L, e = .returned (.slice (some ⟨b, off, none⟩) L.length c) ∧ L.length ≤ 6 ∧ Lst g l w w' (.slice (some ⟨b, off, none⟩) L.length c) b off c L := by
  have HB0 : Hid (Lst g l w (w.alloc (.cells #[] 9)) (.slice (some ⟨w.heap.size, 0, none⟩) 0 0) w.heap.size 0 0 []) := Lib.hid ⟨rfl, BldD.empty fS 9 (Drew.refl hc) hc, fun x hx => by cases hx⟩
  clear hc
  go_enter Try.func68, Try.ntmps68
  go_wp2_with fail
  refine (l1Below_any g l 6 _ HB0.out.bld.drew.1 (by decide) (by decide)).mono ?_
  rintro e w1 ⟨m, hm, rfl, hd⟩
  have HB := Lib.hid (HB0.out.step hd)
  clear hd HB0
  go_wp2
  go_loopw [3, 4] (fun v i wr => ∃ (k : Nat) (b off c : Nat) (L : List ByteArray), i = .int .i64 k ∧ v = .slice (some ⟨b, off, none⟩) L.length c ∧ L.length + k ≤ 6 ∧ Lst g l w wr (.slice (some ⟨b, off, none⟩) L.length c) b off c L) (fun _ i _ => (intOf i).toNat)
  case atStart => exact ⟨m, _, _, _, [], rfl, rfl, by simp; omega, HB.out⟩
  case round =>
    clear HB
    obtain ⟨k, b, off, c, L, rfl, rfl, hk, ht⟩ := hrel
    by_cases hk0 : k = 0
    · subst hk0
      have HT := Lib.hid ht
      clear ht
      go_wp2
      go_ret
      exact ⟨b, off, c, L, rfl, by omega, HT.out⟩
    · have hkp : (0 : Int) < (k : Int) := by omega
      have hkn : 0 < k := by omega
      clear hk0
      obtain ⟨K, hK⟩ : ∃ K, K = k - 1 := ⟨_, rfl⟩
      have eK : (k : Int) - 1 = (K : Int) := by omega
      have HKl : Hid (L.length + 1 + K ≤ 6) := Lib.hid (by omega)
      have HKm : Hid (K < k) := Lib.hid (by omega)
      clear hK
      go_wp2_with fail
      refine (litPick (fun s => s.size ≤ 40) g l _ _ _ _ _ ht.bld.drew.1 ?_ ?_ ?_ ?_ ?_).mono ?_
      · rfl
      · rfl
      · decide
      · decide
      · decide +kernel
      rintro e w3 ⟨x, hx, rfl, hd⟩
      have HT3 := Lib.hid (ht.step hd)
      have HX := Lib.hid hx
      clear hd ht hx
      go_wp2_with fail
      refine (l3PutO_any b off c L x _ HT3.out.row (by omega) HT3.out.cap).mono ?_
      rintro e w4 ⟨b', off', c', rfl, hr, hcap, hb, hown⟩
      have HT4 : Hid (Lst g l w w4 (.slice (some ⟨b', off', none⟩) (putL false L x).length c') b' off' c' (putL false L x)) := Lib.hid ⟨rfl, ⟨hown _ HT3.out.bld.big HT3.out.bld.own, HT3.out.bld.drew.below hb, HT3.out.bld.cur⟩, fun y hy => by
        rcases put_mem hy with rfl | h
        · exact HX.out
        · exact HT3.out.small y h⟩
      have HL := Lib.hid (putL_len false L x)
      obtain ⟨M, hM⟩ : ∃ M, putL false L x = M := ⟨_, rfl⟩
      rw [hM] at HT4 HL ⊢
      clear hr hcap hb hown hM
      go_wp2
      go_roundw
      case rel => exact ⟨K, b', off', c', M, by go_num, rfl, by have := HKl.out; have := HL.out; omega, HT4.out⟩
      case measure => have := HKm.out; simp [intOf]; omega
set_option maxHeartbeats 1600000 in
theorem l3Any_any (g : Nat) (l : List UInt8) (w : World) (hc : Cur w g l) :
    Calls Try.prog 46 #[.pointer (some ⟨g, 0, none⟩)] w fun e w' => ∃ b off c L, e = .returned (.slice (some ⟨b, off, none⟩) L.length c) ∧ L.length ≤ 7 ∧ Lst g l w w' (.slice (some ⟨b, off, none⟩) L.length c) b off c L := by
  go_enter Try.func46, Try.ntmps46
  go_wp2_with fail
  refine (l3Set_any g l _ hc).mono ?_
  rintro e w1 ⟨b, off, c, L, rfl, hl, ht⟩
  have HT := Lib.hid ht
  clear ht hc
  go_wp2_with fail
  refine (l1Once_any g l 10 _ HT.out.bld.drew.1 (by decide) (by decide)).mono ?_
  rintro e w2 ⟨o, rfl, hd⟩
  have HT2 := Lib.hid (HT.out.step hd)
  clear hd HT
  cases o
  · go_wp2
    go_ret
    exact ⟨b, off, c, L, rfl, by omega, HT2.out⟩
  · go_wp2_with fail
    refine (litPick (fun s => s.size ≤ 40) g l _ _ _ _ _ HT2.out.bld.drew.1 ?_ ?_ ?_ ?_ ?_).mono ?_
    · rfl
    · rfl
    · decide
    · decide
    · decide +kernel
    rintro e w3 ⟨x, hx, rfl, hd⟩
    have ht3 := (HT2.out.step hd).bld
    have HT3 := Lib.hid (HT2.out.step hd)
    have HX := Lib.hid hx
    clear hd hx HT2
    go_wp2_with (at_builtin; refine wpList_pushD rfl _ _ 34 rfl _ Try.underlying34 _ _ infoS rfl fS_one _ _ rfl ht3 x _ rfl rfl ?_ ?_ ?_; (omega); (omega); intro v4 w4 ht4)
    clear ht3
    have hf : ∃ b' c', v4 = .slice (some ⟨b', 0, none⟩) (L ++ [x]).length c' := by
      rcases ht4.own.2 with ⟨_, h2⟩ | ⟨b', c', _, h1, _⟩
      · exact absurd h2 (by simp)
      · exact ⟨b', c', h1⟩
    obtain ⟨b', c', rfl⟩ := hf
    have HT4 : Hid (Lst g l w w4 (.slice (some ⟨b', 0, none⟩) (L ++ [x]).length c') b' 0 c' (L ++ [x])) := Lib.hid ⟨rfl, ht4, fun y hy => by
      rcases List.mem_append.1 hy with h | h
      · exact HT3.out.small y h
      · rw [List.mem_singleton.1 h]; exact HX.out⟩
    obtain ⟨M, hM⟩ : ∃ M, L ++ [x] = M := ⟨_, rfl⟩
    have hMl : M.length ≤ 7 := by rw [← hM]; simp; omega
    rw [hM] at HT4 ⊢
    clear ht4 hM
    go_wp2
    go_ret
    exact ⟨b', 0, c', M, rfl, hMl, HT4.out⟩
theorem drawJac (a : Option Addr) (c : Nat) (l : List UInt8) (w : World) (hr : RowAt fU w a l) (hl : l.length ≤ 1048576) :
    Calls Try.prog 21 #[.slice a l.length c] w fun e w' => ∃ b1 o1 c1 b2 o2 c2 x y, x.length ≤ 7 ∧ y.length ≤ 7 ∧ (∀ z ∈ x, z.size ≤ 40) ∧ (∀ z ∈ y, z.size ≤ 40) ∧ RowAt fS w' (some ⟨b1, o1, none⟩) x ∧ RowAt fS w' (some ⟨b2, o2, none⟩) y ∧ e = .returned (.tuple #[.slice (some ⟨b1, o1, none⟩) x.length c1, .slice (some ⟨b2, o2, none⟩) y.length c2]) ∧ Below w.heap.size w w' := by
  have HR := Lib.hid hr
  clear hr
  go_enter Try.func21, Try.ntmps21
  go_wp2_with fail
  refine (newCur a c l _ HR.out hl).mono ?_
  rintro e w1 ⟨g, rfl, hg, hc, hb⟩
  have HB1 := Lib.hid hb
  have HG := Lib.hid hg
  clear hb hg
  go_wp2_with fail
  refine (l3Any_any g l _ hc).mono ?_
  rintro e w2 ⟨b1, o1, c1, x, rfl, hx, ht1⟩
  have HT1 := Lib.hid ht1
  have HX := Lib.hid hx
  clear hc ht1 hx
  go_wp2_with fail
  refine (l3Any_any g l _ HT1.out.bld.drew.1).mono ?_
  rintro e w3 ⟨b2, o2, c2, y, rfl, hy, ht2⟩
  have R1 := Lib.hid (HT1.out.row.off fS_off HT1.out.bld.drew.1 ht2.bld.drew.2)
  have HT2 := Lib.hid ht2
  have HY := Lib.hid hy
  clear ht2 hy
  go_wp2
  go_ret2
  exact ⟨b1, o1, c1, b2, o2, c2, x, y, by have := HX.out; omega, by have := HY.out; omega, HT1.out.small, HT2.out.small, R1.out, HT2.out.row, rfl, (HT1.out.bld.drew.trans HT2.out.bld.drew).bel HB1.out HG.out⟩
end Go.Proofs.Ytoijjielnbcphaa

/-
  Walks of SoundKeys (program and reference). Condition: the string has at most 2^20 bytes; the table of codes holds what the program's text lays; the world has its shape.
-/
import Derived.Test.YtoijjielnbcphaaDoorToks
import Derived.Test.YtoijjielnbcphaaDoorSound
namespace Go.Proofs.YtoijjielnbcphaaDoor
open Go.RowKit Go.Sort
set_option linter.unusedVariables false
set_option linter.unusedSimpArgs false
set_option maxRecDepth 100000
/-- The shape and the table of codes. -/
structure ShSnd (w : World) : Prop where
  sh : Sh w
  snd : Snd w
theorem ShSnd.below {w w' : World} (h : ShSnd w) (hb : Below w.heap.size w w') : ShSnd w' := ⟨h.sh.below hb, h.snd.below hb⟩
/-- The codes of words, empty ones left out. -/
def keysOf (l : List ByteArray) : List ByteArray := (l.map fun x => bstr (sndx x.data.toList)).filter neB
def skeys (s : ByteArray) : List ByteArray := ssL (keysOf (toksL s))
theorem keysOf_len (l : List ByteArray) : (keysOf l).length ≤ l.length := by
  unfold keysOf; refine Nat.le_trans (List.length_filter_le _ _) ?_; rw [List.length_map]; exact Nat.le_refl _
theorem skeys_len (s : ByteArray) : (skeys s).length ≤ s.size + 1 := Nat.le_trans (ssL_len _) (Nat.le_trans (keysOf_len _) (toksL_len s))
theorem keysOf_snoc (l : List ByteArray) (k : Nat) (h : k < l.length) : keysOf (l.take (k + 1)) = keysOf (l.take k) ++ (if neB (bstr (sndx (l[k]).data.toList)) then [bstr (sndx (l[k]).data.toList)] else []) := by
  unfold keysOf
  rw [List.take_succ_eq_append_getElem h, List.map_append, List.filter_append]
  congr 1
  cases h2 : neB (bstr (sndx (l[k]).data.toList)) <;> simp [h2]
theorem neB_no {x : ByteArray} (h : x.data.toList = []) : neB x = false := by unfold neB ne; rw [h]; rfl
theorem neB_yes {x : ByteArray} (h : x.data.toList ≠ []) : neB x = true := by
  unfold neB ne; cases hq : x.data.toList with
  | nil => exact absurd hq h
  | cons _ _ => rfl
theorem toksL_le (s : ByteArray) : (toksL s).length ≤ s.size := by
  unfold toksL
  refine Nat.le_trans (ssL_len _) ?_
  rw [List.length_map]
  refine Nat.le_trans (flds_le _) ?_
  have := norm_len s.data.toList
  rw [dlen] at this; exact this
/-- Each token is no longer than the string. -/
theorem toksL_size (s : ByteArray) : ∀ x ∈ toksL s, x.size ≤ s.size := by
  intro x hx
  unfold toksL ssL at hx
  obtain ⟨y, hy, rfl⟩ := List.mem_map.1 hx
  rw [mem_sset, List.map_map] at hy
  obtain ⟨z, hz, rfl⟩ := List.mem_map.1 hy
  rw [bstr_size]
  have hw : (z : List UInt8).length ≤ (joinW (flds (norm s.data.toList))).length := by
    have : ∀ G : List (List UInt8), z ∈ G → z.length ≤ (joinW G).length := by
      intro G
      induction G with
      | nil => intro h; simp at h
      | cons u G ih =>
        intro h
        rw [joinW_cons]
        rcases List.mem_cons.1 h with h | h
        · subst h; simp
        · have := ih h
          split
          · rename_i e; rw [e] at h; simp at h
          · simp; omega
    exact this _ hz
  have h2 := collapse_len (norm s.data.toList)
  rw [collapse_join] at h2
  have h3 := norm_len s.data.toList
  rw [dlen] at h3
  simp only [Function.comp, bs_bstr]
  omega
set_option maxHeartbeats 1600000 in
theorem implSKeys (s : ByteArray) (w : World) (ev : ShSnd w) (hs : s.size ≤ 1048576) :
    Calls Tryd.prog 15 #[.string s] w fun e w' => ∃ a c, e = .returned (.slice a (skeys s).length c) ∧ BldG fS 9 w.heap.size w w' (.slice a (skeys s).length c) (skeys s) := by
  have htl := toksL_le s
  have hts := toksL_size s
  obtain ⟨K, hK⟩ : ∃ K, skeys s = K := ⟨_, rfl⟩
  have hK2 : ssL (keysOf (toksL s)) = K := hK
  obtain ⟨T, hT⟩ : ∃ T, toksL s = T := ⟨_, rfl⟩
  rw [hT] at htl hts hK2
  have HT := Lib.hid hT
  have HK := Lib.hid hK
  have HK2 := Lib.hid hK2
  have HTS := Lib.hid hts
  have Hev := Lib.hid ev
  have hTl : T.length ≤ 1048576 := by omega
  clear hT hK hK2 hts htl ev
  go_enter Tryd.func15, Tryd.ntmps15
  go_wp2_with fail
  refine (implTokens s _ Hev.out.sh hs).mono ?_
  rintro e w1 ⟨a, c, rfl, hB⟩
  rw [HT.out] at hB ⊢
  have HR := Lib.hid hB.row.at
  have HB1 := Lib.hid hB.bel
  clear hB
  go_wp2
  go_loopw [3, 10] (fun v i wr => ∃ k : Nat, k ≤ T.length ∧ i = .int .i64 k ∧ BldG fS 9 w1.heap.size w1 wr v (keysOf (T.take k))) (fun _ i _ => T.length - (intOf i).toNat)
  case atStart => exact ⟨0, Nat.zero_le _, rfl, BldG.nil _ _ _⟩
  case round =>
    obtain ⟨k, hk, rfl, hb⟩ := hrel
    by_cases hlt : k < T.length
    · obtain ⟨b1, o1, ha, hc⟩ := (HR.out.below hb.bel).cell k hlt
      have hf := keysOf_snoc T k hlt
      have hsz := HTS.out T[k] (List.getElem_mem hlt)
      obtain ⟨x, hx⟩ : ∃ x, x = T[k] := ⟨_, rfl⟩
      rw [← hx] at hc hf hsz
      replace hc : wr.cell? ⟨b1, o1 + k, none⟩ = some (.string x) := hc
      subst ha
      have hsnd : Hid (Snd wr) := Lib.hid ((Hev.out.snd.below HB1.out).below hb.bel)
      have hkl : (keysOf (T.take k)).length ≤ 1048576 := by
        have := keysOf_len (T.take k); rw [List.length_take] at this; omega
      have hxs : x.size ≤ 1048576 := by omega
      obtain ⟨q, hq⟩ : ∃ q, bstr (sndx x.data.toList) = q := ⟨_, rfl⟩
      rw [hq] at hf
      have HQ := Lib.hid hq
      clear hx hq
      by_cases hqe : q.data.toList = []
      · have hem := nilStr_yes hqe
        have H : Hid (keysOf (T.take (k + 1)) = keysOf (T.take k)) := Lib.hid (by rw [hf, neB_no hqe]; simp)
        clear hf hqe
        go_wp2_with fail
        refine (implSoundex x _ hsnd.out hxs).mono ?_
        rintro e w2 ⟨rfl, hb2⟩
        rw [HQ.out]
        go_wp2
        go_roundw
        case rel => exact ⟨k + 1, by omega, by go_num, by rw [H.out]; exact hb.below hb2⟩
        case measure => simp [intOf]; omega
      · have hem := nilStr_no hqe
        have H : Hid (keysOf (T.take (k + 1)) = keysOf (T.take k) ++ [q]) := Lib.hid (by rw [hf, neB_yes hqe]; simp)
        clear hf hqe
        go_wp2_with fail
        refine (implSoundex x _ hsnd.out hxs).mono ?_
        rintro e w2 ⟨rfl, hb2⟩
        rw [HQ.out]
        have hb3 := hb.below hb2
        clear hb
        go_wp2_with (at_builtin; refine wpList_pushG rfl _ _ 30 rfl _ _ Tryd.underlying30 _ _ infoS rfl fS_one _ _ rfl hb3 q rfl ?_ ?_ ?_; (omega); (omega); intro v' w' hb')
        go_roundw
        case rel => exact ⟨k + 1, by omega, by go_num, by rw [H.out]; exact hb'⟩
        case measure => simp [intOf]; omega
    · obtain rfl : k = T.length := by omega
      rw [List.take_length] at hb
      have hkl : (keysOf T).length ≤ 1048576 := Nat.le_trans (keysOf_len _) hTl
      obtain ⟨a3, c3, rfl⟩ := hb.form
      have HR3 := Lib.hid hb.row.at
      have HB3 := Lib.hid (HB1.out.trans (hb.bel.mono HB1.out.size))
      clear hb
      obtain ⟨n3, hn3⟩ : ∃ n, (keysOf T).length = n := ⟨_, rfl⟩
      have HN3 := Lib.hid hn3
      rw [hn3] at hkl ⊢
      clear hn3
      go_wp2_with fail
      refine (sortedSet_any a3 c3 (keysOf T) _ _ HN3.out HR3.out (by rw [HN3.out]; exact hkl)).mono ?_
      rintro e w4 ⟨a4, c4, rfl, hB4⟩
      rw [HK2.out] at hB4 ⊢
      have HB4 := Lib.hid hB4
      clear hB4
      go_wp2
      go_ret
      exact ⟨a4, c4, by rw [HK.out]; rfl, by rw [HK.out]; exact ⟨ownMono HB4.out.own HB3.out.size, HB3.out.trans (HB4.out.bel.mono HB3.out.size), Nat.le_trans HB3.out.size HB4.out.big⟩⟩
set_option maxHeartbeats 1600000 in
theorem specSKeys (s : ByteArray) (w : World) (hs : s.size ≤ 1048576) :
    Calls Tryd.prog 19 #[.string s] w fun e w' => ∃ b off c, e = .returned (.slice (some ⟨b, off, none⟩) (skeys s).length c) ∧ RowAt fS w' (some ⟨b, off, none⟩) (skeys s) ∧ (skeys s).length ≤ c ∧ Below w.heap.size w w' := by
  have htl := toksL_le s
  have hts := toksL_size s
  obtain ⟨K, hK⟩ : ∃ K, skeys s = K := ⟨_, rfl⟩
  have hK2 : ssL (keysOf (toksL s)) = K := hK
  obtain ⟨T, hT⟩ : ∃ T, toksL s = T := ⟨_, rfl⟩
  rw [hT] at htl hts hK2
  have HT := Lib.hid hT
  have HK := Lib.hid hK
  have HK2 : Hid (putsL (keysOf T) = K) := Lib.hid (by rw [putsL_ssL]; exact hK2)
  have HTS := Lib.hid hts
  have hTl : T.length ≤ 1048576 := by omega
  clear hT hK hK2 hts htl
  go_enter Tryd.func19, Tryd.ntmps19
  go_wp2_with fail
  refine (specTokens s _ hs).mono ?_
  rintro e w1 ⟨bt, ot, ct, rfl, hrt, _, hb1⟩
  rw [HT.out] at hrt ⊢
  have HR := Lib.hid hrt
  have HB1 := Lib.hid (((Below.refl w.heap.size w).alloc (Nat.le_refl _) (.cells #[] 9)).trans (hb1.mono (by simp)))
  clear hrt hb1
  go_wp2
  go_loopw [3, 5] (fun v i wr => ∃ (k b off c : Nat) (M : List ByteArray), k ≤ T.length ∧ i = .int .i64 k ∧ M = putsL (keysOf (T.take k)) ∧ v = .slice (some ⟨b, off, none⟩) M.length c ∧ RowAt fS wr (some ⟨b, off, none⟩) M ∧ M.length ≤ c ∧ Below w1.heap.size w1 wr) (fun _ i _ => T.length - (intOf i).toNat)
  case atStart => exact ⟨0, _, _, _, [], Nat.zero_le _, rfl, rfl, rfl, RowAt.nil _ _, Nat.zero_le _, Below.refl _ _⟩
  case round =>
    obtain ⟨k, b, off, c, M, hk, rfl, hM, rfl, hrow, hMc, hb⟩ := hrel
    have hMl : M.length ≤ 1048576 := by
      rw [hM]; refine Nat.le_trans (putsL_le _) ?_
      have := keysOf_len (T.take k); rw [List.length_take] at this; omega
    have HM := Lib.hid hM
    have HRow := Lib.hid hrow
    clear hM hrow
    by_cases hlt : k < T.length
    · obtain ⟨b1, o1, ha, hc⟩ := (HR.out.below hb).cell k hlt
      have hf := keysOf_snoc T k hlt
      have hsz := HTS.out T[k] (List.getElem_mem hlt)
      obtain ⟨x, hx⟩ : ∃ x, x = T[k] := ⟨_, rfl⟩
      rw [← hx] at hc hf hsz
      replace hc : wr.cell? ⟨b1, o1 + k, none⟩ = some (.string x) := hc
      injection ha with ha
      injection ha with e1 e2 e3
      subst e1 e2
      have hxs : x.size ≤ 1048576 := by omega
      obtain ⟨q, hq⟩ : ∃ q, bstr (sndx x.data.toList) = q := ⟨_, rfl⟩
      rw [hq] at hf
      have HQ := Lib.hid hq
      clear hx hq
      by_cases hqe : q.data.toList = []
      · have hem := nilStr_yes hqe
        have H : Hid (M = putsL (keysOf (T.take (k + 1)))) := Lib.hid (by rw [hf, neB_no hqe, HM.out]; simp)
        clear hf hqe
        go_wp2_with fail
        refine (specSoundex x _ hxs).mono ?_
        rintro e w2 ⟨rfl, hb2⟩
        rw [HQ.out]
        go_wp2
        go_roundw
        case rel => exact ⟨k + 1, b, off, c, M, by omega, by go_num, H.out, rfl, HRow.out.below hb2, hMc, hb.trans (hb2.mono hb.size)⟩
        case measure => simp [intOf]; omega
      · have hem := nilStr_no hqe
        have H : Hid (putL false M q = putsL (keysOf (T.take (k + 1)))) := Lib.hid (by rw [hf, neB_yes hqe, HM.out, if_pos rfl, putsL_snoc])
        clear hf hqe
        go_wp2_with fail
        refine (specSoundex x _ hxs).mono ?_
        rintro e w2 ⟨rfl, hb2⟩
        rw [HQ.out]
        have HRow2 := Lib.hid (HRow.out.below hb2)
        go_wp2_with fail
        refine (l3PutF_any b off c M q _ HRow2.out hMl hMc).mono ?_
        rintro e w3 ⟨b2, o2, c2, rfl, hrow2, hc2, hb3⟩
        go_wp2
        go_roundw
        case rel => exact ⟨k + 1, b2, o2, c2, _, by omega, by go_num, H.out, rfl, hrow2, hc2, (hb.trans (hb2.mono hb.size)).trans (hb3.mono (Nat.le_trans hb.size hb2.size))⟩
        case measure => simp [intOf]; omega
    · obtain rfl : k = T.length := by omega
      have H : Hid (M = skeys s) := Lib.hid (by rw [HM.out, List.take_length, HK2.out, HK.out])
      go_wp2
      go_ret
      exact ⟨b, off, c, by rw [← H.out]; rfl, by rw [← H.out]; exact HRow.out, by rw [← H.out]; exact hMc, HB1.out.trans (hb.mono HB1.out.size)⟩
end Go.Proofs.YtoijjielnbcphaaDoor

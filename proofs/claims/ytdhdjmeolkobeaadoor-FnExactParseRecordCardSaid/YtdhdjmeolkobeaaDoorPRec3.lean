/-
  Walk of impl.ParseRecord. Condition: the string has at most 2^20 bytes; the listed variables hold what the library lays; the world has its shape.
-/
import Derived.Test.YtdhdjmeolkobeaaDoorPRec2
import Derived.Test.YtdhdjmeolkobeaaDoorNewRec
namespace Go.Proofs.YtdhdjmeolkobeaaDoor
open Go.RowKit Go.Sort
set_option linter.unusedVariables false
set_option linter.unusedSimpArgs false
set_option maxRecDepth 100000
/-- What ParseRecord ends with: the record of the text, or that there is none. -/
def PEnd (w : World) (S : List UInt8) (e : Ending) (w' : World) : Prop :=
  (∃ s k v l a c, Hit S s k v l ∧ e = .returned (.tuple #[recV s k v a l.length c, .bool true]) ∧ RowOwn fS w.heap.size w' a l ∧ Below w.heap.size w w') ∨
  ((∀ s k v l, ¬ Hit S s k v l) ∧ e = .returned (.tuple #[recV 0 0 0 none 0 0, .bool false]) ∧ Below w.heap.size w w')
theorem no_hit {S : List UInt8} (h : (bstr (prO S)).size = 0 ∨ roB (bstr (prO S)) = false ∨ pB (prV S) = false ∨ fname (roS (bstr (prO S))) (roK (bstr (prO S))) (pV (prV S)) (prF S) ≠ S) : ∀ s k v l, ¬ Hit S s k v l := by
  intro s k v l hh
  obtain ⟨e1, e2, e3, e4, e5, e6, e7, e8⟩ := hit_built hh
  rcases h with h | h | h | h
  · rw [e1, bstr_size] at h; simp [oname] at h
  · rw [e5] at h; cases h
  · rw [e7] at h; cases h
  · rw [e3, e4, e6, e8] at h; exact h hh.2
theorem rowOf_alloc (w : World) (F : List ByteArray) : RowOwn fS w.heap.size (w.alloc (.cells (F.map Value.string).toArray 9)) (some ⟨w.heap.size, 0, none⟩) F := by
  refine Or.inr ⟨w.heap.size, rfl, Nat.le_refl _, fun i x hx => ⟨?_, World.frozen?_alloc_at _ _ _ _ rfl⟩⟩
  rw [World.cell?_alloc_at _ _ _ _ rfl]
  simp [hx, fS]
theorem cutP_size (c : UInt8) : ∀ l cur : List UInt8, ∀ w ∈ cutP c cur l, w.length ≤ cur.length + l.length
  | [], cur, w, h => by rw [cutP_nil, List.mem_singleton] at h; rw [h]; simp
  | x :: l, cur, w, h => by
    by_cases e : x = c
    · subst e
      rw [cutP_eq] at h
      rcases List.mem_cons.1 h with rfl | h
      · simp
      · have := cutP_size x l [] w h; simp at *; omega
    · rw [cutP_ne e] at h
      have := cutP_size c l _ w h; simp at *; omega
theorem prF_small {S : List UInt8} (h : S.length ≤ 1048576) : (prF S).length ≤ 1048576 ∧ ∀ k (hk : k < (prF S).length), (prF S)[k].size ≤ 1048576 := by
  have h1 : (prR S).length + 1 ≤ max S.length 1 := by
    unfold prR Lib.cut
    split
    · rename_i hi
      have hn : S ≠ [] := by rintro rfl; revert hi; rw [Lib.index_one]; decide
      have : 1 ≤ S.length := by cases S with | nil => exact absurd rfl hn | cons _ _ => simp
      simp; omega
    · simp; omega
  have h2 := cutP_len 124 (prR S) []
  refine ⟨by unfold prF parts; rw [List.length_map]; omega, fun k hk => ?_⟩
  have hm : (prF S)[k] ∈ prF S := List.getElem_mem _
  unfold prF at hm
  obtain ⟨y, hy, e⟩ := List.mem_map.1 hm
  have h3 := cutP_size 124 _ _ y hy
  have h4 : (prF S)[k].size = y.length := by
    show ((parts 124 (prR S)).map bstr)[k].size = _
    rw [← e, bstr_size]
  rw [h4]; simp at h3; omega
set_option maxHeartbeats 4000000 in
theorem implParse (s : ByteArray) (w : World) (ev : Num w) (hs : s.size ≤ 1048576) :
    Calls Tryd.prog 22 #[.string s] w (PEnd w s.data.toList) := by
  have HNO := Lib.hid (no_hit (S := s.data.toList))
  have HPF := Lib.hid (prF_small (S := s.data.toList) (by rw [dlen]; exact hs))
  have hcx := cut_len s.data.toList [124]
  have hxo := cut_len (prX s.data.toList) [46]
  rw [dlen] at hcx
  have zX : (bstr (prX s.data.toList)).size ≤ 1048576 := by rw [bstr_size]; unfold prX; omega
  have zR : (bstr (prR s.data.toList)).size ≤ 1048576 := by rw [bstr_size]; unfold prR; omega
  have zx : (prX s.data.toList).length ≤ 1048576 := by unfold prX; omega
  have zO : (bstr (prO s.data.toList)).size ≤ 1048576 := by rw [bstr_size]; unfold prO; omega
  have zV : (bstr (prV s.data.toList)).size ≤ 1048576 := by rw [bstr_size]; unfold prV; omega
  clear hcx hxo
  obtain ⟨W0, hW0⟩ : ∃ W0, W0 = w.alloc (.cells #[.int .i64 0, .int .i64 0, .int .i64 0, .slice none 0 0] 27) := ⟨_, rfl⟩
  have hk0 : W0.heap[w.heap.size]? = some (.cells #[.int .i64 0, .int .i64 0, .int .i64 0, .slice none 0 0] 27) := by rw [hW0]; exact Go.Deep.blk_alloc_new _ _
  have c0 : Below w.heap.size w W0 := by rw [hW0]; exact (Below.refl _ _).alloc (Nat.le_refl _) _
  have hz0 : w.heap.size < W0.heap.size := by rw [hW0]; simp
  have HE := Lib.hid ev
  have HK0 := Lib.hid hk0
  have HC0 := Lib.hid c0
  have HS := Lib.hid (cut124 s W0 (ev.below c0).sh hs)
  clear ev hk0 c0
  go_enter Tryd.func22, Tryd.ntmps22
  go_wp2_with fail
  rw [← hW0]
  clear hW0
  refine HS.out.mono ?_
  rintro e w1 ⟨m1, rfl, b1⟩
  have hk1 := (b1.block w.heap.size hz0).trans HK0.out
  have hz1 : w.heap.size < w1.heap.size := Nat.lt_of_lt_of_le hz0 b1.size
  have HC1 := Lib.hid (HC0.out.trans (b1.mono HC0.out.size))
  clear b1
  go_wp2_with fail
  refine (cut46 s.data.toList w1 (HE.out.below HC1.out).sh zX).mono ?_
  rintro e w2 ⟨m2, rfl, b2⟩
  have hk2 := (b2.block w.heap.size hz1).trans hk1
  have hz2 : w.heap.size < w2.heap.size := Nat.lt_of_lt_of_le hz1 b2.size
  have HC2 := Lib.hid (HC1.out.trans (b2.mono HC1.out.size))
  clear b2 hk1
  go_wp2_with fail
  refine (readOrigin_any (bstr (prO s.data.toList)) w2 (HE.out.below HC2.out) zO).mono ?_
  rintro e w3 ⟨rfl, b3⟩
  have hk3 := (b3.block w.heap.size hz2).trans hk2
  have hz3 : w.heap.size < w3.heap.size := Nat.lt_of_lt_of_le hz2 b3.size
  have HC3 := Lib.hid (HC2.out.trans (b3.mono HC2.out.size))
  clear b3 hk2
  have HPI := Lib.hid (implParseInt (bstr (prV s.data.toList)) w3 (HE.out.below HC3.out) zV)
  obtain ⟨src, key, B, hif, hbt, hbf⟩ : ∃ (src key : Int) (B : Bool), (if (bstr (prO s.data.toList)).size = 0 then Value.tuple #[.int .i64 0, .int .i64 0, .bool false] else .tuple #[.int .i64 (roS (bstr (prO s.data.toList))), .int .i64 (roK (bstr (prO s.data.toList))), .bool (roB (bstr (prO s.data.toList)))]) = .tuple #[.int .i64 src, .int .i64 key, .bool B] ∧
      (B = true → (bstr (prO s.data.toList)).size ≠ 0 ∧ src = roS (bstr (prO s.data.toList)) ∧ key = roK (bstr (prO s.data.toList))) ∧ (B = false → (bstr (prO s.data.toList)).size = 0 ∨ roB (bstr (prO s.data.toList)) = false) := by
    by_cases h0 : (bstr (prO s.data.toList)).size = 0
    · exact ⟨0, 0, false, by rw [if_pos h0], ⟨fun h => absurd h (by decide), fun _ => Or.inl h0⟩⟩
    · exact ⟨_, _, _, by rw [if_neg h0], ⟨fun _ => ⟨h0, rfl, rfl⟩, fun h => Or.inr h⟩⟩
  rw [hif]
  have HBT := Lib.hid hbt
  have HBF := Lib.hid hbf
  clear hif hbt hbf
  go_wp2_with fail
  refine HPI.out.mono ?_
  rintro e w4 ⟨rfl, b4⟩
  have hk4 := (b4.block w.heap.size hz3).trans hk3
  have hz4 : w.heap.size < w4.heap.size := Nat.lt_of_lt_of_le hz3 b4.size
  have HC4 := Lib.hid (HC3.out.trans (b4.mono HC3.out.size))
  clear b4 hk3 HPI
  rw [bstr_list]
  obtain ⟨ver, hver⟩ : ∃ x, pV (prV s.data.toList) = x := ⟨_, rfl⟩
  obtain ⟨PB, hPB⟩ : ∃ x, pB (prV s.data.toList) = x := ⟨_, rfl⟩
  rw [hver, hPB]
  have HVER := Lib.hid hver
  have HPB := Lib.hid hPB
  clear hver hPB
  cases B
  · obtain ⟨⟨p0, p1, p2, p3⟩, pf⟩ := blk_facts hk4
    have HK := Lib.hid hk4
    go_wp2
    (try simp only [Exit.inBlock, Exit.then])
    refine bodyPost_ret (results_cell2 rfl _ _ w.heap.size 27 _ (0, 0) _ rfl (newRec_end HK.out) Tryd.underlying27 rfl (by kernel_rfl)) rfl ?_
    exact Or.inr ⟨HNO.out (by rcases HBF.out (by first | rfl | trivial) with h | h; exact Or.inl h; exact Or.inr (Or.inl h)), rfl, newRec_below HC4.out (Nat.le_refl _)⟩
  · cases PB
    · obtain ⟨⟨p0, p1, p2, p3⟩, pf⟩ := blk_facts hk4
      have HK := Lib.hid hk4
      go_wp2
      (try simp only [Exit.inBlock, Exit.then])
      refine bodyPost_ret (results_cell2 rfl _ _ w.heap.size 27 _ (0, 0) _ rfl (newRec_end HK.out) Tryd.underlying27 rfl (by kernel_rfl)) rfl ?_
      exact Or.inr ⟨HNO.out (Or.inr (Or.inr (Or.inl HPB.out))), rfl, newRec_below HC4.out (Nat.le_refl _)⟩
    · obtain ⟨hO, hsrc, hkey⟩ := HBT.out (by first | rfl | trivial)
      obtain ⟨F, hF⟩ : ∃ x, prF s.data.toList = x := ⟨_, rfl⟩
      have hsp := split124 s.data.toList w4 (HE.out.below HC4.out).sh zR
      rw [hF] at hsp
      have HSP := Lib.hid hsp
      have HSRC := Lib.hid hsrc
      have HKEY := Lib.hid hkey
      have HF := Lib.hid hF
      clear hsp hsrc hkey hF hO
      go_wp2_with fail
      refine HSP.out.mono ?_
      rintro e w5 ⟨rfl, hw5⟩
      have b5 : Below w4.heap.size w4 w5 := by rw [hw5]; exact (Below.refl _ _).alloc (Nat.le_refl _) _
      have ro5 : RowOwn fS w4.heap.size w5 (some ⟨w4.heap.size, 0, none⟩) F := by rw [hw5]; exact rowOf_alloc w4 F
      clear hw5
      have hk5 := (b5.block w.heap.size hz4).trans hk4
      have hz5 : w.heap.size < w5.heap.size := Nat.lt_of_lt_of_le hz4 b5.size
      have HC5 := Lib.hid (HC4.out.trans (b5.mono HC4.out.size))
      obtain ⟨W6, hW6⟩ : ∃ W6, W6 = w5.alloc (.cells #[.int .i64 src, .int .i64 key, .int .i64 ver, .slice (some ⟨w4.heap.size, 0, none⟩) F.length F.length] 27) := ⟨_, rfl⟩
      have b6 : Below w5.heap.size w5 W6 := by rw [hW6]; exact (Below.refl _ _).alloc (Nat.le_refl _) _
      have hr6 : W6.heap[w5.heap.size]? = some (.cells #[.int .i64 src, .int .i64 key, .int .i64 ver, .slice (some ⟨w4.heap.size, 0, none⟩) F.length F.length] 27) := by rw [hW6]; exact Go.Deep.blk_alloc_new _ _
      have hk6 := (b6.block w.heap.size hz5).trans hk5
      have ro6 := ro5.below b6
      have HC6 := Lib.hid (HC5.out.trans (b6.mono HC5.out.size))
      obtain ⟨⟨p0, p1, p2, p3⟩, pf⟩ := blk_facts hr6
      go_wp2_with fail
      rw [← hW6]
      have hfs := HPF.out
      rw [HF.out] at hfs
      obtain ⟨hF1, hF2⟩ := hfs
      have HF2 := Lib.hid hF2
      clear hF2 p0 p1 p2 p3 pf
      refine (implFormatRecord src key ver (some ⟨w4.heap.size, 0, none⟩) F.length F W6 (HE.out.below HC6.out).tab ro6.at hF1 HF2 (Nat.le_refl _)).mono ?_
      rintro e w7 ⟨rfl, b7⟩
      have hz6 : w.heap.size < W6.heap.size := Nat.lt_of_lt_of_le hz5 b6.size
      have hz6' : w5.heap.size < W6.heap.size := by rw [hW6]; simp
      have hk7 := (b7.block w.heap.size hz6).trans hk6
      have hr7 := (b7.block w5.heap.size hz6').trans hr6
      have ro7 := Lib.hid ((ro6.below b7).mono (B' := w.heap.size) (Nat.le_of_lt hz4))
      have HC7 := Lib.hid (HC6.out.trans (b7.mono HC6.out.size))
      have HNE : Hid (w.heap.size < w4.heap.size) := Lib.hid hz4
      have RO7 := Lib.hid (ro6.below b7)
      obtain ⟨⟨p0, p1, p2, p3⟩, pf⟩ := blk_facts hk7
      obtain ⟨⟨t0, t1, t2, t3⟩, tf⟩ := blk_facts hr7
      have HK := Lib.hid hk7
      clear hW6 b5 b6 b7 hk4 hk5 hk6 hr6 hr7 hk7 ro5 ro6 hz6 hz6'
      by_cases hg : fname src key ver F = s.data.toList
      · have hit : Hit s.data.toList src key ver F := by
          refine hit_of ?_ hg
          intro h0
          have := (HBT.out (by first | rfl | trivial)).1
          apply this
          rw [bstr_size]; unfold prO prX; rw [h0]; decide
        have HIT := Lib.hid hit
        rw [show bstr (fname src key ver F) = s by rw [hg]; exact bstr_of s]
        have sq : (s.toList != s.toList) = false := by simp
        clear hg hit
        go_wp2
        (try simp only [Exit.inBlock, Exit.then])
        refine bodyPost_ret (results_cell2 rfl _ _ w.heap.size 27 _ (0, 0) _ rfl (newRec_end HK.out) Tryd.underlying27 rfl (by kernel_rfl)) rfl ?_
        exact Or.inl ⟨src, key, ver, F, _, _, HIT.out, rfl, RowOwn.mono (newRec_row RO7.out HNE.out) (Nat.le_of_lt HNE.out), newRec_below HC7.out (Nat.le_refl _)⟩
      · have hno : ∀ s' k v l, ¬ Hit s.data.toList s' k v l := HNO.out (Or.inr (Or.inr (Or.inr (by rw [← HSRC.out, ← HKEY.out, HVER.out, HF.out]; exact hg))))
        obtain ⟨T, hT⟩ : ∃ x, bstr (fname src key ver F) = x := ⟨_, rfl⟩
        have hne : T.toList ≠ s.toList := by rw [← hT, bstr_toList, toList_eq]; exact hg
        rw [hT]
        have q1 : (T.toList != s.toList) = true := by rw [bne_iff_ne]; exact hne
        have q2 : (T.toList == s.toList) = false := by rw [beq_eq_false_iff_ne]; exact hne
        have q3 : decide (T.toList = s.toList) = false := decide_eq_false hne
        have HNN := Lib.hid hno
        clear hg hno hT hne
        go_wp2
        (try simp only [Exit.inBlock, Exit.then])
        refine bodyPost_ret (results_cell2 rfl _ _ w.heap.size 27 _ (0, 0) _ rfl (newRec_end HK.out) Tryd.underlying27 rfl (by kernel_rfl)) rfl ?_
        exact Or.inr ⟨HNN.out, rfl, newRec_below HC7.out (Nat.le_refl _)⟩
end Go.Proofs.YtdhdjmeolkobeaaDoor

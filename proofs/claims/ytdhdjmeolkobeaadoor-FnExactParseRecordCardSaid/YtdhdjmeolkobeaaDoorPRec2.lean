/-
  strings.Cut and strings.Split at one sign, in the words of XPRecLaw. Condition: the world has its shape.
-/
import Derived.Test.YtdhdjmeolkobeaaDoorPRec
namespace Go.Proofs.YtdhdjmeolkobeaaDoor
open Go.RowKit Go.Sort
set_option linter.unusedVariables false
set_option linter.unusedSimpArgs false
set_option maxRecDepth 100000
theorem cut_len (s sep : List UInt8) : (Lib.cut s sep).1.length ≤ s.length ∧ (Lib.cut s sep).2.1.length ≤ s.length := by
  unfold Lib.cut
  split
  · simp; omega
  · simp
theorem count_parts (c : UInt8) : ∀ (n : Nat) (s : List UInt8), s.length < n → Lib.countFrom [c] n s + 1 = (parts c s).length
  | 0, s, h => by omega
  | n + 1, s, h => by
    rcases first_split c s with h1 | ⟨w, r, rfl, h2⟩
    · have hi := index_no c s h1
      rw [Lib.countFrom, hi, parts_no h1]; rfl
    · have hi := index_at c w r h2
      have ih := count_parts c n r (by simp at h; omega)
      have hd : (w ++ c :: r).drop (w.length + 1) = r := by simp
      rw [Lib.countFrom, hi, if_neg (by first | (simp; done) | (simp; omega)), parts_at r h2, List.length_cons]
      simp only [Int.toNat_natCast, List.length_cons, List.length_nil, Nat.zero_add]
      rw [hd]; omega
theorem split_list (s : ByteArray) : Lib.splitB ⟨#[124]⟩ 0 (Lib.countB s ⟨#[124]⟩) s = (parts 124 s.data.toList).map bstr ∧ Lib.countB s ⟨#[124]⟩ + 1 = (parts 124 s.data.toList).length := by
  have hc : Lib.countB s ⟨#[124]⟩ = Lib.count s.data.toList [124] := rfl
  have h1 := Lib.splitB_data ⟨#[124]⟩ 0 (Lib.countB s ⟨#[124]⟩) s
  have h2 : Lib.splitK [124] 0 (Lib.count s.data.toList [124]) s.data.toList = parts 124 s.data.toList := splitK_parts 124 _ _ (by omega)
  refine ⟨?_, by rw [hc]; exact count_parts 124 _ _ (by omega)⟩
  have h3 : (Lib.splitB ⟨#[124]⟩ 0 (Lib.countB s ⟨#[124]⟩) s).map (·.data.toList) = parts 124 s.data.toList := by rw [h1, hc]; exact h2
  rw [← h3, List.map_map]
  conv => lhs; rw [← List.map_id (Lib.splitB ⟨#[124]⟩ 0 (Lib.countB s ⟨#[124]⟩) s)]
  apply List.map_congr_left
  intro x _
  exact (bstr_of x).symm
theorem cut124 (s : ByteArray) (w : World) (h : Sh w) (hs : s.size ≤ 1048576) :
    Calls Tryd.prog 44 #[.string s, .string ⟨#[124]⟩] w fun e w' => ∃ b, e = .returned (.tuple #[.string (bstr (prX s.data.toList)), .string (bstr (prR s.data.toList)), .bool b]) ∧ Below w.heap.size w w' := by
  refine (Tryd.strings_Cut_shaped s ⟨#[124]⟩ w h (by omega)).mono ?_
  rintro e w' ⟨h1, n, rfl⟩
  exact ⟨_, h1, below_drewN w n⟩
theorem cut46 (S : List UInt8) (w : World) (h : Sh w) (hs : (bstr (prX S)).size ≤ 1048576) :
    Calls Tryd.prog 44 #[.string (bstr (prX S)), .string ⟨#[46]⟩] w fun e w' => ∃ b, e = .returned (.tuple #[.string (bstr (prO S)), .string (bstr (prV S)), .bool b]) ∧ Below w.heap.size w w' := by
  refine (Tryd.strings_Cut_shaped (bstr (prX S)) ⟨#[46]⟩ w h (by omega)).mono ?_
  rintro e w' ⟨h1, n, rfl⟩
  rw [bstr_list] at h1
  exact ⟨_, h1, below_drewN w n⟩
theorem split124 (S : List UInt8) (w : World) (h : Sh w) (hs : (bstr (prR S)).size ≤ 1048576) :
    Calls Tryd.prog 46 #[.string (bstr (prR S)), .string ⟨#[124]⟩] w fun e w' => e = .returned (.slice (some ⟨w.heap.size, 0, none⟩) (prF S).length (prF S).length) ∧ w' = w.alloc (.cells ((prF S).map Value.string).toArray 9) := by
  refine (Tryd.strings_Split_shaped (bstr (prR S)) ⟨#[124]⟩ w h (by omega) (by decide)).mono ?_
  rintro e w' ⟨h1, h2⟩
  obtain ⟨e1, e2⟩ := split_list (bstr (prR S))
  rw [bstr_list] at e1 e2
  have e3 : Lib.countB (bstr (prR S)) ⟨#[124]⟩ + 1 = (prF S).length := by unfold prF; rw [List.length_map]; exact e2
  rw [e3] at h1
  rw [e1] at h2
  exact ⟨h1, h2⟩
end Go.Proofs.YtdhdjmeolkobeaaDoor

/-
  Plain laws of reading a record: cutting at a sign, and that the parts of a record's text are its fields.
-/
import Derived.Test.YtdhdjmeolkobeaaDoorRecFmt
import Derived.Test.YtdhdjmeolkobeaaDoorToks
import Derived.Lib.Split
namespace Go.Proofs.YtdhdjmeolkobeaaDoor
set_option linter.unusedVariables false
set_option linter.unusedSimpArgs false
theorem index_at (c : UInt8) : ∀ w r : List UInt8, (∀ x ∈ w, x ≠ c) → Lib.index (w ++ c :: r) [c] = (w.length : Int)
  | [], r, _ => indexByte_cons_eq
  | x :: w, r, h => by
    rw [List.cons_append, indexByte_cons_ne (h x (.head _)), index_at c w r fun y hy => h y (.tail _ hy), if_neg (by omega), List.length_cons]
    omega
theorem index_no (c : UInt8) : ∀ w : List UInt8, (∀ x ∈ w, x ≠ c) → Lib.index w [c] = -1
  | [], _ => by rw [Lib.index_one]; rfl
  | x :: w, h => by rw [indexByte_cons_ne (h x (.head _)), index_no c w fun y hy => h y (.tail _ hy), if_pos rfl]
theorem cut_at {c : UInt8} {w : List UInt8} (r : List UInt8) (h : ∀ x ∈ w, x ≠ c) : Lib.cut (w ++ c :: r) [c] = (w, r, true) := by
  unfold Lib.cut; rw [index_at c w r h, if_pos (by omega)]; simp
theorem cut_no {c : UInt8} {w : List UInt8} (h : ∀ x ∈ w, x ≠ c) : Lib.cut w [c] = (w, [], false) := by
  unfold Lib.cut; rw [index_no c w h, if_neg (by decide)]
theorem cutP_word (c : UInt8) : ∀ w cur r : List UInt8, (∀ x ∈ w, x ≠ c) → cutP c cur (w ++ r) = cutP c (cur ++ w) r
  | [], cur, r, _ => by simp
  | x :: w, cur, r, h => by
    rw [List.cons_append, cutP_ne (h x (.head _)), cutP_word c w _ r fun y hy => h y (.tail _ hy)]; simp
theorem parts_no {c : UInt8} {w : List UInt8} (h : ∀ x ∈ w, x ≠ c) : parts c w = [w] := by
  unfold parts
  have := cutP_word c w [] [] h
  rw [List.append_nil, List.nil_append] at this
  rw [this, cutP_nil]
theorem parts_at {c : UInt8} {w : List UInt8} (r : List UInt8) (h : ∀ x ∈ w, x ≠ c) : parts c (w ++ c :: r) = w :: parts c r := by
  unfold parts
  rw [cutP_word c w [] _ h, List.nil_append, cutP_eq]
theorem first_split (c : UInt8) : ∀ s : List UInt8, (∀ x ∈ s, x ≠ c) ∨ ∃ w r, s = w ++ c :: r ∧ ∀ x ∈ w, x ≠ c
  | [] => Or.inl (by simp)
  | x :: s => by
    by_cases h : x = c
    · exact Or.inr ⟨[], s, by rw [h]; rfl, by simp⟩
    · rcases first_split c s with h1 | ⟨w, r, h1, h2⟩
      · left
        intro y hy
        rcases List.mem_cons.1 hy with rfl | hy
        · exact h
        · exact h1 y hy
      · refine Or.inr ⟨x :: w, r, by rw [h1]; rfl, ?_⟩
        intro y hy
        rcases List.mem_cons.1 hy with rfl | hy
        · exact h
        · exact h2 y hy
theorem splitK_parts (c : UInt8) : ∀ (n : Nat) (s : List UInt8), s.length < n → Lib.splitK [c] 0 (Lib.countFrom [c] n s) s = parts c s
  | 0, s, h => by omega
  | n + 1, s, h => by
    rcases first_split c s with h1 | ⟨w, r, rfl, h2⟩
    · have hi := index_no c s h1
      rw [Lib.countFrom, hi, parts_no h1]; rfl
    · have hi := index_at c w r h2
      have ih := splitK_parts c n r (by simp at h; omega)
      have hd : (w ++ c :: r).drop (w.length + 1) = r := by simp
      rw [Lib.countFrom, hi, if_neg (by first | (simp; done) | (simp; omega)), parts_at r h2, Nat.add_comm 1, Lib.splitK, hi, if_neg (by first | (simp; done) | (simp; omega))]
      simp only [Int.toNat_natCast, List.length_cons, List.length_nil, Nat.zero_add, Nat.add_zero]
      rw [hd, ih]; simp
theorem split_parts (c : UInt8) (s : List UInt8) : Lib.split s [c] = parts c s := splitK_parts c _ s (by omega)
theorem parts_barred : ∀ (l : List ByteArray) (w : List UInt8), (∀ x ∈ w, x ≠ 124) → (∀ y ∈ l, ∀ x ∈ y.data.toList, x ≠ 124) → parts 124 (w ++ barred l) = w :: l.map (·.data.toList)
  | [], w, h, _ => by rw [barred_nil, List.append_nil, parts_no h]; rfl
  | y :: l, w, h, hl => by
    have e : barred (y :: l) = 124 :: (y.data.toList ++ barred l) := by simp [barred]
    rw [e, parts_at _ h, parts_barred l y.data.toList (hl y (.head _)) fun z hz => hl z (.tail _ hz)]; rfl
theorem dgB_no {c : UInt8} (h : dgB c = true) : c ≠ 124 ∧ c ≠ 46 := by
  have := dgB_iff h
  constructor <;> (rintro rfl; revert this; decide)
theorem itoa_pos_all {n : Int} (h : 1 ≤ n) : ∀ c ∈ Lib.itoa n, c ≠ 124 ∧ c ≠ 46 := by
  obtain ⟨u, rfl⟩ := Int.eq_ofNat_of_zero_le (show 0 ≤ n by omega)
  rw [itoa_pos u (by omega)]
  intro c hc
  exact dgB_no (List.all_eq_true.1 (dg0_all u) c hc)
theorem oname_all {s k : Int} (h0 : 0 ≤ s) (h1 : s ≤ 3) (k0 : 1 ≤ k) : ∀ c ∈ oname s k, c ≠ 124 ∧ c ≠ 46 := by
  intro c hc
  unfold oname at hc
  rcases List.mem_cons.1 hc with rfl | hc
  · obtain ⟨u, rfl⟩ := Int.eq_ofNat_of_zero_le h0
    have hu : u ≤ 3 := by omega
    rw [Int.toNat_natCast]
    match u, hu with
    | 0, _ => decide
    | 1, _ => decide
    | 2, _ => decide
    | 3, _ => decide
  · exact itoa_pos_all k0 c hc
theorem field_no {y : ByteArray} (h : fieldB y = true) : ∀ x ∈ y.data.toList, x ≠ 124 := by
  unfold fieldB at h
  rw [Bool.and_eq_true] at h
  intro x hx e
  have := List.all_eq_true.1 h.1 x hx
  rw [e] at this
  revert this; decide
theorem validR_mk {s k v : Int} {l : List ByteArray} (h : validR s k v l = true) : (0 ≤ s ∧ s ≤ 3) ∧ (1 ≤ k ∧ k ≤ 99) ∧ (1 ≤ v ∧ v ≤ 999) ∧ l.length = 4 ∧ ∀ y ∈ l, fieldB y = true := by
  obtain ⟨h1, h2, h3, h4, h5⟩ := validR_bounds h
  exact ⟨h1, h2, h3, h4, fun y hy => List.all_eq_true.1 h5 y hy⟩
/-- The record of a text. -/
def Hit (S : List UInt8) (s k v : Int) (l : List ByteArray) : Prop := validR s k v l = true ∧ fname s k v l = S
theorem Hit.form {S : List UInt8} {s k v : Int} {l : List ByteArray} (h : Hit S s k v l) : S = (oname s k ++ 46 :: Lib.itoa v) ++ barred l ∧ S ≠ [] := by
  have e : S = (oname s k ++ 46 :: Lib.itoa v) ++ barred l := by
    rw [← h.2]; unfold fname; rw [if_pos h.1]; simp
  exact ⟨e, by rw [e]; simp⟩
theorem Hit.head_no {S : List UInt8} {s k v : Int} {l : List ByteArray} (h : Hit S s k v l) : ∀ x ∈ oname s k ++ 46 :: Lib.itoa v, x ≠ 124 := by
  obtain ⟨⟨h0, h1⟩, ⟨k0, _⟩, ⟨v0, _⟩, _, _⟩ := validR_mk h.1
  intro x hx
  rcases List.mem_append.1 hx with hx | hx
  · exact (oname_all h0 h1 k0 x hx).1
  · rcases List.mem_cons.1 hx with rfl | hx
    · decide
    · exact (itoa_pos_all v0 x hx).1
theorem Hit.parts {S : List UInt8} {s k v : Int} {l : List ByteArray} (h : Hit S s k v l) : parts 124 S = (oname s k ++ 46 :: Lib.itoa v) :: l.map (·.data.toList) := by
  obtain ⟨_, _, _, _, hf⟩ := validR_mk h.1
  rw [h.form.1, parts_barred _ _ h.head_no fun y hy => field_no (hf y hy)]
theorem Hit.parts46 {S : List UInt8} {s k v : Int} {l : List ByteArray} (h : Hit S s k v l) : Go.Proofs.YtdhdjmeolkobeaaDoor.parts 46 (oname s k ++ 46 :: Lib.itoa v) = [oname s k, Lib.itoa v] := by
  obtain ⟨⟨h0, h1⟩, ⟨k0, _⟩, ⟨v0, _⟩, _, _⟩ := validR_mk h.1
  rw [parts_at _ fun x hx => (oname_all h0 h1 k0 x hx).2, parts_no fun x hx => (itoa_pos_all v0 x hx).2]
/-- What lies behind the first sign: the fields, the sign between them. -/
theorem Hit.cut {S : List UInt8} {s k v : Int} {l : List ByteArray} (h : Hit S s k v l) : ∃ R, Lib.cut S [124] = (oname s k ++ 46 :: Lib.itoa v, R, true) ∧ Go.Proofs.YtdhdjmeolkobeaaDoor.parts 124 R = l.map (·.data.toList) := by
  obtain ⟨_, _, _, h4, hf⟩ := validR_mk h.1
  match l, h4, hf, h with
  | y :: l, _, hf, h =>
    have e : barred (y :: l) = 124 :: (y.data.toList ++ barred l) := by simp [barred]
    refine ⟨y.data.toList ++ barred l, ?_, ?_⟩
    · rw [h.form.1, e, cut_at _ h.head_no]
    · rw [parts_barred l _ (field_no (hf y (.head _))) fun z hz => field_no (hf z (.tail _ hz))]; rfl
theorem Hit.cut46 {S : List UInt8} {s k v : Int} {l : List ByteArray} (h : Hit S s k v l) : Lib.cut (oname s k ++ 46 :: Lib.itoa v) [46] = (oname s k, Lib.itoa v, true) := by
  obtain ⟨⟨h0, h1⟩, ⟨k0, _⟩, ⟨v0, _⟩, _, _⟩ := validR_mk h.1
  rw [cut_at _ fun x hx => (oname_all h0 h1 k0 x hx).2]
/-- A text that a record's format gives back, and that is not empty, has a record. -/
theorem hit_of {S : List UInt8} {s k v : Int} {l : List ByteArray} (hS : S ≠ []) (h : fname s k v l = S) : Hit S s k v l := by
  refine ⟨?_, h⟩
  cases hv : validR s k v l
  · unfold fname at h; rw [hv] at h; exact absurd h.symm hS
  · rfl
end Go.Proofs.YtdhdjmeolkobeaaDoor

/-
  slices.Sort on an owned slice of strings. Condition: at most 2^20 elements.
-/
import Derived.Test.YtojhpmdlhbiomaaSeqMore
import Derived.Test.YtojhpmdlhbiomaaOrdLaw
import Derived.Test.YtojhpmdlhbiomaaShelf
import Derived.Sort.OwnSorted
import Derived.Sort.Walk0
namespace Go.Proofs.Ytojhpmdlhbiomaa
open Go.RowKit Go.Sort
set_option linter.unusedVariables false
set_option linter.unusedSimpArgs false
set_option maxRecDepth 100000
def bs (s : ByteArray) : Bs := s.data.toList
theorem bs_bstr (l : Bs) : bs (bstr l) = l := bstr_list l
theorem bstr_bs (s : ByteArray) : bstr (bs s) = s := bstr_of s
theorem map_bs_bstr (X : List Bs) : (X.map bstr).map bs = X := by rw [List.map_map]; simp [Function.comp_def, bs_bstr]
theorem map_bstr_bs (l : List ByteArray) : (l.map bs).map bstr = l := by rw [List.map_map]; simp [Function.comp_def, bstr_bs]
def srt (l : List ByteArray) : List ByteArray := ((l.map bs).mergeSort leS).map bstr
theorem srt_len (l : List ByteArray) : (srt l).length = l.length := by simp [srt]
theorem srt_bs (l : List ByteArray) : (srt l).map bs = (l.map bs).mergeSort leS := map_bs_bstr _
theorem map_fS_bstr (X : List Bs) : (X.map bstr).map fS = X.map encStr := by rw [List.map_map]; rfl
theorem map_fS (l : List ByteArray) : l.map fS = (l.map bs).map encStr := by
  rw [← map_fS_bstr, map_bstr_bs]
theorem less_bs (x y : ByteArray) : Op.bytesLess x.toList y.toList = decide (bs x < bs y) := by rw [bytesLess_eq, toList_eq, toList_eq]; rfl
theorem grownBy_refl (w : World) (r : Option Nat) : w.grownBy w r := ⟨rfl, rfl, rfl, Nat.le_refl _, fun _ _ _ => rfl⟩
theorem sortO (v : Value) (l : List ByteArray) (B : Nat) (w : World) (ho : w.ownsRow B 9 1 v l.length (l.map fS)) (hl : l.length ≤ 1048576) :
    Calls Try.prog 35 #[v] w fun e w' => e = .returned (.tuple #[]) ∧ w'.ownsRow B 9 1 v l.length ((srt l).map fS) ∧ w.grownBy w' v.ownBlock := by
  rcases ho.2 with ⟨rfl, hn⟩ | ⟨g, cap, cur, rfl, hB, hg, hcap, hmax, hsz, htk⟩
  · have h0 : l = [] := List.eq_nil_of_length_eq_zero hn
    subst h0
    refine (Try.slices_Sort_string_none none 0 w).mono ?_
    rintro e w' ⟨rfl, rfl⟩
    exact ⟨rfl, by simpa [srt] using ho, grownBy_refl _ _⟩
  · have hll : (l.map bs).length = l.length := List.length_map ..
    have htk' : cur.toList.take (l.map bs).length = (l.map bs).map encStr := by rw [← map_fS, hll]; simpa using htk
    have hc := Try.slices_Sort_string g 0 cap (l.map bs) w (holds_of_block hg htk') (Array.getElem?_eq_some_iff.1 hg).1 (by rw [hll]; omega)
    rw [hll] at hc
    refine hc.mono ?_
    rintro e w' ⟨rfl, n, os, rfl⟩
    refine ⟨rfl, ?_, grownBy_sorted _⟩
    have := ownsRow_sorted (w := w) (base := B) (g := g) (cap := cap) (n := n) (e := 9) (os := os) (cur := cur) (ss := l.map bs) (ts := (l.map bs).mergeSort fun x y => decide (x ≤ y)) (by simp) hB hg (by rw [hll]; exact hcap) hmax hsz
    rw [hll] at this
    unfold srt
    rw [map_fS_bstr]
    exact this
end Go.Proofs.Ytojhpmdlhbiomaa

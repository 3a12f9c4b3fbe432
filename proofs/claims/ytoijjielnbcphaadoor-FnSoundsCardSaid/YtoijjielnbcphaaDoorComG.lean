/-
  Walks of CommonGrams (program and reference). Condition: at most 2^20 elements each.
-/
import Derived.Test.YtoijjielnbcphaaDoorSortS
import Derived.Deep.QuietTactic
import Derived.BigQuiet
import Derived.Deep.RegionHeld3
namespace Go.Proofs.YtoijjielnbcphaaDoor
open Go.RowKit Go.Sort
set_option linter.unusedVariables false
set_option linter.unusedSimpArgs false
set_option maxRecDepth 100000
def lenOfS : Value → Nat
  | .slice _ n _ => n
  | _ => 0
def comG (a b : List ByteArray) : Nat := interN (a.map bs) (b.map bs)
theorem comG_le (a b : List ByteArray) : comG a b ≤ a.length := by have := interN_le_left (a.map bs) (b.map bs); rw [List.length_map] at this; exact this
theorem rowHead {w : World} {a : Option Addr} {x : ByteArray} {r : List ByteArray} (h : RowAt fS w a (x :: r)) : ∃ b off, a = some ⟨b, off, none⟩ ∧ w.cell? ⟨b, off, none⟩ = some (.string x) := by
  obtain ⟨b, off, h1, h2⟩ := h.cell 0 (by simp)
  exact ⟨b, off, h1, h2⟩
theorem rowTail {w : World} {b off c : Nat} {x : ByteArray} {r : List ByteArray} (h : RowAt fS w (some ⟨b, off, none⟩) (x :: r)) (hc : (x :: r).length ≤ c) : RowAt fS w (if c = 1 then some ⟨b, off, none⟩ else some ⟨b, off + 1, none⟩) r := by
  split
  · rename_i h1
    left
    simp at hc
    exact List.eq_nil_of_length_eq_zero (by omega)
  · rcases h with h | ⟨b', off', h1, h2⟩
    · cases h
    · injection h1 with h1
      injection h1 with e1 e2 e3
      subst e1 e2
      exact Or.inr ⟨_, _, rfl, fun i y hy => by
        have := h2 (i + 1) y (by simpa using hy)
        rw [show off + 1 + i = off + (i + 1) by omega]; exact this⟩
theorem ups_tail {x : Bs} {l : List Bs} (h : Ups (x :: l)) : Ups l := (List.pairwise_cons.1 h).2
theorem ownMono {w : World} {B B' : Nat} {e : TypeId} {v : Value} {n : Nat} {xs : List Value} (h : w.ownsRow B e 1 v n xs) (hB : B' ≤ B) : w.ownsRow B' e 1 v n xs := by
  refine ⟨h.1, ?_⟩
  rcases h.2 with h1 | ⟨g, cap', cur, h1, h2, h3⟩
  · exact Or.inl h1
  · exact Or.inr ⟨g, cap', cur, h1, Nat.le_trans hB h2, h3⟩
theorem ownCap {w : World} {B : Nat} {e : TypeId} {a : Option Addr} {n cap : Nat} {xs : List Value} (h : w.ownsRow B e 1 (.slice a n cap) n xs) : n ≤ cap := by
  rcases h.2 with ⟨h1, h2⟩ | ⟨g, cap', cur, h1, _, _, h4, _⟩
  · omega
  · injection h1 with e1 e2 e3; omega
def cntB (l : List ByteArray) (s : ByteArray) : Nat := (l.map bs).count (bs s)
theorem beq_bs (x y : ByteArray) : (x.toList == y.toList) = (bs x == bs y) := by rw [toList_eq, toList_eq]; rfl
theorem cntB_snoc (l : List ByteArray) (s : ByteArray) (k : Nat) (h : k < l.length) : cntB (l.take (k + 1)) s = cntB (l.take k) s + if (l[k].toList == s.toList) then 1 else 0 := by
  unfold cntB
  rw [List.take_succ_eq_append_getElem h, List.map_append, List.count_append, beq_bs]
  simp [List.count_cons]
theorem cntB_le (l : List ByteArray) (s : ByteArray) : cntB l s ≤ l.length := by unfold cntB; have := List.count_le_length (a := bs s) (l := l.map bs); rwa [List.length_map] at this
theorem cntB_take_le (l : List ByteArray) (s : ByteArray) (k : Nat) : cntB (l.take k) s ≤ k := by have := cntB_le (l.take k) s; rw [List.length_take] at this; omega
theorem RowAt.take {α : Type} {f : α → Value} {w : World} {a : Option Addr} {l : List α} (h : RowAt f w a l) (k : Nat) : RowAt f w a (l.take k) := by
  rcases h with h | ⟨b, off, h1, h2⟩
  · subst h; left; simp
  · exact Or.inr ⟨b, off, h1, fun i x hx => h2 i x (by
      rw [List.getElem?_take] at hx; split at hx
      · exact hx
      · cases hx)⟩
theorem cntS_bs (l1 l2 : List ByteArray) (k : Nat) (h : k < l1.length) : cntS (l1.map bs) (l2.map bs) (k + 1) = cntS (l1.map bs) (l2.map bs) k + if cntB (l1.take k) l1[k] < cntB l2 l1[k] then 1 else 0 := by
  rw [cntS_succ]
  have e : (l1.map bs).getD k [] = bs l1[k] := by simp [List.getD, h]
  rw [e, ← List.map_take]
  rfl
theorem cntS_le (a b : List Bs) (k : Nat) : cntS a b k ≤ k := by
  unfold cntS
  refine Nat.le_trans (List.length_filter_le _ _) ?_
  rw [List.length_range]; exact Nat.le_refl _
end Go.Proofs.YtoijjielnbcphaaDoor

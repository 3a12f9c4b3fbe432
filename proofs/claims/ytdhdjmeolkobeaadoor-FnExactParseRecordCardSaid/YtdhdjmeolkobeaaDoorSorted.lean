/-
  slices.Compact on an owned slice of strings; the walk of sortedSet (program). Condition: at most 2^20 elements.
-/
import Derived.Test.YtdhdjmeolkobeaaDoorSortS
namespace Go.Proofs.YtdhdjmeolkobeaaDoor
open Go.RowKit Go.Sort
set_option linter.unusedVariables false
set_option linter.unusedSimpArgs false
set_option maxRecDepth 100000
theorem heap_put {w : World} {g n : Nat} {cur : Array Value} {e : TypeId} {fr : Nat × Nat} (d : Array (List UInt8)) (hb : w.heap[g]? = some (.cells cur e fr)) :
    (putRow encStr (Sort.ahead w n) g 0 d).heap[g]? = some (.cells (putCells encStr 0 d cur) e fr) := by
  simp [putRow, mapBlock, Sort.ahead, Array.getElem?_modify, hb, onCells]
theorem grownBy_put {w : World} {g n : Nat} (d : Array (List UInt8)) : w.grownBy (putRow encStr (Sort.ahead w n) g 0 d) (some g) := by
  refine ⟨rfl, rfl, rfl, by simp [putRow, mapBlock, Sort.ahead], fun k hk hne => ?_⟩
  have : g ≠ k := fun e => hne (by rw [e])
  simp [putRow, mapBlock, Sort.ahead, Array.getElem?_modify, this]
theorem own_put {w : World} {B g cap n : Nat} {e : TypeId} {cur : Array Value} {ts pad : List (List UInt8)} (hB : B ≤ g) (hb : w.heap[g]? = some (.cells cur e (0, 0))) (hN : (ts ++ pad).length ≤ cap) (h2 : cap ≤ maxLen) (h3 : cur.size = cap * 1) :
    (putRow encStr (Sort.ahead w n) g 0 (ts ++ pad).toArray).ownsRow B e 1 (.slice (some ⟨g, 0, none⟩) ts.length cap) ts.length (ts.map encStr) := by
  have hk := take_putCells cur (ts ++ pad) (by omega)
  refine ⟨by simp, .inr ⟨g, cap, _, rfl, hB, heap_put _ hb, by rw [List.length_append] at hN; omega, h2, by simp [putCells, h3], ?_⟩⟩
  have hk2 := congrArg (List.take ts.length) hk
  rw [List.take_take, Nat.min_eq_left (by rw [List.length_append]; omega), List.map_append, List.take_left' (by simp)] at hk2
  rw [Nat.mul_one]; exact hk2
def ddL (l : List ByteArray) : List ByteArray := (dedup (l.map bs)).map bstr
def ssL (l : List ByteArray) : List ByteArray := (sset (l.map bs)).map bstr
theorem ddL_srt (l : List ByteArray) : ddL (srt l) = ssL l := by unfold ddL ssL sset; rw [srt_bs]
theorem ssL_bs (l : List ByteArray) : (ssL l).map bs = sset (l.map bs) := map_bs_bstr _
theorem dedup_len : ∀ l : List Bs, (dedup l).length ≤ l.length := by
  intro l
  rw [← compact_dedup]
  unfold Lib.compact
  rw [compactUpTo_dedup l _ (by simp)]
  rw [List.length_map]
  refine Nat.le_trans (List.length_filter_le _ _) ?_
  rw [List.length_range]; simp
theorem ssL_len (l : List ByteArray) : (ssL l).length ≤ l.length := by
  unfold ssL sset
  rw [List.length_map]
  refine Nat.le_trans (dedup_len _) ?_
  simp
/-- slices.Compact of a slice that the call has built. -/
theorem compO {B : Nat} {w0 : World} (a : Option Addr) (c : Nat) (l : List ByteArray) (w : World) (n : Nat) (hn : l.length = n) (hB : BldG fS 9 B w0 w (.slice a n c) l) (hl : l.length ≤ 1048576) :
    Calls Tryd.prog 71 #[.slice a n c] w fun e w' => ∃ a' c', e = .returned (.slice a' (ddL l).length c') ∧ BldG fS 9 B w0 w' (.slice a' (ddL l).length c') (ddL l) := by
  subst hn
  rcases hB.own.2 with ⟨h1, h2⟩ | ⟨g, cap, cur, h1, hg0, hb, hcap, hmax, hsz, htk⟩
  · obtain rfl : l = [] := List.eq_nil_of_length_eq_zero h2
    injection h1 with e1 e2 e3
    subst e1 e3
    refine (Tryd.slices_Compact_string_empty none 0 w).mono ?_
    rintro e w' ⟨rfl, rfl⟩
    exact ⟨none, 0, rfl, hB⟩
  · injection h1 with e1 e2 e3
    subst e1 e3
    have hll : (l.map bs).length = l.length := List.length_map ..
    have htk' : cur.toList.take (l.map bs).length = (l.map bs).map encStr := by rw [← map_fS, hll]; simpa using htk
    have hc := Tryd.slices_Compact_string g 0 c (l.map bs) w (holds_of_block hb htk') (by rw [hll]; omega) (by rw [hll]; exact hcap)
    rw [hll, compact_dedup] at hc
    refine hc.mono ?_
    rintro e w' ⟨rfl, q, rfl⟩
    have hd : (ddL l).length = (dedup (l.map bs)).length := List.length_map ..
    refine ⟨some ⟨g, 0, none⟩, c, by rw [hd], hB.grown (grownBy_put _) ?_⟩
    rw [hd]
    unfold ddL
    rw [map_fS_bstr]
    refine own_put hg0 hb ?_ hmax hsz
    have := dedup_len (l.map bs)
    rw [List.length_append, List.length_replicate]; omega
set_option maxHeartbeats 800000 in
theorem sortedSet_any (a : Option Addr) (c : Nat) (l : List ByteArray) (w : World) (n : Nat) (hn : l.length = n) (hr : RowAt fS w a l) (hl : l.length ≤ 1048576) :
    Calls Tryd.prog 49 #[.slice a n c] w fun e w' => ∃ a' c', e = .returned (.slice a' (ssL l).length c') ∧ BldG fS 9 w.heap.size w w' (.slice a' (ssL l).length c') (ssL l) := by
  subst hn
  have HL := Lib.hid (srt_len l)
  go_enter Tryd.func49, Tryd.ntmps49
  go_wp2_with fail
  refine (cloneS a c l _ hr hl).mono ?_
  rintro e w1 ⟨x1, d1, rfl, hB1⟩
  have HB1 := Lib.hid hB1
  clear hB1 hr
  go_wp2_with fail
  refine (sortO _ l _ _ HB1.out.own hl).mono ?_
  rintro e w2 ⟨rfl, hs, hg⟩
  have hB2 : BldG fS 9 w.heap.size w w2 (.slice x1 l.length d1) (srt l) := HB1.out.grown hg (by rw [srt_len]; exact hs)
  have HB2 := Lib.hid hB2
  clear hB2 hs hg HB1
  go_wp2_with fail
  refine (compO x1 d1 (srt l) _ l.length HL.out HB2.out (by rw [HL.out]; exact hl)).mono ?_
  rintro e w3 ⟨a', c', rfl, hB3⟩
  rw [ddL_srt] at hB3 ⊢
  go_wp2
  go_ret
  exact ⟨a', c', rfl, hB3⟩
end Go.Proofs.YtdhdjmeolkobeaaDoor

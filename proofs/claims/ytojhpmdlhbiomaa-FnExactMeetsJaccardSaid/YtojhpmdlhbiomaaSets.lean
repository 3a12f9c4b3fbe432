/-
  Walks of the reference's CommonTokens and UniteTokens. Condition: at most 2^20 elements each.
-/
import Derived.Test.YtojhpmdlhbiomaaPutF
namespace Go.Proofs.Ytojhpmdlhbiomaa
open Go.RowKit Go.Sort
set_option linter.unusedVariables false
set_option linter.unusedSimpArgs false
set_option maxRecDepth 100000
def putsL (l : List ByteArray) : List ByteArray := (puts false (l.map bs)).map bstr
theorem putsL_nil : putsL [] = [] := rfl
theorem putsL_snoc (l : List ByteArray) (s : ByteArray) : putsL (l ++ [s]) = putL false (putsL l) s := by
  unfold putsL putL
  rw [map_bs_bstr, List.map_append]
  simp [puts, List.foldl_append]
theorem putS_len (tw : Bool) (s : Bs) : ∀ l : List Bs, (putS tw l s).length ≤ l.length + 1
  | [] => by simp [putS]
  | x :: l => by
    have := putS_len tw s l
    unfold putS
    split
    · simp; omega
    · split <;> simp
theorem putL_len (tw : Bool) (l : List ByteArray) (s : ByteArray) : (putL tw l s).length ≤ l.length + 1 := by
  unfold putL; rw [List.length_map]
  have := putS_len tw (bs s) (l.map bs)
  rw [List.length_map] at this; exact this
theorem putsL_le (l : List ByteArray) : (putsL l).length ≤ l.length := by
  have : ∀ l acc : List Bs, (l.foldl (putS false) acc).length ≤ acc.length + l.length := by
    intro l
    induction l with
    | nil => intro acc; simp
    | cons x l ih =>
      intro acc
      have h1 := ih (putS false acc x)
      have h2 := putS_len false x acc
      simp only [List.foldl_cons, List.length_cons]; omega
  have h := this (l.map bs) []
  unfold putsL puts
  rw [List.length_map]; simp at h; exact h
def inL (l : List ByteArray) (s : ByteArray) : Bool := l.any fun y => y.toList == s.toList
theorem inL_mem (l : List ByteArray) (s : ByteArray) : inL l s = decide (bs s ∈ l.map bs) := by
  unfold inL
  rw [Bool.eq_iff_iff, List.any_eq_true, decide_eq_true_eq, List.mem_map]
  constructor
  · rintro ⟨y, hy, he⟩; rw [beq_bs, beq_iff_eq] at he; exact ⟨y, hy, he⟩
  · rintro ⟨y, hy, he⟩; exact ⟨y, hy, by rw [beq_bs, beq_iff_eq]; exact he⟩
set_option maxHeartbeats 800000 in
theorem l3Has_any (a : Option Addr) (c : Nat) (l : List ByteArray) (s : ByteArray) (w : World) (hr : RowAt fS w a l) (hl : l.length ≤ 1048576) :
    Calls Try.prog 41 #[.slice a l.length c, .string s] w fun e w' => e = .returned (.bool (inL l s)) ∧ w = w' := by
  have HR := Lib.hid hr
  clear hr
  go_enter Try.func41, Try.ntmps41
  go_wp2
  go_loopw [5] (fun i wr => ∃ k : Nat, k ≤ l.length ∧ i = .int .i64 k ∧ (l.take k).any (fun y => y.toList == s.toList) = false ∧ wr = w) (fun i _ => l.length - (intOf i).toNat)
  case atStart => exact ⟨0, Nat.zero_le _, rfl, rfl, rfl⟩
  case round =>
    obtain ⟨k, hk, rfl, hall, hw⟩ := hrel
    have Hall := Lib.hid hall
    clear hall
    subst hw
    by_cases hlt : k < l.length
    · obtain ⟨b, off, ha, hc⟩ := HR.out.cell k hlt
      have hm := List.getElem_mem hlt
      have ht := List.take_succ_eq_append_getElem hlt
      obtain ⟨x, hx⟩ : ∃ x, x = l[k] := ⟨_, rfl⟩
      rw [← hx] at hc hm ht
      replace hc : wr.cell? ⟨b, off + k, none⟩ = some (.string x) := hc
      subst ha
      cases he : (x.toList == s.toList)
      · have H : Hid ((l.take (k + 1)).any (fun y => y.toList == s.toList) = false) := Lib.hid (by rw [ht, List.any_append, Hall.out]; simp only [List.any_cons, List.any_nil, he]; rfl)
        clear hx hm ht
        go_wp2
        go_roundw
        case rel => exact ⟨k + 1, by omega, by go_num, H.out, trivial⟩
        case measure => simp [intOf]; omega
      · have H : Hid (inL l s = true) := Lib.hid (by unfold inL; rw [List.any_eq_true]; exact ⟨x, hm, he⟩)
        clear hx hm ht
        go_wp2
        go_ret
        exact ⟨by rw [H.out]; rfl, rfl⟩
    · obtain rfl : k = l.length := by omega
      have H : Hid (inL l s = false) := Lib.hid (by unfold inL; have := Hall.out; rw [List.take_length] at this; exact this)
      go_wp2
      go_ret
      exact ⟨by rw [H.out]; rfl, rfl⟩
def comL (a b : List ByteArray) : List ByteArray := putsL (a.filter fun x => inL b x)
theorem filt_snoc (a b : List ByteArray) (k : Nat) (h : k < a.length) : (a.take (k + 1)).filter (fun x => inL b x) = (a.take k).filter (fun x => inL b x) ++ (if inL b a[k] then [a[k]] else []) := by
  rw [List.take_succ_eq_append_getElem h, List.filter_append]
  congr 1
  cases h2 : inL b a[k] <;> simp [h2]
theorem filt_len (a b : List ByteArray) (k : Nat) : ((a.take k).filter (fun x => inL b x)).length ≤ a.length := by
  refine Nat.le_trans (List.length_filter_le _ _) ?_
  rw [List.length_take]; omega
set_option maxHeartbeats 1600000 in
theorem specCommon (a1 a2 : Option Addr) (c1 c2 : Nat) (l1 l2 : List ByteArray) (w : World) (hr1 : RowAt fS w a1 l1) (hr2 : RowAt fS w a2 l2) (h1 : l1.length ≤ 1048576) (h2 : l2.length ≤ 1048576) :
    Calls Try.prog 22 #[.slice a1 l1.length c1, .slice a2 l2.length c2] w fun e w' => ∃ b off c, e = .returned (.slice (some ⟨b, off, none⟩) (comL l1 l2).length c) ∧ RowAt fS w' (some ⟨b, off, none⟩) (comL l1 l2) ∧ (comL l1 l2).length ≤ c ∧ Below w.heap.size w w' := by
  have HR1 := Lib.hid hr1
  have HR2 := Lib.hid hr2
  clear hr1 hr2
  go_enter Try.func22, Try.ntmps22
  go_wp2
  go_loopw [5, 6] (fun v i wr => ∃ (k b off c : Nat) (M : List ByteArray), k ≤ l1.length ∧ i = .int .i64 k ∧ M = putsL ((l1.take k).filter fun x => inL l2 x) ∧ v = .slice (some ⟨b, off, none⟩) M.length c ∧ RowAt fS wr (some ⟨b, off, none⟩) M ∧ M.length ≤ c ∧ Below w.heap.size w wr) (fun _ i _ => l1.length - (intOf i).toNat)
  case atStart => exact ⟨0, _, _, _, [], Nat.zero_le _, rfl, rfl, rfl, RowAt.nil _ _, Nat.zero_le _, (Below.refl _ _).alloc (Nat.le_refl _) _⟩
  case round =>
    obtain ⟨k, b, off, c, M, hk, rfl, hM, rfl, hrow, hMc, hb⟩ := hrel
    have hMl : M.length ≤ 1048576 := by rw [hM]; exact Nat.le_trans (putsL_le _) (Nat.le_trans (filt_len _ _ _) (by omega))
    have HM := Lib.hid hM
    have HRow := Lib.hid hrow
    clear hM hrow
    by_cases hlt : k < l1.length
    · obtain ⟨b1, o1, ha, hc⟩ := (HR1.out.below hb).cell k hlt
      have hf := filt_snoc l1 l2 k hlt
      obtain ⟨x, hx⟩ : ∃ x, x = l1[k] := ⟨_, rfl⟩
      rw [← hx] at hc hf
      replace hc : wr.cell? ⟨b1, o1 + k, none⟩ = some (.string x) := hc
      have HR2' := Lib.hid (HR2.out.below hb)
      subst ha
      cases hin : inL l2 x
      · have HIn := Lib.hid hin
        have H : Hid (M = putsL ((l1.take (k + 1)).filter fun x => inL l2 x)) := Lib.hid (by rw [hf, hin, HM.out]; simp)
        clear hf hx hin
        go_wp2_with (go_at_call 41; refine (l3Has_any _ _ l2 x _ HR2'.out h2).mono ?_; rintro e w' ⟨rfl, rfl⟩; rw [HIn.out])
        go_roundw
        case rel => exact ⟨k + 1, b, off, c, M, by omega, by go_num, H.out, rfl, HRow.out, hMc, hb⟩
        case measure => simp [intOf]; omega
      · have HIn := Lib.hid hin
        have H : Hid (putL false M x = putsL ((l1.take (k + 1)).filter fun x => inL l2 x)) := Lib.hid (by rw [hf, hin, HM.out, if_pos rfl, putsL_snoc])
        clear hf hx hin
        go_wp2_with (first
          | (go_at_call 41; refine (l3Has_any _ _ l2 x _ HR2'.out h2).mono ?_; rintro e w' ⟨rfl, rfl⟩; rw [HIn.out])
          | (go_at_call 33; refine (l3PutF_any b off c M x _ HRow.out hMl hMc).mono ?_; rintro e w2 ⟨b2, o2, c2', rfl, hrow2, hc2, hb2⟩))
        go_roundw
        case rel => exact ⟨k + 1, b2, o2, c2', _, by omega, by go_num, H.out, rfl, hrow2, hc2, hb.trans (hb2.mono hb.size)⟩
        case measure => simp [intOf]; omega
    · obtain rfl : k = l1.length := by omega
      have H : Hid (M = comL l1 l2) := Lib.hid (by rw [HM.out, List.take_length]; rfl)
      go_wp2
      go_ret
      exact ⟨b, off, c, by rw [← H.out]; rfl, by rw [← H.out]; exact HRow.out, by rw [← H.out]; exact hMc, hb⟩
def uniL (a b : List ByteArray) : List ByteArray := putsL (a ++ b)
theorem uniL_eq (a b : List ByteArray) : uniL a b = (uniteS (a.map bs) (b.map bs)).map bstr := by
  unfold uniL putsL uniteS; rw [puts_sset, List.map_append]
theorem filter_map_bs (a b : List ByteArray) : (a.filter fun x => inL b x).map bs = (a.map bs).filter fun x => decide (x ∈ b.map bs) := by
  rw [List.filter_map]
  congr 1
  apply List.filter_congr
  intro x _
  simp only [Function.comp]
  exact inL_mem b x
theorem comL_eq (a b : List ByteArray) : comL a b = (commonS (a.map bs) (b.map bs)).map bstr := by
  unfold comL putsL commonS; rw [puts_sset, filter_map_bs]
set_option maxHeartbeats 1600000 in
theorem specUnite (a1 a2 : Option Addr) (c1 c2 : Nat) (l1 l2 : List ByteArray) (w : World) (hr1 : RowAt fS w a1 l1) (hr2 : RowAt fS w a2 l2) (h1 : l1.length + l2.length ≤ 1048576) :
    Calls Try.prog 20 #[.slice a1 l1.length c1, .slice a2 l2.length c2] w fun e w' => ∃ b off c, e = .returned (.slice (some ⟨b, off, none⟩) (uniL l1 l2).length c) ∧ RowAt fS w' (some ⟨b, off, none⟩) (uniL l1 l2) ∧ (uniL l1 l2).length ≤ c ∧ Below w.heap.size w w' := by
  have HR1 := Lib.hid hr1
  have HR2 := Lib.hid hr2
  clear hr1 hr2
  go_enter Try.func20, Try.ntmps20
  go_wp2
  go_loopw [5, 6] (fun v i wr => ∃ (k b off c : Nat) (M : List ByteArray), k ≤ l1.length ∧ i = .int .i64 k ∧ M = putsL (l1.take k) ∧ v = .slice (some ⟨b, off, none⟩) M.length c ∧ RowAt fS wr (some ⟨b, off, none⟩) M ∧ M.length ≤ c ∧ Below w.heap.size w wr) (fun _ i _ => l1.length - (intOf i).toNat)
  case atStart => exact ⟨0, _, _, _, [], Nat.zero_le _, rfl, rfl, rfl, RowAt.nil _ _, Nat.zero_le _, (Below.refl _ _).alloc (Nat.le_refl _) _⟩
  case round =>
    obtain ⟨k, b, off, c, M, hk, rfl, hM, rfl, hrow, hMc, hb⟩ := hrel
    have hMl : M.length ≤ 1048576 := by rw [hM]; exact Nat.le_trans (putsL_le _) (by rw [List.length_take]; omega)
    have HM := Lib.hid hM
    have HRow := Lib.hid hrow
    clear hM hrow
    by_cases hlt : k < l1.length
    · obtain ⟨b1, o1, ha, hc⟩ := (HR1.out.below hb).cell k hlt
      have hf := List.take_succ_eq_append_getElem hlt
      obtain ⟨x, hx⟩ : ∃ x, x = l1[k] := ⟨_, rfl⟩
      rw [← hx] at hc hf
      replace hc : wr.cell? ⟨b1, o1 + k, none⟩ = some (.string x) := hc
      subst ha
      have H : Hid (putL false M x = putsL (l1.take (k + 1))) := Lib.hid (by rw [hf, HM.out, putsL_snoc])
      clear hf hx
      go_wp2_with (go_at_call 33; refine (l3PutF_any b off c M x _ HRow.out hMl hMc).mono ?_; rintro e w2 ⟨b2, o2, c2', rfl, hrow2, hc2, hb2⟩)
      go_roundw
      case rel => exact ⟨k + 1, b2, o2, c2', _, by omega, by go_num, H.out, rfl, hrow2, hc2, hb.trans (hb2.mono hb.size)⟩
      case measure => simp [intOf]; omega
    · obtain rfl : k = l1.length := by omega
      have HM1 : Hid (M = putsL l1) := Lib.hid (by rw [HM.out, List.take_length])
      clear HM
      go_wp2
      go_loopw [5, 7] (fun v i wr2 => ∃ (k b off c : Nat) (M : List ByteArray), k ≤ l2.length ∧ i = .int .i64 k ∧ M = putsL (l1 ++ l2.take k) ∧ v = .slice (some ⟨b, off, none⟩) M.length c ∧ RowAt fS wr2 (some ⟨b, off, none⟩) M ∧ M.length ≤ c ∧ Below w.heap.size w wr2) (fun _ i _ => l2.length - (intOf i).toNat)
      case atStart => exact ⟨0, b, off, c, M, Nat.zero_le _, rfl, by rw [HM1.out, List.take_zero, List.append_nil], rfl, HRow.out, hMc, hb⟩
      case round =>
        obtain ⟨k, b, off, c, M, hk, rfl, hM, rfl, hrow, hMc, hb⟩ := hrel
        have hMl : M.length ≤ 1048576 := by rw [hM]; exact Nat.le_trans (putsL_le _) (by rw [List.length_append, List.length_take]; omega)
        have HM := Lib.hid hM
        have HRow := Lib.hid hrow
        clear hM hrow
        by_cases hlt : k < l2.length
        · obtain ⟨b1, o1, ha, hc⟩ := (HR2.out.below hb).cell k hlt
          have hf := List.take_succ_eq_append_getElem hlt
          obtain ⟨x, hx⟩ : ∃ x, x = l2[k] := ⟨_, rfl⟩
          rw [← hx] at hc hf
          replace hc : wr.cell? ⟨b1, o1 + k, none⟩ = some (.string x) := hc
          subst ha
          have H : Hid (putL false M x = putsL (l1 ++ l2.take (k + 1))) := Lib.hid (by rw [hf, HM.out, ← List.append_assoc, putsL_snoc])
          clear hf hx
          go_wp2_with (go_at_call 33; refine (l3PutF_any b off c M x _ HRow.out hMl hMc).mono ?_; rintro e w2 ⟨b2, o2, c2', rfl, hrow2, hc2, hb2⟩)
          go_roundw
          case rel => exact ⟨k + 1, b2, o2, c2', _, by omega, by go_num, H.out, rfl, hrow2, hc2, hb.trans (hb2.mono hb.size)⟩
          case measure => simp [intOf]; omega
        · obtain rfl : k = l2.length := by omega
          have H : Hid (M = uniL l1 l2) := Lib.hid (by rw [HM.out, List.take_length]; rfl)
          go_wp2
          go_ret
          exact ⟨b, off, c, by rw [← H.out]; rfl, by rw [← H.out]; exact HRow.out, by rw [← H.out]; exact hMc, hb⟩
end Go.Proofs.Ytojhpmdlhbiomaa

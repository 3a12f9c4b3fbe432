/-
  Walks of IsTokenSet (program and reference). Condition: the strings have at most 2^20 bytes.
-/
import Derived.Test.YtojhpmdlhbiomaaStrs
import Derived.Test.YtojhpmdlhbiomaaCharsW
import Derived.Deep.QuietTactic
import Derived.BigQuiet
import Derived.Deep.RegionHeld3
namespace Go.Proofs.Ytojhpmdlhbiomaa
open Go.RowKit
set_option linter.unusedVariables false
set_option linter.unusedSimpArgs false
set_option maxRecDepth 100000

def alnum (s : ByteArray) : Bool := s.data.toList.all aln
theorem alnum_bad (s : ByteArray) (k : Nat) (h : k < s.size) (hf : aln s[k] = false) : alnum s = false := all_no s k h _ hf
theorem alnum_fold {s : ByteArray} (h : ¬ fold s.data.toList = s.data.toList) : alnum s = false := by
  cases h2 : alnum s
  · rfl
  · exact absurd (fold_id _ h2) h
def tokAt (l : List ByteArray) (k : Nat) : Bool :=
  !decide ((l.getD k .empty).size = 0) && (alnum (l.getD k .empty) && (decide (k = 0) || Go.Op.bytesLess (l.getD (k - 1) .empty).toList (l.getD k .empty).toList))
def tset (l : List ByteArray) : Bool := (List.range l.length).all (tokAt l)
theorem tset_no {l : List ByteArray} {k : Nat} (h : k < l.length) (hf : tokAt l k = false) : tset l = false := by
  cases ht : tset l
  · rfl
  · have := List.all_eq_true.1 ht k (List.mem_range.2 h)
    rw [hf] at this; cases this
theorem tset_yes {l : List ByteArray} (h : ∀ j, j < l.length → tokAt l j = true) : tset l = true :=
  List.all_eq_true.2 fun j hj => h j (List.mem_range.1 hj)
theorem getD_at {l : List ByteArray} {k : Nat} (h : k < l.length) : l.getD k .empty = l[k] := by simp [List.getD, h]
theorem tok_empty {l : List ByteArray} {k : Nat} (h : k < l.length) (he : l[k].size = 0) : tokAt l k = false := by unfold tokAt; rw [getD_at h, he]; rfl
theorem tok_alnum {l : List ByteArray} {k : Nat} (h : k < l.length) (he : alnum l[k] = false) : tokAt l k = false := by unfold tokAt; rw [getD_at h, he]; simp
theorem tok_less {l : List ByteArray} {k : Nat} (h : k < l.length) (h2 : k - 1 < l.length) (h0 : ¬ k = 0) (he : Go.Op.bytesLess l[k - 1].toList l[k].toList = false) : tokAt l k = false := by
  unfold tokAt; rw [getD_at h, getD_at h2, he]; simp [h0]
theorem tok_yes {l : List ByteArray} {k : Nat} (h : k < l.length) (h2 : k - 1 < l.length) (h1 : ¬ l[k].size = 0) (h3 : alnum l[k] = true) (h4 : k = 0 ∨ Go.Op.bytesLess l[k - 1].toList l[k].toList = true) : tokAt l k = true := by
  unfold tokAt; rw [getD_at h, getD_at h2, h3, decide_eq_false h1]; rcases h4 with h4 | h4
  · rw [decide_eq_true h4]; rfl
  · rw [h4]; simp
theorem empty_beq {s : ByteArray} (h : s.size = 0) : s = ByteArray.empty := by
  have : s.data = #[] := Array.eq_empty_of_size_eq_zero h
  cases s; simp_all
theorem isEmpty_no {s : ByteArray} (h : ¬ s.size = 0) : s.toList.isEmpty = false := by
  rw [← decide_eq_emptyBytes]; exact decide_eq_false (by rintro rfl; exact h rfl)
set_option maxHeartbeats 400000 in
theorem isAlphanumeric_any (s : ByteArray) (w : World) (hs : s.size ≤ 9223372036854775807) :
    Calls Try.prog 74 #[.string s] w fun e w' => e = .returned (.bool (alnum s)) ∧ w = w' := by
  go_enter Try.func74, Try.ntmps74
  go_wp2
  go_loop [6] (fun i => ∃ k : Nat, k ≤ s.size ∧ i = .int .i64 k ∧ (s.data.toList.take k).all aln = true) (fun i => s.size - (intOf i).toNat)
  case atStart => exact ⟨0, Nat.zero_le _, rfl, rfl⟩
  case round =>
    obtain ⟨k, hk, rfl, hall⟩ := hrel
    have Hall := Lib.hid hall; clear hall
    by_cases hlt : k < s.size
    · have k1 : (k : Int) < (s.size : Int) := by omega
      cases h1 : rng 97 122 s[k]
      · cases h2 : rng 48 57 s[k]
        · have H := Lib.hid (alnum_bad s k hlt (by unfold aln; rw [h1, h2]; rfl))
          go_wp2_with (first | (go_at_call 81; refine (isSmall_any _ _).mono ?_; rintro e w' ⟨rfl, rfl⟩) | (go_at_call 82; refine (isDigit_any _ _).mono ?_; rintro e w' ⟨rfl, rfl⟩))
          go_ret
          exact ⟨by rw [H.out]; rfl, rfl⟩
        · have H := Lib.hid (all_snoc s k hlt _ Hall.out (by unfold aln; rw [h1, h2]; rfl))
          go_wp2_with (first | (go_at_call 81; refine (isSmall_any _ _).mono ?_; rintro e w' ⟨rfl, rfl⟩) | (go_at_call 82; refine (isDigit_any _ _).mono ?_; rintro e w' ⟨rfl, rfl⟩))
          go_round
          case rel => exact ⟨k + 1, by omega, by go_num, H.out⟩
          case measure => simp [intOf]; omega
      · have H := Lib.hid (all_snoc s k hlt _ Hall.out (by unfold aln; rw [h1]; rfl))
        go_wp2_with (first | (go_at_call 81; refine (isSmall_any _ _).mono ?_; rintro e w' ⟨rfl, rfl⟩) | (go_at_call 82; refine (isDigit_any _ _).mono ?_; rintro e w' ⟨rfl, rfl⟩))
        go_round
        case rel => exact ⟨k + 1, by omega, by go_num, H.out⟩
        case measure => simp [intOf]; omega
    · obtain rfl : k = s.size := by omega
      have H : Hid (alnum s = true) := Lib.hid (by have h := Hall.out; rw [take_all] at h; exact h)
      go_wp2
      go_ret
      exact ⟨by rw [H.out]; rfl, rfl⟩
set_option maxHeartbeats 2000000 in
theorem implIsTokenSet (a1 : Option Addr) (c1 : Nat) (l : List ByteArray) (w : World) (hr : RowAt fS w a1 l) (hl : l.length ≤ 9223372036854775807) (hz : Hid (∀ k (h : k < l.length), l[k].size ≤ 1048576)) :
    Calls Try.prog 60 #[.slice a1 l.length c1] w fun e w' => e = .returned (.bool (tset l)) ∧ Below w.heap.size w w' := by
  go_enter Try.func60, Try.ntmps60
  go_wp2
  go_loopw [7] (fun i wr => ∃ k : Nat, k ≤ l.length ∧ i = .int .i64 k ∧ (∀ j, j < k → tokAt l j = true) ∧ Below w.heap.size w wr) (fun i _ => l.length - (intOf i).toNat)
  case atStart => exact ⟨0, Nat.zero_le _, rfl, by omega, Below.refl _ _⟩
  case round =>
    obtain ⟨k, hk, rfl, hall, hb⟩ := hrel
    have Hall := Lib.hid hall; clear hall
    by_cases hlt : k < l.length
    · have hlt2 : k - 1 < l.length := by omega
      have k1 : (k : Int) < (l.length : Int) := by omega
      obtain ⟨b1, o1, e1, hc1⟩ := (hr.below hb).cell k hlt
      obtain ⟨b2, o2, e2, hc2⟩ := (hr.below hb).cell (k - 1) hlt2
      rw [e1] at e2
      obtain ⟨rfl, rfl⟩ : b1 = b2 ∧ o1 = o2 := by simpa using e2
      subst e1
      clear e2
      unfold fS at hc1 hc2
      have Hem := Lib.hid (fun h => tset_no hlt (tok_empty hlt h))
      have Hal := Lib.hid (fun h => tset_no hlt (tok_alnum hlt h))
      have Hle := Lib.hid (fun h h2 => tset_no hlt (tok_less hlt hlt2 h h2))
      have Hye := Lib.hid (fun h1 h3 h4 => tok_yes hlt hlt2 h1 h3 h4)
      have hx1 := hz.out k hlt
      obtain ⟨x, hx⟩ : ∃ x, x = l[k] := ⟨_, rfl⟩
      obtain ⟨y, hy⟩ : ∃ y, y = l[k - 1] := ⟨_, rfl⟩
      rw [← hx] at hc1 hx1 Hem Hal Hle Hye
      rw [← hy] at hc2 Hle Hye
      clear hx hy
      have Hall2 : Hid (tokAt l k = true → ∀ j, j < k + 1 → tokAt l j = true) := Lib.hid (fun h j hj => by
        by_cases e : j = k
        · subst e; exact h
        · exact Hall.out j (by omega))
      by_cases hem : x.size = 0
      · have H := Lib.hid (Hem.out hem)
        obtain rfl := empty_beq hem
        go_wp2
        go_ret
        exact ⟨by rw [H.out]; rfl, hb⟩
      · have hne := isEmpty_no hem
        have Hem2 := Lib.hid hem; clear hem
        cases hal : alnum x
        · have H := Lib.hid (Hal.out hal)
          go_wp2_with (go_at_call 74; refine (isAlphanumeric_any _ _ (by omega)).mono ?_; rintro e w' ⟨rfl, rfl⟩)
          go_ret
          exact ⟨by rw [H.out]; rfl, hb⟩
        · by_cases h0 : k = 0
          · have H := Lib.hid (Hall2.out (Hye.out Hem2.out hal (Or.inl h0)))
            have d0 : decide ((0 : Int) < (k : Int)) = false := by simp; omega
            have d1 : decide (0 < k) = false := by simp; omega
            have H0 := Lib.hid h0; clear h0 hc2
            go_wp2_with (go_at_call 74; refine (isAlphanumeric_any _ _ (by omega)).mono ?_; rintro e w' ⟨rfl, rfl⟩)
            go_roundw
            case rel => exact ⟨k + 1, by omega, by go_num, H.out, hb⟩
            case measure => simp [intOf]; omega
          · have d0 : (0 : Int) < (k : Int) := by omega
            obtain ⟨m, hm⟩ : ∃ m, m = k - 1 := ⟨_, rfl⟩
            have r1 : (k : Int) - 1 = (m : Int) := by omega
            have r3 : IntKind.i64.wrap (m : Int) = (m : Int) := IntWalk.i64_in _ (by omega)
            have b1 : (m : Int) < (l.length : Int) := by omega
            rw [← hm] at hc2
            clear hm
            cases hle : Go.Op.bytesLess y.toList x.toList
            · have H := Lib.hid (Hle.out h0 hle)
              clear h0
              go_wp2_with (go_at_call 74; refine (isAlphanumeric_any _ _ (by omega)).mono ?_; rintro e w' ⟨rfl, rfl⟩)
              go_ret
              exact ⟨by rw [H.out]; rfl, hb⟩
            · have H := Lib.hid (Hall2.out (Hye.out Hem2.out hal (Or.inr hle)))
              clear h0
              go_wp2_with (go_at_call 74; refine (isAlphanumeric_any _ _ (by omega)).mono ?_; rintro e w' ⟨rfl, rfl⟩)
              go_roundw
              case rel => exact ⟨k + 1, by omega, by go_num, H.out, hb⟩
              case measure => simp [intOf]; omega
    · obtain rfl : k = l.length := by omega
      have H := Lib.hid (tset_yes Hall.out)
      go_wp2
      go_ret
      exact ⟨by rw [H.out]; rfl, hb⟩
theorem bstr_fold_ne {x : ByteArray} (h : ¬ fold x.data.toList = x.data.toList) : ((bstr (fold x.data.toList)).toList == x.toList) = false := by
  rw [beq_str]; apply decide_eq_false; intro e
  exact h (by have := congrArg (fun s : ByteArray => s.data.toList) e; simpa [bstr_list] using this)
theorem bstr_fold_eq {x : ByteArray} (h : fold x.data.toList = x.data.toList) : bstr (fold x.data.toList) = x := by
  rw [h]; exact bstr_of x
theorem keepS {w0 w w' : World} {a : Addr} {v : Value} (hc : Hid (∀ w', Below w0.heap.size w0 w' → w'.cell? a = some v)) (h : w.cell? a = some v ∧ Below w0.heap.size w0 w) (hv : Below w.heap.size w w') : w'.cell? a = some v ∧ Below w0.heap.size w0 w' :=
  have hb := h.2.trans (hv.mono h.2.size)
  ⟨hc.out _ hb, hb⟩
set_option maxHeartbeats 2000000 in
theorem specIsTokenSet (a1 : Option Addr) (c1 : Nat) (l : List ByteArray) (w : World) (hr : RowAt fS w a1 l) (hl : l.length ≤ 9223372036854775807) (hz : Hid (∀ k (h : k < l.length), l[k].size ≤ 1048576)) :
    Calls Try.prog 59 #[.slice a1 l.length c1] w fun e w' => e = .returned (.bool (tset l)) ∧ Below w.heap.size w w' := by
  go_enter Try.func59, Try.ntmps59
  go_wp2
  go_loopw [3] (fun i wr => ∃ k : Nat, k ≤ l.length ∧ i = .int .i64 k ∧ (∀ j, j < k → tokAt l j = true) ∧ Below w.heap.size w wr) (fun i _ => l.length - (intOf i).toNat)
  case atStart => exact ⟨0, Nat.zero_le _, rfl, by omega, Below.refl _ _⟩
  case round =>
    obtain ⟨k, hk, rfl, hall, hb⟩ := hrel
    have Hall := Lib.hid hall; clear hall
    by_cases hlt : k < l.length
    · have hlt2 : k - 1 < l.length := by omega
      have k1 : (k : Int) < (l.length : Int) := by omega
      obtain ⟨b1, o1, e1, hc1⟩ := (hr.below hb).cell k hlt
      obtain ⟨b2, o2, e2, hc2⟩ := (hr.below hb).cell (k - 1) hlt2
      rw [e1] at e2
      obtain ⟨rfl, rfl⟩ : b1 = b2 ∧ o1 = o2 := by simpa using e2
      subst e1
      clear e2
      unfold fS at hc1 hc2
      have Hem := Lib.hid (fun h => tset_no hlt (tok_empty hlt h))
      have Hal := Lib.hid (fun h => tset_no hlt (tok_alnum hlt h))
      have Hle := Lib.hid (fun h h2 => tset_no hlt (tok_less hlt hlt2 h h2))
      have Hye := Lib.hid (fun h1 h3 h4 => tok_yes hlt hlt2 h1 h3 h4)
      have hx1 := hz.out k hlt
      obtain ⟨x, hx⟩ : ∃ x, x = l[k] := ⟨_, rfl⟩
      obtain ⟨y, hy⟩ : ∃ y, y = l[k - 1] := ⟨_, rfl⟩
      rw [← hx] at hc1 hx1 Hem Hal Hle Hye
      rw [← hy] at hc2 Hle Hye
      clear hx hy
      have Hall2 : Hid (tokAt l k = true → ∀ j, j < k + 1 → tokAt l j = true) := Lib.hid (fun h j hj => by
        by_cases e : j = k
        · subst e; exact h
        · exact Hall.out j (by omega))
      by_cases hem : x.size = 0
      · have H := Lib.hid (Hem.out hem)
        obtain rfl := empty_beq hem
        clear hem hc2
        go_wp2
        go_quiet (fail)
        go_wp2
        go_ret
        exact ⟨by rw [H.out]; rfl, hb.trans ((below_drewN _ _).mono hb.size)⟩
      · have hne := isEmpty_no hem
        have Hem2 := Lib.hid hem; clear hem
        by_cases hbad : ¬ k = 0 ∧ Go.Op.bytesLess y.toList x.toList = false
        · obtain ⟨h0, hle⟩ := hbad
          have H := Lib.hid (Hle.out h0 hle)
          have d0 : (0 : Int) < (k : Int) := by omega
          have d1 : decide (0 < k) = true := by simp; omega
          obtain ⟨m, hm⟩ : ∃ m, m = k - 1 := ⟨_, rfl⟩
          have r1 : (k : Int) - 1 = (m : Int) := by omega
          have r3 : IntKind.i64.wrap (m : Int) = (m : Int) := IntWalk.i64_in _ (by omega)
          have bm : (m : Int) < (l.length : Int) := by omega
          rw [← hm] at hc2
          clear hm h0
          go_wp2
          go_quiet (fail)
          go_wp2
          go_ret
          exact ⟨by rw [H.out]; rfl, hb.trans ((below_drewN _ _).mono hb.size)⟩
        · have Hgood : Hid (alnum x = true → ∀ j, j < k + 1 → tokAt l j = true) := Lib.hid (fun hal => Hall2.out (Hye.out Hem2.out hal (by
            by_cases h0 : k = 0
            · exact Or.inl h0
            · refine Or.inr ?_
              cases h : Go.Op.bytesLess y.toList x.toList
              · exact absurd ⟨h0, h⟩ hbad
              · rfl)))
          have hcell : Hid (∀ w', Below wr.heap.size wr w' → w'.cell? ⟨b1, o1 + k, none⟩ = some (.string x)) := Lib.hid (fun w' h => (h.cell (World.block_lt_of_cell? wr _ hc1)).trans hc1)
          by_cases h0 : k = 0
          · have d0 : decide ((0 : Int) < (k : Int)) = false := by simp; omega
            have d1 : decide (0 < k) = false := by simp; omega
            have H0 := Lib.hid h0; clear h0 hc2 hbad
            go_wp2
            go_quiet (fail)
            clear hc1
            go_wp2
            obtain ⟨wo, rfl⟩ : ∃ wo : World, wo = wr := ⟨_, rfl⟩
            have hbq : Below wo.heap.size wo (wo.drewN nq) := below_drewN _ _
            generalize hw2 : wo.drewN nq = w2
            rw [hw2] at hbq
            clear hw2
            go_loopw [4] (fun i wi => ∃ j : Nat, j ≤ x.size ∧ i = .int .i64 j ∧ (x.data.toList.take j).all wordB = true ∧ (j = 0 ∨ fold x.data.toList = x.data.toList) ∧ Below wo.heap.size wo wi) (fun i _ => x.size - (intOf i).toNat)
            case atStart => exact ⟨0, Nat.zero_le _, rfl, rfl, Or.inl rfl, hbq⟩
            case round =>
              obtain ⟨j, hj, rfl, hw, hf, hbi⟩ := hrel
              have hc := hcell.out _ hbi
              have Hw := Lib.hid hw; have Hf := Lib.hid hf
              clear hw hf
              by_cases hlj : j < x.size
              · have j1 : (j : Int) < (x.size : Int) := by omega
                cases hwd : wordB x[j]
                · have H := Lib.hid (Hal.out (alnum_bad x j hlj (by
                    cases h : aln x[j]
                    · rfl
                    · exfalso; unfold aln at h; unfold wordB at hwd; cases h1 : rng 97 122 x[j] <;> cases h2 : rng 48 57 x[j] <;> simp [h1, h2] at h hwd)))
                  go_wp2
                  go_quiet ((go_at_call 72; exact Calls.quiet_of_same ((l2Word_any _ _).mono fun _ _ ⟨h1, h2⟩ => ⟨h1, h2.symm⟩)))
                  go_wp2
                  go_ret
                  exact ⟨by rw [H.out]; rfl, hb.trans ((hbi.trans ((below_drewN _ _).mono hbi.size)).mono hb.size)⟩
                · by_cases hfo : fold x.data.toList = x.data.toList
                  · have hsn := all_snoc x j hlj _ Hw.out hwd
                    have Hsn := Lib.hid hsn; clear hsn
                    have Hb : Hid (bstr (fold x.data.toList) = x) := Lib.hid (bstr_fold_eq hfo)
                    have Hfo := Lib.hid hfo; clear hfo
                    have Hbi := Lib.hid hbi
                    go_wp2
                    go_region_held3 (fun W => W.cell? ⟨b1, o1 + k, none⟩ = some (.string x) ∧ Below wo.heap.size wo W) (first | assumption | exact ⟨hcell.out _ Hbi.out.drew, Hbi.out.drew⟩ | exact keepS hcell (by assumption) (by assumption)) (first
                      | (go_at_call 72; refine (l2Word_any _ _).mono ?_; rintro e w' ⟨rfl, rfl⟩; rw [hwd])
                      | (go_at_call 73; refine (specFoldCase x _ hx1).mono ?_; rintro e w' ⟨rfl, hv⟩; rw [Hb.out]))
                    go_wp2
                    go_roundw
                    case rel => exact ⟨j + 1, by omega, by go_num, Hsn.out, Or.inr Hfo.out, And.right (by assumption)⟩
                    case measure => simp [intOf]; omega
                  · have H := Lib.hid (Hal.out (alnum_fold hfo))
                    have hq := bstr_fold_ne hfo
                    have Hfo := Lib.hid hfo; clear hfo
                    have Hbi := Lib.hid hbi
                    have hq2 : ((bstr (fold x.data.toList)).toList != x.toList) = true := by rw [bne, hq]; rfl
                    go_wp2
                    go_region_held3 (fun W => W.cell? ⟨b1, o1 + k, none⟩ = some (.string x) ∧ Below wo.heap.size wo W) (first | assumption | exact ⟨hcell.out _ Hbi.out.drew, Hbi.out.drew⟩ | exact keepS hcell (by assumption) (by assumption)) (first
                      | (go_at_call 72; refine (l2Word_any _ _).mono ?_; rintro e w' ⟨rfl, rfl⟩; rw [hwd])
                      | (go_at_call 73; refine (specFoldCase x _ hx1).mono ?_; rintro e w' ⟨rfl, hv⟩))
                    go_wp2
                    go_ret
                    exact ⟨by rw [H.out]; rfl, hb.trans (Below.mono (B := wo.heap.size) (And.right (by assumption)) hb.size)⟩
              · obtain rfl : j = x.size := by omega
                have H := Lib.hid (Hgood.out (by
                  have h1 := Hw.out
                  rw [take_all] at h1
                  rcases Hf.out with h2 | h2
                  · exact absurd h2 Hem2.out
                  · exact alnum_yes _ h1 h2))
                go_wp2
                go_roundw
                case rel => exact ⟨k + 1, by omega, by go_num, H.out, hb.trans (hbi.mono hb.size)⟩
                case measure => simp [intOf]; omega
          · have hle : Go.Op.bytesLess y.toList x.toList = true := by
              cases h : Go.Op.bytesLess y.toList x.toList
              · exact absurd ⟨h0, h⟩ hbad
              · rfl
            have d0 : (0 : Int) < (k : Int) := by omega
            have d1 : decide (0 < k) = true := by simp; omega
            obtain ⟨m, hm⟩ : ∃ m, m = k - 1 := ⟨_, rfl⟩
            have r1 : (k : Int) - 1 = (m : Int) := by omega
            have r3 : IntKind.i64.wrap (m : Int) = (m : Int) := IntWalk.i64_in _ (by omega)
            have bm : (m : Int) < (l.length : Int) := by omega
            rw [← hm] at hc2
            clear hm hbad h0
            go_wp2
            go_quiet (fail)
            clear hc1 hc2 r1 r3 hle
            go_wp2
            obtain ⟨wo, rfl⟩ : ∃ wo : World, wo = wr := ⟨_, rfl⟩
            have hbq : Below wo.heap.size wo (wo.drewN nq) := below_drewN _ _
            generalize hw2 : wo.drewN nq = w2
            rw [hw2] at hbq
            clear hw2
            go_loopw [4] (fun i wi => ∃ j : Nat, j ≤ x.size ∧ i = .int .i64 j ∧ (x.data.toList.take j).all wordB = true ∧ (j = 0 ∨ fold x.data.toList = x.data.toList) ∧ Below wo.heap.size wo wi) (fun i _ => x.size - (intOf i).toNat)
            case atStart => exact ⟨0, Nat.zero_le _, rfl, rfl, Or.inl rfl, hbq⟩
            case round =>
              obtain ⟨j, hj, rfl, hw, hf, hbi⟩ := hrel
              have hc := hcell.out _ hbi
              have Hw := Lib.hid hw; have Hf := Lib.hid hf
              clear hw hf
              by_cases hlj : j < x.size
              · have j1 : (j : Int) < (x.size : Int) := by omega
                cases hwd : wordB x[j]
                · have H := Lib.hid (Hal.out (alnum_bad x j hlj (by
                    cases h : aln x[j]
                    · rfl
                    · exfalso; unfold aln at h; unfold wordB at hwd; cases h1 : rng 97 122 x[j] <;> cases h2 : rng 48 57 x[j] <;> simp [h1, h2] at h hwd)))
                  go_wp2
                  go_quiet ((go_at_call 72; exact Calls.quiet_of_same ((l2Word_any _ _).mono fun _ _ ⟨h1, h2⟩ => ⟨h1, h2.symm⟩)))
                  go_wp2
                  go_ret
                  exact ⟨by rw [H.out]; rfl, hb.trans ((hbi.trans ((below_drewN _ _).mono hbi.size)).mono hb.size)⟩
                · by_cases hfo : fold x.data.toList = x.data.toList
                  · have hsn := all_snoc x j hlj _ Hw.out hwd
                    have Hsn := Lib.hid hsn; clear hsn
                    have Hb : Hid (bstr (fold x.data.toList) = x) := Lib.hid (bstr_fold_eq hfo)
                    have Hfo := Lib.hid hfo; clear hfo
                    have Hbi := Lib.hid hbi
                    go_wp2
                    go_region_held3 (fun W => W.cell? ⟨b1, o1 + k, none⟩ = some (.string x) ∧ Below wo.heap.size wo W) (first | assumption | exact ⟨hcell.out _ Hbi.out.drew, Hbi.out.drew⟩ | exact keepS hcell (by assumption) (by assumption)) (first
                      | (go_at_call 72; refine (l2Word_any _ _).mono ?_; rintro e w' ⟨rfl, rfl⟩; rw [hwd])
                      | (go_at_call 73; refine (specFoldCase x _ hx1).mono ?_; rintro e w' ⟨rfl, hv⟩; rw [Hb.out]))
                    go_wp2
                    go_roundw
                    case rel => exact ⟨j + 1, by omega, by go_num, Hsn.out, Or.inr Hfo.out, And.right (by assumption)⟩
                    case measure => simp [intOf]; omega
                  · have H := Lib.hid (Hal.out (alnum_fold hfo))
                    have hq := bstr_fold_ne hfo
                    have Hfo := Lib.hid hfo; clear hfo
                    have Hbi := Lib.hid hbi
                    have hq2 : ((bstr (fold x.data.toList)).toList != x.toList) = true := by rw [bne, hq]; rfl
                    go_wp2
                    go_region_held3 (fun W => W.cell? ⟨b1, o1 + k, none⟩ = some (.string x) ∧ Below wo.heap.size wo W) (first | assumption | exact ⟨hcell.out _ Hbi.out.drew, Hbi.out.drew⟩ | exact keepS hcell (by assumption) (by assumption)) (first
                      | (go_at_call 72; refine (l2Word_any _ _).mono ?_; rintro e w' ⟨rfl, rfl⟩; rw [hwd])
                      | (go_at_call 73; refine (specFoldCase x _ hx1).mono ?_; rintro e w' ⟨rfl, hv⟩))
                    go_wp2
                    go_ret
                    exact ⟨by rw [H.out]; rfl, hb.trans (Below.mono (B := wo.heap.size) (And.right (by assumption)) hb.size)⟩
              · obtain rfl : j = x.size := by omega
                have H := Lib.hid (Hgood.out (by
                  have h1 := Hw.out
                  rw [take_all] at h1
                  rcases Hf.out with h2 | h2
                  · exact absurd h2 Hem2.out
                  · exact alnum_yes _ h1 h2))
                go_wp2
                go_roundw
                case rel => exact ⟨k + 1, by omega, by go_num, H.out, hb.trans (hbi.mono hb.size)⟩
                case measure => simp [intOf]; omega
    · obtain rfl : k = l.length := by omega
      have H := Lib.hid (tset_yes Hall.out)
      go_wp2
      go_ret
      exact ⟨by rw [H.out]; rfl, hb⟩
end Go.Proofs.Ytojhpmdlhbiomaa

/-
  Walks of CommonGrams (program and reference). Condition: at most 2^20 elements each.
-/
import Derived.Test.YtoijjielnbcphaaGreatDoorSortS
import Derived.Deep.QuietTactic
import Derived.BigQuiet
import Derived.Deep.RegionHeld3
namespace Go.Proofs.YtoijjielnbcphaaGreatDoor
open Go.RowKit Go.Sort
set_option linter.unusedVariables false
set_option linter.unusedSimpArgs false
set_option maxRecDepth 100000
def lenOfS : Value → Nat
  | .slice _ n _ => n
  | _ => 0
def comG (a b : List ByteArray) : Nat := interN (a.map bs) (b.map bs)
theorem comG_le (a b : List ByteArray) : comG a b ≤ a.length := by have := interN_le_left (a.map bs) (b.map bs); rw [List.length_map] at this; exact this
theorem rowHead {w : World} {a : Option Addr} {x : ByteArray} {r : List ByteArray} (h : RowAt fS w a (x :: r)) : ∃ b off, a = some ⟨b, off, none⟩ ∧ w.cell? ⟨b, off, none⟩ = some (.string x) := by
  obtain ⟨b, off, h1, h2⟩ := h.cell 0 (by simp)
  exact ⟨b, off, h1, h2⟩
theorem rowTail {w : World} {b off c : Nat} {x : ByteArray} {r : List ByteArray} (h : RowAt fS w (some ⟨b, off, none⟩) (x :: r)) (hc : (x :: r).length ≤ c) : RowAt fS w (if c = 1 then some ⟨b, off, none⟩ else some ⟨b, off + 1, none⟩) r := by
  split
  · rename_i h1
    left
    simp at hc
    exact List.eq_nil_of_length_eq_zero (by omega)
  · rcases h with h | ⟨b', off', h1, h2⟩
    · cases h
    · injection h1 with h1
      injection h1 with e1 e2 e3
      subst e1 e2
      exact Or.inr ⟨_, _, rfl, fun i y hy => by
        have := h2 (i + 1) y (by simpa using hy)
        rw [show off + 1 + i = off + (i + 1) by omega]; exact this⟩
theorem ups_tail {x : Bs} {l : List Bs} (h : Ups (x :: l)) : Ups l := (List.pairwise_cons.1 h).2
theorem ownMono {w : World} {B B' : Nat} {e : TypeId} {v : Value} {n : Nat} {xs : List Value} (h : w.ownsRow B e 1 v n xs) (hB : B' ≤ B) : w.ownsRow B' e 1 v n xs := by
  refine ⟨h.1, ?_⟩
  rcases h.2 with h1 | ⟨g, cap', cur, h1, h2, h3⟩
  · exact Or.inl h1
  · exact Or.inr ⟨g, cap', cur, h1, Nat.le_trans hB h2, h3⟩
theorem ownCap {w : World} {B : Nat} {e : TypeId} {a : Option Addr} {n cap : Nat} {xs : List Value} (h : w.ownsRow B e 1 (.slice a n cap) n xs) : n ≤ cap := by
  rcases h.2 with ⟨h1, h2⟩ | ⟨g, cap', cur, h1, _, _, h4, _⟩
  · omega
  · injection h1 with e1 e2 e3; omega
set_option maxHeartbeats 1600000 in
theorem implComG (a1 a2 : Option Addr) (c1 c2 : Nat) (l1 l2 : List ByteArray) (w : World) (hr1 : RowAt fS w a1 l1) (hr2 : RowAt fS w a2 l2) (h1 : l1.length ≤ 1048576) (h2 : l2.length ≤ 1048576) :
    Calls Tryz.prog 28 #[.slice a1 l1.length c1, .slice a2 l2.length c2] w fun e w' => e = .returned (.int .i64 (comG l1 l2)) ∧ Below w.heap.size w w' := by
  have HN : Hid (interN ((srt l1).map bs) ((srt l2).map bs) = comG l1 l2) := Lib.hid (by rw [srt_bs, srt_bs, interN_sort]; rfl)
  have HU1 : Hid (Ups ((srt l1).map bs)) := Lib.hid (by rw [srt_bs]; exact List.pairwise_mergeSort leS_tr leS_tot _)
  have HU2 : Hid (Ups ((srt l2).map bs)) := Lib.hid (by rw [srt_bs]; exact List.pairwise_mergeSort leS_tr leS_tot _)
  have HL1 := Lib.hid (srt_len l1)
  have HL2 := Lib.hid (srt_len l2)
  go_enter Tryz.func28, Tryz.ntmps28
  go_wp2_with fail
  refine (cloneS a1 c1 l1 _ hr1 h1).mono ?_
  rintro e w1 ⟨x1, d1, rfl, hB1⟩
  have hr2' := hr2.below hB1.bel
  clear hr2 hr1
  go_wp2_with fail
  refine (cloneS a2 c2 l2 _ hr2' h2).mono ?_
  rintro e w2 ⟨x2, d2, rfl, hB2⟩
  clear hr2'
  have hbel2 := hB1.bel.trans (hB2.bel.mono hB1.big)
  have ho1 := (hB1.below hB2.bel).own
  have ho2 := hB2.own
  have hne : ∀ k, (Value.slice x1 l1.length d1).ownBlock = some k → k < w1.heap.size := fun k hk => (hB1.own.lt k hk).2
  have hge : ∀ k, (Value.slice x2 l2.length d2).ownBlock = some k → w1.heap.size ≤ k := fun k hk => (ho2.lt k hk).1
  have Hbel2 := Lib.hid hbel2
  have Ho1 := Lib.hid ho1
  have Ho2 := Lib.hid ho2
  have Hne := Lib.hid hne
  have Hge := Lib.hid hge
  have Hsz := Lib.hid hB1.big
  clear hB1 hB2 hbel2 ho1 ho2 hne hge
  go_wp2_with fail
  refine (sortO _ l1 _ _ Ho1.out h1).mono ?_
  rintro e w3 ⟨rfl, hs1, hg3⟩
  have hs2 : w3.ownsRow w1.heap.size 9 1 (.slice x2 l2.length d2) l2.length (l2.map fS) := Ho2.out.kept hg3 (by
    cases hk : (Value.slice x2 l2.length d2).ownBlock with
    | none => exact Or.inl rfl
    | some k => exact Or.inr fun e => by have p1 := Hge.out k hk; have p2 := Hne.out k e.symm; omega)
  have hbel3 : Below w.heap.size w w3 := Hbel2.out.grown hg3 Hbel2.out.size (fun k hk => (Ho1.out.lt k hk).1)
  have Hs1 := Lib.hid hs1
  have Hbel3 := Lib.hid hbel3
  have Hs2 := Lib.hid hs2
  clear hs1 hs2 hbel3 hg3 Ho1 Ho2 Hbel2
  go_wp2_with fail
  refine (sortO _ l2 _ _ Hs2.out h2).mono ?_
  rintro e w4 ⟨rfl, hs4, hg4⟩
  have hs3 : w4.ownsRow w.heap.size 9 1 (.slice x1 l1.length d1) l1.length ((srt l1).map fS) := Hs1.out.kept hg4 (by
    cases hk : (Value.slice x1 l1.length d1).ownBlock with
    | none => exact Or.inl rfl
    | some k => exact Or.inr fun e => by have p1 := Hge.out k e.symm; have p2 := Hne.out k hk; omega)
  have hbel4 : Below w.heap.size w w4 := Hbel3.out.grown hg4 Hbel3.out.size (fun k hk => Nat.le_trans Hsz.out (Hge.out k hk))
  have R1 : RowAt fS w4 x1 (srt l1) := by
    have : BldG fS 9 w.heap.size w w4 (.slice x1 l1.length d1) (srt l1) := ⟨by rw [srt_len]; exact hs3, hbel4, hbel4.size⟩
    exact this.row.at
  have R2 : RowAt fS w4 x2 (srt l2) := by
    have : BldG fS 9 w.heap.size w w4 (.slice x2 l2.length d2) (srt l2) := ⟨by rw [srt_len]; exact ownMono hs4 Hsz.out, hbel4, hbel4.size⟩
    exact this.row.at
  have C1 : l1.length ≤ d1 := ownCap hs3
  have C2 : l2.length ≤ d2 := ownCap hs4
  have HR1 := Lib.hid R1
  have HR2 := Lib.hid R2
  have Hb4 := Lib.hid hbel4
  clear hs3 hs4 hg4 hbel4 R1 R2 Hs1 Hs2 Hbel3 Hne Hge Hsz
  go_wp2
  go_loopw [5, 6, 7] (fun vx vy cn wr => ∃ (x y : List ByteArray) (ax ay : Option Addr) (cx cy n : Nat), vx = .slice ax x.length cx ∧ vy = .slice ay y.length cy ∧ cn = .int .i64 n ∧ x.length ≤ cx ∧ y.length ≤ cy ∧ RowAt fS w4 ax x ∧ RowAt fS w4 ay y ∧ Ups (x.map bs) ∧ Ups (y.map bs) ∧ n + interN (x.map bs) (y.map bs) = comG l1 l2 ∧ Below w4.heap.size w4 wr) (fun vx vy _ _ => lenOfS vx + lenOfS vy)
  case atStart => exact ⟨srt l1, srt l2, x1, x2, d1, d2, 0, by rw [HL1.out], by rw [HL2.out], rfl, by rw [HL1.out]; exact C1, by rw [HL2.out]; exact C2, HR1.out, HR2.out, HU1.out, HU2.out, by rw [HN.out, Nat.zero_add], Below.refl _ _⟩
  case round =>
    obtain ⟨x, y, ax, ay, cx, cy, n, rfl, rfl, rfl, hcx, hcy, hrx, hry, hux, huy, hn, hb⟩ := hrel
    have Hn := Lib.hid hn
    have Hux := Lib.hid hux
    have Huy := Lib.hid huy
    have Hrx := Lib.hid hrx
    have Hry := Lib.hid hry
    clear hn hux huy hrx hry
    cases x with
    | nil =>
      have H : Hid (n = comG l1 l2) := Lib.hid (by have := Hn.out; simpa [interN] using this)
      go_wp2
      go_ret
      exact ⟨by rw [← H.out]; rfl, Hb4.out.trans (hb.mono Hb4.out.size)⟩
    | cons xa x =>
      cases y with
      | nil =>
        have H : Hid (n = comG l1 l2) := Lib.hid (by have := Hn.out; rw [List.map_nil, interN_nil] at this; exact this)
        go_wp2
        go_ret
        exact ⟨by rw [← H.out]; rfl, Hb4.out.trans (hb.mono Hb4.out.size)⟩
      | cons yb y =>
        obtain ⟨bx, ox, hax, hx0⟩ := rowHead (Hrx.out.below hb)
        obtain ⟨by_, oy, hay, hy0⟩ := rowHead (Hry.out.below hb)
        subst hax hay
        have hnl : n ≤ 1048576 := by have := Hn.out; have := comG_le l1 l2; omega
        cases g1 : Go.Op.bytesLess xa.toList yb.toList
        · have g1' := g1
          rw [less_bs, decide_eq_false_iff_not] at g1'
          have G1 := Lib.hid g1'
          clear g1'
          cases g2 : Go.Op.bytesLess yb.toList xa.toList
          · have g2' := g2
            rw [less_bs, decide_eq_false_iff_not] at g2'
            have Hn2 : Hid ((n + 1) + interN (x.map bs) (y.map bs) = comG l1 l2) := Lib.hid (by
              have := Hn.out; rw [List.map_cons, List.map_cons, interN_eq G1.out g2'] at this; omega)
            clear g2'
            go_wp2
            go_quiet (fail)
            go_wp2
            go_quiet (fail)
            go_wp2
            go_quiet (fail)
            go_wp2
            go_roundw
            case rel => exact ⟨x, y, _, _, _, _, n + 1, rfl, rfl, by go_num, by simp at hcx ⊢; omega, by simp at hcy ⊢; omega, by (have hh := rowTail (Hrx).out hcx; simpa using hh), by (have hh := rowTail (Hry).out hcy; simpa using hh), ups_tail Hux.out, ups_tail Huy.out, Hn2.out, hb.trans ((below_drewN _ _).mono hb.size)⟩
            case measure => simp [lenOfS]; omega
          · have g2' := g2
            rw [less_bs, decide_eq_true_eq] at g2'
            have Hn2 : Hid (n + interN ((xa :: x).map bs) (y.map bs) = comG l1 l2) := Lib.hid (by
              have := Hn.out; rw [List.map_cons, List.map_cons, interN_gt (by have := Hux.out; rwa [List.map_cons] at this) g2'] at this; exact this)
            clear g2'
            go_wp2
            go_quiet (fail)
            go_wp2
            go_quiet (fail)
            go_wp2
            go_roundw
            case rel => exact ⟨xa :: x, y, _, _, _, _, n, rfl, rfl, rfl, hcx, by simp at hcy ⊢; omega, Hrx.out, by (have hh := rowTail (Hry).out hcy; simpa using hh), Hux.out, ups_tail Huy.out, Hn2.out, hb.trans ((below_drewN _ _).mono hb.size)⟩
            case measure => simp [lenOfS]
        · have g1' := g1
          rw [less_bs, decide_eq_true_eq] at g1'
          have Hn2 : Hid (n + interN (x.map bs) ((yb :: y).map bs) = comG l1 l2) := Lib.hid (by
            have := Hn.out; rw [List.map_cons, List.map_cons, interN_lt (by have := Huy.out; rwa [List.map_cons] at this) g1'] at this; exact this)
          clear g1'
          go_wp2
          go_quiet (fail)
          go_wp2
          go_roundw
          case rel => exact ⟨x, yb :: y, _, _, _, _, n, rfl, rfl, rfl, by simp at hcx ⊢; omega, hcy, by (have hh := rowTail (Hrx).out hcx; simpa using hh), Hry.out, ups_tail Hux.out, Huy.out, Hn2.out, hb.trans ((below_drewN _ _).mono hb.size)⟩
          case measure => simp [lenOfS]
def cntB (l : List ByteArray) (s : ByteArray) : Nat := (l.map bs).count (bs s)
theorem beq_bs (x y : ByteArray) : (x.toList == y.toList) = (bs x == bs y) := by rw [toList_eq, toList_eq]; rfl
theorem cntB_snoc (l : List ByteArray) (s : ByteArray) (k : Nat) (h : k < l.length) : cntB (l.take (k + 1)) s = cntB (l.take k) s + if (l[k].toList == s.toList) then 1 else 0 := by
  unfold cntB
  rw [List.take_succ_eq_append_getElem h, List.map_append, List.count_append, beq_bs]
  simp [List.count_cons]
theorem cntB_le (l : List ByteArray) (s : ByteArray) : cntB l s ≤ l.length := by unfold cntB; have := List.count_le_length (a := bs s) (l := l.map bs); rwa [List.length_map] at this
theorem cntB_take_le (l : List ByteArray) (s : ByteArray) (k : Nat) : cntB (l.take k) s ≤ k := by have := cntB_le (l.take k) s; rw [List.length_take] at this; omega
theorem RowAt.take {α : Type} {f : α → Value} {w : World} {a : Option Addr} {l : List α} (h : RowAt f w a l) (k : Nat) : RowAt f w a (l.take k) := by
  rcases h with h | ⟨b, off, h1, h2⟩
  · subst h; left; simp
  · exact Or.inr ⟨b, off, h1, fun i x hx => h2 i x (by
      rw [List.getElem?_take] at hx; split at hx
      · exact hx
      · cases hx)⟩
set_option maxHeartbeats 800000 in
theorem l3Count_any (a : Option Addr) (n c : Nat) (l : List ByteArray) (s : ByteArray) (w : World) (hr : RowAt fS w a l) (hn : l.length = n) (hl : l.length ≤ 1048576) :
    Calls Tryz.prog 49 #[.slice a n c, .string s] w fun e w' => e = .returned (.int .i64 (cntB l s)) ∧ w = w' := by
  subst hn
  have HR := Lib.hid hr
  clear hr
  go_enter Tryz.func49, Tryz.ntmps49
  go_wp2
  go_loopw [5, 6] (fun v i wr => ∃ k : Nat, k ≤ l.length ∧ i = .int .i64 k ∧ v = .int .i64 (cntB (l.take k) s) ∧ wr = w) (fun _ i _ => l.length - (intOf i).toNat)
  case atStart => exact ⟨0, Nat.zero_le _, rfl, rfl, rfl⟩
  case round =>
    obtain ⟨k, hk, rfl, rfl, hw⟩ := hrel
    have HW := Lib.hid hw
    by_cases hlt : k < l.length
    · obtain ⟨b, off, ha, hc⟩ := (HR.out).cell k hlt
      rw [← hw] at hc
      clear hw
      have HA := Lib.hid ha
      obtain ⟨x, hx⟩ : ∃ x, x = l[k] := ⟨_, rfl⟩
      have hs := cntB_snoc l s k hlt
      have hle := cntB_take_le l s k
      rw [← hx] at hc hs
      replace hc : wr.cell? ⟨b, off + k, none⟩ = some (.string x) := hc
      obtain ⟨m, hm⟩ : ∃ m, m = cntB (l.take k) s := ⟨_, rfl⟩
      rw [← hm] at hs hle ⊢
      cases he : (x.toList == s.toList)
      · have H : Hid (cntB (l.take (k + 1)) s = m) := Lib.hid (by rw [hs, he]; rfl)
        clear hs hx hm
        subst ha
        go_wp2
        go_roundw
        case rel => exact ⟨k + 1, by omega, by go_num, by rw [H.out], HW.out⟩
        case measure => simp [intOf]; omega
      · have H : Hid (cntB (l.take (k + 1)) s = m + 1) := Lib.hid (by rw [hs, he]; rfl)
        clear hs hx hm
        subst ha
        go_wp2
        go_roundw
        case rel => exact ⟨k + 1, by omega, by go_num, by rw [H.out]; go_num, HW.out⟩
        case measure => simp [intOf]; omega
    · obtain rfl : k = l.length := by omega
      clear hw
      have H : Hid (cntB (l.take l.length) s = cntB l s) := Lib.hid (by rw [List.take_length])
      go_wp2
      go_ret
      exact ⟨by rw [← H.out]; rfl, HW.out.symm⟩
theorem l3Count_val (a : Option Addr) (n c : Nat) (l : List ByteArray) (s : ByteArray) (w : World) (p : Nat) (hp : cntB l s = p) (hr : RowAt fS w a l) (hn : l.length = n) (hl : l.length ≤ 1048576) :
    Calls Tryz.prog 49 #[.slice a n c, .string s] w fun e w' => e = .returned (.int .i64 p) ∧ w' = w :=
  (l3Count_any a n c l s w hr hn hl).mono fun _ _ ⟨e1, e2⟩ => ⟨by rw [e1, hp], e2.symm⟩
theorem cntS_bs (l1 l2 : List ByteArray) (k : Nat) (h : k < l1.length) : cntS (l1.map bs) (l2.map bs) (k + 1) = cntS (l1.map bs) (l2.map bs) k + if cntB (l1.take k) l1[k] < cntB l2 l1[k] then 1 else 0 := by
  rw [cntS_succ]
  have e : (l1.map bs).getD k [] = bs l1[k] := by simp [List.getD, h]
  rw [e, ← List.map_take]
  rfl
theorem cntS_le (a b : List Bs) (k : Nat) : cntS a b k ≤ k := by
  unfold cntS
  refine Nat.le_trans (List.length_filter_le _ _) ?_
  rw [List.length_range]; exact Nat.le_refl _
set_option maxHeartbeats 1600000 in
theorem specComG (a1 a2 : Option Addr) (c1 c2 : Nat) (l1 l2 : List ByteArray) (w : World) (hr1 : RowAt fS w a1 l1) (hr2 : RowAt fS w a2 l2) (h1 : l1.length ≤ 1048576) (h2 : l2.length ≤ 1048576) (hc1 : l1.length ≤ c1) :
    Calls Tryz.prog 29 #[.slice a1 l1.length c1, .slice a2 l2.length c2] w fun e w' => e = .returned (.int .i64 (comG l1 l2)) ∧ Below w.heap.size w w' := by
  have HR1 := Lib.hid hr1
  have HR2 := Lib.hid hr2
  clear hr1 hr2
  go_enter Tryz.func29, Tryz.ntmps29
  go_wp2
  go_loopw [5, 6] (fun v i wr => ∃ k : Nat, k ≤ l1.length ∧ i = .int .i64 k ∧ v = .int .i64 (cntS (l1.map bs) (l2.map bs) k) ∧ Below w.heap.size w wr) (fun _ i _ => l1.length - (intOf i).toNat)
  case atStart => exact ⟨0, Nat.zero_le _, rfl, rfl, Below.refl _ _⟩
  case round =>
    obtain ⟨k, hk, rfl, rfl, hb⟩ := hrel
    by_cases hlt : k < l1.length
    · have hs := cntS_bs l1 l2 k hlt
      have hle := cntS_le (l1.map bs) (l2.map bs) k
      obtain ⟨m, hm⟩ : ∃ m, m = cntS (l1.map bs) (l2.map bs) k := ⟨_, rfl⟩
      rw [← hm] at hs hle ⊢
      obtain ⟨b, off, ha, hc⟩ := (HR1.out.below hb).cell k hlt
      have hrt := ((HR1.out.below hb).take k)
      obtain ⟨x, hx⟩ : ∃ x, x = l1[k] := ⟨_, rfl⟩
      rw [← hx] at hc hs
      replace hc : wr.cell? ⟨b, off + k, none⟩ = some (.string x) := hc
      have hln : (l1.take k).length = k := by rw [List.length_take]; omega
      have hlm : (l1.take k).length ≤ 1048576 := by omega
      subst ha
      have HT := Lib.hid hrt
      have HLn := Lib.hid hln
      have HR2' := Lib.hid (HR2.out.below hb)
      have HS := Lib.hid hs
      clear hrt hln hs hx hm
      obtain ⟨p, hp⟩ : ∃ p, p = cntB (l1.take k) x := ⟨_, rfl⟩
      obtain ⟨q, hq⟩ : ∃ q, q = cntB l2 x := ⟨_, rfl⟩
      rw [← hp, ← hq] at HS
      have HP := Lib.hid hp
      have HQ := Lib.hid hq
      clear hp hq
      have A1 : ∀ n, Calls Tryz.prog 49 #[.slice (some ⟨b, off, none⟩) k c1, .string x] (wr.drewN n) fun e w' => e = .returned (.int .i64 p) ∧ w' = wr.drewN n := fun n =>
        l3Count_val _ k c1 _ x _ p HP.out.symm (HT.out.drewN n) HLn.out hlm
      have A2 : ∀ n, Calls Tryz.prog 49 #[.slice a2 l2.length c2, .string x] (wr.drewN n) fun e w' => e = .returned (.int .i64 q) ∧ w' = wr.drewN n := fun n =>
        l3Count_val _ _ c2 _ x _ q HQ.out.symm (HR2'.out.drewN n) rfl h2
      have HA1 := Lib.hid A1
      have HA2 := Lib.hid A2
      have c0 : ¬ c1 = 0 := by omega
      clear A1 A2 hlm
      go_wp2
      go_quiet ((go_at_call 49; first | with_reducible exact Calls.quiet_of_same (HA1.out _) | with_reducible exact Calls.quiet_of_same (HA2.out _)))
      by_cases hpq : p < q
      · have d1 : decide ((p : Int) < (q : Int)) = true := decide_eq_true (by omega)
        have H : Hid (cntS (l1.map bs) (l2.map bs) (k + 1) = m + 1) := Lib.hid (by rw [HS.out, if_pos hpq])
        go_wp2
        go_roundw
        case rel => exact ⟨k + 1, by omega, by go_num, by rw [H.out]; go_num, hb.trans ((below_drewN _ _).mono hb.size)⟩
        case measure => simp [intOf]; omega
      · have d1 : decide ((p : Int) < (q : Int)) = false := decide_eq_false (by omega)
        have H : Hid (cntS (l1.map bs) (l2.map bs) (k + 1) = m) := Lib.hid (by rw [HS.out, if_neg hpq]; rfl)
        go_wp2
        go_roundw
        case rel => exact ⟨k + 1, by omega, by go_num, by rw [H.out], hb.trans ((below_drewN _ _).mono hb.size)⟩
        case measure => simp [intOf]; omega
    · obtain rfl : k = l1.length := by omega
      have H : Hid (cntS (l1.map bs) (l2.map bs) l1.length = comG l1 l2) := Lib.hid (by have := cntS_all (l1.map bs) (l2.map bs); rw [List.length_map] at this; exact this)
      go_wp2
      go_ret
      exact ⟨by rw [← H.out]; rfl, hb⟩
end Go.Proofs.YtoijjielnbcphaaGreatDoor

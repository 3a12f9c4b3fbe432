/-
  Walks of EditScript (program and reference). No condition.
-/
import Derived.Test.YtoijjielnbcphaaEdit
import Derived.Test.YtoijjielnbcphaaScriptLaw
import Derived.Test.YtoijjielnbcphaaIsText
import Derived.Deep.RegionHeld3
namespace Go.Proofs.Ytoijjielnbcphaa
open Go.RowKit
set_option linter.unusedVariables false
set_option linter.unusedSimpArgs false
set_option maxRecDepth 100000
theorem Bld.drewN {e : TypeId} {B : Nat} {w0 w : World} {v : Value} {l : List UInt8} (h : Bld e B w0 w v l) (k : Nat) : Bld e B w0 (w.drewN k) v l :=
  ⟨h.own, h.bel.trans ((below_drewN w k).mono h.big), h.big⟩
theorem catE_ok (a b : List UInt8) (h : a.length + b.length ≤ 1000000000000) : ¬ 9223372036854775807 < (bstr a).size + (bstr b).size := by rw [bstr_size, bstr_size]; omega
theorem bstr_addE (a b : List UInt8) : bstr a ++ bstr b = bstr (a ++ b) := by apply ByteArray.ext; simp [bstr]
/-- The last k bytes, read backwards, behind zeros. -/
def backK (l : List UInt8) (k : Nat) : List UInt8 := List.replicate (l.length - k) 0 ++ (l.take k).reverse
theorem backK_zero (l : List UInt8) : backK l 0 = List.replicate l.length 0 := by simp [backK]
theorem backK_all (l : List UInt8) : backK l l.length = l.reverse := by simp [backK]
theorem backK_len (l : List UInt8) (k : Nat) (h : k ≤ l.length) : (backK l k).length = l.length := by simp [backK]; omega
theorem backK_succ (l : List UInt8) (k : Nat) (h : k < l.length) : (backK l k).set (l.length - 1 - k) l[k] = backK l (k + 1) := by
  unfold backK
  have e : l.length - k = (l.length - (k + 1)) + 1 := by omega
  rw [List.set_append_left _ _ (by simp; omega), e, List.replicate_succ', List.set_append_right _ _ (by simp; omega)]
  have e2 : l.length - 1 - k - (List.replicate (l.length - (k + 1)) (0 : UInt8)).length = 0 := by simp; omega
  rw [e2, List.set_cons_zero, List.take_succ_eq_append_getElem h, List.reverse_append]
  simp
set_option maxHeartbeats 1600000 in
theorem implBackwards (s : ByteArray) (w : World) (hs : s.size ≤ 1048576) :
    Calls Try.prog 44 #[.string s] w fun e w' => e = .returned (.string (bstr s.data.toList.reverse)) ∧ Below w.heap.size w w' := by
  have hmk := makeB w s.size s.size (Nat.le_refl _) (by omega)
  obtain ⟨W1, hW1⟩ : ∃ W1, W1 = w.alloc (.cells (madeCells #[.int .u8 0] s.size) 5) := ⟨_, rfl⟩
  have hl0 : LiesB W1 w.heap.size (backK s.data.toList 0) := by rw [hW1, backK_zero, dlen]; exact LiesB.make w 5 s.size
  have hbel : Below w.heap.size w W1 := by rw [hW1]; exact (Below.refl _ _).alloc (Nat.le_refl _) _
  rw [← hW1] at hmk
  clear hW1
  go_enter Try.func44, Try.ntmps44
  go_wp2
  clear hmk
  go_loopw [10] (fun i wr => ∃ k : Nat, k ≤ s.size ∧ i = .int .i64 k ∧ LiesB wr w.heap.size (backK s.data.toList k) ∧ Below w.heap.size w wr) (fun i _ => s.size - (intOf i).toNat)
  case atStart => exact ⟨0, Nat.zero_le _, rfl, hl0, hbel⟩
  case round =>
    obtain ⟨k, hk, rfl, hlr, hbr⟩ := hrel
    clear hl0 hbel
    have hlen : (backK s.data.toList k).length = s.size := by rw [backK_len _ _ (by rw [dlen]; exact hk), dlen]
    by_cases hlt : k < s.size
    · obtain ⟨p, hp⟩ : ∃ p, p = s.size - 1 - k := ⟨_, rfl⟩
      have hpl : p < s.size := by omega
      obtain ⟨hc, hf⟩ := hlr p (by rw [hlen]; exact hpl)
      have Hset := Lib.hid (hlr.set p (by rw [hlen]; exact hpl) s[k] (s[k].toNat : Int) rfl)
      have hsuc := backK_succ s.data.toList k (by rw [dlen]; exact hlt)
      rw [show s.data.toList.length - 1 - k = p from by rw [dlen]; exact hp.symm] at hsuc
      have Hsuc : Hid ((backK s.data.toList k).set p s[k] = backK s.data.toList (k + 1)) := Lib.hid hsuc
      have Hb := Lib.hid (hbr.setCell (p := ⟨w.heap.size, p, none⟩) (Nat.le_refl _) (.int .u8 (s[k].toNat : Int)))
      obtain ⟨c0, hc0⟩ : ∃ c0 : Int, ((backK s.data.toList k).getD p 0).toNat = c0 := ⟨_, rfl⟩
      rw [hc0] at hc
      have e1 : (s.size : Int) - 1 - (k : Int) = (p : Int) := by omega
      have hb0 := byte_le s[k]
      clear hsuc hlr hbr hp hc0 hlen
      go_wp2
      go_roundw
      case rel => exact ⟨k + 1, by omega, by go_num, by rw [← Hsuc.out]; exact Hset.out, Hb.out⟩
      case measure => simp [intOf]; omega
    · obtain rfl : k = s.size := by omega
      have he : backK s.data.toList s.size = s.data.toList.reverse := by rw [← dlen]; exact backK_all _
      have ht := hlr.text (P := Try.prog) s.size s.size hlen.symm 22 9 5 Try.underlying22 Try.underlying5 Try.underlying9
      rw [he] at ht
      clear hlr he hlen
      go_wp2
      go_ret
      exact ⟨rfl, hbr⟩
/-- The script of two texts. -/
def escr (a b : ByteArray) : List UInt8 := if (isText a && isText b) = true then scrip a.data.toList b.data.toList else []
theorem escr_no1 {a b : ByteArray} (h : isText a = false) : escr a b = [] := by unfold escr; rw [h]; rfl
theorem escr_no2 {a b : ByteArray} (h : isText b = false) : escr a b = [] := by unfold escr; rw [h, Bool.and_false]; rfl
theorem escr_yes {a b : ByteArray} (h : isText a = true) (h2 : isText b = true) : escr a b = scrip a.data.toList b.data.toList := by unfold escr; rw [h, h2]; rfl
theorem isText_40 {s : ByteArray} (h : isText s = true) : s.size ≤ 40 := by
  unfold isText at h
  rw [Bool.and_eq_true] at h
  simpa using h.2
theorem drop_consE (s : ByteArray) (k : Nat) (h : k < s.size) : s.data.toList.drop k = s[k] :: s.data.toList.drop (k + 1) := by
  rw [List.drop_eq_getElem_cons (by simpa using h)]; rfl
theorem c1_eq {x y : UInt8} : c1 x y = 0 ↔ x = y := by
  unfold c1; split
  · simp [*]
  · simp [*]
theorem byteEq {x y : UInt8} (h : x = y) : ((x.toNat : Int) == (y.toNat : Int)) = true := by rw [h]; simp
theorem byteNe {x y : UInt8} (h : x ≠ y) : ((x.toNat : Int) == (y.toNat : Int)) = false := by
  rw [beq_eq_false_iff_ne]; intro e; exact h (UInt8.toNat_inj.1 (by omega))
theorem natEq {x y : Nat} (h : x = y) : ((x : Int) == (y : Int)) = true := by rw [h]; simp
theorem natNe {x y : Nat} (h : x ≠ y) : ((x : Int) == (y : Int)) = false := by rw [beq_eq_false_iff_ne]; omega
theorem natEq1 {x y : Nat} (h : x + 1 = y) : (((x : Int) + 1) == (y : Int)) = true := by rw [← h]; simp
theorem natNe1 {x y : Nat} (h : x + 1 ≠ y) : (((x : Int) + 1) == (y : Int)) = false := by rw [beq_eq_false_iff_ne]; omega
/-- The cells of the table that a round of the loop reads. -/
structure Cells5 (W : World) (T R C i p j q gi gp E00 E11 E10 : Nat) : Prop where
  hi : W.cell? ⟨T, i, none⟩ = some (.slice (some ⟨gi, 0, none⟩) C C)
  hp : W.cell? ⟨T, p, none⟩ = some (.slice (some ⟨gp, 0, none⟩) C C)
  c00 : W.cell? ⟨gi, j, none⟩ = some (.int .i64 E00)
  c11 : W.cell? ⟨gp, q, none⟩ = some (.int .i64 E11)
  c10 : W.cell? ⟨gp, j, none⟩ = some (.int .i64 E10)
theorem Cells5.below {W W' : World} {T R C i p j q gi gp E00 E11 E10 : Nat} (h : Cells5 W T R C i p j q gi gp E00 E11 E10) (hb : Below W.heap.size W W') : Cells5 W' T R C i p j q gi gp E00 E11 E10 :=
  ⟨(hb.cell (World.block_lt_of_cell? W _ h.hi)).trans h.hi, (hb.cell (World.block_lt_of_cell? W _ h.hp)).trans h.hp, (hb.cell (World.block_lt_of_cell? W _ h.c00)).trans h.c00, (hb.cell (World.block_lt_of_cell? W _ h.c11)).trans h.c11, (hb.cell (World.block_lt_of_cell? W _ h.c10)).trans h.c10⟩
theorem cells5_of {W : World} {T R C : Nat} {Z : Nat → Nat → Nat} (h : IsTab W T R C Z) {i p j q : Nat} (hi : i < R) (hp : p < R) (hj : j < C) (hq : q < C) : ∃ gi gp, Cells5 W T R C i p j q gi gp (Z i j) (Z p q) (Z p j) := by
  obtain ⟨gi, h1, h2⟩ := h i hi
  obtain ⟨gp, h3, h4⟩ := h p hp
  exact ⟨gi, gp, h1, h3, h2 j hj, h4 q hq, h4 j hj⟩
theorem isTab_below {W W' : World} {T R C : Nat} {Z : Nat → Nat → Nat} (h : IsTab W T R C Z) (hb : Below W.heap.size W W') : IsTab W' T R C Z := by
  intro i hi
  obtain ⟨g, h1, h2⟩ := h i hi
  exact ⟨g, (hb.cell (World.block_lt_of_cell? W _ h1)).trans h1, fun j hj => (hb.cell (World.block_lt_of_cell? W _ (h2 j hj))).trans (h2 j hj)⟩
set_option maxHeartbeats 2000000 in
theorem implScript (a b : ByteArray) (w : World) (ha : a.size ≤ 1048576) (hb : b.size ≤ 1048576) :
    Calls Try.prog 18 #[.string a, .string b] w fun e w' => e = .returned (.string (bstr (escr a b))) ∧ Below w.heap.size w w' := by
  cases h1 : isText a
  · have H := Lib.hid (escr_no1 (b := b) h1)
    have H1 := Lib.hid h1
    clear h1
    go_enter Try.func18, Try.ntmps18
    go_wp2_with (go_at_call 42; refine (implIsText a _ ha).mono ?_; rintro e w' ⟨rfl, rfl⟩; rw [H1.out])
    go_ret
    exact ⟨by rw [H.out]; rfl, Below.refl _ _⟩
  cases h2 : isText b
  · have H := Lib.hid (escr_no2 (a := a) h2)
    have H1 := Lib.hid h1
    have H2 := Lib.hid h2
    clear h1 h2
    go_enter Try.func18, Try.ntmps18
    go_wp2_with fail
    refine (implIsText a _ ha).mono ?_
    rintro e w' ⟨rfl, rfl⟩
    rw [H1.out]
    go_wp2_with fail
    refine (implIsText b _ hb).mono ?_
    rintro e w' ⟨rfl, rfl⟩
    rw [H2.out]
    go_wp2
    go_ret
    exact ⟨by rw [H.out]; rfl, Below.refl _ _⟩
  have H1 := Lib.hid h1
  have H2 := Lib.hid h2
  have ha4 := isText_40 h1
  have hb4 := isText_40 h2
  obtain ⟨S, hS⟩ : ∃ S, escr a b = S := ⟨_, rfl⟩
  have hS1 := hS
  rw [escr_yes h1 h2] at hS1
  have hSl : S.length ≤ 120 := by
    have := scrip_len a.data.toList b.data.toList
    rw [hS1, dlen, dlen] at this; omega
  have HS := Lib.hid hS
  have HS1 := Lib.hid hS1
  clear h1 h2 hS hS1
  go_enter Try.func18, Try.ntmps18
  go_wp2_with fail
  refine (implIsText a _ ha).mono ?_
  rintro e w' ⟨rfl, rfl⟩
  rw [H1.out]
  go_wp2_with fail
  refine (implIsText b _ hb).mono ?_
  rintro e w' ⟨rfl, rfl⟩
  rw [H2.out]
  go_wp2_with fail
  refine (implBackwards a _ ha).mono ?_
  rintro e w1 ⟨rfl, b1⟩
  go_wp2_with fail
  refine (implBackwards b _ hb).mono ?_
  rintro e w2 ⟨rfl, b2⟩
  go_wp2_with fail
  refine (implDistances (bstr a.data.toList.reverse) (bstr b.data.toList.reverse) false _ (by rw [bstr_size, List.length_reverse, dlen]; exact ha) (by rw [bstr_size, List.length_reverse, dlen]; exact hb)).mono ?_
  rintro e w3 ⟨rfl, b3, ht⟩
  rw [bstr_size, bstr_size, List.length_reverse, List.length_reverse, dlen, dlen, bstr_list, bstr_list] at ht
  rw [bstr_size, List.length_reverse, dlen]
  have HB3 : Hid (Below w.heap.size w w3) := Lib.hid ((b1.trans (b2.mono b1.size)).trans (b3.mono (Nat.le_trans b1.size b2.size)))
  obtain ⟨R, hR⟩ : ∃ R, R = a.size + 1 := ⟨_, rfl⟩
  obtain ⟨C, hC⟩ : ∃ C, C = b.size + 1 := ⟨_, rfl⟩
  obtain ⟨T, hT⟩ : ∃ T, T = w2.heap.size := ⟨_, rfl⟩
  rw [← hR, ← hC, ← hT] at ht
  rw [← hR, ← hT]
  have HT := Lib.hid ht
  clear b1 b2 b3 ht hT
  go_wp2
  go_loopw [6, 7, 8] (fun v si sj wr => ∃ (i j : Nat) (l : List UInt8), i ≤ a.size ∧ j ≤ b.size ∧ si = .int .i64 i ∧ sj = .int .i64 j ∧ l ++ scrip (a.data.toList.drop (a.size - i)) (b.data.toList.drop (b.size - j)) = S ∧ Bld 5 w3.heap.size w3 wr v l) (fun _ si sj _ => (intOf si).toNat + (intOf sj).toNat)
  case atStart => exact ⟨a.size, b.size, [], Nat.le_refl _, Nat.le_refl _, rfl, rfl, by rw [Nat.sub_self, Nat.sub_self, List.drop_zero, List.drop_zero, List.nil_append]; exact HS1.out, Bld.nil _ _⟩
  case round =>
    obtain ⟨i, j, l, hi, hj, rfl, rfl, hl, hbl⟩ := hrel
    have hll : l.length ≤ 120 := by have := congrArg List.length hl; rw [List.length_append] at this; omega
    have htab := isTab_below HT.out hbl.bel
    obtain ⟨X, hX⟩ : ∃ X, X = a.size - i := ⟨_, rfl⟩
    obtain ⟨Y, hY⟩ : ∃ Y, Y = b.size - j := ⟨_, rfl⟩
    have eX : (a.size : Int) - (i : Int) = (X : Int) := by omega
    have eY : (b.size : Int) - (j : Int) = (Y : Int) := by omega
    have wX : IntKind.i64.wrap (X : Int) = (X : Int) := IntWalk.i64_in _ (by omega)
    have wY : IntKind.i64.wrap (Y : Int) = (Y : Int) := IntWalk.i64_in _ (by omega)
    rw [← hX, ← hY] at hl
    by_cases hi0 : i = 0
    · subst hi0
      have hXd : a.data.toList.drop X = [] := List.drop_eq_nil_of_le (by rw [dlen]; omega)
      rw [hXd] at hl
      by_cases hj0 : j = 0
      · subst hj0
        have hYd : b.data.toList.drop Y = [] := List.drop_eq_nil_of_le (by rw [dlen]; omega)
        rw [hYd, scrip_nil, List.append_nil] at hl
        subst hl
        have ht := text hbl
        clear hX hY htab
        go_wp2
        go_ret
        exact ⟨by rw [HS.out]; rfl, HB3.out.trans (hbl.bel.mono HB3.out.size)⟩
      · obtain ⟨q, hq⟩ : ∃ q, j = q + 1 := ⟨j - 1, by omega⟩
        have hYl : Y < b.size := by omega
        have cY : (Y : Int) < (b.size : Int) := by omega
        have hd := drop_consE b Y hYl
        have hq2 : Y + 1 = b.size - q := by omega
        rw [hd, scrip_ins, hq2] at hl
        have e1 : (j : Int) - 1 = (q : Int) := by omega
        have HL : Hid ((l ++ [43, b[Y]]) ++ scrip [] (b.data.toList.drop (b.size - q)) = S) := Lib.hid (by rw [← hl]; simp)
        have HXd := Lib.hid hXd
        have hz : decide ((0 : Int) < ((0 : Nat) : Int)) = false := by decide
        have hjp : (0 : Int) < (j : Int) := by omega
        have hjpn : 0 < j := by omega
        have hb0 := byte_le b[Y]
        have HX := Lib.hid hX
        have HY := Lib.hid hY
        clear hl hXd hd htab hj0 hq2 hX hY hq hR hC
        go_wp2
        go_quiet (fail)
        have hb2 := hbl.drewN nq
        generalize wr.drewN nq = w5 at hb2 ⊢
        go_wp2
        go_quiet (fail)
        have hb3 := hb2.drewN nq
        generalize w5.drewN nq = w6 at hb3 ⊢
        go_wp2
        go_quiet (fail)
        have hb4 := hb3.drewN nq
        generalize w6.drewN nq = w7 at hb4 ⊢
        go_wp2_with (at_builtin; refine wpList_push2 rfl _ _ 22 rfl _ _ Try.underlying22 infoB _ _ rfl hb4 _ _ 43 b[Y] rfl ?_ ?_ ?_ ?_; (rfl); (rfl); (omega); intro v' w' hb')
        go_roundw
        case rel => exact ⟨0, q, _, by omega, by omega, rfl, by go_num, by rw [← HX.out, HXd.out]; exact HL.out, hb'⟩
        case measure => simp [intOf]; omega
    · obtain ⟨p, hp⟩ : ∃ p, i = p + 1 := ⟨i - 1, by omega⟩
      have hXl : X < a.size := by omega
      have hdx := drop_consE a X hXl
      have hp2 : X + 1 = a.size - p := by omega
      have e1 : (i : Int) - 1 = (p : Int) := by omega
      have wp1 : IntKind.i64.wrap (p : Int) = (p : Int) := IntWalk.i64_in _ (by omega)
      have hip : (0 : Int) < (i : Int) := by omega
      have hipn : 0 < i := by omega
      have lp : (p : Int) < (R : Int) := by omega
      have li : (i : Int) < (R : Int) := by omega
      have hx0 := byte_le a[X]
      have cX : (X : Int) < (a.size : Int) := by omega
      rw [hdx, hp2] at hl
      by_cases hj0 : j = 0
      · subst hj0
        have hYd : b.data.toList.drop Y = [] := List.drop_eq_nil_of_le (by rw [dlen]; omega)
        rw [hYd, scrip_del] at hl
        have HL : Hid ((l ++ [45]) ++ scrip (a.data.toList.drop (a.size - p)) [] = S) := Lib.hid (by rw [← hl]; simp)
        have HYd := Lib.hid hYd
        obtain ⟨gi, gp, h5⟩ := cells5_of htab (i := i) (p := p) (j := 0) (q := 0) (by omega) (by omega) (by omega) (by omega)
        rw [D_left, D_left] at h5
        have H5 := Lib.hid h5
        have hz : decide ((0 : Int) < ((0 : Nat) : Int)) = false := by decide
        have l0 : ((0 : Nat) : Int) < (C : Int) := by omega
        have d3 : (((p : Int) + 1) == (i : Int)) = true := by rw [beq_iff_eq]; omega
        have w3' : IntKind.i64.wrap ((p : Int) + 1) = (p : Int) + 1 := IntWalk.i64_in _ (by omega)
        have HX := Lib.hid hX
        have HY := Lib.hid hY
        clear hl hdx hYd htab h5 hi0 hp2 hX hY hp hR hC
        go_wp2
        go_quiet (fail)
        have hb2 := hbl.drewN nq
        have h52 := H5.out.below (below_drewN wr nq)
        generalize wr.drewN nq = w5 at hb2 h52 ⊢
        go_wp2
        go_quiet (fail)
        have hb3 := hb2.drewN nq
        have h53 := h52.below (below_drewN w5 nq)
        generalize w5.drewN nq = w6 at hb3 h53 ⊢
        obtain ⟨g1, g2, g3, g4, g5⟩ := h53
        go_wp2
        go_quiet (fail)
        have hb4 := hb3.drewN nq
        generalize w6.drewN nq = w7 at hb4 ⊢
        clear g1 g2 g3 g4 g5
        go_wp2_with (at_builtin; refine wpList_push1 rfl _ _ 22 rfl _ _ Try.underlying22 infoB _ _ rfl hb4 _ 45 rfl ?_ ?_ ?_; (rfl); (omega); intro v' w' hb')
        go_roundw
        case rel => exact ⟨p, 0, _, by omega, by omega, by go_num, rfl, by rw [← HY.out, HYd.out]; exact HL.out, hb'⟩
        case measure => simp [intOf]; omega
      · obtain ⟨q, hq⟩ : ∃ q, j = q + 1 := ⟨j - 1, by omega⟩
        have hYl : Y < b.size := by omega
        have cY : (Y : Int) < (b.size : Int) := by omega
        have hdy := drop_consE b Y hYl
        have hq2 : Y + 1 = b.size - q := by omega
        have f1 : (j : Int) - 1 = (q : Int) := by omega
        have wq1 : IntKind.i64.wrap (q : Int) = (q : Int) := IntWalk.i64_in _ (by omega)
        have hjp : (0 : Int) < (j : Int) := by omega
        have hjpn : 0 < j := by omega
        have lq : (q : Int) < (C : Int) := by omega
        have lj : (j : Int) < (C : Int) := by omega
        have hb0 := byte_le b[Y]
        rw [hdy, hq2, scrip_cons] at hl
        obtain ⟨gi, gp, h5⟩ := cells5_of htab (i := i) (p := p) (j := j) (q := q) (by omega) (by omega) (by omega) (by omega)
        rw [D_rev _ _ _ _ (by rw [dlen]; omega) (by rw [dlen]; omega), D_rev _ _ _ _ (by rw [dlen]; omega) (by rw [dlen]; omega), D_rev _ _ _ _ (by rw [dlen]; omega) (by rw [dlen]; omega), dlen, dlen, ← hX, ← hY, hdx, hdy, hp2, hq2] at h5
        have k1 := ED_len (a.data.toList.drop (a.size - p)) (b.data.toList.drop (b.size - q))
        have k2 := ED_len (a.data.toList.drop (a.size - p)) (b[Y] :: b.data.toList.drop (b.size - q))
        simp only [List.length_drop, List.length_cons, dlen] at k1 k2
        obtain ⟨E00, h00⟩ : ∃ E, E = ED (a[X] :: a.data.toList.drop (a.size - p)) (b[Y] :: b.data.toList.drop (b.size - q)) := ⟨_, rfl⟩
        obtain ⟨E11, h11⟩ : ∃ E, E = ED (a.data.toList.drop (a.size - p)) (b.data.toList.drop (b.size - q)) := ⟨_, rfl⟩
        obtain ⟨E10, h10⟩ : ∃ E, E = ED (a.data.toList.drop (a.size - p)) (b[Y] :: b.data.toList.drop (b.size - q)) := ⟨_, rfl⟩
        rw [← h00, ← h11, ← h10] at hl h5
        rw [← h11] at k1
        rw [← h10] at k2
        have l11 : E11 ≤ 80 := by omega
        have l10 : E10 ≤ 81 := by omega
        have w11 : IntKind.i64.wrap ((E11 : Int) + 1) = (E11 : Int) + 1 := IntWalk.i64_in _ (by omega)
        have w10 : IntKind.i64.wrap ((E10 : Int) + 1) = (E10 : Int) + 1 := IntWalk.i64_in _ (by omega)
        have H5 := Lib.hid h5
        have HDx : Hid (a.data.toList.drop X = a[X] :: a.data.toList.drop (a.size - p)) := Lib.hid (by rw [← hp2]; exact hdx)
        have HDy : Hid (b.data.toList.drop Y = b[Y] :: b.data.toList.drop (b.size - q)) := Lib.hid (by rw [← hq2]; exact hdy)
        have Hl := Lib.hid hl
        have HX := Lib.hid hX
        have HY := Lib.hid hY
        clear k1 k2 h00 h11 h10 h5 hl hdx hdy htab hi0 hj0 hp2 hq2 hX hY hp hq hR hC
        by_cases he : a[X] = b[Y]
        · have d9 := byteEq he
          by_cases h11 : E11 = E00
          · have HL : Hid ((l ++ [61]) ++ scrip (a.data.toList.drop (a.size - p)) (b.data.toList.drop (b.size - q)) = S) := Lib.hid (by
              have := Hl.out; rw [if_pos ⟨he, h11⟩] at this; rw [← this]; simp)
            have d10 := natEq h11
            obtain ⟨g1, g2, g3, g4, g5⟩ := H5.out
            clear he h11 Hl
            go_wp2
            go_quiet (fail)
            have hb2 := hbl.drewN nq
            generalize wr.drewN nq = w5 at hb2 ⊢
            clear g1 g2 g3 g4 g5
            go_wp2_with (at_builtin; refine wpList_push1 rfl _ _ 22 rfl _ _ Try.underlying22 infoB _ _ rfl hb2 _ 61 rfl ?_ ?_ ?_; (rfl); (omega); intro v' w' hb')
            go_roundw
            case rel => exact ⟨p, q, _, by omega, by omega, by go_num, by go_num, HL.out, hb'⟩
            case measure => simp [intOf]; omega
          · have Hl2 : Hid (l ++ (if E11 + 1 = E00 then 126 :: b[Y] :: scrip (a.data.toList.drop (a.size - p)) (b.data.toList.drop (b.size - q)) else if E10 + 1 = E00 then 45 :: scrip (a.data.toList.drop (a.size - p)) (b[Y] :: b.data.toList.drop (b.size - q)) else 43 :: b[Y] :: scrip (a[X] :: a.data.toList.drop (a.size - p)) (b.data.toList.drop (b.size - q))) = S) := Lib.hid (by
              have := Hl.out; rwa [if_neg (fun h => h11 h.2)] at this)
            have d10 := natNe h11
            clear he h11 Hl
            by_cases h14 : E11 + 1 = E00
            · have HL : Hid ((l ++ [126, b[Y]]) ++ scrip (a.data.toList.drop (a.size - p)) (b.data.toList.drop (b.size - q)) = S) := Lib.hid (by
                have := Hl2.out; rw [if_pos h14] at this; rw [← this]; simp)
              have d14 := natEq1 h14
              clear h14 Hl2
              obtain ⟨g1, g2, g3, g4, g5⟩ := H5.out
              go_wp2
              go_quiet (fail)
              have hb2 := hbl.drewN nq
              have h52 := H5.out.below (below_drewN wr nq)
              generalize wr.drewN nq = w5 at hb2 h52 ⊢
              clear g1 g2 g3 g4 g5
              obtain ⟨g1, g2, g3, g4, g5⟩ := h52
              go_wp2
              go_quiet (fail)
              have hb3 := hb2.drewN nq
              generalize w5.drewN nq = w6 at hb3 ⊢
              clear g1 g2 g3 g4 g5
              go_wp2_with (at_builtin; refine wpList_push2 rfl _ _ 22 rfl _ _ Try.underlying22 infoB _ _ rfl hb3 _ _ 126 b[Y] rfl ?_ ?_ ?_ ?_; (rfl); (rfl); (omega); intro v' w' hb')
              go_roundw
              case rel => exact ⟨p, q, _, by omega, by omega, by go_num, by go_num, HL.out, hb'⟩
              case measure => simp [intOf]; omega
            · have d14 := natNe1 h14
              by_cases h18 : E10 + 1 = E00
              · have HL : Hid ((l ++ [45]) ++ scrip (a.data.toList.drop (a.size - p)) (b.data.toList.drop Y) = S) := Lib.hid (by
                  have := Hl2.out; rw [if_neg h14, if_pos h18] at this; rw [HDy.out, ← this]; simp)
                have d18 := natEq1 h18
                clear h14 h18 Hl2
                obtain ⟨g1, g2, g3, g4, g5⟩ := H5.out
                go_wp2
                go_quiet (fail)
                have hb2 := hbl.drewN nq
                have h52 := H5.out.below (below_drewN wr nq)
                generalize wr.drewN nq = w5 at hb2 h52 ⊢
                clear g1 g2 g3 g4 g5
                have h5s := h52
                obtain ⟨g1, g2, g3, g4, g5⟩ := h52
                go_wp2
                go_quiet (fail)
                have hb3 := hb2.drewN nq
                have h53 := h5s.below (below_drewN w5 nq)
                generalize w5.drewN nq = w6 at hb3 h53 ⊢
                clear g1 g2 g3 g4 g5 h5s
                obtain ⟨g1, g2, g3, g4, g5⟩ := h53
                go_wp2
                go_quiet (fail)
                have hb4 := hb3.drewN nq
                generalize w6.drewN nq = w7 at hb4 ⊢
                clear g1 g2 g3 g4 g5
                go_wp2_with (at_builtin; refine wpList_push1 rfl _ _ 22 rfl _ _ Try.underlying22 infoB _ _ rfl hb4 _ 45 rfl ?_ ?_ ?_; (rfl); (omega); intro v' w' hb')
                go_roundw
                case rel => exact ⟨p, j, _, by omega, by omega, by go_num, rfl, by rw [← HY.out]; exact HL.out, hb'⟩
                case measure => simp [intOf]; omega
              · have HL : Hid ((l ++ [43, b[Y]]) ++ scrip (a.data.toList.drop X) (b.data.toList.drop (b.size - q)) = S) := Lib.hid (by
                  have := Hl2.out; rw [if_neg h14, if_neg h18] at this; rw [HDx.out, ← this]; simp)
                have d18 := natNe1 h18
                clear h14 h18 Hl2
                obtain ⟨g1, g2, g3, g4, g5⟩ := H5.out
                go_wp2
                go_quiet (fail)
                have hb2 := hbl.drewN nq
                have h52 := H5.out.below (below_drewN wr nq)
                generalize wr.drewN nq = w5 at hb2 h52 ⊢
                clear g1 g2 g3 g4 g5
                have h5s := h52
                obtain ⟨g1, g2, g3, g4, g5⟩ := h52
                go_wp2
                go_quiet (fail)
                have hb3 := hb2.drewN nq
                have h53 := h5s.below (below_drewN w5 nq)
                generalize w5.drewN nq = w6 at hb3 h53 ⊢
                clear g1 g2 g3 g4 g5 h5s
                obtain ⟨g1, g2, g3, g4, g5⟩ := h53
                go_wp2
                go_quiet (fail)
                have hb4 := hb3.drewN nq
                generalize w6.drewN nq = w7 at hb4 ⊢
                clear g1 g2 g3 g4 g5
                go_wp2_with (at_builtin; refine wpList_push2 rfl _ _ 22 rfl _ _ Try.underlying22 infoB _ _ rfl hb4 _ _ 43 b[Y] rfl ?_ ?_ ?_ ?_; (rfl); (rfl); (omega); intro v' w' hb')
                go_roundw
                case rel => exact ⟨i, q, _, by omega, by omega, rfl, by go_num, by rw [← HX.out]; exact HL.out, hb'⟩
                case measure => simp [intOf]; omega
        · have Hl2 : Hid (l ++ (if E11 + 1 = E00 then 126 :: b[Y] :: scrip (a.data.toList.drop (a.size - p)) (b.data.toList.drop (b.size - q)) else if E10 + 1 = E00 then 45 :: scrip (a.data.toList.drop (a.size - p)) (b[Y] :: b.data.toList.drop (b.size - q)) else 43 :: b[Y] :: scrip (a[X] :: a.data.toList.drop (a.size - p)) (b.data.toList.drop (b.size - q))) = S) := Lib.hid (by
            have := Hl.out; rwa [if_neg (fun h => he h.1)] at this)
          have d9 := byteNe he
          · skip
            clear he Hl
            by_cases h14 : E11 + 1 = E00
            · have HL : Hid ((l ++ [126, b[Y]]) ++ scrip (a.data.toList.drop (a.size - p)) (b.data.toList.drop (b.size - q)) = S) := Lib.hid (by
                have := Hl2.out; rw [if_pos h14] at this; rw [← this]; simp)
              have d14 := natEq1 h14
              clear h14 Hl2
              obtain ⟨g1, g2, g3, g4, g5⟩ := H5.out
              go_wp2
              go_quiet (fail)
              have hb2 := hbl.drewN nq
              have h52 := H5.out.below (below_drewN wr nq)
              generalize wr.drewN nq = w5 at hb2 h52 ⊢
              clear g1 g2 g3 g4 g5
              obtain ⟨g1, g2, g3, g4, g5⟩ := h52
              go_wp2
              go_quiet (fail)
              have hb3 := hb2.drewN nq
              generalize w5.drewN nq = w6 at hb3 ⊢
              clear g1 g2 g3 g4 g5
              go_wp2_with (at_builtin; refine wpList_push2 rfl _ _ 22 rfl _ _ Try.underlying22 infoB _ _ rfl hb3 _ _ 126 b[Y] rfl ?_ ?_ ?_ ?_; (rfl); (rfl); (omega); intro v' w' hb')
              go_roundw
              case rel => exact ⟨p, q, _, by omega, by omega, by go_num, by go_num, HL.out, hb'⟩
              case measure => simp [intOf]; omega
            · have d14 := natNe1 h14
              by_cases h18 : E10 + 1 = E00
              · have HL : Hid ((l ++ [45]) ++ scrip (a.data.toList.drop (a.size - p)) (b.data.toList.drop Y) = S) := Lib.hid (by
                  have := Hl2.out; rw [if_neg h14, if_pos h18] at this; rw [HDy.out, ← this]; simp)
                have d18 := natEq1 h18
                clear h14 h18 Hl2
                obtain ⟨g1, g2, g3, g4, g5⟩ := H5.out
                go_wp2
                go_quiet (fail)
                have hb2 := hbl.drewN nq
                have h52 := H5.out.below (below_drewN wr nq)
                generalize wr.drewN nq = w5 at hb2 h52 ⊢
                clear g1 g2 g3 g4 g5
                have h5s := h52
                obtain ⟨g1, g2, g3, g4, g5⟩ := h52
                go_wp2
                go_quiet (fail)
                have hb3 := hb2.drewN nq
                have h53 := h5s.below (below_drewN w5 nq)
                generalize w5.drewN nq = w6 at hb3 h53 ⊢
                clear g1 g2 g3 g4 g5 h5s
                obtain ⟨g1, g2, g3, g4, g5⟩ := h53
                go_wp2
                go_quiet (fail)
                have hb4 := hb3.drewN nq
                generalize w6.drewN nq = w7 at hb4 ⊢
                clear g1 g2 g3 g4 g5
                go_wp2_with (at_builtin; refine wpList_push1 rfl _ _ 22 rfl _ _ Try.underlying22 infoB _ _ rfl hb4 _ 45 rfl ?_ ?_ ?_; (rfl); (omega); intro v' w' hb')
                go_roundw
                case rel => exact ⟨p, j, _, by omega, by omega, by go_num, rfl, by rw [← HY.out]; exact HL.out, hb'⟩
                case measure => simp [intOf]; omega
              · have HL : Hid ((l ++ [43, b[Y]]) ++ scrip (a.data.toList.drop X) (b.data.toList.drop (b.size - q)) = S) := Lib.hid (by
                  have := Hl2.out; rw [if_neg h14, if_neg h18] at this; rw [HDx.out, ← this]; simp)
                have d18 := natNe1 h18
                clear h14 h18 Hl2
                obtain ⟨g1, g2, g3, g4, g5⟩ := H5.out
                go_wp2
                go_quiet (fail)
                have hb2 := hbl.drewN nq
                have h52 := H5.out.below (below_drewN wr nq)
                generalize wr.drewN nq = w5 at hb2 h52 ⊢
                clear g1 g2 g3 g4 g5
                have h5s := h52
                obtain ⟨g1, g2, g3, g4, g5⟩ := h52
                go_wp2
                go_quiet (fail)
                have hb3 := hb2.drewN nq
                have h53 := h5s.below (below_drewN w5 nq)
                generalize w5.drewN nq = w6 at hb3 h53 ⊢
                clear g1 g2 g3 g4 g5 h5s
                obtain ⟨g1, g2, g3, g4, g5⟩ := h53
                go_wp2
                go_quiet (fail)
                have hb4 := hb3.drewN nq
                generalize w6.drewN nq = w7 at hb4 ⊢
                clear g1 g2 g3 g4 g5
                go_wp2_with (at_builtin; refine wpList_push2 rfl _ _ 22 rfl _ _ Try.underlying22 infoB _ _ rfl hb4 _ _ 43 b[Y] rfl ?_ ?_ ?_ ?_; (rfl); (rfl); (omega); intro v' w' hb')
                go_roundw
                case rel => exact ⟨i, q, _, by omega, by omega, rfl, by go_num, by rw [← HX.out]; exact HL.out, hb'⟩
                case measure => simp [intOf]; omega
end Go.Proofs.Ytoijjielnbcphaa

/-
  Walks of ParseInt and ParseYear (program and reference). Condition: the string has at most 2^20 bytes; the listed variables hold what the library lays.
-/
import Derived.Test.YtoijjielnbcphaaDoorFmt
import Derived.Test.YtoijjielnbcphaaDoorWithin
import Derived.Stop.LaidErr
namespace Go.Proofs.YtoijjielnbcphaaDoor
open Go.ChangeShapes Go.WideShapes Go.ChangeAt Go.RowKit
set_option linter.unusedVariables false
set_option linter.unusedSimpArgs false
set_option maxRecDepth 100000
/-- What strconv's two sentinels hold: an error that is not nil. -/
def Errs (w : World) : Prop := ∃ t1 p1 t2 p2, w.var? Tryd.prog "strconv.ErrSyntax" = some #[.iface t1 p1] ∧ w.var? Tryd.prog "strconv.ErrRange" = some #[.iface t2 p2]
theorem var_keep {w w' : World} {n : String} {cs : Array Value} {g : Nat} (h : w.var? Tryd.prog n = some cs) (hg : Tryd.prog.globalNamed n = some g) (hb : Below w.heap.size w w') : w'.var? Tryd.prog n = some cs := by
  have hlt : g < w.heap.size := by
    have h0 := h
    unfold World.var? at h0
    rw [hg] at h0
    simp only [Option.bind_some] at h0
    cases hh : w.heap[g]? with
    | none => rw [hh] at h0; cases h0
    | some o => exact (Array.getElem?_eq_some_iff.1 hh).1
  exact var?_below hb hg hlt h
theorem Errs.below {w w' : World} (h : Errs w) (hb : Below w.heap.size w w') : Errs w' := by
  obtain ⟨t1, p1, t2, p2, h1, h2⟩ := h
  exact ⟨t1, p1, t2, p2, var_keep h1 (by kernel_rfl : Tryd.prog.globalNamed "strconv.ErrSyntax" = some 2) hb, var_keep h2 (by kernel_rfl : Tryd.prog.globalNamed "strconv.ErrRange" = some 3) hb⟩
theorem laidMet_drop {l : List (String × DataW Unit)} {W : World} (h : laidMet Tryd.prog l W) : ∀ k, laidMet Tryd.prog (l.drop k) W := by
  intro k
  induction k generalizing l with
  | zero => exact h
  | succ k ih =>
    cases l with
    | nil => exact h
    | cons x r => exact ih h.tail
theorem starErr : "*" ++ "errors.errorString" = "*errors.errorString" := by decide
theorem rowErr (u : TypeId) (h : Tryd.prog.typeName? 3 u = some "*errors.errorString") : u = 132 :=
  typeName_ptr_named (nm := "errors.errorString") (by rw [starErr]; kernel_rfl) (by kernel_rfl) (by decide) u (by rw [starErr]; exact h)
theorem sentinel {n : String} {text : List UInt8} {r : List (String × DataW Unit)} {W : World} {g : Nat} (h : laidMet Tryd.prog ((n, .iface "*errors.errorString" (.ptr (.agg [.lit (.string text)]))) :: r) W) (hg : Tryd.prog.globalNamed n = some g) (ht : (Tryd.prog.globals[g]?).map (·.type) = some 70) :
    ∃ p, W.var? Tryd.prog n = some #[.iface 132 p] := by
  obtain ⟨a, s, hv, _⟩ := laid_sentinel h hg ht Tryd.underlying70 rowErr Tryd.underlying132 Tryd.underlying134 rfl rfl Tryd.underlying9 (by kernel_rfl) (by kernel_rfl)
  exact ⟨_, hv⟩
theorem errs_mk {t1 t2 : List UInt8} {l r1 r2 : List (String × DataW Unit)} {W : World} (h : laidMet Tryd.prog l W) (k1 k2 : Nat)
    (h1 : l.drop k1 = ("strconv.ErrSyntax", .iface "*errors.errorString" (.ptr (.agg [.lit (.string t1)]))) :: r1) (h2 : l.drop k2 = ("strconv.ErrRange", .iface "*errors.errorString" (.ptr (.agg [.lit (.string t2)]))) :: r2) : Errs W := by
  have a1 := laidMet_drop h k1
  have a2 := laidMet_drop h k2
  rw [h1] at a1
  rw [h2] at a2
  obtain ⟨p1, e1⟩ := sentinel a1 (by kernel_rfl : Tryd.prog.globalNamed "strconv.ErrSyntax" = some 2) (by kernel_rfl)
  obtain ⟨p2, e2⟩ := sentinel a2 (by kernel_rfl : Tryd.prog.globalNamed "strconv.ErrRange" = some 3) (by kernel_rfl)
  exact ⟨_, p1, _, p2, e1, e2⟩
/-- The table of powers of ten, the two sentinels, the world's shape. -/
structure Num (w : World) : Prop where
  tab : Tab w
  errs : Errs w
  sh : Sh w
theorem Num.below {w w' : World} (h : Num w) (hb : Below w.heap.size w w') : Num w' := ⟨h.tab.below hb, h.errs.below hb, h.sh.below hb⟩
def pV (l : List UInt8) : Int := (pInt l).getD 0
def pB (l : List UInt8) : Bool := (pInt l).isSome
theorem pV_some {l : List UInt8} {n : Int} (h : pInt l = some n) : pV l = n ∧ pB l = true := by unfold pV pB; rw [h]; exact ⟨rfl, rfl⟩
theorem pV_none {l : List UInt8} (h : pInt l = none) : pV l = 0 ∧ pB l = false := by unfold pV pB; rw [h]; exact ⟨rfl, rfl⟩
theorem pV_range (l : List UInt8) : -999999999 ≤ pV l ∧ pV l ≤ 999999999 := by
  cases h : pInt l with
  | none => rw [(pV_none h).1]; omega
  | some n => rw [(pV_some h).1]; exact (pInt_some h).2
theorem bstr_ne {s : ByteArray} {l : List UInt8} (h : l ≠ s.data.toList) : ((bstr l).toList != s.toList) = true := by
  rw [bstr_toList, toList_eq, bne_iff_ne]; exact h
set_option maxHeartbeats 1600000 in
theorem implParseInt (s : ByteArray) (w : World) (ev : Num w) (hs : s.size ≤ 1048576) :
    Calls Tryd.prog 32 #[.string s] w fun e w' => e = .returned (.tuple #[.int .i64 (pV s.data.toList), .bool (pB s.data.toList)]) ∧ Below w.heap.size w w' := by
  have toB : ∀ w1, (w1 = w ∨ ∃ t, w1 = Lib.bytesWorld w 5 t) → Below w.heap.size w w1 := by
    rintro w1 (rfl | ⟨t, rfl⟩)
    · exact Below.refl _ _
    · exact below_conv _ _ _
  rcases pInt_cases s.data.toList with ⟨n, ha, hi, h0, h1, hp⟩ | ⟨hp, hno⟩
  · have HV := Lib.hid (pV_some hp)
    have HA := Lib.hid ha
    have HI : Hid (bstr (Lib.itoa n) = s) := Lib.hid (by rw [hi]; exact bstr_of s)
    have hss : (s.toList != s.toList) = false := by simp
    clear ha hi hp
    go_enter Tryd.func32, Tryd.ntmps32
    go_wp2_with fail
    refine (Tryd.strconv_Atoi_ok s (by omega) n HA.out _).mono ?_
    rintro e w1 ⟨rfl, hw⟩
    have hb1 := toB _ hw
    clear hw toB
    go_wp2_with fail
    refine (implFormatInt n _ (ev.tab.below hb1) (by omega) (by omega)).mono ?_
    rintro e w2 ⟨rfl, hb2⟩
    rw [HI.out]
    go_wp2_with fail
    refine (within_in n (-999999999) 999999999 _ h0 h1).mono ?_
    rintro e w3 ⟨rfl, rfl⟩
    go_wp2
    go_ret2
    exact ⟨by rw [HV.out.1, HV.out.2]; rfl, hb1.trans (hb2.mono hb1.size)⟩
  · have HV := Lib.hid (pV_none hp)
    have HNo := Lib.hid hno
    clear hp hno
    cases ha : Lib.atoiAll s.data.toList with
    | ok n =>
      have HA := Lib.hid ha
      have HR := Lib.hid (Lib.atoiAll_bounds ha)
      clear ha
      by_cases hi : Lib.itoa n = s.data.toList
      · have HI : Hid (bstr (Lib.itoa n) = s) := Lib.hid (by rw [hi]; exact bstr_of s)
        have HN : Hid (inB n (-999999999) 999999999 = false) := Lib.hid (by
          have := HNo.out n HA.out hi
          cases hx : inB n (-999999999) 999999999
          · rfl
          · exact absurd (inB_yes hx) this)
        have hss : (s.toList != s.toList) = false := by simp
        clear hi
        go_enter Tryd.func32, Tryd.ntmps32
        go_wp2_with fail
        refine (Tryd.strconv_Atoi_ok s (by omega) n HA.out _).mono ?_
        rintro e w1 ⟨rfl, hw⟩
        have hb1 := toB _ hw
        clear hw toB
        go_wp2_with fail
        refine (implFormatInt n _ (ev.tab.below hb1) HR.out.1 HR.out.2).mono ?_
        rintro e w2 ⟨rfl, hb2⟩
        rw [HI.out]
        go_wp2_with fail
        refine (within_any n (-999999999) 999999999 _).mono ?_
        rintro e w3 ⟨rfl, rfl⟩
        rw [HN.out]
        go_wp2
        go_ret2
        exact ⟨by rw [HV.out.1, HV.out.2]; rfl, hb1.trans (hb2.mono hb1.size)⟩
      · obtain ⟨x, hx⟩ : ∃ x, bstr (Lib.itoa n) = x := ⟨_, rfl⟩
        have hss : (x.toList != s.toList) = true := by rw [← hx]; exact bstr_ne hi
        have hs2 : (x.toList == s.toList) = false := by rw [← Bool.not_eq_true', ← bne]; exact hss
        have hs3 : decide (x.toList = s.toList) = false := by simpa using hs2
        have HX := Lib.hid hx
        clear hi hx
        go_enter Tryd.func32, Tryd.ntmps32
        go_wp2_with fail
        refine (Tryd.strconv_Atoi_ok s (by omega) n HA.out _).mono ?_
        rintro e w1 ⟨rfl, hw⟩
        have hb1 := toB _ hw
        clear hw toB
        go_wp2_with fail
        refine (implFormatInt n _ (ev.tab.below hb1) HR.out.1 HR.out.2).mono ?_
        rintro e w2 ⟨rfl, hb2⟩
        rw [HX.out]
        go_wp2
        go_ret2
        exact ⟨by rw [HV.out.1, HV.out.2]; rfl, hb1.trans (hb2.mono hb1.size)⟩
    | range =>
      obtain ⟨t1, p1, t2, p2, e1, e2⟩ := ev.errs
      have HA := Lib.hid ha
      have HE := Lib.hid e2
      clear ha e1 e2 toB
      go_enter Tryd.func32, Tryd.ntmps32
      go_wp2_with fail
      refine (Tryd.strconv_Atoi_range_var s (by omega) HA.out t2 p2 _ HE.out).mono ?_
      rintro e w1 ⟨N, rfl, hN, hc, hb1⟩
      clear hc
      go_wp2
      go_ret2
      exact ⟨by rw [HV.out.1, HV.out.2]; rfl, hb1⟩
    | _ =>
      obtain ⟨t1, p1, t2, p2, e1, e2⟩ := ev.errs
      have HA := Lib.hid ha
      have HE := Lib.hid e1
      clear ha e1 e2 toB
      go_enter Tryd.func32, Tryd.ntmps32
      go_wp2_with fail
      refine (Tryd.strconv_Atoi_syntax_var s (by omega) (HA.out.trans (by kernel_rfl)) t1 p1 _ HE.out).mono ?_
      rintro e w1 ⟨N, rfl, hN, hc, hb1⟩
      clear hc
      go_wp2
      go_ret2
      exact ⟨by rw [HV.out.1, HV.out.2]; rfl, hb1⟩
/-- The digits among the first k bytes. -/
def dgK (s : ByteArray) (k : Nat) : List UInt8 := (s.data.toList.take k).filter dgB
theorem dgK_zero (s : ByteArray) : dgK s 0 = [] := rfl
theorem dgK_yes (s : ByteArray) (k : Nat) (h : k < s.size) (hd : dgB s[k] = true) : dgK s (k + 1) = dgK s k ++ [s[k]] := by
  unfold dgK; rw [take_snoc s k h, List.filter_append]; simp [hd]
theorem dgK_no (s : ByteArray) (k : Nat) (h : k < s.size) (hd : dgB s[k] = false) : dgK s (k + 1) = dgK s k := by
  unfold dgK; rw [take_snoc s k h, List.filter_append]; simp [hd]
theorem dgK_len (s : ByteArray) (k : Nat) : (dgK s k).length ≤ k := by
  unfold dgK
  have := List.length_filter_le dgB (s.data.toList.take k)
  rw [List.length_take] at this; omega
theorem dgK_lt (s : ByteArray) (k : Nat) (h : k ≤ 11) : dv (dgK s k) < 100000000000 := by
  have h1 := dv_lt (dgK s k) (by unfold dgK; rw [List.all_eq_true]; intro c hc; exact (List.mem_filter.1 hc).2)
  have h2 : 10 ^ (dgK s k).length ≤ 10 ^ 11 := Nat.pow_le_pow_right (by decide) (Nat.le_trans (dgK_len s k) h)
  have h3 : (10 : Nat) ^ 11 = 100000000000 := by decide
  omega
theorem dgK_dgs (s : ByteArray) (k : Nat) (h : k = 11 ∨ (s.size ≤ k ∧ k ≤ 11)) : dgK s k = dgs s.data.toList := by
  unfold dgK dgs
  rcases h with rfl | ⟨h1, h2⟩
  · rfl
  · rw [List.take_of_length_le (by rw [dlen]; exact h1), List.take_of_length_le (by rw [dlen]; omega)]
theorem pInt_no9 {l : List UInt8} (h : 9 < (dgs l).length) : pInt l = none := by unfold pInt; rw [if_neg]; rintro ⟨h1, _⟩; omega
theorem pInt_no10 {l : List UInt8} (h : 10 < l.length) : pInt l = none := by unfold pInt; rw [if_neg]; rintro ⟨_, h1, _⟩; omega
theorem pInt_noeq {l : List UInt8} (h : Lib.itoa (pVal l) ≠ l) : pInt l = none := by unfold pInt; rw [if_neg]; rintro ⟨_, _, h1⟩; exact h h1
theorem pInt_yes {l : List UInt8} (h : (dgs l).length ≤ 9) (h2 : l.length ≤ 10) (h3 : Lib.itoa (pVal l) = l) : pInt l = some (pVal l) := by unfold pInt; rw [if_pos ⟨h, h2, h3⟩]
theorem pVal_minus {s : ByteArray} (h : 0 < s.size) (h2 : ((s[0].toNat : Int) == 45) = true) : pVal s.data.toList = -(dv (dgs s.data.toList) : Int) := by
  unfold pVal sgn
  rw [if_pos]
  have h3 : 0 < s.data.toList.length := by rw [dlen]; exact h
  rw [List.head?_eq_getElem?, List.getElem?_eq_getElem h3]
  congr 1
  exact UInt8.toNat_inj.1 (by have := beq_iff_eq.1 h2; show s[0].toNat = 45; omega)
theorem pVal_plain {s : ByteArray} (h : s.size = 0 ∨ ∃ h : 0 < s.size, ((s[0].toNat : Int) == 45) = false) : pVal s.data.toList = (dv (dgs s.data.toList) : Int) := by
  unfold pVal sgn
  rw [if_neg]
  intro e
  rcases h with h | ⟨h, h2⟩
  · have : s.data.toList = [] := List.eq_nil_of_length_eq_zero (by rw [dlen]; exact h)
    rw [this] at e; simp at e
  · have h3 : 0 < s.data.toList.length := by rw [dlen]; exact h
    rw [List.head?_eq_getElem?, List.getElem?_eq_getElem h3] at e
    have e2 := Option.some.inj e
    rw [beq_eq_false_iff_ne] at h2
    apply h2
    show ((s.data.toList[0]).toNat : Int) = 45
    rw [e2]; rfl
set_option maxHeartbeats 4000000 in
theorem specParseInt (s : ByteArray) (w : World) (hs : s.size ≤ 1048576) :
    Calls Tryd.prog 73 #[.string s] w fun e w' => e = .returned (.tuple #[.int .i64 (pV s.data.toList), .bool (pB s.data.toList)]) ∧ Below w.heap.size w w' := by
  go_enter Tryd.func73, Tryd.ntmps73
  go_wp2
  go_loop [4, 5, 6] (fun n c i => ∃ k : Nat, k ≤ s.size ∧ k ≤ 11 ∧ i = .int .i64 k ∧ n = .int .i64 (dv (dgK s k)) ∧ c = .int .i64 (dgK s k).length) (fun _ _ i => s.size - (intOf i).toNat)
  case atStart => exact ⟨0, Nat.zero_le _, Nat.zero_le _, rfl, rfl, rfl⟩
  case round =>
    obtain ⟨k, hk, hk2, rfl, rfl, rfl⟩ := hrel
    have hv := dgK_lt s k hk2
    have hc := dgK_len s k
    by_cases hlt : k < s.size
    · by_cases h11 : k < 11
      · cases hd : dgB s[k]
        · have H := Lib.hid (dgK_no s k hlt hd)
          have hr := hd
          unfold dgB rng at hr
          obtain ⟨N, hN⟩ : ∃ N, N = dv (dgK s k) := ⟨_, rfl⟩
          obtain ⟨K, hK⟩ : ∃ K, K = (dgK s k).length := ⟨_, rfl⟩
          rw [← hN] at hv ⊢
          rw [← hK] at hc ⊢
          have HN := Lib.hid hN
          have HK := Lib.hid hK
          clear hd hN hK
          by_cases h48 : (48 : Int) ≤ (s[k].toNat : Int)
          · have h57 : decide ((s[k].toNat : Int) ≤ 57) = false := by simp at hr ⊢; omega
            clear hr
            go_wp2
            go_round
            case rel => exact ⟨k + 1, by omega, by omega, by go_num, by rw [H.out, ← HN.out], by rw [H.out, ← HK.out]⟩
            case measure => simp [intOf]; omega
          · have h48' : decide ((48 : Int) ≤ (s[k].toNat : Int)) = false := by simp; omega
            clear hr h48
            go_wp2
            go_round
            case rel => exact ⟨k + 1, by omega, by omega, by go_num, by rw [H.out, ← HN.out], by rw [H.out, ← HK.out]⟩
            case measure => simp [intOf]; omega
        · have H := Lib.hid (dgK_yes s k hlt hd)
          have hr := dgB_iff hd
          obtain ⟨N, hN⟩ : ∃ N, N = dv (dgK s k) := ⟨_, rfl⟩
          obtain ⟨K, hK⟩ : ∃ K, K = (dgK s k).length := ⟨_, rfl⟩
          have HV : Hid (((N : Int) * 10 + ((s[k].toNat : Int) - 48)) = (dv (dgK s (k + 1)) : Int)) := Lib.hid (by rw [H.out, dv_snoc, ← hN]; omega)
          have HL : Hid (((K : Int) + 1) = ((dgK s (k + 1)).length : Int)) := Lib.hid (by rw [H.out, List.length_append, ← hK]; simp)
          rw [← hN] at hv ⊢
          rw [← hK] at hc ⊢
          obtain ⟨c0, hc0⟩ : ∃ c0 : Int, c0 = (s[k].toNat : Int) := ⟨_, rfl⟩
          have h48 : (48 : Int) ≤ (s[k].toNat : Int) := by omega
          have h57 : (s[k].toNat : Int) ≤ 57 := by omega
          have q1 : IntKind.u8.wrap ((s[k].toNat : Int) - 48) = (s[k].toNat : Int) - 48 := by rw [IntKind.wrap_u8]; omega
          clear hd hN hK hr H hc0
          go_wp2
          go_round
          case rel => exact ⟨k + 1, by omega, by omega, by go_num, by rw [← HV.out], by rw [← HL.out]⟩
          case measure => simp [intOf]; omega
      · obtain rfl : k = 11 := by omega
        have HZ := Lib.hid (pV_none (pInt_no10 (l := s.data.toList) (by rw [dlen]; omega)))
        obtain ⟨N, hN⟩ : ∃ N, N = dv (dgK s 11) := ⟨_, rfl⟩
        obtain ⟨K, hK⟩ : ∃ K, K = (dgK s 11).length := ⟨_, rfl⟩
        rw [← hN] at hv ⊢
        rw [← hK] at hc ⊢
        clear hN hK
        have h0 : 0 < s.size := by omega
        have e4 : IntKind.i64.wrap (-(N : Int)) = -(N : Int) := IntWalk.i64_in _ (by omega)
        have d10 : (10 : Int) < (s.size : Int) := by omega
        cases hm : ((s[0].toNat : Int) == 45)
        · by_cases h9 : (9 : Int) < (K : Int)
          · go_wp2
            go_ret2
            exact ⟨by rw [HZ.out.1, HZ.out.2]; rfl, Below.refl _ _⟩
          · have d9 : decide ((9 : Int) < (K : Int)) = false := by simp; omega
            go_wp2
            go_ret2
            exact ⟨by rw [HZ.out.1, HZ.out.2]; rfl, Below.refl _ _⟩
        · by_cases h9 : (9 : Int) < (K : Int)
          · go_wp2
            go_ret2
            exact ⟨by rw [HZ.out.1, HZ.out.2]; rfl, Below.refl _ _⟩
          · have d9 : decide ((9 : Int) < (K : Int)) = false := by simp; omega
            go_wp2
            go_ret2
            exact ⟨by rw [HZ.out.1, HZ.out.2]; rfl, Below.refl _ _⟩
    · obtain rfl : k = s.size := by omega
      have hdg := dgK_dgs s s.size (Or.inr ⟨Nat.le_refl _, hk2⟩)
      rw [hdg] at hv hc ⊢
      obtain ⟨N, hN⟩ : ∃ N, dv (dgs s.data.toList) = N := ⟨_, rfl⟩
      obtain ⟨K, hK⟩ : ∃ K, (dgs s.data.toList).length = K := ⟨_, rfl⟩
      have HN := Lib.hid hN
      have HK := Lib.hid hK
      rw [hN] at hv ⊢
      rw [hK] at hc ⊢
      clear hN hK hdg
      have e4 : IntKind.i64.wrap (-(N : Int)) = -(N : Int) := IntWalk.i64_in _ (by omega)
      by_cases h0 : 0 < s.size
      · cases hm : ((s[0].toNat : Int) == 45)
        · have hpv := pVal_plain (Or.inr ⟨h0, hm⟩)
          rw [HN.out] at hpv
          by_cases h9 : (9 : Int) < (K : Int)
          · have HZ := Lib.hid (pV_none (pInt_no9 (l := s.data.toList) (by rw [HK.out]; omega)))
            clear hpv
            go_wp2
            go_ret2
            exact ⟨by rw [HZ.out.1, HZ.out.2]; rfl, Below.refl _ _⟩
          · have d9 : decide ((9 : Int) < (K : Int)) = false := by simp; omega
            by_cases h10 : (10 : Int) < (s.size : Int)
            · have HZ := Lib.hid (pV_none (pInt_no10 (l := s.data.toList) (by rw [dlen]; omega)))
              clear hpv
              go_wp2
              go_ret2
              exact ⟨by rw [HZ.out.1, HZ.out.2]; rfl, Below.refl _ _⟩
            · have d10 : decide ((10 : Int) < (s.size : Int)) = false := by simp; omega
              by_cases hi : Lib.itoa ((N : Nat) : Int) = s.data.toList
              · have HZ := Lib.hid (pV_some (pInt_yes (l := s.data.toList) (by rw [HK.out]; omega) (by rw [dlen]; omega) (by rw [hpv]; exact hi)))
                rw [hpv] at HZ
                have HI : Hid (bstr (Lib.itoa ((N : Nat) : Int)) = s) := Lib.hid (by rw [hi]; exact bstr_of s)
                have hss : (s.toList != s.toList) = false := by simp
                clear hi hpv h9 h10
                go_wp2_with fail
                refine (specFormatInt ((N : Nat) : Int) _ (by omega) (by omega)).mono ?_
                rintro e w1 ⟨rfl, hb1⟩
                rw [HI.out]
                go_wp2
                go_ret2
                exact ⟨by rw [HZ.out.1, HZ.out.2]; rfl, hb1⟩
              · have HZ := Lib.hid (pV_none (pInt_noeq (l := s.data.toList) (by rw [hpv]; exact hi)))
                obtain ⟨x, hx⟩ : ∃ x, bstr (Lib.itoa ((N : Nat) : Int)) = x := ⟨_, rfl⟩
                have hss : (x.toList != s.toList) = true := by rw [← hx]; exact bstr_ne hi
                have hs2 : (x.toList == s.toList) = false := by rw [← Bool.not_eq_true', ← bne]; exact hss
                have hs3 : decide (x.toList = s.toList) = false := by simpa using hs2
                have HX := Lib.hid hx
                clear hi hx hpv h9 h10
                go_wp2_with fail
                refine (specFormatInt ((N : Nat) : Int) _ (by omega) (by omega)).mono ?_
                rintro e w1 ⟨rfl, hb1⟩
                rw [HX.out]
                go_wp2
                go_ret2
                exact ⟨by rw [HZ.out.1, HZ.out.2]; rfl, hb1⟩
        · have hpv := pVal_minus h0 hm
          rw [HN.out] at hpv
          by_cases h9 : (9 : Int) < (K : Int)
          · have HZ := Lib.hid (pV_none (pInt_no9 (l := s.data.toList) (by rw [HK.out]; omega)))
            clear hpv
            go_wp2
            go_ret2
            exact ⟨by rw [HZ.out.1, HZ.out.2]; rfl, Below.refl _ _⟩
          · have d9 : decide ((9 : Int) < (K : Int)) = false := by simp; omega
            by_cases h10 : (10 : Int) < (s.size : Int)
            · have HZ := Lib.hid (pV_none (pInt_no10 (l := s.data.toList) (by rw [dlen]; omega)))
              clear hpv
              go_wp2
              go_ret2
              exact ⟨by rw [HZ.out.1, HZ.out.2]; rfl, Below.refl _ _⟩
            · have d10 : decide ((10 : Int) < (s.size : Int)) = false := by simp; omega
              by_cases hi : Lib.itoa (-(N : Int)) = s.data.toList
              · have HZ := Lib.hid (pV_some (pInt_yes (l := s.data.toList) (by rw [HK.out]; omega) (by rw [dlen]; omega) (by rw [hpv]; exact hi)))
                rw [hpv] at HZ
                have HI : Hid (bstr (Lib.itoa (-(N : Int))) = s) := Lib.hid (by rw [hi]; exact bstr_of s)
                have hss : (s.toList != s.toList) = false := by simp
                clear hi hpv h9 h10
                go_wp2_with fail
                refine (specFormatInt (-(N : Int)) _ (by omega) (by omega)).mono ?_
                rintro e w1 ⟨rfl, hb1⟩
                rw [HI.out]
                go_wp2
                go_ret2
                exact ⟨by rw [HZ.out.1, HZ.out.2]; rfl, hb1⟩
              · have HZ := Lib.hid (pV_none (pInt_noeq (l := s.data.toList) (by rw [hpv]; exact hi)))
                obtain ⟨x, hx⟩ : ∃ x, bstr (Lib.itoa (-(N : Int))) = x := ⟨_, rfl⟩
                have hss : (x.toList != s.toList) = true := by rw [← hx]; exact bstr_ne hi
                have hs2 : (x.toList == s.toList) = false := by rw [← Bool.not_eq_true', ← bne]; exact hss
                have hs3 : decide (x.toList = s.toList) = false := by simpa using hs2
                have HX := Lib.hid hx
                clear hi hx hpv h9 h10
                go_wp2_with fail
                refine (specFormatInt (-(N : Int)) _ (by omega) (by omega)).mono ?_
                rintro e w1 ⟨rfl, hb1⟩
                rw [HX.out]
                go_wp2
                go_ret2
                exact ⟨by rw [HZ.out.1, HZ.out.2]; rfl, hb1⟩
      · have hpv := pVal_plain (s := s) (Or.inl (by omega))
        have hz : decide ((0 : Int) < (s.size : Int)) = false := decide_eq_false (by omega)
        rw [HN.out] at hpv
        · skip
          by_cases h9 : (9 : Int) < (K : Int)
          · have HZ := Lib.hid (pV_none (pInt_no9 (l := s.data.toList) (by rw [HK.out]; omega)))
            clear hpv
            go_wp2
            go_ret2
            exact ⟨by rw [HZ.out.1, HZ.out.2]; rfl, Below.refl _ _⟩
          · have d9 : decide ((9 : Int) < (K : Int)) = false := by simp; omega
            by_cases h10 : (10 : Int) < (s.size : Int)
            · have HZ := Lib.hid (pV_none (pInt_no10 (l := s.data.toList) (by rw [dlen]; omega)))
              clear hpv
              go_wp2
              go_ret2
              exact ⟨by rw [HZ.out.1, HZ.out.2]; rfl, Below.refl _ _⟩
            · have d10 : decide ((10 : Int) < (s.size : Int)) = false := by simp; omega
              by_cases hi : Lib.itoa ((N : Nat) : Int) = s.data.toList
              · have HZ := Lib.hid (pV_some (pInt_yes (l := s.data.toList) (by rw [HK.out]; omega) (by rw [dlen]; omega) (by rw [hpv]; exact hi)))
                rw [hpv] at HZ
                have HI : Hid (bstr (Lib.itoa ((N : Nat) : Int)) = s) := Lib.hid (by rw [hi]; exact bstr_of s)
                have hss : (s.toList != s.toList) = false := by simp
                clear hi hpv h9 h10
                go_wp2_with fail
                refine (specFormatInt ((N : Nat) : Int) _ (by omega) (by omega)).mono ?_
                rintro e w1 ⟨rfl, hb1⟩
                rw [HI.out]
                go_wp2
                go_ret2
                exact ⟨by rw [HZ.out.1, HZ.out.2]; rfl, hb1⟩
              · have HZ := Lib.hid (pV_none (pInt_noeq (l := s.data.toList) (by rw [hpv]; exact hi)))
                obtain ⟨x, hx⟩ : ∃ x, bstr (Lib.itoa ((N : Nat) : Int)) = x := ⟨_, rfl⟩
                have hss : (x.toList != s.toList) = true := by rw [← hx]; exact bstr_ne hi
                have hs2 : (x.toList == s.toList) = false := by rw [← Bool.not_eq_true', ← bne]; exact hss
                have hs3 : decide (x.toList = s.toList) = false := by simpa using hs2
                have HX := Lib.hid hx
                clear hi hx hpv h9 h10
                go_wp2_with fail
                refine (specFormatInt ((N : Nat) : Int) _ (by omega) (by omega)).mono ?_
                rintro e w1 ⟨rfl, hb1⟩
                rw [HX.out]
                go_wp2
                go_ret2
                exact ⟨by rw [HZ.out.1, HZ.out.2]; rfl, hb1⟩
def yearV (l : List UInt8) : Int := if (pB l && inB (pV l) 1000 9999) = true then pV l else 0
set_option maxHeartbeats 800000 in
theorem implParseYear (s : ByteArray) (w : World) (ev : Num w) (hs : s.size ≤ 1048576) :
    Calls Tryd.prog 43 #[.string s] w fun e w' => e = .returned (.int .i64 (yearV s.data.toList)) ∧ Below w.heap.size w w' := by
  obtain ⟨n, hn⟩ : ∃ n, pV s.data.toList = n := ⟨_, rfl⟩
  have hv := pV_range s.data.toList
  rw [hn] at hv
  cases hb : pB s.data.toList
  · have H : Hid (yearV s.data.toList = 0) := Lib.hid (by unfold yearV; rw [hb]; rfl)
    have HB := Lib.hid hb
    clear hb
    go_enter Tryd.func43, Tryd.ntmps43
    go_wp2_with fail
    refine (implParseInt s _ ev hs).mono ?_
    rintro e w1 ⟨rfl, hb1⟩
    rw [HB.out]
    go_wp2
    go_ret
    exact ⟨by rw [H.out]; rfl, hb1⟩
  · cases hi : inB n 1000 9999
    · have H : Hid (yearV s.data.toList = 0) := Lib.hid (by unfold yearV; rw [hb, hn, hi]; rfl)
      have HB := Lib.hid hb
      have HN := Lib.hid hn
      have HI := Lib.hid hi
      clear hb hn hi
      go_enter Tryd.func43, Tryd.ntmps43
      go_wp2_with fail
      refine (implParseInt s _ ev hs).mono ?_
      rintro e w1 ⟨rfl, hb1⟩
      rw [HB.out, HN.out]
      go_wp2_with fail
      refine (within_any n 1000 9999 _).mono ?_
      rintro e w2 ⟨rfl, rfl⟩
      rw [HI.out]
      go_wp2
      go_ret
      exact ⟨by rw [H.out]; rfl, hb1⟩
    · have H : Hid (yearV s.data.toList = n) := Lib.hid (by unfold yearV; rw [hb, hn, hi]; rfl)
      have HB := Lib.hid hb
      have HN := Lib.hid hn
      have HI := Lib.hid hi
      clear hb hn hi
      go_enter Tryd.func43, Tryd.ntmps43
      go_wp2_with fail
      refine (implParseInt s _ ev hs).mono ?_
      rintro e w1 ⟨rfl, hb1⟩
      rw [HB.out, HN.out]
      go_wp2_with fail
      refine (within_any n 1000 9999 _).mono ?_
      rintro e w2 ⟨rfl, rfl⟩
      rw [HI.out]
      go_wp2
      go_ret
      exact ⟨by rw [H.out]; rfl, hb1⟩
set_option maxHeartbeats 800000 in
theorem specParseYear (s : ByteArray) (w : World) (hs : s.size ≤ 1048576) :
    Calls Tryd.prog 44 #[.string s] w fun e w' => e = .returned (.int .i64 (yearV s.data.toList)) ∧ Below w.heap.size w w' := by
  obtain ⟨n, hn⟩ : ∃ n, pV s.data.toList = n := ⟨_, rfl⟩
  have hv := pV_range s.data.toList
  rw [hn] at hv
  cases hb : pB s.data.toList
  · have H : Hid (yearV s.data.toList = 0) := Lib.hid (by unfold yearV; rw [hb]; rfl)
    have HB := Lib.hid hb
    clear hb
    go_enter Tryd.func44, Tryd.ntmps44
    go_wp2_with fail
    refine (specParseInt s _ hs).mono ?_
    rintro e w1 ⟨rfl, hb1⟩
    rw [HB.out]
    go_wp2
    go_ret
    exact ⟨by rw [H.out]; rfl, hb1⟩
  · cases hi : inB n 1000 9999
    · have H : Hid (yearV s.data.toList = 0) := Lib.hid (by unfold yearV; rw [hb, hn, hi]; rfl)
      have HB := Lib.hid hb
      have HN := Lib.hid hn
      have HI := Lib.hid hi
      clear hb hn hi
      go_enter Tryd.func44, Tryd.ntmps44
      go_wp2_with fail
      refine (specParseInt s _ hs).mono ?_
      rintro e w1 ⟨rfl, hb1⟩
      rw [HB.out, HN.out]
      go_wp2_with fail
      refine (l1In_any n 1000 9999 _).mono ?_
      rintro e w2 ⟨rfl, rfl⟩
      rw [HI.out]
      go_wp2
      go_ret
      exact ⟨by rw [H.out]; rfl, hb1⟩
    · have H : Hid (yearV s.data.toList = n) := Lib.hid (by unfold yearV; rw [hb, hn, hi]; rfl)
      have HB := Lib.hid hb
      have HN := Lib.hid hn
      have HI := Lib.hid hi
      clear hb hn hi
      go_enter Tryd.func44, Tryd.ntmps44
      go_wp2_with fail
      refine (specParseInt s _ hs).mono ?_
      rintro e w1 ⟨rfl, hb1⟩
      rw [HB.out, HN.out]
      go_wp2_with fail
      refine (l1In_any n 1000 9999 _).mono ?_
      rintro e w2 ⟨rfl, rfl⟩
      rw [HI.out]
      go_wp2
      go_ret
      exact ⟨by rw [H.out]; rfl, hb1⟩
end Go.Proofs.YtoijjielnbcphaaDoor

/-
  What FnNumberScores needs: the plain laws (a score is symmetric, within 0 to 1000, a combination lies between the scores) and the walks of its draws. Condition: the code has at most 2^20 bytes.
-/
import Derived.Test.YtoijjielnbcphaaDoorDraw2
import Derived.Test.YtoijjielnbcphaaDoorGreat
import Derived.Test.YtoijjielnbcphaaDoorComb
import Derived.Test.YtoijjielnbcphaaDoorNumber
import Derived.Test.YtoijjielnbcphaaDoorPhone
import Derived.Test.YtoijjielnbcphaaDoorParse
import Derived.Maps.AppendAt
import Derived.OwnWalk
namespace Go.Proofs.YtoijjielnbcphaaDoor
open Go.RowKit Go.WideShapes
set_option linter.unusedVariables false
set_option linter.unusedSimpArgs false
set_option maxRecDepth 100000
theorem dist_comm (a b : Int) : dist a b = dist b a := by unfold dist; split <;> split <;> omega
theorem dist_nonneg (a b : Int) : 0 ≤ dist a b := by unfold dist; split <;> omega
theorem numScore_comm (a b c : Int) : numScore b a c = numScore a b c := by
  unfold numScore
  rw [dist_comm b a]
  by_cases h : inB a 0 9999 = true ∧ inB b 0 9999 = true ∧ inB c 1 9999 = true
  · rw [if_pos h, if_pos ⟨h.2.1, h.1, h.2.2⟩]
  · rw [if_neg h, if_neg (fun k => h ⟨k.2.1, k.1, k.2.2⟩)]
theorem numScore_range (a b c : Int) : 0 ≤ numScore a b c ∧ numScore a b c ≤ 1000 := by
  unfold numScore
  by_cases h : inB a 0 9999 = true ∧ inB b 0 9999 = true ∧ inB c 1 9999 = true
  · rw [if_pos h]
    by_cases hc : c ≤ dist a b
    · rw [if_pos hc]; omega
    · rw [if_neg hc]
      have h1 := (inB_yes h.2.2).1
      have hd := dist_nonneg a b
      generalize dist a b = d at *
      refine ⟨Int.ediv_nonneg (by omega) (by omega), ?_⟩
      have : 1000 * (c - d) / c < 1000 + 1 := Int.ediv_lt_of_lt_mul (by omega) (by omega)
      omega
  · rw [if_neg h]; omega
theorem lcs_comm (x y : List UInt8) : lcs x y = lcs y x := lcp_comm _ _
theorem phone_comm (x y : ByteArray) : phone y x = phone x y := by
  unfold phone
  rw [lcs_comm y.data.toList]
  generalize lcs x.data.toList y.data.toList = k
  by_cases h : x.size < 4 ∨ y.size < 4 ∨ k < 4
  · rw [if_pos h, if_pos (by omega)]
  · rw [if_neg h, if_neg (by omega)]
    by_cases h2 : k = x.size ∧ k = y.size
    · rw [if_pos h2, if_pos ⟨h2.2, h2.1⟩]
    · rw [if_neg h2, if_neg (by omega)]
      by_cases h3 : 7 ≤ k ∨ k = x.size ∨ k = y.size
      · rw [if_pos h3, if_pos (by omega)]
      · rw [if_neg h3, if_neg (by omega)]
theorem sumP_between (lo hi : Int) : ∀ (l w : List Int), (∀ x ∈ l, lo ≤ x ∧ x ≤ hi) → (l.zip w).all okP = true → 0 ≤ sumW l w ∧ lo * sumW l w ≤ sumP l w ∧ sumP l w ≤ hi * sumW l w
  | [], w, _, _ => by simp [sumW, sumP]
  | x :: l, [], _, _ => by simp [sumW, sumP]
  | x :: l, y :: w, hx, ha => by
    rw [List.zip_cons_cons, List.all_cons, Bool.and_eq_true] at ha
    obtain ⟨i1, i2, i3⟩ := sumP_between lo hi l w (fun z hz => hx z (.tail _ hz)) ha.2
    obtain ⟨h1, h2⟩ := hx x (.head _)
    have hok := ha.1
    unfold okP at hok
    rw [Bool.and_eq_true] at hok
    have hy : 0 ≤ y := (inB_yes hok.2).1
    have e1 : sumW (x :: l) (y :: w) = y + sumW l w := by unfold sumW; simp
    have e2 : sumP (x :: l) (y :: w) = x * y + sumP l w := by unfold sumP; simp
    rw [e1, e2, Int.mul_add, Int.mul_add]
    have m1 : lo * y ≤ x * y := Int.mul_le_mul_of_nonneg_right h1 hy
    have m2 : x * y ≤ hi * y := Int.mul_le_mul_of_nonneg_right h2 hy
    exact ⟨by omega, by omega, by omega⟩
theorem comb_between {l w : List Int} {lo hi : Int} (h : ∀ x ∈ l, lo ≤ x ∧ x ≤ hi) : comb l w = 0 ∨ (lo ≤ comb l w ∧ comb l w ≤ hi) := by
  unfold comb
  by_cases hc : l.length = w.length ∧ (l.zip w).all okP = true
  · rw [if_pos hc]
    unfold combAll
    by_cases h0 : sumW l w = 0
    · rw [if_pos h0]; exact Or.inl rfl
    · rw [if_neg h0]
      obtain ⟨h1, h2, h3⟩ := sumP_between lo hi l w h hc.2
      have hp : 0 < sumW l w := by omega
      refine Or.inr ⟨Int.le_ediv_of_mul_le hp h2, ?_⟩
      have : sumP l w / sumW l w < hi + 1 := Int.ediv_lt_of_lt_mul hp (by rw [Int.add_mul]; omega)
      omega
  · rw [if_neg hc]; exact Or.inl rfl
theorem drawNum (a : Option Addr) (c : Nat) (l : List UInt8) (w : World) (hr : RowAt fU w a l) (hl : l.length ≤ 1048576) :
    Calls Tryd.prog 34 #[.slice a l.length c] w fun e w' => ∃ x y z, e = .returned (.tuple #[.int .i64 x, .int .i64 y, .int .i64 z]) ∧ Below w.heap.size w w' := by
  have HR := Lib.hid hr
  clear hr
  go_enter Tryd.func34, Tryd.ntmps34
  go_wp2_with fail
  refine (newCur a c l _ HR.out hl).mono ?_
  rintro e w1 ⟨g, rfl, hg, hc, hb⟩
  have HB1 := Lib.hid hb
  have HG := Lib.hid hg
  clear hb hg
  go_wp2_with fail
  refine (litPickInt (fun _ => True) g l _ _ _ _ _ hc ?_ ?_ ?_ ?_ ?_).mono ?_
  · rfl
  · rfl
  · decide
  · decide
  · intro s _; trivial
  rintro e w2 ⟨x, _, rfl, hd⟩
  have HD := Lib.hid hd
  clear hd hc
  go_wp2_with fail
  refine (litPickInt (fun _ => True) g l _ _ _ _ _ HD.out.1 ?_ ?_ ?_ ?_ ?_).mono ?_
  · rfl
  · rfl
  · decide
  · decide
  · intro s _; trivial
  rintro e w3 ⟨y, _, rfl, hd⟩
  have HD2 := Lib.hid (HD.out.trans hd)
  clear hd
  go_wp2_with fail
  refine (litPickInt (fun _ => True) g l _ _ _ _ _ HD2.out.1 ?_ ?_ ?_ ?_ ?_).mono ?_
  · rfl
  · rfl
  · decide
  · decide
  · intro s _; trivial
  rintro e w4 ⟨z, _, rfl, hd⟩
  have HB := Lib.hid ((HD2.out.trans hd).bel HB1.out HG.out)
  clear hd
  go_wp2
  go_ret3
  exact ⟨x, y, z, rfl, HB.out⟩
theorem drawPhone (a : Option Addr) (c : Nat) (l : List UInt8) (w : World) (hr : RowAt fU w a l) (hl : l.length ≤ 1048576) :
    Calls Tryd.prog 37 #[.slice a l.length c] w fun e w' => ∃ x y, x.size ≤ 40 ∧ y.size ≤ 40 ∧ e = .returned (.tuple #[.string x, .string y]) ∧ Below w.heap.size w w' := by
  have HR := Lib.hid hr
  clear hr
  go_enter Tryd.func37, Tryd.ntmps37
  go_wp2_with fail
  refine (newCur a c l _ HR.out hl).mono ?_
  rintro e w1 ⟨g, rfl, hg, hc, hb⟩
  have HB1 := Lib.hid hb
  have HG := Lib.hid hg
  clear hb hg
  go_wp2_with fail
  refine (l7Phone_any g l _ hc).mono ?_
  rintro e w2 ⟨x, hx, rfl, hd⟩
  have HX := Lib.hid hx
  have HD := Lib.hid hd
  clear hd hc hx
  go_wp2_with fail
  refine (l7Phone_any g l _ HD.out.1).mono ?_
  rintro e w3 ⟨y, hy, rfl, hd⟩
  have HY := Lib.hid hy
  have HB := Lib.hid ((HD.out.trans hd).bel HB1.out HG.out)
  clear hd hy
  go_wp2
  go_ret2
  exact ⟨x, y, HX.out, HY.out, rfl, HB.out⟩
theorem drawYear (a : Option Addr) (c : Nat) (l : List UInt8) (w : World) (hr : RowAt fU w a l) (hl : l.length ≤ 1048576) :
    Calls Tryd.prog 42 #[.slice a l.length c] w fun e w' => ∃ x, x.size ≤ 40 ∧ e = .returned (.string x) ∧ Below w.heap.size w w' := by
  have HR := Lib.hid hr
  clear hr
  go_enter Tryd.func42, Tryd.ntmps42
  go_wp2_with fail
  refine (newCur a c l _ HR.out hl).mono ?_
  rintro e w1 ⟨g, rfl, hg, hc, hb⟩
  have HB1 := Lib.hid hb
  have HG := Lib.hid hg
  clear hb hg
  go_wp2_with fail
  refine (litPick (fun s => s.size ≤ 40) g l _ _ _ _ _ hc ?_ ?_ ?_ ?_ ?_).mono ?_
  · rfl
  · rfl
  · decide
  · decide
  · decide +kernel
  rintro e w2 ⟨x, hx, rfl, hd⟩
  have HX := Lib.hid hx
  have HB := Lib.hid (hd.bel HB1.out HG.out)
  clear hd hc hx
  go_wp2
  go_ret
  exact ⟨x, HX.out, rfl, HB.out⟩
/-- Two slices of ints that the call builds while it draws. -/
structure Two (g : Nat) (code : List UInt8) (w0 w : World) (va vb : Value) (la lb : List Int) : Prop where
  a : BldD fI 3 g code w0 w va la
  b : BldD fI 3 g code w0 w vb lb
  ne : vb.ownBlock ≠ va.ownBlock
theorem Two.step {g : Nat} {code : List UInt8} {w0 w w' : World} {va vb : Value} {la lb : List Int} (h : Two g code w0 w va vb la lb) (hd : Drew g code w w') : Two g code w0 w' va vb la lb := ⟨h.a.step hd, h.b.step hd, h.ne⟩
theorem Two.swap {g : Nat} {code : List UInt8} {w0 w : World} {va vb : Value} {la lb : List Int} (h : Two g code w0 w va vb la lb) : Two g code w0 w vb va lb la := ⟨h.b, h.a, h.ne.symm⟩
theorem wpList_pushT {P : Program} {w0 w : World} {ops : Array Oper} {rest : List Oper} {o : Oper} {a : Act} {Q : Exit → Act → World → Prop} (hgd : o.guard = none) (s x : Operand) (t : TypeId)
    (ho : o.op = .call { callee := .builtin .append, args := #[s, x], argTypes := #[t, t] })
    (ht : P.underlying t = some (.slice 3)) (z : Value) (bytes : Nat) (hi : (P.info? 3).map (fun i => (i.zero, i.size, i.bytes)) = some (some z, 1, bytes)) (hz : z.cells.size = 1)
    (va vb : Value) (la lb : List Int) (hs : a.eval s = va) {g : Nat} {code : List UInt8} (hb : Two g code w0 w va vb la lb) (c : Int) (u : Value) (hu : u = fI c)
    (hx : a.eval x = .slice (some ⟨w.heap.size, 0, none⟩) 1 1) (h63 : la.length + 1 ≤ 1000000000000) (hbytes : (la.length + 1) * bytes ≤ 140737488355328)
    (h : ∀ v' w', Two g code w0 w' v' vb (la ++ [c]) lb → wpList P ops Q rest (a.put o.dst v') w') : wpList P ops Q (o :: rest) a (w.alloc (.cells #[u] 3)) := by
  subst hu
  obtain ⟨i, hi0, h1, h2, h3⟩ := info_parts hi
  have hd2 : Drew g code w (w.alloc (.cells #[fI c] 3)) := (Drew.refl hb.a.drew.1).below ((Below.refl _ _).alloc (Nat.le_refl _) _)
  have hb2 : Two g code w0 (w.alloc (.cells #[fI c] 3)) va vb la lb := hb.step hd2
  refine wpList_append_own_at _ hgd s x t ho w0.heap.size 3 i z 1 bytes ht hi0 h1 h2 h3 hz (by decide) va la.length (la.map fI) hs hb2.a.own ⟨w.heap.size, 0, none⟩ 1 1 [fI c] hx rfl ?_ ?_ (by unfold maxLen; omega) hbytes hb2.a.big ?_
  · intro j u hu
    match j, hu with
    | 0, hu => simp at hu; subst hu; simp [Addr.add]
  · intro u hu; simp at hu; subst hu; exact fI_one c
  · intro v' w' ho' hg _ hat
    have hdr := hb2.a.drew.grown hb2.a.cur hg (fun k hk => (hb2.a.own.lt k hk).1)
    refine h v' w' ⟨⟨?_, hdr, hb2.a.cur⟩, ⟨hb2.b.own.kept hg (Or.inr hb2.ne), hdr, hb2.a.cur⟩, ?_⟩
    · rw [List.length_append, List.map_append]
      exact ho'
    · rcases hat with h | h
      · rw [h]; exact hb2.ne
      · rw [h]; intro he
        have := (hb2.b.own.lt _ he).2
        omega
theorem rowD {g : Nat} {code : List UInt8} {w0 w : World} {v : Value} {l : List Int} (h : BldD fI 3 g code w0 w v l) : ∃ p c, v = .slice p l.length c ∧ RowAt fI w p l := by
  have hb : BldG fI 3 w0.heap.size w w v l := ⟨h.own, Below.refl _ _, h.big⟩
  obtain ⟨p, c, rfl⟩ := hb.form
  exact ⟨p, c, rfl, hb.row.at⟩
set_option maxHeartbeats 1600000 in
theorem drawComb (a : Option Addr) (c : Nat) (l : List UInt8) (w : World) (hr : RowAt fU w a l) (hl : l.length ≤ 1048576) :
    Calls Tryd.prog 45 #[.slice a l.length c] w fun e w' => ∃ p q c1 c2 la lb, la.length ≤ 10 ∧ lb.length ≤ 10 ∧ RowAt fI w' p la ∧ RowAt fI w' q lb ∧ e = .returned (.tuple #[.slice p la.length c1, .slice q lb.length c2]) ∧ Below w.heap.size w w' := by
  have HR := Lib.hid hr
  clear hr
  go_enter Tryd.func45, Tryd.ntmps45
  go_wp2_with fail
  refine (newCur a c l _ HR.out hl).mono ?_
  rintro e w1 ⟨g, rfl, hg, hc, hb⟩
  have HB1 := Lib.hid hb
  have HG := Lib.hid hg
  have HT0 : Hid (Two g l w1 ((w1.alloc (.cells #[] 3)).alloc (.cells #[] 3)) (.slice (some ⟨w1.heap.size, 0, none⟩) 0 0) (.slice (some ⟨w1.heap.size + 1, 0, none⟩) 0 0) [] []) := by
    have h1 := BldD.empty fI 3 (Drew.refl hc) hc
    have hd1 : Drew g l w1 (w1.alloc (.cells #[] 3)) := h1.drew
    have h2 := BldD.empty fI 3 hd1 hc
    have e1 : (w1.alloc (.cells #[] 3)).heap.size = w1.heap.size + 1 := by simp
    rw [e1] at h2
    refine Lib.hid ⟨h1.step ((Drew.refl hd1.1).below ((Below.refl _ _).alloc (Nat.le_refl _) _)), h2, ?_⟩
    simp [Value.ownBlock]
  clear hb hg hc
  go_wp2_with fail
  refine (l1Below_any g l 5 _ HT0.out.a.drew.1 (by decide) (by decide)).mono ?_
  rintro e w2 ⟨m, hm, rfl, hd⟩
  have HT := Lib.hid (HT0.out.step hd)
  clear hd HT0
  go_wp2
  go_loopw [5, 6, 7] (fun va vb i wr => ∃ (k : Nat) (la lb : List Int), i = .int .i64 k ∧ la.length + k ≤ 5 ∧ lb.length + k ≤ 5 ∧ Two g l w1 wr va vb la lb) (fun _ _ i _ => (intOf i).toNat)
  case atStart => exact ⟨m, [], [], rfl, by simp; omega, by simp; omega, HT.out⟩
  case round =>
    obtain ⟨k, la, lb, rfl, hka, hkb, ht⟩ := hrel
    by_cases hk0 : k = 0
    · subst hk0
      clear HT
      have HT := Lib.hid ht
      clear ht
      go_wp2_with fail
      refine (l1Below_any g l 12 _ HT.out.a.drew.1 (by decide) (by decide)).mono ?_
      rintro e w3 ⟨x, hx, rfl, hd⟩
      have ht3 := HT.out.step hd
      clear hd HT
      have fin : ∀ (w' : World) (va vb : Value) (la lb : List Int), Two g l w1 w' va vb la lb → ∃ p q c1 c2, va = .slice p la.length c1 ∧ vb = .slice q lb.length c2 ∧ RowAt fI w' p la ∧ RowAt fI w' q lb ∧ Below w.heap.size w w' := by
        intro w' va vb la lb h
        obtain ⟨p, c1, h1, h2⟩ := rowD h.a
        obtain ⟨q, c2, h3, h4⟩ := rowD h.b
        exact ⟨p, q, c1, c2, h1, h3, h2, h4, h.a.drew.bel HB1.out HG.out⟩
      have FIN := Lib.hid fin
      clear fin
      by_cases x0 : x = 0
      · have d0 : ((x : Int) == 0) = true := by rw [x0]; rfl
        clear x0
        go_wp2_with (at_builtin; first | (refine wpList_pushT rfl _ _ 51 rfl Tryd.underlying51 _ _ infoI rfl _ _ _ _ rfl ht3 1001 _ rfl rfl ?_ ?_ ?_; (omega); (omega); intro v4 w4 ht4; have ht4' := ht4.swap) | (refine wpList_pushT rfl _ _ 51 rfl Tryd.underlying51 _ _ infoI rfl _ _ _ _ rfl ht4' 1 _ rfl rfl ?_ ?_ ?_; (omega); (omega); intro v5 w5 ht5))
        obtain ⟨p, q, c1, c2, rfl, rfl, h1, h2, h3⟩ := FIN.out _ _ _ _ _ ht5.swap
        have H1 := Lib.hid h1
        have H2 := Lib.hid h2
        have H3 := Lib.hid h3
        clear h1 h2 h3
        go_wp2
        go_ret2
        exact ⟨p, q, c1, c2, _, _, by simp; omega, by simp; omega, H1.out, H2.out, rfl, H3.out⟩
      · have d0 : ((x : Int) == 0) = false := by rw [beq_eq_false_iff_ne]; omega
        by_cases x1 : x = 1
        · have d1 : ((x : Int) == 1) = true := by rw [x1]; rfl
          clear x1 x0
          have ht3' := ht3.swap
          go_wp2_with (at_builtin; refine wpList_pushT rfl _ _ 51 rfl Tryd.underlying51 _ _ infoI rfl _ _ _ _ rfl ht3' 1 _ rfl rfl ?_ ?_ ?_; (omega); (omega); intro v4 w4 ht4)
          obtain ⟨p, q, c1, c2, rfl, rfl, h1, h2, h3⟩ := FIN.out _ _ _ _ _ ht4.swap
          have H1 := Lib.hid h1
          have H2 := Lib.hid h2
          have H3 := Lib.hid h3
          clear h1 h2 h3
          go_wp2
          go_ret2
          exact ⟨p, q, c1, c2, _, _, by omega, by simp; omega, H1.out, H2.out, rfl, H3.out⟩
        · have d1 : ((x : Int) == 1) = false := by rw [beq_eq_false_iff_ne]; omega
          clear x1 x0
          obtain ⟨p, q, c1, c2, rfl, rfl, h1, h2, h3⟩ := FIN.out _ _ _ _ _ ht3
          have H1 := Lib.hid h1
          have H2 := Lib.hid h2
          have H3 := Lib.hid h3
          clear h1 h2 h3
          go_wp2
          go_ret2
          exact ⟨p, q, c1, c2, _, _, by omega, by omega, H1.out, H2.out, rfl, H3.out⟩
    · have hkp : (0 : Int) < (k : Int) := by omega
      have hkn : 0 < k := by omega
      clear hk0
      obtain ⟨K, hK⟩ : ∃ K, K = k - 1 := ⟨_, rfl⟩
      have eK : (k : Int) - 1 = (K : Int) := by omega
      have HKa : Hid (la.length + 1 + K ≤ 5) := Lib.hid (by omega)
      have HKb : Hid (lb.length + 1 + K ≤ 5) := Lib.hid (by omega)
      have HKm : Hid (K < k) := Lib.hid (by omega)
      clear hK
      go_wp2_with fail
      refine (litPickInt (fun _ => True) g l _ _ _ _ _ ht.a.drew.1 ?_ ?_ ?_ ?_ ?_).mono ?_
      · rfl
      · rfl
      · decide
      · decide
      · intro s _; trivial
      rintro e w3 ⟨x, _, rfl, hd⟩
      have ht3 := ht.step hd
      clear hd ht
      go_wp2_with (at_builtin; refine wpList_pushT rfl _ _ 51 rfl Tryd.underlying51 _ _ infoI rfl _ _ _ _ rfl ht3 x _ rfl rfl ?_ ?_ ?_; (omega); (omega); intro v4 w4 ht4)
      clear ht3
      refine (litPickInt (fun _ => True) g l _ _ _ _ _ ht4.a.drew.1 ?_ ?_ ?_ ?_ ?_).mono ?_
      · rfl
      · rfl
      · decide
      · decide
      · intro s _; trivial
      rintro e w5 ⟨y, _, rfl, hd⟩
      have ht5 := (ht4.step hd).swap
      clear hd ht4
      go_wp2_with (at_builtin; refine wpList_pushT rfl _ _ 51 rfl Tryd.underlying51 _ _ infoI rfl _ _ _ _ rfl ht5 y _ rfl rfl ?_ ?_ ?_; (omega); (omega); intro v6 w6 ht6)
      go_roundw
      case rel => exact ⟨K, _, _, by go_num, by have := HKa.out; simp; omega, by have := HKb.out; simp; omega, ht6.swap⟩
      case measure => have := HKm.out; simp [intOf]; omega
end Go.Proofs.YtoijjielnbcphaaDoor

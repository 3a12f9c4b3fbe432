/-
  What FnSounds needs: the plain laws (a code does not depend on case, sounding alike is symmetric, the keys are a token set) and the walks of its draws. Condition: the code has at most 2^20 bytes.
-/
import Derived.Test.YtoijjielnbcphaaDoorDraw3
import Derived.Test.YtoijjielnbcphaaDoorGreat
import Derived.Test.YtoijjielnbcphaaDoorSKeys
import Derived.Test.YtoijjielnbcphaaDoorTokset
import Derived.Test.YtoijjielnbcphaaDoorAlike
namespace Go.Proofs.YtoijjielnbcphaaDoor
open Go.RowKit Go.Sort
set_option linter.unusedVariables false
set_option linter.unusedSimpArgs false
set_option maxRecDepth 100000
theorem sc_low (c : UInt8) : sc (low c) = sc c := by unfold sc; rw [low_low]
theorem sxStep_low (st : List UInt8 × Int) (c : UInt8) : sxStep st (low c) = sxStep st c := by unfold sxStep; rw [sc_low]
theorem sx_fold (l : List UInt8) : sx (fold l) = sx l := by
  cases l with
  | nil => rfl
  | cons c r =>
    show (r.map low).foldl sxStep ([low (low c)], sc (low c)) = r.foldl sxStep ([low c], sc c)
    rw [low_low, sc_low, List.foldl_map]
    congr 1
    funext st d
    exact sxStep_low st d
theorem badS_fold (l : List UInt8) : badS (fold l) = badS l := by
  unfold badS fold
  rw [List.any_map]
  congr 1
  funext c
  show (sc (low c) == -2) = (sc c == -2)
  rw [sc_low]
theorem fold_nil_iff (l : List UInt8) : fold l = [] ↔ l = [] := by unfold fold; simp
theorem sndx_fold (l : List UInt8) : sndx (fold l) = sndx l := by
  unfold sndx
  rw [sx_fold, badS_fold]
  by_cases h : l = [] ∨ badS l = true
  · rw [if_pos h, if_pos (by rw [fold_nil_iff]; exact h)]
  · rw [if_neg h, if_neg (by rw [fold_nil_iff]; exact h)]
theorem alike_comm (a b : ByteArray) : alike b a = alike a b := by
  unfold alike
  rw [bstr_toList, bstr_toList]
  cases ha : sndx a.data.toList with
  | nil => cases hb : sndx b.data.toList with
    | nil => rfl
    | cons y m => rfl
  | cons x l => cases hb : sndx b.data.toList with
    | nil => rfl
    | cons y m => rw [Bool.eq_iff_iff]; simp only [List.isEmpty_cons, Bool.not_false, Bool.true_and, beq_iff_eq]; exact eq_comm
theorem sound_cases (a S : ByteArray) (h : bstr (sndx a.data.toList) = S) : S.toList.isEmpty = true ∨ (S.toList.isEmpty = false ∧ S.size = 4 ∧ alike a a = true) := by
  have he : S.toList.isEmpty = (sndx a.data.toList).isEmpty := by rw [← h, bstr_toList]
  rcases @sndx_len a.data.toList with h1 | h1
  · left; rw [he, h1]; rfl
  · right
    have h2 : (sndx a.data.toList).isEmpty = false := by cases hx : sndx a.data.toList with
      | nil => rw [hx] at h1; cases h1
      | cons _ _ => rfl
    exact ⟨by rw [he, h2], by rw [← h, bstr_size, h1], by rw [alike_yes _ h2]; simp⟩
theorem sxStep_aln {st : List UInt8 × Int} (c : UInt8) (h : st.1.all aln = true) : (sxStep st c).1.all aln = true := by
  have hr := sc_range c
  unfold sxStep
  split
  · rename_i h1
    rw [List.all_append, h, Bool.true_and, List.all_cons, List.all_nil, Bool.and_true]
    have hd := digit_toNat (sc c).toNat (by omega)
    unfold aln
    rw [show rng 48 57 (dch (sc c).toNat) = true from rng_iff.2 (by omega), Bool.or_true]
  · split <;> exact h
theorem sx_aln : ∀ (l : List UInt8) (st : List UInt8 × Int), st.1.all aln = true → (l.foldl sxStep st).1.all aln = true
  | [], _, h => h
  | c :: l, st, h => by rw [List.foldl_cons]; exact sx_aln l _ (sxStep_aln c h)
theorem sndx_aln (l : List UInt8) : (sndx l).all aln = true := by
  unfold sndx
  by_cases h : l = [] ∨ badS l = true
  · rw [if_pos h]; rfl
  · rw [if_neg h]
    cases l with
    | nil => exact absurd (Or.inl rfl) h
    | cons c r =>
      have hb : sc c ≠ -2 := by
        intro e
        exact h (Or.inr (by unfold badS; rw [List.any_cons, e]; rfl))
      have hc : aln (low c) = true := by
        unfold aln
        cases hl : rng 97 122 (low c)
        · exact absurd (by unfold sc; rw [hl]; rfl) hb
        · rfl
      have ha : ((sx (c :: r)).1 ++ [48, 48, 48]).all aln = true := by
        rw [List.all_append, show (sx (c :: r)).1.all aln = true from sx_aln r _ (by rw [List.all_cons, hc]; rfl)]; decide
      rw [List.all_eq_true] at ha ⊢
      exact fun x hx => ha x (List.mem_of_mem_take hx)
theorem tset_up {l : List ByteArray} (hu : Up (l.map bs)) (hx : ∀ x ∈ l, ¬ x.size = 0 ∧ alnum x = true) : tset l = true := by
  refine tset_yes fun k hk => ?_
  obtain ⟨h1, h2⟩ := hx l[k] (List.getElem_mem _)
  refine tok_yes hk (by omega) h1 h2 ?_
  by_cases h0 : k = 0
  · exact Or.inl h0
  · right
    rw [less_bs, decide_eq_true_iff]
    have := List.pairwise_iff_getElem.1 hu (k - 1) k (by simp; omega) (by simpa using hk) (by omega)
    simpa using this
theorem mem_keysOf {l : List ByteArray} {x : ByteArray} (h : x ∈ keysOf l) : ¬ x.size = 0 ∧ alnum x = true := by
  unfold keysOf at h
  rw [List.mem_filter, List.mem_map] at h
  obtain ⟨⟨y, _, rfl⟩, h2⟩ := h
  refine ⟨fun h0 => ?_, by unfold alnum; rw [bstr_list]; exact sndx_aln _⟩
  rw [bstr_size] at h0
  rw [neB_no (by rw [bstr_list]; exact List.eq_nil_of_length_eq_zero h0)] at h2
  cases h2
theorem skeys_tset (s : ByteArray) : tset (skeys s) = true := by
  refine tset_up ?_ ?_
  · unfold skeys; rw [ssL_bs]; exact up_sset _
  · intro x hx
    have hm : bs x ∈ (skeys s).map bs := List.mem_map_of_mem hx
    unfold skeys at hm
    rw [ssL_bs, mem_sset, List.mem_map] at hm
    obtain ⟨y, hy, he⟩ := hm
    have : y = x := by apply ByteArray.ext; exact Array.toList_inj.1 he
    rw [← this]; exact mem_keysOf hy
theorem skeys_size (s : ByteArray) : ∀ k (h : k < (skeys s).length), (skeys s)[k].size ≤ 4 := by
  intro k hk
  have hm : bs (skeys s)[k] ∈ (skeys s).map bs := List.mem_map_of_mem (List.getElem_mem _)
  unfold skeys at hm
  rw [ssL_bs, mem_sset, List.mem_map] at hm
  obtain ⟨y, hy, he⟩ := hm
  unfold keysOf at hy
  rw [List.mem_filter, List.mem_map] at hy
  obtain ⟨⟨z, _, rfl⟩, _⟩ := hy
  have h1 : (bs (skeys s)[k]).length = (skeys s)[k].size := dlen _
  have h2 : (bs (skeys s)[k]).length = (sndx z.data.toList).length := by
    show (bs (ssL (keysOf (toksL s)))[k]).length = _
    rw [← he, bs_bstr]
  have h3 : (sndx z.data.toList).length ≤ 4 := by
    rcases @sndx_len z.data.toList with h | h
    · rw [h]; exact Nat.zero_le _
    · rw [h]; exact Nat.le_refl _
  exact Nat.le_trans (Nat.le_of_eq (h1.symm.trans h2)) h3
theorem drawAlike (a : Option Addr) (c : Nat) (l : List UInt8) (w : World) (hr : RowAt fU w a l) (hl : l.length ≤ 1048576) :
    Calls Tryd.prog 7 #[.slice a l.length c] w fun e w' => ∃ x y, x.size ≤ 40 ∧ y.size ≤ 40 ∧ e = .returned (.tuple #[.string x, .string y]) ∧ Below w.heap.size w w' := by
  have HR := Lib.hid hr
  clear hr
  go_enter Tryd.func7, Tryd.ntmps7
  go_wp2_with fail
  refine (newCur a c l _ HR.out hl).mono ?_
  rintro e w1 ⟨g, rfl, hg, hc, hb⟩
  have HB1 := Lib.hid hb
  have HG := Lib.hid hg
  clear hb hg
  go_wp2_with fail
  refine (l6Word_any g l _ hc).mono ?_
  rintro e w2 ⟨x, hx, rfl, hd⟩
  have HX := Lib.hid hx
  have HD := Lib.hid hd
  clear hd hc hx
  go_wp2_with fail
  refine (l6Word_any g l _ HD.out.1).mono ?_
  rintro e w3 ⟨y, hy, rfl, hd⟩
  have HY := Lib.hid hy
  have HB := Lib.hid ((HD.out.trans hd).bel HB1.out HG.out)
  clear hd hy
  go_wp2
  go_ret2
  exact ⟨x, y, HX.out, HY.out, rfl, HB.out⟩
theorem drawSKeys (a : Option Addr) (c : Nat) (l : List UInt8) (w : World) (hr : RowAt fU w a l) (hl : l.length ≤ 1048576) :
    Calls Tryd.prog 14 #[.slice a l.length c] w fun e w' => ∃ x, x.size ≤ 100 ∧ e = .returned (.string x) ∧ Below w.heap.size w w' := by
  have HR := Lib.hid hr
  clear hr
  go_enter Tryd.func14, Tryd.ntmps14
  go_wp2_with fail
  refine (newCur a c l _ HR.out hl).mono ?_
  rintro e w1 ⟨g, rfl, hg, hc, hb⟩
  have HB1 := Lib.hid hb
  have HG := Lib.hid hg
  clear hb hg
  go_wp2_with fail
  refine (l2Text_any g l _ hc).mono ?_
  rintro e w2 ⟨x, hx, rfl, hd⟩
  have HX := Lib.hid hx
  have HB := Lib.hid (hd.bel HB1.out HG.out)
  clear hd hc hx
  go_wp2
  go_ret
  exact ⟨x, HX.out, rfl, HB.out⟩
theorem drawSCode (a : Option Addr) (c : Nat) (l : List UInt8) (w : World) (hr : RowAt fU w a l) (hl : l.length ≤ 1048576) :
    Calls Tryd.prog 13 #[.slice a l.length c] w fun e w' => ∃ x : UInt8, e = .returned (.int .u8 x.toNat) ∧ Below w.heap.size w w' := by
  have HR := Lib.hid hr
  clear hr
  go_enter Tryd.func13, Tryd.ntmps13
  go_wp2_with fail
  refine (newCur a c l _ HR.out hl).mono ?_
  rintro e w1 ⟨g, rfl, hg, hc, hb⟩
  have HB1 := Lib.hid hb
  have HG := Lib.hid hg
  clear hb hg
  go_wp2_with fail
  refine (litPickInt (fun s => 0 ≤ s ∧ s ≤ 255) g l _ _ _ _ _ hc ?_ ?_ ?_ ?_ ?_).mono ?_
  · rfl
  · rfl
  · decide
  · decide
  · decide +kernel
  rintro e w2 ⟨x, hx, rfl, hd⟩
  obtain ⟨y, rfl⟩ : ∃ y : UInt8, x = (y.toNat : Int) := by
    refine ⟨UInt8.ofNat x.toNat, ?_⟩
    have e1 : ∀ m : Nat, m < 256 → (UInt8.ofNat m).toNat = m := fun m hm => by simp; omega
    rw [e1 _ (by omega)]; omega
  have wy : IntKind.u8.wrap (y.toNat : Int) = (y.toNat : Int) := by
    have h : ∀ n, IntKind.u8.wrap n = n % 256 := fun n => by simp [IntKind.wrap, IntKind.bits, IntKind.signed]
    rw [h]; omega
  have HB := Lib.hid (hd.bel HB1.out HG.out)
  clear hd hc hx
  go_wp2
  go_ret
  exact ⟨y, rfl, HB.out⟩
end Go.Proofs.YtoijjielnbcphaaDoor

/-
  Plain laws on lists of byte strings: a set built by insertion is the set built by sort and compact; the size of a multiset intersection. No condition.
-/
import Derived.Lib.SlicesCompact
namespace Go.Proofs.YtdhdjmeolkobeaaDoor
set_option linter.unusedVariables false
set_option linter.unusedSimpArgs false
abbrev Bs := List UInt8
theorem bs_irr (x : Bs) : ¬ x < x := List.lt_irrefl x
theorem bs_tr {x y z : Bs} (h : x < y) (h2 : y < z) : x < z := List.lt_trans h h2
theorem bs_tot {x y : Bs} (h : ¬ x < y) (h2 : ¬ y < x) : x = y := List.le_antisymm (List.not_lt.1 h2) (List.not_lt.1 h)
theorem bs_le_tr {x y z : Bs} (h : x ≤ y) (h2 : y ≤ z) : x ≤ z := List.le_trans h h2
theorem bs_ne {x y : Bs} (h : x < y) : x ≠ y := by rintro rfl; exact bs_irr _ h
theorem bs_not {x y : Bs} (h : x < y) : ¬ y < x := fun h2 => bs_irr _ (bs_tr h h2)
def leS (x y : Bs) : Bool := decide (x ≤ y)
theorem leS_tr (a b c : Bs) (h : leS a b = true) (h2 : leS b c = true) : leS a c = true := by
  simp only [leS, decide_eq_true_eq] at *; exact bs_le_tr h h2
theorem leS_tot (a b : Bs) : (leS a b || leS b a) = true := by
  simp only [leS, Bool.or_eq_true, decide_eq_true_eq]; exact List.le_total a b
theorem leS_anti {a b : Bs} (h : leS a b = true) (h2 : leS b a = true) : a = b := by
  simp only [leS, decide_eq_true_eq] at *; exact List.le_antisymm h h2
theorem leS_of_lt {a b : Bs} (h : a < b) : leS a b = true := by
  simp only [leS, decide_eq_true_eq]; exact List.not_lt.1 (bs_not h)
theorem leS_of_not {a b : Bs} (h : ¬ b < a) : leS a b = true := by
  simp only [leS, decide_eq_true_eq]; exact List.not_lt.1 h
theorem lt_of_leS {a b : Bs} (h : leS a b = true) (h2 : a ≠ b) : a < b := by
  by_cases h3 : a < b
  · exact h3
  · exact absurd (leS_anti h (leS_of_not h3)) h2

/-! ### two ordered lists -/
/-- strictly rising -/
def Up (l : List Bs) : Prop := l.Pairwise (· < ·)
/-- rising -/
def Ups (l : List Bs) : Prop := l.Pairwise (fun a b => leS a b = true)
theorem Up.ups {l : List Bs} (h : Up l) : Ups l := List.Pairwise.imp (fun h => leS_of_lt h) h
theorem Up.nil : Up [] := List.Pairwise.nil
theorem Up.tail {x : Bs} {l : List Bs} (h : Up (x :: l)) : Up l := (List.pairwise_cons.1 h).2
theorem Up.head {x : Bs} {l : List Bs} (h : Up (x :: l)) : ∀ y ∈ l, x < y := (List.pairwise_cons.1 h).1
theorem Up.filter {l : List Bs} (h : Up l) (p : Bs → Bool) : Up (l.filter p) := List.Pairwise.filter p h
theorem Up.nodup {l : List Bs} (h : Up l) : l.Nodup := List.Pairwise.imp (fun h => bs_ne h) h
/-- Two strictly rising lists of the same members are one. -/
theorem Up.unique : ∀ {a b : List Bs}, Up a → Up b → (∀ x, x ∈ a ↔ x ∈ b) → a = b
  | [], [], _, _, _ => rfl
  | [], y :: b, _, _, h => by have := (h y).2 (by simp); simp at this
  | x :: a, [], _, _, h => by have := (h x).1 (by simp); simp at this
  | x :: a, y :: b, ha, hb, h => by
    have e : x = y := by
      have h1 := (h x).1 (by simp)
      have h2 := (h y).2 (by simp)
      rcases List.mem_cons.1 h1 with h1 | h1
      · exact h1
      · rcases List.mem_cons.1 h2 with h2 | h2
        · exact h2.symm
        · exact absurd (hb.head x h1) (bs_not (ha.head y h2))
    subst e
    have : a = b := Up.unique ha.tail hb.tail (fun z => by
      constructor
      · intro hz
        rcases List.mem_cons.1 ((h z).1 (List.mem_cons_of_mem _ hz)) with e | h3
        · exact absurd e.symm (bs_ne (ha.head z hz))
        · exact h3
      · intro hz
        rcases List.mem_cons.1 ((h z).2 (List.mem_cons_of_mem _ hz)) with e | h3
        · exact absurd e.symm (bs_ne (hb.head z hz))
        · exact h3)
    rw [this]
/-- Two rising lists of the same members, counted, are one. -/
theorem Ups.unique : ∀ {a b : List Bs}, Ups a → Ups b → a.Perm b → a = b
  | [], b, _, _, h => (List.Perm.nil_eq h)
  | x :: a, [], _, _, h => by have := h.length_eq; simp at this
  | x :: a, y :: b, ha, hb, h => by
    have ha' := List.pairwise_cons.1 ha
    have hb' := List.pairwise_cons.1 hb
    have e : x = y := by
      have h1 : x ∈ y :: b := h.subset (by simp)
      have h2 : y ∈ x :: a := h.symm.subset (by simp)
      rcases List.mem_cons.1 h1 with h1 | h1
      · exact h1
      · rcases List.mem_cons.1 h2 with h2 | h2
        · exact h2.symm
        · exact leS_anti (ha'.1 y h2) (hb'.1 x h1)
    subst e
    rw [Ups.unique ha'.2 hb'.2 (List.Perm.cons_inv h)]

/-! ### insertion -/
/-- The reference's insertion: s before the first element that is not less; nothing where it is there already (unless twice). -/
def putS (tw : Bool) : List Bs → Bs → List Bs
  | [], s => [s]
  | x :: l, s => if x < s then x :: putS tw l s else if !tw && decide (x = s) then x :: l else s :: x :: l
def puts (tw : Bool) (l : List Bs) : List Bs := l.foldl (putS tw) []
theorem mem_putS {tw : Bool} {s z : Bs} : ∀ {l : List Bs}, z ∈ putS tw l s ↔ z = s ∨ z ∈ l
  | [] => by simp [putS]
  | x :: l => by
    unfold putS
    split
    · rw [List.mem_cons, mem_putS, List.mem_cons]
      constructor
      · rintro (h | h | h) <;> simp [h]
      · rintro (h | h | h) <;> simp [h]
    · split
      · rename_i h
        simp only [Bool.and_eq_true, decide_eq_true_eq] at h
        rw [h.2]; simp
      · simp
theorem up_putS {s : Bs} : ∀ {l : List Bs}, Up l → Up (putS false l s)
  | [], _ => by unfold putS; exact List.pairwise_singleton _ _
  | x :: l, h => by
    unfold putS
    split
    · rename_i hx
      refine List.pairwise_cons.2 ⟨fun y hy => ?_, up_putS h.tail⟩
      rcases mem_putS.1 hy with e | hy
      · rw [e]; exact hx
      · exact h.head y hy
    · rename_i hx
      split
      · exact h
      · rename_i hn
        have hne : x ≠ s := fun e => hn (by simp [e])
        have hs : s < x := by
          by_cases h3 : s < x
          · exact h3
          · exact absurd (bs_tot hx h3) hne
        refine List.pairwise_cons.2 ⟨fun y hy => ?_, h⟩
        rcases List.mem_cons.1 hy with e | hy
        · rw [e]; exact hs
        · exact bs_tr hs (h.head y hy)
theorem up_puts_aux : ∀ (l acc : List Bs), Up acc → Up (l.foldl (putS false) acc)
  | [], _, h => h
  | x :: l, acc, h => up_puts_aux l _ (up_putS h)
theorem up_puts (l : List Bs) : Up (puts false l) := up_puts_aux l [] Up.nil
theorem mem_puts_aux {tw : Bool} {z : Bs} : ∀ (l acc : List Bs), z ∈ l.foldl (putS tw) acc ↔ z ∈ acc ∨ z ∈ l
  | [], acc => by simp
  | x :: l, acc => by
    rw [List.foldl_cons, mem_puts_aux l, mem_putS, List.mem_cons]
    constructor
    · rintro ((h | h) | h) <;> simp [h]
    · rintro (h | h | h) <;> simp [h]
theorem mem_puts {tw : Bool} {z : Bs} (l : List Bs) : z ∈ puts tw l ↔ z ∈ l := by unfold puts; rw [mem_puts_aux]; simp
theorem ups_putS {s : Bs} : ∀ {l : List Bs}, Ups l → Ups (putS true l s)
  | [], _ => by unfold putS; exact List.pairwise_singleton _ _
  | x :: l, h => by
    have h' := List.pairwise_cons.1 h
    unfold putS
    split
    · rename_i hx
      refine List.pairwise_cons.2 ⟨fun y hy => ?_, ups_putS h'.2⟩
      rcases mem_putS.1 hy with e | hy
      · rw [e]; exact leS_of_lt hx
      · exact h'.1 y hy
    · rename_i hx
      rw [if_neg (by simp)]
      refine List.pairwise_cons.2 ⟨fun y hy => ?_, h⟩
      rcases List.mem_cons.1 hy with e | hy
      · rw [e]; exact leS_of_not hx
      · exact leS_tr _ _ _ (leS_of_not hx) (h'.1 y hy)
theorem perm_putS {s : Bs} : ∀ {l : List Bs}, (putS true l s).Perm (s :: l)
  | [] => List.Perm.refl _
  | x :: l => by
    unfold putS
    split
    · exact ((perm_putS (l := l)).cons x).trans (List.Perm.swap _ _ _)
    · rw [if_neg (by simp)]
theorem ups_puts_aux : ∀ (l acc : List Bs), Ups acc → Ups (l.foldl (putS true) acc) ∧ (l.foldl (putS true) acc).Perm (acc ++ l)
  | [], acc, h => ⟨h, by simp⟩
  | x :: l, acc, h => by
    obtain ⟨h1, h2⟩ := ups_puts_aux l _ (ups_putS (s := x) h)
    refine ⟨h1, h2.trans ?_⟩
    refine ((perm_putS (s := x) (l := acc)).append_right l).trans ?_
    exact List.perm_middle.symm
/-- Every element, repeats kept, by insertion: the sorted list. -/
theorem puts_sort (l : List Bs) : puts true l = l.mergeSort leS := by
  obtain ⟨h1, h2⟩ := ups_puts_aux l [] List.Pairwise.nil
  refine Ups.unique h1 (List.pairwise_mergeSort leS_tr leS_tot l) ?_
  exact (h2.trans (by simp)).trans (List.mergeSort_perm l leS).symm

/-! ### compact -/
/-- neighbours that are alike struck -/
def dedup : List Bs → List Bs
  | [] => []
  | [x] => [x]
  | x :: y :: l => if x = y then dedup (y :: l) else x :: dedup (y :: l)
theorem mem_dedup {z : Bs} : ∀ {l : List Bs}, z ∈ dedup l ↔ z ∈ l
  | [] => by simp [dedup]
  | [x] => by simp [dedup]
  | x :: y :: l => by
    unfold dedup
    split
    · rename_i e; subst e; rw [mem_dedup]; simp
    · rw [List.mem_cons, mem_dedup, List.mem_cons (a := z) (b := x)]
theorem up_dedup : ∀ {l : List Bs}, Ups l → Up (dedup l)
  | [], _ => Up.nil
  | [x], _ => by unfold dedup; exact List.pairwise_singleton _ _
  | x :: y :: l, h => by
    have h' := List.pairwise_cons.1 h
    unfold dedup
    split
    · exact up_dedup h'.2
    · rename_i hne
      refine List.pairwise_cons.2 ⟨fun z hz => ?_, up_dedup h'.2⟩
      have hxy := lt_of_leS (h'.1 y (by simp)) hne
      rcases List.mem_cons.1 (mem_dedup.1 hz) with e | hz
      · rw [e]; exact hxy
      · have := (List.pairwise_cons.1 h'.2).1 z hz
        by_cases e : y = z
        · rw [← e]; exact hxy
        · exact bs_tr hxy (lt_of_leS this e)
/-- The sorted set of a list. -/
def sset (l : List Bs) : List Bs := dedup (l.mergeSort leS)
theorem up_sset (l : List Bs) : Up (sset l) := up_dedup (List.pairwise_mergeSort leS_tr leS_tot l)
theorem mem_sset {z : Bs} {l : List Bs} : z ∈ sset l ↔ z ∈ l := by unfold sset; rw [mem_dedup, List.mem_mergeSort]
theorem puts_sset (l : List Bs) : puts false l = sset l := Up.unique (up_puts l) (up_sset l) (fun x => by rw [mem_puts, mem_sset])
theorem sset_up {l : List Bs} (h : Up l) : sset l = l := Up.unique (up_sset l) h (fun x => mem_sset)
theorem sset_congr {l m : List Bs} (h : ∀ x, x ∈ l ↔ x ∈ m) : sset l = sset m := Up.unique (up_sset l) (up_sset m) (fun x => by rw [mem_sset, mem_sset, h x])

/-! the library's word for Compact -/
theorem keeps_zero (d : Array Bs) : Lib.keeps d 0 = true := by simp [Lib.keeps]
theorem compactUpTo_dedup (l : List Bs) : ∀ m, m ≤ l.length → Lib.compactUpTo l.toArray m = ((List.range m).filter (Lib.keeps l.toArray)).map (fun j => l[j]!) := by
  intro m hm
  unfold Lib.compactUpTo
  apply List.map_congr_left
  intro j hj
  simp
theorem keeps_succ (x : Bs) (l : List Bs) (j : Nat) (hj : j + 1 < l.length) : Lib.keeps (x :: l).toArray (j + 2) = Lib.keeps l.toArray (j + 1) := by
  simp [Lib.keeps]
theorem compact_cons (x y : Bs) (l : List Bs) : Lib.compact (x :: y :: l) = x :: (if x = y then (Lib.compact (y :: l)).tail else Lib.compact (y :: l)) := by
  have h1 : ∀ m, m ≤ l.length → ((List.range m).map (· + 2)).filter (Lib.keeps (x :: y :: l).toArray) = (((List.range m).map (· + 1)).filter (Lib.keeps (y :: l).toArray)).map (· + 1) := by
    intro m hm
    induction m with
    | zero => rfl
    | succ m ih =>
      rw [List.range_succ, List.map_append, List.map_append, List.filter_append, List.filter_append, List.map_append, ih (by omega)]
      congr 1
      have hk := keeps_succ x (y :: l) m (by simp; omega)
      simp only [List.map_cons, List.map_nil, List.filter_cons, List.filter_nil, hk]
      split <;> rfl
  have h0 : Lib.keeps (x :: y :: l).toArray 1 = decide (y ≠ x) := by simp [Lib.keeps]
  have hr : List.range (l.length + 2) = 0 :: 1 :: (List.range l.length).map (· + 2) := by
    rw [List.range_succ_eq_map, List.range_succ_eq_map]
    simp [Function.comp_def]
  have hr2 : List.range (l.length + 1) = 0 :: (List.range l.length).map (· + 1) := by
    rw [List.range_succ_eq_map]
  have e1 : Lib.compact (y :: l) = y :: (((List.range l.length).map (· + 1)).filter (Lib.keeps (y :: l).toArray)).map (fun j => (y :: l)[j]!) := by
    unfold Lib.compact
    rw [compactUpTo_dedup _ _ (Nat.le_refl _), show (y :: l).length = l.length + 1 from rfl, hr2, List.filter_cons, if_pos (keeps_zero _)]
    rfl
  have e2 : Lib.compact (x :: y :: l) = x :: ((if y ≠ x then [y] else []) ++ (((List.range l.length).map (· + 1)).filter (Lib.keeps (y :: l).toArray)).map (fun j => (y :: l)[j]!)) := by
    unfold Lib.compact
    rw [compactUpTo_dedup _ _ (Nat.le_refl _), show (x :: y :: l).length = l.length + 2 from rfl, hr, List.filter_cons, if_pos (keeps_zero _), List.filter_cons, h0, h1 _ (Nat.le_refl _)]
    by_cases e : y = x
    · simp [e]
    · simp [e]
  rw [e2, e1]
  by_cases e : x = y
  · subst e; simp
  · rw [if_neg e, if_pos (fun h => e h.symm)]; rfl
theorem compact_nil : Lib.compact ([] : List Bs) = [] := rfl
theorem compact_one (x : Bs) : Lib.compact [x] = [x] := by simp [Lib.compact, Lib.compactUpTo, List.range_succ, Lib.keeps]
theorem dedup_head : ∀ (x : Bs) (l : List Bs), ∃ m, dedup (x :: l) = x :: m
  | x, [] => ⟨[], rfl⟩
  | x, y :: l => by
    unfold dedup
    split
    · rename_i e; subst e; exact dedup_head x l
    · exact ⟨_, rfl⟩
theorem compact_dedup : ∀ l : List Bs, Lib.compact l = dedup l
  | [] => compact_nil
  | [x] => compact_one x
  | x :: y :: l => by
    rw [compact_cons, compact_dedup (y :: l), dedup]
    obtain ⟨m, hm⟩ := dedup_head y l
    by_cases e : x = y
    · subst e; rw [if_pos rfl, if_pos rfl, hm]; rfl
    · rw [if_neg e, if_neg e]

/-! ### the size of the intersection -/
def interN : List Bs → List Bs → Nat
  | [], _ => 0
  | x :: a, b => if x ∈ b then interN a (b.erase x) + 1 else interN a b
theorem interN_nil : ∀ a : List Bs, interN a [] = 0
  | [] => rfl
  | x :: a => by unfold interN; rw [if_neg (by simp)]; exact interN_nil a
theorem interN_perm_right : ∀ {a b c : List Bs}, b.Perm c → interN a b = interN a c
  | [], _, _, _ => rfl
  | x :: a, b, c, h => by
    unfold interN
    by_cases hx : x ∈ b
    · rw [if_pos hx, if_pos (h.subset hx), interN_perm_right (h.erase x)]
    · rw [if_neg hx, if_neg (fun h2 => hx (h.symm.subset h2)), interN_perm_right h]
theorem interN_swap (x y : Bs) (a b : List Bs) : interN (x :: y :: a) b = interN (y :: x :: a) b := by
  by_cases e : x = y
  · subst e; rfl
  · have e' : y ≠ x := fun h => e h.symm
    unfold interN
    unfold interN
    by_cases hx : x ∈ b
    · by_cases hy : y ∈ b
      · rw [if_pos hx, if_pos hy, if_pos ((List.mem_erase_of_ne e').2 hy), if_pos ((List.mem_erase_of_ne e).2 hx), List.erase_comm]
      · rw [if_pos hx, if_neg hy, if_neg (fun h => hy (List.mem_of_mem_erase h)), if_pos hx]
    · by_cases hy : y ∈ b
      · rw [if_neg hx, if_pos hy, if_pos hy, if_neg (fun h => hx (List.mem_of_mem_erase h))]
      · rw [if_neg hx, if_neg hy, if_neg hy, if_neg hx]
theorem interN_cons_congr {x : Bs} {a a' : List Bs} (h : ∀ b, interN a b = interN a' b) (b : List Bs) : interN (x :: a) b = interN (x :: a') b := by
  unfold interN; rw [h, h]
theorem interN_perm_left {a a' : List Bs} (h : a.Perm a') : ∀ b, interN a b = interN a' b := by
  induction h with
  | nil => intro b; rfl
  | cons x _ ih => exact interN_cons_congr ih
  | swap x y l => intro b; exact interN_swap _ _ _ _
  | trans _ _ ih1 ih2 => intro b; rw [ih1, ih2]
theorem interN_both (x : Bs) (a b : List Bs) : interN (x :: a) (x :: b) = interN a b + 1 := by
  conv => lhs; unfold interN
  rw [if_pos (by simp), List.erase_cons_head]
theorem interN_left_no {x : Bs} {a b : List Bs} (h : x ∉ b) : interN (x :: a) b = interN a b := by
  conv => lhs; unfold interN
  rw [if_neg h]
theorem interN_right_no : ∀ {y : Bs} {a b : List Bs}, y ∉ a → interN a (y :: b) = interN a b
  | y, [], b, _ => rfl
  | y, x :: a, b, h => by
    have hne : x ≠ y := fun e => h (by simp [e])
    have ha : y ∉ a := fun h2 => h (List.mem_cons_of_mem _ h2)
    unfold interN
    by_cases hx : x ∈ b
    · rw [if_pos (List.mem_cons_of_mem _ hx), if_pos hx, List.erase_cons_tail (by simpa using fun e => hne e.symm), interN_right_no ha]
    · rw [if_neg (by simp [hne, hx]), if_neg hx, interN_right_no ha]
theorem interN_comm : ∀ a b : List Bs, interN a b = interN b a
  | [], b => (interN_nil b).symm
  | x :: a, b => by
    by_cases hx : x ∈ b
    · rw [interN_perm_right (List.perm_cons_erase hx), interN_both, interN_comm a, interN_perm_left (List.perm_cons_erase hx) (x :: a), interN_both]
    · rw [interN_left_no hx, interN_comm a, interN_right_no hx]
theorem interN_self : ∀ a : List Bs, interN a a = a.length
  | [] => rfl
  | x :: a => by rw [interN_both, interN_self a]; rfl
theorem interN_le_left : ∀ a b : List Bs, interN a b ≤ a.length
  | [], b => Nat.le_refl _
  | x :: a, b => by
    unfold interN
    split
    · have := interN_le_left a (b.erase x); simp; omega
    · have := interN_le_left a b; simp; omega
theorem interN_le_right (a b : List Bs) : interN a b ≤ b.length := by rw [interN_comm]; exact interN_le_left b a
/-- Heads of rising lists. -/
theorem interN_lt {x y : Bs} {a b : List Bs} (hb : Ups (y :: b)) (h : x < y) : interN (x :: a) (y :: b) = interN a (y :: b) := by
  refine interN_left_no ?_
  intro hx
  rcases List.mem_cons.1 hx with e | hx
  · exact bs_ne h e
  · have h2 := (List.pairwise_cons.1 hb).1 x hx
    have h3 := leS_anti (leS_of_lt h) h2
    exact bs_ne h h3
theorem interN_gt {x y : Bs} {a b : List Bs} (ha : Ups (x :: a)) (h : y < x) : interN (x :: a) (y :: b) = interN (x :: a) b := by
  rw [interN_comm, interN_lt ha h, interN_comm]
theorem interN_eq {x y : Bs} {a b : List Bs} (h : ¬ x < y) (h2 : ¬ y < x) : interN (x :: a) (y :: b) = interN a b + 1 := by
  obtain rfl := bs_tot h h2; exact interN_both _ _ _
/-- The reference's count: elements whose number so far is below that in b. -/
def cntS (a b : List Bs) (k : Nat) : Nat := ((List.range k).filter fun i => decide ((a.take i).count (a.getD i []) < b.count (a.getD i []))).length
theorem cntS_succ (a b : List Bs) (k : Nat) : cntS a b (k + 1) = cntS a b k + if (a.take k).count (a.getD k []) < b.count (a.getD k []) then 1 else 0 := by
  unfold cntS
  rw [List.range_succ, List.filter_append, List.length_append]
  congr 1
  simp only [List.filter_cons, List.filter_nil]
  by_cases h : (a.take k).count (a.getD k []) < b.count (a.getD k [])
  · rw [if_pos (by simpa using h), if_pos h]; rfl
  · rw [if_neg (by simpa using h), if_neg h]; rfl
theorem count_diff (x : Bs) : ∀ (p b : List Bs), (p.foldl List.erase b).count x = b.count x - p.count x
  | [], b => by simp
  | y :: p, b => by
    rw [List.foldl_cons, count_diff x p, List.count_erase, List.count_cons]
    by_cases e : y = x
    · subst e; simp; omega
    · have e' : ¬ (x == y) = true := by simpa using fun h => e h.symm
      have e2 : ¬ (y == x) = true := by simpa using e
      simp [e2, e']
theorem interN_take (a b : List Bs) : ∀ k, k ≤ a.length → interN a b = cntS a b k + interN (a.drop k) ((a.take k).foldl List.erase b) := by
  intro k
  induction k with
  | zero => intro _; simp [cntS]
  | succ k ih =>
    intro hk
    have hlt : k < a.length := by omega
    have hd : a.getD k [] = a[k] := by simp [List.getD, hlt]
    rw [ih (by omega), cntS_succ, List.drop_eq_getElem_cons hlt, List.take_succ_eq_append_getElem hlt, List.foldl_append, hd]
    have hc := count_diff a[k] (a.take k) b
    by_cases h : (a.take k).count a[k] < b.count a[k]
    · have hm : a[k] ∈ (a.take k).foldl List.erase b := List.count_pos_iff.1 (by omega)
      rw [if_pos h]
      conv => lhs; rw [interN]
      rw [if_pos hm]
      simp only [List.foldl_cons, List.foldl_nil]
      omega
    · have hm : a[k] ∉ (a.take k).foldl List.erase b := fun h2 => by have := List.count_pos_iff.2 h2; omega
      rw [if_neg h, interN_left_no hm]
      simp only [List.foldl_cons, List.foldl_nil, List.erase_of_not_mem hm]
      omega
theorem cntS_all (a b : List Bs) : cntS a b a.length = interN a b := by
  rw [interN_take a b a.length (Nat.le_refl _)]; simp [interN]
theorem interN_sort (a b : List Bs) : interN (a.mergeSort leS) (b.mergeSort leS) = interN a b := by
  rw [interN_perm_left (List.mergeSort_perm a leS), interN_perm_right (List.mergeSort_perm b leS)]
theorem interN_nodup : ∀ {a b : List Bs}, a.Nodup → interN a b = (a.filter (fun x => decide (x ∈ b))).length
  | [], b, _ => rfl
  | x :: a, b, h => by
    have h' := List.nodup_cons.1 h
    by_cases hx : x ∈ b
    · conv => lhs; rw [interN]
      rw [if_pos hx, interN_nodup h'.2, List.filter_cons, if_pos (by simpa using hx), List.length_cons]
      congr 2
      apply List.filter_congr
      intro y hy
      have : y ≠ x := fun e => h'.1 (e ▸ hy)
      simp [List.mem_erase_of_ne this]
    · rw [interN_left_no hx, interN_nodup h'.2, List.filter_cons, if_neg (by simpa using hx)]
/-- The elements of both, the elements of either. -/
def commonS (a b : List Bs) : List Bs := sset (a.filter fun x => decide (x ∈ b))
def uniteS (a b : List Bs) : List Bs := sset (a ++ b)
theorem commonS_eq (a b : List Bs) : (sset a).filter (fun x => decide (x ∈ b)) = commonS a b :=
  Up.unique ((up_sset a).filter _) (up_sset _) (fun x => by simp [commonS, mem_sset])
theorem commonS_up {a b : List Bs} (h : Up a) : commonS a b = a.filter fun x => decide (x ∈ b) := sset_up (h.filter _)
theorem commonS_len {a b : List Bs} (h : Up a) : (commonS a b).length = interN a b := by rw [commonS_up h, interN_nodup h.nodup]
theorem perm_of_mem {a b : List Bs} (ha : a.Nodup) (hb : b.Nodup) (h : ∀ x, x ∈ a ↔ x ∈ b) : a.Perm b := by
  have e : sset a = sset b := sset_congr h
  have h1 : ∀ {l : List Bs}, l.Nodup → (sset l).Perm l := by
    intro l hl
    have hn : (l.mergeSort leS).Nodup := (List.mergeSort_perm l leS).symm.nodup hl
    have hd : ∀ {m : List Bs}, m.Nodup → dedup m = m := by
      intro m
      induction m with
      | nil => intro _; rfl
      | cons x m ih =>
        intro hm
        cases m with
        | nil => rfl
        | cons y m =>
          have hm' := List.nodup_cons.1 hm
          unfold dedup
          rw [if_neg (fun e => hm'.1 (by simp [e])), ih hm'.2]
    unfold sset
    rw [hd hn]
    exact List.mergeSort_perm l leS
  exact (h1 ha).symm.trans (e ▸ h1 hb)
theorem uniteS_len {a b : List Bs} (ha : Up a) (hb : Up b) : (uniteS a b).length + interN a b = a.length + b.length := by
  have hn : (a ++ b.filter (fun x => !decide (x ∈ a))).Nodup := by
    rw [List.nodup_append]
    refine ⟨ha.nodup, hb.nodup.sublist List.filter_sublist, ?_⟩
    intro x hx y hy e
    subst e
    simp only [List.mem_filter] at hy
    simp [hx] at hy
  have hp : (uniteS a b).Perm (a ++ b.filter (fun x => !decide (x ∈ a))) :=
    perm_of_mem (up_sset _).nodup hn (fun x => by
      unfold uniteS
      rw [mem_sset, List.mem_append, List.mem_append, List.mem_filter]
      by_cases hx : x ∈ a <;> simp [hx])
  have h1 := hp.length_eq
  rw [List.length_append] at h1
  have h2 := interN_nodup (b := a) hb.nodup
  rw [interN_comm, h2, h1]
  have h3 : ∀ l : List Bs, (l.filter (fun x => decide (x ∈ a))).length + (l.filter (fun x => !decide (x ∈ a))).length = l.length := by
    intro l
    induction l with
    | nil => rfl
    | cons y l ih => by_cases hy : y ∈ a <;> simp [hy] <;> omega
  have := h3 b
  omega
end Go.Proofs.YtdhdjmeolkobeaaDoor

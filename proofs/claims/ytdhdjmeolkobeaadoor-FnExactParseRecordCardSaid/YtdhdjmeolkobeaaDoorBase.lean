/-
  Plain helpers of this seat: bytes of a string, and a slice of bytes that a call builds by append. No condition.
-/
import Derived.ProofKit
import Derived.WalkKit
import Derived.WalkSpells
import Derived.WalkLawsBesides
import Derived.Lib.Hide
import Derived.Lib.ConvBytes
import Derived.Lib.Strings
namespace Go.Proofs.YtdhdjmeolkobeaaDoor
open Go.RowKit
set_option linter.unusedVariables false
set_option linter.unusedSimpArgs false

/-! ### bytes of a string -/
theorem dlen (s : ByteArray) : s.data.toList.length = s.size := by simp
theorem byte_le (b : UInt8) : (b.toNat : Int) ≤ 255 := by have := b.toNat_lt; omega
theorem take_snoc (s : ByteArray) (k : Nat) (h : k < s.size) : s.data.toList.take (k + 1) = s.data.toList.take k ++ [s[k]] := by
  rw [List.take_succ_eq_append_getElem (by simpa using h)]; rfl
theorem take_all (s : ByteArray) : s.data.toList.take s.size = s.data.toList := List.take_of_length_le (by simp)
theorem take_len (s : ByteArray) (k : Nat) (h : k ≤ s.size) : (s.data.toList.take k).length = k := by simp; omega
theorem bool_ret {a b : Bool} (h : a = b) : Ending.returned (.bool a) = .returned (.bool b) := by rw [h]
theorem int_ret {k : IntKind} {a b : Int} (h : a = b) : Ending.returned (.int k a) = .returned (.int k b) := by rw [h]
theorem str_ret {a b : ByteArray} (h : a = b) : Ending.returned (.string a) = .returned (.string b) := by rw [h]

theorem toBelow {P : Program} {f : Nat} {args : Array Value} {w : World} {x : Ending} (h : Calls P f args w fun e w' => e = x ∧ w = w') : Calls P f args w fun e w' => e = x ∧ Below w.heap.size w w' :=
  h.mono fun _ _ ⟨a, b⟩ => ⟨a, b ▸ Below.refl _ _⟩
theorem below_drewN (w : World) (k : Nat) : Below w.heap.size w (w.drewN k) := ⟨rfl, rfl, rfl, Nat.le_refl _, fun _ _ => rfl⟩
theorem drawnBelow {P : Program} {f : Nat} {args : Array Value} {w : World} {x : Ending} (h : Calls P f args w fun e w' => e = x ∧ ∃ k, w' = w.drewN k) : Calls P f args w fun e w' => e = x ∧ Below w.heap.size w w' :=
  h.mono fun _ _ ⟨a, k, b⟩ => ⟨a, by rw [b]; exact below_drewN w k⟩

/-- The string of a list of bytes. -/
def bstr (l : List UInt8) : ByteArray := ⟨l.toArray⟩
theorem bstr_size (l : List UInt8) : (bstr l).size = l.length := by simp [bstr, ByteArray.size]
theorem bstr_list (l : List UInt8) : (bstr l).data.toList = l := by simp [bstr]
theorem bstr_of (s : ByteArray) : bstr s.data.toList = s := by cases s; simp [bstr]

/-- Induction from the end of a list. -/
theorem snoc_ind {α : Type} {P : List α → Prop} (h0 : P []) (h1 : ∀ l c, P l → P (l ++ [c])) (l : List α) : P l := by
  have k : ∀ r : List α, P r.reverse := by
    intro r
    induction r with
    | nil => simpa using h0
    | cons c r ih => rw [List.reverse_cons]; exact h1 _ _ ih
  have := k l.reverse
  rwa [List.reverse_reverse] at this
theorem eqI {x n : Int} (h : x = n) : (x == n) = true ∧ (x != n) = false := by simp [h]
theorem neI {x n : Int} (h : ¬ x = n) : (x == n) = false ∧ (x != n) = true := by simp [h]
theorem byte_of (k : Nat) (h : k < 256) : ((UInt8.ofNat k).toNat : Int) = (k : Int) := by simp; omega
theorem byte_eq {c : UInt8} {n : Nat} (hn : n < 256) (h : (c.toNat : Int) = (n : Int)) : c = UInt8.ofNat n := by
  apply UInt8.toNat_inj.1; simp; omega
theorem byte_ne {c : UInt8} {n : Nat} (hn : n < 256) (h : ¬ (c.toNat : Int) = (n : Int)) : c ≠ UInt8.ofNat n := by
  intro e; subst e; simp at h; omega

/-- The byte lies from lo to hi. -/
def rng (lo hi : Nat) (c : UInt8) : Bool := decide (lo ≤ c.toNat) && decide (c.toNat ≤ hi)
theorem rng_lo {lo hi : Nat} {c : UInt8} (h : ¬ (lo : Int) ≤ (c.toNat : Int)) : rng lo hi c = false := by unfold rng; simp; omega
theorem rng_hi {lo hi : Nat} {c : UInt8} (h : ¬ (c.toNat : Int) ≤ (hi : Int)) : rng lo hi c = false := by unfold rng; simp; omega
theorem rng_in {lo hi : Nat} {c : UInt8} (h : (lo : Int) ≤ (c.toNat : Int)) (h2 : (c.toNat : Int) ≤ (hi : Int)) : rng lo hi c = true := by unfold rng; simp; omega
theorem mem_at (s : ByteArray) (k : Nat) (h : k < s.size) : s[k] ∈ s.data.toList :=
  List.mem_of_mem_take (i := k + 1) (by rw [take_snoc s k h]; simp)
theorem all_no (s : ByteArray) (k : Nat) (h : k < s.size) (f : UInt8 → Bool) (hf : f s[k] = false) : s.data.toList.all f = false := by
  rw [List.all_eq_false]; exact ⟨_, mem_at s k h, by simp [hf]⟩
theorem all_snoc (s : ByteArray) (k : Nat) (h : k < s.size) (f : UInt8 → Bool) (ha : (s.data.toList.take k).all f = true) (hf : f s[k] = true) : (s.data.toList.take (k + 1)).all f = true := by
  rw [take_snoc s k h, List.all_append, ha]; simp [hf]

/-- A byte against a range: the three consistent cases. -/
theorem range_cases (n lo hi : Int) (h : lo ≤ hi) : ¬ lo ≤ n ∨ (lo ≤ n ∧ n ≤ hi) ∨ (lo ≤ n ∧ ¬ n ≤ hi) := by omega

theorem bstr_extract (l : List UInt8) (a b : Nat) : (bstr l).extract a b = bstr ((l.drop a).take (b - a)) := by rw [Lib.extract_eq, bstr_list]; rfl
theorem extract_bstr (s : ByteArray) (a b : Nat) : s.extract a b = bstr ((s.data.toList.drop a).take (b - a)) := by rw [Lib.extract_eq]; rfl
theorem bstr_toList (l : List UInt8) : (bstr l).toList = l := by rw [Lib.toList_data, bstr_list]
theorem toList_eq (s : ByteArray) : s.toList = s.data.toList := Lib.toList_data s

/-! ### bits of an int -/
theorem wraps_i64 (n : Int) (h₀ : 0 ≤ n) (h₁ : n < 2 ^ 62) : IntKind.i64.wrap n = n := by
  have h62 : (2 : Int) ^ 62 = 4611686018427387904 := by decide
  exact IntWalk.i64_in _ (by omega)
theorem and_i64 (i : Nat) (hi : i ≤ 62) (x : Int) (h0 : 0 ≤ x) (h1 : x < 2 ^ 62) : bits .and .i64 x (2 ^ i - 1) = x % 2 ^ i := bits_mask .i64 62 (by decide) wraps_i64 i hi x h0 h1
theorem or_i64 (i : Nat) (x y : Int) (hx₀ : 0 ≤ x) (hx : x % 2 ^ i = 0) (hx₁ : x < 2 ^ 62) (hy₀ : 0 ≤ y) (hy : y < 2 ^ i) (hy₁ : y < 2 ^ 62) : bits .or .i64 x y = x + y :=
  bits_join .i64 62 (by decide) wraps_i64 i x y hx₀ hx hx₁ hy₀ hy hy₁
theorem or_swap (x y : Int) (hx₀ : 0 ≤ x) (hx₁ : x < 2 ^ 62) (hy₀ : 0 ≤ y) (hy₁ : y < 2 ^ 62) : bits .or .i64 x y = bits .or .i64 y x := by
  obtain ⟨a, rfl⟩ := Int.eq_ofNat_of_zero_le hx₀
  obtain ⟨b, rfl⟩ := Int.eq_ofNat_of_zero_le hy₀
  have ha : a < 2 ^ 62 := by exact_mod_cast hx₁
  have hb : b < 2 ^ 62 := by exact_mod_cast hy₁
  rw [(bits_nat .i64 62 (by decide) wraps_i64 a b ha hb).2, (bits_nat .i64 62 (by decide) wraps_i64 b a hb ha).2, Nat.or_comm]
theorem var_byte (m : Nat) (h : m < 2 ^ 62) : bits .or .i64 (bits .and .i64 (m : Int) 127) 128 = 128 + (m : Int) % 128 := by
  have h62 : (2 : Int) ^ 62 = 4611686018427387904 := by decide
  have h1 : (m : Int) < 2 ^ 62 := by exact_mod_cast h
  have e := and_i64 7 (by decide) m (by omega) h1
  rw [show (2 : Int) ^ 7 - 1 = 127 from by decide, show (2 : Int) ^ 7 = 128 from by decide] at e
  rw [e, or_swap _ _ (by omega) (by omega) (by decide) (by decide)]
  exact or_i64 7 128 _ (by decide) (by decide) (by decide) (by omega) (by rw [show (2 : Int) ^ 7 = 128 from by decide]; omega) (by omega)

/-! ### a slice of bytes that the call builds -/
def cellsB (l : List UInt8) : List Value := l.map fun b => .int .u8 b.toNat
theorem cellsB_length (l : List UInt8) : (cellsB l).length = l.length := by simp [cellsB]
theorem cellsB_append (a b : List UInt8) : cellsB (a ++ b) = cellsB a ++ cellsB b := by simp [cellsB]

/-- In the world w the slice value v, which the call itself has made (its block is B or later), holds the bytes l; below B the world is as w0 was. -/
structure Bld (e : TypeId) (B : Nat) (w0 w : World) (v : Value) (l : List UInt8) : Prop where
  own : w.ownsRow B e 1 v l.length (cellsB l)
  bel : Below B w0 w
  big : B ≤ w.heap.size

theorem Bld.nil (e : TypeId) (w : World) : Bld e w.heap.size w w (.slice none 0 0) [] :=
  ⟨World.ownsRow_nil _ _ _ _, Below.refl _ _, Nat.le_refl _⟩
theorem Bld.empty (e : TypeId) (w : World) : Bld e w.heap.size w (w.alloc (.cells #[] e)) (.slice (some ⟨w.heap.size, 0, none⟩) 0 0) [] :=
  ⟨World.ownsRow_made w #[] 0 (Nat.le_refl _) (by simp [maxLen]) rfl, (Below.refl _ _).alloc (Nat.le_refl _) _, by simp⟩
theorem Bld.room (e : TypeId) (w : World) (cur : Array Value) (cap : Nat) (hs : cur.size = cap) (hm : cap ≤ maxLen) : Bld e w.heap.size w (w.alloc (.cells cur e)) (.slice (some ⟨w.heap.size, 0, none⟩) 0 cap) [] :=
  ⟨World.ownsRow_made w cur cap (Nat.le_refl _) hm (by omega), (Below.refl _ _).alloc (Nat.le_refl _) _, by simp⟩
theorem Bld.form {e : TypeId} {B : Nat} {w0 w : World} {v : Value} {l : List UInt8} (h : Bld e B w0 w v l) : ∃ a cap, v = .slice a l.length cap := by
  rcases h.own.2 with ⟨h1, h2⟩ | ⟨g, cap, _, h1, _⟩
  · exact ⟨none, 0, by rw [h2, h1]⟩
  · exact ⟨_, cap, h1⟩
theorem Bld.alloc {e : TypeId} {B : Nat} {w0 w : World} {v : Value} {l : List UInt8} (h : Bld e B w0 w v l) (o : Obj) : Bld e B w0 (w.alloc o) v l :=
  ⟨h.own.alloc o, h.bel.alloc h.big o, by have := h.big; simp; omega⟩
theorem Bld.grown {e : TypeId} {B : Nat} {w0 w w' : World} {v v' : Value} {l l' : List UInt8} (h : Bld e B w0 w v l) (hg : w.grownBy w' v.ownBlock) (ho : w'.ownsRow B e 1 v' l'.length (cellsB l')) : Bld e B w0 w' v' l' :=
  ⟨ho, h.bel.grown hg h.big (fun k hk => (h.own.lt k hk).1), by have := h.big; have := hg.size; omega⟩


theorem cellsB_one (l : List UInt8) : ∀ u ∈ cellsB l, u.oneCell' = true := by
  intro u hu
  simp only [cellsB, List.mem_map] at hu
  obtain ⟨b, _, rfl⟩ := hu
  rfl
theorem addr_add (b o j : Nat) : (⟨b, o, none⟩ : Addr).add j = ⟨b, o + j, none⟩ := by unfold Addr.add; split <;> simp_all

/-- 'append(out, bytes...)': the bytes l2 lie at ad in the present world. -/
theorem wpList_addB {P : Program} {w0 w : World} {ops : Array Oper} {rest : List Oper} {o : Oper} {a : Act} {Q : Exit → Act → World → Prop} (hgd : o.guard = none) (s x : Operand) (t : TypeId)
    (ho : o.op = .call { callee := .builtin .append, args := #[s, x], argTypes := #[t, t] })
    (B : Nat) (e : TypeId) (ht : P.underlying t = some (.slice e)) (hi : (P.info? e).map (fun i => (i.zero, i.size, i.bytes)) = some (some (.int .u8 0), 1, 1))
    (v : Value) (l : List UInt8) (hs : a.eval s = v) (hb : Bld e B w0 w v l)
    (ad : Addr) (m c : Nat) (l2 : List UInt8) (hx : a.eval x = .slice (some ad) m c) (hl : l2.length = m) (hnews : ∀ j u, (cellsB l2)[j]? = some u → w.cell? (ad.add j) = some u)
    (hbytes : l.length + m ≤ 140737488355328)
    (h : ∀ v' w', Bld e B w0 w' v' (l ++ l2) → wpList P ops Q rest (a.put o.dst v') w') : wpList P ops Q (o :: rest) a w := by
  obtain ⟨i, hi0, h1, h2, h3⟩ := info_parts hi
  refine wpList_append_own w hgd s x t ho B e i (.int .u8 0) 1 1 ht hi0 h1 h2 h3 rfl (by decide) v l.length (cellsB l) hs hb.own ad m c (cellsB l2) hx
    (by rw [cellsB_length, hl]; omega) hnews (cellsB_one l2) (by unfold maxLen; omega) (by omega) hb.big ?_
  intro v' w' ho' hg _
  refine h v' w' (hb.grown hg ?_)
  rw [cellsB_append, List.length_append, hl]
  exact ho'

/-- 'append(out, c)': one byte. -/
theorem wpList_push1 {P : Program} {w0 w : World} {ops : Array Oper} {rest : List Oper} {o : Oper} {a : Act} {Q : Exit → Act → World → Prop} (hgd : o.guard = none) (s x : Operand) (t : TypeId)
    (ho : o.op = .call { callee := .builtin .append, args := #[s, x], argTypes := #[t, t] })
    (B : Nat) (e : TypeId) (ht : P.underlying t = some (.slice e)) (hi : (P.info? e).map (fun i => (i.zero, i.size, i.bytes)) = some (some (.int .u8 0), 1, 1))
    (v : Value) (l : List UInt8) (hs : a.eval s = v) (hb : Bld e B w0 w v l) (n : Int) (c : UInt8)
    (hx : a.eval x = .slice (some ⟨w.heap.size, 0, none⟩) 1 1) (hn : n = (c.toNat : Int)) (hbytes : l.length + 1 ≤ 140737488355328)
    (h : ∀ v' w', Bld e B w0 w' v' (l ++ [c]) → wpList P ops Q rest (a.put o.dst v') w') : wpList P ops Q (o :: rest) a (w.alloc (.cells #[.int .u8 n] e)) := by
  refine wpList_addB hgd s x t ho B e ht hi v l hs (hb.alloc _) ⟨w.heap.size, 0, none⟩ 1 1 [c] hx rfl ?_ hbytes h
  intro j u hu
  match j, hu with
  | 0, hu => simp [cellsB] at hu; subst hu; subst hn; simp [Addr.add]

/-- 'append(out, c, d)': two bytes. -/
theorem wpList_push2 {P : Program} {w0 w : World} {ops : Array Oper} {rest : List Oper} {o : Oper} {a : Act} {Q : Exit → Act → World → Prop} (hgd : o.guard = none) (s x : Operand) (t : TypeId)
    (ho : o.op = .call { callee := .builtin .append, args := #[s, x], argTypes := #[t, t] })
    (B : Nat) (e : TypeId) (ht : P.underlying t = some (.slice e)) (hi : (P.info? e).map (fun i => (i.zero, i.size, i.bytes)) = some (some (.int .u8 0), 1, 1))
    (v : Value) (l : List UInt8) (hs : a.eval s = v) (hb : Bld e B w0 w v l) (n m : Int) (c d : UInt8)
    (hx : a.eval x = .slice (some ⟨w.heap.size, 0, none⟩) 2 2) (hn : n = (c.toNat : Int)) (hm : m = (d.toNat : Int)) (hbytes : l.length + 2 ≤ 140737488355328)
    (h : ∀ v' w', Bld e B w0 w' v' (l ++ [c, d]) → wpList P ops Q rest (a.put o.dst v') w') : wpList P ops Q (o :: rest) a (w.alloc (.cells #[.int .u8 n, .int .u8 m] e)) := by
  refine wpList_addB hgd s x t ho B e ht hi v l hs (hb.alloc _) ⟨w.heap.size, 0, none⟩ 2 2 [c, d] hx rfl ?_ hbytes h
  intro j u hu
  match j, hu with
  | 0, hu => simp [cellsB] at hu; subst hu; subst hn; simp [Addr.add]
  | 1, hu => simp [cellsB] at hu; subst hu; subst hm; simp [Addr.add]

/-- What the cells of such a slice hold. -/
theorem Bld.cells {e : TypeId} {B : Nat} {w0 w : World} {ad : Addr} {n c : Nat} {l : List UInt8} (h : Bld e B w0 w (.slice (some ad) n c) l) (i : Nat) (hi : i < l.length) :
    ad = ⟨ad.block, 0, none⟩ ∧ B ≤ ad.block ∧ w.cell? ⟨ad.block, i, none⟩ = some (.int .u8 (l.getD i 0).toNat) ∧ w.frozen? ⟨ad.block, i, none⟩ = false := by
  rcases h.own.2 with ⟨h1, h2⟩ | ⟨g, cap, cur, hv, hB, hg, hn, _, hsz, htk⟩
  · cases h1
  · simp only [Value.slice.injEq, Option.some.injEq] at hv
    obtain ⟨rfl, _, rfl⟩ := hv
    refine ⟨rfl, hB, ?_, ?_⟩
    · have := h.own.cells (g := g) rfl i (.int .u8 (l.getD i 0).toNat) (by simp [cellsB, hi])
      simpa [addr_add, hi] using this
    · simp [World.frozen?, hg]

/-- 'string(out)'. -/
theorem Bld.text {P : Program} {e : TypeId} {B : Nat} {w0 w : World} {v : Value} {l : List UInt8} (h : Bld e B w0 w v l) (src dst : TypeId) (hs : P.underlying src = some (.slice e)) (he : P.underlying e = some (.int .u8))
    (hd : P.underlying dst = some .string) : (convert src dst v).run P w = .ok (.string (bstr l)) w := by
  rcases h.own.2 with ⟨rfl, h2⟩ | ⟨g, cap, cur, rfl, _, hg, hn, _, hsz, htk⟩
  · have : l = [] := List.eq_nil_of_length_eq_zero h2
    subst this
    exact run_convert_bytes_nil w src e hs he 0 0 dst hd
  · rw [run_convert_bytes_arg w src e hs he g 0 l.length cap (l.map fun b => (b.toNat : Int)) (by simp) ?_ dst hd]
    · congr 2
      simp only [strOfNums, bstr, List.map_map]
      congr 2
      simp [Function.comp_def]
    · intro i hi
      have := h.own.cells (g := g) rfl i (.int .u8 (l.getD i 0).toNat) (by simp [cellsB, hi])
      simpa [addr_add, hi] using this

/-! ### a row of bytes in a block, written in place -/
/-- Block g holds the bytes l from its head on, none of them frozen. -/
def LiesB (w : World) (g : Nat) (l : List UInt8) : Prop := ∀ j, j < l.length → w.cell? ⟨g, j, none⟩ = some (.int .u8 (l.getD j 0).toNat) ∧ w.frozen? ⟨g, j, none⟩ = false
theorem LiesB.set {w : World} {g : Nat} {l : List UInt8} (h : LiesB w g l) (i : Nat) (hi : i < l.length) (c : UInt8) (n : Int) (hn : n = (c.toNat : Int)) : LiesB (w.setCell ⟨g, i, none⟩ (.int .u8 n)) g (l.set i c) := by
  subst hn
  intro j hj
  rw [List.length_set] at hj
  refine ⟨?_, by rw [World.frozen?_setCell]; exact (h j hj).2⟩
  by_cases e : i = j
  · subst e
    rw [World.cell?_setCell_same _ _ _ (h i hi).1]
    simp [hi]
  · rw [World.cell?_setCell_other _ _ _ _ (by simp [e]), (h j hj).1]
    simp [List.getD, List.getElem?_set, e]
theorem LiesB.text {P : Program} {w : World} {g : Nat} {l : List UInt8} (h : LiesB w g l) (cap n : Nat) (hn : n = l.length) (src dst e : TypeId) (hs : P.underlying src = some (.slice e)) (he : P.underlying e = some (.int .u8))
    (hd : P.underlying dst = some .string) : (convert src dst (.slice (some ⟨g, 0, none⟩) n cap)).run P w = .ok (.string (bstr l)) w := by
  subst hn
  rw [run_convert_bytes_arg w src e hs he g 0 l.length cap (l.map fun b => (b.toNat : Int)) (by simp) ?_ dst hd]
  · congr 2
    simp only [strOfNums, bstr, List.map_map]
    congr 2
    simp [Function.comp_def]
  · intro i hi
    have := (h i hi).1
    simpa [hi] using this
theorem LiesB.below {w w' : World} {g B : Nat} {l : List UInt8} (h : LiesB w g l) (hb : Below B w w') (hg : g < B) : LiesB w' g l :=
  fun j hj => ⟨(hb.cell (p := ⟨g, j, none⟩) hg).trans (h j hj).1, (hb.frozen (p := ⟨g, j, none⟩) hg).trans (h j hj).2⟩
theorem LiesB.conv (w : World) (e : TypeId) (s : ByteArray) : LiesB (Lib.bytesWorld w e s) w.heap.size s.data.toList := by
  intro j hj
  rw [dlen] at hj
  refine ⟨Lib.bytesWorld_cell w e s j hj, ?_⟩
  have := Lib.bytesWorld_at_new w e s
  have hz : ¬ (Lib.bytesCells w e s).size ≤ j := by
    have : s.data.size = s.size := rfl
    simp [Lib.bytesCells]; omega
  simp [World.frozen?, this, hz]
theorem below_conv (w : World) (e : TypeId) (s : ByteArray) : Below w.heap.size w (Lib.bytesWorld w e s) :=
  ⟨rfl, rfl, rfl, by rw [Lib.bytesWorld_size]; omega, fun k hk => Lib.bytesWorld_at_old w e s k hk⟩
theorem LiesB.make (w : World) (e : TypeId) (n : Nat) : LiesB (w.alloc (.cells (madeCells #[.int .u8 0] n) e)) w.heap.size (List.replicate n 0) := by
  intro j hj
  rw [List.length_replicate] at hj
  refine ⟨?_, World.frozen?_alloc_at _ _ _ _ rfl⟩
  rw [World.cell?_alloc_at _ _ _ _ rfl, ← Array.getElem?_toList, toList_madeCells_one]
  simp [hj, List.getD]
/-- The bytes with the first k of them mapped. -/
def part (f : UInt8 → UInt8) (l : List UInt8) (k : Nat) : List UInt8 := (l.take k).map f ++ l.drop k
theorem part_zero (f : UInt8 → UInt8) (l : List UInt8) : part f l 0 = l := by simp [part]
theorem part_all (f : UInt8 → UInt8) (l : List UInt8) : part f l l.length = l.map f := by simp [part]
theorem part_len (f : UInt8 → UInt8) (l : List UInt8) (k : Nat) (h : k ≤ l.length) : (part f l k).length = l.length := by simp [part]; omega
theorem part_at (f : UInt8 → UInt8) (l : List UInt8) (k : Nat) (h : k < l.length) : (part f l k).getD k 0 = l[k] := by
  simp [part, List.getD, List.getElem?_append, List.getElem?_drop, h, Nat.le_of_lt h]
theorem part_succ (f : UInt8 → UInt8) (l : List UInt8) (k : Nat) (h : k < l.length) : (part f l k).set k (f l[k]) = part f l (k + 1) := by
  unfold part
  rw [List.set_append_right _ _ (by simp; omega), List.take_succ_eq_append_getElem h, List.map_append, List.append_assoc]
  congr 1
  have : k - (List.map f (List.take k l)).length = 0 := by simp; omega
  rw [this, List.drop_eq_getElem_cons h, List.set_cons_zero]
  simp
end Go.Proofs.YtdhdjmeolkobeaaDoor

/-
  Plain helpers of this seat: bytes of a string, and a slice of bytes that a call builds by append. No condition.
-/
import Derived.ProofKit
import Derived.WalkKit
import Derived.WalkSpells
import Derived.WalkLawsBesides
import Derived.Lib.Hide
namespace Go.Proofs.Ytnlpdpkhdkghiaa
open Go.RowKit
set_option linter.unusedVariables false
set_option linter.unusedSimpArgs false

/-! ### bytes of a string -/
theorem dlen (s : ByteArray) : s.data.toList.length = s.size := by simp
theorem byte_le (b : UInt8) : (b.toNat : Int) ≤ 255 := by have := b.toNat_lt; omega
theorem take_snoc (s : ByteArray) (k : Nat) (h : k < s.size) : s.data.toList.take (k + 1) = s.data.toList.take k ++ [s[k]] := by
  rw [List.take_succ_eq_append_getElem (by simpa using h)]; rfl
theorem take_all (s : ByteArray) : s.data.toList.take s.size = s.data.toList := List.take_of_length_le (by simp)
theorem take_len (s : ByteArray) (k : Nat) (h : k ≤ s.size) : (s.data.toList.take k).length = k := by simp; omega
theorem bool_ret {a b : Bool} (h : a = b) : Ending.returned (.bool a) = .returned (.bool b) := by rw [h]
theorem int_ret {k : IntKind} {a b : Int} (h : a = b) : Ending.returned (.int k a) = .returned (.int k b) := by rw [h]
theorem str_ret {a b : ByteArray} (h : a = b) : Ending.returned (.string a) = .returned (.string b) := by rw [h]

/-- The string of a list of bytes. -/
def bstr (l : List UInt8) : ByteArray := ⟨l.toArray⟩
theorem bstr_size (l : List UInt8) : (bstr l).size = l.length := by simp [bstr, ByteArray.size]
theorem bstr_list (l : List UInt8) : (bstr l).data.toList = l := by simp [bstr]
theorem bstr_of (s : ByteArray) : bstr s.data.toList = s := by cases s; simp [bstr]

/-- A byte against a range: the three consistent cases. -/
theorem range_cases (n lo hi : Int) (h : lo ≤ hi) : ¬ lo ≤ n ∨ (lo ≤ n ∧ n ≤ hi) ∨ (lo ≤ n ∧ ¬ n ≤ hi) := by omega

/-! ### a slice of bytes that the call builds -/
def cellsB (l : List UInt8) : List Value := l.map fun b => .int .u8 b.toNat
theorem cellsB_length (l : List UInt8) : (cellsB l).length = l.length := by simp [cellsB]
theorem cellsB_append (a b : List UInt8) : cellsB (a ++ b) = cellsB a ++ cellsB b := by simp [cellsB]

/-- In the world w the slice value v, which the call itself has made (its block is B or later), holds the bytes l; below B the world is as w0 was. -/
structure Bld (e : TypeId) (B : Nat) (w0 w : World) (v : Value) (l : List UInt8) : Prop where
  own : w.ownsRow B e 1 v l.length (cellsB l)
  bel : Below B w0 w
  big : B ≤ w.heap.size

theorem Bld.nil (e : TypeId) (w : World) : Bld e w.heap.size w w (.slice none 0 0) [] :=
  ⟨World.ownsRow_nil _ _ _ _, Below.refl _ _, Nat.le_refl _⟩
theorem Bld.empty (e : TypeId) (w : World) : Bld e w.heap.size w (w.alloc (.cells #[] e)) (.slice (some ⟨w.heap.size, 0, none⟩) 0 0) [] :=
  ⟨World.ownsRow_made w #[] 0 (Nat.le_refl _) (by simp [maxLen]) rfl, (Below.refl _ _).alloc (Nat.le_refl _) _, by simp⟩
theorem Bld.room (e : TypeId) (w : World) (cur : Array Value) (cap : Nat) (hs : cur.size = cap) (hm : cap ≤ maxLen) : Bld e w.heap.size w (w.alloc (.cells cur e)) (.slice (some ⟨w.heap.size, 0, none⟩) 0 cap) [] :=
  ⟨World.ownsRow_made w cur cap (Nat.le_refl _) hm (by omega), (Below.refl _ _).alloc (Nat.le_refl _) _, by simp⟩
theorem Bld.form {e : TypeId} {B : Nat} {w0 w : World} {v : Value} {l : List UInt8} (h : Bld e B w0 w v l) : ∃ a cap, v = .slice a l.length cap := by
  rcases h.own.2 with ⟨h1, h2⟩ | ⟨g, cap, _, h1, _⟩
  · exact ⟨none, 0, by rw [h2, h1]⟩
  · exact ⟨_, cap, h1⟩
theorem Bld.alloc {e : TypeId} {B : Nat} {w0 w : World} {v : Value} {l : List UInt8} (h : Bld e B w0 w v l) (o : Obj) : Bld e B w0 (w.alloc o) v l :=
  ⟨h.own.alloc o, h.bel.alloc h.big o, by have := h.big; simp; omega⟩
theorem Bld.grown {e : TypeId} {B : Nat} {w0 w w' : World} {v v' : Value} {l l' : List UInt8} (h : Bld e B w0 w v l) (hg : w.grownBy w' v.ownBlock) (ho : w'.ownsRow B e 1 v' l'.length (cellsB l')) : Bld e B w0 w' v' l' :=
  ⟨ho, h.bel.grown hg h.big (fun k hk => (h.own.lt k hk).1), by have := h.big; have := hg.size; omega⟩


theorem cellsB_one (l : List UInt8) : ∀ u ∈ cellsB l, u.oneCell' = true := by
  intro u hu
  simp only [cellsB, List.mem_map] at hu
  obtain ⟨b, _, rfl⟩ := hu
  rfl
theorem addr_add (b o j : Nat) : (⟨b, o, none⟩ : Addr).add j = ⟨b, o + j, none⟩ := by unfold Addr.add; split <;> simp_all

/-- 'append(out, bytes...)': the bytes l2 lie at ad in the present world. -/
theorem wpList_addB {P : Program} {w0 w : World} {ops : Array Oper} {rest : List Oper} {o : Oper} {a : Act} {Q : Exit → Act → World → Prop} (hgd : o.guard = none) (s x : Operand) (t : TypeId)
    (ho : o.op = .call { callee := .builtin .append, args := #[s, x], argTypes := #[t, t] })
    (B : Nat) (e : TypeId) (ht : P.underlying t = some (.slice e)) (hi : (P.info? e).map (fun i => (i.zero, i.size, i.bytes)) = some (some (.int .u8 0), 1, 1))
    (v : Value) (l : List UInt8) (hs : a.eval s = v) (hb : Bld e B w0 w v l)
    (ad : Addr) (m c : Nat) (l2 : List UInt8) (hx : a.eval x = .slice (some ad) m c) (hl : l2.length = m) (hnews : ∀ j u, (cellsB l2)[j]? = some u → w.cell? (ad.add j) = some u)
    (hbytes : l.length + m ≤ 140737488355328)
    (h : ∀ v' w', Bld e B w0 w' v' (l ++ l2) → wpList P ops Q rest (a.put o.dst v') w') : wpList P ops Q (o :: rest) a w := by
  obtain ⟨i, hi0, h1, h2, h3⟩ := info_parts hi
  refine wpList_append_own w hgd s x t ho B e i (.int .u8 0) 1 1 ht hi0 h1 h2 h3 rfl (by decide) v l.length (cellsB l) hs hb.own ad m c (cellsB l2) hx
    (by rw [cellsB_length, hl]; omega) hnews (cellsB_one l2) (by unfold maxLen; omega) (by omega) hb.big ?_
  intro v' w' ho' hg _
  refine h v' w' (hb.grown hg ?_)
  rw [cellsB_append, List.length_append, hl]
  exact ho'

/-- 'append(out, c)': one byte. -/
theorem wpList_push1 {P : Program} {w0 w : World} {ops : Array Oper} {rest : List Oper} {o : Oper} {a : Act} {Q : Exit → Act → World → Prop} (hgd : o.guard = none) (s x : Operand) (t : TypeId)
    (ho : o.op = .call { callee := .builtin .append, args := #[s, x], argTypes := #[t, t] })
    (B : Nat) (e : TypeId) (ht : P.underlying t = some (.slice e)) (hi : (P.info? e).map (fun i => (i.zero, i.size, i.bytes)) = some (some (.int .u8 0), 1, 1))
    (v : Value) (l : List UInt8) (hs : a.eval s = v) (hb : Bld e B w0 w v l) (n : Int) (c : UInt8)
    (hx : a.eval x = .slice (some ⟨w.heap.size, 0, none⟩) 1 1) (hn : n = (c.toNat : Int)) (hbytes : l.length + 1 ≤ 140737488355328)
    (h : ∀ v' w', Bld e B w0 w' v' (l ++ [c]) → wpList P ops Q rest (a.put o.dst v') w') : wpList P ops Q (o :: rest) a (w.alloc (.cells #[.int .u8 n] e)) := by
  refine wpList_addB hgd s x t ho B e ht hi v l hs (hb.alloc _) ⟨w.heap.size, 0, none⟩ 1 1 [c] hx rfl ?_ hbytes h
  intro j u hu
  match j, hu with
  | 0, hu => simp [cellsB] at hu; subst hu; subst hn; simp [Addr.add]

/-- 'append(out, c, d)': two bytes. -/
theorem wpList_push2 {P : Program} {w0 w : World} {ops : Array Oper} {rest : List Oper} {o : Oper} {a : Act} {Q : Exit → Act → World → Prop} (hgd : o.guard = none) (s x : Operand) (t : TypeId)
    (ho : o.op = .call { callee := .builtin .append, args := #[s, x], argTypes := #[t, t] })
    (B : Nat) (e : TypeId) (ht : P.underlying t = some (.slice e)) (hi : (P.info? e).map (fun i => (i.zero, i.size, i.bytes)) = some (some (.int .u8 0), 1, 1))
    (v : Value) (l : List UInt8) (hs : a.eval s = v) (hb : Bld e B w0 w v l) (n m : Int) (c d : UInt8)
    (hx : a.eval x = .slice (some ⟨w.heap.size, 0, none⟩) 2 2) (hn : n = (c.toNat : Int)) (hm : m = (d.toNat : Int)) (hbytes : l.length + 2 ≤ 140737488355328)
    (h : ∀ v' w', Bld e B w0 w' v' (l ++ [c, d]) → wpList P ops Q rest (a.put o.dst v') w') : wpList P ops Q (o :: rest) a (w.alloc (.cells #[.int .u8 n, .int .u8 m] e)) := by
  refine wpList_addB hgd s x t ho B e ht hi v l hs (hb.alloc _) ⟨w.heap.size, 0, none⟩ 2 2 [c, d] hx rfl ?_ hbytes h
  intro j u hu
  match j, hu with
  | 0, hu => simp [cellsB] at hu; subst hu; subst hn; simp [Addr.add]
  | 1, hu => simp [cellsB] at hu; subst hu; subst hm; simp [Addr.add]

/-- What the cells of such a slice hold. -/
theorem Bld.cells {e : TypeId} {B : Nat} {w0 w : World} {ad : Addr} {n c : Nat} {l : List UInt8} (h : Bld e B w0 w (.slice (some ad) n c) l) (i : Nat) (hi : i < l.length) :
    ad = ⟨ad.block, 0, none⟩ ∧ B ≤ ad.block ∧ w.cell? ⟨ad.block, i, none⟩ = some (.int .u8 (l.getD i 0).toNat) ∧ w.frozen? ⟨ad.block, i, none⟩ = false := by
  rcases h.own.2 with ⟨h1, h2⟩ | ⟨g, cap, cur, hv, hB, hg, hn, _, hsz, htk⟩
  · cases h1
  · simp only [Value.slice.injEq, Option.some.injEq] at hv
    obtain ⟨rfl, _, rfl⟩ := hv
    refine ⟨rfl, hB, ?_, ?_⟩
    · have := h.own.cells (g := g) rfl i (.int .u8 (l.getD i 0).toNat) (by simp [cellsB, hi])
      simpa [addr_add, hi] using this
    · simp [World.frozen?, hg]

/-- 'string(out)'. -/
theorem Bld.text {P : Program} {e : TypeId} {B : Nat} {w0 w : World} {v : Value} {l : List UInt8} (h : Bld e B w0 w v l) (src dst : TypeId) (hs : P.underlying src = some (.slice e)) (he : P.underlying e = some (.int .u8))
    (hd : P.underlying dst = some .string) : (convert src dst v).run P w = .ok (.string (bstr l)) w := by
  rcases h.own.2 with ⟨rfl, h2⟩ | ⟨g, cap, cur, rfl, _, hg, hn, _, hsz, htk⟩
  · have : l = [] := List.eq_nil_of_length_eq_zero h2
    subst this
    exact run_convert_bytes_nil w src e hs he 0 0 dst hd
  · rw [run_convert_bytes_arg w src e hs he g 0 l.length cap (l.map fun b => (b.toNat : Int)) (by simp) ?_ dst hd]
    · congr 2
      simp only [strOfNums, bstr, List.map_map]
      congr 2
      simp [Function.comp_def]
    · intro i hi
      have := h.own.cells (g := g) rfl i (.int .u8 (l.getD i 0).toNat) (by simp [cellsB, hi])
      simpa [addr_add, hi] using this
end Go.Proofs.Ytnlpdpkhdkghiaa

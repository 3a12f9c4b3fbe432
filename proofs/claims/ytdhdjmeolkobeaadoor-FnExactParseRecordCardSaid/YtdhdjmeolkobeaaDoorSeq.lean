/-
  Plain helpers: a slice in memory that reads as a list (strings, ints), and a slice that a call builds by append. No condition.
-/
import Derived.Test.YtdhdjmeolkobeaaDoorFacts
namespace Go.Proofs.YtdhdjmeolkobeaaDoor
open Go.RowKit
set_option linter.unusedVariables false
set_option linter.unusedSimpArgs false

/-- In the world w the slice with head a holds the list l, each element as one cell. -/
def RowAt {α : Type} (f : α → Value) (w : World) (a : Option Addr) (l : List α) : Prop :=
  l = [] ∨ ∃ b off, a = some ⟨b, off, none⟩ ∧ ∀ i x, l[i]? = some x → w.cell? ⟨b, off + i, none⟩ = some (f x)
/-- The same, in a block from B on, nothing of it frozen. -/
def RowOwn {α : Type} (f : α → Value) (B : Nat) (w : World) (a : Option Addr) (l : List α) : Prop :=
  l = [] ∨ ∃ b, a = some ⟨b, 0, none⟩ ∧ B ≤ b ∧ ∀ i x, l[i]? = some x → w.cell? ⟨b, i, none⟩ = some (f x) ∧ w.frozen? ⟨b, i, none⟩ = false
def fS : ByteArray → Value := fun s => .string s
def fI : Int → Value := fun n => .int .i64 n

section
variable {α : Type} {f : α → Value}
theorem RowAt.nil (w : World) (a : Option Addr) : RowAt f w a [] := Or.inl rfl
theorem RowOwn.nil (B : Nat) (w : World) (a : Option Addr) : RowOwn f B w a [] := Or.inl rfl
theorem RowOwn.at {B : Nat} {w : World} {a : Option Addr} {l : List α} (h : RowOwn f B w a l) : RowAt f w a l := by
  rcases h with h | ⟨b, h1, _, h3⟩
  · exact Or.inl h
  · exact Or.inr ⟨b, 0, h1, fun i x hx => by rw [Nat.zero_add]; exact (h3 i x hx).1⟩
/-- What was there before a call is there behind it. -/
theorem RowAt.below {w w' : World} {a : Option Addr} {l : List α} (h : RowAt f w a l) (hb : Below w.heap.size w w') : RowAt f w' a l := by
  rcases h with h | ⟨b, off, h1, h2⟩
  · exact Or.inl h
  · exact Or.inr ⟨b, off, h1, fun i x hx => by
      have hc := h2 i x hx
      exact (hb.cell (p := ⟨b, off + i, none⟩) (World.block_lt_of_cell? w _ hc)).trans hc⟩
theorem RowOwn.below {B : Nat} {w w' : World} {a : Option Addr} {l : List α} (h : RowOwn f B w a l) (hb : Below w.heap.size w w') : RowOwn f B w' a l := by
  rcases h with h | ⟨b, h1, h2, h3⟩
  · exact Or.inl h
  · exact Or.inr ⟨b, h1, h2, fun i x hx => by
      obtain ⟨hc, hf⟩ := h3 i x hx
      have hlt : b < w.heap.size := World.block_lt_of_cell? w _ hc
      exact ⟨(hb.cell (p := ⟨b, i, none⟩) hlt).trans hc, (hb.frozen (p := ⟨b, i, none⟩) hlt).trans hf⟩⟩
theorem RowOwn.mono {B B' : Nat} {w : World} {a : Option Addr} {l : List α} (h : RowOwn f B w a l) (hB : B' ≤ B) : RowOwn f B' w a l := by
  rcases h with h | ⟨b, h1, h2, h3⟩
  · exact Or.inl h
  · exact Or.inr ⟨b, h1, by omega, h3⟩
theorem RowAt.cell {w : World} {a : Option Addr} {l : List α} (h : RowAt f w a l) (i : Nat) (hi : i < l.length) :
    ∃ b off, a = some ⟨b, off, none⟩ ∧ w.cell? ⟨b, off + i, none⟩ = some (f l[i]) := by
  rcases h with h | ⟨b, off, h1, h2⟩
  · subst h; simp at hi
  · exact ⟨b, off, h1, h2 i _ (List.getElem?_eq_getElem hi)⟩
theorem RowAt.drewN {w : World} {a : Option Addr} {l : List α} (h : RowAt f w a l) (k : Nat) : RowAt f (w.drewN k) a l := h.below (below_drewN w k)

/-- A slice that the call builds. -/
structure BldG (f : α → Value) (e : TypeId) (B : Nat) (w0 w : World) (v : Value) (l : List α) : Prop where
  own : w.ownsRow B e 1 v l.length (l.map f)
  bel : Below B w0 w
  big : B ≤ w.heap.size
theorem BldG.nil (f : α → Value) (e : TypeId) (w : World) : BldG f e w.heap.size w w (.slice none 0 0) [] :=
  ⟨World.ownsRow_nil _ _ _ _, Below.refl _ _, Nat.le_refl _⟩
theorem BldG.empty (f : α → Value) (e : TypeId) (w : World) : BldG f e w.heap.size w (w.alloc (.cells #[] e)) (.slice (some ⟨w.heap.size, 0, none⟩) 0 0) [] :=
  ⟨World.ownsRow_made w #[] 0 (Nat.le_refl _) (by simp [maxLen]) rfl, (Below.refl _ _).alloc (Nat.le_refl _) _, by simp⟩
theorem BldG.form {e : TypeId} {B : Nat} {w0 w : World} {v : Value} {l : List α} (h : BldG f e B w0 w v l) : ∃ a cap, v = .slice a l.length cap := by
  rcases h.own.2 with ⟨h1, h2⟩ | ⟨g, cap, _, h1, _⟩
  · exact ⟨none, 0, by rw [h2, h1]⟩
  · exact ⟨_, cap, h1⟩
theorem BldG.alloc {e : TypeId} {B : Nat} {w0 w : World} {v : Value} {l : List α} (h : BldG f e B w0 w v l) (o : Obj) : BldG f e B w0 (w.alloc o) v l :=
  ⟨h.own.alloc o, h.bel.alloc h.big o, by have := h.big; simp; omega⟩
theorem BldG.grown {e : TypeId} {B : Nat} {w0 w w' : World} {v v' : Value} {l l' : List α} (h : BldG f e B w0 w v l) (hg : w.grownBy w' v.ownBlock) (ho : w'.ownsRow B e 1 v' l'.length (l'.map f)) : BldG f e B w0 w' v' l' :=
  ⟨ho, h.bel.grown hg h.big (fun k hk => (h.own.lt k hk).1), by have := h.big; have := hg.size; omega⟩
/-- A callee that makes memory of its own keeps it. -/
theorem BldG.below {e : TypeId} {B : Nat} {w0 w w' : World} {v : Value} {l : List α} (h : BldG f e B w0 w v l) (hb : Below w.heap.size w w') : BldG f e B w0 w' v l := by
  refine ⟨⟨h.own.1, ?_⟩, h.bel.trans (hb.mono h.big), Nat.le_trans h.big hb.size⟩
  rcases h.own.2 with h1 | ⟨g, cap, cur, h1, h2, h3, h4⟩
  · exact Or.inl h1
  · exact Or.inr ⟨g, cap, cur, h1, h2, (hb.block g (Array.getElem?_eq_some_iff.1 h3).1).trans h3, h4⟩
theorem BldG.row {e : TypeId} {B : Nat} {w0 w : World} {a : Option Addr} {n cap : Nat} {l : List α} (h : BldG f e B w0 w (.slice a n cap) l) : RowOwn f B w a l := by
  rcases h.own.2 with ⟨h1, h2⟩ | ⟨g, cap', cur, h1, h2, h3, h4, _⟩
  · exact Or.inl (List.eq_nil_of_length_eq_zero h2)
  · simp only [Value.slice.injEq] at h1
    obtain ⟨rfl, _, _⟩ := h1
    refine Or.inr ⟨g, rfl, h2, fun i x hx => ⟨?_, by simp [World.frozen?, h3]⟩⟩
    have := h.own.cells (g := g) rfl i (f x) (by rw [List.getElem?_map, hx]; rfl)
    rwa [addr_add, Nat.zero_add] at this

theorem wpList_pushG {P : Program} {w0 w : World} {ops : Array Oper} {rest : List Oper} {o : Oper} {a : Act} {Q : Exit → Act → World → Prop} (hgd : o.guard = none) (s x : Operand) (t : TypeId)
    (ho : o.op = .call { callee := .builtin .append, args := #[s, x], argTypes := #[t, t] })
    (B : Nat) (e : TypeId) (ht : P.underlying t = some (.slice e)) (z : Value) (bytes : Nat) (hi : (P.info? e).map (fun i => (i.zero, i.size, i.bytes)) = some (some z, 1, bytes)) (hz : z.cells.size = 1)
    (hf : ∀ y, (f y).oneCell' = true) (v : Value) (l : List α) (hs : a.eval s = v) (hb : BldG f e B w0 w v l) (c : α)
    (hx : a.eval x = .slice (some ⟨w.heap.size, 0, none⟩) 1 1) (h63 : l.length + 1 ≤ 1000000000000) (hbytes : (l.length + 1) * bytes ≤ 140737488355328)
    (h : ∀ v' w', BldG f e B w0 w' v' (l ++ [c]) → wpList P ops Q rest (a.put o.dst v') w') : wpList P ops Q (o :: rest) a (w.alloc (.cells #[f c] e)) := by
  obtain ⟨i, hi0, h1, h2, h3⟩ := info_parts hi
  have hb2 := hb.alloc (.cells #[f c] e)
  refine wpList_append_own _ hgd s x t ho B e i z 1 bytes ht hi0 h1 h2 h3 hz (by decide) v l.length (l.map f) hs hb2.own ⟨w.heap.size, 0, none⟩ 1 1 [f c] hx rfl ?_ ?_ (by unfold maxLen; omega) hbytes hb2.big ?_
  · intro j u hu
    match j, hu with
    | 0, hu => simp at hu; subst hu; simp [Addr.add]
  · intro u hu; simp at hu; subst hu; exact hf c
  · intro v' w' ho' hg _
    refine h v' w' (hb2.grown hg ?_)
    rw [List.length_append, List.map_append]
    exact ho'
end
theorem fS_one (y : ByteArray) : (fS y).oneCell' = true := rfl
theorem fI_one (y : Int) : (fI y).oneCell' = true := rfl
theorem infoS : (Tryd.prog.info? 9).map (fun i => (i.zero, i.size, i.bytes)) = some (some (.string .empty), 1, 16) := by kernel_rfl
end Go.Proofs.YtdhdjmeolkobeaaDoor

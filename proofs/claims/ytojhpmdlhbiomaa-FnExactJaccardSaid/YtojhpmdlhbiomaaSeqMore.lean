/-
  Plain helpers: a whole row appended to a slice that a call builds; slices.Clone; a struct and a flag as results. No condition.
-/
import Derived.Test.YtojhpmdlhbiomaaSeq
import Derived.Laws.ResultCell
import Derived.Laws.Rows
import Derived.Test.YtojhpmdlhbiomaaShelf
namespace Go.Proofs.Ytojhpmdlhbiomaa
open Go.RowKit
set_option linter.unusedVariables false
set_option linter.unusedSimpArgs false
set_option maxRecDepth 100000
section
variable {α : Type} {f : α → Value}
theorem wpList_addG {P : Program} {w0 w : World} {ops : Array Oper} {rest : List Oper} {o : Oper} {a : Act} {Q : Exit → Act → World → Prop} (hgd : o.guard = none) (s x : Operand) (t : TypeId)
    (ho : o.op = .call { callee := .builtin .append, args := #[s, x], argTypes := #[t, t] })
    (B : Nat) (e : TypeId) (ht : P.underlying t = some (.slice e)) (z : Value) (bytes : Nat) (hi : (P.info? e).map (fun i => (i.zero, i.size, i.bytes)) = some (some z, 1, bytes)) (hz : z.cells.size = 1)
    (hf : ∀ y, (f y).oneCell' = true) (v : Value) (l : List α) (hs : a.eval s = v) (hb : BldG f e B w0 w v l) (ad : Addr) (m c : Nat) (l2 : List α)
    (hx : a.eval x = .slice (some ad) m c) (hl : l2.length = m) (hnews : ∀ j y, l2[j]? = some y → w.cell? (ad.add j) = some (f y)) (h63 : l.length + m ≤ 1000000000000) (hbytes : (l.length + m) * bytes ≤ 140737488355328)
    (h : ∀ v' w', BldG f e B w0 w' v' (l ++ l2) → wpList P ops Q rest (a.put o.dst v') w') : wpList P ops Q (o :: rest) a w := by
  obtain ⟨i, hi0, h1, h2, h3⟩ := info_parts hi
  refine wpList_append_own _ hgd s x t ho B e i z 1 bytes ht hi0 h1 h2 h3 hz (by decide) v l.length (l.map f) hs hb.own ad m c (l2.map f) hx (by rw [List.length_map, hl]; omega) ?_ ?_ (by unfold maxLen; omega) hbytes hb.big ?_
  · intro j u hu
    rw [List.getElem?_map, Option.map_eq_some_iff] at hu
    obtain ⟨y, hy, rfl⟩ := hu
    exact hnews j y hy
  · intro u hu
    obtain ⟨y, _, rfl⟩ := List.mem_map.1 hu
    exact hf y
  · intro v' w' ho' hg _
    refine h v' w' (hb.grown hg ?_)
    rw [List.length_append, List.map_append, hl]
    exact ho'
theorem RowAt.news {w : World} {g o : Nat} {l : List α} (h : RowAt f w (some ⟨g, o, none⟩) l) : ∀ j y, l[j]? = some y → w.cell? ((⟨g, o, none⟩ : Addr).add j) = some (f y) := by
  intro j y hy
  rcases h with h | ⟨b, off, h1, h2⟩
  · subst h; simp at hy
  · simp only [Option.some.injEq, Addr.mk.injEq, and_true] at h1
    obtain ⟨rfl, rfl⟩ := h1
    rw [addr_add]; exact h2 j y hy
end
theorem results_cell2 {P : Program} {fn : Func} {p u : Tmp} {ty : TypeId} (h : fn.results = #[.cell p ty, .tmp u]) (tmps : Array Value) (w : World) (g : Nat) (t : TypeId) (cs : Array Value) (fr : Nat × Nat) (d : TypeDesc)
    (hp : tmps.getD p undef = .pointer (some ⟨g, 0, none⟩)) (hg : w.heap[g]? = some (.cells cs t fr))
    (hu : P.underlying ty = some d) (hd : (match d with | .struct _ | .array _ _ => true | _ => false) = true) (hi : (P.info? ty).map (·.size) = some cs.size) :
    (results fn tmps).run P w = .ok (.tuple #[.agg cs, tmps.getD u undef]) w := by
  rw [results_cell_tmp h, hp]
  simp [asAddr, Result.andThen, run_loadVar_row w g t ty cs fr d hg hu hd hi]
/-- slices.Clone of a slice of strings. -/
theorem cloneS (a : Option Addr) (c : Nat) (l : List ByteArray) (w : World) (hr : RowAt fS w a l) (hl : l.length ≤ 1048576) :
    Calls Try.prog 38 #[.slice a l.length c] w fun e w' => ∃ a' c', e = .returned (.slice a' l.length c') ∧ BldG fS 9 w.heap.size w w' (.slice a' l.length c') l := by
  have mk : ∀ (v' : Value) (w' : World), w'.ownsRow w.heap.size 9 1 v' l.length (l.map Value.string) → Below w.heap.size w w' → ∃ a' c', v' = .slice a' l.length c' ∧ BldG fS 9 w.heap.size w w' (.slice a' l.length c') l := by
    intro v' w' ho hb
    have hB : BldG fS 9 w.heap.size w w' v' l := ⟨ho, hb, hb.size⟩
    obtain ⟨a', c', e⟩ := hB.form
    exact ⟨a', c', e, e ▸ hB⟩
  rcases hr with h | ⟨b, off, rfl, hc⟩
  · subst h
    cases a with
    | none =>
      refine (Try.slices_Clone_string_nil 0 c w).mono ?_
      rintro e w' ⟨rfl, rfl⟩
      exact ⟨none, 0, rfl, BldG.nil _ _ _⟩
    | some x =>
      refine (Try.slices_Clone_string_zero x c w).mono ?_
      rintro e w' ⟨v', rfl, ho, _, hb⟩
      obtain ⟨a', c', rfl, hB⟩ := mk v' w' ho hb
      exact ⟨a', c', rfl, hB⟩
  · have hc2 : ∀ j, j < l.length → w.cell? ⟨b, off + j, none⟩ = some (.string (l.getD j ByteArray.empty)) := fun j hj => by
      rw [hc j _ (List.getElem?_eq_getElem hj)]; simp [fS, List.getD, hj]
    refine (Try.slices_Clone_string b off l.length c l w (Nat.le_refl _) (by omega) hc2).mono ?_
    rintro e w' ⟨v', rfl, ho, _, hb⟩
    rw [List.take_length] at ho
    obtain ⟨a', c', rfl, hB⟩ := mk v' w' ho hb
    exact ⟨a', c', rfl, hB⟩
end Go.Proofs.Ytojhpmdlhbiomaa

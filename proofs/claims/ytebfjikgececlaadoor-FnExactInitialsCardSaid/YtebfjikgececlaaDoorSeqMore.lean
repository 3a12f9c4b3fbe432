/-
  Plain helpers: a whole row appended to a slice that a call builds; slices.Clone; a struct and a flag as results. No condition.
-/
import Derived.Test.YtebfjikgececlaaDoorSeq
import Derived.Laws.ResultCell
import Derived.Laws.Rows
namespace Go.Proofs.YtebfjikgececlaaDoor
open Go.RowKit
set_option linter.unusedVariables false
set_option linter.unusedSimpArgs false
section
variable {α : Type} {f : α → Value}
theorem wpList_addG {P : Program} {w0 w : World} {ops : Array Oper} {rest : List Oper} {o : Oper} {a : Act} {Q : Exit → Act → World → Prop} (hgd : o.guard = none) (s x : Operand) (t : TypeId)
    (ho : o.op = .call { callee := .builtin .append, args := #[s, x], argTypes := #[t, t] })
    (B : Nat) (e : TypeId) (ht : P.underlying t = some (.slice e)) (z : Value) (bytes : Nat) (hi : (P.info? e).map (fun i => (i.zero, i.size, i.bytes)) = some (some z, 1, bytes)) (hz : z.cells.size = 1)
    (hf : ∀ y, (f y).oneCell' = true) (v : Value) (l : List α) (hs : a.eval s = v) (hb : BldG f e B w0 w v l) (ad : Addr) (m c : Nat) (l2 : List α)
    (hx : a.eval x = .slice (some ad) m c) (hl : l2.length = m) (hnews : ∀ j y, l2[j]? = some y → w.cell? (ad.add j) = some (f y)) (h63 : l.length + m ≤ 1000000000000) (hbytes : (l.length + m) * bytes ≤ 140737488355328)
    (h : ∀ v' w', BldG f e B w0 w' v' (l ++ l2) → wpList P ops Q rest (a.put o.dst v') w') : wpList P ops Q (o :: rest) a w := by
  obtain ⟨i, hi0, h1, h2, h3⟩ := info_parts hi
  refine wpList_append_own _ hgd s x t ho B e i z 1 bytes ht hi0 h1 h2 h3 hz (by decide) v l.length (l.map f) hs hb.own ad m c (l2.map f) hx (by rw [List.length_map, hl]; omega) ?_ ?_ (by unfold maxLen; omega) hbytes hb.big ?_
  · intro j u hu
    rw [List.getElem?_map, Option.map_eq_some_iff] at hu
    obtain ⟨y, hy, rfl⟩ := hu
    exact hnews j y hy
  · intro u hu
    obtain ⟨y, _, rfl⟩ := List.mem_map.1 hu
    exact hf y
  · intro v' w' ho' hg _
    refine h v' w' (hb.grown hg ?_)
    rw [List.length_append, List.map_append, hl]
    exact ho'
theorem RowAt.news {w : World} {g o : Nat} {l : List α} (h : RowAt f w (some ⟨g, o, none⟩) l) : ∀ j y, l[j]? = some y → w.cell? ((⟨g, o, none⟩ : Addr).add j) = some (f y) := by
  intro j y hy
  rcases h with h | ⟨b, off, h1, h2⟩
  · subst h; simp at hy
  · simp only [Option.some.injEq, Addr.mk.injEq, and_true] at h1
    obtain ⟨rfl, rfl⟩ := h1
    rw [addr_add]; exact h2 j y hy
end
theorem results_cell2 {P : Program} {fn : Func} {p u : Tmp} {ty : TypeId} (h : fn.results = #[.cell p ty, .tmp u]) (tmps : Array Value) (w : World) (g : Nat) (t : TypeId) (cs : Array Value) (fr : Nat × Nat) (d : TypeDesc)
    (hp : tmps.getD p undef = .pointer (some ⟨g, 0, none⟩)) (hg : w.heap[g]? = some (.cells cs t fr))
    (hu : P.underlying ty = some d) (hd : (match d with | .struct _ | .array _ _ => true | _ => false) = true) (hi : (P.info? ty).map (·.size) = some cs.size) :
    (results fn tmps).run P w = .ok (.tuple #[.agg cs, tmps.getD u undef]) w := by
  rw [results_cell_tmp h, hp]
  simp [asAddr, Result.andThen, run_loadVar_row w g t ty cs fr d hg hu hd hi]
end Go.Proofs.YtebfjikgececlaaDoor

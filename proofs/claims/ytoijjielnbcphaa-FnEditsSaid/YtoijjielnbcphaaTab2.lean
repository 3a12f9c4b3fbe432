/-
  Plain helpers: a table of rows of ints whose rows are appended to a slice, one block a row. No condition.
-/
import Derived.Test.YtoijjielnbcphaaTab
import Derived.Test.YtoijjielnbcphaaSeq
namespace Go.Proofs.Ytoijjielnbcphaa
open Go.RowKit
set_option linter.unusedVariables false
set_option linter.unusedSimpArgs false

def fRow (C : Nat) : Nat → Value := fun g => .slice (some ⟨g, 0, none⟩) C C
theorem fRow_one (C y : Nat) : (fRow C y).oneCell' = true := rfl
section
variable {α : Type} {f : α → Value} {e : TypeId} {B : Nat} {w0 w : World} {v : Value} {l : List α}
theorem BldG.ne_own (h : BldG f e B w0 w v l) {rb n : Nat} {t : TypeId} {g : Nat → Value} (hr : w.rowIs rb t n g) (ht : t ≠ e) : some rb ≠ v.ownBlock := by
  rcases h.own.2 with ⟨h1, _⟩ | ⟨k, cap, cur, h1, _, h3, _⟩
  · rw [h1]; simp [Value.ownBlock]
  · rw [h1]
    intro hk
    simp only [Value.ownBlock, Option.some.injEq] at hk
    subst hk
    obtain ⟨c, hb, _⟩ := hr
    rw [hb] at h3
    simp only [Option.some.injEq, Obj.cells.injEq] at h3
    exact ht h3.2.1
theorem BldG.setOther (h : BldG f e B w0 w v l) {rb : Nat} (hn : some rb ≠ v.ownBlock) (hB : B ≤ rb) (r : Nat) (x : Value) : BldG f e B w0 (w.setCell ⟨rb, r, none⟩ x) v l := by
  refine ⟨⟨h.own.1, ?_⟩, h.bel.setCell hB _, by simpa using h.big⟩
  rcases h.own.2 with h1 | ⟨g, cap, cur, h1, h2, h3, h4⟩
  · exact Or.inl h1
  · refine Or.inr ⟨g, cap, cur, h1, h2, ?_, h4⟩
    rw [Below.heap_setCell _ _ _ _ ?_]
    · exact h3
    · intro hk; exact hn (by rw [h1]; simp only [Value.ownBlock]; exact congrArg some hk.symm)
theorem BldG.drew (h : BldG f e B w0 w v l) : BldG f e B w0 w.drew v l := ⟨h.own, h.bel.drew, h.big⟩
theorem BldG.drewN (h : BldG f e B w0 w v l) (k : Nat) : BldG f e B w0 (w.drewN k) v l := h.below (below_drewN w k)
theorem wpList_pushG2 {P : Program} {ops : Array Oper} {rest : List Oper} {o : Oper} {a : Act} {Q : Exit → Act → World → Prop} (hgd : o.guard = none) (s x : Operand) (t : TypeId)
    (ho : o.op = .call { callee := .builtin .append, args := #[s, x], argTypes := #[t, t] })
    (ht : P.underlying t = some (.slice e)) (z : Value) (bytes : Nat) (hi : (P.info? e).map (fun i => (i.zero, i.size, i.bytes)) = some (some z, 1, bytes)) (hz : z.cells.size = 1)
    (hf : ∀ y, (f y).oneCell' = true) (hs : a.eval s = v) (hb : BldG f e B w0 w v l) (c : α)
    (hx : a.eval x = .slice (some ⟨w.heap.size, 0, none⟩) 1 1) (h63 : l.length + 1 ≤ 1000000000000) (hbytes : (l.length + 1) * bytes ≤ 140737488355328)
    (h : ∀ v' w', BldG f e B w0 w' v' (l ++ [c]) → (w.alloc (.cells #[f c] e)).grownBy w' v.ownBlock → wpList P ops Q rest (a.put o.dst v') w') : wpList P ops Q (o :: rest) a (w.alloc (.cells #[f c] e)) := by
  obtain ⟨i, hi0, h1, h2, h3⟩ := info_parts hi
  have hb2 := hb.alloc (.cells #[f c] e)
  refine wpList_append_own _ hgd s x t ho B e i z 1 bytes ht hi0 h1 h2 h3 hz (by decide) v l.length (l.map f) hs hb2.own ⟨w.heap.size, 0, none⟩ 1 1 [f c] hx rfl ?_ ?_ (by unfold maxLen; omega) hbytes hb2.big ?_
  · intro j u hu
    match j, hu with
    | 0, hu => simp at hu; subst hu; simp [Addr.add]
  · intro u hu; simp at hu; subst hu; exact hf c
  · intro v' w' ho' hg _
    refine h v' w' (hb2.grown hg ?_) hg
    rw [List.length_append, List.map_append]
    exact ho'
end
theorem infoR : (Try.prog.info? 46).map (fun i => (i.zero, i.size, i.bytes)) = some (some (.slice none 0 0), 1, 24) := by kernel_rfl
structure Tab2 (w wr : World) (v : Value) (gs : List Nat) (C c : Nat) (Z : Nat → Nat → Nat) : Prop where
  bld : BldG (fRow C) 46 w.heap.size w wr v gs
  len : gs.length = c
  done : ∀ (j g : Nat), gs[j]? = some g → wr.rowIs g 3 C (fun r => .int .i64 (Z j r))
structure Tab2I (w wi : World) (v : Value) (gs : List Nat) (C c : Nat) (Z : Nat → Nat → Nat) (rb : Nat) (f : Nat → Value) : Prop where
  tab : Tab2 w wi v gs C c Z
  cur : wi.rowIs rb 3 C f
  big : w.heap.size ≤ rb
  apart : ∀ (j g : Nat), gs[j]? = some g → g ≠ rb
section
variable {w wr wi : World} {v : Value} {gs : List Nat} {C c rb : Nat} {Z : Nat → Nat → Nat} {f : Nat → Value}
theorem tab2_start (w : World) (C : Nat) (Z : Nat → Nat → Nat) : Tab2 w (w.alloc (.cells #[] 46)) (.slice (some ⟨w.heap.size, 0, none⟩) 0 0) [] C 0 Z :=
  ⟨BldG.empty _ _ _, rfl, fun j g h => by simp at h⟩
theorem tab2I_start (h : Tab2 w wr v gs C c Z) : Tab2I w (wr.alloc (.cells (madeCells #[.int .i64 0] C) 3)) v gs C c Z wr.heap.size (fun _ => .int .i64 0) :=
  ⟨⟨h.bld.alloc _, h.len, fun j g hg => (h.done j g hg).alloc _⟩, World.rowIs_made wr (.int .i64 0) C 3, h.bld.big, fun j g hg => Nat.ne_of_lt (h.done j g hg).lt⟩
theorem Tab2I.set (h : Tab2I w wi v gs C c Z rb f) (r : Nat) (x : Value) : Tab2I w (wi.setCell ⟨rb, r, none⟩ x) v gs C c Z rb (fun j => if j = r then x else f j) :=
  ⟨⟨h.tab.bld.setOther (h.tab.bld.ne_own h.cur (by decide)) h.big _ _, h.tab.len, fun j g hg => (h.tab.done j g hg).setOther (h.apart j g hg) _⟩, h.cur.set r _, h.big, h.apart⟩
theorem Tab2I.drew (h : Tab2I w wi v gs C c Z rb f) : Tab2I w wi.drew v gs C c Z rb f := ⟨⟨h.tab.bld.drew, h.tab.len, fun j g hg => (h.tab.done j g hg).drew⟩, h.cur.drew, h.big, h.apart⟩
theorem Tab2I.drewN (h : Tab2I w wi v gs C c Z rb f) (k : Nat) : Tab2I w (wi.drewN k) v gs C c Z rb f :=
  ⟨⟨h.tab.bld.drewN k, h.tab.len, fun j g hg => (h.tab.done j g hg).of_block rfl⟩, h.cur.of_block rfl, h.big, h.apart⟩
/-- The row is full and appended. -/
theorem Tab2I.close (h : Tab2I w wi v gs C c Z rb f) (hf : ∀ r, r < C → f r = .int .i64 (Z c r)) {v' : Value} {w' : World} (hb : BldG (fRow C) 46 w.heap.size w w' v' (gs ++ [rb]))
    (hg : (wi.alloc (.cells #[fRow C rb] 46)).grownBy w' v.ownBlock) : Tab2 w w' v' (gs ++ [rb]) C (c + 1) Z := by
  have keep : ∀ {g : Nat} {φ : Nat → Value}, wi.rowIs g 3 C φ → w'.rowIs g 3 C φ := fun {g φ} hr =>
    (hr.alloc _).of_block (hg.block _ (hr.alloc (.cells #[fRow C rb] 46)).lt (h.tab.bld.ne_own hr (by decide)))
  refine ⟨hb, by rw [List.length_append, h.tab.len]; rfl, fun j g hj => ?_⟩
  by_cases hlt : j < gs.length
  · rw [List.getElem?_append_left hlt] at hj
    exact keep (h.tab.done j g hj)
  · rw [List.getElem?_append_right (by omega)] at hj
    have hj0 : j = gs.length := by
      rcases Nat.eq_zero_or_pos (j - gs.length) with h0 | h0
      · omega
      · rw [List.getElem?_eq_none (by simp; omega)] at hj; cases hj
    subst hj0
    simp at hj
    subst hj
    rw [h.tab.len]
    exact keep (h.cur.congr hf)
theorem Tab2.form (h : Tab2 w wr v gs C c Z) (hc : 1 ≤ c) : ∃ g cap, v = .slice (some ⟨g, 0, none⟩) c cap := by
  rcases h.bld.own.2 with ⟨h1, h2⟩ | ⟨g, cap, _, h1, _⟩
  · have := h.len; omega
  · exact ⟨g, cap, by rw [h1, h.len]⟩
theorem Tab2.head {g cap : Nat} (h : Tab2 w wr (.slice (some ⟨g, 0, none⟩) c cap) gs C c Z) {i : Nat} (hi : i < c) : ∃ k, gs[i]? = some k ∧ wr.cell? ⟨g, i, none⟩ = some (.slice (some ⟨k, 0, none⟩) C C) := by
  have hb := h.bld
  rcases hb.row with h0 | ⟨b, h1, _, h3⟩
  · have := h.len; rw [h0] at this; simp at this; omega
  · simp only [Option.some.injEq, Addr.mk.injEq, and_true] at h1
    subst h1
    have hl : i < gs.length := by rw [h.len]; exact hi
    exact ⟨gs[i], List.getElem?_eq_getElem hl, (h3 i _ (List.getElem?_eq_getElem hl)).1⟩
theorem Tab2.tab {g cap : Nat} (h : Tab2 w wr (.slice (some ⟨g, 0, none⟩) c cap) gs C c Z) : IsTab wr g c C Z := fun i hi => by
  obtain ⟨k, h1, h2⟩ := h.head hi
  exact ⟨k, h2, fun j hj => (h.done i k h1).cell hj⟩
end
end Go.Proofs.Ytoijjielnbcphaa

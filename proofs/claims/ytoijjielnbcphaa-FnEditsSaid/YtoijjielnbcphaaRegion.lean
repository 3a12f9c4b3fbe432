/-
  Plain helpers: an append of bytes inside a statement whose order of evaluation is open. No condition.
-/
import Derived.Test.YtoijjielnbcphaaFacts
import Derived.Deep.RegionLaw
namespace Go.Proofs.Ytoijjielnbcphaa
open Go.RowKit
set_option linter.unusedVariables false
set_option linter.unusedSimpArgs false

theorem Bld.drew {e : TypeId} {B : Nat} {w0 w : World} {v : Value} {l : List UInt8} (h : Bld e B w0 w v l) : Bld e B w0 w.drew v l :=
  ⟨h.own, h.bel.drew, h.big⟩
theorem step_addB {P : Program} {ops : Array Oper} {o : Oper} {a : Act} {w0 w : World} {K : Act → World → Prop} {Q : Exit → Act → World → Prop} {E : Prop}
    (hgd : o.guard = none) (s x : Operand) (t : TypeId) (ho : o.op = .call { callee := .builtin .append, args := #[s, x], argTypes := #[t, t] })
    (B : Nat) (e : TypeId) (ht : P.underlying t = some (.slice e)) (hi : (P.info? e).map (fun i => (i.zero, i.size, i.bytes)) = some (some (.int .u8 0), 1, 1))
    (v : Value) (l : List UInt8) (hs : a.eval s = v) (hb : Bld e B w0 w v l)
    (ad : Addr) (m c : Nat) (l2 : List UInt8) (hx : a.eval x = .slice (some ad) m c) (hl : l2.length = m) (hnews : ∀ j u, (cellsB l2)[j]? = some u → w.cell? (ad.add j) = some u)
    (hbytes : l.length + m ≤ 140737488355328)
    (h : ∀ v' w', Bld e B w0 w' v' (l ++ l2) → K (a.put o.dst v') w') : if Region.wanted o (yielded ops a.tmps) = true then Oper.wp P o a w K Q else E := by
  have hw : Region.wanted o (yielded ops a.tmps) = true := by simp [Region.wanted, hgd]
  rw [if_pos hw]
  obtain ⟨i, hi0, h1, h2, h3⟩ := info_parts hi
  refine wp_append_own w s x t ho B e i (.int .u8 0) 1 1 ht hi0 h1 h2 h3 rfl (by decide) v l.length (cellsB l) hs hb.own ad m c (cellsB l2) hx
    (by rw [cellsB_length, hl]; omega) hnews (cellsB_one l2) (by unfold maxLen; omega) (by omega) hb.big ?_
  intro v' w' ho' hg _
  refine h v' w' (hb.grown hg ?_)
  rw [cellsB_append, List.length_append, hl]
  exact ho'
/-- two bytes, the draw behind the block. -/
theorem step_push2 {P : Program} {ops : Array Oper} {o : Oper} {a : Act} {w0 w : World} {K : Act → World → Prop} {Q : Exit → Act → World → Prop} {E : Prop}
    (hgd : o.guard = none) (s x : Operand) (t : TypeId) (ho : o.op = .call { callee := .builtin .append, args := #[s, x], argTypes := #[t, t] })
    (B : Nat) (e : TypeId) (ht : P.underlying t = some (.slice e)) (hi : (P.info? e).map (fun i => (i.zero, i.size, i.bytes)) = some (some (.int .u8 0), 1, 1))
    (v : Value) (l : List UInt8) (hs : a.eval s = v) (hb : Bld e B w0 w v l) (n m : Int) (c d : UInt8)
    (hx : a.eval x = .slice (some ⟨w.heap.size, 0, none⟩) 2 2) (hn : n = (c.toNat : Int)) (hm : m = (d.toNat : Int)) (hbytes : l.length + 2 ≤ 140737488355328)
    (h : ∀ v' w', Bld e B w0 w' v' (l ++ [c, d]) → K (a.put o.dst v') w') : if Region.wanted o (yielded ops a.tmps) = true then Oper.wp P o a (w.alloc (.cells #[.int .u8 n, .int .u8 m] e)).drew K Q else E := by
  refine step_addB hgd s x t ho B e ht hi v l hs (hb.alloc _).drew ⟨w.heap.size, 0, none⟩ 2 2 [c, d] hx rfl ?_ hbytes h
  intro j u hu
  have hd : ∀ a, (w.alloc (.cells #[.int .u8 n, .int .u8 m] e)).drew.cell? a = (w.alloc (.cells #[.int .u8 n, .int .u8 m] e)).cell? a := fun _ => rfl
  rw [hd]
  match j, hu with
  | 0, hu => simp [cellsB] at hu; subst hu; subst hn; simp [Addr.add]
  | 1, hu => simp [cellsB] at hu; subst hu; subst hm; simp [Addr.add]
end Go.Proofs.Ytoijjielnbcphaa

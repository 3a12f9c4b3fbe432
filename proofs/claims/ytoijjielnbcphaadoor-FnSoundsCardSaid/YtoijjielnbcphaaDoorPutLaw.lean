/-
  Helpers for the walk of spec.l3Put: what it computes; append in a region that draws. No condition.
-/
import Derived.Test.YtoijjielnbcphaaDoorComG
import Derived.Deep.RegionLaw
import Derived.Maps.AppendAt
namespace Go.Proofs.YtoijjielnbcphaaDoor
open Go.RowKit Go.Sort
set_option linter.unusedVariables false
set_option linter.unusedSimpArgs false
set_option maxRecDepth 100000
def putL (tw : Bool) (l : List ByteArray) (s : ByteArray) : List ByteArray := (putS tw (l.map bs) (bs s)).map bstr
theorem putL_nil (tw : Bool) (s : ByteArray) : putL tw [] s = [s] := by unfold putL; simp [putS, bstr_bs]
theorem putL_lt (tw : Bool) {x s : ByteArray} (r : List ByteArray) (h : bs x < bs s) : putL tw (x :: r) s = x :: putL tw r s := by
  unfold putL; rw [List.map_cons, putS, if_pos h, List.map_cons, bstr_bs]
theorem comp_bs (r : List ByteArray) : r.map (bstr ∘ bs) = r := by rw [← List.map_map]; exact map_bstr_bs r
theorem putL_eq {x s : ByteArray} (r : List ByteArray) (h : ¬ bs x < bs s) (e : bs x = bs s) : putL false (x :: r) s = x :: r := by
  unfold putL; rw [List.map_cons, putS, if_neg h]; simp [e, comp_bs]
  rw [← e, bstr_bs]
theorem putL_new (tw : Bool) {x s : ByteArray} (r : List ByteArray) (h : ¬ bs x < bs s) (e : tw = true ∨ bs x ≠ bs s) : putL tw (x :: r) s = s :: x :: r := by
  unfold putL; rw [List.map_cons, putS, if_neg h]
  have : ¬ (tw = false ∧ bs x = bs s) := by rintro ⟨e1, e2⟩; rcases e with e | e; · rw [e1] at e; cases e
                                            · exact e e2
  simp [this, bstr_bs, comp_bs]
theorem drop_at (l : List ByteArray) (k : Nat) (h : k < l.length) : l.drop k = l[k] :: l.drop (k + 1) := List.drop_eq_getElem_cons h
section
variable {α : Type} {f : α → Value}
theorem BldG.drew1 {e : TypeId} {B : Nat} {w0 w : World} {v : Value} {l : List α} (h : BldG f e B w0 w v l) : BldG f e B w0 w.drew v l := h.below (Below.refl _ _).drew
theorem emptyAt {e : TypeId} (w0 W : World) (h : Below w0.heap.size w0 W) (N : Nat) (hN : W.heap.size = N) : BldG f e w0.heap.size w0 (W.alloc (.cells #[] e)) (.slice (some ⟨N, 0, none⟩) 0 0) [] := by
  subst hN
  have hb := BldG.empty f e W
  exact ⟨ownMono hb.own h.size, h.alloc h.size _, by have := h.size; simp; omega⟩
theorem newsOne {W : World} {N : Nat} {y : α} (h : W.cell? ⟨N, 0, none⟩ = some (f y)) : ∀ j z, [y][j]? = some z → W.cell? ((⟨N, 0, none⟩ : Addr).add j) = some (f z) := by
  intro j z hz
  match j, hz with
  | 0, hz => simp at hz; subst hz; simpa [Addr.add] using h
theorem step_addG {P : Program} {w0 w : World} {ops : Array Oper} {o : Oper} {a : Act} {K : Act → World → Prop} {Q : Exit → Act → World → Prop} {E : Prop} (hgd : o.guard = none) (s x : Operand) (t : TypeId)
    (ho : o.op = .call { callee := .builtin .append, args := #[s, x], argTypes := #[t, t] })
    (e : TypeId) (ht : P.underlying t = some (.slice e)) (z : Value) (bytes : Nat) (hi : (P.info? e).map (fun i => (i.zero, i.size, i.bytes)) = some (some z, 1, bytes)) (hz : z.cells.size = 1)
    (hf : ∀ y, (f y).oneCell' = true) (v : Value) (l : List α) (hs : a.eval s = v) (hb : BldG f e w0.heap.size w0 w v l) (ad : Addr) (m c : Nat) (l2 : List α)
    (hx : a.eval x = .slice (some ad) m c) (hl : l2.length = m) (hnews : ∀ j y, l2[j]? = some y → w.cell? (ad.add j) = some (f y)) (h63 : l.length + m ≤ 1000000000000) (hbytes : (l.length + m) * bytes ≤ 140737488355328)
    (h : ∀ v' w', BldG f e w0.heap.size w0 w' v' (l ++ l2) → w.grownBy w' v.ownBlock → K (a.put o.dst v') w') :
    if Region.wanted o (yielded ops a.tmps) = true then Oper.wp P o a w K Q else E := by
  have hw : Region.wanted o (yielded ops a.tmps) = true := by simp [Region.wanted, hgd]
  rw [if_pos hw]
  obtain ⟨i, hi0, h1, h2, h3⟩ := info_parts hi
  obtain ⟨v', w', hr, ho', hg, _, _⟩ := run_append_own_at (P := P) w w0.heap.size t o.type e i z 1 bytes ht hi0 h1 h2 h3 hz (by decide) v l.length (l.map f) hb.own ad m c (l2.map f) (by rw [List.length_map, hl]; omega)
    (by intro j u hu; rw [List.getElem?_map, Option.map_eq_some_iff] at hu; obtain ⟨y, hy, rfl⟩ := hu; exact hnews j y hy)
    (by intro u hu; obtain ⟨y, _, rfl⟩ := List.mem_map.1 hu; exact hf y) (by unfold maxLen; omega) hbytes hb.big
  unfold Oper.wp execOp
  simp only [ho, resolve, invoke, builtin, Sem.run_bind, Sem.run_pure, Result.andThen_ok, List.map_toArray, List.map_cons, List.map_nil, hs, hx, hr]
  refine h v' w' (hb.grown hg ?_) hg
  rw [List.length_append, List.map_append, hl]
  exact ho'
end
theorem put_end {w w' : World} {v : Value} {M : List ByteArray} {l : List ByteArray} (h : BldG fS 9 w.heap.size w w' v l) (e : l = M) (hne : M ≠ []) : ∃ b off c, v = .slice (some ⟨b, off, none⟩) M.length c ∧ RowAt fS w' (some ⟨b, off, none⟩) M ∧ M.length ≤ c ∧ Below w.heap.size w w' := by
  subst e
  obtain ⟨a, c, rfl⟩ := h.form
  rcases h.row with h0 | ⟨b, rfl, h2, h3⟩
  · exact absurd h0 hne
  · exact ⟨b, 0, c, rfl, h.row.at, ownCap h.own, h.bel⟩
theorem rowDrop {w : World} {b off : Nat} {l : List ByteArray} (h : RowAt fS w (some ⟨b, off, none⟩) l) (k : Nat) : RowAt fS w (some ⟨b, off + k, none⟩) (l.drop k) := by
  rcases h with h | ⟨b', off', h1, h2⟩
  · subst h; left; simp
  · injection h1 with h1
    injection h1 with e1 e2 e3
    subst e1 e2
    exact Or.inr ⟨_, _, rfl, fun i x hx => by
      rw [Nat.add_assoc]; exact h2 (k + i) x (by rw [List.getElem?_drop] at hx; exact hx)⟩
end Go.Proofs.YtoijjielnbcphaaDoor

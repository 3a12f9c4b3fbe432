/-
  Plain helpers: bytes appended to what '[]byte(s)' has laid. No condition.
-/
import Derived.Test.YtoijjielnbcphaaDoorFacts
namespace Go.Proofs.YtoijjielnbcphaaDoor
open Go.RowKit
set_option linter.unusedVariables false
set_option linter.unusedSimpArgs false
/-- As 'Bld', the row being one that a conversion of a string has laid, or an appended one. -/
structure BldM (e : TypeId) (B : Nat) (w0 w : World) (v : Value) (l : List UInt8) : Prop where
  own : ∃ g cap cur fz, v = .slice (some ⟨g, 0, none⟩) l.length cap ∧ B ≤ g ∧ w.heap[g]? = some (.cells cur e fz) ∧ (fz.2 = 0 ∨ cur.size ≤ fz.1) ∧ l.length ≤ cap ∧ cap ≤ maxLen ∧ cur.size = cap ∧ cur.toList.take l.length = cellsB l
  bel : Below B w0 w
  big : B ≤ w.heap.size
theorem BldM.conv (w : World) (e : TypeId) (s : ByteArray) (hs : s.size ≤ 1048576) : BldM e w.heap.size w (Lib.bytesWorld w e s) (.slice (some ⟨w.heap.size, 0, none⟩) s.size (grownCap w s.size 0 e)) s.data.toList := by
  have hge := grownCap_ge w s.size 0 e
  have hcm := grownCap_le_maxLen w s.size 0 e (by unfold maxLen; omega)
  have hsz : (Lib.bytesCells w e s).size = grownCap w s.size 0 e := by
    have : s.data.size = s.size := rfl
    simp [Lib.bytesCells]; omega
  refine ⟨⟨w.heap.size, grownCap w s.size 0 e, Lib.bytesCells w e s, _, by rw [dlen], Nat.le_refl _, Lib.bytesWorld_at_new w e s, Or.inr (Nat.le_refl _), by rw [dlen]; exact hge, hcm, hsz, ?_⟩, below_conv w e s, by rw [Lib.bytesWorld_size]; omega⟩
  have hl : (cellsB s.data.toList).length = s.data.toList.length := cellsB_length _
  have : (Lib.bytesCells w e s).toList = cellsB s.data.toList ++ List.replicate (grownCap w s.size 0 e - s.size) (.int .u8 0) := by
    simp [Lib.bytesCells, cellsB]
  rw [this, ← hl]
  exact List.take_left
theorem BldM.below {e : TypeId} {B : Nat} {w0 w w' : World} {v : Value} {l : List UInt8} (h : BldM e B w0 w v l) (hb : Below w.heap.size w w') : BldM e B w0 w' v l := by
  obtain ⟨g, cap, cur, fz, h1, h2, h3, h4⟩ := h.own
  exact ⟨⟨g, cap, cur, fz, h1, h2, (hb.block g (Array.getElem?_eq_some_iff.1 h3).1).trans h3, h4⟩, h.bel.trans (hb.mono h.big), Nat.le_trans h.big hb.size⟩
theorem BldM.form {e : TypeId} {B : Nat} {w0 w : World} {v : Value} {l : List UInt8} (h : BldM e B w0 w v l) : ∃ a cap, v = .slice a l.length cap := by
  obtain ⟨g, cap, _, _, h1, _⟩ := h.own
  exact ⟨_, cap, h1⟩
theorem wpList_pushM {P : Program} {w0 w : World} {ops : Array Oper} {rest : List Oper} {o : Oper} {a : Act} {Q : Exit → Act → World → Prop} (hgd : o.guard = none) (s x : Operand) (t : TypeId)
    (ho : o.op = .call { callee := .builtin .append, args := #[s, x], argTypes := #[t, t] })
    (B : Nat) (e : TypeId) (ht : P.underlying t = some (.slice e)) (hi : (P.info? e).map (fun i => (i.zero, i.size, i.bytes)) = some (some (.int .u8 0), 1, 1))
    (v : Value) (l : List UInt8) (hs : a.eval s = v) (hb : BldM e B w0 w v l) (n : Int) (c : UInt8)
    (hx : a.eval x = .slice (some ⟨w.heap.size, 0, none⟩) 1 1) (hn : n = (c.toNat : Int)) (hbytes : l.length + 1 ≤ 140737488355328)
    (h : ∀ v' w', BldM e B w0 w' v' (l ++ [c]) → wpList P ops Q rest (a.put o.dst v') w') : wpList P ops Q (o :: rest) a (w.alloc (.cells #[.int .u8 n] e)) := by
  subst hn
  obtain ⟨i, hi0, h1, h2, h3⟩ := info_parts hi
  have hb2 := hb.below ((Below.refl _ _).alloc (Nat.le_refl _) (.cells #[.int .u8 (c.toNat : Int)] e))
  obtain ⟨W, hW⟩ : ∃ W, W = w.alloc (.cells #[.int .u8 (c.toNat : Int)] e) := ⟨_, rfl⟩
  have hcell : W.cell? ⟨w.heap.size, 0, none⟩ = some (.int .u8 (c.toNat : Int)) := by rw [hW]; simp
  rw [← hW] at hb2 ⊢
  clear hW
  obtain ⟨g, cap, cur, fz, rfl, hBg, hg, hfz, hnc, hcm, hcs, htk⟩ := hb2.own
  have hlt : g < W.heap.size := (Array.getElem?_eq_some_iff.1 hg).1
  have hll : (cellsB l).length = l.length := cellsB_length l
  refine wpList_plain hgd fun K hK => ?_
  have hnews : ∀ (j : Nat) u, [Value.int .u8 (c.toNat : Int)][j]? = some u → W.cell? ((⟨w.heap.size, 0, none⟩ : Addr).add j) = some u := by
    intro j u hu
    match j, hu with
    | 0, hu => simp at hu; subst hu; simpa [Addr.add] using hcell
  by_cases hroom : l.length + 1 ≤ cap
  · have hf := run_firstCells_some (P := P) W i.size 1 ⟨w.heap.size, 0, none⟩ 1 1 [.int .u8 (c.toNat : Int)] (by rw [h2]; rfl) hnews
    have hlc : l.length < cur.size := by omega
    have hst : (storeCells ⟨g, l.length * i.size, none⟩ [.int .u8 (c.toNat : Int)] 0).run P W = .ok () (W.setCell ⟨g, l.length, none⟩ (.int .u8 (c.toNat : Int))) := by
      have hadd : (⟨g, l.length * i.size, none⟩ : Addr).add 0 = ⟨g, l.length, none⟩ := by rw [h2]; simp [Addr.add]
      have hc0 : W.cell? ⟨g, l.length, none⟩ = some cur[l.length] := by simp [World.cell?, hg, hlc]
      have hfr : W.frozen? ⟨g, l.length, none⟩ = false := by
        simp only [World.frozen?, hg]
        rcases hfz with h | h
        · simp; omega
        · simp; omega
      have hs1 : (store ((⟨g, l.length * i.size, none⟩ : Addr).add 0) (.int .u8 (c.toNat : Int))).run P W = .ok () (W.setCell ⟨g, l.length, none⟩ (.int .u8 (c.toNat : Int))) := by
        rw [hadd, run_store P W _ (Value.int .u8 (c.toNat : Int)) _ rfl]
        simp [hc0, hfr]
      simp only [storeCells, Sem.run_bind, hs1, Result.andThen_ok]
      rfl
    have hrun : (Builtin.append_ #[t, t] o.type #[.slice (some ⟨g, 0, none⟩) l.length cap, .slice (some ⟨w.heap.size, 0, none⟩) 1 1]).run P W = .ok (.slice (some ⟨g, 0, none⟩) (l.length + 1) cap) (W.setCell ⟨g, l.length, none⟩ (.int .u8 (c.toNat : Int))) := by
      simp [Builtin.append_, run_underlying ht, sizeOf, typeInfo, hi0, Builtin.lenOf, hroom, hf, Addr.add_lit, hst]
    have hnew : BldM e B w0 (W.setCell ⟨g, l.length, none⟩ (.int .u8 (c.toNat : Int))) (.slice (some ⟨g, 0, none⟩) (l.length + 1) cap) (l ++ [c]) := by
      refine ⟨⟨g, cap, cur.setIfInBounds l.length (.int .u8 (c.toNat : Int)), fz, by simp, hBg, by simp [World.setCell, Array.getElem?_modify, hg], by simpa using hfz, by simpa using hroom, hcm, by simpa using hcs, ?_⟩, hb2.bel.setCell hBg _, by simpa [World.setCell] using hb2.big⟩
      rw [cellsB_append, List.length_append, show [c].length = 1 from rfl, Array.toList_setIfInBounds]
      rw [List.take_succ_eq_append_getElem (by simpa using hlc), List.take_set_of_le (Nat.le_refl _), htk]
      simp [cellsB]
    unfold Oper.wp execOp
    simp only [ho, resolve, invoke, builtin, Sem.run_bind, Sem.run_pure, Result.andThen_ok, List.map_toArray, List.map_cons, List.map_nil, hs, hx, hrun]
    exact hK _ _ (h _ _ hnew)
  · have holds : ∀ j u, (cellsB l)[j]? = some u → W.cell? ((⟨g, 0, none⟩ : Addr).add j) = some u := by
      intro j u hu
      rw [addr_add, Nat.zero_add]
      rw [← htk, List.getElem?_take] at hu
      split at hu
      · simp only [World.cell?, hg]
        simpa using hu
      · cases hu
    have hr := run_append_grow (P := P) W t o.type e i (.int .u8 0) ht hi0 h1 ⟨g, 0, none⟩ l.length cap (cellsB l) (by rw [h2, hll]; omega) holds ⟨w.heap.size, 0, none⟩ 1 1 [.int .u8 (c.toNat : Int)] (by rw [h2]; rfl) hnews (by omega) (by omega) (by rw [h3]; exact growslice_fits (by omega) (by omega))
    have hge := grownCap_ge W (l.length + 1) cap e
    have hcm2 := grownCap_le_maxLen W (l.length + 1) cap e (by unfold maxLen; omega)
    have hnew : BldM e B w0 (W.drew.alloc (.cells ((cellsB l).toArray ++ [Value.int .u8 (c.toNat : Int)].toArray ++ Builtin.zeroCells (Value.int .u8 0).cells (grownCap W (l.length + 1) cap e - (l.length + 1))) e))
        (.slice (some ⟨W.heap.size, 0, none⟩) (l.length + 1) (grownCap W (l.length + 1) cap e)) (l ++ [c]) := by
      refine ⟨⟨W.heap.size, _, _, (0, 0), by simp, hb2.big, heap_alloc_new W.drew _, Or.inl rfl, by simpa using hge, hcm2, ?_, ?_⟩, (hb2.bel.drew.alloc hb2.big _), by have := hb2.big; simp; omega⟩
      · have hz1 : (Value.int IntKind.u8 0).cells.size = 1 := rfl
        simp only [Array.size_append, List.size_toArray, size_zeroCells, hz1, hll, List.length_cons, List.length_nil]
        omega
      · simp only [Array.toList_append, List.append_assoc]
        rw [← List.append_assoc, cellsB_append]
        have hc1 : cellsB [c] = [Value.int .u8 (c.toNat : Int)] := rfl
        rw [← hc1]
        have : (l ++ [c]).length = (cellsB l ++ cellsB [c]).length := by simp [cellsB]
        rw [this]
        exact List.take_left
    unfold Oper.wp execOp
    simp only [ho, resolve, invoke, builtin, Sem.run_bind, Sem.run_pure, Result.andThen_ok, List.map_toArray, List.map_cons, List.map_nil, hs, hx, hr]
    exact hK _ _ (h _ _ hnew)
/-- 'string(out)'. -/
theorem BldM.text {P : Program} {e : TypeId} {B : Nat} {w0 w : World} {v : Value} {l : List UInt8} (h : BldM e B w0 w v l) (src dst : TypeId) (hs : P.underlying src = some (.slice e)) (he : P.underlying e = some (.int .u8))
    (hd : P.underlying dst = some .string) : (convert src dst v).run P w = .ok (.string (bstr l)) w := by
  obtain ⟨g, cap, cur, fz, rfl, _, hg, _, _, _, _, htk⟩ := h.own
  rw [run_convert_bytes_arg w src e hs he g 0 l.length cap (l.map fun b => (b.toNat : Int)) (by simp) ?_ dst hd]
  · congr 2
    simp only [strOfNums, bstr, List.map_map]
    congr 2
    simp [Function.comp_def]
  · intro i hi
    have hu : (cellsB l)[i]? = some (.int .u8 (l.getD i 0).toNat) := by simp [cellsB, hi]
    rw [← htk, List.getElem?_take, if_pos hi] at hu
    have : w.cell? ⟨g, i, none⟩ = some (.int .u8 (l.getD i 0).toNat) := by
      simp only [World.cell?, hg]
      simpa using hu
    simpa [hi] using this
theorem textM {B : Nat} {w0 w : World} {v : Value} {l : List UInt8} (h : BldM 5 B w0 w v l) :
    (convert 22 9 v).run Tryd.prog w = .ok (.string (bstr l)) w :=
  h.text _ _ Tryd.underlying22 Tryd.underlying5 Tryd.underlying9
end Go.Proofs.YtoijjielnbcphaaDoor

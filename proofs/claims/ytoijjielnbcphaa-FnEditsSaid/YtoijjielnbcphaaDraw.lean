/-
  Walks of the draws' cursor: l1New, l1Byte, l1Below, l1Once, l1Pick, l1PickInt. Condition: the code has at most 2^20 bytes.
-/
import Derived.Test.YtoijjielnbcphaaSeq
import Derived.Deep.QuietTactic
import Derived.BigQuiet
namespace Go.Proofs.Ytoijjielnbcphaa
open Go.RowKit
set_option linter.unusedVariables false
set_option linter.unusedSimpArgs false
set_option maxRecDepth 100000
/-- Nothing that was there has changed, but blocks from lo on and below hi. -/
structure Only (lo hi : Nat) (w w' : World) : Prop where
  os : w'.os = w.os
  tape : w'.tape = w.tape
  output : w'.output = w.output
  size : w.heap.size ≤ w'.heap.size
  block : ∀ i, i < w.heap.size → (i < lo ∨ hi ≤ i) → w'.heap[i]? = w.heap[i]?
theorem Only.refl (lo hi : Nat) (w : World) : Only lo hi w w := ⟨rfl, rfl, rfl, Nat.le_refl _, fun _ _ _ => rfl⟩
theorem Only.trans {lo hi : Nat} {a b c : World} (h : Only lo hi a b) (k : Only lo hi b c) : Only lo hi a c :=
  ⟨k.os.trans h.os, k.tape.trans h.tape, k.output.trans h.output, Nat.le_trans h.size k.size, fun i hi ho => (k.block i (Nat.lt_of_lt_of_le hi h.size) ho).trans (h.block i hi ho)⟩
theorem Only.ofBelow {lo hi : Nat} {w w' : World} (h : Below w.heap.size w w') : Only lo hi w w' := ⟨h.os, h.tape, h.output, h.size, fun i hi _ => h.block i hi⟩
theorem Only.set {lo hi : Nat} {a w : World} (h : Only lo hi a w) {p : Addr} (h1 : lo ≤ p.block) (h2 : p.block < hi) (v : Value) : Only lo hi a (w.setCell p v) :=
  ⟨h.os, h.tape, h.output, by simpa [World.setCell] using h.size, fun i hi ho => (Below.heap_setCell w p v i (by omega)).trans (h.block i hi ho)⟩
theorem Only.below {lo hi B : Nat} {w w' : World} (h : Only lo hi w w') (h1 : B ≤ lo) (h2 : B ≤ w.heap.size) : Below B w w' :=
  ⟨h.os, h.tape, h.output, h.size, fun i hi => h.block i (Nat.lt_of_lt_of_le hi h2) (Or.inl (Nat.lt_of_lt_of_le hi h1))⟩
theorem and_le (x : Int) (m : Nat) (hm : m < 9223372036854775808) : 0 ≤ bits .and .i64 x m ∧ bits .and .i64 x m ≤ m := by
  have e : bits .and .i64 x (m : Int) = IntKind.i64.wrap (((BitVec.ofInt 64 x) &&& (BitVec.ofInt 64 (m : Int))).toNat : Int) := rfl
  have h1 : ((BitVec.ofInt 64 x) &&& (BitVec.ofInt 64 (m : Int))).toNat ≤ m := by
    rw [BitVec.toNat_and, BitVec.ofInt_natCast, BitVec.toNat_ofNat]
    refine Nat.le_trans Nat.and_le_right ?_
    exact Nat.mod_le _ _
  rw [e, IntWalk.i64_in _ (by omega)]
  omega
theorem and_255 (x : Int) : 0 ≤ bits .and .i64 x 255 ∧ bits .and .i64 x 255 ≤ 255 := and_le x 255 (by decide)
def fU : UInt8 → Value := fun b => .int .u8 b.toNat
/-- Block g holds a draw's cursor over the code l. -/
structure Cur (w : World) (g : Nat) (l : List UInt8) : Prop where
  ex : ∃ (a : Option Addr) (cap i : Nat) (h : Int), w.heap[g]? = some (.cells #[.slice a l.length cap, .int .i64 i, .int .i64 h] 63) ∧ i ≤ l.length ∧ -9223372036854775808 ≤ h ∧ h ≤ 9223372036854775807 ∧ RowAt fU w a l ∧ (l ≠ [] → ∀ b off, a = some ⟨b, off, none⟩ → b < g)
  len : l.length ≤ 1048576
theorem Cur.lt {w : World} {g : Nat} {l : List UInt8} (h : Cur w g l) : g < w.heap.size := by
  obtain ⟨a, cap, i, z, h1, _⟩ := h.ex
  exact (Array.getElem?_eq_some_iff.1 h1).1
theorem Cur.below {w w' : World} {g : Nat} {l : List UInt8} (h : Cur w g l) (hb : Below w.heap.size w w') : Cur w' g l := by
  have hl := h.lt
  obtain ⟨a, cap, i, z, h1, h2, h3, h4, h5, h6⟩ := h.ex
  exact ⟨⟨a, cap, i, z, (hb.block g hl).trans h1, h2, h3, h4, h5.below hb, h6⟩, h.len⟩
/-- A row of strings is not the cursor's block. -/
theorem RowAt.off {w w' : World} {g : Nat} {l : List UInt8} {α : Type} {f : α → Value} (hf : ∀ x, (∀ n, f x ≠ .int .i64 n) ∧ ∀ a n c, f x ≠ .slice a n c) {a : Option Addr} {r : List α} (h : RowAt f w a r) (hc : Cur w g l) (ho : Only g (g + 1) w w') : RowAt f w' a r := by
  rcases h with h | ⟨b, off, h1, h2⟩
  · exact Or.inl h
  · refine Or.inr ⟨b, off, h1, fun i x hx => ?_⟩
    have hcell := h2 i x hx
    have hne : b ≠ g := by
      intro e
      subst e
      obtain ⟨a0, cap, i0, z, k1, _⟩ := hc.ex
      unfold World.cell? at hcell
      simp only [k1] at hcell
      match ho2 : off + i, hcell with
      | 0, hcell => simp at hcell; exact (hf x).2 _ _ _ hcell.symm
      | 1, hcell => simp at hcell; exact (hf x).1 _ hcell.symm
      | 2, hcell => simp at hcell; exact (hf x).1 _ hcell.symm
      | (n + 3), hcell => simp at hcell
    exact (World.cell?_of_block (a := ⟨b, off + i, none⟩) (ho.block b (World.block_lt_of_cell? w _ hcell) (by omega))).trans hcell
theorem fS_off (x : ByteArray) : (∀ n, fS x ≠ .int .i64 n) ∧ ∀ a n c, fS x ≠ .slice a n c := ⟨fun _ => by simp [fS], fun _ _ _ => by simp [fS]⟩
/-- What a step of the draw leaves. -/
def Drew (g : Nat) (l : List UInt8) (w w' : World) : Prop := Cur w' g l ∧ Only g (g + 1) w w'
theorem Drew.refl {g : Nat} {l : List UInt8} {w : World} (h : Cur w g l) : Drew g l w w := ⟨h, Only.refl _ _ _⟩
theorem Drew.trans {g : Nat} {l : List UInt8} {a b c : World} (h : Drew g l a b) (k : Drew g l b c) : Drew g l a c := ⟨k.1, h.2.trans k.2⟩
theorem Drew.below {g : Nat} {l : List UInt8} {a b c : World} (h : Drew g l a b) (hb : Below b.heap.size b c) : Drew g l a c := ⟨h.1.below hb, h.2.trans (Only.ofBelow hb)⟩
theorem Drew.bel {g : Nat} {l : List UInt8} {w0 w w' : World} (h : Drew g l w w') (h0 : Below w0.heap.size w0 w) (hg : w0.heap.size ≤ g) : Below w0.heap.size w0 w' := h0.trans (h.2.below hg h0.size)
/-- The cursor, cell by cell. -/
structure CurX (w : World) (g : Nat) (l : List UInt8) (a : Option Addr) (cap i : Nat) (h : Int) : Prop where
  blk : w.heap[g]? = some (.cells #[.slice a l.length cap, .int .i64 i, .int .i64 h] 63)
  le : i ≤ l.length
  lo : -9223372036854775808 ≤ h
  hi : h ≤ 9223372036854775807
  row : RowAt fU w a l
  ne : l ≠ [] → ∀ b off, a = some ⟨b, off, none⟩ → b < g
  len : l.length ≤ 1048576
theorem CurX.cur {w : World} {g : Nat} {l : List UInt8} {a : Option Addr} {cap i : Nat} {h : Int} (c : CurX w g l a cap i h) : Cur w g l := ⟨⟨a, cap, i, h, c.blk, c.le, c.lo, c.hi, c.row, c.ne⟩, c.len⟩
theorem Cur.x {w : World} {g : Nat} {l : List UInt8} (c : Cur w g l) : ∃ a cap i h, CurX w g l a cap i h := by
  obtain ⟨a, cap, i, h, h1, h2, h3, h4, h5, h6⟩ := c.ex
  exact ⟨a, cap, i, h, h1, h2, h3, h4, h5, h6, c.len⟩
theorem CurX.below {w w' : World} {g : Nat} {l : List UInt8} {a : Option Addr} {cap i : Nat} {h : Int} (c : CurX w g l a cap i h) (hb : Below w.heap.size w w') : CurX w' g l a cap i h :=
  ⟨(hb.block g c.cur.lt).trans c.blk, c.le, c.lo, c.hi, c.row.below hb, c.ne, c.len⟩
theorem fU_off (x : UInt8) : (∀ n, fU x ≠ .int .i64 n) ∧ ∀ a n c, fU x ≠ .slice a n c := ⟨fun _ => by simp [fU], fun _ _ _ => by simp [fU]⟩
theorem CurX.set2 {w : World} {g : Nat} {l : List UInt8} {a : Option Addr} {cap i : Nat} {h : Int} (c : CurX w g l a cap i h) (z : Int) (z0 : -9223372036854775808 ≤ z) (z1 : z ≤ 9223372036854775807) :
    CurX (w.setCell ⟨g, 2, none⟩ (.int .i64 z)) g l a cap i z ∧ Only g (g + 1) w (w.setCell ⟨g, 2, none⟩ (.int .i64 z)) := by
  have ho : Only g (g + 1) w (w.setCell ⟨g, 2, none⟩ (.int .i64 z)) := (Only.refl _ _ _).set (p := ⟨g, 2, none⟩) (Nat.le_refl _) (Nat.lt_succ_self _) _
  exact ⟨⟨heap_setCell_same _ _ 2 _ _ (.int .i64 z) c.blk, c.le, z0, z1, RowAt.off fU_off c.row c.cur ho, c.ne, c.len⟩, ho⟩
theorem CurX.set1 {w : World} {g : Nat} {l : List UInt8} {a : Option Addr} {cap i : Nat} {h : Int} (c : CurX w g l a cap i h) (hi : i < l.length) :
    CurX (w.setCell ⟨g, 1, none⟩ (.int .i64 ((i : Int) + 1))) g l a cap (i + 1) h ∧ Only g (g + 1) w (w.setCell ⟨g, 1, none⟩ (.int .i64 ((i : Int) + 1))) := by
  have ho : Only g (g + 1) w (w.setCell ⟨g, 1, none⟩ (.int .i64 ((i : Int) + 1))) := (Only.refl _ _ _).set (p := ⟨g, 1, none⟩) (Nat.le_refl _) (Nat.lt_succ_self _) _
  exact ⟨⟨heap_setCell_same _ _ 1 _ _ (.int .i64 ((i : Int) + 1)) c.blk, hi, c.lo, c.hi, RowAt.off fU_off c.row c.cur ho, c.ne, c.len⟩, ho⟩
theorem CurX.cells {w : World} {g : Nat} {l : List UInt8} {a : Option Addr} {cap i : Nat} {h : Int} (c : CurX w g l a cap i h) :
    w.cell? ⟨g, 0, none⟩ = some (.slice a l.length cap) ∧ w.cell? ⟨g, 1, none⟩ = some (.int .i64 i) ∧ w.cell? ⟨g, 2, none⟩ = some (.int .i64 h) ∧ ∀ j, w.frozen? ⟨g, j, none⟩ = false :=
  ⟨by simp [World.cell?, c.blk], by simp [World.cell?, c.blk], by simp [World.cell?, c.blk], fun j => by simp [World.frozen?, c.blk]⟩
theorem Cur.grown {w w' : World} {g : Nat} {l : List UInt8} {r : Option Nat} (c : Cur w g l) (hg : w.grownBy w' r) (hr : ∀ k, r = some k → g < k) : Cur w' g l := by
  obtain ⟨a, cap, i, h, x⟩ := c.x
  have hb : w'.heap[g]? = w.heap[g]? := hg.block g c.lt (by intro e; exact absurd (hr g e.symm) (Nat.lt_irrefl _))
  refine (CurX.cur (a := a) (cap := cap) (i := i) (h := h) ⟨hb.trans x.blk, x.le, x.lo, x.hi, ?_, x.ne, x.len⟩)
  rcases x.row with h1 | ⟨b, off, h1, h2⟩
  · exact Or.inl h1
  · refine Or.inr ⟨b, off, h1, fun j y hj => ?_⟩
    have hne : l ≠ [] := by rintro rfl; simp at hj
    have hbg := x.ne hne b off h1
    exact hg.cell (h2 j y hj) (by intro e; have := hr b e.symm; omega)
theorem Only.grown {lo hi : Nat} {w0 w w' : World} {r : Option Nat} (h : Only lo hi w0 w) (hg : w.grownBy w' r) (hr : ∀ k, r = some k → w0.heap.size ≤ k) : Only lo hi w0 w' :=
  ⟨hg.os.trans h.os, hg.tape.trans h.tape, hg.output.trans h.output, Nat.le_trans h.size hg.size, fun i hi ho => (hg.block i (Nat.lt_of_lt_of_le hi h.size) (by intro e; have := hr i e.symm; omega)).trans (h.block i hi ho)⟩
theorem Drew.grown {g : Nat} {l : List UInt8} {w0 w w' : World} {r : Option Nat} (h : Drew g l w0 w) (h0 : Cur w0 g l) (hg : w.grownBy w' r) (hr : ∀ k, r = some k → w0.heap.size ≤ k) : Drew g l w0 w' :=
  ⟨h.1.grown hg (fun k hk => Nat.lt_of_lt_of_le h0.lt (hr k hk)), h.2.grown hg hr⟩
/-- A slice that the call builds while it draws. -/
structure BldD {α : Type} (f : α → Value) (e : TypeId) (g : Nat) (code : List UInt8) (w0 w : World) (v : Value) (l : List α) : Prop where
  own : w.ownsRow w0.heap.size e 1 v l.length (l.map f)
  drew : Drew g code w0 w
  cur : Cur w0 g code
theorem BldD.big {α : Type} {f : α → Value} {e : TypeId} {g : Nat} {code : List UInt8} {w0 w : World} {v : Value} {l : List α} (h : BldD f e g code w0 w v l) : w0.heap.size ≤ w.heap.size := h.drew.2.size
/-- A draw leaves it alone. -/
theorem BldD.step {α : Type} {f : α → Value} {e : TypeId} {g : Nat} {code : List UInt8} {w0 w w' : World} {v : Value} {l : List α} (h : BldD f e g code w0 w v l) (hd : Drew g code w w') : BldD f e g code w0 w' v l := by
  refine ⟨⟨h.own.1, ?_⟩, h.drew.trans hd, h.cur⟩
  rcases h.own.2 with h1 | ⟨b, cap, cells, h1, h2, h3, h4⟩
  · exact Or.inl h1
  · have hlt := h.cur.lt
    exact Or.inr ⟨b, cap, cells, h1, h2, (hd.2.block b (Array.getElem?_eq_some_iff.1 h3).1 (by omega)).trans h3, h4⟩
theorem wpList_pushD {α : Type} {f : α → Value} {P : Program} {w0 w : World} {ops : Array Oper} {rest : List Oper} {o : Oper} {a : Act} {Q : Exit → Act → World → Prop} (hgd : o.guard = none) (s x : Operand) (t : TypeId)
    (ho : o.op = .call { callee := .builtin .append, args := #[s, x], argTypes := #[t, t] })
    (e : TypeId) (ht : P.underlying t = some (.slice e)) (z : Value) (bytes : Nat) (hi : (P.info? e).map (fun i => (i.zero, i.size, i.bytes)) = some (some z, 1, bytes)) (hz : z.cells.size = 1)
    (hf : ∀ y, (f y).oneCell' = true) (v : Value) (l : List α) (hs : a.eval s = v) {g : Nat} {code : List UInt8} (hb : BldD f e g code w0 w v l) (c : α) (u : Value) (hu : u = f c)
    (hx : a.eval x = .slice (some ⟨w.heap.size, 0, none⟩) 1 1) (h63 : l.length + 1 ≤ 1000000000000) (hbytes : (l.length + 1) * bytes ≤ 140737488355328)
    (h : ∀ v' w', BldD f e g code w0 w' v' (l ++ [c]) → wpList P ops Q rest (a.put o.dst v') w') : wpList P ops Q (o :: rest) a (w.alloc (.cells #[u] e)) := by
  subst hu
  obtain ⟨i, hi0, h1, h2, h3⟩ := info_parts hi
  have hd2 : Drew g code w0 (w.alloc (.cells #[f c] e)) := hb.drew.below ((Below.refl _ _).alloc (Nat.le_refl _) _)
  have hb2 : BldD f e g code w0 (w.alloc (.cells #[f c] e)) v l := ⟨hb.own.alloc _, hd2, hb.cur⟩
  refine wpList_append_own _ hgd s x t ho w0.heap.size e i z 1 bytes ht hi0 h1 h2 h3 hz (by decide) v l.length (l.map f) hs hb2.own ⟨w.heap.size, 0, none⟩ 1 1 [f c] hx rfl ?_ ?_ (by unfold maxLen; omega) hbytes hb2.big ?_
  · intro j u hu
    match j, hu with
    | 0, hu => simp at hu; subst hu; simp [Addr.add]
  · intro u hu; simp at hu; subst hu; exact hf c
  · intro v' w' ho' hg _
    refine h v' w' ⟨?_, hb2.drew.grown hb.cur hg (fun k hk => (hb2.own.lt k hk).1), hb.cur⟩
    rw [List.length_append, List.map_append]
    exact ho'
theorem BldD.empty {α : Type} (f : α → Value) (e : TypeId) {g : Nat} {code : List UInt8} {w0 w : World} (hd : Drew g code w0 w) (hc : Cur w0 g code) : BldD f e g code w0 (w.alloc (.cells #[] e)) (.slice (some ⟨w.heap.size, 0, none⟩) 0 0) [] :=
  ⟨World.ownsRow_made w #[] 0 hd.2.size (by simp [maxLen]) rfl, hd.below ((Below.refl _ _).alloc (Nat.le_refl _) _), hc⟩
set_option maxHeartbeats 1600000 in
theorem l1Byte_any (g : Nat) (l : List UInt8) (w : World) (hc : Cur w g l) :
    Calls Try.prog 65 #[.pointer (some ⟨g, 0, none⟩)] w fun e w' => ∃ x : Nat, x ≤ 255 ∧ e = .returned (.int .i64 x) ∧ Drew g l w w' := by
  obtain ⟨a, cap, i, z, X0⟩ := hc.x
  obtain ⟨c0, c1, c2, f0⟩ := X0.cells
  have HX0 := Lib.hid X0
  have hlen := X0.len
  have hile := X0.le
  clear hc X0
  go_enter Try.func65, Try.ntmps65
  go_wp2
  obtain ⟨z2, hz2⟩ : ∃ z2, wrap64 (wrap64 (z * 6364136223846793005) + 1442695040888963407) = z2 := ⟨_, rfl⟩
  rw [hz2]
  have zr : -9223372036854775808 ≤ z2 ∧ z2 ≤ 9223372036854775807 := by rw [← hz2]; unfold wrap64; omega
  obtain ⟨X1, O1⟩ := HX0.out.set2 z2 zr.1 zr.2
  obtain ⟨w1, hw1⟩ : ∃ w1, w.setCell ⟨g, 2, none⟩ (.int .i64 z2) = w1 := ⟨_, rfl⟩
  rw [hw1] at X1 O1 ⊢
  clear hz2 hw1 c0 c1 c2 f0
  obtain ⟨c0, c1, c2, f0⟩ := X1.cells
  have HX1 := Lib.hid X1
  have HO1 := Lib.hid O1
  clear X1 O1
  go_quiet (fail)
  have X2 := HX1.out.below (below_drewN w1 nq)
  have O2 := HO1.out.trans (Only.ofBelow (below_drewN w1 nq))
  obtain ⟨w2, hw2⟩ : ∃ w2, w1.drewN nq = w2 := ⟨_, rfl⟩
  rw [hw2] at X2 O2 ⊢
  clear hw2 c0 c1 c2 f0
  obtain ⟨c0, c1, c2, f0⟩ := X2.cells
  have HX2 := Lib.hid X2
  have HO2 := Lib.hid O2
  clear X2 O2
  go_wp2
  obtain ⟨x0, hx⟩ : ∃ x, bits BinOp.and IntKind.i64 (bits BinOp.xor IntKind.i64 (z2 / 8589934592) (z2 / 35184372088832)) 255 = x := ⟨_, rfl⟩
  have hxr := and_255 (bits BinOp.xor IntKind.i64 (z2 / 8589934592) (z2 / 35184372088832))
  rw [hx] at hxr ⊢
  obtain ⟨x, rfl⟩ := Int.eq_ofNat_of_zero_le hxr.1
  have hxl : x ≤ 255 := by omega
  clear hx hxr
  go_quiet (fail)
  have X3 := HX2.out.below (below_drewN w2 nq)
  have O3 := HO2.out.trans (Only.ofBelow (below_drewN w2 nq))
  obtain ⟨w3, hw3⟩ : ∃ w3, w2.drewN nq = w3 := ⟨_, rfl⟩
  rw [hw3] at X3 O3 ⊢
  clear hw3 c0 c1 c2 f0
  by_cases hlt : i < l.length
  · obtain ⟨b, off, rfl, hcell⟩ := X3.row.cell i hlt
    replace hcell : w3.cell? ⟨b, off + i, none⟩ = some (.int .u8 (l[i]).toNat) := hcell
    have hby := byte_le l[i]
    obtain ⟨y, hy⟩ : ∃ y : Nat, y = (l[i]).toNat := ⟨_, rfl⟩
    rw [← hy] at hcell hby
    clear hy
    obtain ⟨c0, c1, c2, f0⟩ := X3.cells
    have HX3 := Lib.hid X3
    have HO3 := Lib.hid O3
    clear X3 O3
    have hli : (i : Int) < (l.length : Int) := by omega
    have hw : IntKind.i64.wrap ((x : Int) + (y : Int)) = (x : Int) + (y : Int) := IntWalk.i64_in _ (by omega)
    go_wp2
    go_quiet (fail)
    have X4 := HX3.out.below (below_drewN w3 nq)
    have O4 := HO3.out.trans (Only.ofBelow (below_drewN w3 nq))
    obtain ⟨w4, hw4⟩ : ∃ w4, w3.drewN nq = w4 := ⟨_, rfl⟩
    rw [hw4] at X4 O4 ⊢
    clear hw4 c0 c1 c2 f0 hcell
    obtain ⟨c0, c1, c2, f0⟩ := X4.cells
    obtain ⟨X5, O5⟩ := X4.set1 hlt
    have HD : Hid (Drew g l w (w4.setCell ⟨g, 1, none⟩ (.int .i64 ((i : Int) + 1)))) := Lib.hid ⟨X5.cur, O4.trans O5⟩
    clear X4 O4 X5 O5
    obtain ⟨x2, hx2⟩ : ∃ x2, bits BinOp.and IntKind.i64 ((x : Int) + (y : Int)) 255 = x2 := ⟨_, rfl⟩
    have hxr2 := and_255 ((x : Int) + (y : Int))
    (try rw [hx2] at hxr2 ⊢)
    obtain ⟨u, rfl⟩ := Int.eq_ofNat_of_zero_le hxr2.1
    have hul : u ≤ 255 := by omega
    have Hul := Lib.hid hul
    clear hx2 hxr2 hw hul
    go_wp2
    go_ret
    exact ⟨u, Hul.out, rfl, HD.out⟩
  · have HD : Hid (Drew g l w w3) := Lib.hid ⟨X3.cur, O3⟩
    have Hxl := Lib.hid hxl
    have hd : decide ((i : Int) < (l.length : Int)) = false := decide_eq_false (by omega)
    clear X3 O3
    go_wp2
    go_ret
    exact ⟨x, Hxl.out, rfl, HD.out⟩
theorem mod_range (x n : Nat) (h : 0 < n) : x % n < n := Nat.mod_lt _ h
set_option maxHeartbeats 1600000 in
theorem l1Below_any (g : Nat) (l : List UInt8) (n : Nat) (w : World) (hc : Cur w g l) (h0 : 0 < n) (hn : n ≤ 1000000000) :
    Calls Try.prog 40 #[.pointer (some ⟨g, 0, none⟩), .int .i64 n] w fun e w' => ∃ x : Nat, x < n ∧ e = .returned (.int .i64 x) ∧ Drew g l w w' := by
  have Hc := Lib.hid hc
  clear hc
  by_cases h256 : n ≤ 256
  · go_enter Try.func40, Try.ntmps40
    go_wp2_with fail
    refine (l1Byte_any g l _ Hc.out).mono ?_
    rintro e w1 ⟨x, hx, rfl, hd⟩
    have HR := Lib.hid (mod_range x n h0)
    have HD := Lib.hid hd
    clear hd
    go_wp2
    go_ret
    exact ⟨x % n, HR.out, rfl, HD.out⟩
  · have hd1 : decide ((n : Int) ≤ 256) = false := decide_eq_false (by omega)
    go_enter Try.func40, Try.ntmps40
    go_wp2_with fail
    refine (l1Byte_any g l _ Hc.out).mono ?_
    rintro e w1 ⟨x1, hx1, rfl, hd⟩
    have HD1 := Lib.hid hd
    clear hd
    go_wp2_with fail
    refine (l1Byte_any g l _ HD1.out.1).mono ?_
    rintro e w2 ⟨x2, hx2, rfl, hd⟩
    have HD2 := Lib.hid (HD1.out.trans hd)
    clear hd
    go_wp2_with fail
    refine (l1Byte_any g l _ HD2.out.1).mono ?_
    rintro e w3 ⟨x3, hx3, rfl, hd⟩
    have HD3 := Lib.hid (HD2.out.trans hd)
    clear hd
    go_wp2_with fail
    refine (l1Byte_any g l _ HD3.out.1).mono ?_
    rintro e w4 ⟨x4, hx4, rfl, hd⟩
    have HD4 := Lib.hid (HD3.out.trans hd)
    have HR := Lib.hid (mod_range (x1 * 16777216 + x2 * 65536 + x3 * 256 + x4) n h0)
    clear hd
    go_wp2
    go_ret
    exact ⟨(x1 * 16777216 + x2 * 65536 + x3 * 256 + x4) % n, HR.out, by go_num, HD4.out⟩
theorem l1Once_any (g : Nat) (l : List UInt8) (n : Nat) (w : World) (hc : Cur w g l) (h0 : 0 < n) (hn : n ≤ 1000000000) :
    Calls Try.prog 69 #[.pointer (some ⟨g, 0, none⟩), .int .i64 n] w fun e w' => ∃ b : Bool, e = .returned (.bool b) ∧ Drew g l w w' := by
  go_enter Try.func69, Try.ntmps69
  go_wp2_with fail
  refine (l1Below_any g l n _ hc h0 hn).mono ?_
  rintro e w1 ⟨x, hx, rfl, hd⟩
  go_wp2
  go_ret
  exact ⟨_, rfl, hd⟩
theorem l1Pick_any (g : Nat) (l : List UInt8) (b off c : Nat) (r : List ByteArray) (n : Nat) (hn : r.length = n) (w : World) (hc : Cur w g l) (hr : RowAt fS w (some ⟨b, off, none⟩) r) (h0 : 0 < n) (hl : n ≤ 1000) :
    Calls Try.prog 66 #[.pointer (some ⟨g, 0, none⟩), .slice (some ⟨b, off, none⟩) n c] w fun e w' => ∃ s, s ∈ r ∧ e = .returned (.string s) ∧ Drew g l w w' := by
  have Hc := Lib.hid hc
  have HR := Lib.hid hr
  have HN := Lib.hid hn
  clear hc hr hn
  go_enter Try.func66, Try.ntmps66
  go_wp2_with fail
  refine (l1Below_any g l n _ Hc.out h0 (by omega)).mono ?_
  rintro e w1 ⟨x, hx, rfl, hd⟩
  have hr1 := RowAt.off fS_off HR.out Hc.out hd.2
  have HD := Lib.hid hd
  clear hd
  obtain ⟨b', o', ha, hcell⟩ := hr1.cell x (by rw [HN.out]; exact hx)
  injection ha with ha
  injection ha with e1 e2 e3
  subst e1 e2
  have HM : Hid (r[x]'(by rw [HN.out]; exact hx) ∈ r) := Lib.hid (List.getElem_mem _)
  obtain ⟨s, hs⟩ : ∃ s, s = r[x]'(by rw [HN.out]; exact hx) := ⟨_, rfl⟩
  rw [← hs] at hcell HM
  replace hcell : w1.cell? ⟨b, off + x, none⟩ = some (.string s) := hcell
  clear hs hr1
  go_wp2
  go_ret
  exact ⟨s, HM.out, rfl, HD.out⟩
end Go.Proofs.Ytoijjielnbcphaa

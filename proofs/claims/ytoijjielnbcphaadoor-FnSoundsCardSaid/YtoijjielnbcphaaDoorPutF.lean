/-
  The walk of spec.l3Put where its flag is false. Condition: at most 2^20 elements.
-/
import Derived.Test.YtoijjielnbcphaaDoorPutLaw
namespace Go.Proofs.YtoijjielnbcphaaDoor
open Go.RowKit Go.Sort
set_option linter.unusedVariables false
set_option linter.unusedSimpArgs false
set_option maxRecDepth 100000
set_option maxHeartbeats 1600000 in
theorem l3PutF_any (b off c : Nat) (l : List ByteArray) (s : ByteArray) (w : World) (hr : RowAt fS w (some ⟨b, off, none⟩) l) (hl : l.length ≤ 1048576) (hc : l.length ≤ c) :
    Calls Tryd.prog 57 #[.slice (some ⟨b, off, none⟩) l.length c, .string s, .bool false] w fun e w' => ∃ b' off' c', e = .returned (.slice (some ⟨b', off', none⟩) (putL false l s).length c') ∧ RowAt fS w' (some ⟨b', off', none⟩) (putL false l s) ∧ (putL false l s).length ≤ c' ∧ Below w.heap.size w w' := by
  have HR := Lib.hid hr
  clear hr
  go_enter Tryd.func57, Tryd.ntmps57
  go_wp2
  go_loopw [7] (fun i wr => ∃ k : Nat, k ≤ l.length ∧ i = .int .i64 k ∧ putL false l s = l.take k ++ putL false (l.drop k) s ∧ wr = w) (fun i _ => l.length - (intOf i).toNat)
  case atStart => exact ⟨0, Nat.zero_le _, rfl, rfl, rfl⟩
  case round =>
    obtain ⟨k, hk, rfl, hp, hw⟩ := hrel
    have HP := Lib.hid hp
    clear hp
    subst hw
    by_cases hlt : k < l.length
    · obtain ⟨b', off', ha, hcl⟩ := HR.out.cell k hlt
      injection ha with ha; injection ha with e1 e2 e3; subst e1 e2; clear e3
      have hdr := drop_at l k hlt
      obtain ⟨x, hx⟩ : ∃ x, x = l[k] := ⟨_, rfl⟩
      rw [← hx] at hcl hdr
      replace hcl : wr.cell? ⟨b, off + k, none⟩ = some (.string x) := hcl
      cases g1 : Go.Op.bytesLess x.toList s.toList
      · have g1' := g1
        rw [less_bs, decide_eq_false_iff_not] at g1'
        have hne : ¬ c = k := by omega
        have hkc : (k : Int) ≤ (c : Int) := by omega
        have HTk : Hid ((l.take k).length = k) := Lib.hid (by rw [List.length_take]; omega)
        have HRl : Hid ((l.drop k).length = l.length - k) := Lib.hid (by rw [List.length_drop])
        have HNw : Hid (∀ W, Below wr.heap.size wr W → ∀ j y, (l.drop k)[j]? = some y → W.cell? ((⟨b, off + k, none⟩ : Addr).add j) = some (fS y)) := Lib.hid (fun W hB => RowAt.news (rowDrop (HR.out.below hB) k))
        cases g2 : (x.toList == s.toList)
        · have g2' := g2
          rw [beq_bs, beq_eq_false_iff_ne] at g2'
          have HE : Hid (([] ++ l.take k) ++ [s] ++ l.drop k = putL false l s) := Lib.hid (by
            rw [HP.out, hdr, putL_new false _ g1' (Or.inr g2')]; simp)
          have HNe : Hid (putL false l s ≠ []) := Lib.hid (by rw [← HE.out]; simp)
          clear g1' g2' hdr hx
          go_wp2
          go_region_law (first
            | (refine step_addG (f := fS) (w0 := wr) rfl (.tmp 39) (.tmp 42) 30 rfl 9 Tryd.underlying30 _ _ infoS rfl (fun _ => rfl) (.slice (some ⟨wr.heap.size, 0, none⟩) 0 0) [] rfl (by repeat (first | assumption | exact emptyAt _ _ (by repeat (first | exact Below.refl _ _ | refine Below.drew ?_ | refine Below.alloc ?_ (by simp) _)) _ (by simp) | refine BldG.drew1 ?_ | refine BldG.alloc ?_ _)) ⟨b, off, none⟩ (k) _ (l.take (k)) rfl HTk.out (RowAt.news ((HR.out.below (by repeat (first | exact Below.refl _ _ | refine Below.drew ?_ | refine Below.alloc ?_ (by simp) _))).take _)) (by simp; omega) (by simp; omega) ?_; intro v1 w1 hb1 hg1)
            | (refine step_addG (f := fS) (w0 := wr) rfl (.tmp 39) (.tmp 42) 30 rfl 9 Tryd.underlying30 _ _ infoS rfl (fun _ => rfl) (.slice (some ⟨wr.heap.size + 1, 0, none⟩) 0 0) [] rfl (by repeat (first | assumption | exact emptyAt _ _ (by repeat (first | exact Below.refl _ _ | refine Below.drew ?_ | refine Below.alloc ?_ (by simp) _)) _ (by simp) | refine BldG.drew1 ?_ | refine BldG.alloc ?_ _)) ⟨b, off, none⟩ (k) _ (l.take (k)) rfl HTk.out (RowAt.news ((HR.out.below (by repeat (first | exact Below.refl _ _ | refine Below.drew ?_ | refine Below.alloc ?_ (by simp) _))).take _)) (by simp; omega) (by simp; omega) ?_; intro v1 w1 hb1 hg1)
            | (refine step_addG (f := fS) (w0 := wr) rfl (.tmp 43) (.tmp 45) 30 rfl 9 Tryd.underlying30 _ _ infoS rfl (fun _ => rfl) v1 _ rfl (by first | exact hb1 | exact hb1.alloc _ | exact hb1.drew1 | exact (hb1.alloc _).drew1 | exact (hb1.drew1).alloc _) _ 1 1 [s] rfl rfl (newsOne (by first | (simp [fS]; done) | exact hg1.cell (by simp [fS]) (by simp [Value.ownBlock]) | (simp [fS]; exact hg1.cell (by simp [fS]) (by simp [Value.ownBlock])))) (by simp; omega) (by simp; omega) ?_; intro v2 w2 hb2 hg2)
            | (refine step_addG (f := fS) (w0 := wr) rfl (.tmp 46) (.tmp 49) 30 rfl 9 Tryd.underlying30 _ _ infoS rfl (fun _ => rfl) v2 _ rfl (by first | exact hb2 | exact hb2.drew1 | exact hb2.drew1.drew1) _ (l.length - k) _ (l.drop k) rfl HRl.out (HNw.out _ (by first | exact hb2.bel | exact hb2.bel.drew | exact hb2.bel.drew.drew)) (by simp; omega) (by simp; omega) ?_; intro v3 w3 hb3 hg3))
          all_goals
            go_wp2
            go_ret
            obtain ⟨b1, o1, q1, e1, e2, e3, e4⟩ := put_end hb3 HE.out HNe.out
            exact ⟨b1, o1, q1, congrArg Ending.returned e1, e2, e3, e4⟩
        · have g2' := g2
          rw [beq_bs, beq_iff_eq] at g2'
          have HE : Hid (putL false l s = l) := Lib.hid (by
            rw [HP.out, hdr, putL_eq _ g1' g2', ← hdr, List.take_append_drop])
          clear g1' g2' hdr hx
          go_wp2
          go_ret
          exact ⟨b, off, c, by rw [HE.out]; rfl, by rw [HE.out]; exact HR.out, by rw [HE.out]; exact hc, Below.refl _ _⟩
      · have g1' := g1
        rw [less_bs, decide_eq_true_eq] at g1'
        have H : Hid (putL false l s = l.take (k + 1) ++ putL false (l.drop (k + 1)) s) := Lib.hid (by
          rw [HP.out, hdr, putL_lt false _ g1', List.take_succ_eq_append_getElem hlt, ← hx]; simp)
        clear g1' hdr hx
        go_wp2
        go_roundw
        case rel => exact ⟨k + 1, by omega, by go_num, H.out, trivial⟩
        case measure => simp [intOf]; omega
    · obtain rfl : k = l.length := by omega
      have HTk : Hid ((l.take l.length).length = l.length) := Lib.hid (by rw [List.length_take]; omega)
      have HRl : Hid (([] : List ByteArray).length = 0) := Lib.hid rfl
      have HE : Hid (([] ++ l.take l.length) ++ [s] ++ [] = putL false l s) := Lib.hid (by
        rw [HP.out, List.drop_length, putL_nil]; simp)
      have HNe : Hid (putL false l s ≠ []) := Lib.hid (by rw [← HE.out]; simp)
      obtain rfl | hne := Decidable.em (c = l.length)
      · skip
        go_wp2
        go_region_law (first
          | (refine step_addG (f := fS) (w0 := wr) rfl (.tmp 39) (.tmp 42) 30 rfl 9 Tryd.underlying30 _ _ infoS rfl (fun _ => rfl) (.slice (some ⟨wr.heap.size, 0, none⟩) 0 0) [] rfl (by repeat (first | assumption | exact emptyAt _ _ (by repeat (first | exact Below.refl _ _ | refine Below.drew ?_ | refine Below.alloc ?_ (by simp) _)) _ (by simp) | refine BldG.drew1 ?_ | refine BldG.alloc ?_ _)) ⟨b, off, none⟩ (l.length) _ (l.take (l.length)) rfl HTk.out (RowAt.news ((HR.out.below (by repeat (first | exact Below.refl _ _ | refine Below.drew ?_ | refine Below.alloc ?_ (by simp) _))).take _)) (by simp; omega) (by simp; omega) ?_; intro v1 w1 hb1 hg1)
          | (refine step_addG (f := fS) (w0 := wr) rfl (.tmp 39) (.tmp 42) 30 rfl 9 Tryd.underlying30 _ _ infoS rfl (fun _ => rfl) (.slice (some ⟨wr.heap.size + 1, 0, none⟩) 0 0) [] rfl (by repeat (first | assumption | exact emptyAt _ _ (by repeat (first | exact Below.refl _ _ | refine Below.drew ?_ | refine Below.alloc ?_ (by simp) _)) _ (by simp) | refine BldG.drew1 ?_ | refine BldG.alloc ?_ _)) ⟨b, off, none⟩ (l.length) _ (l.take (l.length)) rfl HTk.out (RowAt.news ((HR.out.below (by repeat (first | exact Below.refl _ _ | refine Below.drew ?_ | refine Below.alloc ?_ (by simp) _))).take _)) (by simp; omega) (by simp; omega) ?_; intro v1 w1 hb1 hg1)
          | (refine step_addG (f := fS) (w0 := wr) rfl (.tmp 43) (.tmp 45) 30 rfl 9 Tryd.underlying30 _ _ infoS rfl (fun _ => rfl) v1 _ rfl (by first | exact hb1 | exact hb1.alloc _ | exact hb1.drew1 | exact (hb1.alloc _).drew1 | exact (hb1.drew1).alloc _) _ 1 1 [s] rfl rfl (newsOne (by first | (simp [fS]; done) | exact hg1.cell (by simp [fS]) (by simp [Value.ownBlock]) | (simp [fS]; exact hg1.cell (by simp [fS]) (by simp [Value.ownBlock])))) (by simp; omega) (by simp; omega) ?_; intro v2 w2 hb2 hg2)
          | (refine step_addG (f := fS) (w0 := wr) rfl (.tmp 46) (.tmp 49) 30 rfl 9 Tryd.underlying30 _ _ infoS rfl (fun _ => rfl) v2 _ rfl (by first | exact hb2 | exact hb2.drew1 | exact hb2.drew1.drew1) _ (0) _ ([]) rfl HRl.out (by intro j y hy; simp at hy) (by simp; omega) (by simp; omega) ?_; intro v3 w3 hb3 hg3))
        all_goals
          go_wp2
          go_ret
          obtain ⟨b1, o1, q1, e1, e2, e3, e4⟩ := put_end hb3 HE.out HNe.out
          exact ⟨b1, o1, q1, congrArg Ending.returned e1, e2, e3, e4⟩
      · skip
        go_wp2
        go_region_law (first
          | (refine step_addG (f := fS) (w0 := wr) rfl (.tmp 39) (.tmp 42) 30 rfl 9 Tryd.underlying30 _ _ infoS rfl (fun _ => rfl) (.slice (some ⟨wr.heap.size, 0, none⟩) 0 0) [] rfl (by repeat (first | assumption | exact emptyAt _ _ (by repeat (first | exact Below.refl _ _ | refine Below.drew ?_ | refine Below.alloc ?_ (by simp) _)) _ (by simp) | refine BldG.drew1 ?_ | refine BldG.alloc ?_ _)) ⟨b, off, none⟩ (l.length) _ (l.take (l.length)) rfl HTk.out (RowAt.news ((HR.out.below (by repeat (first | exact Below.refl _ _ | refine Below.drew ?_ | refine Below.alloc ?_ (by simp) _))).take _)) (by simp; omega) (by simp; omega) ?_; intro v1 w1 hb1 hg1)
          | (refine step_addG (f := fS) (w0 := wr) rfl (.tmp 39) (.tmp 42) 30 rfl 9 Tryd.underlying30 _ _ infoS rfl (fun _ => rfl) (.slice (some ⟨wr.heap.size + 1, 0, none⟩) 0 0) [] rfl (by repeat (first | assumption | exact emptyAt _ _ (by repeat (first | exact Below.refl _ _ | refine Below.drew ?_ | refine Below.alloc ?_ (by simp) _)) _ (by simp) | refine BldG.drew1 ?_ | refine BldG.alloc ?_ _)) ⟨b, off, none⟩ (l.length) _ (l.take (l.length)) rfl HTk.out (RowAt.news ((HR.out.below (by repeat (first | exact Below.refl _ _ | refine Below.drew ?_ | refine Below.alloc ?_ (by simp) _))).take _)) (by simp; omega) (by simp; omega) ?_; intro v1 w1 hb1 hg1)
          | (refine step_addG (f := fS) (w0 := wr) rfl (.tmp 43) (.tmp 45) 30 rfl 9 Tryd.underlying30 _ _ infoS rfl (fun _ => rfl) v1 _ rfl (by first | exact hb1 | exact hb1.alloc _ | exact hb1.drew1 | exact (hb1.alloc _).drew1 | exact (hb1.drew1).alloc _) _ 1 1 [s] rfl rfl (newsOne (by first | (simp [fS]; done) | exact hg1.cell (by simp [fS]) (by simp [Value.ownBlock]) | (simp [fS]; exact hg1.cell (by simp [fS]) (by simp [Value.ownBlock])))) (by simp; omega) (by simp; omega) ?_; intro v2 w2 hb2 hg2)
          | (refine step_addG (f := fS) (w0 := wr) rfl (.tmp 46) (.tmp 49) 30 rfl 9 Tryd.underlying30 _ _ infoS rfl (fun _ => rfl) v2 _ rfl (by first | exact hb2 | exact hb2.drew1 | exact hb2.drew1.drew1) _ (0) _ ([]) rfl HRl.out (by intro j y hy; simp at hy) (by simp; omega) (by simp; omega) ?_; intro v3 w3 hb3 hg3))
        all_goals
          go_wp2
          go_ret
          obtain ⟨b1, o1, q1, e1, e2, e3, e4⟩ := put_end hb3 HE.out HNe.out
          exact ⟨b1, o1, q1, congrArg Ending.returned e1, e2, e3, e4⟩
end Go.Proofs.YtoijjielnbcphaaDoor

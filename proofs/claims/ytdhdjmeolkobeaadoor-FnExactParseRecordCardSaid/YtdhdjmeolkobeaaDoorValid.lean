/-
  Walks of IsValidRecord (program and reference). Condition: the fields have at most 2^20 bytes.
-/
import Derived.Test.YtdhdjmeolkobeaaDoorIsText
import Derived.Test.YtdhdjmeolkobeaaDoorOpenRec
import Derived.Test.YtdhdjmeolkobeaaDoorShelf
namespace Go.Proofs.YtdhdjmeolkobeaaDoor
open Go.RowKit
set_option linter.unusedVariables false
set_option linter.unusedSimpArgs false
set_option maxRecDepth 100000

def sepB (c : UInt8) : Bool := ((c.toNat : Int) == 124) || ((c.toNat : Int) == 59)
def noSep (c : UInt8) : Bool := !sepB c
def fieldB (s : ByteArray) : Bool := s.data.toList.all noSep && isText s
def validR (s k v : Int) (l : List ByteArray) : Bool := inB s 0 3 && (inB k 1 99 && (inB v 1 999 && (decide (l.length = 4) && l.all fieldB)))
theorem indexAny_any (cs : List UInt8) : ∀ l : List UInt8, decide (0 ≤ Lib.indexAny l cs) = l.any fun b => cs.contains b
  | [] => rfl
  | b :: l => by
    have ih := indexAny_any cs l
    have hge := Lib.indexAny_ge cs l
    have e0 : Lib.indexAny (b :: l) cs = if cs.contains b then 0 else if Lib.indexAny l cs == -1 then -1 else Lib.indexAny l cs + 1 := rfl
    rw [List.any_cons, ← ih, e0]
    cases h : cs.contains b
    · rw [if_neg (by simp)]
      by_cases e : Lib.indexAny l cs = -1
      · rw [if_pos (by simpa using e), e]; rfl
      · rw [if_neg (by simpa using e)]
        simp only [Bool.false_or]
        rw [decide_eq_decide]; omega
    · rw [if_pos rfl]; simp
theorem sep_contains (c : UInt8) : [124, 59].contains c = sepB c := by
  unfold sepB
  rw [Bool.eq_iff_iff]
  simp only [List.contains_cons, List.contains_nil, Bool.or_false, Bool.or_eq_true, beq_iff_eq]
  constructor
  · rintro (h | h) <;> subst h
    · exact Or.inl (by decide)
    · exact Or.inr (by decide)
  · rintro (h | h)
    · exact Or.inl (UInt8.toNat_inj.1 (by show c.toNat = 124; omega))
    · exact Or.inr (UInt8.toNat_inj.1 (by show c.toNat = 59; omega))
theorem containsAny_sep (l : List UInt8) : Lib.containsAny l [124, 59] = !(l.all noSep) := by
  unfold Lib.containsAny
  rw [indexAny_any, List.not_all_eq_any_not]
  congr 1
  funext c
  rw [sep_contains]
  simp [noSep]
theorem isText_ascii {s : ByteArray} (h : isText s = true) : ∀ (j : Nat) b, s.data.toList[j]? = some b → b.toNat < 128 := by
  intro j b hb
  unfold isText at h
  rw [Bool.and_eq_true] at h
  have := List.all_eq_true.1 h.1 b (List.mem_of_getElem? hb)
  unfold rng at this; simp at this; omega
theorem isText_size {s : ByteArray} (h : isText s = true) : s.size ≤ 40 := by
  unfold isText at h
  rw [Bool.and_eq_true] at h
  simpa using h.2
set_option maxHeartbeats 800000 in
theorem l8Field_any (s : ByteArray) (w : World) (hs : s.size ≤ 1048576) :
    Calls Tryd.prog 55 #[.string s] w fun e w' => e = .returned (.bool (fieldB s)) ∧ w = w' := by
  go_enter Tryd.func55, Tryd.ntmps55
  go_wp2
  go_loop [3] (fun i => ∃ k : Nat, k ≤ s.size ∧ i = .int .i64 k ∧ (s.data.toList.take k).all noSep = true) (fun i => s.size - (intOf i).toNat)
  case atStart => exact ⟨0, Nat.zero_le _, rfl, rfl⟩
  case round =>
    obtain ⟨k, hk, rfl, hall⟩ := hrel
    have Hall := Lib.hid hall; clear hall
    by_cases hlt : k < s.size
    · cases h1 : ((s[k].toNat : Int) == 124)
      · cases h2 : ((s[k].toNat : Int) == 59)
        · have H := Lib.hid (all_snoc s k hlt noSep Hall.out (by unfold noSep sepB; rw [h1, h2]; rfl))
          go_wp2
          go_round
          case rel => exact ⟨k + 1, by omega, by go_num, H.out⟩
          case measure => simp [intOf]; omega
        · have H : Hid (fieldB s = false) := Lib.hid (by unfold fieldB; rw [all_no s k hlt noSep (by unfold noSep sepB; rw [h1, h2]; rfl)]; rfl)
          go_wp2
          go_ret
          exact ⟨by rw [H.out]; rfl, rfl⟩
      · have H : Hid (fieldB s = false) := Lib.hid (by unfold fieldB; rw [all_no s k hlt noSep (by unfold noSep sepB; rw [h1]; rfl)]; rfl)
        go_wp2
        go_ret
        exact ⟨by rw [H.out]; rfl, rfl⟩
    · obtain rfl : k = s.size := by omega
      have H : Hid (fieldB s = isText s) := Lib.hid (by have h := Hall.out; rw [take_all] at h; unfold fieldB; rw [h]; rfl)
      go_wp2_with (go_at_call 79; refine (specIsText s _ hs).mono ?_; rintro e w' ⟨rfl, rfl⟩)
      go_ret
      exact ⟨by rw [H.out]; rfl, rfl⟩
set_option maxHeartbeats 800000 in
theorem isField_any (s : ByteArray) (w : World) (hs : s.size ≤ 1048576) :
    Calls Tryd.prog 58 #[.string s] w fun e w' => e = .returned (.bool (fieldB s)) ∧ Below w.heap.size w w' := by
  cases ht : isText s
  · have H : Hid (fieldB s = false) := Lib.hid (by unfold fieldB; rw [ht]; simp)
    go_enter Tryd.func58, Tryd.ntmps58
    go_wp2_with (go_at_call 81; refine (implIsText s _ hs).mono ?_; rintro e w' ⟨rfl, rfl⟩)
    go_ret
    exact ⟨by rw [H.out]; rfl, Below.refl _ _⟩
  · have ha := isText_ascii ht
    have H : Hid (Lib.containsAny s.data.toList (⟨#[124, 59]⟩ : ByteArray).data.toList = !fieldB s) := Lib.hid (by
      rw [show (⟨#[124, 59]⟩ : ByteArray).data.toList = [124, 59] from rfl, containsAny_sep]; unfold fieldB; rw [ht]; simp)
    have Ha := Lib.hid ha; clear ha
    go_enter Tryd.func58, Tryd.ntmps58
    go_wp2_with (first
      | (go_at_call 81; refine (implIsText s _ hs).mono ?_; rintro e w' ⟨rfl, rfl⟩)
      | (go_at_call 82; refine (Tryd.strings_ContainsAny_laid s _ _ (by omega) (by decide) Ha.out ?hc).mono ?_; (case hc => (intro j b hb; match j, hb with | 0, hb => (simp at hb; subst hb; decide) | 1, hb => (simp at hb; subst hb; decide) | (j + 2), hb => (simp at hb))); rintro e w' ⟨rfl, hb⟩; rw [H.out]))
    go_ret
    exact ⟨by simp, hb⟩
theorem callFunc_valid (args : Array Value) (w : World) : (callFunc 57 args).run Tryd.prog w = .ok (.enter 57 args) w := by kernel_rfl
theorem notField_any (s : ByteArray) (w : World) (hs : s.size ≤ 1048576) :
    Calls Tryd.prog 57 #[.string s] w fun e w' => e = .returned (.bool (!fieldB s)) ∧ Below w.heap.size w w' := by
  go_enter Tryd.func57, Tryd.ntmps57
  go_wp2_with (go_at_call 58; refine (isField_any s _ hs).mono ?_; rintro e w' ⟨rfl, hb⟩)
  go_ret
  exact ⟨rfl, hb⟩
/-- -1, or a place. -/
def IdxZ (b : Bool) (z : Int) : Prop := (b = true → 0 ≤ z) ∧ (b = false → z = -1)
def IdxEnd (b : Bool) (w : World) (e : Ending) (w' : World) : Prop := ∃ z : Int, e = .returned (.int .i64 z) ∧ IdxZ b z ∧ Below w.heap.size w w'
set_option maxHeartbeats 800000 in
theorem indexFunc_any (C : Nat) (p : ByteArray → Bool) (hcf : ∀ (args : Array Value) (w : World), (callFunc C args).run Tryd.prog w = .ok (.enter C args) w)
    (hby : Hid (∀ (x : ByteArray) (w : World), x.size ≤ 1048576 → Calls Tryd.prog C #[.string x] w fun e w' => e = .returned (.bool (p x)) ∧ Below w.heap.size w w'))
    (a : Option Addr) (c : Nat) (l : List ByteArray) (w : World) (hr : RowAt fS w a l) (hl : l.length ≤ 9223372036854775807) (hs : Hid (∀ k (h : k < l.length), l[k].size ≤ 1048576)) :
    Calls Tryd.prog 80 #[.slice a l.length c, .func (.func C) #[] #[]] w (IdxEnd (l.any p) w) := by
  have Hr := Lib.hid hr; clear hr
  go_enter Tryd.func80, Tryd.ntmps80
  go_wp2
  go_loopw [8] (fun i wr => ∃ k : Nat, k ≤ l.length ∧ i = .int .i64 k ∧ (l.take k).any p = false ∧ Below w.heap.size w wr) (fun i _ => l.length - (intOf i).toNat)
  case atStart => exact ⟨0, Nat.zero_le _, rfl, rfl, Below.refl _ _⟩
  case round =>
    obtain ⟨k, hk, rfl, hno, hb⟩ := hrel
    have Hno := Lib.hid hno; clear hno
    by_cases hlt : k < l.length
    · obtain ⟨b, off, rfl, hc⟩ := (Hr.out.below hb).cell k hlt
      have hsz := hs.out k hlt
      have hx : l.any p = true ↔ (p l[k] = true ∨ (l.take k).any p = true ∨ (l.drop (k + 1)).any p = true) := by
        have e : l = l.take k ++ l[k] :: l.drop (k + 1) := by rw [← List.drop_eq_getElem_cons hlt, List.take_append_drop]
        conv => lhs; rw [e]
        rw [List.any_append, List.any_cons]
        simp only [Bool.or_eq_true]
        constructor
        · rintro (h | h | h) <;> simp [h]
        · rintro (h | h | h) <;> simp [h]
      have hn : (l.take (k + 1)).any p = p l[k] := by
        rw [List.take_succ_eq_append_getElem hlt, List.any_append, Hno.out]; simp
      obtain ⟨x, hx0⟩ : ∃ x, x = l[k] := ⟨_, rfl⟩
      rw [← hx0] at hc hsz hx hn
      have Hx := Lib.hid hx; have Hn := Lib.hid hn
      have Hb := Lib.hid hb
      clear hx0 hx hn hb
      unfold fS at hc
      go_wp2_with fail
      refine (hby.out x _ hsz).mono ?_
      rintro e w2 ⟨rfl, hb2⟩
      cases hp : p x
      · have HN : Hid ((l.take (k + 1)).any p = false) := Lib.hid (by rw [Hn.out, hp])
        have HB := Lib.hid (Hb.out.trans (hb2.mono Hb.out.size))
        clear hb2
        go_wp2
        go_roundw
        case rel => exact ⟨k + 1, by omega, by go_num, HN.out, HB.out⟩
        case measure => simp [intOf]; omega
      · have HE : Hid (l.any p = true) := Lib.hid (Hx.out.2 (Or.inl hp))
        have HB := Lib.hid (Hb.out.trans (hb2.mono Hb.out.size))
        clear hb2
        go_wp2
        go_ret
        exact ⟨k, rfl, ⟨fun _ => by omega, fun h => by rw [HE.out] at h; cases h⟩, HB.out⟩
    · obtain rfl : k = l.length := by omega
      have HE : Hid (l.any p = false) := Lib.hid (by have h := Hno.out; rwa [List.take_length] at h)
      go_wp2
      go_ret
      exact ⟨-1, rfl, ⟨fun h => (by rw [HE.out] at h; cases h), fun _ => rfl⟩, hb⟩
theorem containsFunc_any (C : Nat) (p : ByteArray → Bool) (hcf : ∀ (args : Array Value) (w : World), (callFunc C args).run Tryd.prog w = .ok (.enter C args) w)
    (hby : Hid (∀ (x : ByteArray) (w : World), x.size ≤ 1048576 → Calls Tryd.prog C #[.string x] w fun e w' => e = .returned (.bool (p x)) ∧ Below w.heap.size w w'))
    (a : Option Addr) (c : Nat) (l : List ByteArray) (w : World) (hr : RowAt fS w a l) (hl : l.length ≤ 9223372036854775807) (hs : Hid (∀ k (h : k < l.length), l[k].size ≤ 1048576)) :
    Calls Tryd.prog 56 #[.slice a l.length c, .func (.func C) #[] #[]] w fun e w' => e = .returned (.bool (l.any p)) ∧ Below w.heap.size w w' := by
  go_enter Tryd.func56, Tryd.ntmps56
  go_wp2_with fail
  refine (indexFunc_any C p hcf hby a c l w hr hl hs).mono ?_
  rintro e w2 ⟨z, rfl, hz, hb⟩
  cases hp : l.any p
  · have := hz.2 hp
    subst this
    go_wp2
    go_ret
    exact ⟨by rw [hp]; rfl, hb⟩
  · have h0 := hz.1 hp
    clear hz
    go_wp2
    go_ret
    exact ⟨by rw [hp]; rfl, hb⟩
theorem validR_s {s k v : Int} {l : List ByteArray} (h : inB s 0 3 = false) : validR s k v l = false := by unfold validR; rw [h]; rfl
theorem validR_k {s k v : Int} {l : List ByteArray} (h : inB k 1 99 = false) : validR s k v l = false := by unfold validR; rw [h]; simp
theorem validR_v {s k v : Int} {l : List ByteArray} (h : inB v 1 999 = false) : validR s k v l = false := by unfold validR; rw [h]; simp
theorem validR_n {s k v : Int} {l : List ByteArray} (h : ((l.length : Int) == 4) = false) : validR s k v l = false := by
  unfold validR; rw [show decide (l.length = 4) = false from decide_eq_false fun e => by rw [e] at h; cases h]; simp
theorem validR_f {s k v : Int} {l : List ByteArray} (h : l.all fieldB = false) : validR s k v l = false := by unfold validR; rw [h]; simp
theorem validR_yes {s k v : Int} {l : List ByteArray} (h1 : inB s 0 3 = true) (h2 : inB k 1 99 = true) (h3 : inB v 1 999 = true) (h4 : ((l.length : Int) == 4) = true) : validR s k v l = l.all fieldB := by
  have h5 : l.length = 4 := by have := beq_iff_eq.1 h4; omega
  unfold validR; rw [h1, h2, h3, decide_eq_true h5]; rfl
set_option maxHeartbeats 2000000 in
theorem implValid (s k v : Int) (a : Option Addr) (c : Nat) (l : List ByteArray) (w : World) (hr : RowAt fS w a l) (hl : l.length ≤ 9223372036854775807) (hs : Hid (∀ k (h : k < l.length), l[k].size ≤ 1048576)) :
    Calls Tryd.prog 36 #[recV s k v a l.length c] w fun e w' => e = .returned (.bool (validR s k v l)) ∧ Below w.heap.size w w' := by
  (try unfold recV)
  have HB : Hid (Below w.heap.size w (w.alloc (.cells #[.int .i64 s, .int .i64 k, .int .i64 v, .slice a l.length c] 27))) := (Below.refl _ _).alloc (Nat.le_refl _) _
  have HR := Lib.hid (hr.below HB.out)
  clear hr
  cases h1 : inB s 0 3
  · have H := Lib.hid (validR_s (k := k) (v := v) (l := l) h1)
    go_enter Tryd.func36, Tryd.ntmps36
    go_wp2_with (go_at_call 40; refine (within_any _ _ _ _).mono ?_; rintro e w' ⟨rfl, rfl⟩)
    go_ret
    exact ⟨by rw [H.out]; rfl, HB.out⟩
  · cases h2 : inB k 1 99
    · have H := Lib.hid (validR_k (s := s) (v := v) (l := l) h2)
      go_enter Tryd.func36, Tryd.ntmps36
      go_wp2_with (go_at_call 40; refine (within_any _ _ _ _).mono ?_; rintro e w' ⟨rfl, rfl⟩)
      go_ret
      exact ⟨by rw [H.out]; rfl, HB.out⟩
    · cases h3 : inB v 1 999
      · have H := Lib.hid (validR_v (s := s) (k := k) (l := l) h3)
        go_enter Tryd.func36, Tryd.ntmps36
        go_wp2_with (go_at_call 40; refine (within_any _ _ _ _).mono ?_; rintro e w' ⟨rfl, rfl⟩)
        go_ret
        exact ⟨by rw [H.out]; rfl, HB.out⟩
      · cases h4 : ((l.length : Int) == 4)
        · have H := Lib.hid (validR_n (s := s) (k := k) (v := v) h4)
          go_enter Tryd.func36, Tryd.ntmps36
          go_wp2_with (go_at_call 40; refine (within_any _ _ _ _).mono ?_; rintro e w' ⟨rfl, rfl⟩)
          go_ret
          exact ⟨by rw [H.out]; rfl, HB.out⟩
        · have H := Lib.hid (validR_yes h1 h2 h3 h4)
          have HA : Hid (l.any (fun x => !fieldB x) = !(l.all fieldB)) := Lib.hid (by rw [List.not_all_eq_any_not])
          have HF := Lib.hid (fun (x : ByteArray) (w : World) (h : x.size ≤ 1048576) => notField_any x w h)
          go_enter Tryd.func36, Tryd.ntmps36
          go_wp2_with (first
            | (go_at_call 40; refine (within_any _ _ _ _).mono ?_; rintro e w' ⟨rfl, rfl⟩)
            | (go_at_call 56; refine (containsFunc_any 57 (fun x => !fieldB x) callFunc_valid HF a c l _ HR.out hl hs).mono ?_; rintro e w' ⟨rfl, hb⟩; rw [HA.out]))
          go_ret
          exact ⟨by rw [H.out]; simp, HB.out.trans (hb.mono HB.out.size)⟩
set_option maxHeartbeats 2000000 in
theorem specValid (s k v : Int) (a : Option Addr) (c : Nat) (l : List ByteArray) (w : World) (hr : RowAt fS w a l) (hl : l.length ≤ 1048576) (hs : Hid (∀ k (h : k < l.length), l[k].size ≤ 1048576)) :
    Calls Tryd.prog 33 #[recV s k v a l.length c] w fun e w' => e = .returned (.bool (validR s k v l)) ∧ Below w.heap.size w w' := by
  (try unfold recV)
  obtain ⟨W0, hW0⟩ : ∃ W0, W0 = w.alloc (.cells #[.int .i64 s, .int .i64 k, .int .i64 v, .slice a l.length c] 27) := ⟨_, rfl⟩
  have hB : Below w.heap.size w W0 := by rw [hW0]; exact (Below.refl _ _).alloc (Nat.le_refl _) _
  have q0 : RecAt W0 w.heap.size s k v a l.length c := by rw [hW0]; exact RecAt.new w _ _ _ _ _ _ _
  obtain ⟨p0, p1, p2, p3⟩ := q0
  have HB := Lib.hid hB; clear hB
  have HR := Lib.hid (hr.below HB.out)
  clear hr
  have HW := Lib.hid hW0; clear hW0
  go_enter Tryd.func33, Tryd.ntmps33
  go_wp2_with fail
  rw [← HW.out]
  go_wp2
  go_loop [3] (fun i => ∃ j : Nat, j ≤ l.length ∧ i = .int .i64 j ∧ (l.take j).all fieldB = true) (fun i => l.length - (intOf i).toNat)
  case atStart => exact ⟨0, Nat.zero_le _, rfl, rfl⟩
  case round =>
    obtain ⟨j, hj, rfl, hall⟩ := hrel
    have Hall := Lib.hid hall; clear hall
    by_cases hlt : j < l.length
    · obtain ⟨b, off, ea, hc⟩ := HR.out.cell j hlt
      have hsz := hs.out j hlt
      have hn : (l.take (j + 1)).all fieldB = fieldB l[j] := by
        rw [List.take_succ_eq_append_getElem hlt, List.all_append, Hall.out]; simp
      have hf : fieldB l[j] = false → l.all fieldB = false := fun h => by
        rw [List.all_eq_false]; exact ⟨l[j], List.getElem_mem hlt, by simp [h]⟩
      obtain ⟨x, hx0⟩ : ∃ x, x = l[j] := ⟨_, rfl⟩
      rw [← hx0] at hc hsz hn hf
      have Hn := Lib.hid hn; have Hf := Lib.hid hf
      clear hx0 hn hf
      unfold fS at hc
      subst ea
      cases hp : fieldB x
      · have H := Lib.hid (validR_f (s := s) (k := k) (v := v) (Hf.out hp))
        go_wp2_with (go_at_call 55; refine (l8Field_any x _ hsz).mono ?_; rintro e w' ⟨rfl, rfl⟩)
        go_ret
        exact ⟨by rw [H.out]; rfl, HB.out⟩
      · have HN : Hid ((l.take (j + 1)).all fieldB = true) := Lib.hid (by rw [Hn.out, hp])
        go_wp2_with (go_at_call 55; refine (l8Field_any x _ hsz).mono ?_; rintro e w' ⟨rfl, rfl⟩)
        go_round
        case rel => exact ⟨j + 1, by omega, by go_num, HN.out⟩
        case measure => simp [intOf]; omega
    · obtain rfl : j = l.length := by omega
      have hall : l.all fieldB = true := by have h := Hall.out; rwa [List.take_length] at h
      have HA := Lib.hid hall
      clear hall
      cases h1 : inB s 0 3
      · have H := Lib.hid (validR_s (k := k) (v := v) (l := l) h1)
        go_wp2_with (go_at_call 41; refine (l1In_any _ _ _ _).mono ?_; rintro e w' ⟨rfl, rfl⟩)
        go_ret
        exact ⟨by rw [H.out]; rfl, HB.out⟩
      · cases h2 : inB k 1 99
        · have H := Lib.hid (validR_k (s := s) (v := v) (l := l) h2)
          go_wp2_with (go_at_call 41; refine (l1In_any _ _ _ _).mono ?_; rintro e w' ⟨rfl, rfl⟩)
          go_ret
          exact ⟨by rw [H.out]; rfl, HB.out⟩
        · cases h3 : inB v 1 999
          · have H := Lib.hid (validR_v (s := s) (k := k) (l := l) h3)
            go_wp2_with (go_at_call 41; refine (l1In_any _ _ _ _).mono ?_; rintro e w' ⟨rfl, rfl⟩)
            go_ret
            exact ⟨by rw [H.out]; rfl, HB.out⟩
          · cases h4 : ((l.length : Int) == 4)
            · have H := Lib.hid (validR_n (s := s) (k := k) (v := v) h4)
              go_wp2_with (go_at_call 41; refine (l1In_any _ _ _ _).mono ?_; rintro e w' ⟨rfl, rfl⟩)
              go_ret
              exact ⟨by rw [H.out]; rfl, HB.out⟩
            · have H : Hid (validR s k v l = true) := Lib.hid ((validR_yes h1 h2 h3 h4).trans HA.out)
              go_wp2_with (go_at_call 41; refine (l1In_any _ _ _ _).mono ?_; rintro e w' ⟨rfl, rfl⟩)
              go_ret
              exact ⟨by rw [H.out]; rfl, HB.out⟩
end Go.Proofs.YtdhdjmeolkobeaaDoor

/-
  Plain laws on texts: marks struck, the parts between spaces, the normal form, initials, and that a normal text stays as it is. No condition.
-/
import Derived.Test.YtdhdjmeolkobeaaDoorChars
import Derived.Test.YtdhdjmeolkobeaaDoorCollapseLaw
import Derived.Lib.Replace
import Derived.Lib.FieldsP
import Derived.Lib.IndexBytes
import Derived.Lib.RuneCount
namespace Go.Proofs.YtdhdjmeolkobeaaDoor
set_option linter.unusedVariables false
set_option linter.unusedSimpArgs false

/-! ### marks -/
def keepB (c : UInt8) : UInt8 := if wordB c then c else 32
def strip (l : List UInt8) : List UInt8 := (l.filter fun c => decide (c ≠ 39)).map keepB
theorem strip_nil : strip [] = [] := rfl
theorem strip_append (a b : List UInt8) : strip (a ++ b) = strip a ++ strip b := by simp [strip]
theorem strip_one_no : strip [39] = [] := by simp [strip]
theorem strip_one {c : UInt8} (h : c ≠ 39) : strip [c] = [keepB c] := by simp [strip, h]
theorem strip_len (l : List UInt8) : (strip l).length ≤ l.length := by
  unfold strip; rw [List.length_map]; exact List.length_filter_le _ _
theorem word_no_39 {c : UInt8} (h : wordB c = true) : c ≠ 39 := by
  rintro rfl; revert h; decide
theorem keepB_word (c : UInt8) : wordB (keepB c) = true ∨ keepB c = 32 := by
  unfold keepB
  cases h : wordB c
  · exact Or.inr rfl
  · exact Or.inl h
/-- a byte of a stripped text -/
def ok1 (c : UInt8) : Bool := wordB c || (c == 32)
theorem strip_ok (l : List UInt8) : ∀ c ∈ strip l, ok1 c = true := by
  intro c hc
  simp only [strip, List.mem_map] at hc
  obtain ⟨d, _, rfl⟩ := hc
  rcases keepB_word d with h | h
  · simp [ok1, h]
  · simp [ok1, h]
theorem ok1_keep {c : UInt8} (h : ok1 c = true) : keepB c = c ∧ c ≠ 39 := by
  unfold ok1 at h
  cases hw : wordB c
  · rw [hw] at h
    have : c = 32 := by simpa using h
    subst this
    exact ⟨by decide, by decide⟩
  · exact ⟨by unfold keepB; rw [hw]; rfl, word_no_39 hw⟩
theorem strip_id : ∀ l : List UInt8, (∀ c ∈ l, ok1 c = true) → strip l = l
  | [], _ => rfl
  | c :: l, h => by
    obtain ⟨h1, h2⟩ := ok1_keep (h c (by simp))
    have ih := strip_id l (fun d hd => h d (List.mem_cons_of_mem _ hd))
    have : strip (c :: l) = strip [c] ++ strip l := strip_append [c] l
    rw [this, strip_one h2, h1, ih]; rfl
theorem strip_strip (l : List UInt8) : strip (strip l) = strip l := strip_id _ (strip_ok l)

/-! the library's word for striking one byte -/
theorem indexByte_cons_ne {b c : UInt8} {l : List UInt8} (h : b ≠ c) : Lib.index (b :: l) [c] = if Lib.index l [c] = -1 then -1 else Lib.index l [c] + 1 := by
  rw [Lib.index_one, Lib.index_one]
  conv => lhs; unfold Lib.indexByte
  rw [if_neg (by simpa using h)]
  by_cases e : Lib.indexByte l c = -1
  · rw [if_pos e, if_pos (by simpa using e)]
  · rw [if_neg e, if_neg (by simpa using e)]
theorem indexByte_cons_eq {c : UInt8} {l : List UInt8} : Lib.index (c :: l) [c] = (0 : Nat) := by
  rw [Lib.index_one]; unfold Lib.indexByte; simp
theorem replaceK_cons {b c : UInt8} (l : List UInt8) (h : b ≠ c) (k : Nat) : Lib.replaceK [c] [] k (b :: l) = b :: Lib.replaceK [c] [] k l := by
  cases k with
  | zero => rfl
  | succ k =>
    have hi := indexByte_cons_ne (l := l) h
    by_cases e : Lib.index l [c] = -1
    · rw [if_pos e] at hi
      rw [Lib.replaceK, Lib.replaceK, if_pos (by simpa using hi), if_pos (by simpa using e)]
    · rw [if_neg e] at hi
      have hge := Lib.index_ge l [c]
      obtain ⟨i, hi2⟩ : ∃ i : Nat, Lib.index l [c] = i := ⟨(Lib.index l [c]).toNat, by omega⟩
      rw [Lib.replaceK_hit _ _ _ _ i hi2, Lib.replaceK_hit _ _ _ _ (i + 1) (by rw [hi, hi2]; rfl)]
      simp
theorem replaceK_filter (c : UInt8) : ∀ l : List UInt8, Lib.replaceK [c] [] (Lib.count l [c]) l = l.filter fun b => decide (b ≠ c)
  | [] => by cases Lib.count [] [c] <;> rfl
  | b :: l => by
    by_cases h : b = c
    · subst h
      rw [Lib.count_cons_eq, Nat.add_comm, Lib.replaceK_hit _ _ _ _ 0 indexByte_cons_eq]
      simp [replaceK_filter b l]
    · rw [Lib.count_cons_ne _ _ _ h, replaceK_cons l h, replaceK_filter c l, List.filter_cons, if_pos (by simpa using h)]
theorem replaceAll_one (c : UInt8) (l : List UInt8) : Lib.replaceAll l [c] [] = l.filter fun b => decide (b ≠ c) := by
  unfold Lib.replaceAll Lib.replace
  rw [if_neg (by simp)]
  have : Lib.replaceNum l [c] (-1) = Lib.count l [c] := by unfold Lib.replaceNum; rw [if_pos (Or.inl (by decide))]
  rw [this, replaceK_filter]

/-! ### parts -/
def cutP (sep : UInt8) : List UInt8 → List UInt8 → List (List UInt8)
  | cur, [] => [cur]
  | cur, c :: l => if c = sep then cur :: cutP sep [] l else cutP sep (cur ++ [c]) l
/-- All parts between separators. -/
def parts (sep : UInt8) (l : List UInt8) : List (List UInt8) := cutP sep [] l
def ne (l : List UInt8) : Bool := !l.isEmpty
def fl (cur l : List UInt8) : List (List UInt8) := (cutP 32 cur l).filter ne
/-- The parts between spaces that hold a byte. -/
def flds (l : List UInt8) : List (List UInt8) := fl [] l
theorem fl_nil : fl [] [] = [] := rfl
theorem fl_end {cur : List UInt8} (h : cur ≠ []) : fl cur [] = [cur] := by
  unfold fl cutP ne; cases cur with
  | nil => exact absurd rfl h
  | cons x l => simp
theorem fl_sp (l : List UInt8) : fl [] (32 :: l) = fl [] l := by
  unfold fl; conv => lhs; unfold cutP
  rw [if_pos rfl, List.filter_cons, if_neg (by simp [ne])]
theorem fl_stop {cur : List UInt8} (h : cur ≠ []) (l : List UInt8) : fl cur (32 :: l) = cur :: fl [] l := by
  unfold fl; conv => lhs; unfold cutP
  rw [if_pos rfl, List.filter_cons, if_pos]
  cases cur with
  | nil => exact absurd rfl h
  | cons x l => simp [ne]
theorem fl_on {c : UInt8} (h : c ≠ 32) (cur l : List UInt8) : fl cur (c :: l) = fl (cur ++ [c]) l := by
  unfold fl; conv => lhs; unfold cutP
  rw [if_neg h]
theorem fl_ne : ∀ (l cur : List UInt8), cur ≠ [] → ∃ x m, fl cur l = x :: m
  | [], cur, h => ⟨cur, [], fl_end h⟩
  | c :: l, cur, h => by
    by_cases e : c = 32
    · subst e; exact ⟨_, _, fl_stop h l⟩
    · rw [fl_on e]; exact fl_ne l _ (by simp)
theorem fl_append (w : List UInt8) (hw : ∀ c ∈ w, c ≠ 32) : ∀ (cur l : List UInt8), fl cur (w ++ l) = fl (cur ++ w) l := by
  induction w with
  | nil => intro cur l; simp
  | cons c w ih =>
    intro cur l
    rw [List.cons_append, fl_on (hw c (by simp)), ih (fun d hd => hw d (List.mem_cons_of_mem _ hd)), List.append_assoc]; rfl
/-- One space between. -/
def joinW : List (List UInt8) → List UInt8
  | [] => []
  | [w] => w
  | w :: v :: ws => w ++ 32 :: joinW (v :: ws)
theorem joinW_cons (w : List UInt8) (ws : List (List UInt8)) : joinW (w :: ws) = w ++ (if ws = [] then [] else 32 :: joinW ws) := by
  cases ws with
  | nil => simp [joinW]
  | cons v ws => rw [if_neg (by simp)]; rfl
theorem collapse_run : ∀ l : List UInt8, (∀ b, (l.foldl colStep ([], b)).1 = joinW (fl [] l)) ∧
    (∀ o, o ≠ [] → (l.foldl colStep (o, true)).1 = o ++ (if fl [] l = [] then [] else 32 :: joinW (fl [] l))) ∧
    (∀ pre cur, cur ≠ [] → (l.foldl colStep (pre ++ cur, false)).1 = pre ++ joinW (fl cur l))
  | [] => ⟨fun b => rfl, fun o ho => by simp [fl_nil], fun pre cur hc => by rw [fl_end hc]; rfl⟩
  | c :: l => by
    obtain ⟨hA, hB, hC⟩ := collapse_run l
    by_cases e : c = 32
    · subst e
      refine ⟨fun b => ?_, fun o ho => ?_, fun pre cur hc => ?_⟩
      · rw [fl_sp, List.foldl_cons]
        show (l.foldl colStep (colStep ([], b) 32)).1 = _
        have : colStep ([], b) 32 = ([], true) := by unfold colStep; simp
        rw [this]; exact hA true
      · rw [fl_sp, List.foldl_cons]
        have : colStep (o, true) 32 = (o, true) := by unfold colStep; simp
        rw [this]; exact hB o ho
      · rw [fl_stop hc, List.foldl_cons, joinW_cons]
        have : colStep (pre ++ cur, false) 32 = (pre ++ cur, true) := by unfold colStep; simp
        rw [this, hB _ (by simp [hc]), List.append_assoc]
    · refine ⟨fun b => ?_, fun o ho => ?_, fun pre cur hc => ?_⟩
      · rw [fl_on e, List.foldl_cons]
        have : colStep ([], b) c = ([] ++ [c], false) := by unfold colStep; simp [e]
        rw [this, hC [] [c] (by simp)]; rfl
      · rw [fl_on e, List.foldl_cons]
        have h1 : colStep (o, true) c = ((o ++ [32]) ++ [c], false) := by unfold colStep; simp [e, ho]
        rw [h1, hC (o ++ [32]) [c] (by simp)]
        obtain ⟨x, m, hx⟩ := fl_ne l ([] ++ [c]) (by simp)
        rw [hx, if_neg (by simp), List.append_assoc]
        rw [show ([c] : List UInt8) = [] ++ [c] from rfl, hx]; rfl
      · rw [fl_on e, List.foldl_cons]
        have h1 : colStep (pre ++ cur, false) c = (pre ++ (cur ++ [c]), false) := by unfold colStep; simp [e, hc]
        rw [h1, hC pre (cur ++ [c]) (by simp)]
/-- One space between the parts: what CollapseSpaces gives. -/
theorem collapse_join (l : List UInt8) : collapse l = joinW (flds l) := (collapse_run l).1 false
/-- a word: some bytes, no space -/
def Word (w : List UInt8) : Prop := w ≠ [] ∧ ∀ c ∈ w, c ≠ 32
theorem fl_word : ∀ (l cur : List UInt8), (∀ c ∈ cur, c ≠ 32) → ∀ w ∈ fl cur l, Word w
  | [], cur, hc, w, hw => by
    by_cases e : cur = []
    · subst e; simp [fl_nil] at hw
    · rw [fl_end e] at hw; simp at hw; subst hw; exact ⟨e, hc⟩
  | c :: l, cur, hc, w, hw => by
    by_cases e : c = 32
    · subst e
      by_cases e2 : cur = []
      · subst e2; rw [fl_sp] at hw; exact fl_word l [] (by simp) w hw
      · rw [fl_stop e2] at hw
        rcases List.mem_cons.1 hw with h | h
        · subst h; exact ⟨e2, hc⟩
        · exact fl_word l [] (by simp) w h
    · rw [fl_on e] at hw
      refine fl_word l _ ?_ w hw
      intro d hd
      rcases List.mem_append.1 hd with h | h
      · exact hc d h
      · simp at h; subst h; exact e
theorem flds_word (l : List UInt8) : ∀ w ∈ flds l, Word w := fl_word l [] (by simp)
theorem fl_mem : ∀ (l cur : List UInt8), ∀ w ∈ fl cur l, ∀ c ∈ w, c ∈ cur ∨ c ∈ l
  | [], cur, w, hw, c, hc => by
    by_cases e : cur = []
    · subst e; simp [fl_nil] at hw
    · rw [fl_end e] at hw; simp at hw; subst hw; exact Or.inl hc
  | d :: l, cur, w, hw, c, hc => by
    by_cases e : d = 32
    · subst e
      by_cases e2 : cur = []
      · subst e2; rw [fl_sp] at hw
        rcases fl_mem l [] w hw c hc with h | h
        · exact Or.inl h
        · exact Or.inr (List.mem_cons_of_mem _ h)
      · rw [fl_stop e2] at hw
        rcases List.mem_cons.1 hw with h | h
        · subst h; exact Or.inl hc
        · rcases fl_mem l [] w h c hc with h | h
          · simp at h
          · exact Or.inr (List.mem_cons_of_mem _ h)
    · rw [fl_on e] at hw
      rcases fl_mem l _ w hw c hc with h | h
      · rcases List.mem_append.1 h with h | h
        · exact Or.inl h
        · simp at h; subst h; exact Or.inr (by simp)
      · exact Or.inr (List.mem_cons_of_mem _ h)
theorem flds_mem {l w : List UInt8} (hw : w ∈ flds l) {c : UInt8} (hc : c ∈ w) : c ∈ l := by
  rcases fl_mem l [] w hw c hc with h | h
  · simp at h
  · exact h
/-- Words joined, parted again. -/
theorem flds_join : ∀ ws : List (List UInt8), (∀ w ∈ ws, Word w) → flds (joinW ws) = ws
  | [], _ => rfl
  | w :: ws, h => by
    obtain ⟨h1, h2⟩ := h w (by simp)
    have ih := flds_join ws (fun v hv => h v (List.mem_cons_of_mem _ hv))
    unfold flds at ih ⊢
    rw [joinW_cons, fl_append w h2]
    by_cases e : ws = []
    · subst e; rw [if_pos rfl]; exact fl_end h1
    · rw [if_neg e, List.nil_append, fl_stop h1, ih]
theorem joinW_mem : ∀ {ws : List (List UInt8)} {c : UInt8}, c ∈ joinW ws → c = 32 ∨ ∃ w ∈ ws, c ∈ w
  | [], c, h => by simp [joinW] at h
  | w :: ws, c, h => by
    rw [joinW_cons, List.mem_append] at h
    rcases h with h | h
    · exact Or.inr ⟨w, by simp, h⟩
    · by_cases e : ws = []
      · subst e; simp at h
      · rw [if_neg e, List.mem_cons] at h
        rcases h with h | h
        · exact Or.inl h
        · rcases joinW_mem h with h | ⟨v, hv, hc⟩
          · exact Or.inl h
          · exact Or.inr ⟨v, List.mem_cons_of_mem _ hv, hc⟩
theorem collapse_collapse (l : List UInt8) : collapse (collapse l) = collapse l := by
  rw [collapse_join (collapse l), collapse_join l, flds_join _ (flds_word l)]

/-! ### the normal form -/
def norm (l : List UInt8) : List UInt8 := collapse (strip (fold l))
/-- small letter, digit or space -/
def ok2 (c : UInt8) : Bool := aln c || (c == 32)
theorem low_low (c : UInt8) : low (low c) = low c := by
  cases h : rng 65 90 c
  · have : low c = c := by unfold low; rw [h]; rfl
    rw [this, this]
  · have e : low c = c + 32 := by unfold low; rw [h]; rfl
    rw [e]
    unfold low
    have : rng 65 90 (c + 32) = false := by
      unfold rng at h ⊢
      simp at h ⊢
      have h2 : (c + 32).toNat = c.toNat + 32 := by
        rw [UInt8.toNat_add]; simp; omega
      simp [UInt8.toNat_add] at *
      omega
    rw [this]; rfl
theorem fold_fold (l : List UInt8) : fold (fold l) = fold l := by
  unfold fold; rw [List.map_map]; apply List.map_congr_left; intro c _; exact low_low c
theorem fold_mem {l : List UInt8} {c : UInt8} (h : c ∈ fold l) : low c = c := by
  simp only [fold, List.mem_map] at h
  obtain ⟨d, _, rfl⟩ := h
  exact low_low d
theorem sf_ok (l : List UInt8) : ∀ c ∈ strip (fold l), ok2 c = true := by
  intro c hc
  simp only [strip, List.mem_map, List.mem_filter] at hc
  obtain ⟨d, ⟨hd, _⟩, rfl⟩ := hc
  unfold keepB
  cases h : wordB d
  · rfl
  · have := aln_of h (fold_mem hd)
    simp [ok2, this]
theorem ok2_ok1 {c : UInt8} (h : ok2 c = true) : ok1 c = true := by
  unfold ok2 at h; unfold ok1
  cases ha : aln c
  · rw [ha] at h; simp at h; subst h; rfl
  · unfold aln at ha; unfold wordB
    cases h1 : rng 97 122 c <;> cases h2 : rng 48 57 c <;> simp [h1, h2] at ha ⊢
theorem ok2_low {c : UInt8} (h : ok2 c = true) : low c = c := by
  unfold ok2 at h
  cases ha : aln c
  · rw [ha] at h; simp at h; subst h; decide
  · exact low_aln ha
theorem norm_flds (l : List UInt8) : norm l = joinW (flds (strip (fold l))) := collapse_join _
theorem norm_ok (l : List UInt8) : ∀ c ∈ norm l, ok2 c = true := by
  intro c hc
  rw [norm_flds] at hc
  rcases joinW_mem hc with h | ⟨w, hw, h⟩
  · subst h; rfl
  · exact sf_ok l c (flds_mem hw h)
theorem norm_ascii (l : List UInt8) : ∀ c ∈ norm l, c.toNat < 128 := by
  intro c hc
  have := norm_ok l c hc
  unfold ok2 aln rng at this
  simp at this
  rcases this with h | h
  · omega
  · subst h; decide
theorem fold_ok2 : ∀ {l : List UInt8}, (∀ c ∈ l, ok2 c = true) → fold l = l
  | [], _ => rfl
  | c :: l, h => by
    have ih := fold_ok2 (l := l) (fun d hd => h d (List.mem_cons_of_mem _ hd))
    show low c :: fold l = c :: l
    rw [ok2_low (h c (by simp)), ih]
theorem strip_ok2 {l : List UInt8} (h : ∀ c ∈ l, ok2 c = true) : strip l = l := strip_id l fun c hc => ok2_ok1 (h c hc)
theorem norm_ok2 {l : List UInt8} (h : ∀ c ∈ l, ok2 c = true) : norm l = collapse l := by unfold norm; rw [fold_ok2 h, strip_ok2 h]
theorem norm_norm (l : List UInt8) : norm (norm l) = norm l := by
  rw [norm_ok2 (norm_ok l), norm_flds, collapse_join, flds_join _ (flds_word _)]
theorem norm_len (l : List UInt8) : (norm l).length ≤ l.length := by
  have h1 := collapse_len (strip (fold l))
  have h2 := strip_len (fold l)
  have h3 : (fold l).length = l.length := by simp [fold]
  unfold norm; omega
/-- The words of a normal text. -/
theorem flds_norm (l : List UInt8) : flds (norm l) = flds (strip (fold l)) := by rw [norm_flds, flds_join _ (flds_word _)]

/-! ### initials -/
def iniA : Bool → List UInt8 → List UInt8
  | _, [] => []
  | b, c :: l => if b then c :: iniA (c == 32) l else iniA (c == 32) l
theorem iniA_f (c : UInt8) (l : List UInt8) : iniA false (c :: l) = iniA (c == 32) l := rfl
theorem iniA_t (c : UInt8) (l : List UInt8) : iniA true (c :: l) = c :: iniA (c == 32) l := rfl
def ini (l : List UInt8) : List UInt8 := iniA true l
theorem iniA_word : ∀ (w l : List UInt8), (∀ c ∈ w, c ≠ 32) → iniA false (w ++ l) = iniA false l
  | [], l, _ => rfl
  | c :: w, l, h => by
    have : (c == 32) = false := by simpa using h c (by simp)
    show iniA false (c :: (w ++ l)) = _
    rw [iniA_f, this, iniA_word w l (fun d hd => h d (List.mem_cons_of_mem _ hd))]
theorem iniA_one {w : List UInt8} (h : Word w) (l : List UInt8) : iniA true (w ++ l) = w.getD 0 0 :: iniA false l := by
  obtain ⟨h1, h2⟩ := h
  cases w with
  | nil => exact absurd rfl h1
  | cons c w =>
    have : (c == 32) = false := by simpa using h2 c (by simp)
    show iniA true (c :: (w ++ l)) = _
    rw [iniA_t, this, iniA_word w l (fun d hd => h2 d (List.mem_cons_of_mem _ hd))]; rfl
theorem ini_join : ∀ ws : List (List UInt8), (∀ w ∈ ws, Word w) → ini (joinW ws) = ws.map fun w => w.getD 0 0
  | [], _ => rfl
  | w :: ws, h => by
    have hw := h w (by simp)
    have ih := ini_join ws (fun v hv => h v (List.mem_cons_of_mem _ hv))
    unfold ini at ih ⊢
    rw [joinW_cons, iniA_one hw, List.map_cons]
    congr 1
    by_cases e : ws = []
    · subst e; rfl
    · rw [if_neg e, iniA_f]; exact ih
theorem ini_norm (l : List UInt8) : ini (norm l) = (flds (norm l)).map fun w => w.getD 0 0 := by
  rw [flds_norm, norm_flds, ini_join _ (flds_word _)]
theorem iniA_snoc : ∀ (l : List UInt8) (b : Bool) (c : UInt8), iniA b (l ++ [c]) = iniA b l ++ (if (if l = [] then b else l.getLast? == some 32) then [c] else [])
  | [], b, c => by cases b <;> simp [iniA]
  | d :: l, b, c => by
    have ih := iniA_snoc l (d == 32) c
    show iniA b (d :: (l ++ [c])) = _
    have e : (if l = [] then (d == 32) else (l.getLast? == some 32)) = ((d :: l).getLast? == some 32) := by
      cases l with
      | nil => simp
      | cons y l => simp [List.getLast?_cons]
    rw [if_neg (show ¬ (d :: l) = [] by simp), ← e]
    cases b
    · rw [iniA_f, iniA_f, ih]
    · rw [iniA_t, iniA_t, ih]; rfl
theorem ini_len (l : List UInt8) : (ini l).length ≤ l.length := by
  have : ∀ (l : List UInt8) (b : Bool), (iniA b l).length ≤ l.length := by
    intro l
    induction l with
    | nil => intro b; cases b <;> simp [iniA]
    | cons c l ih => intro b; have := ih (c == 32); cases b <;> simp [iniA] <;> omega
  exact this l true

/-! ### the library's word for the fields -/
theorem spans_run (l : List UInt8) (ha : ∀ c ∈ l, c.toNat < 128) (p : Nat → Bool) (hp : ∀ n, p n = (n == 32)) :
    ∀ (f pos : Nat) (st : Option Nat) (acc : List (Nat × Nat)) (cur : List UInt8), l.length ≤ pos + f → pos ≤ l.length →
      (match st with | none => cur = [] | some a => a < pos ∧ cur = (l.drop a).take (pos - a)) →
      ((Lib.closeSpans (bstr l) (Lib.spansFromP p (bstr l) f pos st acc)).map fun x => (bstr l).extract x.1 x.2) =
        (acc.map fun x => (bstr l).extract x.1 x.2) ++ (fl cur (l.drop pos)).map bstr := by
  intro f
  induction f with
  | zero =>
    intro pos st acc cur hf hps hst
    have e : pos = l.length := by omega
    subst e
    rw [List.drop_length]
    cases st with
    | none =>
      subst hst
      simp [Lib.spansFromP, Lib.closeSpans, fl_nil]
    | some a =>
      obtain ⟨h1, h2⟩ := hst
      have hne : cur ≠ [] := by
        intro e
        have := congrArg List.length h2
        rw [e] at this
        simp at this
        omega
      rw [fl_end hne]
      simp only [Lib.spansFromP, Lib.closeSpans, List.map_append, List.map_cons, List.map_nil]
      rw [bstr_extract, bstr_size, h2]
  | succ f ih =>
    intro pos st acc cur hf hps hst
    by_cases hlt : pos < l.length
    · have hsz : pos < (bstr l).size := by rw [bstr_size]; exact hlt
      obtain ⟨x, hx⟩ : ∃ x, x = l[pos] := ⟨_, rfl⟩
      have hb : (bstr l)[pos] = x := hx.symm
      have hdec : Utf8.decode (bstr l) pos = (x.toNat, 1) := by
        have := decode_ascii (bstr l) pos hsz (by rw [hb, hx]; exact ha _ (List.getElem_mem hlt))
        rw [this, hb]
      have hdrop : l.drop pos = x :: l.drop (pos + 1) := by rw [List.drop_eq_getElem_cons hlt, hx]; rfl
      rw [hdrop]
      unfold Lib.spansFromP
      rw [if_pos hsz, hdec, hp]
      by_cases e : x = 32
      · have e2 : (x.toNat == 32) = true := by rw [e]; rfl
        simp only [e2, if_true]
        cases st with
        | none =>
          subst hst
          rw [e, fl_sp]
          exact ih (pos + 1) none acc [] (by omega) (by omega) rfl
        | some a =>
          obtain ⟨h1, h2⟩ := hst
          have hne : cur ≠ [] := by
            intro e
            have := congrArg List.length h2
            rw [e] at this
            simp at this
            omega
          rw [e, fl_stop hne]
          have := ih (pos + 1) none (acc ++ [(a, pos)]) [] (by omega) (by omega) rfl
          simp only [] at this ⊢
          rw [this, List.map_append, List.map_cons, List.map_nil, List.append_assoc, List.map_cons, bstr_extract, h2]
          rfl
      · have e2 : (x.toNat == 32) = false := by
          rw [beq_eq_false_iff_ne]; intro h; exact e (UInt8.toNat_inj.1 h)
        simp only [e2, if_false, Bool.false_eq_true]
        rw [fl_on e]
        cases st with
        | none =>
          subst hst
          refine ih (pos + 1) (some pos) acc ([] ++ [x]) (by omega) (by omega) ⟨by omega, ?_⟩
          rw [hdrop, show pos + 1 - pos = 0 + 1 from by omega, List.take_succ_cons]; rfl
        | some a =>
          obtain ⟨h1, h2⟩ := hst
          refine ih (pos + 1) (some a) acc (cur ++ [x]) (by omega) (by omega) ⟨by omega, ?_⟩
          have h3 : pos - a < (l.drop a).length := by simp; omega
          rw [show pos + 1 - a = (pos - a) + 1 from by omega, List.take_succ_eq_append_getElem h3, ← h2, hx]
          simp [show a + (pos - a) = pos from by omega]; rfl
    · have e : pos = l.length := by omega
      have := ih pos st acc cur (by omega) hps hst
      rw [← this]
      have h0 : ¬ pos < (bstr l).size := by rw [bstr_size]; omega
      rw [Lib.spansFromP_end _ _ _ _ _ _ h0, Lib.spansFromP_end _ _ _ _ _ _ h0]
theorem goFields_flds (l : List UInt8) (ha : ∀ c ∈ l, c.toNat < 128) (p : Nat → Bool) (hp : ∀ n, p n = (n == 32)) : Lib.goFieldsP p (bstr l) = (flds l).map bstr := by
  unfold Lib.goFieldsP Lib.spansOfP
  rw [spans_run l ha p hp (bstr l).size 0 none [] [] (by rw [bstr_size]; omega) (Nat.zero_le _) rfl]
  rfl
end Go.Proofs.YtdhdjmeolkobeaaDoor

/- Files as text: what they are written as, what is read from a text, and that the one is the other's way back: plain lists. It states nothing about the program. No condition. -/
import Derived.Test.YtmligbaalbbgiabGreatDoorEntryL
import Derived.Test.YtmligbaalbbgiabGreatDoorEntryF
namespace Go.Proofs.YtmligbaalbbgiabGreatDoor
open Go.RowKit

/-- A file as it is read: it lies nowhere. -/
def FileD.bare (x : FileD) : FileD := { name := x.name, size := x.size, cA := none, cc := 0, cells := x.cells }
def numsL (l : List Int) : List UInt8 := l.flatMap fun k => 32 :: Lib.itoa k
def lineL (x : FileD) : List UInt8 := bl x.name ++ 32 :: (Lib.itoa x.size ++ numsL x.cells)
def printL (l : List FileD) : List UInt8 := l.flatMap fun x => lineL x ++ [10]
theorem printL_cons (x : FileD) (l : List FileD) : printL (x :: l) = lineL x ++ 10 :: printL l := by simp [printL]
theorem printL_snoc (l : List FileD) (x : FileD) : printL (l ++ [x]) = printL l ++ (lineL x ++ [10]) := by simp [printL]
theorem numsL_snoc (l : List Int) (k : Int) : numsL (l ++ [k]) = numsL l ++ 32 :: Lib.itoa k := by simp [numsL]
/-- What a file's own facts are. -/
structure GoodF (x : FileD) : Prop where
  nm : nameB (bl x.name) = true
  s0 : 0 ≤ x.size
  s1 : x.size ≤ 1920
  len : x.cells.length = needN x.size.toNat
  cs : ∀ k ∈ x.cells, 3 ≤ k ∧ k < 24
theorem okCells_some {seen l s : List Int} (h : okCells seen l = some s) (hn : seen.Nodup) : s = seen ++ l ∧ (seen ++ l).Nodup ∧ ∀ k ∈ l, 3 ≤ k ∧ k < 24 := by
  induction l generalizing seen with
  | nil =>
    simp only [okCells] at h
    injection h with h
    exact ⟨by rw [h, List.append_nil], by rw [List.append_nil]; exact hn, fun k hk => by cases hk⟩
  | cons k r ih =>
    simp only [okCells] at h
    split at h
    · cases h
    · rename_i hc
      have h1 : k ∉ seen := fun e => hc (.inr (.inr e))
      obtain ⟨a, b, c⟩ := ih h (by
        rw [List.nodup_append]
        exact ⟨hn, (by simp), fun x hx y hy => by rw [List.mem_singleton.1 hy]; exact fun e => h1 (e ▸ hx)⟩)
      rw [List.append_assoc] at a b
      refine ⟨a, b, fun x hx => ?_⟩
      rcases List.mem_cons.1 hx with e | e
      · subst e; omega
      · exact c x e
theorem okFile_good {prev : Option ByteArray} {x : FileD} (h : okFile prev x = true) : nameB (bl x.name) = true ∧ 0 ≤ x.size ∧ x.size ≤ 1920 ∧ x.cells.length = needN x.size.toNat := by
  unfold okFile at h
  simp only [Bool.and_eq_true, decide_eq_true_eq] at h
  obtain ⟨⟨⟨⟨h1, -⟩, h3⟩, h4⟩, h5⟩ := h
  exact ⟨h1, h3, h4, h5⟩
/-- The cells of all. -/
def allCells (l : List FileD) : List Int := l.flatMap (·.cells)
theorem okFiles_good {prev : Option ByteArray} {seen : List Int} {l : List FileD} (h : okFiles prev seen l = true) (hn : seen.Nodup) : (∀ x ∈ l, GoodF x) ∧ (seen ++ allCells l).Nodup := by
  induction l generalizing prev seen with
  | nil => exact ⟨fun x hx => (by cases hx), by simpa [allCells] using hn⟩
  | cons x r ih =>
    simp only [okFiles, Bool.and_eq_true] at h
    obtain ⟨h1, h2⟩ := h
    cases hc : okCells seen x.cells with
    | none => rw [hc] at h2; cases h2
    | some s =>
      rw [hc] at h2
      obtain ⟨a, b, c⟩ := okCells_some hc hn
      subst a
      obtain ⟨d, e⟩ := ih h2 b
      obtain ⟨g1, g2, g3, g4⟩ := okFile_good h1
      refine ⟨fun y hy => ?_, by simpa [allCells, List.append_assoc] using e⟩
      rcases List.mem_cons.1 hy with e | e
      · subst e; exact ⟨g1, g2, g3, g4, c⟩
      · exact d y e
theorem right_good {l : List FileD} (h : rightB l = true) : l.length ≤ 8 ∧ (∀ x ∈ l, GoodF x) ∧ (allCells l).Nodup := by
  unfold rightB at h
  simp only [Bool.and_eq_true, decide_eq_true_eq] at h
  obtain ⟨a, b⟩ := okFiles_good h.2 List.nodup_nil
  exact ⟨h.1, a, by simpa using b⟩
theorem okFiles_take {prev : Option ByteArray} {seen : List Int} {l : List FileD} (h : okFiles prev seen l = true) (k : Nat) : okFiles prev seen (l.take k) = true := by
  induction l generalizing prev seen k with
  | nil => simpa using h
  | cons x r ih =>
    cases k with
    | zero => rfl
    | succ k =>
      simp only [okFiles, List.take_succ_cons, Bool.and_eq_true] at h ⊢
      refine ⟨h.1, ?_⟩
      have h2 := h.2
      cases hc : okCells seen x.cells with
      | none => rw [hc] at h2; cases h2
      | some s => rw [hc] at h2; exact ih h2 k
theorem right_take {l : List FileD} (h : rightB l = true) (k : Nat) : rightB (l.take k) = true := by
  unfold rightB at h ⊢
  simp only [Bool.and_eq_true, decide_eq_true_eq] at h ⊢
  exact ⟨by rw [List.length_take]; omega, okFiles_take h.2 k⟩
theorem okFiles_bare (prev : Option ByteArray) (seen : List Int) (l : List FileD) : okFiles prev seen (l.map FileD.bare) = okFiles prev seen l := by
  induction l generalizing prev seen with
  | nil => rfl
  | cons x r ih =>
    have e : ∀ s, okFiles (some x.name) s (List.map FileD.bare r) = okFiles (some x.name) s r := fun s => ih _ s
    show (okFile prev x && match okCells seen x.cells with | none => false | some s => okFiles (some x.name) s (List.map FileD.bare r)) = _
    simp only [e]
    rfl
theorem right_bare (l : List FileD) : rightB (l.map FileD.bare) = rightB l := by
  unfold rightB
  rw [okFiles_bare, List.length_map]
theorem printL_bare (l : List FileD) : printL (l.map FileD.bare) = printL l := by
  induction l with
  | nil => rfl
  | cons x r ih => rw [List.map_cons, printL_cons, printL_cons, ih]; rfl

theorem dropWhile_nil {α : Type} {p : α → Bool} {l : List α} (h : l.dropWhile p = []) : ∀ x ∈ l, p x = true := by
  induction l with
  | nil => intro x hx; cases hx
  | cons a r ih =>
    intro x hx
    cases hp : p a with
    | false => rw [List.dropWhile_cons_of_neg (by rw [hp]; simp)] at h; cases h
    | true =>
      rw [List.dropWhile_cons_of_pos hp] at h
      rcases List.mem_cons.1 hx with e | e
      · rw [e]; exact hp
      · exact ih h x e
theorem dropWhile_head {α : Type} {p : α → Bool} {l r : List α} {a : α} (h : l.dropWhile p = a :: r) : p a = false := by
  induction l with
  | nil => cases h
  | cons b t ih =>
    cases hp : p b with
    | false =>
      rw [List.dropWhile_cons_of_neg (by rw [hp]; simp)] at h
      injection h with h1 h2
      rw [← h1]; exact hp
    | true => rw [List.dropWhile_cons_of_pos hp] at h; exact ih h
theorem trimS_nil {l cs : List UInt8} (h : Lib.trimS l cs = []) : ∀ x ∈ l, x ∈ cs := by
  unfold Lib.trimS Lib.trimLeftS Lib.trimRightS at h
  have h1 := dropWhile_nil h
  intro x hx
  cases hc : l.reverse.dropWhile (cs.contains ·) with
  | nil =>
    have := dropWhile_nil hc x (by simpa using hx)
    simpa using this
  | cons a r =>
    have h2 := dropWhile_head hc
    have h3 := h1 a (by rw [hc]; simp)
    rw [h2] at h3
    cases h3
theorem name_mem {l : List UInt8} (h : nameB l = true) : l ≠ [] ∧ l.length ≤ 10 ∧ ∀ c ∈ l, c ∈ lowDig := by
  unfold nameB at h
  simp only [decide_eq_true_eq] at h
  exact ⟨h.1, h.2.1, trimS_nil h.2.2.2⟩
theorem lowDig_no {c : UInt8} (h : c ∈ lowDig) : c ≠ 32 ∧ c ≠ 10 := by
  have : ∀ c ∈ lowDig, c ≠ 32 ∧ c ≠ 10 := by decide
  exact this c h

/-- What a line's numbers are. -/
def numsP : List (List UInt8) → Option (List Int)
  | [] => some []
  | t :: r => match Lib.atoiAll t with
    | .ok v => (numsP r).map (v :: ·)
    | _ => none
def lineP (l : List UInt8) : Option FileD := match cutL 32 l with
  | [] => none
  | n :: ws => (numsP ws).map fun v => { name := ofl n, size := v.headD 0, cA := none, cc := 0, cells := v.tail }
def linesP : List (List UInt8) → Option (List FileD)
  | [] => some []
  | t :: r => match lineP t with
    | none => none
    | some x => (linesP r).map (x :: ·)
/-- What is read from a text, ahead of the last test. -/
def readP (s : List UInt8) : Option (List FileD) := if s = [] then some [] else linesP (cutL 10 (Lib.trimSuffix s [10]))
/-- What is read. -/
def parseP (s : List UInt8) : Option (List FileD) := match readP s with
  | none => none
  | some l => if rightB l = true ∧ printL l = s then some l else none

theorem numsP_itoa (l : List Int) (h : ∀ k ∈ l, 0 ≤ k ∧ k ≤ 1920) : numsP (l.map Lib.itoa) = some l := by
  induction l with
  | nil => rfl
  | cons k r ih =>
    have hk := h k (List.mem_cons_self ..)
    rw [List.map_cons, numsP, atoi_itoa k (by omega) (by omega), ih (fun x hx => h x (List.mem_cons_of_mem _ hx))]
    rfl
theorem no32 {n : Int} (h : 0 ≤ n) : (32 : UInt8) ∉ Lib.itoa n := fun hm => by
  have := itoa_digits n h 32 hm
  simp at this
theorem no10 {n : Int} (h : 0 ≤ n) : (10 : UInt8) ∉ Lib.itoa n := fun hm => by
  have := itoa_digits n h 10 hm
  simp at this
theorem cut_nums (a : List UInt8) (ha : (32 : UInt8) ∉ a) (l : List Int) (h : ∀ k ∈ l, 0 ≤ k) : cutL 32 (a ++ numsL l) = a :: l.map Lib.itoa := by
  induction l generalizing a with
  | nil => simpa [numsL] using cutL_none 32 a ha
  | cons k r ih =>
    have e : numsL (k :: r) = 32 :: (Lib.itoa k ++ numsL r) := by simp [numsL]
    rw [e, cutL_app 32 a _ ha, ih _ (no32 (h k (List.mem_cons_self ..))) (fun x hx => h x (List.mem_cons_of_mem _ hx))]
    rfl
theorem cut_line {x : FileD} (h : GoodF x) : cutL 32 (lineL x) = bl x.name :: (x.size :: x.cells).map Lib.itoa := by
  have hn : (32 : UInt8) ∉ bl x.name := fun hm => (lowDig_no ((name_mem h.nm).2.2 _ hm)).1 rfl
  have e : lineL x = bl x.name ++ numsL (x.size :: x.cells) := by simp [lineL, numsL]
  rw [e]
  exact cut_nums _ hn _ (fun k hk => by
    rcases List.mem_cons.1 hk with e | e
    · rw [e]; exact h.s0
    · have := h.cs k e; omega)
theorem lineP_line {x : FileD} (h : GoodF x) : lineP (lineL x) = some x.bare := by
  unfold lineP
  rw [cut_line h]
  simp only
  rw [numsP_itoa _ (fun k hk => by
    rcases List.mem_cons.1 hk with e | e
    · rw [e]; exact ⟨h.s0, h.s1⟩
    · have := h.cs k e; omega)]
  simp [FileD.bare, ofl_bl]
theorem line_no10 {x : FileD} (h : GoodF x) : (10 : UInt8) ∉ lineL x := by
  intro hm
  unfold lineL at hm
  rcases List.mem_append.1 hm with e | e
  · exact (lowDig_no ((name_mem h.nm).2.2 _ e)).2 rfl
  · rcases List.mem_cons.1 e with e | e
    · cases e
    · rcases List.mem_append.1 e with e | e
      · exact no10 h.s0 e
      · unfold numsL at e
        obtain ⟨k, hk, e⟩ := List.mem_flatMap.1 e
        rcases List.mem_cons.1 e with e | e
        · cases e
        · exact no10 (by have := h.cs k hk; omega) e
theorem linesP_lines (l : List FileD) (h : ∀ x ∈ l, GoodF x) : linesP (l.map lineL) = some (l.map FileD.bare) := by
  induction l with
  | nil => rfl
  | cons x r ih =>
    rw [List.map_cons, linesP, lineP_line (h x (List.mem_cons_self ..)), ih (fun y hy => h y (List.mem_cons_of_mem _ hy))]
    rfl
theorem cut_print (l : List FileD) (h : ∀ x ∈ l, GoodF x) : cutL 10 (printL l) = l.map lineL ++ [[]] := by
  induction l with
  | nil => rfl
  | cons x r ih =>
    rw [printL_cons, cutL_app 10 _ _ (line_no10 (h x (List.mem_cons_self ..))), ih (fun y hy => h y (List.mem_cons_of_mem _ hy))]
    rfl
theorem trimSuffix_snoc (l : List UInt8) : Lib.trimSuffix (l ++ [10]) [10] = l := by
  have : Lib.hasSuffix (l ++ [10]) [10] = true := by
    unfold Lib.hasSuffix
    simp
  unfold Lib.trimSuffix
  rw [if_pos this]
  simp
theorem print_end {l : List FileD} (h : l ≠ []) : ∃ t, printL l = t ++ [10] := by
  obtain ⟨r, x, rfl⟩ : ∃ r x, l = r ++ [x] := ⟨l.dropLast, l.getLast h, (List.dropLast_concat_getLast h).symm⟩
  exact ⟨printL r ++ lineL x, by rw [printL_snoc, List.append_assoc]⟩
/-- What is written is read. -/
theorem parse_print {l : List FileD} (h : rightB l = true) : parseP (printL l) = some (l.map FileD.bare) := by
  obtain ⟨-, hg, -⟩ := right_good h
  have hr : readP (printL l) = some (l.map FileD.bare) := by
    unfold readP
    cases l with
    | nil => rfl
    | cons x r =>
      obtain ⟨t, ht⟩ := print_end (l := x :: r) (by simp)
      have hc := cut_print _ hg
      rw [ht, cutL_snoc] at hc
      have hc' : cutL 10 t = (x :: r).map lineL := List.append_cancel_right hc
      rw [if_neg (by rw [ht]; simp), ht, trimSuffix_snoc, hc']
      exact linesP_lines _ hg
  unfold parseP
  rw [hr]
  simp only
  rw [if_pos ⟨by rw [right_bare]; exact h, printL_bare l⟩]
theorem parse_some {s : List UInt8} {l : List FileD} (h : parseP s = some l) : rightB l = true ∧ printL l = s := by
  unfold parseP at h
  split at h
  · cases h
  · split at h
    · rename_i hc
      injection h with h
      subst h
      exact hc
    · cases h
/-- What is cut off within a line is none. -/
theorem parse_cut {s : List UInt8} {c : UInt8} (hc : c ≠ 10) : parseP (s ++ [c]) = none := by
  cases h : parseP (s ++ [c]) with
  | none => rfl
  | some l =>
    obtain ⟨-, h2⟩ := parse_some h
    cases l with
    | nil => simp [printL] at h2
    | cons x r =>
      obtain ⟨t, ht⟩ := print_end (l := x :: r) (by simp)
      rw [ht] at h2
      have := List.append_inj_right' h2 rfl
      simp at this
      exact absurd this.symm hc
/-- The first lines are the first files. -/
theorem print_take (l : List FileD) (h : ∀ x ∈ l, GoodF x) (cut : Nat) (hc : cut ≤ (printL l).length) (he : cut = 0 ∨ (printL l)[cut - 1]? = some 10) : (printL l).take cut = printL (l.take (((printL l).take cut).count 10)) := by
  induction l generalizing cut with
  | nil =>
    have : cut = 0 := by simpa [printL] using hc
    subst this
    rfl
  | cons x r ih =>
    rcases Nat.eq_zero_or_pos cut with h0 | h0
    · subst h0; rfl
    · have he' := he.resolve_left (by omega)
      rw [printL_cons] at hc he' ⊢
      have hx := line_no10 (h x (List.mem_cons_self ..))
      by_cases hl : cut ≤ (lineL x).length
      · rw [List.getElem?_append_left (by omega)] at he'
        exact absurd (List.mem_of_getElem? he') hx
      · obtain ⟨m, rfl⟩ : ∃ m, cut = (lineL x).length + 1 + m := ⟨cut - (lineL x).length - 1, by omega⟩
        have e1 : (lineL x ++ 10 :: printL r).take ((lineL x).length + 1 + m) = lineL x ++ 10 :: (printL r).take m := by
          rw [show (lineL x).length + 1 + m = (lineL x).length + (m + 1) by omega, List.take_length_add_append]
          rfl
        have hm : m ≤ (printL r).length := by simp at hc; omega
        have hm2 : m = 0 ∨ (printL r)[m - 1]? = some 10 := by
          rcases Nat.eq_zero_or_pos m with e | e
          · exact .inl e
          · refine .inr ?_
            rw [List.getElem?_append_right (by omega), show (lineL x).length + 1 + m - 1 - (lineL x).length = (m - 1) + 1 by omega, List.getElem?_cons_succ] at he'
            exact he'
        have e2 : (lineL x ++ 10 :: (printL r).take m).count 10 = ((printL r).take m).count 10 + 1 := by
          rw [List.count_append, List.count_eq_zero_of_not_mem hx, List.count_cons_self]
          omega
        rw [e1, e2, List.take_succ_cons, printL_cons, ← ih (fun y hy => h y (List.mem_cons_of_mem _ hy)) m hm hm2]
/-- All of any files fits. -/
theorem numsL_len (l : List Int) (h : ∀ k ∈ l, 0 ≤ k ∧ k < 100) : (numsL l).length ≤ 3 * l.length := by
  induction l with
  | nil => simp [numsL]
  | cons k r ih =>
    have e : numsL (k :: r) = 32 :: (Lib.itoa k ++ numsL r) := by simp [numsL]
    have := h k (List.mem_cons_self ..)
    have h1 := itoa_len k (by omega) 2 (by omega) (by omega)
    have h2 := ih (fun x hx => h x (List.mem_cons_of_mem _ hx))
    rw [e]
    simp only [List.length_cons, List.length_append]
    omega
theorem line_len {x : FileD} (h : GoodF x) : (lineL x).length ≤ 15 + 3 * x.cells.length := by
  have h1 := (name_mem h.nm).2.1
  have h2 := itoa_len x.size h.s0 4 (by have := h.s1; omega) (by omega)
  have h3 := numsL_len x.cells (fun k hk => by have := h.cs k hk; omega)
  unfold lineL
  simp only [List.length_cons, List.length_append]
  omega
theorem print_len (l : List FileD) (h : ∀ x ∈ l, GoodF x) : (printL l).length ≤ 16 * l.length + 3 * (allCells l).length := by
  induction l with
  | nil => simp [printL, allCells]
  | cons x r ih =>
    have h1 := line_len (h x (List.mem_cons_self ..))
    have h2 := ih (fun y hy => h y (List.mem_cons_of_mem _ hy))
    have e : allCells (x :: r) = x.cells ++ allCells r := by simp [allCells]
    rw [printL_cons, e]
    simp only [List.length_cons, List.length_append]
    omega
/-- What nobody has. -/
def cellsL : List Int := [3, 4, 5, 6, 7, 8, 9, 10, 11, 12, 13, 14, 15, 16, 17, 18, 19, 20, 21, 22, 23]
def freeL (l : List FileD) : List Int := cellsL.filter fun k => !(l.any fun x => x.cells.contains k)
theorem mem_cellsL {k : Int} (h : 3 ≤ k ∧ k < 24) : k ∈ cellsL := by
  obtain ⟨m, rfl⟩ := Int.eq_ofNat_of_zero_le (show 0 ≤ k by omega)
  have h1 : 3 ≤ m := by omega
  have h2 : m < 24 := by omega
  have : ∀ m : Fin 24, 3 ≤ m.val → ((m.val : Nat) : Int) ∈ cellsL := by decide
  exact this ⟨m, h2⟩ h1
theorem all_mem {l : List FileD} {k : Int} : (l.any fun x => x.cells.contains k) = true ↔ k ∈ allCells l := by
  simp [allCells]
theorem filter_split (p : Int → Bool) (l : List Int) : (l.filter p).length + (l.filter fun k => !p k).length = l.length := by
  induction l with
  | nil => rfl
  | cons a r ih =>
    cases hp : p a <;> simp [hp] <;> omega
theorem nodup_count {l m : List Int} (hl : l.Nodup) (hm : m.Nodup) (h : ∀ k, k ∈ l ↔ k ∈ m) : l.length = m.length := by
  exact (List.perm_ext_iff_of_nodup hl hm |>.2 h).length_eq
theorem free_count {l : List FileD} (h : rightB l = true) : (allCells l).length + (freeL l).length = 21 := by
  obtain ⟨-, hg, hn⟩ := right_good h
  have h1 := filter_split (fun k => l.any fun x => x.cells.contains k) cellsL
  have h2 : (allCells l).length = (cellsL.filter fun k => l.any fun x => x.cells.contains k).length := by
    refine nodup_count hn (List.Pairwise.filter _ (by decide : cellsL.Nodup)) (fun k => ?_)
    rw [List.mem_filter]
    constructor
    · intro hk
      refine ⟨?_, all_mem.2 hk⟩
      obtain ⟨x, hx, hk'⟩ := List.mem_flatMap.1 hk
      exact mem_cellsL ((hg x hx).cs k hk')
    · exact fun hk => all_mem.1 hk.2
  have h3 : cellsL.length = 21 := rfl
  unfold freeL
  omega
theorem print_fits {l : List FileD} (h : rightB l = true) : (printL l).length ≤ 240 := by
  obtain ⟨h8, hg, -⟩ := right_good h
  have h1 := print_len l hg
  have h2 := free_count h
  omega
theorem free_not {l : List FileD} {x : FileD} {k : Int} (hx : x ∈ l) (hk : k ∈ x.cells) : k ∉ freeL l := by
  intro hm
  unfold freeL at hm
  have h1 := (List.mem_filter.1 hm).2
  have h2 : (l.any fun x => x.cells.contains k) = true := all_mem.2 (List.mem_flatMap.2 ⟨x, hx, hk⟩)
  rw [h2] at h1
  cases h1
end Go.Proofs.YtmligbaalbbgiabGreatDoor

/- What the reference's Right and Parse come to, in plain lists; that they answer as the program's do. It states nothing about the program. No condition. -/
import Derived.Test.YtmligbaalbbgiabGreatDoorReadA
namespace Go.Proofs.YtmligbaalbbgiabGreatDoor
open Go.RowKit

/-- The reference's tests, file by file. -/
def rangeB (ks : List Int) : Bool := ks.all fun k => decide (3 ≤ k ∧ k ≤ 23)
def goR (prev : Option ByteArray) (seen : List Int) (cnt : Nat) : List FileD → Bool
  | [] => decide (seen.length = cnt)
  | x :: r => okFile prev x && (rangeB x.cells && goR (some x.name) (addAll seen x.cells) (cnt + x.cells.length) r)
theorem addAll_nodup {seen ks : List Int} (h : seen.Nodup) : (addAll seen ks).Nodup := by
  induction ks generalizing seen with
  | nil => exact h
  | cons k r ih =>
    rw [addAll]
    by_cases hk : k ∈ seen
    · rw [if_pos hk]; exact ih h
    · rw [if_neg hk]
      refine ih ?_
      rw [List.nodup_append]
      exact ⟨h, by simp, fun x hx y hy => by rw [List.mem_singleton.1 hy]; exact fun e => hk (e ▸ hx)⟩
theorem addAll_le (seen ks : List Int) : (addAll seen ks).length ≤ seen.length + ks.length := by
  induction ks generalizing seen with
  | nil => exact Nat.le_refl _
  | cons k r ih =>
    rw [addAll]
    have := ih (if k ∈ seen then seen else seen ++ [k])
    split at this
    · rename_i hk; rw [if_pos hk]; simp; omega
    · rename_i hk; rw [if_neg hk]; simp at this ⊢; omega
theorem mem_addAll (seen ks : List Int) (x : Int) : x ∈ addAll seen ks ↔ x ∈ seen ∨ x ∈ ks := by
  induction ks generalizing seen with
  | nil => simp [addAll]
  | cons k r ih =>
    rw [addAll, ih]
    by_cases hk : k ∈ seen
    · rw [if_pos hk]
      constructor
      · rintro (h | h)
        · exact .inl h
        · exact .inr (List.mem_cons_of_mem _ h)
      · rintro (h | h)
        · exact .inl h
        · rcases List.mem_cons.1 h with e | e
          · exact .inl (e ▸ hk)
          · exact .inr e
    · rw [if_neg hk]
      simp only [List.mem_append, List.mem_singleton, List.mem_cons, List.not_mem_nil, or_false, or_assoc]
theorem addAll_snoc (seen ks : List Int) (k : Int) : addAll seen (ks ++ [k]) = (if k ∈ addAll seen ks then addAll seen ks else addAll seen ks ++ [k]) := by
  induction ks generalizing seen with
  | nil => rfl
  | cons x r ih => rw [List.cons_append, addAll, ih, addAll]
/-- The program's way and the reference's. -/
theorem cells_two (seen ks : List Int) : (rangeB ks = false ∧ okCells seen ks = none) ∨ (rangeB ks = true ∧ okCells seen ks = some (addAll seen ks) ∧ (addAll seen ks).length = seen.length + ks.length) ∨ (rangeB ks = true ∧ okCells seen ks = none ∧ (addAll seen ks).length < seen.length + ks.length) := by
  induction ks generalizing seen with
  | nil => exact .inr (.inl ⟨rfl, rfl, rfl⟩)
  | cons k r ih =>
    by_cases hr : 3 ≤ k ∧ k ≤ 23
    · have e1 : rangeB (k :: r) = rangeB r := by simp [rangeB, hr]
      rw [e1]
      by_cases hk : k ∈ seen
      · have e2 : okCells seen (k :: r) = none := by rw [okCells, if_pos (.inr (.inr hk))]
        have e3 : addAll seen (k :: r) = addAll seen r := by rw [addAll, if_pos hk]
        have h4 := addAll_le seen r
        rw [e2, e3]
        cases hb : rangeB r with
        | false => exact .inl ⟨rfl, rfl⟩
        | true => exact .inr (.inr ⟨rfl, rfl, by simp; omega⟩)
      · have e2 : okCells seen (k :: r) = okCells (seen ++ [k]) r := by rw [okCells, if_neg (fun h => h.elim (by omega) (fun h => h.elim (by omega) hk))]
        have e3 : addAll seen (k :: r) = addAll (seen ++ [k]) r := by rw [addAll, if_neg hk]
        rw [e2, e3]
        rcases ih (seen ++ [k]) with ⟨a, b⟩ | ⟨a, b, c⟩ | ⟨a, b, c⟩
        · exact .inl ⟨a, b⟩
        · exact .inr (.inl ⟨a, b, by rw [c]; simp; omega⟩)
        · exact .inr (.inr ⟨a, b, by simp at c ⊢; omega⟩)
    · have e1 : rangeB (k :: r) = false := by
        simp only [rangeB, List.all_cons, Bool.and_eq_false_iff, decide_eq_false_iff_not]
        exact .inl hr
      exact .inl ⟨e1, by rw [okCells, if_pos (by omega)]⟩
theorem goR_less (prev : Option ByteArray) (seen : List Int) (cnt : Nat) (l : List FileD) (h : seen.length < cnt) : goR prev seen cnt l = false := by
  induction l generalizing prev seen cnt with
  | nil => simp [goR]; omega
  | cons x r ih =>
    rw [goR, ih _ _ _ (by have := addAll_le seen x.cells; omega)]
    simp
theorem goR_ok (prev : Option ByteArray) (seen : List Int) (l : List FileD) : goR prev seen seen.length l = okFiles prev seen l := by
  induction l generalizing prev seen with
  | nil => simp [goR, okFiles]
  | cons x r ih =>
    rw [goR, okFiles]
    rcases cells_two seen x.cells with ⟨a, b⟩ | ⟨a, b, c⟩ | ⟨a, b, c⟩
    · rw [a, b]; simp
    · rw [a, b, ← c, ih]; simp
    · rw [a, b, goR_less _ _ _ _ c]; simp
theorem right_ref (l : List FileD) : rightB l = (decide (l.length ≤ 8) && goR none [] 0 l) := by
  unfold rightB
  rw [← goR_ok]
  rfl
theorem goR_step {l : List FileD} {I : Nat} {x : FileD} {prev : Option ByteArray} {seen : List Int} {cnt : Nat} (hx : l[I]? = some x) : goR prev seen cnt (l.drop I) = (okFile prev x && (rangeB x.cells && goR (some x.name) (addAll seen x.cells) (cnt + x.cells.length) (l.drop (I + 1)))) := by
  obtain ⟨h1, h2⟩ := List.getElem?_eq_some_iff.1 hx
  rw [List.drop_eq_getElem_cons h1, h2]
  rfl

/-- The number beside whatever comes of a numeral. -/
def satI (t : List UInt8) : Int := match Lib.atoiAll t with
  | .ok v => v
  | .range => Lib.atoiSat t
  | _ => 0
theorem satI_int (t : List UInt8) : -9223372036854775808 ≤ satI t ∧ satI t ≤ 9223372036854775807 := by
  unfold satI
  rcases num_cases (Lib.atoiAll t) with ⟨v, h⟩ | h | h
  · rw [h]; exact atoi_int h
  · rw [h]; simp [Lib.atoiAll]
  · rw [h]
    unfold Lib.atoiSat
    simp only
    split <;> omega
theorem satI_itoa (n : Int) (h0 : 0 ≤ n) (h1 : n ≤ 1920) : satI (Lib.itoa n) = n := by
  unfold satI
  rw [atoi_itoa n h0 (by omega)]
/-- What the reference reads of a line: of its words. -/
def lineR (t : List UInt8) : FileD := { name := ofl ((cutL 32 t).headD []), size := satI ((cutL 32 t).tail.headD []), cA := none, cc := 0, cells := (cutL 32 t).tail.tail.map satI }
def linesR (s : List UInt8) : List FileD := (cutL 10 s).dropLast.map lineR
def parseR (s : List UInt8) : Option (List FileD) := if rightB (linesR s) = true ∧ printL (linesR s) = s then some (linesR s) else none
theorem lineR_line {x : FileD} (h : GoodF x) : lineR (lineL x) = x.bare := by
  unfold lineR
  rw [cut_line h]
  have hc : ∀ l : List Int, (∀ k ∈ l, 0 ≤ k ∧ k ≤ 1920) → (l.map Lib.itoa).map satI = l := fun l hl => by
    rw [List.map_map]
    conv => rhs; rw [← List.map_id l]
    exact List.map_congr_left fun k hk => satI_itoa k (hl k hk).1 (hl k hk).2
  simp only [List.headD_cons, List.tail_cons, List.map_cons, ofl_bl, satI_itoa x.size h.s0 h.s1]
  rw [hc x.cells (fun k hk => by have := h.cs k hk; omega)]
  rfl
theorem linesR_print {l : List FileD} (h : rightB l = true) : linesR (printL l) = l.map FileD.bare := by
  obtain ⟨-, hg, -⟩ := right_good h
  unfold linesR
  rw [cut_print l hg, List.dropLast_concat, List.map_map]
  exact List.map_congr_left fun x hx => lineR_line (hg x hx)
/-- The reference reads as the program does. -/
theorem parse_two (s : List UInt8) : parseR s = parseP s := by
  cases hp : parseP s with
  | some l =>
    obtain ⟨h1, h2⟩ := parse_some hp
    have h3 := linesR_print h1
    rw [h2] at h3
    have h4 := parse_print h1
    rw [h2, hp] at h4
    injection h4 with h4
    unfold parseR
    rw [h3, ← h4, if_pos ⟨h1, h2⟩]
  | none =>
    unfold parseR
    split
    · rename_i h
      have h4 := parse_print h.1
      rw [h.2, hp] at h4
      cases h4
    · rfl
end Go.Proofs.YtmligbaalbbgiabGreatDoor

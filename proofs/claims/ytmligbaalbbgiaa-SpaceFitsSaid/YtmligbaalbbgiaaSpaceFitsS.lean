/- There is room just where there is: the plain law. No condition. -/
import Derived.Test.YtmligbaalbbgiaaSpaceS
namespace Go.Proofs.Ytmligbaalbbgiaa

/-- The room of all zones but one. -/
def freeBut (zs : List Int) (but : Int) : Nat → Int
  | 0 => 0
  | k + 1 => if (k : Int) = but then freeBut zs but k else freeBut zs but k + max (16 - max (ith zs k) 0) 0
theorem freeBut_nonneg (zs : List Int) (but : Int) (k : Nat) : 0 ≤ freeBut zs but k := by
  induction k with
  | zero => exact Int.le_refl _
  | succ k ih =>
    rw [freeBut]
    split <;> omega
theorem freeBut_out {zs : List Int} {but : Int} {k : Nat} (h : ¬ (0 ≤ but ∧ but < (k : Int))) : freeBut zs but k = freeAt zs k := by
  induction k with
  | zero => rfl
  | succ k ih =>
    rw [freeBut, if_neg (by omega), ih (by omega), freeAt]
theorem freeBut_in {zs : List Int} {b k : Nat} (h : b < k) : freeBut zs (b : Int) k = freeAt zs k - max (16 - max (ith zs b) 0) 0 := by
  induction k with
  | zero => omega
  | succ k ih =>
    by_cases hk : b = k
    · subst hk
      rw [freeBut, if_pos rfl, freeBut_out (by omega), freeAt]
      omega
    · rw [freeBut, if_neg (by omega), ih (by omega), freeAt]
      omega
theorem open_free (zs : List Int) (but : Int) (k : Nat) : (openAt zs but k).isSome = decide (0 < freeBut zs but k) := by
  induction k with
  | zero => rfl
  | succ k ih =>
    have h0 := freeBut_nonneg zs but k
    rw [openAt, freeBut]
    cases ho : openAt zs but k with
    | some v =>
      rw [ho] at ih
      have h1 : 0 < freeBut zs but k := by simpa using ih.symm
      have h2 : 0 < (if (k : Int) = but then freeBut zs but k else freeBut zs but k + max (16 - max (ith zs k) 0) 0) := by split <;> omega
      simp [h2]
    | none =>
      rw [ho] at ih
      have h1 : freeBut zs but k = 0 := by
        have : ¬ 0 < freeBut zs but k := by simpa using ih.symm
        omega
      rw [h1]
      by_cases hb : (k : Int) = but
      · simp [hb]
      · by_cases hz : ith zs k < 16
        · have h2 : 0 < (0 : Int) + max (16 - max (ith zs k) 0) 0 := by omega
          simp only [hb, hz, if_false, ne_eq, not_false_eq_true, and_self, if_true, Option.isSome_some, h2, decide_true]
        · have h2 : ¬ 0 < (0 : Int) + max (16 - max (ith zs k) 0) 0 := by omega
          simp only [hb, hz, if_false, ne_eq, false_and, Option.isSome_none, h2, decide_false]
end Go.Proofs.Ytmligbaalbbgiaa

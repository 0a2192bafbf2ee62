/- The primes, and the roots whose bits are the numbers of the sums, as plain functions. No condition. -/
import Derived.Test.YtmligbaalbbgiabDoorRootS
import Derived.Test.YtmligbaalbbgiabDoorSum2
namespace Go.Proofs.YtmligbaalbbgiabDoor

/-- No number of the list divides k. -/
def isP (l : List Nat) (k : Nat) : Bool := l.all fun p => k % p != 0
/-- The primes below k + 2, found one behind the other. -/
def Pl : Nat → List Nat
  | 0 => []
  | k + 1 => if isP (Pl k) (k + 2) then Pl k ++ [k + 2] else Pl k
def Pstep (k : Nat) (l : List Nat) : List Nat := if isP l (k + 2) then l ++ [k + 2] else l
theorem Pl_succ (k : Nat) : Pl (k + 1) = Pstep k (Pl k) := rfl
/-- The same, in one run. -/
def Pfold (n : Nat) : List Nat := Nat.rec (motive := fun _ => List Nat) [] (fun k l => Pstep k l) n
theorem Pl_length (k j : Nat) : (Pl k).length ≤ (Pl (k + j)).length := by
  induction j with
  | zero => exact Nat.le_refl _
  | succ j ih =>
    refine Nat.le_trans ih ?_
    rw [show k + (j + 1) = (k + j) + 1 from rfl, Pl_succ]
    unfold Pstep
    split
    · simp
    · exact Nat.le_refl _
theorem Pl_range (k : Nat) : ∀ p ∈ Pl k, 2 ≤ p ∧ p < k + 2 := by
  induction k with
  | zero => intro p hp; cases hp
  | succ k ih =>
    intro p hp
    rw [Pl_succ] at hp
    unfold Pstep at hp
    split at hp
    · rcases List.mem_append.1 hp with h | h
      · have := ih p h; omega
      · have := List.mem_singleton.1 h; omega
    · have := ih p hp; omega
def primesL : List Nat := [2, 3, 5, 7, 11, 13, 17, 19, 23, 29, 31, 37, 41, 43, 47, 53, 59, 61, 67, 71, 73, 79, 83, 89, 97, 101, 103, 107, 109, 113, 127, 131, 137, 139, 149, 151, 157, 163, 167, 173, 179, 181, 191, 193, 197, 199, 211, 223, 227, 229, 233, 239, 241, 251, 257, 263, 269, 271, 277, 281, 283, 293, 307, 311]
set_option maxRecDepth 100000 in
theorem Pl_310 : Pl 310 = primesL := by decide +kernel
theorem Pl_309 : (Pl 309).length = 63 := by decide +kernel
theorem Pl_short {k : Nat} (h : k ≤ 309) : (Pl k).length ≤ 63 := by
  have := Pl_length k (309 - k)
  rw [show k + (309 - k) = 309 from by omega, Pl_309] at this
  exact this

/-- x is the root of P: the greatest number whose power is not above it. -/
def IsRoot (k P x : Nat) : Prop := x ^ k ≤ P ∧ P < (x + 1) ^ k
theorem IsRoot.unique {k P x y : Nat} (hx : IsRoot k P x) (hy : IsRoot k P y) : x = y := by
  rcases Nat.lt_trichotomy x y with h | h | h
  · have h1 := Nat.pow_le_pow_left (show x + 1 ≤ y from h) k
    have := hx.2; have := hy.1
    omega
  · exact h
  · have h1 := Nat.pow_le_pow_left (show y + 1 ≤ x from h) k
    have := hy.2; have := hx.1
    omega
/-- One of the list's first numbers is the root. -/
def rootB (k p v : Nat) : Bool := (List.range 8).any fun a => decide ((a * 4294967296 + v) ^ k ≤ p * 2 ^ (32 * k)) && decide (p * 2 ^ (32 * k) < (a * 4294967296 + v + 1) ^ k) && decide (v < 4294967296)
theorem rootB_spec {k p v x : Nat} (h : rootB k p v = true) (hx : IsRoot k (p * 2 ^ (32 * k)) x) : x % 4294967296 = v := by
  unfold rootB at h
  rw [List.any_eq_true] at h
  obtain ⟨a, _, h⟩ := h
  simp only [Bool.and_eq_true, decide_eq_true_eq] at h
  have := hx.unique (y := a * 4294967296 + v) ⟨h.1.1, h.1.2⟩
  subst this
  have := h.2
  omega
theorem roots3 : ((List.range 64).all fun i => rootB 3 (nth primesL i) (nth kS i)) = true := by decide +kernel
theorem roots2 : ((List.range 8).all fun i => rootB 2 (nth primesL i) (nth h0S i)) = true := by decide +kernel
theorem root3_is {i x : Nat} (hi : i < 64) (hx : IsRoot 3 (nth primesL i * 2 ^ (32 * 3)) x) : x % 4294967296 = nth kS i :=
  rootB_spec (List.all_eq_true.1 roots3 i (List.mem_range.2 hi)) hx
theorem root2_is {i x : Nat} (hi : i < 8) (hx : IsRoot 2 (nth primesL i * 2 ^ (32 * 2)) x) : x % 4294967296 = nth h0S i :=
  rootB_spec (List.all_eq_true.1 roots2 i (List.mem_range.2 hi)) hx
theorem primesL_length : primesL.length = 64 := by decide +kernel
theorem primesL_lt : (primesL.all fun p => decide (p < 312)) = true := by decide +kernel
theorem primesL_nth (i : Nat) : nth primesL i < 312 := by
  by_cases h : i < primesL.length
  · have e : nth primesL i = primesL[i] := by simp [nth, List.getD, h]
    rw [e]
    exact of_decide_eq_true (List.all_eq_true.1 primesL_lt _ (List.getElem_mem _))
  · have e : nth primesL i = 0 := by simp [nth, List.getD, List.getElem?_eq_none (Nat.le_of_not_lt h)]
    omega
end Go.Proofs.YtmligbaalbbgiabDoor

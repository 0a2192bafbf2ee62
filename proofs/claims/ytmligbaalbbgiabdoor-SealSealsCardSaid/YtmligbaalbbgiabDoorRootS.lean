/- Numbers as digits of 2^16, the least first; the numbers that the reference reckons anew, as plain functions. No condition. -/
import Derived.Test.YtmligbaalbbgiabDoorShaR
namespace Go.Proofs.YtmligbaalbbgiabDoor

/-- What digits of 2^16 are worth. -/
def val : List Nat → Nat
  | [] => 0
  | d :: l => d + 65536 * val l
theorem val_append (a b : List Nat) : val (a ++ b) = val a + 65536 ^ a.length * val b := by
  induction a with
  | nil => simp [val]
  | cons d l ih =>
    simp only [List.cons_append, val, ih, List.length_cons, Nat.pow_succ]
    rw [Nat.mul_add, Nat.add_assoc, Nat.mul_comm (65536 ^ l.length) 65536, Nat.mul_assoc]
theorem val_zeros (n : Nat) : val (List.replicate n 0) = 0 := by
  induction n with
  | zero => rfl
  | succ n ih => simp [List.replicate_succ, val, ih]
def Digits (l : List Nat) : Prop := ∀ d ∈ l, d < 65536
theorem val_lt {l : List Nat} (h : Digits l) : val l < 65536 ^ l.length := by
  induction l with
  | nil => simp [val]
  | cons d l ih =>
    have h1 := h d (List.mem_cons_self ..)
    have h2 := ih (fun x hx => h x (List.mem_cons_of_mem _ hx))
    simp only [val, List.length_cons, Nat.pow_succ]
    omega
theorem val_split (l : List Nat) (i : Nat) (h : i < l.length) : val l = val (l.take i) + 65536 ^ i * (nth l i + 65536 * val (l.drop (i + 1))) := by
  have e : nth l i = l[i] := by simp [nth, List.getD, h]
  have h1 : l = l.take i ++ l.drop i := (List.take_append_drop i l).symm
  have h2 : val l = val (l.take i) + 65536 ^ (l.take i).length * val (l.drop i) := by
    rw [← val_append, ← h1]
  rw [h2, List.length_take, Nat.min_eq_left (by omega), List.drop_eq_getElem_cons h, e]
  rfl
theorem Digits.take {l : List Nat} (h : Digits l) (i : Nat) : Digits (l.take i) := fun d hd => h d (List.mem_of_mem_take hd)
theorem cmp_aux {P a b x y t : Nat} (_ha : a < P) (h : y < x) : b < P → b + P * (y + 65536 * t) < a + P * (x + 65536 * t) := by
  intro hb
  have h1 : P * (y + 1 + 65536 * t) ≤ P * (x + 65536 * t) := Nat.mul_le_mul_left P (by omega)
  have h2 : P * (y + 1 + 65536 * t) = P * (y + 65536 * t) + P := by
    rw [show y + 1 + 65536 * t = (y + 65536 * t) + 1 from by omega, Nat.mul_add, Nat.mul_one]
  omega
/-- Of two numbers of as many digits the first digits that differ, from the last ones on, tell which is the greater one. -/
theorem val_cmp {A B : List Nat} (hA : Digits A) (hB : Digits B) (hl : A.length = B.length) (i : Nat) (hi : i < A.length) (hs : A.drop (i + 1) = B.drop (i + 1)) (hne : nth A i ≠ nth B i) : (nth B i < nth A i ↔ val B < val A) := by
  have h1 := val_split A i hi
  have h2 := val_split B i (by omega)
  have h3 := val_lt (hA.take i)
  have h4 := val_lt (hB.take i)
  rw [List.length_take, Nat.min_eq_left (by omega)] at h3
  rw [List.length_take, Nat.min_eq_left (by omega)] at h4
  rw [hs] at h1
  rw [h1, h2]
  constructor
  · intro h
    exact cmp_aux h3 h h4
  · intro h
    rcases Nat.lt_trichotomy (nth B i) (nth A i) with h5 | h5 | h5
    · exact h5
    · exact absurd h5.symm hne
    · have h6 := cmp_aux (t := val (B.drop (i + 1))) h4 h5 h3
      omega
theorem drop_eq_next {A B : List Nat} (hl : A.length = B.length) (i : Nat) (hi : i < A.length) (hs : A.drop (i + 1) = B.drop (i + 1)) (he : nth A i = nth B i) : A.drop i = B.drop i := by
  have e1 : nth A i = A[i] := by simp [nth, List.getD, hi]
  have e2 : nth B i = B[i]'(by omega) := by simp [nth, List.getD, show i < B.length by omega]
  rw [List.drop_eq_getElem_cons hi, List.drop_eq_getElem_cons (show i < B.length by omega), hs, ← e1, ← e2, he]
end Go.Proofs.YtmligbaalbbgiabDoor

/- A text's sum, as a plain function: the text with its end, by pieces of 64 bytes. No condition. -/
import Derived.Test.YtmligbaalbbgiabDoorShaS
namespace Go.Proofs.YtmligbaalbbgiabDoor

def padZ (n : Nat) : Nat := (119 - n % 64) % 64
theorem padZ_lt (n : Nat) : padZ n < 64 := Nat.mod_lt _ (by omega)
theorem padZ_at (n j : Nat) (h : j ≤ padZ n) : ((n + 1 + j) % 64 = 56 ↔ j = padZ n) := by
  unfold padZ at *
  omega
/-- A number's eight bytes, the greatest first: the first k of them. -/
def be8U (x : Nat) : Nat → List UInt8
  | 0 => []
  | k + 1 => be8U x k ++ [UInt8.ofNat (x / 2 ^ (8 * (7 - k)) % 256)]
theorem be8U_length (x k : Nat) : (be8U x k).length = k := by
  induction k with
  | zero => rfl
  | succ k ih => simp [be8U, ih]
/-- A text with one bit behind it, and so many bytes of 0. -/
def preP (l : List UInt8) (j : Nat) : List UInt8 := l ++ [128] ++ List.replicate j 0
theorem preP_length (l : List UInt8) (j : Nat) : (preP l j).length = l.length + 1 + j := by simp [preP]; omega
theorem preP_succ (l : List UInt8) (j : Nat) : preP l (j + 1) = preP l j ++ [0] := by
  unfold preP
  rw [List.replicate_succ', ← List.append_assoc]
/-- A text with its end: whole pieces of 64 bytes. -/
def padL (l : List UInt8) : List UInt8 := preP l (padZ l.length) ++ be8U (8 * l.length) 8
theorem padL_length (l : List UInt8) : (padL l).length = 64 * ((l.length + 72) / 64) := by
  unfold padL
  rw [List.length_append, preP_length, be8U_length]
  unfold padZ
  omega
/-- So many pieces taken in. -/
def hashN (K h : List Nat) (p : List UInt8) : Nat → List Nat
  | 0 => h
  | k + 1 => blockS K (hashN K h p k) ((p.drop (64 * k)).take 64)
theorem hashN_length (K h : List Nat) (p : List UInt8) (k : Nat) : (hashN K h p k).length = h.length := by
  induction k with
  | zero => rfl
  | succ k ih => rw [hashN, blockS_length, ih]
theorem hashN_words (K : List Nat) {h : List Nat} (p : List UInt8) (k : Nat) (hh : Words32 h) : Words32 (hashN K h p k) := by
  induction k with
  | zero => exact hh
  | succ k ih => exact blockS_words _ _ ih
/-- Words' bytes, the greatest first: of the first k words. -/
def outS (h : List Nat) : Nat → List UInt8
  | 0 => []
  | k + 1 => outS h k ++ [UInt8.ofNat (nth h k / 16777216), UInt8.ofNat (nth h k / 65536 % 256), UInt8.ofNat (nth h k / 256 % 256), UInt8.ofNat (nth h k % 256)]
theorem outS_length (h : List Nat) (k : Nat) : (outS h k).length = 4 * k := by
  induction k with
  | zero => rfl
  | succ k ih => simp [outS, ih]; omega
def h0S : List Nat := [1779033703, 3144134277, 1013904242, 2773480762, 1359893119, 2600822924, 528734635, 1541459225]
/-- A text's sum, by the numbers K and h. -/
def sumBy (K h : List Nat) (l : List UInt8) : List UInt8 := outS (hashN K h (padL l) ((l.length + 72) / 64)) 8
theorem sumBy_length (K h : List Nat) (l : List UInt8) : (sumBy K h l).length = 32 := outS_length _ _
theorem h0S_words : Words32 h0S := words32_cons (by omega) (words32_cons (by omega) (words32_cons (by omega) (words32_cons (by omega) (words32_cons (by omega) (words32_cons (by omega) (words32_cons (by omega) (words32_cons (by omega) words32_nil)))))))
end Go.Proofs.YtmligbaalbbgiabDoor

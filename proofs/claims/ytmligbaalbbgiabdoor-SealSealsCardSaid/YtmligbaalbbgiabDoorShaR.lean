/- The reference's ways of reckoning a sum's words are the program's: bit by bit. No condition. -/
import Derived.Test.YtmligbaalbbgiabDoorShaT
namespace Go.Proofs.YtmligbaalbbgiabDoor

theorem testBit_ones (i : Nat) : Nat.testBit 4294967295 i = decide (i < 32) := by
  have := Nat.testBit_two_pow_sub_one 32 i
  exact this
theorem bit_high {a : Nat} (h : a < 4294967296) {i : Nat} (hi : 32 ≤ i) : a.testBit i = false :=
  Nat.testBit_lt_two_pow (Nat.lt_of_lt_of_le h ((show 2 ^ 32 ≤ 2 ^ i from Nat.pow_le_pow_right (by omega) hi)))
theorem ch_ref {e f g : Nat} (he : e < 4294967296) (hg : g < 4294967296) : xor32 g (and32 e (xor32 f g)) = chS e f g := by
  unfold chS xor32 and32 not32
  apply Nat.eq_of_testBit_eq
  intro i
  simp only [Nat.testBit_xor, Nat.testBit_and, testBit_ones]
  by_cases hi : i < 32
  · simp only [hi, decide_true]
    cases e.testBit i <;> cases f.testBit i <;> cases g.testBit i <;> rfl
  · rw [bit_high he (by omega), bit_high hg (by omega)]
    simp
theorem maj_ref (a b c : Nat) : (and32 a b) ||| (and32 c (a ||| b)) = majS a b c := by
  unfold majS xor32 and32
  apply Nat.eq_of_testBit_eq
  intro i
  simp only [Nat.testBit_xor, Nat.testBit_and, Nat.testBit_or]
  cases a.testBit i <;> cases b.testBit i <;> cases c.testBit i <;> rfl
theorem rot_ref (x n : Nat) (hx : x < 4294967296) (hn : n ≤ 32) : (x / 2 ^ n + x * 2 ^ (32 - n) % 4294967296) % 4294967296 = rotl x (32 - n) := by
  have e : (4294967296 : Nat) = 2 ^ n * 2 ^ (32 - n) := by rw [← Nat.pow_add, show n + (32 - n) = 32 from by omega]
  have h1 : x * 2 ^ (32 - n) % 4294967296 = 2 ^ (32 - n) * (x % 2 ^ n) := by
    rw [e, Nat.mul_mod_mul_right, Nat.mul_comm]
  have h2 : x / 2 ^ n < 2 ^ (32 - n) := by
    rw [Nat.div_lt_iff_lt_mul (Nat.two_pow_pos n), Nat.mul_comm, ← e]
    exact hx
  have h3 := Nat.two_pow_add_eq_or_of_lt h2 (x % 2 ^ n)
  have h4 := rotl_lt x (32 - n) hx
  have h5 : rotl x (32 - n) = x / 2 ^ n + x * 2 ^ (32 - n) % 4294967296 := by
    unfold rotl
    rw [show 32 - (32 - n) = n from by omega, h1, ← h3, Nat.add_comm]
  rw [← h5, Nat.mod_eq_of_lt h4]
end Go.Proofs.YtmligbaalbbgiabDoor

/- The functions salternref.in and the closure of salternref.mix. -/
import Derived.Test.YtmligbaalbbgiabDoorProg
import Derived.Test.YtmligbaalbbgiabDoorBase
import Derived.Test.YtmligbaalbbgiabDoorStreamS
import Derived.Test.YtmligbaalbbgiabDoorTail
namespace Go.Proofs.YtmligbaalbbgiabDoor
open Go.RowKit

theorem rotl_wide (x n : Nat) (hx : x < 4294967296) (hn : n ≤ 32) : ((x * 2 ^ n) ||| (x * 2 ^ n / 4294967296)) % 4294967296 = rotl x n := by
  have h1 : x * 2 ^ n / 4294967296 = x / 2 ^ (32 - n) := by
    have e : 4294967296 = 2 ^ (32 - n) * 2 ^ n := by rw [← Nat.pow_add, show 32 - n + n = 32 from by omega]
    rw [e, Nat.mul_div_mul_right _ _ (Nat.two_pow_pos n)]
  rw [h1]
  have h2 := Nat.or_mod_two_pow (a := x * 2 ^ n) (b := x / 2 ^ (32 - n)) (n := 32)
  have h3 : (x / 2 ^ (32 - n)) % 2 ^ 32 = x / 2 ^ (32 - n) := Nat.mod_eq_of_lt (Nat.lt_of_le_of_lt (Nat.div_le_self _ _) hx)
  rw [h3] at h2
  exact h2

set_option maxHeartbeats 400000 in
theorem left_any (x n : Int) (hx : 0 ≤ x) (hx' : x < 4294967296) (hn : 0 ≤ n) (hn' : n ≤ 31) (w : World) :
    Calls Tryd.prog 178 #[.int .u32 x, .int .u64 n] w fun e w' => e = .returned (.int .u32 (rotl x.toNat n.toNat : Nat)) ∧ w = w' := by
  have H : Hid (bits BinOp.or IntKind.u64 (IntKind.u64.wrap (x * 2 ^ n.toNat)) (IntKind.u64.wrap (x * 2 ^ n.toNat) / 4294967296) % 4294967296 = ((rotl x.toNat n.toNat : Nat) : Int)) := by
    refine hide ?_
    obtain ⟨x, rfl⟩ := Int.eq_ofNat_of_zero_le hx
    obtain ⟨n, rfl⟩ := Int.eq_ofNat_of_zero_le hn
    have h2 : 2 ^ n ≤ 2 ^ 31 := Nat.pow_le_pow_right (by omega) (by omega)
    rw [show (2 : Nat) ^ 31 = 2147483648 from rfl] at h2
    have h3 : x * 2 ^ n < 18446744073709551616 := by
      have := Nat.mul_lt_mul_of_lt_of_le (show x < 4294967296 by omega) h2 (by omega)
      omega
    have e1 : (x : Int) * 2 ^ n = ((x * 2 ^ n : Nat) : Int) := by simp
    have e2 : IntKind.u64.wrap ((x * 2 ^ n : Nat) : Int) = ((x * 2 ^ n : Nat) : Int) := by
      simp only [IntKind.wrap, IntKind.bits, IntKind.signed]
      simp
      omega
    simp only [Int.toNat_natCast]
    rw [e1, e2, show ((x * 2 ^ n : Nat) : Int) / 4294967296 = ((x * 2 ^ n / 4294967296 : Nat) : Int) from by omega, u64_or_nat _ _ h3 (Nat.lt_of_le_of_lt (Nat.div_le_self _ _) h3), ← rotl_wide x n (by omega) (by omega)]
    omega
  go_enter Tryd.func178, Tryd.ntmps178
  go_wp2
  go_ret
  exact ⟨by rw [← H.out]; rfl, rfl⟩

theorem in_any (n a b : Int) (w : World) :
    Calls Tryd.prog 81 #[.int .i64 n, .int .i64 a, .int .i64 b] w fun e w' => e = .returned (.bool (decide (a ≤ n) && decide (n ≤ b))) ∧ w = w' := by
  by_cases h : a ≤ n
  · have h1 : decide (a ≤ n) = true := by simpa using h
    go_enter Tryd.func81, Tryd.ntmps81
    go_wp2
    go_ret
    exact ⟨by rw [h1]; simp only [Bool.true_and]; rfl, rfl⟩
  · have h1 : decide (a ≤ n) = false := by simpa using h
    go_enter Tryd.func81, Tryd.ntmps81
    go_wp2
    go_ret
    exact ⟨rfl, rfl⟩
end Go.Proofs.YtmligbaalbbgiabDoor

/- The function stream.turn: it turns a word of 32 bits to the left. Conditions: the count is from 0 to 32. -/
import Derived.Test.YtmligbaalbbgiabDoorProg
import Derived.Test.YtmligbaalbbgiabDoorBase
namespace Go.Proofs.YtmligbaalbbgiabDoor
open Go.RowKit

set_option maxHeartbeats 400000 in
theorem turn_any (x n : Int) (hx : 0 ≤ x) (hx' : x < 4294967296) (hn : 0 ≤ n) (hn' : n ≤ 32) (w : World) :
    Calls Tryd.prog 177 #[.int .u32 x, .int .i64 n] w fun e w' => e = .returned (.int .u32 (rotl x.toNat n.toNat : Nat)) ∧ ∃ k, w' = w.drewN k := by
  have H : bits .or .u32 (x * 2 ^ n.toNat % 4294967296) (x / 2 ^ (32 - n).toNat) = ((rotl x.toNat n.toNat : Nat) : Int) := by
    obtain ⟨x, rfl⟩ := Int.eq_ofNat_of_zero_le hx
    obtain ⟨n, rfl⟩ := Int.eq_ofNat_of_zero_le hn
    have e1 : (x : Int) * 2 ^ n % 4294967296 = ((x * 2 ^ n % 4294967296 : Nat) : Int) := by simp
    have e2 : (x : Int) / 2 ^ (32 - n) = ((x / 2 ^ (32 - n) : Nat) : Int) := by simp
    have e3 : (32 - (n : Int)).toNat = 32 - n := by omega
    simp only [Int.toNat_natCast, e3]
    rw [e1, e2, u32_or_nat _ _ (by omega) (Nat.lt_of_le_of_lt (Nat.div_le_self _ _) (by omega))]
    rfl
  have H' := Lib.hid H
  clear H
  go_enter Tryd.func177, Tryd.ntmps177
  go_wp2
  go_quiet (fail)
  go_wp2
  go_ret
  exact ⟨by rw [← H'.out]; rfl, _, rfl⟩
end Go.Proofs.YtmligbaalbbgiabDoor

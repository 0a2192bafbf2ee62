/- The function sum.turn: it turns a word of 32 bits to the right. Conditions: the count is from 0 to 32. -/
import Derived.Test.YtmligbaalbbgiabDoorProg
import Derived.Test.YtmligbaalbbgiabDoorBase
namespace Go.Proofs.YtmligbaalbbgiabDoor
open Go.RowKit

set_option maxHeartbeats 400000 in
theorem sumturn_any (x : Nat) (n : Nat) (hx' : x < 4294967296) (hn' : n ≤ 32) (w : World) :
    Calls Tryd.prog 176 #[.int .u32 (x : Int), .int .i64 (n : Int)] w fun e w' => e = .returned (.int .u32 (rotl x (32 - n) : Nat)) ∧ ∃ k, w' = w.drewN k := by
  have H : bits .or .u32 ((x : Int) / 2 ^ n) ((x : Int) * 2 ^ (32 - n) % 4294967296) = ((rotl x (32 - n) : Nat) : Int) := by
    have e1 : (x : Int) * 2 ^ (32 - n) % 4294967296 = ((x * 2 ^ (32 - n) % 4294967296 : Nat) : Int) := by simp
    have e2 : (x : Int) / 2 ^ n = ((x / 2 ^ n : Nat) : Int) := by simp
    rw [e1, e2, u32_or_nat _ _ (Nat.lt_of_le_of_lt (Nat.div_le_self _ _) (by omega)) (by omega)]
    unfold rotl
    rw [Nat.or_comm, show 32 - (32 - n) = n from by omega]
  have e3 : (32 - (n : Int)).toNat = 32 - n := by omega
  have H' := Lib.hid H
  have E3 := Lib.hid e3
  clear H e3
  go_enter Tryd.func176, Tryd.ntmps176
  go_wp2
  go_quiet (fail)
  go_wp2
  go_ret
  exact ⟨by rw [← H'.out]; rfl, _, rfl⟩
/-- The same, of a count that is told as a number of Go. -/
theorem sumturn_int (x : Nat) (n : Int) (hx' : x < 4294967296) (hn : 0 ≤ n) (hn' : n ≤ 32) (w : World) :
    Calls Tryd.prog 176 #[.int .u32 (x : Int), .int .i64 n] w fun e w' => e = .returned (.int .u32 (rotl x (32 - n.toNat) : Nat)) ∧ ∃ k, w' = w.drewN k := by
  obtain ⟨n, rfl⟩ := Int.eq_ofNat_of_zero_le hn
  exact sumturn_any x n hx' (by omega) w
end Go.Proofs.YtmligbaalbbgiabDoor

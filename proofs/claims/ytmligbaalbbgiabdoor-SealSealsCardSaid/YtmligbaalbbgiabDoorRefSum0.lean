/- The closure of salternref's Sum: it turns a word of 32 bits to the right. Conditions: the count is from 0 to 32. -/
import Derived.Test.YtmligbaalbbgiabDoorProg
import Derived.Test.YtmligbaalbbgiabDoorBase
import Derived.Test.YtmligbaalbbgiabDoorShaR
namespace Go.Proofs.YtmligbaalbbgiabDoor
open Go.RowKit

set_option maxHeartbeats 400000 in
theorem rot_int (x : Nat) (n : Int) (hx' : x < 4294967296) (hn : 0 ≤ n) (hn' : n ≤ 32) (w : World) :
    Calls Tryd.prog 152 #[.int .u32 (x : Int), .int .i64 n] w fun e w' => e = .returned (.int .u32 (rotl x (32 - n.toNat) : Nat)) ∧ ∃ k, w' = w.drewN k := by
  obtain ⟨n, rfl⟩ := Int.eq_ofNat_of_zero_le hn
  have H : ((x : Int) / 2 ^ n + (x : Int) * 2 ^ (32 - n) % 4294967296) % 4294967296 = ((rotl x (32 - n) : Nat) : Int) := by
    rw [← rot_ref x n hx' (by omega)]
    simp
  have e3 : (32 - (n : Int)).toNat = 32 - n := by omega
  have H' := Lib.hid H
  have E3 := Lib.hid e3
  clear H e3
  go_enter Tryd.func152, Tryd.ntmps152
  go_wp2
  go_quiet (fail)
  go_wp2
  go_ret
  exact ⟨by rw [Int.toNat_natCast, ← H'.out]; rfl, _, rfl⟩
end Go.Proofs.YtmligbaalbbgiabDoor

/- The function stream.word. -/
import Derived.Test.YtmligbaalbbgiabDoorProg
import Derived.Test.YtmligbaalbbgiabDoorBase
namespace Go.Proofs.YtmligbaalbbgiabDoor
open Go.RowKit

set_option maxHeartbeats 400000 in
theorem word_any (s : ByteArray) (h : 4 ≤ s.size) (w : World) :
    Calls Tryd.prog 149 #[.string s] w fun e w' => e = .returned (.int .u32 (le4 (bl s) : Nat)) ∧ ∃ k, w' = w.drewN k := by
  have h0 : 0 < s.size := by omega
  have h1 : (1 : Int) < (s.size : Int) := by omega
  have h2 : (2 : Int) < (s.size : Int) := by omega
  have h3 : (3 : Int) < (s.size : Int) := by omega
  have H : Hid (bits .or .u32 (bits .or .u32 (bits .or .u32 ((s[0].toNat : Int) % 4294967296) ((s[1].toNat : Int) % 4294967296 * 256 % 4294967296)) ((s[2].toNat : Int) % 4294967296 * 65536 % 4294967296)) ((s[3].toNat : Int) % 4294967296 * 16777216 % 4294967296) = ((le4 (bl s) : Nat) : Int)) := by
    refine hide ?_
    unfold le4
    rw [byteAt_bl s 0 (by omega), byteAt_bl s 1 (by omega), byteAt_bl s 2 (by omega), byteAt_bl s 3 (by omega)]
    exact le4_bits _ _ _ _ (UInt8.toNat_lt _) (UInt8.toNat_lt _) (UInt8.toNat_lt _) (UInt8.toNat_lt _)
  go_enter Tryd.func149, Tryd.ntmps149
  go_wp2
  go_quiet (fail)
  go_wp2
  go_ret
  exact ⟨by rw [← H.out]; rfl, _, rfl⟩
end Go.Proofs.YtmligbaalbbgiabDoor

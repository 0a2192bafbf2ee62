/- The function salternlaw.long. No condition. -/
import Derived.Test.YtmligbaalbbgiaaDoorProg
import Derived.Test.YtmligbaalbbgiaaDoorBase
namespace Go.Proofs.YtmligbaalbbgiaaDoor
open Go.RowKit

theorem long_yes (s : ByteArray) (h : 60 < s.size) (w : World) : Calls Tryd.prog 17 #[.string s] w fun e w' => e = .returned (.bool true) ∧ w = w' := by
  have b : decide (60 < s.size) = true := by simpa using h
  go_enter Tryd.func17, Tryd.ntmps17
  go_wp2
  go_ret
  exact ⟨by simp; omega, rfl⟩
theorem long_no (s : ByteArray) (h : s.size ≤ 60) (w : World) : Calls Tryd.prog 17 #[.string s] w fun e w' => e = .returned (.bool false) ∧ w = w' := by
  have b : decide (60 < s.size) = false := by simp; omega
  go_enter Tryd.func17, Tryd.ntmps17
  go_wp2
  go_ret
  exact ⟨by simp; omega, rfl⟩
end Go.Proofs.YtmligbaalbbgiaaDoor

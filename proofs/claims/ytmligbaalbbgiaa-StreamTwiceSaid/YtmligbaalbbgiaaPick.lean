/- The function salternkeep.pick: a number from 0 to n - 1. -/
import Derived.Test.YtmligbaalbbgiaaProg
import Derived.Test.YtmligbaalbbgiaaBase
namespace Go.Proofs.Ytmligbaalbbgiaa
open Go.RowKit

/-- What pick tells. -/
def pickI (a n : Int) : Int := wrap64 ((IntKind.u64.wrap a).tmod n)
theorem u64_wrap_nonneg (a : Int) : 0 ≤ IntKind.u64.wrap a := by
  simp [IntKind.wrap, IntKind.bits, IntKind.signed]
  omega
theorem pickI_bd (a n : Int) (hn : 1 ≤ n) (hn' : n ≤ 1000000) : 0 ≤ pickI a n ∧ pickI a n < n := by
  have h0 := u64_wrap_nonneg a
  have h1 : (IntKind.u64.wrap a).tmod n = (IntKind.u64.wrap a) % n := Int.tmod_eq_emod_of_nonneg h0
  have h2 := Int.emod_nonneg (IntKind.u64.wrap a) (show n ≠ 0 by omega)
  have h3 := Int.emod_lt_of_pos (IntKind.u64.wrap a) (show 0 < n by omega)
  unfold pickI
  rw [h1, IntWalk.wrap64_in _ ⟨by omega, by omega⟩]
  exact ⟨h2, h3⟩

set_option maxHeartbeats 400000 in
theorem pick_any (a n : Int) (hn : 1 ≤ n) (hn' : n ≤ 1000000) (w : World) :
    Calls Try.prog 11 #[.int .i64 a, .int .i64 n] w fun e w' => e = .returned (.int .i64 (pickI a n)) ∧ w = w' := by
  have b1 : ((n : Int) == 0) = false := by simp; omega
  go_enter Try.func11, Try.ntmps11
  go_wp2
  go_ret
  exact ⟨rfl, rfl⟩
end Go.Proofs.Ytmligbaalbbgiaa

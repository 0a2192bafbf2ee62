/- The function stream.Block, of arguments that may not be: it tells ErrArg. -/
import Derived.Test.YtmligbaalbbgiabDoorProg
import Derived.Test.YtmligbaalbbgiabDoorBase
namespace Go.Proofs.YtmligbaalbbgiabDoor
open Go.RowKit

/-- The error number n of package api, as a value of type error. -/
def errV (n : Int) : Value := .iface 35 (.int .i64 n)
def emptyV : Value := .string ⟨#[]⟩

set_option maxRecDepth 100000 in
set_option maxHeartbeats 4000000 in
theorem Block_bad (key nonce : ByteArray) (n : Int) (h : ¬ (key.size = 32 ∧ nonce.size = 12 ∧ 0 ≤ n ∧ n < 4294967296)) (w : World) :
    Calls Tryd.prog 127 #[.string key, .int .i64 n, .string nonce] w fun e w' => e = .returned (.tuple #[emptyV, errV 1]) ∧ w = w' := by
  by_cases hk : key.size = 32
  · have t1 : ((key.size : Int) != 32) = false := by simp; omega
    by_cases hn : nonce.size = 12
    · have t2 : ((nonce.size : Int) != 12) = false := by simp; omega
      by_cases h0 : n < 0
      · clear hk hn h
        go_enter Tryd.func127, Tryd.ntmps127
        go_wp2
        go_ret2
        exact ⟨rfl, rfl⟩
      · have h1 : 4294967296 ≤ n := by omega
        clear hk hn h
        go_enter Tryd.func127, Tryd.ntmps127
        go_wp2
        go_ret2
        exact ⟨rfl, rfl⟩
    · have t2 : ((nonce.size : Int) != 12) = true := by simp; omega
      clear hk hn h
      go_enter Tryd.func127, Tryd.ntmps127
      go_wp2
      go_ret2
      exact ⟨rfl, rfl⟩
  · have t1 : ((key.size : Int) != 32) = true := by simp; omega
    clear hk h
    go_enter Tryd.func127, Tryd.ntmps127
    go_wp2
    go_ret2
    exact ⟨rfl, rfl⟩
end Go.Proofs.YtmligbaalbbgiabDoor

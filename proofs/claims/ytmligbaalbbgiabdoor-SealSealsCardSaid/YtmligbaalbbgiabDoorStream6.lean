/- The function stream.Xor, of arguments that may not be: it tells ErrArg. -/
import Derived.Test.YtmligbaalbbgiabDoorProg
import Derived.Test.YtmligbaalbbgiabDoorBase
import Derived.Test.YtmligbaalbbgiabDoorStream4
import Derived.Test.YtmligbaalbbgiabDoorStream5
namespace Go.Proofs.YtmligbaalbbgiabDoor
open Go.RowKit

set_option maxRecDepth 100000 in
set_option maxHeartbeats 4000000 in
theorem Xor_bad (key nonce s : ByteArray) (h : ¬ (key.size = 32 ∧ nonce.size = 12)) (w : World) :
    Calls Tryd.prog 77 #[.string key, .string nonce, .string s] w fun e w' => e = .returned (.tuple #[emptyV, errV 1]) ∧ Below w.heap.size w w' := by
  have h' : ¬ (key.size = 32 ∧ nonce.size = 12 ∧ (0 : Int) ≤ 1 ∧ (1 : Int) < 4294967296) := fun x => h ⟨x.1, x.2.1⟩
  have HH := hide h'
  have hB1 := fun (c : Nat) (f : Nat × Nat) => below_drewN ((Below.refl w.heap.size w).alloc (Nat.le_refl _) (.cells (bytesRow s c) 5 f)) 1
  have HB := hide hB1
  have hcv := run_bytes_of_string (P := Tryd.prog) w 9 111 5 s Tryd.underlying9 Tryd.underlying111 Tryd.underlying5
  clear h h' hB1
  by_cases hs : 0 < s.size
  · have b1 : decide (0 < s.size) = true := by simpa using hs
    have b2 : ¬ s = ByteArray.empty := by rintro rfl; exact absurd hs (by decide)
    go_enter Tryd.func77, Tryd.ntmps77
    go_wp2
    refine wp_loop_rounds 1 ?_
    rw [rounds_succ]
    go_wp2_with (go_at_call 127; refine (Block_bad key nonce _ HH.out _).mono ?_; rintro e w1 ⟨rfl, rfl⟩; unfold emptyV errV)
    go_ret2
    exact ⟨rfl, HB.out _ _⟩
  · obtain rfl : s = ByteArray.empty := by
      apply bl_inj
      have : (bl s).length = 0 := by rw [bl_length]; omega
      rw [List.eq_nil_of_length_eq_zero this]
      rfl
    clear hs
    go_enter Tryd.func77, Tryd.ntmps77
    go_wp2
    refine wp_loop_rounds 1 ?_
    rw [rounds_succ]
    go_wp2_with (go_at_call 127; refine (Block_bad key nonce _ HH.out _).mono ?_; rintro e w1 ⟨rfl, rfl⟩; unfold emptyV errV)
    go_ret2
    exact ⟨rfl, HB.out _ _⟩
end Go.Proofs.YtmligbaalbbgiabDoor

/- The function salternkeep.spaced: true. No condition. -/
import Derived.Test.YtmligbaalbbgiaaProg
import Derived.Test.YtmligbaalbbgiaaBase
import Derived.Test.YtmligbaalbbgiaaSpaceS
import Derived.Test.YtmligbaalbbgiaaSpace1
import Derived.Test.YtmligbaalbbgiaaSpace2
import Derived.Test.YtmligbaalbbgiaaSpace3
namespace Go.Proofs.Ytmligbaalbbgiaa
open Go.RowKit

def Small (n : Int) : Prop := -1000 ≤ n ∧ n ≤ 1000
theorem ints3 (w : World) (x y z : Int) (hx : Small x) (hy : Small y) (hz : Small z) : Ints (w.alloc (.cells #[.int .i64 x, .int .i64 y, .int .i64 z] 3)) (some ⟨w.heap.size, 0, none⟩) [x, y, z] := by
  refine ⟨fun _ => ⟨_, rfl, by simp, fun i hi => ?_⟩, fun i => ?_⟩
  · rw [show (⟨w.heap.size, 0, none⟩ : Addr).add i = ⟨w.heap.size, i, none⟩ from by (unfold Addr.add; split <;> simp_all), box_cell]
    simp at hi
    obtain rfl | rfl | rfl : i = 0 ∨ i = 1 ∨ i = 2 := by omega
    all_goals rfl
  · unfold Small at hx hy hz
    by_cases h : i < 3
    · obtain rfl | rfl | rfl : i = 0 ∨ i = 1 ∨ i = 2 := by omega
      all_goals simp [ith]; omega
    · have h3 : [x, y, z].length ≤ i := by simp; omega
      simp [ith, List.getD, List.getElem?_eq_none h3]
theorem spaced1 : openV (openAt [16, 3, 0] 1 [(16 : Int), 3, 0].length) = .tuple #[.int .i64 2, .bool true] := by rfl
theorem spaced2 : vicV (vicAt [16, 3, 16] [4, 0, 2] [(16 : Int), 3, 16].length) = .tuple #[.int .i64 2, .bool true] := by rfl
theorem spaced3 : freeAt [16, 3, 0] [(16 : Int), 3, 0].length = 29 := by rfl
theorem open3 (A : Option Addr) (w : World) (hA : Ints w A [16, 3, 0]) :
    Calls Try.prog 26 #[.slice A 3 3, .int .i64 1] w fun e w' => e = .returned (.tuple #[.int .i64 2, .bool true]) ∧ w' = w := by
  have h := open_any A 3 [16, 3, 0] 1 (by simp) w hA
  rw [spaced1] at h
  exact h
theorem free3 (A : Option Addr) (w : World) (hA : Ints w A [16, 3, 0]) :
    Calls Try.prog 27 #[.slice A 3 3] w fun e w' => e = .returned (.int .i64 29) ∧ w' = w := by
  have h := free_any A 3 [16, 3, 0] (by simp) w hA
  rw [spaced3] at h
  exact h
theorem victim3 (A B : Option Addr) (w : World) (hA : Ints w A [16, 3, 16]) (hB : Ints w B [4, 0, 2]) :
    Calls Try.prog 30 #[.slice A 3 3, .slice B 3 3] w fun e w' => e = .returned (.tuple #[.int .i64 2, .bool true]) ∧ ∃ k, w' = w.drewN k := by
  have h := victim_any A B 3 3 [16, 3, 16] [4, 0, 2] (by simp) (by simp) w hA hB
  rw [spaced2] at h
  exact h

set_option maxRecDepth 100000 in
set_option maxHeartbeats 2000000 in
theorem spaced_yes (w : World) : Calls Try.prog 36 #[] w fun e w' => e = .returned (.bool true) ∧ Below w.heap.size w w' := by
  have HI1 : Hid (Ints _ _ _) := hide (ints3 w 16 3 0 (by unfold Small; omega) (by unfold Small; omega) (by unfold Small; omega))
  have HB1 : Hid (Below w.heap.size w (w.alloc (.cells #[.int .i64 16, .int .i64 3, .int .i64 0] 3))) := hide ((Below.refl _ _).alloc (Nat.le_refl _) _)
  go_enter Try.func36, Try.ntmps36
  go_upto_region 2 with (go_at_call 26; refine (open3 _ _ HI1.out).mono ?_; rintro e w1 ⟨rfl, rfl⟩)
  obtain ⟨w2, hw2⟩ : ∃ w2, w2 = w.alloc (.cells #[.int .i64 16, .int .i64 3, .int .i64 0] 3) := ⟨_, rfl⟩
  rw [← hw2] at HB1 ⊢
  clear HI1 hw2
  have HI2 := hide (ints3 w2 16 3 16 (by unfold Small; omega) (by unfold Small; omega) (by unfold Small; omega))
  have HI3 : Hid (Ints ((w2.alloc (.cells #[.int .i64 16, .int .i64 3, .int .i64 16] 3)).alloc (.cells #[.int .i64 4, .int .i64 0, .int .i64 2] 3)) (some ⟨w2.heap.size + 1, 0, none⟩) [4, 0, 2]) := hide (by
    have h := ints3 (w2.alloc (.cells #[.int .i64 16, .int .i64 3, .int .i64 16] 3)) 4 0 2 (by unfold Small; omega) (by unfold Small; omega) (by unfold Small; omega)
    have e : (w2.alloc (.cells #[.int .i64 16, .int .i64 3, .int .i64 16] 3)).heap.size = w2.heap.size + 1 := by simp
    rwa [e] at h)
  have HI2' := hide (HI2.out.below ((Below.refl _ _).alloc (Nat.le_refl _) (.cells #[.int .i64 4, .int .i64 0, .int .i64 2] 3)))
  have HB2 := hide (below_step HB1.out (((Below.refl w2.heap.size w2).alloc (Nat.le_refl _) (.cells #[.int .i64 16, .int .i64 3, .int .i64 16] 3)).alloc (Nat.le_of_lt (by simp)) (.cells #[.int .i64 4, .int .i64 0, .int .i64 2] 3)))
  go_upto_region 3 with (go_at_call 30; refine (victim3 _ _ _ HI2'.out HI3.out).mono ?_; rintro e w3 ⟨rfl, q, rfl⟩)
  obtain ⟨w4, hw4⟩ : ∃ w4, w4 = ((w2.alloc (.cells #[.int .i64 16, .int .i64 3, .int .i64 16] 3)).alloc (.cells #[.int .i64 4, .int .i64 0, .int .i64 2] 3)).drewN q := ⟨_, rfl⟩
  have HB4 : Hid (Below w.heap.size w w4) := hide (by rw [hw4]; exact ⟨HB2.out.os, HB2.out.tape, HB2.out.output, HB2.out.size, HB2.out.block⟩)
  rw [← hw4]
  clear HI2 HI3 HI2' HB2 hw4 HB1
  have HI5 := hide (ints3 w4 16 3 0 (by unfold Small; omega) (by unfold Small; omega) (by unfold Small; omega))
  have HB5 := hide (below_step HB4.out ((Below.refl w4.heap.size w4).alloc (Nat.le_refl _) (.cells #[.int .i64 16, .int .i64 3, .int .i64 0] 3)))
  go_wp2_with (go_at_call 27; refine (free3 _ _ HI5.out).mono ?_; rintro e w1 ⟨rfl, rfl⟩)
  go_ret
  exact ⟨rfl, HB5.out⟩
end Go.Proofs.Ytmligbaalbbgiaa

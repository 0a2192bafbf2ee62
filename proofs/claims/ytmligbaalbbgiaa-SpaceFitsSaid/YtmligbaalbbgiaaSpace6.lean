/- The function slices.IsSorted, at numbers that rise. Condition: at most 1000 numbers, rising. -/
import Derived.Test.YtmligbaalbbgiaaProg
import Derived.Test.YtmligbaalbbgiaaBase
import Derived.Test.YtmligbaalbbgiaaSpaceS
import Derived.Test.YtmligbaalbbgiaaSpace1
import Derived.Test.YtmligbaalbbgiaaSpace2
import Derived.Test.YtmligbaalbbgiaaSpace3
namespace Go.Proofs.Ytmligbaalbbgiaa
open Go.RowKit

theorem isNaN_no (n : Int) (w : World) : Calls Try.prog 65 #[.int .i64 n] w fun e w' => e = .returned (.bool false) ∧ w' = w := by
  have b : (n != n) = false := by simp
  go_enter Try.func65, Try.ntmps65
  go_wp2
  go_ret
  exact ⟨rfl, rfl⟩
theorem less_no (a b : Int) (h : b ≤ a) (w : World) : Calls Try.prog 53 #[.int .i64 a, .int .i64 b] w fun e w' => e = .returned (.bool false) ∧ w' = w := by
  have c : decide (a < b) = false := by simp; omega
  go_enter Try.func53, Try.ntmps53
  go_wp2_with (go_at_call 65; refine (isNaN_no _ _).mono ?_; rintro e w1 ⟨rfl, rfl⟩)
  go_ret
  exact ⟨rfl, rfl⟩

set_option maxRecDepth 100000 in
set_option maxHeartbeats 2000000 in
theorem isSorted_yes (A : Option Addr) (ca : Nat) (zs : List Int) (hl : zs.length ≤ 1000) (hs : ∀ i, i + 1 < zs.length → ith zs i ≤ ith zs (i + 1)) (w : World) (hA : Ints w A zs) :
    Calls Try.prog 37 #[.slice A zs.length ca] w fun e w' => e = .returned (.bool true) ∧ ∃ k, w' = w.drewN k := by
  have HA := hide hA
  have HS := hide hs
  clear hA hs
  go_enter Try.func37, Try.ntmps37
  go_wp2
  go_loopw [3] (fun i wr => ∃ I : Int, i = .int .i64 I ∧ -1 ≤ I ∧ I < zs.length ∧ ∃ k, wr = w.drewN k) (fun i _ => (intOf i + 1).toNat)
  case atStart => exact ⟨_, rfl, by omega, by omega, 0, rfl⟩
  case round =>
    obtain ⟨I, rfl, hI0, hI, q, rfl⟩ := hrel
    by_cases hp : 0 < I
    · have d0 : decide (0 < I) = true := by simpa using hp
      obtain ⟨j, rfl⟩ := Int.eq_ofNat_of_zero_le (Int.le_of_lt hp)
      have hj1 : 1 ≤ j := by omega
      have hjl : j < zs.length := by omega
      have HA1 := hide (HA.out.drewN q)
      obtain ⟨wa, hwa⟩ : ∃ wa, wa = w.drewN q := ⟨_, rfl⟩
      rw [← hwa] at HA1 ⊢
      have HWA := hide hwa
      clear hwa
      obtain ⟨a, rfl, ha, hcell⟩ := HA1.out.at_ (by omega)
      have cx := hcell j (by omega)
      have cy := hcell (j - 1) (by omega)
      obtain ⟨x, hx⟩ : ∃ x, x = ith zs j := ⟨_, rfl⟩
      obtain ⟨y, hy⟩ : ∃ y, y = ith zs (j - 1) := ⟨_, rfl⟩
      have hxy : Hid (y ≤ x) := hide (by have := HS.out (j - 1) (by omega); rw [hx, hy]; rwa [show j - 1 + 1 = j from by omega] at this)
      rw [← hx] at cx
      rw [← hy] at cy
      have b1 : (0 : Int) ≤ (j : Int) - 1 := by omega
      have b2 : (j : Int) - 1 < (zs.length : Int) := by omega
      have b3 : (j : Int) < (zs.length : Int) := by omega
      have t2 : ((j : Int) - 1).toNat = j - 1 := by omega
      have w2 : IntKind.i64.wrap ((j : Int) - 1) = (j : Int) - 1 := IntWalk.i64_in _ (by omega)
      clear hcell hx hy ha
      go_upto_region 4 with fail
      go_quiet ((go_at_call 53; exact Calls.quiet_of ((less_no _ _ hxy.out _).mono fun e w' ⟨he, hw⟩ => ⟨he, 0, hw⟩)))
      go_wp2
      exact ⟨⟨(j : Int) - 1, rfl, by omega, by omega, q + nq, by rw [HWA.out, drewN_drewN]⟩, by simp [intOf]⟩
    · have d0 : decide (0 < I) = false := by simpa using hp
      go_wp2
      go_ret
      exact ⟨rfl, q, rfl⟩
end Go.Proofs.Ytmligbaalbbgiaa

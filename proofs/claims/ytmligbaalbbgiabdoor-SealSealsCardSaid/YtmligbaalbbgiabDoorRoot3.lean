/- The function salternref.root. Conditions: the second or third root, of a number below 312. -/
import Derived.Test.YtmligbaalbbgiabDoorProg
import Derived.Test.YtmligbaalbbgiabDoorBase
import Derived.Test.YtmligbaalbbgiabDoorRootP
import Derived.Test.YtmligbaalbbgiabDoorRoot2
namespace Go.Proofs.YtmligbaalbbgiabDoor
open Go.RowKit

theorem root_top (p k : Nat) (hk2 : 2 ≤ k) (hk3 : k ≤ 3) (hp : p < 312) : p * 2 ^ (32 * k) < 1099511627776 ^ k := by
  have : k = 2 ∨ k = 3 := by omega
  rcases this with rfl | rfl <;> simp <;> omega

theorem above_int (X : Int) (x k p : Nat) (hX : X = (x : Int)) (hx : x ≤ 1099511627776) (hk2 : 2 ≤ k) (hk3 : k ≤ 3) (hp : p < 65536) (w : World) :
    Calls Tryd.prog 128 #[.int .u64 X, .int .i64 (k : Int), .int .u64 (p : Int)] w fun e w' => e = .returned (.bool (decide (p * 2 ^ (32 * k) < x ^ k))) ∧ Below w.heap.size w w' := by
  subst hX
  exact above_any x k p hx hk2 hk3 hp w

set_option maxRecDepth 100000 in
set_option maxHeartbeats 4000000 in
theorem root_any (p k : Nat) (hk2 : 2 ≤ k) (hk3 : k ≤ 3) (hp : p < 312) (w : World) :
    Calls Tryd.prog 80 #[.int .u64 (p : Int), .int .i64 (k : Int)] w fun e w' => (∃ low : Nat, e = .returned (.int .u32 ((low % 4294967296 : Nat) : Int)) ∧ IsRoot k (p * 2 ^ (32 * k)) low) ∧ Below w.heap.size w w' := by
  have hp2 : p < 65536 := by omega
  obtain ⟨P, hP⟩ : ∃ P, P = p * 2 ^ (32 * k) := ⟨_, rfl⟩
  have HT : Hid (P < 1099511627776 ^ k) := hide (by rw [hP]; exact root_top p k hk2 hk3 hp)
  have HP := hide hP
  clear hP
  have HK := hide hk2
  go_enter Tryd.func80, Tryd.ntmps80
  go_wp2
  go_loopw [5, 6] (fun l h wr => ∃ L H : Nat, l = .int .u64 (L : Int) ∧ h = .int .u64 (H : Int) ∧ L < H ∧ H ≤ 1099511627776 ∧ L ^ k ≤ P ∧ P < H ^ k ∧ Below w.heap.size w wr) (fun l h _ => (intOf h - intOf l).toNat)
  case atStart => exact ⟨0, 1099511627776, rfl, rfl, by omega, by omega, by rw [Nat.zero_pow (by have := HK.out; omega)]; omega, HT.out, Below.refl _ _⟩
  case round =>
    obtain ⟨wa, rfl⟩ : ∃ wa : World, wa = wr := ⟨_, rfl⟩
    obtain ⟨L, H, rfl, rfl, hlh, hH, hl1, hh1, hbel⟩ := hrel
    have HL1 := hide hl1
    have HH1 := hide hh1
    have HBE := hide hbel
    clear hl1 hh1 hbel
    by_cases hlt : L + 1 < H
    · have b0 : decide (L + 1 < H) = true := by simpa using hlt
      have b1 : decide ((L : Int) + 1 < (H : Int)) = true := by simp; omega
      obtain ⟨x, hx⟩ : ∃ x, x = (L + H) / 2 := ⟨_, rfl⟩
      have hx1 : Hid (((L : Int) + (H : Int)) / 2 = (x : Int)) := hide (by omega)
      have hx2 : x ≤ 1099511627776 := by omega
      have hx3 : L < x ∧ x < H := by omega
      clear hx
      by_cases hab : P < x ^ k
      · have d0 : Hid (decide (p * 2 ^ (32 * k) < x ^ k) = true) := hide (by rw [← HP.out]; simpa using hab)
        have HAB := hide hab
        clear hab
        go_wp2_with (go_at_call 128; (refine (above_int _ x k p hx1.out hx2 hk2 hk3 hp2 _).mono ?_; rintro e w1 ⟨rfl, hb1⟩; rw [d0.out]; have HB1 := hide (below_step HBE.out hb1); clear hb1))
        exact ⟨⟨L, x, rfl, by rw [hx1.out], by omega, hx2, HL1.out, HAB.out, HB1.out⟩, by have := hx1.out; simp [intOf]; omega⟩
      · have d0 : Hid (decide (p * 2 ^ (32 * k) < x ^ k) = false) := hide (by rw [← HP.out]; simpa using hab)
        have HAB : Hid (x ^ k ≤ P) := hide (by omega)
        clear hab
        go_wp2_with (go_at_call 128; (refine (above_int _ x k p hx1.out hx2 hk2 hk3 hp2 _).mono ?_; rintro e w1 ⟨rfl, hb1⟩; rw [d0.out]; have HB1 := hide (below_step HBE.out hb1); clear hb1))
        exact ⟨⟨x, H, by rw [hx1.out], rfl, by omega, hH, HAB.out, HH1.out, HB1.out⟩, by have := hx1.out; simp [intOf]; omega⟩
    · have b0 : decide (L + 1 < H) = false := by simpa using hlt
      have b1 : decide ((L : Int) + 1 < (H : Int)) = false := by simp; omega
      obtain rfl : H = L + 1 := by omega
      go_wp2
      go_ret
      refine ⟨⟨L, by simp, ?_, ?_⟩, HBE.out⟩
      · rw [← HP.out]; exact HL1.out
      · rw [← HP.out]; exact HH1.out
end Go.Proofs.YtmligbaalbbgiabDoor

/- slices.Equal and slices.IsSorted at numbers; salternkeep.sameFiles. Condition: what is compared can be read. -/
import Derived.Test.YtmligbaalbbgiabDoorEntryE
namespace Go.Proofs.YtmligbaalbbgiabDoor
open Go.RowKit

theorem isNaN_no (n : Int) (w : World) : Calls Tryd.prog 142 #[.int .i64 n] w fun e w' => e = .returned (.bool false) ∧ w' = w := by
  have b : (n != n) = false := by simp
  go_enter Tryd.func142, Tryd.ntmps142
  go_wp2
  go_ret
  exact ⟨rfl, rfl⟩
theorem less_no (a b : Int) (h : b ≤ a) (w : World) : Calls Tryd.prog 116 #[.int .i64 a, .int .i64 b] w fun e w' => e = .returned (.bool false) ∧ w' = w := by
  have c : decide (a < b) = false := by simp; omega
  go_enter Tryd.func116, Tryd.ntmps116
  go_wp2_with (go_at_call 142; refine (isNaN_no _ _).mono ?_; rintro e w1 ⟨rfl, rfl⟩)
  go_ret
  exact ⟨rfl, rfl⟩
theorem below_drewN {B : Nat} {a w : World} (h : Below B a w) (n : Nat) : Below B a (w.drewN n) := ⟨h.os, h.tape, h.output, h.size, h.block⟩
set_option maxRecDepth 100000 in
set_option maxHeartbeats 2000000 in
theorem isSorted_yes {w : World} {A : Option Addr} {n c : Nat} {zs : List Int} (h : IntsIn w A zs) (hn : n = zs.length) (hl : n ≤ 65536) (hs : ∀ i, i + 1 < zs.length → zs.getD i 0 ≤ zs.getD (i + 1) 0) :
    Calls Tryd.prog 63 #[.slice A n c] w fun e w' => e = .returned (.bool true) ∧ Below w.heap.size w w' := by
  have HA := hide h
  have HS := hide hs
  have HN := hide hn
  clear h hs hn
  go_enter Tryd.func63, Tryd.ntmps63
  go_wp2
  go_loopw [3] (fun i wr => ∃ I : Int, i = .int .i64 I ∧ -1 ≤ I ∧ I < n ∧ Below w.heap.size w wr) (fun i _ => (intOf i + 1).toNat)
  case atStart => exact ⟨_, rfl, by omega, by omega, Below.refl _ _⟩
  case round =>
    obtain ⟨I, rfl, hI0, hI, hb⟩ := hrel
    by_cases hp : 0 < I
    · have d0 : decide (0 < I) = true := by simpa using hp
      obtain ⟨j, rfl⟩ := Int.eq_ofNat_of_zero_le (Int.le_of_lt hp)
      have hj1 : 1 ≤ j := by omega
      have hjl : j < zs.length := by rw [← HN.out]; omega
      obtain ⟨a, rfl, ha, hcell⟩ := (HA.out.keep hb) (by omega)
      have cx := hcell j (by omega)
      have cy := hcell (j - 1) (by omega)
      obtain ⟨x, hx⟩ : ∃ x, x = zs.getD j 0 := ⟨_, rfl⟩
      obtain ⟨y, hy⟩ : ∃ y, y = zs.getD (j - 1) 0 := ⟨_, rfl⟩
      have hxy : Hid (y ≤ x) := hide (by have := HS.out (j - 1) (by omega); rw [hx, hy]; rwa [show j - 1 + 1 = j from by omega] at this)
      rw [← hx] at cx
      rw [← hy] at cy
      have b1 : (0 : Int) ≤ (j : Int) - 1 := by omega
      have b2 : (j : Int) - 1 < (n : Int) := by omega
      have b3 : (j : Int) < (n : Int) := by omega
      have t2 : ((j : Int) - 1).toNat = j - 1 := by omega
      have w2 : IntKind.i64.wrap ((j : Int) - 1) = (j : Int) - 1 := IntWalk.i64_in _ (by omega)
      have HB := hide hb
      clear hcell hx hy ha hb
      go_upto_region 4 with fail
      go_quiet ((go_at_call 116; exact Calls.quiet_of ((less_no _ _ hxy.out _).mono fun e w' ⟨he, hw⟩ => ⟨he, 0, hw⟩)))
      go_wp2
      exact ⟨⟨(j : Int) - 1, rfl, by omega, by omega, below_drewN HB.out _⟩, by simp [intOf]⟩
    · have d0 : decide (0 < I) = false := by simpa using hp
      have HB := hide hb
      clear hb
      go_wp2
      go_ret
      exact ⟨rfl, HB.out⟩

set_option maxRecDepth 100000 in
set_option maxHeartbeats 2000000 in
theorem equal_int {w : World} {a1 a2 : Option Addr} {n1 c1 n2 c2 : Nat} {l1 l2 : List Int} (h1 : IntsIn w a1 l1) (hn1 : n1 = l1.length) (h2 : IntsIn w a2 l2) (hn2 : n2 = l2.length) (hl : n1 ≤ 65536) :
    Calls Tryd.prog 101 #[.slice a1 n1 c1, .slice a2 n2 c2] w fun e w' => e = .returned (.bool (decide (l1 = l2))) ∧ Below w.heap.size w w' := by
  by_cases hll : l1.length = l2.length
  · have d1 : ((n1 : Int) != (n2 : Int)) = false := by rw [hn1, hn2, hll]; simp
    have d1' : (n1 != n2) = false := by rw [hn1, hn2, hll]; simp
    have hnn : n1 = n2 := by omega
    have H1 := hide h1
    have H2 := hide h2
    have HLL := hide hll
    have HN1 := hide hn1
    have HNN := hide hnn
    clear h1 h2 hll hn1 hn2 hnn
    go_enter Tryd.func101, Tryd.ntmps101
    go_wp2_with fail
    go_loopw [13] (fun i wr => ∃ I : Nat, i = .int .i64 (I : Int) ∧ I ≤ n1 ∧ (∀ j, j < I → l1.getD j 0 = l2.getD j 0) ∧ Below w.heap.size w wr) (fun i _ => n1 - (intOf i).toNat)
    case atStart => exact ⟨0, rfl, by omega, fun j hj => by omega, Below.refl _ _⟩
    case round =>
      obtain ⟨I, rfl, hI, hall, hb⟩ := hrel
      have HALL := hide hall
      have HB := hide hb
      by_cases hlt : I < n1
      · have d0 : decide (I < n1) = true := by simpa using hlt
        have hI1 : I < l1.length := by rw [← HN1.out]; exact hlt
        have hI2 : I < l2.length := by rw [← HLL.out]; exact hI1
        have hI2n : I < n2 := by rw [← HNN.out]; exact hlt
        obtain ⟨x1, rfl, -, k1⟩ := (H1.out.keep hb) (by omega)
        obtain ⟨x2, rfl, -, k2⟩ := (H2.out.keep hb) (by omega)
        replace k1 := k1 I hI1
        replace k2 := k2 I hI2
        obtain ⟨s1, hs1⟩ : ∃ s, s = l1.getD I 0 := ⟨_, rfl⟩
        obtain ⟨s2, hs2⟩ : ∃ s, s = l2.getD I 0 := ⟨_, rfl⟩
        rw [← hs1] at k1
        rw [← hs2] at k2
        have j1 : (I : Int) < (n1 : Int) := by omega
        have j2 : (I : Int) < (n2 : Int) := by omega
        have j0 : (0 : Int) ≤ (I : Int) := by omega
        have HS1 := hide hs1
        have HS2 := hide hs2
        have HI1 := hide hI1
        clear hall hb hs1 hs2 hI1 hI2
        by_cases hs : s1 = s2
        · subst hs
          have t0 : (s1 != s1) = false := by simp
          go_upto_region 6 with fail
          go_quiet (fail)
          go_wp2_with fail
          refine ⟨⟨I + 1, by go_num, by omega, fun j hj => ?_, ⟨HB.out.os, HB.out.tape, HB.out.output, HB.out.size, HB.out.block⟩⟩, by simp [intOf]; omega⟩
          rcases Nat.lt_succ_iff_lt_or_eq.1 hj with h | h
          · exact HALL.out j h
          · rw [h, ← HS1.out, ← HS2.out]
        · have t1 : (s1 != s2) = true := by simpa using hs
          have HNE := hide hs
          clear hs
          go_upto_region 6 with fail
          go_quiet (fail)
          go_wp2_with fail
          go_ret
          refine ⟨?_, ⟨HB.out.os, HB.out.tape, HB.out.output, HB.out.size, HB.out.block⟩⟩
          have : l1 ≠ l2 := fun e => HNE.out (by rw [HS1.out, HS2.out, e])
          simp [this]
      · obtain rfl : I = n1 := by omega
        have d0 : decide (I < I) = false := by simp
        have he : l1 = l2 := by
          apply List.ext_getElem HLL.out
          intro j hj1 hj2
          have := hall j (by rw [HN1.out]; exact hj1)
          simpa [List.getD, hj1, hj2] using this
        have HEE := hide he
        clear hall hb he hlt hI
        go_wp2_with fail
        go_ret
        refine ⟨?_, HB.out⟩
        have := HEE.out
        simp [this]
  · have d1 : ((n1 : Int) != (n2 : Int)) = true := by simp; omega
    have d1' : (n1 != n2) = true := by simp; omega
    have he : l1 ≠ l2 := fun e => hll (by rw [e])
    have HEE := hide he
    clear h1 h2 hl hn1 hn2 hll he
    go_enter Tryd.func101, Tryd.ntmps101
    go_wp2_with fail
    go_ret
    refine ⟨?_, Below.refl _ _⟩
    have := HEE.out
    simp [this]

theorem alikeF_iff (x y : FileD) : x.bare = y.bare ↔ x.name = y.name ∧ x.size = y.size ∧ x.cells = y.cells := by
  unfold FileD.bare
  constructor
  · intro h
    injection h with h1 h2 _ _ h3
    exact ⟨h1, h2, h3⟩
  · rintro ⟨h1, h2, h3⟩
    rw [h1, h2, h3]
end Go.Proofs.YtmligbaalbbgiabDoor

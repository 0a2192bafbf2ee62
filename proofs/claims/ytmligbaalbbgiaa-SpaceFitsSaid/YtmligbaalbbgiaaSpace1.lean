/- The functions space.Open, salternref.Room, space.Free, salternref.Free. Conditions: at most 20 zones, whose numbers are numbers of Go. -/
import Derived.Test.YtmligbaalbbgiaaProg
import Derived.Test.YtmligbaalbbgiaaBase
import Derived.Test.YtmligbaalbbgiaaSpaceS
import Derived.ChangeSlices
namespace Go.Proofs.Ytmligbaalbbgiaa
open Go.RowKit

/-- A slice's numbers. -/
structure Ints (w : World) (A : Option Addr) (zs : List Int) : Prop where
  at_ : 0 < zs.length → ∃ a, A = some a ∧ a.block < w.heap.size ∧ ∀ i, i < zs.length → w.cell? (a.add i) = some (.int .i64 (ith zs i))
  wf : ∀ i, -9223372036854775808 ≤ ith zs i ∧ ith zs i ≤ 9223372036854775807
theorem Ints.below {w w' : World} {A : Option Addr} {zs : List Int} (h : Ints w A zs) (hb : Below w.heap.size w w') : Ints w' A zs := by
  refine ⟨fun hl => ?_, h.wf⟩
  obtain ⟨a, h1, h2, h3⟩ := h.at_ hl
  refine ⟨a, h1, Nat.lt_of_lt_of_le h2 hb.size, fun i hi => ?_⟩
  exact (hb.cell (p := a.add i) (by rw [Go.ChangeShapes.block_add]; exact h2)).trans (h3 i hi)
theorem Ints.drewN {w : World} {A : Option Addr} {zs : List Int} (h : Ints w A zs) (n : Nat) : Ints (w.drewN n) A zs := ⟨h.at_, h.wf⟩
/-- What Open answers. -/
def openV (o : Option Nat) : Value := match o with
  | some v => .tuple #[.int .i64 (v : Int), .bool true]
  | none => .tuple #[.int .i64 0, .bool false]

set_option maxRecDepth 100000 in
set_option maxHeartbeats 2000000 in
theorem open_any (A : Option Addr) (cap : Nat) (zs : List Int) (but : Int) (hl : zs.length ≤ 20) (w : World) (hA : Ints w A zs) :
    Calls Try.prog 26 #[.slice A zs.length cap, .int .i64 but] w fun e w' => e = .returned (openV (openAt zs but zs.length)) ∧ w' = w := by
  have HA := hide hA
  clear hA
  go_enter Try.func26, Try.ntmps26
  go_wp2
  go_loopw [10] (fun i wr => ∃ I : Nat, i = .int .i64 (I : Int) ∧ I ≤ zs.length ∧ openAt zs but I = none ∧ wr = w) (fun i _ => zs.length - (intOf i).toNat)
  case atStart => exact ⟨0, rfl, by omega, rfl, rfl⟩
  case round =>
    obtain ⟨I, rfl, hI, ho, rfl⟩ := hrel
    by_cases hlt : I < zs.length
    · have d0 : decide (I < zs.length) = true := by simpa using hlt
      obtain ⟨a, rfl, ha, hcell⟩ := HA.out.at_ (by omega)
      have cx := hcell I hlt
      obtain ⟨z, hz⟩ : ∃ z, z = ith zs I := ⟨_, rfl⟩
      rw [← hz] at cx
      have HZ := hide hz
      have HO := hide ho
      clear hcell ha hz ho
      by_cases hz16 : z < 16
      · have d1 : decide (z < 16) = true := by simpa using hz16
        by_cases hb : (I : Int) = but
        · have d2 : ((I : Int) != but) = false := by rw [hb]; simp
          have HN : Hid (openAt zs but (I + 1) = none) := hide (openAt_next HO.out (fun h => h.2 hb))
          clear hb
          go_wp2
          exact ⟨⟨I + 1, by go_num, by omega, HN.out, trivial⟩, by simp [intOf]; omega⟩
        · have d2 : ((I : Int) != but) = true := by simpa using hb
          have HN : Hid (openAt zs but zs.length = some I) := hide (openAt_first HO.out hlt (by rw [← HZ.out]; exact hz16) hb)
          clear hb
          go_wp2
          go_ret2
          exact ⟨by rw [HN.out]; rfl, rfl⟩
      · have d1 : decide (z < 16) = false := by simpa using hz16
        have HN : Hid (openAt zs but (I + 1) = none) := hide (openAt_next HO.out (fun h => hz16 (by rw [HZ.out]; exact h.1)))
        go_wp2
        exact ⟨⟨I + 1, by go_num, by omega, HN.out, trivial⟩, by simp [intOf]; omega⟩
    · obtain rfl : I = zs.length := by omega
      have d0 : decide (zs.length < zs.length) = false := by simp
      have HO := hide ho
      clear ho
      go_wp2
      go_ret2
      exact ⟨by rw [HO.out]; rfl, rfl⟩
set_option maxRecDepth 100000 in
set_option maxHeartbeats 2000000 in
theorem room_any (A : Option Addr) (cap : Nat) (zs : List Int) (but : Int) (hl : zs.length ≤ 20) (w : World) (hA : Ints w A zs) :
    Calls Try.prog 25 #[.slice A zs.length cap, .int .i64 but] w fun e w' => e = .returned (openV (openAt zs but zs.length)) ∧ w' = w := by
  have HA := hide hA
  clear hA
  go_enter Try.func25, Try.ntmps25
  go_wp2
  go_loopw [9] (fun i wr => ∃ I : Nat, i = .int .i64 (I : Int) ∧ I ≤ zs.length ∧ openAt zs but I = none ∧ wr = w) (fun i _ => zs.length - (intOf i).toNat)
  case atStart => exact ⟨0, rfl, by omega, rfl, rfl⟩
  case round =>
    obtain ⟨I, rfl, hI, ho, rfl⟩ := hrel
    by_cases hlt : I < zs.length
    · have d0 : decide (I < zs.length) = true := by simpa using hlt
      obtain ⟨a, rfl, ha, hcell⟩ := HA.out.at_ (by omega)
      have cx := hcell I hlt
      obtain ⟨z, hz⟩ : ∃ z, z = ith zs I := ⟨_, rfl⟩
      rw [← hz] at cx
      have HZ := hide hz
      have HO := hide ho
      clear hcell ha hz ho
      by_cases hb : (I : Int) = but
      · have d2 : ((I : Int) != but) = false := by rw [hb]; simp
        have HN : Hid (openAt zs but (I + 1) = none) := hide (openAt_next HO.out (fun h => h.2 hb))
        clear hb
        go_wp2
        exact ⟨⟨I + 1, by go_num, by omega, HN.out, trivial⟩, by simp [intOf]; omega⟩
      · have d2 : ((I : Int) != but) = true := by simpa using hb
        by_cases hz16 : z < 16
        · have d1 : decide (z < 16) = true := by simpa using hz16
          have HN : Hid (openAt zs but zs.length = some I) := hide (openAt_first HO.out hlt (by rw [← HZ.out]; exact hz16) hb)
          clear hb
          go_wp2
          go_ret2
          exact ⟨by rw [HN.out]; rfl, rfl⟩
        · have d1 : decide (z < 16) = false := by simpa using hz16
          have HN : Hid (openAt zs but (I + 1) = none) := hide (openAt_next HO.out (fun h => hz16 (by rw [HZ.out]; exact h.1)))
          clear hb
          go_wp2
          exact ⟨⟨I + 1, by go_num, by omega, HN.out, trivial⟩, by simp [intOf]; omega⟩
    · obtain rfl : I = zs.length := by omega
      have d0 : decide (zs.length < zs.length) = false := by simp
      have HO := hide ho
      clear ho
      go_wp2
      go_ret2
      exact ⟨by rw [HO.out]; rfl, rfl⟩
set_option maxRecDepth 100000 in
set_option maxHeartbeats 2000000 in
theorem free_any (A : Option Addr) (cap : Nat) (zs : List Int) (hl : zs.length ≤ 20) (w : World) (hA : Ints w A zs) :
    Calls Try.prog 27 #[.slice A zs.length cap] w fun e w' => e = .returned (.int .i64 (freeAt zs zs.length)) ∧ w' = w := by
  have HA := hide hA
  clear hA
  go_enter Try.func27, Try.ntmps27
  go_wp2
  go_loopw [3, 8] (fun n i wr => ∃ I : Nat, i = .int .i64 (I : Int) ∧ I ≤ zs.length ∧ n = .int .i64 (freeAt zs I) ∧ wr = w) (fun _ i _ => zs.length - (intOf i).toNat)
  case atStart => exact ⟨0, rfl, by omega, rfl, rfl⟩
  case round =>
    obtain ⟨I, rfl, hI, rfl, rfl⟩ := hrel
    by_cases hlt : I < zs.length
    · have d0 : decide (I < zs.length) = true := by simpa using hlt
      obtain ⟨a, rfl, ha, hcell⟩ := HA.out.at_ (by omega)
      have cx := hcell I hlt
      have hw := HA.out.wf I
      obtain ⟨z, hz⟩ : ∃ z, z = ith zs I := ⟨_, rfl⟩
      rw [← hz] at cx hw
      have hF := freeAt_bounds zs I
      have HN : Hid (freeAt zs (I + 1) = freeAt zs I + max (16 - max z 0) 0) := hide (by rw [hz]; rfl)
      obtain ⟨F, hFe⟩ : ∃ F, F = freeAt zs I := ⟨_, rfl⟩
      rw [← hFe] at hF HN ⊢
      clear hcell ha hz hFe
      go_wp2
      refine ⟨⟨I + 1, by go_num, by omega, ?_, trivial⟩, by simp [intOf]; omega⟩
      rw [HN.out]
      congr 1
      omega
    · obtain rfl : I = zs.length := by omega
      have d0 : decide (zs.length < zs.length) = false := by simp
      go_wp2
      go_ret
      exact ⟨rfl, rfl⟩
set_option maxRecDepth 100000 in
set_option maxHeartbeats 2000000 in
theorem refFree_any (A : Option Addr) (cap : Nat) (zs : List Int) (hl : zs.length ≤ 20) (w : World) (hA : Ints w A zs) :
    Calls Try.prog 28 #[.slice A zs.length cap] w fun e w' => e = .returned (.int .i64 (freeAt zs zs.length)) ∧ w' = w := by
  have HA := hide hA
  clear hA
  go_enter Try.func28, Try.ntmps28
  go_wp2
  go_loopw [3, 8] (fun n i wr => ∃ I : Nat, i = .int .i64 (I : Int) ∧ I ≤ zs.length ∧ n = .int .i64 (freeAt zs I) ∧ wr = w) (fun _ i _ => zs.length - (intOf i).toNat)
  case atStart => exact ⟨0, rfl, by omega, rfl, rfl⟩
  case round =>
    obtain ⟨I, rfl, hI, rfl, rfl⟩ := hrel
    by_cases hlt : I < zs.length
    · have d0 : decide (I < zs.length) = true := by simpa using hlt
      obtain ⟨a, rfl, ha, hcell⟩ := HA.out.at_ (by omega)
      have cx := hcell I hlt
      have hw := HA.out.wf I
      obtain ⟨z, hz⟩ : ∃ z, z = ith zs I := ⟨_, rfl⟩
      rw [← hz] at cx hw
      have hF := freeAt_bounds zs I
      have HN : Hid (freeAt zs (I + 1) = freeAt zs I + max (16 - max z 0) 0) := hide (by rw [hz]; rfl)
      obtain ⟨F, hFe⟩ : ∃ F, F = freeAt zs I := ⟨_, rfl⟩
      rw [← hFe] at hF HN ⊢
      clear hcell ha hz hFe
      by_cases h0 : z < 0
      · have d1 : decide (z < 0) = true := by simpa using h0
        go_wp2
        refine ⟨⟨I + 1, by go_num, by omega, ?_, trivial⟩, by simp [intOf]; omega⟩
        rw [HN.out]
        congr 1
        omega
      · have d1 : decide (z < 0) = false := by simpa using h0
        by_cases h16 : z < 16
        · have d2 : decide (z < 16) = true := by simpa using h16
          go_wp2
          refine ⟨⟨I + 1, by go_num, by omega, ?_, trivial⟩, by simp [intOf]; omega⟩
          rw [HN.out]
          congr 1
          omega
        · have d2 : decide (z < 16) = false := by simpa using h16
          go_wp2
          refine ⟨⟨I + 1, by go_num, by omega, ?_, trivial⟩, by simp [intOf]; omega⟩
          rw [HN.out]
          congr 1
          omega
    · obtain rfl : I = zs.length := by omega
      have d0 : decide (zs.length < zs.length) = false := by simp
      go_wp2
      go_ret
      exact ⟨rfl, rfl⟩
end Go.Proofs.Ytmligbaalbbgiaa

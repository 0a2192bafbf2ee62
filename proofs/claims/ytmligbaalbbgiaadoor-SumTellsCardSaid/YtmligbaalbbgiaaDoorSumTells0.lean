/- The walk of salternlaw.SumTells: it returns true. Conditions: the packages sum and math/bits have laid their variables. -/
import Derived.Test.YtmligbaalbbgiaaDoorProg
import Derived.Test.YtmligbaalbbgiaaDoorBase
import Derived.Test.YtmligbaalbbgiaaDoorFmt1
import Derived.Test.YtmligbaalbbgiaaDoorSum6
import Derived.Test.YtmligbaalbbgiaaDoorRefSum3
import Derived.Test.YtmligbaalbbgiaaDoorRoot5
import Derived.Test.YtmligbaalbbgiaaDoorLong0
namespace Go.Proofs.YtmligbaalbbgiaaDoor
open Go.RowKit

theorem strs_kept {A : Option Addr} {ps : List ByteArray} {w w' : World} (hA : 0 < ps.length → ∃ a, A = some a ∧ a.block < w.heap.size ∧ StrCells w a ps) (hb : Below w.heap.size w w') :
    0 < ps.length → ∃ a, A = some a ∧ a.block < w'.heap.size ∧ StrCells w' a ps := fun h => by
  obtain ⟨a, h1, h2, h3⟩ := hA h
  refine ⟨a, h1, Nat.lt_of_lt_of_le h2 hb.size, fun i hi => ?_⟩
  exact (hb.cell (p := a.add i) (by rw [Go.ChangeShapes.block_add]; exact h2)).trans (h3 i hi)

set_option maxRecDepth 100000 in
set_option maxHeartbeats 4000000 in
theorem tells_wide (A : Option Addr) (len cap : Nat) (s : ByteArray) (n k : Int) (h : 400 < s.size ∨ 10 < len) (w : World) :
    Calls Tryd.prog 7 #[.string s, .int .i64 n, .int .u8 k, .slice A len cap] w fun e w' => e = .returned (.bool true) ∧ w = w' := by
  by_cases h1 : 400 < s.size
  · have c1 : decide (400 < s.size) = true := by simpa using h1
    clear h
    go_enter Tryd.func7, Tryd.ntmps7
    go_wp2_with fail
    go_ret
    exact ⟨rfl, rfl⟩
  · have c1 : decide (400 < s.size) = false := by simpa using h1
    have h2 : 10 < len := by omega
    have c2 : decide (10 < len) = true := by simpa using h2
    clear h
    go_enter Tryd.func7, Tryd.ntmps7
    go_wp2_with fail
    go_ret
    exact ⟨rfl, rfl⟩

set_option maxRecDepth 100000 in
set_option maxHeartbeats 4000000 in
theorem tells_good (A : Option Addr) (ps : List ByteArray) (cap : Nat) (s : ByteArray) (n : Int) (kind : UInt8) (h1 : s.size ≤ 400) (h2 : ps.length ≤ 10) (w : World)
    (hA : 0 < ps.length → ∃ a, A = some a ∧ a.block < w.heap.size ∧ StrCells w a ps) (hR : LaidR w) (hB : LaidB w) :
    Calls Tryd.prog 7 #[.string s, .int .i64 n, .int .u8 (kind.toNat : Int), .slice A ps.length cap] w fun e w' => e = .returned (.bool true) ∧ Below w.heap.size w w' := by
  have HA := hide hA
  have HR := hide hR
  have HB := hide hB
  have HS : Hid (s.size ≤ 400) := hide h1
  have c1 : decide (400 < s.size) = false := by simp; omega
  have c2 : decide (10 < ps.length) = false := by simp; omega
  clear hA hR hB
  go_enter Tryd.func7, Tryd.ntmps7
  go_wp2_with fail
  go_loopw [9] (fun i wr => ∃ I : Nat, i = .int .i64 (I : Int) ∧ I ≤ ps.length ∧ (∀ j, j < I → (ps.getD j ⟨#[]⟩).size ≤ 60) ∧ wr = w) (fun i _ => ps.length - (intOf i).toNat)
  case atStart => exact ⟨0, rfl, by omega, fun j hj => by omega, rfl⟩
  case round =>
    obtain ⟨I, rfl, hI, hall, rfl⟩ := hrel
    have HALL := hide hall
    clear hall
    by_cases hlt : I < ps.length
    · have d0 : decide (I < ps.length) = true := by simpa using hlt
      obtain ⟨a, rfl, ha, hcell⟩ := HA.out (by omega)
      have cx := hcell I hlt
      obtain ⟨p, hp⟩ : ∃ p, p = ps.getD I ⟨#[]⟩ := ⟨_, rfl⟩
      rw [← hp] at cx
      have HP := hide hp
      clear hp hcell ha
      by_cases hl : 60 < p.size
      · have HL := hide hl
        clear hl
        go_wp2_with (go_at_call 17; refine (long_yes _ HL.out _).mono ?_; rintro e w1 ⟨rfl, rfl⟩)
        go_ret
        exact ⟨rfl, Below.refl _ _⟩
      · have HL : Hid (p.size ≤ 60) := hide (by omega)
        clear hl
        go_wp2_with (go_at_call 17; refine (long_no _ HL.out _).mono ?_; rintro e w1 ⟨rfl, rfl⟩)
        refine ⟨⟨I + 1, by go_num, by omega, fun j hj => ?_, trivial⟩, by simp [intOf]; omega⟩
        rcases Nat.lt_succ_iff_lt_or_eq.1 hj with h | h
        · exact HALL.out j h
        · rw [h, ← HP.out]; exact HL.out
    · obtain rfl : I = ps.length := by omega
      have d0 : decide (ps.length < ps.length) = false := by simp
      have HP : Hid (∀ p ∈ ps, p.size ≤ 4096) := hide (by
        intro p hp
        obtain ⟨j, hj, rfl⟩ := List.getElem_of_mem hp
        have := HALL.out j hj
        have e : ps.getD j ⟨#[]⟩ = ps[j] := by simp [List.getD, hj]
        rw [e] at this
        omega)
      have H10 := hide h2
      obtain ⟨S, hS⟩ : ∃ S, S = ofl (sumBy kS h0S (bl s)) := ⟨_, rfl⟩
      obtain ⟨X, hX⟩ : ∃ X, X = ofl (hexS (bl s)) := ⟨_, rfl⟩
      obtain ⟨N, hN⟩ : ∃ N, N = ofl (be8U (n % 18446744073709551616).toNat 8) := ⟨_, rfl⟩
      obtain ⟨M, hM⟩ : ∃ M, M = ofl ((sumBy kS h0S (markT kind ps ps.length)).take 16) := ⟨_, rfl⟩
      have HSd := hide hS
      have HXd := hide hX
      have HNd := hide hN
      have HMd := hide hM
      have HBE : Hid (Below wr.heap.size wr wr) := hide (Below.refl _ _)
      clear hS hX hN hM hlt hI
      go_wp2_with (first
        | (go_at_call 27; go_loud (refine (new_any _).mono ?_; rintro e w1 ⟨rfl, hr1, hb1⟩; have HW1 := hide hr1; have HB1 := hide hb1; clear hb1 hr1))
        | (go_at_call 14; go_loud (refine (sum_any s (by have := HS.out; omega) _ (HR.out.of_block (HB1.out.block _ HR.out.lt))).mono ?_; rintro e w2 ⟨rfl, hb2⟩; rw [← HSd.out]; have HB2 := hide (below_step HB1.out hb2); have HW2 := hide (HW1.out.below hb2 HW1.out.lt); clear hb2))
        | (go_at_call 29; go_loud (refine (refsum_any s (by have := HS.out; omega) _ _ HW2.out).mono ?_; rintro e w3 ⟨rfl, hb3⟩; rw [← HSd.out]; have HB3 := hide (below_step HB2.out hb3); have HW3 := hide (HW2.out.below hb3 HW2.out.lt); clear hb3))
        | (go_at_call 30; go_loud (refine (Hex_any s (by have := HS.out; omega) _).mono ?_; rintro e w4 ⟨rfl, hb4⟩; rw [← HXd.out]; have HB4 := hide (below_step HB3.out hb4); have HW4 := hide (HW3.out.below hb4 HW3.out.lt); clear hb4))
        | (go_at_call 31; go_loud (refine (refHex_any s (by have := HS.out; omega) _ (by unfold LaidB; exact (HB4.out.cell (p := ⟨5, 15, none⟩) (block_lt_of_cell HB.out)).trans HB.out)).mono ?_; rintro e w5 ⟨rfl, hb5⟩; rw [← HXd.out]; have HB5 := hide (below_step HB4.out hb5); have HW5 := hide (HW4.out.below hb5 HW4.out.lt); clear hb5))
        | (go_at_call 32; go_loud (refine (num_any n _).mono ?_; rintro e w6 ⟨rfl, hb6⟩; rw [← HNd.out]; have HB6 := hide (below_step HB5.out hb6); have HW6 := hide (HW5.out.below hb6 HW5.out.lt); clear hb6))
        | (go_at_call 33; go_loud (refine (refnum_any n _).mono ?_; rintro e w7 ⟨rfl, hb7⟩; rw [← HNd.out]; have HB7 := hide (below_step HB6.out hb7); have HW7 := hide (HW6.out.below hb7 HW6.out.lt); clear hb7))
        | (go_at_call 15; go_loud (refine (mark_opt kind ps H10.out HP.out A _ _ (HR.out.of_block (HB7.out.block _ HR.out.lt)) (strs_kept HA.out HB7.out)).mono ?_; rintro e w8 ⟨rfl, hb8⟩; rw [← HMd.out]; have HB8 := hide (below_step HB7.out hb8); have HW8 := hide (HW7.out.below hb8 HW7.out.lt); clear hb8))
        | (go_at_call 34; go_loud (refine (refmark_opt kind ps H10.out HP.out A _ _ _ HW8.out (strs_kept HA.out HB8.out)).mono ?_; rintro e w9 ⟨rfl, hb9⟩; rw [← HMd.out]; have HB9 := hide (below_step HB8.out hb9); clear hb9)))
      go_ret
      exact ⟨rfl, HB9.out⟩
theorem tells_any (A : Option Addr) (ps : List ByteArray) (cap : Nat) (s : ByteArray) (n : Int) (kind : UInt8) (w : World)
    (hA : 0 < ps.length → ∃ a, A = some a ∧ a.block < w.heap.size ∧ StrCells w a ps) (hR : LaidR w) (hB : LaidB w) :
    Calls Tryd.prog 7 #[.string s, .int .i64 n, .int .u8 (kind.toNat : Int), .slice A ps.length cap] w fun e w' => e = .returned (.bool true) ∧ Below w.heap.size w w' := by
  by_cases h : 400 < s.size ∨ 10 < ps.length
  · exact (tells_wide A ps.length cap s n _ h w).mono fun e w' ⟨he, hw⟩ => ⟨he, hw ▸ Below.refl _ _⟩
  · exact tells_good A ps cap s n kind (by omega) (by omega) w hA hR hB
end Go.Proofs.YtmligbaalbbgiaaDoor

/- The functions salternkeep.pick and salternkeep.streamed. -/
import Derived.Test.YtmligbaalbbgiaaProg
import Derived.Test.YtmligbaalbbgiaaBase
import Derived.Test.YtmligbaalbbgiaaHex
import Derived.Test.YtmligbaalbbgiaaStream5
namespace Go.Proofs.Ytmligbaalbbgiaa
open Go.RowKit

def keyL (k : Nat) : List UInt8 := (List.range k).map UInt8.ofNat
theorem keyL_succ (k : Nat) : keyL (k + 1) = keyL k ++ [UInt8.ofNat k] := by simp [keyL, List.range_succ]

def nonceL : List UInt8 := [0, 0, 0, 9, 0, 0, 0, 74, 0, 0, 0, 0]
theorem known1 : hexS ((block64 (keyL 32) nonceL 1).take 16) = [49, 48, 102, 49, 101, 55, 101, 52, 100, 49, 51, 98, 53, 57, 49, 53, 53, 48, 48, 102, 100, 100, 49, 102, 97, 51, 50, 48, 55, 49, 99, 52] := by decide +kernel
theorem known2 : hexS ((block64 (keyL 32) nonceL 1).drop 60) = [97, 50, 53, 48, 51, 99, 52, 101] := by decide +kernel

set_option maxRecDepth 100000 in
set_option maxHeartbeats 1000000 in
theorem streamed_any (w : World) : Calls Try.prog 8 #[] w fun e w' => e = .returned (.bool true) ∧ Below w.heap.size w w' := by
  go_enter Try.func8, Try.ntmps8
  go_wp2
  go_loopw [1, 5] (fun s i wr => ∃ k : Nat, k ≤ 32 ∧ i = .int .i64 (k : Int) ∧ s = .string (ofl (keyL k)) ∧ Below w.heap.size w wr) (fun _ i _ => 32 - (intOf i).toNat)
  case atStart => exact ⟨0, by omega, rfl, rfl, Below.refl _ _⟩
  case round =>
    obtain ⟨k, hk, rfl, rfl, hbel⟩ := hrel
    have hl : (keyL k).length = k := by simp [keyL]
    by_cases hlt : k < 32
    · have hcv := run_string_one (P := Try.prog) wr 69 9 5 k Try.underlying69 Try.underlying5 Try.underlying9
      have ha := keyL_succ k
      have HA := hide ha
      obtain ⟨S, hS⟩ : ∃ S, S = ofl (keyL k) := ⟨_, rfl⟩
      rw [← hS]
      have hsz : S.size ≤ 32 := by rw [hS, ofl_size]; omega
      have HS := hide hS
      obtain ⟨C, hC⟩ : ∃ C, C = ofl [UInt8.ofNat k] := ⟨_, rfl⟩
      rw [← hC] at hcv
      have hcs : C.size ≤ 1 := by rw [hC, ofl_size]; exact Nat.le_refl _
      have HC := hide hC
      clear ha hS hl hC
      go_wp2
      go_roundw
      case rel =>
        refine ⟨k + 1, by omega, by go_num, ?_, hbel.alloc hbel.size _⟩
        rw [HS.out, HC.out, ofl_append, HA.out]
      case measure => simp [intOf]; omega
    · obtain rfl : k = 32 := by omega
      obtain ⟨S, hS⟩ : ∃ S, S = ofl (keyL 32) := ⟨_, rfl⟩
      rw [← hS, show ((32 : Nat) : Int) = 32 from rfl]
      have hsz : S.size = 32 := by rw [hS, ofl_size]; exact hl
      have hb : bl S = keyL 32 := by rw [hS]; rfl
      have HS := hide hsz
      have HB := hide hb
      clear hS hl hsz hb hlt hk
      obtain ⟨T, hT⟩ : ∃ T, T = ofl (block64 (bl S) (bl { data := #[0, 0, 0, 9, 0, 0, 0, 74, 0, 0, 0, 0] }) (1 : Int).toNat) := ⟨_, rfl⟩
      have hTs : T.size = 64 := by rw [hT, ofl_size, block64_length]
      have b1 : ((T.size : Int) == 64) = true := by rw [hTs]; rfl
      have b2 : T.size ≤ 64 := by omega
      have b3 : 64 ≤ T.size := by omega
      have hTb : bl T = block64 (keyL 32) nonceL 1 := by rw [hT, bl_ofl, HB.out]; rfl
      have e1 : ofl (hexS (bl (T.extract 0 16))) = { data := #[49, 48, 102, 49, 101, 55, 101, 52, 100, 49, 51, 98, 53, 57, 49, 53, 53, 48, 48, 102, 100, 100, 49, 102, 97, 51, 50, 48, 55, 49, 99, 52] } := by
        rw [bl_extract, hTb, List.drop_zero, known1]; rfl
      have e2 : ofl (hexS (bl (T.extract 60 T.size))) = { data := #[97, 50, 53, 48, 51, 99, 52, 101] } := by
        rw [bl_extract, hTb, List.take_of_length_le (by rw [List.length_drop, block64_length]; omega), known2]; rfl
      have HT := hide hT
      have HE1 := hide e1
      have HE2 := hide e2
      clear hT hTs hTb e1 e2
      have hcall := Block_int S { data := #[0, 0, 0, 9, 0, 0, 0, 74, 0, 0, 0, 0] } 1 HS.out (by decide) (by omega) (by omega) wr
      rw [← HT.out] at hcall
      have HCALL := hide hcall
      clear hcall
      go_wp2_with (first
        | (go_at_call 9; refine (HCALL.out).mono ?_; rintro e w1 ⟨rfl, hb1⟩)
        | (go_at_call 38; refine (Hex_any _ (by simp; omega) _).mono ?_; rintro e w2 ⟨rfl, hb2⟩; first | (rw [HE1.out]; have HB2 := hide hb2) | (rw [HE2.out]; have HB3 := hide hb2)))
      go_ret
      have hb2 := HB2.out
      have hb3 := HB3.out
      exact ⟨rfl, hbel.trans (((hb1.trans (hb2.mono hb1.size)).trans (hb3.mono (Nat.le_trans hb1.size hb2.size))).mono hbel.size)⟩
end Go.Proofs.Ytmligbaalbbgiaa

/- The function sum.Num: a number's eight bytes. No condition. -/
import Derived.Test.YtmligbaalbbgiabDoorProg
import Derived.Test.YtmligbaalbbgiabDoorBase
import Derived.Test.YtmligbaalbbgiabDoorShaT
import Derived.Test.YtmligbaalbbgiabDoorSum3
namespace Go.Proofs.YtmligbaalbbgiabDoor
open Go.RowKit

set_option maxRecDepth 100000 in
set_option maxHeartbeats 1000000 in
theorem num_any (n : Int) (w : World) :
    Calls Tryd.prog 76 #[.int .i64 n] w fun e w' => e = .returned (.string (ofl (be8U (n % 18446744073709551616).toNat 8))) ∧ Below w.heap.size w w' := by
  obtain ⟨i0, hi0, hz0, hz1, hz2⟩ := info_parts info_u8s
  obtain ⟨X, hX⟩ : ∃ X : Nat, n % 18446744073709551616 = (X : Int) := ⟨(n % 18446744073709551616).toNat, by omega⟩
  have hXl : X < 18446744073709551616 := by omega
  rw [show (n % 18446744073709551616).toNat = X from by omega]
  have hwr : IntKind.u64.wrap n = (X : Int) := by
    rw [← hX]
    simp [IntKind.wrap, IntKind.bits, IntKind.signed]
  clear hX hXl
  go_enter Tryd.func76, Tryd.ntmps76
  go_wp2
  go_loopw [3, 4] (fun v i wr => ∃ k : Nat, k ≤ 8 ∧ i = .int .i64 (7 - (k : Int)) ∧ Below w.heap.size w wr ∧ wr.ownsRow w.heap.size 5 1 v k (bytesV (be8U X k))) (fun _ i _ => (intOf i + 1).toNat)
  case atStart => exact ⟨0, by omega, rfl, Below.refl _ _, World.ownsRow_nil _ _ _ _⟩
  case round =>
    obtain ⟨wa, rfl⟩ : ∃ wa : World, wa = wr := ⟨_, rfl⟩
    obtain ⟨k, hk, rfl, hbel, hown⟩ := hrel
    by_cases hk8 : k < 8
    · have b0 : decide ((0 : Int) ≤ 7 - (k : Int)) = true := by simp; omega
      have b2 : (0 : Int) ≤ 8 * (7 - (k : Int)) := by omega
      have b3 : 8 * (7 - (k : Int)) < 64 := by omega
      have b4 : (8 * (7 - (k : Int))).toNat = 8 * (7 - k) := by omega
      have e1 : bytesV [UInt8.ofNat (X / 2 ^ (8 * (7 - k)) % 256)] = [Value.int .u8 ((X : Int) / 2 ^ (8 * (7 - k)) % 256)] := by
        rw [bytesV_one _ (Nat.mod_lt _ (by omega))]
        simp
      have E1 := hide e1
      have HBE := hide hbel
      clear e1 hbel
      go_wp2_with (at_builtin; go_loud (refine wpList_append_own _ rfl (.tmp 9) (.tmp 16) 111 rfl w.heap.size 5 i0 (.int .u8 0) 1 1 Tryd.underlying111 hi0 hz0 hz1 hz2 rfl (by decide) _ _ _ rfl (hown.alloc _) ⟨wa.heap.size, 0, none⟩ 1 1 [Value.int .u8 ((X : Int) / 2 ^ (8 * (7 - k)) % 256)] rfl rfl (news_new wa _ _) (by rw [← E1.out]; exact bytesV_oneCell _) (by unfold maxLen; omega) (by omega) (by have := HBE.out.size; simp; omega) ?_; intro v4 w4 hr4 hg4 _; rw [← E1.out, ← bytesV_append] at hr4))
      have hb4 : Below w.heap.size w w4 := (HBE.out.alloc HBE.out.size _).grown hg4 (by have := HBE.out.size; simp; omega) (fun q hq => (hown.lt q hq).1)
      have HR4 := hide hr4
      clear hr4 hg4 hown
      go_roundw
      case rel => exact ⟨k + 1, by omega, by congr 1; omega, hb4, HR4.out⟩
      case measure => simp [intOf]; omega
    · obtain rfl : k = 8 := by omega
      rw [show (7 : Int) - ((8 : Nat) : Int) = -1 from rfl]
      have hcv := run_string_own (P := Tryd.prog) (src := 111) (dst := 9) Tryd.underlying111 Tryd.underlying5 Tryd.underlying9 hown
      clear hk hk8
      go_wp2
      go_ret
      exact ⟨rfl, hbel⟩
end Go.Proofs.YtmligbaalbbgiabDoor

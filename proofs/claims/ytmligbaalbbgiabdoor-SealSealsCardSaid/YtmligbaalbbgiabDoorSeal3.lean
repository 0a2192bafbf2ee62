/- The function seal.Open. Conditions: texts of at most 4096 bytes; the package sum has laid its numbers. -/
import Derived.Test.YtmligbaalbbgiabDoorProg
import Derived.Test.YtmligbaalbbgiabDoorBase
import Derived.Test.YtmligbaalbbgiabDoorSeal1
import Derived.Test.YtmligbaalbbgiabDoorStream6
import Derived.Test.YtmligbaalbbgiabDoorLoose
namespace Go.Proofs.YtmligbaalbbgiabDoor
open Go.RowKit

/-- What a sealed text's body is, when its blocks are taken away. -/
def innerL (key s : ByteArray) : List UInt8 := xorS (bl key) (bl (s.extract 16 28)) (bl (s.extract 28 109))
theorem innerL_length (key s : ByteArray) (h : 109 ≤ s.size) : (innerL key s).length = 81 := by
  unfold innerL
  rw [xorS_length, bl_length, ByteArray.size_extract]
  omega
/-- How many bytes of it are the text. -/
def innerN (key s : ByteArray) : Nat := min (byteAt (innerL key s) 0) 80
theorem innerN_le (key s : ByteArray) : innerN key s ≤ 80 := Nat.min_le_right _ _

set_option maxRecDepth 100000 in
set_option maxHeartbeats 2000000 in
theorem open_key (key : ByteArray) (cell : Int) (s : ByteArray) (h : key.size ≠ 32) (w : World) :
    Calls Tryd.prog 22 #[.string key, .int .i64 cell, .string s] w fun e w' => e = .returned (.tuple #[emptyV, emptyV, errV 1]) ∧ w' = w := by
  have b1 : ((key.size : Int) != 32) = true := by simp; omega
  clear h
  go_enter Tryd.func22, Tryd.ntmps22
  go_wp2_with fail
  go_ret3
  exact ⟨rfl, rfl⟩
set_option maxRecDepth 100000 in
set_option maxHeartbeats 2000000 in
theorem open_short (key : ByteArray) (cell : Int) (s : ByteArray) (h : key.size = 32) (h1 : s.size < 109) (w : World) :
    Calls Tryd.prog 22 #[.string key, .int .i64 cell, .string s] w fun e w' => e = .returned (.tuple #[emptyV, emptyV, errV 15]) ∧ Below w.heap.size w w' := by
  have b1 : ((key.size : Int) != 32) = false := by rw [h]; rfl
  have b2 : decide ((s.size : Int) < 109) = true := by simp; omega
  clear h
  go_enter Tryd.func22, Tryd.ntmps22
  go_wp2_with fail
  go_quiet (fail)
  go_wp2_with fail
  go_ret3
  exact ⟨rfl, below_drewN (Below.refl _ _) _⟩
set_option maxRecDepth 100000 in
set_option maxHeartbeats 2000000 in
theorem open_false (key : ByteArray) (cell : Int) (s : ByteArray) (h : key.size = 32) (h1 : 109 ≤ s.size) (h2 : s.size ≤ 4096) (h3 : ofl (tagL 103 key cell (s.extract 16 109)) ≠ s.extract 0 16) (w : World) (hR : LaidR w) :
    Calls Tryd.prog 22 #[.string key, .int .i64 cell, .string s] w fun e w' => e = .returned (.tuple #[emptyV, emptyV, errV 15]) ∧ Below w.heap.size w w' := by
  have HR := hide hR
  have HK := hide h
  have b1 : ((key.size : Int) != 32) = false := by rw [h]; rfl
  have b2 : decide ((s.size : Int) < 109) = false := by simp; omega
  obtain ⟨G, hG⟩ : ∃ G, G = ofl (tagL 103 key cell (s.extract 16 109)) := ⟨_, rfl⟩
  rw [← hG] at h3
  have b3 := toL_ne h3
  have HG := hide hG
  have HX : Hid ((s.extract 16 109).size ≤ 4096) := hide (by rw [ByteArray.size_extract]; omega)
  clear h hR hG h3
  go_enter Tryd.func22, Tryd.ntmps22
  go_wp2_with fail
  obtain ⟨C, hC⟩ := cls_ex w
  refine wp_region_cls hC (by kernel_rfl) (by kernel_rfl) ?_
  repeat (go_big_quiet_step ((intro hc; first | rfl | go_loud (refine (tag_any key cell _ (by rw [HK.out]; omega) HX.out _ (HR.out.of_block ((hC.below _ hc).block _ HR.out.lt))).mono ?_; rintro e w1 ⟨rfl, hb1⟩; rw [← HG.out]; exact ⟨rfl, hC.step _ _ hc hb1⟩))))
  refine wpQuiet_nil ?_
  intro w1 hw1
  have HB := hide (hC.below _ hw1)
  clear hw1 hC
  go_wp2_with fail
  go_ret3
  exact ⟨rfl, HB.out⟩
set_option maxRecDepth 100000 in
set_option maxHeartbeats 2000000 in
theorem open_good (key : ByteArray) (cell : Int) (s : ByteArray) (h : key.size = 32) (h1 : 109 ≤ s.size) (h2 : s.size ≤ 4096) (h3 : ofl (tagL 103 key cell (s.extract 16 109)) = s.extract 0 16) (w : World) (hR : LaidR w) :
    Calls Tryd.prog 22 #[.string key, .int .i64 cell, .string s] w fun e w' => e = .returned (.tuple #[.string (s.extract 0 16), .string (ofl (((innerL key s).drop 1).take (innerN key s))), .nilIface]) ∧ Below w.heap.size w w' := by
  have HR := hide hR
  have HK := hide h
  have b1 : ((key.size : Int) != 32) = false := by rw [h]; rfl
  have b2 : decide ((s.size : Int) < 109) = false := by simp; omega
  obtain ⟨G, hG⟩ : ∃ G, G = s.extract 0 16 := ⟨_, rfl⟩
  rw [← hG] at h3
  have HG := hide hG
  have b3 := toL_eq G
  have HT := hide h3
  have HX : Hid ((s.extract 16 109).size ≤ 4096) := hide (by rw [ByteArray.size_extract]; omega)
  have HX2 : Hid ((s.extract 16 28).size = 12) := hide (by rw [ByteArray.size_extract]; omega)
  have HX3 : Hid ((s.extract 28 109).size ≤ 65536) := hide (by rw [ByteArray.size_extract]; omega)
  obtain ⟨T, hT⟩ : ∃ T, T = ofl (innerL key s) := ⟨_, rfl⟩
  have hTl : T.size = 81 := by rw [hT, ofl_size, innerL_length key s h1]
  have HTD : Hid (ofl (xorS (bl key) (bl (s.extract 16 28)) (bl (s.extract 28 109))) = T) := hide (by rw [hT]; rfl)
  have t0 : 0 < T.size := by omega
  obtain ⟨M, hM⟩ : ∃ M, M = 1 + innerN key s := ⟨_, rfl⟩
  have hM1 : 1 ≤ M := by omega
  have hM2 : M ≤ 81 := by have := innerN_le key s; omega
  have hM3 : M ≤ T.size := by omega
  have hbt : byteAt (innerL key s) 0 = (T[0]).toNat := by rw [← byteAt_bl T 0 t0, hT]; rfl
  have hq : wrap64 ((1 : Int) + min (wrap64 ((T[0]).toNat : Int)) (80 : Int)) = (M : Int) := by
    have h256 : (T[0]).toNat < 256 := UInt8.toNat_lt _
    rw [hM, innerN, hbt]
    simp only [wrap64]
    omega
  have HMD := hide hM
  have HTE := hide hT
  have HTL := hide hTl
  have t1 : 81 ≤ T.size := by omega
  clear h hR hG h3 hT hTl hM hbt
  go_enter Tryd.func22, Tryd.ntmps22
  go_wp2_with fail
  obtain ⟨C, hC⟩ := cls_ex w
  refine wp_region_cls hC (by kernel_rfl) (by kernel_rfl) ?_
  rw [HG.out] at b3
  rw [HG.out] at HT
  repeat (go_big_quiet_step ((intro hc; first | rfl | go_loud (refine (tag_any key cell _ (by rw [HK.out]; omega) HX.out _ (HR.out.of_block ((hC.below _ hc).block _ HR.out.lt))).mono ?_; rintro e w1 ⟨rfl, hb1⟩; rw [HT.out]; exact ⟨rfl, hC.step _ _ hc hb1⟩))))
  refine wpQuiet_nil ?_
  intro w1 hw1
  have HB := hide (hC.below _ hw1)
  clear hw1 hC
  go_wp2_with fail
  obtain ⟨C1, hC1⟩ := cls_ex w1
  refine wp_region_cls hC1 (by kernel_rfl) (by kernel_rfl) ?_
  repeat (go_big_quiet_step ((intro hc; first | rfl | go_loud (refine (Xor_good key _ _ HK.out HX2.out HX3.out _).mono ?_; rintro e w1 ⟨rfl, hb1⟩; rw [HTD.out]; exact ⟨rfl, hC1.step _ _ hc hb1⟩))))
  refine wpQuiet_nil ?_
  intro w2 hw2
  have HB2 := hide (below_step HB.out (hC1.below _ hw2))
  clear hw2 hC1
  go_wp2_with fail
  go_big_quiet (fail)
  go_wp2_with fail
  go_ret3
  refine ⟨?_, below_drewN HB2.out _⟩
  have e : T.extract 1 M = ofl (((innerL key s).drop 1).take (innerN key s)) := by
    apply bl_inj
    rw [bl_extract, HTE.out, bl_ofl, bl_ofl, HMD.out, show 1 + innerN key s - 1 = innerN key s from by omega]
  rw [← e]
  rfl
end Go.Proofs.YtmligbaalbbgiabDoor

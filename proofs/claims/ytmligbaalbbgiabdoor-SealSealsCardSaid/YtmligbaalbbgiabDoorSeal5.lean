/- The reference's Unseal. Conditions: a text of at most 4096 bytes; the reference's block holds its numbers. -/
import Derived.Test.YtmligbaalbbgiabDoorProg
import Derived.Test.YtmligbaalbbgiabDoorBase
import Derived.Test.YtmligbaalbbgiabDoorSeal3
import Derived.Test.YtmligbaalbbgiabDoorSeal4
namespace Go.Proofs.YtmligbaalbbgiabDoor
open Go.RowKit

theorem StrCells.below {w w' : World} {a : Addr} {ps : List ByteArray} (h : StrCells w a ps) (hb : Below w.heap.size w w') (hl : a.block < w.heap.size) : StrCells w' a ps := fun i hi =>
  (hb.cell (p := a.add i) (by rw [Go.ChangeShapes.block_add]; exact hl)).trans (h i hi)

set_option maxRecDepth 100000 in
set_option maxHeartbeats 4000000 in
theorem refopen_key (key : ByteArray) (cell : Int) (s : ByteArray) (h : key.size ≠ 32) (r : Nat) (w : World) :
    Calls Tryd.prog 28 #[.pointer (some ⟨r, 0, none⟩), .string key, .int .i64 cell, .string s] w fun e w' => e = .returned (.tuple #[emptyV, emptyV, .int .i64 1]) ∧ w' = w := by
  have b1 : ((key.size : Int) != 32) = true := by simp; omega
  clear h
  go_enter Tryd.func28, Tryd.ntmps28
  go_wp2_with fail
  go_ret3
  exact ⟨rfl, rfl⟩
set_option maxRecDepth 100000 in
set_option maxHeartbeats 4000000 in
theorem refopen_short (key : ByteArray) (cell : Int) (s : ByteArray) (h : key.size = 32) (h1 : s.size < 109) (r : Nat) (w : World) :
    Calls Tryd.prog 28 #[.pointer (some ⟨r, 0, none⟩), .string key, .int .i64 cell, .string s] w fun e w' => e = .returned (.tuple #[emptyV, emptyV, .int .i64 15]) ∧ Below w.heap.size w w' := by
  have b1 : ((key.size : Int) != 32) = false := by rw [h]; rfl
  have b2 : decide ((s.size : Int) < 109) = true := by simp; omega
  clear h
  go_enter Tryd.func28, Tryd.ntmps28
  go_wp2_with fail
  go_big_quiet (fail)
  go_wp2_with fail
  go_ret3
  exact ⟨rfl, below_drewN (Below.refl _ _) _⟩
set_option maxRecDepth 100000 in
set_option maxHeartbeats 4000000 in
theorem refopen_false (key : ByteArray) (cell : Int) (s : ByteArray) (h : key.size = 32) (h1 : 109 ≤ s.size) (h2 : s.size ≤ 4096) (h3 : ofl (tagL 103 key cell (s.extract 16 109)) ≠ s.extract 0 16) (r : Nat) (w : World) (hR : Blk w r 125 (words (h0S ++ kS))) :
    Calls Tryd.prog 28 #[.pointer (some ⟨r, 0, none⟩), .string key, .int .i64 cell, .string s] w fun e w' => e = .returned (.tuple #[emptyV, emptyV, .int .i64 15]) ∧ Below w.heap.size w w' := by
  have HR := hide hR
  have HK := hide h
  have b1 : ((key.size : Int) != 32) = false := by rw [h]; rfl
  have b2 : decide ((s.size : Int) < 109) = false := by simp; omega
  have i1 : (109 : Int) ≤ (s.size : Int) := by omega
  have i2 : (16 : Int) ≤ (s.size : Int) := by omega
  obtain ⟨N, hN⟩ : ∃ N, N = ofl (numL cell) := ⟨_, rfl⟩
  have HNl : Hid (N.size ≤ 4096) := hide (by rw [hN, ofl_size]; unfold numL; rw [be8U_length]; omega)
  have HN : Hid (N = ofl (be8U (cell % 18446744073709551616).toNat 8)) := hide hN
  obtain ⟨T, hT⟩ : ∃ T, T = s.extract 16 109 := ⟨_, rfl⟩
  have HTl : Hid (T.size ≤ 4096) := hide (by rw [hT, ByteArray.size_extract]; omega)
  have HT : Hid (s.extract 16 109 = T) := hide hT.symm
  obtain ⟨G, hG⟩ : ∃ G, G = ofl ((sumBy kS h0S (markT 103 [key, N, T] 3)).take 16) := ⟨_, rfl⟩
  have hG2 : G = ofl (tagL 103 key cell (s.extract 16 109)) := by rw [hG, hN, hT]; rfl
  have HG := hide hG
  rw [← hG2] at h3
  have b3 := toL_ne h3
  clear hR h hN hT hG hG2 h3
  go_enter Tryd.func28, Tryd.ntmps28
  go_wp2_with fail
  obtain ⟨K, hK⟩ := cls_ex w
  refine wp_region_loose (C := K) (S := fun a b => Below a.heap.size a b) (Z := fun i => i == 10) (V := fun _ u W => ∃ b, u = .slice (some ⟨b, 0, none⟩) 3 3 ∧ b < W.heap.size ∧ StrCells W ⟨b, 0, none⟩ [key, N, T]) (by kernel_rfl) (by kernel_rfl) (by kernel_rfl) hK.draw (fun a b ha hab => ⟨hK.step _ _ ha hab, fun i u ⟨c, hc1, hc2, hc3⟩ => ⟨c, hc1, Nat.lt_of_lt_of_le hc2 hab.size, hc3.below hab hc2⟩⟩) (fun a _ => Below.refl _ a) ?_
  iterate 7
    (apply wpLoose_const
     · rfl
     · (intro v; kernel_rfl)
     · (intro v wx hc hd; clear hd; unfold LAt; go_simp; exact ⟨Below.refl _ _, rfl⟩)
     simp only [Act.put, List.setIfInBounds_toArray, List.set_cons_zero, List.set_cons_succ])
  (apply wpLoose_const
   · rfl
   · (intro v; kernel_rfl)
   · (intro v wx hc hd; clear hd; unfold LAt; go_simp; refine ⟨rfl, (refnum_any _ _).mono ?_⟩; rintro e wy ⟨rfl, hby⟩; rw [← HN.out]; exact ⟨_, rfl, hby, rfl⟩)
   simp only [Act.put, List.setIfInBounds_toArray, List.set_cons_zero, List.set_cons_succ])
  (apply wpLoose_const
   · rfl
   · (intro v; kernel_rfl)
   · (intro v wx hc hd; clear hd; unfold LAt; go_simp; exact ⟨Below.refl _ _, rfl⟩)
   simp only [Act.put, List.setIfInBounds_toArray, List.set_cons_zero, List.set_cons_succ])
  (apply wpLoose_const
   · rfl
   · (intro v; kernel_rfl)
   · (intro v wx hc hd; clear hd; unfold LAt; go_simp; rw [HT.out]; exact ⟨Below.refl _ _, rfl⟩)
   simp only [Act.put, List.setIfInBounds_toArray, List.set_cons_zero, List.set_cons_succ])
  (apply wpLoose_loose
   · rfl
   · (intro v; kernel_rfl)
   · (intro v wx hc hd; clear hd; unfold LAt; go_simp; exact ⟨(Below.refl _ _).alloc (Nat.le_refl _) _, _, rfl, by simp, strs_new _ _ _ _ _⟩)
   simp only [Act.put, List.setIfInBounds_toArray, List.set_cons_zero, List.set_cons_succ])
  (apply wpLoose_const
   · rfl
   · (intro v; kernel_rfl)
   · (intro v wx hc hd; obtain ⟨b, hb, hbl, hcells⟩ := hd 10 rfl (by kernel_rfl); clear hd; unfold LAt; go_simp; refine ⟨rfl, (refmark_any 103 [key, N, T] (by simp) (three_small (by rw [HK.out]; omega) HNl.out HTl.out) ⟨b, 0, none⟩ 3 r wx (HR.out.below (hK.below _ hc) HR.out.lt) hbl hcells).mono ?_⟩; rintro e wy ⟨rfl, hby⟩; rw [show [key, N, T].length = 3 from rfl, ← HG.out]; exact ⟨_, rfl, hby, rfl⟩)
   simp only [Act.put, List.setIfInBounds_toArray, List.set_cons_zero, List.set_cons_succ])
  iterate 4
    (apply wpLoose_const
     · rfl
     · (intro v; kernel_rfl)
     · (intro v wx hc hd; clear hd; unfold LAt; go_simp; exact ⟨Below.refl _ _, rfl⟩)
     simp only [Act.put, List.setIfInBounds_toArray, List.set_cons_zero, List.set_cons_succ])
  intro v w1 hw1 hv1
  have HB := hide (hK.below _ hw1)
  clear hw1 hv1 hK
  dsimp only
  generalize v (0 + 1 + 1 + 1 + 1 + 1 + 1 + 1 + 1 + 1 + 1) = v10
  go_wp2_with fail
  go_ret3
  exact ⟨rfl, HB.out⟩
set_option maxRecDepth 100000 in
set_option maxHeartbeats 4000000 in
theorem refopen_good (key : ByteArray) (cell : Int) (s : ByteArray) (h : key.size = 32) (h1 : 109 ≤ s.size) (h2 : s.size ≤ 4096) (h3 : ofl (tagL 103 key cell (s.extract 16 109)) = s.extract 0 16) (r : Nat) (w : World) (hR : Blk w r 125 (words (h0S ++ kS))) :
    Calls Tryd.prog 28 #[.pointer (some ⟨r, 0, none⟩), .string key, .int .i64 cell, .string s] w fun e w' => e = .returned (.tuple #[.string (s.extract 0 16), .string (ofl (((innerL key s).drop 1).take (innerN key s))), .int .i64 0]) ∧ Below w.heap.size w w' := by
  have HR := hide hR
  have HK := hide h
  have b1 : ((key.size : Int) != 32) = false := by rw [h]; rfl
  have b2 : decide ((s.size : Int) < 109) = false := by simp; omega
  have i1 : (109 : Int) ≤ (s.size : Int) := by omega
  have i2 : (16 : Int) ≤ (s.size : Int) := by omega
  obtain ⟨N, hN⟩ : ∃ N, N = ofl (numL cell) := ⟨_, rfl⟩
  have HNl : Hid (N.size ≤ 4096) := hide (by rw [hN, ofl_size]; unfold numL; rw [be8U_length]; omega)
  have HN : Hid (N = ofl (be8U (cell % 18446744073709551616).toNat 8)) := hide hN
  obtain ⟨T, hT⟩ : ∃ T, T = s.extract 16 109 := ⟨_, rfl⟩
  have HTl : Hid (T.size ≤ 4096) := hide (by rw [hT, ByteArray.size_extract]; omega)
  have HT : Hid (s.extract 16 109 = T) := hide hT.symm
  obtain ⟨G, hG⟩ : ∃ G, G = ofl ((sumBy kS h0S (markT 103 [key, N, T] 3)).take 16) := ⟨_, rfl⟩
  have hG2 : G = ofl (tagL 103 key cell (s.extract 16 109)) := by rw [hG, hN, hT]; rfl
  have HG := hide hG
  have HGS : Hid (G = s.extract 0 16) := hide (hG2.trans h3)
  have b3 := toL_eq (s.extract 0 16)
  have HX2 : Hid ((s.extract 16 28).size = 12) := hide (by rw [ByteArray.size_extract]; omega)
  have HX3 : Hid ((s.extract 28 109).size ≤ 65536) := hide (by rw [ByteArray.size_extract]; omega)
  obtain ⟨I, hI⟩ : ∃ I, I = ofl (innerL key s) := ⟨_, rfl⟩
  have hIl : I.size = 81 := by rw [hI, ofl_size, innerL_length key s h1]
  have HID : Hid (ofl (xorS (bl key) (bl (s.extract 16 28)) (bl (s.extract 28 109))) = I) := hide (by rw [hI]; rfl)
  have t1 : 81 ≤ I.size := by omega
  have t0 : 0 < I.size := by omega
  have hbt : byteAt (innerL key s) 0 = (I[0]).toNat := by rw [← byteAt_bl I 0 t0, hI]; rfl
  have h256 : (I[0]).toNat < 256 := UInt8.toNat_lt _
  have HIE := hide hI
  clear hR h hN hT hG hG2 h3 hI hIl
  go_enter Tryd.func28, Tryd.ntmps28
  go_wp2_with fail
  obtain ⟨K, hK⟩ := cls_ex w
  refine wp_region_loose (C := K) (S := fun a b => Below a.heap.size a b) (Z := fun i => i == 10) (V := fun _ u W => ∃ b, u = .slice (some ⟨b, 0, none⟩) 3 3 ∧ b < W.heap.size ∧ StrCells W ⟨b, 0, none⟩ [key, N, T]) (by kernel_rfl) (by kernel_rfl) (by kernel_rfl) hK.draw (fun a b ha hab => ⟨hK.step _ _ ha hab, fun i u ⟨c, hc1, hc2, hc3⟩ => ⟨c, hc1, Nat.lt_of_lt_of_le hc2 hab.size, hc3.below hab hc2⟩⟩) (fun a _ => Below.refl _ a) ?_
  iterate 7
    (apply wpLoose_const
     · rfl
     · (intro v; kernel_rfl)
     · (intro v wx hc hd; clear hd; unfold LAt; go_simp; exact ⟨Below.refl _ _, rfl⟩)
     simp only [Act.put, List.setIfInBounds_toArray, List.set_cons_zero, List.set_cons_succ])
  (apply wpLoose_const
   · rfl
   · (intro v; kernel_rfl)
   · (intro v wx hc hd; clear hd; unfold LAt; go_simp; refine ⟨rfl, (refnum_any _ _).mono ?_⟩; rintro e wy ⟨rfl, hby⟩; rw [← HN.out]; exact ⟨_, rfl, hby, rfl⟩)
   simp only [Act.put, List.setIfInBounds_toArray, List.set_cons_zero, List.set_cons_succ])
  (apply wpLoose_const
   · rfl
   · (intro v; kernel_rfl)
   · (intro v wx hc hd; clear hd; unfold LAt; go_simp; exact ⟨Below.refl _ _, rfl⟩)
   simp only [Act.put, List.setIfInBounds_toArray, List.set_cons_zero, List.set_cons_succ])
  (apply wpLoose_const
   · rfl
   · (intro v; kernel_rfl)
   · (intro v wx hc hd; clear hd; unfold LAt; go_simp; rw [HT.out]; exact ⟨Below.refl _ _, rfl⟩)
   simp only [Act.put, List.setIfInBounds_toArray, List.set_cons_zero, List.set_cons_succ])
  (apply wpLoose_loose
   · rfl
   · (intro v; kernel_rfl)
   · (intro v wx hc hd; clear hd; unfold LAt; go_simp; exact ⟨(Below.refl _ _).alloc (Nat.le_refl _) _, _, rfl, by simp, strs_new _ _ _ _ _⟩)
   simp only [Act.put, List.setIfInBounds_toArray, List.set_cons_zero, List.set_cons_succ])
  (apply wpLoose_const
   · rfl
   · (intro v; kernel_rfl)
   · (intro v wx hc hd; obtain ⟨b, hb, hbl, hcells⟩ := hd 10 rfl (by kernel_rfl); clear hd; unfold LAt; go_simp; refine ⟨rfl, (refmark_any 103 [key, N, T] (by simp) (three_small (by rw [HK.out]; omega) HNl.out HTl.out) ⟨b, 0, none⟩ 3 r wx (HR.out.below (hK.below _ hc) HR.out.lt) hbl hcells).mono ?_⟩; rintro e wy ⟨rfl, hby⟩; rw [show [key, N, T].length = 3 from rfl, ← HG.out, HGS.out]; exact ⟨_, rfl, hby, rfl⟩)
   simp only [Act.put, List.setIfInBounds_toArray, List.set_cons_zero, List.set_cons_succ])
  iterate 4
    (apply wpLoose_const
     · rfl
     · (intro v; kernel_rfl)
     · (intro v wx hc hd; clear hd; unfold LAt; go_simp; exact ⟨Below.refl _ _, rfl⟩)
     simp only [Act.put, List.setIfInBounds_toArray, List.set_cons_zero, List.set_cons_succ])
  intro v w1 hw1 hv1
  have HB := hide (hK.below _ hw1)
  clear hw1 hv1 hK
  dsimp only
  generalize v (0 + 1 + 1 + 1 + 1 + 1 + 1 + 1 + 1 + 1 + 1) = v10
  go_wp2_with fail
  obtain ⟨C1, hC1⟩ := cls_ex w1
  refine wp_region_cls hC1 (by kernel_rfl) (by kernel_rfl) ?_
  repeat (go_big_quiet_step ((intro hc; first | rfl | go_loud (refine (refXor_good key _ _ HK.out HX2.out HX3.out _).mono ?_; rintro e w1 ⟨rfl, hb1⟩; rw [HID.out]; exact ⟨rfl, hC1.step _ _ hc hb1⟩))))
  refine wpQuiet_nil ?_
  intro w2 hw2
  have HB2 := hide (below_step HB.out (hC1.below _ hw2))
  clear hw2 hC1
  obtain ⟨m, hm⟩ : ∃ m, m = (I[0]).toNat := ⟨_, rfl⟩
  by_cases hgt : 80 < m
  · have hgt2 : (80 : Int) < ((I[0]).toNat : Int) := by omega
    have e : I.extract 1 81 = ofl (((innerL key s).drop 1).take (innerN key s)) := by
      apply bl_inj
      rw [bl_extract, HIE.out, bl_ofl, bl_ofl, innerN, hbt, ← hm, Nat.min_eq_right (by omega)]
    have HE := hide e
    clear e hm hgt hbt HIE
    go_wp2_with fail
    go_big_quiet (fail)
    go_wp2_with fail
    go_ret3
    exact ⟨by rw [← HE.out]; rfl, below_drewN HB2.out _⟩
  · have hgt2 : ((I[0]).toNat : Int) ≤ 80 := by omega
    have hM3 : 1 + (I[0]).toNat ≤ I.size := by omega
    have e : I.extract 1 (1 + (I[0]).toNat) = ofl (((innerL key s).drop 1).take (innerN key s)) := by
      apply bl_inj
      have hbl : bl I = innerL key s := by rw [HIE.out, bl_ofl]
      rw [bl_extract, hbl, bl_ofl, innerN, hbt, ← hm, Nat.min_eq_left (by omega), show 1 + m - 1 = m from by omega]
    have HE := hide e
    clear e hm hgt hbt HIE
    go_wp2_with fail
    go_big_quiet (fail)
    go_wp2_with fail
    go_ret3
    exact ⟨by rw [← HE.out]; rfl, below_drewN HB2.out _⟩
end Go.Proofs.YtmligbaalbbgiabDoor

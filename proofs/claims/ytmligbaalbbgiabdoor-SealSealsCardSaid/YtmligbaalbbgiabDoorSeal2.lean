/- The function seal.Seal. Conditions: texts of at most 4096 bytes; the package sum has laid its numbers. -/
import Derived.Test.YtmligbaalbbgiabDoorProg
import Derived.Test.YtmligbaalbbgiabDoorBase
import Derived.Test.YtmligbaalbbgiabDoorSeal1
import Derived.Test.YtmligbaalbbgiabDoorStream6
import Derived.Test.YtmligbaalbbgiabDoorLoose
namespace Go.Proofs.YtmligbaalbbgiabDoor
open Go.RowKit

theorem run_string_1 {P : Program} (src e dst : Nat) (hs : P.underlying src = some (.slice e)) (he : P.underlying e = some (.int .u8)) (hd : P.underlying dst = some .string) (k : Nat) (w : World) (b : Nat) (hc : w.cell? ⟨b, 0, none⟩ = some (.int .u8 (k : Int))) :
    (convert src dst (.slice (some ⟨b, 0, none⟩) 1 1)).run P w = .ok (.string (ofl [UInt8.ofNat k])) w := by
  have h := run_convert_bytes_arg (P := P) w src e hs he b 0 1 1 [(k : Int)] rfl (fun i hi => (by obtain rfl : i = 0 := (by omega); exact hc)) dst hd
  rw [h]
  rfl

set_option maxRecDepth 100000 in
set_option maxHeartbeats 2000000 in
theorem seal_bad (key : ByteArray) (cell : Int) (text : ByteArray) (h : ¬ (key.size = 32 ∧ 0 ≤ cell ∧ cell < 24)) (w : World) :
    Calls Tryd.prog 21 #[.string key, .int .i64 cell, .string text] w fun e w' => e = .returned (.tuple #[emptyV, errV 1]) ∧ w' = w := by
  by_cases h1 : key.size = 32
  · have b1 : ((key.size : Int) != 32) = false := by rw [h1]; rfl
    by_cases h2 : cell < 0
    · have b2 : decide (cell < 0) = true := by simpa using h2
      clear h h1
      go_enter Tryd.func21, Tryd.ntmps21
      go_wp2_with fail
      go_ret2
      exact ⟨rfl, rfl⟩
    · have b2 : decide (cell < 0) = false := by simpa using h2
      have b3 : decide (24 ≤ cell) = true := by simp; omega
      clear h h1
      go_enter Tryd.func21, Tryd.ntmps21
      go_wp2_with fail
      go_ret2
      exact ⟨rfl, rfl⟩
  · have b1 : ((key.size : Int) != 32) = true := by simp; omega
    clear h
    go_enter Tryd.func21, Tryd.ntmps21
    go_wp2_with fail
    go_ret2
    exact ⟨rfl, rfl⟩
set_option maxRecDepth 100000 in
set_option maxHeartbeats 2000000 in
theorem seal_long (key : ByteArray) (cell : Int) (text : ByteArray) (h1 : key.size = 32) (h2 : 0 ≤ cell) (h3 : cell < 24) (h4 : 80 < text.size) (w : World) :
    Calls Tryd.prog 21 #[.string key, .int .i64 cell, .string text] w fun e w' => e = .returned (.tuple #[emptyV, errV 4]) ∧ w' = w := by
  have b1 : ((key.size : Int) != 32) = false := by rw [h1]; rfl
  have b2 : decide (cell < 0) = false := by simp; omega
  have b3 : decide (24 ≤ cell) = false := by simp; omega
  have b4 : decide (80 < text.size) = true := by simpa using h4
  clear h1
  go_enter Tryd.func21, Tryd.ntmps21
  go_wp2_with fail
  go_ret2
  exact ⟨rfl, rfl⟩
set_option maxRecDepth 100000 in
set_option maxHeartbeats 4000000 in
theorem seal_good (key : ByteArray) (cell : Int) (text : ByteArray) (h1 : key.size = 32) (h2 : 0 ≤ cell) (h3 : cell < 24) (h4 : text.size ≤ 80) (w : World) (hR : LaidR w) :
    Calls Tryd.prog 21 #[.string key, .int .i64 cell, .string text] w fun e w' => e = .returned (.tuple #[.string (ofl (sealL key cell text)), .nilIface]) ∧ Below w.heap.size w w' := by
  have HR := hide hR
  have HK := hide h1
  have HT := hide h4
  have b1 : ((key.size : Int) != 32) = false := by rw [h1]; rfl
  have b2 : decide (cell < 0) = false := by simp; omega
  have b3 : decide (24 ≤ cell) = false := by simp; omega
  have b4 : decide (80 < text.size) = false := by simp; omega
  obtain ⟨N, hN⟩ : ∃ N, N = ofl (numL cell) := ⟨_, rfl⟩
  have HNl : Hid (N.size ≤ 4096) := hide (by rw [hN, ofl_size]; unfold numL; rw [be8U_length]; omega)
  have HN : Hid (N = ofl (be8U (cell % 18446744073709551616).toNat 8)) := hide hN
  obtain ⟨M, hM⟩ : ∃ M, M = ofl ((sumBy kS h0S (markT 110 [key, N, text] 3)).take 16) := ⟨_, rfl⟩
  have hMl : M.size = 16 := by rw [hM, ofl_size, List.length_take, sumBy_length]; rfl
  have hm1 : 12 ≤ M.size := by omega
  obtain ⟨n, hn⟩ : ∃ n, n = ofl (nonceL key cell text) := ⟨_, rfl⟩
  have HMn : Hid (M.extract 0 12 = n) := hide (by
    apply bl_inj
    rw [bl_extract, hM, hn, bl_ofl, bl_ofl, hN]
    rfl)
  have HMd := hide hM
  have HNd := hide hn
  clear hR h1 hN hM hMl hn
  go_enter Tryd.func21, Tryd.ntmps21
  go_upto_region 5 with fail
  go_upto_region 6 with (first
    | (go_at_call 76; refine (num_any _ _).mono ?_; rintro e w1 ⟨rfl, hb1⟩; rw [← HN.out]; have HB1 := hide hb1; have HR1 := hide (HR.out.of_block (hb1.block _ HR.out.lt)); clear hb1)
    | (go_at_call 75; go_loud (refine (mark3 110 key N text (by rw [HK.out]; omega) HNl.out (Nat.le_trans HT.out (by omega)) _ rfl _ _ HR1.out).mono ?_; rintro e w2 ⟨rfl, hb2⟩; rw [← HMd.out]; have HB2 := hide hb2; clear hb2)))
  rw [HMn.out]
  clear HMd HMn hm1
  have HR2 : Hid (LaidR w2) := hide (HR1.out.of_block ((HB2.out.block _ (Nat.lt_succ_of_lt HR1.out.lt)).trans (Below.heap_alloc w1 _ _ HR1.out.lt)))
  have HB3 : Hid (Below w.heap.size w w2) := hide ((HB1.out.alloc HB1.out.size _).trans (HB2.out.mono (Nat.le_trans HB1.out.size (Nat.le_succ _))))
  clear HB1 HB2 HR1 HN HNl HR
  obtain ⟨L, hL⟩ : ∃ L, L = ofl [UInt8.ofNat text.size] := ⟨_, rfl⟩
  obtain ⟨Z, hZ⟩ : ∃ Z, Z = ofl (List.replicate (80 - text.size) 0) := ⟨_, rfl⟩
  obtain ⟨C, hC⟩ : ∃ C, C = ofl (xorS (bl key) (bl n) (bl (L ++ text ++ Z))) := ⟨_, rfl⟩
  have hLl : L.size = 1 := by rw [hL]; rfl
  have hZl : Z.size = 80 - text.size := by rw [hZ, ofl_size, List.length_replicate]
  have hl1 : L.size ≤ 1 := by omega
  have hz1 : Z.size ≤ 80 := by omega
  have hcv : ∀ (W : World) (b : Nat), W.cell? ⟨b, 0, none⟩ = some (.int .u8 (text.size : Int)) → (convert 111 9 (.slice (some ⟨b, 0, none⟩) 1 1)).run Tryd.prog W = .ok (.string L) W := fun W b hc => by
    rw [hL]
    exact run_string_1 111 5 9 Tryd.underlying111 Tryd.underlying5 Tryd.underlying9 text.size W b hc
  have HX : Hid (L ++ text ++ Z = ofl (plainL text)) := hide (by
    apply bl_inj
    rw [bl_ofl, plainL, longL_short (by rw [bl_length]; exact HT.out), bl_length, hL, hZ]
    simp [bl, ofl])
  have hnl : n.size = 12 := by rw [HNd.out, ofl_size, nonceL_length]
  have HCd : Hid (C = ofl (bodyL key cell text)) := hide (by
    rw [hC, HX.out, HNd.out]
    rfl)
  have HXS : Hid ((L ++ text ++ Z).size ≤ 65536) := hide (by rw [HX.out, ofl_size, plainL_length]; omega)
  have k1 : ¬ 9223372036854775807 < L.size + text.size := by omega
  have k2 : ¬ 9223372036854775807 < (L ++ text).size + Z.size := by rw [ByteArray.size_append]; omega
  have k3 : ¬ 9223372036854775807 < L.size + text.size + Z.size := by omega
  have HZ := hide hZ
  have HC := hide hC
  have HNL := hide hnl
  have e1 : Hid (IntKind.i64.wrap ((80 : Int) - (text.size : Int)) = ((80 - text.size : Nat) : Int)) := hide (by rw [IntKind.wrap_i64]; omega)
  have e2 : IntKind.u8.wrap (text.size : Int) = (text.size : Int) := by
    simp [IntKind.wrap, IntKind.bits, IntKind.signed]
    omega
  clear hL hZ hC hLl hZl hnl
  obtain ⟨K, hK⟩ := cls_ex w2
  refine wp_region_loose (C := K) (S := fun a b => Below a.heap.size a b) (Z := fun i => i == 5) (V := fun _ u W => ∃ b, u = .slice (some ⟨b, 0, none⟩) 1 1 ∧ W.cell? ⟨b, 0, none⟩ = some (.int .u8 (text.size : Int))) (by kernel_rfl) (by kernel_rfl) (by kernel_rfl) hK.draw (fun a b ha hab => ⟨hK.step _ _ ha hab, fun i u ⟨c, hc1, hc2⟩ => ⟨c, hc1, cell_later hab hc2⟩⟩) (fun a _ => Below.refl _ a) ?_
  iterate 5
    (apply wpLoose_const
     · rfl
     · (intro v; kernel_rfl)
     · (intro v wx hc hd; clear hd; unfold LAt; go_simp; exact ⟨Below.refl _ _, rfl⟩)
     simp only [Act.put, List.setIfInBounds_toArray, List.set_cons_zero, List.set_cons_succ])
  (apply wpLoose_loose
   · rfl
   · (intro v; kernel_rfl)
   · (intro v wx hc hd; clear hd; unfold LAt; go_simp; exact ⟨(Below.refl _ _).alloc (Nat.le_refl _) _, _, rfl, by simp⟩)
   simp only [Act.put, List.setIfInBounds_toArray, List.set_cons_zero, List.set_cons_succ])
  (apply wpLoose_const
   · rfl
   · (intro v; kernel_rfl)
   · (intro v wx hc hd; obtain ⟨b, hb, hcell⟩ := hd 5 rfl (by kernel_rfl); have hcv1 := hcv wx b hcell; clear hd hcell; unfold LAt; go_simp; exact ⟨Below.refl _ _, rfl⟩)
   simp only [Act.put, List.setIfInBounds_toArray, List.set_cons_zero, List.set_cons_succ])
  iterate 5
    (apply wpLoose_const
     · rfl
     · (intro v; kernel_rfl)
     · (intro v wx hc hd; clear hd; unfold LAt; go_simp; exact ⟨Below.refl _ _, rfl⟩)
     simp only [Act.put, List.setIfInBounds_toArray, List.set_cons_zero, List.set_cons_succ])
  (apply wpLoose_const
   · rfl
   · (intro v; kernel_rfl)
   · (intro v wx hc hd; clear hd; unfold LAt; go_simp; refine ⟨rfl, (repeat0_int _ (80 - text.size) e1.out (by omega) _).mono ?_⟩; rintro e wy ⟨rfl, hby⟩; rw [← HZ.out]; exact ⟨_, rfl, hby, rfl⟩)
   simp only [Act.put, List.setIfInBounds_toArray, List.set_cons_zero, List.set_cons_succ])
  (apply wpLoose_const
   · rfl
   · (intro v; kernel_rfl)
   · (intro v wx hc hd; clear hd; unfold LAt; go_simp; exact ⟨Below.refl _ _, rfl⟩)
   simp only [Act.put, List.setIfInBounds_toArray, List.set_cons_zero, List.set_cons_succ])
  (apply wpLoose_const
   · rfl
   · (intro v; kernel_rfl)
   · (intro v wx hc hd; clear hd; unfold LAt; go_simp; refine ⟨rfl, (Xor_good key n _ HK.out HNL.out HXS.out _).mono ?_⟩; rintro e wy ⟨rfl, hby⟩; rw [← HC.out]; exact ⟨_, rfl, hby, rfl⟩)
   simp only [Act.put, List.setIfInBounds_toArray, List.set_cons_zero, List.set_cons_succ])
  iterate 5
    (apply wpLoose_const
     · rfl
     · (intro v; kernel_rfl)
     · (intro v wx hc hd; clear hd; unfold LAt; go_simp; exact ⟨Below.refl _ _, rfl⟩)
     simp only [Act.put, List.setIfInBounds_toArray, List.set_cons_zero, List.set_cons_succ])
  intro v w4 hw4 hv4
  have HB4 := hide (below_step HB3.out (hK.below _ hw4))
  have HR4 := hide (HR2.out.of_block ((hK.below _ hw4).block _ HR2.out.lt))
  clear hw4 hv4 hK hcv e2 k1 k2 k3 HB3 HR2 HX HXS HZ HC e1 hl1 hz1
  dsimp only
  generalize v (0 + 1 + 1 + 1 + 1 + 1) = v5
  have hCl : C.size = 81 := by rw [HCd.out, ofl_size, bodyL_length]
  have hnl : n.size = 12 := HNL.out
  obtain ⟨X, hX⟩ : ∃ X, X = n ++ C := ⟨_, rfl⟩
  have hXl : X.size = 93 := by rw [hX, ByteArray.size_append]; omega
  have HXl := hide hXl
  obtain ⟨G, hG⟩ : ∃ G, G = ofl (tagL 103 key cell X) := ⟨_, rfl⟩
  have hGl : G.size = 16 := by rw [hG, ofl_size, tagL_length]
  have hs1 : n.size + C.size ≤ 93 := by omega
  have hs2 : G.size + n.size ≤ 28 := by omega
  have hs3 : (G ++ n).size + C.size ≤ 109 := by rw [ByteArray.size_append]; omega
  have HX := hide hX
  have HG := hide hG
  have HE : Hid (G ++ n ++ C = ofl (sealL key cell text)) := hide (by
    have hx : X = ofl (nonceL key cell text ++ bodyL key cell text) := by rw [HX.out, HNd.out, HCd.out, ofl_append]
    rw [HG.out, hx, HNd.out, HCd.out, ofl_append, ofl_append]
    rfl)
  clear hCl hnl hX hXl hG hGl
  go_wp2_with (go_at_call 78; go_loud (rw [← HX.out]; refine (tag_any key cell X (by rw [HK.out]; omega) (by rw [HXl.out]; omega) _ HR4.out).mono ?_; rintro e w5 ⟨rfl, hb5⟩; rw [← HG.out]; have HB5 := hide (below_step HB4.out hb5); clear hb5))
  go_ret2
  exact ⟨by rw [HE.out]; rfl, HB5.out⟩
end Go.Proofs.YtmligbaalbbgiabDoor

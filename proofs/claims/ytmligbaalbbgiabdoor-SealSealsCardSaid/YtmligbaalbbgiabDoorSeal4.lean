/- The reference's Seal. Conditions: a text of at most 4096 bytes; the reference's block holds its numbers. -/
import Derived.Test.YtmligbaalbbgiabDoorProg
import Derived.Test.YtmligbaalbbgiabDoorBase
import Derived.Test.YtmligbaalbbgiabDoorSeal2
import Derived.Test.YtmligbaalbbgiabDoorRefStream4
import Derived.Test.YtmligbaalbbgiabDoorRefSum4
namespace Go.Proofs.YtmligbaalbbgiabDoor
open Go.RowKit

theorem refmark3 (kind : UInt8) (p0 p1 p2 : ByteArray) (h0 : p0.size ≤ 4096) (h1 : p1.size ≤ 4096) (h2 : p2.size ≤ 4096) (k : Int) (hk : k = (kind.toNat : Int)) (t r : Nat) (w : World) (hR : Blk w r 125 (words (h0S ++ kS))) :
    Calls Tryd.prog 82 #[.pointer (some ⟨r, 0, none⟩), .int .u8 k, .slice (some ⟨w.heap.size, 0, none⟩) 3 3] (w.alloc (.cells #[.string p0, .string p1, .string p2] t)) fun e w' =>
      e = .returned (.string (ofl ((sumBy kS h0S (markT kind [p0, p1, p2] 3)).take 16))) ∧ Below (w.heap.size + 1) (w.alloc (.cells #[.string p0, .string p1, .string p2] t)) w' := by
  subst hk
  have h := refmark_any kind [p0, p1, p2] (by simp) (three_small h0 h1 h2) ⟨w.heap.size, 0, none⟩ 3 r (w.alloc (.cells #[.string p0, .string p1, .string p2] t)) (hR.alloc _) (by simp) (strs_new w t p0 p1 p2)
  exact h.mono fun e w' ⟨he, hb⟩ => ⟨he, by simpa using hb⟩

set_option maxRecDepth 100000 in
set_option maxHeartbeats 2000000 in
theorem refseal_bad (key : ByteArray) (cell : Int) (text : ByteArray) (h : ¬ (key.size = 32 ∧ 0 ≤ cell ∧ cell < 24)) (r : Nat) (w : World) :
    Calls Tryd.prog 26 #[.pointer (some ⟨r, 0, none⟩), .string key, .int .i64 cell, .string text] w fun e w' => e = .returned (.tuple #[emptyV, .int .i64 1]) ∧ w' = w := by
  by_cases h1 : key.size = 32
  · have b1 : ((key.size : Int) != 32) = false := by rw [h1]; rfl
    have b2 : (decide (0 ≤ cell) && decide (cell ≤ 23)) = false := by simp; omega
    clear h h1
    go_enter Tryd.func26, Tryd.ntmps26
    go_wp2_with (go_at_call 81; refine (in_any _ _ _ _).mono ?_; rintro e w1 ⟨rfl, rfl⟩; rw [b2])
    go_ret2
    exact ⟨rfl, rfl⟩
  · have b1 : ((key.size : Int) != 32) = true := by simp; omega
    clear h
    go_enter Tryd.func26, Tryd.ntmps26
    go_wp2_with fail
    go_ret2
    exact ⟨rfl, rfl⟩
set_option maxRecDepth 100000 in
set_option maxHeartbeats 2000000 in
theorem refseal_long (key : ByteArray) (cell : Int) (text : ByteArray) (h1 : key.size = 32) (h2 : 0 ≤ cell) (h3 : cell < 24) (h4 : 80 < text.size) (r : Nat) (w : World) :
    Calls Tryd.prog 26 #[.pointer (some ⟨r, 0, none⟩), .string key, .int .i64 cell, .string text] w fun e w' => e = .returned (.tuple #[emptyV, .int .i64 4]) ∧ w' = w := by
  have b1 : ((key.size : Int) != 32) = false := by rw [h1]; rfl
  have b2 : (decide (0 ≤ cell) && decide (cell ≤ 23)) = true := by simp; omega
  have b4 : decide (80 < text.size) = true := by simpa using h4
  clear h1
  go_enter Tryd.func26, Tryd.ntmps26
  go_wp2_with (go_at_call 81; refine (in_any _ _ _ _).mono ?_; rintro e w1 ⟨rfl, rfl⟩; rw [b2])
  go_ret2
  exact ⟨rfl, rfl⟩
set_option maxRecDepth 100000 in
set_option maxHeartbeats 4000000 in
theorem refseal_good (key : ByteArray) (cell : Int) (text : ByteArray) (h1 : key.size = 32) (h2 : 0 ≤ cell) (h3 : cell < 24) (h4 : text.size ≤ 80) (r : Nat) (w : World) (hR : Blk w r 125 (words (h0S ++ kS))) :
    Calls Tryd.prog 26 #[.pointer (some ⟨r, 0, none⟩), .string key, .int .i64 cell, .string text] w fun e w' => e = .returned (.tuple #[.string (ofl (sealL key cell text)), .int .i64 0]) ∧ Below w.heap.size w w' := by
  have HR := hide hR
  have HK := hide h1
  have HT := hide h4
  have b1 : ((key.size : Int) != 32) = false := by rw [h1]; rfl
  have b2 : (decide (0 ≤ cell) && decide (cell ≤ 23)) = true := by simp; omega
  have b4 : decide (80 < text.size) = false := by simp; omega
  obtain ⟨N, hN⟩ : ∃ N, N = ofl (numL cell) := ⟨_, rfl⟩
  have HNl : Hid (N.size ≤ 4096) := hide (by rw [hN, ofl_size]; unfold numL; rw [be8U_length]; omega)
  have HN : Hid (N = ofl (be8U (cell % 18446744073709551616).toNat 8)) := hide hN
  have HN2 := hide hN
  obtain ⟨M, hM⟩ : ∃ M, M = ofl ((sumBy kS h0S (markT 110 [key, N, text] 3)).take 16) := ⟨_, rfl⟩
  have hMl : M.size = 16 := by rw [hM, ofl_size, List.length_take, sumBy_length]; rfl
  have hm1 : 12 ≤ M.size := by omega
  obtain ⟨n, hn⟩ : ∃ n, n = ofl (nonceL key cell text) := ⟨_, rfl⟩
  have HMn : Hid (M.extract 0 12 = n) := hide (by
    apply bl_inj
    rw [bl_extract, hM, hn, bl_ofl, bl_ofl, hN]
    rfl)
  have HMd := hide hM
  have HNd := hide hn
  clear hR h1 hN hM hMl hn
  go_enter Tryd.func26, Tryd.ntmps26
  go_upto_region 5 with (go_at_call 81; refine (in_any _ _ _ _).mono ?_; rintro e w1 ⟨rfl, rfl⟩; rw [b2])
  go_upto_region 6 with (first
    | (go_at_call 83; refine (refnum_any _ _).mono ?_; rintro e w1 ⟨rfl, hb1⟩; rw [← HN.out]; have HB1 := hide hb1; have HR1 := hide (HR.out.below hb1 HR.out.lt); clear hb1)
    | (go_at_call 82; go_loud (refine (refmark3 110 key N text (by rw [HK.out]; omega) HNl.out (Nat.le_trans HT.out (by omega)) _ rfl _ _ _ HR1.out).mono ?_; rintro e w2 ⟨rfl, hb2⟩; rw [← HMd.out]; have HB2 := hide hb2; clear hb2)))
  rw [HMn.out]
  clear HMd HMn hm1
  have HR2 : Hid (Blk w2 r 125 (words (h0S ++ kS))) := hide ((HR1.out.alloc _).below HB2.out (Nat.lt_succ_of_lt HR1.out.lt))
  have HB3 : Hid (Below w.heap.size w w2) := hide ((HB1.out.alloc HB1.out.size _).trans (HB2.out.mono (Nat.le_trans HB1.out.size (Nat.le_succ _))))
  clear HB1 HB2 HR1 HR
  obtain ⟨L, hL⟩ : ∃ L, L = ofl [UInt8.ofNat text.size] := ⟨_, rfl⟩
  obtain ⟨Y, hY⟩ : ∃ Y, Y = ofl (longL (bl text) 80) := ⟨_, rfl⟩
  obtain ⟨C, hC⟩ : ∃ C, C = ofl (xorS (bl key) (bl n) (bl (L ++ Y))) := ⟨_, rfl⟩
  have hLl : L.size = 1 := by rw [hL]; rfl
  have hYl : Y.size = 80 := by rw [hY, ofl_size, longL_length]
  have hcv : ∀ (W : World) (b : Nat), W.cell? ⟨b, 0, none⟩ = some (.int .u8 (text.size : Int)) → (convert 111 9 (.slice (some ⟨b, 0, none⟩) 1 1)).run Tryd.prog W = .ok (.string L) W := fun W b hc => by
    rw [hL]
    exact run_string_1 111 5 9 Tryd.underlying111 Tryd.underlying5 Tryd.underlying9 text.size W b hc
  have HX : Hid (L ++ Y = ofl (plainL text)) := hide (by rw [hL, hY, ofl_append]; rfl)
  have hnl : n.size = 12 := by rw [HNd.out, ofl_size, nonceL_length]
  have HCd : Hid (C = ofl (bodyL key cell text)) := hide (by
    rw [hC, HX.out, HNd.out]
    rfl)
  have HXS : Hid ((L ++ Y).size ≤ 65536) := hide (by rw [HX.out, ofl_size, plainL_length]; omega)
  have k1 : ¬ 9223372036854775807 < L.size + Y.size := by omega
  have HY := hide hY
  have HC := hide hC
  have HNL := hide hnl
  have HTs : Hid (text.size ≤ 65536) := hide (by have := HT.out; omega)
  have e2 : IntKind.u8.wrap (text.size : Int) = (text.size : Int) := by
    simp [IntKind.wrap, IntKind.bits, IntKind.signed]
    omega
  clear hL hY hC hLl hYl hnl
  obtain ⟨K, hK⟩ := cls_ex w2
  refine wp_region_loose (C := K) (S := fun a b => Below a.heap.size a b) (Z := fun i => i == 5) (V := fun _ u W => ∃ b, u = .slice (some ⟨b, 0, none⟩) 1 1 ∧ W.cell? ⟨b, 0, none⟩ = some (.int .u8 (text.size : Int))) (by kernel_rfl) (by kernel_rfl) (by kernel_rfl) hK.draw (fun a b ha hab => ⟨hK.step _ _ ha hab, fun i u ⟨c, hc1, hc2⟩ => ⟨c, hc1, cell_later hab hc2⟩⟩) (fun a _ => Below.refl _ a) ?_
  iterate 5
    (apply wpLoose_const
     · rfl
     · (intro v; kernel_rfl)
     · (intro v wx hc hd; clear hd; unfold LAt; go_simp; exact ⟨Below.refl _ _, rfl⟩)
     simp only [Act.put, List.setIfInBounds_toArray, List.set_cons_zero, List.set_cons_succ])
  (apply wpLoose_loose
   · rfl
   · (intro v; kernel_rfl)
   · (intro v wx hc hd; clear hd; unfold LAt; go_simp; exact ⟨(Below.refl _ _).alloc (Nat.le_refl _) _, _, rfl, by simp⟩)
   simp only [Act.put, List.setIfInBounds_toArray, List.set_cons_zero, List.set_cons_succ])
  (apply wpLoose_const
   · rfl
   · (intro v; kernel_rfl)
   · (intro v wx hc hd; obtain ⟨b, hb, hcell⟩ := hd 5 rfl (by kernel_rfl); have hcv1 := hcv wx b hcell; clear hd hcell; unfold LAt; go_simp; exact ⟨Below.refl _ _, rfl⟩)
   simp only [Act.put, List.setIfInBounds_toArray, List.set_cons_zero, List.set_cons_succ])
  (apply wpLoose_const
   · rfl
   · (intro v; kernel_rfl)
   · (intro v wx hc hd; clear hd; unfold LAt; go_simp; exact ⟨Below.refl _ _, rfl⟩)
   simp only [Act.put, List.setIfInBounds_toArray, List.set_cons_zero, List.set_cons_succ])
  (apply wpLoose_const
   · rfl
   · (intro v; kernel_rfl)
   · (intro v wx hc hd; clear hd; unfold LAt; go_simp; refine ⟨rfl, (long_any text 80 HTs.out (by omega) _).mono ?_⟩; rintro e wy ⟨rfl, hby⟩; rw [← HY.out]; exact ⟨_, rfl, hby, rfl⟩)
   simp only [Act.put, List.setIfInBounds_toArray, List.set_cons_zero, List.set_cons_succ])
  (apply wpLoose_const
   · rfl
   · (intro v; kernel_rfl)
   · (intro v wx hc hd; clear hd; unfold LAt; go_simp; exact ⟨Below.refl _ _, rfl⟩)
   simp only [Act.put, List.setIfInBounds_toArray, List.set_cons_zero, List.set_cons_succ])
  (apply wpLoose_const
   · rfl
   · (intro v; kernel_rfl)
   · (intro v wx hc hd; clear hd; unfold LAt; go_simp; refine ⟨rfl, (refXor_good key n _ HK.out HNL.out HXS.out _).mono ?_⟩; rintro e wy ⟨rfl, hby⟩; rw [← HC.out]; exact ⟨_, rfl, hby, rfl⟩)
   simp only [Act.put, List.setIfInBounds_toArray, List.set_cons_zero, List.set_cons_succ])
  iterate 5
    (apply wpLoose_const
     · rfl
     · (intro v; kernel_rfl)
     · (intro v wx hc hd; clear hd; unfold LAt; go_simp; exact ⟨Below.refl _ _, rfl⟩)
     simp only [Act.put, List.setIfInBounds_toArray, List.set_cons_zero, List.set_cons_succ])
  intro v w4 hw4 hv4
  have HB4 := hide (below_step HB3.out (hK.below _ hw4))
  have HR4 := hide (HR2.out.below (hK.below _ hw4) HR2.out.lt)
  clear hw4 hv4 hK hcv e2 k1 HB3 HR2 HX HXS HC
  dsimp only
  generalize v (0 + 1 + 1 + 1 + 1 + 1) = v5
  have hCl : C.size = 81 := by rw [HCd.out, ofl_size, bodyL_length]
  have hnl : n.size = 12 := HNL.out
  obtain ⟨X, hX⟩ : ∃ X, X = n ++ C := ⟨_, rfl⟩
  have hXl : X.size = 93 := by rw [hX, ByteArray.size_append]; omega
  have HXl : Hid (X.size ≤ 4096) := hide (by omega)
  obtain ⟨G, hG⟩ : ∃ G, G = ofl ((sumBy kS h0S (markT 103 [key, N, X] 3)).take 16) := ⟨_, rfl⟩
  have hGt : G = ofl (tagL 103 key cell X) := by rw [hG, HN2.out]; rfl
  have hGl : G.size = 16 := by rw [hGt, ofl_size, tagL_length]
  have hs1 : n.size + C.size ≤ 93 := by omega
  have hs2 : G.size + n.size ≤ 28 := by omega
  have hs3 : (G ++ n).size + C.size ≤ 109 := by rw [ByteArray.size_append]; omega
  have HX := hide hX
  have HG := hide hG
  have HE : Hid (G ++ n ++ C = ofl (sealL key cell text)) := hide (by
    have hx : X = ofl (nonceL key cell text ++ bodyL key cell text) := by rw [HX.out, HNd.out, HCd.out, ofl_append]
    rw [hGt, hx, HNd.out, HCd.out, ofl_append, ofl_append]
    rfl)
  clear hCl hnl hX hXl hG hGt hGl
  go_wp2_with (first
    | (go_at_call 83; refine (refnum_any _ _).mono ?_; rintro e w5 ⟨rfl, hb5⟩; rw [← HN.out]; have HB5 := hide (below_step HB4.out hb5); have HR5 := hide (HR4.out.below hb5 HR4.out.lt); clear hb5)
    | (go_at_call 82; go_loud (rw [← HX.out]; refine (refmark3 103 key N X (by rw [HK.out]; omega) HNl.out HXl.out _ rfl _ _ _ HR5.out).mono ?_; rintro e w6 ⟨rfl, hb6⟩; rw [← HG.out]; have HB6 := hide ((HB5.out.alloc HB5.out.size _).trans (hb6.mono (Nat.le_trans HB5.out.size (Nat.le_succ _)))); clear hb6)))
  go_ret2
  exact ⟨by rw [HE.out]; rfl, HB6.out⟩
end Go.Proofs.YtmligbaalbbgiabDoor

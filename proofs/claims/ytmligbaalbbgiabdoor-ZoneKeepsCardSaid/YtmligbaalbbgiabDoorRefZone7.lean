/- The reference's device: NewDevice, Image. Conditions: a device lies at the receiver, what is sure is there. -/
import Derived.Test.YtmligbaalbbgiabDoorRefLoseS
import Derived.Test.YtmligbaalbbgiabDoorZone5
namespace Go.Proofs.YtmligbaalbbgiabDoor
open Go.RowKit

theorem rdev_new (w : World) (base : Nat) (hb : base ≤ w.heap.size) (t0 t1 : ByteArray) (f : Int) (h1 : -1 ≤ f) (h2 : f < 9223372036854775808) :
    RDev (w.alloc (.cells (dCells [nilS, nilS, nilS, nilS, nilS, nilS, nilS, nilS] [0, 0, 0, 0, 0, 0, 0, 0] [t0, t1] [nilS, nilS, .int .i64 f]) 134)) base w.heap.size
      ⟨[[], [], [], [], [], [], [], []], [0, 0, 0, 0, 0, 0, 0, 0], [t0, t1], [], f⟩ (fun k => k = w.heap.size) := by
  have hz : ∀ z, ([nilS, nilS, nilS, nilS, nilS, nilS, nilS, nilS] : List Value).getD z nilS = nilS := fun z => by
    rcases z with _ | _ | _ | _ | _ | _ | _ | _ | z <;> rfl
  have hl : ∀ z, ([[], [], [], [], [], [], [], []] : List (List ByteArray)).getD z [] = [] := fun z => by
    rcases z with _ | _ | _ | _ | _ | _ | _ | _ | z <;> rfl
  refine ⟨[nilS, nilS, nilS, nilS, nilS, nilS, nilS, nilS], nilS, nilS, ⟨rfl, rfl, rfl, fun z => (by show ([[], [], [], [], [], [], [], []].getD z []).length ≤ 16; rw [hl]; simp), fun p hp => (by simp at hp), h1, h2⟩, Blk.new _ _ _, ⟨rfl, fun z _ => ?_, fun z _ g hg => ?_, fun z j _ _ _ g hg => ?_⟩, World.ownsRow_nil _ _ _ _, World.ownsRow_nil _ _ _ _, fun g hg => (by cases hg), fun g hg => (by cases hg), fun z _ g hg => ?_, rfl, fun k hk => ?_⟩
  · rw [hz]; show World.ownsRow _ _ _ _ _ (([[], [], [], [], [], [], [], []] : List (List ByteArray)).getD z []).length (strsV (([[], [], [], [], [], [], [], []] : List (List ByteArray)).getD z [])); rw [hl]; exact World.ownsRow_nil _ _ _ _
  · rw [hz] at hg; cases hg
  · rw [hz] at hg; cases hg
  · rw [hz] at hg; cases hg
  · have e : k = w.heap.size := hk
    subst e
    exact ⟨hb, by simp⟩
set_option maxRecDepth 100000 in
theorem rnew_any (w : World) : Calls Tryd.prog 30 #[] w fun e w' => ∃ b m, e = .returned (.pointer (some ⟨b, 0, none⟩)) ∧ RDev w' w.heap.size b newD m ∧ Below w.heap.size w w' := by
  go_enter Tryd.func30, Tryd.ntmps30
  go_wp2_with (go_at_call 87; first
    | (refine (zeros_int _ 500 rfl (by omega) w).mono ?_; rintro e w1 ⟨rfl, hb1⟩; rw [← pad_zero]; have HB1 := hide hb1; clear hb1)
    | (refine (zeros_int _ 500 rfl (by omega) w1).mono ?_; rintro e w2 ⟨rfl, hb2⟩; rw [← pad_zero]; have HB2 := hide (below_step HB1.out hb2); clear hb2))
  have hd := rdev_new w2 w.heap.size HB2.out.size (padB ⟨#[]⟩ 500) (padB ⟨#[]⟩ 500) (-1) (by omega) (by omega)
  have hb3 : Below w.heap.size w (w2.alloc (.cells (dCells [nilS, nilS, nilS, nilS, nilS, nilS, nilS, nilS] [0, 0, 0, 0, 0, 0, 0, 0] [padB ⟨#[]⟩ 500, padB ⟨#[]⟩ 500] [nilS, nilS, .int .i64 (-1)]) 134)) := HB2.out.alloc HB2.out.size _
  go_ret
  exact ⟨_, _, rfl, hd, hb3⟩

set_option maxRecDepth 100000 in
set_option maxHeartbeats 2000000 in
theorem rimage_any {w : World} {base b : Nat} {D : Dv} {m : Nat → Prop} (h : RDev w base b D m) (hsu : D.SureOk) :
    Calls Tryd.prog 46 #[.pointer (some ⟨b, 0, none⟩)] w fun e w' => ∃ vs, e = .returned (.agg (vs ++ D.T.map Value.string).toArray) ∧ ImgAt w' w.heap.size vs (imageR D) ∧ Below w.heap.size w w' := by
  obtain ⟨zs, av, wv, h0⟩ := h
  have HD := hide h0
  obtain ⟨t0, t1, hT⟩ := list2 h0.ok.hT
  have q0 := h0.cellT 0 (by omega)
  have q1 := h0.cellT 1 (by omega)
  rw [hT] at q0 q1
  simp only [List.getD_cons_zero, List.getD_cons_succ] at q0 q1
  have kb := h0.blk.lt
  have HT := hide hT
  have HSU := hide hsu
  clear h0 hT hsu
  go_enter Tryd.func46, Tryd.ntmps46
  go_wp2_with fail
  obtain ⟨w1, hw1⟩ : ∃ w1, w1 = (w.alloc (.cells #[.slice none 0 0, .slice none 0 0, .slice none 0 0, .slice none 0 0, .slice none 0 0, .slice none 0 0, .slice none 0 0, .slice none 0 0, .string ⟨#[]⟩, .string ⟨#[]⟩] 57)) := ⟨_, rfl⟩
  obtain ⟨w2, hw2⟩ : ∃ w2, w2 = (w1.alloc (.cells #[.slice none 0 0, .slice none 0 0, .slice none 0 0, .slice none 0 0, .slice none 0 0, .slice none 0 0, .slice none 0 0, .slice none 0 0, .string t0, .string t1] 57)) := ⟨_, rfl⟩
  rw [← hw1, ← hw2]
  obtain ⟨R, hR⟩ : ∃ R, R = w.heap.size := ⟨_, rfl⟩
  have hIN : ImgIn w w2 D R 0 [nilS, nilS, nilS, nilS, nilS, nilS, nilS, nilS] t0 t1 := by
    have hs1 : w1.heap.size = R + 1 := by rw [hw1, hR]; simp
    have hb1 : Blk w1 R 57 #[.slice none 0 0, .slice none 0 0, .slice none 0 0, .slice none 0 0, .slice none 0 0, .slice none 0 0, .slice none 0 0, .slice none 0 0, .string ⟨#[]⟩, .string ⟨#[]⟩] := by rw [hw1, hR]; exact Blk.new _ _ _
    refine ⟨rfl, by rw [hw2, ← hs1]; exact Blk.new _ _ _, by rw [hw2]; exact hb1.alloc _, fun z hz => by omega, ?_⟩
    rw [hw2, hw1]
    exact ((Below.refl _ _).alloc (Nat.le_refl _) _).alloc (by simp) _
  have HIN := hide hIN
  have HR := hide hR
  clear hIN hw1 hw2
  rw [← hR]
  clear hR q0 q1
  go_loopw [10] (fun i wr => ∃ I : Nat, i = .int .i64 (I : Int) ∧ I ≤ 8 ∧ ∃ vs, ImgIn w wr D R I vs t0 t1) (fun i _ => 8 - (intOf i).toNat)
  case atStart => exact ⟨0, rfl, by omega, _, HIN.out⟩
  case round =>
    clear HIN
    obtain ⟨I, rfl, hI, vs, hin⟩ := hrel
    have HIN := hide hin
    by_cases hlt : I < 8
    · have d1 : decide ((I : Int) < 8) = true := by simp; omega
      have i1 : (I : Int) < 8 := by omega
      have i2 : (0 : Int) ≤ (I : Int) := by omega
      obtain ⟨k, hk⟩ : ∃ k, k = D.sure I := ⟨_, rfl⟩
      obtain ⟨a, cap, hf⟩ := HD.out.form I hlt
      have hr := HD.out.rows.row I hlt
      obtain ⟨n, hn⟩ : ∃ n, n = (D.zone I).length := ⟨_, rfl⟩
      rw [hf] at hr
      have hst0 : StrsAt w a (D.zone I).length cap (D.zone I) := StrsAt.of_own hr rfl
      rw [← hn] at hst0
      have hkn : k ≤ n := by rw [hk, hn]; exact HSU.out I
      have hst := (hst0.below hin.bel).take k hkn
      have kz : wr.cell? ⟨b, I, none⟩ = some (.slice a n cap) := by
        rw [hin.bel.cell (p := ⟨b, I, none⟩) kb, HD.out.cellZ I hlt, hf, hn]
      have ks : wr.cell? ⟨b, 8 + I, none⟩ = some (.int .i64 (k : Int)) := by
        rw [hk]
        exact (hin.bel.cell (p := ⟨b, 8 + I, none⟩) kb).trans (HD.out.cellS I hlt)
      have kb2 : b < wr.heap.size := Nat.lt_of_lt_of_le kb hin.bel.size
      have hkc : (k : Int) ≤ (cap : Int) := by have := hst.hc; omega
      have hk0 : (0 : Int) ≤ (k : Int) := by omega
      have n16 : n ≤ 16 := by rw [hn]; exact HD.out.ok.cap I
      have hl : (imageR D).getD I [] = (D.zone I).take k := by rw [imageR_at D I hlt, hk]
      have hll : ((D.zone I).take k).length = k := by rw [List.length_take, ← hn]; omega
      obtain ⟨l, hld⟩ : ∃ l, l = (D.zone I).take k := ⟨_, rfl⟩
      rw [← hld] at hst hl hll
      have HST := hide hst
      have HL := hide hl
      have HLL := hide hll
      have HZ0 := hide hst0.hz
      clear hin hf hst hl hll hk hld hr hst0 hn
      go_upto_region 5 with fail
      cases a with
      | none =>
        obtain ⟨hn0, hc0⟩ := HZ0.out rfl
        subst hn0 hc0
        obtain rfl : k = 0 := by omega
        go_region_law ((refine step_strs (v := .slice (some ⟨wr.heap.size, 0, none⟩) 0 0) (n := 0) (l0 := []) (A := none) (k := 0) (cap := 0) (l := l) (by rfl) _ _ (by rfl) wr.heap.size (by rfl) (World.ownsRow_made _ _ 0 (Nat.le_refl _) (by decide) rfl).drew (by rfl) (HST.out.below ((Below.refl _ _).alloc (Nat.le_refl _) _)).drew (by omega) (by simp) ?_; intro vA wA hownA hgA hatA; rw [Nat.zero_add, List.nil_append] at hownA; obtain ⟨aA, cA, hvA⟩ := own_form hownA; subst hvA; have hb3 := rchain0 hgA; have HS3 := hide (HIN.out.step HR.out hlt hb3 _ (by rw [HL.out, HLL.out]; exact hownA)); have hB3 := HIN.out.tgt.below hb3 HIN.out.tgt.lt; have c3 : wA.cell? ⟨R + 1, I, none⟩ = some (vs.getD I nilS) := (by rw [hB3.cell]; simp [List.getElem?_append, HIN.out.len, hlt, List.getD]); have f3 := hB3.frozen I; clear hownA hgA hatA hb3 hB3))
        all_goals
          go_wp2_with fail
          refine ⟨⟨I + 1, by go_num, by omega, _, HS3.out⟩, by simp [intOf]; omega⟩
      | some x =>
        go_region_law ((refine step_strs (v := .slice (some ⟨wr.heap.size, 0, none⟩) 0 0) (n := 0) (l0 := []) (A := some x) (k := k) (cap := cap) (l := l) (by rfl) _ _ (by rfl) wr.heap.size (by rfl) (World.ownsRow_made _ _ 0 (Nat.le_refl _) (by decide) rfl).drew (by rfl) (HST.out.below ((Below.refl _ _).alloc (Nat.le_refl _) _)).drew (by omega) (by simp) ?_; intro vA wA hownA hgA hatA; rw [Nat.zero_add, List.nil_append] at hownA; obtain ⟨aA, cA, hvA⟩ := own_form hownA; subst hvA; have hb3 := rchain0 hgA; have HS3 := hide (HIN.out.step HR.out hlt hb3 _ (by rw [HL.out, HLL.out]; exact hownA)); have hB3 := HIN.out.tgt.below hb3 HIN.out.tgt.lt; have c3 : wA.cell? ⟨R + 1, I, none⟩ = some (vs.getD I nilS) := (by rw [hB3.cell]; simp [List.getElem?_append, HIN.out.len, hlt, List.getD]); have f3 := hB3.frozen I; clear hownA hgA hatA hb3 hB3))
        all_goals
          go_wp2_with fail
          refine ⟨⟨I + 1, by go_num, by omega, _, HS3.out⟩, by simp [intOf]; omega⟩
    · obtain rfl : I = 8 := by omega
      have d1 : decide ((8 : Int) < 8) = false := by simp
      rw [show ((8 : Nat) : Int) = 8 from rfl]
      obtain ⟨v0, v1, v2, v3, v4, v5, v6, v7, hvs⟩ := list8 hin.len
      have k0 : wr.cell? ⟨R + 1, 0, none⟩ = some v0 := by rw [hin.tgt.cell, hvs]; rfl
      have k1 : wr.cell? ⟨R + 1, 1, none⟩ = some v1 := by rw [hin.tgt.cell, hvs]; rfl
      have k2 : wr.cell? ⟨R + 1, 2, none⟩ = some v2 := by rw [hin.tgt.cell, hvs]; rfl
      have k3 : wr.cell? ⟨R + 1, 3, none⟩ = some v3 := by rw [hin.tgt.cell, hvs]; rfl
      have k4 : wr.cell? ⟨R + 1, 4, none⟩ = some v4 := by rw [hin.tgt.cell, hvs]; rfl
      have k5 : wr.cell? ⟨R + 1, 5, none⟩ = some v5 := by rw [hin.tgt.cell, hvs]; rfl
      have k6 : wr.cell? ⟨R + 1, 6, none⟩ = some v6 := by rw [hin.tgt.cell, hvs]; rfl
      have k7 : wr.cell? ⟨R + 1, 7, none⟩ = some v7 := by rw [hin.tgt.cell, hvs]; rfl
      have k8 : wr.cell? ⟨R + 1, 8, none⟩ = some (.string t0) := by rw [hin.tgt.cell, hvs]; rfl
      have k9 : wr.cell? ⟨R + 1, 9, none⟩ = some (.string t1) := by rw [hin.tgt.cell, hvs]; rfl
      have r0 := hin.res.cell 0
      have r1 := hin.res.cell 1
      have r2 := hin.res.cell 2
      have r3 := hin.res.cell 3
      have r4 := hin.res.cell 4
      have r5 := hin.res.cell 5
      have r6 := hin.res.cell 6
      have r7 := hin.res.cell 7
      have r8 := hin.res.cell 8
      have r9 := hin.res.cell 9
      have g0 := hin.res.frozen 0
      have g1 := hin.res.frozen 1
      have g2 := hin.res.frozen 2
      have g3 := hin.res.frozen 3
      have g4 := hin.res.frozen 4
      have g5 := hin.res.frozen 5
      have g6 := hin.res.frozen 6
      have g7 := hin.res.frozen 7
      have g8 := hin.res.frozen 8
      have g9 := hin.res.frozen 9
      have hform : ∀ z, z < 8 → ∃ n a c, vs.getD z nilS = .slice a n c := fun z hz => by
        obtain ⟨a, c, h⟩ := ownsRow_slice (hin.row z hz)
        exact ⟨_, a, c, h⟩
      rw [hvs] at hform
      obtain ⟨n0, a0, c0, rfl⟩ : ∃ n a c, v0 = .slice a n c := hform 0 (by omega)
      obtain ⟨n1, a1, c1, rfl⟩ : ∃ n a c, v1 = .slice a n c := hform 1 (by omega)
      obtain ⟨n2, a2, c2, rfl⟩ : ∃ n a c, v2 = .slice a n c := hform 2 (by omega)
      obtain ⟨n3, a3, c3, rfl⟩ : ∃ n a c, v3 = .slice a n c := hform 3 (by omega)
      obtain ⟨n4, a4, c4, rfl⟩ : ∃ n a c, v4 = .slice a n c := hform 4 (by omega)
      obtain ⟨n5, a5, c5, rfl⟩ : ∃ n a c, v5 = .slice a n c := hform 5 (by omega)
      obtain ⟨n6, a6, c6, rfl⟩ : ∃ n a c, v6 = .slice a n c := hform 6 (by omega)
      obtain ⟨n7, a7, c7, rfl⟩ : ∃ n a c, v7 = .slice a n c := hform 7 (by omega)
      obtain ⟨wF, hwF⟩ : ∃ wF, wF = set10 wr R (.slice a0 n0 c0) (.slice a1 n1 c1) (.slice a2 n2 c2) (.slice a3 n3 c3) (.slice a4 n4 c4) (.slice a5 n5 c5) (.slice a6 n6 c6) (.slice a7 n7 c7) (.string t0) (.string t1) := ⟨_, rfl⟩
      have hF : Blk wF R 57 #[.slice a0 n0 c0, .slice a1 n1 c1, .slice a2 n2 c2, .slice a3 n3 c3, .slice a4 n4 c4, .slice a5 n5 c5, .slice a6 n6 c6, .slice a7 n7 c7, .string t0, .string t1] := by rw [hwF]; exact set10_blk hin.res _ _ _ _ _ _ _ _ _ _
      have hBF : Below w.heap.size w wF := by rw [hwF]; exact set10_below hin.bel (Nat.le_of_eq HR.out.symm) _ _ _ _ _ _ _ _ _ _
      have hIF : ImgAt wF w.heap.size vs (imageR D) := by
        refine ⟨hin.len, fun z hz => ownsRow_same (hin.row z hz) (fun g hg => ?_)⟩
        have hgR : g ≠ R := fun e => own_blk_ne (hin.row z hz) hin.res (by decide) (by rw [hg, e])
        rw [hwF]
        exact set10_ne _ _ _ _ _ _ _ _ _ _ _ _ g hgR
      have HF := hide hF
      have HBF := hide hBF
      have HIF := hide hIF
      have HWF := hide hwF
      have HVS := hide hvs
      clear hin hvs hform hF hBF hIF hwF
      simp only [List.getElem?_toArray, List.getElem?_cons_zero, List.getElem?_cons_succ] at r0 r1 r2 r3 r4 r5 r6 r7 r8 r9
      go_wp2_with fail
      have hwF := HWF.out
      unfold set10 at hwF
      rw [← hwF]
      refine bodyPost_ret (v := .agg #[.slice a0 n0 c0, .slice a1 n1 c1, .slice a2 n2 c2, .slice a3 n3 c3, .slice a4 n4 c4, .slice a5 n5 c5, .slice a6 n6 c6, .slice a7 n7 c7, .string t0, .string t1]) ?_ rfl ⟨vs, ?_, HIF.out, HBF.out⟩
      · exact results_cell_row rfl _ _ R 57 _ (0, 0) _ rfl HF.out Tryd.underlying57 rfl (by kernel_rfl)
      · rw [HVS.out, HT.out]; rfl
end Go.Proofs.YtmligbaalbbgiabDoor

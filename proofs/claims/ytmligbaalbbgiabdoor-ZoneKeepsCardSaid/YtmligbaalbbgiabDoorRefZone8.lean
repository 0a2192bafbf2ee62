/- The reference's device: Lay. Conditions: a device lies at the receiver; the image can be read. -/
import Derived.Test.YtmligbaalbbgiabDoorRefZone3
import Derived.Test.YtmligbaalbbgiabDoorZone5
namespace Go.Proofs.YtmligbaalbbgiabDoor
open Go.RowKit

theorem rzone_after {w w2 : World} {base b : Nat} {D : Dv} {m : Nat → Prop} {zs : List Value} {av wv : Value} (h : RDevAt w base b D m zs av wv) (Z : Nat) (hZ : Z < 8) (hb : Below w.drew.heap.size w.drew w2) (o : Obj) :
    (w2.alloc o).ownsRow base 9 1 (zs.getD Z nilS) (D.zone Z).length (strsV (D.zone Z)) := by
  have h3 : Below w.heap.size w.drew (w2.alloc o) := hb.alloc hb.size o
  exact ownsRow_same (h.rows.row Z hZ) (fun g hg => h3.block g (h.lt g (h.rows.own Z hZ g hg)).2)
theorem rlay_end {w w1 w2 : World} {base b : Nat} {D : Dv} {m : Nat → Prop} {zs : List Value} {av wv : Value} (h : RDevAt w base b D m zs av wv) (Z : Nat) (hZ : Z < 8) (hb : Below w.heap.size w w1) (o : Obj) (g cap : Nat) (s : ByteArray)
    (hl : (D.zone Z).length < 16) (hown : w2.ownsRow base 9 1 (.slice (some ⟨g, 0, none⟩) ((D.zone Z).length + 1) cap) ((D.zone Z).length + 1) (strsV (D.zone Z) ++ [.string s])) (hg : (w1.alloc o).grownBy w2 (zs.getD Z nilS).ownBlock) (hat : (zs.getD Z nilS).ownBlock = some g ∨ g = w1.heap.size + 1) :
    w2.cell? ⟨b, Z, none⟩ = some (zs.getD Z nilS) ∧ w2.frozen? ⟨b, Z, none⟩ = false ∧
    RDevAt (w2.setCell ⟨b, Z, none⟩ (.slice (some ⟨g, 0, none⟩) ((D.zone Z).length + 1) cap)) base b { D with L := D.L.set Z (D.zone Z ++ [s]) } (plus m w.heap.size w2.heap.size) (zs.set Z (.slice (some ⟨g, 0, none⟩) ((D.zone Z).length + 1) cap)) av wv ∧
    Moves w (w2.setCell ⟨b, Z, none⟩ (.slice (some ⟨g, 0, none⟩) ((D.zone Z).length + 1) cap)) m (plus m w.heap.size w2.heap.size) := by
  have hb1 : Below w.heap.size w (w1.alloc o) := hb.alloc hb.size o
  have hs : w.heap.size ≤ w2.heap.size := Nat.le_trans hb1.size hg.size
  have hk : ∀ k, k < w.heap.size → some k ≠ (zs.getD Z nilS).ownBlock → w2.heap[k]? = w.heap[k]? := fun k hk hne => by
    rw [hg.block k (Nat.lt_of_lt_of_le hk hb1.size) hne]
    exact hb1.block k hk
  have hB : Blk w2 b 134 (dCells zs D.S D.T [av, wv, .int .i64 D.f]) := (hk b h.blk.lt (fun he => h.neZone Z hZ he.symm)).trans h.blk
  have el : (D.zone Z ++ [s]).length = (D.zone Z).length + 1 := by simp
  have hv : w2.ownsRow base 9 1 (.slice (some ⟨g, 0, none⟩) ((D.zone Z).length + 1) cap) (D.zone Z ++ [s]).length (strsV (D.zone Z ++ [s])) := by
    rw [strsV_append, el]
    exact hown
  refine ⟨by rw [hB.cell, dCells_z h.rows.len Z hZ], hB.frozen Z, h.setZ Z hZ hs hk _ _ (by rw [el]; omega) hv (fun g' hg' => ?_), h.setZ_moves Z hZ (hg.os.trans hb1.os) (hg.tape.trans hb1.tape) (hg.output.trans hb1.output) hs hk _⟩
  have hgg : g = g' := by simpa [Value.ownBlock] using hg'
  subst hgg
  exact hat.imp id (fun h => by have := hb.size; omega)

set_option maxRecDepth 100000 in
set_option maxHeartbeats 4000000 in
theorem rlay_any {w : World} {base b : Nat} {D : Dv} {m : Nat → Prop} (h : RDev w base b D m) (vs : List Value) (Z : List (List ByteArray)) (t0 t1 : ByteArray) (hr : ImgRead w m vs Z) (hf : ∀ z, z < 8 → (Z.getD z []).length ≤ 65536) (ht0 : t0.size ≤ 65536) (ht1 : t1.size ≤ 65536) :
    Calls Tryd.prog 43 #[.pointer (some ⟨b, 0, none⟩), .agg (vs ++ [Value.string t0, Value.string t1]).toArray] w fun e w' => e = .returned (.tuple #[]) ∧ ∃ m', RDev w' base b (layD D Z [t0, t1]) m' ∧ Moves w w' m m' := by
  obtain ⟨i0, hi0, hz0, hz1, hz2⟩ := info_parts info_str
  have hD : D.Ok := by obtain ⟨_, _, _, h0⟩ := h; exact h0.ok
  obtain ⟨P, hP⟩ : ∃ P, P = w.heap.size := ⟨_, rfl⟩
  obtain ⟨w1, hw1⟩ : ∃ w1, w1 = w.alloc (.cells (vs ++ [Value.string t0, Value.string t1]).toArray 57) := ⟨_, rfl⟩
  have hb1 : Below w.heap.size w w1 := by rw [hw1]; exact (Below.refl _ _).alloc (Nat.le_refl _) _
  have hBP : Blk w1 P 57 (vs ++ [Value.string t0, Value.string t1]).toArray := by rw [hw1, hP]; exact Blk.new _ _ _
  have hmP : ¬ m P := fun hc => by obtain ⟨_, _, _, h0⟩ := h; have := (h0.lt P hc).2; omega
  have H1 := hide (h.below hb1)
  have HM1 := hide (Moves.of_below hb1 m)
  have HR1 := hide (hr.moves HM1.out)
  have HBP := hide hBP
  have HmP := hide hmP
  have HOK := hide hD
  have HT0 := hide ht0
  have HT1 := hide ht1
  have HFW := hide hf
  have HW1 := hide hw1
  have HP := hide hP
  clear h hr hD ht0 ht1 hf hP hw1 hb1 hBP hmP
  go_enter Tryd.func43, Tryd.ntmps43
  go_upto_region 1 with fail
  rw [← HW1.out, ← HP.out]
  obtain ⟨zs, av, wv, h2⟩ := H1.out
  have k18 := h2.cellA
  have k19 := h2.cellW
  have f18 := h2.blk.frozen 18
  have f19 := h2.blk.frozen 19
  have h3 := h2.setQ (w1 := w1) (Nat.le_refl _) (fun _ _ _ _ => rfl) nilS nilS [] (by simp) (World.ownsRow_nil _ _ _ _) (World.ownsRow_nil _ _ _ _) (fun g hg => by cases hg) (fun g hg => by cases hg)
  have hm3 := h2.setQ_moves (w1 := w1) rfl rfl rfl (Nat.le_refl _) (fun _ _ _ _ => rfl) nilS nilS
  have H3 : Hid (RDev ((w1.setCell ⟨b, 18, none⟩ nilS).setCell ⟨b, 19, none⟩ nilS) base b { D with q := [] } (plus m w1.heap.size w1.heap.size)) := hide ⟨_, _, _, h3⟩
  have HM3 := hide hm3
  clear h2 h3 hm3 H1
  go_wp2_with fail
  obtain ⟨w2, hw2⟩ : ∃ w2, w2 = (w1.setCell ⟨b, 18, none⟩ (.slice none 0 0)).setCell ⟨b, 19, none⟩ (.slice none 0 0) := ⟨_, rfl⟩
  obtain ⟨E, hE⟩ : ∃ E : Dv, E = { D with q := [] } := ⟨_, rfl⟩
  have H4 : Hid (RDev w2 base b E (plus m w1.heap.size w1.heap.size)) := hide (by rw [hw2, hE]; exact H3.out)
  have HM4 : Hid (Moves w1 w2 m (plus m w1.heap.size w1.heap.size)) := hide (by rw [hw2]; exact HM3.out)
  have HLL : Hid (E.L.length = 8) := hide (by rw [hE]; exact HOK.out.hL)
  have HSS : Hid (E.S.length = 8) := hide (by rw [hE]; exact HOK.out.hS)
  have HTT : Hid (E.T.length = 2) := hide (by rw [hE]; exact HOK.out.hT)
  have HE := hide hE
  rw [← hw2]
  clear hw2 hE H3 HM3 k18 k19 f18 f19
  go_loopw [14] (fun i wr => ∃ I : Nat, i = .int .i64 (I : Int) ∧ I ≤ 8 ∧ ∃ m', RDev wr base b (layAt E Z I) m' ∧ Moves w1 wr m m') (fun i _ => 8 - (intOf i).toNat)
  case atStart => exact ⟨0, rfl, by omega, _, by unfold layAt; rw [mixL_zero, mixL_zero]; exact H4.out, HM4.out⟩
  case round =>
    clear H4 HM4
    obtain ⟨I, rfl, hI, m2, h2, hm2⟩ := hrel
    have HM2 := hide hm2
    by_cases hlt : I < 8
    · have d1 : decide ((I : Int) < 8) = true := by simp; omega
      have i1 : (I : Int) < 8 := by omega
      have i2 : (0 : Int) ≤ (I : Int) := by omega
      obtain ⟨a, n, cap, hf, hst, hap⟩ := (HR1.out.moves hm2).at_ I hlt
      obtain ⟨l, hl⟩ : ∃ l, l = Z.getD I [] := ⟨_, rfl⟩
      rw [← hl] at hst hap
      have hsm : ∀ s, s ∈ l → s.size ≤ 65536 := by rw [hl]; exact HR1.out.small I hlt
      have hfn : n ≤ 65536 := by rw [hst.hn, hl]; exact HFW.out I hlt
      obtain ⟨zs, av, wv, h3⟩ := h2
      have k1 := h3.cellZ I hlt
      have f1 := h3.blk.frozen I
      have e4 := h3.setZ I hlt (w1 := wr) (Nat.le_refl _) (fun _ _ _ => rfl) nilS [] (by simp) (World.ownsRow_nil _ _ _ _) (fun g hg => by cases hg)
      have hm4 := h3.setZ_moves I hlt (w1 := wr) rfl rfl rfl (Nat.le_refl _) (fun _ _ _ => rfl) nilS
      have hmP2 : ¬ m2 P := fun hc => (hm2.sub P hc).elim HmP.out (fun h => by have := HBP.out.lt; omega)
      have hbP : Blk wr P 57 (vs ++ [Value.string t0, Value.string t1]).toArray := (hm2.block P HBP.out.lt HmP.out).trans HBP.out
      have H4 : Hid (RDev (wr.setCell ⟨b, I, none⟩ nilS) base b (layIn E Z I 0) (plus m2 wr.heap.size wr.heap.size)) := hide (by
        rw [← layIn_zero]; exact ⟨_, _, _, e4⟩)
      have kP : (wr.setCell ⟨b, I, none⟩ nilS).cell? ⟨P, I, none⟩ = some (.slice a n cap) := by
        have h := (hm4.block P hbP.lt hmP2).trans hbP
        rw [Blk.cell h I, ← hf]
        simp [List.getElem?_append, HR1.out.len, hlt, List.getD]
      have HM4 := hide (hm2.trans hm4)
      have HST := hide (hst.moves hap hm4)
      have HAP : Hid (∀ x, a = some x → 0 < l.length → ¬ plus m2 wr.heap.size wr.heap.size x.block) := hide (fun x hx hp hc => hc.elim (hap x hx hp) (fun h => by omega))
      have HL := hide hl
      have HSM := hide hsm
      have HN := hide hst.hn
      clear h3 e4 hm4 hm2 HM2 hst hap hsm hl hf hbP hmP2
      go_upto_region 6 with fail
      obtain ⟨w4, hw4⟩ : ∃ w4, w4 = wr.setCell ⟨b, I, none⟩ (.slice none 0 0) := ⟨_, rfl⟩
      have H5 : Hid (RDev w4 base b (layIn E Z I 0) (plus m2 wr.heap.size wr.heap.size)) := hide (by rw [hw4]; exact H4.out)
      have HM5 : Hid (Moves w1 w4 m (plus m2 wr.heap.size wr.heap.size)) := hide (by rw [hw4]; exact HM4.out)
      have HST5 : Hid (StrsAt w4 a n cap l) := hide (by rw [hw4]; exact HST.out)
      have kP5 : w4.cell? ⟨P, I, none⟩ = some (.slice a n cap) := by rw [hw4]; exact kP
      rw [← hw4]
      clear hw4 H4 HM4 HST kP k1 f1
      go_wp2_with fail
      clear kP5
      go_loopw [27] (fun j wr' => ∃ J : Nat, j = .int .i64 (J : Int) ∧ J ≤ n ∧ ∃ m', RDev wr' base b (layIn E Z I (min J 16)) m' ∧ Moves w1 wr' m m' ∧ StrsAt wr' a n cap l ∧ (∀ x, a = some x → 0 < l.length → ¬ m' x.block)) (fun j _ => n - (intOf j).toNat)
      case atStart => exact ⟨0, rfl, by omega, _, H5.out, HM5.out, HST5.out, HAP.out⟩
      case round =>
        clear H5 HM5 HST5 HAP
        obtain ⟨J, rfl, hJ, m3, h5, hm5, hst, hap⟩ := hrel
        by_cases hlt2 : J < n
        · have d2 : decide (J < n) = true := by simpa using hlt2
          have hJl : J < l.length := by rw [← HN.out]; exact hlt2
          obtain ⟨x, rfl⟩ : ∃ x, a = some x := by
            cases a with
            | none => have := (hst.hz rfl).1; omega
            | some x => exact ⟨x, rfl⟩
          have cx := hst.hcell x rfl J hJl
          obtain ⟨s, hs⟩ : ∃ s, s = l.getD J ⟨#[]⟩ := ⟨_, rfl⟩
          rw [← hs] at cx
          by_cases h16 : J < 16
          · have c16 : decide ((J : Int) < 16) = true := by simp; omega
            have hss : s.size ≤ 65536 := HSM.out s (by rw [hs, List.getD, List.getElem?_eq_getElem hJl]; exact List.getElem_mem _)
            obtain ⟨S, hS⟩ : ∃ S, S = padB s 128 := ⟨_, rfl⟩
            rw [Nat.min_eq_left (by omega)] at h5
            obtain ⟨zs, av, wv, h6⟩ := h5
            obtain ⟨B, hB⟩ : ∃ B, B = layIn E Z I J := ⟨_, rfl⟩
            rw [← hB] at h6
            have hBz : (B.zone I).length = J := by rw [hB, layIn_zone E Z I J HR1.out.zlen HLL.out hlt, List.length_map, List.length_take, ← HL.out]; omega
            obtain ⟨v, hv⟩ : ∃ v, v = zs.getD I nilS := ⟨_, rfl⟩
            have kz := h6.cellZ I hlt
            rw [← hv] at kz
            have kb := h6.blk.lt
            have HW := hide h6
            have HB := hide hB
            have HV := hide hv
            have HS := hide hs
            have HSZ := hide hss
            have HSd := hide hS
            have HJ := hide hBz
            have HM5 := hide hm5
            have HST := hide hst
            have HAP := hide hap
            have HBB : Hid (base ≤ b) := hide (h6.lt b h6.own).1
            clear hst hap hm5 h6 hB hv hs hss hS hBz
            go_upto_region 10 with fail
            go_region_law (first
              | (go_simp; go_at_call 85; refine (rlong_any s 128 HSZ.out (by omega) _).mono ?_; rintro e w6 ⟨rfl, hb6⟩; rw [← HSd.out]; have HB6 := hide hb6; have kz6 : w6.cell? ⟨b, I, none⟩ = some v := (hb6.cell (p := ⟨b, I, none⟩) kb).trans kz; have kb6 : b < w6.heap.size := Nat.lt_of_lt_of_le kb hb6.size; clear hb6)
              | (refine step_append_lies _ (by rfl) _ _ _ (by rfl) base 9 i0 _ 1 16 Tryd.underlying22 hi0 hz0 hz1 hz2 rfl (by omega) v (B.zone I).length (strsV (B.zone I)) (by rfl) (by rw [HV.out]; exact rzone_after HW.out I hlt HB6.out _) ⟨w6.heap.size, 0, none⟩ 1 1 [.string S] (by rfl) (by rfl) (World.news_of_block (fr := (0, 0)) (heap_alloc_new w6 _)) (by simp [Value.oneCell']) (by omega) (by unfold maxLen; have := HJ.out; omega) (by have := HJ.out; omega) (by have := HBB.out; simp; omega) (w6.heap.size + 1) (by simp) ?_; intro gg cp w7 hown7 hgrow7 hat7 hlt7; rw [HV.out] at hgrow7 hat7; obtain ⟨e1, e2, e3, e4⟩ := rlay_end (HW.out.drewN 1) I hlt HB6.out _ gg cp S (by rw [HJ.out]; omega) hown7 hgrow7 hat7; have E3 := hide e3; have E4 := hide e4; clear e3 e4 hown7 hgrow7 hat7 hlt7))
            all_goals
              have hm7 := Moves.ofDrewN E4.out
              have hst7 := HST.out.moves HAP.out hm7
              have hap7 : ∀ y, some x = some y → 0 < l.length → ¬ (plus m3 _ _) y.block := fun y hy hp hc => (hm7.sub _ hc).elim (HAP.out y hy hp) (fun h => by have := HST.out.hlt y hy hp; omega)
              have e5 : RDev _ base b _ _ := ⟨_, _, _, E3.out⟩
              rw [HB.out, HSd.out, HS.out, HL.out, layIn_step E Z I J HR1.out.zlen HLL.out hlt (by rw [← HL.out]; exact hJl)] at e5
              have E5 := hide e5
              have HM7 := hide (HM5.out.trans hm7)
              have HST7 := hide hst7
              have HAP7 := hide hap7
              rw [HB.out] at HM7 HST7
              clear e5 E3 E4 HW HB6 e1 e2 hm7 hst7 hap7 HST HAP HM5
              go_wp2_with fail
              rw [HB.out]
              refine ⟨⟨J + 1, by go_num, by omega, _, by rw [Nat.min_eq_left (by omega)]; exact E5.out, HM7.out, HST7.out, HAP7.out⟩, by simp [intOf]; omega⟩
          · have c16 : decide ((J : Int) < 16) = false := by simp; omega
            have H5 : Hid (RDev wr base b (layIn E Z I (min (J + 1) 16)) m3) := hide (by
              rw [Nat.min_eq_right (by omega)]
              rw [Nat.min_eq_right (by omega)] at h5
              exact h5)
            have HM5 := hide hm5
            have HST := hide hst
            have HAP := hide hap
            clear h5 hm5 hst hap hs
            go_wp2_with fail
            refine ⟨⟨J + 1, by go_num, by omega, _, H5.out, HM5.out, HST.out, HAP.out⟩, by simp [intOf]; omega⟩
        · obtain rfl : J = n := by omega
          have d2 : decide (J < J) = false := by simp
          obtain ⟨c, hc⟩ : ∃ c, c = min J 16 := ⟨_, rfl⟩
          rw [← hc] at h5
          have hcl : c = min (Z.getD I []).length 16 := by rw [← HL.out, ← HN.out]; exact hc
          obtain ⟨zs, av, wv, h6⟩ := h5
          obtain ⟨a', cap', hf⟩ := h6.form I hlt
          have k1 := h6.cellZ I hlt
          have k2 := h6.cellS I hlt
          have f2 := h6.blk.frozen (8 + I)
          have hz : ((layIn E Z I c).zone I).length = c := by rw [layIn_zone E Z I c HR1.out.zlen HLL.out hlt, List.length_map, List.length_take, ← HL.out, ← HN.out]; omega
          rw [hf, hz] at k1
          have e8 := h6.setS I c hlt
          rw [layIn_last E Z I c HR1.out.zlen HLL.out HSS.out hlt hcl] at e8
          have hm8 := hm5.trans (Moves.setCell _ _ (p := ⟨b, 8 + I, none⟩) h6.own (.int .i64 (c : Int)))
          have H8 : Hid (RDev _ base b (layAt E Z (I + 1)) m3) := hide ⟨_, _, _, e8⟩
          have HM8 := hide hm8
          clear h6 e8 hm8 hm5 hf hz hst hap hc hcl
          go_upto_region 12 with fail
          go_region
          go_wp2_with fail
          refine ⟨⟨I + 1, by go_num, by omega, _, H8.out.drewN 1, HM8.out.drewN 1⟩, by simp [intOf]; omega⟩
    · obtain rfl : I = 8 := by omega
      have d1 : decide ((8 : Int) < 8) = false := by simp
      have e8 : layAt E Z 8 = { E with L := layL Z, S := (layL Z).map List.length } := by
        unfold layAt
        rw [mixL_all _ _ (by rw [layL_length]; exact HR1.out.zlen) HLL.out, mixL_all _ _ (by rw [List.length_map, layL_length]; exact HR1.out.zlen) HSS.out]
      rw [e8] at h2
      have H3 := hide h2
      have hmP2 : ¬ m2 P := fun hc => (hm2.sub P hc).elim HmP.out (fun h => by have := HBP.out.lt; omega)
      have hBr : Blk wr P 57 (vs ++ [Value.string t0, Value.string t1]).toArray := (hm2.block P HBP.out.lt HmP.out).trans HBP.out
      have HBR := hide hBr
      clear e8 h2 hm2 hlt hI hBr hmP2
      rw [show ((8 : Nat) : Int) = 8 from rfl]
      go_wp2_with fail
      go_loopw [63] (fun j wr' => ∃ J : Nat, j = .int .i64 (J : Int) ∧ J ≤ 2 ∧ ∃ m', RDev wr' base b { E with L := layL Z, S := (layL Z).map List.length, T := mixL [padB t0 500, padB t1 500] E.T J } m' ∧ Moves w1 wr' m m') (fun j _ => 2 - (intOf j).toNat)
      case atStart => exact ⟨0, rfl, by omega, m2, by rw [mixL_zero]; exact H3.out, HM2.out⟩
      case round =>
        clear H3 HM2 HBR
        obtain ⟨J, rfl, hJ, m3, h5, hm5⟩ := hrel
        by_cases hlt2 : J < 2
        · have d2 : decide ((J : Int) < 2) = true := by simp; omega
          have j1 : (J : Int) < 2 := by omega
          have j2 : (0 : Int) ≤ (J : Int) := by omega
          obtain ⟨s, hs⟩ : ∃ s, s = [t0, t1].getD J ⟨#[]⟩ := ⟨_, rfl⟩
          have hbP : Blk wr P 57 (vs ++ [Value.string t0, Value.string t1]).toArray := (hm5.block P HBP.out.lt HmP.out).trans HBP.out
          have kP : wr.cell? ⟨P, 8 + J, none⟩ = some (.string s) := by
            rw [hbP.cell, hs]
            obtain rfl | rfl : J = 0 ∨ J = 1 := by omega
            · simp [HR1.out.len]
            · simp [HR1.out.len]
          have hss : s.size ≤ 65536 := by
            rw [hs]
            obtain rfl | rfl : J = 0 ∨ J = 1 := by omega
            · exact HT0.out
            · exact HT1.out
          have hpad : [padB t0 500, padB t1 500].getD J ⟨#[]⟩ = padB s 500 := by
            rw [hs]
            obtain rfl | rfl : J = 0 ∨ J = 1 := by omega
            · rfl
            · rfl
          obtain ⟨S, hS⟩ : ∃ S, S = padB s 500 := ⟨_, rfl⟩
          obtain ⟨zs, av, wv, h6⟩ := h5
          have kt := h6.cellT J hlt2
          have ft := h6.blk.frozen (16 + J)
          have kb := h6.blk.lt
          have HW := hide h6
          have HSZ := hide hss
          have HSd := hide hS
          have HPD := hide hpad
          have HM5 := hide hm5
          clear h6 hm5 hs hss hpad hS hbP
          go_upto_region 17 with fail
          go_region_law (first
            | (go_simp; go_at_call 85; refine (rlong_any s 500 HSZ.out (by omega) _).mono ?_; rintro e w6 ⟨rfl, hb6⟩; rw [← HSd.out]; have HB6 := hide hb6; have kt6 := (hb6.cell (p := ⟨b, 16 + J, none⟩) kb).trans kt; have ft6 := (hb6.frozen (p := ⟨b, 16 + J, none⟩) kb).trans ft; clear hb6))
          all_goals
            have hb6 := HB6.out
            have hd6 := (HW.out.drewN 1).same (fun k hk => hb6.block k (HW.out.lt k hk).2) hb6.size
            have e7 := hd6.setT J hlt2 S
            have hm7 := (HM5.out.trans (Moves.ofDrewN (n := 1) (Moves.of_below hb6 m3))).trans (Moves.setCell _ _ (p := ⟨b, 16 + J, none⟩) hd6.own (.string S))
            have e8 : RDev _ base b _ _ := ⟨_, _, _, e7⟩
            rw [HSd.out] at e8
            rw [← HPD.out, mixL_stepG [padB t0 500, padB t1 500] E.T J ⟨#[]⟩ (by rw [HTT.out]; rfl) (by simpa using hlt2), HPD.out] at e8
            rw [← HSd.out] at e8
            have H8 := hide e8
            have HM8 := hide hm7
            clear hb6 hd6 e7 e8 hm7 HW HB6 HM5
            go_wp2_with fail
            refine ⟨⟨J + 1, by go_num, by omega, _, H8.out, HM8.out⟩, by simp [intOf]; omega⟩
        · obtain rfl : J = 2 := by omega
          have d2 : decide ((2 : Int) < 2) = false := by simp
          rw [show ((2 : Nat) : Int) = 2 from rfl]
          have e9 : mixL [padB t0 500, padB t1 500] E.T 2 = [t0, t1].map fun s => padB s 500 := by
            unfold mixL
            rw [List.drop_of_length_le (by rw [HTT.out]; exact Nat.le_refl _)]
            rfl
          rw [e9] at h5
          have e11 : (layL Z).map List.length = Z.map fun l => min l.length 16 := by simp [layL, Nat.min_comm]
          rw [e11, HE.out] at h5
          have H10 : Hid (RDev wr base b (layD D Z [t0, t1]) m3) := hide h5
          have HM10 := hide (HM1.out.trans hm5)
          clear h5 hm5 e9 e11 hlt2 hJ
          go_wp2_with fail
          go_end0
          exact ⟨rfl, _, H10.out, HM10.out⟩
end Go.Proofs.YtmligbaalbbgiabDoor

/- The walk of salternlaw.ZoneKeeps: it returns true. Conditions: the arguments can be read; the package errors has laid its variable. -/
import Derived.Test.YtmligbaalbbgiabDoorKeepsB
namespace Go.Proofs.YtmligbaalbbgiabDoor
open Go.RowKit

theorem OpsAt.below {w w' : World} {A : Option Addr} {n : Nat} {l : List OpD} (h : OpsAt w A n l) (hb : Below w.heap.size w w') : OpsAt w' A n l :=
  ⟨h.hn, h.wf, fun i hi => by
    obtain ⟨a, x, h1, h2, h3, h4, h5, h6⟩ := h.at_ i hi
    exact ⟨a, x, h1, h2, Nat.lt_of_lt_of_le h3 hb.size, fun j v hj => by rw [hb.cell (p := (a.add (i * 5)).add j) (by rw [Go.ChangeShapes.block_add, Go.ChangeShapes.block_add]; exact h3)]; exact h4 j v hj, h5.grow' hb (fun _ h => h.elim), h6.grow' hb (fun _ h => h.elim)⟩⟩

theorem atR_small (D : Dv) (v : Int) (h : ∀ z, (D.zone z).length ≤ 16) : 0 ≤ (atR D v).1 ∧ (atR D v).1 ≤ 16 := by
  unfold atR
  split
  · exact ⟨by decide, by decide⟩
  · have := h v.toNat
    exact ⟨by simp, by simp; omega⟩
set_option maxRecDepth 100000 in
set_option maxHeartbeats 16000000 in
theorem keeps_any (w : World) (A : Option Addr) (n c : Nat) (l : List OpD) (vs : List Value) (Z : List (List ByteArray)) (t0 t1 : ByteArray) (hl : OpsAt w A n l) (hf : FirstAt w vs Z) (hg : LaidE w) :
    Calls Tryd.prog 6 #[.slice A n c, .agg (vs ++ [Value.string t0, Value.string t1]).toArray] w fun e w' => e = .returned (.bool true) ∧ Below w.heap.size w w' := by
  obtain ⟨CS, hCS⟩ : ∃ CS, CS = (vs ++ [Value.string t0, Value.string t1]).toArray := ⟨_, rfl⟩
  obtain ⟨P, hP⟩ : ∃ P, P = w.heap.size := ⟨_, rfl⟩
  obtain ⟨w1, hw1⟩ : ∃ w1, w1 = w.alloc (.cells CS 57) := ⟨_, rfl⟩
  have hb1 : Below w.heap.size w w1 := by rw [hw1]; exact (Below.refl _ _).alloc (Nat.le_refl _) _
  have hBP : Blk w1 P 57 CS := by rw [hw1, hP]; exact Blk.new _ _ _
  obtain ⟨v0, v1, v2, v3, v4, v5, v6, v7, hvs⟩ := list8 hf.len
  have hform : ∀ z, z < 8 → ∃ n a c, vs.getD z nilS = .slice a n c := fun z hz => by
    obtain ⟨a, n, c, h, _⟩ := hf.at_ z hz
    exact ⟨n, a, c, h⟩
  rw [hvs] at hform
  obtain ⟨n0, a0, c0, rfl⟩ : ∃ n a c, v0 = .slice a n c := hform 0 (by omega)
  obtain ⟨n1, a1, c1, rfl⟩ : ∃ n a c, v1 = .slice a n c := hform 1 (by omega)
  obtain ⟨n2, a2, c2, rfl⟩ : ∃ n a c, v2 = .slice a n c := hform 2 (by omega)
  obtain ⟨n3, a3, c3, rfl⟩ : ∃ n a c, v3 = .slice a n c := hform 3 (by omega)
  obtain ⟨n4, a4, c4, rfl⟩ : ∃ n a c, v4 = .slice a n c := hform 4 (by omega)
  obtain ⟨n5, a5, c5, rfl⟩ : ∃ n a c, v5 = .slice a n c := hform 5 (by omega)
  obtain ⟨n6, a6, c6, rfl⟩ : ∃ n a c, v6 = .slice a n c := hform 6 (by omega)
  obtain ⟨n7, a7, c7, rfl⟩ : ∃ n a c, v7 = .slice a n c := hform 7 (by omega)
  have hcs : CS = #[.slice a0 n0 c0, .slice a1 n1 c1, .slice a2 n2 c2, .slice a3 n3 c3, .slice a4 n4 c4, .slice a5 n5 c5, .slice a6 n6 c6, .slice a7 n7 c7, .string t0, .string t1] := by rw [hCS, hvs]; rfl
  have hcells : ∀ {W : World}, Blk W P 57 CS → W.cell? ⟨P, 0, none⟩ = some (.slice a0 n0 c0) ∧ W.cell? ⟨P, 1, none⟩ = some (.slice a1 n1 c1) ∧ W.cell? ⟨P, 2, none⟩ = some (.slice a2 n2 c2) ∧ W.cell? ⟨P, 3, none⟩ = some (.slice a3 n3 c3) ∧ W.cell? ⟨P, 4, none⟩ = some (.slice a4 n4 c4) ∧ W.cell? ⟨P, 5, none⟩ = some (.slice a5 n5 c5) ∧ W.cell? ⟨P, 6, none⟩ = some (.slice a6 n6 c6) ∧ W.cell? ⟨P, 7, none⟩ = some (.slice a7 n7 c7) ∧ W.cell? ⟨P, 8, none⟩ = some (.string t0) ∧ W.cell? ⟨P, 9, none⟩ = some (.string t1) := fun hb => by
    rw [hcs] at hb
    exact ⟨hb.cell 0, hb.cell 1, hb.cell 2, hb.cell 3, hb.cell 4, hb.cell 5, hb.cell 6, hb.cell 7, hb.cell 8, hb.cell 9⟩
  have hwd := wide_any t0 t1 (hf.below hb1)
  rw [← hCS, hcs] at hwd
  have HOP1 := hide (hl.below hb1)
  have HF1 := hide (hf.below hb1)
  have HE1 := hide (hg.below hb1)
  have HB1 := hide hb1
  have HBP := hide hBP
  have HWD := hide hwd
  have HCS := hide hCS
  have HCC := hide hcs
  have HW1 := hide hw1
  have HP := hide hP
  have HN := hide hl.hn
  rw [← hCS]
  clear hl hf hg hvs hform hwd hCS hcs hP hw1 hb1 hBP
  go_enter Tryd.func6, Tryd.ntmps6
  go_upto_region 1 with fail
  rw [← HW1.out, ← HP.out]
  by_cases h50 : 50 < n
  · have d50 : decide ((50 : Int) < (n : Int)) = true := by simp; omega
    have d50' : decide (50 < n) = true := by simpa using h50
    go_wp2_with fail
    go_ret
    exact ⟨rfl, HB1.out⟩
  · have d50 : decide ((50 : Int) < (n : Int)) = false := by simp; omega
    have d50' : decide (50 < n) = false := by simpa using h50
    obtain ⟨q0, q1, q2, q3, q4, q5, q6, q7, q8, q9⟩ := hcells HBP.out
    go_wp2_with fail
    refine HWD.out.mono ?_
    rintro e w2 ⟨cw, rfl, hok, hb2⟩
    have HB2 := hide hb2
    have HOK := hide hok
    clear hb2 hok q0 q1 q2 q3 q4 q5 q6 q7 q8 q9
    cases cw with
    | true =>
      go_wp2_with fail
      go_ret
      exact ⟨rfl, below_step HB1.out HB2.out⟩
    | false =>
      have hok := HOK.out rfl
      have HFO := hide hok
      clear hok HOK
      go_upto_region 4 with (first
        | (go_at_call 30; refine (rnew_any _).mono ?_; rintro e w3 ⟨r, nr, rfl, hr3, hb3⟩; have HR3 := hide hr3; have HB3 := hide hb3; clear hr3 hb3)
        | (go_at_call 13; refine (znew_any _).mono ?_; rintro e w4 ⟨mb, rfl, hd4, hb4⟩; have HD4 := hide hd4; have HB4 := hide hb4; clear hd4 hb4))
      obtain ⟨b, hb⟩ : ∃ b, b = w3.heap.size := ⟨_, rfl⟩
      rw [← hb]
      have K4 : Hid (KIn w2 w4 b r newD newD mb nr) := hide ⟨by rw [hb]; exact HD4.out.base HB3.out.size, HR3.out.below HB4.out, fun k hk hn => by have := (HD4.out.lt_ k hk).1; have := (HR3.out.lt_ k hn).2; omega, below_step HB3.out HB4.out⟩
      have hP2 : P < w2.heap.size := Nat.lt_of_lt_of_le HBP.out.lt HB2.out.size
      have X4 : Hid (KX w4 mb nr P 57 CS) := hide ⟨(HBP.out.below HB2.out HBP.out.lt).below K4.out.bel hP2, fun hc => by have := (K4.out.z.lt_ P hc).1; omega, fun hc => by have := (K4.out.r.lt_ P hc).1; omega⟩
      have HOP2 := hide (HOP1.out.below HB2.out)
      have HE2 := hide (HE1.out.below HB2.out)
      have HB02 := hide (below_step HB1.out HB2.out)
      have HF2 := hide (HF1.out.below HB2.out)
      clear hb HD4 HB4 HR3 HB3 HOP1 HE1 HB1 HB2 HF1 HWD
      go_wp2_with fail
      go_loopw [7] (fun i wr => ∃ (I : Nat) (D : Dv) (m n' : Nat → Prop), i = .int .i64 (I : Int) ∧ I ≤ n ∧ KIn w2 wr b r D D m n' ∧ KX wr m n' P 57 CS ∧ KGood D I) (fun i _ => n - (intOf i).toNat)
      case atStart => exact ⟨0, newD, mb, nr, rfl, by omega, K4.out, X4.out, KGood.new 0⟩
      case round =>
        clear K4 X4
        obtain ⟨I, D, m, n', rfl, hI, hk, hx, hgood⟩ := hrel
        by_cases hlt : I < n
        · have d0 : decide (I < n) = true := by simpa using hlt
          obtain ⟨a, x, rfl, hlx, halt, hcell, hki, hsl⟩ := HOP2.out.at_ I hlt
          have hwx : x.at_ < 9223372036854775808 := HOP2.out.wf x (List.mem_of_getElem? hlx)
          have hcell' : ∀ j v, x.cells[j]? = some v → wr.cell? ((a.add (I * 5)).add j) = some v := fun j v hj => by
            rw [hk.bel.cell (p := (a.add (I * 5)).add j) (by rw [Go.ChangeShapes.block_add, Go.ChangeShapes.block_add]; exact halt)]
            exact hcell j v hj
          have q0 : wr.cell? (a.add (I * 5)) = some (.int .i64 x.what) := hcell' 0 _ rfl
          have q1 : wr.cell? ⟨(a.add (I * 5)).block, (a.add (I * 5)).off + 1, none⟩ = some (.int .i64 x.at_) := hcell' 1 _ rfl
          have q2 : wr.cell? ⟨(a.add (I * 5)).block, (a.add (I * 5)).off + 2, none⟩ = some (.string x.s) := hcell' 2 _ rfl
          have q3 : wr.cell? ⟨(a.add (I * 5)).block, (a.add (I * 5)).off + 3, none⟩ = some (.slice x.kA x.ks.length x.kc) := hcell' 3 _ rfl
          have q4 : wr.cell? ⟨(a.add (I * 5)).block, (a.add (I * 5)).off + 4, none⟩ = some (.slice x.sA x.sl.length x.sc) := hcell' 4 _ rfl
          have HK := hide hk
          have HX := hide hx
          have HG := hide hgood
          have HKI := hide hki
          have HSL := hide hsl
          clear hk hx hgood hki hsl hlx hcell hcell' halt
          go_upto_region 8 with fail
          obtain ⟨X, hX⟩ : ∃ X, X = wr.heap.size := ⟨_, rfl⟩
          obtain ⟨w8, hw8⟩ : ∃ w8, w8 = wr.alloc (.cells #[.int .i64 x.what, .int .i64 x.at_, .string x.s, .slice x.kA x.ks.length x.kc, .slice x.sA x.sl.length x.sc] 63) := ⟨_, rfl⟩
          have hb8 : Below wr.heap.size wr w8 := by rw [hw8]; exact (Below.refl _ _).alloc (Nat.le_refl _) _
          have K8 := hide (HK.out.below hb8)
          have X8 := hide (HX.out.below hb8)
          have Y8 : Hid (KX w8 m n' X 63 x.cells) := hide ⟨by rw [hw8, hX]; exact Blk.new _ _ _, fun hc => by have := (HK.out.z.lt_ X hc).2; omega, fun hc => by have := (HK.out.r.lt_ X hc).2; omega⟩
          have hxc : ∀ {W : World}, Blk W X 63 x.cells → W.cell? ⟨X, 0, none⟩ = some (.int .i64 x.what) ∧ W.cell? ⟨X, 1, none⟩ = some (.int .i64 x.at_) ∧ W.cell? ⟨X, 2, none⟩ = some (.string x.s) ∧ W.cell? ⟨X, 3, none⟩ = some (.slice x.kA x.ks.length x.kc) ∧ W.cell? ⟨X, 4, none⟩ = some (.slice x.sA x.sl.length x.sc) := fun hb => ⟨hb.cell 0, hb.cell 1, hb.cell 2, hb.cell 3, hb.cell 4⟩
          rw [← hw8, ← hX]
          clear hw8 hX hb8 HK HX q0 q1 q2 q3 q4
          obtain ⟨q0, q1, q2, q3, q4⟩ := hxc Y8.out.blk
          by_cases hs6 : 600 < x.s.size
          · have c1 : decide ((600 : Int) < (x.s.size : Int)) = true := by simp; omega
            have c1' : decide (600 < x.s.size) = true := by simpa using hs6
            go_wp2_with fail
            go_ret
            exact ⟨rfl, below_step HB02.out K8.out.bel⟩
          · have c1 : decide ((600 : Int) < (x.s.size : Int)) = false := by simp; omega
            have c1' : decide (600 < x.s.size) = false := by simpa using hs6
            by_cases hk2 : 20 < x.ks.length
            · have c2 : decide ((20 : Int) < (x.ks.length : Int)) = true := by simp; omega
              have c2' : decide (20 < x.ks.length) = true := by simpa using hk2
              go_wp2_with fail
              go_ret
              exact ⟨rfl, below_step HB02.out K8.out.bel⟩
            · have c2 : decide ((20 : Int) < (x.ks.length : Int)) = false := by simp; omega
              have c2' : decide (20 < x.ks.length) = false := by simpa using hk2
              by_cases hl4 : 40 < x.sl.length
              · have c3 : decide ((40 : Int) < (x.sl.length : Int)) = true := by simp; omega
                have c3' : decide (40 < x.sl.length) = true := by simpa using hl4
                go_wp2_with fail
                go_ret
                exact ⟨rfl, below_step HB02.out K8.out.bel⟩
              · have c3 : decide ((40 : Int) < (x.sl.length : Int)) = false := by simp; omega
                have c3' : decide (40 < x.sl.length) = false := by simpa using hl4
                go_upto_block 2 with fail
                go_cut [] from 58 to 154 (fun wx => KPost w2 b r P X CS x.cells (I + 1) wx)
                case first =>
                  by_cases h0 : x.what = 0
                  · have d0 : (x.what == 0) = true := by simpa using h0
                    clear h0
                    go_wp2_with (first | (go_at_call 31; refine (rappend_any K8.out.r x.at_ x.s).mono ?_; rintro e w12 ⟨rfl, m12, hd12, hm12⟩; have K12 := hide (K8.out.stepR hd12 hm12); have X12 := hide (X8.out.stepR hm12); have Y12 := hide (Y8.out.stepR hm12); (try clear q0 q1 q2 q3 q4); obtain ⟨q0, q1, q2, q3, q4⟩ := hxc Y12.out.blk; clear hd12 hm12 X8 Y8) | (go_at_call 15; refine (append_any K12.out.z x.at_ x.s).mono ?_; rintro e w13 ⟨rfl, m13, hd13, hm13⟩; have K13 := hide (K12.out.stepZ hd13 hm13); have X13 := hide (X12.out.stepZ hm13); have Y13 := hide (Y12.out.stepZ hm13); (try clear q0 q1 q2 q3 q4); obtain ⟨q0, q1, q2, q3, q4⟩ := hxc Y13.out.blk; clear hd13 hm13 X12 Y12) | (go_at_call 27; refine (bareZ (appendR D x.at_ x.s).2.2 _ (HE2.out.below K13.out.bel)).mono ?_; rintro e w14 ⟨rfl, hb14⟩; have K14 := hide (K13.out.below hb14); have X14 := hide (X13.out.below hb14); have Y14 := hide (Y13.out.below hb14); (try clear q0 q1 q2 q3 q4); obtain ⟨q0, q1, q2, q3, q4⟩ := hxc Y14.out.blk; clear hb14 X13 Y13))
                    all_goals
                      skip
                      go_meet
                      case rel => exact ⟨_, _, _, K14.out, X14.out, Y14.out, ((HG.out.append K8.out.lens.1 x.at_ x.s).more (Nat.le_succ _))⟩
                  · have d0 : (x.what == 0) = false := by simpa using h0
                    clear h0
                    by_cases h1 : x.what = 1
                    · have d1 : (x.what == 1) = true := by simpa using h1
                      clear h1
                      go_upto_region 17 with fail
                      have hdr : Below w8.heap.size w8 (w8.drewN 1) := ⟨rfl, rfl, rfl, Nat.le_refl _, fun _ _ => rfl⟩
                      have K9 := hide (K8.out.below hdr)
                      have X9 := hide (X8.out.below hdr)
                      have Y9 := hide (Y8.out.below hdr)
                      clear hdr
                      go_region_held3 (fun W => W.cell? ⟨X, 1, none⟩ = some (.int .i64 x.at_)) (go_keep) (first | (go_simp; go_at_call 32; refine (reset_any K9.out.z x.at_).mono ?_; rintro e w12 ⟨rfl, m12, hd12, hm12⟩; have K12 := hide (K9.out.stepZ hd12 hm12); have X12 := hide (X9.out.stepZ hm12); have Y12 := hide (Y9.out.stepZ hm12); (try clear q0 q1 q2 q3 q4); obtain ⟨q0, q1, q2, q3, q4⟩ := hxc Y12.out.blk; clear hd12 hm12 X9 Y9) | (go_simp; go_at_call 33; refine (rreset_any K12.out.r x.at_).mono ?_; rintro e w13 ⟨rfl, m13, hd13, hm13⟩; have K13 := hide (K12.out.stepR hd13 hm13); have X13 := hide (X12.out.stepR hm13); have Y13 := hide (Y12.out.stepR hm13); (try clear q0 q1 q2 q3 q4); obtain ⟨q0, q1, q2, q3, q4⟩ := hxc Y13.out.blk; clear hd13 hm13 X12 Y12) | (go_simp; go_at_call 27; refine (bareZ (resetR D x.at_).2 _ (HE2.out.below K13.out.bel)).mono ?_; rintro e w14 ⟨rfl, hb14⟩; have K14 := hide (K13.out.below hb14); have X14 := hide (X13.out.below hb14); have Y14 := hide (Y13.out.below hb14); (try clear q0 q1 q2 q3 q4); obtain ⟨q0, q1, q2, q3, q4⟩ := hxc Y14.out.blk; clear hb14 X13 Y13))
                      all_goals
                        go_wp2_with fail
                        go_meet
                        case rel => exact ⟨_, _, _, K14.out, X14.out, Y14.out, ((HG.out.reset K8.out.lens.1 K8.out.lens.2.1 x.at_).more (Nat.le_succ _))⟩
                    · have d1 : (x.what == 1) = false := by simpa using h1
                      clear h1
                      by_cases h2 : x.what = 2
                      · have d2 : (x.what == 2) = true := by simpa using h2
                        clear h2
                        go_upto_region 20 with fail
                        have hdr : Below w8.heap.size w8 (w8.drewN 1) := ⟨rfl, rfl, rfl, Nat.le_refl _, fun _ _ => rfl⟩
                        have K9 := hide (K8.out.below hdr)
                        have X9 := hide (X8.out.below hdr)
                        have Y9 := hide (Y8.out.below hdr)
                        clear hdr
                        go_region_held3 (fun W => W.cell? ⟨X, 1, none⟩ = some (.int .i64 x.at_) ∧ W.cell? ⟨X, 2, none⟩ = some (.string x.s)) (go_keep) (first | (go_simp; go_at_call 34; refine (put_any K9.out.z x.at_ x.s (by have := HG.out.q; omega)).mono ?_; rintro e w12 ⟨rfl, m12, hd12, hm12⟩; have K12 := hide (K9.out.stepZ hd12 hm12); have X12 := hide (X9.out.stepZ hm12); have Y12 := hide (Y9.out.stepZ hm12); (try clear q0 q1 q2 q3 q4); obtain ⟨q0, q1, q2, q3, q4⟩ := hxc Y12.out.blk; clear hd12 hm12 X9 Y9) | (go_simp; go_at_call 35; refine (rput_any K12.out.r x.at_ x.s (by have := HG.out.q; omega)).mono ?_; rintro e w13 ⟨rfl, m13, hd13, hm13⟩; have K13 := hide (K12.out.stepR hd13 hm13); have X13 := hide (X12.out.stepR hm13); have Y13 := hide (Y12.out.stepR hm13); (try clear q0 q1 q2 q3 q4); obtain ⟨q0, q1, q2, q3, q4⟩ := hxc Y13.out.blk; clear hd13 hm13 X12 Y12) | (go_simp; go_at_call 27; refine (bareZ (putR D x.at_ x.s).2 _ (HE2.out.below K13.out.bel)).mono ?_; rintro e w14 ⟨rfl, hb14⟩; have K14 := hide (K13.out.below hb14); have X14 := hide (X13.out.below hb14); have Y14 := hide (Y13.out.below hb14); (try clear q0 q1 q2 q3 q4); obtain ⟨q0, q1, q2, q3, q4⟩ := hxc Y14.out.blk; clear hb14 X13 Y13))
                        all_goals
                          go_wp2_with fail
                          go_meet
                          case rel => exact ⟨_, _, _, K14.out, X14.out, Y14.out, (HG.out.put x.at_ x.s)⟩
                      · have d2 : (x.what == 2) = false := by simpa using h2
                        clear h2
                        by_cases h3 : x.what = 3
                        · have d3 : (x.what == 3) = true := by simpa using h3
                          clear h3
                          go_wp2_with (first | (go_at_call 36; refine (sync_any K8.out.z (by have := HG.out.q; omega)).mono ?_; rintro e w12 ⟨rfl, m12, hd12, hm12⟩; have K12 := hide (K8.out.stepZ hd12 hm12); have X12 := hide (X8.out.stepZ hm12); have Y12 := hide (Y8.out.stepZ hm12); (try clear q0 q1 q2 q3 q4); obtain ⟨q0, q1, q2, q3, q4⟩ := hxc Y12.out.blk; clear hd12 hm12 X8 Y8) | (go_at_call 37; refine (rsync_any K12.out.r (by have := HG.out.q; omega) HG.out.sure).mono ?_; rintro e w13 ⟨rfl, m13, hd13, hm13⟩; have K13 := hide (K12.out.stepR hd13 hm13); have X13 := hide (X12.out.stepR hm13); have Y13 := hide (Y12.out.stepR hm13); (try clear q0 q1 q2 q3 q4); obtain ⟨q0, q1, q2, q3, q4⟩ := hxc Y13.out.blk; clear hd13 hm13 X12 Y12) | (go_at_call 27; refine (bareZ (syncR D).2 _ (HE2.out.below K13.out.bel)).mono ?_; rintro e w14 ⟨rfl, hb14⟩; have K14 := hide (K13.out.below hb14); have X14 := hide (X13.out.below hb14); have Y14 := hide (Y13.out.below hb14); (try clear q0 q1 q2 q3 q4); obtain ⟨q0, q1, q2, q3, q4⟩ := hxc Y14.out.blk; clear hb14 X13 Y13))
                          all_goals
                            skip
                            go_meet
                            case rel => exact ⟨_, _, _, K14.out, X14.out, Y14.out, (HG.out.sync.more (Nat.le_succ _))⟩
                        · have d3 : (x.what == 3) = false := by simpa using h3
                          clear h3
                          by_cases h4 : x.what = 4
                          · have d4 : (x.what == 4) = true := by simpa using h4
                            clear h4
                            go_wp2_with (first | (go_at_call 38; refine (fuse_any K8.out.z x.at_ hwx).mono ?_; rintro e w12 ⟨rfl, hd12, hm12⟩; have K12 := hide (K8.out.stepZ hd12 hm12); have X12 := hide (X8.out.stepZ hm12); have Y12 := hide (Y8.out.stepZ hm12); (try clear q0 q1 q2 q3 q4); obtain ⟨q0, q1, q2, q3, q4⟩ := hxc Y12.out.blk; clear hd12 hm12 X8 Y8) | (go_at_call 39; refine (rfuse_any K12.out.r x.at_ hwx).mono ?_; rintro e w13 ⟨rfl, hd13, hm13⟩; have K13 := hide (K12.out.stepR hd13 hm13); have X13 := hide (X12.out.stepR hm13); have Y13 := hide (Y12.out.stepR hm13); (try clear q0 q1 q2 q3 q4); obtain ⟨q0, q1, q2, q3, q4⟩ := hxc Y13.out.blk; clear hd13 hm13 X12 Y12))
                            all_goals
                              skip
                              go_meet
                              case rel => exact ⟨_, _, _, K13.out, X13.out, Y13.out, ((HG.out.fuse x.at_).more (Nat.le_succ _))⟩
                          · have d4 : (x.what == 4) = false := by simpa using h4
                            clear h4
                            by_cases h5 : x.what = 5
                            · have d5 : (x.what == 5) = true := by simpa using h5
                              clear h5
                              go_wp2_with (first | (go_at_call 40; refine (crash_any K8.out.z (by have := HG.out.q; omega) HG.out.sure x.kA x.sA x.kc x.sc x.ks x.sl (HKI.out.grow' K8.out.bel (fun j hj => (K8.out.z.lt_ j hj).1)) (HSL.out.grow' K8.out.bel (fun j hj => (K8.out.z.lt_ j hj).1))).mono ?_; rintro e w12 ⟨rfl, m12, hd12, hm12⟩; have K12 := hide (K8.out.stepZ hd12 hm12); have X12 := hide (X8.out.stepZ hm12); have Y12 := hide (Y8.out.stepZ hm12); (try clear q0 q1 q2 q3 q4); obtain ⟨q0, q1, q2, q3, q4⟩ := hxc Y12.out.blk; clear hd12 hm12 X8 Y8) | (go_at_call 41; refine (rcrash_any K12.out.r (by have := HG.out.q; omega) HG.out.sure x.kA x.sA x.kc x.sc x.ks x.sl (HKI.out.grow' K12.out.bel (fun j hj => (K12.out.r.lt_ j hj).1)) (HSL.out.grow' K12.out.bel (fun j hj => (K12.out.r.lt_ j hj).1))).mono ?_; rintro e w13 ⟨rfl, m13, hd13, hm13⟩; have K13 := hide (K12.out.stepR hd13 hm13); have X13 := hide (X12.out.stepR hm13); have Y13 := hide (Y12.out.stepR hm13); (try clear q0 q1 q2 q3 q4); obtain ⟨q0, q1, q2, q3, q4⟩ := hxc Y13.out.blk; clear hd13 hm13 X12 Y12))
                              all_goals
                                skip
                                go_meet
                                case rel => exact ⟨_, _, _, K13.out, X13.out, Y13.out, ((HG.out.crash x.ks x.sl).more (Nat.le_succ _))⟩
                            · have d5 : (x.what == 5) = false := by simpa using h5
                              clear h5
                              by_cases h6 : x.what = 6
                              · have d6 : (x.what == 6) = true := by simpa using h6
                                clear h6
                                obtain ⟨p0, p1, p2, p3, p4, p5, p6, p7, p8, p9⟩ := hcells X8.out.blk
                                have hl1 := lay_any K8.out.z vs Z t0 t1 (HF2.out.img HFO.out K8.out.bel (fun j hj => (K8.out.z.lt_ j hj).1)) (Nat.le_trans HFO.out.t0 (by omega)) (Nat.le_trans HFO.out.t1 (by omega))
                                rw [← HCS.out, HCC.out] at hl1
                                have HL1 := hide hl1
                                clear hl1
                                go_upto_region 33 with (first | (go_at_call 42; refine (HL1.out).mono ?_; rintro e w12 ⟨rfl, m12, hd12, hm12⟩; have K12 := hide (K8.out.stepZ hd12 hm12); have X12 := hide (X8.out.stepZ hm12); have Y12 := hide (Y8.out.stepZ hm12); (try clear q0 q1 q2 q3 q4); obtain ⟨q0, q1, q2, q3, q4⟩ := hxc Y12.out.blk; clear hd12 hm12 X8 Y8 p0 p1 p2 p3 p4 p5 p6 p7 p8 p9))
                                obtain ⟨p0, p1, p2, p3, p4, p5, p6, p7, p8, p9⟩ := hcells X12.out.blk
                                have hl2 := rlay_any K12.out.r vs Z t0 t1 (HF2.out.img HFO.out K12.out.bel (fun j hj => (K12.out.r.lt_ j hj).1)) (fun z hz => Nat.le_trans (HFO.out.few z hz) (by omega)) (Nat.le_trans HFO.out.t0 (by omega)) (Nat.le_trans HFO.out.t1 (by omega))
                                rw [← HCS.out, HCC.out] at hl2
                                have HL2 := hide hl2
                                clear hl2
                                go_wp2_with (first | (go_at_call 43; refine (HL2.out).mono ?_; rintro e w13 ⟨rfl, m13, hd13, hm13⟩; have K13 := hide (K12.out.stepR hd13 hm13); have X13 := hide (X12.out.stepR hm13); have Y13 := hide (Y12.out.stepR hm13); (try clear q0 q1 q2 q3 q4); obtain ⟨q0, q1, q2, q3, q4⟩ := hxc Y13.out.blk; clear hd13 hm13 X12 Y12 p0 p1 p2 p3 p4 p5 p6 p7 p8 p9))
                                all_goals
                                  skip
                                  go_meet
                                  case rel => exact ⟨_, _, _, K13.out, X13.out, Y13.out, (KGood.lay Z [t0, t1])⟩
                              · have d6 : (x.what == 6) = false := by simpa using h6
                                clear h6
                                go_wp2_with fail
                                go_meet
                                case rel => exact ⟨_, _, _, K8.out, X8.out, Y8.out, HG.out.more (Nat.le_succ _)⟩
                case rest =>
                  obtain ⟨D2, m2, n2', k2, x2, y2, g2⟩ := hcut
                  have K2 := hide k2
                  have X2 := hide x2
                  have Y2 := hide y2
                  have G2 := hide g2
                  clear k2 x2 y2 g2 K8 X8 Y8 HG q0 q1 q2 q3 q4
                  obtain ⟨s0, s1, hT⟩ := list2 K2.out.lens.2.2.1
                  have HT := hide hT
                  clear hT
                  go_upto_region 36 with (first
                    | (go_at_call 45; refine (imgZ K2.out.z G2.out.sure HT.out).mono ?_; rintro e w34 ⟨CZ, vz, rfl, hcz, hz34, hb34⟩; have K3 := hide (K2.out.below hb34); have X3 := hide (X2.out.below hb34); have Y3 := hide (Y2.out.below hb34); have HCZ := hide hcz; have HZ34 := hide hz34; clear hcz hz34 hb34 X2 Y2)
                    | (go_at_call 46; refine (imgR K3.out.r G2.out.sure HT.out).mono ?_; rintro e w35 ⟨CR, vr, rfl, hcr, hz35, hb35⟩; have K4 := hide (K3.out.below hb35); have X4 := hide (X3.out.below hb35); have Y4 := hide (Y3.out.below hb35); have HSI := hide (sameK HCZ.out hcr (HZ34.out.below hb35) hz35); clear hcr hz35 hb35 X3 Y3)
                    | (go_at_call 44; refine HSI.out.mono ?_; rintro e w36 ⟨rfl, hb36⟩; have K5 := hide (K4.out.below hb36); have X5 := hide (X4.out.below hb36); have Y5 := hide (Y4.out.below hb36); clear hb36 X4 Y4))
                  obtain ⟨q0, q1, q2, q3, q4⟩ := hxc Y5.out.blk
                  clear q0 q2 q3 q4 HSI HCZ HZ34 K2 K3 K4
                  go_upto_region 37 with fail
                  obtain ⟨G, hG⟩ : ∃ G, G = w36.heap.size := ⟨_, rfl⟩
                  obtain ⟨w37, hw37⟩ : ∃ w37, w37 = w36.alloc (.cells #[.int .i64 x.at_, .int .i64 0, .int .i64 7, .int .i64 8, .int .i64 (-1)] 3) := ⟨_, rfl⟩
                  have hb37 : Below w36.heap.size w36 w37 := by rw [hw37]; exact (Below.refl _ _).alloc (Nat.le_refl _) _
                  have K6 := hide (K5.out.below hb37)
                  have X6 := hide (X5.out.below hb37)
                  have hbg : Blk w37 G 3 #[.int .i64 x.at_, .int .i64 0, .int .i64 7, .int .i64 8, .int .i64 (-1)] := by rw [hw37, hG]; exact Blk.new _ _ _
                  have HBG := hide hbg
                  rw [← hw37, ← hG]
                  clear hb37 hw37 hG hbg K5 X5 Y5 q1
                  go_wp2_with fail
                  go_loopw [165] (fun kv wr => ∃ K : Nat, kv = .int .i64 (K : Int) ∧ K ≤ 5 ∧ Below w37.heap.size w37 wr) (fun kv _ => 5 - (intOf kv).toNat)
                  case atStart => exact ⟨0, rfl, by omega, Below.refl _ _⟩
                  case round =>
                    obtain ⟨wb, rfl⟩ : ∃ wb : World, wb = wr := ⟨_, rfl⟩
                    obtain ⟨K, rfl, hK, hbk⟩ := hrel
                    have HBK := hide hbk
                    have K7 := hide (K6.out.below hbk)
                    by_cases hlk : K < 5
                    · have dk : decide ((K : Int) < 5) = true := by simp; omega
                      have ik1 : (K : Int) < 5 := by omega
                      have ik0 : (0 : Int) ≤ (K : Int) := by omega
                      obtain ⟨v, hv⟩ : ∃ v, v = [x.at_, 0, 7, 8, -1].getD K 0 := ⟨_, rfl⟩
                      have cg : wb.cell? ⟨G, K, none⟩ = some (.int .i64 v) := by
                        rw [(HBG.out.below hbk HBG.out.lt).cell, hv]
                        obtain rfl | rfl | rfl | rfl | rfl : K = 0 ∨ K = 1 ∨ K = 2 ∨ K = 3 ∨ K = 4 := by omega
                        · rfl
                        · rfl
                        · rfl
                        · rfl
                        · rfl
                      clear hv hbk
                      have ha := atR_small D2 v (fun z => K7.out.lens.2.2.2 z)
                      have h1 := have_any K7.out.r v
                      have h2 := (at_any K7.out.z v).mono (fun e w' ⟨he, hw⟩ => (⟨he, hw.symm⟩ : e = _ ∧ wb = w'))
                      obtain ⟨ca, hca⟩ : ∃ ca, ca = (atR D2 v).1 := ⟨_, rfl⟩
                      obtain ⟨ce, hce⟩ : ∃ ce, ce = (atR D2 v).2 := ⟨_, rfl⟩
                      rw [← hca] at ha
                      rw [← hca, ← hce] at h1 h2
                      have hwc : wrap64 (ca - 1) = ca - 1 := by simp only [wrap64]; omega
                      have A1 := hide h1
                      have A2 := hide h2
                      clear h1 h2 hca hce
                      go_upto_region 43 with (first
                        | (go_at_call 47; refine A1.out.mono ?_; rintro e w' ⟨rfl, rfl⟩)
                        | (go_at_call 18; refine A2.out.mono ?_; rintro e w' ⟨rfl, rfl⟩)
                        | (go_at_call 27; refine (bareZ ce _ (HE2.out.below K7.out.bel)).mono ?_; rintro e w41 ⟨rfl, hb41⟩; have K8 := hide (K7.out.below hb41); have HB41 := hide (below_step HBK.out hb41); clear hb41))
                      have h3 := rread_any K8.out.r v (ca - 1)
                      have h4 := (read_any K8.out.z v (ca - 1)).mono (fun e w' ⟨he, hw⟩ => (⟨he, hw.symm⟩ : e = _ ∧ w41 = w'))
                      have h5 := rget_any K8.out.r v (by have := G2.out.q; omega)
                      obtain ⟨rs, hrs⟩ : ∃ rs, rs = (readR D2 v (ca - 1)).1 := ⟨_, rfl⟩
                      obtain ⟨re, hre⟩ : ∃ re, re = (readR D2 v (ca - 1)).2 := ⟨_, rfl⟩
                      obtain ⟨gs, hgs⟩ : ∃ gs, gs = (getR D2 v).1 := ⟨_, rfl⟩
                      obtain ⟨ge, hge⟩ : ∃ ge, ge = (getR D2 v).2 := ⟨_, rfl⟩
                      rw [← hrs, ← hre] at h3 h4
                      have A3 := hide h3
                      have A4 := hide h4
                      have HGS := hide hgs
                      have HGE := hide hge
                      clear h3 h4 h5 hrs hre hgs hge cg A1 A2
                      go_upto_region 47 with (first
                        | (go_at_call 48; refine A3.out.mono ?_; rintro e w' ⟨rfl, rfl⟩)
                        | (go_at_call 19; refine A4.out.mono ?_; rintro e w' ⟨rfl, rfl⟩)
                        | (go_at_call 27; refine (bareZ re _ (HE2.out.below K8.out.bel)).mono ?_; rintro e w45 ⟨rfl, hb45⟩; have K9 := hide (K8.out.below hb45); have HB45 := hide (below_step HB41.out hb45); clear hb45))
                      have h5 := rget_any K9.out.r v (by have := G2.out.q; omega)
                      have h6 := get_any K9.out.z v (by have := G2.out.q; omega)
                      rw [← HGS.out, ← HGE.out] at h5 h6
                      have A5 := hide h5
                      have A6 := hide h6
                      clear h5 h6 A3 A4
                      go_wp2_with (first
                        | (go_at_call 49; refine A5.out.mono ?_; rintro e w' ⟨rfl, rfl⟩)
                        | (go_at_call 50; refine A6.out.mono ?_; rintro e w48 ⟨rfl, hb48⟩; have K10 := hide (K9.out.below hb48); have HB48 := hide (below_step HB45.out hb48); clear hb48)
                        | (go_at_call 27; refine (bareZ ge _ (HE2.out.below K10.out.bel)).mono ?_; rintro e w49 ⟨rfl, hb49⟩; have HB49 := hide (below_step HB48.out hb49); clear hb49))
                      refine ⟨⟨K + 1, by go_num, by omega, HB49.out⟩, by simp [intOf]; omega⟩
                    · obtain rfl : K = 5 := by omega
                      have dk : decide ((5 : Int) < 5) = false := by simp
                      have X7 := hide (X6.out.below hbk)
                      clear hbk
                      rw [show ((5 : Nat) : Int) = 5 from rfl]
                      go_wp2_with fail
                      refine ⟨⟨I + 1, D2, m2, n2', by go_num, by omega, K7.out, X7.out, G2.out⟩, by simp [intOf]; omega⟩
        · obtain rfl : I = n := by omega
          have d0 : decide (I < I) = false := by simp
          have HK := hide hk
          clear hk hx hgood
          go_wp2_with fail
          go_ret
          exact ⟨rfl, below_step HB02.out HK.out.bel⟩
end Go.Proofs.YtmligbaalbbgiabDoor

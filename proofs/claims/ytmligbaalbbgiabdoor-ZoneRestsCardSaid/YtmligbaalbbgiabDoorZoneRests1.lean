/- The walk of salternkeep.ZoneRests where texts and numbers are few: it returns true. Condition: the package errors has laid its variable. -/
import Derived.Test.YtmligbaalbbgiabDoorZoneRests0
namespace Go.Proofs.YtmligbaalbbgiabDoor
open Go.RowKit

section
variable {w : World} {base b : Nat} {D : Dv} {m : Nat → Prop}
theorem syncX (h : Dev w base b D m) (hf : D.f = 0) (hq : D.q = []) :
    Calls Tryd.prog 36 #[.pointer (some ⟨b, 0, none⟩)] w fun e w' => e = .returned (.iface 35 (.int .i64 14)) ∧ ∃ m', Dev w' base b D m' ∧ Moves w w' m m' := by
  have h1 := sync_any h (by rw [hq]; simp)
  rw [sync_spent hf] at h1
  dsimp only at h1
  rw [errZ_ne 14 (by omega)] at h1
  exact h1
theorem resetX (h : Dev w base b D m) (hf : D.f = 0) (Z : Nat) (hZ : Z < 8) :
    Calls Tryd.prog 32 #[.pointer (some ⟨b, 0, none⟩), .int .i64 (Z : Int)] w fun e w' => e = .returned (.iface 35 (.int .i64 14)) ∧ ∃ m', Dev w' base b D m' ∧ Moves w w' m m' := by
  have h1 := reset_any h (Z : Int)
  rw [reset_spent Z hZ hf] at h1
  dsimp only at h1
  rw [errZ_ne 14 (by omega)] at h1
  exact h1
end
theorem IIn.cells {w : World} {m : Nat → Prop} {P : Nat} {v0 v1 v2 v3 v4 v5 v6 v7 : Value} {Z : List (List ByteArray)} {t0 t1 : ByteArray} (h : IIn w m P [v0, v1, v2, v3, v4, v5, v6, v7] Z t0 t1) :
    w.cell? ⟨P, 0, none⟩ = some v0 ∧ w.cell? ⟨P, 1, none⟩ = some v1 ∧ w.cell? ⟨P, 2, none⟩ = some v2 ∧ w.cell? ⟨P, 3, none⟩ = some v3 ∧ w.cell? ⟨P, 4, none⟩ = some v4 ∧ w.cell? ⟨P, 5, none⟩ = some v5 ∧ w.cell? ⟨P, 6, none⟩ = some v6 ∧ w.cell? ⟨P, 7, none⟩ = some v7 ∧ w.cell? ⟨P, 8, none⟩ = some (.string t0) ∧ w.cell? ⟨P, 9, none⟩ = some (.string t1) :=
  ⟨h.box.cell 0, h.box.cell 1, h.box.cell 2, h.box.cell 3, h.box.cell 4, h.box.cell 5, h.box.cell 6, h.box.cell 7, h.box.cell 8, h.box.cell 9⟩
theorem RIn.lens {w0 wr : World} {b : Nat} {D : Dv} {m : Nat → Prop} {Bd Ba : Nat} {a a' A : Option Addr} {n c n' c' N C : Nat} {l l' : List ByteArray} {ks : List Int} (h : RIn w0 wr b D m Bd Ba a a' A n c n' c' N C l l' ks) : D.L.length = 8 ∧ D.S.length = 8 := by
  obtain ⟨_, _, h0⟩ := h.z.dev
  exact ⟨h0.ok.hL, h0.ok.hS⟩
theorem NumsOut.first {w : World} {m : Nat → Prop} {y : Addr} {ks : List Int} (h : NumsOut w m (some y) ks) (h0 : 0 < ks.length) : w.cell? y = some (.int .i64 (ks.getD 0 0)) := by
  have e0 : y.add 0 = y := by
    obtain ⟨g, o, p⟩ := y
    unfold Addr.add
    split <;> simp_all
  obtain ⟨x, h1, _, _, h4⟩ := h.at_ h0
  obtain rfl := Option.some.inj h1
  have h5 := h4 0 h0
  rw [e0] at h5
  exact h5

set_option maxRecDepth 100000 in
set_option maxHeartbeats 8000000 in
theorem rests_good (w : World) (a a' A : Option Addr) (n c n' c' N C : Nat) (l l' : List ByteArray) (ks : List Int) (h1 : StrsAt w a n c l) (h2 : StrsAt w a' n' c' l') (hks : NumsOut w (fun _ => False) A ks) (hN : N = ks.length)
    (hf1 : fewB l = true) (hf2 : fewB l' = true) (hN0 : N ≠ 0) (hN20 : N ≤ 20) (hE : LaidE w) :
    Calls Tryd.prog 7 #[.slice a n c, .slice a' n' c', .slice A N C] w fun e w' => e = .returned (.bool true) ∧ Below w.heap.size w w' := by
  obtain ⟨w1, hw1⟩ : ∃ w1, w1 = w.alloc (.cells #[.slice A N C] 23) := ⟨_, rfl⟩
  obtain ⟨Ba, hBa⟩ : ∃ Ba, Ba = w.heap.size := ⟨_, rfl⟩
  have hb1 : Below w.heap.size w w1 := by rw [hw1]; exact (Below.refl _ _).alloc (Nat.le_refl _) _
  have ca1 : w1.cell? ⟨Ba, 0, none⟩ = some (.slice A N C) := by rw [hw1, hBa]; simp
  have f1 := few_any (h1.below hb1)
  have f2 := few_any (h2.below hb1)
  rw [hf1] at f1
  rw [hf2] at f2
  have n20 : n ≤ 20 := by have := h1.hn; simp [fewB] at hf1; omega
  have n20' : n' ≤ 20 := by have := h2.hn; simp [fewB] at hf2; omega
  have d3 : ((N : Int) == 0) = false := by simp; omega
  have d3' : (N == 0) = false := by simp; omega
  have d4 : decide ((20 : Int) < (N : Int)) = false := by simp; omega
  have d4' : decide (20 < N) = false := by simp; omega
  have hk0 : 0 < ks.length := by rw [← hN]; omega
  obtain ⟨y, rfl⟩ : ∃ y, A = some y := by obtain ⟨y, h, _⟩ := hks.at_ hk0; exact ⟨y, h⟩
  have HK0 := hide hk0
  have F1 := hide (f1.mono fun e w' ⟨he, hw⟩ => (⟨he, hw.symm⟩ : e = _ ∧ w1 = w'))
  have F2 := hide (f2.mono fun e w' ⟨he, hw⟩ => (⟨he, hw.symm⟩ : e = _ ∧ w1 = w'))
  have H1 := hide (h1.below hb1)
  have H2 := hide (h2.below hb1)
  have HK := hide (hks.grow (m := fun _ => False) hb1 (fun _ h => h.elim))
  have HN := hide hN
  have HB1 := hide hb1
  have CA1 := hide ca1
  have HE1 := hide (hE.below hb1)
  clear h1 h2 hks hf1 hf2 f1 f2 hb1 hN hE hk0
  go_enter Tryd.func7, Tryd.ntmps7
  go_upto_region 1 with fail
  rw [← hw1, ← hBa]
  have HW1 := hide hw1
  have HBA := hide hBa
  clear hw1 hBa
  go_upto_region 6 with (first
    | (go_at_call 51; first | (with_reducible refine F1.out.mono ?_; rintro e w2 ⟨rfl, rfl⟩) | (with_reducible refine F2.out.mono ?_; rintro e w2 ⟨rfl, rfl⟩))
    | (go_at_call 12; refine (zoned_any _).mono ?_; rintro e w2 ⟨rfl, hb2⟩; have HB2 := hide hb2; clear hb2)
    | (go_at_call 13; refine (znew_any _).mono ?_; rintro e w3 ⟨m3, rfl, hd3, hb3⟩; have HZ3 := hide (ZIn.mk hd3 hb3); clear hd3 hb3))
  obtain ⟨b, hb⟩ : ∃ b, b = w2.heap.size := ⟨_, rfl⟩
  obtain ⟨Bd, hBd⟩ : ∃ Bd, Bd = w3.heap.size := ⟨_, rfl⟩
  obtain ⟨w4, hw4⟩ : ∃ w4, w4 = w3.alloc (.cells #[.pointer (some ⟨b, 0, none⟩)] 27) := ⟨_, rfl⟩
  rw [← hb] at HZ3
  rw [← hb, ← hw4, ← hBd]
  have H4 : Hid (RIn w2 w4 b newD m3 Bd Ba a a' (some y) n c n' c' N C l l' ks) := by
    have hb4 : Below w3.heap.size w3 w4 := by rw [hw4]; exact (Below.refl _ _).alloc (Nat.le_refl _) _
    have hm : ∀ k, m3 k → w2.heap.size ≤ k := fun k hk => by obtain ⟨_, _, h0⟩ := HZ3.out.dev; exact (h0.lt k hk).1
    have hm1 : ∀ k, m3 k → w1.heap.size ≤ k := fun k hk => Nat.le_trans HB2.out.size (hm k hk)
    have h14 : Below w1.heap.size w1 w4 := below_step (below_step HB2.out HZ3.out.bel) hb4
    exact hide ⟨HZ3.out.below hb4, ⟨by rw [hw4, hBd]; simp, HZ3.out.out_ Bd (Nat.le_of_eq hBd.symm)⟩, CellOut.grow CA1.out h14 hm1, StrsOut.grow H1.out h14 hm1, StrsOut.grow H2.out h14 hm1, HK.out.grow h14 hm1⟩
  have HBE := hide hb
  clear hb hw4 hBd HZ3 ca1
  have k4 := H4.out.d.cell
  go_upto_region 9 with (first
    | (go_at_call 52; refine (putRests H4.out.z.dev ZGood.new _ _ _ _ _ _ _ _ H4.out.l (by omega) H4.out.ks HN.out hN0 (by omega) H4.out.d H4.out.at_).mono ?_; rintro e w5 ⟨rfl, D5, m5, hd5, hm5, hg5⟩; have H5 := hide (H4.out.step hd5 hm5); have HG5 := hide hg5; have k5 := H5.out.d.cell; clear hd5 hm5 hg5)
    | (go_at_call 36; refine (syncG H5.out.z.dev HG5.out).mono ?_; rintro e w6 ⟨rfl, m6, hd6, hm6⟩; have H6 := hide (H5.out.step hd6 hm6); have HG6 := hide HG5.out.sync; have k6 := H6.out.d.cell; clear hd6 hm6))
  obtain ⟨t0, t1, hT⟩ : ∃ t0 t1, D5.T = [t0, t1] := by
    obtain ⟨_, _, h0⟩ := H5.out.z.dev
    have h2 := h0.ok.hT
    match hT : D5.T with
    | [x, y] => exact ⟨x, y, rfl⟩
    | [] => rw [hT] at h2; simp at h2
    | [_] => rw [hT] at h2; simp at h2
    | _ :: _ :: _ :: _ => rw [hT] at h2; simp at h2
  obtain ⟨Z, hZ⟩ : ∃ Z, Z = D5.L := ⟨_, rfl⟩
  have zl : Z.length = 8 := by obtain ⟨_, _, h0⟩ := H5.out.z.dev; rw [hZ]; exact h0.ok.hL
  have zc : ∀ z, (Z.getD z []).length ≤ 16 := fun z => by obtain ⟨_, _, h0⟩ := H5.out.z.dev; rw [hZ]; exact h0.ok.cap z
  have zp : ∀ z, ∀ s ∈ Z.getD z [], s.size = 128 := fun z s hs => HG5.out.pad z s (by rw [hZ] at hs; exact hs)
  have zt : ∀ t ∈ [t0, t1], t.size = 500 := fun t ht => HG5.out.slot t (by rw [hT]; exact ht)
  have zs : ∀ z, z < 8 → ∀ s, s ∈ Z.getD z [] → s.size ≤ 65536 := fun z _ s hs => by rw [zp z s hs]; omega
  have himg := imageG H6.out.z.dev HG6.out.sure (Z := Z) (t0 := t0) (t1 := t1) (by rw [imageR_sync (by rw [← hZ]; exact zl), hZ]) (by rw [syncD_T HG5.out, hT]) zs
  have HIMG := hide himg
  have ZL := hide zl
  have ZC := hide zc
  have ZP := hide zp
  have ZT := hide zt
  have ZS := hide zs
  clear himg zl zc zp zt zs hT hZ k4 k5 H4 H5 HG5
  go_upto_region 10 with (go_at_call 45; refine HIMG.out.mono ?_; rintro e w7 ⟨vs, rfl, hi7, hb7⟩; have H7 := hide (H6.out.below hb7); have k7 := H7.out.d.cell; have HI7 := hide hi7; obtain ⟨v0, v1, v2, v3, v4, v5, v6, v7, rfl⟩ := list8 hi7.len; obtain ⟨a0, n0, c0, e0, -⟩ := hi7.at_ 0 (by omega); obtain rfl : v0 = _ := e0; obtain ⟨a1, n1, c1, e1, -⟩ := hi7.at_ 1 (by omega); obtain rfl : v1 = _ := e1; obtain ⟨a2, n2, c2, e2, -⟩ := hi7.at_ 2 (by omega); obtain rfl : v2 = _ := e2; obtain ⟨a3, n3, c3, e3, -⟩ := hi7.at_ 3 (by omega); obtain rfl : v3 = _ := e3; obtain ⟨a4, n4, c4, e4, -⟩ := hi7.at_ 4 (by omega); obtain rfl : v4 = _ := e4; obtain ⟨a5, n5, c5, e5, -⟩ := hi7.at_ 5 (by omega); obtain rfl : v5 = _ := e5; obtain ⟨a6, n6, c6, e6, -⟩ := hi7.at_ 6 (by omega); obtain rfl : v6 = _ := e6; obtain ⟨a7, n7, c7, e7, -⟩ := hi7.at_ 7 (by omega); obtain rfl : v7 = _ := e7; simp only [List.cons_append, List.nil_append]; clear hi7 hb7 k6 HIMG H6)
  obtain ⟨vs, hvs⟩ : ∃ vs : List Value, vs = [.slice a0 n0 c0, .slice a1 n1 c1, .slice a2 n2 c2, .slice a3 n3 c3, .slice a4 n4 c4, .slice a5 n5 c5, .slice a6 n6 c6, .slice a7 n7 c7] := ⟨_, rfl⟩
  obtain ⟨P, hP⟩ : ∃ P, P = w7.heap.size := ⟨_, rfl⟩
  obtain ⟨w8, hw8⟩ : ∃ w8, w8 = w7.alloc (.cells #[.slice a0 n0 c0, .slice a1 n1 c1, .slice a2 n2 c2, .slice a3 n3 c3, .slice a4 n4 c4, .slice a5 n5 c5, .slice a6 n6 c6, .slice a7 n7 c7, .string t0, .string t1] 57) := ⟨_, rfl⟩
  rw [← hw8, ← hP]
  rw [← hvs] at HI7
  have hb8 : Below w7.heap.size w7 w8 := by rw [hw8]; exact (Below.refl _ _).alloc (Nat.le_refl _) _
  have H8 := hide (H7.out.below hb8)
  have I8 : Hid (IIn w8 m6 P vs Z t0 t1) := hide ⟨by rw [hw8, hP, hvs]; exact Blk.new _ _ _, H7.out.z.out_ P (Nat.le_of_eq hP.symm), HI7.out.moves (.of_below hb8 m6)⟩
  have HVS := hide hvs
  obtain ⟨D6, hD6⟩ : ∃ D6, D6 = syncD D5 := ⟨_, rfl⟩
  rw [← hD6] at H8 HG6
  clear hb8 hw8 hP hvs HI7 H7 k7 hD6
  have iN : (0 : Int) < (N : Int) := by omega
  go_upto_region 12 with (go_at_call 52; refine (putRests H8.out.z.dev HG6.out _ _ _ _ _ _ _ _ H8.out.k (by omega) H8.out.ks HN.out hN0 (by omega) H8.out.d H8.out.at_).mono ?_; rintro e w9 ⟨rfl, D9, m9, hd9, hm9, hg9⟩; have H9 := hide (H8.out.step hd9 hm9); have HG9 := hide hg9; have k9 := H9.out.d.cell; have I9 := hide (I8.out.moves hm9); clear hd9 hm9 hg9)
  have ka9 := H9.out.at_.cell
  have ky9 := H9.out.ks.first HK0.out
  go_upto_region 13 with (go_at_call 14; refine (pick_any _ _).mono ?_; rintro e w10 ⟨rfl, X, hX, rfl⟩)
  clear ka9 ky9
  go_upto_region 15 with (first
    | (go_at_call 32; refine (resetG H9.out.z.dev HG9.out X hX).mono ?_; rintro e w11 ⟨rfl, m11, hd11, hm11⟩; have H11 := hide (H9.out.step hd11 hm11); have HG11 := hide (HG9.out.reset H9.out.lens.1 H9.out.lens.2 X hX); have k11 := H11.out.d.cell; have I11 := hide (I9.out.moves hm11); clear hd11 hm11)
    | (go_at_call 36; refine (syncG H11.out.z.dev HG11.out).mono ?_; rintro e w12 ⟨rfl, m12, hd12, hm12⟩; have H12 := hide (H11.out.step hd12 hm12); have HG12 := hide HG11.out.sync; have k12 := H12.out.d.cell; have I12 := hide (I11.out.moves hm12); clear hd12 hm12))
  obtain ⟨D12, hD12⟩ : ∃ D12, D12 = syncD { D9 with L := D9.L.set X [], S := D9.S.set X 0 } := ⟨_, rfl⟩
  have hz12 : (D12.zone X).length = 0 := by
    rw [hD12]
    unfold Dv.zone
    rw [syncD_L]
    show ((D9.L.set X []).getD X []).length = 0
    rw [getD_set _ _ _ _ _ (by rw [H9.out.lens.1]; exact hX), if_pos rfl]
    rfl
  rw [← hD12] at H12 HG12
  have HZ12 := hide hz12
  clear hz12 hD12 H9 HG9 H11 HG11 I9 I11 I8 H8 HG6 k9 k11 k12
  go_wp2_with fail
  go_loopw [11] (fun i wr => ∃ (I : Nat) (D : Dv) (m : Nat → Prop), i = .int .i64 (I : Int) ∧ I ≤ 16 ∧ RIn w2 wr b D m Bd Ba a a' (some y) n c n' c' N C l l' ks ∧ IIn wr m P vs Z t0 t1 ∧ ZGood D ∧ (D.zone X).length = I) (fun i _ => 16 - (intOf i).toNat)
  case atStart => exact ⟨0, D12, m12, rfl, by omega, H12.out, I12.out, HG12.out, HZ12.out⟩
  case round =>
    clear H12 I12 HG12 HZ12
    obtain ⟨I, D, m, rfl, hI, hr, hi, hg, hz⟩ := hrel
    have kr := hr.d.cell
    have HR := hide hr
    have HI := hide hi
    have HG := hide hg
    have HZ := hide hz
    have ha := append_any hr.z.dev (X : Int) ⟨#[120]⟩
    by_cases hlt : I < 16
    · have dI : decide ((I : Int) < 16) = true := by simp; omega
      rw [append_room hg X hX ⟨#[120]⟩ (by decide) (by omega), hz] at ha
      dsimp only at ha
      rw [errZ_zero] at ha
      obtain ⟨D', hD'⟩ : ∃ D' : Dv, D' = { D with L := D.L.set X (D.zone X ++ [padB ⟨#[120]⟩ 128]) } := ⟨_, rfl⟩
      rw [← hD'] at ha
      have hz' : (D'.zone X).length = I + 1 := by
        rw [hD']
        show ((D.L.set X (D.zone X ++ [padB ⟨#[120]⟩ 128])).getD X []).length = I + 1
        rw [getD_set _ _ _ _ _ (by rw [hr.lens.1]; exact hX), if_pos rfl, List.length_append, hz]
        rfl
      have hg' : ZGood D' := by
        have := hg.append hr.lens.1 (X : Int) ⟨#[120]⟩
        rw [append_room hg X hX ⟨#[120]⟩ (by decide) (by omega)] at this
        rw [hD']
        exact this
      have HA := hide ha
      have HZ' := hide hz'
      have HG' := hide hg'
      clear ha hz' hg' hD' hr hi hg hz
      go_wp2_with (go_at_call 15; refine HA.out.mono ?_; rintro e w13 ⟨rfl, m13, hd13, hm13⟩; have H13 := hide (HR.out.step hd13 hm13); have I13 := hide (HI.out.moves hm13); clear hd13 hm13)
      refine ⟨⟨I + 1, D', m13, by go_num, by omega, H13.out, I13.out, HG'.out, HZ'.out⟩, by simp [intOf]; omega⟩
    · obtain rfl : I = 16 := by omega
      have dI : decide ((16 : Int) < 16) = false := by simp
      rw [append_full X hX ⟨#[120]⟩ (by decide) hz] at ha
      dsimp only at ha
      rw [errZ_ne 12 (by omega)] at ha
      have HA := hide ha
      clear ha hr hi hg hz hI hlt
      rw [show ((16 : Nat) : Int) = 16 from rfl]
      go_upto_region 24 with (first
        | (go_at_call 15; refine HA.out.mono ?_; rintro e w13 ⟨rfl, m13, hd13, hm13⟩; have H13 := hide (HR.out.step hd13 hm13); have I13 := hide (HI.out.moves hm13); have HE13 := hide (HE1.out.below (below_step HB2.out H13.out.z.bel)); clear hd13 hm13)
        | (go_at_call 16; refine (tell_errno 12 _ HE13.out).mono ?_; rintro e w14 ⟨rfl, hb14⟩; have H14 := hide (H13.out.below hb14); have I14 := hide (I13.out.moves (.of_below hb14 m13)); have k14 := H14.out.d.cell; clear hb14))
      have hi14 := I14.out
      rw [HVS.out] at hi14
      obtain ⟨q0, q1, q2, q3, q4, q5, q6, q7, q8, q9⟩ := hi14.cells
      have hlay := lay_any H14.out.z.dev vs Z t0 t1 I14.out.img (by rw [ZT.out t0 (by simp)]; omega) (by rw [ZT.out t1 (by simp)]; omega)
      rw [lay_same ZC.out ZP.out ZT.out, HVS.out] at hlay
      simp only [List.cons_append, List.nil_append] at hlay
      obtain ⟨D15, hD15⟩ : ∃ D15 : Dv, D15 = { L := Z, S := Z.map List.length, T := [t0, t1], q := [], f := D.f } := ⟨_, rfl⟩
      rw [← hD15] at hlay
      have HLAY := hide hlay
      have HD15 := hide hD15
      clear hi14 hlay hD15 HR HI HG HZ HA H13 I13 HE13
      go_upto_region 25 with (go_at_call 42; refine HLAY.out.mono ?_; rintro e w15 ⟨rfl, m15, hd15, hm15⟩; have H15 := hide (H14.out.step hd15 hm15); have I15 := hide (I14.out.moves hm15); have k15 := H15.out.d.cell; clear hd15 hm15)
      clear q0 q1 q2 q3 q4 q5 q6 q7 q8 q9 HLAY H14 I14 k14
      go_upto_region 26 with (go_at_call 38; refine (fuse_any H15.out.z.dev 0 (by omega)).mono ?_; rintro e w16 ⟨rfl, hd16, hm16⟩; have H16 := hide (H15.out.step hd16 hm16); have I16 := hide (I15.out.moves hm16); have k16 := H16.out.d.cell; clear hd16 hm16)
      obtain ⟨D16, hD16⟩ : ∃ D16, D16 = fuseD D15 0 := ⟨_, rfl⟩
      rw [← hD16] at H16
      have DF : Hid (D16.f = 0) := hide (by rw [hD16]; show max (0 : Int) (-1) = 0; decide)
      have DQ : Hid (D16.q = []) := hide (by rw [hD16, HD15.out]; rfl)
      have DZ : Hid (∀ z, D16.zone z = Z.getD z []) := hide (fun z => by rw [hD16, HD15.out]; rfl)
      have DT : Hid (D16.T = [t0, t1]) := hide (by rw [hD16, HD15.out]; rfl)
      have dsure : ∀ z, D16.sure z = (D16.zone z).length := fun z => by
        rw [DZ.out, hD16, HD15.out]
        exact getD_lens Z z
      have DS : Hid D16.SureOk := hide (fun z => Nat.le_of_eq (dsure z))
      have DI : Hid (imageR D16 = Z) := hide (by rw [imageR_full H16.out.lens.1 (fun z _ => dsure z), hD16, HD15.out]; rfl)
      have hcells : ∀ {W : World} {m : Nat → Prop}, IIn W m P vs Z t0 t1 → W.cell? ⟨P, 0, none⟩ = some (.slice a0 n0 c0) ∧ W.cell? ⟨P, 1, none⟩ = some (.slice a1 n1 c1) ∧ W.cell? ⟨P, 2, none⟩ = some (.slice a2 n2 c2) ∧ W.cell? ⟨P, 3, none⟩ = some (.slice a3 n3 c3) ∧ W.cell? ⟨P, 4, none⟩ = some (.slice a4 n4 c4) ∧ W.cell? ⟨P, 5, none⟩ = some (.slice a5 n5 c5) ∧ W.cell? ⟨P, 6, none⟩ = some (.slice a6 n6 c6) ∧ W.cell? ⟨P, 7, none⟩ = some (.slice a7 n7 c7) ∧ W.cell? ⟨P, 8, none⟩ = some (.string t0) ∧ W.cell? ⟨P, 9, none⟩ = some (.string t1) := fun h => by
        rw [HVS.out] at h
        exact h.cells
      have zfew : ∀ z, z < 8 → (Z.getD z []).length ≤ 65536 := fun z _ => Nat.le_trans (ZC.out z) (by omega)
      clear dsure hD16 HD15 k15 H15 I15
      obtain ⟨r, hr⟩ : ∃ r, r = (X + 1) % 8 := ⟨_, rfl⟩
      have hr8 : r < 8 := by omega
      have wr1 : wrap64 ((X : Int) + 1) = (X : Int) + 1 := by simp only [wrap64]; omega
      have wr2 : IntKind.i64.wrap ((X : Int) + 1) = (X : Int) + 1 := by simp [IntKind.wrap, IntKind.bits, IntKind.signed]; omega
      have hrem : ((X : Int) + 1).tmod 8 = (r : Int) := by rw [Int.tmod_eq_emod_of_nonneg (by omega), hr]; omega
      have ir1 : (r : Int) < 8 := by omega
      have ir0 : (0 : Int) ≤ (r : Int) := by omega
      have ha := append_any H16.out.z.dev (r : Int) ⟨#[120]⟩
      clear hr
      by_cases hfull : (Z.getD r []).length = 16
      · rw [append_full r hr8 ⟨#[120]⟩ (by decide) (by rw [DZ.out]; exact hfull)] at ha
        dsimp only at ha
        rw [errZ_ne 12 (by omega)] at ha
        have HA := hide ha
        obtain ⟨ar, nr, cr, er, sr, -⟩ := I16.out.img.at_ r hr8
        have hnr := sr.hn
        rw [hfull] at hnr
        subst hnr
        have hkr : ∀ (W : World) (m : Nat → Prop), IIn W m P vs Z t0 t1 → W.cell? ⟨P, r, none⟩ = some (.slice ar 16 cr) := fun _ _ h => by rw [h.box.cell, ← er]; simp [List.getElem?_append, h.img.len, hr8, List.getD]
        have HKR := hide hkr
        clear ha hkr sr er
        go_upto_region 27 with (go_at_call 15; refine HA.out.mono ?_; rintro e w17 ⟨rfl, m17, hd17, hm17⟩; have H17 := hide (H16.out.step hd17 hm17); have I17 := hide (I16.out.moves hm17); have k17 := H17.out.d.cell; have kr := HKR.out _ _ I17.out; clear hd17 hm17)
        go_upto_region 28 with fail
        clear kr k17 k16 HA HKR H16 I16
        have hdr : Below w17.heap.size w17 (w17.drewN 1) := ⟨rfl, rfl, rfl, Nat.le_refl _, fun _ _ => rfl⟩
        have I19 := hide (I17.out.moves (.of_below hdr _))
        have H19 := hide (H17.out.below hdr)
        have HE19 := hide (HE1.out.below (below_step HB2.out H19.out.z.bel))
        have e0 := H17.out.d.cell
        obtain ⟨e1, e2, e3, e4, e5, e6, e7, e8, e9, e10⟩ := hcells I17.out
        clear hdr H17 I17
        first | (go_region_law (first
            | (go_simp; go_at_call 16; first
              | (refine (tell_errno 14 _ HE22.out).mono ?_; rintro e w23 ⟨rfl, hb23⟩; have I23 := hide (I22.out.moves (.of_below hb23 _)); have H23 := hide (H22.out.below hb23); have HE23 := hide (HE1.out.below (below_step HB2.out H23.out.z.bel)); (try clear e0 e1 e2 e3 e4 e5 e6 e7 e8 e9 e10); have e0 := H23.out.d.cell; obtain ⟨e1, e2, e3, e4, e5, e6, e7, e8, e9, e10⟩ := hcells I23.out; clear hb23 H22 I22 HE22)
              | (refine (tell_errno 14 _ HE20.out).mono ?_; rintro e w21 ⟨rfl, hb21⟩; have I21 := hide (I20.out.moves (.of_below hb21 _)); have H21 := hide (H20.out.below hb21); have HE21 := hide (HE1.out.below (below_step HB2.out H21.out.z.bel)); (try clear e0 e1 e2 e3 e4 e5 e6 e7 e8 e9 e10); have e0 := H21.out.d.cell; obtain ⟨e1, e2, e3, e4, e5, e6, e7, e8, e9, e10⟩ := hcells I21.out; clear hb21 H20 I20 HE20))
            | (go_simp; go_at_call 36; refine (syncX H19.out.z.dev DF.out DQ.out).mono ?_; rintro e w20 ⟨rfl, m20, hd20, hm20⟩; have H20 := hide (H19.out.step hd20 hm20); have I20 := hide (I19.out.moves hm20); have HE20 := hide (HE1.out.below (below_step HB2.out H20.out.z.bel)); (try clear e0 e1 e2 e3 e4 e5 e6 e7 e8 e9 e10); have e0 := H20.out.d.cell; obtain ⟨e1, e2, e3, e4, e5, e6, e7, e8, e9, e10⟩ := hcells I20.out; clear hd20 hm20 H19 I19 HE19)
            | (go_simp; go_at_call 32; refine (resetX H21.out.z.dev DF.out X hX).mono ?_; rintro e w22 ⟨rfl, m22, hd22, hm22⟩; have H22 := hide (H21.out.step hd22 hm22); have I22 := hide (I21.out.moves hm22); have HE22 := hide (HE1.out.below (below_step HB2.out H22.out.z.bel)); (try clear e0 e1 e2 e3 e4 e5 e6 e7 e8 e9 e10); have e0 := H22.out.d.cell; obtain ⟨e1, e2, e3, e4, e5, e6, e7, e8, e9, e10⟩ := hcells I22.out; clear hd22 hm22 H21 I21 HE21)
            | (go_simp; go_at_call 45; refine (imageG H23.out.z.dev DS.out (Z := Z) (t0 := t0) (t1 := t1) DI.out DT.out ZS.out).mono ?_; rintro e w24 ⟨us, rfl, hi24, hb24⟩; have I24 := hide (I23.out.moves (.of_below hb24 _)); have H24 := hide (H23.out.below hb24); have HE24 := hide (HE1.out.below (below_step HB2.out H24.out.z.bel)); (try clear e0 e1 e2 e3 e4 e5 e6 e7 e8 e9 e10); have e0 := H24.out.d.cell; obtain ⟨e1, e2, e3, e4, e5, e6, e7, e8, e9, e10⟩ := hcells I24.out; clear hb24 H23 I23 HE23; have hal := alike_true t0 t1 (hi24.zs zfew) (I24.out.img.zs zfew); obtain ⟨x0, x1, x2, x3, x4, x5, x6, x7, rfl⟩ := list8 hi24.len; rw [HVS.out] at hal; simp only [List.cons_append, List.nil_append] at hal ⊢; have HAL := hide hal; clear hal hi24)
            | (go_simp; go_at_call 53; refine HAL.out.mono ?_; rintro e w25 ⟨rfl, hb25⟩; have I25 := hide (I24.out.moves (.of_below hb25 _)); have H25 := hide (H24.out.below hb25); have HE25 := hide (HE1.out.below (below_step HB2.out H25.out.z.bel)); (try clear e0 e1 e2 e3 e4 e5 e6 e7 e8 e9 e10); have e0 := H25.out.d.cell; obtain ⟨e1, e2, e3, e4, e5, e6, e7, e8, e9, e10⟩ := hcells I25.out; clear hb25 H24 I24 HE24))) | fail
        all_goals
          try clear e0 e1 e2 e3 e4 e5 e6 e7 e8 e9 e10
          go_wp2_with fail
          go_ret
          exact ⟨rfl, below_step HB1.out (below_step HB2.out H25.out.z.bel)⟩
      · rw [append_spent r hr8 ⟨#[120]⟩ (by decide) (by rw [DZ.out]; exact hfull) DF.out] at ha
        dsimp only at ha
        rw [errZ_ne 14 (by omega)] at ha
        have HA := hide ha
        obtain ⟨ar, nr, cr, er, sr, -⟩ := I16.out.img.at_ r hr8
        have hnr := sr.hn
        have dn : ((nr : Int) == 16) = false := by simp; omega
        have dn' : (nr == 16) = false := by simp; omega
        have hkr : ∀ (W : World) (m : Nat → Prop), IIn W m P vs Z t0 t1 → W.cell? ⟨P, r, none⟩ = some (.slice ar nr cr) := fun _ _ h => by rw [h.box.cell, ← er]; simp [List.getElem?_append, h.img.len, hr8, List.getD]
        have HKR := hide hkr
        clear ha hkr sr er hnr
        go_upto_region 27 with (go_at_call 15; refine HA.out.mono ?_; rintro e w17 ⟨rfl, m17, hd17, hm17⟩; have H17 := hide (H16.out.step hd17 hm17); have I17 := hide (I16.out.moves hm17); have k17 := H17.out.d.cell; have kr := HKR.out _ _ I17.out; clear hd17 hm17)
        go_upto_region 28 with fail
        clear kr k17 k16 HA HKR H16 I16 dn dn'
        have hdr : Below w17.heap.size w17 (w17.drewN 1) := ⟨rfl, rfl, rfl, Nat.le_refl _, fun _ _ => rfl⟩
        have I18 := hide (I17.out.moves (.of_below hdr _))
        have H18 := hide (H17.out.below hdr)
        have HE18 := hide (HE1.out.below (below_step HB2.out H18.out.z.bel))
        have e0 := H17.out.d.cell
        obtain ⟨e1, e2, e3, e4, e5, e6, e7, e8, e9, e10⟩ := hcells I17.out
        clear hdr H17 I17
        go_region_held3 (fun W => W.cell? ⟨Bd, 0, none⟩ = some (.pointer (some ⟨b, 0, none⟩)) ∧ W.cell? ⟨P, 0, none⟩ = some (.slice a0 n0 c0) ∧ W.cell? ⟨P, 1, none⟩ = some (.slice a1 n1 c1) ∧ W.cell? ⟨P, 2, none⟩ = some (.slice a2 n2 c2) ∧ W.cell? ⟨P, 3, none⟩ = some (.slice a3 n3 c3) ∧ W.cell? ⟨P, 4, none⟩ = some (.slice a4 n4 c4) ∧ W.cell? ⟨P, 5, none⟩ = some (.slice a5 n5 c5) ∧ W.cell? ⟨P, 6, none⟩ = some (.slice a6 n6 c6) ∧ W.cell? ⟨P, 7, none⟩ = some (.slice a7 n7 c7) ∧ W.cell? ⟨P, 8, none⟩ = some (.string t0) ∧ W.cell? ⟨P, 9, none⟩ = some (.string t1)) (go_keep) (first
            | (go_simp; go_at_call 16; first
              | (refine (tell_errno 14 _ HE22.out).mono ?_; rintro e w23 ⟨rfl, hb23⟩; have I23 := hide (I22.out.moves (.of_below hb23 _)); have H23 := hide (H22.out.below hb23); have HE23 := hide (HE1.out.below (below_step HB2.out H23.out.z.bel)); (try clear e0 e1 e2 e3 e4 e5 e6 e7 e8 e9 e10); have e0 := H23.out.d.cell; obtain ⟨e1, e2, e3, e4, e5, e6, e7, e8, e9, e10⟩ := hcells I23.out; clear hb23 H22 I22 HE22)
              | (refine (tell_errno 14 _ HE20.out).mono ?_; rintro e w21 ⟨rfl, hb21⟩; have I21 := hide (I20.out.moves (.of_below hb21 _)); have H21 := hide (H20.out.below hb21); have HE21 := hide (HE1.out.below (below_step HB2.out H21.out.z.bel)); (try clear e0 e1 e2 e3 e4 e5 e6 e7 e8 e9 e10); have e0 := H21.out.d.cell; obtain ⟨e1, e2, e3, e4, e5, e6, e7, e8, e9, e10⟩ := hcells I21.out; clear hb21 H20 I20 HE20)
              | (refine (tell_errno 14 _ HE18.out).mono ?_; rintro e w19 ⟨rfl, hb19⟩; have I19 := hide (I18.out.moves (.of_below hb19 _)); have H19 := hide (H18.out.below hb19); have HE19 := hide (HE1.out.below (below_step HB2.out H19.out.z.bel)); (try clear e0 e1 e2 e3 e4 e5 e6 e7 e8 e9 e10); have e0 := H19.out.d.cell; obtain ⟨e1, e2, e3, e4, e5, e6, e7, e8, e9, e10⟩ := hcells I19.out; clear hb19 H18 I18 HE18))
            | (go_simp; go_at_call 36; refine (syncX H19.out.z.dev DF.out DQ.out).mono ?_; rintro e w20 ⟨rfl, m20, hd20, hm20⟩; have H20 := hide (H19.out.step hd20 hm20); have I20 := hide (I19.out.moves hm20); have HE20 := hide (HE1.out.below (below_step HB2.out H20.out.z.bel)); (try clear e0 e1 e2 e3 e4 e5 e6 e7 e8 e9 e10); have e0 := H20.out.d.cell; obtain ⟨e1, e2, e3, e4, e5, e6, e7, e8, e9, e10⟩ := hcells I20.out; clear hd20 hm20 H19 I19 HE19)
            | (go_simp; go_at_call 32; refine (resetX H21.out.z.dev DF.out X hX).mono ?_; rintro e w22 ⟨rfl, m22, hd22, hm22⟩; have H22 := hide (H21.out.step hd22 hm22); have I22 := hide (I21.out.moves hm22); have HE22 := hide (HE1.out.below (below_step HB2.out H22.out.z.bel)); (try clear e0 e1 e2 e3 e4 e5 e6 e7 e8 e9 e10); have e0 := H22.out.d.cell; obtain ⟨e1, e2, e3, e4, e5, e6, e7, e8, e9, e10⟩ := hcells I22.out; clear hd22 hm22 H21 I21 HE21)
            | (go_simp; go_at_call 45; refine (imageG H23.out.z.dev DS.out (Z := Z) (t0 := t0) (t1 := t1) DI.out DT.out ZS.out).mono ?_; rintro e w24 ⟨us, rfl, hi24, hb24⟩; have I24 := hide (I23.out.moves (.of_below hb24 _)); have H24 := hide (H23.out.below hb24); have HE24 := hide (HE1.out.below (below_step HB2.out H24.out.z.bel)); (try clear e0 e1 e2 e3 e4 e5 e6 e7 e8 e9 e10); have e0 := H24.out.d.cell; obtain ⟨e1, e2, e3, e4, e5, e6, e7, e8, e9, e10⟩ := hcells I24.out; clear hb24 H23 I23 HE23; have hal := alike_true t0 t1 (hi24.zs zfew) (I24.out.img.zs zfew); obtain ⟨x0, x1, x2, x3, x4, x5, x6, x7, rfl⟩ := list8 hi24.len; rw [HVS.out] at hal; simp only [List.cons_append, List.nil_append] at hal ⊢; have HAL := hide hal; clear hal hi24)
            | (go_simp; go_at_call 53; refine HAL.out.mono ?_; rintro e w25 ⟨rfl, hb25⟩; have I25 := hide (I24.out.moves (.of_below hb25 _)); have H25 := hide (H24.out.below hb25); have HE25 := hide (HE1.out.below (below_step HB2.out H25.out.z.bel)); (try clear e0 e1 e2 e3 e4 e5 e6 e7 e8 e9 e10); have e0 := H25.out.d.cell; obtain ⟨e1, e2, e3, e4, e5, e6, e7, e8, e9, e10⟩ := hcells I25.out; clear hb25 H24 I24 HE24))
        all_goals
          try clear e0 e1 e2 e3 e4 e5 e6 e7 e8 e9 e10
          go_wp2_with fail
          go_ret
          exact ⟨rfl, below_step HB1.out (below_step HB2.out H25.out.z.bel)⟩
theorem rests_any (w : World) (a a' A : Option Addr) (n c n' c' N C : Nat) (l l' : List ByteArray) (ks : List Int) (h1 : StrsAt w a n c l) (h2 : StrsAt w a' n' c' l') (hks : NumsOut w (fun _ => False) A ks) (hN : N = ks.length) (hE : LaidE w) :
    Calls Tryd.prog 7 #[.slice a n c, .slice a' n' c', .slice A N C] w fun e w' => e = .returned (.bool true) ∧ Below w.heap.size w w' := by
  cases e1 : fewB l
  · exact rests_wide w a a' A n c n' c' N C l l' h1 h2 (.inl e1)
  · cases e2 : fewB l'
    · exact rests_wide w a a' A n c n' c' N C l l' h1 h2 (.inr (.inl e2))
    · by_cases h3 : N = 0
      · exact rests_wide w a a' A n c n' c' N C l l' h1 h2 (.inr (.inr (.inl h3)))
      · by_cases h4 : 20 < N
        · exact rests_wide w a a' A n c n' c' N C l l' h1 h2 (.inr (.inr (.inr h4)))
        · exact rests_good w a a' A n c n' c' N C l l' ks h1 h2 hks hN e1 e2 h3 (by omega) hE
end Go.Proofs.YtmligbaalbbgiabDoor

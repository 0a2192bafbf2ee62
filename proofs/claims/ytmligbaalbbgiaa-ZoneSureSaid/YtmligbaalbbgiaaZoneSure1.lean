/- The walk of salternkeep.ZoneSure where texts and numbers are few: it returns true. Conditions: the slices can be read. -/
import Derived.Test.YtmligbaalbbgiaaZoneSureB
namespace Go.Proofs.Ytmligbaalbbgiaa
open Go.RowKit

/-- The lists that were read: one of each zone. -/
structure AllAt (w : World) (base : Nat) (av : Value) (I : Nat) (f : Nat → List ByteArray) : Prop where
  rows : ∃ vsL : List Value, vsL.length = I ∧ w.ownsRow base 31 1 av I vsL ∧ ∀ j, j < I → w.ownsRow base 9 1 (vsL.getD j nilS) (f j).length (strsV (f j))
theorem AllAt.nil (w : World) (base : Nat) (f : Nat → List ByteArray) : AllAt w base (.slice none 0 0) 0 f :=
  ⟨[], rfl, World.ownsRow_nil _ _ _ _, fun j hj => by omega⟩
theorem AllAt.below {w w' : World} {base : Nat} {av : Value} {I : Nat} {f : Nat → List ByteArray} (h : AllAt w base av I f) (hb : Below w.heap.size w w') : AllAt w' base av I f := by
  obtain ⟨vsL, h1, h2, h3⟩ := h.rows
  exact ⟨vsL, h1, ownsRow_same h2 (fun g hg => hb.block g (h2.lt g hg).2), fun j hj => ownsRow_same (h3 j hj) (fun g hg => hb.block g ((h3 j hj).lt g hg).2)⟩
theorem AllAt.moves {w w' : World} {m m' : Nat → Prop} {base : Nat} {av : Value} {I : Nat} {f : Nat → List ByteArray} (h : AllAt w base av I f) (hm : Moves w w' m m') (hk : ∀ k, m k → k < base) : AllAt w' base av I f := by
  obtain ⟨vsL, h1, h2, h3⟩ := h.rows
  refine ⟨vsL, h1, ownsRow_same h2 (fun g hg => hm.block g (h2.lt g hg).2 (fun hc => ?_)), fun j hj => ownsRow_same (h3 j hj) (fun g hg => hm.block g ((h3 j hj).lt g hg).2 (fun hc => ?_))⟩
  · have := (h2.lt g hg).1
    have := hk g hc
    omega
  · have := ((h3 j hj).lt g hg).1
    have := hk g hc
    omega
/-- One more list. -/
theorem AllAt.push {w w' : World} {base I : Nat} {av xv v' : Value} {f : Nat → List ByteArray} {vsL : List Value} (h1 : vsL.length = I) (h2 : w.ownsRow base 31 1 av I vsL)
    (h3 : ∀ j, j < I → w.ownsRow base 9 1 (vsL.getD j nilS) (f j).length (strsV (f j))) (hx : w.ownsRow base 9 1 xv (f I).length (strsV (f I))) (hg : w.grownBy w' av.ownBlock)
    (hr : w'.ownsRow base 31 1 v' (I + 1) (vsL ++ [xv])) : AllAt w' base v' (I + 1) f := by
  have keep : ∀ (v : Value) (l : List ByteArray), w.ownsRow base 9 1 v l.length (strsV l) → w'.ownsRow base 9 1 v l.length (strsV l) := fun v l hv =>
    ownsRow_same hv (fun g hg' => hg.block g (hv.lt g hg').2 (fun he => ownsRow_ne hv h2 (by decide) hg' he.symm))
  refine ⟨vsL ++ [xv], by simp [h1], hr, fun j hj => ?_⟩
  by_cases hj2 : j < I
  · have e : (vsL ++ [xv]).getD j nilS = vsL.getD j nilS := by simp [List.getD, List.getElem?_append, h1, hj2]
    rw [e]
    exact keep _ _ (h3 j hj2)
  · obtain rfl : j = I := by omega
    have e : (vsL ++ [xv]).getD j nilS = xv := by simp [List.getD, h1]
    rw [e]
    exact keep _ _ hx
theorem read_at (D : Dv) (Z K : Nat) (hZ : Z < 8) (hK : K < (D.zone Z).length) : readR D (Z : Int) (K : Int) = ((D.zone Z).getD K ⟨#[]⟩, 0) := by
  unfold readR
  rw [if_neg (by omega), if_neg (by simp; omega)]
  simp
theorem read_end (D : Dv) (Z K : Nat) (hZ : Z < 8) (hK : (D.zone Z).length ≤ K) : readR D (Z : Int) (K : Int) = (⟨#[]⟩, 7) := by
  unfold readR
  rw [if_neg (by omega), if_pos (by simp; omega)]
theorem take_more (l : List ByteArray) (K : Nat) (hK : K < l.length) : strsV (l.take K) ++ [Value.string (l.getD K ⟨#[]⟩)] = strsV (l.take (K + 1)) := by
  rw [List.take_succ_eq_append_getElem hK, strsV_append]
  simp [strsV, List.getD, hK]
theorem own_parts_some {w : World} {base n k : Nat} {e : TypeId} {v : Value} {xs : List Value} (h : w.ownsRow base e 1 v n xs) (hn : k < n) (hx : xs.length = n) :
    ∃ x c, v = .slice (some x) n c ∧ ∀ j, j < n → w.cell? (x.add j) = some (xs.getD j nilS) := by
  obtain ⟨a, c, hv⟩ : ∃ a c, v = .slice a n c := by
    rcases h.2 with ⟨rfl, h2⟩ | ⟨g, cap, cur, rfl, _⟩
    · exact ⟨none, 0, by rw [h2]⟩
    · exact ⟨_, cap, rfl⟩
  subst hv
  obtain ⟨_, _, p2, p3⟩ := own_parts h
  cases a with
  | none => have := (p2 rfl).1; omega
  | some x =>
    refine ⟨x, c, rfl, fun j hj => (p3 x rfl).2 j _ ?_⟩
    rw [List.getD, List.getElem?_eq_getElem (by omega)]
    rfl
/-- A beginning of a row. -/
theorem own_front {w : World} {base : Nat} {v : Value} {l : List ByteArray} (h : w.ownsRow base 9 1 v l.length (strsV l)) (k : Nat) (hk : k ≤ l.length) :
    ∃ a cap, v = .slice a l.length cap ∧ k ≤ cap ∧ (a = none → k = 0 ∧ cap = 0 ∧ l.length = 0) ∧ StrsAt w a k cap (l.take k) := by
  obtain ⟨a, cap, hf⟩ := ownsRow_slice h
  subst hf
  obtain ⟨_, p1, p2, p3⟩ := own_parts h
  refine ⟨a, cap, rfl, by omega, fun e => ⟨by have := (p2 e).1; omega, (p2 e).2, (p2 e).1⟩, ?_⟩
  have h2 := own_prefix h hk
  rw [← strsV_take] at h2
  exact StrsAt.of_own h2 (by rw [List.length_take]; exact (Nat.min_eq_left hk).symm)
theorem info_strs : (Try.prog.info? 31).map (fun i => (i.zero, i.size, i.bytes)) = some (some (.slice none 0 0), 1, 24) := by kernel_rfl

set_option maxRecDepth 100000 in
set_option maxHeartbeats 8000000 in
theorem sure_good (w : World) (X : SArgs) (kc sc : Nat) (h1 : StrsAt w X.a X.n X.c X.l) (h2 : StrsAt w X.a' X.n' X.c' X.l') (hks : NumsOut w (fun _ => False) X.A X.ks) (hN : X.N = X.ks.length)
    (hkp : IntsArg w (fun _ => False) X.K X.kp) (hsl : BoolsArg w (fun _ => False) X.B X.sl) (hf1 : fewB X.l = true) (hf2 : fewB X.l' = true) (hN0 : X.N ≠ 0) (hN20 : X.N ≤ 20) (hk20 : X.kp.length ≤ 20) (hs20 : X.sl.length ≤ 20) :
    Calls Try.prog 5 #[.slice X.a X.n X.c, .slice X.a' X.n' X.c', .slice X.A X.N X.C, .slice X.K X.kp.length kc, .slice X.B X.sl.length sc] w fun e w' => e = .returned (.bool true) ∧ Below w.heap.size w w' := by
  obtain ⟨i0, hi0, hz0, hz1, hz2⟩ := info_parts info_str
  obtain ⟨j0, hj0, hy0, hy1, hy2⟩ := info_parts info_strs
  obtain ⟨w1, hw1⟩ : ∃ w1, w1 = w.alloc (.cells #[.slice X.A X.N X.C] 32) := ⟨_, rfl⟩
  obtain ⟨Ba, hBa⟩ : ∃ Ba, Ba = w.heap.size := ⟨_, rfl⟩
  have hb1 : Below w.heap.size w w1 := by rw [hw1]; exact (Below.refl _ _).alloc (Nat.le_refl _) _
  have ca1 : w1.cell? ⟨Ba, 0, none⟩ = some (.slice X.A X.N X.C) := by rw [hw1, hBa]; simp
  have f1 := few_any (h1.below hb1)
  have f2 := few_any (h2.below hb1)
  rw [hf1] at f1
  rw [hf2] at f2
  have n20 : X.n ≤ 20 := by have := h1.hn; simp [fewB] at hf1; omega
  have n20' : X.n' ≤ 20 := by have := h2.hn; simp [fewB] at hf2; omega
  have d3 : ((X.N : Int) == 0) = false := by simp; omega
  have d3' : (X.N == 0) = false := by simp; omega
  have d4 : decide ((20 : Int) < (X.N : Int)) = false := by simp; omega
  have d4' : decide (20 < X.N) = false := by simp; omega
  have d5 : decide ((20 : Int) < (X.kp.length : Int)) = false := by simp; omega
  have d5' : decide (20 < X.kp.length) = false := by simp; omega
  have d6 : decide ((20 : Int) < (X.sl.length : Int)) = false := by simp; omega
  have d6' : decide (20 < X.sl.length) = false := by simp; omega
  have F1 := hide (f1.mono fun e w' ⟨he, hw⟩ => (⟨he, hw.symm⟩ : e = _ ∧ w1 = w'))
  have F2 := hide (f2.mono fun e w' ⟨he, hw⟩ => (⟨he, hw.symm⟩ : e = _ ∧ w1 = w'))
  have H1 := hide (h1.below hb1)
  have H2 := hide (h2.below hb1)
  have HK := hide (hks.grow (m := fun _ => False) hb1 (fun _ h => h.elim))
  have HKP := hide (hkp.grow (m := fun _ => False) hb1 (fun _ h => h.elim))
  have HSL := hide (hsl.grow (m := fun _ => False) hb1 (fun _ h => h.elim))
  have HN := hide hN
  have HB1 := hide hb1
  have CA1 := hide ca1
  clear h1 h2 hks hkp hsl hf1 hf2 f1 f2 hb1 hN
  go_enter Try.func5, Try.ntmps5
  go_upto_region 1 with fail
  rw [← hw1, ← hBa]
  have HW1 := hide hw1
  have HBA := hide hBa
  clear hw1 hBa
  go_upto_region 6 with (first
    | (go_at_call 12; first | (with_reducible refine F1.out.mono ?_; rintro e w2 ⟨rfl, rfl⟩) | (with_reducible refine F2.out.mono ?_; rintro e w2 ⟨rfl, rfl⟩))
    | (go_at_call 13; refine (zoned_any _).mono ?_; rintro e w2 ⟨rfl, hb2⟩; have HB2 := hide hb2; clear hb2)
    | (go_at_call 14; refine (znew_any _).mono ?_; rintro e w3 ⟨m3, rfl, hd3, hb3⟩; have HZ3 := hide (ZIn.mk hd3 hb3); clear hd3 hb3))
  obtain ⟨b, hb⟩ : ∃ b, b = w2.heap.size := ⟨_, rfl⟩
  obtain ⟨Bd, hBd⟩ : ∃ Bd, Bd = w3.heap.size := ⟨_, rfl⟩
  obtain ⟨w4, hw4⟩ : ∃ w4, w4 = w3.alloc (.cells #[.pointer (some ⟨b, 0, none⟩)] 35) := ⟨_, rfl⟩
  rw [← hb] at HZ3
  rw [← hb, ← hw4, ← hBd]
  have H4 : Hid (SIn w2 w4 b newD m3 Bd Ba X) := by
    have hb4 : Below w3.heap.size w3 w4 := by rw [hw4]; exact (Below.refl _ _).alloc (Nat.le_refl _) _
    have hm : ∀ k, m3 k → w2.heap.size ≤ k := fun k hk => by obtain ⟨_, _, h0⟩ := HZ3.out.dev; exact (h0.lt k hk).1
    have hm1 : ∀ k, m3 k → w1.heap.size ≤ k := fun k hk => Nat.le_trans HB2.out.size (hm k hk)
    have h14 : Below w1.heap.size w1 w4 := below_step (below_step HB2.out HZ3.out.bel) hb4
    exact hide ⟨HZ3.out.below hb4, ⟨by rw [hw4, hBd]; simp, HZ3.out.out_ Bd (Nat.le_of_eq hBd.symm)⟩, CellOut.grow CA1.out h14 hm1, StrsOut.grow H1.out h14 hm1, StrsOut.grow H2.out h14 hm1, HK.out.grow h14 hm1, HKP.out.grow h14 hm1, HSL.out.grow h14 hm1⟩
  have HBE := hide hb
  clear hb hw4 hBd HZ3 ca1
  have k4 := H4.out.d.cell
  go_upto_region 9 with (first
    | (go_at_call 15; refine (putSure H4.out.z.dev SGood.new 0 (Nat.le_refl _) _ _ _ _ _ _ (by omega) _ _ H4.out.l (by omega) H4.out.ks HN.out hN0 (by omega) H4.out.d H4.out.at_).mono ?_; rintro e w5 ⟨rfl, D5, m5, hd5, hm5, hg5, hS5, hq5⟩; have H5 := hide (H4.out.step hd5 hm5); have HG5 := hide hg5; have k5 := H5.out.d.cell; clear hd5 hm5 hg5 hS5)
    | (go_at_call 18; refine (syncS_any H5.out.z.dev HG5.out (by omega)).mono ?_; rintro e w6 ⟨rfl, m6, hd6, hm6⟩; have H6 := hide (H5.out.step hd6 hm6); have HG6 := hide HG5.out.sync; have k6 := H6.out.d.cell; clear hd6 hm6))
  obtain ⟨D6, hD6⟩ : ∃ D6, D6 = syncD D5 := ⟨_, rfl⟩
  obtain ⟨t0, t1, hT⟩ : ∃ t0 t1, D6.T = [t0, t1] := by
    have h2 : D6.T.length = 2 := by
      obtain ⟨_, _, h0⟩ := H6.out.z.dev
      rw [hD6]
      exact h0.ok.hT
    match hT : D6.T with
    | [x, y] => exact ⟨x, y, rfl⟩
    | [] => rw [hT] at h2; simp at h2
    | [_] => rw [hT] at h2; simp at h2
    | _ :: _ :: _ :: _ => rw [hT] at h2; simp at h2
  obtain ⟨Z, hZ⟩ : ∃ Z, Z = D5.L := ⟨_, rfl⟩
  have zl : Z.length = 8 := by rw [hZ]; exact H5.out.lens.1
  have zc : ∀ z, (Z.getD z []).length ≤ 16 := fun z => by obtain ⟨_, _, h0⟩ := H5.out.z.dev; rw [hZ]; exact h0.ok.cap z
  have zs : ∀ z, z < 8 → ∀ s, s ∈ Z.getD z [] → s.size ≤ 65536 := fun z _ s hs => by rw [HG5.out.pad z s (by rw [hZ] at hs; exact hs)]; omega
  have himg := imageG H6.out.z.dev HG6.out.sure (Z := Z) (t0 := t0) (t1 := t1) (by rw [imageR_sync (by rw [← hZ]; exact zl), hZ]) (by rw [← hD6, hT]) zs
  have HIMG := hide himg
  have hq6 : (syncD D5).q = [] := rfl
  have hcr : ∀ ks, crashL (syncD D5) ks = Z := fun ks => by rw [crash_sync H5.out.lens.1, hZ]
  rw [← hD6] at H6 HG6 hcr hq6
  have CRL := hide hcr
  have CRT : Hid (∀ ks sl, (crashD D6 ks sl).T = [t0, t1]) := hide (fun ks sl => by
    show putAll D6.T (crashQ D6.q sl) = _
    rw [hq6, hT]
    rfl)
  have HQ6 := hide hq6
  have ZL := hide zl
  have ZC := hide zc
  have ZS := hide zs
  clear himg zl zc zs hT hZ k4 k5 H4 H5 HG5 hq6 hcr hD6 hq5
  go_upto_region 11 with (go_at_call 19; refine HIMG.out.mono ?_; rintro e w7 ⟨vs, rfl, hi7, hb7⟩; have H7 := hide (H6.out.below hb7); have k7 := H7.out.d.cell; have HI7 := hide hi7; obtain ⟨v0, v1, v2, v3, v4, v5, v6, v7, rfl⟩ := list8 hi7.len; obtain ⟨a0, n0, c0, e0, -⟩ := hi7.at_ 0 (by omega); obtain rfl : v0 = _ := e0; obtain ⟨a1, n1, c1, e1, -⟩ := hi7.at_ 1 (by omega); obtain rfl : v1 = _ := e1; obtain ⟨a2, n2, c2, e2, -⟩ := hi7.at_ 2 (by omega); obtain rfl : v2 = _ := e2; obtain ⟨a3, n3, c3, e3, -⟩ := hi7.at_ 3 (by omega); obtain rfl : v3 = _ := e3; obtain ⟨a4, n4, c4, e4, -⟩ := hi7.at_ 4 (by omega); obtain rfl : v4 = _ := e4; obtain ⟨a5, n5, c5, e5, -⟩ := hi7.at_ 5 (by omega); obtain rfl : v5 = _ := e5; obtain ⟨a6, n6, c6, e6, -⟩ := hi7.at_ 6 (by omega); obtain rfl : v6 = _ := e6; obtain ⟨a7, n7, c7, e7, -⟩ := hi7.at_ 7 (by omega); obtain rfl : v7 = _ := e7; simp only [List.cons_append, List.nil_append]; clear hi7 hb7 k6 HIMG H6)
  obtain ⟨vs, hvs⟩ : ∃ vs : List Value, vs = [.slice a0 n0 c0, .slice a1 n1 c1, .slice a2 n2 c2, .slice a3 n3 c3, .slice a4 n4 c4, .slice a5 n5 c5, .slice a6 n6 c6, .slice a7 n7 c7] := ⟨_, rfl⟩
  obtain ⟨P, hP⟩ : ∃ P, P = w7.heap.size := ⟨_, rfl⟩
  obtain ⟨w8, hw8⟩ : ∃ w8, w8 = w7.alloc (.cells #[.slice a0 n0 c0, .slice a1 n1 c1, .slice a2 n2 c2, .slice a3 n3 c3, .slice a4 n4 c4, .slice a5 n5 c5, .slice a6 n6 c6, .slice a7 n7 c7, .string t0, .string t1] 45) := ⟨_, rfl⟩
  rw [← hw8, ← hP]
  rw [← hvs] at HI7
  have hb8 : Below w7.heap.size w7 w8 := by rw [hw8]; exact (Below.refl _ _).alloc (Nat.le_refl _) _
  have H8 := hide (H7.out.below hb8)
  have I8 : Hid (IIn w8 m6 P vs Z t0 t1) := hide ⟨by rw [hw8, hP, hvs]; exact Blk.new _ _ _, H7.out.z.out_ P (Nat.le_of_eq hP.symm), HI7.out.moves (.of_below hb8 m6)⟩
  have HVS := hide hvs
  clear hb8 hw8 hP hvs HI7 H7 k7
  have hcells : ∀ {W : World} {m : Nat → Prop}, IIn W m P vs Z t0 t1 → W.cell? ⟨P, 0, none⟩ = some (.slice a0 n0 c0) ∧ W.cell? ⟨P, 1, none⟩ = some (.slice a1 n1 c1) ∧ W.cell? ⟨P, 2, none⟩ = some (.slice a2 n2 c2) ∧ W.cell? ⟨P, 3, none⟩ = some (.slice a3 n3 c3) ∧ W.cell? ⟨P, 4, none⟩ = some (.slice a4 n4 c4) ∧ W.cell? ⟨P, 5, none⟩ = some (.slice a5 n5 c5) ∧ W.cell? ⟨P, 6, none⟩ = some (.slice a6 n6 c6) ∧ W.cell? ⟨P, 7, none⟩ = some (.slice a7 n7 c7) ∧ W.cell? ⟨P, 8, none⟩ = some (.string t0) ∧ W.cell? ⟨P, 9, none⟩ = some (.string t1) := fun h => by
    have hb := h.box
    rw [HVS.out] at hb
    exact ⟨hb.cell 0, hb.cell 1, hb.cell 2, hb.cell 3, hb.cell 4, hb.cell 5, hb.cell 6, hb.cell 7, hb.cell 8, hb.cell 9⟩
  have zfew : ∀ z, z < 8 → (Z.getD z []).length ≤ 65536 := fun z _ => Nat.le_trans (ZC.out z) (by omega)
  have k8 := H8.out.d.cell
  go_upto_region 12 with (go_at_call 20; refine (crash_any H8.out.z.dev (by rw [HQ6.out]; simp) HG6.out.sure X.K X.B kc sc X.kp X.sl H8.out.kp H8.out.sl).mono ?_; rintro e w9 ⟨rfl, m9, hd9, hm9⟩; have H9 := hide (H8.out.step hd9 hm9); have HG9 := hide (HG6.out.crash X.kp X.sl); have k9 := H9.out.d.cell; have I9 := hide (I8.out.moves hm9); clear hd9 hm9)
  obtain ⟨D9, hD9⟩ : ∃ D9, D9 = crashD D6 X.kp X.sl := ⟨_, rfl⟩
  have hi9 : imageR D9 = Z := by rw [hD9, crash_image, CRL.out]
  have ht9 : D9.T = [t0, t1] := by rw [hD9, CRT.out]
  have hs9 : D9.S = Z.map List.length := by
    rw [hD9]
    show (crashL D6 X.kp).map List.length = _
    rw [CRL.out]
  have hq9 : D9.q.length ≤ 0 := by rw [hD9]; exact Nat.le_refl _
  rw [← hD9] at H9 HG9
  have HI9 := hide hi9
  have HT9 := hide ht9
  have HS9 := hide hs9
  clear hD9 hi9 ht9 hs9 CRL CRT HQ6 H8 I8 k8 HG6
  have hdr : Below w9.heap.size w9 (w9.drewN 1) := ⟨rfl, rfl, rfl, Nat.le_refl _, fun _ _ => rfl⟩
  have I10 := hide (I9.out.moves (.of_below hdr _))
  have H10 := hide (H9.out.below hdr)
  have e0 := H9.out.d.cell
  obtain ⟨e1, e2, e3, e4, e5, e6, e7, e8, e9, e10⟩ := hcells I9.out
  clear hdr H9 I9 k9
  go_region_held3 (fun W => W.cell? ⟨Bd, 0, none⟩ = some (.pointer (some ⟨b, 0, none⟩)) ∧ W.cell? ⟨P, 0, none⟩ = some (.slice a0 n0 c0) ∧ W.cell? ⟨P, 1, none⟩ = some (.slice a1 n1 c1) ∧ W.cell? ⟨P, 2, none⟩ = some (.slice a2 n2 c2) ∧ W.cell? ⟨P, 3, none⟩ = some (.slice a3 n3 c3) ∧ W.cell? ⟨P, 4, none⟩ = some (.slice a4 n4 c4) ∧ W.cell? ⟨P, 5, none⟩ = some (.slice a5 n5 c5) ∧ W.cell? ⟨P, 6, none⟩ = some (.slice a6 n6 c6) ∧ W.cell? ⟨P, 7, none⟩ = some (.slice a7 n7 c7) ∧ W.cell? ⟨P, 8, none⟩ = some (.string t0) ∧ W.cell? ⟨P, 9, none⟩ = some (.string t1)) (go_keep) (first
    | (go_simp; go_at_call 19; refine (imageG H10.out.z.dev HG9.out.sure (Z := Z) (t0 := t0) (t1 := t1) HI9.out HT9.out ZS.out).mono ?_; rintro e w11 ⟨us, rfl, hi11, hb11⟩; have I11 := hide (I10.out.moves (.of_below hb11 _)); have H11 := hide (H10.out.below hb11); (try clear e0 e1 e2 e3 e4 e5 e6 e7 e8 e9 e10); have e0 := H11.out.d.cell; obtain ⟨e1, e2, e3, e4, e5, e6, e7, e8, e9, e10⟩ := hcells I11.out; clear hb11 H10 I10; have hal := alike_true t0 t1 (hi11.zs zfew) (I11.out.img.zs zfew); obtain ⟨x0, x1, x2, x3, x4, x5, x6, x7, rfl⟩ := list8 hi11.len; rw [HVS.out] at hal; simp only [List.cons_append, List.nil_append] at hal ⊢; have HAL := hide hal; clear hal hi11)
    | (go_simp; go_at_call 21; refine HAL.out.mono ?_; rintro e w12 ⟨rfl, hb12⟩; have I12 := hide (I11.out.moves (.of_below hb12 _)); have H12 := hide (H11.out.below hb12); (try clear e0 e1 e2 e3 e4 e5 e6 e7 e8 e9 e10); have e0 := H12.out.d.cell; obtain ⟨e1, e2, e3, e4, e5, e6, e7, e8, e9, e10⟩ := hcells I12.out; clear hb12 H11 I11))
  all_goals
    clear e0 e1 e2 e3 e4 e5 e6 e7 e8 e9 e10 HAL
    have k12 := H12.out.d.cell
    go_upto_region 15 with (go_at_call 15; refine (putSure H12.out.z.dev HG9.out 0 hq9 _ _ _ _ _ _ (by omega) _ _ H12.out.k (by omega) H12.out.ks HN.out hN0 (by omega) H12.out.d H12.out.at_).mono ?_; rintro e w14 ⟨rfl, D14, m14, hd14, hm14, hg14, hS14, hq14⟩; have H14 := hide (H12.out.step hd14 hm14); have I14 := hide (I12.out.moves hm14); have HG14 := hide hg14; have HS14 := hide (hS14.trans HS9.out); clear hd14 hm14 hg14 hS14)
    clear k12 H12 I12 HG9 HI9 HT9 HS9 hq9
    go_wp2_with fail
    have HML : Hid (∀ k, m14 k → k < w14.heap.size) := hide (fun k hk => by obtain ⟨_, _, h0⟩ := H14.out.z.dev; exact (h0.lt k hk).2)
    have HCAP : Hid (∀ z, (D14.zone z).length ≤ 16) := hide (by obtain ⟨_, _, h0⟩ := H14.out.z.dev; exact h0.ok.cap)
    go_loopw [14, 15] (fun av zv wr => ∃ I : Nat, zv = .int .i64 (I : Int) ∧ I ≤ 8 ∧ AllAt wr w14.heap.size av I D14.zone ∧ Below w14.heap.size w14 wr) (fun _ zv _ => 8 - (intOf zv).toNat)
    case atStart => exact ⟨0, rfl, by omega, AllAt.nil _ _ _, Below.refl _ _⟩
    case round =>
      obtain ⟨wa, rfl⟩ : ∃ wa : World, wa = wr := ⟨_, rfl⟩
      obtain ⟨I, rfl, hI, hall, hbel⟩ := hrel
      have HALL := hide hall
      have HBE := hide hbel
      clear hall hbel
      by_cases hlt : I < 8
      · have dI : decide ((I : Int) < 8) = true := by simp; omega
        go_wp2_with fail
        go_loopw [16, 17] (fun xv kv wr => ∃ K : Nat, kv = .int .i64 (K : Int) ∧ K ≤ (D14.zone I).length ∧ wr.ownsRow wa.heap.size 9 1 xv K (strsV ((D14.zone I).take K)) ∧ Below wa.heap.size wa wr) (fun _ kv _ => (D14.zone I).length - (intOf kv).toNat)
        case atStart => exact ⟨0, rfl, by omega, World.ownsRow_nil _ _ _ _, Below.refl _ _⟩
        case round =>
          obtain ⟨wb, rfl⟩ : ∃ wb : World, wb = wr := ⟨_, rfl⟩
          obtain ⟨K, rfl, hK, hx, hb⟩ := hrel
          have hK16 := HCAP.out I
          have HX := hide hx
          have HB := hide hb
          have HW := hide (H14.out.below (below_step HBE.out hb))
          have kd := HW.out.d.cell
          clear hx hb
          by_cases hk : K < (D14.zone I).length
          · have hrd := (read_any HW.out.z.dev (I : Int) (K : Int)).mono (fun e w' ⟨he, hw⟩ => (⟨he, hw.symm⟩ : e = _ ∧ wb = w'))
            rw [read_at D14 I K hlt hk] at hrd
            dsimp only at hrd
            rw [errZ_zero] at hrd
            obtain ⟨s, hs⟩ : ∃ s, s = (D14.zone I).getD K ⟨#[]⟩ := ⟨_, rfl⟩
            rw [← hs] at hrd
            have HRD := hide hrd
            have HS := hide hs
            clear hrd hs
            go_upto_region 24 with (go_at_call 22; refine HRD.out.mono ?_; rintro e w' ⟨rfl, rfl⟩)
            go_wp2_with (at_builtin; refine wpList_append_lies _ rfl (.tmp 90) (.tmp 92) 31 rfl wa.heap.size 9 i0 _ 1 16 Try.underlying31 hi0 hz0 hz1 hz2 rfl (by decide) _ _ _ rfl (HX.out.alloc _) ⟨wb.heap.size, 0, none⟩ 1 1 [Value.string s] rfl rfl (news_new wb _ _) (by simp [Value.oneCell']) (by decide) (by unfold maxLen; omega) (by omega) (by have := HB.out.size; simp; omega) (wb.heap.size + 1) (by simp) ?_; intro gv cv w4 hr4 hg4 _ _)
            have hb4 : Below wa.heap.size wa w4 := (HB.out.alloc HB.out.size _).grown hg4 (by have := HB.out.size; simp; omega) (fun q hq => (HX.out.lt q hq).1)
            have e4 := take_more (D14.zone I) K hk
            rw [← HS.out] at e4
            rw [e4] at hr4
            have HR4 := hide hr4
            have HB4 := hide hb4
            clear hr4 hg4 hb4 e4
            refine ⟨⟨K + 1, by go_num, by omega, HR4.out, HB4.out⟩, by simp [intOf]; omega⟩
          · have hrd := (read_any HW.out.z.dev (I : Int) (K : Int)).mono (fun e w' ⟨he, hw⟩ => (⟨he, hw.symm⟩ : e = _ ∧ wb = w'))
            rw [read_end D14 I K hlt (by omega)] at hrd
            dsimp only at hrd
            rw [errZ_ne 7 (by omega)] at hrd
            have HRD := hide hrd
            have hx2 : wb.ownsRow wa.heap.size 9 1 u16 (D14.zone I).length (strsV (D14.zone I)) := by
              have h := HX.out
              have hKe : K = (D14.zone I).length := by omega
              rw [hKe, List.take_length] at h
              exact h
            obtain ⟨xa, xc, hxe⟩ := ownsRow_slice hx2
            obtain rfl : u16 = _ := hxe
            obtain ⟨vsL, hl, hown, hj⟩ := (HALL.out.below HB.out).rows
            have HX2 := hide hx2
            have HL := hide hl
            have HOWN := hide hown
            have HJ := hide hj
            clear hrd hx2 hl hown hj
            go_upto_region 25 with (go_at_call 22; refine HRD.out.mono ?_; rintro e w' ⟨rfl, rfl⟩)
            go_wp2_with (at_builtin; refine wpList_append_lies _ rfl (.tmp 94) (.tmp 96) 49 rfl w14.heap.size 31 j0 _ 1 24 Try.underlying49 hj0 hy0 hy1 hy2 rfl (by decide) _ _ _ rfl (HOWN.out.alloc _) ⟨wb.heap.size, 0, none⟩ 1 1 [Value.slice xa (D14.zone I).length xc] rfl rfl (news_new wb _ _) (by simp [Value.oneCell']) (by decide) (by unfold maxLen; omega) (by omega) (by have := HB.out.size; have := HBE.out.size; simp; omega) (wb.heap.size + 1) (by simp) ?_; intro gv cv w4 hr4 hg4 _ _)
            have hb4 : Below w14.heap.size w14 w4 := ((below_step HBE.out HB.out).alloc (below_step HBE.out HB.out).size _).grown hg4 (by have := HB.out.size; have := HBE.out.size; simp; omega) (fun q hq => (HOWN.out.lt q hq).1)
            have hp := AllAt.push HL.out (HOWN.out.alloc _) (fun j hj => (HJ.out j hj).alloc _) ((ownsRow_mono HX2.out HBE.out.size).alloc _) hg4 hr4
            have HP := hide hp
            have HB4 := hide hb4
            clear hr4 hg4 hb4 hp
            go_wp2_with fail
            refine ⟨⟨I + 1, by go_num, by omega, HP.out, HB4.out⟩, by simp [intOf]; omega⟩
      · obtain rfl : I = 8 := by omega
        have dI : decide ((8 : Int) < 8) = false := by simp
        rw [show ((8 : Nat) : Int) = 8 from rfl]
        have H15 := hide (H14.out.below HBE.out)
        have I15 := hide (I14.out.moves (.of_below HBE.out _))
        have k15 := H15.out.d.cell
        clear H14 I14
        go_upto_region 27 with (go_at_call 20; refine (crash_any H15.out.z.dev (by omega) HG14.out.sure X.K X.B kc sc X.kp X.sl H15.out.kp H15.out.sl).mono ?_; rintro e w26 ⟨rfl, m26, hd26, hm26⟩; have H26 := hide (H15.out.step hd26 hm26); have HG26 := hide (HG14.out.crash X.kp X.sl); have k26 := H26.out.d.cell; have I26 := hide (I15.out.moves hm26); have A26 := hide (HALL.out.moves hm26 HML.out); clear hd26 hm26)
        obtain ⟨D26, hD26⟩ : ∃ D26, D26 = crashD D14 X.kp X.sl := ⟨_, rfl⟩
        obtain ⟨Y, hY⟩ : ∃ Y, Y = crashL D14 X.kp := ⟨_, rfl⟩
        obtain ⟨s0, s1, hT⟩ : ∃ t0 t1, D26.T = [t0, t1] := by
          have h2 : D26.T.length = 2 := by
            obtain ⟨_, _, h0⟩ := H26.out.z.dev
            rw [hD26]
            exact h0.ok.hT
          match hT : D26.T with
          | [x, y] => exact ⟨x, y, rfl⟩
          | [] => rw [hT] at h2; simp at h2
          | [_] => rw [hT] at h2; simp at h2
          | _ :: _ :: _ :: _ => rw [hT] at h2; simp at h2
        have hfin : ∀ z, z < 8 → ∃ k, Y.getD z [] = (D14.zone z).take k ∧ (Z.getD z []).length ≤ k ∧ k ≤ (D14.zone z).length := fun z hz => by
          obtain ⟨k, h1, h2, h3⟩ := crash_keeps HG14.out.sure X.kp z hz
          rw [← hY] at h1
          refine ⟨k, h1, ?_, h3⟩
          have e : D14.sure z = (Z.getD z []).length := by
            unfold Dv.sure
            rw [HS14.out, getD_lens]
          omega
        have zs' : ∀ z, z < 8 → ∀ s, s ∈ Y.getD z [] → s.size ≤ 65536 := fun z hz s hs => by
          obtain ⟨k, h1, _, _⟩ := hfin z hz
          rw [h1] at hs
          rw [HG14.out.pad z s (List.mem_of_mem_take hs)]
          omega
        have himg := imageG H26.out.z.dev HG26.out.sure (Z := Y) (t0 := s0) (t1 := s1) (by rw [crash_image, ← hY]) (by rw [← hD26, hT]) zs'
        have HIMG := hide himg
        have HFIN := hide hfin
        rw [← hD26] at H26 HG26
        clear himg hfin zs' hT hY hD26 H15 I15 k15 HALL
        go_upto_region 28 with (go_at_call 19; refine HIMG.out.mono ?_; rintro e w27 ⟨ys, rfl, hi27, hb27⟩; have H27 := hide (H26.out.below hb27); have I27 := hide (I26.out.moves (.of_below hb27 _)); have A27 := hide (A26.out.below hb27); have HI27 := hide hi27; obtain ⟨y0, y1, y2, y3, y4, y5, y6, y7, rfl⟩ := list8 hi27.len; obtain ⟨ya0, yn0, yc0, e0, -⟩ := hi27.at_ 0 (by omega); obtain rfl : y0 = _ := e0; obtain ⟨ya1, yn1, yc1, e1, -⟩ := hi27.at_ 1 (by omega); obtain rfl : y1 = _ := e1; obtain ⟨ya2, yn2, yc2, e2, -⟩ := hi27.at_ 2 (by omega); obtain rfl : y2 = _ := e2; obtain ⟨ya3, yn3, yc3, e3, -⟩ := hi27.at_ 3 (by omega); obtain rfl : y3 = _ := e3; obtain ⟨ya4, yn4, yc4, e4, -⟩ := hi27.at_ 4 (by omega); obtain rfl : y4 = _ := e4; obtain ⟨ya5, yn5, yc5, e5, -⟩ := hi27.at_ 5 (by omega); obtain rfl : y5 = _ := e5; obtain ⟨ya6, yn6, yc6, e6, -⟩ := hi27.at_ 6 (by omega); obtain rfl : y6 = _ := e6; obtain ⟨ya7, yn7, yc7, e7, -⟩ := hi27.at_ 7 (by omega); obtain rfl : y7 = _ := e7; simp only [List.cons_append, List.nil_append]; clear hi27 hb27 k26 HIMG H26 I26 A26)
        obtain ⟨ys, hys⟩ : ∃ ys : List Value, ys = [.slice ya0 yn0 yc0, .slice ya1 yn1 yc1, .slice ya2 yn2 yc2, .slice ya3 yn3 yc3, .slice ya4 yn4 yc4, .slice ya5 yn5 yc5, .slice ya6 yn6 yc6, .slice ya7 yn7 yc7] := ⟨_, rfl⟩
        obtain ⟨R, hR⟩ : ∃ R, R = w27.heap.size := ⟨_, rfl⟩
        obtain ⟨w28, hw28⟩ : ∃ w28, w28 = w27.alloc (.cells #[.slice ya0 yn0 yc0, .slice ya1 yn1 yc1, .slice ya2 yn2 yc2, .slice ya3 yn3 yc3, .slice ya4 yn4 yc4, .slice ya5 yn5 yc5, .slice ya6 yn6 yc6, .slice ya7 yn7 yc7, .string s0, .string s1] 45) := ⟨_, rfl⟩
        rw [← hw28, ← hR]
        rw [← hys] at HI27
        have hb28 : Below w27.heap.size w27 w28 := by rw [hw28]; exact (Below.refl _ _).alloc (Nat.le_refl _) _
        have H28 := hide (H27.out.below hb28)
        have I28 := hide (I27.out.moves (.of_below hb28 _))
        have A28 := hide (A27.out.below hb28)
        have J28 : Hid (IIn w28 m26 R ys Y s0 s1) := hide ⟨by rw [hw28, hR, hys]; exact Blk.new _ _ _, H27.out.z.out_ R (Nat.le_of_eq hR.symm), HI27.out.moves (.of_below hb28 m26)⟩
        clear hb28 hw28 hR hys HI27 H27 I27 A27
        go_wp2_with fail
        go_loopw [21] (fun zv wr => ∃ I : Nat, zv = .int .i64 (I : Int) ∧ I ≤ 8 ∧ Below w28.heap.size w28 wr) (fun zv _ => 8 - (intOf zv).toNat)
        case atStart => exact ⟨0, rfl, by omega, Below.refl _ _⟩
        case round =>
          obtain ⟨wb, rfl⟩ : ∃ wb : World, wb = wr := ⟨_, rfl⟩
          obtain ⟨I, rfl, hI, hbel⟩ := hrel
          have HB := hide hbel
          have HI := hide (I28.out.moves (.of_below hbel _))
          have HJ := hide (J28.out.moves (.of_below hbel _))
          have HA := hide (A28.out.below hbel)
          clear hbel
          by_cases hlt : I < 8
          · have dI : decide ((I : Int) < 8) = true := by simp; omega
            have iI1 : (I : Int) < 8 := by omega
            have iI0 : (0 : Int) ≤ (I : Int) := by omega
            obtain ⟨k, hf1, hf2, hf3⟩ := HFIN.out I hlt
            obtain ⟨aw, nw, cw, ew, sw, -⟩ := HI.out.img.at_ I hlt
            obtain ⟨an, nn, cn, en, sn, -⟩ := HJ.out.img.at_ I hlt
            have kw : wb.cell? ⟨P, I, none⟩ = some (.slice aw nw cw) := by rw [HI.out.box.cell, ← ew]; simp [List.getElem?_append, HI.out.img.len, hlt, List.getD]
            have kn : wb.cell? ⟨R, I, none⟩ = some (.slice an nn cn) := by rw [HJ.out.box.cell, ← en]; simp [List.getElem?_append, HJ.out.img.len, hlt, List.getD]
            obtain ⟨vsL, hl, hown, hj⟩ := HA.out.rows
            obtain ⟨xA, cA, hxe, hxc⟩ := own_parts_some hown hlt hl
            obtain rfl : u14 = _ := hxe
            obtain ⟨al, cl, hal, hkc, hnone, hst⟩ := own_front (hj I hlt) k hf3
            have ka := hxc I hlt
            rw [hal] at ka
            obtain ⟨na, hna⟩ : ∃ na, na = (D14.zone I).length := ⟨_, rfl⟩
            rw [← hna] at ka hf3 hnone
            have hnn : nn = k := by rw [sn.hn, hf1, List.length_take, ← hna]; omega
            subst hnn
            have hnw : nw ≤ nn := by rw [sw.hn]; exact hf2
            have t1 : decide (nn < nw) = false := by simpa using hnw
            have t1' : decide ((nn : Int) < (nw : Int)) = false := by simp; omega
            have t2 : decide (na < nn) = false := by simpa using hf3
            have t2' : decide ((na : Int) < (nn : Int)) = false := by simp; omega
            have hdr : Below wb.heap.size wb (wb.drewN 1) := ⟨rfl, rfl, rfl, Nat.le_refl _, fun _ _ => rfl⟩
            have he := equal_any (sn.below hdr) (hst.below hdr) (by rw [hf1, List.length_take]; have := HCAP.out I; omega)
            rw [hf1] at he
            simp only [decide_true] at he
            have HE := hide he
            have HNO := hide hnone
            have nc : (nn : Int) ≤ (cl : Int) := by omega
            have n0 : (0 : Int) ≤ (nn : Int) := by omega
            have pP : P < wb.heap.size := HI.out.box.lt
            have pR : R < wb.heap.size := HJ.out.box.lt
            clear hf1 hf2 hf3 ew sw en sn hl hown hj hxc hal hst hdr he hna hnone hnw
            go_upto_region 32 with fail
            cases al with
            | none =>
              obtain ⟨h1, h2, h3⟩ := HNO.out rfl
              subst h1 h2 h3
              go_region_held3 (fun W => W.cell? ⟨P, I, none⟩ = some (.slice aw nw cw) ∧ W.cell? ⟨R, I, none⟩ = some (.slice an 0 cn) ∧ W.cell? (xA.add I) = some (.slice none 0 0)) (go_keep) (
                (go_simp; go_at_call 23; refine HE.out.mono ?_; rintro e w30 ⟨rfl, hb30⟩; have e1 := (hb30.cell (p := ⟨P, I, none⟩) pP).trans kw; have e2 := (hb30.cell (p := ⟨R, I, none⟩) pR).trans kn; have e3 := (hb30.cell (p := xA.add I) (block_lt_of_cell ka)).trans ka; have HB30 := hide hb30; clear hb30))
              all_goals
                clear e1 e2 e3
                go_wp2_with fail
                refine ⟨⟨I + 1, by go_num, by omega, below_step HB.out ⟨HB30.out.os, HB30.out.tape, HB30.out.output, HB30.out.size, HB30.out.block⟩⟩, by simp [intOf]; omega⟩
            | some ax =>
              go_region_held3 (fun W => W.cell? ⟨P, I, none⟩ = some (.slice aw nw cw) ∧ W.cell? ⟨R, I, none⟩ = some (.slice an nn cn) ∧ W.cell? (xA.add I) = some (.slice (some ax) na cl)) (go_keep) (
                (go_simp; go_at_call 23; refine HE.out.mono ?_; rintro e w30 ⟨rfl, hb30⟩; have e1 := (hb30.cell (p := ⟨P, I, none⟩) pP).trans kw; have e2 := (hb30.cell (p := ⟨R, I, none⟩) pR).trans kn; have e3 := (hb30.cell (p := xA.add I) (block_lt_of_cell ka)).trans ka; have HB30 := hide hb30; clear hb30))
              all_goals
                clear e1 e2 e3
                go_wp2_with fail
                refine ⟨⟨I + 1, by go_num, by omega, below_step HB.out ⟨HB30.out.os, HB30.out.tape, HB30.out.output, HB30.out.size, HB30.out.block⟩⟩, by simp [intOf]; omega⟩
          · obtain rfl : I = 8 := by omega
            have dI : decide ((8 : Int) < 8) = false := by simp
            rw [show ((8 : Nat) : Int) = 8 from rfl]
            go_wp2_with fail
            go_ret
            exact ⟨rfl, below_step HB1.out (below_step HB2.out (below_step H28.out.z.bel HB.out))⟩
end Go.Proofs.Ytmligbaalbbgiaa

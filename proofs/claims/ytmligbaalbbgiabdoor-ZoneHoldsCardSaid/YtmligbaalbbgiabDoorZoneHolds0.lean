/- The walk of salternkeep.ZoneHolds: it returns true. Condition: the package errors has laid its variable. -/
import Derived.Test.YtmligbaalbbgiabDoorZoneHoldsA
import Derived.ChangeSlices
namespace Go.Proofs.YtmligbaalbbgiabDoor
open Go.RowKit

/-- Numbers that came in. -/
def NumsAt (w : World) (A : Option Addr) (ks : List Int) : Prop := 0 < ks.length → ∃ a, A = some a ∧ a.block < w.heap.size ∧ ∀ i, i < ks.length → w.cell? (a.add i) = some (.int .i64 (ks.getD i 0))
theorem NumsAt.below {w w' : World} {A : Option Addr} {ks : List Int} (h : NumsAt w A ks) (hb : Below w.heap.size w w') : NumsAt w' A ks := fun h0 => by
  obtain ⟨a, h1, h2, h3⟩ := h h0
  refine ⟨a, h1, Nat.lt_of_lt_of_le h2 hb.size, fun i hi => ?_⟩
  rw [hb.cell (p := a.add i) (by rw [Go.ChangeShapes.block_add]; exact h2)]
  exact h3 i hi

set_option maxRecDepth 100000 in
set_option maxHeartbeats 4000000 in
theorem holds_wide (w : World) (a A : Option Addr) (n c N C : Nat) (l : List ByteArray) (hst : StrsAt w a n c l) (hw : 60 < n ∨ (∃ s ∈ l, 140 < s.size) ∨ N = 0 ∨ 60 < N) :
    Calls Tryd.prog 3 #[.slice a n c, .slice A N C] w fun e w' => e = .returned (.bool true) ∧ w' = w := by
  by_cases h1 : 60 < n
  · have d1 : decide ((60 : Int) < (n : Int)) = true := by simp; omega
    have d1' : decide (60 < n) = true := by simpa using h1
    clear hw hst
    go_enter Tryd.func3, Tryd.ntmps3
    go_wp2_with fail
    go_ret
    exact ⟨rfl, rfl⟩
  · have d1 : decide ((60 : Int) < (n : Int)) = false := by simp; omega
    have d1' : decide (60 < n) = false := by simpa using h1
    have hco := containsHolds hst (by have := hst.hn; omega)
    by_cases h2 : ∀ s ∈ l, s.size ≤ 140
    · have HC : Hid (Calls Tryd.prog 10 #[.slice a n c, .func (.func 11) #[] #[]] w fun e w' => w' = w ∧ e = .returned (.bool false)) :=
        hide (hco.mono fun e w' ⟨hw', hr⟩ => ⟨hw', hr.elim (fun h => h.1) (fun h => by obtain ⟨_, s, hs, ho⟩ := h; have := h2 s hs; omega)⟩)
      by_cases h3 : N = 0
      · subst h3
        clear hw hst hco h2
        go_enter Tryd.func3, Tryd.ntmps3
        go_wp2_with (go_at_call 10; refine HC.out.mono ?_; rintro e w1 ⟨rfl, rfl⟩)
        go_ret
        exact ⟨rfl, rfl⟩
      · have h4 : 60 < N := by
          rcases hw with h | ⟨s, hs, ho⟩ | h | h
          · omega
          · have := h2 s hs; omega
          · omega
          · exact h
        have d3 : ((N : Int) == 0) = false := by simp; omega
        have d3' : (N == 0) = false := by simp; omega
        have d4 : decide ((60 : Int) < (N : Int)) = true := by simp; omega
        have d4' : decide (60 < N) = true := by simpa using h4
        clear hw hst hco h2
        go_enter Tryd.func3, Tryd.ntmps3
        go_wp2_with (go_at_call 10; refine HC.out.mono ?_; rintro e w1 ⟨rfl, rfl⟩)
        go_ret
        exact ⟨rfl, rfl⟩
    · have HC : Hid (Calls Tryd.prog 10 #[.slice a n c, .func (.func 11) #[] #[]] w fun e w' => w' = w ∧ e = .returned (.bool true)) :=
        hide (hco.mono fun e w' ⟨hw', hr⟩ => ⟨hw', hr.elim (fun h => absurd h.2 h2) (fun h => h.1)⟩)
      clear hw hst hco h2
      go_enter Tryd.func3, Tryd.ntmps3
      go_wp2_with (go_at_call 10; refine HC.out.mono ?_; rintro e w1 ⟨rfl, rfl⟩)
      go_ret
      exact ⟨rfl, rfl⟩

set_option maxRecDepth 100000 in
set_option maxHeartbeats 8000000 in
theorem holds_good (w : World) (a A : Option Addr) (n c N C : Nat) (l : List ByteArray) (ks : List Int) (hst : StrsAt w a n c l) (hks : NumsAt w A ks) (hN : N = ks.length) (hn : n ≤ 60) (hl : ∀ s ∈ l, s.size ≤ 140) (hN0 : N ≠ 0) (hN60 : N ≤ 60) (hE : LaidE w) :
    Calls Tryd.prog 3 #[.slice a n c, .slice A N C] w fun e w' => e = .returned (.bool true) ∧ Below w.heap.size w w' := by
  obtain ⟨i0, hi0, hz0, hz1, hz2⟩ := info_parts info_str
  have d1 : decide ((60 : Int) < (n : Int)) = false := by simp; omega
  have d1' : decide (60 < n) = false := by simp; omega
  have d3 : ((N : Int) == 0) = false := by simp; omega
  have d3' : (N == 0) = false := by simp; omega
  have d4 : decide ((60 : Int) < (N : Int)) = false := by simp; omega
  have d4' : decide (60 < N) = false := by simp; omega
  have hco := containsHolds hst (by have := hst.hn; omega)
  have HC : Hid (Calls Tryd.prog 10 #[.slice a n c, .func (.func 11) #[] #[]] w fun e w' => w = w' ∧ e = .returned (.bool false)) :=
    hide (hco.mono fun e w' ⟨hw', hr⟩ => ⟨hw'.symm, hr.elim (fun h => h.1) (fun h => by obtain ⟨_, s, hs, ho⟩ := h; have := hl s hs; omega)⟩)
  have HST := hide hst
  have HKS := hide hks
  have HN := hide hN
  have HL := hide hl
  have HE := hide hE
  clear hst hks hN hl hE hco
  go_enter Tryd.func3, Tryd.ntmps3
  go_wp2_with (first
    | (go_at_call 10; refine HC.out.mono ?_; rintro e w1 ⟨rfl, rfl⟩)
    | (go_at_call 12; refine (zoned_any _).mono ?_; rintro e w2 ⟨rfl, hb2⟩; have HB2 := hide hb2; clear hb2)
    | (go_at_call 13; refine (znew_any _).mono ?_; rintro e w3 ⟨m3, rfl, hd3, hb3⟩; have HZ3 := hide (ZIn.mk hd3 hb3); clear hd3 hb3))
  obtain ⟨b, hb⟩ : ∃ b, b = w2.heap.size := ⟨_, rfl⟩
  obtain ⟨h, hh⟩ : ∃ h, h = w3.heap.size := ⟨_, rfl⟩
  obtain ⟨w4, hw4⟩ : ∃ w4, w4 = w3.alloc (.cells #[.slice none 0 0, .slice none 0 0, .slice none 0 0, .slice none 0 0, .slice none 0 0, .slice none 0 0, .slice none 0 0, .slice none 0 0] 29) := ⟨_, rfl⟩
  rw [← hw4, ← hb, ← hh]
  have hH : HIn w2 w4 b h newD m3 (fun k => k = h) [nilS, nilS, nilS, nilS, nilS, nilS, nilS, nilS] := by
    have hb4 : Below w3.heap.size w3 w4 := by rw [hw4]; exact (Below.refl _ _).alloc (Nat.le_refl _) _
    have hB4 : Blk w4 h 29 #[nilS, nilS, nilS, nilS, nilS, nilS, nilS, nilS] := by rw [hw4, hh]; exact Blk.new _ _ _
    have hz : ∀ z, ([nilS, nilS, nilS, nilS, nilS, nilS, nilS, nilS] : List Value).getD z nilS = nilS := fun z => by
      rcases z with _ | _ | _ | _ | _ | _ | _ | _ | z <;> rfl
    have hl : ∀ z, (newD.L).getD z [] = [] := fun z => by
      rcases z with _ | _ | _ | _ | _ | _ | _ | _ | z <;> rfl
    rw [← hb] at HZ3
    refine ⟨HZ3.out.below hb4, ⟨hB4, ⟨rfl, fun z _ => ?_, fun z _ g hg => ?_, fun z j _ _ _ g hg => ?_⟩, rfl, rfl, fun k hk => ?_⟩, fun k hk hc => ?_, rfl⟩
    · rw [hz, hl]; exact World.ownsRow_nil _ _ _ _
    · rw [hz] at hg; cases hg
    · rw [hz] at hg; cases hg
    · have e : k = h := hk
      rw [e]
      exact ⟨by rw [hh]; exact HZ3.out.bel.size, hB4.lt⟩
    · have e : k = h := hc
      exact HZ3.out.out_ k (by rw [e, hh]; exact Nat.le_refl _) hk
  have HH := hide hH
  have HBI := hide hb
  clear hH hw4 hh hb HZ3
  go_loopw [7] (fun i wr => ∃ (I : Nat) (D : Dv) (m m2 : Nat → Prop) (zs : List Value), i = .int .i64 (I : Int) ∧ I ≤ n ∧ HIn w2 wr b h D m m2 zs) (fun i _ => n - (intOf i).toNat)
  case atStart => exact ⟨0, newD, m3, _, _, rfl, by omega, HH.out⟩
  case round =>
    clear HH
    obtain ⟨I, D, m, m2, zs, rfl, hI, hin⟩ := hrel
    have HIN := hide hin
    have hbw : Below w.heap.size w wr := below_step HB2.out hin.z.bel
    by_cases hlt : I < n
    · have d0 : decide (I < n) = true := by simpa using hlt
      have hst := HST.out.below hbw
      have hIl : I < l.length := by rw [← hst.hn]; exact hlt
      obtain ⟨x, rfl⟩ : ∃ x, a = some x := by
        cases a with
        | none => have := (hst.hz rfl).1; omega
        | some x => exact ⟨x, rfl⟩
      have cx := hst.hcell x rfl I hIl
      obtain ⟨s, hs⟩ : ∃ s, s = l.getD I ⟨#[]⟩ := ⟨_, rfl⟩
      rw [← hs] at cx
      have hsl : s.size ≤ 140 := HL.out s (by rw [hs, List.getD, List.getElem?_eq_getElem hIl]; exact List.getElem_mem _)
      obtain ⟨y, rfl, hylt, hyc⟩ := (HKS.out.below hbw) (by rw [← HN.out]; omega)
      obtain ⟨r, hr⟩ : ∃ r, r = I % N := ⟨_, rfl⟩
      have hrN : r < N := by rw [hr]; exact Nat.mod_lt _ (by omega)
      have hrem : (I : Int).tmod (N : Int) = (r : Int) := by rw [Int.tmod_eq_emod_of_nonneg (by omega), hr]; exact (Int.natCast_emod I N).symm
      have cy := hyc r (by rw [← HN.out]; exact hrN)
      obtain ⟨v, hv⟩ : ∃ v, v = ks.getD r 0 := ⟨_, rfl⟩
      rw [← hv] at cy
      have ir1 : (r : Int) < (N : Int) := by omega
      have ir0 : (0 : Int) ≤ (r : Int) := by omega
      have hxlt := hst.hlt x rfl (by omega)
      have HYL := hide hylt
      have HXL := hide hxlt
      have HCX := hide cx
      have HSL := hide hsl
      have HBW := hide hbw
      have HS := hide hs
      have HIL := hide hIl
      clear hin hbw hst hs hsl hyc hylt hv hr hxlt
      go_upto_region 11 with (go_at_call 14; refine (pick_any _ _).mono ?_; rintro e w5 ⟨rfl, Z, hZ, rfl⟩)
      have iZ1 : (Z : Int) < 8 := by omega
      have iZ0 : (0 : Int) ≤ (Z : Int) := by omega
      have hdev := HIN.out.z.dev
      have hf := HIN.out.f
      have hc16 : (D.zone Z).length ≤ 16 := by obtain ⟨_, _, h0⟩ := hdev; exact h0.ok.cap Z
      have ha := append_any hdev (Z : Int) s
      have hE5 := HE.out.below HBW.out
      have HE5 := hide hE5
      by_cases hc1 : 128 < s.size
      · have d1 : decide ((128 : Int) < (s.size : Int)) = true := by simp; omega
        have d1' : decide (128 < s.size) = true := by simpa using hc1
        have e : appendR D (Z : Int) s = (D, 0, 4) := by unfold appendR; rw [if_neg (by omega), if_pos hc1]
        rw [e] at ha
        dsimp only at ha
        rw [errZ_ne 4 (by omega)] at ha
        have HA := hide ha
        clear ha e hdev hf hc16 hE5
        go_wp2_with (first
          | (go_at_call 15; refine HA.out.mono ?_; rintro e w6 ⟨rfl, m6, hd6, hm6⟩; obtain ⟨g1, g2, g3⟩ := HIN.out.append hd6 hm6; have HN6 : Hid (HIn w2 w6 b h D m6 m2 zs) := hide ⟨g1, g2, g3, HIN.out.f⟩; have HE6 := hide (HE.out.below (below_step HB2.out g1.bel)); have cx6 := ((HST.out.below (below_step HB2.out g1.bel)).hcell x rfl I HIL.out); rw [← HS.out] at cx6; clear hd6 hm6 g1 g2 g3)
          | (go_at_call 16; refine (tell_errno 4 _ HE6.out).mono ?_; rintro e w7 ⟨rfl, hb7⟩; have HN7 := hide (HN6.out.below hb7); clear hb7))
        refine ⟨⟨I + 1, D, _, m2, zs, by go_num, by omega, HN7.out⟩, by simp [intOf]; omega⟩
      · have d1 : decide ((128 : Int) < (s.size : Int)) = false := by simp; omega
        have d1' : decide (128 < s.size) = false := by simpa using hc1
        by_cases hc2 : (D.zone Z).length = 16
        · have e : appendR D (Z : Int) s = (D, 0, 12) := by unfold appendR; rw [if_neg (by omega), if_neg hc1, if_pos (by simpa using hc2)]
          rw [e] at ha
          dsimp only at ha
          rw [errZ_ne 12 (by omega)] at ha
          have HA := hide ha
          have HC2 : Hid ((D.L.getD Z []).length = 16) := hide hc2
          clear ha e hdev hf hc16 hE5 hc2
          go_wp2_with (first
            | (go_at_call 15; refine HA.out.mono ?_; rintro e w6 ⟨rfl, m6, hd6, hm6⟩; obtain ⟨g1, g2, g3⟩ := HIN.out.append hd6 hm6; have HN6 : Hid (HIn w2 w6 b h D m6 m2 zs) := hide ⟨g1, g2, g3, HIN.out.f⟩; have HE6 := hide (HE.out.below (below_step HB2.out g1.bel)); have cx6 := ((HST.out.below (below_step HB2.out g1.bel)).hcell x rfl I HIL.out); rw [← HS.out] at cx6; obtain ⟨a6, cap6, hf6⟩ := g2.form Z hZ; have kz6 := g2.cellZ Z hZ; rw [hf6, HC2.out] at kz6; clear hd6 hm6 g1 g2 g3 hf6)
            | (go_at_call 16; refine (tell_errno 12 _ HE6.out).mono ?_; rintro e w7 ⟨rfl, hb7⟩; have HN7 := hide (HN6.out.below hb7); clear hb7))
          refine ⟨⟨I + 1, D, _, m2, zs, by go_num, by omega, HN7.out⟩, by simp [intOf]; omega⟩
        · obtain ⟨q, hq⟩ : ∃ q, q = (D.zone Z).length := ⟨_, rfl⟩
          have dq : ((q : Int) == 16) = false := by simp; omega
          have dq' : (q == 16) = false := by simp; omega
          have hbn : D.burn = D := by unfold Dv.burn; rw [if_neg (by omega)]
          have e : appendR D (Z : Int) s = ({ D with L := D.L.set Z (D.zone Z ++ [padB s 128]) }, (q : Int), 0) := by
            unfold appendR; rw [if_neg (by omega), if_neg hc1, if_neg (by simpa using hc2), if_neg (by omega), hbn, hq]; simp
          rw [e] at ha
          dsimp only at ha
          rw [errZ_zero] at ha
          obtain ⟨D', hD'⟩ : ∃ D' : Dv, D' = { D with L := D.L.set Z (D.zone Z ++ [padB s 128]) } := ⟨_, rfl⟩
          rw [← hD'] at ha
          obtain ⟨v, hv⟩ : ∃ v, v = zs.getD Z nilS := ⟨_, rfl⟩
          obtain ⟨a6, cap6, hf6⟩ := HIN.out.want.form Z hZ
          have hvf : v = .slice a6 q cap6 := by rw [hv, hf6, hq]; rfl
          have HA := hide ha
          have HD' := hide hD'
          have HQ := hide hq
          have HV := hide hv
          have HVF := hide hvf
          have HQ16 : Hid (q < 16) := hide (by omega)
          clear ha e hdev hf hc16 hE5 hc2 hbn hD' hv hf6 hvf hq
          go_upto_region 14 with (first
            | (go_at_call 15; refine HA.out.mono ?_; rintro e w6 ⟨rfl, m6, hd6, hm6⟩; obtain ⟨g1, g2, g3⟩ := HIN.out.append hd6 hm6; have G1 := hide g1; have G2 := hide g2; have G3 := hide g3; have cx6 := ((HST.out.below (below_step HB2.out g1.bel)).hcell x rfl I HIL.out); rw [← HS.out] at cx6; have kz6 := g2.cellZ Z hZ; rw [← HV.out, HVF.out] at kz6; clear hd6 hm6 g1 g2 g3))
          obtain ⟨cN, hcN⟩ : ∃ cN, cN = 128 - s.size := ⟨_, rfl⟩
          have w1 : wrap64 ((128 : Int) - (s.size : Int)) = (cN : Int) := by simp only [wrap64]; omega
          have w1' : IntKind.i64.wrap ((128 : Int) - (s.size : Int)) = (cN : Int) := by simp [IntKind.wrap, IntKind.bits, IntKind.signed]; omega
          have hcle : cN ≤ 65536 := by omega
          obtain ⟨R, hR⟩ : ∃ R, R = ofl (List.replicate cN 0) := ⟨_, rfl⟩
          have hSR : s ++ R = padB s 128 := by
            apply bl_inj
            have e1 : bl (s ++ R) = bl s ++ List.replicate cN 0 := by rw [hR]; simp [bl, ofl]
            have e2 : bl (padB s 128) = (bl s ++ List.replicate 128 0).take 128 := rfl
            have e3 : (bl s).length = s.size := bl_length s
            rw [e1, e2, List.take_append, e3, List.take_of_length_le (by omega), List.take_replicate, Nat.min_eq_left (by omega), hcN]
          have hsz : s.size + R.size ≤ 65536 := by rw [hR, ofl_size, List.length_replicate]; omega
          have k1 : ¬ 9223372036854775807 < s.size + R.size := by omega
          have kb6 : h < w6.heap.size := G2.out.blk.lt
          have xb6 : (x.add I).block < w6.heap.size := block_lt_of_cell cx6
          have HSR := hide hSR
          have HRD := hide hR
          have HB26 : Hid (w2.heap.size ≤ w6.heap.size) := hide G1.out.bel.size
          have HQ2 : Hid ((D.L.getD Z []).length = q) := hide HQ.out.symm
          clear hR hSR hcN
          go_region_law (first
            | (go_simp; go_at_call 17; refine (repeatZ _ cN rfl hcle _).mono ?_; rintro e w8 ⟨rfl, hb8⟩; rw [← HRD.out]; have HB8 := hide hb8; have kz8 : w8.cell? ⟨h, Z, none⟩ = some (Value.slice a6 q cap6) := (hb8.cell (p := ⟨h, Z, none⟩) kb6).trans kz6; have cx8 : w8.cell? (x.add I) = some (.string s) := (hb8.cell (p := x.add I) xb6).trans cx6; have kb8 : h < w8.heap.size := Nat.lt_of_lt_of_le kb6 hb8.size; have xb8 : (x.add I).block < w8.heap.size := Nat.lt_of_lt_of_le xb6 hb8.size; clear hb8)
            | (refine step_append_lies _ (by rfl) _ _ _ (by rfl) w2.heap.size 9 i0 _ 1 16 Tryd.underlying22 hi0 hz0 hz1 hz2 rfl (by omega) (.slice a6 q cap6) (D.L.getD Z []).length (strsV (D.L.getD Z [])) (by rfl) (by rw [← HVF.out, HV.out]; exact G2.out.rowAfter Z hZ HB8.out _) ⟨w8.heap.size, 0, none⟩ 1 1 [.string (s ++ R)] (by rfl) (by rfl) (World.news_of_block (fr := (0, 0)) (heap_alloc_new w8 _)) (by simp [Value.oneCell']) (by omega) (by unfold maxLen; have := HQ16.out; have := HQ2.out; omega) (by have := HQ16.out; have := HQ2.out; omega) (by have := HB26.out; have := HB8.out.size; simp at *; omega) (w8.heap.size + 1) (by simp) ?_; intro gg cp w9 hown9 hgrow9 hat9 hlt9; rw [← HVF.out, HV.out] at hgrow9 hat9; rw [HSR.out] at hown9; obtain ⟨e1, e2, m2', zs', e3⟩ := want_end D.L ⟨G1.out.dev.drewN 1, G1.out.bel.drew⟩ (G2.out.same (fun _ _ => rfl) (Nat.le_refl _)) G3.out Z hZ HB8.out _ gg cp (padB s 128) (by rw [HD'.out]; rfl) (by rw [HD'.out]; exact HIN.out.f) hown9 hgrow9 hat9; have E3 := hide e3; clear e3 hown9 hgrow9 hat9 hlt9))
          all_goals
            clear e1 e2 HB8
            go_wp2_with fail
            refine ⟨⟨I + 1, D', m6, m2', zs', by go_num, by omega, E3.out⟩, by simp [intOf]; omega⟩
    · obtain rfl : I = n := by omega
      have d0 : decide (I < I) = false := by simp
      have HBW := hide hbw
      clear hin hbw hlt hI
      go_wp2_with fail
      go_loopw [11] (fun i wr => ∃ Z : Nat, i = .int .i64 (Z : Int) ∧ Z ≤ 8 ∧ HIn w2 wr b h D m m2 zs) (fun i _ => 8 - (intOf i).toNat)
      case atStart => exact ⟨0, rfl, by omega, HIN.out⟩
      case round =>
        clear HIN HBW
        obtain ⟨Z, rfl, hZ8, hin⟩ := hrel
        by_cases hZ : Z < 8
        · have d1 : decide ((Z : Int) < 8) = true := by simp; omega
          have iZ1 : (Z : Int) < 8 := by omega
          have iZ0 : (0 : Int) ≤ (Z : Int) := by omega
          obtain ⟨q, hq⟩ : ∃ q, q = (D.zone Z).length := ⟨_, rfl⟩
          have hc16 : q ≤ 16 := by obtain ⟨_, _, h0⟩ := hin.z.dev; rw [hq]; exact h0.ok.cap Z
          obtain ⟨a6, cap6, hf6⟩ := hin.want.form Z hZ
          have kz := hin.want.cellZ Z hZ
          have hzq : (D.L.getD Z []).length = q := hq.symm
          rw [hf6, hzq] at kz
          have e1 : atR D (Z : Int) = ((q : Int), 0) := by unfold atR; rw [if_neg (by omega), hq]; simp
          have hat := at_any hin.z.dev (Z : Int)
          rw [e1] at hat
          dsimp only at hat
          rw [errZ_zero] at hat
          have HAT := hide (hat.mono fun e w' ⟨he, hw⟩ => (⟨hw.symm, he⟩ : wr = w' ∧ e = _))
          have e2 : readR D (Z : Int) (q : Int) = (⟨#[]⟩, 7) := by unfold readR; rw [if_neg (by omega), if_pos (.inr (by simp [hq]))]
          have hre := read_any hin.z.dev (Z : Int) (q : Int)
          rw [e2] at hre
          dsimp only at hre
          rw [errZ_ne 7 (by omega)] at hre
          have HRE := hide (hre.mono fun e w' ⟨he, hw⟩ => (⟨hw.symm, he⟩ : wr = w' ∧ e = _))
          have hrd : ∀ J, J < q → Calls Tryd.prog 19 #[.pointer (some ⟨b, 0, none⟩), .int .i64 (Z : Int), .int .i64 (J : Int)] wr fun e w' => wr = w' ∧ e = .returned (.tuple #[.string ((D.zone Z).getD J ⟨#[]⟩), .nilIface]) := fun J hJ => by
            have e3 : readR D (Z : Int) (J : Int) = ((D.zone Z).getD J ⟨#[]⟩, 0) := by unfold readR; rw [if_neg (by omega), if_neg (by simp; omega)]; simp
            have h3 := read_any hin.z.dev (Z : Int) (J : Int)
            rw [e3] at h3
            exact h3.mono fun e w' ⟨he, hw⟩ => ⟨hw.symm, he⟩
          have hcell : ∀ J, J < q → ∃ g, a6 = some ⟨g, 0, none⟩ ∧ wr.cell? ⟨g, J, none⟩ = some (.string ((D.zone Z).getD J ⟨#[]⟩)) := fun J hJ => by
            obtain ⟨g, cap, h1, h2⟩ := own_at (hin.want.rows.row Z hZ) J (by rw [hzq]; exact hJ)
            rw [hf6] at h1
            injection h1 with h1 _ _
            exact ⟨g, h1, h2⟩
          have HRD := hide hrd
          have HCELL := hide hcell
          have HIN := hide hin
          have HE5 := hide (HE.out.below (below_step HB2.out hin.z.bel))
          clear hin hq hf6 hzq e1 hat e2 hre hrd hcell
          go_wp2_with (go_at_call 18; refine HAT.out.mono ?_; rintro e w6 ⟨rfl, rfl⟩)
          go_loopw [14] (fun j wr' => ∃ J : Nat, j = .int .i64 (J : Int) ∧ J ≤ q ∧ wr' = wr) (fun j _ => q - (intOf j).toNat)
          case atStart => exact ⟨0, rfl, by omega, rfl⟩
          case round =>
            obtain ⟨J, rfl, hJ, rfl⟩ := hrel
            by_cases hlt2 : J < q
            · have d2 : decide (J < q) = true := by simpa using hlt2
              obtain ⟨g, rfl, hcx⟩ := HCELL.out J hlt2
              obtain ⟨s, hs⟩ : ∃ s, s = (D.zone Z).getD J ⟨#[]⟩ := ⟨_, rfl⟩
              have hr2 := HRD.out J hlt2
              rw [← hs] at hcx hr2
              have HR2 := hide hr2
              clear hs hr2
              go_wp2_with (go_at_call 19; refine HR2.out.mono ?_; rintro e w7 ⟨rfl, rfl⟩)
              refine ⟨⟨J + 1, by go_num, by omega, trivial⟩, by simp [intOf]; omega⟩
            · obtain rfl : J = q := by omega
              have d2 : decide (J < J) = false := by simp
              go_wp2_with (first
                | (go_at_call 19; refine HRE.out.mono ?_; rintro e w7 ⟨rfl, rfl⟩)
                | (go_at_call 16; refine (tell_errno 7 _ HE5.out).mono ?_; rintro e w8 ⟨rfl, hb8⟩; have HN8 := hide (HIN.out.below hb8); clear hb8))
              refine ⟨⟨Z + 1, by go_num, by omega, HN8.out⟩, by simp [intOf]; omega⟩
        · obtain rfl : Z = 8 := by omega
          have d1 : decide ((8 : Int) < 8) = false := by simp
          rw [show ((8 : Nat) : Int) = 8 from rfl]
          have HIN := hide hin
          clear hin
          go_wp2_with fail
          go_ret
          exact ⟨rfl, below_step HB2.out HIN.out.z.bel⟩

theorem holds_any (w : World) (a A : Option Addr) (n c N C : Nat) (l : List ByteArray) (ks : List Int) (hst : StrsAt w a n c l) (hks : NumsAt w A ks) (hN : N = ks.length) (hE : LaidE w) :
    Calls Tryd.prog 3 #[.slice a n c, .slice A N C] w fun e w' => e = .returned (.bool true) ∧ Below w.heap.size w w' := by
  by_cases h1 : 60 < n
  · exact (holds_wide w a A n c N C l hst (.inl h1)).mono fun e w' ⟨he, hw⟩ => ⟨he, hw ▸ Below.refl _ _⟩
  · by_cases h2 : ∀ s ∈ l, s.size ≤ 140
    · by_cases h3 : N = 0
      · exact (holds_wide w a A n c N C l hst (.inr (.inr (.inl h3)))).mono fun e w' ⟨he, hw⟩ => ⟨he, hw ▸ Below.refl _ _⟩
      · by_cases h4 : 60 < N
        · exact (holds_wide w a A n c N C l hst (.inr (.inr (.inr h4)))).mono fun e w' ⟨he, hw⟩ => ⟨he, hw ▸ Below.refl _ _⟩
        · exact holds_good w a A n c N C l ks hst hks hN (by omega) h2 h3 (by omega) hE
    · have hx : ∃ s ∈ l, 140 < s.size := Classical.byContradiction fun hc => h2 fun s hs => Nat.le_of_not_lt fun ho => hc ⟨s, hs, ho⟩
      exact (holds_wide w a A n c N C l hst (.inr (.inl hx))).mono fun e w' ⟨he, hw⟩ => ⟨he, hw ▸ Below.refl _ _⟩
end Go.Proofs.YtmligbaalbbgiabDoor

/- The reference's lose, with the functions of Sync. Conditions: a device lies at the receiver; what the two functions answer; at most 65536 writes wait. -/
import Derived.Test.YtmligbaalbbgiabDoorRefLoseS
namespace Go.Proofs.YtmligbaalbbgiabDoor
open Go.RowKit

set_option maxRecDepth 100000 in
set_option maxHeartbeats 4000000 in
theorem lose_sync {w : World} {base b : Nat} {D : Dv} {m : Nat → Prop} (h : RDev w base b D m) (hl : D.q.length ≤ 65536) (hsu : D.SureOk) (κ : Nat → Nat) (σ : Nat → Bool) (hκ : ∀ z, κ z ≤ 16)
    (hkc : ∀ (W : World) (m' : Nat → Prop), Moves w W m m' → ∀ I : Nat, I < 8 → Calls Tryd.prog 90 #[.int .i64 (I : Int)] W fun e w' => e = .returned (.int .i64 (κ I : Int)) ∧ W = w')
    (hsc : ∀ (W : World) (m' : Nat → Prop), Moves w W m m' → ∀ J : Nat, J < 65536 → Calls Tryd.prog 91 #[.int .i64 (J : Int)] W fun e w' => e = .returned (.bool (σ J)) ∧ W = w') :
    Calls Tryd.prog 89 #[.pointer (some ⟨b, 0, none⟩), .func (.func 90) #[] #[], .func (.func 91) #[] #[]] w fun e w' => e = .returned (.tuple #[]) ∧ ∃ m', RDev w' base b (loseD D κ σ) m' ∧ Moves w w' m m' := by
  have H := hide h
  have HLB := hide hl
  have HSU := hide hsu
  have HKC := hide hkc
  have HSC := hide hsc
  have HKA := hide hκ
  have HOK : Hid D.Ok := hide (by obtain ⟨_, _, _, h0⟩ := h; exact h0.ok)
  clear h hl hsu hkc hsc hκ
  go_enter Tryd.func89, Tryd.ntmps89
  go_wp2_with fail
  go_loopw [10] (fun i wr => ∃ I : Nat, i = .int .i64 (I : Int) ∧ I ≤ 8 ∧ ∃ m', RDev wr base b (loseAt D κ I) m' ∧ Moves w wr m m') (fun i _ => 8 - (intOf i).toNat)
  case atStart => exact ⟨0, rfl, by omega, m, by unfold loseAt; rw [mixL_zero, mixL_zero]; exact H.out, Moves.refl _ _⟩
  case round =>
    clear H
    obtain ⟨I, rfl, hI, m2, h2, hm2⟩ := hrel
    have HM2 := hide hm2
    clear hm2
    by_cases hlt : I < 8
    · have d1 : decide ((I : Int) < 8) = true := by simp; omega
      have i1 : (I : Int) < 8 := by omega
      have i2 : (0 : Int) ≤ (I : Int) := by omega
      obtain ⟨zs, av, wv, h3⟩ := h2
      obtain ⟨a, cap, hf⟩ := h3.form I hlt
      rw [loseAt_zone D κ I hlt] at hf
      obtain ⟨n, hn⟩ : ∃ n, n = (D.zone I).length := ⟨_, rfl⟩
      obtain ⟨S, hS⟩ : ∃ S, S = D.sure I := ⟨_, rfl⟩
      obtain ⟨K, hK⟩ : ∃ K, K = κ I := ⟨_, rfl⟩
      have hSn : S ≤ n := by rw [hS, hn]; exact HSU.out I
      have hn16 : n ≤ 16 := by rw [hn]; exact HOK.out.cap I
      have hK16 : K ≤ 16 := by rw [hK]; exact HKA.out I
      have k1 := h3.cellZ I hlt
      have k2 : wr.cell? ⟨b, 8 + I, none⟩ = some (.int .i64 (S : Int)) := by rw [hS, ← loseAt_sure D κ I hlt]; exact h3.cellS I hlt
      have f2 := h3.blk.frozen (8 + I)
      have kb := h3.blk.lt
      have hr := h3.rows.row I hlt
      have hz : (loseAt D κ I).L.getD I [] = D.zone I := loseAt_zone D κ I hlt
      rw [hf, hz, ← hn] at hr
      rw [hf, ← hn] at k1
      have hst : StrsAt wr a n cap (D.zone I) := StrsAt.of_own hr hn
      obtain ⟨k, hk⟩ : ∃ k, k = S + K := ⟨_, rfl⟩
      have hw : IntKind.i64.wrap ((S : Int) + (K : Int)) = (k : Int) := by simp [IntKind.wrap, IntKind.bits, IntKind.signed]; omega
      have hw2 : wrap64 ((S : Int) + (K : Int)) = (k : Int) := by simp only [wrap64]; omega
      have hc := HKC.out _ _ (HM2.out.drewN 1) I hlt
      rw [← hK] at hc
      have hl2 : (loseL D κ).getD I [] = (D.zone I).take k := by rw [loseL_at D κ I hlt, hk, hS, hK]
      have hnext := fun (v : Nat) (hv : v = ((D.zone I).take k).length) => loseAt_next D κ I hlt HOK.out.hL HOK.out.hS ((D.zone I).take k) hl2 v hv
      have HNX := hide hnext
      have HC := hide hc
      have H3 := hide h3
      have HST := hide hst
      have HN := hide hn
      have HKK := hide hk
      have HF := hide hf
      clear hc hr hz hK hS hk hst h3 hnext hl2 hn hf
      have hk32 : k ≤ 32 := by have := HKK.out; omega
      go_upto_region 3 with fail
      go_region_held3 (fun W => W.cell? ⟨b, 8 + I, none⟩ = some (.int .i64 (S : Int))) (go_keep) (
        (go_simp; go_at_call 90; refine HC.out.mono ?_; rintro e w5 ⟨rfl, rfl⟩))
      all_goals
        obtain ⟨w5, hw5⟩ : ∃ w5, w5 = wr.drewN 1 := ⟨_, rfl⟩
        have H5 : Hid (RDevAt w5 base b (loseAt D κ I) m2 zs av wv) := hide (by rw [hw5]; exact H3.out.drewN 1)
        have HM5 : Hid (Moves w w5 m m2) := hide (by rw [hw5]; exact HM2.out.drewN 1)
        have HST5 : Hid (StrsAt w5 a n cap (D.zone I)) := hide (by rw [hw5]; exact ⟨HST.out.hn, HST.out.hc, HST.out.hz, HST.out.hlt, HST.out.hcell⟩)
        have k15 : w5.cell? ⟨b, I, none⟩ = some (.slice a n cap) := by rw [hw5]; exact k1
        have k25 : w5.cell? ⟨b, 8 + I, none⟩ = some (.int .i64 (S : Int)) := by rw [hw5]; exact k2
        have f25 : w5.frozen? ⟨b, 8 + I, none⟩ = false := H5.out.blk.frozen (8 + I)
        have kb5 : b < w5.heap.size := H5.out.blk.lt
        rw [← hw5]
        clear hw5 H3 HM2 HST HC k1 k2 f2 kb
        by_cases hkn : k < n
        · have d2 : decide (k < n) = true := by simpa using hkn
          have d2' : decide ((k : Int) < (n : Int)) = true := by simp; omega
          have hcap : (k : Int) ≤ (cap : Int) := by have := HST5.out.hc; omega
          have ik0 : (0 : Int) ≤ (k : Int) := by omega
          obtain ⟨x, rfl⟩ : ∃ x, a = some x := by
            cases a with
            | none => have := (HST5.out.hz rfl).1; omega
            | some x => exact ⟨x, rfl⟩
          have hst2 : StrsAt w5 (some x) k cap ((D.zone I).take k) := HST5.out.take k (by omega)
          have HS2 := hide hst2
          have hl3 : ((D.zone I).take k).length = k := by rw [List.length_take, ← HN.out]; omega
          have HL3 := hide hl3
          clear hst2 hl3 k25
          go_upto_region 5 with fail
          go_region_law ((refine step_strs (v := .slice (some ⟨w5.heap.size, 0, none⟩) 0 0) (n := 0) (l0 := []) (A := some x) (k := k) (cap := cap) (l := (D.zone I).take k) (by rfl) _ _ (by rfl) w5.heap.size (by rfl) (World.ownsRow_made _ _ 0 (Nat.le_refl _) (by decide) rfl).drew (by rfl) (HS2.out.below ((Below.refl _ _).alloc (Nat.le_refl _) _)).drew (by omega) (by simp) ?_; intro vA wA hownA hgA hatA; rw [Nat.zero_add, List.nil_append] at hownA; obtain ⟨aA, cA, hvA⟩ := own_form hownA; subst hvA; have hb3 := rchain0 hgA; obtain ⟨e1, e2, e3, e4⟩ := rzone_end H5.out I hlt hb3 (.slice aA k cA) ((D.zone I).take k) (by rw [HL3.out]; omega) (by rw [HL3.out]; exact hownA); have E3 := hide e3; have E4 := hide e4; clear e3 e4 hownA hgA hatA hb3))
          all_goals
            have hsame := World.cell?_setCell_same wA ⟨b, I, none⟩ (.slice aA k cA) e1
            obtain ⟨w6, hw6⟩ : ∃ w6, w6 = wA.setCell ⟨b, I, none⟩ (.slice aA k cA) := ⟨_, rfl⟩
            rw [← hw6] at hsame E3 E4
            rw [← hw6]
            have k6 : w6.cell? ⟨b, 8 + I, none⟩ = some (natV ((loseAt D κ I).sure I)) := E3.out.cellS I hlt
            have f6 := E3.out.blk.frozen (8 + I)
            have e8 := E3.out.setS I k hlt
            have e9 : RDev (w6.setCell ⟨b, 8 + I, none⟩ (.int .i64 (k : Int))) base b (loseAt D κ (I + 1)) (plus m2 w5.heap.size wA.heap.size) := by
              rw [← HNX.out k HL3.out.symm]
              exact ⟨_, _, _, e8⟩
            have hm9 := (HM5.out.trans E4.out).trans (Moves.setCell w6 _ (p := ⟨b, 8 + I, none⟩) E3.out.own (.int .i64 (k : Int)))
            have E9 := hide e9
            have HM9 := hide hm9
            clear e8 e9 hm9 hw6 E3 E4 H5 HM5 HST5 HS2 e1 e2 k15 f25 kb5
            go_wp2_with fail
            go_region
            go_wp2_with fail
            refine ⟨⟨I + 1, by go_num, by omega, _, E9.out.drewN 1, HM9.out.drewN 1⟩, by simp [intOf]; omega⟩
        · have d2 : decide (k < n) = false := by simpa using hkn
          have d2' : decide ((k : Int) < (n : Int)) = false := by simp; omega
          have ht : (D.zone I).take k = D.zone I := List.take_of_length_le (by rw [← HN.out]; omega)
          have e8 := H5.out.setS I n hlt
          have e9 : RDev (w5.setCell ⟨b, 8 + I, none⟩ (.int .i64 (n : Int))) base b (loseAt D κ (I + 1)) m2 := by
            rw [← HNX.out n (by rw [ht, HN.out]), ht]
            have hz : (loseAt D κ I).L.set I (D.zone I) = (loseAt D κ I).L := by
              have h1 : (loseAt D κ I).L.getD I [] = D.zone I := loseAt_zone D κ I hlt
              rw [← h1]
              exact set_getD_same _ _ _
            rw [hz]
            exact ⟨_, _, _, e8⟩
          have hm9 := HM5.out.trans (Moves.setCell w5 _ (p := ⟨b, 8 + I, none⟩) H5.out.own (.int .i64 (n : Int)))
          have E9 := hide e9
          have HM9 := hide hm9
          clear e8 e9 hm9 ht H5 HM5 HST5
          go_wp2_with fail
          go_region
          go_wp2_with fail
          refine ⟨⟨I + 1, by go_num, by omega, _, E9.out.drewN 1, HM9.out.drewN 1⟩, by simp [intOf]; omega⟩
    · obtain rfl : I = 8 := by omega
      have d1 : decide ((8 : Int) < 8) = false := by simp
      rw [loseAt_all D κ HOK.out.hL HOK.out.hS] at h2
      have H3 := hide h2
      obtain ⟨zs, av, wv, h3⟩ := h2
      obtain ⟨aA, cA, aW, cW, hav, hwv⟩ := h3.waitForm
      have kA := h3.cellA
      rw [hav] at kA
      obtain ⟨n, hn⟩ : ∃ n, n = D.q.length := ⟨_, rfl⟩
      have hqn : ({ D with L := loseL D κ, S := (loseL D κ).map List.length } : Dv).q.length = n := hn.symm
      rw [hqn] at kA
      have HN := hide hn
      have hn65 : n ≤ 65536 := by rw [hn]; exact HLB.out
      clear hn h3 hlt hI hav hwv hqn
      rw [show ((8 : Nat) : Int) = 8 from rfl]
      go_wp2_with fail
      go_loopw [65] (fun j wr' => ∃ J : Nat, j = .int .i64 (J : Int) ∧ J ≤ n ∧ ∃ m', RDev wr' base b { D with L := loseL D κ, S := (loseL D κ).map List.length, T := putAll D.T (loseQ (D.q.take J) σ) } m' ∧ Moves w wr' m m' ∧ wr'.cell? ⟨b, 18, none⟩ = some (.slice aA n cA)) (fun j _ => n - (intOf j).toNat)
      case atStart => exact ⟨0, rfl, by omega, m2, by rw [loseQ_zero]; exact H3.out, HM2.out, kA⟩
      case round =>
        clear H3 HM2 kA
        obtain ⟨J, rfl, hJ, m4, h4, hm4, k18⟩ := hrel
        have HM4 := hide hm4
        have H4 := hide h4
        clear hm4
        by_cases hlt : J < n
        · have d2 : decide (J < n) = true := by simpa using hlt
          obtain ⟨zs4, av4, wv4, h5⟩ := h4
          have hJq : J < D.q.length := by rw [← HN.out]; exact hlt
          obtain ⟨ga, ca, gb, cb, at_, tx, hat, htx, hat2, ha, hb, q1, q2, hgab, hgbb⟩ := h5.waitIs J hJq
          have k19 := h5.cellW
          have hqn : ({ D with L := loseL D κ, S := (loseL D κ).map List.length, T := putAll D.T (loseQ (D.q.take J) σ) } : Dv).q.length = n := HN.out.symm
          rw [hqn] at ha hb
          have hx := Option.some.inj (h5.cellA.symm.trans k18)
          rw [ha] at hx
          injection hx with p1 p2 p3
          obtain rfl := p1
          rw [hb] at k19
          have t1 := h5.cellT at_ hat2
          have f1 := h5.blk.frozen (16 + at_)
          have it1 : (at_ : Int) < 2 := by omega
          have it2 : (0 : Int) ≤ (at_ : Int) := by omega
          have hstep := loseQ_step D.q σ J hJq
          have e6 := h5.setT at_ hat2 tx
          have hm6 := HM4.out.trans (Moves.setCell wr m4 (p := ⟨b, 16 + at_, none⟩) h5.own (.string tx))
          have k6 : (wr.setCell ⟨b, 16 + at_, none⟩ (.string tx)).cell? ⟨b, 18, none⟩ = some (.slice (some ⟨ga, 0, none⟩) n cA) := by
            rw [World.cell?_setCell_other _ _ _ _ (by intro e; injection e with _ e2; omega)]
            exact k18
          have hc := HSC.out _ _ HM4.out J (by omega)
          obtain ⟨c, hcs⟩ : ∃ c, c = σ J := ⟨_, rfl⟩
          rw [← hcs] at hc hstep
          have HC := hide hc
          have hpair : D.q.getD J (0, ⟨#[]⟩) = (at_, tx) := Prod.ext hat.symm htx.symm
          cases c with
          | true =>
            have hnew : ({ D with L := loseL D κ, S := (loseL D κ).map List.length, T := (putAll D.T (loseQ (D.q.take J) σ)).set at_ tx } : Dv) = { D with L := loseL D κ, S := (loseL D κ).map List.length, T := putAll D.T (loseQ (D.q.take (J + 1)) σ) } := by
              rw [hstep, if_pos rfl, putAll_app, hpair]
            have H6 : Hid (RDev (wr.setCell ⟨b, 16 + at_, none⟩ (.string tx)) base b { D with L := loseL D κ, S := (loseL D κ).map List.length, T := putAll D.T (loseQ (D.q.take (J + 1)) σ) } m4) := hide (by
              rw [← hnew]
              exact ⟨_, _, _, e6⟩)
            have HM6 := hide hm6
            have K6 := hide k6
            clear hnew e6 hm6 k6 hc hcs hstep hpair h5 hat htx ha hb p2 p3 hqn H4 HM4
            go_upto_region 12 with (go_at_call 91; refine HC.out.mono ?_; rintro e w' ⟨rfl, rfl⟩)
            go_region
            go_wp2_with fail
            refine ⟨⟨J + 1, by go_num, by omega, m4, H6.out.drewN 1, HM6.out.drewN 1, K6.out⟩, by simp [intOf]; omega⟩
          | false =>
            have H6 : Hid (RDev wr base b { D with L := loseL D κ, S := (loseL D κ).map List.length, T := putAll D.T (loseQ (D.q.take (J + 1)) σ) } m4) := hide (by
              rw [hstep, if_neg (by simp)]
              exact H4.out)
            have K18 := hide k18
            clear e6 hm6 k6 hc hcs hstep hpair h5 hat htx ha hb p2 p3 hqn H4
            go_wp2_with (go_at_call 91; refine HC.out.mono ?_; rintro e w' ⟨rfl, rfl⟩)
            refine ⟨⟨J + 1, by go_num, by omega, m4, H6.out, HM4.out, K18.out⟩, by simp [intOf]; omega⟩
        · obtain rfl : J = n := by omega
          have d2 : decide (J < J) = false := by simp
          rw [List.take_of_length_le (by rw [HN.out]; exact Nat.le_refl _)] at h4
          obtain ⟨zs4, av4, wv4, h5⟩ := h4
          have k19 := h5.cellW
          have f1 := h5.blk.frozen 18
          have f2 := h5.blk.frozen 19
          have h6 := h5.setQ (w1 := wr) (Nat.le_refl _) (fun _ _ _ _ => rfl) nilS nilS [] (by simp) (World.ownsRow_nil _ _ _ _) (World.ownsRow_nil _ _ _ _) (fun g hg => by cases hg) (fun g hg => by cases hg)
          have hm6 := HM4.out.trans (h5.setQ_moves (w1 := wr) rfl rfl rfl (Nat.le_refl _) (fun _ _ _ _ => rfl) nilS nilS)
          have H6 : Hid (RDev ((wr.setCell ⟨b, 18, none⟩ nilS).setCell ⟨b, 19, none⟩ nilS) base b (loseD D κ σ) (plus m4 wr.heap.size wr.heap.size)) := hide ⟨_, _, _, h6⟩
          have HM6 := hide hm6
          clear h5 h6 hm6 H4 HM4
          go_wp2_with fail
          go_end0
          exact ⟨rfl, _, H6.out, HM6.out⟩
end Go.Proofs.YtmligbaalbbgiabDoor

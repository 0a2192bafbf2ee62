/- The closure of salternkeep.ZoneSure that puts texts. Conditions: a device lies where the captured variable says; the slices can be read. -/
import Derived.Test.YtmligbaalbbgiaaZoneImg
namespace Go.Proofs.Ytmligbaalbbgiaa
open Go.RowKit

/-- What the law knows of its device. -/
structure SGood (D : Dv) : Prop where
  f : D.f = -1
  pad : ∀ z, ∀ s ∈ D.zone z, s.size = 128
  sure : D.SureOk
theorem SGood.new : SGood newD := by
  have hl : ∀ z, (newD.L).getD z [] = [] := fun z => by
    rcases z with _ | _ | _ | _ | _ | _ | _ | _ | z <;> rfl
  have hs : ∀ z, newD.sure z = 0 := fun z => by
    rcases z with _ | _ | _ | _ | _ | _ | _ | _ | z <;> rfl
  refine ⟨rfl, fun z s hs => ?_, fun z => by rw [hs]; omega⟩
  unfold Dv.zone at hs; rw [hl] at hs; simp at hs
/-- An append leaves it so, and touches neither what is sure nor what waits. -/
theorem SGood.append {D : Dv} (h : SGood D) (hL : D.L.length = 8) (z : Int) (s : ByteArray) : SGood (appendR D z s).1 ∧ (appendR D z s).1.S = D.S ∧ (appendR D z s).1.q = D.q := by
  unfold appendR
  split
  · exact ⟨h, rfl, rfl⟩
  · rename_i hz
    split
    · exact ⟨h, rfl, rfl⟩
    · split
      · exact ⟨h, rfl, rfl⟩
      · split
        · exact ⟨h, rfl, rfl⟩
        · rw [burn_one h.f]
          have hz8 : z.toNat < D.L.length := by rw [hL]; omega
          refine ⟨⟨h.f, fun j t ht => ?_, fun j => ?_⟩, rfl, rfl⟩
          · have ht' : t ∈ (D.L.set z.toNat (D.zone z.toNat ++ [padB s 128])).getD j [] := ht
            rw [getD_set _ _ _ _ _ hz8] at ht'
            by_cases hj : z.toNat = j
            · rw [if_pos hj] at ht'
              rcases List.mem_append.1 ht' with h1 | h1
              · exact h.pad _ t h1
              · rw [List.mem_singleton.1 h1]; exact padB_size _ _
            · rw [if_neg hj] at ht'
              exact h.pad j t ht'
          · show D.sure j ≤ ((D.L.set z.toNat (D.zone z.toNat ++ [padB s 128])).getD j []).length
            rw [getD_set _ _ _ _ _ hz8]
            have := h.sure j
            by_cases hj : z.toNat = j
            · rw [if_pos hj, List.length_append, hj]; omega
            · rw [if_neg hj]; exact this
theorem SGood.put {D : Dv} (h : SGood D) (k : Int) (s : ByteArray) : SGood (putR D k s).1 ∧ (putR D k s).1.S = D.S ∧ (putR D k s).1.q.length ≤ D.q.length + 1 := by
  unfold putR
  split
  · exact ⟨h, rfl, Nat.le_succ _⟩
  · split
    · exact ⟨h, rfl, Nat.le_succ _⟩
    · split
      · exact ⟨h, rfl, Nat.le_succ _⟩
      · rw [burn_one h.f]
        exact ⟨⟨h.f, h.pad, h.sure⟩, rfl, by simp⟩

set_option maxRecDepth 100000 in
set_option maxHeartbeats 4000000 in
theorem putSure {w : World} {base b Bd Ba : Nat} {D0 : Dv} {m : Nat → Prop} (h : Dev w base b D0 m) (hg : SGood D0) (Q : Nat) (hq : D0.q.length ≤ Q) (a A : Option Addr) (n c N C : Nat) (hQ : Q + n ≤ 65536) (l : List ByteArray) (ks : List Int) (hst : StrsOut w m a n c l) (hn : n ≤ 65536)
    (hks : NumsOut w m A ks) (hN : N = ks.length) (hN0 : N ≠ 0) (hNs : N ≤ 65536) (hd : CellOut w m Bd (.pointer (some ⟨b, 0, none⟩))) (hat : CellOut w m Ba (.slice A N C)) :
    Calls Try.prog 15 #[.slice a n c, .pointer (some ⟨Bd, 0, none⟩), .pointer (some ⟨Ba, 0, none⟩)] w fun e w' => e = .returned (.tuple #[]) ∧ ∃ D' m', Dev w' base b D' m' ∧ Moves w w' m m' ∧ SGood D' ∧ D'.S = D0.S ∧ D'.q.length ≤ Q + n := by
  have H := hide h
  have HG := hide hg
  have HST := hide hst
  have HKS := hide hks
  have HN := hide hN
  have HD := hide hd
  have HAT := hide hat
  clear h hg hst hks hN hd hat
  go_enter Try.func15, Try.ntmps15
  go_wp2_with fail
  go_loopw [4] (fun i wr => ∃ (I : Nat) (D : Dv) (m' : Nat → Prop), i = .int .i64 (I : Int) ∧ I ≤ n ∧ Dev wr base b D m' ∧ Moves w wr m m' ∧ SGood D ∧ D.S = D0.S ∧ D.q.length ≤ Q + I) (fun i _ => n - (intOf i).toNat)
  case atStart => exact ⟨0, D0, m, rfl, by omega, H.out, Moves.refl _ _, HG.out, rfl, by omega⟩
  case round =>
    clear H HG
    obtain ⟨I, D, m2, rfl, hI, hdev, hmv, hgood, hS, hqI⟩ := hrel
    by_cases hlt : I < n
    · have d0 : decide (I < n) = true := by simpa using hlt
      have hst := (HST.out.moves hmv).s
      have hIl : I < l.length := by rw [← hst.hn]; exact hlt
      obtain ⟨x, rfl⟩ : ∃ x, a = some x := by
        cases a with
        | none => have := (hst.hz rfl).1; omega
        | some x => exact ⟨x, rfl⟩
      have cx := hst.hcell x rfl I hIl
      obtain ⟨s, hs⟩ : ∃ s, s = l.getD I ⟨#[]⟩ := ⟨_, rfl⟩
      rw [← hs] at cx
      obtain ⟨y, rfl, hyo, hylt, hyc⟩ := (HKS.out.moves hmv).at_ (by rw [← HN.out]; omega)
      obtain ⟨r, hr⟩ : ∃ r, r = I % N := ⟨_, rfl⟩
      have hrN : r < N := by rw [hr]; exact Nat.mod_lt _ (by omega)
      have hrem : (I : Int).tmod (N : Int) = (r : Int) := by rw [Int.tmod_eq_emod_of_nonneg (by omega), hr]; exact (Int.natCast_emod I N).symm
      have cy := hyc r (by rw [← HN.out]; exact hrN)
      obtain ⟨v, hv⟩ : ∃ v, v = ks.getD r 0 := ⟨_, rfl⟩
      rw [← hv] at cy
      have ir1 : (r : Int) < (N : Int) := by omega
      have ir0 : (0 : Int) ≤ (r : Int) := by omega
      have cd := (HD.out.moves hmv).cell
      have ca := (HAT.out.moves hmv).cell
      have HDEV := hide hdev
      have HMV := hide hmv
      have HGOOD := hide hgood
      have HS := hide hs
      have HV := hide hv
      have HIL := hide hIl
      have HRN := hide hrN
      have HSS := hide hS
      have hd8 : D.L.length = 8 := by obtain ⟨_, _, h0⟩ := hdev; exact h0.ok.hL
      have HD8 := hide hd8
      clear hst hs hyc hylt hyo hv hr hdev hmv hgood hd8 hS
      go_upto_region 3 with fail
      go_region_held3 (fun W => W.cell? ⟨Bd, 0, none⟩ = some (.pointer (some ⟨b, 0, none⟩)) ∧ W.cell? ⟨Ba, 0, none⟩ = some (.slice (some y) N C) ∧ W.cell? (y.add r) = some (.int .i64 v) ∧ W.cell? (x.add I) = some (.string s)) (go_keep) (first
        | (go_simp; go_at_call 11; refine (pick_any _ _).mono ?_; rintro e w5 ⟨rfl, Z, hZ, rfl⟩)
        | (go_simp; go_at_call 16; refine (append_any (HDEV.out.drewN 1) (Z : Int) s).mono ?_; rintro e w6 ⟨rfl, m6, hd6, hm6⟩; have hm7 := HMV.out.trans (Moves.ofDrewN hm6); have e1 := (HD.out.moves hm7).cell; have e2 := (HAT.out.moves hm7).cell; have e3 := (HST.out.moves hm7).s.hcell x rfl I HIL.out; rw [← HS.out] at e3; have e4 : w6.cell? (y.add r) = some (.int .i64 v) := (by obtain ⟨y', hy', _, _, hyc'⟩ := (HKS.out.moves hm7).at_ (by rw [← HN.out]; omega); obtain rfl := Option.some.inj hy'; rw [HV.out]; exact hyc' r (by rw [← HN.out]; exact HRN.out)); have HD6 := hide hd6; have HM7 := hide hm7; have hg6 := HGOOD.out.append HD8.out (Z : Int) s; have HG6 := hide hg6.1; have HS6 := hide (hg6.2.1.trans HSS.out); have hq6 : (appendR D (Z : Int) s).1.q.length ≤ Q + I := (by rw [hg6.2.2]; exact hqI); clear hd6 hm6 hm7 hg6))
      all_goals
        clear e1 e2 e4 HDEV HMV HGOOD HSS hqI
        obtain ⟨D6, hD6⟩ : ∃ D6, D6 = (appendR D (Z : Int) s).1 := ⟨_, rfl⟩
        rw [← hD6] at HD6 HG6 HS6 hq6
        clear hD6
        have e1 := (HD.out.moves HM7.out).cell
        go_upto_region 4 with fail
        go_region_held3 (fun W => W.cell? ⟨Bd, 0, none⟩ = some (.pointer (some ⟨b, 0, none⟩)) ∧ W.cell? (x.add I) = some (.string s)) (go_keep) (
          (go_simp; go_at_call 17; refine (put_any (HD6.out.drewN 1) _ s (by omega)).mono ?_; rintro e w7 ⟨rfl, m7, hd7, hm7⟩; have hm8 := HM7.out.trans (Moves.ofDrewN hm7); have k1 := (HD.out.moves hm8).cell; have k2 := (HST.out.moves hm8).s.hcell x rfl I HIL.out; rw [← HS.out] at k2; have HD7 := hide hd7; have HM8 := hide hm8; clear hd7 hm7 hm8))
      all_goals
        clear k1 k2
        go_wp2_with fail
        refine ⟨⟨I + 1, _, m7, by go_num, by omega, HD7.out, HM8.out, (HG6.out.put _ s).1, (HG6.out.put _ s).2.1.trans HS6.out, Nat.le_trans (HG6.out.put _ s).2.2 (by omega)⟩, by simp [intOf]; omega⟩
    · obtain rfl : I = n := by omega
      have d0 : decide (I < I) = false := by simp
      have HDEV := hide hdev
      have HMV := hide hmv
      have HGOOD := hide hgood
      have HSS := hide hS
      clear hdev hmv hgood hS
      go_wp2_with fail
      go_end0
      exact ⟨rfl, D, m2, HDEV.out, HMV.out, HGOOD.out, HSS.out, hqI⟩
end Go.Proofs.Ytmligbaalbbgiaa

/- The reference's device: Sync, Crash, NewDevice. Conditions: a device lies at the receiver; at most 65536 writes wait; the slices can be read. -/
import Derived.Test.YtmligbaalbbgiabDoorRefZone5
import Derived.Test.YtmligbaalbbgiabDoorRefLose1
import Derived.Test.YtmligbaalbbgiabDoorRefLose2
namespace Go.Proofs.YtmligbaalbbgiabDoor
open Go.RowKit

theorem zipAll {α : Type} (q : List α) : ((q.zipIdx).filter fun _ => true).map (·.1) = q := by
  have h1 : (q.zipIdx).filter (fun _ => true) = q.zipIdx := by simp
  rw [h1]
  simp
theorem lose_is_sync {D : Dv} (h : D.Ok) : loseD D (fun _ => 16) (fun _ => true) = { D with S := D.L.map List.length, T := putAll D.T D.q, q := [] } := by
  have hl : loseL D (fun _ => 16) = D.L := by
    apply List.ext_getElem (by rw [loseL_length, h.hL])
    intro z h1 h2
    have e1 := getElem_is (loseL D (fun _ => 16)) z h1 []
    have hz : z < 8 := by rw [h.hL] at h2; exact h2
    have e2 : D.zone z = D.L[z] := by simp [Dv.zone, List.getD, h2]
    rw [e1, loseL_at D _ z hz, List.take_of_length_le (by have := h.cap z; omega), e2]
  have hq : loseQ D.q (fun _ => true) = D.q := zipAll D.q
  unfold loseD
  rw [hl, hq]
/-- How many blocks that are not sure a zone keeps, as the reference says. -/
def keepB (ks : List Int) (z : Nat) : Nat := min (keepN ks z) 16
theorem lose_is_crash {D : Dv} (h : D.Ok) (hs : D.SureOk) (ks : List Int) (sl : List Bool) : { loseD D (keepB ks) (fun i => sl.getD i false) with f := -1 } = crashD D ks sl := by
  have hl : loseL D (keepB ks) = crashL D ks := by
    apply List.ext_getElem (by rw [loseL_length, crashL_length])
    intro z h1 h2
    have hz : z < 8 := by rw [loseL_length] at h1; exact h1
    have e1 := getElem_is (loseL D (keepB ks)) z h1 []
    have e2 := getElem_is (crashL D ks) z h2 []
    rw [e1, e2, loseL_at D _ z hz, crashL_at D ks z hz]
    have h3 := hs z
    have h4 := h.cap z
    unfold keepB
    rcases Nat.le_total (D.sure z + min (keepN ks z) 16) (D.zone z).length with h5 | h5
    · congr 1
      omega
    · rw [List.take_of_length_le h5, List.take_of_length_le (by omega)]
  unfold loseD crashD
  rw [hl]
  rfl

theorem sync1_any (x : Int) (w : World) : Calls Tryd.prog 90 #[.int .i64 x] w fun e w' => e = .returned (.int .i64 16) ∧ w = w' := by
  go_enter Tryd.func90, Tryd.ntmps90
  go_wp2_with fail
  go_ret
  exact ⟨rfl, rfl⟩
theorem sync2_any (x : Int) (w : World) : Calls Tryd.prog 91 #[.int .i64 x] w fun e w' => e = .returned (.bool true) ∧ w = w' := by
  go_enter Tryd.func91, Tryd.ntmps91
  go_wp2_with fail
  go_ret
  exact ⟨rfl, rfl⟩

theorem rsync_any {w : World} {base b : Nat} {D : Dv} {m : Nat → Prop} (h : RDev w base b D m) (hl : D.q.length ≤ 65536) (hsu : D.SureOk) :
    Calls Tryd.prog 37 #[.pointer (some ⟨b, 0, none⟩)] w fun e w' => e = .returned (.int .i64 (syncR D).2) ∧ ∃ m', RDev w' base b (syncR D).1 m' ∧ Moves w w' m m' := by
  by_cases hf : D.f = 0
  · have e : syncR D = (D, 14) := by unfold syncR; rw [if_pos hf]
    have eb : D.burn = D := by unfold Dv.burn; rw [if_neg (by omega)]
    have d0 : decide (D.f = 0) = true := by simp [hf]
    rw [e]
    have EB := hide eb
    have H := hide h
    clear h hf e eb
    go_enter Tryd.func37, Tryd.ntmps37
    go_wp2_with (go_at_call 88; refine (rspent_any H.out).mono ?_; rintro e w1 ⟨rfl, h1, hm1⟩; rw [d0]; have H1 := hide h1; have HM1 := hide hm1; clear h1 hm1)
    go_ret
    exact ⟨rfl, m, EB.out ▸ H1.out, HM1.out⟩
  · have e : syncR D = (syncD D, 0) := by unfold syncR; rw [if_neg hf]
    have d0 : decide (D.f = 0) = false := by simp [hf]
    have hok : D.burn.Ok := by obtain ⟨_, _, _, h0⟩ := h; exact h0.ok.burn
    have es : loseD D.burn (fun _ => 16) (fun _ => true) = syncD D := by rw [lose_is_sync hok]; unfold syncD; simp only [burn_L, burn_T, burn_q]
    have hlb : D.burn.q.length ≤ 65536 := by rw [burn_q]; exact hl
    have hsb : D.burn.SureOk := fun z => by
      have := hsu z
      unfold Dv.sure Dv.zone at *
      rw [burn_S, burn_L]
      exact this
    rw [e]
    have H := hide h
    have ES := hide es
    have HLB := hide hlb
    have HSB := hide hsb
    clear h hf e es hlb hsb hl hsu hok
    go_enter Tryd.func37, Tryd.ntmps37
    go_wp2_with (first
      | (go_at_call 88; refine (rspent_any H.out).mono ?_; rintro e w1 ⟨rfl, h1, hm1⟩; rw [d0]; have H1 := hide h1; have HM1 := hide hm1; clear h1 hm1)
      | (go_at_call 89; refine (lose_sync H1.out HLB.out HSB.out (fun _ => 16) (fun _ => true) (fun _ => Nat.le_refl _) (fun W _ _ I _ => sync1_any _ W) (fun W _ _ J _ => sync2_any _ W)).mono ?_; rintro e w2 ⟨rfl, m2, h2, hm2⟩; rw [ES.out] at h2; have H2 := hide h2; have HM2 := hide (HM1.out.trans hm2); clear h2 hm2))
    go_ret
    exact ⟨rfl, m2, H2.out, HM2.out⟩

theorem crash1_any {W : World} {m : Nat → Prop} (B1 : Nat) (A1 : Option Addr) (c1 : Nat) (ks : List Int) (I : Nat) (hc : W.cell? ⟨B1, 0, none⟩ = some (.slice A1 ks.length c1)) (hk : IntsArg W m A1 ks) :
    Calls Tryd.prog 92 #[.int .i64 (I : Int), .pointer (some ⟨B1, 0, none⟩)] W fun e w' => e = .returned (.int .i64 (keepB ks I : Int)) ∧ W = w' := by
  obtain ⟨N, hN⟩ : ∃ N, N = ks.length := ⟨_, rfl⟩
  rw [← hN] at hc
  by_cases h1 : N ≤ I
  · have c1 : decide (N ≤ I) = true := by simpa using h1
    have e : keepB ks I = 0 := by
      unfold keepB keepN
      rw [show ks.getD I 0 = 0 from by simp [List.getD, List.getElem?_eq_none (show ks.length ≤ I by omega)]]
      rfl
    rw [e]
    clear e hk hN h1
    go_enter Tryd.func92, Tryd.ntmps92
    go_wp2_with fail
    go_ret
    exact ⟨rfl, rfl⟩
  · have c1 : decide (N ≤ I) = false := by simpa using h1
    obtain ⟨a, rfl, _, _, hx⟩ := hk (by omega)
    have cx := hx I (by omega)
    obtain ⟨x, hxx⟩ : ∃ x, x = ks.getD I 0 := ⟨_, rfl⟩
    rw [← hxx] at cx
    have hIN : I < N := by omega
    have e : (keepB ks I : Int) = if x < 0 then 0 else if 16 < x then 16 else x := by
      unfold keepB keepN
      rw [← hxx]
      split
      · omega
      · split <;> omega
    rw [e]
    by_cases h2 : x < 0
    · have c2 : decide (x < 0) = true := by simpa using h2
      rw [if_pos h2]
      clear e hx hxx hN h1 h2
      go_enter Tryd.func92, Tryd.ntmps92
      go_wp2_with fail
      go_ret
      exact ⟨rfl, rfl⟩
    · have c2 : decide (x < 0) = false := by simpa using h2
      rw [if_neg h2]
      by_cases h3 : 16 < x
      · have c3 : decide (16 < x) = true := by simpa using h3
        rw [if_pos h3]
        clear e hx hxx hN h1 h2 h3
        go_enter Tryd.func92, Tryd.ntmps92
        go_wp2_with fail
        go_ret
        exact ⟨rfl, rfl⟩
      · have c3 : decide (16 < x) = false := by simpa using h3
        rw [if_neg h3]
        clear e hx hxx hN h1 h2 h3
        go_enter Tryd.func92, Tryd.ntmps92
        go_wp2_with fail
        go_ret
        exact ⟨rfl, rfl⟩
theorem crash2_any {W : World} {m : Nat → Prop} (B2 : Nat) (A2 : Option Addr) (c2 : Nat) (sl : List Bool) (I : Nat) (hc : W.cell? ⟨B2, 0, none⟩ = some (.slice A2 sl.length c2)) (hk : BoolsArg W m A2 sl) :
    Calls Tryd.prog 93 #[.int .i64 (I : Int), .pointer (some ⟨B2, 0, none⟩)] W fun e w' => e = .returned (.bool (sl.getD I false)) ∧ W = w' := by
  obtain ⟨N, hN⟩ : ∃ N, N = sl.length := ⟨_, rfl⟩
  rw [← hN] at hc
  by_cases h1 : I < N
  · have c1 : decide (I < N) = true := by simpa using h1
    obtain ⟨a, rfl, _, _, hx⟩ := hk (by omega)
    have cx := hx I (by omega)
    obtain ⟨x, hxx⟩ : ∃ x, x = sl.getD I false := ⟨_, rfl⟩
    rw [← hxx] at cx
    rw [← hxx]
    clear hx hxx hN
    go_enter Tryd.func93, Tryd.ntmps93
    go_wp2_with fail
    go_ret
    exact ⟨rfl, rfl⟩
  · have c1 : decide (I < N) = false := by simpa using h1
    have e : sl.getD I false = false := by simp [List.getD, List.getElem?_eq_none (show sl.length ≤ I by omega)]
    rw [e]
    clear e hk hN h1
    go_enter Tryd.func93, Tryd.ntmps93
    go_wp2_with fail
    go_ret
    exact ⟨rfl, rfl⟩

set_option maxRecDepth 100000 in
theorem rcrash_any {w : World} {base b : Nat} {D : Dv} {m : Nat → Prop} (h : RDev w base b D m) (hl : D.q.length ≤ 65536) (hsu : D.SureOk) (A1 A2 : Option Addr) (c1 c2 : Nat) (ks : List Int) (sl : List Bool)
    (hks : IntsArg w m A1 ks) (hsl : BoolsArg w m A2 sl) :
    Calls Tryd.prog 41 #[.pointer (some ⟨b, 0, none⟩), .slice A1 ks.length c1, .slice A2 sl.length c2] w fun e w' => e = .returned (.tuple #[]) ∧ ∃ m', RDev w' base b (crashD D ks sl) m' ∧ Moves w w' m m' := by
  have hok : D.Ok := by obtain ⟨_, _, _, h0⟩ := h; exact h0.ok
  have hec := lose_is_crash hok hsu ks sl
  obtain ⟨w1, hw1⟩ : ∃ w1, w1 = w.alloc (.cells #[.slice A1 ks.length c1] 23) := ⟨_, rfl⟩
  obtain ⟨w2, hw2⟩ : ∃ w2, w2 = w1.alloc (.cells #[.slice A2 sl.length c2] 61) := ⟨_, rfl⟩
  obtain ⟨B1, hB1⟩ : ∃ B, B = w.heap.size := ⟨_, rfl⟩
  obtain ⟨B2, hB2⟩ : ∃ B, B = B1 + 1 := ⟨_, rfl⟩
  have hb1 : Below w.heap.size w w1 := by rw [hw1]; exact (Below.refl _ _).alloc (Nat.le_refl _) _
  have hb2 : Below w1.heap.size w1 w2 := by rw [hw2]; exact (Below.refl _ _).alloc (Nat.le_refl _) _
  have hb := below_step hb1 hb2
  have hlt : ∀ k, m k → k < w.heap.size := fun k hk => by obtain ⟨_, _, _, h0⟩ := h; exact (h0.lt k hk).2
  have hs1 : w1.heap.size = w.heap.size + 1 := by rw [hw1]; simp
  have q1 : CellOut w2 m B1 (.slice A1 ks.length c1) := by
    refine ⟨?_, fun hc => by have := hlt _ hc; omega⟩
    rw [hb2.cell (p := ⟨B1, 0, none⟩) (by show B1 < _; omega), hw1, hB1]
    simp
  have q2 : CellOut w2 m B2 (.slice A2 sl.length c2) := by
    refine ⟨?_, fun hc => by have := hlt _ hc; omega⟩
    rw [hw2, hB2, hB1, ← hs1]
    simp
  have hks2 := hks.moves (.of_below hb m)
  have hsl2 := hsl.moves (.of_below hb m)
  have h2 := h.below hb
  have HB := hide hb
  have H2 := hide h2
  have HEC := hide hec
  have Q1 := hide q1
  have Q2 := hide q2
  have K2 := hide hks2
  have S2 := hide hsl2
  have HLB := hide hl
  have HSU := hide hsu
  have HW1 := hide hw1
  have HW2 := hide hw2
  have HB1 := hide hB1
  have HB2 := hide hB2
  clear h hl hsu hks hsl hok hec hw1 hw2 hB1 hB2 hb1 hb2 hb hlt hs1 q1 q2 hks2 hsl2 h2
  go_enter Tryd.func41, Tryd.ntmps41
  go_upto_region 1 with fail
  rw [← HW1.out, ← HB1.out, ← HB2.out, ← HW2.out]
  go_upto_region 2 with (go_at_call 89; refine (lose_crash H2.out HLB.out HSU.out (keepB ks) (fun i => sl.getD i false) (fun _ => Nat.min_le_right _ _) B1 B2 (fun W _ hm I _ => crash1_any B1 A1 c1 ks I (Q1.out.moves hm).cell (K2.out.moves hm)) (fun W _ hm J _ => crash2_any B2 A2 c2 sl J (Q2.out.moves hm).cell (S2.out.moves hm))).mono ?_; rintro e w3 ⟨rfl, m3, h3, hm3⟩; have H3 := hide h3; have HM3 := hide hm3; clear h3 hm3)
  obtain ⟨zs, av, wv, h4⟩ := H3.out
  have k1 := h4.cellF
  have f1 := h4.blk.frozen 20
  have h5 := h4.setF (-1) (by omega) (by omega)
  have hm5 := ((Moves.of_below HB.out m).trans HM3.out).trans (Moves.setCell w3 m3 (p := ⟨b, 20, none⟩) h4.own (.int .i64 (-1)))
  have H5 : Hid (RDev (w3.setCell ⟨b, 20, none⟩ (.int .i64 (-1))) base b (crashD D ks sl) m3) := hide (by rw [← HEC.out]; exact ⟨_, _, _, h5⟩)
  have HM5 := hide hm5
  clear h4 h5 hm5 H3 HM3
  go_wp2_with fail
  go_end0
  exact ⟨rfl, m3, H5.out, HM5.out⟩
end Go.Proofs.YtmligbaalbbgiabDoor

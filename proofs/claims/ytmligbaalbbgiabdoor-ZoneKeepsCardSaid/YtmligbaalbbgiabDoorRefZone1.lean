/- The reference's device: spent, Have, Read, Reset, Fuse. Conditions: a device lies at the receiver. -/
import Derived.Test.YtmligbaalbbgiabDoorRefZoneW
import Derived.Test.YtmligbaalbbgiabDoorFill
namespace Go.Proofs.YtmligbaalbbgiabDoor
open Go.RowKit

theorem longL_pad (s : ByteArray) (n : Nat) : ofl (longL (bl s) n) = padB s n := by
  unfold padB padL longL
  congr 1
  rcases Nat.le_total n (bl s).length with h | h
  · rw [List.take_append_of_le_length h, List.take_append_of_le_length h]
  · have e : List.replicate n (0 : UInt8) = List.replicate (n - (bl s).length) 0 ++ List.replicate (bl s).length 0 := by
      rw [List.replicate_append_replicate]
      congr 1
      omega
    conv => rhs; rw [e, ← List.append_assoc, List.take_append_of_le_length (by simp; omega)]
theorem rlong_any (s : ByteArray) (n : Nat) (hs : s.size ≤ 65536) (hn : n ≤ 65536) (w : World) :
    Calls Tryd.prog 85 #[.string s, .int .i64 (n : Int)] w fun e w' => e = .returned (.string (padB s n)) ∧ Below w.heap.size w w' := by
  rw [← longL_pad]
  exact long_any s n hs hn w
theorem refin_is (n a b : Int) (c : Bool) (hc : decide (a ≤ n ∧ n ≤ b) = c) (w : World) :
    Calls Tryd.prog 81 #[.int .i64 n, .int .i64 a, .int .i64 b] w fun e w' => e = .returned (.bool c) ∧ w = w' := by
  subst hc
  by_cases h : a ≤ n
  · have h1 : decide (a ≤ n) = true := by simpa using h
    have e : decide (a ≤ n ∧ n ≤ b) = decide (n ≤ b) := by simp [h]
    rw [e]
    clear e h
    go_enter Tryd.func81, Tryd.ntmps81
    go_wp2_with fail
    go_ret
    exact ⟨rfl, rfl⟩
  · have h1 : decide (a ≤ n) = false := by simpa using h
    have e : decide (a ≤ n ∧ n ≤ b) = false := by simp [h]
    rw [e]
    clear e h
    go_enter Tryd.func81, Tryd.ntmps81
    go_wp2_with fail
    go_ret
    exact ⟨rfl, rfl⟩

theorem setCell_again (w : World) (g i : Nat) (v u : Value) : (w.setCell ⟨g, i, none⟩ v).setCell ⟨g, i, none⟩ u = w.setCell ⟨g, i, none⟩ u := by
  have hh : ((w.setCell ⟨g, i, none⟩ v).setCell ⟨g, i, none⟩ u).heap = (w.setCell ⟨g, i, none⟩ u).heap := by
    apply Array.ext (by simp [World.setCell])
    intro k h1 h2
    simp only [World.setCell, Array.getElem_modify]
    split
    · cases w.heap[k]'(by simpa [World.setCell] using h2) <;> simp
    · rfl
  show ({ w with heap := ((w.setCell ⟨g, i, none⟩ v).setCell ⟨g, i, none⟩ u).heap } : World) = { w with heap := (w.setCell ⟨g, i, none⟩ u).heap }
  rw [hh]
theorem rspent_any {w : World} {base b : Nat} {D : Dv} {m : Nat → Prop} (h : RDev w base b D m) :
    Calls Tryd.prog 88 #[.pointer (some ⟨b, 0, none⟩)] w fun e w' => e = .returned (.bool (decide (D.f = 0))) ∧ RDev w' base b D.burn m ∧ Moves w w' m m := by
  obtain ⟨zs, av, wv, h⟩ := h
  have h1 := h.cellF
  have h2 := h.blk.frozen 20
  by_cases hp : 0 < D.f
  · have c1 : decide (0 < D.f) = true := by simpa using hp
    have c0 : decide (D.f = 0) = false := by simp; omega
    have hn := h.setF (D.f - 1) (by have := h.ok.f1; omega) (by have := h.ok.f2; omega)
    have hwr : wrap64 (D.f - 1) = D.f - 1 := by have := h.ok.f2; simp only [wrap64]; omega
    have hN : Hid (RDev (w.setCell ⟨b, 20, none⟩ (.int .i64 (D.f - 1))) base b D.burn m) := hide (by
      unfold Dv.burn; rw [if_pos hp]; exact ⟨zs, av, wv, hn⟩)
    have hM : Hid (Moves w (w.setCell ⟨b, 20, none⟩ (.int .i64 (D.f - 1))) m m) := hide (Moves.setCell w m h.own _)
    rw [c0]
    clear hn h hp c0
    go_enter Tryd.func88, Tryd.ntmps88
    go_wp2_with fail
    go_ret
    exact ⟨rfl, hN.out, hM.out⟩
  · have c1 : decide (0 < D.f) = false := by simpa using hp
    have hN : Hid (RDev w base b D.burn m) := hide (by
      unfold Dv.burn; rw [if_neg hp]; exact ⟨zs, av, wv, h⟩)
    have c0 : (D.f == 0) = decide (D.f = 0) := by
      by_cases h0 : D.f = 0 <;> simp [h0]
    have C0 := hide c0
    clear h c0
    go_enter Tryd.func88, Tryd.ntmps88
    go_wp2_with fail
    go_ret
    exact ⟨by rw [← C0.out]; rfl, hN.out, Moves.refl _ _⟩

theorem rfuse_any {w : World} {base b : Nat} {D : Dv} {m : Nat → Prop} (h : RDev w base b D m) (n : Int) (hn : n < 9223372036854775808) :
    Calls Tryd.prog 39 #[.pointer (some ⟨b, 0, none⟩), .int .i64 n] w fun e w' => e = .returned (.tuple #[]) ∧ RDev w' base b (fuseD D n) m ∧ Moves w w' m m := by
  obtain ⟨zs, av, wv, h⟩ := h
  have h1 := h.cellF
  have h2 := h.blk.frozen 20
  have hN : Hid (RDev (w.setCell ⟨b, 20, none⟩ (.int .i64 (max n (-1)))) base b (fuseD D n) m) := hide ⟨zs, av, wv, h.setF (max n (-1)) (by omega) (by omega)⟩
  have hM : Hid (Moves w (w.setCell ⟨b, 20, none⟩ (.int .i64 (max n (-1)))) m m) := hide (Moves.setCell w m h.own _)
  by_cases hlt : n < 0
  · have c1 : decide (n < 0) = true := by simpa using hlt
    have e : max n (-1) = -1 := by omega
    rw [e] at hN hM
    have es : (w.setCell ⟨b, 20, none⟩ (.int .i64 n)).setCell ⟨b, 20, none⟩ (.int .i64 (-1)) = w.setCell ⟨b, 20, none⟩ (.int .i64 (-1)) := setCell_again w _ _ _ _
    have c2 := World.cell?_setCell_same w ⟨b, 20, none⟩ (.int .i64 n) h1
    have ES := hide es
    clear h e es
    go_enter Tryd.func39, Tryd.ntmps39
    go_wp2_with fail
    rw [ES.out]
    go_end0
    exact ⟨rfl, hN.out, hM.out⟩
  · have c1 : decide (n < 0) = false := by simpa using hlt
    have e : max n (-1) = n := by omega
    rw [e] at hN hM
    clear h e
    go_enter Tryd.func39, Tryd.ntmps39
    go_wp2_with fail
    go_end0
    exact ⟨rfl, hN.out, hM.out⟩

theorem have_any {w : World} {base b : Nat} {D : Dv} {m : Nat → Prop} (h : RDev w base b D m) (z : Int) :
    Calls Tryd.prog 47 #[.pointer (some ⟨b, 0, none⟩), .int .i64 z] w fun e w' => e = .returned (.tuple #[.int .i64 (atR D z).1, .int .i64 (atR D z).2]) ∧ w = w' := by
  obtain ⟨zs, av, wv, h⟩ := h
  by_cases h1 : z < 0 ∨ 8 ≤ z
  · have HI := hide (fun w => refin_is z 0 7 false (by simp; omega) w)
    have e : atR D z = (0, 2) := by unfold atR; rw [if_pos h1]
    rw [e]
    clear h h1 e
    go_enter Tryd.func47, Tryd.ntmps47
    go_wp2_with (go_at_call 81; refine (HI.out _).mono ?_; rintro e w1 ⟨rfl, rfl⟩)
    go_ret2
    exact ⟨rfl, rfl⟩
  · obtain ⟨Z, rfl⟩ := Int.eq_ofNat_of_zero_le (show 0 ≤ z by omega)
    have hZ : Z < 8 := by omega
    have HI := hide (fun w => refin_is (Z : Int) 0 7 true (by simp; omega) w)
    have e : atR D (Z : Int) = (((D.zone Z).length : Int), 0) := by unfold atR; rw [if_neg h1]; simp
    rw [e]
    obtain ⟨a, cap, hf⟩ := h.form Z hZ
    have hc := h.cellZ Z hZ
    rw [hf] at hc
    have i1 : (Z : Int) < 8 := by omega
    have i0 : (0 : Int) ≤ (Z : Int) := by omega
    clear h h1 e hf
    go_enter Tryd.func47, Tryd.ntmps47
    go_wp2_with (go_at_call 81; refine (HI.out _).mono ?_; rintro e w1 ⟨rfl, rfl⟩)
    go_ret2
    exact ⟨rfl, rfl⟩

theorem rread_any {w : World} {base b : Nat} {D : Dv} {m : Nat → Prop} (h : RDev w base b D m) (z off : Int) :
    Calls Tryd.prog 48 #[.pointer (some ⟨b, 0, none⟩), .int .i64 z, .int .i64 off] w fun e w' => e = .returned (.tuple #[.string (readR D z off).1, .int .i64 (readR D z off).2]) ∧ w = w' := by
  obtain ⟨zs, av, wv, h⟩ := h
  by_cases h1 : z < 0 ∨ 8 ≤ z
  · have HI := hide (fun w => refin_is z 0 7 false (by simp; omega) w)
    have e : readR D z off = (⟨#[]⟩, 2) := by unfold readR; rw [if_pos h1]
    rw [e]
    clear h h1 e
    go_enter Tryd.func48, Tryd.ntmps48
    go_wp2_with (go_at_call 81; refine (HI.out _).mono ?_; rintro e w1 ⟨rfl, rfl⟩)
    go_ret2
    exact ⟨rfl, rfl⟩
  · obtain ⟨Z, rfl⟩ := Int.eq_ofNat_of_zero_le (show 0 ≤ z by omega)
    have hZ : Z < 8 := by omega
    have HI := hide (fun w => refin_is (Z : Int) 0 7 true (by simp; omega) w)
    obtain ⟨n, hn⟩ : ∃ n, n = (D.zone Z).length := ⟨_, rfl⟩
    obtain ⟨a, cap, hf⟩ := h.form Z hZ
    have hc := h.cellZ Z hZ
    rw [hf, ← hn] at hc
    have n16 : n ≤ 16 := by rw [hn]; exact h.ok.cap Z
    have i1 : (Z : Int) < 8 := by omega
    have i0 : (0 : Int) ≤ (Z : Int) := by omega
    have hw : wrap64 ((n : Int) - 1) = (n : Int) - 1 := by simp only [wrap64]; omega
    by_cases h2 : off < 0 ∨ (n : Int) ≤ off
    · have e : readR D (Z : Int) off = (⟨#[]⟩, 7) := by unfold readR; rw [if_neg h1, if_pos (by rw [hn] at h2; exact h2)]
      rw [e]
      have HJ := hide (fun w => refin_is off 0 ((n : Int) - 1) false (by simp; omega) w)
      clear h h1 h2 e hf hn
      go_enter Tryd.func48, Tryd.ntmps48
      go_wp2_with (go_at_call 81; first | (with_reducible refine (HI.out _).mono ?_; rintro e w1 ⟨rfl, rfl⟩) | (with_reducible refine (HJ.out _).mono ?_; rintro e w1 ⟨rfl, rfl⟩))
      go_ret2
      exact ⟨rfl, rfl⟩
    · obtain ⟨O, rfl⟩ := Int.eq_ofNat_of_zero_le (show 0 ≤ off by omega)
      have e : readR D (Z : Int) (O : Int) = ((D.zone Z).getD O ⟨#[]⟩, 0) := by unfold readR; rw [if_neg h1, if_neg (by rw [hn] at h2; exact h2)]; simp
      rw [e]
      obtain ⟨g, cap', hf', hx⟩ := h.at_z Z hZ O (by omega)
      rw [hf', ← hn] at hf
      injection hf with q1 q2 q3
      rw [← q1] at hc
      have HJ := hide (fun w => refin_is (O : Int) 0 ((n : Int) - 1) true (by simp; omega) w)
      have hO : O < n := by omega
      clear h h1 h2 e hf' hn q1 q2 q3
      go_enter Tryd.func48, Tryd.ntmps48
      go_wp2_with (go_at_call 81; first | (with_reducible refine (HI.out _).mono ?_; rintro e w1 ⟨rfl, rfl⟩) | (with_reducible refine (HJ.out _).mono ?_; rintro e w1 ⟨rfl, rfl⟩))
      go_ret2
      exact ⟨rfl, rfl⟩

set_option maxRecDepth 100000 in
theorem rreset_any {w : World} {base b : Nat} {D : Dv} {m : Nat → Prop} (h : RDev w base b D m) (z : Int) :
    Calls Tryd.prog 33 #[.pointer (some ⟨b, 0, none⟩), .int .i64 z] w fun e w' => e = .returned (.int .i64 (resetR D z).2) ∧ ∃ m', RDev w' base b (resetR D z).1 m' ∧ Moves w w' m m' := by
  by_cases h1 : z < 0 ∨ 8 ≤ z
  · have HI := hide (fun w => refin_is z 0 7 false (by simp; omega) w)
    have e : resetR D z = (D, 2) := by unfold resetR; rw [if_pos h1]
    rw [e]
    have H := hide h
    clear h h1 e
    go_enter Tryd.func33, Tryd.ntmps33
    go_wp2_with (go_at_call 81; refine (HI.out _).mono ?_; rintro e w1 ⟨rfl, rfl⟩)
    go_ret
    exact ⟨rfl, m, H.out, Moves.refl _ _⟩
  · obtain ⟨Z, rfl⟩ := Int.eq_ofNat_of_zero_le (show 0 ≤ z by omega)
    have hZ : Z < 8 := by omega
    have HI := hide (fun w => refin_is (Z : Int) 0 7 true (by simp; omega) w)
    by_cases h0 : D.f = 0
    · have e : resetR D (Z : Int) = (D, 14) := by unfold resetR; rw [if_neg h1, if_pos h0]
      have eb : D.burn = D := by unfold Dv.burn; rw [if_neg (by omega)]
      have d0 : decide (D.f = 0) = true := by simp [h0]
      rw [e]
      have H := hide h
      have EB := hide eb
      clear h e h0 eb h1
      go_enter Tryd.func33, Tryd.ntmps33
      go_wp2_with (first | (go_at_call 81; refine (HI.out _).mono ?_; rintro e w1 ⟨rfl, rfl⟩) | (go_at_call 88; refine (rspent_any H.out).mono ?_; rintro e w1 ⟨rfl, h1, hm1⟩; rw [d0]; have H1 := hide h1; have HM1 := hide hm1; clear h1 hm1))
      go_ret
      exact ⟨rfl, m, EB.out ▸ H1.out, HM1.out⟩
    · have e : resetR D (Z : Int) = ({ D.burn with L := D.L.set Z [], S := D.S.set Z 0 }, 0) := by unfold resetR; rw [if_neg h1, if_neg h0]; simp
      have d0 : decide (D.f = 0) = false := by simp [h0]
      rw [e]
      have H := hide h
      have i1 : (Z : Int) < 8 := by omega
      have i0 : (0 : Int) ≤ (Z : Int) := by omega
      have HZ := hide hZ
      clear h e h0 h1 hZ
      go_enter Tryd.func33, Tryd.ntmps33
      go_upto_region 5 with (first | (go_at_call 81; refine (HI.out _).mono ?_; rintro e w1 ⟨rfl, rfl⟩) | (go_at_call 88; refine (rspent_any H.out).mono ?_; rintro e w1 ⟨rfl, h1, hm1⟩; rw [d0]; have H1 := hide h1; have HM1 := hide hm1; clear h1 hm1))
      obtain ⟨zs1, av1, wv1, h2⟩ := H1.out
      have k1 := h2.cellZ Z HZ.out
      have k2 := h2.blk.frozen Z
      have k3 := h2.cellS Z HZ.out
      have k4 := h2.blk.frozen (8 + Z)
      have h3 := h2.setZ Z HZ.out (w1 := w1) (Nat.le_refl _) (fun _ _ _ => rfl) nilS [] (by simp) (World.ownsRow_nil _ _ _ _) (fun g hg => by cases hg)
      have h4 := h3.setS Z 0 HZ.out
      have hm3 := (h2.setZ_moves Z HZ.out (w1 := w1) rfl rfl rfl (Nat.le_refl _) (fun _ _ _ => rfl) nilS).trans (Moves.setCell _ _ (p := ⟨b, 8 + Z, none⟩) h3.own (.int .i64 ((0 : Nat) : Int)))
      have h5 : RDev ((w1.setCell ⟨b, Z, none⟩ nilS).setCell ⟨b, 8 + Z, none⟩ (.int .i64 ((0 : Nat) : Int))) base b { D.burn with L := D.L.set Z [], S := D.S.set Z 0 } (plus m w1.heap.size w1.heap.size) := by
        rw [← burn_L D, ← burn_S D]
        exact ⟨_, _, _, h4⟩
      have H5 := hide h5
      have HM5 := hide (HM1.out.trans hm3)
      clear h2 h3 h4 hm3 h5
      go_region
      go_wp2_with fail
      go_ret
      exact ⟨rfl, _, H5.out.drewN 1, HM5.out.drewN 1⟩
end Go.Proofs.YtmligbaalbbgiabDoor

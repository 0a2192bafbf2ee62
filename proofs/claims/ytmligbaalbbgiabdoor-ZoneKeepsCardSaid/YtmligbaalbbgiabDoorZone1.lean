/- The device's burn, At, Read, Fuse, Reset; zone.fill; slices.Clip. Conditions: a device lies at the receiver; texts of at most 65536 bytes. -/
import Derived.Test.YtmligbaalbbgiabDoorProg
import Derived.Test.YtmligbaalbbgiabDoorZoneW
import Derived.Test.YtmligbaalbbgiabDoorLoose
namespace Go.Proofs.YtmligbaalbbgiabDoor
open Go.RowKit

/-- An error by its number: 0 is none. -/
def errZ (n : Int) : Value := if n = 0 then .nilIface else .iface 35 (.int .i64 n)
def strV (s : ByteArray) : Value := .string s

theorem burn_any {w : World} {base b : Nat} {D : Dv} {m : Nat → Prop} (h : Dev w base b D m) :
    Calls Tryd.prog 65 #[.pointer (some ⟨b, 0, none⟩)] w fun e w' => e = .returned (.bool (!decide (D.f = 0))) ∧ Dev w' base b D.burn m ∧ Moves w w' m m := by
  obtain ⟨zs, wv, h⟩ := h
  have h1 := h.cellF
  have h2 := h.blk.frozen 19
  by_cases hp : 0 < D.f
  · have c1 : decide (0 < D.f) = true := by simpa using hp
    have hn := h.setF (D.f - 1) (by have := h.ok.f1; omega) (by have := h.ok.f2; omega)
    have hwr : wrap64 (D.f - 1) = D.f - 1 := by have := h.ok.f2; simp only [wrap64]; omega
    have hN : Hid (Dev (w.setCell ⟨b, 19, none⟩ (.int .i64 (D.f - 1))) base b D.burn m) := hide (by
      unfold Dv.burn; rw [if_pos hp]; exact ⟨zs, wv, hn⟩)
    have hM : Hid (Moves w (w.setCell ⟨b, 19, none⟩ (.int .i64 (D.f - 1))) m m) := hide (Moves.setCell w m h.own _)
    clear hn h hp
    go_enter Tryd.func65, Tryd.ntmps65
    go_wp2_with fail
    go_ret
    refine ⟨?_, hN.out, hM.out⟩
    have : D.f ≠ 0 := by simp at c1; omega
    simp [this]
  · have c1 : decide (0 < D.f) = false := by simpa using hp
    have hN : Hid (Dev w base b D.burn m) := hide (by
      unfold Dv.burn; rw [if_neg hp]; exact ⟨zs, wv, h⟩)
    clear h
    go_enter Tryd.func65, Tryd.ntmps65
    go_wp2_with fail
    go_ret
    refine ⟨?_, hN.out, Moves.refl _ _⟩
    have e : decide (D.f < 0) = !decide (D.f = 0) := by
      by_cases h0 : D.f = 0
      · simp [h0]
      · have : D.f < 0 := by omega
        simp [h0, this]
    rw [← e]
    rfl

theorem at_any {w : World} {base b : Nat} {D : Dv} {m : Nat → Prop} (h : Dev w base b D m) (z : Int) :
    Calls Tryd.prog 18 #[.pointer (some ⟨b, 0, none⟩), .int .i64 z] w fun e w' => e = .returned (.tuple #[.int .i64 (atR D z).1, errZ (atR D z).2]) ∧ w' = w := by
  obtain ⟨zs, wv, h⟩ := h
  by_cases h1 : z < 0
  · have c1 : decide (z < 0) = true := by simpa using h1
    have e : atR D z = (0, 2) := by unfold atR; rw [if_pos (.inl h1)]
    rw [e]
    clear h e
    go_enter Tryd.func18, Tryd.ntmps18
    go_wp2_with fail
    go_ret2
    exact ⟨rfl, rfl⟩
  · have c1 : decide (z < 0) = false := by simpa using h1
    by_cases h2 : 8 ≤ z
    · have c2 : decide (8 ≤ z) = true := by simpa using h2
      have e : atR D z = (0, 2) := by unfold atR; rw [if_pos (.inr h2)]
      rw [e]
      clear h e
      go_enter Tryd.func18, Tryd.ntmps18
      go_wp2_with fail
      go_ret2
      exact ⟨rfl, rfl⟩
    · obtain ⟨Z, rfl⟩ := Int.eq_ofNat_of_zero_le (show 0 ≤ z by omega)
      have hZ : Z < 8 := by omega
      have c2 : decide ((8 : Int) ≤ (Z : Int)) = false := by simp; omega
      have e : atR D (Z : Int) = (((D.zone Z).length : Int), 0) := by unfold atR; rw [if_neg (by omega)]; simp
      rw [e]
      obtain ⟨a, cap, hf⟩ := h.form Z hZ
      have hc := h.cellZ Z hZ
      rw [hf] at hc
      clear h e hf
      go_enter Tryd.func18, Tryd.ntmps18
      go_wp2_with fail
      go_ret2
      exact ⟨rfl, rfl⟩

theorem fuse_any {w : World} {base b : Nat} {D : Dv} {m : Nat → Prop} (h : Dev w base b D m) (n : Int) (hn : n < 9223372036854775808) :
    Calls Tryd.prog 38 #[.pointer (some ⟨b, 0, none⟩), .int .i64 n] w fun e w' => e = .returned (.tuple #[]) ∧ Dev w' base b (fuseD D n) m ∧ Moves w w' m m := by
  obtain ⟨zs, wv, h⟩ := h
  have h1 := h.cellF
  have h2 := h.blk.frozen 19
  have hN : Hid (Dev (w.setCell ⟨b, 19, none⟩ (.int .i64 (max n (-1)))) base b (fuseD D n) m) := hide ⟨zs, wv, h.setF (max n (-1)) (by omega) (by omega)⟩
  have hM : Hid (Moves w (w.setCell ⟨b, 19, none⟩ (.int .i64 (max n (-1)))) m m) := hide (Moves.setCell w m h.own _)
  clear h
  go_enter Tryd.func38, Tryd.ntmps38
  go_wp2_with fail
  · have e : max n (-1) = -1 := by omega
    rw [e] at hN hM
    go_end0
    exact ⟨rfl, hN.out, hM.out⟩
  · have e : max n (-1) = n := by omega
    rw [e] at hN hM
    go_end0
    exact ⟨rfl, hN.out, hM.out⟩

theorem range_cases (z : Int) : (z < 0) ∨ (¬ z < 0 ∧ 8 ≤ z) ∨ ∃ Z : Nat, z = (Z : Int) ∧ Z < 8 := by
  by_cases h1 : z < 0
  · exact .inl h1
  · by_cases h2 : 8 ≤ z
    · exact .inr (.inl ⟨h1, h2⟩)
    · obtain ⟨Z, rfl⟩ := Int.eq_ofNat_of_zero_le (show 0 ≤ z by omega)
      exact .inr (.inr ⟨Z, rfl, by omega⟩)

theorem read_any {w : World} {base b : Nat} {D : Dv} {m : Nat → Prop} (h : Dev w base b D m) (z off : Int) :
    Calls Tryd.prog 19 #[.pointer (some ⟨b, 0, none⟩), .int .i64 z, .int .i64 off] w fun e w' => e = .returned (.tuple #[.string (readR D z off).1, errZ (readR D z off).2]) ∧ w' = w := by
  obtain ⟨zs, wv, h⟩ := h
  rcases range_cases z with h1 | ⟨h1, h2⟩ | ⟨Z, rfl, hZ⟩
  · have c1 : decide (z < 0) = true := by simpa using h1
    have e : readR D z off = (⟨#[]⟩, 2) := by unfold readR; rw [if_pos (.inl h1)]
    rw [e]
    clear h e
    go_enter Tryd.func19, Tryd.ntmps19
    go_wp2_with fail
    go_ret2
    exact ⟨rfl, rfl⟩
  · have c1 : decide (z < 0) = false := by simpa using h1
    have c2 : decide (8 ≤ z) = true := by simpa using h2
    have e : readR D z off = (⟨#[]⟩, 2) := by unfold readR; rw [if_pos (.inr h2)]
    rw [e]
    clear h e
    go_enter Tryd.func19, Tryd.ntmps19
    go_wp2_with fail
    go_ret2
    exact ⟨rfl, rfl⟩
  · have c2 : decide ((8 : Int) ≤ (Z : Int)) = false := by simp; omega
    have hc := h.cellZ Z hZ
    by_cases h1 : off < 0
    · have c3 : decide (off < 0) = true := by simpa using h1
      have e : readR D (Z : Int) off = (⟨#[]⟩, 7) := by unfold readR; rw [if_neg (by omega), if_pos (.inl h1)]
      rw [e]
      clear h e hc
      go_enter Tryd.func19, Tryd.ntmps19
      go_wp2_with fail
      go_ret2
      exact ⟨rfl, rfl⟩
    · obtain ⟨O, rfl⟩ := Int.eq_ofNat_of_zero_le (show 0 ≤ off by omega)
      obtain ⟨n, hn⟩ : ∃ n, n = (D.zone Z).length := ⟨_, rfl⟩
      by_cases h2 : n ≤ O
      · obtain ⟨a, cap, hf⟩ := h.form Z hZ
        rw [hf, ← hn] at hc
        have c4 : decide ((n : Int) ≤ (O : Int)) = true := by simp; omega
        have c5 : decide (n ≤ O) = true := by simpa using h2
        have e : readR D (Z : Int) (O : Int) = (⟨#[]⟩, 7) := by unfold readR; rw [if_neg (by omega), if_pos (.inr (by simp; omega))]
        rw [e]
        clear h e hf hn
        go_enter Tryd.func19, Tryd.ntmps19
        go_wp2_with fail
        go_ret2
        exact ⟨rfl, rfl⟩
      · have c4 : decide ((n : Int) ≤ (O : Int)) = false := by simp; omega
        have c5 : decide (n ≤ O) = false := by simpa using h2
        have c6 : O < n := by omega
        have e : readR D (Z : Int) (O : Int) = ((D.zone Z).getD O ⟨#[]⟩, 0) := by unfold readR; rw [if_neg (by omega), if_neg (by simp; omega)]; simp
        rw [e]
        obtain ⟨g, cap, hf, hx⟩ := h.at_ Z hZ O (by omega)
        rw [hf, ← hn] at hc
        clear h e hf hn
        go_enter Tryd.func19, Tryd.ntmps19
        go_wp2_with fail
        go_ret2
        exact ⟨rfl, rfl⟩

set_option maxRecDepth 100000 in
theorem reset_any {w : World} {base b : Nat} {D : Dv} {m : Nat → Prop} (h : Dev w base b D m) (z : Int) :
    Calls Tryd.prog 32 #[.pointer (some ⟨b, 0, none⟩), .int .i64 z] w fun e w' => e = .returned (errZ (resetR D z).2) ∧ ∃ m', Dev w' base b (resetR D z).1 m' ∧ Moves w w' m m' := by
  rcases range_cases z with h1 | ⟨h1, h2⟩ | ⟨Z, rfl, hZ⟩
  · have c1 : decide (z < 0) = true := by simpa using h1
    have e : resetR D z = (D, 2) := by unfold resetR; rw [if_pos (.inl h1)]
    rw [e]
    have H := hide h
    clear h e
    go_enter Tryd.func32, Tryd.ntmps32
    go_wp2_with fail
    go_ret
    exact ⟨rfl, m, H.out, Moves.refl _ _⟩
  · have c1 : decide (z < 0) = false := by simpa using h1
    have c2 : decide (8 ≤ z) = true := by simpa using h2
    have e : resetR D z = (D, 2) := by unfold resetR; rw [if_pos (.inr h2)]
    rw [e]
    have H := hide h
    clear h e
    go_enter Tryd.func32, Tryd.ntmps32
    go_wp2_with fail
    go_ret
    exact ⟨rfl, m, H.out, Moves.refl _ _⟩
  · have c2 : decide ((8 : Int) ≤ (Z : Int)) = false := by simp; omega
    by_cases h0 : D.f = 0
    · have e : resetR D (Z : Int) = (D, 14) := by unfold resetR; rw [if_neg (by omega), if_pos h0]
      have eb : D.burn = D := by unfold Dv.burn; rw [if_neg (by omega)]
      have d0 : (!decide (D.f = 0)) = false := by simp [h0]
      rw [e]
      have H := hide h
      have EB := hide eb
      clear h e h0 eb
      go_enter Tryd.func32, Tryd.ntmps32
      go_wp2_with (go_at_call 65; refine (burn_any H.out).mono ?_; rintro e w1 ⟨rfl, h1, hm1⟩; rw [d0]; have H1 := hide h1; have HM1 := hide hm1; clear h1 hm1)
      go_ret
      exact ⟨rfl, m, EB.out ▸ H1.out, HM1.out⟩
    · have e : resetR D (Z : Int) = ({ D.burn with L := D.L.set Z [], S := D.S.set Z 0 }, 0) := by unfold resetR; rw [if_neg (by omega), if_neg h0]; simp
      have d0 : (!decide (D.f = 0)) = true := by simp [h0]
      rw [e]
      have H := hide h
      clear h e h0
      go_enter Tryd.func32, Tryd.ntmps32
      go_upto_region 5 with (go_at_call 65; refine (burn_any H.out).mono ?_; rintro e w1 ⟨rfl, h1, hm1⟩; rw [d0]; have H1 := hide h1; have HM1 := hide hm1; clear h1 hm1)
      obtain ⟨zs, wv, h2⟩ := H1.out
      have f1 := h2.blk.frozen Z
      have f2 := h2.blk.frozen (8 + Z)
      have k1 := h2.cellZ Z hZ
      have k2 := h2.cellS Z hZ
      have h3 := h2.setZ Z hZ (w1 := w1) (Nat.le_refl _) (fun _ _ _ => rfl) nilS [] (by simp) (World.ownsRow_nil _ _ _ _) (fun g hg => by cases hg)
      have h4 := h3.setS Z 0 hZ
      have hm3 := (h2.setZ_moves Z hZ (w1 := w1) rfl rfl rfl (Nat.le_refl _) (fun _ _ _ => rfl) nilS).trans (Moves.setCell _ _ (p := ⟨b, 8 + Z, none⟩) h3.own (.int .i64 ((0 : Nat) : Int)))
      have h5 : Dev ((w1.setCell ⟨b, Z, none⟩ nilS).setCell ⟨b, 8 + Z, none⟩ (.int .i64 ((0 : Nat) : Int))) base b { D.burn with L := D.L.set Z [], S := D.S.set Z 0 } (plus m w1.heap.size w1.heap.size) := by
        rw [← burn_L D, ← burn_S D]
        exact ⟨_, _, h4⟩
      have H5 := hide h5
      have HM5 := hide (HM1.out.trans hm3)
      clear h2 h3 h4 hm3 h5
      go_region
      go_wp2_with fail
      go_ret
      exact ⟨rfl, _, H5.out.drewN 1, HM5.out.drewN 1⟩
end Go.Proofs.YtmligbaalbbgiabDoor

/- The device's burn, At, Read, Fuse, Reset; zone.fill; slices.Clip. Conditions: a device lies at the receiver; texts of at most 65536 bytes. -/
import Derived.Test.YtmligbaalbbgiaaProg
import Derived.Test.YtmligbaalbbgiaaZoneW
import Derived.Test.YtmligbaalbbgiaaLoose
namespace Go.Proofs.Ytmligbaalbbgiaa
open Go.RowKit

/-- An error by its number: 0 is none. -/
def errZ (n : Int) : Value := if n = 0 then .nilIface else .iface 71 (.int .i64 n)
def strV (s : ByteArray) : Value := .string s

theorem burn_any {w : World} {base b : Nat} {D : Dv} {m : Nat → Prop} (h : Dev w base b D m) :
    Calls Try.prog 47 #[.pointer (some ⟨b, 0, none⟩)] w fun e w' => e = .returned (.bool (!decide (D.f = 0))) ∧ Dev w' base b D.burn m ∧ Moves w w' m m := by
  obtain ⟨zs, wv, h⟩ := h
  have h1 := h.cellF
  have h2 := h.blk.frozen 19
  by_cases hp : 0 < D.f
  · have c1 : decide (0 < D.f) = true := by simpa using hp
    have hn := h.setF (D.f - 1) (by have := h.ok.f1; omega) (by have := h.ok.f2; omega)
    have hwr : wrap64 (D.f - 1) = D.f - 1 := by have := h.ok.f2; simp only [wrap64]; omega
    have hN : Hid (Dev (w.setCell ⟨b, 19, none⟩ (.int .i64 (D.f - 1))) base b D.burn m) := hide (by
      unfold Dv.burn; rw [if_pos hp]; exact ⟨zs, wv, hn⟩)
    have hM : Hid (Moves w (w.setCell ⟨b, 19, none⟩ (.int .i64 (D.f - 1))) m m) := hide (Moves.setCell w m h.own _)
    clear hn h hp
    go_enter Try.func47, Try.ntmps47
    go_wp2_with fail
    go_ret
    refine ⟨?_, hN.out, hM.out⟩
    have : D.f ≠ 0 := by simp at c1; omega
    simp [this]
  · have c1 : decide (0 < D.f) = false := by simpa using hp
    have hN : Hid (Dev w base b D.burn m) := hide (by
      unfold Dv.burn; rw [if_neg hp]; exact ⟨zs, wv, h⟩)
    clear h
    go_enter Try.func47, Try.ntmps47
    go_wp2_with fail
    go_ret
    refine ⟨?_, hN.out, Moves.refl _ _⟩
    have e : decide (D.f < 0) = !decide (D.f = 0) := by
      by_cases h0 : D.f = 0
      · simp [h0]
      · have : D.f < 0 := by omega
        simp [h0, this]
    rw [← e]
    rfl

theorem at_any {w : World} {base b : Nat} {D : Dv} {m : Nat → Prop} (h : Dev w base b D m) (z : Int) :
    Calls Try.prog 43 #[.pointer (some ⟨b, 0, none⟩), .int .i64 z] w fun e w' => e = .returned (.tuple #[.int .i64 (atR D z).1, errZ (atR D z).2]) ∧ w' = w := by
  obtain ⟨zs, wv, h⟩ := h
  by_cases h1 : z < 0
  · have c1 : decide (z < 0) = true := by simpa using h1
    have e : atR D z = (0, 2) := by unfold atR; rw [if_pos (.inl h1)]
    rw [e]
    clear h e
    go_enter Try.func43, Try.ntmps43
    go_wp2_with fail
    go_ret2
    exact ⟨rfl, rfl⟩
  · have c1 : decide (z < 0) = false := by simpa using h1
    by_cases h2 : 8 ≤ z
    · have c2 : decide (8 ≤ z) = true := by simpa using h2
      have e : atR D z = (0, 2) := by unfold atR; rw [if_pos (.inr h2)]
      rw [e]
      clear h e
      go_enter Try.func43, Try.ntmps43
      go_wp2_with fail
      go_ret2
      exact ⟨rfl, rfl⟩
    · obtain ⟨Z, rfl⟩ := Int.eq_ofNat_of_zero_le (show 0 ≤ z by omega)
      have hZ : Z < 8 := by omega
      have c2 : decide ((8 : Int) ≤ (Z : Int)) = false := by simp; omega
      have e : atR D (Z : Int) = (((D.zone Z).length : Int), 0) := by unfold atR; rw [if_neg (by omega)]; simp
      rw [e]
      obtain ⟨a, cap, hf⟩ := h.form Z hZ
      have hc := h.cellZ Z hZ
      rw [hf] at hc
      clear h e hf
      go_enter Try.func43, Try.ntmps43
      go_wp2_with fail
      go_ret2
      exact ⟨rfl, rfl⟩

theorem range_cases (z : Int) : (z < 0) ∨ (¬ z < 0 ∧ 8 ≤ z) ∨ ∃ Z : Nat, z = (Z : Int) ∧ Z < 8 := by
  by_cases h1 : z < 0
  · exact .inl h1
  · by_cases h2 : 8 ≤ z
    · exact .inr (.inl ⟨h1, h2⟩)
    · obtain ⟨Z, rfl⟩ := Int.eq_ofNat_of_zero_le (show 0 ≤ z by omega)
      exact .inr (.inr ⟨Z, rfl, by omega⟩)

theorem read_any {w : World} {base b : Nat} {D : Dv} {m : Nat → Prop} (h : Dev w base b D m) (z off : Int) :
    Calls Try.prog 22 #[.pointer (some ⟨b, 0, none⟩), .int .i64 z, .int .i64 off] w fun e w' => e = .returned (.tuple #[.string (readR D z off).1, errZ (readR D z off).2]) ∧ w' = w := by
  obtain ⟨zs, wv, h⟩ := h
  rcases range_cases z with h1 | ⟨h1, h2⟩ | ⟨Z, rfl, hZ⟩
  · have c1 : decide (z < 0) = true := by simpa using h1
    have e : readR D z off = (⟨#[]⟩, 2) := by unfold readR; rw [if_pos (.inl h1)]
    rw [e]
    clear h e
    go_enter Try.func22, Try.ntmps22
    go_wp2_with fail
    go_ret2
    exact ⟨rfl, rfl⟩
  · have c1 : decide (z < 0) = false := by simpa using h1
    have c2 : decide (8 ≤ z) = true := by simpa using h2
    have e : readR D z off = (⟨#[]⟩, 2) := by unfold readR; rw [if_pos (.inr h2)]
    rw [e]
    clear h e
    go_enter Try.func22, Try.ntmps22
    go_wp2_with fail
    go_ret2
    exact ⟨rfl, rfl⟩
  · have c2 : decide ((8 : Int) ≤ (Z : Int)) = false := by simp; omega
    have hc := h.cellZ Z hZ
    by_cases h1 : off < 0
    · have c3 : decide (off < 0) = true := by simpa using h1
      have e : readR D (Z : Int) off = (⟨#[]⟩, 7) := by unfold readR; rw [if_neg (by omega), if_pos (.inl h1)]
      rw [e]
      clear h e hc
      go_enter Try.func22, Try.ntmps22
      go_wp2_with fail
      go_ret2
      exact ⟨rfl, rfl⟩
    · obtain ⟨O, rfl⟩ := Int.eq_ofNat_of_zero_le (show 0 ≤ off by omega)
      obtain ⟨n, hn⟩ : ∃ n, n = (D.zone Z).length := ⟨_, rfl⟩
      by_cases h2 : n ≤ O
      · obtain ⟨a, cap, hf⟩ := h.form Z hZ
        rw [hf, ← hn] at hc
        have c4 : decide ((n : Int) ≤ (O : Int)) = true := by simp; omega
        have c5 : decide (n ≤ O) = true := by simpa using h2
        have e : readR D (Z : Int) (O : Int) = (⟨#[]⟩, 7) := by unfold readR; rw [if_neg (by omega), if_pos (.inr (by simp; omega))]
        rw [e]
        clear h e hf hn
        go_enter Try.func22, Try.ntmps22
        go_wp2_with fail
        go_ret2
        exact ⟨rfl, rfl⟩
      · have c4 : decide ((n : Int) ≤ (O : Int)) = false := by simp; omega
        have c5 : decide (n ≤ O) = false := by simpa using h2
        have c6 : O < n := by omega
        have e : readR D (Z : Int) (O : Int) = ((D.zone Z).getD O ⟨#[]⟩, 0) := by unfold readR; rw [if_neg (by omega), if_neg (by simp; omega)]; simp
        rw [e]
        obtain ⟨g, cap, hf, hx⟩ := h.at_ Z hZ O (by omega)
        rw [hf, ← hn] at hc
        clear h e hf hn
        go_enter Try.func22, Try.ntmps22
        go_wp2_with fail
        go_ret2
        exact ⟨rfl, rfl⟩

end Go.Proofs.Ytmligbaalbbgiaa

/- The walk of salternlaw.SealSeals: it returns true. Conditions: the packages sum and errors have laid their variables. -/
import Derived.Test.YtmligbaalbbgiabDoorProg
import Derived.Test.YtmligbaalbbgiabDoorBase
import Derived.Test.YtmligbaalbbgiabDoorSealR
import Derived.Test.YtmligbaalbbgiabDoorRoot5
namespace Go.Proofs.YtmligbaalbbgiabDoor
open Go.RowKit

theorem long_yes (s : ByteArray) (h : 60 < s.size) (w : World) : Calls Tryd.prog 24 #[.string s] w fun e w' => e = .returned (.bool true) ∧ w = w' := by
  have b : decide (60 < s.size) = true := by simpa using h
  go_enter Tryd.func24, Tryd.ntmps24
  go_wp2
  go_ret
  exact ⟨by simp; omega, rfl⟩
theorem long_no (s : ByteArray) (h : s.size ≤ 60) (w : World) : Calls Tryd.prog 24 #[.string s] w fun e w' => e = .returned (.bool false) ∧ w = w' := by
  have b : decide (60 < s.size) = false := by simp; omega
  go_enter Tryd.func24, Tryd.ntmps24
  go_wp2
  go_ret
  exact ⟨by simp; omega, rfl⟩

set_option maxRecDepth 100000 in
set_option maxHeartbeats 4000000 in
theorem seals_wide (key text s : ByteArray) (cell : Int) (h : 60 < key.size ∨ 120 < text.size ∨ 200 < s.size) (w : World) :
    Calls Tryd.prog 5 #[.string key, .int .i64 cell, .string text, .string s] w fun e w' => e = .returned (.bool true) ∧ w = w' := by
  by_cases h1 : 60 < key.size
  · clear h
    go_enter Tryd.func5, Tryd.ntmps5
    go_wp2_with (go_at_call 24; refine (long_yes _ h1 _).mono ?_; rintro e w1 ⟨rfl, rfl⟩)
    go_ret
    exact ⟨rfl, rfl⟩
  · have H1 : Hid (key.size ≤ 60) := hide (by omega)
    clear h1
    by_cases h2 : 120 < text.size
    · have c2 : decide (120 < text.size) = true := by simpa using h2
      clear h
      go_enter Tryd.func5, Tryd.ntmps5
      go_wp2_with (go_at_call 24; refine (long_no _ H1.out _).mono ?_; rintro e w1 ⟨rfl, rfl⟩)
      go_ret
      exact ⟨rfl, rfl⟩
    · have h3 : 200 < s.size := by have := H1.out; omega
      have c2 : decide (120 < text.size) = false := by simp; omega
      have c3 : decide (200 < s.size) = true := by simpa using h3
      clear h
      go_enter Tryd.func5, Tryd.ntmps5
      go_wp2_with (go_at_call 24; refine (long_no _ H1.out _).mono ?_; rintro e w1 ⟨rfl, rfl⟩)
      go_ret
      exact ⟨rfl, rfl⟩

/-- What holds in each round: nothing that was there is another one, and the three texts lie in a row. -/
structure SIn (w wr : World) (r g : Nat) (s a ax : ByteArray) : Prop where
  hb : Below w.heap.size w wr
  hr : Blk wr r 125 (words (h0S ++ kS))
  hR : LaidR wr
  hE : LaidE wr
  hg : g < wr.heap.size
  hS : StrCells wr ⟨g, 0, none⟩ [s, a, ax]
theorem SIn.step {w wr w' : World} {r g : Nat} {s a ax : ByteArray} (h : SIn w wr r g s a ax) (hb : Below wr.heap.size wr w') : SIn w w' r g s a ax :=
  ⟨below_step h.hb hb, h.hr.below hb h.hr.lt, h.hR.of_block (hb.block _ h.hR.lt), h.hE.below hb, Nat.lt_of_lt_of_le h.hg hb.size, h.hS.below hb h.hg⟩
theorem getD_mem3 {s a ax : ByteArray} (I : Nat) (h : I < 3) : [s, a, ax].getD I ⟨#[]⟩ ∈ [s, a, ax] := by
  obtain rfl | rfl | rfl : I = 0 ∨ I = 1 ∨ I = 2 := by omega
  all_goals simp [List.getD]
theorem SIn.at_ {w wr : World} {r g : Nat} {s a ax : ByteArray} (h : SIn w wr r g s a ax) (I : Nat) (hI : I < 3) : wr.cell? ⟨g, I, none⟩ = some (.string ([s, a, ax].getD I ⟨#[]⟩)) := by
  have := h.hS I hI
  rwa [show (⟨g, 0, none⟩ : Addr).add I = ⟨g, I, none⟩ from by (unfold Addr.add; split <;> simp_all)] at this

set_option maxRecDepth 100000 in
set_option maxHeartbeats 4000000 in
theorem seals_good (key text s : ByteArray) (cell : Int) (h1 : key.size ≤ 60) (h2 : text.size ≤ 120) (h3 : s.size ≤ 200) (w : World) (hR : LaidR w) (hE : LaidE w) :
    Calls Tryd.prog 5 #[.string key, .int .i64 cell, .string text, .string s] w fun e w' => e = .returned (.bool true) ∧ Below w.heap.size w w' := by
  have HR := hide hR
  have HE := hide hE
  have H1 := hide h1
  have c2 : decide (120 < text.size) = false := by simp; omega
  have c3 : decide (200 < s.size) = false := by simp; omega
  have i2 : decide ((120 : Int) < (text.size : Int)) = false := by simp; omega
  have i3 : decide ((200 : Int) < (s.size : Int)) = false := by simp; omega
  obtain ⟨a, ha⟩ : ∃ a, a = (sealR key cell text).1 := ⟨_, rfl⟩
  obtain ⟨n, hn⟩ : ∃ n, n = (sealR key cell text).2 := ⟨_, rfl⟩
  have hal : a.size ≤ 109 := by rw [ha]; exact sealR_size _ _ _
  have HA := hide ha
  have HN := hide hn
  obtain ⟨ax, hax⟩ : ∃ ax, ax = a ++ ByteArray.mk #[120] := ⟨_, rfl⟩
  have haxl : ax.size ≤ 110 := by rw [hax, ByteArray.size_append]; show a.size + 1 ≤ _; omega
  have HAX := hide hax
  have HAL : Hid (∀ p ∈ [s, a, ax], p.size ≤ 4096) := hide (by
    intro p hp
    simp at hp
    rcases hp with rfl | rfl | rfl <;> omega)
  clear hR hE h1 ha hn hax h3
  go_enter Tryd.func5, Tryd.ntmps5
  go_wp2_with (first
    | (go_at_call 24; refine (long_no _ H1.out _).mono ?_; rintro e w1 ⟨rfl, rfl⟩)
    | (go_at_call 25; go_loud (refine (new_any _).mono ?_; rintro e w1 ⟨rfl, hr1, hb1⟩; have HW1 := hide hr1; have HB1 := hide hb1; have HR1 := hide (HR.out.of_block (hb1.block _ HR.out.lt)); have HE1 := hide (HE.out.below hb1); clear hb1 hr1))
    | (go_at_call 26; go_loud (refine (refseal_any key cell text (Nat.le_trans H1.out (by omega)) _ _ HW1.out).mono ?_; rintro e w2 ⟨rfl, hb2⟩; rw [← HA.out, ← HN.out]; have HB2 := hide (below_step HB1.out hb2); have HW2 := hide (HW1.out.below hb2 HW1.out.lt); have HR2 := hide (HR1.out.of_block (hb2.block _ HR1.out.lt)); have HE2 := hide (HE1.out.below hb2); clear hb2))
    | (go_at_call 21; go_loud (refine (seal_any key cell text _ HR2.out).mono ?_; rintro e w3 ⟨rfl, hb3⟩; rw [← HA.out, ← HN.out]; have HB3 := hide (below_step HB2.out hb3); have HW3 := hide (HW2.out.below hb3 HW2.out.lt); have HR3 := hide (HR2.out.of_block (hb3.block _ HR2.out.lt)); have HE3 := hide (HE2.out.below hb3); clear hb3))
    | (go_at_call 27; go_loud (refine (bare_of n _ HE3.out).mono ?_; rintro e w4 ⟨rfl, hb4⟩; have HB4 := hide (below_step HB3.out hb4); have HW4 := hide (HW3.out.below hb4 HW3.out.lt); have HR4 := hide (HR3.out.of_block (hb4.block _ HR3.out.lt)); have HE4 := hide (HE3.out.below hb4); clear hb4)))
  obtain ⟨g, hg⟩ : ∃ g, g = w4.heap.size := ⟨_, rfl⟩
  obtain ⟨w5, hw5⟩ : ∃ w5, w5 = w4.alloc (.cells #[.string s, .string a, .string (a ++ ByteArray.mk #[120])] 9) := ⟨_, rfl⟩
  have hb5 : Below w4.heap.size w4 w5 := by rw [hw5]; exact (Below.refl _ _).alloc (Nat.le_refl _) _
  have hS5 : StrCells w5 ⟨g, 0, none⟩ [s, a, ax] := by rw [hw5, hg, HAX.out]; exact strs_new w4 _ s a _
  have HB5 := hide (below_step HB4.out hb5)
  have HW5 := hide (HW4.out.below hb5 HW4.out.lt)
  have HR5 := hide (HR4.out.of_block (hb5.block _ HR4.out.lt))
  have HE5 := hide (HE4.out.below hb5)
  have HS5 := hide hS5
  have HG5 : Hid (g < w5.heap.size) := hide (by rw [hw5, hg]; simp)
  rw [← hw5, ← hg]
  clear hw5 hg hb5 hS5 HB4 HW4 HR4 HE4 HB3 HW3 HR3 HE3 HB2 HW2 HR2 HE2 HB1 HW1 HR1 HE1
  clear H1 c2 c3 i2 i3 hal haxl
  go_loopw [65] (fun i wr => ∃ I : Nat, i = .int .i64 (I : Int) ∧ I ≤ 3 ∧ SIn w wr w.heap.size g s a ax) (fun i _ => 3 - (intOf i).toNat)
  case atStart => exact ⟨0, rfl, by omega, HB5.out, HW5.out, HR5.out, HE5.out, HG5.out, HS5.out⟩
  case round =>
    clear HB5 HW5 HR5 HE5 HG5 HS5
    obtain ⟨I, rfl, hI, hin⟩ := hrel
    have HIN := hide hin
    by_cases hlt : I < 3
    · have d0 : decide (I < 3) = true := by simpa using hlt
      obtain ⟨p, hp⟩ : ∃ p, p = [s, a, ax].getD I ⟨#[]⟩ := ⟨_, rfl⟩
      have cx : wr.cell? ⟨g, I, none⟩ = some (.string p) := by rw [hp]; exact hin.at_ I hlt
      have hpl : p.size ≤ 4096 := by rw [hp]; exact HAL.out _ (getD_mem3 I hlt)
      obtain ⟨x1, hx1⟩ : ∃ x, x = (openR key cell p).1 := ⟨_, rfl⟩
      obtain ⟨x2, hx2⟩ : ∃ x, x = (openR key cell p).2.1 := ⟨_, rfl⟩
      obtain ⟨x3, hx3⟩ : ∃ x, x = (openR key cell p).2.2 := ⟨_, rfl⟩
      have HX1 := hide hx1
      have HX2 := hide hx2
      have HX3 := hide hx3
      have HPL := hide hpl
      clear hin hp hpl hx1 hx2 hx3
      go_wp2_with (first
        | (go_at_call 28; go_loud (refine (refopen_any key cell p HPL.out _ _ HIN.out.hr).mono ?_; rintro e w6 ⟨rfl, hb6⟩; rw [← HX1.out, ← HX2.out, ← HX3.out]; have HIN6 := hide (HIN.out.step hb6); clear hb6))
        | (go_at_call 22; go_loud (refine (open_any key cell p HPL.out _ HIN6.out.hR).mono ?_; rintro e w7 ⟨rfl, hb7⟩; rw [← HX1.out, ← HX2.out, ← HX3.out]; have HIN7 := hide (HIN6.out.step hb7); clear hb7))
        | (go_at_call 27; go_loud (refine (bare_of x3 _ HIN7.out.hE).mono ?_; rintro e w8 ⟨rfl, hb8⟩; have HIN8 := hide (HIN7.out.step hb8); clear hb8)))
      refine ⟨⟨I + 1, by go_num, by omega, HIN8.out⟩, by simp [intOf]; omega⟩
    · obtain rfl : I = 3 := by omega
      have d0 : decide (3 < 3) = false := by simp
      clear hin
      go_wp2_with fail
      go_ret
      exact ⟨rfl, HIN.out.hb⟩
theorem seals_any (key text s : ByteArray) (cell : Int) (w : World) (hR : LaidR w) (hE : LaidE w) :
    Calls Tryd.prog 5 #[.string key, .int .i64 cell, .string text, .string s] w fun e w' => e = .returned (.bool true) ∧ Below w.heap.size w w' := by
  by_cases h : 60 < key.size ∨ 120 < text.size ∨ 200 < s.size
  · exact (seals_wide key text s cell h w).mono fun e w' ⟨he, hw⟩ => ⟨he, hw ▸ Below.refl _ _⟩
  · exact seals_good key text s cell (by omega) (by omega) (by omega) w hR hE
end Go.Proofs.YtmligbaalbbgiabDoor

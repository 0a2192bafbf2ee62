/- The library's way from a number to its hexadecimal digits, of a number from 256 to 511. Condition: the table of trailing zeros is laid. -/
import Derived.Test.YtmligbaalbbgiaaDoorProg
import Derived.Test.YtmligbaalbbgiaaDoorBase
import Derived.Test.YtmligbaalbbgiaaDoorHex
namespace Go.Proofs.YtmligbaalbbgiaaDoor
open Go.RowKit

/-- The table's one number that is read. -/
def LaidB (w : World) : Prop := w.cell? ⟨5, 15, none⟩ = some (.int .u8 4)
theorem pow2_16 (w : World) : Calls Tryd.prog 87 #[.int .i64 16] w fun e w' => e = .returned (.bool true) ∧ w' = w := by
  have b0 : bits .and .i64 16 15 = 0 := by decide
  go_enter Tryd.func87, Tryd.ntmps87
  go_wp2
  go_ret
  exact ⟨rfl, rfl⟩
theorem tz64_16 (w : World) (h : LaidB w) : Calls Tryd.prog 90 #[.int .u64 16] w fun e w' => e = .returned (.int .i64 4) ∧ w' = w := by
  have e0 : bits .and .u64 16 (IntKind.u64.wrap (-16)) = 16 := by decide
  have e1 : IntKind.u64.wrap (16 * 285870213051353865) = 4573923408821661840 := by decide
  have e2 : IntKind.u64.wrap 4573923408821661840 = 4573923408821661840 := by decide
  unfold LaidB at h
  go_enter Tryd.func90, Tryd.ntmps90
  go_wp2
  go_ret
  exact ⟨rfl, rfl⟩
theorem tz_16 (w : World) (h : LaidB w) : Calls Tryd.prog 88 #[.int .u64 16] w fun e w' => e = .returned (.int .i64 4) ∧ w' = w := by
  have H := hide h
  clear h
  go_enter Tryd.func88, Tryd.ntmps88
  go_wp2_with (go_at_call 90; refine (tz64_16 _ H.out).mono ?_; rintro e w1 ⟨rfl, rfl⟩)
  go_ret
  exact ⟨rfl, rfl⟩

/-- The digits that the library knows. -/
def digT : ByteArray := { data := #[48, 49, 50, 51, 52, 53, 54, 55, 56, 57, 97, 98, 99, 100, 101, 102, 103, 104, 105, 106, 107, 108, 109, 110, 111, 112, 113, 114, 115, 116, 117, 118, 119, 120, 121, 122] }
theorem and15 (u : Nat) (h : u < 18446744073709551616) : bits .and .u64 (u : Int) 15 = ((u % 16 : Nat) : Int) := by
  rw [show (15 : Int) = ((15 : Nat) : Int) from rfl, u64_and_nat u 15 h (by omega), nat_mask4]
theorem and15' (u : Nat) (h : u < 18446744073709551616) : bits .and .u64 (u : Int) 15 = (u : Int) % 16 := by
  rw [and15 u h]
  simp
theorem and15i (x : Int) (u : Nat) (hx : x = (u : Int)) (h : u < 18446744073709551616) : bits .and .u64 x 15 = x % 16 := by
  subst hx
  exact and15' u h

theorem digT_get (n : Nat) (h : n < 16) (p : n < digT.size) : digT[n]'p = hexD n := by
  have h : ∀ m : Fin 16, digT[m.1]'(by have := m.2; exact Nat.lt_trans this (by decide)) = hexD m := by decide
  exact h ⟨n, by omega⟩
theorem string_tail (w : World) (cs : Array Value) (t : Nat) (hs : cs.size = 65) (x y z : UInt8) :
    (convert 59 9 (.slice (some ⟨w.heap.size, 62, none⟩) 3 3)).run Tryd.prog (w.alloc (.cells (((cs.setIfInBounds 64 (.int .u8 (x.toNat : Int))).setIfInBounds 63 (.int .u8 (y.toNat : Int))).setIfInBounds 62 (.int .u8 (z.toNat : Int))) t))
      = .ok (.string (ofl [z, y, x])) (w.alloc (.cells (((cs.setIfInBounds 64 (.int .u8 (x.toNat : Int))).setIfInBounds 63 (.int .u8 (y.toNat : Int))).setIfInBounds 62 (.int .u8 (z.toNat : Int))) t)) := by
  have h := run_convert_bytes_arg (P := Tryd.prog) (w.alloc (.cells (((cs.setIfInBounds 64 (.int .u8 (x.toNat : Int))).setIfInBounds 63 (.int .u8 (y.toNat : Int))).setIfInBounds 62 (.int .u8 (z.toNat : Int))) t)) 59 5 Tryd.underlying59 Tryd.underlying5 w.heap.size 62 3 3 ([z, y, x].map fun c => (c.toNat : Int)) rfl (by
    intro i hi
    rw [cell_of_row _ _ _ _ t (0, 0) (heap_alloc_new w _)]
    have : i = 0 ∨ i = 1 ∨ i = 2 := by omega
    rcases this with rfl | rfl | rfl <;> simp [Array.getElem?_setIfInBounds, hs]) 9 Tryd.underlying9
  rw [h, strOfNums_bytes]

set_option maxRecDepth 100000 in
set_option maxHeartbeats 4000000 in
theorem formatBits_16 (u : Nat) (h1 : 256 ≤ u) (h2 : u < 512) (w : World) (h : LaidB w) :
    Calls Tryd.prog 80 #[.slice none 0 0, .int .u64 (u : Int), .int .i64 16, .bool false, .bool false] w fun e w' => e = .returned (.tuple #[.slice none 0 0, .string (ofl [49, hexD (u % 256 / 16), hexD (u % 16)])]) ∧ Below w.heap.size w w' := by
  have H : Hid (LaidB (w.alloc (.cells Tryd.zeroCells156 156))) := hide ((World.cell?_of_block (w := w) (w' := w.alloc (.cells Tryd.zeroCells156 156)) (a := ⟨5, 15, none⟩) (Below.heap_alloc w _ _ (block_lt_of_cell h))).trans h)
  clear h
  have a1 := and15' u (by omega)
  have a2 := and15i ((u : Int) / 16) (u / 16) (by omega) (by omega)
  have t1 : decide ((16 : Int) ≤ (u : Int)) = true := by simp; omega
  have t1' : decide (16 ≤ u) = true := by simp; omega
  have t2 : decide ((16 : Int) ≤ (u : Int) / 16) = true := by simp; omega
  have t3 : decide ((16 : Int) ≤ (u : Int) / 16 / 16) = false := by simp; omega
  have i1 : (0 : Int) ≤ (u : Int) % 16 := by omega
  have i2 : (u : Int) % 16 < 36 := by omega
  have i3 : (0 : Int) ≤ (u : Int) / 16 % 16 := by omega
  have i4 : (u : Int) / 16 % 16 < 36 := by omega
  have i5 : (u : Int) / 16 / 16 = 1 := by omega
  have hcv := string_tail w Tryd.zeroCells156 156 (by kernel_rfl)
  go_enter Tryd.func80, Tryd.ntmps80
  go_wp2_with (first
    | (go_at_call 87; refine (pow2_16 _).mono ?_; rintro e w1 ⟨rfl, rfl⟩)
    | (go_at_call 88; refine (tz_16 _ (H.out)).mono ?_; rintro e w1 ⟨rfl, rfl⟩))
  refine wp_loop_rounds 3 ?_
  rw [rounds_succ]
  go_wp2
  rw [rounds_succ]
  go_wp2
  rw [rounds_succ]
  go_wp2
  go_ret2
  refine ⟨?_, (Below.refl _ _).alloc (Nat.le_refl _) _⟩
  have e1 : digT[1]'(by decide) = 49 := by decide
  have e2 := digT_get (u / 16 % 16) (by omega) (by have : digT.size = 36 := by decide
                                                   omega)
  have e3 := digT_get (u % 16) (by omega) (by have : digT.size = 36 := by decide
                                              omega)
  rw [show u % 256 / 16 = u / 16 % 16 from by omega, ← e2, ← e3, ← e1]
  rfl
theorem intFormatInt_16 (u : Nat) (h1 : 256 ≤ u) (h2 : u < 512) (w : World) (h : LaidB w) :
    Calls Tryd.prog 67 #[.int .i64 (u : Int), .int .i64 16] w fun e w' => e = .returned (.string (ofl [49, hexD (u % 256 / 16), hexD (u % 16)])) ∧ Below w.heap.size w w' := by
  have H := hide h
  clear h
  have b0 : decide ((u : Int) < 0) = false := by simp
  go_enter Tryd.func67, Tryd.ntmps67
  go_wp2_with (go_at_call 80; go_loud (refine (formatBits_16 u h1 h2 _ H.out).mono ?_; rintro e w1 ⟨rfl, hb⟩))
  go_ret
  exact ⟨rfl, hb⟩
theorem formatInt_16 (u : Nat) (h1 : 256 ≤ u) (h2 : u < 512) (w : World) (h : LaidB w) :
    Calls Tryd.prog 53 #[.int .i64 (u : Int), .int .i64 16] w fun e w' => e = .returned (.string (ofl [49, hexD (u % 256 / 16), hexD (u % 16)])) ∧ Below w.heap.size w w' := by
  have H := hide h
  clear h
  go_enter Tryd.func53, Tryd.ntmps53
  go_wp2_with (go_at_call 67; go_loud (refine (intFormatInt_16 u h1 h2 _ H.out).mono ?_; rintro e w1 ⟨rfl, hb⟩))
  go_ret
  exact ⟨rfl, hb⟩
theorem formatInt_byte (c : Nat) (hc : c < 256) (X : Int) (hX : X = (c : Int) + 256) (w : World) (h : LaidB w) :
    Calls Tryd.prog 53 #[.int .i64 X, .int .i64 16] w fun e w' => e = .returned (.string (ofl [49, hexD (c / 16), hexD (c % 16)])) ∧ Below w.heap.size w w' := by
  have h1 := formatInt_16 (c + 256) (by omega) (by omega) w h
  rw [show (c + 256) % 256 / 16 = c / 16 from by omega, show (c + 256) % 16 = c % 16 from by omega] at h1
  rw [hX, show (c : Int) + 256 = ((c + 256 : Nat) : Int) from by omega]
  exact h1

set_option maxRecDepth 100000 in
set_option maxHeartbeats 1000000 in
theorem refHex_any (s : ByteArray) (hs : s.size ≤ 65536) (w : World) (h : LaidB w) :
    Calls Tryd.prog 31 #[.string s] w fun e w' => e = .returned (.string (ofl (hexS (bl s)))) ∧ Below w.heap.size w w' := by
  have H := hide h
  clear h
  go_enter Tryd.func31, Tryd.ntmps31
  go_wp2
  go_loopw [3, 7] (fun o i wr => ∃ k : Nat, i = .int .i64 (k : Int) ∧ k ≤ s.size ∧ o = .string (ofl (hexS ((bl s).take k))) ∧ Below w.heap.size w wr) (fun _ i _ => s.size - (intOf i).toNat)
  case atStart => exact ⟨0, rfl, by omega, rfl, Below.refl _ _⟩
  case round =>
    obtain ⟨wa, rfl⟩ : ∃ wa : World, wa = wr := ⟨_, rfl⟩
    obtain ⟨k, rfl, hk, rfl, hbel⟩ := hrel
    have HBE := hide hbel
    clear hbel
    obtain ⟨o, ho⟩ : ∃ o, o = ofl (hexS ((bl s).take k)) := ⟨_, rfl⟩
    have hol : o.size ≤ 131072 := by rw [ho, ofl_size, hexS_length, List.length_take]; omega
    rw [← ho]
    have HO := hide ho
    clear ho
    by_cases hlt : k < s.size
    · have b0 : (k : Int) < (s.size : Int) := by omega
      have b1 : decide (k < s.size) = true := by simpa using hlt
      obtain ⟨c, hc⟩ : ∃ c, c = byteAt (bl s) k := ⟨_, rfl⟩
      have hcl : c < 256 := by rw [hc]; exact byteAt_lt _ _
      have hcs : (s[k].toNat : Int) = (c : Int) := by rw [hc, byteAt_bl s k hlt]
      have HC := hide hc
      have HCS := hide hcs
      clear hc hcs
      obtain ⟨F, hF⟩ : ∃ F, F = ofl [49, hexD (c / 16), hexD (c % 16)] := ⟨_, rfl⟩
      have hFl : F.size = 3 := by rw [hF]; rfl
      have hFl1 : 1 ≤ F.size := by omega
      have hFl2 : F.size ≤ 3 := by omega
      have HF := hide hF
      clear hF
      go_wp2_with (go_at_call 53; go_loud (refine (formatInt_byte c hcl _ (by rw [HCS.out]; unfold wrap64; omega) _ (by unfold LaidB; exact (HBE.out.cell (p := ⟨5, 15, none⟩) (block_lt_of_cell H.out)).trans H.out)).mono ?_; rintro e w1 ⟨rfl, hb1⟩; rw [← HF.out]; have HB1 := hide (below_step HBE.out hb1); clear hb1))
      refine ⟨⟨k + 1, by go_num, by omega, ?_, HB1.out⟩, by simp [intOf]; omega⟩
      have e : o ++ F.extract 1 3 = ofl (hexS ((bl s).take (k + 1))) := by
        apply bl_inj
        have e2 : bl (F.extract 1 3) = [hexD (c / 16), hexD (c % 16)] := by
          rw [bl_extract, HF.out]
          rfl
        rw [hexS_take s k hlt, bl_ofl]
        have hcn : s[k].toNat = c := by have := HCS.out; omega
        rw [hcn, ← e2, HO.out]
        simp [bl, ofl]
      rw [e]
    · obtain rfl : k = s.size := by omega
      have b0 : decide (s.size < s.size) = false := by simp
      have hX : Hid (o = ofl (hexS (bl s))) := hide (by rw [HO.out, List.take_of_length_le (by rw [bl_length]; exact Nat.le_refl _)])
      go_wp2_with fail
      go_ret
      refine ⟨?_, HBE.out⟩
      show Ending.returned (Value.string o) = _
      rw [hX.out]
end Go.Proofs.YtmligbaalbbgiaaDoor

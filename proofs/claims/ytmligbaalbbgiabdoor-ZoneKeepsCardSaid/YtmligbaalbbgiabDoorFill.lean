/- The functions strings.Repeat at one zero byte, salternref.zeros, salternref.long. Conditions: at most 65536 bytes. -/
import Derived.Test.YtmligbaalbbgiabDoorProg
import Derived.Test.YtmligbaalbbgiabDoorBase
import Derived.Test.YtmligbaalbbgiabDoorShelf1
namespace Go.Proofs.YtmligbaalbbgiabDoor
open Go.RowKit

/-- A text, as long as it must be: zeros behind it, or cut. -/
def longL (l : List UInt8) (n : Nat) : List UInt8 := (l ++ List.replicate (n - l.length) 0).take n
theorem longL_length (l : List UInt8) (n : Nat) : (longL l n).length = n := by
  simp [longL]; omega
theorem longL_short {l : List UInt8} {n : Nat} (h : l.length ≤ n) : longL l n = l ++ List.replicate (n - l.length) 0 := by
  unfold longL
  rw [List.take_of_length_le]
  simp; omega
theorem longL_cut {l : List UInt8} {n : Nat} (h : n ≤ l.length) : longL l n = l.take n := by
  unfold longL
  rw [show n - l.length = 0 from by omega]
  simp
theorem repeatL_zero (n : Nat) : Lib.repeatL [0] n = List.replicate n 0 := by
  induction n with
  | zero => rfl
  | succ n ih => rw [Lib.repeatL, ih]; rfl
theorem repeat0 (c : Nat) (hc : c ≤ 65536) (w : World) :
    Calls Tryd.prog 17 #[.string ⟨#[0]⟩, .int .i64 (c : Int)] w fun e w' => e = .returned (.string (ofl (List.replicate c 0))) ∧ Below w.heap.size w w' := by
  refine (Go.Proofs.Tryd.strings_Repeat ⟨#[0]⟩ c w (by omega) (by show 1 * c ≤ _; omega)).mono fun e w' ⟨he, hb⟩ => ⟨?_, hb⟩
  rw [he]
  show Ending.returned (Value.string (ofl (Lib.repeatL [0] c))) = _
  rw [repeatL_zero]
theorem repeat0_int (n : Int) (c : Nat) (hn : n = (c : Int)) (hc : c ≤ 65536) (w : World) :
    Calls Tryd.prog 17 #[.string ⟨#[0]⟩, .int .i64 n] w fun e w' => e = .returned (.string (ofl (List.replicate c 0))) ∧ Below w.heap.size w w' := by
  subst hn
  exact repeat0 c hc w
theorem zeros_int (n : Int) (c : Nat) (hn : n = (c : Int)) (hc : c ≤ 65536) (w : World) :
    Calls Tryd.prog 87 #[.int .i64 n] w fun e w' => e = .returned (.string (ofl (List.replicate c 0))) ∧ Below w.heap.size w w' := by
  subst hn
  go_enter Tryd.func87, Tryd.ntmps87
  go_wp2_with (go_at_call 17; refine (repeat0 c hc _).mono ?_; rintro e w1 ⟨rfl, hb1⟩; have HB1 := hide hb1; clear hb1)
  go_ret
  exact ⟨rfl, HB1.out⟩
set_option maxRecDepth 100000 in
theorem long_any (s : ByteArray) (n : Nat) (hs : s.size ≤ 65536) (hn : n ≤ 65536) (w : World) :
    Calls Tryd.prog 85 #[.string s, .int .i64 (n : Int)] w fun e w' => e = .returned (.string (ofl (longL (bl s) n))) ∧ Below w.heap.size w w' := by
  by_cases h : s.size < n
  · have c1 : decide (s.size < n) = true := by simpa using h
    obtain ⟨Z, hZ⟩ : ∃ Z, Z = ofl (List.replicate (n - s.size) 0) := ⟨_, rfl⟩
    have hzl : Z.size = n - s.size := by rw [hZ, ofl_size, List.length_replicate]
    have hz1 : n ≤ s.size + Z.size := by omega
    have hz2 : Z.size ≤ 65536 := by omega
    have HZ := hide hZ
    have e1 : (n : Int) - (s.size : Int) = ((n - s.size : Nat) : Int) := by omega
    have E1 := hide e1
    clear hZ hzl e1
    go_enter Tryd.func85, Tryd.ntmps85
    go_wp2_with (go_at_call 87; refine (zeros_int _ (n - s.size) E1.out (by omega) _).mono ?_; rintro e w1 ⟨rfl, hb1⟩; rw [← HZ.out]; have HB1 := hide hb1; clear hb1)
    go_ret
    refine ⟨?_, HB1.out⟩
    show Ending.returned (Value.string ((s ++ Z).extract 0 n)) = _
    congr 2
    apply bl_inj
    rw [bl_extract, bl_ofl, longL, bl_length, HZ.out]
    simp [bl, ofl]
  · have c1 : decide (s.size < n) = false := by simpa using h
    have h2 : n ≤ s.size := by omega
    go_enter Tryd.func85, Tryd.ntmps85
    go_wp2_with fail
    go_ret
    refine ⟨?_, Below.refl _ _⟩
    show Ending.returned (Value.string (s.extract 0 n)) = _
    congr 2
    apply bl_inj
    rw [bl_extract, bl_ofl, longL_cut (by rw [bl_length]; exact h2)]
    simp
end Go.Proofs.YtmligbaalbbgiabDoor

/- What a sealed text is, as plain functions; the function seal.tag. Conditions: texts of at most 4096 bytes; the package sum has laid its numbers. -/
import Derived.Test.YtmligbaalbbgiabDoorProg
import Derived.Test.YtmligbaalbbgiabDoorBase
import Derived.Test.YtmligbaalbbgiabDoorSum5
import Derived.Test.YtmligbaalbbgiabDoorStreamS
import Derived.Test.YtmligbaalbbgiabDoorFill
namespace Go.Proofs.YtmligbaalbbgiabDoor
open Go.RowKit

/-- A number's eight bytes. -/
def numL (n : Int) : List UInt8 := be8U (n % 18446744073709551616).toNat 8
/-- The mark of a key, a cell, a text. -/
def tagL (kind : UInt8) (key : ByteArray) (cell : Int) (s : ByteArray) : List UInt8 := (sumBy kS h0S (markT kind [key, ofl (numL cell), s] 3)).take 16
theorem tagL_length (kind : UInt8) (key : ByteArray) (cell : Int) (s : ByteArray) : (tagL kind key cell s).length = 16 := by
  unfold tagL
  rw [List.length_take, sumBy_length]
  rfl
/-- The nonce of a text. -/
def nonceL (key : ByteArray) (cell : Int) (text : ByteArray) : List UInt8 := (tagL 110 key cell text).take 12
theorem nonceL_length (key : ByteArray) (cell : Int) (text : ByteArray) : (nonceL key cell text).length = 12 := by
  unfold nonceL
  rw [List.length_take, tagL_length]
  rfl
/-- What is taken together with a key's blocks. -/
def plainL (text : ByteArray) : List UInt8 := UInt8.ofNat text.size :: longL (bl text) 80
theorem plainL_length (text : ByteArray) : (plainL text).length = 81 := by simp [plainL, longL_length]
def bodyL (key : ByteArray) (cell : Int) (text : ByteArray) : List UInt8 := xorS (bl key) (nonceL key cell text) (plainL text)
theorem bodyL_length (key : ByteArray) (cell : Int) (text : ByteArray) : (bodyL key cell text).length = 81 := by
  unfold bodyL
  rw [xorS_length, plainL_length]
/-- A sealed text. -/
def sealL (key : ByteArray) (cell : Int) (text : ByteArray) : List UInt8 :=
  tagL 103 key cell (ofl (nonceL key cell text ++ bodyL key cell text)) ++ nonceL key cell text ++ bodyL key cell text
theorem sealL_length (key : ByteArray) (cell : Int) (text : ByteArray) : (sealL key cell text).length = 109 := by
  simp [sealL, tagL_length, nonceL_length, bodyL_length]

theorem three_small {p0 p1 p2 : ByteArray} (h0 : p0.size ≤ 4096) (h1 : p1.size ≤ 4096) (h2 : p2.size ≤ 4096) : ∀ p ∈ [p0, p1, p2], p.size ≤ 4096 := by
  intro p hp
  simp at hp
  rcases hp with rfl | rfl | rfl <;> assumption
theorem strs_new (w : World) (t : Nat) (p0 p1 p2 : ByteArray) : StrCells (w.alloc (.cells #[.string p0, .string p1, .string p2] t)) ⟨w.heap.size, 0, none⟩ [p0, p1, p2] := by
  intro i hi
  rw [show (⟨w.heap.size, 0, none⟩ : Addr).add i = ⟨w.heap.size, i, none⟩ from by (unfold Addr.add; split <;> simp_all), cell_of_row _ _ _ _ _ (0, 0) (heap_alloc_new w _)]
  simp at hi
  obtain rfl | rfl | rfl : i = 0 ∨ i = 1 ∨ i = 2 := by omega
  all_goals rfl
theorem mark3 (kind : UInt8) (p0 p1 p2 : ByteArray) (h0 : p0.size ≤ 4096) (h1 : p1.size ≤ 4096) (h2 : p2.size ≤ 4096) (k : Int) (hk : k = (kind.toNat : Int)) (t : Nat) (w : World) (hR : LaidR w) :
    Calls Tryd.prog 75 #[.int .u8 k, .slice (some ⟨w.heap.size, 0, none⟩) 3 3] (w.alloc (.cells #[.string p0, .string p1, .string p2] t)) fun e w' =>
      e = .returned (.string (ofl ((sumBy kS h0S (markT kind [p0, p1, p2] 3)).take 16))) ∧ Below (w.heap.size + 1) (w.alloc (.cells #[.string p0, .string p1, .string p2] t)) w' := by
  subst hk
  have h := mark_any kind [p0, p1, p2] (by simp) (three_small h0 h1 h2) ⟨w.heap.size, 0, none⟩ 3 (w.alloc (.cells #[.string p0, .string p1, .string p2] t)) (hR.of_block (Below.heap_alloc w _ _ hR.lt)) (by simp) (strs_new w t p0 p1 p2)
  exact h.mono fun e w' ⟨he, hb⟩ => ⟨he, by simpa using hb⟩

set_option maxRecDepth 100000 in
set_option maxHeartbeats 1000000 in
theorem tag_any (key : ByteArray) (cell : Int) (s : ByteArray) (hk : key.size ≤ 4096) (hs : s.size ≤ 4096) (w : World) (hR : LaidR w) :
    Calls Tryd.prog 78 #[.string key, .int .i64 cell, .string s] w fun e w' => e = .returned (.string (ofl (tagL 103 key cell s))) ∧ Below w.heap.size w w' := by
  have HR := hide hR
  have HK := hide hk
  have HS := hide hs
  obtain ⟨N, hN⟩ : ∃ N, N = ofl (numL cell) := ⟨_, rfl⟩
  have HNl : Hid (N.size ≤ 4096) := hide (by rw [hN, ofl_size]; unfold numL; rw [be8U_length]; omega)
  have HN : Hid (N = ofl (be8U (cell % 18446744073709551616).toNat 8)) := hide hN
  have HTG : Hid ((ofl ((sumBy kS h0S (markT 103 [key, N, s] 3)).take 16)) = ofl (tagL 103 key cell s)) := hide (by rw [hN]; rfl)
  clear hR hN hk hs
  go_enter Tryd.func78, Tryd.ntmps78
  go_upto_region 2 with (go_at_call 76; refine (num_any _ _).mono ?_; rintro e w1 ⟨rfl, hb1⟩; rw [← HN.out]; have HB1 := hide hb1; clear hb1)
  have HR1 : Hid (LaidR w1) := hide (HR.out.of_block (HB1.out.block _ HR.out.lt))
  have HB2 : Hid (Below w.heap.size w (w1.alloc (.cells #[.string key, .string N, .string s] 177))) := hide (HB1.out.alloc HB1.out.size _)
  go_wp2_with (go_at_call 75; go_loud (refine (mark3 103 key N s HK.out HNl.out HS.out _ rfl _ _ HR1.out).mono ?_; rintro e w2 ⟨rfl, hb2⟩; rw [HTG.out]; have HB3 := hide (HB2.out.trans (hb2.mono (Nat.le_trans HB1.out.size (Nat.le_succ _)))); clear hb2))
  go_ret
  exact ⟨rfl, HB3.out⟩
end Go.Proofs.YtmligbaalbbgiabDoor

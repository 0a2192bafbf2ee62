/- The reference's Key, and a counter's functions. Conditions: a secret of at most 4096 bytes; the reference's block holds its numbers. -/
import Derived.Test.YtmligbaalbbgiaaDoorProg
import Derived.Test.YtmligbaalbbgiaaDoorBase
import Derived.Test.YtmligbaalbbgiaaDoorMeter2
import Derived.Test.YtmligbaalbbgiaaDoorRefSum4
namespace Go.Proofs.YtmligbaalbbgiaaDoor
open Go.RowKit


set_option maxRecDepth 100000 in
set_option maxHeartbeats 2000000 in
theorem refkey_wBlocks (s : ByteArray) (hs : s.size ≤ 4096) (h16 : s.size = 16) (r : Nat) (w : World) (hR : Blk w r 93 (words (h0S ++ kS))) :
    Calls Tryd.prog 28 #[.pointer (some ⟨r, 0, none⟩), .string s, .int .u8 98] w fun e w' => e = .returned (.tuple #[.string (keyB s wBlocks), .int .i64 0]) ∧ Below w.heap.size w w' := by
  have HP : Hid (∀ p ∈ [s, wBlocks], p.size ≤ 4096) := hide (by
    intro p hp
    simp only [List.mem_cons, List.not_mem_nil, or_false] at hp
    rcases hp with rfl | rfl
    · exact hs
    · decide)
  obtain ⟨M, hM⟩ : ∃ M, M = ofl ((sumBy kS h0S (markT 107 [s, wBlocks] 2)).take 16) := ⟨_, rfl⟩
  have hMl : M.size ≤ 16 := by rw [hM, ofl_size, List.length_take]; omega
  have HM := hide hM
  have HSC := hide (strCells_two w s wBlocks 9)
  have HR3 : Hid (Blk (w.alloc (.cells #[.string s, .string wBlocks] 9)) r 93 (words (h0S ++ kS))) := hide (hR.alloc _)
  have HB3 : Hid (Below w.heap.size w (w.alloc (.cells #[.string s, .string wBlocks] 9))) := hide ((Below.refl _ _).alloc (Nat.le_refl _) _)
  have c0 : ((s.size : Int) != 16) = false := by simp; omega
  have c0' : (s.size != 16) = false := by simp; omega
  clear hM hR
  go_enter Tryd.func28, Tryd.ntmps28
  go_wp2_with (first
    | (go_at_call 34; go_loud (refine (refmark_any 107 [s, wBlocks] (by simp) HP.out _ _ r _ HR3.out (by simp) HSC.out).mono ?_; rintro e1 w3 ⟨rfl, hb3⟩; have HR4 := hide (HR3.out.below hb3 HR3.out.lt); have HB4 := hide (below_step HB3.out hb3); clear hb3; rw [show ofl ((sumBy kS h0S (markT 107 [s, wBlocks] [s, wBlocks].length)).take 16) = M from HM.out.symm]))
    | (go_at_call 29; go_loud (refine (refsum_any M (by omega) r _ HR4.out).mono ?_; rintro e1 w4 ⟨rfl, hb4⟩; have HB5 := hide (below_step HB4.out hb4); clear hb4)))
  go_ret2
  refine ⟨?_, HB5.out⟩
  rw [HM.out]
  rfl

set_option maxRecDepth 100000 in
set_option maxHeartbeats 2000000 in
theorem refkey_wTables (s : ByteArray) (hs : s.size ≤ 4096) (h16 : s.size = 16) (r : Nat) (w : World) (hR : Blk w r 93 (words (h0S ++ kS))) :
    Calls Tryd.prog 28 #[.pointer (some ⟨r, 0, none⟩), .string s, .int .u8 116] w fun e w' => e = .returned (.tuple #[.string (keyB s wTables), .int .i64 0]) ∧ Below w.heap.size w w' := by
  have HP : Hid (∀ p ∈ [s, wTables], p.size ≤ 4096) := hide (by
    intro p hp
    simp only [List.mem_cons, List.not_mem_nil, or_false] at hp
    rcases hp with rfl | rfl
    · exact hs
    · decide)
  obtain ⟨M, hM⟩ : ∃ M, M = ofl ((sumBy kS h0S (markT 107 [s, wTables] 2)).take 16) := ⟨_, rfl⟩
  have hMl : M.size ≤ 16 := by rw [hM, ofl_size, List.length_take]; omega
  have HM := hide hM
  have HSC := hide (strCells_two w s wTables 9)
  have HR3 : Hid (Blk (w.alloc (.cells #[.string s, .string wTables] 9)) r 93 (words (h0S ++ kS))) := hide (hR.alloc _)
  have HB3 : Hid (Below w.heap.size w (w.alloc (.cells #[.string s, .string wTables] 9))) := hide ((Below.refl _ _).alloc (Nat.le_refl _) _)
  have c0 : ((s.size : Int) != 16) = false := by simp; omega
  have c0' : (s.size != 16) = false := by simp; omega
  clear hM hR
  go_enter Tryd.func28, Tryd.ntmps28
  go_wp2_with (first
    | (go_at_call 34; go_loud (refine (refmark_any 107 [s, wTables] (by simp) HP.out _ _ r _ HR3.out (by simp) HSC.out).mono ?_; rintro e1 w3 ⟨rfl, hb3⟩; have HR4 := hide (HR3.out.below hb3 HR3.out.lt); have HB4 := hide (below_step HB3.out hb3); clear hb3; rw [show ofl ((sumBy kS h0S (markT 107 [s, wTables] [s, wTables].length)).take 16) = M from HM.out.symm]))
    | (go_at_call 29; go_loud (refine (refsum_any M (by omega) r _ HR4.out).mono ?_; rintro e1 w4 ⟨rfl, hb4⟩; have HB5 := hide (below_step HB4.out hb4); clear hb4)))
  go_ret2
  refine ⟨?_, HB5.out⟩
  rw [HM.out]
  rfl

set_option maxRecDepth 100000 in
set_option maxHeartbeats 2000000 in
theorem refkey_short (s : ByteArray) (h16 : s.size ≠ 16) (k : Nat) (r : Nat) (w : World) :
    Calls Tryd.prog 28 #[.pointer (some ⟨r, 0, none⟩), .string s, .int .u8 (k : Int)] w fun e w' => e = .returned (.tuple #[.string { data := #[] }, .int .i64 1]) ∧ Below w.heap.size w w' := by
  have c0 : ((s.size : Int) != 16) = true := by simp; omega
  have c0' : (s.size != 16) = true := by simp; omega
  go_enter Tryd.func28, Tryd.ntmps28
  go_wp2_with fail
  go_ret2
  exact ⟨rfl, Below.refl _ _⟩
set_option maxRecDepth 100000 in
set_option maxHeartbeats 2000000 in
theorem refkey_none (s : ByteArray) (h16 : s.size = 16) (k : Nat) (h1 : k ≠ 98) (h2 : k ≠ 116) (r : Nat) (w : World) :
    Calls Tryd.prog 28 #[.pointer (some ⟨r, 0, none⟩), .string s, .int .u8 (k : Int)] w fun e w' => e = .returned (.tuple #[.string { data := #[] }, .int .i64 8]) ∧ Below w.heap.size w w' := by
  have c0 : ((s.size : Int) != 16) = false := by simp; omega
  have c0' : (s.size != 16) = false := by simp; omega
  have c1 : ((k : Int) == 98) = false := by simp; omega
  have c2 : ((k : Int) == 116) = false := by simp; omega
  go_enter Tryd.func28, Tryd.ntmps28
  go_wp2_with fail
  go_ret2
  exact ⟨rfl, Below.refl _ _⟩
/-- The word of a use, and whether there is such a use. -/
def wordOf (k : Nat) : ByteArray := if k = 98 then wBlocks else if k = 116 then wTables else { data := #[] }
def okOf (k : Nat) : Bool := if k = 98 then true else if k = 116 then true else false
theorem useV_of (k : Nat) : useV (k : Int) = (.agg #[.string (wordOf k)], okOf k) := by
  unfold useV wordOf okOf
  by_cases h1 : k = 98
  · subst h1; rfl
  · by_cases h2 : k = 116
    · subst h2; rfl
    · have n1 : ¬ (k : Int) = 98 := by omega
      have n2 : ¬ (k : Int) = 116 := by omega
      simp [h1, h2, n1, n2]
theorem wordOf_size (k : Nat) : (wordOf k).size ≤ 6 := by
  unfold wordOf
  split
  · decide
  · split <;> decide
theorem refkey_any (s : ByteArray) (hs : s.size ≤ 4096) (k : Nat) (r : Nat) (w : World) (hR : Blk w r 93 (words (h0S ++ kS))) :
    Calls Tryd.prog 28 #[.pointer (some ⟨r, 0, none⟩), .string s, .int .u8 (k : Int)] w fun e w' => e = .returned (.tuple #[.string (keyR s (wordOf k) (okOf k)).1, .int .i64 ((keyR s (wordOf k) (okOf k)).2 : Nat)]) ∧ Below w.heap.size w w' := by
  by_cases h16 : s.size = 16
  · by_cases h1 : k = 98
    · subst h1
      have e : keyR s (wordOf 98) (okOf 98) = (keyB s wBlocks, 0) := by simp [keyR, h16, wordOf, okOf]
      rw [e]
      exact refkey_wBlocks s hs h16 r w hR
    · by_cases h2 : k = 116
      · subst h2
        have e : keyR s (wordOf 116) (okOf 116) = (keyB s wTables, 0) := by simp [keyR, h16, wordOf, okOf]
        rw [e]
        exact refkey_wTables s hs h16 r w hR
      · have e : keyR s (wordOf k) (okOf k) = ({ data := #[] }, 8) := by simp [keyR, h16, okOf, h1, h2]
        rw [e]
        exact refkey_none s h16 k h1 h2 r w
  · have e : keyR s (wordOf k) (okOf k) = ({ data := #[] }, 1) := by simp [keyR, h16]
    rw [e]
    exact refkey_short s h16 k r w
theorem meterkey_any (s : ByteArray) (hs : s.size ≤ 4096) (k : Nat) (w : World) (hR : LaidR w) :
    Calls Tryd.prog 26 #[.string s, .int .u8 (k : Int)] w fun e w' => e = .returned (.tuple #[.string (keyR s (wordOf k) (okOf k)).1, errV (keyR s (wordOf k) (okOf k)).2]) ∧ Below w.heap.size w w' :=
  meterkey_core s hs k _ (wordOf_size k) _ (useV_of k) w hR

/-- A counter at b is at n. -/
def AtC (w : World) (b : Nat) (n : Int) : Prop := w.cell? ⟨b, 0, none⟩ = some (.int .i64 n) ∧ w.frozen? ⟨b, 0, none⟩ = false
theorem get_any (b : Nat) (n : Int) (w : World) (h : AtC w b n) : Calls Tryd.prog 25 #[.pointer (some ⟨b, 0, none⟩)] w fun e w' => e = .returned (.int .i64 n) ∧ w' = w := by
  obtain ⟨h1, h2⟩ := h
  go_enter Tryd.func25, Tryd.ntmps25
  go_wp2
  go_ret
  exact ⟨rfl, rfl⟩
theorem raise_up (b : Nat) (n m : Int) (hm : n < m) (w : World) (h : AtC w b n) : Calls Tryd.prog 23 #[.pointer (some ⟨b, 0, none⟩), .int .i64 m] w fun e w' => e = .returned .nilIface ∧ w' = w.setCell ⟨b, 0, none⟩ (.int .i64 m) := by
  obtain ⟨h1, h2⟩ := h
  have c0 : decide (m ≤ n) = false := by simp; omega
  go_enter Tryd.func23, Tryd.ntmps23
  go_wp2
  go_ret
  exact ⟨rfl, rfl⟩
theorem raise_no (b : Nat) (n m : Int) (hm : m ≤ n) (w : World) (h : AtC w b n) : Calls Tryd.prog 23 #[.pointer (some ⟨b, 0, none⟩), .int .i64 m] w fun e w' => e = .returned (errV 10) ∧ w' = w := by
  obtain ⟨h1, h2⟩ := h
  have c0 : decide (m ≤ n) = true := by simp; omega
  go_enter Tryd.func23, Tryd.ntmps23
  go_wp2
  go_ret
  exact ⟨rfl, rfl⟩
end Go.Proofs.YtmligbaalbbgiaaDoor

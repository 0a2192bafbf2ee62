/- What seal.Seal and seal.Open answer, as one plain answer each, with the contracts at whatever arguments. Conditions: texts of at most 4096 bytes; the package sum has laid its numbers. -/
import Derived.Test.YtmligbaalbbgiabDoorProg
import Derived.Test.YtmligbaalbbgiabDoorBase
import Derived.Test.YtmligbaalbbgiabDoorSeal2
import Derived.Test.YtmligbaalbbgiabDoorSeal3
import Derived.Test.YtmligbaalbbgiabDoorSeal4
import Derived.Test.YtmligbaalbbgiabDoorSeal5
import Derived.Test.YtmligbaalbbgiabDoorTell
namespace Go.Proofs.YtmligbaalbbgiabDoor
open Go.RowKit

/-- An error by its number: 0 is none. -/
def errOf (n : Int) : Value := if n = 0 then .nilIface else errV n

/-- What a text is sealed as, and the error. -/
def sealR (key : ByteArray) (cell : Int) (text : ByteArray) : ByteArray × Int :=
  if key.size = 32 ∧ 0 ≤ cell ∧ cell < 24 then
    if text.size ≤ 80 then (ofl (sealL key cell text), 0) else (⟨#[]⟩, 4)
  else (⟨#[]⟩, 1)
theorem sealR_size (key : ByteArray) (cell : Int) (text : ByteArray) : (sealR key cell text).1.size ≤ 109 := by
  unfold sealR
  split
  · split
    · rw [ofl_size, sealL_length]; exact Nat.le_refl _
    · exact Nat.zero_le _
  · exact Nat.zero_le _
/-- What a block says: its tag, its text, the error. -/
def openR (key : ByteArray) (cell : Int) (s : ByteArray) : ByteArray × ByteArray × Int :=
  if key.size = 32 then
    if 109 ≤ s.size ∧ ofl (tagL 103 key cell (s.extract 16 109)) = s.extract 0 16 then (s.extract 0 16, ofl (((innerL key s).drop 1).take (innerN key s)), 0) else (⟨#[]⟩, ⟨#[]⟩, 15)
  else (⟨#[]⟩, ⟨#[]⟩, 1)

theorem seal_any (key : ByteArray) (cell : Int) (text : ByteArray) (w : World) (hR : LaidR w) :
    Calls Tryd.prog 21 #[.string key, .int .i64 cell, .string text] w fun e w' => e = .returned (.tuple #[.string (sealR key cell text).1, errOf (sealR key cell text).2]) ∧ Below w.heap.size w w' := by
  unfold sealR
  by_cases h : key.size = 32 ∧ 0 ≤ cell ∧ cell < 24
  · rw [if_pos h]
    by_cases h2 : text.size ≤ 80
    · rw [if_pos h2]
      exact seal_good key cell text h.1 h.2.1 h.2.2 h2 w hR
    · rw [if_neg h2]
      exact (seal_long key cell text h.1 h.2.1 h.2.2 (by omega) w).mono fun e w' ⟨he, hw⟩ => ⟨he, hw ▸ Below.refl _ _⟩
  · rw [if_neg h]
    exact (seal_bad key cell text h w).mono fun e w' ⟨he, hw⟩ => ⟨he, hw ▸ Below.refl _ _⟩
theorem refseal_any (key : ByteArray) (cell : Int) (text : ByteArray) (_ : key.size ≤ 4096) (r : Nat) (w : World) (hR : Blk w r 125 (words (h0S ++ kS))) :
    Calls Tryd.prog 26 #[.pointer (some ⟨r, 0, none⟩), .string key, .int .i64 cell, .string text] w fun e w' => e = .returned (.tuple #[.string (sealR key cell text).1, .int .i64 (sealR key cell text).2]) ∧ Below w.heap.size w w' := by
  unfold sealR
  by_cases h : key.size = 32 ∧ 0 ≤ cell ∧ cell < 24
  · rw [if_pos h]
    by_cases h2 : text.size ≤ 80
    · rw [if_pos h2]
      exact refseal_good key cell text h.1 h.2.1 h.2.2 h2 r w hR
    · rw [if_neg h2]
      exact (refseal_long key cell text h.1 h.2.1 h.2.2 (by omega) _ w).mono fun e w' ⟨he, hw⟩ => ⟨he, hw ▸ Below.refl _ _⟩
  · rw [if_neg h]
    exact (refseal_bad key cell text h _ w).mono fun e w' ⟨he, hw⟩ => ⟨he, hw ▸ Below.refl _ _⟩
theorem open_any (key : ByteArray) (cell : Int) (s : ByteArray) (hs : s.size ≤ 4096) (w : World) (hR : LaidR w) :
    Calls Tryd.prog 22 #[.string key, .int .i64 cell, .string s] w fun e w' => e = .returned (.tuple #[.string (openR key cell s).1, .string (openR key cell s).2.1, errOf (openR key cell s).2.2]) ∧ Below w.heap.size w w' := by
  unfold openR
  by_cases h : key.size = 32
  · rw [if_pos h]
    by_cases h1 : 109 ≤ s.size
    · by_cases h2 : ofl (tagL 103 key cell (s.extract 16 109)) = s.extract 0 16
      · rw [if_pos ⟨h1, h2⟩]
        exact open_good key cell s h h1 hs h2 w hR
      · rw [if_neg (fun x => h2 x.2)]
        exact open_false key cell s h h1 hs h2 w hR
    · rw [if_neg (fun x => h1 x.1)]
      exact open_short key cell s h (by omega) w
  · rw [if_neg h]
    exact (open_key key cell s h w).mono fun e w' ⟨he, hw⟩ => ⟨he, hw ▸ Below.refl _ _⟩
theorem refopen_any (key : ByteArray) (cell : Int) (s : ByteArray) (hs : s.size ≤ 4096) (r : Nat) (w : World) (hR : Blk w r 125 (words (h0S ++ kS))) :
    Calls Tryd.prog 28 #[.pointer (some ⟨r, 0, none⟩), .string key, .int .i64 cell, .string s] w fun e w' => e = .returned (.tuple #[.string (openR key cell s).1, .string (openR key cell s).2.1, .int .i64 (openR key cell s).2.2]) ∧ Below w.heap.size w w' := by
  unfold openR
  by_cases h : key.size = 32
  · rw [if_pos h]
    by_cases h1 : 109 ≤ s.size
    · by_cases h2 : ofl (tagL 103 key cell (s.extract 16 109)) = s.extract 0 16
      · rw [if_pos ⟨h1, h2⟩]
        exact refopen_good key cell s h h1 hs h2 r w hR
      · rw [if_neg (fun x => h2 x.2)]
        exact refopen_false key cell s h h1 hs h2 r w hR
    · rw [if_neg (fun x => h1 x.1)]
      exact refopen_short key cell s h (by omega) r w
  · rw [if_neg h]
    exact (refopen_key key cell s h _ w).mono fun e w' ⟨he, hw⟩ => ⟨he, hw ▸ Below.refl _ _⟩
theorem bare_of (n : Int) (w : World) (hg : LaidE w) : Calls Tryd.prog 27 #[errOf n, .int .i64 n] w fun e w' => e = .returned (.bool true) ∧ Below w.heap.size w w' := by
  unfold errOf
  by_cases h : n = 0
  · subst h
    rw [if_pos rfl]
    exact (bare_nil 0 w).mono fun e w' ⟨he, hw⟩ => ⟨he, hw ▸ Below.refl _ _⟩
  · rw [if_neg h]
    exact (bare_errno n n w hg).mono fun e w' ⟨he, hb⟩ => ⟨by rw [he]; simp, hb⟩
end Go.Proofs.YtmligbaalbbgiabDoor

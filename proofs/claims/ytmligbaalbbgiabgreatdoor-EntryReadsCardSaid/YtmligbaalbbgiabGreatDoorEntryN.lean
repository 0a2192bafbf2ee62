/- The functions entry.Name and entry.Need. Condition: a text is as long as an int can tell; a number of bytes is at most 2^60. -/
import Derived.Test.YtmligbaalbbgiabGreatDoorProg
import Derived.Test.YtmligbaalbbgiabGreatDoorBase
import Derived.Test.YtmligbaalbbgiabGreatDoorShelf2
import Derived.Shelf.Strings.SlTrimAscii
namespace Go.Proofs.YtmligbaalbbgiabGreatDoor
open Go.RowKit

def lowL : List UInt8 := [97, 98, 99, 100, 101, 102, 103, 104, 105, 106, 107, 108, 109, 110, 111, 112, 113, 114, 115, 116, 117, 118, 119, 120, 121, 122]
def lowDig : List UInt8 := lowL ++ [48, 49, 50, 51, 52, 53, 54, 55, 56, 57]
def lowT : ByteArray := ⟨#[97, 98, 99, 100, 101, 102, 103, 104, 105, 106, 107, 108, 109, 110, 111, 112, 113, 114, 115, 116, 117, 118, 119, 120, 121, 122]⟩
def lowDigT : ByteArray := ⟨#[97, 98, 99, 100, 101, 102, 103, 104, 105, 106, 107, 108, 109, 110, 111, 112, 113, 114, 115, 116, 117, 118, 119, 120, 121, 122, 48, 49, 50, 51, 52, 53, 54, 55, 56, 57]⟩
/-- What may be called so. -/
def nameB (l : List UInt8) : Bool := decide (l ≠ [] ∧ l.length ≤ 10 ∧ 0 ≤ Lib.indexByte lowL (l.headD 0) ∧ Lib.trimS l lowDig = [])
theorem toList_bl (s : ByteArray) : s.toList = bl s := by
  simp [bl, ByteArray.toList_eq]
theorem ofl_mk (l : List UInt8) : (⟨l.toArray⟩ : ByteArray) = ofl l := rfl

set_option maxRecDepth 100000 in
set_option maxHeartbeats 1000000 in
theorem name_any (s : ByteArray) (hs : s.size ≤ 9223372036854775807) (w : World) :
    Calls Tryz.prog 10 #[.string s] w fun e w' => e = .returned (.bool (nameB (bl s))) ∧ Below w.heap.size w w' := by
  by_cases h0 : s.size = 0
  · have e0 : s.toList = [] := by
      rw [toList_bl]
      exact List.eq_nil_of_length_eq_zero (by rw [bl_length]; exact h0)
    have e1 : s.toList.isEmpty = true := by rw [e0]; rfl
    have en : nameB (bl s) = false := by
      rw [← toList_bl, e0]
      rfl
    rw [en]
    clear en hs h0
    go_enter Tryz.func10, Tryz.ntmps10
    go_wp2_with fail
    go_ret
    exact ⟨rfl, Below.refl _ _⟩
  · have e0 : ¬ s.toList = [] := fun h => h0 (by rw [← bl_length, ← toList_bl, h]; rfl)
    have e1 : s.toList.isEmpty = false := by
      cases h : s.toList with
      | nil => exact absurd h e0
      | cons a r => rfl
    have hb0 : bl s ≠ [] := by rw [← toList_bl]; exact e0
    have hp : 0 < s.size := by omega
    by_cases h1 : s.size ≤ 10
    · have c1 : decide ((s.size : Int) ≤ 10) = true := by simp; omega
      have c1' : decide (s.size ≤ 10) = true := by simpa using h1
      have hx := Go.Proofs.Tryz.strings_IndexByte lowT ((s[0].toNat : Nat) : Int) w
      have hhd : (bl s).headD 0 = s[0] := by
        obtain ⟨⟨l⟩⟩ := s
        cases l with
        | nil => exact absurd hp (by decide)
        | cons a r => rfl
      have hu : (((s[0].toNat : Nat) : Int).toNat.toUInt8) = (bl s).headD 0 := by rw [hhd]; simp
      rw [hu] at hx
      obtain ⟨r, hr⟩ : ∃ r, r = Lib.indexByte lowL ((bl s).headD 0) := ⟨_, rfl⟩
      have hr' : Lib.indexByte lowT.data.toList ((bl s).headD 0) = r := hr.symm
      rw [hr'] at hx
      have HX := hide (hx.mono fun e w' ⟨he, hw⟩ => (⟨he, hw.symm⟩ : e = _ ∧ w = w'))
      by_cases h2 : 0 ≤ r
      · have c2 : decide (0 ≤ r) = true := by simpa using h2
        have ht := Any.strings_Trim_laid Go.Proofs.Tryz.lays160 (by kernel_rfl) s lowDigT w hs (by decide) (ascii_of_all (by decide))
        obtain ⟨t, htd⟩ : ∃ t, t = ofl (Lib.trimS (bl s) lowDig) := ⟨_, rfl⟩
        have ht' : Calls Tryz.prog 26 #[.string s, .string lowDigT] w fun e w' => e = .returned (.string t) ∧ Below w.heap.size w w' := by rw [htd]; exact ht
        have HT := hide ht'
        have en : nameB (bl s) = t.toList.isEmpty := by
          have ht2 : t.toList = Lib.trimS (bl s) lowDig := by rw [toList_bl, htd, bl_ofl]
          rw [ht2]
          unfold nameB
          rw [← hr]
          cases hc : Lib.trimS (bl s) lowDig with
          | nil => simp [hb0, bl_length, h1, h2]
          | cons a r => simp
        rw [en]
        clear ht ht' htd hr hr' hx hhd hu h0 h1 h2 en hb0 hs
        cases ht : t.toList.isEmpty with
        | true =>
          have ht2 : t.toList = [] := by simpa using ht
          go_enter Tryz.func10, Tryz.ntmps10
          go_wp2_with (first
            | (go_at_call 25; refine HX.out.mono ?_; rintro e w1 ⟨rfl, rfl⟩)
            | (go_at_call 26; refine HT.out.mono ?_; rintro e w1 ⟨rfl, hb1⟩; have HB1 := hide hb1; clear hb1))
          go_ret
          exact ⟨rfl, HB1.out⟩
        | false =>
          have ht2 : ¬ t.toList = [] := by intro h; rw [h] at ht; cases ht
          go_enter Tryz.func10, Tryz.ntmps10
          go_wp2_with (first
            | (go_at_call 25; refine HX.out.mono ?_; rintro e w1 ⟨rfl, rfl⟩)
            | (go_at_call 26; refine HT.out.mono ?_; rintro e w1 ⟨rfl, hb1⟩; have HB1 := hide hb1; clear hb1))
          go_ret
          exact ⟨rfl, HB1.out⟩
      · have c2 : decide (0 ≤ r) = false := by simpa using h2
        have en : nameB (bl s) = false := by
          unfold nameB
          rw [← hr]
          simp [h2]
        rw [en]
        clear hr hr' hx hhd hu h0 h1 h2 en hb0 hs
        go_enter Tryz.func10, Tryz.ntmps10
        go_wp2_with (go_at_call 25; refine HX.out.mono ?_; rintro e w1 ⟨rfl, rfl⟩)
        go_ret
        exact ⟨rfl, Below.refl _ _⟩
    · have c1 : decide ((s.size : Int) ≤ 10) = false := by simp; omega
      have c1' : decide (s.size ≤ 10) = false := by simpa using h1
      have en : nameB (bl s) = false := by
        unfold nameB
        simp [bl_length, h1]
      rw [en]
      clear en h0 h1 hb0 hs
      go_enter Tryz.func10, Tryz.ntmps10
      go_wp2_with fail
      go_ret
      exact ⟨rfl, Below.refl _ _⟩

/-- How many cells so many bytes take. -/
def needN (size : Nat) : Nat := (size + 79) / 80
theorem need_any (n : Nat) (hn : n ≤ 1152921504606846976) (w : World) : Calls Tryz.prog 12 #[.int .i64 (n : Int)] w fun e w' => e = .returned (.int .i64 (needN n : Int)) ∧ w = w' := by
  have h1 : wrap64 ((n : Int) + 80) = (n : Int) + 80 := by simp only [wrap64]; omega
  have h2 : wrap64 ((n : Int) + 80 - 1) = (n : Int) + 80 - 1 := by simp only [wrap64]; omega
  go_enter Tryz.func12, Tryz.ntmps12
  go_wp2_with fail
  go_ret
  refine ⟨?_, rfl⟩
  show Ending.returned (Value.int .i64 (max ((n : Int) + 80 - 1) 0 / 80)) = _
  have e : max ((n : Int) + 80 - 1) 0 / 80 = (needN n : Int) := by unfold needN; omega
  rw [e]
end Go.Proofs.YtmligbaalbbgiabGreatDoor

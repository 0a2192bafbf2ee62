/- The function salternref.words: a text's words of four bytes, the least first. Condition: the text has at most 65536 bytes. -/
import Derived.Test.YtmligbaalbbgiabDoorProg
import Derived.Test.YtmligbaalbbgiabDoorBase
import Derived.Test.YtmligbaalbbgiabDoorStreamS
namespace Go.Proofs.YtmligbaalbbgiabDoor
open Go.RowKit

/-- The first k words of a text. -/
def wordsL (l : List UInt8) : Nat → List Nat
  | 0 => []
  | k + 1 => wordsL l k ++ [le4 (l.drop (4 * k))]
theorem wordsL_length (l : List UInt8) (k : Nat) : (wordsL l k).length = k := by
  induction k with
  | zero => rfl
  | succ k ih => simp [wordsL, ih]
def wordsV (l : List Nat) : List Value := l.map wv
theorem wordsV_append (a b : List Nat) : wordsV (a ++ b) = wordsV a ++ wordsV b := by simp [wordsV]
theorem wordsV_length (a : List Nat) : (wordsV a).length = a.length := by simp [wordsV]
theorem wordsV_oneCell (l : List Nat) : ∀ u ∈ wordsV l, u.oneCell' = true := by
  intro u hu
  obtain ⟨c, _, rfl⟩ := List.mem_map.1 hu
  rfl
/-- A word as it is made of its bytes from the last one on. -/
def accW (l : List UInt8) (i : Nat) : Nat → Nat
  | 0 => 0
  | j + 1 => accW l i j * 256 + byteAt l (i + (3 - j))
theorem accW_le (l : List UInt8) (i j : Nat) : accW l i j + 1 ≤ 256 ^ j := by
  induction j with
  | zero => simp [accW]
  | succ j ih =>
    have := byteAt_lt l (i + (3 - j))
    simp only [accW, Nat.pow_succ]
    omega
theorem accW_four (l : List UInt8) (i : Nat) : accW l i 4 = le4 (l.drop i) := by
  have e : ∀ k, byteAt (l.drop i) k = byteAt l (i + k) := fun k => by simp [byteAt, List.getD]
  simp only [accW, le4, e, Nat.sub_zero, Nat.reduceSub, Nat.add_zero]
  omega
theorem info_u32 : (Tryd.prog.info? 121).map (fun i => (i.zero, i.size, i.bytes)) = some (some (.int .u32 0), 1, 4) := by kernel_rfl

set_option maxRecDepth 100000 in
set_option maxHeartbeats 1000000 in
theorem words_any (s : ByteArray) (hs : s.size ≤ 65536) (w : World) :
    Calls Tryd.prog 153 #[.string s] w fun e w' => ∃ v, e = .returned v ∧ w'.ownsRow w.heap.size 121 1 v (s.size / 4) (wordsV (wordsL (bl s) (s.size / 4))) ∧ Below w.heap.size w w' := by
  obtain ⟨i0, hi0, hz0, hz1, hz2⟩ := info_parts info_u32
  go_enter Tryd.func153, Tryd.ntmps153
  go_wp2
  go_loopw [3, 4] (fun v i wr => ∃ k : Nat, i = .int .i64 ((4 * k : Nat) : Int) ∧ 4 * k ≤ s.size ∧ Below w.heap.size w wr ∧ wr.ownsRow w.heap.size 121 1 v k (wordsV (wordsL (bl s) k))) (fun _ i _ => s.size + 1 - (intOf i).toNat)
  case atStart => exact ⟨0, rfl, by omega, Below.refl _ _, World.ownsRow_nil _ _ _ _⟩
  case round =>
    obtain ⟨k, rfl, hk, hbel, hown⟩ := hrel
    obtain ⟨I, hI⟩ : ∃ I, I = 4 * k := ⟨_, rfl⟩
    rw [← hI] at hk ⊢
    have HI := hide hI
    clear hI
    by_cases hlt : I + 4 ≤ s.size
    · have b0 : decide ((I : Int) + 4 ≤ (s.size : Int)) = true := by simp; omega
      go_wp2_with fail
      go_loopw [5, 6] (fun n q wq => ∃ j : Nat, j ≤ 4 ∧ n = .int .u32 ((accW (bl s) I j : Nat) : Int) ∧ q = .int .i64 (3 - (j : Int)) ∧ wq = wr) (fun _ q _ => (intOf q + 1).toNat)
      case atStart => exact ⟨0, by omega, rfl, rfl, rfl⟩
      case round =>
        obtain ⟨j, hj, rfl, rfl, rfl⟩ := hrel
        by_cases hj4 : j < 4
        · have a1 := accW_le (bl s) I j
          have a2 : 256 ^ j ≤ 256 ^ 3 := Nat.pow_le_pow_right (by omega) (by omega)
          rw [show (256 : Nat) ^ 3 = 16777216 from rfl] at a2
          have a3 : accW (bl s) I j < 16777216 := by omega
          clear a1 a2
          have a4 : (0 : Int) ≤ 3 - (j : Int) := by omega
          have a5 : (I : Int) + (3 - (j : Int)) < (s.size : Int) := by omega
          have a6 : (0 : Int) ≤ (I : Int) + (3 - (j : Int)) := by omega
          have a7 := byteAt_lt (bl s) (I + (3 - j))
          rw [byteAt_bl s (I + (3 - j)) (by omega)] at a7
          go_wp2_with fail
          rw [← byteAt_bl s (I + (3 - j)) (by omega)]
          refine ⟨⟨j + 1, by omega, ?_, ?_, trivial⟩, ?_⟩
          · simp [accW]
          · simp; omega
          · simp [intOf]; omega
        · obtain rfl : j = 4 := by omega
          rw [show ((4:Nat):Int) = 4 from rfl]
          have a3 := accW_four (bl s) I
          rw [a3]
          clear a3
          go_wp2_with (at_builtin; refine wpList_append_own _ rfl (.tmp 27) (.tmp 29) 213 rfl w.heap.size 121 i0 (.int .u32 0) 1 4 Tryd.underlying213 hi0 hz0 hz1 hz2 rfl (by decide) _ _ _ rfl (hown.alloc _) ⟨wr.heap.size, 0, none⟩ 1 1 (wordsV [le4 ((bl s).drop I)]) rfl rfl ?c1 (wordsV_oneCell _) ?c3 ?c4 ?c5 ?_)
          case c1 => exact news_new wr _ _
          case c3 => have := HI.out; unfold maxLen; omega
          case c4 => have := HI.out; omega
          case c5 =>
            have := hbel.size
            simp; omega
          intro v' w1 hown1 hg1 _
          have hb1 : Below w.heap.size w w1 := (hbel.alloc (by have := hbel.size; omega) _).grown hg1 (by have := hbel.size; simp; omega) (fun q hq => (hown.lt q hq).1)
          have hown2 : w1.ownsRow w.heap.size 121 1 v' (k + 1) (wordsV (wordsL (bl s) (k + 1))) := by
            rw [wordsL, wordsV_append, ← HI.out]
            exact hown1
          clear hown hown1 hbel hg1
          go_wp2_with fail
          go_roundw
          case rel =>
            have hI := HI.out
            exact ⟨k + 1, by congr 1; omega, by omega, hb1, hown2⟩
          case measure => simp [intOf]; omega
    · have b0 : decide ((I : Int) + 4 ≤ (s.size : Int)) = false := by simp; omega
      have hk2 : k = s.size / 4 := by have := HI.out; omega
      go_wp2_with fail
      go_ret
      rw [← hk2]
      exact ⟨_, rfl, hown, hbel⟩
end Go.Proofs.YtmligbaalbbgiabDoor

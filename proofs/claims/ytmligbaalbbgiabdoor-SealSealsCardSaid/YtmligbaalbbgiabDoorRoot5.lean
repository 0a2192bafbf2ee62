/- The function salternref.New: the numbers of the sums, reckoned anew. No condition. -/
import Derived.Test.YtmligbaalbbgiabDoorProg
import Derived.Test.YtmligbaalbbgiabDoorBase
import Derived.Test.YtmligbaalbbgiabDoorRootP
import Derived.Test.YtmligbaalbbgiabDoorRoot3
import Derived.Test.YtmligbaalbbgiabDoorRoot4
namespace Go.Proofs.YtmligbaalbbgiabDoor
open Go.RowKit

/-- The reference's block: eight words, and 64. -/
def refW (n : Nat) : List Nat := h0S.take (min n 8) ++ List.replicate (8 - n) 0 ++ kS.take n ++ List.replicate (64 - n) 0
theorem h0S_length : h0S.length = 8 := by decide
theorem kS_length : kS.length = 64 := by decide +kernel
theorem refW_0 : refW 0 = List.replicate 72 0 := by decide +kernel
theorem refW_64 : refW 64 = h0S ++ kS := by decide +kernel
theorem refW_low : ((List.range 8).all fun i => (((refW i).set (8 + i) (nth kS i)).set i (nth h0S i)) == refW (i + 1)) = true := by decide +kernel
theorem refW_high : ((List.range 64).all fun i => decide (i < 8) || ((refW i).set (8 + i) (nth kS i)) == refW (i + 1)) = true := by decide +kernel
theorem refW_lens : ((List.range 65).all fun i => (refW i).length == 72) = true := by decide +kernel
theorem refW_length {i : Nat} (h : i ≤ 64) : (refW i).length = 72 := by
  have := List.all_eq_true.1 refW_lens i (List.mem_range.2 (by omega))
  simpa using this
theorem refW_step1 {i : Nat} (h : i < 8) : (((refW i).set (8 + i) (nth kS i)).set i (nth h0S i)) = refW (i + 1) := by
  have := List.all_eq_true.1 refW_low i (List.mem_range.2 h)
  simpa using this
theorem refW_step2 {i : Nat} (h : i < 64) (h8 : 8 ≤ i) : ((refW i).set (8 + i) (nth kS i)) = refW (i + 1) := by
  have := List.all_eq_true.1 refW_high i (List.mem_range.2 h)
  simp only [Bool.or_eq_true, decide_eq_true_eq] at this
  rcases this with h1 | h1
  · omega
  · simpa using h1
theorem root_k (i : Nat) (k : Nat) (hk2 : 2 ≤ k) (hk3 : k ≤ 3) (w : World) :
    Calls Tryd.prog 80 #[.int .u64 ((nth primesL i : Nat) : Int), .int .i64 (k : Int)] w fun e w' => (∃ low : Nat, e = .returned (.int .u32 ((low % 4294967296 : Nat) : Int)) ∧ IsRoot k (nth primesL i * 2 ^ (32 * k)) low) ∧ Below w.heap.size w w' :=
  root_any _ k hk2 hk3 (primesL_nth i) w
theorem root_3 (i : Nat) (hi : i < 64) (p : Nat) (hp : p = nth primesL i) (w : World) :
    Calls Tryd.prog 80 #[.int .u64 (p : Int), .int .i64 3] w fun e w' => e = .returned (.int .u32 ((nth kS i : Nat) : Int)) ∧ Below w.heap.size w w' := by
  subst hp
  refine (root_k i 3 (by omega) (by omega) w).mono ?_
  rintro e w' ⟨⟨low, rfl, h⟩, hb⟩
  rw [root3_is hi h]
  exact ⟨rfl, hb⟩
theorem root_2 (i : Nat) (hi : i < 8) (p : Nat) (hp : p = nth primesL i) (w : World) :
    Calls Tryd.prog 80 #[.int .u64 (p : Int), .int .i64 2] w fun e w' => e = .returned (.int .u32 ((nth h0S i : Nat) : Int)) ∧ Below w.heap.size w w' := by
  subst hp
  refine (root_k i 2 (by omega) (by omega) w).mono ?_
  rintro e w' ⟨⟨low, rfl, h⟩, hb⟩
  rw [root2_is hi h]
  exact ⟨rfl, hb⟩

theorem wrap_u64 (p : Nat) (h : p < 312) : Value.int .u64 (IntKind.u64.wrap (p : Int)) = .int .u64 (p : Int) := by
  have e : IntKind.u64.wrap (p : Int) = (p : Int) := by
    simp [IntKind.wrap, IntKind.bits, IntKind.signed]
    omega
  rw [e]
theorem root_3v (X : Value) (i : Nat) (hi : i < 64) (p : Nat) (hp : p = nth primesL i) (hX : X = .int .u64 (p : Int)) (w : World) :
    Calls Tryd.prog 80 #[X, .int .i64 3] w fun e w' => e = .returned (.int .u32 ((nth kS i : Nat) : Int)) ∧ Below w.heap.size w w' := by
  subst hX
  exact root_3 i hi p hp w
theorem root_2v (X : Value) (i : Nat) (hi : i < 8) (p : Nat) (hp : p = nth primesL i) (hX : X = .int .u64 (p : Int)) (w : World) :
    Calls Tryd.prog 80 #[X, .int .i64 2] w fun e w' => e = .returned (.int .u32 ((nth h0S i : Nat) : Int)) ∧ Below w.heap.size w w' := by
  subst hX
  exact root_2 i hi p hp w
/-- Where the numbers are reckoned: the reference's block, its words so far, and the primes' row at g. -/
structure AtNew (w wr : World) (g : Nat) (l : List Nat) : Prop where
  row : Blk wr w.heap.size 125 (words l)
  prm : ∀ j, j < 64 → wr.cell? ⟨g, j, none⟩ = some (.int .i64 ((nth primesL j : Nat) : Int))
  lt : w.heap.size < g
  frame : Below w.heap.size w wr
theorem AtNew.glt {w wr : World} {g : Nat} {l : List Nat} (h : AtNew w wr g l) : g < wr.heap.size := block_lt_of_cell (h.prm 0 (by omega))
theorem AtNew.below {w wr w' : World} {g : Nat} {l : List Nat} (h : AtNew w wr g l) (hb : Below wr.heap.size wr w') : AtNew w w' g l :=
  ⟨h.row.below hb h.row.lt, fun j hj => (hb.cell (p := ⟨g, j, none⟩) h.glt).trans (h.prm j hj), h.lt, below_step h.frame hb⟩
theorem AtNew.drewN {w wr : World} {g : Nat} {l : List Nat} (h : AtNew w wr g l) (n : Nat) : AtNew w (wr.drewN n) g l := ⟨h.row.drewN n, h.prm, h.lt, below_drewN h.frame n⟩
theorem AtNew.put {w wr : World} {g : Nat} {l : List Nat} (h : AtNew w wr g l) (i v : Nat) : AtNew w (wr.setCell ⟨w.heap.size, i, none⟩ (.int .u32 (v : Int))) g (l.set i v) := by
  have h1 := h.lt
  refine ⟨by rw [h.row.setWord]; exact h.row.setRow _, fun j hj => ?_, h.lt, h.frame.setCell (Nat.le_refl _) _⟩
  rw [World.cell?_of_block (w := wr) (a := ⟨g, j, none⟩) (Below.heap_setCell _ _ _ _ (by show g ≠ w.heap.size; omega))]
  exact h.prm j hj

set_option maxRecDepth 100000 in
set_option maxHeartbeats 4000000 in
theorem new_any (w : World) :
    Calls Tryd.prog 25 #[] w fun e w' => e = .returned (.pointer (some ⟨w.heap.size, 0, none⟩)) ∧ Blk w' w.heap.size 125 (words (h0S ++ kS)) ∧ Below w.heap.size w w' := by
  go_enter Tryd.func25, Tryd.ntmps25
  go_upto_region 2 with fail
  rw [show Tryd.zeroCells125 = words (refW 0) from by rw [refW_0]; kernel_rfl]
  have HB0 : Hid (Below w.heap.size w (w.alloc (.cells (words (refW 0)) 125))) := hide ((Below.refl _ _).alloc (Nat.le_refl _) _)
  have HR0 : Hid (Blk (w.alloc (.cells (words (refW 0)) 125)) w.heap.size 125 (words (refW 0))) := hide (Blk.new _ _ _)
  obtain ⟨W1, hW1⟩ : ∃ W1, W1 = w.alloc (.cells (words (refW 0)) 125) := ⟨_, rfl⟩
  have HS1 : Hid (w.heap.size < W1.heap.size) := hide (by rw [hW1]; simp)
  rw [← hW1] at HB0 HR0 ⊢
  clear hW1
  go_upto_region 3 with (go_at_call 79; (refine (primes_any _).mono ?_; rintro e w1 ⟨v, rfl, hw1, hb1⟩; obtain ⟨g, cap, rfl, hg1, hg2⟩ := hw1.form (by omega); have HI : Hid (AtNew w w1 g (refW 0)) := hide ⟨HR0.out.below hb1 HR0.out.lt, fun j hj => int_cell hw1 j (by rw [primesL_length]; exact hj), by have := HS1.out; omega, below_step HB0.out hb1⟩; clear hb1 hw1 HB0 HR0 hg1 hg2))
  go_loopw [8] (fun i wr => ∃ k : Nat, k ≤ 64 ∧ i = .int .i64 (k : Int) ∧ AtNew w wr g (refW k)) (fun i _ => 64 - (intOf i).toNat)
  case atStart => exact ⟨0, by omega, rfl, HI.out⟩
  case round =>
    clear HI
    obtain ⟨wa, rfl⟩ : ∃ wa : World, wa = wr := ⟨_, rfl⟩
    obtain ⟨k, hk, rfl, hI⟩ := hrel
    by_cases hlt : k < 64
    · have c0 : decide ((k : Int) < 64) = true := by simp; omega
      have c1 : (k : Int) < 64 := by omega
      obtain ⟨p, hp⟩ : ∃ p, p = nth primesL k := ⟨_, rfl⟩
      have cx := hI.prm k hlt
      rw [← hp] at cx
      have hpl : p < 312 := by rw [hp]; exact primesL_nth k
      have HPD := hide hp
      have HI := hide hI
      have HF := hide hI.row.frozen
      clear hp hI
      go_upto_region 5 with fail
      go_region_held3 (fun _ => True) (trivial) (first | (go_simp; go_at_call 80; refine (root_3v _ k hlt p HPD.out (wrap_u64 p hpl) _).mono ?_; rintro e w1 ⟨rfl, hb1⟩; have HI1 := hide ((HI.out.drewN 1).below hb1); have cf := HI1.out.row.frozen (8 + k); have cw := HI1.out.row.word (i := 8 + k) (by rw [refW_length hk]; omega); clear hb1))
      have HI2 := hide (HI1.out.put (8 + k) (nth kS k))
      clear cf cw HF
      obtain ⟨w2, hw2⟩ : ∃ w2, w2 = w1.setCell ⟨w.heap.size, 8 + k, none⟩ (.int .u32 ((nth kS k : Nat) : Int)) := ⟨_, rfl⟩
      rw [← hw2] at HI2 ⊢
      clear hw2 HI1 HI
      by_cases h8 : k < 8
      · have d0 : decide ((k : Int) < 8) = true := by simp; omega
        have d1 : (k : Int) < 8 := by omega
        go_upto_region 7 with fail
        go_region_held3 (fun _ => True) (trivial) (first | (go_simp; go_at_call 80; refine (root_2v _ k h8 p HPD.out (wrap_u64 p hpl) _).mono ?_; rintro e w3 ⟨rfl, hb3⟩; have HI3 := hide ((HI2.out.drewN 1).below hb3); have cf := HI3.out.row.frozen k; have cw := HI3.out.row.word (i := k) (by rw [List.length_set, refW_length hk]; omega); clear hb3))
        have HI4 := hide (HI3.out.put k (nth h0S k))
        rw [refW_step1 h8] at HI4
        clear cf cw
        go_wp2
        go_roundw
        case rel => exact ⟨k + 1, by omega, by go_num, HI4.out⟩
        case measure => simp [intOf]; omega
      · have d0 : decide ((k : Int) < 8) = false := by simp; omega
        rw [refW_step2 hlt (by omega)] at HI2
        go_wp2
        go_roundw
        case rel => exact ⟨k + 1, by omega, by go_num, HI2.out⟩
        case measure => simp [intOf]; omega
    · obtain rfl : k = 64 := by omega
      rw [show ((64 : Nat) : Int) = 64 from rfl]
      have HI := hide hI
      clear hI hk hlt
      go_wp2
      go_ret
      exact ⟨rfl, by rw [← refW_64]; exact HI.out.row, HI.out.frame⟩
end Go.Proofs.YtmligbaalbbgiabDoor

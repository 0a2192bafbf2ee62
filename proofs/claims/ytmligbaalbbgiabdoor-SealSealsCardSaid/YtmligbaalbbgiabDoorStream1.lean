/- The function stream.quarter: it does to four of sixteen words what the quarter round does. Conditions: the four places are below 16, the block's sixteen cells are words. -/
import Derived.Test.YtmligbaalbbgiabDoorProg
import Derived.Test.YtmligbaalbbgiabDoorBase
import Derived.Test.YtmligbaalbbgiabDoorStream0
import Derived.Test.YtmligbaalbbgiabDoorStreamS
import Derived.Test.YtmligbaalbbgiabDoorTail
namespace Go.Proofs.YtmligbaalbbgiabDoor
open Go.RowKit

/-- One statement's world, told of an open one: from a world that is w with other words in block g and some draws, to the next one. -/
theorem next_world {w w1 w2 : World} {g t : Nat} {l1 : List Nat} (l2 : List Nat) (h1 : ∃ k, w1 = (w.setRow g (words l1)).drewN k) (hB1 : Blk w1 g t (words l1)) (h2 : ∃ k, w2 = (w1.setRow g (words l2)).drewN k) :
    (∃ k, w2 = (w.setRow g (words l2)).drewN k) ∧ Blk w2 g t (words l2) := by
  obtain ⟨k1, h1⟩ := h1
  obtain ⟨k2, h2⟩ := h2
  refine ⟨⟨k1 + k2, ?_⟩, ?_⟩
  · rw [h2, h1, setRow_drewN, setRow_setRow]; simp [World.drewN, Nat.add_assoc]
  · rw [h2]; exact (hB1.setRow l2).drewN k2

theorem stepTurn_world {w : World} {g t : Nat} {l : List Nat} (hB : Blk w g t (words l)) {x y n k : Nat} :
    ((w.setCell ⟨g, x, none⟩ (.int .u32 ((rotl (xor32 (nth l x) (nth l y)) n : Nat) : Int))).drewN k) = (w.setRow g (words (stepTurn l x y n))).drewN k := by
  rw [hB.setWord]; rfl

set_option maxRecDepth 100000 in
set_option maxHeartbeats 4000000 in
theorem quarter_any (g : Nat) (l : List Nat) (a b c d : Nat) (hl : l.length = 16) (hw : Words32 l)
   (ha : a < 16) (hb : b < 16) (hc : c < 16) (hd : d < 16) (w : World) (t : Nat) (hB : Blk w g t (words l)) :
    Calls Tryd.prog 150 #[.pointer (some ⟨g, 0, none⟩), .int .i64 a, .int .i64 b, .int .i64 c, .int .i64 d] w
      fun e w' => e = .returned (.tuple #[]) ∧ ∃ k, w' = (w.setRow g (words (qround l a b c d))).drewN k := by
  obtain ⟨w0, rfl⟩ : ∃ w0, w0 = w := ⟨_, rfl⟩
  obtain ⟨l0, rfl⟩ : ∃ l0, l0 = l := ⟨_, rfl⟩
  have HL0 := hide hl
  have HW0 := hide hw
  have HB0 := hide hB
  have HX0 : Hid (∃ k, w0 = (w0.setRow g (words l0)).drewN k) := ⟨0, by rw [setRow_same hB]; rfl⟩
  clear hl hw hB
  go_enter Tryd.func150, Tryd.ntmps150
  have cf := HB0.out.frozen a
  have cx := HB0.out.word (i := a) (by rw [HL0.out]; omega)
  have cy := HB0.out.word (i := b) (by rw [HL0.out]; omega)
  go_upto_region 0 with fail
  go_cut [] (fun wx => ∃ k, wx = (w0.setRow g (words (stepAdd l0 a b))).drewN k)
  case first =>
    go_region
    rw [cast_add32, HB0.out.setWord]
    go_wp2_with fail
    go_meet
    exact ⟨1, rfl⟩
  case rest =>
  obtain ⟨l1, hl2⟩ : ∃ l_, l_ = stepAdd l0 a b := ⟨_, rfl⟩
  rw [← hl2] at hcut
  obtain ⟨w1, hw2⟩ : ∃ w_, w_ = wc := ⟨_, rfl⟩
  rw [← hw2] at hcut ⊢
  have HH := next_world l1 HX0.out HB0.out hcut
  have HX1 := hide HH.1
  have HB1 := hide HH.2
  have HL1 : Hid (l1.length = 16) := hide (by rw [hl2, stepAdd_length, HL0.out])
  have HW1 : Hid (Words32 l1) := hide (by rw [hl2]; exact stepAdd_words HW0.out _ _)
  have HE1 := hide hl2
  clear hl2 hw2 hcut HH cf cx cy
  have cf := HB1.out.frozen d
  have cx := HB1.out.word (i := d) (by rw [HL1.out]; omega)
  have cy := HB1.out.word (i := a) (by rw [HL1.out]; omega)
  have hx := bits_xor32 (HW1.out d) (HW1.out a)
  have ht := xor32_lt (HW1.out d) (HW1.out a)
  go_upto_region 1 with fail
  go_cut [] (fun wx => ∃ k, wx = (w1.setRow g (words (stepTurn l1 d a 16))).drewN k)
  case first =>
    refine wp_region_quiet_tail 16 (by kernel_rfl) (by kernel_rfl) ?_
    simp only [List.take_succ_cons, List.take_zero, List.drop_succ_cons, List.drop_zero]
    repeat (go_big_quiet_step ((go_at_call 177; exact Calls.quiet_of (turn_any _ _ (Int.natCast_nonneg _) (by omega) (by omega) (by omega) _))))
    refine wpQuiet_nil ?_
    intro nq
    go_wp2_with fail
    go_meet
    exact ⟨nq, by rw [← stepTurn_world HB1.out]; rfl⟩
  case rest =>
  obtain ⟨l2, hl2⟩ : ∃ l_, l_ = stepTurn l1 d a 16 := ⟨_, rfl⟩
  rw [← hl2] at hcut
  obtain ⟨w2, hw2⟩ : ∃ w_, w_ = wc := ⟨_, rfl⟩
  rw [← hw2] at hcut ⊢
  have HH := next_world l2 HX1.out HB1.out hcut
  have HX2 := hide HH.1
  have HB2 := hide HH.2
  have HL2 : Hid (l2.length = 16) := hide (by rw [hl2, stepTurn_length, HL1.out])
  have HW2 : Hid (Words32 l2) := hide (by rw [hl2]; exact stepTurn_words HW1.out _ _ _)
  have HE2 := hide hl2
  clear hl2 hw2 hcut HH cf cx cy hx ht
  have cf := HB2.out.frozen c
  have cx := HB2.out.word (i := c) (by rw [HL2.out]; omega)
  have cy := HB2.out.word (i := d) (by rw [HL2.out]; omega)
  go_upto_region 2 with fail
  go_cut [] (fun wx => ∃ k, wx = (w2.setRow g (words (stepAdd l2 c d))).drewN k)
  case first =>
    go_region
    rw [cast_add32, HB2.out.setWord]
    go_wp2_with fail
    go_meet
    exact ⟨1, rfl⟩
  case rest =>
  obtain ⟨l3, hl2⟩ : ∃ l_, l_ = stepAdd l2 c d := ⟨_, rfl⟩
  rw [← hl2] at hcut
  obtain ⟨w3, hw2⟩ : ∃ w_, w_ = wc := ⟨_, rfl⟩
  rw [← hw2] at hcut ⊢
  have HH := next_world l3 HX2.out HB2.out hcut
  have HX3 := hide HH.1
  have HB3 := hide HH.2
  have HL3 : Hid (l3.length = 16) := hide (by rw [hl2, stepAdd_length, HL2.out])
  have HW3 : Hid (Words32 l3) := hide (by rw [hl2]; exact stepAdd_words HW2.out _ _)
  have HE3 := hide hl2
  clear hl2 hw2 hcut HH cf cx cy
  have cf := HB3.out.frozen b
  have cx := HB3.out.word (i := b) (by rw [HL3.out]; omega)
  have cy := HB3.out.word (i := c) (by rw [HL3.out]; omega)
  have hx := bits_xor32 (HW3.out b) (HW3.out c)
  have ht := xor32_lt (HW3.out b) (HW3.out c)
  go_upto_region 3 with fail
  go_cut [] (fun wx => ∃ k, wx = (w3.setRow g (words (stepTurn l3 b c 12))).drewN k)
  case first =>
    refine wp_region_quiet_tail 16 (by kernel_rfl) (by kernel_rfl) ?_
    simp only [List.take_succ_cons, List.take_zero, List.drop_succ_cons, List.drop_zero]
    repeat (go_big_quiet_step ((go_at_call 177; exact Calls.quiet_of (turn_any _ _ (Int.natCast_nonneg _) (by omega) (by omega) (by omega) _))))
    refine wpQuiet_nil ?_
    intro nq
    go_wp2_with fail
    go_meet
    exact ⟨nq, by rw [← stepTurn_world HB3.out]; rfl⟩
  case rest =>
  obtain ⟨l4, hl2⟩ : ∃ l_, l_ = stepTurn l3 b c 12 := ⟨_, rfl⟩
  rw [← hl2] at hcut
  obtain ⟨w4, hw2⟩ : ∃ w_, w_ = wc := ⟨_, rfl⟩
  rw [← hw2] at hcut ⊢
  have HH := next_world l4 HX3.out HB3.out hcut
  have HX4 := hide HH.1
  have HB4 := hide HH.2
  have HL4 : Hid (l4.length = 16) := hide (by rw [hl2, stepTurn_length, HL3.out])
  have HW4 : Hid (Words32 l4) := hide (by rw [hl2]; exact stepTurn_words HW3.out _ _ _)
  have HE4 := hide hl2
  clear hl2 hw2 hcut HH cf cx cy hx ht
  have cf := HB4.out.frozen a
  have cx := HB4.out.word (i := a) (by rw [HL4.out]; omega)
  have cy := HB4.out.word (i := b) (by rw [HL4.out]; omega)
  go_upto_region 4 with fail
  go_cut [] (fun wx => ∃ k, wx = (w4.setRow g (words (stepAdd l4 a b))).drewN k)
  case first =>
    go_region
    rw [cast_add32, HB4.out.setWord]
    go_wp2_with fail
    go_meet
    exact ⟨1, rfl⟩
  case rest =>
  obtain ⟨l5, hl2⟩ : ∃ l_, l_ = stepAdd l4 a b := ⟨_, rfl⟩
  rw [← hl2] at hcut
  obtain ⟨w5, hw2⟩ : ∃ w_, w_ = wc := ⟨_, rfl⟩
  rw [← hw2] at hcut ⊢
  have HH := next_world l5 HX4.out HB4.out hcut
  have HX5 := hide HH.1
  have HB5 := hide HH.2
  have HL5 : Hid (l5.length = 16) := hide (by rw [hl2, stepAdd_length, HL4.out])
  have HW5 : Hid (Words32 l5) := hide (by rw [hl2]; exact stepAdd_words HW4.out _ _)
  have HE5 := hide hl2
  clear hl2 hw2 hcut HH cf cx cy
  have cf := HB5.out.frozen d
  have cx := HB5.out.word (i := d) (by rw [HL5.out]; omega)
  have cy := HB5.out.word (i := a) (by rw [HL5.out]; omega)
  have hx := bits_xor32 (HW5.out d) (HW5.out a)
  have ht := xor32_lt (HW5.out d) (HW5.out a)
  go_upto_region 5 with fail
  go_cut [] (fun wx => ∃ k, wx = (w5.setRow g (words (stepTurn l5 d a 8))).drewN k)
  case first =>
    refine wp_region_quiet_tail 16 (by kernel_rfl) (by kernel_rfl) ?_
    simp only [List.take_succ_cons, List.take_zero, List.drop_succ_cons, List.drop_zero]
    repeat (go_big_quiet_step ((go_at_call 177; exact Calls.quiet_of (turn_any _ _ (Int.natCast_nonneg _) (by omega) (by omega) (by omega) _))))
    refine wpQuiet_nil ?_
    intro nq
    go_wp2_with fail
    go_meet
    exact ⟨nq, by rw [← stepTurn_world HB5.out]; rfl⟩
  case rest =>
  obtain ⟨l6, hl2⟩ : ∃ l_, l_ = stepTurn l5 d a 8 := ⟨_, rfl⟩
  rw [← hl2] at hcut
  obtain ⟨w6, hw2⟩ : ∃ w_, w_ = wc := ⟨_, rfl⟩
  rw [← hw2] at hcut ⊢
  have HH := next_world l6 HX5.out HB5.out hcut
  have HX6 := hide HH.1
  have HB6 := hide HH.2
  have HL6 : Hid (l6.length = 16) := hide (by rw [hl2, stepTurn_length, HL5.out])
  have HW6 : Hid (Words32 l6) := hide (by rw [hl2]; exact stepTurn_words HW5.out _ _ _)
  have HE6 := hide hl2
  clear hl2 hw2 hcut HH cf cx cy hx ht
  have cf := HB6.out.frozen c
  have cx := HB6.out.word (i := c) (by rw [HL6.out]; omega)
  have cy := HB6.out.word (i := d) (by rw [HL6.out]; omega)
  go_upto_region 6 with fail
  go_cut [] (fun wx => ∃ k, wx = (w6.setRow g (words (stepAdd l6 c d))).drewN k)
  case first =>
    go_region
    rw [cast_add32, HB6.out.setWord]
    go_wp2_with fail
    go_meet
    exact ⟨1, rfl⟩
  case rest =>
  obtain ⟨l7, hl2⟩ : ∃ l_, l_ = stepAdd l6 c d := ⟨_, rfl⟩
  rw [← hl2] at hcut
  obtain ⟨w7, hw2⟩ : ∃ w_, w_ = wc := ⟨_, rfl⟩
  rw [← hw2] at hcut ⊢
  have HH := next_world l7 HX6.out HB6.out hcut
  have HX7 := hide HH.1
  have HB7 := hide HH.2
  have HL7 : Hid (l7.length = 16) := hide (by rw [hl2, stepAdd_length, HL6.out])
  have HW7 : Hid (Words32 l7) := hide (by rw [hl2]; exact stepAdd_words HW6.out _ _)
  have HE7 := hide hl2
  clear hl2 hw2 hcut HH cf cx cy
  have cf := HB7.out.frozen b
  have cx := HB7.out.word (i := b) (by rw [HL7.out]; omega)
  have cy := HB7.out.word (i := c) (by rw [HL7.out]; omega)
  have hx := bits_xor32 (HW7.out b) (HW7.out c)
  have ht := xor32_lt (HW7.out b) (HW7.out c)
  go_upto_region 7 with fail
  refine wp_region_quiet_tail 16 (by kernel_rfl) (by kernel_rfl) ?_
  simp only [List.take_succ_cons, List.take_zero, List.drop_succ_cons, List.drop_zero]
  repeat (go_big_quiet_step ((go_at_call 177; exact Calls.quiet_of (turn_any _ _ (Int.natCast_nonneg _) (by omega) (by omega) (by omega) _))))
  refine wpQuiet_nil ?_
  intro nq
  go_wp2_with fail
  go_end0
  refine ⟨rfl, ?_⟩
  have EL : stepTurn l7 b c 7 = qround l0 a b c d := by
    rw [HE7.out, HE6.out, HE5.out, HE4.out, HE3.out, HE2.out, HE1.out]
    rfl
  rw [← EL]
  exact (next_world (w2 := (w7.drewN nq).setCell ⟨g, b, none⟩ (.int .u32 ((rotl (xor32 (nth l7 b) (nth l7 c)) 7 : Nat) : Int))) (stepTurn l7 b c 7) HX7.out HB7.out ⟨nq, by rw [← stepTurn_world HB7.out]; rfl⟩).1

/-- The same, of places that are told as numbers of Go. -/
theorem quarter_int (g : Nat) (l : List Nat) (a b c d : Int) (hl : l.length = 16) (hw : Words32 l) (ha0 : 0 ≤ a) (hb0 : 0 ≤ b) (hc0 : 0 ≤ c) (hd0 : 0 ≤ d)
   (ha : a < 16) (hb : b < 16) (hc : c < 16) (hd : d < 16) (w : World) (t : Nat) (hB : Blk w g t (words l)) :
    Calls Tryd.prog 150 #[.pointer (some ⟨g, 0, none⟩), .int .i64 a, .int .i64 b, .int .i64 c, .int .i64 d] w
      fun e w' => e = .returned (.tuple #[]) ∧ ∃ k, w' = (w.setRow g (words (qround l a.toNat b.toNat c.toNat d.toNat))).drewN k := by
  obtain ⟨a, rfl⟩ := Int.eq_ofNat_of_zero_le ha0
  obtain ⟨b, rfl⟩ := Int.eq_ofNat_of_zero_le hb0
  obtain ⟨c, rfl⟩ := Int.eq_ofNat_of_zero_le hc0
  obtain ⟨d, rfl⟩ := Int.eq_ofNat_of_zero_le hd0
  exact quarter_any g l a b c d hl hw (by omega) (by omega) (by omega) (by omega) w t hB
end Go.Proofs.YtmligbaalbbgiabDoor

/- The function salternref.mix: it does to four of sixteen words what the quarter round does. Conditions: the four places are below 16, the row's first sixteen cells are words. -/
import Derived.Test.YtmligbaalbbgiabDoorProg
import Derived.Test.YtmligbaalbbgiabDoorBase
import Derived.Test.YtmligbaalbbgiabDoorStreamS
import Derived.Test.YtmligbaalbbgiabDoorTail
import Derived.Test.YtmligbaalbbgiabDoorRefStream0
namespace Go.Proofs.YtmligbaalbbgiabDoor
open Go.RowKit

/-- What the rounds of mix do. -/
def mixN (a b c d : Nat) : Nat → List Nat → List Nat
  | 0, l => l
  | 1, l => stepTurn (stepAdd (stepTurn (stepAdd l a b) d a 16) c d) b c 12
  | _, l => qround l a b c d
theorem mixN_length (a b c d k : Nat) (l : List Nat) : (mixN a b c d k l).length = l.length := by
  match k with
  | 0 => rfl
  | 1 => simp [mixN, stepAdd_length, stepTurn_length]
  | k + 2 => exact qround_length l a b c d
theorem mixN_words (a b c d k : Nat) {l : List Nat} (h : Words32 l) : Words32 (mixN a b c d k l) := by
  match k with
  | 0 => exact h
  | 1 => exact stepTurn_words (stepAdd_words (stepTurn_words (stepAdd_words h _ _) _ _ _) _ _) _ _ _
  | k + 2 => exact qround_words h a b c d

/-- What holds between the statements of mix: the row's words; the box with the four places; all else is as it was. -/
structure MixAt (w wr : World) (g H t : Nat) (cs : Array Value) (l : List Nat) : Prop where
  row : WRow wr g l
  box : Blk wr H t cs
  ne : g ≠ H
  frame : w.grownBy wr (some g)
theorem MixAt.step {w wr : World} {g H t : Nat} {cs : Array Value} {l : List Nat} (h : MixAt w wr g H t cs l) (p v k : Nat) (hp : p < l.length) :
    MixAt w ((wr.setCell ⟨g, p, none⟩ (.int .u32 (v : Int))).drewN k) g H t cs (l.set p v) :=
  ⟨(h.row.set p v hp).drewN k, ((h.box.far (p := ⟨g, p, none⟩) (fun e => h.ne e.symm) _)).drewN k, h.ne, grownBy_drewN (grownBy_setCell h.frame p _) k⟩

set_option maxRecDepth 100000 in
set_option maxHeartbeats 8000000 in
theorem mix_any (g cap : Nat) (l : List Nat) (a b c d : Nat) (hl : l.length = 16) (hw : Words32 l) (ha : a < 16) (hb : b < 16) (hc : c < 16) (hd : d < 16) (w : World) (hR : WRow w g l) :
    Calls Tryd.prog 154 #[.slice (some ⟨g, 0, none⟩) 16 cap, .agg #[.int .i64 a, .int .i64 b, .int .i64 c, .int .i64 d]] w
      fun e w' => e = .returned (.tuple #[]) ∧ WRow w' g (qround l a b c d) ∧ w.grownBy w' (some g) := by
  have hgl := hR.lt (by omega)
  have HA : MixAt w (w.alloc (.cells #[.int .i64 a, .int .i64 b, .int .i64 c, .int .i64 d] 215)) g w.heap.size 215 #[.int .i64 a, .int .i64 b, .int .i64 c, .int .i64 d] l :=
    ⟨hR.of_block (Below.heap_alloc w _ g hgl), Blk.new _ _ _, by omega, World.grownBy_alloc w _ _⟩
  have HM := hide HA
  obtain ⟨H, hH⟩ : ∃ H, H = w.heap.size := ⟨_, rfl⟩
  obtain ⟨W1, hW1⟩ : ∃ W1, W1 = w.alloc (.cells #[.int .i64 a, .int .i64 b, .int .i64 c, .int .i64 d] 215) := ⟨_, rfl⟩
  rw [← hH, ← hW1] at HM
  have HH := hide hH
  have HW1 := hide hW1
  have HL := hide hl
  have HW := hide hw
  clear HA hgl hH hW1 hR hl hw
  go_enter Tryd.func154, Tryd.ntmps154
  go_wp2
  rw [← HH.out, ← HW1.out]
  go_loopw [10] (fun i wr => ∃ k : Nat, k ≤ 2 ∧ i = .int .i64 (k : Int) ∧ MixAt w wr g H 215 #[.int .i64 a, .int .i64 b, .int .i64 c, .int .i64 d] (mixN a b c d k l)) (fun i _ => 2 - (intOf i).toNat)
  case atStart => exact ⟨0, by omega, rfl, HM.out⟩
  case round =>
    clear HM HH HW1
    obtain ⟨w0, rfl⟩ : ∃ w0 : World, w0 = wr := ⟨_, rfl⟩
    obtain ⟨k, hk, rfl, hM⟩ := hrel
    by_cases hlt : k < 2
    · rcases (show k = 0 ∨ k = 1 by omega) with rfl | rfl
      · obtain ⟨l0, hl0⟩ : ∃ l0, l0 = mixN a b c d 0 l := ⟨_, rfl⟩
        rw [← hl0] at hM
        have HL0 : Hid (l0.length = 16) := hide (by rw [hl0, mixN_length, HL.out])
        have HW0 : Hid (Words32 l0) := hide (by rw [hl0]; exact mixN_words _ _ _ _ _ HW.out)
        have HE0 := hide hl0
        have HM0 := hide hM
        have x0 : w0.cell? ⟨H, 0, none⟩ = some (.int .i64 (a : Int)) := hM.box.cell 0
        have x1 : w0.cell? ⟨H, 1, none⟩ = some (.int .i64 (b : Int)) := hM.box.cell 1
        have x2 : w0.cell? ⟨H, 2, none⟩ = some (.int .i64 (c : Int)) := hM.box.cell 2
        have x3 : w0.cell? ⟨H, 3, none⟩ = some (.int .i64 (d : Int)) := hM.box.cell 3
        rw [show ((0 : Nat) : Int) = 0 from rfl]
        clear hl0 hM hk hlt
        go_upto_region 5 with fail
        go_quiet (fail)
        have HM0' := hide (show MixAt w (w0.drewN nq) g H 215 #[.int .i64 a, .int .i64 b, .int .i64 c, .int .i64 d] l0 from ⟨HM0.out.row.drewN _, HM0.out.box.drewN _, HM0.out.ne, grownBy_drewN HM0.out.frame _⟩)
        obtain ⟨v0, hv0⟩ : ∃ v0, v0 = w0.drewN nq := ⟨_, rfl⟩
        rw [← hv0] at HM0' ⊢
        clear x0 x1 x2 x3 HM0 hv0
        have cf := HM0'.out.row.free a (by rw [HL0.out]; omega)
        have cx := HM0'.out.row.cell a (by rw [HL0.out]; omega)
        have cy := HM0'.out.row.cell b (by rw [HL0.out]; omega)
        go_upto_region 6 with fail
        go_cut [] (fun wx => MixAt w wx g H 215 #[.int .i64 a, .int .i64 b, .int .i64 c, .int .i64 d] (stepAdd l0 a b))
        case first =>
          go_region
          rw [cast_add32]
          go_wp2_with fail
          go_meet
          exact HM0'.out.step a _ 1 (by rw [HL0.out]; omega)
        case rest =>
        obtain ⟨l1, hl2⟩ : ∃ l_, l_ = stepAdd l0 a b := ⟨_, rfl⟩
        rw [← hl2] at hcut
        obtain ⟨v1, hv2⟩ : ∃ w_, w_ = wc := ⟨_, rfl⟩
        rw [← hv2] at hcut ⊢
        have HM1 := hide hcut
        have HL1 : Hid (l1.length = 16) := hide (by rw [hl2, stepAdd_length, HL0.out])
        have HW1 : Hid (Words32 l1) := hide (by rw [hl2]; exact stepAdd_words HW0.out _ _)
        have HE1 := hide hl2
        clear hl2 hv2 hcut cf cx cy
        have cf := HM1.out.row.free d (by rw [HL1.out]; omega)
        have cx := HM1.out.row.cell d (by rw [HL1.out]; omega)
        have cy := HM1.out.row.cell a (by rw [HL1.out]; omega)
        have hx := bits_xor32 (HW1.out d) (HW1.out a)
        have ht := xor32_lt (HW1.out d) (HW1.out a)
        go_upto_region 7 with fail
        go_cut [] (fun wx => MixAt w wx g H 215 #[.int .i64 a, .int .i64 b, .int .i64 c, .int .i64 d] (stepTurn l1 d a 16))
        case first =>
          refine wp_region_quiet_tail 18 (by kernel_rfl) (by kernel_rfl) ?_
          simp only [List.take_succ_cons, List.take_zero, List.drop_succ_cons, List.drop_zero]
          repeat (go_big_quiet_step ((go_at_call 178; exact Calls.quiet_of ((left_any _ _ (Int.natCast_nonneg _) (by omega) (by omega) (by omega) _).mono fun _ _ ⟨he, hw⟩ => ⟨he, 0, hw.symm⟩))))
          refine wpQuiet_nil ?_
          intro nq
          go_wp2_with fail
          go_meet
          exact HM1.out.step d _ nq (by rw [HL1.out]; omega)
        case rest =>
        obtain ⟨l2, hl2⟩ : ∃ l_, l_ = stepTurn l1 d a 16 := ⟨_, rfl⟩
        rw [← hl2] at hcut
        obtain ⟨v2, hv2⟩ : ∃ w_, w_ = wc := ⟨_, rfl⟩
        rw [← hv2] at hcut ⊢
        have HM2 := hide hcut
        have HL2 : Hid (l2.length = 16) := hide (by rw [hl2, stepTurn_length, HL1.out])
        have HW2 : Hid (Words32 l2) := hide (by rw [hl2]; exact stepTurn_words HW1.out _ _ _)
        have HE2 := hide hl2
        clear hl2 hv2 hcut cf cx cy hx ht
        have cf := HM2.out.row.free c (by rw [HL2.out]; omega)
        have cx := HM2.out.row.cell c (by rw [HL2.out]; omega)
        have cy := HM2.out.row.cell d (by rw [HL2.out]; omega)
        go_upto_region 8 with fail
        go_cut [] (fun wx => MixAt w wx g H 215 #[.int .i64 a, .int .i64 b, .int .i64 c, .int .i64 d] (stepAdd l2 c d))
        case first =>
          go_region
          rw [cast_add32]
          go_wp2_with fail
          go_meet
          exact HM2.out.step c _ 1 (by rw [HL2.out]; omega)
        case rest =>
        obtain ⟨l3, hl2⟩ : ∃ l_, l_ = stepAdd l2 c d := ⟨_, rfl⟩
        rw [← hl2] at hcut
        obtain ⟨v3, hv2⟩ : ∃ w_, w_ = wc := ⟨_, rfl⟩
        rw [← hv2] at hcut ⊢
        have HM3 := hide hcut
        have HL3 : Hid (l3.length = 16) := hide (by rw [hl2, stepAdd_length, HL2.out])
        have HW3 : Hid (Words32 l3) := hide (by rw [hl2]; exact stepAdd_words HW2.out _ _)
        have HE3 := hide hl2
        clear hl2 hv2 hcut cf cx cy
        have cf := HM3.out.row.free b (by rw [HL3.out]; omega)
        have cx := HM3.out.row.cell b (by rw [HL3.out]; omega)
        have cy := HM3.out.row.cell c (by rw [HL3.out]; omega)
        have hx := bits_xor32 (HW3.out b) (HW3.out c)
        have ht := xor32_lt (HW3.out b) (HW3.out c)
        go_upto_region 9 with fail
        refine wp_region_quiet_tail 18 (by kernel_rfl) (by kernel_rfl) ?_
        simp only [List.take_succ_cons, List.take_zero, List.drop_succ_cons, List.drop_zero]
        repeat (go_big_quiet_step ((go_at_call 178; exact Calls.quiet_of ((left_any _ _ (Int.natCast_nonneg _) (by omega) (by omega) (by omega) _).mono fun _ _ ⟨he, hw⟩ => ⟨he, 0, hw.symm⟩))))
        refine wpQuiet_nil ?_
        intro nq
        have HM4 := hide (HM3.out.step b (rotl (xor32 (nth l3 b) (nth l3 c)) 12) nq (by rw [HL3.out]; omega))
        clear cy hx ht
        go_wp2
        go_roundw
        case rel =>
          refine ⟨1, by omega, by go_num, ?_⟩
          have e : l3.set b (rotl (xor32 (nth l3 b) (nth l3 c)) 12) = mixN a b c d 1 l := by
            rw [HE3.out, HE2.out, HE1.out, HE0.out]
            rfl
          rw [← e]
          exact HM4.out
        case measure => simp [intOf]
      · obtain ⟨l0, hl0⟩ : ∃ l0, l0 = mixN a b c d 1 l := ⟨_, rfl⟩
        rw [← hl0] at hM
        have HL0 : Hid (l0.length = 16) := hide (by rw [hl0, mixN_length, HL.out])
        have HW0 : Hid (Words32 l0) := hide (by rw [hl0]; exact mixN_words _ _ _ _ _ HW.out)
        have HE0 := hide hl0
        have HM0 := hide hM
        have x0 : w0.cell? ⟨H, 0, none⟩ = some (.int .i64 (a : Int)) := hM.box.cell 0
        have x1 : w0.cell? ⟨H, 1, none⟩ = some (.int .i64 (b : Int)) := hM.box.cell 1
        have x2 : w0.cell? ⟨H, 2, none⟩ = some (.int .i64 (c : Int)) := hM.box.cell 2
        have x3 : w0.cell? ⟨H, 3, none⟩ = some (.int .i64 (d : Int)) := hM.box.cell 3
        rw [show ((1 : Nat) : Int) = 1 from rfl]
        clear hl0 hM hk hlt
        go_upto_region 5 with fail
        go_quiet (fail)
        have HM0' := hide (show MixAt w (w0.drewN nq) g H 215 #[.int .i64 a, .int .i64 b, .int .i64 c, .int .i64 d] l0 from ⟨HM0.out.row.drewN _, HM0.out.box.drewN _, HM0.out.ne, grownBy_drewN HM0.out.frame _⟩)
        obtain ⟨v0, hv0⟩ : ∃ v0, v0 = w0.drewN nq := ⟨_, rfl⟩
        rw [← hv0] at HM0' ⊢
        clear x0 x1 x2 x3 HM0 hv0
        have cf := HM0'.out.row.free a (by rw [HL0.out]; omega)
        have cx := HM0'.out.row.cell a (by rw [HL0.out]; omega)
        have cy := HM0'.out.row.cell b (by rw [HL0.out]; omega)
        go_upto_region 6 with fail
        go_cut [] (fun wx => MixAt w wx g H 215 #[.int .i64 a, .int .i64 b, .int .i64 c, .int .i64 d] (stepAdd l0 a b))
        case first =>
          go_region
          rw [cast_add32]
          go_wp2_with fail
          go_meet
          exact HM0'.out.step a _ 1 (by rw [HL0.out]; omega)
        case rest =>
        obtain ⟨l1, hl2⟩ : ∃ l_, l_ = stepAdd l0 a b := ⟨_, rfl⟩
        rw [← hl2] at hcut
        obtain ⟨v1, hv2⟩ : ∃ w_, w_ = wc := ⟨_, rfl⟩
        rw [← hv2] at hcut ⊢
        have HM1 := hide hcut
        have HL1 : Hid (l1.length = 16) := hide (by rw [hl2, stepAdd_length, HL0.out])
        have HW1 : Hid (Words32 l1) := hide (by rw [hl2]; exact stepAdd_words HW0.out _ _)
        have HE1 := hide hl2
        clear hl2 hv2 hcut cf cx cy
        have cf := HM1.out.row.free d (by rw [HL1.out]; omega)
        have cx := HM1.out.row.cell d (by rw [HL1.out]; omega)
        have cy := HM1.out.row.cell a (by rw [HL1.out]; omega)
        have hx := bits_xor32 (HW1.out d) (HW1.out a)
        have ht := xor32_lt (HW1.out d) (HW1.out a)
        go_upto_region 7 with fail
        go_cut [] (fun wx => MixAt w wx g H 215 #[.int .i64 a, .int .i64 b, .int .i64 c, .int .i64 d] (stepTurn l1 d a 8))
        case first =>
          refine wp_region_quiet_tail 18 (by kernel_rfl) (by kernel_rfl) ?_
          simp only [List.take_succ_cons, List.take_zero, List.drop_succ_cons, List.drop_zero]
          repeat (go_big_quiet_step ((go_at_call 178; exact Calls.quiet_of ((left_any _ _ (Int.natCast_nonneg _) (by omega) (by omega) (by omega) _).mono fun _ _ ⟨he, hw⟩ => ⟨he, 0, hw.symm⟩))))
          refine wpQuiet_nil ?_
          intro nq
          go_wp2_with fail
          go_meet
          exact HM1.out.step d _ nq (by rw [HL1.out]; omega)
        case rest =>
        obtain ⟨l2, hl2⟩ : ∃ l_, l_ = stepTurn l1 d a 8 := ⟨_, rfl⟩
        rw [← hl2] at hcut
        obtain ⟨v2, hv2⟩ : ∃ w_, w_ = wc := ⟨_, rfl⟩
        rw [← hv2] at hcut ⊢
        have HM2 := hide hcut
        have HL2 : Hid (l2.length = 16) := hide (by rw [hl2, stepTurn_length, HL1.out])
        have HW2 : Hid (Words32 l2) := hide (by rw [hl2]; exact stepTurn_words HW1.out _ _ _)
        have HE2 := hide hl2
        clear hl2 hv2 hcut cf cx cy hx ht
        have cf := HM2.out.row.free c (by rw [HL2.out]; omega)
        have cx := HM2.out.row.cell c (by rw [HL2.out]; omega)
        have cy := HM2.out.row.cell d (by rw [HL2.out]; omega)
        go_upto_region 8 with fail
        go_cut [] (fun wx => MixAt w wx g H 215 #[.int .i64 a, .int .i64 b, .int .i64 c, .int .i64 d] (stepAdd l2 c d))
        case first =>
          go_region
          rw [cast_add32]
          go_wp2_with fail
          go_meet
          exact HM2.out.step c _ 1 (by rw [HL2.out]; omega)
        case rest =>
        obtain ⟨l3, hl2⟩ : ∃ l_, l_ = stepAdd l2 c d := ⟨_, rfl⟩
        rw [← hl2] at hcut
        obtain ⟨v3, hv2⟩ : ∃ w_, w_ = wc := ⟨_, rfl⟩
        rw [← hv2] at hcut ⊢
        have HM3 := hide hcut
        have HL3 : Hid (l3.length = 16) := hide (by rw [hl2, stepAdd_length, HL2.out])
        have HW3 : Hid (Words32 l3) := hide (by rw [hl2]; exact stepAdd_words HW2.out _ _)
        have HE3 := hide hl2
        clear hl2 hv2 hcut cf cx cy
        have cf := HM3.out.row.free b (by rw [HL3.out]; omega)
        have cx := HM3.out.row.cell b (by rw [HL3.out]; omega)
        have cy := HM3.out.row.cell c (by rw [HL3.out]; omega)
        have hx := bits_xor32 (HW3.out b) (HW3.out c)
        have ht := xor32_lt (HW3.out b) (HW3.out c)
        go_upto_region 9 with fail
        refine wp_region_quiet_tail 18 (by kernel_rfl) (by kernel_rfl) ?_
        simp only [List.take_succ_cons, List.take_zero, List.drop_succ_cons, List.drop_zero]
        repeat (go_big_quiet_step ((go_at_call 178; exact Calls.quiet_of ((left_any _ _ (Int.natCast_nonneg _) (by omega) (by omega) (by omega) _).mono fun _ _ ⟨he, hw⟩ => ⟨he, 0, hw.symm⟩))))
        refine wpQuiet_nil ?_
        intro nq
        have HM4 := hide (HM3.out.step b (rotl (xor32 (nth l3 b) (nth l3 c)) 7) nq (by rw [HL3.out]; omega))
        clear cy hx ht
        go_wp2
        go_roundw
        case rel =>
          refine ⟨2, by omega, by go_num, ?_⟩
          have e : l3.set b (rotl (xor32 (nth l3 b) (nth l3 c)) 7) = mixN a b c d 2 l := by
            rw [HE3.out, HE2.out, HE1.out, HE0.out]
            rfl
          rw [← e]
          exact HM4.out
        case measure => simp [intOf]
    · obtain rfl : k = 2 := by omega
      clear hlt hk
      go_wp2
      go_end0
      exact ⟨rfl, hM.row, hM.frame⟩
end Go.Proofs.YtmligbaalbbgiabDoor

/- The function salternkeep.entered. Condition: the variables hold what is laid in them. -/
import Derived.Test.YtmligbaalbbgiabDoorEntryH
namespace Go.Proofs.YtmligbaalbbgiabDoor
open Go.RowKit

def L0 : List FileD := [⟨⟨#[97]⟩, 81, none, 0, [5, 3]⟩, ⟨⟨#[98]⟩, 0, none, 0, []⟩]
theorem right_L0 : rightB L0 = true := by
  have h : Op.bytesLess (⟨#[97]⟩ : ByteArray).toList (⟨#[98]⟩ : ByteArray).toList = true := by
    rw [toList_bl, toList_bl]
    decide
  unfold rightB L0 okFiles okFile okFiles okFile
  simp only [h]
  decide
theorem print_L0 : printL L0 = [97, 32, 56, 49, 32, 53, 32, 51, 10, 98, 32, 48, 10] := by
  have i0 : Lib.itoa 81 = [56, 49] := by
    unfold Lib.itoa
    rw [if_neg (by decide)]
    exact Lib.decDigits_two (i := 81) (by decide) (by decide)
  have i1 : Lib.itoa 5 = [53] := by
    unfold Lib.itoa
    rw [if_neg (by decide)]
    exact Lib.decDigits_one (i := 5) (by decide)
  have i2 : Lib.itoa 3 = [51] := by
    unfold Lib.itoa
    rw [if_neg (by decide)]
    exact Lib.decDigits_one (i := 3) (by decide)
  have i3 : Lib.itoa 0 = [48] := by
    unfold Lib.itoa
    rw [if_neg (by decide)]
    exact Lib.decDigits_one (i := 0) (by decide)
  simp [printL, L0, lineL, numsL, i0, i1, i2, i3, bl]
def P0 : ByteArray := ⟨#[97, 32, 56, 49, 32, 53, 32, 51, 10, 98, 32, 48, 10]⟩
theorem parse_P0 {W : World} (hL : LaidN W) : Calls Tryd.prog 56 #[.string P0] W fun e w' => ∃ a x y c, e = .returned (.tuple #[.slice (some a) 2 c, .nilIface]) ∧ FilesAt w' (some a) 2 [x, y] ∧ x.cells = [5, 3] ∧ Below W.heap.size W w' := by
  have hp : parseP (bl P0) = some L0 := by
    have h := parse_print right_L0
    rw [print_L0] at h
    exact h
  refine (parse_any P0 (by decide) hL).mono ?_
  rintro e w' ⟨hb, ⟨h, -⟩ | ⟨l, A, k, c, h, hF, rfl⟩⟩
  · rw [hp] at h; cases h
  · rw [hp] at h
    injection h with h
    obtain ⟨x, y, rfl⟩ : ∃ x y, l = [x, y] := by
      have hl := congrArg List.length h
      match l, hl with
      | [x, y], _ => exact ⟨x, y, rfl⟩
    have hk : k = 2 := hF.hn
    subst hk
    obtain ⟨a, x', rfl, -, -⟩ := hF.at_ 0 (by omega)
    refine ⟨a, x, y, c, rfl, hF, ?_, hb⟩
    simp only [L0, List.map_cons, List.map_nil] at h
    injection h with h1 h2
    unfold FileD.bare at h1
    injection h1 with _ _ _ _ h3
    exact h3.symm

theorem eq53 {W : World} {a : Addr} {x y : FileD} (hF : FilesAt W (some a) 2 [x, y]) (hx : x.cells = [5, 3]) : Calls Tryd.prog 101 #[.slice x.cA 2 x.cc, .slice (some ⟨W.heap.size, 0, none⟩) 2 2] (W.alloc (.cells #[.int .i64 5, .int .i64 3] 3)) fun e w' => e = .returned (.bool true) ∧ Below W.heap.size W w' := by
  have hb : Below W.heap.size W (W.alloc (.cells #[.int .i64 5, .int .i64 3] 3)) := (Below.refl _ _).alloc (Nat.le_refl _) _
  obtain ⟨_, x', _, hx', _, _, _, hI⟩ := hF.row 0 (by omega)
  obtain rfl : x = x' := Option.some.inj hx'
  have hN : IntsIn (W.alloc (.cells #[.int .i64 5, .int .i64 3] 3)) (some ⟨W.heap.size, 0, none⟩) [5, 3] := fun _ => ⟨_, rfl, by simp, fun i hi => by
    rw [addr_add, (Blk.new W 3 #[.int .i64 5, .int .i64 3]).cell]
    match i, hi with
    | 0, _ => rfl
    | 1, _ => rfl⟩
  have h := equal_int (c1 := x.cc) (c2 := 2) (hI.keep hb) (show 2 = x.cells.length by rw [hx]; rfl) hN rfl (by omega)
  rw [hx] at h
  refine h.mono ?_
  rintro e w' ⟨rfl, h2⟩
  exact ⟨rfl, below_step hb h2⟩

set_option maxRecDepth 100000 in
set_option maxHeartbeats 4000000 in
theorem entered_any {w : World} (hL : LaidN w) : Calls Tryd.prog 55 #[] w fun e w' => e = .returned (.bool true) ∧ Below w.heap.size w w' := by
  obtain ⟨g, hg⟩ : ∃ g, g = w.heap.size := ⟨_, rfl⟩
  obtain ⟨W1, hW1⟩ : ∃ W1, W1 = (w.alloc (.cells #[.int .i64 5, .int .i64 3] 3)).alloc (.cells #[.string ⟨#[97]⟩, .int .i64 81, .slice (some ⟨w.heap.size, 0, none⟩) 2 2, .string ⟨#[98]⟩, .int .i64 0, .slice none 0 0] 95) := ⟨_, rfl⟩
  have hb1 : Below w.heap.size w W1 := by rw [hW1]; exact ((Below.refl _ _).alloc (Nat.le_refl _) _).alloc (by simp) _
  have k0 : Blk W1 w.heap.size 3 #[.int .i64 5, .int .i64 3] := by rw [hW1]; exact (Blk.new _ _ _).alloc _
  have k1 : Blk W1 (w.heap.size + 1) 95 #[.string ⟨#[97]⟩, .int .i64 81, .slice (some ⟨w.heap.size, 0, none⟩) 2 2, .string ⟨#[98]⟩, .int .i64 0, .slice none 0 0] := by
    have h := Blk.new (w.alloc (.cells #[.int .i64 5, .int .i64 3] 3)) 95 #[.string ⟨#[97]⟩, .int .i64 81, .slice (some ⟨w.heap.size, 0, none⟩) 2 2, .string ⟨#[98]⟩, .int .i64 0, .slice none 0 0]
    rw [World.size_alloc] at h
    rw [hW1]; exact h
  obtain ⟨l0, hl0⟩ : ∃ l0 : List FileD, l0 = [⟨⟨#[97]⟩, 81, some ⟨w.heap.size, 0, none⟩, 2, [5, 3]⟩, ⟨⟨#[98]⟩, 0, none, 0, []⟩] := ⟨_, rfl⟩
  have hF : FilesAt W1 (some ⟨w.heap.size + 1, 0, none⟩) 2 l0 := by
    rw [hl0]
    refine ⟨rfl, fun x hx => ?_, fun i hi => ?_⟩
    · rcases List.mem_cons.1 hx with e | e
      · subst e
        exact ⟨(show (⟨#[97]⟩ : ByteArray).size ≤ 9223372036854775807 by decide), (show ([5, 3] : List Int).length ≤ 9223372036854775807 by decide), (show ∀ k ∈ ([5, 3] : List Int), -9223372036854775808 ≤ k ∧ k ≤ 9223372036854775807 by decide)⟩
      · rw [List.mem_singleton.1 e]
        exact ⟨(show (⟨#[98]⟩ : ByteArray).size ≤ 9223372036854775807 by decide), (show ([] : List Int).length ≤ 9223372036854775807 by decide), (show ∀ k ∈ ([] : List Int), -9223372036854775808 ≤ k ∧ k ≤ 9223372036854775807 by decide)⟩
    · match i, hi with
      | 0, _ =>
        refine ⟨_, _, rfl, rfl, k1.lt, fun j v hj => ?_, fun _ => ⟨_, rfl, k0.lt, fun i hi => ?_⟩⟩
        · rw [addr_add, addr_add, k1.cell]
          match j, hj with
          | 0, hj => exact hj
          | 1, hj => exact hj
          | 2, hj => exact hj
        · rw [addr_add, k0.cell]
          match i, hi with
          | 0, _ => rfl
          | 1, _ => rfl
      | 1, _ =>
        refine ⟨_, _, rfl, rfl, k1.lt, fun j v hj => ?_, fun h => (by simp at h)⟩
        rw [addr_add, addr_add, k1.cell]
        match j, hj with
        | 0, hj => exact hj
        | 1, hj => exact hj
        | 2, hj => exact hj
  have hbare : l0.map FileD.bare = L0 := by rw [hl0]; rfl
  have hr : rightB l0 = true := by rw [← right_bare, hbare]; exact right_L0
  have hp : ofl (printL l0) = P0 := by rw [← printL_bare, hbare, print_L0]; rfl
  have HPR := hide (print_good (c := 2) hF hr (hL.below hb1))
  rw [hp] at HPR
  have e1 : (P0.toList == [97, 32, 56, 49, 32, 53, 32, 51, 10, 98, 32, 48, 10]) = true := by rw [toList_bl]; decide
  have HPA := hide (fun (V : World) (hV : Below W1.heap.size W1 V) => parse_P0 (hL.below (below_step hb1 hV)))
  have HN := hide (fun V => need_any 80 (by decide) V)
  have HB1 := hide hb1
  have HW1 := hide hW1.symm
  clear hW1 hb1 k0 k1 hl0 hF hbare hr hp hL hg
  go_enter Tryd.func55, Tryd.ntmps55
  go_wp2_with (first
    | (go_at_call 57; rw [HW1.out]; refine HPR.out.mono ?_; rintro e w2 ⟨rfl, hb2⟩; have HB2 := hide hb2; clear hb2)
    | (go_at_call 56; refine (HPA.out _ HB2.out).mono ?_; rintro e w3 ⟨a, x, y, c, rfl, hF, hxc, hb3⟩; have HB3 := hide (below_step HB1.out (below_step HB2.out hb3)); have HF := hide hF; have HXC := hide hxc; have q2 : w3.cell? ⟨a.block, a.off + 2, none⟩ = some (.slice x.cA 2 x.cc) := (by obtain ⟨a', x', ha, hx, _, _, q2, _⟩ := hF.row 0 (by omega); obtain rfl := Option.some.inj ha; obtain rfl : x = x' := Option.some.inj hx; rw [hxc] at q2; simpa [Addr.add] using q2); clear hb3 hF hxc)
    | (go_at_call 101; refine (eq53 HF.out HXC.out).mono ?_; rintro e w4 ⟨rfl, hb4⟩; have HB4 := hide (below_step HB3.out hb4); clear hb4)
    | (go_at_call 102; refine (HN.out _).mono ?_; rintro e w5 ⟨rfl, rfl⟩))
  go_ret
  exact ⟨rfl, HB4.out⟩
end Go.Proofs.YtmligbaalbbgiabDoor

/- The function salternkeep.sameFiles, at files that are the same. Condition: both can be read. -/
import Derived.Test.YtmligbaalbbgiabDoorEntryG
namespace Go.Proofs.YtmligbaalbbgiabDoor
open Go.RowKit

theorem bare_parts {x y : FileD} (h : x.bare = y.bare) : x.name = y.name ∧ x.size = y.size ∧ x.cells = y.cells := by
  unfold FileD.bare at h
  injection h with h1 h2 _ _ h3
  exact ⟨h1, h2, h3⟩
theorem cell_alloc' {w : World} {p : Addr} {v : Value} (h : w.cell? p = some v) (o : Obj) : (w.alloc o).cell? p = some v := by
  rw [World.cell?_alloc_lt _ _ _ (block_lt_of_cell h)]; exact h
set_option maxRecDepth 100000 in
set_option maxHeartbeats 2000000 in
theorem same1_yes {x y : FileD} (h : x.bare = y.bare) (hl : x.cells.length ≤ 65536) {W : World} (h1 : IntsIn W x.cA x.cells) (h2 : IntsIn W y.cA y.cells) :
    Calls Tryd.prog 110 #[.agg #[.string x.name, .int .i64 x.size, .slice x.cA x.cells.length x.cc], .agg #[.string y.name, .int .i64 y.size, .slice y.cA y.cells.length y.cc]] W fun e w' => e = .returned (.bool true) ∧ Below W.heap.size W w' := by
  obtain ⟨e1, e2, e3⟩ := bare_parts h
  obtain ⟨W2, hW2⟩ : ∃ W2, W2 = (W.alloc (.cells #[.string x.name, .int .i64 x.size, .slice x.cA x.cells.length x.cc] 95)).alloc (.cells #[.string y.name, .int .i64 y.size, .slice y.cA y.cells.length y.cc] 95) := ⟨_, rfl⟩
  have hb : Below W.heap.size W W2 := by rw [hW2]; exact ((Below.refl _ _).alloc (Nat.le_refl _) _).alloc (by simp) _
  have HE := hide (fun (V : World) (hV : Below W2.heap.size W2 V) => equal_int (c1 := x.cc) (c2 := y.cc) ((h1.keep hb).keep hV) rfl ((h2.keep hb).keep hV) rfl hl)
  have ed : decide (x.cells = y.cells) = true := by simpa using e3
  rw [ed] at HE
  have t1 := toL_eq x.name
  have t2 : (x.size == x.size) = true := by simp
  have HB := hide hb
  rw [← e1, ← e2] at hW2 ⊢
  have HW2 := hide hW2.symm
  clear h e1 e2 e3 hW2 hb ed h1 h2 hl
  go_enter Tryd.func110, Tryd.ntmps110
  go_wp2_with (go_at_call 101; rw [HW2.out]; refine (HE.out _ (Below.refl _ _)).mono ?_; rintro e w7 ⟨rfl, hb7⟩; have HB7 := hide (below_step HB.out hb7); clear hb7)
  go_ret
  exact ⟨rfl, HB7.out⟩

set_option maxRecDepth 100000 in
set_option maxHeartbeats 4000000 in
theorem equalFunc_yes {w : World} {A1 A2 : Option Addr} {n1 c1 n2 c2 : Nat} {l1 l2 : List FileD} (h1 : FilesAt w A1 n1 l1) (h2 : FilesAt w A2 n2 l2) (he : l1.map FileD.bare = l2.map FileD.bare) (hl : ∀ x ∈ l1, x.cells.length ≤ 65536) (hn : n1 ≤ 65536) :
    Calls Tryd.prog 109 #[.slice A1 n1 c1, .slice A2 n2 c2, .func (.func 110) #[] #[]] w fun e w' => e = .returned (.bool true) ∧ Below w.heap.size w w' := by
  have hll : l1.length = l2.length := by simpa using congrArg List.length he
  have hnn : n1 = n2 := by rw [h1.hn, h2.hn, hll]
  have d1 : ((n1 : Int) != (n2 : Int)) = false := by rw [hnn]; simp
  have d1' : (n1 != n2) = false := by rw [hnn]; simp
  have H1 := hide h1
  have H2 := hide h2
  have HE := hide he
  have HL := hide hl
  have HNN := hide hnn
  clear h1 h2 he hl hll hnn
  go_enter Tryd.func109, Tryd.ntmps109
  go_wp2_with fail
  go_loopw [17] (fun i wr => ∃ I : Nat, i = .int .i64 (I : Int) ∧ I ≤ n1 ∧ Below w.heap.size w wr) (fun i _ => n1 - (intOf i).toNat)
  case atStart => exact ⟨0, rfl, by omega, Below.refl _ _⟩
  case round =>
    obtain ⟨I, rfl, hI, hb⟩ := hrel
    have HB := hide hb
    by_cases hlt : I < n1
    · have d0 : decide (I < n1) = true := by simpa using hlt
      have hlt2 : I < n2 := by rw [← HNN.out]; exact hlt
      obtain ⟨a, x, rfl, hlx, q0, q1, q2, hcx⟩ := (H1.out.below hb).row I hlt
      obtain ⟨a', y, rfl, hly, p0, p1, p2, hcy⟩ := (H2.out.below hb).row I hlt2
      have hxy : x.bare = y.bare := by
        have h := congrArg (fun L => L[I]?) HE.out
        simp only [List.getElem?_map, hlx, hly, Option.map_some, Option.some.injEq] at h
        exact h
      obtain ⟨W2, hW2⟩ : ∃ W2, W2 = (wr.alloc (.cells #[.string x.name, .int .i64 x.size, .slice x.cA x.cells.length x.cc] 95)).alloc (.cells #[.string y.name, .int .i64 y.size, .slice y.cA y.cells.length y.cc] 95) := ⟨_, rfl⟩
      have hb2 : Below wr.heap.size wr W2 := by rw [hW2]; exact ((Below.refl _ _).alloc (Nat.le_refl _) _).alloc (by simp) _
      have HS := hide (same1_yes hxy (HL.out x (List.mem_of_getElem? hlx)) (hcx.keep hb2) (hcy.keep hb2))
      have HB2 := hide (below_step HB.out hb2)
      have HW2 := hide hW2.symm
      have hlb : a.block < wr.heap.size := by
        have h := block_lt_of_cell q0
        rwa [Go.ChangeShapes.block_add] at h
      have hlb' : a'.block < wr.heap.size := by
        have h := block_lt_of_cell p0
        rwa [Go.ChangeShapes.block_add] at h
      have v0 := cell_alloc' q0 (.cells #[.string x.name, .int .i64 x.size, .slice x.cA x.cells.length x.cc] 95)
      have z0 := cell_alloc' p0 (.cells #[.string x.name, .int .i64 x.size, .slice x.cA x.cells.length x.cc] 95)
      have z1 := cell_alloc' p1 (.cells #[.string x.name, .int .i64 x.size, .slice x.cA x.cells.length x.cc] 95)
      have z2 := cell_alloc' p2 (.cells #[.string x.name, .int .i64 x.size, .slice x.cA x.cells.length x.cc] 95)
      clear hb hlx hly hcx hcy hxy hW2 hb2
      go_wp2_with (go_at_call 110; rw [HW2.out]; refine HS.out.mono ?_; rintro e w7 ⟨rfl, hb7⟩; have HB7 := hide (below_step HB2.out hb7); clear hb7)
      exact ⟨⟨I + 1, by go_num, by omega, HB7.out⟩, by simp [intOf]; omega⟩
    · have d0 : decide (I < n1) = false := by simpa using hlt
      clear hb
      go_wp2_with fail
      go_ret
      exact ⟨rfl, HB.out⟩
theorem sameFiles_yes {w : World} {A1 A2 : Option Addr} {n1 c1 n2 c2 : Nat} {l1 l2 : List FileD} (h1 : FilesAt w A1 n1 l1) (h2 : FilesAt w A2 n2 l2) (he : l1.map FileD.bare = l2.map FileD.bare) (hl : ∀ x ∈ l1, x.cells.length ≤ 65536) (hn : n1 ≤ 65536) :
    Calls Tryd.prog 59 #[.slice A1 n1 c1, .slice A2 n2 c2] w fun e w' => e = .returned (.bool true) ∧ Below w.heap.size w w' := by
  have HS := hide (equalFunc_yes (c1 := c1) (c2 := c2) h1 h2 he hl hn)
  clear h1 h2 he hl hn
  go_enter Tryd.func59, Tryd.ntmps59
  go_wp2_with (go_at_call 109; refine HS.out.mono ?_; rintro e w7 ⟨rfl, hb7⟩; have HB7 := hide hb7; clear hb7)
  go_ret
  exact ⟨rfl, HB7.out⟩
end Go.Proofs.YtmligbaalbbgiabDoor

/- The reference's FreeCells. Condition: the files can be read, and are right. -/
import Derived.Test.YtmligbaalbbgiabGreatDoorReadW
namespace Go.Proofs.YtmligbaalbbgiabGreatDoor
open Go.RowKit

theorem addAll_app (seen a b : List Int) : addAll (addAll seen a) b = addAll seen (a ++ b) := by
  induction a generalizing seen with
  | nil => rfl
  | cons x r ih => rw [List.cons_append, addAll, addAll, ih]
theorem allCells_next {l : List FileD} {I : Nat} {x : FileD} (h : l[I]? = some x) : allCells (l.take (I + 1)) = allCells (l.take I) ++ x.cells := by
  rw [List.take_add_one, h, Option.toList_some]
  simp [allCells]

set_option maxRecDepth 100000 in
set_option maxHeartbeats 4000000 in
theorem freecells_any {w : World} {A : Option Addr} {n c : Nat} {l : List FileD} (h : FilesAt w A n l) (hr : rightB l = true) :
    Calls Tryz.prog 16 #[.slice A n c] w fun e w' => ∃ F fc, e = .returned (.slice F (freeL l).length fc) ∧ IntsIn w' F (freeL l) ∧ Below w.heap.size w w' := by
  obtain ⟨h8, hg, -⟩ := right_good hr
  have n8 : n ≤ 8 := by rw [h.hn]; exact h8
  have hcl : ∀ x ∈ l, x.cells.length ≤ 24 := fun x hx => by
    have h1 := hg x hx
    rw [h1.len]
    exact need_big x.size.toNat (by have := h1.s1; omega)
  have H := hide h
  have HN := hide h.hn
  have HCL := hide hcl
  clear h hr h8 hg hcl
  have hmm := @run_makeMap Tryz.prog
  obtain ⟨g, hg⟩ : ∃ g, g = w.heap.size := ⟨_, rfl⟩
  have HG := hide hg
  clear hg
  go_enter Tryz.func16, Tryz.ntmps16
  go_wp2_with fail
  obtain ⟨w1, hw1⟩ : ∃ w1, w1 = w.alloc (.map #[] 0) := ⟨_, rfl⟩
  have hb1 : Below w.heap.size w w1 := by rw [hw1]; exact (Below.refl _ _).alloc (Nat.le_refl _) _
  have hm1 : w1.heap[g]? = some (setO []) := by rw [hw1, HG.out]; exact heap_alloc_new w _
  rw [← hw1, ← HG.out]
  have HB1 := hide hb1
  have HM1 := hide hm1
  clear hw1 hb1 hm1 hmm
  go_loopw [13] (fun iv wr => ∃ I : Nat, iv = .int .i64 (I : Int) ∧ I ≤ n ∧ Below w.heap.size w wr ∧ wr.heap[g]? = some (setO (addAll [] (allCells (l.take I))))) (fun iv _ => n - (intOf iv).toNat)
  case atStart => exact ⟨0, rfl, by omega, HB1.out, HM1.out⟩
  case round =>
    clear HB1 HM1
    obtain ⟨I, rfl, hI, hb, hm⟩ := hrel
    by_cases hlt : I < n
    · have d0 : decide (I < n) = true := by simpa using hlt
      obtain ⟨a, x, rfl, hlx, q0, q1, q2, -⟩ := (H.out.below hb).row I hlt
      have hcs : IntsIn w x.cA x.cells := by
        obtain ⟨_, x', _, hlx', _, _, _, hcs'⟩ := H.out.row I hlt
        rw [hlx] at hlx'
        obtain rfl := Option.some.inj hlx'
        exact hcs'
      have hm24 := HCL.out x (List.mem_of_getElem? hlx)
      have hg2 : g < wr.heap.size := MapKept_lt hm
      have hnx := allCells_next hlx
      obtain ⟨S0, hS0⟩ : ∃ S0, S0 = addAll [] (allCells (l.take I)) := ⟨_, rfl⟩
      have hS1 : addAll [] (allCells (l.take (I + 1))) = addAll S0 x.cells := by rw [hnx, hS0, addAll_app]
      rw [← hS0] at hm
      have HB := hide hb
      have HM := hide hm
      have HCS := hide hcs
      have HS1 := hide hS1
      clear hb hm hcs hlx hnx hS0 hS1
      go_upto_region 5 with fail
      obtain ⟨X, hX⟩ : ∃ X, X = wr.heap.size := ⟨_, rfl⟩
      obtain ⟨w6, hw6⟩ : ∃ w6, w6 = wr.alloc (.cells #[.string x.name, .int .i64 x.size, .slice x.cA x.cells.length x.cc] 44) := ⟨_, rfl⟩
      have hb6 : Below wr.heap.size wr w6 := by rw [hw6]; exact (Below.refl _ _).alloc (Nat.le_refl _) _
      have hx6 : Blk w6 X 44 #[.string x.name, .int .i64 x.size, .slice x.cA x.cells.length x.cc] := by rw [hw6, hX]; exact Blk.new _ _ _
      have HBW6 := hide (below_step HB.out hb6)
      have HM6 : Hid (w6.heap[g]? = some (setO S0)) := hide ((hb6.block g hg2).trans HM.out)
      have e2 : w6.cell? ⟨X, 2, none⟩ = some (.slice x.cA x.cells.length x.cc) := hx6.cell 2
      rw [← hw6, ← hX]
      clear hw6 hX hb6 hx6 HM hg2 q0 q1 q2
      obtain ⟨m, hm⟩ : ∃ m, m = x.cells.length := ⟨_, rfl⟩
      rw [← hm] at e2 hm24
      rw [← hm]
      have HMD := hide hm
      clear hm
      go_upto_region 6 with fail
      clear e2
      go_loopw [20] (fun jv W => ∃ J : Nat, jv = .int .i64 (J : Int) ∧ J ≤ m ∧ Below w.heap.size w W ∧ W.heap[g]? = some (setO (addAll S0 (x.cells.take J)))) (fun jv _ => m - (intOf jv).toNat)
      case atStart => exact ⟨0, rfl, by omega, HBW6.out, HM6.out⟩
      case round =>
        clear HM6
        obtain ⟨J, rfl, hJ, hb2, hm2⟩ := hrel
        by_cases hlt2 : J < m
        · have d1 : decide (J < m) = true := by simpa using hlt2
          have hJl : J < x.cells.length := by rw [← HMD.out]; exact hlt2
          obtain ⟨k, hk⟩ : ∃ k, k = x.cells.getD J 0 := ⟨_, rfl⟩
          have hke : x.cells[J] = k := by rw [hk]; simp [List.getD, hJl]
          obtain ⟨ca, hca, hcb, hcc⟩ := (HCS.out.keep hb2) (by omega)
          have q5 := hcc J hJl
          rw [← hk] at q5
          have htk : x.cells.take (J + 1) = x.cells.take J ++ [k] := by rw [List.take_succ_eq_append_getElem hJl, hke]
          obtain ⟨seen2, hs2⟩ : ∃ s, s = addAll S0 (x.cells.take J) := ⟨_, rfl⟩
          have hs3 : (if k ∈ seen2 then seen2 else seen2 ++ [k]) = addAll S0 (x.cells.take (J + 1)) := by rw [htk, addAll_snoc, ← hs2]
          obtain ⟨S3, hS3⟩ : ∃ S3, S3 = (if k ∈ seen2 then seen2 else seen2 ++ [k]) := ⟨_, rfl⟩
          rw [← hS3] at hs3
          rw [← hs2] at hm2
          have hput := set_any seen2 k g _ hm2
          rw [← hS3] at hput
          rw [hca]
          have HS3 := hide hs3
          have HB2 := hide hb2
          have HM2 := hide hm2
          clear hb2 hm2 hs2 hca hcc hk hke hcb htk hs3 hS3
          go_wp2_with fail
          go_roundw
          case rel => exact ⟨J + 1, by go_num, by omega, Below.setBlk HB2.out HM2.out (by rw [HG.out]; exact Nat.le_refl _), by rw [← HS3.out]; exact setBlk_heap HM2.out⟩
          case measure => simp [intOf]; omega
        · have d1 : decide (J < m) = false := by simpa using hlt2
          obtain rfl : J = m := by omega
          have hall : x.cells.take J = x.cells := List.take_of_length_le (by rw [← HMD.out]; exact Nat.le_refl _)
          rw [hall, ← HS1.out] at hm2
          have HB2 := hide hb2
          have HM2 := hide hm2
          clear hb2 hm2 hall
          go_wp2_with fail
          go_roundw
          case rel => exact ⟨I + 1, by go_num, by omega, HB2.out, HM2.out⟩
          case measure => simp [intOf]; omega
    · have d0 : decide (I < n) = false := by simpa using hlt
      obtain rfl : I = n := by omega
      rw [List.take_of_length_le (by rw [← HN.out]; exact Nat.le_refl _)] at hm
      obtain ⟨S, hS⟩ : ∃ S, S = addAll [] (allCells l) := ⟨_, rfl⟩
      have hin : ∀ k, decide (k ∈ S) = l.any fun x => decide (k ∈ x.cells) := fun k => by
        rw [← any_cells, Bool.eq_iff_iff, all_mem, hS, decide_eq_true_eq, mem_addAll]
        simp
      rw [← hS] at hm
      have HIN := hide hin
      have HB := hide hb
      have HM := hide hm
      have hglt := MapKept_lt hm
      clear hb hm hS hin
      go_upto_region 13 with fail
      obtain ⟨wz, hwz⟩ : ∃ wz, wz = wr := ⟨_, rfl⟩
      rw [← hwz]
      rw [← hwz] at HB HM hglt
      clear hwz
      go_loopw [8, 9] (fun v kv W => ∃ K : Nat, kv = .int .i64 (K : Int) ∧ 3 ≤ K ∧ K ≤ 24 ∧ W.ownsRow wz.heap.size 3 1 v (freeTo l K).length ((freeTo l K).map fun z => Value.int .i64 z) ∧ Below wz.heap.size wz W) (fun _ kv _ => 24 - (intOf kv).toNat)
      case atStart => exact ⟨3, rfl, by omega, by omega, World.ownsRow_nil _ _ _ _, Below.refl _ _⟩
      case round =>
        obtain ⟨K, rfl, hK3, hK24, hrow, hb2⟩ := hrel
        by_cases hK : K < 24
        · have d0 : decide (K < 24) = true := by simpa using hK
          have d0' : decide ((K : Int) < 24) = true := by simp; omega
          have hnx := freeTo_next l K hK3 hK
          rw [← HIN.out] at hnx
          have hlen := freeTo_len l K hK24
          have hm2 : wr.heap[g]? = some (setO S) := (hb2.block g hglt).trans HM.out
          have hget := set_get S (K : Int) g wr hm2
          obtain ⟨q, hq⟩ : ∃ q, q = decide ((K : Int) ∈ S) := ⟨_, rfl⟩
          rw [← hq] at hget hnx
          obtain ⟨fs, hfs⟩ : ∃ fs, fs = freeTo l K := ⟨_, rfl⟩
          rw [← hfs] at hrow hnx hlen
          have HROW := hide hrow
          have HB2 := hide hb2
          have HNX := hide hnx
          clear hq hnx hfs hrow hb2 hm2
          cases q with
          | true =>
            go_wp2_with fail
            go_roundw
            case rel => exact ⟨K + 1, by go_num, by omega, by omega, by rw [HNX.out]; simpa using HROW.out, HB2.out⟩
            case measure => simp [intOf]; omega
          | false =>
            obtain ⟨i0, hi0, hz0, hz1, hz2⟩ := info_parts info_int
            have HI0 := hide hi0
            have HZ0 := hide hz0
            have HZ1 := hide hz1
            have HZ2 := hide hz2
            clear hi0 hz0 hz1 hz2
            go_wp2_with (at_builtin; go_loud (refine wpList_append_own_at _ rfl (.tmp 36) (.tmp 38) 35 rfl wz.heap.size 3 i0 (.int .i64 0) 1 8 Tryz.underlying35 HI0.out HZ0.out HZ1.out HZ2.out rfl (by decide) _ _ _ rfl (HROW.out.alloc _) ⟨wr.heap.size, 0, none⟩ 1 1 [.int .i64 (K : Int)] rfl rfl (news_l _ _ _) (by simp [Value.oneCell']) (by unfold maxLen; omega) (by omega) (by have := HB2.out.size; simp; omega) ?_; intro v5 w5 hr5 hg5 _ hw5; have HR5 := hide hr5; have HB5 := hide ((HB2.out.alloc HB2.out.size _).grown hg5 (by have := HB2.out.size; simp; omega) (fun k hk => (HROW.out.lt k hk).1)); clear hr5 hg5 hw5))
            go_roundw
            case rel => exact ⟨K + 1, by go_num, by omega, by omega, by rw [HNX.out]; simpa using HR5.out, HB5.out⟩
            case measure => simp [intOf]; omega
        · obtain rfl : K = 24 := by omega
          obtain ⟨F, fc, rfl⟩ := own_slice hrow
          rw [freeTo_end] at hrow ⊢
          have HROW := hide hrow
          have HB2 := hide (below_step HB.out hb2)
          clear hrow hb2
          go_wp2_with fail
          go_ret
          exact ⟨_, _, rfl, (own_ints HROW.out).2, HB2.out⟩
end Go.Proofs.YtmligbaalbbgiabGreatDoor

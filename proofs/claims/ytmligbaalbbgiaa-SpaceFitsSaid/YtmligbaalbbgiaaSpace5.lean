/- The function space.In. No condition. -/
import Derived.Test.YtmligbaalbbgiaaProg
import Derived.Test.YtmligbaalbbgiaaBase
import Derived.Test.YtmligbaalbbgiaaSpaceS
import Derived.Test.YtmligbaalbbgiaaSpace1
import Derived.Test.YtmligbaalbbgiaaSpace3
import Derived.Test.YtmligbaalbbgiaaSpace4
import Derived.Test.YtmligbaalbbgiaaTable
import Derived.Test.YtmligbaalbbgiaaSort
import Derived.Sort.OwnSortedInts
namespace Go.Proofs.Ytmligbaalbbgiaa
open Go.RowKit Go.Sort

theorem intsV_map (l : List Nat) : intsV l = (l.map fun n : Nat => (n : Int)).map (Value.int .i64) := by simp [intsV, iv]
theorem sorted_map {l : List Nat} (h : l.Pairwise (· ≤ ·)) : (l.map fun n : Nat => (n : Int)).mergeSort (fun x y => decide (x ≤ y)) = l.map fun n : Nat => (n : Int) := by
  apply List.mergeSort_of_pairwise
  rw [List.pairwise_map]
  exact h.imp (fun hab => by simpa using hab)
theorem inAt_sorted (zone : Nat → Int) (tag : Nat → ByteArray) (z : Int) (k : Nat) : (inAt zone tag z k).Pairwise (· ≤ ·) := by
  induction k with
  | zero => exact List.Pairwise.nil
  | succ k ih =>
    rw [inAt]
    split
    · rw [List.pairwise_append]
      refine ⟨ih, by simp, fun a ha b hb => ?_⟩
      have := inAt_lt zone tag z k a ha
      rw [List.mem_singleton.1 hb]
      omega
    · exact ih
theorem sort_own {w : World} {base : Nat} {v : Value} {l : List Nat} (h : w.ownsRow base 3 1 v l.length (intsV l)) (hs : l.Pairwise (· ≤ ·)) (hl : l.length ≤ 1000) :
    Calls Try.prog 52 #[v] w fun e w' => e = .returned (.tuple #[]) ∧ w'.ownsRow base 3 1 v l.length (intsV l) ∧ w.grownBy w' v.ownBlock := by
  rcases h.2 with ⟨rfl, h0⟩ | ⟨g, cap, cur, rfl, hb, hg, hn, hc, hsz, htake⟩
  · have hl0 : l = [] := List.eq_nil_of_length_eq_zero h0
    subst hl0
    have hcon : Calls Try.prog 52 #[.slice none 0 0] w _ := AnyM.slices_Sort_int_none Try.sortA none 0 w
    refine hcon.mono fun e w' ⟨he, hw⟩ => ⟨he, ?_, ?_⟩
    · rw [hw]; exact h
    · rw [hw]; exact ⟨rfl, rfl, rfl, Nat.le_refl _, fun _ _ _ => rfl⟩
  · have hzl : (l.map fun n : Nat => (n : Int)).length = l.length := by simp
    have hH : Holds (Value.int .i64) w g 0 (l.map fun n : Nat => (n : Int)).toArray := holds_of_blockI hg (by rw [hzl, ← intsV_map, ← htake, Nat.mul_one])
    have hgl : g < w.heap.size := (Array.getElem?_eq_some_iff.1 hg).1
    have hcon : Calls Try.prog 52 #[.slice (some ⟨g, 0, none⟩) (l.map fun n : Nat => (n : Int)).length cap] w _ := AnyM.slices_Sort_int Try.sortA g 0 cap (l.map fun n : Nat => (n : Int)) w hH hgl (by rw [hzl]; omega)
    rw [hzl] at hcon
    refine hcon.mono fun e w' ⟨he, n, os, hw⟩ => ⟨he, ?_, ?_⟩
    · rw [hw, sorted_map hs, intsV_map]
      have := ownsRow_sortedI (w := w) (base := base) (g := g) (cap := cap) (n := n) (e := 3) (os := os) (ss := l.map fun n : Nat => (n : Int)) (ts := l.map fun n : Nat => (n : Int)) rfl hb hg (by rw [hzl]; exact hn) hc hsz
      rwa [hzl] at this
    · rw [hw]
      exact grownBy_sortedI _

set_option maxRecDepth 100000 in
set_option maxHeartbeats 4000000 in
theorem in_any (cs : Array Value) (zone off : Nat → Int) (tag : Nat → ByteArray) (z : Int) (hT : Tab cs zone off tag) (w : World) :
    Calls Try.prog 34 #[.agg cs, .int .i64 z] w fun e w' => ∃ v, e = .returned v ∧ w'.ownsRow w.heap.size 3 1 v (inAt zone tag z 24).length (intsV (inAt zone tag z 24)) ∧ Below w.heap.size w w' := by
  obtain ⟨i0, hi0, hz0, hz1, hz2⟩ := info_parts info_i64'
  have HT := hide hT
  have HB0 : Hid (Below (w.heap.size + 1) (w.alloc (.cells cs 57)) (w.alloc (.cells cs 57))) := hide (Below.refl _ _)
  have HBX : Hid (∀ i, (w.alloc (.cells cs 57)).cell? ⟨w.heap.size, i, none⟩ = cs[i]?) := hide (fun i => box_cell w cs _ i)
  have HBW : Hid (Below w.heap.size w (w.alloc (.cells cs 57))) := hide ((Below.refl _ _).alloc (Nat.le_refl _) _)
  clear hT
  go_enter Try.func34, Try.ntmps34
  go_wp2
  obtain ⟨B, hB⟩ : ∃ B, B = w.heap.size := ⟨_, rfl⟩
  obtain ⟨W1, hW1⟩ : ∃ W1, W1 = w.alloc (.cells cs 57) := ⟨_, rfl⟩
  have HS1 : Hid (B + 1 ≤ W1.heap.size) := hide (by rw [hW1, hB]; simp)
  rw [← hB, ← hW1] at HB0 HBX
  rw [← hW1] at HBW
  rw [← hB, ← hW1]
  have HBD := hide hB
  clear hB hW1
  go_loopw [5, 7] (fun v i wr => ∃ I : Nat, i = .int .i64 (I : Int) ∧ I ≤ 24 ∧ wr.ownsRow (B + 1) 3 1 v (inAt zone tag z I).length (intsV (inAt zone tag z I)) ∧ Below (B + 1) W1 wr) (fun _ i _ => 24 - (intOf i).toNat)
  case atStart => exact ⟨0, rfl, by omega, World.ownsRow_nil _ _ _ _, HB0.out⟩
  case round =>
    clear HB0
    obtain ⟨wa, rfl⟩ : ∃ wa : World, wa = wr := ⟨_, rfl⟩
    obtain ⟨I, rfl, hI, hown, hbel⟩ := hrel
    have HBE := hide hbel
    have HOW := hide hown
    clear hbel
    have HSZ : Hid (B + 1 ≤ wa.heap.size) := hide (Nat.le_trans HS1.out HBE.out.size)
    by_cases hlt : I < 24
    · have d0 : decide ((I : Int) < 24) = true := by simp; omega
      have d0' : (I : Int) < 24 := by omega
      have ct := ((HBE.out.cell (p := ⟨B, 3 + 3 * I, none⟩) (Nat.lt_succ_self B)).trans (HBX.out _)).trans (HT.out.t I hlt)
      have cz := ((HBE.out.cell (p := ⟨B, 1 + 3 * I, none⟩) (Nat.lt_succ_self B)).trans (HBX.out _)).trans (HT.out.z I hlt)
      rw [show 3 + 3 * I = 1 + I * 3 + 2 from by omega] at ct
      rw [show 1 + 3 * I = 1 + I * 3 from by omega] at cz
      have hln := inAt_length zone tag z I
      obtain ⟨l, hl⟩ : ∃ l, l = inAt zone tag z I := ⟨_, rfl⟩
      rw [← hl] at HOW hown hln
      have HNX : Hid (inAt zone tag z (I + 1) = if (tag I).toList.isEmpty = false ∧ zone I = z then l ++ [I] else l) := hide (by rw [inAt, ← hl])
      clear hl
      cases ht : (tag I).toList.isEmpty with
      | true =>
        have ht2 : (tag I).toList = [] := by simpa using ht
        rw [ht] at HNX
        clear hown
        go_wp2_with fail
        refine ⟨⟨I + 1, by go_num, by omega, ?_, HBE.out⟩, by simp [intOf]; omega⟩
        rw [HNX.out, if_neg (fun h => by cases h.1)]
        exact HOW.out
      | false =>
        have ht2 : ¬ (tag I).toList = [] := by intro h; rw [h] at ht; cases ht
        rw [ht] at HNX
        by_cases hz : zone I = z
        · have d2 : (zone I == z) = true := by simpa using hz
          have HZ := hide hz
          have e1 : Hid (intsV [I] = [Value.int .i64 (I : Int)]) := hide rfl
          clear hz hown
          go_wp2_with (at_builtin; go_loud (refine wpList_append_lies _ rfl (.tmp 25) (.tmp 27) 32 rfl (B + 1) 3 i0 (.int .i64 0) 1 8 Try.underlying32 hi0 hz0 hz1 hz2 rfl (by decide) _ _ _ rfl (HOW.out.alloc _) ⟨wa.heap.size, 0, none⟩ 1 1 [Value.int .i64 (I : Int)] rfl rfl (news_new wa _ _) (by rw [← e1.out]; exact intsV_oneCell _) (by decide) (by unfold maxLen; omega) (by omega) (by have := HSZ.out; simp; omega) (wa.heap.size + 1) (by simp) ?_; intro gv cv w4 hr4 hg4 _ _; rw [← e1.out, ← intsV_append] at hr4))
          have hb4 : Below (B + 1) W1 w4 := (HBE.out.alloc HSZ.out _).grown hg4 (by have := HSZ.out; simp; omega) (fun q hq => (HOW.out.lt q hq).1)
          have HR4 := hide hr4
          clear hr4 hg4
          refine ⟨⟨I + 1, by go_num, by omega, ?_, hb4⟩, by simp [intOf]; omega⟩
          rw [HNX.out, if_pos ⟨rfl, HZ.out⟩]
          simpa using HR4.out
        · have d2 : (zone I == z) = false := by simpa using hz
          have HZ := hide hz
          clear hz hown
          go_wp2_with fail
          refine ⟨⟨I + 1, by go_num, by omega, ?_, HBE.out⟩, by simp [intOf]; omega⟩
          rw [HNX.out, if_neg (fun h => HZ.out h.2)]
          exact HOW.out
    · obtain rfl : I = 24 := by omega
      rw [show ((24 : Nat) : Int) = 24 from rfl]
      have hln := inAt_length zone tag z 24
      go_wp2_with (go_at_call 52; go_loud (refine (sort_own HOW.out (inAt_sorted _ _ _ _) (by omega)).mono ?_; rintro e w5 ⟨rfl, hw5, hg5⟩))
      go_ret
      refine ⟨_, rfl, own_low' hw5 (by rw [HBD.out]; omega), ?_⟩
      have h6 : Below (B + 1) W1 w5 := HBE.out.grown hg5 HSZ.out (fun q hq => (HOW.out.lt q hq).1)
      exact HBW.out.trans (h6.mono (by rw [HBD.out]; omega))
end Go.Proofs.Ytmligbaalbbgiaa

/- The functions salternlaw.longTable and salternref.In. No condition. -/
import Derived.Test.YtmligbaalbbgiaaProg
import Derived.Test.YtmligbaalbbgiaaBase
import Derived.Test.YtmligbaalbbgiaaSpaceS
import Derived.Test.YtmligbaalbbgiaaSpace1
import Derived.Test.YtmligbaalbbgiaaTable
import Derived.Deep.MidRow
namespace Go.Proofs.Ytmligbaalbbgiaa
open Go.RowKit

theorem long_is (s : ByteArray) (w : World) : Calls Try.prog 51 #[.string s] w fun e w' => e = .returned (.bool (decide (60 < s.size))) ∧ w = w' := by
  by_cases h : 60 < s.size
  · have b : decide (60 < s.size) = true := by simpa using h
    rw [b]
    go_enter Try.func51, Try.ntmps51
    go_wp2
    go_ret
    exact ⟨by simp; omega, rfl⟩
  · have b : decide (60 < s.size) = false := by simp; omega
    rw [b]
    go_enter Try.func51, Try.ntmps51
    go_wp2
    go_ret
    exact ⟨by simp; omega, rfl⟩
/-- The first of the table's cells is long. -/
def longAt (tag : Nat → ByteArray) : Nat → Bool
  | 0 => false
  | k + 1 => longAt tag k || decide (60 < (tag k).size)
theorem longAt_stays {tag : Nat → ByteArray} {k n : Nat} (h : longAt tag k = true) (hk : k ≤ n) : longAt tag n = true := by
  obtain ⟨j, rfl⟩ := Nat.exists_eq_add_of_le hk
  clear hk
  induction j with
  | zero => exact h
  | succ j ih => rw [show k + (j + 1) = (k + j) + 1 from rfl, longAt, ih]; rfl
theorem box_cell (w : World) (cs : Array Value) (t i : Nat) : (w.alloc (.cells cs t)).cell? ⟨w.heap.size, i, none⟩ = cs[i]? := cell_of_row _ _ _ _ t (0, 0) (heap_alloc_new w _)

set_option maxRecDepth 100000 in
set_option maxHeartbeats 2000000 in
theorem longTable_any (cs : Array Value) (zone off : Nat → Int) (tag : Nat → ByteArray) (hT : Tab cs zone off tag) (w : World) :
    Calls Try.prog 24 #[.agg cs] w fun e w' => e = .returned (.bool (longAt tag 24)) ∧ Below w.heap.size w w' := by
  have HT := hide hT
  clear hT
  go_enter Try.func24, Try.ntmps24
  go_wp2
  have HBX : Hid (∀ i, (w.alloc (.cells cs 57)).cell? ⟨w.heap.size, i, none⟩ = cs[i]?) := hide (fun i => box_cell w cs _ i)
  have HB0 : Hid (Below w.heap.size w (w.alloc (.cells cs 57))) := hide ((Below.refl _ _).alloc (Nat.le_refl _) _)
  obtain ⟨B, hB⟩ : ∃ B, B = w.heap.size := ⟨_, rfl⟩
  obtain ⟨W1, hW1⟩ : ∃ W1, W1 = w.alloc (.cells cs 57) := ⟨_, rfl⟩
  rw [← hB, ← hW1] at HBX
  rw [← hW1] at HB0
  rw [← hB, ← hW1]
  clear hB hW1
  go_loopw [3] (fun i wr => ∃ I : Nat, i = .int .i64 (I : Int) ∧ I ≤ 24 ∧ longAt tag I = false ∧ wr = W1) (fun i _ => 24 - (intOf i).toNat)
  case atStart => exact ⟨0, rfl, by omega, rfl, rfl⟩
  case round =>
    obtain ⟨I, rfl, hI, hlo, rfl⟩ := hrel
    have HLO := hide hlo
    clear hlo
    by_cases hlt : I < 24
    · have d0 : decide ((I : Int) < 24) = true := by simp; omega
      have d0' : (I : Int) < 24 := by omega
      have cx := (HBX.out (3 + 3 * I)).trans (HT.out.t I hlt)
      have cx2 := cx
      rw [show 3 + 3 * I = 1 + I * 3 + 2 from by omega] at cx2
      by_cases hl : 60 < (tag I).size
      · have HL : Hid (decide (60 < (tag I).size) = true) := hide (by simpa using hl)
        have HN : Hid (longAt tag 24 = true) := hide (longAt_stays (k := I + 1) (by rw [longAt, HL.out]; simp) (by omega))
        clear hl
        go_wp2_with (go_at_call 51; refine (long_is _ _).mono ?_; rintro e w1 ⟨rfl, rfl⟩; rw [HL.out])
        go_ret
        exact ⟨by rw [HN.out]; rfl, HB0.out⟩
      · have HL : Hid (decide (60 < (tag I).size) = false) := hide (by simpa using hl)
        have HN : Hid (longAt tag (I + 1) = false) := hide (by rw [longAt, HL.out, HLO.out]; rfl)
        clear hl
        go_wp2_with (go_at_call 51; refine (long_is _ _).mono ?_; rintro e w1 ⟨rfl, rfl⟩; rw [HL.out])
        exact ⟨⟨I + 1, by go_num, by omega, HN.out, trivial⟩, by simp [intOf]; omega⟩
    · obtain rfl : I = 24 := by omega
      rw [show ((24 : Nat) : Int) = 24 from rfl]
      go_wp2
      go_ret
      exact ⟨by rw [HLO.out]; rfl, HB0.out⟩
/-- The table's cells, as an array. -/
def cellsOfT (cs : Array Value) : Array Value := ((cs.toList.drop 1).take 72).toArray
theorem cellsOfT_get (cs : Array Value) (j : Nat) (hj : j < 72) : (cellsOfT cs)[j]? = cs[1 + j]? := by
  simp [cellsOfT, List.getElem?_take, hj, Nat.add_comm]
def cellV (zone off : Nat → Int) (tag : Nat → ByteArray) (i : Nat) : Array Value := #[.int .i64 (zone i), .int .i64 (off i), .string (tag i)]
theorem run_index_cell {cs : Array Value} {zone off : Nat → Int} {tag : Nat → ByteArray} (hT : Tab cs zone off tag) (i : Nat) (hi : i < 24) (w : World) :
    (Instr.index 55 (.agg (cellsOfT cs)) (.int .i64 (i : Int))).run Try.prog w = .ok (.agg (cellV zone off tag i)) w := by
  have hs : (Try.prog.info? 54).map (·.size) = some 3 := by kernel_rfl
  obtain ⟨j, hj, hj1⟩ := Option.map_eq_some_iff.1 hs
  have e : (cellsOfT cs).extract (i * 3) (i * 3 + 3) = cellV zone off tag i := by
    have hsz : (cellsOfT cs).size = 72 := by
      have := hT.size
      simp [cellsOfT]
      omega
    apply Array.ext (by simp [hsz, cellV]; omega)
    intro k h1 h2
    have hk : k < 3 := h2
    have h3 : ((cellsOfT cs).extract (i * 3) (i * 3 + 3))[k]? = (cellV zone off tag i)[k]? := by
      rw [Array.getElem?_extract, if_pos (by omega), cellsOfT_get _ _ (by omega)]
      have : k = 0 ∨ k = 1 ∨ k = 2 := by omega
      rcases this with rfl | rfl | rfl
      · rw [show 1 + (i * 3 + 0) = 1 + 3 * i from by omega, hT.z i hi]; rfl
      · rw [show 1 + (i * 3 + 1) = 2 + 3 * i from by omega, hT.o i hi]; rfl
      · rw [show 1 + (i * 3 + 2) = 3 + 3 * i from by omega, hT.t i hi]; rfl
    rw [Array.getElem?_eq_getElem h1, Array.getElem?_eq_getElem h2] at h3
    exact Option.some.inj h3
  simp [Instr.index, asIntOf, run_underlying Try.underlying55, hi, sizeOf, typeInfo, hj, hj1, part, isAgg, run_underlying Try.underlying54]
  exact e
theorem info_i64' : (Try.prog.info? 3).map (fun i => (i.zero, i.size, i.bytes)) = some (some (.int .i64 0), 1, 8) := by kernel_rfl
def iv (n : Nat) : Value := .int .i64 (n : Int)
def intsV (l : List Nat) : List Value := l.map iv
theorem intsV_append (a b : List Nat) : intsV (a ++ b) = intsV a ++ intsV b := by simp [intsV]
theorem intsV_oneCell (l : List Nat) : ∀ u ∈ intsV l, u.oneCell' = true := by
  intro u hu
  obtain ⟨c, _, rfl⟩ := List.mem_map.1 hu
  rfl
theorem own_shape {w : World} {base size n : Nat} {e : TypeId} {v : Value} {xs : List Value} (h : w.ownsRow base e size v n xs) : ∃ a c, v = .slice a n c := by
  rcases h.2 with ⟨rfl, rfl⟩ | ⟨g, cap, _, rfl, _⟩
  · exact ⟨none, 0, rfl⟩
  · exact ⟨_, cap, rfl⟩

set_option maxRecDepth 100000 in
set_option maxHeartbeats 4000000 in
theorem refIn_any (cs : Array Value) (zone off : Nat → Int) (tag : Nat → ByteArray) (z : Int) (hT : Tab cs zone off tag) (w : World) :
    Calls Try.prog 35 #[.agg cs, .int .i64 z] w fun e w' => ∃ v, e = .returned v ∧ w'.ownsRow w.heap.size 3 1 v (inAt zone tag z 24).length (intsV (inAt zone tag z 24)) ∧ Below w.heap.size w w' := by
  obtain ⟨i0, hi0, hz0, hz1, hz2⟩ := info_parts info_i64'
  have HT := hide hT
  obtain ⟨AR, hAR⟩ : ∃ AR : List Value, AR = (cs.toList.drop 1).take 72 := ⟨_, rfl⟩
  have HRG : Hid ((w.alloc (.cells cs 57)).rangeAt w.heap.size 1 AR) := hide (by
    intro j v hv
    rw [box_cell]
    rw [hAR] at hv
    have hj : j < 72 := by
      have := (List.getElem?_eq_some_iff.1 hv).1
      simp at this
      omega
    rw [← hv]
    simp [List.getElem?_take, hj, Nat.add_comm])
  have hs72 : (Try.prog.info? 55).map (·.size) = some 72 := by kernel_rfl
  have hl72 : AR.length = 72 := by
    have := hT.size
    rw [hAR]
    simp
    omega
  have HSZ : Hid ((Try.prog.info? 55).map (·.size) = some AR.length) := hide (by rw [hl72]; exact hs72)
  have HAR : Hid (cellsOfT cs = AR.toArray) := hide (by rw [hAR]; rfl)
  clear hAR hs72 hl72
  have HB0 : Hid (Below w.heap.size w (w.alloc (.cells cs 57))) := hide ((Below.refl _ _).alloc (Nat.le_refl _) _)
  clear hT
  go_enter Try.func35, Try.ntmps35
  go_wp2_with (refine wpList_load_mid rfl 55 (.tmp 8) rfl w.heap.size 1 rfl AR _ HRG.out Try.underlying55 rfl HSZ.out ?_)
  obtain ⟨W1, hW1⟩ : ∃ W1, W1 = w.alloc (.cells cs 57) := ⟨_, rfl⟩
  rw [← hW1] at HB0
  rw [← hW1]
  clear hW1 HRG HSZ
  go_loopw [5, 10] (fun v i wr => ∃ I : Nat, i = .int .i64 (I : Int) ∧ I ≤ 24 ∧ wr.ownsRow w.heap.size 3 1 v (inAt zone tag z I).length (intsV (inAt zone tag z I)) ∧ Below w.heap.size w wr) (fun _ i _ => 24 - (intOf i).toNat)
  case atStart => exact ⟨0, rfl, by omega, World.ownsRow_nil _ _ _ _, HB0.out⟩
  case round =>
    clear HB0
    obtain ⟨wa, rfl⟩ : ∃ wa : World, wa = wr := ⟨_, rfl⟩
    obtain ⟨I, rfl, hI, hown, hbel⟩ := hrel
    have HOW := hide hown
    have HBE := hide hbel
    clear hbel
    by_cases hlt : I < 24
    · have d0 : decide ((I : Int) < 24) = true := by simp; omega
      have d0' : (I : Int) < 24 := by omega
      have hix := run_index_cell HT.out I hlt
      unfold cellV at hix
      rw [HAR.out] at hix
      have hln := inAt_length zone tag z I
      obtain ⟨l, hl⟩ : ∃ l, l = inAt zone tag z I := ⟨_, rfl⟩
      rw [← hl] at HOW hown hln
      have HL := hide hl
      clear hl
      have HB1 : Hid (Below w.heap.size w (wa.alloc (.cells #[.int .i64 (zone I), .int .i64 (off I), .string (tag I)] 54))) := hide (HBE.out.alloc HBE.out.size _)
      have HO1 : Hid ((wa.alloc (.cells #[.int .i64 (zone I), .int .i64 (off I), .string (tag I)] 54)).ownsRow w.heap.size 3 1 u5 l.length (intsV l)) := hide (hown.alloc _)
      have HNX : Hid (inAt zone tag z (I + 1) = if (tag I).toList.isEmpty = false ∧ zone I = z then l ++ [I] else l) := hide (by rw [inAt, ← HL.out])
      cases ht : (tag I).toList.isEmpty with
      | true =>
        have ht2 : (tag I).toList = [] := by simpa using ht
        rw [ht] at HNX
        go_wp2_with fail
        refine ⟨⟨I + 1, by go_num, by omega, ?_, HB1.out⟩, by simp [intOf]; omega⟩
        rw [HNX.out, if_neg (fun h => by cases h.1)]
        exact HO1.out
      | false =>
        have ht2 : ¬ (tag I).toList = [] := by intro h; rw [h] at ht; cases ht
        rw [ht] at HNX
        by_cases hz : zone I = z
        · have d2 : (zone I == z) = true := by simpa using hz
          have HZ := hide hz
          clear hz
          go_upto_region 6 with fail
          obtain ⟨wb, hwb⟩ : ∃ wb, wb = wa.alloc (.cells #[.int .i64 (zone I), .int .i64 (off I), .string (tag I)] 54) := ⟨_, rfl⟩
          rw [← hwb] at HB1 HO1
          rw [← hwb]
          clear hwb
          have e1 : Hid (intsV [I] = [Value.int .i64 (I : Int)]) := hide rfl
          go_wp2_with (at_builtin; refine wpList_append_lies _ rfl (.tmp 23) (.tmp 25) 32 rfl w.heap.size 3 i0 (.int .i64 0) 1 8 Try.underlying32 hi0 hz0 hz1 hz2 rfl (by decide) _ _ _ rfl (HO1.out.alloc _) ⟨wb.heap.size, 0, none⟩ 1 1 [Value.int .i64 (I : Int)] rfl rfl (news_new wb _ _) (by rw [← e1.out]; exact intsV_oneCell _) (by decide) (by unfold maxLen; omega) (by omega) (by have := HB1.out.size; simp; omega) (wb.heap.size + 1) (by simp) ?_; intro gv cv w4 hr4 hg4 _ _; rw [← e1.out, ← intsV_append] at hr4)
          have hb4 : Below w.heap.size w w4 := (HB1.out.alloc HB1.out.size _).grown hg4 (by have := HB1.out.size; simp; omega) (fun q hq => (HO1.out.lt q hq).1)
          have HR4 := hide hr4
          clear hr4 hg4
          refine ⟨⟨I + 1, by go_num, by omega, ?_, hb4⟩, by simp [intOf]; omega⟩
          rw [HNX.out, if_pos ⟨rfl, HZ.out⟩]
          simpa using HR4.out
        · have d2 : (zone I == z) = false := by simpa using hz
          have HZ := hide hz
          clear hz
          go_wp2_with fail
          refine ⟨⟨I + 1, by go_num, by omega, ?_, HB1.out⟩, by simp [intOf]; omega⟩
          rw [HNX.out, if_neg (fun h => HZ.out h.2)]
          exact HO1.out
    · obtain rfl : I = 24 := by omega
      rw [show ((24 : Nat) : Int) = 24 from rfl]
      go_wp2
      go_ret
      exact ⟨_, rfl, HOW.out, HBE.out⟩
end Go.Proofs.Ytmligbaalbbgiaa

/- The functions salternlaw.sameInts, salternref.Live and space.Live. No condition. -/
import Derived.Test.YtmligbaalbbgiaaProg
import Derived.Test.YtmligbaalbbgiaaBase
import Derived.Test.YtmligbaalbbgiaaSpaceS
import Derived.Test.YtmligbaalbbgiaaSpace1
import Derived.Test.YtmligbaalbbgiaaSpace2
import Derived.Test.YtmligbaalbbgiaaTable
import Derived.Test.YtmligbaalbbgiaaSpace3
namespace Go.Proofs.Ytmligbaalbbgiaa
open Go.RowKit

theorem ints_of_own {w : World} {base n c : Nat} {A : Option Addr} {l : List Nat} (h : w.ownsRow base 3 1 (.slice A n c) n (intsV l)) (hb : ∀ x ∈ l, x ≤ 1000) : Ints w A (l.map fun x : Nat => (x : Int)) := by
  refine ⟨fun hl => ?_, fun i => ?_⟩
  · have hn : n = l.length := by have := h.1; simp [intsV] at this; omega
    rw [List.length_map] at hl
    obtain ⟨g, cap, e, _, hg⟩ := h.form (by omega)
    injection e with e1 _ _
    subst e1
    refine ⟨_, rfl, hg, fun i hi => ?_⟩
    rw [List.length_map] at hi
    have h1 := h.cells (g := g) rfl i (.int .i64 ((l[i] : Nat) : Int)) (by simp [intsV, iv, hi])
    rw [h1]
    simp [ith, List.getD, hi]
  · unfold ith
    by_cases hi : i < l.length
    · have := hb l[i] (List.getElem_mem hi)
      simp [List.getD, hi]
      omega
    · simp [List.getD, List.getElem?_eq_none (Nat.le_of_not_lt hi)]
theorem own_low' {w : World} {base base' size n : Nat} {e : TypeId} {v : Value} {xs : List Value} (h : w.ownsRow base e size v n xs) (hb : base' ≤ base) : w.ownsRow base' e size v n xs := by
  refine ⟨h.1, ?_⟩
  rcases h.2 with h2 | ⟨g, cap, cur, h1, h2, h3⟩
  · exact .inl h2
  · exact .inr ⟨g, cap, cur, h1, Nat.le_trans hb h2, h3⟩
theorem own_below {w w' : World} {base size n : Nat} {e : TypeId} {v : Value} {xs : List Value} (h : w.ownsRow base e size v n xs) (hb : Below w.heap.size w w') : w'.ownsRow base e size v n xs := by
  refine h.kept (row := none) ⟨hb.os, hb.tape, hb.output, hb.size, fun k hk _ => hb.block k hk⟩ ?_
  cases v.ownBlock with
  | none => exact .inl rfl
  | some k => exact .inr (by simp)

set_option maxRecDepth 100000 in
set_option maxHeartbeats 2000000 in
theorem sameInts_yes (A B : Option Addr) (ca cb : Nat) (zs : List Int) (hl : zs.length ≤ 1000) (w : World) (hA : Ints w A zs) (hB : Ints w B zs) :
    Calls Try.prog 31 #[.slice A zs.length ca, .slice B zs.length cb] w fun e w' => e = .returned (.bool true) ∧ ∃ k, w' = w.drewN k := by
  have HA := hide hA
  have HB := hide hB
  have b0 : ((zs.length : Int) != (zs.length : Int)) = false := by simp
  have b0' : (zs.length != zs.length) = false := by simp
  clear hA hB
  go_enter Try.func31, Try.ntmps31
  go_wp2
  go_loopw [5] (fun i wr => ∃ I : Nat, i = .int .i64 (I : Int) ∧ I ≤ zs.length ∧ ∃ k, wr = w.drewN k) (fun i _ => zs.length - (intOf i).toNat)
  case atStart => exact ⟨0, rfl, by omega, 0, rfl⟩
  case round =>
    obtain ⟨I, rfl, hI, q, rfl⟩ := hrel
    have HA1 := hide (HA.out.drewN q)
    have HB1 := hide (HB.out.drewN q)
    obtain ⟨wa, hwa⟩ : ∃ wa, wa = w.drewN q := ⟨_, rfl⟩
    rw [← hwa] at HA1 HB1 ⊢
    have HWA := hide hwa
    clear hwa
    by_cases hlt : I < zs.length
    · have d0 : decide (I < zs.length) = true := by simpa using hlt
      obtain ⟨a, rfl, ha, hcell⟩ := HA1.out.at_ (by omega)
      obtain ⟨b, rfl, hb, hcellb⟩ := HB1.out.at_ (by omega)
      have cx := hcell I hlt
      have cy := hcellb I hlt
      obtain ⟨z, hz⟩ : ∃ z, z = ith zs I := ⟨_, rfl⟩
      rw [← hz] at cx cy
      have d1 : (z != z) = false := by simp
      clear hcell hcellb hz ha hb
      go_upto_region 6 with fail
      go_quiet (fail)
      go_wp2
      exact ⟨⟨I + 1, by go_num, by omega, q + nq, by rw [HWA.out, drewN_drewN]⟩, by simp [intOf]; omega⟩
    · obtain rfl : I = zs.length := by omega
      have d0 : decide (zs.length < zs.length) = false := by simp
      go_wp2
      go_ret
      exact ⟨rfl, q, HWA.out⟩

/-- How many cells lie in each zone, of the first k. -/
def liveAt (zone : Nat → Int) (tag : Nat → ByteArray) (k n : Nat) : List Nat := (List.range n).map fun z : Nat => (inAt zone tag (z : Int) k).length
theorem liveAt_length (zone : Nat → Int) (tag : Nat → ByteArray) (k n : Nat) : (liveAt zone tag k n).length = n := by simp [liveAt]
theorem liveAt_succ (zone : Nat → Int) (tag : Nat → ByteArray) (k n : Nat) : liveAt zone tag k (n + 1) = liveAt zone tag k n ++ [(inAt zone tag (n : Int) k).length] := by
  simp [liveAt, List.range_succ]
theorem liveAt_le (zone : Nat → Int) (tag : Nat → ByteArray) (k n : Nat) : ∀ x ∈ liveAt zone tag k n, x ≤ k := by
  intro x hx
  obtain ⟨z, _, rfl⟩ := List.mem_map.1 hx
  exact inAt_length _ _ _ _

set_option maxRecDepth 100000 in
set_option maxHeartbeats 2000000 in
theorem refLive_any (cs : Array Value) (zone off : Nat → Int) (tag : Nat → ByteArray) (hT : Tab cs zone off tag) (w : World) :
    Calls Try.prog 33 #[.agg cs] w fun e w' => ∃ v, e = .returned v ∧ w'.ownsRow w.heap.size 3 1 v 8 (intsV (liveAt zone tag 24 8)) ∧ Below w.heap.size w w' := by
  obtain ⟨i0, hi0, hz0, hz1, hz2⟩ := info_parts info_i64'
  have HT := hide hT
  have HB0 : Hid (Below (w.heap.size + 1) (w.alloc (.cells cs 57)) (w.alloc (.cells cs 57))) := hide (Below.refl _ _)
  have hi73 : (Try.prog.info? 57).map (·.size) = some cs.size := by rw [hT.size]; kernel_rfl
  have HI73 := hide hi73
  have HBX : Hid ((w.alloc (.cells cs 57)).heap[w.heap.size]? = some (.cells cs 57 (0, 0))) := hide (heap_alloc_new w _)
  have HBW : Hid (Below w.heap.size w (w.alloc (.cells cs 57))) := hide ((Below.refl _ _).alloc (Nat.le_refl _) _)
  clear hT hi73
  go_enter Try.func33, Try.ntmps33
  go_wp2
  obtain ⟨B, hB⟩ : ∃ B, B = w.heap.size := ⟨_, rfl⟩
  obtain ⟨W1, hW1⟩ : ∃ W1, W1 = w.alloc (.cells cs 57) := ⟨_, rfl⟩
  have HS1 : Hid (B + 1 ≤ W1.heap.size) := hide (by rw [hW1, hB]; simp)
  rw [← hB, ← hW1] at HB0 HBX
  rw [← hW1] at HBW
  rw [← hB, ← hW1]
  have HBD := hide hB
  clear hB hW1
  go_loopw [3, 5] (fun v i wr => ∃ I : Nat, i = .int .i64 (I : Int) ∧ I ≤ 8 ∧ wr.ownsRow (B + 1) 3 1 v I (intsV (liveAt zone tag 24 I)) ∧ Below (B + 1) W1 wr) (fun _ i _ => 8 - (intOf i).toNat)
  case atStart => exact ⟨0, rfl, by omega, World.ownsRow_nil _ _ _ _, HB0.out⟩
  case round =>
    clear HB0
    obtain ⟨wa, rfl⟩ : ∃ wa : World, wa = wr := ⟨_, rfl⟩
    obtain ⟨I, rfl, hI, hown, hbel⟩ := hrel
    have HBE := hide hbel
    have HOW := hide hown
    clear hbel
    have HSZ : Hid (B + 1 ≤ wa.heap.size) := hide (Nat.le_trans HS1.out HBE.out.size)
    by_cases hlt : I < 8
    · have d0 : decide ((I : Int) < 8) = true := by simp; omega
      have HBL : Hid (wa.heap[B]? = some (.cells cs 57 (0, 0))) := hide ((HBE.out.block B (by omega)).trans HBX.out)
      have hln := inAt_length zone tag (I : Int) 24
      obtain ⟨k, hk⟩ : ∃ k, k = (inAt zone tag (I : Int) 24).length := ⟨_, rfl⟩
      have hk24 : k ≤ 24 := by rw [hk]; exact hln
      have HLS : Hid (liveAt zone tag 24 (I + 1) = liveAt zone tag 24 I ++ [k]) := hide (by rw [liveAt_succ, hk])
      have HK := hide hk
      clear hln hk hown
      have e1 : Hid (intsV [k] = [Value.int .i64 (k : Int)]) := hide rfl
      go_wp2_with (first
        | (refine wpList_load_row rfl 57 (.tmp 1) rfl B rfl 57 cs (0, 0) _ HBL.out Try.underlying57 rfl HI73.out ?_)
        | (go_at_call 35; go_loud (refine (refIn_any cs zone off tag (I : Int) HT.out _).mono ?_; rintro e w1 ⟨v1, rfl, hw1, hb1⟩; rw [← HK.out] at hw1; obtain ⟨a1, c1, rfl⟩ := own_shape hw1; have HB1 := hide hb1; have HO1 := hide (own_below HOW.out hb1); clear hw1 hb1))
        | (at_builtin; go_loud (refine wpList_append_lies _ rfl (.tmp 8) (.tmp 13) 32 rfl (B + 1) 3 i0 (.int .i64 0) 1 8 Try.underlying32 hi0 hz0 hz1 hz2 rfl (by decide) _ _ _ rfl (HO1.out.alloc _) ⟨w1.heap.size, 0, none⟩ 1 1 [Value.int .i64 (k : Int)] rfl rfl (news_new w1 _ _) (by rw [← e1.out]; exact intsV_oneCell _) (by decide) (by unfold maxLen; omega) (by omega) (by have := HB1.out.size; have := HSZ.out; simp; omega) (w1.heap.size + 1) (by simp) ?_; intro gv cv w4 hr4 hg4 _ _; rw [← e1.out, ← intsV_append] at hr4)))
      have hb4 : Below (B + 1) W1 w4 := (((HBE.out.trans (HB1.out.mono HSZ.out))).alloc (Nat.le_trans HSZ.out HB1.out.size) _).grown hg4 (by have := HB1.out.size; have := HSZ.out; simp; omega) (fun q hq => (HO1.out.lt q hq).1)
      have HR4 := hide hr4
      clear hr4 hg4
      refine ⟨⟨I + 1, by go_num, by omega, ?_, hb4⟩, by simp [intOf]; omega⟩
      rw [HLS.out]
      exact HR4.out
    · obtain rfl : I = 8 := by omega
      rw [show ((8 : Nat) : Int) = 8 from rfl]
      go_wp2
      go_ret
      refine ⟨_, rfl, own_low' HOW.out (by rw [HBD.out]; omega), HBW.out.trans (HBE.out.mono (by rw [HBD.out]; omega))⟩
theorem liveAt_get (zone : Nat → Int) (tag : Nat → ByteArray) (k n z : Nat) (hz : z < n) : (liveAt zone tag k n)[z]? = some (inAt zone tag (z : Int) k).length := by
  simp [liveAt, hz]
theorem liveAt_next (zone : Nat → Int) (tag : Nat → ByteArray) (k n z : Nat) (hz : z < n) (ht : (tag k).toList.isEmpty = false) (he : zone k = (z : Int)) :
    liveAt zone tag (k + 1) n = (liveAt zone tag k n).set z ((inAt zone tag (z : Int) k).length + 1) := by
  apply List.ext_getElem?
  intro j
  by_cases hj : j < n
  · rw [liveAt_get _ _ _ _ _ hj, List.getElem?_set]
    by_cases hzj : z = j
    · subst hzj
      simp only [if_true, liveAt_length, hz]
      rw [inAt, if_pos ⟨ht, he⟩]
      simp
    · rw [if_neg hzj, liveAt_get _ _ _ _ _ hj, inAt, if_neg (fun h => hzj (by have := h.2; omega))]
  · rw [List.getElem?_eq_none (by rw [liveAt_length]; omega), List.getElem?_eq_none (by simp [liveAt_length]; omega)]
theorem liveAt_same (zone : Nat → Int) (tag : Nat → ByteArray) (k n : Nat) (h : ∀ z : Nat, z < n → ¬ ((tag k).toList.isEmpty = false ∧ zone k = (z : Int))) : liveAt zone tag (k + 1) n = liveAt zone tag k n := by
  unfold liveAt
  apply List.map_congr_left
  intro z hz
  rw [inAt, if_neg (h z (List.mem_range.1 hz))]
theorem liveAt_zero (zone : Nat → Int) (tag : Nat → ByteArray) (n : Nat) : liveAt zone tag 0 n = List.replicate n 0 := by
  unfold liveAt
  apply List.ext_getElem (by simp)
  intro i h1 h2
  simp [inAt]
theorem made_i64 (n : Nat) : (madeCells (Value.int .i64 0).cells n).toList = intsV (List.replicate n 0) := by
  apply List.ext_getElem
  · simp [intsV, size_madeCells]
  · intro i h1 h2
    simp [madeCells, intsV, iv, Value.cells, Nat.mod_one]
theorem intsV_set (l : List Nat) (i x : Nat) : (intsV l).set i (.int .i64 (x : Int)) = intsV (l.set i x) := by simp [intsV, iv, List.map_set]

set_option maxRecDepth 100000 in
set_option maxHeartbeats 4000000 in
theorem live_any (cs : Array Value) (zone off : Nat → Int) (tag : Nat → ByteArray) (hT : Tab cs zone off tag) (w : World) :
    Calls Try.prog 32 #[.agg cs] w fun e w' => ∃ v, e = .returned v ∧ w'.ownsRow w.heap.size 3 1 v 8 (intsV (liveAt zone tag 24 8)) ∧ Below w.heap.size w w' := by
  obtain ⟨i0, hi0, hz0, hz1, hz2⟩ := info_parts info_i64'
  have HT := hide hT
  obtain ⟨AR, hAR⟩ : ∃ AR : List Value, AR = (cs.toList.drop 1).take 72 := ⟨_, rfl⟩
  have hl72 : AR.length = 72 := by
    have := hT.size
    rw [hAR]
    simp
    omega
  have hs72 : (Try.prog.info? 55).map (·.size) = some 72 := by kernel_rfl
  have HSZ : Hid ((Try.prog.info? 55).map (·.size) = some AR.length) := hide (by rw [hl72]; exact hs72)
  have HAR : Hid (cellsOfT cs = AR.toArray) := hide (by rw [hAR]; rfl)
  have HARD := hide hAR
  have HB0 : Hid (Below w.heap.size w (w.alloc (.cells cs 57))) := hide ((Below.refl _ _).alloc (Nat.le_refl _) _)
  have HBX : Hid ((w.alloc (.cells cs 57)).heap[w.heap.size]? = some (.cells cs 57 (0, 0))) := hide (heap_alloc_new w _)
  clear hT hAR hs72 hl72
  go_enter Try.func32, Try.ntmps32
  go_upto_region 2 with (refine wpList_make_full _ rfl (.const (.int .i64 8)) (.const (.int .i64 8)) 32 rfl w.heap.size 3 i0 (.int .i64 0) 1 Try.underlying32 hi0 hz0 hz1 .i64 .i64 8 8 8 rfl rfl rfl rfl (by rw [hz2]; omega) (by decide) (by simp) ?_; intro w2 hr2 hg2; rw [Nat.mul_one, made_i64] at hr2)
  have hG : (w.alloc (.cells cs 57)).heap.size = w.heap.size + 1 := by simp
  rw [hG] at hr2
  have HR2 := hide hr2
  have HB2 : Hid (Below w.heap.size w w2) := hide (HB0.out.grown hg2 (by rw [hG]; omega) (fun k hk => by cases hk))
  have HRG : Hid (w2.rangeAt w.heap.size 1 AR) := hide (by
    intro j v hv
    have h1 : w2.heap[w.heap.size]? = some (.cells cs 57 (0, 0)) := (hg2.block _ (by rw [hG]; omega) (by simp)).trans HBX.out
    rw [cell_of_row w2 w.heap.size (1 + j) cs 57 (0, 0) h1]
    rw [HARD.out] at hv
    have hj : j < 72 := by
      have := (List.getElem?_eq_some_iff.1 hv).1
      simp at this
      omega
    rw [← hv]
    simp [List.getElem?_take, hj, Nat.add_comm])
  obtain ⟨G, hGd⟩ : ∃ G, G = w.heap.size + 1 := ⟨_, rfl⟩
  rw [← hGd] at HR2
  rw [← hGd]
  clear hr2 hg2 hG HB0 HBX hGd
  go_upto_region 3 with (refine wpList_load_mid rfl 55 (.tmp 7) rfl w.heap.size 1 rfl AR _ HRG.out Try.underlying55 rfl HSZ.out ?_)
  go_loopw [9] (fun i wr => ∃ I : Nat, i = .int .i64 (I : Int) ∧ I ≤ 24 ∧ wr.ownsRow w.heap.size 3 1 (.slice (some ⟨G, 0, none⟩) 8 8) 8 (intsV (liveAt zone tag I 8)) ∧ Below w.heap.size w wr) (fun i _ => 24 - (intOf i).toNat)
  case atStart => exact ⟨0, rfl, by omega, by rw [liveAt_zero]; exact HR2.out, HB2.out⟩
  case round =>
    clear HB2 HR2 HRG HSZ
    obtain ⟨wa, rfl⟩ : ∃ wa : World, wa = wr := ⟨_, rfl⟩
    obtain ⟨I, rfl, hI, hown, hbel⟩ := hrel
    have HBE := hide hbel
    clear hbel
    by_cases hlt : I < 24
    · have d0 : decide ((I : Int) < 24) = true := by simp; omega
      have d0' : (I : Int) < 24 := by omega
      have hix := run_index_cell HT.out I hlt
      unfold cellV at hix
      rw [HAR.out] at hix
      cases ht : (tag I).toList.isEmpty with
      | true =>
        have ht2 : (tag I).toList = [] := by simpa using ht
        have HLS : Hid (liveAt zone tag (I + 1) 8 = liveAt zone tag I 8) := hide (liveAt_same _ _ _ _ (fun z _ h => by rw [ht] at h; cases h.1))
        have HB1 : Hid (Below w.heap.size w (wa.alloc (.cells #[.int .i64 (zone I), .int .i64 (off I), .string (tag I)] 54))) := hide (HBE.out.alloc HBE.out.size _)
        have HO1 := hide (hown.alloc (.cells #[.int .i64 (zone I), .int .i64 (off I), .string (tag I)] 54))
        clear hown
        go_wp2_with fail
        exact ⟨⟨I + 1, by go_num, by omega, by rw [HLS.out]; exact HO1.out, HB1.out⟩, by simp [intOf]; omega⟩
      | false =>
        have ht2 : ¬ (tag I).toList = [] := by intro h; rw [h] at ht; cases ht
        by_cases hz0' : 0 ≤ zone I
        · have d1 : decide ((0 : Int) ≤ zone I) = true := by simpa using hz0'
          by_cases hz8 : zone I < 8
          · obtain ⟨z, hz⟩ := Int.eq_ofNat_of_zero_le hz0'
            have hz8' : z < 8 := by omega
            have HLS : Hid (liveAt zone tag (I + 1) 8 = (liveAt zone tag I 8).set z ((inAt zone tag (z : Int) I).length + 1)) := hide (liveAt_next _ _ _ _ _ hz8' ht hz)
            have hln := inAt_length zone tag (z : Int) I
            obtain ⟨c, hc⟩ : ∃ c, c = (inAt zone tag (z : Int) I).length := ⟨_, rfl⟩
            rw [← hc] at HLS hln
            have hcell : wa.cell? ⟨G, z, none⟩ = some (.int .i64 (c : Int)) := by
              rw [hown.cellAt z (by omega)]
              simp [intsV, iv, liveAt_get zone tag I 8 z hz8', hc]
            rw [hz] at hix
            have HB1 : Hid (Below w.heap.size w (wa.alloc (.cells #[.int .i64 (z : Int), .int .i64 (off I), .string (tag I)] 54))) := hide (HBE.out.alloc HBE.out.size _)
            have HO1 := hide (hown.alloc (.cells #[.int .i64 (z : Int), .int .i64 (off I), .string (tag I)] 54))
            have d2 : decide ((z : Int) < 8) = true := by simp; omega
            have d3 : decide ((0 : Int) ≤ (z : Int)) = true := by simp
            have d4 : (z : Int) < 8 := by omega
            have HG1 : Hid (w.heap.size ≤ G) := hide (hown.lt G rfl).1
            clear hz hz8 hz0' d1 hown hc
            go_upto_region 6 with fail
            have cG : (wa.alloc (.cells #[.int .i64 (z : Int), .int .i64 (off I), .string (tag I)] 54)).cell? ⟨G, z, none⟩ = some (.int .i64 (c : Int)) := (World.cell?_of_block (w := wa) (a := ⟨G, z, none⟩) (Below.heap_alloc wa _ G (block_lt_of_cell hcell))).trans hcell
            have cF := HO1.out.frozenAt z
            have cN := box_cell wa #[.int .i64 (z : Int), .int .i64 (off I), .string (tag I)] 54 0
            obtain ⟨N, hN⟩ : ∃ N, N = wa.heap.size := ⟨_, rfl⟩
            obtain ⟨wb, hwb⟩ : ∃ wb, wb = wa.alloc (.cells #[.int .i64 (z : Int), .int .i64 (off I), .string (tag I)] 54) := ⟨_, rfl⟩
            rw [← hwb] at HB1 HO1 cG cF cN
            rw [← hN] at cN
            rw [← hwb]
            rw [← hN]
            clear hwb hN hcell hix
            have cN' : wb.cell? ⟨N, 0, none⟩ = some (.int .i64 (z : Int)) := cN
            clear cN
            have hc24 : c ≤ 24 := by omega
            go_wp2_with fail
            have hst := HO1.out.stored z (.int .i64 ((c + 1 : Nat) : Int))
            refine ⟨⟨I + 1, by go_num, by omega, ?_, ?_⟩, by simp [intOf]; omega⟩
            · rw [HLS.out, ← intsV_set]
              exact hst.1
            · exact HB1.out.setCell (by show w.heap.size ≤ G; exact HG1.out) _
          · have d2 : decide (zone I < 8) = false := by simpa using hz8
            have HLS : Hid (liveAt zone tag (I + 1) 8 = liveAt zone tag I 8) := hide (liveAt_same _ _ _ _ (fun z hz h => by have := h.2; omega))
            have HB1 : Hid (Below w.heap.size w (wa.alloc (.cells #[.int .i64 (zone I), .int .i64 (off I), .string (tag I)] 54))) := hide (HBE.out.alloc HBE.out.size _)
            have HO1 := hide (hown.alloc (.cells #[.int .i64 (zone I), .int .i64 (off I), .string (tag I)] 54))
            clear hown hz8 hz0'
            go_wp2_with fail
            exact ⟨⟨I + 1, by go_num, by omega, by rw [HLS.out]; exact HO1.out, HB1.out⟩, by simp [intOf]; omega⟩
        · have d1 : decide ((0 : Int) ≤ zone I) = false := by simpa using hz0'
          have HLS : Hid (liveAt zone tag (I + 1) 8 = liveAt zone tag I 8) := hide (liveAt_same _ _ _ _ (fun z hz h => by have := h.2; omega))
          have HB1 : Hid (Below w.heap.size w (wa.alloc (.cells #[.int .i64 (zone I), .int .i64 (off I), .string (tag I)] 54))) := hide (HBE.out.alloc HBE.out.size _)
          have HO1 := hide (hown.alloc (.cells #[.int .i64 (zone I), .int .i64 (off I), .string (tag I)] 54))
          clear hown hz0'
          go_wp2_with fail
          exact ⟨⟨I + 1, by go_num, by omega, by rw [HLS.out]; exact HO1.out, HB1.out⟩, by simp [intOf]; omega⟩
    · obtain rfl : I = 24 := by omega
      rw [show ((24 : Nat) : Int) = 24 from rfl]
      have HOW := hide hown
      clear hown
      go_wp2
      go_ret
      exact ⟨_, rfl, HOW.out, HBE.out⟩
end Go.Proofs.Ytmligbaalbbgiaa

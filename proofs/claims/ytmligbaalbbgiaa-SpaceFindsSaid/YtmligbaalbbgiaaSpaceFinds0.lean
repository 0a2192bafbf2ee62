/- The walk of salternlaw.SpaceFinds: it returns true. No condition. -/
import Derived.Test.YtmligbaalbbgiaaProg
import Derived.Test.YtmligbaalbbgiaaBase
import Derived.Test.YtmligbaalbbgiaaSpaceS
import Derived.Test.YtmligbaalbbgiaaSpace1
import Derived.Test.YtmligbaalbbgiaaSpace2
import Derived.Test.YtmligbaalbbgiaaSpace3
import Derived.Test.YtmligbaalbbgiaaSpace4
import Derived.Test.YtmligbaalbbgiaaSpace5
import Derived.Test.YtmligbaalbbgiaaTable
import Derived.Deep.MidRow
namespace Go.Proofs.Ytmligbaalbbgiaa
open Go.RowKit

theorem wpList_load_row_g {P : Program} {ops : Array Oper} {rest : List Oper} {o : Oper} {a : Act} {w : World} {Q : Exit → Act → World → Prop} (hw : Region.wanted o (yielded ops a.tmps) = true) (ty : TypeId) (x : Operand) (ho : o.op = .load ty x)
    (g : Nat) (hx : a.eval x = .pointer (some ⟨g, 0, none⟩)) (t : TypeId) (cs : Array Value) (fr : Nat × Nat) (d : TypeDesc) (hg : w.heap[g]? = some (.cells cs t fr))
    (hu : P.underlying ty = some d) (hd : (match d with | .struct _ | .array _ _ => true | _ => false) = true) (hi : (P.info? ty).map (·.size) = some cs.size)
    (h : wpList P ops Q rest (a.put o.dst (.agg cs)) w) : wpList P ops Q (o :: rest) a w :=
  wpList_step fun K hK => by rw [if_pos hw]; exact wp_load_row ty x ho g hx t cs fr d hg hu hd hi (hK _ _ h)
theorem openV_is (o : Option Nat) : openV o = .tuple #[.int .i64 (zI o), .bool (okB o)] := by cases o <;> rfl
theorem vicV_is (o : Option Nat) : vicV o = .tuple #[.int .i64 (zI o), .bool (okB o)] := by cases o <;> rfl
theorem range_below {w w' : World} {B : Nat} {cl : List Value} (h : w.rangeAt B 0 cl) (hB : B < w.heap.size) (hb : Below w.heap.size w w') : w'.rangeAt B 0 cl := by
  intro j v hv
  exact (hb.cell (p := ⟨B, 0 + j, none⟩) hB).trans (h j v hv)
theorem sameInts_n (n m : Nat) (A B : Option Addr) (ca cb : Nat) (zs : List Int) (hn : n = zs.length) (hm : m = zs.length) (hl : zs.length ≤ 1000) (w : World) (hA : Ints w A zs) (hB : Ints w B zs) :
    Calls Try.prog 31 #[.slice A n ca, .slice B m cb] w fun e w' => e = .returned (.bool true) ∧ ∃ k, w' = w.drewN k := by
  subst hn
  subst hm
  exact sameInts_yes A B ca cb zs hl w hA hB

set_option maxRecDepth 100000 in
set_option maxHeartbeats 2000000 in
theorem finds_wide (A B : Option Addr) (n m ca cb : Nat) (but inn : Int) (cs : Array Value) (h : 20 < n ∨ 20 < m) (w : World) :
    Calls Try.prog 6 #[.slice A n ca, .slice B m cb, .int .i64 but, .agg cs, .int .i64 inn] w fun e w' => e = .returned (.bool true) ∧ Below w.heap.size w w' := by
  have HB0 : Hid (Below w.heap.size w (w.alloc (.cells cs 57))) := hide ((Below.refl _ _).alloc (Nat.le_refl _) _)
  by_cases h1 : 20 < n
  · have c1 : decide (20 < n) = true := by simpa using h1
    have c1' : decide ((20 : Int) < (n : Int)) = true := by simp; omega
    clear h
    go_enter Try.func6, Try.ntmps6
    go_wp2_with fail
    go_ret
    exact ⟨rfl, HB0.out⟩
  · have c1 : decide (20 < n) = false := by simpa using h1
    have c2 : decide (20 < m) = true := by simp; omega
    have c1' : decide ((20 : Int) < (n : Int)) = false := by simp; omega
    have c2' : decide ((20 : Int) < (m : Int)) = true := by simp; omega
    clear h
    go_enter Try.func6, Try.ntmps6
    go_wp2_with fail
    go_ret
    exact ⟨rfl, HB0.out⟩

set_option maxRecDepth 100000 in
set_option maxHeartbeats 8000000 in
theorem finds_good (A B : Option Addr) (ca cb : Nat) (zs ls : List Int) (but inn : Int) (cs : Array Value) (zone off : Nat → Int) (tag : Nat → ByteArray) (h1 : zs.length ≤ 20) (h2 : ls.length ≤ 20) (hT : Tab cs zone off tag) (w : World)
    (hA : Ints w A zs) (hB : Ints w B ls) :
    Calls Try.prog 6 #[.slice A zs.length ca, .slice B ls.length cb, .int .i64 but, .agg cs, .int .i64 inn] w fun e w' => e = .returned (.bool true) ∧ Below w.heap.size w w' := by
  have HT := hide hT
  have HBW : Hid (Below w.heap.size w (w.alloc (.cells cs 57))) := hide ((Below.refl _ _).alloc (Nat.le_refl _) _)
  have HA1 : Hid (Ints (w.alloc (.cells cs 57)) A zs) := hide (hA.below ((Below.refl _ _).alloc (Nat.le_refl _) _))
  have HB1 : Hid (Ints (w.alloc (.cells cs 57)) B ls) := hide (hB.below ((Below.refl _ _).alloc (Nat.le_refl _) _))
  have HBX : Hid ((w.alloc (.cells cs 57)).heap[w.heap.size]? = some (.cells cs 57 (0, 0))) := hide (heap_alloc_new w _)
  have HI73 : Hid ((Try.prog.info? 57).map (·.size) = some cs.size) := hide (by rw [hT.size]; kernel_rfl)
  have H1 : Hid (zs.length ≤ 20) := hide h1
  have H2 : Hid (ls.length ≤ 20) := hide h2
  have c1 : decide (20 < zs.length) = false := by simp; omega
  have c2 : decide (20 < ls.length) = false := by simp; omega
  have c1' : decide ((20 : Int) < (zs.length : Int)) = false := by simp; omega
  have c2' : decide ((20 : Int) < (ls.length : Int)) = false := by simp; omega
  clear hT hA hB
  go_enter Try.func6, Try.ntmps6
  go_upto_region 1 with fail
  obtain ⟨Bk, hBk⟩ : ∃ Bk, Bk = w.heap.size := ⟨_, rfl⟩
  obtain ⟨W1, hW1⟩ : ∃ W1, W1 = w.alloc (.cells cs 57) := ⟨_, rfl⟩
  have HS1 : Hid (Bk < W1.heap.size) := hide (by rw [hW1, hBk]; simp)
  rw [← hBk, ← hW1] at HBX
  rw [← hW1] at HBW HA1 HB1
  rw [← hBk, ← hW1]
  clear hBk hW1
  cases hlo : longAt tag 24 with
  | true =>
    have HLO := hide hlo
    clear hlo
    go_wp2_with (first
      | (refine wpList_load_row_g rfl 57 (.tmp 8) rfl Bk rfl 57 cs (0, 0) _ HBX.out Try.underlying57 rfl HI73.out ?_)
      | (go_at_call 24; go_loud (refine (longTable_any cs zone off tag HT.out _).mono ?_; rintro e w2 ⟨rfl, hb2⟩; rw [HLO.out]; have HB2 := hide (below_step HBW.out hb2); clear hb2)))
    go_ret
    exact ⟨rfl, HB2.out⟩
  | false =>
    have HLO := hide hlo
    clear hlo
    go_upto_region 9 with (first
      | (refine wpList_load_row_g rfl 57 (.tmp 8) rfl Bk rfl 57 cs (0, 0) _ HBX.out Try.underlying57 rfl HI73.out ?_)
      | (go_at_call 24; go_loud (refine (longTable_any cs zone off tag HT.out _).mono ?_; rintro e w2 ⟨rfl, hb2⟩; rw [HLO.out]; have HB2 := hide (below_step HBW.out hb2); have HA3 := hide (HA1.out.below hb2); have HB3 := hide (HB1.out.below hb2); have HS3 := hide (Nat.lt_of_lt_of_le HS1.out hb2.size); have HBX3 := hide ((hb2.block Bk HS1.out).trans HBX.out); clear hb2))
      | (go_at_call 25; go_loud (refine (room_any A ca zs but H1.out _ HA3.out).mono ?_; rintro e w3 ⟨rfl, rfl⟩; rw [openV_is]))
      | (go_at_call 26; go_loud (refine (open_any A ca zs but H1.out _ HA3.out).mono ?_; rintro e w3 ⟨rfl, rfl⟩; rw [openV_is]))
      | (go_at_call 27; go_loud (refine (free_any A ca zs H1.out _ HA3.out).mono ?_; rintro e w3 ⟨rfl, rfl⟩))
      | (go_at_call 28; go_loud (refine (refFree_any A ca zs H1.out _ HA3.out).mono ?_; rintro e w3 ⟨rfl, rfl⟩))
      | (go_at_call 29; go_loud (refine (refVictim_any A B ca cb zs ls H1.out H2.out _ HA3.out HB3.out).mono ?_; rintro e w3 ⟨rfl, q3, rfl⟩; rw [vicV_is]))
      | (go_at_call 30; go_loud (refine (victim_any A B ca cb zs ls H1.out H2.out _ (HA3.out.drewN _) (HB3.out.drewN _)).mono ?_; rintro e w3 ⟨rfl, q4, rfl⟩; rw [vicV_is])))
    obtain ⟨cl, hcl⟩ : ∃ cl, cl = cs.toList := ⟨_, rfl⟩
    have hcs : cl.toArray = cs := by rw [hcl]
    have HTL : Hid (Tab cl.toArray zone off tag) := hide (by rw [hcs]; exact HT.out)
    have HRG : Hid (w3.rangeAt Bk 0 cl) := hide (by
      intro j v hv
      rw [cell_of_row w3 Bk (0 + j) cs 57 (0, 0) HBX3.out, Nat.zero_add]
      rw [hcl] at hv
      simpa using hv)
    have hi : (Try.prog.info? 57).map (·.size) = some cl.length := by rw [HI73.out, hcl]; simp
    have hu := Try.underlying57
    have hl73 : cl.length = 73 := by rw [hcl]; have := HT.out.size; simpa using this
    obtain ⟨wv, hwv⟩ : ∃ wv, wv = w3.drewN (q3 + q4) := ⟨_, rfl⟩
    have HRx : Hid (wv.rangeAt Bk 0 cl) := hide (by rw [hwv]; exact HRG.out)
    have HSx : Hid (Bk < wv.heap.size) := hide (by rw [hwv]; exact HS3.out)
    have HBx : Hid (Below w.heap.size w wv) := hide (by rw [hwv]; exact ⟨HB2.out.os, HB2.out.tape, HB2.out.output, HB2.out.size, HB2.out.block⟩)
    rw [← hwv]
    clear hwv HRG HS3 HB2 HBX3 HBX HA3 HB3 HA1 HB1 HS1 HBW hcs hcl
    refine wp_region_noPanic ?_
    refine wp_region_held_drew (S := fun w' => w'.rangeAt Bk 0 cl) (by kernel_rfl) HRx.out (fun hHeld => ?_)
    refine wpAnyH_take (i := 0) (oi := _) (v := ?_) rfl (by kernel_rfl) (by kernel_rfl) (by kernel_rfl) (fun _ _ _ h => h) (Or.inl ⟨by rfl, ?_⟩) (by assumption) ?_
    rotate_left
    · intro w' hSw
      go_simp
      try with_reducible rfl
    try simp only [Act.put, List.setIfInBounds_toArray, List.set_cons_zero, List.set_cons_succ]
    refine wpAnyH_take (i := 1) (oi := _) (v := ?_) rfl (by kernel_rfl) (by kernel_rfl) (by kernel_rfl) (fun _ _ _ h => h) (Or.inl ⟨by rfl, ?_⟩) (by assumption) ?_
    rotate_left
    · intro w' hSw
      go_simp
      try with_reducible rfl
    try simp only [Act.put, List.setIfInBounds_toArray, List.set_cons_zero, List.set_cons_succ]
    refine wpAnyH_take (i := 2) (oi := _) (v := ?_) rfl (by kernel_rfl) (by kernel_rfl) (by kernel_rfl) (fun _ _ _ h => h) (Or.inl ⟨by rfl, ?_⟩) (by assumption) ?_
    rotate_left
    · intro w' hSw
      go_simp
      try with_reducible rfl
    try simp only [Act.put, List.setIfInBounds_toArray, List.set_cons_zero, List.set_cons_succ]
    refine wpAnyH_take (i := 3) (oi := _) (v := ?_) rfl (by kernel_rfl) (by kernel_rfl) (by kernel_rfl) (fun _ _ _ h => h) (Or.inl ⟨by rfl, ?_⟩) (by assumption) ?_
    rotate_left
    · intro w' hSw
      go_simp
      try with_reducible rfl
    try simp only [Act.put, List.setIfInBounds_toArray, List.set_cons_zero, List.set_cons_succ]
    refine wpAnyH_take (i := 4) (oi := _) (v := ?_) rfl (by kernel_rfl) (by kernel_rfl) (by kernel_rfl) (fun _ _ _ h => h) (Or.inl ⟨by rfl, ?_⟩) (by assumption) ?_
    rotate_left
    · intro w' hSw
      go_simp
      try with_reducible rfl
    try simp only [Act.put, List.setIfInBounds_toArray, List.set_cons_zero, List.set_cons_succ]
    refine wpAnyH_take (i := 5) (oi := _) (v := ?_) rfl (by kernel_rfl) (by kernel_rfl) (by kernel_rfl) (fun _ _ _ h => h) (Or.inl ⟨by rfl, ?_⟩) (by assumption) ?_
    rotate_left
    · intro w' hSw
      go_simp
      try with_reducible rfl
    try simp only [Act.put, List.setIfInBounds_toArray, List.set_cons_zero, List.set_cons_succ]
    refine wpAnyH_take (i := 6) (oi := _) (v := ?_) rfl (by kernel_rfl) (by kernel_rfl) (by kernel_rfl) (fun _ _ _ h => h) (Or.inl ⟨by rfl, ?_⟩) (by assumption) ?_
    rotate_left
    · intro w' hSw
      go_simp
      try with_reducible rfl
    try simp only [Act.put, List.setIfInBounds_toArray, List.set_cons_zero, List.set_cons_succ]
    refine wpAnyH_take (i := 7) (oi := _) (v := ?_) rfl (by kernel_rfl) (by kernel_rfl) (by kernel_rfl) (fun _ _ _ h => h) (Or.inl ⟨by rfl, ?_⟩) (by assumption) ?_
    rotate_left
    · intro w' hSw
      go_simp
      try with_reducible rfl
    try simp only [Act.put, List.setIfInBounds_toArray, List.set_cons_zero, List.set_cons_succ]
    refine wpAnyH_take (i := 8) (oi := _) (v := ?_) rfl (by kernel_rfl) (by kernel_rfl) (by kernel_rfl) (fun _ _ _ h => h) (Or.inl ⟨by rfl, ?_⟩) (by assumption) ?_
    rotate_left
    · intro w' hSw
      go_simp
      try with_reducible rfl
    try simp only [Act.put, List.setIfInBounds_toArray, List.set_cons_zero, List.set_cons_succ]
    refine wpAnyH_take (i := 9) (oi := _) (v := .agg cl.toArray) rfl (by kernel_rfl) (by kernel_rfl) (by kernel_rfl) (fun _ _ _ h => h) ?_ (by assumption) ?_
    · simp only [List.getElem_toArray, List.getElem_cons_succ, List.getElem_cons_zero]
      refine yieldsIf_load_mid ?_ 57 (.tmp 8) rfl Bk 0 ?_ cl _ ?_ hu ?_ hi
      · kernel_rfl
      · kernel_rfl
      · exact fun w' h => h
      · rfl
    try simp only [Act.put, List.setIfInBounds_toArray, List.set_cons_zero, List.set_cons_succ]
    refine wpAnyH_take (i := 11) (oi := _) (v := .agg cl.toArray) rfl (by kernel_rfl) (by kernel_rfl) (by kernel_rfl) (fun _ _ _ h => h) ?_ (by assumption) ?_
    · simp only [List.getElem_toArray, List.getElem_cons_succ, List.getElem_cons_zero]
      refine yieldsIf_load_mid ?_ 57 (.tmp 8) rfl Bk 0 ?_ cl _ ?_ hu ?_ hi
      · kernel_rfl
      · kernel_rfl
      · exact fun w' h => h
      · rfl
    try simp only [Act.put, List.setIfInBounds_toArray, List.set_cons_zero, List.set_cons_succ]
    refine wpAnyH_ready (rs := [10]) (by kernel_rfl) (by simp) ?_
    refine AllReadyH.cons (o := _) rfl (fun K hK => ?_) AllReadyH.nil
    go_simp
    (go_at_call 32; refine (live_any cl.toArray zone off tag HTL.out _).mono ?_; rintro e w4 ⟨v4, rfl, hw4, hb4⟩; obtain ⟨a4, c4, rfl⟩ := own_shape hw4; have HI4 := hide (ints_of_own hw4 (fun x hx => Nat.le_trans (liveAt_le _ _ _ _ x hx) (by omega))); have HRx := hide (range_below HRx.out HSx.out ⟨hb4.os, hb4.tape, hb4.output, hb4.size, hb4.block⟩); have HSx := hide (Nat.lt_of_lt_of_le HSx.out hb4.size); have HBx := hide (below_step HBx.out ⟨hb4.os, hb4.tape, hb4.output, hb4.size, hb4.block⟩); clear hb4 hw4)
    go_wp2_with fail
    refine hK.out _ _ HRx.out (fun hHeld => ?_)
    clear hK K
    try simp only [Act.put, List.setIfInBounds_toArray, List.set_cons_zero, List.set_cons_succ]
    refine wpAnyH_ready (rs := [12]) (by kernel_rfl) (by simp) ?_
    refine AllReadyH.cons (o := _) rfl (fun K hK => ?_) AllReadyH.nil
    go_simp
    (go_at_call 33; refine (refLive_any cl.toArray zone off tag HTL.out _).mono ?_; rintro e w5 ⟨v5, rfl, hw5, hb5⟩; obtain ⟨a5, c5, rfl⟩ := own_shape hw5; have HI5 := hide (ints_of_own hw5 (fun x hx => Nat.le_trans (liveAt_le _ _ _ _ x hx) (by omega))); have HI4 := hide (HI4.out.below ⟨hb5.os, hb5.tape, hb5.output, hb5.size, hb5.block⟩); have HRx := hide (range_below HRx.out HSx.out ⟨hb5.os, hb5.tape, hb5.output, hb5.size, hb5.block⟩); have HSx := hide (Nat.lt_of_lt_of_le HSx.out hb5.size); have HBx := hide (below_step HBx.out ⟨hb5.os, hb5.tape, hb5.output, hb5.size, hb5.block⟩); clear hb5 hw5)
    go_wp2_with fail
    refine hK.out _ _ HRx.out (fun hHeld => ?_)
    clear hK K
    try simp only [Act.put, List.setIfInBounds_toArray, List.set_cons_zero, List.set_cons_succ]
    refine wpAnyH_ready (rs := [13]) (by kernel_rfl) (by simp) ?_
    refine AllReadyH.cons (o := _) rfl (fun K hK => ?_) AllReadyH.nil
    go_simp
    (go_at_call 31; refine (sameInts_n _ _ _ _ _ _ ((liveAt zone tag 24 8).map fun x : Nat => (x : Int)) (by simp [liveAt_length]) (by simp [liveAt_length]) (by simp [liveAt_length]) _ HI4.out HI5.out).mono ?_; rintro e w8 ⟨rfl, k8, rfl⟩)
    go_wp2_with fail
    refine hK.out _ _ HRx.out (fun hHeld => ?_)
    clear hK K
    try simp only [Act.put, List.setIfInBounds_toArray, List.set_cons_zero, List.set_cons_succ]
    refine wpAnyH_take (i := 14) (oi := _) (v := ?_) rfl (by kernel_rfl) (by kernel_rfl) (by kernel_rfl) (fun _ _ _ h => h) (Or.inl ⟨by rfl, ?_⟩) (by assumption) ?_
    rotate_left
    · intro w' hSw
      go_simp
      try with_reducible rfl
    try simp only [Act.put, List.setIfInBounds_toArray, List.set_cons_zero, List.set_cons_succ]
    refine wpAnyH_take (i := 15) (oi := _) (v := ?_) rfl (by kernel_rfl) (by kernel_rfl) (by kernel_rfl) (fun _ _ _ h => h) (Or.inl ⟨by rfl, ?_⟩) (by assumption) ?_
    rotate_left
    · intro w' hSw
      go_simp
      try with_reducible rfl
    try simp only [Act.put, List.setIfInBounds_toArray, List.set_cons_zero, List.set_cons_succ]
    refine wpAnyH_take (i := 16) (oi := _) (v := .agg cl.toArray) rfl (by kernel_rfl) (by kernel_rfl) (by kernel_rfl) (fun _ _ _ h => h) ?_ (by assumption) ?_
    · simp only [List.getElem_toArray, List.getElem_cons_succ, List.getElem_cons_zero]
      refine yieldsIf_load_mid ?_ 57 (.tmp 8) rfl Bk 0 ?_ cl _ ?_ hu ?_ hi
      · kernel_rfl
      · kernel_rfl
      · exact fun w' h => h
      · rfl
    try simp only [Act.put, List.setIfInBounds_toArray, List.set_cons_zero, List.set_cons_succ]
    refine wpAnyH_take (i := 17) (oi := _) (v := ?_) rfl (by kernel_rfl) (by kernel_rfl) (by kernel_rfl) (fun _ _ _ h => h) (Or.inl ⟨by rfl, ?_⟩) (by assumption) ?_
    rotate_left
    · intro w' hSw
      go_simp
      try with_reducible rfl
    try simp only [Act.put, List.setIfInBounds_toArray, List.set_cons_zero, List.set_cons_succ]
    refine wpAnyH_take (i := 19) (oi := _) (v := .agg cl.toArray) rfl (by kernel_rfl) (by kernel_rfl) (by kernel_rfl) (fun _ _ _ h => h) ?_ (by assumption) ?_
    · simp only [List.getElem_toArray, List.getElem_cons_succ, List.getElem_cons_zero]
      refine yieldsIf_load_mid ?_ 57 (.tmp 8) rfl Bk 0 ?_ cl _ ?_ hu ?_ hi
      · kernel_rfl
      · kernel_rfl
      · exact fun w' h => h
      · rfl
    try simp only [Act.put, List.setIfInBounds_toArray, List.set_cons_zero, List.set_cons_succ]
    refine wpAnyH_take (i := 20) (oi := _) (v := ?_) rfl (by kernel_rfl) (by kernel_rfl) (by kernel_rfl) (fun _ _ _ h => h) (Or.inl ⟨by rfl, ?_⟩) (by assumption) ?_
    rotate_left
    · intro w' hSw
      go_simp
      try with_reducible rfl
    try simp only [Act.put, List.setIfInBounds_toArray, List.set_cons_zero, List.set_cons_succ]
    refine wpAnyH_ready (rs := [18]) (by kernel_rfl) (by simp) ?_
    refine AllReadyH.cons (o := _) rfl (fun K hK => ?_) AllReadyH.nil
    go_simp
    (go_at_call 34; refine (in_any cl.toArray zone off tag inn HTL.out _).mono ?_; rintro e w6 ⟨v6, rfl, hw6, hb6⟩; obtain ⟨a6, c6, rfl⟩ := own_shape hw6; have HI6 := hide (ints_of_own hw6 (fun x hx => by have := inAt_lt _ _ _ _ x hx; omega)); have HRx := hide (range_below HRx.out HSx.out ⟨hb6.os, hb6.tape, hb6.output, hb6.size, hb6.block⟩); have HSx := hide (Nat.lt_of_lt_of_le HSx.out hb6.size); have HBx := hide (below_step HBx.out ⟨hb6.os, hb6.tape, hb6.output, hb6.size, hb6.block⟩); clear hb6 hw6)
    go_wp2_with fail
    refine hK.out _ _ HRx.out (fun hHeld => ?_)
    clear hK K
    try simp only [Act.put, List.setIfInBounds_toArray, List.set_cons_zero, List.set_cons_succ]
    refine wpAnyH_ready (rs := [21]) (by kernel_rfl) (by simp) ?_
    refine AllReadyH.cons (o := _) rfl (fun K hK => ?_) AllReadyH.nil
    go_simp
    (go_at_call 35; refine (refIn_any cl.toArray zone off tag inn HTL.out _).mono ?_; rintro e w7 ⟨v7, rfl, hw7, hb7⟩; obtain ⟨a7, c7, rfl⟩ := own_shape hw7; have HI7 := hide (ints_of_own hw7 (fun x hx => by have := inAt_lt _ _ _ _ x hx; omega)); have HI6 := hide (HI6.out.below ⟨hb7.os, hb7.tape, hb7.output, hb7.size, hb7.block⟩); have HRx := hide (range_below HRx.out HSx.out ⟨hb7.os, hb7.tape, hb7.output, hb7.size, hb7.block⟩); have HSx := hide (Nat.lt_of_lt_of_le HSx.out hb7.size); have HBx := hide (below_step HBx.out ⟨hb7.os, hb7.tape, hb7.output, hb7.size, hb7.block⟩); clear hb7 hw7)
    go_wp2_with fail
    refine hK.out _ _ HRx.out (fun hHeld => ?_)
    clear hK K
    try simp only [Act.put, List.setIfInBounds_toArray, List.set_cons_zero, List.set_cons_succ]
    refine wpAnyH_ready (rs := [22]) (by kernel_rfl) (by simp) ?_
    refine AllReadyH.cons (o := _) rfl (fun K hK => ?_) AllReadyH.nil
    go_simp
    (go_at_call 31; refine (sameInts_n _ _ _ _ _ _ ((inAt zone tag inn 24).map fun x : Nat => (x : Int)) (by simp) (by simp) (by have := inAt_length zone tag inn 24; simp; omega) _ HI6.out HI7.out).mono ?_; rintro e w9 ⟨rfl, k9, rfl⟩)
    go_wp2_with fail
    refine hK.out _ _ HRx.out (fun hHeld => ?_)
    clear hK K
    try simp only [Act.put, List.setIfInBounds_toArray, List.set_cons_zero, List.set_cons_succ]
    refine wpAnyH_take (i := 23) (oi := _) (v := ?_) rfl (by kernel_rfl) (by kernel_rfl) (by kernel_rfl) (fun _ _ _ h => h) (Or.inl ⟨by rfl, ?_⟩) (by assumption) ?_
    rotate_left
    · intro w' hSw
      go_simp
      try with_reducible rfl
    try simp only [Act.put, List.setIfInBounds_toArray, List.set_cons_zero, List.set_cons_succ]
    refine wpAnyH_take (i := 24) (oi := _) (v := ?_) rfl (by kernel_rfl) (by kernel_rfl) (by kernel_rfl) (fun _ _ _ h => h) (Or.inl ⟨by rfl, ?_⟩) (by assumption) ?_
    rotate_left
    · intro w' hSw
      go_simp
      try with_reducible rfl
    try simp only [Act.put, List.setIfInBounds_toArray, List.set_cons_zero, List.set_cons_succ]
    refine wpAnyH_done (by kernel_rfl) ?_ _
    refine NoPanic.normal ?_
    simp only [Act.put, List.getElem_toArray, List.getElem_cons_succ, List.getElem_cons_zero, List.setIfInBounds_toArray, List.set_cons_zero, List.set_cons_succ]
    go_wp2
    go_ret
    exact ⟨rfl, ⟨HBx.out.os, HBx.out.tape, HBx.out.output, HBx.out.size, HBx.out.block⟩⟩
theorem finds_any (A B : Option Addr) (ca cb : Nat) (zs ls : List Int) (but inn : Int) (cs : Array Value) (zone off : Nat → Int) (tag : Nat → ByteArray) (hT : Tab cs zone off tag) (w : World)
    (hA : Ints w A zs) (hB : Ints w B ls) :
    Calls Try.prog 6 #[.slice A zs.length ca, .slice B ls.length cb, .int .i64 but, .agg cs, .int .i64 inn] w fun e w' => e = .returned (.bool true) ∧ Below w.heap.size w w' := by
  by_cases h : 20 < zs.length ∨ 20 < ls.length
  · exact finds_wide A B zs.length ls.length ca cb but inn cs h w
  · exact finds_good A B ca cb zs ls but inn cs zone off tag (by omega) (by omega) hT w hA hB
end Go.Proofs.Ytmligbaalbbgiaa

/- The functions salternkeep.held and entry.Free. Condition: the files can be read (and may be, at Free). -/
import Derived.Test.YtmligbaalbbgiabGreatDoorEntryC
namespace Go.Proofs.YtmligbaalbbgiabGreatDoor
open Go.RowKit

/-- What nobody has, below a number. -/
def freeTo (l : List FileD) (K : Nat) : List Int := (cellsL.take (K - 3)).filter fun k => !(l.any fun x => decide (k ∈ x.cells))
theorem any_cells (l : List FileD) (k : Int) : (l.any fun x => x.cells.contains k) = l.any fun x => decide (k ∈ x.cells) := by
  congr 1
  funext x
  simp
theorem freeTo_end (l : List FileD) : freeTo l 24 = freeL l := by
  unfold freeTo freeL
  have : cellsL.take (24 - 3) = cellsL := by decide
  rw [this]
  congr 1
  funext k
  rw [any_cells]
theorem freeTo_next (l : List FileD) (K : Nat) (h1 : 3 ≤ K) (h2 : K < 24) : freeTo l (K + 1) = freeTo l K ++ if (l.any fun x => decide ((K : Int) ∈ x.cells)) = true then [] else [(K : Int)] := by
  have e : cellsL.take (K + 1 - 3) = cellsL.take (K - 3) ++ [(K : Int)] := by
    have : ∀ m : Fin 24, 3 ≤ m.val → cellsL.take (m.val + 1 - 3) = cellsL.take (m.val - 3) ++ [((m.val : Nat) : Int)] := by decide
    exact this ⟨K, h2⟩ h1
  unfold freeTo
  rw [e, List.filter_append]
  congr 1
  cases hq : (l.any fun x => decide ((K : Int) ∈ x.cells)) <;> simp [hq]
theorem freeTo_len (l : List FileD) (K : Nat) (h : K ≤ 24) : (freeTo l K).length ≤ 21 := by
  unfold freeTo
  have h1 := List.length_filter_le (fun k => !(l.any fun x => decide (k ∈ x.cells))) (cellsL.take (K - 3))
  rw [List.length_take] at h1
  omega
theorem own_ints {W : World} {b k c : Nat} {A : Option Addr} {ks : List Int} (h : W.ownsRow b 3 1 (.slice A k c) k (ks.map fun z => Value.int .i64 z)) : k = ks.length ∧ IntsIn W A ks := by
  have hk : k = ks.length := by have := h.1; simp at this; omega
  refine ⟨hk, fun h0 => ?_⟩
  rcases h.2 with ⟨e, e2⟩ | ⟨g, cap, cur, e, hb, hg, _⟩
  · omega
  · injection e with e1 e2 e3
    refine ⟨_, e1, (Array.getElem?_eq_some_iff.1 hg).1, fun i hi => ?_⟩
    rw [e1] at h
    have hc := h.cellAt i (by omega)
    rw [List.getElem?_map, List.getElem?_eq_getElem hi] at hc
    rw [addr_add]
    simpa [List.getD, hi] using hc

set_option maxRecDepth 100000 in
set_option maxHeartbeats 4000000 in
theorem free_any {w : World} {A : Option Addr} {n c : Nat} {l : List FileD} (h : FilesAt w A n l) (hr : rightB l = true) :
    Calls Tryz.prog 15 #[.slice A n c] w fun e w' => ∃ F fc, e = .returned (.slice F (freeL l).length fc) ∧ IntsIn w' F (freeL l) ∧ Below w.heap.size w w' := by
  obtain ⟨h8, hg, -⟩ := right_good hr
  have n8 : n ≤ 8 := by rw [h.hn]; exact h8
  have hcl : ∀ x ∈ l, x.cells.length ≤ 65536 := fun x hx => by
    have h1 := hg x hx
    rw [h1.len]
    have := need_big x.size.toNat (by have := h1.s1; omega)
    omega
  have H := hide h
  have HCL := hide hcl
  clear h hr h8 hg hcl
  go_enter Tryz.func15, Tryz.ntmps15
  go_wp2_with fail
  go_loopw [3, 4] (fun v p wr => ∃ (K Bk : Nat), p = .pointer (some ⟨Bk, 0, none⟩) ∧ 3 ≤ K ∧ K ≤ 24 ∧ Boxed wr Bk 3 (.int .i64 (K : Int)) ∧ w.heap.size ≤ Bk ∧ wr.ownsRow w.heap.size 3 1 v (freeTo l K).length ((freeTo l K).map fun z => Value.int .i64 z) ∧ (∀ r, v.ownBlock = some r → r < Bk) ∧ Below w.heap.size w wr) (fun _ p wr => match p with | .pointer (some q) => (match wr.cell? q with | some (.int _ k) => (24 - k).toNat | _ => 0) | _ => 0)
  case atStart => exact ⟨3, w.heap.size, rfl, by omega, by omega, Boxed.new _ _ _, Nat.le_refl _, World.ownsRow_nil _ _ _ _, fun r e => (by cases e), (Below.refl _ _).alloc (Nat.le_refl _) _⟩
  case round =>
    obtain ⟨K, Bk, rfl, hK3, hK24, hbx, hBk, hrow, hlt, hb⟩ := hrel
    have ck := hbx.cell
    by_cases hK : K < 24
    · have d0 : decide (K < 24) = true := by simpa using hK
      have d0' : decide ((K : Int) < 24) = true := by simp; omega
      have i24 : (K : Int) < 24 := by omega
      obtain ⟨q, hq⟩ : ∃ q, q = l.any fun x => decide ((K : Int) ∈ x.cells) := ⟨_, rfl⟩
      have HC := hide (containsFree (c := c) (H.out.below hb) (by omega) hbx HCL.out)
      rw [← hq] at HC
      have hnx := freeTo_next l K hK3 hK
      rw [← hq] at hnx
      have hlen := freeTo_len l K hK24
      obtain ⟨fs, hfs⟩ : ∃ fs, fs = freeTo l K := ⟨_, rfl⟩
      rw [← hfs] at hrow hnx hlen
      have HBX := hide hbx
      have HROW := hide hrow
      have HLT := hide hlt
      have HB := hide hb
      have HNX := hide hnx
      have e0 : ∀ (W : World) (B : Nat) (k : Int), Boxed W B 3 (.int .i64 k) → (match W.cell? ⟨B, 0, none⟩ with | some (.int _ k) => (24 - k).toNat | _ => 0) = (24 - k).toNat := fun W B k h => by rw [h.cell]
      have E0 := hide e0
      clear hq hnx hfs hbx hrow hlt hb e0
      cases q with
      | true =>
        go_wp2_with (go_at_call 27; refine HC.out.mono ?_; rintro e w1 ⟨rfl, hb1⟩; have hx1 : Boxed w1 Bk 3 (.int .i64 (K : Int)) := (hb1.block _ HBX.out.lt).trans HBX.out; have ck1 := hx1.cell; have HX1 := hide hx1; have HR1 := hide (own_below HROW.out hb1); have HB1 := hide (below_step HB.out hb1); have hs1 := hb1.size; clear hb1 hx1)
        have hbn : Boxed (w1.alloc (.cells #[.int .i64 ((K : Int) + 1)] 3)) w1.heap.size 3 (.int .i64 (((K + 1 : Nat)) : Int)) := Boxed.new w1 3 (.int .i64 ((K : Int) + 1))
        refine ⟨⟨K + 1, w1.heap.size, rfl, by omega, by omega, hbn, HB1.out.size, ?_, fun r e => (HR1.out.lt r e).2, HB1.out.alloc HB1.out.size _⟩, ?_⟩
        · have h := HR1.out.alloc (.cells #[.int .i64 ((K : Int) + 1)] 3)
          rw [HNX.out]
          simpa using h
        · simp only []
          rw [E0.out _ _ _ hbn, E0.out _ _ _ HBX.out]
          omega
      | false =>
        obtain ⟨i0, hi0, hz0, hz1, hz2⟩ := info_parts info_int
        have HI0 := hide hi0
        have HZ0 := hide hz0
        have HZ1 := hide hz1
        have HZ2 := hide hz2
        clear hi0 hz0 hz1 hz2
        go_wp2_with (first
          | (go_at_call 27; refine HC.out.mono ?_; rintro e w1 ⟨rfl, hb1⟩; have hx1 : Boxed w1 Bk 3 (.int .i64 (K : Int)) := (hb1.block _ HBX.out.lt).trans HBX.out; have ck1 := hx1.cell; have HX1 := hide hx1; have HR1 := hide (own_below HROW.out hb1); have HB1 := hide (below_step HB.out hb1); have hs1 := hb1.size; clear hb1 hx1)
          | (at_builtin; go_loud (refine wpList_append_own_at _ rfl (.tmp 13) (.tmp 15) 35 rfl w.heap.size 3 i0 (.int .i64 0) 1 8 Tryz.underlying35 HI0.out HZ0.out HZ1.out HZ2.out rfl (by decide) _ _ _ rfl (HR1.out.alloc _) ⟨w1.heap.size, 0, none⟩ 1 1 [.int .i64 (K : Int)] rfl rfl (news_l _ _ _) (by simp [Value.oneCell']) (by unfold maxLen; omega) (by omega) (by have := HB1.out.size; simp; omega) ?_; intro v5 w5 hr5 hg5 _ hw5; obtain ⟨g5, cap5, rfl⟩ := ownsRow_succ hr5; have hx5 : Boxed w5 Bk 3 (.int .i64 (K : Int)) := (HX1.out.alloc _).kept hg5 (fun e => (by have := HLT.out _ e.symm; omega)); have ck5 := hx5.cell; have HR5 := hide hr5; have HB5 := hide ((HB1.out.alloc HB1.out.size _).grown hg5 (by have := HB1.out.size; simp; omega) (fun k hk => (HR1.out.lt k hk).1)); clear hx5 hr5 hg5 hw5)))
        have hbn : Boxed (w5.alloc (.cells #[.int .i64 ((K : Int) + 1)] 3)) w5.heap.size 3 (.int .i64 (((K + 1 : Nat)) : Int)) := Boxed.new w5 3 (.int .i64 ((K : Int) + 1))
        refine ⟨⟨K + 1, w5.heap.size, rfl, by omega, by omega, hbn, HB5.out.size, ?_, fun r e => (HR5.out.lt r e).2, HB5.out.alloc HB5.out.size _⟩, ?_⟩
        · have h := HR5.out.alloc (.cells #[.int .i64 ((K : Int) + 1)] 3)
          rw [HNX.out]
          simpa using h
        · simp only []
          rw [E0.out _ _ _ hbn, E0.out _ _ _ HBX.out]
          omega
    · obtain rfl : K = 24 := by omega
      obtain ⟨F, fc, rfl⟩ := own_slice hrow
      rw [freeTo_end] at hrow ⊢
      have HROW := hide hrow
      have HB := hide hb
      clear hrow hb hlt hbx
      go_wp2_with fail
      go_ret
      exact ⟨_, _, rfl, (own_ints HROW.out).2, HB.out⟩
end Go.Proofs.YtmligbaalbbgiabGreatDoor

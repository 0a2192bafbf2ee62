/- The reference's device: Append. Conditions: a device lies at the receiver; a text of at most 65536 bytes. -/
import Derived.Test.YtmligbaalbbgiabDoorRefZone1
import Derived.Maps.AppendAt
import Derived.Deep.RegionLawGrows
namespace Go.Proofs.YtmligbaalbbgiabDoor
open Go.RowKit

theorem strsV_oneCell (l : List ByteArray) : ∀ u ∈ strsV l, u.oneCell' = true := by
  intro u hu
  obtain ⟨c, _, rfl⟩ := List.mem_map.1 hu
  rfl
theorem StrsAt.cells {w : World} {a : Addr} {k cap : Nat} {l : List ByteArray} (h : StrsAt w (some a) k cap l) (j : Nat) (u : Value) (hj : (strsV l)[j]? = some u) : w.cell? (a.add j) = some u := by
  have hjl : j < l.length := by rw [← strsV_length]; exact (List.getElem?_eq_some_iff.1 hj).1
  have e : u = .string (l.getD j ⟨#[]⟩) := by simpa [strsV, hjl, List.getD] using hj.symm
  rw [e]
  exact h.hcell a rfl j hjl
theorem StrsAt.drew {w : World} {a : Option Addr} {k cap : Nat} {l : List ByteArray} (h : StrsAt w a k cap l) : StrsAt w.drew a k cap l := ⟨h.hn, h.hc, h.hz, h.hlt, h.hcell⟩
/-- Texts appended to a row of one's own. -/
theorem run_append_strs (w : World) (base : Nat) (ty : TypeId) {v : Value} {n : Nat} {l0 : List ByteArray} (hown : w.ownsRow base 9 1 v n (strsV l0)) {a : Option Addr} {k cap : Nat} {l : List ByteArray} (h : StrsAt w a k cap l)
    (hsm : n + k ≤ 65536) (hb : base ≤ w.heap.size) :
    ∃ v' w', (Builtin.append_ #[22, 22] ty #[v, .slice a k cap]).run Tryd.prog w = .ok v' w' ∧ w'.ownsRow base 9 1 v' (n + k) (strsV (l0 ++ l)) ∧ w.grownBy w' v.ownBlock ∧ (v'.ownBlock = v.ownBlock ∨ v'.ownBlock = some w.heap.size) := by
  obtain ⟨i0, hi0, hz0, hz1, hz2⟩ := info_parts info_str
  cases a with
  | none =>
    obtain ⟨rfl, rfl⟩ := h.hz rfl
    have hl : l = [] := List.eq_nil_of_length_eq_zero h.hn.symm
    subst hl
    refine ⟨v, w, ?_, by simpa using hown, World.grownBy.refl w _, .inl rfl⟩
    rcases hown.2 with ⟨rfl, rfl⟩ | ⟨g, c, cur, rfl, _, _, hnc, _⟩
    · simp [Builtin.append_, run_underlying Tryd.underlying22, sizeOf, typeInfo, hi0, Builtin.lenOf, Builtin.firstCells]
    · simp [Builtin.append_, run_underlying Tryd.underlying22, sizeOf, typeInfo, hi0, Builtin.lenOf, Builtin.firstCells, hnc, storeCells]
  | some x =>
    obtain ⟨v', w', h1, h2, h3, _, h5⟩ := run_append_own_at (P := Tryd.prog) w base 22 ty 9 i0 (.string ⟨#[]⟩) 1 16 Tryd.underlying22 hi0 hz0 hz1 hz2 rfl (by decide) v n (strsV l0) hown x k cap (strsV l) (by rw [strsV_length, ← h.hn, Nat.mul_one]) h.cells (strsV_oneCell l) (by unfold maxLen; omega) (by omega) hb
    rw [← strsV_append] at h2
    exact ⟨v', w', h1, h2, h3, h5⟩
/-- .. at a step of a region that draws. -/
theorem step_strs {ops : Array Oper} {o : Oper} {a : Act} {w : World} {K : Act → World → Prop} {Q : Exit → Act → World → Prop} {E : Prop} (hgd : o.guard = none) (s x : Operand)
    (ho : o.op = .call { callee := .builtin .append, args := #[s, x], argTypes := #[22, 22] }) (base : Nat) {v : Value} {n : Nat} {l0 : List ByteArray} (hs : a.eval s = v) (hown : w.ownsRow base 9 1 v n (strsV l0))
    {A : Option Addr} {k cap : Nat} {l : List ByteArray} (hx : a.eval x = .slice A k cap) (h : StrsAt w A k cap l) (hsm : n + k ≤ 65536) (hb : base ≤ w.heap.size)
    (hK : ∀ v' w', w'.ownsRow base 9 1 v' (n + k) (strsV (l0 ++ l)) → w.grownBy w' v.ownBlock → (v'.ownBlock = v.ownBlock ∨ v'.ownBlock = some w.heap.size) → K (a.put o.dst v') w') :
    if Region.wanted o (yielded ops a.tmps) = true then Oper.wp Tryd.prog o a w K Q else E := by
  have hw : Region.wanted o (yielded ops a.tmps) = true := by simp [Region.wanted, hgd]
  rw [if_pos hw]
  obtain ⟨v', w', hr, h2, h3, h4⟩ := run_append_strs w base o.type hown h hsm hb
  unfold Oper.wp execOp
  simp only [ho, resolve, invoke, builtin, Sem.run_bind, Sem.run_pure, Result.andThen_ok, List.map_toArray, List.map_cons, List.map_nil, hs, hx, hr]
  exact hK v' w' h2 h3 h4

theorem own_after {wA w2 : World} {base : Nat} {e : TypeId} {size n : Nat} {v : Value} {xs : List Value} (h : wA.ownsRow base e size v n xs) (hb : Below wA.heap.size wA w2) (o : Obj) : (w2.alloc o).ownsRow base e size v n xs :=
  (ownsRow_same h (fun g hg => hb.block g (h.lt g hg).2)).alloc o
theorem rchain {w1 wA w2 w3 : World} {v : Value} {o1 o : Obj} (hA : (w1.alloc o1).drew.grownBy wA (some w1.heap.size)) (h2 : Below wA.heap.size wA w2) (h3 : (w2.alloc o).grownBy w3 v.ownBlock) (hv : ∀ g, v.ownBlock = some g → w1.heap.size ≤ g) : Below w1.heap.size w1 w3 := by
  have b0 : Below w1.heap.size w1 (w1.alloc o1) := (Below.refl _ _).alloc (Nat.le_refl _) _
  have b1 : Below w1.heap.size w1 (w1.alloc o1).drew := ⟨b0.os, b0.tape, b0.output, b0.size, b0.block⟩
  have b2 : Below w1.heap.size w1 wA := b1.grown hA b1.size (fun k hk => by cases hk; exact Nat.le_refl _)
  have b3 := below_step b2 h2
  exact (b3.alloc b3.size o).grown h3 (by have := b3.size; simp; omega) hv
/-- What stands behind a zone's new row, before it is stored. -/
theorem rzone_end {w w2 : World} {base b : Nat} {D : Dv} {m : Nat → Prop} {zs : List Value} {av wv : Value} (h : RDevAt w base b D m zs av wv) (Z : Nat) (hZ : Z < 8) (hb : Below w.heap.size w w2) (v : Value) (l : List ByteArray) (hl : l.length ≤ 16)
    (hown : w2.ownsRow w.heap.size 9 1 v l.length (strsV l)) :
    w2.cell? ⟨b, Z, none⟩ = some (zs.getD Z nilS) ∧ w2.frozen? ⟨b, Z, none⟩ = false ∧
    RDevAt (w2.setCell ⟨b, Z, none⟩ v) base b { D with L := D.L.set Z l } (plus m w.heap.size w2.heap.size) (zs.set Z v) av wv ∧ Moves w (w2.setCell ⟨b, Z, none⟩ v) m (plus m w.heap.size w2.heap.size) := by
  have hB := h.blk.below hb h.blk.lt
  have hbase : base ≤ w.heap.size := by have := (h.lt b h.own).1; have := h.blk.lt; omega
  refine ⟨by rw [hb.cell (p := ⟨b, Z, none⟩) h.blk.lt]; exact h.cellZ Z hZ, hB.frozen Z, h.setZ Z hZ hb.size (fun k hk _ => hb.block k hk) v l hl (ownsRow_mono hown hbase) (fun g hg => .inr (hown.lt g hg).1), ?_⟩
  exact h.setZ_moves Z hZ hb.os hb.tape hb.output hb.size (fun k hk _ => hb.block k hk) v

set_option maxRecDepth 100000 in
set_option maxHeartbeats 2000000 in
theorem rappend_good {w : World} {base b : Nat} {D : Dv} {m : Nat → Prop} (h : RDev w base b D m) (Z : Nat) (hZ : Z < 8) (s : ByteArray) (hs : s.size ≤ 128) (hl : (D.zone Z).length < 16) (hf : D.f ≠ 0) :
    Calls Tryd.prog 31 #[.pointer (some ⟨b, 0, none⟩), .int .i64 (Z : Int), .string s] w fun e w' => e = .returned (.tuple #[.int .i64 ((D.zone Z).length : Int), .int .i64 0]) ∧
      ∃ m', RDev w' base b { D.burn with L := D.L.set Z (D.zone Z ++ [padB s 128]) } m' ∧ Moves w w' m m' := by
  obtain ⟨i0, hi0, hz0, hz1, hz2⟩ := info_parts info_str
  have c3 : decide (128 < s.size) = false := by simp; omega
  have c3' : decide ((128 : Int) < (s.size : Int)) = false := by simp; omega
  have d0 : decide (D.f = 0) = false := by simp [hf]
  have HI := hide (fun w => refin_is (Z : Int) 0 7 true (by simp; omega) w)
  obtain ⟨n, hn⟩ : ∃ n, n = (D.zone Z).length := ⟨_, rfl⟩
  have c4 : decide ((16 : Int) ≤ (n : Int)) = false := by simp; omega
  have c4' : decide (16 ≤ n) = false := by simp; omega
  have H := hide h
  have HN := hide hn
  have HL := hide hl
  have HS : Hid (s.size ≤ 65536) := hide (by omega)
  obtain ⟨zs, av, wv, h0⟩ := h
  obtain ⟨a0, cap0, hf0⟩ := h0.form Z hZ
  have k0 := h0.cellZ Z hZ
  rw [hf0, ← hn] at k0
  obtain ⟨S, hS⟩ : ∃ S, S = padB s 128 := ⟨_, rfl⟩
  have HSd := hide hS
  have iz1 : (Z : Int) < 8 := by omega
  have iz2 : (0 : Int) ≤ (Z : Int) := by omega
  rw [← hn]
  clear h0 hf0 hf hl hs hn hS
  go_enter Tryd.func31, Tryd.ntmps31
  go_upto_region 9 with (first
    | (go_at_call 81; refine (HI.out _).mono ?_; rintro e w1 ⟨rfl, rfl⟩)
    | (go_at_call 88; refine (rspent_any H.out).mono ?_; rintro e w1 ⟨rfl, h1, hm1⟩; rw [d0]; have H1 := hide h1; have HM1 := hide hm1; clear h1 hm1))
  clear k0
  obtain ⟨zs1, av1, wv1, h1⟩ := H1.out
  obtain ⟨B, hB⟩ : ∃ B, B = D.burn := ⟨_, rfl⟩
  rw [← hB] at h1
  obtain ⟨a1, cap1, hf1⟩ := h1.form Z hZ
  have hr1 := h1.rows.row Z hZ
  rw [hf1] at hr1
  have k1 := h1.cellZ Z hZ
  have hn1 : n = (B.zone Z).length := by rw [HN.out, hB, burn_zone]
  rw [hf1, ← hn1] at k1
  have hst : StrsAt w1 a1 n cap1 (B.zone Z) := by
    rw [hn1]
    exact StrsAt.of_own hr1 rfl
  have hlz : (B.zone Z).length < 16 := by rw [← hn1, HN.out]; exact HL.out
  have kb := h1.blk.lt
  have HW1 := hide h1
  have HZ := hide hZ
  have HB := hide hB
  have HST := hide hst
  have HN1 := hide hn1
  have HLZ := hide hlz
  clear h1 hf1 hr1 hn1 hst hlz hB
  go_region_law (first
    | (go_simp; go_at_call 85; refine (rlong_any s 128 HS.out (by omega) _).mono ?_; rintro e w2 ⟨rfl, hb2⟩; rw [← HSd.out]; have HB2 := hide hb2; clear hb2)
    | (refine step_strs (v := .slice (some ⟨w1.heap.size, 0, none⟩) 0 0) (n := 0) (l0 := []) (A := a1) (k := n) (cap := cap1) (l := B.zone Z) (by rfl) _ _ (by rfl) w1.heap.size (by rfl) (World.ownsRow_made _ _ 0 (Nat.le_refl _) (by decide) rfl).drew (by rfl) (HST.out.below ((Below.refl _ _).alloc (Nat.le_refl _) _)).drew (by have := HLZ.out; have := HN1.out; omega) (by simp) ?_; intro vA wA hownA hgA hatA; have HOA := hide hownA; have HGA := hide hgA; clear hatA hownA hgA)
    | (refine step_append_lies _ (by rfl) _ _ _ (by rfl) w1.heap.size 9 i0 _ 1 16 Tryd.underlying22 hi0 hz0 hz1 hz2 rfl (by omega) vA (0 + n) (strsV ([] ++ B.zone Z)) (by rfl) (own_after HOA.out HB2.out _) ⟨w2.heap.size, 0, none⟩ 1 1 [.string S] (by rfl) (by rfl) (World.news_of_block (fr := (0, 0)) (heap_alloc_new w2 _)) (by simp [Value.oneCell']) (by omega) (by unfold maxLen; have := HLZ.out; have := HN1.out; omega) (by have := HLZ.out; have := HN1.out; omega) (by have := HB2.out.size; have := HGA.out.size; simp at *; omega) (w2.heap.size + 1) (by simp) ?_; intro gg cap w3 hown3 hgrow3 hat3 hlt3; have hb3 := rchain HGA.out HB2.out hgrow3 (fun g hg => (HOA.out.lt g hg).1); have ho3 : w3.ownsRow w1.heap.size 9 1 (.slice (some ⟨gg, 0, none⟩) (0 + n + 1) cap) (B.zone Z ++ [S]).length (strsV (B.zone Z ++ [S])) := (by rw [strsV_append, List.length_append, ← HN1.out]; have := hown3; simp only [Nat.zero_add, List.nil_append] at this; simpa [strsV] using this); obtain ⟨e1, e2, e3, e4⟩ := rzone_end HW1.out Z HZ.out hb3 _ _ (by rw [List.length_append]; have := HLZ.out; simp; omega) ho3; have E3 := hide e3; have E4 := hide e4; clear e3 e4 ho3 hb3 hown3 hgrow3 hat3 hlt3))
  all_goals
    rw [Nat.zero_add] at E3 E4
    obtain ⟨n1, hn1⟩ : ∃ n1, n1 = n + 1 := ⟨_, rfl⟩
    rw [← hn1] at E3 E4
    have hsame := World.cell?_setCell_same w3 ⟨b, Z, none⟩ (.slice (some ⟨gg, 0, none⟩) n1 cap) e1
    obtain ⟨w4, hw4⟩ : ∃ w4, w4 = w3.setCell ⟨b, Z, none⟩ (.slice (some ⟨gg, 0, none⟩) n1 cap) := ⟨_, rfl⟩
    rw [← hw4] at E3 E4 hsame
    rw [← hn1, ← hw4]
    have hD : ({ L := B.L.set Z (B.zone Z ++ [S]), S := B.S, T := B.T, q := B.q, f := B.f } : Dv) = { D.burn with L := D.L.set Z (D.zone Z ++ [padB s 128]) } := by rw [HB.out, burn_zone, burn_L, HSd.out]
    rw [hD] at E3
    have hq : wrap64 ((n1 : Int) - 1) = (n : Int) := by have := HL.out; have := HN.out; simp only [wrap64]; omega
    have E5 := hide (HM1.out.trans E4.out)
    clear hn1 hw4 hD E4 HW1 k1 e1 e2 HB2 HOA HGA kb
    go_wp2_with fail
    go_ret2
    exact ⟨rfl, _, ⟨_, _, _, E3.out⟩, E5.out⟩
theorem rappend_any {w : World} {base b : Nat} {D : Dv} {m : Nat → Prop} (h : RDev w base b D m) (z : Int) (s : ByteArray) :
    Calls Tryd.prog 31 #[.pointer (some ⟨b, 0, none⟩), .int .i64 z, .string s] w fun e w' => e = .returned (.tuple #[.int .i64 (appendR D z s).2.1, .int .i64 (appendR D z s).2.2]) ∧
      ∃ m', RDev w' base b (appendR D z s).1 m' ∧ Moves w w' m m' := by
  by_cases h1 : z < 0 ∨ 8 ≤ z
  · have HI := hide (fun w => refin_is z 0 7 false (by simp; omega) w)
    have e : appendR D z s = (D, 0, 2) := by unfold appendR; rw [if_pos h1]
    rw [e]
    have H := hide h
    clear h h1 e
    go_enter Tryd.func31, Tryd.ntmps31
    go_wp2_with (go_at_call 81; refine (HI.out _).mono ?_; rintro e w1 ⟨rfl, rfl⟩)
    go_ret2
    exact ⟨rfl, m, H.out, Moves.refl _ _⟩
  · obtain ⟨Z, rfl⟩ := Int.eq_ofNat_of_zero_le (show 0 ≤ z by omega)
    have hZ : Z < 8 := by omega
    have HI := hide (fun w => refin_is (Z : Int) 0 7 true (by simp; omega) w)
    by_cases h2 : 128 < s.size
    · have c3 : decide (128 < s.size) = true := by simpa using h2
      have c3' : decide ((128 : Int) < (s.size : Int)) = true := by simp; omega
      have e : appendR D (Z : Int) s = (D, 0, 4) := by unfold appendR; rw [if_neg h1, if_pos h2]
      rw [e]
      have H := hide h
      clear h h1 h2 e
      go_enter Tryd.func31, Tryd.ntmps31
      go_wp2_with (go_at_call 81; refine (HI.out _).mono ?_; rintro e w1 ⟨rfl, rfl⟩)
      go_ret2
      exact ⟨rfl, m, H.out, Moves.refl _ _⟩
    · have c3 : decide (128 < s.size) = false := by simpa using h2
      have c3' : decide ((128 : Int) < (s.size : Int)) = false := by simp; omega
      have H := hide h
      obtain ⟨zs, av, wv, h0⟩ := h
      have hcap := h0.ok.cap Z
      obtain ⟨n, hn⟩ : ∃ n, n = (D.zone Z).length := ⟨_, rfl⟩
      obtain ⟨a0, cap0, hf0⟩ := h0.form Z hZ
      have k0 := h0.cellZ Z hZ
      rw [hf0, ← hn] at k0
      have iz1 : (Z : Int) < 8 := by omega
      have iz2 : (0 : Int) ≤ (Z : Int) := by omega
      by_cases h3 : n = 16
      · have e : appendR D (Z : Int) s = (D, 0, 12) := by unfold appendR; rw [if_neg h1, if_neg h2, if_pos (by simp; omega)]
        rw [e]
        have c4 : decide ((16 : Int) ≤ (n : Int)) = true := by simp; omega
        have c4' : decide (16 ≤ n) = true := by simp; omega
        clear h0 hf0 hcap hn h1 h2 h3 e
        go_enter Tryd.func31, Tryd.ntmps31
        go_wp2_with (go_at_call 81; refine (HI.out _).mono ?_; rintro e w1 ⟨rfl, rfl⟩)
        go_ret2
        exact ⟨rfl, m, H.out, Moves.refl _ _⟩
      · by_cases h4 : D.f = 0
        · have e : appendR D (Z : Int) s = (D, 0, 14) := by unfold appendR; rw [if_neg h1, if_neg h2, if_neg (by simp; omega), if_pos h4]
          have eb : D.burn = D := by unfold Dv.burn; rw [if_neg (by omega)]
          have d0 : decide (D.f = 0) = true := by simp [h4]
          rw [e]
          have EB := hide eb
          have c4 : decide ((16 : Int) ≤ (n : Int)) = false := by simp; omega
          have c4' : decide (16 ≤ n) = false := by simp; omega
          clear h0 hf0 hcap hn h1 h2 h3 h4 e eb
          go_enter Tryd.func31, Tryd.ntmps31
          go_wp2_with (first
            | (go_at_call 81; refine (HI.out _).mono ?_; rintro e w1 ⟨rfl, rfl⟩)
            | (go_at_call 88; refine (rspent_any H.out).mono ?_; rintro e w1 ⟨rfl, h1, hm1⟩; rw [d0]; have H1 := hide h1; have HM1 := hide hm1; clear h1 hm1))
          go_ret2
          exact ⟨rfl, m, EB.out ▸ H1.out, HM1.out⟩
        · have e : appendR D (Z : Int) s = ({ D.burn with L := D.L.set Z (D.zone Z ++ [padB s 128]) }, ((D.zone Z).length : Int), 0) := by
            unfold appendR; rw [if_neg h1, if_neg h2, if_neg (by simp; omega), if_neg h4]; simp
          rw [e]
          exact rappend_good H.out Z hZ s (by omega) (by omega) h4
end Go.Proofs.YtmligbaalbbgiabDoor

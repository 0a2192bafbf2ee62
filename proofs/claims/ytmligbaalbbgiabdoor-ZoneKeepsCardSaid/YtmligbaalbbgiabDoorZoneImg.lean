/- What lies outside a device, and images: they stay where only the device moves; slices.Equal and alike. It names no law. -/
import Derived.Test.YtmligbaalbbgiabDoorProg
import Derived.Test.YtmligbaalbbgiabDoorZone7
import Derived.Test.YtmligbaalbbgiabDoorZone8
import Derived.ChangeSlices
import Derived.ChangeKeysEq
namespace Go.Proofs.YtmligbaalbbgiabDoor
open Go.RowKit

/-- Numbers that came in, outside the device. -/
structure NumsOut (w : World) (m : Nat → Prop) (A : Option Addr) (ks : List Int) : Prop where
  at_ : 0 < ks.length → ∃ a, A = some a ∧ ¬ m a.block ∧ a.block < w.heap.size ∧ ∀ i, i < ks.length → w.cell? (a.add i) = some (.int .i64 (ks.getD i 0))
theorem NumsOut.moves {w w' : World} {m m' : Nat → Prop} {A : Option Addr} {ks : List Int} (h : NumsOut w m A ks) (hm : Moves w w' m m') : NumsOut w' m' A ks := ⟨fun h0 => by
  obtain ⟨a, h1, h2, h3, h4⟩ := h.at_ h0
  refine ⟨a, h1, fun hc => (hm.sub _ hc).elim h2 (fun h5 => by omega), Nat.lt_of_lt_of_le h3 hm.size, fun i hi => ?_⟩
  rw [World.cell?_of_block (w := w) (w' := w') (a := a.add i) (by rw [Go.ChangeShapes.block_add]; exact hm.block _ h3 h2)]
  exact h4 i hi⟩
/-- Texts that came in, outside the device. -/
structure StrsOut (w : World) (m : Nat → Prop) (a : Option Addr) (n cap : Nat) (l : List ByteArray) : Prop where
  s : StrsAt w a n cap l
  out : ∀ x, a = some x → 0 < l.length → ¬ m x.block
theorem StrsOut.moves {w w' : World} {m m' : Nat → Prop} {a : Option Addr} {n cap : Nat} {l : List ByteArray} (h : StrsOut w m a n cap l) (hm : Moves w w' m m') : StrsOut w' m' a n cap l :=
  ⟨h.s.moves h.out hm, fun x hx hp hc => (hm.sub _ hc).elim (h.out x hx hp) (fun h4 => by have := h.s.hlt x hx hp; omega)⟩
/-- A cell of the caller's, outside the device. -/
structure CellOut (w : World) (m : Nat → Prop) (B : Nat) (v : Value) : Prop where
  cell : w.cell? ⟨B, 0, none⟩ = some v
  out : ¬ m B
theorem CellOut.moves {w w' : World} {m m' : Nat → Prop} {B : Nat} {v : Value} (h : CellOut w m B v) (hm : Moves w w' m m') : CellOut w' m' B v := by
  have hl : B < w.heap.size := block_lt_of_cell h.cell
  refine ⟨?_, fun hc => (hm.sub _ hc).elim h.out (fun h5 => by omega)⟩
  rw [World.cell?_of_block (w := w) (w' := w') (a := ⟨B, 0, none⟩) (hm.block _ hl h.out)]
  exact h.cell

theorem burn_one {D : Dv} (h : D.f = -1) : D.burn = D := by unfold Dv.burn; rw [if_neg (by omega)]
set_option maxRecDepth 100000 in
set_option maxHeartbeats 2000000 in
theorem equal_any {w : World} {a1 a2 : Option Addr} {n1 c1 n2 c2 : Nat} {l1 l2 : List ByteArray} (h1 : StrsAt w a1 n1 c1 l1) (h2 : StrsAt w a2 n2 c2 l2) (hn : l1.length ≤ 65536) :
    Calls Tryd.prog 98 #[.slice a1 n1 c1, .slice a2 n2 c2] w fun e w' => e = .returned (.bool (decide (l1 = l2))) ∧ Below w.heap.size w w' := by
  by_cases hl : l1.length = l2.length
  · have d1 : ((n1 : Int) != (n2 : Int)) = false := by rw [h1.hn, h2.hn, hl]; simp
    have d1' : (n1 != n2) = false := by rw [h1.hn, h2.hn, hl]; simp
    have H1 := hide h1
    have H2 := hide h2
    have HLL := hide hl
    have HNN := hide hn
    clear h1 h2 hl hn
    go_enter Tryd.func98, Tryd.ntmps98
    go_wp2_with fail
    go_loopw [13] (fun i wr => ∃ I : Nat, i = .int .i64 (I : Int) ∧ I ≤ n1 ∧ (∀ j, j < I → l1.getD j ⟨#[]⟩ = l2.getD j ⟨#[]⟩) ∧ Below w.heap.size w wr) (fun i _ => n1 - (intOf i).toNat)
    case atStart => exact ⟨0, rfl, by omega, fun j hj => by omega, Below.refl _ _⟩
    case round =>
      obtain ⟨I, rfl, hI, hall, hb⟩ := hrel
      have HALL := hide hall
      have HB := hide hb
      have hn65 : n1 ≤ 65536 := by rw [H1.out.hn]; exact HNN.out
      by_cases hlt : I < n1
      · have d0 : decide (I < n1) = true := by simpa using hlt
        have hI1 : I < l1.length := by rw [← H1.out.hn]; exact hlt
        have hI2 : I < l2.length := by rw [← HLL.out]; exact hI1
        have hI2n : I < n2 := by rw [H2.out.hn]; exact hI2
        obtain ⟨x1, rfl⟩ : ∃ x, a1 = some x := by
          cases a1 with
          | none => have := (H1.out.hz rfl).1; omega
          | some x => exact ⟨x, rfl⟩
        obtain ⟨x2, rfl⟩ : ∃ x, a2 = some x := by
          cases a2 with
          | none => have := (H2.out.hz rfl).1; omega
          | some x => exact ⟨x, rfl⟩
        have k1 := (H1.out.below hb).hcell x1 rfl I hI1
        have k2 := (H2.out.below hb).hcell x2 rfl I hI2
        obtain ⟨s1, hs1⟩ : ∃ s, s = l1.getD I ⟨#[]⟩ := ⟨_, rfl⟩
        obtain ⟨s2, hs2⟩ : ∃ s, s = l2.getD I ⟨#[]⟩ := ⟨_, rfl⟩
        rw [← hs1] at k1
        rw [← hs2] at k2
        have j1 : (I : Int) < (n1 : Int) := by omega
        have j2 : (I : Int) < (n2 : Int) := by omega
        have j0 : (0 : Int) ≤ (I : Int) := by omega
        have HS1 := hide hs1
        have HS2 := hide hs2
        have HI1 := hide hI1
        clear hall hb hs1 hs2 hI1 hI2
        by_cases hs : s1 = s2
        · subst hs
          go_upto_region 6 with fail
          go_quiet (fail)
          go_wp2_with fail
          refine ⟨⟨I + 1, by go_num, by omega, fun j hj => ?_, ⟨HB.out.os, HB.out.tape, HB.out.output, HB.out.size, HB.out.block⟩⟩, by simp [intOf]; omega⟩
          rcases Nat.lt_succ_iff_lt_or_eq.1 hj with h | h
          · exact HALL.out j h
          · rw [h, ← HS1.out, ← HS2.out]
        · have t1 := toL_ne hs
          have HNE := hide hs
          clear hs
          go_upto_region 6 with fail
          go_quiet (fail)
          go_wp2_with fail
          go_ret
          refine ⟨?_, ⟨HB.out.os, HB.out.tape, HB.out.output, HB.out.size, HB.out.block⟩⟩
          have : l1 ≠ l2 := fun e => HNE.out (by rw [HS1.out, HS2.out, e])
          simp [this]
      · obtain rfl : I = n1 := by omega
        have d0 : decide (I < I) = false := by simp
        have he : l1 = l2 := by
          apply List.ext_getElem HLL.out
          intro j hj1 hj2
          have := hall j (by rw [H1.out.hn]; exact hj1)
          simpa [List.getD, hj1, hj2] using this
        have HEE := hide he
        clear hall hb he hlt hI
        go_wp2_with fail
        go_ret
        refine ⟨?_, HB.out⟩
        have := HEE.out
        simp [this]
  · have d1 : ((n1 : Int) != (n2 : Int)) = true := by have := h1.hn; have := h2.hn; simp; omega
    have d1' : (n1 != n2) = true := by have := h1.hn; have := h2.hn; simp; omega
    have he : l1 ≠ l2 := fun e => hl (by rw [e])
    have HEE := hide he
    clear h1 h2 hl hn he
    go_enter Tryd.func98, Tryd.ntmps98
    go_wp2_with fail
    go_ret
    refine ⟨?_, Below.refl _ _⟩
    have := HEE.out
    simp [this]

/-- An image's zones, that can be read. -/
structure ZsAt (w : World) (vs : List Value) (Z : List (List ByteArray)) : Prop where
  len : vs.length = 8
  at_ : ∀ z, z < 8 → ∃ a n cap, vs.getD z nilS = .slice a n cap ∧ StrsAt w a n cap (Z.getD z [])
  few : ∀ z, z < 8 → (Z.getD z []).length ≤ 65536
theorem ZsAt.below {w w' : World} {vs : List Value} {Z : List (List ByteArray)} (h : ZsAt w vs Z) (hb : Below w.heap.size w w') : ZsAt w' vs Z :=
  ⟨h.len, fun z hz => by obtain ⟨a, n, c, h1, h2⟩ := h.at_ z hz; exact ⟨a, n, c, h1, h2.below hb⟩, h.few⟩
theorem ZsAt.of_img {w : World} {base : Nat} {vs : List Value} {Z : List (List ByteArray)} (h : ImgAt w base vs Z) (hf : ∀ z, z < 8 → (Z.getD z []).length ≤ 65536) : ZsAt w vs Z :=
  ⟨h.len, fun z hz => by
    obtain ⟨a, cap, e⟩ := ownsRow_slice (h.row z hz)
    have hr := h.row z hz
    rw [e] at hr
    exact ⟨a, _, cap, e, StrsAt.of_own hr rfl⟩, hf⟩

set_option maxRecDepth 100000 in
set_option maxHeartbeats 4000000 in
theorem plain_string : Tryd.prog.plainKey 9 = true := by kernel_rfl
theorem cells_string : Tryd.prog.cellsOf 9 = 1 := by kernel_rfl
/-- Two texts are the same two texts. -/
theorem eq_two (a b : ByteArray) (W : World) : (Op.equalIn 10000 55 (.agg #[.string a, .string b]) (.agg #[.string a, .string b])).run Tryd.prog W = .ok true W := by
  obtain ⟨i, hi⟩ := info_of_underlying (P := Tryd.prog) Tryd.underlying9
  have hs : ∀ (c : ByteArray) (V : World), (Op.equalIn 9999 9 (.string c) (.string c)).run Tryd.prog V = .ok true V := fun c V => by
    rw [show (9999 : Nat) = 9998 + 1 from rfl, run_equalIn_string V 9998 _ c c Tryd.underlying9]; simp
  rw [show (10000 : Nat) = 9999 + 1 from rfl, run_equalIn_array W 9999 _ _ Tryd.underlying55 hi, cells_string]
  simp only [List.range, List.range.loop, Op.eqItems, Sem.run_bind]
  rw [run_part_plain W plain_string (v := .string a) rfl]
  simp only [Result.andThen_ok]
  rw [run_part_plain W plain_string (v := .string a) rfl]
  simp only [Result.andThen_ok, hs, Bool.not_true, Bool.false_eq_true, if_false, Sem.run_bind]
  rw [run_part_plain W plain_string (v := .string b) rfl]
  simp only [Result.andThen_ok]
  rw [run_part_plain W plain_string (v := .string b) rfl]
  simp [hs]
theorem alike_true {w : World} {vs us : List Value} {Z : List (List ByteArray)} (t0 t1 : ByteArray) (h1 : ZsAt w vs Z) (h2 : ZsAt w us Z) :
    Calls Tryd.prog 53 #[.agg (vs ++ [Value.string t0, Value.string t1]).toArray, .agg (us ++ [Value.string t0, Value.string t1]).toArray] w fun e w' => e = .returned (.bool true) ∧ Below w.heap.size w w' := by
  have hf1 : ∀ z, z < 8 → ∃ n a c, vs.getD z nilS = .slice a n c := fun z hz => by obtain ⟨a, n, c, h, _⟩ := h1.at_ z hz; exact ⟨n, a, c, h⟩
  have hf2 : ∀ z, z < 8 → ∃ n a c, us.getD z nilS = .slice a n c := fun z hz => by obtain ⟨a, n, c, h, _⟩ := h2.at_ z hz; exact ⟨n, a, c, h⟩
  obtain ⟨v0, v1, v2, v3, v4, v5, v6, v7, hvs⟩ := list8 h1.len
  obtain ⟨x0, x1, x2, x3, x4, x5, x6, x7, hus⟩ := list8 h2.len
  have H1 := hide h1
  have H2 := hide h2
  rw [hvs] at hf1
  rw [hus] at hf2
  obtain ⟨n0, a0, c0, rfl⟩ : ∃ n a c, v0 = .slice a n c := hf1 0 (by omega)
  obtain ⟨n1, a1, c1, rfl⟩ : ∃ n a c, v1 = .slice a n c := hf1 1 (by omega)
  obtain ⟨n2, a2, c2, rfl⟩ : ∃ n a c, v2 = .slice a n c := hf1 2 (by omega)
  obtain ⟨n3, a3, c3, rfl⟩ : ∃ n a c, v3 = .slice a n c := hf1 3 (by omega)
  obtain ⟨n4, a4, c4, rfl⟩ : ∃ n a c, v4 = .slice a n c := hf1 4 (by omega)
  obtain ⟨n5, a5, c5, rfl⟩ : ∃ n a c, v5 = .slice a n c := hf1 5 (by omega)
  obtain ⟨n6, a6, c6, rfl⟩ : ∃ n a c, v6 = .slice a n c := hf1 6 (by omega)
  obtain ⟨n7, a7, c7, rfl⟩ : ∃ n a c, v7 = .slice a n c := hf1 7 (by omega)
  obtain ⟨m0, b0, d0, rfl⟩ : ∃ n a c, x0 = .slice a n c := hf2 0 (by omega)
  obtain ⟨m1, b1, d1, rfl⟩ : ∃ n a c, x1 = .slice a n c := hf2 1 (by omega)
  obtain ⟨m2, b2, d2, rfl⟩ : ∃ n a c, x2 = .slice a n c := hf2 2 (by omega)
  obtain ⟨m3, b3, d3, rfl⟩ : ∃ n a c, x3 = .slice a n c := hf2 3 (by omega)
  obtain ⟨m4, b4, d4, rfl⟩ : ∃ n a c, x4 = .slice a n c := hf2 4 (by omega)
  obtain ⟨m5, b5, d5, rfl⟩ : ∃ n a c, x5 = .slice a n c := hf2 5 (by omega)
  obtain ⟨m6, b6, d6, rfl⟩ : ∃ n a c, x6 = .slice a n c := hf2 6 (by omega)
  obtain ⟨m7, b7, d7, rfl⟩ : ∃ n a c, x7 = .slice a n c := hf2 7 (by omega)
  have HVS := hide hvs
  have HUS := hide hus
  rw [hvs, hus]
  simp only [List.cons_append, List.nil_append]
  clear h1 h2 hvs hus hf1 hf2
  go_enter Tryd.func53, Tryd.ntmps53
  go_wp2_with fail
  obtain ⟨P, hP⟩ : ∃ P, P = w.heap.size := ⟨_, rfl⟩
  obtain ⟨W1, hW1⟩ : ∃ W1, W1 = w.alloc (.cells #[.slice a0 n0 c0, .slice a1 n1 c1, .slice a2 n2 c2, .slice a3 n3 c3, .slice a4 n4 c4, .slice a5 n5 c5, .slice a6 n6 c6, .slice a7 n7 c7, .string t0, .string t1] 57) := ⟨_, rfl⟩
  obtain ⟨W2, hW2⟩ : ∃ W2, W2 = W1.alloc (.cells #[.slice b0 m0 d0, .slice b1 m1 d1, .slice b2 m2 d2, .slice b3 m3 d3, .slice b4 m4 d4, .slice b5 m5 d5, .slice b6 m6 d6, .slice b7 m7 d7, .string t0, .string t1] 57) := ⟨_, rfl⟩
  rw [← hW1, ← hW2, ← hP]
  have hb1 : Below w.heap.size w W1 := by rw [hW1]; exact (Below.refl _ _).alloc (Nat.le_refl _) _
  have hb2 : Below W1.heap.size W1 W2 := by rw [hW2]; exact (Below.refl _ _).alloc (Nat.le_refl _) _
  have hs1 : W1.heap.size = P + 1 := by rw [hW1, hP]; simp
  have hB1 : Blk W1 P 57 (vs ++ [Value.string t0, Value.string t1]).toArray := by rw [hW1, hP, HVS.out]; exact Blk.new _ _ _
  have hB1' : Blk W2 P 57 (vs ++ [Value.string t0, Value.string t1]).toArray := hB1.below hb2 hB1.lt
  have hB2 : Blk W2 (P + 1) 57 (us ++ [Value.string t0, Value.string t1]).toArray := by rw [hW2, ← hs1, HUS.out]; exact Blk.new _ _ _
  have HB := hide (below_step hb1 hb2)
  have K1 := hide hB1'
  have K2 := hide hB2
  clear hW1 hW2 hP hb1 hb2 hs1 hB1 hB1' hB2
  go_loopw [5] (fun i wr => ∃ I : Nat, i = .int .i64 (I : Int) ∧ I ≤ 8 ∧ Below W2.heap.size W2 wr) (fun i _ => 8 - (intOf i).toNat)
  case atStart => exact ⟨0, rfl, by omega, Below.refl _ _⟩
  case round =>
    obtain ⟨I, rfl, hI, hb⟩ := hrel
    have HBB := hide hb
    have q1 := K1.out.below hb K1.out.lt
    have q2 := K2.out.below hb K2.out.lt
    by_cases hlt : I < 8
    · have d1 : decide ((I : Int) < 8) = true := by simp; omega
      have i1 : (I : Int) < 8 := by omega
      have i0 : (0 : Int) ≤ (I : Int) := by omega
      have hbw := below_step HB.out hb
      obtain ⟨a, n, c, ea, sa⟩ := (H1.out.below hbw).at_ I hlt
      obtain ⟨a', n', c', ea', sa'⟩ := (H2.out.below hbw).at_ I hlt
      have k1 : wr.cell? ⟨P, I, none⟩ = some (.slice a n c) := by
        rw [q1.cell, ← ea]; simp [List.getElem?_append, H1.out.len, hlt, List.getD]
      have k2 : wr.cell? ⟨P + 1, I, none⟩ = some (.slice a' n' c') := by
        rw [q2.cell, ← ea']; simp [List.getElem?_append, H2.out.len, hlt, List.getD]
      have he := equal_any (sa.below (⟨rfl, rfl, rfl, Nat.le_refl _, fun _ _ => rfl⟩ : Below wr.heap.size wr (wr.drewN 1))) (sa'.below (⟨rfl, rfl, rfl, Nat.le_refl _, fun _ _ => rfl⟩ : Below wr.heap.size wr (wr.drewN 1))) (H1.out.few I hlt)
      simp only [decide_true] at he
      have HE := hide he
      have p1 : P < wr.heap.size := q1.lt
      have p2 : P + 1 < wr.heap.size := q2.lt
      clear hb hbw q1 q2 ea ea' sa sa' he
      go_upto_region 4 with fail
      go_region_held3 (fun W => W.cell? ⟨P, I, none⟩ = some (.slice a n c) ∧ W.cell? ⟨P + 1, I, none⟩ = some (.slice a' n' c')) (go_keep) (first
        | (go_simp; go_at_call 98; refine HE.out.mono ?_; rintro e w6 ⟨rfl, hb6⟩; have e1 := (hb6.cell (p := ⟨P, I, none⟩) p1).trans k1; have e2 := (hb6.cell (p := ⟨P + 1, I, none⟩) p2).trans k2; have HB6 := hide hb6; clear hb6))
      all_goals
        clear e1 e2
        go_wp2_with fail
        refine ⟨⟨I + 1, by go_num, by omega, below_step HBB.out ⟨HB6.out.os, HB6.out.tape, HB6.out.output, HB6.out.size, HB6.out.block⟩⟩, by simp [intOf]; omega⟩
    · obtain rfl : I = 8 := by omega
      have d1 : decide ((8 : Int) < 8) = false := by simp
      rw [show ((8 : Nat) : Int) = 8 from rfl]
      have k1 : wr.cell? ⟨P, 8, none⟩ = some (.string t0) := by rw [q1.cell, HVS.out]; rfl
      have k2 : wr.cell? ⟨P, 9, none⟩ = some (.string t1) := by rw [q1.cell, HVS.out]; rfl
      have k3 : wr.cell? ⟨P + 1, 8, none⟩ = some (.string t0) := by rw [q2.cell, HUS.out]; rfl
      have k4 : wr.cell? ⟨P + 1, 9, none⟩ = some (.string t1) := by rw [q2.cell, HUS.out]; rfl
      clear hb q1 q2
      have he2 : ∀ W, (Op.equalIn 10000 55 (.agg #[.string t0, .string t1]) (.agg #[.string t0, .string t1])).run Tryd.prog W = .ok true W := eq_two t0 t1
      go_wp2_with fail
      go_ret
      exact ⟨rfl, below_step HB.out HBB.out⟩
/-- The image of the call's, outside the device. -/
structure IIn (wr : World) (m : Nat → Prop) (P : Nat) (vs : List Value) (Z : List (List ByteArray)) (t0 t1 : ByteArray) : Prop where
  box : Blk wr P 57 (vs ++ [Value.string t0, Value.string t1]).toArray
  out : ¬ m P
  img : ImgRead wr m vs Z
theorem IIn.moves {wr w' : World} {m m' : Nat → Prop} {P : Nat} {vs : List Value} {Z : List (List ByteArray)} {t0 t1 : ByteArray} (h : IIn wr m P vs Z t0 t1) (hm : Moves wr w' m m') : IIn w' m' P vs Z t0 t1 :=
  ⟨(hm.block P h.box.lt h.out).trans h.box, fun hc => (hm.sub _ hc).elim h.out (fun h4 => by have := h.box.lt; omega), h.img.moves hm⟩
theorem ImgRead.of_img {w : World} {base : Nat} {m : Nat → Prop} {vs : List Value} {Z : List (List ByteArray)} (h : ImgAt w base vs Z) (hz : Z.length = 8) (hm : ∀ k, m k → k < base) (hs : ∀ z, z < 8 → ∀ s, s ∈ Z.getD z [] → s.size ≤ 65536) : ImgRead w m vs Z :=
  ⟨h.len, hz, fun z hz => by
    obtain ⟨a, cap, e⟩ := ownsRow_slice (h.row z hz)
    have hr := h.row z hz
    rw [e] at hr
    refine ⟨a, _, cap, e, StrsAt.of_own hr rfl, fun x hx hp hc => ?_⟩
    subst hx
    have h1 := (hr.lt x.block rfl).1
    have h2 := hm _ hc
    omega, hs⟩
theorem ImgRead.zs {w : World} {m : Nat → Prop} {vs : List Value} {Z : List (List ByteArray)} (h : ImgRead w m vs Z) (hf : ∀ z, z < 8 → (Z.getD z []).length ≤ 65536) : ZsAt w vs Z :=
  ⟨h.len, fun z hz => by obtain ⟨a, n, c, h1, h2, _⟩ := h.at_ z hz; exact ⟨a, n, c, h1, h2⟩, hf⟩

theorem getD_lens (L : List (List ByteArray)) (z : Nat) : (L.map List.length).getD z 0 = (L.getD z []).length := by
  simp [List.getD]
  cases L[z]? <;> rfl
theorem syncD_L (D : Dv) : (syncD D).L = D.L := by unfold syncD; simp [burn_L]
theorem imageR_length (D : Dv) : (imageR D).length = 8 := by simp [imageR]
/-- Of what is sure nothing is cut. -/
theorem imageR_full {D : Dv} (hL : D.L.length = 8) (h : ∀ z, z < 8 → D.sure z = (D.zone z).length) : imageR D = D.L := by
  apply List.ext_getElem (by simp [imageR, hL])
  intro z h1 h2
  have hz : z < 8 := by omega
  have : D.zone z = D.L[z] := by simp [Dv.zone, List.getD, h2]
  simp [imageR, h z hz, this]
theorem imageR_sync {D : Dv} (hL : D.L.length = 8) : imageR (syncD D) = D.L := by
  rw [imageR_full (D := syncD D) (by rw [syncD_L]; exact hL) (fun z _ => ?_), syncD_L]
  show ((syncD D).S).getD z 0 = ((syncD D).L.getD z []).length
  rw [syncD_L]
  have : (syncD D).S = D.L.map List.length := rfl
  rw [this, getD_lens]
theorem NumsOut.grow {w w' : World} {m : Nat → Prop} {A : Option Addr} {ks : List Int} (h : NumsOut w (fun _ => False) A ks) (hb : Below w.heap.size w w') (hm : ∀ k, m k → w.heap.size ≤ k) : NumsOut w' m A ks := ⟨fun h0 => by
  obtain ⟨a, h1, h2, h3, h4⟩ := h.at_ h0
  refine ⟨a, h1, fun hc => by have := hm _ hc; omega, Nat.lt_of_lt_of_le h3 hb.size, fun i hi => ?_⟩
  rw [hb.cell (p := a.add i) (by rw [Go.ChangeShapes.block_add]; exact h3)]
  exact h4 i hi⟩
theorem StrsOut.grow {w w' : World} {m : Nat → Prop} {a : Option Addr} {n cap : Nat} {l : List ByteArray} (h : StrsAt w a n cap l) (hb : Below w.heap.size w w') (hm : ∀ k, m k → w.heap.size ≤ k) : StrsOut w' m a n cap l :=
  ⟨h.below hb, fun x hx hp hc => by have := hm _ hc; have := h.hlt x hx hp; omega⟩
theorem CellOut.grow {w w' : World} {m : Nat → Prop} {B : Nat} {v : Value} (h : w.cell? ⟨B, 0, none⟩ = some v) (hb : Below w.heap.size w w') (hm : ∀ k, m k → w.heap.size ≤ k) : CellOut w' m B v := by
  have hl : B < w.heap.size := block_lt_of_cell h
  exact ⟨(hb.cell (p := ⟨B, 0, none⟩) hl).trans h, fun hc => by have := hm _ hc; omega⟩
section
variable {w : World} {base b : Nat} {D : Dv} {m : Nat → Prop}
theorem imageG (h : Dev w base b D m) (hs : D.SureOk) {Z : List (List ByteArray)} {t0 t1 : ByteArray} (hZ : imageR D = Z) (hT : D.T = [t0, t1]) (hp : ∀ z, z < 8 → ∀ s, s ∈ Z.getD z [] → s.size ≤ 65536) :
    Calls Tryd.prog 45 #[.pointer (some ⟨b, 0, none⟩)] w fun e w' => ∃ vs, e = .returned (.agg (vs ++ [Value.string t0, Value.string t1]).toArray) ∧ ImgRead w' m vs Z ∧ Below w.heap.size w w' := by
  have h1 := image_any h hs
  rw [hZ, hT] at h1
  obtain ⟨_, _, h0⟩ := h
  refine h1.mono ?_
  rintro e w' ⟨vs, he, hi, hb⟩
  exact ⟨vs, he, ImgRead.of_img hi (by rw [← hZ]; exact imageR_length D) (fun k hk => (h0.lt k hk).2) hp, hb⟩
end
end Go.Proofs.YtmligbaalbbgiabDoor

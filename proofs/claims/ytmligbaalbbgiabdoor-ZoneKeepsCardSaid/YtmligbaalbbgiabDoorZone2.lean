/- zone.fill, slices.Clip of texts, the device's Append. Conditions: a device lies at the receiver; texts of at most 65536 bytes. -/
import Derived.Test.YtmligbaalbbgiabDoorProg
import Derived.Test.YtmligbaalbbgiabDoorZone1
import Derived.Deep.RegionLawGrows
import Derived.ChangeSlices
namespace Go.Proofs.YtmligbaalbbgiabDoor
open Go.RowKit

theorem info_u8z : (Tryd.prog.info? 5).map (fun i => (i.zero, i.size, i.bytes)) = some (some (.int .u8 0), 1, 1) := by kernel_rfl
theorem made_u8z (n : Nat) : (madeCells (Value.int .u8 0).cells n).toList = bytesV (List.replicate n 0) := by
  apply List.ext_getElem
  · simp [madeCells, bytesV]
  · intro i h1 h2
    simp [madeCells, bytesV, Value.cells, Nat.mod_one]

set_option maxRecDepth 100000 in
theorem fill_any (s : ByteArray) (n : Nat) (hs : s.size ≤ 65536) (hn : n ≤ 65536) (w : World) :
    Calls Tryd.prog 67 #[.string s, .int .i64 (n : Int)] w fun e w' => e = .returned (.string (padB s n)) ∧ Below w.heap.size w w' := by
  obtain ⟨i0, hi0, hz0, hz1, hz2⟩ := info_parts info_u8z
  obtain ⟨Z, hZ⟩ : ∃ Z, Z = ofl (List.replicate n 0) := ⟨_, rfl⟩
  have hzl : Z.size = n := by rw [hZ, ofl_size, List.length_replicate]
  have hz3 : n ≤ s.size + Z.size := by omega
  have hz4 : Z.size ≤ 65536 := by omega
  have HZ := hide hZ
  clear hZ hzl
  go_enter Tryd.func67, Tryd.ntmps67
  go_wp2_with (refine wpList_make_full _ rfl (.tmp 6) (.tmp 6) 111 rfl w.heap.size 5 i0 (.int .u8 0) 1 Tryd.underlying111 hi0 hz0 hz1 .i64 .i64 (n : Int) (n : Int) n rfl rfl rfl rfl (by rw [hz2]; omega) (by unfold maxLen; omega) (Nat.le_refl _) ?_; intro w2 hr2 hg2; rw [Nat.mul_one, made_u8z] at hr2; have hcv := run_string_own (P := Tryd.prog) (src := 111) (dst := 9) Tryd.underlying111 Tryd.underlying5 Tryd.underlying9 hr2; rw [← HZ.out] at hcv; have HB := hide ((Below.refl w.heap.size w).grown hg2 (Nat.le_refl _) (fun k hk => by cases hk)); clear hr2 hg2)
  go_ret
  refine ⟨?_, HB.out⟩
  show Ending.returned (Value.string ((s ++ Z).extract 0 n)) = _
  congr 2
  apply bl_inj
  rw [bl_extract, HZ.out]
  simp [padB, padL, bl, ofl]

theorem clip_any (a : Option Addr) (n cap : Nat) (ha : a = none → n = 0 ∧ cap = 0) (hc : n ≤ cap) (w : World) :
    Calls Tryd.prog 66 #[.slice a n cap] w fun e w' => e = .returned (.slice a n n) ∧ w' = w := by
  cases a with
  | none =>
    obtain ⟨rfl, rfl⟩ := ha rfl
    clear ha hc
    go_enter Tryd.func66, Tryd.ntmps66
    go_wp2_with fail
    go_ret
    exact ⟨rfl, rfl⟩
  | some x =>
    clear ha
    obtain ⟨g, off, fr⟩ := x
    go_enter Tryd.func66, Tryd.ntmps66
    go_wp2_with fail
    go_ret
    exact ⟨rfl, rfl⟩

theorem info_str : (Tryd.prog.info? 9).map (fun i => (i.zero, i.size, i.bytes)) = some (some (.string ⟨#[]⟩), 1, 16) := by kernel_rfl
theorem ownsRow_mono {w : World} {base base' : Nat} {e : TypeId} {size n : Nat} {v : Value} {xs : List Value} (h : w.ownsRow base e size v n xs) (hb : base' ≤ base) : w.ownsRow base' e size v n xs := by
  refine ⟨h.1, ?_⟩
  rcases h.2 with h2 | ⟨g, cap, cur, h3, h4, h5⟩
  · exact .inl h2
  · exact .inr ⟨g, cap, cur, h3, Nat.le_trans hb h4, h5⟩
theorem own_parts {w : World} {base : Nat} {e : TypeId} {a : Option Addr} {n cap k : Nat} {xs : List Value} (h : w.ownsRow base e 1 (.slice a n cap) k xs) :
    k = n ∧ n ≤ cap ∧ (a = none → n = 0 ∧ cap = 0) ∧ ∀ b, a = some b → b.block < w.heap.size ∧ ∀ j u, xs[j]? = some u → w.cell? (b.add j) = some u := by
  rcases h.2 with ⟨h1, h2⟩ | ⟨g, c, cur, h1, h2, h3, h4, h5, h6, h7⟩
  · injection h1 with e1 e2 e3
    subst e1 e2 e3 h2
    exact ⟨rfl, Nat.le_refl _, fun _ => ⟨rfl, rfl⟩, fun b hb => by cases hb⟩
  · injection h1 with e1 e2 e3
    subst e1 e2 e3
    refine ⟨rfl, h4, (fun h => (by cases h)), fun b hb => ?_⟩
    obtain rfl := Option.some.inj hb
    exact ⟨(Array.getElem?_eq_some_iff.1 h3).1, fun j u hj => h.cells rfl j u hj⟩

/-- What stands behind an append to a zone. -/
theorem append_end {w w1 w2 : World} {base b : Nat} {D : Dv} {m : Nat → Prop} {zs : List Value} {wv : Value} (h : DevAt w base b D m zs wv) (Z : Nat) (hZ : Z < 8) (hb : Below w.heap.size w w1) (o : Obj) (v : Value) (s : ByteArray)
    (hl : (D.zone Z).length < 16) (hown : w2.ownsRow (w1.alloc o).heap.size 9 1 v ((D.zone Z).length + 1) (strsV (D.zone Z) ++ [.string s])) (hg : (w1.alloc o).grownBy w2 none) :
    w2.cell? ⟨b, Z, none⟩ = some (zs.getD Z nilS) ∧ w2.frozen? ⟨b, Z, none⟩ = false ∧
    Dev (w2.setCell ⟨b, Z, none⟩ v) base b { D with L := D.L.set Z (D.zone Z ++ [s]) } (plus m w.heap.size w2.heap.size) ∧ Moves w (w2.setCell ⟨b, Z, none⟩ v) m (plus m w.heap.size w2.heap.size) := by
  have hba : Below w.heap.size w w2 := (hb.alloc hb.size o).grown hg (by have := hb.size; simp; omega) (fun k hk => by cases hk)
  have hk : ∀ k, k < w.heap.size → some k ≠ (zs.getD Z nilS).ownBlock → w2.heap[k]? = w.heap[k]? := fun k hk _ => hba.block k hk
  have hbl := h.blk.lt
  have hv : w2.ownsRow base 9 1 v (D.zone Z ++ [s]).length (strsV (D.zone Z ++ [s])) := by
    rw [strsV_append, List.length_append]
    exact ownsRow_mono hown (by have := (h.lt b h.own).1; have := hb.size; simp; omega)
  refine ⟨(hba.cell (p := ⟨b, Z, none⟩) hbl).trans (h.cellZ Z hZ), (hba.frozen (p := ⟨b, Z, none⟩) hbl).trans (h.blk.frozen Z), ⟨_, _, h.setZ Z hZ hba.size hk v _ (by simp; omega) hv (fun g hg' => .inr ?_)⟩, h.setZ_moves Z hZ hba.os hba.tape hba.output hba.size hk v⟩
  have := (hown.lt g hg').1
  have := hb.size
  simp at *
  omega

theorem cells_after {w w2 : World} {a : Option Addr} {xs : List Value} (h : ∀ b, a = some b → b.block < w.heap.size ∧ ∀ (j : Nat) (u : Value), xs[j]? = some u → w.cell? (b.add j) = some u) (hb : Below w.drew.heap.size w.drew w2) (o : Obj) :
    ∀ b, a = some b → ∀ (j : Nat) (u : Value), xs[j]? = some u → (w2.alloc o).cell? (b.add j) = some u := fun b hb' j u hj => by
  obtain ⟨h1, h2⟩ := h b hb'
  have hlt : (b.add j).block < w.heap.size := by rw [Go.ChangeShapes.block_add]; exact h1
  have h3 : Below w.heap.size w.drew (w2.alloc o) := hb.alloc hb.size o
  rw [h3.cell hlt]
  exact h2 j u hj

set_option maxRecDepth 100000 in
set_option maxHeartbeats 2000000 in
theorem append_good {w : World} {base b : Nat} {D : Dv} {m : Nat → Prop} (h : Dev w base b D m) (Z : Nat) (hZ : Z < 8) (s : ByteArray) (hs : s.size ≤ 128) (hl : (D.zone Z).length < 16) (hf : D.f ≠ 0) :
    Calls Tryd.prog 15 #[.pointer (some ⟨b, 0, none⟩), .int .i64 (Z : Int), .string s] w fun e w' => e = .returned (.tuple #[.int .i64 ((D.zone Z).length : Int), .nilIface]) ∧
      ∃ m', Dev w' base b { D.burn with L := D.L.set Z (D.zone Z ++ [padB s 128]) } m' ∧ Moves w w' m m' := by
  obtain ⟨i0, hi0, hz0, hz1, hz2⟩ := info_parts info_str
  have c2 : decide ((8 : Int) ≤ (Z : Int)) = false := by simp; omega
  have c3 : decide (128 < s.size) = false := by simp; omega
  have c3' : decide ((128 : Int) < (s.size : Int)) = false := by simp; omega
  have d0 : (!decide (D.f = 0)) = true := by simp [hf]
  obtain ⟨n, hn⟩ : ∃ n, n = (D.zone Z).length := ⟨_, rfl⟩
  have c4 : ((n : Int) == 16) = false := by simp; omega
  have H := hide h
  have HN := hide hn
  have HL := hide hl
  have HS : Hid (s.size ≤ 65536) := hide (by omega)
  obtain ⟨zs, wv, h0⟩ := h
  obtain ⟨a0, cap0, hf0⟩ := h0.form Z hZ
  have k0 := h0.cellZ Z hZ
  rw [hf0, ← hn] at k0
  obtain ⟨S, hS⟩ : ∃ S, S = padB s 128 := ⟨_, rfl⟩
  have HSd := hide hS
  rw [← hn]
  clear h0 hf0 hf hl hs hn hS
  go_enter Tryd.func15, Tryd.ntmps15
  go_upto_region 9 with (go_at_call 65; refine (burn_any H.out).mono ?_; rintro e w1 ⟨rfl, h1, hm1⟩; rw [d0]; have H1 := hide h1; have HM1 := hide hm1; clear h1 hm1)
  clear k0
  obtain ⟨zs1, wv1, h1⟩ := H1.out
  obtain ⟨B, hB⟩ : ∃ B, B = D.burn := ⟨_, rfl⟩
  rw [← hB] at h1
  obtain ⟨a1, cap1, hf1⟩ := h1.form Z hZ
  have hr1 := h1.rows.row Z hZ
  rw [hf1] at hr1
  have k1 := h1.cellZ Z hZ
  have hn1 : n = (B.zone Z).length := by rw [HN.out, hB, burn_zone]
  rw [hf1, ← hn1] at k1
  have hr1' : w1.ownsRow base 9 1 (.slice a1 n cap1) n (strsV (B.zone Z)) := by rw [hn1]; exact hr1
  obtain ⟨_, p1, p2, p3⟩ := own_parts hr1'
  have hlz : (B.zone Z).length < 16 := by rw [← hn1, HN.out]; exact HL.out
  have kb := h1.blk.lt
  have HW1 := hide h1
  have HZ := hide hZ
  have HB := hide hB
  have HR := hide hr1'
  have HC := hide (fun W => clip_any a1 n cap1 p2 p1 W)
  have HN1 := hide hn1
  have HLZ := hide hlz
  have HP2 := hide p2
  have HP3 := hide p3
  have iz1 : (Z : Int) < 8 := by omega
  have iz2 : (0 : Int) ≤ (Z : Int) := by omega
  clear h1 hf1 hr1 hn1 hr1' hlz hB p1 p2 p3
  go_region_law (first
    | (go_simp; go_at_call 66; refine (HC.out _).mono ?_; rintro e w2 ⟨rfl, rfl⟩)
    | (go_simp; go_at_call 67; refine (fill_any s 128 HS.out (by omega) _).mono ?_; rintro e w2 ⟨rfl, hb2⟩; rw [← HSd.out]; have HB2 := hide hb2; clear hb2)
    | (refine step_append_grows (by rfl) _ _ _ (by rfl) 9 i0 _ 1 16 Tryd.underlying22 hi0 hz0 hz1 hz2 rfl (by omega) a1 n n (strsV (B.zone Z)) (by rfl) (fun h => ⟨(HP2.out h).1, (HP2.out h).1⟩) (by rw [strsV_length, ← HN1.out, Nat.mul_one]) (cells_after HP3.out HB2.out _) ⟨w2.heap.size, 0, none⟩ 1 1 [.string S] (by rfl) (by rfl) (World.news_of_block (fr := (0, 0)) (heap_alloc_new w2 _)) (by simp [Value.oneCell']) (by omega) (by unfold maxLen; have := HLZ.out; have := HN1.out; omega) (by have := HLZ.out; have := HN1.out; omega) ?_; intro v' w3 hown3 hgrow3; rw [HN1.out] at hown3; obtain ⟨g', cap', rfl, hg1, hg2⟩ := World.ownsRow.form hown3 (Nat.succ_pos _); clear hg1 hg2; obtain ⟨e1, e2, e3, e4⟩ := append_end (HW1.out.drewN 1) Z hZ HB2.out _ _ S HLZ.out hown3 hgrow3; have E3 := hide e3; have E4 := hide e4; clear e3 e4 hown3 hgrow3))
  have hsame := World.cell?_setCell_same w3 ⟨b, Z, none⟩ (.slice (some ⟨g', 0, none⟩) ((B.zone Z).length + 1) cap') e1
  rw [HB.out, burn_zone, burn_L, HSd.out] at E3
  have E5 := hide (HM1.out.trans (Moves.ofDrewN E4.out))
  obtain ⟨w4, hw4⟩ : ∃ w4, w4 = w3.setCell ⟨b, Z, none⟩ (.slice (some ⟨g', 0, none⟩) ((B.zone Z).length + 1) cap') := ⟨_, rfl⟩
  rw [HB.out, burn_zone] at hw4
  rw [← hw4] at E3
  rw [HB.out, burn_zone, ← hw4, ← HN.out] at hsame
  rw [HB.out, burn_zone, ← hw4] at E5
  rw [HB.out, burn_zone, ← hw4]
  have hq : wrap64 (n : Int) = (n : Int) := by have := HL.out; have := HN.out; simp only [wrap64]; omega
  clear hw4 E4 HW1 k1 e1 e2 HB2 HP3 HP2 HC HR kb
  go_wp2_with fail
  go_ret2
  exact ⟨rfl, _, E3, E5.out⟩

set_option maxRecDepth 100000 in
theorem append_any {w : World} {base b : Nat} {D : Dv} {m : Nat → Prop} (h : Dev w base b D m) (z : Int) (s : ByteArray) :
    Calls Tryd.prog 15 #[.pointer (some ⟨b, 0, none⟩), .int .i64 z, .string s] w fun e w' => e = .returned (.tuple #[.int .i64 (appendR D z s).2.1, errZ (appendR D z s).2.2]) ∧
      ∃ m', Dev w' base b (appendR D z s).1 m' ∧ Moves w w' m m' := by
  rcases range_cases z with h1 | ⟨h1, h2⟩ | ⟨Z, rfl, hZ⟩
  · have c1 : decide (z < 0) = true := by simpa using h1
    have e : appendR D z s = (D, 0, 2) := by unfold appendR; rw [if_pos (.inl h1)]
    rw [e]
    have H := hide h
    clear h e
    go_enter Tryd.func15, Tryd.ntmps15
    go_wp2_with fail
    go_ret2
    exact ⟨rfl, m, H.out, Moves.refl _ _⟩
  · have c1 : decide (z < 0) = false := by simpa using h1
    have c2 : decide (8 ≤ z) = true := by simpa using h2
    have e : appendR D z s = (D, 0, 2) := by unfold appendR; rw [if_pos (.inr h2)]
    rw [e]
    have H := hide h
    clear h e
    go_enter Tryd.func15, Tryd.ntmps15
    go_wp2_with fail
    go_ret2
    exact ⟨rfl, m, H.out, Moves.refl _ _⟩
  · have c2 : decide ((8 : Int) ≤ (Z : Int)) = false := by simp; omega
    by_cases hs : 128 < s.size
    · have c3 : decide ((128 : Int) < (s.size : Int)) = true := by simp; omega
      have c3' : decide (128 < s.size) = true := by simpa using hs
      have e : appendR D (Z : Int) s = (D, 0, 4) := by unfold appendR; rw [if_neg (by omega), if_pos hs]
      rw [e]
      have H := hide h
      clear h e
      go_enter Tryd.func15, Tryd.ntmps15
      go_wp2_with fail
      go_ret2
      exact ⟨rfl, m, H.out, Moves.refl _ _⟩
    · have c3 : decide ((128 : Int) < (s.size : Int)) = false := by simp; omega
      have c3' : decide (128 < s.size) = false := by simpa using hs
      by_cases hl : (D.zone Z).length = 16
      · have e : appendR D (Z : Int) s = (D, 0, 12) := by unfold appendR; rw [if_neg (by omega), if_neg hs, if_pos (by simpa using hl)]
        rw [e]
        have H := hide h
        obtain ⟨zs, wv, h0⟩ := h
        obtain ⟨a0, cap0, hf0⟩ := h0.form Z hZ
        have k0 := h0.cellZ Z hZ
        rw [hf0, hl] at k0
        clear h0 e hf0 hl hs
        go_enter Tryd.func15, Tryd.ntmps15
        go_wp2_with fail
        go_ret2
        exact ⟨rfl, m, H.out, Moves.refl _ _⟩
      · by_cases hf : D.f = 0
        · have e : appendR D (Z : Int) s = (D, 0, 14) := by unfold appendR; rw [if_neg (by omega), if_neg hs, if_neg (by simpa using hl), if_pos hf]
          have eb : D.burn = D := by unfold Dv.burn; rw [if_neg (by omega)]
          have d0 : (!decide (D.f = 0)) = false := by simp [hf]
          rw [e]
          have H := hide h
          have EB := hide eb
          obtain ⟨n, hn⟩ : ∃ n, n = (D.zone Z).length := ⟨_, rfl⟩
          have c4 : ((n : Int) == 16) = false := by simp; omega
          have c4' : (n == 16) = false := by simp; omega
          obtain ⟨zs, wv, h0⟩ := h
          obtain ⟨a0, cap0, hf0⟩ := h0.form Z hZ
          have k0 := h0.cellZ Z hZ
          rw [hf0, ← hn] at k0
          clear h0 e hf0 hl hs hf eb hn
          go_enter Tryd.func15, Tryd.ntmps15
          go_wp2_with (go_at_call 65; refine (burn_any H.out).mono ?_; rintro e w1 ⟨rfl, h1, hm1⟩; rw [d0]; have H1 := hide h1; have HM1 := hide hm1; clear h1 hm1)
          go_ret2
          exact ⟨rfl, m, EB.out ▸ H1.out, HM1.out⟩
        · have e : appendR D (Z : Int) s = ({ D.burn with L := D.L.set Z (D.zone Z ++ [padB s 128]) }, ((D.zone Z).length : Int), 0) := by
            unfold appendR; rw [if_neg (by omega), if_neg hs, if_neg (by simpa using hl), if_neg hf]; simp
          rw [e]
          have h16 : (D.zone Z).length ≤ 16 := by obtain ⟨zs, wv, h0⟩ := h; exact h0.ok.cap Z
          exact append_good h Z hZ s (by omega) (by omega) hf

theorem info_write : (Tryd.prog.info? 136).map (fun i => (i.zero, i.size, i.bytes)) = some (some (.agg #[.int .i64 0, .string ⟨#[]⟩]), 2, 24) := by kernel_rfl

theorem wait_after {w w2 : World} {base b : Nat} {D : Dv} {m : Nat → Prop} {zs : List Value} {wv : Value} (h : DevAt w base b D m zs wv) (hb : Below w.drew.heap.size w.drew w2) (o : Obj) :
    (w2.alloc o).ownsRow base 136 2 wv D.q.length (writesV D.q) := by
  have h3 : Below w.heap.size w.drew (w2.alloc o) := hb.alloc hb.size o
  exact ownsRow_same h.wait (fun g hg => h3.block g (h.lt g (h.waitOwn g hg)).2)
/-- What stands behind a write of a slot. -/
theorem put_end {w w1 w2 : World} {base b : Nat} {D : Dv} {m : Nat → Prop} {zs : List Value} {wv : Value} (h : DevAt w base b D m zs wv) (hb : Below w.heap.size w w1) (o : Obj) (g cap k : Nat) (hk : k < 2) (s : ByteArray)
    (hown : w2.ownsRow base 136 2 (.slice (some ⟨g, 0, none⟩) (D.q.length + 1) cap) (D.q.length + 1) (writesV D.q ++ [natV k, .string s])) (hg : (w1.alloc o).grownBy w2 wv.ownBlock) (hat : wv.ownBlock = some g ∨ g = w1.heap.size + 1) :
    w2.cell? ⟨b, 18, none⟩ = some wv ∧ w2.frozen? ⟨b, 18, none⟩ = false ∧
    Dev (w2.setCell ⟨b, 18, none⟩ (.slice (some ⟨g, 0, none⟩) (D.q.length + 1) cap)) base b { D with q := D.q ++ [(k, s)] } (plus m w.heap.size w2.heap.size) ∧ Moves w (w2.setCell ⟨b, 18, none⟩ (.slice (some ⟨g, 0, none⟩) (D.q.length + 1) cap)) m (plus m w.heap.size w2.heap.size) := by
  have hb1 : Below w.heap.size w (w1.alloc o) := hb.alloc hb.size o
  have hsz : w.heap.size ≤ w2.heap.size := Nat.le_trans hb1.size hg.size
  have hkk : ∀ k, k < w.heap.size → some k ≠ wv.ownBlock → w2.heap[k]? = w.heap[k]? := fun k hk hne => (hg.block k (Nat.lt_of_lt_of_le hk hb1.size) hne).trans (hb1.block k hk)
  have hbl := h.blk.lt
  have hbb : w2.heap[b]? = w.heap[b]? := hkk b hbl (fun he => h.neWait he.symm)
  have hv : w2.ownsRow base 136 2 (.slice (some ⟨g, 0, none⟩) (D.q.length + 1) cap) (D.q ++ [(k, s)]).length (writesV (D.q ++ [(k, s)])) := by
    rw [writesV_append, List.length_append]
    exact hown
  have hq : ∀ p ∈ D.q ++ [(k, s)], p.1 < 2 := by
    intro p hp
    rcases List.mem_append.1 hp with hp | hp
    · exact h.ok.q p hp
    · rw [List.mem_singleton.1 hp]; exact hk
  have hgg : ∀ g', (Value.slice (some ⟨g, 0, none⟩) (D.q.length + 1) cap).ownBlock = some g' → wv.ownBlock = some g' ∨ w.heap.size ≤ g' := by
    intro g' hg'
    have e : g = g' := by simpa [Value.ownBlock] using hg'
    subst e
    rcases hat with h1 | h1
    · exact .inl h1
    · exact .inr (by have := hb.size; omega)
  refine ⟨(World.cell?_of_block (w := w) (w' := w2) (a := ⟨b, 18, none⟩) hbb).trans h.cellW, (World.frozen?_of_block (w := w) (w' := w2) (a := ⟨b, 18, none⟩) hbb).trans (h.blk.frozen 18),
    ⟨_, _, h.setW hsz hkk _ _ hq hv hgg⟩, h.setW_moves (hg.os.trans hb1.os) (hg.tape.trans hb1.tape) (hg.output.trans hb1.output) hsz hkk _⟩

set_option maxRecDepth 100000 in
set_option maxHeartbeats 2000000 in
theorem put_good {w : World} {base b : Nat} {D : Dv} {m : Nat → Prop} (h : Dev w base b D m) (k : Nat) (hk : k < 2) (s : ByteArray) (hs : s.size ≤ 500) (hf : D.f ≠ 0) (hl : D.q.length ≤ 65536) :
    Calls Tryd.prog 34 #[.pointer (some ⟨b, 0, none⟩), .int .i64 (k : Int), .string s] w fun e w' => e = .returned .nilIface ∧
      ∃ m', Dev w' base b { D.burn with q := D.q ++ [(k, padB s 500)] } m' ∧ Moves w w' m m' := by
  obtain ⟨i0, hi0, hz0, hz1, hz2⟩ := info_parts info_write
  have c1 : decide ((k : Int) < 0) = false := by simp
  have c2 : decide ((1 : Int) < (k : Int)) = false := by simp; omega
  have c2' : decide (1 < k) = false := by simp; omega
  have c3 : decide (500 < s.size) = false := by simp; omega
  have c3' : decide ((500 : Int) < (s.size : Int)) = false := by simp; omega
  have d0 : (!decide (D.f = 0)) = true := by simp [hf]
  have H := hide h
  have HK := hide hk
  have HL := hide hl
  have HS : Hid (s.size ≤ 65536) := hide (by omega)
  obtain ⟨S, hS⟩ : ∃ S, S = padB s 500 := ⟨_, rfl⟩
  have HSd := hide hS
  clear h hf hl hs hS hk
  go_enter Tryd.func34, Tryd.ntmps34
  go_upto_region 7 with (go_at_call 65; refine (burn_any H.out).mono ?_; rintro e w1 ⟨rfl, h1, hm1⟩; rw [d0]; have H1 := hide h1; have HM1 := hide hm1; clear h1 hm1)
  obtain ⟨zs1, wv1, h1⟩ := H1.out
  obtain ⟨B, hB⟩ : ∃ B, B = D.burn := ⟨_, rfl⟩
  rw [← hB] at h1
  have kw := h1.cellW
  have kb := h1.blk.lt
  have HW1 := hide h1
  have HB := hide hB
  have HLB : Hid (B.q.length ≤ 65536) := hide (by rw [hB, burn_q]; exact HL.out)
  have HBS : Hid (base ≤ w1.heap.size) := hide (by have := (h1.lt b h1.own).1; omega)
  clear h1 hB
  go_region_law (first
    | (go_simp; go_at_call 67; refine (fill_any s 500 HS.out (by omega) _).mono ?_; rintro e w2 ⟨rfl, hb2⟩; rw [← HSd.out]; have HB2 := hide hb2; have kw2 : w2.cell? ⟨b, 18, none⟩ = some wv1 := (hb2.cell (p := ⟨b, 18, none⟩) kb).trans kw; have kb2 : b < w2.heap.size := Nat.lt_of_lt_of_le kb hb2.size; clear hb2)
    | (refine step_append_lies _ (by rfl) _ _ _ (by rfl) base 136 i0 _ 2 24 Tryd.underlying100 hi0 hz0 hz1 hz2 rfl (by omega) wv1 B.q.length (writesV B.q) (by rfl) (wait_after HW1.out HB2.out _) ⟨w2.heap.size, 0, none⟩ 1 1 [natV k, .string S] (by rfl) (by rfl) (World.news_of_block (fr := (0, 0)) (heap_alloc_new w2 _)) (by simp [Value.oneCell', natV]) (by omega) (by unfold maxLen; have := HLB.out; omega) (by have := HLB.out; omega) (by have := HB2.out.size; have := HBS.out; simp at *; omega) (w2.heap.size + 1) (by simp) ?_; intro gg cap w3 hown3 hgrow3 hat3 hlt3; obtain ⟨e1, e2, e3, e4⟩ := put_end (HW1.out.drewN 1) HB2.out _ gg cap k HK.out S hown3 hgrow3 hat3; have E3 := hide e3; have E4 := hide e4; clear e3 e4 hown3 hgrow3 hat3 hlt3))
  all_goals
    rw [HB.out, burn_q, HSd.out] at E3
    have E5 := hide (HM1.out.trans (Moves.ofDrewN E4.out))
    clear E4 HW1 e1 e2 HB2
    go_wp2_with fail
    go_ret
    rw [HB.out, burn_q] at E5
    rw [HB.out, burn_q]
    exact ⟨rfl, _, E3.out, E5.out⟩

set_option maxRecDepth 100000 in
theorem put_any {w : World} {base b : Nat} {D : Dv} {m : Nat → Prop} (h : Dev w base b D m) (k : Int) (s : ByteArray) (hl : D.q.length ≤ 65536) :
    Calls Tryd.prog 34 #[.pointer (some ⟨b, 0, none⟩), .int .i64 k, .string s] w fun e w' => e = .returned (errZ (putR D k s).2) ∧
      ∃ m', Dev w' base b (putR D k s).1 m' ∧ Moves w w' m m' := by
  by_cases h1 : k < 0
  · have c1 : decide (k < 0) = true := by simpa using h1
    have e : putR D k s = (D, 2) := by unfold putR; rw [if_pos (.inl h1)]
    rw [e]
    have H := hide h
    clear h e
    go_enter Tryd.func34, Tryd.ntmps34
    go_wp2_with fail
    go_ret
    exact ⟨rfl, m, H.out, Moves.refl _ _⟩
  · have c1 : decide (k < 0) = false := by simpa using h1
    by_cases h2 : 1 < k
    · have c2 : decide (1 < k) = true := by simpa using h2
      have e : putR D k s = (D, 2) := by unfold putR; rw [if_pos (.inr h2)]
      rw [e]
      have H := hide h
      clear h e
      go_enter Tryd.func34, Tryd.ntmps34
      go_wp2_with fail
      go_ret
      exact ⟨rfl, m, H.out, Moves.refl _ _⟩
    · have c2 : decide (1 < k) = false := by simpa using h2
      by_cases hs : 500 < s.size
      · have c3 : decide ((500 : Int) < (s.size : Int)) = true := by simp; omega
        have c3' : decide (500 < s.size) = true := by simpa using hs
        have e : putR D k s = (D, 4) := by unfold putR; rw [if_neg (by omega), if_pos hs]
        rw [e]
        have H := hide h
        clear h e
        go_enter Tryd.func34, Tryd.ntmps34
        go_wp2_with fail
        go_ret
        exact ⟨rfl, m, H.out, Moves.refl _ _⟩
      · have c3 : decide ((500 : Int) < (s.size : Int)) = false := by simp; omega
        have c3' : decide (500 < s.size) = false := by simpa using hs
        by_cases hf : D.f = 0
        · have e : putR D k s = (D, 14) := by unfold putR; rw [if_neg (by omega), if_neg hs, if_pos hf]
          have eb : D.burn = D := by unfold Dv.burn; rw [if_neg (by omega)]
          have d0 : (!decide (D.f = 0)) = false := by simp [hf]
          rw [e]
          have H := hide h
          have EB := hide eb
          clear h e hs hf eb
          go_enter Tryd.func34, Tryd.ntmps34
          go_wp2_with (go_at_call 65; refine (burn_any H.out).mono ?_; rintro e w1 ⟨rfl, h1, hm1⟩; rw [d0]; have H1 := hide h1; have HM1 := hide hm1; clear h1 hm1)
          go_ret
          exact ⟨rfl, m, EB.out ▸ H1.out, HM1.out⟩
        · obtain ⟨K, rfl⟩ := Int.eq_ofNat_of_zero_le (show 0 ≤ k by omega)
          have e : putR D (K : Int) s = ({ D.burn with q := D.q ++ [(K, padB s 500)] }, 0) := by
            unfold putR; rw [if_neg (by omega), if_neg hs, if_neg hf]; simp
          rw [e]
          exact put_good h K (by omega) s (by omega) hf hl
end Go.Proofs.YtmligbaalbbgiabDoor

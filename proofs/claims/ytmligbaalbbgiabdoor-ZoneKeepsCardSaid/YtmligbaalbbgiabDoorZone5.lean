/- The device's Lay, and New. Conditions: a device lies at the receiver; texts of at most 65536 bytes; the image can be read, and does not lie in the device. -/
import Derived.Test.YtmligbaalbbgiabDoorProg
import Derived.Test.YtmligbaalbbgiabDoorZone4
namespace Go.Proofs.YtmligbaalbbgiabDoor
open Go.RowKit

theorem StrsAt.moves {w w' : World} {a : Option Addr} {n cap : Nat} {l : List ByteArray} {m m' : Nat → Prop} (h : StrsAt w a n cap l) (ha : ∀ x, a = some x → 0 < l.length → ¬ m x.block) (hm : Moves w w' m m') : StrsAt w' a n cap l :=
  ⟨h.hn, h.hc, h.hz, fun b e hp => Nat.lt_of_lt_of_le (h.hlt b e hp) hm.size, fun b e i hi => by
    have hp : 0 < l.length := Nat.lt_of_le_of_lt (Nat.zero_le _) hi
    rw [World.cell?_of_block (w := w) (w' := w') (a := b.add i) (by rw [Go.ChangeShapes.block_add]; exact hm.block _ (h.hlt b e hp) (ha b e hp))]
    exact h.hcell b e i hi⟩
/-- An image that can be read, outside the device. -/
structure ImgRead (w : World) (m : Nat → Prop) (vs : List Value) (Z : List (List ByteArray)) : Prop where
  len : vs.length = 8
  zlen : Z.length = 8
  at_ : ∀ z, z < 8 → ∃ a n cap, vs.getD z nilS = .slice a n cap ∧ StrsAt w a n cap (Z.getD z []) ∧ ∀ x, a = some x → 0 < (Z.getD z []).length → ¬ m x.block
  small : ∀ z, z < 8 → ∀ s, s ∈ Z.getD z [] → s.size ≤ 65536
theorem ImgRead.moves {w w' : World} {m m' : Nat → Prop} {vs : List Value} {Z : List (List ByteArray)} (h : ImgRead w m vs Z) (hm : Moves w w' m m') : ImgRead w' m' vs Z := by
  refine ⟨h.len, h.zlen, fun z hz => ?_, h.small⟩
  obtain ⟨a, n, cap, h1, h2, h3⟩ := h.at_ z hz
  exact ⟨a, n, cap, h1, h2.moves h3 hm, fun x hx hp hc => (hm.sub _ hc).elim (h3 x hx hp) (fun h4 => by have := h2.hlt x hx hp; omega)⟩
def layL (Z : List (List ByteArray)) : List (List ByteArray) := Z.map fun l => (l.take 16).map fun s => padB s 128
theorem layL_length (Z : List (List ByteArray)) : (layL Z).length = Z.length := by simp [layL]
theorem layL_at (Z : List (List ByteArray)) (z : Nat) (hz : z < Z.length) : (layL Z).getD z [] = ((Z.getD z []).take 16).map fun s => padB s 128 := by simp [layL, List.getD, hz]

theorem DevAt.dev {w : World} {base b : Nat} {D : Dv} {m : Nat → Prop} {zs : List Value} {wv : Value} (h : DevAt w base b D m zs wv) : Dev w base b D m := ⟨_, _, h⟩
/-- What stands behind an append in Lay. -/
theorem lay_end {w w1 w2 : World} {base b : Nat} {D : Dv} {m : Nat → Prop} {zs : List Value} {wv : Value} (h : DevAt w base b D m zs wv) (Z : Nat) (hZ : Z < 8) (hb : Below w.heap.size w w1) (o : Obj) (g cap : Nat) (s : ByteArray)
    (hl : (D.zone Z).length < 16) (hown : w2.ownsRow base 9 1 (.slice (some ⟨g, 0, none⟩) ((D.zone Z).length + 1) cap) ((D.zone Z).length + 1) (strsV (D.zone Z) ++ [.string s])) (hg : (w1.alloc o).grownBy w2 (zs.getD Z nilS).ownBlock)
    (hat : (zs.getD Z nilS).ownBlock = some g ∨ g = w1.heap.size + 1) :
    w2.cell? ⟨b, Z, none⟩ = some (zs.getD Z nilS) ∧ w2.frozen? ⟨b, Z, none⟩ = false ∧
    Dev (w2.setCell ⟨b, Z, none⟩ (.slice (some ⟨g, 0, none⟩) ((D.zone Z).length + 1) cap)) base b { D with L := D.L.set Z (D.zone Z ++ [s]) } (plus m w.heap.size w2.heap.size) ∧
    Moves w (w2.setCell ⟨b, Z, none⟩ (.slice (some ⟨g, 0, none⟩) ((D.zone Z).length + 1) cap)) m (plus m w.heap.size w2.heap.size) := by
  have hb1 : Below w.heap.size w (w1.alloc o) := hb.alloc hb.size o
  have hsz : w.heap.size ≤ w2.heap.size := Nat.le_trans hb1.size hg.size
  have hkk : ∀ k, k < w.heap.size → some k ≠ (zs.getD Z nilS).ownBlock → w2.heap[k]? = w.heap[k]? := fun k hk hne => (hg.block k (Nat.lt_of_lt_of_le hk hb1.size) hne).trans (hb1.block k hk)
  have hbb : w2.heap[b]? = w.heap[b]? := hkk b h.blk.lt (fun he => h.neZone Z hZ he.symm)
  have hv : w2.ownsRow base 9 1 (.slice (some ⟨g, 0, none⟩) ((D.zone Z).length + 1) cap) (D.zone Z ++ [s]).length (strsV (D.zone Z ++ [s])) := by
    rw [strsV_append, List.length_append]
    exact hown
  have hgg : ∀ g', (Value.slice (some ⟨g, 0, none⟩) ((D.zone Z).length + 1) cap).ownBlock = some g' → (zs.getD Z nilS).ownBlock = some g' ∨ w.heap.size ≤ g' := by
    intro g' hg'
    have e : g = g' := by simpa [Value.ownBlock] using hg'
    subst e
    rcases hat with h1 | h1
    · exact .inl h1
    · exact .inr (by have := hb.size; omega)
  exact ⟨(World.cell?_of_block (w := w) (w' := w2) (a := ⟨b, Z, none⟩) hbb).trans (h.cellZ Z hZ), (World.frozen?_of_block (w := w) (w' := w2) (a := ⟨b, Z, none⟩) hbb).trans (h.blk.frozen Z),
    ⟨_, _, h.setZ Z hZ hsz hkk _ _ (by simp; omega) hv hgg⟩, h.setZ_moves Z hZ (hg.os.trans hb1.os) (hg.tape.trans hb1.tape) (hg.output.trans hb1.output) hsz hkk _⟩
theorem zone_after {w w2 : World} {base b : Nat} {D : Dv} {m : Nat → Prop} {zs : List Value} {wv : Value} (h : DevAt w base b D m zs wv) (Z : Nat) (hZ : Z < 8) (hb : Below w.drew.heap.size w.drew w2) (o : Obj) :
    (w2.alloc o).ownsRow base 9 1 (zs.getD Z nilS) (D.zone Z).length (strsV (D.zone Z)) := by
  have h3 : Below w.heap.size w.drew (w2.alloc o) := hb.alloc hb.size o
  exact ownsRow_same (h.rows.row Z hZ) (fun g hg => h3.block g (h.lt g (h.rows.own Z hZ g hg)).2)
/-- Two texts, by value, indexed. -/
theorem run_index_strs {P : Program} (t e : TypeId) (n : Nat) (cs : List ByteArray) (hl : cs.length = n) (h : P.underlying t = some (.array n e)) (he : P.underlying e = some .string) (hsz : (P.info? e).map (·.size) = some 1)
    (i : Nat) (hi : i < n) (w : World) : (Instr.index t (.agg (cs.map Value.string).toArray) (.int .i64 (i : Int))).run P w = .ok (.string (cs.getD i ⟨#[]⟩)) w := by
  obtain ⟨j, hj, hj1⟩ := Option.map_eq_some_iff.1 hsz
  have hw : cs[i]? = some (cs[i]'(by omega)) := List.getElem?_eq_getElem (by omega)
  simp [Instr.index, asIntOf, run_underlying h, hi, sizeOf, typeInfo, hj, hj1, part, isAgg, run_underlying he, hw]

/-- The device, some zones laid. -/
def layAt (D : Dv) (Z : List (List ByteArray)) (I : Nat) : Dv := { D with L := mixL (layL Z) D.L I, S := mixL ((layL Z).map List.length) D.S I }
/-- .. and a beginning of the next one. -/
def layIn (D : Dv) (Z : List (List ByteArray)) (I k : Nat) : Dv := { layAt D Z I with L := (mixL (layL Z) D.L I).set I (((Z.getD I []).take k).map fun s => padB s 128) }

theorem mixL_stepG {α : Type} (X Y : List α) (I : Nat) (d : α) (hXY : X.length = Y.length) (hI : I < X.length) : (mixL X Y I).set I (X.getD I d) = mixL X Y (I + 1) := by
  unfold mixL
  have h1 : (X.take I).length = I := by simp; omega
  rw [List.set_append, if_neg (by omega), h1, Nat.sub_self, List.drop_eq_getElem_cons (show I < Y.length by omega), List.set_cons_zero,
    List.take_succ_eq_append_getElem hI, List.append_assoc]
  simp [List.getD, hI]
theorem mixL_length {α : Type} (X Y : List α) (I : Nat) (hXY : X.length = Y.length) : (mixL X Y I).length = Y.length := by
  simp [mixL]; omega
theorem layIn_zero (D : Dv) (Z : List (List ByteArray)) (I : Nat) : { layAt D Z I with L := (layAt D Z I).L.set I [] } = layIn D Z I 0 := by simp [layIn, layAt]
theorem layIn_zone (D : Dv) (Z : List (List ByteArray)) (I k : Nat) (hZ : Z.length = 8) (hL : D.L.length = 8) (hI : I < 8) : (layIn D Z I k).zone I = ((Z.getD I []).take k).map fun s => padB s 128 := by
  show ((mixL (layL Z) D.L I).set I _).getD I [] = _
  rw [getD_set _ _ _ _ _ (by rw [mixL_length _ _ _ (by rw [layL_length]; omega)]; omega), if_pos rfl]
theorem layIn_step (D : Dv) (Z : List (List ByteArray)) (I k : Nat) (hZ : Z.length = 8) (hL : D.L.length = 8) (hI : I < 8) (hk : k < (Z.getD I []).length) :
    { layIn D Z I k with L := (layIn D Z I k).L.set I ((layIn D Z I k).zone I ++ [padB ((Z.getD I []).getD k ⟨#[]⟩) 128]) } = layIn D Z I (k + 1) := by
  rw [layIn_zone D Z I k hZ hL hI]
  unfold layIn
  rw [List.set_set, List.take_succ_eq_append_getElem hk, List.map_append, List.map_cons, List.map_nil,
    show (Z.getD I []).getD k ⟨#[]⟩ = (Z.getD I [])[k] from by rw [List.getD, List.getElem?_eq_getElem hk]; rfl]
theorem layIn_last (D : Dv) (Z : List (List ByteArray)) (I c : Nat) (hZ : Z.length = 8) (hL : D.L.length = 8) (hS : D.S.length = 8) (hI : I < 8) (hc : c = min (Z.getD I []).length 16) :
    { layIn D Z I c with S := (layIn D Z I c).S.set I c } = layAt D Z (I + 1) := by
  have h1 : ((Z.getD I []).take c) = (Z.getD I []).take 16 := by
    rw [hc]
    rcases Nat.lt_or_ge (Z.getD I []).length 16 with h | h
    · rw [Nat.min_eq_left (by omega), List.take_of_length_le (Nat.le_refl _), List.take_of_length_le (by omega)]
    · rw [Nat.min_eq_right h]
  have h2 : (layL Z).getD I [] = ((Z.getD I []).take 16).map fun s => padB s 128 := layL_at Z I (by omega)
  have h3 : ((layL Z).map List.length).getD I 0 = c := by
    have : ((layL Z).map List.length).getD I 0 = ((layL Z).getD I []).length := by simp [List.getD, layL_length, show I < Z.length by omega]
    rw [this, h2, List.length_map, List.length_take, hc, Nat.min_comm]
  unfold layIn layAt
  rw [h1, ← h2, mixL_stepG (layL Z) D.L I [] (by rw [layL_length]; omega) (by rw [layL_length]; omega)]
  show Dv.mk _ ((mixL ((layL Z).map List.length) D.S I).set I c) _ _ _ = _
  rw [← h3, mixL_stepG ((layL Z).map List.length) D.S I 0 (by rw [List.length_map, layL_length]; omega) (by rw [List.length_map, layL_length]; omega)]
theorem layIn_q (D : Dv) (Z : List (List ByteArray)) (I k : Nat) : (layIn D Z I k).q = D.q := rfl

set_option maxRecDepth 100000 in
set_option maxHeartbeats 4000000 in
theorem lay_any {w : World} {base b : Nat} {D : Dv} {m : Nat → Prop} (h : Dev w base b D m) (vs : List Value) (Z : List (List ByteArray)) (t0 t1 : ByteArray) (hr : ImgRead w m vs Z) (ht0 : t0.size ≤ 65536) (ht1 : t1.size ≤ 65536) :
    Calls Tryd.prog 42 #[.pointer (some ⟨b, 0, none⟩), .agg (vs ++ [Value.string t0, Value.string t1]).toArray] w fun e w' => e = .returned (.tuple #[]) ∧ ∃ m', Dev w' base b (layD D Z [t0, t1]) m' ∧ Moves w w' m m' := by
  obtain ⟨i0, hi0, hz0, hz1, hz2⟩ := info_parts info_str
  obtain ⟨v0, v1, v2, v3, v4, v5, v6, v7, hvs⟩ := list8 hr.len
  have hix := fun (i : Nat) (hi : i < 8) => run_index_slices (P := Tryd.prog) 29 22 9 8 vs hr.len Tryd.underlying29 Tryd.underlying22 (by kernel_rfl) i hi
  rw [hvs] at hix
  have hform : ∀ z, z < 8 → ∃ n a c, vs.getD z nilS = .slice a n c := fun z hz => by
    obtain ⟨a, n, c, h, _⟩ := hr.at_ z hz
    exact ⟨n, a, c, h⟩
  rw [hvs] at hform
  obtain ⟨n0, a0, c0, rfl⟩ : ∃ n a c, v0 = .slice a n c := hform 0 (by omega)
  obtain ⟨n1, a1, c1, rfl⟩ : ∃ n a c, v1 = .slice a n c := hform 1 (by omega)
  obtain ⟨n2, a2, c2, rfl⟩ : ∃ n a c, v2 = .slice a n c := hform 2 (by omega)
  obtain ⟨n3, a3, c3, rfl⟩ : ∃ n a c, v3 = .slice a n c := hform 3 (by omega)
  obtain ⟨n4, a4, c4, rfl⟩ : ∃ n a c, v4 = .slice a n c := hform 4 (by omega)
  obtain ⟨n5, a5, c5, rfl⟩ : ∃ n a c, v5 = .slice a n c := hform 5 (by omega)
  obtain ⟨n6, a6, c6, rfl⟩ : ∃ n a c, v6 = .slice a n c := hform 6 (by omega)
  obtain ⟨n7, a7, c7, rfl⟩ : ∃ n a c, v7 = .slice a n c := hform 7 (by omega)
  have hD : D.Ok := by obtain ⟨_, _, h0⟩ := h; exact h0.ok
  have H := hide h
  have HR := hide hr
  have HVS := hide hvs
  have HIX := hide hix
  have HOK := hide hD
  have HT0 := hide ht0
  have HT1 := hide ht1
  rw [hvs]
  simp only [List.cons_append, List.nil_append]
  clear h hr hix hform hD hvs ht0 ht1
  go_enter Tryd.func42, Tryd.ntmps42
  go_wp2_with fail
  obtain ⟨P, hP⟩ : ∃ P, P = w.heap.size := ⟨_, rfl⟩
  obtain ⟨w1, hw1⟩ : ∃ w1, w1 = w.alloc (.cells #[.slice a0 n0 c0, .slice a1 n1 c1, .slice a2 n2 c2, .slice a3 n3 c3, .slice a4 n4 c4, .slice a5 n5 c5, .slice a6 n6 c6, .slice a7 n7 c7, .string t0, .string t1] 57) := ⟨_, rfl⟩
  rw [← hw1, ← hP]
  have hb1 : Below w.heap.size w w1 := by rw [hw1]; exact (Below.refl _ _).alloc (Nat.le_refl _) _
  have hBP : Blk w1 P 57 #[.slice a0 n0 c0, .slice a1 n1 c1, .slice a2 n2 c2, .slice a3 n3 c3, .slice a4 n4 c4, .slice a5 n5 c5, .slice a6 n6 c6, .slice a7 n7 c7, .string t0, .string t1] := by rw [hw1, hP]; exact Blk.new _ _ _
  have hmP : ¬ m P := fun hc => by obtain ⟨_, _, h0⟩ := H.out; have := (h0.lt P hc).2; omega
  have H1 := hide (H.out.below hb1)
  have HM1 := hide (Moves.of_below hb1 m)
  have HR1 := hide (HR.out.moves HM1.out)
  have HBP := hide hBP
  have HmP := hide hmP
  clear hP hw1 hb1 hBP hmP H HR
  go_loopw [12] (fun i wr => ∃ I : Nat, i = .int .i64 (I : Int) ∧ I ≤ 8 ∧ ∃ m', Dev wr base b (layAt D Z I) m' ∧ Moves w1 wr m m') (fun i _ => 8 - (intOf i).toNat)
  case atStart => exact ⟨0, rfl, by omega, m, by unfold layAt; rw [mixL_zero, mixL_zero]; exact H1.out, Moves.refl _ _⟩
  case round =>
    clear H1
    obtain ⟨I, rfl, hI, m2, h2, hm2⟩ := hrel
    have HM2 := hide hm2
    by_cases hlt : I < 8
    · have d1 : decide ((I : Int) < 8) = true := by simp; omega
      have i1 : (I : Int) < 8 := by omega
      have i2 : (0 : Int) ≤ (I : Int) := by omega
      obtain ⟨a, n, cap, hf, hst, hap⟩ := (HR1.out.moves hm2).at_ I hlt
      have hx := HIX.out I hlt
      rw [← HVS.out, hf, HVS.out] at hx
      obtain ⟨l, hl⟩ : ∃ l, l = Z.getD I [] := ⟨_, rfl⟩
      rw [← hl] at hst hap
      have hsm : ∀ s, s ∈ l → s.size ≤ 65536 := by rw [hl]; exact HR1.out.small I hlt
      obtain ⟨c, hc⟩ : ∃ c, c = min n 16 := ⟨_, rfl⟩
      have hcn : c ≤ n := by omega
      have hc16 : c ≤ 16 := by omega
      have hcl : c = min (Z.getD I []).length 16 := by rw [← hl, ← hst.hn]; exact hc
      have hccap : (c : Int) ≤ (cap : Int) := by have := hst.hc; omega
      have hc0 : (0 : Int) ≤ (c : Int) := by omega
      obtain ⟨zs, wv, h3⟩ := h2
      have k1 := h3.cellZ I hlt
      have f1 := h3.blk.frozen I
      have e4 := h3.setZ I hlt (w1 := wr) (Nat.le_refl _) (fun _ _ _ => rfl) nilS [] (by simp) (World.ownsRow_nil _ _ _ _) (fun g hg => by cases hg)
      have hm4 := h3.setZ_moves I hlt (w1 := wr) rfl rfl rfl (Nat.le_refl _) (fun _ _ _ => rfl) nilS
      have H4 : Hid (Dev (wr.setCell ⟨b, I, none⟩ nilS) base b (layIn D Z I 0) (plus m2 wr.heap.size wr.heap.size)) := hide (by
        rw [← layIn_zero]; exact ⟨_, _, e4⟩)
      have HM4 := hide (hm2.trans hm4)
      have HST := hide (hst.moves hap hm4)
      have HAP : Hid (∀ x, a = some x → 0 < l.length → ¬ plus m2 wr.heap.size wr.heap.size x.block) := hide (fun x hx hp hc => hc.elim (hap x hx hp) (fun h => by omega))
      have HL := hide hl
      have HSM := hide hsm
      have HCL := hide hcl
      have HCC := hide hc
      have HN := hide hst.hn
      clear h3 e4 hm4 hm2 HM2 hst hap hsm hcl hc hl hf
      go_upto_region 5 with fail
      obtain ⟨w4, hw4⟩ : ∃ w4, w4 = wr.setCell ⟨b, I, none⟩ nilS := ⟨_, rfl⟩
      rw [show (Value.slice none 0 0) = nilS from rfl, ← hw4]
      rw [← hw4] at H4 HM4 HST
      clear hw4 k1 f1
      go_cut [25, 26, 27] from 21 to 27 (fun s l i wx => s = .slice a c cap ∧ l = .int .i64 (c : Int) ∧ i = .int .i64 0 ∧ wx = w4)
      case first =>
        clear H4 HM4 HAP HL HSM HCL hx
        by_cases hle : n ≤ 16
        · obtain rfl : c = n := by rw [HCC.out]; omega
          have q1 : (c : Int) ≤ 16 := by omega
          cases a with
          | none =>
            obtain ⟨hn0, hcap0⟩ := HST.out.hz rfl
            subst hn0 hcap0
            go_wp2_with fail
            go_meet
            case rel => exact ⟨rfl, rfl, rfl, rfl⟩
          | some x =>
            go_wp2_with fail
            go_meet
            case rel => exact ⟨rfl, rfl, rfl, rfl⟩
        · obtain rfl : c = 16 := by rw [HCC.out]; omega
          have q1 : (16 : Int) < (n : Int) := by omega
          cases a with
          | none =>
            obtain ⟨hn0, hcap0⟩ := HST.out.hz rfl
            omega
          | some x =>
            have q2 : (16 : Int) ≤ (cap : Int) := by omega
            go_wp2_with fail
            go_meet
            case rel => exact ⟨rfl, rfl, rfl, rfl⟩
      case rest =>
        obtain ⟨rfl, rfl, rfl, rfl⟩ := hcut
        go_wp2_with fail
        go_loopw [27] (fun j wr' => ∃ J : Nat, j = .int .i64 (J : Int) ∧ J ≤ c ∧ ∃ m', Dev wr' base b (layIn D Z I J) m' ∧ Moves w1 wr' m m' ∧ StrsAt wr' a n cap l ∧ (∀ x, a = some x → 0 < l.length → ¬ m' x.block)) (fun j _ => c - (intOf j).toNat)
        case atStart => exact ⟨0, rfl, by omega, _, H4.out, HM4.out, HST.out, HAP.out⟩
        case round =>
          clear H4 HM4 HST HAP
          obtain ⟨J, rfl, hJ, m3, h5, hm5, hst, hap⟩ := hrel
          by_cases hlt2 : J < c
          · have d2 : decide (J < c) = true := by simpa using hlt2
            have hJl : J < l.length := by rw [← HN.out]; omega
            obtain ⟨x, rfl⟩ : ∃ x, a = some x := by
              cases a with
              | none => have := (hst.hz rfl).1; omega
              | some x => exact ⟨x, rfl⟩
            have cx := hst.hcell x rfl J hJl
            obtain ⟨s, hs⟩ : ∃ s, s = l.getD J ⟨#[]⟩ := ⟨_, rfl⟩
            rw [← hs] at cx
            have hss : s.size ≤ 65536 := HSM.out s (by rw [hs, List.getD, List.getElem?_eq_getElem hJl]; exact List.getElem_mem _)
            obtain ⟨S, hS⟩ : ∃ S, S = padB s 128 := ⟨_, rfl⟩
            obtain ⟨zs, wv, h6⟩ := h5
            obtain ⟨B, hB⟩ : ∃ B, B = layIn D Z I J := ⟨_, rfl⟩
            rw [← hB] at h6
            have hBz : (B.zone I).length = J := by rw [hB, layIn_zone D Z I J HR1.out.zlen HOK.out.hL hlt, List.length_map, List.length_take, ← HL.out]; omega
            obtain ⟨v, hv⟩ : ∃ v, v = zs.getD I nilS := ⟨_, rfl⟩
            have kz := h6.cellZ I hlt
            rw [← hv] at kz
            have kb := h6.blk.lt
            have HW := hide h6
            have HB := hide hB
            have HV := hide hv
            have HS := hide hs
            have HSS := hide hss
            have HSd := hide hS
            have HJ := hide hBz
            have HM5 := hide hm5
            have HST := hide hst
            have HAP := hide hap
            have HBB : Hid (base ≤ b) := hide (h6.lt b h6.own).1
            clear hst hap hm5 h6 hB hv hs hss hS hBz
            go_upto_region 8 with fail
            go_region_law (first
              | (go_simp; go_at_call 67; refine (fill_any s 128 HSS.out (by omega) _).mono ?_; rintro e w6 ⟨rfl, hb6⟩; rw [← HSd.out]; have HB6 := hide hb6; have kz6 : w6.cell? ⟨b, I, none⟩ = some v := (hb6.cell (p := ⟨b, I, none⟩) kb).trans kz; have kb6 : b < w6.heap.size := Nat.lt_of_lt_of_le kb hb6.size; clear hb6)
              | (refine step_append_lies _ (by rfl) _ _ _ (by rfl) base 9 i0 _ 1 16 Tryd.underlying22 hi0 hz0 hz1 hz2 rfl (by omega) v (B.zone I).length (strsV (B.zone I)) (by rfl) (by rw [HV.out]; exact zone_after HW.out I hlt HB6.out _) ⟨w6.heap.size, 0, none⟩ 1 1 [.string S] (by rfl) (by rfl) (World.news_of_block (fr := (0, 0)) (heap_alloc_new w6 _)) (by simp [Value.oneCell']) (by omega) (by unfold maxLen; have := HJ.out; omega) (by have := HJ.out; omega) (by have := HBB.out; simp; omega) (w6.heap.size + 1) (by simp) ?_; intro gg cp w7 hown7 hgrow7 hat7 hlt7; rw [HV.out] at hgrow7 hat7; obtain ⟨e1, e2, e3, e4⟩ := lay_end (HW.out.drewN 1) I hlt HB6.out _ gg cp S (by rw [HJ.out]; omega) hown7 hgrow7 hat7; have E3 := hide e3; have E4 := hide e4; clear e3 e4 hown7 hgrow7 hat7 hlt7))
            all_goals
              have hm7 := Moves.ofDrewN E4.out
              have hst7 := HST.out.moves HAP.out hm7
              have hap7 : ∀ y, some x = some y → 0 < l.length → ¬ (plus m3 _ _) y.block := fun y hy hp hc => (hm7.sub _ hc).elim (HAP.out y hy hp) (fun h => by have := HST.out.hlt y hy hp; omega)
              have e5 := E3.out
              rw [HB.out, HSd.out, HS.out, HL.out, layIn_step D Z I J HR1.out.zlen HOK.out.hL hlt (by rw [← HL.out]; exact hJl)] at e5
              have E5 := hide e5
              have HM7 := hide (HM5.out.trans hm7)
              have HST7 := hide hst7
              have HAP7 := hide hap7
              rw [HB.out] at HM7 HST7
              clear e5 E3 E4 HW HB6 e1 e2 hm7 hst7 hap7 HST HAP HM5
              go_wp2_with fail
              rw [HB.out]
              refine ⟨⟨J + 1, by go_num, by omega, _, E5.out, HM7.out, HST7.out, HAP7.out⟩, by simp [intOf]; omega⟩
          · obtain rfl : J = c := by omega
            have d2 : decide (J < J) = false := by simp
            obtain ⟨zs, wv, h6⟩ := h5
            obtain ⟨a', cap', hf⟩ := h6.form I hlt
            have k1 := h6.cellZ I hlt
            have k2 := h6.cellS I hlt
            have f2 := h6.blk.frozen (8 + I)
            have hz : ((layIn D Z I J).zone I).length = J := by rw [layIn_zone D Z I J HR1.out.zlen HOK.out.hL hlt, List.length_map, List.length_take, ← HL.out, ← HN.out]; omega
            rw [hf, hz] at k1
            have e8 := h6.setS I J hlt
            rw [layIn_last D Z I J HR1.out.zlen HOK.out.hL HOK.out.hS hlt HCL.out] at e8
            have hm8 := hm5.trans (Moves.setCell _ _ (p := ⟨b, 8 + I, none⟩) h6.own (.int .i64 (J : Int)))
            have H8 : Hid (Dev _ base b (layAt D Z (I + 1)) m3) := hide ⟨_, _, e8⟩
            have HM8 := hide hm8
            clear h6 e8 hm8 hm5 hf hz hst hap
            go_upto_region 10 with fail
            go_region
            go_wp2_with fail
            refine ⟨⟨I + 1, by go_num, by omega, _, H8.out.drewN 1, HM8.out.drewN 1⟩, by simp [intOf]; omega⟩
    · obtain rfl : I = 8 := by omega
      have d1 : decide ((8 : Int) < 8) = false := by simp
      have e8 : layAt D Z 8 = { D with L := layL Z, S := (layL Z).map List.length } := by
        unfold layAt
        rw [mixL_all _ _ (by rw [layL_length]; exact HR1.out.zlen) HOK.out.hL, mixL_all _ _ (by rw [List.length_map, layL_length]; exact HR1.out.zlen) HOK.out.hS]
      rw [e8] at h2
      have H3 := hide h2
      have hBW := HBP.out
      have hw8 : wr.heap[P]? = w1.heap[P]? := hm2.block P HBP.out.lt HmP.out
      have hBr : Blk wr P 57 #[.slice a0 n0 c0, .slice a1 n1 c1, .slice a2 n2 c2, .slice a3 n3 c3, .slice a4 n4 c4, .slice a5 n5 c5, .slice a6 n6 c6, .slice a7 n7 c7, .string t0, .string t1] := hw8.trans HBP.out
      have k8 : wr.cell? ⟨P, 8, none⟩ = some (.string t0) := hBr.cell 8
      have k9 : wr.cell? ⟨P, 9, none⟩ = some (.string t1) := hBr.cell 9
      have hix2 := fun (i : Nat) (hi : i < 2) => run_index_strs (P := Tryd.prog) 55 9 2 [t0, t1] rfl Tryd.underlying55 Tryd.underlying9 (by kernel_rfl) i hi
      simp only [List.map_cons, List.map_nil] at hix2
      have HIX2 := hide hix2
      clear hBW hw8 hBr e8 h2 hm2 hlt hI hix2
      rw [show ((8 : Nat) : Int) = 8 from rfl]
      go_wp2_with fail
      clear k8 k9
      go_loopw [62] (fun j wr' => ∃ J : Nat, j = .int .i64 (J : Int) ∧ J ≤ 2 ∧ ∃ m', Dev wr' base b { D with L := layL Z, S := (layL Z).map List.length, T := mixL [padB t0 500, padB t1 500] D.T J } m' ∧ Moves w1 wr' m m') (fun j _ => 2 - (intOf j).toNat)
      case atStart => exact ⟨0, rfl, by omega, m2, by rw [mixL_zero]; exact H3.out, HM2.out⟩
      case round =>
        clear H3 HM2
        obtain ⟨J, rfl, hJ, m3, h5, hm5⟩ := hrel
        by_cases hlt2 : J < 2
        · have d2 : decide ((J : Int) < 2) = true := by simp; omega
          have j1 : (J : Int) < 2 := by omega
          have j2 : (0 : Int) ≤ (J : Int) := by omega
          have hx := HIX2.out J hlt2
          obtain ⟨s, hs⟩ : ∃ s, s = [t0, t1].getD J ⟨#[]⟩ := ⟨_, rfl⟩
          rw [← hs] at hx
          have hss : s.size ≤ 65536 := by
            rw [hs]
            obtain rfl | rfl : J = 0 ∨ J = 1 := by omega
            · exact HT0.out
            · exact HT1.out
          have hpad : [padB t0 500, padB t1 500].getD J ⟨#[]⟩ = padB s 500 := by
            rw [hs]
            obtain rfl | rfl : J = 0 ∨ J = 1 := by omega
            · rfl
            · rfl
          obtain ⟨S, hS⟩ : ∃ S, S = padB s 500 := ⟨_, rfl⟩
          obtain ⟨zs, wv, h6⟩ := h5
          have kt := h6.cellT J hlt2
          have ft := h6.blk.frozen (16 + J)
          have kb := h6.blk.lt
          have HW := hide h6
          have HSS := hide hss
          have HSd := hide hS
          have HPD := hide hpad
          have HM5 := hide hm5
          clear h6 hm5 hs hss hpad hS
          go_upto_region 15 with fail
          go_region_law (first
            | (go_simp; go_at_call 67; refine (fill_any s 500 HSS.out (by omega) _).mono ?_; rintro e w6 ⟨rfl, hb6⟩; rw [← HSd.out]; have HB6 := hide hb6; have kt6 := (hb6.cell (p := ⟨b, 16 + J, none⟩) kb).trans kt; have ft6 := (hb6.frozen (p := ⟨b, 16 + J, none⟩) kb).trans ft; clear hb6))
          all_goals
            have hb6 := HB6.out
            have hd6 := (HW.out.drewN 1).same (fun k hk => hb6.block k (HW.out.lt k hk).2) hb6.size
            have e7 := hd6.setT J hlt2 S
            have hm7 := (HM5.out.trans (Moves.ofDrewN (n := 1) (Moves.of_below hb6 m3))).trans (Moves.setCell _ _ (p := ⟨b, 16 + J, none⟩) hd6.own (.string S))
            rw [HSd.out] at e7
            rw [← HPD.out, mixL_stepG [padB t0 500, padB t1 500] D.T J ⟨#[]⟩ (by rw [HOK.out.hT]; rfl) (by simpa using hlt2), HPD.out] at e7
            have e8 := e7.dev
            rw [← HSd.out] at e8
            have H8 := hide e8
            have HM8 := hide hm7
            clear hb6 hd6 e7 e8 hm7 HW HB6 HM5
            go_wp2_with fail
            refine ⟨⟨J + 1, by go_num, by omega, _, H8.out, HM8.out⟩, by simp [intOf]; omega⟩
        · obtain rfl : J = 2 := by omega
          have d2 : decide ((2 : Int) < 2) = false := by simp
          rw [show ((2 : Nat) : Int) = 2 from rfl]
          have e9 : mixL [padB t0 500, padB t1 500] D.T 2 = [t0, t1].map fun s => padB s 500 := by
            unfold mixL
            rw [List.drop_of_length_le (by rw [HOK.out.hT]; exact Nat.le_refl _)]
            rfl
          rw [e9] at h5
          obtain ⟨zs, wv, h6⟩ := h5
          have k18 := h6.cellW
          have f18 := h6.blk.frozen 18
          have h7 := h6.setW (w1 := wr) (Nat.le_refl _) (fun _ _ _ => rfl) nilS [] (by simp) (World.ownsRow_nil _ _ _ _) (fun g hg => by cases hg)
          have hm7 := (HM1.out.trans hm5).trans (h6.setW_moves (w1 := wr) rfl rfl rfl (Nat.le_refl _) (fun _ _ _ => rfl) nilS)
          have e10 : Dev (wr.setCell ⟨b, 18, none⟩ nilS) base b (layD D Z [t0, t1]) (plus m3 wr.heap.size wr.heap.size) := by
            have e11 : (layL Z).map List.length = Z.map fun l => min l.length 16 := by simp [layL, Nat.min_comm]
            rw [e11] at h7
            exact ⟨_, _, h7⟩
          have H10 := hide e10
          have HM10 := hide hm7
          clear h6 h7 hm7 e10 hm5 e9 hlt2 hJ
          go_wp2_with fail
          go_end0
          exact ⟨rfl, _, H10.out, HM10.out⟩

theorem dev_new (w : World) (f : Int) (h1 : -1 ≤ f) (h2 : f < 9223372036854775808) :
    Dev (w.alloc (.cells (dCells [nilS, nilS, nilS, nilS, nilS, nilS, nilS, nilS] [0, 0, 0, 0, 0, 0, 0, 0] [⟨#[]⟩, ⟨#[]⟩] [nilS, .int .i64 f]) 102)) w.heap.size w.heap.size
      ⟨[[], [], [], [], [], [], [], []], [0, 0, 0, 0, 0, 0, 0, 0], [⟨#[]⟩, ⟨#[]⟩], [], f⟩ (fun k => k = w.heap.size) := by
  have hz : ∀ z, ([nilS, nilS, nilS, nilS, nilS, nilS, nilS, nilS] : List Value).getD z nilS = nilS := fun z => by
    rcases z with _ | _ | _ | _ | _ | _ | _ | _ | z <;> rfl
  have hl : ∀ z, ([[], [], [], [], [], [], [], []] : List (List ByteArray)).getD z [] = [] := fun z => by
    rcases z with _ | _ | _ | _ | _ | _ | _ | _ | z <;> rfl
  refine ⟨[nilS, nilS, nilS, nilS, nilS, nilS, nilS, nilS], nilS, ⟨rfl, rfl, rfl, fun z => (by show ([[], [], [], [], [], [], [], []].getD z []).length ≤ 16; rw [hl]; simp), fun p hp => (by simp at hp), h1, h2⟩, Blk.new _ _ _, ⟨rfl, fun z _ => ?_, fun z _ g hg => ?_, fun z j _ _ _ g hg => ?_⟩, World.ownsRow_nil _ _ _ _, fun g hg => (by cases hg), rfl, fun k hk => ?_⟩
  · rw [hz]; show World.ownsRow _ _ _ _ _ (([[], [], [], [], [], [], [], []] : List (List ByteArray)).getD z []).length (strsV (([[], [], [], [], [], [], [], []] : List (List ByteArray)).getD z [])); rw [hl]; exact World.ownsRow_nil _ _ _ _
  · rw [hz] at hg; cases hg
  · rw [hz] at hg; cases hg
  · have e : k = w.heap.size := hk
    subst e
    exact ⟨Nat.le_refl _, by simp⟩

/-- A new device. -/
def newD : Dv := ⟨[[], [], [], [], [], [], [], []], [0, 0, 0, 0, 0, 0, 0, 0], [padB ⟨#[]⟩ 500, padB ⟨#[]⟩ 500], [], -1⟩
set_option maxRecDepth 100000 in
set_option maxHeartbeats 2000000 in
theorem znew_any (w : World) : Calls Tryd.prog 13 #[] w fun e w' => ∃ m, e = .returned (.pointer (some ⟨w.heap.size, 0, none⟩)) ∧ Dev w' w.heap.size w.heap.size newD m ∧ Below w.heap.size w w' := by
  obtain ⟨w1, hw1⟩ : ∃ w1, w1 = w.alloc (.cells (dCells [nilS, nilS, nilS, nilS, nilS, nilS, nilS, nilS] [0, 0, 0, 0, 0, 0, 0, 0] [⟨#[]⟩, ⟨#[]⟩] [nilS, .int .i64 (-1)]) 102) := ⟨_, rfl⟩
  have hd := dev_new w (-1) (by omega) (by omega)
  rw [← hw1] at hd
  have hb1 : Below w.heap.size w w1 := by rw [hw1]; exact (Below.refl _ _).alloc (Nat.le_refl _) _
  have hrd : ImgRead w1 (fun k => k = w.heap.size) [nilS, nilS, nilS, nilS, nilS, nilS, nilS, nilS] [[], [], [], [], [], [], [], []] := by
    have hz : ∀ z, ([nilS, nilS, nilS, nilS, nilS, nilS, nilS, nilS] : List Value).getD z nilS = nilS := fun z => by
      rcases z with _ | _ | _ | _ | _ | _ | _ | _ | z <;> rfl
    have hl : ∀ z, ([[], [], [], [], [], [], [], []] : List (List ByteArray)).getD z [] = [] := fun z => by
      rcases z with _ | _ | _ | _ | _ | _ | _ | _ | z <;> rfl
    refine ⟨rfl, rfl, fun z _ => ⟨none, 0, 0, hz z, ?_, fun x hx _ => (by cases hx)⟩, fun z _ s hs => ?_⟩
    · rw [hl]
      exact ⟨rfl, Nat.le_refl _, fun _ => ⟨rfl, rfl⟩, fun b hb _ => (by cases hb), fun b hb => (by cases hb)⟩
    · rw [hl] at hs; simp at hs
  have hlay := lay_any hd [nilS, nilS, nilS, nilS, nilS, nilS, nilS, nilS] [[], [], [], [], [], [], [], []] ⟨#[]⟩ ⟨#[]⟩ hrd (by decide) (by decide)
  simp only [List.cons_append, List.nil_append, nilS] at hlay
  have HLAY := hide hlay
  have HB1 := hide hb1
  have HW1 := hide hw1
  clear hd hrd hlay hb1 hw1
  go_enter Tryd.func13, Tryd.ntmps13
  go_upto_region 2 with fail
  have hw1 : w1 = w.alloc (.cells #[.slice none 0 0, .slice none 0 0, .slice none 0 0, .slice none 0 0, .slice none 0 0, .slice none 0 0, .slice none 0 0, .slice none 0 0, .int .i64 0, .int .i64 0, .int .i64 0, .int .i64 0, .int .i64 0, .int .i64 0, .int .i64 0, .int .i64 0, .string ⟨#[]⟩, .string ⟨#[]⟩, .slice none 0 0, .int .i64 (-1)] 102) := HW1.out
  rw [← hw1]
  clear hw1
  go_wp2_with (go_at_call 42; refine HLAY.out.mono ?_; rintro e w2 ⟨rfl, m2, hd2, hm2⟩; have HD2 := hide hd2; have HM2 := hide hm2; clear hd2 hm2)
  go_ret
  exact ⟨m2, rfl, HD2.out, HB1.out.trans (HM2.out.below (fun k hk => Nat.le_of_eq hk.symm) HB1.out.size)⟩
end Go.Proofs.YtmligbaalbbgiabDoor

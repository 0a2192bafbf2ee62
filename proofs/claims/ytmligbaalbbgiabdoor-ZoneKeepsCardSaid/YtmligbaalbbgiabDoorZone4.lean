/- slices.Clone of texts; the device's Image. Condition: a device lies at the receiver, and what is sure is there. -/
import Derived.Test.YtmligbaalbbgiabDoorProg
import Derived.Test.YtmligbaalbbgiabDoorZone3
namespace Go.Proofs.YtmligbaalbbgiabDoor
open Go.RowKit

/-- A slice of texts that can be read. -/
structure StrsAt (w : World) (a : Option Addr) (n cap : Nat) (l : List ByteArray) : Prop where
  hn : n = l.length
  hc : n ≤ cap
  hz : a = none → n = 0 ∧ cap = 0
  hlt : ∀ b, a = some b → 0 < l.length → b.block < w.heap.size
  hcell : ∀ b, a = some b → ∀ i, i < l.length → w.cell? (b.add i) = some (.string (l.getD i ⟨#[]⟩))
theorem StrsAt.of_own {w : World} {base : Nat} {a : Option Addr} {n cap k : Nat} {l : List ByteArray} (h : w.ownsRow base 9 1 (.slice a n cap) k (strsV l)) (hk : k = l.length) : StrsAt w a n cap l := by
  obtain ⟨h1, h2, h3, h4⟩ := own_parts h
  refine ⟨by omega, h2, h3, fun b hb _ => (h4 b hb).1, fun b hb i hi => (h4 b hb).2 i _ ?_⟩
  simp [strsV, hi, List.getD]
theorem StrsAt.below {w w' : World} {a : Option Addr} {n cap : Nat} {l : List ByteArray} (h : StrsAt w a n cap l) (hb : Below w.heap.size w w') : StrsAt w' a n cap l :=
  ⟨h.hn, h.hc, h.hz, fun b e hp => Nat.lt_of_lt_of_le (h.hlt b e hp) hb.size, fun b e i hi => by
    rw [hb.cell (p := b.add i) (by rw [Go.ChangeShapes.block_add]; exact h.hlt b e (Nat.lt_of_le_of_lt (Nat.zero_le _) hi))]
    exact h.hcell b e i hi⟩

theorem ownsRow_slice {w : World} {base : Nat} {e : TypeId} {size n : Nat} {v : Value} {xs : List Value} (h : w.ownsRow base e size v n xs) : ∃ a cap, v = .slice a n cap := by
  rcases h.2 with ⟨h1, h2⟩ | ⟨g, cap, cur, h1, _⟩
  · exact ⟨none, 0, by rw [h1, h2]⟩
  · exact ⟨_, cap, h1⟩

set_option maxRecDepth 100000 in
theorem clone_any {w : World} {a : Option Addr} {n cap : Nat} {l : List ByteArray} (h : StrsAt w a n cap l) (hl : l.length ≤ 65536) :
    Calls Tryd.prog 95 #[.slice a n cap] w fun e w' => ∃ a' c', e = .returned (.slice a' l.length c') ∧ w'.ownsRow w.heap.size 9 1 (.slice a' l.length c') l.length (strsV l) ∧ Below w.heap.size w w' := by
  obtain ⟨i0, hi0, hz0, hz1, hz2⟩ := info_parts info_str
  cases a with
  | none =>
    obtain ⟨h1, h2⟩ := h.hz rfl
    have hl0 : l = [] := List.eq_nil_of_length_eq_zero (by rw [← h.hn]; exact h1)
    subst h1 h2 hl0
    have hcmp : ∀ W : World, (binOp BinOp.eql 22 (.slice none 0 0) (.slice none 0 0)).run Tryd.prog W = .ok (.bool true) W := fun W => by kernel_rfl
    clear h
    go_enter Tryd.func95, Tryd.ntmps95
    go_wp2_with fail
    go_ret
    exact ⟨none, 0, rfl, World.ownsRow_nil _ _ _ _, Below.refl _ _⟩
  | some x =>
    have H := hide h
    have hn := h.hn
    have hcs : ∀ (o : Obj) (j : Nat) (u : Value), (strsV l)[j]? = some u → (w.alloc o).cell? (x.add j) = some u := fun o j u hj => by
      have hjl : j < l.length := by rw [← strsV_length]; exact (List.getElem?_eq_some_iff.1 hj).1
      have e : u = .string (l.getD j ⟨#[]⟩) := by simpa [strsV, hjl, List.getD] using hj.symm
      rw [e, World.cell?_alloc_lt _ _ _ (by rw [Go.ChangeShapes.block_add]; exact h.hlt x rfl (Nat.lt_of_le_of_lt (Nat.zero_le _) hjl))]
      exact h.hcell x rfl j hjl
    have h1c : ∀ u ∈ strsV l, u.oneCell' = true := by
      intro u hu
      obtain ⟨c, _, rfl⟩ := List.mem_map.1 hu
      rfl
    have HCS := hide hcs
    have H1C := hide h1c
    have HN := hide hn
    have HL := hide hl
    have hcmp : ∀ W : World, (binOp BinOp.eql 22 (.slice (some x) n cap) (.slice none 0 0)).run Tryd.prog W = .ok (.bool false) W := fun W => by kernel_rfl
    clear h hn hl hcs h1c
    go_enter Tryd.func95, Tryd.ntmps95
    go_wp2_with (refine wpList_append_own _ rfl (.tmp 5) (.tmp 6) 22 rfl w.heap.size 9 i0 (.string ⟨#[]⟩) 1 16 Tryd.underlying22 hi0 hz0 hz1 hz2 rfl (by decide) (.slice (some ⟨w.heap.size, 0, none⟩) 0 0) 0 [] rfl (World.ownsRow_made w _ 0 (Nat.le_refl _) (by decide) rfl) x n cap (strsV l) rfl (by rw [strsV_length, ← HN.out, Nat.mul_one]) (HCS.out _) H1C.out (by have := HL.out; have := HN.out; unfold maxLen; omega) (by have := HL.out; have := HN.out; omega) (by simp) ?_; intro v' w2 hown2 hgrow2 hiff; rw [Nat.zero_add, List.nil_append, HN.out] at hown2; have HO := hide hown2; have HB := hide (((Below.refl w.heap.size w).alloc (Nat.le_refl _) _).grown hgrow2 (by simp) (fun k hk => by have e : w.heap.size = k := (by simpa [Value.ownBlock] using hk); omega)); clear hown2 hgrow2 hiff)
    go_ret
    obtain ⟨a', c', rfl⟩ := ownsRow_slice HO.out
    exact ⟨a', c', rfl, HO.out, HB.out⟩

/-- An array of slices, by value, indexed. -/
theorem run_index_slices {P : Program} (t e s : TypeId) (n : Nat) (cs : List Value) (hl : cs.length = n) (h : P.underlying t = some (.array n e)) (he : P.underlying e = some (.slice s)) (hsz : (P.info? e).map (·.size) = some 1)
    (i : Nat) (hi : i < n) (w : World) : (Instr.index t (.agg cs.toArray) (.int .i64 (i : Int))).run P w = .ok (cs.getD i nilS) w := by
  obtain ⟨j, hj, hj1⟩ := Option.map_eq_some_iff.1 hsz
  have hw : cs[i]? = some (cs[i]'(by omega)) := List.getElem?_eq_getElem (by omega)
  simp [Instr.index, asIntOf, run_underlying h, hi, sizeOf, typeInfo, hj, hj1, part, isAgg, run_underlying he, hw]
theorem list8 {zs : List Value} (h : zs.length = 8) : ∃ z0 z1 z2 z3 z4 z5 z6 z7, zs = [z0, z1, z2, z3, z4, z5, z6, z7] := by
  rcases zs with _ | ⟨z0, _ | ⟨z1, _ | ⟨z2, _ | ⟨z3, _ | ⟨z4, _ | ⟨z5, _ | ⟨z6, _ | ⟨z7, _ | ⟨z8, zs⟩⟩⟩⟩⟩⟩⟩⟩⟩
  all_goals first | (simp at h; done) | exact ⟨_, _, _, _, _, _, _, _, rfl⟩
theorem list2 {T : List ByteArray} (h : T.length = 2) : ∃ t0 t1, T = [t0, t1] := by
  rcases T with _ | ⟨t0, _ | ⟨t1, _ | ⟨t2, T⟩⟩⟩
  all_goals first | (simp at h; done) | exact ⟨_, _, rfl⟩

/-- What an image is, of values that hold its zones. -/
structure ImgAt (w : World) (base : Nat) (vs : List Value) (Z : List (List ByteArray)) : Prop where
  len : vs.length = 8
  row : ∀ z, z < 8 → w.ownsRow base 9 1 (vs.getD z nilS) (Z.getD z []).length (strsV (Z.getD z []))
theorem ImgAt.below {w w' : World} {base : Nat} {vs : List Value} {Z : List (List ByteArray)} (h : ImgAt w base vs Z) (hb : Below w.heap.size w w') : ImgAt w' base vs Z :=
  ⟨h.len, fun z hz => ownsRow_same (h.row z hz) (fun g hg => hb.block g ((h.row z hz).lt g hg).2)⟩

/-- Ten cells of a block, written one by one. -/
def set10 (w : World) (R : Nat) (y0 y1 y2 y3 y4 y5 y6 y7 y8 y9 : Value) : World := ((((((((((w.setCell ⟨R, 0, none⟩ y0).setCell ⟨R, 1, none⟩ y1).setCell ⟨R, 2, none⟩ y2).setCell ⟨R, 3, none⟩ y3).setCell ⟨R, 4, none⟩ y4).setCell ⟨R, 5, none⟩ y5).setCell ⟨R, 6, none⟩ y6).setCell ⟨R, 7, none⟩ y7).setCell ⟨R, 8, none⟩ y8).setCell ⟨R, 9, none⟩ y9)
theorem set10_blk {w : World} {R t : Nat} {x0 x1 x2 x3 x4 x5 x6 x7 x8 x9 : Value} (h : Blk w R t #[x0, x1, x2, x3, x4, x5, x6, x7, x8, x9]) (y0 y1 y2 y3 y4 y5 y6 y7 y8 y9 : Value) : Blk (set10 w R y0 y1 y2 y3 y4 y5 y6 y7 y8 y9) R t #[y0, y1, y2, y3, y4, y5, y6, y7, y8, y9] := by
  have h2 := ((((((((((h.set_ 0 y0).set_ 1 y1).set_ 2 y2).set_ 3 y3).set_ 4 y4).set_ 5 y5).set_ 6 y6).set_ 7 y7).set_ 8 y8).set_ 9 y9)
  simp only [List.setIfInBounds_toArray, List.set_cons_zero, List.set_cons_succ] at h2
  exact h2
theorem set10_ne (w : World) (R : Nat) (y0 y1 y2 y3 y4 y5 y6 y7 y8 y9 : Value) (g : Nat) (hg : g ≠ R) : (set10 w R y0 y1 y2 y3 y4 y5 y6 y7 y8 y9).heap[g]? = w.heap[g]? := by
  unfold set10
  simp only [fun (W : World) (i : Nat) (u : Value) => heap_set_ne W R i u g hg]
theorem set10_below {B : Nat} {w0 w : World} (h : Below B w0 w) {R : Nat} (hR : B ≤ R) (y0 y1 y2 y3 y4 y5 y6 y7 y8 y9 : Value) : Below B w0 (set10 w R y0 y1 y2 y3 y4 y5 y6 y7 y8 y9) :=
  ((((((((((h.setCell (p := ⟨R, 0, none⟩) hR y0).setCell (p := ⟨R, 1, none⟩) hR y1).setCell (p := ⟨R, 2, none⟩) hR y2).setCell (p := ⟨R, 3, none⟩) hR y3).setCell (p := ⟨R, 4, none⟩) hR y4).setCell (p := ⟨R, 5, none⟩) hR y5).setCell (p := ⟨R, 6, none⟩) hR y6).setCell (p := ⟨R, 7, none⟩) hR y7).setCell (p := ⟨R, 8, none⟩) hR y8).setCell (p := ⟨R, 9, none⟩) hR y9)

/-- Where Image stands, when I zones are there. -/
structure ImgIn (w wr : World) (D : Dv) (R I : Nat) (vs : List Value) (t0 t1 : ByteArray) : Prop where
  len : vs.length = 8
  tgt : Blk wr (R + 1) 57 (vs ++ [Value.string t0, Value.string t1]).toArray
  res : Blk wr R 57 #[.slice none 0 0, .slice none 0 0, .slice none 0 0, .slice none 0 0, .slice none 0 0, .slice none 0 0, .slice none 0 0, .slice none 0 0, .string ⟨#[]⟩, .string ⟨#[]⟩]
  row : ∀ z, z < I → wr.ownsRow w.heap.size 9 1 (vs.getD z nilS) ((imageR D).getD z []).length (strsV ((imageR D).getD z []))
  bel : Below w.heap.size w wr
theorem ImgIn.step {w wr w3 : World} {D : Dv} {R I : Nat} {vs : List Value} {t0 t1 : ByteArray} (h : ImgIn w wr D R I vs t0 t1) (hR : R = w.heap.size) (hI : I < 8) (hb : Below wr.heap.size wr w3) (v : Value)
    (hv : w3.ownsRow wr.heap.size 9 1 v ((imageR D).getD I []).length (strsV ((imageR D).getD I []))) : ImgIn w (w3.setCell ⟨R + 1, I, none⟩ v) D R (I + 1) (vs.set I v) t0 t1 := by
  have hto : Blk w3 (R + 1) 57 (vs ++ [Value.string t0, Value.string t1]).toArray := h.tgt.below hb h.tgt.lt
  refine ⟨by rw [List.length_set]; exact h.len, ?_, ?_, fun z hz => ?_, ?_⟩
  · have := hto.set_ I v
    have e : (vs ++ [Value.string t0, Value.string t1]).toArray.setIfInBounds I v = (vs.set I v ++ [Value.string t0, Value.string t1]).toArray := by
      simp [h.len, hI]
    rwa [e] at this
  · exact (h.res.below hb h.res.lt).far (by simp) v
  · rw [getD_set vs I z v nilS (by rw [h.len]; exact hI)]
    by_cases hz2 : I = z
    · subst hz2
      rw [if_pos rfl]
      exact ownsRow_mono (ownsRow_setCell hv (own_blk_ne hv hto (by decide)) _) h.bel.size
    · rw [if_neg hz2]
      have h1 := ownsRow_same (w' := w3) (h.row z (by omega)) (fun g hg => hb.block g ((h.row z (by omega)).lt g hg).2)
      exact ownsRow_setCell h1 (own_blk_ne h1 hto (by decide)) _
  · exact (below_step h.bel hb).setCell (by rw [hR]; exact Nat.le_succ _) v
theorem imageR_at (D : Dv) (z : Nat) (hz : z < 8) : (imageR D).getD z [] = (D.zone z).take (D.sure z) := by simp [imageR, List.getD, hz]

set_option maxRecDepth 100000 in
set_option maxHeartbeats 2000000 in
theorem image_any {w : World} {base b : Nat} {D : Dv} {m : Nat → Prop} (h : Dev w base b D m) (hsu : D.SureOk) :
    Calls Tryd.prog 45 #[.pointer (some ⟨b, 0, none⟩)] w fun e w' => ∃ vs, e = .returned (.agg (vs ++ D.T.map Value.string).toArray) ∧ ImgAt w' w.heap.size vs (imageR D) ∧ Below w.heap.size w w' := by
  obtain ⟨zs, wv, h0⟩ := h
  have HD := hide h0
  obtain ⟨z0, z1, z2, z3, z4, z5, z6, z7, hzs⟩ := list8 h0.rows.len
  obtain ⟨t0, t1, hT⟩ := list2 h0.ok.hT
  have k0 := h0.cellZ 0 (by omega)
  have k1 := h0.cellZ 1 (by omega)
  have k2 := h0.cellZ 2 (by omega)
  have k3 := h0.cellZ 3 (by omega)
  have k4 := h0.cellZ 4 (by omega)
  have k5 := h0.cellZ 5 (by omega)
  have k6 := h0.cellZ 6 (by omega)
  have k7 := h0.cellZ 7 (by omega)
  have q0 := h0.cellT 0 (by omega)
  have q1 := h0.cellT 1 (by omega)
  rw [hzs] at k0 k1 k2 k3 k4 k5 k6 k7
  rw [hT] at q0 q1
  simp only [List.getD_cons_zero, List.getD_cons_succ] at k0 k1 k2 k3 k4 k5 k6 k7 q0 q1
  have kb := h0.blk.lt
  have HZS := hide hzs
  have HT := hide hT
  clear h0 hT
  have hrow : ∀ z, z < 8 → ∀ k, k ≤ (D.zone z).length → ∃ a cap, zs.getD z nilS = .slice a (D.zone z).length cap ∧ k ≤ cap ∧ (a = none → k = 0 ∧ cap = 0) ∧ StrsAt w a k cap ((D.zone z).take k) := by
    intro z hz k hk
    obtain ⟨a, cap, hf⟩ := HD.out.form z hz
    have hr := HD.out.rows.row z hz
    rw [hf] at hr
    obtain ⟨_, p1, p2, p3⟩ := own_parts hr
    refine ⟨a, cap, hf, by omega, fun h => ⟨by have := (p2 h).1; omega, (p2 h).2⟩, ?_⟩
    have h2 := own_prefix hr hk
    rw [← strsV_take] at h2
    exact StrsAt.of_own h2 (by rw [List.length_take]; exact (Nat.min_eq_left hk).symm)
  have HROW := hide hrow
  have hix := fun (i : Nat) (hi : i < 8) => run_index_slices (P := Tryd.prog) 29 22 9 8 zs HD.out.rows.len Tryd.underlying29 Tryd.underlying22 (by kernel_rfl) i hi
  rw [hzs] at hix
  have HIX := hide hix
  have HSU := hide hsu
  clear hrow hix hsu hzs
  go_enter Tryd.func45, Tryd.ntmps45
  go_wp2_with fail
  obtain ⟨w1, hw1⟩ : ∃ w1, w1 = (w.alloc (.cells #[.slice none 0 0, .slice none 0 0, .slice none 0 0, .slice none 0 0, .slice none 0 0, .slice none 0 0, .slice none 0 0, .slice none 0 0, .string ⟨#[]⟩, .string ⟨#[]⟩] 57)) := ⟨_, rfl⟩
  obtain ⟨w2, hw2⟩ : ∃ w2, w2 = (w1.alloc (.cells #[.slice none 0 0, .slice none 0 0, .slice none 0 0, .slice none 0 0, .slice none 0 0, .slice none 0 0, .slice none 0 0, .slice none 0 0, .string t0, .string t1] 57)) := ⟨_, rfl⟩
  rw [← hw1, ← hw2]
  obtain ⟨R, hR⟩ : ∃ R, R = w.heap.size := ⟨_, rfl⟩
  have hIN : ImgIn w w2 D R 0 [nilS, nilS, nilS, nilS, nilS, nilS, nilS, nilS] t0 t1 := by
    have hs1 : w1.heap.size = R + 1 := by rw [hw1, hR]; simp
    have hb1 : Blk w1 R 57 #[.slice none 0 0, .slice none 0 0, .slice none 0 0, .slice none 0 0, .slice none 0 0, .slice none 0 0, .slice none 0 0, .slice none 0 0, .string ⟨#[]⟩, .string ⟨#[]⟩] := by rw [hw1, hR]; exact Blk.new _ _ _
    refine ⟨rfl, by rw [hw2, ← hs1]; exact Blk.new _ _ _, by rw [hw2]; exact hb1.alloc _, fun z hz => by omega, ?_⟩
    rw [hw2, hw1]
    exact ((Below.refl _ _).alloc (Nat.le_refl _) _).alloc (by simp) _
  have HIN := hide hIN
  have HR := hide hR
  clear hIN hw1 hw2
  rw [← hR]
  clear hR k0 k1 k2 k3 k4 k5 k6 k7 q0 q1
  go_loopw [15] (fun i wr => ∃ I : Nat, i = .int .i64 (I : Int) ∧ I ≤ 8 ∧ ∃ vs, ImgIn w wr D R I vs t0 t1) (fun i _ => 8 - (intOf i).toNat)
  case atStart => exact ⟨0, rfl, by omega, _, HIN.out⟩
  case round =>
    clear HIN
    obtain ⟨I, rfl, hI, vs, hin⟩ := hrel
    have HIN := hide hin
    by_cases hlt : I < 8
    · have d1 : decide ((I : Int) < 8) = true := by simp; omega
      have i1 : (I : Int) < 8 := by omega
      have i2 : (0 : Int) ≤ (I : Int) := by omega
      obtain ⟨k, hk⟩ : ∃ k, k = D.sure I := ⟨_, rfl⟩
      obtain ⟨a, cap, hf, p1, p2, hst⟩ := HROW.out I hlt k (by rw [hk]; exact HSU.out I)
      have hst2 := hst.below hin.bel
      have hx := HIX.out I hlt
      rw [← HZS.out, hf] at hx
      have ks : wr.cell? ⟨b, 8 + I, none⟩ = some (.int .i64 (k : Int)) := by
        rw [hk]
        exact (hin.bel.cell (p := ⟨b, 8 + I, none⟩) kb).trans (HD.out.cellS I hlt)
      have hkc : (k : Int) ≤ (cap : Int) := by omega
      have hk0 : (0 : Int) ≤ (k : Int) := by omega
      have hl : (imageR D).getD I [] = (D.zone I).take k := by rw [imageR_at D I hlt, hk]
      have hl2 : ((D.zone I).take k).length ≤ 65536 := by have := HD.out.ok.cap I; rw [List.length_take]; omega
      obtain ⟨l, hld⟩ : ∃ l, l = (D.zone I).take k := ⟨_, rfl⟩
      rw [← hld] at hst2 hl hl2
      have HST := hide hst2
      have HL := hide hl
      have HL2 := hide hl2
      have HK := hide hk
      have HP2 := hide p2
      clear hin hf hst hst2 hl hl2 hk p2 hld
      rw [HZS.out] at hx
      cases a with
      | none =>
        obtain ⟨hn0, hc0⟩ := HP2.out rfl
        subst hn0 hc0
        go_wp2_with (go_at_call 95; refine (clone_any HST.out HL2.out).mono ?_; rintro e w3 ⟨a', c', rfl, hown3, hb3⟩; have HS3 := hide (HIN.out.step HR.out hlt hb3 _ (by rw [HL.out]; exact hown3)); have hB3 := HIN.out.tgt.below hb3 HIN.out.tgt.lt; have c3 : w3.cell? ⟨R + 1, I, none⟩ = some (vs.getD I nilS) := (by rw [hB3.cell]; simp [List.getElem?_append, HIN.out.len, hlt, List.getD]); have f3 := hB3.frozen I; clear hown3 hb3 hB3)
        refine ⟨⟨I + 1, by go_num, by omega, _, HS3.out⟩, by simp [intOf]; omega⟩
      | some x =>
        go_wp2_with (go_at_call 95; refine (clone_any HST.out HL2.out).mono ?_; rintro e w3 ⟨a', c', rfl, hown3, hb3⟩; have HS3 := hide (HIN.out.step HR.out hlt hb3 _ (by rw [HL.out]; exact hown3)); have hB3 := HIN.out.tgt.below hb3 HIN.out.tgt.lt; have c3 : w3.cell? ⟨R + 1, I, none⟩ = some (vs.getD I nilS) := (by rw [hB3.cell]; simp [List.getElem?_append, HIN.out.len, hlt, List.getD]); have f3 := hB3.frozen I; clear hown3 hb3 hB3)
        refine ⟨⟨I + 1, by go_num, by omega, _, HS3.out⟩, by simp [intOf]; omega⟩
    · obtain rfl : I = 8 := by omega
      have d1 : decide ((8 : Int) < 8) = false := by simp
      rw [show ((8 : Nat) : Int) = 8 from rfl]
      obtain ⟨v0, v1, v2, v3, v4, v5, v6, v7, hvs⟩ := list8 hin.len
      have k0 : wr.cell? ⟨R + 1, 0, none⟩ = some v0 := by rw [hin.tgt.cell, hvs]; rfl
      have k1 : wr.cell? ⟨R + 1, 1, none⟩ = some v1 := by rw [hin.tgt.cell, hvs]; rfl
      have k2 : wr.cell? ⟨R + 1, 2, none⟩ = some v2 := by rw [hin.tgt.cell, hvs]; rfl
      have k3 : wr.cell? ⟨R + 1, 3, none⟩ = some v3 := by rw [hin.tgt.cell, hvs]; rfl
      have k4 : wr.cell? ⟨R + 1, 4, none⟩ = some v4 := by rw [hin.tgt.cell, hvs]; rfl
      have k5 : wr.cell? ⟨R + 1, 5, none⟩ = some v5 := by rw [hin.tgt.cell, hvs]; rfl
      have k6 : wr.cell? ⟨R + 1, 6, none⟩ = some v6 := by rw [hin.tgt.cell, hvs]; rfl
      have k7 : wr.cell? ⟨R + 1, 7, none⟩ = some v7 := by rw [hin.tgt.cell, hvs]; rfl
      have k8 : wr.cell? ⟨R + 1, 8, none⟩ = some (.string t0) := by rw [hin.tgt.cell, hvs]; rfl
      have k9 : wr.cell? ⟨R + 1, 9, none⟩ = some (.string t1) := by rw [hin.tgt.cell, hvs]; rfl
      have r0 := hin.res.cell 0
      have r1 := hin.res.cell 1
      have r2 := hin.res.cell 2
      have r3 := hin.res.cell 3
      have r4 := hin.res.cell 4
      have r5 := hin.res.cell 5
      have r6 := hin.res.cell 6
      have r7 := hin.res.cell 7
      have r8 := hin.res.cell 8
      have r9 := hin.res.cell 9
      have g0 := hin.res.frozen 0
      have g1 := hin.res.frozen 1
      have g2 := hin.res.frozen 2
      have g3 := hin.res.frozen 3
      have g4 := hin.res.frozen 4
      have g5 := hin.res.frozen 5
      have g6 := hin.res.frozen 6
      have g7 := hin.res.frozen 7
      have g8 := hin.res.frozen 8
      have g9 := hin.res.frozen 9
      have hform : ∀ z, z < 8 → ∃ n a c, vs.getD z nilS = .slice a n c := fun z hz => by
        obtain ⟨a, c, h⟩ := ownsRow_slice (hin.row z hz)
        exact ⟨_, a, c, h⟩
      rw [hvs] at hform
      obtain ⟨n0, a0, c0, rfl⟩ : ∃ n a c, v0 = .slice a n c := hform 0 (by omega)
      obtain ⟨n1, a1, c1, rfl⟩ : ∃ n a c, v1 = .slice a n c := hform 1 (by omega)
      obtain ⟨n2, a2, c2, rfl⟩ : ∃ n a c, v2 = .slice a n c := hform 2 (by omega)
      obtain ⟨n3, a3, c3, rfl⟩ : ∃ n a c, v3 = .slice a n c := hform 3 (by omega)
      obtain ⟨n4, a4, c4, rfl⟩ : ∃ n a c, v4 = .slice a n c := hform 4 (by omega)
      obtain ⟨n5, a5, c5, rfl⟩ : ∃ n a c, v5 = .slice a n c := hform 5 (by omega)
      obtain ⟨n6, a6, c6, rfl⟩ : ∃ n a c, v6 = .slice a n c := hform 6 (by omega)
      obtain ⟨n7, a7, c7, rfl⟩ : ∃ n a c, v7 = .slice a n c := hform 7 (by omega)
      obtain ⟨wF, hwF⟩ : ∃ wF, wF = set10 wr R (.slice a0 n0 c0) (.slice a1 n1 c1) (.slice a2 n2 c2) (.slice a3 n3 c3) (.slice a4 n4 c4) (.slice a5 n5 c5) (.slice a6 n6 c6) (.slice a7 n7 c7) (.string t0) (.string t1) := ⟨_, rfl⟩
      have hF : Blk wF R 57 #[.slice a0 n0 c0, .slice a1 n1 c1, .slice a2 n2 c2, .slice a3 n3 c3, .slice a4 n4 c4, .slice a5 n5 c5, .slice a6 n6 c6, .slice a7 n7 c7, .string t0, .string t1] := by rw [hwF]; exact set10_blk hin.res _ _ _ _ _ _ _ _ _ _
      have hBF : Below w.heap.size w wF := by rw [hwF]; exact set10_below hin.bel (Nat.le_of_eq HR.out.symm) _ _ _ _ _ _ _ _ _ _
      have hIF : ImgAt wF w.heap.size vs (imageR D) := by
        refine ⟨hin.len, fun z hz => ownsRow_same (hin.row z hz) (fun g hg => ?_)⟩
        have hgR : g ≠ R := fun e => own_blk_ne (hin.row z hz) hin.res (by decide) (by rw [hg, e])
        rw [hwF]
        exact set10_ne _ _ _ _ _ _ _ _ _ _ _ _ g hgR
      have HF := hide hF
      have HBF := hide hBF
      have HIF := hide hIF
      have HWF := hide hwF
      have HVS := hide hvs
      clear hin hvs hform hF hBF hIF hwF
      simp only [List.getElem?_toArray, List.getElem?_cons_zero, List.getElem?_cons_succ] at r0 r1 r2 r3 r4 r5 r6 r7 r8 r9
      go_wp2_with fail
      have hwF := HWF.out
      unfold set10 at hwF
      rw [← hwF]
      refine bodyPost_ret (v := .agg #[.slice a0 n0 c0, .slice a1 n1 c1, .slice a2 n2 c2, .slice a3 n3 c3, .slice a4 n4 c4, .slice a5 n5 c5, .slice a6 n6 c6, .slice a7 n7 c7, .string t0, .string t1]) ?_ rfl ⟨vs, ?_, HIF.out, HBF.out⟩
      · exact results_cell_row rfl _ _ R 57 _ (0, 0) _ rfl HF.out Tryd.underlying57 rfl (by kernel_rfl)
      · rw [HVS.out, HT.out]; rfl
end Go.Proofs.YtmligbaalbbgiabDoor

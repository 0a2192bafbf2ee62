/- The two devices of salternlaw.ZoneKeeps, side by side, and what lies beside them, from step to step; what a step leaves of what holds of a device. -/
import Derived.Test.YtmligbaalbbgiabDoorKeepsA
import Derived.Test.YtmligbaalbbgiabDoorRefZone6
import Derived.Test.YtmligbaalbbgiabDoorRefZone7
import Derived.Test.YtmligbaalbbgiabDoorRefZone8
namespace Go.Proofs.YtmligbaalbbgiabDoor
open Go.RowKit

theorem Dev.base {w : World} {base base' b : Nat} {D : Dv} {m : Nat → Prop} (h : Dev w base b D m) (hb : base' ≤ base) : Dev w base' b D m := by
  obtain ⟨zs, wv, h⟩ := h
  exact ⟨zs, wv, h.ok, h.blk, ⟨h.rows.len, fun z hz => ownsRow_mono (h.rows.row z hz) hb, h.rows.own, h.rows.apart⟩, ownsRow_mono h.wait hb, h.waitOwn, h.own, fun k hk => ⟨Nat.le_trans hb (h.lt k hk).1, (h.lt k hk).2⟩⟩
theorem Dev.lt_ {w : World} {base b : Nat} {D : Dv} {m : Nat → Prop} (h : Dev w base b D m) (k : Nat) (hk : m k) : base ≤ k ∧ k < w.heap.size := by
  obtain ⟨_, _, h⟩ := h
  exact h.lt k hk
theorem RDev.lt_ {w : World} {base b : Nat} {D : Dv} {m : Nat → Prop} (h : RDev w base b D m) (k : Nat) (hk : m k) : base ≤ k ∧ k < w.heap.size := by
  obtain ⟨_, _, _, h⟩ := h
  exact h.lt k hk

/-- Both devices, apart, behind the world w0. -/
structure KIn (w0 wr : World) (b r : Nat) (D E : Dv) (m n : Nat → Prop) : Prop where
  z : Dev wr w0.heap.size b D m
  r : RDev wr w0.heap.size r E n
  apart : ∀ k, m k → ¬ n k
  bel : Below w0.heap.size w0 wr
section
variable {w0 wr w' : World} {b r : Nat} {D D' E E' : Dv} {m m' n n' : Nat → Prop}
theorem KIn.stepZ (h : KIn w0 wr b r D E m n) (hd : Dev w' w0.heap.size b D' m') (hm : Moves wr w' m m') : KIn w0 w' b r D' E m' n :=
  ⟨hd, h.r.other hm (fun k hk hc => h.apart k hc hk), fun k hk hn => (hm.sub k hk).elim (fun h1 => h.apart k h1 hn) (fun h1 => by have := (h.r.lt_ k hn).2; omega),
    h.bel.trans (hm.below (fun k hk => (h.z.lt_ k hk).1) h.bel.size)⟩
theorem KIn.stepR (h : KIn w0 wr b r D E m n) (hd : RDev w' w0.heap.size r E' n') (hm : Moves wr w' n n') : KIn w0 w' b r D E' m n' :=
  ⟨h.z.other hm h.apart, hd, fun k hk hn => (hm.sub k hn).elim (fun h1 => h.apart k hk h1) (fun h1 => by have := (h.z.lt_ k hk).2; omega),
    h.bel.trans (hm.below (fun k hk => (h.r.lt_ k hk).1) h.bel.size)⟩
theorem KIn.below (h : KIn w0 wr b r D E m n) (hb : Below wr.heap.size wr w') : KIn w0 w' b r D E m n := ⟨h.z.below hb, h.r.below hb, h.apart, below_step h.bel hb⟩
end
/-- A block beside both. -/
structure KX (wr : World) (m n : Nat → Prop) (X t : Nat) (cs : Array Value) : Prop where
  blk : Blk wr X t cs
  z : ¬ m X
  r : ¬ n X
section
variable {w0 wr w' : World} {m m' n n' : Nat → Prop} {X t : Nat} {cs : Array Value}
theorem KX.stepZ (h : KX wr m n X t cs) (hm : Moves wr w' m m') : KX w' m' n X t cs :=
  ⟨(hm.block X h.blk.lt h.z).trans h.blk, fun hc => (hm.sub X hc).elim h.z (fun h1 => by have := h.blk.lt; omega), h.r⟩
theorem KX.stepR (h : KX wr m n X t cs) (hm : Moves wr w' n n') : KX w' m n' X t cs :=
  ⟨(hm.block X h.blk.lt h.r).trans h.blk, h.z, fun hc => (hm.sub X hc).elim h.r (fun h1 => by have := h.blk.lt; omega)⟩
theorem KX.below (h : KX wr m n X t cs) (hb : Below wr.heap.size wr w') : KX w' m n X t cs := ⟨h.blk.below hb h.blk.lt, h.z, h.r⟩
end

/-- An operation, as plain data, and where its slices lie. -/
structure OpD where
  what : Int
  at_ : Int
  s : ByteArray
  kA : Option Addr
  kc : Nat
  ks : List Int
  sA : Option Addr
  sc : Nat
  sl : List Bool
def OpD.cells (x : OpD) : Array Value := #[.int .i64 x.what, .int .i64 x.at_, .string x.s, .slice x.kA x.ks.length x.kc, .slice x.sA x.sl.length x.sc]
/-- Operations that came in. -/
structure OpsAt (w : World) (A : Option Addr) (n : Nat) (l : List OpD) : Prop where
  hn : n = l.length
  wf : ∀ x ∈ l, x.at_ < 9223372036854775808
  at_ : ∀ i, i < n → ∃ a x, A = some a ∧ l[i]? = some x ∧ a.block < w.heap.size ∧ (∀ j v, x.cells[j]? = some v → w.cell? ((a.add (i * 5)).add j) = some v) ∧ IntsArg w (fun _ => False) x.kA x.ks ∧ BoolsArg w (fun _ => False) x.sA x.sl
theorem IntsArg.grow' {w w' : World} {m : Nat → Prop} {A : Option Addr} {ks : List Int} (h : IntsArg w (fun _ => False) A ks) (hb : Below w.heap.size w w') (hm : ∀ k, m k → w.heap.size ≤ k) : IntsArg w' m A ks := fun h0 => by
  obtain ⟨a, h1, h2, h3, h4⟩ := h h0
  refine ⟨a, h1, fun hc => by have := hm _ hc; omega, Nat.lt_of_lt_of_le h3 hb.size, fun i hi => ?_⟩
  rw [hb.cell (p := a.add i) (by rw [Go.ChangeShapes.block_add]; exact h3)]
  exact h4 i hi
theorem BoolsArg.grow' {w w' : World} {m : Nat → Prop} {A : Option Addr} {sl : List Bool} (h : BoolsArg w (fun _ => False) A sl) (hb : Below w.heap.size w w') (hm : ∀ k, m k → w.heap.size ≤ k) : BoolsArg w' m A sl := fun h0 => by
  obtain ⟨a, h1, h2, h3, h4⟩ := h h0
  refine ⟨a, h1, fun hc => by have := hm _ hc; omega, Nat.lt_of_lt_of_le h3 hb.size, fun i hi => ?_⟩
  rw [hb.cell (p := a.add i) (by rw [Go.ChangeShapes.block_add]; exact h3)]
  exact h4 i hi

/-- What the law knows of its devices. -/
structure KGood (D : Dv) (Q : Nat) : Prop where
  sure : D.SureOk
  q : D.q.length ≤ Q
  pad : ∀ z, ∀ s ∈ D.zone z, s.size = 128
theorem KGood.more {D : Dv} {Q R : Nat} (h : KGood D Q) (hq : Q ≤ R) : KGood D R := ⟨h.sure, Nat.le_trans h.q hq, h.pad⟩
theorem KGood.burn {D : Dv} {Q : Nat} (h : KGood D Q) : KGood D.burn Q := ⟨fun z => by have := h.sure z; unfold Dv.sure Dv.zone at *; rw [burn_S, burn_L]; exact this, by rw [burn_q]; exact h.q, fun z s hs => h.pad z s (by rw [burn_zone] at hs; exact hs)⟩
theorem KGood.new (Q : Nat) : KGood newD Q := by
  have hl : ∀ z, (newD.L).getD z [] = [] := fun z => by
    rcases z with _ | _ | _ | _ | _ | _ | _ | _ | z <;> rfl
  have hs : ∀ z, newD.sure z = 0 := fun z => by
    rcases z with _ | _ | _ | _ | _ | _ | _ | _ | z <;> rfl
  refine ⟨fun z => by rw [hs]; omega, Nat.zero_le _, fun z s hs => ?_⟩
  unfold Dv.zone at hs; rw [hl] at hs; simp at hs
theorem KGood.append {D : Dv} {Q : Nat} (h : KGood D Q) (hL : D.L.length = 8) (z : Int) (s : ByteArray) : KGood (appendR D z s).1 Q := by
  unfold appendR
  split
  · exact h
  · rename_i hz
    split
    · exact h
    · split
      · exact h
      · split
        · exact h
        · have hz8 : z.toNat < D.L.length := by rw [hL]; omega
          refine ⟨fun j => ?_, by show D.burn.q.length ≤ Q; rw [burn_q]; exact h.q, fun j t ht => ?_⟩
          · show D.burn.S.getD j 0 ≤ ((D.L.set z.toNat (D.zone z.toNat ++ [padB s 128])).getD j []).length
            rw [burn_S, getD_set _ _ _ _ _ hz8]
            have := h.sure j
            unfold Dv.sure at this
            by_cases hj : z.toNat = j
            · rw [if_pos hj, List.length_append, hj]; omega
            · rw [if_neg hj]; exact this
          · have ht' : t ∈ (D.L.set z.toNat (D.zone z.toNat ++ [padB s 128])).getD j [] := ht
            rw [getD_set _ _ _ _ _ hz8] at ht'
            by_cases hj : z.toNat = j
            · rw [if_pos hj] at ht'
              rcases List.mem_append.1 ht' with h1 | h1
              · exact h.pad _ t h1
              · rw [List.mem_singleton.1 h1]; exact padB_size _ _
            · rw [if_neg hj] at ht'
              exact h.pad j t ht'
theorem KGood.reset {D : Dv} {Q : Nat} (h : KGood D Q) (hL : D.L.length = 8) (hS : D.S.length = 8) (z : Int) : KGood (resetR D z).1 Q := by
  unfold resetR
  split
  · exact h
  · rename_i hz
    split
    · exact h
    · have hz8 : z.toNat < D.L.length := by rw [hL]; omega
      have hz9 : z.toNat < D.S.length := by rw [hS]; omega
      refine ⟨fun j => ?_, by show D.burn.q.length ≤ Q; rw [burn_q]; exact h.q, fun j t ht => ?_⟩
      · show (D.S.set z.toNat 0).getD j 0 ≤ ((D.L.set z.toNat []).getD j []).length
        rw [getD_set _ _ _ _ _ hz8, getD_set _ _ _ _ _ hz9]
        have := h.sure j
        by_cases hj : z.toNat = j
        · rw [if_pos hj, if_pos hj]; exact Nat.zero_le _
        · rw [if_neg hj, if_neg hj]; exact this
      · have ht' : t ∈ (D.L.set z.toNat []).getD j [] := ht
        rw [getD_set _ _ _ _ _ hz8] at ht'
        by_cases hj : z.toNat = j
        · rw [if_pos hj] at ht'; simp at ht'
        · rw [if_neg hj] at ht'
          exact h.pad j t ht'
theorem KGood.put {D : Dv} {Q : Nat} (h : KGood D Q) (k : Int) (s : ByteArray) : KGood (putR D k s).1 (Q + 1) := by
  unfold putR
  split
  · exact h.more (Nat.le_succ _)
  · split
    · exact h.more (Nat.le_succ _)
    · split
      · exact h.more (Nat.le_succ _)
      · have hb := h.burn
        exact ⟨hb.sure, by show (D.q ++ [(k.toNat, padB s 500)]).length ≤ Q + 1; have := h.q; simp; omega, hb.pad⟩
theorem lens_sure (L : List (List ByteArray)) (z : Nat) : (L.map List.length).getD z 0 ≤ (L.getD z []).length := by rw [getD_lens]; exact Nat.le_refl _
theorem KGood.sync {D : Dv} {Q : Nat} (h : KGood D Q) : KGood (syncR D).1 Q := by
  unfold syncR
  split
  · exact h
  · refine ⟨fun z => ?_, Nat.zero_le _, fun z s hs => h.pad z s ?_⟩
    · show (D.L.map List.length).getD z 0 ≤ ((syncD D).L.getD z []).length
      rw [syncD_L]
      exact lens_sure D.L z
    · unfold Dv.zone at hs ⊢
      rw [syncD_L] at hs
      exact hs
theorem KGood.fuse {D : Dv} {Q : Nat} (h : KGood D Q) (n : Int) : KGood (fuseD D n) Q := ⟨h.sure, h.q, h.pad⟩
theorem crashL_none (D : Dv) (ks : List Int) (z : Nat) (hz : ¬ z < 8) : (crashL D ks).getD z [] = [] := by simp [crashL, List.getD, hz]
theorem KGood.crash {D : Dv} {Q : Nat} (h : KGood D Q) (ks : List Int) (sl : List Bool) : KGood (crashD D ks sl) Q := by
  refine ⟨fun z => lens_sure (crashL D ks) z, Nat.zero_le _, fun z s hs => ?_⟩
  have hs' : s ∈ (crashL D ks).getD z [] := hs
  by_cases hz : z < 8
  · rw [crashL_at D ks z hz] at hs'
    exact h.pad z s (List.mem_of_mem_take hs')
  · rw [crashL_none D ks z hz] at hs'
    simp at hs'
theorem KGood.lay {D : Dv} {Q : Nat} (Z : List (List ByteArray)) (T : List ByteArray) : KGood (layD D Z T) Q := by
  have e11 : (Z.map fun l => min l.length 16) = (layL Z).map List.length := by simp [layL, Nat.min_comm]
  refine ⟨fun z => ?_, Nat.zero_le _, fun z s hs => ?_⟩
  · show (Z.map fun l => min l.length 16).getD z 0 ≤ ((layL Z).getD z []).length
    rw [e11]
    exact lens_sure (layL Z) z
  · have hs' : s ∈ (layL Z).getD z [] := hs
    by_cases hz : z < Z.length
    · rw [layL_at Z z hz] at hs'
      obtain ⟨t, _, rfl⟩ := List.mem_map.1 hs'
      exact padB_size _ _
    · have : (layL Z).getD z [] = [] := by simp [List.getD, List.getElem?_eq_none (show (layL Z).length ≤ z by rw [layL_length]; omega)]
      rw [this] at hs'
      simp at hs'
theorem FirstAt.img {w0 W : World} {m : Nat → Prop} {vs : List Value} {Z : List (List ByteArray)} {t0 t1 : ByteArray} (h : FirstAt w0 vs Z) (ok : FirstOk Z t0 t1) (hb : Below w0.heap.size w0 W) (hm : ∀ k, m k → w0.heap.size ≤ k) : ImgRead W m vs Z :=
  ⟨h.len, h.zlen, fun z hz => by
    obtain ⟨a, n, c, h1, h2⟩ := h.at_ z hz
    exact ⟨a, n, c, h1, h2.below hb, fun x hx hp hc => by have := hm _ hc; have := h2.hlt x hx hp; omega⟩, fun z hz s hs => Nat.le_trans (ok.small z hz s hs) (by omega)⟩
/-- An image of a device, for sameImage. -/
def ImgPost (w : World) (Z : List (List ByteArray)) (s0 s1 : ByteArray) (e : Ending) (w' : World) : Prop := ∃ CZ vs, e = .returned (.agg CZ) ∧ CZ = (vs ++ [Value.string s0, Value.string s1]).toArray ∧ ZsAt w' vs Z ∧ Below w.heap.size w w'
theorem imgZ {w : World} {base b : Nat} {D : Dv} {m : Nat → Prop} (h : Dev w base b D m) (hs : D.SureOk) {s0 s1 : ByteArray} (hT : D.T = [s0, s1]) :
    Calls Tryd.prog 45 #[.pointer (some ⟨b, 0, none⟩)] w (ImgPost w (imageR D) s0 s1) := by
  have hc : ∀ z, (D.zone z).length ≤ 16 := by obtain ⟨_, _, h0⟩ := h; exact h0.ok.cap
  have h1 := image_any h hs
  rw [hT] at h1
  exact h1.mono fun e w' ⟨vs, he, hi, hb⟩ => ⟨_, vs, he, rfl, ZsAt.of_img hi (fun z hz => by rw [imageR_at D z hz, List.length_take]; have := hc z; omega), hb⟩
theorem imgR {w : World} {base b : Nat} {D : Dv} {m : Nat → Prop} (h : RDev w base b D m) (hs : D.SureOk) {s0 s1 : ByteArray} (hT : D.T = [s0, s1]) :
    Calls Tryd.prog 46 #[.pointer (some ⟨b, 0, none⟩)] w (ImgPost w (imageR D) s0 s1) := by
  have hc : ∀ z, (D.zone z).length ≤ 16 := by obtain ⟨_, _, _, h0⟩ := h; exact h0.ok.cap
  have h1 := rimage_any h hs
  rw [hT] at h1
  exact h1.mono fun e w' ⟨vs, he, hi, hb⟩ => ⟨_, vs, he, rfl, ZsAt.of_img hi (fun z hz => by rw [imageR_at D z hz, List.length_take]; have := hc z; omega), hb⟩
theorem sameK {w : World} {CZ CR : Array Value} {vs us : List Value} {Z : List (List ByteArray)} {s0 s1 : ByteArray} (hZ : CZ = (vs ++ [Value.string s0, Value.string s1]).toArray) (hR : CR = (us ++ [Value.string s0, Value.string s1]).toArray) (h1 : ZsAt w vs Z) (h2 : ZsAt w us Z) :
    Calls Tryd.prog 44 #[.agg CZ, .agg CR] w fun e w' => e = .returned (.bool true) ∧ Below w.heap.size w w' := by
  rw [hZ, hR]
  exact sameImage_true s0 s1 h1 h2
/-- What a round's step leaves. -/
def KPost (w0 : World) (b r P X : Nat) (CS XS : Array Value) (Q : Nat) (wx : World) : Prop := ∃ (D : Dv) (m n : Nat → Prop), KIn w0 wx b r D D m n ∧ KX wx m n P 57 CS ∧ KX wx m n X 63 XS ∧ KGood D Q
theorem KIn.lens {w0 wr : World} {b r : Nat} {D E : Dv} {m n : Nat → Prop} (h : KIn w0 wr b r D E m n) : D.L.length = 8 ∧ D.S.length = 8 ∧ D.T.length = 2 ∧ ∀ z, (D.zone z).length ≤ 16 := by
  obtain ⟨_, _, h0⟩ := h.z
  exact ⟨h0.ok.hL, h0.ok.hS, h0.ok.hT, h0.ok.cap⟩
end Go.Proofs.YtmligbaalbbgiabDoor

/- What salternkeep.ZoneRests knows of its device, of what came in and of the image, from step to step; and what its steps do to a device. -/
import Derived.Test.YtmligbaalbbgiabDoorZoneRestsA
namespace Go.Proofs.YtmligbaalbbgiabDoor
open Go.RowKit

theorem padB_same {s : ByteArray} {n : Nat} (h : s.size = n) : padB s n = s := by
  apply bl_inj
  have e2 : bl (padB s n) = (bl s ++ List.replicate n 0).take n := rfl
  have e3 : (bl s).length = s.size := bl_length s
  rw [e2, List.take_append_of_le_length (by omega), List.take_of_length_le (by omega)]

/-- The device of the call's, and what came in, outside it. -/
structure RIn (w0 wr : World) (b : Nat) (D : Dv) (m : Nat → Prop) (Bd Ba : Nat) (a a' A : Option Addr) (n c n' c' N C : Nat) (l l' : List ByteArray) (ks : List Int) : Prop where
  z : ZIn w0 wr b D m
  d : CellOut wr m Bd (.pointer (some ⟨b, 0, none⟩))
  at_ : CellOut wr m Ba (.slice A N C)
  l : StrsOut wr m a n c l
  k : StrsOut wr m a' n' c' l'
  ks : NumsOut wr m A ks
section
variable {w0 wr w' : World} {b : Nat} {D D' : Dv} {m m' : Nat → Prop} {Bd Ba : Nat} {a a' A : Option Addr} {n c n' c' N C : Nat} {l l' : List ByteArray} {ks : List Int}
theorem RIn.step (h : RIn w0 wr b D m Bd Ba a a' A n c n' c' N C l l' ks) (hd : Dev w' w0.heap.size b D' m') (hm : Moves wr w' m m') : RIn w0 w' b D' m' Bd Ba a a' A n c n' c' N C l l' ks :=
  ⟨h.z.step hd hm, h.d.moves hm, h.at_.moves hm, h.l.moves hm, h.k.moves hm, h.ks.moves hm⟩
theorem RIn.below (h : RIn w0 wr b D m Bd Ba a a' A n c n' c' N C l l' ks) (hb : Below wr.heap.size wr w') : RIn w0 w' b D m Bd Ba a a' A n c n' c' N C l l' ks :=
  ⟨h.z.below hb, h.d.moves (.of_below hb m), h.at_.moves (.of_below hb m), h.l.moves (.of_below hb m), h.k.moves (.of_below hb m), h.ks.moves (.of_below hb m)⟩
end

/-- The image of the call's, outside the device. -/
structure IIn (wr : World) (m : Nat → Prop) (P : Nat) (vs : List Value) (Z : List (List ByteArray)) (t0 t1 : ByteArray) : Prop where
  box : Blk wr P 57 (vs ++ [Value.string t0, Value.string t1]).toArray
  out : ¬ m P
  img : ImgRead wr m vs Z
theorem IIn.moves {wr w' : World} {m m' : Nat → Prop} {P : Nat} {vs : List Value} {Z : List (List ByteArray)} {t0 t1 : ByteArray} (h : IIn wr m P vs Z t0 t1) (hm : Moves wr w' m m') : IIn w' m' P vs Z t0 t1 :=
  ⟨(hm.block P h.box.lt h.out).trans h.box, fun hc => (hm.sub _ hc).elim h.out (fun h4 => by have := h.box.lt; omega), h.img.moves hm⟩
theorem ImgRead.of_img {w : World} {base : Nat} {m : Nat → Prop} {vs : List Value} {Z : List (List ByteArray)} (h : ImgAt w base vs Z) (hz : Z.length = 8) (hm : ∀ k, m k → k < base) (hs : ∀ z, z < 8 → ∀ s, s ∈ Z.getD z [] → s.size ≤ 65536) : ImgRead w m vs Z :=
  ⟨h.len, hz, fun z hz => by
    obtain ⟨a, cap, e⟩ := ownsRow_slice (h.row z hz)
    have hr := h.row z hz
    rw [e] at hr
    refine ⟨a, _, cap, e, StrsAt.of_own hr rfl, fun x hx hp hc => ?_⟩
    subst hx
    have h1 := (hr.lt x.block rfl).1
    have h2 := hm _ hc
    omega, hs⟩
theorem ImgRead.zs {w : World} {m : Nat → Prop} {vs : List Value} {Z : List (List ByteArray)} (h : ImgRead w m vs Z) (hf : ∀ z, z < 8 → (Z.getD z []).length ≤ 65536) : ZsAt w vs Z :=
  ⟨h.len, fun z hz => by obtain ⟨a, n, c, h1, h2, _⟩ := h.at_ z hz; exact ⟨a, n, c, h1, h2⟩, hf⟩

theorem getD_lens (L : List (List ByteArray)) (z : Nat) : (L.map List.length).getD z 0 = (L.getD z []).length := by
  simp [List.getD]
  cases L[z]? <;> rfl
theorem sync_eq {D : Dv} (h : ZGood D) : syncR D = (syncD D, 0) := by unfold syncR; rw [if_neg (by rw [h.f]; omega)]
theorem ZGood.sync {D : Dv} (h : ZGood D) : ZGood (syncD D) := by
  unfold syncD
  rw [burn_one h.f, h.q]
  refine ⟨h.f, rfl, h.pad, h.slot, fun z => ?_⟩
  show (D.L.map List.length).getD z 0 ≤ (D.L.getD z []).length
  rw [getD_lens]
  exact Nat.le_refl _
theorem reset_eq {D : Dv} (h : ZGood D) (Z : Nat) (hZ : Z < 8) : resetR D (Z : Int) = ({ D with L := D.L.set Z [], S := D.S.set Z 0 }, 0) := by
  unfold resetR
  rw [if_neg (by omega), if_neg (by rw [h.f]; omega), burn_one h.f]
  simp
theorem ZGood.reset {D : Dv} (h : ZGood D) (hL : D.L.length = 8) (hS : D.S.length = 8) (Z : Nat) (hZ : Z < 8) : ZGood { D with L := D.L.set Z [], S := D.S.set Z 0 } := by
  refine ⟨h.f, h.q, fun j t ht => ?_, h.slot, fun j => ?_⟩
  · have ht' : t ∈ (D.L.set Z []).getD j [] := ht
    rw [getD_set _ _ _ _ _ (by omega)] at ht'
    split at ht'
    · simp at ht'
    · exact h.pad j t ht'
  · show (D.S.set Z 0).getD j 0 ≤ ((D.L.set Z []).getD j []).length
    rw [getD_set _ _ _ _ _ (by omega), getD_set _ _ _ _ _ (by omega)]
    have := h.sure j
    by_cases hj : Z = j
    · rw [if_pos hj, if_pos hj]; simp
    · rw [if_neg hj, if_neg hj]; exact this
theorem syncD_L (D : Dv) : (syncD D).L = D.L := by unfold syncD; simp [burn_L]
theorem syncD_T {D : Dv} (h : ZGood D) : (syncD D).T = D.T := by unfold syncD; rw [h.q]; rfl
theorem imageR_length (D : Dv) : (imageR D).length = 8 := by simp [imageR]
/-- Of what is sure nothing is cut. -/
theorem imageR_full {D : Dv} (hL : D.L.length = 8) (h : ∀ z, z < 8 → D.sure z = (D.zone z).length) : imageR D = D.L := by
  apply List.ext_getElem (by simp [imageR, hL])
  intro z h1 h2
  have hz : z < 8 := by omega
  have : D.zone z = D.L[z] := by simp [Dv.zone, List.getD, h2]
  simp [imageR, h z hz, this]
theorem imageR_sync {D : Dv} (hL : D.L.length = 8) : imageR (syncD D) = D.L := by
  rw [imageR_full (D := syncD D) (by rw [syncD_L]; exact hL) (fun z _ => ?_), syncD_L]
  show ((syncD D).S).getD z 0 = ((syncD D).L.getD z []).length
  rw [syncD_L]
  have : (syncD D).S = D.L.map List.length := rfl
  rw [this, getD_lens]
/-- An image with whole blocks and slots, laid down, is what lies there. -/
theorem lay_same {D : Dv} {Z : List (List ByteArray)} {T : List ByteArray} (hc : ∀ z, (Z.getD z []).length ≤ 16) (hp : ∀ z, ∀ s ∈ Z.getD z [], s.size = 128) (ht : ∀ t ∈ T, t.size = 500) :
    layD D Z T = { L := Z, S := Z.map List.length, T := T, q := [], f := D.f } := by
  have e1 : ∀ l ∈ Z, (l.take 16).map (fun s => padB s 128) = l := fun l hl => by
    obtain ⟨i, hi, rfl⟩ := List.getElem_of_mem hl
    have g : Z.getD i [] = Z[i] := by simp [List.getD, hi]
    have h1 := hc i
    have h2 := hp i
    rw [g] at h1 h2
    rw [List.take_of_length_le h1]
    conv => rhs; rw [← List.map_id Z[i]]
    apply List.map_congr_left
    intro s hs
    exact padB_same (h2 s hs)
  have e2 : ∀ l ∈ Z, min l.length 16 = l.length := fun l hl => by
    obtain ⟨i, hi, rfl⟩ := List.getElem_of_mem hl
    have g : Z.getD i [] = Z[i] := by simp [List.getD, hi]
    have h1 := hc i
    rw [g] at h1
    omega
  unfold layD
  congr 1
  · conv => rhs; rw [← List.map_id Z]
    exact List.map_congr_left e1
  · exact List.map_congr_left e2
  · conv => rhs; rw [← List.map_id T]
    exact List.map_congr_left fun t h => padB_same (ht t h)
theorem append_room {D : Dv} (h : ZGood D) (Z : Nat) (hZ : Z < 8) (s : ByteArray) (hs : s.size ≤ 128) (hr : (D.zone Z).length < 16) :
    appendR D (Z : Int) s = ({ D with L := D.L.set Z (D.zone Z ++ [padB s 128]) }, ((D.zone Z).length : Int), 0) := by
  unfold appendR
  rw [if_neg (by omega), if_neg (by omega), if_neg (by simp; omega), if_neg (by rw [h.f]; omega), burn_one h.f]
  simp
theorem append_full {D : Dv} (Z : Nat) (hZ : Z < 8) (s : ByteArray) (hs : s.size ≤ 128) (hr : (D.zone Z).length = 16) : appendR D (Z : Int) s = (D, 0, 12) := by
  unfold appendR
  rw [if_neg (by omega), if_neg (by omega), if_pos (by simpa using hr)]
theorem append_spent {D : Dv} (Z : Nat) (hZ : Z < 8) (s : ByteArray) (hs : s.size ≤ 128) (hr : (D.zone Z).length ≠ 16) (hf : D.f = 0) : appendR D (Z : Int) s = (D, 0, 14) := by
  unfold appendR
  rw [if_neg (by omega), if_neg (by omega), if_neg (by simpa using hr), if_pos hf]
theorem sync_spent {D : Dv} (hf : D.f = 0) : syncR D = (D, 14) := by unfold syncR; rw [if_pos hf]
theorem reset_spent {D : Dv} (Z : Nat) (hZ : Z < 8) (hf : D.f = 0) : resetR D (Z : Int) = (D, 14) := by
  unfold resetR; rw [if_neg (by omega), if_pos hf]
end Go.Proofs.YtmligbaalbbgiabDoor

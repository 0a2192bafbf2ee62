/- The function salternkeep.zoned: it returns true. No condition. -/
import Derived.Test.YtmligbaalbbgiabDoorProg
import Derived.Test.YtmligbaalbbgiabDoorZone5
import Derived.Test.YtmligbaalbbgiabDoorZone6
import Derived.Test.YtmligbaalbbgiabDoorShelf1
namespace Go.Proofs.YtmligbaalbbgiabDoor
open Go.RowKit

theorem repeatL_zeroZ (n : Nat) : Lib.repeatL [0] n = List.replicate n 0 := by
  induction n with
  | zero => rfl
  | succ n ih => rw [Lib.repeatL, ih]; rfl
theorem repeatZ (n : Int) (c : Nat) (hn : n = (c : Int)) (hc : c ≤ 65536) (w : World) :
    Calls Tryd.prog 17 #[.string ⟨#[0]⟩, .int .i64 n] w fun e w' => e = .returned (.string (ofl (List.replicate c 0))) ∧ Below w.heap.size w w' := by
  subst hn
  refine (Go.Proofs.Tryd.strings_Repeat ⟨#[0]⟩ c w (by omega) (by show 1 * c ≤ _; omega)).mono fun e w' ⟨he, hb⟩ => ⟨?_, hb⟩
  rw [he]
  show Ending.returned (Value.string (ofl (Lib.repeatL [0] c))) = _
  rw [repeatL_zeroZ]

/-- A device of the call's own. -/
structure ZIn (w wr : World) (b : Nat) (D : Dv) (m : Nat → Prop) : Prop where
  dev : Dev wr w.heap.size b D m
  bel : Below w.heap.size w wr
theorem ZIn.step {w wr w' : World} {b : Nat} {D D' : Dv} {m m' : Nat → Prop} (h : ZIn w wr b D m) (hd : Dev w' w.heap.size b D' m') (hm : Moves wr w' m m') : ZIn w w' b D' m' := by
  refine ⟨hd, h.bel.trans (hm.below (fun k hk => ?_) h.bel.size)⟩
  obtain ⟨_, _, h0⟩ := h.dev
  exact (h0.lt k hk).1
theorem ZIn.below {w wr w' : World} {b : Nat} {D : Dv} {m : Nat → Prop} (h : ZIn w wr b D m) (hb : Below wr.heap.size wr w') : ZIn w w' b D m := ⟨h.dev.below hb, below_step h.bel hb⟩
theorem ZIn.out_ {w wr : World} {b : Nat} {D : Dv} {m : Nat → Prop} (h : ZIn w wr b D m) (k : Nat) (hk : wr.heap.size ≤ k) : ¬ m k := fun hc => by
  obtain ⟨_, _, h0⟩ := h.dev
  have := (h0.lt k hc).2
  omega

def abc : List ByteArray := [⟨#[97]⟩, ⟨#[98]⟩, ⟨#[99]⟩]
/-- A new device to whose third zone the first I of three blocks were written. -/
def zD (I : Nat) : Dv := { newD with L := newD.L.set 2 ((abc.take I).map fun s => padB s 128) }
theorem zD_zero : zD 0 = newD := rfl
theorem zD_step (I : Nat) (hI : I < 3) : appendR (zD I) 2 (abc.getD I ⟨#[]⟩) = (zD (I + 1), (I : Int), 0) := by
  obtain rfl | rfl | rfl : I = 0 ∨ I = 1 ∨ I = 2 := by omega
  · rfl
  · rfl
  · rfl
def zP : Dv := { zD 3 with q := [(1, padB ⟨#[120]⟩ 500)] }
theorem zP_is : putR (zD 3) 1 ⟨#[120]⟩ = (zP, 0) := rfl
def zC : Dv := crashD zP [0, 0, 2] []
theorem zC_at : atR zC 2 = (2, 0) := rfl
theorem zC_read : readR zC 2 1 = (padB ⟨#[98]⟩ 128, 0) := rfl
theorem zC_get : getR zC 1 = (padB ⟨#[]⟩ 500, 0) := rfl
theorem pad_zero : padB ⟨#[]⟩ 500 = ofl (List.replicate 500 0) := by
  have e : bl ⟨#[]⟩ = [] := rfl
  unfold padB padL
  rw [e, List.nil_append, List.take_replicate, Nat.min_self]
theorem pad_b : (padB ⟨#[98]⟩ 128).extract 0 2 = ⟨#[98, 0]⟩ := by
  apply bl_inj
  rw [bl_extract]
  rfl
theorem errZ_zero : errZ 0 = .nilIface := rfl
theorem errZ_ne (n : Int) (h : n ≠ 0) : errZ n = .iface 35 (.int .i64 n) := by unfold errZ; rw [if_neg h]
theorem zP_sure : zP.SureOk := fun z => by
  have : zP.sure z = 0 := by
    rcases z with _ | _ | _ | _ | _ | _ | _ | _ | z <;> rfl
  omega

set_option maxRecDepth 100000 in
set_option maxHeartbeats 4000000 in
theorem zoned_any (w : World) : Calls Tryd.prog 12 #[] w fun e w' => e = .returned (.bool true) ∧ Below w.heap.size w w' := by
  go_enter Tryd.func12, Tryd.ntmps12
  go_wp2_with (go_at_call 13; refine (znew_any _).mono ?_; rintro e w1 ⟨m1, rfl, hd1, hb1⟩; have HZ1 := hide (ZIn.mk hd1 hb1); clear hd1 hb1)
  obtain ⟨b, hb⟩ : ∃ b, b = w.heap.size := ⟨_, rfl⟩
  obtain ⟨g, hg⟩ : ∃ g, g = w1.heap.size := ⟨_, rfl⟩
  obtain ⟨w2, hw2⟩ : ∃ w2, w2 = w1.alloc (.cells #[.string ⟨#[97]⟩, .string ⟨#[98]⟩, .string ⟨#[99]⟩] 9) := ⟨_, rfl⟩
  have hb2 : Below w1.heap.size w1 w2 := by rw [hw2]; exact (Below.refl _ _).alloc (Nat.le_refl _) _
  have hB2 : Blk w2 g 9 #[.string ⟨#[97]⟩, .string ⟨#[98]⟩, .string ⟨#[99]⟩] := by rw [hw2, hg]; exact Blk.new _ _ _
  have hng : ¬ m1 g := HZ1.out.out_ g (Nat.le_of_eq hg.symm)
  have HZ2 := hide (HZ1.out.below hb2)
  have HB2 := hide hB2
  have HNG := hide hng
  have HB := hide hb
  rw [← hw2, ← hg, ← hb]
  rw [← hb] at HZ2
  clear hw2 hg hb hb2 hB2 hng HZ1
  go_loopw [15] (fun i wr => ∃ I : Nat, i = .int .i64 (I : Int) ∧ I ≤ 3 ∧ ∃ m', ZIn w wr b (zD I) m' ∧ ¬ m' g ∧ Blk wr g 9 #[.string ⟨#[97]⟩, .string ⟨#[98]⟩, .string ⟨#[99]⟩]) (fun i _ => 3 - (intOf i).toNat)
  case atStart => exact ⟨0, rfl, by omega, m1, HZ2.out, HNG.out, HB2.out⟩
  case round =>
    clear HZ2 HNG HB2
    obtain ⟨I, rfl, hI, m2, hz, hng, hB⟩ := hrel
    by_cases hlt : I < 3
    · have d1 : decide ((I : Int) < 3) = true := by simp; omega
      have i1 : (I : Int) < 3 := by omega
      have i2 : (0 : Int) ≤ (I : Int) := by omega
      obtain ⟨s, hs⟩ : ∃ s, s = abc.getD I ⟨#[]⟩ := ⟨_, rfl⟩
      have cx : wr.cell? ⟨g, I, none⟩ = some (.string s) := by
        rw [hB.cell, hs]
        obtain rfl | rfl | rfl : I = 0 ∨ I = 1 ∨ I = 2 := by omega
        · rfl
        · rfl
        · rfl
      have ha := append_any hz.dev 2 s
      rw [hs, zD_step I hlt, ← hs] at ha
      dsimp only at ha
      rw [errZ_zero] at ha
      have HA := hide ha
      have HZ := hide hz
      have HNG := hide hng
      have HBB := hide hB
      clear hz hng hB hs ha
      go_wp2_with (go_at_call 15; refine HA.out.mono ?_; rintro e w3 ⟨rfl, m3, hd3, hm3⟩; have HZ3 := hide (HZ.out.step hd3 hm3); have hB3 := hm3.block g HBB.out.lt HNG.out; have HB3 : Hid (Blk w3 g _ _) := hide (hB3.trans HBB.out); have HN3 := hide (fun hc : m3 g => (hm3.sub g hc).elim HNG.out (fun h => by have := HBB.out.lt; omega)); clear hd3 hm3 hB3)
      refine ⟨⟨I + 1, by go_num, by omega, _, HZ3.out, HN3.out, HB3.out⟩, by simp [intOf]; omega⟩
    · obtain rfl : I = 3 := by omega
      have d1 : decide ((3 : Int) < 3) = false := by simp
      have HZ := hide hz
      have hp := put_any hz.dev 1 ⟨#[120]⟩ (by decide)
      rw [zP_is] at hp
      dsimp only at hp
      rw [errZ_zero] at hp
      have HPUT := hide hp
      clear hz hng hB hp
      rw [show ((3 : Nat) : Int) = 3 from rfl]
      go_upto_region 11 with (go_at_call 34; refine HPUT.out.mono ?_; rintro e w3 ⟨rfl, m3, hd3, hm3⟩; have HZ3 := hide (HZ.out.step hd3 hm3); clear hd3 hm3)
      obtain ⟨w4, hw4⟩ : ∃ w4, w4 = w3.alloc (.cells #[.int .i64 0, .int .i64 0, .int .i64 2] 3) := ⟨_, rfl⟩
      obtain ⟨g2, hg2⟩ : ∃ g2, g2 = w3.heap.size := ⟨_, rfl⟩
      have hb4 : Below w3.heap.size w3 w4 := by rw [hw4]; exact (Below.refl _ _).alloc (Nat.le_refl _) _
      have hB4 : Blk w4 g2 3 #[.int .i64 0, .int .i64 0, .int .i64 2] := by rw [hw4, hg2]; exact Blk.new _ _ _
      have hz4 := HZ3.out.below hb4
      have hks : IntsArg w4 m3 (some ⟨g2, 0, none⟩) [0, 0, 2] := fun _ => by
        refine ⟨_, rfl, HZ3.out.out_ g2 (Nat.le_of_eq hg2.symm), hB4.lt, fun i hi => ?_⟩
        rw [show (⟨g2, 0, none⟩ : Addr).add i = ⟨g2, i, none⟩ from by (unfold Addr.add; split <;> simp_all), hB4.cell]
        have hi' : i < 3 := hi
        obtain rfl | rfl | rfl : i = 0 ∨ i = 1 ∨ i = 2 := by omega
        · rfl
        · rfl
        · rfl
      have hcr := crash_any hz4.dev (by decide) zP_sure (some ⟨g2, 0, none⟩) none 3 0 [0, 0, 2] [] hks (fun h => by simp at h)
      obtain ⟨C, hC⟩ : ∃ C, C = crashD zP [0, 0, 2] [] := ⟨_, rfl⟩
      rw [← hC] at hcr
      have t1 : atR C 2 = (2, 0) := by rw [hC]; exact zC_at
      have t2 : readR C 2 1 = (padB ⟨#[98]⟩ 128, 0) := by rw [hC]; exact zC_read
      have t3 : getR C 1 = (padB ⟨#[]⟩ 500, 0) := by rw [hC]; exact zC_get
      have t4 : C.q = [] := by rw [hC]; rfl
      simp only [List.length_cons, List.length_nil, Nat.zero_add, Nat.reduceAdd] at hcr
      have HCR := hide hcr
      have HZ4 := hide hz4
      have T1 := hide t1
      have T2 := hide t2
      have T3 := hide t3
      have T4 := hide t4
      clear HZ3 hb4 hB4 hz4 hks hcr hC t1 t2 t3 t4
      go_upto_region 12 with (go_at_call 40; rw [← hw4, ← hg2]; refine HCR.out.mono ?_; rintro e w5 ⟨rfl, m5, hd5, hm5⟩; have HZ5 := hide (HZ4.out.step hd5 hm5); clear hd5 hm5)
      have h1 := at_any HZ5.out.dev 2
      have h2 := read_any HZ5.out.dev 2 1
      have h3 := get_any HZ5.out.dev 1 (by rw [T4.out]; simp)
      rw [T1.out] at h1
      rw [T2.out] at h2
      rw [T3.out] at h3
      dsimp only at h1 h2 h3
      rw [errZ_zero] at h1 h2 h3
      obtain ⟨s1, hs1⟩ : ∃ s, s = padB ⟨#[98]⟩ 128 := ⟨_, rfl⟩
      obtain ⟨s2, hs2⟩ : ∃ s, s = padB ⟨#[]⟩ 500 := ⟨_, rfl⟩
      rw [← hs1] at h2
      rw [← hs2] at h3
      have l1 : s1.size = 128 := by rw [hs1, padB_size]
      have l2 : s1.extract 0 2 = ⟨#[98, 0]⟩ := by rw [hs1]; exact pad_b
      have l3 : 2 ≤ s1.size := by omega
      have l4 : ofl (List.replicate 500 0) = s2 := by rw [hs2, pad_zero]
      have K1 := hide h1
      have K2 := hide h2
      have K3 := hide h3
      have L4 := hide l4
      have L2 := hide l2
      clear h1 h2 h3 hs1 hs2 HPUT HCR HZ4 HZ l2 l4
      go_upto_region 15 with (first
        | (go_at_call 18; refine K1.out.mono ?_; rintro e w6 ⟨rfl, rfl⟩)
        | (go_at_call 19; refine K2.out.mono ?_; rintro e w7 ⟨rfl, rfl⟩)
        | (go_at_call 50; refine K3.out.mono ?_; rintro e w8 ⟨rfl, hb8⟩; have HZ8 := hide (HZ5.out.below hb8); clear hb8))
      have l2 := L2.out
      go_wp2_with (go_at_call 17; refine (repeatZ _ 500 rfl (by omega) _).mono ?_; rintro e w9 ⟨rfl, hb9⟩; rw [L4.out]; have HZ9 := hide (HZ8.out.below hb9); clear hb9)
      go_ret
      exact ⟨rfl, HZ9.out.bel⟩
end Go.Proofs.YtmligbaalbbgiabDoor

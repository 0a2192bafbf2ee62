/- The reference's device: Put. Conditions: a device lies at the receiver; at most 65536 writes wait. -/
import Derived.Test.YtmligbaalbbgiabDoorRefZone3
namespace Go.Proofs.YtmligbaalbbgiabDoor
open Go.RowKit

theorem rwhat_after {w1 wA w2 : World} {base b : Nat} {D : Dv} {m : Nat → Prop} {zs : List Value} {av wv : Value} (h : RDevAt w1 base b D m zs av wv) {oA : Obj} (hA : (w1.alloc oA).drew.grownBy wA av.ownBlock) (h2 : Below wA.heap.size wA w2) (o : Obj) :
    (w2.alloc o).ownsRow base 9 1 wv D.q.length (qWhat D.q) := by
  have s1 : w1.heap.size + 1 ≤ wA.heap.size := by have := hA.size; simp at this; exact this
  refine World.ownsRow.alloc (ownsRow_same h.what (fun g hg => ?_)) o
  have hg1 := (h.lt g (h.whatOwn g hg)).2
  rw [h2.block g (by omega), hA.block g (by simp; omega) (fun he => ownsRow_ne h.at_ h.what (by decide) he.symm hg)]
  exact Below.heap_alloc w1 oA g hg1

set_option maxRecDepth 100000 in
set_option maxHeartbeats 2000000 in
theorem rput_good {w : World} {base b : Nat} {D : Dv} {m : Nat → Prop} (h : RDev w base b D m) (k : Nat) (hk : k < 2) (s : ByteArray) (hs : s.size ≤ 500) (hf : D.f ≠ 0) (hl : D.q.length ≤ 65536) :
    Calls Tryd.prog 35 #[.pointer (some ⟨b, 0, none⟩), .int .i64 (k : Int), .string s] w fun e w' => e = .returned (.int .i64 0) ∧
      ∃ m', RDev w' base b { D.burn with q := D.q ++ [(k, padB s 500)] } m' ∧ Moves w w' m m' := by
  obtain ⟨i0, hi0, hz0, hz1, hz2⟩ := info_parts info_str
  obtain ⟨j0, hj0, hy0, hy1, hy2⟩ := info_parts info_i64z
  have HI := hide (fun w => refin_is (k : Int) 0 1 true (by simp; omega) w)
  have c3 : decide (500 < s.size) = false := by simp; omega
  have c3' : decide ((500 : Int) < (s.size : Int)) = false := by simp; omega
  have d0 : decide (D.f = 0) = false := by simp [hf]
  have H := hide h
  have HK := hide hk
  have HL := hide hl
  have HS : Hid (s.size ≤ 65536) := hide (by omega)
  obtain ⟨S, hS⟩ : ∃ S, S = padB s 500 := ⟨_, rfl⟩
  have HSd := hide hS
  clear h hf hl hs hS hk
  go_enter Tryd.func35, Tryd.ntmps35
  go_upto_region 7 with (first
    | (go_at_call 81; refine (HI.out _).mono ?_; rintro e w1 ⟨rfl, rfl⟩)
    | (go_at_call 88; refine (rspent_any H.out).mono ?_; rintro e w1 ⟨rfl, h1, hm1⟩; rw [d0]; have H1 := hide h1; have HM1 := hide hm1; clear h1 hm1))
  obtain ⟨zs1, av1, wv1, h1⟩ := H1.out
  obtain ⟨B, hB⟩ : ∃ B, B = D.burn := ⟨_, rfl⟩
  rw [← hB] at h1
  have ka := h1.cellA
  have kw := h1.cellW
  have kb := h1.blk.lt
  have HW1 := hide h1
  have HB := hide hB
  have HLB : Hid (B.q.length ≤ 65536) := hide (by rw [hB, burn_q]; exact HL.out)
  have HBS : Hid (base ≤ w1.heap.size) := hide (by have := (h1.lt b h1.own).1; omega)
  clear h1 hB
  go_region_law (first
    | (go_simp; go_at_call 85; refine (rlong_any s 500 HS.out (by omega) _).mono ?_; rintro e w2 ⟨rfl, hb2⟩; rw [← HSd.out]; have HB2 := hide hb2; (try clear kw2); have kw2 : w2.cell? ⟨b, 19, none⟩ = some wv1 := (hb2.cell (p := ⟨b, 19, none⟩) kbA).trans kwA; (try clear kb2); have kb2 : b < w2.heap.size := Nat.lt_of_lt_of_le kbA hb2.size; clear hb2)
    | (refine step_append_lies _ (by rfl) _ _ _ (by rfl) base 3 j0 _ 1 8 Tryd.underlying23 hj0 hy0 hy1 hy2 rfl (by omega) av1 B.q.length (qAt B.q) (by rfl) (HW1.out.at_.alloc _).drew ⟨w1.heap.size, 0, none⟩ 1 1 [natV k] (by rfl) (by rfl) (World.news_of_block (fr := (0, 0)) (heap_alloc_new w1 _)) (by simp [Value.oneCell', natV]) (by omega) (by unfold maxLen; have := HLB.out; omega) (by have := HLB.out; omega) (by have := HBS.out; simp; omega) (w1.heap.size + 1) (by simp) ?_; intro ga ca wA hownA hgrowA hatA hltA; have HOA := hide hownA; have HGA := hide hgrowA; have HTA := hide hatA; have kbA : b < wA.heap.size := (by have := hgrowA.size; simp at this; omega); have kwA : wA.cell? ⟨b, 19, none⟩ = some wv1 := (by rw [hgrowA.cell_far ⟨b, 19, none⟩ (by simp; omega) (fun he => HW1.out.neAt he.symm)]; show (w1.alloc _).cell? _ = _; rw [World.cell?_alloc_lt _ _ _ kb]; exact kw); clear hownA hgrowA hatA hltA)
    | (refine step_append_lies _ (by rfl) _ _ _ (by rfl) base 9 i0 _ 1 16 Tryd.underlying22 hi0 hz0 hz1 hz2 rfl (by omega) wv1 B.q.length (qWhat B.q) (by rfl) (rwhat_after HW1.out HGA.out HB2.out _) ⟨w2.heap.size, 0, none⟩ 1 1 [.string S] (by rfl) (by rfl) (World.news_of_block (fr := (0, 0)) (heap_alloc_new w2 _)) (by simp [Value.oneCell']) (by omega) (by unfold maxLen; have := HLB.out; omega) (by have := HLB.out; omega) (by have := HBS.out; have := HB2.out.size; have := HGA.out.size; simp at *; omega) (w2.heap.size + 1) (by simp) ?_; intro gb cb w3 hown3 hgrow3 hat3 hlt3; obtain ⟨⟨e1, e2, e3, e4⟩, e5, e6⟩ := rput_end HW1.out HGA.out ga ca gb cb k HK.out S HOA.out HTA.out HB2.out hgrow3 hown3 hat3; have E5 := hide e5; have E6 := hide e6; clear e5 e6 hown3 hgrow3 hat3 hlt3))
  all_goals
    have hD : ({ L := B.L, S := B.S, T := B.T, q := B.q ++ [(k, S)], f := B.f } : Dv) = { D.burn with q := D.q ++ [(k, padB s 500)] } := by rw [HB.out, burn_q, HSd.out]
    rw [hD] at E5
    have E7 := hide (HM1.out.trans E6.out)
    clear hD E6 HW1 e1 e2 e3 e4 HB2 HOA HGA HTA ka kw kb kbA kwA kb2 kw2
    go_wp2_with fail
    go_ret
    exact ⟨rfl, _, ⟨_, _, _, E5.out⟩, E7.out⟩
end Go.Proofs.YtmligbaalbbgiabDoor

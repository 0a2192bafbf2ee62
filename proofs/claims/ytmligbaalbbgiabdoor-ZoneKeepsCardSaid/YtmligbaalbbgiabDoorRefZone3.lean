/- The reference's device: Put, Get. Conditions: a device lies at the receiver; at most 65536 writes wait; a text of at most 65536 bytes. -/
import Derived.Test.YtmligbaalbbgiabDoorRefZone2
import Derived.Test.YtmligbaalbbgiabDoorZone6
namespace Go.Proofs.YtmligbaalbbgiabDoor
open Go.RowKit

theorem qAt_append (a b : List (Nat × ByteArray)) : qAt (a ++ b) = qAt a ++ qAt b := by simp [qAt]
theorem qWhat_append (a b : List (Nat × ByteArray)) : qWhat (a ++ b) = qWhat a ++ qWhat b := by simp [qWhat, strsV]
theorem info_i64z : (Tryd.prog.info? 3).map (fun i => (i.zero, i.size, i.bytes)) = some (some (.int .i64 0), 1, 8) := by kernel_rfl

/-- What stands behind the two appends of a Put, before they are stored. -/
theorem rput_end {w1 wA w2 w3 : World} {base b : Nat} {D : Dv} {m : Nat → Prop} {zs : List Value} {av wv : Value} (h : RDevAt w1 base b D m zs av wv) {oA oB : Obj} (hA : (w1.alloc oA).drew.grownBy wA av.ownBlock) (ga ca gb cb k : Nat) (hk : k < 2) (s : ByteArray)
    (hownA : wA.ownsRow base 3 1 (.slice (some ⟨ga, 0, none⟩) (D.q.length + 1) ca) (D.q.length + 1) (qAt D.q ++ [natV k])) (hatA : av.ownBlock = some ga ∨ ga = w1.heap.size + 1) (h2 : Below wA.heap.size wA w2)
    (h3 : (w2.alloc oB).grownBy w3 wv.ownBlock) (hown3 : w3.ownsRow base 9 1 (.slice (some ⟨gb, 0, none⟩) (D.q.length + 1) cb) (D.q.length + 1) (qWhat D.q ++ [.string s])) (hat3 : wv.ownBlock = some gb ∨ gb = w2.heap.size + 1) :
    (w3.cell? ⟨b, 18, none⟩ = some av ∧ w3.frozen? ⟨b, 18, none⟩ = false ∧ w3.cell? ⟨b, 19, none⟩ = some wv ∧ w3.frozen? ⟨b, 19, none⟩ = false) ∧
    RDevAt ((w3.setCell ⟨b, 18, none⟩ (.slice (some ⟨ga, 0, none⟩) (D.q.length + 1) ca)).setCell ⟨b, 19, none⟩ (.slice (some ⟨gb, 0, none⟩) (D.q.length + 1) cb)) base b { D with q := D.q ++ [(k, s)] } (plus m w1.heap.size w3.heap.size) zs (.slice (some ⟨ga, 0, none⟩) (D.q.length + 1) ca) (.slice (some ⟨gb, 0, none⟩) (D.q.length + 1) cb) ∧
    Moves w1 ((w3.setCell ⟨b, 18, none⟩ (.slice (some ⟨ga, 0, none⟩) (D.q.length + 1) ca)).setCell ⟨b, 19, none⟩ (.slice (some ⟨gb, 0, none⟩) (D.q.length + 1) cb)) m (plus m w1.heap.size w3.heap.size) := by
  have s1 : w1.heap.size + 1 ≤ wA.heap.size := by have := hA.size; simp at this; exact this
  have s2 : w1.heap.size + 1 ≤ w2.heap.size := Nat.le_trans s1 h2.size
  have s3 : w2.heap.size + 1 ≤ w3.heap.size := by have := h3.size; simp at this; exact this
  have hk1 : ∀ k, k < w1.heap.size → some k ≠ av.ownBlock → some k ≠ wv.ownBlock → w3.heap[k]? = w1.heap[k]? := fun k hk ha hw => by
    have e1 : wA.heap[k]? = w1.heap[k]? := (hA.block k (by simp; omega) ha).trans (Below.heap_alloc w1 oA k hk)
    have e2 : w2.heap[k]? = wA.heap[k]? := h2.block k (by omega)
    have e3 : w3.heap[k]? = w2.heap[k]? := (h3.block k (by simp; omega) hw).trans (Below.heap_alloc w2 oB k (by omega))
    rw [e3, e2, e1]
  have hB : Blk w3 b 134 (dCells zs D.S D.T [av, wv, .int .i64 D.f]) := (hk1 b h.blk.lt (fun he => h.neAt he.symm) (fun he => h.neWhat he.symm)).trans h.blk
  have hga : wA.heap.size > ga := (hownA.lt ga rfl).2
  have hnw : wv.ownBlock ≠ some ga := fun he => by
    rcases hatA with h1 | h1
    · exact ownsRow_ne h.at_ h.what (by decide) h1 he
    · have := (h.lt ga (h.whatOwn ga he)).2
      omega
  have hv : w3.ownsRow base 3 1 (.slice (some ⟨ga, 0, none⟩) (D.q.length + 1) ca) (D.q.length + 1) (qAt D.q ++ [natV k]) := by
    refine ownsRow_same hownA (fun g hg => ?_)
    have hgg : ga = g := by simpa [Value.ownBlock] using hg
    subst hgg
    rw [h3.block ga (by have := h2.size; simp; omega) (fun he => hnw he.symm), Below.heap_alloc w2 oB ga (by have := h2.size; omega)]
    exact h2.block ga hga
  have hq : ∀ p ∈ D.q ++ [(k, s)], p.1 < 2 := fun p hp => by
    rcases List.mem_append.1 hp with h1 | h1
    · exact h.ok.q p h1
    · rw [List.mem_singleton.1 h1]; exact hk
  have el : (D.q ++ [(k, s)]).length = D.q.length + 1 := by simp
  have cell18 : w3.cell? ⟨b, 18, none⟩ = some av := by
    rw [hB.cell, dCells_r (k := 0) h.rows.len h.ok.hS h.ok.hT]; rfl
  have cell19 : w3.cell? ⟨b, 19, none⟩ = some wv := by
    rw [hB.cell, dCells_r (k := 1) h.rows.len h.ok.hS h.ok.hT]; rfl
  refine ⟨⟨cell18, hB.frozen 18, cell19, hB.frozen 19⟩, ?_, ?_⟩
  · refine h.setQ (by omega) hk1 _ _ (D.q ++ [(k, s)]) hq (by rw [el, qAt_append]; exact hv) (by rw [el, qWhat_append]; exact hown3) (fun g hg => ?_) (fun g hg => ?_)
    · have hgg : ga = g := by simpa [Value.ownBlock] using hg
      subst hgg
      exact hatA.imp id (fun h => by omega)
    · have hgg : gb = g := by simpa [Value.ownBlock] using hg
      subst hgg
      exact hat3.imp id (fun h => by omega)
  · exact h.setQ_moves (by rw [h3.os]; exact h2.os.trans hA.os) (by rw [h3.tape]; exact h2.tape.trans hA.tape) (by rw [h3.output]; exact h2.output.trans hA.output) (by omega) hk1 _ _

/-- What waits, J-th. -/
theorem RDevAt.waitIs {w : World} {base b : Nat} {D : Dv} {m : Nat → Prop} {zs : List Value} {av wv : Value} (h : RDevAt w base b D m zs av wv) (J : Nat) (hJ : J < D.q.length) :
    ∃ ga ca gb cb at_ tx, at_ = (D.q.getD J (0, ⟨#[]⟩)).1 ∧ tx = (D.q.getD J (0, ⟨#[]⟩)).2 ∧ at_ < 2 ∧ av = .slice (some ⟨ga, 0, none⟩) D.q.length ca ∧ wv = .slice (some ⟨gb, 0, none⟩) D.q.length cb ∧ w.cell? ⟨ga, J, none⟩ = some (.int .i64 (at_ : Int)) ∧ w.cell? ⟨gb, J, none⟩ = some (.string tx) ∧ ga ≠ b ∧ gb ≠ b := by
  have e0 : D.q.getD J (0, ⟨#[]⟩) = D.q[J] := by simp [List.getD, hJ]
  obtain ⟨ga, ca, ha, hca⟩ : ∃ ga ca, av = .slice (some ⟨ga, 0, none⟩) D.q.length ca ∧ w.cell? ⟨ga, J, none⟩ = some (natV (D.q.getD J (0, ⟨#[]⟩)).1) := by
    rcases h.at_.2 with ⟨_, h2⟩ | ⟨g, cap, cur, h1, _, hg, _, _, _, hx⟩
    · omega
    · refine ⟨g, cap, h1, ?_⟩
      rw [cell_of_row w g J cur _ (0, 0) hg]
      have h3 : (qAt D.q)[J]? = cur[J]? := by
        rw [← hx, List.getElem?_take_of_lt (by omega)]
        simp
      rw [← h3, e0]
      simp [qAt, hJ]
  obtain ⟨gb, cb, hb, hcb⟩ : ∃ gb cb, wv = .slice (some ⟨gb, 0, none⟩) D.q.length cb ∧ w.cell? ⟨gb, J, none⟩ = some (.string (D.q.getD J (0, ⟨#[]⟩)).2) := by
    rcases h.what.2 with ⟨_, h2⟩ | ⟨g, cap, cur, h1, _, hg, _, _, _, hx⟩
    · omega
    · refine ⟨g, cap, h1, ?_⟩
      rw [cell_of_row w g J cur _ (0, 0) hg]
      have h3 : (qWhat D.q)[J]? = cur[J]? := by
        rw [← hx, List.getElem?_take_of_lt (by omega)]
        simp
      rw [← h3, e0]
      simp [qWhat, strsV, hJ]
  refine ⟨ga, ca, gb, cb, _, _, rfl, rfl, ?_, ha, hb, hca, hcb, ?_, ?_⟩
  · rw [e0]; exact h.ok.q _ (List.getElem_mem hJ)
  · rintro rfl; exact h.neAt (by rw [ha]; rfl)
  · rintro rfl; exact h.neWhat (by rw [hb]; rfl)
theorem RDevAt.waitForm {w : World} {base b : Nat} {D : Dv} {m : Nat → Prop} {zs : List Value} {av wv : Value} (h : RDevAt w base b D m zs av wv) : ∃ a c a' c', av = .slice a D.q.length c ∧ wv = .slice a' D.q.length c' := by
  obtain ⟨a, c, h1⟩ : ∃ a c, av = .slice a D.q.length c := by
    rcases h.at_.2 with ⟨h1, h2⟩ | ⟨g, cap, cur, h1, _⟩
    · exact ⟨none, 0, by rw [h1, h2]⟩
    · exact ⟨_, cap, h1⟩
  obtain ⟨a', c', h2⟩ : ∃ a c, wv = .slice a D.q.length c := by
    rcases h.what.2 with ⟨h1, h2⟩ | ⟨g, cap, cur, h1, _⟩
    · exact ⟨none, 0, by rw [h1, h2]⟩
    · exact ⟨_, cap, h1⟩
  exact ⟨a, c, a', c', h1, h2⟩

set_option maxRecDepth 100000 in
set_option maxHeartbeats 2000000 in
theorem rget_any {w : World} {base b : Nat} {D : Dv} {m : Nat → Prop} (h : RDev w base b D m) (k : Int) (hl : D.q.length ≤ 65536) :
    Calls Tryd.prog 49 #[.pointer (some ⟨b, 0, none⟩), .int .i64 k] w fun e w' => e = .returned (.tuple #[.string (getR D k).1, .int .i64 (getR D k).2]) ∧ w = w' := by
  obtain ⟨zs, av, wv, h⟩ := h
  by_cases h1 : k < 0 ∨ 1 < k
  · have HI := hide (fun w => refin_is k 0 1 false (by simp; omega) w)
    have e : getR D k = (⟨#[]⟩, 2) := by unfold getR; rw [if_pos h1]
    rw [e]
    clear h h1 e
    go_enter Tryd.func49, Tryd.ntmps49
    go_wp2_with (go_at_call 81; refine (HI.out _).mono ?_; rintro e w1 ⟨rfl, rfl⟩)
    go_ret2
    exact ⟨rfl, rfl⟩
  · obtain ⟨K, rfl⟩ := Int.eq_ofNat_of_zero_le (show 0 ≤ k by omega)
    have hK : K < 2 := by omega
    have HI := hide (fun w => refin_is (K : Int) 0 1 true (by simp; omega) w)
    have e : getR D (K : Int) = ((putAll D.T D.q).getD K ⟨#[]⟩, 0) := by unfold getR; rw [if_neg h1]; simp
    rw [e]
    obtain ⟨aA, cA, aW, cW, hav, hwv⟩ := h.waitForm
    have kT := h.cellT K hK
    have kA := h.cellA
    have kW := h.cellW
    rw [hav] at kA
    rw [hwv] at kW
    obtain ⟨n, hn⟩ : ∃ n, n = D.q.length := ⟨_, rfl⟩
    obtain ⟨s0, hs0⟩ : ∃ s0, s0 = D.T.getD K ⟨#[]⟩ := ⟨_, rfl⟩
    rw [← hn] at kA kW hl
    rw [← hs0] at kT
    have i1 : (K : Int) < 2 := by omega
    have i0 : (0 : Int) ≤ (K : Int) := by omega
    have H := hide h
    have HAV := hide hav
    have HWV := hide hwv
    have HN := hide hn
    have HS0 := hide hs0
    have HT := hide h.ok.hT
    clear h h1 e hav hwv hn hs0
    go_enter Tryd.func49, Tryd.ntmps49
    go_wp2_with (go_at_call 81; refine (HI.out _).mono ?_; rintro e w1 ⟨rfl, rfl⟩)
    go_loop [6, 23] (fun sv iv => ∃ I : Nat, iv = .int .i64 (I : Int) ∧ I ≤ n ∧ sv = .string ((putAll D.T (D.q.take I)).getD K ⟨#[]⟩)) (fun _ iv => n - (intOf iv).toNat)
    case atStart => exact ⟨0, rfl, by omega, by rw [HS0.out]; rfl⟩
    case round =>
      obtain ⟨I, rfl, hI, rfl⟩ := hrel
      by_cases hlt : I < n
      · have d0 : decide (I < n) = true := by simpa using hlt
        obtain ⟨ga, ca, gb, cb, at_, tx, hat, htx, hat2, ha, hb, k1, k2, -, -⟩ := H.out.waitIs I (by rw [← HN.out]; exact hlt)
        rw [HAV.out, ← HN.out] at ha
        rw [HWV.out, ← HN.out] at hb
        injection ha with p1 p2 p3
        injection hb with q1 q2 q3
        obtain rfl := p1
        obtain rfl := q1
        obtain ⟨s, hs⟩ : ∃ s, s = (putAll D.T (D.q.take I)).getD K ⟨#[]⟩ := ⟨_, rfl⟩
        have hstep : (putAll D.T (D.q.take (I + 1))).getD K ⟨#[]⟩ = if at_ = K then tx else s := by
          rw [putAll_step D.T D.q I (by rw [← HN.out]; exact hlt), getD_set _ _ _ _ _ (by rw [putAll_length, HT.out, ← hat]; exact hat2), ← hat, ← htx, ← hs]
        rw [← hs]
        have HST := hide hstep
        clear hat htx p2 p3 q2 q3 hs hstep
        by_cases he : at_ = K
        · subst he
          have d1 : ((at_ : Int) == (at_ : Int)) = true := by simp
          have d1' : (at_ == at_) = true := by simp
          go_wp2_with fail
          refine ⟨⟨I + 1, by go_num, by omega, ?_⟩, by simp [intOf]; omega⟩
          rw [HST.out, if_pos rfl]
        · have d1 : ((at_ : Int) == (K : Int)) = false := by simp; omega
          have d1' : (at_ == K) = false := by simpa using he
          have HE := hide he
          clear he
          go_wp2_with fail
          refine ⟨⟨I + 1, by go_num, by omega, ?_⟩, by simp [intOf]; omega⟩
          rw [HST.out, if_neg HE.out]
      · obtain rfl : I = n := by omega
        have d0 : decide (I < I) = false := by simp
        have ht : D.q.take I = D.q := by rw [HN.out, List.take_length]
        rw [ht]
        clear ht
        go_wp2_with fail
        go_ret2
        exact ⟨rfl, rfl⟩
end Go.Proofs.YtmligbaalbbgiabDoor

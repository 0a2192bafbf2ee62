/- The functions salternlaw.sameTexts, sameImage, wide, bare, where ZoneKeeps calls them. Conditions: what they are given can be read; errors has laid its variable. -/
import Derived.Test.YtmligbaalbbgiabDoorZoneImg
import Derived.Test.YtmligbaalbbgiabDoorTell
namespace Go.Proofs.YtmligbaalbbgiabDoor
open Go.RowKit

theorem bareZ (n : Int) (w : World) (hg : LaidE w) : Calls Tryd.prog 27 #[errZ n, .int .i64 n] w fun e w' => e = .returned (.bool true) ∧ Below w.heap.size w w' := by
  unfold errZ
  by_cases h : n = 0
  · subst h
    rw [if_pos rfl]
    exact (bare_nil 0 w).mono fun e w' ⟨he, hw⟩ => ⟨he, hw ▸ Below.refl _ _⟩
  · rw [if_neg h]
    exact (bare_errno n n w hg).mono fun e w' ⟨he, hb⟩ => ⟨by rw [he]; simp, hb⟩

set_option maxRecDepth 100000 in
set_option maxHeartbeats 2000000 in
theorem sameTexts_true {w : World} {a1 a2 : Option Addr} {n1 c1 n2 c2 : Nat} {l : List ByteArray} (h1 : StrsAt w a1 n1 c1 l) (h2 : StrsAt w a2 n2 c2 l) (hn : l.length ≤ 65536) :
    Calls Tryd.prog 94 #[.slice a1 n1 c1, .slice a2 n2 c2] w fun e w' => e = .returned (.bool true) ∧ Below w.heap.size w w' := by
  obtain rfl : n1 = n2 := by rw [h1.hn, h2.hn]
  have d1 : ((n1 : Int) != (n1 : Int)) = false := by simp
  have d1' : (n1 != n1) = false := by simp
  have H1 := hide h1
  have H2 := hide h2
  have HNN := hide hn
  clear h1 h2 hn
  go_enter Tryd.func94, Tryd.ntmps94
  go_wp2_with fail
  go_loopw [5] (fun i wr => ∃ I : Nat, i = .int .i64 (I : Int) ∧ I ≤ n1 ∧ Below w.heap.size w wr) (fun i _ => n1 - (intOf i).toNat)
  case atStart => exact ⟨0, rfl, by omega, Below.refl _ _⟩
  case round =>
    obtain ⟨I, rfl, hI, hb⟩ := hrel
    have HB := hide hb
    have hn65 : n1 ≤ 65536 := by rw [H1.out.hn]; exact HNN.out
    by_cases hlt : I < n1
    · have d0 : decide (I < n1) = true := by simpa using hlt
      have hI1 : I < l.length := by rw [← H1.out.hn]; exact hlt
      obtain ⟨x1, rfl⟩ : ∃ x, a1 = some x := by
        cases a1 with
        | none => have := (H1.out.hz rfl).1; omega
        | some x => exact ⟨x, rfl⟩
      obtain ⟨x2, rfl⟩ : ∃ x, a2 = some x := by
        cases a2 with
        | none => have := (H2.out.hz rfl).1; omega
        | some x => exact ⟨x, rfl⟩
      have k1 := (H1.out.below hb).hcell x1 rfl I hI1
      have k2 := (H2.out.below hb).hcell x2 rfl I hI1
      obtain ⟨s1, hs1⟩ : ∃ s, s = l.getD I ⟨#[]⟩ := ⟨_, rfl⟩
      rw [← hs1] at k1 k2
      have j1 : (I : Int) < (n1 : Int) := by omega
      have j0 : (0 : Int) ≤ (I : Int) := by omega
      clear hb hs1 hI1
      go_upto_region 6 with fail
      go_quiet (fail)
      go_wp2_with fail
      refine ⟨⟨I + 1, by go_num, by omega, ⟨HB.out.os, HB.out.tape, HB.out.output, HB.out.size, HB.out.block⟩⟩, by simp [intOf]; omega⟩
    · obtain rfl : I = n1 := by omega
      have d0 : decide (I < I) = false := by simp
      clear hb hlt hI
      go_wp2_with fail
      go_ret
      exact ⟨rfl, HB.out⟩
set_option maxRecDepth 100000 in
set_option maxHeartbeats 4000000 in
theorem sameImage_true {w : World} {vs us : List Value} {Z : List (List ByteArray)} (t0 t1 : ByteArray) (h1 : ZsAt w vs Z) (h2 : ZsAt w us Z) :
    Calls Tryd.prog 44 #[.agg (vs ++ [Value.string t0, Value.string t1]).toArray, .agg (us ++ [Value.string t0, Value.string t1]).toArray] w fun e w' => e = .returned (.bool true) ∧ Below w.heap.size w w' := by
  have hf1 : ∀ z, z < 8 → ∃ n a c, vs.getD z nilS = .slice a n c := fun z hz => by obtain ⟨a, n, c, h, _⟩ := h1.at_ z hz; exact ⟨n, a, c, h⟩
  have hf2 : ∀ z, z < 8 → ∃ n a c, us.getD z nilS = .slice a n c := fun z hz => by obtain ⟨a, n, c, h, _⟩ := h2.at_ z hz; exact ⟨n, a, c, h⟩
  obtain ⟨v0, v1, v2, v3, v4, v5, v6, v7, hvs⟩ := list8 h1.len
  obtain ⟨x0, x1, x2, x3, x4, x5, x6, x7, hus⟩ := list8 h2.len
  have H1 := hide h1
  have H2 := hide h2
  rw [hvs] at hf1
  rw [hus] at hf2
  obtain ⟨n0, a0, c0, rfl⟩ : ∃ n a c, v0 = .slice a n c := hf1 0 (by omega)
  obtain ⟨n1, a1, c1, rfl⟩ : ∃ n a c, v1 = .slice a n c := hf1 1 (by omega)
  obtain ⟨n2, a2, c2, rfl⟩ : ∃ n a c, v2 = .slice a n c := hf1 2 (by omega)
  obtain ⟨n3, a3, c3, rfl⟩ : ∃ n a c, v3 = .slice a n c := hf1 3 (by omega)
  obtain ⟨n4, a4, c4, rfl⟩ : ∃ n a c, v4 = .slice a n c := hf1 4 (by omega)
  obtain ⟨n5, a5, c5, rfl⟩ : ∃ n a c, v5 = .slice a n c := hf1 5 (by omega)
  obtain ⟨n6, a6, c6, rfl⟩ : ∃ n a c, v6 = .slice a n c := hf1 6 (by omega)
  obtain ⟨n7, a7, c7, rfl⟩ : ∃ n a c, v7 = .slice a n c := hf1 7 (by omega)
  obtain ⟨m0, b0, d0, rfl⟩ : ∃ n a c, x0 = .slice a n c := hf2 0 (by omega)
  obtain ⟨m1, b1, d1, rfl⟩ : ∃ n a c, x1 = .slice a n c := hf2 1 (by omega)
  obtain ⟨m2, b2, d2, rfl⟩ : ∃ n a c, x2 = .slice a n c := hf2 2 (by omega)
  obtain ⟨m3, b3, d3, rfl⟩ : ∃ n a c, x3 = .slice a n c := hf2 3 (by omega)
  obtain ⟨m4, b4, d4, rfl⟩ : ∃ n a c, x4 = .slice a n c := hf2 4 (by omega)
  obtain ⟨m5, b5, d5, rfl⟩ : ∃ n a c, x5 = .slice a n c := hf2 5 (by omega)
  obtain ⟨m6, b6, d6, rfl⟩ : ∃ n a c, x6 = .slice a n c := hf2 6 (by omega)
  obtain ⟨m7, b7, d7, rfl⟩ : ∃ n a c, x7 = .slice a n c := hf2 7 (by omega)
  have HVS := hide hvs
  have HUS := hide hus
  rw [hvs, hus]
  simp only [List.cons_append, List.nil_append]
  clear h1 h2 hvs hus hf1 hf2
  go_enter Tryd.func44, Tryd.ntmps44
  go_wp2_with fail
  obtain ⟨P, hP⟩ : ∃ P, P = w.heap.size := ⟨_, rfl⟩
  obtain ⟨W1, hW1⟩ : ∃ W1, W1 = w.alloc (.cells #[.slice a0 n0 c0, .slice a1 n1 c1, .slice a2 n2 c2, .slice a3 n3 c3, .slice a4 n4 c4, .slice a5 n5 c5, .slice a6 n6 c6, .slice a7 n7 c7, .string t0, .string t1] 57) := ⟨_, rfl⟩
  obtain ⟨W2, hW2⟩ : ∃ W2, W2 = W1.alloc (.cells #[.slice b0 m0 d0, .slice b1 m1 d1, .slice b2 m2 d2, .slice b3 m3 d3, .slice b4 m4 d4, .slice b5 m5 d5, .slice b6 m6 d6, .slice b7 m7 d7, .string t0, .string t1] 57) := ⟨_, rfl⟩
  rw [← hW1, ← hW2, ← hP]
  have hb1 : Below w.heap.size w W1 := by rw [hW1]; exact (Below.refl _ _).alloc (Nat.le_refl _) _
  have hb2 : Below W1.heap.size W1 W2 := by rw [hW2]; exact (Below.refl _ _).alloc (Nat.le_refl _) _
  have hs1 : W1.heap.size = P + 1 := by rw [hW1, hP]; simp
  have hB1 : Blk W1 P 57 (vs ++ [Value.string t0, Value.string t1]).toArray := by rw [hW1, hP, HVS.out]; exact Blk.new _ _ _
  have hB1' : Blk W2 P 57 (vs ++ [Value.string t0, Value.string t1]).toArray := hB1.below hb2 hB1.lt
  have hB2 : Blk W2 (P + 1) 57 (us ++ [Value.string t0, Value.string t1]).toArray := by rw [hW2, ← hs1, HUS.out]; exact Blk.new _ _ _
  have HB := hide (below_step hb1 hb2)
  have K1 := hide hB1'
  have K2 := hide hB2
  clear hW1 hW2 hP hb1 hb2 hs1 hB1 hB1' hB2
  go_loopw [5] (fun i wr => ∃ I : Nat, i = .int .i64 (I : Int) ∧ I ≤ 8 ∧ Below W2.heap.size W2 wr) (fun i _ => 8 - (intOf i).toNat)
  case atStart => exact ⟨0, rfl, by omega, Below.refl _ _⟩
  case round =>
    obtain ⟨I, rfl, hI, hb⟩ := hrel
    have HBB := hide hb
    have q1 := K1.out.below hb K1.out.lt
    have q2 := K2.out.below hb K2.out.lt
    by_cases hlt : I < 8
    · have d1 : decide ((I : Int) < 8) = true := by simp; omega
      have i1 : (I : Int) < 8 := by omega
      have i0 : (0 : Int) ≤ (I : Int) := by omega
      have hbw := below_step HB.out hb
      obtain ⟨a, n, c, ea, sa⟩ := (H1.out.below hbw).at_ I hlt
      obtain ⟨a', n', c', ea', sa'⟩ := (H2.out.below hbw).at_ I hlt
      have k1 : wr.cell? ⟨P, I, none⟩ = some (.slice a n c) := by
        rw [q1.cell, ← ea]; simp [List.getElem?_append, H1.out.len, hlt, List.getD]
      have k2 : wr.cell? ⟨P + 1, I, none⟩ = some (.slice a' n' c') := by
        rw [q2.cell, ← ea']; simp [List.getElem?_append, H2.out.len, hlt, List.getD]
      have he := sameTexts_true (sa.below (⟨rfl, rfl, rfl, Nat.le_refl _, fun _ _ => rfl⟩ : Below wr.heap.size wr (wr.drewN 1))) (sa'.below (⟨rfl, rfl, rfl, Nat.le_refl _, fun _ _ => rfl⟩ : Below wr.heap.size wr (wr.drewN 1))) (H1.out.few I hlt)
      have HE := hide he
      have p1 : P < wr.heap.size := q1.lt
      have p2 : P + 1 < wr.heap.size := q2.lt
      clear hb hbw q1 q2 ea ea' sa sa' he
      go_upto_region 4 with fail
      go_region_held3 (fun W => W.cell? ⟨P, I, none⟩ = some (.slice a n c) ∧ W.cell? ⟨P + 1, I, none⟩ = some (.slice a' n' c')) (go_keep) (first
        | (go_simp; go_at_call 94; refine HE.out.mono ?_; rintro e w6 ⟨rfl, hb6⟩; have e1 := (hb6.cell (p := ⟨P, I, none⟩) p1).trans k1; have e2 := (hb6.cell (p := ⟨P + 1, I, none⟩) p2).trans k2; have HB6 := hide hb6; clear hb6))
      all_goals
        clear e1 e2
        go_wp2_with fail
        refine ⟨⟨I + 1, by go_num, by omega, below_step HBB.out ⟨HB6.out.os, HB6.out.tape, HB6.out.output, HB6.out.size, HB6.out.block⟩⟩, by simp [intOf]; omega⟩
    · obtain rfl : I = 8 := by omega
      have d1 : decide ((8 : Int) < 8) = false := by simp
      rw [show ((8 : Nat) : Int) = 8 from rfl]
      have k1 : wr.cell? ⟨P, 8, none⟩ = some (.string t0) := by rw [q1.cell, HVS.out]; rfl
      have k2 : wr.cell? ⟨P, 9, none⟩ = some (.string t1) := by rw [q1.cell, HVS.out]; rfl
      have k3 : wr.cell? ⟨P + 1, 8, none⟩ = some (.string t0) := by rw [q2.cell, HUS.out]; rfl
      have k4 : wr.cell? ⟨P + 1, 9, none⟩ = some (.string t1) := by rw [q2.cell, HUS.out]; rfl
      clear hb q1 q2
      have he2 : ∀ W, (Op.equalIn 10000 55 (.agg #[.string t0, .string t1]) (.agg #[.string t0, .string t1])).run Tryd.prog W = .ok true W := eq_two t0 t1
      go_wp2_with fail
      go_ret
      exact ⟨rfl, below_step HB.out HBB.out⟩

/-- An image that came in. -/
structure FirstAt (w : World) (vs : List Value) (Z : List (List ByteArray)) : Prop where
  len : vs.length = 8
  zlen : Z.length = 8
  at_ : ∀ z, z < 8 → ∃ a n c, vs.getD z nilS = .slice a n c ∧ StrsAt w a n c (Z.getD z [])
theorem FirstAt.below {w w' : World} {vs : List Value} {Z : List (List ByteArray)} (h : FirstAt w vs Z) (hb : Below w.heap.size w w') : FirstAt w' vs Z :=
  ⟨h.len, h.zlen, fun z hz => by obtain ⟨a, n, c, h1, h2⟩ := h.at_ z hz; exact ⟨a, n, c, h1, h2.below hb⟩⟩
/-- It is not too long to be held. -/
structure FirstOk (Z : List (List ByteArray)) (t0 t1 : ByteArray) : Prop where
  few : ∀ z, z < 8 → (Z.getD z []).length ≤ 20
  small : ∀ z, z < 8 → ∀ s ∈ Z.getD z [], s.size ≤ 200
  t0 : t0.size ≤ 600
  t1 : t1.size ≤ 600
def WidePost (Z : List (List ByteArray)) (t0 t1 : ByteArray) (w : World) (e : Ending) (w' : World) : Prop := ∃ c : Bool, e = .returned (.bool c) ∧ (c = false → FirstOk Z t0 t1) ∧ Below w.heap.size w w'

set_option maxRecDepth 100000 in
set_option maxHeartbeats 4000000 in
theorem wide_any {w : World} {vs : List Value} {Z : List (List ByteArray)} (t0 t1 : ByteArray) (h : FirstAt w vs Z) :
    Calls Tryd.prog 29 #[.agg (vs ++ [Value.string t0, Value.string t1]).toArray] w (WidePost Z t0 t1 w) := by
  obtain ⟨P, hP⟩ : ∃ P, P = w.heap.size := ⟨_, rfl⟩
  obtain ⟨w1, hw1⟩ : ∃ w1, w1 = w.alloc (.cells (vs ++ [Value.string t0, Value.string t1]).toArray 57) := ⟨_, rfl⟩
  have hb1 : Below w.heap.size w w1 := by rw [hw1]; exact (Below.refl _ _).alloc (Nat.le_refl _) _
  have hBP : Blk w1 P 57 (vs ++ [Value.string t0, Value.string t1]).toArray := by rw [hw1, hP]; exact Blk.new _ _ _
  have H1 := hide (h.below hb1)
  have HB1 := hide hb1
  have HBP := hide hBP
  have HW1 := hide hw1
  have HP := hide hP
  clear h hP hw1 hb1 hBP
  go_enter Tryd.func29, Tryd.ntmps29
  go_upto_region 1 with fail
  rw [← HW1.out, ← HP.out]
  go_wp2_with fail
  go_loop [3] (fun i => ∃ I : Nat, i = .int .i64 (I : Int) ∧ I ≤ 8 ∧ (∀ z, z < I → (Z.getD z []).length ≤ 20 ∧ ∀ s ∈ Z.getD z [], s.size ≤ 200)) (fun i => 8 - (intOf i).toNat)
  case atStart => exact ⟨0, rfl, by omega, fun z hz => by omega⟩
  case round =>
    obtain ⟨I, rfl, hI, hall⟩ := hrel
    have HALL := hide hall
    clear hall
    by_cases hlt : I < 8
    · have d1 : decide ((I : Int) < 8) = true := by simp; omega
      have i1 : (I : Int) < 8 := by omega
      have i0 : (0 : Int) ≤ (I : Int) := by omega
      obtain ⟨a, n, c, hf, hst⟩ := H1.out.at_ I hlt
      have kP : w1.cell? ⟨P, I, none⟩ = some (.slice a n c) := by rw [HBP.out.cell, ← hf]; simp [List.getElem?_append, H1.out.len, hlt, List.getD]
      obtain ⟨l, hl⟩ : ∃ l, l = Z.getD I [] := ⟨_, rfl⟩
      rw [← hl] at hst
      have HST := hide hst
      have HL := hide hl
      clear hst hl hf
      by_cases h20 : 20 < n
      · have c20 : decide ((20 : Int) < (n : Int)) = true := by simp; omega
        have c20' : decide (20 < n) = true := by simpa using h20
        go_wp2_with fail
        go_ret
        exact ⟨true, rfl, (fun h => by cases h), HB1.out⟩
      · have c20 : decide ((20 : Int) < (n : Int)) = false := by simp; omega
        have c20' : decide (20 < n) = false := by simpa using h20
        have hn20 : n ≤ 20 := by omega
        go_wp2_with fail
        go_loop [4] (fun j => ∃ J : Nat, j = .int .i64 (J : Int) ∧ J ≤ n ∧ (∀ k, k < J → (l.getD k ⟨#[]⟩).size ≤ 200)) (fun j => n - (intOf j).toNat)
        case atStart => exact ⟨0, rfl, by omega, fun z hz => by omega⟩
        case round =>
          obtain ⟨J, rfl, hJ, hin⟩ := hrel
          have HIN := hide hin
          clear hin
          by_cases hlt2 : J < n
          · have d2 : decide (J < n) = true := by simpa using hlt2
            have hJl : J < l.length := by rw [← HST.out.hn]; exact hlt2
            obtain ⟨x, rfl⟩ : ∃ x, a = some x := by
              cases a with
              | none => have := (HST.out.hz rfl).1; omega
              | some x => exact ⟨x, rfl⟩
            have cx := HST.out.hcell x rfl J hJl
            obtain ⟨s, hs⟩ : ∃ s, s = l.getD J ⟨#[]⟩ := ⟨_, rfl⟩
            rw [← hs] at cx
            have HS := hide hs
            clear hs
            by_cases h200 : 200 < s.size
            · have q1 : decide ((200 : Int) < (s.size : Int)) = true := by simp; omega
              have q1' : decide (200 < s.size) = true := by simpa using h200
              go_wp2_with fail
              go_ret
              exact ⟨true, rfl, (fun h => by cases h), HB1.out⟩
            · have q1 : decide ((200 : Int) < (s.size : Int)) = false := by simp; omega
              have q1' : decide (200 < s.size) = false := by simpa using h200
              go_wp2_with fail
              refine ⟨⟨J + 1, by go_num, by omega, fun k hk => ?_⟩, by simp [intOf]; omega⟩
              rcases Nat.lt_succ_iff_lt_or_eq.1 hk with h | h
              · exact HIN.out k h
              · rw [h, ← HS.out]; omega
          · obtain rfl : J = n := by omega
            have d2 : decide (J < J) = false := by simp
            go_wp2_with fail
            refine ⟨⟨I + 1, by go_num, by omega, fun z hz => ?_⟩, by simp [intOf]; omega⟩
            rcases Nat.lt_succ_iff_lt_or_eq.1 hz with h | h
            · exact HALL.out z h
            · rw [h, ← HL.out, ← HST.out.hn]
              refine ⟨hn20, fun s hs => ?_⟩
              obtain ⟨k, hk, rfl⟩ := List.getElem_of_mem hs
              have := HIN.out k (by rw [HST.out.hn]; exact hk)
              rwa [List.getD, List.getElem?_eq_getElem hk] at this
    · obtain rfl : I = 8 := by omega
      have d1 : decide ((8 : Int) < 8) = false := by simp
      rw [show ((8 : Nat) : Int) = 8 from rfl]
      have k8 : w1.cell? ⟨P, 8, none⟩ = some (.string t0) := by rw [HBP.out.cell]; simp [H1.out.len]
      have k9 : w1.cell? ⟨P, 9, none⟩ = some (.string t1) := by rw [HBP.out.cell]; simp [H1.out.len]
      by_cases q0 : 600 < t0.size
      · have e0 : decide ((600 : Int) < (t0.size : Int)) = true := by simp; omega
        have e0' : decide (600 < t0.size) = true := by simpa using q0
        go_wp2_with fail
        go_ret
        exact ⟨true, rfl, (fun h => by cases h), HB1.out⟩
      · have e0 : decide ((600 : Int) < (t0.size : Int)) = false := by simp; omega
        have e0' : decide (600 < t0.size) = false := by simpa using q0
        by_cases q1 : 600 < t1.size
        · have e1 : decide ((600 : Int) < (t1.size : Int)) = true := by simp; omega
          have e1' : decide (600 < t1.size) = true := by simpa using q1
          go_wp2_with fail
          go_ret
          exact ⟨true, rfl, (fun h => by cases h), HB1.out⟩
        · have e1 : decide ((600 : Int) < (t1.size : Int)) = false := by simp; omega
          have e1' : decide (600 < t1.size) = false := by simpa using q1
          go_wp2_with fail
          go_ret
          exact ⟨false, rfl, fun _ => ⟨fun z hz => (HALL.out z hz).1, fun z hz => (HALL.out z hz).2, by omega, by omega⟩, HB1.out⟩
end Go.Proofs.YtmligbaalbbgiabDoor

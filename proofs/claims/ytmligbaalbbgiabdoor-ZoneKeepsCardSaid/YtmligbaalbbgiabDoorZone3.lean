/- The device's Sync and Crash. Conditions: a device lies at the receiver; at most 65536 writes of slots wait. -/
import Derived.Test.YtmligbaalbbgiabDoorProg
import Derived.Test.YtmligbaalbbgiabDoorZone2
import Derived.StillTailTactics
namespace Go.Proofs.YtmligbaalbbgiabDoor
open Go.RowKit

/-- What is sure, when the first zones have been made sure. -/
def syncS (L : List (List ByteArray)) (S : List Nat) (I : Nat) : List Nat := (L.map List.length).take I ++ S.drop I
theorem syncS_zero (L : List (List ByteArray)) (S : List Nat) : syncS L S 0 = S := by simp [syncS]
theorem syncS_all (L : List (List ByteArray)) (S : List Nat) (hL : L.length = 8) (hS : S.length = 8) : syncS L S 8 = L.map List.length := by
  unfold syncS
  rw [List.take_of_length_le (by simp; omega), List.drop_of_length_le (by omega), List.append_nil]
theorem syncS_step (L : List (List ByteArray)) (S : List Nat) (I : Nat) (hL : L.length = 8) (hS : S.length = 8) (hI : I < 8) : (syncS L S I).set I (L.getD I []).length = syncS L S (I + 1) := by
  unfold syncS
  have h1 : ((L.map List.length).take I).length = I := by simp; omega
  rw [List.set_append, if_neg (by omega), h1, Nat.sub_self, List.drop_eq_getElem_cons (show I < S.length by omega), List.set_cons_zero,
    List.take_succ_eq_append_getElem (show I < (L.map List.length).length by simp; omega), List.append_assoc]
  simp [List.getD, show I < L.length by omega]
theorem putAll_step (T : List ByteArray) (q : List (Nat × ByteArray)) (J : Nat) (hJ : J < q.length) : putAll T (q.take (J + 1)) = (putAll T (q.take J)).set (q.getD J (0, ⟨#[]⟩)).1 (q.getD J (0, ⟨#[]⟩)).2 := by
  unfold putAll
  rw [List.take_succ_eq_append_getElem hJ, List.foldl_append]
  simp [List.getD, hJ]

section
variable {w w' : World} {base b : Nat} {D : Dv} {m m' : Nat → Prop} {zs : List Value} {wv : Value}
theorem writesV_get (q : List (Nat × ByteArray)) (J : Nat) (hJ : J < q.length) : (writesV q)[J * 2]? = some (natV (q.getD J (0, ⟨#[]⟩)).1) ∧ (writesV q)[J * 2 + 1]? = some (.string (q.getD J (0, ⟨#[]⟩)).2) := by
  induction q generalizing J with
  | nil => simp at hJ
  | cons p q ih =>
    cases J with
    | zero => exact ⟨rfl, rfl⟩
    | succ J =>
      have h := ih J (by simpa using hJ)
      have e : writesV (p :: q) = natV p.1 :: .string p.2 :: writesV q := by simp [writesV]
      rw [e, show (J + 1) * 2 = J * 2 + 1 + 1 from by omega]
      exact h
theorem DevAt.waitAt (h : DevAt w base b D m zs wv) (J : Nat) (hJ : J < D.q.length) :
    ∃ g cap, wv = .slice (some ⟨g, 0, none⟩) D.q.length cap ∧ w.cell? ⟨g, J * 2, none⟩ = some (natV (D.q.getD J (0, ⟨#[]⟩)).1) ∧ w.cell? ⟨g, J * 2 + 1, none⟩ = some (.string (D.q.getD J (0, ⟨#[]⟩)).2) := by
  rcases h.wait.2 with ⟨_, h2⟩ | ⟨g, cap, cur, rfl, _, hg, _, _, _, hx⟩
  · omega
  · have hc : ∀ i u, (writesV D.q)[i]? = some u → w.cell? ⟨g, i, none⟩ = some u := fun i u hu => by
      rw [cell_of_row w g i cur _ (0, 0) hg]
      have hi : i < D.q.length * 2 := by rw [← writesV_length]; exact (List.getElem?_eq_some_iff.1 hu).1
      rw [← hx, List.getElem?_take_of_lt hi] at hu
      simpa using hu
    have h1 := writesV_get D.q J hJ
    exact ⟨g, cap, rfl, hc _ _ h1.1, hc _ _ h1.2⟩
theorem DevAt.waitIs (h : DevAt w base b D m zs wv) (J : Nat) (hJ : J < D.q.length) :
    ∃ g cap at_ tx, at_ = (D.q.getD J (0, ⟨#[]⟩)).1 ∧ tx = (D.q.getD J (0, ⟨#[]⟩)).2 ∧ at_ < 2 ∧ wv = .slice (some ⟨g, 0, none⟩) D.q.length cap ∧ g < w.heap.size ∧ g ≠ b ∧ w.cell? ⟨g, J * 2, none⟩ = some (.int .i64 (at_ : Int)) ∧ w.cell? ⟨g, J * 2 + 1, none⟩ = some (.string tx) := by
  obtain ⟨g, cap, h1, h2, h3⟩ := h.waitAt J hJ
  refine ⟨g, cap, _, _, rfl, rfl, ?_, h1, block_lt_of_cell h2, ?_, h2, h3⟩
  · have : D.q.getD J (0, ⟨#[]⟩) = D.q[J] := by simp [List.getD, hJ]
    rw [this]
    exact h.ok.q _ (List.getElem_mem _)
  · rintro rfl
    exact h.neWait (by rw [h1]; rfl)
theorem DevAt.waitForm (h : DevAt w base b D m zs wv) : ∃ a cap, wv = .slice a D.q.length cap := by
  rcases h.wait.2 with ⟨h1, h2⟩ | ⟨g, cap, cur, h1, _⟩
  · exact ⟨none, 0, by rw [h1, h2]⟩
  · exact ⟨_, cap, h1⟩
end

set_option maxRecDepth 100000 in
set_option maxHeartbeats 2000000 in
theorem sync_good {w : World} {base b : Nat} {D : Dv} {m : Nat → Prop} (h : Dev w base b D m) (hf : D.f ≠ 0) (hl : D.q.length ≤ 65536) :
    Calls Tryd.prog 36 #[.pointer (some ⟨b, 0, none⟩)] w fun e w' => e = .returned .nilIface ∧ ∃ m', Dev w' base b (syncD D) m' ∧ Moves w w' m m' := by
  have d0 : (!decide (D.f = 0)) = true := by simp [hf]
  have H := hide h
  have HL := hide hl
  clear h hf hl
  go_enter Tryd.func36, Tryd.ntmps36
  go_wp2_with (go_at_call 65; refine (burn_any H.out).mono ?_; rintro e w1 ⟨rfl, h1, hm1⟩; rw [d0]; have H1 := hide h1; have HM1 := hide hm1; clear h1 hm1)
  obtain ⟨B, hB⟩ : ∃ B, B = D.burn := ⟨_, rfl⟩
  have HB := hide hB
  rw [← hB] at H1
  have HOK : Hid B.Ok := hide (by obtain ⟨_, _, h0⟩ := H1.out; exact h0.ok)
  have HLB : Hid (B.q.length ≤ 65536) := hide (by rw [hB, burn_q]; exact HL.out)
  clear hB
  go_loopw [10] (fun i wr => ∃ I : Nat, i = .int .i64 (I : Int) ∧ I ≤ 8 ∧ Dev wr base b { B with S := syncS B.L B.S I } m ∧ Moves w wr m m) (fun i _ => 8 - (intOf i).toNat)
  case atStart => exact ⟨0, rfl, by omega, by rw [syncS_zero]; exact H1.out, HM1.out⟩
  case round =>
    obtain ⟨I, rfl, hI, h2, hm2⟩ := hrel
    have HM2 := hide hm2
    clear hm2 H1 HM1
    by_cases hlt : I < 8
    · have d1 : decide ((I : Int) < 8) = true := by simp; omega
      have i1 : (I : Int) < 8 := by omega
      have i2 : (0 : Int) ≤ (I : Int) := by omega
      obtain ⟨zs, wv, h3⟩ := h2
      obtain ⟨a, cap, hf⟩ := h3.form I hlt
      have k1 := h3.cellZ I hlt
      have k2 := h3.cellS I hlt
      have f2 := h3.blk.frozen (8 + I)
      rw [hf] at k1
      have hn : Hid (Dev (wr.setCell ⟨b, 8 + I, none⟩ (.int .i64 ((B.zone I).length : Int))) base b { B with S := syncS B.L B.S (I + 1) } m) := hide (by
        rw [← syncS_step B.L B.S I HOK.out.hL HOK.out.hS hlt]
        exact ⟨_, _, h3.setS I _ hlt⟩)
      have hm : Hid (Moves w (wr.setCell ⟨b, 8 + I, none⟩ (.int .i64 ((B.zone I).length : Int))) m m) := hide (HM2.out.trans (Moves.setCell _ _ (p := ⟨b, 8 + I, none⟩) h3.own _))
      clear h3 hf
      go_wp2_with fail
      go_region
      go_wp2_with fail
      refine ⟨⟨I + 1, by go_num, by omega, hn.out.drewN 1, hm.out.drewN 1⟩, by simp [intOf]; omega⟩
    · obtain rfl : I = 8 := by omega
      have d1 : decide ((8 : Int) < 8) = false := by simp
      rw [syncS_all B.L B.S HOK.out.hL HOK.out.hS] at h2
      have H3 := hide h2
      obtain ⟨zs, wv, h3⟩ := h2
      obtain ⟨a, cap, hf⟩ := h3.waitForm
      have k1 := h3.cellW
      rw [hf] at k1
      clear h3 hlt hI hf
      rw [show ((8 : Nat) : Int) = 8 from rfl]
      obtain ⟨n, hn⟩ : ∃ n, n = B.q.length := ⟨_, rfl⟩
      rw [← hn] at k1
      have HN := hide hn
      have hn65 : n ≤ 65536 := by rw [hn]; exact HLB.out
      clear hn
      go_wp2_with fail
      go_loopw [31] (fun j wr' => ∃ J : Nat, j = .int .i64 (J : Int) ∧ J ≤ n ∧ ∃ m', Dev wr' base b { B with S := B.L.map List.length, T := putAll B.T (B.q.take J) } m' ∧ Moves w wr' m m' ∧ wr'.cell? ⟨b, 18, none⟩ = some (.slice a n cap)) (fun j _ => n - (intOf j).toNat)
      case atStart => exact ⟨0, rfl, by omega, m, H3.out, HM2.out, k1⟩
      case round =>
        clear H3 HM2 k1
        obtain ⟨J, rfl, hJ, m2, h4, hm4, k18⟩ := hrel
        have HM4 := hide hm4
        have H4 := hide h4
        clear hm4
        by_cases hlt : J < n
        · have d2 : decide (J < n) = true := by simpa using hlt
          obtain ⟨zs4, wv4, h5⟩ := h4
          have hwv : wv4 = .slice a n cap := Option.some.inj (h5.cellW.symm.trans k18)
          subst hwv
          have hJq : J < B.q.length := by rw [← HN.out]; exact hlt
          obtain ⟨g, cap', at_, tx, hat, htx, hat2, hf, hglt, hgb, q1, q2⟩ := h5.waitIs J hJq
          injection hf with hf1 hf2 hf3
          subst hf1
          have t1 := h5.cellT at_ hat2
          have f1 := h5.blk.frozen (16 + at_)
          have kb := h5.blk.lt
          have it1 : (at_ : Int) < 2 := by omega
          have it2 : (0 : Int) ≤ (at_ : Int) := by omega
          have H5 := hide h5
          have HAT := hide hat
          have HTX := hide htx
          clear hf2 hf3 h5 k18 hat htx
          go_upto_region 11 with fail
          obtain ⟨wA, hwA⟩ : ∃ wA, wA = wr.alloc (.cells #[.int .i64 (at_ : Int), .string tx] 136) := ⟨_, rfl⟩
          obtain ⟨G, hG⟩ : ∃ G, G = wr.heap.size := ⟨_, rfl⟩
          have hbA : Below wr.heap.size wr wA := by rw [hwA]; exact (Below.refl _ _).alloc (Nat.le_refl _) _
          have hNB : Blk wA G 136 #[.int .i64 (at_ : Int), .string tx] := by rw [hwA, hG]; exact Blk.new _ _ _
          have n1 : wA.cell? ⟨G, 0, none⟩ = some (.int .i64 (at_ : Int)) := hNB.cell 0
          have n2 : wA.cell? ⟨G, 1, none⟩ = some (.string tx) := hNB.cell 1
          rw [← hwA, ← hG]
          have t1A := (hbA.cell (p := ⟨b, 16 + at_, none⟩) kb).trans t1
          have f1A := (hbA.frozen (p := ⟨b, 16 + at_, none⟩) kb).trans f1
          have H6 : Dev (wA.setCell ⟨b, 16 + at_, none⟩ (.string tx)) base b { B with S := B.L.map List.length, T := putAll B.T (B.q.take (J + 1)) } m2 := by
            rw [putAll_step B.T B.q J hJq, ← HAT.out, ← HTX.out]
            exact ⟨_, _, (H5.out.same (fun k hk => hbA.block k (H5.out.lt k hk).2) hbA.size).setT at_ hat2 tx⟩
          have hm6 := (HM4.out.trans (Moves.of_below hbA m2)).trans (Moves.setCell wA m2 (p := ⟨b, 16 + at_, none⟩) H5.out.own (.string tx))
          have k6 : (wA.setCell ⟨b, 16 + at_, none⟩ (.string tx)).cell? ⟨b, 18, none⟩ = some (.slice (some ⟨g, 0, none⟩) n cap) := by
            rw [World.cell?_setCell_other _ _ _ _ (by intro e; injection e with _ e2; omega)]
            exact (hbA.cell (p := ⟨b, 18, none⟩) kb).trans H5.out.cellW
          have HH6 := hide H6
          have HM6 := hide hm6
          have K6 := hide k6
          clear hwA hG hbA hNB t1 f1 H5 H6 hm6 k6 H4 HM4 q1 q2 kb hglt hgb
          go_region
          go_wp2_with fail
          refine ⟨⟨J + 1, by go_num, by omega, m2, HH6.out.drewN 1, HM6.out.drewN 1, K6.out⟩, by simp [intOf]; omega⟩
        · obtain rfl : J = n := by omega
          have d2 : decide (J < J) = false := by simp
          rw [List.take_of_length_le (by rw [HN.out]; exact Nat.le_refl _)] at h4
          obtain ⟨zs4, wv4, h5⟩ := h4
          have f1 := h5.blk.frozen 18
          have h6 := h5.setW (w1 := wr) (Nat.le_refl _) (fun _ _ _ => rfl) nilS [] (by simp) (World.ownsRow_nil _ _ _ _) (fun g hg => by cases hg)
          have hm6 := HM4.out.trans (h5.setW_moves (w1 := wr) rfl rfl rfl (Nat.le_refl _) (fun _ _ _ => rfl) nilS)
          have H6 : Hid (Dev (wr.setCell ⟨b, 18, none⟩ nilS) base b (syncD D) (plus m2 wr.heap.size wr.heap.size)) := hide (by
            unfold syncD
            rw [← burn_T D, ← burn_q D, ← burn_L D, ← HB.out]
            exact ⟨_, _, h6⟩)
          have HM6 := hide hm6
          clear h5 h6 hm6 H4 HM4
          go_wp2_with fail
          go_ret
          exact ⟨rfl, _, H6.out, HM6.out⟩

set_option maxRecDepth 100000 in
theorem sync_any {w : World} {base b : Nat} {D : Dv} {m : Nat → Prop} (h : Dev w base b D m) (hl : D.q.length ≤ 65536) :
    Calls Tryd.prog 36 #[.pointer (some ⟨b, 0, none⟩)] w fun e w' => e = .returned (errZ (syncR D).2) ∧ ∃ m', Dev w' base b (syncR D).1 m' ∧ Moves w w' m m' := by
  by_cases hf : D.f = 0
  · have e : syncR D = (D, 14) := by unfold syncR; rw [if_pos hf]
    have eb : D.burn = D := by unfold Dv.burn; rw [if_neg (by omega)]
    have d0 : (!decide (D.f = 0)) = false := by simp [hf]
    rw [e]
    have H := hide h
    have EB := hide eb
    clear h e hf eb hl
    go_enter Tryd.func36, Tryd.ntmps36
    go_wp2_with (go_at_call 65; refine (burn_any H.out).mono ?_; rintro e w1 ⟨rfl, h1, hm1⟩; rw [d0]; have H1 := hide h1; have HM1 := hide hm1; clear h1 hm1)
    go_ret
    exact ⟨rfl, m, EB.out ▸ H1.out, HM1.out⟩
  · have e : syncR D = (syncD D, 0) := by unfold syncR; rw [if_neg hf]
    rw [e]
    exact sync_good h hf hl

/-- A slice of numbers that came in; of truths. -/
def IntsArg (w : World) (m : Nat → Prop) (A : Option Addr) (ks : List Int) : Prop :=
  0 < ks.length → ∃ a, A = some a ∧ ¬ m a.block ∧ a.block < w.heap.size ∧ ∀ i, i < ks.length → w.cell? (a.add i) = some (.int .i64 (ks.getD i 0))
def BoolsArg (w : World) (m : Nat → Prop) (A : Option Addr) (sl : List Bool) : Prop :=
  0 < sl.length → ∃ a, A = some a ∧ ¬ m a.block ∧ a.block < w.heap.size ∧ ∀ i, i < sl.length → w.cell? (a.add i) = some (.bool (sl.getD i false))
theorem IntsArg.moves {w w' : World} {m m' : Nat → Prop} {A : Option Addr} {ks : List Int} (h : IntsArg w m A ks) (hm : Moves w w' m m') : IntsArg w' m' A ks := fun h0 => by
  obtain ⟨a, h1, h2, h3, h4⟩ := h h0
  refine ⟨a, h1, fun hc => (hm.sub _ hc).elim h2 (fun h5 => by omega), Nat.lt_of_lt_of_le h3 hm.size, fun i hi => ?_⟩
  rw [World.cell?_of_block (w := w) (w' := w') (a := a.add i) (by rw [Go.ChangeShapes.block_add]; exact hm.block _ h3 h2)]
  exact h4 i hi
theorem BoolsArg.moves {w w' : World} {m m' : Nat → Prop} {A : Option Addr} {sl : List Bool} (h : BoolsArg w m A sl) (hm : Moves w w' m m') : BoolsArg w' m' A sl := fun h0 => by
  obtain ⟨a, h1, h2, h3, h4⟩ := h h0
  refine ⟨a, h1, fun hc => (hm.sub _ hc).elim h2 (fun h5 => by omega), Nat.lt_of_lt_of_le h3 hm.size, fun i hi => ?_⟩
  rw [World.cell?_of_block (w := w) (w' := w') (a := a.add i) (by rw [Go.ChangeShapes.block_add]; exact hm.block _ h3 h2)]
  exact h4 i hi

/-- The first of one list, the rest of another one. -/
def mixL {α : Type} (X Y : List α) (I : Nat) : List α := X.take I ++ Y.drop I
theorem mixL_zero {α : Type} (X Y : List α) : mixL X Y 0 = Y := by simp [mixL]
theorem mixL_all {α : Type} (X Y : List α) (hX : X.length = 8) (hY : Y.length = 8) : mixL X Y 8 = X := by
  unfold mixL
  rw [List.take_of_length_le (by omega), List.drop_of_length_le (by omega), List.append_nil]
theorem mixL_step {α : Type} (X Y : List α) (I : Nat) (d : α) (hX : X.length = 8) (hY : Y.length = 8) (hI : I < 8) : (mixL X Y I).set I (X.getD I d) = mixL X Y (I + 1) := by
  unfold mixL
  have h1 : (X.take I).length = I := by simp; omega
  rw [List.set_append, if_neg (by omega), h1, Nat.sub_self, List.drop_eq_getElem_cons (show I < Y.length by omega), List.set_cons_zero,
    List.take_succ_eq_append_getElem (show I < X.length by omega), List.append_assoc]
  simp [List.getD, show I < X.length by omega]
theorem mixL_at {α : Type} (X Y : List α) (I : Nat) (d : α) (hX : X.length = 8) (hI : I < 8) : (mixL X Y I).getD I d = Y.getD I d := by
  have h1 : (X.take I).length = I := by simp; omega
  simp [mixL, List.getD, List.getElem?_append, h1]
theorem crashL_length (D : Dv) (ks : List Int) : (crashL D ks).length = 8 := by simp [crashL]
theorem crashL_at (D : Dv) (ks : List Int) (I : Nat) (hI : I < 8) : (crashL D ks).getD I [] = (D.zone I).take (D.sure I + min (keepN ks I) ((D.zone I).length - D.sure I)) := by
  simp [crashL, List.getD, hI]
theorem crashQ_zero (q : List (Nat × ByteArray)) (sl : List Bool) : crashQ (q.take 0) sl = [] := by simp [crashQ]
theorem crashQ_step (q : List (Nat × ByteArray)) (sl : List Bool) (J : Nat) (hJ : J < q.length) :
    crashQ (q.take (J + 1)) sl = if sl.getD J false = true then crashQ (q.take J) sl ++ [q.getD J (0, ⟨#[]⟩)] else crashQ (q.take J) sl := by
  unfold crashQ
  rw [List.take_succ_eq_append_getElem hJ, List.zipIdx_append, List.filter_append, List.map_append]
  have h1 : (q.take J).length = J := by simp; omega
  have h2 : q.getD J (0, ⟨#[]⟩) = q[J] := by simp [List.getD, hJ]
  rw [h1, h2]
  by_cases h : sl.getD J false = true
  · have e : List.filter (fun p : (Nat × ByteArray) × Nat => sl.getD p.2 false) ([q[J]].zipIdx (0 + J)) = [(q[J], J)] := by
      have h' : sl[J]?.getD false = true := by simpa [List.getD] using h
      simp [h', List.zipIdx]
    rw [if_pos h, e]
    rfl
  · have e : List.filter (fun p : (Nat × ByteArray) × Nat => sl.getD p.2 false) ([q[J]].zipIdx (0 + J)) = [] := by
      have h' : sl[J]?.getD false = false := by simpa [List.getD] using h
      simp [h', List.zipIdx]
    rw [if_neg h, e]
    simp
theorem putAll_app (T : List ByteArray) (q : List (Nat × ByteArray)) (p : Nat × ByteArray) : putAll T (q ++ [p]) = (putAll T q).set p.1 p.2 := by simp [putAll]
/-- Some zones have lost already. -/
def crashAt (D : Dv) (ks : List Int) (I : Nat) : Dv := { D with L := mixL (crashL D ks) D.L I, S := mixL ((crashL D ks).map List.length) D.S I }
theorem crashAt_zone (D : Dv) (ks : List Int) (I : Nat) (hI : I < 8) : (crashAt D ks I).zone I = D.zone I := mixL_at _ _ I [] (crashL_length D ks) hI
theorem crashAt_sure (D : Dv) (ks : List Int) (I : Nat) (hI : I < 8) : (crashAt D ks I).sure I = D.sure I := mixL_at _ _ I 0 (by rw [List.length_map]; exact crashL_length D ks) hI
theorem own_prefix {w : World} {base : Nat} {e : TypeId} {a : Option Addr} {n cap k : Nat} {xs : List Value} (h : w.ownsRow base e 1 (.slice a n cap) n xs) (hk : k ≤ n) : w.ownsRow base e 1 (.slice a k cap) k (xs.take k) := by
  refine ⟨by rw [List.length_take, h.1]; omega, ?_⟩
  rcases h.2 with ⟨h1, h2⟩ | ⟨g, c, cur, h1, h2, h3, h4, h5, h6, h7⟩
  · injection h1 with e1 e2 e3
    subst e1 e2 e3
    obtain rfl : k = 0 := by omega
    exact .inl ⟨rfl, rfl⟩
  · injection h1 with e1 e2 e3
    subst e1 e3
    refine .inr ⟨g, cap, cur, rfl, h2, h3, by omega, h5, h6, ?_⟩
    rw [← h7, List.take_take, Nat.mul_one, Nat.mul_one, Nat.min_eq_left hk]

set_option maxRecDepth 100000 in
set_option maxHeartbeats 2000000 in
theorem crash_any {w : World} {base b : Nat} {D : Dv} {m : Nat → Prop} (h : Dev w base b D m) (hl : D.q.length ≤ 65536) (hsu : D.SureOk) (A1 A2 : Option Addr) (c1 c2 : Nat) (ks : List Int) (sl : List Bool)
    (hks : IntsArg w m A1 ks) (hsl : BoolsArg w m A2 sl) :
    Calls Tryd.prog 40 #[.pointer (some ⟨b, 0, none⟩), .slice A1 ks.length c1, .slice A2 sl.length c2] w fun e w' => e = .returned (.tuple #[]) ∧ ∃ m', Dev w' base b (crashD D ks sl) m' ∧ Moves w w' m m' := by
  have H := hide h
  have HLB := hide hl
  have HSU := hide hsu
  have HKS := hide hks
  have HSL := hide hsl
  have HOK : Hid D.Ok := hide (by obtain ⟨_, _, h0⟩ := h; exact h0.ok)
  obtain ⟨N1, hN1⟩ : ∃ n, n = ks.length := ⟨_, rfl⟩
  obtain ⟨N2, hN2⟩ : ∃ n, n = sl.length := ⟨_, rfl⟩
  have HN1 := hide hN1
  have HN2 := hide hN2
  rw [← hN1, ← hN2]
  clear h hl hsu hks hsl hN1 hN2
  go_enter Tryd.func40, Tryd.ntmps40
  go_wp2_with fail
  go_loopw [10] (fun i wr => ∃ I : Nat, i = .int .i64 (I : Int) ∧ I ≤ 8 ∧ ∃ m', Dev wr base b (crashAt D ks I) m' ∧ Moves w wr m m') (fun i _ => 8 - (intOf i).toNat)
  case atStart => exact ⟨0, rfl, by omega, m, by unfold crashAt; rw [mixL_zero, mixL_zero]; exact H.out, Moves.refl _ _⟩
  case round =>
    clear H
    obtain ⟨I, rfl, hI, m2, h2, hm2⟩ := hrel
    have HM2 := hide hm2
    clear hm2
    by_cases hlt : I < 8
    · have d1 : decide ((I : Int) < 8) = true := by simp; omega
      have i1 : (I : Int) < 8 := by omega
      have i2 : (0 : Int) ≤ (I : Int) := by omega
      obtain ⟨K, hK⟩ : ∃ K, K = keepN ks I := ⟨_, rfl⟩
      have HK := hide hK
      clear hK
      go_upto_if 16 with fail
      go_cut [7] from 13 to 21 (fun c wx => c = .int .i64 (K : Int) ∧ wx = wr)
      case first =>
        by_cases hki : I < N1
        · have d2 : decide (I < N1) = true := by simpa using hki
          obtain ⟨a, rfl, _, _, hc⟩ := (HKS.out.moves HM2.out) (by rw [← HN1.out]; omega)
          have cx := hc I (by rw [← HN1.out]; exact hki)
          obtain ⟨x, hx⟩ : ∃ x, x = ks.getD I 0 := ⟨_, rfl⟩
          rw [← hx] at cx
          have e1 : K = x.toNat := by rw [HK.out, hx]; rfl
          have HE := hide e1
          clear hc hx e1
          go_wp2_with fail
          · go_meet
            case rel => exact ⟨by have := HE.out; congr 1; omega, rfl⟩
          · go_meet
            case rel => exact ⟨by have := HE.out; congr 1; omega, rfl⟩
        · have d2 : decide (I < N1) = false := by simpa using hki
          have e1 : K = 0 := by rw [HK.out]; unfold keepN; rw [show ks.getD I 0 = 0 from by simp [List.getD, List.getElem?_eq_none (show ks.length ≤ I by rw [← HN1.out]; omega)]]; rfl
          have HE := hide e1
          clear e1
          go_wp2_with fail
          go_meet
          case rel => exact ⟨by rw [HE.out]; rfl, rfl⟩
      case rest =>
        obtain ⟨rfl, rfl⟩ := hcut
        obtain ⟨zs, wv, h3⟩ := h2
        obtain ⟨a, cap, hf⟩ := h3.form I hlt
        rw [crashAt_zone D ks I hlt] at hf
        obtain ⟨n, hn⟩ : ∃ n, n = (D.zone I).length := ⟨_, rfl⟩
        obtain ⟨S, hS⟩ : ∃ S, S = D.sure I := ⟨_, rfl⟩
        have hSn : S ≤ n := by rw [hS, hn]; exact HSU.out I
        have hn16 : n ≤ 16 := by rw [hn]; exact HOK.out.cap I
        have k1 := h3.cellZ I hlt
        have k2 : wc.cell? ⟨b, 8 + I, none⟩ = some (.int .i64 (S : Int)) := by rw [hS, ← crashAt_sure D ks I hlt]; exact h3.cellS I hlt
        have f1 := h3.blk.frozen I
        have hr := h3.rows.row I hlt
        have hz : (crashAt D ks I).L.getD I [] = D.zone I := crashAt_zone D ks I hlt
        rw [hf, ← hn] at k1
        rw [hf, hz, ← hn] at hr
        obtain ⟨_, p1, p2, p3⟩ := own_parts hr
        obtain ⟨k, hk⟩ : ∃ k, k = S + min K (n - S) := ⟨_, rfl⟩
        have hkn : k ≤ n := by omega
        have hw : wrap64 ((n : Int) - (S : Int)) = ((n - S : Nat) : Int) := by simp only [wrap64]; omega
        have hw2 : wrap64 ((S : Int) + min (K : Int) ((n - S : Nat) : Int)) = (k : Int) := by simp only [wrap64]; omega
        have hkc : k ≤ cap := by omega
        have ik : (k : Int) ≤ (cap : Int) := by omega
        have ik0 : (0 : Int) ≤ (k : Int) := by omega
        have e7 := h3.setZ I hlt (w1 := wc) (Nat.le_refl _) (fun _ _ _ => rfl) (.slice a k cap) ((D.zone I).take k) (by rw [List.length_take]; omega)
          (by rw [List.length_take, ← hn, Nat.min_eq_left hkn, strsV_take]; exact own_prefix hr hkn) (fun g hg => .inl (by rw [hf]; cases a with | none => cases hg | some x => exact hg))
        have e8 := e7.setS I k hlt
        have hm7 := (HM2.out.trans (h3.setZ_moves I hlt (w1 := wc) rfl rfl rfl (Nat.le_refl _) (fun _ _ _ => rfl) (.slice a k cap))).trans (Moves.setCell _ _ (p := ⟨b, 8 + I, none⟩) e7.own (.int .i64 (k : Int)))
        have e9 : Dev ((wc.setCell ⟨b, I, none⟩ (.slice a k cap)).setCell ⟨b, 8 + I, none⟩ (.int .i64 (k : Int))) base b (crashAt D ks (I + 1)) (plus m2 wc.heap.size wc.heap.size) := by
          unfold crashAt
          have hc1 := crashL_length D ks
          have hc2 : ((crashL D ks).map List.length).length = 8 := by rw [List.length_map]; exact hc1
          have hv1 : (crashL D ks).getD I [] = (D.zone I).take k := by rw [crashL_at D ks I hlt, hk, hS, ← HK.out, hn]
          have hv2 : ((crashL D ks).map List.length).getD I 0 = k := by
            have : ((crashL D ks).map List.length).getD I 0 = ((crashL D ks).getD I []).length := by simp [List.getD, hc1, hlt]
            rw [this, hv1, List.length_take, ← hn, Nat.min_eq_left hkn]
          rw [← mixL_step (crashL D ks) D.L I [] hc1 HOK.out.hL hlt, ← mixL_step ((crashL D ks).map List.length) D.S I 0 hc2 HOK.out.hS hlt, hv1, hv2]
          exact ⟨_, _, e8⟩
        have H9 := hide e9
        have HM9 := hide hm7
        have HP2 := hide p2
        have f2 := h3.blk.frozen (8 + I)
        obtain ⟨M, hM⟩ : ∃ M, M = n - S := ⟨_, rfl⟩
        have hwm : wrap64 ((n : Int) - (S : Int)) = (M : Int) := by simp only [wrap64]; omega
        have hwm2 : IntKind.i64.wrap ((n : Int) - (S : Int)) = (M : Int) := by simp [IntKind.wrap, IntKind.bits, IntKind.signed]; omega
        have hkm : k = S + min K M := by rw [hk, hM]
        have hsm : S + M = n := by omega
        have HKM := hide hkm
        have HSM := hide hsm
        obtain ⟨W7, hW7⟩ : ∃ W7, W7 = (wc.setCell ⟨b, I, none⟩ (.slice a k cap)).drewN 1 := ⟨_, rfl⟩
        have g1 : W7.cell? ⟨b, I, none⟩ = some (.slice a k cap) := by rw [hW7]; exact World.cell?_setCell_same wc ⟨b, I, none⟩ (.slice a k cap) k1
        have g2 : W7.cell? ⟨b, 8 + I, none⟩ = some (.int .i64 (S : Int)) := by
          rw [hW7]
          exact (World.cell?_setCell_other _ _ _ _ (by intro e; injection e with _ e2; omega)).trans k2
        have g3 : W7.frozen? ⟨b, 8 + I, none⟩ = false := by rw [hW7]; exact (World.frozen?_setCell _ _ _ _).trans f2
        have H9' : Dev (W7.setCell ⟨b, 8 + I, none⟩ (.int .i64 (k : Int))) base b (crashAt D ks (I + 1)) (plus m2 wc.heap.size wc.heap.size) := by rw [hW7]; exact H9.out.drewN 1
        have HM9' : Moves w (W7.setCell ⟨b, 8 + I, none⟩ (.int .i64 (k : Int))) m (plus m2 wc.heap.size wc.heap.size) := by rw [hW7]; exact HM9.out.drewN 1
        have HH9 := hide H9'
        have HHM9 := hide HM9'
        have HW7 := hide hW7
        have H16 := hide hn16
        clear h3 p3 hr hn hS hk hkn p2 hf hz HK hSn hn16 e7 e8 hm7 e9 HM2 hw hw2 hM hkm hsm H9' HM9' H9 HM9 hW7
        go_upto_region 6 with fail
        go_cut [] from 22 to 56 (fun wx => wx = W7)
        case first =>
          by_cases hKM : M < K
          · skip
            have q1 : (M : Int) < (K : Int) := by omega
            have q2 : IntKind.i64.wrap ((S : Int) + (M : Int)) = (k : Int) := by have := HKM.out; have := HSM.out; have := H16.out; simp [IntKind.wrap, IntKind.bits, IntKind.signed]; omega
            cases a with
            | none =>
              obtain ⟨hn0, hc0⟩ := HP2.out rfl
              subst hn0 hc0
              obtain rfl : k = 0 := by omega
              have q3 : IntKind.i64.wrap (-(S : Int)) = (M : Int) := by have := HSM.out; simp [IntKind.wrap, IntKind.bits, IntKind.signed]; omega
              go_still_tail 35, (by kernel_rfl)
              go_wp2_with fail
              go_meet
              case rel => exact HW7.out.symm
            | some x =>
              obtain ⟨g, off, sp⟩ := x
              go_still_tail 35, (by kernel_rfl)
              go_wp2_with fail
              go_meet
              case rel => exact HW7.out.symm
          · skip
            have q1 : (K : Int) ≤ (M : Int) := by omega
            have q2 : IntKind.i64.wrap ((S : Int) + (K : Int)) = (k : Int) := by have := HKM.out; have := HSM.out; have := H16.out; simp [IntKind.wrap, IntKind.bits, IntKind.signed]; omega
            cases a with
            | none =>
              obtain ⟨hn0, hc0⟩ := HP2.out rfl
              subst hn0 hc0
              obtain rfl : k = 0 := by omega
              have q3 : IntKind.i64.wrap (-(S : Int)) = (M : Int) := by have := HSM.out; simp [IntKind.wrap, IntKind.bits, IntKind.signed]; omega
              go_still_tail 35, (by kernel_rfl)
              go_wp2_with fail
              go_meet
              case rel => exact HW7.out.symm
            | some x =>
              obtain ⟨g, off, sp⟩ := x
              go_still_tail 35, (by kernel_rfl)
              go_wp2_with fail
              go_meet
              case rel => exact HW7.out.symm
        case rest =>
          obtain rfl := hcut
          clear k1 k2 f1 f2 p1 hkc ik ik0 hwm hwm2
          go_upto_region 7 with fail
          go_region
          go_wp2_with fail
          refine ⟨⟨I + 1, by go_num, by omega, _, HH9.out.drewN 1, HHM9.out.drewN 1⟩, by simp [intOf]; omega⟩
    · obtain rfl : I = 8 := by omega
      have d1 : decide ((8 : Int) < 8) = false := by simp
      have e8 : crashAt D ks 8 = { D with L := crashL D ks, S := (crashL D ks).map List.length } := by
        unfold crashAt
        rw [mixL_all _ _ (crashL_length D ks) HOK.out.hL, mixL_all _ _ (by rw [List.length_map]; exact crashL_length D ks) HOK.out.hS]
      rw [e8] at h2
      have H3 := hide h2
      obtain ⟨zs, wv, h3⟩ := h2
      obtain ⟨a, cap, hf⟩ := h3.waitForm
      have k1 := h3.cellW
      rw [hf] at k1
      clear h3 hlt hI hf e8
      rw [show ((8 : Nat) : Int) = 8 from rfl]
      obtain ⟨n, hn⟩ : ∃ n, n = D.q.length := ⟨_, rfl⟩
      have k1' : wr.cell? ⟨b, 18, none⟩ = some (.slice a n cap) := by rw [hn]; exact k1
      have HN := hide hn
      have hn65 : n ≤ 65536 := by rw [hn]; exact HLB.out
      clear hn k1
      go_wp2_with fail
      go_loopw [75] (fun j wr' => ∃ J : Nat, j = .int .i64 (J : Int) ∧ J ≤ n ∧ ∃ m', Dev wr' base b { D with L := crashL D ks, S := (crashL D ks).map List.length, T := putAll D.T (crashQ (D.q.take J) sl) } m' ∧ Moves w wr' m m' ∧ wr'.cell? ⟨b, 18, none⟩ = some (.slice a n cap)) (fun j _ => n - (intOf j).toNat)
      case atStart => exact ⟨0, rfl, by omega, m2, by rw [crashQ_zero]; exact H3.out, HM2.out, k1'⟩
      case round =>
        clear H3 HM2 k1'
        obtain ⟨J, rfl, hJ, m3, h4, hm4, k18⟩ := hrel
        have HM4 := hide hm4
        have H4 := hide h4
        clear hm4
        by_cases hlt : J < n
        · have d2 : decide (J < n) = true := by simpa using hlt
          obtain ⟨zs4, wv4, h5⟩ := h4
          have hwv : wv4 = .slice a n cap := Option.some.inj (h5.cellW.symm.trans k18)
          subst hwv
          have hJq : J < D.q.length := by rw [← HN.out]; exact hlt
          obtain ⟨g, cap', at_, tx, hat, htx, hat2, hf, hglt, hgb, q1, q2⟩ := h5.waitIs J hJq
          injection hf with hf1 hf2 hf3
          subst hf1
          have t1 := h5.cellT at_ hat2
          have f1 := h5.blk.frozen (16 + at_)
          have kb := h5.blk.lt
          have it1 : (at_ : Int) < 2 := by omega
          have it2 : (0 : Int) ≤ (at_ : Int) := by omega
          have H5 := hide h5
          have HAT := hide hat
          have HTX := hide htx
          clear hf2 hf3 h5 k18 hat htx
          go_upto_region 12 with fail
          obtain ⟨wA, hwA⟩ : ∃ wA, wA = wr.alloc (.cells #[.int .i64 (at_ : Int), .string tx] 136) := ⟨_, rfl⟩
          obtain ⟨G, hG⟩ : ∃ G, G = wr.heap.size := ⟨_, rfl⟩
          have hbA : Below wr.heap.size wr wA := by rw [hwA]; exact (Below.refl _ _).alloc (Nat.le_refl _) _
          have hNB : Blk wA G 136 #[.int .i64 (at_ : Int), .string tx] := by rw [hwA, hG]; exact Blk.new _ _ _
          have n1 : wA.cell? ⟨G, 0, none⟩ = some (.int .i64 (at_ : Int)) := hNB.cell 0
          have n2 : wA.cell? ⟨G, 1, none⟩ = some (.string tx) := hNB.cell 1
          rw [← hwA, ← hG]
          have t1A := (hbA.cell (p := ⟨b, 16 + at_, none⟩) kb).trans t1
          have f1A := (hbA.frozen (p := ⟨b, 16 + at_, none⟩) kb).trans f1
          have hmA := HM4.out.trans (Moves.of_below hbA m3)
          have HSA := hide (HSL.out.moves hmA)
          have hp : D.q.getD J (0, ⟨#[]⟩) = (at_, tx) := by rw [HAT.out, HTX.out]
          have hDA := H5.out.same (fun k hk => hbA.block k (H5.out.lt k hk).2) hbA.size
          have HDA := hide hDA
          have kA : wA.cell? ⟨b, 18, none⟩ = some (.slice (some ⟨g, 0, none⟩) n cap) := (hbA.cell (p := ⟨b, 18, none⟩) kb).trans H5.out.cellW
          have KA := hide kA
          have HMA := hide hmA
          have HP := hide hp
          clear hwA hG hbA hNB t1 f1 H5 H4 HM4 q1 q2 kb hglt hgb hmA hDA kA hp
          by_cases hsl : sl.getD J false = true
          · have hJ2 : J < N2 := by
              rw [HN2.out]
              rcases Nat.lt_or_ge J sl.length with h | h
              · exact h
              · rw [show sl.getD J false = false from by simp [List.getD, List.getElem?_eq_none h]] at hsl; cases hsl
            obtain ⟨a2, rfl, _, _, hc⟩ := HSA.out (by rw [← HN2.out]; omega)
            have cx := hc J (by rw [← HN2.out]; exact hJ2)
            rw [hsl] at cx
            have d3 : decide (J < N2) = true := by simpa using hJ2
            have H6 : Dev (wA.setCell ⟨b, 16 + at_, none⟩ (.string tx)) base b { D with L := crashL D ks, S := (crashL D ks).map List.length, T := putAll D.T (crashQ (D.q.take (J + 1)) sl) } m3 := by
              rw [crashQ_step D.q sl J hJq, if_pos hsl, HP.out, putAll_app]
              exact ⟨_, _, HDA.out.setT at_ hat2 tx⟩
            have hm6 := HMA.out.trans (Moves.setCell wA m3 (p := ⟨b, 16 + at_, none⟩) HDA.out.own (.string tx))
            have k6 : (wA.setCell ⟨b, 16 + at_, none⟩ (.string tx)).cell? ⟨b, 18, none⟩ = some (.slice (some ⟨g, 0, none⟩) n cap) := by
              rw [World.cell?_setCell_other _ _ _ _ (by intro e; injection e with _ e2; omega)]
              exact KA.out
            have HH6 := hide H6
            have HM6 := hide hm6
            have K6 := hide k6
            clear H6 hm6 k6 hc hsl HSA HDA KA HMA HP
            go_upto_region 13 with fail
            go_region
            go_wp2_with fail
            refine ⟨⟨J + 1, by go_num, by omega, m3, HH6.out.drewN 1, HM6.out.drewN 1, K6.out⟩, by simp [intOf]; omega⟩
          · have H6 : Dev wA base b { D with L := crashL D ks, S := (crashL D ks).map List.length, T := putAll D.T (crashQ (D.q.take (J + 1)) sl) } m3 := by
              rw [crashQ_step D.q sl J hJq, if_neg hsl]
              exact ⟨_, _, HDA.out⟩
            have HH6 := hide H6
            have hsl2 : sl.getD J false = false := by simpa using hsl
            by_cases hJ2 : J < N2
            · obtain ⟨a2, rfl, _, _, hc⟩ := HSA.out (by rw [← HN2.out]; omega)
              have cx := hc J (by rw [← HN2.out]; exact hJ2)
              rw [hsl2] at cx
              have d3 : decide (J < N2) = true := by simpa using hJ2
              clear H6 hc hsl hsl2 HSA HDA HP
              go_wp2_with fail
              refine ⟨⟨J + 1, by go_num, by omega, m3, HH6.out, HMA.out, KA.out⟩, by simp [intOf]; omega⟩
            · have d3 : decide (J < N2) = false := by simpa using hJ2
              clear H6 hsl hsl2 HSA HDA HP
              go_wp2_with fail
              refine ⟨⟨J + 1, by go_num, by omega, m3, HH6.out, HMA.out, KA.out⟩, by simp [intOf]; omega⟩
        · obtain rfl : J = n := by omega
          have d2 : decide (J < J) = false := by simp
          rw [List.take_of_length_le (by rw [HN.out]; exact Nat.le_refl _)] at h4
          obtain ⟨zs4, wv4, h5⟩ := h4
          have f1 := h5.blk.frozen 18
          have f2 := h5.blk.frozen 19
          have k19 := h5.cellF
          have h6 := h5.setW (w1 := wr) (Nat.le_refl _) (fun _ _ _ => rfl) nilS [] (by simp) (World.ownsRow_nil _ _ _ _) (fun g hg => by cases hg)
          have h7 := h6.setF (-1) (by omega) (by omega)
          have hm7 := (HM4.out.trans (h5.setW_moves (w1 := wr) rfl rfl rfl (Nat.le_refl _) (fun _ _ _ => rfl) nilS)).trans (Moves.setCell _ _ (p := ⟨b, 19, none⟩) h6.own (.int .i64 (-1)))
          have H7 : Hid (Dev ((wr.setCell ⟨b, 18, none⟩ nilS).setCell ⟨b, 19, none⟩ (.int .i64 (-1))) base b (crashD D ks sl) (plus m3 wr.heap.size wr.heap.size)) := hide ⟨_, _, h7⟩
          have HM7 := hide hm7
          clear h5 h6 h7 hm7 H4 HM4
          go_wp2_with fail
          go_end0
          exact ⟨rfl, _, H7.out, HM7.out⟩
end Go.Proofs.YtmligbaalbbgiabDoor

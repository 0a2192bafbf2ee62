/- What salternkeep.ZoneSure knows of its device, of what came in and of its lists, from step to step; what its steps do to a device; and the walk where texts or numbers are too many. -/
import Derived.Test.YtmligbaalbbgiaaZoneSureA
namespace Go.Proofs.Ytmligbaalbbgiaa
open Go.RowKit

theorem SGood.sync {D : Dv} (h : SGood D) : SGood (syncD D) := by
  unfold syncD
  rw [burn_one h.f]
  refine ⟨h.f, h.pad, fun z => ?_⟩
  show (D.L.map List.length).getD z 0 ≤ (D.L.getD z []).length
  rw [getD_lens]
  exact Nat.le_refl _
theorem getElem_getD {α : Type} (l : List α) (i : Nat) (h : i < l.length) (d : α) : l[i] = l.getD i d := by simp [List.getD, h]
theorem crashL_wide (D : Dv) (ks : List Int) (z : Nat) (hz : ¬ z < 8) : (crashL D ks).getD z [] = [] := by simp [crashL, List.getD, hz]
theorem SGood.crash {D : Dv} (h : SGood D) (ks : List Int) (sl : List Bool) : SGood (crashD D ks sl) := by
  refine ⟨rfl, fun z s hs => ?_, fun z => ?_⟩
  · have hs' : s ∈ (crashL D ks).getD z [] := hs
    by_cases hz : z < 8
    · rw [crashL_at D ks z hz] at hs'
      exact h.pad z s (List.mem_of_mem_take hs')
    · rw [crashL_wide D ks z hz] at hs'
      simp at hs'
  · show ((crashL D ks).map List.length).getD z 0 ≤ ((crashL D ks).getD z []).length
    rw [getD_lens]
    exact Nat.le_refl _
theorem crash_image (D : Dv) (ks : List Int) (sl : List Bool) : imageR (crashD D ks sl) = crashL D ks := by
  refine imageR_full (D := crashD D ks sl) (crashL_length D ks) (fun z _ => ?_)
  exact getD_lens (crashL D ks) z
theorem sync_sure (D : Dv) (z : Nat) : (syncD D).sure z = ((syncD D).zone z).length := by
  show (D.L.map List.length).getD z 0 = ((syncD D).L.getD z []).length
  rw [syncD_L, getD_lens]
/-- Behind a Sync nothing is lost. -/
theorem crash_sync {D : Dv} (hL : D.L.length = 8) (ks : List Int) : crashL (syncD D) ks = D.L := by
  have hl := crashL_length (syncD D) ks
  apply List.ext_getElem (by rw [hl, hL])
  intro z h1 h2
  have hz : z < 8 := by omega
  have e2 : (syncD D).zone z = D.L[z] := by
    unfold Dv.zone
    rw [syncD_L]
    simp [List.getD, h2]
  rw [getElem_getD _ z h1 [], crashL_at _ _ _ hz, sync_sure, e2, List.take_of_length_le (by omega)]
/-- What is kept is a beginning, behind what was sure. -/
theorem crash_keeps {D : Dv} (h : D.SureOk) (ks : List Int) (z : Nat) (hz : z < 8) : ∃ k, (crashL D ks).getD z [] = (D.zone z).take k ∧ D.sure z ≤ k ∧ k ≤ (D.zone z).length := by
  have := h z
  exact ⟨_, crashL_at D ks z hz, by omega, by omega⟩

theorem IntsArg.grow {w w' : World} {m : Nat → Prop} {A : Option Addr} {ks : List Int} (h : IntsArg w (fun _ => False) A ks) (hb : Below w.heap.size w w') (hm : ∀ k, m k → w.heap.size ≤ k) : IntsArg w' m A ks := fun h0 => by
  obtain ⟨a, h1, h2, h3, h4⟩ := h h0
  refine ⟨a, h1, fun hc => by have := hm _ hc; omega, Nat.lt_of_lt_of_le h3 hb.size, fun i hi => ?_⟩
  rw [hb.cell (p := a.add i) (by rw [Go.ChangeShapes.block_add]; exact h3)]
  exact h4 i hi
theorem BoolsArg.grow {w w' : World} {m : Nat → Prop} {A : Option Addr} {sl : List Bool} (h : BoolsArg w (fun _ => False) A sl) (hb : Below w.heap.size w w') (hm : ∀ k, m k → w.heap.size ≤ k) : BoolsArg w' m A sl := fun h0 => by
  obtain ⟨a, h1, h2, h3, h4⟩ := h h0
  refine ⟨a, h1, fun hc => by have := hm _ hc; omega, Nat.lt_of_lt_of_le h3 hb.size, fun i hi => ?_⟩
  rw [hb.cell (p := a.add i) (by rw [Go.ChangeShapes.block_add]; exact h3)]
  exact h4 i hi

/-- What came in, in one name. -/
structure SArgs where
  a : Option Addr
  n : Nat
  c : Nat
  a' : Option Addr
  n' : Nat
  c' : Nat
  A : Option Addr
  N : Nat
  C : Nat
  l : List ByteArray
  l' : List ByteArray
  ks : List Int
  K : Option Addr
  kp : List Int
  B : Option Addr
  sl : List Bool

/-- The device of the call's, and what came in, outside it. -/
structure SIn (w0 wr : World) (b : Nat) (D : Dv) (m : Nat → Prop) (Bd Ba : Nat) (X : SArgs) : Prop where
  z : ZIn w0 wr b D m
  d : CellOut wr m Bd (.pointer (some ⟨b, 0, none⟩))
  at_ : CellOut wr m Ba (.slice X.A X.N X.C)
  l : StrsOut wr m X.a X.n X.c X.l
  k : StrsOut wr m X.a' X.n' X.c' X.l'
  ks : NumsOut wr m X.A X.ks
  kp : IntsArg wr m X.K X.kp
  sl : BoolsArg wr m X.B X.sl
section
variable {w0 wr w' : World} {b : Nat} {D D' : Dv} {m m' : Nat → Prop} {Bd Ba : Nat} {X : SArgs}
theorem SIn.step (h : SIn w0 wr b D m Bd Ba X) (hd : Dev w' w0.heap.size b D' m') (hm : Moves wr w' m m') : SIn w0 w' b D' m' Bd Ba X :=
  ⟨h.z.step hd hm, h.d.moves hm, h.at_.moves hm, h.l.moves hm, h.k.moves hm, h.ks.moves hm, h.kp.moves hm, h.sl.moves hm⟩
theorem SIn.below (h : SIn w0 wr b D m Bd Ba X) (hb : Below wr.heap.size wr w') : SIn w0 w' b D m Bd Ba X :=
  ⟨h.z.below hb, h.d.moves (.of_below hb m), h.at_.moves (.of_below hb m), h.l.moves (.of_below hb m), h.k.moves (.of_below hb m), h.ks.moves (.of_below hb m), h.kp.moves (.of_below hb m), h.sl.moves (.of_below hb m)⟩
theorem SIn.lens (h : SIn w0 wr b D m Bd Ba X) : D.L.length = 8 ∧ D.S.length = 8 := by
  obtain ⟨_, _, h0⟩ := h.z.dev
  exact ⟨h0.ok.hL, h0.ok.hS⟩
end
section
variable {w : World} {base b : Nat} {D : Dv} {m : Nat → Prop}
theorem syncS_any (h : Dev w base b D m) (hg : SGood D) (hq : D.q.length ≤ 65536) :
    Calls Try.prog 18 #[.pointer (some ⟨b, 0, none⟩)] w fun e w' => e = .returned .nilIface ∧ ∃ m', Dev w' base b (syncD D) m' ∧ Moves w w' m m' := by
  have h1 := sync_any h hq
  have e : syncR D = (syncD D, 0) := by unfold syncR; rw [if_neg (by rw [hg.f]; omega)]
  rw [e] at h1
  dsimp only at h1
  rw [errZ_zero] at h1
  exact h1
end

set_option maxRecDepth 100000 in
set_option maxHeartbeats 4000000 in
theorem sure_wide (w : World) (a a' A K B : Option Addr) (n c n' c' N C k kc s sc : Nat) (l l' : List ByteArray) (h1 : StrsAt w a n c l) (h2 : StrsAt w a' n' c' l') (hw : fewB l = false ∨ fewB l' = false ∨ N = 0 ∨ 20 < N ∨ 20 < k ∨ 20 < s) :
    Calls Try.prog 5 #[.slice a n c, .slice a' n' c', .slice A N C, .slice K k kc, .slice B s sc] w fun e w' => e = .returned (.bool true) ∧ Below w.heap.size w w' := by
  obtain ⟨w1, hw1⟩ : ∃ w1, w1 = w.alloc (.cells #[.slice A N C] 32) := ⟨_, rfl⟩
  have hb1 : Below w.heap.size w w1 := by rw [hw1]; exact (Below.refl _ _).alloc (Nat.le_refl _) _
  have f1 := few_any (h1.below hb1)
  have f2 := few_any (h2.below hb1)
  rw [hw1] at f1 f2
  clear h1 h2 hb1 hw1
  cases e1 : fewB l
  · rw [e1] at f1
    have F1 := hide f1
    clear f1 f2 hw e1
    go_enter Try.func5, Try.ntmps5
    go_wp2_with (go_at_call 12; refine F1.out.mono ?_; rintro e w2 ⟨rfl, rfl⟩)
    go_ret
    exact ⟨rfl, (Below.refl _ _).alloc (Nat.le_refl _) _⟩
  · cases e2 : fewB l'
    · rw [e1] at f1
      rw [e2] at f2
      have F1 := hide f1
      have F2 := hide f2
      clear f1 f2 hw e1 e2
      go_enter Try.func5, Try.ntmps5
      go_wp2_with (go_at_call 12; first | (with_reducible refine F1.out.mono ?_; rintro e w2 ⟨rfl, rfl⟩) | (with_reducible refine F2.out.mono ?_; rintro e w2 ⟨rfl, rfl⟩))
      go_ret
      exact ⟨rfl, (Below.refl _ _).alloc (Nat.le_refl _) _⟩
    · rw [e1] at f1
      rw [e2] at f2
      have F1 := hide f1
      have F2 := hide f2
      by_cases h3 : N = 0
      · subst h3
        clear f1 f2 hw e1 e2
        go_enter Try.func5, Try.ntmps5
        go_wp2_with (go_at_call 12; first | (with_reducible refine F1.out.mono ?_; rintro e w2 ⟨rfl, rfl⟩) | (with_reducible refine F2.out.mono ?_; rintro e w2 ⟨rfl, rfl⟩))
        go_ret
        exact ⟨rfl, (Below.refl _ _).alloc (Nat.le_refl _) _⟩
      · have d3 : ((N : Int) == 0) = false := by simp; omega
        have d3' : (N == 0) = false := by simp; omega
        by_cases h4 : 20 < N
        · have d4 : decide ((20 : Int) < (N : Int)) = true := by simp; omega
          have d4' : decide (20 < N) = true := by simpa using h4
          clear f1 f2 hw e1 e2
          go_enter Try.func5, Try.ntmps5
          go_wp2_with (go_at_call 12; first | (with_reducible refine F1.out.mono ?_; rintro e w2 ⟨rfl, rfl⟩) | (with_reducible refine F2.out.mono ?_; rintro e w2 ⟨rfl, rfl⟩))
          go_ret
          exact ⟨rfl, (Below.refl _ _).alloc (Nat.le_refl _) _⟩
        · have d4 : decide ((20 : Int) < (N : Int)) = false := by simp; omega
          have d4' : decide (20 < N) = false := by simpa using h4
          by_cases h5 : 20 < k
          · have d5 : decide ((20 : Int) < (k : Int)) = true := by simp; omega
            have d5' : decide (20 < k) = true := by simpa using h5
            clear f1 f2 hw e1 e2
            go_enter Try.func5, Try.ntmps5
            go_wp2_with (go_at_call 12; first | (with_reducible refine F1.out.mono ?_; rintro e w2 ⟨rfl, rfl⟩) | (with_reducible refine F2.out.mono ?_; rintro e w2 ⟨rfl, rfl⟩))
            go_ret
            exact ⟨rfl, (Below.refl _ _).alloc (Nat.le_refl _) _⟩
          · have h6 : 20 < s := by
              rcases hw with h | h | h | h | h | h
              · rw [e1] at h; cases h
              · rw [e2] at h; cases h
              · omega
              · omega
              · omega
              · exact h
            have d5 : decide ((20 : Int) < (k : Int)) = false := by simp; omega
            have d5' : decide (20 < k) = false := by simpa using h5
            have d6 : decide ((20 : Int) < (s : Int)) = true := by simp; omega
            have d6' : decide (20 < s) = true := by simpa using h6
            clear f1 f2 hw e1 e2
            go_enter Try.func5, Try.ntmps5
            go_wp2_with (go_at_call 12; first | (with_reducible refine F1.out.mono ?_; rintro e w2 ⟨rfl, rfl⟩) | (with_reducible refine F2.out.mono ?_; rintro e w2 ⟨rfl, rfl⟩))
            go_ret
            exact ⟨rfl, (Below.refl _ _).alloc (Nat.le_refl _) _⟩
end Go.Proofs.Ytmligbaalbbgiaa

/- The walk of salternkeep.ZoneRests: it returns true. Condition: the package errors has laid its variable. -/
import Derived.Test.YtmligbaalbbgiabDoorZoneRestsB
import Derived.Test.YtmligbaalbbgiabDoorTell
import Derived.ChangeSlices
namespace Go.Proofs.YtmligbaalbbgiabDoor
open Go.RowKit

theorem NumsOut.grow {w w' : World} {m : Nat → Prop} {A : Option Addr} {ks : List Int} (h : NumsOut w (fun _ => False) A ks) (hb : Below w.heap.size w w') (hm : ∀ k, m k → w.heap.size ≤ k) : NumsOut w' m A ks := ⟨fun h0 => by
  obtain ⟨a, h1, h2, h3, h4⟩ := h.at_ h0
  refine ⟨a, h1, fun hc => by have := hm _ hc; omega, Nat.lt_of_lt_of_le h3 hb.size, fun i hi => ?_⟩
  rw [hb.cell (p := a.add i) (by rw [Go.ChangeShapes.block_add]; exact h3)]
  exact h4 i hi⟩
theorem StrsOut.grow {w w' : World} {m : Nat → Prop} {a : Option Addr} {n cap : Nat} {l : List ByteArray} (h : StrsAt w a n cap l) (hb : Below w.heap.size w w') (hm : ∀ k, m k → w.heap.size ≤ k) : StrsOut w' m a n cap l :=
  ⟨h.below hb, fun x hx hp hc => by have := hm _ hc; have := h.hlt x hx hp; omega⟩
theorem CellOut.grow {w w' : World} {m : Nat → Prop} {B : Nat} {v : Value} (h : w.cell? ⟨B, 0, none⟩ = some v) (hb : Below w.heap.size w w') (hm : ∀ k, m k → w.heap.size ≤ k) : CellOut w' m B v := by
  have hl : B < w.heap.size := block_lt_of_cell h
  exact ⟨(hb.cell (p := ⟨B, 0, none⟩) hl).trans h, fun hc => by have := hm _ hc; omega⟩
section
variable {w : World} {base b : Nat} {D : Dv} {m : Nat → Prop}
theorem syncG (h : Dev w base b D m) (hg : ZGood D) :
    Calls Tryd.prog 36 #[.pointer (some ⟨b, 0, none⟩)] w fun e w' => e = .returned .nilIface ∧ ∃ m', Dev w' base b (syncD D) m' ∧ Moves w w' m m' := by
  have h1 := sync_any h (by rw [hg.q]; simp)
  rw [sync_eq hg] at h1
  dsimp only at h1
  rw [errZ_zero] at h1
  exact h1
theorem resetG (h : Dev w base b D m) (hg : ZGood D) (Z : Nat) (hZ : Z < 8) :
    Calls Tryd.prog 32 #[.pointer (some ⟨b, 0, none⟩), .int .i64 (Z : Int)] w fun e w' => e = .returned .nilIface ∧ ∃ m', Dev w' base b { D with L := D.L.set Z [], S := D.S.set Z 0 } m' ∧ Moves w w' m m' := by
  have h1 := reset_any h (Z : Int)
  rw [reset_eq hg Z hZ] at h1
  dsimp only at h1
  rw [errZ_zero] at h1
  exact h1
theorem imageG (h : Dev w base b D m) (hs : D.SureOk) {Z : List (List ByteArray)} {t0 t1 : ByteArray} (hZ : imageR D = Z) (hT : D.T = [t0, t1]) (hp : ∀ z, z < 8 → ∀ s, s ∈ Z.getD z [] → s.size ≤ 65536) :
    Calls Tryd.prog 45 #[.pointer (some ⟨b, 0, none⟩)] w fun e w' => ∃ vs, e = .returned (.agg (vs ++ [Value.string t0, Value.string t1]).toArray) ∧ ImgRead w' m vs Z ∧ Below w.heap.size w w' := by
  have h1 := image_any h hs
  rw [hZ, hT] at h1
  obtain ⟨_, _, h0⟩ := h
  refine h1.mono ?_
  rintro e w' ⟨vs, he, hi, hb⟩
  exact ⟨vs, he, ImgRead.of_img hi (by rw [← hZ]; exact imageR_length D) (fun k hk => (h0.lt k hk).2) hp, hb⟩
end

set_option maxRecDepth 100000 in
set_option maxHeartbeats 4000000 in
theorem rests_wide (w : World) (a a' A : Option Addr) (n c n' c' N C : Nat) (l l' : List ByteArray) (h1 : StrsAt w a n c l) (h2 : StrsAt w a' n' c' l') (hw : fewB l = false ∨ fewB l' = false ∨ N = 0 ∨ 20 < N) :
    Calls Tryd.prog 7 #[.slice a n c, .slice a' n' c', .slice A N C] w fun e w' => e = .returned (.bool true) ∧ Below w.heap.size w w' := by
  obtain ⟨w1, hw1⟩ : ∃ w1, w1 = w.alloc (.cells #[.slice A N C] 23) := ⟨_, rfl⟩
  have hb1 : Below w.heap.size w w1 := by rw [hw1]; exact (Below.refl _ _).alloc (Nat.le_refl _) _
  have f1 := few_any (h1.below hb1)
  have f2 := few_any (h2.below hb1)
  rw [hw1] at f1 f2
  clear h1 h2 hb1 hw1
  cases e1 : fewB l
  · rw [e1] at f1
    have F1 := hide f1
    clear f1 f2 hw e1
    go_enter Tryd.func7, Tryd.ntmps7
    go_wp2_with (go_at_call 51; refine F1.out.mono ?_; rintro e w2 ⟨rfl, rfl⟩)
    go_ret
    exact ⟨rfl, (Below.refl _ _).alloc (Nat.le_refl _) _⟩
  · cases e2 : fewB l'
    · rw [e1] at f1
      rw [e2] at f2
      have F1 := hide f1
      have F2 := hide f2
      clear f1 f2 hw e1 e2
      go_enter Tryd.func7, Tryd.ntmps7
      go_wp2_with (go_at_call 51; first | (with_reducible refine F1.out.mono ?_; rintro e w2 ⟨rfl, rfl⟩) | (with_reducible refine F2.out.mono ?_; rintro e w2 ⟨rfl, rfl⟩))
      go_ret
      exact ⟨rfl, (Below.refl _ _).alloc (Nat.le_refl _) _⟩
    · rw [e1] at f1
      rw [e2] at f2
      have F1 := hide f1
      have F2 := hide f2
      by_cases h3 : N = 0
      · subst h3
        clear f1 f2 hw e1 e2
        go_enter Tryd.func7, Tryd.ntmps7
        go_wp2_with (go_at_call 51; first | (with_reducible refine F1.out.mono ?_; rintro e w2 ⟨rfl, rfl⟩) | (with_reducible refine F2.out.mono ?_; rintro e w2 ⟨rfl, rfl⟩))
        go_ret
        exact ⟨rfl, (Below.refl _ _).alloc (Nat.le_refl _) _⟩
      · have h4 : 20 < N := by
          rcases hw with h | h | h | h
          · rw [e1] at h; cases h
          · rw [e2] at h; cases h
          · omega
          · exact h
        have d3 : ((N : Int) == 0) = false := by simp; omega
        have d3' : (N == 0) = false := by simp; omega
        have d4 : decide ((20 : Int) < (N : Int)) = true := by simp; omega
        have d4' : decide (20 < N) = true := by simpa using h4
        clear f1 f2 hw e1 e2
        go_enter Tryd.func7, Tryd.ntmps7
        go_wp2_with (go_at_call 51; first | (with_reducible refine F1.out.mono ?_; rintro e w2 ⟨rfl, rfl⟩) | (with_reducible refine F2.out.mono ?_; rintro e w2 ⟨rfl, rfl⟩))
        go_ret
        exact ⟨rfl, (Below.refl _ _).alloc (Nat.le_refl _) _⟩
end Go.Proofs.YtmligbaalbbgiabDoor

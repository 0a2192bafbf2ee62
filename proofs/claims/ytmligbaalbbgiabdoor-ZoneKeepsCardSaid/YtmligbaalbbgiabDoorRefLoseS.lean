/- What the reference's lose does to a device, as plain functions; and small facts of rows. -/
import Derived.Test.YtmligbaalbbgiabDoorRefZone3
namespace Go.Proofs.YtmligbaalbbgiabDoor
open Go.RowKit

theorem getElem_is {α : Type} (l : List α) (i : Nat) (h : i < l.length) (d : α) : l[i] = l.getD i d := by simp [List.getD, h]
def loseL (D : Dv) (κ : Nat → Nat) : List (List ByteArray) := (List.range 8).map fun z => (D.zone z).take (D.sure z + κ z)
def loseQ (q : List (Nat × ByteArray)) (σ : Nat → Bool) : List (Nat × ByteArray) := ((q.zipIdx).filter fun p => σ p.2).map (·.1)
def loseD (D : Dv) (κ : Nat → Nat) (σ : Nat → Bool) : Dv := { L := loseL D κ, S := (loseL D κ).map List.length, T := putAll D.T (loseQ D.q σ), q := [], f := D.f }
/-- Some zones have lost already. -/
def loseAt (D : Dv) (κ : Nat → Nat) (I : Nat) : Dv := { D with L := mixL (loseL D κ) D.L I, S := mixL ((loseL D κ).map List.length) D.S I }
theorem loseL_length (D : Dv) (κ : Nat → Nat) : (loseL D κ).length = 8 := by simp [loseL]
theorem loseL_at (D : Dv) (κ : Nat → Nat) (I : Nat) (hI : I < 8) : (loseL D κ).getD I [] = (D.zone I).take (D.sure I + κ I) := by simp [loseL, List.getD, hI]
theorem loseAt_zone (D : Dv) (κ : Nat → Nat) (I : Nat) (hI : I < 8) : (loseAt D κ I).zone I = D.zone I := mixL_at _ _ I [] (loseL_length D κ) hI
theorem loseAt_sure (D : Dv) (κ : Nat → Nat) (I : Nat) (hI : I < 8) : (loseAt D κ I).sure I = D.sure I := mixL_at _ _ I 0 (by rw [List.length_map]; exact loseL_length D κ) hI
theorem loseAt_next (D : Dv) (κ : Nat → Nat) (I : Nat) (hI : I < 8) (hL : D.L.length = 8) (hS : D.S.length = 8) (l : List ByteArray) (hl : (loseL D κ).getD I [] = l) (v : Nat) (hv : v = l.length) :
    ({ loseAt D κ I with L := (loseAt D κ I).L.set I l, S := (loseAt D κ I).S.set I v } : Dv) = loseAt D κ (I + 1) := by
  have hc1 := loseL_length D κ
  have hc2 : ((loseL D κ).map List.length).length = 8 := by rw [List.length_map]; exact hc1
  unfold loseAt
  have hv2 : ((loseL D κ).map List.length).getD I 0 = v := by rw [getD_lens, hl, hv]
  rw [← mixL_step (loseL D κ) D.L I [] hc1 hL hI, ← mixL_step ((loseL D κ).map List.length) D.S I 0 hc2 hS hI, hl, hv2]
theorem loseAt_all (D : Dv) (κ : Nat → Nat) (hL : D.L.length = 8) (hS : D.S.length = 8) : loseAt D κ 8 = { D with L := loseL D κ, S := (loseL D κ).map List.length } := by
  unfold loseAt
  rw [mixL_all _ _ (loseL_length D κ) hL, mixL_all _ _ (by rw [List.length_map]; exact loseL_length D κ) hS]
theorem set_getD_same {α : Type} (l : List α) (i : Nat) (d : α) : l.set i (l.getD i d) = l := by
  apply List.ext_getElem (by simp)
  intro j h1 h2
  rw [List.getElem_set]
  split
  · rename_i h
    subst h
    simp [List.getD, h2]
  · rfl
theorem loseQ_zero (q : List (Nat × ByteArray)) (σ : Nat → Bool) : loseQ (q.take 0) σ = [] := by simp [loseQ]
theorem loseQ_step (q : List (Nat × ByteArray)) (σ : Nat → Bool) (J : Nat) (hJ : J < q.length) :
    loseQ (q.take (J + 1)) σ = if σ J = true then loseQ (q.take J) σ ++ [q.getD J (0, ⟨#[]⟩)] else loseQ (q.take J) σ := by
  unfold loseQ
  rw [List.take_succ_eq_append_getElem hJ, List.zipIdx_append, List.filter_append, List.map_append]
  have h1 : (q.take J).length = J := by simp; omega
  have h2 : q.getD J (0, ⟨#[]⟩) = q[J] := by simp [List.getD, hJ]
  rw [h1, h2]
  by_cases h : σ J = true
  · have e : List.filter (fun p : (Nat × ByteArray) × Nat => σ p.2) ([q[J]].zipIdx (0 + J)) = [(q[J], J)] := by
      simp [h, List.zipIdx]
    rw [if_pos h, e]
    rfl
  · have h' : σ J = false := by simpa using h
    have e : List.filter (fun p : (Nat × ByteArray) × Nat => σ p.2) ([q[J]].zipIdx (0 + J)) = [] := by
      simp [h', List.zipIdx]
    rw [if_neg h, e]
    simp
theorem StrsAt.take {w : World} {a : Option Addr} {n cap : Nat} {l : List ByteArray} (h : StrsAt w a n cap l) (k : Nat) (hk : k ≤ n) : StrsAt w a k cap (l.take k) := by
  have hn := h.hn
  refine ⟨by rw [List.length_take]; omega, Nat.le_trans hk h.hc, fun e => ⟨by have := (h.hz e).1; omega, (h.hz e).2⟩, fun b e hp => h.hlt b e (by rw [List.length_take] at hp; omega), fun b e i hi => ?_⟩
  rw [List.length_take] at hi
  rw [h.hcell b e i (by omega)]
  simp [List.getD, show i < k by omega]
theorem own_form {w : World} {base size n : Nat} {e : TypeId} {v : Value} {xs : List Value} (h : w.ownsRow base e size v n xs) : ∃ a c, v = .slice a n c := by
  rcases h.2 with ⟨rfl, rfl⟩ | ⟨g, cap, _, rfl, _⟩
  · exact ⟨none, 0, rfl⟩
  · exact ⟨_, cap, rfl⟩
/-- Behind an append to an empty row of one's own. -/
theorem rchain0 {w1 wA : World} {o1 : Obj} (hA : (w1.alloc o1).drew.grownBy wA (some w1.heap.size)) : Below w1.heap.size w1 wA := by
  have b0 : Below w1.heap.size w1 (w1.alloc o1) := (Below.refl _ _).alloc (Nat.le_refl _) _
  have b1 : Below w1.heap.size w1 (w1.alloc o1).drew := ⟨b0.os, b0.tape, b0.output, b0.size, b0.block⟩
  exact b1.grown hA b1.size (fun k hk => by cases hk; exact Nat.le_refl _)
end Go.Proofs.YtmligbaalbbgiabDoor

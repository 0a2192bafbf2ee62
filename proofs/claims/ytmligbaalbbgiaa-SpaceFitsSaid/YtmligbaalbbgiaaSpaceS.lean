/- What is asked of zones, as plain functions on lists of numbers. No condition. -/
import Derived.Test.YtmligbaalbbgiaaBase
namespace Go.Proofs.Ytmligbaalbbgiaa

/-- A list's number at a place. -/
def ith (zs : List Int) (i : Nat) : Int := zs.getD i 0
/-- How many blocks the first k zones have room for. -/
def freeAt (zs : List Int) : Nat → Int
  | 0 => 0
  | k + 1 => freeAt zs k + max (16 - max (ith zs k) 0) 0
theorem freeAt_bounds (zs : List Int) (k : Nat) : 0 ≤ freeAt zs k ∧ freeAt zs k ≤ 16 * k := by
  induction k with
  | zero => simp [freeAt]
  | succ k ih => simp only [freeAt]; omega
/-- The first of the first k zones that has room, but one. -/
def openAt (zs : List Int) (but : Int) : Nat → Option Nat
  | 0 => none
  | k + 1 => match openAt zs but k with
    | some i => some i
    | none => if ith zs k < 16 ∧ (k : Int) ≠ but then some k else none
theorem openAt_none {zs : List Int} {but : Int} {k : Nat} (h : openAt zs but k = none) (i : Nat) (hi : i < k) : ¬ (ith zs i < 16 ∧ (i : Int) ≠ but) := by
  induction k with
  | zero => omega
  | succ k ih =>
    simp only [openAt] at h
    split at h
    · cases h
    · rename_i h1
      split at h
      · cases h
      · rename_i h2
        by_cases hik : i = k
        · rw [hik]; exact h2
        · exact ih h1 (by omega)
theorem openAt_some {zs : List Int} {but : Int} {k v : Nat} (h : openAt zs but k = some v) : v < k ∧ ith zs v < 16 ∧ (v : Int) ≠ but := by
  induction k with
  | zero => cases h
  | succ k ih =>
    simp only [openAt] at h
    split at h
    · rename_i i h1
      cases h
      have := ih h1
      exact ⟨by omega, this.2⟩
    · split at h
      · rename_i h2
        cases h
        exact ⟨by omega, h2⟩
      · cases h
theorem openAt_stays {zs : List Int} {but : Int} {k v : Nat} (h : openAt zs but k = some v) (j : Nat) : openAt zs but (k + j) = some v := by
  induction j with
  | zero => exact h
  | succ j ih => rw [show k + (j + 1) = (k + j) + 1 from rfl, openAt, ih]
theorem openAt_first {zs : List Int} {but : Int} {k n : Nat} (h : openAt zs but k = none) (hk : k < n) (h1 : ith zs k < 16) (h2 : (k : Int) ≠ but) : openAt zs but n = some k := by
  have : openAt zs but (k + 1) = some k := by rw [openAt, h]; simp [h1, h2]
  have := openAt_stays this (n - (k + 1))
  rwa [show k + 1 + (n - (k + 1)) = n from by omega] at this
theorem openAt_next {zs : List Int} {but : Int} {k : Nat} (h : openAt zs but k = none) (h1 : ¬ (ith zs k < 16 ∧ (k : Int) ≠ but)) : openAt zs but (k + 1) = none := by
  rw [openAt, h]
  simp only [if_neg h1]

/-- A zone that may be emptied. -/
def Cand (at_ live : List Int) (i : Nat) : Prop := 16 ≤ ith at_ i ∧ i < live.length
instance (at_ live : List Int) (i : Nat) : Decidable (Cand at_ live i) := by unfold Cand; infer_instance
/-- The zone that is to be emptied: of the first k, from the first on. -/
def vicAt (at_ live : List Int) : Nat → Option Nat
  | 0 => none
  | k + 1 => match vicAt at_ live k with
    | none => if Cand at_ live k then some k else none
    | some b => if Cand at_ live k ∧ ith live k < ith live b then some k else some b
/-- The same, of the last d of n, from the last on. -/
def vicDown (at_ live : List Int) (n : Nat) : Nat → Option Nat
  | 0 => none
  | d + 1 => match vicDown at_ live n d with
    | none => if Cand at_ live (n - 1 - d) then some (n - 1 - d) else none
    | some b => if Cand at_ live (n - 1 - d) ∧ ith live (n - 1 - d) ≤ ith live b then some (n - 1 - d) else some b
/-- What both find, of the zones from a to b. -/
structure Best (at_ live : List Int) (a b v : Nat) : Prop where
  ge : a ≤ v
  lt : v < b
  cand : Cand at_ live v
  least : ∀ i, a ≤ i → i < b → Cand at_ live i → ith live v ≤ ith live i
  first : ∀ i, a ≤ i → i < v → Cand at_ live i → ith live v < ith live i
def BestO (at_ live : List Int) (a b : Nat) : Option Nat → Prop
  | none => ∀ i, a ≤ i → i < b → ¬ Cand at_ live i
  | some v => Best at_ live a b v
theorem Best.unique {at_ live : List Int} {a b u v : Nat} (hu : Best at_ live a b u) (hv : Best at_ live a b v) : u = v := by
  rcases Nat.lt_trichotomy u v with h | h | h
  · have := hv.first u hu.ge h hu.cand
    have := hu.least v hv.ge hv.lt hv.cand
    omega
  · exact h
  · have := hu.first v hv.ge h hv.cand
    have := hv.least u hu.ge hu.lt hu.cand
    omega
theorem BestO.unique {at_ live : List Int} {a b : Nat} {u v : Option Nat} (hu : BestO at_ live a b u) (hv : BestO at_ live a b v) : u = v := by
  cases u with
  | none => cases v with
    | none => rfl
    | some v => exact absurd hv.cand (hu v hv.ge hv.lt)
  | some u => cases v with
    | none => exact absurd hu.cand (hv u hu.ge hu.lt)
    | some v => rw [Best.unique hu hv]
theorem vicAt_best (at_ live : List Int) (k : Nat) : BestO at_ live 0 k (vicAt at_ live k) := by
  induction k with
  | zero => intro i _ hi; omega
  | succ k ih =>
    simp only [vicAt]
    cases hv : vicAt at_ live k with
    | none =>
      rw [hv] at ih
      by_cases hc : Cand at_ live k
      · simp only [hc, if_true]
        refine ⟨by omega, by omega, hc, fun i _ hi hci => ?_, fun i _ hi hci => absurd hci (ih i (by omega) hi)⟩
        by_cases hik : i = k
        · rw [hik]; exact Int.le_refl _
        · exact absurd hci (ih i (by omega) (by omega))
      · simp only [hc, if_false]
        intro i _ hi hci
        by_cases hik : i = k
        · rw [hik] at hci; exact hc hci
        · exact ih i (by omega) (by omega) hci
    | some b =>
      rw [hv] at ih
      have ih : Best at_ live 0 k b := ih
      by_cases hc : Cand at_ live k ∧ ith live k < ith live b
      · simp only [hc, and_self, if_true]
        refine ⟨by omega, by omega, hc.1, fun i _ hi hci => ?_, fun i _ hi hci => ?_⟩
        · by_cases hik : i = k
          · rw [hik]; exact Int.le_refl _
          · have := ih.least i (by omega) (by omega) hci; omega
        · have := ih.least i (by omega) hi hci; omega
      · simp only [hc, if_false]
        refine ⟨by omega, by have := ih.lt; omega, ih.cand, fun i _ hi hci => ?_, fun i _ hi hci => ih.first i (by omega) hi hci⟩
        by_cases hik : i = k
        · rw [hik] at hci ⊢
          have : ¬ ith live k < ith live b := fun h => hc ⟨hci, h⟩
          omega
        · exact ih.least i (by omega) (by omega) hci
theorem vicDown_best (at_ live : List Int) (n d : Nat) (hd : d ≤ n) : BestO at_ live (n - d) n (vicDown at_ live n d) := by
  induction d with
  | zero => intro i h1 hi; omega
  | succ d ih =>
    have ih := ih (by omega)
    obtain ⟨k, hk⟩ : ∃ k, k = n - 1 - d := ⟨_, rfl⟩
    have e1 : n - d = k + 1 := by omega
    have e2 : n - (d + 1) = k := by omega
    simp only [vicDown]
    rw [← hk, e2]
    rw [e1] at ih
    cases hv : vicDown at_ live n d with
    | none =>
      rw [hv] at ih
      by_cases hc : Cand at_ live k
      · simp only [hc, if_true]
        refine ⟨by omega, by omega, hc, fun i h1 hi hci => ?_, fun i h1 hi _ => by omega⟩
        by_cases hik : i = k
        · rw [hik]; exact Int.le_refl _
        · exact absurd hci (ih i (by omega) hi)
      · simp only [hc, if_false]
        intro i h1 hi hci
        by_cases hik : i = k
        · rw [hik] at hci; exact hc hci
        · exact ih i (by omega) hi hci
    | some b =>
      rw [hv] at ih
      have ih : Best at_ live (k + 1) n b := ih
      by_cases hc : Cand at_ live k ∧ ith live k ≤ ith live b
      · simp only [hc, and_self, if_true]
        refine ⟨by omega, by omega, hc.1, fun i h1 hi hci => ?_, fun i h1 hi _ => by omega⟩
        by_cases hik : i = k
        · rw [hik]; exact Int.le_refl _
        · have := ih.least i (by omega) hi hci; omega
      · simp only [hc, if_false]
        refine ⟨by have := ih.ge; omega, ih.lt, ih.cand, fun i h1 hi hci => ?_, fun i h1 hi hci => ?_⟩
        · by_cases hik : i = k
          · rw [hik] at hci ⊢
            have : ¬ ith live k ≤ ith live b := fun h => hc ⟨hci, h⟩
            omega
          · exact ih.least i (by omega) hi hci
        · by_cases hik : i = k
          · rw [hik] at hci ⊢
            have : ¬ ith live k ≤ ith live b := fun h => hc ⟨hci, h⟩
            omega
          · exact ih.first i (by omega) hi hci
theorem vic_alike (at_ live : List Int) (n : Nat) : vicDown at_ live n n = vicAt at_ live n := by
  have h1 := vicDown_best at_ live n n (Nat.le_refl _)
  rw [Nat.sub_self] at h1
  exact BestO.unique h1 (vicAt_best at_ live n)
end Go.Proofs.Ytmligbaalbbgiaa

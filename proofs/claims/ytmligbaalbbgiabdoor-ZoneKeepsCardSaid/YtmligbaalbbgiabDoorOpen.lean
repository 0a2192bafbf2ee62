/- Slices among the arguments, opened: of texts, numbers, Booleans. No condition. -/
import Derived.Test.YtmligbaalbbgiabDoorProg
import Derived.Test.YtmligbaalbbgiabDoorZoneImg
import Derived.OpenShut
import Derived.SliceStrings
import Derived.ChangeSlices
import Derived.ChangeArms
namespace Go.Proofs.YtmligbaalbbgiabDoor
open Go.ChangeShapes Go.WideShapes Go.RowKit

def boolIn : Option Value → Bool
  | some (.bool b) => b
  | _ => false

section
variable {H : Type} {enc : TypeId × Value → H} {P : Program} {W : World} {spare : Nat → Bool} {held : Bool} {t e : TypeId} {A : Option Addr} {n c : Nat} {d : DataW H} {ps : List MemPlace}
theorem strs_open (ht : P.underlying t = some (.slice e)) (he : P.underlying e = some .string) (hc : P.cellsOf e = 1) (h : DataW.Trod enc P W 0 spare held t (.slice A n c) d ps) : ∃ l : List ByteArray, StrsAt W A n c l := by
  obtain ⟨fuel, hf⟩ := h
  rcases open_strings ht he hc hf with ⟨hcs, _⟩ | ⟨a, len', cap', ss, hcs, _, hl, _, hz, _, hcell, _⟩
  · simp [Value.cells] at hcs
    obtain ⟨rfl, rfl, rfl⟩ := hcs
    exact ⟨[], rfl, Nat.le_refl _, fun _ => ⟨rfl, rfl⟩, fun b hb => (by cases hb), fun b hb => (by cases hb)⟩
  · simp [Value.cells] at hcs
    obtain ⟨rfl, rfl, rfl⟩ := hcs
    have hlz : n ≤ ss.length := by rw [hz]; split <;> omega
    refine ⟨ss.take n, by simp; omega, hl, fun h => (by cases h), fun b hb hp => ?_, fun b hb i hi => ?_⟩
    · obtain rfl := Option.some.inj hb
      have h4 := block_lt_of_cell (hcell 0 (by simp at hp; omega))
      rwa [block_add] at h4
    · obtain rfl := Option.some.inj hb
      have hi' : i < n := by simp at hi; omega
      rw [hcell i (by omega)]
      have hs : i < ss.length := by omega
      simp [List.getD, hi', hs]
theorem nums_open (ht : P.underlying t = some (.slice e)) (he : P.underlying e = some (.int .i64)) (hc : P.cellsOf e = 1) (h : DataW.Trod enc P W 0 spare held t (.slice A n c) d ps) : ∃ ks : List Int, n = ks.length ∧ NumsOut W (fun _ => False) A ks := by
  obtain ⟨fuel, hf⟩ := h
  rcases open_ints ht he hc hf with ⟨hcs, _⟩ | ⟨a, len', cap', zs, hcs, _, hl, _, hz, _, hcell, _⟩
  · simp [Value.cells] at hcs
    obtain ⟨rfl, rfl, rfl⟩ := hcs
    exact ⟨[], rfl, ⟨fun h => by simp at h⟩⟩
  · simp [Value.cells] at hcs
    obtain ⟨rfl, rfl, rfl⟩ := hcs
    have hlz : n ≤ zs.length := by rw [hz]; split <;> omega
    refine ⟨zs.take n, by simp; omega, ⟨fun h => ⟨a, rfl, id, ?_, fun i hi => ?_⟩⟩⟩
    · have h4 := block_lt_of_cell (hcell 0 (by simp at h; omega))
      rwa [block_add] at h4
    · have hi' : i < n := by simp at hi; omega
      rw [hcell i (by omega)]
      have hs : i < zs.length := by omega
      simp [List.getD, hi', hs]
/-- A slice, opened: each element's cells, and that they read as its type. -/
theorem slice_parts {fuel : Nat} {cs : List Value} {x : DataW H × List MemPlace} {base : Nat} (ht : P.underlying t = some (.slice e)) (h : DataW.trod enc P W base spare held fuel t cs = some x) :
    cs = [.slice none 0 0] ∨ ∃ (a : Addr) (len cap m : Nat), cs = [.slice (some a) len cap] ∧ base ≤ a.block ∧ len ≤ cap ∧ cap ≤ maxLen ∧ ∀ i, i < len → ∃ es y, W.cells? base (a.add (i * P.cellsOf e)) (P.cellsOf e) = some es ∧ DataW.trod enc P W base spare held m e es = some y := by
  rcases DataW.trod_slice ht h with h0 | ⟨a, len, cap, elems, rest, m, _, rfl, _, hb, hl, hm, hlen, hel, _, _⟩
  · exact .inl h0.1
  · refine .inr ⟨a, len, cap, m, rfl, hb, hl, hm, fun i hi => ?_⟩
    have h1 := hel i hi
    rw [List.getElem?_eq_getElem (by omega), Option.bind_eq_some_iff] at h1
    obtain ⟨es, h2, h3⟩ := h1
    exact ⟨es, _, h2, h3⟩
theorem bools_open (ht : P.underlying t = some (.slice e)) (he : P.underlying e = some .bool) (hc : P.cellsOf e = 1) (h : DataW.Trod enc P W 0 spare held t (.slice A n c) d ps) : ∃ sl : List Bool, n = sl.length ∧ BoolsArg W (fun _ => False) A sl := by
  obtain ⟨fuel, hf⟩ := h
  rcases slice_parts ht hf with hcs | ⟨a, len, cap, m, hcs, _, _, _, hel⟩
  · simp [Value.cells] at hcs
    obtain ⟨rfl, rfl, rfl⟩ := hcs
    exact ⟨[], rfl, fun h => by simp at h⟩
  · simp [Value.cells] at hcs
    obtain ⟨rfl, rfl, rfl⟩ := hcs
    have hel' : ∀ i, i < n → ∃ b, W.cell? (a.add i) = some (.bool b) := fun i hi => by
      obtain ⟨es, y, h1, h2⟩ := hel i hi
      obtain ⟨b, rfl, _⟩ := DataW.trod_bool he h2
      rw [hc, Nat.mul_one] at h1
      exact ⟨b, cell_of_cells?_one h1⟩
    refine ⟨(List.range n).map fun i => boolIn (W.cell? (a.add i)), by simp, fun h => ⟨a, rfl, id, ?_, fun i hi => ?_⟩⟩
    · obtain ⟨b, hb⟩ := hel' 0 (by simpa using h)
      have h4 := block_lt_of_cell hb
      rwa [block_add] at h4
    · have hi' : i < n := by simpa using hi
      obtain ⟨b, hb⟩ := hel' i hi'
      rw [hb]
      simp [List.getD, hi', hb, boolIn]
end
end Go.Proofs.YtmligbaalbbgiabDoor

/- Files among the arguments, opened. No condition. -/
import Derived.Test.YtmligbaalbbgiabGreatDoorEntryF
import Derived.OpenShut
import Derived.ChangeSlices
import Derived.ChangeArms
import Derived.WideShapes
namespace Go.Proofs.YtmligbaalbbgiabGreatDoor
open Go.ChangeShapes Go.WideShapes Go.RowKit

section
variable {H : Type} {enc : TypeId × Value → H} {W : World} {spare : Nat → Bool} {held : Bool}
/-- A slice, opened: each element's cells, and that they read as its type. -/
theorem slice_elems {P : Program} {t e : TypeId} {fuel : Nat} {cs : List Value} {x : DataW H × List MemPlace} {base : Nat} (ht : P.underlying t = some (.slice e)) (h : DataW.trod enc P W base spare held fuel t cs = some x) :
    cs = [.slice none 0 0] ∨ ∃ (a : Addr) (len cap m : Nat), cs = [.slice (some a) len cap] ∧ len ≤ cap ∧ cap ≤ maxLen ∧ ∀ i, i < len → ∃ es y, W.cells? base (a.add (i * P.cellsOf e)) (P.cellsOf e) = some es ∧ DataW.trod enc P W base spare held m e es = some y := by
  rcases DataW.trod_slice ht h with h0 | ⟨a, len, cap, elems, rest, m, _, rfl, _, hb, hl, hm, hlen, hel, _, _⟩
  · exact .inl h0.1
  · refine .inr ⟨a, len, cap, m, rfl, hl, hm, fun i hi => ?_⟩
    have h1 := hel i hi
    rw [List.getElem?_eq_getElem (by omega), Option.bind_eq_some_iff] at h1
    obtain ⟨es, h2, h3⟩ := h1
    exact ⟨es, _, h2, h3⟩
theorem co_int : Tryz.prog.cellsOf 3 = 1 := by kernel_rfl
theorem co_str : Tryz.prog.cellsOf 9 = 1 := by kernel_rfl
theorem co_ints : Tryz.prog.cellsOf 35 = 1 := by kernel_rfl
theorem co_file : Tryz.prog.cellsOf 44 = 3 := by kernel_rfl
theorem maxLen_is : maxLen = 9223372036854775807 := rfl
set_option maxRecDepth 100000 in
theorem ints_in {fuel : Nat} {u : Value} {x : DataW H × List MemPlace} (h : DataW.trod enc Tryz.prog W 0 spare held fuel 35 [u] = some x) :
    ∃ A c ks, u = .slice A ks.length c ∧ ks.length ≤ 9223372036854775807 ∧ (∀ k ∈ ks, -9223372036854775808 ≤ k ∧ k ≤ 9223372036854775807) ∧ IntsIn W A ks := by
  rcases open_ints Tryz.underlying35 Tryz.underlying3 co_int h with ⟨hcs, _⟩ | ⟨a, len, cap, zs, hcs, _, hl, hm, hz, _, hcell, hwf⟩
  · cases hcs
    exact ⟨none, 0, [], rfl, by simp, fun k hk => (by cases hk), fun h0 => (by simp at h0)⟩
  · have hlz : len ≤ zs.length := by rw [hz]; split <;> omega
    have hlen : (zs.take len).length = len := by rw [List.length_take]; omega
    rw [maxLen_is] at hm
    cases hcs
    refine ⟨some a, cap, zs.take len, by rw [hlen], by omega, fun k hk => ?_, fun h0 => ⟨a, rfl, ?_, fun i hi => ?_⟩⟩
    · have hw := hwf k (List.mem_of_mem_take hk)
      simp [Lit.wf, IntKind.min, IntKind.max, IntKind.signed, IntKind.bits] at hw
      omega
    · have h4 := block_lt_of_cell (hcell 0 (by omega))
      rwa [block_add] at h4
    · have hi' : i < len := by omega
      rw [hcell i (by omega)]
      have hs : i < zs.length := by omega
      simp [List.getD, hi', hs]
theorem three {α : Type} {cs : List α} (h : cs.length = 3) : ∃ c0 c1 c2, cs = [c0, c1, c2] := by
  match cs, h with
  | [c0, c1, c2], _ => exact ⟨c0, c1, c2, rfl⟩
/-- What is asked of a file's parts. -/
def FileWf (x : FileD) : Prop := x.name.size ≤ 9223372036854775807 ∧ x.cells.length ≤ 9223372036854775807 ∧ ∀ k ∈ x.cells, -9223372036854775808 ≤ k ∧ k ≤ 9223372036854775807
set_option maxRecDepth 100000 in
theorem file_open {fuel : Nat} {cs : List Value} {x : DataW H × List MemPlace} (h : DataW.trod enc Tryz.prog W 0 spare held fuel 44 cs = some x) :
    ∃ o : FileD, cs = o.vals.toList ∧ FileWf o ∧ IntsIn W o.cA o.cells := by
  obtain ⟨xs, n, rfl, _, hl, hxl, hall⟩ := DataW.trod_struct Tryz.underlying44 h
  have hl3 : cs.length = 3 := hl.trans co_file
  have hx3 : xs.length = 3 := hxl
  have e0 : DataW.trod enc Tryz.prog W 0 spare held n 9 ((cs.drop 0).take (Tryz.prog.cellsOf 9)) = xs[0]? := hall 0 _ rfl
  have e1 : DataW.trod enc Tryz.prog W 0 spare held n 3 ((cs.drop 1).take (Tryz.prog.cellsOf 3)) = xs[1]? := hall 1 _ rfl
  have e2 : DataW.trod enc Tryz.prog W 0 spare held n 35 ((cs.drop 2).take (Tryz.prog.cellsOf 35)) = xs[2]? := hall 2 _ rfl
  rw [co_str] at e0
  rw [co_int] at e1
  rw [co_ints] at e2
  obtain ⟨u0, u1, u2, rfl⟩ := three hl3
  obtain ⟨x0, x1, x2, rfl⟩ := three hx3
  obtain ⟨s, hs, _, hz⟩ := DataW.trod_string Tryz.underlying9 (show DataW.trod enc Tryz.prog W 0 spare held n 9 [u0] = some x0 from e0)
  obtain ⟨a, ha, _, _⟩ := DataW.trod_int Tryz.underlying3 (show DataW.trod enc Tryz.prog W 0 spare held n 3 [u1] = some x1 from e1)
  obtain ⟨A, c, ks, hu, hk1, hk2, hk3⟩ := ints_in (show DataW.trod enc Tryz.prog W 0 spare held n 35 [u2] = some x2 from e2)
  cases hs; cases ha
  subst hu
  rw [maxLen_is] at hz
  exact ⟨⟨s, a, A, c, ks⟩, rfl, ⟨hz, hk1, hk2⟩, hk3⟩
theorem files_open {A : Option Addr} {n c : Nat} {d : DataW H} {ps : List MemPlace} (h : DataW.Trod enc Tryz.prog W 0 spare held 22 (.slice A n c) d ps) : n ≤ c ∧ ∃ l : List FileD, FilesAt W A n l := by
  obtain ⟨fuel, hf⟩ := h
  rcases slice_elems Tryz.underlying22 hf with hcs | ⟨a, len, cap, m, hcs, hlc, _, hel⟩
  · simp [Value.cells] at hcs
    obtain ⟨rfl, rfl, rfl⟩ := hcs
    exact ⟨Nat.le_refl _, [], rfl, fun x hx => (by cases hx), fun i hi => (by omega)⟩
  · simp [Value.cells] at hcs
    obtain ⟨rfl, rfl, rfl⟩ := hcs
    rw [co_file] at hel
    have each : ∀ i, i < n → ∃ o : FileD, (∀ j v, o.vals[j]? = some v → W.cell? ((a.add (i * 3)).add j) = some v) ∧ FileWf o ∧ IntsIn W o.cA o.cells := fun i hi => by
      obtain ⟨es, y, h1, h2⟩ := hel i hi
      obtain ⟨o, rfl, h3, h4⟩ := file_open h2
      refine ⟨o, fun j v hj => ?_, h3, h4⟩
      have hj3 : j < 3 := (Array.getElem?_eq_some_iff.1 hj).1
      rw [(World.cells?_some h1).2.2 j hj3]
      simpa using hj
    have all : ∃ f : Nat → FileD, ∀ i, i < n → (∀ j v, (f i).vals[j]? = some v → W.cell? ((a.add (i * 3)).add j) = some v) ∧ FileWf (f i) ∧ IntsIn W (f i).cA (f i).cells := by
      refine ⟨fun i => if h : i < n then Classical.choose (each i h) else ⟨⟨#[]⟩, 0, none, 0, []⟩, fun i hi => ?_⟩
      simp only [hi, dif_pos]
      exact Classical.choose_spec (each i hi)
    obtain ⟨f, hf⟩ := all
    refine ⟨hlc, (List.range n).map f, by simp, fun x hx => ?_, fun i hi => ?_⟩
    · obtain ⟨i, hi, rfl⟩ := List.mem_map.1 hx
      exact (hf i (List.mem_range.1 hi)).2.1
    · refine ⟨a, f i, rfl, by simp [hi], ?_, (hf i hi).1, (hf i hi).2.2⟩
      have h0 := (hf i hi).1 0 _ rfl
      have h1 := block_lt_of_cell h0
      rwa [block_add, block_add] at h1
end
end Go.Proofs.YtmligbaalbbgiabGreatDoor

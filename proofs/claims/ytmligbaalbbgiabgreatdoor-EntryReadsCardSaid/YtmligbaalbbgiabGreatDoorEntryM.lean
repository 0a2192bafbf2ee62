/- A set of numbers, kept as a map to truths: what it takes to look one up there, and to put one in. No condition. -/
import Derived.Test.YtmligbaalbbgiabGreatDoorProg
import Derived.Test.YtmligbaalbbgiabGreatDoorBase
import Derived.MapKept
namespace Go.Proofs.YtmligbaalbbgiabGreatDoor
open Go.RowKit

/-- The entries: in the order in which they came. -/
def setEs (b : Nat) : List Int → List MapEntry
  | [] => []
  | k :: r => { key := .int .i64 k, val := .bool true, born := b } :: setEs (b + 1) r
def setO (ks : List Int) : Obj := .map (setEs 0 ks).toArray ks.length
theorem setEs_length (b : Nat) (ks : List Int) : (setEs b ks).length = ks.length := by
  induction ks generalizing b with
  | nil => rfl
  | cons k r ih => simp [setEs, ih]
theorem setEs_append (b : Nat) (ks : List Int) (k : Int) : setEs b (ks ++ [k]) = setEs b ks ++ [{ key := .int .i64 k, val := .bool true, born := b + ks.length }] := by
  induction ks generalizing b with
  | nil => rfl
  | cons x r ih =>
    show _ :: setEs (b + 1) (r ++ [k]) = _
    rw [ih]
    show _ = _ :: (setEs (b + 1) r ++ _)
    congr 3
    simp
    omega
theorem setO_empty : setO [] = .map #[] 0 := rfl
theorem isKey_i64 (n : Int) : MapKept.IsKey (.int .i64) (.int .i64 n) := by simp [MapKept.IsKey]
theorem find_not (k : Int) : ∀ (ks : List Int) (b i : Nat), k ∉ ks → Instr.findNow (.int .i64) (.int .i64 k) (setEs b ks) i = some none
  | [], _, _, _ => rfl
  | x :: r, b, i, h => by
    have hx : (k == x) = false := by
      have : k ≠ x := fun e => h (by rw [e]; exact List.mem_cons_self ..)
      simpa using this
    have hr := find_not k r (b + 1) (i + 1) (fun hm => h (List.mem_cons_of_mem _ hm))
    simp only [setEs, Instr.findNow, Instr.sameNow, if_true, hx]
    exact hr
theorem find_yes (k : Int) : ∀ (ks : List Int) (b i : Nat), k ∈ ks → ∃ j, Instr.findNow (.int .i64) (.int .i64 k) (setEs b ks) i = some (some (i + j, .bool true)) ∧ j < ks.length ∧ ks[j]? = some k
  | x :: r, b, i, h => by
    by_cases hx : k = x
    · refine ⟨0, ?_, by simp, by simp [hx]⟩
      simp [setEs, Instr.findNow, Instr.sameNow, hx]
    · have hx' : (k == x) = false := by simpa using hx
      have hr : k ∈ r := by
        rcases List.mem_cons.1 h with h1 | h1
        · exact absurd h1 hx
        · exact h1
      obtain ⟨j, h1, h2, h3⟩ := find_yes k r (b + 1) (i + 1) hr
      refine ⟨j + 1, ?_, by simp; omega, by simpa using h3⟩
      simp only [setEs, Instr.findNow, Instr.sameNow, if_true, hx']
      rw [h1]
      congr 3
      omega
theorem zero_bool (w : World) : (zeroValue 4).run Tryz.prog w = .ok (.bool false) w := by
  have hz : Tryz.t4.zero = some (.bool false) := by kernel_rfl
  simp [zeroValue, hz]
/-- Looked up. -/
theorem set_get (ks : List Int) (k : Int) (g : Nat) (w : World) (hb : w.heap[g]? = some (setO ks)) : (Instr.lookup 50 (.map (some g)) (.int .i64 k) false).run Tryz.prog w = .ok (.bool (decide (k ∈ ks))) w := by
  by_cases h : k ∈ ks
  · obtain ⟨j, h1, h2, h3⟩ := find_yes k ks 0 0 h
    simp only [Instr.lookup, Sem.run_bind, run_underlying Tryz.underlying50, Result.andThen, MapKept.run_getObj_map hb, Sem.run_pure, MapKept.run_checkKey Tryz.underlying3 (isKey_i64 k)]
    rw [MapKept.run_findKey Tryz.underlying3 (by simpa using h1)]
    simp [h, Result.andThen]
  · have h1 := find_not k ks 0 0 h
    simp only [Instr.lookup, Sem.run_bind, run_underlying Tryz.underlying50, Result.andThen, MapKept.run_getObj_map hb, Sem.run_pure, MapKept.run_checkKey Tryz.underlying3 (isKey_i64 k)]
    rw [MapKept.run_findKey Tryz.underlying3 (by simpa using h1)]
    simp [h, Result.andThen, zero_bool]
/-- The world in which a block is another one. -/
def setBlk (w : World) (g : Nat) (o : Obj) : World := { w with heap := w.heap.setIfInBounds g o }
/-- A new one put in. -/
theorem set_put (ks : List Int) (k : Int) (g : Nat) (w : World) (hb : w.heap[g]? = some (setO ks)) (h : k ∉ ks) : (Instr.mapUpdate 50 (.map (some g)) (.int .i64 k) (.bool true)).run Tryz.prog w = .ok () (setBlk w g (setO (ks ++ [k]))) := by
  have h1 := find_not k ks 0 0 h
  simp only [Instr.mapUpdate, Sem.run_bind, run_underlying Tryz.underlying50, Result.andThen, MapKept.run_getObj_map hb, MapKept.run_checkKey Tryz.underlying3 (isKey_i64 k)]
  rw [MapKept.run_findKey Tryz.underlying3 (by simpa using h1)]
  simp only [Result.andThen]
  rw [MapKept.run_setObj_map _ hb]
  unfold setBlk setO
  rw [setEs_append]
  simp
theorem setBlk_heap {w : World} {g : Nat} {o o' : Obj} (hb : w.heap[g]? = some o) : (setBlk w g o').heap[g]? = some o' := (MapKept.heap_set hb).1
theorem setBlk_other {w : World} {g : Nat} {o o' : Obj} (hb : w.heap[g]? = some o) (k : Nat) (hk : k ≠ g) : (setBlk w g o').heap[k]? = w.heap[k]? := (MapKept.heap_set hb).2 k hk
theorem MapKept_lt {w : World} {g : Nat} {o : Obj} (h : w.heap[g]? = some o) : g < w.heap.size := (Array.getElem?_eq_some_iff.1 h).1
theorem setBlk_size (w : World) (g : Nat) (o : Obj) : (setBlk w g o).heap.size = w.heap.size := by simp [setBlk]
theorem Below.setBlk {B : Nat} {w w' : World} (h : Below B w w') {g : Nat} {o o' : Obj} (hb : w'.heap[g]? = some o) (hg : B ≤ g) : Below B w (setBlk w' g o') :=
  ⟨h.os, h.tape, h.output, by rw [setBlk_size]; exact h.size, fun k hk => (setBlk_other hb k (by omega)).trans (h.block k hk)⟩
end Go.Proofs.YtmligbaalbbgiabGreatDoor

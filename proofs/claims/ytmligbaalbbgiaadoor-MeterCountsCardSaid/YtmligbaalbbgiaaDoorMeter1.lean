/- The function meter.uses, and a look-up in what it makes. No condition. -/
import Derived.Test.YtmligbaalbbgiaaDoorProg
import Derived.Test.YtmligbaalbbgiaaDoorBase
import Derived.MapKept
namespace Go.Proofs.YtmligbaalbbgiaaDoor
open Go.RowKit

def wBlocks : ByteArray := { data := #[98, 108, 111, 99, 107, 115] }
def wTables : ByteArray := { data := #[116, 97, 98, 108, 101, 115] }
def kBlocks : Value := .agg #[.string { data := #[98, 108, 111, 99, 107, 115] }]
def kTables : Value := .agg #[.string { data := #[116, 97, 98, 108, 101, 115] }]
def eBlocks : MapEntry := { key := .int .u8 98, val := kBlocks, born := 0 }
def eTables : MapEntry := { key := .int .u8 116, val := kTables, born := 1 }
/-- What meter.uses makes. -/
def usesMap : Obj := .map #[eBlocks, eTables] 2

theorem alloc_set (w : World) (o o' : Obj) : ({ w.alloc o with heap := (w.alloc o).heap.setIfInBounds w.heap.size o' } : World) = w.alloc o' := by
  show World.mk _ _ _ _ _ = World.mk _ _ _ _ _
  congr 1
  show (w.heap.push o).setIfInBounds w.heap.size o' = w.heap.push o'
  apply Array.ext (by simp)
  intro i h1 h2
  simp only [Array.size_setIfInBounds, Array.size_push] at h1
  rw [Array.getElem_setIfInBounds (by simp; omega)]
  by_cases hi : w.heap.size = i
  · subst hi
    simp
  · simp only [hi, if_false, Array.getElem_push]
    have : i < w.heap.size := by omega
    simp [this]
theorem isKey_u8 (n : Int) : MapKept.IsKey (.int .u8) (.int .u8 n) := by simp [MapKept.IsKey]
theorem map_put1 (w : World) : (Instr.mapUpdate 89 (.map (some w.heap.size)) (.int .u8 98) (.agg #[.string { data := #[98, 108, 111, 99, 107, 115] }])).run Tryd.prog (w.alloc (.map #[] 0)) = .ok () (w.alloc (.map #[eBlocks] 1)) := by
  have hb := heap_alloc_new w (.map #[] 0)
  simp only [Instr.mapUpdate, Sem.run_bind, run_underlying Tryd.underlying89, Result.andThen, MapKept.run_getObj_map hb, MapKept.run_checkKey Tryd.underlying5 (isKey_u8 98)]
  rw [MapKept.run_findKey (a := none) Tryd.underlying5 (by rfl)]
  simp only [Result.andThen]
  rw [MapKept.run_setObj_map _ hb, alloc_set]
  rfl
theorem map_put2 (w : World) : (Instr.mapUpdate 89 (.map (some w.heap.size)) (.int .u8 116) (.agg #[.string { data := #[116, 97, 98, 108, 101, 115] }])).run Tryd.prog (w.alloc (.map #[eBlocks] 1)) = .ok () (w.alloc usesMap) := by
  have hb := heap_alloc_new w (.map #[eBlocks] 1)
  simp only [Instr.mapUpdate, Sem.run_bind, run_underlying Tryd.underlying89, Result.andThen, MapKept.run_getObj_map hb, MapKept.run_checkKey Tryd.underlying5 (isKey_u8 116)]
  rw [MapKept.run_findKey (a := none) Tryd.underlying5 (by rfl)]
  simp only [Result.andThen]
  rw [MapKept.run_setObj_map _ hb, alloc_set]
  rfl
theorem findNow_uses (k : Int) : Instr.findNow (.int .u8) (.int .u8 k) [eBlocks, eTables] 0 = some (if k = 98 then some (0, kBlocks) else if k = 116 then some (1, kTables) else none) := by
  by_cases h1 : k = 98
  · simp [Instr.findNow, Instr.sameNow, eBlocks, h1]
  · by_cases h2 : k = 116
    · simp [Instr.findNow, Instr.sameNow, eBlocks, eTables, h2]
    · have b1 : (k == 98) = false := by simpa using h1
      have b2 : (k == 116) = false := by simpa using h2
      simp [Instr.findNow, Instr.sameNow, eBlocks, eTables, h1, h2, b1, b2]
/-- What is looked up there. -/
def useV (k : Int) : Value × Bool := if k = 98 then (kBlocks, true) else if k = 116 then (kTables, true) else (.agg #[.string { data := #[] }], false)
theorem zero_purpose (w : World) : (zeroValue 87).run Tryd.prog w = .ok (.agg #[.string { data := #[] }]) w := by
  have hz : Tryd.t87.zero = some (.agg #[.string { data := #[] }]) := by kernel_rfl
  simp [zeroValue, hz]
theorem map_get (k : Int) (g : Nat) (w : World) (hb : w.heap[g]? = some usesMap) : (Instr.lookup 89 (.map (some g)) (.int .u8 k) true).run Tryd.prog w = .ok (.tuple #[(useV k).1, .bool (useV k).2]) w := by
  simp only [Instr.lookup, Sem.run_bind, run_underlying Tryd.underlying89, Result.andThen, MapKept.run_getObj_map hb, Sem.run_pure, MapKept.run_checkKey Tryd.underlying5 (isKey_u8 k)]
  rw [MapKept.run_findKey Tryd.underlying5 (findNow_uses k)]
  unfold useV
  by_cases h1 : k = 98
  · simp [h1, Result.andThen]
  · by_cases h2 : k = 116
    · simp [h2, Result.andThen]
    · simp [h1, h2, Result.andThen, zero_purpose]

theorem uses_any (w : World) : Calls Tryd.prog 49 #[] w fun e w' => e = .returned (.map (some w.heap.size)) ∧ w'.heap[w.heap.size]? = some usesMap ∧ Below w.heap.size w w' := by
  have hmm := @run_makeMap Tryd.prog
  have h1 := map_put1 w
  have h2 := map_put2 w
  go_enter Tryd.func49, Tryd.ntmps49
  go_wp2
  go_ret
  exact ⟨rfl, heap_alloc_new w _, (Below.refl _ _).alloc (Nat.le_refl _) _⟩
end Go.Proofs.YtmligbaalbbgiaaDoor

/- What the condition on the package variable sum.rounds gives a walk, and worlds that meet the rows' lists. No further condition. -/
import Derived.Test.YtmligbaalbbgiabDoorLaidE
import Derived.Test.YtmligbaalbbgiabDoorSum2
import Derived.Lib.LaidTab
import Derived.Stop.LaidErr
namespace Go.Proofs.YtmligbaalbbgiabDoor
open Go.ChangeShapes Go.WideShapes Go.RowKit

theorem Tryd.rg : Tryd.prog.globalNamed "saltern/sum.rounds" = some 2 := by kernel_rfl
theorem Tryd.rgt : (Tryd.prog.globals[2]?).map (·.type) = some 123 := by kernel_rfl
theorem laidR_of {W : World} {rest : List (String × DataW Unit)} (h : laidMet Tryd.prog (("saltern/sum.rounds", Rows.laid_saltern_sum_rounds) :: rest) W) : LaidR W := by
  have h1 := Lib.tabIs_of_head (k := .u32) (zs := kS.map fun n : Nat => (n : Int)) Tryd.rg Tryd.rgt Tryd.underlying123 Tryd.underlying121 (by kernel_rfl) (by kernel_rfl) (show laidMet Tryd.prog (("saltern/sum.rounds", Lib.tabData .u32 (kS.map fun n : Nat => (n : Int))) :: rest) W from h)
  intro i hi
  have h2 := h1.cell Tryd.rg i (by rw [List.length_map]; exact hi)
  rw [h2]
  have hk : i < kS.length := hi
  simp [List.getD, nth, hk]

/-- The settled world, these cells laid in the variable sum.rounds. -/
noncomputable def withR (w0 : World) : World :=
  { w0 with heap := w0.heap.modify 2 fun
      | .cells _ t frozen => .cells (words kS) t frozen
      | o => o }
noncomputable def worldM (os : Os) : World := withR (worldE os)
end Go.Proofs.YtmligbaalbbgiabDoor

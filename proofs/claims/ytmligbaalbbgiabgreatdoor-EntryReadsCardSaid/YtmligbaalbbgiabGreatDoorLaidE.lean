/- What the condition on the package variable errors.errorType gives a walk, and a world that meets it. No further condition. -/
import Derived.Test.YtmligbaalbbgiabGreatDoorRows
import Derived.Test.YtmligbaalbbgiabGreatDoorTell
import Derived.ChangeSame
import Derived.ChangeVars
import Derived.JoinedOf
import Derived.RowKit
import Derived.RowKitTokens
import Derived.LaidLaws
import Derived.LaidHandle
import Derived.Stop.Joined
namespace Go.Proofs.YtmligbaalbbgiabGreatDoor
open Go.ChangeShapes Go.WideShapes Go.RowKit

theorem Tryz.et : Tryz.prog.globalNamed "errors.errorType" = some 0 := by kernel_rfl
theorem Tryz.rt : (Tryz.prog.cutTypes.find? (·.1 == "internal/reflectlite.rtype")).map (·.2) = some 143 := by kernel_rfl
theorem Tryz.oneRow : ((List.range 195).filter fun t => Tryz.prog.rowNamed t [101, 114, 114, 111, 114]) = [28] := by kernel_rfl
theorem Tryz.tsize : Tryz.prog.types.size = 195 := by kernel_rfl

theorem laidE_of {W : World} (h : handlesMet Tryz.prog [("errors.errorType", Rows.laid_errors_errorType)] W) : LaidE W := by
  obtain ⟨name, u, ty, e1, e2, e3, e4, e5⟩ := h _ (List.mem_singleton.2 rfl)
  have en : name = [101, 114, 114, 111, 114] := (Option.some.inj e1).symm
  subst en
  obtain rfl := Option.some.inj (Tryz.rt.symm.trans e2)
  have hm : ty ∈ (List.range 195).filter fun t => Tryz.prog.rowNamed t [101, 114, 114, 111, 114] := List.mem_filter.2 ⟨List.mem_range.2 (by rw [← Tryz.tsize]; exact e3), e4⟩
  rw [Tryz.oneRow] at hm
  obtain rfl := List.mem_singleton.1 hm
  have hh : typeHandle Tryz.prog 28 = .pointer (some ⟨9, 28, none⟩) := by kernel_rfl
  rw [hh] at e5
  have e6 := World.var?_cell Tryz.et e5 0
  unfold LaidE
  simpa using e6

/-- A world that meets the condition: the settled one, the variable's cell laid. -/
noncomputable def worldE (os : Os) : World :=
  let w0 := World.holding Tryz.prog os ⟨#[], #[], []⟩
  { w0 with heap := w0.heap.modify 0 fun
      | .cells _ t frozen => .cells #[.iface 143 (.agg #[.pointer (some ⟨9, 28, none⟩)])] t frozen
      | o => o }
end Go.Proofs.YtmligbaalbbgiabGreatDoor

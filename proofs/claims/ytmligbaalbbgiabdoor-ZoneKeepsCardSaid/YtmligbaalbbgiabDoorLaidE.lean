/- What the condition on the package variable errors.errorType gives a walk, and a world that meets it. No further condition. -/
import Derived.Test.YtmligbaalbbgiabDoorRows
import Derived.Test.YtmligbaalbbgiabDoorTell
import Derived.ChangeSame
import Derived.ChangeVars
import Derived.JoinedOf
import Derived.RowKit
import Derived.RowKitTokens
import Derived.LaidLaws
import Derived.LaidHandle
import Derived.Stop.Joined
namespace Go.Proofs.YtmligbaalbbgiabDoor
open Go.ChangeShapes Go.WideShapes Go.RowKit

theorem Tryd.et : Tryd.prog.globalNamed "errors.errorType" = some 0 := by kernel_rfl
theorem Tryd.rt : (Tryd.prog.cutTypes.find? (·.1 == "internal/reflectlite.rtype")).map (·.2) = some 191 := by kernel_rfl
theorem Tryd.oneRow : ((List.range 291).filter fun t => Tryd.prog.rowNamed t [101, 114, 114, 111, 114]) = [32] := by kernel_rfl
theorem Tryd.tsize : Tryd.prog.types.size = 291 := by kernel_rfl

theorem laidE_of {W : World} (h : handlesMet Tryd.prog [("errors.errorType", Rows.laid_errors_errorType)] W) : LaidE W := by
  obtain ⟨name, u, ty, e1, e2, e3, e4, e5⟩ := h _ (List.mem_singleton.2 rfl)
  have en : name = [101, 114, 114, 111, 114] := (Option.some.inj e1).symm
  subst en
  obtain rfl := Option.some.inj (Tryd.rt.symm.trans e2)
  have hm : ty ∈ (List.range 291).filter fun t => Tryd.prog.rowNamed t [101, 114, 114, 111, 114] := List.mem_filter.2 ⟨List.mem_range.2 (by rw [← Tryd.tsize]; exact e3), e4⟩
  rw [Tryd.oneRow] at hm
  obtain rfl := List.mem_singleton.1 hm
  have hh : typeHandle Tryd.prog 32 = .pointer (some ⟨10, 32, none⟩) := by kernel_rfl
  rw [hh] at e5
  have e6 := World.var?_cell Tryd.et e5 0
  unfold LaidE
  simpa using e6

/-- A world that meets the condition: the settled one, the variable's cell laid. -/
noncomputable def worldE (os : Os) : World :=
  let w0 := World.holding Tryd.prog os ⟨#[], #[], []⟩
  { w0 with heap := w0.heap.modify 0 fun
      | .cells _ t frozen => .cells #[.iface 191 (.agg #[.pointer (some ⟨10, 32, none⟩)])] t frozen
      | o => o }
end Go.Proofs.YtmligbaalbbgiabDoor

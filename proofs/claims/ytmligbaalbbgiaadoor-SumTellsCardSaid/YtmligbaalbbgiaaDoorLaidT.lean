/- What the conditions on the package variables of sum, math/bits and internal/strconv give a walk, and a world that meets them. No further condition. -/
import Derived.Test.YtmligbaalbbgiaaDoorLaidM
import Derived.Test.YtmligbaalbbgiaaDoorFmt1
namespace Go.Proofs.YtmligbaalbbgiaaDoor
open Go.ChangeShapes Go.WideShapes Go.RowKit

def tab64 : List Int := [0, 1, 56, 2, 57, 49, 28, 3, 61, 58, 42, 50, 38, 29, 17, 4, 62, 47, 59, 36, 45, 43, 51, 22, 53, 39, 33, 30, 24, 18, 12, 5, 63, 55, 48, 27, 60, 41, 37, 16, 46, 35, 44, 21, 52, 32, 23, 11, 54, 26, 40, 15, 34, 20, 31, 10, 25, 14, 19, 9, 13, 8, 7, 6]
def tab32 : List Int := [0, 1, 28, 2, 29, 14, 24, 3, 30, 22, 20, 15, 25, 17, 4, 8, 31, 27, 13, 23, 21, 19, 16, 7, 26, 12, 18, 6, 11, 5, 10, 9]
def tab10 : List Int := [1, 10, 100, 1000, 10000, 100000, 1000000, 10000000, 100000000, 1000000000, 10000000000, 100000000000, 1000000000000, 10000000000000, 100000000000000, 1000000000000000, 10000000000000000, 100000000000000000, 1000000000000000000, 10000000000000000000]
theorem Tryd.tg : Tryd.prog.globalNamed "math/bits.deBruijn64tab" = some 5 := by kernel_rfl
theorem Tryd.tgt : (Tryd.prog.globals[5]?).map (·.type) = some 161 := by kernel_rfl
theorem laidB_of {W : World} {rest : List (String × DataW Unit)} (h : laidMet Tryd.prog (("math/bits.deBruijn64tab", Rows.laid_math_bits_deBruijn64tab) :: rest) W) : LaidB W := by
  have h1 := Lib.tabIs_of_head (k := .u8) (zs := tab64) Tryd.tg Tryd.tgt Tryd.underlying161 Tryd.underlying5 (by kernel_rfl) (by kernel_rfl) (show laidMet Tryd.prog (("math/bits.deBruijn64tab", Lib.tabData .u8 tab64) :: rest) W from h)
  exact h1.cell Tryd.tg 15 (by decide)

/-- A world in which a variable's cells are these. -/
noncomputable def withCells (g : Nat) (cs : Array Value) (w0 : World) : World :=
  { w0 with heap := w0.heap.modify g fun
      | .cells _ t frozen => .cells cs t frozen
      | o => o }
noncomputable def worldT (os : Os) : World :=
  withCells 5 (tab64.map fun z => Value.int .u8 z).toArray
    (withCells 4 (tab32.map fun z => Value.int .u8 z).toArray
      (withCells 3 (tab10.map fun z => Value.int .u64 z).toArray
        (withR (World.holding Tryd.prog os ⟨#[], #[], []⟩))))
end Go.Proofs.YtmligbaalbbgiaaDoor

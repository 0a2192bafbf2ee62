/- What the conditions on the package variables give a walk of files, and a world that meets them. No further condition. -/
import Derived.Test.YtmligbaalbbgiabGreatDoorRows
import Derived.Test.YtmligbaalbbgiabGreatDoorEntryV
import Derived.ChangeSame
import Derived.ChangeVars
import Derived.JoinedOf
import Derived.RowKit
import Derived.RowKitTokens
import Derived.LaidLaws
import Derived.LaidHandle
import Derived.Lib.LaidTab
import Derived.Stop.LaidErr
import Derived.Stop.Joined
import Derived.Shelf.Vars
namespace Go.Proofs.YtmligbaalbbgiabGreatDoor
open Go.ChangeShapes Go.WideShapes Go.RowKit

theorem pow_ty : (Tryz.prog.globals[4]?).map (·.type) = some 137 := by kernel_rfl
theorem rng_ty : (Tryz.prog.globals[3]?).map (·.type) = some 28 := by kernel_rfl
theorem synt_ty : (Tryz.prog.globals[2]?).map (·.type) = some 28 := by kernel_rfl
theorem co_err : Tryz.prog.cellsOf 162 = 1 := by kernel_rfl
theorem co_str1 : Tryz.prog.cellsOf 9 = 1 := by kernel_rfl
theorem star_err : "*" ++ "errors.errorString" = "*errors.errorString" := by decide
theorem row_err (u : TypeId) (h : Tryz.prog.typeName? 3 u = some "*errors.errorString") : u = 160 :=
  typeName_ptr_named (nm := "errors.errorString") (by rw [star_err]; kernel_rfl) (by kernel_rfl) (by decide) u (by rw [star_err]; exact h)
abbrev laidList : List (String × DataW Unit) := [("math/bits.deBruijn32tab", Rows.laid_math_bits_deBruijn32tab), ("math/bits.deBruijn64tab", Rows.laid_math_bits_deBruijn64tab), ("internal/strconv.uint64pow10", Rows.laid_internal_strconv_uint64pow10), ("unicode/utf8.acceptRanges", Rows.laid_unicode_utf8_acceptRanges), ("strconv.ErrRange", Rows.laid_strconv_ErrRange), ("strconv.ErrSyntax", Rows.laid_strconv_ErrSyntax), ("unicode/utf8.first", Rows.laid_unicode_utf8_first)]
theorem laidN_of {W : World} (h : laidMet Tryz.prog laidList W) (hs : W.ShapedOpen Tryz.prog) : LaidN W where
  pow := Lib.tabIs_of_head (k := .u64) (zs := Lib.pow10Tab) pow_at pow_ty Tryz.underlying137 Tryz.underlying107 (by kernel_rfl) (by kernel_rfl) h.tail.tail
  rng := by
    obtain ⟨a, s, hv, -⟩ := laid_sentinel h.tail.tail.tail.tail rng_at rng_ty Tryz.underlying28 row_err Tryz.underlying160 Tryz.underlying162 rfl rfl Tryz.underlying9 co_err co_str1
    exact ⟨_, _, hv⟩
  synt := by
    obtain ⟨a, s, hv, -⟩ := laid_sentinel h.tail.tail.tail.tail.tail synt_at synt_ty Tryz.underlying28 row_err Tryz.underlying160 Tryz.underlying162 rfl rfl Tryz.underlying9 co_err co_str1
    exact ⟨_, _, hv⟩
  mx := cell_of_shapedOpen_int hs (t := 3) (zero := #[.int .i64 0]) (of_decide_eq_true (by kernel_rfl)) (by kernel_rfl) rfl (by kernel_rfl) (by kernel_rfl) Tryz.underlying3

def tab64 : List Int := [0, 1, 56, 2, 57, 49, 28, 3, 61, 58, 42, 50, 38, 29, 17, 4, 62, 47, 59, 36, 45, 43, 51, 22, 53, 39, 33, 30, 24, 18, 12, 5, 63, 55, 48, 27, 60, 41, 37, 16, 46, 35, 44, 21, 52, 32, 23, 11, 54, 26, 40, 15, 34, 20, 31, 10, 25, 14, 19, 9, 13, 8, 7, 6]
def tab32 : List Int := [0, 1, 28, 2, 29, 14, 24, 3, 30, 22, 20, 15, 25, 17, 4, 8, 31, 27, 13, 23, 21, 19, 16, 7, 26, 12, 18, 6, 11, 5, 10, 9]
def tabAcc : List Int := [128, 191, 160, 191, 128, 159, 144, 191, 128, 143] ++ List.replicate 22 0
/-- A world in which a variable's cells are these. -/
noncomputable def withCells (g : Nat) (cs : Array Value) (w0 : World) : World :=
  { w0 with heap := w0.heap.modify g fun
      | .cells _ t frozen => .cells cs t frozen
      | o => o }
noncomputable def lowN : Nat := (World.holding Tryz.prog default ⟨#[], #[], []⟩).heap.size
noncomputable def worldN (os : Os) : World :=
  withCells 8 (tab64.map fun z => Value.int .u8 z).toArray
    (withCells 7 (tab32.map fun z => Value.int .u8 z).toArray
      (withCells 4 (Lib.pow10Tab.map fun z => Value.int .u64 z).toArray
        (withCells 6 (tabAcc.map fun z => Value.int .u8 z).toArray
          (withCells 5 (Go.Pinned.utf8FirstZ.map fun z : Nat => Value.int .u8 (z : Int)).toArray
            (withCells 3 #[.iface 160 (.pointer (some ⟨lowN, 0, none⟩))]
              (withCells 2 #[.iface 160 (.pointer (some ⟨lowN + 1, 0, none⟩))]
                (World.holding Tryz.prog os ⟨#[.cells #[.string ⟨#[118, 97, 108, 117, 101, 32, 111, 117, 116, 32, 111, 102, 32, 114, 97, 110, 103, 101]⟩] 162, .cells #[.string ⟨#[105, 110, 118, 97, 108, 105, 100, 32, 115, 121, 110, 116, 97, 120]⟩] 162], #[], []⟩)))))))
end Go.Proofs.YtmligbaalbbgiabGreatDoor

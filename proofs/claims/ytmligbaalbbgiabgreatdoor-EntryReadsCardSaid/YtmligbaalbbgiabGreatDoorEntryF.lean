/- Files, as plain data and in memory; which may be. It states nothing about the program. -/
import Derived.Test.YtmligbaalbbgiabGreatDoorEntryM
import Derived.Test.YtmligbaalbbgiabGreatDoorEntryN
import Derived.ChangeSlices
namespace Go.Proofs.YtmligbaalbbgiabGreatDoor
open Go.RowKit

/-- A file, and where its cells lie. -/
structure FileD where
  name : ByteArray
  size : Int
  cA : Option Addr
  cc : Nat
  cells : List Int
def FileD.vals (x : FileD) : Array Value := #[.string x.name, .int .i64 x.size, .slice x.cA x.cells.length x.cc]
/-- Numbers in a row that can be read. -/
def IntsIn (w : World) (A : Option Addr) (ks : List Int) : Prop :=
  0 < ks.length → ∃ a, A = some a ∧ a.block < w.heap.size ∧ ∀ i, i < ks.length → w.cell? (a.add i) = some (.int .i64 (ks.getD i 0))
/-- Files in a row that can be read. -/
structure FilesAt (w : World) (A : Option Addr) (n : Nat) (l : List FileD) : Prop where
  hn : n = l.length
  wf : ∀ x ∈ l, x.name.size ≤ 9223372036854775807 ∧ x.cells.length ≤ 9223372036854775807 ∧ ∀ k ∈ x.cells, -9223372036854775808 ≤ k ∧ k ≤ 9223372036854775807
  at_ : ∀ i, i < n → ∃ a x, A = some a ∧ l[i]? = some x ∧ a.block < w.heap.size ∧ (∀ j v, x.vals[j]? = some v → w.cell? ((a.add (i * 3)).add j) = some v) ∧ IntsIn w x.cA x.cells
theorem IntsIn.keep {w w' : World} {A : Option Addr} {ks : List Int} (h : IntsIn w A ks) (hb : Below w.heap.size w w') : IntsIn w' A ks := fun h0 => by
  obtain ⟨a, h1, h3, h4⟩ := h h0
  refine ⟨a, h1, Nat.lt_of_lt_of_le h3 hb.size, fun i hi => ?_⟩
  rw [hb.cell (p := a.add i) (by rw [Go.ChangeShapes.block_add]; exact h3)]
  exact h4 i hi
theorem FilesAt.below {w w' : World} {A : Option Addr} {n : Nat} {l : List FileD} (h : FilesAt w A n l) (hb : Below w.heap.size w w') : FilesAt w' A n l :=
  ⟨h.hn, h.wf, fun i hi => by
    obtain ⟨a, x, h1, h2, h3, h4, h5⟩ := h.at_ i hi
    exact ⟨a, x, h1, h2, Nat.lt_of_lt_of_le h3 hb.size, fun j v hj => by rw [hb.cell (p := (a.add (i * 3)).add j) (by rw [Go.ChangeShapes.block_add, Go.ChangeShapes.block_add]; exact h3)]; exact h4 j v hj, h5.keep hb⟩⟩
theorem FilesAt.row {w : World} {A : Option Addr} {n : Nat} {l : List FileD} (h : FilesAt w A n l) (i : Nat) (hi : i < n) : ∃ a x, A = some a ∧ l[i]? = some x ∧ w.cell? (a.add (i * 3)) = some (.string x.name) ∧ w.cell? ⟨(a.add (i * 3)).block, (a.add (i * 3)).off + 1, none⟩ = some (.int .i64 x.size) ∧ w.cell? ⟨(a.add (i * 3)).block, (a.add (i * 3)).off + 2, none⟩ = some (.slice x.cA x.cells.length x.cc) ∧ IntsIn w x.cA x.cells := by
  obtain ⟨a, x, h1, h2, h3, h4, h5⟩ := h.at_ i hi
  exact ⟨a, x, h1, h2, h4 0 _ rfl, h4 1 _ rfl, h4 2 _ rfl, h5⟩

/-- What a file's own line asks, behind another one's. -/
def okFile (prev : Option ByteArray) (x : FileD) : Bool := nameB (bl x.name) && (match prev with | none => true | some p => Op.bytesLess p.toList x.name.toList) && decide (0 ≤ x.size) && decide (x.size ≤ 1920) && decide (x.cells.length = needN x.size.toNat)
/-- What is taken, behind more cells: none, if they may not be. -/
def okCells (seen : List Int) : List Int → Option (List Int)
  | [] => some seen
  | k :: r => if k < 3 ∨ 24 ≤ k ∨ k ∈ seen then none else okCells (seen ++ [k]) r
def okFiles (prev : Option ByteArray) (seen : List Int) : List FileD → Bool
  | [] => true
  | x :: r => okFile prev x && match okCells seen x.cells with | none => false | some s => okFiles (some x.name) s r
def rightB (l : List FileD) : Bool := decide (l.length ≤ 8) && okFiles none [] l
/-- The name of the one ahead. -/
def prevOf (l : List FileD) (I : Nat) : Option ByteArray := if I = 0 then none else (l[I - 1]?).map (·.name)
theorem okFiles_step {l : List FileD} {I : Nat} {x : FileD} {prev : Option ByteArray} {seen : List Int} (hx : l[I]? = some x) : okFiles prev seen (l.drop I) = (okFile prev x && match okCells seen x.cells with | none => false | some s => okFiles (some x.name) s (l.drop (I + 1))) := by
  obtain ⟨h1, h2⟩ := List.getElem?_eq_some_iff.1 hx
  rw [List.drop_eq_getElem_cons h1, h2]
  rfl
theorem prevOf_next {l : List FileD} {I : Nat} {x : FileD} (hx : l[I]? = some x) : prevOf l (I + 1) = some x.name := by
  unfold prevOf
  rw [if_neg (by omega), Nat.add_sub_cancel, hx]
  rfl
end Go.Proofs.YtmligbaalbbgiabGreatDoor

/- A table among the arguments: its cells, told. No condition. -/
import Derived.Test.YtmligbaalbbgiaaProg
import Derived.Test.YtmligbaalbbgiaaBase
import Derived.Test.YtmligbaalbbgiaaSpaceS
import Derived.OpenShut
import Derived.ProofKit
import Derived.ChangeArms
namespace Go.Proofs.Ytmligbaalbbgiaa
open Go.RowKit Go.ChangeShapes Go.WideShapes

/-- A table's cells: each one's zone, place and tag. -/
structure Tab (cs : Array Value) (zone off : Nat → Int) (tag : Nat → ByteArray) : Prop where
  size : cs.size = 73
  z : ∀ i, i < 24 → cs[1 + 3 * i]? = some (.int .i64 (zone i))
  o : ∀ i, i < 24 → cs[2 + 3 * i]? = some (.int .i64 (off i))
  t : ∀ i, i < 24 → cs[3 + 3 * i]? = some (.string (tag i))
  c : ∃ n, cs[0]? = some (.int .i64 n)
  wf : ∀ i, i < 24 → -9223372036854775808 ≤ zone i ∧ zone i ≤ 9223372036854775807
  len : ∀ i, i < 24 → (tag i).size ≤ maxLen
section
variable {H : Type} {enc : TypeId × Value → H} {w : World} {base : Nat} {sp : Nat → Bool} {held : Bool}
theorem cells_int : Try.prog.cellsOf 3 = 1 := by kernel_rfl
theorem cells_str : Try.prog.cellsOf 9 = 1 := by kernel_rfl
theorem cells_arr : Try.prog.cellsOf 55 = 72 := by kernel_rfl
set_option maxRecDepth 100000 in
theorem cell_open {fuel : Nat} {cs : List Value} {x : DataW H × List MemPlace} (h : DataW.trod enc Try.prog w base sp held fuel 54 cs = some x) :
    ∃ (a b : Int) (s : ByteArray), cs = [.int .i64 a, .int .i64 b, .string s] ∧ (Lit.int .i64 a).wf = true ∧ s.size ≤ maxLen := by
  obtain ⟨xs, n, rfl, _, hl, hxl, hall⟩ := DataW.trod_struct Try.underlying54 h
  have hl3 : cs.length = 3 := hl.trans (by kernel_rfl)
  have hx3 : xs.length = 3 := hxl
  have e0 : DataW.trod enc Try.prog w base sp held n 3 ((cs.drop 0).take (Try.prog.cellsOf 3)) = xs[0]? := hall 0 _ rfl
  have e1 : DataW.trod enc Try.prog w base sp held n 3 ((cs.drop 1).take (Try.prog.cellsOf 3)) = xs[1]? := hall 1 _ rfl
  have e2 : DataW.trod enc Try.prog w base sp held n 9 ((cs.drop 2).take (Try.prog.cellsOf 9)) = xs[2]? := hall 2 _ rfl
  rw [cells_int] at e0 e1
  rw [cells_str] at e2
  match cs, hl3 with
  | [u, v, t], _ =>
    obtain ⟨x0, x1, x2, rfl⟩ : ∃ x0 x1 x2, xs = [x0, x1, x2] := by
      match xs, hx3 with
      | [x0, x1, x2], _ => exact ⟨x0, x1, x2, rfl⟩
    obtain ⟨a, ha, _, hw⟩ := DataW.trod_int Try.underlying3 (show DataW.trod enc Try.prog w base sp held n 3 [u] = some x0 from e0)
    obtain ⟨b, hb, _, _⟩ := DataW.trod_int Try.underlying3 (show DataW.trod enc Try.prog w base sp held n 3 [v] = some x1 from e1)
    obtain ⟨s, hs, _, hsz⟩ := DataW.trod_string Try.underlying9 (show DataW.trod enc Try.prog w base sp held n 9 [t] = some x2 from e2)
    cases ha; cases hb; cases hs
    exact ⟨a, b, s, rfl, hw, hsz⟩
set_option maxRecDepth 100000 in
theorem table_open {fuel : Nat} {cs : Array Value} {x : DataW H × List MemPlace} (h : DataW.trod enc Try.prog w base sp held fuel 57 cs.toList = some x) :
    ∃ zone off tag, Tab cs zone off tag := by
  obtain ⟨xs, n, rfl, _, hl, hxl, hall⟩ := DataW.trod_struct Try.underlying57 h
  have hl73 : cs.toList.length = 73 := hl.trans (by kernel_rfl)
  have hx2 : xs.length = 2 := hxl
  have e0 : DataW.trod enc Try.prog w base sp held n 3 ((cs.toList.drop 0).take (Try.prog.cellsOf 3)) = xs[0]? := hall 0 _ rfl
  have e1 : DataW.trod enc Try.prog w base sp held n 55 ((cs.toList.drop 1).take (Try.prog.cellsOf 55)) = xs[1]? := hall 1 _ rfl
  rw [cells_int] at e0
  rw [cells_arr] at e1
  obtain ⟨x0, x1, rfl⟩ : ∃ x0 x1, xs = [x0, x1] := by
    match xs, hx2 with
    | [x0, x1], _ => exact ⟨x0, x1, rfl⟩
  obtain ⟨c, hc, _, _⟩ := DataW.trod_int Try.underlying3 (show DataW.trod enc Try.prog w base sp held n 3 ((cs.toList.drop 0).take 1) = some x0 from e0)
  obtain ⟨ys, m, rfl, _, hl2, hyl, hall2⟩ := DataW.trod_array Try.underlying55 (show DataW.trod enc Try.prog w base sp held n 55 ((cs.toList.drop 1).take 72) = some x1 from e1)
  have h3 : Try.prog.cellsOf 54 = 3 := by kernel_rfl
  rw [h3] at hall2
  have each : ∀ i, i < 24 → ∃ q : Int × Int × ByteArray, cs[1 + 3 * i]? = some (.int .i64 q.1) ∧ cs[2 + 3 * i]? = some (.int .i64 q.2.1) ∧ cs[3 + 3 * i]? = some (.string q.2.2) ∧ (Lit.int .i64 q.1).wf = true ∧ q.2.2.size ≤ maxLen := by
    intro i hi
    have hy : ys[i]? = some (ys[i]'(by omega)) := List.getElem?_eq_getElem (by omega)
    have h4 := (hall2 i hi).trans hy
    obtain ⟨a, b, s, hcs, hw, hs⟩ := cell_open h4
    have at_ : ∀ j, j < 3 → cs[1 + 3 * i + j]? = [Value.int .i64 a, .int .i64 b, .string s][j]? := by
      intro j hj
      rw [← hcs]
      simp only [List.getElem?_take, List.getElem?_drop, hj, if_true]
      rw [if_pos (by omega), show 1 + (i * 3 + j) = 1 + 3 * i + j from by omega]
      simp
    refine ⟨(a, b, s), by simpa using at_ 0 (by omega), ?_, ?_, hw, hs⟩
    · have := at_ 1 (by omega)
      rw [show 1 + 3 * i + 1 = 2 + 3 * i from by omega] at this
      simpa using this
    · have := at_ 2 (by omega)
      rw [show 1 + 3 * i + 2 = 3 + 3 * i from by omega] at this
      simpa using this
  have all : ∃ f : Nat → Int × Int × ByteArray, ∀ i, i < 24 → cs[1 + 3 * i]? = some (.int .i64 (f i).1) ∧ cs[2 + 3 * i]? = some (.int .i64 (f i).2.1) ∧ cs[3 + 3 * i]? = some (.string (f i).2.2) ∧ (Lit.int .i64 (f i).1).wf = true ∧ (f i).2.2.size ≤ maxLen := by
    refine ⟨fun i => if h : i < 24 then Classical.choose (each i h) else (0, 0, ⟨#[]⟩), fun i hi => ?_⟩
    simp only [hi, dif_pos]
    exact Classical.choose_spec (each i hi)
  obtain ⟨f, hf⟩ := all
  refine ⟨fun i => (f i).1, fun i => (f i).2.1, fun i => (f i).2.2, ⟨by simpa using hl73, fun i hi => (hf i hi).1, fun i hi => (hf i hi).2.1, fun i hi => (hf i hi).2.2.1, ⟨c, ?_⟩, fun i hi => ?_, fun i hi => (hf i hi).2.2.2.2⟩⟩
  · have := congrArg (·[0]?) hc
    simpa [List.getElem?_take] using this
  · have := (hf i hi).2.2.2.1
    simp [Lit.wf, IntKind.min, IntKind.max, IntKind.signed, IntKind.bits] at this
    omega
end
/-- The cells that lie in a zone, of the first k. -/
def inAt (zone : Nat → Int) (tag : Nat → ByteArray) (z : Int) : Nat → List Nat
  | 0 => []
  | k + 1 => if (tag k).toList.isEmpty = false ∧ zone k = z then inAt zone tag z k ++ [k] else inAt zone tag z k
theorem inAt_length (zone : Nat → Int) (tag : Nat → ByteArray) (z : Int) (k : Nat) : (inAt zone tag z k).length ≤ k := by
  induction k with
  | zero => exact Nat.le_refl _
  | succ k ih =>
    rw [inAt]
    split
    · rw [List.length_append]; simp; exact ih
    · omega
theorem inAt_lt (zone : Nat → Int) (tag : Nat → ByteArray) (z : Int) (k : Nat) : ∀ x ∈ inAt zone tag z k, x < k := by
  induction k with
  | zero => intro x hx; cases hx
  | succ k ih =>
    intro x hx
    rw [inAt] at hx
    split at hx
    · rcases List.mem_append.1 hx with h | h
      · have := ih x h; omega
      · have := List.mem_singleton.1 h; omega
    · have := ih x hx; omega
end Go.Proofs.Ytmligbaalbbgiaa

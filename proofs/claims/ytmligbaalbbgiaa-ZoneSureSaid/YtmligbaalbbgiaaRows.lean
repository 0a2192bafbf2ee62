/-
  No cell of these rows narrows 'for every input' (looked for: loops, veiled, ifaces, maps, wideKeys, modest, calm, conditions, laid).
  DERIVED. THE GIVEN ROWS OF THIS SEAT. 5 by the template 'for every input the law returns true; each argument reads behind the call as it read before'; 0 by the template 'total and deterministic' (their statements: YtmligbaalbbgiaaTotals.lean).
  GIVEN WITH THE SEED: the statements are not yours to turn. If you find one false, say at which input.
  Laid BY PROGRAM, IN A SANDBOX (cutbox-rows.mjs): the forced cells as the released guide's own fill.sh prints them over the translation 925364b23a84ff17… (all of the seat's roots in one cut). By AI agents, Wed Nov 11 2026. No macro, syntax, notation, axiom, sorry.
-/
import Derived.Test.YtmligbaalbbgiaaChecked
import GoSem.Claim
import GoSem.ClaimJoined
import GoSem.ClaimMapViews
import Derived.JoinedTies
import Derived.KernelRfl
namespace Go.Proofs.Ytmligbaalbbgiaa
/- THE CELL 'sum', in the pinned program and in every row, IS THE sha256 OF THE DUMP (.gsa) THAT YtmligbaalbbgiaaProg.lean LOADS. Nothing in Lean hashes anything: it is a label: what it is worth is what the hold of that sum in a sandbox is worth. -/
noncomputable def Try.pinned : Pinned := { name := "ytmligbaalbbgiaa", sum := "925364b23a84ff1704357439bdb33b525da15b0b85a7a02e26130adf36bbb8f4", checked := Try.checked }
namespace Rows
def none {H : Type} : Left H := { results := [], args := [] }

/-- 'salternkeep.StreamApart': WHATEVER THE INPUT: true; the input reads as it did. -/
def streamApartSpec : ChangeSpec := { name := "streamApart", fn := fun _ => fun
  | [d1, d2, d3, d4, d5, d6] => { results := [.lit (.bool true)], args := [d1, d2, d3, d4, d5, d6] }
  | _ => none }
def streamApartRow : OpenClaim := { program := "ytmligbaalbbgiaa", sum := "925364b23a84ff1704357439bdb33b525da15b0b85a7a02e26130adf36bbb8f4", func := "saltern/salternkeep.StreamApart", spec := "streamApart", apart := false }
def StreamApartSaid : Prop := streamApartRow.holds Try.pinned (OpenSpec.ofChange streamApartSpec)

/-- ITS FALSE NEIGHBOUR: 'it returns false'. Refute it at one input. -/
def streamApartWrong : ChangeSpec := { name := "streamApart", fn := fun _ => fun
  | [d1, d2, d3, d4, d5, d6] => { results := [.lit (.bool false)], args := [d1, d2, d3, d4, d5, d6] }
  | _ => none }
def StreamApartWrongFalsely : Prop := streamApartRow.holds Try.pinned (OpenSpec.ofChange streamApartWrong)

/-- 'salternkeep.StreamTwice': WHATEVER THE INPUT: true; the input reads as it did. -/
def streamTwiceSpec : ChangeSpec := { name := "streamTwice", fn := fun _ => fun
  | [d1, d2, d3, d4, d5] => { results := [.lit (.bool true)], args := [d1, d2, d3, d4, d5] }
  | _ => none }
def streamTwiceRow : OpenClaim := { program := "ytmligbaalbbgiaa", sum := "925364b23a84ff1704357439bdb33b525da15b0b85a7a02e26130adf36bbb8f4", func := "saltern/salternkeep.StreamTwice", spec := "streamTwice", apart := false }
def StreamTwiceSaid : Prop := streamTwiceRow.holds Try.pinned (OpenSpec.ofChange streamTwiceSpec)

/-- ITS FALSE NEIGHBOUR: 'it returns false'. Refute it at one input. -/
def streamTwiceWrong : ChangeSpec := { name := "streamTwice", fn := fun _ => fun
  | [d1, d2, d3, d4, d5] => { results := [.lit (.bool false)], args := [d1, d2, d3, d4, d5] }
  | _ => none }
def StreamTwiceWrongFalsely : Prop := streamTwiceRow.holds Try.pinned (OpenSpec.ofChange streamTwiceWrong)

/-- 'salternkeep.ZoneSure': WHATEVER THE INPUT: true; the input reads as it did. -/
def zoneSureSpec : ChangeSpec := { name := "zoneSure", fn := fun _ => fun
  | [d1, d2, d3, d4, d5] => { results := [.lit (.bool true)], args := [d1, d2, d3, d4, d5] }
  | _ => none }
def zoneSureRow : OpenClaim := { program := "ytmligbaalbbgiaa", sum := "925364b23a84ff1704357439bdb33b525da15b0b85a7a02e26130adf36bbb8f4", func := "saltern/salternkeep.ZoneSure", spec := "zoneSure", inPlace := ["internal/abi.NoEscape", "internal/bytealg.MakeNoZero"], unfollowed := true, recurses := true, apart := false }
def ZoneSureSaid : Prop := zoneSureRow.holds Try.pinned (OpenSpec.ofChange zoneSureSpec)

/-- ITS FALSE NEIGHBOUR: 'it returns false'. Refute it at one input. -/
def zoneSureWrong : ChangeSpec := { name := "zoneSure", fn := fun _ => fun
  | [d1, d2, d3, d4, d5] => { results := [.lit (.bool false)], args := [d1, d2, d3, d4, d5] }
  | _ => none }
def ZoneSureWrongFalsely : Prop := zoneSureRow.holds Try.pinned (OpenSpec.ofChange zoneSureWrong)

/-- 'salternlaw.SpaceFinds': WHATEVER THE INPUT: true; the input reads as it did. -/
def spaceFindsSpec : ChangeSpec := { name := "spaceFinds", fn := fun _ => fun
  | [d1, d2, d3, d4, d5] => { results := [.lit (.bool true)], args := [d1, d2, d3, d4, d5] }
  | _ => none }
def spaceFindsRow : OpenClaim := { program := "ytmligbaalbbgiaa", sum := "925364b23a84ff1704357439bdb33b525da15b0b85a7a02e26130adf36bbb8f4", func := "saltern/salternlaw.SpaceFinds", spec := "spaceFinds", recurses := true, apart := false }
def SpaceFindsSaid : Prop := spaceFindsRow.holds Try.pinned (OpenSpec.ofChange spaceFindsSpec)

/-- ITS FALSE NEIGHBOUR: 'it returns false'. Refute it at one input. -/
def spaceFindsWrong : ChangeSpec := { name := "spaceFinds", fn := fun _ => fun
  | [d1, d2, d3, d4, d5] => { results := [.lit (.bool false)], args := [d1, d2, d3, d4, d5] }
  | _ => none }
def SpaceFindsWrongFalsely : Prop := spaceFindsRow.holds Try.pinned (OpenSpec.ofChange spaceFindsWrong)

/-- 'salternkeep.SpaceFits': WHATEVER THE INPUT: true; the input reads as it did. -/
def spaceFitsSpec : ChangeSpec := { name := "spaceFits", fn := fun _ => fun
  | [d1, d2, d3, d4] => { results := [.lit (.bool true)], args := [d1, d2, d3, d4] }
  | _ => none }
def spaceFitsRow : OpenClaim := { program := "ytmligbaalbbgiaa", sum := "925364b23a84ff1704357439bdb33b525da15b0b85a7a02e26130adf36bbb8f4", func := "saltern/salternkeep.SpaceFits", spec := "spaceFits", recurses := true, apart := false }
def SpaceFitsSaid : Prop := spaceFitsRow.holds Try.pinned (OpenSpec.ofChange spaceFitsSpec)

/-- ITS FALSE NEIGHBOUR: 'it returns false'. Refute it at one input. -/
def spaceFitsWrong : ChangeSpec := { name := "spaceFits", fn := fun _ => fun
  | [d1, d2, d3, d4] => { results := [.lit (.bool false)], args := [d1, d2, d3, d4] }
  | _ => none }
def SpaceFitsWrongFalsely : Prop := spaceFitsRow.holds Try.pinned (OpenSpec.ofChange spaceFitsWrong)

/- THE SECOND FORM. 'bulk': how many values and letters a reading holds, each counted each time it is reached (what is shared counts as often as it is met; a slice's spare places count too). A statement '..UptoSaid' is the law's where the arguments, and the package variables that the reading takes, are together of bulk at most 1048576: NARROWER than '..Said'. Prove '..Said' where nothing that the law and all that it calls make is longer than what came in: it says more and counts as full. Else prove '..UptoSaid'. A law counts once. -/
mutual
def uptoBulk {H : Type} : DataW H → Nat
  | .lit (.string bytes) => bytes.length + 1
  | .lit _ => 1
  | .nil => 1
  | .ptr d => uptoBulk d + 1
  | .slice elems spare => uptoBulkAll elems + uptoBulkAll spare + 1
  | .agg parts => uptoBulkAll parts + 1
  | .iface _ d => uptoBulk d + 1
  | .map entries => uptoBulkEntries entries + 1
  | .held _ => 1
def uptoBulkAll {H : Type} : List (DataW H) → Nat
  | [] => 0
  | d :: r => uptoBulk d + uptoBulkAll r
def uptoBulkEntries {H : Type} : List (Lit × DataW H) → Nat
  | [] => 0
  | x :: r => uptoBulkEntry x + uptoBulkEntries r
def uptoBulkEntry {H : Type} : Lit × DataW H → Nat
  | (.string bytes, d) => bytes.length + uptoBulk d + 1
  | (_, d) => uptoBulk d + 1
 end
def uptoSmall : (H : Type) → List (DataW H) → Bool := fun _ ds => decide (uptoBulkAll ds ≤ 1048576)
def OpenSpec.upto (s : _root_.Go.ChangeSpec) : _root_.Go.OpenSpec := { _root_.Go.OpenSpec.ofChange s with cond := some uptoSmall }

/-- 'salternkeep.StreamApart', WHERE WHAT IT READS IS OF BULK AT MOST 1048576: true; the input reads as it did. -/
def streamApartUptoRow : OpenClaim := { program := "ytmligbaalbbgiaa", sum := "925364b23a84ff1704357439bdb33b525da15b0b85a7a02e26130adf36bbb8f4", func := "saltern/salternkeep.StreamApart", spec := "streamApart", apart := false, narrowed := true }
def StreamApartUptoSaid : Prop := streamApartUptoRow.holds Try.pinned (OpenSpec.upto streamApartSpec)

/-- 'salternkeep.StreamTwice', WHERE WHAT IT READS IS OF BULK AT MOST 1048576: true; the input reads as it did. -/
def streamTwiceUptoRow : OpenClaim := { program := "ytmligbaalbbgiaa", sum := "925364b23a84ff1704357439bdb33b525da15b0b85a7a02e26130adf36bbb8f4", func := "saltern/salternkeep.StreamTwice", spec := "streamTwice", apart := false, narrowed := true }
def StreamTwiceUptoSaid : Prop := streamTwiceUptoRow.holds Try.pinned (OpenSpec.upto streamTwiceSpec)

/-- 'salternkeep.ZoneSure', WHERE WHAT IT READS IS OF BULK AT MOST 1048576: true; the input reads as it did. -/
def zoneSureUptoRow : OpenClaim := { program := "ytmligbaalbbgiaa", sum := "925364b23a84ff1704357439bdb33b525da15b0b85a7a02e26130adf36bbb8f4", func := "saltern/salternkeep.ZoneSure", spec := "zoneSure", inPlace := ["internal/abi.NoEscape", "internal/bytealg.MakeNoZero"], unfollowed := true, recurses := true, apart := false, narrowed := true }
def ZoneSureUptoSaid : Prop := zoneSureUptoRow.holds Try.pinned (OpenSpec.upto zoneSureSpec)

/-- 'salternlaw.SpaceFinds', WHERE WHAT IT READS IS OF BULK AT MOST 1048576: true; the input reads as it did. -/
def spaceFindsUptoRow : OpenClaim := { program := "ytmligbaalbbgiaa", sum := "925364b23a84ff1704357439bdb33b525da15b0b85a7a02e26130adf36bbb8f4", func := "saltern/salternlaw.SpaceFinds", spec := "spaceFinds", recurses := true, apart := false, narrowed := true }
def SpaceFindsUptoSaid : Prop := spaceFindsUptoRow.holds Try.pinned (OpenSpec.upto spaceFindsSpec)

/-- 'salternkeep.SpaceFits', WHERE WHAT IT READS IS OF BULK AT MOST 1048576: true; the input reads as it did. -/
def spaceFitsUptoRow : OpenClaim := { program := "ytmligbaalbbgiaa", sum := "925364b23a84ff1704357439bdb33b525da15b0b85a7a02e26130adf36bbb8f4", func := "saltern/salternkeep.SpaceFits", spec := "spaceFits", recurses := true, apart := false, narrowed := true }
def SpaceFitsUptoSaid : Prop := spaceFitsUptoRow.holds Try.pinned (OpenSpec.upto spaceFitsSpec)

end Rows
end Go.Proofs.Ytmligbaalbbgiaa

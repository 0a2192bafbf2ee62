/- The tied card of the statement EntryReads: its row, its eight listed variables tied to the program's text. No condition. -/
import Derived.Test.YtmligbaalbbgiabGreatDoorCards
import Derived.Test.YtmligbaalbbgiabGreatDoorTie
import Derived.Test.YtmligbaalbbgiabGreatDoorEntryReads
import Derived.SevenTiedAt
namespace Go.Proofs.YtmligbaalbbgiabGreatDoor
open Go

theorem entryReads_holds : Rows.EntryReadsCardSaid :=
  Claim7.holds_tied_plain_at .later [] [.data, .data, .data, .data, .handle, .sentinel, .sentinel, .pinned] true (true, "1f2e0650c5c095e2eee73961b7184ff10fd8237a30166f66bd3cccbdb0ef608d") true
    entryReads_row (fun _ h => by cases h) (by kernel_rfl) (fun _ h => by cases h) entryReads_row_tie rfl ⟨rfl, rfl⟩ (by kernel_rfl) rfl
    (fun f fn hf hfn => by
      obtain rfl : f = 3 := Option.some.inj ((show Tryz.prog.funcNamed "saltern/salternlaw.EntryReads" = some 3 by kernel_rfl).symm.trans hf) |>.symm
      obtain rfl : fn = Tryz.f3 := (Option.some.inj (Tryz.func3.symm.trans hfn)).symm
      exact ⟨by kernel_rfl, fun j t ht => by
        rw [Tryz.params3] at ht
        have h3 : t = 22 ∨ t = 9 ∨ t = 3 := by
          rcases j with _ | _ | _ | j
          · left; simpa using ht.symm
          · right; left; simpa using ht.symm
          · right; right; simpa using ht.symm
          · simp at ht
        rcases h3 with rfl | rfl | rfl
        · exact (show Tryz.prog.wantsStandIn 22 = false by kernel_rfl)
        · exact (show Tryz.prog.wantsStandIn 9 = false by kernel_rfl)
        · exact (show Tryz.prog.wantsStandIn 3 = false by kernel_rfl)⟩)
    (by kernel_rfl)
#print axioms entryReads_holds
end Go.Proofs.YtmligbaalbbgiabGreatDoor

/- The tied card of the statement EntryFree: its row, its seven listed variables tied to the program's text. No condition. -/
import Derived.Test.YtmligbaalbbgiabDoorCards
import Derived.Test.YtmligbaalbbgiabDoorTie
import Derived.Test.YtmligbaalbbgiabDoorEntryFree
import Derived.SevenTiedAt
namespace Go.Proofs.YtmligbaalbbgiabDoor
open Go

theorem entryFree_holds : Rows.EntryFreeCardSaid :=
  Claim7.holds_tied_plain_at .later [] [.data, .data, .data, .data, .sentinel, .sentinel, .pinned] true (true, "59962ff6378bdf5bb98db8b8e8366f734ba864e1783d4526d4bde7a92ae95fb3") true
    entryFree_row (fun _ h => by cases h) (by kernel_rfl) (fun _ h => by cases h) entryFree_row_tie rfl ⟨rfl, rfl⟩ (by kernel_rfl) rfl
    (fun f fn hf hfn => by
      obtain rfl : f = 9 := Option.some.inj ((show Tryd.prog.funcNamed "saltern/salternkeep.EntryFree" = some 9 by kernel_rfl).symm.trans hf) |>.symm
      obtain rfl : fn = Tryd.f9 := (Option.some.inj (Tryd.func9.symm.trans hfn)).symm
      exact ⟨by kernel_rfl, fun j t ht => by
        rw [Tryd.params9] at ht
        obtain rfl : t = 85 := by
          rcases j with _ | j
          · simpa using ht.symm
          · simp at ht
        exact (show Tryd.prog.wantsStandIn 85 = false by kernel_rfl)⟩)
    (by kernel_rfl)
#print axioms entryFree_holds
end Go.Proofs.YtmligbaalbbgiabDoor

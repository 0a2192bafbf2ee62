/- The tied card of the statement EntryBack: its row, its seven listed variables tied to the program's text. No condition. -/
import Derived.Test.YtmligbaalbbgiabDoorCards
import Derived.Test.YtmligbaalbbgiabDoorTie
import Derived.Test.YtmligbaalbbgiabDoorEntryBack
import Derived.SevenTiedAt
namespace Go.Proofs.YtmligbaalbbgiabDoor
open Go

theorem entryBack_holds : Rows.EntryBackCardSaid :=
  Claim7.holds_tied_plain_at .later [] [.data, .data, .data, .data, .sentinel, .sentinel, .pinned] true (true, "59962ff6378bdf5bb98db8b8e8366f734ba864e1783d4526d4bde7a92ae95fb3") true
    entryBack_row (fun _ h => by cases h) (by kernel_rfl) (fun _ h => by cases h) entryBack_row_tie rfl ⟨rfl, rfl⟩ (by kernel_rfl) rfl
    (fun f fn hf hfn => by
      obtain rfl : f = 8 := Option.some.inj ((show Tryd.prog.funcNamed "saltern/salternkeep.EntryBack" = some 8 by kernel_rfl).symm.trans hf) |>.symm
      obtain rfl : fn = Tryd.f8 := (Option.some.inj (Tryd.func8.symm.trans hfn)).symm
      exact ⟨by kernel_rfl, fun j t ht => by
        rw [Tryd.params8] at ht
        have h3 : t = 85 ∨ t = 9 ∨ t = 3 := by
          rcases j with _ | _ | _ | j
          · left; simpa using ht.symm
          · right; left; simpa using ht.symm
          · right; right; simpa using ht.symm
          · simp at ht
        rcases h3 with rfl | rfl | rfl
        · exact (show Tryd.prog.wantsStandIn 85 = false by kernel_rfl)
        · exact (show Tryd.prog.wantsStandIn 9 = false by kernel_rfl)
        · exact (show Tryd.prog.wantsStandIn 3 = false by kernel_rfl)⟩)
    (by kernel_rfl)
#print axioms entryBack_holds
end Go.Proofs.YtmligbaalbbgiabDoor

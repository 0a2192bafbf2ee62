/- The tied card of the statement ZoneKeeps: its row, its one listed variable tied to the program's text. No condition. -/
import Derived.Test.YtmligbaalbbgiabDoorCards
import Derived.Test.YtmligbaalbbgiabDoorTie
import Derived.Test.YtmligbaalbbgiabDoorZoneKeeps
import Derived.SevenTiedAt
namespace Go.Proofs.YtmligbaalbbgiabDoor
open Go

theorem zoneKeeps_holds : Rows.ZoneKeepsCardSaid :=
  Claim7.holds_tied_plain_at .later [] [.handle] true (true, "59962ff6378bdf5bb98db8b8e8366f734ba864e1783d4526d4bde7a92ae95fb3") true
    zoneKeeps_row (fun _ h => by cases h) (by kernel_rfl) (fun _ h => by cases h) zoneKeeps_row_tie rfl ⟨rfl, rfl⟩ (by kernel_rfl) rfl
    (fun f fn hf hfn => by
      obtain rfl : f = 6 := Option.some.inj ((show Tryd.prog.funcNamed "saltern/salternlaw.ZoneKeeps" = some 6 by kernel_rfl).symm.trans hf) |>.symm
      obtain rfl : fn = Tryd.f6 := (Option.some.inj (Tryd.func6.symm.trans hfn)).symm
      exact ⟨by kernel_rfl, fun j t ht => by
        rw [Tryd.params6] at ht
        have h3 : t = 54 ∨ t = 57 := by
          rcases j with _ | _ | j
          · left; simpa using ht.symm
          · right; simpa using ht.symm
          · simp at ht
        rcases h3 with rfl | rfl
        · exact (show Tryd.prog.wantsStandIn 54 = false by kernel_rfl)
        · exact (show Tryd.prog.wantsStandIn 57 = false by kernel_rfl)⟩)
    (by kernel_rfl)
#print axioms zoneKeeps_holds
end Go.Proofs.YtmligbaalbbgiabDoor

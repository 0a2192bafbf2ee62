/- The tied card of the statement ZoneRests: its row, its one listed variable tied to the program's text. No condition. -/
import Derived.Test.YtmligbaalbbgiabDoorCards
import Derived.Test.YtmligbaalbbgiabDoorTie
import Derived.Test.YtmligbaalbbgiabDoorZoneRests
import Derived.SevenTiedAt
namespace Go.Proofs.YtmligbaalbbgiabDoor
open Go

theorem zoneRests_holds : Rows.ZoneRestsCardSaid :=
  Claim7.holds_tied_plain_at .later [] [.handle] true (true, "59962ff6378bdf5bb98db8b8e8366f734ba864e1783d4526d4bde7a92ae95fb3") true
    zoneRests_row (fun _ h => by cases h) (by kernel_rfl) (fun _ h => by cases h) zoneRests_row_tie rfl ⟨rfl, rfl⟩ (by kernel_rfl) rfl
    (fun f fn hf hfn => by
      obtain rfl : f = 7 := Option.some.inj ((show Tryd.prog.funcNamed "saltern/salternkeep.ZoneRests" = some 7 by kernel_rfl).symm.trans hf) |>.symm
      obtain rfl : fn = Tryd.f7 := (Option.some.inj (Tryd.func7.symm.trans hfn)).symm
      exact ⟨by kernel_rfl, fun j t ht => by
        rw [Tryd.params7] at ht
        have h3 : t = 22 ∨ t = 23 := by
          rcases j with _ | _ | _ | j
          · left; simpa using ht.symm
          · left; simpa using ht.symm
          · right; simpa using ht.symm
          · simp at ht
        rcases h3 with rfl | rfl
        · exact (show Tryd.prog.wantsStandIn 22 = false by kernel_rfl)
        · exact (show Tryd.prog.wantsStandIn 23 = false by kernel_rfl)⟩)
    (by kernel_rfl)
#print axioms zoneRests_holds
end Go.Proofs.YtmligbaalbbgiabDoor

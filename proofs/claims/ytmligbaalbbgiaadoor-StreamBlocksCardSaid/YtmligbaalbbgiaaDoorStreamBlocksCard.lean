/- The tied card of the statement StreamBlocks: its row, its one listed variable tied to the program's text. No condition. -/
import Derived.Test.YtmligbaalbbgiaaDoorCards
import Derived.Test.YtmligbaalbbgiaaDoorTie
import Derived.Test.YtmligbaalbbgiaaDoorStreamBlocks
import Derived.SevenTiedAt
namespace Go.Proofs.YtmligbaalbbgiaaDoor
open Go

theorem streamBlocks_holds : Rows.StreamBlocksCardSaid :=
  Claim7.holds_tied_plain_at .later [] [.handle] true (true, "318a870c5090f9bf85efd2eda194dc27a8149591d4624319e5fb399f9ed020cb") true
    streamBlocks_row (fun _ h => by cases h) (by kernel_rfl) (fun _ h => by cases h) streamBlocks_row_tie rfl ⟨rfl, rfl⟩ (by kernel_rfl) rfl
    (fun f fn hf hfn => by
      obtain rfl : f = 4 := Option.some.inj ((show Tryd.prog.funcNamed "saltern/salternlaw.StreamBlocks" = some 4 by kernel_rfl).symm.trans hf) |>.symm
      obtain rfl : fn = Tryd.f4 := (Option.some.inj (Tryd.func4.symm.trans hfn)).symm
      exact ⟨by kernel_rfl, fun j t ht => by
        rw [Tryd.params4] at ht
        have h3 : t = 9 ∨ t = 3 := by
          rcases j with _ | _ | _ | _ | j
          · left; simpa using ht.symm
          · right; simpa using ht.symm
          · left; simpa using ht.symm
          · left; simpa using ht.symm
          · simp at ht
        rcases h3 with rfl | rfl
        · exact (show Tryd.prog.wantsStandIn 9 = false by kernel_rfl)
        · exact (show Tryd.prog.wantsStandIn 3 = false by kernel_rfl)⟩)
    (by kernel_rfl)
#print axioms streamBlocks_holds
end Go.Proofs.YtmligbaalbbgiaaDoor

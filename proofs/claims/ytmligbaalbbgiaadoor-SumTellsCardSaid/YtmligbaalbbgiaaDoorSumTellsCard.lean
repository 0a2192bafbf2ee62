/- The tied card of the statement SumTells: its row, its four listed variables tied to the program's text. No condition. -/
import Derived.Test.YtmligbaalbbgiaaDoorCards
import Derived.Test.YtmligbaalbbgiaaDoorTie
import Derived.Test.YtmligbaalbbgiaaDoorSumTells
import Derived.SevenTiedAt
namespace Go.Proofs.YtmligbaalbbgiaaDoor
open Go

theorem sumTells_holds : Rows.SumTellsCardSaid :=
  Claim7.holds_tied_plain_at .later [] [.data, .data, .data, .data] true (true, "318a870c5090f9bf85efd2eda194dc27a8149591d4624319e5fb399f9ed020cb") true
    sumTells_row (fun _ h => by cases h) (by kernel_rfl) (fun _ h => by cases h) sumTells_row_tie rfl ⟨rfl, rfl⟩ (by kernel_rfl) rfl
    (fun f fn hf hfn => by
      obtain rfl : f = 7 := Option.some.inj ((show Tryd.prog.funcNamed "saltern/salternlaw.SumTells" = some 7 by kernel_rfl).symm.trans hf) |>.symm
      obtain rfl : fn = Tryd.f7 := (Option.some.inj (Tryd.func7.symm.trans hfn)).symm
      exact ⟨by kernel_rfl, fun j t ht => by
        rw [Tryd.params7] at ht
        have h3 : t = 9 ∨ t = 3 ∨ t = 5 ∨ t = 22 := by
          rcases j with _ | _ | _ | _ | j
          · left; simpa using ht.symm
          · right; left; simpa using ht.symm
          · right; right; left; simpa using ht.symm
          · right; right; right; simpa using ht.symm
          · simp at ht
        rcases h3 with rfl | rfl | rfl | rfl
        · exact (show Tryd.prog.wantsStandIn 9 = false by kernel_rfl)
        · exact (show Tryd.prog.wantsStandIn 3 = false by kernel_rfl)
        · exact (show Tryd.prog.wantsStandIn 5 = false by kernel_rfl)
        · exact (show Tryd.prog.wantsStandIn 22 = false by kernel_rfl)⟩)
    (by kernel_rfl)
#print axioms sumTells_holds
end Go.Proofs.YtmligbaalbbgiaaDoor

/- The tied card of the statement MeterCounts: its row, its two listed variables tied to the program's text. No condition. -/
import Derived.Test.YtmligbaalbbgiaaDoorCards
import Derived.Test.YtmligbaalbbgiaaDoorTie
import Derived.Test.YtmligbaalbbgiaaDoorMeterCounts
import Derived.SevenTiedAt
namespace Go.Proofs.YtmligbaalbbgiaaDoor
open Go

theorem meterCounts_holds : Rows.MeterCountsCardSaid :=
  Claim7.holds_tied_plain_at .later [] [.data, .handle] true (true, "318a870c5090f9bf85efd2eda194dc27a8149591d4624319e5fb399f9ed020cb") true
    meterCounts_row (fun _ h => by cases h) (by kernel_rfl) (fun _ h => by cases h) meterCounts_row_tie rfl ⟨rfl, rfl⟩ (by kernel_rfl) rfl
    (fun f fn hf hfn => by
      obtain rfl : f = 6 := Option.some.inj ((show Tryd.prog.funcNamed "saltern/salternlaw.MeterCounts" = some 6 by kernel_rfl).symm.trans hf) |>.symm
      obtain rfl : fn = Tryd.f6 := (Option.some.inj (Tryd.func6.symm.trans hfn)).symm
      exact ⟨by kernel_rfl, fun j t ht => by
        rw [Tryd.params6] at ht
        have h3 : t = 42 ∨ t = 9 ∨ t = 5 := by
          rcases j with _ | _ | _ | j
          · left; simpa using ht.symm
          · right; left; simpa using ht.symm
          · right; right; simpa using ht.symm
          · simp at ht
        rcases h3 with rfl | rfl | rfl
        · exact (show Tryd.prog.wantsStandIn 42 = false by kernel_rfl)
        · exact (show Tryd.prog.wantsStandIn 9 = false by kernel_rfl)
        · exact (show Tryd.prog.wantsStandIn 5 = false by kernel_rfl)⟩)
    (by kernel_rfl)
#print axioms meterCounts_holds
end Go.Proofs.YtmligbaalbbgiaaDoor

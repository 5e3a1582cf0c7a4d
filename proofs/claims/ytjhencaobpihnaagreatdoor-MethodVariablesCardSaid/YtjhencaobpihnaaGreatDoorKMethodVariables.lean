/- The method set of a variable is that of its bound: the law holds at every input. -/
import Derived.Test.YtjhencaobpihnaaGreatDoorRMethodVariables
import Derived.Test.YtjhencaobpihnaaGreatDoorCards
import Derived.Test.YtjhencaobpihnaaGreatDoorTie
import Derived.SevenTiedAt
namespace Go.Proofs.YtjhencaobpihnaaGreatDoor
open Go Go.Proofs.T

set_option maxRecDepth 100000 in
theorem methodVariables_card : Rows.MethodVariablesCardSaid :=
  Claim7.holds_tied_plain_at .later [] [.data, .data, .data] true (true, "866e7e2e95b8ab7f893c63d07ae3fd4ae1d87f0b1ddd90bd64b5b2ff2b4d4715") false
    methodVariables_holds (fun _ h => by cases h) (by kernel_rfl) (fun _ h => by cases h) methodVariables_row_tie rfl ⟨rfl, rfl⟩ (by kernel_rfl) rfl
    (fun f fn hf hfn => by
      obtain rfl : f = 5 := Option.some.inj ((show Tryz.prog.funcNamed "castings/castingslaw12.MethodVariables" = some 5 by kernel_rfl).symm.trans hf) |>.symm
      obtain rfl : fn = Tryz.f5 := (Option.some.inj (Tryz.func5.symm.trans hfn)).symm
      exact ⟨by kernel_rfl, fun j t ht => by
        rw [show Tryz.f5.params = #[30, 25] from rfl] at ht
        have hm : t ∈ [30, 25] := by simpa using Array.mem_of_getElem? ht
        have hall : ([30, 25].all fun u => !Tryz.prog.wantsStandIn u) = true := by kernel_rfl
        exact (show Tryz.prog.wantsStandIn t = false by simpa using List.all_eq_true.1 hall t hm)⟩)
    (by kernel_rfl)
#print axioms methodVariables_card
end Go.Proofs.YtjhencaobpihnaaGreatDoor


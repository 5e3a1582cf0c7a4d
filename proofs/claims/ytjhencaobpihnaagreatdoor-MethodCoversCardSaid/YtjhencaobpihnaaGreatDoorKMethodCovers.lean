/- What one set of methods lacks of another, and whether it covers it: the law holds at every input. -/
import Derived.Test.YtjhencaobpihnaaGreatDoorRMethodCovers
import Derived.Test.YtjhencaobpihnaaGreatDoorCards
import Derived.Test.YtjhencaobpihnaaGreatDoorTie
import Derived.SevenTiedAt
namespace Go.Proofs.YtjhencaobpihnaaGreatDoor
open Go Go.Proofs.T

set_option maxRecDepth 100000 in
theorem methodCovers_card : Rows.MethodCoversCardSaid :=
  Claim7.holds_tied_plain_at .later [] [.data, .data, .data] true (true, "866e7e2e95b8ab7f893c63d07ae3fd4ae1d87f0b1ddd90bd64b5b2ff2b4d4715") false
    methodCovers_holds (fun _ h => by cases h) (by kernel_rfl) (fun _ h => by cases h) methodCovers_row_tie rfl ⟨rfl, rfl⟩ (by kernel_rfl) rfl
    (fun f fn hf hfn => by
      obtain rfl : f = 6 := Option.some.inj ((show Tryz.prog.funcNamed "castings/castingslaw12.MethodCovers" = some 6 by kernel_rfl).symm.trans hf) |>.symm
      obtain rfl : fn = Tryz.f6 := (Option.some.inj (Tryz.func6.symm.trans hfn)).symm
      exact ⟨by kernel_rfl, fun j t ht => by
        rw [show Tryz.f6.params = #[38, 38] from rfl] at ht
        have hm : t ∈ [38, 38] := by simpa using Array.mem_of_getElem? ht
        have hall : ([38, 38].all fun u => !Tryz.prog.wantsStandIn u) = true := by kernel_rfl
        exact (show Tryz.prog.wantsStandIn t = false by simpa using List.all_eq_true.1 hall t hm)⟩)
    (by kernel_rfl)
#print axioms methodCovers_card
end Go.Proofs.YtjhencaobpihnaaGreatDoor


/- Method sets, and each signature in them, are those of the reference implementation: the law holds at every input. -/
import Derived.Test.YtjhencaobpihnaaGreatDoorRMethodMatchesReference
import Derived.Test.YtjhencaobpihnaaGreatDoorCards
import Derived.Test.YtjhencaobpihnaaGreatDoorTie
import Derived.SevenTiedAt
namespace Go.Proofs.YtjhencaobpihnaaGreatDoor
open Go Go.Proofs.T

set_option maxRecDepth 100000 in
theorem methodMatchesReference_card : Rows.MethodMatchesReferenceCardSaid :=
  Claim7.holds_tied_plain_at .later [] [.data, .data, .data] true (true, "866e7e2e95b8ab7f893c63d07ae3fd4ae1d87f0b1ddd90bd64b5b2ff2b4d4715") false
    methodMatchesReference_holds (fun _ h => by cases h) (by kernel_rfl) (fun _ h => by cases h) methodMatchesReference_row_tie rfl ⟨rfl, rfl⟩ (by kernel_rfl) rfl
    (fun f fn hf hfn => by
      obtain rfl : f = 3 := Option.some.inj ((show Tryz.prog.funcNamed "castings/castingslaw12.MethodMatchesReference" = some 3 by kernel_rfl).symm.trans hf) |>.symm
      obtain rfl : fn = Tryz.f3 := (Option.some.inj (Tryz.func3.symm.trans hfn)).symm
      exact ⟨by kernel_rfl, fun j t ht => by
        rw [show Tryz.f3.params = #[30, 31, 25, 9] from rfl] at ht
        have hm : t ∈ [30, 31, 25, 9] := by simpa using Array.mem_of_getElem? ht
        have hall : ([30, 31, 25, 9].all fun u => !Tryz.prog.wantsStandIn u) = true := by kernel_rfl
        exact (show Tryz.prog.wantsStandIn t = false by simpa using List.all_eq_true.1 hall t hm)⟩)
    (by kernel_rfl)
#print axioms methodMatchesReference_card
end Go.Proofs.YtjhencaobpihnaaGreatDoor


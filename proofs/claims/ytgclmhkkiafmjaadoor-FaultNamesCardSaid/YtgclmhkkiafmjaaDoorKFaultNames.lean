/- Every code has the name of the reference implementation, and every error its text: the law holds at every input. -/
import Derived.Test.YtgclmhkkiafmjaaDoorRFaultNames
import Derived.Test.YtgclmhkkiafmjaaDoorCards
import Derived.Test.YtgclmhkkiafmjaaDoorTie
import Derived.SevenTiedAt
namespace Go.Proofs.YtgclmhkkiafmjaaDoor
open Go Go.Proofs.T

set_option maxRecDepth 100000 in
theorem faultNames_card : Rows.FaultNamesCardSaid :=
  Claim7.holds_tied_plain_at .later [] [.data, .data, .data, .handle, .data] true (true, "c82745cc6636ee89820306bba07a86d59c4daafc2c7a4080c65bf0403c3bc408") true
    faultNames_holds (fun _ h => by cases h) (by kernel_rfl) (fun _ h => by cases h) faultNames_row_tie rfl ⟨rfl, rfl⟩ (by kernel_rfl) rfl
    (fun f fn hf hfn => by
      obtain rfl : f = 5 := Option.some.inj ((show Tryd.prog.funcNamed "castings/castingslaw02.FaultNames" = some 5 by kernel_rfl).symm.trans hf) |>.symm
      obtain rfl : fn = Tryd.f5 := (Option.some.inj (Tryd.func5.symm.trans hfn)).symm
      exact ⟨by kernel_rfl, fun j t ht => by
        rw [show Tryd.f5.params = #[3, 24] from rfl] at ht
        have hm : t ∈ [3, 24] := by simpa using Array.mem_of_getElem? ht
        have hall : ([3, 24].all fun u => !Tryd.prog.wantsStandIn u) = true := by kernel_rfl
        exact (show Tryd.prog.wantsStandIn t = false by simpa using List.all_eq_true.1 hall t hm)⟩)
    (by kernel_rfl)
#print axioms faultNames_card
end Go.Proofs.YtgclmhkkiafmjaaDoor


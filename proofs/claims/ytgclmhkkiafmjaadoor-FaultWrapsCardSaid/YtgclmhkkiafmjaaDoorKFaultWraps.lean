/- The library finds the code in a wrapped error, and what was wrapped is the next error of its chain: the law holds at every input. -/
import Derived.Test.YtgclmhkkiafmjaaDoorRFaultWraps
import Derived.Test.YtgclmhkkiafmjaaDoorCards
import Derived.Test.YtgclmhkkiafmjaaDoorTie
import Derived.SevenTiedAt
namespace Go.Proofs.YtgclmhkkiafmjaaDoor
open Go Go.Proofs.T

set_option maxRecDepth 100000 in
theorem faultWraps_card : Rows.FaultWrapsCardSaid :=
  Claim7.holds_tied_plain_at .later [] [.data, .data, .data, .handle, .data] true (true, "c82745cc6636ee89820306bba07a86d59c4daafc2c7a4080c65bf0403c3bc408") true
    faultWraps_holds (fun _ h => by cases h) (by kernel_rfl) (fun _ h => by cases h) faultWraps_row_tie rfl ⟨rfl, rfl⟩ (by kernel_rfl) rfl
    (fun f fn hf hfn => by
      obtain rfl : f = 6 := Option.some.inj ((show Tryd.prog.funcNamed "castings/castingslaw02.FaultWraps" = some 6 by kernel_rfl).symm.trans hf) |>.symm
      obtain rfl : fn = Tryd.f6 := (Option.some.inj (Tryd.func6.symm.trans hfn)).symm
      exact ⟨by kernel_rfl, fun j t ht => by
        rw [show Tryd.f6.params = #[24, 9] from rfl] at ht
        have hm : t ∈ [24, 9] := by simpa using Array.mem_of_getElem? ht
        have hall : ([24, 9].all fun u => !Tryd.prog.wantsStandIn u) = true := by kernel_rfl
        exact (show Tryd.prog.wantsStandIn t = false by simpa using List.all_eq_true.1 hall t hm)⟩)
    (by kernel_rfl)
#print axioms faultWraps_card
end Go.Proofs.YtgclmhkkiafmjaaDoor


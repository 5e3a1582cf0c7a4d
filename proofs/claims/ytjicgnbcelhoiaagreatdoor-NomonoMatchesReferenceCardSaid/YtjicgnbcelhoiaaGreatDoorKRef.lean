/- Chapter 19: expansive edges of a generic program against the reference -/
import Derived.Test.YtjicgnbcelhoiaaGreatDoorZAX
import Derived.Test.YtjicgnbcelhoiaaGreatDoorCards
import Derived.Test.YtjicgnbcelhoiaaGreatDoorTie
import Derived.SevenTiedAt
namespace Go.Proofs.YtjicgnbcelhoiaaGreatDoor
open Go Go.Proofs.T
set_option maxRecDepth 100000 in
theorem nomonoMatchesReference_card : Rows.NomonoMatchesReferenceCardSaid :=
 Claim7.holds_tied_plain_at .later [] [.handle] true (true, "5707e8442e450b2c663880752d0d71f3e6159df4bad1d92ded57882ae7acb37d") true
  nomonoMatchesReference_holds (fun _ h => by cases h) (by kernel_rfl) (fun _ h => by cases h) nomonoMatchesReference_row_tie rfl ⟨rfl, rfl⟩ (by kernel_rfl) rfl
  (fun f fn hf hfn => by
   obtain rfl : f = 6 := Option.some.inj ((show Tryz.prog.funcNamed "castings/castingslaw19.NomonoMatchesReference" = some 6 by kernel_rfl).symm.trans hf) |>.symm
   obtain rfl : fn = Tryz.f6 := (Option.some.inj (Tryz.func6.symm.trans hfn)).symm
   exact ⟨by kernel_rfl, fun j t ht => by
    rw [show Tryz.f6.params = #[30] from rfl] at ht
    have hm : t ∈ [30] := by simpa using Array.mem_of_getElem? ht
    have hall : ([30].all fun u => !Tryz.prog.wantsStandIn u) = true := by kernel_rfl
    exact (show Tryz.prog.wantsStandIn t = false by simpa using List.all_eq_true.1 hall t hm)⟩)
  (by kernel_rfl)
#print axioms nomonoMatchesReference_card
end Go.Proofs.YtjicgnbcelhoiaaGreatDoor

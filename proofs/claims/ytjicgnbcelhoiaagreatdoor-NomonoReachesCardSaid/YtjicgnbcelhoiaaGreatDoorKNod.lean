/- Chapter 19: nodes within reach, the cycle that is returned -/
import Derived.Test.YtjicgnbcelhoiaaGreatDoorZAW
import Derived.Test.YtjicgnbcelhoiaaGreatDoorCards
import Derived.Test.YtjicgnbcelhoiaaGreatDoorTie
import Derived.SevenTiedAt
namespace Go.Proofs.YtjicgnbcelhoiaaGreatDoor
open Go Go.Proofs.T
set_option maxRecDepth 100000 in
theorem nomonoReaches_card : Rows.NomonoReachesCardSaid :=
 Claim7.holds_tied_plain_at .later [] [.handle] true (true, "5707e8442e450b2c663880752d0d71f3e6159df4bad1d92ded57882ae7acb37d") true
  nomonoReaches_holds (fun _ h => by cases h) (by kernel_rfl) (fun _ h => by cases h) nomonoReaches_row_tie rfl ⟨rfl, rfl⟩ (by kernel_rfl) rfl
  (fun f fn hf hfn => by
   obtain rfl : f = 3 := Option.some.inj ((show Tryz.prog.funcNamed "castings/castingslaw19.NomonoReaches" = some 3 by kernel_rfl).symm.trans hf) |>.symm
   obtain rfl : fn = Tryz.f3 := (Option.some.inj (Tryz.func3.symm.trans hfn)).symm
   exact ⟨by kernel_rfl, fun j t ht => by
    rw [show Tryz.f3.params = #[30, 32] from rfl] at ht
    have hm : t ∈ [30, 32] := by simpa using Array.mem_of_getElem? ht
    have hall : ([30, 32].all fun u => !Tryz.prog.wantsStandIn u) = true := by kernel_rfl
    exact (show Tryz.prog.wantsStandIn t = false by simpa using List.all_eq_true.1 hall t hm)⟩)
  (by kernel_rfl)
#print axioms nomonoReaches_card
set_option maxRecDepth 100000 in
theorem nomonoCycles_card : Rows.NomonoCyclesCardSaid :=
 Claim7.holds_tied_plain_at .later [] [.handle] true (true, "5707e8442e450b2c663880752d0d71f3e6159df4bad1d92ded57882ae7acb37d") true
  nomonoCycles_holds (fun _ h => by cases h) (by kernel_rfl) (fun _ h => by cases h) nomonoCycles_row_tie rfl ⟨rfl, rfl⟩ (by kernel_rfl) rfl
  (fun f fn hf hfn => by
   obtain rfl : f = 4 := Option.some.inj ((show Tryz.prog.funcNamed "castings/castingslaw19.NomonoCycles" = some 4 by kernel_rfl).symm.trans hf) |>.symm
   obtain rfl : fn = Tryz.f4 := (Option.some.inj (Tryz.func4.symm.trans hfn)).symm
   exact ⟨by kernel_rfl, fun j t ht => by
    rw [show Tryz.f4.params = #[30] from rfl] at ht
    have hm : t ∈ [30] := by simpa using Array.mem_of_getElem? ht
    have hall : ([30].all fun u => !Tryz.prog.wantsStandIn u) = true := by kernel_rfl
    exact (show Tryz.prog.wantsStandIn t = false by simpa using List.all_eq_true.1 hall t hm)⟩)
  (by kernel_rfl)
#print axioms nomonoCycles_card
end Go.Proofs.YtjicgnbcelhoiaaGreatDoor

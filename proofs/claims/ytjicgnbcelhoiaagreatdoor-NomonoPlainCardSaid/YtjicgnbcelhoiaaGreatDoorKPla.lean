/- Chapter 19: programs without type parameters, and without one declaration -/
import Derived.Test.YtjicgnbcelhoiaaGreatDoorZAY
import Derived.Test.YtjicgnbcelhoiaaGreatDoorCards
import Derived.Test.YtjicgnbcelhoiaaGreatDoorTie
import Derived.SevenTiedAt
namespace Go.Proofs.YtjicgnbcelhoiaaGreatDoor
open Go Go.Proofs.T
set_option maxRecDepth 100000 in
theorem nomonoPlain_card : Rows.NomonoPlainCardSaid :=
 Claim7.holds_tied_plain_at .later [] [.handle] true (true, "5707e8442e450b2c663880752d0d71f3e6159df4bad1d92ded57882ae7acb37d") true
  nomonoPlain_holds (fun _ h => by cases h) (by kernel_rfl) (fun _ h => by cases h) nomonoPlain_row_tie rfl ⟨rfl, rfl⟩ (by kernel_rfl) rfl
  (fun f fn hf hfn => by
   obtain rfl : f = 5 := Option.some.inj ((show Tryz.prog.funcNamed "castings/castingslaw19.NomonoPlain" = some 5 by kernel_rfl).symm.trans hf) |>.symm
   obtain rfl : fn = Tryz.f5 := (Option.some.inj (Tryz.func5.symm.trans hfn)).symm
   exact ⟨by kernel_rfl, fun j t ht => by
    rw [show Tryz.f5.params = #[30, 5] from rfl] at ht
    have hm : t ∈ [30, 5] := by simpa using Array.mem_of_getElem? ht
    have hall : ([30, 5].all fun u => !Tryz.prog.wantsStandIn u) = true := by kernel_rfl
    exact (show Tryz.prog.wantsStandIn t = false by simpa using List.all_eq_true.1 hall t hm)⟩)
  (by kernel_rfl)
#print axioms nomonoPlain_card
end Go.Proofs.YtjicgnbcelhoiaaGreatDoor

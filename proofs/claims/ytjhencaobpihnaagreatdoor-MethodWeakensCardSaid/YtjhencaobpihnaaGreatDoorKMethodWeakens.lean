/- Formals behind an environment change nothing of a method set: the law holds at every input. -/
import Derived.Test.YtjhencaobpihnaaGreatDoorRMethodWeakens
import Derived.Test.YtjhencaobpihnaaGreatDoorCards
import Derived.Test.YtjhencaobpihnaaGreatDoorTie
import Derived.SevenTiedAt
namespace Go.Proofs.YtjhencaobpihnaaGreatDoor
open Go Go.Proofs.T

set_option maxRecDepth 100000 in
theorem methodWeakens_card : Rows.MethodWeakensCardSaid :=
  Claim7.holds_tied_plain_at .later [] [.data, .data, .data] true (true, "866e7e2e95b8ab7f893c63d07ae3fd4ae1d87f0b1ddd90bd64b5b2ff2b4d4715") false
    methodWeakens_holds (fun _ h => by cases h) (by kernel_rfl) (fun _ h => by cases h) methodWeakens_row_tie rfl ⟨rfl, rfl⟩ (by kernel_rfl) rfl
    (fun f fn hf hfn => by
      obtain rfl : f = 4 := Option.some.inj ((show Tryz.prog.funcNamed "castings/castingslaw12.MethodWeakens" = some 4 by kernel_rfl).symm.trans hf) |>.symm
      obtain rfl : fn = Tryz.f4 := (Option.some.inj (Tryz.func4.symm.trans hfn)).symm
      exact ⟨by kernel_rfl, fun j t ht => by
        rw [show Tryz.f4.params = #[30, 31, 31, 25] from rfl] at ht
        have hm : t ∈ [30, 31, 31, 25] := by simpa using Array.mem_of_getElem? ht
        have hall : ([30, 31, 31, 25].all fun u => !Tryz.prog.wantsStandIn u) = true := by kernel_rfl
        exact (show Tryz.prog.wantsStandIn t = false by simpa using List.all_eq_true.1 hall t hm)⟩)
    (by kernel_rfl)
#print axioms methodWeakens_card
end Go.Proofs.YtjhencaobpihnaaGreatDoor


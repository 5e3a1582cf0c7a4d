/- The names in any method set rise, and it covers itself: the law holds at every input. -/
import Derived.Test.YtjhencaobpihnaaDoorRMethodSets
import Derived.Test.YtjhencaobpihnaaDoorCards
import Derived.Test.YtjhencaobpihnaaDoorTie
import Derived.SevenTiedAt
namespace Go.Proofs.YtjhencaobpihnaaDoor
open Go Go.Proofs.T

set_option maxRecDepth 100000 in
theorem methodSets_card : Rows.MethodSetsCardSaid :=
  Claim7.holds_tied_plain_at .later [] [.data, .data, .data] true (true, "c7c8673b3b9aabcbfc4bb95d81ca9f83f973f05360a41024136a47ce78583eb3") false
    methodSets_holds (fun _ h => by cases h) (by kernel_rfl) (fun _ h => by cases h) methodSets_row_tie rfl ⟨rfl, rfl⟩ (by kernel_rfl) rfl
    (fun f fn hf hfn => by
      obtain rfl : f = 3 := Option.some.inj ((show Tryd.prog.funcNamed "castings/castingslaw12.MethodSets" = some 3 by kernel_rfl).symm.trans hf) |>.symm
      obtain rfl : fn = Tryd.f3 := (Option.some.inj (Tryd.func3.symm.trans hfn)).symm
      exact ⟨by kernel_rfl, fun j t ht => by
        rw [show Tryd.f3.params = #[30, 31, 25] from rfl] at ht
        have hm : t ∈ [30, 31, 25] := by simpa using Array.mem_of_getElem? ht
        have hall : ([30, 31, 25].all fun u => !Tryd.prog.wantsStandIn u) = true := by kernel_rfl
        exact (show Tryd.prog.wantsStandIn t = false by simpa using List.all_eq_true.1 hall t hm)⟩)
    (by kernel_rfl)
#print axioms methodSets_card
end Go.Proofs.YtjhencaobpihnaaDoor


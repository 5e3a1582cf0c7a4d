/- For every three signatures, BindEquivalence returns true and leaves its arguments as they were: the tied card, with the listed tables as the program lays them. -/
import Derived.Test.YtomkekilpdkjgaaDoorRBindEquivalence
import Derived.Test.YtomkekilpdkjgaaDoorCards
import Derived.Test.YtomkekilpdkjgaaDoorTie
import Derived.SevenTiedAt
namespace Go.Proofs.YtomkekilpdkjgaaDoor
open Go Go.Proofs.T

set_option maxRecDepth 100000 in
theorem bindEquivalence_card : Rows.BindEquivalenceCardSaid :=
  Claim7.holds_tied_plain_at .later [] [.data, .data, .data] true (true, "0541e4d1eba024cb457c597a695f56d06c03e0cff76898a3695c911e4aae3241") false
    bindEquivalence_holds (fun _ h => by cases h) (by kernel_rfl) (fun _ h => by cases h) bindEquivalence_row_tie rfl ⟨rfl, rfl⟩ (by kernel_rfl) rfl
    (fun f fn hf hfn => by
      obtain rfl : f = 7 := Option.some.inj ((show Tryd.prog.funcNamed "castings/castingslaw10.BindEquivalence" = some 7 by kernel_rfl).symm.trans hf) |>.symm
      obtain rfl : fn = Tryd.f7 := (Option.some.inj (Tryd.func7.symm.trans hfn)).symm
      exact ⟨by kernel_rfl, fun j t ht => by
        rw [show Tryd.f7.params = #[28, 28, 28] from rfl] at ht
        have hm : t ∈ [28, 28, 28] := by simpa using Array.mem_of_getElem? ht
        have hall : ([28, 28, 28].all fun u => !Tryd.prog.wantsStandIn u) = true := by kernel_rfl
        exact (show Tryd.prog.wantsStandIn t = false by simpa using List.all_eq_true.1 hall t hm)⟩)
    (by kernel_rfl)
#print axioms bindEquivalence_card
end Go.Proofs.YtomkekilpdkjgaaDoor


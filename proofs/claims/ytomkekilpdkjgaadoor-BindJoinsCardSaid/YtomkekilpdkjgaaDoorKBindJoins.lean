/- For every two lists of formals, BindJoins returns true and leaves its arguments as they were: the tied card, with the listed tables as the program lays them. -/
import Derived.Test.YtomkekilpdkjgaaDoorRBindJoins
import Derived.Test.YtomkekilpdkjgaaDoorCards
import Derived.Test.YtomkekilpdkjgaaDoorTie
import Derived.SevenTiedAt
namespace Go.Proofs.YtomkekilpdkjgaaDoor
open Go Go.Proofs.T

set_option maxRecDepth 100000 in
theorem bindJoins_card : Rows.BindJoinsCardSaid :=
  Claim7.holds_tied_plain_at .later [] [.data, .data, .data] true (true, "0541e4d1eba024cb457c597a695f56d06c03e0cff76898a3695c911e4aae3241") false
    bindJoins_holds (fun _ h => by cases h) (by kernel_rfl) (fun _ h => by cases h) bindJoins_row_tie rfl ⟨rfl, rfl⟩ (by kernel_rfl) rfl
    (fun f fn hf hfn => by
      obtain rfl : f = 6 := Option.some.inj ((show Tryd.prog.funcNamed "castings/castingslaw10.BindJoins" = some 6 by kernel_rfl).symm.trans hf) |>.symm
      obtain rfl : fn = Tryd.f6 := (Option.some.inj (Tryd.func6.symm.trans hfn)).symm
      exact ⟨by kernel_rfl, fun j t ht => by
        rw [show Tryd.f6.params = #[22, 22] from rfl] at ht
        have hm : t ∈ [22, 22] := by simpa using Array.mem_of_getElem? ht
        have hall : ([22, 22].all fun u => !Tryd.prog.wantsStandIn u) = true := by kernel_rfl
        exact (show Tryd.prog.wantsStandIn t = false by simpa using List.all_eq_true.1 hall t hm)⟩)
    (by kernel_rfl)
#print axioms bindJoins_card
end Go.Proofs.YtomkekilpdkjgaaDoor


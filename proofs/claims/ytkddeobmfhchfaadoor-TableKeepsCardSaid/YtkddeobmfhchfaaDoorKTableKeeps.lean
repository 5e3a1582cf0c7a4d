/- Chapter 11: the program of a table is kept, whatever is done with what it hands back -/
import Derived.Test.YtkddeobmfhchfaaDoorZAO
import Derived.Test.YtkddeobmfhchfaaDoorCards
import Derived.Test.YtkddeobmfhchfaaDoorTie
import Derived.SevenTiedAt
namespace Go.Proofs.YtkddeobmfhchfaaDoor
open Go Go.Proofs.T

set_option maxRecDepth 100000 in
theorem tableKeeps_card : Rows.TableKeepsCardSaid :=
  Claim7.holds_tied_plain_at .later [] [.data, .data, .data] true (true, "a43068e5b91aa2d3b0bb8ebf14fa5097cf7cfc83f2446411eb81ac941507507d") false
    tableKeeps_holds (fun _ h => by cases h) (by kernel_rfl) (fun _ h => by cases h) tableKeeps_row_tie rfl ⟨rfl, rfl⟩ (by kernel_rfl) rfl
    (fun f fn hf hfn => by
      obtain rfl : f = 4 := Option.some.inj ((show Tryd.prog.funcNamed "castings/castingslaw11.TableKeeps" = some 4 by kernel_rfl).symm.trans hf) |>.symm
      obtain rfl : fn = Tryd.f4 := (Option.some.inj (Tryd.func4.symm.trans hfn)).symm
      exact ⟨by kernel_rfl, fun j t ht => by
        rw [show Tryd.f4.params = #[30, 25] from rfl] at ht
        have hm : t ∈ [30, 25] := by simpa using Array.mem_of_getElem? ht
        have hall : ([30, 25].all fun u => !Tryd.prog.wantsStandIn u) = true := by kernel_rfl
        exact (show Tryd.prog.wantsStandIn t = false by simpa using List.all_eq_true.1 hall t hm)⟩)
    (by kernel_rfl)
#print axioms tableKeeps_card
end Go.Proofs.YtkddeobmfhchfaaDoor


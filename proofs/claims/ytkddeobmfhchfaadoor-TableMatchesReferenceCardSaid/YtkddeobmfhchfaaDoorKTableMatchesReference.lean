/- In the seat's program, TableMatchesReference answers true at every input: kind, fields and specifications of any type are those of the reference; no conditions beyond the given statement's own. -/
import Derived.Test.YtkddeobmfhchfaaDoorRTableMatchesReference
import Derived.Test.YtkddeobmfhchfaaDoorCards
import Derived.Test.YtkddeobmfhchfaaDoorTie
import Derived.SevenTiedAt
namespace Go.Proofs.YtkddeobmfhchfaaDoor
open Go Go.Proofs.T

set_option maxRecDepth 100000 in
theorem tableMatchesReference_card : Rows.TableMatchesReferenceCardSaid :=
  Claim7.holds_tied_plain_at .later [] [.data, .data, .data] true (true, "a43068e5b91aa2d3b0bb8ebf14fa5097cf7cfc83f2446411eb81ac941507507d") false
    tableMatchesReference_holds (fun _ h => by cases h) (by kernel_rfl) (fun _ h => by cases h) tableMatchesReference_row_tie rfl ⟨rfl, rfl⟩ (by kernel_rfl) rfl
    (fun f fn hf hfn => by
      obtain rfl : f = 3 := Option.some.inj ((show Tryd.prog.funcNamed "castings/castingslaw11.TableMatchesReference" = some 3 by kernel_rfl).symm.trans hf) |>.symm
      obtain rfl : fn = Tryd.f3 := (Option.some.inj (Tryd.func3.symm.trans hfn)).symm
      exact ⟨by kernel_rfl, fun j t ht => by
        rw [show Tryd.f3.params = #[30, 25] from rfl] at ht
        have hm : t ∈ [30, 25] := by simpa using Array.mem_of_getElem? ht
        have hall : ([30, 25].all fun u => !Tryd.prog.wantsStandIn u) = true := by kernel_rfl
        exact (show Tryd.prog.wantsStandIn t = false by simpa using List.all_eq_true.1 hall t hm)⟩)
    (by kernel_rfl)
#print axioms tableMatchesReference_card
end Go.Proofs.YtkddeobmfhchfaaDoor


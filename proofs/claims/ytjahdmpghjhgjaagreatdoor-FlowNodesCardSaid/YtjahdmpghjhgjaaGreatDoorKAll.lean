/- The laws of layer 18 (flow): each of the five returns true for every input. -/
import Derived.Test.YtjahdmpghjhgjaaGreatDoorZAV
import Derived.Test.YtjahdmpghjhgjaaGreatDoorCards
import Derived.Test.YtjahdmpghjhgjaaGreatDoorTie
import Derived.SevenTiedAt
namespace Go.Proofs.YtjahdmpghjhgjaaGreatDoor
open Go Go.Proofs.T

set_option maxRecDepth 100000 in
theorem flowMatchesReference_card : Rows.FlowMatchesReferenceCardSaid :=
  Claim7.holds_tied_plain_at .later [] [.data, .data, .data] true (true, "4041557978af6a3b08fa5235622ca175d41410976c79b55019349117d1df7f7d") true
    flowMatchesReference_holds (fun _ h => by cases h) (by kernel_rfl) (fun _ h => by cases h) flowMatchesReference_row_tie rfl ⟨rfl, rfl⟩ (by kernel_rfl) rfl
    (fun f fn hf hfn => by
      obtain rfl : f = 3 := Option.some.inj ((show Tryz.prog.funcNamed "castings/castingslaw18.FlowMatchesReference" = some 3 by kernel_rfl).symm.trans hf) |>.symm
      obtain rfl : fn = Tryz.f3 := (Option.some.inj (Tryz.func3.symm.trans hfn)).symm
      exact ⟨by kernel_rfl, fun j t ht => by
        rw [show Tryz.f3.params = #[30, 3] from rfl] at ht
        have hm : t ∈ [30, 3] := by simpa using Array.mem_of_getElem? ht
        have hall : ([30, 3].all fun u => !Tryz.prog.wantsStandIn u) = true := by kernel_rfl
        exact (show Tryz.prog.wantsStandIn t = false by simpa using List.all_eq_true.1 hall t hm)⟩)
    (by kernel_rfl)
#print axioms flowMatchesReference_card

set_option maxRecDepth 100000 in
theorem flowNodes_card : Rows.FlowNodesCardSaid :=
  Claim7.holds_tied_plain_at .later [] [.data, .data, .data] true (true, "4041557978af6a3b08fa5235622ca175d41410976c79b55019349117d1df7f7d") true
    flowNodes_holds (fun _ h => by cases h) (by kernel_rfl) (fun _ h => by cases h) flowNodes_row_tie rfl ⟨rfl, rfl⟩ (by kernel_rfl) rfl
    (fun f fn hf hfn => by
      obtain rfl : f = 4 := Option.some.inj ((show Tryz.prog.funcNamed "castings/castingslaw18.FlowNodes" = some 4 by kernel_rfl).symm.trans hf) |>.symm
      obtain rfl : fn = Tryz.f4 := (Option.some.inj (Tryz.func4.symm.trans hfn)).symm
      exact ⟨by kernel_rfl, fun j t ht => by
        rw [show Tryz.f4.params = #[30, 51, 51] from rfl] at ht
        have hm : t ∈ [30, 51, 51] := by simpa using Array.mem_of_getElem? ht
        have hall : ([30, 51, 51].all fun u => !Tryz.prog.wantsStandIn u) = true := by kernel_rfl
        exact (show Tryz.prog.wantsStandIn t = false by simpa using List.all_eq_true.1 hall t hm)⟩)
    (by kernel_rfl)
#print axioms flowNodes_card

set_option maxRecDepth 100000 in
theorem flowAdds_card : Rows.FlowAddsCardSaid :=
  Claim7.holds_tied_plain_at .later [] [.data, .data, .data] true (true, "4041557978af6a3b08fa5235622ca175d41410976c79b55019349117d1df7f7d") true
    flowAdds_holds (fun _ h => by cases h) (by kernel_rfl) (fun _ h => by cases h) flowAdds_row_tie rfl ⟨rfl, rfl⟩ (by kernel_rfl) rfl
    (fun f fn hf hfn => by
      obtain rfl : f = 5 := Option.some.inj ((show Tryz.prog.funcNamed "castings/castingslaw18.FlowAdds" = some 5 by kernel_rfl).symm.trans hf) |>.symm
      obtain rfl : fn = Tryz.f5 := (Option.some.inj (Tryz.func5.symm.trans hfn)).symm
      exact ⟨by kernel_rfl, fun j t ht => by
        rw [show Tryz.f5.params = #[30] from rfl] at ht
        have hm : t ∈ [30] := by simpa using Array.mem_of_getElem? ht
        have hall : ([30].all fun u => !Tryz.prog.wantsStandIn u) = true := by kernel_rfl
        exact (show Tryz.prog.wantsStandIn t = false by simpa using List.all_eq_true.1 hall t hm)⟩)
    (by kernel_rfl)
#print axioms flowAdds_card

set_option maxRecDepth 100000 in
theorem flowPlain_card : Rows.FlowPlainCardSaid :=
  Claim7.holds_tied_plain_at .later [] [.data, .data, .data] true (true, "4041557978af6a3b08fa5235622ca175d41410976c79b55019349117d1df7f7d") true
    flowPlain_holds (fun _ h => by cases h) (by kernel_rfl) (fun _ h => by cases h) flowPlain_row_tie rfl ⟨rfl, rfl⟩ (by kernel_rfl) rfl
    (fun f fn hf hfn => by
      obtain rfl : f = 6 := Option.some.inj ((show Tryz.prog.funcNamed "castings/castingslaw18.FlowPlain" = some 6 by kernel_rfl).symm.trans hf) |>.symm
      obtain rfl : fn = Tryz.f6 := (Option.some.inj (Tryz.func6.symm.trans hfn)).symm
      exact ⟨by kernel_rfl, fun j t ht => by
        rw [show Tryz.f6.params = #[30] from rfl] at ht
        have hm : t ∈ [30] := by simpa using Array.mem_of_getElem? ht
        have hall : ([30].all fun u => !Tryz.prog.wantsStandIn u) = true := by kernel_rfl
        exact (show Tryz.prog.wantsStandIn t = false by simpa using List.all_eq_true.1 hall t hm)⟩)
    (by kernel_rfl)
#print axioms flowPlain_card

set_option maxRecDepth 100000 in
theorem flowMore_card : Rows.FlowMoreCardSaid :=
  Claim7.holds_tied_plain_at .later [] [.data, .data, .data] true (true, "4041557978af6a3b08fa5235622ca175d41410976c79b55019349117d1df7f7d") true
    flowMore_holds (fun _ h => by cases h) (by kernel_rfl) (fun _ h => by cases h) flowMore_row_tie rfl ⟨rfl, rfl⟩ (by kernel_rfl) rfl
    (fun f fn hf hfn => by
      obtain rfl : f = 7 := Option.some.inj ((show Tryz.prog.funcNamed "castings/castingslaw18.FlowMore" = some 7 by kernel_rfl).symm.trans hf) |>.symm
      obtain rfl : fn = Tryz.f7 := (Option.some.inj (Tryz.func7.symm.trans hfn)).symm
      exact ⟨by kernel_rfl, fun j t ht => by
        rw [show Tryz.f7.params = #[30, 42] from rfl] at ht
        have hm : t ∈ [30, 42] := by simpa using Array.mem_of_getElem? ht
        have hall : ([30, 42].all fun u => !Tryz.prog.wantsStandIn u) = true := by kernel_rfl
        exact (show Tryz.prog.wantsStandIn t = false by simpa using List.all_eq_true.1 hall t hm)⟩)
    (by kernel_rfl)
#print axioms flowMore_card
end Go.Proofs.YtjahdmpghjhgjaaGreatDoor


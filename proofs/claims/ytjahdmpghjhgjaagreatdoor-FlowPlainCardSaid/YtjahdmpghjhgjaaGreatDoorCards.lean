/-
  DERIVED. GIVEN WITH THE SEED: THE CARDS: each row of YtjahdmpghjhgjaaGreatDoorRows.lean that lists a variable, with what it lists TIED to the program's text (the seventh form; the later family's looks); each row that meets fmt, with fmt's text TOLD by the authors' own Lean function (tested against real Go, not proved from fmt's source: count such statements apart). THE CARD IS WHAT COUNTS. Prove the row's statement (the work); the ties are given (YtjahdmpghjhgjaaGreatDoorTie.lean); close each card by the builder's one call (the guide's Derived/Test/ToyasCard.lean, 'card_holds'). Laid BY PROGRAM, IN A SANDBOX (cutbox-door.mjs). By AI agents, Wed Nov 11 2026. No macro, syntax, notation, axiom, sorry.
-/
import Derived.Test.YtjahdmpghjhgjaaGreatDoorRows
import GoSem.ClaimSeven
namespace Go.Proofs.YtjahdmpghjhgjaaGreatDoor
namespace Rows

/-- THE TIED CARD OF 'castingslaw18.FlowMatchesReference'. -/
def flowMatchesReferenceCard : Claim7 := { stood := { row := flowMatchesReferenceRow, standIns := [], harness := (true, "4041557978af6a3b08fa5235622ca175d41410976c79b55019349117d1df7f7d"), looks := true }, kinds := [], alts := [], laidByText := true, laidKinds := [.data, .data, .data], laidTests := true, laidLooks := .later }
def FlowMatchesReferenceCardSaid : Prop := Claim7.holds Tryz.pinned (.plain (OpenSpec.ofChange flowMatchesReferenceSpec)) flowMatchesReferenceCard

/-- THE TIED CARD OF 'castingslaw18.FlowNodes'. -/
def flowNodesCard : Claim7 := { stood := { row := flowNodesRow, standIns := [], harness := (true, "4041557978af6a3b08fa5235622ca175d41410976c79b55019349117d1df7f7d"), looks := true }, kinds := [], alts := [], laidByText := true, laidKinds := [.data, .data, .data], laidTests := true, laidLooks := .later }
def FlowNodesCardSaid : Prop := Claim7.holds Tryz.pinned (.plain (OpenSpec.ofChange flowNodesSpec)) flowNodesCard

/-- THE TIED CARD OF 'castingslaw18.FlowAdds'. -/
def flowAddsCard : Claim7 := { stood := { row := flowAddsRow, standIns := [], harness := (true, "4041557978af6a3b08fa5235622ca175d41410976c79b55019349117d1df7f7d"), looks := true }, kinds := [], alts := [], laidByText := true, laidKinds := [.data, .data, .data], laidTests := true, laidLooks := .later }
def FlowAddsCardSaid : Prop := Claim7.holds Tryz.pinned (.plain (OpenSpec.ofChange flowAddsSpec)) flowAddsCard

/-- THE TIED CARD OF 'castingslaw18.FlowPlain'. -/
def flowPlainCard : Claim7 := { stood := { row := flowPlainRow, standIns := [], harness := (true, "4041557978af6a3b08fa5235622ca175d41410976c79b55019349117d1df7f7d"), looks := true }, kinds := [], alts := [], laidByText := true, laidKinds := [.data, .data, .data], laidTests := true, laidLooks := .later }
def FlowPlainCardSaid : Prop := Claim7.holds Tryz.pinned (.plain (OpenSpec.ofChange flowPlainSpec)) flowPlainCard

/-- THE TIED CARD OF 'castingslaw18.FlowMore'. -/
def flowMoreCard : Claim7 := { stood := { row := flowMoreRow, standIns := [], harness := (true, "4041557978af6a3b08fa5235622ca175d41410976c79b55019349117d1df7f7d"), looks := true }, kinds := [], alts := [], laidByText := true, laidKinds := [.data, .data, .data], laidTests := true, laidLooks := .later }
def FlowMoreCardSaid : Prop := Claim7.holds Tryz.pinned (.plain (OpenSpec.ofChange flowMoreSpec)) flowMoreCard

/-- THE SECOND FORM's CARD OF 'castingslaw18.FlowMatchesReference'. -/
def flowMatchesReferenceUptoCard : Claim7 := { stood := { row := flowMatchesReferenceUptoRow, standIns := [], harness := (true, "4041557978af6a3b08fa5235622ca175d41410976c79b55019349117d1df7f7d"), looks := true }, kinds := [], alts := [], laidByText := true, laidKinds := [.data, .data, .data], laidTests := true, laidLooks := .later }
def FlowMatchesReferenceUptoCardSaid : Prop := Claim7.holds Tryz.pinned (.plain (OpenSpec.upto flowMatchesReferenceSpec)) flowMatchesReferenceUptoCard

/-- THE SECOND FORM's CARD OF 'castingslaw18.FlowNodes'. -/
def flowNodesUptoCard : Claim7 := { stood := { row := flowNodesUptoRow, standIns := [], harness := (true, "4041557978af6a3b08fa5235622ca175d41410976c79b55019349117d1df7f7d"), looks := true }, kinds := [], alts := [], laidByText := true, laidKinds := [.data, .data, .data], laidTests := true, laidLooks := .later }
def FlowNodesUptoCardSaid : Prop := Claim7.holds Tryz.pinned (.plain (OpenSpec.upto flowNodesSpec)) flowNodesUptoCard

/-- THE SECOND FORM's CARD OF 'castingslaw18.FlowAdds'. -/
def flowAddsUptoCard : Claim7 := { stood := { row := flowAddsUptoRow, standIns := [], harness := (true, "4041557978af6a3b08fa5235622ca175d41410976c79b55019349117d1df7f7d"), looks := true }, kinds := [], alts := [], laidByText := true, laidKinds := [.data, .data, .data], laidTests := true, laidLooks := .later }
def FlowAddsUptoCardSaid : Prop := Claim7.holds Tryz.pinned (.plain (OpenSpec.upto flowAddsSpec)) flowAddsUptoCard

/-- THE SECOND FORM's CARD OF 'castingslaw18.FlowPlain'. -/
def flowPlainUptoCard : Claim7 := { stood := { row := flowPlainUptoRow, standIns := [], harness := (true, "4041557978af6a3b08fa5235622ca175d41410976c79b55019349117d1df7f7d"), looks := true }, kinds := [], alts := [], laidByText := true, laidKinds := [.data, .data, .data], laidTests := true, laidLooks := .later }
def FlowPlainUptoCardSaid : Prop := Claim7.holds Tryz.pinned (.plain (OpenSpec.upto flowPlainSpec)) flowPlainUptoCard

/-- THE SECOND FORM's CARD OF 'castingslaw18.FlowMore'. -/
def flowMoreUptoCard : Claim7 := { stood := { row := flowMoreUptoRow, standIns := [], harness := (true, "4041557978af6a3b08fa5235622ca175d41410976c79b55019349117d1df7f7d"), looks := true }, kinds := [], alts := [], laidByText := true, laidKinds := [.data, .data, .data], laidTests := true, laidLooks := .later }
def FlowMoreUptoCardSaid : Prop := Claim7.holds Tryz.pinned (.plain (OpenSpec.upto flowMoreSpec)) flowMoreUptoCard
end Rows
end Go.Proofs.YtjahdmpghjhgjaaGreatDoor

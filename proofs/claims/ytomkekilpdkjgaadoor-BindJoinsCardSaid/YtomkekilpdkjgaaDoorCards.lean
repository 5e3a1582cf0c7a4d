/-
  DERIVED. GIVEN WITH THE SEED: THE CARDS: each row of YtomkekilpdkjgaaDoorRows.lean that lists a variable, with what it lists TIED to the program's text (the seventh form; the later family's looks); each row that meets fmt, with fmt's text TOLD by the authors' own Lean function (tested against real Go, not proved from fmt's source: count such statements apart). THE CARD IS WHAT COUNTS. Prove the row's statement (the work); the ties are given (YtomkekilpdkjgaaDoorTie.lean); close each card by the builder's one call (the guide's Derived/Test/ToyasCard.lean, 'card_holds'). Laid BY PROGRAM, IN A SANDBOX (cutbox-door.mjs). By AI agents, Wed Nov 11 2026. No macro, syntax, notation, axiom, sorry.
-/
import Derived.Test.YtomkekilpdkjgaaDoorRows
import GoSem.ClaimSeven
namespace Go.Proofs.YtomkekilpdkjgaaDoor
namespace Rows

/-- THE TIED CARD OF 'castingslaw10.BindMatchesReference'. -/
def bindMatchesReferenceCard : Claim7 := { stood := { row := bindMatchesReferenceRow, standIns := [], harness := (true, "0541e4d1eba024cb457c597a695f56d06c03e0cff76898a3695c911e4aae3241"), looks := false }, kinds := [], alts := [], laidByText := true, laidKinds := [.data, .data, .data], laidTests := true, laidLooks := .later }
def BindMatchesReferenceCardSaid : Prop := Claim7.holds Tryd.pinned (.plain (OpenSpec.ofChange bindMatchesReferenceSpec)) bindMatchesReferenceCard

/-- THE TIED CARD OF 'castingslaw10.BindSubstitutes'. -/
def bindSubstitutesCard : Claim7 := { stood := { row := bindSubstitutesRow, standIns := [], harness := (true, "0541e4d1eba024cb457c597a695f56d06c03e0cff76898a3695c911e4aae3241"), looks := false }, kinds := [], alts := [], laidByText := true, laidKinds := [.data, .data, .data], laidTests := true, laidLooks := .later }
def BindSubstitutesCardSaid : Prop := Claim7.holds Tryd.pinned (.plain (OpenSpec.ofChange bindSubstitutesSpec)) bindSubstitutesCard

/-- THE TIED CARD OF 'castingslaw10.BindBounds'. -/
def bindBoundsCard : Claim7 := { stood := { row := bindBoundsRow, standIns := [], harness := (true, "0541e4d1eba024cb457c597a695f56d06c03e0cff76898a3695c911e4aae3241"), looks := false }, kinds := [], alts := [], laidByText := true, laidKinds := [.data, .data, .data], laidTests := true, laidLooks := .later }
def BindBoundsCardSaid : Prop := Claim7.holds Tryd.pinned (.plain (OpenSpec.ofChange bindBoundsSpec)) bindBoundsCard

/-- THE TIED CARD OF 'castingslaw10.BindJoins'. -/
def bindJoinsCard : Claim7 := { stood := { row := bindJoinsRow, standIns := [], harness := (true, "0541e4d1eba024cb457c597a695f56d06c03e0cff76898a3695c911e4aae3241"), looks := false }, kinds := [], alts := [], laidByText := true, laidKinds := [.data, .data, .data], laidTests := true, laidLooks := .later }
def BindJoinsCardSaid : Prop := Claim7.holds Tryd.pinned (.plain (OpenSpec.ofChange bindJoinsSpec)) bindJoinsCard

/-- THE TIED CARD OF 'castingslaw10.BindEquivalence'. -/
def bindEquivalenceCard : Claim7 := { stood := { row := bindEquivalenceRow, standIns := [], harness := (true, "0541e4d1eba024cb457c597a695f56d06c03e0cff76898a3695c911e4aae3241"), looks := false }, kinds := [], alts := [], laidByText := true, laidKinds := [.data, .data, .data], laidTests := true, laidLooks := .later }
def BindEquivalenceCardSaid : Prop := Claim7.holds Tryd.pinned (.plain (OpenSpec.ofChange bindEquivalenceSpec)) bindEquivalenceCard

/-- THE SECOND FORM's CARD OF 'castingslaw10.BindMatchesReference'. -/
def bindMatchesReferenceUptoCard : Claim7 := { stood := { row := bindMatchesReferenceUptoRow, standIns := [], harness := (true, "0541e4d1eba024cb457c597a695f56d06c03e0cff76898a3695c911e4aae3241"), looks := false }, kinds := [], alts := [], laidByText := true, laidKinds := [.data, .data, .data], laidTests := true, laidLooks := .later }
def BindMatchesReferenceUptoCardSaid : Prop := Claim7.holds Tryd.pinned (.plain (OpenSpec.upto bindMatchesReferenceSpec)) bindMatchesReferenceUptoCard

/-- THE SECOND FORM's CARD OF 'castingslaw10.BindSubstitutes'. -/
def bindSubstitutesUptoCard : Claim7 := { stood := { row := bindSubstitutesUptoRow, standIns := [], harness := (true, "0541e4d1eba024cb457c597a695f56d06c03e0cff76898a3695c911e4aae3241"), looks := false }, kinds := [], alts := [], laidByText := true, laidKinds := [.data, .data, .data], laidTests := true, laidLooks := .later }
def BindSubstitutesUptoCardSaid : Prop := Claim7.holds Tryd.pinned (.plain (OpenSpec.upto bindSubstitutesSpec)) bindSubstitutesUptoCard

/-- THE SECOND FORM's CARD OF 'castingslaw10.BindBounds'. -/
def bindBoundsUptoCard : Claim7 := { stood := { row := bindBoundsUptoRow, standIns := [], harness := (true, "0541e4d1eba024cb457c597a695f56d06c03e0cff76898a3695c911e4aae3241"), looks := false }, kinds := [], alts := [], laidByText := true, laidKinds := [.data, .data, .data], laidTests := true, laidLooks := .later }
def BindBoundsUptoCardSaid : Prop := Claim7.holds Tryd.pinned (.plain (OpenSpec.upto bindBoundsSpec)) bindBoundsUptoCard

/-- THE SECOND FORM's CARD OF 'castingslaw10.BindJoins'. -/
def bindJoinsUptoCard : Claim7 := { stood := { row := bindJoinsUptoRow, standIns := [], harness := (true, "0541e4d1eba024cb457c597a695f56d06c03e0cff76898a3695c911e4aae3241"), looks := false }, kinds := [], alts := [], laidByText := true, laidKinds := [.data, .data, .data], laidTests := true, laidLooks := .later }
def BindJoinsUptoCardSaid : Prop := Claim7.holds Tryd.pinned (.plain (OpenSpec.upto bindJoinsSpec)) bindJoinsUptoCard

/-- THE SECOND FORM's CARD OF 'castingslaw10.BindEquivalence'. -/
def bindEquivalenceUptoCard : Claim7 := { stood := { row := bindEquivalenceUptoRow, standIns := [], harness := (true, "0541e4d1eba024cb457c597a695f56d06c03e0cff76898a3695c911e4aae3241"), looks := false }, kinds := [], alts := [], laidByText := true, laidKinds := [.data, .data, .data], laidTests := true, laidLooks := .later }
def BindEquivalenceUptoCardSaid : Prop := Claim7.holds Tryd.pinned (.plain (OpenSpec.upto bindEquivalenceSpec)) bindEquivalenceUptoCard
end Rows
end Go.Proofs.YtomkekilpdkjgaaDoor

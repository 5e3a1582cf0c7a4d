/-
  DERIVED. GIVEN WITH THE SEED: THE CARDS: each row of YtjhencaobpihnaaGreatDoorRows.lean that lists a variable, with what it lists TIED to the program's text (the seventh form; the later family's looks); each row that meets fmt, with fmt's text TOLD by the authors' own Lean function (tested against real Go, not proved from fmt's source: count such statements apart). THE CARD IS WHAT COUNTS. Prove the row's statement (the work); the ties are given (YtjhencaobpihnaaGreatDoorTie.lean); close each card by the builder's one call (the guide's Derived/Test/ToyasCard.lean, 'card_holds'). Laid BY PROGRAM, IN A SANDBOX (cutbox-door.mjs). By AI agents, Wed Nov 11 2026. No macro, syntax, notation, axiom, sorry.
-/
import Derived.Test.YtjhencaobpihnaaGreatDoorRows
import GoSem.ClaimSeven
namespace Go.Proofs.YtjhencaobpihnaaGreatDoor
namespace Rows

/-- THE TIED CARD OF 'castingslaw12.MethodMatchesReference'. -/
def methodMatchesReferenceCard : Claim7 := { stood := { row := methodMatchesReferenceRow, standIns := [], harness := (true, "866e7e2e95b8ab7f893c63d07ae3fd4ae1d87f0b1ddd90bd64b5b2ff2b4d4715"), looks := false }, kinds := [], alts := [], laidByText := true, laidKinds := [.data, .data, .data], laidTests := true, laidLooks := .later }
def MethodMatchesReferenceCardSaid : Prop := Claim7.holds Tryz.pinned (.plain (OpenSpec.ofChange methodMatchesReferenceSpec)) methodMatchesReferenceCard

/-- THE TIED CARD OF 'castingslaw12.MethodWeakens'. -/
def methodWeakensCard : Claim7 := { stood := { row := methodWeakensRow, standIns := [], harness := (true, "866e7e2e95b8ab7f893c63d07ae3fd4ae1d87f0b1ddd90bd64b5b2ff2b4d4715"), looks := false }, kinds := [], alts := [], laidByText := true, laidKinds := [.data, .data, .data], laidTests := true, laidLooks := .later }
def MethodWeakensCardSaid : Prop := Claim7.holds Tryz.pinned (.plain (OpenSpec.ofChange methodWeakensSpec)) methodWeakensCard

/-- THE TIED CARD OF 'castingslaw12.MethodVariables'. -/
def methodVariablesCard : Claim7 := { stood := { row := methodVariablesRow, standIns := [], harness := (true, "866e7e2e95b8ab7f893c63d07ae3fd4ae1d87f0b1ddd90bd64b5b2ff2b4d4715"), looks := false }, kinds := [], alts := [], laidByText := true, laidKinds := [.data, .data, .data], laidTests := true, laidLooks := .later }
def MethodVariablesCardSaid : Prop := Claim7.holds Tryz.pinned (.plain (OpenSpec.ofChange methodVariablesSpec)) methodVariablesCard

/-- THE TIED CARD OF 'castingslaw12.MethodCovers'. -/
def methodCoversCard : Claim7 := { stood := { row := methodCoversRow, standIns := [], harness := (true, "866e7e2e95b8ab7f893c63d07ae3fd4ae1d87f0b1ddd90bd64b5b2ff2b4d4715"), looks := false }, kinds := [], alts := [], laidByText := true, laidKinds := [.data, .data, .data], laidTests := true, laidLooks := .later }
def MethodCoversCardSaid : Prop := Claim7.holds Tryz.pinned (.plain (OpenSpec.ofChange methodCoversSpec)) methodCoversCard

/-- THE SECOND FORM's CARD OF 'castingslaw12.MethodMatchesReference'. -/
def methodMatchesReferenceUptoCard : Claim7 := { stood := { row := methodMatchesReferenceUptoRow, standIns := [], harness := (true, "866e7e2e95b8ab7f893c63d07ae3fd4ae1d87f0b1ddd90bd64b5b2ff2b4d4715"), looks := false }, kinds := [], alts := [], laidByText := true, laidKinds := [.data, .data, .data], laidTests := true, laidLooks := .later }
def MethodMatchesReferenceUptoCardSaid : Prop := Claim7.holds Tryz.pinned (.plain (OpenSpec.upto methodMatchesReferenceSpec)) methodMatchesReferenceUptoCard

/-- THE SECOND FORM's CARD OF 'castingslaw12.MethodWeakens'. -/
def methodWeakensUptoCard : Claim7 := { stood := { row := methodWeakensUptoRow, standIns := [], harness := (true, "866e7e2e95b8ab7f893c63d07ae3fd4ae1d87f0b1ddd90bd64b5b2ff2b4d4715"), looks := false }, kinds := [], alts := [], laidByText := true, laidKinds := [.data, .data, .data], laidTests := true, laidLooks := .later }
def MethodWeakensUptoCardSaid : Prop := Claim7.holds Tryz.pinned (.plain (OpenSpec.upto methodWeakensSpec)) methodWeakensUptoCard

/-- THE SECOND FORM's CARD OF 'castingslaw12.MethodVariables'. -/
def methodVariablesUptoCard : Claim7 := { stood := { row := methodVariablesUptoRow, standIns := [], harness := (true, "866e7e2e95b8ab7f893c63d07ae3fd4ae1d87f0b1ddd90bd64b5b2ff2b4d4715"), looks := false }, kinds := [], alts := [], laidByText := true, laidKinds := [.data, .data, .data], laidTests := true, laidLooks := .later }
def MethodVariablesUptoCardSaid : Prop := Claim7.holds Tryz.pinned (.plain (OpenSpec.upto methodVariablesSpec)) methodVariablesUptoCard

/-- THE SECOND FORM's CARD OF 'castingslaw12.MethodCovers'. -/
def methodCoversUptoCard : Claim7 := { stood := { row := methodCoversUptoRow, standIns := [], harness := (true, "866e7e2e95b8ab7f893c63d07ae3fd4ae1d87f0b1ddd90bd64b5b2ff2b4d4715"), looks := false }, kinds := [], alts := [], laidByText := true, laidKinds := [.data, .data, .data], laidTests := true, laidLooks := .later }
def MethodCoversUptoCardSaid : Prop := Claim7.holds Tryz.pinned (.plain (OpenSpec.upto methodCoversSpec)) methodCoversUptoCard
end Rows
end Go.Proofs.YtjhencaobpihnaaGreatDoor

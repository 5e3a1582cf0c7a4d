/-
  DERIVED. GIVEN WITH THE SEED: THE CARDS: each row of YtkddeobmfhchfaaDoorRows.lean that lists a variable, with what it lists TIED to the program's text (the seventh form; the later family's looks); each row that meets fmt, with fmt's text TOLD by the authors' own Lean function (tested against real Go, not proved from fmt's source: count such statements apart). THE CARD IS WHAT COUNTS. Prove the row's statement (the work); the ties are given (YtkddeobmfhchfaaDoorTie.lean); close each card by the builder's one call (the guide's Derived/Test/ToyasCard.lean, 'card_holds'). Laid BY PROGRAM, IN A SANDBOX (cutbox-door.mjs). By AI agents, Wed Nov 11 2026. No macro, syntax, notation, axiom, sorry.
-/
import Derived.Test.YtkddeobmfhchfaaDoorRows
import GoSem.ClaimSeven
namespace Go.Proofs.YtkddeobmfhchfaaDoor
namespace Rows

/-- THE TIED CARD OF 'castingslaw11.TableMatchesReference'. -/
def tableMatchesReferenceCard : Claim7 := { stood := { row := tableMatchesReferenceRow, standIns := [], harness := (true, "a43068e5b91aa2d3b0bb8ebf14fa5097cf7cfc83f2446411eb81ac941507507d"), looks := false }, kinds := [], alts := [], laidByText := true, laidKinds := [.data, .data, .data], laidTests := true, laidLooks := .later }
def TableMatchesReferenceCardSaid : Prop := Claim7.holds Tryd.pinned (.plain (OpenSpec.ofChange tableMatchesReferenceSpec)) tableMatchesReferenceCard

/-- THE TIED CARD OF 'castingslaw11.TableKeeps'. -/
def tableKeepsCard : Claim7 := { stood := { row := tableKeepsRow, standIns := [], harness := (true, "a43068e5b91aa2d3b0bb8ebf14fa5097cf7cfc83f2446411eb81ac941507507d"), looks := false }, kinds := [], alts := [], laidByText := true, laidKinds := [.data, .data, .data], laidTests := true, laidLooks := .later }
def TableKeepsCardSaid : Prop := Claim7.holds Tryd.pinned (.plain (OpenSpec.ofChange tableKeepsSpec)) tableKeepsCard

/-- THE TIED CARD OF 'castingslaw11.TableFirst'. -/
def tableFirstCard : Claim7 := { stood := { row := tableFirstRow, standIns := [], harness := (true, "a43068e5b91aa2d3b0bb8ebf14fa5097cf7cfc83f2446411eb81ac941507507d"), looks := false }, kinds := [], alts := [], laidByText := true, laidKinds := [.data, .data, .data], laidTests := true, laidLooks := .later }
def TableFirstCardSaid : Prop := Claim7.holds Tryd.pinned (.plain (OpenSpec.ofChange tableFirstSpec)) tableFirstCard

/-- THE TIED CARD OF 'castingslaw11.TableMethods'. -/
def tableMethodsCard : Claim7 := { stood := { row := tableMethodsRow, standIns := [], harness := (true, "a43068e5b91aa2d3b0bb8ebf14fa5097cf7cfc83f2446411eb81ac941507507d"), looks := false }, kinds := [], alts := [], laidByText := true, laidKinds := [.data, .data, .data], laidTests := true, laidLooks := .later }
def TableMethodsCardSaid : Prop := Claim7.holds Tryd.pinned (.plain (OpenSpec.ofChange tableMethodsSpec)) tableMethodsCard

/-- THE TIED CARD OF 'castingslaw11.TableNil'. -/
def tableNilCard : Claim7 := { stood := { row := tableNilRow, standIns := [], harness := (true, "a43068e5b91aa2d3b0bb8ebf14fa5097cf7cfc83f2446411eb81ac941507507d"), looks := false }, kinds := [], alts := [], laidByText := true, laidKinds := [.data, .data, .data], laidTests := true, laidLooks := .later }
def TableNilCardSaid : Prop := Claim7.holds Tryd.pinned (.plain (OpenSpec.ofChange tableNilSpec)) tableNilCard

/-- THE SECOND FORM's CARD OF 'castingslaw11.TableMatchesReference'. -/
def tableMatchesReferenceUptoCard : Claim7 := { stood := { row := tableMatchesReferenceUptoRow, standIns := [], harness := (true, "a43068e5b91aa2d3b0bb8ebf14fa5097cf7cfc83f2446411eb81ac941507507d"), looks := false }, kinds := [], alts := [], laidByText := true, laidKinds := [.data, .data, .data], laidTests := true, laidLooks := .later }
def TableMatchesReferenceUptoCardSaid : Prop := Claim7.holds Tryd.pinned (.plain (OpenSpec.upto tableMatchesReferenceSpec)) tableMatchesReferenceUptoCard

/-- THE SECOND FORM's CARD OF 'castingslaw11.TableKeeps'. -/
def tableKeepsUptoCard : Claim7 := { stood := { row := tableKeepsUptoRow, standIns := [], harness := (true, "a43068e5b91aa2d3b0bb8ebf14fa5097cf7cfc83f2446411eb81ac941507507d"), looks := false }, kinds := [], alts := [], laidByText := true, laidKinds := [.data, .data, .data], laidTests := true, laidLooks := .later }
def TableKeepsUptoCardSaid : Prop := Claim7.holds Tryd.pinned (.plain (OpenSpec.upto tableKeepsSpec)) tableKeepsUptoCard

/-- THE SECOND FORM's CARD OF 'castingslaw11.TableFirst'. -/
def tableFirstUptoCard : Claim7 := { stood := { row := tableFirstUptoRow, standIns := [], harness := (true, "a43068e5b91aa2d3b0bb8ebf14fa5097cf7cfc83f2446411eb81ac941507507d"), looks := false }, kinds := [], alts := [], laidByText := true, laidKinds := [.data, .data, .data], laidTests := true, laidLooks := .later }
def TableFirstUptoCardSaid : Prop := Claim7.holds Tryd.pinned (.plain (OpenSpec.upto tableFirstSpec)) tableFirstUptoCard

/-- THE SECOND FORM's CARD OF 'castingslaw11.TableMethods'. -/
def tableMethodsUptoCard : Claim7 := { stood := { row := tableMethodsUptoRow, standIns := [], harness := (true, "a43068e5b91aa2d3b0bb8ebf14fa5097cf7cfc83f2446411eb81ac941507507d"), looks := false }, kinds := [], alts := [], laidByText := true, laidKinds := [.data, .data, .data], laidTests := true, laidLooks := .later }
def TableMethodsUptoCardSaid : Prop := Claim7.holds Tryd.pinned (.plain (OpenSpec.upto tableMethodsSpec)) tableMethodsUptoCard

/-- THE SECOND FORM's CARD OF 'castingslaw11.TableNil'. -/
def tableNilUptoCard : Claim7 := { stood := { row := tableNilUptoRow, standIns := [], harness := (true, "a43068e5b91aa2d3b0bb8ebf14fa5097cf7cfc83f2446411eb81ac941507507d"), looks := false }, kinds := [], alts := [], laidByText := true, laidKinds := [.data, .data, .data], laidTests := true, laidLooks := .later }
def TableNilUptoCardSaid : Prop := Claim7.holds Tryd.pinned (.plain (OpenSpec.upto tableNilSpec)) tableNilUptoCard
end Rows
end Go.Proofs.YtkddeobmfhchfaaDoor

/-
  DERIVED. GIVEN WITH THE SEED: THE CARDS: each row of YtjhencaobpihnaaDoorRows.lean that lists a variable, with what it lists TIED to the program's text (the seventh form; the later family's looks); each row that meets fmt, with fmt's text TOLD by the authors' own Lean function (tested against real Go, not proved from fmt's source: count such statements apart). THE CARD IS WHAT COUNTS. Prove the row's statement (the work); the ties are given (YtjhencaobpihnaaDoorTie.lean); close each card by the builder's one call (the guide's Derived/Test/ToyasCard.lean, 'card_holds'). Laid BY PROGRAM, IN A SANDBOX (cutbox-door.mjs). By AI agents, Wed Nov 11 2026. No macro, syntax, notation, axiom, sorry.
-/
import Derived.Test.YtjhencaobpihnaaDoorRows
import GoSem.ClaimSeven
namespace Go.Proofs.YtjhencaobpihnaaDoor
namespace Rows

/-- THE TIED CARD OF 'castingslaw12.MethodSets'. -/
def methodSetsCard : Claim7 := { stood := { row := methodSetsRow, standIns := [], harness := (true, "c7c8673b3b9aabcbfc4bb95d81ca9f83f973f05360a41024136a47ce78583eb3"), looks := false }, kinds := [], alts := [], laidByText := true, laidKinds := [.data, .data, .data], laidTests := true, laidLooks := .later }
def MethodSetsCardSaid : Prop := Claim7.holds Tryd.pinned (.plain (OpenSpec.ofChange methodSetsSpec)) methodSetsCard

/-- THE SECOND FORM's CARD OF 'castingslaw12.MethodSets'. -/
def methodSetsUptoCard : Claim7 := { stood := { row := methodSetsUptoRow, standIns := [], harness := (true, "c7c8673b3b9aabcbfc4bb95d81ca9f83f973f05360a41024136a47ce78583eb3"), looks := false }, kinds := [], alts := [], laidByText := true, laidKinds := [.data, .data, .data], laidTests := true, laidLooks := .later }
def MethodSetsUptoCardSaid : Prop := Claim7.holds Tryd.pinned (.plain (OpenSpec.upto methodSetsSpec)) methodSetsUptoCard
end Rows
end Go.Proofs.YtjhencaobpihnaaDoor

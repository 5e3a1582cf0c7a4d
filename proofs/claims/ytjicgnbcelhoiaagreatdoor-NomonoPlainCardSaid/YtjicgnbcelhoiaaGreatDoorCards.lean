/-
  DERIVED. GIVEN WITH THE SEED: THE CARDS: each row of YtjicgnbcelhoiaaGreatDoorRows.lean that lists a variable, with what it lists TIED to the program's text (the seventh form; the later family's looks); each row that meets fmt, with fmt's text TOLD by the authors' own Lean function (tested against real Go, not proved from fmt's source: count such statements apart). THE CARD IS WHAT COUNTS. Prove the row's statement (the work); the ties are given (YtjicgnbcelhoiaaGreatDoorTie.lean); close each card by the builder's one call (the guide's Derived/Test/ToyasCard.lean, 'card_holds'). Laid BY PROGRAM, IN A SANDBOX (cutbox-door.mjs). By AI agents, Wed Nov 11 2026. No macro, syntax, notation, axiom, sorry.
-/
import Derived.Test.YtjicgnbcelhoiaaGreatDoorRows
import GoSem.ClaimSeven
namespace Go.Proofs.YtjicgnbcelhoiaaGreatDoor
namespace Rows

/-- THE TIED CARD OF 'castingslaw19.NomonoReaches'. -/
def nomonoReachesCard : Claim7 := { stood := { row := nomonoReachesRow, standIns := [], harness := (true, "5707e8442e450b2c663880752d0d71f3e6159df4bad1d92ded57882ae7acb37d"), looks := true }, kinds := [], alts := [], laidByText := true, laidKinds := [.handle], laidTests := true, laidLooks := .later }
def NomonoReachesCardSaid : Prop := Claim7.holds Tryz.pinned (.plain (OpenSpec.ofChange nomonoReachesSpec)) nomonoReachesCard

/-- THE TIED CARD OF 'castingslaw19.NomonoCycles'. -/
def nomonoCyclesCard : Claim7 := { stood := { row := nomonoCyclesRow, standIns := [], harness := (true, "5707e8442e450b2c663880752d0d71f3e6159df4bad1d92ded57882ae7acb37d"), looks := true }, kinds := [], alts := [], laidByText := true, laidKinds := [.handle], laidTests := true, laidLooks := .later }
def NomonoCyclesCardSaid : Prop := Claim7.holds Tryz.pinned (.plain (OpenSpec.ofChange nomonoCyclesSpec)) nomonoCyclesCard

/-- THE TIED CARD OF 'castingslaw19.NomonoPlain'. -/
def nomonoPlainCard : Claim7 := { stood := { row := nomonoPlainRow, standIns := [], harness := (true, "5707e8442e450b2c663880752d0d71f3e6159df4bad1d92ded57882ae7acb37d"), looks := true }, kinds := [], alts := [], laidByText := true, laidKinds := [.handle], laidTests := true, laidLooks := .later }
def NomonoPlainCardSaid : Prop := Claim7.holds Tryz.pinned (.plain (OpenSpec.ofChange nomonoPlainSpec)) nomonoPlainCard

/-- THE TIED CARD OF 'castingslaw19.NomonoMatchesReference'. -/
def nomonoMatchesReferenceCard : Claim7 := { stood := { row := nomonoMatchesReferenceRow, standIns := [], harness := (true, "5707e8442e450b2c663880752d0d71f3e6159df4bad1d92ded57882ae7acb37d"), looks := true }, kinds := [], alts := [], laidByText := true, laidKinds := [.handle], laidTests := true, laidLooks := .later }
def NomonoMatchesReferenceCardSaid : Prop := Claim7.holds Tryz.pinned (.plain (OpenSpec.ofChange nomonoMatchesReferenceSpec)) nomonoMatchesReferenceCard

/-- THE SECOND FORM's CARD OF 'castingslaw19.NomonoReaches'. -/
def nomonoReachesUptoCard : Claim7 := { stood := { row := nomonoReachesUptoRow, standIns := [], harness := (true, "5707e8442e450b2c663880752d0d71f3e6159df4bad1d92ded57882ae7acb37d"), looks := true }, kinds := [], alts := [], laidByText := true, laidKinds := [.handle], laidTests := true, laidLooks := .later }
def NomonoReachesUptoCardSaid : Prop := Claim7.holds Tryz.pinned (.plain (OpenSpec.upto nomonoReachesSpec)) nomonoReachesUptoCard

/-- THE SECOND FORM's CARD OF 'castingslaw19.NomonoCycles'. -/
def nomonoCyclesUptoCard : Claim7 := { stood := { row := nomonoCyclesUptoRow, standIns := [], harness := (true, "5707e8442e450b2c663880752d0d71f3e6159df4bad1d92ded57882ae7acb37d"), looks := true }, kinds := [], alts := [], laidByText := true, laidKinds := [.handle], laidTests := true, laidLooks := .later }
def NomonoCyclesUptoCardSaid : Prop := Claim7.holds Tryz.pinned (.plain (OpenSpec.upto nomonoCyclesSpec)) nomonoCyclesUptoCard

/-- THE SECOND FORM's CARD OF 'castingslaw19.NomonoPlain'. -/
def nomonoPlainUptoCard : Claim7 := { stood := { row := nomonoPlainUptoRow, standIns := [], harness := (true, "5707e8442e450b2c663880752d0d71f3e6159df4bad1d92ded57882ae7acb37d"), looks := true }, kinds := [], alts := [], laidByText := true, laidKinds := [.handle], laidTests := true, laidLooks := .later }
def NomonoPlainUptoCardSaid : Prop := Claim7.holds Tryz.pinned (.plain (OpenSpec.upto nomonoPlainSpec)) nomonoPlainUptoCard

/-- THE SECOND FORM's CARD OF 'castingslaw19.NomonoMatchesReference'. -/
def nomonoMatchesReferenceUptoCard : Claim7 := { stood := { row := nomonoMatchesReferenceUptoRow, standIns := [], harness := (true, "5707e8442e450b2c663880752d0d71f3e6159df4bad1d92ded57882ae7acb37d"), looks := true }, kinds := [], alts := [], laidByText := true, laidKinds := [.handle], laidTests := true, laidLooks := .later }
def NomonoMatchesReferenceUptoCardSaid : Prop := Claim7.holds Tryz.pinned (.plain (OpenSpec.upto nomonoMatchesReferenceSpec)) nomonoMatchesReferenceUptoCard
end Rows
end Go.Proofs.YtjicgnbcelhoiaaGreatDoor

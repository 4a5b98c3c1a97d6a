/-
  DERIVED. GIVEN WITH THE SEED: THE CARDS: each row of YtmcfhickfcmkkaaGreatDoorRows.lean that lists a variable, with what it lists TIED to the program's text (the seventh form; the later family's looks); each row that meets fmt, with fmt's text TOLD by the authors' own Lean function (tested against real Go, not proved from fmt's source: count such statements apart). THE CARD IS WHAT COUNTS. Prove the row's statement (the work); the ties are given (YtmcfhickfcmkkaaGreatDoorTie.lean); close each card by the builder's one call (the guide's Derived/Test/ToyasCard.lean, 'card_holds'). Laid BY PROGRAM, IN A SANDBOX (cutbox-door.mjs). By AI agents, Wed Nov 11 2026. No macro, syntax, notation, axiom, sorry.
-/
import Derived.Test.YtmcfhickfcmkkaaGreatDoorRows
import GoSem.ClaimSeven
namespace Go.Proofs.YtmcfhickfcmkkaaGreatDoor
namespace Rows

/-- THE TIED CARD OF 'steelyardlaw21.StateRaw'. -/
def stateRawCard : Claim7 := { stood := { row := stateRawRow, standIns := [], harness := (true, "9bcb2f98b2e424862de37a473914ae5b990222f2a7e1816ddff88d4e066e8518"), looks := false }, kinds := [], alts := [], laidByText := true, laidKinds := [.data], laidTests := true, laidLooks := .later }
def StateRawCardSaid : Prop := Claim7.holds Tryz.pinned (.plain (OpenSpec.ofChange stateRawSpec)) stateRawCard

/-- THE SECOND FORM's CARD OF 'steelyardlaw21.StateRaw'. -/
def stateRawUptoCard : Claim7 := { stood := { row := stateRawUptoRow, standIns := [], harness := (true, "9bcb2f98b2e424862de37a473914ae5b990222f2a7e1816ddff88d4e066e8518"), looks := false }, kinds := [], alts := [], laidByText := true, laidKinds := [.data], laidTests := true, laidLooks := .later }
def StateRawUptoCardSaid : Prop := Claim7.holds Tryz.pinned (.plain (OpenSpec.upto stateRawSpec)) stateRawUptoCard
end Rows
end Go.Proofs.YtmcfhickfcmkkaaGreatDoor

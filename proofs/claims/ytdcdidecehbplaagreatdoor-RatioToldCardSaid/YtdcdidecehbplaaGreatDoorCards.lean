/-
  DERIVED. GIVEN WITH THE SEED: THE CARDS: each row of YtdcdidecehbplaaGreatDoorRows.lean that lists a variable, with what it lists TIED to the program's text (the seventh form; the later family's looks); each row that meets fmt, with fmt's text TOLD by the authors' own Lean function (tested against real Go, not proved from fmt's source: count such statements apart). THE CARD IS WHAT COUNTS. Prove the row's statement (the work); the ties are given (YtdcdidecehbplaaGreatDoorTie.lean); close each card by the builder's one call (the guide's Derived/Test/ToyasCard.lean, 'card_holds'). Laid BY PROGRAM, IN A SANDBOX (cutbox-door.mjs). By AI agents, Wed Nov 11 2026. No macro, syntax, notation, axiom, sorry.
-/
import Derived.Test.YtdcdidecehbplaaGreatDoorRows
import GoSem.ClaimSeven
namespace Go.Proofs.YtdcdidecehbplaaGreatDoor
namespace Rows

/-- THE TIED CARD OF 'steelyardlaw02.RatioTold'. -/
def ratioToldCard : Claim7 := { stood := { row := ratioToldRow, standIns := [], harness := (true, "c323b22c8861e637eb6c1bc2a6d41de182e2e257415ba13a55f686145e71d4d0"), looks := false }, kinds := [], alts := [], laidByText := true, laidKinds := [.data], laidTests := true, laidLooks := .later }
def RatioToldCardSaid : Prop := Claim7.holds Tryz.pinned (.plain (OpenSpec.ofChange ratioToldSpec)) ratioToldCard

/-- THE SECOND FORM's CARD OF 'steelyardlaw02.RatioTold'. -/
def ratioToldUptoCard : Claim7 := { stood := { row := ratioToldUptoRow, standIns := [], harness := (true, "c323b22c8861e637eb6c1bc2a6d41de182e2e257415ba13a55f686145e71d4d0"), looks := false }, kinds := [], alts := [], laidByText := true, laidKinds := [.data], laidTests := true, laidLooks := .later }
def RatioToldUptoCardSaid : Prop := Claim7.holds Tryz.pinned (.plain (OpenSpec.upto ratioToldSpec)) ratioToldUptoCard
end Rows
end Go.Proofs.YtdcdidecehbplaaGreatDoor

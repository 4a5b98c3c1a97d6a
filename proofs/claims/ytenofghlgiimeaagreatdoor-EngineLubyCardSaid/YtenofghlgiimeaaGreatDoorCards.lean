/-
  DERIVED. GIVEN WITH THE SEED: THE CARDS: each row of YtenofghlgiimeaaGreatDoorRows.lean that lists a variable, with what it lists TIED to the program's text (the seventh form; the later family's looks); each row that meets fmt, with fmt's text TOLD by the authors' own Lean function (tested against real Go, not proved from fmt's source: count such statements apart). THE CARD IS WHAT COUNTS. Prove the row's statement (the work); the ties are given (YtenofghlgiimeaaGreatDoorTie.lean); close each card by the builder's one call (the guide's Derived/Test/ToyasCard.lean, 'card_holds'). Laid BY PROGRAM, IN A SANDBOX (cutbox-door.mjs). By AI agents, Wed Nov 11 2026. No macro, syntax, notation, axiom, sorry.
-/
import Derived.Test.YtenofghlgiimeaaGreatDoorRows
import GoSem.ClaimSeven
namespace Go.Proofs.YtenofghlgiimeaaGreatDoor
namespace Rows

/-- THE TIED CARD OF 'steelyardlaw20.EngineLuby'. -/
def engineLubyCard : Claim7 := { stood := { row := engineLubyRow, standIns := [], harness := (true, "5af1c9b3c9f1b93de4d8b0b4f2313aab30298d9d193e5dbd08943dcab6ef5876"), looks := true }, kinds := [], alts := [], laidByText := true, laidKinds := [.data], laidTests := true, laidLooks := .later }
def EngineLubyCardSaid : Prop := Claim7.holds Tryz.pinned (.plain (OpenSpec.ofChange engineLubySpec)) engineLubyCard

/-- THE SECOND FORM's CARD OF 'steelyardlaw20.EngineLuby'. -/
def engineLubyUptoCard : Claim7 := { stood := { row := engineLubyUptoRow, standIns := [], harness := (true, "5af1c9b3c9f1b93de4d8b0b4f2313aab30298d9d193e5dbd08943dcab6ef5876"), looks := true }, kinds := [], alts := [], laidByText := true, laidKinds := [.data], laidTests := true, laidLooks := .later }
def EngineLubyUptoCardSaid : Prop := Claim7.holds Tryz.pinned (.plain (OpenSpec.upto engineLubySpec)) engineLubyUptoCard
end Rows
end Go.Proofs.YtenofghlgiimeaaGreatDoor

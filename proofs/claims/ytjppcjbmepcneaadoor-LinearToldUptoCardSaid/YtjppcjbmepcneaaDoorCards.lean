/-
  DERIVED. GIVEN WITH THE SEED: THE CARDS: each row of YtjppcjbmepcneaaDoorRows.lean that lists a variable, with what it lists TIED to the program's text (the seventh form; the later family's looks); each row that meets fmt, with fmt's text TOLD by the authors' own Lean function (tested against real Go, not proved from fmt's source: count such statements apart). THE CARD IS WHAT COUNTS. Prove the row's statement (the work); the ties are given (YtjppcjbmepcneaaDoorTie.lean); close each card by the builder's one call (the guide's Derived/Test/ToyasCard.lean, 'card_holds'). Laid BY PROGRAM, IN A SANDBOX (cutbox-door.mjs). By AI agents, Wed Nov 11 2026. No macro, syntax, notation, axiom, sorry.
-/
import Derived.Test.YtjppcjbmepcneaaDoorRows
import GoSem.ClaimSeven
namespace Go.Proofs.YtjppcjbmepcneaaDoor
namespace Rows

/-- THE TIED CARD OF 'steelyardlaw12.LinearTold'. -/
def linearToldCard : Claim7 := { stood := { row := linearToldRow, standIns := [], harness := (true, "e9560d2166bb12399a911f2fc6eb4f7e270194cf0c094409787c9c80fd0febc0"), looks := false }, kinds := [], alts := [], laidByText := true, laidKinds := [.data], laidTests := true, laidLooks := .later }
def LinearToldCardSaid : Prop := Claim7.holds Tryd.pinned (.plain (OpenSpec.ofChange linearToldSpec)) linearToldCard

/-- THE SECOND FORM's CARD OF 'steelyardlaw12.LinearTold'. -/
def linearToldUptoCard : Claim7 := { stood := { row := linearToldUptoRow, standIns := [], harness := (true, "e9560d2166bb12399a911f2fc6eb4f7e270194cf0c094409787c9c80fd0febc0"), looks := false }, kinds := [], alts := [], laidByText := true, laidKinds := [.data], laidTests := true, laidLooks := .later }
def LinearToldUptoCardSaid : Prop := Claim7.holds Tryd.pinned (.plain (OpenSpec.upto linearToldSpec)) linearToldUptoCard
end Rows
end Go.Proofs.YtjppcjbmepcneaaDoor

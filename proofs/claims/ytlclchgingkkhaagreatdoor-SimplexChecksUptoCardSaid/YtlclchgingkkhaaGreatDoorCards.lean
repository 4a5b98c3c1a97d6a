/-
  DERIVED. GIVEN WITH THE SEED: THE CARDS: each row of YtlclchgingkkhaaGreatDoorRows.lean that lists a variable, with what it lists TIED to the program's text (the seventh form; the later family's looks); each row that meets fmt, with fmt's text TOLD by the authors' own Lean function (tested against real Go, not proved from fmt's source: count such statements apart). THE CARD IS WHAT COUNTS. Prove the row's statement (the work); the ties are given (YtlclchgingkkhaaGreatDoorTie.lean); close each card by the builder's one call (the guide's Derived/Test/ToyasCard.lean, 'card_holds'). Laid BY PROGRAM, IN A SANDBOX (cutbox-door.mjs). By AI agents, Wed Nov 11 2026. No macro, syntax, notation, axiom, sorry.
-/
import Derived.Test.YtlclchgingkkhaaGreatDoorRows
import GoSem.ClaimSeven
namespace Go.Proofs.YtlclchgingkkhaaGreatDoor
namespace Rows

/-- THE TIED CARD OF 'steelyardlaw15.SimplexChecks'. -/
def simplexChecksCard : Claim7 := { stood := { row := simplexChecksRow, standIns := [], harness := (true, "6b3f027be373d82cda3365bcf18d1645ca8caee4bae04a013171dfb65d997f95"), looks := false }, kinds := [], alts := [], laidByText := true, laidKinds := [.data], laidTests := true, laidLooks := .later }
def SimplexChecksCardSaid : Prop := Claim7.holds Tryz.pinned (.plain (OpenSpec.ofChange simplexChecksSpec)) simplexChecksCard

/-- THE TIED CARD OF 'steelyardlaw10.EvalRules'. -/
def evalRulesCard : Claim7 := { stood := { row := evalRulesRow, standIns := [], harness := (true, "6b3f027be373d82cda3365bcf18d1645ca8caee4bae04a013171dfb65d997f95"), looks := false }, kinds := [], alts := [], laidByText := true, laidKinds := [.data], laidTests := true, laidLooks := .later }
def EvalRulesCardSaid : Prop := Claim7.holds Tryz.pinned (.plain (OpenSpec.ofChange evalRulesSpec)) evalRulesCard

/-- THE TIED CARD OF 'steelyardlaw15.SimplexActs'. -/
def simplexActsCard : Claim7 := { stood := { row := simplexActsRow, standIns := [], harness := (true, "6b3f027be373d82cda3365bcf18d1645ca8caee4bae04a013171dfb65d997f95"), looks := false }, kinds := [], alts := [], laidByText := true, laidKinds := [.data], laidTests := true, laidLooks := .later }
def SimplexActsCardSaid : Prop := Claim7.holds Tryz.pinned (.plain (OpenSpec.ofChange simplexActsSpec)) simplexActsCard

/-- THE SECOND FORM's CARD OF 'steelyardlaw15.SimplexChecks'. -/
def simplexChecksUptoCard : Claim7 := { stood := { row := simplexChecksUptoRow, standIns := [], harness := (true, "6b3f027be373d82cda3365bcf18d1645ca8caee4bae04a013171dfb65d997f95"), looks := false }, kinds := [], alts := [], laidByText := true, laidKinds := [.data], laidTests := true, laidLooks := .later }
def SimplexChecksUptoCardSaid : Prop := Claim7.holds Tryz.pinned (.plain (OpenSpec.upto simplexChecksSpec)) simplexChecksUptoCard

/-- THE SECOND FORM's CARD OF 'steelyardlaw10.EvalRules'. -/
def evalRulesUptoCard : Claim7 := { stood := { row := evalRulesUptoRow, standIns := [], harness := (true, "6b3f027be373d82cda3365bcf18d1645ca8caee4bae04a013171dfb65d997f95"), looks := false }, kinds := [], alts := [], laidByText := true, laidKinds := [.data], laidTests := true, laidLooks := .later }
def EvalRulesUptoCardSaid : Prop := Claim7.holds Tryz.pinned (.plain (OpenSpec.upto evalRulesSpec)) evalRulesUptoCard

/-- THE SECOND FORM's CARD OF 'steelyardlaw15.SimplexActs'. -/
def simplexActsUptoCard : Claim7 := { stood := { row := simplexActsUptoRow, standIns := [], harness := (true, "6b3f027be373d82cda3365bcf18d1645ca8caee4bae04a013171dfb65d997f95"), looks := false }, kinds := [], alts := [], laidByText := true, laidKinds := [.data], laidTests := true, laidLooks := .later }
def SimplexActsUptoCardSaid : Prop := Claim7.holds Tryz.pinned (.plain (OpenSpec.upto simplexActsSpec)) simplexActsUptoCard
end Rows
end Go.Proofs.YtlclchgingkkhaaGreatDoor

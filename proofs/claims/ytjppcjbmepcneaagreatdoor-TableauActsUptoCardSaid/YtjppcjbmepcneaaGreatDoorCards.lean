/-
  DERIVED. GIVEN WITH THE SEED: THE CARDS: each row of YtjppcjbmepcneaaGreatDoorRows.lean that lists a variable, with what it lists TIED to the program's text (the seventh form; the later family's looks); each row that meets fmt, with fmt's text TOLD by the authors' own Lean function (tested against real Go, not proved from fmt's source: count such statements apart). THE CARD IS WHAT COUNTS. Prove the row's statement (the work); the ties are given (YtjppcjbmepcneaaGreatDoorTie.lean); close each card by the builder's one call (the guide's Derived/Test/ToyasCard.lean, 'card_holds'). Laid BY PROGRAM, IN A SANDBOX (cutbox-door.mjs). By AI agents, Wed Nov 11 2026. No macro, syntax, notation, axiom, sorry.
-/
import Derived.Test.YtjppcjbmepcneaaGreatDoorRows
import GoSem.ClaimSeven
namespace Go.Proofs.YtjppcjbmepcneaaGreatDoor
namespace Rows

/-- THE TIED CARD OF 'steelyardlaw16.FarkasNever'. -/
def farkasNeverCard : Claim7 := { stood := { row := farkasNeverRow, standIns := [], harness := (true, "c2c12b5913d2f26e1db923b91256d28356d8a7161bf19c75797e9f6cfcb14460"), looks := false }, kinds := [], alts := [], laidByText := true, laidKinds := [.data], laidTests := true, laidLooks := .later }
def FarkasNeverCardSaid : Prop := Claim7.holds Tryz.pinned (.plain (OpenSpec.ofChange farkasNeverSpec)) farkasNeverCard

/-- THE TIED CARD OF 'steelyardlaw14.TableauRight'. -/
def tableauRightCard : Claim7 := { stood := { row := tableauRightRow, standIns := [], harness := (true, "c2c12b5913d2f26e1db923b91256d28356d8a7161bf19c75797e9f6cfcb14460"), looks := false }, kinds := [], alts := [], laidByText := true, laidKinds := [.data], laidTests := true, laidLooks := .later }
def TableauRightCardSaid : Prop := Claim7.holds Tryz.pinned (.plain (OpenSpec.ofChange tableauRightSpec)) tableauRightCard

/-- THE TIED CARD OF 'steelyardlaw14.TableauActs'. -/
def tableauActsCard : Claim7 := { stood := { row := tableauActsRow, standIns := [], harness := (true, "c2c12b5913d2f26e1db923b91256d28356d8a7161bf19c75797e9f6cfcb14460"), looks := false }, kinds := [], alts := [], laidByText := true, laidKinds := [.data], laidTests := true, laidLooks := .later }
def TableauActsCardSaid : Prop := Claim7.holds Tryz.pinned (.plain (OpenSpec.ofChange tableauActsSpec)) tableauActsCard

/-- THE SECOND FORM's CARD OF 'steelyardlaw16.FarkasNever'. -/
def farkasNeverUptoCard : Claim7 := { stood := { row := farkasNeverUptoRow, standIns := [], harness := (true, "c2c12b5913d2f26e1db923b91256d28356d8a7161bf19c75797e9f6cfcb14460"), looks := false }, kinds := [], alts := [], laidByText := true, laidKinds := [.data], laidTests := true, laidLooks := .later }
def FarkasNeverUptoCardSaid : Prop := Claim7.holds Tryz.pinned (.plain (OpenSpec.upto farkasNeverSpec)) farkasNeverUptoCard

/-- THE SECOND FORM's CARD OF 'steelyardlaw14.TableauRight'. -/
def tableauRightUptoCard : Claim7 := { stood := { row := tableauRightUptoRow, standIns := [], harness := (true, "c2c12b5913d2f26e1db923b91256d28356d8a7161bf19c75797e9f6cfcb14460"), looks := false }, kinds := [], alts := [], laidByText := true, laidKinds := [.data], laidTests := true, laidLooks := .later }
def TableauRightUptoCardSaid : Prop := Claim7.holds Tryz.pinned (.plain (OpenSpec.upto tableauRightSpec)) tableauRightUptoCard

/-- THE SECOND FORM's CARD OF 'steelyardlaw14.TableauActs'. -/
def tableauActsUptoCard : Claim7 := { stood := { row := tableauActsUptoRow, standIns := [], harness := (true, "c2c12b5913d2f26e1db923b91256d28356d8a7161bf19c75797e9f6cfcb14460"), looks := false }, kinds := [], alts := [], laidByText := true, laidKinds := [.data], laidTests := true, laidLooks := .later }
def TableauActsUptoCardSaid : Prop := Claim7.holds Tryz.pinned (.plain (OpenSpec.upto tableauActsSpec)) tableauActsUptoCard
end Rows
end Go.Proofs.YtjppcjbmepcneaaGreatDoor

/-
  DERIVED. GIVEN WITH THE SEED: THE CARDS: each row of YtoeiajabbimiaaaDoorRows.lean that lists a variable, with what it lists TIED to the program's text (the seventh form; the later family's looks); each row that meets fmt, with fmt's text TOLD by the authors' own Lean function (tested against real Go, not proved from fmt's source: count such statements apart). THE CARD IS WHAT COUNTS. Prove the row's statement (the work); the ties are given (YtoeiajabbimiaaaDoorTie.lean); close each card by the builder's one call (the guide's Derived/Test/ToyasCard.lean, 'card_holds'). Laid BY PROGRAM, IN A SANDBOX (cutbox-door.mjs). By AI agents, Wed Nov 11 2026. No macro, syntax, notation, axiom, sorry.
-/
import Derived.Test.YtoeiajabbimiaaaDoorRows
import GoSem.ClaimSeven
namespace Go.Proofs.YtoeiajabbimiaaaDoor
namespace Rows

/-- THE TIED CARD OF 'steelyardlaw12.LinearNormal'. -/
def linearNormalCard : Claim7 := { stood := { row := linearNormalRow, standIns := [], harness := (true, "5568526c6d45ee5fb9e957c2a57bf89444f534b756bb9a2c56ccd483e96e3723"), looks := true }, kinds := [], alts := [], laidByText := true, laidKinds := [.data], laidTests := true, laidLooks := .later }
def LinearNormalCardSaid : Prop := Claim7.holds Tryd.pinned (.plain (OpenSpec.ofChange linearNormalSpec)) linearNormalCard

/-- THE TIED CARD OF 'steelyardlaw12.LinearOver'. -/
def linearOverCard : Claim7 := { stood := { row := linearOverRow, standIns := [], harness := (true, "5568526c6d45ee5fb9e957c2a57bf89444f534b756bb9a2c56ccd483e96e3723"), looks := true }, kinds := [], alts := [], laidByText := true, laidKinds := [.data], laidTests := true, laidLooks := .later }
def LinearOverCardSaid : Prop := Claim7.holds Tryd.pinned (.plain (OpenSpec.ofChange linearOverSpec)) linearOverCard

/-- THE TIED CARD OF 'steelyardlaw12.LinearValues'. -/
def linearValuesCard : Claim7 := { stood := { row := linearValuesRow, standIns := [], harness := (true, "5568526c6d45ee5fb9e957c2a57bf89444f534b756bb9a2c56ccd483e96e3723"), looks := true }, kinds := [], alts := [], laidByText := true, laidKinds := [.data], laidTests := true, laidLooks := .later }
def LinearValuesCardSaid : Prop := Claim7.holds Tryd.pinned (.plain (OpenSpec.ofChange linearValuesSpec)) linearValuesCard

/-- THE TIED CARD OF 'steelyardlaw12.LinearTold'. -/
def linearToldCard : Claim7 := { stood := { row := linearToldRow, standIns := [], harness := (true, "5568526c6d45ee5fb9e957c2a57bf89444f534b756bb9a2c56ccd483e96e3723"), looks := true }, kinds := [], alts := [], laidByText := true, laidKinds := [.data], laidTests := true, laidLooks := .later }
def LinearToldCardSaid : Prop := Claim7.holds Tryd.pinned (.plain (OpenSpec.ofChange linearToldSpec)) linearToldCard

/-- THE TIED CARD OF 'steelyardlaw24.TaleLines'. -/
def taleLinesCard : Claim7 := { stood := { row := taleLinesRow, standIns := [], harness := (true, "5568526c6d45ee5fb9e957c2a57bf89444f534b756bb9a2c56ccd483e96e3723"), looks := true }, kinds := [], alts := [], laidByText := true, laidKinds := [.data, .data, .data, .data, .sentinel, .sentinel, .pinned], laidTests := true, laidLooks := .later }
def TaleLinesCardSaid : Prop := Claim7.holds Tryd.pinned (.plain (OpenSpec.ofChange taleLinesSpec)) taleLinesCard

/-- THE TIED CARD OF 'steelyardlaw24.TaleReads'. -/
def taleReadsCard : Claim7 := { stood := { row := taleReadsRow, standIns := [], harness := (true, "5568526c6d45ee5fb9e957c2a57bf89444f534b756bb9a2c56ccd483e96e3723"), looks := true }, kinds := [], alts := [], laidByText := true, laidKinds := [.data, .data, .data, .data, .sentinel, .sentinel, .pinned], laidTests := true, laidLooks := .later }
def TaleReadsCardSaid : Prop := Claim7.holds Tryd.pinned (.plain (OpenSpec.ofChange taleReadsSpec)) taleReadsCard

/-- THE SECOND FORM's CARD OF 'steelyardlaw12.LinearNormal'. -/
def linearNormalUptoCard : Claim7 := { stood := { row := linearNormalUptoRow, standIns := [], harness := (true, "5568526c6d45ee5fb9e957c2a57bf89444f534b756bb9a2c56ccd483e96e3723"), looks := true }, kinds := [], alts := [], laidByText := true, laidKinds := [.data], laidTests := true, laidLooks := .later }
def LinearNormalUptoCardSaid : Prop := Claim7.holds Tryd.pinned (.plain (OpenSpec.upto linearNormalSpec)) linearNormalUptoCard

/-- THE SECOND FORM's CARD OF 'steelyardlaw12.LinearOver'. -/
def linearOverUptoCard : Claim7 := { stood := { row := linearOverUptoRow, standIns := [], harness := (true, "5568526c6d45ee5fb9e957c2a57bf89444f534b756bb9a2c56ccd483e96e3723"), looks := true }, kinds := [], alts := [], laidByText := true, laidKinds := [.data], laidTests := true, laidLooks := .later }
def LinearOverUptoCardSaid : Prop := Claim7.holds Tryd.pinned (.plain (OpenSpec.upto linearOverSpec)) linearOverUptoCard

/-- THE SECOND FORM's CARD OF 'steelyardlaw12.LinearValues'. -/
def linearValuesUptoCard : Claim7 := { stood := { row := linearValuesUptoRow, standIns := [], harness := (true, "5568526c6d45ee5fb9e957c2a57bf89444f534b756bb9a2c56ccd483e96e3723"), looks := true }, kinds := [], alts := [], laidByText := true, laidKinds := [.data], laidTests := true, laidLooks := .later }
def LinearValuesUptoCardSaid : Prop := Claim7.holds Tryd.pinned (.plain (OpenSpec.upto linearValuesSpec)) linearValuesUptoCard

/-- THE SECOND FORM's CARD OF 'steelyardlaw12.LinearTold'. -/
def linearToldUptoCard : Claim7 := { stood := { row := linearToldUptoRow, standIns := [], harness := (true, "5568526c6d45ee5fb9e957c2a57bf89444f534b756bb9a2c56ccd483e96e3723"), looks := true }, kinds := [], alts := [], laidByText := true, laidKinds := [.data], laidTests := true, laidLooks := .later }
def LinearToldUptoCardSaid : Prop := Claim7.holds Tryd.pinned (.plain (OpenSpec.upto linearToldSpec)) linearToldUptoCard

/-- THE SECOND FORM's CARD OF 'steelyardlaw24.TaleLines'. -/
def taleLinesUptoCard : Claim7 := { stood := { row := taleLinesUptoRow, standIns := [], harness := (true, "5568526c6d45ee5fb9e957c2a57bf89444f534b756bb9a2c56ccd483e96e3723"), looks := true }, kinds := [], alts := [], laidByText := true, laidKinds := [.data, .data, .data, .data, .sentinel, .sentinel, .pinned], laidTests := true, laidLooks := .later }
def TaleLinesUptoCardSaid : Prop := Claim7.holds Tryd.pinned (.plain (OpenSpec.upto taleLinesSpec)) taleLinesUptoCard

/-- THE SECOND FORM's CARD OF 'steelyardlaw24.TaleReads'. -/
def taleReadsUptoCard : Claim7 := { stood := { row := taleReadsUptoRow, standIns := [], harness := (true, "5568526c6d45ee5fb9e957c2a57bf89444f534b756bb9a2c56ccd483e96e3723"), looks := true }, kinds := [], alts := [], laidByText := true, laidKinds := [.data, .data, .data, .data, .sentinel, .sentinel, .pinned], laidTests := true, laidLooks := .later }
def TaleReadsUptoCardSaid : Prop := Claim7.holds Tryd.pinned (.plain (OpenSpec.upto taleReadsSpec)) taleReadsUptoCard
end Rows
end Go.Proofs.YtoeiajabbimiaaaDoor

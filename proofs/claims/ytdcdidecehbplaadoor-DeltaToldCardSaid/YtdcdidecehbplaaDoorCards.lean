/-
  DERIVED. GIVEN WITH THE SEED: THE CARDS: each row of YtdcdidecehbplaaDoorRows.lean that lists a variable, with what it lists TIED to the program's text (the seventh form; the later family's looks); each row that meets fmt, with fmt's text TOLD by the authors' own Lean function (tested against real Go, not proved from fmt's source: count such statements apart). THE CARD IS WHAT COUNTS. Prove the row's statement (the work); the ties are given (YtdcdidecehbplaaDoorTie.lean); close each card by the builder's one call (the guide's Derived/Test/ToyasCard.lean, 'card_holds'). Laid BY PROGRAM, IN A SANDBOX (cutbox-door.mjs). By AI agents, Wed Nov 11 2026. No macro, syntax, notation, axiom, sorry.
-/
import Derived.Test.YtdcdidecehbplaaDoorRows
import GoSem.ClaimSeven
namespace Go.Proofs.YtdcdidecehbplaaDoor
namespace Rows

/-- THE TIED CARD OF 'steelyardlaw01.NatRules'. -/
def natRulesCard : Claim7 := { stood := { row := natRulesRow, standIns := [], harness := (true, "5e08013911d6cd5c865718492f133442620a20b0a646745fba106d5c7f502f46"), looks := false }, kinds := [], alts := [], laidByText := true, laidKinds := [.data], laidTests := true, laidLooks := .later }
def NatRulesCardSaid : Prop := Claim7.holds Tryd.pinned (.plain (OpenSpec.ofChange natRulesSpec)) natRulesCard

/-- THE TIED CARD OF 'steelyardlaw01.NatTold'. -/
def natToldCard : Claim7 := { stood := { row := natToldRow, standIns := [], harness := (true, "5e08013911d6cd5c865718492f133442620a20b0a646745fba106d5c7f502f46"), looks := false }, kinds := [], alts := [], laidByText := true, laidKinds := [.data], laidTests := true, laidLooks := .later }
def NatToldCardSaid : Prop := Claim7.holds Tryd.pinned (.plain (OpenSpec.ofChange natToldSpec)) natToldCard

/-- THE TIED CARD OF 'steelyardlaw01.NatOver'. -/
def natOverCard : Claim7 := { stood := { row := natOverRow, standIns := [], harness := (true, "5e08013911d6cd5c865718492f133442620a20b0a646745fba106d5c7f502f46"), looks := false }, kinds := [], alts := [], laidByText := true, laidKinds := [.data], laidTests := true, laidLooks := .later }
def NatOverCardSaid : Prop := Claim7.holds Tryd.pinned (.plain (OpenSpec.ofChange natOverSpec)) natOverCard

/-- THE TIED CARD OF 'steelyardlaw03.DeltaTold'. -/
def deltaToldCard : Claim7 := { stood := { row := deltaToldRow, standIns := [], harness := (true, "5e08013911d6cd5c865718492f133442620a20b0a646745fba106d5c7f502f46"), looks := false }, kinds := [], alts := [], laidByText := true, laidKinds := [.data], laidTests := true, laidLooks := .later }
def DeltaToldCardSaid : Prop := Claim7.holds Tryd.pinned (.plain (OpenSpec.ofChange deltaToldSpec)) deltaToldCard

/-- THE TIED CARD OF 'steelyardlaw03.DeltaRules'. -/
def deltaRulesCard : Claim7 := { stood := { row := deltaRulesRow, standIns := [], harness := (true, "5e08013911d6cd5c865718492f133442620a20b0a646745fba106d5c7f502f46"), looks := false }, kinds := [], alts := [], laidByText := true, laidKinds := [.data], laidTests := true, laidLooks := .later }
def DeltaRulesCardSaid : Prop := Claim7.holds Tryd.pinned (.plain (OpenSpec.ofChange deltaRulesSpec)) deltaRulesCard

/-- THE TIED CARD OF 'steelyardlaw03.DeltaSmall'. -/
def deltaSmallCard : Claim7 := { stood := { row := deltaSmallRow, standIns := [], harness := (true, "5e08013911d6cd5c865718492f133442620a20b0a646745fba106d5c7f502f46"), looks := false }, kinds := [], alts := [], laidByText := true, laidKinds := [.data], laidTests := true, laidLooks := .later }
def DeltaSmallCardSaid : Prop := Claim7.holds Tryd.pinned (.plain (OpenSpec.ofChange deltaSmallSpec)) deltaSmallCard

/-- THE TIED CARD OF 'steelyardlaw02.RatioReads'. -/
def ratioReadsCard : Claim7 := { stood := { row := ratioReadsRow, standIns := [], harness := (true, "5e08013911d6cd5c865718492f133442620a20b0a646745fba106d5c7f502f46"), looks := false }, kinds := [], alts := [], laidByText := true, laidKinds := [.data], laidTests := true, laidLooks := .later }
def RatioReadsCardSaid : Prop := Claim7.holds Tryd.pinned (.plain (OpenSpec.ofChange ratioReadsSpec)) ratioReadsCard

/-- THE TIED CARD OF 'steelyardlaw02.RatioMakes'. -/
def ratioMakesCard : Claim7 := { stood := { row := ratioMakesRow, standIns := [], harness := (true, "5e08013911d6cd5c865718492f133442620a20b0a646745fba106d5c7f502f46"), looks := false }, kinds := [], alts := [], laidByText := true, laidKinds := [.data], laidTests := true, laidLooks := .later }
def RatioMakesCardSaid : Prop := Claim7.holds Tryd.pinned (.plain (OpenSpec.ofChange ratioMakesSpec)) ratioMakesCard

/-- THE TIED CARD OF 'steelyardlaw02.RatioOver'. -/
def ratioOverCard : Claim7 := { stood := { row := ratioOverRow, standIns := [], harness := (true, "5e08013911d6cd5c865718492f133442620a20b0a646745fba106d5c7f502f46"), looks := false }, kinds := [], alts := [], laidByText := true, laidKinds := [.data], laidTests := true, laidLooks := .later }
def RatioOverCardSaid : Prop := Claim7.holds Tryd.pinned (.plain (OpenSpec.ofChange ratioOverSpec)) ratioOverCard

/-- THE TIED CARD OF 'steelyardlaw02.RatioRules'. -/
def ratioRulesCard : Claim7 := { stood := { row := ratioRulesRow, standIns := [], harness := (true, "5e08013911d6cd5c865718492f133442620a20b0a646745fba106d5c7f502f46"), looks := false }, kinds := [], alts := [], laidByText := true, laidKinds := [.data], laidTests := true, laidLooks := .later }
def RatioRulesCardSaid : Prop := Claim7.holds Tryd.pinned (.plain (OpenSpec.ofChange ratioRulesSpec)) ratioRulesCard

/-- THE SECOND FORM's CARD OF 'steelyardlaw01.NatRules'. -/
def natRulesUptoCard : Claim7 := { stood := { row := natRulesUptoRow, standIns := [], harness := (true, "5e08013911d6cd5c865718492f133442620a20b0a646745fba106d5c7f502f46"), looks := false }, kinds := [], alts := [], laidByText := true, laidKinds := [.data], laidTests := true, laidLooks := .later }
def NatRulesUptoCardSaid : Prop := Claim7.holds Tryd.pinned (.plain (OpenSpec.upto natRulesSpec)) natRulesUptoCard

/-- THE SECOND FORM's CARD OF 'steelyardlaw01.NatTold'. -/
def natToldUptoCard : Claim7 := { stood := { row := natToldUptoRow, standIns := [], harness := (true, "5e08013911d6cd5c865718492f133442620a20b0a646745fba106d5c7f502f46"), looks := false }, kinds := [], alts := [], laidByText := true, laidKinds := [.data], laidTests := true, laidLooks := .later }
def NatToldUptoCardSaid : Prop := Claim7.holds Tryd.pinned (.plain (OpenSpec.upto natToldSpec)) natToldUptoCard

/-- THE SECOND FORM's CARD OF 'steelyardlaw01.NatOver'. -/
def natOverUptoCard : Claim7 := { stood := { row := natOverUptoRow, standIns := [], harness := (true, "5e08013911d6cd5c865718492f133442620a20b0a646745fba106d5c7f502f46"), looks := false }, kinds := [], alts := [], laidByText := true, laidKinds := [.data], laidTests := true, laidLooks := .later }
def NatOverUptoCardSaid : Prop := Claim7.holds Tryd.pinned (.plain (OpenSpec.upto natOverSpec)) natOverUptoCard

/-- THE SECOND FORM's CARD OF 'steelyardlaw03.DeltaTold'. -/
def deltaToldUptoCard : Claim7 := { stood := { row := deltaToldUptoRow, standIns := [], harness := (true, "5e08013911d6cd5c865718492f133442620a20b0a646745fba106d5c7f502f46"), looks := false }, kinds := [], alts := [], laidByText := true, laidKinds := [.data], laidTests := true, laidLooks := .later }
def DeltaToldUptoCardSaid : Prop := Claim7.holds Tryd.pinned (.plain (OpenSpec.upto deltaToldSpec)) deltaToldUptoCard

/-- THE SECOND FORM's CARD OF 'steelyardlaw03.DeltaRules'. -/
def deltaRulesUptoCard : Claim7 := { stood := { row := deltaRulesUptoRow, standIns := [], harness := (true, "5e08013911d6cd5c865718492f133442620a20b0a646745fba106d5c7f502f46"), looks := false }, kinds := [], alts := [], laidByText := true, laidKinds := [.data], laidTests := true, laidLooks := .later }
def DeltaRulesUptoCardSaid : Prop := Claim7.holds Tryd.pinned (.plain (OpenSpec.upto deltaRulesSpec)) deltaRulesUptoCard

/-- THE SECOND FORM's CARD OF 'steelyardlaw03.DeltaSmall'. -/
def deltaSmallUptoCard : Claim7 := { stood := { row := deltaSmallUptoRow, standIns := [], harness := (true, "5e08013911d6cd5c865718492f133442620a20b0a646745fba106d5c7f502f46"), looks := false }, kinds := [], alts := [], laidByText := true, laidKinds := [.data], laidTests := true, laidLooks := .later }
def DeltaSmallUptoCardSaid : Prop := Claim7.holds Tryd.pinned (.plain (OpenSpec.upto deltaSmallSpec)) deltaSmallUptoCard

/-- THE SECOND FORM's CARD OF 'steelyardlaw02.RatioReads'. -/
def ratioReadsUptoCard : Claim7 := { stood := { row := ratioReadsUptoRow, standIns := [], harness := (true, "5e08013911d6cd5c865718492f133442620a20b0a646745fba106d5c7f502f46"), looks := false }, kinds := [], alts := [], laidByText := true, laidKinds := [.data], laidTests := true, laidLooks := .later }
def RatioReadsUptoCardSaid : Prop := Claim7.holds Tryd.pinned (.plain (OpenSpec.upto ratioReadsSpec)) ratioReadsUptoCard

/-- THE SECOND FORM's CARD OF 'steelyardlaw02.RatioMakes'. -/
def ratioMakesUptoCard : Claim7 := { stood := { row := ratioMakesUptoRow, standIns := [], harness := (true, "5e08013911d6cd5c865718492f133442620a20b0a646745fba106d5c7f502f46"), looks := false }, kinds := [], alts := [], laidByText := true, laidKinds := [.data], laidTests := true, laidLooks := .later }
def RatioMakesUptoCardSaid : Prop := Claim7.holds Tryd.pinned (.plain (OpenSpec.upto ratioMakesSpec)) ratioMakesUptoCard

/-- THE SECOND FORM's CARD OF 'steelyardlaw02.RatioOver'. -/
def ratioOverUptoCard : Claim7 := { stood := { row := ratioOverUptoRow, standIns := [], harness := (true, "5e08013911d6cd5c865718492f133442620a20b0a646745fba106d5c7f502f46"), looks := false }, kinds := [], alts := [], laidByText := true, laidKinds := [.data], laidTests := true, laidLooks := .later }
def RatioOverUptoCardSaid : Prop := Claim7.holds Tryd.pinned (.plain (OpenSpec.upto ratioOverSpec)) ratioOverUptoCard

/-- THE SECOND FORM's CARD OF 'steelyardlaw02.RatioRules'. -/
def ratioRulesUptoCard : Claim7 := { stood := { row := ratioRulesUptoRow, standIns := [], harness := (true, "5e08013911d6cd5c865718492f133442620a20b0a646745fba106d5c7f502f46"), looks := false }, kinds := [], alts := [], laidByText := true, laidKinds := [.data], laidTests := true, laidLooks := .later }
def RatioRulesUptoCardSaid : Prop := Claim7.holds Tryd.pinned (.plain (OpenSpec.upto ratioRulesSpec)) ratioRulesUptoCard
end Rows
end Go.Proofs.YtdcdidecehbplaaDoor

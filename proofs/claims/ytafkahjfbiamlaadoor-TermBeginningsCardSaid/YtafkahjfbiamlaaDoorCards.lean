/-
  DERIVED. GIVEN WITH THE SEED: THE CARDS: each row of YtafkahjfbiamlaaDoorRows.lean that lists a variable, with what it lists TIED to the program's text (the seventh form; the later family's looks); each row that meets fmt, with fmt's text TOLD by the authors' own Lean function (tested against real Go, not proved from fmt's source: count such statements apart). THE CARD IS WHAT COUNTS. Prove the row's statement (the work); the ties are given (YtafkahjfbiamlaaDoorTie.lean); close each card by the builder's one call (the guide's Derived/Test/ToyasCard.lean, 'card_holds'). Laid BY PROGRAM, IN A SANDBOX (cutbox-door.mjs). By AI agents, Wed Nov 11 2026. No macro, syntax, notation, axiom, sorry.
-/
import Derived.Test.YtafkahjfbiamlaaDoorRows
import GoSem.ClaimSeven
namespace Go.Proofs.YtafkahjfbiamlaaDoor
namespace Rows

/-- THE TIED CARD OF 'steelyardlaw04.PackTakes'. -/
def packTakesCard : Claim7 := { stood := { row := packTakesRow, standIns := [], harness := (true, "fd263222c6c9eda23e63988b2be21bb65d1fd803cf2256ea2cdc596c5dd5921b"), looks := false }, kinds := [], alts := [], laidByText := true, laidKinds := [.data], laidTests := true, laidLooks := .later }
def PackTakesCardSaid : Prop := Claim7.holds Tryd.pinned (.plain (OpenSpec.ofChange packTakesSpec)) packTakesCard

/-- THE TIED CARD OF 'steelyardlaw04.PackCut'. -/
def packCutCard : Claim7 := { stood := { row := packCutRow, standIns := [], harness := (true, "fd263222c6c9eda23e63988b2be21bb65d1fd803cf2256ea2cdc596c5dd5921b"), looks := false }, kinds := [], alts := [], laidByText := true, laidKinds := [.data], laidTests := true, laidLooks := .later }
def PackCutCardSaid : Prop := Claim7.holds Tryd.pinned (.plain (OpenSpec.ofChange packCutSpec)) packCutCard

/-- THE TIED CARD OF 'steelyardlaw04.PackPuts'. -/
def packPutsCard : Claim7 := { stood := { row := packPutsRow, standIns := [], harness := (true, "fd263222c6c9eda23e63988b2be21bb65d1fd803cf2256ea2cdc596c5dd5921b"), looks := false }, kinds := [], alts := [], laidByText := true, laidKinds := [.data], laidTests := true, laidLooks := .later }
def PackPutsCardSaid : Prop := Claim7.holds Tryd.pinned (.plain (OpenSpec.ofChange packPutsSpec)) packPutsCard

/-- THE TIED CARD OF 'steelyardlaw09.TermGrows'. -/
def termGrowsCard : Claim7 := { stood := { row := termGrowsRow, standIns := [], harness := (true, "fd263222c6c9eda23e63988b2be21bb65d1fd803cf2256ea2cdc596c5dd5921b"), looks := false }, kinds := [], alts := [], laidByText := true, laidKinds := [.data], laidTests := true, laidLooks := .later }
def TermGrowsCardSaid : Prop := Claim7.holds Tryd.pinned (.plain (OpenSpec.ofChange termGrowsSpec)) termGrowsCard

/-- THE TIED CARD OF 'steelyardlaw09.TermBeginnings'. -/
def termBeginningsCard : Claim7 := { stood := { row := termBeginningsRow, standIns := [], harness := (true, "fd263222c6c9eda23e63988b2be21bb65d1fd803cf2256ea2cdc596c5dd5921b"), looks := false }, kinds := [], alts := [], laidByText := true, laidKinds := [.data], laidTests := true, laidLooks := .later }
def TermBeginningsCardSaid : Prop := Claim7.holds Tryd.pinned (.plain (OpenSpec.ofChange termBeginningsSpec)) termBeginningsCard

/-- THE SECOND FORM's CARD OF 'steelyardlaw04.PackTakes'. -/
def packTakesUptoCard : Claim7 := { stood := { row := packTakesUptoRow, standIns := [], harness := (true, "fd263222c6c9eda23e63988b2be21bb65d1fd803cf2256ea2cdc596c5dd5921b"), looks := false }, kinds := [], alts := [], laidByText := true, laidKinds := [.data], laidTests := true, laidLooks := .later }
def PackTakesUptoCardSaid : Prop := Claim7.holds Tryd.pinned (.plain (OpenSpec.upto packTakesSpec)) packTakesUptoCard

/-- THE SECOND FORM's CARD OF 'steelyardlaw04.PackCut'. -/
def packCutUptoCard : Claim7 := { stood := { row := packCutUptoRow, standIns := [], harness := (true, "fd263222c6c9eda23e63988b2be21bb65d1fd803cf2256ea2cdc596c5dd5921b"), looks := false }, kinds := [], alts := [], laidByText := true, laidKinds := [.data], laidTests := true, laidLooks := .later }
def PackCutUptoCardSaid : Prop := Claim7.holds Tryd.pinned (.plain (OpenSpec.upto packCutSpec)) packCutUptoCard

/-- THE SECOND FORM's CARD OF 'steelyardlaw04.PackPuts'. -/
def packPutsUptoCard : Claim7 := { stood := { row := packPutsUptoRow, standIns := [], harness := (true, "fd263222c6c9eda23e63988b2be21bb65d1fd803cf2256ea2cdc596c5dd5921b"), looks := false }, kinds := [], alts := [], laidByText := true, laidKinds := [.data], laidTests := true, laidLooks := .later }
def PackPutsUptoCardSaid : Prop := Claim7.holds Tryd.pinned (.plain (OpenSpec.upto packPutsSpec)) packPutsUptoCard

/-- THE SECOND FORM's CARD OF 'steelyardlaw09.TermGrows'. -/
def termGrowsUptoCard : Claim7 := { stood := { row := termGrowsUptoRow, standIns := [], harness := (true, "fd263222c6c9eda23e63988b2be21bb65d1fd803cf2256ea2cdc596c5dd5921b"), looks := false }, kinds := [], alts := [], laidByText := true, laidKinds := [.data], laidTests := true, laidLooks := .later }
def TermGrowsUptoCardSaid : Prop := Claim7.holds Tryd.pinned (.plain (OpenSpec.upto termGrowsSpec)) termGrowsUptoCard

/-- THE SECOND FORM's CARD OF 'steelyardlaw09.TermBeginnings'. -/
def termBeginningsUptoCard : Claim7 := { stood := { row := termBeginningsUptoRow, standIns := [], harness := (true, "fd263222c6c9eda23e63988b2be21bb65d1fd803cf2256ea2cdc596c5dd5921b"), looks := false }, kinds := [], alts := [], laidByText := true, laidKinds := [.data], laidTests := true, laidLooks := .later }
def TermBeginningsUptoCardSaid : Prop := Claim7.holds Tryd.pinned (.plain (OpenSpec.upto termBeginningsSpec)) termBeginningsUptoCard
end Rows
end Go.Proofs.YtafkahjfbiamlaaDoor

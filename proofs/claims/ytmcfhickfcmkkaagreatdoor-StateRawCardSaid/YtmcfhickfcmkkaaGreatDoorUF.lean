/-
  Laws that the proof of this claim's statement leans on, each proved under the conditions that it states.
-/
import Derived.Test.YtmcfhickfcmkkaaGreatDoorUE
import Derived.Test.YtmcfhickfcmkkaaGreatDoorSpW
set_option linter.unusedVariables false
set_option linter.unusedSimpArgs false
namespace Go.Sh
open Go Go.Lift
def SmT (h : Heap) (x : S5) : Prop := ∃ t, TQ h x t ∧ TSz t 12 6
end Go.Sh

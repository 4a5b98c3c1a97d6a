/-
  Laws that the proof of this claim's statement leans on, each proved under the conditions that it states.
-/
import Derived.Test.YtjppcjbmepcneaaGreatDoorUB
set_option linter.unusedVariables false
set_option linter.unusedSimpArgs false
namespace Go.Sh
open Go Go.Lift
variable {h0 h : Heap} {x : S5} {t : TT} {L B : Nat}
theorem sgn_len {h : Heap} {y : X4} {p : Rat × PL} (q : PQ h y p) : y.2.1.len = 0 ↔ p.1 = 0 := by
  have := q.c.num.len_zero
  rw [this, Int.natAbs_eq_zero, Rat.num_eq_zero]
end Go.Sh

namespace Go.Sh
open Go Go.Lift
variable {h0 h : Heap} {x : S5} {t : TT} {L B : Nat}
abbrev CT := C_sl_sl_sl_sl_sl
end Go.Sh

namespace Go.Sh
open Go Go.Lift
section
variable {B : Nat} {h : Heap} {s : Sl} {ys : List One} {a : Addr}
end
section
variable {α : Type} {toC : α → List Value} {sz B : Nat} {h h' : Heap} {s : Sl} {xs : List α}
end
end Go.Sh

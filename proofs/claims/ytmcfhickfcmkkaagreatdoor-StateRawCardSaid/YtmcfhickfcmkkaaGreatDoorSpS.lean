/-
  Laws that the proof of this claim's statement leans on, each proved under the conditions that it states.
-/
import Derived.Test.YtmcfhickfcmkkaaGreatDoorSpR
set_option linter.unusedVariables false
set_option linter.unusedSimpArgs false
namespace Go.Sh
open Go Go.Lift
section
variable {h : Heap} {x : Bool × Sl × Sl} {q : Rat} {Q : ByteArray → Heap → Prop}
end
end Go.Sh

namespace Go.Sh
open Go Go.Lift
def anf (c : List Nat) (n k : Nat) : Prop :=
  (digs c = true ∧ c ≠ [] ∧ n = dv c ∧ k = 0) ∨
  ∃ p, 0 < p ∧ p + 1 < c.length ∧ c[p]? = some 46 ∧ digs (c.take p) = true ∧ digs (c.drop (p + 1)) = true ∧ n = dv (c.take p ++ c.drop (p + 1)) ∧ k = c.length - (p + 1)
section
variable {a : Addr} {lim : Nat} {ov : Bool} {s : ByteArray} {h : Heap}
end
end Go.Sh

namespace Go.Sh
open Go Go.Lift
structure Seen (c : List Nat) (j : Nat) (pt : Int) (ds : List Nat) : Prop where
  le : j ≤ c.length
  cases : (pt = -1 ∧ digs (c.drop j) = true ∧ ds = (c.drop j).reverse.map (· - 48)) ∨
    ∃ p : Nat, pt = (p : Int) ∧ j ≤ p ∧ 0 < p ∧ p + 1 < c.length ∧ c[p]? = some 46 ∧ digs ((c.take p).drop j) = true ∧ digs (c.drop (p + 1)) = true ∧ ds = ((c.take p).drop j ++ c.drop (p + 1)).reverse.map (· - 48)
end Go.Sh

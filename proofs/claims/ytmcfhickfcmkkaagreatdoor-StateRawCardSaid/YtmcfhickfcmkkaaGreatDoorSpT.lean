/-
  Laws that the proof of this claim's statement leans on, each proved under the conditions that it states.
-/
import Derived.Test.YtmcfhickfcmkkaaGreatDoorSpG
set_option linter.unusedVariables false
set_option linter.unusedSimpArgs false
namespace Go.Sh
open Go Go.Lift
theorem ajK {n : Nat} : n < 4294967296 ^ nl n := tf.1 (Nat.le_refl _)
theorem aj5 (m n : Nat) : nl (m + n) ≤ max (nl m) (nl n) + 1 := by
  rw [tf]
  have h1 : m < 4294967296 ^ max (nl m) (nl n) := Nat.lt_of_lt_of_le ajK (Nat.pow_le_pow_right (by decide) (Nat.le_max_left _ _))
  have h2 : n < 4294967296 ^ max (nl m) (nl n) := Nat.lt_of_lt_of_le ajK (Nat.pow_le_pow_right (by decide) (Nat.le_max_right _ _))
  rw [Nat.pow_succ]
  generalize 4294967296 ^ max (nl m) (nl n) = p at *
  omega
theorem aaD (m n : Nat) : nl (m * n) ≤ nl m + nl n := by
  rw [tf, Nat.pow_add]
  have h1 : m < 4294967296 ^ nl m := ajK
  have h2 : n < 4294967296 ^ nl n := ajK
  exact Nat.mul_lt_mul'' h1 h2
section
variable {a : Addr} {lim : Nat} {x y : Sl} {m n : Nat} {h : Heap}
theorem agA {lim k : Nat} (hk : k ≤ lim) : (false || decide (lim < k)) = false := by simp; omega
theorem qo {r : Sl} (hb : Bench h a lim false) (hs : ∀ b, r.blk = some b → h.size ≤ b) : r.blk ≠ some a.block := fun he => by
  have := hs _ he
  have := hb.lt
  omega
end
end Go.Sh

namespace Go.Sh
open Go Go.Lift
theorem akb {m n : Nat} : decide (cmpI m n ≥ 0) = decide (n ≤ m) := by
  unfold cmpI
  apply decide_eq_decide.2
  constructor
  · intro h
    split at h
    · simp at h
    · omega
  · intro h
    rw [if_neg (by omega)]
    split <;> decide
end Go.Sh

namespace Go.Sh
open Go Go.Lift
end Go.Sh

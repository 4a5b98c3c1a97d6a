/-
  Laws that the proof of this claim's statement leans on, each proved under the conditions that it states.
-/
import Derived.Test.YtafkahjfbiamlaaDoorSpD
set_option linter.unusedVariables false
set_option linter.unusedSimpArgs false
namespace Go.Sh
open Go Go.Lift

section
variable {a : Addr} {lim : Nat} {x y : Sl} {m n : Nat} {h : Heap}
theorem nofit {lim k : Nat} (hk : k ≤ lim) : (false || decide (lim < k)) = false := by simp; omega
theorem fresh_ne {r : Sl} (hb : Bench h a lim false) (hs : ∀ b, r.blk = some b → h.size ≤ b) : r.blk ≠ some a.block := fun he => by
  have := hs _ he
  have := hb.lt
  omega
end

end Go.Sh

namespace Go.Sh
open Go Go.Lift

theorem DN.uniq {h : Heap} {s : Sl} {m n : Nat} (hm : DN h s m) (hn : DN h s n) : m = n := by
  obtain ⟨xs, x1, _, _, x4⟩ := hm
  obtain ⟨ys, y1, _, _, y4⟩ := hn
  have h1 := x1.cells
  have h2 := y1.cells
  rw [h1] at h2
  simp only [Option.some.injEq] at h2
  have : xs = ys := by
    apply List.ext_getElem
    · have := congrArg List.length h2; simpa using this
    · intro i hi hj
      have := congrArg (fun l => l[i]?) h2
      simp [hi, hj] at this
      exact_mod_cast this
  rw [← x4, ← y4, this]
end Go.Sh

namespace Go.Sh
open Go Go.Lift

end Go.Sh

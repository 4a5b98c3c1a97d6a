/-
  A ratio, out of what its shape says.
-/
import Derived.Test.YtdcdidecehbplaaGreatDoorSpZ
import Derived.Test.YtdcdidecehbplaaGreatDoorFwF
set_option linter.unusedVariables false
set_option linter.unusedSimpArgs false
namespace Go.Sh
open Go Go.Lift
abbrev shQ : Shape := .cat (.cat .bool (.cat (.slice (.int .u32)) .nil)) (.cat (.slice (.int .u32)) .nil)
abbrev X3 := Bool × Sl × Sl
def Raw3 (h : Heap) (x : X3) : Prop := ∃ xs ys, XR h x xs ys
theorem is_q {h : Heap} {cs : List Value} (H : shQ.Is h cs) : ∃ x : X3, cs = C_bool_sl_sl x ∧ Raw3 h x := by
  obtain ⟨l, r, rfl, ⟨l1, r1, rfl, ⟨b, rfl⟩, l2, r2, rfl, h2, rfl⟩, l3, r3, rfl, h3, rfl⟩ := H
  obtain ⟨s, xs, rfl, h4, h5⟩ := is_u32 h2
  obtain ⟨t, ys, rfl, h6, h7⟩ := is_u32 h3
  exact ⟨(b, s, t), rfl, xs, ys, h4, h5, h6, h7⟩
end Go.Sh

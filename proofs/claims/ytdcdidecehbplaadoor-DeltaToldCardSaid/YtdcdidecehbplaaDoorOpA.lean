/-
  A number, a ratio, a delta, out of what its shape says.
-/
import Derived.Test.YtdcdidecehbplaaDoorSpE
import Derived.Test.YtdcdidecehbplaaDoorFwF
set_option linter.unusedVariables false
set_option linter.unusedSimpArgs false
namespace Go.Sh
open Go Go.Lift
abbrev shQ : Shape := .cat (.cat .bool (.cat (.slice (.int .u32)) .nil)) (.cat (.slice (.int .u32)) .nil)
abbrev shD : Shape := .cat shQ (.cat shQ .nil)
def RawN (h : Heap) (s : Sl) : Prop := ∃ xs, RI .u32 h s xs ∧ Lim 4294967296 xs
theorem is_n {h : Heap} {cs : List Value} (H : (Shape.slice (.int .u32)).Is h cs) : ∃ s : Sl, cs = [Sl.toV s] ∧ RawN h s := by
  obtain ⟨s, xs, h1, h2, h3⟩ := is_u32 H
  exact ⟨s, h1, xs, h2, h3⟩
theorem is_q {h : Heap} {cs : List Value} (H : shQ.Is h cs) : ∃ x : X3, cs = C_bool_sl_sl x ∧ Raw3 h x := by
  obtain ⟨l, r, rfl, ⟨l1, r1, rfl, ⟨b, rfl⟩, l2, r2, rfl, h2, rfl⟩, l3, r3, rfl, h3, rfl⟩ := H
  obtain ⟨s, xs, rfl, h4, h5⟩ := is_u32 h2
  obtain ⟨t, ys, rfl, h6, h7⟩ := is_u32 h3
  exact ⟨(b, s, t), rfl, xs, ys, h4, h5, h6, h7⟩
theorem is_d {h : Heap} {cs : List Value} (H : shD.Is h cs) : ∃ x : X6, cs = C_bool_sl_sl_bool_sl_sl x ∧ Raw6 h x := by
  obtain ⟨l, r, rfl, h1, l2, r2, rfl, h2, rfl⟩ := H
  obtain ⟨x, rfl, h3⟩ := is_q h1
  obtain ⟨y, rfl, h4⟩ := is_q h2
  exact ⟨(x.1, x.2.1, x.2.2, y.1, y.2.1, y.2.2), rfl, h3, h4⟩
end Go.Sh

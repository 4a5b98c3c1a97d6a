/-
  Laws that the proof of this claim's statement leans on, each proved under the conditions that it states.
-/
import Derived.Test.YtafkahjfbiamlaaDoorSpL
import Derived.Test.YtafkahjfbiamlaaDoorFwF
set_option linter.unusedVariables false
set_option linter.unusedSimpArgs false
namespace Go.Sh
open Go Go.Lift

/-! ### Numbers with a delta -/
abbrev X3 := Bool × Sl × Sl
abbrev X6 := Bool × Sl × Sl × Bool × Sl × Sl
abbrev dA (x : X6) : X3 := (x.1, x.2.1, x.2.2.1)
abbrev dB (x : X6) : X3 := (x.2.2.2.1, x.2.2.2.2.1, x.2.2.2.2.2)
abbrev d0 : X6 := (false, Sl.nil, Sl.nil, false, Sl.nil, Sl.nil)
structure DQ (h : Heap) (x : X6) (p : Rat × Rat) : Prop where
  a : RQ h (dA x) p.1
  b : RQ h (dB x) p.2
structure DF (k : Nat) (h : Heap) (x : X6) (p : Rat × Rat) : Prop where
  a : RF k h (dA x) p.1
  b : RF k h (dB x) p.2
structure DD (h : Heap) (x : X6) (p : Rat × Rat) : Prop where
  a : RD h (dA x) p.1
  b : RD h (dB x) p.2
section
variable {h h' : Heap} {x : X6} {p : Rat × Rat} {k : Nat}
theorem DQ.ext (hx : DQ h x p) (e : Ext h h') : DQ h' x p := ⟨hx.a.ext e, hx.b.ext e⟩
theorem DF.ext (hx : DF k h x p) (e : Ext h h') : DF k h' x p := ⟨hx.a.ext e, hx.b.ext e⟩
theorem DD.ext (hx : DD h x p) (e : Ext h h') : DD h' x p := ⟨hx.a.ext e, hx.b.ext e⟩
theorem DF.keep (hx : DF k h x p) (e : Keep (some k) h h') : DF k h' x p := ⟨hx.a.keep e, hx.b.keep e⟩
theorem DQ.zero : DQ h d0 (0, 0) := ⟨RQ.zero, RQ.zero⟩
theorem DF.zero : DF k h d0 (0, 0) := ⟨RF.zero, RF.zero⟩
end
section
variable {a : Addr} {lim : Nat} {ov : Bool} {h : Heap}
variable {x y : X6} {p q : Rat × Rat} {Q : X6 → Heap → Prop}
end

section
variable {h : Heap} {x y : X6} {p q : Rat × Rat}
end
end Go.Sh

namespace Go.Sh
open Go Go.Lift

def Raw3 (h : Heap) (x : X3) : Prop := ∃ xs ys, XR h x xs ys
theorem Raw3.nil {h : Heap} : Raw3 h (false, Sl.nil, Sl.nil) := ⟨[], [], R.nil, Lim.nil, R.nil, Lim.nil⟩
end Go.Sh

namespace Go.Sh
open Go Go.Lift
abbrev shQ : Shape := .cat (.cat .bool (.cat (.slice (.int .u32)) .nil)) (.cat (.slice (.int .u32)) .nil)
def RawN (h : Heap) (s : Sl) : Prop := ∃ xs, RI .u32 h s xs ∧ Lim 4294967296 xs
theorem is_n {h : Heap} {cs : List Value} (H : (Shape.slice (.int .u32)).Is h cs) : ∃ s : Sl, cs = [Sl.toV s] ∧ RawN h s := by
  obtain ⟨s, xs, h1, h2, h3⟩ := is_u32 H
  exact ⟨s, h1, xs, h2, h3⟩
theorem is_q {h : Heap} {cs : List Value} (H : shQ.Is h cs) : ∃ x : X3, cs = C_bool_sl_sl x ∧ Raw3 h x := by
  obtain ⟨l, r, rfl, ⟨l1, r1, rfl, ⟨b, rfl⟩, l2, r2, rfl, h2, rfl⟩, l3, r3, rfl, h3, rfl⟩ := H
  obtain ⟨s, xs, rfl, h4, h5⟩ := is_u32 h2
  obtain ⟨t, ys, rfl, h6, h7⟩ := is_u32 h3
  exact ⟨(b, s, t), rfl, xs, ys, h4, h5, h6, h7⟩
end Go.Sh

/-
  Sums of unknowns, out of what their shape says.
-/
import Derived.Test.YtjppcjbmepcneaaDoorSpW
import Derived.Test.YtjppcjbmepcneaaDoorFwF
set_option linter.unusedVariables false
set_option linter.unusedSimpArgs false
namespace Go.Sh
open Go Go.Lift
abbrev shQ : Shape := .cat (.cat .bool (.cat (.slice (.int .u32)) .nil)) (.cat (.slice (.int .u32)) .nil)
abbrev shM : Shape := .cat (.int .i64) (.cat shQ .nil)
abbrev shPoly : Shape := .cat shQ (.cat (.slice shM) .nil)
theorem is_u32B {B : Nat} {h : Heap} {cs : List Value} (H : (Shape.slice (.int .u32)).IsB B h cs) : ∃ s : Sl, ∃ xs : List Nat, cs = [Sl.toV s] ∧ RI .u32 h s xs ∧ Lim 4294967296 xs ∧ xs.length ≤ B := by
  obtain ⟨s, rows, rfl, hr, hl, he⟩ := H
  obtain ⟨s', xs, h1, h2, h3⟩ := is_u32 (h := h) (cs := [Sl.toV s]) ⟨s, rows, rfl, hr, he⟩
  have hss : s' = s := by
    simp only [List.cons.injEq, and_true] at h1
    cases s; cases s'; simp only [Sl.toV, Value.slice.injEq] at h1; obtain ⟨rfl, rfl, rfl⟩ := h1; rfl
  subst hss
  exact ⟨s', xs, rfl, h2, h3, by rw [← h2.len]; exact hl⟩
theorem is_qB {h : Heap} {cs : List Value} (H : shQ.IsB 1048576 h cs) : ∃ x : X3, cs = C_bool_sl_sl x ∧ RawB h x := by
  obtain ⟨l, r, rfl, ⟨l1, r1, rfl, ⟨b, rfl⟩, l2, r2, rfl, h2, rfl⟩, l3, r3, rfl, h3, rfl⟩ := H
  obtain ⟨s, xs, rfl, h4, h5, h8⟩ := is_u32B h2
  obtain ⟨t, ys, rfl, h6, h7, h9⟩ := is_u32B h3
  exact ⟨(b, s, t), rfl, xs, ys, ⟨h4, h5, h6, h7⟩, h8, h9⟩
/-- A row, out of what its shape says, a law of its elements at hand. -/
theorem is_rsB {α : Type} {toC : α → List Value} {F : Heap → α → Prop} {e : Shape} {B : Nat} {h : Heap} {cs : List Value} (sz : Nat) (hsz : e.size = sz) (hE : ∀ r, e.IsB B h r → ∃ x, r = toC x ∧ F h x) (H : (Shape.slice e).IsB B h cs) :
    ∃ s : Sl, cs = [Sl.toV s] ∧ ∃ xs, RS toC sz h s xs ∧ (∀ x ∈ xs, F h x) ∧ s.len ≤ s.cap ∧ xs.length ≤ B := by
  obtain ⟨s, rows, rfl, hr, hl, he⟩ := H
  have : ∃ xs : List α, rows = xs.map toC ∧ ∀ x ∈ xs, F h x := by
    have hlen := hr.len
    clear hr hlen
    induction rows with
    | nil => exact ⟨[], rfl, fun x hx => by simp at hx⟩
    | cons r rows ih =>
      obtain ⟨x, hx, fx⟩ := hE r (he r (by simp))
      obtain ⟨xs, hxs, fxs⟩ := ih fun r hr => he r (List.mem_cons_of_mem _ hr)
      exact ⟨x :: xs, by simp [hx, hxs], fun y hy => by rcases List.mem_cons.1 hy with rfl | hy; exact fx; exact fxs y hy⟩
  obtain ⟨xs, rfl, hF⟩ := this
  have hl' := hr.len
  simp only [List.length_map] at hl'
  refine ⟨s, rfl, xs, ⟨by simpa using hr.len, fun i hi => ?_⟩, hF, hr.cap, by omega⟩
  obtain ⟨a, ha, hc⟩ := hr.cells i (by simpa using hi)
  rw [hsz] at hc
  exact ⟨a, ha, by simpa using hc⟩
def Raw4u (h : Heap) (x : X4) : Prop := Raw4 h x ∧ x.2.2.2.len ≤ 1048576
theorem is_pB {h : Heap} {cs : List Value} (H : shPoly.IsB 1048576 h cs) : ∃ x : X4, cs = C_bool_sl_sl_sl x ∧ Raw4u h x := by
  obtain ⟨l, r, rfl, h1, l2, r2, rfl, h2, rfl⟩ := H
  obtain ⟨x, rfl, hx⟩ := is_qB h1
  obtain ⟨s, rfl, ys, h3, h4, h5, h6⟩ := is_rsB (toC := C4) (F := fun h y => RawB h (co y)) 4 rfl (fun r hr => by
    obtain ⟨l, r, rfl, ⟨n, rfl, _⟩, l2, r2, rfl, h2, rfl⟩ := hr
    obtain ⟨y, rfl, hy⟩ := is_qB h2
    exact ⟨(n, y.1, y.2.1, y.2.2), rfl, hy⟩) h2
  exact ⟨(x.1, x.2.1, x.2.2, s), rfl, ⟨hx, ys, h3, h4, h5⟩, by have := h3.len; show s.len ≤ 1048576; omega⟩
theorem is_lB {h : Heap} {cs : List Value} (H : (Shape.slice shQ).IsB 1048576 h cs) : ∃ s : Sl, cs = [Sl.toV s] ∧ RawL h s := by
  obtain ⟨s, h1, xs, h2, h3, _, h5⟩ := is_rsB (toC := C_bool_sl_sl) (F := RawB) 3 rfl (fun r hr => is_qB hr) H
  exact ⟨s, h1, xs, h2, h3, h5⟩
end Go.Sh

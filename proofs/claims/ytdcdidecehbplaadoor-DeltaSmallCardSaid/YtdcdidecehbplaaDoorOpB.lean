/-
  Rows of pairs of deltas, out of what their shape says.
-/
import Derived.Test.YtdcdidecehbplaaDoorOpA
import Derived.Test.YtdcdidecehbplaaDoorSpH
set_option linter.unusedVariables false
set_option linter.unusedSimpArgs false
namespace Go.Sh
open Go Go.Lift
/-- A row, out of what its shape says, a law of its elements at hand. -/
theorem is_rs {α : Type} {toC : α → List Value} {F : Heap → α → Prop} {e : Shape} {h : Heap} {cs : List Value} (sz : Nat) (hsz : e.size = sz) (hE : ∀ r, e.Is h r → ∃ x, r = toC x ∧ F h x) (H : (Shape.slice e).Is h cs) :
    ∃ s : Sl, cs = [Sl.toV s] ∧ ∃ xs, RS toC sz h s xs ∧ (∀ x ∈ xs, F h x) ∧ s.len ≤ s.cap ∧ s.cap ≤ maxLen := by
  obtain ⟨s, rows, rfl, hr, he⟩ := H
  have : ∃ xs : List α, rows = xs.map toC ∧ ∀ x ∈ xs, F h x := by
    have hlen := hr.len
    clear hr hlen
    induction rows with
    | nil => exact ⟨[], rfl, fun x hx => by simp at hx⟩
    | cons r rows ih =>
      obtain ⟨x, hx, fx⟩ := hE r (he r (by simp))
      obtain ⟨xs, hxs, fxs⟩ := ih fun r hr => he r (List.mem_cons_of_mem _ hr)
      exact ⟨x :: xs, by simp [hx, hxs], fun y hy => by rcases List.mem_cons.1 hy with rfl | hy; exact fx; exact fxs y hy⟩
  obtain ⟨xs, rfl, hF⟩ := this
  refine ⟨s, rfl, xs, ⟨by simpa using hr.len, fun i hi => ?_⟩, hF, hr.cap, hr.max⟩
  obtain ⟨a, ha, hc⟩ := hr.cells i (by simpa using hi)
  rw [hsz] at hc
  exact ⟨a, ha, by simpa using hc⟩
abbrev shP : Shape := .cat shD (.cat shD .nil)
def RawP (h : Heap) (s : Sl) : Prop := ∃ xs : List X12, RR12 h s xs ∧ ∀ x ∈ xs, Raw6 h (p1 x) ∧ Raw6 h (p2 x)
theorem is_p {h : Heap} {cs : List Value} (H : (Shape.slice shP).Is h cs) : ∃ s : Sl, cs = [Sl.toV s] ∧ RawP h s := by
  obtain ⟨s, h1, xs, h2, h3, _⟩ := is_rs (toC := C12) (F := fun h x => Raw6 h (p1 x) ∧ Raw6 h (p2 x)) 12 rfl (fun r hr => by
    obtain ⟨l, r, rfl, h1, l2, r2, rfl, h2, rfl⟩ := hr
    obtain ⟨x, rfl, h3⟩ := is_d h1
    obtain ⟨y, rfl, h4⟩ := is_d h2
    exact ⟨(x.1, x.2.1, x.2.2.1, x.2.2.2.1, x.2.2.2.2.1, x.2.2.2.2.2, y.1, y.2.1, y.2.2.1, y.2.2.2.1, y.2.2.2.2.1, y.2.2.2.2.2), rfl, h3, h4⟩) H
  exact ⟨s, h1, xs, h2, h3⟩
end Go.Sh

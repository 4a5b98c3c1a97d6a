/-
  Laws that the proof of this claim's statement leans on, each proved under the conditions that it states.
-/
import Derived.Test.YtafkahjfbiamlaaSpQ
import Derived.Test.YtafkahjfbiamlaaFwF
import Derived.Test.YtafkahjfbiamlaaSpR
set_option linter.unusedVariables false
set_option linter.unusedSimpArgs false
namespace Go.Sh
open Go Go.Lift Go.Que
/-- A row of numbers that Go's int allows. -/
def RowJ (h : Heap) (s : Sl) : Prop := ∃ xs, RJ h s xs ∧ ∀ x ∈ xs, -9223372036854775808 ≤ x ∧ x ≤ 9223372036854775807
theorem wfI {n : Int} (h : (Lit.int .i64 n).wf = true) : -9223372036854775808 ≤ n ∧ n ≤ 9223372036854775807 := by
  simp only [Lit.wf, Bool.and_eq_true, decide_eq_true_eq] at h
  have e1 : IntKind.min .i64 = -9223372036854775808 := by decide
  have e2 : IntKind.max .i64 = 9223372036854775807 := by decide
  omega
theorem is_i64s {h : Heap} {cs : List Value} (H : (Shape.slice (.int .i64)).Is h cs) : ∃ s : Sl, cs = [Sl.toV s] ∧ RowJ h s := by
  obtain ⟨s, rows, rfl, hr, hall⟩ := H
  have hrow : ∀ i (hi : i < rows.length), ∃ n : Int, rows[i] = [.int .i64 n] ∧ -9223372036854775808 ≤ n ∧ n ≤ 9223372036854775807 := by
    intro i hi
    obtain ⟨n, e, hw⟩ := hall _ (List.getElem_mem hi)
    exact ⟨n, e, wfI hw⟩
  let xs : List Int := rows.map fun r => match r with | [.int _ n] => n | _ => 0
  have hx : ∀ i (hi : i < rows.length), ∃ hj : i < xs.length, rows[i] = [.int .i64 xs[i]] ∧ -9223372036854775808 ≤ xs[i] ∧ xs[i] ≤ 9223372036854775807 := by
    intro i hi
    obtain ⟨n, e, h1, h2⟩ := hrow i hi
    refine ⟨by simpa [xs] using hi, ?_⟩
    have : xs[i]'(by simpa [xs] using hi) = n := by simp [xs, e]
    rw [this]
    exact ⟨e, h1, h2⟩
  have hlen : xs.length = rows.length := by simp [xs]
  refine ⟨s, rfl, xs, ?_, ?_⟩
  · by_cases h0 : rows.length = 0
    · have : xs = [] := List.eq_nil_of_length_eq_zero (by omega)
      rw [this]
      exact R.nil_of (by rw [hr.len, h0]) |> fun r => ⟨by rw [hr.len, h0]; rfl, hr.cap, r.cells⟩
    · obtain ⟨a, ha, _⟩ := hr.cells 0 (by omega)
      refine R.mk' (by rw [hr.len, hlen]) hr.cap a ha fun i hi => ?_
      obtain ⟨a', ha', hc⟩ := hr.cells i (by omega)
      rw [ha] at ha'; cases ha'
      obtain ⟨hj, e, _, _⟩ := hx i (by omega)
      rw [e] at hc
      simp only [Shape.size, Nat.mul_one, cells?] at hc
      split at hc
      · rename_i v r h1 h2
        simp only [Option.some.injEq, List.cons.injEq] at hc
        rw [hc.1, addr_add_add] at h1
        exact h1
      · cases hc
  · intro x hm
    obtain ⟨i, hi, rfl⟩ := List.getElem_of_mem hm
    obtain ⟨hj, _, h1, h2⟩ := hx i (by omega)
    exact ⟨h1, h2⟩
end Go.Sh

namespace Go.Sh
open Go Go.Lift Go.Que
def RowA (h : Heap) (s : Sl) : Prop := ∃ m, RA h s m
theorem is_acts {h : Heap} {cs : List Value} (H : (Shape.slice (.cat (.int .i64) (.cat (.int .i64) (.cat (.int .i64) .nil)))).Is h cs) : ∃ s : Sl, cs = [Sl.toV s] ∧ RowA h s := by
  obtain ⟨s, rows, rfl, hr, hall⟩ := H
  refine ⟨s, rfl, rows.length, hr.len, fun j hj => ?_⟩
  obtain ⟨a, ha, hc⟩ := hr.cells j hj
  obtain ⟨l, r, e, ⟨n1, e1, _⟩, l2, r2, e2, ⟨n2, e3, _⟩, l3, r3, e4, ⟨n3, e5, _⟩, e6⟩ := hall _ (List.getElem_mem hj)
  have : rows[j] = C_i64ui64ui64 (n1, n2, n3) := by
    rw [e, e1, e2, e3, e4, e5, show r3 = [] from e6]; rfl
  rw [this] at hc
  exact ⟨a, _, ha, by simpa [Shape.size] using hc⟩
end Go.Sh

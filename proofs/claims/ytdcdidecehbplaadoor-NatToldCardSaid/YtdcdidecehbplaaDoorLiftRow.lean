/- Laws that the proof of this claim's statement leans on, each proved under the conditions that it states. -/
import Derived.Test.YtdcdidecehbplaaDoorLiftWrap
import Derived.WalkKit
import Derived.ProofKit
import Derived.OpenShut
import Derived.ShutString
import Derived.ChangeOld
import Derived.Below
import GoSem.Claim
set_option linter.unusedVariables false
set_option linter.unusedSimpArgs false
/- From what a row hands in to rows in memory, and from what a lifted function ends in to what a row asks. -/
namespace Go.Lift
open Go Go.RowKit

/-- A slice of integers that came in: it is nil; or it leads to a row of cells, the numbers each fitting their kind. -/
def IsRow (k : IntKind) (w : World) (a : Option Addr) (len cap : Nat) (zs : List Int) : Prop :=
  (a = none ∧ len = 0 ∧ cap = 0 ∧ zs = []) ∨
  ∃ x, a = some x ∧ len ≤ cap ∧ cap ≤ maxLen ∧ zs.length = cap ∧ (∀ i, i < zs.length → w.cell? (x.add i) = some (.int k (zs.getD i 0))) ∧ ∀ n ∈ zs, (Lit.int k n).wf = true

theorem IsRow.r {k : IntKind} {w : World} {a : Option Addr} {len cap : Nat} {zs : List Int} (h : IsRow k w a len cap zs) :
    R (fun n : Int => Value.int k n) w.heap ⟨a, len, cap⟩ (zs.take len) ∧ len = (zs.take len).length ∧ len ≤ maxLen ∧ ∀ n ∈ zs.take len, (Lit.int k n).wf = true := by
  rcases h with ⟨rfl, rfl, rfl, rfl⟩ | ⟨x, rfl, hl, hm, hz, hc, hw⟩
  · exact ⟨R.nil, rfl, Nat.zero_le _, fun n hn => by simp at hn⟩
  · have hlen : len = (zs.take len).length := by simp; omega
    refine ⟨R.mk' hlen hl x rfl (fun i hi => ?_), hlen, Nat.le_trans hl hm, fun n hn => hw n (List.mem_of_mem_take hn)⟩
    have hi' : i < zs.length := by simp at hi; omega
    have := hc i hi'
    rw [cell_w] at this
    rw [this]
    simp [hi']

/-- The same, of kinds without a sign, as a row of plain numbers. -/
theorem IsRow.ri {k : IntKind} {w : World} {a : Option Addr} {len cap : Nat} {zs : List Int} {m : Nat} (h : IsRow k w a len cap zs) (h0 : k.min = 0) (hm : k.max = (m : Int)) :
    ∃ xs : List Nat, RI k w.heap ⟨a, len, cap⟩ xs ∧ Lim (m + 1) xs ∧ len = xs.length ∧ len ≤ maxLen := by
  obtain ⟨hr, hl, hle, hw⟩ := h.r
  have hw2 : ∀ n ∈ zs.take len, 0 ≤ n ∧ n ≤ m := by
    intro n hn
    have := hw n hn
    simp only [Lit.wf, Bool.and_eq_true, decide_eq_true_eq] at this
    rw [h0, hm] at this
    exact this
  refine ⟨(zs.take len).map Int.toNat, ⟨by simpa using hr.len, hr.cap, ?_⟩, ?_, by simpa using hl, hle⟩
  · rw [hr.cells, List.map_map]
    simp only [Option.some.injEq]
    apply List.map_congr_left
    intro n hn
    have := hw2 n hn
    simp only [Function.comp]
    congr 1
    omega
  · intro z hz
    simp only [List.mem_map] at hz
    obtain ⟨n, hn, rfl⟩ := hz
    have := hw2 n hn
    omega

/-- What a row asks of a law, out of what a lifted law ends in. -/
theorem post_below {w w' : World} {e : Ending} (h : Post w Value.bool (fun r h => r = true ∧ Ext w.heap h) e w') : e = .returned (.bool true) ∧ Below w.heap.size w w' := by
  obtain ⟨r, rfl, hs, rfl, he⟩ := h
  exact ⟨rfl, ⟨hs.os, hs.tape, hs.out, he.size, fun k hk => he.same k hk (by simp)⟩⟩

theorem wf_i64 {n : Int} (h : (Lit.int .i64 n).wf = true) : -9223372036854775808 ≤ n ∧ n ≤ 9223372036854775807 := by
  simp only [Lit.wf, Bool.and_eq_true, decide_eq_true_eq] at h
  exact h
theorem wf_u64 {n : Int} (h : (Lit.int .u64 n).wf = true) : 0 ≤ n ∧ n ≤ 18446744073709551615 := by
  simp only [Lit.wf, Bool.and_eq_true, decide_eq_true_eq] at h
  exact h
end Go.Lift

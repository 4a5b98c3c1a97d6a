/- Laws that the proof of this claim's statement leans on, each proved under the conditions that it states. -/
import Derived.Test.YtdcdidecehbplaaDoorLiftRow
import Derived.LaidMore
import Derived.LaidHandle
import Derived.MakeChecks
set_option linter.unusedVariables false
set_option linter.unusedSimpArgs false
/- What a listed variable holds, a table of numbers, as a row in memory. -/
namespace Go.Lift
open Go Go.RowKit

theorem tab_of_laid {P : Program} {W : World} {name : String} {g : Nat} {t e n : Nat} {kd : IntKind} {ns : List Nat} (hg : P.globalNamed name = some g) (ht : (P.globals[g]?).map (·.type) = some t)
    (hu : P.underlying t = some (.array n e)) (hue : P.underlying e = some (.int kd)) (hce : P.cellsOf e = 1) (hlen : ns.length = n)
    (h : laidMet P [(name, .agg (ns.map fun k : Nat => .lit (.int kd (k : Int))))] W) : RI kd W.heap ⟨some ⟨g, 0, none⟩, n, n⟩ ns := by
  obtain ⟨ps, ⟨g0, t0, cs0, f0, p0, q0, hg0, ht0, hv0, hd0, _, _⟩, _, _⟩ := h
  obtain rfl := Option.some.inj (hg.symm.trans hg0)
  obtain rfl := Option.some.inj (ht.symm.trans ht0)
  obtain ⟨xs, m, rfl, hx, hlen2, hn, hel⟩ := DataW.trod_array hu hd0
  simp only [Prod.mk.injEq, DataW.agg.injEq] at hx
  refine R.mk' hlen.symm (Nat.le_refl _) ⟨g, 0, none⟩ rfl (fun i hi => ?_)
  have hin : i < n := by omega
  have h1 := hel i hin
  rw [hce, Nat.mul_one] at h1
  have hxi : i < xs.length := by omega
  rw [List.getElem?_eq_getElem hxi] at h1
  obtain ⟨k, e1, e2, _⟩ := DataW.trod_int hue h1
  have h2 : xs[i].1 = .lit (.int kd ((ns[i] : Nat) : Int)) := by
    have := congrArg (fun l => l[i]?) hx.1
    simp [hxi, hi] at this
    exact this.symm
  rw [e2] at h2
  simp only [DataW.lit.injEq, Lit.int.injEq, true_and] at h2
  subst h2
  have h3 := World.var?_cell hg hv0 i
  rw [addr_add _ _ rfl, ← cell_w]
  simp only [Nat.zero_add]
  rw [h3]
  have h4 := congrArg (fun l => l[0]?) e1
  simp [List.getElem?_take, List.getElem?_drop] at h4
  exact h4
end Go.Lift

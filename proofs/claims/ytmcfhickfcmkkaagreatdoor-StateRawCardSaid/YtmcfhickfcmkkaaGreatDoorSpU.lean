/-
  Laws that the proof of this claim's statement leans on, each proved under the conditions that it states.
-/
import Derived.Test.YtmcfhickfcmkkaaGreatDoorSpP
set_option linter.unusedVariables false
set_option linter.unusedSimpArgs false
namespace Go.Sh
open Go Go.Lift
section
variable {h0 h : Heap} {a : Addr} {lim : Nat} {ov : Bool}
end
end Go.Sh

namespace Go.Sh
open Go Go.Lift
abbrev K0 : Nat → Prop := fun _ => False
structure PQ (h : Heap) (x : X4) (p : Rat × PL) : Prop where
  c : RQ h (cst x) p.1
  m : MK K0 h x.2.2.2 p.2
def RawB (h : Heap) (x : X3) : Prop := ∃ xs ys, XR h x xs ys ∧ xs.length ≤ 1048576 ∧ ys.length ≤ 1048576
theorem RawB.isQ_ext {h h' : Heap} {x : X3} (hx : RawB h x) (e : Ext h h') : isQ h' x ↔ isQ h x := by
  obtain ⟨xs, ys, h1, h2, h3⟩ := hx
  rw [h1.isQ_iff (by omega) (by omega), (h1.ext e).isQ_iff (by omega) (by omega)]
structure Raw4 (h : Heap) (x : X4) : Prop where
  c : RawB h (cst x)
  m : ∃ ys : List Y4, RS C4 4 h x.2.2.2 ys ∧ (∀ y ∈ ys, RawB h (co y)) ∧ x.2.2.2.len ≤ x.2.2.2.cap
structure Rt (p : Rat × PL) : Prop where
  srt : Srt p.2
  nn : ∀ m ∈ p.2, 0 ≤ m.1
  nz : ∀ m ∈ p.2, m.2 ≠ 0
def isP (h : Heap) (x : X4) : Prop := ∃ p, PQ h x p ∧ Rt p
theorem MK.of_all {h : Heap} {s : Sl} {ys : List Y4} {ms : PL} (hr : RS C4 4 h s ys) (hc : s.len ≤ s.cap) (ha : All2 (fun y m => y.1 = m.1 ∧ RQ h (co y) m.2) ys ms) : MK K0 h s ms :=
  ⟨hc, ⟨ys, hr, ha.imp fun y m h => ⟨h.1, RK.of_rq h.2 fun k hk => hk.elim⟩⟩, fun _ k hk => hk.elim⟩
end Go.Sh

namespace Go.Sh
open Go Go.Lift
structure Few4 (p : Rat × PL) : Prop where
  rt : Rt p
  n : p.2.length ≤ 12
  c : szQ p.1 ≤ 6
  m : ∀ m ∈ p.2, szQ m.2 ≤ 6
def SmP (h : Heap) (x : X4) : Prop := ∃ p, PQ h x p ∧ Few4 p
end Go.Sh

namespace Go.Sh
open Go Go.Lift
end Go.Sh

namespace Go.Sh
open Go Go.Lift
end Go.Sh

/-
  Laws that the proof of this claim's statement leans on, each proved under the conditions that it states.
-/
import Derived.Test.YtmcfhickfcmkkaaGreatDoorUC
set_option linter.unusedVariables false
set_option linter.unusedSimpArgs false
namespace Go.Sh
open Go Go.Lift
section
variable {K K' : Nat → Prop} {h h' h0 : Heap} {o : Option Nat}
def PK (K : Nat → Prop) (h : Heap) (y : X4) (p : Rat × PL) : Prop := RK K h (cst y) p.1 ∧ MK K h y.2.2.2 p.2
def DK (K : Nat → Prop) (h : Heap) (y : X6) (v : Rat × Rat) : Prop := RK K h (dA y) v.1 ∧ RK K h (dB y) v.2
def EK (K : Nat → Prop) (h : Heap) (y : E7) (e : Eg) : Prop := y.1 = e.1 ∧ DK K h (eD y) e.2
end
structure Vol where
  a : Addr
  p : Addr
  bv : Nat
  bl : Nat
  bu : Nat
def Vol.K (V : Vol) (k : Nat) : Prop := k = V.a.block ∨ k = V.p.block ∨ k = V.bv ∨ k = V.bl ∨ k = V.bu
structure TM (h0 : Heap) (V : Vol) (lim : Nat) (ov : Bool) (h : Heap) (x : S5) (t : TT) : Prop where
  bo : BO h0 V.a lim ov h
  old : ∀ k, V.K k → h0.size ≤ k
  lt : ∀ k, V.K k → k < h.size
  ap : V.a.block ≠ V.p.block
  av : V.a.block ≠ V.bv
  al : V.a.block ≠ V.bl
  au : V.a.block ≠ V.bu
  pv : V.p.block ≠ V.bv
  pl : V.p.block ≠ V.bl
  pu : V.p.block ≠ V.bu
  vl : V.bv ≠ V.bl
  vu : V.bv ≠ V.bu
  lu : V.bl ≠ V.bu
  spot : V.p.spot = none
  root : ∀ k (hk : k < 5), cell? h (V.p.add k) = some ((CT x)[k]'hk) ∧ frozen? h (V.p.add k) = false
  bas : RJ h x.1 t.bs
  basn : ∀ b, x.1.blk = some b → ¬ V.K b
  rcap : x.2.1.len ≤ x.2.1.cap
  rows : ∃ ys, RS CP 4 h x.2.1 ys ∧ All2 (PK V.K h) ys t.ps
  rown : ∀ b, x.2.1.blk = some b → ¬ V.K b
  valb : x.2.2.1.blk = some V.bv
  vals : ∃ ys, OwnS C6 6 h0.size h x.2.2.1 ys ∧ All2 (DK V.K h) ys t.vs
  lob : x.2.2.2.1.blk = some V.bl
  lo : ∃ ys, OwnS C7 7 h0.size h x.2.2.2.1 ys ∧ All2 (EK V.K h) ys t.lo
  upb : x.2.2.2.2.blk = some V.bu
  up : ∃ ys, OwnS C7 7 h0.size h x.2.2.2.2 ys ∧ All2 (EK V.K h) ys t.up
section
variable {h0 h h' : Heap} {V : Vol} {lim : Nat} {ov ov' : Bool} {x : S5} {t : TT} {o : Option Nat}
end
end Go.Sh

namespace Go.Sh
open Go Go.Lift
inductive KK (K : Nat → Prop) (h : Heap) : Heap → Prop
  | refl : KK K h h
  | step {h1 h2 : Heap} {o : Option Nat} : KK K h h1 → Keep o h1 h2 → (∀ k, o = some k → K k ∨ h.size ≤ k) → KK K h h2
section
variable {K K' : Nat → Prop} {h h1 h' : Heap}
end
end Go.Sh

namespace Go.Sh
open Go Go.Lift
structure Cs (h : Heap) (p : Addr) (cs : List Value) : Prop where
  spot : p.spot = none
  cell : ∀ k (hk : k < cs.length), cell? h (p.add k) = some cs[k] ∧ frozen? h (p.add k) = false
theorem Cs.set {h : Heap} {p : Addr} {cs : List Value} (q : Cs h p cs) (j : Nat) (v : Value) (hj : j < cs.length) : Cs (aS h (p.add j) v) p (cs.set j v) := by
  refine ⟨q.spot, fun k hk => ?_⟩
  have hk' : k < cs.length := by simpa using hk
  obtain ⟨h1, h2⟩ := q.cell k hk'
  refine ⟨?_, by rw [fv]; exact h2⟩
  by_cases hkj : j = k
  · subst hkj
    rw [bK h1, List.getElem_set_self]
  · rw [iI (.inr (.inl (by rw [cu _ _ q.spot, cu _ _ q.spot]; simpa using hkj))), h1, List.getElem_set_ne hkj]
theorem Cs.st {h : Heap} {p : Addr} {cs : List Value} (q : Cs h p cs) {j : Nat} {v : Value} {k : Heap → Prop} (hj : j < cs.length)
    (K : ∀ h', Cs h' p (cs.set j v) → Keep (some p.block) h h' → h'.size = h.size → k h') : Lift.amL (p.add j) v h k := by
  obtain ⟨h1, h2⟩ := q.cell j hj
  refine ⟨⟨_, h1⟩, h2, K _ (q.set j v hj) ?_ (by simp [aS])⟩
  have := Keep.setCell h (p.add j) v
  rwa [aj] at this
theorem tF {cs : List Value} {h : Heap} {k : Addr → Heap → Prop} (K : ∀ a h', Cs h' a cs → a.block = h.size → Ext h h' → h'.size = h.size + 1 → k a h') : new cs h k := by
  intro T
  refine K _ _ ⟨rfl, fun j hj => ?_⟩ rfl (Ext.push _ _) (by simp)
  rw [cu _ _ rfl]
  refine ⟨?_, jF (T := T) (c := cs.toArray) (by simp)⟩
  simp [cell?, hj]
section
variable {h0 h h' : Heap} {V : Vol} {lim : Nat} {ov ov' : Bool} {x : S5} {t : TT} {K : Nat → Prop}
end
end Go.Sh

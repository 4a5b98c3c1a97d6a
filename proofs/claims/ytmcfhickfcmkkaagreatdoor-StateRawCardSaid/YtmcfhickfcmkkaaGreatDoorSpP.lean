/-
  Laws that the proof of this claim's statement leans on, each proved under the conditions that it states.
-/
import Derived.Test.YtmcfhickfcmkkaaGreatDoorSpE
set_option linter.unusedVariables false
set_option linter.unusedSimpArgs false
namespace Go.Sh
open Go Go.Lift
structure RK (K : Nat → Prop) (h : Heap) (x : X3) (q : Rat) : Prop where
  rq : RQ h x q
  num : ∀ k, K k → x.2.1.blk = some k → q.num.natAbs = 0
  den : ∀ k, K k → x.2.2.blk = some k → dn q = 0
section
variable {K K' : Nat → Prop} {h h' h0 : Heap} {x : X3} {q : Rat}
theorem RK.rf (hx : RK K h x q) {k : Nat} (hk : K k) : RF k h x q := ⟨⟨hx.rq.num, hx.num k hk⟩, ⟨hx.rq.den, hx.den k hk⟩, hx.rq.neg⟩
theorem RK.keep (hx : RK K h x q) {o : Option Nat} (e : Keep o h h') (ho : ∀ k, o = some k → K k) : RK K h' x q := by
  cases o with
  | none => exact ⟨hx.rq.ext e, hx.num, hx.den⟩
  | some k => exact ⟨((hx.rf (ho k rfl)).keep e).rq, hx.num, hx.den⟩
theorem RK.raise (hx : RK K h x q) (hk : ∀ k, K' k → K k ∨ h.size ≤ k) : RK K' h x q := by
  refine ⟨hx.rq, fun k h1 h2 => ?_, fun k h1 h2 => ?_⟩
  · rcases hk k h1 with h3 | h3
    · exact hx.num k h3 h2
    · exact Classical.byContradiction fun hn => by have := hx.rq.num.lt_blk h2 hn; omega
  · rcases hk k h1 with h3 | h3
    · exact hx.den k h3 h2
    · exact Classical.byContradiction fun hn => by have := hx.rq.den.lt_blk h2 hn; omega
theorem RK.of_rq (hx : RQ h x q) (hk : ∀ k, K k → h.size ≤ k) : RK K h x q :=
  RK.raise (K := fun _ => False) ⟨hx, fun _ h => h.elim, fun _ h => h.elim⟩ (fun k h => .inr (hk k h))
end
abbrev X4 := Bool × Sl × Sl × Sl
abbrev Y4 := Int × Bool × Sl × Sl
abbrev C4 := bd
abbrev cst (x : X4) : X3 := (x.1, x.2.1, x.2.2.1)
abbrev co (y : Y4) : X3 := (y.2.1, y.2.2.1, y.2.2.2)
abbrev PL := List (Int × Rat)
inductive All2 {α β : Type} (R : α → β → Prop) : List α → List β → Prop
  | nil : All2 R [] []
  | cons {a b l m} : R a b → All2 R l m → All2 R (a :: l) (b :: m)
section
variable {α β : Type} {R S : α → β → Prop} {l l' : List α} {m m' : List β}
theorem All2.length (h : All2 R l m) : l.length = m.length := by induction h <;> simp_all
theorem All2.append (h : All2 R l m) (h' : All2 R l' m') : All2 R (l ++ l') (m ++ m') := by
  induction h with
  | nil => exact h'
  | cons h1 _ ih => exact .cons h1 ih
theorem All2.imp (h : All2 R l m) (hi : ∀ a b, R a b → S a b) : All2 S l m := by
  induction h with
  | nil => exact .nil
  | cons h1 _ ih => exact .cons (hi _ _ h1) ih
theorem All2.get (h : All2 R l m) : ∀ (i : Nat) (h1 : i < l.length) (h2 : i < m.length), R l[i] m[i] := by
  induction h with
  | nil => intro i h1; simp at h1
  | cons h1 _ ih =>
    intro i h2 h3
    cases i with
    | zero => exact h1
    | succ i => exact ih i (by simpa using h2) (by simpa using h3)
end
structure MK (K : Nat → Prop) (h : Heap) (s : Sl) (ms : PL) : Prop where
  cap : s.len ≤ s.cap
  row : ∃ ys : List Y4, RS C4 4 h s ys ∧ All2 (fun y m => y.1 = m.1 ∧ RK K h (co y) m.2) ys ms
  off : ms ≠ [] → ∀ k, K k → s.blk ≠ some k
section
variable {K K' : Nat → Prop} {h h' h0 : Heap} {s : Sl} {ms : PL}
theorem MK.len (hm : MK K h s ms) : s.len = ms.length := by obtain ⟨ys, h1, h2⟩ := hm.row; rw [h1.len, h2.length]
theorem gW {h h' : Heap} {o : Option Nat} (e : Keep o h h') {a : Addr} (hne : some a.block ≠ o) : ∀ {n i : Nat} {l : List Value}, cells? h a n i = some l → cells? h' a n i = some l := by
  intro n
  induction n with
  | zero => intro i l h1; exact h1
  | succ n ih =>
    intro i l h1
    simp only [cells?] at h1 ⊢
    split at h1 <;> simp at h1
    rename_i v r h2 h3
    subst h1
    have hb : (a.add i).block = a.block := aj a i
    rw [ao e h2 (by rw [hb]; exact hne), ih h3]
theorem RS.keep {α : Type} {toC : α → List Value} {sz : Nat} {h h' : Heap} {s : Sl} {xs : List α} {o : Option Nat} (hr : RS toC sz h s xs) (e : Keep o h h') (hne : xs ≠ [] → ∀ a, s.a = some a → some a.block ≠ o) : RS toC sz h' s xs :=
  ⟨hr.len, fun i hi => by
    obtain ⟨a, ha, hc⟩ := hr.cells i hi
    have hb : (a.add (i * sz)).block = a.block := aj _ _
    exact ⟨a, ha, gW e (by rw [hb]; exact hne (by rintro rfl; simp at hi) a ha) hc⟩⟩
theorem MK.keep (hm : MK K h s ms) {o : Option Nat} (e : Keep o h h') (ho : ∀ k, o = some k → K k) : MK K h' s ms := by
  obtain ⟨ys, h1, h2⟩ := hm.row
  refine ⟨hm.cap, ⟨ys, h1.keep e fun hne a ha hh => ?_, h2.imp fun y m h3 => ⟨h3.1, h3.2.keep e ho⟩⟩, hm.off⟩
  have hms : ms ≠ [] := by rintro rfl; have := h2.length; simp at this; exact hne this
  exact hm.off hms _ (ho _ hh.symm) (by simp [Sl.blk, ha])
theorem MK.ext (hm : MK K h s ms) (e : Ext h h') : MK K h' s ms := hm.keep e (by simp)
theorem ams {a : Addr} {y : Y4} (hc : cells? h a 4 0 = some (C4 y)) : cell? h (a.add 0) = some (Value.int .i64 y.1) := by
  have := cells?_get _ _ _ hc 0 (by simp [C4, bd])
  simpa [C4, bd] using this
theorem al1 {a : Addr} {y : Y4} (hc : cells? h a 4 0 = some (C4 y)) : cells? h (a.add 1) 3 0 = some (dM (co y)) := by
  have h2 := cells?_length _ _ _ hc
  have h3 := cells?_mk (h := h) (a := a.add 1) (dM (co y)) 0 fun j hj => ?_
  · exact h3
  have hj' : j < 3 := hj
  have h4 := cells?_get _ _ _ hc (j + 1) (by simp [C4, bd]; omega)
  rw [b7, show 1 + (0 + j) = 0 + (j + 1) by omega, h4]
  simp [C4, bd, dM]
structure OM (K : Nat → Prop) (B : Nat) (h : Heap) (s : Sl) (ms : PL) : Prop where
  low : ∀ k, K k → k < B
  row : ∃ ys : List Y4, OwnS C4 4 B h s ys ∧ All2 (fun y m => y.1 = m.1 ∧ RK (fun k => K k ∨ s.blk = some k) h (co y) m.2) ys ms
end
end Go.Sh

namespace Go.Sh
open Go Go.Lift
def nzc (m : Int × Rat) (l : PL) : PL := if m.2 = 0 then l else m :: l
def mrg : PL → PL → PL
  | [], [] => []
  | a :: as, [] => nzc a (mrg as [])
  | [], b :: bs => nzc b (mrg [] bs)
  | a :: as, b :: bs => if a.1 < b.1 then nzc a (mrg as (b :: bs)) else if b.1 < a.1 then nzc b (mrg (a :: as) bs) else nzc (a.1, a.2 + b.2) (mrg as bs)
termination_by l r => l.length + r.length
def scL (k : Rat) (ms : PL) : PL := ms.map fun m => (m.1, k * m.2)
def Srt (ms : PL) : Prop := ms.Pairwise fun a b => a.1 < b.1
end Go.Sh

namespace Go.Sh
open Go Go.Lift
structure BO (h0 : Heap) (a : Addr) (lim : Nat) (ov : Bool) (h : Heap) : Prop where
  tab : Tab h0
  bench : Bench h a lim ov
  ext : Ext h0 h
  old : h0.size ≤ a.block
section
variable {h0 h h' : Heap} {a : Addr} {lim : Nat} {ov ov' : Bool}
theorem BO.keep (hv : BO h0 a lim ov h) (hb : Bench h' a lim ov') (k : Keep (some a.block) h h') : BO h0 a lim ov' h' := ⟨hv.tab, hb, hv.ext.fresh hv.old k, hv.old⟩
theorem BO.of_ext (hv : BO h0 a lim ov h) (k : Ext h h') : BO h0 a lim ov h' := ⟨hv.tab, hv.bench.ext k, hv.ext.trans k, hv.old⟩
theorem BO.tb (hv : BO h0 a lim ov h) : TB a.block h := hv.tab.tb hv.ext hv.old
end
def scP (c : Rat) (p : Rat × PL) : Rat × PL := if c = 0 then (0, []) else (c * p.1, scL c p.2)
def addP (p : Rat × PL) (c : Rat) (q : Rat × PL) : Rat × PL := (p.1 + (scP c q).1, mrg p.2 (scP c q).2)
theorem alw : szQ (0 : Rat) = 0 := by
  have : szQ ((0 : Int) : Rat) = 0 := by unfold szQ; rw [ah5, m9, nF]; simp [nF]
  simpa using this
section
variable {K : Nat → Prop} {h h' : Heap} {s s' : Sl}
end
section
variable {h0 h : Heap} {a : Addr} {lim : Nat} {ov : Bool}
end
end Go.Sh

/-
  Laws that the proof of this claim's statement leans on, each proved under the conditions that it states.
-/
import Derived.Test.YtmcfhickfcmkkaaGreatDoorNA
set_option linter.unusedVariables false
set_option linter.unusedSimpArgs false
namespace Go.Sh.Cl
open Go Go.Lift Go.Cla
variable {h h' h1 h2 : Heap} {p : Addr} {x x1 x2 : Nm → Sl} {vs : Nm → List Value} {S S0 : SS} {n : Nat}
theorem R.drop {α : Type} {toV : α → Value} {h : Heap} {s : Sl} {xs : List α} (hr : R toV h s xs) {i : Int} {j : Nat} {k : Sl → Prop} (hij : i = (j : Int)) (hj : j ≤ xs.length) (K : ∀ s', R toV h s' (xs.drop j) → s'.blk = s.blk → k s') : ki s (some i) none none 1 k := by
  subst hij
  have hl := hr.len
  have hcap := hr.cap
  refine ⟨⟨by simp, by simp⟩, ⟨by simp, .inl rfl⟩, ⟨by simp, by simp; omega⟩, ?_⟩
  simp only [Option.getD_none, Option.getD_some, Int.toNat_natCast, Nat.mul_one]
  by_cases hcj : (s.cap : Int) = (j : Int)
  · rw [if_pos hcj]
    have hx : xs.drop j = [] := List.drop_eq_nil_of_le (by omega)
    refine K _ ?_ rfl
    rw [hx]
    exact R.nil_of (by dsimp only; omega) |> fun r => ⟨r.len, by dsimp only; omega, r.cells⟩
  · rw [if_neg hcj]
    cases ha : s.a with
    | none =>
      have hx : xs = [] := by
        have := hr.cells; rw [ha] at this
        simp only [cellsO?, Option.some.injEq] at this
        cases xs with
        | nil => rfl
        | cons x xs => simp at this
      subst hx
      refine K _ ?_ (by simp [Sl.blk, ha])
      have hj0 : j = 0 := by simpa using hj
      subst hj0
      simp only [List.length_nil] at hl
      exact ⟨by simpa using hl, by dsimp only; omega, by simp [cellsO?]⟩
    | some a =>
      refine K _ (R.mk' (by simp; omega) (by dsimp only; omega) (a.add j) rfl (fun i hi => ?_)) (by simp [Sl.blk, ha, aj])
      simp only [List.length_drop] at hi
      obtain ⟨a', ha', hc⟩ := hr.get (i := j + i) (by omega)
      rw [ha] at ha'; cases ha'
      rw [b7, hc, List.getElem_drop]
end Go.Sh.Cl

namespace Go.Sh.Cl
open Go Go.Lift Go.Cla
variable {h h' : Heap} {p : Addr} {x : Nm → Sl} {vs : Nm → List Value} {S S0 : SS} {n : Nat}
def alF : Nat → Nat → Prop := fun _ _ => False
structure Ask (n : Nat) (S : SS) : Prop where
  t : Tok n S
  w : Wok n S S.wt
  p : Proc S S.nxt alF
  hd : ∀ hd ∈ S.hea, hd ≤ (S.nxt : Int)
structure Bad (n : Nat) (S : SS) (j : Nat) : Prop where
  t : Tok n S
  w : Wok n S S.wt
  p : Proc S (S.nxt - 1) alF
  pos : 0 < S.nxt
  hd : ∀ hd ∈ S.hea, hd ≤ ((S.nxt - 1 : Nat) : Int)
  f : aml S.val (S.cl j).lits
end Go.Sh.Cl

namespace Go.Sh.Cl
open Go Go.Lift Go.Cla
variable {h h' h1 h2 : Heap} {p p' : Addr} {x x' x1 x2 : Nm → Sl} {vs vs' : Nm → List Value} {S S0 T : SS} {n : Nat}
structure Sep (p : Addr) (x : Nm → Sl) (p' : Addr) (x' : Nm → Sl) : Prop where
  pp : p.block ≠ p'.block
  xp : ∀ i, (x i).blk ≠ some p'.block
  px : ∀ i, (x' i).blk ≠ some p.block
  xx : ∀ i j b, (x i).blk = some b → (x' j).blk ≠ some b
end Go.Sh.Cl

namespace Go.Sh.Cl
open Go Go.Lift Go.Cla
variable {S T S' T' : SS} {n : Nat}
structure Sim (n : Nat) (c c' : List Int) : Prop where
  len : c'.length = c.length
  mem : ∀ y, y ∈ c ↔ y ∈ c'
  fit : FitsL n c ↔ FitsL n c'
end Go.Sh.Cl

namespace Go.Sh.Cl
open Go Go.Lift Go.Cla
variable {h h' g0 h0 h1 h2 : Heap} {p p' : Addr} {x x' x1 x2 : Nm → Sl} {vs vs' : Nm → List Value} {S S0 T : SS} {n N : Nat}
structure Pool (h0 h : Heap) (w : Option Sl) (n : Nat) (l : List Sl) : Prop where
  ext : Ext h0 h
  wo : ∀ s, w = some s → Own Sl.toV h0.size h s (List.replicate (2 * n) Sl.nil)
  io : ∀ s ∈ l, Own toI h0.size h s (List.replicate n 0)
  wd : ∀ s, w = some s → ∀ t ∈ l, ∀ b, s.blk = some b → t.blk ≠ some b
  dis : l.Pairwise (fun s t => ∀ b, s.blk = some b → t.blk ≠ some b)
theorem Pool.go {w : Option Sl} {l : List Sl} (q : Pool h0 h w n l) (e : Ext h h') : Pool h0 h' w n l := ⟨q.ext.trans e, fun s hs => (q.wo s hs).ext e, fun s hs => (q.io s hs).ext e, q.wd, q.dis⟩
theorem pm {w : Option Sl} {l : List Sl} {k : Heap → Prop} (K : ∀ h', Pool h0 h' w n l → k h') (q : Pool h0 h w n l) : mem h k := ak fun h' e => K h' (q.go e)
def NewJ (h0 : Heap) (n : Nat) (t : S8) (h : Heap) : Prop := ∃ w v l r, t = (Sl.nil, w, v, l, r, Sl.nil, Sl.nil, 0) ∧ Pool h0 h (some w) n [v, l, r]
end Go.Sh.Cl

namespace Go.Sh.Cl
open Go Go.Lift Go.Cla
variable {h h' g0 h0 h1 h2 : Heap} {p p' : Addr} {x x' x1 x2 : Nm → Sl} {vs vs' : Nm → List Value} {S S0 T : SS} {n N : Nat}
end Go.Sh.Cl

namespace Go.Sh.Cl
open Go Go.Lift Go.Cla
variable {h h' h0 h1 h2 : Heap} {p p' : Addr} {x x' x1 x2 : Nm → Sl} {vs vs' vs1 : Nm → List Value} {S S0 T S1 : SS} {n N m : Nat}
structure RR (h : Heap) (s : Sl) (ss : List Sl) (xss : List (List Int)) : Prop where
  r : R Sl.toV h s ss
  len : ss.length = xss.length
  i : ∀ i (h1 : i < ss.length) (h2 : i < xss.length), RJ h ss[i] xss[i]
theorem RR.ext {s : Sl} {ss : List Sl} {xss : List (List Int)} (q : RR h s ss xss) (e : Ext h h') : RR h' s ss xss := ⟨R.ext q.r e, q.len, fun i h1 h2 => R.ext (q.i i h1 h2) e⟩
structure Two (h0 h : Heap) (p p' : Addr) (x x' : Nm → Sl) (vs vs' : Nm → List Value) (S T : SS) : Prop where
  q1 : SM h p x vs S
  q2 : SM h p' x' vs' T
  sep : Sep p x p' x'
  ext : Ext h0 h
  p1 : h0.size ≤ p.block
  p2 : h0.size ≤ p'.block
  f1 : ∀ i b, (x i).blk = some b → h0.size ≤ b
  f2 : ∀ i b, (x' i).blk = some b → h0.size ≤ b
end Go.Sh.Cl

namespace Go.Sh.Cl
open Go Go.Lift Go.Cla
variable {h h' h0 h1 h2 : Heap} {p p' : Addr} {x x' x1 x2 : Nm → Sl} {vs vs' vs1 : Nm → List Value} {S S0 T S1 : SS} {n N m : Nat}
structure Oth (h0 h : Heap) (s : Sl) (os : List Sl) (xss yss : List (List Int)) (N K i : Nat) : Prop where
  own : Own Sl.toV h0.size h s os
  len : os.length = i
  ylen : yss.length = i
  rows : ∀ j (h1 : j < os.length) (h2 : j < yss.length), Own toI h0.size h os[j] yss[j] ∧ (∀ b, (os[j]).blk = some b → s.blk ≠ some b)
  sim : ∀ j (h2 : j < yss.length) (h3 : (j + K) % xss.length < xss.length), Sim N (xss[(j + K) % xss.length]) (yss[j])
end Go.Sh.Cl

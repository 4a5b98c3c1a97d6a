/-
  Laws that the proof of this claim's statement leans on, each proved under the conditions that it states.
-/
import Derived.Test.YtmcfhickfcmkkaaGreatDoorUF
set_option linter.unusedVariables false
set_option linter.unusedSimpArgs false
namespace Go.Sh
open Go Go.Lift
abbrev A9 := Int × Int × Int × X6
abbrev C9 := aN
abbrev S7 := Int × Int × Sl × Sl × Sl × Sl × Sl
structure AT where
  v : Int
  u : Int
  r : Int
  b : Rat × Rat
def AQ (h : Heap) (y : A9) (a : AT) : Prop := y.1 = a.v ∧ y.2.1 = a.u ∧ y.2.2.1 = a.r ∧ DQ h y.2.2.2 a.b
def leD (v : Rat) (b : Rat × Rat) : Prop := v < b.1 ∨ (v = b.1 ∧ 0 ≤ b.2)
structure PB where
  n : Int
  m : Int
  ps : List (Rat × PL)
  as : List AT
def amk (l : Int) : Int := if l < 0 then -l - 1 else l - 1
def rowB (t : PB) (a : AT) : Rat × PL := if 0 ≤ a.r then t.ps.getD a.r.toNat (0, []) else (0, [(a.u, 1)])
def bndB (t : PB) (a : AT) (lit : Int) : (Rat × PL) × (Rat × Rat) := if lit > 0 then (rowB t a, a.b) else (scP (-1) (rowB t a), scD (-1) (addD a.b (0, 1)))
abbrev FS := (Rat × PL) × (Rat × Rat)
def amY (s : FS) (k : Rat) (d : FS) : FS := (addP s.1 k d.1, addD s.2 (scD k d.2))
inductive Der (t : PB) : List Int → FS → Prop
  | nil : Der t [] ((0, []), (0, 0))
  | step {ls : List Int} {s : FS} {l : Int} {a : AT} {k : Rat} : Der t ls s → l ≠ 0 → a ∈ t.as → a.v = amk l → 0 ≤ k → Der t (ls ++ [l]) (amY s k (bndB t a l))
structure FactB (t : PB) : Prop where
  c : ∀ p ∈ t.ps, p.1 = 0
  r : ∀ a ∈ t.as, a.r < t.ps.length
  e : ∀ a ∈ t.as, a.b.2 = 0 ∨ a.b.2 = -1
end Go.Sh

namespace Go.Sh
open Go Go.Lift
section
variable {h0 h : Heap} {a : Addr} {lim : Nat}
end
end Go.Sh

namespace Go.Sh
open Go Go.Lift
def MPg {α : Type} (toV : α → Value) (h : Heap) (mp : Nat) (g : Int → Option α) : Prop := ∃ f : List (Int × α), ajy .i64 h (some mp) (vals toV f) ∧ ∀ k, f.lookup k = g k
section
variable {α : Type} {toV : α → Value} {mp : Nat} {g : Int → Option α} {h h' : Heap}
theorem MPg.keep {o : Option Nat} (p : MPg toV h mp g) (k : Keep o h h') (hne : some mp ≠ o) : MPg toV h' mp g := by
  obtain ⟨f, ⟨es, c, h1, h2⟩, h3⟩ := p
  exact ⟨f, ⟨es, c, by rw [k.same mp (Array.getElem?_eq_some_iff.1 h1).1 hne]; exact h1, h2⟩, h3⟩
theorem MPg.lt (p : MPg toV h mp g) : mp < h.size := by
  obtain ⟨f, ⟨es, c, h1, h2⟩, h3⟩ := p
  exact (Array.getElem?_eq_some_iff.1 h1).1
theorem MPg.look (p : MPg toV h mp g) {key : Int} {zero : α} {k : α × Bool → Prop} (K : k ((g key).getD zero, (g key).isSome)) : adn .i64 toV zero (some mp) key h k := by
  obtain ⟨f, h1, h2⟩ := p
  refine ⟨f, _, h1, rfl, ?_⟩
  rw [h2 key]
  cases hg : g key with
  | none => rw [hg] at K; exact K
  | some v => rw [hg] at K; exact K
theorem MPg.set (p : MPg toV h mp g) {key : Int} {v : α} {k : Heap → Prop} (K : ∀ h', MPg toV h' mp (fun j => if j = key then some v else g j) → Keep (some mp) h h' → h'.size = h.size → k h') : setM .i64 toV (some mp) key v h k := by
  have hlt := p.lt
  obtain ⟨f, h1, h2⟩ := p
  refine ⟨mp, f, rfl, h1, fun es c he => K _ ⟨updM f key v, ⟨es, c, by simp [hlt], he⟩, fun j => ?_⟩ ⟨by simp, fun b hb hne => by rw [Array.getElem?_setIfInBounds_ne (fun e => hne (by rw [e]))]⟩ (by simp)⟩
  rw [yX, h2]
  by_cases e : j = key
  · subst e; simp
  · have : (j == key) = false := by simpa using e
    rw [this]; simp [e]
theorem MPg.new {k : Option Nat → Heap → Prop} (K : ∀ h', MPg toV h' h.size (fun _ => none) → Ext h h' → h'.size = h.size + 1 → k (some h.size) h') : newM h k :=
  K _ ⟨[], ⟨#[], 0, by simp, Ents.nil⟩, fun _ => rfl⟩ (Ext.push _ _) (by simp)
end
theorem amU {body : Int → Heap → (Bool → Heap → Prop) → Prop} {n : Nat} {len : Int} {I : Nat → Heap → Prop} {F : Nat → Heap → Prop} {Q : Int → Heap → Prop} {h : Heap} (hlen : len = (n : Int)) (hn : n ≤ 1048576) (h0 : I 0 h)
    (hf : ∀ i h', i < n → I i h' → ∀ R : Bool → Heap → Prop, (∀ h2, F i h2 → R true h2) → (∀ h2, I (i + 1) h2 → R false h2) → body (i : Int) h' R)
    (Kt : ∀ (i : Nat) h', i < n → F i h' → Q (i : Int) h') (Kf : ∀ h', I n h' → Q (-1) h') :
    loop (fun (s0 : Int) h0 (K0 : Int → Heap → Prop) => iteB (decide (s0 < len)) (body s0 h0 fun v h1 => iteB v (Q s0 h1) (K0 (IntKind.wrap .i64 (s0 + 1)) h1)) (Q (-1) h0)) 0 h := by
  subst hlen
  refine loop.inv (fun (s : Int) h' => ∃ i : Nat, s = (i : Int) ∧ i ≤ n ∧ I i h') (fun s _ => n - s.toNat) ⟨0, rfl, by omega, h0⟩ ?_
  rintro _ h1 ⟨i, rfl, hi, hI⟩
  refine ⟨fun hlt => ?_, fun hge => ?_⟩
  · simp only [decide_eq_true_eq] at hlt
    have hlt : i < n := by omega
    refine hf i h1 hlt hI _ (fun h2 hF => ⟨fun _ => Kt i h2 hlt hF, nofun⟩) (fun h2 hI2 => ⟨nofun, fun _ => ⟨⟨i + 1, w64 (by omega) (by omega), by omega, hI2⟩, by rw [w64 (by omega) (by omega)]; omega⟩⟩)
  · simp only [decide_eq_false_iff_not] at hge
    have : i = n := by omega
    subst this
    exact Kf h1 hI
abbrev P7 (p : S7) : List Value := aG p
def ClsQ (h : Heap) (s : Sl) (ss : List Sl) : Prop := R Sl.toV h s ss ∧ ss.length ≤ 1048576 ∧ ∀ c ∈ ss, ∃ xs, RJ h c xs ∧ xs.length ≤ 1048576
structure PBQ (h : Heap) (p : S7) (t : PB) (ss : List Sl) : Prop where
  n : p.1 = t.n
  m : p.2.1 = t.m
  rows : RowQ CP 4 PQ h p.2.2.1 t.ps
  ats : RowQ C9 9 AQ h p.2.2.2.1 t.as
  cls : ClsQ h p.2.2.2.2.1 ss
theorem ml {h : Heap} {a : Addr} {p : S7} (hc : cells? h a 7 0 = some (P7 p)) (k : Nat) (hk : k < 7) : cell? h (a.add k) = some ((P7 p)[k]'hk) := by
  have := cells?_get _ _ _ hc k hk
  simpa using this
section
variable {h : Heap} {p : S7} {t : PB} {ss : List Sl}
end
end Go.Sh

namespace Go.Sh
open Go Go.Lift
section
variable {h0 h : Heap} {p : S7} {t : PB} {y : A9} {a : AT} {c0 c1 : Addr} {mp : Nat} {g : Int → Option Bool}
end
end Go.Sh

namespace Go.Sh
open Go Go.Lift
section
variable {h0 h : Heap} {p : S7} {t : PB} {ss : List Sl} {c0 c1 cf : Addr} {mp : Nat}
structure Ready (h hz : Heap) (p : S7) (vr va : FnV) (mp : Nat) (row atom : Addr) : Prop where
  ext : Ext h hz
  r0 : ∃ u, cell? hz row = some u
  a0 : ∃ u, cell? hz atom = some u
  rf : frozen? hz row = false
  af : frozen? hz atom = false
  ra : row.block ≠ atom.block
  rn : h.size ≤ row.block
  an : h.size ≤ atom.block
  w : ∃ pr pa seen : Addr, vr = FnV.mk 137 [] [Value.pointer (some pr)] ∧ va = FnV.mk 138 [] [Value.pointer (some pa), Value.pointer (some seen)] ∧ cells? hz pr 7 0 = some (P7 p) ∧ cells? hz pa 7 0 = some (P7 p) ∧ cell? hz seen = some (Value.map (some mp)) ∧
    pr.block ≠ row.block ∧ pr.block ≠ atom.block ∧ pa.block ≠ row.block ∧ pa.block ≠ atom.block ∧ seen.block ≠ row.block ∧ seen.block ≠ atom.block ∧ pa.block ≠ mp ∧ seen.block ≠ mp
  m : MPg Value.bool hz mp fun _ => none
  mr : row.block ≠ mp
  ma : atom.block ≠ mp
  mn : h.size ≤ mp
structure Done (h hz : Heap) (p : S7) (mp : Nat) (row atom : Addr) : Prop where
  ext : Ext h hz
  w : ∃ pr pa seen : Addr, cell? hz row = some (FnV.toV (FnV.mk 137 [] [Value.pointer (some pr)])) ∧ cell? hz atom = some (FnV.toV (FnV.mk 138 [] [Value.pointer (some pa), Value.pointer (some seen)])) ∧ cells? hz pr 7 0 = some (P7 p) ∧ cells? hz pa 7 0 = some (P7 p) ∧ cell? hz seen = some (Value.map (some mp)) ∧ pa.block ≠ mp ∧ seen.block ≠ mp
  m : MPg Value.bool hz mp fun _ => none
  ma : atom.block ≠ mp
  mn : h.size ≤ mp
theorem Ready.go {hz : Heap} {vr va : FnV} {row atom : Addr} {k : Heap → Prop} (q : Ready h hz p vr va mp row atom) (K : ∀ h', Done h h' p mp row atom → k h') :
    Lift.amL row (FnV.toV vr) hz fun h' => Lift.amL atom (FnV.toV va) h' k := by
  obtain ⟨u, hu⟩ := q.r0
  obtain ⟨w, hw⟩ := q.a0
  obtain ⟨pr, pa, seen, rfl, rfl, c1, c2, c3, d1, d2, d3, d4, d5, d6, d7, d8⟩ := q.w
  refine ⟨⟨u, hu⟩, q.rf, ?_⟩
  have k1 := Keep.setCell hz row (FnV.toV (FnV.mk 137 [] [Value.pointer (some pr)]))
  have g1 := bK (v := FnV.toV (FnV.mk 137 [] [Value.pointer (some pr)])) hu
  have f1 : frozen? (aS hz row (FnV.toV (FnV.mk 137 [] [Value.pointer (some pr)]))) atom = false := by rw [fv]; exact q.af
  generalize aS hz row (FnV.toV (FnV.mk 137 [] [Value.pointer (some pr)])) = h1 at *
  have kn : ∀ {x y : Addr}, x.block ≠ y.block → some x.block ≠ some y.block := fun h e => h (Option.some.inj e)
  have kn' : ∀ {x y : Addr}, y.block ≠ x.block → some x.block ≠ some y.block := fun h e => h (Option.some.inj e).symm
  have w1 := ao k1 hw (kn' q.ra)
  refine ⟨⟨w, w1⟩, f1, ?_⟩
  have k2 := Keep.setCell h1 atom (FnV.toV (FnV.mk 138 [] [Value.pointer (some pa), Value.pointer (some seen)]))
  have g2 := bK (v := FnV.toV (FnV.mk 138 [] [Value.pointer (some pa), Value.pointer (some seen)])) w1
  generalize aS h1 atom (FnV.toV (FnV.mk 138 [] [Value.pointer (some pa), Value.pointer (some seen)])) = h2 at *
  refine K h2 ⟨(q.ext.fresh q.rn k1).fresh q.an k2, ⟨pr, pa, seen, ao k2 g1 (kn q.ra), g2, gW k2 (kn d2) (gW k1 (kn d1) c1), gW k2 (kn d4) (gW k1 (kn d3) c2), ao k2 (ao k1 c3 (kn d5)) (kn d6), d7, d8⟩, ?_, q.ma, q.mn⟩
  exact (q.m.keep k1 fun e => q.mr (Option.some.inj e).symm).keep k2 fun e => q.ma (Option.some.inj e).symm
theorem xW {Q : FnV → Heap → Prop} (K : ∀ pr h', cells? h' pr 7 0 = some (P7 p) → pr.block = h.size → Ext h h' → h'.size = h.size + 1 → Q (FnV.mk 137 [] [Value.pointer (some pr)]) h') : jO p h Q := by
  refine tF fun a h' c e1 e2 e3 => ?_
  refine K a h' ?_ e1 e2 e3
  have := cells?_mk (h := h') (a := a) (P7 p) 0 (fun j hj => by rw [Nat.zero_add]; exact (c.cell j hj).1)
  exact this
theorem jf {Q : FnV → Heap → Prop} (K : ∀ pa seen mp h', cells? h' pa 7 0 = some (P7 p) → cell? h' seen = some (Value.map (some mp)) → MPg Value.bool h' mp (fun _ => none) → pa.block = h.size → mp = h.size + 1 → seen.block = h.size + 2 → Ext h h' → h'.size = h.size + 3 → Q (FnV.mk 138 [] [Value.pointer (some pa), Value.pointer (some seen)]) h') : cA p h Q := by
  refine tF fun a h1 c e1 e2 e3 => ?_
  have hc1 : cells? h1 a 7 0 = some (P7 p) := by
    have := cells?_mk (h := h1) (a := a) (P7 p) 0 (fun j hj => by rw [Nat.zero_add]; exact (c.cell j hj).1)
    exact this
  refine MPg.new (toV := Value.bool) fun h2 m2 e4 n2 => ?_
  refine cG fun s h3 hs hsb _ hsf e5 n3 => ?_
  refine ⟨⟨_, hs⟩, hsf, ?_⟩
  have k4 := Keep.setCell h3 s (Value.map (some h1.size))
  have g4 := bK (v := Value.map (some h1.size)) hs
  have n4 : (aS h3 s (Value.map (some h1.size))).size = h3.size := by simp [aS]
  generalize aS h3 s (Value.map (some h1.size)) = h4 at *
  have e14 : Ext h1 h4 := (e4.trans e5).fresh (by have := e4.size; omega) k4
  refine K a s h1.size h4 (aO e14 hc1) g4 ?_ e1 (by omega) (by omega) (e2.trans e14) (by omega)
  exact (m2.keep e5 (by simp)).keep k4 fun e => by have := Option.some.inj e; omega
end
end Go.Sh

namespace Go.Sh
open Go Go.Lift
section
variable {h0 h : Heap} {p : S7} {t : PB} {ss : List Sl}
theorem Ready.mk' {hz hr ha hw ht : Heap} {pr pa seen row atom : Addr} {mp : Nat} (ext : Ext h hz) (er : Ext hr hz) (cr : cells? hr pr 7 0 = some (P7 p)) (ea : Ext ha hz) (ca : cells? ha pa 7 0 = some (P7 p)) (cs : cell? ha seen = some (Value.map (some mp))) (m : MPg Value.bool ha mp fun _ => none)
    (ew : Ext hw hz) (cw : cell? hw row = some Value.nilFunc) (fw : frozen? hw row = false) (et : Ext ht hz) (ct : cell? ht atom = some Value.nilFunc) (ft : frozen? ht atom = false)
    (d : row.block ≠ atom.block ∧ h.size ≤ row.block ∧ h.size ≤ atom.block ∧ pr.block ≠ row.block ∧ pr.block ≠ atom.block ∧ pa.block ≠ row.block ∧ pa.block ≠ atom.block ∧ seen.block ≠ row.block ∧ seen.block ≠ atom.block ∧ pa.block ≠ mp ∧ seen.block ≠ mp ∧ row.block ≠ mp ∧ atom.block ≠ mp ∧ h.size ≤ mp) :
    Ready h hz p (FnV.mk 137 [] [Value.pointer (some pr)]) (FnV.mk 138 [] [Value.pointer (some pa), Value.pointer (some seen)]) mp row atom := by
  obtain ⟨d1, d2, d3, d4, d5, d6, d7, d8, d9, d10, d11, d12, d13, d14⟩ := d
  exact ⟨ext, ⟨_, ao ew cw (by simp)⟩, ⟨_, ao et ct (by simp)⟩, fT ew (hO cw) fw (by simp), fT et (hO ct) ft (by simp), d1, d2, d3, ⟨pr, pa, seen, rfl, rfl, aO er cr, aO ea ca, ao ea cs (by simp), d4, d5, d6, d7, d8, d9, d10, d11⟩, m.keep ea (by simp), d12, d13, d14⟩
end
end Go.Sh

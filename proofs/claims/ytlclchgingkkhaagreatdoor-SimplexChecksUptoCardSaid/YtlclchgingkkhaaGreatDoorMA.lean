/-
  Laws that the proof of this claim's statement leans on, each proved under the conditions that it states.
-/
import Derived.Test.YtlclchgingkkhaaGreatDoorXD
set_option linter.unusedVariables false
set_option linter.unusedSimpArgs false
namespace Go.Sh
open Go Go.Lift
section
variable {h0 h h' : Heap} {V : Vol} {lim : Nat} {ov : Bool} {x : S5} {t : TT}
theorem TM.ld3 (q : TM h0 V lim ov h x t) {k : Addr → Sl → Prop} (C : k V.p x.2.2.2.1) : aJ (some V.p) fun a => Lift.load Sl.toV (a.add 3) h (k a) := ⟨V.p, rfl, _, (q.root 3 (by decide)).1, C⟩
theorem TM.ld4 (q : TM h0 V lim ov h x t) {k : Addr → Sl → Prop} (C : k V.p x.2.2.2.2) : aJ (some V.p) fun a => Lift.load Sl.toV (a.add 4) h (k a) := ⟨V.p, rfl, _, (q.root 4 (by decide)).1, C⟩
theorem TM.stL {i : Int} {j : Nat} {y : E7} {e : Eg} {k : Heap → Prop} (q : TM h0 V lim ov h x t) (hij : i = (j : Int)) (hj : j < t.lo.length) (hy : EK V.K h y e)
    (K : ∀ h', TM h0 V lim ov h' x { t with lo := t.lo.set j e } → Keep (some V.bl) h h' → k h') : idxS x.2.2.2.1 i 7 fun a => dU a (C7 y) h k := by
  obtain ⟨es, v1, v2⟩ := q.lo
  have lv := v2.length
  refine v1.stS len7 (by decide) (one7 y) hij (by omega) fun h' o' k' n' => ?_
  rw [q.lob] at k'
  have hb : V.K V.bl := .inr (.inr (.inr (.inl rfl)))
  have hK : ∀ b, some V.bl = some b → V.K b := fun b e => by cases e; exact hb
  have ne : ∀ {b : Nat}, b ≠ V.bl → some b ≠ some V.bl := fun hn e => hn (Option.some.inj e)
  obtain ⟨ys, r1, r2⟩ := q.rows
  obtain ⟨vs, w1, w2⟩ := q.vals
  obtain ⟨os, l1, l2⟩ := q.up
  exact K h' { bo := q.bo.fresh k' fun b e => by cases e; exact ⟨q.old _ hb, fun e => q.al e.symm⟩
               old := q.old, lt := fun b hb => Nat.lt_of_lt_of_le (q.lt b hb) k'.size, ap := q.ap, av := q.av, al := q.al, au := q.au, pv := q.pv, pl := q.pl, pu := q.pu, vl := q.vl, vu := q.vu, lu := q.lu, spot := q.spot
               root := fun n hn => by
                 have := q.root n hn
                 have hb : some (V.p.add n).block ≠ some V.bl := by rw [af]; exact ne q.pl
                 exact ⟨ag k' this.1 hb, bL k' (bV this.1) this.2 hb⟩
               bas := R.keep q.bas k' fun a ha e => q.basn a.block (by simp [Sl.blk, ha]) (hK _ e.symm), basn := q.basn, rcap := q.rcap
               rows := ⟨ys, _root_.Go.Sh.RS.keep r1 k' fun _ a ha e => q.rown a.block (by simp [Sl.blk, ha]) (hK _ e.symm), r2.imp fun y m h => h.keep k' hK⟩, rown := q.rown
               valb := q.valb, vals := ⟨vs, w1.keep k' fun b hb => by rw [q.valb] at hb; cases hb; exact ne fun e => q.vl e, w2.imp fun y m h => h.keep k' hK⟩
               upb := q.upb, up := ⟨os, l1.keep k' fun b hb => by rw [q.upb] at hb; cases hb; exact ne fun e => q.lu e.symm, l2.imp fun y m h => h.keep k' hK⟩
               lob := q.lob, lo := ⟨es.set j y, o', All2.set (v2.imp fun y m h => h.keep k' hK) (hy.keep k' hK)⟩ } k'
theorem TM.stU {i : Int} {j : Nat} {y : E7} {e : Eg} {k : Heap → Prop} (q : TM h0 V lim ov h x t) (hij : i = (j : Int)) (hj : j < t.up.length) (hy : EK V.K h y e)
    (K : ∀ h', TM h0 V lim ov h' x { t with up := t.up.set j e } → Keep (some V.bu) h h' → k h') : idxS x.2.2.2.2 i 7 fun a => dU a (C7 y) h k := by
  obtain ⟨es, v1, v2⟩ := q.up
  have lv := v2.length
  refine v1.stS len7 (by decide) (one7 y) hij (by omega) fun h' o' k' n' => ?_
  rw [q.upb] at k'
  have hb : V.K V.bu := .inr (.inr (.inr (.inr rfl)))
  have hK : ∀ b, some V.bu = some b → V.K b := fun b e => by cases e; exact hb
  have ne : ∀ {b : Nat}, b ≠ V.bu → some b ≠ some V.bu := fun hn e => hn (Option.some.inj e)
  obtain ⟨ys, r1, r2⟩ := q.rows
  obtain ⟨vs, w1, w2⟩ := q.vals
  obtain ⟨os, l1, l2⟩ := q.lo
  exact K h' { bo := q.bo.fresh k' fun b e => by cases e; exact ⟨q.old _ hb, fun e => q.au e.symm⟩
               old := q.old, lt := fun b hb => Nat.lt_of_lt_of_le (q.lt b hb) k'.size, ap := q.ap, av := q.av, al := q.al, au := q.au, pv := q.pv, pl := q.pl, pu := q.pu, vl := q.vl, vu := q.vu, lu := q.lu, spot := q.spot
               root := fun n hn => by
                 have := q.root n hn
                 have hb : some (V.p.add n).block ≠ some V.bu := by rw [af]; exact ne q.pu
                 exact ⟨ag k' this.1 hb, bL k' (bV this.1) this.2 hb⟩
               bas := R.keep q.bas k' fun a ha e => q.basn a.block (by simp [Sl.blk, ha]) (hK _ e.symm), basn := q.basn, rcap := q.rcap
               rows := ⟨ys, _root_.Go.Sh.RS.keep r1 k' fun _ a ha e => q.rown a.block (by simp [Sl.blk, ha]) (hK _ e.symm), r2.imp fun y m h => h.keep k' hK⟩, rown := q.rown
               valb := q.valb, vals := ⟨vs, w1.keep k' fun b hb => by rw [q.valb] at hb; cases hb; exact ne fun e => q.vu e, w2.imp fun y m h => h.keep k' hK⟩
               lob := q.lob, lo := ⟨os, l1.keep k' fun b hb => by rw [q.lob] at hb; cases hb; exact ne fun e => q.lu e, l2.imp fun y m h => h.keep k' hK⟩
               upb := q.upb, up := ⟨es.set j y, o', All2.set (v2.imp fun y m h => h.keep k' hK) (hy.keep k' hK)⟩ } k'
end
variable {t : TT}
def edA (l : List Eg) (v : Int) : Eg := l.getD v.toNat (0, (0, 0))
def sd (t : TT) (up : Bool) : List Eg := if up then t.up else t.lo
def sg (up : Bool) : Int := if up then 1 else -1
def byd (up : Bool) (e : Eg) (x : Rat × Rat) : Bool := decide (e.1 ≠ 0) && decide (0 < cmpD x e.2 * sg up)
def roo (up : Bool) (e : Eg) (x : Rat × Rat) : Bool := decide (e.1 = 0) || decide (cmpD x e.2 * sg up < 0)
def setE (t : TT) (up : Bool) (v : Int) (e : Eg) : TT := if up then { t with up := t.up.set v.toNat e } else { t with lo := t.lo.set v.toNat e }
inductive Bd (lim : Nat) (t : TT) (v : Int) (up : Bool) (e : Eg) : TT → PL → Int → Prop where
  | rng : v < 0 ∨ v ≥ (t.vs.length : Int) → Bd lim t v up e t [] 2
  | arg : 0 ≤ v → v < (t.vs.length : Int) → e.1 = 0 → Bd lim t v up e t [] 1
  | old : 0 ≤ v → v < (t.vs.length : Int) → e.1 ≠ 0 → (edA (sd t up) v).1 ≠ 0 → cmpD (edA (sd t up) v).2 e.2 * sg up ≤ 0 → Bd lim t v up e t [] 0
  | cla : 0 ≤ v → v < (t.vs.length : Int) → e.1 ≠ 0 → ¬ ((edA (sd t up) v).1 ≠ 0 ∧ cmpD (edA (sd t up) v).2 e.2 * sg up ≤ 0) → byd (!up) (edA (sd t (!up)) v) e.2 = true → Bd lim t v up e t [(e.1, 1), ((edA (sd t (!up)) v).1, 1)] 0
  | set : 0 ≤ v → v < (t.vs.length : Int) → e.1 ≠ 0 → ¬ ((edA (sd t up) v).1 ≠ 0 ∧ cmpD (edA (sd t up) v).2 e.2 * sg up ≤ 0) → byd (!up) (edA (sd t (!up)) v) e.2 = false → ¬ (rowI t.bs v < 0 ∧ byd up e (atD t.vs v) = true) → Bd lim t v up e (setE t up v e) [] 0
  | upd : 0 ≤ v → v < (t.vs.length : Int) → e.1 ≠ 0 → ¬ ((edA (sd t up) v).1 ≠ 0 ∧ cmpD (edA (sd t up) v).2 e.2 * sg up ≤ 0) → byd (!up) (edA (sd t (!up)) v) e.2 = false → rowI t.bs v < 0 → byd up e (atD t.vs v) = true → (∀ z ∈ (updT (setE t up v e) v e.2).vs, szD z ≤ lim) → Bd lim t v up e (updT (setE t up v e) v e.2) [] 0
structure FitL (lim : Nat) (t : TT) : Prop where
  g : RG t
  np : t.ps.length ≤ 1000
  nv : t.vs.length ≤ 1000
  ok : ∀ p ∈ t.ps, PvOk lim p
  v : ∀ e ∈ t.vs, szD e ≤ lim
  lo : ∀ e ∈ t.lo, szD e.2 ≤ lim
  up : ∀ e ∈ t.up, szD e.2 ≤ lim
theorem FitT.fl {n : Nat} (f : FitT t n) : FitL 60 t := ⟨f.g, by have := f.np; omega, by have := f.np; have := f.nr; have := f.nv; omega, f.ok, f.v, f.lo, f.up⟩
theorem FitL.sd {lim : Nat} (f : FitL lim t) (up : Bool) : ∀ e ∈ sd t up, szD e.2 ≤ lim := by cases up; exact f.lo; exact f.up
theorem RG.sdl (g : RG t) (up : Bool) : (sd t up).length = t.vs.length := by cases up; exact g.ll; exact g.lu
theorem eP {up : Bool} {v : Int} {e : Eg} : (setE t up v e).vs = t.vs := by cases up <;> rfl
theorem fA {up : Bool} {v : Int} {e : Eg} : (setE t up v e).ps = t.ps := by cases up <;> rfl
theorem fm {up : Bool} {v : Int} {e : Eg} : (setE t up v e).bs = t.bs := by cases up <;> rfl
theorem RG.setE {up : Bool} {v : Int} {e : Eg} (g : RG t) (he : e.1 ≠ 0) : RG (setE t up v e) := by
  have key : ∀ {l : List Eg}, (∀ e ∈ l, e.1 = 0 → e.2 = (0, 0)) → ∀ z ∈ l.set v.toNat e, z.1 = 0 → z.2 = (0, 0) := fun h z hz h0 => by
    rcases List.mem_or_eq_of_mem_set hz with hz | rfl
    · exact h z hz h0
    · exact absurd h0 he
  cases up
  · exact ⟨g.lb, by show (t.lo.set _ _).length = _; rw [List.length_set]; exact g.ll, g.lu, key g.lo, g.up, g.rng, g.dis, g.row, g.val⟩
  · exact ⟨g.lb, g.ll, by show (t.up.set _ _).length = _; rw [List.length_set]; exact g.lu, g.lo, key g.up, g.rng, g.dis, g.row, g.val⟩
theorem FitL.setE {lim : Nat} {up : Bool} {v : Int} {e : Eg} (f : FitL lim t) (he : e.1 ≠ 0) (hz : szD e.2 ≤ lim) : FitL lim (setE t up v e) := by
  have key : ∀ {l : List Eg}, (∀ e ∈ l, szD e.2 ≤ lim) → ∀ z ∈ l.set v.toNat e, szD z.2 ≤ lim := fun h z hm => by
    rcases List.mem_or_eq_of_mem_set hm with hm | rfl
    · exact h z hm
    · exact hz
  have g := f.g.setE (up := up) (v := v) he
  cases up
  · exact ⟨g, f.np, f.nv, f.ok, f.v, key f.lo, f.up⟩
  · exact ⟨g, f.np, f.nv, f.ok, f.v, f.lo, key f.up⟩
theorem FitT.setE {n : Nat} {up : Bool} {v : Int} {e : Eg} (f : FitT t n) (he : e.1 ≠ 0) (hz : szD e.2 ≤ 60) : FitT (setE t up v e) n := by
  have f2 := f.fl.setE (up := up) (v := v) he hz
  have g := f2.g
  have h1 := f2.lo
  have h2 := f2.up
  cases up
  · exact ⟨g, f.nr, f.np, f.nv, f.pm, f.v, h1, h2⟩
  · exact ⟨g, f.nr, f.np, f.nv, f.pm, f.v, h1, h2⟩
theorem d6 {l : List Eg} {j : Nat} (h : j < l.length) : edA l (j : Int) = l[j] := by
  unfold edA
  rw [List.getD_eq_getElem?_getD, Int.toNat_natCast, List.getElem?_eq_getElem h]; rfl
theorem abN (p q : Rat) : -1 ≤ cmpR p q ∧ cmpR p q ≤ 1 := by
  unfold cmpR
  generalize (p - q).num = n
  rcases Int.lt_trichotomy n 0 with h | h | h
  · rw [Int.sign_eq_neg_one_of_neg h]; decide
  · rw [h]; decide
  · rw [Int.sign_eq_one_of_pos h]; decide
theorem ac4 (p q : Rat × Rat) : -1 ≤ cmpD p q ∧ cmpD p q ≤ 1 := by
  unfold cmpD
  split
  · exact abN _ _
  · exact abN _ _
theorem sg_b (up : Bool) (p q : Rat × Rat) : -1 ≤ cmpD p q * sg up ∧ cmpD p q * sg up ≤ 1 := by
  have := ac4 p q
  cases up
  · show -1 ≤ cmpD p q * (-1) ∧ cmpD p q * (-1) ≤ 1
    omega
  · show -1 ≤ cmpD p q * 1 ∧ cmpD p q * 1 ≤ 1
    omega
end Go.Sh

namespace Go.Sh
open Go Go.Lift
section
variable {h0 h h' : Heap} {V : Vol} {lim : Nat} {ov : Bool} {x : S5} {t : TT}
def sdS (x : S5) (up : Bool) : Sl := if up then x.2.2.2.2 else x.2.2.2.1
theorem TQ.sd (q : TQ h x t) (up : Bool) : RowQ C7 7 EQ h (sdS x up) (sd t up) := by cases up; exact q.lo; exact q.up
theorem iB {up : Bool} {Q : (Sl × Int) → Heap → Prop} (q : TM h0 V lim ov h x t) (K : ∀ h', Ext h h' → Q (sdS x up, sg up) h') : bU (some V.p) up h Q :=
  ae fun h1 e1 => ⟨fun hu => by subst hu; exact (q.ext e1).ld4 (K h1 e1), fun hu => by subst hu; exact (q.ext e1).ld3 (K h1 e1)⟩
theorem ik {s : Sl} {es : List Eg} {v : Int} {x0 : X6} {d : Rat × Rat} {up : Bool} {Q : Bool → Heap → Prop} (hs : RowQ C7 7 EQ h s es) (hv : 0 ≤ v) (hl : v < (es.length : Int)) (hd : DQ h x0 d) (hz : szD d + szD (edA es v).2 ≤ 3000) (hp : 0 < h.size)
    (K : ∀ h', Ext h h' → Q (byd up (edA es v) d) h') : bb (s, sg up) v x0 h Q := by
  obtain ⟨j, rfl⟩ : ∃ j : Nat, v = (j : Int) := ⟨v.toNat, by omega⟩
  have hj : j < es.length := by omega
  rw [d6 hj] at hz K
  refine ae fun h1 e1 => (hs.ext EQ.ext' e1).at rfl hj fun a y hy he => ⟨y, hy, ae fun h2 e2 => ?_⟩
  have he2 := he.ext e2
  have e12 := e1.trans e2
  refine seq.cut (fun b h' => b = byd up es[j] d ∧ Ext h h') ?_ fun b h3 ⟨hb, e3⟩ => by rw [hb]; exact K h3 e3
  refine ⟨fun hn => lZ (hd.ext e12) he2.2 hz (by have := e12.size; omega) fun h3 e3 => ⟨?_, e12.trans e3⟩, fun hn => ⟨?_, e12⟩⟩
  · have hn : es[j].1 ≠ 0 := by rw [← he2.1]; simpa using hn
    have := sg_b up d es[j].2
    dsimp only
    rw [w64 (by omega) (by omega)]
    simp [byd, hn]
  · have hn : es[j].1 = 0 := by rw [← he2.1]; simpa using hn
    simp [byd, hn]
theorem zI {s : Sl} {es : List Eg} {v : Int} {x0 : X6} {d : Rat × Rat} {up : Bool} {Q : Bool → Heap → Prop} (hs : RowQ C7 7 EQ h s es) (hv : 0 ≤ v) (hl : v < (es.length : Int)) (hd : DQ h x0 d) (hz : szD d + szD (edA es v).2 ≤ 3000) (hp : 0 < h.size)
    (K : ∀ h', Ext h h' → Q (roo up (edA es v) d) h') : cL (s, sg up) v x0 h Q := by
  obtain ⟨j, rfl⟩ : ∃ j : Nat, v = (j : Int) := ⟨v.toNat, by omega⟩
  have hj : j < es.length := by omega
  rw [d6 hj] at hz K
  refine ae fun h1 e1 => (hs.ext EQ.ext' e1).at rfl hj fun a y hy he => ⟨y, hy, ae fun h2 e2 => ?_⟩
  have he2 := he.ext e2
  have e12 := e1.trans e2
  refine seq.cut (fun b h' => b = roo up es[j] d ∧ Ext h h') ?_ fun b h3 ⟨hb, e3⟩ => by rw [hb]; exact K h3 e3
  refine ⟨fun hn => ⟨?_, e12⟩, fun hn => lZ (hd.ext e12) he2.2 hz (by have := e12.size; omega) fun h3 e3 => ⟨?_, e12.trans e3⟩⟩
  · have hn : es[j].1 = 0 := by rw [← he2.1]; simpa using hn
    simp [roo, hn]
  · have hn : es[j].1 ≠ 0 := by rw [← he2.1]; simpa using hn
    have := sg_b up d es[j].2
    dsimp only
    rw [w64 (by omega) (by omega)]
    simp [roo, hn]
theorem TM.stE {up : Bool} {i : Int} {j : Nat} {y : E7} {e : Eg} {k : Heap → Prop} (q : TM h0 V lim ov h x t) (hij : i = (j : Int)) (hj : j < (sd t up).length) (hy : EK V.K h y e)
    (K : ∀ h', TM h0 V lim ov h' x (setE t up i e) → KK V.K h h' → k h') : idxS (sdS x up) i 7 fun a => dU a (C7 y) h k := by
  subst hij
  cases up
  · exact q.stL rfl hj hy fun h' q' k' => K h' q' (KK.keep k' fun _ e => by cases e; exact .inl (.inr (.inr (.inr (.inl rfl)))))
  · exact q.stU rfl hj hy fun h' q' k' => K h' q' (KK.keep k' fun _ e => by cases e; exact .inl (.inr (.inr (.inr (.inr rfl)))))
theorem ml {l : List Eg} {v : Int} (hl : ∀ e ∈ l, szD e.2 ≤ lim) : szD (edA l v).2 ≤ lim := by
  unfold edA
  rw [List.getD_eq_getElem?_getD]
  cases h : l[v.toNat]? with
  | none => show szD (0, 0) ≤ lim; rw [cO]; omega
  | some e => exact hl e (List.mem_of_getElem? h)
theorem ow {vs : DL} {v : Int} {j : Nat} (hv : v = (j : Int)) (hj : j < vs.length) : vs[j] = atD vs v := by
  subst hv; exact (qG (v := (j : Int)) hj).symm
theorem wY {a : Addr} {y : E7} (hc : cells? h a 7 0 = some (C7 y)) : cells? h (a.add 1) 6 0 = some (C6 (eD y)) := by
  have h3 := cells?_mk (h := h) (a := a.add 1) (C6 (eD y)) 0 fun j hj => ?_
  · exact h3
  have hj' : j < 6 := hj
  have h4 := cells?_get _ _ _ hc (j + 1) (by rw [len7]; omega)
  rw [aS, show 1 + (0 + j) = 0 + (j + 1) by omega, h4]
  simp [C7, ao, C6, aa]
theorem gP {v : Int} {up : Bool} {y : E7} {e : Eg} {Q : (Sl × Int) → Heap → Prop} (q : TM h0 V lim false h x t) (hlim : lim ≤ 80) (f : FitL lim t) (he : EK V.K h y e) (hes : szD e.2 ≤ lim) (hvl : -9223372036854775808 ≤ v ∧ v ≤ 9223372036854775807)
    (CO : ∀ h', 0 ≤ v → v < (t.vs.length : Int) → rowI t.bs v < 0 → ¬ fI lim (setE t up v e) v e.2 → BO h0 V.a lim true h' → Q (Sl.nil, 6) h')
    (C : ∀ s er t' rs h', TM h0 V lim false h' x t' → KK V.K h h' → Bd lim t v up e t' rs er → MK K0 h' s rs → Q (s, er) h') : bR (some V.a) (some V.p) v up y h Q := by
  refine ae fun h1 e1 => ?_
  have q1 := q.ext e1
  have hlv := q1.tq.vals.len
  refine seq.cut (fun b h' => h' = h1 ∧ (b = true ↔ (v < 0 ∨ v ≥ (t.vs.length : Int)))) ?_ ?_
  · refine ⟨fun g => ⟨rfl, by have := of_decide_eq_true g; simp [this]⟩, fun g => q1.ld2 ⟨rfl, ?_⟩⟩
    have g := of_decide_eq_false g
    rw [hlv, decide_eq_true_iff]
    omega
  rintro b h2 ⟨e, hb⟩
  subst h2
  refine ⟨fun g => C _ _ _ _ _ q1 (KK.ext e1) (.rng (hb.1 g)) MK.nil, fun g => ?_⟩
  have hr : ¬ (v < 0 ∨ v ≥ (t.vs.length : Int)) := fun hh => by rw [hb.2 hh] at g; cases g
  clear hb g
  have v0 : 0 ≤ v := by omega
  have v1 : v < (t.vs.length : Int) := by omega
  have ye := he.1
  refine ⟨fun g => C _ _ _ _ _ q1 (KK.ext e1) (.arg v0 v1 (by rw [← ye]; simpa using g)) MK.nil, fun g => ?_⟩
  have ne : e.1 ≠ 0 := by rw [← ye]; simpa using g
  clear g
  refine iB q1 fun h2 e2 => iB (q1.ext e2) fun h3 e3 => ae fun h4 e4 => ?_
  have e04 := ((e1.trans e2).trans e3).trans e4
  have q4 := q.ext e04
  have hp4 : 0 < h4.size := Nat.lt_of_le_of_lt (Nat.zero_le _) q4.bo.lt
  have he4 := he.keep e04 (by simp)
  have hls := f.g.sdl up
  have hlo := f.g.sdl (!up)
  have hmz : szD (edA (sd t up) v).2 ≤ lim := ml (f.sd up)
  have hoz : szD (edA (sd t (!up)) v).2 ≤ lim := ml (f.sd (!up))
  have htz : szD (atD t.vs v) ≤ lim := iL f.v v
  obtain ⟨j, hj⟩ : ∃ j : Nat, v = (j : Int) := ⟨v.toNat, by omega⟩
  have hjl : j < (sd t up).length := by omega
  have hjo : j < (sd t (!up)).length := by omega
  have mE : edA (sd t up) v = (sd t up)[j] := by rw [hj]; exact d6 hjl
  have oE : edA (sd t (!up)) v = (sd t (!up))[j] := by rw [hj]; exact d6 hjo
  refine seq.cut (fun b h' => Ext h4 h' ∧ (b = true ↔ ((edA (sd t up) v).1 ≠ 0 ∧ cmpD (edA (sd t up) v).2 e.2 * sg up ≤ 0))) ?_ ?_
  · refine (q4.tq.sd up).at hj hjl fun a m hm hq => ⟨m.1, fH hm, ⟨fun g => ?_, fun g => ?_⟩⟩
    · refine (q4.tq.sd up).at hj hjl fun a2 m2 hm2 hq2 => ⟨eD m2, wY hm2, ?_⟩
      have hq2d := hq2.2
      rw [← mE] at hq hq2d
      refine lZ hq2d he4.2.dq (by omega) hp4 fun h5 e5 => ⟨e5, ?_⟩
      have := sg_b up (edA (sd t up) v).2 e.2
      rw [hq.1] at g
      dsimp only
      rw [w64 (by omega) (by omega), decide_eq_true_iff]
      simpa using fun _ => (by simpa using g : (edA (sd t up) v).1 ≠ 0)
    · rw [← mE] at hq
      rw [hq.1] at g
      refine ⟨Keep.refl _ _, ?_⟩
      have g : (edA (sd t up) v).1 = 0 := by simpa using g
      simp [g]
  rintro b h5 ⟨e5, hb⟩
  have q5 := q4.ext e5
  have e05 := e04.trans e5
  refine ⟨fun g => C _ _ _ _ _ q5 (KK.ext e05) (.old v0 v1 ne (hb.1 g).1 (hb.1 g).2) MK.nil, fun g => ?_⟩
  have nold : ¬ ((edA (sd t up) v).1 ≠ 0 ∧ cmpD (edA (sd t up) v).2 e.2 * sg up ≤ 0) := fun hh => by rw [hb.2 hh] at g; cases g
  clear hb g
  have hp5 := Nat.lt_of_lt_of_le hp4 e5.size
  refine ik (q5.tq.sd (!up)) v0 (by omega) (he4.keep e5 (by simp)).2.dq (by omega) hp5 fun h6 e6 => ⟨fun g => ?_, fun g => ?_⟩
  · have q6 := q5.ext e6
    refine (q6.tq.sd (!up)).at hj hjo fun a m hm hq => ⟨m.1, fH hm, OfQ (by decide) (by decide) fun r1 h7 hr1 _ e7 => ⟨ag e7 (fH hm) (by simp), OfQ (by decide) (by decide) fun r2 h8 hr2 _ e8 => ⟨ag (e7.trans e8) (fH hm) (by simp), ?_⟩⟩⟩
    rw [← oE] at hq
    intro T
    have e9 := Ext.push h8 (.cells [Value.int .i64 y.1, Value.bool r1.1, Sl.toV r1.2.1, Sl.toV r1.2.2, Value.int .i64 m.1, Value.bool r2.1, Sl.toV r2.2.1, Sl.toV r2.2.2].toArray T (0, 0))
    refine C _ _ _ [(e.1, 1), ((edA (sd t (!up)) v).1, 1)] _ (q6.ext ((e7.trans e8).trans e9)) (KK.ext ((e05.trans e6).trans ((e7.trans e8).trans e9))) (.cla v0 v1 ne nold g) ⟨Nat.le_refl _, ⟨[(y.1, r1.1, r1.2.1, r1.2.2), (m.1, r2.1, r2.2.1, r2.2.2)], RS.new (h := h8) (cs := [Value.int .i64 y.1, Value.bool r1.1, Sl.toV r1.2.1, Sl.toV r1.2.2, Value.int .i64 m.1, Value.bool r2.1, Sl.toV r2.2.1, Sl.toV r2.2.2]) (T := T) len4 rfl rfl, .cons ⟨ye, ?_⟩ (.cons ⟨hq.1, ?_⟩ .nil)⟩, fun _ k hk => hk.elim⟩
    · exact RK.of_rq ((hr1.ext e8).ext e9) fun k hk => hk.elim
    · exact RK.of_rq (hr2.ext e9) fun k hk => hk.elim
  · have e06 := e05.trans e6
    have q6 := q.ext e06
    refine q6.stE hj hjl (he.keep e06 (by simp)) fun h7 q7 k7 => ?_
    have k07 := (KK.ext e06).trans k7
    have f7 := f.setE (up := up) (v := v) ne hes
    have hp7 : 0 < h7.size := Nat.lt_of_le_of_lt (Nat.zero_le _) q7.bo.lt
    have he7 := k07.ek he
    have sv := eP (t := t) (up := up) (v := v) (e := e)
    have sb := fm (t := t) (up := up) (v := v) (e := e)
    have hE : edA (sd (setE t up v e) up) v = e := by
      have hl2 : j < (sd (setE t up v e) up).length := by rw [f7.g.sdl, sv]; omega
      rw [hj] at hl2 ⊢
      rw [d6 hl2]
      cases up
      · exact List.getElem_set_self _
      · exact List.getElem_set_self _
    refine seq.cut (fun b h' => Ext h7 h' ∧ (b = true ↔ (rowI t.bs v < 0 ∧ byd up e (atD t.vs v) = true))) ?_ ?_
    · refine ⟨V.p, rfl, x, q7.all, th q7.bas (by rw [f7.g.lb]; have := f7.np; omega) fun h8 e8 => ⟨fun g => ?_, fun g => ⟨e8, ?_⟩⟩⟩
      · have g : rowI t.bs v < 0 := by rw [← sb]; exact of_decide_eq_true g
        have q8 := q7.ext e8
        refine q8.ld2 (q8.ldV hj (by rw [sv]; omega) fun z hz => ?_)
        have hz2 : DK V.K h8 z (atD t.vs v) := by
          have h1 := ow (vs := (setE t up v e).vs) hj (by rw [sv]; omega)
          rw [h1, sv] at hz; exact hz
        refine ik (q8.tq.sd up) v0 (by rw [f7.g.sdl, sv]; omega) hz2.dq (by rw [hE]; omega) (Nat.lt_of_lt_of_le hp7 e8.size) fun h9 e9 => ⟨e8.trans e9, ?_⟩
        rw [hE]; simp [g]
      · have g : ¬ rowI t.bs v < 0 := by rw [← sb]; exact of_decide_eq_false g
        simp [g]
    rintro b h8 ⟨e8, hb⟩
    have q8 := q7.ext e8
    have k08 := k07.trans (KK.ext e8)
    refine ⟨fun g => ?_, fun g => ?_⟩
    · obtain ⟨g1, g2⟩ := hb.1 g
      have nby : byd (!up) (edA (sd t (!up)) v) e.2 = false := by simpa using ‹_›
      refine mV (d := e.2) q8 hlim f7.g.lb f7.np f7.nv (fun b hb => ?_) f7.ok f7.v (k08.ek he).2 hes hvl (fun hh h' e' => ?_) (fun h' vs' hn q' _ _ _ => CO h' v0 v1 g1 (fun hf => hn ⟨rfl, hf⟩) q'.bo) fun _ _ _ _ h' q' k' hv => C _ _ _ _ _ q' (k08.trans k') (.upd v0 v1 ne nold nby g1 g2 hv) MK.nil
      · obtain ⟨k, hk, rfl⟩ := List.getElem_of_mem hb
        have := f7.g.rng k (by rw [← f7.g.lb]; exact hk)
        rwa [fK hk] at this
      · rw [sv, sb] at hh; omega
    · exact C _ _ _ _ _ q8 k08 (.set v0 v1 ne nold (by simpa using ‹_›) fun hh => by rw [hb.2 hh] at g; cases g) MK.nil
end
end Go.Sh

namespace Go.Sh
open Go Go.Lift
section
variable {t : TT}
def viol (t : TT) (i : Nat) (up : Bool) : Bool := byd up (edA (sd t up) (at0 t.bs i)) (atD t.vs (at0 t.bs i))
structure Wst (t : TT) (i : Nat) (up : Bool) : Prop where
  lt : i < t.ps.length
  v : viol t i up = true
  no : up = true → viol t i false = false
  min : ∀ k c, k < t.ps.length → viol t k c = true → at0 t.bs i ≤ at0 t.bs k
def Wdn (t : TT) (D : Nat → Bool → Prop) (row : Int) (up : Bool) : Prop :=
  (row = -1 ∧ ∀ k c, D k c → viol t k c = false) ∨ ∃ r : Nat, row = (r : Int) ∧ D r up ∧ viol t r up = true ∧ (up = true → viol t r false = false) ∧ ∀ k c, D k c → viol t k c = true → at0 t.bs r ≤ at0 t.bs k
theorem Wdn.iff {D D' : Nat → Bool → Prop} {row : Int} {up : Bool} (w : Wdn t D row up) (h : ∀ k c, D' k c ↔ D k c) : Wdn t D' row up := by
  have : D' = D := funext fun k => funext fun c => propext (h k c)
  rw [this]; exact w
theorem Wdn.hit {D : Nat → Bool → Prop} {row : Int} {up c : Bool} {i : Nat} (w : Wdn t D row up) (hv : viol t i c = true) (hl : row < 0 ∨ at0 t.bs i < at0 t.bs row.toNat) (hc : c = true → D i false) : Wdn t (fun k d => D k d ∨ k = i ∧ d = c) (i : Int) c := by
  refine .inr ⟨i, rfl, .inr ⟨rfl, rfl⟩, hv, fun e => ?_, fun k d hd hk => ?_⟩
  · rcases w with ⟨_, w⟩ | ⟨r, rfl, _, _, _, w⟩
    · exact w i false (hc e)
    · cases hf : viol t i false with
      | false => rfl
      | true =>
        have := w i false (hc e) hf
        simp only [Int.toNat_natCast] at hl
        omega
  · rcases hd with hd | ⟨rfl, rfl⟩
    · rcases w with ⟨_, w⟩ | ⟨r, rfl, _, _, _, w⟩
      · rw [w k d hd] at hk; cases hk
      · have := w k d hd hk
        simp only [Int.toNat_natCast] at hl
        omega
    · exact Int.le_refl _
theorem Wdn.miss {D : Nat → Bool → Prop} {row : Int} {up c : Bool} {i : Nat} (w : Wdn t D row up) (hm : viol t i c = true → 0 ≤ row ∧ at0 t.bs row.toNat ≤ at0 t.bs i) : Wdn t (fun k d => D k d ∨ k = i ∧ d = c) row up := by
  rcases w with ⟨rfl, w⟩ | ⟨r, rfl, h1, h2, h3, w⟩
  · refine .inl ⟨rfl, fun k d hd => ?_⟩
    rcases hd with hd | ⟨rfl, rfl⟩
    · exact w k d hd
    · cases h : viol t k d with
      | false => rfl
      | true => have := (hm h).1; omega
  · refine .inr ⟨r, rfl, .inl h1, h2, h3, fun k d hd hk => ?_⟩
    rcases hd with hd | ⟨rfl, rfl⟩
    · exact w k d hd hk
    · simpa using (hm hk).2
def aab (j : Nat) : Bool := j == 1
def wayB (q : Rat) (up : Bool) : Bool := !(decide (q.num.sign > 0) == up)
def rm (t : TT) (up : Bool) (m : Int × Rat) : Bool := roo (wayB m.2 up) (edA (sd t (wayB m.2 up)) m.1) (atD t.vs m.1)
def absQ (q : Rat) : Rat := if q.num.sign < 0 then -q else q
def rsn (t : TT) (i : Nat) (up : Bool) : PL := ((edA (sd t up) (at0 t.bs i)).1, 1) :: (psA t i).2.map fun m => ((edA (sd t (wayB m.2 up)) m.1).1, absQ m.2)
end
section
variable {h0 h h' : Heap} {V : Vol} {lim : Nat} {ov : Bool} {x : S5} {t : TT}
theorem yh {Q : (Int × Bool) → Heap → Prop} (q : TM h0 V lim ov h x t) (hlim : lim ≤ 80) (f : FitL lim t)
    (C0 : ∀ up h', (∀ k c, k < t.ps.length → viol t k c = false) → Ext h h' → Q (-1, up) h') (C : ∀ (i : Nat) up h', Wst t i up → Ext h h' → Q ((i : Int), up) h') : fE (some V.p) h Q := by
  have lb := f.g.lb
  have hbl : x.1.len = t.ps.length := by rw [q.bas.len, lb]
  have np := f.np
  refine q.ld0 ?_
  refine loop.inv (fun (s : Int × Bool × Int) h' => Ext h h' ∧ ∃ i : Nat, s.2.2 = (i : Int) ∧ i ≤ t.ps.length ∧ Wdn t (fun k _ => k < i) s.1 s.2.1) (fun s _ => t.ps.length - s.2.2.toNat) ⟨Keep.refl _ _, 0, rfl, by omega, .inl ⟨rfl, fun k c hk => by omega⟩⟩ ?_
  rintro ⟨row, up, _⟩ h1 ⟨e1, i, rfl, hi, w⟩
  dsimp only at w ⊢
  rw [hbl]
  refine ⟨fun g => ?_, fun g => ?_⟩
  · have g := of_decide_eq_true g
    have hlt : i < t.ps.length := by omega
    have hr := f.g.rng i hlt
    refine RJ.ld (q.ext e1).bas rfl (show i < t.bs.length by omega) ?_
    generalize hb : at0 t.bs i = b at *
    refine loop.inv (fun (s : Int × Bool × Int) h' => Ext h h' ∧ ∃ j : Nat, s.2.2 = (j : Int) ∧ j ≤ 2 ∧ Wdn t (fun k c => k < i ∨ k = i ∧ (c = false ∧ 1 ≤ j ∨ c = true ∧ 2 ≤ j)) s.1 s.2.1) (fun s _ => 2 - s.2.2.toNat) ⟨e1, 0, rfl, by omega, w.iff fun k c => by simp⟩ ?_
    rintro ⟨row, up, _⟩ h2 ⟨e2, j, rfl, hj, w⟩
    dsimp only at w ⊢
    refine ⟨fun g => ?_, fun g => ?_⟩
    · have g := of_decide_eq_true g
      have hj2 : j < 2 := by omega
      refine seq.cut (fun (p : Int × Bool) h' => Ext h h' ∧ Wdn t (fun k c => k < i ∨ k = i ∧ (c = false ∧ 1 ≤ j + 1 ∨ c = true ∧ 2 ≤ j + 1)) p.1 p.2) ?_ ?_
      · refine ⟨⟨by omega, by omega⟩, aab j, ?_, ?_⟩
        · have : j = 0 ∨ j = 1 := by omega
          rcases this with rfl | rfl <;> rfl
        · have hD : ∀ k c, (k < i ∨ k = i ∧ (c = false ∧ 1 ≤ j + 1 ∨ c = true ∧ 2 ≤ j + 1)) ↔ ((k < i ∨ k = i ∧ (c = false ∧ 1 ≤ j ∨ c = true ∧ 2 ≤ j)) ∨ k = i ∧ c = aab j) := fun k c => by
            have : j = 0 ∨ j = 1 := by omega
            rcases this with rfl | rfl <;> cases c <;> simp [aab] <;> omega
          have hc : aab j = true → (i < i ∨ i = i ∧ (false = false ∧ 1 ≤ j ∨ false = true ∧ 2 ≤ j)) := fun e => by
            have : j = 0 ∨ j = 1 := by omega
            rcases this with rfl | rfl
            · cases e
            · exact .inr ⟨rfl, .inl ⟨rfl, by omega⟩⟩
          generalize aab j = c at *
          have q2 := q.ext e2
          obtain ⟨n, hn⟩ : ∃ n : Nat, b = (n : Int) := ⟨b.toNat, by omega⟩
          have hnl : n < t.vs.length := by omega
          refine seq.cut (fun (z : Bool) h' => Ext h h' ∧ (z = true ↔ (viol t i c = true ∧ (row < 0 ∨ b < at0 t.bs row.toNat)))) ?_ ?_
          · refine q2.ld2 (q2.ldVa hn hnl fun a y hy hab hd => iB q2 fun h3 e3 => ⟨ag e3 (q2.root 2 (by decide)).1 (by simp), ce e3 (by simp) hy, ?_⟩)
            have q3 := q2.ext e3
            have hd3 := hd.keep e3 (by simp)
            rw [ow hn hnl] at hd3
            have z1 : szD (atD t.vs b) ≤ lim := iL f.v b
            have z2 : szD (edA (sd t c) b).2 ≤ lim := ml (f.sd c)
            refine ik (q3.tq.sd c) (by omega) (by rw [f.g.sdl]; omega) hd3.dq (by omega) (Nat.lt_of_le_of_lt (Nat.zero_le _) q3.bo.lt) fun h4 e4 => ?_
            have e04 := (e2.trans e3).trans e4
            have hv : viol t i c = byd c (edA (sd t c) b) (atD t.vs b) := by unfold viol; rw [hb]
            rw [← hv]
            refine ⟨fun g1 => ⟨fun g2 => ⟨e04, ?_⟩, fun g2 => ?_⟩, fun g1 => ⟨e04, by simp [g1]⟩⟩
            · have g2 := of_decide_eq_true g2
              simp [g1, g2]
            · have g2 := of_decide_eq_false g2
              rcases w with ⟨rfl, _⟩ | ⟨r, rfl, h5, _⟩
              · omega
              · have hr2 : r < t.bs.length := by omega
                refine (q3.ext e4).ld0 (RJ.ld (q3.ext e4).bas rfl hr2 ⟨e04, ?_⟩)
                simp [g1]; omega
          · rintro z h3 ⟨e3, hz⟩
            refine ⟨fun g1 => ⟨e3, ?_⟩, fun g1 => ⟨e3, ?_⟩⟩
            · obtain ⟨g2, g3⟩ := hz.1 g1
              exact (w.hit g2 (by rw [hb]; exact g3) hc).iff hD
            · refine (w.miss (c := c) fun g2 => ?_).iff hD
              have : ¬ (row < 0 ∨ b < at0 t.bs row.toNat) := fun hh => by rw [hz.2 ⟨g2, hh⟩] at g1; cases g1
              rw [hb]; omega
      · rintro ⟨row', up'⟩ h3 ⟨e3, w3⟩
        exact ⟨⟨e3, j + 1, by rw [w64 (by omega) (by omega)]; omega, by omega, w3⟩, by rw [w64 (by omega) (by omega)]; omega⟩
    · have g := of_decide_eq_false g
      have : j = 2 := by omega
      subst this
      refine ⟨⟨e2, i + 1, by rw [w64 (by omega) (by omega)]; omega, by omega, w.iff fun k c => ?_⟩, by rw [w64 (by omega) (by omega)]; omega⟩
      cases c <;> simp <;> omega
  · have g := of_decide_eq_false g
    have : i = t.ps.length := by omega
    subst this
    rcases w with ⟨rfl, w⟩ | ⟨r, rfl, h1, h2, h3, w⟩
    · exact C0 _ _ (fun k c hk => w k c hk) e1
    · exact C r up _ ⟨h1, h2, h3, fun k c hk hv => w k c hk hv⟩ e1
theorem wP {y : Y4} {r : Rat} {up : Bool} {Q : Bool → Heap → Prop} (hr : RQ h (co y) r) (K : ∀ h', Ext h h' → Q (wayB r up) h') : ff y up h Q :=
  ae fun h1 e1 => cY (hr.ext e1) fun h2 e2 => K h2 (e1.trans e2)
end
end Go.Sh

namespace Go.Sh
open Go Go.Lift
theorem OwnS.one {α : Type} {toC : α → List Value} {sz : Nat} {h : Heap} {T : Nat} {x : α} {cs : List Value} (hsz : (toC x).length = sz) (hcs : cs = toC x) (hone : aF cs = true) : OwnS toC sz h.size (h.push (.cells cs.toArray T (0, 0))) ⟨some ⟨h.size, 0, none⟩, 1, 1⟩ [x] := by
  obtain ⟨ys, hy⟩ := nI hone
  have := Own.new (toV := (Subtype.val : One → Value)) (ys := ys) (cs := cs) (h := h) (T := T) hy
  have hl := congrArg List.length hy
  rw [hcs, hsz, List.length_map] at hl
  refine ⟨rfl, ys, by rw [← hy, hcs]; simp [flat], ?_⟩
  rw [← hl] at this
  show Own _ _ _ ⟨_, 1 * sz, 1 * sz⟩ ys
  rw [Nat.one_mul]
  exact this
section
variable {h0 h h' : Heap} {V : Vol} {lim : Nat} {ov : Bool} {x : S5} {t : TT}
theorem FitL.var {i : Nat} (f : FitL lim t) (hi : i < t.ps.length) {m : Int × Rat} (hm : m ∈ (psA t i).2) : 0 ≤ m.1 ∧ m.1 < (t.vs.length : Int) ∧ rowI t.bs m.1 < 0 ∧ m.2 ≠ 0 ∧ ak (psA t i).2 m.1 = m.2 ∧ szQ m.2 ≤ lim := by
  have r := f.g.row i hi
  have v := r.vars m hm
  refine ⟨r.rt.nn m hm, v.1, f.g.no v.2, r.rt.nz m hm, fk r.rt.srt hm, ?_⟩
  have := f.ok (psA t i) (by rw [br hi]; exact List.getElem_mem _)
  exact this.m m hm
theorem yE {i : Nat} {up : Bool} {s : Sl} {c0 c1 : Addr} {Q : Int → Heap → Prop} (q : TM h0 V lim ov h x t) (hlim : lim ≤ 80) (f : FitL lim t) (hi : i < t.ps.length) (hs : MK K0 h s (psA t i).2) (h1 : cell? h c0 = some (Value.pointer (some V.p))) (h2 : cell? h c1 = some (Value.bool up))
    (C0 : ∀ h', (∀ m ∈ (psA t i).2, rm t up m = false) → Ext h h' → Q (-1) h')
    (C : ∀ (j : Nat) (hj : j < (psA t i).2.length) h', rm t up (psA t i).2[j] = true → (∀ k (hk : k < j), rm t up ((psA t i).2[k]'(by omega)) = false) → Ext h h' → Q (j : Int) h') : aw s c0 c1 h Q := by
  have hl := hs.len
  have ok := f.ok (psA t i) (by rw [br hi]; exact List.getElem_mem _)
  have hl4 := ok.len
  refine loop.inv (fun (z : Int) h' => Ext h h' ∧ ∃ j : Nat, z = (j : Int) ∧ j ≤ (psA t i).2.length ∧ ∀ k (hk : k < j) (hk2 : k < (psA t i).2.length), rm t up (psA t i).2[k] = false) (fun z _ => (psA t i).2.length - z.toNat) ⟨Keep.refl _ _, 0, rfl, by omega, fun k hk => by omega⟩ ?_
  rintro _ ha ⟨ea, j, rfl, hj, hn⟩
  rw [hl]
  refine ⟨fun g => ?_, fun g => ?_⟩
  · have g := of_decide_eq_true g
    have hjl : j < (psA t i).2.length := by omega
    refine (hs.ext ea).at rfl hjl fun a y hy hy1 hy2 => ⟨y, hy, ?_⟩
    obtain ⟨v1, v2, v3, v4, v5, v6⟩ := f.var hi (List.getElem_mem hjl)
    have hmj : rm t up (psA t i).2[j] = true → ∀ h', Ext h h' → Q (j : Int) h' := fun hb h' e => C j hjl h' hb (fun k hk => hn k hk (by omega)) e
    generalize hm : (psA t i).2[j] = m at *
    refine ae fun hb eb => ?_
    have qb := q.ext (ea.trans eb)
    have c0b := ag (ea.trans eb) h1 (by simp)
    have c1b := ag (ea.trans eb) h2 (by simp)
    obtain ⟨n, hn1⟩ : ∃ n : Nat, m.1 = (n : Int) := ⟨m.1.toNat, by omega⟩
    have hnl : n < t.vs.length := by omega
    refine ⟨_, c0b, _, c1b, _, c0b, qb.ld2 ?_⟩
    refine qb.ldVa (by rw [hy1]; exact hn1) hnl fun a1 y1 hy3 hab hd => ?_
    refine wP (r := m.2) (hy2.rq.ext eb) fun hc ec => ⟨ag ec c0b (by simp), ag ec c0b (by simp), ag ec (qb.root 2 (by decide)).1 (by simp), ce ec (by simp) hy3, ?_⟩
    have qc := qb.ext ec
    refine iB qc fun hd1 ed => ⟨ag (ec.trans ed) c0b (by simp), ag (ec.trans ed) (qb.root 2 (by decide)).1 (by simp), ce (ec.trans ed) (by simp) hy3, ?_⟩
    have qd := qc.ext ed
    have hd2 := hd.keep (ec.trans ed) (by simp)
    rw [ow hn1 hnl] at hd2
    have z1 : szD (atD t.vs m.1) ≤ lim := iL f.v m.1
    have z2 : szD (edA (sd t (wayB m.2 up)) m.1).2 ≤ lim := ml (f.sd _)
    refine zI (qd.tq.sd (wayB m.2 up)) (by rw [hy1]; exact v1) (by rw [hy1, f.g.sdl]; exact v2) hd2.dq (by rw [hy1]; omega) (Nat.lt_of_le_of_lt (Nat.zero_le _) qd.bo.lt) fun he ee => ?_
    rw [hy1]
    have e0 := (((ea.trans eb).trans ec).trans ed).trans ee
    refine ⟨fun g1 => hmj g1 he e0, fun g1 => ?_⟩
    refine ⟨⟨e0, j + 1, w64 (by omega) (by omega), by omega, fun k hk hk2 => ?_⟩, by rw [w64 (by omega) (by omega)]; omega⟩
    by_cases hkj : k = j
    · subst hkj; rw [hm]; exact g1
    · exact hn k (by omega) hk2
  · have g := of_decide_eq_false g
    have : j = (psA t i).2.length := by omega
    subst this
    refine C0 _ (fun m hm => ?_) ea
    obtain ⟨k, hk, rfl⟩ := List.getElem_of_mem hm
    exact hn k hk hk
theorem rZ {i : Nat} {up : Bool} {Q : Sl → Heap → Prop} (q : TM h0 V lim ov h x t) (f : FitL lim t) (hi : i < t.ps.length)
    (C : ∀ s h', MK K0 h' s (rsn t i up) → Ext h h' → Q s h') : dQ (some V.p) (i : Int) up h Q := by
  have lb := f.g.lb
  have hr := f.g.rng i hi
  have ok := f.ok (psA t i) (by rw [br hi]; exact List.getElem_mem _)
  have hl4 := ok.len
  obtain ⟨n, hn⟩ : ∃ n : Nat, at0 t.bs i = (n : Int) := ⟨(at0 t.bs i).toNat, by omega⟩
  have hnl : n < t.vs.length := by omega
  have hib : i < t.bs.length := by omega
  refine q.ld0 (RJ.ld2 q.bas rfl hib fun a1 ha1 => iB q fun ha ea => ⟨ag ea (q.root 0 (by decide)).1 (by simp), ag ea ha1 (by simp), ?_⟩)
  have qa := q.ext ea
  have hls : n < (sd t up).length := by rw [f.g.sdl]; exact hnl
  refine (qa.tq.sd up).at hn hls fun a2 y2 hy2 he2 => ⟨_, fH hy2, OfQ (by decide) (by decide) fun r hb hr1 _ eb => ?_⟩
  have hlit : y2.1 = (edA (sd t up) (at0 t.bs i)).1 := by rw [he2.1, hn, d6 hls]
  intro T
  have ec := Ext.push hb (.cells [Value.int .i64 y2.1, Value.bool r.1, Sl.toV r.2.1, Sl.toV r.2.2].toArray T (0, 0))
  have oc : OwnS C4 4 hb.size (hb.push (.cells [Value.int .i64 y2.1, Value.bool r.1, Sl.toV r.2.1, Sl.toV r.2.2].toArray T (0, 0))) ⟨some ⟨hb.size, 0, none⟩, 1, 1⟩ [((y2.1, r.1, r.2.1, r.2.2) : Y4)] := OwnS.one rfl rfl rfl
  have hsz : hb.size < (hb.push (.cells [Value.int .i64 y2.1, Value.bool r.1, Sl.toV r.2.1, Sl.toV r.2.2].toArray T (0, 0)) : Heap).size := by simp
  generalize (hb.push (.cells [Value.int .i64 y2.1, Value.bool r.1, Sl.toV r.2.1, Sl.toV r.2.2].toArray T (0, 0)) : Heap) = hc at *
  have om : OM K0 hb.size hc (⟨some ⟨hb.size, 0, none⟩, 1, 1⟩ : Sl) [((edA (sd t up) (at0 t.bs i)).1, 1)] := ⟨fun _ hk => hk.elim, _, oc, .cons ⟨hlit, ((RK.of_rq (K := fun k => K0 k ∨ some hb.size = some k) hr1 fun k hk => by rcases hk with hk | hk; exact hk.elim; cases hk; exact Nat.le_refl _).ext ec)⟩ .nil⟩
  rintro _ rfl
  have e0c := (ea.trans eb).trans ec
  have qc := q.ext e0c
  refine qc.ld1 ?_
  obtain ⟨ys, r1, r2⟩ := q.rows
  obtain ⟨K', hK'⟩ : ∃ K' : Nat → Prop, ∀ k, K' k ↔ hb.size ≤ k := ⟨_, fun _ => Iff.rfl⟩
  have e0b := ea.trans eb
  refine xO (K := K') (RS.ext r1 e0c) (r2.imp fun y p hp => ((hp.keep e0b (by simp)).raise fun k hk => .inr ((hK' k).1 hk)).keep ec (by simp)) rfl hi fun a5 y5 _ _ hy5 hp5 => ?_
  rw [← br hi] at hp5
  have hml : y5.2.2.2.len = (psA t i).2.length := hp5.2.len
  have l3 : cell? hc (a5.add 3) = some (Sl.toV y5.2.2.2) := by have := cells?_get _ _ _ hy5 3 (by simp [oN]); rw [Nat.zero_add] at this; exact this
  refine ⟨_, l3, ?_⟩
  refine loop.inv (fun (z : Sl × Int) h' => Ext hb h' ∧ KK K' hc h' ∧ ∃ j : Nat, z.2 = (j : Int) ∧ j ≤ (psA t i).2.length ∧ OM K0 hb.size h' z.1 (((edA (sd t up) (at0 t.bs i)).1, 1) :: ((psA t i).2.take j).map fun m => ((edA (sd t (wayB m.2 up)) m.1).1, absQ m.2))) (fun z _ => (psA t i).2.length - z.2.toNat) ⟨ec, .refl, 0, rfl, by omega, om⟩ ?_
  rintro ⟨s, _⟩ hd ⟨ed, kd, j, rfl, hj, om⟩
  dsimp only at om ⊢
  rw [hml]
  refine ⟨fun g => ?_, fun g => ?_⟩
  · have g := of_decide_eq_true g
    have hjl : j < (psA t i).2.length := by omega
    refine (kd.mk hp5.2).at rfl hjl fun a6 y6 hy6 hv6 hq6 => ⟨y6, hy6, ae fun he ee => ae fun hf ef => ?_⟩
    obtain ⟨v1, v2, v3, v4, v5, v6⟩ := f.var hi (List.getElem_mem hjl)
    have htk : (psA t i).2.take (j + 1) = (psA t i).2.take j ++ [(psA t i).2[j]] := List.take_succ_eq_append_getElem hjl
    have hqf := (hq6.ext ee).ext ef
    have edf := ee.trans ef
    generalize (psA t i).2[j] = m at *
    have omf := om.ext edf
    have sB : hb.size ≤ hf.size := by have := ed.size; have := edf.size; omega
    refine seq.cut (fun (r : X3) h' => Ext hf h' ∧ RK (fun k => K0 k ∨ s.blk = some k) h' r (absQ m.2)) ?_ ?_
    · have hqk : RK (fun k => K0 k ∨ s.blk = some k) hf (co y6) m.2 := hqf.raise fun k hk => .inl ((hK' k).2 (by rcases hk with hk | hk; exact hk.elim; exact (om.lt hk).1))
      refine cY hqf.rq fun hg eg => ⟨fun g1 => ?_, fun g1 => ?_⟩
      · have g1 := of_decide_eq_true g1
        refine nK (hqf.ext eg).rq fun r hh hr fr eh => ⟨eg.trans eh, ?_⟩
        have : absQ m.2 = -m.2 := if_pos g1
        rw [this]
        exact RK.fresh hr fr fun k hk => by
          rcases hk with hk | hk
          · exact hk.elim
          · have := (omf.ext eg).lt hk; omega
      · have g1 := of_decide_eq_false g1
        have : absQ m.2 = m.2 := if_neg g1
        rw [this]
        exact ⟨eg, hqk.ext eg⟩
    rintro r hg ⟨eg, hr⟩
    refine wP (r := m.2) (hqf.ext eg).rq fun hh eh => iB (q.ext (((e0b.trans ed).trans edf).trans (eg.trans eh))) fun hi1 ei => ?_
    have egi := eg.trans (eh.trans ei)
    have qi := q.ext (((e0b.trans ed).trans edf).trans egi)
    obtain ⟨n, hn⟩ : ∃ n : Nat, m.1 = (n : Int) := ⟨m.1.toNat, by omega⟩
    have hls : n < (sd t (wayB m.2 up)).length := by rw [f.g.sdl]; omega
    refine (qi.tq.sd (wayB m.2 up)).at (by rw [hv6]; exact hn) hls fun a7 y7 hy7 he7 => ⟨_, fH hy7, ?_⟩
    have hl7 : y7.1 = (edA (sd t (wayB m.2 up)) m.1).1 := by rw [he7.1, hn, d6 hls]
    refine (omf.ext egi).push (v := y7.1) (x := r) (q := absQ m.2) (by have := egi.size; omega) (hr.ext (eh.trans ei)) (by simp; omega) fun s' hj1 om' kj _ => ?_
    refine ⟨⟨Keep.freshB ((ed.trans edf).trans egi) (fun b hb => (om.lt hb).1) kj, (kd.trans (KK.ext (edf.trans egi))).trans (KK.keep kj fun k e => .inl ((hK' k).2 (om.lt e).1)), j + 1, w64 (by omega) (by omega), by omega, ?_⟩, by rw [w64 (by omega) (by omega)]; omega⟩
    rw [htk, List.map_append, ← List.cons_append]
    rw [hl7] at om'
    exact om'
  · have g := of_decide_eq_false g
    have : j = (psA t i).2.length := by omega
    subst this
    rw [List.take_length] at om
    exact C s hd om.mk' (e0b.trans ed)
end
end Go.Sh

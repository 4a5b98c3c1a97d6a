/-
  Laws that the proof of this claim's statement leans on, each proved under the conditions that it states.
-/
import Derived.Test.YtjppcjbmepcneaaGreatDoorUC
set_option linter.unusedVariables false
set_option linter.unusedSimpArgs false
namespace Go.Sh
open Go Go.Lift
section
variable {K K' : Nat → Prop} {h h' h0 : Heap} {o : Option Nat}
def PK (K : Nat → Prop) (h : Heap) (y : X4) (p : Rat × PL) : Prop := RK K h (cst y) p.1 ∧ MK K h y.2.2.2 p.2
def DK (K : Nat → Prop) (h : Heap) (y : X6) (v : Rat × Rat) : Prop := RK K h (dA y) v.1 ∧ RK K h (dB y) v.2
def EK (K : Nat → Prop) (h : Heap) (y : E7) (e : Eg) : Prop := y.1 = e.1 ∧ DK K h (eD y) e.2
theorem PK.keep {y : X4} {p : Rat × PL} (q : PK K h y p) (e : Keep o h h') (ho : ∀ k, o = some k → K k) : PK K h' y p := ⟨q.1.keep e ho, q.2.keep e ho⟩
theorem DK.keep {y : X6} {p : Rat × Rat} (q : DK K h y p) (e : Keep o h h') (ho : ∀ k, o = some k → K k) : DK K h' y p := ⟨q.1.keep e ho, q.2.keep e ho⟩
theorem EK.keep {y : E7} {p : Eg} (q : EK K h y p) (e : Keep o h h') (ho : ∀ k, o = some k → K k) : EK K h' y p := ⟨q.1, q.2.keep e ho⟩
theorem PK.raise {y : X4} {p : Rat × PL} (q : PK K h y p) (hk : ∀ k, K' k → K k ∨ h.size ≤ k) : PK K' h y p := ⟨q.1.raise hk, q.2.raise hk⟩
theorem DK.raise {y : X6} {p : Rat × Rat} (q : DK K h y p) (hk : ∀ k, K' k → K k ∨ h.size ≤ k) : DK K' h y p := ⟨q.1.raise hk, q.2.raise hk⟩
theorem EK.raise {y : E7} {p : Eg} (q : EK K h y p) (hk : ∀ k, K' k → K k ∨ h.size ≤ k) : EK K' h y p := ⟨q.1, q.2.raise hk⟩
theorem DK.dq {y : X6} {p : Rat × Rat} (q : DK K h y p) : DQ h y p := ⟨q.1.rq, q.2.rq⟩
theorem PK.of {y : X4} {p : Rat × PL} (q : PQ h0 y p) (e : Ext h0 h) (hk : ∀ k, K k → h0.size ≤ k) : PK K h y p :=
  ⟨(RK.of_rq q.c hk).ext e, (q.m.raise fun k h => .inr (hk k h)).ext e⟩
theorem DK.of {y : X6} {p : Rat × Rat} (q : DQ h0 y p) (e : Ext h0 h) (hk : ∀ k, K k → h0.size ≤ k) : DK K h y p :=
  ⟨(RK.of_rq q.a hk).ext e, (RK.of_rq q.b hk).ext e⟩
theorem DK.zero : DK K h d0 (0, 0) := ⟨RK.zero, RK.zero⟩
end
structure Vol where
  a : Addr
  p : Addr
  bv : Nat
  bl : Nat
  bu : Nat
def Vol.K (V : Vol) (k : Nat) : Prop := k = V.a.block ∨ k = V.p.block ∨ k = V.bv ∨ k = V.bl ∨ k = V.bu
structure TM (h0 : Heap) (V : Vol) (lim : Nat) (ov : Bool) (h : Heap) (x : S5) (t : TT) : Prop where
  bo : BO h0 V.a lim ov h
  old : ∀ k, V.K k → h0.size ≤ k
  lt : ∀ k, V.K k → k < h.size
  ap : V.a.block ≠ V.p.block
  av : V.a.block ≠ V.bv
  al : V.a.block ≠ V.bl
  au : V.a.block ≠ V.bu
  pv : V.p.block ≠ V.bv
  pl : V.p.block ≠ V.bl
  pu : V.p.block ≠ V.bu
  vl : V.bv ≠ V.bl
  vu : V.bv ≠ V.bu
  lu : V.bl ≠ V.bu
  spot : V.p.spot = none
  root : ∀ k (hk : k < 5), cell? h (V.p.add k) = some ((CT x)[k]'hk) ∧ frozen? h (V.p.add k) = false
  bas : RJ h x.1 t.bs
  basn : ∀ b, x.1.blk = some b → ¬ V.K b
  rcap : x.2.1.len ≤ x.2.1.cap
  rows : ∃ ys, RS CP 4 h x.2.1 ys ∧ All2 (PK V.K h) ys t.ps
  rown : ∀ b, x.2.1.blk = some b → ¬ V.K b
  valb : x.2.2.1.blk = some V.bv
  vals : ∃ ys, OwnS C6 6 h0.size h x.2.2.1 ys ∧ All2 (DK V.K h) ys t.vs
  lob : x.2.2.2.1.blk = some V.bl
  lo : ∃ ys, OwnS C7 7 h0.size h x.2.2.2.1 ys ∧ All2 (EK V.K h) ys t.lo
  upb : x.2.2.2.2.blk = some V.bu
  up : ∃ ys, OwnS C7 7 h0.size h x.2.2.2.2 ys ∧ All2 (EK V.K h) ys t.up
section
variable {h0 h h' : Heap} {V : Vol} {lim : Nat} {ov ov' : Bool} {x : S5} {t : TT} {o : Option Nat}
theorem TM.keepO (q : TM h0 V lim ov h x t) (ke : Keep o h h') (hb : BO h0 V.a lim ov' h') (ho : ∀ b, o = some b → b = V.a.block) : TM h0 V lim ov' h' x t := by
  have hoK : ∀ b, o = some b → V.K b := fun b e => .inl (ho b e)
  have ne : ∀ {b : Nat}, b ≠ V.a.block → some b ≠ o := fun {b} hn e => hn (ho b e.symm)
  obtain ⟨ys, r1, r2⟩ := q.rows
  obtain ⟨vs, v1, v2⟩ := q.vals
  obtain ⟨ls, l1, l2⟩ := q.lo
  obtain ⟨us, u1, u2⟩ := q.up
  refine { bo := hb, old := q.old, lt := fun k hk => Nat.lt_of_lt_of_le (q.lt k hk) ke.size, ap := q.ap, av := q.av, al := q.al, au := q.au, pv := q.pv, pl := q.pl, pu := q.pu, vl := q.vl, vu := q.vu, lu := q.lu, spot := q.spot, root := fun k hk => ?_, bas := ?_, basn := q.basn, rcap := q.rcap, rows := ⟨ys, ?_, ?_⟩, rown := q.rown, valb := q.valb, vals := ⟨vs, ?_, ?_⟩, lob := q.lob, lo := ⟨ls, ?_, ?_⟩, upb := q.upb, up := ⟨us, ?_, ?_⟩ }
  · have := q.root k hk
    have hn : some (V.p.add k).block ≠ o := by rw [addr_add_block]; exact ne (fun e => q.ap e.symm)
    exact ⟨cell_keep ke this.1 hn, frozen_keep ke (cell_lt this.1) this.2 hn⟩
  · exact R.keep q.bas ke fun a ha e => q.basn a.block (by simp [Sl.blk, ha]) (hoK _ e.symm)
  · exact _root_.Go.Sh.RS.keep r1 ke fun _ a ha e => q.rown a.block (by simp [Sl.blk, ha]) (hoK _ e.symm)
  · exact r2.imp fun y m h => h.keep ke hoK
  · exact v1.keep ke fun b hb' => by rw [q.valb] at hb'; cases hb'; exact ne (fun e => q.av e.symm)
  · exact v2.imp fun y m h => h.keep ke hoK
  · exact l1.keep ke fun b hb' => by rw [q.lob] at hb'; cases hb'; exact ne (fun e => q.al e.symm)
  · exact l2.imp fun y m h => h.keep ke hoK
  · exact u1.keep ke fun b hb' => by rw [q.upb] at hb'; cases hb'; exact ne (fun e => q.au e.symm)
  · exact u2.imp fun y m h => h.keep ke hoK
theorem TM.ext (q : TM h0 V lim ov h x t) (e : Ext h h') : TM h0 V lim ov h' x t := q.keepO e (q.bo.of_ext e) (by simp)
theorem TM.keep (q : TM h0 V lim ov h x t) (k : Keep (some V.a.block) h h') (hb : BO h0 V.a lim ov' h') : TM h0 V lim ov' h' x t := q.keepO k hb (fun b e => by cases e; rfl)
theorem TM.all (q : TM h0 V lim ov h x t) : cells? h V.p 5 0 = some (CT x) := by
  have := cells?_mk (h := h) (a := V.p) (CT x) 0 (fun j hj => by
    have hj : j < 5 := hj
    rw [Nat.zero_add]; exact (q.root j hj).1)
  exact this
end
end Go.Sh

namespace Go.Sh
open Go Go.Lift
inductive KK (K : Nat → Prop) (h : Heap) : Heap → Prop
  | refl : KK K h h
  | step {h1 h2 : Heap} {o : Option Nat} : KK K h h1 → Keep o h1 h2 → (∀ k, o = some k → K k ∨ h.size ≤ k) → KK K h h2
section
variable {K K' : Nat → Prop} {h h1 h' : Heap}
theorem KK.size (k : KK K h h') : h.size ≤ h'.size := by
  induction k with
  | refl => exact Nat.le_refl _
  | step _ e _ ih => exact Nat.le_trans ih e.size
theorem KK.trans (a : KK K h h1) (b : KK K h1 h') : KK K h h' := by
  induction b with
  | refl => exact a
  | step _ e ho ih => exact .step ih e fun k hk => (ho k hk).imp id (Nat.le_trans a.size)
theorem KK.keep {o : Option Nat} (e : Keep o h h') (ho : ∀ k, o = some k → K k ∨ h.size ≤ k) : KK K h h' := .step .refl e ho
theorem KK.ext (e : Ext h h') : KK K h h' := .keep e (by simp)
theorem KK.mono (a : KK K h h') (hk : ∀ k, K k → K' k) : KK K' h h' := by
  induction a with
  | refl => exact .refl
  | step _ e ho ih => exact .step ih e fun k hh => (ho k hh).imp (hk k) id
theorem KK.cell (a : KK K h h') {p : Addr} {v : Value} (hc : cell? h p = some v) (hn : ¬ K p.block) : cell? h' p = some v := by
  have hl := cell_lt hc
  induction a with
  | refl => exact hc
  | step _ e ho ih => exact cell_keep e ih fun hh => (ho _ hh.symm).elim hn (by omega)
theorem KK.frozen (a : KK K h h') {p : Addr} {f : Bool} (hl : p.block < h.size) (hc : frozen? h p = f) (hn : ¬ K p.block) : frozen? h' p = f := by
  induction a with
  | refl => exact hc
  | step a e ho ih => exact frozen_keep e (Nat.lt_of_lt_of_le hl a.size) ih fun hh => (ho _ hh.symm).elim hn (by omega)
theorem KK.rs {α : Type} {toC : α → List Value} {sz : Nat} {s : Sl} {xs : List α} (a : KK K h h') (h0 : 0 < sz) (hr : RS toC sz h s xs) (hn : xs ≠ [] → ∀ b, s.blk = some b → ¬ K b) : RS toC sz h' s xs := by
  have hl : ∀ b, xs ≠ [] → s.blk = some b → b < h.size := fun b hne hb => RS.lt hr h0 hne hb
  induction a with
  | refl => exact hr
  | step a e ho ih =>
    refine RS.keep ih e fun hne x hx hh => ?_
    have hb : s.blk = some x.block := by simp [Sl.blk, hx]
    exact (ho _ hh.symm).elim (hn hne _ hb) (fun hg => by have := hl _ hne hb; omega)
theorem KK.own {α : Type} {toC : α → List Value} {sz B : Nat} {s : Sl} {xs : List α} (a : KK K h h') (hr : OwnS toC sz B h s xs) (hn : ∀ b, s.blk = some b → ¬ K b) : OwnS toC sz B h' s xs := by
  have hl : ∀ b, s.blk = some b → b < h.size := fun b hb => (hr.lt hb).2
  induction a with
  | refl => exact hr
  | step a e ho ih => exact ih.keep e fun b hb hh => (ho _ hh.symm).elim (hn _ hb) (fun hg => by have := hl _ hb; omega)
theorem KK.rk {x : X3} {q : Rat} (a : KK K h h') (hr : RK K h x q) : RK K h' x q := by
  have h0 : RK (fun k => K k ∨ h.size ≤ k) h x q := hr.raise fun k hk => hk
  have : RK (fun k => K k ∨ h.size ≤ k) h' x q := by
    induction a with
    | refl => exact h0
    | step a e ho ih => exact ih.keep e ho
  exact this.raise fun k hk => .inl (.inl hk)
theorem KK.mk {s : Sl} {q : PL} (a : KK K h h') (hr : MK K h s q) : MK K h' s q := by
  have h0 : MK (fun k => K k ∨ h.size ≤ k) h s q := hr.raise fun k hk => hk
  have : MK (fun k => K k ∨ h.size ≤ k) h' s q := by
    induction a with
    | refl => exact h0
    | step a e ho ih => exact ih.keep e ho
  exact this.raise fun k hk => .inl (.inl hk)
theorem KK.pk {y : X4} {p : Rat × PL} (a : KK K h h') (q : PK K h y p) : PK K h' y p := ⟨a.rk q.1, a.mk q.2⟩
theorem KK.dk {y : X6} {p : Rat × Rat} (a : KK K h h') (q : DK K h y p) : DK K h' y p := ⟨a.rk q.1, a.rk q.2⟩
theorem KK.ek {y : E7} {p : Eg} (a : KK K h h') (q : EK K h y p) : EK K h' y p := ⟨q.1, a.dk q.2⟩
end
end Go.Sh

namespace Go.Sh
open Go Go.Lift
structure Cs (h : Heap) (p : Addr) (cs : List Value) : Prop where
  spot : p.spot = none
  cell : ∀ k (hk : k < cs.length), cell? h (p.add k) = some cs[k] ∧ frozen? h (p.add k) = false
theorem Cs.set {h : Heap} {p : Addr} {cs : List Value} (q : Cs h p cs) (j : Nat) (v : Value) (hj : j < cs.length) : Cs (setCell h (p.add j) v) p (cs.set j v) := by
  refine ⟨q.spot, fun k hk => ?_⟩
  have hk' : k < cs.length := by simpa using hk
  obtain ⟨h1, h2⟩ := q.cell k hk'
  refine ⟨?_, by rw [frozen_set]; exact h2⟩
  by_cases hkj : j = k
  · subst hkj
    rw [cell_set_same h1, List.getElem_set_self]
  · rw [cell_set_ne (.inr (.inl (by rw [addr_add _ _ q.spot, addr_add _ _ q.spot]; simpa using hkj))), h1, List.getElem_set_ne hkj]
theorem Cs.st {h : Heap} {p : Addr} {cs : List Value} (q : Cs h p cs) {j : Nat} {v : Value} {k : Heap → Prop} (hj : j < cs.length)
    (K : ∀ h', Cs h' p (cs.set j v) → Keep (some p.block) h h' → h'.size = h.size → k h') : Lift.store (p.add j) v h k := by
  obtain ⟨h1, h2⟩ := q.cell j hj
  refine ⟨⟨_, h1⟩, h2, K _ (q.set j v hj) ?_ (by simp [setCell])⟩
  have := Keep.setCell h (p.add j) v
  rwa [addr_add_block] at this
theorem new_cs {cs : List Value} {h : Heap} {k : Addr → Heap → Prop} (K : ∀ a h', Cs h' a cs → a.block = h.size → Ext h h' → h'.size = h.size + 1 → k a h') : new cs h k := by
  intro T
  refine K _ _ ⟨rfl, fun j hj => ?_⟩ rfl (Ext.push _ _) (by simp)
  rw [addr_add _ _ rfl]
  refine ⟨?_, frozen_none (T := T) (c := cs.toArray) (by simp)⟩
  simp [cell?, hj]
theorem szQ_neg (q : Rat) : szQ (-q) = szQ q := by simp [szQ, dn]
theorem nzc_len (m : Int × Rat) (l : PL) : (nzc m l).length ≤ l.length + 1 := by unfold nzc; split <;> simp
theorem mrg_len (p q : PL) : (mrg p q).length ≤ p.length + q.length := by
  induction p, q using mrg.induct with
  | case1 => rw [mrg_nn]; simp
  | case2 a as ih => rw [mrg_cn]; have := nzc_len a (mrg as []); simp at *; omega
  | case3 b bs ih => rw [mrg_nc]; have := nzc_len b (mrg [] bs); simp at *; omega
  | case4 a as b bs h ih => rw [mrg_cc, if_pos h]; have := nzc_len a (mrg as (b :: bs)); simp at *; omega
  | case5 a as b bs h h' ih => rw [mrg_cc, if_neg h, if_pos h']; have := nzc_len b (mrg (a :: as) bs); simp at *; omega
  | case6 a as b bs h h' ih => rw [mrg_cc, if_neg h, if_neg h']; have := nzc_len (a.1, a.2 + b.2) (mrg as bs); simp at *; omega
theorem addP_len (p q : Rat × PL) (c : Rat) : (addP p c q).2.length ≤ p.2.length + q.2.length := by
  have h1 := mrg_len p.2 (scP c q).2
  have h2 := scL_len (c := c) (p := q)
  unfold addP; dsimp only; omega
theorem fitsP_iff {lim : Nat} {p : Rat × PL} : fitsP lim p = true ↔ szQ p.1 ≤ lim ∧ ∀ m ∈ p.2, szQ m.2 ≤ lim := by
  simp [fitsP]
theorem lOf_spec {K : Nat → Prop} {v : Int} {h : Heap} {Q : X4 → Heap → Prop} (hK : ∀ k, K k → k < h.size) (C : ∀ r h', PK K h' r (0, [(v, 1)]) → Ext h h' → Q r h') : linear_Of v h Q := by
  refine mem_ext fun h1 e1 => OfQ (by decide) (by decide) fun r h2 hr fr e2 => ?_
  have e02 := e1.trans e2
  have hr1 : RK K h2 r 1 := RK.fresh (h0 := h1) hr fr fun k hk => Nat.lt_of_lt_of_le (hK k hk) e1.size
  intro T
  refine C _ _ ⟨RK.zero, Nat.le_refl _, ⟨[(v, r.1, r.2.1, r.2.2)], RS.new len4 rfl rfl, .cons ⟨rfl, hr1.ext (Ext.push _ _)⟩ .nil⟩, fun _ k hk hb => ?_⟩ (e02.trans (Ext.push _ _))
  have := hK k hk
  have := e02.size
  simp [Sl.blk] at hb
  omega
section
variable {h0 h h' : Heap} {V : Vol} {lim : Nat} {ov ov' : Bool} {x : S5} {t : TT} {K : Nat → Prop}
theorem KK.cells {p : Addr} : ∀ {n i : Nat} {l : List Value}, KK K h h' → ¬ K p.block → cells? h p n i = some l → cells? h' p n i = some l := by
  intro n i l k hn hc
  by_cases h0 : n = 0
  · subst h0; simpa [cells?] using hc
  · have hl : p.block < h.size := by
      cases n with
      | zero => exact absurd rfl h0
      | succ n =>
        rw [cells?] at hc
        split at hc
        · rename_i v r h1 h2
          have := cell_lt h1
          rwa [addr_add_block] at this
        · cases hc
    induction k with
    | refl => exact hc
    | step a e ho ih => exact cells_keep e (fun hh => (ho _ hh.symm).elim hn (by omega)) ih
end
end Go.Sh

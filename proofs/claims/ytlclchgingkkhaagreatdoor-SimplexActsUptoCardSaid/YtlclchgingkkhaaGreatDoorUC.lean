/-
  Laws that the proof of this claim's statement leans on, each proved under the conditions that it states.
-/
import Derived.Test.YtlclchgingkkhaaGreatDoorUB
set_option linter.unusedVariables false
set_option linter.unusedSimpArgs false
namespace Go.Sh
open Go Go.Lift
variable {h0 h : Heap} {x : S5} {t : TT} {L B : Nat}
def psA (t : TT) (i : Nat) : Rat × PL := t.ps.getD i (0, [])
theorem bV {i : Nat} (hi : i < t.ps.length) : psA t i = t.ps[i] := by unfold psA; rw [List.getD_eq_getElem?_getD, List.getElem?_eq_getElem hi]; rfl
structure RowOk (t : TT) (i : Nat) : Prop where
  lo : 0 ≤ at0 t.bs i
  hi : at0 t.bs i < (t.vs.length : Int)
  me : rowI t.bs (at0 t.bs i) = (i : Int)
  c : (psA t i).1 = 0
  m : ∀ m ∈ (psA t i).2, m.1 < (t.vs.length : Int) ∧ rowI t.bs m.1 < 0
  v : valV (atD t.vs) (psA t i).2 = atD t.vs (at0 t.bs i)
structure RightT (t : TT) : Prop where
  lb : t.bs.length = t.ps.length
  ll : t.lo.length = t.vs.length
  lu : t.up.length = t.vs.length
  lo : ∀ e ∈ t.lo, e.1 = 0 → e.2 = (0, 0)
  up : ∀ e ∈ t.up, e.1 = 0 → e.2 = (0, 0)
  rows : ∀ i, i < t.ps.length → RowOk t i
theorem afc {h : Heap} {y : X4} {p : Rat × PL} (q : PQ h y p) : y.2.1.len = 0 ↔ p.1 = 0 := by
  have := q.c.num.len_zero
  rw [this, Int.natAbs_eq_zero, Rat.num_eq_zero]
end Go.Sh

namespace Go.Sh
open Go Go.Lift
variable {h0 h : Heap} {x : S5} {t : TT} {L B : Nat}
abbrev CT := aI
theorem pe {p : Addr} {hh : Heap} (hp : cells? hh p 5 0 = some (CT x)) (k : Nat) (hk : k < 5) : cell? hh (p.add k) = some ((CT x)[k]'hk) := by
  have := cells?_get _ _ _ hp k hk
  simpa using this
theorem abq {hh : Heap} {nm : Addr} {y : X6} {p : Rat × Rat} {Q : Bool → Heap → Prop} (ht : Tab hh) (hc : cell? hh nm = some (FnV.toV (FnV.mk 77 [] []))) (q : DQ hh y p) (hs : szD p ≤ 1000) (K : ∀ h', Ext hh h' → Q false h') : dd y nm hh Q := by
  unfold szD at hs
  refine aa fun h1 e1 => ⟨_, ah e1 hc (by simp), rfl, aa fun h2 e2 => ?_⟩
  have e12 := e1.trans e2
  refine seq.cut (fun b h3 => Ext hh h3 ∧ b = true) ?_ fun b h3 ⟨e3, hb⟩ => by subst hb; exact K h3 e3
  refine gL (x := dA y) (R.ext ht e12) (q.ext e12).a (by omega) fun h3 e3 => ⟨fun _ => ?_, fun h => (by cases h)⟩
  exact gL (x := dB y) (R.ext ht (e12.trans e3)) (q.ext (e12.trans e3)).b (by omega) fun h4 e4 => ⟨e12.trans (e3.trans e4), rfl⟩
theorem abN {hh : Heap} {nm : Addr} {s : Sl} {vs : DL} {Q : Bool → Heap → Prop} (ht : Tab hh) (hc : cell? hh nm = some (FnV.toV (FnV.mk 77 [] []))) (q : RowQ C6 6 DQ hh s vs) (hs : ∀ v ∈ vs, szD v ≤ 1000) (hl : vs.length ≤ 1000) (K : ∀ h', Ext hh h' → Q false h') :
    aw s nm hh Q := by
  refine mS (toC := C6) (P := fun _ => False) (f := fun v h Q => dd (v.1, v.2.1, v.2.2.1, v.2.2.2.1, v.2.2.2.2.1, v.2.2.2.2.2) nm h Q) DQ.ext' (fun {h' y m Q} e hm r k => ?_) q (by omega) fun b h' hb e => ?_
  · exact abq (y := y) (R.ext ht e) (ah e hc (by simp)) r (hs m hm) fun h2 e2 => k false h2 (by simp) e2
  · have : b = false := by
      cases b with
      | false => rfl
      | true => obtain ⟨_, _, h⟩ := hb.1 rfl; exact h.elim
    subst this
    exact K h' e
theorem ab3 {hh : Heap} {s : Sl} {es : List Eg} {Q : Bool → Heap → Prop} (ht : Tab hh) (q : RowQ C7 7 EQ hh s es) (hs : ∀ v ∈ es, szD v.2 ≤ 1000) (hl : es.length ≤ 2000) (K : ∀ b h', (b = true ↔ ∃ e ∈ es, ¬ (e.1 = 0 → e.2 = (0, 0))) → Ext hh h' → Q b h') :
    aB s hh Q := by
  refine mS (toC := C7) (P := fun e => ¬ (e.1 = 0 → e.2 = (0, 0))) (f := fun v h Q => eJ (v.1, v.2.1, v.2.2.1, v.2.2.2.1, v.2.2.2.2.1, v.2.2.2.2.2.1, v.2.2.2.2.2.2) h Q) EQ.ext' (fun {h' y m Q} e hm r k => ?_) q (by omega) K
  refine aa fun h1 e1 => adx (y := y) (R.ext ht (e.trans e1)) (r.ext e1) (hs m hm) fun h2 e2 => k _ h2 ?_ (e1.trans e2)
  simp
theorem ab5 {hh : Heap} {c0 c1 : Addr} {s : Sl} {ms : PL} {n : Nat} {Q : Bool → Heap → Prop} (hm : MK K0 hh s ms) (hn : cell? hh c0 = some (Value.int .i64 (n : Int))) (hc : cells? hh c1 5 0 = some (CT x)) (hb : RJ hh x.1 t.bs) (hl : t.bs.length ≤ 1000) (hml : ms.length ≤ 1000)
    (K : ∀ b h', (b = true ↔ ∃ m ∈ ms, ¬ (m.1 < (n : Int) ∧ rowI t.bs m.1 < 0)) → Ext hh h' → Q b h') : aA s c0 c1 hh Q := by
  have q : RowQ C4 4 (fun h (y : Y4) (m : Int × Rat) => y.1 = m.1) hh s ms := by
    obtain ⟨ys, h1, h2⟩ := hm.row
    exact ⟨hm.cap, ys, h1, h2.imp fun y m h => h.1⟩
  refine mS (toC := C4) (P := fun m : Int × Rat => ¬ (m.1 < (n : Int) ∧ rowI t.bs m.1 < 0)) (f := fun v h Q => eL (v.1, v.2.1, v.2.2.1, v.2.2.2) c0 c1 h Q) (fun _ _ _ _ h _ => h) (fun {h' y m Q} e hmm r k => ?_) q (by omega) K
  refine aa fun h1 e1 => ?_
  have e01 := e.trans e1
  refine seq.cut (fun b h2 => Ext h' h2 ∧ (b = true ↔ ¬ (m.1 < (n : Int) ∧ rowI t.bs m.1 < 0))) ?_ fun b h2 ⟨e2, hb2⟩ => k b h2 hb2 e2
  refine ⟨_, ah e01 hn (by simp), ?_⟩
  have r : y.1 = m.1 := r
  refine ⟨fun hge => ⟨e1, fun _ hh => ?_, fun _ => rfl⟩, fun hlt => ⟨x, bJ e01 hc, ?_⟩⟩
  · have := of_decide_eq_true hge; rw [r] at this; omega
  · have hlt := of_decide_eq_false hlt
    rw [r] at hlt
    dsimp only
    rw [r]
    refine lN (R.ext hb e01) (by omega) fun h3 e3 => ⟨e1.trans e3, ?_⟩
    rw [decide_eq_true_iff]
    constructor
    · intro h hh; omega
    · intro h; exact Classical.byContradiction fun hn => h ⟨by omega, by omega⟩
theorem yT {Q : Bool → Heap → Prop} (ht : Tab h0) (q : TQ h0 x t) (e0 : Ext h0 h) (z : TSz t L B) (hL : L * (2 * B + 4) + 2 * B + 4 ≤ 2700) (hL1 : L ≤ 1000) (hB : B ≤ 200) (K : ∀ b h', (b = true ↔ RightT t) → Ext h h' → Q b h') : ia x h Q := by
  have nb := z.nb; have np := z.np; have nv := z.nv; have nl := z.nl; have nu := z.nu
  have l1 := q.bas.len; have l2 := q.rows.len; have l3 := q.vals.len; have l4 := q.lo.len; have l5 := q.up.len
  have K0 : ¬ RightT t → ∀ h', Ext h h' → Q false h' := fun hn h' e => K false h' ⟨nofun, fun hh => absurd hh hn⟩ e
  have hz : 0 < h0.size := by have := _root_.Go.Lift.R.lt ht rfl (by decide); omega
  refine vW fun p h1 hp hpb e1 => ?_
  have hp : cells? h1 p 5 0 = some (CT x) := hp
  have s01 := e0.size; have s1 := e1.size
  have r1 := pe hp
  refine ⟨_, r1 2 (by decide), uS fun n h2 hn hnb hns hnf e2 hn2 => ?_⟩
  have hplt : p.block < h1.size := by have := cf (r1 0 (by decide)); rwa [ag] at this
  refine ⟨⟨_, hn⟩, hnf, ?_⟩
  rw [show ((x.2.2.1.len : Nat) : Int) = ((t.vs.length : Nat) : Int) by rw [l3]]
  have k3 := Keep.setCell h2 n (Value.int .i64 ((t.vs.length : Nat) : Int))
  have hn3 := cw (v := Value.int .i64 ((t.vs.length : Nat) : Int)) hn
  generalize bz h2 n (Value.int .i64 ((t.vs.length : Nat) : Int)) = h3 at *
  have e13 : Ext h1 h3 := e2.fresh (by omega) k3
  have e3 : Ext h h3 := e1.trans e13
  have hp3 := bJ e13 hp
  clear hn hnf k3
  have r3 := pe hp3
  have s3 := e13.size
  refine seq.cut (fun b h4 => h4 = h3 ∧ (b = true → ¬ RightT t) ∧ (b = false → t.bs.length = t.ps.length ∧ t.lo.length = t.vs.length ∧ t.up.length = t.vs.length)) ?_ ?_
  · have ne : ∀ {a b : Nat}, (((a : Nat) : Int) != ((b : Nat) : Int)) = true → a ≠ b := fun h e => by rw [e] at h; simp at h
    have eq : ∀ {a b : Nat}, (((a : Nat) : Int) != ((b : Nat) : Int)) = false → a = b := fun h => by
      have := (bne_eq_false_iff_eq).1 h; omega
    refine ⟨x.1, r3 0 (by decide), x.2.1, r3 1 (by decide), ?_⟩
    dsimp only
    rw [l1, l2]
    refine ⟨fun hb => ⟨rfl, fun _ R => ne hb R.lb, nofun⟩, fun b1 => ⟨x.2.2.2.1, r3 3 (by decide), _, hn3, ?_⟩⟩
    dsimp only
    rw [l4]
    refine ⟨fun hb => ⟨rfl, fun _ R => ne hb R.ll, nofun⟩, fun b2 => ⟨x.2.2.2.2, r3 4 (by decide), _, hn3, ?_⟩⟩
    dsimp only
    rw [l5]
    exact ⟨rfl, fun hb R => ne hb R.lu, fun b3 => ⟨eq b1, eq b2, eq b3⟩⟩
  rintro b h4 ⟨rfl, hbt, hbf⟩
  refine ⟨fun hb => K0 (hbt hb) _ e3, fun hb => ?_⟩
  obtain ⟨g1, g2, g3⟩ := hbf hb
  clear hbt hbf hb
  have e03 := e0.trans e3
  refine ⟨x.1, r3 0 (by decide), ?_⟩
  -- who is basic
  refine loop.inv (fun s h' => Ext h4 h' ∧ ∃ i : Nat, s = (i : Int) ∧ i ≤ t.bs.length ∧ ∀ k, k < i → 0 ≤ at0 t.bs k ∧ at0 t.bs k < (t.vs.length : Int) ∧ rowI t.bs (at0 t.bs k) = (k : Int)) (fun s _ => t.bs.length - s.toNat) ⟨Keep.refl _ _, 0, rfl, by omega, fun k hk => by omega⟩ ?_
  rintro _ h5 ⟨e5, i, rfl, hi, hall⟩
  rw [l1]
  have e05 := e03.trans e5
  have hp5 := bJ e5 hp3
  refine ⟨fun hlt => ?_, fun hge => ?_⟩
  · simp only [decide_eq_true_eq] at hlt
    have hib : i < t.bs.length := by omega
    refine RJ.ld (R.ext q.bas e05) (j := i) rfl hib ?_
    have bad : ¬ RowOk t i → ∀ h', Ext h h' → Q false h' := fun hn => K0 fun R => hn (R.rows i (by omega))
    refine seq.cut (fun b h6 => Ext h4 h6 ∧ (b = true → ¬ RowOk t i) ∧ (b = false → 0 ≤ at0 t.bs i ∧ at0 t.bs i < (t.vs.length : Int) ∧ rowI t.bs (at0 t.bs i) = (i : Int))) ?_ ?_
    · refine ⟨fun hb => ⟨e5, fun _ R => ?_, nofun⟩, fun b1 => ⟨_, ah e5 hn3 (by simp), fun hb => ⟨e5, fun _ R => ?_, nofun⟩, fun b2 => ⟨x, hp5, ?_⟩⟩⟩
      · have := of_decide_eq_true hb; have := R.lo; omega
      · have := of_decide_eq_true hb; have := R.hi; omega
      have b1 := of_decide_eq_false b1; have b2 := of_decide_eq_false b2
      refine lN (R.ext q.bas e05) (by omega) fun h6 e6 => ⟨e5.trans e6, fun hb R => ?_, fun b3 => ⟨by omega, by omega, by simpa using b3⟩⟩
      have := R.me; rw [this] at hb; simp at hb
    rintro b h6 ⟨e6, hbt, hbf⟩
    refine ⟨fun hb => bad (hbt hb) _ (e3.trans e6), fun hb => ?_⟩
    have hb3 := hbf hb
    rw [w64 (by omega) (by omega)]
    refine ⟨⟨e6, i + 1, by omega, by omega, fun k hk => ?_⟩, by omega⟩
    by_cases g : k = i
    · subst g; exact hb3
    · exact hall k (by omega)
  simp only [decide_eq_false_iff_not] at hge
  have hbas : ∀ k, k < t.bs.length → 0 ≤ at0 t.bs k ∧ at0 t.bs k < (t.vs.length : Int) ∧ rowI t.bs (at0 t.bs k) = (k : Int) := fun k hk => hall k (by omega)
  clear hall hge hi; clear i
  -- numbers, bounds
  refine uS fun nm h6 hm6 hmb hms hmf e6 hs6 => ⟨⟨_, hm6⟩, hmf, ?_⟩
  have k7 := Keep.setCell h6 nm (FnV.toV (FnV.mk 77 [] []))
  have hm7 := cw (v := FnV.toV (FnV.mk 77 [] [])) hm6
  generalize bz h6 nm (FnV.toV (FnV.mk 77 [] [])) = h7 at *
  have e57 : Ext h5 h7 := e6.fresh (by omega) k7
  have e7 : Ext h4 h7 := e5.trans e57
  have e07 := e03.trans e7
  have hp7 := bJ e7 hp3
  have r7 := pe hp7
  clear hm6 hmf k7
  have sz1000 : B ≤ 1000 := by omega
  refine seq.cut (fun b h8 => Ext h4 h8 ∧ (b = true → ¬ RightT t) ∧ (b = false → (∀ e ∈ t.lo, e.1 = 0 → e.2 = (0, 0)) ∧ ∀ e ∈ t.up, e.1 = 0 → e.2 = (0, 0))) ?_ ?_
  · refine ⟨x.2.2.1, r7 2 (by decide), ?_⟩
    refine abN (R.ext ht e07) hm7 (q.vals.ext DQ.ext' e07) (fun v hv => Nat.le_trans (z.v v hv) sz1000) nv fun h8 e8 => ⟨fun h => (by cases h), fun _ => ?_⟩
    have e08 := e07.trans e8
    have r8 := pe (bJ e8 hp7)
    refine ⟨x.2.2.2.1, r8 3 (by decide), x.2.2.2.2, r8 4 (by decide), ?_⟩
    intro T
    have e9 := Ext.push h8 (.cells [Sl.toV x.2.2.2.1, Sl.toV x.2.2.2.2].toArray T (0, 0))
    have ho := (Own.new (toV := Sl.toV) (h := h8) (ys := [x.2.2.2.1, x.2.2.2.2]) (cs := [Sl.toV x.2.2.2.1, Sl.toV x.2.2.2.2]) (T := T) rfl).r
    generalize h8.push (.cells [Sl.toV x.2.2.2.1, Sl.toV x.2.2.2.2].toArray T (0, 0)) = h9 at *
    have e09 := e08.trans e9
    refine xl (q.lo.ext EQ.ext' e09) (q.up.ext EQ.ext' e09) ho nl nu fun r h10 hr e10 => ?_
    refine ab3 (R.ext ht (e09.trans e10)) hr (fun e he => ?_) (by simp; omega) fun b h11 hb e11 => ⟨e7.trans (e8.trans (e9.trans (e10.trans e11))), fun hbt R => ?_, fun hbf => ?_⟩
    · rcases List.mem_append.1 he with he | he
      · exact Nat.le_trans (z.lo e he) sz1000
      · exact Nat.le_trans (z.up e he) sz1000
    · obtain ⟨e, he, hne⟩ := hb.1 hbt
      rcases List.mem_append.1 he with he | he
      · exact hne (R.lo e he)
      · exact hne (R.up e he)
    · have all : ∀ e ∈ t.lo ++ t.up, e.1 = 0 → e.2 = (0, 0) := fun e he => Classical.byContradiction fun hne => by
        have := hb.2 ⟨e, he, hne⟩; rw [this] at hbf; cases hbf
      exact ⟨fun e he => all e (List.mem_append_left _ he), fun e he => all e (List.mem_append_right _ he)⟩
  rintro b h8 ⟨e8, hbt, hbf⟩
  refine ⟨fun hb => K0 (hbt hb) _ (e3.trans e8), fun hb => ?_⟩
  obtain ⟨elo, eup⟩ := hbf hb
  clear hbt hbf hb
  have e08 := e03.trans e8
  -- rows
  refine ob fun a h9 hb9 hab e9 => ?_
  have e49 := e8.trans e9
  have e09 := e03.trans e49
  have hlim : max (Int.toNat 1048576) 1 = 1048576 := rfl
  rw [hlim] at hb9
  have hs48 := e8.size
  have vb : BO h0 a 1048576 false h9 := ⟨ht, hb9, e09, by have := e08.size; omega⟩
  have hp9 := bJ e49 hp3
  have r9 := pe hp9
  have hpa : p.block ≠ a.block := by omega
  have hnlt : n.block < h4.size := cf hn3
  have hna : n.block ≠ a.block := by omega
  have kE : ∀ {h' : Heap}, Keep (some a.block) h9 h' → Ext h h' := fun k => (e3.trans e49).fresh (by have := e3.size; omega) k
  refine ⟨x.2.1, r9 1 (by decide), ?_⟩
  refine loop.inv (fun s h' => BO h0 a 1048576 false h' ∧ Keep (some a.block) h9 h' ∧ ∃ i : Nat, s = (i : Int) ∧ i ≤ t.ps.length ∧ ∀ k, k < i → RowOk t k) (fun s _ => t.ps.length - s.toNat) ⟨vb, Keep.refl _ _, 0, rfl, by omega, fun k hk => by omega⟩ ?_
  rintro _ h10 ⟨v10, k10, i, rfl, hi, hall⟩
  rw [l2]
  have e010 := v10.ext
  refine ⟨fun hlt => ?_, fun hge => ?_⟩
  · simp only [decide_eq_true_eq] at hlt
    have hi' : i < t.ps.length := by omega
    have hib : i < t.bs.length := by omega
    have hmem := List.getElem_mem hi'
    have hpi := bV hi'
    have pl := z.pl _ hmem; have pc := z.pc _ hmem; have pm := z.pm _ hmem; have prt := z.rt _ hmem
    have bad : ¬ RowOk t i → ∀ h', Ext h h' → Q false h' := fun hn => K0 fun R => hn (R.rows i hi')
    obtain ⟨b1, b2, b3⟩ := hbas i hib
    refine q.rows.ldE e010 (j := i) rfl hi' fun y r => aa fun h11 e11 => ?_
    have v11 := v10.of_ext e11
    have e011 := v11.ext
    refine seq.cut (fun b h12 => BO h0 a 1048576 false h12 ∧ Keep (some a.block) h9 h12 ∧ (b = false ↔ RowOk t i)) ?_ ?_
    · have raw : Raw4 h0 y := PQ.raw r (by omega) (fun m hm => by have := pm m hm; omega)
      have hml := r.m.len
      refine zt (x := y) ht raw e011 (by omega) fun b12 h12 hb12 e12 => ⟨fun hb => ?_, fun _ => ?_⟩
      · have : b12 = true := hb12.2 ⟨_, r, prt⟩
        rw [this] at hb; cases hb
      have v12 := v11.of_ext e12
      have k12 := k10.trans ((Keep.of_ext e11).trans (Keep.of_ext e12))
      refine dw (x := cst y) (r.c.ext v12.ext) fun h13 e13 => ⟨fun hb => ⟨v12.of_ext e13, k12.trans (Keep.of_ext e13), nofun, fun R => ?_⟩, fun hb => ?_⟩
      · have := R.c; rw [hpi] at this; rw [this] at hb; simp at hb
      have hc0 : t.ps[i].1 = 0 := by simpa [bne] using hb
      have v13 := v12.of_ext e13
      have k13 := k12.trans (Keep.of_ext e13)
      have hn13 : cell? h13 n = some (Value.int .i64 ((t.vs.length : Nat) : Int)) := ah k13 (ah e49 hn3 (by simp)) (by simpa using hna)
      have hp13 : cells? h13 p 5 0 = some (CT x) := bf k13 (by simpa using hpa) hp9
      refine ab5 (n := t.vs.length) (t := t) (x := x) (r.m.ext v13.ext) hn13 hp13 (R.ext q.bas v13.ext) nb (by omega) fun b14 h14 hb14 e14 => ?_
      have v14 := v13.of_ext e14
      have k14 := k13.trans (Keep.of_ext e14)
      refine ⟨fun hb => ⟨v14, k14, nofun, fun R => ?_⟩, fun hb => ?_⟩
      · obtain ⟨m, hm, hno⟩ := hb14.1 hb
        exact absurd (R.m m (by rw [hpi]; exact hm)) hno
      have hms : ∀ m ∈ t.ps[i].2, m.1 < (t.vs.length : Int) ∧ rowI t.bs m.1 < 0 := fun m hm => Classical.byContradiction fun hno => by
        have := hb14.2 ⟨m, hm, hno⟩; rw [this] at hb; cases hb
      have hp14 : cells? h14 p 5 0 = some (CT x) := bf k14 (by simpa using hpa) hp9
      have r14 := pe hp14
      obtain ⟨bi, hbi⟩ : ∃ bi : Nat, at0 t.bs i = (bi : Int) := ⟨(at0 t.bs i).toNat, by omega⟩
      have hbv : bi < t.vs.length := by omega
      have hat : atD t.vs (at0 t.bs i) = t.vs[bi] := by rw [rD (by omega)]; congr 1; omega
      refine ⟨x.2.2.1, r14 2 (by decide), x.2.2.1, r14 2 (by decide), x.1, r14 0 (by decide), RJ.ldB q.bas v14.ext (j := i) rfl hib fun a3 hc3 => ?_⟩
      refine q.vals.atB v14.ext (j := bi) hbi hbv fun a4 y4 hc4 r4 => ⟨y4, bJ v14.ext hc4, ?_⟩
      rw [← hat] at r4
      have hlL : t.ps[i].2.length * (2 * B + 4) ≤ L * (2 * B + 4) := Nat.mul_le_mul_right _ pl
      have inv : inV t.vs.length t.ps[i].2 := fun m hm => ⟨prt.nn m hm, (hms m hm).1⟩
      have ha3 : a3.block < h0.size := cf hc3
      have ha4 : a4.block < h0.size := aee hc4 (by decide)
      have hold := v14.old
      refine zT (x := y) v14 r q.vals inv pm z.v (by omega) (by decide) (by omega) (by omega) fun r15 h15 v15 k15 hr15 => ?_
      have k915 := k14.trans k15
      have r15c := pe (bf k915 (by simpa using hpa) hp9)
      have e15 := v15.ext
      refine ⟨r15c 2 (by decide), r15c 0 (by decide), ah e15 hc3 (by simp), ?_, ?_⟩
      · have := bJ e15 hc4
        simpa [C6, ae] using this
      have fB := fv z.v
      have hvs := acL fB pm
      have hvb := fB (at0 t.bs i)
      refine wR (x := r15) (y := y4) hr15.dq (r4.ext e15) (by omega) (by have := e15.size; omega) fun h16 e16 => ⟨v15.of_ext e16, k915.trans (Keep.of_ext e16), ?_⟩
      constructor
      · intro hb
        have hb : valV (atD t.vs) t.ps[i].2 = atD t.vs (at0 t.bs i) := by simpa using hb
        exact ⟨b1, b2, b3, by rw [hpi]; exact hc0, by rw [hpi]; exact hms, by rw [hpi]; exact hb⟩
      · intro R
        have := R.v
        rw [hpi] at this
        simp [this]
    rintro b h12 ⟨v12, k12, hb⟩
    refine ⟨fun hbt => bad (fun R => ?_) _ (kE k12), fun hbf => ?_⟩
    · have := hb.2 R; rw [this] at hbt; cases hbt
    · rw [w64 (by omega) (by omega)]
      refine ⟨⟨v12, k12, i + 1, by omega, by omega, fun k hk => ?_⟩, by omega⟩
      by_cases g : k = i
      · subst g; exact hb.1 hbf
      · exact hall k (by omega)
  · simp only [decide_eq_false_iff_not] at hge
    exact K true h10 ⟨fun _ => ⟨g1, g2, g3, elo, eup, fun k hk => hall k (by omega)⟩, fun _ => rfl⟩ (kE k10)
end Go.Sh

namespace Go.Sh
open Go Go.Lift
section
variable {B : Nat} {h : Heap} {s : Sl} {ys : List One} {a : Addr}
theorem Own.can (ho : Own (Subtype.val : One → Value) B h s ys) (ha : s.a = some a) : ∀ (n i : Nat), i + n ≤ ys.length → fU h a n i
  | 0, _, _ => trivial
  | n + 1, i, hi => by
    obtain ⟨h1, h2, _⟩ := ho.store (i := i) (by omega) ha (⟨.bool true, rfl⟩ : One) (k := fun _ => True) (fun _ _ _ _ => trivial)
    exact ⟨h1, h2, Own.can ho ha n (i + 1) (by omega)⟩
theorem Own.stL (ho : Own (Subtype.val : One → Value) B h s ys) (ha : s.a = some a) : ∀ (vs : List One) (i : Nat), i + vs.length ≤ ys.length → ∃ zs : List One, Own (Subtype.val : One → Value) B (cL h a (vs.map Subtype.val) i) s zs ∧ Keep s.blk h (cL h a (vs.map Subtype.val) i) ∧ (cL h a (vs.map Subtype.val) i).size = h.size ∧
    zs.length = ys.length ∧ ∀ k, zs[k]? = if i ≤ k ∧ k < i + vs.length then vs[k - i]? else ys[k]? := by
  intro vs
  induction vs generalizing h ys with
  | nil => intro i hi; exact ⟨ys, ho, Keep.refl _ _, rfl, rfl, fun k => by rw [if_neg (by simp)]⟩
  | cons v vs ih =>
    intro i hi
    simp only [List.length_cons] at hi
    obtain ⟨_, _, o1, k1, s1⟩ := ho.store (i := i) (by omega) ha v (k := fun h' => Own (Subtype.val : One → Value) B h' s (ys.set i v) ∧ Keep s.blk h h' ∧ h'.size = h.size) (fun h' a b c => ⟨a, b, c⟩)
    obtain ⟨zs, o2, k2, s2, l2, g2⟩ := ih o1 (i + 1) (by rw [List.length_set]; omega)
    refine ⟨zs, o2, k1.trans k2, s2.trans s1, by rw [l2, List.length_set], fun k => ?_⟩
    rw [g2]
    by_cases e : k = i
    · subst e
      rw [if_neg (by omega), if_pos (by simp), List.getElem?_set_self (by omega)]
      simp
    · by_cases g : i + 1 ≤ k ∧ k < i + 1 + vs.length
      · rw [if_pos g, if_pos (by simp only [List.length_cons]; omega)]
        have : k - i = (k - (i + 1)) + 1 := by omega
        rw [this, List.getElem?_cons_succ]
      · rw [if_neg g, if_neg (by simp only [List.length_cons]; omega), List.getElem?_set_ne (by omega)]
end
theorem xt {h : Heap} {a : Addr} {n : Nat} : ∀ (vs : List Value) (i : Nat), cL h (a.add n) vs i = cL h a vs (n + i) := by
  intro vs
  induction vs generalizing h with
  | nil => intro i; rfl
  | cons v vs ih => intro i; simp only [cL]; rw [cr, ih]; rfl
theorem tn {h : Heap} {a : Addr} {n : Nat} : ∀ (m i : Nat), fU h (a.add n) m i ↔ fU h a m (n + i)
  | 0, _ => Iff.rfl
  | m + 1, i => by simp only [fU]; rw [cr, tn m (i + 1)]; rfl
section
variable {α : Type} {toC : α → List Value} {sz B : Nat} {h h' : Heap} {s : Sl} {xs : List α}
theorem ad1 (hsz : ∀ x, (toC x).length = sz) {xs : List α} {j : Nat} {y : α} (hj : j < xs.length) (h0 : 0 < sz) : ∀ k, (flat toC (xs.set j y))[k]? = if j * sz ≤ k ∧ k < j * sz + sz then (toC y)[k - j * sz]? else (flat toC xs)[k]? := by
  intro k
  have hl1 := di hsz (xs.set j y)
  have hl2 := di hsz xs
  rw [List.length_set] at hl1
  by_cases hk : k < xs.length * sz
  · have hi : k / sz < xs.length := by rw [Nat.div_lt_iff_lt_mul h0]; exact hk
    have hr := Nat.mod_lt k h0
    have he : k / sz * sz + k % sz = k := by rw [Nat.mul_comm]; exact Nat.div_add_mod k sz
    have g1 := nY hsz (xs.set j y) (k / sz) (by rw [List.length_set]; exact hi) (k % sz) hr
    have g2 := nY hsz xs (k / sz) hi (k % sz) hr
    rw [he] at g1 g2
    rw [g1, g2]
    by_cases e : k / sz = j
    · have hjk : j * sz ≤ k ∧ k < j * sz + sz := by rw [e] at he; omega
      rw [if_pos hjk]
      have : k % sz = k - j * sz := by rw [e] at he; omega
      rw [this]
      congr 1
      simp [e]
    · have hjk : ¬ (j * sz ≤ k ∧ k < j * sz + sz) := by
        rintro ⟨h1, h2⟩
        apply e
        exact Nat.div_eq_of_lt_le (by omega) (by rw [Nat.add_mul, Nat.one_mul]; omega)
      rw [if_neg hjk]
      congr 1
      rw [List.getElem_set_ne (fun h => e h.symm)]
  · have : (j + 1) * sz ≤ xs.length * sz := Nat.mul_le_mul_right _ hj
    rw [Nat.add_mul, Nat.one_mul] at this
    rw [if_neg (by omega), List.getElem?_eq_none (l := flat toC (xs.set j y)) (by omega), List.getElem?_eq_none (l := flat toC xs) (by omega)]
theorem OwnS.stS {i : Int} {j : Nat} {y : α} {k : Heap → Prop} (ho : OwnS toC sz B h s xs) (hsz : ∀ x, (toC x).length = sz) (h0 : 0 < sz) (hone : aN (toC y) = true) (hij : i = (j : Int)) (hj : j < xs.length)
    (K : ∀ h', OwnS toC sz B h' s (xs.set j y) → Keep s.blk h h' → h'.size = h.size → k h') : idxS s i sz fun a => da a (toC y) h k := by
  subst hij
  obtain ⟨hl, ys, h1, h2⟩ := ho
  obtain ⟨vs, hv⟩ := rA hone
  have hvl : vs.length = sz := by have := congrArg List.length hv; rw [hsz, List.length_map] at this; exact this.symm
  have hyl : ys.length = xs.length * sz := by have := congrArg List.length h1; rw [di hsz, List.length_map] at this; exact this.symm
  have hjs : j * sz + sz ≤ ys.length := by
    have : (j + 1) * sz ≤ xs.length * sz := Nat.mul_le_mul_right _ hj
    rw [Nat.add_mul, Nat.one_mul] at this; omega
  obtain ⟨a, ha, _⟩ := h2.r.get (i := j * sz) (by omega)
  have ha' : (Sl.sc sz s).a = some a := ha
  refine ⟨a, ha, ⟨by omega, by omega⟩, ?_⟩
  simp only [Int.toNat_natCast]
  rw [da, hsz, tn, xt, Nat.add_zero]
  refine ⟨Own.can h2 ha' sz (j * sz) hjs, ?_⟩
  obtain ⟨zs, o, kk, ss, lz, gz⟩ := Own.stL h2 ha' vs (j * sz) (by omega)
  rw [← hv] at o kk ss
  refine K _ ⟨by rw [List.length_set]; exact hl, zs, ?_, o⟩ (by simpa [Sl.sc_blk] using kk) ss
  apply List.ext_getElem?
  intro k
  rw [ad1 hsz hj h0, List.getElem?_map, gz, hvl]
  by_cases g : j * sz ≤ k ∧ k < j * sz + sz
  · rw [if_pos g, if_pos g, hv, List.getElem?_map]
  · rw [if_neg g, if_neg g, h1, List.getElem?_map]
theorem afV {α : Type} {toC : α → List Value} {sz bytes n : Nat} {z : α} {zs : List Value} {i : Int} {h : Heap} {k : Sl → Heap → Prop} (hi : i = (n : Int)) (hn : n ≤ 100000) (hb : bytes ≤ 200) (hzs : zs = toC z) (hsz : ∀ x, (toC x).length = sz) (hone : aN (toC z) = true)
    (K : ∀ s h', OwnS toC sz h.size h' s (List.replicate n z) → Ext h h' → s.blk = some h.size → h'.size = h.size + 1 → k s h') : mkS zs bytes i i h k := by
  subst hi hzs
  have hbb : n * bytes ≤ 100000 * 200 := Nat.mul_le_mul hn hb
  refine ⟨⟨by omega, by omega, ?_⟩, fun T => ?_⟩
  · have : ((n * bytes : Nat) : Int) ≤ 2 ^ 46 := by have : (n * bytes : Nat) ≤ 2 ^ 46 := by omega
                                                    exact_mod_cast this
    rw [← Int.natCast_mul]; exact this
  · simp only [Int.toNat_natCast]
    have e : List.flatten (List.replicate n (toC z)) = flat toC (List.replicate n z) := by simp [flat]
    rw [e]
    have ho1 : aN (flat toC (List.replicate n z)) = true := by
      unfold flat aN
      rw [List.all_flatten, List.all_eq_true]
      intro l hl
      obtain ⟨y, hy, rfl⟩ := List.mem_map.1 hl
      rw [(List.mem_replicate.1 hy).2]; exact hone
    obtain ⟨us, hu⟩ := rA ho1
    have hul : us.length = n * sz := by have := congrArg List.length hu; rw [di hsz, List.length_replicate, List.length_map] at this; exact this.symm
    have ho := Own.new (toV := (Subtype.val : One → Value)) (h := h) (ys := us) (cs := flat toC (List.replicate n z)) (T := T) hu
    rw [hul] at ho
    exact K _ _ ⟨by simp, us, hu, ho⟩ (Ext.push _ _) rfl (by simp)
end
end Go.Sh

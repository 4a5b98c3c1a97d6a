/-
  Laws that the proof of this claim's statement leans on, each proved under the conditions that it states.
-/
import Derived.Test.YtmcfhickfcmkkaaGreatDoorUC
import Derived.Test.YtmcfhickfcmkkaaGreatDoorSpW
set_option linter.unusedVariables false
set_option linter.unusedSimpArgs false
namespace Go.Sh
open Go Go.Lift
theorem aiL {h : Heap} {x : X3} {p q : Rat} (hp : RQ h x p) (hq : RQ h x q) : p = q := by
  have h1 := hp.num.uniq hq.num
  have h2 := hp.den.uniq hq.den
  have h3 : decide (p.num < 0) = decide (q.num < 0) := hp.neg.symm.trans hq.neg
  have h3 : p.num < 0 ↔ q.num < 0 := by simpa using h3
  have h4 : p.den = q.den := by
    unfold dn at h2
    have := p.den_pos; have := q.den_pos
    split at h2 <;> split at h2 <;> omega
  have h5 : p.num = q.num := by omega
  exact Rat.ext h5 h4
theorem PQ.uniq {h : Heap} {x : X4} {p q : Rat × PL} (hp : PQ h x p) (hq : PQ h x q) : p = q := by
  have h1 := aiL hp.c hq.c
  obtain ⟨ys, r1, a1⟩ := hp.m.row
  obtain ⟨zs, r2, a2⟩ := hq.m.row
  have e := afM r1 r2
  rw [e] at a2
  refine Prod.ext h1 (List.ext_getElem (by rw [← a1.length, ← a2.length]) fun i i1 i2 => ?_)
  have i3 : i < ys.length := by rw [a1.length]; exact i1
  have g1 := a1.get i i3 i1
  have g2 := a2.get i i3 i2
  exact Prod.ext (g1.1.symm.trans g2.1) (aiL g1.2.rq g2.2.rq)
def wsum (f : Int → Rat × Rat) (l : PL) : Nat := (l.map fun m => szQ m.2 + szD (f m.1) + 4).sum
theorem ahz {f : Int → Rat × Rat} (l : PL) : szD (valV f l) ≤ wsum f l := by
  suffices h : ∀ n (l : PL), l.length = n → szD (valV f l) ≤ wsum f l from h _ l rfl
  intro n
  induction n with
  | zero => intro l hl; have := List.eq_nil_of_length_eq_zero hl; subst this; rw [af1, wq]; omega
  | succ n ih =>
    intro l hl
    have hne : l ≠ [] := by rintro rfl; simp at hl
    obtain ⟨l', m, rfl⟩ : ∃ l' m, l = l' ++ [m] := ⟨_, _, (List.dropLast_concat_getLast hne).symm⟩
    have ih' := ih l' (by simpa using hl)
    have hw : wsum f (l' ++ [m]) = wsum f l' + (szQ m.2 + szD (f m.1) + 4) := by
      unfold wsum; rw [List.map_append, List.sum_append]; simp only [List.map_cons, List.map_nil, List.sum_cons, List.sum_nil, Nat.add_zero]
    rw [hw, x8]
    have h1 := afX (valV f l') (scD m.2 (f m.1))
    have h2 := acx m.2 (f m.1)
    omega
theorem ahU {f : Int → Rat × Rat} (l : PL) {j : Nat} (hj : j < l.length) : wsum f (l.take j) + (szQ l[j].2 + szD (f l[j].1) + 4) ≤ wsum f l := by
  have e1 : wsum f (l.take (j + 1)) = wsum f (l.take j) + (szQ l[j].2 + szD (f l[j].1) + 4) := by
    unfold wsum; rw [List.take_succ_eq_append_getElem hj, List.map_append, List.sum_append]; simp only [List.map_cons, List.map_nil, List.sum_cons, List.sum_nil, Nat.add_zero]
  have e2 : wsum f l = wsum f (l.take (j + 1)) + wsum f (l.drop (j + 1)) := by
    unfold wsum; rw [← List.sum_append, ← List.map_append, List.take_append_drop]
  omega
structure TFit (t : TT) : Prop where
  pl : ∀ p ∈ t.ps, p.2.length ≤ 1000
  pc : ∀ p ∈ t.ps, szQ p.1 ≤ 1000
  pm : ∀ p ∈ t.ps, ∀ m ∈ p.2, szQ m.2 ≤ 1000
  v : ∀ v ∈ t.vs, szD v ≤ 800
  lo : ∀ e ∈ t.lo, szD e.2 ≤ 1000
  up : ∀ e ∈ t.up, szD e.2 ≤ 1000
  nb : t.bs.length ≤ 1000
  np : t.ps.length ≤ 1000
  nv : t.vs.length ≤ 1000
  nl : t.lo.length ≤ 1000
  nu : t.up.length ≤ 1000
  sm : ∀ p ∈ t.ps, Rt p → (∀ m ∈ p.2, m.1 < (t.vs.length : Int)) → wsum (atD t.vs) p.2 ≤ 1800
section
variable {h0 h : Heap} {a : Addr} {lim : Nat}
theorem adx {x : X4} {p : Rat × PL} {s : Sl} {vs : DL} {Q : X6 → Heap → Prop} (hv : BO h0 a lim false h) (hp : PQ h0 x p) (hs : RowQ C6 6 DQ h0 s vs) (hin : inV vs.length p.2) (hL : wsum (atD vs) p.2 ≤ 2700) (hlim : 2700 ≤ lim)
    (hl : p.2.length ≤ 1000) (hvl : vs.length ≤ 1000)
    (K : ∀ r h', BO h0 a lim false h' → Keep (some a.block) h h' → DF a.block h' r (valV (atD vs) p.2) → Q r h') : nA (some a) x s h Q := by
  have hlen := hp.m.len
  refine ak fun h1 e1 => ?_
  have v1 := hv.of_ext e1
  refine loop.inv (fun t h' => ∃ j : Nat, t.1 = (j : Int) ∧ j ≤ p.2.length ∧ BO h0 a lim false h' ∧ Keep (some a.block) h h' ∧ DF a.block h' t.2 (valV (atD vs) (p.2.take j))) (fun t _ => p.2.length - t.1.toNat)
    ⟨0, rfl, by omega, v1, Keep.of_ext e1, by rw [List.take_zero, af1]; exact DF.zero⟩ ?_
  rintro ⟨_, w⟩ h2 ⟨j, rfl, hj, v2, k2, hw⟩
  dsimp only at hw ⊢
  rw [hlen]
  refine ⟨fun hlt => ?_, fun hge => ?_⟩
  · simp only [decide_eq_true_eq] at hlt
    have hj' : j < p.2.length := by omega
    have hmem := List.getElem_mem hj'
    have htk := List.take_succ_eq_append_getElem hj'
    obtain ⟨i1, i2⟩ := hin _ hmem
    have hts := ahz (f := atD vs) (p.2.take j)
    have htk2 := ahU (f := atD vs) p.2 hj'
    have hvt : p.2[j].1.toNat < vs.length := by omega
    refine hp.m.atE v2.ext (i := (j : Int)) (j := j) rfl hj' fun a1 y hy hy1 hy2 => ⟨y, hy, ak fun h3 e3 => ?_⟩
    have v3 := v2.of_ext e3
    have i3 : y.1 = ((p.2[j].1.toNat : Nat) : Int) := by omega
    have eD : atD vs p.2[j].1 = vs[p.2[j].1.toNat] := ahx hvt
    refine hs.ldE v3.ext (i := y.1) (j := p.2[j].1.toNat) i3 hvt fun z hz => ?_
    rw [← eD] at hz
    generalize hdv : atD vs p.2[j].1 = dv at *
    generalize hm : p.2[j] = m at *
    have hk : RF a.block h3 (co y) m.2 := hy2.rq.rf v3.ext v3.old
    have hz3 : DF a.block h3 z dv := hz.df v3.ext v3.old
    have z1 := acx m.2 dv
    have lim1 : (false || decide (lim < szD (scD m.2 dv))) = false := by simp; omega
    refine afc v3.tb v3.bench hk hz3 (by omega) fun r4 h4 hb4 k4 hr4 f4 => ?_
    rw [lim1] at hb4 hr4
    have v4 := v3.keep hb4 k4
    have hw4 := (hw.ext e3).keep k4
    have z2 := afX (valV (atD vs) (p.2.take j)) (scD m.2 dv)
    have lim2 : (false || decide (lim < szD (addD (valV (atD vs) (p.2.take j)) (scD m.2 dv)))) = false := by simp; omega
    refine ahK v4.tb v4.bench hw4 hr4 (by simp only [valD]; simp only [Bool.false_eq_true, if_false]; omega) fun r5 h5 hb5 k5 hr5 f5 => ?_
    simp only [valD, Bool.false_eq_true, if_false] at hb5 hr5
    rw [lim2] at hb5 hr5
    simp only [Bool.false_eq_true, if_false] at hr5
    refine ⟨⟨j + 1, by rw [w64 (by omega) (by omega)]; simp, by omega, v4.keep hb5 k5, (((k2.trans (Keep.of_ext e3)).trans k4).trans k5), ?_⟩, by (try dsimp only); rw [w64 (by omega) (by omega)]; omega⟩
    rw [htk, x8, hdv]
    exact hr5
  · simp only [decide_eq_false_iff_not] at hge
    have : j = p.2.length := by omega
    subst this
    rw [List.take_length] at hw
    exact K _ h2 v2 k2 hw
end
section
variable {h0 h : Heap} {x : S5} {t : TT}
theorem adl {Q : Bool → Heap → Prop} (ht : Tab h0) (q : TQ h0 x t) (e0 : Ext h0 h) (z : TFit t) (K : ∀ b h', (b = true ↔ RightT t ∧ ∀ p ∈ t.ps, Rt p) → Ext h h' → Q b h') : kM x h Q := by
  have nb := z.nb; have np := z.np; have nv := z.nv; have nl := z.nl; have nu := z.nu
  have l1 := q.bas.len; have l2 := q.rows.len; have l3 := q.vals.len; have l4 := q.lo.len; have l5 := q.up.len
  have K0 : ¬ RightT t → ∀ h', Ext h h' → Q false h' := fun hn h' e => K false h' ⟨nofun, fun hh => absurd hh.1 hn⟩ e
  have K1 : ∀ p ∈ t.ps, ¬ Rt p → ∀ h', Ext h h' → Q false h' := fun p hp hn h' e => K false h' ⟨nofun, fun hh => absurd (hh.2 p hp) hn⟩ e
  have hz : 0 < h0.size := by have := _root_.Go.Lift.R.lt ht rfl (by decide); omega
  refine aii fun p h1 hp hpb e1 => ?_
  have hp : cells? h1 p 5 0 = some (CT x) := hp
  have s01 := e0.size; have s1 := e1.size
  have r1 := yn hp
  refine ⟨_, r1 2 (by decide), cG fun n h2 hn hnb hns hnf e2 hn2 => ?_⟩
  have hplt : p.block < h1.size := by have := hO (r1 0 (by decide)); rwa [aj] at this
  refine ⟨⟨_, hn⟩, hnf, ?_⟩
  rw [show ((x.2.2.1.len : Nat) : Int) = ((t.vs.length : Nat) : Int) by rw [l3]]
  have k3 := Keep.setCell h2 n (Value.int .i64 ((t.vs.length : Nat) : Int))
  have hn3 := bK (v := Value.int .i64 ((t.vs.length : Nat) : Int)) hn
  generalize aS h2 n (Value.int .i64 ((t.vs.length : Nat) : Int)) = h3 at *
  have e13 : Ext h1 h3 := e2.fresh (by omega) k3
  have e3 : Ext h h3 := e1.trans e13
  have hp3 := aO e13 hp
  clear hn hnf k3
  have r3 := yn hp3
  have s3 := e13.size
  refine seq.cut (fun b h4 => h4 = h3 ∧ (b = true → ¬ RightT t) ∧ (b = false → t.bs.length = t.ps.length ∧ t.lo.length = t.vs.length ∧ t.up.length = t.vs.length)) ?_ ?_
  · have ne : ∀ {a b : Nat}, (((a : Nat) : Int) != ((b : Nat) : Int)) = true → a ≠ b := fun h e => by rw [e] at h; simp at h
    have eq : ∀ {a b : Nat}, (((a : Nat) : Int) != ((b : Nat) : Int)) = false → a = b := fun h => by
      have := (bne_eq_false_iff_eq).1 h; omega
    refine ⟨x.1, r3 0 (by decide), x.2.1, r3 1 (by decide), ?_⟩
    dsimp only
    rw [l1, l2]
    refine ⟨fun hb => ⟨rfl, fun _ R => ne hb R.lb, nofun⟩, fun b1 => ⟨x.2.2.2.1, r3 3 (by decide), _, hn3, ?_⟩⟩
    dsimp only
    rw [l4]
    refine ⟨fun hb => ⟨rfl, fun _ R => ne hb R.ll, nofun⟩, fun b2 => ⟨x.2.2.2.2, r3 4 (by decide), _, hn3, ?_⟩⟩
    dsimp only
    rw [l5]
    exact ⟨rfl, fun hb R => ne hb R.lu, fun b3 => ⟨eq b1, eq b2, eq b3⟩⟩
  rintro b h4 ⟨rfl, hbt, hbf⟩
  refine ⟨fun hb => K0 (hbt hb) _ e3, fun hb => ?_⟩
  obtain ⟨g1, g2, g3⟩ := hbf hb
  clear hbt hbf hb
  have e03 := e0.trans e3
  refine ⟨x.1, r3 0 (by decide), ?_⟩
  refine loop.inv (fun s h' => Ext h4 h' ∧ ∃ i : Nat, s = (i : Int) ∧ i ≤ t.bs.length ∧ ∀ k, k < i → 0 ≤ at0 t.bs k ∧ at0 t.bs k < (t.vs.length : Int) ∧ rowI t.bs (at0 t.bs k) = (k : Int)) (fun s _ => t.bs.length - s.toNat) ⟨Keep.refl _ _, 0, rfl, by omega, fun k hk => by omega⟩ ?_
  rintro _ h5 ⟨e5, i, rfl, hi, hall⟩
  rw [l1]
  have e05 := e03.trans e5
  have hp5 := aO e5 hp3
  refine ⟨fun hlt => ?_, fun hge => ?_⟩
  · simp only [decide_eq_true_eq] at hlt
    have hib : i < t.bs.length := by omega
    refine RJ.ld (R.ext q.bas e05) (j := i) rfl hib ?_
    have bad : ¬ RowOk t i → ∀ h', Ext h h' → Q false h' := fun hn => K0 fun R => hn (R.rows i (by omega))
    refine seq.cut (fun b h6 => Ext h4 h6 ∧ (b = true → ¬ RowOk t i) ∧ (b = false → 0 ≤ at0 t.bs i ∧ at0 t.bs i < (t.vs.length : Int) ∧ rowI t.bs (at0 t.bs i) = (i : Int))) ?_ ?_
    · refine ⟨fun hb => ⟨e5, fun _ R => ?_, nofun⟩, fun b1 => ⟨_, ao e5 hn3 (by simp), fun hb => ⟨e5, fun _ R => ?_, nofun⟩, fun b2 => ⟨x, hp5, ?_⟩⟩⟩
      · have := of_decide_eq_true hb; have := R.lo; omega
      · have := of_decide_eq_true hb; have := R.hi; omega
      have b1 := of_decide_eq_false b1; have b2 := of_decide_eq_false b2
      refine adp (R.ext q.bas e05) (by omega) fun h6 e6 => ⟨e5.trans e6, fun hb R => ?_, fun b3 => ⟨by omega, by omega, by simpa using b3⟩⟩
      have := R.me; rw [this] at hb; simp at hb
    rintro b h6 ⟨e6, hbt, hbf⟩
    refine ⟨fun hb => bad (hbt hb) _ (e3.trans e6), fun hb => ?_⟩
    have hb3 := hbf hb
    rw [w64 (by omega) (by omega)]
    refine ⟨⟨e6, i + 1, by omega, by omega, fun k hk => ?_⟩, by omega⟩
    by_cases g : k = i
    · subst g; exact hb3
    · exact hall k (by omega)
  simp only [decide_eq_false_iff_not] at hge
  have hbas : ∀ k, k < t.bs.length → 0 ≤ at0 t.bs k ∧ at0 t.bs k < (t.vs.length : Int) ∧ rowI t.bs (at0 t.bs k) = (k : Int) := fun k hk => hall k (by omega)
  clear hall hge hi; clear i
  refine cG fun nm h6 hm6 hmb hms hmf e6 hs6 => ⟨⟨_, hm6⟩, hmf, ?_⟩
  have k7 := Keep.setCell h6 nm (FnV.toV (FnV.mk 84 [] []))
  have hm7 := bK (v := FnV.toV (FnV.mk 84 [] [])) hm6
  generalize aS h6 nm (FnV.toV (FnV.mk 84 [] [])) = h7 at *
  have e57 : Ext h5 h7 := e6.fresh (by omega) k7
  have e7 : Ext h4 h7 := e5.trans e57
  have e07 := e03.trans e7
  have hp7 := aO e7 hp3
  have r7 := yn hp7
  clear hm6 hmf k7
  refine seq.cut (fun b h8 => Ext h4 h8 ∧ (b = true → ¬ RightT t) ∧ (b = false → (∀ e ∈ t.lo, e.1 = 0 → e.2 = (0, 0)) ∧ ∀ e ∈ t.up, e.1 = 0 → e.2 = (0, 0))) ?_ ?_
  · refine ⟨x.2.2.1, r7 2 (by decide), ?_⟩
    refine agJ (R.ext ht e07) hm7 (q.vals.ext DQ.ext' e07) (fun v hv => Nat.le_trans (z.v v hv) (by decide)) nv fun h8 e8 => ⟨fun h => (by cases h), fun _ => ?_⟩
    have e08 := e07.trans e8
    have r8 := yn (aO e8 hp7)
    refine ⟨x.2.2.2.1, r8 3 (by decide), x.2.2.2.2, r8 4 (by decide), ?_⟩
    intro T
    have e9 := Ext.push h8 (.cells [Sl.toV x.2.2.2.1, Sl.toV x.2.2.2.2].toArray T (0, 0))
    have ho := (Own.new (toV := Sl.toV) (h := h8) (ys := [x.2.2.2.1, x.2.2.2.2]) (cs := [Sl.toV x.2.2.2.1, Sl.toV x.2.2.2.2]) (T := T) rfl).r
    generalize h8.push (.cells [Sl.toV x.2.2.2.1, Sl.toV x.2.2.2.2].toArray T (0, 0)) = h9 at *
    have e09 := e08.trans e9
    refine ada (q.lo.ext EQ.ext' e09) (q.up.ext EQ.ext' e09) ho nl nu fun r h10 hr e10 => ?_
    refine agY (R.ext ht (e09.trans e10)) hr (fun e he => ?_) (by simp; omega) fun b h11 hb e11 => ⟨e7.trans (e8.trans (e9.trans (e10.trans e11))), fun hbt R => ?_, fun hbf => ?_⟩
    · rcases List.mem_append.1 he with he | he
      · exact z.lo e he
      · exact z.up e he
    · obtain ⟨e, he, hne⟩ := hb.1 hbt
      rcases List.mem_append.1 he with he | he
      · exact hne (R.lo e he)
      · exact hne (R.up e he)
    · have all : ∀ e ∈ t.lo ++ t.up, e.1 = 0 → e.2 = (0, 0) := fun e he => Classical.byContradiction fun hne => by
        have := hb.2 ⟨e, he, hne⟩; rw [this] at hbf; cases hbf
      exact ⟨fun e he => all e (List.mem_append_left _ he), fun e he => all e (List.mem_append_right _ he)⟩
  rintro b h8 ⟨e8, hbt, hbf⟩
  refine ⟨fun hb => K0 (hbt hb) _ (e3.trans e8), fun hb => ?_⟩
  obtain ⟨elo, eup⟩ := hbf hb
  clear hbt hbf hb
  have e08 := e03.trans e8
  refine afS fun a h9 hb9 hab e9 => ?_
  have e49 := e8.trans e9
  have e09 := e03.trans e49
  have hlim : max (Int.toNat 1048576) 1 = 1048576 := rfl
  rw [hlim] at hb9
  have hs48 := e8.size
  have vb : BO h0 a 1048576 false h9 := ⟨ht, hb9, e09, by have := e08.size; omega⟩
  have hp9 := aO e49 hp3
  have r9 := yn hp9
  have hpa : p.block ≠ a.block := by omega
  have hnlt : n.block < h4.size := hO hn3
  have hna : n.block ≠ a.block := by omega
  have kE : ∀ {h' : Heap}, Keep (some a.block) h9 h' → Ext h h' := fun k => (e3.trans e49).fresh (by have := e3.size; omega) k
  refine ⟨x.2.1, r9 1 (by decide), ?_⟩
  refine loop.inv (fun s h' => BO h0 a 1048576 false h' ∧ Keep (some a.block) h9 h' ∧ ∃ i : Nat, s = (i : Int) ∧ i ≤ t.ps.length ∧ ∀ k, k < i → RowOk t k ∧ ∃ hk : k < t.ps.length, Rt t.ps[k]) (fun s _ => t.ps.length - s.toNat) ⟨vb, Keep.refl _ _, 0, rfl, by omega, fun k hk => by omega⟩ ?_
  rintro _ h10 ⟨v10, k10, i, rfl, hi, hall⟩
  rw [l2]
  have e010 := v10.ext
  refine ⟨fun hlt => ?_, fun hge => ?_⟩
  · simp only [decide_eq_true_eq] at hlt
    have hi' : i < t.ps.length := by omega
    have hib : i < t.bs.length := by omega
    have hmem := List.getElem_mem hi'
    have hpi := alp hi'
    have pl := z.pl _ hmem; have pc := z.pc _ hmem; have pm := z.pm _ hmem
    have bad : ¬ RowOk t i → ∀ h', Ext h h' → Q false h' := fun hn => K0 fun R => hn (R.rows i hi')
    obtain ⟨b1, b2, b3⟩ := hbas i hib
    refine q.rows.ldE e010 (j := i) rfl hi' fun y r => ak fun h11 e11 => ?_
    have v11 := v10.of_ext e11
    have e011 := v11.ext
    refine seq.cut (fun b h12 => BO h0 a 1048576 false h12 ∧ Keep (some a.block) h9 h12 ∧ (b = false ↔ RowOk t i ∧ Rt t.ps[i])) ?_ ?_
    · have raw : Raw4 h0 y := PQ.raw r (by omega) (fun m hm => by have := pm m hm; omega)
      have hml := r.m.len
      refine xF (x := y) ht raw e011 (by omega) fun b12 h12 hb12 e12 => ⟨fun hb => ⟨v11.of_ext e12, k10.trans ((Keep.of_ext e11).trans (Keep.of_ext e12)), nofun, fun R => ?_⟩, fun hbr => ?_⟩
      · have : b12 = true := hb12.2 ⟨_, r, R.2⟩
        rw [this] at hb; cases hb
      have prt : Rt t.ps[i] := by
        obtain ⟨p', hp', hrt⟩ := hb12.1 (by simpa using hbr)
        rw [r.uniq hp']; exact hrt
      have v12 := v11.of_ext e12
      have k12 := k10.trans ((Keep.of_ext e11).trans (Keep.of_ext e12))
      refine xB (x := cst y) (r.c.ext v12.ext) fun h13 e13 => ⟨fun hb => ⟨v12.of_ext e13, k12.trans (Keep.of_ext e13), nofun, fun R => ?_⟩, fun hb => ?_⟩
      · have := R.1.c; rw [hpi] at this; rw [this] at hb; simp at hb
      have hc0 : t.ps[i].1 = 0 := by simpa [bne] using hb
      have v13 := v12.of_ext e13
      have k13 := k12.trans (Keep.of_ext e13)
      have hn13 : cell? h13 n = some (Value.int .i64 ((t.vs.length : Nat) : Int)) := ao k13 (ao e49 hn3 (by simp)) (by simpa using hna)
      have hp13 : cells? h13 p 5 0 = some (CT x) := gW k13 (by simpa using hpa) hp9
      refine ag7 (n := t.vs.length) (t := t) (x := x) (r.m.ext v13.ext) hn13 hp13 (R.ext q.bas v13.ext) nb (by omega) fun b14 h14 hb14 e14 => ?_
      have v14 := v13.of_ext e14
      have k14 := k13.trans (Keep.of_ext e14)
      refine ⟨fun hb => ⟨v14, k14, nofun, fun R => ?_⟩, fun hb => ?_⟩
      · obtain ⟨m, hm, hno⟩ := hb14.1 hb
        exact absurd (R.1.m m (by rw [hpi]; exact hm)) hno
      have hms : ∀ m ∈ t.ps[i].2, m.1 < (t.vs.length : Int) ∧ rowI t.bs m.1 < 0 := fun m hm => Classical.byContradiction fun hno => by
        have := hb14.2 ⟨m, hm, hno⟩; rw [this] at hb; cases hb
      have hp14 : cells? h14 p 5 0 = some (CT x) := gW k14 (by simpa using hpa) hp9
      have r14 := yn hp14
      obtain ⟨bi, hbi⟩ : ∃ bi : Nat, at0 t.bs i = (bi : Int) := ⟨(at0 t.bs i).toNat, by omega⟩
      have hbv : bi < t.vs.length := by omega
      have hat : atD t.vs (at0 t.bs i) = t.vs[bi] := by rw [ahx (by omega)]; congr 1; omega
      refine ⟨x.2.2.1, r14 2 (by decide), x.2.2.1, r14 2 (by decide), x.1, r14 0 (by decide), RJ.ldB q.bas v14.ext (j := i) rfl hib fun a3 hc3 => ?_⟩
      refine q.vals.atB v14.ext (j := bi) hbi hbv fun a4 y4 hc4 r4 => ⟨y4, aO v14.ext hc4, ?_⟩
      rw [← hat] at r4
      have hsm := z.sm _ hmem prt fun m hm => (hms m hm).1
      have inv : inV t.vs.length t.ps[i].2 := fun m hm => ⟨prt.nn m hm, (hms m hm).1⟩
      have ha3 : a3.block < h0.size := hO hc3
      have ha4 : a4.block < h0.size := ajH hc4 (by decide)
      have hold := v14.old
      refine adx (x := y) v14 r q.vals inv (by omega) (by decide) (by omega) (by omega) fun r15 h15 v15 k15 hr15 => ?_
      have k915 := k14.trans k15
      have r15c := yn (gW k915 (by simpa using hpa) hp9)
      have e15 := v15.ext
      refine ⟨r15c 2 (by decide), r15c 0 (by decide), ao e15 hc3 (by simp), ?_, ?_⟩
      · have := aO e15 hc4
        simpa [C6, bw] using this
      have hvs := ahz (f := atD t.vs) t.ps[i].2
      have hvb := alN z.v (at0 t.bs i)
      refine acr (x := r15) (y := y4) hr15.dq (r4.ext e15) (by omega) (by have := e15.size; omega) fun h16 e16 => ⟨v15.of_ext e16, k915.trans (Keep.of_ext e16), ?_⟩
      constructor
      · intro hb
        have hb : valV (atD t.vs) t.ps[i].2 = atD t.vs (at0 t.bs i) := by simpa using hb
        exact ⟨⟨b1, b2, b3, by rw [hpi]; exact hc0, by rw [hpi]; exact hms, by rw [hpi]; exact hb⟩, prt⟩
      · intro R
        have := R.1.v
        rw [hpi] at this
        simp [this]
    rintro b h12 ⟨v12, k12, hb⟩
    refine ⟨fun hbt => ?_, fun hbf => ?_⟩
    · by_cases hrt : Rt t.ps[i]
      · exact bad (fun R => by have := hb.2 ⟨R, hrt⟩; rw [this] at hbt; cases hbt) _ (kE k12)
      · exact K1 _ hmem hrt _ (kE k12)
    · rw [w64 (by omega) (by omega)]
      refine ⟨⟨v12, k12, i + 1, by omega, by omega, fun k hk => ?_⟩, by omega⟩
      by_cases g : k = i
      · subst g; exact ⟨(hb.1 hbf).1, hi', (hb.1 hbf).2⟩
      · exact hall k (by omega)
  · simp only [decide_eq_false_iff_not] at hge
    refine K true h10 ⟨fun _ => ⟨⟨g1, g2, g3, elo, eup, fun k hk => (hall k (by omega)).1⟩, fun p hp => ?_⟩, fun _ => rfl⟩ (kE k10)
    obtain ⟨k, hk, rfl⟩ := List.getElem_of_mem hp
    obtain ⟨_, h⟩ := (hall k (by omega)).2
    exact h
end
end Go.Sh

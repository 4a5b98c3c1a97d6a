/-
  Laws that the proof of this claim's statement leans on, each proved under the conditions that it states.
-/
import Derived.Test.YtlclchgingkkhaaGreatDoorUF
set_option linter.unusedVariables false
set_option linter.unusedSimpArgs false
namespace Go.Sh
open Go Go.Lift
theorem All2.set {α β : Type} {R : α → β → Prop} {a : α} {b : β} : ∀ {l : List α} {m : List β} {j : Nat}, All2 R l m → R a b → All2 R (l.set j a) (m.set j b)
  | _, _, _, .nil, _ => .nil
  | _, _, 0, .cons _ t, h => .cons h t
  | _, _, _ + 1, .cons h1 t, h => .cons h1 (All2.set t h)
section
variable {h0 h h' : Heap} {V : Vol} {lim : Nat} {ov : Bool} {x : S5} {t : TT}
theorem TM.stV {i : Int} {j : Nat} {y : X6} {d : Rat × Rat} {k : Heap → Prop} (q : TM h0 V lim ov h x t) (hij : i = (j : Int)) (hj : j < t.vs.length) (hy : DK V.K h y d)
    (K : ∀ h', TM h0 V lim ov h' x { t with vs := t.vs.set j d } → Keep (some V.bv) h h' → k h') : idxS x.2.2.1 i 6 fun a => dU a (C6 y) h k := by
  obtain ⟨vs, v1, v2⟩ := q.vals
  have lv := v2.length
  refine v1.stS len6 (by decide) (one6 y) hij (by omega) fun h' o' k' n' => ?_
  rw [q.valb] at k'
  have hK : ∀ b, some V.bv = some b → V.K b := fun b e => by cases e; exact .inr (.inr (.inl rfl))
  have ne : ∀ {b : Nat}, b ≠ V.bv → some b ≠ some V.bv := fun hn e => hn (Option.some.inj e)
  obtain ⟨ys, r1, r2⟩ := q.rows
  obtain ⟨ls, l1, l2⟩ := q.lo
  obtain ⟨us, u1, u2⟩ := q.up
  refine K h' { bo := q.bo.fresh k' fun b e => by cases e; exact ⟨q.old _ (hK _ rfl), fun e => q.av e.symm⟩
                old := q.old, lt := fun b hb => Nat.lt_of_lt_of_le (q.lt b hb) k'.size, ap := q.ap, av := q.av, al := q.al, au := q.au, pv := q.pv, pl := q.pl, pu := q.pu, vl := q.vl, vu := q.vu, lu := q.lu, spot := q.spot
                root := fun n hn => by
                  have := q.root n hn
                  have hb : some (V.p.add n).block ≠ some V.bv := by rw [af]; exact ne q.pv
                  exact ⟨ag k' this.1 hb, bL k' (bV this.1) this.2 hb⟩
                bas := R.keep q.bas k' fun a ha e => q.basn a.block (by simp [Sl.blk, ha]) (hK _ e.symm), basn := q.basn, rcap := q.rcap
                rows := ⟨ys, _root_.Go.Sh.RS.keep r1 k' fun _ a ha e => q.rown a.block (by simp [Sl.blk, ha]) (hK _ e.symm), r2.imp fun y m h => h.keep k' hK⟩, rown := q.rown
                valb := q.valb, vals := ⟨vs.set j y, o', All2.set (v2.imp fun y m h => h.keep k' hK) (hy.keep k' hK)⟩
                lob := q.lob, lo := ⟨ls, l1.keep k' fun b hb => by rw [q.lob] at hb; cases hb; exact ne fun e => q.vl e.symm, l2.imp fun y m h => h.keep k' hK⟩
                upb := q.upb, up := ⟨us, u1.keep k' fun b hb => by rw [q.upb] at hb; cases hb; exact ne fun e => q.vu e.symm, u2.imp fun y m h => h.keep k' hK⟩ } k'
theorem TM.ldV {i : Int} {j : Nat} {k : X6 → Prop} (q : TM h0 V lim ov h x t) (hij : i = (j : Int)) (hj : j < t.vs.length) (K : ∀ y, DK V.K h y t.vs[j] → k y) : idxS x.2.2.1 i 6 fun a => aD C6 6 a h k := by
  obtain ⟨vs, v1, v2⟩ := q.vals
  have lv := v2.length
  exact (v1.rs len6 (by decide)).ld hij (by omega) (K _ (v2.get j (by omega) hj))
def tS (vs : DL) (j : Nat) (d : Rat × Rat) : DL := vs.set j (addD (vs.getD j (0, 0)) d)
def jQ (bs : List Int) (v : Int) (e : Rat × Rat) : List (Rat × PL) → Nat → DL → DL
  | [], _, vs => vs
  | p :: ps, i, vs => jQ bs v e ps (i + 1) (if ak p.2 v = 0 then vs else tS vs (at0 bs i).toNat (scD (ak p.2 v) e))
def fitM (lim : Nat) (bs : List Int) (v : Int) (e : Rat × Rat) : List (Rat × PL) → Nat → DL → Prop
  | [], _, _ => True
  | p :: ps, i, vs => (ak p.2 v ≠ 0 → szD (scD (ak p.2 v) e) ≤ lim ∧ szD (addD (vs.getD (at0 bs i).toNat (0, 0)) (scD (ak p.2 v) e)) ≤ lim) ∧ fitM lim bs v e ps (i + 1) (if ak p.2 v = 0 then vs else tS vs (at0 bs i).toNat (scD (ak p.2 v) e))
def fI (lim : Nat) (t : TT) (v : Int) (d : Rat × Rat) : Prop := szD (subD d (atD t.vs v)) ≤ lim ∧ fitM lim t.bs v (subD d (atD t.vs v)) t.ps 0 (t.vs.set v.toNat d)
def updT (t : TT) (v : Int) (d : Rat × Rat) : TT := { t with vs := jQ t.bs v (subD d (atD t.vs v)) t.ps 0 (t.vs.set v.toNat d) }
end
end Go.Sh

namespace Go.Sh
open Go Go.Lift
section
variable {h0 h h' : Heap} {V : Vol} {lim : Nat} {ov : Bool} {x : S5} {t : TT}
theorem TM.ldVa {i : Int} {j : Nat} {k : Addr → X6 → Prop} (q : TM h0 V lim ov h x t) (hij : i = (j : Int)) (hj : j < t.vs.length) (K : ∀ a y, cells? h a 6 0 = some (C6 y) → a.block = V.bv → DK V.K h y t.vs[j] → k a y) : idxS x.2.2.1 i 6 fun a => aD C6 6 a h (k a) := by
  subst hij
  obtain ⟨vs, v1, v2⟩ := q.vals
  have lv := v2.length
  have r := v1.rs len6 (by decide)
  obtain ⟨a, ha, hc⟩ := r.cells j (by omega)
  have hl := r.len
  have hb : a.block = V.bv := by
    have := q.valb
    simp [Sl.blk, ha] at this
    exact this
  refine ⟨a, ha, ⟨by omega, by omega⟩, vs[j], by simpa using hc, K _ _ (by simpa using hc) (by rw [af]; exact hb) (v2.get j (by omega) hj)⟩
theorem DK.df {y : X6} {d : Rat × Rat} (q : DK V.K h y d) : DF V.a.block h y d := ⟨q.1.rf (TM.Ka V), q.2.rf (TM.Ka V)⟩
theorem DK.fr {hp : Heap} {b : Nat} {y : X6} {d : Rat × Rat} (q : DF b h y d) (f : Fr6 hp y) (hK : ∀ k, V.K k → k < hp.size) : DK V.K h y d := ⟨RK.fresh q.a.rq f.1 hK, RK.fresh q.b.rq f.2 hK⟩
theorem acz {o : Bool} {d : Rat × Rat} (h : o = decide (lim < szD d)) : szD (valD o d) ≤ lim := by
  subst h
  unfold valD
  split
  · rw [cO]; omega
  · rename_i hh; simp at hh; exact hh
theorem jk {o : Bool} {d : Rat × Rat} (h : o = false → szD d ≤ lim) : szD (valD o d) ≤ lim := by
  cases o with
  | true => show szD (0, 0) ≤ lim; rw [cO]; omega
  | false => exact h rfl
theorem mV {v : Int} {x0 : X6} {d : Rat × Rat} {ov0 : Bool} {Q : Int → Heap → Prop} (q : TM h0 V lim ov0 h x t) (hlim : lim ≤ 80) (hbs : t.bs.length = t.ps.length) (hn : t.ps.length ≤ 1000) (hnv : t.vs.length ≤ 1000) (hb : ∀ b ∈ t.bs, 0 ≤ b ∧ b < (t.vs.length : Int)) (hok : ∀ p ∈ t.ps, PvOk lim p) (hvz : ∀ e ∈ t.vs, szD e ≤ lim)
    (hd : DK V.K h x0 d) (hds : szD d ≤ lim) (hvl : -9223372036854775808 ≤ v ∧ v ≤ 9223372036854775807)
    (C2 : v < 0 ∨ v ≥ (t.vs.length : Int) ∨ rowI t.bs v ≥ 0 → ∀ h', Ext h h' → Q 2 h')
    (CO : ∀ h' vs', ¬ (ov0 = false ∧ fI lim t v d) → TM h0 V lim true h' x { t with vs := vs' } → KK V.K h h' → vs'.length = t.vs.length → (∀ e ∈ vs', szD e ≤ lim) → Q 6 h')
    (C0 : ov0 = false → 0 ≤ v → v < (t.vs.length : Int) → rowI t.bs v < 0 → ∀ h', TM h0 V lim false h' x (updT t v d) → KK V.K h h' → (∀ e ∈ (updT t v d).vs, szD e ≤ lim) → Q 0 h') :
    cQ (some V.a) (some V.p) v x0 h Q := by
  refine ae fun h1 e1 => ?_
  have q1 := q.ext e1
  have hlv := q1.tq.vals.len
  have hlr := q1.tq.rows.len
  refine seq.cut (fun b h' => Ext h1 h' ∧ (b = true ↔ (v < 0 ∨ v ≥ (t.vs.length : Int) ∨ rowI t.bs v ≥ 0))) ?_ ?_
  · refine ⟨fun g => ⟨Keep.refl _ _, by have := of_decide_eq_true g; simp [this]⟩, fun g => q1.ld2 ⟨fun g2 => ⟨Keep.refl _ _, ?_⟩, fun g2 => ⟨V.p, rfl, x, q1.all, ?_⟩⟩⟩
    · have g2 := of_decide_eq_true g2
      rw [hlv] at g2
      simp; omega
    · have g := of_decide_eq_false g
      have g2 := of_decide_eq_false g2
      rw [hlv] at g2
      refine th q1.bas (by omega) fun h2 e2 => ⟨e2, ?_⟩
      rw [decide_eq_true_iff]
      omega
  rintro b h2 ⟨e2, hbb⟩
  have e02 := e1.trans e2
  refine ⟨fun g => C2 (hbb.1 g) h2 e02, fun g => ?_⟩
  have hno : ¬ (v < 0 ∨ v ≥ (t.vs.length : Int) ∨ rowI t.bs v ≥ 0) := fun hh => by rw [hbb.2 hh] at g; cases g
  obtain ⟨j, rfl⟩ : ∃ j : Nat, v = (j : Int) := ⟨v.toNat, by omega⟩
  have hj : j < t.vs.length := by omega
  have C0' := fun ho => C0 ho (by omega) (by omega) (by omega)
  clear C0 C2 hbb g
  have q2 := q1.ext e2
  refine seq.dup (q2.ld2 (q2.ldV rfl hj fun y hy => ae fun h3 e3 => ?_))
  have q3 := q2.ext e3
  have hvj := hvz _ (List.getElem_mem hj)
  have hatj : atD t.vs (j : Int) = t.vs[j] := qG (v := (j : Int)) hj
  refine tK (x := x0) (y := y) q3.bo.tb q3.bo.bench (hd.keep (e02.trans e3) (by simp)).df (hy.keep e3 (by simp)).df (by omega) fun r h4 hb4 k4 hr4 fr4 => ae fun h5 e5 => ?_
  have q4 := q3.keep k4 (q3.bo.keep hb4 k4)
  have q5 := q4.ext e5
  have he5 : DK V.K h5 r (valD (ov0 || decide (lim < szD (subD d t.vs[j]))) (subD d t.vs[j])) := (DK.fr hr4 fr4 q3.lt).keep e5 (by simp)
  have se : szD (valD (ov0 || decide (lim < szD (subD d t.vs[j]))) (subD d t.vs[j])) ≤ lim := jk fun hh => by
    have := of_decide_eq_false (Bool.or_eq_false_iff.1 hh).2; omega
  have sv : (ov0 || decide (lim < szD (subD d t.vs[j]))) = false → valD (ov0 || decide (lim < szD (subD d t.vs[j]))) (subD d t.vs[j]) = subD d (atD t.vs (j : Int)) := fun hh => by rw [hh, hatj]; rfl
  have sn : (ov0 || decide (lim < szD (subD d t.vs[j]))) = true → ¬ (ov0 = false ∧ fI lim t (j : Int) d) := fun h f => by
    have := f.2.1
    rw [hatj] at this
    rw [f.1] at h
    simp at h; omega
  have sz : (ov0 || decide (lim < szD (subD d t.vs[j]))) = false → ov0 = false := fun h => (Bool.or_eq_false_iff.1 h).1
  generalize (ov0 || decide (lim < szD (subD d t.vs[j]))) = o1 at *
  generalize valD o1 (subD d t.vs[j]) = e at *
  refine q5.ld2 (q5.stV rfl hj ((((KK.ext (e02.trans e3)).trans (KK.keep k4 fun k e => by cases e; exact .inl (TM.Ka V))).trans (KK.ext e5)).dk hd) fun h6 q6 k6 => ?_)
  have Ka := TM.Ka V
  have Kb : V.K V.bv := .inr (.inr (.inl rfl))
  have K6 : KK V.K h h6 := ((((KK.ext (e02.trans e3)).trans (KK.keep k4 fun k e => by cases e; exact .inl Ka)).trans (KK.ext e5)).trans (KK.keep k6 fun k e => by cases e; exact .inl Kb))
  have he6 : DK V.K h6 r e := he5.keep k6 fun k e => by cases e; exact Kb
  refine q6.ld1 ?_
  have hmv : ∀ e' ∈ t.vs.set j d, szD e' ≤ lim := fun e' he' => by
    rcases List.mem_or_eq_of_mem_set he' with he' | rfl
    · exact hvz _ he'
    · exact hds
  refine loop.inv (fun (s : Int) h' => ∃ (i : Nat) (ov : Bool) (vs' : DL), s = (i : Int) ∧ i ≤ t.ps.length ∧ TM h0 V lim ov h' x { t with vs := vs' } ∧ KK V.K h6 h' ∧ vs'.length = t.vs.length ∧ (∀ e' ∈ vs', szD e' ≤ lim) ∧ (ov = true → ¬ (ov0 = false ∧ fI lim t (j : Int) d)) ∧ (ov = false → o1 = false ∧ jQ t.bs (j : Int) e (t.ps.drop i) i vs' = jQ t.bs (j : Int) e t.ps 0 (t.vs.set j d) ∧ ((ov0 = false ∧ fI lim t (j : Int) d) → fitM lim t.bs (j : Int) e (t.ps.drop i) i vs'))) (fun s _ => t.ps.length - s.toNat)
    ⟨0, o1, t.vs.set j d, rfl, by omega, q6, .refl, by simp, hmv, sn, fun ho => ⟨ho, rfl, fun f => by rw [sv ho]; exact f.2.2⟩⟩ ?_
  rintro _ h7 ⟨i, ov, vs', rfl, hi, q7, k67, hlen', hsz', hno, hval⟩
  rw [hlr]
  refine ⟨fun hlt => ?_, fun hge => ?_⟩
  · simp only [decide_eq_true_eq] at hlt
    have hlt : i < t.ps.length := by omega
    have hz := hok _ (List.getElem_mem hlt)
    have hdrop : t.ps.drop i = t.ps[i] :: t.ps.drop (i + 1) := List.drop_eq_getElem_cons hlt
    have hbi := hb _ (List.getElem_mem (l := t.bs) (n := i) (by omega))
    have hat0 : at0 t.bs i = t.bs[i]'(by omega) := fK (by omega)
    refine seq.cut (fun (_ : Unit) h' => ∃ (ov' : Bool) (vs'' : DL), TM h0 V lim ov' h' x { t with vs := vs'' } ∧ KK V.K h6 h' ∧ vs''.length = t.vs.length ∧ (∀ e' ∈ vs'', szD e' ≤ lim) ∧ (ov' = true → ¬ (ov0 = false ∧ fI lim t (j : Int) d)) ∧ (ov' = false → o1 = false ∧ jQ t.bs (j : Int) e (t.ps.drop (i + 1)) (i + 1) vs'' = jQ t.bs (j : Int) e t.ps 0 (t.vs.set j d) ∧ ((ov0 = false ∧ fI lim t (j : Int) d) → fitM lim t.bs (j : Int) e (t.ps.drop (i + 1)) (i + 1) vs''))) ?_ ?_
    · obtain ⟨ys, r1, r2⟩ := q7.rows
      refine xO (ps := t.ps) r1 r2 rfl hlt fun a7 y7 _ _ hy7 hp7 => ⟨y7, hy7, ae fun h8 e8 => ?_⟩
      refine kn (ms := t.ps[i].2) (hp7.2.ext e8) hz.srt hz.nn hvl (by have := hz.len; omega) fun c h9 hc9 e9 => ae fun h10 e10 => cY (hc9.ext e10).rq fun h11 e11 => ?_
      have hcs : szQ (ak t.ps[i].2 (j : Int)) ≤ lim := wJ hz.m
      have hc11 := (hc9.ext e10).ext e11
      have e711 := ((e8.trans e9).trans e10).trans e11
      have q11 := q7.ext e711
      have k611 := k67.trans (KK.ext e711)
      have hsg : ((ak t.ps[i].2 (j : Int)).num.sign != 0) = decide (ak t.ps[i].2 (j : Int) ≠ 0) := by
        rw [Bool.eq_iff_iff]; simp [Int.sign_eq_zero_iff_zero, Rat.num_eq_zero]
      rw [hsg]
      refine ⟨fun hc => ?_, fun hc => ?_⟩
      · simp only [decide_eq_true_eq] at hc
        refine q11.ld0 (RJ.ld q11.bas rfl (show i < t.bs.length by omega) (q11.ld2 (q11.ld2 ?_)))
        have hbj : at0 t.bs i = (((at0 t.bs i).toNat : Nat) : Int) := by rw [hat0]; omega
        have hbl : (at0 t.bs i).toNat < vs'.length := by rw [hat0]; omega
        have hgd : vs'.getD (at0 t.bs i).toNat (0, 0) = vs'[(at0 t.bs i).toNat] := by rw [List.getD_eq_getElem?_getD, List.getElem?_eq_getElem hbl]; rfl
        have hvb := hsz' _ (List.getElem_mem hbl)
        refine q11.ldVa hbj hbl fun a12 y12 hy12 hb12 hd12 => ?_
        have hd12 : DK V.K h11 y12 vs'[(at0 t.bs i).toNat] := hd12
        have he11 : DK V.K h11 r e := k611.dk he6
        refine nN q11.bo.tb q11.bo.bench (hc11.rf Ka) he11.df (by omega) fun r13 h13 hb13 k13 hr13 _ => ?_
        have q13 := q11.keep k13 (q11.bo.keep hb13 k13)
        have s13 : szD (valD (ov || decide (lim < szD (scD (ak t.ps[i].2 (j : Int)) e))) (scD (ak t.ps[i].2 (j : Int)) e)) ≤ lim := jk fun hh => by
          have := of_decide_eq_false (Bool.or_eq_false_iff.1 hh).2; omega
        have v13 : (ov || decide (lim < szD (scD (ak t.ps[i].2 (j : Int)) e))) = false → ov = false ∧ valD (ov || decide (lim < szD (scD (ak t.ps[i].2 (j : Int)) e))) (scD (ak t.ps[i].2 (j : Int)) e) = scD (ak t.ps[i].2 (j : Int)) e := fun hh => ⟨(Bool.or_eq_false_iff.1 hh).1, by rw [hh]; rfl⟩
        have n13 : (ov || decide (lim < szD (scD (ak t.ps[i].2 (j : Int)) e))) = true → ¬ (ov0 = false ∧ fI lim t (j : Int) d) := fun h f => by
          cases ov with
          | true => exact hno rfl f
          | false =>
            have f2 := (hval rfl).2.2 f
            rw [hdrop] at f2
            have := (f2.1 hc).1
            simp at h; omega
        generalize (ov || decide (lim < szD (scD (ak t.ps[i].2 (j : Int)) e))) = o2 at *
        generalize valD o2 (scD (ak t.ps[i].2 (j : Int)) e) = e2' at *
        have c13 : cells? h13 a12 6 0 = some (C6 y12) := ce k13 (fun ee => q.av (by have := Option.some.inj ee; omega)) hy12
        refine ⟨(q13.root 2 (by decide)).1, (q13.root 2 (by decide)).1, c13, ?_⟩
        have hd13 : DF V.a.block h13 y12 vs'[(at0 t.bs i).toNat] := (hd12.keep k13 fun k e => by cases e; exact Ka).df
        refine tm q13.bo.tb q13.bo.bench hd13 hr13 (by omega) fun r14 h14 hb14 k14 hr14 fr14 => ?_
        have q14 := q13.keep k14 (q13.bo.keep hb14 k14)
        have hr14' := DK.fr hr14 fr14 q13.lt
        have s14 : szD (valD (o2 || decide (lim < szD (addD vs'[(at0 t.bs i).toNat] e2'))) (addD vs'[(at0 t.bs i).toNat] e2')) ≤ lim := jk fun hh => by
          have := of_decide_eq_false (Bool.or_eq_false_iff.1 hh).2; omega
        have v14 : (o2 || decide (lim < szD (addD vs'[(at0 t.bs i).toNat] e2'))) = false → o2 = false ∧ valD (o2 || decide (lim < szD (addD vs'[(at0 t.bs i).toNat] e2'))) (addD vs'[(at0 t.bs i).toNat] e2') = addD vs'[(at0 t.bs i).toNat] e2' := fun hh => ⟨(Bool.or_eq_false_iff.1 hh).1, by rw [hh]; rfl⟩
        have n14 : (o2 || decide (lim < szD (addD vs'[(at0 t.bs i).toNat] e2'))) = true → ¬ (ov0 = false ∧ fI lim t (j : Int) d) := fun h f => by
          cases o2 with
          | true => exact n13 rfl f
          | false =>
            obtain ⟨g3, g4⟩ := v13 rfl
            have f2 := (hval g3).2.2 f
            rw [hdrop] at f2
            have := (f2.1 hc).2
            rw [hgd, ← g4] at this
            simp at h; omega
        generalize (o2 || decide (lim < szD (addD vs'[(at0 t.bs i).toNat] e2'))) = o3 at *
        generalize valD o3 (addD vs'[(at0 t.bs i).toNat] e2') = e3' at *
        refine ⟨(q14.root 2 (by decide)).1, q14.stV hbj hbl hr14' fun h15 q15 k15 => ?_⟩
        refine ⟨o3, _, q15, ((k611.trans (KK.keep k13 fun k e => by cases e; exact .inl Ka)).trans (KK.keep k14 fun k e => by cases e; exact .inl Ka)).trans (KK.keep k15 fun k e => by cases e; exact .inl Kb), by simpa using hlen', fun e' he' => ?_, n14, fun ho => ?_⟩
        · rcases List.mem_or_eq_of_mem_set he' with he' | rfl
          · exact hsz' _ he'
          · exact s14
        · obtain ⟨g1, g2⟩ := v14 ho
          obtain ⟨g3, g4⟩ := v13 g1
          obtain ⟨g5, g6, g7⟩ := hval g3
          refine ⟨g5, ?_, fun f => ?_⟩
          · rw [← g6, hdrop, jQ, if_neg hc]
            unfold tS
            rw [hgd, g2, g4]
          · have := g7 f
            rw [hdrop] at this
            have := this.2
            rw [if_neg hc] at this
            unfold tS at this
            rw [hgd] at this
            rw [g2, g4]
            exact this
      · simp only [decide_eq_false_iff_not, ne_eq, Decidable.not_not] at hc
        refine ⟨ov, vs', q11, k611, hlen', hsz', hno, fun ho => ?_⟩
        obtain ⟨g5, g6, g7⟩ := hval ho
        refine ⟨g5, ?_, fun f => ?_⟩
        · rw [← g6, hdrop, jQ, if_pos hc]
        · have := g7 f
          rw [hdrop] at this
          have := this.2
          rwa [if_pos hc] at this
    rintro _ h8 ⟨ov', vs'', q8, k8, l8, s8, n8, v8⟩
    exact ⟨⟨i + 1, ov', vs'', w64 (by omega) (by omega), by omega, q8, k8, l8, s8, n8, v8⟩, by rw [w64 (by omega) (by omega)]; omega⟩
  · simp only [decide_eq_false_iff_not] at hge
    have : i = t.ps.length := by omega
    subst this
    refine bZ q7.bo.bench ⟨fun ho => ?_, fun ho => ?_⟩
    · subst ho; exact CO h7 vs' (hno rfl) q7 (K6.trans k67) hlen' hsz'
    · subst ho
      obtain ⟨g1, g2, _⟩ := hval rfl
      have he := sv g1
      rw [List.drop_length, jQ, he] at g2
      have hu : updT t (j : Int) d = { t with vs := vs' } := by
        unfold updT
        rw [g2]; rfl
      refine C0' (sz g1) h7 (by rw [hu]; exact q7) (K6.trans k67) (by rw [hu]; exact hsz')
end
end Go.Sh

namespace Go.Sh
open Go Go.Lift
theorem sP {g g' : Int → Rat} {j : Int} (hg : ∀ v, 0 ≤ v → v ≠ j → g' v = g v) {l : PL} (hs : Srt l) (hn : ∀ m ∈ l, 0 ≤ m.1) : valL g' l = valL g l + ak l j * (g' j - g j) := by
  induction l with
  | nil => simp only [valL, ak]; grind
  | cons m l ih =>
    have hs' := List.pairwise_cons.1 hs
    have ih := ih hs'.2 fun m hm => hn m (by simp [hm])
    simp only [valL]
    by_cases hm : m.1 = j
    · have h0 : ak l j = 0 := dC fun m' hm' => by have := hs'.1 m' hm'; omega
      have hc : ak (m :: l) j = m.2 := by simp [ak, hm]
      rw [ih, h0, hc, hm]; grind
    · rw [bK hm, ih, hg m.1 (hn m (by simp)) hm]; grind
theorem jM {vs : DL} {j : Nat} {d : Rat × Rat} {v : Int} (hj : j < vs.length) : atD (vs.set j d) v = if v.toNat = j then d else atD vs v := by
  unfold atD
  rw [List.getD_eq_getElem?_getD, List.getD_eq_getElem?_getD, List.getElem?_set]
  by_cases h : j = v.toNat
  · subst h; simp [hj]
  · rw [if_neg h, if_neg (fun e => h e.symm)]
theorem fQ {vs : DL} {j : Nat} {d : Rat × Rat} {l : PL} (hs : Srt l) (hn : ∀ m ∈ l, 0 ≤ m.1) (hj : j < vs.length) : valV (atD (vs.set j d)) l = addD (valV (atD vs) l) (scD (ak l (j : Int)) (subD d (atD vs (j : Int)))) := by
  have h1 : ∀ v : Int, 0 ≤ v → v ≠ (j : Int) → atD (vs.set j d) v = atD vs v := fun v h0 hv => by
    rw [jM hj, if_neg (by omega)]
  have h2 : atD (vs.set j d) (j : Int) = d := by rw [jM hj, if_pos (by omega)]
  unfold valV addD scD subD
  dsimp only
  have a1 := sP (g := fun v => (atD vs v).1) (g' := fun v => (atD (vs.set j d) v).1) (j := (j : Int)) (fun v h0 hv => by rw [h1 v h0 hv]) hs hn
  have a2 := sP (g := fun v => (atD vs v).2) (g' := fun v => (atD (vs.set j d) v).2) (j := (j : Int)) (fun v h0 hv => by rw [h1 v h0 hv]) hs hn
  rw [h2] at a1 a2
  rw [a1, a2]
def refV (bs : List Int) : List (Rat × PL) → Nat → DL → DL
  | [], _, vs => vs
  | p :: ps, i, vs => refV bs ps (i + 1) (vs.set (at0 bs i).toNat (valV (atD vs) p.2))
end Go.Sh

namespace Go.Sh
open Go Go.Lift
theorem jI {f g : Int → Rat} {l : PL} (h : ∀ m ∈ l, f m.1 = g m.1) : valL f l = valL g l := by
  induction l with
  | nil => rfl
  | cons m l ih => simp only [valL]; rw [ih fun m hm => h m (by simp [hm]), h m (by simp)]
theorem jT {f g : Int → Rat × Rat} {l : PL} (h : ∀ m ∈ l, f m.1 = g m.1) : valV f l = valV g l := by
  unfold valV
  rw [jI (f := fun v => (f v).1) (g := fun v => (g v).1) fun m hm => by rw [h m hm], jI (f := fun v => (f v).2) (g := fun v => (g v).2) fun m hm => by rw [h m hm]]
structure UpdOk (t : TT) (v : Int) : Prop where
  lb : t.bs.length = t.ps.length
  rng : ∀ i, i < t.ps.length → 0 ≤ at0 t.bs i ∧ at0 t.bs i < (t.vs.length : Int)
  dis : ∀ i k, i < t.ps.length → k < t.ps.length → i ≠ k → at0 t.bs i ≠ at0 t.bs k
  v0 : 0 ≤ v ∧ v < (t.vs.length : Int)
  nb : ∀ i, i < t.ps.length → at0 t.bs i ≠ v
  srt : ∀ i, i < t.ps.length → Srt (psA t i).2 ∧ ∀ m ∈ (psA t i).2, 0 ≤ m.1
  out : ∀ i, i < t.ps.length → ∀ m ∈ (psA t i).2, ∀ k, k < t.ps.length → m.1 ≠ at0 t.bs k
  val : ∀ i, i < t.ps.length → valV (atD t.vs) (psA t i).2 = atD t.vs (at0 t.bs i)
theorem x8 {t : TT} {v : Int} {d : Rat × Rat} (U : UpdOk t v) : ∀ (n i : Nat) (W : DL), i + n = t.ps.length → W.length = t.vs.length → (∀ u : Int, 0 ≤ u → (∀ k, k < i → u ≠ at0 t.bs k) → atD W u = atD (t.vs.set v.toNat d) u) →
    refV t.bs (t.ps.drop i) i W = jQ t.bs v (subD d (atD t.vs v)) (t.ps.drop i) i W := by
  intro n
  induction n with
  | zero =>
    intro i W hi _ _
    rw [List.drop_eq_nil_of_le (by omega)]; rfl
  | succ n ih =>
    intro i W hi hl hW
    have hlt : i < t.ps.length := by omega
    rw [List.drop_eq_getElem_cons hlt, refV, jQ, ← br hlt]
    obtain ⟨g1, g2⟩ := U.rng i hlt
    obtain ⟨v1, v2⟩ := U.v0
    have hvn : ((v.toNat : Nat) : Int) = v := by omega
    have hbl : (at0 t.bs i).toNat < W.length := by omega
    have e1 : valV (atD W) (psA t i).2 = valV (atD (t.vs.set v.toNat d)) (psA t i).2 := jT fun m hm => hW _ ((U.srt i hlt).2 m hm) fun k hk => U.out i hlt m hm k (by omega)
    have e2 := fQ (vs := t.vs) (j := v.toNat) (d := d) (U.srt i hlt).1 (U.srt i hlt).2 (by omega)
    rw [hvn] at e2
    have e3 : atD W (at0 t.bs i) = atD t.vs (at0 t.bs i) := by
      rw [hW _ g1 fun k hk => U.dis i k hlt (by omega) (by omega), jM (by omega), if_neg]
      have := U.nb i hlt
      omega
    have e4 : W.getD (at0 t.bs i).toNat (0, 0) = atD t.vs (at0 t.bs i) := e3
    have key : W.set (at0 t.bs i).toNat (valV (atD W) (psA t i).2) = if ak (psA t i).2 v = 0 then W else tS W (at0 t.bs i).toNat (scD (ak (psA t i).2 v) (subD d (atD t.vs v))) := by
      rw [e1, e2, U.val i hlt]
      split
      · rename_i hc
        rw [hc]
        have h0 : addD (atD t.vs (at0 t.bs i)) (scD 0 (subD d (atD t.vs v))) = W[(at0 t.bs i).toNat] := by
          have h5 : W[(at0 t.bs i).toNat] = atD t.vs (at0 t.bs i) := by rw [← e4, List.getD_eq_getElem?_getD, List.getElem?_eq_getElem hbl]; rfl
          rw [h5]
          unfold addD scD
          apply Prod.ext <;> dsimp only <;> grind
        rw [h0, List.set_getElem_self]
      · unfold tS
        rw [e4]
    rw [key]
    refine ih (i + 1) _ (by omega) ?_ fun u hu hk => ?_
    · split
      · exact hl
      · unfold tS; rw [List.length_set]; exact hl
    · rw [← key, jM hbl, if_neg, hW u hu fun k hk' => hk k (by omega)]
      have := hk i (by omega)
      omega
theorem fV {t : TT} {v : Int} {d : Rat × Rat} (U : UpdOk t v) : { t with vs := refV t.bs t.ps 0 (t.vs.set v.toNat d) } = updT t v d := by
  have := x8 (d := d) U t.ps.length 0 (t.vs.set v.toNat d) (by omega) (by simp) fun u _ _ => rfl
  rw [List.drop_zero] at this
  rw [this]; rfl
end Go.Sh

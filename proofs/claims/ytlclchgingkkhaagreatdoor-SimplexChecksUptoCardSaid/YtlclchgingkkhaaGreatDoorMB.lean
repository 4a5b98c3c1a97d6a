/-
  Laws that the proof of this claim's statement leans on, each proved under the conditions that it states.
-/
import Derived.Test.YtlclchgingkkhaaGreatDoorMA
import Derived.Test.YtlclchgingkkhaaGreatDoorXC
import Derived.Test.YtlclchgingkkhaaGreatDoorXD
set_option linter.unusedVariables false
set_option linter.unusedSimpArgs false
namespace Go.Sh
open Go Go.Lift
structure Fst (t : TT) (i : Nat) (up : Bool) (j : Nat) : Prop where
  lt : j < (psA t i).2.length
  ok : rm t up ((psA t i).2[j]'lt) = true
  min : ∀ k (hk : k < j), rm t up ((psA t i).2[k]'(by omega)) = false
def goD (t : TT) (i : Nat) (up : Bool) (m : Int × Rat) : Rat × Rat := addD (atD t.vs m.1) (scD (1 / m.2) (subD (edA (sd t up) (at0 t.bs i)).2 (atD t.vs (at0 t.bs i))))
inductive St1 (lim : Nat) (t : TT) : TT → Int → PL → Prop where
  | fine : (∀ k c, k < t.ps.length → viol t k c = false) → St1 lim t t 0 []
  | clash (i : Nat) (up : Bool) : Wst t i up → (∀ m ∈ (psA t i).2, rm t up m = false) → St1 lim t t 2 (rsn t i up)
  | move (i : Nat) (up : Bool) (j : Nat) (m : Int × Rat) (w : Wst t i up) (f : Fst t i up j) : m = (psA t i).2[j]'f.lt → (∀ e ∈ (updT t m.1 (goD t i up m)).vs, szD e ≤ lim) → (∀ p ∈ (pivT (updT t m.1 (goD t i up m)) i m.1).ps, bg lim p = true) → szD (goD t i up m) ≤ lim → St1 lim t (pivT (updT t m.1 (goD t i up m)) i m.1) 1 []
theorem newC {v : Value} {h : Heap} {k : Addr → Heap → Prop} (K : ∀ a h', cell? h' a = some v → frozen? h' a = false → a.block = h.size → h'.size = h.size + 1 → Ext h h' → k a h') : new [v] h k := by
  intro T
  exact K _ _ (by rw [i7]; rfl) (dz (T := T) (c := [v].toArray) (by simp)) rfl (by simp) (Ext.push _ _)
theorem stC {a : Addr} {u v : Value} {h : Heap} {k : Heap → Prop} (hc : cell? h a = some u) (hf : frozen? h a = false) (K : ∀ h', cell? h' a = some v → Keep (some a.block) h h' → k h') : Lift.ady a v h k :=
  ⟨⟨u, hc⟩, hf, K _ (cy hc) (Keep.setCell h a v)⟩
section
variable {h0 h h' : Heap} {V : Vol} {lim : Nat} {ov : Bool} {x : S5} {t : TT}
theorem TM.sk (q : TM h0 V lim ov h x t) (up : Bool) : RowQ C7 7 (EK V.K) h (sdS x up) (sd t up) := by
  obtain ⟨ls, l1, l2⟩ := q.lo
  obtain ⟨us, u1, u2⟩ := q.up
  cases up
  · exact ⟨q.tq.lo.cap, ls, l1.rs len7 (by decide), l2⟩
  · exact ⟨q.tq.up.cap, us, u1.rs len7 (by decide), u2⟩
theorem tg {Q : (Int × Sl × Int) → Heap → Prop} (q : TM h0 V lim false h x t) (hlim : lim ≤ 80) (h1lim : 2 ≤ lim) (f : FitL lim t)
    (CO : ∀ h', BO h0 V.a lim true h' → (∃ i up j, Wst t i up ∧ Fst t i up j) → Q (0, Sl.nil, 6) h')
    (C : ∀ st s t' rs x' h', TM h0 V lim false h' x' t' → KK V.K h h' → St1 lim t t' st rs → MK K0 h' s rs → Q (st, s, 0) h') : gB (some V.a) (some V.p) h Q := by
  have lb := f.g.lb
  have np := f.np
  have nv := f.nv
  refine newC fun c0 ha ca fa ba sa ea => ⟨_, ca, yh (q.ext ea) hlim f (fun up hb hn eb => ?_) fun i up hb w eb => ?_⟩
  · refine newC fun c1 hc cc fc bc sc ec => stC cc fc fun hd cd kd => ⟨fun _ => ?_, fun g => by simp at g⟩
    have e : Ext h hd := ((ea.trans eb).trans ec).fresh (by have := ea.size; have := eb.size; omega) kd
    exact C 0 _ t [] x hd (q.ext e) (KK.ext e) (.fine hn) MK.nil
  refine newC fun c1 hc cc fc bc sc ec => stC cc fc fun hd c1d kd => ⟨fun g => by simp at g; omega, fun _ => ?_⟩
  have sab := eb.size
  have sh := ea.size
  have e0d : Ext h hd := ((ea.trans eb).trans ec).fresh (by omega) kd
  have c0d : cell? hd c0 = some (Value.pointer (some V.p)) := ag kd (ag (eb.trans ec) ca (by simp)) (by intro e; have := Option.some.inj e; omega)
  have qd := q.ext e0d
  have k0d : KK V.K h hd := KK.ext e0d
  have n0 : ¬ V.K c0.block := fun hk => by have := q.lt _ hk; omega
  have n1 : ¬ V.K c1.block := fun hk => by have := q.lt _ hk; omega
  clear ca fa cc fc kd
  have hi := w.lt
  obtain ⟨ys, r1, r2⟩ := qd.rows
  refine ⟨_, c0d, qd.ld1 (xO r1 r2 rfl hi fun a1 y1 _ _ hy1 hp1 => ?_)⟩
  rw [← br hi] at hp1
  have l3 : cell? hd (a1.add 3) = some (Sl.toV y1.2.2.2) := by have := cells?_get _ _ _ hy1 3 (by simp [oN]); rw [Nat.zero_add] at this; exact this
  refine ⟨_, l3, yE qd hlim f hi hp1.2.k0 c0d c1d (fun he hn ee => ?_) fun j hj he hro hmin ee => ?_⟩
  · refine ⟨fun _ => ⟨_, ag ee c0d (by simp), _, ag ee c1d (by simp), rZ (qd.ext ee) f hi fun s hf ms ef => ?_⟩, fun g => by simp at g⟩
    exact C 2 s t _ x hf (qd.ext (ee.trans ef)) (k0d.trans (KK.ext (ee.trans ef))) (.clash i up w hn) ms
  refine ⟨fun g => by simp at g; omega, fun _ => ?_⟩
  have F : Fst t i up j := ⟨hj, hro, hmin⟩
  have CO' := fun h' b => CO h' b ⟨i, up, j, w, F⟩
  have qe := qd.ext ee
  have c0e := ag ee c0d (by simp)
  have c1e := ag ee c1d (by simp)
  have k0e := k0d.trans (KK.ext ee)
  have C1 := fun t' x' h' g1 g2 g3 => C 1 Sl.nil t' [] x' h' g1 g2 g3 MK.nil
  have mv := St1.move (lim := lim) i up j _ w F rfl
  obtain ⟨v1, v2, v3, v4, v5, v6⟩ := f.var hi (List.getElem_mem hj)
  refine (hp1.2.ext ee).at rfl hj fun a2 y2 hy2 hv2 hq2 => ⟨y2, hy2, ?_⟩
  have hq2 : RK V.K he (co y2) (psA t i).2[j].2 := hq2
  clear hro hmin CO C hy1 l3 r1 r2 c1d c0d
  generalize hm : (psA t i).2[j] = m at *
  have hb0 := f.g.rng i hi
  refine ⟨_, c0e, qe.ld0 (RJ.ld qe.bas rfl (show i < t.bs.length by omega) ?_)⟩
  unfold goD at mv
  generalize at0 t.bs i = b at *
  obtain ⟨n, hn⟩ : ∃ n : Nat, b = (n : Int) := ⟨b.toNat, by omega⟩
  have hnl : n < t.vs.length := by omega
  have hls : n < (sd t up).length := by rw [f.g.sdl]; exact hnl
  obtain ⟨l, hl⟩ : ∃ l : Nat, m.1 = (l : Int) := ⟨m.1.toNat, by omega⟩
  have hll : l < t.vs.length := by omega
  have zb : szD (atD t.vs b) ≤ lim := iL f.v b
  have zm : szD (atD t.vs m.1) ≤ lim := iL f.v m.1
  have zE : szD (edA (sd t up) b).2 ≤ lim := ml (f.sd up)
  have Ka := TM.Ka V
  refine ae fun hf ef => ?_
  have qf := qe.ext ef
  have c0f := ag ef c0e (by simp)
  have c1f := ag ef c1e (by simp)
  refine seq.dup ⟨_, c0f, _, c1f, _, c0f, qf.ld2 (qf.ldVa hn hnl fun a6 y6 hy6 hab hd6 => ae fun hg eg => iB (qf.ext eg) fun hh eh => ⟨ag (eg.trans eh) c0f (by simp), ag (eg.trans eh) (qf.root 2 (by decide)).1 (by simp), ce (eg.trans eh) (by simp) hy6, ?_⟩)⟩
  have qh := (qf.ext eg).ext eh
  rw [ow hn hnl] at hd6
  refine (qh.sk up).at hn hls fun a8 y8 hy8 he8 => ⟨eD y8, wY hy8, ae fun hi1 ei => ?_⟩
  have hE : (sd t up)[n] = edA (sd t up) b := by rw [hn, d6 hls]
  rw [hE] at he8
  have qi := qh.ext ei
  have e_fi := (eg.trans eh).trans ei
  refine tK qi.bo.tb qi.bo.bench (he8.2.keep ei (by simp)).df (hd6.keep e_fi (by simp)).df (by omega) fun r1 hj1 hb1 kj1 hr1 fr1 => ae fun hk ek => ?_
  have qj := qi.keep kj1 (qi.bo.keep hb1 kj1)
  have d1 := (DK.fr hr1 fr1 qi.lt).keep ek (by simp)
  have K1 : KK V.K he hk := (((KK.ext (ef.trans e_fi)).trans (KK.keep kj1 fun k e => by cases e; exact .inl Ka)).trans (KK.ext ek))
  have z1 : szD (valD (false || decide (lim < szD (subD (edA (sd t up) b).2 (atD t.vs b)))) (subD (edA (sd t up) b).2 (atD t.vs b))) ≤ lim := acz rfl
  have w1 : (false || decide (lim < szD (subD (edA (sd t up) b).2 (atD t.vs b)))) = false → valD (false || decide (lim < szD (subD (edA (sd t up) b).2 (atD t.vs b)))) (subD (edA (sd t up) b).2 (atD t.vs b)) = subD (edA (sd t up) b).2 (atD t.vs b) := fun h => by rw [h]; rfl
  have qk := qj.ext ek
  clear hb1 hr1 fr1 qj
  generalize subD (edA (sd t up) b).2 (atD t.vs b) = far at *
  generalize (false || decide (lim < szD far)) = o1 at *
  generalize valD o1 far = f1 at *
  refine seq.dup (ae fun hl1 el => OfQ (by decide) (by decide) fun one hm1 hone _ em => ae fun hn1 en => ?_)
  have ekn := (el.trans em).trans en
  have qn := qk.ext ekn
  have s1 : szQ ((1 : Int) : Rat) ≤ 2 := rQ (by decide)
  have q2n := (K1.trans (KK.ext ekn)).rk hq2
  refine sA qn.bo.tb qn.bo.bench (hone.ext en) q2n.rq (by omega) (fun h => absurd h v4) fun _ c ho hbo ko hc fc => ae fun hp ep => ?_
  rw [show (((1 : Int) : Rat) / m.2) = 1 / m.2 from rfl] at hbo hc
  have qo := qn.keep ko (qn.bo.keep hbo ko)
  have z2 : szQ (val' (o1 || decide (lim < szQ (1 / m.2))) (1 / m.2)) ≤ lim := by
    unfold val'
    split
    · rw [bP]; omega
    · rename_i hh; simp at hh; exact hh.2
  have w2 : (o1 || decide (lim < szQ (1 / m.2))) = false → o1 = false ∧ val' (o1 || decide (lim < szQ (1 / m.2))) (1 / m.2) = 1 / m.2 := fun h => ⟨(Bool.or_eq_false_iff.1 h).1, by rw [h]; rfl⟩
  have K2 : KK V.K hk hp := ((KK.ext ekn).trans (KK.keep ko fun k e => by cases e; exact .inl Ka)).trans (KK.ext ep)
  have hcp : RK V.K hp c (val' (o1 || decide (lim < szQ (1 / m.2))) (1 / m.2)) := (RK.fresh (h0 := hn1) hc.rq fc qn.lt).ext ep
  have qp := qo.ext ep
  clear hbo hc fc qo
  generalize (o1 || decide (lim < szQ (1 / m.2))) = o2 at *
  generalize val' o2 (1 / m.2) = c2 at *
  refine nN qp.bo.tb qp.bo.bench (hcp.rf Ka) (K2.dk d1).df (by omega) fun r3 hq hb3 kq hr3 fr3 => ae fun hr er => ?_
  have d3 := (DK.fr hr3 fr3 qp.lt).keep er (by simp)
  have z3 : szD (valD (o2 || decide (lim < szD (scD c2 f1))) (scD c2 f1)) ≤ lim := jk fun h => by
    have := of_decide_eq_false (Bool.or_eq_false_iff.1 h).2; omega
  have w3 : (o2 || decide (lim < szD (scD c2 f1))) = false → o2 = false ∧ valD (o2 || decide (lim < szD (scD c2 f1))) (scD c2 f1) = scD c2 f1 := fun h => ⟨(Bool.or_eq_false_iff.1 h).1, by rw [h]; rfl⟩
  have qr := (qp.keep kq (qp.bo.keep hb3 kq)).ext er
  have K3 : KK V.K hp hr := (KK.keep kq fun k e => by cases e; exact .inl Ka).trans (KK.ext er)
  clear hb3 hr3 fr3
  generalize (o2 || decide (lim < szD (scD c2 f1))) = o3 at *
  generalize valD o3 (scD c2 f1) = f3 at *
  have Ker := (K1.trans K2).trans K3
  have c0r := Ker.cell c0e n0
  refine ⟨_, c0r, _, c0r, qr.ld2 (qr.ldVa (by rw [hv2]; exact hl) hll fun a9 y9 hy9 hab9 hd9 => ?_)⟩
  rw [ow hl hll] at hd9
  refine tm qr.bo.tb qr.bo.bench hd9.df d3.df (by omega) fun r4 hs hb4 ks hr4 fr4 => ?_
  have d4 := DK.fr hr4 fr4 qr.lt
  have z4 : szD (valD (o3 || decide (lim < szD (addD (atD t.vs m.1) f3))) (addD (atD t.vs m.1) f3)) ≤ lim := jk fun h => by
    have := of_decide_eq_false (Bool.or_eq_false_iff.1 h).2; omega
  have w4 : (o3 || decide (lim < szD (addD (atD t.vs m.1) f3))) = false → o3 = false ∧ valD (o3 || decide (lim < szD (addD (atD t.vs m.1) f3))) (addD (atD t.vs m.1) f3) = addD (atD t.vs m.1) f3 := fun h => ⟨(Bool.or_eq_false_iff.1 h).1, by rw [h]; rfl⟩
  have qs := qr.keep ks (qr.bo.keep hb4 ks)
  have K4 : KK V.K hr hs := KK.keep ks fun k e => by cases e; exact .inl Ka
  have Kes := Ker.trans K4
  clear hb4 hr4 fr4
  generalize (o3 || decide (lim < szD (addD (atD t.vs m.1) f3))) = o4 at *
  generalize valD o4 (addD (atD t.vs m.1) f3) = f4 at *
  have go : o4 = false → f4 = addD (atD t.vs m.1) (scD (1 / m.2) far) := fun h => by
    obtain ⟨g1, g2⟩ := w4 h
    obtain ⟨g3, g4⟩ := w3 g1
    obtain ⟨g5, g6⟩ := w2 g3
    rw [g2, g4, g6, w1 g5]
  refine ⟨Kes.cell c0e n0, ?_⟩
  have hvl : -9223372036854775808 ≤ m.1 ∧ m.1 ≤ 9223372036854775807 := by omega
  have hil : i < t.ps.length := hi
  rw [hv2]
  refine mV (v := m.1) (d := f4) qs hlim lb np nv (fun b hb => ?_) f.ok f.v d4 z4 hvl (fun hh h' e => ?_) (fun h' vs' _ q' k' hv hz => ?_) fun ho _ _ _ h' q' k' hz => ?_
  · obtain ⟨k, hk, rfl⟩ := List.getElem_of_mem hb
    have := f.g.rng k (by omega)
    rwa [fK hk] at this
  · omega
  · refine ⟨_, (Kes.trans k').cell c0e n0, ?_⟩
    refine oX q' hlim (by omega) lb np f.ok hvl (fun hh => ?_) (fun k hk hkl hco => ?_) (fun k _ _ _ h2 b => bZ b.bench ⟨fun _ => CO' h2 b, nofun⟩) fun ho => nomatch ho
    · dsimp only at hh; omega
    · have : k = i := by omega
      subst this
      exact absurd (v5.symm.trans hco) v4
  · have hf := go ho
    refine ⟨_, (Kes.trans k').cell c0e n0, ?_⟩
    refine oX q' hlim (by omega) lb np f.ok hvl (fun hh => ?_) (fun k hk hkl hco => ?_) (fun k _ _ _ h2 b => bZ b.bench ⟨fun _ => CO' h2 b, nofun⟩) fun _ k hk hkl hco x' h2 q2 k2 hfit => ?_
    · have hh : (i : Int) < 0 ∨ (i : Int) ≥ (t.ps.length : Int) := hh
      omega
    · have : k = i := by omega
      subst this
      exact absurd (v5.symm.trans hco) v4
    · have : k = i := by omega
      subst this
      subst hf
      exact bZ q2.bo.bench ⟨nofun, fun _ => C1 _ _ _ q2 (((k0e.trans Kes).trans k').trans k2) (mv hz hfit z4)⟩
end
end Go.Sh

namespace Go.Sh
open Go Go.Lift
theorem py {h : Heap} {x y : X6} {p q : Rat × Rat} {Q : Int → Heap → Prop} (hx : DQ h x p) (hy : DQ h y q) (h1 : szD p ≤ 1000) (h2 : szD q ≤ 1000) (K : ∀ h', Ext h h' → Q (cmpD p q) h') : je x y h Q :=
  ae fun ha ea => f5 (hx.ext ea) h1 fun r hb hr eb => f5 ((hy.ext ea).ext eb) h2 fun s hc hs ec => pD (hr.ext ec) hs (by omega) fun hd ed => K hd (((ea.trans eb).trans ec).trans ed)
section
variable {h h' : Heap} {x : S5} {t : TT} {lim : Nat}
theorem u6 {v : Int} {Q : Bool → Heap → Prop} (q : TQ h x t) (f : FitL lim t) (hlim : lim ≤ 80) (v0 : 0 ≤ v) (v1 : v < (t.vs.length : Int)) (K : ∀ h', Ext h h' → Q (byd false (edA (sd t false) v) (atD t.vs v)) h') : ir x v h Q := by
  obtain ⟨j, hj⟩ : ∃ j : Nat, v = (j : Int) := ⟨v.toNat, by omega⟩
  have hs := f.g.sdl false
  have hjl : j < (sd t false).length := by omega
  have hjv : j < t.vs.length := by omega
  have mE : edA (sd t false) v = (sd t false)[j] := by rw [hj]; exact d6 hjl
  have hz := ml (v := v) (f.sd false)
  have hd := iL f.v v
  refine ae fun h1 e1 => ?_
  have q1 := q.ext e1
  refine seq.cut (fun b h' => Ext h h' ∧ b = byd false (edA (sd t false) v) (atD t.vs v)) ?_ fun b h' ⟨e, hb⟩ => by rw [hb]; exact K h' e
  refine (q1.sd false).at hj hjl fun a y hy he => ⟨y.1, fH hy, ⟨fun g => ?_, fun g => ?_⟩⟩
  · refine q1.vals.at hj hjv fun a2 y2 hy2 hd2 => ⟨y2, hy2, (q1.sd false).at hj hjl fun a3 y3 hy3 he3 => ⟨eD y3, wY hy3, ?_⟩⟩
    rw [ow hj hjv] at hd2
    rw [← mE] at he he3
    refine py hd2 he3.2 (by omega) (by omega) fun h2 e2 => ⟨e1.trans e2, ?_⟩
    rw [he.1] at g
    have g : (edA (sd t false) v).1 ≠ 0 := by simpa using g
    unfold byd sg
    simp only [g, ne_eq, not_false_eq_true, decide_true, decide_false, Bool.true_and, Bool.false_or, Bool.false_eq_true, if_true, if_false, reduceIte]
    exact decide_eq_decide.2 (by omega)
  · exact ⟨e1, by rw [← mE] at he; rw [he.1] at g; have g : (edA (sd t false) v).1 = 0 := (by simpa using g); simp [byd, g]⟩
theorem vt {v : Int} {Q : Bool → Heap → Prop} (q : TQ h x t) (f : FitL lim t) (hlim : lim ≤ 80) (v0 : 0 ≤ v) (v1 : v < (t.vs.length : Int)) (K : ∀ h', Ext h h' → Q (byd true (edA (sd t true) v) (atD t.vs v)) h') : iD x v h Q := by
  obtain ⟨j, hj⟩ : ∃ j : Nat, v = (j : Int) := ⟨v.toNat, by omega⟩
  have hs := f.g.sdl true
  have hjl : j < (sd t true).length := by omega
  have hjv : j < t.vs.length := by omega
  have mE : edA (sd t true) v = (sd t true)[j] := by rw [hj]; exact d6 hjl
  have hz := ml (v := v) (f.sd true)
  have hd := iL f.v v
  refine ae fun h1 e1 => ?_
  have q1 := q.ext e1
  refine seq.cut (fun b h' => Ext h h' ∧ b = byd true (edA (sd t true) v) (atD t.vs v)) ?_ fun b h' ⟨e, hb⟩ => by rw [hb]; exact K h' e
  refine (q1.sd true).at hj hjl fun a y hy he => ⟨y.1, fH hy, ⟨fun g => ?_, fun g => ?_⟩⟩
  · refine q1.vals.at hj hjv fun a2 y2 hy2 hd2 => ⟨y2, hy2, (q1.sd true).at hj hjl fun a3 y3 hy3 he3 => ⟨eD y3, wY hy3, ?_⟩⟩
    rw [ow hj hjv] at hd2
    rw [← mE] at he he3
    refine py hd2 he3.2 (by omega) (by omega) fun h2 e2 => ⟨e1.trans e2, ?_⟩
    rw [he.1] at g
    have g : (edA (sd t true) v).1 ≠ 0 := by simpa using g
    unfold byd sg
    simp only [g, ne_eq, not_false_eq_true, decide_true, decide_false, Bool.true_and, Bool.false_or, Bool.false_eq_true, if_true, if_false, reduceIte]
    exact decide_eq_decide.2 (by omega)
  · exact ⟨e1, by rw [← mE] at he; rw [he.1] at g; have g : (edA (sd t true) v).1 = 0 := (by simpa using g); simp [byd, g]⟩
end
end Go.Sh

namespace Go.Sh
open Go Go.Lift
section
variable {t t' : TT} {lim n : Nat} {v : Int} {up : Bool} {e : Eg} {rs : PL} {er : Int}
def oldB (t : TT) (v : Int) (up : Bool) (e : Eg) : Prop := (edA (sd t up) v).1 ≠ 0 ∧ cmpD (edA (sd t up) v).2 e.2 * sg up ≤ 0
theorem Bd.inv (D : Bd lim t v up e t' rs er) :
    ((v < 0 ∨ v ≥ (t.vs.length : Int)) → t' = t ∧ rs = [] ∧ er = 2) ∧ (0 ≤ v → v < (t.vs.length : Int) → (e.1 = 0 → t' = t ∧ rs = [] ∧ er = 1) ∧ (e.1 ≠ 0 → (oldB t v up e → t' = t ∧ rs = [] ∧ er = 0) ∧ (¬ oldB t v up e →
      (byd (!up) (edA (sd t (!up)) v) e.2 = true → t' = t ∧ rs = [(e.1, 1), ((edA (sd t (!up)) v).1, 1)] ∧ er = 0) ∧ (byd (!up) (edA (sd t (!up)) v) e.2 = false → rs = [] ∧ er = 0 ∧
        (¬ (rowI t.bs v < 0 ∧ byd up e (atD t.vs v) = true) → t' = setE t up v e) ∧ (rowI t.bs v < 0 → byd up e (atD t.vs v) = true → t' = updT (setE t up v e) v e.2 ∧ ∀ z ∈ (updT (setE t up v e) v e.2).vs, szD z ≤ lim))))) := by
  have no : ∀ {p : Prop}, (v < 0 ∨ v ≥ (t.vs.length : Int)) → 0 ≤ v → v < (t.vs.length : Int) → p := fun h h1 h2 => by omega
  cases D with
  | rng h => exact ⟨fun _ => ⟨rfl, rfl, rfl⟩, fun h1 h2 => no h h1 h2⟩
  | arg h1 h2 h3 => exact ⟨fun h => no h h1 h2, fun _ _ => ⟨fun _ => ⟨rfl, rfl, rfl⟩, fun h => absurd h3 h⟩⟩
  | old h1 h2 h3 h4 h5 => exact ⟨fun h => no h h1 h2, fun _ _ => ⟨fun h => absurd h h3, fun _ => ⟨fun _ => ⟨rfl, rfl, rfl⟩, fun h => absurd ⟨h4, h5⟩ h⟩⟩⟩
  | cla h1 h2 h3 h4 h5 => exact ⟨fun h => no h h1 h2, fun _ _ => ⟨fun h => absurd h h3, fun _ => ⟨fun h => absurd h h4, fun _ => ⟨fun _ => ⟨rfl, rfl, rfl⟩, fun h => (nomatch h5.symm.trans h)⟩⟩⟩⟩
  | set h1 h2 h3 h4 h5 h6 => exact ⟨fun h => no h h1 h2, fun _ _ => ⟨fun h => absurd h h3, fun _ => ⟨fun h => absurd h h4, fun _ => ⟨fun h => (nomatch h5.symm.trans h), fun _ => ⟨rfl, rfl, fun _ => rfl, fun h7 h8 => absurd ⟨h7, h8⟩ h6⟩⟩⟩⟩⟩
  | upd h1 h2 h3 h4 h5 h6 h7 h8 => exact ⟨fun h => no h h1 h2, fun _ _ => ⟨fun h => absurd h h3, fun _ => ⟨fun h => absurd h h4, fun _ => ⟨fun h => (nomatch h5.symm.trans h), fun _ => ⟨rfl, rfl, fun h => absurd ⟨h6, h7⟩ h, fun _ _ => ⟨rfl, h8⟩⟩⟩⟩⟩⟩
end
section
variable {K : Nat → Prop} {h : Heap} {y : S5} {t t' : TT} {n : Nat} {v : Int} {up : Bool} {e : Eg} {rs : PL} {er : Int}
theorem TK.rng (tk : TK K h y t) (up : Bool) : RowK C7 7 EK K h (sdS y up) (sd t up) := by cases up; exact tk.lo; exact tk.up
end
end Go.Sh

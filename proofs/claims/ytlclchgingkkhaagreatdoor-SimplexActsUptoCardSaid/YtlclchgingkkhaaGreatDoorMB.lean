/-
  Laws that the proof of this claim's statement leans on, each proved under the conditions that it states.
-/
import Derived.Test.YtlclchgingkkhaaGreatDoorMA
import Derived.Test.YtlclchgingkkhaaGreatDoorXC
import Derived.Test.YtlclchgingkkhaaGreatDoorXD
set_option linter.unusedVariables false
set_option linter.unusedSimpArgs false
namespace Go.Sh
open Go Go.Lift
structure Fst (t : TT) (i : Nat) (up : Bool) (j : Nat) : Prop where
  lt : j < (psA t i).2.length
  ok : rm t up ((psA t i).2[j]'lt) = true
  min : ∀ k (hk : k < j), rm t up ((psA t i).2[k]'(by omega)) = false
def goD (t : TT) (i : Nat) (up : Bool) (m : Int × Rat) : Rat × Rat := addD (atD t.vs m.1) (scD (1 / m.2) (subD (edA (sd t up) (at0 t.bs i)).2 (atD t.vs (at0 t.bs i))))
inductive St1 (lim : Nat) (t : TT) : TT → Int → PL → Prop where
  | fine : (∀ k c, k < t.ps.length → viol t k c = false) → St1 lim t t 0 []
  | clash (i : Nat) (up : Bool) : Wst t i up → (∀ m ∈ (psA t i).2, rm t up m = false) → St1 lim t t 2 (rsn t i up)
  | move (i : Nat) (up : Bool) (j : Nat) (m : Int × Rat) (w : Wst t i up) (f : Fst t i up j) : m = (psA t i).2[j]'f.lt → (∀ e ∈ (updT t m.1 (goD t i up m)).vs, szD e ≤ lim) → (∀ p ∈ (pivT (updT t m.1 (goD t i up m)) i m.1).ps, bW lim p = true) → szD (goD t i up m) ≤ lim → St1 lim t (pivT (updT t m.1 (goD t i up m)) i m.1) 1 []
theorem newC {v : Value} {h : Heap} {k : Addr → Heap → Prop} (K : ∀ a h', cell? h' a = some v → frozen? h' a = false → a.block = h.size → h'.size = h.size + 1 → Ext h h' → k a h') : new [v] h k := by
  intro T
  exact K _ _ (by rw [l6]; rfl) (fF (T := T) (c := [v].toArray) (by simp)) rfl (by simp) (Ext.push _ _)
theorem stC {a : Addr} {u v : Value} {h : Heap} {k : Heap → Prop} (hc : cell? h a = some u) (hf : frozen? h a = false) (K : ∀ h', cell? h' a = some v → Keep (some a.block) h h' → k h') : Lift.agT a v h k :=
  ⟨⟨u, hc⟩, hf, K _ (cw hc) (Keep.setCell h a v)⟩
section
variable {h0 h h' : Heap} {V : Vol} {lim : Nat} {ov : Bool} {x : S5} {t : TT}
theorem TM.sk (q : TM h0 V lim ov h x t) (up : Bool) : RowQ C7 7 (EK V.K) h (sdS x up) (sd t up) := by
  obtain ⟨ls, l1, l2⟩ := q.lo
  obtain ⟨us, u1, u2⟩ := q.up
  cases up
  · exact ⟨q.tq.lo.cap, ls, l1.rs len7 (by decide), l2⟩
  · exact ⟨q.tq.up.cap, us, u1.rs len7 (by decide), u2⟩
theorem vE {Q : (Int × Sl × Int) → Heap → Prop} (q : TM h0 V lim false h x t) (hlim : lim ≤ 80) (h1lim : 2 ≤ lim) (f : FitL lim t)
    (CO : ∀ h', BO h0 V.a lim true h' → (∃ i up j, Wst t i up ∧ Fst t i up j) → Q (0, Sl.nil, 6) h')
    (C : ∀ st s t' rs x' h', TM h0 V lim false h' x' t' → KK V.K h h' → St1 lim t t' st rs → MK K0 h' s rs → Q (st, s, 0) h') : fR (some V.a) (some V.p) h Q := by
  have lb := f.g.lb
  have np := f.np
  have nv := f.nv
  refine newC fun c0 ha ca fa ba sa ea => ⟨_, ca, abV (q.ext ea) hlim f (fun up hb hn eb => ?_) fun i up hb w eb => ?_⟩
  · refine newC fun c1 hc cc fc bc sc ec => stC cc fc fun hd cd kd => ⟨fun _ => ?_, fun g => by simp at g⟩
    have e : Ext h hd := ((ea.trans eb).trans ec).fresh (by have := ea.size; have := eb.size; omega) kd
    exact C 0 _ t [] x hd (q.ext e) (KK.ext e) (.fine hn) MK.nil
  refine newC fun c1 hc cc fc bc sc ec => stC cc fc fun hd c1d kd => ⟨fun g => by simp at g; omega, fun _ => ?_⟩
  have sab := eb.size
  have sh := ea.size
  have e0d : Ext h hd := ((ea.trans eb).trans ec).fresh (by omega) kd
  have c0d : cell? hd c0 = some (Value.pointer (some V.p)) := ah kd (ah (eb.trans ec) ca (by simp)) (by intro e; have := Option.some.inj e; omega)
  have qd := q.ext e0d
  have k0d : KK V.K h hd := KK.ext e0d
  have n0 : ¬ V.K c0.block := fun hk => by have := q.lt _ hk; omega
  have n1 : ¬ V.K c1.block := fun hk => by have := q.lt _ hk; omega
  clear ca fa cc fc kd
  have hi := w.lt
  obtain ⟨ys, r1, r2⟩ := qd.rows
  refine ⟨_, c0d, qd.ld1 (zQ r1 r2 rfl hi fun a1 y1 _ _ hy1 hp1 => ?_)⟩
  rw [← bV hi] at hp1
  have l3 : cell? hd (a1.add 3) = some (Sl.toV y1.2.2.2) := by have := cells?_get _ _ _ hy1 3 (by simp [qU]); rw [Nat.zero_add] at this; exact this
  refine ⟨_, l3, abK qd hlim f hi hp1.2.k0 c0d c1d (fun he hn ee => ?_) fun j hj he hro hmin ee => ?_⟩
  · refine ⟨fun _ => ⟨_, ah ee c0d (by simp), _, ah ee c1d (by simp), wC (qd.ext ee) f hi fun s hf ms ef => ?_⟩, fun g => by simp at g⟩
    exact C 2 s t _ x hf (qd.ext (ee.trans ef)) (k0d.trans (KK.ext (ee.trans ef))) (.clash i up w hn) ms
  refine ⟨fun g => by simp at g; omega, fun _ => ?_⟩
  have F : Fst t i up j := ⟨hj, hro, hmin⟩
  have CO' := fun h' b => CO h' b ⟨i, up, j, w, F⟩
  have qe := qd.ext ee
  have c0e := ah ee c0d (by simp)
  have c1e := ah ee c1d (by simp)
  have k0e := k0d.trans (KK.ext ee)
  have C1 := fun t' x' h' g1 g2 g3 => C 1 Sl.nil t' [] x' h' g1 g2 g3 MK.nil
  have mv := St1.move (lim := lim) i up j _ w F rfl
  obtain ⟨v1, v2, v3, v4, v5, v6⟩ := f.var hi (List.getElem_mem hj)
  refine (hp1.2.ext ee).at rfl hj fun a2 y2 hy2 hv2 hq2 => ⟨y2, hy2, ?_⟩
  have hq2 : RK V.K he (co y2) (psA t i).2[j].2 := hq2
  clear hro hmin CO C hy1 l3 r1 r2 c1d c0d
  generalize hm : (psA t i).2[j] = m at *
  have hb0 := f.g.rng i hi
  refine ⟨_, c0e, qe.ld0 (RJ.ld qe.bas rfl (show i < t.bs.length by omega) ?_)⟩
  unfold goD at mv
  generalize at0 t.bs i = b at *
  obtain ⟨n, hn⟩ : ∃ n : Nat, b = (n : Int) := ⟨b.toNat, by omega⟩
  have hnl : n < t.vs.length := by omega
  have hls : n < (sd t up).length := by rw [f.g.sdl]; exact hnl
  obtain ⟨l, hl⟩ : ∃ l : Nat, m.1 = (l : Int) := ⟨m.1.toNat, by omega⟩
  have hll : l < t.vs.length := by omega
  have zb : szD (atD t.vs b) ≤ lim := fv f.v b
  have zm : szD (atD t.vs m.1) ≤ lim := fv f.v m.1
  have zE : szD (edA (sd t up) b).2 ≤ lim := ii (f.sd up)
  have Ka := TM.Ka V
  refine aa fun hf ef => ?_
  have qf := qe.ext ef
  have c0f := ah ef c0e (by simp)
  have c1f := ah ef c1e (by simp)
  refine seq.dup ⟨_, c0f, _, c1f, _, c0f, qf.ld2 (qf.ldVa hn hnl fun a6 y6 hy6 hab hd6 => aa fun hg eg => jY (qf.ext eg) fun hh eh => ⟨ah (eg.trans eh) c0f (by simp), ah (eg.trans eh) (qf.root 2 (by decide)).1 (by simp), bf (eg.trans eh) (by simp) hy6, ?_⟩)⟩
  have qh := (qf.ext eg).ext eh
  rw [gA hn hnl] at hd6
  refine (qh.sk up).at hn hls fun a8 y8 hy8 he8 => ⟨eD y8, tE hy8, aa fun hi1 ei => ?_⟩
  have hE : (sd t up)[n] = edA (sd t up) b := by rw [hn, cJ hls]
  rw [hE] at he8
  have qi := qh.ext ei
  have e_fi := (eg.trans eh).trans ei
  refine wu qi.bo.tb qi.bo.bench (he8.2.keep ei (by simp)).df (hd6.keep e_fi (by simp)).df (by omega) fun r1 hj1 hb1 kj1 hr1 fr1 => aa fun hk ek => ?_
  have qj := qi.keep kj1 (qi.bo.keep hb1 kj1)
  have d1 := (DK.fr hr1 fr1 qi.lt).keep ek (by simp)
  have K1 : KK V.K he hk := (((KK.ext (ef.trans e_fi)).trans (KK.keep kj1 fun k e => by cases e; exact .inl Ka)).trans (KK.ext ek))
  have z1 : szD (valD (false || decide (lim < szD (subD (edA (sd t up) b).2 (atD t.vs b)))) (subD (edA (sd t up) b).2 (atD t.vs b))) ≤ lim := afB rfl
  have w1 : (false || decide (lim < szD (subD (edA (sd t up) b).2 (atD t.vs b)))) = false → valD (false || decide (lim < szD (subD (edA (sd t up) b).2 (atD t.vs b)))) (subD (edA (sd t up) b).2 (atD t.vs b)) = subD (edA (sd t up) b).2 (atD t.vs b) := fun h => by rw [h]; rfl
  have qk := qj.ext ek
  clear hb1 hr1 fr1 qj
  generalize subD (edA (sd t up) b).2 (atD t.vs b) = far at *
  generalize (false || decide (lim < szD far)) = o1 at *
  generalize valD o1 far = f1 at *
  refine seq.dup (aa fun hl1 el => OfQ (by decide) (by decide) fun one hm1 hone _ em => aa fun hn1 en => ?_)
  have ekn := (el.trans em).trans en
  have qn := qk.ext ekn
  have s1 : szQ ((1 : Int) : Rat) ≤ 2 := nA (by decide)
  have q2n := (K1.trans (KK.ext ekn)).rk hq2
  refine wl qn.bo.tb qn.bo.bench (hone.ext en) q2n.rq (by omega) (fun h => absurd h v4) fun _ c ho hbo ko hc fc => aa fun hp ep => ?_
  rw [show (((1 : Int) : Rat) / m.2) = 1 / m.2 from rfl] at hbo hc
  have qo := qn.keep ko (qn.bo.keep hbo ko)
  have z2 : szQ (val' (o1 || decide (lim < szQ (1 / m.2))) (1 / m.2)) ≤ lim := by
    unfold val'
    split
    · rw [c6]; omega
    · rename_i hh; simp at hh; exact hh.2
  have w2 : (o1 || decide (lim < szQ (1 / m.2))) = false → o1 = false ∧ val' (o1 || decide (lim < szQ (1 / m.2))) (1 / m.2) = 1 / m.2 := fun h => ⟨(Bool.or_eq_false_iff.1 h).1, by rw [h]; rfl⟩
  have K2 : KK V.K hk hp := ((KK.ext ekn).trans (KK.keep ko fun k e => by cases e; exact .inl Ka)).trans (KK.ext ep)
  have hcp : RK V.K hp c (val' (o1 || decide (lim < szQ (1 / m.2))) (1 / m.2)) := (RK.fresh (h0 := hn1) hc.rq fc qn.lt).ext ep
  have qp := qo.ext ep
  clear hbo hc fc qo
  generalize (o1 || decide (lim < szQ (1 / m.2))) = o2 at *
  generalize val' o2 (1 / m.2) = c2 at *
  refine jN qp.bo.tb qp.bo.bench (hcp.rf Ka) (K2.dk d1).df (by omega) fun r3 hq hb3 kq hr3 fr3 => aa fun hr er => ?_
  have d3 := (DK.fr hr3 fr3 qp.lt).keep er (by simp)
  have z3 : szD (valD (o2 || decide (lim < szD (scD c2 f1))) (scD c2 f1)) ≤ lim := lQ fun h => by
    have := of_decide_eq_false (Bool.or_eq_false_iff.1 h).2; omega
  have w3 : (o2 || decide (lim < szD (scD c2 f1))) = false → o2 = false ∧ valD (o2 || decide (lim < szD (scD c2 f1))) (scD c2 f1) = scD c2 f1 := fun h => ⟨(Bool.or_eq_false_iff.1 h).1, by rw [h]; rfl⟩
  have qr := (qp.keep kq (qp.bo.keep hb3 kq)).ext er
  have K3 : KK V.K hp hr := (KK.keep kq fun k e => by cases e; exact .inl Ka).trans (KK.ext er)
  clear hb3 hr3 fr3
  generalize (o2 || decide (lim < szD (scD c2 f1))) = o3 at *
  generalize valD o3 (scD c2 f1) = f3 at *
  have Ker := (K1.trans K2).trans K3
  have c0r := Ker.cell c0e n0
  refine ⟨_, c0r, _, c0r, qr.ld2 (qr.ldVa (by rw [hv2]; exact hl) hll fun a9 y9 hy9 hab9 hd9 => ?_)⟩
  rw [gA hl hll] at hd9
  refine pP qr.bo.tb qr.bo.bench hd9.df d3.df (by omega) fun r4 hs hb4 ks hr4 fr4 => ?_
  have d4 := DK.fr hr4 fr4 qr.lt
  have z4 : szD (valD (o3 || decide (lim < szD (addD (atD t.vs m.1) f3))) (addD (atD t.vs m.1) f3)) ≤ lim := lQ fun h => by
    have := of_decide_eq_false (Bool.or_eq_false_iff.1 h).2; omega
  have w4 : (o3 || decide (lim < szD (addD (atD t.vs m.1) f3))) = false → o3 = false ∧ valD (o3 || decide (lim < szD (addD (atD t.vs m.1) f3))) (addD (atD t.vs m.1) f3) = addD (atD t.vs m.1) f3 := fun h => ⟨(Bool.or_eq_false_iff.1 h).1, by rw [h]; rfl⟩
  have qs := qr.keep ks (qr.bo.keep hb4 ks)
  have K4 : KK V.K hr hs := KK.keep ks fun k e => by cases e; exact .inl Ka
  have Kes := Ker.trans K4
  clear hb4 hr4 fr4
  generalize (o3 || decide (lim < szD (addD (atD t.vs m.1) f3))) = o4 at *
  generalize valD o4 (addD (atD t.vs m.1) f3) = f4 at *
  have go : o4 = false → f4 = addD (atD t.vs m.1) (scD (1 / m.2) far) := fun h => by
    obtain ⟨g1, g2⟩ := w4 h
    obtain ⟨g3, g4⟩ := w3 g1
    obtain ⟨g5, g6⟩ := w2 g3
    rw [g2, g4, g6, w1 g5]
  refine ⟨Kes.cell c0e n0, ?_⟩
  have hvl : -9223372036854775808 ≤ m.1 ∧ m.1 ≤ 9223372036854775807 := by omega
  have hil : i < t.ps.length := hi
  rw [hv2]
  refine oV (v := m.1) (d := f4) qs hlim lb np nv (fun b hb => ?_) f.ok f.v d4 z4 hvl (fun hh h' e => ?_) (fun h' vs' _ q' k' hv hz => ?_) fun ho _ _ _ h' q' k' hz => ?_
  · obtain ⟨k, hk, rfl⟩ := List.getElem_of_mem hb
    have := f.g.rng k (by omega)
    rwa [gh hk] at this
  · omega
  · refine ⟨_, (Kes.trans k').cell c0e n0, ?_⟩
    refine tU q' hlim (by omega) lb np f.ok hvl (fun hh => ?_) (fun k hk hkl hco => ?_) (fun k _ _ _ h2 b => cC b.bench ⟨fun _ => CO' h2 b, nofun⟩) fun ho => nomatch ho
    · dsimp only at hh; omega
    · have : k = i := by omega
      subst this
      exact absurd (v5.symm.trans hco) v4
  · have hf := go ho
    refine ⟨_, (Kes.trans k').cell c0e n0, ?_⟩
    refine tU q' hlim (by omega) lb np f.ok hvl (fun hh => ?_) (fun k hk hkl hco => ?_) (fun k _ _ _ h2 b => cC b.bench ⟨fun _ => CO' h2 b, nofun⟩) fun _ k hk hkl hco x' h2 q2 k2 hfit => ?_
    · have hh : (i : Int) < 0 ∨ (i : Int) ≥ (t.ps.length : Int) := hh
      omega
    · have : k = i := by omega
      subst this
      exact absurd (v5.symm.trans hco) v4
    · have : k = i := by omega
      subst this
      subst hf
      exact cC q2.bo.bench ⟨nofun, fun _ => C1 _ _ _ q2 (((k0e.trans Kes).trans k').trans k2) (mv hz hfit z4)⟩
end
end Go.Sh

namespace Go.Sh
open Go Go.Lift
theorem cH {h : Heap} {x y : X6} {p q : Rat × Rat} {Q : Int → Heap → Prop} (hx : DQ h x p) (hy : DQ h y q) (h1 : szD p ≤ 1000) (h2 : szD q ≤ 1000) (K : ∀ h', Ext h h' → Q (cmpD p q) h') : bZ x y h Q :=
  aa fun ha ea => ff (hx.ext ea) h1 fun r hb hr eb => ff ((hy.ext ea).ext eb) h2 fun s hc hs ec => abT (hr.ext ec) hs (by omega) fun hd ed => K hd (((ea.trans eb).trans ec).trans ed)
theorem gb {h : Heap} {Q : X3 → Heap → Prop} (K : ∀ r h', RQ h' r 1 → Fr h r → Ext h h' → Q r h') : fC h Q :=
  aa fun ha ea => gJ (n := 1) (by decide) fun r hb hr eb => mY hr (by have := nA (n := 1) (by decide); omega) fun s hc hs fs ec => K s hc hs (fs.mono (ea.trans eb).size) ((ea.trans eb).trans ec)
section
variable {h h' : Heap} {x : S5} {t : TT} {lim : Nat}
theorem qx {v : Int} {Q : Bool → Heap → Prop} (q : TQ h x t) (f : FitL lim t) (hlim : lim ≤ 80) (v0 : 0 ≤ v) (v1 : v < (t.vs.length : Int)) (K : ∀ h', Ext h h' → Q (byd false (edA (sd t false) v) (atD t.vs v)) h') : gX x v h Q := by
  obtain ⟨j, hj⟩ : ∃ j : Nat, v = (j : Int) := ⟨v.toNat, by omega⟩
  have hs := f.g.sdl false
  have hjl : j < (sd t false).length := by omega
  have hjv : j < t.vs.length := by omega
  have mE : edA (sd t false) v = (sd t false)[j] := by rw [hj]; exact cJ hjl
  have hz := ii (v := v) (f.sd false)
  have hd := fv f.v v
  refine aa fun h1 e1 => ?_
  have q1 := q.ext e1
  refine seq.cut (fun b h' => Ext h h' ∧ b = byd false (edA (sd t false) v) (atD t.vs v)) ?_ fun b h' ⟨e, hb⟩ => by rw [hb]; exact K h' e
  refine (q1.sd false).at hj hjl fun a y hy he => ⟨y.1, fV hy, ⟨fun g => ?_, fun g => ?_⟩⟩
  · refine q1.vals.at hj hjv fun a2 y2 hy2 hd2 => ⟨y2, hy2, (q1.sd false).at hj hjl fun a3 y3 hy3 he3 => ⟨eD y3, tE hy3, ?_⟩⟩
    rw [gA hj hjv] at hd2
    rw [← mE] at he he3
    refine cH hd2 he3.2 (by omega) (by omega) fun h2 e2 => ⟨e1.trans e2, ?_⟩
    rw [he.1] at g
    have g : (edA (sd t false) v).1 ≠ 0 := by simpa using g
    unfold byd sg
    simp only [g, ne_eq, not_false_eq_true, decide_true, decide_false, Bool.true_and, Bool.false_or, Bool.false_eq_true, if_true, if_false, reduceIte]
    exact decide_eq_decide.2 (by omega)
  · exact ⟨e1, by rw [← mE] at he; rw [he.1] at g; have g : (edA (sd t false) v).1 = 0 := (by simpa using g); simp [byd, g]⟩
theorem yu {v : Int} {Q : Bool → Heap → Prop} (q : TQ h x t) (f : FitL lim t) (hlim : lim ≤ 80) (v0 : 0 ≤ v) (v1 : v < (t.vs.length : Int)) (K : ∀ h', Ext h h' → Q (byd true (edA (sd t true) v) (atD t.vs v)) h') : j6 x v h Q := by
  obtain ⟨j, hj⟩ : ∃ j : Nat, v = (j : Int) := ⟨v.toNat, by omega⟩
  have hs := f.g.sdl true
  have hjl : j < (sd t true).length := by omega
  have hjv : j < t.vs.length := by omega
  have mE : edA (sd t true) v = (sd t true)[j] := by rw [hj]; exact cJ hjl
  have hz := ii (v := v) (f.sd true)
  have hd := fv f.v v
  refine aa fun h1 e1 => ?_
  have q1 := q.ext e1
  refine seq.cut (fun b h' => Ext h h' ∧ b = byd true (edA (sd t true) v) (atD t.vs v)) ?_ fun b h' ⟨e, hb⟩ => by rw [hb]; exact K h' e
  refine (q1.sd true).at hj hjl fun a y hy he => ⟨y.1, fV hy, ⟨fun g => ?_, fun g => ?_⟩⟩
  · refine q1.vals.at hj hjv fun a2 y2 hy2 hd2 => ⟨y2, hy2, (q1.sd true).at hj hjl fun a3 y3 hy3 he3 => ⟨eD y3, tE hy3, ?_⟩⟩
    rw [gA hj hjv] at hd2
    rw [← mE] at he he3
    refine cH hd2 he3.2 (by omega) (by omega) fun h2 e2 => ⟨e1.trans e2, ?_⟩
    rw [he.1] at g
    have g : (edA (sd t true) v).1 ≠ 0 := by simpa using g
    unfold byd sg
    simp only [g, ne_eq, not_false_eq_true, decide_true, decide_false, Bool.true_and, Bool.false_or, Bool.false_eq_true, if_true, if_false, reduceIte]
    exact decide_eq_decide.2 (by omega)
  · exact ⟨e1, by rw [← mE] at he; rw [he.1] at g; have g : (edA (sd t true) v).1 = 0 := (by simpa using g); simp [byd, g]⟩
theorem aem {v : Int} {Q : Bool → Heap → Prop} (q : TQ h x t) (f : FitL lim t) (hlim : lim ≤ 80) (v0 : 0 ≤ v) (v1 : v < (t.vs.length : Int)) (K : ∀ h', Ext h h' → Q (roo true (edA (sd t true) v) (atD t.vs v)) h') : uV x v h Q := by
  obtain ⟨j, hj⟩ : ∃ j : Nat, v = (j : Int) := ⟨v.toNat, by omega⟩
  have hs := f.g.sdl true
  have hjl : j < (sd t true).length := by omega
  have hjv : j < t.vs.length := by omega
  have mE : edA (sd t true) v = (sd t true)[j] := by rw [hj]; exact cJ hjl
  have hz := ii (v := v) (f.sd true)
  have hd := fv f.v v
  refine aa fun h1 e1 => ?_
  have q1 := q.ext e1
  refine seq.cut (fun b h' => Ext h h' ∧ b = roo true (edA (sd t true) v) (atD t.vs v)) ?_ fun b h' ⟨e, hb⟩ => by rw [hb]; exact K h' e
  refine (q1.sd true).at hj hjl fun a y hy he => ⟨y.1, fV hy, ⟨fun g => ?_, fun g => ?_⟩⟩
  · exact ⟨e1, by rw [← mE] at he; rw [he.1] at g; have g : (edA (sd t true) v).1 = 0 := (by simpa using g); simp [roo, g]⟩
  · refine q1.vals.at hj hjv fun a2 y2 hy2 hd2 => ⟨y2, hy2, (q1.sd true).at hj hjl fun a3 y3 hy3 he3 => ⟨eD y3, tE hy3, ?_⟩⟩
    rw [gA hj hjv] at hd2
    rw [← mE] at he he3
    refine cH hd2 he3.2 (by omega) (by omega) fun h2 e2 => ⟨e1.trans e2, ?_⟩
    rw [he.1] at g
    have g : (edA (sd t true) v).1 ≠ 0 := by simpa using g
    unfold roo sg
    simp only [g, ne_eq, not_false_eq_true, decide_true, decide_false, Bool.true_and, Bool.false_or, Bool.false_eq_true, if_true, if_false, reduceIte]
    exact decide_eq_decide.2 (by omega)
theorem abu {v : Int} {Q : Bool → Heap → Prop} (q : TQ h x t) (f : FitL lim t) (hlim : lim ≤ 80) (v0 : 0 ≤ v) (v1 : v < (t.vs.length : Int)) (K : ∀ h', Ext h h' → Q (roo false (edA (sd t false) v) (atD t.vs v)) h') : jf x v h Q := by
  obtain ⟨j, hj⟩ : ∃ j : Nat, v = (j : Int) := ⟨v.toNat, by omega⟩
  have hs := f.g.sdl false
  have hjl : j < (sd t false).length := by omega
  have hjv : j < t.vs.length := by omega
  have mE : edA (sd t false) v = (sd t false)[j] := by rw [hj]; exact cJ hjl
  have hz := ii (v := v) (f.sd false)
  have hd := fv f.v v
  refine aa fun h1 e1 => ?_
  have q1 := q.ext e1
  refine seq.cut (fun b h' => Ext h h' ∧ b = roo false (edA (sd t false) v) (atD t.vs v)) ?_ fun b h' ⟨e, hb⟩ => by rw [hb]; exact K h' e
  refine (q1.sd false).at hj hjl fun a y hy he => ⟨y.1, fV hy, ⟨fun g => ?_, fun g => ?_⟩⟩
  · exact ⟨e1, by rw [← mE] at he; rw [he.1] at g; have g : (edA (sd t false) v).1 = 0 := (by simpa using g); simp [roo, g]⟩
  · refine q1.vals.at hj hjv fun a2 y2 hy2 hd2 => ⟨y2, hy2, (q1.sd false).at hj hjl fun a3 y3 hy3 he3 => ⟨eD y3, tE hy3, ?_⟩⟩
    rw [gA hj hjv] at hd2
    rw [← mE] at he he3
    refine cH hd2 he3.2 (by omega) (by omega) fun h2 e2 => ⟨e1.trans e2, ?_⟩
    rw [he.1] at g
    have g : (edA (sd t false) v).1 ≠ 0 := by simpa using g
    unfold roo sg
    simp only [g, ne_eq, not_false_eq_true, decide_true, decide_false, Bool.true_and, Bool.false_or, Bool.false_eq_true, if_true, if_false, reduceIte]
    exact decide_eq_decide.2 (by omega)
theorem ti {a b : Sl} {l : PL} {Q : Bool → Heap → Prop} (ha : MK K0 h a l) (hb : MK K0 h b l) (hl : l.length ≤ 1000) (K : ∀ h', Ext h h' → Q true h') : jp a b h Q := by
  have la := ha.len
  have lb := hb.len
  refine ⟨fun g => by rw [la, lb] at g; simp at g, fun _ => ?_⟩
  rw [la]
  refine loop.inv (fun (s : Int) h' => Ext h h' ∧ ∃ j : Nat, s = (j : Int) ∧ j ≤ l.length) (fun s _ => l.length - s.toNat) ⟨Keep.refl _ _, 0, rfl, by omega⟩ ?_
  rintro _ h1 ⟨e1, j, rfl, hj⟩
  refine ⟨fun g => ?_, fun _ => K h1 e1⟩
  have g := of_decide_eq_true g
  have hjl : j < l.length := by omega
  refine seq.cut (fun c h' => c = false ∧ Ext h h') ?_ ?_
  · refine (ha.ext e1).at rfl hjl fun a1 y1 hy1 hv1 _ => ⟨_, cX hy1, (hb.ext e1).at rfl hjl fun a2 y2 hy2 hv2 _ => ⟨_, cX hy2, ⟨fun g => by rw [hv1, hv2] at g; simp at g, fun _ => ?_⟩⟩⟩
    refine (ha.ext e1).at rfl hjl fun a3 y3 hy3 _ hq3 => ⟨co y3, vj hy3, (hb.ext e1).at rfl hjl fun a4 y4 hy4 _ hq4 => ⟨co y4, vj hy4, ?_⟩⟩
    exact gi hq3.rq hq4.rq fun h2 e2 => ⟨by simp, e1.trans e2⟩
  · rintro c h2 ⟨rfl, e2⟩
    refine ⟨nofun, fun _ => ?_⟩
    rintro _ rfl
    exact ⟨⟨e2, j + 1, w64 (by omega) (by omega), by omega⟩, by rw [w64 (by omega) (by omega)]; omega⟩
theorem agu {K : Nat → Prop} {s : Sl} {es : List Eg} {y : E7} {e : Eg} {v : Int} {k : Sl → Heap → Prop} (r : RowK C7 7 EK K h s es) (hK : ∀ k, K k → k < h.size) (he : EK K h y e) (h0 : 0 ≤ v) (h1 : v < (es.length : Int)) (hl : es.length ≤ 1000)
    (C : ∀ w h', RowK C7 7 EK K h' w (es.set v.toNat e) → Ext h h' → k w h') : new [] h fun a h1 => aG 7 120 (⟨some a, 0, 0⟩ : Sl) s h1 fun w h2 => idxS w v 7 fun a2 => da a2 (C7 y) h2 fun h3 => k w h3 := by
  intro T
  have e3 := Ext.push h (.cells ([] : List Value).toArray T (0, 0))
  have ho : OwnS C7 7 h.size (h.push (.cells ([] : List Value).toArray T (0, 0))) ⟨some ⟨h.size, 0, none⟩, 0, 0⟩ ([] : List E7) := OwnS.nil (n := 0)
  generalize (h.push (.cells ([] : List Value).toArray T (0, 0)) : Heap) = h3 at *
  obtain ⟨ys, r1, r2⟩ := r.row
  have lv := r2.length
  refine ho.appendR len7 (by decide) one7 e3.size (RS.ext r1 e3) r.cap (by simp; omega) fun w h4 o4 k4 _ => ?_
  have e04 : Ext h h4 := e3.fresh (Nat.le_refl _) k4
  have o4 : OwnS C7 7 h.size h4 w ys := by simpa using o4
  have wK : ∀ k, w.blk = some k → h.size ≤ k := fun k hk => (o4.lt hk).1
  have hvn : ((v.toNat : Nat) : Int) = v := by omega
  refine o4.stS len7 (by decide) (one7 y) hvn.symm (by omega) fun h5 o5 k5 n5 => ?_
  have e05 : Ext h h5 := by
    cases hw : w.blk with
    | none => rw [hw] at k5; exact e04.trans k5
    | some b => rw [hw] at k5; exact e04.fresh (wK b hw) k5
  exact C w h5 (RowK.own o5 len7 (by decide) hK (All2.set (r2.imp fun y m h => h.keep e05 (by simp)) (he.keep e05 (by simp)))) e05
end
end Go.Sh

namespace Go.Sh
open Go Go.Lift
section
variable {t t' : TT} {lim n : Nat} {v : Int} {up : Bool} {e : Eg} {rs : PL} {er : Int}
def oldB (t : TT) (v : Int) (up : Bool) (e : Eg) : Prop := (edA (sd t up) v).1 ≠ 0 ∧ cmpD (edA (sd t up) v).2 e.2 * sg up ≤ 0
theorem Bd.inv (D : Bd lim t v up e t' rs er) :
    ((v < 0 ∨ v ≥ (t.vs.length : Int)) → t' = t ∧ rs = [] ∧ er = 2) ∧ (0 ≤ v → v < (t.vs.length : Int) → (e.1 = 0 → t' = t ∧ rs = [] ∧ er = 1) ∧ (e.1 ≠ 0 → (oldB t v up e → t' = t ∧ rs = [] ∧ er = 0) ∧ (¬ oldB t v up e →
      (byd (!up) (edA (sd t (!up)) v) e.2 = true → t' = t ∧ rs = [(e.1, 1), ((edA (sd t (!up)) v).1, 1)] ∧ er = 0) ∧ (byd (!up) (edA (sd t (!up)) v) e.2 = false → rs = [] ∧ er = 0 ∧
        (¬ (rowI t.bs v < 0 ∧ byd up e (atD t.vs v) = true) → t' = setE t up v e) ∧ (rowI t.bs v < 0 → byd up e (atD t.vs v) = true → t' = updT (setE t up v e) v e.2 ∧ ∀ z ∈ (updT (setE t up v e) v e.2).vs, szD z ≤ lim))))) := by
  have no : ∀ {p : Prop}, (v < 0 ∨ v ≥ (t.vs.length : Int)) → 0 ≤ v → v < (t.vs.length : Int) → p := fun h h1 h2 => by omega
  cases D with
  | rng h => exact ⟨fun _ => ⟨rfl, rfl, rfl⟩, fun h1 h2 => no h h1 h2⟩
  | arg h1 h2 h3 => exact ⟨fun h => no h h1 h2, fun _ _ => ⟨fun _ => ⟨rfl, rfl, rfl⟩, fun h => absurd h3 h⟩⟩
  | old h1 h2 h3 h4 h5 => exact ⟨fun h => no h h1 h2, fun _ _ => ⟨fun h => absurd h h3, fun _ => ⟨fun _ => ⟨rfl, rfl, rfl⟩, fun h => absurd ⟨h4, h5⟩ h⟩⟩⟩
  | cla h1 h2 h3 h4 h5 => exact ⟨fun h => no h h1 h2, fun _ _ => ⟨fun h => absurd h h3, fun _ => ⟨fun h => absurd h h4, fun _ => ⟨fun _ => ⟨rfl, rfl, rfl⟩, fun h => (nomatch h5.symm.trans h)⟩⟩⟩⟩
  | set h1 h2 h3 h4 h5 h6 => exact ⟨fun h => no h h1 h2, fun _ _ => ⟨fun h => absurd h h3, fun _ => ⟨fun h => absurd h h4, fun _ => ⟨fun h => (nomatch h5.symm.trans h), fun _ => ⟨rfl, rfl, fun _ => rfl, fun h7 h8 => absurd ⟨h7, h8⟩ h6⟩⟩⟩⟩⟩
  | upd h1 h2 h3 h4 h5 h6 h7 h8 => exact ⟨fun h => no h h1 h2, fun _ _ => ⟨fun h => absurd h h3, fun _ => ⟨fun h => absurd h h4, fun _ => ⟨fun h => (nomatch h5.symm.trans h), fun _ => ⟨rfl, rfl, fun h => absurd ⟨h6, h7⟩ h, fun _ _ => ⟨rfl, h8⟩⟩⟩⟩⟩⟩
end
section
variable {K : Nat → Prop} {h : Heap} {y : S5} {t t' : TT} {n : Nat} {v : Int} {up : Bool} {e : Eg} {rs : PL} {er : Int}
theorem TK.rng (tk : TK K h y t) (up : Bool) : RowK C7 7 EK K h (sdS y up) (sd t up) := by cases up; exact tk.lo; exact tk.up
theorem adh {a b : Int} {h : Heap} {r1 r2 : X3} {k : Addr → Heap → Prop} (h1 : RQ h r1 1) (h2 : RQ h r2 1) (C : ∀ c h', MK K0 h' (⟨some c, 2, 2⟩ : Sl) [(a, 1), (b, 1)] → Ext h h' → k c h') :
    new [Value.int .i64 a, Value.bool r1.1, Sl.toV r1.2.1, Sl.toV r1.2.2, Value.int .i64 b, Value.bool r2.1, Sl.toV r2.2.1, Sl.toV r2.2.2] h k := by
  intro T
  have e9 := Ext.push h (.cells [Value.int .i64 a, Value.bool r1.1, Sl.toV r1.2.1, Sl.toV r1.2.2, Value.int .i64 b, Value.bool r2.1, Sl.toV r2.2.1, Sl.toV r2.2.2].toArray T (0, 0))
  refine C _ _ ⟨Nat.le_refl _, ⟨[(a, r1.1, r1.2.1, r1.2.2), (b, r2.1, r2.2.1, r2.2.2)], RS.new (h := h) (cs := [Value.int .i64 a, Value.bool r1.1, Sl.toV r1.2.1, Sl.toV r1.2.2, Value.int .i64 b, Value.bool r2.1, Sl.toV r2.2.1, Sl.toV r2.2.2]) (T := T) len4 rfl rfl, .cons ⟨rfl, ?_⟩ (.cons ⟨rfl, ?_⟩ .nil)⟩, fun _ k hk => hk.elim⟩ e9
  · exact RK.of_rq (h1.ext e9) fun k hk => hk.elim
  · exact RK.of_rq (h2.ext e9) fun k hk => hk.elim
theorem x7 {e7 : E7} {Q : (S5 × Sl × Int) → Heap → Prop} (tk : TK K h y t) (hK : ∀ k, K k → k < h.size) (f : FitT t n) (he : EK K h e7 e) (hes : szD e.2 ≤ 60) (D : Bd 60 t v up e t' rs er)
    (C : ∀ y' s h', TK K h' y' t' → MK K0 h' s rs → Ext h h' → Q (y', s, er) h') : kf y v up e7 h Q := by
  obtain ⟨D1, D2⟩ := D.inv
  have fl := f.fl
  have nv := fl.nv
  have hlv : y.2.2.1.len = t.vs.length := tk.q.vals.len
  refine aa fun h1 e1 => ?_
  refine seq.cut (fun b h' => h' = h1 ∧ (b = true ↔ (v < 0 ∨ v ≥ (t.vs.length : Int)))) ?_ ?_
  · refine ⟨fun g => ⟨rfl, by have := of_decide_eq_true g; simp [this]⟩, fun g => ⟨rfl, ?_⟩⟩
    have g := of_decide_eq_false g
    rw [hlv, decide_eq_true_iff]
    omega
  rintro b h2 ⟨hh, hb⟩
  subst hh
  refine ⟨fun g => ?_, fun g => ?_⟩
  · obtain ⟨rfl, rfl, rfl⟩ := D1 (hb.1 g)
    exact C _ _ _ (tk.ext e1) MK.nil e1
  have hr : ¬ (v < 0 ∨ v ≥ (t.vs.length : Int)) := fun hh => by rw [hb.2 hh] at g; cases g
  have v0 : 0 ≤ v := by omega
  have v1 : v < (t.vs.length : Int) := by omega
  obtain ⟨D2, D3⟩ := D2 v0 v1
  clear hb g D1 D
  have ye := he.1
  refine ⟨fun g => ?_, fun g => ?_⟩
  · obtain ⟨rfl, rfl, rfl⟩ := D2 (by rw [← ye]; simpa using g)
    exact C _ _ _ (tk.ext e1) MK.nil e1
  have ne : e.1 ≠ 0 := by rw [← ye]; simpa using g
  obtain ⟨D3, D4⟩ := D3 ne
  clear g D2
  have t1 := tk.ext e1
  obtain ⟨j, hj⟩ : ∃ j : Nat, v = (j : Int) := ⟨v.toNat, by omega⟩
  have hjv : j < t.vs.length := by omega
  have hl0 := f.g.ll
  have hl1 := f.g.lu
  refine seq.cut (fun (p : Int × Bool × Sl × Sl × Bool × Sl × Sl × Int × Bool × Sl × Sl × Bool × Sl × Sl) h' => Ext h h' ∧ EQ h' (p.1, p.2.1, p.2.2.1, p.2.2.2.1, p.2.2.2.2.1, p.2.2.2.2.2.1, p.2.2.2.2.2.2.1) (edA t.lo v) ∧ EQ h' p.2.2.2.2.2.2.2 (edA t.up v)) ?_ ?_
  · refine t1.q.lo.at hj (by omega) fun a z hz hq => ⟨z, hz, t1.q.up.at hj (by omega) fun a2 z2 hz2 hq2 => ⟨z2, hz2, aa fun h3 e3 => ⟨e1.trans e3, ?_, ?_⟩⟩⟩
    · rw [hj, cJ (by omega)]; exact hq.ext e3
    · rw [hj, cJ (by omega)]; exact hq2.ext e3
  rintro ⟨w1, w2, w3, w4, w5, w6, w7, u⟩ h3 ⟨e3, hlo, hup⟩
  dsimp only at hlo hup ⊢
  have zl : szD (edA t.lo v).2 ≤ 60 := ii f.lo
  have zu : szD (edA t.up v).2 ≤ 60 := ii f.up
  have zv : szD (atD t.vs v) ≤ 60 := fv f.v v
  have he3 := he.keep e3 (by simp)
  refine seq.cut (fun b h' => Ext h3 h' ∧ (b = true ↔ oldB t v up e)) ?_ ?_
  · cases up
    · refine ⟨nofun, fun _ => ⟨fun _ => ⟨fun g => ?_, fun g => ⟨Keep.refl _ _, ?_⟩⟩, nofun⟩⟩
      · refine cH hlo.2 he3.2.dq (by omega) (by omega) fun h4 e4 => ⟨e4, ?_⟩
        have g : (edA t.lo v).1 ≠ 0 := by rw [← hlo.1]; simpa using g
        rw [decide_eq_true_iff]
        show _ ↔ (edA t.lo v).1 ≠ 0 ∧ cmpD (edA t.lo v).2 e.2 * (-1) ≤ 0
        simp only [g, ne_eq, not_false_eq_true, true_and]
        omega
      · have g : (edA t.lo v).1 = 0 := by rw [← hlo.1]; simpa using g
        refine ⟨nofun, fun hh => absurd g hh.1⟩
    · refine ⟨fun _ => ⟨fun g => ?_, fun g => ⟨nofun, fun _ => ⟨Keep.refl _ _, ?_⟩⟩⟩, nofun⟩
      · refine cH hup.2 he3.2.dq (by omega) (by omega) fun h4 e4 => ?_
        have g : (edA t.up v).1 ≠ 0 := by rw [← hup.1]; simpa using g
        have key : oldB t v true e ↔ cmpD (edA t.up v).2 e.2 ≤ 0 := by
          show (edA t.up v).1 ≠ 0 ∧ cmpD (edA t.up v).2 e.2 * 1 ≤ 0 ↔ _
          simp only [g, ne_eq, not_false_eq_true, true_and]
          omega
        refine ⟨fun g2 => ⟨e4, ?_⟩, fun g2 => ⟨nofun, fun _ => ⟨e4, ?_⟩⟩⟩
        · simp [key.2 (of_decide_eq_true g2)]
        · simp only [Bool.false_eq_true, false_iff]
          exact fun hh => of_decide_eq_false g2 (key.1 hh)
      · have g : (edA t.up v).1 = 0 := by rw [← hup.1]; simpa using g
        refine ⟨nofun, fun hh => absurd g hh.1⟩
  rintro b h4 ⟨e34, hb⟩
  have e4 := e3.trans e34
  refine ⟨fun g => ?_, fun g => ?_⟩
  · obtain ⟨rfl, rfl, rfl⟩ := D3 (hb.1 g)
    exact C _ _ _ (tk.ext e4) MK.nil e4
  obtain ⟨D4, D5⟩ := D4 fun hh => by rw [hb.2 hh] at g; cases g
  clear hb g D3
  have he4 := he.keep e4 (by simp)
  have hlo := hlo.ext e34
  have hup := hup.ext e34
  refine seq.cut (fun b h' => Ext h4 h' ∧ (b = true ↔ up = true ∧ byd false (edA t.lo v) e.2 = true)) ?_ ?_
  · refine ⟨fun g1 => ⟨fun g => ?_, fun g => ⟨Keep.refl _ _, ?_⟩⟩, fun g1 => ⟨Keep.refl _ _, by simp [g1]⟩⟩
    · refine cH hlo.2 he4.2.dq (by omega) (by omega) fun h5 e5 => ⟨e5, ?_⟩
      have g : (edA t.lo v).1 ≠ 0 := by rw [← hlo.1]; simpa using g
      have := wc (edA t.lo v).2 e.2
      simp only [byd, g1, g, sg, ne_eq, not_false_eq_true, decide_true, Bool.true_and, decide_eq_true_eq, true_and, Bool.false_eq_true, if_false, reduceIte]
      omega
    · have g : (edA t.lo v).1 = 0 := by rw [← hlo.1]; simpa using g
      simp [byd, g]
  rintro b h5 ⟨e45, hb⟩
  have e5 := e4.trans e45
  refine ⟨fun g => ?_, fun g => ?_⟩
  · obtain ⟨hu, hb2⟩ := hb.1 g
    subst hu
    obtain ⟨ht, rfl, rfl⟩ := D4 hb2
    subst t'
    refine seq.dup (gb fun r1 h6 hr1 _ e6 => gb fun r2 h7 hr2 _ e7 => adh (hr1.ext e7) hr2 fun c h8 hm e8 => ?_)
    have e08 := ((e5.trans e6).trans e7).trans e8
    refine C _ _ _ (tk.ext e08) ?_ e08
    rw [← ye]
    have : w1 = (edA t.lo v).1 := hlo.1
    rw [this] at hm
    exact hm
  have nb : up = true → byd false (edA t.lo v) e.2 = false := fun hu => by
    cases hx : byd false (edA t.lo v) e.2 with
    | false => rfl
    | true => rw [hb.2 ⟨hu, hx⟩] at g; cases g
  clear hb g
  have he5 := he4.keep e45 (by simp)
  have hlo := hlo.ext e45
  have hup := hup.ext e45
  refine seq.cut (fun b h' => Ext h5 h' ∧ (b = true ↔ up = false ∧ byd true (edA t.up v) e.2 = true)) ?_ ?_
  · refine ⟨fun g1 => ⟨fun g => ?_, fun g => ⟨Keep.refl _ _, ?_⟩⟩, fun g1 => ⟨Keep.refl _ _, by have : up = true := (by simpa using g1); simp [this]⟩⟩
    · refine cH hup.2 he5.2.dq (by omega) (by omega) fun h6 e6 => ⟨e6, ?_⟩
      have g : (edA t.up v).1 ≠ 0 := by rw [← hup.1]; simpa using g
      have g1 : up = false := by simpa using g1
      have := wc (edA t.up v).2 e.2
      simp only [byd, g1, g, sg, ne_eq, not_false_eq_true, decide_true, Bool.true_and, decide_eq_true_eq, true_and, reduceIte]
      omega
    · have g : (edA t.up v).1 = 0 := by rw [← hup.1]; simpa using g
      simp [byd, g]
  rintro b h6 ⟨e56, hb⟩
  have e6 := e5.trans e56
  refine ⟨fun g => ?_, fun g => ?_⟩
  · obtain ⟨hu, hb2⟩ := hb.1 g
    subst hu
    obtain ⟨ht, rfl, rfl⟩ := D4 hb2
    subst t'
    refine seq.dup (gb fun r1 h7 hr1 _ e7 => gb fun r2 h8 hr2 _ e8 => adh (hr1.ext e8) hr2 fun c h9 hm e9 => ?_)
    have e08 := ((e6.trans e7).trans e8).trans e9
    refine C _ _ _ (tk.ext e08) ?_ e08
    rw [← ye]
    have : u.1 = (edA t.up v).1 := hup.1
    rw [this] at hm
    exact hm
  have nc : byd (!up) (edA (sd t (!up)) v) e.2 = false := by
    cases up
    · cases hx : byd true (edA t.up v) e.2 with
      | false => exact hx
      | true => rw [hb.2 ⟨rfl, hx⟩] at g; cases g
    · exact nb rfl
  obtain ⟨rfl, rfl, D6, D7⟩ := D5 nc
  clear hb g nb nc D4 D5
  have he6 := he.keep e6 (by simp)
  have t6 := tk.ext e6
  have hK6 : ∀ k, K k → k < h6.size := fun k hk => Nat.lt_of_lt_of_le (hK k hk) e6.size
  have f7 := f.setE (up := up) (v := v) ne hes
  have sb := uT (t := t) (up := up) (v := v) (e := e)
  refine seq.cut (fun (p : Bool × S5) h' => Ext h6 h' ∧ p.1 = byd up e (atD t.vs v) ∧ TK K h' p.2 (setE t up v e)) ?_ ?_
  · refine ⟨fun hu => ?_, fun hu => ?_⟩
    · subst hu
      refine agu t6.up hK6 he6 v0 (by omega) (by omega) fun w h7 hw e7 => ?_
      have t7 := t6.ext e7
      refine t7.q.vals.at hj hjv fun a z hz hd => ⟨z, hz, ?_⟩
      rw [gA hj hjv] at hd
      refine cH hd (he6.keep e7 (by simp)).2.dq (by omega) (by omega) fun h8 e8 => ⟨e7.trans e8, ?_, ?_⟩
      · simp only [byd, ne, sg, ne_eq, not_false_eq_true, decide_true, Bool.true_and, reduceIte]
        exact decide_eq_decide.2 (by omega)
      · have t8 := t7.ext e8
        exact ⟨t8.bas, t8.basn, t8.rows, t8.vals, t8.lo, hw.kk (by decide) (fun _ _ h => h.keep e8 (by simp)) (KK.ext e8)⟩
    · subst hu
      refine agu t6.lo hK6 he6 v0 (by omega) (by omega) fun w h7 hw e7 => ?_
      have t7 := t6.ext e7
      refine t7.q.vals.at hj hjv fun a z hz hd => ⟨z, hz, ?_⟩
      rw [gA hj hjv] at hd
      refine cH hd (he6.keep e7 (by simp)).2.dq (by omega) (by omega) fun h8 e8 => ⟨e7.trans e8, ?_, ?_⟩
      · simp only [byd, ne, sg, ne_eq, not_false_eq_true, decide_true, Bool.true_and, Bool.false_eq_true, if_false, reduceIte]
        exact decide_eq_decide.2 (by omega)
      · have t8 := t7.ext e8
        exact ⟨t8.bas, t8.basn, t8.rows, t8.vals, hw.kk (by decide) (fun _ _ h => h.keep e8 (by simp)) (KK.ext e8), t8.up⟩
  rintro ⟨b, y'⟩ h7 ⟨e67, hb, t7⟩
  dsimp only at hb t7 ⊢
  have e7 := e6.trans e67
  have hK7 : ∀ k, K k → k < h7.size := fun k hk => Nat.lt_of_lt_of_le (hK k hk) e7.size
  refine seq.cut (fun y2 h' => TK K h' y2 t' ∧ Ext h h') ?_ fun y2 h' ⟨g1, g2⟩ => C y2 _ h' g1 MK.nil g2
  refine seq.cut (fun (b : Bool) h' => Ext h7 h' ∧ (b = true ↔ rowI t.bs v < 0 ∧ byd up e (atD t.vs v) = true)) ?_ ?_
  · refine ⟨fun g => lq t7.q.bas (by rw [f7.g.lb]; have := f7.np; omega) fun h8 e8 => ⟨e8, ?_⟩, fun g => ⟨Keep.refl _ _, ?_⟩⟩
    · rw [sb, ← hb, g]
      simp
    · rw [← hb, g]; simp
  rintro b' h8 ⟨e78, hb'⟩
  have e8 := e7.trans e78
  refine ⟨fun g => ?_, fun g => ?_⟩
  · obtain ⟨g1, g2⟩ := hb'.1 g
    obtain ⟨rfl, hz⟩ := D7 g1 g2
    refine ac2 (row := 0) (e := 0) (d := e.2) (t' := updT (setE t up v e) v e.2) (t7.ext e78) (fun k hk => Nat.lt_of_lt_of_le (hK7 k hk) e78.size) f7 (he.keep e8 (by simp)).2 hes (.inl ⟨rfl, .inr ⟨rfl, rfl, v0, by rw [vq]; exact v1, by rw [sb]; exact g1, hz⟩⟩) fun y3 h9 g3 e9 => ⟨g3, e8.trans e9⟩
  · have hn : ¬ (rowI t.bs v < 0 ∧ byd up e (atD t.vs v) = true) := fun hh => by rw [hb'.2 hh] at g; cases g
    rw [D6 hn]
    exact ⟨t7.ext e78, e8⟩
end
end Go.Sh

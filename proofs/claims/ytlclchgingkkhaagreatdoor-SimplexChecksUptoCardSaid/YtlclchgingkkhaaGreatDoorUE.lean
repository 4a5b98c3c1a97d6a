/-
  Laws that the proof of this claim's statement leans on, each proved under the conditions that it states.
-/
import Derived.Test.YtlclchgingkkhaaGreatDoorUD
set_option linter.unusedVariables false
set_option linter.unusedSimpArgs false
namespace Go.Sh
open Go Go.Lift
def pivS (v u : Int) (p : Rat × PL) : Rat × PL := addP (scP (1 / ak p.2 v) (0, [(u, 1)])) (-(1 / ak p.2 v)) (p.1, wo v p.2)
def pivF (v : Int) (s p : Rat × PL) : Rat × PL := if ak p.2 v = 0 then p else addP (p.1, wo v p.2) (ak p.2 v) s
def pivT (t : TT) (i : Nat) (v : Int) : TT :=
  { t with bs := t.bs.set i v, ps := (t.ps.map (pivF v (pivS v (at0 t.bs i) (psA t i)))).set i (pivS v (at0 t.bs i) (psA t i)) }
structure PvOk (lim : Nat) (p : Rat × PL) : Prop where
  srt : Srt p.2
  nn : ∀ m ∈ p.2, 0 ≤ m.1 ∧ m.1 ≤ 1099511627776
  len : p.2.length ≤ 400
  c : szQ p.1 ≤ lim
  m : ∀ m ∈ p.2, szQ m.2 ≤ lim
structure PivFit (lim : Nat) (v u : Int) (pi : Rat × PL) (t : TT) : Prop where
  a : szQ (1 / ak pi.2 v) ≤ lim
  b : bg lim (scP (1 / ak pi.2 v) (0, [(u, 1)])) = true
  c : bg lim (scP (-(1 / ak pi.2 v)) (pi.1, wo v pi.2)) = true
  d : bg lim (pivS v u pi) = true
  e : ∀ j, j < t.ps.length → ak (psA t j).2 v ≠ 0 → bg lim (scP (ak (psA t j).2 v) (pivS v u pi)) = true ∧ bg lim (pivF v (pivS v u pi) (psA t j)) = true
theorem All2.ofGet {α β : Type} {R : α → β → Prop} : ∀ {l : List α} {m : List β}, l.length = m.length → (∀ k (h1 : k < l.length) (h2 : k < m.length), R l[k] m[k]) → All2 R l m
  | [], [], _, _ => .nil
  | [], _ :: _, h, _ => by simp at h
  | _ :: _, [], h, _ => by simp at h
  | a :: l, b :: m, h, g => .cons (g 0 (by simp) (by simp)) (All2.ofGet (by simpa using h) fun k h1 h2 => by have := g (k + 1) (by simpa using h1) (by simpa using h2); simpa using this)
section
variable {h0 h : Heap} {V : Vol} {lim : Nat} {x : S5} {t : TT}
theorem oX {row v : Int} {ov0 : Bool} {Q : Int → Heap → Prop} (q : TM h0 V lim ov0 h x t) (hlim : lim ≤ 80) (h1lim : 1 ≤ lim) (hbs : t.bs.length = t.ps.length) (hn : t.ps.length ≤ 1000) (hok : ∀ p ∈ t.ps, PvOk lim p)
    (hvl : -9223372036854775808 ≤ v ∧ v ≤ 9223372036854775807)
    (C2 : row < 0 ∨ row ≥ (t.ps.length : Int) → Q 2 h)
    (C1 : ∀ i : Nat, row = (i : Int) → i < t.ps.length → ak (psA t i).2 v = 0 → ∀ h', Ext h h' → Q 1 h')
    (C6 : ∀ i : Nat, row = (i : Int) → i < t.ps.length → ¬ (ov0 = false ∧ PivFit lim v (at0 t.bs i) (psA t i) t) → ∀ h', BO h0 V.a lim true h' → Q 6 h')
    (C0 : ov0 = false → ∀ i : Nat, row = (i : Int) → i < t.ps.length → ak (psA t i).2 v ≠ 0 → ∀ x' h', TM h0 V lim false h' x' (pivT t i v) → KK V.K h h' → (∀ p ∈ (pivT t i v).ps, bg lim p = true) → Q 0 h') :
    fg (some V.a) (some V.p) row v h Q := by
  obtain ⟨ys, r1, r2⟩ := q.rows
  have hlen : x.2.1.len = t.ps.length := by rw [r1.len, r2.length]
  have hylen := r2.length
  refine seq.dup ⟨fun hr => ⟨fun _ => C2 (.inl (by simpa using hr)), nofun⟩, fun hr => q.ld1 ?_⟩
  simp only [decide_eq_false_iff_not] at hr
  refine ⟨fun hg => C2 (.inr (by rw [hlen] at hg; simpa using hg)), fun hg => ?_⟩
  simp only [decide_eq_false_iff_not, hlen] at hg
  obtain ⟨i, rfl⟩ : ∃ i : Nat, row = (i : Int) := ⟨row.toNat, by omega⟩
  have hi : i < t.ps.length := by omega
  have hz : PvOk lim (psA t i) := by rw [br hi]; exact hok _ (List.getElem_mem _)
  refine q.ld1 (xO r1 r2 rfl hi fun a2 y ha2 hs2 hy hpk => ⟨y, hy, ?_⟩)
  rw [← br hi] at hpk
  refine kn hpk.2 hz.srt hz.nn hvl (by have := hz.len; omega) fun r h1 hr1 e1 => ae fun h2 e2 => cY (hr1.ext e2).rq fun h3 e3 => ?_
  have hr3 := (hr1.ext e2).ext e3
  have e03 := (e1.trans e2).trans e3
  have hsg : ((ak (psA t i).2 v).num.sign == 0) = decide (ak (psA t i).2 v = 0) := by
    rw [Bool.eq_iff_iff]; simp [Int.sign_eq_zero_iff_zero, Rat.num_eq_zero]
  rw [hsg]
  refine ⟨fun hc => C1 i rfl hi (by simpa using hc) h3 e03, fun hc => ?_⟩
  simp only [decide_eq_false_iff_not] at hc
  have hcs : szQ (ak (psA t i).2 v) ≤ lim := wJ hz.m
  have C0' := fun ho => C0 ho i rfl hi hc
  have C6' := C6 i rfl hi
  generalize hpi : psA t i = pi at *
  generalize hk : ak pi.2 v = k at *
  clear C1 C2 C0 C6 hsg hr1
  have q3 := q.ext e03
  have K3 : KK (· = V.a.block) h h3 := KK.ext e03
  refine q3.ld0 (RJ.ld q3.bas rfl (by omega) ?_)
  generalize hu : at0 t.bs i = u at *
  -- 1 / k
  refine seq.dup (ae fun h4 e4 => OfQ (by decide) (by decide) fun one h5 hone fr5 e5 => ae fun h6 e6 => ?_)
  have e36 := (e4.trans e5).trans e6
  have q6 := q3.ext e36
  have s1 : szQ ((1 : Int) : Rat) ≤ 2 := rQ (by decide)
  refine sA q6.bo.tb q6.bo.bench (hone.ext e6) (hr3.ext e36).rq (by omega) (fun h => absurd h hc) fun _ c h7 hb7 k7 hc7 fc7 => ae fun h8 e8 => ?_
  rw [show (((1 : Int) : Rat) / k) = 1 / k from rfl] at hb7 hc7
  have q8 := ((q6.keep k7 (q6.bo.keep hb7 k7))).ext e8
  have K8 : KK (· = V.a.block) h h8 := ((K3.trans (KK.ext e36)).trans (KK.keep k7 fun _ e => by cases e; exact .inl rfl)).trans (KK.ext e8)
  have hc8 : RK V.K h8 c (val' (ov0 || decide (lim < szQ (1 / k))) (1 / k)) := (RK.fresh (h0 := h6) hc7.rq fc7 q6.lt).ext e8
  have z1 : szQ (val' (ov0 || decide (lim < szQ (1 / k))) (1 / k)) ≤ lim := by
    unfold val'
    split
    · rw [bP]; omega
    · rename_i hh; simp at hh; exact hh.2
  have hv1 : (ov0 || decide (lim < szQ (1 / k))) = false → val' (ov0 || decide (lim < szQ (1 / k))) (1 / k) = 1 / k := fun h => by rw [h]; rfl
  have hz1 : (ov0 || decide (lim < szQ (1 / k))) = false → ov0 = false := fun h => (Bool.or_eq_false_iff.1 h).1
  have no1 : (ov0 || decide (lim < szQ (1 / k))) = true → ¬ (ov0 = false ∧ PivFit lim v u pi t) := fun h f => by
    have := f.2.a
    rw [hk] at this
    rw [f.1] at h
    simp at h; omega
  generalize (ov0 || decide (lim < szQ (1 / k))) = o1 at *
  generalize val' o1 (1 / k) = c1 at *
  clear hb7 hc7 fc7 hr3
  -- the row that is solved
  have r8 := (KK.mono K8 (K' := V.K) fun _ h => .inl h)
  refine seq.dup (q8.ld1 ?_)
  have ra : ∀ {hh : Heap}, KK (· = V.a.block) h hh → ∀ {k : Addr → Prop}, (∀ a y, ¬ V.K a.block → cells? hh a 4 0 = some (CP y) → PK V.K hh y pi → k a) → idxS x.2.1 (i : Int) 4 k := fun {hh} kk {k} C => by
    have kV := KK.mono kk (K' := V.K) fun _ h => .inl h
    refine xO (kV.rs (by decide) r1 fun _ => q.rown) (r2.imp fun y m h => kV.pk h) rfl hi fun a y _ hs hy hp => ?_
    rw [← br hi, hpi] at hp
    exact C a y (q.rown _ hs) hy hp
  refine ra K8 fun a6 y8 ha6 hy8 hp8 => ⟨y8, hy8, ?_⟩
  have chk : ∀ {hh : Heap}, KK (· = V.a.block) h8 hh → (cell? hh (V.p.add 1) = some (Sl.toV x.2.1)) ∧ (cells? hh a6 4 0 = some (CP y8)) := fun {hh} kk => by
    have kV := KK.mono kk (K' := V.K) fun _ h => .inl h
    exact ⟨kk.cell (q8.root 1 (by decide)).1 (by rw [af]; exact fun e => q.ap e.symm), kV.cells ha6 hy8⟩
  refine ae fun h9 e9 => ?_
  have hK9 : ∀ k, V.K k → k < h9.size := (q8.ext e9).lt
  refine aaV hK9 fun w h10 hw e10 => ⟨(chk (KK.ext (e9.trans e10))).1, (chk (KK.ext (e9.trans e10))).2, ae fun h11 e11 => ?_⟩
  have e811 := (e9.trans e10).trans e11
  have q11 := q8.ext e811
  have sz0 := bP
  refine nM (K := V.K) (TM.Ka V) q11.lt q11.bo (hc8.ext e811) (hw.1.ext e11) (hw.2.ext e11) (by omega) (by rw [show (((0 : Rat), [(u, (1 : Rat))]) : Rat × PL).1 = 0 from rfl, bP]; omega) (fun m hm => by simp at hm; subst hm; have := s1; exact Nat.le_trans this (by omega)) (by simp) fun w2 h12 hb12 k12 hw12 hwm12 => ?_
  have hf2 : (o1 || !bg lim (scP c1 (0, [(u, 1)]))) = false → bg lim (scP c1 (0, [(u, 1)])) = true := by cases bg lim (scP c1 (0, [(u, 1)])) <;> simp
  obtain ⟨z2, z3⟩ := xD hf2
  have l2 : (valP (o1 || !bg lim (scP c1 (0, [(u, 1)]))) (scP c1 (0, [(u, 1)]))).2.length ≤ 1 := Nat.le_trans w9 (Nat.le_trans uL (by simp))
  have hv2 : (o1 || !bg lim (scP c1 (0, [(u, 1)]))) = false → o1 = false ∧ valP (o1 || !bg lim (scP c1 (0, [(u, 1)]))) (scP c1 (0, [(u, 1)])) = scP c1 (0, [(u, 1)]) := fun h => ⟨by cases o1 <;> simp_all, by rw [h]; rfl⟩
  have no2 : (o1 || !bg lim (scP c1 (0, [(u, 1)]))) = true → ¬ (ov0 = false ∧ PivFit lim v u pi t) := fun h f => by
    cases o1 with
    | true => exact no1 rfl f
    | false => have := f.2.b; rw [hk, ← hv1 rfl] at this; rw [this] at h; cases h
  generalize (o1 || !bg lim (scP c1 (0, [(u, 1)]))) = o2 at *
  generalize valP o2 (scP c1 (0, [(u, 1)])) = p2 at *
  have K811 : KK (· = V.a.block) h8 h11 := KK.ext e811
  have K812 : KK (· = V.a.block) h8 h12 := K811.trans (KK.keep k12 fun _ e => by cases e; exact .inl rfl)
  have q12 := q11.keep k12 hb12
  refine ⟨(chk K812).1, (chk K812).2, ae fun h13 e13 => ?_⟩
  have hc13 : RK V.K h13 c c1 := ((KK.mono K812 (K' := V.K) fun _ h => .inl h).rk hc8).ext e13
  refine nK hc13.rq fun cn h14 hcn fcn e14 => ?_
  have e1214 := e13.trans e14
  have K814 := K812.trans (KK.ext e1214)
  refine ⟨(chk K814).1, (chk K814).2, ae fun h15 e15 => ?_⟩
  have hcn15 : RK V.K h15 cn (-c1) := (RK.fresh (h0 := h13) hcn fcn (q12.ext e13).lt).ext e15
  have K815 := K814.trans (KK.ext e15)
  have hp15 := (KK.mono K815 (K' := V.K) fun _ h => .inl h).pk hp8
  have e1215 := e1214.trans e15
  refine kA hp15.2 (q12.ext e1215).lt (by have := hz.len; omega) fun s h16 hs16 e16 => ae fun h17 e17 => ?_
  have e1517 := e16.trans e17
  have e1217 := e1215.trans e1517
  have q17 := q12.ext e1217
  refine px (K := V.K) (p := p2) (c := -c1) (q := (pi.1, wo v pi.2)) (TM.Ka V) q17.lt q17.bo (hcn15.ext e1517) (hw12.ext e1217) (hwm12.ext e1217) (hp15.1.ext e1517) (hs16.ext e17) (by rw [act]; omega) (by omega) (fun m hm => Nat.le_trans (z3 m hm) (by omega)) (Nat.le_trans hz.c (by omega)) (fun m hm => Nat.le_trans (hz.m m (te hm)) (by omega)) (by omega) (Nat.le_trans zL (by have := hz.len; omega)) z3
    fun sv h18 o3 hb18 k18 po3 ho3 hs18 hsm18 => ae fun h19 e19 => ?_
  have q19 := (q17.keep k18 hb18).ext e19
  have K19 : KK (· = V.a.block) h h19 := (((K8.trans K815).trans (KK.ext e1517)).trans (KK.keep k18 fun _ e => by cases e; exact .inl rfl)).trans (KK.ext e19)
  obtain ⟨z4, z5⟩ := xD (lim := lim) (fun h => (ho3 h).2.2)
  have l5 : (valP o3 (addP p2 (-c1) (pi.1, wo v pi.2))).2.length ≤ 401 := by
    have h1 := abg p2 (pi.1, wo v pi.2) (-c1)
    have h2 : (wo v pi.2).length ≤ pi.2.length := zL
    have h3 := hz.len
    exact Nat.le_trans w9 (by dsimp only at h1; omega)
  have hv3 : o3 = false → valP o3 (addP p2 (-c1) (pi.1, wo v pi.2)) = pivS v u pi := fun h => by
    obtain ⟨g1, g2, g3⟩ := ho3 h
    obtain ⟨g4, g5⟩ := hv2 g1
    rw [h, g5, hv1 g4, pivS, hk]; rfl
  have hz3 : o3 = false → ov0 = false := fun h => hz1 (hv2 (ho3 h).1).1
  have no3 : o3 = true → ¬ (ov0 = false ∧ PivFit lim v u pi t) := fun h f => by
    cases o2 with
    | true => exact no2 rfl f
    | false =>
      obtain ⟨g4, g5⟩ := hv2 rfl
      rcases po3 h with h | h | h
      · cases h
      · have := f.2.c; rw [hk, ← hv1 g4, h] at this; cases this
      · have := f.2.d; rw [pivS, hk, ← hv1 g4, ← g5, h] at this; cases this
  generalize valP o3 (addP p2 (-c1) (pi.1, wo v pi.2)) = sp at *
  have hsp19 : PK V.K h19 sv sp := ⟨hs18.ext e19, hsm18.ext e19⟩
  clear ho3 po3 no1 no2 hv2 hv1 hs18 hsm18 hf2 hb18 hb12 chk hcn15 hp15 hs16 hw12 hwm12 hc13 hcn fcn hw hp8 hy8
  refine q19.ld1 ?_
  have kV19 := KK.mono K19 (K' := V.K) fun _ h => .inl h
  have r19 := kV19.rs (by decide) r1 (fun _ => q.rown)
  have s019 := K19.size
  refine zt r19 q.rcap (by omega) fun cl h20 o20 e20 => ?_
  have q20 := q19.ext e20
  refine q20.ld1 ?_
  have brl : ∀ b, cl.blk = some b → h19.size ≤ b ∧ b < h20.size := fun b hb => o20.lt hb
  obtain ⟨K', hK'⟩ : ∃ K' : Nat → Prop, ∀ k, K' k ↔ (V.K k ∨ cl.blk = some k) := ⟨_, fun _ => Iff.rfl⟩
  have hKa : K' V.a.block := (hK' _).2 (.inl (TM.Ka V))
  have raise19 : ∀ k, K' k → V.K k ∨ h19.size ≤ k := fun k hk => ((hK' k).1 hk).imp id fun hb => (brl k hb).1
  have hKlt : ∀ k, K' k → k < h20.size := fun k hk => ((hK' k).1 hk).elim (q20.lt k) fun hb => (brl k hb).2
  have b20 : All2 (PK K' h20) ys t.ps := r2.imp fun y m h => ((kV19.pk h).raise raise19).keep e20 (by simp)
  have s20 : PK K' h20 sv sp := (hsp19.raise raise19).keep e20 (by simp)
  have rs20 := RS.ext r19 e20
  have rnK : ys ≠ [] → ∀ b, x.2.1.blk = some b → ¬ K' b := fun hne b hb hk => by
    rcases (hK' b).1 hk with hk | hk
    · exact q.rown b hb hk
    · have := RS.lt r19 (by decide) hne hb
      have := (brl b hk).1
      omega
  have clne : ∀ b, cl.blk = some b → b ≠ V.a.block := fun b hb e => by
    have := (brl b hb).1
    have := q19.lt _ (TM.Ka V)
    omega
  have h019 : h0.size ≤ h19.size := q19.bo.ext.size
  obtain ⟨I, hI⟩ : ∃ I : Nat → Heap → Prop, ∀ j h', I j h' ↔ ∃ ov ys', BO h0 V.a lim ov h' ∧ KK K' h20 h' ∧ KK (· = V.a.block) h19 h' ∧ OwnS CP 4 h19.size h' cl ys' ∧ ys'.length = t.ps.length ∧ (ov = true → ¬ (ov0 = false ∧ PivFit lim v u pi t)) ∧
      (ov = false → o3 = false ∧ (∀ k (hk : k < ys'.length), PK K' h' ys'[k] (if k < j then pivF v sp (psA t k) else psA t k)) ∧ ∀ k, k < j → bg lim (pivF v sp (psA t k)) = true) := ⟨_, fun _ _ => Iff.rfl⟩
  refine loop.inv (fun (s : Int) h' => ∃ j : Nat, s = (j : Int) ∧ j ≤ t.ps.length ∧ I j h') (fun s _ => t.ps.length - s.toNat) ⟨0, rfl, by omega, (hI _ _).2 ⟨o3, ys, q20.bo, .refl, KK.ext e20, o20, hylen, no3, fun ho => ⟨ho, fun k hk => ?_, fun k hk => by omega⟩⟩⟩ ?_
  · rw [if_neg (by omega), br (by omega)]
    exact b20.get k hk (by omega)
  rintro _ h21 ⟨j, rfl, hj, hIj⟩
  rw [hlen]
  refine ⟨fun hlt => ?_, fun hge => ?_⟩
  · simp only [decide_eq_true_eq] at hlt
    have hlt : j < t.ps.length := by omega
    refine seq.cut (fun (_ : Unit) h' => I (j + 1) h') ?_ (fun _ h' hI' => ⟨⟨j + 1, w64 (by omega) (by omega), by omega, hI'⟩, by rw [w64 (by omega) (by omega)]; omega⟩)
    obtain ⟨ov, ys', hb, kk, ka, o, hl, hno, hval⟩ := (hI _ _).1 hIj
    have hzj : PvOk lim (psA t j) := by rw [br hlt]; exact hok _ (List.getElem_mem _)
    refine xO (kk.rs (by decide) rs20 rnK) (b20.imp fun y m h => kk.pk h) rfl hlt fun a9 y9 _ _ hy9 hp9 => ⟨y9, hy9, ae fun h22 e22 => ?_⟩
    rw [← br hlt] at hp9
    refine kn (hp9.2.ext e22) hzj.srt hzj.nn hvl (by have := hzj.len; omega) fun r h23 hr23 e23 => ae fun h24 e24 => cY (hr23.ext e24).rq fun h25 e25 => ?_
    have e2125 := ((e22.trans e23).trans e24).trans e25
    have hr25 := (hr23.ext e24).ext e25
    have hsg : ((ak (psA t j).2 v).num.sign != 0) = decide (ak (psA t j).2 v ≠ 0) := by
      rw [Bool.eq_iff_iff]; simp [Int.sign_eq_zero_iff_zero, Rat.num_eq_zero]
    rw [hsg]
    have s21 := e2125.size
    have skk := kk.size
    have ska := ka.size
    refine ⟨fun hc => ?_, fun hc => ?_⟩
    · simp only [decide_eq_true_eq] at hc
      have hcs' : szQ (ak (psA t j).2 v) ≤ lim := wJ hzj.m
      have kk25 := kk.trans (KK.ext e2125)
      refine kA (hp9.2.ext e2125) (fun k hk => by have := hKlt k hk; omega) (by have := hzj.len; omega) fun s h26 hs26 e26 => ?_
      have e2126 := e2125.trans e26
      have kk26 := kk.trans (KK.ext e2126)
      refine px (K := K') (p := ((psA t j).1, wo v (psA t j).2)) (c := ak (psA t j).2 v) (q := sp) hKa (fun k hk => by have := hKlt k hk; have := e2126.size; omega) (hb.of_ext e2126) (hr25.ext e26) (hp9.1.ext e2126) hs26 (kk26.pk s20).1 (kk26.pk s20).2 (by omega) (Nat.le_trans hzj.c (by omega)) (fun m hm => Nat.le_trans (hzj.m m (te hm)) (by omega)) (by omega) (fun m hm => Nat.le_trans (z5 m hm) (by omega)) (Nat.le_trans zL (by have := hzj.len; omega)) (by omega) (fun m hm => hzj.m m (te hm))
        fun w h27 ov' hb27 k27 pov' hov' hw1 hw2 => ?_
      have a27 : KK (· = V.a.block) h21 h27 := (KK.ext e2126).trans (KK.keep k27 fun _ e => by cases e; exact .inl rfl)
      refine OwnS.stS (i := (j : Int)) (j := j) (y := w) (a27.own o fun b hb => clne b hb) oN (by decide) rfl rfl (by omega) fun h28 o28 k28 n28 => ?_
      have bk : KK (· = V.a.block) h19 h28 := .step (ka.trans a27) k28 fun k e => .inr (brl k e).1
      have kk27 : KK K' h20 h27 := kk26.trans (KK.keep k27 fun _ e => by cases e; exact .inl hKa)
      have kk28 : KK K' h20 h28 := .step kk27 k28 fun k e => .inl ((hK' k).2 (.inr e))
      have hb28 : BO h0 V.a lim ov' h28 := hb27.fresh k28 fun b e => ⟨by have := (brl b e).1; omega, clne b e⟩
      have hpf : pivF v sp (psA t j) = addP ((psA t j).1, wo v (psA t j).2) (ak (psA t j).2 v) sp := if_neg hc
      have no' : ov' = true → ¬ (ov0 = false ∧ PivFit lim v u pi t) := fun h f => by
        cases ov with
        | true => exact hno rfl f
        | false =>
          have hS := hv3 (hval rfl).1
          obtain ⟨f1, f2⟩ := f.2.e j hlt hc
          rw [← hS] at f1 f2
          rcases pov' h with h | h | h
          · cases h
          · rw [h] at f1; cases f1
          · rw [hpf, h] at f2; cases f2
      refine (hI _ _).2 ⟨ov', ys'.set j w, hb28, kk28, bk, o28, by rw [List.length_set]; exact hl, no', fun ho => ?_⟩
      obtain ⟨g1, g2, g3⟩ := hov' ho
      obtain ⟨v1, v2, v3⟩ := hval g1
      refine ⟨v1, fun k hk => ?_, fun k hk => ?_⟩
      · rw [List.length_set] at hk
        have w1 : PK K' h28 w (pivF v sp (psA t j)) := by
          rw [ho] at hw1 hw2
          rw [hpf]
          exact ⟨hw1.keep k28 fun b e => (hK' b).2 (.inr e), hw2.keep k28 fun b e => (hK' b).2 (.inr e)⟩
        by_cases hkj : k = j
        · subst hkj
          rw [List.getElem_set_self, if_pos (by omega)]
          exact w1
        · rw [List.getElem_set_ne (fun e => hkj e.symm)]
          have := v2 k hk
          have hte : KK K' h21 h28 := (((KK.ext e2126).trans (KK.keep k27 fun _ e => by cases e; exact .inl hKa)).trans (KK.keep k28 fun k e => .inl ((hK' k).2 (.inr e))))
          have h5 := hte.pk this
          by_cases hkl : k < j
          · rw [if_pos hkl] at h5; rw [if_pos (by omega)]; exact h5
          · rw [if_neg hkl] at h5; rw [if_neg (by omega)]; exact h5
      · by_cases hkj : k = j
        · subst hkj; rw [hpf]; exact g3
        · exact v3 k (by omega)
    · simp only [decide_eq_false_iff_not, ne_eq, Decidable.not_not] at hc
      have hpf : pivF v sp (psA t j) = psA t j := if_pos hc
      refine (hI _ _).2 ⟨ov, ys', hb.of_ext e2125, kk.trans (KK.ext e2125), ka.trans (KK.ext e2125), o.ext e2125, hl, hno, fun ho => ?_⟩
      obtain ⟨v1, v2, v3⟩ := hval ho
      refine ⟨v1, fun k hk => ?_, fun k hk => ?_⟩
      · have h5 := (v2 k hk).keep e2125 (by simp)
        by_cases hkj : k = j
        · subst hkj
          rw [if_neg (by omega)] at h5; rw [if_pos (by omega), hpf]; exact h5
        · by_cases hkl : k < j
          · rw [if_pos hkl] at h5; rw [if_pos (by omega)]; exact h5
          · rw [if_neg hkl] at h5; rw [if_neg (by omega)]; exact h5
      · by_cases hkj : k = j
        · subst hkj; rw [hpf]; exact zZ.2 ⟨hzj.c, hzj.m⟩
        · exact v3 k (by omega)
  · simp only [decide_eq_false_iff_not] at hge
    have hjn : j = t.ps.length := by omega
    subst hjn
    obtain ⟨ov, ys', hb, kk, ka, o, hl, hno, hval⟩ := (hI _ _).1 hIj
    refine OwnS.stS (i := (i : Int)) (j := i) (y := sv) o oN (by decide) rfl rfl (by omega) fun h22 o22 k22 n22 => ?_
    have a22 : KK (· = V.a.block) h19 h22 := .step ka k22 fun k e => .inr (brl k e).1
    have kk22 : KK K' h20 h22 := .step kk k22 fun k e => .inl ((hK' k).2 (.inr e))
    have hb22 : BO h0 V.a lim ov h22 := hb.fresh k22 fun b e => ⟨by have := (brl b e).1; omega, clne b e⟩
    have q22 := q19.kkA a22 hb22
    refine q22.ld0 ?_
    refine adh q22.bas (by omega) fun ci h23 o23 e23 => ?_
    have q23 := q22.ext e23
    have c23 : Cs h23 V.p (CT x) := ⟨q23.spot, fun k hk => q23.root k hk⟩
    refine ⟨_, rfl, c23.st (j := 1) (by simp [CT, aC]) fun h24 c24 k24 n24 => ?_⟩
    refine ⟨_, rfl, c24.st (j := 0) (by simp [CT, aC]) fun h25 c25 k25 n25 => ?_⟩
    have hcs : ((CT x).set 1 (Sl.toV cl)).set 0 (Sl.toV ci) = CT (ci, cl, x.2.2) := rfl
    rw [hcs] at c25
    refine ⟨_, rfl, ci, (c25.cell 0 (by simp [CT, aC])).1, ?_⟩
    have cil : ∀ b, ci.blk = some b → h22.size ≤ b ∧ b < h23.size := fun b e => o23.lt e
    have s22 := a22.size
    have hlt22 := q22.lt
    have s23 := e23.size; have s24 := k24.size; have s25 := k25.size
    have cip : ∀ b, ci.blk = some b → b ≠ V.p.block := fun b e hh => by
      have := (cil b e).1; have := hlt22 _ (.inr (.inl rfl)); omega
    have o25 := (o23.keep k24 fun b e hh => cip b e (Option.some.inj hh)).keep k25 fun b e hh => cip b e (Option.some.inj hh)
    have hil : i < t.bs.length := by omega
    obtain ⟨ac, hac, hcc⟩ := o25.r.get hil
    have hcl := o25.r.len
    refine ⟨ac, hac, ⟨by omega, by omega⟩, ?_⟩
    simp only [Int.toNat_natCast, Nat.mul_one]
    refine o25.store hil hac v fun h26 o26 k26 n26 => ?_
    have b23 : BO h0 V.a lim ov h23 := hb22.of_ext e23
    have fp : ∀ b, some V.p.block = some b → h0.size ≤ b ∧ b ≠ V.a.block := fun b e => by cases e; exact ⟨q.old _ (.inr (.inl rfl)), fun e => q.ap e.symm⟩
    have b26 : BO h0 V.a lim ov h26 := ((b23.fresh k24 fp).fresh k25 fp).fresh k26 fun b e => by
      have := (cil b e).1; have := hlt22 _ (TM.Ka V)
      exact ⟨by omega, fun hh => by omega⟩
    refine bZ b26.bench ⟨fun ho => ?_, fun ho => ?_⟩
    · subst ho; exact C6' (hno rfl) h26 b26
    · subst ho
      obtain ⟨g1, v2, v3⟩ := hval rfl
      have hS := hv3 g1
      subst hS
      have kp : KK V.K h22 h26 := .step (((KK.ext e23).trans (KK.keep k24 fun b e => by cases e; exact .inl (.inr (.inl rfl)))).trans (KK.keep k25 fun b e => by cases e; exact .inl (.inr (.inl rfl)))) k26 fun b e => .inr (cil b e).1
      have kq : KK (fun b => b = V.a.block ∨ b = V.p.block) h19 h26 := (a22.mono fun _ h => .inl h).trans (.step (((KK.ext e23).trans (KK.keep k24 fun b e => by cases e; exact .inl (.inr rfl))).trans (KK.keep k25 fun b e => by cases e; exact .inl (.inr rfl))) k26 fun b e => .inr (cil b e).1)
      have kqV : KK V.K h19 h26 := kq.mono fun b h => h.elim .inl fun h => .inr (.inl h)
      have e2326 : ∀ k, V.K k → k < h26.size := fun k hk => by have := hlt22 k hk; have := kp.size; omega
      obtain ⟨vs, w1, w2⟩ := q19.vals
      obtain ⟨ls, l1, l2'⟩ := q19.lo
      obtain ⟨us, u1, u2⟩ := q19.up
      have hps : (pivT t i v).ps = (t.ps.map (pivF v (pivS v u pi))).set i (pivS v u pi) := by rw [pivT, hu, hpi]
      have rows : All2 (PK V.K h26) (ys'.set i sv) (pivT t i v).ps := by
        have kpK : KK K' h22 h26 := kp.mono fun b hb => (hK' b).2 (.inl hb)
        have dn : ∀ {y : X4} {m : Rat × PL}, PK K' h26 y m → PK V.K h26 y m := fun h => h.raise fun b hb => .inl ((hK' b).2 (.inl hb))
        rw [hps]
        refine All2.ofGet (by simp [hl]) fun k g1 g2 => ?_
        have gk : k < ys'.length := by simpa using g1
        by_cases hki : i = k
        · subst hki
          rw [List.getElem_set_self, List.getElem_set_self]
          exact dn (kpK.pk (kk22.pk s20))
        · rw [List.getElem_set_ne hki, List.getElem_set_ne hki, List.getElem_map]
          have := v2 k gk
          rw [if_pos (by omega), br (by omega)] at this
          exact dn (kpK.pk (this.keep k22 fun b e => (hK' b).2 (.inr e)))
      have c26 : ∀ k (hk : k < 5), cell? h26 (V.p.add k) = some ((CT (ci, cl, x.2.2))[k]'hk) ∧ frozen? h26 (V.p.add k) = false := fun k hk => by
        have := c25.cell k hk
        have hn : some (V.p.add k).block ≠ ci.blk := by rw [af]; exact fun e => cip _ e.symm rfl
        exact ⟨ag k26 this.1 hn, bL k26 (bV this.1) this.2 hn⟩
      have C0' := C0' (hz3 g1)
      refine C0' (ci, cl, x.2.2) h26 { bo := b26, old := q.old, lt := e2326, ap := q.ap, av := q.av, al := q.al, au := q.au, pv := q.pv, pl := q.pl, pu := q.pu, vl := q.vl, vu := q.vu, lu := q.lu, spot := q.spot, root := c26
                                       bas := o26.r, basn := fun b hb hk => by have := (cil b hb).1; have := hlt22 b hk; omega
                                       rcap := by have := o22.cap (by decide); exact this
                                       rows := ⟨ys'.set i sv, (OwnS.rs (kp.own o22 fun b hb' hk => by have := (brl b hb').1; have := q19.lt b hk; omega) oN (by decide)), rows⟩
                                       rown := fun b hb' hk => by have := (brl b hb').1; have := q19.lt b hk; omega
                                       valb := q.valb, vals := ⟨vs, kq.own w1 fun b hb' e => by rw [q.valb] at hb'; cases hb'; exact e.elim (fun e => q.av e.symm) (fun e => q.pv e.symm), w2.imp fun y m h => kqV.dk h⟩
                                       lob := q.lob, lo := ⟨ls, kq.own l1 fun b hb' e => by rw [q.lob] at hb'; cases hb'; exact e.elim (fun e => q.al e.symm) (fun e => q.pl e.symm), l2'.imp fun y m h => kqV.ek h⟩
                                       upb := q.upb, up := ⟨us, kq.own u1 fun b hb' e => by rw [q.upb] at hb'; cases hb'; exact e.elim (fun e => q.au e.symm) (fun e => q.pu e.symm), u2.imp fun y m h => kqV.ek h⟩ } (kV19.trans kqV) ?_
      intro p hp
      rw [hps] at hp
      rcases List.mem_or_eq_of_mem_set hp with hp | hp
      · obtain ⟨p', hp', rfl⟩ := List.mem_map.1 hp
        obtain ⟨k, hk, rfl⟩ := List.getElem_of_mem hp'
        have := v3 k hk
        rwa [br hk] at this
      · subst hp; exact zZ.2 ⟨z4, z5⟩
end
end Go.Sh

namespace Go.Sh
open Go Go.Lift
theorem All2.rep {α β : Type} {R : α → β → Prop} {a : α} {b : β} (h : R a b) : ∀ n, All2 R (List.replicate n a) (List.replicate n b)
  | 0 => .nil
  | n + 1 => by rw [List.replicate_succ, List.replicate_succ]; exact .cons h (All2.rep h n)
theorem OwnS.mono {α : Type} {toC : α → List Value} {sz B C : Nat} {h : Heap} {s : Sl} {xs : List α} (o : OwnS toC sz B h s xs) (hc : C ≤ B) : OwnS toC sz C h s xs := ⟨o.len, o.own.choose, o.own.choose_spec.1, o.own.choose_spec.2.mono hc⟩
theorem TM.ofNew {h0 hA hB hD : Heap} {V : Vol} {lim reals : Nat} {x : S5} {ps : List (Rat × PL)} {b0 : List X4} (n : NewT hA hB x reals ps b0 V.bv V.bl V.bu) (e0 : Ext h0 hA) (hb : All2 (PK V.K hA) b0 ps) (hc : Cs hD V.p (CT x))
    (k : KK (fun b => b = V.a.block ∨ b = V.p.block) hB hD) (hbo : BO h0 V.a lim false hD) (ha : V.a.block < hA.size ∨ hB.size ≤ V.a.block) (hp : V.p.block < hA.size ∨ hB.size ≤ V.p.block) (hp0 : h0.size ≤ V.p.block) (hap : V.a.block ≠ V.p.block) : TM h0 V lim false hD x (newT reals ps) := by
  have vb := n.vals.lt n.vb
  have lb := n.lo.lt n.lb
  have ub := n.up.lt n.ub
  have s0 := e0.size
  have sD := k.size
  have nap : ∀ {b : Nat}, hA.size ≤ b ∧ b < hB.size → ¬ (b = V.a.block ∨ b = V.p.block) := fun h e => by omega
  have hVD : ∀ b, V.K b → b < hD.size := by
    rintro b (h | h | h | h | h)
    · rw [h]; exact hbo.lt
    · have := bV (hc.cell 0 (by simp [CT, aC])).1
      rw [af] at this; omega
    all_goals omega
  have nV : ∀ {s : Sl}, (∀ b, s.blk = some b → hA.size ≤ b ∧ b < hB.size) → (∀ b, s.blk = some b → b ≠ V.bv ∧ b ≠ V.bl ∧ b ≠ V.bu) → ∀ b, s.blk = some b → ¬ V.K b := fun h1 h2 b hb hk => by
    have := nap (h1 b hb)
    have := h2 b hb
    rcases hk with h | h | h | h | h <;> omega
  have kV : KK V.K hA hD := (KK.ext n.ext).trans (k.mono fun b h => h.elim .inl fun h => .inr (.inl h))
  exact { bo := hbo, old := by
            rintro b (h | h | h | h | h)
            · rw [h]; exact hbo.old
            all_goals omega
          lt := hVD, ap := hap
          av := by have := nap vb; omega
          al := by have := nap lb; omega
          au := by have := nap ub; omega
          pv := by have := nap vb; omega
          pl := by have := nap lb; omega
          pu := by have := nap ub; omega
          vl := n.vl, vu := n.vu, lu := n.lu, spot := hc.spot, root := fun j hj => hc.cell j hj
          bas := k.rj n.bas.r fun b hb => nap (n.bas.lt hb), basn := nV (fun b hb => n.bas.lt hb) n.bn
          rcap := n.rows.cap (by decide)
          rows := ⟨b0, k.rs (by decide) (n.rows.rs oN (by decide)) fun _ b hb => nap (n.rows.lt hb), hb.imp fun y m h => kV.pk h⟩, rown := nV (fun b hb => n.rows.lt hb) n.rn
          valb := n.vb, vals := ⟨_, k.own (n.vals.mono s0) fun b hb => by rw [n.vb] at hb; cases hb; exact nap vb, All2.rep DK.zero _⟩
          lob := n.lb, lo := ⟨_, k.own (n.lo.mono s0) fun b hb => by rw [n.lb] at hb; cases hb; exact nap lb, All2.rep ⟨rfl, DK.zero⟩ _⟩
          upb := n.ub, up := ⟨_, k.own (n.up.mono s0) fun b hb => by rw [n.ub] at hb; cases hb; exact nap ub, All2.rep ⟨rfl, DK.zero⟩ _⟩ }
def ps1 : List (Rat × PL) := [(0, [(0, 1), (1, 1)])]
end Go.Sh

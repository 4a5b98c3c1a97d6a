/-
  Laws that the proof of this claim's statement leans on, each proved under the conditions that it states.
-/
import Derived.Test.YtlclchgingkkhaaGreatDoorMB
import Derived.Test.YtlclchgingkkhaaGreatDoorXC
set_option linter.unusedVariables false
set_option linter.unusedSimpArgs false
namespace Go.Sh
open Go Go.Lift
section
variable {t t' : TT} {n : Nat}
theorem Wst.eq (g : RG t) {i k : Nat} {up c : Bool} (w : Wst t i up) (hk : k < t.ps.length) (hv : viol t k c = true) (hm : ∀ l d, l < t.ps.length → viol t l d = true → at0 t.bs k ≤ at0 t.bs l) : i = k := by
  have h1 := w.min k c hk hv
  have h2 := hm i up w.lt w.v
  have h3 := g.me w.lt
  have h4 := g.me hk
  have : at0 t.bs i = at0 t.bs k := by omega
  rw [this] at h3
  omega
theorem Wst.side {i : Nat} {up : Bool} (w : Wst t i up) : viol t i false = !up := by
  cases up
  · exact w.v
  · exact w.no rfl
theorem afl {q : Rat} {up : Bool} (h : q ≠ 0) : wayB q up = !((!up) == decide (q.num < 0)) := by
  unfold wayB
  have : decide (q.num.sign > 0) = !decide (q.num < 0) := by
    have hn : q.num ≠ 0 := fun e => h (Rat.num_eq_zero.1 e)
    rcases Int.lt_or_gt_of_ne hn with h1 | h1
    · rw [Int.sign_eq_neg_one_of_neg h1]; simp [h1]
    · rw [Int.sign_eq_one_of_pos h1]
      have : ¬ q.num < 0 := by omega
      simp [this]
  rw [this]
  cases up <;> cases decide (q.num < 0) <;> rfl
theorem acK {q : Rat} : absQ q = if q.num < 0 then -q else q := by
  unfold absQ
  by_cases h : q.num < 0
  · rw [if_pos h, if_pos (by rw [Int.sign_eq_neg_one_of_neg h]; decide)]
  · rw [if_neg h, if_neg fun hh => h ?_]
    rcases Int.lt_trichotomy q.num 0 with h1 | h1 | h1
    · exact h1
    · rw [h1] at hh; cases hh
    · rw [Int.sign_eq_one_of_pos h1] at hh; cases hh
theorem afs (p q : Rat × Rat) : addD p (negD q) = subD p q := by
  unfold addD negD subD
  exact Prod.ext (by dsimp only; grind) (by dsimp only; grind)
theorem St1.none {lim : Nat} {st : Int} {rs : PL} (D : St1 lim t t' st rs) (h : ∀ k c, k < t.ps.length → viol t k c = false) : t' = t ∧ st = 0 ∧ rs = [] := by
  cases D with
  | fine => exact ⟨rfl, rfl, rfl⟩
  | clash i up w => have := h i up w.lt; rw [w.v] at this; cases this
  | move i up j m w => have := h i up w.lt; rw [w.v] at this; cases this
theorem St1.some {lim : Nat} {st : Int} {rs : PL} (D : St1 lim t t' st rs) {k : Nat} {c : Bool} (hk : k < t.ps.length) (hv : viol t k c = true) : ∃ i up, Wst t i up ∧
    ((∀ m ∈ (psA t i).2, rm t up m = false) → t' = t ∧ st = 2 ∧ rs = rsn t i up) ∧
    (∀ j, Fst t i up j → ∃ m, (psA t i).2[j]? = some m ∧ (∀ e ∈ (updT t m.1 (goD t i up m)).vs, szD e ≤ lim) ∧ (∀ p ∈ (pivT (updT t m.1 (goD t i up m)) i m.1).ps, bW lim p = true) ∧ szD (goD t i up m) ≤ lim ∧ t' = pivT (updT t m.1 (goD t i up m)) i m.1 ∧ st = 1 ∧ rs = []) := by
  cases D with
  | fine h => rw [h k c hk] at hv; cases hv
  | clash i up w h => exact ⟨i, up, w, fun _ => ⟨rfl, rfl, rfl⟩, fun j f => by have := h _ (List.getElem_mem f.lt); rw [f.ok] at this; cases this⟩
  | move i up j m w f hm h1 h2 h3 =>
    subst hm
    refine ⟨i, up, w, fun h => (by have := h _ (List.getElem_mem f.lt); rw [f.ok] at this; cases this), fun j' f' => ?_⟩
    have : j' = j := by
      rcases Nat.lt_trichotomy j' j with h | h | h
      · have := f.min j' h; rw [f'.ok] at this; cases this
      · exact h
      · have := f'.min j h; rw [f.ok] at this; cases this
    subst this
    exact ⟨_, List.getElem?_eq_getElem f.lt, h1, h2, h3, rfl, rfl, rfl⟩
end
section
variable {K : Nat → Prop} {h : Heap} {y : S5} {t t' : TT} {n : Nat} {st : Int} {rs : PL}
theorem aby {Q : (S5 × Int × Sl) → Heap → Prop} (tk : TK K h y t) (hK : ∀ k, K k → k < h.size) (f : FitT t n) (D : St1 60 t t' st rs)
    (C : ∀ y' s h', TK K h' y' t' → MK K0 h' s rs → Ext h h' → Q (y', st, s) h') : mF y h Q := by
  have fl := f.fl
  have nv := fl.nv
  have lb := f.g.lb
  have np := f.np
  have hlv : y.2.2.1.len = t.vs.length := tk.q.vals.len
  refine aa fun h1 e1 => ?_
  refine loop.inv (fun (s : Int) h' => Ext h h' ∧ ∃ j : Nat, s = (j : Int) ∧ j ≤ t.vs.length ∧ ∀ k c, k < t.ps.length → viol t k c = true → (j : Int) ≤ at0 t.bs k) (fun s _ => t.vs.length - s.toNat) ⟨e1, 0, rfl, by omega, fun k c hk _ => (f.g.rng k hk).1⟩ ?_
  rintro _ h2 ⟨e2, j, rfl, hj, hn⟩
  have t2 := tk.ext e2
  refine seq.cut (fun b h' => Ext h h' ∧ (b = true ↔ j < t.vs.length ∧ ∀ k c, k < t.ps.length → at0 t.bs k = (j : Int) → viol t k c = false)) ?_ ?_
  · rw [hlv]
    refine ⟨fun g => ?_, fun g => ⟨e2, ?_⟩⟩
    · have g := of_decide_eq_true g
      have hjl : j < t.vs.length := by omega
      refine lq t2.q.bas (by omega) fun h3 e3 => ?_
      have t3 := t2.ext e3
      refine ⟨fun g1 => ⟨e2.trans e3, ?_⟩, fun g1 => ?_⟩
      · have g1 := of_decide_eq_true g1
        simp only [true_iff]
        exact ⟨hjl, fun k c hk e => absurd e.symm (f.g.nb g1 k hk)⟩
      · have g1 := of_decide_eq_false g1
        have key : ∀ k, k < t.ps.length → at0 t.bs k = (j : Int) → ∀ c, viol t k c = byd c (edA (sd t c) j) (atD t.vs j) := fun k hk e c => by unfold viol; rw [e]
        obtain ⟨r, hr, _, hr3, _⟩ : ∃ r, r < t.bs.length ∧ rowI t.bs j = (r : Int) ∧ at0 t.bs r = (j : Int) ∧ True := by
          rcases mB t.bs j with ⟨h4, _⟩ | ⟨r, h4, h5, h6, _⟩
          · omega
          · exact ⟨r, h4, h5, h6, trivial⟩
        have hr : r < t.ps.length := by omega
        have uniq : ∀ k, k < t.ps.length → at0 t.bs k = (j : Int) → k = r := fun k hk e => by
          have h4 := f.g.me hk
          have h5 := f.g.me hr
          rw [e] at h4
          rw [hr3] at h5
          omega
        have R := key r hr hr3
        refine qx t3.q fl (by decide) (by omega) (by omega) fun h4 e4 => ?_
        have t4 := t3.ext e4
        rw [← R false]
        refine ⟨fun g2 => ?_, fun g2 => ⟨(e2.trans e3).trans e4, ?_⟩⟩
        · have g2 : viol t r false = false := by simpa using g2
          refine yu t4.q fl (by decide) (by omega) (by omega) fun h5 e5 => ⟨((e2.trans e3).trans e4).trans e5, ?_⟩
          rw [← R true]
          constructor
          · intro hh
            have hh : viol t r true = false := by simpa using hh
            refine ⟨hjl, fun k c hk e => ?_⟩
            have := uniq k hk e
            subst this
            cases c
            · exact g2
            · exact hh
          · intro hh
            simp [hh.2 r true hr hr3]
        · have g2 : viol t r false = true := by simpa using g2
          simp only [Bool.false_eq_true, false_iff]
          intro hh
          have := hh.2 r false hr hr3
          rw [g2] at this; cases this
    · have g := of_decide_eq_false g
      simp only [Bool.false_eq_true, false_iff]
      intro hh; omega
  rintro b h3 ⟨e3, hb⟩
  have t3 := tk.ext e3
  refine ⟨fun g => ?_, fun g => ?_⟩
  · obtain ⟨g1, g2⟩ := hb.1 g
    rintro _ rfl
    refine ⟨⟨e3, j + 1, w64 (by omega) (by omega), by omega, fun k c hk hv => ?_⟩, by rw [w64 (by omega) (by omega)]; omega⟩
    have h4 := hn k c hk hv
    have h5 : at0 t.bs k ≠ (j : Int) := fun e => by rw [g2 k c hk e] at hv; cases hv
    omega
  have hnb : ¬ (j < t.vs.length ∧ ∀ k c, k < t.ps.length → at0 t.bs k = (j : Int) → viol t k c = false) := fun hh => by rw [hb.2 hh] at g; cases g
  clear hb g
  rw [hlv]
  refine ⟨fun g => ?_, fun g => ?_⟩
  · have g : j = t.vs.length := by have : (j : Int) = (t.vs.length : Int) := (by simpa using g); omega
    obtain ⟨hh1, rfl, rfl⟩ := D.none fun k c hk => by
      cases hv : viol t k c with
      | false => rfl
      | true =>
        have := hn k c hk hv
        have := f.g.rng k hk
        omega
    subst t'
    exact C _ _ _ t3 MK.nil e3
  have g : ¬ j = t.vs.length := fun hh => by rw [hh] at g; simp at g
  have hjl : j < t.vs.length := by omega
  obtain ⟨k, c, hk, hkj, hkv⟩ : ∃ k c, k < t.ps.length ∧ at0 t.bs k = (j : Int) ∧ viol t k c = true := by
    refine Classical.byContradiction fun hh => hnb ⟨hjl, fun k c hk e => ?_⟩
    cases hv : viol t k c with
    | false => rfl
    | true => exact absurd ⟨k, c, hk, e, hv⟩ hh
  obtain ⟨i, up, w, D2, D3⟩ := D.some hk hkv
  have hik := w.eq f.g hk hkv fun l d hl hv => by rw [hkj]; exact hn l d hl hv
  subst hik
  clear D hn hnb g hkv
  have hrow : rowI t.bs (j : Int) = (i : Int) := by rw [← hkj]; exact f.g.me hk
  refine lq t3.q.bas (by omega) fun h4 e4 => ?_
  rw [hrow]
  have e04 := e3.trans e4
  refine qx (tk.ext e04).q fl (by decide) (by omega) (by omega) fun h5 e5 => ?_
  have hrise : byd false (edA (sd t false) (j : Int)) (atD t.vs (j : Int)) = !up := by rw [← w.side]; unfold viol; rw [hkj]
  rw [hrise]
  have e05 := e04.trans e5
  have t5 := tk.ext e05
  have hl0 := f.g.ll
  have hl1 := f.g.lu
  have hls := f.g.sdl up
  have hjs : j < (sd t up).length := by omega
  refine t5.q.up.at rfl (by omega) fun a6 y6 hy6 he6 => ⟨y6, hy6, aa fun h6 e6 => ?_⟩
  refine seq.cut (fun (b : E7) h' => Ext h5 h' ∧ EQ h' b (edA (sd t up) (j : Int))) ?_ ?_
  · refine ⟨fun hu => ?_, fun hu => ⟨e6, ?_⟩⟩
    · have hu : up = false := by simpa using hu
      subst hu
      refine (t5.ext e6).q.lo.at rfl (by omega) fun a7 y7 hy7 he7 => ⟨y7, hy7, e6, ?_⟩
      show EQ _ _ (edA t.lo _)
      rw [cJ (by omega)]; exact he7
    · have hu : up = true := by simpa using hu
      subst hu
      show EQ _ _ (edA t.up _)
      rw [cJ (by omega)]; exact he6.ext e6
  rintro bd h7 ⟨e57, hbd⟩
  refine gb fun r h8 hr _ e8 => ?_
  intro T
  have e9 := Ext.push h8 (.cells [Value.int .i64 bd.1, Value.bool r.1, Sl.toV r.2.1, Sl.toV r.2.2].toArray T (0, 0))
  have oc : OwnS C4 4 h8.size (h8.push (.cells [Value.int .i64 bd.1, Value.bool r.1, Sl.toV r.2.1, Sl.toV r.2.2].toArray T (0, 0))) ⟨some ⟨h8.size, 0, none⟩, 1, 1⟩ [((bd.1, r.1, r.2.1, r.2.2) : Y4)] := OwnS.one rfl rfl rfl
  generalize (h8.push (.cells [Value.int .i64 bd.1, Value.bool r.1, Sl.toV r.2.1, Sl.toV r.2.2].toArray T (0, 0)) : Heap) = h9 at *
  have om : OM K0 h8.size h9 (⟨some ⟨h8.size, 0, none⟩, 1, 1⟩ : Sl) [((edA (sd t up) (at0 t.bs i)).1, 1)] := ⟨fun _ hk => hk.elim, _, oc, .cons ⟨by rw [hkj]; exact hbd.1, ((RK.of_rq (K := fun k => K0 k ∨ some h8.size = some k) hr fun k hk => by rcases hk with hk | hk; exact hk.elim; cases hk; exact Nat.le_refl _).ext e9)⟩ .nil⟩
  have e08 := (e05.trans e57).trans e8
  have t8 := tk.ext e08
  have hbd8 := hbd.ext e8
  obtain ⟨K', hK'⟩ : ∃ K' : Nat → Prop, ∀ k, K' k ↔ h8.size ≤ k := ⟨_, fun _ => Iff.rfl⟩
  obtain ⟨ys, r1, r2⟩ := t8.rows.row
  have r2 : All2 (PK K' h8) ys t.ps := r2.imp fun y p hp => hp.raise fun k hk => .inr ((hK' k).1 hk)
  have ok := fl.ok (psA t i) (by rw [bV hk]; exact List.getElem_mem _)
  have hl4 := ok.len
  have ll : ∀ {h' : Heap}, Ext h8 h' → ∀ {k : Addr → Prop}, (∀ a y5, cells? h' a 4 0 = some (CP y5) → PK K' h' y5 (psA t i) → k a) → idxS y.2.1 (i : Int) 4 k := fun e k C => zQ (K := K') (RS.ext r1 e) (r2.imp fun y p hp => hp.keep e (by simp)) rfl hk fun a y5 _ _ h1 h2 => C a y5 h1 (by rw [bV hk]; exact h2)
  have l3 : ∀ {h' : Heap} {a : Addr} {y5 : X4}, cells? h' a 4 0 = some (CP y5) → cell? h' (a.add 3) = some (Sl.toV y5.2.2.2) := fun hc => by have := cells?_get _ _ _ hc 3 (by simp [qU]); rw [Nat.zero_add] at this; exact this
  refine loop.inv (fun (z : Sl × Int × Sl × Sl × Sl × Sl × Sl × Sl × Sl × Sl × Sl × Sl) h' => Ext h8 h' ∧ z.2.2.2.2.2.2.2 = y ∧ ∃ l : Nat, z.2.1 = (l : Int) ∧ l ≤ (psA t i).2.length ∧ (∀ k (hk : k < l) (hk2 : k < (psA t i).2.length), rm t up (psA t i).2[k] = false) ∧ OM K0 h8.size h' z.1 (((edA (sd t up) (at0 t.bs i)).1, 1) :: ((psA t i).2.take l).map fun m => ((edA (sd t (wayB m.2 up)) m.1).1, absQ m.2))) (fun z _ => (psA t i).2.length - z.2.1.toNat) ⟨e9, rfl, 0, rfl, by omega, fun k hk => by omega, om⟩ ?_
  rintro ⟨s, _, n1, n2, n3, n4, n5, y'⟩ hd ⟨ed, hy', l, rfl, hl, hmin, om⟩
  dsimp only at hy' om
  subst y'
  clear e9 oc
  refine ll ed fun a5 y5 hy5 hp5 => ⟨_, l3 hy5, ?_⟩
  have hml : y5.2.2.2.len = (psA t i).2.length := hp5.2.len
  dsimp only
  rw [hml]
  refine ⟨fun g => ?_, fun g => ?_⟩
  · have g := of_decide_eq_true g
    have hll : l < (psA t i).2.length := by omega
    clear hy5 hp5 hml g
    refine ll ed fun a5 y5 hy5 hp5 => ⟨_, l3 hy5, hp5.2.at rfl hll fun a6 y6 hy6 hv6 hq6 => ⟨y6, hy6, aa fun he ee => ?_⟩⟩
    obtain ⟨v1, v2, v3, v4, v5, v6⟩ := fl.var hk (List.getElem_mem hll)
    have htk : (psA t i).2.take (l + 1) = (psA t i).2.take l ++ [(psA t i).2[l]] := List.take_succ_eq_append_getElem hll
    have hget : (psA t i).2[l]? = some (psA t i).2[l] := List.getElem?_eq_getElem hll
    have hF : rm t up (psA t i).2[l] = true → Fst t i up l := fun h => ⟨hll, h, fun k hk => hmin k hk (by omega)⟩
    have hmin2 : rm t up (psA t i).2[l] = false → ∀ k (hk : k < l + 1) (hk2 : k < (psA t i).2.length), rm t up (psA t i).2[k] = false := fun h k hk hk2 => by
      by_cases hkl : k = l
      · subst hkl; exact h
      · exact hmin k (by omega) hk2
    generalize (psA t i).2[l] = m at *
    have hqe := hq6.ext ee
    refine gZ hqe.rq (by omega) fun k13 hf hk13 ef => aa fun hg eg => ?_
    have edg := (ee.trans ef).trans eg
    have e8g := ed.trans edg
    have hw : (!((!up) == y6.2.1)) = wayB m.2 up := by rw [afl v4, hq6.rq.neg]
    rintro goes hgo
    rw [hw] at hgo
    subst hgo
    have hq7 := (hqe.ext ef).ext eg
    have hk7 := hk13.ext eg
    have tg := tk.ext (e08.trans e8g)
    have omg := om.ext edg
    refine seq.cut (fun b h' => Ext hg h' ∧ b = rm t up m) ?_ ?_
    · unfold rm
      generalize wayB m.2 up = c at *
      rw [hv6]
      refine ⟨fun hc => ?_, fun hc => ⟨fun _ => ?_, fun h => by rw [hc] at h; cases h⟩⟩
      · subst hc
        refine aem tg.q fl (by decide) v1 v2 fun hh eh => ⟨fun g => ⟨eh, g.symm⟩, fun g => ⟨nofun, fun _ => ⟨eh, g.symm⟩⟩⟩
      · subst hc
        exact abu tg.q fl (by decide) v1 v2 fun hh eh => ⟨eh, rfl⟩
    rintro b hh ⟨eh, hb⟩
    subst hb
    have th := tg.ext eh
    have e8h := e8g.trans eh
    refine ⟨fun g => ?_, fun g => ?_⟩
    · obtain ⟨m', hm', z1, z2, z3, rfl, rfl, rfl⟩ := D3 l (hF g)
      have hmm : m' = m := by rw [hget] at hm'; exact (Option.some.inj hm').symm
      subst m'
      obtain ⟨nj, hnj⟩ : ∃ nj : Nat, m.1 = (nj : Int) := ⟨m.1.toNat, by omega⟩
      have hnl : nj < t.vs.length := by omega
      have zb : szD (atD t.vs (j : Int)) ≤ 60 := fv f.v _
      have zm : szD (atD t.vs m.1) ≤ 60 := fv f.v _
      have zE : szD (edA (sd t up) (j : Int)).2 ≤ 60 := ii (fl.sd up)
      have s1 : szQ ((1 : Int) : Rat) ≤ 2 := nA (by decide)
      have s2 := aeB ((1 : Int) : Rat) m.2 v4
      have s3 := afn (edA (sd t up) (j : Int)).2 (atD t.vs (j : Int))
      have s4 := agh (((1 : Int) : Rat) / m.2) (subD (edA (sd t up) (j : Int)).2 (atD t.vs (j : Int)))
      unfold goD at *
      rw [hkj] at *
      refine seq.dup (th.q.vals.at rfl hjl fun a10 y10 hy10 hd10 => ⟨y10, hy10, aa fun hi1 ei => ?_⟩)
      rw [gA (v := (j : Int)) rfl hjl] at hd10
      refine ff ((hbd8.ext e8h).ext ei).2 (by omega) fun d1 hj1 hd1 ej => ⟨bf (ei.trans ej) (by simp) hy10, aa fun hk1 ek => ?_⟩
      have eik := (ei.trans ej).trans ek
      refine ff (hd10.ext eik) (by omega) fun d2 hl1 hd2 el => aa fun hm1 em => abk (hd2.ext em) fun d3 hn1 hd3 en => aa fun ho1 eo => ?_
      have eko := ((el.trans em).trans en).trans eo
      have zn : szD (negD (atD t.vs (j : Int))) ≤ 60 := by
        unfold negD szD at *
        rw [sY, sY]; exact zb
      refine mJ ((hd1.ext ek).ext eko) (hd3.ext eo) (by omega) fun d4 hp1 hd4 ep => aa fun hq1 eq => ?_
      rw [afs] at hd4
      have ehq := (eik.trans eko).trans (ep.trans eq)
      have thq := th.ext ehq
      have hd4 := hd4.ext eq
      refine seq.dup (thq.q.vals.at (by rw [hv6]; exact hnj) hnl fun a11 y11 hy11 hd11 => ⟨y11, hy11, aa fun ha2 ea2 => ?_⟩)
      rw [gA hnj hnl] at hd11
      refine ff (hd11.ext ea2) (by omega) fun d5 hb2 hd5 eb2 => aa fun hc2 ec2 => gJ (n := 1) (by decide) fun i1 hd2' hi1' ed2 => aa fun he2 ee2 => ?_
      have eqe := (((ea2.trans eb2).trans ec2).trans ed2).trans ee2
      refine w9 (hi1'.ext ee2) (hk7.ext ((eh.trans ehq).trans eqe)) (by omega) fun k2 hf2 hk2 ef2 => aa fun hg2 eg2 => ?_
      have efg := ef2.trans eg2
      refine nH (hk2.ext eg2) ((hd4.ext eqe).ext efg) (by omega) fun d6 hh2 hd6 eh2 => aa fun hi2 ei2 => ?_
      have ebi := (((((ec2.trans ed2).trans ee2).trans ef2).trans eg2).trans eh2).trans ei2
      refine mJ (hd5.ext ebi) (hd6.ext ei2) (by omega) fun d7 hj2 hd7 ej2 => aa fun hk3 ek2 => ?_
      rw [show (((1 : Int) : Rat) / m.2) = 1 / m.2 from rfl] at hd7
      refine aeD (hd7.ext ek2) (by omega) fun d8 hl2 hd8 fr8 el2 => ?_
      have ehl : Ext hh hl2 := (((ehq.trans (ea2.trans eb2)).trans ebi).trans (ej2.trans ek2)).trans el2
      have tl := th.ext ehl
      have hKk : ∀ k, K k → k < hk3.size := fun k hk => by
        have := hK k hk
        have h1 := (e08.trans e8h).size
        have h2 := ((((ehq.trans (ea2.trans eb2)).trans ebi).trans (ej2.trans ek2))).size
        omega
      have hd9 : DK K hl2 d8 _ := ⟨RK.fresh hd8.a fr8.1 hKk, RK.fresh hd8.b fr8.2 hKk⟩
      have hKl : ∀ k, K k → k < hl2.size := fun k hk => Nat.lt_of_lt_of_le (hKk k hk) el2.size
      rw [hv6]
      have fu := f.upd v1 v2 v3 z1
      refine ac2 (row := 0) (e := 0) tl hKl f hd9 z3 (.inl ⟨rfl, .inr ⟨rfl, rfl, v1, v2, v3, z1⟩⟩) fun y2 hm2 t2' em2 => ?_
      have hc : af (psA (updT t m.1 (addD (atD t.vs m.1) (scD (1 / m.2) (subD (edA (sd t up) (j : Int)).2 (atD t.vs (j : Int)))))) i).2 m.1 ≠ 0 := by
        show af (psA t i).2 m.1 ≠ 0
        rw [v5]; exact v4
      refine afO (d := (0, 0)) (e := 0) t2' (fun k hk => Nat.lt_of_lt_of_le (hKl k hk) em2.size) fu (fu.piv hk hc z2) (.inr ⟨rfl, .inr (.inr ⟨rfl, i, rfl, hk, hc, rfl, z2⟩)⟩) fun y3 hn2 t3' en2 => ?_
      exact C _ _ _ t3' MK.nil ((((e08.trans e8h).trans ehl).trans em2).trans en2)
    · have hmn := hmin2 g
      obtain ⟨nj, hnj⟩ : ∃ nj : Nat, m.1 = (nj : Int) := ⟨m.1.toNat, by omega⟩
      have sB : h8.size ≤ hh.size := by have := e8h.size; omega
      refine th.q.lo.at (by rw [hv6]; exact hnj) (by omega) fun a8 y8 hy8 he8 => ⟨_, fV hy8, aa fun hi1 ei => ?_⟩
      refine seq.cut (fun (p : Y4) h' => Ext hh h' ∧ p.1 = (edA (sd t (wayB m.2 up)) m.1).1 ∧ co p = co y6) ?_ ?_
      · generalize wayB m.2 up = c at *
        rw [hv6]
        refine ⟨fun hc => ?_, fun hc => ⟨ei, ?_, rfl⟩⟩
        · subst hc
          refine (th.ext ei).q.up.at hnj (by omega) fun a9 y9 hy9 he9 => ⟨_, fV hy9, ei, ?_, rfl⟩
          show y9.1 = (edA t.up m.1).1
          rw [hnj, cJ (by omega)]; exact he9.1
        · subst hc
          show y8.1 = (edA t.lo m.1).1
          rw [hnj, cJ (by omega)]; exact he8.1
      rintro p hj1 ⟨ehj, hp1, hp2⟩
      have ehg := eh.trans ehj
      have hqk : RK (fun k => K0 k ∨ s.blk = some k) hj1 (co y6) m.2 := (((hqe.ext ef).ext eg).ext ehg).raise fun k hk => .inl ((hK' k).2 (by rcases hk with hk | hk; exact hk.elim; exact (om.lt hk).1))
      refine seq.cut (fun (p : Y4) h' => Ext hj1 h' ∧ p.1 = (edA (sd t (wayB m.2 up)) m.1).1 ∧ RK (fun k => K0 k ∨ s.blk = some k) h' (co p) (absQ m.2)) ?_ ?_
      · have hneg : y6.2.1 = decide (m.2.num < 0) := hq6.rq.neg
        rw [hneg]
        refine ⟨fun g1 => ?_, fun g1 => ⟨Keep.refl _ _, hp1, ?_⟩⟩
        · have g1 := of_decide_eq_true g1
          have ha : absQ m.2 = -m.2 := by rw [acK, if_pos g1]
          rw [ha]
          refine gt (hk7.ext ehg) fun k2 hk1 hk2 ek => mY hk2 (by rw [sY]; omega) fun k3 hl1 hk3 fk el => ⟨ek.trans el, hp1, ?_⟩
          exact RK.fresh hk3 fk fun k hk => by
            rcases hk with hk | hk
            · exact hk.elim
            · have := ((omg.ext ehg).ext ek).lt hk; omega
        · have g1 := of_decide_eq_false g1
          have ha : absQ m.2 = m.2 := by rw [acK, if_neg g1]
          rw [ha, hp2]
          exact hqk
      rintro p' hk1 ⟨ehk, hp1', hp2'⟩
      have egk := ehg.trans ehk
      refine (omg.ext egk).push (v := p'.1) (x := co p') (q := absQ m.2) (by have := (e8g.trans egk).size; omega) hp2' (by simp; omega) fun s' hl1 om' kl _ => ?_
      rintro _ rfl
      refine ⟨⟨Keep.freshB (e8g.trans egk) (fun b hb => (om.lt hb).1) kl, rfl, l + 1, w64 (by omega) (by omega), by omega, hmn, ?_⟩, by rw [w64 (by omega) (by omega)]; omega⟩
      rw [htk, List.map_append, ← List.cons_append]
      rw [hp1'] at om'
      exact om'
  · have g := of_decide_eq_false g
    have : l = (psA t i).2.length := by omega
    subst this
    rw [List.take_length] at om
    obtain ⟨ht, rfl, rfl⟩ := D2 fun m hm => by
      obtain ⟨k, hk, rfl⟩ := List.getElem_of_mem hm
      exact hmin k hk hk
    subst t'
    exact C _ _ _ (tk.ext (e08.trans ed)) om.mk' (e08.trans ed)
end
end Go.Sh

namespace Go.Sh
open Go Go.Lift
abbrev AA := Bool × Int × Int × Bool × Bool × Sl × Sl × Bool × Sl × Sl
abbrev CA := aE
structure RawC (h : Heap) (y : AA) : Prop where
  x : Raw6 h y.2.2.2.2
  v : -9223372036854775808 ≤ y.2.1 ∧ y.2.1 ≤ 9223372036854775807
section
variable {t t' : TT} {n : Nat} {v : Int} {up : Bool} {e : Eg} {rs : PL} {er : Int}
theorem Bd.fit (D : Bd 60 t v up e t' rs er) (f : FitT t n) (hz : szD e.2 ≤ 60) : FitT t' n ∧ rs.length ≤ 1000 := by
  cases D with
  | rng => exact ⟨f, by decide⟩
  | arg => exact ⟨f, by decide⟩
  | old => exact ⟨f, by decide⟩
  | cla => exact ⟨f, by simp⟩
  | set h1 h2 h3 => exact ⟨f.setE h3 hz, by decide⟩
  | upd h1 h2 h3 h4 h5 h6 h7 h8 => exact ⟨(f.setE h3 hz).upd h1 (by rw [vq]; exact h2) (by rw [uT]; exact h6) h8, by decide⟩
theorem St1.fit {st : Int} (D : St1 60 t t' st rs) (f : FitT t n) : FitT t' n ∧ rs.length ≤ 1000 := by
  cases D with
  | fine => exact ⟨f, by decide⟩
  | clash i up w =>
    have := (f.fl.ok (psA t i) (by rw [bV w.lt]; exact List.getElem_mem _)).len
    exact ⟨f, by simp [rsn]; omega⟩
  | move i up j m w F hm h1 h2 h3 =>
    subst hm
    obtain ⟨v1, v2, v3, v4, v5, v6⟩ := f.fl.var w.lt (List.getElem_mem F.lt)
    have hc : af (psA (updT t ((psA t i).2[j]'F.lt).1 (goD t i up ((psA t i).2[j]'F.lt))) i).2 ((psA t i).2[j]'F.lt).1 ≠ 0 := by
      show af (psA t i).2 _ ≠ 0
      rw [v5]; exact v4
    exact ⟨(f.upd v1 v2 v3 h1).piv w.lt hc h2, by decide⟩
end
theorem adq {h0 h1 : Heap} {x : X6} {R : Bool → Heap → Prop} (hr : Raw6 h0 x) (e0 : Ext h0 h1) (K : ∀ b h2, (b = false → Sm h0 x) → Ext h1 h2 → R b h2) :
    new [Value.bool x.1, Sl.toV x.2.1, Sl.toV x.2.2.1, Value.bool x.2.2.2.1, Sl.toV x.2.2.2.2.1, Sl.toV x.2.2.2.2.2] h1 fun a h2 => kn (⟨some a, 1, 1⟩ : Sl) h2 R := by
  intro T
  have e2 := Ext.push h1 (.cells [Value.bool x.1, Sl.toV x.2.1, Sl.toV x.2.2.1, Value.bool x.2.2.2.1, Sl.toV x.2.2.2.2.1, Sl.toV x.2.2.2.2.2].toArray T (0, 0))
  have r2 : RR6 _ (⟨some ⟨h1.size, 0, none⟩, 1, 1⟩ : Sl) [x] := RS.new (h := h1) (cs := [Value.bool x.1, Sl.toV x.2.1, Sl.toV x.2.2.1, Value.bool x.2.2.2.1, Sl.toV x.2.2.2.2.1, Sl.toV x.2.2.2.2.2]) (T := T) len6 rfl rfl
  exact aea r2 (e0.trans e2) (by simp) (fun y hy => by simp at hy; subst hy; exact hr) fun b h3 hb e3 => K b h3 (fun hf => hb hf x (by simp)) (e2.trans e3)
theorem ab1 {h h1 : Heap} {reals : Int} {rows acts : Sl} {ys : List X4} {as : List AA} {Q : Bool → Heap → Prop} (hs : RS CP 4 h rows ys) (hraw : ∀ y ∈ ys, abL h y) (ha : RS CA 10 h acts as) (hra : ∀ y ∈ as, RawC h y) (e1 : Ext h h1)
    (KT : ∀ h', Ext h h' → Q true h') (KF : ∀ (n : Nat) ps h', reals = (n : Int) → ys.length ≤ 6 → n ≤ 20 → All2 (fun y p => PQ h y p ∧ Few4 p) ys ps → (∀ p ∈ ps, p.1 = 0 ∧ ∀ m ∈ p.2, m.1 < (n : Int)) → as.length ≤ 24 → (∀ a ∈ as, Sm h a.2.2.2.2) → Ext h h' → Q false h') : ro reals rows acts h1 Q := by
  have hla := ha.len
  have hls := hs.len
  refine seq.cut (fun b h' => Ext h h' ∧ (b = false → 0 ≤ reals ∧ ys.length ≤ 6 ∧ reals ≤ 20 ∧ (∀ y ∈ ys, SmP h y) ∧ as.length ≤ 24)) ?_ ?_
  · refine ⟨fun _ => ⟨e1, nofun⟩, fun g => wd (RS.ext hs e1) e1 hraw fun b h2 hb e2 => ⟨fun _ => ⟨e1.trans e2, nofun⟩, fun hbf => ⟨e1.trans e2, fun g2 => ?_⟩⟩⟩
    obtain ⟨b1, b2, b3⟩ := hb hbf
    have g := of_decide_eq_false g
    have g2 := of_decide_eq_false g2
    exact ⟨by omega, b1, b2, b3, by omega⟩
  rintro b h2 ⟨e2, hbf⟩
  refine ⟨fun _ => KT h2 e2, fun hb => ?_⟩
  obtain ⟨g0, g1, g2, g3, g4⟩ := hbf hb
  clear hbf hb
  obtain ⟨n, rfl⟩ : ∃ n : Nat, reals = (n : Int) := ⟨reals.toNat, by omega⟩
  obtain ⟨ps, hps⟩ := All2.choose g3
  have hpl := hps.length
  have KF := fun h' hall => KF n ps h' rfl g1 (by omega) hps hall g4
  refine loop.inv (fun t h' => Ext h h' ∧ ∃ i : Nat, t = (i : Int) ∧ i ≤ ps.length ∧ ∀ p ∈ ps.take i, p.1 = 0 ∧ ∀ m ∈ p.2, m.1 < (n : Int)) (fun t _ => ps.length - t.toNat) ⟨e2, 0, rfl, by omega, fun p hp => by simp at hp⟩ ?_
  rintro _ h3 ⟨e3, i, rfl, hi, hall⟩
  rw [hls, hpl]
  refine ⟨fun hlt => ?_, fun hge => ?_⟩
  · simp only [decide_eq_true_eq] at hlt
    have hi' : i < ps.length := by omega
    refine (RS.ext hs e3).ld (j := i) rfl (by omega) ?_
    obtain ⟨hy, fw⟩ := hps.get i (by omega) hi'
    have htk : ps.take (i + 1) = ps.take i ++ [ps[i]] := List.take_succ_eq_append_getElem hi'
    generalize ys[i] = y at *
    generalize ps[i] = p at *
    have hml := hy.m.len
    refine aa fun h4 e4 => ?_
    have e34 := e3.trans e4
    have hn12 := fw.n
    refine seq.cut (fun b h' => h' = h4 ∧ (b = false → p.1 = 0 ∧ ∀ m ∈ p.2, m.1 < (n : Int))) ?_ ?_
    · refine ⟨fun _ => ⟨rfl, nofun⟩, fun c1 => ⟨fun _ => ⟨rfl, nofun⟩, fun c2 => ?_⟩⟩
      have c1 := of_decide_eq_false c1
      have c2 := of_decide_eq_false c2
      rw [w64 (by omega) (by omega)]
      refine (hy.m.ext e34).at (j := p.2.length - 1) (by omega) (by omega) fun a1 y1 hy1 hv1 _ => ⟨_, cX hy1, rfl, fun c3 => ⟨(afc hy).1 (by omega), fun m hm => ?_⟩⟩
      have c3 := of_decide_eq_false c3
      rw [hv1] at c3
      obtain ⟨k, hk, rfl⟩ := List.getElem_of_mem hm
      by_cases hkl : k = p.2.length - 1
      · subst hkl; omega
      · have := List.pairwise_iff_getElem.1 fw.rt.srt k (p.2.length - 1) hk (by omega) (by omega)
        omega
    rintro b h5 ⟨he, hb⟩
    rw [he]; clear he
    refine ⟨fun _ => KT h4 e34, fun hbf => ?_⟩
    have hb := hb hbf
    refine loop.inv (fun (z : Int) h' => Ext h h' ∧ ∃ j : Nat, z = (j : Int) ∧ j ≤ p.2.length) (fun z _ => p.2.length - z.toNat) ⟨e34, 0, rfl, by omega⟩ ?_
    rintro _ h6 ⟨e6, j, rfl, hj⟩
    rw [hml]
    refine ⟨fun g => ?_, fun g => ?_⟩
    · have g := of_decide_eq_true g
      have hjl : j < p.2.length := by omega
      refine (hy.m.ext e6).at rfl hjl fun a1 y1 hy1 _ _ => ⟨y1, hy1, aa fun h7 e7 => ?_⟩
      refine seq.cut (fun b h' => h' = h7) ⟨fun _ => rfl, fun _ => rfl⟩ ?_
      rintro b _ rfl
      refine ⟨fun _ => KT _ (e6.trans e7), fun _ => ⟨⟨e6.trans e7, j + 1, w64 (by omega) (by omega), by omega⟩, by rw [w64 (by omega) (by omega)]; omega⟩⟩
    · rw [w64 (by omega) (by omega)]
      refine ⟨⟨e6, i + 1, by omega, by omega, fun p' hp' => ?_⟩, by omega⟩
      rw [htk] at hp'
      rcases List.mem_append.1 hp' with hp' | hp'
      · exact hall p' hp'
      · simp only [List.mem_singleton] at hp'
        subst hp'; exact hb
  simp only [decide_eq_false_iff_not] at hge
  have : i = ps.length := by omega
  subst this
  rw [List.take_length] at hall
  have KF := fun h' => KF h' hall
  clear hge hi
  refine loop.inv (fun (z : Int) h' => Ext h h' ∧ ∃ j : Nat, z = (j : Int) ∧ j ≤ as.length ∧ ∀ a ∈ as.take j, Sm h a.2.2.2.2) (fun z _ => as.length - z.toNat) ⟨e3, 0, rfl, by omega, fun a ha => by simp at ha⟩ ?_
  rintro _ h4 ⟨e4, j, rfl, hj, hsm⟩
  rw [hla]
  refine ⟨fun g => ?_, fun g => ?_⟩
  · have g := of_decide_eq_true g
    have hjl : j < as.length := by omega
    have hr := hra _ (List.getElem_mem hjl)
    have htk : as.take (j + 1) = as.take j ++ [as[j]] := List.take_succ_eq_append_getElem hjl
    refine (RS.ext ha e4).ld (j := j) rfl hjl ?_
    generalize as[j] = y at *
    refine aa fun h5 e5 => ?_
    refine seq.cut (fun b h' => Ext h h' ∧ (b = false → Sm h y.2.2.2.2)) ?_ ?_
    · refine adq hr.x (e4.trans e5) fun b h6 hb e6 => ?_
      have e06 := (e4.trans e5).trans e6
      exact ⟨fun _ => ⟨e06, nofun⟩, fun hb' => ⟨fun _ => ⟨e06, nofun⟩, fun _ => ⟨fun _ => ⟨e06, nofun⟩, fun _ => ⟨fun _ => ⟨e06, nofun⟩, fun _ => ⟨e06, fun _ => hb hb'⟩⟩⟩⟩⟩
    rintro b h6 ⟨e6, hb⟩
    refine ⟨fun _ => KT h6 e6, fun hbf => ⟨⟨e6, j + 1, w64 (by omega) (by omega), by omega, fun a hm => ?_⟩, by rw [w64 (by omega) (by omega)]; omega⟩⟩
    rw [htk] at hm
    rcases List.mem_append.1 hm with hm | hm
    · exact hsm a hm
    · simp only [List.mem_singleton] at hm
      subst hm; exact hb hbf
  · have g := of_decide_eq_false g
    have : j = as.length := by omega
    subst this
    rw [List.take_length] at hsm
    exact KF h4 hsm e4
end Go.Sh

namespace Go.Sh
open Go Go.Lift
theorem agv {s : Sl} {h : Heap} {Q : Bool → Heap → Prop} (hs : s.len = 0) (K : Q true h) : seq (fun (K0 : Bool → Heap → Prop) => iteB ((6 : Int) == 6) (K0 (((s.len : Nat) : Int) == 0) h) (K0 false h)) (fun t h' => Q t h') :=
  seq.dup ⟨fun _ => by rw [hs]; exact K, fun g => by simp at g⟩
theorem l9 (SP : ∀ {h : Heap} {Q : Bool → Heap → Prop}, Tab h → (∀ h', Ext h h' → Q true h') → dZ h Q) {reals : Int} {rows acts : Sl} {h : Heap} {Q : Bool → Heap → Prop} {ys : List X4} {as : List AA} (ht : Tab h) (hs : RS CP 4 h rows ys) (hc : rows.len ≤ rows.cap) (hraw : ∀ y ∈ ys, abL h y) (ha : RS CA 10 h acts as) (hra : ∀ y ∈ as, RawC h y) (K : ∀ h', Ext h h' → Q true h') : dQ reals rows acts h Q := by
  have hla := ha.len
  have hls := hs.len
  refine SP ht fun h1 e1 => ⟨fun hb => by simp at hb, fun _ => ?_⟩
  refine ab1 hs hraw ha hra e1 (fun h2 e2 => ⟨fun _ => K h2 e2, nofun⟩) fun n ps h3 hre g1 g2 hps hall g4 hsm e3 => ⟨nofun, fun _ => ?_⟩
  subst hre
  have hpl := hps.length
  refine aa fun h4 e4 => ?_
  have e04 := e3.trans e4
  refine ob fun a h5 hb5 ha5 e5 => ?_
  have hlim : max (Int.toNat 60) 1 = 60 := rfl
  rw [hlim] at hb5
  have b5 : BO h4 a 60 false h5 := ⟨R.ext ht e04, hb5, e5, by omega⟩
  have hfew : ∀ p ∈ ps, Few4 p := All2.right hps fun _ _ hq => hq.2
  have fit0 : FitT (newT n ps) n := FitT.new (by omega) (by omega) (fun p hp => (hfew p hp).rt) (fun p hp => (hall p hp).1) (fun p hp => (hall p hp).2) fun p hp => adk.2 ⟨Nat.le_trans (hfew p hp).c (by decide), fun m hm => Nat.le_trans ((hfew p hp).m m hm) (by decide)⟩
  have hpk : ∀ {K : Nat → Prop} {hh : Heap}, Ext h4 hh → (∀ k, K k → h4.size ≤ k) → All2 (PK K hh) ys ps := fun e hk => hps.imp fun y p hq => PK.of hq.1 (e04.trans e) (fun k hk' => Nat.le_trans e04.size (hk k hk'))
  have hrk : ∀ {K : Nat → Prop} {hh : Heap}, Ext h4 hh → (∀ k, K k → h4.size ≤ k) → RowK CP 4 PK K hh rows ps := fun e hk => ⟨hc, ⟨ys, RS.ext hs (e04.trans e), hpk e hk⟩, fun hne b hb hk' => by
    have := RS.lt hs (by decide) (hps.ne' hne) hb
    have := hk b hk'
    have := e04.size
    omega⟩
  have fin : ∀ {hA hB hC hD : Heap} {x y : S5} {p : Addr} {bv bl bu : Nat}, NewT hA hB x n ps ys bv bl bu → Ext h5 hA → Ext hB hC → Cs hD p (CT x) → Keep (some p.block) hC hD → (p.block < hA.size ∨ hB.size ≤ p.block) → h5.size ≤ p.block → TK (Vol.mk a p bv bl bu).K hC y (newT n ps) →
      ∃ V : Vol, V.a = a ∧ V.p = p ∧ (∃ x, TM h4 V 60 false hD x (newT n ps)) ∧ TK V.K hD y (newT n ps) := by
    intro hA hB hC hD x y p bv bl bu nt eA eC cD kD hpo hp5 tk
    have b1 := nt.vals.lt nt.vb; have b2 := nt.lo.lt nt.lb; have b3 := nt.up.lt nt.ub
    have s1 := eA.size; have s2 := e5.size; have s3 := b5.lt
    have hV : ∀ k, (Vol.mk a p bv bl bu).K k → h4.size ≤ k := by
      rintro k (hk | hk | hk | hk | hk) <;> dsimp only at hk <;> omega
    have bC : BO h4 a 60 false hC := b5.of_ext (eA.trans (nt.ext.trans eC))
    refine ⟨⟨a, p, bv, bl, bu⟩, rfl, rfl, ⟨x, TM.ofNew nt (e5.trans eA) (hpk (e5.trans eA) hV) cD ((KK.ext eC).trans (KK.keep kD fun k hk => by cases hk; exact .inl (.inr rfl))) (bC.fresh kD fun b e => by cases e; exact ⟨by omega, by omega⟩) (.inl (by dsimp only; omega)) hpo (by dsimp only; omega) (by dsimp only; omega)⟩, tk.kk (KK.keep kD fun k hk => by cases hk; exact .inl (.inr (.inl rfl)))⟩
  refine seq.cut (fun s h' => ∃ V : Vol, V.a = a ∧ V.p = s.1 ∧ (∃ x, TM h4 V 60 false h' x (newT n ps)) ∧ TK V.K h' s.2 (newT n ps)) ?_ ?_
  · have csx : ∀ {hh h' : Heap} {p : Addr} {cs : List Value}, Cs hh p cs → Ext hh h' → Cs h' p cs := fun c e => ⟨c.spot, fun k hk => by
      have := c.cell k hk
      exact ⟨ah e this.1 (by simp), cy e (cf this.1) this.2 (by simp)⟩⟩
    have s5 := b5.lt; have s45 := e5.size
    refine aa fun h6 e6 => ⟨?_, ?_⟩
    · refine qg (reals := n) (ps := ps) rfl (by omega) (RS.ext hs (e04.trans (e5.trans e6))) hc hpl (by omega) fun x h7 bv bl bu nt => aa fun h8 e8 => ?_
      have b1 := nt.vals.lt nt.vb; have b2 := nt.lo.lt nt.lb; have b3 := nt.up.lt nt.ub
      have s6 := e6.size; have s7 := nt.ext.size; have s8 := e8.size
      refine ⟨?_, ?_⟩
      · refine oA (K := fun k => k = a.block ∨ k = bv ∨ k = bl ∨ k = bu) rfl (by omega) (by rintro k (hk | hk | hk | hk) <;> omega) (hrk (e5.trans (e6.trans (nt.ext.trans e8))) (by rintro k (hk | hk | hk | hk) <;> omega)) (by omega) fun y h9 tk e9 => aa fun h10 e10 => aaX fun p h11 c11 hp11 e11 n11 => aa fun h12 e12 => ?_
        have s9 := e9.size; have s10 := e10.size
        refine (csx c11 e12).sts rfl fun h13 c13 k13 => ?_
        refine fin (p := p) (y := y) nt e6 (((((e8.trans e9).trans e10).trans e11).trans e12)) c13 k13 (.inr (by omega)) (by omega) ((tk.raise ?_).ext ((e10.trans e11).trans e12))
        rintro k (hk | hk | hk | hk | hk)
        · exact .inl (.inl hk)
        · right; dsimp only at hk; omega
        · exact .inl (.inr (.inl hk))
        · exact .inl (.inr (.inr (.inl hk)))
        · exact .inl (.inr (.inr (.inr hk)))
      · refine aaX fun p h9 c9 hp9 e9 n9 => aa fun h10 e10 => ?_
        have s9 := e9.size; have s10 := e10.size
        refine oA (K := (Vol.mk a p bv bl bu).K) rfl (by omega) (by rintro k (hk | hk | hk | hk | hk) <;> dsimp only at hk <;> omega) (hrk (e5.trans (e6.trans (nt.ext.trans (e8.trans (e9.trans e10))))) (by rintro k (hk | hk | hk | hk | hk) <;> dsimp only at hk <;> omega)) (by omega) fun y h11 tk e11 => aa fun h12 e12 => ?_
        refine (csx c9 (e10.trans (e11.trans e12))).sts rfl fun h13 c13 k13 => ?_
        exact fin (p := p) (y := y) nt e6 (((((e8.trans e9).trans e10).trans e11).trans e12)) c13 k13 (.inr (by omega)) (by omega) (tk.ext e12)
    · refine aaX fun p h7 c7 hp7 e7 n7 => aa fun h8 e8 => ?_
      have s6 := e6.size; have s7 := e7.size; have s8 := e8.size
      refine qg (reals := n) (ps := ps) rfl (by omega) (RS.ext hs (e04.trans (e5.trans (e6.trans (e7.trans e8))))) hc hpl (by omega) fun x h9 bv bl bu nt => aa fun h10 e10 => ?_
      have b1 := nt.vals.lt nt.vb; have b2 := nt.lo.lt nt.lb; have b3 := nt.up.lt nt.ub
      have s9 := nt.ext.size; have s10 := e10.size
      refine oA (K := (Vol.mk a p bv bl bu).K) rfl (by omega) (by rintro k (hk | hk | hk | hk | hk) <;> dsimp only at hk <;> omega) (hrk (e5.trans (e6.trans (e7.trans (e8.trans (nt.ext.trans e10))))) (by rintro k (hk | hk | hk | hk | hk) <;> dsimp only at hk <;> omega)) (by omega) fun y h11 tk e11 => aa fun h12 e12 => ?_
      refine (csx c7 (e8.trans (nt.ext.trans (e10.trans (e11.trans e12))))).sts rfl fun h13 c13 k13 => ?_
      exact fin (p := p) (y := y) nt (e6.trans (e7.trans e8)) ((e10.trans e11).trans e12) c13 k13 (.inl (by omega)) (by omega) (tk.ext e12)
  rintro ⟨p, y⟩ h6 ⟨V, hVa, hVp, ⟨x, q6⟩, tk6⟩
  dsimp only at hVp tk6
  subst hVa hVp
  clear fin hrk hpk
  refine loop.inv (fun s h' => ∃ (i : Nat) (x : S5) (t : TT), s.1 = (i : Int) ∧ i ≤ as.length ∧ TM h4 V 60 false h' x t ∧ TK V.K h' s.2 t ∧ FitT t n) (fun s _ => as.length - s.1.toNat) ⟨0, x, _, rfl, by omega, q6, tk6, fit0⟩ ?_
  rintro ⟨_, y⟩ h7 ⟨i, x, t, rfl, hi, q, tk, f⟩
  rw [hla]
  have e7 : Ext h h7 := e04.trans q.bo.ext
  refine ⟨fun hlt => ?_, fun hge => ?_⟩
  · simp only [decide_eq_true_eq] at hlt
    have hi' : i < as.length := by omega
    refine seq.cut (fun (y' : S5) h' => ∃ x' t', TM h4 V 60 false h' x' t' ∧ TK V.K h' y' t' ∧ FitT t' n) ?_ ?_
    · refine (RS.ext ha e7).ld (j := i) rfl hi' (aa fun h8 e8 => ?_)
      have hr := hra _ (List.getElem_mem hi')
      obtain ⟨d, hd, hds⟩ := hsm _ (List.getElem_mem hi')
      generalize as[i] = y9 at *
      have q8 := q.ext e8
      have tk8 := tk.ext e8
      have hd4 := hd.ext e04
      refine ⟨fun _ => ?_, fun _ => ?_⟩
      · have he : EK V.K h8 (y9.2.2.1, y9.2.2.2.2) (y9.2.2.1, d) := ⟨rfl, DK.of hd4 q8.bo.ext q8.old⟩
        refine jt (e := (y9.2.2.1, d)) q8 (by decide) f.fl he (by dsimp only; omega) hr.v (fun h9 _ _ b => cC b.bench ⟨fun _ => agv rfl (K h9 (e04.trans b.ext)), nofun⟩) fun s er t' rs h9 q9 k9 D ms => cC q9.bo.bench ⟨nofun, fun _ => ?_⟩
        obtain ⟨f9, hrl⟩ := D.fit f (by dsimp only; omega)
        refine x7 (tk8.kk k9) q9.lt f (k9.ek he) (by dsimp only; omega) D fun y' s' h10 tk' ms' e10 => aa fun h11 e11 => ?_
        have e911 := e10.trans e11
        have q11 := q9.ext e911
        have tk11 := tk'.ext e11
        have z := f9.tsz
        refine seq.cut (fun b h' => b = false ∧ Ext h11 h') ?_ ?_
        · refine ⟨fun hne => by simp at hne, fun _ => ti (ms.ext e911) (ms'.ext e11) hrl fun h12 e12 => ⟨nofun, fun _ => ⟨x, (q11.ext e12).all, ?_⟩⟩⟩
          refine tB (q11.ext e12).tq (tk11.ext e12).q z z (by decide) (by decide) fun b h13 hb e13 => ?_
          have hb := hb.2 rfl
          subst hb
          exact ⟨rfl, e12.trans e13⟩
        rintro b h12 ⟨rfl, e12⟩
        exact ⟨nofun, fun _ => ⟨x, t', q11.ext e12, tk11.ext e12, f9⟩⟩
      · refine loop.inv (fun s h' => ∃ (j : Nat) (x : S5) (t : TT), s.1 = (j : Int) ∧ j ≤ 60 ∧ TM h4 V 60 false h' x t ∧ TK V.K h' s.2 t ∧ FitT t n) (fun s _ => 60 - s.1.toNat) ⟨0, x, _, rfl, by omega, q8, tk8, f⟩ ?_
        clear q8 tk8 q tk f
        rintro ⟨_, y⟩ h9 ⟨j, x, t, rfl, hj, q, tk, f⟩
        refine ⟨fun g => ?_, fun _ => ⟨x, t, q, tk, f⟩⟩
        have g := of_decide_eq_true g
        have hj60 : j < 60 := by omega
        refine vE q (by decide) (by decide) f.fl (fun h10 b _ => cC b.bench ⟨fun _ => agv rfl (K h10 (e04.trans b.ext)), nofun⟩) fun st s t' rs x' h10 q' k' D ms => cC q'.bo.bench ⟨nofun, fun _ => ?_⟩
        obtain ⟨f', hrl⟩ := D.fit f
        refine aby (tk.kk k') q'.lt f D fun y' s' h11 tk' ms' e11 => aa fun h12 e12 => ?_
        have e1012 := e11.trans e12
        have q12 := q'.ext e1012
        have tk12 := tk'.ext e12
        have z := f'.tsz
        refine seq.cut (fun b h' => b = false ∧ Ext h12 h') ?_ ?_
        · refine ⟨fun hne => by simp at hne, fun _ => ⟨fun hne => by simp at hne, fun _ => ti (ms.ext e1012) (ms'.ext e12) hrl fun h13 e13 => ⟨nofun, fun _ => ⟨x', (q12.ext e13).all, ?_⟩⟩⟩⟩
          refine tB (q12.ext e13).tq (tk12.ext e13).q z z (by decide) (by decide) fun b h14 hb e14 => ?_
          have hb := hb.2 rfl
          subst hb
          exact ⟨rfl, e13.trans e14⟩
        rintro b h13 ⟨rfl, e13⟩
        refine ⟨nofun, fun _ => ⟨fun _ => ⟨x', t', q12.ext e13, tk12.ext e13, f'⟩, fun _ => ?_⟩⟩
        rintro _ rfl
        exact ⟨⟨j + 1, x', t', w64 (by omega) (by omega), by omega, q12.ext e13, tk12.ext e13, f'⟩, by rw [w64 (by omega) (by omega)]; omega⟩
    rintro y' h8 ⟨x', t', q', tk', f'⟩
    exact ⟨⟨i + 1, x', t', w64 (by omega) (by omega), by omega, q', tk', f'⟩, by rw [w64 (by omega) (by omega)]; omega⟩
  · have z := f.tsz
    refine ⟨x, q.all, ?_⟩
    refine yT (R.ext ht e7) q.tq (Keep.refl _ _) z (by decide) (by decide) (by decide) fun b h8 hb e8 => ?_
    have hb := hb.2 f.g.right
    subst hb
    exact K h8 (e7.trans e8)
end Go.Sh

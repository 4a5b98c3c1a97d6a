/-
  Laws that the proof of this claim's statement leans on, each proved under the conditions that it states.
-/
import Derived.Test.YtoeiajabbimiaaaDoorSpU
set_option linter.unusedVariables false
set_option linter.unusedSimpArgs false
namespace Go.Sh
open Go Go.Lift

/-- The document's sum. -/
def addQ (p : Rat × PL) (c : Rat) (q : Rat × PL) : Rat × PL := (p.1 + c * q.1, addR p.2 c q.2)
theorem mvs_cn {a : Int × Rat} {as : PL} : mvs (a :: as) [] = a.1 :: mvs as [] := by rw [mvs]
theorem mvs_nc {b : Int × Rat} {bs : PL} : mvs [] (b :: bs) = b.1 :: mvs [] bs := by rw [mvs]
theorem mvs_cc {a b : Int × Rat} {as bs : PL} : mvs (a :: as) (b :: bs) = if a.1 ≤ b.1 then a.1 :: (if a.1 = b.1 then mvs as bs else mvs as (b :: bs)) else b.1 :: mvs (a :: as) bs := by rw [mvs]
end Go.Sh

namespace Go.Sh
open Go Go.Lift

theorem addP_eq {p q : Rat × PL} {c : Rat} (hp : Rt p) (hq : Rt q) : addP p c q = addQ p c q := by
  unfold addP addQ scP
  split
  · rename_i h0
    subst h0
    refine Prod.ext ?_ ?_
    · simp only; grind
    · simp only
      rw [← mrg_addR hp.srt hq.srt, mrg_zero (q := scL 0 q.2)]
      intro m hm
      simp only [scL, List.mem_map] at hm
      obtain ⟨m', _, rfl⟩ := hm
      simp
  · exact Prod.ext rfl (mrg_addR hp.srt hq.srt)
theorem Rt.nil {c : Rat} : Rt (c, []) := ⟨List.Pairwise.nil, fun m hm => by simp at hm, fun m hm => by simp at hm⟩
theorem Rt.sc {p : Rat × PL} {c : Rat} (hp : Rt p) (hc : c ≠ 0) : Rt (c * p.1, scL c p.2) := by
  refine ⟨srt_scL hp.srt, fun m hm => ?_, fun m hm => ?_⟩
  · simp only [scL, List.mem_map] at hm
    obtain ⟨m', hm', rfl⟩ := hm
    exact hp.nn m' hm'
  · simp only [scL, List.mem_map] at hm
    obtain ⟨m', hm', rfl⟩ := hm
    exact fun h => by
      rcases Rat.mul_eq_zero.1 h with h | h
      · exact hc h
      · exact hp.nz m' hm' h
theorem OfP_spec {v : Int} {K : Nat → Prop} {h : Heap} {Q : X4 → Heap → Prop} (hK : ∀ k, K k → k < h.size) (C : ∀ r h', RK K h' (cst r) 0 → MK K h' r.2.2.2 [(v, 1)] → Ext h h' → Q r h') : linear_Of v h Q := by
  refine mem_ext fun h1 e1 => OfQ (n := 1) (by decide) (by decide) fun r h2 hr hf e2 => ?_
  intro T
  have e3 : Ext h2 (h2.push (.cells [Value.int .i64 v, Value.bool r.1, Sl.toV r.2.1, Sl.toV r.2.2].toArray T (0, 0))) := Ext.push _ _
  have hrs := RS.new (toC := C4) (sz := 4) (h := h2) (cs := [Value.int .i64 v, Value.bool r.1, Sl.toV r.2.1, Sl.toV r.2.2]) (T := T) (n := 1) (xs := [((v, r.1, r.2.1, r.2.2) : Y4)]) len4 rfl rfl
  have s1 := e1.size; have s2 := e2.size
  have hr3 : RK K (h2.push (.cells [Value.int .i64 v, Value.bool r.1, Sl.toV r.2.1, Sl.toV r.2.2].toArray T (0, 0))) r 1 := by
    have : RK K h2 r ((1 : Int) : Rat) := RK.fresh hr hf fun k hk => Nat.lt_of_lt_of_le (hK k hk) s1
    simpa using this.ext e3
  refine C _ _ RK.zero ⟨Nat.le_refl _, ⟨_, hrs, .cons ⟨rfl, hr3⟩ .nil⟩, fun _ k hk hb => ?_⟩ (e1.trans (e2.trans e3))
  have := hK k hk
  simp [Sl.blk] at hb
  omega

theorem NormalP_spec {h0 h : Heap} {a : Addr} {lim : Nat} {x : X4} {p : Rat × PL} {Q : (X4 × X3) → Heap → Prop} (hv : BO h0 a lim false h) (hx : RK (· = a.block) h (cst x) p.1) (hm : MK (· = a.block) h x.2.2.2 p.2) (hr : Rt p) (hl : p.2.length ≤ 1000) (hs : ∀ m ∈ p.2, szQ m.2 ≤ 40)
    (hlim : ∀ k, p.2.head? = some k → szQ (1 / k.2) ≤ lim ∧ fitsP lim (0, scL (1 / k.2) p.2) = true)
    (C1 : p.2 = [] → ∀ h', Ext h h' → Q ((false, Sl.nil, Sl.nil, Sl.nil), (false, Sl.nil, Sl.nil)) h')
    (C2 : ∀ m ms, p.2 = m :: ms → ∀ r k h', BO h0 a lim false h' → Keep (some a.block) h h' → RK (· = a.block) h' (cst r) 0 → MK (· = a.block) h' r.2.2.2 (scL (1 / m.2) p.2) → RK (· = a.block) h' k m.2 → Q (r, k) h') : linear_Normal (some a) x h Q := by
  have hlen := hm.len
  refine mem_ext fun h1 e1 => ⟨fun hz => ?_, fun hz => ?_⟩
  · simp only [beq_iff_eq] at hz
    exact C1 (List.eq_nil_of_length_eq_zero (by omega)) h1 e1
  · obtain ⟨m, ms, hp⟩ : ∃ m ms, p.2 = m :: ms := by
      cases hpp : p.2 with
      | nil => rw [hpp] at hlen; simp [hlen] at hz
      | cons m ms => exact ⟨m, ms, rfl⟩
    obtain ⟨f1, f2⟩ := hlim m (by rw [hp]; rfl)
    have hm0 : m.2 ≠ 0 := hr.nz m (by rw [hp]; simp)
    have hms := hs m (by rw [hp]; simp)
    have hd := sz_div 1 m.2 hm0
    have one2 : szQ (1 : Rat) ≤ 2 := by have := sz_int (n := 1) (by decide); simpa using this
    have v1 := hv.of_ext e1
    refine (hm.ext e1).at (j := 0) rfl (by rw [hp]; simp) fun a1 y hy hv1 hr1 => ⟨co y, ld_co hy, mem_ext fun h2 e2 => ?_⟩
    have hr1' : RK (· = a.block) h1 (co y) m.2 := by have : p.2[0]'(by rw [hp]; simp) = m := by simp [hp]
                                                     rw [this] at hr1; exact hr1
    have v2 := v1.of_ext e2
    have e02 := e1.trans e2
    have hi0 : (1 : Rat) / m.2 ≠ 0 := by
      intro h
      have : (1 : Rat) / m.2 * m.2 = 1 := Rat.div_mul_cancel hm0
      rw [h] at this; grind
    refine seq.cut (fun t h3 => BO h0 a lim false h3 ∧ Keep (some a.block) h2 h3 ∧ RK (· = a.block) h3 (cst t) 0 ∧ MK (· = a.block) h3 t.2.2.2 (scL (1 / m.2) p.2)) ?_ ?_
    · refine mem_ext fun h3 e3 => OfQ (n := 1) (by decide) (by decide) fun o h4 ho fo e4 => mem_ext fun h5 e5 => ?_
      have e25 := e3.trans (e4.trans e5)
      have v5 := v2.of_ext e25
      have ho5 : RQ h5 o 1 := by have := ho.ext e5; simpa using this
      refine DivQ_spec v5.tb v5.bench ho5 (((hr1'.ext e2).ext e25).rq) (by omega) (fun h => absurd h hm0) fun _ r h6 hb6 k6 hr6 hf6 => mem_ext fun h7 e7 => ?_
      have hfit : (false || decide (lim < szQ (1 / m.2))) = false := by simp; omega
      rw [hfit] at hb6 hr6
      have v7 := (v5.keep hb6 k6).of_ext e7
      have k27 : Keep (some a.block) h2 h7 := (Keep.of_ext e25).trans (k6.trans (Keep.of_ext e7))
      rw [val'_false] at hr6
      have hr7 : RK (· = a.block) h7 r (1 / m.2) := (RK.fresh (K := (· = a.block)) hr6.rq hf6 (fun k (hk : k = a.block) => hk ▸ v5.lt)).ext e7
      have hm7 := (hm.ext e02).keep k27 (fun k hk => by cases hk; rfl)
      refine Scale_spec (x := (false, Sl.nil, Sl.nil, x.2.2.2)) (c0 := 0) v7 hr7 RK.zero hm7 (by omega) (by rw [sz_zero]; omega) (fun m hm => by have := hs m hm; omega) hl fun w h8 v8 k8 hw hwm => mem_ext fun h9 e9 => ?_
      have hsc : scP (1 / m.2) (0, p.2) = (0, scL (1 / m.2) p.2) := by
        unfold scP; rw [if_neg hi0]; simp
      have hof : (false || !fitsP lim (scP (1 / m.2) (0, p.2))) = false := by rw [hsc, f2]; rfl
      rw [hof] at v8 hw hwm
      rw [hsc] at hw hwm
      exact ⟨v8.of_ext e9, k27.trans (k8.trans (Keep.of_ext e9)), hw.ext e9, hwm.ext e9⟩
    · rintro t h3 ⟨v3, k3, ht, htm⟩
      refine Over_spec v3.bench ⟨nofun, fun _ => ?_⟩
      exact C2 m ms hp _ _ h3 v3 ((Keep.of_ext e02).trans k3) ht htm ((hr1'.ext e2).keep k3 (fun k hk => by cases hk; rfl))

theorem speaks12uspec {h : Heap} {Q : Bool → Heap → Prop} (ht : Tab h) (K : ∀ h', Ext h h' → Q true h') : law12uspeaks h Q := by
  have i2 : ∀ {n : Int}, n.natAbs < 18446744073709551616 → szQ (n : Rat) ≤ 2 := fun h => sz_int h
  have s3 : szQ (3 : Rat) ≤ 2 := by have := i2 (n := 3) (by decide); simpa using this
  have s2 : szQ (2 : Rat) ≤ 2 := by have := i2 (n := 2) (by decide); simpa using this
  have s1 : szQ (1 : Rat) ≤ 2 := by have := i2 (n := 1) (by decide); simpa using this
  have sm : szQ (-1 : Rat) ≤ 2 := by have := i2 (n := -1) (by decide); simpa using this
  have hqn : (-1 / 2 : Rat).num = -1 := by decide +kernel
  have hqd : (-1 / 2 : Rat).den = 2 := by decide +kernel
  have n1 : nl 1 = 1 := nl_one
  have n2 : nl 2 = 1 := by rw [nl_pos (by decide)]; simp [nl_zero]
  have hhn : (1 / 2 : Rat).num = 1 := by decide +kernel
  have hhd : (1 / 2 : Rat).den = 2 := by decide +kernel
  have sh : szQ (1 / 2 : Rat) ≤ 2 := by
    unfold szQ dn; rw [hhn, hhd, if_neg (by decide)]
    show max (nl 1) (nl 2) ≤ 2
    rw [n1, n2]; decide
  have smh : szQ (-1 / 2 : Rat) ≤ 2 := by
    unfold szQ dn; rw [hqn, hqd, if_neg (by decide)]
    show max (nl 1) (nl 2) ≤ 2
    rw [n1, n2]; decide
  refine New_spec fun a h1 hb1 hab e1 => ?_
  have v1 : BO h a 2 false h1 := ⟨ht, hb1, e1, Nat.le_of_eq hab.symm⟩
  refine OfQ (n := 3) (by decide) (by decide) fun r1 h2 hr1 f1 e2 => OfQ (n := 2) (by decide) (by decide) fun r2 h3 hr2 f2 e3 => ?_
  have v2 := v1.of_ext e2
  have v3 := v2.of_ext e3
  refine OfP_spec (K := (· = a.block)) (fun k hk => hk ▸ v3.lt) fun o1 h4 ho1 hm1 e4 => ?_
  have v4 := v3.of_ext e4
  have R1 : RK (· = a.block) h4 r1 3 := by
    have := (((RK.fresh (K := (· = a.block)) hr1 f1 (fun k hk => hk ▸ v1.lt)).ext e3).ext e4)
    simpa using this
  have R2 : RK (· = a.block) h4 r2 2 := by
    have := ((RK.fresh (K := (· = a.block)) hr2 f2 (fun k hk => hk ▸ v2.lt)).ext e4)
    simpa using this
  refine AddP_spec (x := (r1.1, r1.2.1, r1.2.2, Sl.nil)) (y := o1) (p := (3, [])) (q := (0, [(0, 1)])) (c := 2) v4 R2 R1 MK.nil ho1 hm1 (by omega) (by simp only; omega) (fun m hm => by simp at hm) (by rw [sz_zero]; omega) (fun m hm => by simp at hm; subst hm; simp only; omega) (by simp) (by simp) fun w h5 ov5 v5 k5 hov hw hwm => ?_
  have a1 : addP (3, []) 2 (0, [(0, 1)]) = (3, [(0, 2)]) := by decide +kernel
  have a1' : scP 2 (0, [(0, 1)]) = (0, [(0, 2)]) := by decide +kernel
  rw [a1, a1'] at hov
  rw [a1] at hw hwm
  have hov5 : ov5 = false := by
    cases hh : ov5 with
    | false => rfl
    | true =>
      exfalso
      rcases hov hh with h | h | h
      · cases h
      · simp [fitsP, sz_zero] at h; omega
      · simp [fitsP] at h; omega
  subst hov5
  refine mem_ext fun h6 e6 => ?_
  have v6 := v5.of_ext e6
  refine seq.cut (fun t h7 => MK K0 h7 t.2.2.2.1 [(0, 1), (1, -1 / 2)] ∧ RQ h7 t.2.2.2.2 2 ∧ Ext h h7) ?_ ?_
  · refine mem_ext fun h7 e7 => OfQ (n := -1) (by decide) (by decide) fun r8 h8 hr8 f8 e8 => mem_ext fun h9 e9 => ?_
    have v7 := v6.of_ext e7
    have v9 := (v7.of_ext e8).of_ext e9
    refine OfP_spec (K := (· = a.block)) (fun k hk => hk ▸ v9.lt) fun o2 h10 ho2 hm2 e10 => mem_ext fun h11 e11 => ?_
    have v11 := (v9.of_ext e10).of_ext e11
    have e611 := e7.trans (e8.trans (e9.trans (e10.trans e11)))
    have R8 : RK (· = a.block) h11 r8 (-1) := by
      have := ((((RK.fresh (K := (· = a.block)) hr8 f8 (fun k hk => hk ▸ v7.lt)).ext e9).ext e10).ext e11)
      simpa using this
    refine AddP_spec (x := w) (y := o2) (p := (3, [(0, 2)])) (q := (0, [(1, 1)])) (c := -1) v11 R8 ((hw.ext e6).ext e611) ((hwm.ext e6).ext e611) (ho2.ext e11) (hm2.ext e11) (by omega) (by simp only; omega) (fun m hm => by simp at hm; subst hm; simp only; omega) (by rw [sz_zero]; omega) (fun m hm => by simp at hm; subst hm; simp only; omega) (by simp) (by simp) fun w2 h12 ov12 v12 k12 hov12 hw2 hwm2 => mem_ext fun h13 e13 => ?_
    have a2 : addP (3, [(0, 2)]) (-1) (0, [(1, 1)]) = (3, [(0, 2), (1, -1)]) := by decide +kernel
    have a2' : scP (-1) (0, [(1, 1)]) = (0, [(1, -1)]) := by decide +kernel
    rw [a2, a2'] at hov12
    rw [a2] at hw2 hwm2
    have hov12' : ov12 = false := by
      cases hh : ov12 with
      | false => rfl
      | true =>
        exfalso
        rcases hov12 hh with h | h | h
        · cases h
        · simp [fitsP, sz_zero] at h; omega
        · simp [fitsP] at h; omega
    subst hov12'
    have v13 := v12.of_ext e13
    have hsc : scL (1 / (2 : Rat)) [(0, 2), (1, -1)] = [(0, 1), (1, -1 / 2)] := by decide +kernel
    refine NormalP_spec (x := w2) (p := (3, [(0, 2), (1, -1)])) v13 (hw2.ext e13) (hwm2.ext e13) ⟨by simp [Srt], fun m hm => ?_, fun m hm => ?_⟩ (by simp) (fun m hm => ?_) (fun k hk => ?_) nofun fun m ms hmm r k h14 v14 k14 hr14 hm14 hk14 => mem_ext fun h15 e15 => ?_
    · simp at hm; rcases hm with rfl | rfl <;> decide
    · simp at hm; rcases hm with rfl | rfl <;> decide +kernel
    · simp at hm; rcases hm with rfl | rfl <;> (simp only; omega)
    · simp at hk; subst hk
      refine ⟨by simp only; exact sh, ?_⟩
      simp only
      rw [hsc]
      simp [fitsP, sz_zero]; omega
    · cases hmm
      simp only at hm14 hk14
      rw [hsc] at hm14
      exact ⟨hm14.k0.ext e15, hk14.rq.ext e15, v14.ext.trans e15⟩
  · rintro t h7 ⟨tm, tk, e7⟩
    have tlen := tm.len
    refine seq.cut (fun b h8 => b = true ∧ Ext h7 h8) ?_ ?_
    · refine ⟨fun _ => ?_, fun hn => by simp [tlen] at hn⟩
      refine tm.at (j := 1) rfl (by simp) fun a1 y hy hv1 hr1 => ⟨co y, ld_co hy, ?_⟩
      have hr1' : RQ h7 (co y) (-1 / 2) := hr1.rq
      refine TextQ_spec hr1' (by omega) fun h8 e8 => ?_
      have d1 : dg 1 = [1] := (dg_eq (by intro z hz; simp at hz; omega) (by simp [Nrm]) (by decide)).symm
      have d2 : dg 2 = [2] := (dg_eq (by intro z hz; simp at hz; omega) (by simp [Nrm]) (by decide)).symm
      have htxt : tQ (-1 / 2) = ByteArray.mk #[45, 49, 47, 50] := by
        unfold tQ tN
        rw [hqn, hqd]
        show (if (-1 : Int) < 0 then ByteArray.mk #[45] ++ bytesOf (strDig (dg 1)) else _) ++ (if 2 = 1 then _ else ByteArray.mk #[47] ++ bytesOf (strDig (dg 2))) = _
        rw [d1, d2]; rfl
      rw [htxt]
      refine ⟨fun _ => ?_, fun hn => by simp at hn⟩
      refine TextQ_spec (tk.ext e8) (by omega) fun h9 e9 => ⟨?_, e8.trans e9⟩
      have htx2 : tQ 2 = ByteArray.mk #[50] := by
        unfold tQ tN
        have h1 : (2 : Rat).num = 2 := by decide +kernel
        have h2 : (2 : Rat).den = 1 := by decide +kernel
        rw [h1, h2]
        show (if (2 : Int) < 0 then _ else bytesOf (strDig (dg 2))) ++ (if 1 = 1 then ByteArray.empty else _) = _
        rw [d2]; rfl
      rw [htx2]; simp
    · rintro b h8 ⟨rfl, e8⟩
      exact K h8 (e7.trans e8)
end Go.Sh

namespace Go.Sh
open Go Go.Lift

theorem len4x (x : X4) : (C_bool_sl_sl_sl x).length = 4 := rfl
theorem Raw4.ofK {h : Heap} {k : X3} (hk : RawB h k) : Raw4 h (k.1, k.2.1, k.2.2, Sl.nil) := ⟨hk, [], RS.nil rfl, fun y hy => by simp at hy, Nat.le_refl _⟩
theorem PQ.rk {h0 h : Heap} {a : Addr} {x : X4} {p : Rat × PL} (hp : PQ h0 x p) (e : Ext h0 h) (ha : h0.size ≤ a.block) : RK (· = a.block) h (cst x) p.1 ∧ MK (· = a.block) h x.2.2.2 p.2 :=
  ⟨(RK.of_rq (K := (· = a.block)) hp.c fun k (hk : k = a.block) => hk ▸ ha).ext e, (hp.m.raise (K' := (· = a.block)) fun k (hk : k = a.block) => .inr (hk ▸ ha)).ext e⟩
theorem RQ.rk {h0 h : Heap} {a : Addr} {x : X3} {q : Rat} (hp : RQ h0 x q) (e : Ext h0 h) (ha : h0.size ≤ a.block) : RK (· = a.block) h x q :=
  (RK.of_rq (K := (· = a.block)) hp fun k (hk : k = a.block) => hk ▸ ha).ext e
theorem addR_len {p q : PL} {c : Rat} : (addR p c q).length ≤ p.length + q.length := by
  unfold addR nzv
  refine Nat.le_trans (List.length_filterMap_le _ _) ?_
  induction p, q using mvs.induct with
  | case1 => simp [mvs]
  | case2 a as ih => rw [mvs_cn]; simp at ih ⊢; omega
  | case3 b bs ih => rw [mvs_nc]; simp at ih ⊢; omega
  | case4 a as b bs h1 ih1 ih2 =>
    rw [mvs_cc, if_pos h1]
    split
    · simp at ih1 ⊢; omega
    · simp at ih2 ⊢; omega
  | case5 a as b bs h1 ih => rw [mvs_cc, if_neg h1]; simp at ih ⊢; omega

end Go.Sh

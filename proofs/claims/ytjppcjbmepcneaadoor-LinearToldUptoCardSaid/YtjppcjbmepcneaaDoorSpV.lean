/-
  Laws that the proof of this claim's statement leans on, each proved under the conditions that it states.
-/
import Derived.Test.YtjppcjbmepcneaaDoorSpU
set_option linter.unusedVariables false
set_option linter.unusedSimpArgs false
namespace Go.Sh
open Go Go.Lift

/-- The document's sum. -/
def addQ (p : Rat × PL) (c : Rat) (q : Rat × PL) : Rat × PL := (p.1 + c * q.1, addR p.2 c q.2)
theorem mvs_nn : mvs [] [] = [] := by rw [mvs]
theorem mvs_cn {a : Int × Rat} {as : PL} : mvs (a :: as) [] = a.1 :: mvs as [] := by rw [mvs]
theorem mvs_nc {b : Int × Rat} {bs : PL} : mvs [] (b :: bs) = b.1 :: mvs [] bs := by rw [mvs]
theorem mvs_cc {a b : Int × Rat} {as bs : PL} : mvs (a :: as) (b :: bs) = if a.1 ≤ b.1 then a.1 :: (if a.1 = b.1 then mvs as bs else mvs as (b :: bs)) else b.1 :: mvs (a :: as) bs := by rw [mvs]
theorem nzv_append {f : Int → Rat} {us vs : List Int} : nzv f (us ++ vs) = nzv f us ++ nzv f vs := by simp [nzv, List.filterMap_append]
theorem coef_sz {ms : PL} {v : Int} {n : Nat} (hs : ∀ m ∈ ms, szQ m.2 ≤ n) : szQ (coefL ms v) ≤ n := by
  induction ms with
  | nil => rw [coefL, sz_zero]; omega
  | cons m ms ih =>
    rw [coefL]; split
    · exact hs m (by simp)
    · exact ih fun m hm => hs m (List.mem_cons_of_mem _ hm)

theorem AddR_spec {h : Heap} {x y : X4} {p q : Rat × PL} {k : X3} {c : Rat} {Q : X4 → Heap → Prop} (hp : PQ h x p) (hk : RD h k c) (hq : PQ h y q) (sc : szQ c ≤ 200) (s1 : szQ p.1 ≤ 200) (s2 : ∀ m ∈ p.2, szQ m.2 ≤ 200) (s3 : szQ q.1 ≤ 200) (s4 : ∀ m ∈ q.2, szQ m.2 ≤ 200)
    (l1 : p.2.length ≤ 1000) (l2 : q.2.length ≤ 1000) (K : ∀ r h', PQ h' r (addQ p c q) → Ext h h' → Q r h') : ref12uAdd x k y h Q := by
  have hml := hp.m.len
  have hnl := hq.m.len
  refine mem_ext fun h1 e1 => ?_
  have mc := sz_mul c q.1
  have ac := sz_add p.1 (c * q.1)
  refine seq.cut (fun t h2 => RQ h2 (t.1, t.2.1, t.2.2.1) (p.1 + c * q.1) ∧ t.2.2.2 = Sl.nil ∧ Ext h h2) ?_ ?_
  · refine mem_ext fun h2 e2 => OfQ_spec ((hp.c.ext e1).ext e2) (by omega) fun r1 h3 hr1 e3 => mem_ext fun h4 e4 => ?_
    have e04 := e1.trans (e2.trans (e3.trans e4))
    refine OfQ_spec (hq.c.ext e04) (by omega) fun r2 h5 hr2 e5 => mem_ext fun h6 e6 => ?_
    have e06 := e04.trans (e5.trans e6)
    refine MulD_spec (hk.ext e06) (hr2.ext e6) (by omega) fun r3 h7 hr3 e7 => mem_ext fun h8 e8 => ?_
    refine AddD_spec ((((hr1.ext e4).ext (e5.trans e6)).ext e7).ext e8) (hr3.ext e8) (by omega) fun r4 h9 hr4 e9 => mem_ext fun h10 e10 => ?_
    refine FormQ_spec (hr4.ext e10) (by omega) fun r5 h11 hr5 e11 => mem_ext fun h12 e12 => ?_
    exact ⟨hr5.ext e12, rfl, e06.trans (e7.trans (e8.trans (e9.trans (e10.trans (e11.trans e12)))))⟩
  rintro ⟨t1, t2, t3, t4⟩ h2 ⟨hcst, ht4, e2⟩
  simp only at hcst ht4
  subst ht4
  intro T
  have hov := Own.new (toV := fun n : Int => Value.int .i64 n) (ys := []) (cs := []) (h := h2) (T := T) rfl
  have e3 : Ext h2 (h2.push (.cells ([] : List Value).toArray T (0, 0))) := Ext.push _ _
  generalize h2.push (.cells ([] : List Value).toArray T (0, 0)) = h3 at *
  have e03 := e2.trans e3
  have sB : h.size ≤ h2.size := e2.size
  rintro _ rfl
  -- the unknowns
  refine loop.inv (fun t h' => ∃ (i j : Nat) (vs : List Int), t.2.1 = (i : Int) ∧ t.2.2 = (j : Int) ∧ i ≤ p.2.length ∧ j ≤ q.2.length ∧ Own (fun n : Int => Value.int .i64 n) h2.size h' t.1 vs ∧ vs ++ mvs (p.2.drop i) (q.2.drop j) = mvs p.2 q.2 ∧ vs.length ≤ i + j ∧ Ext h2 h')
    (fun t _ => (p.2.length - t.2.1.toNat) + (q.2.length - t.2.2.toNat)) ⟨0, 0, [], rfl, rfl, by omega, by omega, hov, by simp, by simp, e3⟩ ?_
  clear hov e3 e03
  rintro ⟨vars, i', j'⟩ h4 ⟨i, j, vs, hi', hj', hi, hj, hov, hvs, hvl, e24⟩
  simp only at hi' hj' hov
  subst hi' hj'
  have e04 := e2.trans e24
  refine seq.cut (fun t h5 => t = decide (i < p.2.length ∨ j < q.2.length) ∧ h5 = h4) ?_ ?_
  · refine ⟨fun hg => ⟨?_, rfl⟩, fun hg => ⟨?_, rfl⟩⟩
    · simp only [decide_eq_true_eq] at hg
      symm; rw [decide_eq_true_eq]; left; omega
    · simp only [decide_eq_false_iff_not] at hg
      rw [decide_eq_decide]
      constructor
      · intro h; right; simp only at h; omega
      · intro h; simp only; omega
  rintro t h5 ⟨rfl, rfl⟩
  refine ⟨fun hg => ?_, fun hg => ?_⟩
  · simp only [decide_eq_true_eq] at hg
    refine seq.cut (fun t h6 => (t = true ↔ ∃ (h1 : i < p.2.length), ∀ h2 : j < q.2.length, p.2[i].1 ≤ q.2[j].1) ∧ h6 = h5) ?_ ?_
    · refine ⟨fun hz => ⟨?_, rfl⟩, fun hz => ⟨fun hg2 => ?_, fun hg2 => ⟨?_, rfl⟩⟩⟩
      · simp only [beq_iff_eq] at hz
        exact ⟨fun _ => ⟨by omega, fun h => by omega⟩, fun _ => rfl⟩
      · simp only [decide_eq_true_eq] at hg2
        have hjn : j < q.2.length := by
          have : ¬ (j : Int) = ((y.2.2.2.len : Nat) : Int) := by simpa using hz
          omega
        have hin : i < p.2.length := by omega
        refine (hp.m.ext e04).at (i := (i : Int)) (j := i) rfl hin fun a1 y1 hy1 hv1 _ => ⟨_, ld_var hy1, (hq.m.ext e04).at (i := (j : Int)) (j := j) rfl hjn fun a2 y2 hy2 hv2 _ => ⟨_, ld_var hy2, ?_, rfl⟩⟩
        rw [hv1, hv2]
        simp only [decide_eq_true_eq]
        exact ⟨fun h => ⟨hin, fun _ => h⟩, fun ⟨_, h⟩ => h hjn⟩
      · simp only [decide_eq_false_iff_not] at hg2
        exact ⟨nofun, fun ⟨h, _⟩ => by omega⟩
    rintro t h6 ⟨ht, rfl⟩
    refine ⟨fun htt => ?_, fun htf => ?_⟩
    · obtain ⟨hin, hle⟩ := ht.1 htt
      have hdp : p.2.drop i = p.2[i] :: p.2.drop (i + 1) := List.drop_eq_getElem_cons hin
      refine (hp.m.ext e04).at (i := (i : Int)) (j := i) rfl hin fun a1 y1 hy1 hv1 _ => ⟨_, ld_var hy1, ?_⟩
      refine app1v (toV := fun n : Int => Value.int .i64 n) hov (fun _ => rfl) (by have := e24.size; omega) (by omega) fun s' h7 hov7 k7 => ?_
      have e27 := Keep.ownv e24 hov (Nat.le_refl _) k7
      have e07 := e2.trans e27
      rw [hv1] at hov7
      refine seq.cut (fun t h8 => h8 = h7 ∧ ∃ j2 : Nat, t = (j2 : Int) ∧ j2 ≤ q.2.length ∧ j ≤ j2 ∧ j2 ≤ j + 1 ∧ mvs (p.2.drop i) (q.2.drop j) = p.2[i].1 :: mvs (p.2.drop (i + 1)) (q.2.drop j2)) ?_ ?_
      · refine seq.cut (fun t h8 => h8 = h7 ∧ (t = true ↔ ∃ h2 : j < q.2.length, p.2[i].1 = q.2[j].1)) ?_ ?_
        · refine ⟨fun hg2 => ?_, fun hg2 => ⟨rfl, ?_⟩⟩
          · simp only [decide_eq_true_eq] at hg2
            have hjn : j < q.2.length := by omega
            refine (hp.m.ext e07).at (i := (i : Int)) (j := i) rfl hin fun a1 y1 hy1 hv1 _ => ⟨_, ld_var hy1, (hq.m.ext e07).at (i := (j : Int)) (j := j) rfl hjn fun a2 y2 hy2 hv2 _ => ⟨_, ld_var hy2, rfl, ?_⟩⟩
            rw [hv1, hv2, beq_iff_eq]
            exact ⟨fun h => ⟨hjn, h⟩, fun ⟨_, h⟩ => h⟩
          · simp only [decide_eq_false_iff_not] at hg2
            exact ⟨nofun, fun ⟨h, _⟩ => by omega⟩
        rintro t h8 ⟨rfl, ht2⟩
        refine ⟨fun htt2 => ?_, fun htf2 => ?_⟩
        · obtain ⟨hjn, heq⟩ := ht2.1 htt2
          have hdq : q.2.drop j = q.2[j] :: q.2.drop (j + 1) := List.drop_eq_getElem_cons hjn
          rintro _ rfl
          refine ⟨rfl, j + 1, by dsimp only; rw [w64 (by omega) (by omega)]; omega, by omega, by omega, by omega, ?_⟩
          rw [hdp, hdq, mvs_cc, if_pos (by omega), if_pos heq]
        · refine ⟨rfl, j, rfl, hj, by omega, by omega, ?_⟩
          have hne : ¬ ∃ h2 : j < q.2.length, p.2[i].1 = q.2[j].1 := fun h => by rw [ht2.2 h] at htf2; cases htf2
          by_cases hjn : j < q.2.length
          · have hdq : q.2.drop j = q.2[j] :: q.2.drop (j + 1) := List.drop_eq_getElem_cons hjn
            rw [hdp, hdq, mvs_cc, if_pos (hle hjn), if_neg (fun h => hne ⟨hjn, h⟩)]
          · have hdq : q.2.drop j = [] := List.drop_eq_nil_of_le (by omega)
            rw [hdp, hdq, mvs_cn]
      · rintro t h8 ⟨rfl, j2, rfl, hj2, hjj, hjj2, hmv⟩
        rintro _ rfl
        refine ⟨⟨i + 1, j2, _, by simp only; rw [w64 (by omega) (by omega)]; omega, rfl, by omega, hj2, hov7, ?_, by simp; omega, e27⟩, ?_⟩
        · rw [← hvs, hmv, List.append_assoc]; rfl
        · simp only; rw [w64 (by omega) (by omega)]; omega
    · have hne : ¬ ∃ (h1 : i < p.2.length), ∀ h2 : j < q.2.length, p.2[i].1 ≤ q.2[j].1 := fun h => by rw [ht.2 h] at htf; cases htf
      have hjn : j < q.2.length := by
        rcases hg with h | h
        · exact Classical.byContradiction fun hh => hne ⟨h, fun h2 => absurd h2 hh⟩
        · exact h
      have hdq : q.2.drop j = q.2[j] :: q.2.drop (j + 1) := List.drop_eq_getElem_cons hjn
      have hmv : mvs (p.2.drop i) (q.2.drop j) = q.2[j].1 :: mvs (p.2.drop i) (q.2.drop (j + 1)) := by
        by_cases hin : i < p.2.length
        · have hdp : p.2.drop i = p.2[i] :: p.2.drop (i + 1) := List.drop_eq_getElem_cons hin
          rw [hdp, hdq, mvs_cc, if_neg (fun h => hne ⟨hin, fun _ => h⟩)]
        · have hdp : p.2.drop i = [] := List.drop_eq_nil_of_le (by omega)
          rw [hdp, hdq, mvs_nc]
      refine (hq.m.ext e04).at (i := (j : Int)) (j := j) rfl hjn fun a1 y1 hy1 hv1 _ => ⟨_, ld_var hy1, ?_⟩
      refine app1v (toV := fun n : Int => Value.int .i64 n) hov (fun _ => rfl) (by have := e24.size; omega) (by omega) fun s' h7 hov7 k7 => ?_
      have e27 := Keep.ownv e24 hov (Nat.le_refl _) k7
      rw [hv1] at hov7
      rintro _ rfl
      refine ⟨⟨i, j + 1, _, rfl, by simp only; rw [w64 (by omega) (by omega)]; omega, hi, by omega, hov7, ?_, by simp; omega, e27⟩, ?_⟩
      · rw [← hvs, hmv, List.append_assoc]; rfl
      · simp only; rw [w64 (by omega) (by omega)]; omega
  · simp only [decide_eq_false_iff_not] at hg
    have hip : p.2.drop i = [] := List.drop_eq_nil_of_le (by omega)
    have hjq : q.2.drop j = [] := List.drop_eq_nil_of_le (by omega)
    rw [hip, hjq, mvs_nn, List.append_nil] at hvs
    -- the numbers
    have hvr := hov.r
    have hvlen := hvr.len
    let f : Int → Rat := fun v => coefL p.2 v + c * coefL q.2 v
    refine loop.inv (fun t h' => ∃ (n : Nat) (out : PL), t.1 = (n : Int) ∧ n ≤ vs.length ∧ RK (fun k => K0 k ∨ t.2.2.2.2.blk = some k) h' (t.2.1, t.2.2.1, t.2.2.2.1) (p.1 + c * q.1) ∧ OM K0 h5.size h' t.2.2.2.2 out ∧ out = nzv f (vs.take n) ∧ out.length ≤ n ∧ Ext h5 h') (fun t _ => vs.length - t.1.toNat)
      ⟨0, [], rfl, by omega, (RK.of_rq (K := K0) (hcst.ext e24) (fun k hk => hk.elim)).raise (fun k hk => by rcases hk with hk | hk; exact hk.elim; cases hk), OM.nil (fun k hk => hk.elim), rfl, by simp, Keep.refl _ _⟩ ?_
    rintro ⟨n', w1, w2, w3, lst⟩ h6 ⟨n, out, rfl, hn, hr6, ho6, hout, hol, e6⟩
    simp only at hr6 ho6
    have e06 := e04.trans e6
    have hP := hp.ext e06
    have hQ := hq.ext e06
    refine ⟨fun hlt => ?_, fun hge => ?_⟩
    · simp only [decide_eq_true_eq] at hlt
      have hn' : n < vs.length := by omega
      have htk : vs.take (n + 1) = vs.take n ++ [vs[n]] := List.take_succ_eq_append_getElem hn'
      have LD : ∀ {h' : Heap} {kk : Addr → Prop}, Ext h5 h' → (∀ a, cell? h' a = some (Value.int .i64 vs[n]) → kk a) → idxS vars (n : Int) 1 kk := fun e K' =>
        (hvr.ext e).idx (by omega) (by omega) fun a ha hc => K' _ (by simpa using hc)
      generalize vs[n] = v at *
      have z1 := coef_sz (v := v) s2
      have z2 := coef_sz (v := v) s4
      have z3 := sz_mul c (coefL q.2 v)
      have z4 := sz_add (coefL p.2 v) (c * coefL q.2 v)
      refine seq.cut (fun t h7 => RK (fun k => K0 k ∨ t.2.2.2.blk = some k) h7 (t.1, t.2.1, t.2.2.1) (p.1 + c * q.1) ∧ ∃ out', OM K0 h5.size h7 t.2.2.2 out' ∧ out' = out ++ nzc (v, f v) [] ∧ out'.length ≤ n + 1 ∧ Ext h5 h7) ?_ ?_
      · refine seq.cut (fun t h7 => RD h7 t (f v) ∧ Ext h6 h7) ?_ ?_
        · refine LD e6 fun a1 hc1 => ⟨_, hc1, LD e6 fun a2 hc2 => ⟨_, hc2, mem_ext fun h7 e7 => ?_⟩⟩
          refine Coef_spec (hP.ext e7) (by omega) (fun m hm => by have := s2 m hm; omega) fun r h8 hr8 e8 => ⟨cell_keep (e7.trans e8) hc2 (by simp), mem_ext fun h9 e9 => ?_⟩
          have e69 := e7.trans (e8.trans e9)
          refine Coef_spec (hQ.ext e69) (by omega) (fun m hm => by have := s4 m hm; omega) fun r2 h10 hr10 e10 => mem_ext fun h11 e11 => ?_
          have e611 := e69.trans (e10.trans e11)
          refine MulD_spec (hk.ext (e06.trans e611)) (hr10.ext e11) (by omega) fun r3 h12 hr12 e12 => mem_ext fun h13 e13 => ?_
          refine AddD_spec ((((hr8.ext e9).ext (e10.trans e11)).ext e12).ext e13) (hr12.ext e13) (by omega) fun r4 h14 hr14 e14 => mem_ext fun h15 e15 => ?_
          exact ⟨hr14.ext e15, e611.trans (e12.trans (e13.trans (e14.trans e15)))⟩
        rintro d h7 ⟨hd, e67⟩
        have e57 := e6.trans e67
        have hz := hd.num.len_zero
        have hr7 := hr6.ext e67
        have ho7 := ho6.ext e67
        refine ⟨fun hpos => ?_, fun hnp => ?_⟩
        · simp only [gt_iff_lt, decide_eq_true_eq] at hpos
          have hf0 : f v ≠ 0 := fun h0 => by
            have : d.2.1.len = 0 := hz.2 (by rw [h0]; rfl)
            omega
          refine LD e57 fun a3 hc3 => ⟨_, hc3, ?_⟩
          refine FormQF (x := (d.1, d.2.1, d.2.2)) hd (by show szQ (coefL p.2 v + c * coefL q.2 v) ≤ 8000; omega) fun r h8 hr8 hf8 e8 => ⟨cell_keep e8 hc3 (by simp), ?_⟩
          have hx8 : RK (fun k => K0 k ∨ lst.blk = some k) h8 r (f v) := RK.fresh hr8 hf8 (fun k hk => by
            rcases hk with hk | hk
            · exact hk.elim
            · have := (ho7.lt hk).2; omega)
          refine (ho7.ext e8).push (by have := (e57.trans e8).size; omega) hx8 (by omega) fun s' h9 ho9 k9 hb9 => ?_
          refine ⟨(hr7.ext e8).push k9 hb9, _, ho9, ?_, by simp; omega, Keep.freshB (e57.trans e8) (fun b hb => (ho7.lt hb).1) k9⟩
          unfold nzc; rw [if_neg hf0]
        · simp only [gt_iff_lt, decide_eq_false_iff_not] at hnp
          have hf0 : f v = 0 := Rat.num_eq_zero.1 (by have := hz.1 (by omega); omega)
          refine ⟨hr7, out, ho7, ?_, by omega, e57⟩
          unfold nzc; rw [if_pos hf0, List.append_nil]
      · rintro ⟨u1, u2, u3, u4⟩ h7 ⟨hr7, out', ho7, hout', hol', e57⟩
        rintro _ rfl
        refine ⟨⟨n + 1, out', by simp only; rw [w64 (by omega) (by omega)]; omega, by omega, hr7, ho7, ?_, hol', e57⟩, ?_⟩
        · rw [hout', hout, htk, nzv_append, nzv_cons]; rfl
        · simp only; rw [w64 (by omega) (by omega)]; omega
    · simp only [decide_eq_false_iff_not] at hge
      have hnl : n = vs.length := by omega
      subst hnl
      rw [List.take_length, hvs] at hout
      have := ho6.mk'
      rw [hout] at this
      exact K _ h6 ⟨hr6.rq, this⟩ e06
end Go.Sh

namespace Go.Sh
open Go Go.Lift

theorem addP_eq {p q : Rat × PL} {c : Rat} (hp : Rt p) (hq : Rt q) : addP p c q = addQ p c q := by
  unfold addP addQ scP
  split
  · rename_i h0
    subst h0
    refine Prod.ext ?_ ?_
    · simp only; grind
    · simp only
      rw [← mrg_addR hp.srt hq.srt, mrg_zero (q := scL 0 q.2)]
      intro m hm
      simp only [scL, List.mem_map] at hm
      obtain ⟨m', _, rfl⟩ := hm
      simp
  · exact Prod.ext rfl (mrg_addR hp.srt hq.srt)
theorem Rt.nil {c : Rat} : Rt (c, []) := ⟨List.Pairwise.nil, fun m hm => by simp at hm, fun m hm => by simp at hm⟩
theorem Rt.sc {p : Rat × PL} {c : Rat} (hp : Rt p) (hc : c ≠ 0) : Rt (c * p.1, scL c p.2) := by
  refine ⟨srt_scL hp.srt, fun m hm => ?_, fun m hm => ?_⟩
  · simp only [scL, List.mem_map] at hm
    obtain ⟨m', hm', rfl⟩ := hm
    exact hp.nn m' hm'
  · simp only [scL, List.mem_map] at hm
    obtain ⟨m', hm', rfl⟩ := hm
    exact fun h => by
      rcases Rat.mul_eq_zero.1 h with h | h
      · exact hc h
      · exact hp.nz m' hm' h
theorem addQ_zero {q : Rat × PL} {c : Rat} (hq : Rt q) : addQ (0, []) c q = scP c q := by
  rw [← addP_eq Rt.nil hq]
  unfold addP
  refine Prod.ext ?_ ?_
  · simp only; grind
  · simp only
    refine nil_mrg ?_
    unfold scP; split
    · intro m hm; simp at hm
    · rename_i h; exact (hq.sc h).nz

theorem OfP_spec {v : Int} {K : Nat → Prop} {h : Heap} {Q : X4 → Heap → Prop} (hK : ∀ k, K k → k < h.size) (C : ∀ r h', RK K h' (cst r) 0 → MK K h' r.2.2.2 [(v, 1)] → Ext h h' → Q r h') : linear_Of v h Q := by
  refine mem_ext fun h1 e1 => OfQ (n := 1) (by decide) (by decide) fun r h2 hr hf e2 => ?_
  intro T
  have e3 : Ext h2 (h2.push (.cells [Value.int .i64 v, Value.bool r.1, Sl.toV r.2.1, Sl.toV r.2.2].toArray T (0, 0))) := Ext.push _ _
  have hrs := RS.new (toC := C4) (sz := 4) (h := h2) (cs := [Value.int .i64 v, Value.bool r.1, Sl.toV r.2.1, Sl.toV r.2.2]) (T := T) (n := 1) (xs := [((v, r.1, r.2.1, r.2.2) : Y4)]) len4 rfl rfl
  have s1 := e1.size; have s2 := e2.size
  have hr3 : RK K (h2.push (.cells [Value.int .i64 v, Value.bool r.1, Sl.toV r.2.1, Sl.toV r.2.2].toArray T (0, 0))) r 1 := by
    have : RK K h2 r ((1 : Int) : Rat) := RK.fresh hr hf fun k hk => Nat.lt_of_lt_of_le (hK k hk) s1
    simpa using this.ext e3
  refine C _ _ RK.zero ⟨Nat.le_refl _, ⟨_, hrs, .cons ⟨rfl, hr3⟩ .nil⟩, fun _ k hk hb => ?_⟩ (e1.trans (e2.trans e3))
  have := hK k hk
  simp [Sl.blk] at hb
  omega

theorem NormalP_spec {h0 h : Heap} {a : Addr} {lim : Nat} {x : X4} {p : Rat × PL} {Q : (X4 × X3) → Heap → Prop} (hv : BO h0 a lim false h) (hx : RK (· = a.block) h (cst x) p.1) (hm : MK (· = a.block) h x.2.2.2 p.2) (hr : Rt p) (hl : p.2.length ≤ 1000) (hs : ∀ m ∈ p.2, szQ m.2 ≤ 40)
    (hlim : ∀ k, p.2.head? = some k → szQ (1 / k.2) ≤ lim ∧ fitsP lim (0, scL (1 / k.2) p.2) = true)
    (C1 : p.2 = [] → ∀ h', Ext h h' → Q ((false, Sl.nil, Sl.nil, Sl.nil), (false, Sl.nil, Sl.nil)) h')
    (C2 : ∀ m ms, p.2 = m :: ms → ∀ r k h', BO h0 a lim false h' → Keep (some a.block) h h' → RK (· = a.block) h' (cst r) 0 → MK (· = a.block) h' r.2.2.2 (scL (1 / m.2) p.2) → RK (· = a.block) h' k m.2 → Q (r, k) h') : linear_Normal (some a) x h Q := by
  have hlen := hm.len
  refine mem_ext fun h1 e1 => ⟨fun hz => ?_, fun hz => ?_⟩
  · simp only [beq_iff_eq] at hz
    exact C1 (List.eq_nil_of_length_eq_zero (by omega)) h1 e1
  · obtain ⟨m, ms, hp⟩ : ∃ m ms, p.2 = m :: ms := by
      cases hpp : p.2 with
      | nil => rw [hpp] at hlen; simp [hlen] at hz
      | cons m ms => exact ⟨m, ms, rfl⟩
    obtain ⟨f1, f2⟩ := hlim m (by rw [hp]; rfl)
    have hm0 : m.2 ≠ 0 := hr.nz m (by rw [hp]; simp)
    have hms := hs m (by rw [hp]; simp)
    have hd := sz_div 1 m.2 hm0
    have one2 : szQ (1 : Rat) ≤ 2 := by have := sz_int (n := 1) (by decide); simpa using this
    have v1 := hv.of_ext e1
    refine (hm.ext e1).at (j := 0) rfl (by rw [hp]; simp) fun a1 y hy hv1 hr1 => ⟨co y, ld_co hy, mem_ext fun h2 e2 => ?_⟩
    have hr1' : RK (· = a.block) h1 (co y) m.2 := by have : p.2[0]'(by rw [hp]; simp) = m := by simp [hp]
                                                     rw [this] at hr1; exact hr1
    have v2 := v1.of_ext e2
    have e02 := e1.trans e2
    have hi0 : (1 : Rat) / m.2 ≠ 0 := by
      intro h
      have : (1 : Rat) / m.2 * m.2 = 1 := Rat.div_mul_cancel hm0
      rw [h] at this; grind
    refine seq.cut (fun t h3 => BO h0 a lim false h3 ∧ Keep (some a.block) h2 h3 ∧ RK (· = a.block) h3 (cst t) 0 ∧ MK (· = a.block) h3 t.2.2.2 (scL (1 / m.2) p.2)) ?_ ?_
    · refine mem_ext fun h3 e3 => OfQ (n := 1) (by decide) (by decide) fun o h4 ho fo e4 => mem_ext fun h5 e5 => ?_
      have e25 := e3.trans (e4.trans e5)
      have v5 := v2.of_ext e25
      have ho5 : RQ h5 o 1 := by have := ho.ext e5; simpa using this
      refine DivQ_spec v5.tb v5.bench ho5 (((hr1'.ext e2).ext e25).rq) (by omega) (fun h => absurd h hm0) fun _ r h6 hb6 k6 hr6 hf6 => mem_ext fun h7 e7 => ?_
      have hfit : (false || decide (lim < szQ (1 / m.2))) = false := by simp; omega
      rw [hfit] at hb6 hr6
      have v7 := (v5.keep hb6 k6).of_ext e7
      have k27 : Keep (some a.block) h2 h7 := (Keep.of_ext e25).trans (k6.trans (Keep.of_ext e7))
      rw [val'_false] at hr6
      have hr7 : RK (· = a.block) h7 r (1 / m.2) := (RK.fresh (K := (· = a.block)) hr6.rq hf6 (fun k (hk : k = a.block) => hk ▸ v5.lt)).ext e7
      have hm7 := (hm.ext e02).keep k27 (fun k hk => by cases hk; rfl)
      refine Scale_spec (x := (false, Sl.nil, Sl.nil, x.2.2.2)) (c0 := 0) v7 hr7 RK.zero hm7 (by omega) (by rw [sz_zero]; omega) (fun m hm => by have := hs m hm; omega) hl fun w h8 v8 k8 hw hwm => mem_ext fun h9 e9 => ?_
      have hsc : scP (1 / m.2) (0, p.2) = (0, scL (1 / m.2) p.2) := by
        unfold scP; rw [if_neg hi0]; simp
      have hof : (false || !fitsP lim (scP (1 / m.2) (0, p.2))) = false := by rw [hsc, f2]; rfl
      rw [hof] at v8 hw hwm
      rw [hsc] at hw hwm
      exact ⟨v8.of_ext e9, k27.trans (k8.trans (Keep.of_ext e9)), hw.ext e9, hwm.ext e9⟩
    · rintro t h3 ⟨v3, k3, ht, htm⟩
      refine Over_spec v3.bench ⟨nofun, fun _ => ?_⟩
      exact C2 m ms hp _ _ h3 v3 ((Keep.of_ext e02).trans k3) ht htm ((hr1'.ext e2).keep k3 (fun k hk => by cases hk; rfl))

theorem speaks12uspec {h : Heap} {Q : Bool → Heap → Prop} (ht : Tab h) (K : ∀ h', Ext h h' → Q true h') : law12uspeaks h Q := by
  have i2 : ∀ {n : Int}, n.natAbs < 18446744073709551616 → szQ (n : Rat) ≤ 2 := fun h => sz_int h
  have s3 : szQ (3 : Rat) ≤ 2 := by have := i2 (n := 3) (by decide); simpa using this
  have s2 : szQ (2 : Rat) ≤ 2 := by have := i2 (n := 2) (by decide); simpa using this
  have s1 : szQ (1 : Rat) ≤ 2 := by have := i2 (n := 1) (by decide); simpa using this
  have sm : szQ (-1 : Rat) ≤ 2 := by have := i2 (n := -1) (by decide); simpa using this
  have hqn : (-1 / 2 : Rat).num = -1 := by decide +kernel
  have hqd : (-1 / 2 : Rat).den = 2 := by decide +kernel
  have n1 : nl 1 = 1 := nl_one
  have n2 : nl 2 = 1 := by rw [nl_pos (by decide)]; simp [nl_zero]
  have hhn : (1 / 2 : Rat).num = 1 := by decide +kernel
  have hhd : (1 / 2 : Rat).den = 2 := by decide +kernel
  have sh : szQ (1 / 2 : Rat) ≤ 2 := by
    unfold szQ dn; rw [hhn, hhd, if_neg (by decide)]
    show max (nl 1) (nl 2) ≤ 2
    rw [n1, n2]; decide
  have smh : szQ (-1 / 2 : Rat) ≤ 2 := by
    unfold szQ dn; rw [hqn, hqd, if_neg (by decide)]
    show max (nl 1) (nl 2) ≤ 2
    rw [n1, n2]; decide
  refine New_spec fun a h1 hb1 hab e1 => ?_
  have v1 : BO h a 2 false h1 := ⟨ht, hb1, e1, Nat.le_of_eq hab.symm⟩
  refine OfQ (n := 3) (by decide) (by decide) fun r1 h2 hr1 f1 e2 => OfQ (n := 2) (by decide) (by decide) fun r2 h3 hr2 f2 e3 => ?_
  have v2 := v1.of_ext e2
  have v3 := v2.of_ext e3
  refine OfP_spec (K := (· = a.block)) (fun k hk => hk ▸ v3.lt) fun o1 h4 ho1 hm1 e4 => ?_
  have v4 := v3.of_ext e4
  have R1 : RK (· = a.block) h4 r1 3 := by
    have := (((RK.fresh (K := (· = a.block)) hr1 f1 (fun k hk => hk ▸ v1.lt)).ext e3).ext e4)
    simpa using this
  have R2 : RK (· = a.block) h4 r2 2 := by
    have := ((RK.fresh (K := (· = a.block)) hr2 f2 (fun k hk => hk ▸ v2.lt)).ext e4)
    simpa using this
  refine AddP_spec (x := (r1.1, r1.2.1, r1.2.2, Sl.nil)) (y := o1) (p := (3, [])) (q := (0, [(0, 1)])) (c := 2) v4 R2 R1 MK.nil ho1 hm1 (by omega) (by simp only; omega) (fun m hm => by simp at hm) (by rw [sz_zero]; omega) (fun m hm => by simp at hm; subst hm; simp only; omega) (by simp) (by simp) fun w h5 ov5 v5 k5 hov hw hwm => ?_
  have a1 : addP (3, []) 2 (0, [(0, 1)]) = (3, [(0, 2)]) := by decide +kernel
  have a1' : scP 2 (0, [(0, 1)]) = (0, [(0, 2)]) := by decide +kernel
  rw [a1, a1'] at hov
  rw [a1] at hw hwm
  have hov5 : ov5 = false := by
    cases hh : ov5 with
    | false => rfl
    | true =>
      exfalso
      rcases hov hh with h | h | h
      · cases h
      · simp [fitsP, sz_zero] at h; omega
      · simp [fitsP] at h; omega
  subst hov5
  refine mem_ext fun h6 e6 => ?_
  have v6 := v5.of_ext e6
  refine seq.cut (fun t h7 => MK K0 h7 t.2.2.2.1 [(0, 1), (1, -1 / 2)] ∧ RQ h7 t.2.2.2.2 2 ∧ Ext h h7) ?_ ?_
  · refine mem_ext fun h7 e7 => OfQ (n := -1) (by decide) (by decide) fun r8 h8 hr8 f8 e8 => mem_ext fun h9 e9 => ?_
    have v7 := v6.of_ext e7
    have v9 := (v7.of_ext e8).of_ext e9
    refine OfP_spec (K := (· = a.block)) (fun k hk => hk ▸ v9.lt) fun o2 h10 ho2 hm2 e10 => mem_ext fun h11 e11 => ?_
    have v11 := (v9.of_ext e10).of_ext e11
    have e611 := e7.trans (e8.trans (e9.trans (e10.trans e11)))
    have R8 : RK (· = a.block) h11 r8 (-1) := by
      have := ((((RK.fresh (K := (· = a.block)) hr8 f8 (fun k hk => hk ▸ v7.lt)).ext e9).ext e10).ext e11)
      simpa using this
    refine AddP_spec (x := w) (y := o2) (p := (3, [(0, 2)])) (q := (0, [(1, 1)])) (c := -1) v11 R8 ((hw.ext e6).ext e611) ((hwm.ext e6).ext e611) (ho2.ext e11) (hm2.ext e11) (by omega) (by simp only; omega) (fun m hm => by simp at hm; subst hm; simp only; omega) (by rw [sz_zero]; omega) (fun m hm => by simp at hm; subst hm; simp only; omega) (by simp) (by simp) fun w2 h12 ov12 v12 k12 hov12 hw2 hwm2 => mem_ext fun h13 e13 => ?_
    have a2 : addP (3, [(0, 2)]) (-1) (0, [(1, 1)]) = (3, [(0, 2), (1, -1)]) := by decide +kernel
    have a2' : scP (-1) (0, [(1, 1)]) = (0, [(1, -1)]) := by decide +kernel
    rw [a2, a2'] at hov12
    rw [a2] at hw2 hwm2
    have hov12' : ov12 = false := by
      cases hh : ov12 with
      | false => rfl
      | true =>
        exfalso
        rcases hov12 hh with h | h | h
        · cases h
        · simp [fitsP, sz_zero] at h; omega
        · simp [fitsP] at h; omega
    subst hov12'
    have v13 := v12.of_ext e13
    have hsc : scL (1 / (2 : Rat)) [(0, 2), (1, -1)] = [(0, 1), (1, -1 / 2)] := by decide +kernel
    refine NormalP_spec (x := w2) (p := (3, [(0, 2), (1, -1)])) v13 (hw2.ext e13) (hwm2.ext e13) ⟨by simp [Srt], fun m hm => ?_, fun m hm => ?_⟩ (by simp) (fun m hm => ?_) (fun k hk => ?_) nofun fun m ms hmm r k h14 v14 k14 hr14 hm14 hk14 => mem_ext fun h15 e15 => ?_
    · simp at hm; rcases hm with rfl | rfl <;> decide
    · simp at hm; rcases hm with rfl | rfl <;> decide +kernel
    · simp at hm; rcases hm with rfl | rfl <;> (simp only; omega)
    · simp at hk; subst hk
      refine ⟨by simp only; exact sh, ?_⟩
      simp only
      rw [hsc]
      simp [fitsP, sz_zero]; omega
    · cases hmm
      simp only at hm14 hk14
      rw [hsc] at hm14
      exact ⟨hm14.k0.ext e15, hk14.rq.ext e15, v14.ext.trans e15⟩
  · rintro t h7 ⟨tm, tk, e7⟩
    have tlen := tm.len
    refine seq.cut (fun b h8 => b = true ∧ Ext h7 h8) ?_ ?_
    · refine ⟨fun _ => ?_, fun hn => by simp [tlen] at hn⟩
      refine tm.at (j := 1) rfl (by simp) fun a1 y hy hv1 hr1 => ⟨co y, ld_co hy, ?_⟩
      have hr1' : RQ h7 (co y) (-1 / 2) := hr1.rq
      refine TextQ_spec hr1' (by omega) fun h8 e8 => ?_
      have d1 : dg 1 = [1] := (dg_eq (by intro z hz; simp at hz; omega) (by simp [Nrm]) (by decide)).symm
      have d2 : dg 2 = [2] := (dg_eq (by intro z hz; simp at hz; omega) (by simp [Nrm]) (by decide)).symm
      have htxt : tQ (-1 / 2) = ByteArray.mk #[45, 49, 47, 50] := by
        unfold tQ tN
        rw [hqn, hqd]
        show (if (-1 : Int) < 0 then ByteArray.mk #[45] ++ bytesOf (strDig (dg 1)) else _) ++ (if 2 = 1 then _ else ByteArray.mk #[47] ++ bytesOf (strDig (dg 2))) = _
        rw [d1, d2]; rfl
      rw [htxt]
      refine ⟨fun _ => ?_, fun hn => by simp at hn⟩
      refine TextQ_spec (tk.ext e8) (by omega) fun h9 e9 => ⟨?_, e8.trans e9⟩
      have htx2 : tQ 2 = ByteArray.mk #[50] := by
        unfold tQ tN
        have h1 : (2 : Rat).num = 2 := by decide +kernel
        have h2 : (2 : Rat).den = 1 := by decide +kernel
        rw [h1, h2]
        show (if (2 : Int) < 0 then _ else bytesOf (strDig (dg 2))) ++ (if 1 = 1 then ByteArray.empty else _) = _
        rw [d2]; rfl
      rw [htx2]; simp
    · rintro b h8 ⟨rfl, e8⟩
      exact K h8 (e7.trans e8)
end Go.Sh

namespace Go.Sh
open Go Go.Lift

theorem len4x (x : X4) : (C_bool_sl_sl_sl x).length = 4 := rfl
theorem Raw4.ofK {h : Heap} {k : X3} (hk : RawB h k) : Raw4 h (k.1, k.2.1, k.2.2, Sl.nil) := ⟨hk, [], RS.nil rfl, fun y hy => by simp at hy, Nat.le_refl _⟩
theorem PQ.rk {h0 h : Heap} {a : Addr} {x : X4} {p : Rat × PL} (hp : PQ h0 x p) (e : Ext h0 h) (ha : h0.size ≤ a.block) : RK (· = a.block) h (cst x) p.1 ∧ MK (· = a.block) h x.2.2.2 p.2 :=
  ⟨(RK.of_rq (K := (· = a.block)) hp.c fun k (hk : k = a.block) => hk ▸ ha).ext e, (hp.m.raise (K' := (· = a.block)) fun k (hk : k = a.block) => .inr (hk ▸ ha)).ext e⟩
theorem RQ.rk {h0 h : Heap} {a : Addr} {x : X3} {q : Rat} (hp : RQ h0 x q) (e : Ext h0 h) (ha : h0.size ≤ a.block) : RK (· = a.block) h x q :=
  (RK.of_rq (K := (· = a.block)) hp fun k (hk : k = a.block) => hk ▸ ha).ext e
theorem addR_len {p q : PL} {c : Rat} : (addR p c q).length ≤ p.length + q.length := by
  unfold addR nzv
  refine Nat.le_trans (List.length_filterMap_le _ _) ?_
  induction p, q using mvs.induct with
  | case1 => simp [mvs]
  | case2 a as ih => rw [mvs_cn]; simp at ih ⊢; omega
  | case3 b bs ih => rw [mvs_nc]; simp at ih ⊢; omega
  | case4 a as b bs h1 ih1 ih2 =>
    rw [mvs_cc, if_pos h1]
    split
    · simp at ih1 ⊢; omega
    · simp at ih2 ⊢; omega
  | case5 a as b bs h1 ih => rw [mvs_cc, if_neg h1]; simp at ih ⊢; omega

theorem PQ.raw {h : Heap} {x : X4} {p : Rat × PL} (hp : PQ h x p) (s1 : szQ p.1 ≤ 1000) (s2 : ∀ m ∈ p.2, szQ m.2 ≤ 1000) : Raw4 h x := by
  have rb : ∀ {x : X3} {q : Rat}, RQ h x q → szQ q ≤ 1000 → RawB h x := fun {x q} hq hs => by
    obtain ⟨xs, ys, hX, _, _, l1, l2⟩ := hq.xr
    have := nl_num_le q; have := nl_dn_le q
    exact ⟨xs, ys, hX, by omega, by omega⟩
  obtain ⟨ys, hr, ha⟩ := hp.m.row
  refine ⟨rb hp.c s1, ys, hr, fun y hy => ?_, hp.m.cap⟩
  obtain ⟨n, hn, rfl⟩ := List.getElem_of_mem hy
  have hl := ha.length
  exact rb (ha.get n hn (by omega)).2.rq (s2 _ (List.getElem_mem _))

end Go.Sh

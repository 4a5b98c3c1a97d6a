/-
  Laws that the proof of this claim's statement leans on, each proved under the conditions that it states.
-/
import Derived.Test.YtlclchgingkkhaaGreatDoorSpW
import Derived.Test.YtlclchgingkkhaaGreatDoorSpE
set_option linter.unusedVariables false
set_option linter.unusedSimpArgs false


namespace Go.Sh
open Go Go.Lift
section
variable {h0 h : Heap} {a : Addr} {lim : Nat} {ov : Bool} {K : Nat → Prop}
theorem nM (hKa : K a.block) (hK : ∀ k, K k → k < h.size) {k : X3} {c : Rat} {x : X4} {c0 : Rat} {ms : PL} {Q : X4 → Heap → Prop} (hv : BO h0 a lim ov h) (hk : RK K h k c) (hc : RK K h (cst x) c0) (hm : MK K h x.2.2.2 ms)
    (s1 : szQ c ≤ 100) (s2 : szQ c0 ≤ 100) (s3 : ∀ m ∈ ms, szQ m.2 ≤ 100) (hl : ms.length ≤ 1000)
    (C : ∀ r h', BO h0 a lim (ov || !bg lim (scP c (c0, ms))) h' → Keep (some a.block) h h' → RK K h' (cst r) (valP (ov || !bg lim (scP c (c0, ms))) (scP c (c0, ms))).1 →
      MK K h' r.2.2.2 (valP (ov || !bg lim (scP c (c0, ms))) (scP c (c0, ms))).2 → Q r h') : dY (some a) k x h Q := by
  have hlen := hm.len
  refine abq fun b1 h1 hb1 hbb _ _ e1 _ => ?_
  refine aai fun k1 h2 hk1 hkb e2 => ae fun h3 e3 => ?_
  have e13 := e2.trans e3
  have e03 := e1.trans e13
  have hb3 := ag e13 hb1 (by simp)
  have hk3 : cells? h3 k1 3 0 = some (aA k) := cx e3 hk1
  have v3 := hv.of_ext e03
  refine ⟨k, hk3, cY (hk.ext e03).rq fun h4 e4 => ⟨fun hz => ?_, fun hz => ?_⟩⟩
  · have hc0 : c = 0 := by simpa using hz
    subst hc0
    have e := e03.trans e4
    have hfit : (ov || !bg lim (scP 0 (c0, ms))) = ov := by simp [scP, bg, bP]
    refine C _ h4 (by rw [hfit]; exact hv.of_ext e) (Keep.of_ext e) ?_ ?_
    · have : (valP (ov || !bg lim (scP 0 (c0, ms))) (scP 0 (c0, ms))).1 = 0 := by unfold valP scP; rw [if_pos rfl]; split <;> rfl
      rw [this]; exact RK.zero
    · have : (valP (ov || !bg lim (scP 0 (c0, ms))) (scP 0 (c0, ms))).2 = [] := by unfold valP scP; rw [if_pos rfl]; split <;> rfl
      rw [this]; exact MK.nil
  · have hc0 : c ≠ 0 := by simpa using hz
    have v4 := v3.of_ext e4
    have e04 := e03.trans e4
    have hb4 := ag e4 hb3 (by simp)
    have hk4 := cx e4 hk3
    have hbs : b1.block < h4.size := bV hb4
    have hks : k1.block < h4.size := by
      have := cells?_get _ _ _ hk4 0 (by simp [aA])
      have := bV this
      rwa [af] at this
    have hba : b1.block ≠ a.block := by have := hv.lt; omega
    have hka : k1.block ≠ a.block := by have := hv.lt; have := e1.size; omega
    have hsc : scP c (c0, ms) = (c * c0, scL c ms) := by unfold scP; rw [if_neg hc0]
    refine od (K := K) v4 hb4 hk4 (hk.ext e04).rq (hc.ext e04).rq (by omega) (fun k hk => Nat.lt_of_lt_of_le (hK k hk) e04.size) fun r h5 v5 k5 hr5 => ae fun h6 e6 => ?_
    have v6 := v5.of_ext e6
    generalize hov1 : (ov || decide (lim < szQ (c * c0))) = ov1 at *
    have k46 : Keep (some a.block) h4 h6 := k5.trans (Keep.of_ext e6)
    have s46 := k46.size
    refine loop.inv (fun t h' => ∃ (j : Nat) (oj : Bool) (out : PL), t.1 = (j : Int) ∧ j ≤ ms.length ∧ BO h0 a lim oj h' ∧ Keep (some a.block) h4 h' ∧ RK (fun k => K k ∨ t.2.2.2.2.blk = some k) h' (t.2.1, t.2.2.1, t.2.2.2.1) (val' ov1 (c * c0)) ∧
      OM K h4.size h' t.2.2.2.2 out ∧ oj = (ov1 || (ms.take j).any fun m => decide (lim < szQ (c * m.2))) ∧ out.length = j ∧ (oj = false → out = scL c (ms.take j))) (fun t _ => ms.length - t.1.toNat)
      ⟨0, ov1, [], rfl, by omega, v6, k46, (hr5.ext e6).raise (fun k hk => by rcases hk with hk | hk; exact .inl hk; cases hk), OM.nil (fun k hk => Nat.lt_of_lt_of_le (hK k hk) e04.size), by simp, rfl, fun _ => rfl⟩ ?_
    rintro ⟨i, w1, w2, w3, lst⟩ h7 ⟨j, oj, out, rfl, hj, v7, k7, hr7, ho7, hoj, hol, hout⟩
    simp only at hr7 ho7
    have s47 := k7.size
    refine ⟨fun hlt => ?_, fun hge => ?_⟩
    · simp only [decide_eq_true_eq] at hlt
      have hj' : j < ms.length := by omega
      refine (((hm.ext e04).keep k7 (fun k hk => by cases hk; exact hKa))).at (i := (j : Int)) (j := j) rfl hj' fun a1 y hy hy1 hy2 => ⟨y, hy, ae fun h8 e8 => ?_⟩
      have hms := s3 ms[j] (List.getElem_mem hj')
      have v8 := v7.of_ext e8
      have htk : ms.take (j + 1) = ms.take j ++ [ms[j]] := by rw [List.take_succ_eq_append_getElem hj']
      have b8 := ag e8 (ag k7 hb4 (by simpa using hba)) (by simp)
      have k8 := cx e8 (ce k7 (by simpa using hka) hk4)
      generalize ms[j] = m at *
      have hkq := (((hk.ext e04).keep k7 (fun k hk => by cases hk; exact hKa)).ext e8).rq
      refine od (K := fun k => K k ∨ lst.blk = some k) v8 b8 k8 hkq (hy2.ext e8).rq (by omega) (fun k hk => ?_) fun r h9 v9 k9 hr9 => ?_
      · rcases hk with hk | hk
        · have := hK k hk; have := e04.size; have := e8.size; omega
        · have := (ho7.lt hk).2; have := e8.size; omega
      have s89 := k9.size
      have k79 : Keep (some a.block) h7 h9 := (Keep.of_ext e8).trans k9
      have ho9 := ho7.keep k79 (fun k hk => by cases hk; exact hKa)
      refine ho9.push (v := y.1) (by have := e8.size; omega) hr9 (by omega) fun s' h10 ho10 k10 hb10 => ?_
      have hr9' := (hr7.keep k79 (fun k hk => by cases hk; exact .inl hKa))
      have hlb : ∀ b, lst.blk = some b → h0.size ≤ b ∧ b ≠ a.block := fun b hb => by
        have := (ho7.lt hb).1; have := hv.ext.size; have := v4.lt; have := e04.size; omega
      have k410 : Keep (some a.block) h4 h10 := by
        refine Keep.freshB (k7.trans k79) ?_ k10
        intro b hb; exact (ho7.lt hb).1
      refine ⟨⟨j + 1, _, _, by rw [w64 (by omega) (by omega)]; omega, by omega, v9.fresh k10 hlb, k410, hr9'.push k10 hb10, ho10, ?_, by simp [hol], fun hf => ?_⟩, ?_⟩
      · rw [hoj, htk, List.any_append]; simp [Bool.or_assoc]
      · simp only [Bool.or_eq_false_iff] at hf
        rw [hout hf.1, htk, hf.1, hf.2]
        simp [scL, hy1, cK]
      · simp only; rw [w64 (by omega) (by omega)]; omega
    · simp only [decide_eq_false_iff_not] at hge
      have hjl : j = ms.length := by omega
      subst hjl
      rw [List.take_length] at hoj hout
      have hb7 := ag k7 hb4 (by simpa using hba)
      refine ⟨_, hb7, ?_⟩
      have hfit : (ov || !bg lim (scP c (c0, ms))) = oj := by
        rw [hoj, ← hov1, hsc]
        unfold bg scL
        rw [Bool.not_and, List.not_all_eq_any_not, List.any_map, Bool.or_assoc]
        congr 1
        congr 1
        · by_cases h : szQ (c * c0) ≤ lim <;> simp [h] <;> omega
        · congr 1; funext m
          by_cases h : szQ (c * m.2) ≤ lim <;> simp [h] <;> omega
      have kk : Keep (some a.block) h h7 := (Keep.of_ext e04).trans k7
      rw [hfit] at C
      refine sw v7 (fun hot h8 e8 => ?_) (fun hof h8 e8 => ?_)
      · refine C _ h8 (v7.of_ext e8) (kk.trans (Keep.of_ext e8)) ?_ ?_
        · rw [hot]; exact RK.zero
        · rw [hot]; exact MK.nil
      · have h1f : ov1 = false := by rw [hoj] at hof; simp only [Bool.or_eq_false_iff] at hof; exact hof.1
        refine C _ h8 (v7.of_ext e8) (kk.trans (Keep.of_ext e8)) ?_ ?_
        · rw [hof, hsc]
          rw [h1f, cK] at hr7
          exact (hr7.raise fun k hk => .inl (.inl hk)).ext e8
        · rw [hof, hsc]
          have := ho7.mk'
          rw [hout hof] at this
          exact this.ext e8
theorem px (hKa : K a.block) (hK : ∀ k, K k → k < h.size) {k : X3} {c : Rat} {x y : X4} {p q : Rat × PL} {Q : X4 → Heap → Prop} (hv : BO h0 a lim ov h) (hk : RK K h k c) (hx : RK K h (cst x) p.1) (hxm : MK K h x.2.2.2 p.2)
    (hy : RK K h (cst y) q.1) (hym : MK K h y.2.2.2 q.2) (sc : szQ c ≤ 90) (s1 : szQ p.1 ≤ 1500) (s2 : ∀ m ∈ p.2, szQ m.2 ≤ 1500) (s3 : szQ q.1 ≤ 90) (s4 : ∀ m ∈ q.2, szQ m.2 ≤ 90) (hl1 : p.2.length ≤ 1000) (hl2 : q.2.length ≤ 1000) (pf : ∀ m ∈ p.2, szQ m.2 ≤ lim)
    (C : ∀ r h' ov', BO h0 a lim ov' h' → Keep (some a.block) h h' → (ov' = true → ov = true ∨ bg lim (scP c q) = false ∨ bg lim (addP p c q) = false) → (ov' = false → ov = false ∧ bg lim (scP c q) = true ∧ bg lim (addP p c q) = true) →
      RK K h' (cst r) (valP ov' (addP p c q)).1 → MK K h' r.2.2.2 (valP ov' (addP p c q)).2 → Q r h') : gU (some a) x k y h Q := by
  refine ae fun h1 e1 => ?_
  refine nM (K := K) hKa (fun k hk => Nat.lt_of_lt_of_le (hK k hk) e1.size) (hv.of_ext e1) (hk.ext e1) (hy.ext e1) (hym.ext e1) (by omega) (by omega) (fun m hm => by have := s4 m hm; omega) hl2 fun w h2 v2 k2 hw hwm => ?_
  generalize hov1 : (ov || !bg lim (scP c (q.1, q.2))) = ov1 at *
  have k02 : Keep (some a.block) h h2 := (Keep.of_ext e1).trans k2
  have hx2 := hx.keep k02 (fun k hk => by cases hk; exact hKa)
  have hxm2 := hxm.keep k02 (fun k hk => by cases hk; exact hKa)
  obtain ⟨z1, z2⟩ := adg (p := (q.1, q.2)) sc s3 s4
  obtain ⟨z3, z4⟩ := ack (o := ov1) z1 z2
  have hlq : (valP ov1 (scP c (q.1, q.2))).2.length ≤ 1000 := by
    unfold valP; split
    · simp
    · have := uL (c := c) (p := (q.1, q.2)); simp only at this; omega
  have hval : ov1 = false → valP ov1 (scP c (q.1, q.2)) = scP c q := fun h => by rw [h]; rfl
  have hov1b : ov1 = false → ov = false ∧ bg lim (scP c q) = true := fun h => by
    rw [← hov1] at h
    simp only [Bool.or_eq_false_iff, Bool.not_eq_false'] at h
    exact h
  have qf : ∀ m ∈ (valP ov1 (scP c (q.1, q.2))).2, szQ m.2 ≤ lim := fun m hm => by
    cases ho : ov1 with
    | true => rw [ho] at hm; simp [valP] at hm
    | false =>
      rw [hval ho] at hm
      have := (hov1b ho).2
      unfold bg at this
      rw [Bool.and_eq_true, List.all_eq_true] at this
      exact of_decide_eq_true (this.2 m hm)
  generalize hqv : valP ov1 (scP c (q.1, q.2)) = qv at *
  refine iU v2.tb v2.bench hx2.rq hw.rq (by omega) fun cc h3 hb3 k3 hcc hcf => ae fun h4 e4 => ?_
  have v4 := (v2.keep hb3 k3).of_ext e4
  have k24 : Keep (some a.block) h2 h4 := k3.trans (Keep.of_ext e4)
  have k04 := k02.trans k24
  have hcc4 : RK K h4 cc (val' (ov1 || decide (lim < szQ (p.1 + qv.1))) (p.1 + qv.1)) := (RK.fresh hcc.rq hcf (fun k hk => Nat.lt_of_lt_of_le (hK k hk) k02.size)).ext e4
  generalize hov2 : (ov1 || decide (lim < szQ (p.1 + qv.1))) = ov2 at *
  have hxm4 := hxm2.keep k24 (fun k hk => by cases hk; exact hKa)
  have hwm4 := hwm.keep k24 (fun k hk => by cases hk; exact hKa)
  have hnil : ∀ k, (K k ∨ (Sl.nil).blk = some k) → K k ∨ h4.size ≤ k := fun k hk => by rcases hk with hk | hk; exact .inl hk; cases hk
  refine loop.inv (fun t h' => ∃ (L R out : PL) (oj : Bool), BO h0 a lim oj h' ∧ Keep (some a.block) h4 h' ∧ MK (fun k => K k ∨ t.2.2.2.2.2.blk = some k) h' t.1 L ∧ MK (fun k => K k ∨ t.2.2.2.2.2.blk = some k) h' t.2.1 R ∧
      RK (fun k => K k ∨ t.2.2.2.2.2.blk = some k) h' (t.2.2.1, t.2.2.2.1, t.2.2.2.2.1) (val' ov2 (p.1 + qv.1)) ∧ OM K h4.size h' t.2.2.2.2.2 out ∧
      (oj = true → ov2 = true ∨ ∃ m ∈ mrg p.2 qv.2, lim < szQ m.2) ∧ (ov2 = true → oj = true) ∧ (∀ m ∈ L, szQ m.2 ≤ 1500) ∧ (∀ m ∈ R, szQ m.2 ≤ 190) ∧ (∃ pre : PL, pre ++ mrg L R = mrg p.2 qv.2 ∧ (oj = false → pre = out)) ∧
      out.length + L.length + R.length ≤ 2000 ∧ (∀ m ∈ L, szQ m.2 ≤ lim) ∧ (∀ m ∈ R, szQ m.2 ≤ lim) ∧ (oj = false → ∀ m ∈ out, szQ m.2 ≤ lim))
      (fun t _ => t.1.len + t.2.1.len)
      ⟨p.2, qv.2, [], ov2, v4, Keep.refl _ _, hxm4.raise hnil, hwm4.raise hnil, hcc4.raise hnil, OM.nil (fun k hk => Nat.lt_of_lt_of_le (hK k hk) k04.size), fun h => .inl h, id, s2, fun m hm => by have := z4 m hm; omega, ⟨[], rfl, fun _ => rfl⟩, by simp; omega, pf, qf, fun _ m hm => by simp at hm⟩ ?_
  rintro ⟨l, r, w1, w2, w3, out⟩ h5 ⟨L, R, om, oj, v5, k5, hl5, hr5, hc5, ho5, hoj, hoj2, b1, b2, ⟨pre, hpre, hpo⟩, htot, f1, f2, f3⟩
  simp only at hl5 hr5 hc5 ho5
  have lenL := hl5.len
  have lenR := hr5.len
  refine seq.cut (fun t h6 => t = decide (0 < L.length ∨ 0 < R.length) ∧ h6 = h5) ?_ ?_
  · refine ⟨fun hg => ⟨?_, rfl⟩, fun hg => ⟨?_, rfl⟩⟩
    · simp only [gt_iff_lt, decide_eq_true_eq] at hg
      symm; rw [decide_eq_true_eq]; left; omega
    · simp only [gt_iff_lt, decide_eq_false_iff_not] at hg
      rw [decide_eq_decide]
      constructor
      · intro h; right; simp only [gt_iff_lt] at h; omega
      · intro h; simp only [gt_iff_lt]; omega
  rintro t h6 ⟨rfl, rfl⟩
  refine ⟨fun hg => ?_, fun hg => ?_⟩
  · simp only [decide_eq_true_eq] at hg
    refine ae fun h6' e6 => ?_
    have v6 := v5.of_ext e6
    have hl6 := hl5.ext e6
    have hr6 := hr5.ext e6
    refine seq.cut (fun t h7 => ∃ (L' R' : PL) (u : Rat) (oj' : Bool), BO h0 a lim oj' h7 ∧ Keep (some a.block) h6' h7 ∧ MK (fun k => K k ∨ out.blk = some k) h7 t.1 L' ∧ MK (fun k => K k ∨ out.blk = some k) h7 t.2.1 R' ∧
        RK (fun k => K k ∨ out.blk = some k) h7 (t.2.2.2.1, t.2.2.2.2.1, t.2.2.2.2.2) u ∧ (oj' = true → oj = true ∨ ∃ m ∈ mrg L R, lim < szQ m.2) ∧ (oj = true → oj' = true) ∧ (∀ m ∈ L', szQ m.2 ≤ 1500) ∧ (∀ m ∈ R', szQ m.2 ≤ 190) ∧
        (∃ u', mrg L R = nzc (t.2.2.1, u') (mrg L' R') ∧ (oj' = false → u' = u)) ∧ L'.length + R'.length < L.length + R.length ∧ (∀ m ∈ L', szQ m.2 ≤ lim) ∧ (∀ m ∈ R', szQ m.2 ≤ lim) ∧ (oj' = false → szQ u ≤ lim)) ?_ ?_
    · refine seq.cut (fun t h7 => (t = true ↔ ∃ m L', L = m :: L' ∧ (R = [] ∨ ∃ n R', R = n :: R' ∧ m.1 < n.1)) ∧ h7 = h6') ?_ ?_
      · refine ⟨fun hz => ⟨?_, rfl⟩, fun hz => ?_⟩
        · simp only [beq_iff_eq] at hz
          have hR : R = [] := List.eq_nil_of_length_eq_zero (by omega)
          subst hR
          refine ⟨fun _ => ?_, fun _ => rfl⟩
          cases L with
          | nil => simp at hg
          | cons m L' => exact ⟨m, L', rfl, .inl rfl⟩
        · have hR : R ≠ [] := by rintro rfl; simp at lenR; simp [lenR] at hz
          refine ⟨fun hg2 => ?_, fun hg2 => ⟨?_, rfl⟩⟩
          · simp only [gt_iff_lt, decide_eq_true_eq] at hg2
            obtain ⟨n, R', rfl⟩ : ∃ n R', R = n :: R' := by cases R with | nil => exact absurd rfl hR | cons n R' => exact ⟨n, R', rfl⟩
            obtain ⟨m, L', rfl⟩ : ∃ m L', L = m :: L' := by cases L with | nil => (simp at lenL; omega) | cons m L' => exact ⟨m, L', rfl⟩
            refine hl6.at (j := 0) rfl (by simp) fun a1 y1 hy1 hv1 _ => ⟨_, dX hy1, hr6.at (j := 0) rfl (by simp) fun a2 y2 hy2 hv2 _ => ⟨_, dX hy2, ?_, rfl⟩⟩
            simp only [List.getElem_cons_zero] at hv1 hv2
            rw [hv1, hv2, decide_eq_true_eq]
            constructor
            · intro h; exact ⟨m, L', rfl, .inr ⟨n, R', rfl, h⟩⟩
            · rintro ⟨m', L'', h1, h2 | ⟨n', R'', h2, h3⟩⟩
              · cases h2
              · cases h1; cases h2; exact h3
          · simp only [gt_iff_lt, decide_eq_false_iff_not] at hg2
            constructor
            · nofun
            · rintro ⟨m', L'', h1, _⟩
              subst h1; simp at lenL; omega
      rintro t h7 ⟨ht, rfl⟩
      refine ⟨fun htt => ?_, fun htf => ?_⟩
      · obtain ⟨m, L', rfl, hR⟩ := ht.1 htt
        refine hl6.at (j := 0) rfl (by simp) fun a1 y1 hy1 hv1 hr1 => ⟨y1, hy1, hl6.tail fun l' hl' => ?_⟩
        simp only [List.getElem_cons_zero] at hv1 hr1
        refine ⟨L', R, m.2, oj, v6, Keep.refl _ _, hl', hr6, hr1, fun h => .inl h, id, fun m' hm' => b1 m' (List.mem_cons_of_mem _ hm'), b2, ⟨m.2, ?_, fun _ => rfl⟩, by simp, fun m' hm' => f1 m' (List.mem_cons_of_mem _ hm'), f2, fun _ => f1 m (by simp)⟩
        dsimp only
        rw [hv1]
        rcases hR with rfl | ⟨n, R', rfl, hlt⟩
        · rw [pJ]
        · rw [ct, if_pos hlt]
      · have ht' : ¬ ∃ m L', L = m :: L' ∧ (R = [] ∨ ∃ n R', R = n :: R' ∧ m.1 < n.1) := fun h => by rw [ht.2 h] at htf; cases htf
        obtain ⟨n, R', rfl⟩ : ∃ n R', R = n :: R' := by
          cases R with
          | cons n R' => exact ⟨n, R', rfl⟩
          | nil =>
            cases L with
            | nil => simp at hg
            | cons m L' => exact absurd ⟨m, L', rfl, .inl rfl⟩ ht'
        refine seq.cut (fun t h8 => (t = true ↔ (L = [] ∨ ∃ m L', L = m :: L' ∧ n.1 < m.1)) ∧ h8 = h7) ?_ ?_
        · refine ⟨fun hz => ⟨?_, rfl⟩, fun hz => ?_⟩
          · simp only [beq_iff_eq] at hz
            have hL : L = [] := List.eq_nil_of_length_eq_zero (by omega)
            exact ⟨fun _ => .inl hL, fun _ => rfl⟩
          · obtain ⟨m, L', rfl⟩ : ∃ m L', L = m :: L' := by cases L with | nil => (simp at lenL; simp [lenL] at hz) | cons m L' => exact ⟨m, L', rfl⟩
            refine hl6.at (j := 0) rfl (by simp) fun a1 y1 hy1 hv1 _ => ⟨_, dX hy1, hr6.at (j := 0) rfl (by simp) fun a2 y2 hy2 hv2 _ => ⟨_, dX hy2, ?_, rfl⟩⟩
            simp only [List.getElem_cons_zero] at hv1 hv2
            rw [hv1, hv2]
            simp only [gt_iff_lt, decide_eq_true_eq]
            constructor
            · intro h; exact .inr ⟨m, L', rfl, h⟩
            · rintro (h | ⟨m', L'', h1, h3⟩)
              · cases h
              · cases h1; exact h3
        rintro t h8 ⟨ht2, rfl⟩
        refine ⟨fun htt => ?_, fun htf2 => ?_⟩
        · refine hr6.at (j := 0) rfl (by simp) fun a1 y1 hy1 hv1 hr1 => ⟨y1, hy1, hr6.tail fun r' hr' => ?_⟩
          simp only [List.getElem_cons_zero] at hv1 hr1
          refine ⟨L, R', n.2, oj, v6, Keep.refl _ _, hl6, hr', hr1, fun h => .inl h, id, b1, fun m' hm' => b2 m' (List.mem_cons_of_mem _ hm'), ⟨n.2, ?_, fun _ => rfl⟩, by simp, f1, fun m' hm' => f2 m' (List.mem_cons_of_mem _ hm'), fun _ => f2 n (by simp)⟩
          dsimp only
          rw [hv1]
          rcases ht2.1 htt with rfl | ⟨m, L', rfl, hlt⟩
          · rw [pA]
          · rw [ct, if_neg (by omega), if_pos hlt]
        · have ht2' : ¬ (L = [] ∨ ∃ m L', L = m :: L' ∧ n.1 < m.1) := fun h => by rw [ht2.2 h] at htf2; cases htf2
          obtain ⟨m, L', rfl⟩ : ∃ m L', L = m :: L' := by
            cases L with
            | nil => exact absurd (.inl rfl) ht2'
            | cons m L' => exact ⟨m, L', rfl⟩
          have h1 : ¬ m.1 < n.1 := fun h => ht' ⟨m, L', rfl, .inr ⟨n, R', rfl, h⟩⟩
          have h2 : ¬ n.1 < m.1 := fun h => ht2' (.inr ⟨m, L', rfl, h⟩)
          have sm := b1 m (by simp)
          have sn := b2 n (by simp)
          refine hl6.atb (j := 0) rfl (by simp) fun a1 y1 hy1 hv1 hr1 hbl1 => ⟨_, dX hy1, hl6.at (j := 0) rfl (by simp) fun a2 y2 hy2 _ hr2 => ⟨co y2, yt hy2, hr6.at (j := 0) rfl (by simp) fun a3 y3 hy3 _ hr3 => ⟨co y3, yt hy3, ?_⟩⟩⟩
          simp only [List.getElem_cons_zero] at hv1 hr1 hr2 hr3
          refine iU v6.tb v6.bench hr2.rq hr3.rq (by omega) fun rr h9 hb9 k9 hrr hff => ?_
          have hoff1 : a1.block ≠ a.block := hbl1 a.block (.inl hKa)
          refine ⟨ag k9 (dX hy1) (by simpa [af] using hoff1), ?_⟩
          have v9 := v6.keep hb9 k9
          have hl9 := hl6.keep k9 (fun k hk => by cases hk; exact .inl hKa)
          have hr9 := hr6.keep k9 (fun k hk => by cases hk; exact .inl hKa)
          refine hl9.tail fun l' hl' => hr9.tail fun r' hr' => ?_
          refine ⟨L', R', _, _, v9, k9, hl', hr', RK.fresh hrr.rq hff (fun k hk => ?_), fun h => ?_, fun h => by rw [h]; rfl, fun m' hm' => b1 m' (List.mem_cons_of_mem _ hm'), fun m' hm' => b2 m' (List.mem_cons_of_mem _ hm'), ⟨m.2 + n.2, ?_, fun h => ?_⟩, by simp; omega, fun m' hm' => f1 m' (List.mem_cons_of_mem _ hm'), fun m' hm' => f2 m' (List.mem_cons_of_mem _ hm'), fun h => (by rw [h, cK]; simp only [Bool.or_eq_false_iff, decide_eq_false_iff_not] at h; omega)⟩
          · rcases hk with hk | hk
            · have := hK k hk; have := k04.size; have := k5.size; have := e6.size; omega
            · have := (ho5.lt hk).2; have := e6.size; omega
          · rcases Bool.or_eq_true _ _ ▸ h with h | h
            · exact .inl h
            · right
              have hlt : lim < szQ (m.2 + n.2) := by simpa using h
              have hne0 : m.2 + n.2 ≠ 0 := fun h0 => by rw [h0, bP] at hlt; omega
              refine ⟨(m.1, m.2 + n.2), ?_, hlt⟩
              rw [ct, if_neg h1, if_neg h2]
              unfold nzc
              rw [if_neg hne0]
              simp
          · dsimp only
            rw [hv1, ct, if_neg h1, if_neg h2]
          · rw [h, cK]
    · rintro ⟨l', r', v, x1, x2, x3⟩ h7 ⟨L', R', u, oj', v7, k7, hl7, hr7, hx7, hoj', hoj3, b1', b2', ⟨u', hmr, huu⟩, hlt, f1', f2', fu⟩
      simp only at hl7 hr7 hx7 hmr
      have k57 : Keep (some a.block) h6 h7 := (Keep.of_ext e6).trans k7
      have hc7 := hc5.keep k57 (fun k hk => by cases hk; exact .inl hKa)
      have ho7 := ho5.keep k57 (fun k hk => by cases hk; exact hKa)
      have k47 := k5.trans k57
      have lenL' := hl7.len
      have lenR' := hr7.len
      have hojn : oj' = true → ov2 = true ∨ ∃ m ∈ mrg p.2 qv.2, lim < szQ m.2 := fun h => by
        rcases hoj' h with h | ⟨m, hm, hms⟩
        · exact hoj h
        · exact .inr ⟨m, by rw [← hpre]; exact List.mem_append_right _ hm, hms⟩
      have hof : oj' = false → oj = false := fun h => by
        cases hh : oj with
        | false => rfl
        | true => rw [hoj3 hh] at h; cases h
      refine cY hx7.rq fun h8 e8 => ⟨fun hs => ?_, fun hs => ?_⟩
      · have hu0 : u ≠ 0 := by rintro rfl; simp at hs
        refine (ho7.ext e8).push (x := (x1, x2, x3)) (by have := k47.size; have := e8.size; omega) (hx7.ext e8) (by omega) fun s' h9 ho9 k9 hb9 => ?_
        have hlb : ∀ b, out.blk = some b → h0.size ≤ b ∧ b ≠ a.block := fun b hb => by
          have := (ho5.lt hb).1; have := v4.ext.size; have := v4.lt; omega
        refine ⟨⟨L', R', _, oj', (v7.of_ext e8).fresh k9 hlb, Keep.freshB (k47.trans (Keep.of_ext e8)) (fun b hb => (ho5.lt hb).1) k9, (hl7.ext e8).push k9 hb9, (hr7.ext e8).push k9 hb9, (hc7.ext e8).push k9 hb9, ho9, hojn, fun h => hoj3 (hoj2 h), b1', b2', ?_, by simp; omega, f1', f2', fun hf m hm => (by
          rcases List.mem_append.1 hm with hm | hm
          · exact f3 (hof hf) m hm
          · rw [List.mem_singleton] at hm; subst hm; exact fu hf)⟩, ?_⟩
        · refine ⟨pre ++ nzc (v, u') [], ?_, fun h => ?_⟩
          · rw [← hpre, hmr, List.append_assoc]
            congr 1
            unfold nzc; split <;> simp
          · rw [hpo (hof h), huu h]
            unfold nzc; rw [if_neg hu0]
        · dsimp only; omega
      · have hu0 : u = 0 := by simpa using hs
        refine ⟨⟨L', R', om, oj', v7.of_ext e8, k47.trans (Keep.of_ext e8), hl7.ext e8, hr7.ext e8, hc7.ext e8, ho7.ext e8, hojn, fun h => hoj3 (hoj2 h), b1', b2', ?_, by omega, f1', f2', fun hf => f3 (hof hf)⟩, ?_⟩
        · refine ⟨pre ++ nzc (v, u') [], ?_, fun h => ?_⟩
          · rw [← hpre, hmr, List.append_assoc]
            congr 1
            unfold nzc; split <;> simp
          · rw [hpo (hof h), huu h]
            unfold nzc; rw [if_pos hu0]; simp
        · dsimp only; omega
  · simp only [decide_eq_false_iff_not] at hg
    have hL : L = [] := List.eq_nil_of_length_eq_zero (by omega)
    have hR : R = [] := List.eq_nil_of_length_eq_zero (by omega)
    subst hL hR
    rw [pH, List.append_nil] at hpre
    have kk := k04.trans k5
    have hadd : ov1 = false → (p.1 + qv.1, mrg p.2 qv.2) = addP p c q := fun h => by rw [hval h]; rfl
    have hov : oj = true → ov = true ∨ bg lim (scP c q) = false ∨ bg lim (addP p c q) = false := fun h => by
      by_cases ho1 : ov1 = true
      · rw [← hov1] at ho1
        rcases Bool.or_eq_true _ _ ▸ ho1 with h | h
        · exact .inl h
        · exact .inr (.inl (by simpa using h))
      · have ho1f : ov1 = false := by simpa using ho1
        right; right
        rw [← hadd ho1f]
        unfold bg
        rcases hoj h with h | ⟨m, hm, hms⟩
        · rw [← hov2, ho1f] at h
          have : lim < szQ (p.1 + qv.1) := by simpa using h
          rw [decide_eq_false (by simp only; omega)]; rfl
        · rw [Bool.and_eq_false_iff]; right
          rw [List.all_eq_false]
          exact ⟨m, hm, by simp; omega⟩
    have hfin : oj = false → ov = false ∧ bg lim (scP c q) = true ∧ bg lim (addP p c q) = true := fun hof => by
      have h2f : ov2 = false := by cases hh : ov2 with | false => rfl | true => rw [hoj2 hh] at hof; cases hof
      have h1 := h2f
      rw [← hov2] at h1
      simp only [Bool.or_eq_false_iff, decide_eq_false_iff_not] at h1
      refine ⟨(hov1b h1.1).1, (hov1b h1.1).2, ?_⟩
      rw [← hadd h1.1]
      unfold bg
      rw [Bool.and_eq_true, List.all_eq_true]
      refine ⟨decide_eq_true (by simp only; omega), fun m hm => decide_eq_true ?_⟩
      simp only at hm
      rw [← hpre, hpo hof] at hm
      exact f3 hof m hm
    refine sw v5 (fun hot h8 e8 => ?_) (fun hof h8 e8 => ?_)
    · refine C _ h8 oj (v5.of_ext e8) (kk.trans (Keep.of_ext e8)) hov hfin ?_ ?_
      · rw [hot]; exact RK.zero
      · rw [hot]; exact MK.nil
    · have h2f : ov2 = false := by cases hh : ov2 with | false => rfl | true => rw [hoj2 hh] at hof; cases hof
      have h1f : ov1 = false := by rw [← hov2] at h2f; simp only [Bool.or_eq_false_iff] at h2f; exact h2f.1
      refine C _ h8 oj (v5.of_ext e8) (kk.trans (Keep.of_ext e8)) hov hfin ?_ ?_
      · rw [hof]
        show RK _ _ _ (addP p c q).1
        rw [← hadd h1f]
        rw [h2f, cK] at hc5
        exact (hc5.raise fun k hk => .inl (.inl hk)).ext e8
      · rw [hof]
        show MK _ _ _ (addP p c q).2
        rw [← hadd h1f]
        have := ho5.mk'
        rw [← hpo hof, hpre] at this
        exact this.ext e8
end
end Go.Sh

namespace Go.Sh
open Go Go.Lift
abbrev S5 := Sl × Sl × Sl × Sl × Sl
abbrev E7 := Int × Bool × Sl × Sl × Bool × Sl × Sl
abbrev C6 := aa
abbrev C7 := ao
abbrev CP := ah
abbrev eD (e : E7) : X6 := (e.2.1, e.2.2.1, e.2.2.2.1, e.2.2.2.2.1, e.2.2.2.2.2.1, e.2.2.2.2.2.2)
abbrev DL := List (Rat × Rat)
abbrev Eg := Int × (Rat × Rat)
theorem len7 (e : E7) : (C7 e).length = 7 := rfl
def EQ (h : Heap) (e : E7) (m : Eg) : Prop := e.1 = m.1 ∧ DQ h (eD e) m.2
theorem EQ.ext {h h' : Heap} {e : E7} {m : Eg} (q : EQ h e m) (k : Ext h h') : EQ h' e m := ⟨q.1, q.2.ext k⟩
structure RowQ {α β : Type} (toC : α → List Value) (sz : Nat) (R : Heap → α → β → Prop) (h : Heap) (s : Sl) (ms : List β) : Prop where
  cap : s.len ≤ s.cap
  row : ∃ ys : List α, RS toC sz h s ys ∧ All2 (R h) ys ms
section
variable {α β : Type} {toC : α → List Value} {sz : Nat} {R : Heap → α → β → Prop} {h h' : Heap} {s : Sl} {ms : List β}
theorem RowQ.len (q : RowQ toC sz R h s ms) : s.len = ms.length := by obtain ⟨ys, h1, h2⟩ := q.row; rw [h1.len, h2.length]
theorem RowQ.ext (hR : ∀ (h h' : Heap) (y : α) (m : β), R h y m → Ext h h' → R h' y m) (q : RowQ toC sz R h s ms) (e : Ext h h') : RowQ toC sz R h' s ms := by
  obtain ⟨ys, h1, h2⟩ := q.row
  exact ⟨q.cap, ys, RS.ext h1 e, h2.imp fun y m h3 => hR _ _ _ _ h3 e⟩
theorem RowQ.at (q : RowQ toC sz R h s ms) {i : Int} {j : Nat} {k : Addr → Prop} (hij : i = (j : Int)) (hj : j < ms.length) (K : ∀ a y, cells? h a sz 0 = some (toC y) → R h y ms[j] → k a) : idxS s i sz k := by
  obtain ⟨ys, h1, h2⟩ := q.row
  have hjy : j < ys.length := by rw [h2.length]; exact hj
  subst hij
  obtain ⟨a, ha, hc⟩ := h1.cells j hjy
  have := h1.len
  exact ⟨a, ha, ⟨by omega, by omega⟩, K _ ys[j] (by simpa using hc) (h2.get j hjy hj)⟩
theorem RowQ.ld (q : RowQ toC sz R h s ms) {i : Int} {j : Nat} {k : α → Prop} (hij : i = (j : Int)) (hj : j < ms.length) (K : ∀ y, R h y ms[j] → k y) : idxS s i sz fun a => aD toC sz a h k :=
  q.at hij hj fun a y hc hr => ⟨y, hc, K y hr⟩
end
section
variable {α β : Type} {toC : α → List Value} {sz : Nat} {R : Heap → α → β → Prop} {h hh : Heap} {s : Sl} {ms : List β}
theorem RowQ.atE (q : RowQ toC sz R h s ms) (e : Ext h hh) {i : Int} {j : Nat} {k : Addr → Prop} (hij : i = (j : Int)) (hj : j < ms.length) (K : ∀ a y, cells? hh a sz 0 = some (toC y) → R h y ms[j] → k a) : idxS s i sz k := by
  obtain ⟨ys, h1, h2⟩ := q.row
  have hjy : j < ys.length := by rw [h2.length]; exact hj
  subst hij
  obtain ⟨a, ha, hc⟩ := h1.cells j hjy
  have := h1.len
  exact ⟨a, ha, ⟨by omega, by omega⟩, K _ ys[j] (by simpa using cx e hc) (h2.get j hjy hj)⟩
theorem RowQ.ldE (q : RowQ toC sz R h s ms) (e : Ext h hh) {i : Int} {j : Nat} {k : α → Prop} (hij : i = (j : Int)) (hj : j < ms.length) (K : ∀ y, R h y ms[j] → k y) : idxS s i sz fun a => aD toC sz a hh k :=
  q.atE e hij hj fun a y hc hr => ⟨y, hc, K y hr⟩
theorem MK.atE {K : Nat → Prop} {ms : PL} (hm : MK K h s ms) (e : Ext h hh) {i : Int} {j : Nat} {k : Addr → Prop} (hij : i = (j : Int)) (hj : j < ms.length) (C : ∀ a (y : Y4), cells? hh a 4 0 = some (C4 y) → y.1 = ms[j].1 → RK K h (co y) ms[j].2 → k a) : idxS s i 4 k := by
  obtain ⟨ys, h1, h2⟩ := hm.row
  have hjy : j < ys.length := by rw [h2.length]; exact hj
  subst hij
  obtain ⟨a, ha, hc⟩ := h1.cells j hjy
  have := h1.len
  have hg := h2.get j hjy hj
  exact ⟨a, ha, ⟨by omega, by omega⟩, C _ ys[j] (by simpa using cx e hc) hg.1 hg.2⟩
end
theorem PQ.ext' : ∀ (h h' : Heap) (y : X4) (m : Rat × PL), PQ h y m → Ext h h' → PQ h' y m := fun _ _ _ _ q e => PQ.ext q e
theorem DQ.ext' : ∀ (h h' : Heap) (y : X6) (m : Rat × Rat), DQ h y m → Ext h h' → DQ h' y m := fun _ _ _ _ q e => DQ.ext q e
theorem EQ.ext' : ∀ (h h' : Heap) (y : E7) (m : Eg), EQ h y m → Ext h h' → EQ h' y m := fun _ _ _ _ q e => EQ.ext q e
structure TT where
  bs : List Int
  ps : List (Rat × PL)
  vs : DL
  lo : List Eg
  up : List Eg
abbrev RJ (h : Heap) (s : Sl) (xs : List Int) : Prop := R (Value.int .i64) h s xs
def at0 (l : List Int) (i : Nat) : Int := l.getD i 0
theorem fK {xs : List Int} {j : Nat} (hj : j < xs.length) : at0 xs j = xs[j] := by
  unfold at0; rw [List.getD_eq_getElem?_getD, List.getElem?_eq_getElem hj]; rfl
theorem RJ.ld {h : Heap} {s : Sl} {xs : List Int} (hr : RJ h s xs) {i : Int} {j : Nat} {k : Int → Prop} (hij : i = (j : Int)) (hj : j < xs.length) (K : k (at0 xs j)) : idxS s i 1 fun a => Lift.load (Value.int .i64) a h k := by
  subst hij
  refine R.load hr (by omega) (by omega) ?_
  rw [fK hj] at K
  exact K
theorem RJ.ld2 {h : Heap} {s : Sl} {xs : List Int} (hr : RJ h s xs) {i : Int} {j : Nat} {k : Addr → Int → Prop} (hij : i = (j : Int)) (hj : j < xs.length) (K : ∀ a, cell? h a = some (Value.int .i64 (at0 xs j)) → k a (at0 xs j)) : idxS s i 1 fun a => Lift.load (Value.int .i64) a h (k a) := by
  subst hij
  obtain ⟨a, ha, hc⟩ := R.get hr hj
  have hl := hr.len
  rw [← fK hj] at hc
  exact ⟨a, ha, ⟨by omega, by omega⟩, _, by simpa using hc, K _ (by simpa using hc)⟩
structure TQ (h : Heap) (x : S5) (t : TT) : Prop where
  bas : RJ h x.1 t.bs
  rows : RowQ CP 4 PQ h x.2.1 t.ps
  vals : RowQ C6 6 DQ h x.2.2.1 t.vs
  lo : RowQ C7 7 EQ h x.2.2.2.1 t.lo
  up : RowQ C7 7 EQ h x.2.2.2.2 t.up
theorem TQ.ext {h h' : Heap} {x : S5} {t : TT} (q : TQ h x t) (e : Ext h h') : TQ h' x t :=
  ⟨R.ext q.bas e, q.rows.ext PQ.ext' e, q.vals.ext DQ.ext' e, q.lo.ext EQ.ext' e, q.up.ext EQ.ext' e⟩
structure TSz (t : TT) (L B : Nat) : Prop where
  rt : ∀ p ∈ t.ps, Rt p
  pl : ∀ p ∈ t.ps, p.2.length ≤ L
  pc : ∀ p ∈ t.ps, szQ p.1 ≤ B
  pm : ∀ p ∈ t.ps, ∀ m ∈ p.2, szQ m.2 ≤ B
  v : ∀ v ∈ t.vs, szD v ≤ B
  lo : ∀ e ∈ t.lo, szD e.2 ≤ B
  up : ∀ e ∈ t.up, szD e.2 ≤ B
  nb : t.bs.length ≤ 1000
  np : t.ps.length ≤ 1000
  nv : t.vs.length ≤ 1000
  nl : t.lo.length ≤ 1000
  nu : t.up.length ≤ 1000
def rowI : List Int → Int → Int
  | [], _ => -1
  | b :: bs, v => if b = v then 0 else if rowI bs v < 0 then -1 else rowI bs v + 1
theorem pj (bs : List Int) (v : Int) : (rowI bs v = -1 ∧ ∀ j, j < bs.length → at0 bs j ≠ v) ∨ ∃ i, i < bs.length ∧ rowI bs v = (i : Int) ∧ at0 bs i = v ∧ ∀ j, j < i → at0 bs j ≠ v := by
  induction bs with
  | nil => exact .inl ⟨rfl, fun j hj => by simp at hj⟩
  | cons b bs ih =>
    unfold rowI
    by_cases e : b = v
    · rw [if_pos e]; exact .inr ⟨0, by simp, rfl, by simp [at0, e], fun j hj => by omega⟩
    · rw [if_neg e]
      rcases ih with ⟨h1, h2⟩ | ⟨i, h1, h2, h3, h4⟩
      · rw [h1, if_pos (by decide)]
        refine .inl ⟨rfl, fun j hj => ?_⟩
        cases j with
        | zero => simpa [at0] using e
        | succ j => have := h2 j (by simpa using hj); simpa [at0] using this
      · rw [h2, if_neg (by omega)]
        refine .inr ⟨i + 1, by simpa using h1, by omega, by simpa [at0] using h3, fun j hj => ?_⟩
        cases j with
        | zero => simpa [at0] using e
        | succ j => have := h4 j (by omega); simpa [at0] using this
theorem qL {bs : List Int} {v : Int} {i : Nat} (hi : i < bs.length) (h : at0 bs i = v) (hn : ∀ j, j < i → at0 bs j ≠ v) : rowI bs v = (i : Int) := by
  rcases pj bs v with ⟨_, h2⟩ | ⟨k, h1, h2, h3, h4⟩
  · exact absurd h (h2 i hi)
  · rcases Nat.lt_trichotomy i k with g | g | g
    · exact absurd h (h4 i g)
    · rw [h2, g]
    · exact absurd h3 (hn k g)
theorem lO {bs : List Int} {v : Int} (hn : ∀ j, j < bs.length → at0 bs j ≠ v) : rowI bs v = -1 := by
  rcases pj bs v with ⟨h1, _⟩ | ⟨k, h1, _, h3, _⟩
  · exact h1
  · exact absurd h3 (hn k h1)
theorem abw {s : Sl} {bs : List Int} {v : Int} {h : Heap} {Q : Int → Heap → Prop} (hr : RJ h s bs) (hl : bs.length ≤ 1048576) (K : Q (rowI bs v) h) : bW s v h Q := by
  have hlen := hr.len
  refine loop.inv (fun (s0 : Int) hh => hh = h ∧ ∃ i : Nat, s0 = (i : Int) ∧ i ≤ bs.length ∧ ∀ j, j < i → at0 bs j ≠ v) (fun s0 _ => bs.length - s0.toNat) ⟨rfl, 0, rfl, by omega, fun j hj => by omega⟩ ?_
  rintro _ hh ⟨rfl, i, rfl, hi, hall⟩
  rw [hlen]
  refine ⟨fun hlt => ?_, fun hge => ?_⟩
  · simp only [decide_eq_true_eq] at hlt
    have hi' : i < bs.length := by omega
    refine RJ.ld hr (j := i) rfl hi' ⟨fun he => ?_, fun hne => ?_⟩
    · have he : v = at0 bs i := by simpa using he
      rw [qL hi' he.symm hall] at K; exact K
    · have hne : v ≠ at0 bs i := by simpa using hne
      rw [w64 (by omega) (by omega)]
      refine ⟨⟨rfl, i + 1, by omega, by omega, fun j hj => ?_⟩, by omega⟩
      by_cases g : j = i
      · subst g; exact fun e => hne e.symm
      · exact hall j (by omega)
  · simp only [decide_eq_false_iff_not] at hge
    rw [lO fun j hj => hall j (by omega)] at K; exact K
theorem th {x : S5} {bs : List Int} {v : Int} {h : Heap} {Q : Int → Heap → Prop} (hr : RJ h x.1 bs) (hl : bs.length ≤ 1048576) (K : ∀ h', Ext h h' → Q (rowI bs v) h') : fi x v h Q :=
  ae fun h1 e1 => abw (R.ext hr e1) hl (K h1 e1)
theorem sX {x : S5} {bs : List Int} {v : Int} {h : Heap} {Q : Int → Heap → Prop} (hr : RJ h x.1 bs) (hl : bs.length ≤ 1048576) (K : ∀ h', Ext h h' → Q (rowI bs v) h') : iR x v h Q := by
  refine ae fun h1 e1 => ?_
  have hr := R.ext hr e1
  have K := K h1 e1
  have hlen := hr.len
  refine loop.inv (fun (s0 : Int) hh => hh = h1 ∧ ∃ i : Nat, s0 = (i : Int) ∧ i ≤ bs.length ∧ ∀ j, j < i → at0 bs j ≠ v) (fun s0 _ => bs.length - s0.toNat) ⟨rfl, 0, rfl, by omega, fun j hj => by omega⟩ ?_
  rintro _ hh ⟨rfl, i, rfl, hi, hall⟩
  rw [hlen]
  refine ⟨fun hlt => ?_, fun hge => ?_⟩
  · simp only [decide_eq_true_eq] at hlt
    have hi' : i < bs.length := by omega
    refine RJ.ld hr (j := i) rfl hi' ⟨fun he => ?_, fun hne => ?_⟩
    · have he : at0 bs i = v := by simpa using he
      rw [qL hi' he hall] at K; exact K
    · have hne : at0 bs i ≠ v := by simpa using hne
      rintro _ rfl
      rw [w64 (by omega) (by omega)]
      refine ⟨⟨rfl, i + 1, by omega, by omega, fun j hj => ?_⟩, by omega⟩
      by_cases g : j = i
      · subst g; exact hne
      · exact hall j (by omega)
  · simp only [decide_eq_false_iff_not] at hge
    rw [lO fun j hj => hall j (by omega)] at K; exact K
end Go.Sh

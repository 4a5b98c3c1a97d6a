/-
  Laws that the proof of this claim's statement leans on, each proved under the conditions that it states.
-/
import Derived.Test.YtjppcjbmepcneaaDoorSpP
set_option linter.unusedVariables false
set_option linter.unusedSimpArgs false
namespace Go.Sh
open Go Go.Lift

section
variable {h0 h : Heap} {a : Addr} {lim : Nat} {ov : Bool}
theorem MK.atb {K : Nat → Prop} {s : Sl} {ms : PL} (hm : MK K h s ms) {i : Int} {j : Nat} {k : Addr → Prop} (hij : i = (j : Int)) (hj : j < ms.length) (C : ∀ a (y : Y4), cells? h a 4 0 = some (C4 y) → y.1 = ms[j].1 → RK K h (co y) ms[j].2 → (∀ k, K k → a.block ≠ k) → k a) : idxS s i 4 k := by
  obtain ⟨ys, h1, h2⟩ := hm.row
  have hjy : j < ys.length := by rw [h2.length]; exact hj
  subst hij
  obtain ⟨a, ha, hc⟩ := h1.cells j hjy
  have := h1.len
  have hg := h2.get j hjy hj
  refine ⟨a, ha, ⟨by omega, by omega⟩, C _ ys[j] (by simpa using hc) hg.1 hg.2 fun k hk hh => ?_⟩
  refine hm.off (by rintro rfl; simp at hj) k hk ?_
  rw [addr_add_block] at hh
  simp [Sl.blk, ha, hh]
theorem mrg_nn : mrg [] [] = [] := by rw [mrg]
theorem scP_sz {c : Rat} {p : Rat × PL} {n : Nat} (s1 : szQ c ≤ n) (s2 : szQ p.1 ≤ n) (s3 : ∀ m ∈ p.2, szQ m.2 ≤ n) : szQ (scP c p).1 ≤ 2 * n + 2 ∧ ∀ m ∈ (scP c p).2, szQ m.2 ≤ 2 * n + 2 := by
  unfold scP
  split
  · exact ⟨by rw [sz_zero]; omega, fun m hm => by simp at hm⟩
  · refine ⟨by have := sz_mul c p.1; simp only; omega, fun m hm => ?_⟩
    simp only [scL, List.mem_map] at hm
    obtain ⟨m', hm', rfl⟩ := hm
    have := sz_mul c m'.2; have := s3 m' hm'
    simp only; omega
theorem valP_sz {o : Bool} {p : Rat × PL} {n : Nat} (s2 : szQ p.1 ≤ n) (s3 : ∀ m ∈ p.2, szQ m.2 ≤ n) : szQ (valP o p).1 ≤ n ∧ ∀ m ∈ (valP o p).2, szQ m.2 ≤ n := by
  unfold valP; split
  · exact ⟨by rw [sz_zero]; omega, fun m hm => by simp at hm⟩
  · exact ⟨s2, s3⟩
theorem scL_len {c : Rat} {p : Rat × PL} : (scP c p).2.length ≤ p.2.length := by
  unfold scP; split
  · simp
  · simp [scL]

theorem AddP_spec {k : X3} {c : Rat} {x y : X4} {p q : Rat × PL} {Q : X4 → Heap → Prop} (hv : BO h0 a lim ov h) (hk : RK (· = a.block) h k c) (hx : RK (· = a.block) h (cst x) p.1) (hxm : MK (· = a.block) h x.2.2.2 p.2)
    (hy : RK (· = a.block) h (cst y) q.1) (hym : MK (· = a.block) h y.2.2.2 q.2) (sc : szQ c ≤ 90) (s1 : szQ p.1 ≤ 90) (s2 : ∀ m ∈ p.2, szQ m.2 ≤ 90) (s3 : szQ q.1 ≤ 90) (s4 : ∀ m ∈ q.2, szQ m.2 ≤ 90) (hl1 : p.2.length ≤ 1000) (hl2 : q.2.length ≤ 1000)
    (C : ∀ r h' ov', BO h0 a lim ov' h' → Keep (some a.block) h h' → (ov' = true → ov = true ∨ fitsP lim (scP c q) = false ∨ fitsP lim (addP p c q) = false) →
      RK (· = a.block) h' (cst r) (valP ov' (addP p c q)).1 → MK (· = a.block) h' r.2.2.2 (valP ov' (addP p c q)).2 → Q r h') : linear_Add (some a) x k y h Q := by
  refine mem_ext fun h1 e1 => ?_
  refine Scale_spec (hv.of_ext e1) (hk.ext e1) (hy.ext e1) (hym.ext e1) (by omega) (by omega) (fun m hm => by have := s4 m hm; omega) hl2 fun w h2 v2 k2 hw hwm => ?_
  generalize hov1 : (ov || !fitsP lim (scP c (q.1, q.2))) = ov1 at *
  have k02 : Keep (some a.block) h h2 := (Keep.of_ext e1).trans k2
  have hx2 := hx.keep k02 (fun k hk => by cases hk; rfl)
  have hxm2 := hxm.keep k02 (fun k hk => by cases hk; rfl)
  obtain ⟨z1, z2⟩ := scP_sz (p := (q.1, q.2)) sc s3 s4
  obtain ⟨z3, z4⟩ := valP_sz (o := ov1) z1 z2
  have hlq : (valP ov1 (scP c (q.1, q.2))).2.length ≤ 1000 := by
    unfold valP; split
    · simp
    · have := scL_len (c := c) (p := (q.1, q.2)); simp only at this; omega
  have hval : ov1 = false → valP ov1 (scP c (q.1, q.2)) = scP c q := fun h => by rw [h]; rfl
  generalize hqv : valP ov1 (scP c (q.1, q.2)) = qv at *
  refine AddQ_spec v2.tb v2.bench hx2.rq hw.rq (by omega) fun cc h3 hb3 k3 hcc hcf => mem_ext fun h4 e4 => ?_
  have v4 := (v2.keep hb3 k3).of_ext e4
  have k24 : Keep (some a.block) h2 h4 := k3.trans (Keep.of_ext e4)
  have k04 := k02.trans k24
  have hcc4 : RK (· = a.block) h4 cc (val' (ov1 || decide (lim < szQ (p.1 + qv.1))) (p.1 + qv.1)) := (RK.fresh hcc.rq hcf (fun k (hk : k = a.block) => hk ▸ v2.lt)).ext e4
  generalize hov2 : (ov1 || decide (lim < szQ (p.1 + qv.1))) = ov2 at *
  have hxm4 := hxm2.keep k24 (fun k hk => by cases hk; rfl)
  have hwm4 := hwm.keep k24 (fun k hk => by cases hk; rfl)
  have hnil : ∀ k, (k = a.block ∨ (Sl.nil).blk = some k) → k = a.block ∨ h4.size ≤ k := fun k hk => by rcases hk with hk | hk; exact .inl hk; cases hk
  refine loop.inv (fun t h' => ∃ (L R out : PL) (oj : Bool), BO h0 a lim oj h' ∧ Keep (some a.block) h4 h' ∧ MK (fun k => k = a.block ∨ t.2.2.2.2.2.blk = some k) h' t.1 L ∧ MK (fun k => k = a.block ∨ t.2.2.2.2.2.blk = some k) h' t.2.1 R ∧
      RK (fun k => k = a.block ∨ t.2.2.2.2.2.blk = some k) h' (t.2.2.1, t.2.2.2.1, t.2.2.2.2.1) (val' ov2 (p.1 + qv.1)) ∧ OM (· = a.block) h4.size h' t.2.2.2.2.2 out ∧
      (oj = true → ov2 = true ∨ ∃ m ∈ mrg p.2 qv.2, lim < szQ m.2) ∧ (ov2 = true → oj = true) ∧ (∀ m ∈ L, szQ m.2 ≤ 90) ∧ (∀ m ∈ R, szQ m.2 ≤ 190) ∧ (∃ pre : PL, pre ++ mrg L R = mrg p.2 qv.2 ∧ (oj = false → pre = out)) ∧
      out.length + L.length + R.length ≤ 2000)
      (fun t _ => t.1.len + t.2.1.len)
      ⟨p.2, qv.2, [], ov2, v4, Keep.refl _ _, hxm4.raise hnil, hwm4.raise hnil, hcc4.raise hnil, OM.nil (fun k hk => hk ▸ v4.lt), fun h => .inl h, id, s2, fun m hm => by have := z4 m hm; omega, ⟨[], rfl, fun _ => rfl⟩, by simp; omega⟩ ?_
  rintro ⟨l, r, w1, w2, w3, out⟩ h5 ⟨L, R, om, oj, v5, k5, hl5, hr5, hc5, ho5, hoj, hoj2, b1, b2, ⟨pre, hpre, hpo⟩, htot⟩
  simp only at hl5 hr5 hc5 ho5
  have lenL := hl5.len
  have lenR := hr5.len
  refine seq.cut (fun t h6 => t = decide (0 < L.length ∨ 0 < R.length) ∧ h6 = h5) ?_ ?_
  · refine ⟨fun hg => ⟨?_, rfl⟩, fun hg => ⟨?_, rfl⟩⟩
    · simp only [gt_iff_lt, decide_eq_true_eq] at hg
      symm; rw [decide_eq_true_eq]; left; omega
    · simp only [gt_iff_lt, decide_eq_false_iff_not] at hg
      rw [decide_eq_decide]
      constructor
      · intro h; right; simp only [gt_iff_lt] at h; omega
      · intro h; simp only [gt_iff_lt]; omega
  rintro t h6 ⟨rfl, rfl⟩
  refine ⟨fun hg => ?_, fun hg => ?_⟩
  · simp only [decide_eq_true_eq] at hg
    refine mem_ext fun h6' e6 => ?_
    have v6 := v5.of_ext e6
    have hl6 := hl5.ext e6
    have hr6 := hr5.ext e6
    refine seq.cut (fun t h7 => ∃ (L' R' : PL) (u : Rat) (oj' : Bool), BO h0 a lim oj' h7 ∧ Keep (some a.block) h6' h7 ∧ MK (fun k => k = a.block ∨ out.blk = some k) h7 t.1 L' ∧ MK (fun k => k = a.block ∨ out.blk = some k) h7 t.2.1 R' ∧
        RK (fun k => k = a.block ∨ out.blk = some k) h7 (t.2.2.2.1, t.2.2.2.2.1, t.2.2.2.2.2) u ∧ (oj' = true → oj = true ∨ ∃ m ∈ mrg L R, lim < szQ m.2) ∧ (oj = true → oj' = true) ∧ (∀ m ∈ L', szQ m.2 ≤ 90) ∧ (∀ m ∈ R', szQ m.2 ≤ 190) ∧
        (∃ u', mrg L R = nzc (t.2.2.1, u') (mrg L' R') ∧ (oj' = false → u' = u)) ∧ L'.length + R'.length < L.length + R.length) ?_ ?_
    · refine seq.cut (fun t h7 => (t = true ↔ ∃ m L', L = m :: L' ∧ (R = [] ∨ ∃ n R', R = n :: R' ∧ m.1 < n.1)) ∧ h7 = h6') ?_ ?_
      · refine ⟨fun hz => ⟨?_, rfl⟩, fun hz => ?_⟩
        · simp only [beq_iff_eq] at hz
          have hR : R = [] := List.eq_nil_of_length_eq_zero (by omega)
          subst hR
          refine ⟨fun _ => ?_, fun _ => rfl⟩
          cases L with
          | nil => simp at hg
          | cons m L' => exact ⟨m, L', rfl, .inl rfl⟩
        · have hR : R ≠ [] := by rintro rfl; simp at lenR; simp [lenR] at hz
          refine ⟨fun hg2 => ?_, fun hg2 => ⟨?_, rfl⟩⟩
          · simp only [gt_iff_lt, decide_eq_true_eq] at hg2
            obtain ⟨n, R', rfl⟩ : ∃ n R', R = n :: R' := by cases R with | nil => exact absurd rfl hR | cons n R' => exact ⟨n, R', rfl⟩
            obtain ⟨m, L', rfl⟩ : ∃ m L', L = m :: L' := by cases L with | nil => (simp at lenL; omega) | cons m L' => exact ⟨m, L', rfl⟩
            refine hl6.at (j := 0) rfl (by simp) fun a1 y1 hy1 hv1 _ => ⟨_, ld_var hy1, hr6.at (j := 0) rfl (by simp) fun a2 y2 hy2 hv2 _ => ⟨_, ld_var hy2, ?_, rfl⟩⟩
            simp only [List.getElem_cons_zero] at hv1 hv2
            rw [hv1, hv2, decide_eq_true_eq]
            constructor
            · intro h; exact ⟨m, L', rfl, .inr ⟨n, R', rfl, h⟩⟩
            · rintro ⟨m', L'', h1, h2 | ⟨n', R'', h2, h3⟩⟩
              · cases h2
              · cases h1; cases h2; exact h3
          · simp only [gt_iff_lt, decide_eq_false_iff_not] at hg2
            constructor
            · nofun
            · rintro ⟨m', L'', h1, _⟩
              subst h1; simp at lenL; omega
      rintro t h7 ⟨ht, rfl⟩
      refine ⟨fun htt => ?_, fun htf => ?_⟩
      · obtain ⟨m, L', rfl, hR⟩ := ht.1 htt
        refine hl6.at (j := 0) rfl (by simp) fun a1 y1 hy1 hv1 hr1 => ⟨y1, hy1, hl6.tail fun l' hl' => ?_⟩
        simp only [List.getElem_cons_zero] at hv1 hr1
        refine ⟨L', R, m.2, oj, v6, Keep.refl _ _, hl', hr6, hr1, fun h => .inl h, id, fun m' hm' => b1 m' (List.mem_cons_of_mem _ hm'), b2, ⟨m.2, ?_, fun _ => rfl⟩, by simp⟩
        dsimp only
        rw [hv1]
        rcases hR with rfl | ⟨n, R', rfl, hlt⟩
        · rw [mrg_cn]
        · rw [mrg_cc, if_pos hlt]
      · have ht' : ¬ ∃ m L', L = m :: L' ∧ (R = [] ∨ ∃ n R', R = n :: R' ∧ m.1 < n.1) := fun h => by rw [ht.2 h] at htf; cases htf
        obtain ⟨n, R', rfl⟩ : ∃ n R', R = n :: R' := by
          cases R with
          | cons n R' => exact ⟨n, R', rfl⟩
          | nil =>
            cases L with
            | nil => simp at hg
            | cons m L' => exact absurd ⟨m, L', rfl, .inl rfl⟩ ht'
        refine seq.cut (fun t h8 => (t = true ↔ (L = [] ∨ ∃ m L', L = m :: L' ∧ n.1 < m.1)) ∧ h8 = h7) ?_ ?_
        · refine ⟨fun hz => ⟨?_, rfl⟩, fun hz => ?_⟩
          · simp only [beq_iff_eq] at hz
            have hL : L = [] := List.eq_nil_of_length_eq_zero (by omega)
            exact ⟨fun _ => .inl hL, fun _ => rfl⟩
          · obtain ⟨m, L', rfl⟩ : ∃ m L', L = m :: L' := by cases L with | nil => (simp at lenL; simp [lenL] at hz) | cons m L' => exact ⟨m, L', rfl⟩
            refine hl6.at (j := 0) rfl (by simp) fun a1 y1 hy1 hv1 _ => ⟨_, ld_var hy1, hr6.at (j := 0) rfl (by simp) fun a2 y2 hy2 hv2 _ => ⟨_, ld_var hy2, ?_, rfl⟩⟩
            simp only [List.getElem_cons_zero] at hv1 hv2
            rw [hv1, hv2]
            simp only [gt_iff_lt, decide_eq_true_eq]
            constructor
            · intro h; exact .inr ⟨m, L', rfl, h⟩
            · rintro (h | ⟨m', L'', h1, h3⟩)
              · cases h
              · cases h1; exact h3
        rintro t h8 ⟨ht2, rfl⟩
        refine ⟨fun htt => ?_, fun htf2 => ?_⟩
        · refine hr6.at (j := 0) rfl (by simp) fun a1 y1 hy1 hv1 hr1 => ⟨y1, hy1, hr6.tail fun r' hr' => ?_⟩
          simp only [List.getElem_cons_zero] at hv1 hr1
          refine ⟨L, R', n.2, oj, v6, Keep.refl _ _, hl6, hr', hr1, fun h => .inl h, id, b1, fun m' hm' => b2 m' (List.mem_cons_of_mem _ hm'), ⟨n.2, ?_, fun _ => rfl⟩, by simp⟩
          dsimp only
          rw [hv1]
          rcases ht2.1 htt with rfl | ⟨m, L', rfl, hlt⟩
          · rw [mrg_nc]
          · rw [mrg_cc, if_neg (by omega), if_pos hlt]
        · have ht2' : ¬ (L = [] ∨ ∃ m L', L = m :: L' ∧ n.1 < m.1) := fun h => by rw [ht2.2 h] at htf2; cases htf2
          obtain ⟨m, L', rfl⟩ : ∃ m L', L = m :: L' := by
            cases L with
            | nil => exact absurd (.inl rfl) ht2'
            | cons m L' => exact ⟨m, L', rfl⟩
          have h1 : ¬ m.1 < n.1 := fun h => ht' ⟨m, L', rfl, .inr ⟨n, R', rfl, h⟩⟩
          have h2 : ¬ n.1 < m.1 := fun h => ht2' (.inr ⟨m, L', rfl, h⟩)
          have sm := b1 m (by simp)
          have sn := b2 n (by simp)
          refine hl6.atb (j := 0) rfl (by simp) fun a1 y1 hy1 hv1 hr1 hbl1 => ⟨_, ld_var hy1, hl6.at (j := 0) rfl (by simp) fun a2 y2 hy2 _ hr2 => ⟨co y2, ld_co hy2, hr6.at (j := 0) rfl (by simp) fun a3 y3 hy3 _ hr3 => ⟨co y3, ld_co hy3, ?_⟩⟩⟩
          simp only [List.getElem_cons_zero] at hv1 hr1 hr2 hr3
          refine AddQ_spec v6.tb v6.bench hr2.rq hr3.rq (by omega) fun rr h9 hb9 k9 hrr hff => ?_
          have hoff1 : a1.block ≠ a.block := hbl1 a.block (.inl rfl)
          refine ⟨cell_keep k9 (ld_var hy1) (by simpa [addr_add_block] using hoff1), ?_⟩
          have v9 := v6.keep hb9 k9
          have hl9 := hl6.keep k9 (fun k hk => by cases hk; exact .inl rfl)
          have hr9 := hr6.keep k9 (fun k hk => by cases hk; exact .inl rfl)
          refine hl9.tail fun l' hl' => hr9.tail fun r' hr' => ?_
          refine ⟨L', R', _, _, v9, k9, hl', hr', RK.fresh hrr.rq hff (fun k hk => ?_), fun h => ?_, fun h => by rw [h]; rfl, fun m' hm' => b1 m' (List.mem_cons_of_mem _ hm'), fun m' hm' => b2 m' (List.mem_cons_of_mem _ hm'), ⟨m.2 + n.2, ?_, fun h => ?_⟩, by simp; omega⟩
          · rcases hk with hk | hk
            · exact hk ▸ v6.lt
            · have := (ho5.lt hk).2; have := e6.size; omega
          · rcases Bool.or_eq_true _ _ ▸ h with h | h
            · exact .inl h
            · right
              have hlt : lim < szQ (m.2 + n.2) := by simpa using h
              have hne0 : m.2 + n.2 ≠ 0 := fun h0 => by rw [h0, sz_zero] at hlt; omega
              refine ⟨(m.1, m.2 + n.2), ?_, hlt⟩
              rw [mrg_cc, if_neg h1, if_neg h2]
              unfold nzc
              rw [if_neg hne0]
              simp
          · dsimp only
            rw [hv1, mrg_cc, if_neg h1, if_neg h2]
          · rw [h, val'_false]
    · rintro ⟨l', r', v, x1, x2, x3⟩ h7 ⟨L', R', u, oj', v7, k7, hl7, hr7, hx7, hoj', hoj3, b1', b2', ⟨u', hmr, huu⟩, hlt⟩
      simp only at hl7 hr7 hx7 hmr
      have k57 : Keep (some a.block) h6 h7 := (Keep.of_ext e6).trans k7
      have hc7 := hc5.keep k57 (fun k hk => by cases hk; exact .inl rfl)
      have ho7 := ho5.keep k57 (fun k hk => by cases hk; rfl)
      have k47 := k5.trans k57
      have lenL' := hl7.len
      have lenR' := hr7.len
      have hojn : oj' = true → ov2 = true ∨ ∃ m ∈ mrg p.2 qv.2, lim < szQ m.2 := fun h => by
        rcases hoj' h with h | ⟨m, hm, hms⟩
        · exact hoj h
        · exact .inr ⟨m, by rw [← hpre]; exact List.mem_append_right _ hm, hms⟩
      have hof : oj' = false → oj = false := fun h => by
        cases hh : oj with
        | false => rfl
        | true => rw [hoj3 hh] at h; cases h
      refine Sign_spec hx7.rq fun h8 e8 => ⟨fun hs => ?_, fun hs => ?_⟩
      · have hu0 : u ≠ 0 := by rintro rfl; simp at hs
        refine (ho7.ext e8).push (x := (x1, x2, x3)) (by have := k47.size; have := e8.size; omega) (hx7.ext e8) (by omega) fun s' h9 ho9 k9 hb9 => ?_
        have hlb : ∀ b, out.blk = some b → h0.size ≤ b ∧ b ≠ a.block := fun b hb => by
          have := (ho5.lt hb).1; have := v4.ext.size; have := v4.lt; omega
        refine ⟨⟨L', R', _, oj', (v7.of_ext e8).fresh k9 hlb, Keep.freshB (k47.trans (Keep.of_ext e8)) (fun b hb => (ho5.lt hb).1) k9, (hl7.ext e8).push k9 hb9, (hr7.ext e8).push k9 hb9, (hc7.ext e8).push k9 hb9, ho9, hojn, fun h => hoj3 (hoj2 h), b1', b2', ?_, by simp; omega⟩, ?_⟩
        · refine ⟨pre ++ nzc (v, u') [], ?_, fun h => ?_⟩
          · rw [← hpre, hmr, List.append_assoc]
            congr 1
            unfold nzc; split <;> simp
          · rw [hpo (hof h), huu h]
            unfold nzc; rw [if_neg hu0]
        · dsimp only; omega
      · have hu0 : u = 0 := by simpa using hs
        refine ⟨⟨L', R', om, oj', v7.of_ext e8, k47.trans (Keep.of_ext e8), hl7.ext e8, hr7.ext e8, hc7.ext e8, ho7.ext e8, hojn, fun h => hoj3 (hoj2 h), b1', b2', ?_, by omega⟩, ?_⟩
        · refine ⟨pre ++ nzc (v, u') [], ?_, fun h => ?_⟩
          · rw [← hpre, hmr, List.append_assoc]
            congr 1
            unfold nzc; split <;> simp
          · rw [hpo (hof h), huu h]
            unfold nzc; rw [if_pos hu0]; simp
        · dsimp only; omega
  · simp only [decide_eq_false_iff_not] at hg
    have hL : L = [] := List.eq_nil_of_length_eq_zero (by omega)
    have hR : R = [] := List.eq_nil_of_length_eq_zero (by omega)
    subst hL hR
    rw [mrg_nn, List.append_nil] at hpre
    have kk := k04.trans k5
    have hadd : ov1 = false → (p.1 + qv.1, mrg p.2 qv.2) = addP p c q := fun h => by rw [hval h]; rfl
    have hov : oj = true → ov = true ∨ fitsP lim (scP c q) = false ∨ fitsP lim (addP p c q) = false := fun h => by
      by_cases ho1 : ov1 = true
      · rw [← hov1] at ho1
        rcases Bool.or_eq_true _ _ ▸ ho1 with h | h
        · exact .inl h
        · exact .inr (.inl (by simpa using h))
      · have ho1f : ov1 = false := by simpa using ho1
        right; right
        rw [← hadd ho1f]
        unfold fitsP
        rcases hoj h with h | ⟨m, hm, hms⟩
        · rw [← hov2, ho1f] at h
          have : lim < szQ (p.1 + qv.1) := by simpa using h
          rw [decide_eq_false (by simp only; omega)]; rfl
        · rw [Bool.and_eq_false_iff]; right
          rw [List.all_eq_false]
          exact ⟨m, hm, by simp; omega⟩
    refine kept_spec v5 (fun hot h8 e8 => ?_) (fun hof h8 e8 => ?_)
    · refine C _ h8 oj (v5.of_ext e8) (kk.trans (Keep.of_ext e8)) hov ?_ ?_
      · rw [hot]; exact RK.zero
      · rw [hot]; exact MK.nil
    · have h2f : ov2 = false := by cases hh : ov2 with | false => rfl | true => rw [hoj2 hh] at hof; cases hof
      have h1f : ov1 = false := by rw [← hov2] at h2f; simp only [Bool.or_eq_false_iff] at h2f; exact h2f.1
      refine C _ h8 oj (v5.of_ext e8) (kk.trans (Keep.of_ext e8)) hov ?_ ?_
      · rw [hof]
        show RK _ _ _ (addP p c q).1
        rw [← hadd h1f]
        rw [h2f, val'_false] at hc5
        exact (hc5.raise fun k hk => .inl (.inl hk)).ext e8
      · rw [hof]
        show MK _ _ _ (addP p c q).2
        rw [← hadd h1f]
        have := ho5.mk'
        rw [← hpo hof, hpre] at this
        exact this.ext e8
end
end Go.Sh

namespace Go.Sh
open Go Go.Lift

abbrev K0 : Nat → Prop := fun _ => False
/-- A sum in memory. -/
structure PQ (h : Heap) (x : X4) (p : Rat × PL) : Prop where
  c : RQ h (cst x) p.1
  m : MK K0 h x.2.2.2 p.2
theorem PQ.ext {h h' : Heap} {x : X4} {p : Rat × PL} (hx : PQ h x p) (e : Ext h h') : PQ h' x p := ⟨hx.c.ext e, hx.m.ext e⟩
theorem RK.k0 {K : Nat → Prop} {h : Heap} {x : X3} {q : Rat} (hx : RK K h x q) : RK K0 h x q := hx.raise fun k hk => hk.elim
theorem MK.k0 {K : Nat → Prop} {h : Heap} {s : Sl} {ms : PL} (hx : MK K h s ms) : MK K0 h s ms := hx.raise fun k hk => hk.elim
/-- Limbs as they come in, not too many for the document's answer. -/
def RawB (h : Heap) (x : X3) : Prop := ∃ xs ys, XR h x xs ys ∧ xs.length ≤ 1048576 ∧ ys.length ≤ 1048576
theorem RawB.ext {h h' : Heap} {x : X3} (hx : RawB h x) (e : Ext h h') : RawB h' x := by
  obtain ⟨xs, ys, h1, h2⟩ := hx; exact ⟨xs, ys, h1.ext e, h2⟩
theorem RawB.isQ_ext {h h' : Heap} {x : X3} (hx : RawB h x) (e : Ext h h') : isQ h' x ↔ isQ h x := by
  obtain ⟨xs, ys, h1, h2, h3⟩ := hx
  rw [h1.isQ_iff (by omega) (by omega), (h1.ext e).isQ_iff (by omega) (by omega)]
structure Raw4 (h : Heap) (x : X4) : Prop where
  c : RawB h (cst x)
  m : ∃ ys : List Y4, RS C4 4 h x.2.2.2 ys ∧ (∀ y ∈ ys, RawB h (co y)) ∧ x.2.2.2.len ≤ x.2.2.2.cap
theorem Raw4.ext {h h' : Heap} {x : X4} (hx : Raw4 h x) (e : Ext h h') : Raw4 h' x := by
  obtain ⟨h1, ys, h2, h3, h4⟩ := hx
  exact ⟨h1.ext e, ys, RS.ext h2 e, fun y hy => (h3 y hy).ext e, h4⟩
/-- A right one. -/
structure Rt (p : Rat × PL) : Prop where
  srt : Srt p.2
  nn : ∀ m ∈ p.2, 0 ≤ m.1
  nz : ∀ m ∈ p.2, m.2 ≠ 0
def isP (h : Heap) (x : X4) : Prop := ∃ p, PQ h x p ∧ Rt p

theorem MK.of_all {h : Heap} {s : Sl} {ys : List Y4} {ms : PL} (hr : RS C4 4 h s ys) (hc : s.len ≤ s.cap) (ha : All2 (fun y m => y.1 = m.1 ∧ RQ h (co y) m.2) ys ms) : MK K0 h s ms :=
  ⟨hc, ⟨ys, hr, ha.imp fun y m h => ⟨h.1, RK.of_rq h.2 fun k hk => hk.elim⟩⟩, fun _ k hk => hk.elim⟩

theorem RightP_spec {h0 h : Heap} {x : X4} {Q : Bool → Heap → Prop} (hx : Raw4 h0 x) (e0 : Ext h0 h) (hl : x.2.2.2.len ≤ 1048576) (C : ∀ b h', (b = true ↔ isP h0 x) → Ext h h' → Q b h') : ref12uRight x h Q := by
  obtain ⟨⟨xs, xd, hX, lx, ld⟩, ys, hr, hraw, hcap⟩ := hx
  have hlen := hr.len
  refine mem_ext fun h1 e1 => RightD_spec (hX.ext (e0.trans e1)) (by omega) (by omega) fun b h2 hb e2 => ?_
  have hb' : b = true ↔ isQ h0 (cst x) := by rw [hb]; exact RawB.isQ_ext ⟨xs, xd, hX, lx, ld⟩ (e0.trans e1)
  have e02 := e1.trans e2
  refine ⟨fun hf => C false h2 ?_ e02, fun ht => ?_⟩
  · have : ¬ isQ h0 (cst x) := fun hq => by rw [hb'.2 hq] at hf; cases hf
    refine ⟨nofun, fun ⟨p, hp, _⟩ => absurd ⟨p.1, hp.c⟩ this⟩
  have hbt : b = true := by simpa using ht
  obtain ⟨c0, hc0⟩ := hb'.1 hbt
  refine loop.inv (fun t h' => ∃ (j : Nat) (ms : PL), t = (j : Int) ∧ j ≤ ys.length ∧ ms.length = j ∧ All2 (fun y m => y.1 = m.1 ∧ RQ h0 (co y) m.2) (ys.take j) ms ∧ Srt ms ∧ (∀ m ∈ ms, 0 ≤ m.1 ∧ m.2 ≠ 0) ∧ Ext h h') (fun t _ => ys.length - t.toNat)
    ⟨0, [], rfl, by omega, rfl, .nil, List.Pairwise.nil, fun m hm => by simp at hm, e02⟩ ?_
  rintro _ h3 ⟨j, ms, rfl, hj, hml, hall, hsrt, hms, e3⟩
  refine ⟨fun hlt => ?_, fun hge => ?_⟩
  · simp only [decide_eq_true_eq] at hlt
    have hj' : j < ys.length := by omega
    have AT : ∀ {h' : Heap} {i : Int} {kk : Addr → Prop} {n : Nat} (hn : n < ys.length), Ext h h' → i = (n : Int) → (∀ a, cells? h' a 4 0 = some (C4 ys[n]) → kk a) → idxS x.2.2.2 i 4 kk := fun {h' i kk n} hn e hi K' => by
      subst hi
      obtain ⟨a, ha, hc⟩ := (RS.ext hr (e0.trans e)).cells n hn
      exact ⟨a, ha, ⟨by omega, by omega⟩, K' _ (by simpa using hc)⟩
    refine AT hj' e3 rfl fun a1 hc1 => ⟨ys[j], hc1, mem_ext fun h4 e4 => ?_⟩
    have e04 := e3.trans e4
    have hry := hraw ys[j] (List.getElem_mem hj')
    -- what is found out of this one
    refine seq.cut (fun t h5 => (t = false → ∃ q, RQ h0 (co ys[j]) q ∧ q ≠ 0 ∧ 0 ≤ ys[j].1 ∧ (∀ m ∈ ms, m.1 < ys[j].1)) ∧ (t = true → ¬ isP h0 x) ∧ Ext h h5) ?_ ?_
    · have bad : ∀ {p : Rat × PL}, PQ h0 x p → Rt p → ∃ (h1 : j < p.2.length), ys[j].1 = p.2[j].1 ∧ RQ h0 (co ys[j]) p.2[j].2 ∧ (∀ n (hn : n < ys.length) (h2 : n < p.2.length), ys[n].1 = p.2[n].1) := by
        intro p hp hrt
        obtain ⟨zs, hz, hza⟩ := hp.m.row
        have hzy : zs = ys := by
          apply List.ext_getElem (by rw [← hz.len, hr.len])
          intro n n1 n2
          obtain ⟨a, ha, hc⟩ := hz.cells n n1
          obtain ⟨a', ha', hc'⟩ := hr.cells n n2
          rw [ha] at ha'; cases ha'
          rw [hc] at hc'
          have := Option.some.inj hc'
          simp only [C4, C_i64ubool_sl_sl, List.cons.injEq, Value.int.injEq, Value.bool.injEq, true_and, and_true] at this
          obtain ⟨t1, t2, t3, t4⟩ := this
          have s1 : ∀ {s t : Sl}, Sl.toV s = Sl.toV t → s = t := fun {s t} h => by
            cases s; cases t; simp only [Sl.toV, Value.slice.injEq] at h; obtain ⟨rfl, rfl, rfl⟩ := h; rfl
          exact Prod.ext t1 (Prod.ext t2 (Prod.ext (s1 t3) (s1 t4)))
        subst hzy
        have hpl := hza.length
        refine ⟨by omega, (hza.get j hj' (by omega)).1, (hza.get j hj' (by omega)).2.rq, fun n n1 n2 => (hza.get n n1 n2).1⟩
      have tail : ∀ {J : Bool → Heap → Prop}, 0 ≤ ys[j].1 → (∀ m ∈ ms, m.1 < ys[j].1) → (∀ t h5, (t = false → ∃ q, RQ h0 (co ys[j]) q ∧ q ≠ 0 ∧ 0 ≤ ys[j].1 ∧ (∀ m ∈ ms, m.1 < ys[j].1)) ∧ (t = true → ¬ isP h0 x) ∧ Ext h h5 → J t h5) →
          ref02uRight (ys[j].2.1, ys[j].2.2.1, ys[j].2.2.2) h4 fun v_3 h0u5 => iteB (!v_3) (J true h0u5) (J (((ys[j].2.2.1.len : Nat) : Int) == 0) h0u5) := by
        intro J hnn hsm k
        obtain ⟨us, ud, hU, lu, lud⟩ := hry
        refine RightD_spec (hU.ext (e0.trans e04)) (by omega) (by omega) fun b5 h5 hb5 e5 => ?_
        have hb5' : b5 = true ↔ isQ h0 (co ys[j]) := by rw [hb5]; exact RawB.isQ_ext ⟨us, ud, hU, lu, lud⟩ (e0.trans e04)
        have e05 := e04.trans e5
        refine ⟨fun hf => k _ _ ⟨nofun, fun _ ⟨p, hp, hrt⟩ => ?_, e05⟩, fun ht => ?_⟩
        · obtain ⟨h1, h2, h3, _⟩ := bad hp hrt
          have := hb5'.2 ⟨_, h3⟩
          simp [this] at hf
        · have hbt5 : b5 = true := by simpa using ht
          obtain ⟨q, hq⟩ := hb5'.1 hbt5
          have hz : ((((ys[j].2.2.1.len : Nat) : Int) == 0) = true) ↔ q.num.natAbs = 0 := by
            have := hq.num.len_zero
            rw [beq_iff_eq]
            constructor
            · intro h0; exact this.1 (by show ys[j].2.2.1.len = 0; omega)
            · intro h0; have h1 : ys[j].2.2.1.len = 0 := this.2 h0; omega
          refine k _ _ ⟨fun h0 => ⟨q, hq, fun hq0 => ?_, hnn, hsm⟩, fun h0 ⟨p, hp, hrt⟩ => ?_, e05⟩
          · subst hq0
            have := hz.2 rfl
            rw [this] at h0; cases h0
          · obtain ⟨h1, h2, h3, _⟩ := bad hp hrt
            have hqz : q.num.natAbs = 0 := hz.1 h0
            have hpz := hq.num.len_zero.2 hqz
            have hpz2 := h3.num.len_zero.1 hpz
            exact hrt.nz _ (List.getElem_mem h1) (Rat.num_eq_zero.1 (by omega))
      refine ⟨fun hneg => ⟨nofun, fun _ ⟨p, hp, hrt⟩ => ?_, e04⟩, fun hnneg => ?_⟩
      · simp only [decide_eq_true_eq] at hneg
        obtain ⟨h1, h2, h3, _⟩ := bad hp hrt
        have := hrt.nn _ (List.getElem_mem h1)
        omega
      · simp only [decide_eq_false_iff_not, Int.not_lt] at hnneg
        refine ⟨fun hj0 => ?_, fun hj0 => ?_⟩
        · simp only [gt_iff_lt, decide_eq_true_eq] at hj0
          rw [w64 (n := (j : Int) - 1) (by omega) (by omega)]
          have hj1 : j - 1 < ys.length := by omega
          refine AT hj1 e04 (by omega) fun a2 hc2 => ⟨_, ld_var hc2, ?_⟩
          have hm1 : j - 1 < ms.length := by omega
          have hlast := (hall.get (j - 1) (by simp; omega) hm1).1
          rw [List.getElem_take] at hlast
          refine ⟨fun hle => ⟨nofun, fun _ ⟨p, hp, hrt⟩ => ?_, e04⟩, fun hgt => tail hnneg ?_ fun t h5 H => H⟩
          · simp only [decide_eq_true_eq] at hle
            obtain ⟨h1, h2, h3, h4'⟩ := bad hp hrt
            have h5 := h4' (j - 1) hj1 (by omega)
            have := List.pairwise_iff_getElem.1 hrt.srt (j - 1) j (by omega) h1 (by omega)
            omega
          · simp only [decide_eq_false_iff_not] at hgt
            intro m hm
            obtain ⟨n, hn, rfl⟩ := List.getElem_of_mem hm
            by_cases hnj : n = j - 1
            · subst hnj; omega
            · have := List.pairwise_iff_getElem.1 hsrt n (j - 1) hn hm1 (by omega)
              omega
        · simp only [gt_iff_lt, decide_eq_false_iff_not] at hj0
          refine tail hnneg (fun m hm => ?_) fun t h5 H => H
          have : ms = [] := List.eq_nil_of_length_eq_zero (by omega)
          subst this; simp at hm
    · rintro t h5 ⟨hf, ht, e5⟩
      refine ⟨fun htt => C false h5 ⟨nofun, fun hp => absurd hp (ht htt)⟩ e5, fun htf => ?_⟩
      obtain ⟨q, hq, hq0, hnn, hsm⟩ := hf htf
      rintro _ rfl
      refine ⟨⟨j + 1, ms ++ [(ys[j].1, q)], ?_, by omega, by simp; omega, ?_, ?_, ?_, e5⟩, ?_⟩
      · rw [w64 (by omega) (by omega)]; omega
      · rw [List.take_succ_eq_append_getElem hj']
        exact hall.append (.cons ⟨rfl, hq⟩ .nil)
      · refine List.pairwise_append.2 ⟨hsrt, List.pairwise_singleton _ _, fun m hm n hn => ?_⟩
        simp only [List.mem_singleton] at hn
        subst hn
        exact hsm m hm
      · intro m hm
        rcases List.mem_append.1 hm with hm | hm
        · exact hms m hm
        · simp only [List.mem_singleton] at hm
          subst hm
          exact ⟨hnn, hq0⟩
      · rw [w64 (by omega) (by omega)]; omega
  · simp only [decide_eq_false_iff_not] at hge
    have hjl : j = ys.length := by omega
    subst hjl
    rw [List.take_length] at hall
    exact C true h3 ⟨fun _ => ⟨(c0, ms), ⟨hc0, MK.of_all hr hcap hall⟩, ⟨hsrt, fun m hm => (hms m hm).1, fun m hm => (hms m hm).2⟩⟩, fun _ => rfl⟩ e3
end Go.Sh

namespace Go.Sh
open Go Go.Lift

/-- A right one, of few limbs and few unknowns. -/
structure Few4 (p : Rat × PL) : Prop where
  rt : Rt p
  n : p.2.length ≤ 12
  c : szQ p.1 ≤ 6
  m : ∀ m ∈ p.2, szQ m.2 ≤ 6
def SmP (h : Heap) (x : X4) : Prop := ∃ p, PQ h x p ∧ Few4 p
theorem sz_of_bigR {h : Heap} {x : X3} {q : Rat} (hq : RQ h x q) (hb : bigR x = false) : szQ q ≤ 6 := by
  unfold bigR at hb
  simp only [Bool.or_eq_false_iff, decide_eq_false_iff_not] at hb
  have := hq.num.nl
  have := hq.den.nl
  unfold szQ
  omega

theorem OddP_spec {h0 h : Heap} {l : Sl} {xs : List X4} {Q : Bool → Heap → Prop} (hl : RS C_bool_sl_sl_sl 4 h l xs) (e0 : Ext h0 h) (hx : xs.length ≤ 1048576) (hraw : ∀ x ∈ xs, Raw4 h0 x)
    (K : ∀ b h', (b = false → ∀ x ∈ xs, SmP h0 x) → Ext h h' → Q b h') : law12uOdd l h Q := by
  have hlen := hl.len
  refine loop.inv (fun t h' => ∃ i : Nat, t = (i : Int) ∧ i ≤ xs.length ∧ (∀ x ∈ xs.take i, SmP h0 x) ∧ Ext h h') (fun t _ => xs.length - t.toNat) ⟨0, rfl, by omega, fun x hx => by simp at hx, Keep.refl _ _⟩ ?_
  rintro _ h1 ⟨i, rfl, hi, hsm, e1⟩
  refine ⟨fun hlt => ?_, fun hge => ?_⟩
  · simp only [decide_eq_true_eq] at hlt
    have hi' : i < xs.length := by omega
    refine (RS.ext hl e1).ld (i := (i : Int)) (j := i) rfl hi' ?_
    have hr := hraw xs[i] (List.getElem_mem hi')
    have htk : xs.take (i + 1) = xs.take i ++ [xs[i]] := List.take_succ_eq_append_getElem hi'
    generalize xs[i] = x at *
    refine mem_ext fun h2 e2 => ?_
    have e12 := e1.trans e2
    refine seq.cut (fun t h3 => (t = false → isP h0 x ∧ bigR (cst x) = false ∧ x.2.2.2.len ≤ 12) ∧ Ext h h3) ?_ ?_
    · refine ⟨fun _ => ⟨nofun, e12⟩, fun h12 => ?_⟩
      simp only [gt_iff_lt, decide_eq_false_iff_not] at h12
      refine great1 (x := cst x) fun h3 e3 => ⟨fun _ => ⟨nofun, e12.trans e3⟩, fun hb => ?_⟩
      refine RightP_spec hr (e0.trans (e12.trans e3)) (by show x.2.2.2.len ≤ 1048576; omega) fun b h4 hb4 e4 => ⟨fun hbf => ⟨hb4.1 (by simpa using hbf), hb, by omega⟩, e12.trans (e3.trans e4)⟩
    rintro t h3 ⟨hf, e3⟩
    refine ⟨fun ht => K true h3 nofun e3, fun ht => ?_⟩
    obtain ⟨⟨p, hp, hrt⟩, hbc, hxl⟩ := hf ht
    have hml := hp.m.len
    have hbc' := sz_of_bigR hp.c hbc
    have e03 := e0.trans e3
    refine loop.inv (fun t h' => ∃ j : Nat, t = (j : Int) ∧ j ≤ p.2.length ∧ (∀ m ∈ p.2.take j, szQ m.2 ≤ 6) ∧ Ext h h') (fun t _ => p.2.length - t.toNat) ⟨0, rfl, by omega, fun x hx => by simp at hx, e3⟩ ?_
    rintro _ h4 ⟨j, rfl, hj, hms, e4⟩
    refine ⟨fun hlt2 => ?_, fun hge2 => ?_⟩
    · simp only [decide_eq_true_eq] at hlt2
      have hj' : j < p.2.length := by omega
      refine (hp.m.ext (e0.trans e4)).at (i := (j : Int)) (j := j) rfl hj' fun a1 y hy hv hq => ⟨y, hy, mem_ext fun h5 e5 => ?_⟩
      refine great1 (x := co y) fun h6 e6 => ⟨fun _ => K true h6 nofun (e4.trans (e5.trans e6)), fun hb => ?_⟩
      refine ⟨⟨j + 1, by rw [w64 (by omega) (by omega)]; omega, by omega, ?_, e4.trans (e5.trans e6)⟩, ?_⟩
      · rw [List.take_succ_eq_append_getElem hj']
        intro m hm
        rcases List.mem_append.1 hm with hm | hm
        · exact hms m hm
        · simp only [List.mem_singleton] at hm
          subst hm
          exact sz_of_bigR hq.rq hb
      · rw [w64 (by omega) (by omega)]; omega
    · simp only [decide_eq_false_iff_not] at hge2
      have hjl : j = p.2.length := by omega
      subst hjl
      rw [List.take_length] at hms
      refine ⟨⟨i + 1, by rw [w64 (by omega) (by omega)]; omega, by omega, ?_, e4⟩, ?_⟩
      · rw [htk]
        intro z hz
        rcases List.mem_append.1 hz with hz | hz
        · exact hsm z hz
        · simp only [List.mem_singleton] at hz
          subst hz
          exact ⟨p, hp, hrt, by omega, hbc', hms⟩
      · rw [w64 (by omega) (by omega)]; omega
  · simp only [decide_eq_false_iff_not] at hge
    have : i = xs.length := by omega
    subst this
    rw [List.take_length] at hsm
    exact K false h1 (fun _ => hsm) e1

theorem Coef_spec {h : Heap} {x : X4} {p : Rat × PL} {v : Int} {Q : X3 → Heap → Prop} (hp : PQ h x p) (hl : p.2.length ≤ 1048576) (hs : ∀ m ∈ p.2, szQ m.2 ≤ 500)
    (K : ∀ r h', RD h' r (coefL p.2 v) → Ext h h' → Q r h') : ref12uCoef x v h Q := by
  have hml := hp.m.len
  refine mem_ext fun h1 e1 => ?_
  refine loop.inv (fun t h' => ∃ j : Nat, t.1 = (j : Int) ∧ j ≤ p.2.length ∧ coefL p.2 v = coefL (p.2.drop j) v ∧ Ext h h') (fun t _ => p.2.length - t.1.toNat) ⟨0, rfl, by omega, by simp, e1⟩ ?_
  rintro ⟨_, w⟩ h2 ⟨j, rfl, hj, hc, e2⟩
  refine ⟨fun hlt => ?_, fun hge => ?_⟩
  · simp only [decide_eq_true_eq] at hlt
    have hj' : j < p.2.length := by omega
    have hd : p.2.drop j = p.2[j] :: p.2.drop (j + 1) := List.drop_eq_getElem_cons hj'
    refine (hp.m.ext e2).at (i := (j : Int)) (j := j) rfl hj' fun a1 y hy hv hq => ⟨_, ld_var hy, ?_⟩
    rw [hd, coefL] at hc
    refine ⟨fun he => ?_, fun hne => ?_⟩
    · rw [beq_iff_eq, hv] at he
      rw [if_pos he] at hc
      refine (hp.m.ext e2).at (i := (j : Int)) (j := j) rfl hj' fun a2 y2 hy2 hv2 hq2 => ⟨co y2, ld_co hy2, ?_⟩
      refine OfQ_spec hq2.rq (by have := hs _ (List.getElem_mem hj'); omega) fun r h3 hr e3 => K _ h3 (by rw [hc]; exact hr) (e2.trans e3)
    · rw [beq_eq_false_iff_ne, hv] at hne
      rw [if_neg hne] at hc
      rintro _ rfl
      refine ⟨⟨j + 1, ?_, by omega, hc, e2⟩, ?_⟩
      · rw [w64 (by omega) (by omega)]; omega
      · simp only; rw [w64 (by omega) (by omega)]; omega
  · simp only [decide_eq_false_iff_not] at hge
    have : j = p.2.length := by omega
    subst this
    rw [List.drop_length, coefL] at hc
    refine Int_spec (n := 0) (by decide) fun r h3 hr e3 => K _ h3 (by rw [hc]; simpa using hr) (e2.trans e3)

theorem SameP_spec {h : Heap} {x y : X4} {p q : Rat × PL} {Q : Bool → Heap → Prop} (hp : PQ h x p) (hq : PQ h y q) (hl : p.2.length ≤ 1048576) (hl2 : q.2.length ≤ 1048576) (K : ∀ h', Ext h h' → Q (decide (p = q)) h') : ref12uSame x y h Q := by
  have hml := hp.m.len
  have hnl := hq.m.len
  refine mem_ext fun h1 e1 => ?_
  refine seq.cut (fun t h2 => t = !decide (p.1 = q.1 ∧ p.2.length = q.2.length) ∧ Ext h h2) ?_ ?_
  · refine SameQ_spec (hp.c.ext e1) (hq.c.ext e1) fun h2 e2 => ⟨fun hf => ⟨?_, e1.trans e2⟩, fun ht => ⟨?_, e1.trans e2⟩⟩
    · have : ¬ p.1 = q.1 := by simpa using hf
      simp [this]
    · have hc : p.1 = q.1 := by simpa using ht
      simp only [hc, true_and]
      rw [Bool.eq_iff_iff]
      simp
      omega
  · rintro t h2 ⟨rfl, e2⟩
    refine ⟨fun hf => ?_, fun ht => ?_⟩
    · have hn : ¬ (p.1 = q.1 ∧ p.2.length = q.2.length) := fun hh => by rw [decide_eq_true hh] at hf; cases hf
      have : decide (p = q) = false := decide_eq_false fun h => hn (by rw [h]; exact ⟨rfl, rfl⟩)
      rw [← this]; exact K h2 e2
    · have hy : p.1 = q.1 ∧ p.2.length = q.2.length := by simpa using ht
      refine loop.inv (fun t h' => ∃ j : Nat, t = (j : Int) ∧ j ≤ p.2.length ∧ p.2.take j = q.2.take j ∧ Ext h h') (fun t _ => p.2.length - t.toNat) ⟨0, rfl, by omega, rfl, e2⟩ ?_
      rintro _ h3 ⟨j, rfl, hj, hms, e3⟩
      refine ⟨fun hlt => ?_, fun hge => ?_⟩
      · simp only [decide_eq_true_eq] at hlt
        have hj' : j < p.2.length := by omega
        have hj2 : j < q.2.length := by omega
        refine seq.cut (fun t h4 => t = !decide (p.2[j] = q.2[j]) ∧ Ext h h4) ?_ ?_
        · refine (hp.m.ext e3).at (i := (j : Int)) (j := j) rfl hj' fun a1 y1 hy1 hv1 _ => ⟨_, ld_var hy1, (hq.m.ext e3).at (i := (j : Int)) (j := j) rfl hj2 fun a2 y2 hy2 hv2 _ => ⟨_, ld_var hy2, ?_⟩⟩
          rw [hv1, hv2]
          refine ⟨fun hne => ⟨?_, e3⟩, fun he => ?_⟩
          · have hn : p.2[j].1 ≠ q.2[j].1 := by simpa using hne
            rw [decide_eq_false fun h => hn (by rw [h])]; rfl
          · have he' : p.2[j].1 = q.2[j].1 := by simpa using he
            refine (hp.m.ext e3).at (i := (j : Int)) (j := j) rfl hj' fun a3 y3 hy3 _ hq3 => ⟨co y3, ld_co hy3, (hq.m.ext e3).at (i := (j : Int)) (j := j) rfl hj2 fun a4 y4 hy4 _ hq4 => ⟨co y4, ld_co hy4, ?_⟩⟩
            refine SameQ_spec hq3.rq hq4.rq fun h4 e4 => ⟨?_, e3.trans e4⟩
            congr 1
            rw [decide_eq_decide, Prod.ext_iff]
            exact ⟨fun h => ⟨he', h⟩, fun h => h.2⟩
        · rintro t h4 ⟨rfl, e4⟩
          refine ⟨fun hf => ?_, fun ht => ?_⟩
          · have hn : ¬ p.2[j] = q.2[j] := by simpa using hf
            have : decide (p = q) = false := decide_eq_false fun h => hn (by subst h; rfl)
            rw [← this]; exact K h4 e4
          · have he : p.2[j] = q.2[j] := by simpa using ht
            rintro _ rfl
            refine ⟨⟨j + 1, by rw [w64 (by omega) (by omega)]; omega, by omega, ?_, e4⟩, by rw [w64 (by omega) (by omega)]; omega⟩
            rw [List.take_succ_eq_append_getElem hj', List.take_succ_eq_append_getElem hj2, hms, he]
      · simp only [decide_eq_false_iff_not] at hge
        have h1 : j = p.2.length := by omega
        subst h1
        rw [List.take_length, hy.2, List.take_length] at hms
        have : decide (p = q) = true := decide_eq_true (Prod.ext hy.1 hms)
        rw [← this]; exact K h3 e3
end Go.Sh

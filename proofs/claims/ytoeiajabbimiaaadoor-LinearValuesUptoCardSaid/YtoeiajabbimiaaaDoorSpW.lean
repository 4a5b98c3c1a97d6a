/-
  Laws that the proof of this claim's statement leans on, each proved under the conditions that it states.
-/
import Derived.Test.YtoeiajabbimiaaaDoorSpV
set_option linter.unusedVariables false
set_option linter.unusedSimpArgs false
namespace Go.Sh
open Go Go.Lift

def valL (f : Int → Rat) : PL → Rat
  | [] => 0
  | m :: ms => m.2 * f m.1 + valL f ms
theorem valL_append {f : Int → Rat} {l : PL} {m : Int × Rat} : valL f (l ++ [m]) = valL f l + m.2 * f m.1 := by
  induction l with
  | nil => simp [valL]; grind
  | cons x l ih => simp only [List.cons_append, valL, ih]; grind
theorem valL_nzc {f : Int → Rat} {l : PL} {m : Int × Rat} : valL f (nzc m l) = m.2 * f m.1 + valL f l := by
  unfold nzc; split
  · rename_i h; rw [h]; grind
  · rfl
theorem valL_mrg {f : Int → Rat} {p q : PL} : valL f (mrg p q) = valL f p + valL f q := by
  induction p, q using mrg.induct with
  | case1 => rw [mrg_nn]; simp only [valL]; grind
  | case2 a as ih => rw [mrg_cn, valL_nzc, ih]; simp only [valL]; grind
  | case3 b bs ih => rw [mrg_nc, valL_nzc, ih]; simp only [valL]; grind
  | case4 a as b bs h1 ih => rw [mrg_cc, if_pos h1, valL_nzc, ih]; simp only [valL]; grind
  | case5 a as b bs h1 h2 ih => rw [mrg_cc, if_neg h1, if_pos h2, valL_nzc, ih]; simp only [valL]; grind
  | case6 a as b bs h1 h2 ih =>
    have he : a.1 = b.1 := by omega
    rw [mrg_cc, if_neg h1, if_neg h2, valL_nzc, ih]; simp only [valL, he]; grind
theorem valL_scL {f : Int → Rat} {c : Rat} {p : PL} : valL f (scL c p) = c * valL f p := by
  induction p with
  | nil => simp [scL, valL]
  | cons m ms ih => rw [scL_cons]; simp only [valL, ih]; grind
def vP (f : Int → Rat) (p : Rat × PL) : Rat := p.1 + valL f p.2
theorem vP_sc {f : Int → Rat} {c : Rat} {p : Rat × PL} : vP f (scP c p) = c * vP f p := by
  unfold scP vP; split
  · rename_i h; subst h; simp only [valL]; grind
  · simp only [valL_scL]; grind
theorem vP_add {f : Int → Rat} {c : Rat} {p q : Rat × PL} : vP f (addP p c q) = vP f p + c * vP f q := by
  rw [← vP_sc]
  unfold addP vP
  simp only [valL_mrg]; grind
def inR (n : Nat) (ms : PL) : Prop := ∀ m ∈ ms, 0 ≤ m.1 ∧ m.1 < (n : Int)
theorem inR_nzc {n : Nat} {m : Int × Rat} {l : PL} (h1 : 0 ≤ m.1 ∧ m.1 < (n : Int)) (h2 : inR n l) : inR n (nzc m l) := by
  unfold nzc; split
  · exact h2
  · intro x hx
    rcases List.mem_cons.1 hx with rfl | hx
    · exact h1
    · exact h2 x hx
theorem inR_tail {n : Nat} {m : Int × Rat} {l : PL} (h : inR n (m :: l)) : (0 ≤ m.1 ∧ m.1 < (n : Int)) ∧ inR n l := ⟨h m (by simp), fun x hx => h x (List.mem_cons_of_mem _ hx)⟩
theorem inR_mrg {n : Nat} {p q : PL} (hp : inR n p) (hq : inR n q) : inR n (mrg p q) := by
  induction p, q using mrg.induct with
  | case1 => rw [mrg_nn]; exact hp
  | case2 a as ih => rw [mrg_cn]; exact inR_nzc (inR_tail hp).1 (ih (inR_tail hp).2 hq)
  | case3 b bs ih => rw [mrg_nc]; exact inR_nzc (inR_tail hq).1 (ih hp (inR_tail hq).2)
  | case4 a as b bs h1 ih => rw [mrg_cc, if_pos h1]; exact inR_nzc (inR_tail hp).1 (ih (inR_tail hp).2 hq)
  | case5 a as b bs h1 h2 ih => rw [mrg_cc, if_neg h1, if_pos h2]; exact inR_nzc (inR_tail hq).1 (ih hp (inR_tail hq).2)
  | case6 a as b bs h1 h2 ih => rw [mrg_cc, if_neg h1, if_neg h2]; exact inR_nzc (inR_tail hp).1 (ih (inR_tail hp).2 (inR_tail hq).2)
theorem inR_scP {n : Nat} {c : Rat} {p : Rat × PL} (hp : inR n p.2) : inR n (scP c p).2 := by
  unfold scP; split
  · intro m hm; simp at hm
  · intro m hm
    simp only [scL, List.mem_map] at hm
    obtain ⟨m', hm', rfl⟩ := hm
    exact hp m' hm'

/-- Numbers in a row. -/
structure RL (K : Nat → Prop) (h : Heap) (s : Sl) (rs : List Rat) : Prop where
  row : ∃ xs : List X3, RS C_bool_sl_sl 3 h s xs ∧ All2 (fun x q => RK K h x q) xs rs
  off : rs ≠ [] → ∀ k, K k → s.blk ≠ some k
section
variable {K K' : Nat → Prop} {h h' h0 : Heap} {s : Sl} {rs : List Rat}
theorem RL.len (hm : RL K h s rs) : s.len = rs.length := by obtain ⟨ys, h1, h2⟩ := hm.row; rw [h1.len, h2.length]
theorem RL.keep (hm : RL K h s rs) {o : Option Nat} (e : Keep o h h') (ho : ∀ k, o = some k → K k) : RL K h' s rs := by
  obtain ⟨ys, h1, h2⟩ := hm.row
  refine ⟨⟨ys, h1.keep e fun hne a ha hh => ?_, h2.imp fun y m h3 => h3.keep e ho⟩, hm.off⟩
  have hms : rs ≠ [] := by rintro rfl; have := h2.length; simp at this; exact hne this
  exact hm.off hms _ (ho _ hh.symm) (by simp [Sl.blk, ha])
theorem RL.ext (hm : RL K h s rs) (e : Ext h h') : RL K h' s rs := hm.keep e (by simp)
theorem RL.raise (hm : RL K h s rs) (hk : ∀ k, K' k → K k ∨ h.size ≤ k) : RL K' h s rs := by
  obtain ⟨ys, h1, h2⟩ := hm.row
  refine ⟨⟨ys, h1, h2.imp fun y m h3 => h3.raise hk⟩, fun hne k h3 hb => ?_⟩
  rcases hk k h3 with h4 | h4
  · exact hm.off hne k h4 hb
  · have hys : ys ≠ [] := by rintro rfl; have := h2.length; simp at this; exact hne (List.eq_nil_of_length_eq_zero this.symm)
    have := h1.lt (by decide) hys hb
    omega
theorem RL.ld (hm : RL K h s rs) {i : Int} {j : Nat} {k : X3 → Prop} (hij : i = (j : Int)) (hj : j < rs.length) (C : ∀ x, RK K h x rs[j] → k x) : idxS s i 3 fun a => loadS C_bool_sl_sl 3 a h k := by
  obtain ⟨ys, h1, h2⟩ := hm.row
  have hjy : j < ys.length := by rw [h2.length]; exact hj
  exact h1.ld hij hjy (C _ (h2.get j hjy hj))
end
def at? (rs : List Rat) (v : Int) : Rat := rs.getD v.toNat 0

theorem Contains_spec {K : Nat → Prop} {h : Heap} {s : Sl} {ms : PL} {c : Addr} {l : Sl} {n : Nat} {Q : Bool → Heap → Prop} (hm : MK K h s ms) (hc : cell? h c = some (Sl.toV l)) (hl : l.len = n) (hb : ms.length ≤ 1048576)
    (C1 : inR n ms → ∀ h', Ext h h' → Q false h') (C2 : ¬ inR n ms → ∀ h', Ext h h' → Q true h') : slices_ContainsFunc_api_Mono_api_Mono__linear_Value_c1 s c h Q := by
  have hlen := hm.len
  unfold slices_ContainsFunc_api_Mono_api_Mono__linear_Value_c1 slices_IndexFunc_api_Mono_api_Mono__linear_Value_c1
  refine loop.inv (fun t h' => ∃ j : Nat, t = (j : Int) ∧ j ≤ ms.length ∧ inR n (ms.take j) ∧ Ext h h') (fun t _ => ms.length - t.toNat) ⟨0, rfl, by omega, fun m hm => by simp at hm, Keep.refl _ _⟩ ?_
  rintro _ h1 ⟨j, rfl, hj, hr, e1⟩
  refine ⟨fun hlt => ?_, fun hge => ?_⟩
  · simp only [decide_eq_true_eq] at hlt
    have hj' : j < ms.length := by omega
    refine (hm.ext e1).at (i := (j : Int)) (j := j) rfl hj' fun a1 y hy hv _ => ⟨y, hy, mem_ext fun h2 e2 => ?_⟩
    have e02 := e1.trans e2
    refine seq.cut (fun t h3 => t = decide (¬ (0 ≤ ms[j].1 ∧ ms[j].1 < (n : Int))) ∧ h3 = h2) ?_ ?_
    · refine ⟨fun hn => ⟨?_, rfl⟩, fun hn => ⟨l, cell_keep e02 hc (by simp), ?_, rfl⟩⟩
      · simp only [decide_eq_true_eq] at hn
        symm; rw [decide_eq_true_eq]; omega
      · simp only [decide_eq_false_iff_not] at hn
        rw [decide_eq_decide]
        omega
    · rintro t h3 ⟨rfl, rfl⟩
      refine ⟨fun ht => ?_, fun ht => ?_⟩
      · simp only [decide_eq_true_eq] at ht
        have : decide (((j : Nat) : Int) ≥ 0) = true := by simp
        rw [this]
        exact C2 (fun h => ht (h _ (List.getElem_mem hj'))) h3 e02
      · simp only [decide_eq_false_iff_not, Classical.not_not] at ht
        refine ⟨⟨j + 1, by rw [w64 (by omega) (by omega)]; omega, by omega, ?_, e02⟩, by rw [w64 (by omega) (by omega)]; omega⟩
        rw [List.take_succ_eq_append_getElem hj']
        intro m hm
        rcases List.mem_append.1 hm with hm | hm
        · exact hr m hm
        · simp only [List.mem_singleton] at hm
          subst hm; exact ht
  · simp only [decide_eq_false_iff_not] at hge
    have : j = ms.length := by omega
    subst this
    rw [List.take_length] at hr
    exact C1 hr h1 e1

theorem ValueP_spec {h0 h : Heap} {a : Addr} {x : X4} {p : Rat × PL} {reals : Sl} {rs : List Rat} {T : Nat} {Q : (X3 × Int) → Heap → Prop} (hv : BO h0 a 1000 false h) (hc : RK (· = a.block) h (cst x) p.1) (hm : MK (· = a.block) h x.2.2.2 p.2) (hr : RL (· = a.block) h reals rs)
    (hl : p.2.length ≤ 25) (s1 : szQ p.1 ≤ T) (s2 : ∀ m ∈ p.2, szQ m.2 ≤ T) (s3 : ∀ q ∈ rs, szQ q ≤ 6) (hT : T ≤ 22)
    (C1 : inR rs.length p.2 → ∀ r h', BO h0 a 1000 false h' → Keep (some a.block) h h' → RK (· = a.block) h' r (vP (at? rs) p) → szQ (vP (at? rs) p) ≤ T + 25 * (T + 12) → Q (r, 0) h')
    (C2 : ¬ inR rs.length p.2 → ∀ h', Ext h h' → Q ((false, Sl.nil, Sl.nil), 2) h') : linear_Value (some a) x reals h Q := by
  have hlen := hm.len
  have hrl := hr.len
  refine mem_ext fun h1 e1 => new_cell fun c h2 hcc hcb _ _ e2 _ => mem_ext fun h3 e3 => ?_
  have e03 := e1.trans (e2.trans e3)
  have hc3 := cell_keep e3 hcc (by simp)
  have v3 := hv.of_ext e03
  have hca : c.block ≠ a.block := by have := (hv.of_ext e1).lt; omega
  refine Contains_spec (hm.ext e03) hc3 hrl (by omega) (fun hin h4 e4 => ⟨nofun, fun _ => mem_ext fun h5 e5 => ?_⟩) (fun hin h4 e4 => ⟨fun _ => C2 hin h4 (e03.trans e4), nofun⟩)
  have e05 := e03.trans (e4.trans e5)
  have v5 := hv.of_ext e05
  have hc5 := cell_keep (e4.trans e5) hc3 (by simp)
  have bnd : ∀ j, j ≤ p.2.length → szQ (p.1 + valL (at? rs) (p.2.take j)) ≤ T + j * (T + 12) := by
    intro j
    induction j with
    | zero => intro _; simp [valL]; have : p.1 + 0 = p.1 := by grind
              rw [this]; omega
    | succ j ih =>
      intro hj
      have ih' := ih (by omega)
      have hjl : j < p.2.length := by omega
      rw [List.take_succ_eq_append_getElem hjl, valL_append]
      have hms := s2 p.2[j] (List.getElem_mem hjl)
      obtain ⟨i1, i2⟩ := hin p.2[j] (List.getElem_mem hjl)
      have hat : at? rs p.2[j].1 ∈ rs := by
        unfold at?
        rw [List.getD_eq_getElem?_getD, List.getElem?_eq_getElem (by omega)]
        exact List.getElem_mem _
      have hsr := s3 _ hat
      have m1 := sz_mul p.2[j].2 (at? rs p.2[j].1)
      have a1 := sz_add (p.1 + valL (at? rs) (p.2.take j)) (p.2[j].2 * at? rs p.2[j].1)
      rw [← Rat.add_assoc]
      rw [Nat.add_mul]
      omega
  refine loop.inv (fun t h' => ∃ j : Nat, t.1 = (j : Int) ∧ j ≤ p.2.length ∧ BO h0 a 1000 false h' ∧ Keep (some a.block) h5 h' ∧ RK (· = a.block) h' (t.2.1, t.2.2.1, t.2.2.2) (p.1 + valL (at? rs) (p.2.take j))) (fun t _ => p.2.length - t.1.toNat)
    ⟨0, rfl, by omega, v5, Keep.refl _ _, by have h1 := hc.ext e05; have h2 : p.1 + valL (at? rs) (p.2.take 0) = p.1 := by simp only [List.take_zero, valL]; grind
                                             rw [h2]; exact h1⟩ ?_
  rintro ⟨_, w⟩ h6 ⟨j, rfl, hj, v6, k6, hw⟩
  simp only at hw
  refine ⟨fun hlt => ?_, fun hge => ?_⟩
  · simp only [decide_eq_true_eq] at hlt
    have hj' : j < p.2.length := by omega
    have k06 : Keep (some a.block) h h6 := (Keep.of_ext e05).trans k6
    have hb1 := bnd j hj
    have hb2 := bnd (j + 1) (by omega)
    rw [List.take_succ_eq_append_getElem hj', valL_append, ← Rat.add_assoc] at hb2
    have hms := s2 p.2[j] (List.getElem_mem hj')
    obtain ⟨i1, i2⟩ := hin p.2[j] (List.getElem_mem hj')
    have htn : p.2[j].1.toNat < rs.length := by omega
    have hat : at? rs p.2[j].1 = rs[p.2[j].1.toNat] := by
      unfold at?
      rw [List.getD_eq_getElem?_getD, List.getElem?_eq_getElem htn]; rfl
    have hsr := s3 _ (List.getElem_mem htn)
    have htk : p.2.take (j + 1) = p.2.take j ++ [p.2[j]] := List.take_succ_eq_append_getElem hj'
    have jb : j * (T + 12) ≤ 24 * (T + 12) := Nat.mul_le_mul_right _ (by omega)
    have jb2 : (j + 1) * (T + 12) ≤ 25 * (T + 12) := Nat.mul_le_mul_right _ (by omega)
    refine (hm.keep k06 (fun k hk => by cases hk; rfl)).at (i := (j : Int)) (j := j) rfl hj' fun a1 y hy hv1 hr1 => ⟨y, hy, mem_ext fun h7 e7 => ?_⟩
    have v7 := v6.of_ext e7
    refine ⟨reals, cell_keep e7 (cell_keep k6 hc5 (by simpa using hca)) (by simp), ?_⟩
    refine ((hr.keep k06 (fun k hk => by cases hk; rfl)).ext e7).ld (j := p.2[j].1.toNat) (by rw [hv1]; omega) htn fun x2 hx2 => ?_
    have m1 := sz_mul p.2[j].2 rs[p.2[j].1.toNat]
    refine MulQ_spec v7.tb v7.bench (hr1.ext e7).rq hx2.rq (by omega) fun r h8 hb8 k8 hr8 hf8 => ?_
    have hfit : (false || decide (1000 < szQ (p.2[j].2 * rs[p.2[j].1.toNat]))) = false := by simp; omega
    rw [hfit] at hb8 hr8
    rw [val'_false] at hr8
    have v8 := v7.keep hb8 k8
    have hw8 := (hw.ext e7).keep k8 (fun k hk => by cases hk; rfl)
    rw [hat] at hb2
    refine AddQ_spec v8.tb v8.bench hw8.rq hr8.rq (by omega) fun r2 h9 hb9 k9 hr9 hf9 => ?_
    have hfit2 : (false || decide (1000 < szQ (p.1 + valL (at? rs) (p.2.take j) + p.2[j].2 * rs[p.2[j].1.toNat]))) = false := by simp; omega
    rw [hfit2] at hb9 hr9
    rw [val'_false] at hr9
    have v9 := v8.keep hb9 k9
    refine ⟨⟨j + 1, by rw [w64 (by omega) (by omega)]; omega, by omega, v9, k6.trans ((Keep.of_ext e7).trans (k8.trans k9)), ?_⟩, by simp only; rw [w64 (by omega) (by omega)]; omega⟩
    rw [htk, valL_append, hat, ← Rat.add_assoc]
    exact RK.fresh hr9.rq hf9 fun k (hk : k = a.block) => hk ▸ v8.lt
  · simp only [decide_eq_false_iff_not] at hge
    have hjl : j = p.2.length := by omega
    subst hjl
    have hb := bnd _ hj
    rw [List.take_length] at hw hb
    have jb : p.2.length * (T + 12) ≤ 25 * (T + 12) := Nat.mul_le_mul_right _ (by omega)
    exact Over_spec v6.bench ⟨nofun, fun _ => C1 hin _ h6 v6 ((Keep.of_ext e05).trans k6) hw (by unfold vP; omega)⟩
end Go.Sh

namespace Go.Sh
open Go Go.Lift

/-- Numbers as they come in. -/
def RawL (h : Heap) (s : Sl) : Prop := ∃ xs : List X3, RS C_bool_sl_sl 3 h s xs ∧ (∀ x ∈ xs, RawB h x) ∧ xs.length ≤ 1048576

theorem LinearValues_holds {p q : X4} {k : X3} {reals : Sl} {h : Heap} {Q : Bool → Heap → Prop} (ht : Tab h) (hp : Raw4 h p) (hq : Raw4 h q) (hk : RawB h k) (hr : RawL h reals) (K : ∀ h', Ext h h' → Q true h') : law12uLinearValues p q k reals h Q := by
  obtain ⟨xs, hxs, hraws, hxl⟩ := hr
  have hlen := hxs.len
  refine mem_ext fun h1 e1 => speaks12uspec (R.ext ht e1) fun h2 e2 => ⟨nofun, fun _ => ?_⟩
  have e02 := e1.trans e2
  refine seq.cut (fun t h3 => (t = false → (∃ P, PQ h p P ∧ Few4 P) ∧ (∃ R, PQ h q R ∧ Few4 R) ∧ (∃ c, RQ h k c ∧ szQ c ≤ 6) ∧ xs.any bigR = false) ∧ Ext h h3) ?_ ?_
  · refine newRS (toC := C_bool_sl_sl_sl) (sz := 4) (xs := [p, q, (k.1, k.2.1, k.2.2, Sl.nil)]) 3 len4x rfl rfl fun l h3 hr hl e3 => ?_
    have e03 := e02.trans e3
    have hraw : ∀ z ∈ [p, q, ((k.1, k.2.1, k.2.2, Sl.nil) : X4)], Raw4 h z := by
      intro z hz
      simp only [List.mem_cons, List.not_mem_nil, or_false] at hz
      rcases hz with rfl | rfl | rfl
      · exact hp
      · exact hq
      · exact Raw4.ofK hk
    refine OddP_spec hr e03 (by simp) hraw fun b h4 hb e4 => ⟨fun _ => ⟨nofun, e03.trans e4⟩, fun hf => ⟨fun _ => ⟨nofun, e03.trans e4⟩, fun _ => ?_⟩⟩
    have hall := hb hf
    obtain ⟨⟨c, kl⟩, hC, fC⟩ := hall (k.1, k.2.1, k.2.2, Sl.nil) (by simp)
    refine Great_spec (xs := xs) (RS.ext hxs (e03.trans e4)) hxl fun h5 e5 => ⟨fun hg => ⟨hall p (by simp), hall q (by simp), ⟨c, hC.c, fC.c⟩, hg⟩, e03.trans (e4.trans e5)⟩
  rintro t h3 ⟨hok, e3⟩
  refine ⟨fun _ => K h3 e3, fun hf => ?_⟩
  obtain ⟨⟨P, hP, fP⟩, ⟨R, hR, fR⟩, ⟨c, hc, sc⟩, hbig⟩ := hok hf
  have b1 := fP.c; have b2 := fP.m; have b3 := fR.c; have b4 := fR.m; have n1 := fP.n; have n2 := fR.n
  refine loop.inv (fun t h' => ∃ (j : Nat) (rs : List Rat), t = (j : Int) ∧ j ≤ xs.length ∧ rs.length = j ∧ All2 (fun x q => RQ h x q ∧ szQ q ≤ 6) (xs.take j) rs ∧ Ext h h') (fun t _ => xs.length - t.toNat) ⟨0, [], rfl, by omega, rfl, .nil, e3⟩ ?_
  rintro _ h4 ⟨j, rs, rfl, hj, hrl, hall, e4⟩
  refine ⟨fun hlt => ?_, fun hge => ?_⟩
  · simp only [decide_eq_true_eq] at hlt
    have hj' : j < xs.length := by omega
    have hbx : bigR xs[j] = false := by
      rw [List.any_eq_false] at hbig
      simpa using hbig _ (List.getElem_mem hj')
    have htk : xs.take (j + 1) = xs.take j ++ [xs[j]] := List.take_succ_eq_append_getElem hj'
    have hrx := hraws xs[j] (List.getElem_mem hj')
    refine (RS.ext hxs e4).ld (i := (j : Int)) (j := j) rfl hj' ?_
    generalize xs[j] = x at *
    refine mem_ext fun h5 e5 => ?_
    obtain ⟨us, ud, hU, lu, lud⟩ := hrx
    refine RightD_spec (hU.ext (e4.trans e5)) lu lud fun b h6 hb e6 => ⟨fun _ => K h6 (e4.trans (e5.trans e6)), fun hbt => ?_⟩
    have hbt' : b = true := by simpa using hbt
    have hq := (RawB.isQ_ext ⟨us, ud, hU, lu, lud⟩ (e4.trans e5)).1 (hb.1 hbt')
    obtain ⟨v, hv⟩ := hq
    refine ⟨⟨j + 1, rs ++ [v], by rw [w64 (by omega) (by omega)]; omega, by omega, by simp [hrl], ?_, e4.trans (e5.trans e6)⟩, by rw [w64 (by omega) (by omega)]; omega⟩
    rw [htk]
    exact hall.append (.cons ⟨hv, sz_of_bigR hv hbx⟩ .nil)
  · simp only [decide_eq_false_iff_not] at hge
    have hjl : j = xs.length := by omega
    subst hjl
    rw [List.take_length] at hall
    have s3 : ∀ q ∈ rs, szQ q ≤ 6 := fun q hq => by
      obtain ⟨n, hn, rfl⟩ := List.getElem_of_mem hq
      have := hall.length
      exact (hall.get n (by omega) hn).2
    refine New_spec fun a h5 hb5 hab e5 => ?_
    have e05 := e4.trans e5
    have hah : h.size ≤ a.block := by have := e4.size; omega
    have v5 : BO h a 1000 false h5 := ⟨ht, hb5, e05, hah⟩
    have kn : ∀ k', k' = a.block → h.size ≤ k' := fun k' hk' => hk' ▸ hah
    have RLB : RL (· = a.block) h reals rs := by
      have h0 : RL K0 h reals rs := ⟨⟨xs, hxs, hall.imp fun x q h => RK.of_rq h.1 fun k hk => hk.elim⟩, fun _ k hk => hk.elim⟩
      exact h0.raise fun k' hk' => .inr (kn k' hk')
    have PRb : ∀ {h' : Heap} {x : X4} {p : Rat × PL}, PQ h x p → BO h a 1000 false h' → RK (· = a.block) h' (cst x) p.1 ∧ MK (· = a.block) h' x.2.2.2 p.2 := fun hp v => hp.rk v.ext v.old
    have RLX : ∀ {h' : Heap}, BO h a 1000 false h' → RL (· = a.block) h' reals rs := fun v => RLB.ext v.ext
    have CX : ∀ {h' : Heap}, BO h a 1000 false h' → RK (· = a.block) h' k c := fun v => hc.rk v.ext v.old
    -- the last step, where one of the two isn't told
    have out : ∀ {h' : Heap} {e f : Int}, (e ≠ 0 ∨ f ≠ 0) → Ext h h' → ∀ {J : Bool → Heap → Prop}, (∀ h'', Ext h h'' → J true h'') → seq (fun K0u2 : Bool → Heap → Prop => iteB (e != 0) (K0u2 true h') (K0u2 (f != 0) h')) (fun t h'' => J t h'') := by
      intro h' e f hef e' J k
      refine seq.cut (fun t h'' => t = true ∧ h'' = h') ⟨fun _ => ⟨rfl, rfl⟩, fun he => ⟨?_, rfl⟩⟩ ?_
      · have : e = 0 := by simpa using he
        rcases hef with h | h
        · exact absurd this h
        · simpa using h
      · rintro t h'' ⟨rfl, rfl⟩
        exact k _ e'
    obtain ⟨p1, p2⟩ := PRb hP v5
    refine ValueP_spec (p := P) (rs := rs) (T := 6) v5 p1 p2 (RLX v5) (by omega) b1 b2 s3 (by omega) (fun inP r6 h6 v6 k6 hr6 z6 => mem_ext fun h7 e7 => ?_) (fun inP h6 e6 => mem_ext fun h7 e7 => ?_)
    · have v7 := v6.of_ext e7
      obtain ⟨q1, q2⟩ := PRb hR v7
      refine ValueP_spec (p := R) (rs := rs) (T := 6) v7 q1 q2 (RLX v7) (by omega) b3 b4 s3 (by omega) (fun inQ r8 h8 v8 k8 hr8 z8 => mem_ext fun h9 e9 => ?_) (fun inQ h8 e8 => mem_ext fun h9 e9 => ?_)
      · have v9 := v8.of_ext e9
        have r6u9 : RK (· = a.block) h9 r6 (vP (at? rs) P) := ((hr6.ext e7).keep k8 (fun k hk => by cases hk; rfl)).ext e9
        have r8u9 : RK (· = a.block) h9 r8 (vP (at? rs) R) := hr8.ext e9
        refine seq.cut (fun t h10 => t = false ∧ h10 = h9) ⟨fun hn => by simp at hn, fun _ => ⟨rfl, rfl⟩⟩ ?_
        rintro t h10 ⟨rfl, rfl⟩
        refine ⟨nofun, fun _ => ?_⟩
        obtain ⟨p1, p2⟩ := PRb hP v9
        obtain ⟨q1, q2⟩ := PRb hR v9
        obtain ⟨y1, y2⟩ := scP_sz (n := 6) sc b3 b4
        have hfs : fitsP 1000 (scP c R) = true := by
          unfold fitsP; rw [Bool.and_eq_true, List.all_eq_true]
          exact ⟨decide_eq_true (by omega), fun m hm => decide_eq_true (by have := y2 m hm; omega)⟩
        have asz : szQ (addP P c R).1 ≤ 22 := by
          have := sz_add P.1 (scP c R).1
          unfold addP; simp only; omega
        have msz : ∀ m ∈ (addP P c R).2, szQ m.2 ≤ 22 := by
          have gen : ∀ (l r : PL), (∀ m ∈ l, szQ m.2 ≤ 6) → (∀ m ∈ r, szQ m.2 ≤ 14) → ∀ m ∈ mrg l r, szQ m.2 ≤ 22 := by
            intro l r
            have nz : ∀ {x : Int × Rat} {t : PL}, szQ x.2 ≤ 22 → (∀ m ∈ t, szQ m.2 ≤ 22) → ∀ m ∈ nzc x t, szQ m.2 ≤ 22 := by
              intro x t hx ht m hm
              unfold nzc at hm; split at hm
              · exact ht m hm
              · rcases List.mem_cons.1 hm with rfl | hm
                · exact hx
                · exact ht m hm
            induction l, r using mrg.induct with
            | case1 => intro _ _ m hm; rw [mrg_nn] at hm; simp at hm
            | case2 x as ih => intro hl hr; rw [mrg_cn]; exact nz (by have := hl x (by simp); omega) (ih (fun m hm => hl m (List.mem_cons_of_mem _ hm)) hr)
            | case3 x bs ih => intro hl hr; rw [mrg_nc]; exact nz (by have := hr x (by simp); omega) (ih hl (fun m hm => hr m (List.mem_cons_of_mem _ hm)))
            | case4 x as y bs h1 ih => intro hl hr; rw [mrg_cc, if_pos h1]; exact nz (by have := hl x (by simp); omega) (ih (fun m hm => hl m (List.mem_cons_of_mem _ hm)) hr)
            | case5 x as y bs h1 h2 ih => intro hl hr; rw [mrg_cc, if_neg h1, if_pos h2]; exact nz (by have := hr y (by simp); omega) (ih hl (fun m hm => hr m (List.mem_cons_of_mem _ hm)))
            | case6 x as y bs h1 h2 ih =>
              intro hl hr; rw [mrg_cc, if_neg h1, if_neg h2]
              exact nz (by have := hl x (by simp); have := hr y (by simp); have := sz_add x.2 y.2; simp only; omega) (ih (fun m hm => hl m (List.mem_cons_of_mem _ hm)) (fun m hm => hr m (List.mem_cons_of_mem _ hm)))
          exact gen _ _ b2 (fun m hm => by have := y2 m hm; omega)
        have hfa : fitsP 1000 (addP P c R) = true := by
          unfold fitsP; rw [Bool.and_eq_true, List.all_eq_true]
          exact ⟨decide_eq_true (by omega), fun m hm => decide_eq_true (by have := msz m hm; omega)⟩
        have la : (addP P c R).2.length ≤ 24 := by
          rw [addP_eq fP.rt fR.rt]
          have := addR_len (p := P.2) (q := R.2) (c := c); unfold addQ; simp only; omega
        refine AddP_spec (p := P) (q := R) (c := c) v9 (CX v9) p1 p2 q1 q2 (by omega) (by omega) (fun m hm => by have := b2 m hm; omega) (by omega) (fun m hm => by have := b4 m hm; omega) (by omega) (by omega) fun w h11 ov v11 k11 hov hw hwm => ?_
        have hovf : ov = false := by
          cases hh : ov with
          | false => rfl
          | true =>
            rcases hov hh with h | h | h
            · cases h
            · rw [hfs] at h; cases h
            · rw [hfa] at h; cases h
        subst hovf
        have inA : inR rs.length (addP P c R).2 := inR_mrg inP (inR_scP inQ)
        have r6u11 := r6u9.keep k11 (fun k hk => by cases hk; rfl)
        have r8u11 := r8u9.keep k11 (fun k hk => by cases hk; rfl)
        refine ValueP_spec (p := addP P c R) (rs := rs) (T := 22) v11 hw hwm (RLX v11) (by omega) asz msz s3 (by omega) (fun _ r12 h12 v12 k12 hr12 z12 => mem_ext fun h13 e13 => ?_) (fun hn => absurd inA hn)
        have v13 := v12.of_ext e13
        obtain ⟨q1, q2⟩ := PRb hR v13
        refine Scale_spec (c0 := R.1) (ms := R.2) v13 (CX v13) q1 q2 (by omega) (by omega) (fun m hm => by have := b4 m hm; omega) (by omega) fun w2 h14 v14 k14 hw2 hwm2 => ?_
        have hsf : (false || !fitsP 1000 (scP c (R.1, R.2))) = false := by show (false || !fitsP 1000 (scP c R)) = false; rw [hfs]; rfl
        rw [hsf] at v14 hw2 hwm2
        have inS : inR rs.length (scP c R).2 := inR_scP inQ
        have ls : (scP c R).2.length ≤ 12 := by have := scL_len (c := c) (p := R); omega
        refine ValueP_spec (p := scP c R) (rs := rs) (T := 14) v14 hw2 hwm2 (RLX v14) (by omega) (by omega) (fun m hm => by have := y2 m hm; omega) s3 (by omega) (fun _ r15 h15 v15 k15 hr15 z15 => mem_ext fun h16 e16 => ?_) (fun hn => absurd inS hn)
        have v16 := v15.of_ext e16
        have up : ∀ {x : X3} {q : Rat}, RK (· = a.block) h11 x q → RK (· = a.block) h16 x q := fun hx =>
          ((((hx.keep k12 (fun k hk => by cases hk; rfl)).ext e13).keep k14 (fun k hk => by cases hk; rfl)).keep k15 (fun k hk => by cases hk; rfl)).ext e16
        have A6 := up r6u11
        have A8 := up r8u11
        have A12 : RK (· = a.block) h16 r12 (vP (at? rs) (addP P c R)) := (((hr12.ext e13).keep k14 (fun k hk => by cases hk; rfl)).keep k15 (fun k hk => by cases hk; rfl)).ext e16
        have A15 : RK (· = a.block) h16 r15 (vP (at? rs) (scP c R)) := hr15.ext e16
        rw [vP_add] at A12 z12
        rw [vP_sc] at A15 z15
        have m1 := sz_mul c (vP (at? rs) R)
        refine seq.cut (fun t h17 => t = true ∧ BO h a 1000 false h17) ?_ ?_
        · refine ⟨fun _ => ⟨fun _ => ?_, fun hn => by simp at hn⟩, fun hn => by simp at hn⟩
          refine MulQ_spec v16.tb v16.bench (CX v16).rq A8.rq (by omega) fun r17 h17 hb17 k17 hr17 hf17 => ?_
          have f17 : (false || decide (1000 < szQ (c * vP (at? rs) R))) = false := by simp; omega
          rw [f17] at hb17 hr17
          rw [val'_false] at hr17
          have v17 := v16.keep hb17 k17
          refine AddQ_spec v17.tb v17.bench (A6.keep k17 (fun k hk => by cases hk; rfl)).rq hr17.rq (by omega) fun r18 h18 hb18 k18 hr18 hf18 => ?_
          have f18 : (false || decide (1000 < szQ (vP (at? rs) P + c * vP (at? rs) R))) = false := by simp; omega
          rw [f18] at hb18 hr18
          rw [val'_false] at hr18
          have v18 := v17.keep hb18 k18
          have A12' := (A12.keep k17 (fun k hk => by cases hk; rfl)).keep k18 (fun k hk => by cases hk; rfl)
          refine SameQ_spec A12'.rq hr18.rq fun h19 e19 => ?_
          rw [decide_eq_true rfl]
          refine ⟨fun _ => ?_, nofun⟩
          have v19 := v18.of_ext e19
          have A8' := (((A8.keep k17 (fun k hk => by cases hk; rfl)).keep k18 (fun k hk => by cases hk; rfl)).ext e19)
          refine MulQ_spec v19.tb v19.bench (CX v19).rq A8'.rq (by omega) fun r20 h20 hb20 k20 hr20 hf20 => ?_
          rw [f17] at hb20 hr20
          rw [val'_false] at hr20
          have v20 := v19.keep hb20 k20
          have A15' := ((((A15.keep k17 (fun k hk => by cases hk; rfl)).keep k18 (fun k hk => by cases hk; rfl)).ext e19).keep k20 (fun k hk => by cases hk; rfl))
          refine SameQ_spec A15'.rq hr20.rq fun h21 e21 => ?_
          rw [decide_eq_true rfl]
          have v21 := v20.of_ext e21
          exact ⟨fun _ => Over_spec v21.bench ⟨rfl, v21⟩, nofun⟩
        · rintro t h17 ⟨rfl, v17⟩
          exact K _ v17.ext
      · have e9' := v7.ext.trans (e8.trans e9)
        exact out (.inr (by decide)) e9' (J := fun t h => iteB t (Q true h) _) fun h'' e'' => ⟨fun _ => K _ e'', nofun⟩
    · have e7' := v5.ext.trans (e6.trans e7)
      have v7 : BO h a 1000 false h7 := v5.of_ext (e6.trans e7)
      obtain ⟨q1, q2⟩ := PRb hR v7
      refine ValueP_spec (p := R) (rs := rs) (T := 6) v7 q1 q2 (RLX v7) (by omega) b3 b4 s3 (by omega) (fun inQ r8 h8 v8 k8 hr8 z8 => mem_ext fun h9 e9 => ?_) (fun inQ h8 e8 => mem_ext fun h9 e9 => ?_)
      · exact out (.inl (by decide)) (v8.ext.trans e9) (J := fun t h => iteB t (Q true h) _) fun h'' e'' => ⟨fun _ => K _ e'', nofun⟩
      · exact out (.inl (by decide)) (v7.ext.trans (e8.trans e9)) (J := fun t h => iteB t (Q true h) _) fun h'' e'' => ⟨fun _ => K _ e'', nofun⟩
end Go.Sh

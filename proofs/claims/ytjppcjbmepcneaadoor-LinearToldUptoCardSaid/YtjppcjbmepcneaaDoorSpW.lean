/-
  Laws that the proof of this claim's statement leans on, each proved under the conditions that it states.
-/
import Derived.Test.YtjppcjbmepcneaaDoorSpV
set_option linter.unusedVariables false
set_option linter.unusedSimpArgs false
namespace Go.Sh
open Go Go.Lift

def valL (f : Int → Rat) : PL → Rat
  | [] => 0
  | m :: ms => m.2 * f m.1 + valL f ms
theorem valL_append {f : Int → Rat} {l : PL} {m : Int × Rat} : valL f (l ++ [m]) = valL f l + m.2 * f m.1 := by
  induction l with
  | nil => simp [valL]; grind
  | cons x l ih => simp only [List.cons_append, valL, ih]; grind
def vP (f : Int → Rat) (p : Rat × PL) : Rat := p.1 + valL f p.2
def inR (n : Nat) (ms : PL) : Prop := ∀ m ∈ ms, 0 ≤ m.1 ∧ m.1 < (n : Int)
/-- Numbers in a row. -/
structure RL (K : Nat → Prop) (h : Heap) (s : Sl) (rs : List Rat) : Prop where
  row : ∃ xs : List X3, RS C_bool_sl_sl 3 h s xs ∧ All2 (fun x q => RK K h x q) xs rs
  off : rs ≠ [] → ∀ k, K k → s.blk ≠ some k
section
variable {K K' : Nat → Prop} {h h' h0 : Heap} {s : Sl} {rs : List Rat}
theorem RL.len (hm : RL K h s rs) : s.len = rs.length := by obtain ⟨ys, h1, h2⟩ := hm.row; rw [h1.len, h2.length]
theorem RL.keep (hm : RL K h s rs) {o : Option Nat} (e : Keep o h h') (ho : ∀ k, o = some k → K k) : RL K h' s rs := by
  obtain ⟨ys, h1, h2⟩ := hm.row
  refine ⟨⟨ys, h1.keep e fun hne a ha hh => ?_, h2.imp fun y m h3 => h3.keep e ho⟩, hm.off⟩
  have hms : rs ≠ [] := by rintro rfl; have := h2.length; simp at this; exact hne this
  exact hm.off hms _ (ho _ hh.symm) (by simp [Sl.blk, ha])
theorem RL.ext (hm : RL K h s rs) (e : Ext h h') : RL K h' s rs := hm.keep e (by simp)
theorem RL.raise (hm : RL K h s rs) (hk : ∀ k, K' k → K k ∨ h.size ≤ k) : RL K' h s rs := by
  obtain ⟨ys, h1, h2⟩ := hm.row
  refine ⟨⟨ys, h1, h2.imp fun y m h3 => h3.raise hk⟩, fun hne k h3 hb => ?_⟩
  rcases hk k h3 with h4 | h4
  · exact hm.off hne k h4 hb
  · have hys : ys ≠ [] := by rintro rfl; have := h2.length; simp at this; exact hne (List.eq_nil_of_length_eq_zero this.symm)
    have := h1.lt (by decide) hys hb
    omega
theorem RL.ld (hm : RL K h s rs) {i : Int} {j : Nat} {k : X3 → Prop} (hij : i = (j : Int)) (hj : j < rs.length) (C : ∀ x, RK K h x rs[j] → k x) : idxS s i 3 fun a => loadS C_bool_sl_sl 3 a h k := by
  obtain ⟨ys, h1, h2⟩ := hm.row
  have hjy : j < ys.length := by rw [h2.length]; exact hj
  exact h1.ld hij hjy (C _ (h2.get j hjy hj))
end
def at? (rs : List Rat) (v : Int) : Rat := rs.getD v.toNat 0

theorem Contains_spec {K : Nat → Prop} {h : Heap} {s : Sl} {ms : PL} {c : Addr} {l : Sl} {n : Nat} {Q : Bool → Heap → Prop} (hm : MK K h s ms) (hc : cell? h c = some (Sl.toV l)) (hl : l.len = n) (hb : ms.length ≤ 1048576)
    (C1 : inR n ms → ∀ h', Ext h h' → Q false h') (C2 : ¬ inR n ms → ∀ h', Ext h h' → Q true h') : slices_ContainsFunc_api_Mono_api_Mono__linear_Value_c1 s c h Q := by
  have hlen := hm.len
  unfold slices_ContainsFunc_api_Mono_api_Mono__linear_Value_c1 slices_IndexFunc_api_Mono_api_Mono__linear_Value_c1
  refine loop.inv (fun t h' => ∃ j : Nat, t = (j : Int) ∧ j ≤ ms.length ∧ inR n (ms.take j) ∧ Ext h h') (fun t _ => ms.length - t.toNat) ⟨0, rfl, by omega, fun m hm => by simp at hm, Keep.refl _ _⟩ ?_
  rintro _ h1 ⟨j, rfl, hj, hr, e1⟩
  refine ⟨fun hlt => ?_, fun hge => ?_⟩
  · simp only [decide_eq_true_eq] at hlt
    have hj' : j < ms.length := by omega
    refine (hm.ext e1).at (i := (j : Int)) (j := j) rfl hj' fun a1 y hy hv _ => ⟨y, hy, mem_ext fun h2 e2 => ?_⟩
    have e02 := e1.trans e2
    refine seq.cut (fun t h3 => t = decide (¬ (0 ≤ ms[j].1 ∧ ms[j].1 < (n : Int))) ∧ h3 = h2) ?_ ?_
    · refine ⟨fun hn => ⟨?_, rfl⟩, fun hn => ⟨l, cell_keep e02 hc (by simp), ?_, rfl⟩⟩
      · simp only [decide_eq_true_eq] at hn
        symm; rw [decide_eq_true_eq]; omega
      · simp only [decide_eq_false_iff_not] at hn
        rw [decide_eq_decide]
        omega
    · rintro t h3 ⟨rfl, rfl⟩
      refine ⟨fun ht => ?_, fun ht => ?_⟩
      · simp only [decide_eq_true_eq] at ht
        have : decide (((j : Nat) : Int) ≥ 0) = true := by simp
        rw [this]
        exact C2 (fun h => ht (h _ (List.getElem_mem hj'))) h3 e02
      · simp only [decide_eq_false_iff_not, Classical.not_not] at ht
        refine ⟨⟨j + 1, by rw [w64 (by omega) (by omega)]; omega, by omega, ?_, e02⟩, by rw [w64 (by omega) (by omega)]; omega⟩
        rw [List.take_succ_eq_append_getElem hj']
        intro m hm
        rcases List.mem_append.1 hm with hm | hm
        · exact hr m hm
        · simp only [List.mem_singleton] at hm
          subst hm; exact ht
  · simp only [decide_eq_false_iff_not] at hge
    have : j = ms.length := by omega
    subst this
    rw [List.take_length] at hr
    exact C1 hr h1 e1

theorem ValueP_spec {h0 h : Heap} {a : Addr} {x : X4} {p : Rat × PL} {reals : Sl} {rs : List Rat} {T : Nat} {Q : (X3 × Int) → Heap → Prop} (hv : BO h0 a 1000 false h) (hc : RK (· = a.block) h (cst x) p.1) (hm : MK (· = a.block) h x.2.2.2 p.2) (hr : RL (· = a.block) h reals rs)
    (hl : p.2.length ≤ 25) (s1 : szQ p.1 ≤ T) (s2 : ∀ m ∈ p.2, szQ m.2 ≤ T) (s3 : ∀ q ∈ rs, szQ q ≤ 6) (hT : T ≤ 22)
    (C1 : inR rs.length p.2 → ∀ r h', BO h0 a 1000 false h' → Keep (some a.block) h h' → RK (· = a.block) h' r (vP (at? rs) p) → szQ (vP (at? rs) p) ≤ T + 25 * (T + 12) → Q (r, 0) h')
    (C2 : ¬ inR rs.length p.2 → ∀ h', Ext h h' → Q ((false, Sl.nil, Sl.nil), 2) h') : linear_Value (some a) x reals h Q := by
  have hlen := hm.len
  have hrl := hr.len
  refine mem_ext fun h1 e1 => new_cell fun c h2 hcc hcb _ _ e2 _ => mem_ext fun h3 e3 => ?_
  have e03 := e1.trans (e2.trans e3)
  have hc3 := cell_keep e3 hcc (by simp)
  have v3 := hv.of_ext e03
  have hca : c.block ≠ a.block := by have := (hv.of_ext e1).lt; omega
  refine Contains_spec (hm.ext e03) hc3 hrl (by omega) (fun hin h4 e4 => ⟨nofun, fun _ => mem_ext fun h5 e5 => ?_⟩) (fun hin h4 e4 => ⟨fun _ => C2 hin h4 (e03.trans e4), nofun⟩)
  have e05 := e03.trans (e4.trans e5)
  have v5 := hv.of_ext e05
  have hc5 := cell_keep (e4.trans e5) hc3 (by simp)
  have bnd : ∀ j, j ≤ p.2.length → szQ (p.1 + valL (at? rs) (p.2.take j)) ≤ T + j * (T + 12) := by
    intro j
    induction j with
    | zero => intro _; simp [valL]; have : p.1 + 0 = p.1 := by grind
              rw [this]; omega
    | succ j ih =>
      intro hj
      have ih' := ih (by omega)
      have hjl : j < p.2.length := by omega
      rw [List.take_succ_eq_append_getElem hjl, valL_append]
      have hms := s2 p.2[j] (List.getElem_mem hjl)
      obtain ⟨i1, i2⟩ := hin p.2[j] (List.getElem_mem hjl)
      have hat : at? rs p.2[j].1 ∈ rs := by
        unfold at?
        rw [List.getD_eq_getElem?_getD, List.getElem?_eq_getElem (by omega)]
        exact List.getElem_mem _
      have hsr := s3 _ hat
      have m1 := sz_mul p.2[j].2 (at? rs p.2[j].1)
      have a1 := sz_add (p.1 + valL (at? rs) (p.2.take j)) (p.2[j].2 * at? rs p.2[j].1)
      rw [← Rat.add_assoc]
      rw [Nat.add_mul]
      omega
  refine loop.inv (fun t h' => ∃ j : Nat, t.1 = (j : Int) ∧ j ≤ p.2.length ∧ BO h0 a 1000 false h' ∧ Keep (some a.block) h5 h' ∧ RK (· = a.block) h' (t.2.1, t.2.2.1, t.2.2.2) (p.1 + valL (at? rs) (p.2.take j))) (fun t _ => p.2.length - t.1.toNat)
    ⟨0, rfl, by omega, v5, Keep.refl _ _, by have h1 := hc.ext e05; have h2 : p.1 + valL (at? rs) (p.2.take 0) = p.1 := by simp only [List.take_zero, valL]; grind
                                             rw [h2]; exact h1⟩ ?_
  rintro ⟨_, w⟩ h6 ⟨j, rfl, hj, v6, k6, hw⟩
  simp only at hw
  refine ⟨fun hlt => ?_, fun hge => ?_⟩
  · simp only [decide_eq_true_eq] at hlt
    have hj' : j < p.2.length := by omega
    have k06 : Keep (some a.block) h h6 := (Keep.of_ext e05).trans k6
    have hb1 := bnd j hj
    have hb2 := bnd (j + 1) (by omega)
    rw [List.take_succ_eq_append_getElem hj', valL_append, ← Rat.add_assoc] at hb2
    have hms := s2 p.2[j] (List.getElem_mem hj')
    obtain ⟨i1, i2⟩ := hin p.2[j] (List.getElem_mem hj')
    have htn : p.2[j].1.toNat < rs.length := by omega
    have hat : at? rs p.2[j].1 = rs[p.2[j].1.toNat] := by
      unfold at?
      rw [List.getD_eq_getElem?_getD, List.getElem?_eq_getElem htn]; rfl
    have hsr := s3 _ (List.getElem_mem htn)
    have htk : p.2.take (j + 1) = p.2.take j ++ [p.2[j]] := List.take_succ_eq_append_getElem hj'
    have jb : j * (T + 12) ≤ 24 * (T + 12) := Nat.mul_le_mul_right _ (by omega)
    have jb2 : (j + 1) * (T + 12) ≤ 25 * (T + 12) := Nat.mul_le_mul_right _ (by omega)
    refine (hm.keep k06 (fun k hk => by cases hk; rfl)).at (i := (j : Int)) (j := j) rfl hj' fun a1 y hy hv1 hr1 => ⟨y, hy, mem_ext fun h7 e7 => ?_⟩
    have v7 := v6.of_ext e7
    refine ⟨reals, cell_keep e7 (cell_keep k6 hc5 (by simpa using hca)) (by simp), ?_⟩
    refine ((hr.keep k06 (fun k hk => by cases hk; rfl)).ext e7).ld (j := p.2[j].1.toNat) (by rw [hv1]; omega) htn fun x2 hx2 => ?_
    have m1 := sz_mul p.2[j].2 rs[p.2[j].1.toNat]
    refine MulQ_spec v7.tb v7.bench (hr1.ext e7).rq hx2.rq (by omega) fun r h8 hb8 k8 hr8 hf8 => ?_
    have hfit : (false || decide (1000 < szQ (p.2[j].2 * rs[p.2[j].1.toNat]))) = false := by simp; omega
    rw [hfit] at hb8 hr8
    rw [val'_false] at hr8
    have v8 := v7.keep hb8 k8
    have hw8 := (hw.ext e7).keep k8 (fun k hk => by cases hk; rfl)
    rw [hat] at hb2
    refine AddQ_spec v8.tb v8.bench hw8.rq hr8.rq (by omega) fun r2 h9 hb9 k9 hr9 hf9 => ?_
    have hfit2 : (false || decide (1000 < szQ (p.1 + valL (at? rs) (p.2.take j) + p.2[j].2 * rs[p.2[j].1.toNat]))) = false := by simp; omega
    rw [hfit2] at hb9 hr9
    rw [val'_false] at hr9
    have v9 := v8.keep hb9 k9
    refine ⟨⟨j + 1, by rw [w64 (by omega) (by omega)]; omega, by omega, v9, k6.trans ((Keep.of_ext e7).trans (k8.trans k9)), ?_⟩, by simp only; rw [w64 (by omega) (by omega)]; omega⟩
    rw [htk, valL_append, hat, ← Rat.add_assoc]
    exact RK.fresh hr9.rq hf9 fun k (hk : k = a.block) => hk ▸ v8.lt
  · simp only [decide_eq_false_iff_not] at hge
    have hjl : j = p.2.length := by omega
    subst hjl
    have hb := bnd _ hj
    rw [List.take_length] at hw hb
    have jb : p.2.length * (T + 12) ≤ 25 * (T + 12) := Nat.mul_le_mul_right _ (by omega)
    exact Over_spec v6.bench ⟨nofun, fun _ => C1 hin _ h6 v6 ((Keep.of_ext e05).trans k6) hw (by unfold vP; omega)⟩
end Go.Sh

namespace Go.Sh
open Go Go.Lift

/-- Numbers as they come in. -/
def RawL (h : Heap) (s : Sl) : Prop := ∃ xs : List X3, RS C_bool_sl_sl 3 h s xs ∧ (∀ x ∈ xs, RawB h x) ∧ xs.length ≤ 1048576

end Go.Sh

namespace Go.Sh
open Go Go.Lift

theorem SignRaw_spec {x : X3} {h : Heap} {Q : Int → Heap → Prop} (K : ∀ s h', (s = 0 ↔ x.2.1.len = 0) → Ext h h' → Q s h') : ratio_Sign x h Q := by
  refine mem_ext fun h1 e1 => ⟨fun hl => K 0 h1 ?_ e1, fun hl => ⟨fun _ => K _ h1 ?_ e1, fun _ => K _ h1 ?_ e1⟩⟩
  · simp only [beq_iff_eq] at hl
    exact ⟨fun _ => by omega, fun _ => rfl⟩
  · simp only [beq_eq_false_iff_ne, ne_eq] at hl
    exact ⟨fun h => by omega, fun h => by omega⟩
  · simp only [beq_eq_false_iff_ne, ne_eq] at hl
    exact ⟨fun h => by omega, fun h => by omega⟩
theorem row_same {h : Heap} {s : Sl} {ys zs : List Y4} (hr : RS C4 4 h s ys) (hz : RS C4 4 h s zs) : zs = ys := by
  apply List.ext_getElem (by rw [← hz.len, hr.len])
  intro n n1 n2
  obtain ⟨a, ha, hc⟩ := hz.cells n n1
  obtain ⟨a', ha', hc'⟩ := hr.cells n n2
  rw [ha] at ha'; cases ha'
  rw [hc] at hc'
  have := Option.some.inj hc'
  simp only [C4, C_i64ubool_sl_sl, List.cons.injEq, Value.int.injEq, Value.bool.injEq, true_and, and_true] at this
  obtain ⟨t1, t2, t3, t4⟩ := this
  have s1 : ∀ {s t : Sl}, Sl.toV s = Sl.toV t → s = t := fun {s t} h => by
    cases s; cases t; simp only [Sl.toV, Value.slice.injEq] at h; obtain ⟨rfl, rfl, rfl⟩ := h; rfl
  exact Prod.ext t1 (Prod.ext t2 (Prod.ext (s1 t3) (s1 t4)))

theorem RightL_spec {h0 h : Heap} {x : X4} {Q : Bool → Heap → Prop} (ht : Tab h0) (hx : Raw4 h0 x) (e0 : Ext h0 h) (hl : x.2.2.2.len ≤ 1048576) (C : ∀ b h', (b = true ↔ isP h0 x) → Ext h h' → Q b h') : linear_Right x h Q := by
  obtain ⟨⟨xs, xd, hX, lx, ld⟩, ys, hr, hraw, hcap⟩ := hx
  have hlen := hr.len
  refine mem_ext fun h1 e1 => ?_
  have bad : ∀ {j : Nat} (hj' : j < ys.length) {p : Rat × PL}, PQ h0 x p → Rt p → ∃ (h1 : j < p.2.length), ys[j].1 = p.2[j].1 ∧ RQ h0 (co ys[j]) p.2[j].2 ∧ (∀ n (hn : n < ys.length) (h2 : n < p.2.length), ys[n].1 = p.2[n].1) := by
    intro j hj' p hp hrt
    obtain ⟨zs, hz, hza⟩ := hp.m.row
    have hzy := row_same hr hz
    subst hzy
    have hpl := hza.length
    exact ⟨by omega, (hza.get j hj' (by omega)).1, (hza.get j hj' (by omega)).2.rq, fun n n1 n2 => (hza.get n n1 n2).1⟩
  refine loop.inv (fun t h' => ∃ (j : Nat) (ms : PL), t.2 = (j : Int) ∧ j ≤ ys.length ∧ ms.length = j ∧ All2 (fun y m => y.1 = m.1 ∧ RQ h0 (co y) m.2) (ys.take j) ms ∧ Srt ms ∧ (∀ m ∈ ms, 0 ≤ m.1 ∧ m.2 ≠ 0 ∧ m.1 ≤ t.1) ∧ (t.1 = -1 ∨ ∃ h : j - 1 < ys.length, 0 < j ∧ t.1 = ys[j - 1].1) ∧ -1 ≤ t.1 ∧ Ext h h') (fun t _ => ys.length - t.2.toNat)
    ⟨0, [], rfl, by omega, rfl, .nil, List.Pairwise.nil, fun m hm => by simp at hm, .inl rfl, by simp, e1⟩ ?_
  rintro ⟨last, _⟩ h3 ⟨j, ms, rfl, hj, hml, hall, hsrt, hms, hlast, hl1, e3⟩
  simp only at hlast hl1 hms
  refine ⟨fun hlt => ?_, fun hge => ?_⟩
  · simp only [decide_eq_true_eq] at hlt
    have hj' : j < ys.length := by omega
    obtain ⟨a, ha, hc⟩ := (RS.ext hr (e0.trans e3)).cells j hj'
    refine ⟨a, ha, ⟨by omega, by omega⟩, ys[j], by simpa using hc, mem_ext fun h4 e4 => ?_⟩
    have e04 := e3.trans e4
    have hry := hraw ys[j] (List.getElem_mem hj')
    refine seq.cut (fun t h5 => (t = false → ∃ q, RQ h0 (co ys[j]) q ∧ q ≠ 0 ∧ last < ys[j].1) ∧ (t = true → ¬ isP h0 x) ∧ Ext h h5) ?_ ?_
    · refine ⟨fun hle => ⟨nofun, fun _ ⟨p, hp, hrt⟩ => ?_, e04⟩, fun hgt => SignRaw_spec (x := co ys[j]) fun s h5 hs e5 => ?_⟩
      · simp only [decide_eq_true_eq] at hle
        obtain ⟨h1, h2, h3, h4'⟩ := bad hj' hp hrt
        have n1 := hrt.nn _ (List.getElem_mem h1)
        rcases hlast with h | ⟨h6, h7, h8⟩
        · omega
        · have h5 := h4' (j - 1) h6 (by omega)
          have := List.pairwise_iff_getElem.1 hrt.srt (j - 1) j (by omega) h1 (by omega)
          omega
      · simp only [decide_eq_false_iff_not, Int.not_le] at hgt
        have e05 := e04.trans e5
        refine ⟨fun hz => ⟨nofun, fun _ ⟨p, hp, hrt⟩ => ?_, e05⟩, fun hnz => ?_⟩
        · simp only [beq_iff_eq] at hz
          obtain ⟨h1, h2, h3, _⟩ := bad hj' hp hrt
          have := h3.num.len_zero.1 (hs.1 hz)
          exact hrt.nz _ (List.getElem_mem h1) (Rat.num_eq_zero.1 (by omega))
        · simp only [beq_eq_false_iff_ne, ne_eq] at hnz
          obtain ⟨us, ud, hU, lu, lud⟩ := hry
          refine RightQ_spec (R.ext ht (e0.trans e05)) (hU.ext (e0.trans e05)) lu lud fun b5 h6 hb5 e6 => ?_
          have hb5' : b5 = true ↔ isQ h0 (co ys[j]) := by rw [hb5]; exact RawB.isQ_ext ⟨us, ud, hU, lu, lud⟩ (e0.trans e05)
          refine ⟨fun h0 => ?_, fun h0 ⟨p, hp, hrt⟩ => ?_, e05.trans e6⟩
          · obtain ⟨q, hq⟩ := hb5'.1 (by simpa using h0)
            refine ⟨q, hq, fun hq0 => hnz (hs.2 ?_), hgt⟩
            subst hq0
            exact hq.num.len_zero.2 rfl
          · obtain ⟨h1, h2, h3, _⟩ := bad hj' hp hrt
            have := hb5'.2 ⟨_, h3⟩
            simp [this] at h0
    · rintro t h5 ⟨hf, ht', e5⟩
      refine ⟨fun htt => C false h5 ⟨nofun, fun hp => absurd hp (ht' htt)⟩ e5, fun htf => ?_⟩
      obtain ⟨q, hq, hq0, hsm⟩ := hf htf
      refine ⟨⟨j + 1, ms ++ [(ys[j].1, q)], ?_, by omega, by simp; omega, ?_, ?_, ?_, .inr ⟨by simpa using hj', by omega, by simp⟩, by simp only; omega, e5⟩, ?_⟩
      · rw [w64 (by omega) (by omega)]; omega
      · rw [List.take_succ_eq_append_getElem hj']
        exact hall.append (.cons ⟨rfl, hq⟩ .nil)
      · refine List.pairwise_append.2 ⟨hsrt, List.pairwise_singleton _ _, fun m hm n hn => ?_⟩
        simp only [List.mem_singleton] at hn
        subst hn
        have := (hms m hm).2.2
        simp only; omega
      · intro m hm
        rcases List.mem_append.1 hm with hm | hm
        · have := hms m hm
          exact ⟨this.1, this.2.1, by have := this.2.2; simp only; omega⟩
        · simp only [List.mem_singleton] at hm
          subst hm
          exact ⟨by simp only; omega, hq0, Int.le_refl _⟩
      · simp only; rw [w64 (by omega) (by omega)]; omega
  · simp only [decide_eq_false_iff_not] at hge
    have hjl : j = ys.length := by omega
    subst hjl
    rw [List.take_length] at hall
    refine RightQ_spec (R.ext ht (e0.trans e3)) (hX.ext (e0.trans e3)) lx ld fun b h4 hb e4 => ?_
    have hb' : b = true ↔ isQ h0 (cst x) := by rw [hb]; exact RawB.isQ_ext ⟨xs, xd, hX, lx, ld⟩ (e0.trans e3)
    refine C b h4 ⟨fun hbt => ?_, fun ⟨p, hp, _⟩ => hb'.2 ⟨p.1, hp.c⟩⟩ (e3.trans e4)
    obtain ⟨c0, hc0⟩ := hb'.1 hbt
    exact ⟨(c0, ms), ⟨hc0, MK.of_all hr hcap hall⟩, ⟨hsrt, fun m hm => (hms m hm).1, fun m hm => (hms m hm).2.1⟩⟩

theorem cmp_zero {p q : Rat} : ((p.num * q.den - q.num * p.den).sign == 0) = decide (p = q) := by
  rw [Bool.eq_iff_iff, beq_iff_eq, Int.sign_eq_zero_iff_zero, decide_eq_true_iff]
  constructor
  · intro h
    have h1 : p.num * q.den = q.num * p.den := by omega
    rw [← Rat.mkRat_self p, ← Rat.mkRat_self q]
    exact (Rat.mkRat_eq_iff p.den_nz q.den_nz).2 h1
  · rintro rfl; omega

theorem SameL_spec {h : Heap} {x y : X4} {p q : Rat × PL} {Q : Bool → Heap → Prop} (hp : PQ h x p) (hq : PQ h y q) (hl : p.2.length ≤ 1048576) (hl2 : q.2.length ≤ 1048576) (s1 : szQ p.1 ≤ 1000) (s2 : szQ q.1 ≤ 1000) (s3 : ∀ m ∈ p.2, szQ m.2 ≤ 1000) (s4 : ∀ m ∈ q.2, szQ m.2 ≤ 1000) (h0 : 0 < h.size)
    (K : ∀ h', Ext h h' → Q (decide (p = q)) h') : linear_Same x y h Q := by
  have hml := hp.m.len
  have hnl := hq.m.len
  refine mem_ext fun h1 e1 => ?_
  have z1 := e1.size
  refine seq.cut (fun t h2 => t = decide (p = q) ∧ Ext h h2) ?_ fun t h2 ⟨h3, h4⟩ => by rw [h3]; exact K h2 h4
  refine CmpQ_spec (hp.c.ext e1) (hq.c.ext e1) (by omega) (by omega) fun h2 e2 => ?_
  rw [cmp_zero]
  have e02 := e1.trans e2
  refine ⟨fun he => ?_, fun hn => ⟨?_, e02⟩⟩
  · have hc : p.1 = q.1 := by simpa using he
    unfold slices_EqualFunc_api_Mono_api_Mono_api_Mono_api_Mono__linear_Same_c1
    refine ⟨fun hne => ⟨?_, e02⟩, fun heq => ?_⟩
    · have : p.2.length ≠ q.2.length := by
        have : (x.2.2.2.len : Int) ≠ (y.2.2.2.len : Int) := by simpa using hne
        omega
      symm; exact decide_eq_false fun h => this (by rw [h])
    have hll : p.2.length = q.2.length := by
      have : (x.2.2.2.len : Int) = (y.2.2.2.len : Int) := by simpa using heq
      omega
    refine loop.inv (fun t h' => ∃ j : Nat, t = (j : Int) ∧ j ≤ p.2.length ∧ p.2.take j = q.2.take j ∧ Ext h h') (fun t _ => p.2.length - t.toNat) ⟨0, rfl, by omega, rfl, e02⟩ ?_
    rintro _ h3 ⟨j, rfl, hj, hms, e3⟩
    refine ⟨fun hlt => ?_, fun hge => ?_⟩
    · simp only [decide_eq_true_eq] at hlt
      have hj' : j < p.2.length := by omega
      have hj2 : j < q.2.length := by omega
      refine (hp.m.ext e3).at (i := (j : Int)) (j := j) rfl hj' fun a1 y1 hy1 hv1 hq1 => ⟨y1, hy1, mem_ext fun h4 e4 => ?_⟩
      refine ((hq.m.ext e3).ext e4).at (i := (j : Int)) (j := j) rfl hj2 fun a2 y2 hy2 hv2 hq2 => ⟨y2, hy2, mem_ext fun h5 e5 => ?_⟩
      have e05 := e3.trans (e4.trans e5)
      have z5 := e05.size
      refine mem_ext fun h6 e6 => ?_
      have e06 := e05.trans e6
      have z6 := e06.size
      refine seq.cut (fun t h7 => t = decide (p.2[j] = q.2[j]) ∧ Ext h h7) ?_ ?_
      · refine ⟨fun he => ?_, fun hne => ⟨?_, e06⟩⟩
        · have he' : p.2[j].1 = q.2[j].1 := by rw [beq_iff_eq] at he; rw [← hv1, ← hv2]; exact he
          have t3 := s3 _ (List.getElem_mem hj')
          have t4 := s4 _ (List.getElem_mem hj2)
          refine CmpQ_spec (x := co y1) (y := co y2) ((hq1.rq.ext e4).ext (e5.trans e6)) (hq2.rq.ext (e5.trans e6)) (by omega) (by omega) fun h7 e7 => ?_
          rw [cmp_zero]
          refine ⟨?_, e06.trans e7⟩
          rw [decide_eq_decide, Prod.ext_iff]
          exact ⟨fun h => ⟨he', h⟩, fun h => h.2⟩
        · have hn : p.2[j].1 ≠ q.2[j].1 := by rw [beq_eq_false_iff_ne] at hne; rw [← hv1, ← hv2]; exact hne
          symm; exact decide_eq_false fun h => hn (by rw [h])
      · rintro t h7 ⟨rfl, e7⟩
        refine ⟨fun hf => ⟨?_, e7⟩, fun ht => ?_⟩
        · have hn : ¬ p.2[j] = q.2[j] := by simpa using hf
          symm; exact decide_eq_false fun h => hn (by subst h; rfl)
        · have he : p.2[j] = q.2[j] := by simpa using ht
          refine ⟨⟨j + 1, by rw [w64 (by omega) (by omega)]; omega, by omega, ?_, e7⟩, by rw [w64 (by omega) (by omega)]; omega⟩
          rw [List.take_succ_eq_append_getElem hj', List.take_succ_eq_append_getElem hj2, hms, he]
    · simp only [decide_eq_false_iff_not] at hge
      have h1 : j = p.2.length := by omega
      subst h1
      rw [List.take_length, hll, List.take_length] at hms
      exact ⟨by symm; exact decide_eq_true (Prod.ext hc hms), e3⟩
  · have hn' : ¬ p.1 = q.1 := by simpa using hn
    symm; exact decide_eq_false fun h => hn' (by rw [h])

theorem ValueR_spec {h : Heap} {x : X4} {p : Rat × PL} {reals : Sl} {rs : List Rat} {Q : X3 → Heap → Prop} (hp : PQ h x p) (hr : RL K0 h reals rs) (hin : inR rs.length p.2)
    (hl : p.2.length ≤ 12) (s1 : szQ p.1 ≤ 6) (s2 : ∀ m ∈ p.2, szQ m.2 ≤ 6) (s3 : ∀ q ∈ rs, szQ q ≤ 6)
    (K : ∀ r h', RD h' r (vP (at? rs) p) → szQ (vP (at? rs) p) ≤ 300 → Ext h h' → Q r h') : ref12uValue x reals h Q := by
  have hlen := hp.m.len
  have hrl := hr.len
  have bnd : ∀ j, j ≤ p.2.length → szQ (p.1 + valL (at? rs) (p.2.take j)) ≤ 6 + j * 18 := by
    intro j
    induction j with
    | zero =>
      intro _; simp [valL]
      have : p.1 + 0 = p.1 := by grind
      rw [this]; omega
    | succ j ih =>
      intro hj
      have ih' := ih (by omega)
      have hjl : j < p.2.length := by omega
      rw [List.take_succ_eq_append_getElem hjl, valL_append]
      have hms := s2 p.2[j] (List.getElem_mem hjl)
      obtain ⟨i1, i2⟩ := hin p.2[j] (List.getElem_mem hjl)
      have hat : at? rs p.2[j].1 ∈ rs := by
        unfold at?
        rw [List.getD_eq_getElem?_getD, List.getElem?_eq_getElem (by omega)]
        exact List.getElem_mem _
      have hsr := s3 _ hat
      have m1 := sz_mul p.2[j].2 (at? rs p.2[j].1)
      have a1 := sz_add (p.1 + valL (at? rs) (p.2.take j)) (p.2[j].2 * at? rs p.2[j].1)
      rw [← Rat.add_assoc]
      omega
  obtain ⟨zs, hz1, hz2⟩ := hr.row
  have hzl := hz2.length
  refine mem_ext fun h1 e1 => OfQ_spec (hp.c.ext e1) (by omega) fun r0 h2 hr0 e2 => mem_ext fun h3 e3 => ?_
  have e03 := e1.trans (e2.trans e3)
  refine loop.inv (fun t h' => ∃ j : Nat, t.1 = (j : Int) ∧ j ≤ p.2.length ∧ RD h' t.2 (p.1 + valL (at? rs) (p.2.take j)) ∧ Ext h h') (fun t _ => p.2.length - t.1.toNat)
    ⟨0, rfl, by omega, by have h1 := hr0.ext e3; have h2 : p.1 + valL (at? rs) (p.2.take 0) = p.1 := by simp only [List.take_zero, valL]; grind
                          rw [h2]; exact h1, e03⟩ ?_
  rintro ⟨_, w⟩ h4 ⟨j, rfl, hj, hw, e4⟩
  simp only at hw
  refine ⟨fun hlt => ?_, fun hge => ?_⟩
  · simp only [decide_eq_true_eq] at hlt
    have hj' : j < p.2.length := by omega
    have hb1 := bnd j hj
    have hms := s2 p.2[j] (List.getElem_mem hj')
    obtain ⟨i1, i2⟩ := hin p.2[j] (List.getElem_mem hj')
    have htn : p.2[j].1.toNat < rs.length := by omega
    have hat : at? rs p.2[j].1 = rs[p.2[j].1.toNat] := by
      unfold at?
      rw [List.getD_eq_getElem?_getD, List.getElem?_eq_getElem htn]; rfl
    have hsr := s3 _ (List.getElem_mem htn)
    have htk : p.2.take (j + 1) = p.2.take j ++ [p.2[j]] := List.take_succ_eq_append_getElem hj'
    refine (hp.m.ext e4).at (i := (j : Int)) (j := j) rfl hj' fun a1 y hy hv1 hr1 => ⟨co y, ld_co hy, ?_⟩
    refine (hp.m.ext e4).at (i := (j : Int)) (j := j) rfl hj' fun a2 y2 hy2 hv2 hr2 => ⟨y2.1, ld_var hy2, ?_⟩
    obtain ⟨a3, ha3, hc3⟩ := (RS.ext hz1 e4).cells p.2[j].1.toNat (by omega)
    have hq3 := (hz2.get p.2[j].1.toNat (by omega) htn).rq.ext e4
    rw [hv2]
    refine ⟨a3, ha3, ⟨by omega, by omega⟩, zs[p.2[j].1.toNat], by simpa using hc3, ?_⟩
    generalize zs[p.2[j].1.toNat] = x3 at *
    refine OfQ_spec hr1.rq (by omega) fun r5 h5 hr5 e5 => ⟨?_, ?_, ?_⟩
    · have := cell_keep e5 (ld_var hy2) (by simp)
      rw [hv2] at this; exact this
    · have := cells_keep e5 (o := none) (by simp) hc3
      simpa [C_bool_sl_sl] using this
    refine OfQ_spec (x := x3) (hq3.ext e5) (by omega) fun r6 h6 hr6 e6 => ?_
    have m1 := sz_mul p.2[j].2 rs[p.2[j].1.toNat]
    refine MulD_spec (hr5.ext e6) hr6 (by omega) fun r7 h7 hr7 e7 => ?_
    refine AddD_spec (hw.ext (e5.trans (e6.trans e7))) hr7 (by omega) fun r8 h8 hr8 e8 => ?_
    rintro _ rfl
    refine ⟨⟨j + 1, by simp only; rw [w64 (by omega) (by omega)]; omega, by omega, ?_, e4.trans (e5.trans (e6.trans (e7.trans e8)))⟩, by simp only; rw [w64 (by omega) (by omega)]; omega⟩
    rw [htk, valL_append, ← Rat.add_assoc, hat]
    exact hr8
  · simp only [decide_eq_false_iff_not] at hge
    have : j = p.2.length := by omega
    subst this
    have hb := bnd _ (Nat.le_refl p.2.length)
    rw [List.take_length] at hw hb
    exact K w h4 hw (by unfold vP; omega) e4
end Go.Sh

namespace Go.Sh
open Go Go.Lift

theorem addP_sz {P R : Rat × PL} {c : Rat} (b1 : szQ P.1 ≤ 6) (b2 : ∀ m ∈ P.2, szQ m.2 ≤ 6) (y1 : szQ (scP c R).1 ≤ 14) (y2 : ∀ m ∈ (scP c R).2, szQ m.2 ≤ 14) : fitsP 1000 (addP P c R) = true := by
  have asz : szQ (addP P c R).1 ≤ 22 := by
    have := sz_add P.1 (scP c R).1
    unfold addP; simp only; omega
  have msz : ∀ m ∈ (addP P c R).2, szQ m.2 ≤ 22 := by
    have gen : ∀ (l r : PL), (∀ m ∈ l, szQ m.2 ≤ 6) → (∀ m ∈ r, szQ m.2 ≤ 14) → ∀ m ∈ mrg l r, szQ m.2 ≤ 22 := by
      intro l r
      have nz : ∀ {x : Int × Rat} {t : PL}, szQ x.2 ≤ 22 → (∀ m ∈ t, szQ m.2 ≤ 22) → ∀ m ∈ nzc x t, szQ m.2 ≤ 22 := by
        intro x t hx ht m hm
        unfold nzc at hm; split at hm
        · exact ht m hm
        · rcases List.mem_cons.1 hm with rfl | hm
          · exact hx
          · exact ht m hm
      induction l, r using mrg.induct with
      | case1 => intro _ _ m hm; rw [mrg_nn] at hm; simp at hm
      | case2 x as ih => intro hl hr; rw [mrg_cn]; exact nz (by have := hl x (by simp); omega) (ih (fun m hm => hl m (List.mem_cons_of_mem _ hm)) hr)
      | case3 x bs ih => intro hl hr; rw [mrg_nc]; exact nz (by have := hr x (by simp); omega) (ih hl (fun m hm => hr m (List.mem_cons_of_mem _ hm)))
      | case4 x as y bs h1 ih => intro hl hr; rw [mrg_cc, if_pos h1]; exact nz (by have := hl x (by simp); omega) (ih (fun m hm => hl m (List.mem_cons_of_mem _ hm)) hr)
      | case5 x as y bs h1 h2 ih => intro hl hr; rw [mrg_cc, if_neg h1, if_pos h2]; exact nz (by have := hr y (by simp); omega) (ih hl (fun m hm => hr m (List.mem_cons_of_mem _ hm)))
      | case6 x as y bs h1 h2 ih =>
        intro hl hr; rw [mrg_cc, if_neg h1, if_neg h2]
        exact nz (by have := hl x (by simp); have := hr y (by simp); have := sz_add x.2 y.2; simp only; omega) (ih (fun m hm => hl m (List.mem_cons_of_mem _ hm)) (fun m hm => hr m (List.mem_cons_of_mem _ hm)))
    exact gen _ _ b2 y2
  unfold fitsP; rw [Bool.and_eq_true, List.all_eq_true]
  exact ⟨decide_eq_true (by omega), fun m hm => decide_eq_true (by have := msz m hm; omega)⟩
/-- The last unknown tells whether all are there. -/
theorem inR_last {n : Nat} {p : Rat × PL} (hr : Rt p) (h0 : 0 < p.2.length) : inR n p.2 ↔ (p.2[p.2.length - 1]).1 < (n : Int) := by
  constructor
  · intro h; exact (h _ (List.getElem_mem _)).2
  · intro h m hm
    refine ⟨hr.nn m hm, ?_⟩
    obtain ⟨i, hi, rfl⟩ := List.getElem_of_mem hm
    by_cases e : i = p.2.length - 1
    · subst e; exact h
    · have := List.pairwise_iff_getElem.1 hr.srt i (p.2.length - 1) hi (by omega) (by omega)
      omega

theorem LinearTold_holds {p q : X4} {k : X3} {reals : Sl} {v : Int} {h : Heap} {Q : Bool → Heap → Prop} (ht : Tab h) (hp : Raw4 h p) (hpl : p.2.2.2.len ≤ 1048576) (hq : Raw4 h q) (hk : RawB h k) (hr : RawL h reals) (K : ∀ h', Ext h h' → Q true h') : law12uLinearTold p q k reals v h Q := by
  obtain ⟨xs, hxs, hraws, hxl⟩ := hr
  have hlen := hxs.len
  refine mem_ext fun h1 e1 => speaks12uspec (R.ext ht e1) fun h2 e2 => ⟨nofun, fun _ => ?_⟩
  have e02 := e1.trans e2
  refine seq.cut (fun t h3 => Ext h h3) ⟨fun _ => e02, fun _ => e02⟩ ?_
  intro t0 h3 e3
  refine ⟨fun _ => K h3 e3, fun _ => ?_⟩
  refine RightL_spec (x := p) ht hp e3 hpl fun b h4 hb e4 => RightP_spec (x := p) hp (e3.trans e4) hpl fun b' h5 hb' e5 => ?_
  have hbb : b = b' := by rw [Bool.eq_iff_iff]; exact hb.trans hb'.symm
  subst hbb
  refine ⟨fun hne => by simp at hne, fun _ => ?_⟩
  have e05 := e3.trans (e4.trans e5)
  refine seq.cut (fun t h3 => (t = false → (∃ P, PQ h p P ∧ Few4 P) ∧ (∃ R, PQ h q R ∧ Few4 R) ∧ (∃ c, RQ h k c ∧ szQ c ≤ 6) ∧ xs.any bigR = false) ∧ Ext h h3) ?_ ?_
  · refine newRS (toC := C_bool_sl_sl_sl) (sz := 4) (xs := [p, q, (k.1, k.2.1, k.2.2, Sl.nil)]) 3 len4x rfl rfl fun l h3 hr hl e3 => ?_
    have e03 := e05.trans e3
    have hraw : ∀ z ∈ [p, q, ((k.1, k.2.1, k.2.2, Sl.nil) : X4)], Raw4 h z := by
      intro z hz
      simp only [List.mem_cons, List.not_mem_nil, or_false] at hz
      rcases hz with rfl | rfl | rfl
      · exact hp
      · exact hq
      · exact Raw4.ofK hk
    refine OddP_spec hr e03 (by simp) hraw fun b h4 hb e4 => ⟨fun _ => ⟨nofun, e03.trans e4⟩, fun hf => ?_⟩
    have hall := hb hf
    obtain ⟨⟨c, kl⟩, hC, fC⟩ := hall (k.1, k.2.1, k.2.2, Sl.nil) (by simp)
    refine Great_spec (xs := xs) (RS.ext hxs (e03.trans e4)) hxl fun h5 e5 => ⟨fun hg => ⟨hall p (by simp), hall q (by simp), ⟨c, hC.c, fC.c⟩, hg⟩, e03.trans (e4.trans e5)⟩
  clear hb hb' e05 e5 e4 e3 h5 h4 h3
  rintro t h3 ⟨hok, e3⟩
  refine ⟨fun _ => K h3 e3, fun hf => ?_⟩
  obtain ⟨⟨P, hP, fP⟩, ⟨R, hR, fR⟩, ⟨c, hc, sc⟩, hbig⟩ := hok hf
  have b1 := fP.c; have b2 := fP.m; have b3 := fR.c; have b4 := fR.m; have n1 := fP.n; have n2 := fR.n
  refine loop.inv (fun t h' => ∃ (j : Nat) (rs : List Rat), t = (j : Int) ∧ j ≤ xs.length ∧ rs.length = j ∧ All2 (fun x q => RQ h x q ∧ szQ q ≤ 6) (xs.take j) rs ∧ Ext h h') (fun t _ => xs.length - t.toNat) ⟨0, [], rfl, by omega, rfl, .nil, e3⟩ ?_
  rintro _ h4 ⟨j, rs, rfl, hj, hrl, hall, e4⟩
  refine ⟨fun hlt => ?_, fun hge => ?_⟩
  · simp only [decide_eq_true_eq] at hlt
    have hj' : j < xs.length := by omega
    have hbx : bigR xs[j] = false := by
      rw [List.any_eq_false] at hbig
      simpa using hbig _ (List.getElem_mem hj')
    have htk : xs.take (j + 1) = xs.take j ++ [xs[j]] := List.take_succ_eq_append_getElem hj'
    have hrx := hraws xs[j] (List.getElem_mem hj')
    refine (RS.ext hxs e4).ld (i := (j : Int)) (j := j) rfl hj' ?_
    generalize xs[j] = x at *
    refine mem_ext fun h5 e5 => ?_
    obtain ⟨us, ud, hU, lu, lud⟩ := hrx
    refine RightD_spec (hU.ext (e4.trans e5)) (by omega) (by omega) fun b h6 hb e6 => ⟨fun _ => K h6 (e4.trans (e5.trans e6)), fun hbt => ?_⟩
    have hbt' : b = true := by simpa using hbt
    have hq := (RawB.isQ_ext ⟨us, ud, hU, lu, lud⟩ (e4.trans e5)).1 (hb.1 hbt')
    obtain ⟨v, hv⟩ := hq
    refine ⟨⟨j + 1, rs ++ [v], by rw [w64 (by omega) (by omega)]; omega, by omega, by simp [hrl], ?_, e4.trans (e5.trans e6)⟩, by rw [w64 (by omega) (by omega)]; omega⟩
    rw [htk]
    exact hall.append (.cons ⟨hv, sz_of_bigR hv hbx⟩ .nil)
  · simp only [decide_eq_false_iff_not] at hge
    have hjl : j = xs.length := by omega
    subst hjl
    rw [List.take_length] at hall
    have s3 : ∀ q ∈ rs, szQ q ≤ 6 := fun q hq => by
      obtain ⟨n, hn, rfl⟩ := List.getElem_of_mem hq
      have := hall.length
      exact (hall.get n (by omega) hn).2
    have RL0 : RL K0 h reals rs := ⟨⟨xs, hxs, hall.imp fun x q h => RK.of_rq h.1 fun k hk => hk.elim⟩, fun _ k hk => hk.elim⟩
    have hrsl := RL0.len
    refine seq.cut (fun t h' => ∃ a, t.1 = some a ∧ BO h a 1000 false h' ∧ RDb a.block h' t.2 c) ?_ ?_
    · refine mem_ext fun h5 e5 => New_spec fun a h6 hb6 hab e6 => mem_ext fun h7 e7 => ?_
      have e46 := e4.trans (e5.trans e6)
      have v6 : BO h a 1000 false h6 := ⟨ht, hb6, e46, by have := (e4.trans e5).size; omega⟩
      refine OfQF_spec (x := k) (hc.ext (e46.trans e7)) (by omega) fun r h8 hr8 f8 e8 => mem_ext fun h9 e9 => ?_
      exact ⟨a, rfl, v6.of_ext (e7.trans (e8.trans e9)), (RDb.fresh hr8 f8 (v6.of_ext e7).lt).ext e9⟩
    rintro ⟨_, w0⟩ h5 ⟨a, rfl, v5, hw0⟩
    simp only at hw0
    have hah := v5.old
    have kn : ∀ k', k' = a.block → h.size ≤ k' := fun k' hk' => hk' ▸ hah
    have RLB : RL (· = a.block) h reals rs := RL0.raise fun k' hk' => .inr (kn k' hk')
    have RLX : ∀ {h' : Heap}, BO h a 1000 false h' → RL (· = a.block) h' reals rs := fun v => RLB.ext v.ext
    have PRb : ∀ {h' : Heap} {x : X4} {p : Rat × PL}, PQ h x p → BO h a 1000 false h' → RK (· = a.block) h' (cst x) p.1 ∧ MK (· = a.block) h' x.2.2.2 p.2 := fun hp v => hp.rk v.ext v.old
    have CX : ∀ {h' : Heap}, BO h a 1000 false h' → RK (· = a.block) h' k c := fun v => hc.rk v.ext v.old
    have z00 : 0 < h.size := by
      have := _root_.Go.Lift.R.lt ht rfl (by decide)
      omega
    refine seq.cut (fun t h6 => t = false ∧ BO h a 1000 false h6) ?_ ?_
    · obtain ⟨p1, p2⟩ := PRb hP v5
      obtain ⟨q1, q2⟩ := PRb hR v5
      obtain ⟨y1, y2⟩ := scP_sz (n := 6) sc b3 b4
      obtain ⟨x1, x2⟩ := scP_sz (n := 6) sc b1 b2
      have y2' : ∀ m ∈ (scP c R).2, szQ m.2 ≤ 14 := fun m hm => by have := y2 m hm; omega
      have hfs : fitsP 1000 (scP c R) = true := by
        unfold fitsP; rw [Bool.and_eq_true, List.all_eq_true]
        exact ⟨decide_eq_true (by omega), fun m hm => decide_eq_true (by have := y2 m hm; omega)⟩
      have hfp : fitsP 1000 (scP c P) = true := by
        unfold fitsP; rw [Bool.and_eq_true, List.all_eq_true]
        exact ⟨decide_eq_true (by omega), fun m hm => decide_eq_true (by have := x2 m hm; omega)⟩
      have hfa : fitsP 1000 (addP P c R) = true := addP_sz b1 b2 (by omega) y2'
      have la : (addQ P c R).2.length ≤ 24 := by
        have := addR_len (p := P.2) (q := R.2) (c := c); unfold addQ; simp only; omega
      have hae := addP_eq (c := c) fP.rt fR.rt
      refine AddP_spec (p := P) (q := R) (c := c) v5 (CX v5) p1 p2 q1 q2 (by omega) (by omega) (fun m hm => by have := b2 m hm; omega) (by omega) (fun m hm => by have := b4 m hm; omega) (by omega) (by omega) fun w h6 ov v6 k6 hov hw hwm => ?_
      have hovf : ov = false := by
        cases hh : ov with
        | false => rfl
        | true =>
          rcases hov hh with h | h | h
          · cases h
          · rw [hfs] at h; cases h
          · rw [hfa] at h; cases h
      subst hovf
      rw [hae] at hw hwm
      have hPQ : PQ h6 w (addQ P c R) := ⟨hw.rq, hwm.k0⟩
      have hw6 : RDb a.block h6 w0 c := hw0.keep k6
      refine AddR_spec (hP.ext v6.ext) hw6.d (hR.ext v6.ext) (by omega) (by omega) (fun m hm => by have := b2 m hm; omega) (by omega) (fun m hm => by have := b4 m hm; omega) (by omega) (by omega) fun w2 h7 hw2 e7 => ?_
      refine SameP_spec (hPQ.ext e7) hw2 (by omega) (by omega) fun h8 e8 => ?_
      rw [decide_eq_true rfl]
      refine ⟨nofun, fun _ => ?_⟩
      have v8 := v6.of_ext (e7.trans e8)
      obtain ⟨p1, p2⟩ := PRb hP v8
      refine Scale_spec (c0 := P.1) (ms := P.2) v8 (CX v8) p1 p2 (by omega) (by omega) (fun m hm => by have := b2 m hm; omega) (by omega) fun w3 h9 v9 k9 hw3 hwm3 => ?_
      have hsf : (false || !fitsP 1000 (scP c (P.1, P.2))) = false := by show (false || !fitsP 1000 (scP c P)) = false; rw [hfp]; rfl
      rw [hsf] at v9 hw3 hwm3
      have hPQ3 : PQ h9 w3 (scP c P) := ⟨hw3.rq, hwm3.k0⟩
      have hw9 : RDb a.block h9 w0 c := (hw6.ext (e7.trans e8)).keep k9
      have ls : (scP c P).2.length ≤ 12 := by have := scL_len (c := c) (p := P); omega
      have z : PQ h9 (false, Sl.nil, Sl.nil, Sl.nil) (0, []) := ⟨RQ.zero, MK.nil⟩
      refine AddR_spec z hw9.d (hP.ext v9.ext) (by omega) (by rw [sz_zero]; omega) (fun m hm => by simp at hm) (by omega) (fun m hm => by have := b2 m hm; omega) (by simp) (by omega) fun w4 h10 hw4 e10 => ?_
      rw [addQ_zero fP.rt] at hw4
      refine SameP_spec (hPQ3.ext e10) hw4 (by omega) (by omega) fun h11 e11 => ?_
      rw [decide_eq_true rfl]
      refine ⟨nofun, fun _ => ?_⟩
      have v11 := v9.of_ext (e10.trans e11)
      refine SameL_spec (x := p) (y := q) (hP.ext v11.ext) (hR.ext v11.ext) (by omega) (by omega) (by omega) (by omega) (fun m hm => by have := b2 m hm; omega) (fun m hm => by have := b4 m hm; omega) (by have := v11.ext.size; omega) fun h12 e12 => ?_
      have v12 := v11.of_ext e12
      refine SameP_spec (x := p) (y := q) (hP.ext v12.ext) (hR.ext v12.ext) (by omega) (by omega) fun h13 e13 => ?_
      have v13 := v12.of_ext e13
      refine ⟨fun hne => by simp at hne, fun _ => ⟨fun hv0 => ?_, fun _ => ⟨rfl, v13⟩⟩⟩
      refine OfP_spec (K := K0) (fun k hk => hk.elim) fun r h14 hr14 hm14 e14 => ?_
      have v14 := v13.of_ext e14
      have hA : PQ h14 r (0, [(v, 1)]) := ⟨hr14.rq, hm14⟩
      have hof : linear_Of v h14 (fun r2 h15 => ref12uSame r r2 h15 fun v_25 h0u36 => (!v_25) = false ∧ BO h a 1000 false h0u36) := by
        refine OfP_spec (K := K0) (fun k hk => hk.elim) fun r2 h15 hr15 hm15 e15 => ?_
        have hB : PQ h15 r2 (0, [(v, 1)]) := ⟨hr15.rq, hm15⟩
        refine SameP_spec (hA.ext e15) hB (by simp) (by simp) fun h16 e16 => ?_
        rw [decide_eq_true rfl]
        exact ⟨rfl, v14.of_ext (e15.trans e16)⟩
      exact hof.self
    rintro t h6 ⟨rfl, v6⟩
    refine ⟨nofun, fun _ => ?_⟩
    obtain ⟨p1, p2⟩ := PRb hP v6
    have hml := hP.m.len
    have last : ∀ {h' : Heap} {J : Bool → Heap → Prop} {d : Bool}, (d = true ↔ ¬ inR rs.length P.2) → Ext h h' → J d h' →
        iteB (decide (((p.2.2.2.len : Nat) : Int) > 0)) (idxS p.2.2.2 (IntKind.wrap .i64 (((p.2.2.2.len : Nat) : Int) - 1)) 4 fun a_3 => Lift.load (Value.int .i64) (a_3.add 0) h' fun v_27 => J (decide (v_27 ≥ ((reals.len : Nat) : Int))) h') (J false h') := by
      intro h' J d hd e' k
      refine ⟨fun hpos => ?_, fun hz => ?_⟩
      · have hpos' : 0 < P.2.length := by
          have : ((p.2.2.2.len : Nat) : Int) > 0 := by simpa using hpos
          omega
        rw [w64 (by omega) (by omega)]
        refine (hP.m.ext e').at (i := _) (j := P.2.length - 1) (by omega) (by omega) fun a1 y hy hv1 hr1 => ⟨y.1, ld_var hy, ?_⟩
        have hl := inR_last (n := rs.length) fP.rt hpos'
        have : decide (y.1 ≥ ((reals.len : Nat) : Int)) = d := by
          rw [Bool.eq_iff_iff, decide_eq_true_iff, hd, hl, hv1, hrsl]; omega
        show J (decide (y.1 ≥ ((reals.len : Nat) : Int))) h'
        rw [this]; exact k
      · have hz' : P.2.length = 0 := by
          have : ¬ ((p.2.2.2.len : Nat) : Int) > 0 := by simpa using hz
          omega
        have hnil := List.eq_nil_of_length_eq_zero hz'
        have : d = false := by
          cases d with
          | false => rfl
          | true =>
            exact absurd (fun m hm => by rw [hnil] at hm; simp at hm) (hd.1 rfl)
        rw [this] at k; exact k
    refine ValueP_spec (p := P) (rs := rs) (T := 6) v6 p1 p2 (RLX v6) (by omega) b1 b2 s3 (by omega) (fun inP r6 h7 v7 k7 hr7 z7 => mem_ext fun h8 e8 => ?_) (fun inP h7 e7 => mem_ext fun h8 e8 => ?_)
    · have v8 := v7.of_ext e8
      refine seq.cut (fun t h9 => t = false ∧ h9 = h8) (last (J := fun t h9 => t = false ∧ h9 = h8) (d := false) ⟨nofun, fun hn => absurd inP hn⟩ v8.ext ⟨rfl, rfl⟩) ?_
      rintro t h9 ⟨rfl, rfl⟩
      refine ⟨nofun, fun _ => ?_⟩
      refine seq.cut (fun t h10 => t = true ∧ Ext h h10) ⟨fun _ => ?_, fun hn => by simp at hn⟩ ?_
      · refine ValueR_spec (x := p) (p := P) (rs := rs) (hP.ext v8.ext) (RL0.ext v8.ext) inP n1 b1 b2 s3 fun r9 h10 hr9 z9 e10 => ?_
        refine FormQ_spec hr9 (by omega) fun r10 h11 hr10 e11 => ?_
        have hr8 := ((hr7.ext e8).ext (e10.trans e11)).rq
        refine SameQ_spec (x := r6) hr8 hr10 fun h12 e12 => ?_
        exact ⟨decide_eq_true rfl, v8.ext.trans (e10.trans (e11.trans e12))⟩
      · rintro t h10 ⟨rfl, e10⟩
        exact K h10 e10
    · have e78 := v6.ext.trans (e7.trans e8)
      refine seq.cut (fun t h9 => t = true ∧ h9 = h8) (last (J := fun t h9 => t = true ∧ h9 = h8) (d := true) ⟨fun _ => inP, fun _ => rfl⟩ e78 ⟨rfl, rfl⟩) ?_
      rintro t h9 ⟨rfl, rfl⟩
      refine ⟨fun _ => ?_, nofun⟩
      refine seq.cut (fun t h10 => t = true ∧ Ext h h10) ⟨fun _ => ?_, fun hn => by simp at hn⟩ ?_
      · refine SameQ_spec (x := (false, Sl.nil, Sl.nil)) (y := (false, Sl.nil, Sl.nil)) RQ.zero RQ.zero fun h12 e12 => ?_
        exact ⟨decide_eq_true rfl, e78.trans e12⟩
      · rintro t h10 ⟨rfl, e10⟩
        exact K h10 e10
end Go.Sh

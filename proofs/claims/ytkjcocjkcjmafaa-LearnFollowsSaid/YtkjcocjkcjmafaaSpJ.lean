/-
  Laws that the proof of this claim's statement leans on, each proved under the conditions that it states.
-/
import Derived.Test.YtkjcocjkcjmafaaSpI
set_option linter.unusedVariables false
set_option linter.unusedSimpArgs false
namespace Go.Sh
open Go Go.Lift Go.Cla Go.Sort
variable {h0 h h' : Heap} {x : S8} {S : SS} {nx : Int} {ls : List Int}
def AE.nil : AE := ⟨fun _ => false, fun _ => false⟩
def st0 (S : SS) (ls : List Int) : AE := AE.nil.adds S (ls.map tr)
open Classical in
noncomputable def lesson (S : SS) (ls : List Int) : Option AE := if Ready S ls then runW S S.tra.length (st0 S ls) else none
theorem adds_eq {vs : List Nat} {st : AE} (h : ∀ v, st.E v = true → st.A v = true) {v : Nat} (hv : (st.adds S vs).E v = true) : (st.adds S vs).A v = true := by
  rcases adds_AE hv with g | g
  · exact (adds_up v).1 (h v g)
  · exact g
theorem adds_in {v : Nat} (hl : 0 < atI S.lev v) : ∀ (vs : List Nat) (st : AE), v ∈ vs → (st.adds S vs).A v = true := by
  intro vs
  induction vs with
  | nil => intro st h; cases h
  | cons x r ih =>
    intro st h
    by_cases hr : v ∈ r
    · exact ih _ hr
    · have : v = x := by simpa [hr] using h
      subst this
      exact (adds_up (vs := r) v).1 (add_in hl).1
theorem foldM_le {S : SS} {B : Int} : ∀ (ls : List Int) (m0 : Int), m0 ≤ B → (∀ l ∈ ls, lvI S l ≤ B) → ls.foldl (fun m l => if lvI S l > m then lvI S l else m) m0 ≤ B := by
  intro ls
  induction ls with
  | nil => intro m0 h _; exact h
  | cons l r ih =>
    intro m0 h hl
    refine ih _ ?_ fun m hm => hl m (by simp [hm])
    dsimp only
    split
    · exact hl l (by simp)
    · exact h
theorem foldM_ge {S : SS} : ∀ (ls : List Int) (m0 : Int), m0 ≤ ls.foldl (fun m l => if lvI S l > m then lvI S l else m) m0 ∧ ∀ l ∈ ls, lvI S l ≤ ls.foldl (fun m l => if lvI S l > m then lvI S l else m) m0 := by
  intro ls
  induction ls with
  | nil => intro m0; exact ⟨Int.le_refl _, by simp⟩
  | cons l r ih =>
    intro m0
    have := ih (if lvI S l > m0 then lvI S l else m0)
    simp only [List.foldl_cons]
    refine ⟨Int.le_trans ?_ this.1, fun m hm => ?_⟩
    · split <;> omega
    · rcases List.mem_cons.1 hm with rfl | hm
      · refine Int.le_trans ?_ this.1
        split <;> omega
      · exact this.2 m hm
theorem foldM_att {S : SS} : ∀ (ls : List Int) (m0 : Int), ls.foldl (fun m l => if lvI S l > m then lvI S l else m) m0 = m0 ∨ ∃ l ∈ ls, lvI S l = ls.foldl (fun m l => if lvI S l > m then lvI S l else m) m0 := by
  intro ls
  induction ls with
  | nil => intro m0; exact .inl rfl
  | cons l r ih =>
    intro m0
    simp only [List.foldl_cons]
    rcases ih (if lvI S l > m0 then lvI S l else m0) with e | ⟨k, hk, e⟩
    · by_cases g : lvI S l > m0
      · right
        rw [e, if_pos g]
        exact ⟨l, by simp, rfl⟩
      · left; rw [e, if_neg g]
    · exact .inr ⟨k, by simp [hk], e⟩
theorem st0uinv (R : RightS S nx) (hn : S.val.length ≤ 1048576) (rd : Ready S ls) : InvW S S.tra.length (st0 S ls) := by
  have hth : ∀ l ∈ ls, There S.val.length l := fun l hl => vl_there (V := S.val) (by have := rd.neg l hl; omega)
  have hEA : ∀ v, (st0 S ls).E v = true → (st0 S ls).A v = true := fun v hv => adds_eq (st := AE.nil) (fun v h => by cases h) hv
  refine ⟨adds_sub (fun v h => by cases h), fun v hv => ?_, fun q hq _ => hq, ?_, fun v hv => .inl (hEA v hv)⟩
  · rcases adds_E hv with g | g
    · cases g
    · obtain ⟨l, hl, rfl⟩ := List.mem_map.1 g.1
      exact ⟨(hth l hl).tr, g.2⟩
  · have hm := rd.lev
    have hh := rd.hea
    rcases foldM_att (S := S) ls 0 with e | ⟨l, hl, e⟩
    · unfold mxL at hm; omega
    · have e : lvI S l = (S.hea.length : Int) := e.trans hm
      rw [lvI_there R (hth l hl) hn] at e
      have hA := adds_in (S := S) (v := tr l) (by omega) (ls.map tr) AE.nil (List.mem_map_of_mem hl)
      obtain ⟨q, hq, hqe⟩ := R.place (hth l hl).tr (by omega)
      unfold cntH
      refine List.countP_pos_iff.2 ⟨q, List.mem_range.2 hq, ?_⟩
      unfold inH
      simp only [Bool.and_eq_true, beq_iff_eq]
      rw [hqe]
      exact ⟨hA, e⟩
theorem runW_inv (R : RightS S nx) : ∀ {i : Nat} {st st' : AE}, InvW S i st → i ≤ S.tra.length → runW S i st = some st' → InvW S 0 st' ∨ ∃ j, InvW S j st' ∧ cntH S st' = 1 := by
  intro i
  induction i with
  | zero =>
    intro st st' I _ h
    unfold runW at h
    split at h
    · cases h; exact .inl I
    · cases h
  | succ i ih =>
    intro st st' I hi h
    unfold runW at h
    split at h
    · rename_i g; cases h; exact .inr ⟨_, I, g⟩
    · rename_i g
      split at h
      · rename_i hA
        split at h
        · cases h
        · rename_i hr
          exact ih (I.step R (by omega) hA g hr) (by omega) h
      · rename_i hA
        exact ih (I.skip (by simpa using hA)) (by omega) h
theorem runW_cnt : ∀ {i : Nat} {st st' : AE}, runW S i st = some st' → cntH S st' = 1 := by
  intro i
  induction i with
  | zero =>
    intro st st' h
    unfold runW at h
    split at h
    · rename_i g; cases h; exact g
    · cases h
  | succ i ih =>
    intro st st' h
    unfold runW at h
    split at h
    · rename_i g; cases h; exact g
    · split at h
      · split at h
        · cases h
        · exact ih h
      · exact ih h
structure LesP (S : SS) (st : AE) : Prop where
  inn : ∀ v, st.E v = true → v < S.val.length ∧ 0 < atI S.lev v
  sub : ∀ v, st.A v = true → st.E v = true
  one : ∃ u, st.A u = true ∧ atI S.lev u = (S.hea.length : Int) ∧ ∀ v, st.A v = true → atI S.lev v = (S.hea.length : Int) → v = u
theorem lesson_p (R : RightS S nx) (hn : S.val.length ≤ 1048576) {st : AE} (h : lesson S ls = some st) : LesP S st := by
  unfold lesson at h
  split at h
  · rename_i rd
    have hc := runW_cnt h
    have I : ∃ j, InvW S j st := by
      rcases runW_inv R (st0uinv R hn rd) (Nat.le_refl _) h with g | ⟨j, g, _⟩
      · exact ⟨_, g⟩
      · exact ⟨_, g⟩
    obtain ⟨j, I⟩ := I
    exact ⟨I.inn, I.sub, the_one R (fun v hv => I.inn v (I.sub v hv)) hc⟩
  · cases h
end Go.Sh

namespace Go.Sh
open Go Go.Lift Go.Cla Go.Sort
variable {h0 h h' : Heap} {x : S8} {S : SS} {nx : Int} {ls : List Int}
theorem less_rows (R : RightS S nx) (hn : S.val.length ≤ 1048576) {st : AE} (L : LesP S st) {ys : List Int} (hp : ys.Perm ((inA S st.A).map (nl S))) (hs : ys.Pairwise (fun u v => ¬ ordF S v u < 0)) :
    (secF S st.A S.val.length = -1 ∧ ys = (lessF S st.A).map (nl S) ∧ ys.length = 1) ∨ ∃ (s : Nat) (u : Nat) (t : List Nat), secF S st.A S.val.length = (s : Int) ∧ s < S.val.length ∧ ys = nl S u :: nl S s :: t.map (nl S) ∧ t.Perm (restF S st.A) ∧ (∀ v ∈ t, atI S.lev v ≤ atI S.lev s) ∧ (∀ v ∈ t, v < S.val.length ∧ 0 < atI S.lev v) ∧ lessF S st.A = u :: s :: restF S st.A ∧ 0 < atI S.lev s := by
  have hAn : ∀ v, st.A v = true → v < S.val.length ∧ 0 < atI S.lev v := fun v hv => L.inn v (L.sub v hv)
  obtain ⟨u, hu, hlu, hone⟩ := L.one
  have hlev : ∀ v, st.A v = true → atI S.lev v ≤ (S.hea.length : Int) := fun v hv => (R.lev_le' (hAn v hv).1).2
  have hmem : ∀ v, v ∈ inA S st.A → v < S.val.length ∧ 0 < atI S.lev v := fun v hv => by
    unfold inA at hv; exact hAn v (List.mem_filter.1 hv).2
  -- back to truths
  have hys : ys = (ys.map tr).map (nl S) := by
    rw [List.map_map]
    refine (List.map_id ys).symm.trans (List.map_congr_left fun y hy => ?_)
    obtain ⟨v, hv, rfl⟩ := List.mem_map.1 (hp.mem_iff.1 hy)
    have := nl_told R (hmem v hv).1 (hmem v hv).2
    simp [this.2.1]
  have hpw : (ys.map tr).Perm (inA S st.A) := by
    refine (hp.map tr).trans ?_
    rw [List.map_map]
    refine List.Perm.of_eq ((List.map_congr_left fun v hv => ?_).trans (List.map_id _))
    have := nl_told R (hmem v hv).1 (hmem v hv).2
    simp [this.2.1]
  have hsw : (ys.map tr).Pairwise (fun v w => ¬ befo S w v) := by
    rw [List.pairwise_map]
    refine hs.imp_of_mem fun {y z} hy hz h => ?_
    obtain ⟨v, hv, rfl⟩ := List.mem_map.1 (hp.mem_iff.1 hy)
    obtain ⟨w, hw, rfl⟩ := List.mem_map.1 (hp.mem_iff.1 hz)
    have hv := nl_told R (hmem v hv).1 (hmem v hv).2
    have hw := nl_told R (hmem w hw).1 (hmem w hw).2
    rw [ordF_lt, lvI_there R hv.1 hn, lvI_there R hw.1 hn, trI_there hv.1 hn, trI_there hw.1 hn, hv.2.1, hw.2.1] at h
    rw [hv.2.1, hw.2.1]
    unfold befo
    omega
  have hhd := headF_eq (S := S) hu (hAn u hu).1 hlu hone
  generalize ys.map tr = ws at *
  rcases sorted_less hlev hu (hAn u hu).1 hlu hone hpw hsw with ⟨e, e2, e3⟩ | ⟨s, t, e, e2, hp3, hl3⟩
  · left
    subst e2
    refine ⟨e, ?_, by rw [hys]; rfl⟩
    rw [hys]
    unfold lessF
    rw [hhd, e3, e]
    simp
  · right
    subst e2
    have hst : ∀ v ∈ s :: t, v < S.val.length ∧ 0 < atI S.lev v := fun v hv => hmem v (hpw.mem_iff.1 (by simp at hv ⊢; right; exact hv))
    refine ⟨s, u, t, e, (hst s (by simp)).1, by rw [hys]; rfl, hp3, hl3, fun v hv => hst v (by simp [hv]), ?_, (hst s (by simp)).2⟩
    unfold lessF
    rw [hhd, e]
    simp
theorem rest_rows (R : RightS S nx) (hn : S.val.length ≤ 1048576) {A : Nat → Bool} {t : List Nat} (hp : t.Perm (restF S A)) (ht : ∀ v ∈ t, v < S.val.length ∧ 0 < atI S.lev v) {zs : List Int} (hz : zs.Perm (t.map (nl S))) (hs : zs.Pairwise (fun u v => ¬ ordT v u < 0)) : zs = (restF S A).map (nl S) := by
  have hys : zs = (zs.map tr).map (nl S) := by
    rw [List.map_map]
    refine (List.map_id zs).symm.trans (List.map_congr_left fun y hy => ?_)
    obtain ⟨v, hv, rfl⟩ := List.mem_map.1 (hz.mem_iff.1 hy)
    have := nl_told R (ht v hv).1 (ht v hv).2
    simp [this.2.1]
  have hpw : (zs.map tr).Perm (restF S A) := by
    refine (hz.map tr).trans ?_
    rw [List.map_map]
    refine (List.Perm.of_eq ((List.map_congr_left fun v hv => ?_).trans (List.map_id _))).trans hp
    have := nl_told R (ht v hv).1 (ht v hv).2
    simp [this.2.1]
  have hsw : (zs.map tr).Pairwise (fun v w => v ≤ w) := by
    rw [List.pairwise_map]
    refine hs.imp_of_mem fun {y z} hy hz2 h => ?_
    obtain ⟨v, hv, rfl⟩ := List.mem_map.1 (hz.mem_iff.1 hy)
    obtain ⟨w, hw, rfl⟩ := List.mem_map.1 (hz.mem_iff.1 hz2)
    have hv := nl_told R (ht v hv).1 (ht v hv).2
    have hw := nl_told R (ht w hw).1 (ht w hw).2
    rw [ordT_lt, trI_there hv.1 hn, trI_there hw.1 hn] at h
    omega
  rw [hys, nat_sorted hpw hsw (range_sorted _ _)]
theorem lfrom_spec {s : Sl} {Q : ((Sl × Int × Sl) × Int) → Heap → Prop} (rd : SRd h x S nx) (Rt : RightS S nx) (f : Few8 S) (hr : RJ h s ls) (hl : ls.length ≤ 1000)
    (K0 : lesson S ls = none → ∀ h', Ext h h' → Q ((Sl.nil, 0, Sl.nil), 1) h')
    (K1 : ∀ st, lesson S ls = some st → ∀ h' o sn, Ext h h' → RJ h' o ((lessF S st.A).map (nl S)) → RJ h' sn ((inA S st.E).map fun v : Nat => (v : Int)) → (∀ b, o.blk = some b → h.size ≤ b) → Q ((o, levF S st.A, sn), 0) h') : learn_From x s h Q := by
  have hv := f.v
  have hft := f.t
  have hn : S.val.length ≤ 1048576 := by omega
  have hlen := hr.len
  refine mem_ext fun h1 e1 => ready_spec (rd.ext e1) (tri_of Rt.tra Rt.fre) hn (R.ext hr e1) (by omega) fun b h2 hb e2 => ?_
  have e12 := e1.trans e2
  refine ⟨fun g => ?_, fun g => ?_⟩
  · have g : ¬ Ready S ls := fun hh => by rw [hb.2 hh] at g; cases g
    exact K0 (by unfold lesson; rw [if_neg g]) h2 e12
  have hR : Ready S ls := hb.1 (by simpa using g)
  have hls : lesson S ls = runW S S.tra.length (st0 S ls) := by unfold lesson; rw [if_pos hR]
  refine MPg.new (toV := toI) fun h3 m3 e3 z3 => MPg.new (toV := Value.bool) fun h4 m4 e4 z4 => ?_
  intro T
  generalize hB : h4.push (.cells [Sl.toV x.1, Sl.toV x.2.1, Sl.toV x.2.2.1, Sl.toV x.2.2.2.1, Sl.toV x.2.2.2.2.1, Sl.toV x.2.2.2.2.2.1, Sl.toV x.2.2.2.2.2.2.1, Value.int .i64 x.2.2.2.2.2.2.2, Value.map (some h2.size), Value.map (some h3.size), Value.int .i64 0].toArray T (0, 0)) = h5
  have e5 : Ext h4 h5 := by rw [← hB]; exact Ext.push _ _
  have cB : ∀ k (hk : k < 11), cell? h5 ((⟨h4.size, 0, none⟩ : Addr).add k) = some ([Sl.toV x.1, Sl.toV x.2.1, Sl.toV x.2.2.1, Sl.toV x.2.2.2.1, Sl.toV x.2.2.2.2.1, Sl.toV x.2.2.2.2.2.1, Sl.toV x.2.2.2.2.2.2.1, Value.int .i64 x.2.2.2.2.2.2.2, Value.map (some h2.size), Value.map (some h3.size), Value.int .i64 0][k]'hk) := fun k hk => by
    rw [← hB, cell_push_new_add, List.getElem?_toArray, List.getElem?_eq_getElem hk]
  have fB : frozen? h5 ((⟨h4.size, 0, none⟩ : Addr).add 10) = false := by rw [← hB, addr_add _ _ rfl]; unfold frozen?; simp
  clear hB
  have sz1 := e1.size; have sz2 := e2.size; have sz3 := e3.size; have sz4 := e4.size; have sz5 := e5.size
  have e15 := ((e12.trans e3).trans e4).trans e5
  have q0 : WKt h h5 h5 ⟨h4.size, 0, none⟩ x h2.size h3.size ⟨fun _ => none, fun _ => none, 0⟩ := {
    ext := e15
    fr := .refl
    spot := rfl
    cs := fun k hk => by
      rw [cB k (by omega)]
      match k, hk with
      | 0, _ => rfl
      | 1, _ => rfl
      | 2, _ => rfl
      | 3, _ => rfl
      | 4, _ => rfl
      | 5, _ => rfl
      | 6, _ => rfl
      | 7, _ => rfl
    c8 := cB 8 (by decide)
    c9 := cB 9 (by decide)
    c10 := cB 10 (by decide)
    f10 := fB
    m1 := (m3.keep e4 (by simp)).keep e5 (by simp)
    m2 := m4.keep e5 (by simp)
    ne := by omega
    n1 := by show h2.size ≠ h4.size; omega
    n2 := by show h3.size ≠ h4.size; omega
    b0 := by show h.size ≤ h4.size; omega
    b1 := by omega
    b2 := by omega }
  have mt0 : MtW S ⟨fun _ => none, fun _ => none, 0⟩ AE.nil := ⟨fun k => by simp [AE.nil], fun k => by simp [AE.nil], by
    have : cntH S AE.nil = 0 := by unfold cntH; refine List.countP_eq_zero.2 fun j _ => ?_; unfold inH AE.nil; simp
    rw [this]; rfl⟩
  refine loop.inv (fun (s0 : Int) hh => ∃ (k : Nat) (t : WS), s0 = (k : Int) ∧ k ≤ ls.length ∧ WKt h h5 hh ⟨h4.size, 0, none⟩ x h2.size h3.size t ∧ MtW S t (AE.nil.adds S ((ls.take k).map tr))) (fun s0 _ => ls.length - s0.toNat) ⟨0, _, rfl, Nat.zero_le _, q0, mt0⟩ ?_
  rintro _ h6 ⟨k, t, rfl, hk, q6, m6⟩
  refine ⟨fun g => ?_, fun g => ?_⟩
  · have g := of_decide_eq_true g
    have hk' : k < ls.length := by omega
    refine RJ.ldE hr q6.ext (j := k) rfl hk' ?_
    rw [show atI ls k = ls[k] from at_get hk']
    have hmem : ls[k] ∈ ls := List.getElem_mem hk'
    have hcl := cnt_le (S := S) (AE.nil.adds S ((ls.take k).map tr))
    have hc := m6.c
    refine lput_one q6 rd (by omega) fun h7 q7 => ?_
    rw [w64 (by omega) (by omega)]
    refine ⟨⟨k + 1, _, by omega, by omega, q7, ?_⟩, by omega⟩
    rw [List.take_succ_eq_append_getElem hk', List.map_append, adds_app]
    exact putW_mt Rt hn m6 (hR.neg _ hmem) (fun hE => adds_eq (fun v h => by cases h) hE) (adds_sub (fun v h => by cases h) _)
  · have g := of_decide_eq_false g
    have : k = ls.length := by omega
    subst this
    rw [List.take_length] at m6
    refine lresolve_spec q6 rd Rt f m6 (st0uinv Rt hn hR) (fun hno h7 e7 => ⟨fun _ => K0 (by rw [hls]; exact hno) h7 e7, nofun⟩) fun st hst h7 t7 q7 m7 => ⟨nofun, fun _ => ?_⟩
    have hst : lesson S ls = some st := by rw [hls]; exact hst
    have L := lesson_p Rt hn hst
    have hAn : ∀ v, st.A v = true → v < S.val.length := fun v hv => (L.inn v (L.sub v hv)).1
    obtain ⟨fA, g1, g2, g3⟩ := q7.m1.rows (S := S) (val := nl S) m7.gs hAn
    obtain ⟨fE, g4, g5, g6⟩ := q7.m2.rows (S := S) (val := fun _ => true) (by intro k; rw [m7.gn]) (fun v hv => (L.inn v hv).1)
    have hlA : fA.length ≤ 20 := by have := g3.length_eq; simp only [List.length_map] at this; have := inA_len (S := S) st.A; omega
    have hlE : fE.length ≤ 20 := by have := g5.length_eq; simp only [List.length_map] at this; have := inA_len (S := S) st.E; omega
    obtain ⟨u, hu, hlu, _⟩ := L.one
    have hneA : fA ≠ [] := fun e => by
      subst e
      have := g3.mem_iff (a := nl S u)
      simp only [List.map_nil, List.not_mem_nil, false_iff] at this
      exact this (List.mem_map_of_mem (List.mem_filter.2 ⟨List.mem_range.2 (hAn u hu), hu⟩))
    have hneE : fE ≠ [] := fun e => by
      subst e
      have := g5.mem_iff (a := (u : Int))
      simp only [List.map_nil, List.not_mem_nil, false_iff] at this
      exact this (List.mem_map_of_mem (f := fun v : Nat => (v : Int)) (List.mem_filter.2 ⟨List.mem_range.2 (hAn u hu), L.sub u hu⟩))
    refine ⟨_, q7.c8, ?_⟩
    intro T8
    generalize hB8 : h7.push (.cells [Value.map (some h2.size)].toArray T8 (0, 0)) = h8
    have e8 : Ext h7 h8 := by rw [← hB8]; exact Ext.push _ _
    have c8 : cell? h8 ⟨h7.size, 0, none⟩ = some (Value.map (some h2.size)) := by rw [← hB8]; exact cell_push_new _ _ _ _ _
    clear hB8
    intro T9
    generalize hB9 : h8.push (.cells [Sl.toV x.1, Sl.toV x.2.1, Sl.toV x.2.2.1, Sl.toV x.2.2.2.1, Sl.toV x.2.2.2.2.1, Sl.toV x.2.2.2.2.2.1, Sl.toV x.2.2.2.2.2.2.1, Value.int .i64 x.2.2.2.2.2.2.2].toArray T9 (0, 0)) = h9
    have e9 : Ext h8 h9 := by rw [← hB9]; exact Ext.push _ _
    have c9 : cells? h9 ⟨h8.size, 0, none⟩ 8 0 = some (C_sl_sl_sl_sl_sl_sl_sl_i64 x) := by
      rw [← hB9]
      exact cells?_mk (h := h8.push (.cells [Sl.toV x.1, Sl.toV x.2.1, Sl.toV x.2.2.1, Sl.toV x.2.2.2.1, Sl.toV x.2.2.2.2.1, Sl.toV x.2.2.2.2.2.1, Sl.toV x.2.2.2.2.2.2.1, Value.int .i64 x.2.2.2.2.2.2.2].toArray T9 (0, 0))) (a := ⟨h8.size, 0, none⟩) (C_sl_sl_sl_sl_sl_sl_sl_i64 x) 0 (fun j hj => by
        rw [Nat.zero_add, cell_push_new_add]
        match j, hj with
        | 0, _ => rfl
        | 1, _ => rfl
        | 2, _ => rfl
        | 3, _ => rfl
        | 4, _ => rfl
        | 5, _ => rfl
        | 6, _ => rfl
        | 7, _ => rfl)
    clear hB9
    have q9 := (q7.ext' e8).ext' e9
    have k2 : ∀ {α : Type} {toV : α → Value} {f : List (Int × α)} {hh : Heap} {mp : Nat}, mapEs .i64 h7 (some mp) (vals toV f) → Ext h7 hh → mapEs .i64 hh (some mp) (vals toV f) := fun {α toV f hh mp} hm e => by
      obtain ⟨es, c, a1, a2⟩ := hm
      exact ⟨es, c, (e.same mp (Array.getElem?_eq_some_iff.1 a1).1 (by simp)).trans a1, a2⟩
    refine sortedF_spec (cell_keep e9 c8 (by simp)) (k2 g1 (e8.trans e9)) (by omega) hneA (rd.ext q9.ext) c9 fun o h10 ys hp hs o10 e10 => ?_
    have hp := hp.trans g3
    have q10 := q9.ext' e10
    have LR := less_rows Rt hn L hp hs
    have hol := o10.r.len
    have hyl : ys.length ≤ 20 := by have := hp.length_eq; simp only [List.length_map] at this; have := inA_len (S := S) st.A; omega
    refine seq.cut (fun _ hh => ∃ zs, Own toI h9.size hh o zs ∧ Ext h9 hh ∧ zs = (lessF S st.A).map (nl S) ∧ 1 ≤ zs.length ∧ mxL S (zs.drop 1) = levF S st.A) ?_ ?_
    · have mx0 : mxL S [] = 0 := rfl
      have mx1 : ∀ (s : Nat) (r : List Nat), s < S.val.length → 0 < atI S.lev s → (∀ v ∈ r, v < S.val.length ∧ 0 < atI S.lev v) → (∀ v ∈ r, atI S.lev v ≤ atI S.lev s) → mxL S (nl S s :: r.map (nl S)) = atI S.lev s := by
        intro s r hsn hs0 hr hr2
        have es := nl_told Rt hsn hs0
        have le := lvI_there Rt es.1 hn
        rw [es.2.1] at le
        refine Int.le_antisymm (foldM_le _ _ (by omega) fun l hl => ?_) ?_
        · rcases List.mem_cons.1 hl with rfl | hl
          · omega
          · obtain ⟨v, hv, rfl⟩ := List.mem_map.1 hl
            have ev := nl_told Rt (hr v hv).1 (hr v hv).2
            rw [lvI_there Rt ev.1 hn, ev.2.1]
            exact hr2 v hv
        · have := (foldM_ge (S := S) (nl S s :: r.map (nl S)) 0).2 (nl S s) (by simp)
          rw [le] at this
          exact this
      refine ⟨fun gl => ?_, fun gl => ?_⟩
      · have gl := of_decide_eq_true gl
        rcases LR with ⟨_, _, h1⟩ | ⟨s2, u2, t2, r1, r2, r3, r4, r5, r6, r7, r8⟩
        · omega
        obtain ⟨b, ha, hb, hbk⟩ := ownAt o10 (by rw [r3]; simp)
        refine sliceCut (j := 2) ha o10.r.cap (by omega) ?_
        have hyl2 : ys.length = t2.length + 2 := by rw [r3]; simp
        refine Own.sorted (cf := ordT) (pre := [nl S u2, nl S s2]) (xs := t2.map (nl S)) (by simpa [r3] using o10) (by intro e; have := congrArg List.length e; simp only [List.length_map, List.length_nil] at this; omega) ha rfl (by dsimp only; rw [hol, hyl2]; simp) (by simp; omega) ordT_swo (fun hh _ u v => fromC_spec ⟨rfl, Keep.refl _ _⟩) fun zs hh hpz hsz oz kz => ?_
        have ez := rest_rows Rt hn r4 r6 hpz hsz
        refine ⟨nl S u2 :: nl S s2 :: zs, by simpa using oz, Keep.fresh e10 hb kz, by rw [r7, ez]; rfl, by simp, ?_⟩
        rw [ez]
        show mxL S (nl S s2 :: (restF S st.A).map (nl S)) = _
        have hm4 : ∀ v, v ∈ restF S st.A → v ∈ t2 := fun v hv => r4.mem_iff.2 hv
        rw [mx1 s2 _ r2 r8 (fun v hv => r6 v (hm4 v hv)) (fun v hv => r5 v (hm4 v hv))]
        unfold levF
        rw [r1, if_pos (by omega)]
        rfl
      · have gl := of_decide_eq_false gl
        refine ⟨ys, o10, e10, ?_⟩
        rcases LR with ⟨h1, h2, h3⟩ | ⟨s2, u2, t2, r1, r2, r3, r4, r5, r6, r7, r8⟩
        · refine ⟨h2, by omega, ?_⟩
          have : ys.drop 1 = [] := List.drop_eq_nil_of_le (by omega)
          rw [this, mx0]
          unfold levF
          rw [h1]; rfl
        · have ht : t2 = [] := by
            refine List.eq_nil_of_length_eq_zero ?_
            have := congrArg List.length r3
            simp only [List.length_cons, List.length_map] at this
            omega
          subst ht
          have hrest : restF S st.A = [] := List.eq_nil_of_length_eq_zero (by simpa using r4.length_eq.symm)
          refine ⟨by rw [r3, r7, hrest]; rfl, by rw [r3]; simp, ?_⟩
          rw [r3]
          show mxL S (nl S s2 :: ([] : List Nat).map (nl S)) = _
          rw [mx1 s2 [] r2 r8 (by simp) (by simp)]
          unfold levF
          rw [r1, if_pos (by omega)]
          rfl
    · rintro _ h11 ⟨zs, o11, e11, ez, hz1, hmx⟩
      have q11 := q9.ext' e11
      have hzl : zs.length ≤ 1000000 := by
        have h1 := o11.r.len
        have h2 := hol
        omega
      refine R.drop o11.r (j := 1) rfl hz1 fun sd rd1 _ => ⟨_, q11.c9, ?_⟩
      refine lLevel_spec (rd.ext q11.ext) rd1 (by simp; omega) fun h12 e12' => ⟨(q11.ext' e12').c9, ?_⟩
      intro T13
      generalize hB13 : h12.push (.cells [Value.map (some h3.size)].toArray T13 (0, 0)) = h13
      have e13 : Ext h12 h13 := by rw [← hB13]; exact Ext.push _ _
      have c13 : cell? h13 ⟨h12.size, 0, none⟩ = some (Value.map (some h3.size)) := by rw [← hB13]; exact cell_push_new _ _ _ _ _
      clear hB13
      have e713 := (((e8.trans e9).trans e11).trans e12').trans e13
      refine sortedK_spec c13 (k2 g4 e713) (by omega) hneE fun sn h15 ks hpk hsk ok ek => ?_
      have eks : ks = (inA S st.E).map fun v : Nat => (v : Int) := by
        refine (hpk.trans g5).eq_of_pairwise (fun _ _ _ _ h1 h2 => Int.le_antisymm h1 h2) hsk ?_
        rw [List.pairwise_map]
        exact (range_sorted _ _).imp fun h => Int.ofNat_le.2 h
      rw [hmx]
      refine K1 st hst h15 o sn (((q11.ext.trans e12').trans e13).trans ek) ?_ ?_ ?_
      · rw [← ez]; exact ((o11.ext e12').ext (e13.trans ek)).r
      · rw [← eks]; exact ok.r
      · intro b hb
        have h1 := (o11.lt hb).1
        have h2 := q9.ext.size
        omega
end Go.Sh

namespace Go.Sh
open Go Go.Lift Go.Cla
variable {h0 h h' : Heap} {x : S8} {S : SS} {nx : Int} {ls : List Int}
structure RF (n : Nat) (h0 h : Heap) (v w : Sl) (b1 b2 : Nat) (f : Nat → Int) (g : Nat → Bool) : Prop where
  ext : Ext h0 h
  o1 : Own toI h0.size h v ((List.range n).map f)
  o2 : Own Value.bool h0.size h w ((List.range n).map g)
  vb : v.blk = some b1
  wb : w.blk = some b2
  ne : b1 ≠ b2
def upF {α : Type} (f : Nat → α) (j : Nat) (y : α) : Nat → α := fun i => if i = j then y else f i
theorem set_range {α : Type} (f : Nat → α) (n j : Nat) (y : α) : ((List.range n).map f).set j y = (List.range n).map (upF f j y) := by
  refine List.ext_getElem (by simp) fun i h1 h2 => ?_
  rw [List.getElem_set]
  simp only [List.getElem_map, List.getElem_range, upF]
  by_cases e : j = i
  · subst e; simp
  · rw [if_neg e, if_neg (Ne.symm e)]
section
variable {n : Nat} {v w : Sl} {b1 b2 : Nat} {f : Nat → Int} {g : Nat → Bool}
theorem RF.ext' (q : RF n h0 h v w b1 b2 f g) (e : Ext h h') : RF n h0 h' v w b1 b2 f g := ⟨q.ext.trans e, q.o1.ext e, q.o2.ext e, q.vb, q.wb, q.ne⟩
theorem RF.stw (q : RF n h0 h v w b1 b2 f g) {i : Int} {j : Nat} {y : Bool} {k : Heap → Prop} (hij : i = (j : Int)) (hj : j < n) (K : ∀ h', RF n h0 h' v w b1 b2 f (upF g j y) → k h') : idxS w i 1 fun a => Lift.store a (Value.bool y) h k := by
  subst hij
  have hj' : j < ((List.range n).map g).length := by simpa using hj
  obtain ⟨a, ha, hc⟩ := q.o2.r.get hj'
  refine ⟨a, ha, ⟨by omega, by have := q.o2.r.len; simp at this; omega⟩, ?_⟩
  simp only [Int.toNat_natCast, Nat.mul_one]
  refine q.o2.store hj' ha y fun h' o k' _ => K h' ⟨?_, ?_, by rw [← set_range]; exact o, q.vb, q.wb, q.ne⟩
  · rw [q.wb] at k'
    exact q.ext.fresh (q.o2.lt q.wb).1 k'
  · rw [q.wb] at k'
    refine q.o1.keep k' fun b hb e => ?_
    rw [q.vb] at hb
    cases hb
    exact q.ne (Option.some.inj e)
theorem RF.same {f' : Nat → Int} {g' : Nat → Bool} (q : RF n h0 h v w b1 b2 f g) (hf : ∀ j, j < n → f j = f' j) (hg : ∀ j, j < n → g j = g' j) : RF n h0 h v w b1 b2 f' g' := by
  have e1 : (List.range n).map f = (List.range n).map f' := List.map_congr_left fun j hj => hf j (List.mem_range.1 hj)
  have e2 : (List.range n).map g = (List.range n).map g' := List.map_congr_left fun j hj => hg j (List.mem_range.1 hj)
  exact ⟨q.ext, by rw [← e1]; exact q.o1, by rw [← e2]; exact q.o2, q.vb, q.wb, q.ne⟩
end
end Go.Sh

namespace Go.Sh
open Go Go.Lift Go.Cla
variable {h0 h h' : Heap} {x : S8} {S : SS} {nx : Int} {ls : List Int} {st : AE} {v w : Sl} {b1 b2 : Nat}
def fA (S : SS) (st : AE) (j : Nat) : Int := if st.A j then nl S j else 0
end Go.Sh

/-
  Laws that the proof of this claim's statement leans on, each proved under the conditions that it states.
-/
import Derived.Test.YtlclchgingkkhaaGreatDoorXA
import Derived.Test.YtlclchgingkkhaaGreatDoorSpU
set_option linter.unusedVariables false
set_option linter.unusedSimpArgs false
namespace Go.Sh
open Go Go.Lift
theorem uu {bs : List Int} : ∀ {ps : List (Rat × PL)} {i : Nat} {W : DL}, (refV bs ps i W).length = W.length
  | [], _, _ => rfl
  | p :: ps, i, W => by rw [refV, uu]; simp
theorem tY {bs : List Int} {u : Nat} : ∀ {ps : List (Rat × PL)} {i : Nat} {W : DL}, (∀ k, i ≤ k → k < i + ps.length → u ≠ (at0 bs k).toNat) → (refV bs ps i W).getD u (0, 0) = W.getD u (0, 0)
  | [], _, _, _ => rfl
  | p :: ps, i, W, h => by
    rw [refV, tY fun k h1 h2 => h k (by omega) (by simp; omega)]
    have := h i (Nat.le_refl _) (by simp)
    rw [List.getD_eq_getElem?_getD, List.getD_eq_getElem?_getD, List.getElem?_set_ne (fun e => this e.symm)]
theorem afx {t : TT} {B i : Nat} {W W0 : DL} (hd : ∀ i k, i < t.ps.length → k < t.ps.length → i ≠ k → (at0 t.bs i).toNat ≠ (at0 t.bs k).toNat) (hi : i < t.ps.length) (hb : (at0 t.bs i).toNat < W.length) (he : refV t.bs (t.ps.drop i) i W = refV t.bs t.ps 0 W0) (hB : ∀ e ∈ refV t.bs t.ps 0 W0, szD e ≤ B) : szD (valV (atD W) t.ps[i].2) ≤ B := by
  rw [← he, List.drop_eq_getElem_cons hi, refV] at hB
  have h1 : (refV t.bs (t.ps.drop (i + 1)) (i + 1) (W.set (at0 t.bs i).toNat (valV (atD W) t.ps[i].2))).getD (at0 t.bs i).toNat (0, 0) = valV (atD W) t.ps[i].2 := by
    rw [tY fun k h1 h2 => hd i k hi (by simp at h2; omega) (by omega)]
    rw [List.getD_eq_getElem?_getD, List.getElem?_set_self hb]; rfl
  rw [← h1]
  refine hB _ ?_
  rw [List.getD_eq_getElem?_getD, List.getElem?_eq_getElem (by rw [uu]; simpa using hb)]
  exact List.getElem_mem _
end Go.Sh

namespace Go.Sh
open Go Go.Lift
theorem aeD {h : Heap} {x : X6} {p : Rat × Rat} {Q : X6 → Heap → Prop} (hx : DD h x p) (hs : szD p ≤ 8000) (K : ∀ r h', DQ h' r p → Fr6 h r → Ext h h' → Q r h') : ja x h Q := by
  unfold szD at hs
  refine aa fun h1 e1 => mY (hx.a.ext e1) (by omega) fun r h2 hr fr e2 => mY ((hx.b.ext e1).ext e2) (by omega) fun r' h3 hr' fr' e3 => ?_
  refine K (r.1, r.2.1, r.2.2, r') h3 ⟨hr.ext e3, hr'⟩ ⟨fr.mono e1.size, fr'.mono ?_⟩ (e1.trans (e2.trans e3))
  have := e1.size; have := e2.size; omega
end Go.Sh

namespace Go.Sh
open Go Go.Lift
theorem ur : ∀ {p q : PL}, Srt p → Srt q → (∀ m ∈ p, m.2 ≠ 0) → (∀ m ∈ q, m.2 ≠ 0) → (∀ v, af p v = af q v) → p = q
  | [], [], _, _, _, _, _ => rfl
  | [], b :: bs, _, _, _, nq, h => by
    have := h b.1
    simp [af] at this
    exact absurd this.symm (nq b (by simp))
  | a :: as, [], _, _, np, _, h => by
    have := h a.1
    simp [af] at this
    exact absurd this (np a (by simp))
  | a :: as, b :: bs, hp, hq, np, nq, h => by
    have hp' := List.pairwise_cons.1 hp
    have hq' := List.pairwise_cons.1 hq
    have ha : af (a :: as) a.1 = a.2 := by simp [af]
    have hb : af (b :: bs) b.1 = b.2 := by simp [af]
    rcases Int.lt_trichotomy a.1 b.1 with g | g | g
    · have h1 : af (b :: bs) a.1 = 0 := cB fun m hm => by
        rcases List.mem_cons.1 hm with rfl | hm
        · omega
        · have := hq'.1 m hm; omega
      have := h a.1
      rw [ha, h1] at this
      exact absurd this (np a (by simp))
    · have h2 : a.2 = b.2 := by rw [← ha, ← hb, ← g]; exact h a.1
      have hab : a = b := Prod.ext g h2
      subst hab
      congr 1
      refine ur hp'.2 hq'.2 (fun m hm => np m (by simp [hm])) (fun m hm => nq m (by simp [hm])) fun v => ?_
      by_cases hv : a.1 = v
      · rw [cB (v := v) fun m hm => by have := hp'.1 m hm; omega, cB (v := v) fun m hm => by have := hq'.1 m hm; omega]
      · have := h v
        rwa [aH hv, aH hv] at this
    · have h1 : af (a :: as) b.1 = 0 := cB fun m hm => by
        rcases List.mem_cons.1 hm with rfl | hm
        · omega
        · have := hp'.1 m hm; omega
      have := h b.1
      rw [hb, h1] at this
      exact absurd this.symm (nq b (by simp))
theorem wQ {v : Int} {ms : PL} (h : Srt ms) : Srt (wo v ms) := List.Pairwise.filter _ h
theorem aai {v u : Int} : ∀ {ms : PL}, af (wo v ms) u = if u = v then 0 else af ms u
  | [] => by simp [wo, af]
  | m :: ms => by
    have ih := aai (v := v) (u := u) (ms := ms)
    unfold wo at ih ⊢
    by_cases hm : m.1 = v
    · rw [List.filter_cons_of_neg (by simp [hm]), ih]
      split
      · rfl
      · rename_i h
        rw [aH (by rw [hm]; exact fun e => h e.symm)]
    · rw [List.filter_cons_of_pos (by simpa using hm)]
      by_cases hu : m.1 = u
      · have : ¬ u = v := by omega
        rw [if_neg this]; simp [af, hu]
      · rw [aH hu, aH hu, ih]
theorem kM {m : Int × Rat} {l : PL} {v : Int} (hl : ∀ x ∈ l, m.1 < x.1) : af (nzc m l) v = if m.1 = v then m.2 else af l v := by
  unfold nzc
  split
  · rename_i h
    split
    · rename_i hv
      rw [h, cB fun x hx => by have := hl x hx; omega]
    · rfl
  · rfl
end Go.Sh

namespace Go.Sh
open Go Go.Lift
theorem acS {m x : Int × Rat} {l : PL} (h : x ∈ nzc m l) : (x = m ∧ m.2 ≠ 0) ∨ x ∈ l := by
  unfold nzc at h
  split at h
  · exact .inr h
  · rename_i hz
    rcases List.mem_cons.1 h with h | h
    · exact .inl ⟨h, hz⟩
    · exact .inr h
theorem vM {l : Int} {p q : PL} (h1 : ∀ m ∈ p, l < m.1) (h2 : ∀ m ∈ q, l < m.1) : ∀ x ∈ mrg p q, l < x.1 := by
  have st : ∀ {m x : Int × Rat} {r : PL}, l < m.1 → (∀ x ∈ r, l < x.1) → x ∈ nzc m r → l < x.1 := fun g1 g2 hx => by
    rcases acS hx with ⟨rfl, _⟩ | hx
    · exact g1
    · exact g2 _ hx
  induction p, q using mrg.induct with
  | case1 => rw [tj]; intro x hx; simp at hx
  | case2 a as ih => rw [tK]; exact fun x hx => st (h1 a (by simp)) (ih (fun m hm => h1 m (by simp [hm])) h2) hx
  | case3 b bs ih => rw [tM]; exact fun x hx => st (h2 b (by simp)) (ih h1 (fun m hm => h2 m (by simp [hm]))) hx
  | case4 a as b bs h ih => rw [dH, if_pos h]; exact fun x hx => st (h1 a (by simp)) (ih (fun m hm => h1 m (by simp [hm])) h2) hx
  | case5 a as b bs h h' ih => rw [dH, if_neg h, if_pos h']; exact fun x hx => st (h2 b (by simp)) (ih h1 (fun m hm => h2 m (by simp [hm]))) hx
  | case6 a as b bs h h' ih => rw [dH, if_neg h, if_neg h']; exact fun x hx => st (m := (a.1, a.2 + b.2)) (h1 a (by simp)) (ih (fun m hm => h1 m (by simp [hm])) (fun m hm => h2 m (by simp [hm]))) hx
theorem aaE {p q : PL} : ∀ x ∈ mrg p q, x.2 ≠ 0 := by
  have st : ∀ {m x : Int × Rat} {r : PL}, (∀ x ∈ r, x.2 ≠ 0) → x ∈ nzc m r → x.2 ≠ 0 := fun g2 hx => by
    rcases acS hx with ⟨rfl, hz⟩ | hx
    · exact hz
    · exact g2 _ hx
  induction p, q using mrg.induct with
  | case1 => rw [tj]; intro x hx; simp at hx
  | case2 a as ih => rw [tK]; exact fun x hx => st ih hx
  | case3 b bs ih => rw [tM]; exact fun x hx => st ih hx
  | case4 a as b bs h ih => rw [dH, if_pos h]; exact fun x hx => st ih hx
  | case5 a as b bs h h' ih => rw [dH, if_neg h, if_pos h']; exact fun x hx => st ih hx
  | case6 a as b bs h h' ih => rw [dH, if_neg h, if_neg h']; exact fun x hx => st ih hx
theorem px {m : Int × Rat} {l : PL} (h : Srt l) (hl : ∀ x ∈ l, m.1 < x.1) : Srt (nzc m l) := by
  unfold nzc
  split
  · exact h
  · exact List.pairwise_cons.2 ⟨hl, h⟩
theorem jV {p q : PL} (hp : Srt p) (hq : Srt q) : Srt (mrg p q) ∧ ∀ v, af (mrg p q) v = af p v + af q v := by
  induction p, q using mrg.induct with
  | case1 => rw [tj]; exact ⟨List.Pairwise.nil, fun v => by simp only [af]; grind⟩
  | case2 a as ih =>
    have hp' := List.pairwise_cons.1 hp
    obtain ⟨i1, i2⟩ := ih hp'.2 hq
    have lb := vM (l := a.1) hp'.1 (q := []) (by simp)
    rw [tK]
    refine ⟨px i1 lb, fun v => ?_⟩
    rw [kM lb, i2 v]
    by_cases h : a.1 = v <;> simp [af, h] <;> grind
  | case3 b bs ih =>
    have hq' := List.pairwise_cons.1 hq
    obtain ⟨i1, i2⟩ := ih hp hq'.2
    have lb := vM (l := b.1) (p := []) (by simp) hq'.1
    rw [tM]
    refine ⟨px i1 lb, fun v => ?_⟩
    rw [kM lb, i2 v]
    by_cases h : b.1 = v <;> simp [af, h] <;> grind
  | case4 a as b bs h ih =>
    have hp' := List.pairwise_cons.1 hp
    have hq' := List.pairwise_cons.1 hq
    obtain ⟨i1, i2⟩ := ih hp'.2 hq
    have hb : ∀ x ∈ b :: bs, a.1 < x.1 := fun x hx => by
      rcases List.mem_cons.1 hx with rfl | hx
      · exact h
      · have := hq'.1 x hx; omega
    have lb := vM (l := a.1) hp'.1 hb
    rw [dH, if_pos h]
    refine ⟨px i1 lb, fun v => ?_⟩
    rw [kM lb]
    by_cases hv : a.1 = v
    · rw [if_pos hv, cB (ms := b :: bs) fun x hx => by have := hb x hx; omega]
      simp [af, hv]; grind
    · rw [if_neg hv, i2 v, aH hv]
  | case5 a as b bs h h' ih =>
    have hp' := List.pairwise_cons.1 hp
    have hq' := List.pairwise_cons.1 hq
    obtain ⟨i1, i2⟩ := ih hp hq'.2
    have ha : ∀ x ∈ a :: as, b.1 < x.1 := fun x hx => by
      rcases List.mem_cons.1 hx with rfl | hx
      · exact h'
      · have := hp'.1 x hx; omega
    have lb := vM (l := b.1) ha hq'.1
    rw [dH, if_neg h, if_pos h']
    refine ⟨px i1 lb, fun v => ?_⟩
    rw [kM lb]
    by_cases hv : b.1 = v
    · rw [if_pos hv, cB (ms := a :: as) fun x hx => by have := ha x hx; omega]
      simp [af, hv]; grind
    · rw [if_neg hv, i2 v, aH (a := b) hv]
  | case6 a as b bs h h' ih =>
    have hp' := List.pairwise_cons.1 hp
    have hq' := List.pairwise_cons.1 hq
    obtain ⟨i1, i2⟩ := ih hp'.2 hq'.2
    have hab : a.1 = b.1 := by omega
    have lb := vM (l := a.1) hp'.1 (fun x hx => by have := hq'.1 x hx; omega)
    rw [dH, if_neg h, if_neg h']
    refine ⟨px i1 lb, fun v => ?_⟩
    rw [kM (m := (a.1, a.2 + b.2)) lb]
    by_cases hv : a.1 = v
    · rw [if_pos hv]
      have hv' : b.1 = v := by omega
      simp [af, hv, hv']
    · rw [if_neg hv, i2 v, aH hv, aH (a := b) (by omega)]
end Go.Sh

namespace Go.Sh
open Go Go.Lift
theorem uF {l : PL} (hs : Srt l) {m : Int × Rat} (h : m ∈ l) : af l m.1 = m.2 := by
  obtain ⟨k, hk, rfl⟩ := List.getElem_of_mem h
  exact aaO hs hk rfl
theorem uK {l : PL} {w : Int} (h : af l w ≠ 0) : ∃ m ∈ l, m.1 = w := by
  by_cases hh : ∃ m ∈ l, m.1 = w
  · exact hh
  · exact absurd (cB fun m hm e => hh ⟨m, hm, e⟩) h
theorem afh {p q : PL} (hp : Srt p) (hq : Srt q) {x : Int × Rat} (hx : x ∈ mrg p q) : (∃ m ∈ p, m.1 = x.1) ∨ ∃ m ∈ q, m.1 = x.1 := by
  have h1 := uF (jV hp hq).1 hx
  have h2 := aaE x hx
  rw [(jV hp hq).2] at h1
  by_cases hc : af p x.1 = 0
  · exact .inr (uK fun h => h2 (by rw [← h1, hc, h]; grind))
  · exact .inl (uK hc)
theorem af6 {c : Rat} {p : PL} {x : Int × Rat} (hx : x ∈ scL c p) : ∃ m ∈ p, m.1 = x.1 := by
  obtain ⟨m, hm, rfl⟩ := List.mem_map.1 hx
  exact ⟨m, hm, rfl⟩
theorem srt1 {m : Int × Rat} : Srt [m] := List.pairwise_singleton _ _
theorem aae {f : Int → Rat} {v : Int} : ∀ {l : PL}, Srt l → valL f (wo v l) = valL f l - af l v * f v
  | [], _ => by simp only [wo, List.filter_nil, valL, af]; grind
  | m :: l, hs => by
    have hs' := List.pairwise_cons.1 hs
    have ih := aae (f := f) (v := v) hs'.2
    unfold wo at ih ⊢
    by_cases hm : m.1 = v
    · have h0 : af l v = 0 := cB fun x hx => by have := hs'.1 x hx; omega
      rw [List.filter_cons_of_neg (by simp [hm]), ih, h0]
      simp only [valL, af, if_pos hm, hm]; grind
    · rw [List.filter_cons_of_pos (by simpa using hm)]
      simp only [valL, ih, af, if_neg hm]; grind
structure RowG (P : Int → Prop) (p : Rat × PL) : Prop where
  rt : Rt p
  c : p.1 = 0
  vars : ∀ m ∈ p.2, P m.1
theorem afr {c : Rat} {p : Rat × PL} (h : p.1 = 0) : (scP c p).1 = 0 := by
  unfold scP; split
  · rfl
  · show c * p.1 = 0; rw [h]; grind
theorem mi {c : Rat} {p : Rat × PL} (h : Srt p.2) : Srt (scP c p).2 := by
  unfold scP; split
  · exact List.Pairwise.nil
  · exact qF h
theorem adG {c : Rat} {p : Rat × PL} {x : Int × Rat} (hx : x ∈ (scP c p).2) : ∃ m ∈ p.2, m.1 = x.1 := by
  unfold scP at hx; split at hx
  · simp at hx
  · exact af6 hx
theorem aa1 {c : Rat} {p : Rat × PL} {v : Int} : af (scP c p).2 v = c * af p.2 v := by
  unfold scP; split
  · rename_i h; rw [h]; simp only [af]; grind
  · exact uy c p.2 v
theorem aeM {P : Int → Prop} {p q : Rat × PL} {c : Rat} (h1 : Srt p.2) (h2 : Srt q.2) (hp : p.1 = 0) (hq : q.1 = 0) (n1 : ∀ m ∈ p.2, 0 ≤ m.1 ∧ P m.1) (n2 : ∀ m ∈ q.2, 0 ≤ m.1 ∧ P m.1) : RowG P (addP p c q) := by
  have hv : ∀ m ∈ (addP p c q).2, 0 ≤ m.1 ∧ P m.1 := fun m hm => by
    rcases afh h1 (mi h2) hm with ⟨x, hx, e⟩ | ⟨x, hx, e⟩
    · rw [← e]; exact n1 x hx
    · obtain ⟨y, hy, e'⟩ := adG hx
      rw [← e, ← e']; exact n2 y hy
  refine ⟨⟨(jV h1 (mi h2)).1, fun m hm => (hv m hm).1, aaE⟩, ?_, fun m hm => (hv m hm).2⟩
  show p.1 + (scP c q).1 = 0
  rw [hp, afr hq]; grind
theorem xB {p q : Rat × PL} {c : Rat} {v : Int} (h1 : Srt p.2) (h2 : Srt q.2) : af (addP p c q).2 v = af p.2 v + c * af q.2 v := by
  rw [← aa1]; exact (jV h1 (mi h2)).2 v
section
variable {P : Int → Prop} {p s : Rat × PL} {v u : Int}
theorem vT (h : RowG P p) (hu : P u) (u0 : 0 ≤ u) : RowG (fun w => P w ∧ w ≠ v ∨ w = u) (pivS v u p) := by
  refine aeM (mi srt1) (wQ h.rt.srt) (afr rfl) h.c (fun m hm => ?_) fun m hm => ?_
  · obtain ⟨y, hy, e⟩ := adG hm
    simp only [List.mem_singleton] at hy
    subst hy
    rw [← e]; exact ⟨u0, .inr rfl⟩
  · have hm' := xz hm
    refine ⟨h.rt.nn m hm', .inl ⟨h.vars m hm', fun e => ?_⟩⟩
    have := (List.mem_filter.1 hm).2
    simp [e] at this
theorem wo_G (h : RowG P p) : ∀ m ∈ wo v p.2, 0 ≤ m.1 ∧ (P m.1 ∧ m.1 ≠ v ∨ m.1 = u) := fun m hm => by
  have hm' := xz hm
  refine ⟨h.rt.nn m hm', .inl ⟨h.vars m hm', fun e => ?_⟩⟩
  have := (List.mem_filter.1 hm).2
  simp [e] at this
theorem aeR (h : RowG P p) (hs : RowG (fun w => P w ∧ w ≠ v ∨ w = u) s) : RowG (fun w => P w ∧ w ≠ v ∨ w = u) (pivF v s p) := by
  unfold pivF
  split
  · rename_i hc
    refine ⟨h.rt, h.c, fun m hm => .inl ⟨h.vars m hm, fun e => h.rt.nz m hm ?_⟩⟩
    rw [← uF h.rt.srt hm, e, hc]
  · exact aeM (wQ h.rt.srt) hs.rt.srt h.c hs.c (wo_G h) fun m hm => ⟨hs.rt.nn m hm, hs.vars m hm⟩
theorem vP_0 {f : Int → Rat} {p : Rat × PL} (h : p.1 = 0) : vP f p = valL f p.2 := by unfold vP; rw [h]; grind
theorem aeu {f : Int → Rat} (h : RowG P p) (hk : af p.2 v ≠ 0) (hv : valL f p.2 = f u) (hu : P u) (u0 : 0 ≤ u) : valL f (pivS v u p).2 = f v := by
  rw [← vP_0 (vT (v := v) h hu u0).c]
  unfold pivS
  rw [aeS, af4, vP_0 (p := (p.1, wo v p.2)) h.c, aae h.rt.srt, hv]
  unfold vP
  simp only [valL]
  generalize af p.2 v = k at *
  have : 1 / k * k = 1 := by grind
  grind
theorem adX {f : Int → Rat} (h : RowG P p) (hs : RowG (fun w => P w ∧ w ≠ v ∨ w = u) s) (hv : valL f s.2 = f v) : valL f (pivF v s p).2 = valL f p.2 := by
  rw [← vP_0 (aeR h hs).c]
  unfold pivF
  split
  · exact vP_0 h.c
  · rw [aeS, vP_0 (p := (p.1, wo v p.2)) h.c, aae h.rt.srt, vP_0 hs.c, hv]
    grind
end
end Go.Sh

namespace Go.Sh
open Go Go.Lift
structure RG (t : TT) : Prop where
  lb : t.bs.length = t.ps.length
  ll : t.lo.length = t.vs.length
  lu : t.up.length = t.vs.length
  lo : ∀ e ∈ t.lo, e.1 = 0 → e.2 = (0, 0)
  up : ∀ e ∈ t.up, e.1 = 0 → e.2 = (0, 0)
  rng : ∀ i, i < t.ps.length → 0 ≤ at0 t.bs i ∧ at0 t.bs i < (t.vs.length : Int)
  dis : ∀ i k, i < t.ps.length → k < t.ps.length → i ≠ k → at0 t.bs i ≠ at0 t.bs k
  row : ∀ i, i < t.ps.length → RowG (fun w => w < (t.vs.length : Int) ∧ ∀ k, k < t.ps.length → w ≠ at0 t.bs k) (psA t i)
  val : ∀ i, i < t.ps.length → valV (atD t.vs) (psA t i).2 = atD t.vs (at0 t.bs i)
section
variable {t : TT} {v : Int} {d : Rat × Rat}
theorem RG.me (g : RG t) {i : Nat} (hi : i < t.ps.length) : rowI t.bs (at0 t.bs i) = (i : Int) := by
  have := g.lb
  exact vv (by omega) rfl fun j hj => g.dis j i (by omega) hi (by omega)
theorem RG.no (g : RG t) {w : Int} (hw : ∀ k, k < t.ps.length → w ≠ at0 t.bs k) : rowI t.bs w < 0 := by
  have := g.lb
  rw [qX fun j hj => (hw j (by omega)).symm]; decide
theorem RG.nb (g : RG t) {w : Int} (hw : rowI t.bs w < 0) : ∀ k, k < t.ps.length → w ≠ at0 t.bs k := fun k hk e => by
  rw [e, g.me hk] at hw; omega
theorem RG.right (g : RG t) : RightT t where
  lb := g.lb
  ll := g.ll
  lu := g.lu
  lo := g.lo
  up := g.up
  rows := fun i hi => ⟨(g.rng i hi).1, (g.rng i hi).2, g.me hi, (g.row i hi).c, fun m hm => ⟨((g.row i hi).vars m hm).1, g.no ((g.row i hi).vars m hm).2⟩, g.val i hi⟩
theorem RG.upd (g : RG t) (h0 : 0 ≤ v) (h1 : v < (t.vs.length : Int)) (h2 : rowI t.bs v < 0) : UpdOk t v where
  lb := g.lb
  rng := g.rng
  dis := g.dis
  v0 := ⟨h0, h1⟩
  nb := fun i hi e => g.nb h2 i hi e.symm
  srt := fun i hi => ⟨(g.row i hi).rt.srt, (g.row i hi).rt.nn⟩
  out := fun i hi m hm k hk => ((g.row i hi).vars m hm).2 k hk
  val := g.val
theorem aaT {W : DL} {w : Int} : atD W w = W.getD w.toNat (0, 0) := rfl
theorem adF {W : DL} {v w : Int} {d : Rat × Rat} (hv : 0 ≤ v) (hw : 0 ≤ w) (h : w ≠ v) : atD (W.set v.toNat d) w = atD W w := by
  unfold atD
  rw [List.getD_eq_getElem?_getD, List.getD_eq_getElem?_getD, List.getElem?_set_ne (by omega)]
theorem aay (g : RG t) : ∀ (n i : Nat) (W : DL), i + n = t.ps.length → W.length = t.vs.length → ∀ j, i ≤ j → j < t.ps.length →
    atD (refV t.bs (t.ps.drop i) i W) (at0 t.bs j) = valV (atD W) (psA t j).2
  | 0, i, W, hn, hW, j, h1, h2 => by omega
  | n + 1, i, W, hn, hW, j, h1, h2 => by
    have hi : i < t.ps.length := by omega
    rw [List.drop_eq_getElem_cons hi, refV]
    have hb := g.rng i hi
    by_cases hij : j = i
    · subst hij
      rw [aaT, tY fun k h3 h4 => ?_, ← aaT, o8 (by omega), if_pos rfl, bV hi]
      have h5 : k < t.ps.length := by simp at h4; omega
      have := g.dis j k hi h5 (by omega)
      have := g.rng k h5
      omega
    · rw [aay g n (i + 1) _ (by omega) (by simpa using hW) j (by omega) h2]
      refine mU fun m hm => ?_
      have hr := g.row j h2
      exact adF hb.1 (hr.rt.nn m hm) ((hr.vars m hm).2 i hi)
theorem RG.updT (g : RG t) (h0 : 0 ≤ v) (h1 : v < (t.vs.length : Int)) (h2 : rowI t.bs v < 0) : RG (updT t v d) := by
  rw [← qG (g.upd h0 h1 h2)]
  have hl : (refV t.bs t.ps 0 (t.vs.set v.toNat d)).length = t.vs.length := by rw [uu]; simp
  refine ⟨g.lb, by rw [g.ll]; exact hl.symm, by rw [g.lu]; exact hl.symm, g.lo, g.up, fun i hi => ?_, g.dis, fun i hi => ?_, fun i hi => ?_⟩
  · show _ ∧ _ < ((refV t.bs t.ps 0 (t.vs.set v.toNat d)).length : Int)
    rw [hl]; exact g.rng i hi
  · show RowG (fun w => w < ((refV t.bs t.ps 0 (t.vs.set v.toNat d)).length : Int) ∧ _) _
    rw [hl]; exact g.row i hi
  · have hv := aay g t.ps.length 0 (t.vs.set v.toNat d) (by omega) (by simp) i (by omega) hi
    rw [List.drop_zero] at hv
    show valV (atD (refV t.bs t.ps 0 (t.vs.set v.toNat d))) (psA t i).2 = atD (refV t.bs t.ps 0 (t.vs.set v.toNat d)) (at0 t.bs i)
    rw [hv]
    refine mU fun m hm => ?_
    have hr := g.row i hi
    rw [aaT, tY fun k h3 h4 => ?_, ← aaT]
    have h5 : k < t.ps.length := by omega
    have := g.rng k h5
    have := (hr.vars m hm).2 k h5
    have := hr.rt.nn m hm
    omega
theorem afJ {l : List Int} {i j : Nat} {v : Int} (hi : i < l.length) : at0 (l.set i v) j = if j = i then v else at0 l j := by
  unfold at0
  rw [List.getD_eq_getElem?_getD, List.getElem?_set]
  by_cases h : i = j
  · subst h; simp [hi]
  · rw [if_neg h, if_neg (fun e => h e.symm), List.getD_eq_getElem?_getD]
theorem acG {i j : Nat} (hi : i < t.ps.length) (hj : j < t.ps.length) : psA (pivT t i v) j = if j = i then pivS v (at0 t.bs i) (psA t i) else pivF v (pivS v (at0 t.bs i) (psA t i)) (psA t j) := by
  unfold pivT psA
  dsimp only
  rw [List.getD_eq_getElem?_getD, List.getElem?_set]
  by_cases h : i = j
  · subst h; simp [hi]
  · rw [if_neg h, if_neg (fun e => h e.symm), List.getElem?_map, List.getElem?_eq_getElem hj]
    simp only [Option.map_some, Option.getD_some]
    rw [List.getD_eq_getElem?_getD (i := j), List.getElem?_eq_getElem hj]; rfl
theorem g9 {i : Nat} : (pivT t i v).ps.length = t.ps.length := by simp [pivT]
theorem RG.pivT {i : Nat} (g : RG t) (hi : i < t.ps.length) (hk : af (psA t i).2 v ≠ 0) : RG (pivT t i v) := by
  obtain ⟨m0, hm0, e0⟩ := uK hk
  have hri := g.row i hi
  have v0 : 0 ≤ v := by rw [← e0]; exact hri.rt.nn m0 hm0
  have hvv := hri.vars m0 hm0
  rw [e0] at hvv
  have lb := g.lb
  have hu := g.rng i hi
  have ab : ∀ j, at0 (Go.Sh.pivT t i v).bs j = if j = i then v else at0 t.bs j := fun j => afJ (by omega)
  have vals : ∀ f : Int → Rat, (∀ j, j < t.ps.length → valL f (psA t j).2 = f (at0 t.bs j)) → ∀ j, j < t.ps.length → valL f (psA (Go.Sh.pivT t i v) j).2 = f (at0 (Go.Sh.pivT t i v).bs j) := fun f hf j hj => by
    have hP : RowG (fun w => w < (t.vs.length : Int)) (psA t i) := ⟨hri.rt, hri.c, fun m hm => (hri.vars m hm).1⟩
    have hs := aeu (v := v) hP hk (hf i hi) hu.2 hu.1
    rw [acG hi hj, ab]
    split
    · exact hs
    · have hr := g.row j hj
      rw [adX (P := fun w => w < (t.vs.length : Int)) ⟨hr.rt, hr.c, fun m hm => (hr.vars m hm).1⟩ (vT hP hu.2 hu.1) hs]
      exact hf j hj
  refine ⟨?_, g.ll, g.lu, g.lo, g.up, fun j hj => ?_, fun j k hj hk' hjk => ?_, fun j hj => ?_, fun j hj => ?_⟩
  · rw [g9]; simp [Go.Sh.pivT, lb]
  · rw [g9] at hj
    rw [ab]; split
    · exact ⟨v0, hvv.1⟩
    · exact g.rng j hj
  · rw [g9] at hj hk'
    rw [ab, ab]
    have a1 := hvv.2 j hj
    have a2 := hvv.2 k hk'
    have a3 := g.dis j k hj hk' hjk
    split <;> split <;> omega
  · rw [g9] at hj
    have hS := vT (v := v) (P := fun w => w < (t.vs.length : Int) ∧ ∀ k, k < t.ps.length → k ≠ i → w ≠ at0 t.bs k) (u := at0 t.bs i)
      ⟨hri.rt, hri.c, fun m hm => ⟨(hri.vars m hm).1, fun k hk _ => (hri.vars m hm).2 k hk⟩⟩ ⟨hu.2, fun k hk hki => g.dis i k hi hk (fun e => hki e.symm)⟩ hu.1
    have key : RowG (fun w => (w < (t.vs.length : Int) ∧ ∀ k, k < t.ps.length → k ≠ i → w ≠ at0 t.bs k) ∧ w ≠ v ∨ w = at0 t.bs i) (psA (Go.Sh.pivT t i v) j) := by
      rw [acG hi hj]
      split
      · exact hS
      · have hr := g.row j hj
        exact aeR ⟨hr.rt, hr.c, fun m hm => ⟨(hr.vars m hm).1, fun k hk _ => (hr.vars m hm).2 k hk⟩⟩ hS
    refine ⟨key.rt, key.c, fun m hm => ?_⟩
    show m.1 < (t.vs.length : Int) ∧ _
    rcases key.vars m hm with ⟨⟨h1, h2⟩, h3⟩ | h
    · refine ⟨h1, fun k hk' => ?_⟩
      rw [g9] at hk'
      rw [ab]; split
      · exact h3
      · rename_i hki; exact h2 k hk' hki
    · rw [h]
      refine ⟨hu.2, fun k hk' => ?_⟩
      rw [g9] at hk'
      rw [ab]; split
      · exact fun e => hvv.2 i hi e.symm
      · rename_i hki; exact g.dis i k hi hk' (fun e => hki e.symm)
  · rw [g9] at hj
    have h1 := vals (fun w => (atD t.vs w).1) (fun k hk' => by have := congrArg Prod.fst (g.val k hk'); exact this) j hj
    have h2 := vals (fun w => (atD t.vs w).2) (fun k hk' => by have := congrArg Prod.snd (g.val k hk'); exact this) j hj
    show (valL (fun w => (atD t.vs w).1) _, valL (fun w => (atD t.vs w).2) _) = atD t.vs _
    rw [h1, h2]
end
def j7 (v u : Int) (p : Rat × PL) : Rat × PL := addQ (0, [(v, 1)]) (-(1 / af p.2 v)) (addQ p (-1) (0, [(u, 1)]))
def uR (v : Int) (s p : Rat × PL) : Rat × PL := addQ (addQ p (-(af p.2 v)) (0, [(v, 1)])) (af p.2 v) s
theorem oa {p q : Rat × PL} {c : Rat} (h1 : Srt p.2) (h2 : Srt q.2) : Srt (addQ p c q).2 ∧ (∀ m ∈ (addQ p c q).2, m.2 ≠ 0) ∧ ∀ v, af (addQ p c q).2 v = af p.2 v + c * af q.2 v := by
  unfold addQ
  dsimp only
  rw [← aey h1 h2]
  refine ⟨(jV h1 (qF h2)).1, aaE, fun v => ?_⟩
  rw [(jV h1 (qF h2)).2, uy]
theorem aeb {P : Int → Prop} {p : Rat × PL} {v u : Int} (h : RowG P p) (hk : af p.2 v ≠ 0) (hu : af p.2 u = 0) (u0 : 0 ≤ u) (hP : P u) : j7 v u p = pivS v u p := by
  have hS := vT (v := v) h hP u0
  obtain ⟨a1, a2, a3⟩ := oa (q := (0, [(u, (1 : Rat))])) (c := -1) h.rt.srt srt1
  obtain ⟨b1, b2, b3⟩ := oa (p := (0, [(v, 1)])) (c := -(1 / af p.2 v)) srt1 a1
  refine Prod.ext ?_ ?_
  · rw [hS.c]
    show (0 : Rat) + _ * (p.1 + -1 * 0) = 0
    rw [h.c]; grind
  · refine ur b1 hS.rt.srt b2 hS.rt.nz fun w => ?_
    rw [show (j7 v u p).2 = (addQ (0, [(v, 1)]) (-(1 / af p.2 v)) (addQ p (-1) (0, [(u, 1)]))).2 from rfl, b3, a3]
    unfold pivS
    rw [xB (mi srt1) (wQ h.rt.srt), aa1, aai]
    simp only [af]
    by_cases hwv : w = v
    · subst hwv
      have huw : ¬ u = w := fun e => hk (by rw [← e]; exact hu)
      simp only [if_pos, if_neg huw]
      generalize af p.2 w = k at *
      have : 1 / k * k = 1 := by grind
      grind
    · have : ¬ v = w := fun e => hwv e.symm
      simp only [if_neg this, if_neg hwv]
      grind
theorem adR {P : Int → Prop} {p s : Rat × PL} {v : Int} (h : RowG P p) (hs : Srt s.2) (hc : s.1 = 0) : uR v s p = pivF v s p := by
  obtain ⟨a1, a2, a3⟩ := oa (q := (0, [(v, (1 : Rat))])) (c := -(af p.2 v)) h.rt.srt srt1
  obtain ⟨b1, b2, b3⟩ := oa (p := (addQ p (-(af p.2 v)) (0, [(v, 1)]))) (c := af p.2 v) a1 hs
  have hG : (pivF v s p).1 = 0 ∧ Srt (pivF v s p).2 ∧ (∀ m ∈ (pivF v s p).2, m.2 ≠ 0) ∧ ∀ w, af (pivF v s p).2 w = (if w = v then 0 else af p.2 w) + af p.2 v * af s.2 w := by
    unfold pivF
    split
    · rename_i hk
      refine ⟨h.c, h.rt.srt, h.rt.nz, fun w => ?_⟩
      rw [hk]
      split
      · rename_i e; rw [e, hk]; grind
      · grind
    · refine ⟨?_, (jV (wQ h.rt.srt) (mi hs)).1, aaE, fun w => ?_⟩
      · show p.1 + (scP _ s).1 = 0
        rw [h.c, afr hc]; grind
      · rw [xB (wQ h.rt.srt) hs, aai]
  refine Prod.ext ?_ ?_
  · rw [hG.1]
    show (p.1 + _ * 0) + _ * s.1 = 0
    rw [h.c, hc]; grind
  · refine ur b1 hG.2.1 b2 hG.2.2.1 fun w => ?_
    rw [show (uR v s p).2 = (addQ (addQ p (-(af p.2 v)) (0, [(v, 1)])) (af p.2 v) s).2 from rfl, b3, a3, hG.2.2.2 w]
    simp only [af]
    by_cases hwv : w = v
    · subst hwv; simp only [if_pos]; grind
    · have : ¬ v = w := fun e => hwv e.symm
      simp only [if_neg this, if_neg hwv]; grind
end Go.Sh

/-
  Laws that the proof of this claim's statement leans on, each proved under the conditions that it states.
-/
import Derived.Test.YtlclchgingkkhaaGreatDoorXA
import Derived.Test.YtlclchgingkkhaaGreatDoorSpU
set_option linter.unusedVariables false
set_option linter.unusedSimpArgs false
namespace Go.Sh
open Go Go.Lift
theorem iS {bs : List Int} : ∀ {ps : List (Rat × PL)} {i : Nat} {W : DL}, (refV bs ps i W).length = W.length
  | [], _, _ => rfl
  | p :: ps, i, W => by rw [refV, iS]; simp
theorem qA {bs : List Int} {u : Nat} : ∀ {ps : List (Rat × PL)} {i : Nat} {W : DL}, (∀ k, i ≤ k → k < i + ps.length → u ≠ (at0 bs k).toNat) → (refV bs ps i W).getD u (0, 0) = W.getD u (0, 0)
  | [], _, _, _ => rfl
  | p :: ps, i, W, h => by
    rw [refV, qA fun k h1 h2 => h k (by omega) (by simp; omega)]
    have := h i (Nat.le_refl _) (by simp)
    rw [List.getD_eq_getElem?_getD, List.getD_eq_getElem?_getD, List.getElem?_set_ne (fun e => this e.symm)]
end Go.Sh

namespace Go.Sh
open Go Go.Lift
end Go.Sh

namespace Go.Sh
open Go Go.Lift
theorem ab6 {v : Int} {ms : PL} (h : Srt ms) : Srt (wo v ms) := List.Pairwise.filter _ h
theorem jx {m : Int × Rat} {l : PL} {v : Int} (hl : ∀ x ∈ l, m.1 < x.1) : ak (nzc m l) v = if m.1 = v then m.2 else ak l v := by
  unfold nzc
  split
  · rename_i h
    split
    · rename_i hv
      rw [h, dC fun x hx => by have := hl x hx; omega]
    · rfl
  · rfl
end Go.Sh

namespace Go.Sh
open Go Go.Lift
theorem yV {m x : Int × Rat} {l : PL} (h : x ∈ nzc m l) : (x = m ∧ m.2 ≠ 0) ∨ x ∈ l := by
  unfold nzc at h
  split at h
  · exact .inr h
  · rename_i hz
    rcases List.mem_cons.1 h with h | h
    · exact .inl ⟨h, hz⟩
    · exact .inr h
theorem sR {l : Int} {p q : PL} (h1 : ∀ m ∈ p, l < m.1) (h2 : ∀ m ∈ q, l < m.1) : ∀ x ∈ mrg p q, l < x.1 := by
  have st : ∀ {m x : Int × Rat} {r : PL}, l < m.1 → (∀ x ∈ r, l < x.1) → x ∈ nzc m r → l < x.1 := fun g1 g2 hx => by
    rcases yV hx with ⟨rfl, _⟩ | hx
    · exact g1
    · exact g2 _ hx
  induction p, q using mrg.induct with
  | case1 => rw [pH]; intro x hx; simp at hx
  | case2 a as ih => rw [pJ]; exact fun x hx => st (h1 a (by simp)) (ih (fun m hm => h1 m (by simp [hm])) h2) hx
  | case3 b bs ih => rw [pA]; exact fun x hx => st (h2 b (by simp)) (ih h1 (fun m hm => h2 m (by simp [hm]))) hx
  | case4 a as b bs h ih => rw [ct, if_pos h]; exact fun x hx => st (h1 a (by simp)) (ih (fun m hm => h1 m (by simp [hm])) h2) hx
  | case5 a as b bs h h' ih => rw [ct, if_neg h, if_pos h']; exact fun x hx => st (h2 b (by simp)) (ih h1 (fun m hm => h2 m (by simp [hm]))) hx
  | case6 a as b bs h h' ih => rw [ct, if_neg h, if_neg h']; exact fun x hx => st (m := (a.1, a.2 + b.2)) (h1 a (by simp)) (ih (fun m hm => h1 m (by simp [hm])) (fun m hm => h2 m (by simp [hm]))) hx
theorem abU {p q : PL} : ∀ x ∈ mrg p q, x.2 ≠ 0 := by
  have st : ∀ {m x : Int × Rat} {r : PL}, (∀ x ∈ r, x.2 ≠ 0) → x ∈ nzc m r → x.2 ≠ 0 := fun g2 hx => by
    rcases yV hx with ⟨rfl, hz⟩ | hx
    · exact hz
    · exact g2 _ hx
  induction p, q using mrg.induct with
  | case1 => rw [pH]; intro x hx; simp at hx
  | case2 a as ih => rw [pJ]; exact fun x hx => st ih hx
  | case3 b bs ih => rw [pA]; exact fun x hx => st ih hx
  | case4 a as b bs h ih => rw [ct, if_pos h]; exact fun x hx => st ih hx
  | case5 a as b bs h h' ih => rw [ct, if_neg h, if_pos h']; exact fun x hx => st ih hx
  | case6 a as b bs h h' ih => rw [ct, if_neg h, if_neg h']; exact fun x hx => st ih hx
theorem nX {m : Int × Rat} {l : PL} (h : Srt l) (hl : ∀ x ∈ l, m.1 < x.1) : Srt (nzc m l) := by
  unfold nzc
  split
  · exact h
  · exact List.pairwise_cons.2 ⟨hl, h⟩
theorem vW {p q : PL} (hp : Srt p) (hq : Srt q) : Srt (mrg p q) ∧ ∀ v, ak (mrg p q) v = ak p v + ak q v := by
  induction p, q using mrg.induct with
  | case1 => rw [pH]; exact ⟨List.Pairwise.nil, fun v => by simp only [ak]; grind⟩
  | case2 a as ih =>
    have hp' := List.pairwise_cons.1 hp
    obtain ⟨i1, i2⟩ := ih hp'.2 hq
    have lb := sR (l := a.1) hp'.1 (q := []) (by simp)
    rw [pJ]
    refine ⟨nX i1 lb, fun v => ?_⟩
    rw [jx lb, i2 v]
    by_cases h : a.1 = v <;> simp [ak, h] <;> grind
  | case3 b bs ih =>
    have hq' := List.pairwise_cons.1 hq
    obtain ⟨i1, i2⟩ := ih hp hq'.2
    have lb := sR (l := b.1) (p := []) (by simp) hq'.1
    rw [pA]
    refine ⟨nX i1 lb, fun v => ?_⟩
    rw [jx lb, i2 v]
    by_cases h : b.1 = v <;> simp [ak, h] <;> grind
  | case4 a as b bs h ih =>
    have hp' := List.pairwise_cons.1 hp
    have hq' := List.pairwise_cons.1 hq
    obtain ⟨i1, i2⟩ := ih hp'.2 hq
    have hb : ∀ x ∈ b :: bs, a.1 < x.1 := fun x hx => by
      rcases List.mem_cons.1 hx with rfl | hx
      · exact h
      · have := hq'.1 x hx; omega
    have lb := sR (l := a.1) hp'.1 hb
    rw [ct, if_pos h]
    refine ⟨nX i1 lb, fun v => ?_⟩
    rw [jx lb]
    by_cases hv : a.1 = v
    · rw [if_pos hv, dC (ms := b :: bs) fun x hx => by have := hb x hx; omega]
      simp [ak, hv]; grind
    · rw [if_neg hv, i2 v, bK hv]
  | case5 a as b bs h h' ih =>
    have hp' := List.pairwise_cons.1 hp
    have hq' := List.pairwise_cons.1 hq
    obtain ⟨i1, i2⟩ := ih hp hq'.2
    have ha : ∀ x ∈ a :: as, b.1 < x.1 := fun x hx => by
      rcases List.mem_cons.1 hx with rfl | hx
      · exact h'
      · have := hp'.1 x hx; omega
    have lb := sR (l := b.1) ha hq'.1
    rw [ct, if_neg h, if_pos h']
    refine ⟨nX i1 lb, fun v => ?_⟩
    rw [jx lb]
    by_cases hv : b.1 = v
    · rw [if_pos hv, dC (ms := a :: as) fun x hx => by have := ha x hx; omega]
      simp [ak, hv]; grind
    · rw [if_neg hv, i2 v, bK (a := b) hv]
  | case6 a as b bs h h' ih =>
    have hp' := List.pairwise_cons.1 hp
    have hq' := List.pairwise_cons.1 hq
    obtain ⟨i1, i2⟩ := ih hp'.2 hq'.2
    have hab : a.1 = b.1 := by omega
    have lb := sR (l := a.1) hp'.1 (fun x hx => by have := hq'.1 x hx; omega)
    rw [ct, if_neg h, if_neg h']
    refine ⟨nX i1 lb, fun v => ?_⟩
    rw [jx (m := (a.1, a.2 + b.2)) lb]
    by_cases hv : a.1 = v
    · rw [if_pos hv]
      have hv' : b.1 = v := by omega
      simp [ak, hv, hv']
    · rw [if_neg hv, i2 v, bK hv, bK (a := b) (by omega)]
end Go.Sh

namespace Go.Sh
open Go Go.Lift
theorem fk {l : PL} (hs : Srt l) {m : Int × Rat} (h : m ∈ l) : ak l m.1 = m.2 := by
  obtain ⟨k, hk, rfl⟩ := List.getElem_of_mem h
  exact w5 hs hk rfl
theorem lp {l : PL} {w : Int} (h : ak l w ≠ 0) : ∃ m ∈ l, m.1 = w := by
  by_cases hh : ∃ m ∈ l, m.1 = w
  · exact hh
  · exact absurd (dC fun m hm e => hh ⟨m, hm, e⟩) h
theorem acB {p q : PL} (hp : Srt p) (hq : Srt q) {x : Int × Rat} (hx : x ∈ mrg p q) : (∃ m ∈ p, m.1 = x.1) ∨ ∃ m ∈ q, m.1 = x.1 := by
  have h1 := fk (vW hp hq).1 hx
  have h2 := abU x hx
  rw [(vW hp hq).2] at h1
  by_cases hc : ak p x.1 = 0
  · exact .inr (lp fun h => h2 (by rw [← h1, hc, h]; grind))
  · exact .inl (lp hc)
theorem ac5 {c : Rat} {p : PL} {x : Int × Rat} (hx : x ∈ scL c p) : ∃ m ∈ p, m.1 = x.1 := by
  obtain ⟨m, hm, rfl⟩ := List.mem_map.1 hx
  exact ⟨m, hm, rfl⟩
theorem srt1 {m : Int × Rat} : Srt [m] := List.pairwise_singleton _ _
theorem ki {f : Int → Rat} {v : Int} : ∀ {l : PL}, Srt l → valL f (wo v l) = valL f l - ak l v * f v
  | [], _ => by simp only [wo, List.filter_nil, valL, ak]; grind
  | m :: l, hs => by
    have hs' := List.pairwise_cons.1 hs
    have ih := ki (f := f) (v := v) hs'.2
    unfold wo at ih ⊢
    by_cases hm : m.1 = v
    · have h0 : ak l v = 0 := dC fun x hx => by have := hs'.1 x hx; omega
      rw [List.filter_cons_of_neg (by simp [hm]), ih, h0]
      simp only [valL, ak, if_pos hm, hm]; grind
    · rw [List.filter_cons_of_pos (by simpa using hm)]
      simp only [valL, ih, ak, if_neg hm]; grind
structure RowG (P : Int → Prop) (p : Rat × PL) : Prop where
  rt : Rt p
  c : p.1 = 0
  vars : ∀ m ∈ p.2, P m.1
theorem acQ {c : Rat} {p : Rat × PL} (h : p.1 = 0) : (scP c p).1 = 0 := by
  unfold scP; split
  · rfl
  · show c * p.1 = 0; rw [h]; grind
theorem uX {c : Rat} {p : Rat × PL} (h : Srt p.2) : Srt (scP c p).2 := by
  unfold scP; split
  · exact List.Pairwise.nil
  · exact aad h
theorem yU {c : Rat} {p : Rat × PL} {x : Int × Rat} (hx : x ∈ (scP c p).2) : ∃ m ∈ p.2, m.1 = x.1 := by
  unfold scP at hx; split at hx
  · simp at hx
  · exact ac5 hx
theorem aca {P : Int → Prop} {p q : Rat × PL} {c : Rat} (h1 : Srt p.2) (h2 : Srt q.2) (hp : p.1 = 0) (hq : q.1 = 0) (n1 : ∀ m ∈ p.2, 0 ≤ m.1 ∧ P m.1) (n2 : ∀ m ∈ q.2, 0 ≤ m.1 ∧ P m.1) : RowG P (addP p c q) := by
  have hv : ∀ m ∈ (addP p c q).2, 0 ≤ m.1 ∧ P m.1 := fun m hm => by
    rcases acB h1 (uX h2) hm with ⟨x, hx, e⟩ | ⟨x, hx, e⟩
    · rw [← e]; exact n1 x hx
    · obtain ⟨y, hy, e'⟩ := yU hx
      rw [← e, ← e']; exact n2 y hy
  refine ⟨⟨(vW h1 (uX h2)).1, fun m hm => (hv m hm).1, abU⟩, ?_, fun m hm => (hv m hm).2⟩
  show p.1 + (scP c q).1 = 0
  rw [hp, acQ hq]; grind
section
variable {P : Int → Prop} {p s : Rat × PL} {v u : Int}
theorem tG (h : RowG P p) (hu : P u) (u0 : 0 ≤ u) : RowG (fun w => P w ∧ w ≠ v ∨ w = u) (pivS v u p) := by
  refine aca (uX srt1) (ab6 h.rt.srt) (acQ rfl) h.c (fun m hm => ?_) fun m hm => ?_
  · obtain ⟨y, hy, e⟩ := yU hm
    simp only [List.mem_singleton] at hy
    subst hy
    rw [← e]; exact ⟨u0, .inr rfl⟩
  · have hm' := te hm
    refine ⟨h.rt.nn m hm', .inl ⟨h.vars m hm', fun e => ?_⟩⟩
    have := (List.mem_filter.1 hm).2
    simp [e] at this
theorem wo_G (h : RowG P p) : ∀ m ∈ wo v p.2, 0 ≤ m.1 ∧ (P m.1 ∧ m.1 ≠ v ∨ m.1 = u) := fun m hm => by
  have hm' := te hm
  refine ⟨h.rt.nn m hm', .inl ⟨h.vars m hm', fun e => ?_⟩⟩
  have := (List.mem_filter.1 hm).2
  simp [e] at this
theorem abI (h : RowG P p) (hs : RowG (fun w => P w ∧ w ≠ v ∨ w = u) s) : RowG (fun w => P w ∧ w ≠ v ∨ w = u) (pivF v s p) := by
  unfold pivF
  split
  · rename_i hc
    refine ⟨h.rt, h.c, fun m hm => .inl ⟨h.vars m hm, fun e => h.rt.nz m hm ?_⟩⟩
    rw [← fk h.rt.srt hm, e, hc]
  · exact aca (ab6 h.rt.srt) hs.rt.srt h.c hs.c (wo_G h) fun m hm => ⟨hs.rt.nn m hm, hs.vars m hm⟩
theorem vP_0 {f : Int → Rat} {p : Rat × PL} (h : p.1 = 0) : vP f p = valL f p.2 := by unfold vP; rw [h]; grind
theorem abe {f : Int → Rat} (h : RowG P p) (hk : ak p.2 v ≠ 0) (hv : valL f p.2 = f u) (hu : P u) (u0 : 0 ≤ u) : valL f (pivS v u p).2 = f v := by
  rw [← vP_0 (tG (v := v) h hu u0).c]
  unfold pivS
  rw [zS, acg, vP_0 (p := (p.1, wo v p.2)) h.c, ki h.rt.srt, hv]
  unfold vP
  simp only [valL]
  generalize ak p.2 v = k at *
  have : 1 / k * k = 1 := by grind
  grind
theorem xp {f : Int → Rat} (h : RowG P p) (hs : RowG (fun w => P w ∧ w ≠ v ∨ w = u) s) (hv : valL f s.2 = f v) : valL f (pivF v s p).2 = valL f p.2 := by
  rw [← vP_0 (abI h hs).c]
  unfold pivF
  split
  · exact vP_0 h.c
  · rw [zS, vP_0 (p := (p.1, wo v p.2)) h.c, ki h.rt.srt, vP_0 hs.c, hv]
    grind
end
end Go.Sh

namespace Go.Sh
open Go Go.Lift
structure RG (t : TT) : Prop where
  lb : t.bs.length = t.ps.length
  ll : t.lo.length = t.vs.length
  lu : t.up.length = t.vs.length
  lo : ∀ e ∈ t.lo, e.1 = 0 → e.2 = (0, 0)
  up : ∀ e ∈ t.up, e.1 = 0 → e.2 = (0, 0)
  rng : ∀ i, i < t.ps.length → 0 ≤ at0 t.bs i ∧ at0 t.bs i < (t.vs.length : Int)
  dis : ∀ i k, i < t.ps.length → k < t.ps.length → i ≠ k → at0 t.bs i ≠ at0 t.bs k
  row : ∀ i, i < t.ps.length → RowG (fun w => w < (t.vs.length : Int) ∧ ∀ k, k < t.ps.length → w ≠ at0 t.bs k) (psA t i)
  val : ∀ i, i < t.ps.length → valV (atD t.vs) (psA t i).2 = atD t.vs (at0 t.bs i)
section
variable {t : TT} {v : Int} {d : Rat × Rat}
theorem RG.me (g : RG t) {i : Nat} (hi : i < t.ps.length) : rowI t.bs (at0 t.bs i) = (i : Int) := by
  have := g.lb
  exact qL (by omega) rfl fun j hj => g.dis j i (by omega) hi (by omega)
theorem RG.no (g : RG t) {w : Int} (hw : ∀ k, k < t.ps.length → w ≠ at0 t.bs k) : rowI t.bs w < 0 := by
  have := g.lb
  rw [lO fun j hj => (hw j (by omega)).symm]; decide
theorem RG.nb (g : RG t) {w : Int} (hw : rowI t.bs w < 0) : ∀ k, k < t.ps.length → w ≠ at0 t.bs k := fun k hk e => by
  rw [e, g.me hk] at hw; omega
theorem RG.right (g : RG t) : RightT t where
  lb := g.lb
  ll := g.ll
  lu := g.lu
  lo := g.lo
  up := g.up
  rows := fun i hi => ⟨(g.rng i hi).1, (g.rng i hi).2, g.me hi, (g.row i hi).c, fun m hm => ⟨((g.row i hi).vars m hm).1, g.no ((g.row i hi).vars m hm).2⟩, g.val i hi⟩
theorem RG.upd (g : RG t) (h0 : 0 ≤ v) (h1 : v < (t.vs.length : Int)) (h2 : rowI t.bs v < 0) : UpdOk t v where
  lb := g.lb
  rng := g.rng
  dis := g.dis
  v0 := ⟨h0, h1⟩
  nb := fun i hi e => g.nb h2 i hi e.symm
  srt := fun i hi => ⟨(g.row i hi).rt.srt, (g.row i hi).rt.nn⟩
  out := fun i hi m hm k hk => ((g.row i hi).vars m hm).2 k hk
  val := g.val
theorem o8 {W : DL} {w : Int} : atD W w = W.getD w.toNat (0, 0) := rfl
theorem sx {W : DL} {v w : Int} {d : Rat × Rat} (hv : 0 ≤ v) (hw : 0 ≤ w) (h : w ≠ v) : atD (W.set v.toNat d) w = atD W w := by
  unfold atD
  rw [List.getD_eq_getElem?_getD, List.getD_eq_getElem?_getD, List.getElem?_set_ne (by omega)]
theorem w6 (g : RG t) : ∀ (n i : Nat) (W : DL), i + n = t.ps.length → W.length = t.vs.length → ∀ j, i ≤ j → j < t.ps.length →
    atD (refV t.bs (t.ps.drop i) i W) (at0 t.bs j) = valV (atD W) (psA t j).2
  | 0, i, W, hn, hW, j, h1, h2 => by omega
  | n + 1, i, W, hn, hW, j, h1, h2 => by
    have hi : i < t.ps.length := by omega
    rw [List.drop_eq_getElem_cons hi, refV]
    have hb := g.rng i hi
    by_cases hij : j = i
    · subst hij
      rw [o8, qA fun k h3 h4 => ?_, ← o8, jM (by omega), if_pos rfl, br hi]
      have h5 : k < t.ps.length := by simp at h4; omega
      have := g.dis j k hi h5 (by omega)
      have := g.rng k h5
      omega
    · rw [w6 g n (i + 1) _ (by omega) (by simpa using hW) j (by omega) h2]
      refine jT fun m hm => ?_
      have hr := g.row j h2
      exact sx hb.1 (hr.rt.nn m hm) ((hr.vars m hm).2 i hi)
theorem RG.updT (g : RG t) (h0 : 0 ≤ v) (h1 : v < (t.vs.length : Int)) (h2 : rowI t.bs v < 0) : RG (updT t v d) := by
  rw [← fV (g.upd h0 h1 h2)]
  have hl : (refV t.bs t.ps 0 (t.vs.set v.toNat d)).length = t.vs.length := by rw [iS]; simp
  refine ⟨g.lb, by rw [g.ll]; exact hl.symm, by rw [g.lu]; exact hl.symm, g.lo, g.up, fun i hi => ?_, g.dis, fun i hi => ?_, fun i hi => ?_⟩
  · show _ ∧ _ < ((refV t.bs t.ps 0 (t.vs.set v.toNat d)).length : Int)
    rw [hl]; exact g.rng i hi
  · show RowG (fun w => w < ((refV t.bs t.ps 0 (t.vs.set v.toNat d)).length : Int) ∧ _) _
    rw [hl]; exact g.row i hi
  · have hv := w6 g t.ps.length 0 (t.vs.set v.toNat d) (by omega) (by simp) i (by omega) hi
    rw [List.drop_zero] at hv
    show valV (atD (refV t.bs t.ps 0 (t.vs.set v.toNat d))) (psA t i).2 = atD (refV t.bs t.ps 0 (t.vs.set v.toNat d)) (at0 t.bs i)
    rw [hv]
    refine jT fun m hm => ?_
    have hr := g.row i hi
    rw [o8, qA fun k h3 h4 => ?_, ← o8]
    have h5 : k < t.ps.length := by omega
    have := g.rng k h5
    have := (hr.vars m hm).2 k h5
    have := hr.rt.nn m hm
    omega
theorem zY {l : List Int} {i j : Nat} {v : Int} (hi : i < l.length) : at0 (l.set i v) j = if j = i then v else at0 l j := by
  unfold at0
  rw [List.getD_eq_getElem?_getD, List.getElem?_set]
  by_cases h : i = j
  · subst h; simp [hi]
  · rw [if_neg h, if_neg (fun e => h e.symm), List.getD_eq_getElem?_getD]
theorem mO {i j : Nat} (hi : i < t.ps.length) (hj : j < t.ps.length) : psA (pivT t i v) j = if j = i then pivS v (at0 t.bs i) (psA t i) else pivF v (pivS v (at0 t.bs i) (psA t i)) (psA t j) := by
  unfold pivT psA
  dsimp only
  rw [List.getD_eq_getElem?_getD, List.getElem?_set]
  by_cases h : i = j
  · subst h; simp [hi]
  · rw [if_neg h, if_neg (fun e => h e.symm), List.getElem?_map, List.getElem?_eq_getElem hj]
    simp only [Option.map_some, Option.getD_some]
    rw [List.getD_eq_getElem?_getD (i := j), List.getElem?_eq_getElem hj]; rfl
theorem cz {i : Nat} : (pivT t i v).ps.length = t.ps.length := by simp [pivT]
theorem RG.pivT {i : Nat} (g : RG t) (hi : i < t.ps.length) (hk : ak (psA t i).2 v ≠ 0) : RG (pivT t i v) := by
  obtain ⟨m0, hm0, e0⟩ := lp hk
  have hri := g.row i hi
  have v0 : 0 ≤ v := by rw [← e0]; exact hri.rt.nn m0 hm0
  have hvv := hri.vars m0 hm0
  rw [e0] at hvv
  have lb := g.lb
  have hu := g.rng i hi
  have ab : ∀ j, at0 (Go.Sh.pivT t i v).bs j = if j = i then v else at0 t.bs j := fun j => zY (by omega)
  have vals : ∀ f : Int → Rat, (∀ j, j < t.ps.length → valL f (psA t j).2 = f (at0 t.bs j)) → ∀ j, j < t.ps.length → valL f (psA (Go.Sh.pivT t i v) j).2 = f (at0 (Go.Sh.pivT t i v).bs j) := fun f hf j hj => by
    have hP : RowG (fun w => w < (t.vs.length : Int)) (psA t i) := ⟨hri.rt, hri.c, fun m hm => (hri.vars m hm).1⟩
    have hs := abe (v := v) hP hk (hf i hi) hu.2 hu.1
    rw [mO hi hj, ab]
    split
    · exact hs
    · have hr := g.row j hj
      rw [xp (P := fun w => w < (t.vs.length : Int)) ⟨hr.rt, hr.c, fun m hm => (hr.vars m hm).1⟩ (tG hP hu.2 hu.1) hs]
      exact hf j hj
  refine ⟨?_, g.ll, g.lu, g.lo, g.up, fun j hj => ?_, fun j k hj hk' hjk => ?_, fun j hj => ?_, fun j hj => ?_⟩
  · rw [cz]; simp [Go.Sh.pivT, lb]
  · rw [cz] at hj
    rw [ab]; split
    · exact ⟨v0, hvv.1⟩
    · exact g.rng j hj
  · rw [cz] at hj hk'
    rw [ab, ab]
    have a1 := hvv.2 j hj
    have a2 := hvv.2 k hk'
    have a3 := g.dis j k hj hk' hjk
    split <;> split <;> omega
  · rw [cz] at hj
    have hS := tG (v := v) (P := fun w => w < (t.vs.length : Int) ∧ ∀ k, k < t.ps.length → k ≠ i → w ≠ at0 t.bs k) (u := at0 t.bs i)
      ⟨hri.rt, hri.c, fun m hm => ⟨(hri.vars m hm).1, fun k hk _ => (hri.vars m hm).2 k hk⟩⟩ ⟨hu.2, fun k hk hki => g.dis i k hi hk (fun e => hki e.symm)⟩ hu.1
    have key : RowG (fun w => (w < (t.vs.length : Int) ∧ ∀ k, k < t.ps.length → k ≠ i → w ≠ at0 t.bs k) ∧ w ≠ v ∨ w = at0 t.bs i) (psA (Go.Sh.pivT t i v) j) := by
      rw [mO hi hj]
      split
      · exact hS
      · have hr := g.row j hj
        exact abI ⟨hr.rt, hr.c, fun m hm => ⟨(hr.vars m hm).1, fun k hk _ => (hr.vars m hm).2 k hk⟩⟩ hS
    refine ⟨key.rt, key.c, fun m hm => ?_⟩
    show m.1 < (t.vs.length : Int) ∧ _
    rcases key.vars m hm with ⟨⟨h1, h2⟩, h3⟩ | h
    · refine ⟨h1, fun k hk' => ?_⟩
      rw [cz] at hk'
      rw [ab]; split
      · exact h3
      · rename_i hki; exact h2 k hk' hki
    · rw [h]
      refine ⟨hu.2, fun k hk' => ?_⟩
      rw [cz] at hk'
      rw [ab]; split
      · exact fun e => hvv.2 i hi e.symm
      · rename_i hki; exact g.dis i k hi hk' (fun e => hki e.symm)
  · rw [cz] at hj
    have h1 := vals (fun w => (atD t.vs w).1) (fun k hk' => by have := congrArg Prod.fst (g.val k hk'); exact this) j hj
    have h2 := vals (fun w => (atD t.vs w).2) (fun k hk' => by have := congrArg Prod.snd (g.val k hk'); exact this) j hj
    show (valL (fun w => (atD t.vs w).1) _, valL (fun w => (atD t.vs w).2) _) = atD t.vs _
    rw [h1, h2]
end
end Go.Sh

/-
  Laws that the proof of this claim's statement leans on, each proved under the conditions that it states.
-/
import Derived.Test.YtjppcjbmepcneaaGreatDoorUF
set_option linter.unusedVariables false
set_option linter.unusedSimpArgs false
namespace Go.Sh
open Go Go.Lift
abbrev A9 := Int × Int × Int × X6
abbrev C9 := C_i64ui64ui64ubool_sl_sl_bool_sl_sl
abbrev S7 := Int × Int × Sl × Sl × Sl × Sl × Sl
theorem len9 (y : A9) : (C9 y).length = 9 := rfl
structure AT where
  v : Int
  u : Int
  r : Int
  b : Rat × Rat
def AQ (h : Heap) (y : A9) (a : AT) : Prop := y.1 = a.v ∧ y.2.1 = a.u ∧ y.2.2.1 = a.r ∧ DQ h y.2.2.2 a.b
theorem AQ.ext' : ∀ (h h' : Heap) (y : A9) (m : AT), AQ h y m → Ext h h' → AQ h' y m := fun _ _ _ _ q e => ⟨q.1, q.2.1, q.2.2.1, q.2.2.2.ext e⟩
def leD (v : Rat) (b : Rat × Rat) : Prop := v < b.1 ∨ (v = b.1 ∧ 0 ≤ b.2)
theorem leD_add {v w : Rat} {b c : Rat × Rat} (h : leD v b) (h' : leD w c) : leD (v + w) (addD b c) := by
  unfold leD addD at *
  dsimp only at *
  grind
theorem leD_sc {v k : Rat} {b : Rat × Rat} (hk : 0 ≤ k) (h : leD v b) : leD (k * v) (scD k b) := by
  unfold leD scD at *
  dsimp only at *
  have hk' : 0 < k ∨ 0 = k := by grind
  rcases hk' with hk | hk
  · rcases h with h | ⟨h, h'⟩
    · exact .inl ((Rat.mul_lt_mul_left hk).2 h)
    · refine .inr ⟨by rw [h], ?_⟩
      exact Rat.mul_nonneg (Rat.le_of_lt hk) h'
  · subst hk
    right; constructor <;> grind
theorem leD_not {v : Rat} {b : Rat × Rat} (h : ¬ leD v b) (hb : b.2 = 0 ∨ b.2 = -1) : leD (-1 * v) (scD (-1) (addD b (0, 1))) := by
  unfold leD scD addD at *
  dsimp only at *
  grind
theorem cmpR_le {p q : Rat} : cmpR p q ≤ 0 ↔ p ≤ q := by
  unfold cmpR
  have : (p - q).num.sign ≤ 0 ↔ (p - q).num ≤ 0 := by
    rcases Int.lt_trichotomy (p - q).num 0 with h | h | h
    · rw [Int.sign_eq_neg_one_of_neg h]; omega
    · rw [h]; simp
    · rw [Int.sign_eq_one_of_pos h]; omega
  rw [this]
  have h1 : (p - q).num ≤ 0 ↔ 0 ≤ (-(p - q)).num := by
    generalize p - q = d
    have : (-d).num = -d.num := by simp
    omega
  rw [h1, Rat.num_nonneg]
  grind
theorem cmpD_le {v : Rat} {b : Rat × Rat} : cmpD (v, 0) b ≤ 0 ↔ leD v b := by
  unfold cmpD leD
  dsimp only
  split
  · rename_i h
    have h1 := cmpR_eq0.1 h
    rw [cmpR_le, h1]
    grind
  · rename_i h
    rw [cmpR_le]
    have h1 : ¬ v = b.1 := fun e => h (cmpR_eq0.2 e)
    grind
theorem cmpD_neg {b : Rat × Rat} (h : cmpD b (0, 0) < 0) : ¬ leD 0 b := by
  intro hl
  unfold cmpD at h
  dsimp only at h
  unfold leD at hl
  have lt : ∀ {p q : Rat}, cmpR p q < 0 → p < q := fun {p q} hh => by
    have h1 : p ≤ q := cmpR_le.1 (by omega)
    have h2 : ¬ p = q := fun e => by have := cmpR_eq0.2 e; omega
    grind
  split at h
  · rename_i h0
    have h1 := cmpR_eq0.1 h0
    have h2 := lt h
    grind
  · have h2 := lt h
    grind
structure PB where
  n : Int
  m : Int
  ps : List (Rat × PL)
  as : List AT
def truthI (l : Int) : Int := if l < 0 then -l - 1 else l - 1
def rowB (t : PB) (a : AT) : Rat × PL := if 0 ≤ a.r then t.ps.getD a.r.toNat (0, []) else (0, [(a.u, 1)])
def bndB (t : PB) (a : AT) (lit : Int) : (Rat × PL) × (Rat × Rat) := if lit > 0 then (rowB t a, a.b) else (scP (-1) (rowB t a), scD (-1) (addD a.b (0, 1)))
abbrev FS := (Rat × PL) × (Rat × Rat)
def stepB (s : FS) (k : Rat) (d : FS) : FS := (addP s.1 k d.1, addD s.2 (scD k d.2))
inductive Der (t : PB) : List Int → FS → Prop
  | nil : Der t [] ((0, []), (0, 0))
  | step {ls : List Int} {s : FS} {l : Int} {a : AT} {k : Rat} : Der t ls s → l ≠ 0 → a ∈ t.as → a.v = truthI l → 0 ≤ k → Der t (ls ++ [l]) (stepB s k (bndB t a l))
structure FactB (t : PB) : Prop where
  c : ∀ p ∈ t.ps, p.1 = 0
  r : ∀ a ∈ t.as, a.r < t.ps.length
  e : ∀ a ∈ t.as, a.b.2 = 0 ∨ a.b.2 = -1
theorem rowB_c {t : PB} (F : FactB t) {a : AT} (ha : a ∈ t.as) : (rowB t a).1 = 0 := by
  unfold rowB
  split
  · have := F.r a ha
    have hl : a.r.toNat < t.ps.length := by omega
    rw [List.getD_eq_getElem?_getD, List.getElem?_eq_getElem hl]
    exact F.c _ (List.getElem_mem hl)
  · rfl
theorem Der.holds {t : PB} (F : FactB t) {f : Int → Rat} {ls : List Int} {s : FS} (d : Der t ls s) (hx : ∀ l ∈ ls, ∀ a ∈ t.as, a.v = truthI l → (leD (vP f (rowB t a)) a.b ↔ l > 0)) : s.1.1 = 0 ∧ leD (vP f s.1) s.2 := by
  induction d with
  | nil => exact ⟨rfl, .inr ⟨by simp [vP, valL]; grind, by simp⟩⟩
  | @step ls s l a k d hl ha hv hk ih =>
    obtain ⟨h1, h2⟩ := ih fun l hl => hx l (List.mem_append.2 (.inl hl))
    have h3 := hx l (by simp) a ha hv
    have hr := rowB_c F ha
    have hb : (bndB t a l).1.1 = 0 ∧ leD (vP f (bndB t a l).1) (bndB t a l).2 := by
      unfold bndB
      split
      · rename_i hg; exact ⟨hr, h3.2 hg⟩
      · rename_i hg
        refine ⟨?_, ?_⟩
        · show (scP (-1) (rowB t a)).1 = 0
          unfold scP; split
          · rfl
          · show -1 * (rowB t a).1 = 0
            rw [hr]; grind
        · show leD (vP f (scP (-1) (rowB t a))) _
          rw [vP_sc]
          exact leD_not (fun hh => hg (h3.1 hh)) (F.e a ha)
    refine ⟨?_, ?_⟩
    · show s.1.1 + (scP k (bndB t a l).1).1 = 0
      rw [h1]
      unfold scP; split
      · grind
      · show 0 + k * (bndB t a l).1.1 = 0
        rw [hb.1]; grind
    · show leD (vP f (addP s.1 k (bndB t a l).1)) _
      rw [vP_add]
      exact leD_add h2 (leD_sc hk hb.2)
theorem Der.never {t : PB} (F : FactB t) {f : Int → Rat} {ls : List Int} {s : FS} (d : Der t ls s) (h0 : s.1.2 = []) (h1 : cmpD s.2 (0, 0) < 0) : ∃ l ∈ ls, ∃ a ∈ t.as, a.v = truthI l ∧ ¬ (leD (vP f (rowB t a)) a.b ↔ l > 0) := by
  apply Classical.byContradiction
  intro hn
  have := d.holds F (f := f) fun l hl a ha hv => Classical.byContradiction fun hh => hn ⟨l, hl, a, ha, hv, hh⟩
  obtain ⟨g1, g2⟩ := this
  refine cmpD_neg h1 ?_
  have : vP f s.1 = 0 := by unfold vP; rw [g1, h0]; simp [valL]; grind
  rwa [this] at g2
end Go.Sh

namespace Go.Sh
open Go Go.Lift
theorem RK.ofRF {b : Nat} {h : Heap} {x : X3} {q : Rat} (hx : RF b h x q) : RK (· = b) h x q := ⟨hx.rq, fun k hk => by subst hk; exact hx.num.2, fun k hk => by subst hk; exact hx.den.2⟩
theorem mrg_sz {A B : Nat} {p q : PL} (h1 : ∀ m ∈ p, szQ m.2 ≤ A) (h2 : ∀ m ∈ q, szQ m.2 ≤ B) : ∀ m ∈ mrg p q, szQ m.2 ≤ A + B + 2 := by
  have nz : ∀ {m : Int × Rat} {l : PL}, szQ m.2 ≤ A + B + 2 → (∀ x ∈ l, szQ x.2 ≤ A + B + 2) → ∀ x ∈ nzc m l, szQ x.2 ≤ A + B + 2 := fun {m l} g1 g2 x hx => by
    unfold nzc at hx
    split at hx
    · exact g2 x hx
    · rcases List.mem_cons.1 hx with rfl | hx
      · exact g1
      · exact g2 x hx
  induction p, q using mrg.induct with
  | case1 => rw [mrg_nn]; intro m hm; simp at hm
  | case2 a as ih => rw [mrg_cn]; exact nz (by have := h1 a (by simp); omega) (ih (fun m hm => h1 m (by simp [hm])) h2)
  | case3 b bs ih => rw [mrg_nc]; exact nz (by have := h2 b (by simp); omega) (ih h1 (fun m hm => h2 m (by simp [hm])))
  | case4 a as b bs h ih => rw [mrg_cc, if_pos h]; exact nz (by have := h1 a (by simp); omega) (ih (fun m hm => h1 m (by simp [hm])) h2)
  | case5 a as b bs h h' ih => rw [mrg_cc, if_neg h, if_pos h']; exact nz (by have := h2 b (by simp); omega) (ih h1 (fun m hm => h2 m (by simp [hm])))
  | case6 a as b bs h h' ih =>
    rw [mrg_cc, if_neg h, if_neg h']
    refine nz ?_ (ih (fun m hm => h1 m (by simp [hm])) (fun m hm => h2 m (by simp [hm])))
    have g1 := h1 a (by simp); have g2 := h2 b (by simp)
    exact Nat.le_trans (sz_add _ _) (by omega)
section
variable {h0 h : Heap} {a : Addr} {lim : Nat}
theorem addDO {x y : X6} {p q : Rat × Rat} {Q : X6 → Heap → Prop} (hv : BO h0 a lim false h) (hlim : 3000 ≤ lim) (hx : DF a.block h x p) (hy : DF a.block h y q) (hs : szD p + szD q ≤ 2900)
    (C : ∀ r h', BO h0 a lim false h' → Keep (some a.block) h h' → DF a.block h' r (addD p q) → Q r h') : delta_Add (some a) x y h Q := by
  have z := szD_plus p q
  refine AddE_spec hv.tb hv.bench hx hy (by omega) fun r h' hb k hr _ => ?_
  have hf : (false || decide (lim < szD (addD p q))) = false := by simp; omega
  rw [hf] at hb hr
  exact C r h' (hv.keep hb k) k hr
theorem scDO {k x : _} {c : Rat} {p : Rat × Rat} {Q : X6 → Heap → Prop} (hv : BO h0 a lim false h) (hlim : 3000 ≤ lim) (hk : RF a.block h k c) (hx : DF a.block h x p) (hs : szQ c + szD p ≤ 2900)
    (C : ∀ r h', BO h0 a lim false h' → Keep (some a.block) h h' → DF a.block h' r (scD c p) → Q r h') : delta_Scale (some a) k x h Q := by
  have z := szD_times c p
  refine ScaleE_spec hv.tb hv.bench hk hx (by omega) fun r h' hb kk hr _ => ?_
  have hf : (false || decide (lim < szD (scD c p))) = false := by simp; omega
  rw [hf] at hb hr
  exact C r h' (hv.keep hb kk) kk hr
theorem scPO {k : X3} {c : Rat} {x : X4} {p : Rat × PL} {Q : X4 → Heap → Prop} (hv : BO h0 a lim false h) (hlim : 3000 ≤ lim) (hk : RK (· = a.block) h k c) (hx : PK (· = a.block) h x p) (s1 : szQ c ≤ 100) (s2 : szQ p.1 ≤ 100) (s3 : ∀ m ∈ p.2, szQ m.2 ≤ 100) (hl : p.2.length ≤ 1000)
    (C : ∀ r h', BO h0 a lim false h' → Keep (some a.block) h h' → PK (· = a.block) h' r (scP c p) → Q r h') : linear_Scale (some a) k x h Q := by
  have hK : ∀ k, k = a.block → k < h.size := fun k hk => by subst hk; exact hv.lt
  obtain ⟨z1, z2⟩ := scP_sz s1 s2 s3
  have hf : (false || !fitsP lim (scP c p)) = false := by
    have : fitsP lim (scP c p) = true := fitsP_iff.2 ⟨by omega, fun m hm => Nat.le_trans (z2 m hm) (by omega)⟩
    rw [this]; rfl
  refine Scale_specK (K := (· = a.block)) rfl hK hv hk hx.1 hx.2 s1 s2 s3 hl fun r h' hb kk h1 h2 => ?_
  rw [hf] at hb h1 h2
  exact C r h' hb kk ⟨h1, h2⟩
theorem addPO {k : X3} {c : Rat} {x y : X4} {p q : Rat × PL} {Q : X4 → Heap → Prop} (hv : BO h0 a lim false h) (hlim : 3000 ≤ lim) (hk : RK (· = a.block) h k c) (hx : PK (· = a.block) h x p) (hy : PK (· = a.block) h y q)
    (sc : szQ c ≤ 90) (s1 : szQ p.1 ≤ 1500) (s2 : ∀ m ∈ p.2, szQ m.2 ≤ 1500) (s3 : szQ q.1 ≤ 90) (s4 : ∀ m ∈ q.2, szQ m.2 ≤ 90) (hl1 : p.2.length ≤ 1000) (hl2 : q.2.length ≤ 1000)
    (C : ∀ r h', BO h0 a lim false h' → Keep (some a.block) h h' → PK (· = a.block) h' r (addP p c q) → Q r h') : linear_Add (some a) x k y h Q := by
  have hK : ∀ k, k = a.block → k < h.size := fun k hk => by subst hk; exact hv.lt
  obtain ⟨z1, z2⟩ := scP_sz (c := c) (p := q) sc s3 s4
  have f1 : fitsP lim (scP c q) = true := fitsP_iff.2 ⟨by omega, fun m hm => Nat.le_trans (z2 m hm) (by omega)⟩
  have f2 : fitsP lim (addP p c q) = true := by
    refine fitsP_iff.2 ⟨?_, fun m hm => ?_⟩
    · have := sz_add p.1 (scP c q).1
      show szQ (p.1 + (scP c q).1) ≤ lim
      omega
    · exact Nat.le_trans (mrg_sz s2 z2 m hm) (by omega)
  refine AddP_specK (K := (· = a.block)) rfl hK hv hk hx.1 hx.2 hy.1 hy.2 sc s1 s2 s3 s4 hl1 hl2 (fun m hm => Nat.le_trans (s2 m hm) (by omega)) fun r h' ov' hb kk g1 g2 h1 h2 => ?_
  have : ov' = false := by
    cases ov' with
    | false => rfl
    | true =>
      rcases g1 rfl with g | g | g
      · cases g
      · rw [f1] at g; cases g
      · rw [f2] at g; cases g
  subst this
  exact C r h' hb kk ⟨h1, h2⟩
abbrev X10 := Bool × Sl × Sl × Sl × X6
abbrev cP (c : X10) : X4 := (c.1, c.2.1, c.2.2.1, c.2.2.2.1)
abbrev cD (c : X10) : X6 := c.2.2.2.2
def CQ (h : Heap) (b : Nat) (c : X10) (s : FS) : Prop := PK (· = b) h (cP c) s.1 ∧ DF b h (cD c) s.2
structure FSz (s : FS) (n L : Nat) : Prop where
  c : szQ s.1.1 ≤ n
  m : ∀ m ∈ s.1.2, szQ m.2 ≤ n
  b : szD s.2 ≤ n
  l : s.1.2.length ≤ L
structure PBz (t : PB) : Prop where
  p : ∀ p ∈ t.ps, Few4 p
  a : ∀ a ∈ t.as, szD a.b ≤ 6
  np : t.ps.length ≤ 10
  na : t.as.length ≤ 30
theorem sz1 : szQ (1 : Rat) ≤ 2 := sz_int (n := 1) (by decide)
theorem szm1 : szQ (-1 : Rat) ≤ 2 := by rw [szQ_neg]; exact sz1
theorem rowB_sz {t : PB} (z : PBz t) {at' : AT} : szQ (rowB t at').1 ≤ 6 ∧ (∀ m ∈ (rowB t at').2, szQ m.2 ≤ 6) ∧ (rowB t at').2.length ≤ 12 := by
  have s1 := sz1
  unfold rowB
  split
  · rw [List.getD_eq_getElem?_getD]
    by_cases hl : at'.r.toNat < t.ps.length
    · rw [List.getElem?_eq_getElem hl]
      have := z.p _ (List.getElem_mem hl)
      exact ⟨this.c, this.m, this.n⟩
    · rw [List.getElem?_eq_none (by omega)]
      exact ⟨by simp [sz_zero], by simp, by simp⟩
  · exact ⟨by simp [sz_zero], by simp; omega, by simp⟩
theorem bndB_sz {t : PB} (z : PBz t) {at' : AT} (ha : at' ∈ t.as) (lit : Int) : FSz (bndB t at' lit) 14 12 := by
  obtain ⟨r1, r2, r3⟩ := rowB_sz z (at' := at')
  have hb := z.a at' ha
  have sm := szm1; have s1 := sz1
  unfold bndB
  split
  · exact ⟨by dsimp only; omega, fun m hm => by have := r2 m hm; omega, by dsimp only; omega, r3⟩
  · obtain ⟨z1, z2⟩ := scP_sz (n := 6) (c := -1) (p := rowB t at') (by omega) r1 r2
    have z3 := szD_plus at'.b (0, 1)
    have z4 := szD_times (-1) (addD at'.b (0, 1))
    have z5 : szD ((0, 1) : Rat × Rat) ≤ 2 := by unfold szD; simp [sz_zero]; omega
    exact ⟨z1, z2, by dsimp only; omega, Nat.le_trans scL_len r3⟩
theorem bounded_spec {t : PB} {p : S7} {y : A9} {at' : AT} {lit : Int} {Q : X10 → Heap → Prop} (hv : BO h0 a lim false h) (hlim : 3000 ≤ lim) (hr : RowQ CP 4 PQ h0 p.2.2.1 t.ps) (hy : AQ h0 y at') (hi : at'.r < t.ps.length) (z : PBz t) (ha : at' ∈ t.as)
    (C : ∀ r h', BO h0 a lim false h' → Keep (some a.block) h h' → CQ h' a.block r (bndB t at' lit) → Q r h') : farkas_bounded (some a) p y lit h Q := by
  obtain ⟨y1, y2, y3, y4⟩ := hy
  have hK : ∀ {hh : Heap}, BO h0 a lim false hh → ∀ k, k = a.block → k < hh.size := fun hb k hk => by subst hk; exact hb.lt
  have hK0 : ∀ k, k = a.block → h0.size ≤ k := fun k hk => by subst hk; exact hv.old
  have s1 := sz1; have sm := szm1
  refine mem_ext fun h1 e1 => seq.dup (mem_ext fun h2 e2 => ?_)
  have v2 := hv.of_ext (e1.trans e2)
  refine lOf_spec (K := (· = a.block)) (hK v2) fun r h3 hr3 e3 => mem_ext fun h4 e4 => ?_
  have e04 := (e1.trans e2).trans (e3.trans e4)
  have v4 := hv.of_ext e04
  refine seq.cut (fun (c : X10) h' => h' = h4 ∧ PK (· = a.block) h4 (cP c) (rowB t at') ∧ cD c = y.2.2.2) ?_ ?_
  · refine ⟨fun hg => ?_, fun hg => ?_⟩
    · simp only [ge_iff_le, decide_eq_true_eq, y3] at hg
      rw [y3]
      refine hr.ldE v4.ext (j := at'.r.toNat) (by omega) (by omega) fun x hx => ⟨rfl, ?_, rfl⟩
      have : rowB t at' = t.ps[at'.r.toNat]'(by omega) := by
        unfold rowB; rw [if_pos hg, List.getD_eq_getElem?_getD, List.getElem?_eq_getElem (by omega)]; rfl
      rw [this]
      exact PK.of hx v4.ext hK0
    · simp only [ge_iff_le, decide_eq_false_iff_not, y3] at hg
      refine ⟨rfl, ?_, rfl⟩
      have : rowB t at' = (0, [(y.2.1, 1)]) := by unfold rowB; rw [if_neg hg, y2]
      rw [this]
      exact ⟨hr3.1.ext e4, hr3.2.ext e4⟩
  rintro c h5 ⟨h54, hc1, hc2⟩
  rw [h54]
  clear h54 h5
  obtain ⟨r1, r2, r3⟩ := rowB_sz z (at' := at')
  have hb := z.a at' ha
  have hd : DF a.block h4 y.2.2.2 at'.b := y4.df v4.ext v4.old
  refine ⟨fun hg => ?_, fun hg => ?_⟩
  · simp only [gt_iff_lt, decide_eq_true_eq] at hg
    refine C c _ v4 (Keep.of_ext e04) ?_
    have : bndB t at' lit = (rowB t at', at'.b) := if_pos hg
    rw [this]
    exact ⟨hc1, by rw [hc2]; exact hd⟩
  · simp only [gt_iff_lt, decide_eq_false_iff_not] at hg
    have hbn : bndB t at' lit = (scP (-1) (rowB t at'), scD (-1) (addD at'.b (0, 1))) := if_neg hg
    have z3 := szD_plus at'.b (0, 1)
    have z5 : szD ((0, 1) : Rat × Rat) ≤ 2 := by unfold szD; simp [sz_zero]; omega
    refine seq.dup (mem_ext fun h5 e5 => OfQ (by decide) (by decide) fun u h6 hu fu e6 => mem_ext fun h7 e7 => ?_)
    have e47 := (e5.trans e6).trans e7
    have v7 := v4.of_ext e47
    have hu7 : RF a.block h7 u 1 := (RQ.rff hu fu (by have := (v4.of_ext e5).lt; exact this)).ext e7
    refine addDO (p := at'.b) (q := (0, 1)) v7 hlim (hd.ext e47) ⟨DF.zero.a, hu7⟩ (by omega) fun d h8 v8 k8 hd8 => mem_ext fun h9 e9 => ?_
    have v9 := v8.of_ext e9
    refine OfQ (by decide) (by decide) fun u' h10 hu' fu' e10 => ?_
    have v10 := v9.of_ext e10
    have k10 : Keep (some a.block) h4 h10 := (((Keep.of_ext e47).trans k8).trans (Keep.of_ext e9)).trans (Keep.of_ext e10)
    have hun : (((-1 : Int)) : Rat) = -1 := by grind
    rw [hun] at hu'
    have hc10 : PK (· = a.block) h10 (cP c) (rowB t at') := hc1.keep k10 fun k e => by cases e; rfl
    refine scPO v10 hlim (RK.ofRF (RQ.rff hu' fu' v9.lt)) hc10 (by omega) (by omega) (fun m hm => by have := r2 m hm; omega) (by omega) fun w h11 v11 k11 hw11 => ?_
    refine OfQ (by decide) (by decide) fun u2 h12 hu2 fu2 e12 => ?_
    rw [hun] at hu2
    have v12 := v11.of_ext e12
    refine scDO (c := -1) (p := addD at'.b (0, 1)) v12 hlim (RQ.rff hu2 fu2 v11.lt) ((((hd8.ext e9).ext e10).keep k11).ext e12) (by omega) fun d2 h13 v13 k13 hd13 => ?_
    refine C (w.1, w.2.1, w.2.2.1, w.2.2.2, d2) h13 v13 (((((Keep.of_ext e04).trans k10).trans k11).trans (Keep.of_ext e12)).trans k13) ?_
    rw [hbn]
    exact ⟨(hw11.keep e12 (by simp)).keep k13 fun k e => by cases e; rfl, hd13⟩
theorem claimAdd_spec {c d : X10} {s u : FS} {k : X3} {q : Rat} {n L : Nat} {Q : X10 → Heap → Prop} (hv : BO h0 a lim false h) (hlim : 3000 ≤ lim) (hc : CQ h a.block c s) (hk : RK (· = a.block) h k q) (hd : CQ h a.block d u) (sc : FSz s n L) (su : FSz u 14 12) (sq : szQ q ≤ 6) (hn : n ≤ 1400) (hL : L ≤ 900)
    (C : ∀ r h', BO h0 a lim false h' → Keep (some a.block) h h' → CQ h' a.block r (stepB s q u) → Q r h') : farkas_claim_add c (some a) k d h Q := by
  have c1 := sc.b; have u1 := su.b; have cc := sc.c; have cl := sc.l; have ul := su.l; have uc := su.c
  refine mem_ext fun h1 e1 => ?_
  have v1 := hv.of_ext e1
  have ke : ∀ {x y : Heap}, Keep (some a.block) x y → ∀ k, some a.block = some k → k = a.block := fun _ k e => by cases e; rfl
  have pe : ∀ {x y : Heap} {w : X4} {p : Rat × PL}, PK (· = a.block) x w p → Ext x y → PK (· = a.block) y w p := fun h e => h.keep e (by simp)
  refine addPO v1 hlim (hk.ext e1) (pe hc.1 e1) (pe hd.1 e1) (by omega) (by omega) (fun m hm => by have := sc.m m hm; omega) (by omega) (fun m hm => by have := su.m m hm; omega) (by omega) (by omega) fun r h2 v2 k2 hr => ?_
  have k02 : Keep (some a.block) h h2 := (Keep.of_ext e1).trans k2
  have hk2 : RK (· = a.block) h2 k q := hk.keep k02 (ke k02)
  refine scDO v2 hlim (hk2.rf rfl) (hd.2.keep k02) (by omega) fun w h3 v3 k3 hw => ?_
  have k03 := k02.trans k3
  have z := szD_times q u.2
  refine addDO v3 hlim (hc.2.keep k03) hw (by omega) fun e h4 v4 k4 he => ?_
  refine C (r.1, r.2.1, r.2.2.1, r.2.2.2, e) h4 v4 (k03.trans k4) ⟨(hr.keep k3 (ke k3)).keep k4 (ke k4), he⟩
theorem stepB_sz {s u : FS} {q : Rat} {n L : Nat} (sc : FSz s n L) (su : FSz u 14 12) (sq : szQ q ≤ 6) : FSz (stepB s q u) (n + 34) (L + 12) := by
  have c1 := sc.b; have u1 := su.b; have cc := sc.c; have cl := sc.l; have ul := su.l; have uc := su.c
  obtain ⟨z1, z2⟩ := scP_sz (n := 14) (c := q) (p := u.1) (by omega) uc su.m
  refine ⟨?_, fun m hm => ?_, ?_, ?_⟩
  · have := sz_add s.1.1 (scP q u.1).1
    show szQ (s.1.1 + (scP q u.1).1) ≤ _
    omega
  · exact Nat.le_trans (mrg_sz sc.m z2 m hm) (by omega)
  · have g1 := szD_plus s.2 (scD q u.2)
    have g2 := szD_times q u.2
    show szD (addD s.2 (scD q u.2)) ≤ _
    omega
  · have := addP_len s.1 u.1 q
    show (addP s.1 q u.1).2.length ≤ _
    omega
end
end Go.Sh

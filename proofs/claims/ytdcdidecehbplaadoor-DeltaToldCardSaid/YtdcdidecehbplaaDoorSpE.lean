/-
  Laws that the proof of this claim's statement leans on, each proved under the conditions that it states.
-/
import Derived.Test.YtdcdidecehbplaaDoorSpM
set_option linter.unusedVariables false
set_option linter.unusedSimpArgs false
namespace Go.Sh
open Go Go.Lift

/-! ### Numbers with a delta -/
abbrev X3 := Bool × Sl × Sl
abbrev X6 := Bool × Sl × Sl × Bool × Sl × Sl
abbrev dA (x : X6) : X3 := (x.1, x.2.1, x.2.2.1)
abbrev dB (x : X6) : X3 := (x.2.2.2.1, x.2.2.2.2.1, x.2.2.2.2.2)
abbrev d0 : X6 := (false, Sl.nil, Sl.nil, false, Sl.nil, Sl.nil)
structure DQ (h : Heap) (x : X6) (p : Rat × Rat) : Prop where
  a : RQ h (dA x) p.1
  b : RQ h (dB x) p.2
structure DF (k : Nat) (h : Heap) (x : X6) (p : Rat × Rat) : Prop where
  a : RF k h (dA x) p.1
  b : RF k h (dB x) p.2
structure DD (h : Heap) (x : X6) (p : Rat × Rat) : Prop where
  a : RD h (dA x) p.1
  b : RD h (dB x) p.2
def Fr6 (h : Heap) (x : X6) : Prop := Fr h (dA x) ∧ Fr h (dB x)
section
variable {h h' : Heap} {x : X6} {p : Rat × Rat} {k : Nat}
theorem DQ.ext (hx : DQ h x p) (e : Ext h h') : DQ h' x p := ⟨hx.a.ext e, hx.b.ext e⟩
theorem DF.ext (hx : DF k h x p) (e : Ext h h') : DF k h' x p := ⟨hx.a.ext e, hx.b.ext e⟩
theorem DD.ext (hx : DD h x p) (e : Ext h h') : DD h' x p := ⟨hx.a.ext e, hx.b.ext e⟩
theorem DF.keep (hx : DF k h x p) (e : Keep (some k) h h') : DF k h' x p := ⟨hx.a.keep e, hx.b.keep e⟩
theorem DF.dq (hx : DF k h x p) : DQ h x p := ⟨hx.a.rq, hx.b.rq⟩
theorem DQ.df (hx : DQ h x p) (e : Ext h h') (ha : h.size ≤ k) : DF k h' x p := ⟨hx.a.rf e ha, hx.b.rf e ha⟩
theorem DQ.zero : DQ h d0 (0, 0) := ⟨RQ.zero, RQ.zero⟩
theorem DF.zero : DF k h d0 (0, 0) := ⟨RF.zero, RF.zero⟩
end
def szD (p : Rat × Rat) : Nat := max (szQ p.1) (szQ p.2)
def valD (ov : Bool) (p : Rat × Rat) : Rat × Rat := if ov then (0, 0) else p
def addD (p q : Rat × Rat) : Rat × Rat := (p.1 + q.1, p.2 + q.2)
def subD (p q : Rat × Rat) : Rat × Rat := (p.1 - q.1, p.2 - q.2)
def negD (p : Rat × Rat) : Rat × Rat := (-p.1, -p.2)
def scD (k : Rat) (p : Rat × Rat) : Rat × Rat := (k * p.1, k * p.2)
def cmpD (p q : Rat × Rat) : Int := if cmpR p.1 q.1 = 0 then cmpR p.2 q.2 else cmpR p.1 q.1

theorem DOf_spec {h : Heap} {x : X3} {q : Rat} {Q : X6 → Heap → Prop} (hx : RQ h x q) (K : ∀ h', DQ h' (x.1, x.2.1, x.2.2, false, Sl.nil, Sl.nil) (q, 0) → Ext h h' → Q (x.1, x.2.1, x.2.2, false, Sl.nil, Sl.nil) h') : delta_Of x h Q :=
  mem_ext fun h1 e1 => K h1 ⟨hx.ext e1, RQ.zero⟩ e1

section
variable {a : Addr} {lim : Nat} {ov : Bool} {h : Heap}
/-- What is done with both parts. -/
def bothG (f : Option Addr → X3 → X3 → Heap → (X3 → Heap → Prop) → Prop) (b : Option Addr) (x0 y : X6) (h : Heap) (Q : X6 → Heap → Prop) : Prop :=
  mem h fun h0 =>
  seq (fun (K0 : X6 → Heap → Prop) =>
   mem h0 fun h0u2 =>
   f b (x0.1, x0.2.1, x0.2.2.1) (y.1, y.2.1, y.2.2.1) h0u2 fun v_3 h0u9 =>
   mem h0u9 fun h0u10 =>
   f b (x0.2.2.2.1, x0.2.2.2.2.1, x0.2.2.2.2.2) (y.2.2.2.1, y.2.2.2.2.1, y.2.2.2.2.2) h0u10 fun v_4 h0u11 =>
   mem h0u11 fun h0u12 =>
   K0 (v_3.1, v_3.2.1, v_3.2.2, v_4.1, v_4.2.1, v_4.2.2) h0u12
  ) (fun t0 h0u1 =>
   nat_Bench_Over b h0u1 fun v_5 h0u13 =>
   iteB v_5 (
    Q (false, Sl.nil, Sl.nil, false, Sl.nil, Sl.nil) h0u13
   ) (
    Q (t0.1, t0.2.1, t0.2.2.1, t0.2.2.2.1, t0.2.2.2.2.1, t0.2.2.2.2.2) h0u13
   )
  )
theorem both_spec {f : Option Addr → X3 → X3 → Heap → (X3 → Heap → Prop) → Prop} {op : Rat → Rat → Rat} {x y : X6} {p q : Rat × Rat} {Q : X6 → Heap → Prop}
    (hf : ∀ {ov : Bool} {h : Heap} {x y : X3} {p q : Rat} {Q : X3 → Heap → Prop}, TB a.block h → Bench h a lim ov → RQ h x p → RQ h y q → szQ p + szQ q ≤ 400 →
      (∀ r h', Bench h' a lim (ov || decide (lim < szQ (op p q))) → Keep (some a.block) h h' → RF a.block h' r (val' (ov || decide (lim < szQ (op p q))) (op p q)) → Fr h r → Q r h') → f (some a) x y h Q)
    (ht : TB a.block h) (hb : Bench h a lim ov) (hx : DF a.block h x p) (hy : DF a.block h y q) (hs : szD p + szD q ≤ 400)
    (K : ∀ r h', Bench h' a lim (ov || decide (lim < szD (op p.1 q.1, op p.2 q.2))) → Keep (some a.block) h h' → DF a.block h' r (valD (ov || decide (lim < szD (op p.1 q.1, op p.2 q.2))) (op p.1 q.1, op p.2 q.2)) → Fr6 h r → Q r h') : bothG f (some a) x y h Q := by
  unfold szD at hs
  refine mem_ext fun h1 e1 => ?_
  have hov : (ov || decide (lim < szQ (op p.1 q.1)) || decide (lim < szQ (op p.2 q.2))) = (ov || decide (lim < szD (op p.1 q.1, op p.2 q.2))) := by
    rw [Bool.or_assoc]; congr 1
    unfold szD
    rw [Bool.eq_iff_iff]; simp; omega
  refine seq.cut (fun t h2 => Bench h2 a lim (ov || decide (lim < szD (op p.1 q.1, op p.2 q.2))) ∧ Keep (some a.block) h h2 ∧
    ((ov || decide (lim < szD (op p.1 q.1, op p.2 q.2))) = false → DF a.block h2 t (op p.1 q.1, op p.2 q.2)) ∧ Fr6 h t) ?_ ?_
  · refine mem_ext fun h2 e2 => ?_
    have e12 := e1.trans e2
    refine hf (ht.ext e12) (hb.ext e12) (hx.ext e12).a.rq (hy.ext e12).a.rq (by omega) fun r1 h3 hb3 k3 hr1 fr1 => ?_
    refine mem_ext fun h4 e4 => ?_
    have k4 : Keep (some a.block) h h4 := ((Keep.of_ext e12).trans k3).trans (Keep.of_ext e4)
    refine hf (ht.keep k4) (hb3.ext e4) (hx.keep k4).b.rq (hy.keep k4).b.rq (by omega) fun r2 h5 hb5 k5 hr2 fr2 => mem_ext fun h6 e6 => ?_
    rw [hov] at hb5 hr2
    have k6 := (k4.trans k5).trans (Keep.of_ext e6)
    refine ⟨hb5.ext e6, k6, fun hno => ⟨?_, ?_⟩, fr1.mono e12.size, fr2.mono k4.size⟩
    · have h1 : (ov || decide (lim < szQ (op p.1 q.1))) = false := by
        rw [← hov] at hno
        simp only [Bool.or_eq_false_iff] at hno ⊢
        exact hno.1
      rw [h1, val'_false] at hr1
      exact (((hr1.ext e4).keep k5).ext e6)
    · rw [hno, val'_false] at hr2
      exact hr2.ext e6
  · rintro t h2 ⟨hb2, k2, hd, fr⟩
    refine Over_spec hb2 ⟨fun ho => ?_, fun ho => ?_⟩
    · refine K _ h2 hb2 k2 ?_ ⟨Fr.nil, Fr.nil⟩
      rw [ho]; exact DF.zero
    · refine K _ h2 hb2 k2 ?_ fr
      rw [ho]; exact hd ho

variable {x y : X6} {p q : Rat × Rat} {Q : X6 → Heap → Prop}
theorem AddE_spec (ht : TB a.block h) (hb : Bench h a lim ov) (hx : DF a.block h x p) (hy : DF a.block h y q) (hs : szD p + szD q ≤ 400)
    (K : ∀ r h', Bench h' a lim (ov || decide (lim < szD (addD p q))) → Keep (some a.block) h h' → DF a.block h' r (valD (ov || decide (lim < szD (addD p q))) (addD p q)) → Fr6 h r → Q r h') : delta_Add (some a) x y h Q :=
  mem_ext fun h1 e1 => by
    have := both_spec (f := ratio_Add) (op := fun u v => u + v) (Q := Q) (fun a b c d e f => AddQ_spec a b c d e f) (ht.ext e1) (hb.ext e1) (hx.ext e1) (hy.ext e1) hs (fun r h' h1 h2 h3 h4 => K r h' h1 ((Keep.of_ext e1).trans h2) h3 ⟨h4.1.mono e1.size, h4.2.mono e1.size⟩)
    exact this
theorem SubE_spec (ht : TB a.block h) (hb : Bench h a lim ov) (hx : DF a.block h x p) (hy : DF a.block h y q) (hs : szD p + szD q ≤ 400)
    (K : ∀ r h', Bench h' a lim (ov || decide (lim < szD (subD p q))) → Keep (some a.block) h h' → DF a.block h' r (valD (ov || decide (lim < szD (subD p q))) (subD p q)) → Fr6 h r → Q r h') : delta_Sub (some a) x y h Q :=
  mem_ext fun h1 e1 => by
    have := both_spec (f := ratio_Sub) (op := fun u v => u - v) (Q := Q) (fun a b c d e f => SubQ_spec a b c d e f) (ht.ext e1) (hb.ext e1) (hx.ext e1) (hy.ext e1) hs (fun r h' h1 h2 h3 h4 => K r h' h1 ((Keep.of_ext e1).trans h2) h3 ⟨h4.1.mono e1.size, h4.2.mono e1.size⟩)
    exact this
theorem ScaleE_spec {k : X3} {c : Rat} (ht : TB a.block h) (hb : Bench h a lim ov) (hk : RF a.block h k c) (hx : DF a.block h x p) (hs : szQ c + szD p ≤ 400)
    (K : ∀ r h', Bench h' a lim (ov || decide (lim < szD (scD c p))) → Keep (some a.block) h h' → DF a.block h' r (valD (ov || decide (lim < szD (scD c p))) (scD c p)) → Fr6 h r → Q r h') : delta_Scale (some a) k x h Q :=
  mem_ext fun h1 e1 => by
    have hk2 : DF a.block h1 (k.1, k.2.1, k.2.2, k.1, k.2.1, k.2.2) (c, c) := ⟨hk.ext e1, hk.ext e1⟩
    have := both_spec (f := ratio_Mul) (op := fun u v => u * v) (Q := Q) (fun a b c d e f => MulQ_spec a b c d e f) (ht.ext e1) (hb.ext e1) hk2 (hx.ext e1) (by unfold szD at *; simp; omega) (fun r h' h1 h2 h3 h4 => K r h' h1 ((Keep.of_ext e1).trans h2) h3 ⟨h4.1.mono e1.size, h4.2.mono e1.size⟩)
    exact this
end

section
variable {h : Heap} {x y : X6} {p q : Rat × Rat}
theorem CmpE_spec {Q : Int → Heap → Prop} (hx : DQ h x p) (hy : DQ h y q) (hs : szD p + szD q ≤ 400) (h0 : 0 < h.size) (K : ∀ h', Ext h h' → Q (cmpD p q) h') : delta_Cmp x y h Q := by
  unfold szD at hs
  refine mem_ext fun h1 e1 => CmpR_spec (hx.ext e1).a (hy.ext e1).a (by omega) (by have := e1.size; omega) fun h2 e2 => ?_
  have e12 := e1.trans e2
  unfold cmpD at K
  refine ⟨fun hn => ?_, fun hn => ?_⟩
  · simp only [bne_iff_ne, ne_eq] at hn
    rw [if_neg hn] at K
    exact K h2 e12
  · simp only [bne_eq_false_iff_eq] at hn
    rw [if_pos hn] at K
    exact CmpR_spec (hx.ext e12).b (hy.ext e12).b (by omega) (by have := e12.size; omega) fun h3 e3 => K h3 (e12.trans e3)
theorem CmpDD_spec {Q : Int → Heap → Prop} (hx : DD h x p) (hy : DD h y q) (hs : szD p + szD q ≤ 4000) (K : ∀ h', Ext h h' → Q (cmpD p q) h') : ref03uCmp x y h Q := by
  unfold szD at hs
  refine mem_ext fun h1 e1 => CmpD_spec (hx.ext e1).a (hy.ext e1).a (by omega) fun h2 e2 => ?_
  have e12 := e1.trans e2
  refine seq.cut (fun t h3 => t = cmpD p q ∧ Ext h2 h3) ?_ ?_
  · unfold cmpD
    refine ⟨fun hn => ?_, fun hn => ?_⟩
    · simp only [beq_iff_eq] at hn
      rw [if_pos hn]
      exact CmpD_spec (hx.ext e12).b (hy.ext e12).b (by omega) fun h3 e3 => ⟨rfl, e3⟩
    · simp only [beq_eq_false_iff_ne, ne_eq] at hn
      rw [if_neg hn]
      exact ⟨rfl, Keep.refl _ _⟩
  · rintro t h3 ⟨rfl, e3⟩
    exact K h3 (e12.trans e3)
theorem OfDD_spec {Q : X6 → Heap → Prop} (hx : DQ h x p) (hs : szD p ≤ 1000) (K : ∀ r h', DD h' r p → Ext h h' → Q r h') : ref03uOf x h Q := by
  unfold szD at hs
  exact mem_ext fun h1 e1 => OfQ_spec (hx.ext e1).a (by omega) fun r1 h2 hr1 e2 => OfQ_spec ((hx.ext e1).ext e2).b (by omega) fun r2 h3 hr2 e3 => K _ h3 ⟨hr1.ext e3, hr2⟩ (e1.trans (e2.trans e3))
theorem FormDD_spec {Q : X6 → Heap → Prop} (hx : DD h x p) (hs : szD p ≤ 8000) (K : ∀ r h', DQ h' r p → Ext h h' → Q r h') : ref03uForm x h Q := by
  unfold szD at hs
  exact mem_ext fun h1 e1 => FormQ_spec (hx.ext e1).a (by omega) fun r1 h2 hr1 e2 => FormQ_spec ((hx.ext e1).ext e2).b (by omega) fun r2 h3 hr2 e3 => K _ h3 ⟨hr1.ext e3, hr2⟩ (e1.trans (e2.trans e3))
theorem AddDD_spec {Q : X6 → Heap → Prop} (hx : DD h x p) (hy : DD h y q) (hs : szD p + szD q ≤ 4000) (K : ∀ r h', DD h' r (addD p q) → Ext h h' → Q r h') : ref03uAdd x y h Q := by
  unfold szD at hs
  exact mem_ext fun h1 e1 => AddD_spec (hx.ext e1).a (hy.ext e1).a (by omega) fun r1 h2 hr1 e2 => AddD_spec ((hx.ext e1).ext e2).b ((hy.ext e1).ext e2).b (by omega) fun r2 h3 hr2 e3 => K _ h3 ⟨hr1.ext e3, hr2⟩ (e1.trans (e2.trans e3))
theorem NegDD_spec {Q : X6 → Heap → Prop} (hx : DD h x p) (K : ∀ r h', DD h' r (negD p) → Ext h h' → Q r h') : ref03uNeg x h Q :=
  mem_ext fun h1 e1 => NegD_spec (hx.ext e1).a fun r1 h2 hr1 e2 => NegD_spec ((hx.ext e1).ext e2).b fun r2 h3 hr2 e3 => K _ h3 ⟨hr1.ext e3, hr2⟩ (e1.trans (e2.trans e3))
theorem ScaleDD_spec {k : X3} {c : Rat} {Q : X6 → Heap → Prop} (hk : RD h k c) (hx : DD h x p) (hs : szQ c + szD p ≤ 4000) (K : ∀ r h', DD h' r (scD c p) → Ext h h' → Q r h') : ref03uScale k x h Q := by
  unfold szD at hs
  exact mem_ext fun h1 e1 => MulD_spec (hk.ext e1) (hx.ext e1).a (by omega) fun r1 h2 hr1 e2 => MulD_spec ((hk.ext e1).ext e2) ((hx.ext e1).ext e2).b (by omega) fun r2 h3 hr2 e3 => K _ h3 ⟨hr1.ext e3, hr2⟩ (e1.trans (e2.trans e3))
theorem SameE_spec {Q : Bool → Heap → Prop} (hx : DQ h x p) (hy : DQ h y q) (K : ∀ h', Ext h h' → Q (decide (p = q)) h') : ref03uSame x y h Q := by
  have key : (p = q) ↔ p.1 = q.1 ∧ p.2 = q.2 := Prod.ext_iff
  refine mem_ext fun h1 e1 => seq.cut (fun t h2 => t = decide (p = q) ∧ Ext h1 h2) ?_ ?_
  · refine SameQ_spec (hx.ext e1).a (hy.ext e1).a fun h2 e2 => ⟨fun hs => ?_, fun hs => ?_⟩
    · simp only [decide_eq_true_eq] at hs
      refine SameQ_spec ((hx.ext e1).ext e2).b ((hy.ext e1).ext e2).b fun h3 e3 => ⟨?_, e2.trans e3⟩
      rw [decide_eq_decide, key]; exact ⟨fun h => ⟨hs, h⟩, fun h => h.2⟩
    · simp only [decide_eq_false_iff_not] at hs
      refine ⟨?_, e2⟩
      symm; rw [decide_eq_false_iff_not, key]; exact fun h => hs h.1
  · rintro t h2 ⟨rfl, e2⟩
    exact K h2 (e1.trans e2)

def tD (p : Rat × Rat) : ByteArray :=
  if p.2.num = 0 then tQ p.1 else if p.2.num < 0 then ((tQ p.1 ++ ByteArray.mk #[45]) ++ tQ (-p.2)) ++ ByteArray.mk #[100] else ((tQ p.1 ++ ByteArray.mk #[43]) ++ tQ p.2) ++ ByteArray.mk #[100]
theorem tQ_size (q : Rat) : (tQ q).size ≤ 20 * szQ q + 20 := by
  have n1 := nl_num_le q; have n3 := nl_den_le q
  have t1 := tN_size n1; have t2 := tN_size n3
  have s1 : (ByteArray.mk #[45]).size = 1 := rfl
  have s2 : (ByteArray.mk #[47]).size = 1 := rfl
  have s3 : ByteArray.empty.size = 0 := rfl
  unfold tQ
  split <;> split <;> simp only [ByteArray.size_append, s1, s2, s3] <;> omega
theorem TextE_spec {Q : ByteArray → Heap → Prop} (hx : DQ h x p) (hs : szD p ≤ 2000) (K : ∀ h', Ext h h' → Q (tD p) h') : delta_Text x h Q := by
  unfold szD at hs
  have t1 := tQ_size p.1; have t2 := tQ_size p.2; have t3 := tQ_size (-p.2)
  rw [neg_sz] at t3
  have s1 : (ByteArray.mk #[45]).size = 1 := rfl
  have s2 : (ByteArray.mk #[43]).size = 1 := rfl
  have s3 : (ByteArray.mk #[100]).size = 1 := rfl
  unfold tD at K
  refine mem_ext fun h1 e1 => Sign_spec (hx.ext e1).b fun h2 e2 => ?_
  have e12 := e1.trans e2
  have X := hx.ext e12
  refine ⟨fun h3 => ?_, fun h3 => ?_⟩
  · have hp : 0 < p.2.num := by simpa [Int.sign_eq_one_iff_pos] using h3
    rw [if_neg (by omega), if_neg (by omega)] at K
    refine TextQ_spec X.a (by omega) fun h4 e4 => ⟨by omega, TextQ_spec (X.ext e4).b (by omega) fun h5 e5 => ⟨?_, ?_, K h5 (e12.trans (e4.trans e5))⟩⟩
    · rw [ByteArray.size_append]; omega
    · rw [ByteArray.size_append, ByteArray.size_append]; omega
  · have hp : ¬ 0 < p.2.num := fun h => by rw [Int.sign_eq_one_of_pos h] at h3; simp at h3
    refine ⟨fun h4 => ?_, fun h4 => ?_⟩
    · have hn : p.2.num < 0 := by
        rcases Int.lt_trichotomy p.2.num 0 with h | h | h
        · exact h
        · rw [h] at h4; simp at h4
        · exact absurd h hp
      rw [if_neg (by omega), if_pos hn] at K
      refine TextQ_spec X.a (by omega) fun h5 e5 => ⟨by omega, NegQ_spec (X.ext e5).b fun r h6 hr _ e6 => TextQ_spec hr (by rw [neg_sz]; omega) fun h7 e7 => ⟨?_, ?_, K h7 (e12.trans (e5.trans (e6.trans e7)))⟩⟩
      · rw [ByteArray.size_append]; omega
      · rw [ByteArray.size_append, ByteArray.size_append]; omega
    · have hz : p.2.num = 0 := by
        rcases Int.lt_trichotomy p.2.num 0 with h | h | h
        · rw [Int.sign_eq_neg_one_of_neg h] at h4; simp at h4
        · exact h
        · exact absurd h hp
      rw [if_pos hz] at K
      exact TextQ_spec X.a (by omega) fun h5 e5 => K h5 (e12.trans e5)
theorem TextDD_spec {Q : ByteArray → Heap → Prop} (hx : DD h x p) (hs : szD p ≤ 2000) (K : ∀ h', Ext h h' → Q (tD p) h') : ref03uText x h Q := by
  unfold szD at hs
  have t1 := tQ_size p.1; have t2 := tQ_size p.2; have t3 := tQ_size (-p.2)
  rw [neg_sz] at t3
  have s1 : (ByteArray.mk #[45]).size = 1 := rfl
  have s2 : (ByteArray.mk #[43]).size = 1 := rfl
  have s3 : (ByteArray.mk #[100]).size = 1 := rfl
  unfold tD at K
  refine mem_ext fun h1 e1 => TextDQ_spec (hx.ext e1).a (by omega) fun h2 e2 => ?_
  have e12 := e1.trans e2
  have X := hx.ext e12
  have hl := hx.b.num.len_zero
  refine ⟨fun h3 => ?_, fun h3 => ?_⟩
  · simp only [beq_iff_eq] at h3
    have h4 : x.2.2.2.2.1.len = 0 := by omega
    have : p.2.num.natAbs = 0 := hl.1 h4
    rw [if_pos (by omega)] at K
    exact K h2 e12
  · have hz : p.2.num ≠ 0 := fun h0 => by
      have := hl.2 (by omega)
      have h4 : x.2.2.2.2.1.len = 0 := this
      simp [h4] at h3
    rw [if_neg hz] at K
    have hneg : x.2.2.2.1 = decide (p.2.num < 0) := hx.b.neg
    refine ⟨fun h4 => ?_, fun h4 => ?_⟩
    · rw [hneg, decide_eq_true_eq] at h4
      rw [if_pos h4] at K
      refine ⟨by omega, NegD_spec X.b fun r h6 hr e6 => TextDQ_spec hr (by rw [neg_sz]; omega) fun h7 e7 => ⟨?_, ?_, K h7 (e12.trans (e6.trans e7))⟩⟩
      · rw [ByteArray.size_append]; omega
      · rw [ByteArray.size_append, ByteArray.size_append]; omega
    · rw [hneg, decide_eq_false_iff_not] at h4
      rw [if_neg h4] at K
      refine ⟨by omega, TextDQ_spec X.b (by omega) fun h7 e7 => ⟨?_, ?_, K h7 (e12.trans e7)⟩⟩
      · rw [ByteArray.size_append]; omega
      · rw [ByteArray.size_append, ByteArray.size_append]; omega
end
end Go.Sh

namespace Go.Sh
open Go Go.Lift

def Raw3 (h : Heap) (x : X3) : Prop := ∃ xs ys, XR h x xs ys
def Raw6 (h : Heap) (x : X6) : Prop := Raw3 h (dA x) ∧ Raw3 h (dB x)
theorem Raw3.nil {h : Heap} : Raw3 h (false, Sl.nil, Sl.nil) := ⟨[], [], R.nil, Lim.nil, R.nil, Lim.nil⟩
abbrev RR6 := RS C_bool_sl_sl_bool_sl_sl 6
theorem len6 (x : X6) : (C_bool_sl_sl_bool_sl_sl x).length = 6 := rfl
/-- A right one, of few limbs. -/
def Sm (h : Heap) (x : X6) : Prop := ∃ p, DQ h x p ∧ szD p ≤ 6
def Sm3 (h : Heap) (x : X3) : Prop := ∃ p, RQ h x p ∧ szQ p ≤ 6

theorem Odd_spec {h0 h : Heap} {l : Sl} {xs : List X6} {Q : Bool → Heap → Prop} (hl : RR6 h l xs) (e0 : Ext h0 h) (hx : xs.length ≤ 1048576) (hraw : ∀ x ∈ xs, Raw6 h0 x)
    (K : ∀ b h', (b = false → ∀ x ∈ xs, Sm h0 x) → Ext h h' → Q b h') : law03uOdd l h Q := by
  have hlen := hl.len
  refine loop.inv (fun t h' => ∃ i : Nat, t = (i : Int) ∧ i ≤ xs.length ∧ (∀ x ∈ xs.take i, Sm h0 x) ∧ Ext h h') (fun t _ => xs.length - t.toNat) ⟨0, rfl, by omega, fun x hx => by simp at hx, Keep.refl _ _⟩ ?_
  rintro t h1 ⟨i, rfl, hi, hall, e1⟩
  refine ⟨fun hlt => ?_, fun hge => ?_⟩
  · simp only [decide_eq_true_eq] at hlt
    have hi' : i < xs.length := by omega
    refine RS.ld (hl.ext e1) (j := i) rfl hi' (mem_ext fun h2 e2 => ?_)
    obtain ⟨⟨xa, xb, hA⟩, ⟨ya, yb, hB⟩⟩ := hraw _ (List.getElem_mem hi')
    generalize hxi : xs[i] = x at *
    have e02 := e0.trans (e1.trans e2)
    refine seq.cut (fun t h3 => (t = false → Sm h0 x) ∧ Ext h2 h3) ?_ ?_
    · refine great2Q (x := dA x) (y := dB x) fun h3 e3 => ⟨fun _ => ⟨nofun, e3⟩, fun hb => ?_⟩
      simp only [Bool.or_eq_false_iff] at hb
      refine mem_ext fun h4 e4 => ?_
      have e24 := e3.trans e4
      refine seq.cut (fun t h5 => (t = true → Sm h0 x) ∧ Ext h2 h5) ?_ ?_
      · refine right6 hA hb.1 (e02.trans e24) fun b h5 hb5 e5 => ⟨fun hbt => ?_, fun _ => ⟨nofun, e24.trans e5⟩⟩
        refine right6 hB hb.2 (e02.trans (e24.trans e5)) fun b' h6 hb6 e6 => ⟨fun hbt' => ?_, e24.trans (e5.trans e6)⟩
        obtain ⟨p, hp, sp⟩ := hb5 hbt
        obtain ⟨q, hq, sq⟩ := hb6 hbt'
        exact ⟨(p, q), ⟨hp, hq⟩, by unfold szD; simp only; omega⟩
      · rintro t h5 ⟨ht, e5⟩
        exact ⟨fun hf => ht (by simpa using hf), e5⟩
    · rintro t h3 ⟨ht, e3⟩
      have e13 := e1.trans (e2.trans e3)
      refine ⟨fun _ => K true h3 nofun e13, fun hf => ?_⟩
      rw [w64 (by omega) (by omega)]
      refine ⟨⟨i + 1, rfl, by omega, ?_, e13⟩, by omega⟩
      intro z hz
      rw [List.take_succ_eq_append_getElem hi', hxi] at hz
      rcases List.mem_append.1 hz with hz | hz
      · exact hall z hz
      · rw [List.mem_singleton.1 hz]; exact ht hf
  · simp only [decide_eq_false_iff_not] at hge
    rw [List.take_of_length_le (by omega)] at hall
    exact K false h1 (fun _ => hall) e1

theorem sz01 {n : Int} (h : n.natAbs < 4294967296) : szQ (n : Rat) ≤ 2 := sz_int (by omega)
theorem cmpR_self (p : Rat) : cmpR p p = 0 := by
  unfold cmpR
  have : p - p = 0 := by grind
  rw [this]; rfl
theorem tQ_int (n : Int) : tQ (n : Rat) = if n < 0 then ByteArray.mk #[45] ++ tN n.natAbs else tN n.natAbs := by
  unfold tQ
  rw [rat_int_num, rat_int_den, if_pos rfl, append_empty]
theorem dg_one : dg 1 = [1] := (dg_eq (by intro z hz; simp at hz; omega) (by simp [Nrm]) (by decide)).symm

theorem speaks3uspec {h : Heap} {Q : Bool → Heap → Prop} (K : ∀ h', Ext h h' → Q true h') : law03uspeaks h Q := by
  refine OfQ (by decide) (by decide) fun r1 h1 hr1 _ e1 => OfQ (by decide) (by decide) fun r2 h2 hr2 _ e2 => mem_ext fun h3 e3 => ?_
  have hx : DQ h3 (r1.1, r1.2.1, r1.2.2, r2.1, r2.2.1, r2.2.2) (((1 : Int) : Rat), ((-1 : Int) : Rat)) := ⟨(hr1.ext e2).ext e3, hr2.ext e3⟩
  have s1 := sz01 (n := 1) (by decide)
  have s2 := sz01 (n := -1) (by decide)
  have s0 : szQ 0 = 0 := by unfold szQ; rw [show dn 0 = 0 from rfl]; show max (nl 0) (nl 0) = 0; rw [nl_zero]; rfl
  have e03 := e1.trans (e2.trans e3)
  refine seq.cut (fun t h4 => t = true ∧ Ext h3 h4) ?_ ?_
  · refine OfQ (by decide) (by decide) fun r4 h4 hr4 _ e4 => DOf_spec hr4 fun h5 hy e5 => ?_
    refine CmpE_spec (p := (((1 : Int) : Rat), ((-1 : Int) : Rat))) (q := (((1 : Int) : Rat), 0)) ((hx.ext e4).ext e5) hy (by unfold szD; simp only; omega) ?_ fun h6 e6 => ?_
    · obtain ⟨xs, ys, hX, v1, _⟩ := hr4.xr
      have hne : xs ≠ [] := by
        rintro rfl
        rw [rat_int_num] at v1; simp [val] at v1
      have hs := e5.size
      have ha : ∃ a, r4.2.1.a = some a := by
        cases h : r4.2.1.a with
        | some a => exact ⟨a, rfl⟩
        | none =>
          exfalso
          have := hX.num.cells
          rw [h] at this
          simp only [cellsO?, Option.some.injEq] at this
          exact hne (List.map_eq_nil_iff.1 this.symm)
      obtain ⟨a, ha⟩ := ha
      have := R.lt hX.num ha hne
      omega
    · have hc : cmpD (((1 : Int) : Rat), ((-1 : Int) : Rat)) (((1 : Int) : Rat), 0) = -1 := by
        unfold cmpD
        simp only
        rw [cmpR_self, if_pos rfl]
        unfold cmpR
        have : ((-1 : Int) : Rat) - 0 = ((-1 : Int) : Rat) := by grind
        rw [this, rat_int_num]; rfl
      rw [hc]
      refine ⟨fun _ => ?_, fun hn => by simp at hn⟩
      have e46 := e4.trans (e5.trans e6)
      refine TextE_spec (hx.ext e46) (by unfold szD; simp only; omega) fun h7 e7 => ⟨?_, e46.trans e7⟩
      have ht : tD (((1 : Int) : Rat), ((-1 : Int) : Rat)) = ByteArray.mk #[49, 45, 49, 100] := by
        unfold tD
        simp only
        rw [rat_int_num, if_neg (by decide), if_pos (by decide), tQ_int]
        have h1 : -(((-1 : Int)) : Rat) = ((1 : Int) : Rat) := by grind
        rw [h1, tQ_int, if_neg (by decide)]
        unfold tN
        show ((bytesOf (strDig (dg 1)) ++ ByteArray.mk #[45]) ++ bytesOf (strDig (dg 1))) ++ ByteArray.mk #[100] = _
        rw [dg_one]; rfl
      rw [ht]; simp
  · rintro t h4 ⟨rfl, e4⟩
    exact K h4 (e03.trans e4)

/-- Is an answer the document's, as far as a bench lets it be? What is behind it. -/
theorem toldTailD {lim : Nat} {L : Int} {a : Addr} {ov : Bool} {x y : X6} {p : Rat × Rat} {h : Heap} {Q : Bool → Heap → Prop} (hL : L = (lim : Int)) (hb : Bench h a lim ov) (hov : ov = decide (lim < szD p)) (hx : DQ h x (valD ov p)) (hy : DQ h y p) (K : ∀ h', Ext h h' → Q true h') :
   seq (fun (K0u1 : Bool → Heap → Prop) =>
    ref02uFits (y.1, y.2.1, y.2.2.1) L h fun v_17 h0u37 =>
    iteB (!v_17) (
     K0u1 true h0u37
    ) (
     ref02uFits (y.2.2.2.1, y.2.2.2.2.1, y.2.2.2.2.2) L h0u37 fun v_18 h0u38 =>
     K0u1 (!v_18) h0u38
    )
   ) (fun t0u1 h0u36 =>
    iteB t0u1 (
     seq (fun (K0u2 : Bool → Heap → Prop) =>
      nat_Bench_Over (some a) h0u36 fun v_19 h0u40 =>
      iteB v_19 (
       ref03uSame (x.1, x.2.1, x.2.2.1, x.2.2.2.1, x.2.2.2.2.1, x.2.2.2.2.2) (false, Sl.nil, Sl.nil, false, Sl.nil, Sl.nil) h0u40 fun v_20 h0u41 =>
       K0u2 v_20 h0u41
      ) (
       K0u2 false h0u40
      )
     ) (fun t0u2 h0u39 =>
      Q t0u2 h0u39
     )
    ) (
     seq (fun (K0u3 : Bool → Heap → Prop) =>
      nat_Bench_Over (some a) h0u36 fun v_21 h0u43 =>
      iteB (!v_21) (
       ref03uSame (x.1, x.2.1, x.2.2.1, x.2.2.2.1, x.2.2.2.2.1, x.2.2.2.2.2) (y.1, y.2.1, y.2.2.1, y.2.2.2.1, y.2.2.2.2.1, y.2.2.2.2.2) h0u43 fun v_22 h0u44 =>
       K0u3 v_22 h0u44
      ) (
       K0u3 false h0u43
      )
     ) (fun t0u3 h0u42 =>
      Q t0u3 h0u42
     )
    )) := by
  refine seq.cut (fun t h1 => t = decide (lim < szD p) ∧ Ext h h1) ?_ ?_
  · refine Fits_spec hy.a hL fun h1 e1 => ⟨fun hn => ?_, fun hn => ?_⟩
    · simp only [Bool.not_eq_true', decide_eq_false_iff_not] at hn
      refine ⟨?_, e1⟩
      symm; rw [decide_eq_true_eq]; unfold szD; omega
    · simp only [Bool.not_eq_false', decide_eq_true_eq] at hn
      refine Fits_spec (hy.ext e1).b hL fun h2 e2 => ⟨?_, e1.trans e2⟩
      rw [← decide_not, decide_eq_decide]; unfold szD; omega
  · rintro t h1 ⟨rfl, e1⟩
    rw [← hov]
    refine ⟨fun ho => ?_, fun ho => ?_⟩
    · refine seq.cut (fun t h2 => t = true ∧ Ext h1 h2) (Over_spec (hb.ext e1) ⟨fun _ => ?_, fun hn => by rw [ho] at hn; cases hn⟩) ?_
      · refine SameE_spec (hx.ext e1) DQ.zero fun h2 e2 => ⟨?_, e2⟩
        rw [ho]; simp [valD]
      · rintro t h2 ⟨rfl, e2⟩; exact K h2 (e1.trans e2)
    · refine seq.cut (fun t h2 => t = true ∧ Ext h1 h2) (Over_spec (hb.ext e1) ⟨fun _ => ?_, fun hn => by rw [ho] at hn; cases hn⟩) ?_
      · refine SameE_spec (hx.ext e1) (hy.ext e1) fun h2 e2 => ⟨?_, e2⟩
        rw [ho]; simp [valD]
      · rintro t h2 ⟨rfl, e2⟩; exact K h2 (e1.trans e2)

/-- A box of struct. -/
theorem new_cells {cs : List Value} {h : Heap} {k : Addr → Heap → Prop} (K : ∀ a h', cells? h' a cs.length 0 = some cs → a.block = h.size → Ext h h' → k a h') : new cs h k := by
  intro T
  refine K _ _ ?_ rfl (Ext.push _ _)
  rw [cells_new (n := cs.length) (by omega) (Nat.le_refl _)]
  simp
theorem szD_add (p q : Rat × Rat) : szD (addD p q) ≤ szD p + szD q + 2 := by
  unfold szD addD
  have := sz_add p.1 q.1; have := sz_add p.2 q.2
  simp only; omega
theorem szD_sub (p q : Rat × Rat) : szD (subD p q) ≤ szD p + szD q + 2 := by
  unfold szD subD
  have := sz_sub p.1 q.1; have := sz_sub p.2 q.2
  simp only; omega
theorem szD_sc (c : Rat) (q : Rat × Rat) : szD (scD c q) ≤ szQ c + szD q + 2 := by
  unfold szD scD
  have := sz_mul c q.1; have := sz_mul c q.2
  simp only; omega
theorem addneg (p q : Rat × Rat) : addD p (negD q) = subD p q := by
  unfold addD negD subD
  simp only [Prod.mk.injEq]
  exact ⟨by grind, by grind⟩
end Go.Sh

namespace Go.Sh
open Go Go.Lift

def toldG (f : Option Addr → Heap → (X6 → Heap → Prop) → Prop) (limbs : Int) (want : X6) (h : Heap) (Q : Bool → Heap → Prop) : Prop :=
  mem h fun h0 =>
  nat_New limbs h0 fun v h0u1 =>
  seq (fun (K0 : (Int × Bool × Sl × Sl × Bool × Sl × Sl × Bool × Sl × Sl × Bool × Sl × Sl) → Heap → Prop) =>
   mem h0u1 fun h0u3 =>
   f v h0u3 fun v_10 h0u22 =>
   mem h0u22 fun h0u23 =>
   ref03uForm (want.1, want.2.1, want.2.2.1, want.2.2.2.1, want.2.2.2.2.1, want.2.2.2.2.2) h0u23 fun v_11 h0u24 =>
   mem h0u24 fun h0u25 =>
   K0 ((if 1 > limbs then 1 else limbs), v_10.1, v_10.2.1, v_10.2.2.1, v_10.2.2.2.1, v_10.2.2.2.2.1, v_10.2.2.2.2.2, v_11.1, v_11.2.1, v_11.2.2.1, v_11.2.2.2.1, v_11.2.2.2.2.1, v_11.2.2.2.2.2) h0u25
  ) (fun t0 h0u2 =>
   seq (fun (K0u1 : Bool → Heap → Prop) =>
    ref02uFits (t0.2.2.2.2.2.2.2.1, t0.2.2.2.2.2.2.2.2.1, t0.2.2.2.2.2.2.2.2.2.1) t0.1 h0u2 fun v_17 h0u37 =>
    iteB (!v_17) (
     K0u1 true h0u37
    ) (
     ref02uFits (t0.2.2.2.2.2.2.2.2.2.2.1, t0.2.2.2.2.2.2.2.2.2.2.2.1, t0.2.2.2.2.2.2.2.2.2.2.2.2) t0.1 h0u37 fun v_18 h0u38 =>
     K0u1 (!v_18) h0u38
    )
   ) (fun t0u1 h0u36 =>
    iteB t0u1 (
     seq (fun (K0u2 : Bool → Heap → Prop) =>
      nat_Bench_Over v h0u36 fun v_19 h0u40 =>
      iteB v_19 (
       ref03uSame (t0.2.1, t0.2.2.1, t0.2.2.2.1, t0.2.2.2.2.1, t0.2.2.2.2.2.1, t0.2.2.2.2.2.2.1) (false, Sl.nil, Sl.nil, false, Sl.nil, Sl.nil) h0u40 fun v_20 h0u41 =>
       K0u2 v_20 h0u41
      ) (
       K0u2 false h0u40
      )
     ) (fun t0u2 h0u39 =>
      Q t0u2 h0u39
     )
    ) (
     seq (fun (K0u3 : Bool → Heap → Prop) =>
      nat_Bench_Over v h0u36 fun v_21 h0u43 =>
      iteB (!v_21) (
       ref03uSame (t0.2.1, t0.2.2.1, t0.2.2.2.1, t0.2.2.2.2.1, t0.2.2.2.2.2.1, t0.2.2.2.2.2.2.1) (t0.2.2.2.2.2.2.2.1, t0.2.2.2.2.2.2.2.2.1, t0.2.2.2.2.2.2.2.2.2.1, t0.2.2.2.2.2.2.2.2.2.2.1, t0.2.2.2.2.2.2.2.2.2.2.2.1, t0.2.2.2.2.2.2.2.2.2.2.2.2) h0u43 fun v_22 h0u44 =>
       K0u3 v_22 h0u44
      ) (
       K0u3 false h0u43
      )
     ) (fun t0u3 h0u42 =>
      Q t0u3 h0u42
     )
    )
   )
  )

theorem toldG_spec {f : Option Addr → Heap → (X6 → Heap → Prop) → Prop} {limbs : Int} {want : X6} {p : Rat × Rat} {h : Heap} {Q : Bool → Heap → Prop} (hw : DD h want p) (hs : szD p ≤ 300)
    (hf : ∀ (a : Addr) (h' : Heap) (Q' : X6 → Heap → Prop), Bench h' a (max limbs.toNat 1) false → Ext h h' → h.size ≤ a.block →
      (∀ r h'', Bench h'' a (max limbs.toNat 1) (decide (max limbs.toNat 1 < szD p)) → Keep (some a.block) h' h'' → DF a.block h'' r (valD (decide (max limbs.toNat 1 < szD p)) p) → Q' r h'') → f (some a) h' Q')
    (K : ∀ h', Ext h h' → Q true h') : toldG f limbs want h Q := by
  refine mem_ext fun h1 e1 => New_spec fun a h2 hb2 hab e2 => ?_
  have e02 := e1.trans e2
  have hah : h.size ≤ a.block := by have := e1.size; omega
  refine seq.cut (fun t h3 => t.1 = ((max limbs.toNat 1 : Nat) : Int) ∧ Bench h3 a (max limbs.toNat 1) (decide (max limbs.toNat 1 < szD p)) ∧ DQ h3 (t.2.1, t.2.2.1, t.2.2.2.1, t.2.2.2.2.1, t.2.2.2.2.2.1, t.2.2.2.2.2.2.1) (valD (decide (max limbs.toNat 1 < szD p)) p) ∧ DQ h3 t.2.2.2.2.2.2.2 p ∧ Ext h h3) ?_ ?_
  · refine mem_ext fun h3 e3 => ?_
    have e03 := e02.trans e3
    refine hf a h3 _ (hb2.ext e3) e03 hah fun r h4 hb4 k4 hr4 => mem_ext fun h5 e5 => ?_
    have e05 := (e03.fresh hah k4).trans e5
    refine FormDD_spec (hw.ext e05) (by omega) fun v h6 hv e6 => mem_ext fun h7 e7 => ?_
    have e47 := e5.trans (e6.trans e7)
    exact ⟨lim_eq limbs, hb4.ext e47, (hr4.ext e47).dq, hv.ext e7, e05.trans (e6.trans e7)⟩
  · rintro ⟨L, x1, x2, x3, x4, x5, x6, y⟩ h3 ⟨hL, hb3, hx3, hy3, e03⟩
    exact toldTailD hL hb3 rfl hx3 hy3 fun h4 e4 => K h4 (e03.trans e4)
end Go.Sh

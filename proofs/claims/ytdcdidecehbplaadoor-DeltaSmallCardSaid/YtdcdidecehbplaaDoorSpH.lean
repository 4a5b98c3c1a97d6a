/-
  Laws that the proof of this claim's statement leans on, each proved under the conditions that it states.
-/
import Derived.Test.YtdcdidecehbplaaDoorSpF
set_option linter.unusedVariables false
set_option linter.unusedSimpArgs false
namespace Go.Sh
open Go Go.Lift

abbrev X12 := Bool × Sl × Sl × Bool × Sl × Sl × Bool × Sl × Sl × Bool × Sl × Sl
abbrev C12 := C_bool_sl_sl_bool_sl_sl_bool_sl_sl_bool_sl_sl
abbrev p1 (x : X12) : X6 := (x.1, x.2.1, x.2.2.1, x.2.2.2.1, x.2.2.2.2.1, x.2.2.2.2.2.1)
abbrev p2 (x : X12) : X6 := (x.2.2.2.2.2.2.1, x.2.2.2.2.2.2.2.1, x.2.2.2.2.2.2.2.2.1, x.2.2.2.2.2.2.2.2.2.1, x.2.2.2.2.2.2.2.2.2.2.1, x.2.2.2.2.2.2.2.2.2.2.2)
abbrev RR12 := RS C12 12
theorem len12 (x : X12) : (C12 x).length = 12 := rfl

theorem RS.at {α : Type} {toC : α → List Value} {sz : Nat} {h : Heap} {s : Sl} {xs : List α} {i : Int} {j : Nat} {k : Addr → Prop} (hr : RS toC sz h s xs) (hij : i = (j : Int)) (hj : j < xs.length) (K : ∀ a, cells? h a sz 0 = some (toC xs[j]) → k a) : idxS s i sz k := by
  subst hij
  obtain ⟨a, ha, hc⟩ := hr.cells j hj
  have := hr.len
  exact ⟨a, ha, ⟨by omega, by omega⟩, K _ (by simpa using hc)⟩
theorem cells?_sub {h : Heap} {a : Addr} {n o m : Nat} {l : List Value} (hc : cells? h a n 0 = some l) (hm : o + m ≤ n) : cells? h (a.add o) m 0 = some ((l.drop o).take m) := by
  have hl := cells?_length _ _ _ hc
  have h2 := cells?_mk (h := h) (a := a.add o) ((l.drop o).take m) 0 fun j hj => ?_
  · have h3 : ((l.drop o).take m).length = m := by simp; omega
    rwa [h3] at h2
  simp only [List.length_take, List.length_drop] at hj
  have h3 := cells?_get _ _ _ hc (o + j) (by omega)
  rw [addr_add_add]
  rw [show o + (0 + j) = 0 + (o + j) by omega, h3]
  simp
theorem cells?_sub2 {h : Heap} {a : Addr} {n o o2 m : Nat} {l : List Value} (hc : cells? h a n 0 = some l) (hm : o + o2 + m ≤ n) : cells? h ((a.add o).add o2) m 0 = some ((l.drop (o + o2)).take m) := by
  rw [addr_add_add]; exact cells?_sub hc hm

structure Prs (h : Heap) (xs : List X12) (qs : List PP) : Prop where
  len : xs.length = qs.length
  get : ∀ k (h1 : k < xs.length) (h2 : k < qs.length), DQ h (p1 xs[k]) qs[k].1 ∧ DQ h (p2 xs[k]) qs[k].2
structure Prd (h : Heap) (xs : List X12) (qs : List PP) : Prop where
  len : xs.length = qs.length
  get : ∀ k (h1 : k < xs.length) (h2 : k < qs.length), DD h (p1 xs[k]) qs[k].1 ∧ DD h (p2 xs[k]) qs[k].2
def Few (qs : List PP) : Prop := ∀ q ∈ qs, szD q.1 ≤ 6 ∧ szD q.2 ≤ 6
theorem Few.take {qs : List PP} (h : Few qs) (k : Nat) : Few (qs.take k) := fun q hq => h q (List.mem_of_mem_take hq)
theorem Prd.ext {h h' : Heap} {xs : List X12} {qs : List PP} (hp : Prd h xs qs) (e : Ext h h') : Prd h' xs qs := ⟨hp.len, fun k h1 h2 => ⟨(hp.get k h1 h2).1.ext e, (hp.get k h1 h2).2.ext e⟩⟩
theorem Prs.ext {h h' : Heap} {xs : List X12} {qs : List PP} (hp : Prs h xs qs) (e : Ext h h') : Prs h' xs qs := ⟨hp.len, fun k h1 h2 => ⟨(hp.get k h1 h2).1.ext e, (hp.get k h1 h2).2.ext e⟩⟩

theorem turnAt_sz {p : PP} (ht : turns p) (h1 : szD p.1 ≤ 6) (h2 : szD p.2 ≤ 6) : szQ (turnAt p) ≤ 31 := by
  unfold turnAt
  unfold szD at h1 h2
  have := sz_sub p.2.1 p.1.1; have := sz_sub p.1.2 p.2.2
  have := sz_div (p.2.1 - p.1.1) (p.1.2 - p.2.2) (by have := ht.2; grind)
  omega
theorem one_sz : szQ ((1 : Int) : Rat) ≤ 2 := sz_int (by decide)
theorem foldS_sz {qs : List PP} (hq : Few qs) : ∀ (l : Rat), szQ l ≤ 31 → szQ (qs.foldl stepS l) ≤ 31 := by
  induction qs with
  | nil => intro l hl; exact hl
  | cons q qs ih =>
    intro l hl
    refine ih (fun q' hq' => hq q' (List.mem_cons_of_mem _ hq')) _ ?_
    unfold stepS; split
    · rename_i ht; split
      · exact turnAt_sz ht (hq q (by simp)).1 (hq q (by simp)).2
      · exact hl
    · exact hl
theorem least_sz {qs : List PP} (hq : Few qs) : szQ (least qs) ≤ 31 := foldS_sz hq 1 (by have := one_sz; simp at this; omega)
theorem least_take {qs : List PP} {k : Nat} (hk : k < qs.length) : least (qs.take (k + 1)) = stepS (least (qs.take k)) qs[k] := by
  rw [List.take_succ_eq_append_getElem hk, least_append]

theorem Small_spec {h0 h : Heap} {a : Addr} {pairs : Sl} {xs : List X12} {qs : List PP} {Q : X3 → Heap → Prop} (hv : BB h0 a 1000 h) (hp : RR12 h0 pairs xs) (hq : Prs h0 xs qs) (hf : Few qs) (hx : xs.length ≤ 1048576)
    (K : ∀ r h', BB h0 a 1000 h' → Keep (some a.block) h h' → RF a.block h' r (least qs) → Q r h') : delta_Small (some a) pairs h Q := by
  have hlen := hp.len
  have hql := hq.len
  refine mem_ext fun h1 e1 => OfQ (n := 1) (by decide) (by decide) fun r1 h2 hr1 f1 e2 => mem_ext fun h3 e3 => ?_
  have v1 := hv.of_ext e1
  have v3 := (v1.of_ext e2).of_ext e3
  have hr3 : RF a.block h3 r1 (least (qs.take 0)) := by
    have : RF a.block h2 r1 ((1 : Int) : Rat) := hr1.rff f1 v1.bench.lt
    simpa [least] using this.ext e3
  refine loop.inv (fun t h' => ∃ k : Nat, t.1 = (k : Int) ∧ k ≤ xs.length ∧ BB h0 a 1000 h' ∧ Keep (some a.block) h h' ∧ RF a.block h' (t.2.1, t.2.2.1, t.2.2.2) (least (qs.take k))) (fun t _ => xs.length - t.1.toNat) ⟨0, rfl, by omega, v3, Keep.of_ext (e1.trans (e2.trans e3)), hr3⟩ ?_
  rintro ⟨i, l⟩ h4 ⟨k, rfl, hk, v4, k4, hl⟩
  simp only at hl
  refine ⟨fun hlt => ?_, fun hge => ?_⟩
  · simp only [decide_eq_true_eq] at hlt
    have hk' : k < xs.length := by omega
    have hkq : k < qs.length := by omega
    have D := hq.get k hk' hkq
    have F := hf qs[k] (List.getElem_mem hkq)
    have F1 := F.1; have F2 := F.2
    have hls := least_sz (hf.take k)
    refine seq.cut (fun t h5 => BB h0 a 1000 h5 ∧ Keep (some a.block) h h5 ∧ RF a.block h5 t (least (qs.take (k + 1)))) ?_ ?_
    · refine (RS.ext hp v4.ext).ld (i := (k : Int)) (j := k) rfl hk' ?_
      rw [least_take hkq]
      generalize xs[k] = x at *
      generalize qs[k] = q at *
      refine mem_ext fun h5 e5 => ?_
      have v5 := v4.of_ext e5
      refine seq.cut (fun t h6 => t = decide (¬ turns q) ∧ BB h0 a 1000 h6 ∧ Ext h4 h6) ?_ ?_
      · have s1 := F1; have s2 := F2; unfold szD at s1 s2
        refine CmpR_spec (D.1.ext v5.ext).a (D.2.ext v5.ext).a (by omega) v5.pos fun h6 e6 => ?_
        have v6 := v5.of_ext e6
        refine ⟨fun hc => ?_, fun hc => ?_⟩
        · simp only [ge_iff_le, decide_eq_true_eq] at hc
          refine ⟨(decide_eq_true ?_).symm, v6, e5.trans e6⟩
          rintro ⟨h7, _⟩
          rw [← cmpR_neg] at h7; omega
        · simp only [ge_iff_le, decide_eq_false_iff_not] at hc
          refine CmpR_spec (D.1.ext v6.ext).b (D.2.ext v6.ext).b (by omega) v6.pos fun h7 e7 => ⟨?_, v6.of_ext e7, e5.trans (e6.trans e7)⟩
          rw [decide_eq_decide]
          unfold turns
          rw [← cmpR_neg (p := q.1.1), ← cmpR_pos (p := q.1.2)]
          omega
      rintro t h6 ⟨rfl, v6, e46⟩
      refine ⟨fun ht => ?_, fun ht => ?_⟩
      · simp only [decide_eq_true_eq] at ht
        refine ⟨v6, k4.trans (Keep.of_ext e46), ?_⟩
        unfold stepS; rw [if_neg ht]
        exact hl.ext e46
      · simp only [decide_eq_false_iff_not, Classical.not_not] at ht
        have s1 := F1; have s2 := F2; unfold szD at s1 s2
        have hts := turnAt_sz ht F1 F2
        have hd0 : q.1.2 - q.2.2 ≠ 0 := by have := ht.2; grind
        have n1 := sz_sub q.2.1 q.1.1; have n2 := sz_sub q.1.2 q.2.2
        refine seq.cut (fun t h7 => BB h0 a 1000 h7 ∧ Keep (some a.block) h6 h7 ∧ RF a.block h7 t (turnAt q)) ?_ ?_
        · refine mem_ext fun h7 e7 => ?_
          have v7 := v6.of_ext e7
          refine subRB v7 (D.2.df v7.ext v7.old).a (D.1.df v7.ext v7.old).a (by omega) (by omega) fun r h8 v8 k8 R8 => mem_ext fun h9 e9 => ?_
          have v9 := v8.of_ext e9
          refine subRB v9 (D.1.df v9.ext v9.old).b (D.2.df v9.ext v9.old).b (by omega) (by omega) fun r' h10 v10 k10 R10 => mem_ext fun h11 e11 => ?_
          have v11 := v10.of_ext e11
          refine divRB v11 (((R8.ext e9).keep k10).ext e11) (R10.ext e11) hd0 (by omega) (by omega) fun r'' h12 v12 k12 R12 => mem_ext fun h13 e13 => ?_
          exact ⟨v12.of_ext e13, (Keep.of_ext e7).trans (k8.trans ((Keep.of_ext e9).trans (k10.trans ((Keep.of_ext e11).trans (k12.trans (Keep.of_ext e13)))))), R12.ext e13⟩
        rintro t h7 ⟨v7, k7, R7⟩
        have hl7 := (hl.ext e46).keep k7
        refine CmpR_spec R7.rq hl7.rq (by omega) v7.pos fun h8 e8 => ?_
        have v8 := v7.of_ext e8
        have kk : Keep (some a.block) h h8 := k4.trans ((Keep.of_ext e46).trans (k7.trans (Keep.of_ext e8)))
        unfold stepS; rw [if_pos ht]
        refine ⟨fun hc => ?_, fun hc => ?_⟩
        · simp only [decide_eq_true_eq] at hc
          rw [cmpR_neg] at hc
          rw [if_pos hc]
          exact ⟨v8, kk, R7.ext e8⟩
        · simp only [decide_eq_false_iff_not] at hc
          rw [cmpR_neg] at hc
          rw [if_neg hc]
          exact ⟨v8, kk, hl7.ext e8⟩
    · rintro t h5 ⟨v5, k5, R5⟩
      refine ⟨⟨k + 1, ?_, by omega, v5, k5, R5⟩, ?_⟩
      · rw [w64 (by omega) (by omega)]; omega
      · simp only; rw [w64 (by omega) (by omega)]; omega
  · simp only [decide_eq_false_iff_not] at hge
    have hk' : k = qs.length := by omega
    rw [hk', List.take_length] at hl
    exact Over_spec v4.bench ⟨nofun, fun _ => K _ h4 v4 k4 hl⟩

theorem SmallD_spec {h : Heap} {pairs : Sl} {xs : List X12} {qs : List PP} {Q : X3 → Heap → Prop} (hp : RR12 h pairs xs) (hq : Prd h xs qs) (hf : Few qs) (hx : xs.length ≤ 1048576)
    (K : ∀ r h', RD h' r (least qs) → Ext h h' → Q r h') : ref03uSmall pairs h Q := by
  have hlen := hp.len
  have hql := hq.len
  refine mem_ext fun h1 e1 => Int_spec (n := 1) (by decide) fun r1 h2 hr1 e2 => mem_ext fun h3 e3 => ?_
  have hr3 : RD h3 r1 (least (qs.take 0)) := by simpa [least] using hr1.ext e3
  refine loop.inv (fun t h' => ∃ k : Nat, t.1 = (k : Int) ∧ k ≤ xs.length ∧ Ext h h' ∧ RD h' (t.2.1, t.2.2.1, t.2.2.2) (least (qs.take k))) (fun t _ => xs.length - t.1.toNat) ⟨0, rfl, by omega, e1.trans (e2.trans e3), hr3⟩ ?_
  rintro ⟨i, l⟩ h4 ⟨k, rfl, hk, e4, hl⟩
  simp only at hl
  refine ⟨fun hlt => ?_, fun hge => ?_⟩
  · simp only [decide_eq_true_eq] at hlt
    have hk' : k < xs.length := by omega
    have hkq : k < qs.length := by omega
    have D := hq.get k hk' hkq
    have F := hf qs[k] (List.getElem_mem hkq)
    have F1 := F.1; have F2 := F.2
    have hls := least_sz (hf.take k)
    have AT : ∀ {h' : Heap} {i : Int} {kk : Addr → Prop}, Ext h h' → i = (k : Int) → (∀ a, cells? h' a 12 0 = some (C12 xs[k]) → kk a) → idxS pairs i 12 kk := fun e hi K' => (RS.ext hp e).at hi hk' K'
    refine seq.cut (fun t h5 => Ext h h5 ∧ RD h5 t (least (qs.take (k + 1)))) ?_ ?_
    · rw [least_take hkq]
      generalize xs[k] = x at *
      generalize qs[k] = q at *
      have s1 := F1; have s2 := F2; unfold szD at s1 s2
      have nn1 := neg_sz q.1.1; have nn2 := neg_sz q.2.2
      have n1 := sz_add q.2.1 (-q.1.1); have n2 := sz_add q.1.2 (-q.2.2)
      refine seq.cut (fun t h5 => Ext h h5 ∧ RD h5 t (q.2.1 + -q.1.1) ∧ Ext h4 h5) ?_ ?_
      · refine AT e4 rfl fun a1 c1 => ⟨by decide, dA (p2 x), cells?_sub2 c1 (by decide), AT e4 rfl fun a2 c2 => ⟨by decide, dA (p1 x), cells?_sub2 c2 (by decide), mem_ext fun h5 e5 => ?_⟩⟩
        refine NegD_spec ((D.1.ext e4).ext e5).a fun r h6 hr6 e6 => ⟨cells_ext (e5.trans e6) (cells?_sub2 c1 (by decide)), mem_ext fun h7 e7 => ?_⟩
        refine AddD_spec (((D.2.ext e4).ext e5).ext (e6.trans e7)).a (hr6.ext e7) (by omega) fun r' h8 hr8 e8 => mem_ext fun h9 e9 => ?_
        have e49 := e5.trans (e6.trans (e7.trans (e8.trans e9)))
        exact ⟨e4.trans e49, hr8.ext e9, e49⟩
      rintro up h5 ⟨e5, U, e45⟩
      refine seq.cut (fun t h6 => Ext h h6 ∧ RD h6 t (q.1.2 + -q.2.2) ∧ Ext h5 h6) ?_ ?_
      · refine AT e5 rfl fun a1 c1 => ⟨by decide, dB (p1 x), cells?_sub2 c1 (by decide), AT e5 rfl fun a2 c2 => ⟨by decide, dB (p2 x), cells?_sub2 c2 (by decide), mem_ext fun h6 e6 => ?_⟩⟩
        refine NegD_spec ((D.2.ext e5).ext e6).b fun r h7 hr7 e7 => ⟨cells_ext (e6.trans e7) (cells?_sub2 c1 (by decide)), mem_ext fun h8 e8 => ?_⟩
        refine AddD_spec (((D.1.ext e5).ext e6).ext (e7.trans e8)).b (hr7.ext e8) (by omega) fun r' h9 hr9 e9 => mem_ext fun h10 e10 => ?_
        have e510 := e6.trans (e7.trans (e8.trans (e9.trans e10)))
        exact ⟨e5.trans e510, hr9.ext e10, e510⟩
      rintro down h6 ⟨e6, W, e56⟩
      refine Int_spec (n := 0) (by decide) fun z h7 hz e7 => mem_ext fun h8 e8 => ?_
      have hz8 : RD h8 z 0 := by simpa using hz.ext e8
      have z0 : szQ (0 : Rat) ≤ 2 := by have := sz_int (n := 0) (by decide); simpa using this
      have U8 := ((U.ext e56).ext e7).ext e8
      have W8 := (W.ext e7).ext e8
      have l8 := (((hl.ext e45).ext e56).ext e7).ext e8
      have e08 := e6.trans (e7.trans e8)
      refine seq.cut (fun t h9 => t = decide (turns q) ∧ Ext h8 h9) ?_ ?_
      · refine CmpD_spec U8 hz8 (by omega) fun h9 e9 => ?_
        rw [cmpR_zero']
        refine ⟨fun hc => ?_, fun hc => ?_⟩
        · simp only [gt_iff_lt, decide_eq_true_eq] at hc
          refine CmpD_spec (W8.ext e9) (hz8.ext e9) (by omega) fun h10 e10 => ⟨?_, e9.trans e10⟩
          rw [cmpR_zero', decide_eq_decide]
          unfold turns
          rw [gt_iff_lt, cmpR_pos]
          rw [cmpR_pos] at hc
          exact ⟨fun h => ⟨hc, h⟩, fun h => h.2⟩
        · simp only [gt_iff_lt, decide_eq_false_iff_not] at hc
          refine ⟨(decide_eq_false ?_).symm, e9⟩
          rintro ⟨h10, _⟩
          rw [cmpR_pos] at hc
          exact hc h10
      rintro t h9 ⟨rfl, e89⟩
      have eq1 : turnAt q = (q.2.1 + -q.1.1) / (q.1.2 + -q.2.2) := by unfold turnAt; rw [← Rat.sub_eq_add_neg, ← Rat.sub_eq_add_neg]
      refine ⟨fun ht => ?_, fun ht => ?_⟩
      · simp only [decide_eq_true_eq] at ht
        have hts := turnAt_sz ht F1 F2
        refine DivD_spec (U8.ext e89) (W8.ext e89) (by omega) fun d h10 hd e10 => mem_ext fun h11 e11 => ?_
        rw [← eq1] at hd
        refine CmpD_spec (hd.ext e11) (((l8.ext e89).ext e10).ext e11) (by omega) fun h12 e12 => ?_
        have ee := e08.trans (e89.trans (e10.trans (e11.trans e12)))
        unfold stepS; rw [if_pos ht]
        refine ⟨fun hc => ?_, fun hc => ?_⟩
        · simp only [decide_eq_true_eq] at hc
          rw [cmpR_neg] at hc
          rw [if_pos hc]
          exact ⟨ee, (hd.ext e11).ext e12⟩
        · simp only [decide_eq_false_iff_not] at hc
          rw [cmpR_neg] at hc
          rw [if_neg hc]
          exact ⟨ee, (((l8.ext e89).ext e10).ext e11).ext e12⟩
      · simp only [decide_eq_false_iff_not] at ht
        unfold stepS; rw [if_neg ht]
        exact ⟨e08.trans e89, l8.ext e89⟩
    · rintro t h5 ⟨e5, R5⟩
      rintro _ rfl
      refine ⟨⟨k + 1, ?_, by omega, e5, R5⟩, ?_⟩
      · rw [w64 (by omega) (by omega)]; omega
      · simp only; rw [w64 (by omega) (by omega)]; omega
  · simp only [decide_eq_false_iff_not] at hge
    have hk' : k = qs.length := by omega
    rw [hk', List.take_length] at hl
    exact K _ h4 hl e4

theorem AtQ_spec {h0 h : Heap} {a : Addr} {x : X6} {p : Rat × Rat} {d : X3} {e : Rat} {Q : X3 → Heap → Prop} (hv : BB h0 a 1000 h) (hx : DF a.block h x p) (hd : RF a.block h d e) (s1 : szD p ≤ 50) (s2 : szQ e ≤ 50)
    (K : ∀ r h', BB h0 a 1000 h' → Keep (some a.block) h h' → RF a.block h' r (p.1 + p.2 * e) → Q r h') : delta_At (some a) x d h Q := by
  unfold szD at s1
  have n1 := sz_mul p.2 e
  refine mem_ext fun h1 e1 => mulRB (hv.of_ext e1) (hx.ext e1).b (hd.ext e1) (by omega) (by omega) fun r h2 v2 k2 R2 => ?_
  refine addRB v2 ((hx.ext e1).keep k2).a R2 (by omega) (by omega) fun r' h3 v3 k3 R3 => K _ h3 v3 ((Keep.of_ext e1).trans (k2.trans k3)) R3
theorem AtD_spec {h : Heap} {x : X6} {p : Rat × Rat} {d : X3} {e : Rat} {Q : X3 → Heap → Prop} (hx : DD h x p) (hd : RD h d e) (s1 : szD p ≤ 50) (s2 : szQ e ≤ 50)
    (K : ∀ r h', RD h' r (p.1 + p.2 * e) → Ext h h' → Q r h') : ref03uAt x d h Q := by
  unfold szD at s1
  have n1 := sz_mul p.2 e
  refine mem_ext fun h1 e1 => MulD_spec (hx.ext e1).b (hd.ext e1) (by omega) fun r h2 R2 e2 => ?_
  refine AddD_spec ((hx.ext e1).ext e2).a R2 (by omega) fun r' h3 R3 e3 => K _ h3 R3 (e1.trans (e2.trans e3))
theorem At_sz {p : Rat × Rat} {e : Rat} (s1 : szD p ≤ 50) (s2 : szQ e ≤ 50) : szQ (p.1 + p.2 * e) ≤ 160 := by
  unfold szD at s1
  have n1 := sz_mul p.2 e
  have n2 := sz_add p.1 (p.2 * e)
  omega
end Go.Sh

namespace Go.Sh
open Go Go.Lift

theorem cells_keep {h h' : Heap} {o : Option Nat} (e : Keep o h h') {a : Addr} (hne : some a.block ≠ o) : ∀ {n i : Nat} {l : List Value}, cells? h a n i = some l → cells? h' a n i = some l := by
  intro n
  induction n with
  | zero => intro i l h1; exact h1
  | succ n ih =>
    intro i l h1
    simp only [cells?] at h1 ⊢
    split at h1 <;> simp at h1
    rename_i v r h2 h3
    subst h1
    have hb : (a.add i).block = a.block := by unfold Addr.add; split <;> rfl
    rw [cell_keep e h2 (by rw [hb]; exact hne), ih h3]
theorem RS.keep {α : Type} {toC : α → List Value} {sz : Nat} {h h' : Heap} {s : Sl} {xs : List α} {o : Option Nat} (hr : RS toC sz h s xs) (e : Keep o h h') (hne : ∀ a, s.a = some a → some a.block ≠ o) : RS toC sz h' s xs :=
  ⟨hr.len, fun i hi => by
    obtain ⟨a, ha, hc⟩ := hr.cells i hi
    have hb : (a.add (i * sz)).block = a.block := by unfold Addr.add; split <;> rfl
    exact ⟨a, ha, cells_keep e (by rw [hb]; exact hne a ha) hc⟩⟩

theorem part_n (part : Int) : ∃ n : Nat, 1 ≤ n ∧ n ≤ 256 ∧ IntKind.wrap .i64 ((IntKind.wrap .i64 (((BitVec.ofInt (IntKind.bits .i64) part &&& BitVec.ofInt (IntKind.bits .i64) 255).toNat : Int))) + 1) = (n : Int) := by
  have h : (BitVec.ofInt (IntKind.bits .i64) part &&& BitVec.ofInt (IntKind.bits .i64) 255).toNat ≤ 255 := by
    rw [BitVec.toNat_and]
    exact Nat.le_trans Nat.and_le_right (by decide)
  refine ⟨(BitVec.ofInt (IntKind.bits .i64) part &&& BitVec.ofInt (IntKind.bits .i64) 255).toNat + 1, by omega, by omega, ?_⟩
  generalize (BitVec.ofInt (IntKind.bits .i64) part &&& BitVec.ofInt (IntKind.bits .i64) 255).toNat = m at *
  rw [w64 (n := (m : Int)) (by omega) (by omega), w64 (by omega) (by omega)]
  omega

theorem div_le_self' {l : Rat} {n : Nat} (hl : 0 < l) (hn : 1 ≤ n) : 0 < l / ((n : Int) : Rat) ∧ l / ((n : Int) : Rat) ≤ l ∧ ((n : Int) : Rat) ≠ 0 := by
  have h1 : (1 : Rat) ≤ ((n : Int) : Rat) := by
    have : ((1 : Int) : Rat) ≤ ((n : Int) : Rat) := by rw [Rat.intCast_le_intCast]; omega
    simpa using this
  have h2 : (0 : Rat) < ((n : Int) : Rat) := by grind
  have h3 : ((n : Int) : Rat) ≠ 0 := by grind
  have h4 : 0 < l / ((n : Int) : Rat) := by
    rw [Rat.div_def]; exact Rat.mul_pos hl (Rat.inv_pos.2 h2)
  refine ⟨h4, ?_, h3⟩
  have h5 : l / ((n : Int) : Rat) * ((n : Int) : Rat) = l := Rat.div_mul_cancel h3
  have h6 : 0 ≤ l / ((n : Int) : Rat) * (((n : Int) : Rat) - 1) := Rat.mul_nonneg (by grind) (by grind)
  grind

theorem DeltaSmall_holds {pairs : Sl} {part : Int} {xs : List X12} {h : Heap} {Q : Bool → Heap → Prop} (ht : Tab h) (hp : RR12 h pairs xs) (hraw : ∀ x ∈ xs, Raw6 h (p1 x) ∧ Raw6 h (p2 x)) (K : ∀ h', Ext h h' → Q true h') : law03uDeltaSmall pairs part h Q := by
  have hlen := hp.len
  refine speaks3uspec fun h1 e1 => ⟨nofun, fun _ => ⟨fun _ => K h1 e1, fun hl20 => ?_⟩⟩
  simp only [gt_iff_lt, decide_eq_false_iff_not] at hl20
  intro T
  have e12 : Ext h1 (h1.push (.cells ([] : List Value).toArray T (0, 0))) := Ext.push _ _
  have ho := OwnS.nil (toC := C12) (sz := 12) (h := h1) (T := T) (n := 0)
  rintro _ rfl
  have hb1 : (⟨some ⟨h1.size, 0, none⟩, 0, 0⟩ : Sl).blk = some h1.size := rfl
  generalize h1.push (.cells ([] : List Value).toArray T (0, 0)) = h2 at *
  have e02 := e1.trans e12
  have hBs : h.size ≤ h1.size := e1.size
  refine loop.inv (fun t h' => ∃ (k : Nat) (ys : List X12) (qs : List PP) (b : Nat), t.2 = (k : Int) ∧ k ≤ xs.length ∧ OwnS C12 12 h1.size h' t.1 ys ∧ t.1.blk = some b ∧ ys.length = k ∧ qs.length = k ∧ Few qs ∧
    (∀ j (a1 : j < xs.length) (a2 : j < qs.length), DQ h (p1 xs[j]) qs[j].1 ∧ DQ h (p2 xs[j]) qs[j].2) ∧ (∀ j (a1 : j < ys.length) (a2 : j < qs.length), DDb b h' (p1 ys[j]) qs[j].1 ∧ DDb b h' (p2 ys[j]) qs[j].2) ∧ Ext h h')
    (fun t _ => xs.length - t.2.toNat) ⟨0, [], [], h1.size, rfl, by omega, ho, hb1, rfl, rfl, fun q hq => by simp at hq, fun j _ a2 => by simp at a2, fun j _ a2 => by simp at a2, e02⟩ ?_
  clear ho hb1
  rintro ⟨list, i⟩ h3 ⟨k, ys, qs, b, rfl, hk, ho, hb, hyl, hql, hf, hdq, hdd, e3⟩
  simp only at ho hb
  refine ⟨fun hlt => ?_, fun hge => ?_⟩
  · simp only [decide_eq_true_eq] at hlt
    have hk' : k < xs.length := by omega
    refine (RS.ext hp e3).ld (i := (k : Int)) (j := k) rfl hk' ?_
    have hrx := hraw xs[k] (List.getElem_mem hk')
    have hkeep : ∀ p q, DQ h (p1 xs[k]) p → DQ h (p2 xs[k]) q → ∀ j (a1 : j < xs.length) (a2 : j < (qs ++ [(p, q)]).length), DQ h (p1 xs[j]) (qs ++ [(p, q)])[j].1 ∧ DQ h (p2 xs[j]) (qs ++ [(p, q)])[j].2 := by
      intro p q hp1 hp2 j a1 a2
      by_cases hj : j < qs.length
      · rw [List.getElem_append_left hj]; exact hdq j a1 hj
      · have : j = k := by simp at a2; omega
        subst this
        rw [List.getElem_append_right (by omega)]
        simp only [hql, Nat.sub_self, List.getElem_cons_zero]
        exact ⟨hp1, hp2⟩
    generalize xs[k] = x at *
    refine mem_ext fun h4 e4 => newRS (xs := [p1 x, p2 x]) 2 len6 rfl rfl fun l h5 hr hl e5 => ?_
    have e05 := e3.trans (e4.trans e5)
    refine Odd_spec hr e05 (by simp) (fun z hz => by
      simp only [List.mem_cons, List.not_mem_nil, or_false] at hz
      rcases hz with rfl | rfl
      · exact hrx.1
      · exact hrx.2) fun bb h6 hbb e6 => ⟨fun _ => K h6 (e05.trans e6), fun hff => ?_⟩
    obtain ⟨p, hp1, sp⟩ := hbb hff (p1 x) (by simp)
    obtain ⟨q, hp2, sq⟩ := hbb hff (p2 x) (by simp)
    have e06 := e05.trans e6
    refine OfDDF_spec (hp1.ext e06) (by omega) fun y1 h7 hy1 f1 e7 => OfDDF_spec (hp2.ext (e06.trans e7)) (by omega) fun y2 h8 hy2 f2 e8 => ?_
    have e38 : Ext h3 h8 := e4.trans (e5.trans (e6.trans (e7.trans e8)))
    have hbs := ho.lt hb
    have sz36 : h3.size ≤ h6.size := (e4.trans (e5.trans e6)).size
    have sz67 := e7.size
    have hY1 : DDb b h8 y1 p := DDb.ext (DDb.fresh hy1 f1 (by omega)) e8
    have hY2 : DDb b h8 y2 q := DDb.fresh hy2 f2 (by omega)
    refine (ho.ext e38).append1 (x := (y1.1, y1.2.1, y1.2.2.1, y1.2.2.2.1, y1.2.2.2.2.1, y1.2.2.2.2.2, y2.1, y2.2.1, y2.2.2.1, y2.2.2.2.1, y2.2.2.2.2.1, y2.2.2.2.2.2)) len12 (by decide) rfl (by have := e38.size; omega) rfl (by omega) fun s' h9 ho9 k9 hblk => ?_
    have hall : ∀ b', ∀ (H : ∀ y p, DDb b h8 y p → DDb b' h9 y p), ∀ j (a1 : j < (ys ++ [((y1.1, y1.2.1, y1.2.2.1, y1.2.2.2.1, y1.2.2.2.2.1, y1.2.2.2.2.2, y2.1, y2.2.1, y2.2.2.1, y2.2.2.2.1, y2.2.2.2.2.1, y2.2.2.2.2.2) : X12)]).length) (a2 : j < (qs ++ [(p, q)]).length),
        DDb b' h9 (p1 (ys ++ [((y1.1, y1.2.1, y1.2.2.1, y1.2.2.2.1, y1.2.2.2.2.1, y1.2.2.2.2.2, y2.1, y2.2.1, y2.2.2.1, y2.2.2.2.1, y2.2.2.2.2.1, y2.2.2.2.2.2) : X12)])[j]) (qs ++ [(p, q)])[j].1 ∧ DDb b' h9 (p2 (ys ++ [((y1.1, y1.2.1, y1.2.2.1, y1.2.2.2.1, y1.2.2.2.2.1, y1.2.2.2.2.2, y2.1, y2.2.1, y2.2.2.1, y2.2.2.2.1, y2.2.2.2.2.1, y2.2.2.2.2.2) : X12)])[j]) (qs ++ [(p, q)])[j].2 := by
      intro b' H j a1 a2
      by_cases hj : j < k
      · rw [List.getElem_append_left (by omega), List.getElem_append_left (by omega)]
        have := hdd j (by omega) (by omega)
        exact ⟨H _ _ (this.1.ext e38), H _ _ (this.2.ext e38)⟩
      · have : j = k := by simp at a2; omega
        subst this
        rw [List.getElem_append_right (by omega), List.getElem_append_right (by omega)]
        simp only [hql, hyl, Nat.sub_self, List.getElem_cons_zero]
        exact ⟨H _ _ hY1, H _ _ hY2⟩
    have hnb : ∃ b', s'.blk = some b' := by
      obtain ⟨a, ha, _⟩ := (ho9.rs len12 (by decide)).cells k (by simp; omega)
      exact ⟨a.block, by simp [Sl.blk, ha]⟩
    obtain ⟨b', hb'⟩ := hnb
    have hk9 : Keep (some b) h8 h9 := by rw [hb] at k9; exact k9
    have hbs1 := hbs.1
    refine ⟨⟨k + 1, _, _, b', ?_, by omega, ho9, hb', by simp; omega, by simp; omega, ?_, hkeep p q hp1 hp2, ?_, (e3.trans e38).fresh (by omega) hk9⟩, ?_⟩
    · rw [w64 (by omega) (by omega)]; omega
    · intro z hz
      simp only [List.mem_append, List.mem_singleton] at hz
      rcases hz with hz | rfl
      · exact hf z hz
      · exact ⟨sp, sq⟩
    · refine hall b' fun y p hd => ?_
      have hd9 := hd.keep hk9
      rcases hblk with hs | hs
      · have : b' = b := by rw [hb', hb] at hs; cases hs; rfl
        subst this
        exact hd9
      · have h8b := hs b' hb'
        -- what was there before lies below
        have low : ∀ (s : Sl) (n : Nat), DNb b h8 s n → DNb b' h9 s n := fun s n hn => ⟨(hn.keep hk9).1, fun h0 hbb => by have := hn.1.lt h0 hbb; omega⟩
        exact ⟨⟨hd9.a.d, low _ _ hd.a.num, low _ _ hd.a.den⟩, ⟨hd9.b.d, low _ _ hd.b.num, low _ _ hd.b.den⟩⟩
    · simp only; rw [w64 (by omega) (by omega)]; omega
  · simp only [decide_eq_false_iff_not] at hge
    have hk' : k = xs.length := by omega
    subst hk'
    -- the list stands
    have tab := R.ext ht e3
    have P0 : Prs h3 xs qs := ⟨hql.symm, fun j a1 a2 => ⟨(hdq j a1 a2).1.ext e3, (hdq j a1 a2).2.ext e3⟩⟩
    have P1 : Prd h3 ys qs := ⟨by omega, fun j a1 a2 => ⟨(hdd j a1 a2).1.d, (hdd j a1 a2).2.d⟩⟩
    have hpr := RS.ext hp e3
    have hls := ho.rs len12 (by decide)
    clear hdq hdd ho
    refine New_spec fun a h4 hb4 hab e4 => ?_
    have v4 : BB h3 a 1000 h4 := ⟨tab, hb4, e4, by omega⟩
    refine Small_spec v4 hpr P0 hf (by omega) fun d h5 v5 _ hd5 => mem_ext fun h6 e6 => ?_
    have v6 := v5.of_ext e6
    have hd6 := hd5.ext e6
    have lsz := least_sz hf
    refine seq.cut (fun t h7 => t = false ∧ BB h3 a 1000 h7 ∧ RF a.block h7 d (least qs)) ?_ ?_
    · refine SmallD_spec (RS.ext hls v6.ext) (P1.ext v6.ext) hf (by omega) fun r h7 hr7 e7 => FormQ_spec hr7 (by omega) fun r' h8 hr8 e8 => ?_
      refine SameQ_spec ((hd6.ext e7).ext e8).rq hr8 fun h9 e9 => ?_
      rw [decide_eq_true rfl]
      have v9 := ((v6.of_ext e7).of_ext e8).of_ext e9
      exact ⟨nofun, fun _ => Over_spec v9.bench ⟨rfl, v9, ((hd6.ext e7).ext e8).ext e9⟩⟩
    rintro t h7 ⟨rfl, v7, hd7⟩
    refine ⟨nofun, fun _ => ?_⟩
    obtain ⟨n, n1, n2, hn⟩ := part_n part
    rw [hn]
    obtain ⟨de0, de1, de2⟩ := div_le_self' (least_pos qs) n1
    have nsz := sz_int (n := (n : Int)) (by omega)
    have dsz := sz_div (least qs) ((n : Int) : Rat) de2
    refine OfQ (n := (n : Int)) (by omega) (by omega) fun r8 h8 hr8 f8 e8 => ?_
    have v8 := v7.of_ext e8
    refine divRB v8 (hd7.ext e8) (hr8.rff f8 v7.bench.lt) de2 (by omega) (by omega) fun d2 h9 v9 k9 hd29 => ?_
    have hd9 := (hd7.ext e8).keep k9
    refine newRS (xs := [d, d2]) 2 (toC := C_bool_sl_sl) (sz := 3) (fun _ => rfl) rfl rfl fun c h10 hc10 hcb e10 => ?_
    have v10 := v9.of_ext e10
    have hcne : some c.block ≠ some a.block := by have := v9.bench.lt; rw [hcb]; intro hh; have := Option.some.inj hh; omega
    -- what stands throughout
    refine loop.inv (fun t h' => ∃ m : Nat, t = (m : Int) ∧ m ≤ 2 ∧ BB h3 a 1000 h' ∧ RS C_bool_sl_sl 3 h' ⟨some c, 2, 2⟩ [d, d2] ∧ RF a.block h' d (least qs) ∧ RF a.block h' d2 (least qs / ((n : Int) : Rat))) (fun t _ => 2 - t.toNat)
      ⟨0, rfl, by omega, v10, hc10, hd9.ext e10, hd29.ext e10⟩ ?_
    rintro i h11 ⟨m, rfl, hm, v11, hc11, hd11, hd211⟩
    refine ⟨fun hlt => ?_, fun hge => ?_⟩
    · simp only [decide_eq_true_eq] at hlt
      have hm' : m < 2 := by omega
      refine hc11.ld (i := (m : Int)) (j := m) rfl hm' ?_
      have hE : ∃ E : Rat, 0 < E ∧ E ≤ least qs ∧ szQ E ≤ 50 ∧ RF a.block h11 ([d, d2][m]) E := by
        match m, hm' with
        | 0, _ => exact ⟨_, least_pos qs, by grind, by omega, hd11⟩
        | 1, _ => exact ⟨_, de0, de1, by omega, hd211⟩
      obtain ⟨E, E0, E1, Es, hE⟩ := hE
      generalize ([d, d2][m]) = z at *
      refine mem_ext fun h12 e12 => ?_
      have v12 := v11.of_ext e12
      refine loop.inv (fun t h' => ∃ j : Nat, t = (j : Int) ∧ j ≤ xs.length ∧ BB h3 a 1000 h' ∧ RS C_bool_sl_sl 3 h' ⟨some c, 2, 2⟩ [d, d2] ∧ RF a.block h' d (least qs) ∧ RF a.block h' d2 (least qs / ((n : Int) : Rat)) ∧ RF a.block h' z E) (fun t _ => xs.length - t.toNat)
        ⟨0, rfl, by omega, v12, RS.ext hc11 e12, hd11.ext e12, hd211.ext e12, hE.ext e12⟩ ?_
      rintro i h13 ⟨j, rfl, hj, v13, hc13, hd13, hd213, hE13⟩
      refine ⟨fun hlt => ?_, fun hge => ?_⟩
      · simp only [decide_eq_true_eq] at hlt
        have hj' : j < xs.length := by omega
        have hjq : j < qs.length := by omega
        have hjy : j < ys.length := by omega
        have D0 := P0.get j hj' hjq
        have D1 := P1.get j hjy hjq
        have F := hf qs[j] (List.getElem_mem hjq)
        have hmem : qs[j] ∈ qs := List.getElem_mem hjq
        refine (RS.ext hpr v13.ext).ld (i := (j : Int)) (j := j) rfl hj' ?_
        have AT : ∀ {h' : Heap} {i : Int} {kk : Addr → Prop}, Ext h3 h' → i = (j : Int) → (∀ a, cells? h' a 12 0 = some (C12 ys[j]) → kk a) → idxS list i 12 kk := fun e hi K' => (RS.ext hls e).at hi hjy K'
        generalize xs[j] = x at *
        generalize ys[j] = y at *
        generalize qs[j] = q at *
        have F1 := F.1; have F2 := F.2
        refine mem_ext fun h14 e14 => ?_
        have v14 := v13.of_ext e14
        refine seq.cut (fun t h15 => BB h3 a 1000 h15 ∧ Keep (some a.block) h13 h15 ∧ RF a.block h15 (dA t) (q.1.1 + q.1.2 * E) ∧ RF a.block h15 (dB t) (q.2.1 + q.2.2 * E)) ?_ ?_
        · refine mem_ext fun h15 e15 => ?_
          have v15 := v14.of_ext e15
          refine AtQ_spec v15 (D0.1.df v15.ext v15.old) ((hE13.ext e14).ext e15) (by omega) Es fun r h16 v16 k16 R16 => mem_ext fun h17 e17 => ?_
          have v17 := v16.of_ext e17
          refine AtQ_spec v17 (D0.2.df v17.ext v17.old) ((((hE13.ext e14).ext e15).keep k16).ext e17) (by omega) Es fun r' h18 v18 k18 R18 => mem_ext fun h19 e19 => ?_
          exact ⟨v18.of_ext e19, (Keep.of_ext e14).trans ((Keep.of_ext e15).trans (k16.trans ((Keep.of_ext e17).trans (k18.trans (Keep.of_ext e19))))), ((R16.ext e17).keep k18).ext e19, R18.ext e19⟩
        rintro t h15 ⟨v15, k15, T1, T2⟩
        have z1 := At_sz (p := q.1) (e := E) (by omega) Es
        have z2 := At_sz (p := q.2) (e := E) (by omega) Es
        have hE15 := hE13.keep k15
        refine AT v15.ext rfl fun a1 c1 => ⟨by decide, p1 y, cells?_sub c1 (by decide), ?_⟩
        refine OfQ_spec hE15.rq (by omega) fun w h16 hw e16 => ⟨cells_ext e16 (cells?_sub c1 (by decide)), ?_⟩
        have v16 := v15.of_ext e16
        refine AtD_spec (D1.1.ext v16.ext) hw (by omega) Es fun w2 h17 hw2 e17 => FormQ_spec hw2 (by omega) fun w3 h18 hw3 e18 => ?_
        have e1518 := e16.trans (e17.trans e18)
        refine SameQ_spec (T1.ext e1518).rq hw3 fun h19 e19 => ?_
        rw [decide_eq_true rfl]
        refine ⟨nofun, fun _ => ?_⟩
        have e1519 := e1518.trans e19
        have v19 := v15.of_ext e1519
        refine seq.cut (fun t h20 => t = false ∧ Ext h15 h20) ?_ ?_
        · refine AT v19.ext rfl fun a1 c1 => ⟨by decide, p1 y, cells?_sub c1 (by decide), AT v19.ext rfl fun a2 c2 => ⟨by decide, p2 y, cells?_sub c2 (by decide), ?_⟩⟩
          refine CmpDD_spec (D1.1.ext v19.ext) (D1.2.ext v19.ext) (by omega) fun h20 e20 => ⟨fun hc => ?_, fun _ => ⟨rfl, e1519.trans e20⟩⟩
          simp only [decide_eq_true_eq] at hc
          have e1520 := e1519.trans e20
          refine OfQ_spec (T1.ext e1520).rq (by omega) fun u1 h21 hu1 e21 => OfQ_spec ((T2.ext e1520).ext e21).rq (by omega) fun u2 h22 hu2 e22 => ?_
          refine CmpD_spec (hu1.ext e22) hu2 (by omega) fun h23 e23 => ⟨decide_eq_false ?_, e1520.trans (e21.trans (e22.trans e23))⟩
          have := least_keeps hmem E0 E1 hc
          rw [gt_iff_lt, cmpR_pos]
          grind
        rintro t2 h20 ⟨rfl, e20⟩
        refine ⟨nofun, fun _ => ⟨⟨j + 1, ?_, by omega, v15.of_ext e20, RS.ext (RS.keep hc13 k15 (fun a' ha' => by cases ha'; exact hcne)) e20, (hd13.keep k15).ext e20, (hd213.keep k15).ext e20, hE15.ext e20⟩, ?_⟩⟩
        · rw [w64 (by omega) (by omega)]; omega
        · rw [w64 (by omega) (by omega)]; omega
      · refine ⟨⟨m + 1, ?_, by omega, v13, hc13, hd13, hd213⟩, ?_⟩
        · rw [w64 (by omega) (by omega)]; omega
        · rw [w64 (by omega) (by omega)]; omega
    · exact K _ (e3.trans v11.ext)
end Go.Sh

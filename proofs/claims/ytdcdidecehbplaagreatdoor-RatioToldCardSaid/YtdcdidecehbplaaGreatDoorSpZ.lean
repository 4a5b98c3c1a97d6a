/-
  Laws that the proof of this claim's statement leans on, each proved under the conditions that it states.
-/
import Derived.Test.YtdcdidecehbplaaGreatDoorSpM
set_option linter.unusedVariables false
set_option linter.unusedSimpArgs false
namespace Go.Sh
open Go Go.Lift

theorem TermDQ_spec {h : Heap} {x : Bool × Sl × Sl} {q : Rat} {Q : ByteArray → Heap → Prop} (hx : RD h x q) (hs : szQ q ≤ 2000) (K : ∀ h', Ext h h' → Q (tM q) h') : ref02uTerm x h Q := by
  have n1 := nl_num_le q; have n3 := nl_den_le q
  have t1 := tN_size n1; have t2 := tN_size n3
  have s0 : (ByteArray.mk #[46, 48]).size = 2 := rfl
  have s1 : (ByteArray.mk #[40, 47, 32]).size = 3 := rfl
  have s2 : (ByteArray.mk #[32]).size = 1 := rfl
  have s3 : (ByteArray.mk #[46, 48, 41]).size = 3 := rfl
  have s4 : (ByteArray.mk #[40, 45, 32]).size = 3 := rfl
  have s5 : (ByteArray.mk #[41]).size = 1 := rfl
  refine mem_ext fun h1 e1 => TextD_spec (hx.num.ext e1) (by omega) fun h2 e2 => ?_
  have e12 := e1.trans e2
  refine ⟨by omega, ?_⟩
  intro s hs0
  subst hs0
  have z0 : (tN q.num.natAbs ++ ByteArray.mk #[46, 48]).size ≤ 10 * szQ q + 4 := by rw [ByteArray.size_append]; omega
  have D := hx.den.ext e12
  have ld := D.len_nl n3
  refine seq.cut (fun t h3 => t = (if q.den = 1 then tN q.num.natAbs ++ ByteArray.mk #[46, 48] else ByteArray.mk #[40, 47, 32] ++ (tN q.num.natAbs ++ ByteArray.mk #[46, 48]) ++ ByteArray.mk #[32] ++ tN q.den ++ ByteArray.mk #[46, 48, 41]) ∧ Ext h2 h3) ?_ ?_
  · refine seq.cut (fun b h4 => b = decide (q.den ≠ 1) ∧ h4 = h2) ?_ ?_
    · exact isOneD (K := fun b h4 => b = decide (q.den ≠ 1) ∧ h4 = h2) D (by omega) ⟨rfl, rfl⟩
    · rintro b h4 ⟨rfl, rfl⟩
      refine ⟨fun hd => ?_, fun hd => ?_⟩
      · simp only [decide_eq_true_eq] at hd
        refine ⟨by omega, by rw [ByteArray.size_append]; omega, TextD_spec D (by omega) fun h5 e5 => ⟨?_, ?_, ?_⟩⟩
        · simp only [ByteArray.size_append] at *; omega
        · simp only [ByteArray.size_append] at *; omega
        · rintro _ rfl
          exact ⟨by rw [if_neg hd], e5⟩
      · simp only [decide_eq_false_iff_not, Classical.not_not] at hd
        exact ⟨by rw [if_pos hd], Keep.refl _ _⟩
  · rintro t h3 ⟨rfl, e3⟩
    have zs : (if q.den = 1 then tN q.num.natAbs ++ ByteArray.mk #[46, 48] else ByteArray.mk #[40, 47, 32] ++ (tN q.num.natAbs ++ ByteArray.mk #[46, 48]) ++ ByteArray.mk #[32] ++ tN q.den ++ ByteArray.mk #[46, 48, 41]).size ≤ 20 * szQ q + 30 := by
      split
      · omega
      · simp only [ByteArray.size_append] at *; omega
    refine seq.cut (fun t h4 => t = tM q ∧ h4 = h3) ?_ ?_
    · rw [hx.neg]
      refine ⟨fun hn => ?_, fun hn => ?_⟩
      · simp only [decide_eq_true_eq] at hn
        refine ⟨by omega, by rw [ByteArray.size_append]; omega, ?_⟩
        rintro _ rfl
        refine ⟨?_, rfl⟩
        unfold tM
        simp only [if_pos hn]
      · simp only [decide_eq_false_iff_not] at hn
        refine ⟨?_, rfl⟩
        unfold tM
        simp only [if_neg hn]
    · rintro t h4 ⟨rfl, rfl⟩
      exact K h4 (e12.trans e3)

theorem new3 {x : Bool × Sl × Sl} {h : Heap} {k : Addr → Heap → Prop} (K : ∀ a h', cells? h' a 3 0 = some (C_bool_sl_sl x) → Ext h h' → k a h') : new [Value.bool x.1, Sl.toV x.2.1, Sl.toV x.2.2] h k := by
  intro T
  refine K _ _ ?_ (Ext.push _ _)
  have := cells_new (h := h) (cs := C_bool_sl_sl x) (T := T) (m := 3) (i := 0) (n := 3) rfl (Nat.le_refl _)
  simpa [C_bool_sl_sl] using this

/-- A told answer. -/
def toldR (f : Option Addr → Heap → ((Bool × Sl × Sl) → Heap → Prop) → Prop) (limbs : Int) (want : Bool × Sl × Sl) (h : Heap) (Q : Bool → Heap → Prop) : Prop :=
  mem h fun h0 =>
  nat_New limbs h0 fun v h0u1 =>
  seq (fun (K0 : (Bool × Sl × Sl × Bool × Sl × Sl) → Heap → Prop) =>
   mem h0u1 fun h0u3 =>
   f v h0u3 fun v_10 h0u22 =>
   mem h0u22 fun h0u23 =>
   ref02uForm (want.1, want.2.1, want.2.2) h0u23 fun v_11 h0u24 =>
   mem h0u24 fun h0u25 =>
   K0 (v_10.1, v_10.2.1, v_10.2.2, v_11.1, v_11.2.1, v_11.2.2) h0u25
  ) (fun t0 h0u2 =>
   ref02uFits (t0.2.2.2.1, t0.2.2.2.2.1, t0.2.2.2.2.2) (if 1 > limbs then 1 else limbs) h0u2 fun v_17 h0u36 =>
   iteB (!v_17) (
    seq (fun (K0u1 : Bool → Heap → Prop) =>
     nat_Bench_Over v h0u36 fun v_18 h0u38 =>
     iteB v_18 (
      ref02uSame (t0.1, t0.2.1, t0.2.2.1) (false, Sl.nil, Sl.nil) h0u38 fun v_19 h0u39 =>
      K0u1 v_19 h0u39
     ) (
      K0u1 false h0u38
     )
    ) (fun t0u1 h0u37 =>
     Q t0u1 h0u37
    )
   ) (
    seq (fun (K0u2 : Bool → Heap → Prop) =>
     nat_Bench_Over v h0u36 fun v_20 h0u41 =>
     iteB (!v_20) (
      ref02uSame (t0.1, t0.2.1, t0.2.2.1) (t0.2.2.2.1, t0.2.2.2.2.1, t0.2.2.2.2.2) h0u41 fun v_21 h0u42 =>
      K0u2 v_21 h0u42
     ) (
      K0u2 false h0u41
     )
    ) (fun t0u2 h0u40 =>
     Q t0u2 h0u40
    )
   )
  )
theorem toldR_spec {f : Option Addr → Heap → ((Bool × Sl × Sl) → Heap → Prop) → Prop} {limbs : Int} {want : Bool × Sl × Sl} {q : Rat} {h : Heap} {Q : Bool → Heap → Prop} (hw : RD h want q) (hs : szQ q ≤ 300)
    (hf : ∀ (a : Addr) (h' : Heap) (Q' : (Bool × Sl × Sl) → Heap → Prop), Bench h' a (max limbs.toNat 1) false → Ext h h' → h.size ≤ a.block →
      (∀ r h'', Bench h'' a (max limbs.toNat 1) (decide (max limbs.toNat 1 < szQ q)) → Keep (some a.block) h' h'' → RQ h'' r (val' (decide (max limbs.toNat 1 < szQ q)) q) → Q' r h'') → f (some a) h' Q')
    (K : ∀ h', Ext h h' → Q true h') : toldR f limbs want h Q := by
  refine mem_ext fun h1 e1 => New_spec fun a h2 hb2 hab e2 => ?_
  have e02 := e1.trans e2
  have hah : h.size ≤ a.block := by have := e1.size; omega
  refine seq.cut (fun t h3 => Bench h3 a (max limbs.toNat 1) (decide (max limbs.toNat 1 < szQ q)) ∧ RQ h3 (t.1, t.2.1, t.2.2.1) (val' (decide (max limbs.toNat 1 < szQ q)) q) ∧ RQ h3 (t.2.2.2.1, t.2.2.2.2.1, t.2.2.2.2.2) q ∧ Ext h h3) ?_ ?_
  · refine mem_ext fun h3 e3 => ?_
    have e03 := e02.trans e3
    refine hf a h3 _ (hb2.ext e3) e03 hah fun r h4 hb4 k4 hr4 => mem_ext fun h5 e5 => ?_
    have e05 := (e03.fresh hah k4).trans e5
    refine FormQ_spec (hw.ext e05) (by omega) fun v h6 hv e6 => mem_ext fun h7 e7 => ?_
    have e47 := e5.trans (e6.trans e7)
    exact ⟨hb4.ext e47, hr4.ext e47, hv.ext e7, e05.trans (e6.trans e7)⟩
  · rintro t h3 ⟨hb3, hx3, hy3, e03⟩
    exact toldTail hb3 rfl hx3 hy3 fun h4 e4 => K h4 (e03.trans e4)

theorem RatioTold_holds {limbs : Int} {x y : Bool × Sl × Sl} {xs xd ys yd : List Nat} {h : Heap} {Q : Bool → Heap → Prop} (ht : Tab h) (hX : XR h x xs xd) (hY : XR h y ys yd) (K : ∀ h', Ext h h' → Q true h') : law02uRatioTold limbs x y h Q := by
  refine new3 fun cx h1 hcx e1 => new3 fun cy h2 hcy e2 => speaks2uspec (R.ext ht (e1.trans e2)) fun h3 e3 => ⟨nofun, fun _ => ?_⟩
  have e03 := e1.trans (e2.trans e3)
  have CX : ∀ {h' : Heap}, Ext h3 h' → cells? h' cx 3 0 = some (C_bool_sl_sl x) := fun e => cells_ext (e2.trans (e3.trans e)) hcx
  have CY : ∀ {h' : Heap}, Ext h3 h' → cells? h' cy 3 0 = some (C_bool_sl_sl y) := fun e => cells_ext (e3.trans e) hcy
  clear hcx hcy
  refine seq.cut (fun t h4 => (t = false → (∃ p, RQ h x p ∧ szQ p ≤ 6) ∧ (∃ q, RQ h y q ∧ szQ q ≤ 6)) ∧ Ext h3 h4) ?_ ?_
  · refine ⟨x, CX (Keep.refl _ _), y, CY (Keep.refl _ _), great2Q fun h4 e4 => ⟨fun _ => ⟨nofun, e4⟩, fun hb => ?_⟩⟩
    simp only [Bool.or_eq_false_iff] at hb
    refine ⟨x, CX e4, right6 hX hb.1 (e03.trans e4) fun b h5 hb5 e5 => ⟨fun _ => ⟨nofun, e4.trans e5⟩, fun hbt => ⟨y, CY (e4.trans e5), ?_⟩⟩⟩
    exact right6 hY hb.2 (e03.trans (e4.trans e5)) fun b' h6 hb6 e6 => ⟨fun hs => ⟨hb5 (by simpa using hbt), hb6 (by simpa using hs)⟩, e4.trans (e5.trans e6)⟩
  rintro t h4 ⟨hok, e34⟩
  have e04 := e03.trans e34
  refine ⟨fun _ => K h4 e04, fun hf => ?_⟩
  obtain ⟨⟨p, hp, sp⟩, ⟨q, hq, sq⟩⟩ := hok hf
  have hgs := ht.lt
  refine seq.cut (fun t h5 => RD h5 (t.1, t.2.1, t.2.2.1) p ∧ RD h5 (t.2.2.2.1, t.2.2.2.2.1, t.2.2.2.2.2) q ∧ Ext h4 h5) ?_ ?_
  · refine ⟨x, CX e34, y, CY e34, mem_ext fun h5 e5 => OfQ_spec (hp.ext (e04.trans e5)) (by omega) fun r h6 hr e6 => ⟨CY (e34.trans (e5.trans e6)), mem_ext fun h7 e7 => ?_⟩⟩
    have e47 := e5.trans (e6.trans e7)
    refine OfQ_spec (hq.ext (e04.trans e47)) (by omega) fun r' h8 hr' e8 => mem_ext fun h9 e9 => ?_
    exact ⟨((hr.ext e7).ext e8).ext e9, hr'.ext e9, e47.trans (e8.trans e9)⟩
  rintro ⟨a1, a2, a3, c⟩ h5 ⟨hA, hC, e45⟩
  simp only at hA hC
  have hC' : RD h5 c q := hC
  clear hC
  have e35 := e34.trans e45
  have apq := sz_add p q; have spq := sz_sub p q; have mpq := sz_mul p q
  have dpq : szQ (p / q) ≤ szQ p + szQ q + 3 := by
    by_cases h0 : q = 0
    · subst h0
      have : p / 0 = 0 := by rw [Rat.div_def]; simp
      rw [this]
      have z0 := sz_int (n := 0) (by decide)
      have z1 : szQ (0 : Rat) ≤ 2 := by simpa using z0
      omega
    · exact sz_div p q h0
  refine seq.cut (fun t h6 => t = true ∧ Ext h5 h6) ?_ ?_
  · have RF' : ∀ {h' : Heap} {a : Addr}, Ext h3 h' → h.size ≤ a.block → TB a.block h' := fun e ha => ht.tb (e03.trans e) ha
    refine AddD_spec hA hC' (by omega) fun w1 h6 hw1 e6 => ?_
    have e36 := e35.trans e6
    refine (toldR_spec (f := fun v h k => law02uRatioTold_c1 v cx cy h k) hw1 (by omega) (fun a h' Q' hb' e' ha' k' => ?_) (fun h7 e7 => ?_) : law02utold__law02uRatioTold_c1 limbs cx cy _ h6 _)
    · have ha0 : h.size ≤ a.block := by have := (e03.trans e36).size; omega
      refine mem_ext fun h8 e8 => ⟨x, CX (e36.trans (e'.trans e8)), y, CY (e36.trans (e'.trans e8)), ?_⟩
      have e08 := e03.trans (e36.trans (e'.trans e8))
      exact AddQ_spec (ht.tb e08 ha0) (hb'.ext e8) (hp.ext e08) (hq.ext e08) (by omega) fun r h9 hb9 k9 hr9 _ => k' r h9 (by simpa using hb9) ((Keep.of_ext e8).trans k9) (by simpa using hr9.rq)
    · refine ⟨fun _ => ?_, nofun⟩
      have e37 := e36.trans e7
      refine NegD_spec (hC'.ext (e6.trans e7)) fun w2 h8 hw2 e8 => AddD_spec ((hA.ext (e6.trans e7)).ext e8) hw2 (by rw [neg_sz]; omega) fun w3 h9 hw3 e9 => ?_
      rw [← Rat.sub_eq_add_neg] at hw3
      have e39 := e37.trans (e8.trans e9)
      refine (toldR_spec (f := fun v h k => law02uRatioTold_c2 v cx cy h k) hw3 (by omega) (fun a h' Q' hb' e' ha' k' => ?_) (fun h10 e10 => ?_) : law02utold__law02uRatioTold_c2 limbs cx cy _ h9 _)
      · have ha0 : h.size ≤ a.block := by have := (e03.trans e39).size; omega
        refine mem_ext fun h8 e8 => ⟨x, CX (e39.trans (e'.trans e8)), y, CY (e39.trans (e'.trans e8)), ?_⟩
        have e08 := e03.trans (e39.trans (e'.trans e8))
        exact SubQ_spec (ht.tb e08 ha0) (hb'.ext e8) (hp.ext e08) (hq.ext e08) (by omega) fun r h9 hb9 k9 hr9 _ => k' r h9 (by simpa using hb9) ((Keep.of_ext e8).trans k9) (by simpa using hr9.rq)
      · refine ⟨fun _ => ?_, nofun⟩
        have e510 := e6.trans (e7.trans (e8.trans (e9.trans e10)))
        refine MulD_spec (hA.ext e510) (hC'.ext e510) (by omega) fun w4 h11 hw4 e11 => ?_
        have e311 := (e35.trans e510).trans e11
        refine (toldR_spec (f := fun v h k => law02uRatioTold_c3 v cx cy h k) hw4 (by omega) (fun a h' Q' hb' e' ha' k' => ?_) (fun h12 e12 => ?_) : law02utold__law02uRatioTold_c3 limbs cx cy _ h11 _)
        · have ha0 : h.size ≤ a.block := by have := (e03.trans e311).size; omega
          refine mem_ext fun h8 e8 => ⟨x, CX (e311.trans (e'.trans e8)), y, CY (e311.trans (e'.trans e8)), ?_⟩
          have e08 := e03.trans (e311.trans (e'.trans e8))
          exact MulQ_spec (ht.tb e08 ha0) (hb'.ext e8) (hp.ext e08) (hq.ext e08) (by omega) fun r h9 hb9 k9 hr9 _ => k' r h9 (by simpa using hb9) ((Keep.of_ext e8).trans k9) (by simpa using hr9.rq)
        · refine ⟨fun _ => ?_, nofun⟩
          have e512 := e510.trans (e11.trans e12)
          refine DivD_spec (hA.ext e512) (hC'.ext e512) (by omega) fun w5 h13 hw5 e13 => ?_
          have e313 := (e35.trans e512).trans e13
          refine (toldR_spec (f := fun v h k => law02uRatioTold_c4 v cx cy h k) hw5 (by omega) (fun a h' Q' hb' e' ha' k' => ?_) (fun h14 e14 => ?_) : law02utold__law02uRatioTold_c4 limbs cx cy _ h13 _)
          case refine_2 => exact ⟨rfl, e512.trans (e13.trans e14)⟩
          have ha0 : h.size ≤ a.block := by have := (e03.trans e313).size; omega
          refine mem_ext fun h8 e8 => ⟨x, CX (e313.trans (e'.trans e8)), y, CY (e313.trans (e'.trans e8)), ?_⟩
          have e08 := e03.trans (e313.trans (e'.trans e8))
          refine DivQ_spec (ht.tb e08 ha0) (hb'.ext e8) (hp.ext e08) (hq.ext e08) (by omega) (fun h0 h9 e9 => ?_) fun _ r h9 hb9 k9 hr9 _ => k' r h9 (by simpa using hb9) ((Keep.of_ext e8).trans k9) (by simpa using hr9.rq)
          subst h0
          have hz : p / 0 = 0 := by rw [Rat.div_def]; simp
          have z1 : szQ (0 : Rat) = 0 := by
            have : szQ ((0 : Int) : Rat) = 0 := by unfold szQ; rw [dn_int, rat_int_num, nl_zero]; simp [nl_zero]
            simpa using this
          have hd : decide (max limbs.toNat 1 < szQ (p / 0)) = false := by rw [hz, z1]; simp
          refine k' _ h9 ?_ (Keep.of_ext (e8.trans e9)) ?_
          · rw [hd]; exact (hb'.ext e8).ext e9
          · rw [hd, val'_false, hz]; exact RQ.zero
  rintro t h6 ⟨rfl, e56⟩
  have e36 := e35.trans e56
  have A : ∀ {h' : Heap}, Ext h6 h' → RD h' (a1, a2, a3) p := fun e => hA.ext (e56.trans e)
  have C : ∀ {h' : Heap}, Ext h6 h' → RD h' c q := fun e => hC'.ext (e56.trans e)
  have X : ∀ {h' : Heap}, Ext h6 h' → RQ h' x p := fun e => hp.ext (e03.trans (e36.trans e))
  have Y : ∀ {h' : Heap}, Ext h6 h' → RQ h' y q := fun e => hq.ext (e03.trans (e36.trans e))
  refine seq.cut (fun t h7 => t = true ∧ Ext h6 h7) ?_ ?_
  · refine ⟨fun _ => ?_, nofun⟩
    have r6 := Keep.refl none h6
    refine ⟨x, CX e36, y, CY e36, ?_⟩
    refine CmpR_spec (X r6) (Y r6) (by omega) (by have := (e03.trans e36).size; omega) fun h7 e7 => CmpD_spec (A e7) (C e7) (by omega) fun h8 e8 => ⟨fun _ => ?_, fun hn => by simp at hn⟩
    have e68 := e7.trans e8
    refine ⟨x, CX (e36.trans e68), Sign_spec (X e68) fun h9 e9 => Int_spec (n := 0) (by decide) fun z h10 hz e10 => ?_⟩
    have e610 := e68.trans (e9.trans e10)
    have z0 : szQ ((0 : Int) : Rat) ≤ 2 := sz_int (by decide)
    refine CmpD_spec (A e610) hz (by omega) fun h11 e11 => ?_
    have hs : cmpR p ((0 : Int) : Rat) = p.num.sign := by
      rw [← cmpR_sub]
      have : p - ((0 : Int) : Rat) = p := by
        have : ((0 : Int) : Rat) = 0 := rfl
        rw [this]; grind
      rw [this]
    rw [hs]
    refine ⟨fun _ => ?_, fun hn => by simp at hn⟩
    have e611 := e610.trans e11
    refine ⟨x, CX (e36.trans e611), NegQ_spec (X e611) fun r h12 hr _ e12 => NegD_spec (A (e611.trans e12)) fun w h13 hw e13 => FormQ_spec hw (by rw [neg_sz]; omega) fun v h14 hv e14 => ?_⟩
    refine SameQ_spec ((hr.ext e13).ext e14) hv fun h15 e15 => ?_
    rw [decide_eq_true rfl]
    refine ⟨fun _ => ?_, nofun⟩
    have e615 := e611.trans (e12.trans (e13.trans (e14.trans e15)))
    refine ⟨x, CX (e36.trans e615), TextQ_spec (X e615) (by omega) fun h16 e16 => TextDQ_spec (A (e615.trans e16)) (by omega) fun h17 e17 => ⟨fun _ => ?_, fun hn => by simp at hn⟩⟩
    have e617 := e615.trans (e16.trans e17)
    refine ⟨x, CX (e36.trans e617), TermQ_spec (X e617) (by omega) fun h18 e18 => TermDQ_spec (A (e617.trans e18)) (by omega) fun h19 e19 => ⟨by simp, e617.trans (e18.trans e19)⟩⟩
  · rintro t h7 ⟨rfl, e7⟩
    exact K h7 (e03.trans (e36.trans e7))
end Go.Sh

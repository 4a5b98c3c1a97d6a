/-
  Laws that the proof of this claim's statement leans on, each proved under the conditions that it states.
-/
import Derived.Test.YtdcdidecehbplaaDoorSpL
set_option linter.unusedVariables false
set_option linter.unusedSimpArgs false
namespace Go.Sh
open Go Go.Lift

theorem new_cell {v : Value} {h : Heap} {k : Addr → Heap → Prop} (K : ∀ a h', cell? h' a = some v → a.block = h.size → a.spot = none → frozen? h' a = false → Ext h h' → h'.size = h.size + 1 → k a h') : new [v] h k := by
  intro T
  refine K _ _ ?_ rfl rfl ?_ (Ext.push _ _) (by simp)
  · unfold cell?; simp
  · unfold frozen?; simp

/-- Is an answer the document's, as far as a bench lets it be? What is behind it. -/
theorem toldTail {limbs : Int} {a : Addr} {ov : Bool} {x y : Bool × Sl × Sl} {q : Rat} {h : Heap} {Q : Bool → Heap → Prop} (hb : Bench h a (max limbs.toNat 1) ov) (hov : ov = decide (max limbs.toNat 1 < szQ q)) (hx : RQ h x (val' ov q)) (hy : RQ h y q) (K : ∀ h', Ext h h' → Q true h') :
   ref02uFits (y.1, y.2.1, y.2.2) (if 1 > limbs then 1 else limbs) h fun v_17 h0u36 =>
   iteB (!v_17) (
    seq (fun (K0u1 : Bool → Heap → Prop) =>
     nat_Bench_Over (some a) h0u36 fun v_18 h0u38 =>
     iteB v_18 (
      ref02uSame (x.1, x.2.1, x.2.2) (false, Sl.nil, Sl.nil) h0u38 fun v_19 h0u39 =>
      K0u1 v_19 h0u39
     ) (
      K0u1 false h0u38
     )
    ) (fun t0u1 h0u37 =>
     Q t0u1 h0u37
    )
   ) (
    seq (fun (K0u2 : Bool → Heap → Prop) =>
     nat_Bench_Over (some a) h0u36 fun v_20 h0u41 =>
     iteB (!v_20) (
      ref02uSame (x.1, x.2.1, x.2.2) (y.1, y.2.1, y.2.2) h0u41 fun v_21 h0u42 =>
      K0u2 v_21 h0u42
     ) (
      K0u2 false h0u41
     )
    ) (fun t0u2 h0u40 =>
     Q t0u2 h0u40
    )
   ) := by
  refine Fits_spec hy (lim_eq limbs) fun h1 e1 => ⟨fun hn => ?_, fun hn => ?_⟩
  · simp only [Bool.not_eq_true', decide_eq_false_iff_not] at hn
    have : ov = true := by rw [hov, decide_eq_true_eq]; omega
    subst this
    refine seq.cut (fun t h2 => t = true ∧ Ext h1 h2) (Over_spec (hb.ext e1) ⟨fun _ => ?_, nofun⟩) ?_
    · refine SameQ_spec (hx.ext e1) RQ.zero fun h2 e2 => ⟨?_, e2⟩
      rw [val'_true]; simp
    · rintro t h2 ⟨rfl, e2⟩; exact K h2 (e1.trans e2)
  · simp only [Bool.not_eq_false', decide_eq_true_eq] at hn
    have : ov = false := by rw [hov, decide_eq_false_iff_not]; omega
    subst this
    refine seq.cut (fun t h2 => t = true ∧ Ext h1 h2) (Over_spec (hb.ext e1) ⟨fun _ => ?_, nofun⟩) ?_
    · refine SameQ_spec (hx.ext e1) (hy.ext e1) fun h2 e2 => ⟨?_, e2⟩
      rw [val'_false]; simp
    · rintro t h2 ⟨rfl, e2⟩; exact K h2 (e1.trans e2)

theorem great1 {x : Bool × Sl × Sl} {h : Heap} {J : Bool → Heap → Prop} (K : ∀ h', Ext h h' → J (bigR x) h') :
    new [Value.bool x.1, Sl.toV x.2.1, Sl.toV x.2.2] h fun a h' => law02uGreat (⟨some a, 1, 1⟩ : Sl) h' J := by
  intro T
  have hr : RR (h.push (.cells [Value.bool x.1, Sl.toV x.2.1, Sl.toV x.2.2].toArray T (0, 0))) ⟨some ⟨h.size, 0, none⟩, 1, 1⟩ [x] := RS.new bool_sl_sl_len rfl rfl
  exact Great_spec hr (by simp) fun h' e => by simpa using K h' ((Ext.push _ _).trans e)

theorem RatioMakes_holds {limbs n : Int} {neg : Bool} {num den : Sl} {x : Bool × Sl × Sl} {ns ds xs ys : List Nat} {h : Heap} {Q : Bool → Heap → Prop} (ht : Tab h) (hn : RI .u32 h num ns) (hnl : Lim 4294967296 ns) (hd : RI .u32 h den ds) (hdl : Lim 4294967296 ds) (hX : XR h x xs ys)
    (n1 : -9223372036854775808 ≤ n) (n2 : n ≤ 9223372036854775807) (K : ∀ h', Ext h h' → Q true h') : law02uRatioMakes limbs neg num den n x h Q := by
  have lnn := hn.len
  have lnd := hd.len
  have lx1 := hX.num.len
  have lx2 := hX.den.len
  refine new_cell fun c1 h1 hc1 _ _ _ e1 _ => new_cell fun c2 h2 hc2 _ _ _ e2 _ => new_cell fun c3 h3 hc3 _ _ _ e3 _ => mem_ext fun h4 e4 => ?_
  replace hc1 := cell_keep (e2.trans (e3.trans e4)) hc1 (by simp)
  replace hc2 := cell_keep (e3.trans e4) hc2 (by simp)
  replace hc3 := cell_keep e4 hc3 (by simp)
  have e04 := e1.trans (e2.trans (e3.trans e4))
  clear e1 e2 e3 e4
  refine speaks2uspec (R.ext ht e04) fun h5 e5 => ⟨nofun, fun _ => ?_⟩
  replace hc1 := cell_keep e5 hc1 (by simp)
  replace hc2 := cell_keep e5 hc2 (by simp)
  replace hc3 := cell_keep e5 hc3 (by simp)
  have e05 := e04.trans e5
  refine seq.cut (fun t h6 => (t = false → num.len ≤ 8 ∧ den.len ≤ 8 ∧ bigR x = false) ∧ Ext h5 h6) ?_ ?_
  · refine ⟨num, hc2, fun _ => ⟨nofun, Keep.refl _ _⟩, fun h8 => ?_⟩
    simp only [gt_iff_lt, decide_eq_false_iff_not] at h8
    refine ⟨den, hc3, fun _ => ⟨nofun, Keep.refl _ _⟩, fun h9 => ?_⟩
    simp only [gt_iff_lt, decide_eq_false_iff_not] at h9
    exact great1 fun h6 e6 => ⟨fun hb => ⟨by omega, by omega, hb⟩, e6⟩
  rintro t h6 ⟨hsm, e6⟩
  refine ⟨fun _ => K h6 (e05.trans e6), fun hf => ?_⟩
  obtain ⟨s1, s2, s3⟩ := hsm hf
  unfold bigR at s3
  simp only [Bool.or_eq_false_iff, decide_eq_false_iff_not] at s3
  have e06 := e05.trans e6
  have X6 := hX.ext e06
  refine RightQ_spec (R.ext ht e06) X6 (by omega) (by omega) fun b1 h7 hb1 e7 => ?_
  refine RightD_spec (X6.ext e7) (by omega) (by omega) fun b2 h8 hb2 e8 => ?_
  have hb12 : b1 = b2 := by
    have h67 : isQ h6 x ↔ isQ h7 x := by
      rw [X6.isQ_iff (by omega) (by omega), (X6.ext e7).isQ_iff (by omega) (by omega)]
    rw [Bool.eq_iff_iff, hb1, hb2, h67]
  subst hb12
  refine ⟨fun hb => by simp at hb, fun _ => ?_⟩
  have e08 := e06.trans (e7.trans e8)
  refine OfQ n1 n2 fun r h9 hr _ e9 => mem_ext fun h10 e10 => ?_
  have hr10 := hr.ext e10
  have e810 := e9.trans e10
  -- a number is in its one form
  have right : ∀ {h' : Heap} {J : Bool → Heap → Prop}, Ext h10 h' → (∀ h'', Ext h' h'' → J true h'') → ref02uRight (r.1, r.2.1, r.2.2) h' J := by
    intro h' J e' k
    have hq := hr10.ext e'
    obtain ⟨us, vs, hU, _, _, lu, lv⟩ := hq.xr
    have hsz := sz_int (n := n) (by omega)
    have := nl_num_le (n : Rat); have := nl_dn_le (n : Rat)
    refine RightD_spec hU (by omega) (by omega) fun b h'' hb e'' => ?_
    have : b = true := hb.2 ⟨_, hq⟩
    subst this
    exact k h'' e''
  refine seq.cut (fun t h11 => t = false ∧ Ext h10 h11) ?_ ?_
  · refine ⟨fun hbig => ?_, fun _ => right (Keep.refl _ _) fun h'' e'' => ⟨rfl, e''⟩⟩
    simp only [gt_iff_lt, decide_eq_true_eq] at hbig
    refine Int_spec (by omega) fun v h11 hv e11 => FormQ_spec hv (by have := sz_int (n := n) (by omega); omega) fun f h12 hf e12 => ?_
    refine SameQ_spec ((hr10.ext e11).ext e12) hf fun h13 e13 => ?_
    rw [decide_eq_true (rfl : ((n : Int) : Rat) = (n : Rat))]
    refine ⟨nofun, fun _ => ?_⟩
    have e1013 := e11.trans (e12.trans e13)
    exact right e1013 fun h'' e'' => ⟨rfl, e1013.trans e''⟩
  rintro t h11 ⟨rfl, e11⟩
  refine ⟨nofun, fun _ => ?_⟩
  have e511 := e6.trans (e7.trans (e8.trans (e810.trans e11)))
  have e011 := e05.trans e511
  replace hc1 := cell_keep e511 hc1 (by simp)
  replace hc2 := cell_keep e511 hc2 (by simp)
  replace hc3 := cell_keep e511 hc3 (by simp)
  have nd := nl_of_len hdl (k := 8) (by omega)
  have nn := nl_of_len hnl (k := 8) (by omega)
  refine ⟨den, hc3, ?_⟩
  refine Of10uspec (R.ext hd e011) hdl (by omega) fun dd h12 hdd e12 _ => ⟨fun hz => ?_, fun hz => ?_⟩
  · -- nothing is below the line
    simp only [beq_iff_eq] at hz
    have h0 : val 4294967296 ds = 0 := hdd.len_zero.1 (by omega)
    have e012 := e011.trans e12
    refine New_spec fun a h13 hb13 hab e13 => ?_
    have e013 := e012.trans e13
    have e1113 := e12.trans e13
    have hah : h.size ≤ a.block := by have := e012.size; omega
    refine seq.cut (fun t h14 => t = true ∧ Ext h13 h14) ?_ ?_
    · refine ⟨neg, cell_keep e1113 hc1 (by simp), num, cell_keep e1113 hc2 (by simp), den, cell_keep e1113 hc3 (by simp), ?_⟩
      refine MakeQ_spec (ht.tb e013 hah) hb13 (R.ext hn e013) hnl (R.ext hd e013) hdl (by omega) (by omega) (fun _ h14 e14 => ?_) (fun hne => absurd h0 hne)
      refine SameQ_spec RQ.zero RQ.zero fun h15 e15 => ?_
      rw [decide_eq_true (rfl : (0 : Rat) = 0)]
      exact ⟨fun _ => Over_spec ((hb13.ext e14).ext e15) ⟨rfl, e14.trans e15⟩, nofun⟩
    · rintro t h14 ⟨rfl, e14⟩
      exact K h14 (e013.trans e14)
  · have h0 : val 4294967296 ds ≠ 0 := fun h0 => by
      have := hdd.len_zero.2 h0
      simp [this] at hz
    refine ⟨neg, cell_keep e12 hc1 (by simp), num, cell_keep e12 hc2 (by simp), ?_⟩
    have e012 := e011.trans e12
    refine Of10uspec (R.ext hn e012) hnl (by omega) fun dn' h13 hdn e13 _ => ⟨cell_keep (e12.trans e13) hc1 (by simp), ?_⟩
    have hZ := Zn_abs neg ns
    refine Low_spec (z := Zn neg ns) (m := val 4294967296 ds) (k := 8) ⟨by rw [hZ]; exact hdn, hdd.ext e13, h0, Zn_neg⟩ (by omega) (by rw [hZ]; omega) nd fun w h14 hw e14 => ?_
    have e014 := e012.trans (e13.trans e14)
    have e1114 := e12.trans (e13.trans e14)
    have hszq := sz_mk (Zn neg ns) h0
    rw [hZ] at hszq
    refine mem_ext fun h15 e15 => New_spec fun a h16 hb16 hab e16 => ?_
    have e1116 := e1114.trans (e15.trans e16)
    have e016 := e014.trans (e15.trans e16)
    have hah : h.size ≤ a.block := by have := e014.size; have := e15.size; omega
    refine seq.cut (fun t h17 => ∃ ov, Bench h17 a (max limbs.toNat 1) ov ∧ ov = decide (max limbs.toNat 1 < szQ (mkRat (Zn neg ns) (val 4294967296 ds))) ∧ RQ h17 (t.1, t.2.1, t.2.2.1) (val' ov (mkRat (Zn neg ns) (val 4294967296 ds))) ∧ RQ h17 (t.2.2.2.1, t.2.2.2.2.1, t.2.2.2.2.2) (mkRat (Zn neg ns) (val 4294967296 ds)) ∧ Ext h h17) ?_ ?_
    · refine mem_ext fun h17 e17 => mem_ext fun h18 e18 => ?_
      have e1118 := e1116.trans (e17.trans e18)
      have e018 := e016.trans (e17.trans e18)
      refine ⟨neg, cell_keep e1118 hc1 (by simp), num, cell_keep e1118 hc2 (by simp), den, cell_keep e1118 hc3 (by simp), ?_⟩
      refine MakeQ_spec (ht.tb e018 hah) ((hb16.ext e17).ext e18) (R.ext hn e018) hnl (R.ext hd e018) hdl (by omega) (by omega) (fun h => absurd h h0) (fun _ r h19 hb19 k19 hr19 fr19 => ?_)
      rw [Bool.false_or] at hb19 hr19
      have e019 := e018.fresh hah k19
      have e1519 : Ext h15 h19 := (e16.trans (e17.trans e18)).fresh (Nat.le_of_eq hab.symm) k19
      refine mem_ext fun h20 e20 => FormQ_spec (((hw.ext e15).ext e1519).ext e20) (by omega) fun f h21 hf e21 => mem_ext fun h22 e22 => ?_
      have e1922 := e20.trans (e21.trans e22)
      exact ⟨_, hb19.ext e1922, rfl, hr19.rq.ext e1922, hf.ext e22, e019.trans e1922⟩
    · rintro ⟨u1, u2, u3, u4, u5, u6⟩ h17 ⟨ov, hb17, hov, hx17, hy17, e017⟩
      exact toldTail hb17 hov hx17 hy17 fun h18 e18 => K h18 (e017.trans e18)
end Go.Sh

namespace Go.Sh
open Go Go.Lift

theorem great2Q {x y : Bool × Sl × Sl} {h : Heap} {J : Bool → Heap → Prop} (K : ∀ h', Ext h h' → J (bigR x || bigR y) h') :
    new [Value.bool x.1, Sl.toV x.2.1, Sl.toV x.2.2, Value.bool y.1, Sl.toV y.2.1, Sl.toV y.2.2] h fun a h' => law02uGreat (⟨some a, 2, 2⟩ : Sl) h' J := by
  intro T
  have hr : RR (h.push (.cells [Value.bool x.1, Sl.toV x.2.1, Sl.toV x.2.2, Value.bool y.1, Sl.toV y.2.1, Sl.toV y.2.2].toArray T (0, 0))) ⟨some ⟨h.size, 0, none⟩, 2, 2⟩ [x, y] := RS.new bool_sl_sl_len rfl rfl
  exact Great_spec hr (by simp) fun h' e => by simpa using K h' ((Ext.push _ _).trans e)
theorem great3Q {x y z : Bool × Sl × Sl} {h : Heap} {J : Bool → Heap → Prop} (K : ∀ h', Ext h h' → J (bigR x || (bigR y || bigR z)) h') :
    new [Value.bool x.1, Sl.toV x.2.1, Sl.toV x.2.2, Value.bool y.1, Sl.toV y.2.1, Sl.toV y.2.2, Value.bool z.1, Sl.toV z.2.1, Sl.toV z.2.2] h fun a h' => law02uGreat (⟨some a, 3, 3⟩ : Sl) h' J := by
  intro T
  have hr : RR (h.push (.cells [Value.bool x.1, Sl.toV x.2.1, Sl.toV x.2.2, Value.bool y.1, Sl.toV y.2.1, Sl.toV y.2.2, Value.bool z.1, Sl.toV z.2.1, Sl.toV z.2.2].toArray T (0, 0))) ⟨some ⟨h.size, 0, none⟩, 3, 3⟩ [x, y, z] := RS.new bool_sl_sl_len rfl rfl
  exact Great_spec hr (by simp) fun h' e => by simpa using K h' ((Ext.push _ _).trans e)

/-- What is not too great, and right. -/
theorem right6 {h h' : Heap} {x : Bool × Sl × Sl} {xs ys : List Nat} {J : Bool → Heap → Prop} (hX : XR h x xs ys) (hb : bigR x = false) (e : Ext h h') (K : ∀ b h'', (b = true → ∃ q, RQ h x q ∧ szQ q ≤ 6) → Ext h' h'' → J b h'') : ref02uRight (x.1, x.2.1, x.2.2) h' J := by
  unfold bigR at hb
  simp only [Bool.or_eq_false_iff, decide_eq_false_iff_not] at hb
  have l1 := hX.num.len
  have l2 := hX.den.len
  have X' := hX.ext e
  refine RightD_spec X' (by omega) (by omega) fun b h'' hbb e'' => K b h'' (fun hbt => ?_) e''
  have h1 := hbb.1 hbt
  have h2 : isQ h x := (hX.isQ_iff (by omega) (by omega)).2 ((X'.isQ_iff (by omega) (by omega)).1 h1)
  obtain ⟨q, hq⟩ := h2
  refine ⟨q, hq, ?_⟩
  have := hq.num.nl
  have := hq.den.nl
  unfold szQ
  omega

theorem newRow {kd : IntKind} {cs : List Value} {h : Heap} {k : Addr → Heap → Prop} (xs : List Nat) (hcs : cs = xs.map fun n : Nat => Value.int kd (n : Int)) (K : ∀ a h', RI kd h' ⟨some a, xs.length, xs.length⟩ xs → Ext h h' → a.block = h.size → k a h') : new cs h k := by
  intro T
  exact K _ _ (Own.new hcs).r (Ext.push _ _) rfl
theorem RatioOver_holds {x y : Bool × Sl × Sl} {s : ByteArray} {xs xd ys yd : List Nat} {h : Heap} {Q : Bool → Heap → Prop} (ht : Tab h) (hX : XR h x xs xd) (hY : XR h y ys yd) (K : ∀ h', Ext h h' → Q true h') : law02uRatioOver x y s h Q := by
  refine mem_ext fun h1 e1 => speaks2uspec (R.ext ht e1) fun h2 e2 => ⟨nofun, fun _ => ?_⟩
  have e02 := e1.trans e2
  refine seq.cut (fun t h3 => (t = false → (∃ p, RQ h x p ∧ szQ p ≤ 6) ∧ (∃ q, RQ h y q ∧ szQ q ≤ 6) ∧ s.size ≤ 60) ∧ Ext h2 h3) ?_ ?_
  · refine great2Q fun h3 e3 => ⟨fun _ => ⟨nofun, e3⟩, fun hb => ?_⟩
    simp only [Bool.or_eq_false_iff] at hb
    refine right6 hX hb.1 (e02.trans e3) fun b h4 hb4 e4 => ⟨fun _ => ⟨nofun, e3.trans e4⟩, fun hbt => ?_⟩
    refine right6 hY hb.2 (e02.trans (e3.trans e4)) fun b' h5 hb5 e5 => ⟨fun _ => ⟨nofun, e3.trans (e4.trans e5)⟩, fun hbt' => ?_⟩
    refine ⟨fun hs => ⟨hb4 (by simpa using hbt), hb5 (by simpa using hbt'), ?_⟩, e3.trans (e4.trans e5)⟩
    simp only [gt_iff_lt, decide_eq_false_iff_not] at hs; omega
  rintro t h3 ⟨hok, e3⟩
  have e03 := e02.trans e3
  refine ⟨fun _ => K h3 e03, fun hf => ?_⟩
  obtain ⟨⟨p, hp, sp⟩, ⟨q, hq, sq⟩, hs⟩ := hok hf
  refine New_spec fun a h4 hb4 hab e4 => ?_
  have e04 := e03.trans e4
  have hah : h.size ≤ a.block := by have := e03.size; omega
  -- the bench is over
  refine newRow [0, 1] rfl fun a1 h5 hr5 e5 _ => ?_
  refine new1 (m := 5) rfl fun h6 hr6 e6 _ => ?_
  have e06 := e04.trans (e5.trans e6)
  have l01 : Lim 4294967296 [0, 1] := by intro z hz; simp at hz; omega
  have l5 : Lim 4294967296 [5] := by intro z hz; simp at hz; omega
  refine Mul_spec ((hb4.ext e5).ext e6) ⟨_, R.ext hr5 e6, l01, rfl, by simp⟩ ⟨_, hr6, l5, rfl, by simp⟩ (by simp) (by simp) fun r h7 hb7 k7 _ _ _ => ?_
  have hov : (false || decide (max (Int.toNat 1) 1 < nl (val 4294967296 [0, 1] * val 4294967296 [5]))) = true := by
    have : val 4294967296 [0, 1] * val 4294967296 [5] = 21474836480 := by decide
    rw [this]
    have h1 : nl 21474836480 = 2 := by rw [nl_pos (by decide), nl_pos (by decide)]; simp [nl_zero]
    rw [h1]; rfl
  rw [hov] at hb7
  have e07 := e06.fresh hah k7
  have TB7 := ht.tb e07 hah
  -- nothing is read
  refine Decimal_spec TB7 hb7 (by omega) (fun _ h8 e8 => ?_) (fun h => by cases h)
  refine mem_ext fun h9 e9 => ?_
  have e79 := e8.trans e9
  have e09 := e07.trans e79
  have hb9 := hb7.ext e79
  have tb : ∀ {h' : Heap}, Ext h h' → TB a.block h' := fun e => ht.tb e hah
  refine AddQ_spec (tb e09) hb9 (hp.ext e09) (hq.ext e09) (by omega) fun r1 h10 hb10 k10 hr1 _ => ?_
  have e010 := e09.fresh hah k10
  refine SubQ_spec (tb e010) hb10 (hp.ext e010) (hq.ext e010) (by omega) fun r2 h11 hb11 k11 hr2 _ => ?_
  have e011 := e010.fresh hah k11
  refine MulQ_spec (tb e011) hb11 (hp.ext e011) (hq.ext e011) (by omega) fun r3 h12 hb12 k12 hr3 _ => ?_
  have e012 := e011.fresh hah k12
  simp only [Bool.true_or, val'_true] at hr1 hr2 hr3 hb12
  -- what is behind
  have fin : ∀ (r4 : Bool × Sl × Sl) (h13 : Heap), Bench h13 a (max (Int.toNat 1) 1) true → Keep (some a.block) h12 h13 → RF a.block h13 r4 0 →
     new [Value.bool r1.1, Sl.toV r1.2.1, Sl.toV r1.2.2, Value.bool r2.1, Sl.toV r2.2.1, Sl.toV r2.2.2, Value.bool r3.1, Sl.toV r3.2.1, Sl.toV r3.2.2, Value.bool r4.1, Sl.toV r4.2.1, Sl.toV r4.2.2, Value.bool false, Sl.toV Sl.nil, Sl.toV Sl.nil] h13 fun a_3 h0u17 =>
     loop (fun (s0u1 : Int) h0u18 (K0u1 : Int → Heap → Prop) =>
      iteB (decide (s0u1 < (((⟨some a_3, 5, 5⟩ : Sl).len : Nat) : Int))) (
       idxS (⟨some a_3, 5, 5⟩ : Sl) s0u1 3 fun a_4 =>
       loadS C_bool_sl_sl 3 a_4 h0u18 fun v_15 =>
       mem h0u18 fun h0u19 =>
       ref02uSame (v_15.1, v_15.2.1, v_15.2.2) (false, Sl.nil, Sl.nil) h0u19 fun v_16 h0u20 =>
       iteB (!v_16) (
        Q false h0u20
       ) (
        K0u1 (IntKind.wrap .i64 (s0u1 + 1)) h0u20
       )
      ) (
       seq (fun (K0u2 : Bool → Heap → Prop) =>
        iteB (!false) (
         nat_Bench_Over (some a) h0u18 fun v_17 h0u22 =>
         K0u2 v_17 h0u22
        ) (
         K0u2 false h0u18
        )
       ) (fun t0u1 h0u21 =>
        Q t0u1 h0u21
       )
      )
     ) 0 h0u17 := by
    intro r4 h13 hb13 k13 hr4 T
    have hr : RR (h13.push (.cells [Value.bool r1.1, Sl.toV r1.2.1, Sl.toV r1.2.2, Value.bool r2.1, Sl.toV r2.2.1, Sl.toV r2.2.2, Value.bool r3.1, Sl.toV r3.2.1, Sl.toV r3.2.2, Value.bool r4.1, Sl.toV r4.2.1, Sl.toV r4.2.2, Value.bool false, Sl.toV Sl.nil, Sl.toV Sl.nil].toArray T (0, 0))) ⟨some ⟨h13.size, 0, none⟩, 5, 5⟩ [r1, r2, r3, r4, (false, Sl.nil, Sl.nil)] := RS.new bool_sl_sl_len rfl rfl
    have e14 : Ext h13 (h13.push (.cells [Value.bool r1.1, Sl.toV r1.2.1, Sl.toV r1.2.2, Value.bool r2.1, Sl.toV r2.2.1, Sl.toV r2.2.2, Value.bool r3.1, Sl.toV r3.2.1, Sl.toV r3.2.2, Value.bool r4.1, Sl.toV r4.2.1, Sl.toV r4.2.2, Value.bool false, Sl.toV Sl.nil, Sl.toV Sl.nil].toArray T (0, 0))) := Ext.push _ _
    generalize h13.push (.cells [Value.bool r1.1, Sl.toV r1.2.1, Sl.toV r1.2.2, Value.bool r2.1, Sl.toV r2.2.1, Sl.toV r2.2.2, Value.bool r3.1, Sl.toV r3.2.1, Sl.toV r3.2.2, Value.bool r4.1, Sl.toV r4.2.1, Sl.toV r4.2.2, Value.bool false, Sl.toV Sl.nil, Sl.toV Sl.nil].toArray T (0, 0)) = h14 at *
    have all : ∀ x ∈ [r1, r2, r3, r4, (false, Sl.nil, Sl.nil)], RQ h14 x 0 := by
      intro x hx
      simp only [List.mem_cons, List.not_mem_nil, or_false] at hx
      rcases hx with rfl | rfl | rfl | rfl | rfl
      · exact ((((hr1.keep k11).keep k12).keep k13).ext e14).rq
      · exact (((hr2.keep k12).keep k13).ext e14).rq
      · exact ((hr3.keep k13).ext e14).rq
      · exact (hr4.ext e14).rq
      · exact RQ.zero
    have e014 := (e012.fresh hah k13).trans e14
    refine loop.inv (fun t h' => ∃ i : Nat, t = (i : Int) ∧ i ≤ 5 ∧ Ext h14 h') (fun t _ => 5 - t.toNat) ⟨0, rfl, by omega, Keep.refl _ _⟩ ?_
    rintro t h15 ⟨i, rfl, hi, e15⟩
    refine ⟨fun hlt => ?_, fun hge => ?_⟩
    · simp only [decide_eq_true_eq] at hlt
      have hi' : i < [r1, r2, r3, r4, (false, Sl.nil, Sl.nil)].length := by show i < 5; omega
      refine RS.ld (hr.ext e15) (j := i) rfl hi' (mem_ext fun h16 e16 => ?_)
      have hz := all _ (List.getElem_mem hi')
      refine SameQ_spec ((hz.ext e15).ext e16) RQ.zero fun h17 e17 => ?_
      rw [decide_eq_true (rfl : (0 : Rat) = 0), w64 (by omega) (by omega)]
      exact ⟨nofun, fun _ => ⟨⟨i + 1, rfl, by omega, e15.trans (e16.trans e17)⟩, by omega⟩⟩
    · refine seq.cut (fun t h16 => t = true ∧ h16 = h15) ⟨fun _ => Over_spec ((hb13.ext e14).ext e15) ⟨rfl, rfl⟩, nofun⟩ ?_
      rintro t h16 ⟨rfl, rfl⟩
      exact K _ (e014.trans e15)
  refine DivQ_spec (tb e012) hb12 (hp.ext e012) (hq.ext e012) (by omega) (fun _ h13 e13 => fin _ h13 (hb12.ext e13) (Keep.of_ext e13) RF.zero) (fun _ r4 h13 hb13 k13 hr4 _ => fin r4 h13 (by simpa using hb13) k13 (by simpa [val'_true] using hr4))
end Go.Sh

namespace Go.Sh
open Go Go.Lift

theorem CmpR_spec {h : Heap} {x y : Bool × Sl × Sl} {p q : Rat} {Q : Int → Heap → Prop} (hx : RQ h x p) (hy : RQ h y q) (hsz : szQ p + szQ q ≤ 400) (h0 : 0 < h.size)
    (K : ∀ h', Ext h h' → Q (cmpR p q) h') : ratio_Cmp x y h Q :=
  CmpQ_spec hx hy hsz h0 fun h' e => by rw [cmpR_eq]; exact K h' e
theorem cmpR_swap (p q : Rat) : cmpR q p = - cmpR p q := by
  unfold cmpR
  have : q - p = -(p - q) := by grind
  rw [this, Rat.neg_num, Int.sign_neg]
theorem cmpR_add (p q r : Rat) : cmpR (p + r) (q + r) = cmpR p q := by
  unfold cmpR
  have : p + r - (q + r) = p - q := by grind
  rw [this]
theorem cmpR_range (p q : Rat) : -1 ≤ cmpR p q ∧ cmpR p q ≤ 1 := by
  unfold cmpR
  rcases Int.lt_trichotomy (p - q).num 0 with h | h | h
  · rw [Int.sign_eq_neg_one_of_neg h]; omega
  · rw [h]; decide
  · rw [Int.sign_eq_one_of_pos h]; omega
theorem cmpR_sub (p q : Rat) : (p - q).num.sign = cmpR p q := rfl

/-- A bench in a variable. -/
structure BV (h0 : Heap) (c a : Addr) (lim : Nat) (h : Heap) : Prop where
  tab : Tab h0
  var : cell? h c = some (.pointer (some a))
  ne : c.block ≠ a.block
  bench : Bench h a lim false
  ext : Ext h0 h
  old : h0.size ≤ a.block
theorem BV.keep {h0 : Heap} {c a : Addr} {lim : Nat} {h h' : Heap} (hv : BV h0 c a lim h) (hb : Bench h' a lim false) (k : Keep (some a.block) h h') : BV h0 c a lim h' :=
  ⟨hv.tab, cell_keep k hv.var (by simpa using hv.ne), hv.ne, hb, hv.ext.fresh hv.old k, hv.old⟩
theorem BV.of_ext {h0 : Heap} {c a : Addr} {lim : Nat} {h h' : Heap} (hv : BV h0 c a lim h) (k : Ext h h') : BV h0 c a lim h' :=
  ⟨hv.tab, cell_keep k hv.var (by simp), hv.ne, hv.bench.ext k, hv.ext.trans k, hv.old⟩
theorem BV.tb {h0 : Heap} {c a : Addr} {lim : Nat} {h : Heap} (hv : BV h0 c a lim h) : TB a.block h := hv.tab.tb hv.ext hv.old

section
variable {h0 h : Heap} {c a : Addr} {lim : Nat} {x y : Bool × Sl × Sl} {p q : Rat} {Q : (Bool × Sl × Sl) → Heap → Prop}
theorem fits_false {lim : Nat} {q : Rat} (h : szQ q ≤ lim) : (false || decide (lim < szQ q)) = false := by simp; omega
theorem addB (hv : BV h0 c a lim h) (hx : RF a.block h x p) (hy : RF a.block h y q) (hs : szQ p + szQ q + 2 ≤ lim) (hl : lim ≤ 300)
    (K : ∀ r h', BV h0 c a lim h' → Keep (some a.block) h h' → RF a.block h' r (p + q) → Q r h') : ratio_Add (some a) x y h Q := by
  have := sz_add p q
  refine AddQ_spec hv.tb hv.bench hx.rq hy.rq (by omega) fun r h' hb k hr _ => ?_
  rw [fits_false (by omega)] at hb hr
  exact K r h' (hv.keep hb k) k hr
theorem sz_sub (p q : Rat) : szQ (p - q) ≤ szQ p + szQ q + 2 := by
  rw [Rat.sub_eq_add_neg]
  have := sz_add p (-q)
  rw [neg_sz] at this; exact this
theorem subB (hv : BV h0 c a lim h) (hx : RF a.block h x p) (hy : RF a.block h y q) (hs : szQ p + szQ q + 2 ≤ lim) (hl : lim ≤ 300)
    (K : ∀ r h', BV h0 c a lim h' → Keep (some a.block) h h' → RF a.block h' r (p - q) → Q r h') : ratio_Sub (some a) x y h Q := by
  have := sz_sub p q
  refine SubQ_spec hv.tb hv.bench hx.rq hy.rq (by omega) fun r h' hb k hr _ => ?_
  rw [fits_false (by omega)] at hb hr
  exact K r h' (hv.keep hb k) k hr
theorem mulB (hv : BV h0 c a lim h) (hx : RF a.block h x p) (hy : RF a.block h y q) (hs : szQ p + szQ q + 2 ≤ lim) (hl : lim ≤ 300)
    (K : ∀ r h', BV h0 c a lim h' → Keep (some a.block) h h' → RF a.block h' r (p * q) → Q r h') : ratio_Mul (some a) x y h Q := by
  have := sz_mul p q
  refine MulQ_spec hv.tb hv.bench hx.rq hy.rq (by omega) fun r h' hb k hr _ => ?_
  rw [fits_false (by omega)] at hb hr
  exact K r h' (hv.keep hb k) k hr
theorem inv_sz {q : Rat} (hq : q ≠ 0) : szQ q⁻¹ ≤ szQ q + 1 := by
  have hz : q.num ≠ 0 := fun h => hq (Rat.num_eq_zero.1 h)
  have h1 := @div_mk 1 q hz
  rw [Rat.div_def, Rat.one_mul] at h1
  rw [← h1]
  have hd : (1 : Rat).den * q.num.natAbs ≠ 0 := by show 1 * q.num.natAbs ≠ 0; omega
  have h2 := sz_mk ((1 : Rat).num * q.den * q.num.sign) hd
  have e1 : ((1 : Rat).num * q.den * q.num.sign).natAbs = q.den := by
    show ((1 : Int) * q.den * q.num.sign).natAbs = q.den
    rw [Int.one_mul, Int.natAbs_mul, Int.natAbs_natCast, Int.natAbs_sign_of_ne_zero hz, Nat.mul_one]
  have e2 : (1 : Rat).den * q.num.natAbs = q.num.natAbs := by show 1 * _ = _; omega
  rw [e1, e2] at h2
  rw [e2]
  have := nl_den_le q; have := nl_num_le q
  omega
theorem sz_div (p q : Rat) (hq : q ≠ 0) : szQ (p / q) ≤ szQ p + szQ q + 3 := by
  rw [Rat.div_def]
  have h1 := sz_mul p q⁻¹
  have h2 := inv_sz hq
  omega
theorem divB (hv : BV h0 c a lim h) (hx : RF a.block h x p) (hy : RF a.block h y q) (hq : q ≠ 0) (hs : szQ p + szQ q + 3 ≤ lim) (hl : lim ≤ 300)
    (K : ∀ r h', BV h0 c a lim h' → Keep (some a.block) h h' → RF a.block h' r (p / q) → Q r h') : ratio_Div (some a) x y h Q := by
  have := sz_div p q hq
  refine DivQ_spec hv.tb hv.bench hx.rq hy.rq (by omega) (fun h => absurd h hq) fun _ r h' hb k hr _ => ?_
  rw [fits_false (by omega)] at hb hr
  exact K r h' (hv.keep hb k) k hr
theorem addV (hv : BV h0 c a lim h) (hx : RF a.block h x p) (hy : RF a.block h y q) (hs : szQ p + szQ q + 2 ≤ lim) (hl : lim ≤ 300)
    (K : ∀ r h', BV h0 c a lim h' → Keep (some a.block) h h' → RF a.block h' r (p + q) → Q r h') : law02uRatioRules_c1 x y c h Q :=
  mem_ext fun h1 e1 => ⟨_, (hv.of_ext e1).var, addB (hv.of_ext e1) (hx.ext e1) (hy.ext e1) hs hl fun r h' hv' k hr => K r h' hv' ((Keep.of_ext e1).trans k) hr⟩
theorem mulV (hv : BV h0 c a lim h) (hx : RF a.block h x p) (hy : RF a.block h y q) (hs : szQ p + szQ q + 2 ≤ lim) (hl : lim ≤ 300)
    (K : ∀ r h', BV h0 c a lim h' → Keep (some a.block) h h' → RF a.block h' r (p * q) → Q r h') : law02uRatioRules_c2 x y c h Q :=
  mem_ext fun h1 e1 => ⟨_, (hv.of_ext e1).var, mulB (hv.of_ext e1) (hx.ext e1) (hy.ext e1) hs hl fun r h' hv' k hr => K r h' hv' ((Keep.of_ext e1).trans k) hr⟩
end
theorem same_true {h : Heap} {x y : Bool × Sl × Sl} {p q : Rat} {Q : Bool → Heap → Prop} (hx : RQ h x p) (hy : RQ h y q) (hpq : p = q) (K : ∀ h', Ext h h' → Q true h') : ref02uSame x y h Q :=
  SameQ_spec hx hy fun h' e => by rw [decide_eq_true hpq]; exact K h' e

theorem RatioRules_holds {x y z : Bool × Sl × Sl} {xs xd ys yd zs zd : List Nat} {h : Heap} {Q : Bool → Heap → Prop} (ht : Tab h) (hX : XR h x xs xd) (hY : XR h y ys yd) (hZ : XR h z zs zd) (K : ∀ h', Ext h h' → Q true h') : law02uRatioRules x y z h Q := by
  refine mem_ext fun h1 e1 => speaks2uspec (R.ext ht e1) fun h2 e2 => ⟨nofun, fun _ => ?_⟩
  have e02 := e1.trans e2
  refine seq.cut (fun t h3 => (t = false → (∃ p, RQ h x p ∧ szQ p ≤ 6) ∧ (∃ q, RQ h y q ∧ szQ q ≤ 6) ∧ (∃ r, RQ h z r ∧ szQ r ≤ 6)) ∧ Ext h2 h3) ?_ ?_
  · refine great3Q fun h3 e3 => ⟨fun _ => ⟨nofun, e3⟩, fun hb => ?_⟩
    simp only [Bool.or_eq_false_iff] at hb
    refine right6 hX hb.1 (e02.trans e3) fun b h4 hb4 e4 => ⟨fun _ => ⟨nofun, e3.trans e4⟩, fun hbt => ?_⟩
    refine right6 hY hb.2.1 (e02.trans (e3.trans e4)) fun b' h5 hb5 e5 => ⟨fun _ => ⟨nofun, e3.trans (e4.trans e5)⟩, fun hbt' => ?_⟩
    refine right6 hZ hb.2.2 (e02.trans (e3.trans (e4.trans e5))) fun b'' h6 hb6 e6 => ⟨fun hs => ⟨hb4 (by simpa using hbt), hb5 (by simpa using hbt'), hb6 (by simpa using hs)⟩, e3.trans (e4.trans (e5.trans e6))⟩
  rintro t h3 ⟨hok, e3⟩
  have e03 := e02.trans e3
  refine ⟨fun _ => K h3 e03, fun hf => ?_⟩
  obtain ⟨⟨p, hp, sp⟩, ⟨q, hq, sq⟩, ⟨r, hr, sr⟩⟩ := hok hf
  refine New_spec fun a h4 hb4 hab e4 => ?_
  have e04 := e03.trans e4
  have hah : h.size ≤ a.block := by have := e03.size; omega
  refine new_cell fun c h5 hc hcb hcs hcf e5 _ => ?_
  refine ⟨⟨_, hc⟩, hcf, ?_⟩
  have hcne : c.block ≠ a.block := by have := hb4.lt; omega
  have k56 := Keep.setCell h5 c (.pointer (some a))
  have hb6 : Bench (setCell h5 c (.pointer (some a))) a 200 false := (hb4.ext e5).keep k56 (by simpa using Ne.symm hcne)
  have e46 : Ext h4 (setCell h5 c (.pointer (some a))) := e5.fresh (Nat.le_of_eq hcb.symm) k56
  have hc6 : cell? (setCell h5 c (.pointer (some a))) c = some (.pointer (some a)) := cell_set_same hc
  generalize setCell h5 c (.pointer (some a)) = h6 at *
  have e06 := e04.trans e46
  have V6 : BV h c a 200 h6 := ⟨ht, hc6, hcne, hb6, e06, hah⟩
  have X : ∀ {h' : Heap}, BV h c a 200 h' → RF a.block h' x p := fun v => hp.rf v.ext v.old
  have Y : ∀ {h' : Heap}, BV h c a 200 h' → RF a.block h' y q := fun v => hq.rf v.ext v.old
  have Z : ∀ {h' : Heap}, BV h c a 200 h' → RF a.block h' z r := fun v => hr.rf v.ext v.old
  have apq := sz_add p q; have aqr := sz_add q r; have apr := sz_add p r; have mpq := sz_mul p q; have mpr := sz_mul p r
  have aqp := sz_add q p
  have pos : ∀ {h' : Heap}, BV h c a 200 h' → 0 < h'.size := fun v => by have := v.bench.lt; omega
  refine seq.cut (fun t h7 => t = false ∧ BV h c a 200 h7) ?_ ?_
  · refine addV V6 (X V6) (Y V6) (by omega) (by omega) fun r1 h7 v7 k7 R1 => ?_
    refine addV v7 (Y v7) (X v7) (by omega) (by omega) fun r2 h8 v8 k8 R2 => ?_
    refine same_true (R1.keep k8).rq R2.rq (Rat.add_comm p q) fun h9 e9 => ⟨nofun, fun _ => ?_⟩
    have v9 := v8.of_ext e9
    refine mulV v9 (X v9) (Y v9) (by omega) (by omega) fun r3 h10 v10 k10 R3 => ?_
    refine mulV v10 (Y v10) (X v10) (by omega) (by omega) fun r4 h11 v11 k11 R4 => ?_
    refine same_true (R3.keep k11).rq R4.rq (Rat.mul_comm p q) fun h12 e12 => ⟨nofun, fun _ => ?_⟩
    have v12 := v11.of_ext e12
    refine addV v12 (Y v12) (Z v12) (by omega) (by omega) fun r5 h13 v13 k13 R5 => ?_
    refine mulV v13 (X v13) R5 (by omega) (by omega) fun r6 h14 v14 k14 R6 => ?_
    refine mulV v14 (X v14) (Y v14) (by omega) (by omega) fun r7 h15 v15 k15 R7 => ?_
    refine mulV v15 (X v15) (Z v15) (by omega) (by omega) fun r8 h16 v16 k16 R8 => ?_
    refine addV v16 (R7.keep k16) R8 (by omega) (by omega) fun r9 h17 v17 k17 R9 => ?_
    refine same_true (((R6.keep k15).keep k16).keep k17).rq R9.rq (Rat.mul_add p q r) fun h18 e18 => ⟨nofun, fun _ => ?_⟩
    have v18 := v17.of_ext e18
    refine ⟨_, v18.var, ?_⟩
    refine addV v18 (X v18) (Y v18) (by omega) (by omega) fun r10 h19 v19 k19 R10 => ⟨v19.var, ?_⟩
    refine subB v19 R10 (Y v19) (by omega) (by omega) fun r11 h20 v20 k20 R11 => ?_
    exact same_true R11.rq (X v20).rq (by grind) fun h21 e21 => ⟨rfl, v20.of_ext e21⟩
  rintro t h7 ⟨rfl, v7⟩
  refine ⟨nofun, fun _ => ?_⟩
  refine seq.cut (fun t h8 => t = false ∧ BV h c a 200 h8) ?_ ?_
  · refine Sign_spec (Y v7).rq fun h8 e8 => ⟨fun hne => ?_, fun _ => ⟨rfl, v7.of_ext e8⟩⟩
    have hq0 : q ≠ 0 := by
      rintro rfl
      simp at hne
    have v8 := v7.of_ext e8
    refine ⟨_, v8.var, ?_⟩
    refine mulV v8 (X v8) (Y v8) (by omega) (by omega) fun r1 h9 v9 k9 R1 => ⟨v9.var, ?_⟩
    refine divB v9 R1 (Y v9) hq0 (by omega) (by omega) fun r2 h10 v10 k10 R2 => ?_
    exact same_true R2.rq (X v10).rq (by grind) fun h11 e11 => ⟨rfl, v10.of_ext e11⟩
  rintro t h8 ⟨rfl, v8⟩
  refine ⟨nofun, fun _ => ?_⟩
  have rg := cmpR_range q p
  refine seq.cut (fun t h9 => t = true ∧ BV h c a 200 h9) ?_ ?_
  · refine CmpR_spec (X v8).rq (Y v8).rq (by omega) (pos v8) fun h9 e9 => ?_
    have v9 := v8.of_ext e9
    refine addV v9 (X v9) (Z v9) (by omega) (by omega) fun r1 h10 v10 k10 R1 => ?_
    refine addV v10 (Y v10) (Z v10) (by omega) (by omega) fun r2 h11 v11 k11 R2 => ?_
    refine CmpR_spec (R1.keep k11).rq R2.rq (by omega) (pos v11) fun h12 e12 => ?_
    rw [cmpR_add]
    refine ⟨fun _ => ?_, fun hn => by simp at hn⟩
    have v12 := v11.of_ext e12
    refine CmpR_spec (X v12).rq (Y v12).rq (by omega) (pos v12) fun h13 e13 => ?_
    have v13 := v12.of_ext e13
    refine CmpR_spec (Y v13).rq (X v13).rq (by omega) (pos v13) fun h14 e14 => ?_
    have v14 := v13.of_ext e14
    rw [w64 (by omega) (by omega), cmpR_swap p q]
    refine ⟨fun _ => ?_, fun hn => by simp at hn⟩
    refine ⟨_, v14.var, ?_⟩
    refine CmpR_spec (X v14).rq (Y v14).rq (by omega) (pos v14) fun h15 e15 => ?_
    have v15 := v14.of_ext e15
    refine ⟨v15.var, ?_⟩
    refine subB v15 (X v15) (Y v15) (by omega) (by omega) fun r3 h16 v16 k16 R3 => ?_
    refine Sign_spec R3.rq fun h17 e17 => ?_
    rw [cmpR_sub]
    refine ⟨fun _ => ?_, fun hn => by simp at hn⟩
    have v17 := v16.of_ext e17
    exact ⟨_, v17.var, Over_spec v17.bench ⟨rfl, v17⟩⟩
  · rintro t h9 ⟨rfl, v9⟩
    exact K _ v9.ext
end Go.Sh

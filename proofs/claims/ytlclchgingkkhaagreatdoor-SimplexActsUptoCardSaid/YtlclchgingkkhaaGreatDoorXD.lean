/-
  Laws that the proof of this claim's statement leans on, each proved under the conditions that it states.
-/
import Derived.Test.YtlclchgingkkhaaGreatDoorXC
set_option linter.unusedVariables false
set_option linter.unusedSimpArgs false
namespace Go.Sh
open Go Go.Lift
theorem aaU {K : Nat → Prop} {h : Heap} {u : Int} {r : X3} {k : Addr → Heap → Prop} (hr : RK K h r 1) (hK : ∀ k, K k → k < h.size)
    (C : ∀ a h', PK K h' (false, Sl.nil, Sl.nil, (⟨some a, 1, 1⟩ : Sl)) (0, [(u, 1)]) → Ext h h' → k a h') : new [Value.int .i64 u, Value.bool r.1, Sl.toV r.2.1, Sl.toV r.2.2] h k := by
  intro T
  refine C _ _ ⟨RK.zero, Nat.le_refl _, ⟨[(u, r.1, r.2.1, r.2.2)], RS.new len4 rfl rfl, .cons ⟨rfl, hr.ext (Ext.push _ _)⟩ .nil⟩, fun _ k hk hb => ?_⟩ (Ext.push _ _)
  have := hK k hk
  simp [Sl.blk] at hb
  omega
theorem afo (p q : PL) : (mvs p q).length ≤ p.length + q.length := by
  induction p, q using mvs.induct with
  | case1 => rw [aeV]; simp
  | case2 a as ih => rw [aeH]; simp at ih ⊢; omega
  | case3 b bs ih => rw [aeX]; simp at ih ⊢; omega
  | case4 a as b bs h1 ih1 ih2 =>
    rw [xD, if_pos h1]
    split <;> (simp at ih1 ih2 ⊢; omega)
  | case5 a as b bs h1 ih => rw [xD, if_neg h1]; simp at ih ⊢; omega
theorem aa7 {p q : Rat × PL} {c : Rat} : (addQ p c q).2.length ≤ p.2.length + q.2.length := by
  refine Nat.le_trans ?_ (afo p.2 q.2)
  exact List.length_filterMap_le _ _
theorem aco {p q : Rat × PL} {c : Rat} {A B C : Nat} (h1 : ∀ m ∈ p.2, szQ m.2 ≤ A) (hc : szQ c ≤ B) (h2 : ∀ m ∈ q.2, szQ m.2 ≤ C) : ∀ m ∈ (addQ p c q).2, szQ m.2 ≤ A + B + C + 4 := fun m hm => by
  obtain ⟨v, _, hv⟩ := List.mem_filterMap.1 hm
  dsimp only at hv
  split at hv
  · cases hv
  · cases hv
    have z1 := ib (v := v) h1
    have z2 := ib (v := v) h2
    have z3 := iD c (af q.2 v)
    have z4 := qW (af p.2 v) (c * af q.2 v)
    dsimp only
    omega
theorem aaw {p q : Rat × PL} {c : Rat} {A B C : Nat} (h1 : szQ p.1 ≤ A) (hc : szQ c ≤ B) (h2 : szQ q.1 ≤ C) : szQ (addQ p c q).1 ≤ A + B + C + 4 := by
  have z3 := iD c q.1
  have z4 := qW p.1 (c * q.1)
  show szQ (p.1 + c * q.1) ≤ _
  omega
theorem PK.push {K : Nat → Prop} {h h' : Heap} {s s' : Sl} {y : X4} {m : Rat × PL} (h3 : PK (fun k => K k ∨ s.blk = some k) h y m) (k' : Keep s.blk h h') (hb : s'.blk = s.blk ∨ ∀ b, s'.blk = some b → h.size ≤ b) : PK (fun k => K k ∨ s'.blk = some k) h' y m := by
  have h4 : PK (fun k => (K k ∨ s.blk = some k) ∨ s'.blk = some k) h y m := h3.raise fun k hk => by
    rcases hk with hk | hk
    · exact .inl hk
    · rcases hb with hb | hb
      · exact .inl (.inr (hb ▸ hk))
      · exact .inr (hb k hk)
  exact (h4.keep k' (fun k hk => .inl (.inr hk))).raise fun k hk => by
    rcases hk with hk | hk
    · exact .inl (.inl (.inl hk))
    · exact .inl (.inr hk)
def ada (t : TT) (i : Nat) (v : Int) : TT :=
  { t with bs := t.bs.set i v, ps := (t.ps.map (uR v (j7 v (at0 t.bs i) (psA t i)))).set i (j7 v (at0 t.bs i) (psA t i)) }
theorem i1 : ((1 : Int) : Rat) = 1 := rfl
theorem im1 : ((-1 : Int) : Rat) = -1 := rfl
section
variable {K : Nat → Prop} {h : Heap} {x : S5} {t : TT}
theorem aag {row v : Int} {Q : (S5 × Int) → Heap → Prop} (tk : TK K h x t) (hK : ∀ k, K k → k < h.size) (hbs : t.bs.length = t.ps.length) (hn : t.ps.length ≤ 1000)
    (sz : ∀ p ∈ t.ps, szQ p.1 ≤ 60 ∧ (∀ m ∈ p.2, szQ m.2 ≤ 60) ∧ p.2.length ≤ 400)
    (sS : ∀ i : Nat, row = (i : Int) → i < t.ps.length → af (psA t i).2 v ≠ 0 → szQ (j7 v (at0 t.bs i) (psA t i)).1 ≤ 60 ∧ (∀ m ∈ (j7 v (at0 t.bs i) (psA t i)).2, szQ m.2 ≤ 60) ∧ (j7 v (at0 t.bs i) (psA t i)).2.length ≤ 400)
    (C2 : row < 0 ∨ row ≥ (t.ps.length : Int) → ∀ h', Ext h h' → Q (x, 2) h')
    (C1 : ∀ i : Nat, row = (i : Int) → i < t.ps.length → af (psA t i).2 v = 0 → ∀ h', Ext h h' → Q (x, 1) h')
    (C0 : ∀ i : Nat, row = (i : Int) → i < t.ps.length → af (psA t i).2 v ≠ 0 → ∀ x' h', TK K h' x' (ada t i v) → Ext h h' → Q (x', 0) h') : gY x row v h Q := by
  have q := tk.q
  have hlr := q.rows.len
  refine aa fun h1 e1 => ?_
  refine seq.cut (fun b h' => h' = h1 ∧ (b = true ↔ (row < 0 ∨ row ≥ (t.ps.length : Int)))) ⟨fun g => ⟨rfl, by have := of_decide_eq_true g; simp [this]⟩, fun g => ⟨rfl, ?_⟩⟩ ?_
  · have g := of_decide_eq_false g
    rw [decide_eq_true_iff, hlr]; omega
  rintro b _ ⟨he, hbb⟩
  rw [he]; clear he
  refine ⟨fun g => C2 (hbb.1 g) h1 e1, fun g => ?_⟩
  have hno : ¬ (row < 0 ∨ row ≥ (t.ps.length : Int)) := fun hh => by rw [hbb.2 hh] at g; cases g
  obtain ⟨i, rfl⟩ : ∃ i : Nat, row = (i : Int) := ⟨row.toNat, by omega⟩
  have hi : i < t.ps.length := by omega
  have sS' := sS i rfl hi
  have C1' := C1 i rfl hi
  have C0' := C0 i rfl hi
  clear C0 C1 C2 hbb g sS hno
  obtain ⟨z1, z2, z3⟩ := sz _ (List.getElem_mem hi)
  have hT : ∀ hk : af (psA t i).2 v ≠ 0, (ada t i v).ps = (t.ps.map (uR v (j7 v (at0 t.bs i) (psA t i)))).set i (j7 v (at0 t.bs i) (psA t i)) := fun _ => rfl
  have hTb : ada t i v = ⟨t.bs.set i v, (t.ps.map (uR v (j7 v (at0 t.bs i) (psA t i)))).set i (j7 v (at0 t.bs i) (psA t i)), t.vs, t.lo, t.up⟩ := rfl
  rw [hTb] at C0'
  clear hT hTb
  have S1 : szQ (1 : Rat) ≤ 2 := nA (n := 1) (by decide)
  have Sm1 : szQ (-1 : Rat) ≤ 2 := by rw [mR]; exact S1
  have S0 : szQ (0 : Rat) = 0 := c6
  refine q.rows.ldE e1 rfl hi fun y hy => ?_
  rw [← bV hi] at hy z1 z2 z3
  refine kr (v := v) (hy.ext e1) (by omega) (fun m hm => by have := z2 m hm; omega) fun r h2 hr e2 => aa fun h3 e3 => ?_
  have e03 := e1.trans (e2.trans e3)
  have hz := hr.num.len_zero
  have hksz : szQ (af (psA t i).2 v) ≤ 60 := ib z2
  have hSd : j7 v (at0 t.bs i) (psA t i) = addQ (0, [(v, 1)]) (-(1 / af (psA t i).2 v)) (addQ (psA t i) (-1) (0, [(at0 t.bs i, 1)])) := rfl
  generalize hk : af (psA t i).2 v = k at *
  refine ⟨fun g => C1' (Rat.num_eq_zero.1 (by have := hz.1 (by simpa using g); omega)) h3 e03, fun g => ?_⟩
  have hk0 : k ≠ 0 := fun h0 => by
    have : r.2.1.len = 0 := hz.2 (by rw [h0]; rfl)
    simp [this] at g
  refine RJ.ld (R.ext q.bas e03) rfl (by omega) ?_
  generalize hu : at0 t.bs i = u at *
  have hpp := bV hi
  generalize hp0 : psA t i = p at *
  have hp : t.ps[i] = p := hpp.symm
  clear C1'
  refine gJ (n := 1) (by decide) fun one h4 hone e4 => aa fun h5 e5 => ?_
  rw [i1] at hone
  have e05 := e03.trans (e4.trans e5)
  have hone5 := hone.ext e5
  have hr5 := hr.ext (e3.trans (e4.trans e5))
  -- one sum less so many times an unknown
  have less : ∀ {hh : Heap} {r' : X3} {c : Rat} {w : Int} {j : Nat} {J : X4 → Heap → Prop}, Ext h5 hh → (hj : j < t.ps.length) → RD hh r' c → szQ c ≤ 62 → (∀ z h', PQ h' z (addQ t.ps[j] c (0, [(w, 1)])) → Ext hh h' → J z h') →
      ∀ {a : Addr} {y' : X4}, cells? hh a 4 0 = some (CP y') → PQ h y' t.ps[j] → mem hh fun h8 => bq one h8 fun o1 h9 => (cells? h9 a 4 0 = some (CP y')) ∧ mem h9 fun h10 => new [Value.int .i64 w, Value.bool o1.1, Sl.toV o1.2.1, Sl.toV o1.2.2] h10 fun a6 h11 => (cells? h11 a 4 0 = some (CP y')) ∧ mem h11 fun h12 => et y' r' (false, Sl.nil, Sl.nil, (⟨some a6, 1, 1⟩ : Sl)) h12 fun z h13 => mem h13 fun h14 => J z h14 := by
    intro hh r' c w j J eh hj hr' hc J' a y' hya hy'
    obtain ⟨w1, w2, w3⟩ := sz _ (List.getElem_mem hj)
    refine aa fun h8 e8 => mY (hone5.ext (eh.trans e8)) (by omega) fun o1 h9 ho1 _ e9 => ⟨bf (e8.trans e9) (by simp) hya, aa fun h10 e10 => ?_⟩
    refine aaU (K := K0) (RK.of_rq (ho1.ext e10) fun k hk => hk.elim) (fun k hk => hk.elim) fun a6 h11 hm e11 => ⟨bf (((e8.trans e9).trans e10).trans e11) (by simp) hya, aa fun h12 e12 => ?_⟩
    have e812 := (((e8.trans e9).trans e10).trans e11).trans e12
    refine acr (hy'.ext (e05.trans (eh.trans e812))) (hr'.ext e812) (hm.pq.ext e12) (by omega) (by omega) (fun m hm => by have := w2 m hm; omega) (by show szQ (0 : Rat) ≤ 200; omega) (fun m hm => by simp at hm; subst hm; exact Nat.le_trans S1 (by decide)) (by omega) (by simp) fun z h13 hz' e13 => aa fun h14 e14 => ?_
    exact J' z h14 (hz'.ext e14) ((e812.trans e13).trans e14)
  refine seq.cut (fun w h' => PQ h' w (addQ p (-1) (0, [(u, 1)])) ∧ Ext h5 h') ?_ ?_
  · refine q.rows.atE e05 rfl hi fun a y' hya hy' => ⟨y', hya, aa fun h6 e6 => ?_⟩
    refine gJ (n := -1) (by decide) fun m1 h7 hm1 e7 => ⟨bf (e6.trans e7) (by simp) hya, ?_⟩
    rw [im1] at hm1
    exact less (e6.trans e7) hi hm1 (by omega) (fun z h' hz' e' => ⟨by rw [← hp]; exact hz', (e6.trans e7).trans e'⟩) (bf (e6.trans e7) (by simp) hya) hy'
  rintro zero h6 ⟨hzero, e6⟩
  have n1 : szQ (1 / k) ≤ 70 := by
    have := aeB 1 k hk0
    omega
  refine w9 (hone5.ext e6) (hr5.ext e6) (by omega) fun d h7 hd e7 => gt hd fun ng h8 hng e8 => aa fun h9 e9 => ?_
  have e59 := ((e6.trans e7).trans e8).trans e9
  have e09 := e05.trans e59
  refine seq.cut (fun w h' => PK K h' w (addQ (0, [(v, 1)]) (-(1 / k)) (addQ p (-1) (0, [(u, 1)]))) ∧ Ext h9 h') ?_ ?_
  · refine aa fun h10 e10 => mY (hone5.ext (e59.trans e10)) (by omega) fun o1 h11 ho1 _ e11 => aa fun h12 e12 => ?_
    refine aaU (K := K0) (RK.of_rq (ho1.ext e12) fun k hk => hk.elim) (fun k hk => hk.elim) fun a6 h13 hm e13 => aa fun h14 e14 => ?_
    have e914 := (((e10.trans e11).trans e12).trans e13).trans e14
    have l1 := aa7 (p := p) (q := (0, [(u, 1)])) (c := -1)
    have l2 := aco (p := p) (q := (0, [(u, 1)])) (c := -1) (C := 2) z2 Sm1 (fun m hm => by simp at hm; subst hm; exact S1)
    have l3 := aaw (p := p) (q := (0, [(u, 1)])) (c := -1) (C := 0) z1 Sm1 (Nat.le_of_eq S0)
    refine mm (KX := K) (fun k hk => Nat.lt_of_lt_of_le (hK k hk) (e09.trans e914).size) (hm.pq.ext e14) (hng.ext (e9.trans e914)) (hzero.ext (((e7.trans e8).trans e9).trans e914)) (by rw [mR]; omega) (by show szQ (0 : Rat) ≤ 200; omega) (fun m hm => by simp at hm; subst hm; exact Nat.le_trans S1 (by decide)) (by omega) (fun m hm => by have := l2 m hm; omega) (by simp) (by simp at l1; omega) fun z h15 hz1 hz2 e15 => aa fun h16 e16 => ?_
    exact ⟨PK.keep ⟨hz1, hz2⟩ e16 (by simp), (e914.trans e15).trans e16⟩
  rintro S' h10 ⟨hS, e10⟩
  rw [← hSd] at hS
  generalize hSS : j7 v u p = S at *
  have e010 := e09.trans e10
  have e510 := e59.trans e10
  intro T
  have e11 := Ext.push h10 (.cells ([] : List Value).toArray T (0, 0))
  have ho : OwnS CP 4 h10.size (h10.push (.cells ([] : List Value).toArray T (0, 0))) ⟨some ⟨h10.size, 0, none⟩, 0, 0⟩ ([] : List X4) := OwnS.nil (n := 0)
  generalize (h10.push (.cells ([] : List Value).toArray T (0, 0)) : Heap) = h11 at *
  have hK10 : ∀ k, K k → k < h10.size := fun k hk => Nat.lt_of_lt_of_le (hK k hk) e010.size
  rintro _ rfl
  obtain ⟨M, hM⟩ : ∃ M, M = (t.ps.map (uR v S)).set i S := ⟨_, rfl⟩
  have hMl : M.length = t.ps.length := by rw [hM]; simp
  have hMi : ∀ j (hj : j < t.ps.length), M[j]'(by omega) = if j = i then S else uR v S t.ps[j] := fun j hj => by
    subst hM
    rw [List.getElem_set]
    by_cases hij : i = j
    · rw [if_pos hij, if_pos hij.symm]
    · rw [if_neg hij, if_neg fun e => hij e.symm, List.getElem_map]
  refine loop.inv (fun s h' => ∃ (j : Nat) (lst : Sl), s = (lst, (j : Int)) ∧ j ≤ t.ps.length ∧ OP K h10.size h' lst (M.take j) ∧ PK (fun k => K k ∨ lst.blk = some k) h' S' S ∧ Ext h10 h') (fun s _ => t.ps.length - s.2.toNat)
    ⟨0, _, rfl, by omega, ⟨hK10, [], ho, .nil⟩, (hS.raise fun k hk => hk.imp id fun hb => (ho.lt hb).1).keep e11 (by simp), e11⟩ ?_
  rintro _ h12 ⟨j, lst, rfl, hj, o12, S12, e12⟩
  rw [hlr]
  refine ⟨fun hlt => ?_, fun hge => ?_⟩
  · simp only [decide_eq_true_eq] at hlt
    have hj' : j < t.ps.length := by omega
    have htk : M.take (j + 1) = M.take j ++ [M[j]'(by omega)] := List.take_succ_eq_append_getElem (by omega)
    rw [hMi j hj'] at htk
    have hKl : ∀ k, K k ∨ lst.blk = some k → k < h12.size := fun k hk => hk.elim (fun hk => Nat.lt_of_lt_of_le (hK10 k hk) e12.size) fun hk => (o12.lt hk).2
    refine seq.cut (fun lst' h' => OP K h10.size h' lst' (M.take (j + 1)) ∧ PK (fun k => K k ∨ lst'.blk = some k) h' S' S ∧ Ext h10 h') ⟨fun g => ?_, fun g => ?_⟩ ?_
    · have hji : j = i := by simp at g; omega
      rw [htk, if_pos hji]
      refine o12.push e12.size S12 (by rw [List.length_take]; omega) fun s' h13 o13 k13 b13 => ⟨o13, S12.push k13 b13, Keep.freshB e12 (fun b hb => (o12.lt hb).1) k13⟩
    · have hji : ¬ j = i := by simp at g; omega
      rw [htk, if_neg hji]
      obtain ⟨w1, w2, w3⟩ := sz _ (List.getElem_mem hj')
      refine q.rows.ldE (e010.trans e12) rfl hj' fun y2 hy2 => ?_
      refine kr (v := v) (hy2.ext (e010.trans e12)) (by omega) (fun m hm => by have := w2 m hm; omega) fun r2 h13 hr2 e13 => aa fun h14 e14 => ?_
      have hmz : szQ (af t.ps[j].2 v) ≤ 60 := ib w2
      have hFd : uR v S t.ps[j] = addQ (addQ t.ps[j] (-(af t.ps[j].2 v)) (0, [(v, 1)])) (af t.ps[j].2 v) S := rfl
      rw [hFd]; clear hFd
      generalize af t.ps[j].2 v = m at *
      have e514 := (e510.trans e12).trans (e13.trans e14)
      refine seq.cut (fun w h' => PQ h' w (addQ t.ps[j] (-m) (0, [(v, 1)])) ∧ Ext h14 h') ?_ ?_
      · refine q.rows.atE (e05.trans e514) rfl hj' fun a y' hya hy' => ⟨y', hya, aa fun h15 e15 => ?_⟩
        refine gt (hr2.ext (e14.trans e15)) fun ng2 h16 hng2 e16 => ⟨bf (e15.trans e16) (by simp) hya, ?_⟩
        exact less (e514.trans (e15.trans e16)) hj' hng2 (by rw [mR]; omega) (fun z h' hz' e' => ⟨hz', (e15.trans e16).trans e'⟩) (bf (e15.trans e16) (by simp) hya) hy'
      rintro w h15 ⟨hw, e15⟩
      have l1 := aa7 (p := t.ps[j]) (q := (0, [(v, 1)])) (c := -m)
      have l2 := aco (p := t.ps[j]) (q := (0, [(v, 1)])) (c := -m) (B := 60) (C := 2) w2 (by rw [mR]; omega) (fun m hm => by simp at hm; subst hm; exact S1)
      have l3 := aaw (p := t.ps[j]) (q := (0, [(v, 1)])) (c := -m) (B := 60) (C := 0) w1 (by rw [mR]; omega) (Nat.le_of_eq S0)
      obtain ⟨s1, s2, s3⟩ := sS' hk0
      have e1215 := (e13.trans e14).trans e15
      refine mm (KX := fun k => K k ∨ lst.blk = some k) (fun k hk => Nat.lt_of_lt_of_le (hKl k hk) e1215.size) hw (hr2.ext (e14.trans e15)) (S12.pq.ext e1215) (by omega) (by omega) (fun m hm => by have := l2 m hm; omega) (by omega) (fun m hm => by have := s2 m hm; omega) (by simp at l1; omega) (by omega) fun z h16 hz1 hz2 e16 => ?_
      have e1216 := e1215.trans e16
      refine (o12.ext e1216).push (e12.trans e1216).size (y := z) ⟨hz1, hz2⟩ (by rw [List.length_take]; omega) fun s' h17 o17 k17 b17 => ⟨o17, (S12.keep e1216 (by simp)).push k17 b17, Keep.freshB (e12.trans e1216) (fun b hb => (o12.lt hb).1) k17⟩
    · rintro lst' h13 ⟨o13, S13, e13⟩ i' hi'
      refine ⟨⟨j + 1, lst', by rw [hi', w64 (by dsimp only; omega) (by dsimp only; omega)]; rfl, by omega, o13, S13, e13⟩, by rw [hi', w64 (by dsimp only; omega) (by dsimp only; omega)]; dsimp only; omega⟩
  · simp only [decide_eq_false_iff_not] at hge
    have hjn : j = t.ps.length := by omega
    subst hjn
    rw [List.take_of_length_le (by omega), hM] at o12
    have e012 := e010.trans e12
    intro T
    have e13 := Ext.push h12 (.cells ([] : List Value).toArray T (0, 0))
    have hob := Own.new (toV := (Value.int .i64)) (h := h12) (ys := []) (cs := []) (T := T) rfl
    generalize (h12.push (.cells ([] : List Value).toArray T (0, 0)) : Heap) = h13 at *
    refine Own.append (bytes := 8) (B := h12.size) (xs := []) hob e13.size (R.ext q.bas (e012.trans e13)) (fun _ => rfl) (by simp; omega) fun r h14 o14 k14 b14 => ?_
    have o14 : Own (Value.int .i64) h12.size h14 r t.bs := by simpa using o14
    have e14 : Ext h12 h14 := e13.fresh (Nat.le_refl _) k14
    have hil : i < t.bs.length := by omega
    have hcl := o14.r.len
    obtain ⟨ac, hac, hcc⟩ := o14.r.get hil
    refine ⟨ac, hac, ⟨by omega, by omega⟩, ?_⟩
    simp only [Int.toNat_natCast, Nat.mul_one]
    refine o14.store hil hac v fun h15 o15 k15 n15 => ?_
    have e15 : Ext h12 h15 := Keep.freshB e14 (fun b hb => (o14.lt hb).1) k15
    have t15 := tk.ext (e012.trans e15)
    exact C0' hk0 (r, lst, x.2.2) h15 ⟨o15.r, fun _ b hb hk => by have := (o15.lt hb).1; have := hK10 b hk; have := e12.size; omega, (o12.ext e15).mk', t15.vals, t15.lo, t15.up⟩ (e012.trans e15)
end
end Go.Sh

namespace Go.Sh
open Go Go.Lift
theorem p9 : ∀ (n : Nat) (l : List Int), l.Nodup → (∀ x ∈ l, 0 ≤ x ∧ x < (n : Int)) → l.length ≤ n
  | 0, [], _, _ => Nat.le_refl _
  | 0, x :: l, _, h => by have := h x (by simp); omega
  | n + 1, l, hl, h => by
    by_cases hm : (n : Int) ∈ l
    · have h1 := p9 n (l.erase (n : Int)) (hl.erase _) fun x hx => by
        obtain ⟨h2, h3⟩ := (hl.mem_erase_iff).1 hx
        have := h x h3
        omega
      have := List.length_erase_of_mem hm
      omega
    · have := p9 n l hl fun x hx => by
        have h1 := h x hx
        have : x ≠ (n : Int) := fun e => hm (e ▸ hx)
        omega
      omega
structure FitT (t : TT) (reals : Nat) : Prop where
  g : RG t
  nr : reals ≤ 20
  np : t.ps.length ≤ 6
  nv : t.vs.length = reals + t.ps.length
  pm : ∀ p ∈ t.ps, bW 60 p = true
  v : ∀ e ∈ t.vs, szD e ≤ 60
  lo : ∀ e ∈ t.lo, szD e.2 ≤ 60
  up : ∀ e ∈ t.up, szD e.2 ≤ 60
section
variable {t : TT} {reals : Nat}
theorem pw {p : Rat × PL} (hp : p ∈ t.ps) : ∃ i, i < t.ps.length ∧ p = psA t i := by
  obtain ⟨i, hi, rfl⟩ := List.getElem_of_mem hp
  exact ⟨i, hi, (bV hi).symm⟩
theorem FitT.len (f : FitT t reals) {p : Rat × PL} (hp : p ∈ t.ps) : p.2.length ≤ 20 := by
  obtain ⟨i, hi, rfl⟩ := pw hp
  have r := f.g.row i hi
  have lb := f.g.lb
  have n1 : (psA t i).2.Pairwise fun a b => a.1 ≠ b.1 := r.rt.srt.imp fun h => by omega
  have n2 : ((psA t i).2.map (·.1)).Nodup := List.pairwise_map.2 n1
  have n3 : t.bs.Nodup := List.pairwise_iff_getElem.2 fun a b ha hb hab => by
    have := f.g.dis a b (by omega) (by omega) (by omega)
    rwa [gh ha, gh hb] at this
  have n4 : ((psA t i).2.map (·.1) ++ t.bs).Nodup := List.nodup_append.2 ⟨n2, n3, fun a ha b hb e => by
    obtain ⟨m, hm, rfl⟩ := List.mem_map.1 ha
    obtain ⟨k, hk, rfl⟩ := List.getElem_of_mem hb
    have := (r.vars m hm).2 k (by omega)
    rw [gh hk] at this
    exact this e⟩
  have := p9 t.vs.length _ n4 fun x hx => by
    rcases List.mem_append.1 hx with hx | hx
    · obtain ⟨m, hm, rfl⟩ := List.mem_map.1 hx
      exact ⟨r.rt.nn m hm, (r.vars m hm).1⟩
    · obtain ⟨k, hk, rfl⟩ := List.getElem_of_mem hx
      have := f.g.rng k (by omega)
      rwa [gh hk] at this
  simp only [List.length_append, List.length_map] at this
  have := f.nv; have := f.nr
  omega
theorem FitT.tsz (f : FitT t reals) : TSz t 20 60 := by
  have lb := f.g.lb; have ll := f.g.ll; have lu := f.g.lu; have nv := f.nv; have nr := f.nr; have np := f.np
  refine ⟨fun p hp => ?_, fun p hp => f.len hp, fun p hp => (adk.1 (f.pm p hp)).1, fun p hp => (adk.1 (f.pm p hp)).2, f.v, f.lo, f.up, by omega, by omega, by omega, by omega, by omega⟩
  obtain ⟨i, hi, rfl⟩ := pw hp
  exact (f.g.row i hi).rt
theorem FitT.ok (f : FitT t reals) : ∀ p ∈ t.ps, PvOk 60 p := fun p hp => by
  have z := adk.1 (f.pm p hp)
  have l := f.len hp
  obtain ⟨i, hi, rfl⟩ := pw hp
  have r := f.g.row i hi
  have nv := f.nv; have nr := f.nr; have np := f.np
  exact ⟨r.rt.srt, fun m hm => ⟨r.rt.nn m hm, by have := (r.vars m hm).1; omega⟩, by omega, z.1, z.2⟩
theorem FitT.piv {i : Nat} {v : Int} (f : FitT t reals) (hi : i < t.ps.length) (hk : af (psA t i).2 v ≠ 0) (hp : ∀ p ∈ (pivT t i v).ps, bW 60 p = true) : FitT (pivT t i v) reals :=
  ⟨f.g.pivT hi hk, f.nr, by rw [g9]; exact f.np, by rw [g9]; exact f.nv, hp, f.v, f.lo, f.up⟩
theorem FitT.upd {v : Int} {d : Rat × Rat} (f : FitT t reals) (h0 : 0 ≤ v) (h1 : v < (t.vs.length : Int)) (h2 : rowI t.bs v < 0) (hv : ∀ e ∈ (updT t v d).vs, szD e ≤ 60) : FitT (updT t v d) reals := by
  have g := f.g.updT (d := d) h0 h1 h2
  refine ⟨g, f.nr, f.np, ?_, f.pm, hv, f.lo, f.up⟩
  rw [← g.ll]
  show t.lo.length = _
  rw [f.g.ll, f.nv]; rfl
theorem aaZ {i : Nat} {v : Int} (g : RG t) (hi : i < t.ps.length) (hk : af (psA t i).2 v ≠ 0) : ada t i v = pivT t i v := by
  have tr : ∀ j, j < t.ps.length → RowG (fun _ => True) (psA t j) := fun j hj => ⟨(g.row j hj).rt, (g.row j hj).c, fun _ _ => trivial⟩
  have hu := g.rng i hi
  have hS : j7 v (at0 t.bs i) (psA t i) = pivS v (at0 t.bs i) (psA t i) :=
    aeb (tr i hi) hk (cB fun m hm => ((g.row i hi).vars m hm).2 i hi) hu.1 trivial
  unfold ada pivT
  rw [hS]
  have sG := vT (v := v) (tr i hi) trivial hu.1
  have hm : t.ps.map (uR v (pivS v (at0 t.bs i) (psA t i))) = t.ps.map (pivF v (pivS v (at0 t.bs i) (psA t i))) := List.map_congr_left fun p hp => by
    obtain ⟨j, hj, rfl⟩ := pw hp
    exact adR (tr j hj) sG.rt.srt sG.c
  rw [hm]
theorem FitT.new {ps : List (Rat × PL)} (nr : reals ≤ 20) (np : ps.length ≤ 6) (rt : ∀ p ∈ ps, Rt p) (c : ∀ p ∈ ps, p.1 = 0) (hl : ∀ p ∈ ps, ∀ m ∈ p.2, m.1 < (reals : Int)) (hf : ∀ p ∈ ps, bW 60 p = true) : FitT (newT reals ps) reals := by
  have ab : ∀ k, k < ps.length → at0 (newT reals ps).bs k = ((reals + k : Nat) : Int) := fun k hk => by
    rw [gh (by simpa [newT] using hk)]
    simp [newT]
  have pa : ∀ k (hk : k < ps.length), psA (newT reals ps) k = ps[k] := fun k hk => bV (t := newT reals ps) hk
  have at00 : ∀ w, atD (List.replicate (reals + ps.length) ((0, 0) : Rat × Rat)) w = (0, 0) := fun w => by
    unfold atD
    rw [List.getD_eq_getElem?_getD, List.getElem?_replicate]
    split <;> rfl
  have val0 : ∀ {f : Int → Rat} {l : PL}, (∀ w, f w = 0) → valL f l = 0 := fun {f l} h0 => by
    induction l with
    | nil => rfl
    | cons m l ih => simp only [valL, ih, h0]; grind
  have z0 : szD ((0, 0) : Rat × Rat) ≤ 60 := by rw [dF]; omega
  refine ⟨⟨by simp [newT], by simp [newT], by simp [newT], fun e he => ?_, fun e he => ?_, fun i hi => ?_, fun i k hi hk hik => ?_, fun i hi => ?_, fun i hi => ?_⟩, nr, np, by simp [newT], hf, fun e he => ?_, fun e he => ?_, fun e he => ?_⟩
  · have := List.eq_of_mem_replicate he; subst this; exact fun _ => rfl
  · have := List.eq_of_mem_replicate he; subst this; exact fun _ => rfl
  · rw [ab i hi]
    have hi : i < ps.length := hi
    simp [newT]; omega
  · rw [ab i hi, ab k hk]; omega
  · have hi : i < ps.length := hi
    rw [pa i hi]
    have hm := List.getElem_mem hi
    refine ⟨rt _ hm, c _ hm, fun m hm' => ⟨?_, fun k hk => ?_⟩⟩
    · have := hl _ hm m hm'
      simp [newT]; omega
    · have hk : k < ps.length := hk
      rw [ab k hk]
      have := hl _ hm m hm'
      omega
  · show valV (atD (List.replicate (reals + ps.length) ((0, 0) : Rat × Rat))) _ = atD (List.replicate (reals + ps.length) ((0, 0) : Rat × Rat)) _
    rw [at00]
    unfold valV
    rw [val0 fun w => by rw [at00], val0 fun w => by rw [at00]]
  · have := List.eq_of_mem_replicate he; subst this; exact z0
  · have := List.eq_of_mem_replicate he; subst this; exact z0
  · have := List.eq_of_mem_replicate he; subst this; exact z0
end
end Go.Sh

namespace Go.Sh
open Go Go.Lift
theorem wd {h0 h : Heap} {rows : Sl} {n : Int} {ys : List X4} {Q : Bool → Heap → Prop} (hs : RS CP 4 h rows ys) (e0 : Ext h0 h) (hraw : ∀ y ∈ ys, abL h0 y)
    (K : ∀ b h', (b = false → ys.length ≤ 6 ∧ n ≤ 20 ∧ ∀ y ∈ ys, SmP h0 y) → Ext h h' → Q b h') : kg rows n h Q := by
  have hl := hs.len
  refine seq.dup ⟨fun _ => K true h nofun (Keep.refl _ _), fun g => ⟨fun _ => K true h nofun (Keep.refl _ _), fun g2 => ?_⟩⟩
  have g := of_decide_eq_false g
  have g2 := of_decide_eq_false g2
  exact adO hs e0 (by omega) (fun y hy => (hraw y hy).1) fun b h' hb e => K b h' (fun hf => ⟨by omega, by omega, hb hf⟩) e
def Did (t t' : TT) (u : Bool) (row v : Int) (d : Rat × Rat) (e : Int) : Prop :=
  (u = true ∧ ((e = 2 ∧ t' = t ∧ (v < 0 ∨ v ≥ (t.vs.length : Int) ∨ rowI t.bs v ≥ 0)) ∨ (e = 0 ∧ t' = updT t v d ∧ 0 ≤ v ∧ v < (t.vs.length : Int) ∧ rowI t.bs v < 0 ∧ ∀ e ∈ (updT t v d).vs, szD e ≤ 60))) ∨
  (u = false ∧ ((e = 2 ∧ t' = t ∧ (row < 0 ∨ row ≥ (t.ps.length : Int))) ∨ (e = 1 ∧ t' = t ∧ ∃ i : Nat, row = (i : Int) ∧ i < t.ps.length ∧ af (psA t i).2 v = 0) ∨
    (e = 0 ∧ ∃ i : Nat, row = (i : Int) ∧ i < t.ps.length ∧ af (psA t i).2 v ≠ 0 ∧ t' = pivT t i v ∧ ∀ p ∈ (pivT t i v).ps, bW 60 p = true)))
section
variable {h0 h : Heap} {V : Vol} {x : S5} {t : TT} {n : Nat}
variable {K : Nat → Prop} {y : S5} {t' : TT}
theorem ac2 {v row : Int} {x0 : X6} {d : Rat × Rat} {e : Int} {Q : (S5 × Int) → Heap → Prop} (tk : TK K h y t) (hK : ∀ k, K k → k < h.size) (f : FitT t n) (hd : DK K h x0 d) (hds : szD d ≤ 60) (D : Did t t' true row v d e)
    (C : ∀ y' h', TK K h' y' t' → Ext h h' → Q (y', e) h') : ex y v x0 h Q := by
  have lb := f.g.lb; have nr := f.nr; have np := f.np; have nv := f.nv
  have D : (e = 2 ∧ t' = t ∧ (v < 0 ∨ v ≥ (t.vs.length : Int) ∨ rowI t.bs v ≥ 0)) ∨ (e = 0 ∧ t' = updT t v d ∧ 0 ≤ v ∧ v < (t.vs.length : Int) ∧ rowI t.bs v < 0 ∧ ∀ e ∈ (updT t v d).vs, szD e ≤ 60) := by
    rcases D with ⟨_, D⟩ | ⟨h, _⟩
    · exact D
    · cases h
  refine vX (B := 60) (d := d) tk hK hd lb (by omega) (by omega) (by decide) (fun p hp m hm => ?_) (fun p hp => (adk.1 (f.pm p hp)).2) (fun p hp => by have := f.len hp; omega) (fun p hp => by have := f.len hp; omega) f.g.rng (fun i k hi hk hik e => ?_) (fun h1 h2 h3 => ?_) (fun hh h' e' => ?_) fun r h' h1 h2 h3 q' e' => ?_
  · obtain ⟨i, hi, rfl⟩ := pw hp
    have r := f.g.row i hi
    exact ⟨r.rt.nn m hm, (r.vars m hm).1⟩
  · have := f.g.rng i hi; have := f.g.rng k hk; have := f.g.dis i k hi hk hik
    omega
  · rcases D with ⟨_, _, hh⟩ | ⟨_, _, _, _, _, hv⟩
    · omega
    · refine ⟨fun e he => ?_, fun e he => ?_⟩
      · rcases List.mem_or_eq_of_mem_set he with he | rfl
        · exact f.v e he
        · exact hds
      · rw [← qG (f.g.upd h1 h2 h3)] at hv
        exact hv e he
  · rcases D with ⟨rfl, rfl, _⟩ | ⟨_, _, _, _, _, hv⟩
    · exact C y h' (tk.ext e') e'
    · omega
  · rcases D with ⟨_, _, hh⟩ | ⟨rfl, rfl, _, _, _, hv⟩
    · omega
    · refine C _ h' ?_ e'
      rw [← qG (f.g.upd h1 h2 h3)]
      exact q'
theorem afO {v row : Int} {d : Rat × Rat} {e : Int} {Q : (S5 × Int) → Heap → Prop} (tk : TK K h y t) (hK : ∀ k, K k → k < h.size) (f : FitT t n) (f' : FitT t' n) (D : Did t t' false row v d e)
    (C : ∀ y' h', TK K h' y' t' → Ext h h' → Q (y', e) h') : gY y row v h Q := by
  have lb := f.g.lb; have nr := f.nr; have np := f.np; have nv := f.nv
  have D : (e = 2 ∧ t' = t ∧ (row < 0 ∨ row ≥ (t.ps.length : Int))) ∨ (e = 1 ∧ t' = t ∧ ∃ i : Nat, row = (i : Int) ∧ i < t.ps.length ∧ af (psA t i).2 v = 0) ∨
    (e = 0 ∧ ∃ i : Nat, row = (i : Int) ∧ i < t.ps.length ∧ af (psA t i).2 v ≠ 0 ∧ t' = pivT t i v ∧ ∀ p ∈ (pivT t i v).ps, bW 60 p = true) := by
    rcases D with ⟨h, _⟩ | ⟨_, D⟩
    · cases h
    · exact D
  refine aag tk hK lb (by omega) (fun p hp => ?_) (fun i h1 h2 h3 => ?_) (fun hh h' e' => ?_) (fun i h1 h2 h3 h' e' => ?_) fun i h1 h2 h3 x' h' q' e' => ?_
  · have z := adk.1 (f.pm p hp)
    exact ⟨z.1, z.2, by have := f.len hp; omega⟩
  · rcases D with ⟨_, _, hh⟩ | ⟨_, _, k, g1, g2, g3⟩ | ⟨_, k, g1, g2, g3, rfl, g5⟩
    · omega
    · have : i = k := by omega
      subst this; exact absurd g3 h3
    · have : i = k := by omega
      subst this
      have hm : j7 v (at0 t.bs i) (psA t i) ∈ (pivT t i v).ps := by
        rw [← aaZ f.g h2 h3]
        exact List.mem_set (by simpa using h2) _
      have z := adk.1 (g5 _ hm)
      exact ⟨z.1, z.2, by have := f'.len hm; omega⟩
  · rcases D with ⟨rfl, rfl, _⟩ | ⟨_, _, k, g1, g2, g3⟩ | ⟨_, k, g1, g2, g3, _, g5⟩
    · exact C y h' (tk.ext e') e'
    · omega
    · omega
  · rcases D with ⟨_, _, hh⟩ | ⟨rfl, rfl, k, g1, g2, g3⟩ | ⟨_, k, g1, g2, g3, _, g5⟩
    · omega
    · exact C y h' (tk.ext e') e'
    · have : i = k := by omega
      subst this; exact absurd h3 g3
  · rcases D with ⟨_, _, hh⟩ | ⟨_, _, k, g1, g2, g3⟩ | ⟨rfl, k, g1, g2, g3, rfl, g5⟩
    · omega
    · have : i = k := by omega
      subst this; exact absurd g3 h3
    · have : i = k := by omega
      subst this
      rw [aaZ f.g h2 h3] at q'
      exact C x' h' q' e'
end
end Go.Sh

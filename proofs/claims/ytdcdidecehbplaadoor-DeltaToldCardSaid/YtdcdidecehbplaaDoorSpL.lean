/-
  Laws that the proof of this claim's statement leans on, each proved under the conditions that it states.
-/
import Derived.Test.YtdcdidecehbplaaDoorSpS
set_option linter.unusedVariables false
set_option linter.unusedSimpArgs false
namespace Go.Sh
open Go Go.Lift

/-! ### Rows of structs -/
structure RS {α : Type} (toC : α → List Value) (sz : Nat) (h : Heap) (s : Sl) (xs : List α) : Prop where
  len : s.len = xs.length
  cells : ∀ i (hi : i < xs.length), ∃ a, s.a = some a ∧ cells? h (a.add (i * sz)) sz 0 = some (toC xs[i])
theorem cells_ext {h h' : Heap} (e : Ext h h') {a : Addr} : ∀ {n i : Nat} {l : List Value}, cells? h a n i = some l → cells? h' a n i = some l := by
  intro n
  induction n with
  | zero => intro i l h; simpa [cells?] using h
  | succ n ih =>
    intro i l h
    simp only [cells?] at h ⊢
    split at h
    · rename_i v r h1 h2
      simp only [Option.some.injEq] at h; subst h
      rw [cell_keep e h1 (by simp), ih h2]
    · cases h
theorem RS.ext {α : Type} {toC : α → List Value} {sz : Nat} {h h' : Heap} {s : Sl} {xs : List α} (hr : RS toC sz h s xs) (e : Ext h h') : RS toC sz h' s xs :=
  ⟨hr.len, fun i hi => by obtain ⟨a, ha, hc⟩ := hr.cells i hi; exact ⟨a, ha, cells_ext e hc⟩⟩
theorem RS.ld {α : Type} {toC : α → List Value} {sz : Nat} {h : Heap} {s : Sl} {xs : List α} {i : Int} {j : Nat} {k : α → Prop} (hr : RS toC sz h s xs) (hij : i = (j : Int)) (hj : j < xs.length) (K : k xs[j]) : idxS s i sz fun a => loadS toC sz a h k := by
  subst hij
  obtain ⟨a, ha, hc⟩ := hr.cells j hj
  have := hr.len
  exact ⟨a, ha, ⟨by omega, by omega⟩, _, by simpa using hc, K⟩
theorem RS.nil {α : Type} {toC : α → List Value} {sz : Nat} {h : Heap} {s : Sl} (hs : s.len = 0) : RS toC sz h s ([] : List α) := ⟨hs, fun i hi => by simp at hi⟩
theorem cells_new {h : Heap} {cs : List Value} {T : Nat} {n : Nat} : ∀ {m i : Nat}, i + m = n → n ≤ cs.length → cells? (h.push (.cells cs.toArray T (0, 0))) ⟨h.size, 0, none⟩ m i = some ((cs.take n).drop i) := by
  intro m
  induction m with
  | zero => intro i hi hn; simp only [cells?]; rw [List.drop_eq_nil_of_le]; simp; omega
  | succ m ih =>
    intro i hi hn
    have hlt : i < cs.length := by omega
    simp only [cells?]
    rw [cell_push_new_add, ih (i := i + 1) (by omega) hn]
    have h1 : cs.toArray[i]? = some cs[i] := by simp [hlt]
    rw [h1]
    have hlt2 : i < (cs.take n).length := by simp; omega
    rw [List.drop_eq_getElem_cons hlt2]
    simp
theorem addr_add_zero (a : Addr) : a.add 0 = a := by simp [Addr.add]
theorem cells_add {h : Heap} {a : Addr} (hs : a.spot = none) (o : Nat) : ∀ {n i : Nat}, cells? h (a.add o) n i = cells? h a n (o + i) := by
  intro n
  induction n with
  | zero => intro i; rfl
  | succ n ih =>
    intro i
    have hs' : (a.add o).spot = none := (add_kept hs o).2.2
    have e : (a.add o).add i = a.add (o + i) := by
      rw [addr_add _ _ hs', addr_add _ _ hs, addr_add _ _ hs]; simp [Nat.add_assoc]
    simp only [cells?, e, ih (i := i + 1)]
    rfl
theorem take_drop_cells {h : Heap} {a : Addr} : ∀ {n i m : Nat} {l : List Value}, cells? h a (n + m) i = some l → cells? h a n i = some (l.take n) ∧ cells? h a m (i + n) = some (l.drop n) := by
  intro n
  induction n with
  | zero => intro i m l h; simp only [Nat.zero_add] at h; exact ⟨by simp [cells?], by simpa using h⟩
  | succ n ih =>
    intro i m l h
    rw [show n + 1 + m = (n + m) + 1 from by omega] at h
    simp only [cells?] at h
    split at h
    · rename_i v r h1 h2
      simp only [Option.some.injEq] at h; subst h
      obtain ⟨k1, k2⟩ := ih h2
      refine ⟨?_, ?_⟩
      · simp only [cells?, h1, k1, List.take_succ_cons]
      · rw [show i + (n + 1) = i + 1 + n from by omega]; simpa using k2
    · cases h
theorem tkdr {β : Type} (A B C : List β) : ((A ++ (B ++ C)).take (A.length + B.length)).drop A.length = B := by
  rw [← List.append_assoc, ← List.length_append, List.take_left, List.drop_left]
/-- A new row of structs. -/
theorem RS.new {α : Type} {toC : α → List Value} {sz : Nat} {h : Heap} {cs : List Value} {T n : Nat} {xs : List α} (hsz : ∀ x, (toC x).length = sz) (hn : n = xs.length) (hcs : cs = (xs.map toC).flatten) : RS toC sz (h.push (.cells cs.toArray T (0, 0))) ⟨some ⟨h.size, 0, none⟩, n, n⟩ xs := by
  refine ⟨hn, fun i hi => ⟨_, rfl, ?_⟩⟩
  have hfl : ∀ l : List α, ((l.map toC).flatten).length = l.length * sz := by
    intro l
    induction l with
    | nil => simp
    | cons x l ih => simp only [List.map_cons, List.flatten_cons, List.length_append, hsz, ih, List.length_cons]; rw [Nat.add_mul]; omega
  have hlen : cs.length = xs.length * sz := by rw [hcs, hfl]
  have hle : i * sz + sz ≤ cs.length := by
    rw [hlen, ← Nat.succ_mul]; exact Nat.mul_le_mul_right _ hi
  rw [cells_add rfl, Nat.add_zero, cells_new (n := i * sz + sz) (by omega) hle]
  congr 1
  have e : cs = (((xs.take i).map toC).flatten) ++ (toC xs[i] ++ (((xs.drop (i + 1)).map toC).flatten)) := by
    rw [hcs, ← List.flatten_cons, ← List.map_cons, ← List.drop_eq_getElem_cons hi, ← List.flatten_append, ← List.map_append, List.take_append_drop]
  have l1 : (((xs.take i).map toC).flatten).length = i * sz := by rw [hfl, List.length_take, Nat.min_eq_left (Nat.le_of_lt hi)]
  rw [e]
  have := tkdr (((xs.take i).map toC).flatten) (toC xs[i]) (((xs.drop (i + 1)).map toC).flatten)
  rw [l1, hsz] at this
  exact this

abbrev RR := RS C_bool_sl_sl 3
theorem bool_sl_sl_len (x : Bool × Sl × Sl) : (C_bool_sl_sl x).length = 3 := rfl
def bigR (x : Bool × Sl × Sl) : Bool := decide (6 < x.2.1.len) || decide (6 < x.2.2.len)
theorem Great_spec {l : Sl} {xs : List (Bool × Sl × Sl)} {h : Heap} {Q : Bool → Heap → Prop} (hl : RR h l xs) (hx : xs.length ≤ 1048576) (K : ∀ h', Ext h h' → Q (xs.any bigR) h') : law02uGreat l h Q := by
  have hlen := hl.len
  refine loop.inv (fun t h' => ∃ i : Nat, t = (i : Int) ∧ i ≤ xs.length ∧ (xs.take i).any bigR = false ∧ Ext h h') (fun t _ => xs.length - t.toNat) ⟨0, rfl, by omega, rfl, Keep.refl _ _⟩ ?_
  rintro t h1 ⟨i, rfl, hi, hno, e1⟩
  refine ⟨fun hlt => ?_, fun hge => ?_⟩
  · simp only [decide_eq_true_eq] at hlt
    have hi' : i < xs.length := by omega
    refine RS.ld (hl.ext e1) (j := i) rfl hi' (mem_ext fun h2 e2 => ?_)
    refine seq.cut (fun t h3 => t = bigR xs[i] ∧ h3 = h2) ?_ ?_
    · unfold bigR
      refine ⟨fun h6 => ⟨?_, rfl⟩, fun h6 => ⟨?_, rfl⟩⟩
      · simp only [gt_iff_lt, decide_eq_true_eq] at h6
        have : decide (6 < xs[i].2.1.len) = true := by simp; omega
        rw [this]; rfl
      · simp only [gt_iff_lt, decide_eq_false_iff_not] at h6
        have : decide (6 < xs[i].2.1.len) = false := by simp; omega
        rw [this, Bool.false_or, decide_eq_decide]; omega
    · rintro t h3 ⟨rfl, rfl⟩
      refine ⟨fun hb => ?_, fun hb => ?_⟩
      · have : xs.any bigR = true := List.any_eq_true.2 ⟨xs[i], List.getElem_mem hi', hb⟩
        rw [this] at K
        exact K _ (e1.trans e2)
      · rw [w64 (by omega) (by omega)]
        refine ⟨⟨i + 1, rfl, by omega, ?_, e1.trans e2⟩, by omega⟩
        rw [List.take_succ_eq_append_getElem hi', List.any_append, hno]
        simp [hb]
  · simp only [decide_eq_false_iff_not] at hge
    rw [List.take_of_length_le (by omega)] at hno
    rw [hno] at K
    exact K _ e1

theorem fd (q : Rat) (n : Int) (d : Nat) (h1 : q.num = n) (h2 : q.den = d) : q.num = n ∧ q.den = d := ⟨h1, h2⟩
theorem speaks2uspec {h : Heap} {Q : Bool → Heap → Prop} (ht : Tab h) (K : ∀ h', Ext h h' → Q true h') : law02uspeaks h Q := by
  have hq : (mkRat ((1250 : Nat) : Int) (10 ^ 2)) = mkRat 25 2 := by decide +kernel
  have hqn : (mkRat 25 2).num = 25 := by decide +kernel
  have hqd : (mkRat 25 2).den = 2 := by decide +kernel
  have hc : cs (ByteArray.mk #[49, 50, 46, 53, 48]) = [49, 50, 46, 53, 48] := by decide
  have hdec : isDec (cs (ByteArray.mk #[49, 50, 46, 53, 48])) 1250 2 := by
    rw [hc]
    exact .inr ⟨2, by decide, by decide, by decide, by decide, by decide, by decide, by decide⟩
  have d25 : dg 25 = [5, 2] := (dg_eq (by intro z hz; simp at hz; omega) (by simp [Nrm]) (by decide)).symm
  have d2 : dg 2 = [2] := (dg_eq (by intro z hz; simp at hz; omega) (by simp [Nrm]) (by decide)).symm
  have n25 : nl 25 = 1 := by rw [nl_pos (by decide)]; simp [nl_zero]
  have n2 : nl 2 = 1 := by rw [nl_pos (by decide)]; simp [nl_zero]
  have hsz : szQ (mkRat 25 2) = 1 := by
    unfold szQ dn
    rw [hqn, hqd]
    rw [if_neg (by decide)]
    show max (nl 25) (nl 2) = 1
    rw [n25, n2]; rfl
  refine New_spec fun a h1 hb1 hab e1 => ?_
  have hab' : h.size ≤ a.block := Nat.le_of_eq hab.symm
  refine Decimal_spec (ht.tb e1 hab') hb1 (by decide) (fun hbad => ?_) (fun _ n k hd r h2 hb2 k2 hr2 _ => ?_)
  · rcases hbad with h | h
    · cases h
    · exact absurd hdec (h _ _)
  · obtain ⟨rfl, rfl⟩ := hd.uniq hdec
    rw [hq, hsz] at hb2 hr2
    have e2 := e1.fresh hab' k2
    have hv : val' (decide (max (Int.toNat 2) 1 < 1)) (mkRat 25 2) = mkRat 25 2 := rfl
    rw [hv] at hr2
    rw [hq, hsz]
    refine mem_ext fun h3 e3 => ?_
    refine seq.cut (fun t h4 => t = true ∧ Ext h3 h4) ?_ ?_
    · refine ⟨fun _ => ?_, nofun⟩
      refine TextQ_spec (hr2.rq.ext e3) (by rw [hsz]; decide) fun h4 e4 => ?_
      have htxt : tQ (mkRat 25 2) = ByteArray.mk #[50, 53, 47, 50] := by
        unfold tQ tN
        rw [hqn, hqd]
        show (if (25 : Int) < 0 then _ else bytesOf (strDig (dg 25))) ++ (if 2 = 1 then _ else ByteArray.mk #[47] ++ bytesOf (strDig (dg 2))) = _
        rw [d25, d2]; rfl
      rw [htxt]
      refine ⟨fun _ => ?_, fun hn => by simp at hn⟩
      refine NegQ_spec ((hr2.rq.ext e3).ext e4) fun r5 h5 hr5 _ e5 => ?_
      refine TermQ_spec hr5 (by rw [neg_sz, hsz]; decide) fun h6 e6 => ⟨?_, e4.trans (e5.trans e6)⟩
      have htm : tM (-(mkRat 25 2)) = ByteArray.mk #[40, 45, 32, 40, 47, 32, 50, 53, 46, 48, 32, 50, 46, 48, 41, 41] := by
        unfold tM tN
        rw [neg_num, Rat.neg_den, Rat.neg_num, hqn, hqd]
        have : (25 : Int).natAbs = 25 := rfl
        rw [this, d25, d2]; rfl
      rw [htm]; simp
    · rintro t h4 ⟨rfl, e4⟩
      exact K h4 (e2.trans (e3.trans e4))
end Go.Sh

namespace Go.Sh
open Go Go.Lift

theorem lim_eq (limbs : Int) : (if 1 > limbs then 1 else limbs) = ((max limbs.toNat 1 : Nat) : Int) := by split <;> omega
theorem RQ.zero' {h : Heap} : RQ h (false, Sl.nil, Sl.nil) 0 := RQ.zero
theorem val'_true (q : Rat) : val' true q = 0 := rfl
theorem val'_false (q : Rat) : val' false q = q := rfl

/-- The number of any text, on any bench. -/
theorem RatioReads_holds {limbs : Int} {s : ByteArray} {h : Heap} {Q : Bool → Heap → Prop} (ht : Tab h) (K : ∀ h', Ext h h' → Q true h') : law02uRatioReads limbs s h Q := by
  refine speaks2uspec ht fun h1 e1 => ⟨nofun, fun _ => ⟨fun _ => K h1 e1, fun hs => ?_⟩⟩
  simp only [gt_iff_lt, decide_eq_false_iff_not] at hs
  refine New_spec fun a h2 hb2 hab e2 => ?_
  have e02 := e1.trans e2
  have hab' : h.size ≤ a.block := by have := e1.size; omega
  have hlen := cs_len s
  -- what is behind both readings
  have tail : ∀ (x y : Bool × Sl × Sl) (ok is ov : Bool) (p q : Rat) (h3 h4 : Heap), Bench h4 a (max limbs.toNat 1) ov → Ext h h3 → Ext h3 h4 → RQ h4 x p → RD h4 y q → szQ q ≤ 200 →
      (is = false → ok = false ∧ p = 0 ∧ ov = false) → (is = true → max limbs.toNat 1 < szQ q → ok = false ∧ p = 0 ∧ ov = true) → (is = true → szQ q ≤ max limbs.toNat 1 → ok = true ∧ p = q ∧ ov = false) →
      mem h4 fun h0u5 =>
    ref02uForm (y.1, y.2.1, y.2.2) h0u5 fun v_4 h0u6 =>
    mem h0u6 fun h0u7 =>
    iteB (!is) (
     seq (fun (K0 : Bool → Heap → Prop) =>
      iteB (!ok) (
       ref02uSame (x.1, x.2.1, x.2.2) (false, Sl.nil, Sl.nil) h0u7 fun v_5 h0u9 =>
       iteB v_5 (
        nat_Bench_Over (some a) h0u9 fun v_6 h0u10 =>
        K0 (!v_6) h0u10
       ) (
        K0 false h0u9
       )
      ) (
       K0 false h0u7
      )
     ) (fun t0 h0u8 =>
      Q t0 h0u8
     )
    ) (
     ref02uFits (v_4.1, v_4.2.1, v_4.2.2) (if 1 > limbs then 1 else limbs) h0u7 fun v_7 h0u11 =>
     iteB (!v_7) (
      seq (fun (K0u1 : Bool → Heap → Prop) =>
       iteB (!ok) (
        ref02uSame (x.1, x.2.1, x.2.2) (false, Sl.nil, Sl.nil) h0u11 fun v_8 h0u13 =>
        iteB v_8 (
         nat_Bench_Over (some a) h0u13 fun v_9 h0u14 =>
         K0u1 v_9 h0u14
        ) (
         K0u1 false h0u13
        )
       ) (
        K0u1 false h0u11
       )
      ) (fun t0u1 h0u12 =>
       Q t0u1 h0u12
      )
     ) (
      seq (fun (K0u2 : Bool → Heap → Prop) =>
       iteB ok (
        ref02uSame (x.1, x.2.1, x.2.2) (v_4.1, v_4.2.1, v_4.2.2) h0u11 fun v_10 h0u16 =>
        iteB v_10 (
         nat_Bench_Over (some a) h0u16 fun v_11 h0u17 =>
         K0u2 (!v_11) h0u17
        ) (
         K0u2 false h0u16
        )
       ) (
        K0u2 false h0u11
       )
      ) (fun t0u2 h0u15 =>
       Q t0u2 h0u15
      )
     )
    ) := by
    intro x y ok is ov p q h3 h4 hb he3 he4 hx hy hsz c1 c2 c3
    refine mem_ext fun h5 e5 => FormQ_spec (hy.ext e5) (by omega) fun f h6 hf e6 => mem_ext fun h7 e7 => ?_
    have e47 := e5.trans (e6.trans e7)
    have e07 := he3.trans (he4.trans e47)
    have hb7 := hb.ext e47
    have hx7 := hx.ext e47
    have zero : ∀ {h8 : Heap} {Q2 : Bool → Heap → Prop}, Ext h7 h8 → p = 0 → (∀ h', Ext h8 h' → Q2 true h') → ref02uSame (x.1, x.2.1, x.2.2) (false, Sl.nil, Sl.nil) h8 Q2 := by
      intro h8 Q2 e8 hp k
      refine SameQ_spec (hx7.ext e8) RQ.zero fun h9 e9 => ?_
      rw [hp]; simpa using k h9 e9
    cases is with
    | false =>
      obtain ⟨rfl, hp, rfl⟩ := c1 rfl
      refine ⟨fun _ => ?_, nofun⟩
      refine seq.cut (fun t h8 => t = true ∧ Ext h7 h8) ⟨fun _ => zero (Keep.refl _ _) hp fun h8 e8 => ⟨fun _ => Over_spec (hb7.ext e8) ⟨rfl, e8⟩, nofun⟩, nofun⟩ ?_
      rintro t h8 ⟨rfl, e8⟩
      exact K h8 (e07.trans e8)
    | true =>
      refine ⟨nofun, fun _ => ?_⟩
      refine Fits_spec (hf.ext e7) (lim_eq limbs) fun h8 e8 => ⟨fun hn => ?_, fun hn => ?_⟩
      · simp only [Bool.not_eq_true', decide_eq_false_iff_not] at hn
        obtain ⟨rfl, hp, rfl⟩ := c2 rfl (by omega)
        refine seq.cut (fun t h9 => t = true ∧ Ext h8 h9) ⟨fun _ => zero e8 hp fun h9 e9 => ⟨fun _ => Over_spec ((hb7.ext e8).ext e9) ⟨rfl, e9⟩, nofun⟩, nofun⟩ ?_
        rintro t h9 ⟨rfl, e9⟩
        exact K h9 (e07.trans (e8.trans e9))
      · simp only [Bool.not_eq_false', decide_eq_true_eq] at hn
        obtain ⟨rfl, rfl, rfl⟩ := c3 rfl hn
        refine seq.cut (fun t h9 => t = true ∧ Ext h8 h9) ⟨fun _ => ?_, nofun⟩ ?_
        · refine SameQ_spec (hx7.ext e8) ((hf.ext e7).ext e8) fun h9 e9 => ?_
          rw [decide_eq_true (rfl : p = p)]
          exact ⟨fun _ => Over_spec ((hb7.ext e8).ext e9) ⟨rfl, e9⟩, nofun⟩
        · rintro t h9 ⟨rfl, e9⟩
          exact K h9 (e07.trans (e8.trans e9))
  refine Decimal_spec ((ht.tb e02 hab')) hb2 (by omega) (fun hbad h3 e3 => ?_) (fun _ n k hd r h3 hb3 k3 hr3 _ => ?_)
  · have hno := hbad.resolve_left (by simp)
    refine mem_ext fun h4 e4 => DecimalD_spec (by omega) (fun _ y h5 hy e5 => ?_) (fun n k hd => absurd hd (hno n k))
    have e25 := e3.trans (e4.trans e5)
    refine tail (false, Sl.nil, Sl.nil) y false false false 0 0 h2 h5 (hb2.ext e25) e02 e25 RQ.zero hy (by show max (nl 0) (nl (dn 0)) ≤ 200; rw [show dn 0 = 0 from rfl, nl_zero]; decide) (fun _ => ⟨rfl, rfl, rfl⟩) nofun nofun
  · have e3 : Ext h h3 := e02.fresh hab' k3
    have nn := hd.nl
    have hm10 : (10 : Nat) ^ k ≠ 0 := Nat.pos_iff_ne_zero.1 (Nat.pow_pos (by decide))
    have n10 := nl_pow10 k
    have hsz := sz_mk ((n : Nat) : Int) hm10
    simp only [Int.natAbs_natCast] at hsz
    refine mem_ext fun h4 e4 => DecimalD_spec (by omega) (fun hno => absurd hd (hno n k)) (fun n' k' hd' y h5 hy e5 => ?_)
    obtain ⟨rfl, rfl⟩ := hd'.uniq hd
    have e35 := e4.trans e5
    refine tail r y _ true _ _ _ h3 h5 (hb3.ext e35) e3 e35 (hr3.rq.ext e35) hy (by omega) nofun (fun _ hlt => ?_) (fun _ hle => ?_)
    · rw [decide_eq_true hlt]; exact ⟨rfl, rfl, rfl⟩
    · rw [decide_eq_false (by omega)]; exact ⟨rfl, rfl, rfl⟩
end Go.Sh

namespace Go.Sh
open Go Go.Lift

theorem rat_int_num (n : Int) : ((n : Rat)).num = n := Rat.num_intCast n
theorem rat_int_den (n : Int) : ((n : Rat)).den = 1 := Rat.den_intCast n
theorem dn_int (n : Int) : dn (n : Rat) = 0 := by unfold dn; rw [rat_int_den]; rfl
theorem nl_u64 {n : Nat} (h : n < 18446744073709551616) : nl n ≤ 2 := by rw [nl_le_iff]; exact h
theorem sz_int {n : Int} (h : n.natAbs < 18446744073709551616) : szQ (n : Rat) ≤ 2 := by
  unfold szQ
  rw [dn_int, rat_int_num, nl_zero]
  have := nl_u64 h
  omega
theorem OfQ {n : Int} {h : Heap} {Q : (Bool × Sl × Sl) → Heap → Prop} (h1 : -9223372036854775808 ≤ n) (h2 : n ≤ 9223372036854775807) (K : ∀ r h', RQ h' r (n : Rat) → Fr h r → Ext h h' → Q r h') : ratio_Of n h Q := by
  refine mem_ext fun h3 e3 => ?_
  rintro _ rfl
  refine seq.cut (fun t h4 => t = (n.natAbs : Int) ∧ h4 = h3) ?_ ?_
  · refine ⟨fun hn => ?_, fun hn => ?_⟩
    · simp only [decide_eq_true_eq] at hn
      rintro _ rfl
      refine ⟨?_, rfl⟩
      rw [wu64m, wu64m]; omega
    · simp only [decide_eq_false_iff_not] at hn
      exact ⟨by rw [wu64 (by omega) (by omega)]; omega, rfl⟩
  · rintro t h4 ⟨rfl, rfl⟩
    refine Of_spec (m := n.natAbs) rfl (by omega) fun r h5 hr e5 hf => ?_
    refine K _ h5 ⟨?_, ?_, ?_⟩ ⟨fun b hb => ?_, fun b hb => (by cases hb)⟩ (e3.trans e5)
    · rw [rat_int_num]; exact hr
    · rw [dn_int]; exact NN.nil
    · rw [rat_int_num]
    · have := (hf b hb).1; have := e3.size; omega

/-! ### Limbs that may have noughts at their end -/
def NVF (a : Nat) (h : Heap) (s : Sl) (n : Nat) : Prop := ∃ xs, RI .u32 h s xs ∧ Lim 4294967296 xs ∧ val 4294967296 xs = n ∧ xs.length ≤ 1048576 ∧ (s.blk = some a → xs = [])
theorem NVF.nv {a : Nat} {h : Heap} {s : Sl} {n : Nat} (hs : NVF a h s n) : NV h s n := by
  obtain ⟨xs, h1, h2, h3, h4, _⟩ := hs; exact ⟨xs, h1, h2, h3, h4⟩
theorem NVF.zero {a : Nat} {h : Heap} {s : Sl} {n : Nat} (hs : NVF a h s n) (hb : s.blk = some a) : n = 0 := by
  obtain ⟨xs, h1, h2, h3, h4, h5⟩ := hs
  rw [h5 hb] at h3; exact h3.symm
theorem NVF.keep {a : Nat} {h h' : Heap} {s : Sl} {n : Nat} (hs : NVF a h s n) (k : Keep (some a) h h') : NVF a h' s n := by
  obtain ⟨xs, h1, h2, h3, h4, h5⟩ := hs
  exact ⟨xs, h1.keepB k (fun b hb hx e => hx (h5 (by simp [Sl.blk, hb, e]))), h2, h3, h4, h5⟩
theorem NVF.ext {a : Nat} {h h' : Heap} {s : Sl} {n : Nat} (hs : NVF a h s n) (e : Ext h h') : NVF a h' s n := by
  obtain ⟨xs, h1, h2, h3, h4, h5⟩ := hs
  exact ⟨xs, R.ext h1 e, h2, h3, h4, h5⟩
theorem NVF.of {a : Nat} {h h' : Heap} {s : Sl} {xs : List Nat} (hr : RI .u32 h s xs) (hl : Lim 4294967296 xs) (hk : xs.length ≤ 1048576) (e : Ext h h') (ha : h.size ≤ a) : NVF a h' s (val 4294967296 xs) := by
  refine ⟨xs, R.ext hr e, hl, rfl, hk, fun hb => Classical.byContradiction fun hx => ?_⟩
  cases hs : s.a with
  | none => simp [Sl.blk, hs] at hb
  | some b =>
    simp [Sl.blk, hs] at hb
    have := hr.lt hs hx
    omega
theorem NF.nvf {a : Nat} {h : Heap} {s : Sl} {n : Nat} (hs : NF a h s n) : NVF a h s n := by
  obtain ⟨⟨xs, h1, h2, h3, h4, h5⟩, h6⟩ := hs
  refine ⟨xs, h1, h2, h4, h5, fun hb => ?_⟩
  exact val_zero (b := 4294967296) (by decide) h3 (by rw [h4]; exact h6 hb)

theorem formV_spec {h : Heap} {neg : Bool} {num d : Sl} {xs ys : List Nat} {z : Int} {m : Nat} {Q : (Bool × Sl × Sl) → Heap → Prop} (ht : Tab h) (hn : RI .u32 h num xs) (hnl : Lim 4294967296 xs) (hd : RI .u32 h d ys) (hdl : Lim 4294967296 ys) (lx : xs.length ≤ 400) (ly : ys.length ≤ 400) (hzv : val 4294967296 xs = z.natAbs) (hmv : val 4294967296 ys = m) (hm : m ≠ 0) (hz : z ≠ 0 → neg = decide (z < 0))
    (K : ∀ r h', RQ h' r (mkRat z m) → Fr h r → Ext h h' → Q r h') : ratio_form neg num d h Q := by
  refine mem_ext fun h1 e1 => free_spec fun f h2 hb2 hf2 e2 => ?_
  have e12 := e1.trans e2
  have hfs : h.size ≤ f.block := by have := e1.size; omega
  have n2 := NVF.of hn hnl (by omega) e12 hfs
  have d2 := NVF.of hd hdl (by omega) e12 hfs
  have nx := nl_of_len hnl (k := 400) (by omega)
  have ny := nl_of_len hdl (k := 400) (by omega)
  have lnn := hn.len
  have lnd := hd.len
  rw [hzv] at n2 nx
  rw [hmv] at d2 ny
  have t2 := ht.tb e12 hfs
  have hgpos : Nat.gcd z.natAbs m ≠ 0 := fun h0 => hm (Nat.eq_zero_of_gcd_eq_zero_right h0)
  have lg : nl (Nat.gcd z.natAbs m) ≤ nl m := nl_mono (Nat.le_of_dvd (Nat.pos_of_ne_zero hm) (Nat.gcd_dvd_right _ _))
  refine Gcd_spec t2.1 hb2 n2.nv d2.nv (by omega) (by omega) n2.zero d2.zero fun g h3 hb3 k3 hg _ fg => ?_
  rw [nofit (by omega)] at hb3 hg
  have G : NF f.block h3 g (Nat.gcd z.natAbs m) := NF.of (hg rfl) (fresh_ne hb2 fg)
  have lgl := G.1.nl
  have q1n : nl (z.natAbs / Nat.gcd z.natAbs m) ≤ nl z.natAbs := nl_mono (Nat.div_le_self _ _)
  have r1n : nl (z.natAbs % Nat.gcd z.natAbs m) ≤ nl z.natAbs := nl_mono (Nat.mod_le _ _)
  have q2n : nl (m / Nat.gcd z.natAbs m) ≤ nl m := nl_mono (Nat.div_le_self _ _)
  have r2n : nl (m % Nat.gcd z.natAbs m) ≤ nl m := nl_mono (Nat.mod_le _ _)
  refine Div_spec hb3 (n2.keep k3).nv G.1.nv (by omega) (by omega) (fun h0 => absurd h0 hgpos) fun _ q1 r1 h4 ov1 hov1 hb4 k4 hn4 _ f4 => ?_
  have : ov1 = false := by
    rw [hov1, nofit (lim := 16777216) (k := nl (z.natAbs / Nat.gcd z.natAbs m)) (by omega)]
    exact nofit (by omega)
  subst this
  have Q1 : NF f.block h4 q1 (z.natAbs / Nat.gcd z.natAbs m) := NF.of (hn4 rfl).1 (fresh_ne hb3 (fun b hbb => f4 b (.inl hbb)))
  refine Div_spec hb4 ((d2.keep k3).keep k4).nv (G.keep k4).1.nv (by omega) (by omega) (fun h0 => absurd h0 hgpos) fun _ q2 r2 h5 ov2 hov2 hb5 k5 hn5 _ f5 => ?_
  have : ov2 = false := by
    rw [hov2, nofit (lim := 16777216) (k := nl (m / Nat.gcd z.natAbs m)) (by omega)]
    exact nofit (by omega)
  subst this
  have Q2 : NF f.block h5 q2 (m / Nat.gcd z.natAbs m) := NF.of (hn5 rfl).1 (fresh_ne hb4 (fun b hbb => f5 b (.inl hbb)))
  have Q1' := Q1.keep k5
  have K' : Ext h h5 := ((e12.fresh hfs k3).fresh hfs k4).fresh hfs k5
  have s45 := k4.size
  have s34 := k3.size
  have s2 := e12.size
  rw [← mk_num z hm] at Q1'
  have hden := mk_den z hm
  rw [← hden] at Q2
  refine seq.cut (fun t h6 => NN h6 t (dn (mkRat z m)) ∧ (∀ b, t.blk = some b → h.size ≤ b) ∧ Ext h5 h6) ?_ ?_
  · refine isOne_spec Q2.1 fun h6 e6 => ⟨fun hone => ?_, fun hone => ?_⟩
    · simp only [decide_eq_true_eq] at hone
      refine ⟨?_, fun b hb => (by cases hb), e6⟩
      unfold dn; rw [if_pos hone]; exact NN.nil
    · simp only [decide_eq_false_iff_not] at hone
      refine ⟨?_, fun b hb => ?_, e6⟩
      · unfold dn; rw [if_neg hone]; exact Q2.1.ext e6
      · have := f5 b (.inl hb); omega
  · rintro t h6 ⟨ht6, hft, e6⟩
    have hnum := Q1'.1.ext e6
    refine ⟨fun hl => ?_, fun hl => ?_⟩
    · simp only [beq_iff_eq] at hl
      have h0 : (mkRat z m).num.natAbs = 0 := hnum.len_zero.1 (by omega)
      have : mkRat z m = 0 := by rw [← Rat.num_eq_zero]; omega
      rw [this] at K
      exact K _ h6 RQ.zero Fr.nil (K'.trans e6)
    · refine K _ h6 ⟨hnum, ht6, ?_⟩ ⟨fun b hb => ?_, hft⟩ (K'.trans e6)
      · have hz0 : z ≠ 0 := by
          rintro rfl
          have h0 : (mkRat 0 m).num.natAbs = 0 := by simp
          have := hnum.len_zero.2 h0
          simp [this] at hl
        rw [hz hz0]
        exact decide_eq_decide.2 (mk_neg z hm).symm
      · have := f4 b (.inl hb); omega

theorem MakeQ_spec {a : Addr} {lim : Nat} {ov : Bool} {h : Heap} {neg : Bool} {num d : Sl} {xs ys : List Nat} {Q : (Bool × Sl × Sl) → Heap → Prop} (ht : TB a.block h) (hb : Bench h a lim ov) (hn : RI .u32 h num xs) (hnl : Lim 4294967296 xs) (hd : RI .u32 h d ys) (hdl : Lim 4294967296 ys) (lx : xs.length ≤ 400) (ly : ys.length ≤ 400)
    (K0 : val 4294967296 ys = 0 → ∀ h', Ext h h' → Q (false, Sl.nil, Sl.nil) h')
    (K : val 4294967296 ys ≠ 0 → ∀ r h', Bench h' a lim (ov || decide (lim < szQ (mkRat (Zn neg xs) (val 4294967296 ys)))) → Keep (some a.block) h h' → RF a.block h' r (val' (ov || decide (lim < szQ (mkRat (Zn neg xs) (val 4294967296 ys)))) (mkRat (Zn neg xs) (val 4294967296 ys))) → Fr h r → Q r h') : ratio_Make (some a) neg num d h Q := by
  refine mem_ext fun h1 e1 => ?_
  have hdn : NV h1 d (val 4294967296 ys) := ⟨ys, R.ext hd e1, hdl, rfl, by omega⟩
  refine Cmp_spec hdn NV.nil ⟨fun hz => ?_, fun hz => ?_⟩
  · have h0 : val 4294967296 ys = 0 := by
      simp only [beq_iff_eq] at hz
      refine Classical.byContradiction fun hne => ?_
      have : cmpI (val 4294967296 ys) 0 = 1 := by unfold cmpI; rw [if_neg (by omega), if_neg hne]
      rw [this] at hz; cases hz
    exact K0 h0 h1 e1
  · have h0 : val 4294967296 ys ≠ 0 := by
      intro h0
      rw [h0] at hz
      simp [cmpI] at hz
    refine formV_spec (z := Zn neg xs) (m := val 4294967296 ys) (R.ext ht.1 e1) (R.ext hn e1) hnl (R.ext hd e1) hdl lx ly (Zn_abs neg xs).symm rfl h0 Zn_neg fun r h2 hr fr e2 => ?_
    have hs := sz_mk (Zn neg xs) h0
    rw [Zn_abs] at hs
    have nx := nl_of_len hnl (k := 400) (by omega)
    have ny := nl_of_len hdl (k := 400) (by omega)
    refine fitQ_spec (hb.ext (e1.trans e2)) (hr.rff (h0 := h) (fr.mono e1.size) hb.lt) (by omega) fun r2 h3 hb3 k3 hr3 f3 => ?_
    exact K h0 r2 h3 hb3 ((Keep.of_ext (e1.trans e2)).trans k3) hr3 (f3 h (fr.mono e1.size))
end Go.Sh

/-
  Of a beginning of what was put nothing whole comes back.
-/
import Derived.Test.YtafkahjfbiamlaaDoorSpN
set_option linter.unusedVariables false
set_option linter.unusedSimpArgs false
namespace Go.Sh
open Go Go.Lift
variable {h h' h0 : Heap} {a x : Addr} {m : Nat} {s out : Sl} {st st2 : St}

/-- Both, each with bytes of its own. -/
structure PC (h0 h : Heap) (a x : Addr) (m : Nat) (st st2 : St) : Prop where
  p : PI h a x.block m st
  d : DI h x a.block m st2
  t : TL h0 h m
  ha : h0.size ≤ a.block
  hx : h0.size ≤ x.block
theorem PC.ext (b : PC h0 h a x m st st2) (e : Ext h h') : PC h0 h' a x m st st2 := ⟨b.p.ext e, b.d.ext e, b.t.ext e, b.ha, b.hx⟩
theorem PC.both {h1 h2 : Heap} {st' st2' : St} (b : PC h0 h a x m st st2) (p1 : PI h1 a x.block m st') (k1 : Keep (some a.block) h h1) (d2 : DI h2 x a.block m st2') (k2 : Keep (some x.block) h1 h2) : PC h0 h2 a x m st' st2' :=
  ⟨p1.keep k2 (fun i hi => by cases hi; exact .inl rfl), d2, (b.t.keep k1 (fun i hi => by cases hi; exact b.ha)).keep k2 (fun i hi => by cases hi; exact b.hx), b.ha, b.hx⟩
theorem PC.dk {h1 : Heap} (b : PC h0 h a x m st st2) (k1 : Keep (some a.block) h h1) : DI h1 x a.block m st2 := b.d.keep k1 (fun i hi => by cases hi; exact .inl rfl)
theorem any_spec {u v : Bool × Sl × Sl × Bool × Sl × Sl} {l1 k1 l2 k2 : Bool × List Nat × List Nat} {Q : Bool → Heap → Prop} (h1 : XL h (u.1, u.2.1, u.2.2.1) l1) (h2 : XL h u.2.2.2 k1) (h3 : XL h (v.1, v.2.1, v.2.2.1) l2) (h4 : XL h v.2.2.2 k2)
    (q1 : isQL l1.1 l1.2.1 l1.2.2) (q2 : isQL k1.1 k1.2.1 k1.2.2) (q3 : isQL l2.1 l2.2.1 l2.2.2) (q4 : isQL k2.1 k2.2.1 k2.2.2) (K : ∀ b h', Ext h h' → Q b h') : ref03uSame u v h Q := by
  obtain ⟨p1, g1⟩ := h1.isQ.2 q1
  obtain ⟨p2, g2⟩ := h2.isQ.2 q2
  obtain ⟨p3, g3⟩ := h3.isQ.2 q3
  obtain ⟨p4, g4⟩ := h4.isQ.2 q4
  exact SameE_spec (p := (p1, p2)) (q := (p3, p4)) ⟨g1, g2⟩ ⟨g3, g4⟩ fun h5 e5 => K _ h5 e5

theorem take04x_spec {t0 : T10} {Q : Bool → Heap → Prop} (b : PC h0 h a x m st st2) (K : ∀ r h' st2', PC h0 h' a x m (takeS st t0.1 t0.2.1) st2' → Q r h') : law04utake (some a) (some x) t0 h Q := by
  refine mem_ext fun h1 e1 => ?_
  have b := b.ext e1
  unfold takeS at K
  refine ⟨fun hk => ?_, fun hk0 => ⟨fun hk => ?_, fun hk1 => ⟨fun hk => ?_, fun hk2 => ⟨fun hk => ?_, fun hk3 => ⟨fun hk => ?_, fun hk4 => ⟨fun hk => ?_, fun hk5 => ?_⟩⟩⟩⟩⟩⟩
  · simp only [beq_iff_eq] at hk
    rw [if_pos hk] at K
    exact int_spec b.p fun h2 p2 k2 => intD_spec (b.dk k2) fun h3 d3 k3 => K _ h3 _ (b.both p2 k2 d3 k3)
  · simp only [beq_eq_false_iff_ne, ne_eq] at hk0
    simp only [beq_iff_eq] at hk
    rw [if_neg hk0, if_pos hk] at K
    exact flag_spec b.p fun h2 p2 k2 => flagD_spec (b.dk k2) fun h3 d3 k3 => K _ h3 _ (b.both p2 k2 d3 k3)
  · simp only [beq_eq_false_iff_ne, ne_eq] at hk0 hk1
    simp only [beq_iff_eq] at hk
    rw [if_neg hk0, if_neg hk1, if_pos hk] at K
    exact bytes_spec b.p fun r h2 hr p2 k2 hrb => strOf_spec hr (bytesD_spec (b.dk k2) fun r' h3 hr' d3 k3 => ⟨strOf_spec (hr.keep k3 (fun y hy e => by injection e with e; have := hrb y.block (by simp [Sl.blk, hy]); have := b.d.xm; omega)) rfl, strOf_spec hr' (K _ h3 _ (b.both p2 k2 d3 k3))⟩)
  · simp only [beq_eq_false_iff_ne, ne_eq] at hk0 hk1 hk2
    simp only [beq_iff_eq] at hk
    rw [if_neg hk0, if_neg hk1, if_neg hk2, if_pos hk] at K
    refine ratio_spec b.t b.ha b.p fun r h2 X b1 b2 p2 k2 => ratioD_spec (b.dk k2) fun r' h3 X' _ _ d3 k3 => ?_
    have X3 := X.keep k3 (fun i hi e => by injection e with e; have := b1 i hi; have := b.d.xm; omega) (fun i hi e => by injection e with e; have := b2 i hi; have := b.d.xm; omega)
    exact any_spec (k1 := (false, [], [])) (k2 := (false, [], [])) X3 XL.zero X' XL.zero (ratS_q st) isQL_zero (ratS_q st2) isQL_zero fun r h4 e4 => K r h4 _ ((b.both p2 k2 d3 k3).ext e4)
  · simp only [beq_eq_false_iff_ne, ne_eq] at hk0 hk1 hk2 hk3
    simp only [beq_iff_eq] at hk
    rw [if_neg hk0, if_neg hk1, if_neg hk2, if_neg hk3, if_pos hk] at K
    refine delta_spec b.t b.ha b.p fun r h2 X Y hb p2 k2 => deltaD_spec (b.dk k2) fun r' h3 X' Y' d3 k3 => ?_
    have X3 := X.keep k3 (fun i hi e => by injection e with e; have := hb i (.inl hi); have := b.d.xm; omega) (fun i hi e => by injection e with e; have := hb i (.inr (.inl hi)); have := b.d.xm; omega)
    have Y3 := Y.keep k3 (fun i hi e => by injection e with e; have := hb i (.inr (.inr (.inl hi))); have := b.d.xm; omega) (fun i hi e => by injection e with e; have := hb i (.inr (.inr (.inr hi))); have := b.d.xm; omega)
    exact any_spec X3 Y3 X' Y' (delS_q st).1 (delS_q st).2 (delS_q st2).1 (delS_q st2).2 fun r h4 e4 => K r h4 _ ((b.both p2 k2 d3 k3).ext e4)
  · simp only [beq_eq_false_iff_ne, ne_eq] at hk0 hk1 hk2 hk3 hk4
    simp only [beq_iff_eq] at hk
    rw [if_neg hk0, if_neg hk1, if_neg hk2, if_neg hk3, if_neg hk4, if_pos hk] at K
    refine ints_spec b.p fun r h2 hr hrl hrb p2 k2 => countD_spec (b.dk k2) fun h3 d3 k3 => ?_
    have hxm := b.d.xm
    have hr3 : R (Value.int .i64) h3 r (intsS st).1 := hr.keep k3 (fun y hy e => by injection e with e; have := hrb y.block (by simp [Sl.blk, hy]); omega)
    have b3 := b.both p2 k2 d3 k3
    refine ⟨fun _ => K false h3 _ b3, fun _ => ?_⟩
    have hlen := hr3.len
    refine loop.inv (fun (s0 : Int) h4 => ∃ (i : Nat) (st2' : St), s0 = (i : Int) ∧ i ≤ (intsS st).1.length ∧ R (Value.int .i64) h4 r (intsS st).1 ∧ PC h0 h4 a x m (intsS st).2 st2') (fun s0 _ => (intsS st).1.length - s0.toNat) ⟨0, _, rfl, Nat.zero_le _, hr3, b3⟩ ?_
    rintro s0 h4 ⟨i, st2', rfl, hi, hr4, b4⟩
    dsimp only
    rw [hlen]
    refine ⟨fun hlt => ?_, fun hge => K true h4 _ b4⟩
    simp only [decide_eq_true_eq] at hlt
    refine R.load hr4 (by omega) (by omega) ?_
    refine intD_spec b4.d fun h5 d5 k5 => ?_
    have b5 : PC h0 h5 a x m (intsS st).2 (numS st2' 8).2 := ⟨b4.p.keep k5 (fun i hi => by cases hi; exact .inl rfl), d5, b4.t.keep k5 (fun i hi => by cases hi; exact b.hx), b4.ha, b4.hx⟩
    refine ⟨fun _ => K false h5 _ b5, fun _ => ?_⟩
    rw [w64 (by omega) (by omega)]
    exact ⟨⟨i + 1, _, by omega, by omega, hr4.keep k5 (fun y hy e => by injection e with e; have := hrb y.block (by simp [Sl.blk, hy]); omega), b5⟩, by omega⟩
  · simp only [beq_eq_false_iff_ne, ne_eq] at hk0 hk1 hk2 hk3 hk4 hk5
    rw [if_neg hk0, if_neg hk1, if_neg hk2, if_neg hk3, if_neg hk4, if_neg hk5] at K
    exact count_spec b.p fun h2 p2 k2 => countD_spec (b.dk k2) fun h3 d3 k3 => K _ h3 _ (b.both p2 k2 d3 k3)

theorem ratS_none : ratS none = ((false, [], []), none) := by
  unfold ratS
  rw [if_neg]
  intro hg
  have := hg.1
  simp [flagS, numS, tk_none, rowS, cnt_none, be_nil] at this
theorem takeS_none (k n : Int) : takeS none k n = none := by
  have hf : (flagS none).2 = none := by simp [flagS, numS, tk_none, be_nil]
  have hd : (delS none).2 = none := by unfold delS; rw [if_pos (by rw [ratS_none]; dsimp only; rw [ratS_none])]
  unfold takeS
  split
  · rfl
  split
  · exact hf
  split
  · simp [bytesS, cnt_none, tk_none]
  split
  · rw [ratS_none]
  split
  · exact hd
  split
  · simp [intsS, rowS, cnt_none]
  · rfl

theorem PackCut_holds {list : Sl} {ts : List T10} {cut : Int} {Q : Bool → Heap → Prop} (ht : Tab h) (hl2 : LT2 h list ts) (K : ∀ h', Ext h h' → Q true h') : law04uPackCut list cut h Q := by
  have hl := hl2.l
  have hlen := hl.r.len
  refine speaks4uspec fun h1 e1 => ⟨fun hc => by simp at hc, fun _ => ?_⟩
  refine great5uspec hl2 e1 fun b h2 e2 hg => ⟨fun _ => K h2 (e1.trans e2), fun hf => ?_⟩
  obtain ⟨h40, hv⟩ := hg hf
  obtain ⟨vs, hvl, hvs⟩ := choose_vs hv
  have hfew : ∀ v ∈ vs, Few v := fun v hm => by obtain ⟨j, hj, rfl⟩ := List.getElem_of_mem hm; exact (hvs j (by omega) hj).few
  have e12 := e1.trans e2
  intro T
  have o3 := PP.start (h0 := h) T e12
  generalize (h2.push (.cells [Sl.toV Sl.nil].toArray T (0, 0)) : Heap) = h3 at *
  generalize (⟨h2.size, 0, none⟩ : Addr) = a at *
  refine loop.inv (fun (s0 : Int) h5 => ∃ (i : Nat) (s : Sl), s0 = (i : Int) ∧ i ≤ ts.length ∧ OE h h5 a s (encs (vs.take i))) (fun s0 _ => ts.length - s0.toNat) ⟨0, Sl.nil, rfl, Nat.zero_le _, by simpa [encs] using o3⟩ ?_
  rintro s0 h5 ⟨i, s, rfl, hi, p5⟩
  dsimp only
  rw [hlen]
  have hel : ∀ j, (encs (vs.take j)).length ≤ 80000 := fun j => by
    have := encs_len (vs := vs.take j) (fun v hm => hfew v (List.mem_of_mem_take hm))
    rw [List.length_take] at this; omega
  refine ⟨fun hlt => ?_, fun hge => ?_⟩
  · simp only [decide_eq_true_eq] at hlt
    refine RS.ld (hl.r.ext p5.e) (j := i) rfl (by omega) (mem_ext fun h6 e6 => ?_)
    have p6 : PP h h6 a s Sl.nil (encs (vs.take i)) [] := ⟨(p5.ext e6).1, Own.nil, by simp [Sl.blk, Sl.nil], by simp [Sl.blk, Sl.nil]⟩
    have := hel i
    refine put_spec p6 (hvs i (by omega) (by omega)) (by omega) (by simp) fun s7 o7 h7 p7 => ?_
    rw [w64 (by omega) (by omega)]
    exact ⟨⟨i + 1, s7, by omega, by omega, by rw [encs_take (by omega)]; exact p7.oe⟩, by simp only [Int.toNat_natCast]; omega⟩
  · simp only [decide_eq_false_iff_not] at hge
    have : i = vs.length := by omega
    subst this
    rw [List.take_length] at p5
    have hE : (encs vs).length ≤ 80000 := by have := hel vs.length; rwa [List.take_length] at this
    have hElim := encs_lim hfew
    refine outDone_spec p5.o (by omega) fun r h6 hr e6 hrb6 => ?_
    have hrl := hr.len
    refine ⟨fun _ => K h6 (p5.e.trans e6), fun hne => ?_⟩
    simp only [beq_eq_false_iff_ne, ne_eq] at hne
    refine ⟨hne, ?_⟩
    -- where it is cut
    have hm0 : ((BitVec.ofInt (IntKind.bits .i64) cut &&& BitVec.ofInt (IntKind.bits .i64) 65535).toNat) ≤ 65535 := by
      rw [BitVec.toNat_and]; exact Nat.and_le_right
    rw [w64 (n := ((BitVec.ofInt (IntKind.bits .i64) cut &&& BitVec.ofInt (IntKind.bits .i64) 65535).toNat : Int)) (by omega) (by omega), hrl]
    generalize ((BitVec.ofInt (IntKind.bits .i64) cut &&& BitVec.ofInt (IntKind.bits .i64) 65535).toNat) = M at *
    have hE0 : 0 < (encs vs).length := by omega
    have ec : Int.tmod (M : Int) ((encs vs).length : Int) = ((M % (encs vs).length : Nat) : Int) := rfl
    rw [ec]
    have hc := Nat.mod_lt M hE0
    generalize M % (encs vs).length = c at *
    refine R.take hr (by omega) (by omega) fun s7 hs7 hb7 _ _ => ?_
    rw [Int.toNat_natCast] at hs7
    have hqne : (encs vs).drop c ≠ [] := fun e => by
      have := congrArg List.length e
      rw [List.length_drop] at this
      simp at this; omega
    have hpq : (encs vs).take c ++ (encs vs).drop c = encs vs := List.take_append_drop _ _
    refine from_spec hs7 (by rw [List.length_take]; omega) fun a2 r2 h8 spot c0 c1 f0 f1 hr2 hrb ha1 ha2 e8 => ?_
    have e08 := (p5.e.trans e6).trans e8
    have hr8 : RI .u8 h8 r (encs vs) := R.ext hr e8
    have hs06 := (p5.e.trans e6).size
    intro T2
    have hx : (h8.push (.cells [Sl.toV r, Value.int .i64 0, Value.bool false].toArray T2 (0, 0)))[h8.size]? = some (.cells [Sl.toV r, Value.int .i64 0, Value.bool false].toArray T2 (0, 0)) := by simp
    have e9 : Ext h8 (h8.push (.cells [Sl.toV r, Value.int .i64 0, Value.bool false].toArray T2 (0, 0))) := Ext.push _ _
    have hsz : (h8.push (.cells [Sl.toV r, Value.int .i64 0, Value.bool false].toArray T2 (0, 0)) : Heap).size = h8.size + 1 := by simp
    have hs68 := e8.size
    have b9 : PC h (h8.push (.cells [Sl.toV r, Value.int .i64 0, Value.bool false].toArray T2 (0, 0))) a2 ⟨h8.size, 0, none⟩ (h8.size + 1) (some ((encs vs).take c)) (some (encs vs)) := by
      generalize (h8.push (.cells [Sl.toV r, Value.int .i64 0, Value.bool false].toArray T2 (0, 0)) : Heap) = h9 at *
      refine ⟨⟨spot, ⟨r2, cell_keep e9 c0 (by simp), cell_keep e9 c1 (by simp), R.ext hr2 e9, fun e => by have := hrb _ e; omega, fun e => by have := hrb _ e; dsimp only at this; omega, fun i hi => by have := hrb i hi; omega⟩, frozen_keep e9 (cell_lt c0) f0 (by simp), frozen_keep e9 (cell_lt c1) f1 (by simp), by dsimp only; omega, by omega, by dsimp only; omega, by omega, fun y hy => hElim y (List.mem_of_mem_take hy), ?_⟩,
        ⟨rfl, ⟨r, encs vs, 0, ?_, ?_, ?_, R.ext hr8 e9, hElim, by omega, Nat.zero_le _, fun bs hbs => by cases hbs; rfl, fun _ e => ?_, fun _ e => ?_, fun _ i hi => ?_⟩, ?_, ?_, by dsimp only; omega, by dsimp only; omega, by omega, by omega⟩, ⟨ht, e08.trans e9, by omega⟩, by omega, by dsimp only; omega⟩
      · simp only [lens, Option.getD_some, List.length_take]; omega
      · rw [addr_add _ _ rfl]; unfold cell?; simp [hx]
      · rw [addr_add _ _ rfl]; unfold cell?; simp [hx]
      · rw [addr_add _ _ rfl]; unfold cell?; simp [hx]
      · have := (hrb6 _ e).2; dsimp only at this; omega
      · have := (hrb6 _ e).2; omega
      · have := (hrb6 _ hi).2; omega
      · rw [addr_add _ _ rfl]; exact frozen_none hx
      · rw [addr_add _ _ rfl]; exact frozen_none hx
    generalize (h8.push (.cells [Sl.toV r, Value.int .i64 0, Value.bool false].toArray T2 (0, 0)) : Heap) = h9 at *
    generalize (⟨h8.size, 0, none⟩ : Addr) = x at *
    generalize (encs vs).drop c = q at *
    refine loop.inv (fun (s0 : Int) h10 => ∃ (i : Nat) (st st2 : St), s0 = (i : Int) ∧ i ≤ ts.length ∧ PC h h10 a2 x (h8.size + 1) st st2 ∧ (∀ r, st = some r → r ++ q = encs (vs.drop i))) (fun s0 _ => ts.length - s0.toNat) ⟨0, _, _, rfl, Nat.zero_le _, b9, fun r hr => by cases hr; simpa using hpq⟩ ?_
    rintro s0 h10 ⟨i, st, st2, rfl, hi, b10, hst⟩
    dsimp only
    refine ⟨fun hlt => ?_, fun hge => ?_⟩
    · simp only [decide_eq_true_eq] at hlt
      have hi' : i < ts.length := by omega
      have tv := hvs i hi' (by omega)
      rw [encs_drop (by omega)] at hst
      refine seq.cut (fun (_ : Unit) h11 => ∃ st st2, PC h h11 a2 x (h8.size + 1) st st2 ∧ (∀ r, st = some r → r ++ q = encs (vs.drop (i + 1)))) ?_ ?_
      · refine RS.ld (hl.r.ext b10.t.e) (j := i) rfl hi' (mem_ext fun h11 e11 => ?_)
        have b11 := b10.ext e11
        refine seq.cut (fun (b : Bool) h12 => h12 = h11 ∧ (b = true ↔ 0 ≤ vs[i].k ∧ vs[i].k ≤ 5)) ?_ ?_
        · rw [tv.k]
          refine ⟨fun hb => ⟨rfl, ?_⟩, fun hb => ⟨rfl, ?_⟩⟩
          · simp only [ge_iff_le, decide_eq_true_eq] at hb
            simp only [decide_eq_true_eq]; omega
          · simp only [ge_iff_le, decide_eq_false_iff_not] at hb
            exact ⟨fun h => (nomatch h), fun h => by omega⟩
        · rintro b h12 ⟨rfl, hb⟩
          refine ⟨fun hbt => ?_, fun hbf => ?_⟩
          · have hk := hb.1 hbt
            refine take04x_spec b11 fun r h13 st2' b13 => ⟨_, st2', b13, fun r' hr' => ?_⟩
            dsimp only at hr'
            rw [tv.k, tv.n] at hr'
            cases st with
            | none => rw [takeS_none] at hr'; cases hr'
            | some r0 =>
              have h1 := takeS_mono (q := q) hr'
              rw [hst r0 rfl, takeS_enc tv.few hk] at h1
              exact (Option.some.inj h1).symm
          · have hk : ¬ (0 ≤ vs[i].k ∧ vs[i].k ≤ 5) := fun h => by rw [hb.2 h] at hbf; cases hbf
            rw [enc_none hk, List.nil_append] at hst
            exact ⟨st, st2, b11, hst⟩
      · rintro _ h11 ⟨st', st2', b11, hst'⟩
        rw [w64 (by omega) (by omega)]
        exact ⟨⟨i + 1, st', st2', by omega, by omega, b11, hst'⟩, by simp only [Int.toNat_natCast]; omega⟩
    · simp only [decide_eq_false_iff_not] at hge
      have : i = vs.length := by omega
      subst this
      rw [List.drop_length] at hst
      refine done_spec b10.p ?_
      rw [if_neg (fun e => ?_)]
      · exact K h10 b10.t.e
      · have := hst [] e
        simp only [List.nil_append] at this
        exact hqne this
end Go.Sh

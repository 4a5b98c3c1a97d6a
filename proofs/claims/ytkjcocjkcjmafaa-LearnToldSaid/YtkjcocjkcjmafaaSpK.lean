/-
  Laws that the proof of this claim's statement leans on, each proved under the conditions that it states.
-/
import Derived.Test.YtkjcocjkcjmafaaSpJ
set_option linter.unusedVariables false
set_option linter.unusedSimpArgs false
namespace Go.Sh
open Go Go.Lift Go.Cla
variable {h0 hq h h' : Heap} {x : S8} {S : SS} {nx : Int} {ls : List Int} {st : AE} {v w : Sl} {b1 b2 : Nat}
theorem push1 {B : Nat} {s : Sl} {xs : List Int} {y : Int} {k : Sl → Heap → Prop} (o : Own toI B h s xs) (hB : B ≤ h.size) (hl : xs.length ≤ 1000000)
    (K : ∀ s' h', Own toI B h' s' (xs ++ [y]) → Keep s.blk h h' → (s'.blk = s.blk ∨ ∃ b, s'.blk = some b ∧ h.size ≤ b) → k s' h') : new [Value.int .i64 y] h fun a h1 => appendS 1 8 s (⟨some a, 1, 1⟩ : Sl) h1 k := by
  intro T
  have e1 : Ext h (h.push (.cells [Value.int .i64 y].toArray T (0, 0))) := Ext.push _ _
  have n1 : Own toI h.size (h.push (.cells [Value.int .i64 y].toArray T (0, 0))) ⟨some ⟨h.size, 0, none⟩, [y].length, [y].length⟩ [y] := Own.new rfl
  have hs1 := e1.size
  generalize h.push (.cells [Value.int .i64 y].toArray T (0, 0)) = h1 at *
  refine (o.ext e1).append (by omega) n1.r (fun _ => rfl) (by simp; omega) fun s' h2 o2 k2 hbk => K s' h2 o2 ((Keep.of_ext e1).trans k2) ?_
  rcases hbk with hb | ⟨hb, _⟩
  · exact .inl hb
  · exact .inr ⟨h1.size, hb, hs1⟩
structure OutS (S : SS) (h0 hq h : Heap) (v w : Sl) (b1 b2 : Nat) (st : AE) (o sn : Sl) (L1 L2 : List Int) : Prop where
  rf : RFs S h0 h v w b1 b2 st
  ob : Own toI hq.size h o L1
  sb : Own toI hq.size h sn L2
  dj : ∀ b, o.blk = some b → sn.blk ≠ some b
  sz : hq.size ≤ h.size
  l1 : b1 < hq.size
  l2 : b2 < hq.size
  e0 : h0.size ≤ hq.size
theorem RF.keepO {n : Nat} {f : Nat → Int} {g : Nat → Bool} {o : Option Nat} (q : RF n h0 h v w b1 b2 f g) (k : Keep o h h') (ho : ∀ b, o = some b → h0.size ≤ b ∧ b ≠ b1 ∧ b ≠ b2) : RF n h0 h' v w b1 b2 f g := by
  refine ⟨?_, q.o1.keep k fun b hb e => ?_, q.o2.keep k fun b hb e => ?_, q.vb, q.wb, q.ne⟩
  · refine ⟨Nat.le_trans q.ext.size k.size, fun b hb _ => ?_⟩
    rw [k.same b (Nat.lt_of_lt_of_le hb q.ext.size) fun e => ?_, q.ext.same b hb (by simp)]
    have := (ho b e.symm).1; omega
  · rw [q.vb] at hb; cases hb; exact (ho _ e.symm).2.1 rfl
  · rw [q.wb] at hb; cases hb; exact (ho _ e.symm).2.2 rfl
variable {o sn : Sl} {L1 L2 : List Int}
theorem OutS.pushO {y : Int} {k : Sl → Heap → Prop} (q : OutS S h0 hq h v w b1 b2 st o sn L1 L2) (hl : L1.length ≤ 1000000) (K : ∀ o' h', OutS S h0 hq h' v w b1 b2 st o' sn (L1 ++ [y]) L2 → k o' h') : new [Value.int .i64 y] h fun a h1 => appendS 1 8 o (⟨some a, 1, 1⟩ : Sl) h1 k := by
  refine push1 q.ob q.sz hl fun o' h' oo kk hb => K o' h' ⟨q.rf.keepO kk fun b hb2 => ?_, oo, q.sb.keep kk fun b hb2 e => q.dj b e.symm hb2, fun b hb2 => ?_, Nat.le_trans q.sz kk.size, q.l1, q.l2, q.e0⟩
  · have := (q.ob.lt hb2).1
    have := q.l1; have := q.l2; have := q.e0
    omega
  · rcases hb with hb | ⟨b', hb, hge⟩
    · exact q.dj b (by rw [← hb]; exact hb2)
    · intro e
      have := (q.sb.lt e).2
      rw [hb] at hb2; cases hb2
      omega
theorem OutS.pushS {y : Int} {k : Sl → Heap → Prop} (q : OutS S h0 hq h v w b1 b2 st o sn L1 L2) (hl : L2.length ≤ 1000000) (K : ∀ o' h', OutS S h0 hq h' v w b1 b2 st o o' L1 (L2 ++ [y]) → k o' h') : new [Value.int .i64 y] h fun a h1 => appendS 1 8 sn (⟨some a, 1, 1⟩ : Sl) h1 k := by
  refine push1 q.sb q.sz hl fun o' h' oo kk hb => K o' h' ⟨q.rf.keepO kk fun b hb2 => ?_, q.ob.keep kk fun b hb2 e => q.dj b hb2 e.symm, oo, fun b hb2 e => ?_, Nat.le_trans q.sz kk.size, q.l1, q.l2, q.e0⟩
  · have := (q.sb.lt hb2).1
    have := q.l1; have := q.l2; have := q.e0
    omega
  · rcases hb with hb | ⟨b', hb, hge⟩
    · exact q.dj b hb2 (by rw [← hb]; exact e)
    · have := (q.ob.lt hb2).2
      rw [hb] at e; cases e
      omega
def hdK (S : SS) (A : Nat → Bool) (k : Nat) : List Nat := (List.range k).filter fun v => A v && (atI S.lev v == (S.hea.length : Int))
def seK (E : Nat → Bool) (k : Nat) : List Nat := (List.range k).filter E
def reK (S : SS) (A : Nat → Bool) (k : Nat) : List Nat := (List.range k).filter fun v => A v && decide (atI S.lev v < (S.hea.length : Int)) && decide ((v : Int) ≠ secF S A S.val.length)
theorem filt_succ {p : Nat → Bool} {k : Nat} : (List.range (k + 1)).filter p = (List.range k).filter p ++ if p k then [k] else [] := by
  rw [List.range_succ, List.filter_append]
  congr 1
  simp [List.filter_cons]
theorem filt_len {p : Nat → Bool} {k : Nat} : ((List.range k).filter p).length ≤ k := by
  have := List.length_filter_le p (List.range k)
  simpa using this
theorem rout_spec {here n : Int} {Q : ((Sl × Int × Sl) × Int) → Heap → Prop} (rd : SRd h0 x S nx) (R : RightS S nx) (f : Few8 S) (L : LesP S st) (q : RFs S h0 h v w b1 b2 st) (hh : here = (S.hea.length : Int)) (hnn : n = (S.val.length : Int))
    (K : ∀ h' o sn, Ext h0 h' → RJ h' o ((lessF S st.A).map (nl S)) → RJ h' sn ((inA S st.E).map fun v : Nat => (v : Int)) → Q ((o, levF S st.A, sn), 0) h') :
    new [] h fun a_13 h0u20 =>
            mem h0u20 fun h0u21 =>
            loop (fun (s0u5 : Int × Int × Sl × Int × Sl) h0u22 (K0u9 : (Int × Int × Sl × Int × Sl) → Heap → Prop) =>
             iteB (decide (s0u5.2.1 < n)) (
              seq (fun (K0u10 : (Int × Sl × Int × Sl) → Heap → Prop) =>
               seq (fun (K0u11 : (Sl × Int × Sl) → Heap → Prop) =>
                seq (fun (K0u12 : Bool → Heap → Prop) =>
                 idxS v s0u5.2.1 1 fun a_14 =>
                 Lift.load (Value.int .i64) a_14 h0u22 fun v_19 =>
                 iteB (v_19 != 0) (
                  idxS x.2.2.2.1 s0u5.2.1 1 fun a_15 =>
                  Lift.load (Value.int .i64) a_15 h0u22 fun v_20 =>
                  K0u12 (v_20 == here) h0u22
                 ) (
                  K0u12 false h0u22
                 )
                ) (fun t0u7 h0u25 =>
                 iteB t0u7 (
                  idxS v s0u5.2.1 1 fun a_16 =>
                  Lift.load (Value.int .i64) a_16 h0u25 fun v_21 =>
                  new [Value.int .i64 v_21] h0u25 fun a_17 h0u26 =>
                  appendS 1 8 s0u5.2.2.1 (⟨some a_17, 1, 1⟩ : Sl) h0u26 fun v_23 h0u27 =>
                  K0u11 (v_23, s0u5.2.2.2.1, s0u5.2.2.2.2) h0u27
                 ) (
                  K0u11 (s0u5.2.2.1, s0u5.2.2.2.1, s0u5.2.2.2.2) h0u25
                 )
                )
               ) (fun t0u6 h0u24 =>
                seq (fun (K0u13 : Int → Heap → Prop) =>
                 seq (fun (K0u14 : Bool → Heap → Prop) =>
                  idxS v s0u5.2.1 1 fun a_18 =>
                  Lift.load (Value.int .i64) a_18 h0u24 fun v_24 =>
                  iteB (v_24 != 0) (
                   idxS x.2.2.2.1 s0u5.2.1 1 fun a_19 =>
                   Lift.load (Value.int .i64) a_19 h0u24 fun v_25 =>
                   iteB (decide (v_25 < here)) (
                    iteB (decide (s0u5.1 < 0)) (
                     K0u14 true h0u24
                    ) (
                     idxS x.2.2.2.1 s0u5.2.1 1 fun a_20 =>
                     Lift.load (Value.int .i64) a_20 h0u24 fun v_26 =>
                     idxS x.2.2.2.1 s0u5.1 1 fun a_21 =>
                     Lift.load (Value.int .i64) a_21 h0u24 fun v_27 =>
                     K0u14 (decide (v_26 > v_27)) h0u24
                    )
                   ) (
                    K0u14 false h0u24
                   )
                  ) (
                   K0u14 false h0u24
                  )
                 ) (fun t0u9 h0u29 =>
                  iteB t0u9 (
                   K0u13 s0u5.2.1 h0u29
                  ) (
                   K0u13 s0u5.1 h0u29
                  )
                 )
                ) (fun t0u8 h0u28 =>
                 idxS w s0u5.2.1 1 fun a_22 =>
                 Lift.load Value.bool a_22 h0u28 fun v_28 =>
                 iteB v_28 (
                  new [Value.int .i64 s0u5.2.1] h0u28 fun a_23 h0u30 =>
                  appendS 1 8 t0u6.2.2 (⟨some a_23, 1, 1⟩ : Sl) h0u30 fun v_30 h0u31 =>
                  K0u10 (t0u8, t0u6.1, t0u6.2.1, v_30) h0u31
                 ) (
                  K0u10 (t0u8, t0u6.1, t0u6.2.1, t0u6.2.2) h0u28
                 )
                )
               )
              ) (fun t0u5 h0u23 =>
               Let (IntKind.wrap .i64 (s0u5.2.1 + 1) : Int) fun v_31 =>
               K0u9 (t0u5.1, v_31, t0u5.2.1, t0u5.2.2.1, t0u5.2.2.2) h0u23
              )
             ) (
              seq (fun (K0u15 : (Sl × Int × Sl) → Heap → Prop) =>
               iteB (decide (s0u5.1 ≥ 0)) (
                idxS v s0u5.1 1 fun a_24 =>
                Lift.load (Value.int .i64) a_24 h0u22 fun v_32 =>
                new [Value.int .i64 v_32] h0u22 fun a_25 h0u33 =>
                appendS 1 8 s0u5.2.2.1 (⟨some a_25, 1, 1⟩ : Sl) h0u33 fun v_34 h0u34 =>
                idxS x.2.2.2.1 s0u5.1 1 fun a_26 =>
                Lift.load (Value.int .i64) a_26 h0u34 fun v_35 =>
                K0u15 (v_34, v_35, s0u5.2.2.2.2) h0u34
               ) (
                K0u15 (s0u5.2.2.1, s0u5.2.2.2.1, s0u5.2.2.2.2) h0u22
               )
              ) (fun t0u10 h0u32 =>
               loop (fun (s0u6 : Int × Sl × Int × Sl) h0u35 (K0u16 : (Int × Sl × Int × Sl) → Heap → Prop) =>
                iteB (decide (s0u6.1 < n)) (
                 seq (fun (K0u17 : (Sl × Int × Sl) → Heap → Prop) =>
                  seq (fun (K0u18 : Bool → Heap → Prop) =>
                   idxS v s0u6.1 1 fun a_27 =>
                   Lift.load (Value.int .i64) a_27 h0u35 fun v_36 =>
                   iteB (v_36 != 0) (
                    idxS x.2.2.2.1 s0u6.1 1 fun a_28 =>
                    Lift.load (Value.int .i64) a_28 h0u35 fun v_37 =>
                    iteB (decide (v_37 < here)) (
                     K0u18 (s0u6.1 != s0u5.1) h0u35
                    ) (
                     K0u18 false h0u35
                    )
                   ) (
                    K0u18 false h0u35
                   )
                  ) (fun t0u12 h0u37 =>
                   iteB t0u12 (
                    idxS v s0u6.1 1 fun a_29 =>
                    Lift.load (Value.int .i64) a_29 h0u37 fun v_38 =>
                    new [Value.int .i64 v_38] h0u37 fun a_30 h0u38 =>
                    appendS 1 8 s0u6.2.1 (⟨some a_30, 1, 1⟩ : Sl) h0u38 fun v_40 h0u39 =>
                    K0u17 (v_40, s0u6.2.2.1, s0u6.2.2.2) h0u39
                   ) (
                    K0u17 (s0u6.2.1, s0u6.2.2.1, s0u6.2.2.2) h0u37
                   )
                  )
                 ) (fun t0u11 h0u36 =>
                  Let (IntKind.wrap .i64 (s0u6.1 + 1) : Int) fun v_41 =>
                  K0u16 (v_41, t0u11.1, t0u11.2.1, t0u11.2.2) h0u36
                 )
                ) (
                 Q ((s0u6.2.1, s0u6.2.2.1, s0u6.2.2.2), 0) h0u35
                )
               ) (0, t0u10.1, t0u10.2.1, t0u10.2.2) h0u32
              )
             )
            ) ((-1), 0, (⟨some a_13, 0, 0⟩ : Sl), 0, Sl.nil) h0u21 := by
  have hv := f.v
  subst hh hnn
  have hA : ∀ j, st.A j = true → j < S.val.length ∧ 0 < atI S.lev j := fun j hj => L.inn j (L.sub j hj)
  have hne : ∀ j, (fA S st j != 0) = st.A j := fun j => fA_ne R (hA j)
  have hll := R.llen
  intro T
  have n1 : Own toI h.size (h.push (.cells ([] : List Value).toArray T (0, 0))) ⟨some ⟨h.size, 0, none⟩, 0, 0⟩ [] := Own.new (ys := ([] : List Int)) rfl
  have e1 : Ext h (h.push (.cells ([] : List Value).toArray T (0, 0))) := Ext.push _ _
  generalize h.push (.cells ([] : List Value).toArray T (0, 0)) = h1 at *
  refine mem_ext fun h2 e2 => ?_
  have e12 := e1.trans e2
  have q2 : OutS S h0 h h2 v w b1 b2 st ⟨some ⟨h.size, 0, none⟩, 0, 0⟩ Sl.nil [] [] := ⟨q.ext' e12, n1.ext e2, Own.nil, fun b _ e => by simp [Sl.blk, Sl.nil] at e, e12.size, (q.o1.lt q.vb).2, (q.o2.lt q.wb).2, q.ext.size⟩
  refine loop.inv (fun (t : Int × Int × Sl × Int × Sl) hh => ∃ k : Nat, t.2.1 = (k : Int) ∧ k ≤ S.val.length ∧ t.1 = secF S st.A k ∧ t.2.2.2.1 = 0 ∧ OutS S h0 h hh v w b1 b2 st t.2.2.1 t.2.2.2.2 ((hdK S st.A k).map (nl S)) ((seK st.E k).map fun v : Nat => (v : Int))) (fun t _ => S.val.length - t.2.1.toNat) ⟨0, rfl, by omega, rfl, rfl, q2⟩ ?_
  rintro ⟨_, _, o, _, sn⟩ h3 ⟨k, rfl, hk, rfl, rfl, q3⟩
  dsimp only at q3 ⊢
  have hlk1 : (hdK S st.A k).length ≤ k := filt_len
  have hlk2 : (seK st.E k).length ≤ k := filt_len
  refine ⟨fun g => ?_, fun g => ?_⟩
  · have g := of_decide_eq_true g
    have hk2 : k < S.val.length := by omega
    refine seq.cut (fun (t : Int × Sl × Int × Sl) hh => t.1 = secF S st.A (k + 1) ∧ t.2.2.1 = 0 ∧ OutS S h0 h hh v w b1 b2 st t.2.1 t.2.2.2 ((hdK S st.A (k + 1)).map (nl S)) ((seK st.E (k + 1)).map fun v : Nat => (v : Int))) ?_ ?_
    · refine seq.cut (fun (t : Sl × Int × Sl) hh => t.2.1 = 0 ∧ OutS S h0 h hh v w b1 b2 st t.1 t.2.2 ((hdK S st.A (k + 1)).map (nl S)) ((seK st.E k).map fun v : Nat => (v : Int))) ?_ ?_
      · refine seq.cut (fun (b : Bool) hh => hh = h3 ∧ b = (st.A k && (atI S.lev k == (S.hea.length : Int)))) ?_ ?_
        · refine q3.rf.ldv (j := k) rfl hk2 ?_
          rw [hne]
          refine ⟨fun g2 => ?_, fun g2 => ⟨rfl, by rw [g2]; rfl⟩⟩
          refine RJ.ldE rd.lev q3.rf.ext (j := k) rfl (by omega) ⟨rfl, by rw [g2]; rfl⟩
        · rintro _ hh ⟨rfl, rfl⟩
          have eh : hdK S st.A (k + 1) = hdK S st.A k ++ if (st.A k && (atI S.lev k == (S.hea.length : Int))) then [k] else [] := filt_succ
          refine ⟨fun g2 => ?_, fun g2 => ?_⟩
          · refine q3.rf.ldv (j := k) rfl hk2 ?_
            have : fA S st k = nl S k := by unfold fA; rw [if_pos (by simp only [Bool.and_eq_true] at g2; exact g2.1)]
            rw [this]
            refine q3.pushO (by simp; omega) fun o' h' q' => ⟨rfl, ?_⟩
            rw [eh, g2]
            simpa using q'
          · refine ⟨rfl, ?_⟩
            rw [eh, g2]
            simpa using q3
      · rintro ⟨o4, _, sn4⟩ h4 ⟨rfl, q4⟩
        dsimp only at q4 ⊢
        refine seq.cut (fun (t : Int) hh => hh = h4 ∧ t = secF S st.A (k + 1)) ?_ ?_
        · refine seq.cut (fun (b : Bool) hh => hh = h4 ∧ (b = true ↔ (st.A k = true ∧ atI S.lev k < (S.hea.length : Int) ∧ (secF S st.A k < 0 ∨ atI S.lev k > atI S.lev (secF S st.A k).toNat)))) ?_ ?_
          · refine q4.rf.ldv (j := k) rfl hk2 ?_
            rw [hne]
            refine ⟨fun g2 => ?_, fun g2 => ⟨rfl, by simp [g2]⟩⟩
            refine RJ.ldE rd.lev q4.rf.ext (j := k) rfl (by omega) ⟨fun g3 => ⟨fun g4 => ?_, fun g4 => ?_⟩, fun g3 => ⟨rfl, ?_⟩⟩
            · have g3 := of_decide_eq_true g3
              have g4 := of_decide_eq_true g4
              exact ⟨rfl, by simp [g2, g3, g4]⟩
            · have g3 := of_decide_eq_true g3
              have g4 := of_decide_eq_false g4
              have hs : ∃ s : Nat, s < k ∧ secF S st.A k = (s : Int) := by
                rcases secF_spec (S := S) st.A k with ⟨e, _⟩ | ⟨s, hs, e, _⟩
                · omega
                · exact ⟨s, hs, e⟩
              obtain ⟨s, hs, es⟩ := hs
              refine RJ.ldE rd.lev q4.rf.ext (j := k) rfl (by omega) (RJ.ldE rd.lev q4.rf.ext (j := s) es (by omega) ⟨rfl, ?_⟩)
              rw [decide_eq_true_eq, es]
              constructor
              · intro h; exact ⟨g2, g3, .inr h⟩
              · rintro ⟨_, _, h | h⟩
                · omega
                · exact h
            · have g3 := of_decide_eq_false g3
              simp [g3]
          · rintro b hh ⟨rfl, hb⟩
            refine ⟨fun g2 => ⟨rfl, ?_⟩, fun g2 => ⟨rfl, ?_⟩⟩
            · show (k : Int) = if _ then _ else _
              rw [if_pos (hb.1 g2)]
            · show secF S st.A k = if _ then _ else _
              rw [if_neg (fun h => by rw [hb.2 h] at g2; cases g2)]
        · rintro _ hh ⟨rfl, rfl⟩
          have ese : seK st.E (k + 1) = seK st.E k ++ if st.E k then [k] else [] := filt_succ
          refine q4.rf.ldw (j := k) rfl hk2 ⟨fun g2 => ?_, fun g2 => ?_⟩
          · refine q4.pushS (by simp; omega) fun o' h' q' => ⟨rfl, rfl, ?_⟩
            rw [ese, g2]
            simpa using q'
          · refine ⟨rfl, rfl, ?_⟩
            rw [ese, g2]
            simpa using q4
    · rintro ⟨_, o5, _, sn5⟩ h5 ⟨rfl, rfl, q5⟩
      intro i hi
      subst hi
      dsimp only at q5 ⊢
      rw [w64 (by omega) (by omega)]
      exact ⟨⟨k + 1, by simp, by omega, rfl, rfl, q5⟩, by omega⟩
  · have g := of_decide_eq_false g
    have : k = S.val.length := by omega
    subst this
    have hsec := secF_spec (S := S) st.A S.val.length
    refine seq.cut (fun (t : Sl × Int × Sl) hh => t.2.1 = levF S st.A ∧ OutS S h0 h hh v w b1 b2 st t.1 t.2.2 ((headF S st.A ++ (if secF S st.A S.val.length ≥ 0 then [(secF S st.A S.val.length).toNat] else [])).map (nl S)) ((inA S st.E).map fun v : Nat => (v : Int))) ?_ ?_
    · refine ⟨fun g2 => ?_, fun g2 => ?_⟩
      · have g2 := of_decide_eq_true g2
        rcases hsec with ⟨e, _⟩ | ⟨s, hs, es, hAs, _⟩
        · omega
        refine q3.rf.ldv (j := s) es hs ?_
        have : fA S st s = nl S s := by unfold fA; rw [if_pos hAs]
        rw [this]
        refine q3.pushO (by simp; omega) fun o' h' q' => ?_
        refine RJ.ldE rd.lev q'.rf.ext (j := s) es (by omega) ⟨?_, ?_⟩
        · unfold levF; rw [if_pos g2, es]; rfl
        · rw [if_pos g2, es]
          simpa [hdK, headF, seK, inA] using q'
      · have g2 := of_decide_eq_false g2
        refine ⟨?_, ?_⟩
        · unfold levF; rw [if_neg g2]
        · rw [if_neg g2]
          simpa [hdK, headF, seK, inA] using q3
    · rintro ⟨o5, _, sn5⟩ h5 ⟨rfl, q5⟩
      dsimp only at q5 ⊢
      have hl5 : (headF S st.A ++ (if secF S st.A S.val.length ≥ 0 then [(secF S st.A S.val.length).toNat] else [])).length ≤ 21 := by
        have h1 : (headF S st.A).length ≤ S.val.length := filt_len
        rw [List.length_append]
        split <;> simp <;> omega
      generalize hhd : headF S st.A ++ (if secF S st.A S.val.length ≥ 0 then [(secF S st.A S.val.length).toNat] else []) = hd at *
      refine loop.inv (fun (t : Int × Sl × Int × Sl) hh => ∃ k : Nat, t.1 = (k : Int) ∧ k ≤ S.val.length ∧ t.2.2.1 = levF S st.A ∧ OutS S h0 h hh v w b1 b2 st t.2.1 t.2.2.2 ((hd ++ reK S st.A k).map (nl S)) ((inA S st.E).map fun v : Nat => (v : Int))) (fun t _ => S.val.length - t.1.toNat) ⟨0, rfl, by omega, rfl, by simpa [reK] using q5⟩ ?_
      rintro ⟨_, o6, _, sn6⟩ h6 ⟨k, rfl, hk6, rfl, q6⟩
      dsimp only at q6 ⊢
      have hlk6 : (reK S st.A k).length ≤ k := filt_len
      refine ⟨fun g => ?_, fun g => ?_⟩
      · have g := of_decide_eq_true g
        have hk2 : k < S.val.length := by omega
        have er : reK S st.A (k + 1) = reK S st.A k ++ if (st.A k && decide (atI S.lev k < (S.hea.length : Int)) && decide ((k : Int) ≠ secF S st.A S.val.length)) then [k] else [] := filt_succ
        refine seq.cut (fun (t : Sl × Int × Sl) hh => t.2.1 = levF S st.A ∧ OutS S h0 h hh v w b1 b2 st t.1 t.2.2 ((hd ++ reK S st.A (k + 1)).map (nl S)) ((inA S st.E).map fun v : Nat => (v : Int))) ?_ ?_
        · refine seq.cut (fun (b : Bool) hh => hh = h6 ∧ b = (st.A k && decide (atI S.lev k < (S.hea.length : Int)) && decide ((k : Int) ≠ secF S st.A S.val.length))) ?_ ?_
          · refine q6.rf.ldv (j := k) rfl hk2 ?_
            rw [hne]
            refine ⟨fun g2 => ?_, fun g2 => ⟨rfl, by rw [g2]; rfl⟩⟩
            refine RJ.ldE rd.lev q6.rf.ext (j := k) rfl (by omega) ⟨fun g3 => ⟨rfl, ?_⟩, fun g3 => ⟨rfl, ?_⟩⟩
            · rw [g2, g3]
              by_cases e : (k : Int) = secF S st.A S.val.length
              · simp [e]
              · simp [e]
            · rw [g2, g3]; rfl
          · rintro _ hh ⟨rfl, rfl⟩
            refine ⟨fun g2 => ?_, fun g2 => ?_⟩
            · refine q6.rf.ldv (j := k) rfl hk2 ?_
              have : fA S st k = nl S k := by unfold fA; rw [if_pos (by simp only [Bool.and_eq_true] at g2; exact g2.1.1)]
              rw [this]
              refine q6.pushO (by simp; omega) fun o' h' q' => ⟨rfl, ?_⟩
              rw [er, g2]
              simpa using q'
            · refine ⟨rfl, ?_⟩
              rw [er, g2]
              simpa using q6
        · rintro ⟨o7, _, sn7⟩ h7 ⟨rfl, q7⟩
          intro i hi
          subst hi
          dsimp only at q7 ⊢
          rw [w64 (by omega) (by omega)]
          exact ⟨⟨k + 1, by simp, by omega, rfl, q7⟩, by omega⟩
      · have g := of_decide_eq_false g
        have : k = S.val.length := by omega
        subst this
        refine K h6 o6 sn6 q6.rf.ext ?_ q6.sb.r
        have e := q6.ob.r
        rw [← hhd] at e
        exact e
end Go.Sh

namespace Go.Sh
open Go Go.Lift Go.Cla
variable {h0 h h' : Heap} {x : S8} {S : SS} {nx : Int} {ls : List Int} {st : AE} {v w : Sl} {b1 b2 : Nat}
open Classical in
noncomputable def msr (P : Nat → Heap → Prop) (hh : Heap) : Nat := if h : ∃ p, P p hh then Classical.choose h else 0
theorem msr_eq {P : Nat → Heap → Prop} {hh : Heap} {p : Nat} (h : P p hh) (hu : ∀ a b, P a hh → P b hh → a = b) : msr P hh = p := by
  have he : ∃ p, P p hh := ⟨p, h⟩
  unfold msr
  rw [dif_pos he]
  exact hu _ _ (Classical.choose_spec he) h
theorem max_of {p : Nat → Bool} : ∀ m, (∃ q, q < m ∧ p q = true) → ∃ q, q < m ∧ p q = true ∧ ∀ r, r < m → p r = true → r ≤ q := by
  intro m
  induction m with
  | zero => rintro ⟨q, hq, _⟩; omega
  | succ m ih =>
    intro h
    by_cases e : p m = true
    · exact ⟨m, by omega, e, fun r hr _ => by omega⟩
    · obtain ⟨q, hq, hp⟩ := h
      have hqm : q ≠ m := fun g => e (g ▸ hp)
      obtain ⟨r, h1, h2, h3⟩ := ih ⟨q, by omega, hp⟩
      refine ⟨r, by omega, h2, fun t ht hpt => ?_⟩
      have : t ≠ m := fun g => e (g ▸ hpt)
      exact h3 t (by omega) hpt
theorem InvW.last {i : Nat} (I : InvW S i st) : ∃ p, p < S.tra.length ∧ p < i ∧ inH S st p = true ∧ (∀ q, q < S.tra.length → inH S st q = true → q ≤ p) ∧ InvW S (p + 1) st := by
  obtain ⟨p, h1, h2, h3⟩ := max_of S.tra.length (cnt_pos I.one)
  refine ⟨p, h1, I.pos p h1 h2, h2, h3, I.sub, I.inn, fun q hq hp => by have := h3 q hq hp; omega, I.one, fun v hv => (I.old v hv).imp id fun ⟨q, g1, g2, g3⟩ => ⟨q, by have := I.pos p h1 h2; omega, g2, g3⟩⟩
theorem runW_to (R : RightS S nx) {i p : Nat} (I : InvW S i st) (hi : i ≤ S.tra.length) (hp : p < S.tra.length) (h : inH S st p = true) (hl : ∀ q, q < S.tra.length → inH S st q = true → q ≤ p) : runW S i st = runW S (p + 1) st := by
  by_cases hc : cntH S st = 1
  · rw [runW_one hc, runW_one hc]
  · exact (runW_last R I hi hc hp h hl).1
def HeadP (S : SS) (h0 : Heap) (v w : Sl) (b1 b2 : Nat) (ls : List Int) (p : Nat) (hh : Heap) : Prop :=
  ∃ st, RFs S h0 hh v w b1 b2 st ∧ InvW S (p + 1) st ∧ p < S.tra.length ∧ inH S st p = true ∧ (∀ q, q < S.tra.length → inH S st q = true → q ≤ p) ∧ runW S (p + 1) st = runW S S.tra.length (st0 S ls)
theorem rowInj {α : Type} {toV : α → Value} {s : Sl} {xs ys : List α} (hi : ∀ a b, toV a = toV b → a = b) (h1 : R toV h s xs) (h2 : R toV h s ys) : xs = ys := by
  have := h1.cells.symm.trans h2.cells
  have e := Option.some.inj this
  exact List.map_inj_right (fun a b h => hi a b h) |>.1 e
theorem HeadP.uniq (R : RightS S nx) {hh : Heap} (a b : Nat) (ha : HeadP S h0 v w b1 b2 ls a hh) (hb : HeadP S h0 v w b1 b2 ls b hh) : a = b := by
  obtain ⟨s1, q1, I1, l1, i1, m1, _⟩ := ha
  obtain ⟨s2, q2, I2, l2, i2, m2, _⟩ := hb
  have e := rowInj (fun a b h => by cases h; rfl) q1.o1.r q2.o1.r
  have eA : ∀ j, j < S.val.length → s1.A j = s2.A j := fun j hj => by
    have := congrArg (fun l => l[j]?) e
    simp only [List.getElem?_map, List.getElem?_range hj, Option.map_some, Option.some.injEq] at this
    rw [← fA_ne R (fun h => I1.inn j (I1.sub j h)), ← fA_ne R (fun h => I2.inn j (I2.sub j h)), this]
  have eH : ∀ q, q < S.tra.length → inH S s1 q = inH S s2 q := fun q hq => by
    unfold inH
    rw [eA _ (R.tra q hq).th.tr]
  have h1 := m1 b l2 (by rw [eH b l2]; exact i2)
  have h2 := m2 a l1 (by rw [← eH a l1]; exact i1)
  omega
theorem rValue_any {s : Sl} {V : List Int} {l : Int} {Q : Int → Heap → Prop} (hV : RJ h s V) (hn : V.length ≤ 1048576) (ht : Tri V) (K : Q (vl V l) h) : ref18uValue s l h Q := by
  by_cases th : There V.length l
  · exact rValue_spec hV hn th (ht.at _) K
  · have e : vl V l = 0 := by unfold vl; rw [if_neg th]
    rw [e] at K
    unfold ref18uValue
    rw [hV.len]
    refine rThere_spec hn ⟨fun _ => K, fun g => ?_⟩
    have : decide (There V.length l) = true := by simpa using g
    exact absurd (of_decide_eq_true this) th
theorem st0uA {j : Nat} : (st0 S ls).A j = true ↔ j ∈ ls.map tr ∧ 0 < atI S.lev j := by
  constructor
  · intro h
    rcases adds_A h with g | g
    · cases g
    · exact g
  · rintro ⟨h1, h2⟩
    exact adds_in h2 _ _ h1
theorem st0uE {j : Nat} : (st0 S ls).E j = (st0 S ls).A j := by
  cases h : (st0 S ls).A j
  · cases g : (st0 S ls).E j
    · rfl
    · have := adds_eq (S := S) (st := AE.nil) (vs := ls.map tr) (fun v h => by cases h) g
      unfold st0 at h
      rw [this] at h; cases h
  · exact adds_sub (S := S) (st := AE.nil) (vs := ls.map tr) (fun v h => by cases h) j h
theorem rfrom_spec {s : Sl} {Q : ((Sl × Int × Sl) × Int) → Heap → Prop} (rd : SRd h x S nx) (Rt : RightS S nx) (f : Few8 S) (hr : RJ h s ls) (hl : ls.length ≤ 1000) (hi : I64 ls)
    (K0 : lesson S ls = none → ∀ h', Ext h h' → Q ((Sl.nil, 0, Sl.nil), 1) h')
    (K1 : ∀ st, lesson S ls = some st → ∀ h' o sn, Ext h h' → RJ h' o ((lessF S st.A).map (nl S)) → RJ h' sn ((inA S st.E).map fun v : Nat => (v : Int)) → Q ((o, levF S st.A, sn), 0) h') : ref19uFrom x s h Q := by
  have hv := f.v
  have hft := f.t
  have hll := Rt.llen
  have hrl := Rt.rlen
  have hn : S.val.length ≤ 1048576 := by omega
  have hlen := hr.len
  have htri := tri_of Rt.tra Rt.fre
  have hhl := rd.hea.len
  have hvl := rd.val.len
  have hno : ¬ Ready S ls → lesson S ls = none := fun g => by unfold lesson; rw [if_neg g]
  refine mem_ext fun h1 e1 => ?_
  intro here hhere n hnn
  have hhere : here = (S.hea.length : Int) := by rw [hhere, hhl]
  have hnn : n = (S.val.length : Int) := by rw [hnn, hvl]
  clear hhl hvl
  subst hhere hnn
  refine mk_rep (toV := toI) (a := 0) rfl (by omega) (by decide) fun v h2 o2 e2 bv => ?_
  refine mk_rep (toV := Value.bool) (a := false) rfl (by omega) (by decide) fun w h3 o3 e3 bw => ?_
  have sz1 := e1.size; have sz2 := e2.size; have sz3 := e3.size
  have hlt2 := (o2.lt bv).2
  have q3 : RF S.val.length h h3 v w h1.size h2.size (fun _ => 0) (fun _ => false) := ⟨(e1.trans e2).trans e3, by simpa [List.map_const'] using (o2.ext e3).mono sz1, by simpa [List.map_const'] using o3.mono (by omega), bv, bw, by omega⟩
  refine loop.inv (fun (t : Int × Sl × Int × Sl) hh => ∃ k : Nat, t.1 = (k : Int) ∧ k ≤ ls.length ∧ (∀ l ∈ ls.take k, vl S.val l = -1) ∧ ((ls.take k).map tr).Nodup ∧ RF S.val.length h hh v w h1.size h2.size (fun j => if j ∈ (ls.take k).map tr then nl S j else 0) (fun _ => false)) (fun t _ => ls.length - t.1.toNat) ⟨0, rfl, by omega, by simp, by simp, by simpa using q3⟩ ?_
  rintro ⟨_, t2, t3, t4⟩ h4 ⟨k, rfl, hk, hneg, hone, q4⟩
  dsimp only
  refine ⟨fun g => ?_, fun g => ?_⟩
  · have g := of_decide_eq_true g
    have hk2 : k < ls.length := by omega
    have el : atI ls k = ls[k] := at_get hk2
    have hmem : ls[k] ∈ ls := List.getElem_mem hk2
    have ek : ls.take (k + 1) = ls.take k ++ [ls[k]] := List.take_succ_eq_append_getElem hk2
    generalize hlk : ls[k] = l at *
    refine seq.cut (fun (b : Bool) hh => hh = h4 ∧ (b = false ↔ vl S.val l = -1 ∧ tr l ∉ (ls.take k).map tr)) ?_ ?_
    · refine RJ.ldE hr q4.ext (j := k) rfl hk2 ?_
      rw [el]
      refine rValue_any (R.ext rd.val q4.ext) hn htri ⟨fun g2 => ⟨rfl, ?_⟩, fun g2 => ?_⟩
      · have g2 : vl S.val l ≠ -1 := by simpa using g2
        simp [g2]
      · have g2 : vl S.val l = -1 := by simpa using g2
        have th := vl_there (V := S.val) (l := l) (by omega)
        refine RJ.ldE hr q4.ext (j := k) rfl hk2 ?_
        rw [el]
        refine rTruth_spec th hn (q4.ldv (j := tr l) rfl th.tr ⟨rfl, ?_⟩)
        by_cases g3 : tr l ∈ (ls.take k).map tr
        · rw [if_pos g3]
          have : (nl S (tr l) != 0) = true := by rw [← nl_of g2]; simpa using th.1
          rw [this]
          exact ⟨nofun, fun h => absurd g3 h.2⟩
        · rw [if_neg g3]
          exact ⟨fun _ => ⟨g2, g3⟩, fun _ => rfl⟩
    · rintro b hh ⟨rfl, hb⟩
      refine ⟨fun gb => ?_, fun gb => ?_⟩
      · refine K0 (hno fun rdy => ?_) _ q4.ext
        have : b = false := hb.2 ⟨rdy.neg l hmem, fun hin => by
          obtain ⟨m, hm, e⟩ := List.mem_map.1 hin
          have hp := rdy.one
          have els : ls = ls.take k ++ (l :: ls.drop (k + 1)) := by rw [← hlk, ← List.drop_eq_getElem_cons hk2, List.take_append_drop]
          rw [els, List.map_append, List.nodup_append] at hp
          exact hp.2.2 (tr m) (List.mem_map_of_mem hm) (tr l) (by simp) e⟩
        rw [this] at gb; cases gb
      · obtain ⟨g2, g3⟩ := hb.1 gb
        have th := vl_there (V := S.val) (l := l) (by omega)
        refine RJ.ldE hr q4.ext (j := k) rfl hk2 ?_
        rw [el]
        refine RJ.ld2E hr q4.ext (j := k) rfl hk2 fun a4 ha4 => ?_
        rw [el] at ha4 ⊢
        refine rTruth_spec th hn ⟨cell_keep q4.ext ha4 (by simp), ?_⟩
        refine q4.stv (j := tr l) rfl th.tr fun h5 q5 => ?_
        intro i hi2
        subst hi2
        rw [w64 (by omega) (by omega)]
        refine ⟨⟨k + 1, by simp, by omega, fun m hm => ?_, ?_, q5.same (fun j hj => ?_) fun j hj => rfl⟩, by simp; omega⟩
        · rw [ek] at hm
          rcases List.mem_append.1 hm with hm | hm
          · exact hneg m hm
          · simp at hm; subst hm; exact g2
        · rw [ek, List.map_append, List.nodup_append]
          refine ⟨hone, by simp, fun a ha b hb e => ?_⟩
          simp at hb
          subst hb e
          exact g3 ha
        · unfold upF
          rw [ek, List.map_append]
          by_cases e : j = tr l
          · subst e; simp [← nl_of g2]
          · simp [e]
  · have g := of_decide_eq_false g
    have : k = ls.length := by omega
    subst this
    rw [List.take_length] at hneg hone q4
    refine seq.cut (fun (b : Bool) hh => RF S.val.length h hh v w h1.size h2.size (fun j => if j ∈ ls.map tr then nl S j else 0) (fun _ => false) ∧ (b = false ↔ Ready S ls)) ?_ ?_
    · refine ⟨fun g2 => ⟨q4, ?_⟩, fun g2 => ?_⟩
      · have g2 : (S.hea.length : Int) = 0 := by simpa using g2
        simp only [Bool.true_eq_false, false_iff]
        intro rdy
        have := rdy.hea; omega
      · have g2 : ¬ (S.hea.length : Int) = 0 := by simpa using g2
        refine rLevel19uspec (rd.ext q4.ext) (by omega) (R.ext hr q4.ext) (by omega) hi fun h5 e5 => ⟨q4.ext' e5, ?_⟩
        simp only [bne_eq_false_iff_eq]
        exact ⟨fun e => ⟨hneg, hone, by omega, e⟩, fun rdy => rdy.lev⟩
    · rintro b h5 ⟨q5, hb⟩
      refine ⟨fun gb => K0 (hno fun rdy => by rw [hb.2 rdy] at gb; cases gb) _ q5.ext, fun gb => ?_⟩
      have rdy := hb.1 gb
      have hls : lesson S ls = runW S S.tra.length (st0 S ls) := by unfold lesson; rw [if_pos rdy]
      have I0 := st0uinv Rt hn rdy
      refine loop.inv (fun (t : Int) hh => ∃ k : Nat, t = (k : Int) ∧ k ≤ S.val.length ∧ RF S.val.length h hh v w h1.size h2.size (fun j => if j < k then fA S (st0 S ls) j else if j ∈ ls.map tr then nl S j else 0) (fun j => if j < k then (st0 S ls).E j else false)) (fun t _ => S.val.length - t.toNat) ⟨0, rfl, by omega, by simpa using q5⟩ ?_
      rintro _ h6 ⟨k, rfl, hk6, q6⟩
      refine ⟨fun g => ?_, fun g => ?_⟩
      · have g := of_decide_eq_true g
        have hk2 : k < S.val.length := by omega
        have hl0 := Rt.lev_le' hk2
        have efk : fA S (st0 S ls) k = if atI S.lev k = 0 then 0 else if k ∈ ls.map tr then nl S k else 0 := by
          unfold fA
          by_cases g2 : (st0 S ls).A k = true
          · have := st0uA.1 g2
            rw [if_pos g2, if_neg (by omega), if_pos this.1]
          · rw [if_neg g2]
            by_cases g3 : atI S.lev k = 0
            · rw [if_pos g3]
            · rw [if_neg g3]
              by_cases g4 : k ∈ ls.map tr
              · exact absurd (st0uA.2 ⟨g4, by omega⟩) g2
              · rw [if_neg g4]
        refine seq.cut (fun _ hh => RF S.val.length h hh v w h1.size h2.size (fun j => if j < k + 1 then fA S (st0 S ls) j else if j ∈ ls.map tr then nl S j else 0) (fun j => if j < k then (st0 S ls).E j else false)) ?_ ?_
        · refine RJ.ldE rd.lev q6.ext (j := k) rfl (by omega) ⟨fun g2 => ?_, fun g2 => ?_⟩
          · have g2 : atI S.lev k = 0 := by simpa using g2
            refine q6.stv (j := k) rfl hk2 fun h7 q7 => q7.same (fun j hj => ?_) fun j hj => rfl
            unfold upF
            by_cases e : j = k
            · subst e; rw [if_pos rfl, if_pos (by omega), efk, if_pos g2]
            · rw [if_neg e]
              dsimp only
              by_cases e2 : j < k
              · rw [if_pos e2, if_pos (by omega)]
              · rw [if_neg e2, if_neg (show ¬ j < k + 1 by omega)]
          · have g2 : ¬ atI S.lev k = 0 := by simpa using g2
            refine q6.same (fun j hj => ?_) fun j hj => rfl
            by_cases e : j = k
            · subst e; rw [if_pos (Nat.lt_succ_self j), if_neg (Nat.lt_irrefl j), efk, if_neg g2]
            · by_cases e2 : j < k
              · rw [if_pos e2, if_pos (by omega)]
              · rw [if_neg e2, if_neg (show ¬ j < k + 1 by omega)]
        · rintro _ h7 q7
          refine q7.ldv (j := k) rfl hk2 ?_
          rw [if_pos (by omega), fA_ne Rt (fun h => I0.inn k (I0.sub k h))]
          refine q7.stw (j := k) rfl hk2 fun h8 q8 => ?_
          intro i hi2
          subst hi2
          rw [w64 (by omega) (by omega)]
          refine ⟨⟨k + 1, by simp, by omega, q8.same (fun j hj => rfl) fun j hj => ?_⟩, by omega⟩
          unfold upF
          by_cases e : j = k
          · subst e; rw [if_pos rfl, if_pos (by omega), st0uE]
          · rw [if_neg e]
            dsimp only
            by_cases e2 : j < k
            · rw [if_pos e2, if_pos (by omega)]
            · rw [if_neg e2, if_neg (show ¬ j < k + 1 by omega)]
      · have g := of_decide_eq_false g
        have : k = S.val.length := by omega
        subst this
        have q7 : RFs S h h6 v w h1.size h2.size (st0 S ls) := q6.same (fun j hj => by rw [if_pos hj]) (fun j hj => by rw [if_pos hj])
        obtain ⟨p0, p1, p2, p3, p4, p5⟩ := I0.last
        refine loop.inv (fun (_ : Sl × Int × Sl) hh => ∃ p, HeadP S h v w h1.size h2.size ls p hh) (fun _ hh => msr (HeadP S h v w h1.size h2.size ls) hh) ⟨p0, _, q7, p5, p1, p3, p4, (runW_to Rt I0 (Nat.le_refl _) p1 p3 p4).symm⟩ ?_
        rintro t8 h8 ⟨p, hP⟩
        have em := msr_eq hP (fun a b => HeadP.uniq Rt a b)
        obtain ⟨st, q8, I8, hp8, hin8, hmax8, hrun8⟩ := hP
        have hA8 : ∀ j, st.A j = true → j < S.val.length ∧ 0 < atI S.lev j := fun j hj => I8.inn j (I8.sub j hj)
        refine rlast_spec rd Rt f q8 hA8 I8.one rfl fun p' hp' hin' hmax' => ?_
        have epp : p' = p := Nat.le_antisymm (hmax8 p' hp' hin') (hmax' p hp8 hin8)
        subst epp
        refine ⟨fun gc => ?_, fun gc => ?_⟩
        · have gc : cntH S st = 1 := by
            have : ((cntH S st : Nat) : Int) = 1 := by simpa using gc
            omega
          have hst : lesson S ls = some st := by rw [hls, ← hrun8]; exact runW_one gc _
          exact rout_spec rd Rt f (lesson_p Rt hn hst) q8 rfl rfl fun h' o sn e r1 r2 => K1 st hst h' o sn e r1 r2
        · have gc : cntH S st ≠ 1 := by
            have : ¬ ((cntH S st : Nat) : Int) = 1 := by simpa using gc
            omega
          have hAp : st.A (tr (tl S p')) = true := by
            have := hin8
            unfold inH at this
            simp only [Bool.and_eq_true] at this
            exact this.1
          have hrun : runW S (p' + 1) st = if atI S.rea (tr (tl S p')) = -1 then none else runW S p' (stepW S st (tr (tl S p'))) := by
            show (if cntH S st = 1 then _ else _) = _
            rw [if_neg gc, if_pos hAp]
          have T := Rt.tra p' hp8
          refine RJ.ldE rd.rea q8.ext (j := tr (tl S p')) rfl (by rw [hrl]; exact T.th.tr) ⟨fun g2 => ?_, fun g2 => ?_⟩
          · have g2 := of_decide_eq_true g2
            have hre : atI S.rea (tr (tl S p')) = -1 := by
              rcases Rt.rea p' hp8 with h | ⟨c, h, _⟩
              · exact h
              · omega
            refine K0 ?_ _ q8.ext
            rw [hls, ← hrun8, hrun, if_pos hre]
          · have g2 := of_decide_eq_false g2
            have hre : atI S.rea (tr (tl S p')) ≠ -1 := by omega
            obtain ⟨c, c1, c2, c3, c4⟩ := Rt.oth hp8 hre
            refine q8.stv (j := tr (tl S p')) rfl T.th.tr fun h9 q9 => ?_
            have q9' : RFs S h h9 v w h1.size h2.size (st.out (tr (tl S p'))) := q9.same (fun j hj => by
              unfold upF fA AE.out
              by_cases e : j = tr (tl S p')
              · simp [e]
              · simp [e]) fun j hj => rfl
            refine RJ.ldE rd.rea q9.ext (j := tr (tl S p')) rfl (by rw [hrl]; exact T.th.tr) ?_
            refine rd.clE q9.ext c1 c2 fun s9 hs9 => ?_
            refine rtake_spec rd Rt f q9' hp8 hs9 c3 c4 fun h10 q10 => ?_
            have I10 := I8.step Rt hp8 hAp gc hre
            obtain ⟨r0, r1, r2, r3, r4, r5⟩ := I10.last
            have hP10 : HeadP S h v w h1.size h2.size ls r0 h10 := ⟨_, q10, r5, r1, r3, r4, by rw [← runW_to Rt I10 (by omega) r1 r3 r4, ← hrun8, hrun, if_neg hre]⟩
            refine ⟨⟨r0, hP10⟩, ?_⟩
            rw [em, msr_eq hP10 (fun a b => HeadP.uniq Rt a b)]
            exact r2
end Go.Sh

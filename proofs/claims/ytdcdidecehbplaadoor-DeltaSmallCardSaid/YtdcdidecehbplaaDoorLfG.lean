/-
  The deep code does what the functions of the shallow text say: printed by lift.py.
-/
import Derived.Test.YtdcdidecehbplaaDoorLfG1
set_option linter.unusedVariables false
set_option linter.unusedSimpArgs false
namespace Go.Proofs.YtdcdidecehbplaaDoor
open Go Go.Lift Go.Sh
set_option maxRecDepth 100000
set_option maxHeartbeats 4000000
attribute [local irreducible] Calls AtL AtC AtE AtD Eff Quiet1 Stg qAt QAll eAt EAll nextK Code.wp


theorem lift_nat_halve (x0 : Sl) (w : World) (m : Heap) (hr : Rel ⟨m, []⟩ w.heap) (S : (Sl × Int) → Heap → Prop) (H : nat_halve x0 m S) :
    Calls Tryd.prog 119 #[Sl.toV x0] w (Post ⟨w, m⟩ (fun r => Value.tuple #[Sl.toV r.1, (Value.int .i64) r.2]) S) := by
  refine Calls.lift (args := [Sl.toV x0]) Tryd.func119 rfl Tryd.ntmps119 (Nat.le_of_ble_eq_true rfl) hr (nat_halve x0 m S) H (fun H => ?_)
  refine AtC.pick (ts := [0]) rfl ?_
  unfold nat_halve at H
  refine AtC.seqR ?_
  refine AtL.pures hT 2 _ _ _ _ rfl ?_
  refine AtL.nil ?_
  refine AtE.then_n (AtE.go ?_)
  refine AtC.seqR ?_
  refine AtL.pures hT 1 _ _ _ _ rfl ?_
  refine AtL.nil ?_
  refine AtE.then_n (AtE.go ?_)
  refine AtC.seq ?_
  refine AtC.block ?_
  refine AtC.loopM (fun (s0 : Int) => [(4, Value.int .i64 s0)]) (fun (s0 : Int) => []) [0] [4, 0] [] [] H (by exact rfl) (by exact rfl) (by exact rfl) (by decide) (by exact rfl) (fun Kp1 s0 h0 H Q1 HK1 => ?_)
  refine AtC.seq ?_
  refine AtC.seqR ?_
  refine AtL.pures hT 3 _ _ _ _ rfl ?_
  obtain ⟨a_, hc1, hd1, H⟩ := H
  refine AtL.q rfl (Quiet1.idxS (s := _) hT rfl rfl rfl rfl rfl hc1 hd1) ?_
  obtain ⟨v, hc2, H⟩ := H
  refine AtL.q rfl (Quiet1.load hT rfl rfl rfl hc2) ?_
  refine AtL.pures hT 1 _ _ _ _ rfl ?_
  refine AtL.nil ?_
  refine AtE.then_n (AtE.go ?_)
  refine AtC.condB H rfl (fun H => ?_) (fun H => ?_)
  ·
   refine AtC.skip ?_
   refine AtE.then_n (AtE.go ?_)
   refine AtC.block ?_
   refine AtC.region ?_
   refine AtL.pures hT 3 _ _ _ _ rfl ?_
   replace H := H _ rfl
   refine AtL.nil ?_
   refine AtE.blk_n ?_
   exact AtE.then_n ((HK1 _ _ H).pickP (ts := [4, 0]) (is := []) rfl rfl (by decide) rfl)
  ·
   refine AtC.exit ?_
   refine AtE.then_x ?_
   refine AtE.then_x ?_
   refine AtE.blk_hit ?_
   refine AtE.then_n (AtE.go ?_)
   refine AtC.seqR ?_
   refine AtL.pures hT 4 _ _ _ _ rfl ?_
   obtain ⟨a_1_, hc3, hd3, H⟩ := H
   refine AtL.q rfl (Quiet1.idxS (s := _) hT rfl rfl rfl rfl rfl hc3 hd3) ?_
   obtain ⟨v_1, hc4, H⟩ := H
   refine AtL.q rfl (Quiet1.load hT rfl rfl rfl hc4) ?_
   refine AtL.e rfl (EffX.call (f := 132) (sh := fun h => math_bits_TrailingZeros32 _ h _) (H0 := H) rfl Tryd.call132 rfl (hl := fun w m hr hw => lift_math_bits_TrailingZeros32 _ w m hr _ hw)) ?_
   rintro _ _ ⟨v_2, h0u1, rfl, rfl, H⟩
   refine AtL.pures hT 2 _ _ _ _ rfl ?_
   replace H := H _ rfl
   refine AtL.nil ?_
   refine AtE.then_n (AtE.go ?_)
   refine AtC.seqR ?_
   refine AtL.pures hT 3 _ _ _ _ rfl ?_
   refine AtL.sl (hT := hT) H rfl rfl rfl rfl rfl rfl rfl (fun h => by cases h <;> rfl) rfl (fun v_3 H => ?_)
   refine AtL.e rfl (EffX.call (f := 118) (sh := fun h => slices_Clone_api_Nat_uint32 _ h _) (H0 := H) rfl Tryd.call118 rfl (hl := fun w m hr hw => lift_slices_Clone_api_Nat_uint32 _ w m hr _ hw)) ?_
   rintro _ _ ⟨v_4, h0u2, rfl, rfl, H⟩
   refine AtL.pures hT 1 _ _ _ _ rfl ?_
   refine AtL.nil ?_
   refine AtE.then_n (AtE.go ?_)
   refine AtC.joinSeq (β := Unit) (fun (t0 : Unit) (bb : Unit) => []) (fun (t0 : Unit) (bb : Unit) => []) [4, 5] [] H (by exact rfl) (by exact rfl) (fun t0 bb h0u3 H => ?_) (fun J7 H HK7 => ?_)
   ·
    refine AtC.seqR ?_
    refine AtL.pures hT 1 _ _ _ _ rfl ?_
    refine AtL.e rfl (EffX.call (f := 89) (sh := fun h => nat_trim _ h _) (H0 := H) rfl Tryd.call89 rfl (hl := fun w m hr hw => lift_nat_trim _ w m hr _ hw)) ?_
    rintro _ _ ⟨v_8, h0u8, rfl, rfl, H⟩
    refine AtL.pures hT 3 _ _ _ _ rfl ?_
    refine AtL.nil ?_
    refine AtE.then_n (AtE.go ?_)
    refine AtC.ret ?_
    exact AtE.retN (rs := [.tmp 2, .tmp 3]) rfl (ResAll.cons (ResAt.tmp rfl) (ResAll.cons (ResAt.tmp rfl) ResAll.nil)) rfl H
   ·
    refine AtC.seqR ?_
    refine AtL.pures hT 3 _ _ _ _ rfl ?_
    replace H := H _ rfl
    refine AtL.nil ?_
    refine AtE.then_n (AtE.go ?_)
    refine AtC.seqR ?_
    refine AtL.pures hT 2 _ _ _ _ rfl ?_
    refine AtL.nil ?_
    refine AtE.then_n (AtE.go ?_)
    refine AtC.condB H rfl (fun H => ?_) (fun H => ?_)
    ·
     refine AtC.seqR ?_
     refine AtL.pures hT 3 _ _ _ _ rfl ?_
     refine AtL.nil ?_
     refine AtE.then_n (AtE.go ?_)
     refine AtC.block ?_
     refine AtC.loopM (fun (s0u2 : Int) => [(35, Value.int .i64 s0u2)]) (fun (s0u2 : Int) => []) [4, 5, 6, 34] [35, 4, 5, 6, 34] [] [] H (by exact rfl) (by exact rfl) (by exact rfl) (by decide) (by exact rfl) (fun Kp8 s0u2 h0u4 H Q8 HK8 => ?_)
     refine AtC.seqR ?_
     refine AtL.pures hT 1 _ _ _ _ rfl ?_
     refine AtL.nil ?_
     refine AtE.then_n (AtE.go ?_)
     refine AtC.seq ?_
     refine AtC.condB H rfl (fun H => ?_) (fun H => ?_)
     ·
      refine AtC.skip ?_
      refine AtE.then_n (AtE.go ?_)
      refine AtC.joinSeq (β := Unit) (fun (t0u1 : Unit) (bb_1 : Unit) => []) (fun (t0u1 : Unit) (bb_1 : Unit) => []) [4, 5, 6, 34, 35] [] H (by exact rfl) (by exact rfl) (fun t0u1 bb_1 h0u5 H => ?_) (fun J9 H HK9 => ?_)
      ·
       refine AtC.region ?_
       refine AtL.pures hT 2 _ _ _ _ rfl ?_
       refine AtL.nil ?_
       exact AtE.then_n ((HK8 _ _ H).pickP (ts := [35, 4, 5, 6, 34]) (is := []) rfl rfl (by decide) rfl)
      ·
       refine AtC.block ?_
       refine AtC.seqR ?_
       refine AtL.pures hT 2 _ _ _ _ rfl ?_
       refine AtL.nil ?_
       refine AtE.then_n (AtE.go ?_)
       refine AtC.seqR ?_
       refine AtL.pures hT 2 _ _ _ _ rfl ?_
       obtain ⟨a_2_, hc9, hd9, H⟩ := H
       refine AtL.q rfl (Quiet1.idxS (s := _) hT rfl rfl rfl rfl rfl hc9 hd9) ?_
       obtain ⟨v_5, hc10, H⟩ := H
       refine AtL.q rfl (Quiet1.load hT rfl rfl rfl hc10) ?_
       refine AtL.pures hT 1 _ _ _ _ rfl ?_
       obtain ⟨hd11, H⟩ := H
       refine AtL.q rfl (Quiet1.shr rfl rfl rfl hd11) ?_
       obtain ⟨a_3_, hc12, hd12, H⟩ := H
       refine AtL.q rfl (Quiet1.idxS (s := _) hT rfl rfl rfl rfl rfl hc12 hd12) ?_
       refine AtL.e rfl (EffX.store hT rfl rfl rfl rfl rfl H) ?_
       rintro _ _ ⟨h0u6, rfl, H⟩
       refine AtL.nil ?_
       refine AtE.then_n (AtE.go ?_)
       refine AtC.seqR ?_
       refine AtL.pures hT 5 _ _ _ _ rfl ?_
       refine AtL.nil ?_
       refine AtE.then_n (AtE.go ?_)
       refine AtC.condB H rfl (fun H => ?_) (fun H => ?_)
       ·
        obtain ⟨a_4_, hc13, hd13, H⟩ := H
        obtain ⟨v_6, hc14, H⟩ := H
        obtain ⟨a_5_, hc15, hd15, H⟩ := H
        obtain ⟨v_7, hc16, H⟩ := H
        obtain ⟨hd17, H⟩ := H
        obtain ⟨a_6_, hc18, hd18, H⟩ := H
        apply AtC.stages [14] [[], [], [], [], [], [], [], [], [], [], [], [], [], [], []] [[], [], [0, 1], [0, 1, 2], [], [], [5], [4, 5, 6], [4, 5, 6, 7], [], [9], [4, 5, 6, 7, 8, 9, 10], [0, 1, 2, 3, 4, 5, 6, 7, 8, 9, 10, 11], [0, 1, 2, 3, 4, 5, 6, 7, 8, 9, 10, 11, 12], [0, 1, 2, 3, 4, 5, 6, 7, 8, 9, 10, 11, 12, 13]] hmix (by kernel_rfl) [(50, _), (51, _), (52, _), (53, _), (54, _), (55, _), (56, _), (57, _), (58, _), (59, _), (60, _), (61, _), (62, _), (63, _)] rfl 1 rfl
        refine Stg.go [0, 1, 2, 3, 4, 5, 6, 7, 8, 9, 10, 11, 12, 13] [14] rfl rfl (QAll.cons (QOp.p hT rfl rfl rfl rfl rfl) (QAll.cons (QOp.p hT rfl rfl rfl rfl rfl) (QAll.cons (QOp.q rfl rfl (Quiet1.idxS (s := _) hT rfl rfl rfl rfl rfl hc13 hd13) rfl rfl) (QAll.cons (QOp.q rfl rfl (Quiet1.load hT rfl rfl rfl hc14) rfl rfl) (QAll.cons (QOp.p hT rfl rfl rfl rfl rfl) (QAll.cons (QOp.p hT rfl rfl rfl rfl rfl) (QAll.cons (QOp.p hT rfl rfl rfl rfl rfl) (QAll.cons (QOp.q rfl rfl (Quiet1.idxS (s := _) hT rfl rfl rfl rfl rfl hc15 hd15) rfl rfl) (QAll.cons (QOp.q rfl rfl (Quiet1.load hT rfl rfl rfl hc16) rfl rfl) (QAll.cons (QOp.p hT rfl rfl rfl rfl rfl) (QAll.cons (QOp.p hT rfl rfl rfl rfl rfl) (QAll.cons (QOp.q rfl rfl (Quiet1.shl rfl rfl rfl hd17) rfl rfl) (QAll.cons (QOp.p hT rfl rfl rfl rfl rfl) (QAll.cons (QOp.q rfl rfl (Quiet1.idxS (s := _) hT rfl rfl rfl rfl rfl hc18 hd18) rfl rfl) QAll.nil)))))))))))))) ?_
        refine EAll.cons ?_ EAll.nil
        refine EOp.e rfl rfl rfl (EffX.store hT rfl rfl rfl rfl rfl H) ?_
        rintro _ _ ⟨h0u7, rfl, H⟩
        apply Stg.next [] rfl rfl
        refine Stg.fin [] rfl rfl QAll.nil ?_
        refine AtE.blk_n ?_
        exact AtE.then_n ((HK9 _ () _ H).pickP (ts := [4, 5, 6, 34, 35]) (is := []) rfl rfl (by decide) rfl)
       ·
        refine AtC.skip ?_
        refine AtE.blk_n ?_
        exact AtE.then_n ((HK9 _ () _ H).pickP (ts := [4, 5, 6, 34, 35]) (is := []) rfl rfl (by decide) rfl)
     ·
      refine AtC.exit ?_
      refine AtE.then_x ?_
      refine AtE.then_x ?_
      refine AtE.blk_hit ?_
      exact AtE.then_n ((HK7 _ () _ H).pickP (ts := [4, 5]) (is := []) rfl rfl (by decide) rfl)
    ·
     refine AtC.skip ?_
     exact AtE.then_n ((HK7 _ () _ H).pickP (ts := [4, 5]) (is := []) rfl rfl (by decide) rfl)

theorem lift_nat_double (x0 : Sl) (k : Int) (w : World) (m : Heap) (hr : Rel ⟨m, []⟩ w.heap) (S : Sl → Heap → Prop) (H : nat_double x0 k m S) :
    Calls Tryd.prog 120 #[Sl.toV x0, Value.int .i64 k] w (Post ⟨w, m⟩ Sl.toV S) := by
  refine Calls.lift (args := [Sl.toV x0, Value.int .i64 k]) Tryd.func120 rfl Tryd.ntmps120 (Nat.le_of_ble_eq_true rfl) hr (nat_double x0 k m S) H (fun H => ?_)
  refine AtC.pick (ts := [0, 1]) rfl ?_
  unfold nat_double at H
  refine AtC.seqR ?_
  refine AtL.pures hT 1 _ _ _ _ rfl ?_
  refine AtL.nil ?_
  refine AtE.then_n (AtE.go ?_)
  refine AtC.seqR ?_
  refine AtL.pures hT 3 _ _ _ _ rfl ?_
  replace H := H _ rfl
  refine AtL.e rfl (EffX.mkS hT rfl rfl rfl rfl rfl rfl rfl rfl (by decide) H) ?_
  rintro _ _ ⟨v, h0, rfl, rfl, H⟩
  refine AtL.pures hT 1 _ _ _ _ rfl ?_
  refine AtL.nil ?_
  refine AtE.then_n (AtE.go ?_)
  refine AtC.seqR ?_
  refine AtL.pures hT 5 _ _ _ _ rfl ?_
  obtain ⟨hd0, H⟩ := H
  refine AtL.q rfl (Quiet1.shl rfl rfl rfl hd0) ?_
  obtain ⟨a_, hc1, hd1, H⟩ := H
  refine AtL.q rfl (Quiet1.idxS (s := _) hT rfl rfl rfl rfl rfl hc1 hd1) ?_
  refine AtL.e rfl (EffX.store hT rfl rfl rfl rfl rfl H) ?_
  rintro _ _ ⟨h0u1, rfl, H⟩
  refine AtL.nil ?_
  refine AtE.then_n (AtE.go ?_)
  refine AtC.seqR ?_
  refine AtL.pures hT 2 _ _ _ _ rfl ?_
  refine AtL.e rfl (EffX.call (f := 88) (sh := fun h => nat_times _ _ h _) (H0 := H) rfl Tryd.call88 rfl (hl := fun w m hr hw => lift_nat_times _ _ w m hr _ hw)) ?_
  rintro _ _ ⟨v_1, h0u2, rfl, rfl, H⟩
  refine AtL.e rfl (EffX.call (f := 89) (sh := fun h => nat_trim _ h _) (H0 := H) rfl Tryd.call89 rfl (hl := fun w m hr hw => lift_nat_trim _ w m hr _ hw)) ?_
  rintro _ _ ⟨v_2, h0u3, rfl, rfl, H⟩
  refine AtL.pures hT 1 _ _ _ _ rfl ?_
  refine AtL.nil ?_
  refine AtE.then_n (AtE.go ?_)
  refine AtC.ret ?_
  exact AtE.retN (rs := [.tmp 4]) rfl (ResAll.cons (ResAt.tmp rfl) ResAll.nil) rfl H

theorem lift_nat_common (x0 : Sl) (y : Sl) (w : World) (m : Heap) (hr : Rel ⟨m, []⟩ w.heap) (S : Sl → Heap → Prop) (H : nat_common x0 y m S) :
    Calls Tryd.prog 92 #[Sl.toV x0, Sl.toV y] w (Post ⟨w, m⟩ Sl.toV S) := by
  refine Calls.lift (args := [Sl.toV x0, Sl.toV y]) Tryd.func92 rfl Tryd.ntmps92 (Nat.le_of_ble_eq_true rfl) hr (nat_common x0 y m S) H (fun H => ?_)
  refine AtC.pick (ts := [0, 1]) rfl ?_
  unfold nat_common at H
  refine AtC.seqR ?_
  refine AtL.pures hT 1 _ _ _ _ rfl ?_
  refine AtL.nil ?_
  refine AtE.then_n (AtE.go ?_)
  refine AtC.seqR ?_
  refine AtL.pures hT 1 _ _ _ _ rfl ?_
  refine AtL.e rfl (EffX.call (f := 89) (sh := fun h => nat_trim _ h _) (H0 := H) rfl Tryd.call89 rfl (hl := fun w m hr hw => lift_nat_trim _ w m hr _ hw)) ?_
  rintro _ _ ⟨v, h0, rfl, rfl, H⟩
  refine AtL.pures hT 1 _ _ _ _ rfl ?_
  refine AtL.e rfl (EffX.call (f := 89) (sh := fun h => nat_trim _ h _) (H0 := H) rfl Tryd.call89 rfl (hl := fun w m hr hw => lift_nat_trim _ w m hr _ hw)) ?_
  rintro _ _ ⟨v_1, h0u1, rfl, rfl, H⟩
  refine AtL.pures hT 2 _ _ _ _ rfl ?_
  refine AtL.nil ?_
  refine AtE.then_n (AtE.go ?_)
  refine AtC.seq ?_
  refine AtC.seqR ?_
  refine AtL.pures hT 3 _ _ _ _ rfl ?_
  refine AtL.nil ?_
  refine AtE.then_n (AtE.go ?_)
  refine AtC.condB H rfl (fun H => ?_) (fun H => ?_)
  ·
   refine AtC.seqR ?_
   refine AtL.pures hT 2 _ _ _ _ rfl ?_
   refine AtL.nil ?_
   refine AtE.then_n (AtE.go ?_)
   refine AtC.ret ?_
   refine AtE.then_r ?_
   exact AtE.retN (rs := [.tmp 4]) rfl (ResAll.cons (ResAt.tmp rfl) ResAll.nil) rfl H
  ·
   refine AtC.skip ?_
   refine AtE.then_n (AtE.go ?_)
   refine AtC.seq ?_
   refine AtC.seqR ?_
   refine AtL.pures hT 3 _ _ _ _ rfl ?_
   refine AtL.nil ?_
   refine AtE.then_n (AtE.go ?_)
   refine AtC.condB H rfl (fun H => ?_) (fun H => ?_)
   ·
    refine AtC.seqR ?_
    refine AtL.pures hT 2 _ _ _ _ rfl ?_
    refine AtL.nil ?_
    refine AtE.then_n (AtE.go ?_)
    refine AtC.ret ?_
    refine AtE.then_r ?_
    exact AtE.retN (rs := [.tmp 4]) rfl (ResAll.cons (ResAt.tmp rfl) ResAll.nil) rfl H
   ·
    refine AtC.skip ?_
    refine AtE.then_n (AtE.go ?_)
    refine AtC.joinSeq (β := Unit) (fun (t0 : Unit) (bb : Unit) => []) (fun (t0 : Unit) (bb : Unit) => []) [0, 1] [] H (by exact rfl) (by exact rfl) (fun t0 bb h0u2 H => ?_) (fun J1 H HK1 => ?_)
    ·
     refine AtC.seqR ?_
     refine AtL.pures hT 1 _ _ _ _ rfl ?_
     refine AtL.e rfl (EffX.call (f := 119) (sh := fun h => nat_halve _ h _) (H0 := H) rfl Tryd.call119 rfl (hl := fun w m hr hw => lift_nat_halve _ w m hr _ hw)) ?_
     rintro _ _ ⟨v_5, h0u7, rfl, rfl, H⟩
     refine AtL.pures hT 5 _ _ _ _ rfl ?_
     refine AtL.nil ?_
     refine AtE.then_n (AtE.go ?_)
     refine AtC.seqR ?_
     refine AtL.pures hT 1 _ _ _ _ rfl ?_
     refine AtL.e rfl (EffX.call (f := 119) (sh := fun h => nat_halve _ h _) (H0 := H) rfl Tryd.call119 rfl (hl := fun w m hr hw => lift_nat_halve _ w m hr _ hw)) ?_
     rintro _ _ ⟨v_6, h0u8, rfl, rfl, H⟩
     refine AtL.pures hT 5 _ _ _ _ rfl ?_
     refine AtL.nil ?_
     refine AtE.then_n (AtE.go ?_)
     refine AtC.seq ?_
     refine AtC.block ?_
     refine AtC.loopM (fun (s0u1 : Sl × Sl) => [(0, Sl.toV s0u1.1), (1, Sl.toV s0u1.2)]) (fun (s0u1 : Sl × Sl) => []) [9, 10] [0, 1, 9, 10] [] [] H (by exact rfl) (by exact rfl) (by exact rfl) (by decide) (by exact rfl) (fun Kp4 s0u1 h0u9 H Q4 HK4 => ?_)
     refine AtC.seq ?_
     refine AtC.seqR ?_
     refine AtL.pures hT 2 _ _ _ _ rfl ?_
     refine AtL.e rfl (EffX.call (f := 23) (sh := fun h => nat_Cmp _ _ h _) (H0 := H) rfl Tryd.call23 rfl (hl := fun w m hr hw => lift_nat_Cmp _ _ w m hr _ hw)) ?_
     rintro _ _ ⟨v_7, h0u10, rfl, rfl, H⟩
     refine AtL.pures hT 1 _ _ _ _ rfl ?_
     refine AtL.nil ?_
     refine AtE.then_n (AtE.go ?_)
     refine AtC.condB H rfl (fun H => ?_) (fun H => ?_)
     ·
      refine AtC.skip ?_
      refine AtE.then_n (AtE.go ?_)
      refine AtC.block ?_
      refine AtC.joinSeq (β := Unit) (fun (t0u1 : Sl × Sl) (bb_1 : Unit) => [(0, Sl.toV t0u1.1), (1, Sl.toV t0u1.2)]) (fun (t0u1 : Sl × Sl) (bb_1 : Unit) => []) [9, 10] [] H (by exact rfl) (by exact rfl) (fun t0u1 bb_1 h0u11 H => ?_) (fun J5 H HK5 => ?_)
      ·
       refine AtC.region ?_
       refine AtL.pures hT 2 _ _ _ _ rfl ?_
       refine AtL.e rfl (EffX.call (f := 90) (sh := fun h => nat_minus _ _ h _) (H0 := H) rfl Tryd.call90 rfl (hl := fun w m hr hw => lift_nat_minus _ _ w m hr _ hw)) ?_
       rintro _ _ ⟨v_9, h0u13, rfl, rfl, H⟩
       refine AtL.e rfl (EffX.call (f := 119) (sh := fun h => nat_halve _ h _) (H0 := H) rfl Tryd.call119 rfl (hl := fun w m hr hw => lift_nat_halve _ w m hr _ hw)) ?_
       rintro _ _ ⟨v_10, h0u14, rfl, rfl, H⟩
       refine AtL.pures hT 4 _ _ _ _ rfl ?_
       refine AtL.nil ?_
       refine AtE.blk_n ?_
       exact AtE.then_n ((HK4 _ _ H).pickP (ts := [0, 1, 9, 10]) (is := []) rfl rfl (by decide) rfl)
      ·
       refine AtC.seqR ?_
       refine AtL.pures hT 2 _ _ _ _ rfl ?_
       refine AtL.e rfl (EffX.call (f := 23) (sh := fun h => nat_Cmp _ _ h _) (H0 := H) rfl Tryd.call23 rfl (hl := fun w m hr hw => lift_nat_Cmp _ _ w m hr _ hw)) ?_
       rintro _ _ ⟨v_8, h0u12, rfl, rfl, H⟩
       refine AtL.pures hT 1 _ _ _ _ rfl ?_
       refine AtL.nil ?_
       refine AtE.then_n (AtE.go ?_)
       refine AtC.condB H rfl (fun H => ?_) (fun H => ?_)
       ·
        refine AtC.region ?_
        refine AtL.pures hT 4 _ _ _ _ rfl ?_
        refine AtL.nil ?_
        exact AtE.then_n ((HK5 _ () _ H).pickP (ts := [0, 1, 9, 10]) (is := []) rfl rfl (by decide) rfl)
       ·
        refine AtC.skip ?_
        exact AtE.then_n ((HK5 _ () _ H).pickP (ts := [0, 1, 9, 10]) (is := []) rfl rfl (by decide) rfl)
     ·
      refine AtC.exit ?_
      refine AtE.then_x ?_
      refine AtE.then_x ?_
      refine AtE.blk_hit ?_
      refine AtE.then_n (AtE.go ?_)
      refine AtC.seqR ?_
      refine AtL.pures hT 4 _ _ _ _ rfl ?_
      refine AtL.e rfl (EffX.call (f := 120) (sh := fun h => nat_double _ _ h _) (H0 := H) rfl Tryd.call120 rfl (hl := fun w m hr hw => lift_nat_double _ _ w m hr _ hw)) ?_
      rintro _ _ ⟨v_11, h0u15, rfl, rfl, H⟩
      refine AtL.pures hT 1 _ _ _ _ rfl ?_
      refine AtL.nil ?_
      refine AtE.then_n (AtE.go ?_)
      refine AtC.ret ?_
      exact AtE.retN (rs := [.tmp 4]) rfl (ResAll.cons (ResAt.tmp rfl) ResAll.nil) rfl H
    ·
     refine AtC.seqR ?_
     refine AtL.pures hT 1 _ _ _ _ rfl ?_
     refine AtL.e rfl (EffX.call (f := 96) (sh := fun h => nat_small _ h _) (H0 := H) rfl Tryd.call96 rfl (hl := fun w m hr hw => lift_nat_small _ w m hr _ hw)) ?_
     rintro _ _ ⟨v_2, h0u3, rfl, rfl, H⟩
     refine AtL.pures hT 5 _ _ _ _ rfl ?_
     refine AtL.nil ?_
     refine AtE.then_n (AtE.go ?_)
     refine AtC.seqR ?_
     refine AtL.pures hT 1 _ _ _ _ rfl ?_
     refine AtL.nil ?_
     refine AtE.then_n (AtE.go ?_)
     refine AtC.condB H rfl (fun H => ?_) (fun H => ?_)
     ·
      refine AtC.seqR ?_
      refine AtL.pures hT 1 _ _ _ _ rfl ?_
      refine AtL.e rfl (EffX.call (f := 96) (sh := fun h => nat_small _ h _) (H0 := H) rfl Tryd.call96 rfl (hl := fun w m hr hw => lift_nat_small _ w m hr _ hw)) ?_
      rintro _ _ ⟨v_3, h0u4, rfl, rfl, H⟩
      refine AtL.pures hT 5 _ _ _ _ rfl ?_
      refine AtL.nil ?_
      refine AtE.then_n (AtE.go ?_)
      refine AtC.seqR ?_
      refine AtL.pures hT 1 _ _ _ _ rfl ?_
      refine AtL.nil ?_
      refine AtE.then_n (AtE.go ?_)
      refine AtC.condB H rfl (fun H => ?_) (fun H => ?_)
      ·
       refine AtC.seq ?_
       refine AtC.block ?_
       refine AtC.loopM (fun (s0 : Int × Int) => [(5, Value.int .u64 s0.1), (7, Value.int .u64 s0.2)]) (fun (s0 : Int × Int) => []) [] [5, 7] [] [] H (by exact rfl) (by exact rfl) (by exact rfl) (by decide) (by exact rfl) (fun Kp2 s0 h0u5 H Q2 HK2 => ?_)
       refine AtC.seq ?_
       refine AtC.seqR ?_
       refine AtL.pures hT 2 _ _ _ _ rfl ?_
       refine AtL.nil ?_
       refine AtE.then_n (AtE.go ?_)
       refine AtC.condB H rfl (fun H => ?_) (fun H => ?_)
       ·
        refine AtC.skip ?_
        refine AtE.then_n (AtE.go ?_)
        refine AtC.block ?_
        refine AtC.draw hmix (by kernel_rfl) ?_
        refine AtD.pures hT 3 _ _ _ _ rfl ?_
        obtain ⟨hd2, H⟩ := H
        refine AtD.q rfl (Quiet1.rem rfl rfl rfl hd2) ?_
        refine AtD.pures hT 2 _ _ _ _ rfl ?_
        replace H := H _ rfl
        refine AtD.nil ?_
        refine AtE.blk_n ?_
        exact AtE.then_n ((HK2 _ _ H).pickP (ts := [5, 7]) (is := []) rfl rfl (by decide) rfl)
       ·
        refine AtC.exit ?_
        refine AtE.then_x ?_
        refine AtE.then_x ?_
        refine AtE.blk_hit ?_
        refine AtE.then_n (AtE.go ?_)
        refine AtC.seqR ?_
        refine AtL.pures hT 1 _ _ _ _ rfl ?_
        refine AtL.e rfl (EffX.call (f := 85) (sh := fun h => nat_Of _ h _) (H0 := H) rfl Tryd.call85 rfl (hl := fun w m hr hw => lift_nat_Of _ w m hr _ hw)) ?_
        rintro _ _ ⟨v_4, h0u6, rfl, rfl, H⟩
        refine AtL.pures hT 1 _ _ _ _ rfl ?_
        refine AtL.nil ?_
        refine AtE.then_n (AtE.go ?_)
        refine AtC.ret ?_
        refine AtE.then_r ?_
        exact AtE.retN (rs := [.tmp 4]) rfl (ResAll.cons (ResAt.tmp rfl) ResAll.nil) rfl H
      ·
       refine AtC.skip ?_
       exact AtE.then_n ((HK1 _ () _ H).pickP (ts := [0, 1]) (is := []) rfl rfl (by decide) rfl)
     ·
      refine AtC.skip ?_
      exact AtE.then_n ((HK1 _ () _ H).pickP (ts := [0, 1]) (is := []) rfl rfl (by decide) rfl)

theorem lift_nat_Bench_Gcd (b : (Option Addr)) (x0 : Sl) (y : Sl) (w : World) (m : Heap) (hr : Rel ⟨m, []⟩ w.heap) (S : Sl → Heap → Prop) (H : nat_Bench_Gcd b x0 y m S) :
    Calls Tryd.prog 21 #[Value.pointer b, Sl.toV x0, Sl.toV y] w (Post ⟨w, m⟩ Sl.toV S) := by
  refine Calls.lift (args := [Value.pointer b, Sl.toV x0, Sl.toV y]) Tryd.func21 rfl Tryd.ntmps21 (Nat.le_of_ble_eq_true rfl) hr (nat_Bench_Gcd b x0 y m S) H (fun H => ?_)
  refine AtC.pick (ts := [0, 1, 2]) rfl ?_
  unfold nat_Bench_Gcd at H
  refine AtC.seqR ?_
  refine AtL.pures hT 1 _ _ _ _ rfl ?_
  refine AtL.nil ?_
  refine AtE.then_n (AtE.go ?_)
  refine AtC.seqR ?_
  refine AtL.pures hT 3 _ _ _ _ rfl ?_
  refine AtL.e rfl (EffX.call (f := 92) (sh := fun h => nat_common _ _ h _) (H0 := H) rfl Tryd.call92 rfl (hl := fun w m hr hw => lift_nat_common _ _ w m hr _ hw)) ?_
  rintro _ _ ⟨v, h0, rfl, rfl, H⟩
  refine AtL.e rfl (EffX.call (f := 86) (sh := fun h => nat_Bench_fit _ _ h _) (H0 := H) rfl Tryd.call86 rfl (hl := fun w m hr hw => lift_nat_Bench_fit _ _ w m hr _ hw)) ?_
  rintro _ _ ⟨v_1, h0u1, rfl, rfl, H⟩
  refine AtL.pures hT 1 _ _ _ _ rfl ?_
  refine AtL.nil ?_
  refine AtE.then_n (AtE.go ?_)
  refine AtC.ret ?_
  exact AtE.retN (rs := [.tmp 6]) rfl (ResAll.cons (ResAt.tmp rfl) ResAll.nil) rfl H

theorem lift_nat_Bench_Div (b : (Option Addr)) (x0 : Sl) (y : Sl) (w : World) (m : Heap) (hr : Rel ⟨m, []⟩ w.heap) (S : (Sl × Sl) → Heap → Prop) (H : nat_Bench_Div b x0 y m S) :
    Calls Tryd.prog 22 #[Value.pointer b, Sl.toV x0, Sl.toV y] w (Post ⟨w, m⟩ (fun r => Value.tuple #[Sl.toV r.1, Sl.toV r.2]) S) := by
  refine Calls.lift (args := [Value.pointer b, Sl.toV x0, Sl.toV y]) Tryd.func22 rfl Tryd.ntmps22 (Nat.le_of_ble_eq_true rfl) hr (nat_Bench_Div b x0 y m S) H (fun H => ?_)
  refine AtC.pick (ts := [0, 1, 2]) rfl ?_
  unfold nat_Bench_Div at H
  refine AtC.seqR ?_
  refine AtL.pures hT 2 _ _ _ _ rfl ?_
  refine AtL.nil ?_
  refine AtE.then_n (AtE.go ?_)
  refine AtC.seq ?_
  refine AtC.seqR ?_
  refine AtL.pures hT 1 _ _ _ _ rfl ?_
  refine AtL.e rfl (EffX.call (f := 89) (sh := fun h => nat_trim _ h _) (H0 := H) rfl Tryd.call89 rfl (hl := fun w m hr hw => lift_nat_trim _ w m hr _ hw)) ?_
  rintro _ _ ⟨v, h0, rfl, rfl, H⟩
  refine AtL.pures hT 2 _ _ _ _ rfl ?_
  refine AtL.nil ?_
  refine AtE.then_n (AtE.go ?_)
  refine AtC.condB H rfl (fun H => ?_) (fun H => ?_)
  ·
   refine AtC.seqR ?_
   refine AtL.pures hT 2 _ _ _ _ rfl ?_
   refine AtL.nil ?_
   refine AtE.then_n (AtE.go ?_)
   refine AtC.ret ?_
   refine AtE.then_r ?_
   exact AtE.retN (rs := [.tmp 6, .tmp 7]) rfl (ResAll.cons (ResAt.tmp rfl) (ResAll.cons (ResAt.tmp rfl) ResAll.nil)) rfl H
  ·
   refine AtC.skip ?_
   refine AtE.then_n (AtE.go ?_)
   refine AtC.seqR ?_
   refine AtL.pures hT 2 _ _ _ _ rfl ?_
   refine AtL.e rfl (EffX.call (f := 93) (sh := fun h => nat_divide _ _ h _) (H0 := H) rfl Tryd.call93 rfl (hl := fun w m hr hw => lift_nat_divide _ _ w m hr _ hw)) ?_
   rintro _ _ ⟨v_1, h0u1, rfl, rfl, H⟩
   refine AtL.pures hT 5 _ _ _ _ rfl ?_
   refine AtL.nil ?_
   refine AtE.then_n (AtE.go ?_)
   refine AtC.seqR ?_
   refine AtL.pures hT 2 _ _ _ _ rfl ?_
   refine AtL.e rfl (EffX.call (f := 86) (sh := fun h => nat_Bench_fit _ _ h _) (H0 := H) rfl Tryd.call86 rfl (hl := fun w m hr hw => lift_nat_Bench_fit _ _ w m hr _ hw)) ?_
   rintro _ _ ⟨v_2, h0u2, rfl, rfl, H⟩
   refine AtL.pures hT 2 _ _ _ _ rfl ?_
   refine AtL.e rfl (EffX.call (f := 86) (sh := fun h => nat_Bench_fit _ _ h _) (H0 := H) rfl Tryd.call86 rfl (hl := fun w m hr hw => lift_nat_Bench_fit _ _ w m hr _ hw)) ?_
   rintro _ _ ⟨v_3, h0u3, rfl, rfl, H⟩
   refine AtL.pures hT 2 _ _ _ _ rfl ?_
   refine AtL.nil ?_
   refine AtE.then_n (AtE.go ?_)
   refine AtC.seq ?_
   refine AtC.seqR ?_
   refine AtL.pures hT 1 _ _ _ _ rfl ?_
   obtain ⟨a, hc0, H⟩ := H
   refine AtL.q rfl (Quiet1.nilChk rfl rfl hc0) ?_
   refine AtL.pures hT 1 _ _ _ _ rfl ?_
   obtain ⟨v_4, hc1, H⟩ := H
   refine AtL.q rfl (Quiet1.load hT rfl rfl rfl hc1) ?_
   refine AtL.nil ?_
   refine AtE.then_n (AtE.go ?_)
   refine AtC.condB H rfl (fun H => ?_) (fun H => ?_)
   ·
    refine AtC.seqR ?_
    refine AtL.pures hT 2 _ _ _ _ rfl ?_
    refine AtL.nil ?_
    refine AtE.then_n (AtE.go ?_)
    refine AtC.ret ?_
    refine AtE.then_r ?_
    exact AtE.retN (rs := [.tmp 6, .tmp 7]) rfl (ResAll.cons (ResAt.tmp rfl) (ResAll.cons (ResAt.tmp rfl) ResAll.nil)) rfl H
   ·
    refine AtC.skip ?_
    refine AtE.then_n (AtE.go ?_)
    refine AtC.seqR ?_
    refine AtL.pures hT 4 _ _ _ _ rfl ?_
    refine AtL.nil ?_
    refine AtE.then_n (AtE.go ?_)
    refine AtC.ret ?_
    exact AtE.retN (rs := [.tmp 6, .tmp 7]) rfl (ResAll.cons (ResAt.tmp rfl) (ResAll.cons (ResAt.tmp rfl) ResAll.nil)) rfl H

theorem lift_slices_Equal_api_Nat_uint32 (s1 : Sl) (s2 : Sl) (w : World) (m : Heap) (hr : Rel ⟨m, []⟩ w.heap) (S : Bool → Heap → Prop) (H : slices_Equal_api_Nat_uint32 s1 s2 m S) :
    Calls Tryd.prog 131 #[Sl.toV s1, Sl.toV s2] w (Post ⟨w, m⟩ Value.bool S) := by
  refine Calls.lift (args := [Sl.toV s1, Sl.toV s2]) Tryd.func131 rfl Tryd.ntmps131 (Nat.le_of_ble_eq_true rfl) hr (slices_Equal_api_Nat_uint32 s1 s2 m S) H (fun H => ?_)
  refine AtC.pick (ts := [0, 1]) rfl ?_
  unfold slices_Equal_api_Nat_uint32 at H
  refine AtC.seqR ?_
  refine AtL.pures hT 1 _ _ _ _ rfl ?_
  refine AtL.nil ?_
  refine AtE.then_n (AtE.go ?_)
  refine AtC.seq ?_
  refine AtC.seqR ?_
  refine AtL.pures hT 5 _ _ _ _ rfl ?_
  refine AtL.nil ?_
  refine AtE.then_n (AtE.go ?_)
  refine AtC.condB H rfl (fun H => ?_) (fun H => ?_)
  ·
   refine AtC.seqR ?_
   refine AtL.pures hT 1 _ _ _ _ rfl ?_
   refine AtL.nil ?_
   refine AtE.then_n (AtE.go ?_)
   refine AtC.ret ?_
   refine AtE.then_r ?_
   exact AtE.retN (rs := [.tmp 4]) rfl (ResAll.cons (ResAt.tmp rfl) ResAll.nil) rfl H
  ·
   refine AtC.skip ?_
   refine AtE.then_n (AtE.go ?_)
   refine AtC.seq ?_
   refine AtC.seqR ?_
   refine AtL.pures hT 3 _ _ _ _ rfl ?_
   refine AtL.nil ?_
   refine AtE.then_n (AtE.go ?_)
   refine AtC.block ?_
   refine AtC.loopM (fun (s0 : Int) => [(13, Value.int .i64 s0)]) (fun (s0 : Int) => []) [0, 1, 12] [13, 0, 1, 12] [] [] H (by exact rfl) (by exact rfl) (by exact rfl) (by decide) (by exact rfl) (fun Kp1 s0 h0 H Q1 HK1 => ?_)
   refine AtC.seqR ?_
   refine AtL.pures hT 1 _ _ _ _ rfl ?_
   refine AtL.nil ?_
   refine AtE.then_n (AtE.go ?_)
   refine AtC.seq ?_
   refine AtC.condB H rfl (fun H => ?_) (fun H => ?_)
   ·
    refine AtC.skip ?_
    refine AtE.then_n (AtE.go ?_)
    refine AtC.seq ?_
    refine AtC.block ?_
    refine AtC.seqR ?_
    refine AtL.pures hT 2 _ _ _ _ rfl ?_
    refine AtL.nil ?_
    refine AtE.then_n (AtE.go ?_)
    refine AtC.seqD hmix (by kernel_rfl) ?_
    refine AtD.pures hT 2 _ _ _ _ rfl ?_
    obtain ⟨a_, hc1, hd1, H⟩ := H
    refine AtD.q rfl (Quiet1.idxS (s := _) hT rfl rfl rfl rfl rfl hc1 hd1) ?_
    obtain ⟨v, hc2, H⟩ := H
    refine AtD.q rfl (Quiet1.load hT rfl rfl rfl hc2) ?_
    refine AtD.pures hT 2 _ _ _ _ rfl ?_
    obtain ⟨a_1_, hc3, hd3, H⟩ := H
    refine AtD.q rfl (Quiet1.idxS (s := _) hT rfl rfl rfl rfl rfl hc3 hd3) ?_
    obtain ⟨v_1, hc4, H⟩ := H
    refine AtD.q rfl (Quiet1.load hT rfl rfl rfl hc4) ?_
    refine AtD.pures hT 1 _ _ _ _ rfl ?_
    refine AtD.nil ?_
    refine AtE.then_n (AtE.go ?_)
    refine AtC.condB H rfl (fun H => ?_) (fun H => ?_)
    ·
     refine AtC.seqR ?_
     refine AtL.pures hT 1 _ _ _ _ rfl ?_
     refine AtL.nil ?_
     refine AtE.then_n (AtE.go ?_)
     refine AtC.ret ?_
     refine AtE.blk_r ?_
     refine AtE.then_r ?_
     refine AtE.then_r ?_
     refine AtE.blk_r ?_
     refine AtE.then_r ?_
     exact AtE.retN (rs := [.tmp 4]) rfl (ResAll.cons (ResAt.tmp rfl) ResAll.nil) rfl H
    ·
     refine AtC.skip ?_
     refine AtE.blk_n ?_
     refine AtE.then_n (AtE.go ?_)
     refine AtC.region ?_
     refine AtL.pures hT 2 _ _ _ _ rfl ?_
     refine AtL.nil ?_
     exact AtE.then_n ((HK1 _ _ H).pickP (ts := [13, 0, 1, 12]) (is := []) rfl rfl (by decide) rfl)
   ·
    refine AtC.exit ?_
    refine AtE.then_x ?_
    refine AtE.then_x ?_
    refine AtE.blk_hit ?_
    refine AtE.then_n (AtE.go ?_)
    refine AtC.seqR ?_
    refine AtL.pures hT 1 _ _ _ _ rfl ?_
    refine AtL.nil ?_
    refine AtE.then_n (AtE.go ?_)
    refine AtC.ret ?_
    exact AtE.retN (rs := [.tmp 4]) rfl (ResAll.cons (ResAt.tmp rfl) ResAll.nil) rfl H

theorem lift_ratio_isOne (x0 : Sl) (w : World) (m : Heap) (hr : Rel ⟨m, []⟩ w.heap) (S : Bool → Heap → Prop) (H : ratio_isOne x0 m S) :
    Calls Tryd.prog 117 #[Sl.toV x0] w (Post ⟨w, m⟩ Value.bool S) := by
  refine Calls.lift (args := [Sl.toV x0]) Tryd.func117 rfl Tryd.ntmps117 (Nat.le_of_ble_eq_true rfl) hr (ratio_isOne x0 m S) H (fun H => ?_)
  refine AtC.pick (ts := [0]) rfl ?_
  unfold ratio_isOne at H
  refine AtC.seqR ?_
  refine AtL.pures hT 1 _ _ _ _ rfl ?_
  refine AtL.nil ?_
  refine AtE.then_n (AtE.go ?_)
  refine AtC.seqR ?_
  refine AtL.pures hT 1 _ _ _ _ rfl ?_
  refine AtL.e rfl (EffX.call (f := 123) (sh := fun h => ratio_one h _) (H0 := H) rfl Tryd.call123 rfl (hl := fun w m hr hw => lift_ratio_one  w m hr _ hw)) ?_
  rintro _ _ ⟨v, h0, rfl, rfl, H⟩
  refine AtL.e rfl (EffX.call (f := 131) (sh := fun h => slices_Equal_api_Nat_uint32 _ _ h _) (H0 := H) rfl Tryd.call131 rfl (hl := fun w m hr hw => lift_slices_Equal_api_Nat_uint32 _ _ w m hr _ hw)) ?_
  rintro _ _ ⟨v_1, h0u1, rfl, rfl, H⟩
  refine AtL.pures hT 1 _ _ _ _ rfl ?_
  refine AtL.nil ?_
  refine AtE.then_n (AtE.go ?_)
  refine AtC.ret ?_
  exact AtE.retN (rs := [.tmp 2]) rfl (ResAll.cons (ResAt.tmp rfl) ResAll.nil) rfl H

theorem lift_ratio_form (neg : Bool) (num : Sl) (d : Sl) (w : World) (m : Heap) (hr : Rel ⟨m, []⟩ w.heap) (S : (Bool × Sl × Sl) → Heap → Prop) (H : ratio_form neg num d m S) :
    Calls Tryd.prog 112 #[Value.bool neg, Sl.toV num, Sl.toV d] w (Post ⟨w, m⟩ (fun r => Value.agg (C_bool_sl_sl r).toArray) S) := by
  refine Calls.lift (args := [Value.bool neg, Sl.toV num, Sl.toV d]) Tryd.func112 rfl Tryd.ntmps112 (Nat.le_of_ble_eq_true rfl) hr (ratio_form neg num d m S) H (fun H => ?_)
  refine AtC.pick (ts := [0, 1, 2]) rfl ?_
  unfold ratio_form at H
  refine AtC.seqR ?_
  refine AtL.e rfl (EffX.allocP (cs := [_, _, _]) hT rfl rfl H) ?_
  rintro _ _ ⟨b, _, rfl, rfl, _, H⟩
  refine AtL.nil ?_
  replace H := H.self
  refine AtE.then_n (AtE.go ?_)
  refine AtC.seqR ?_
  refine AtL.e rfl (EffX.call (f := 110) (sh := fun h => ratio_free h _) (H0 := H) rfl Tryd.call110 rfl (hl := fun w m hr hw => lift_ratio_free  w m hr _ hw)) ?_
  rintro _ _ ⟨v, h0u1, rfl, rfl, H⟩
  refine AtL.pures hT 1 _ _ _ _ rfl ?_
  refine AtL.nil ?_
  refine AtE.then_n (AtE.go ?_)
  refine AtC.seqR ?_
  refine AtL.pures hT 3 _ _ _ _ rfl ?_
  refine AtL.e rfl (EffX.call (f := 21) (sh := fun h => nat_Bench_Gcd _ _ _ h _) (H0 := H) rfl Tryd.call21 rfl (hl := fun w m hr hw => lift_nat_Bench_Gcd _ _ _ w m hr _ hw)) ?_
  rintro _ _ ⟨v_1, h0u2, rfl, rfl, H⟩
  refine AtL.pures hT 1 _ _ _ _ rfl ?_
  refine AtL.nil ?_
  refine AtE.then_n (AtE.go ?_)
  refine AtC.seqR ?_
  refine AtL.pures hT 3 _ _ _ _ rfl ?_
  refine AtL.e rfl (EffX.call (f := 22) (sh := fun h => nat_Bench_Div _ _ _ h _) (H0 := H) rfl Tryd.call22 rfl (hl := fun w m hr hw => lift_nat_Bench_Div _ _ _ w m hr _ hw)) ?_
  rintro _ _ ⟨v_2, h0u3, rfl, rfl, H⟩
  refine AtL.pures hT 4 _ _ _ _ rfl ?_
  refine AtL.nil ?_
  refine AtE.then_n (AtE.go ?_)
  refine AtC.seqR ?_
  refine AtL.pures hT 3 _ _ _ _ rfl ?_
  refine AtL.e rfl (EffX.call (f := 22) (sh := fun h => nat_Bench_Div _ _ _ h _) (H0 := H) rfl Tryd.call22 rfl (hl := fun w m hr hw => lift_nat_Bench_Div _ _ _ w m hr _ hw)) ?_
  rintro _ _ ⟨v_3, h0u4, rfl, rfl, H⟩
  refine AtL.pures hT 4 _ _ _ _ rfl ?_
  refine AtL.nil ?_
  refine AtE.then_n (AtE.go ?_)
  refine AtC.joinSeq (β := Unit) (fun (t0 : Sl) (bb : Unit) => [(2, Sl.toV t0)]) (fun (t0 : Sl) (bb : Unit) => []) [0, 1, 6] [0] H (by exact rfl) (by exact rfl) (fun t0 bb h0u5 H => ?_) (fun J1 H HK1 => ?_)
  ·
   refine AtC.seq ?_
   refine AtC.seqR ?_
   refine AtL.pures hT 3 _ _ _ _ rfl ?_
   refine AtL.nil ?_
   refine AtE.then_n (AtE.go ?_)
   refine AtC.condB H rfl (fun H => ?_) (fun H => ?_)
   ·
    refine AtC.seqR ?_
    refine AtL.q rfl (Quiet1.build (cs := [_, _, _]) hT rfl rfl rfl rfl rfl rfl) ?_
    refine AtL.e rfl (EffX.storeSP (i := 0) (qv := [(_, [_, _, _])]) hT rfl rfl rfl rfl rfl rfl rfl rfl rfl rfl) ?_
    rintro _ _ rfl
    refine AtL.nil ?_
    refine AtE.then_n (AtE.go ?_)
    refine AtC.ret ?_
    refine AtE.then_r ?_
    exact AtE.retN (rs := [.cell 6 54]) rfl (ResAll.cons (ResAt.cellSP (i := 0) (l := [_, _, _]) hT rfl rfl rfl rfl rfl rfl rfl) ResAll.nil) rfl H
   ·
    refine AtC.skip ?_
    refine AtE.then_n (AtE.go ?_)
    refine AtC.seqR ?_
    refine AtL.pures hT 2 _ _ _ _ rfl ?_
    refine AtL.q rfl (Quiet1.build (cs := [_, _]) hT rfl rfl rfl rfl rfl rfl) ?_
    refine AtL.pures hT 1 _ _ _ _ rfl ?_
    refine AtL.q rfl (Quiet1.build (cs := [_, _, _]) hT rfl rfl rfl rfl rfl rfl) ?_
    refine AtL.e rfl (EffX.storeSP (i := 0) (qv := [(_, [_, _, _])]) hT rfl rfl rfl rfl rfl rfl rfl rfl rfl rfl) ?_
    rintro _ _ rfl
    refine AtL.nil ?_
    refine AtE.then_n (AtE.go ?_)
    refine AtC.ret ?_
    exact AtE.retN (rs := [.cell 6 54]) rfl (ResAll.cons (ResAt.cellSP (i := 0) (l := [_, _, _]) hT rfl rfl rfl rfl rfl rfl rfl) ResAll.nil) rfl H
  ·
   refine AtC.seqR ?_
   refine AtL.pures hT 1 _ _ _ _ rfl ?_
   refine AtL.e rfl (EffX.call (f := 117) (sh := fun h => ratio_isOne _ h _) (H0 := H) rfl Tryd.call117 rfl (hl := fun w m hr hw => lift_ratio_isOne _ w m hr _ hw)) ?_
   rintro _ _ ⟨v_4, h0u6, rfl, rfl, H⟩
   refine AtL.nil ?_
   refine AtE.then_n (AtE.go ?_)
   refine AtC.condB H rfl (fun H => ?_) (fun H => ?_)
   ·
    refine AtC.region ?_
    refine AtL.pures hT 1 _ _ _ _ rfl ?_
    refine AtL.nil ?_
    exact AtE.then_n ((HK1 _ () _ H).pickP (ts := [2, 0, 1, 6]) (is := [0]) rfl rfl (by decide) rfl)
   ·
    refine AtC.skip ?_
    exact AtE.then_n ((HK1 _ () _ H).pickP (ts := [2, 0, 1, 6]) (is := [0]) rfl rfl (by decide) rfl)

theorem lift_nat_Bench_Over (b : (Option Addr)) (w : World) (m : Heap) (hr : Rel ⟨m, []⟩ w.heap) (S : Bool → Heap → Prop) (H : nat_Bench_Over b m S) :
    Calls Tryd.prog 24 #[Value.pointer b] w (Post ⟨w, m⟩ Value.bool S) := by
  refine Calls.lift (args := [Value.pointer b]) Tryd.func24 rfl Tryd.ntmps24 (Nat.le_of_ble_eq_true rfl) hr (nat_Bench_Over b m S) H (fun H => ?_)
  refine AtC.pick (ts := [0]) rfl ?_
  unfold nat_Bench_Over at H
  refine AtC.seqR ?_
  refine AtL.pures hT 1 _ _ _ _ rfl ?_
  refine AtL.nil ?_
  refine AtE.then_n (AtE.go ?_)
  refine AtC.seqR ?_
  refine AtL.pures hT 1 _ _ _ _ rfl ?_
  obtain ⟨a, hc0, H⟩ := H
  refine AtL.q rfl (Quiet1.nilChk rfl rfl hc0) ?_
  refine AtL.pures hT 1 _ _ _ _ rfl ?_
  obtain ⟨v, hc1, H⟩ := H
  refine AtL.q rfl (Quiet1.load hT rfl rfl rfl hc1) ?_
  refine AtL.pures hT 1 _ _ _ _ rfl ?_
  refine AtL.nil ?_
  refine AtE.then_n (AtE.go ?_)
  refine AtC.ret ?_
  exact AtE.retN (rs := [.tmp 2]) rfl (ResAll.cons (ResAt.tmp rfl) ResAll.nil) rfl H

theorem lift_ratio_fit (b : (Option Addr)) (x0 : Bool × Sl × Sl) (w : World) (m : Heap) (hr : Rel ⟨m, []⟩ w.heap) (S : (Bool × Sl × Sl) → Heap → Prop) (H : ratio_fit b x0 m S) :
    Calls Tryd.prog 111 #[Value.pointer b, Value.agg (C_bool_sl_sl x0).toArray] w (Post ⟨w, m⟩ (fun r => Value.agg (C_bool_sl_sl r).toArray) S) := by
  refine Calls.lift (args := [Value.pointer b, Value.agg (C_bool_sl_sl x0).toArray]) Tryd.func111 rfl Tryd.ntmps111 (Nat.le_of_ble_eq_true rfl) hr (ratio_fit b x0 m S) H (fun H => ?_)
  refine AtC.pick (ts := [0, 1]) rfl ?_
  unfold ratio_fit at H
  refine AtC.seqR ?_
  refine AtL.e rfl (EffX.boxP (cs := [_, _, _]) rfl rfl rfl H) ?_
  rintro _ _ ⟨b_1, _, rfl, rfl, _, H⟩
  refine AtL.e rfl (EffX.allocP (cs := [_, _, _]) hT rfl rfl H) ?_
  rintro _ _ ⟨b_2, _, rfl, rfl, _, H⟩
  refine AtL.nil ?_
  replace H := H.self
  refine AtE.then_n (AtE.go ?_)
  refine AtC.seqR ?_
  refine AtL.pures hT 3 _ _ _ _ rfl ?_
  refine AtL.q rfl (Quiet1.loadP (i := 1) hT rfl rfl rfl rfl rfl rfl) ?_
  refine AtL.e rfl (EffX.call (f := 17) (sh := fun h => nat_Bench_Add _ _ _ h _) (H0 := H) rfl Tryd.call17 rfl (hl := fun w m hr hw => lift_nat_Bench_Add _ _ _ w m hr _ hw)) ?_
  rintro _ _ ⟨v, h0u1, rfl, rfl, H⟩
  refine AtL.nil ?_
  refine AtE.then_n (AtE.go ?_)
  refine AtC.seqR ?_
  refine AtL.pures hT 2 _ _ _ _ rfl ?_
  refine AtL.q rfl (Quiet1.loadP (i := 1) hT rfl rfl rfl rfl rfl rfl) ?_
  refine AtL.e rfl (EffX.call (f := 17) (sh := fun h => nat_Bench_Add _ _ _ h _) (H0 := H) rfl Tryd.call17 rfl (hl := fun w m hr hw => lift_nat_Bench_Add _ _ _ w m hr _ hw)) ?_
  rintro _ _ ⟨v_1, h0u2, rfl, rfl, H⟩
  refine AtL.nil ?_
  refine AtE.then_n (AtE.go ?_)
  refine AtC.seq ?_
  refine AtC.seqR ?_
  refine AtL.pures hT 1 _ _ _ _ rfl ?_
  refine AtL.e rfl (EffX.call (f := 24) (sh := fun h => nat_Bench_Over _ h _) (H0 := H) rfl Tryd.call24 rfl (hl := fun w m hr hw => lift_nat_Bench_Over _ w m hr _ hw)) ?_
  rintro _ _ ⟨v_2, h0u3, rfl, rfl, H⟩
  refine AtL.nil ?_
  refine AtE.then_n (AtE.go ?_)
  refine AtC.condB H rfl (fun H => ?_) (fun H => ?_)
  ·
   refine AtC.seqR ?_
   refine AtL.q rfl (Quiet1.build (cs := [_, _, _]) hT rfl rfl rfl rfl rfl rfl) ?_
   refine AtL.e rfl (EffX.storeSP (i := 0) (qv := [(_, [_, _, _]), (_, [_, _, _])]) hT rfl rfl rfl rfl rfl rfl rfl rfl rfl rfl) ?_
   rintro _ _ rfl
   refine AtL.nil ?_
   refine AtE.then_n (AtE.go ?_)
   refine AtC.ret ?_
   refine AtE.then_r ?_
   exact AtE.retN (rs := [.cell 4 54]) rfl (ResAll.cons (ResAt.cellSP (i := 0) (l := [_, _, _]) hT rfl rfl rfl rfl rfl rfl rfl) ResAll.nil) rfl H
  ·
   refine AtC.skip ?_
   refine AtE.then_n (AtE.go ?_)
   refine AtC.seqR ?_
   refine AtL.q rfl (Quiet1.loadSP (i := 1) (l := [_, _, _]) hT rfl rfl rfl rfl rfl rfl rfl rfl) ?_
   refine AtL.e rfl (EffX.storeSP (i := 0) (qv := [(_, [_, _, _]), (_, [_, _, _])]) hT rfl rfl rfl rfl rfl rfl rfl rfl rfl rfl) ?_
   rintro _ _ rfl
   refine AtL.nil ?_
   refine AtE.then_n (AtE.go ?_)
   refine AtC.ret ?_
   exact AtE.retN (rs := [.cell 4 54]) rfl (ResAll.cons (ResAt.cellSP (i := 0) (l := [_, _, _]) hT rfl rfl rfl rfl rfl rfl rfl) ResAll.nil) rfl H

theorem lift_ratio_Add (b : (Option Addr)) (x0 : Bool × Sl × Sl) (y : Bool × Sl × Sl) (w : World) (m : Heap) (hr : Rel ⟨m, []⟩ w.heap) (S : (Bool × Sl × Sl) → Heap → Prop) (H : ratio_Add b x0 y m S) :
    Calls Tryd.prog 80 #[Value.pointer b, Value.agg (C_bool_sl_sl x0).toArray, Value.agg (C_bool_sl_sl y).toArray] w (Post ⟨w, m⟩ (fun r => Value.agg (C_bool_sl_sl r).toArray) S) := by
  refine Calls.lift (args := [Value.pointer b, Value.agg (C_bool_sl_sl x0).toArray, Value.agg (C_bool_sl_sl y).toArray]) Tryd.func80 rfl Tryd.ntmps80 (Nat.le_of_ble_eq_true rfl) hr (ratio_Add b x0 y m S) H (fun H => ?_)
  refine AtC.pick (ts := [0, 1, 2]) rfl ?_
  unfold ratio_Add at H
  refine AtC.seqR ?_
  refine AtL.e rfl (EffX.boxP (cs := [_, _, _]) rfl rfl rfl H) ?_
  rintro _ _ ⟨b_1, _, rfl, rfl, _, H⟩
  refine AtL.e rfl (EffX.boxP (cs := [_, _, _]) rfl rfl rfl H) ?_
  rintro _ _ ⟨b_2, _, rfl, rfl, _, H⟩
  refine AtL.e rfl (EffX.allocP (cs := [_, _, _]) hT rfl rfl H) ?_
  rintro _ _ ⟨b_3, _, rfl, rfl, _, H⟩
  refine AtL.nil ?_
  replace H := H.self
  refine AtE.then_n (AtE.go ?_)
  refine AtC.seqR ?_
  refine AtL.q rfl (Quiet1.loadSP (i := 2) (l := [_, _, _]) hT rfl rfl rfl rfl rfl rfl rfl rfl) ?_
  refine AtL.q rfl (Quiet1.loadSP (i := 1) (l := [_, _, _]) hT rfl rfl rfl rfl rfl rfl rfl rfl) ?_
  refine AtL.e rfl (EffX.call (f := 107) (sh := fun h => ratio_cross _ _ h _) (H0 := H) rfl Tryd.call107 rfl (hl := fun w m hr hw => lift_ratio_cross _ _ w m hr _ hw)) ?_
  rintro _ _ ⟨v, h0u1, rfl, rfl, H⟩
  refine AtL.pures hT 2 _ _ _ _ rfl ?_
  refine AtL.e rfl (EffX.call (f := 108) (sh := fun h => ratio_sum _ _ h _) (H0 := H) rfl Tryd.call108 rfl (hl := fun w m hr hw => lift_ratio_sum _ _ w m hr _ hw)) ?_
  rintro _ _ ⟨v_1, h0u2, rfl, rfl, H⟩
  refine AtL.e rfl (EffX.allocP (cs := [_, _]) hT rfl rfl H) ?_
  rintro _ _ ⟨b_4, _, rfl, rfl, _, H⟩
  replace H := H.self
  refine AtL.e rfl (EffX.storeSP (i := 0) (qv := [(_, [_, _]), (_, [_, _, _]), (_, [_, _, _]), (_, [_, _, _])]) hT rfl rfl rfl rfl rfl rfl rfl rfl rfl rfl) ?_
  rintro _ _ rfl
  refine AtL.nil ?_
  refine AtE.then_n (AtE.go ?_)
  apply AtC.seqS [5, 7, 9, 10, 11, 12, 13] [[], [], [], [], [], [], [], [5], [], [5, 7], [5, 7, 9], [5, 7, 9, 10], [5, 7, 9, 10, 11], [5, 7, 9, 10, 11, 12]] [[], [], [1], [], [3], [], [], [5, 6], [], [5, 6, 7, 8], [5, 6, 7, 8, 9], [1, 2, 3, 4, 5, 6, 7, 8, 9, 10], [0, 1, 2, 3, 4, 5, 6, 7, 8, 9, 10, 11], [0, 1, 2, 3, 4, 5, 6, 7, 8, 9, 10, 11, 12]] hmix (by kernel_rfl) [(14, _), (15, _), (16, _), (17, _), (18, _), (20, _), (22, _)] rfl 7 rfl
  refine Stg.go [0, 1, 2, 3, 4, 6, 8] [5] rfl rfl (QAll.cons (QOp.p hT rfl rfl rfl rfl rfl) (QAll.cons (QOp.p hT rfl rfl rfl rfl rfl) (QAll.cons (QOp.q rfl rfl (Quiet1.loadP (i := 0) hT rfl rfl rfl rfl rfl rfl) rfl rfl) (QAll.cons (QOp.p hT rfl rfl rfl rfl rfl) (QAll.cons (QOp.q rfl rfl (Quiet1.loadP (i := 0) hT rfl rfl rfl rfl rfl rfl) rfl rfl) (QAll.cons (QOp.q rfl rfl (Quiet1.loadSP (i := 3) (l := [_, _, _]) hT rfl rfl rfl rfl rfl rfl rfl rfl) rfl rfl) (QAll.cons (QOp.q rfl rfl (Quiet1.loadSP (i := 2) (l := [_, _, _]) hT rfl rfl rfl rfl rfl rfl rfl rfl) rfl rfl) QAll.nil))))))) ?_
  refine EAll.cons ?_ EAll.nil
  refine EOp.e rfl rfl rfl (EffX.call (f := 110) (sh := fun h => ratio_free h _) (H0 := H) rfl Tryd.call110 rfl (hl := fun w m hr hw => lift_ratio_free  w m hr _ hw)) ?_
  rintro _ _ ⟨v_2, h0u4, rfl, rfl, H⟩
  apply Stg.next [(19, _)] rfl rfl
  refine Stg.go [0, 1, 2, 3, 4, 6, 8] [7] rfl rfl (QAll.cons (QOp.p hT rfl rfl rfl rfl rfl) (QAll.cons (QOp.p hT rfl rfl rfl rfl rfl) (QAll.cons (QOp.q rfl rfl (Quiet1.loadP (i := 0) hT rfl rfl rfl rfl rfl rfl) rfl rfl) (QAll.cons (QOp.p hT rfl rfl rfl rfl rfl) (QAll.cons (QOp.q rfl rfl (Quiet1.loadP (i := 0) hT rfl rfl rfl rfl rfl rfl) rfl rfl) (QAll.cons (QOp.q rfl rfl (Quiet1.loadSP (i := 3) (l := [_, _, _]) hT rfl rfl rfl rfl rfl rfl rfl rfl) rfl rfl) (QAll.cons (QOp.q rfl rfl (Quiet1.loadSP (i := 2) (l := [_, _, _]) hT rfl rfl rfl rfl rfl rfl rfl rfl) rfl rfl) QAll.nil))))))) ?_
  refine EAll.cons ?_ EAll.nil
  refine EOp.e rfl rfl rfl (EffX.call (f := 113) (sh := fun h => ratio_den _ h _) (H0 := H) rfl Tryd.call113 rfl (hl := fun w m hr hw => lift_ratio_den _ w m hr _ hw)) ?_
  rintro _ _ ⟨v_3, h0u5, rfl, rfl, H⟩
  apply Stg.next [(21, _)] rfl rfl
  refine Stg.go [0, 1, 2, 3, 4, 8] [9] rfl rfl (QAll.cons (QOp.p hT rfl rfl rfl rfl rfl) (QAll.cons (QOp.p hT rfl rfl rfl rfl rfl) (QAll.cons (QOp.q rfl rfl (Quiet1.loadP (i := 0) hT rfl rfl rfl rfl rfl rfl) rfl rfl) (QAll.cons (QOp.p hT rfl rfl rfl rfl rfl) (QAll.cons (QOp.q rfl rfl (Quiet1.loadP (i := 0) hT rfl rfl rfl rfl rfl rfl) rfl rfl) (QAll.cons (QOp.q rfl rfl (Quiet1.loadSP (i := 2) (l := [_, _, _]) hT rfl rfl rfl rfl rfl rfl rfl rfl) rfl rfl) QAll.nil)))))) ?_
  refine EAll.cons ?_ EAll.nil
  refine EOp.e rfl rfl rfl (EffX.call (f := 113) (sh := fun h => ratio_den _ h _) (H0 := H) rfl Tryd.call113 rfl (hl := fun w m hr hw => lift_ratio_den _ w m hr _ hw)) ?_
  rintro _ _ ⟨v_4, h0u6, rfl, rfl, H⟩
  apply Stg.next [(23, _)] rfl rfl
  refine Stg.go [0, 1, 2, 3, 4] [10] rfl rfl (QAll.cons (QOp.p hT rfl rfl rfl rfl rfl) (QAll.cons (QOp.p hT rfl rfl rfl rfl rfl) (QAll.cons (QOp.q rfl rfl (Quiet1.loadP (i := 0) hT rfl rfl rfl rfl rfl rfl) rfl rfl) (QAll.cons (QOp.p hT rfl rfl rfl rfl rfl) (QAll.cons (QOp.q rfl rfl (Quiet1.loadP (i := 0) hT rfl rfl rfl rfl rfl rfl) rfl rfl) QAll.nil))))) ?_
  refine EAll.cons ?_ EAll.nil
  refine EOp.e rfl rfl rfl (EffX.call (f := 18) (sh := fun h => nat_Bench_Mul _ _ _ h _) (H0 := H) rfl Tryd.call18 rfl (hl := fun w m hr hw => lift_nat_Bench_Mul _ _ _ w m hr _ hw)) ?_
  rintro _ _ ⟨v_5, h0u7, rfl, rfl, H⟩
  apply Stg.next [(24, _)] rfl rfl
  refine Stg.go [0, 1, 2, 3, 4] [11] rfl rfl (QAll.cons (QOp.p hT rfl rfl rfl rfl rfl) (QAll.cons (QOp.p hT rfl rfl rfl rfl rfl) (QAll.cons (QOp.q rfl rfl (Quiet1.loadP (i := 0) hT rfl rfl rfl rfl rfl rfl) rfl rfl) (QAll.cons (QOp.p hT rfl rfl rfl rfl rfl) (QAll.cons (QOp.q rfl rfl (Quiet1.loadP (i := 0) hT rfl rfl rfl rfl rfl rfl) rfl rfl) QAll.nil))))) ?_
  refine EAll.cons ?_ EAll.nil
  refine EOp.e rfl rfl rfl (EffX.call (f := 112) (sh := fun h => ratio_form _ _ _ h _) (H0 := H) rfl Tryd.call112 rfl (hl := fun w m hr hw => lift_ratio_form _ _ _ w m hr _ hw)) ?_
  rintro _ _ ⟨v_6, h0u8, rfl, rfl, H⟩
  apply Stg.next [(25, _)] rfl rfl
  refine Stg.go [0] [12] rfl rfl (QAll.cons (QOp.p hT rfl rfl rfl rfl rfl) QAll.nil) ?_
  refine EAll.cons ?_ EAll.nil
  refine EOp.e rfl rfl rfl (EffX.call (f := 111) (sh := fun h => ratio_fit _ _ h _) (H0 := H) rfl Tryd.call111 rfl (hl := fun w m hr hw => lift_ratio_fit _ _ w m hr _ hw)) ?_
  rintro _ _ ⟨v_7, h0u9, rfl, rfl, H⟩
  apply Stg.next [(26, _)] rfl rfl
  refine Stg.go [] [13] rfl rfl QAll.nil ?_
  refine EAll.cons ?_ EAll.nil
  refine EOp.e rfl rfl rfl (EffX.storeSP (i := 1) (qv := [(_, [_, _]), (_, [_, _, _]), (_, [_, _, _]), (_, [_, _, _])]) hT rfl rfl rfl rfl rfl rfl rfl rfl rfl rfl) ?_
  rintro _ _ rfl
  apply Stg.next [] rfl rfl
  refine Stg.fin [] rfl rfl QAll.nil ?_
  refine AtE.then_n (AtE.go ?_)
  refine AtC.ret ?_
  exact AtE.retN (rs := [.cell 6 54]) rfl (ResAll.cons (ResAt.cellSP (i := 1) (l := [_, _, _]) hT rfl rfl rfl rfl rfl rfl rfl) ResAll.nil) rfl H

theorem lift_ratio_Sub (b : (Option Addr)) (x0 : Bool × Sl × Sl) (y : Bool × Sl × Sl) (w : World) (m : Heap) (hr : Rel ⟨m, []⟩ w.heap) (S : (Bool × Sl × Sl) → Heap → Prop) (H : ratio_Sub b x0 y m S) :
    Calls Tryd.prog 81 #[Value.pointer b, Value.agg (C_bool_sl_sl x0).toArray, Value.agg (C_bool_sl_sl y).toArray] w (Post ⟨w, m⟩ (fun r => Value.agg (C_bool_sl_sl r).toArray) S) := by
  refine Calls.lift (args := [Value.pointer b, Value.agg (C_bool_sl_sl x0).toArray, Value.agg (C_bool_sl_sl y).toArray]) Tryd.func81 rfl Tryd.ntmps81 (Nat.le_of_ble_eq_true rfl) hr (ratio_Sub b x0 y m S) H (fun H => ?_)
  refine AtC.pick (ts := [0, 1, 2]) rfl ?_
  unfold ratio_Sub at H
  refine AtC.seqR ?_
  refine AtL.e rfl (EffX.boxP (cs := [_, _, _]) rfl rfl rfl H) ?_
  rintro _ _ ⟨b_1, _, rfl, rfl, _, H⟩
  refine AtL.e rfl (EffX.boxP (cs := [_, _, _]) rfl rfl rfl H) ?_
  rintro _ _ ⟨b_2, _, rfl, rfl, _, H⟩
  refine AtL.e rfl (EffX.allocP (cs := [_, _, _]) hT rfl rfl H) ?_
  rintro _ _ ⟨b_3, _, rfl, rfl, _, H⟩
  refine AtL.nil ?_
  replace H := H.self
  refine AtE.then_n (AtE.go ?_)
  apply AtC.seqS [3, 4, 5] [[], [], [], [], [3], [3, 4]] [[], [], [], [2], [0, 1, 2, 3], [0, 1, 2, 3, 4]] hmix (by kernel_rfl) [(7, _), (8, _), (9, _)] rfl 3 rfl
  refine Stg.go [0, 1, 2] [3] rfl rfl (QAll.cons (QOp.p hT rfl rfl rfl rfl rfl) (QAll.cons (QOp.q rfl rfl (Quiet1.loadSP (i := 2) (l := [_, _, _]) hT rfl rfl rfl rfl rfl rfl rfl rfl) rfl rfl) (QAll.cons (QOp.q rfl rfl (Quiet1.loadSP (i := 1) (l := [_, _, _]) hT rfl rfl rfl rfl rfl rfl rfl rfl) rfl rfl) QAll.nil))) ?_
  refine EAll.cons ?_ EAll.nil
  refine EOp.e rfl rfl rfl (EffX.call (f := 105) (sh := fun h => ratio_Neg _ h _) (H0 := H) rfl Tryd.call105 rfl (hl := fun w m hr hw => lift_ratio_Neg _ w m hr _ hw)) ?_
  rintro _ _ ⟨v, h0u1, rfl, rfl, H⟩
  apply Stg.next [(10, _)] rfl rfl
  refine Stg.go [0, 1] [4] rfl rfl (QAll.cons (QOp.p hT rfl rfl rfl rfl rfl) (QAll.cons (QOp.q rfl rfl (Quiet1.loadSP (i := 2) (l := [_, _, _]) hT rfl rfl rfl rfl rfl rfl rfl rfl) rfl rfl) QAll.nil)) ?_
  refine EAll.cons ?_ EAll.nil
  refine EOp.e rfl rfl rfl (EffX.call (f := 80) (sh := fun h => ratio_Add _ _ _ h _) (H0 := H) rfl Tryd.call80 rfl (hl := fun w m hr hw => lift_ratio_Add _ _ _ w m hr _ hw)) ?_
  rintro _ _ ⟨v_1, h0u2, rfl, rfl, H⟩
  apply Stg.next [(11, _)] rfl rfl
  refine Stg.go [] [5] rfl rfl QAll.nil ?_
  refine EAll.cons ?_ EAll.nil
  refine EOp.e rfl rfl rfl (EffX.storeSP (i := 0) (qv := [(_, [_, _, _]), (_, [_, _, _]), (_, [_, _, _])]) hT rfl rfl rfl rfl rfl rfl rfl rfl rfl rfl) ?_
  rintro _ _ rfl
  apply Stg.next [] rfl rfl
  refine Stg.fin [] rfl rfl QAll.nil ?_
  refine AtE.then_n (AtE.go ?_)
  refine AtC.ret ?_
  exact AtE.retN (rs := [.cell 6 54]) rfl (ResAll.cons (ResAt.cellSP (i := 0) (l := [_, _, _]) hT rfl rfl rfl rfl rfl rfl rfl) ResAll.nil) rfl H

theorem lift_ratio_Div (b : (Option Addr)) (x0 : Bool × Sl × Sl) (y : Bool × Sl × Sl) (w : World) (m : Heap) (hr : Rel ⟨m, []⟩ w.heap) (S : (Bool × Sl × Sl) → Heap → Prop) (H : ratio_Div b x0 y m S) :
    Calls Tryd.prog 63 #[Value.pointer b, Value.agg (C_bool_sl_sl x0).toArray, Value.agg (C_bool_sl_sl y).toArray] w (Post ⟨w, m⟩ (fun r => Value.agg (C_bool_sl_sl r).toArray) S) := by
  refine Calls.lift (args := [Value.pointer b, Value.agg (C_bool_sl_sl x0).toArray, Value.agg (C_bool_sl_sl y).toArray]) Tryd.func63 rfl Tryd.ntmps63 (Nat.le_of_ble_eq_true rfl) hr (ratio_Div b x0 y m S) H (fun H => ?_)
  refine AtC.pick (ts := [0, 1, 2]) rfl ?_
  unfold ratio_Div at H
  refine AtC.seqR ?_
  refine AtL.e rfl (EffX.boxP (cs := [_, _, _]) rfl rfl rfl H) ?_
  rintro _ _ ⟨b_1, _, rfl, rfl, _, H⟩
  refine AtL.e rfl (EffX.boxP (cs := [_, _, _]) rfl rfl rfl H) ?_
  rintro _ _ ⟨b_2, _, rfl, rfl, _, H⟩
  refine AtL.e rfl (EffX.allocP (cs := [_, _, _]) hT rfl rfl H) ?_
  rintro _ _ ⟨b_3, _, rfl, rfl, _, H⟩
  refine AtL.nil ?_
  replace H := H.self
  refine AtE.then_n (AtE.go ?_)
  refine AtC.seq ?_
  refine AtC.seqR ?_
  refine AtL.q rfl (Quiet1.loadSP (i := 1) (l := [_, _, _]) hT rfl rfl rfl rfl rfl rfl rfl rfl) ?_
  refine AtL.e rfl (EffX.call (f := 57) (sh := fun h => ratio_Sign _ h _) (H0 := H) rfl Tryd.call57 rfl (hl := fun w m hr hw => lift_ratio_Sign _ w m hr _ hw)) ?_
  rintro _ _ ⟨v, h0u1, rfl, rfl, H⟩
  refine AtL.pures hT 1 _ _ _ _ rfl ?_
  refine AtL.nil ?_
  refine AtE.then_n (AtE.go ?_)
  refine AtC.condB H rfl (fun H => ?_) (fun H => ?_)
  ·
   refine AtC.seqR ?_
   refine AtL.q rfl (Quiet1.build (cs := [_, _, _]) hT rfl rfl rfl rfl rfl rfl) ?_
   refine AtL.e rfl (EffX.storeSP (i := 0) (qv := [(_, [_, _, _]), (_, [_, _, _]), (_, [_, _, _])]) hT rfl rfl rfl rfl rfl rfl rfl rfl rfl rfl) ?_
   rintro _ _ rfl
   refine AtL.nil ?_
   refine AtE.then_n (AtE.go ?_)
   refine AtC.ret ?_
   refine AtE.then_r ?_
   exact AtE.retN (rs := [.cell 6 54]) rfl (ResAll.cons (ResAt.cellSP (i := 0) (l := [_, _, _]) hT rfl rfl rfl rfl rfl rfl rfl) ResAll.nil) rfl H
  ·
   refine AtC.skip ?_
   refine AtE.then_n (AtE.go ?_)
   refine AtC.seqR ?_
   refine AtL.e rfl (EffX.call (f := 110) (sh := fun h => ratio_free h _) (H0 := H) rfl Tryd.call110 rfl (hl := fun w m hr hw => lift_ratio_free  w m hr _ hw)) ?_
   rintro _ _ ⟨v_1, h0u2, rfl, rfl, H⟩
   refine AtL.q rfl (Quiet1.makeFn (bs := [_]) (cs := []) rfl rfl rfl) ?_
   refine AtL.pures hT 1 _ _ _ _ rfl ?_
   refine AtL.nil ?_
   refine AtE.then_n (AtE.go ?_)
   apply AtC.seqS [13, 14, 17, 21, 22, 23, 24] [[], [], [], [], [], [], [], [], [], [], [], [], [], [], [13], [], [], [13, 14], [], [], [], [13, 14, 17], [13, 14, 17, 21], [13, 14, 17, 21, 22], [13, 14, 17, 21, 22, 23]] [[], [], [1], [1, 2], [], [4], [4, 5], [1, 2, 3, 4, 5, 6], [], [], [9], [9, 10], [], [12], [8, 9, 10, 11, 12, 13], [], [], [8, 9, 10, 11, 12, 13, 14, 16], [], [18], [18, 19], [8, 9, 10, 11, 12, 13, 14, 15, 16, 17, 18, 19, 20], [1, 2, 3, 4, 5, 6, 7, 8, 9, 10, 11, 12, 13, 14, 15, 16, 17, 18, 19, 20, 21], [0, 1, 2, 3, 4, 5, 6, 7, 8, 9, 10, 11, 12, 13, 14, 15, 16, 17, 18, 19, 20, 21, 22], [0, 1, 2, 3, 4, 5, 6, 7, 8, 9, 10, 11, 12, 13, 14, 15, 16, 17, 18, 19, 20, 21, 22, 23]] hmix (by kernel_rfl) [(14, _), (15, _), (16, _), (17, _), (18, _), (19, _), (20, _), (21, _), (22, _), (23, _), (24, _), (25, _), (26, _), (29, _), (30, _), (32, _), (33, _), (34, _)] rfl 7 rfl
   refine Stg.go [0, 1, 2, 3, 4, 5, 6, 7, 8, 9, 10, 11, 12, 15, 16, 18, 19, 20] [13] rfl rfl (QAll.cons (QOp.p hT rfl rfl rfl rfl rfl) (QAll.cons (QOp.p hT rfl rfl rfl rfl rfl) (QAll.cons (QOp.p hT rfl rfl rfl rfl rfl) (QAll.cons (QOp.q rfl rfl (Quiet1.loadP (i := 2) hT rfl rfl rfl rfl rfl rfl) rfl rfl) (QAll.cons (QOp.p hT rfl rfl rfl rfl rfl) (QAll.cons (QOp.p hT rfl rfl rfl rfl rfl) (QAll.cons (QOp.q rfl rfl (Quiet1.loadP (i := 1) hT rfl rfl rfl rfl rfl rfl) rfl rfl) (QAll.cons (QOp.p hT rfl rfl rfl rfl rfl) (QAll.cons (QOp.p hT rfl rfl rfl rfl rfl) (QAll.cons (QOp.p hT rfl rfl rfl rfl rfl) (QAll.cons (QOp.p hT rfl rfl rfl rfl rfl) (QAll.cons (QOp.q rfl rfl (Quiet1.loadP (i := 2) hT rfl rfl rfl rfl rfl rfl) rfl rfl) (QAll.cons (QOp.q rfl rfl (Quiet1.loadSP (i := 1) (l := [_, _, _]) hT rfl rfl rfl rfl rfl rfl rfl rfl) rfl rfl) (QAll.cons (QOp.p hT rfl rfl rfl rfl rfl) (QAll.cons (QOp.q rfl rfl (Quiet1.loadSP (i := 2) (l := [_, _, _]) hT rfl rfl rfl rfl rfl rfl rfl rfl) rfl rfl) (QAll.cons (QOp.p hT rfl rfl rfl rfl rfl) (QAll.cons (QOp.p hT rfl rfl rfl rfl rfl) (QAll.cons (QOp.q rfl rfl (Quiet1.loadP (i := 1) hT rfl rfl rfl rfl rfl rfl) rfl rfl) QAll.nil)))))))))))))))))) ?_
   refine EAll.cons ?_ EAll.nil
   refine EOp.e rfl rfl rfl (EffX.call (f := 113) (sh := fun h => ratio_den _ h _) (H0 := H) rfl Tryd.call113 rfl (hl := fun w m hr hw => lift_ratio_den _ w m hr _ hw)) ?_
   rintro _ _ ⟨v_2, h0u3, rfl, rfl, H⟩
   apply Stg.next [(27, _)] rfl rfl
   refine Stg.go [0, 1, 2, 3, 4, 5, 6, 7, 8, 9, 10, 11, 15, 16, 18, 19, 20] [14] rfl rfl (QAll.cons (QOp.p hT rfl rfl rfl rfl rfl) (QAll.cons (QOp.p hT rfl rfl rfl rfl rfl) (QAll.cons (QOp.p hT rfl rfl rfl rfl rfl) (QAll.cons (QOp.q rfl rfl (Quiet1.loadP (i := 2) hT rfl rfl rfl rfl rfl rfl) rfl rfl) (QAll.cons (QOp.p hT rfl rfl rfl rfl rfl) (QAll.cons (QOp.p hT rfl rfl rfl rfl rfl) (QAll.cons (QOp.q rfl rfl (Quiet1.loadP (i := 1) hT rfl rfl rfl rfl rfl rfl) rfl rfl) (QAll.cons (QOp.p hT rfl rfl rfl rfl rfl) (QAll.cons (QOp.p hT rfl rfl rfl rfl rfl) (QAll.cons (QOp.p hT rfl rfl rfl rfl rfl) (QAll.cons (QOp.p hT rfl rfl rfl rfl rfl) (QAll.cons (QOp.q rfl rfl (Quiet1.loadP (i := 2) hT rfl rfl rfl rfl rfl rfl) rfl rfl) (QAll.cons (QOp.p hT rfl rfl rfl rfl rfl) (QAll.cons (QOp.q rfl rfl (Quiet1.loadSP (i := 2) (l := [_, _, _]) hT rfl rfl rfl rfl rfl rfl rfl rfl) rfl rfl) (QAll.cons (QOp.p hT rfl rfl rfl rfl rfl) (QAll.cons (QOp.p hT rfl rfl rfl rfl rfl) (QAll.cons (QOp.q rfl rfl (Quiet1.loadP (i := 1) hT rfl rfl rfl rfl rfl rfl) rfl rfl) QAll.nil))))))))))))))))) ?_
   refine EAll.cons ?_ EAll.nil
   refine EOp.e rfl rfl rfl (EffX.callF (bs := [_]) (cs := []) (f := 18) (sh := fun h => nat_Bench_Mul _ _ _ h _) (H0 := H) rfl rfl Tryd.call18 rfl (hl := fun w m hr hw => lift_nat_Bench_Mul _ _ _ w m hr _ hw)) ?_
   rintro _ _ ⟨v_3, h0u4, rfl, rfl, H⟩
   apply Stg.next [(28, _)] rfl rfl
   refine Stg.go [0, 1, 2, 3, 4, 5, 6, 7, 15, 16, 18, 19, 20] [17] rfl rfl (QAll.cons (QOp.p hT rfl rfl rfl rfl rfl) (QAll.cons (QOp.p hT rfl rfl rfl rfl rfl) (QAll.cons (QOp.p hT rfl rfl rfl rfl rfl) (QAll.cons (QOp.q rfl rfl (Quiet1.loadP (i := 2) hT rfl rfl rfl rfl rfl rfl) rfl rfl) (QAll.cons (QOp.p hT rfl rfl rfl rfl rfl) (QAll.cons (QOp.p hT rfl rfl rfl rfl rfl) (QAll.cons (QOp.q rfl rfl (Quiet1.loadP (i := 1) hT rfl rfl rfl rfl rfl rfl) rfl rfl) (QAll.cons (QOp.p hT rfl rfl rfl rfl rfl) (QAll.cons (QOp.p hT rfl rfl rfl rfl rfl) (QAll.cons (QOp.q rfl rfl (Quiet1.loadSP (i := 2) (l := [_, _, _]) hT rfl rfl rfl rfl rfl rfl rfl rfl) rfl rfl) (QAll.cons (QOp.p hT rfl rfl rfl rfl rfl) (QAll.cons (QOp.p hT rfl rfl rfl rfl rfl) (QAll.cons (QOp.q rfl rfl (Quiet1.loadP (i := 1) hT rfl rfl rfl rfl rfl rfl) rfl rfl) QAll.nil))))))))))))) ?_
   refine EAll.cons ?_ EAll.nil
   refine EOp.e rfl rfl rfl (EffX.call (f := 113) (sh := fun h => ratio_den _ h _) (H0 := H) rfl Tryd.call113 rfl (hl := fun w m hr hw => lift_ratio_den _ w m hr _ hw)) ?_
   rintro _ _ ⟨v_4, h0u5, rfl, rfl, H⟩
   apply Stg.next [(31, _)] rfl rfl
   refine Stg.go [0, 1, 2, 3, 4, 5, 6, 7, 15, 18, 19, 20] [21] rfl rfl (QAll.cons (QOp.p hT rfl rfl rfl rfl rfl) (QAll.cons (QOp.p hT rfl rfl rfl rfl rfl) (QAll.cons (QOp.p hT rfl rfl rfl rfl rfl) (QAll.cons (QOp.q rfl rfl (Quiet1.loadP (i := 2) hT rfl rfl rfl rfl rfl rfl) rfl rfl) (QAll.cons (QOp.p hT rfl rfl rfl rfl rfl) (QAll.cons (QOp.p hT rfl rfl rfl rfl rfl) (QAll.cons (QOp.q rfl rfl (Quiet1.loadP (i := 1) hT rfl rfl rfl rfl rfl rfl) rfl rfl) (QAll.cons (QOp.p hT rfl rfl rfl rfl rfl) (QAll.cons (QOp.p hT rfl rfl rfl rfl rfl) (QAll.cons (QOp.p hT rfl rfl rfl rfl rfl) (QAll.cons (QOp.p hT rfl rfl rfl rfl rfl) (QAll.cons (QOp.q rfl rfl (Quiet1.loadP (i := 1) hT rfl rfl rfl rfl rfl rfl) rfl rfl) QAll.nil)))))))))))) ?_
   refine EAll.cons ?_ EAll.nil
   refine EOp.e rfl rfl rfl (EffX.callF (bs := [_]) (cs := []) (f := 18) (sh := fun h => nat_Bench_Mul _ _ _ h _) (H0 := H) rfl rfl Tryd.call18 rfl (hl := fun w m hr hw => lift_nat_Bench_Mul _ _ _ w m hr _ hw)) ?_
   rintro _ _ ⟨v_5, h0u6, rfl, rfl, H⟩
   apply Stg.next [(35, _)] rfl rfl
   refine Stg.go [0, 1, 2, 3, 4, 5, 6, 7] [22] rfl rfl (QAll.cons (QOp.p hT rfl rfl rfl rfl rfl) (QAll.cons (QOp.p hT rfl rfl rfl rfl rfl) (QAll.cons (QOp.p hT rfl rfl rfl rfl rfl) (QAll.cons (QOp.q rfl rfl (Quiet1.loadP (i := 2) hT rfl rfl rfl rfl rfl rfl) rfl rfl) (QAll.cons (QOp.p hT rfl rfl rfl rfl rfl) (QAll.cons (QOp.p hT rfl rfl rfl rfl rfl) (QAll.cons (QOp.q rfl rfl (Quiet1.loadP (i := 1) hT rfl rfl rfl rfl rfl rfl) rfl rfl) (QAll.cons (QOp.p hT rfl rfl rfl rfl rfl) QAll.nil)))))))) ?_
   refine EAll.cons ?_ EAll.nil
   refine EOp.e rfl rfl rfl (EffX.call (f := 112) (sh := fun h => ratio_form _ _ _ h _) (H0 := H) rfl Tryd.call112 rfl (hl := fun w m hr hw => lift_ratio_form _ _ _ w m hr _ hw)) ?_
   rintro _ _ ⟨v_6, h0u7, rfl, rfl, H⟩
   apply Stg.next [(36, _)] rfl rfl
   refine Stg.go [0] [23] rfl rfl (QAll.cons (QOp.p hT rfl rfl rfl rfl rfl) QAll.nil) ?_
   refine EAll.cons ?_ EAll.nil
   refine EOp.e rfl rfl rfl (EffX.call (f := 111) (sh := fun h => ratio_fit _ _ h _) (H0 := H) rfl Tryd.call111 rfl (hl := fun w m hr hw => lift_ratio_fit _ _ w m hr _ hw)) ?_
   rintro _ _ ⟨v_7, h0u8, rfl, rfl, H⟩
   apply Stg.next [(37, _)] rfl rfl
   refine Stg.go [] [24] rfl rfl QAll.nil ?_
   refine EAll.cons ?_ EAll.nil
   refine EOp.e rfl rfl rfl (EffX.storeSP (i := 0) (qv := [(_, [_, _, _]), (_, [_, _, _]), (_, [_, _, _])]) hT rfl rfl rfl rfl rfl rfl rfl rfl rfl rfl) ?_
   rintro _ _ rfl
   apply Stg.next [] rfl rfl
   refine Stg.fin [] rfl rfl QAll.nil ?_
   refine AtE.then_n (AtE.go ?_)
   refine AtC.ret ?_
   exact AtE.retN (rs := [.cell 6 54]) rfl (ResAll.cons (ResAt.cellSP (i := 0) (l := [_, _, _]) hT rfl rfl rfl rfl rfl rfl rfl) ResAll.nil) rfl H

theorem lift_delta_Small (b : (Option Addr)) (pairs : Sl) (w : World) (m : Heap) (hr : Rel ⟨m, []⟩ w.heap) (S : (Bool × Sl × Sl) → Heap → Prop) (H : delta_Small b pairs m S) :
    Calls Tryd.prog 59 #[Value.pointer b, Sl.toV pairs] w (Post ⟨w, m⟩ (fun r => Value.agg (C_bool_sl_sl r).toArray) S) := by
  refine Calls.lift (args := [Value.pointer b, Sl.toV pairs]) Tryd.func59 rfl Tryd.ntmps59 (Nat.le_of_ble_eq_true rfl) hr (delta_Small b pairs m S) H (fun H => ?_)
  refine AtC.pick (ts := [0, 1]) rfl ?_
  unfold delta_Small at H
  refine AtC.seqR ?_
  refine AtL.e rfl (EffX.allocP (cs := [_, _, _]) hT rfl rfl H) ?_
  rintro _ _ ⟨b_1, _, rfl, rfl, _, H⟩
  refine AtL.nil ?_
  replace H := H.self
  refine AtE.then_n (AtE.go ?_)
  refine AtC.seqR ?_
  refine AtL.e rfl (EffX.call (f := 64) (sh := fun h => ratio_Of _ h _) (H0 := H) rfl Tryd.call64 rfl (hl := fun w m hr hw => lift_ratio_Of _ w m hr _ hw)) ?_
  rintro _ _ ⟨v, h0u1, rfl, rfl, H⟩
  refine AtL.e rfl (EffX.allocP (cs := [_, _, _]) hT rfl rfl H) ?_
  rintro _ _ ⟨b_2, _, rfl, rfl, _, H⟩
  replace H := H.self
  refine AtL.e rfl (EffX.storeSP (i := 0) (qv := [(_, [_, _, _]), (_, [_, _, _])]) hT rfl rfl rfl rfl rfl rfl rfl rfl rfl rfl) ?_
  rintro _ _ rfl
  refine AtL.nil ?_
  refine AtE.then_n (AtE.go ?_)
  refine AtC.seq ?_
  refine AtC.seqR ?_
  refine AtL.pures hT 3 _ _ _ _ rfl ?_
  refine AtL.nil ?_
  refine AtE.then_n (AtE.go ?_)
  refine AtC.block ?_
  refine AtC.loopM (fun (s0 : Int × Bool × Sl × Sl) => [(12, Value.int .i64 s0.1)]) (fun (s0 : Int × Bool × Sl × Sl) => [(b_2, [Value.bool s0.2.1, Sl.toV s0.2.2.1, Sl.toV s0.2.2.2])]) [0, 4, 5, 10, 11] [12, 0, 4, 5, 10, 11] [1] [0, 1] H (by exact rfl) (by exact rfl) (by exact rfl) (by decide) (by exact rfl) (fun Kp1 s0 h0u3 H Q1 HK1 => ?_)
  refine AtC.seqR ?_
  refine AtL.pures hT 1 _ _ _ _ rfl ?_
  refine AtL.nil ?_
  refine AtE.then_n (AtE.go ?_)
  refine AtC.seq ?_
  refine AtC.condB H rfl (fun H => ?_) (fun H => ?_)
  ·
   refine AtC.skip ?_
   refine AtE.then_n (AtE.go ?_)
   refine AtC.joinSeq (β := Unit) (fun (t0 : Bool × Sl × Sl) (bb : Unit) => []) (fun (t0 : Bool × Sl × Sl) (bb : Unit) => [(b_2, [Value.bool t0.1, Sl.toV t0.2.1, Sl.toV t0.2.2])]) [0, 4, 5, 10, 11, 12] [1] H (by exact rfl) (by exact rfl) (fun t0 bb h0u4 H => ?_) (fun J2 H HK2 => ?_)
   ·
    refine AtC.region ?_
    refine AtL.pures hT 2 _ _ _ _ rfl ?_
    refine AtL.nil ?_
    exact AtE.then_n ((HK1 _ _ H).pickP (ts := [12, 0, 4, 5, 10, 11]) (is := [0, 1]) rfl rfl (by decide) rfl)
   ·
    refine AtC.block ?_
    refine AtC.seqR ?_
    obtain ⟨a_, hc2, hd2, H⟩ := H
    refine AtL.q rfl (Quiet1.idxS (s := _) hT rfl rfl rfl rfl rfl hc2 hd2) ?_
    obtain ⟨v_1, hc3, H⟩ := H
    refine AtL.q rfl (Quiet1.loadS hT rfl rfl rfl rfl hc3) ?_
    refine AtL.e rfl (EffX.allocP (cs := [_, _, _, _, _, _, _, _, _, _, _, _]) hT rfl rfl H) ?_
    rintro _ _ ⟨b_3, _, rfl, rfl, _, H⟩
    replace H := H.self
    refine AtL.e rfl (EffX.storeSP (i := 0) (qv := [(_, [_, _, _, _, _, _, _, _, _, _, _, _]), (_, [_, _, _]), (_, [_, _, _])]) hT rfl rfl rfl rfl rfl rfl rfl rfl rfl rfl) ?_
    rintro _ _ rfl
    refine AtL.nil ?_
    refine AtE.then_n (AtE.go ?_)
    refine AtC.seq ?_
    refine AtC.joinSeq (β := Unit) (fun (t0u1 : Bool) (bb_1 : Unit) => [(33, Value.bool t0u1)]) (fun (t0u1 : Bool) (bb_1 : Unit) => []) [0, 4, 5, 7, 10, 11, 12] [0, 1, 2] H (by exact rfl) (by exact rfl) (fun t0u1 bb_1 h0u6 H => ?_) (fun J5 H HK5 => ?_)
    ·
     refine AtC.condB H rfl (fun H => ?_) (fun H => ?_)
     ·
      refine AtC.exit ?_
      refine AtE.then_x ?_
      refine AtE.blk_hit ?_
      exact AtE.then_n ((HK2 _ () _ H).pickP (ts := [0, 4, 5, 10, 11, 12]) (is := [1, 2]) rfl rfl (by decide) rfl)
     ·
      refine AtC.skip ?_
      refine AtE.then_n (AtE.go ?_)
      refine AtC.joinSeq (β := Nat) (fun (t0u2 : Bool × Sl × Sl) (bb_2 : Nat) => [(8, Value.pointer (some ⟨bb_2, 0, none⟩))]) (fun (t0u2 : Bool × Sl × Sl) (bb_2 : Nat) => [(bb_2, [Value.bool t0u2.1, Sl.toV t0u2.2.1, Sl.toV t0u2.2.2])]) [0, 4, 5, 10, 11, 12] [1, 2] H (by exact rfl) (by exact rfl) (fun t0u2 bb_2 h0u9 H => ?_) (fun J10 H HK10 => ?_)
      ·
       refine AtC.seqR ?_
       refine AtL.q rfl (Quiet1.loadSP (i := 0) (l := [_, _, _]) hT rfl rfl rfl rfl rfl rfl rfl rfl) ?_
       refine AtL.q rfl (Quiet1.loadSP (i := 1) (l := [_, _, _]) hT rfl rfl rfl rfl rfl rfl rfl rfl) ?_
       refine AtL.e rfl (EffX.call (f := 58) (sh := fun h => ratio_Cmp _ _ h _) (H0 := H) rfl Tryd.call58 rfl (hl := fun w m hr hw => lift_ratio_Cmp _ _ w m hr _ hw)) ?_
       rintro _ _ ⟨v_13, h0u29, rfl, rfl, H⟩
       refine AtL.pures hT 1 _ _ _ _ rfl ?_
       refine AtL.nil ?_
       refine AtE.then_n (AtE.go ?_)
       refine AtC.condB H rfl (fun H => ?_) (fun H => ?_)
       ·
        refine AtC.region ?_
        refine AtL.q rfl (Quiet1.loadSP (i := 0) (l := [_, _, _]) hT rfl rfl rfl rfl rfl rfl rfl rfl) ?_
        refine AtL.e rfl (EffX.storeSP (i := 1) (qv := [(_, [_, _, _]), (_, [_, _, _]), (_, [_, _, _])]) hT rfl rfl rfl rfl rfl rfl rfl rfl rfl rfl) ?_
        rintro _ _ rfl
        refine AtL.nil ?_
        refine AtE.blk_n ?_
        exact AtE.then_n ((HK2 _ () _ H).pickP (ts := [0, 4, 5, 10, 11, 12]) (is := [1, 2]) rfl rfl (by decide) rfl)
       ·
        refine AtC.skip ?_
        refine AtE.blk_n ?_
        exact AtE.then_n ((HK2 _ () _ H).pickP (ts := [0, 4, 5, 10, 11, 12]) (is := [1, 2]) rfl rfl (by decide) rfl)
      ·
       apply AtC.stages [8, 16, 17, 18, 19] [[], [], [], [], [], [], [], [], [], [], [], [], [], [], [], [], [8], [8, 16], [], [8, 16, 17, 18]] [[], [], [], [2], [2, 3], [], [5], [5, 6], [1, 2, 3, 4, 5, 6, 7], [], [], [10], [10, 11], [], [13], [13, 14], [1, 2, 3, 4, 5, 6, 7, 8, 9, 10, 11, 12, 13, 14, 15], [0, 1, 2, 3, 4, 5, 6, 7, 8, 9, 10, 11, 12, 13, 14, 15, 16], [], [0, 1, 2, 3, 4, 5, 6, 7, 8, 9, 10, 11, 12, 13, 14, 15, 16, 17, 18]] hmix (by kernel_rfl) [(34, _), (35, _), (36, _), (37, _), (38, _), (39, _), (40, _), (41, _), (43, _), (44, _), (45, _), (46, _), (47, _), (48, _), (49, _)] rfl 5 rfl
       refine Stg.go [0, 1, 2, 3, 4, 5, 6, 7, 9, 10, 11, 12, 13, 14, 15] [8, 18] rfl rfl (QAll.cons (QOp.p hT rfl rfl rfl rfl rfl) (QAll.cons (QOp.p hT rfl rfl rfl rfl rfl) (QAll.cons (QOp.q rfl rfl (Quiet1.idxA hT rfl rfl rfl rfl rfl (by decide)) rfl rfl) (QAll.cons (QOp.p hT rfl rfl rfl rfl rfl) (QAll.cons (QOp.q rfl rfl (Quiet1.loadSP (i := 0) (l := [_, _, _]) hT rfl rfl rfl rfl rfl rfl rfl rfl) rfl rfl) (QAll.cons (QOp.q rfl rfl (Quiet1.idxA hT rfl rfl rfl rfl rfl (by decide)) rfl rfl) (QAll.cons (QOp.p hT rfl rfl rfl rfl rfl) (QAll.cons (QOp.q rfl rfl (Quiet1.loadSP (i := 0) (l := [_, _, _]) hT rfl rfl rfl rfl rfl rfl rfl rfl) rfl rfl) (QAll.cons (QOp.p hT rfl rfl rfl rfl rfl) (QAll.cons (QOp.q rfl rfl (Quiet1.idxA hT rfl rfl rfl rfl rfl (by decide)) rfl rfl) (QAll.cons (QOp.p hT rfl rfl rfl rfl rfl) (QAll.cons (QOp.q rfl rfl (Quiet1.loadSP (i := 0) (l := [_, _, _]) hT rfl rfl rfl rfl rfl rfl rfl rfl) rfl rfl) (QAll.cons (QOp.q rfl rfl (Quiet1.idxA hT rfl rfl rfl rfl rfl (by decide)) rfl rfl) (QAll.cons (QOp.p hT rfl rfl rfl rfl rfl) (QAll.cons (QOp.q rfl rfl (Quiet1.loadSP (i := 0) (l := [_, _, _]) hT rfl rfl rfl rfl rfl rfl rfl rfl) rfl rfl) QAll.nil))))))))))))))) ?_
       refine EAll.cons ?_ ?_
       ·
        replace H := H.self
        refine EOp.e rfl rfl rfl (EffX.call (f := 81) (sh := fun h => ratio_Sub _ _ _ h _) (H0 := H) rfl Tryd.call81 rfl (hl := fun w m hr hw => lift_ratio_Sub _ _ _ w m hr _ hw)) ?_
        rintro _ _ ⟨v_4, h0u11, rfl, rfl, H⟩
        apply Stg.next [(42, _)] rfl rfl
        refine Stg.go [0, 9, 10, 11, 12, 13, 14, 15] [16, 18] rfl rfl (QAll.cons (QOp.p hT rfl rfl rfl rfl rfl) (QAll.cons (QOp.p hT rfl rfl rfl rfl rfl) (QAll.cons (QOp.q rfl rfl (Quiet1.idxA hT rfl rfl rfl rfl rfl (by decide)) rfl rfl) (QAll.cons (QOp.p hT rfl rfl rfl rfl rfl) (QAll.cons (QOp.q rfl rfl (Quiet1.loadSP (i := 0) (l := [_, _, _]) hT rfl rfl rfl rfl rfl rfl rfl rfl) rfl rfl) (QAll.cons (QOp.q rfl rfl (Quiet1.idxA hT rfl rfl rfl rfl rfl (by decide)) rfl rfl) (QAll.cons (QOp.p hT rfl rfl rfl rfl rfl) (QAll.cons (QOp.q rfl rfl (Quiet1.loadSP (i := 0) (l := [_, _, _]) hT rfl rfl rfl rfl rfl rfl rfl rfl) rfl rfl) QAll.nil)))))))) ?_
        refine EAll.cons ?_ ?_
        ·
         replace H := H.self
         refine EOp.e rfl rfl rfl (EffX.call (f := 81) (sh := fun h => ratio_Sub _ _ _ h _) (H0 := H) rfl Tryd.call81 rfl (hl := fun w m hr hw => lift_ratio_Sub _ _ _ w m hr _ hw)) ?_
         rintro _ _ ⟨v_5, h0u13, rfl, rfl, H⟩
         apply Stg.next [(50, _)] rfl rfl
         refine Stg.go [0] [17, 18] rfl rfl (QAll.cons (QOp.p hT rfl rfl rfl rfl rfl) QAll.nil) ?_
         refine EAll.cons ?_ ?_
         ·
          replace H := H.self
          refine EOp.e rfl rfl rfl (EffX.call (f := 63) (sh := fun h => ratio_Div _ _ _ h _) (H0 := H) rfl Tryd.call63 rfl (hl := fun w m hr hw => lift_ratio_Div _ _ _ w m hr _ hw)) ?_
          rintro _ _ ⟨v_6, h0u15, rfl, rfl, H⟩
          apply Stg.next [(51, _)] rfl rfl
          refine Stg.go [] [18] rfl rfl QAll.nil ?_
          refine EAll.cons ?_ EAll.nil
          refine EOp.e rfl rfl rfl (EffX.allocP (cs := [_, _, _]) hT rfl rfl H) ?_
          rintro _ _ ⟨b_4, _, rfl, rfl, he14, H⟩
          apply Stg.next [(8, _)] rfl rfl
          refine Stg.go [] [19] rfl rfl QAll.nil ?_
          refine EAll.cons ?_ EAll.nil
          refine EOp.e rfl rfl rfl (EffX.storeSP (i := 0) (qv := [(_, [_, _, _]), (_, [_, _, _, _, _, _, _, _, _, _, _, _]), (_, [_, _, _]), (_, [_, _, _])]) hT rfl rfl rfl rfl rfl rfl rfl rfl rfl rfl) ?_
          rintro _ _ rfl
          apply Stg.next [] rfl rfl
          refine Stg.fin [] rfl rfl QAll.nil ?_
          replace H := H.self
          exact AtE.then_n ((HK10 _ b_4 _ H).pickP (ts := [8, 0, 4, 5, 10, 11, 12]) (is := [0, 2, 3]) rfl rfl (by decide) rfl)
         refine EAll.cons ?_ EAll.nil
         refine EOp.e rfl rfl rfl (EffX.allocP (cs := [_, _, _]) hT rfl rfl H) ?_
         rintro _ _ ⟨b_5, _, rfl, rfl, he15, H⟩
         apply Stg.next [(8, _)] rfl rfl
         refine Stg.go [0] [17] rfl rfl (QAll.cons (QOp.p hT rfl rfl rfl rfl rfl) QAll.nil) ?_
         refine EAll.cons ?_ EAll.nil
         replace H := H.self
         refine EOp.e rfl rfl rfl (EffX.call (f := 63) (sh := fun h => ratio_Div _ _ _ h _) (H0 := H) rfl Tryd.call63 rfl (hl := fun w m hr hw => lift_ratio_Div _ _ _ w m hr _ hw)) ?_
         rintro _ _ ⟨v_7, h0u17, rfl, rfl, H⟩
         apply Stg.next [(51, _)] rfl rfl
         refine Stg.go [] [19] rfl rfl QAll.nil ?_
         refine EAll.cons ?_ EAll.nil
         refine EOp.e rfl rfl rfl (EffX.storeSP (i := 0) (qv := [(_, [_, _, _]), (_, [_, _, _, _, _, _, _, _, _, _, _, _]), (_, [_, _, _]), (_, [_, _, _])]) hT rfl rfl rfl rfl rfl rfl rfl rfl rfl rfl) ?_
         rintro _ _ rfl
         apply Stg.next [] rfl rfl
         refine Stg.fin [] rfl rfl QAll.nil ?_
         replace H := H.self
         exact AtE.then_n ((HK10 _ b_5 _ H).pickP (ts := [8, 0, 4, 5, 10, 11, 12]) (is := [0, 2, 3]) rfl rfl (by decide) rfl)
        refine EAll.cons ?_ EAll.nil
        refine EOp.e rfl rfl rfl (EffX.allocP (cs := [_, _, _]) hT rfl rfl H) ?_
        rintro _ _ ⟨b_6, _, rfl, rfl, he16, H⟩
        apply Stg.next [(8, _)] rfl rfl
        refine Stg.go [0, 9, 10, 11, 12, 13, 14, 15] [16] rfl rfl (QAll.cons (QOp.p hT rfl rfl rfl rfl rfl) (QAll.cons (QOp.p hT rfl rfl rfl rfl rfl) (QAll.cons (QOp.q rfl rfl (Quiet1.idxA hT rfl rfl rfl rfl rfl (by decide)) rfl rfl) (QAll.cons (QOp.p hT rfl rfl rfl rfl rfl) (QAll.cons (QOp.q rfl rfl (Quiet1.loadSP (i := 1) (l := [_, _, _]) hT rfl rfl rfl rfl rfl rfl rfl rfl) rfl rfl) (QAll.cons (QOp.q rfl rfl (Quiet1.idxA hT rfl rfl rfl rfl rfl (by decide)) rfl rfl) (QAll.cons (QOp.p hT rfl rfl rfl rfl rfl) (QAll.cons (QOp.q rfl rfl (Quiet1.loadSP (i := 1) (l := [_, _, _]) hT rfl rfl rfl rfl rfl rfl rfl rfl) rfl rfl) QAll.nil)))))))) ?_
        refine EAll.cons ?_ EAll.nil
        replace H := H.self
        refine EOp.e rfl rfl rfl (EffX.call (f := 81) (sh := fun h => ratio_Sub _ _ _ h _) (H0 := H) rfl Tryd.call81 rfl (hl := fun w m hr hw => lift_ratio_Sub _ _ _ w m hr _ hw)) ?_
        rintro _ _ ⟨v_8, h0u19, rfl, rfl, H⟩
        apply Stg.next [(50, _)] rfl rfl
        refine Stg.go [0] [17] rfl rfl (QAll.cons (QOp.p hT rfl rfl rfl rfl rfl) QAll.nil) ?_
        refine EAll.cons ?_ EAll.nil
        replace H := H.self
        refine EOp.e rfl rfl rfl (EffX.call (f := 63) (sh := fun h => ratio_Div _ _ _ h _) (H0 := H) rfl Tryd.call63 rfl (hl := fun w m hr hw => lift_ratio_Div _ _ _ w m hr _ hw)) ?_
        rintro _ _ ⟨v_9, h0u21, rfl, rfl, H⟩
        apply Stg.next [(51, _)] rfl rfl
        refine Stg.go [] [19] rfl rfl QAll.nil ?_
        refine EAll.cons ?_ EAll.nil
        refine EOp.e rfl rfl rfl (EffX.storeSP (i := 0) (qv := [(_, [_, _, _]), (_, [_, _, _, _, _, _, _, _, _, _, _, _]), (_, [_, _, _]), (_, [_, _, _])]) hT rfl rfl rfl rfl rfl rfl rfl rfl rfl rfl) ?_
        rintro _ _ rfl
        apply Stg.next [] rfl rfl
        refine Stg.fin [] rfl rfl QAll.nil ?_
        replace H := H.self
        exact AtE.then_n ((HK10 _ b_6 _ H).pickP (ts := [8, 0, 4, 5, 10, 11, 12]) (is := [0, 2, 3]) rfl rfl (by decide) rfl)
       refine EAll.cons ?_ EAll.nil
       refine EOp.e rfl rfl rfl (EffX.allocP (cs := [_, _, _]) hT rfl rfl H) ?_
       rintro _ _ ⟨b_7, _, rfl, rfl, he17, H⟩
       apply Stg.next [(8, _)] rfl rfl
       refine Stg.go [0, 1, 2, 3, 4, 5, 6, 7, 9, 10, 11, 12, 13, 14, 15] [8] rfl rfl (QAll.cons (QOp.p hT rfl rfl rfl rfl rfl) (QAll.cons (QOp.p hT rfl rfl rfl rfl rfl) (QAll.cons (QOp.q rfl rfl (Quiet1.idxA hT rfl rfl rfl rfl rfl (by decide)) rfl rfl) (QAll.cons (QOp.p hT rfl rfl rfl rfl rfl) (QAll.cons (QOp.q rfl rfl (Quiet1.loadSP (i := 1) (l := [_, _, _]) hT rfl rfl rfl rfl rfl rfl rfl rfl) rfl rfl) (QAll.cons (QOp.q rfl rfl (Quiet1.idxA hT rfl rfl rfl rfl rfl (by decide)) rfl rfl) (QAll.cons (QOp.p hT rfl rfl rfl rfl rfl) (QAll.cons (QOp.q rfl rfl (Quiet1.loadSP (i := 1) (l := [_, _, _]) hT rfl rfl rfl rfl rfl rfl rfl rfl) rfl rfl) (QAll.cons (QOp.p hT rfl rfl rfl rfl rfl) (QAll.cons (QOp.q rfl rfl (Quiet1.idxA hT rfl rfl rfl rfl rfl (by decide)) rfl rfl) (QAll.cons (QOp.p hT rfl rfl rfl rfl rfl) (QAll.cons (QOp.q rfl rfl (Quiet1.loadSP (i := 1) (l := [_, _, _]) hT rfl rfl rfl rfl rfl rfl rfl rfl) rfl rfl) (QAll.cons (QOp.q rfl rfl (Quiet1.idxA hT rfl rfl rfl rfl rfl (by decide)) rfl rfl) (QAll.cons (QOp.p hT rfl rfl rfl rfl rfl) (QAll.cons (QOp.q rfl rfl (Quiet1.loadSP (i := 1) (l := [_, _, _]) hT rfl rfl rfl rfl rfl rfl rfl rfl) rfl rfl) QAll.nil))))))))))))))) ?_
       refine EAll.cons ?_ EAll.nil
       replace H := H.self
       refine EOp.e rfl rfl rfl (EffX.call (f := 81) (sh := fun h => ratio_Sub _ _ _ h _) (H0 := H) rfl Tryd.call81 rfl (hl := fun w m hr hw => lift_ratio_Sub _ _ _ w m hr _ hw)) ?_
       rintro _ _ ⟨v_10, h0u23, rfl, rfl, H⟩
       apply Stg.next [(42, _)] rfl rfl
       refine Stg.go [0, 9, 10, 11, 12, 13, 14, 15] [16] rfl rfl (QAll.cons (QOp.p hT rfl rfl rfl rfl rfl) (QAll.cons (QOp.p hT rfl rfl rfl rfl rfl) (QAll.cons (QOp.q rfl rfl (Quiet1.idxA hT rfl rfl rfl rfl rfl (by decide)) rfl rfl) (QAll.cons (QOp.p hT rfl rfl rfl rfl rfl) (QAll.cons (QOp.q rfl rfl (Quiet1.loadSP (i := 1) (l := [_, _, _]) hT rfl rfl rfl rfl rfl rfl rfl rfl) rfl rfl) (QAll.cons (QOp.q rfl rfl (Quiet1.idxA hT rfl rfl rfl rfl rfl (by decide)) rfl rfl) (QAll.cons (QOp.p hT rfl rfl rfl rfl rfl) (QAll.cons (QOp.q rfl rfl (Quiet1.loadSP (i := 1) (l := [_, _, _]) hT rfl rfl rfl rfl rfl rfl rfl rfl) rfl rfl) QAll.nil)))))))) ?_
       refine EAll.cons ?_ EAll.nil
       replace H := H.self
       refine EOp.e rfl rfl rfl (EffX.call (f := 81) (sh := fun h => ratio_Sub _ _ _ h _) (H0 := H) rfl Tryd.call81 rfl (hl := fun w m hr hw => lift_ratio_Sub _ _ _ w m hr _ hw)) ?_
       rintro _ _ ⟨v_11, h0u25, rfl, rfl, H⟩
       apply Stg.next [(50, _)] rfl rfl
       refine Stg.go [0] [17] rfl rfl (QAll.cons (QOp.p hT rfl rfl rfl rfl rfl) QAll.nil) ?_
       refine EAll.cons ?_ EAll.nil
       replace H := H.self
       refine EOp.e rfl rfl rfl (EffX.call (f := 63) (sh := fun h => ratio_Div _ _ _ h _) (H0 := H) rfl Tryd.call63 rfl (hl := fun w m hr hw => lift_ratio_Div _ _ _ w m hr _ hw)) ?_
       rintro _ _ ⟨v_12, h0u27, rfl, rfl, H⟩
       apply Stg.next [(51, _)] rfl rfl
       refine Stg.go [] [19] rfl rfl QAll.nil ?_
       refine EAll.cons ?_ EAll.nil
       refine EOp.e rfl rfl rfl (EffX.storeSP (i := 0) (qv := [(_, [_, _, _]), (_, [_, _, _, _, _, _, _, _, _, _, _, _]), (_, [_, _, _]), (_, [_, _, _])]) hT rfl rfl rfl rfl rfl rfl rfl rfl rfl rfl) ?_
       rintro _ _ rfl
       apply Stg.next [] rfl rfl
       refine Stg.fin [] rfl rfl QAll.nil ?_
       replace H := H.self
       exact AtE.then_n ((HK10 _ b_7 _ H).pickP (ts := [8, 0, 4, 5, 10, 11, 12]) (is := [0, 2, 3]) rfl rfl (by decide) rfl)
    ·
     refine AtC.region ?_
     refine AtL.q rfl (Quiet1.idxA hT rfl rfl rfl rfl rfl (by decide)) ?_
     refine AtL.pures hT 1 _ _ _ _ rfl ?_
     refine AtL.q rfl (Quiet1.loadSP (i := 0) (l := [_, _, _]) hT rfl rfl rfl rfl rfl rfl rfl rfl) ?_
     refine AtL.q rfl (Quiet1.idxA hT rfl rfl rfl rfl rfl (by decide)) ?_
     refine AtL.pures hT 1 _ _ _ _ rfl ?_
     refine AtL.q rfl (Quiet1.loadSP (i := 0) (l := [_, _, _]) hT rfl rfl rfl rfl rfl rfl rfl rfl) ?_
     refine AtL.e rfl (EffX.call (f := 58) (sh := fun h => ratio_Cmp _ _ h _) (H0 := H) rfl Tryd.call58 rfl (hl := fun w m hr hw => lift_ratio_Cmp _ _ w m hr _ hw)) ?_
     rintro _ _ ⟨v_2, h0u7, rfl, rfl, H⟩
     refine AtL.pures hT 2 _ _ _ _ rfl ?_
     refine AtL.splitB (t := 24) H rfl (fun H => ?_) (fun H => ?_)
     ·
      refine AtL.noF rfl rfl rfl (by decide) rfl ?_
      refine AtL.noF rfl rfl rfl (by decide) rfl ?_
      refine AtL.noF rfl rfl rfl (by decide) rfl ?_
      refine AtL.noF rfl rfl rfl (by decide) rfl ?_
      refine AtL.noF rfl rfl rfl (by decide) rfl ?_
      refine AtL.noF rfl rfl rfl (by decide) rfl ?_
      refine AtL.noF rfl rfl rfl (by decide) rfl ?_
      refine AtL.noF rfl rfl rfl (by decide) rfl ?_
      refine AtL.pures hT 1 _ _ _ _ rfl ?_
      refine AtL.nil ?_
      exact AtE.then_n ((HK5 _ () _ H).pickP (ts := [33, 0, 4, 5, 7, 10, 11, 12]) (is := [0, 1, 2]) rfl rfl (by decide) rfl)
     ·
      refine AtL.yes rfl rfl rfl ?_
      refine AtL.q rfl (Quiet1.idxA hT rfl rfl rfl rfl rfl (by decide)) ?_
      refine AtL.yes rfl rfl rfl ?_
      refine AtL.pures hT 1 _ _ _ _ rfl ?_
      refine AtL.yes rfl rfl rfl ?_
      refine AtL.q rfl (Quiet1.loadSP (i := 0) (l := [_, _, _]) hT rfl rfl rfl rfl rfl rfl rfl rfl) ?_
      refine AtL.yes rfl rfl rfl ?_
      refine AtL.q rfl (Quiet1.idxA hT rfl rfl rfl rfl rfl (by decide)) ?_
      refine AtL.yes rfl rfl rfl ?_
      refine AtL.pures hT 1 _ _ _ _ rfl ?_
      refine AtL.yes rfl rfl rfl ?_
      refine AtL.q rfl (Quiet1.loadSP (i := 0) (l := [_, _, _]) hT rfl rfl rfl rfl rfl rfl rfl rfl) ?_
      refine AtL.yes rfl rfl rfl ?_
      refine AtL.e rfl (EffX.call (f := 58) (sh := fun h => ratio_Cmp _ _ h _) (H0 := H) rfl Tryd.call58 rfl (hl := fun w m hr hw => lift_ratio_Cmp _ _ w m hr _ hw)) ?_
      rintro _ _ ⟨v_3, h0u8, rfl, rfl, H⟩
      refine AtL.yes rfl rfl rfl ?_
      refine AtL.pures hT 1 _ _ _ _ rfl ?_
      refine AtL.pures hT 1 _ _ _ _ rfl ?_
      refine AtL.nil ?_
      exact AtE.then_n ((HK5 _ () _ H).pickP (ts := [33, 0, 4, 5, 7, 10, 11, 12]) (is := [0, 1, 2]) rfl rfl (by decide) rfl)
  ·
   refine AtC.exit ?_
   refine AtE.then_x ?_
   refine AtE.then_x ?_
   refine AtE.blk_hit ?_
   refine AtE.then_n (AtE.go ?_)
   refine AtC.seq ?_
   refine AtC.seqR ?_
   refine AtL.pures hT 1 _ _ _ _ rfl ?_
   refine AtL.e rfl (EffX.call (f := 24) (sh := fun h => nat_Bench_Over _ h _) (H0 := H) rfl Tryd.call24 rfl (hl := fun w m hr hw => lift_nat_Bench_Over _ w m hr _ hw)) ?_
   rintro _ _ ⟨v_14, h0u30, rfl, rfl, H⟩
   refine AtL.nil ?_
   refine AtE.then_n (AtE.go ?_)
   refine AtC.condB H rfl (fun H => ?_) (fun H => ?_)
   ·
    refine AtC.seqR ?_
    refine AtL.q rfl (Quiet1.build (cs := [_, _, _]) hT rfl rfl rfl rfl rfl rfl) ?_
    refine AtL.e rfl (EffX.storeSP (i := 1) (qv := [(_, [_, _, _]), (_, [_, _, _])]) hT rfl rfl rfl rfl rfl rfl rfl rfl rfl rfl) ?_
    rintro _ _ rfl
    refine AtL.nil ?_
    refine AtE.then_n (AtE.go ?_)
    refine AtC.ret ?_
    refine AtE.then_r ?_
    exact AtE.retN (rs := [.cell 4 54]) rfl (ResAll.cons (ResAt.cellSP (i := 1) (l := [_, _, _]) hT rfl rfl rfl rfl rfl rfl rfl) ResAll.nil) rfl H
   ·
    refine AtC.skip ?_
    refine AtE.then_n (AtE.go ?_)
    refine AtC.seqR ?_
    refine AtL.q rfl (Quiet1.loadSP (i := 0) (l := [_, _, _]) hT rfl rfl rfl rfl rfl rfl rfl rfl) ?_
    refine AtL.e rfl (EffX.storeSP (i := 1) (qv := [(_, [_, _, _]), (_, [_, _, _])]) hT rfl rfl rfl rfl rfl rfl rfl rfl rfl rfl) ?_
    rintro _ _ rfl
    refine AtL.nil ?_
    refine AtE.then_n (AtE.go ?_)
    refine AtC.ret ?_
    exact AtE.retN (rs := [.cell 4 54]) rfl (ResAll.cons (ResAt.cellSP (i := 1) (l := [_, _, _]) hT rfl rfl rfl rfl rfl rfl rfl) ResAll.nil) rfl H

theorem lift_ref02uNeg (x0 : Bool × Sl × Sl) (w : World) (m : Heap) (hr : Rel ⟨m, []⟩ w.heap) (S : (Bool × Sl × Sl) → Heap → Prop) (H : ref02uNeg x0 m S) :
    Calls Tryd.prog 102 #[Value.agg (C_bool_sl_sl x0).toArray] w (Post ⟨w, m⟩ (fun r => Value.agg (C_bool_sl_sl r).toArray) S) := by
  refine Calls.lift (args := [Value.agg (C_bool_sl_sl x0).toArray]) Tryd.func102 rfl Tryd.ntmps102 (Nat.le_of_ble_eq_true rfl) hr (ref02uNeg x0 m S) H (fun H => ?_)
  refine AtC.pick (ts := [0]) rfl ?_
  unfold ref02uNeg at H
  refine AtC.seqR ?_
  refine AtL.e rfl (EffX.boxP (cs := [_, _, _]) rfl rfl rfl H) ?_
  rintro _ _ ⟨b, _, rfl, rfl, _, H⟩
  refine AtL.e rfl (EffX.allocP (cs := [_, _, _]) hT rfl rfl H) ?_
  rintro _ _ ⟨b_1, _, rfl, rfl, _, H⟩
  refine AtL.nil ?_
  replace H := H.self
  refine AtE.then_n (AtE.go ?_)
  refine AtC.joinSeq (β := Unit) (fun (t0 : Bool × Sl × Sl) (bb : Unit) => []) (fun (t0 : Bool × Sl × Sl) (bb : Unit) => [(b_1, [Value.bool t0.1, Sl.toV t0.2.1, Sl.toV t0.2.2])]) [2] [] H (by exact rfl) (by exact rfl) (fun t0 bb h0u1 H => ?_) (fun J1 H HK1 => ?_)
  ·
   refine AtC.ret ?_
   exact AtE.retN (rs := [.cell 2 59]) rfl (ResAll.cons (ResAt.cellSP (i := 0) (l := [_, _, _]) hT rfl rfl rfl rfl rfl rfl rfl) ResAll.nil) rfl H
  ·
   refine AtC.region ?_
   refine AtL.pures hT 1 _ _ _ _ rfl ?_
   refine AtL.q rfl (Quiet1.loadP (i := 1) hT rfl rfl rfl rfl rfl rfl) ?_
   refine AtL.pures hT 2 _ _ _ _ rfl ?_
   refine AtL.splitB (t := 6) H rfl (fun H => ?_) (fun H => ?_)
   ·
    refine AtL.yes rfl rfl rfl ?_
    refine AtL.pures hT 1 _ _ _ _ rfl ?_
    refine AtL.yes rfl rfl rfl ?_
    refine AtL.q rfl (Quiet1.loadP (i := 1) hT rfl rfl rfl rfl rfl rfl) ?_
    refine AtL.yes rfl rfl rfl ?_
    refine AtL.pures hT 1 _ _ _ _ rfl ?_
    refine AtL.yes rfl rfl rfl ?_
    refine AtL.pures hT 1 _ _ _ _ rfl ?_
    refine AtL.pures hT 2 _ _ _ _ rfl ?_
    refine AtL.q rfl (Quiet1.loadP (i := 1) hT rfl rfl rfl rfl rfl rfl) ?_
    refine AtL.pures hT 1 _ _ _ _ rfl ?_
    refine AtL.q rfl (Quiet1.loadP (i := 1) hT rfl rfl rfl rfl rfl rfl) ?_
    refine AtL.q rfl (Quiet1.build (cs := [_, _, _]) hT rfl rfl rfl rfl rfl rfl) ?_
    refine AtL.e rfl (EffX.storeSP (i := 0) (qv := [(_, [_, _, _]), (_, [_, _, _])]) hT rfl rfl rfl rfl rfl rfl rfl rfl rfl rfl) ?_
    rintro _ _ rfl
    refine AtL.nil ?_
    exact AtE.then_n ((HK1 _ () _ H).pickP (ts := [2]) (is := [0]) rfl rfl (by decide) rfl)
   ·
    refine AtL.noF rfl rfl rfl (by decide) rfl ?_
    refine AtL.noF rfl rfl rfl (by decide) rfl ?_
    refine AtL.noF rfl rfl rfl (by decide) rfl ?_
    refine AtL.noF rfl rfl rfl (by decide) rfl ?_
    refine AtL.pures hT 2 _ _ _ _ rfl ?_
    refine AtL.q rfl (Quiet1.loadP (i := 1) hT rfl rfl rfl rfl rfl rfl) ?_
    refine AtL.pures hT 1 _ _ _ _ rfl ?_
    refine AtL.q rfl (Quiet1.loadP (i := 1) hT rfl rfl rfl rfl rfl rfl) ?_
    refine AtL.q rfl (Quiet1.build (cs := [_, _, _]) hT rfl rfl rfl rfl rfl rfl) ?_
    refine AtL.e rfl (EffX.storeSP (i := 0) (qv := [(_, [_, _, _]), (_, [_, _, _])]) hT rfl rfl rfl rfl rfl rfl rfl rfl rfl rfl) ?_
    rintro _ _ rfl
    refine AtL.nil ?_
    exact AtE.then_n ((HK1 _ () _ H).pickP (ts := [2]) (is := [0]) rfl rfl (by decide) rfl)

theorem lift_ref01uMul (x0 : Sl) (y : Sl) (w : World) (m : Heap) (hr : Rel ⟨m, []⟩ w.heap) (S : Sl → Heap → Prop) (H : ref01uMul x0 y m S) :
    Calls Tryd.prog 29 #[Sl.toV x0, Sl.toV y] w (Post ⟨w, m⟩ Sl.toV S) := by
  refine Calls.lift (args := [Sl.toV x0, Sl.toV y]) Tryd.func29 rfl Tryd.ntmps29 (Nat.le_of_ble_eq_true rfl) hr (ref01uMul x0 y m S) H (fun H => ?_)
  refine AtC.pick (ts := [0, 1]) rfl ?_
  unfold ref01uMul at H
  refine AtC.seqR ?_
  refine AtL.pures hT 1 _ _ _ _ rfl ?_
  refine AtL.nil ?_
  refine AtE.then_n (AtE.go ?_)
  refine AtC.seqR ?_
  refine AtL.pures hT 6 _ _ _ _ rfl ?_
  replace H := H _ rfl
  refine AtL.e rfl (EffX.mkS hT rfl rfl rfl rfl rfl rfl rfl rfl (by decide) H) ?_
  rintro _ _ ⟨v, h0, rfl, rfl, H⟩
  refine AtL.pures hT 1 _ _ _ _ rfl ?_
  refine AtL.nil ?_
  refine AtE.then_n (AtE.go ?_)
  refine AtC.seq ?_
  refine AtC.seqR ?_
  refine AtL.pures hT 1 _ _ _ _ rfl ?_
  refine AtL.nil ?_
  refine AtE.then_n (AtE.go ?_)
  refine AtC.block ?_
  refine AtC.loopM (fun (s0 : Int) => [(6, Value.int .i64 s0)]) (fun (s0 : Int) => []) [0, 1, 5] [6, 0, 1, 5] [] [] H (by exact rfl) (by exact rfl) (by exact rfl) (by decide) (by exact rfl) (fun Kp1 s0 h0u1 H Q1 HK1 => ?_)
  refine AtC.seq ?_
  refine AtC.seqR ?_
  refine AtL.pures hT 4 _ _ _ _ rfl ?_
  refine AtL.nil ?_
  refine AtE.then_n (AtE.go ?_)
  refine AtC.condB H rfl (fun H => ?_) (fun H => ?_)
  ·
   refine AtC.skip ?_
   refine AtE.then_n (AtE.go ?_)
   refine AtC.seq ?_
   refine AtC.block ?_
   refine AtC.seqR ?_
   refine AtL.pures hT 1 _ _ _ _ rfl ?_
   refine AtL.nil ?_
   refine AtE.then_n (AtE.go ?_)
   refine AtC.seqR ?_
   refine AtL.pures hT 1 _ _ _ _ rfl ?_
   refine AtL.nil ?_
   refine AtE.then_n (AtE.go ?_)
   refine AtC.block ?_
   refine AtC.loopM (fun (s0u1 : Int × Int) => [(7, Value.int .i64 s0u1.1), (8, Value.int .i64 s0u1.2)]) (fun (s0u1 : Int × Int) => []) [0, 1, 5, 6] [7, 8, 0, 1, 5, 6] [] [] H (by exact rfl) (by exact rfl) (by exact rfl) (by decide) (by exact rfl) (fun Kp2 s0u1 h0u2 H Q2 HK2 => ?_)
   refine AtC.seq ?_
   refine AtC.joinSeq (β := Unit) (fun (t0 : Bool) (bb : Unit) => [(30, Value.bool t0)]) (fun (t0 : Bool) (bb : Unit) => []) [0, 1, 5, 6, 7, 8] [] H (by exact rfl) (by exact rfl) (fun t0 bb h0u3 H => ?_) (fun J3 H HK3 => ?_)
   ·
    refine AtC.condB H rfl (fun H => ?_) (fun H => ?_)
    ·
     refine AtC.skip ?_
     refine AtE.then_n (AtE.go ?_)
     refine AtC.seq ?_
     refine AtC.block ?_
     refine AtC.seqR ?_
     refine AtL.pures hT 4 _ _ _ _ rfl ?_
     obtain ⟨a_, hc3, hd3, H⟩ := H
     refine AtL.q rfl (Quiet1.idxS (s := _) hT rfl rfl rfl rfl rfl hc3 hd3) ?_
     obtain ⟨v_1, hc4, H⟩ := H
     refine AtL.q rfl (Quiet1.load hT rfl rfl rfl hc4) ?_
     refine AtL.pures hT 3 _ _ _ _ rfl ?_
     replace H := H _ rfl
     refine AtL.nil ?_
     refine AtE.then_n (AtE.go ?_)
     refine AtC.joinSeq (β := Unit) (fun (t0u1 : Int) (bb_1 : Unit) => [(9, Value.int .i64 t0u1)]) (fun (t0u1 : Int) (bb_1 : Unit) => []) [0, 1, 5, 6, 8] [] H (by exact rfl) (by exact rfl) (fun t0u1 bb_1 h0u4 H => ?_) (fun J6 H HK6 => ?_)
     ·
      refine AtC.seqR ?_
      refine AtL.pures hT 6 _ _ _ _ rfl ?_
      obtain ⟨a_3_, hc10, hd10, H⟩ := H
      refine AtL.q rfl (Quiet1.idxS (s := _) hT rfl rfl rfl rfl rfl hc10 hd10) ?_
      refine AtL.e rfl (EffX.store hT rfl rfl rfl rfl rfl H) ?_
      rintro _ _ ⟨h0u5, rfl, H⟩
      refine AtL.nil ?_
      refine AtE.then_n (AtE.go ?_)
      refine AtC.region ?_
      refine AtL.pures hT 3 _ _ _ _ rfl ?_
      replace H := H _ rfl
      refine AtL.nil ?_
      refine AtE.blk_n ?_
      refine AtE.then_n (AtE.go ?_)
      refine AtC.region ?_
      refine AtL.pures hT 3 _ _ _ _ rfl ?_
      replace H := H _ rfl
      refine AtL.nil ?_
      exact AtE.then_n ((HK2 _ _ H).pickP (ts := [7, 8, 0, 1, 5, 6]) (is := []) rfl rfl (by decide) rfl)
     ·
      refine AtC.seqR ?_
      refine AtL.pures hT 4 _ _ _ _ rfl ?_
      refine AtL.nil ?_
      refine AtE.then_n (AtE.go ?_)
      refine AtC.condB H rfl (fun H => ?_) (fun H => ?_)
      ·
       refine AtC.draw hmix (by kernel_rfl) ?_
       refine AtD.pures hT 3 _ _ _ _ rfl ?_
       obtain ⟨a_1_, hc6, hd6, H⟩ := H
       refine AtD.q rfl (Quiet1.idxS (s := _) hT rfl rfl rfl rfl rfl hc6 hd6) ?_
       obtain ⟨v_2, hc7, H⟩ := H
       refine AtD.q rfl (Quiet1.load hT rfl rfl rfl hc7) ?_
       refine AtD.pures hT 2 _ _ _ _ rfl ?_
       obtain ⟨a_2_, hc8, hd8, H⟩ := H
       refine AtD.q rfl (Quiet1.idxS (s := _) hT rfl rfl rfl rfl rfl hc8 hd8) ?_
       obtain ⟨v_3, hc9, H⟩ := H
       refine AtD.q rfl (Quiet1.load hT rfl rfl rfl hc9) ?_
       refine AtD.pures hT 3 _ _ _ _ rfl ?_
       replace H := H _ rfl
       refine AtD.nil ?_
       exact AtE.then_n ((HK6 _ () _ H).pickP (ts := [9, 0, 1, 5, 6, 8]) (is := []) rfl rfl (by decide) rfl)
      ·
       refine AtC.skip ?_
       exact AtE.then_n ((HK6 _ () _ H).pickP (ts := [9, 0, 1, 5, 6, 8]) (is := []) rfl rfl (by decide) rfl)
    ·
     refine AtC.exit ?_
     refine AtE.then_x ?_
     refine AtE.then_x ?_
     refine AtE.blk_hit ?_
     refine AtE.blk_n ?_
     refine AtE.then_n (AtE.go ?_)
     refine AtC.region ?_
     refine AtL.pures hT 3 _ _ _ _ rfl ?_
     replace H := H _ rfl
     refine AtL.nil ?_
     exact AtE.then_n ((HK1 _ _ H).pickP (ts := [6, 0, 1, 5]) (is := []) rfl rfl (by decide) rfl)
   ·
    refine AtC.region ?_
    refine AtL.pures hT 5 _ _ _ _ rfl ?_
    refine AtL.splitB (t := 27) H rfl (fun H => ?_) (fun H => ?_)
    ·
     refine AtL.noF rfl rfl rfl (by decide) rfl ?_
     refine AtL.noF rfl rfl rfl (by decide) rfl ?_
     refine AtL.pures hT 1 _ _ _ _ rfl ?_
     refine AtL.nil ?_
     exact AtE.then_n ((HK3 _ () _ H).pickP (ts := [30, 0, 1, 5, 6, 7, 8]) (is := []) rfl rfl (by decide) rfl)
    ·
     refine AtL.yes rfl rfl rfl ?_
     refine AtL.pures hT 1 _ _ _ _ rfl ?_
     refine AtL.yes rfl rfl rfl ?_
     refine AtL.pures hT 1 _ _ _ _ rfl ?_
     refine AtL.pures hT 1 _ _ _ _ rfl ?_
     refine AtL.nil ?_
     exact AtE.then_n ((HK3 _ () _ H).pickP (ts := [30, 0, 1, 5, 6, 7, 8]) (is := []) rfl rfl (by decide) rfl)
  ·
   refine AtC.exit ?_
   refine AtE.then_x ?_
   refine AtE.then_x ?_
   refine AtE.blk_hit ?_
   refine AtE.then_n (AtE.go ?_)
   refine AtC.seqR ?_
   refine AtL.pures hT 1 _ _ _ _ rfl ?_
   refine AtL.e rfl (EffX.call (f := 91) (sh := fun h => ref01uCut _ h _) (H0 := H) rfl Tryd.call91 rfl (hl := fun w m hr hw => lift_ref01uCut _ w m hr _ hw)) ?_
   rintro _ _ ⟨v_4, h0u6, rfl, rfl, H⟩
   refine AtL.pures hT 1 _ _ _ _ rfl ?_
   refine AtL.nil ?_
   refine AtE.then_n (AtE.go ?_)
   refine AtC.ret ?_
   exact AtE.retN (rs := [.tmp 4]) rfl (ResAll.cons (ResAt.tmp rfl) ResAll.nil) rfl H

theorem lift_ref01uAdd (x0 : Sl) (y : Sl) (w : World) (m : Heap) (hr : Rel ⟨m, []⟩ w.heap) (S : Sl → Heap → Prop) (H : ref01uAdd x0 y m S) :
    Calls Tryd.prog 27 #[Sl.toV x0, Sl.toV y] w (Post ⟨w, m⟩ Sl.toV S) := by
  refine Calls.lift (args := [Sl.toV x0, Sl.toV y]) Tryd.func27 rfl Tryd.ntmps27 (Nat.le_of_ble_eq_true rfl) hr (ref01uAdd x0 y m S) H (fun H => ?_)
  refine AtC.pick (ts := [0, 1]) rfl ?_
  unfold ref01uAdd at H
  refine AtC.seqR ?_
  refine AtL.pures hT 1 _ _ _ _ rfl ?_
  refine AtL.nil ?_
  refine AtE.then_n (AtE.go ?_)
  refine AtC.seqR ?_
  refine AtLX.bs (hT := hT) (cs := []) H rfl rfl rfl rfl rfl rfl rfl rfl rfl (fun a h0 H => ?_)
  refine AtL.pures hT 1 _ _ _ _ rfl ?_
  replace H := H _ rfl
  refine AtL.nil ?_
  refine AtE.then_n (AtE.go ?_)
  refine AtC.seqR ?_
  refine AtL.pures hT 1 _ _ _ _ rfl ?_
  refine AtL.nil ?_
  refine AtE.then_n (AtE.go ?_)
  refine AtC.seq ?_
  refine AtC.seqR ?_
  refine AtL.pures hT 1 _ _ _ _ rfl ?_
  refine AtL.nil ?_
  refine AtE.then_n (AtE.go ?_)
  refine AtC.block ?_
  refine AtC.loopM (fun (s0 : Sl × Int × Int) => [(5, Sl.toV s0.1), (6, Value.int .i64 s0.2.1), (7, Value.int .i64 s0.2.2)]) (fun (s0 : Sl × Int × Int) => []) [0, 1] [5, 6, 7, 0, 1] [] [] H (by exact rfl) (by exact rfl) (by exact rfl) (by decide) (by exact rfl) (fun Kp1 s0 h0u1 H Q1 HK1 => ?_)
  refine AtC.seq ?_
  refine AtC.joinSeq (β := Unit) (fun (t0 : Bool) (bb : Unit) => [(23, Value.bool t0)]) (fun (t0 : Bool) (bb : Unit) => []) [0, 1, 5, 6, 7] [] H (by exact rfl) (by exact rfl) (fun t0 bb h0u2 H => ?_) (fun J2 H HK2 => ?_)
  ·
   refine AtC.condB H rfl (fun H => ?_) (fun H => ?_)
   ·
    refine AtC.skip ?_
    refine AtE.then_n (AtE.go ?_)
    refine AtC.seq ?_
    refine AtC.block ?_
    refine AtC.seqR ?_
    refine AtL.pures hT 2 _ _ _ _ rfl ?_
    refine AtL.nil ?_
    refine AtE.then_n (AtE.go ?_)
    refine AtC.joinSeq (β := Unit) (fun (t0u1 : Int) (bb_1 : Unit) => [(8, Value.int .i64 t0u1)]) (fun (t0u1 : Int) (bb_1 : Unit) => []) [0, 1, 5, 7] [] H (by exact rfl) (by exact rfl) (fun t0u1 bb_1 h0u3 H => ?_) (fun J3 H HK3 => ?_)
    ·
     refine AtC.joinSeq (β := Unit) (fun (t0u2 : Int) (bb_2 : Unit) => [(8, Value.int .i64 t0u2)]) (fun (t0u2 : Int) (bb_2 : Unit) => []) [0, 1, 5, 7] [] H (by exact rfl) (by exact rfl) (fun t0u2 bb_2 h0u4 H => ?_) (fun J6 H HK6 => ?_)
     ·
      refine AtC.seqR ?_
      refine AtL.pures hT 3 _ _ _ _ rfl ?_
      refine AtLX.bs (hT := hT) (cs := [_]) H rfl rfl rfl rfl rfl rfl rfl rfl rfl (fun a_3 h0u5 H => ?_)
      refine AtL.e rfl (EffX.appendS (s := _) (u := _) hT rfl rfl rfl rfl rfl rfl rfl rfl rfl rfl (by decide) H) ?_
      rintro _ _ ⟨v_4, h0u6, rfl, rfl, H⟩
      refine AtL.pures hT 1 _ _ _ _ rfl ?_
      refine AtL.nil ?_
      refine AtE.then_n (AtE.go ?_)
      refine AtC.region ?_
      refine AtL.pures hT 3 _ _ _ _ rfl ?_
      replace H := H _ rfl
      refine AtL.nil ?_
      refine AtE.blk_n ?_
      refine AtE.then_n (AtE.go ?_)
      refine AtC.region ?_
      refine AtL.pures hT 3 _ _ _ _ rfl ?_
      replace H := H _ rfl
      refine AtL.nil ?_
      exact AtE.then_n ((HK1 _ _ H).pickP (ts := [5, 6, 7, 0, 1]) (is := []) rfl rfl (by decide) rfl)
     ·
      refine AtC.seqR ?_
      refine AtL.pures hT 4 _ _ _ _ rfl ?_
      refine AtL.nil ?_
      refine AtE.then_n (AtE.go ?_)
      refine AtC.condB H rfl (fun H => ?_) (fun H => ?_)
      ·
       refine AtC.region ?_
       refine AtL.pures hT 3 _ _ _ _ rfl ?_
       obtain ⟨a_2_, hc6, hd6, H⟩ := H
       refine AtL.q rfl (Quiet1.idxS (s := _) hT rfl rfl rfl rfl rfl hc6 hd6) ?_
       obtain ⟨v_2, hc7, H⟩ := H
       refine AtL.q rfl (Quiet1.load hT rfl rfl rfl hc7) ?_
       refine AtL.pures hT 2 _ _ _ _ rfl ?_
       replace H := H _ rfl
       refine AtL.nil ?_
       exact AtE.then_n ((HK6 _ () _ H).pickP (ts := [8, 0, 1, 5, 7]) (is := []) rfl rfl (by decide) rfl)
      ·
       refine AtC.skip ?_
       exact AtE.then_n ((HK6 _ () _ H).pickP (ts := [8, 0, 1, 5, 7]) (is := []) rfl rfl (by decide) rfl)
    ·
     refine AtC.seqR ?_
     refine AtL.pures hT 4 _ _ _ _ rfl ?_
     refine AtL.nil ?_
     refine AtE.then_n (AtE.go ?_)
     refine AtC.condB H rfl (fun H => ?_) (fun H => ?_)
     ·
      refine AtC.region ?_
      refine AtL.pures hT 3 _ _ _ _ rfl ?_
      obtain ⟨a_1_, hc3, hd3, H⟩ := H
      refine AtL.q rfl (Quiet1.idxS (s := _) hT rfl rfl rfl rfl rfl hc3 hd3) ?_
      obtain ⟨v_1, hc4, H⟩ := H
      refine AtL.q rfl (Quiet1.load hT rfl rfl rfl hc4) ?_
      refine AtL.pures hT 2 _ _ _ _ rfl ?_
      replace H := H _ rfl
      refine AtL.nil ?_
      exact AtE.then_n ((HK3 _ () _ H).pickP (ts := [8, 0, 1, 5, 7]) (is := []) rfl rfl (by decide) rfl)
     ·
      refine AtC.skip ?_
      exact AtE.then_n ((HK3 _ () _ H).pickP (ts := [8, 0, 1, 5, 7]) (is := []) rfl rfl (by decide) rfl)
   ·
    refine AtC.exit ?_
    refine AtE.then_x ?_
    refine AtE.then_x ?_
    refine AtE.blk_hit ?_
    refine AtE.then_n (AtE.go ?_)
    refine AtC.seqR ?_
    refine AtL.pures hT 1 _ _ _ _ rfl ?_
    refine AtL.e rfl (EffX.call (f := 91) (sh := fun h => ref01uCut _ h _) (H0 := H) rfl Tryd.call91 rfl (hl := fun w m hr hw => lift_ref01uCut _ w m hr _ hw)) ?_
    rintro _ _ ⟨v_5, h0u7, rfl, rfl, H⟩
    refine AtL.pures hT 1 _ _ _ _ rfl ?_
    refine AtL.nil ?_
    refine AtE.then_n (AtE.go ?_)
    refine AtC.ret ?_
    exact AtE.retN (rs := [.tmp 4]) rfl (ResAll.cons (ResAt.tmp rfl) ResAll.nil) rfl H
  ·
   refine AtC.region ?_
   refine AtL.pures hT 5 _ _ _ _ rfl ?_
   refine AtL.splitB (t := 14) H rfl (fun H => ?_) (fun H => ?_)
   ·
    refine AtL.noF rfl rfl rfl (by decide) rfl ?_
    refine AtL.noF rfl rfl rfl (by decide) rfl ?_
    refine AtL.noF rfl rfl rfl (by decide) rfl ?_
    refine AtL.noF rfl rfl rfl (by decide) rfl ?_
    refine AtL.pures hT 2 _ _ _ _ rfl ?_
    refine AtL.noF rfl rfl rfl (by decide) rfl ?_
    refine AtL.noF rfl rfl rfl (by decide) rfl ?_
    refine AtL.pures hT 1 _ _ _ _ rfl ?_
    refine AtL.nil ?_
    exact AtE.then_n ((HK2 _ () _ H).pickP (ts := [23, 0, 1, 5, 6, 7]) (is := []) rfl rfl (by decide) rfl)
   ·
    refine AtL.yes rfl rfl rfl ?_
    refine AtL.pures hT 1 _ _ _ _ rfl ?_
    refine AtL.yes rfl rfl rfl ?_
    refine AtL.pures hT 1 _ _ _ _ rfl ?_
    refine AtL.yes rfl rfl rfl ?_
    refine AtL.pures hT 1 _ _ _ _ rfl ?_
    refine AtL.yes rfl rfl rfl ?_
    refine AtL.pures hT 1 _ _ _ _ rfl ?_
    refine AtL.pures hT 2 _ _ _ _ rfl ?_
    refine AtL.splitB (t := 20) H rfl (fun H => ?_) (fun H => ?_)
    ·
     refine AtL.noF rfl rfl rfl (by decide) rfl ?_
     refine AtL.noF rfl rfl rfl (by decide) rfl ?_
     refine AtL.pures hT 1 _ _ _ _ rfl ?_
     refine AtL.nil ?_
     exact AtE.then_n ((HK2 _ () _ H).pickP (ts := [23, 0, 1, 5, 6, 7]) (is := []) rfl rfl (by decide) rfl)
    ·
     refine AtL.yes rfl rfl rfl ?_
     refine AtL.pures hT 1 _ _ _ _ rfl ?_
     refine AtL.yes rfl rfl rfl ?_
     refine AtL.pures hT 1 _ _ _ _ rfl ?_
     refine AtL.pures hT 1 _ _ _ _ rfl ?_
     refine AtL.nil ?_
     exact AtE.then_n ((HK2 _ () _ H).pickP (ts := [23, 0, 1, 5, 6, 7]) (is := []) rfl rfl (by decide) rfl)

theorem lift_ref02uAdd (x0 : Bool × Sl × Sl) (y : Bool × Sl × Sl) (w : World) (m : Heap) (hr : Rel ⟨m, []⟩ w.heap) (S : (Bool × Sl × Sl) → Heap → Prop) (H : ref02uAdd x0 y m S) :
    Calls Tryd.prog 101 #[Value.agg (C_bool_sl_sl x0).toArray, Value.agg (C_bool_sl_sl y).toArray] w (Post ⟨w, m⟩ (fun r => Value.agg (C_bool_sl_sl r).toArray) S) := by
  refine Calls.lift (args := [Value.agg (C_bool_sl_sl x0).toArray, Value.agg (C_bool_sl_sl y).toArray]) Tryd.func101 rfl Tryd.ntmps101 (Nat.le_of_ble_eq_true rfl) hr (ref02uAdd x0 y m S) H (fun H => ?_)
  refine AtC.pick (ts := [0, 1]) rfl ?_
  unfold ref02uAdd at H
  refine AtC.seqR ?_
  refine AtL.e rfl (EffX.boxP (cs := [_, _, _]) rfl rfl rfl H) ?_
  rintro _ _ ⟨b, _, rfl, rfl, _, H⟩
  refine AtL.e rfl (EffX.boxP (cs := [_, _, _]) rfl rfl rfl H) ?_
  rintro _ _ ⟨b_1, _, rfl, rfl, _, H⟩
  refine AtL.e rfl (EffX.allocP (cs := [_, _, _]) hT rfl rfl H) ?_
  rintro _ _ ⟨b_2, _, rfl, rfl, _, H⟩
  refine AtL.nil ?_
  replace H := H.self
  refine AtE.then_n (AtE.go ?_)
  refine AtC.seqR ?_
  refine AtL.pures hT 1 _ _ _ _ rfl ?_
  refine AtL.q rfl (Quiet1.loadP (i := 2) hT rfl rfl rfl rfl rfl rfl) ?_
  refine AtL.pures hT 1 _ _ _ _ rfl ?_
  refine AtL.q rfl (Quiet1.loadP (i := 1) hT rfl rfl rfl rfl rfl rfl) ?_
  refine AtL.e rfl (EffX.call (f := 29) (sh := fun h => ref01uMul _ _ h _) (H0 := H) rfl Tryd.call29 rfl (hl := fun w m hr hw => lift_ref01uMul _ _ w m hr _ hw)) ?_
  rintro _ _ ⟨v, h0u1, rfl, rfl, H⟩
  refine AtL.pures hT 1 _ _ _ _ rfl ?_
  refine AtL.nil ?_
  refine AtE.then_n (AtE.go ?_)
  refine AtC.seqR ?_
  refine AtL.pures hT 1 _ _ _ _ rfl ?_
  refine AtL.q rfl (Quiet1.loadP (i := 1) hT rfl rfl rfl rfl rfl rfl) ?_
  refine AtL.pures hT 1 _ _ _ _ rfl ?_
  refine AtL.q rfl (Quiet1.loadP (i := 2) hT rfl rfl rfl rfl rfl rfl) ?_
  refine AtL.e rfl (EffX.call (f := 29) (sh := fun h => ref01uMul _ _ h _) (H0 := H) rfl Tryd.call29 rfl (hl := fun w m hr hw => lift_ref01uMul _ _ w m hr _ hw)) ?_
  rintro _ _ ⟨v_1, h0u2, rfl, rfl, H⟩
  refine AtL.pures hT 1 _ _ _ _ rfl ?_
  refine AtL.nil ?_
  refine AtE.then_n (AtE.go ?_)
  refine AtC.seqR ?_
  refine AtL.pures hT 1 _ _ _ _ rfl ?_
  refine AtL.q rfl (Quiet1.loadP (i := 2) hT rfl rfl rfl rfl rfl rfl) ?_
  refine AtL.pures hT 1 _ _ _ _ rfl ?_
  refine AtL.q rfl (Quiet1.loadP (i := 1) hT rfl rfl rfl rfl rfl rfl) ?_
  refine AtL.e rfl (EffX.call (f := 29) (sh := fun h => ref01uMul _ _ h _) (H0 := H) rfl Tryd.call29 rfl (hl := fun w m hr hw => lift_ref01uMul _ _ w m hr _ hw)) ?_
  rintro _ _ ⟨v_2, h0u3, rfl, rfl, H⟩
  refine AtL.pures hT 1 _ _ _ _ rfl ?_
  refine AtL.nil ?_
  refine AtE.then_n (AtE.go ?_)
  refine AtC.seq ?_
  refine AtC.seqR ?_
  refine AtL.pures hT 1 _ _ _ _ rfl ?_
  refine AtL.q rfl (Quiet1.loadP (i := 2) hT rfl rfl rfl rfl rfl rfl) ?_
  refine AtL.pures hT 1 _ _ _ _ rfl ?_
  refine AtL.q rfl (Quiet1.loadP (i := 1) hT rfl rfl rfl rfl rfl rfl) ?_
  refine AtL.pures hT 1 _ _ _ _ rfl ?_
  refine AtL.nil ?_
  refine AtE.then_n (AtE.go ?_)
  refine AtC.condB H rfl (fun H => ?_) (fun H => ?_)
  ·
   apply AtC.seqS [4, 7, 8] [[], [], [], [], [], [], [4], [4], [4, 7]] [[], [0], [], [], [2, 3], [], [0, 1, 2, 3, 4, 5], [0, 1, 2, 3, 4, 5, 6], [0, 1, 2, 3, 4, 5, 6, 7]] hmix (by kernel_rfl) [(28, _), (29, _), (30, _), (31, _), (33, _)] rfl 3 rfl
   refine Stg.go [0, 1, 2, 3, 5] [4] rfl rfl (QAll.cons (QOp.p hT rfl rfl rfl rfl rfl) (QAll.cons (QOp.q rfl rfl (Quiet1.loadP (i := 2) hT rfl rfl rfl rfl rfl rfl) rfl rfl) (QAll.cons (QOp.p hT rfl rfl rfl rfl rfl) (QAll.cons (QOp.p hT rfl rfl rfl rfl rfl) (QAll.cons (QOp.p hT rfl rfl rfl rfl rfl) QAll.nil))))) ?_
   refine EAll.cons ?_ EAll.nil
   refine EOp.e rfl rfl rfl (EffX.call (f := 27) (sh := fun h => ref01uAdd _ _ h _) (H0 := H) rfl Tryd.call27 rfl (hl := fun w m hr hw => lift_ref01uAdd _ _ w m hr _ hw)) ?_
   rintro _ _ ⟨v_3, h0u4, rfl, rfl, H⟩
   apply Stg.next [(32, _), (34, _)] rfl rfl
   refine Stg.go [0, 1, 5, 6] [7] rfl rfl (QAll.cons (QOp.p hT rfl rfl rfl rfl rfl) (QAll.cons (QOp.q rfl rfl (Quiet1.loadP (i := 2) hT rfl rfl rfl rfl rfl rfl) rfl rfl) (QAll.cons (QOp.p hT rfl rfl rfl rfl rfl) (QAll.cons (QOp.q rfl rfl (Quiet1.build (cs := [_, _, _]) hT rfl rfl rfl rfl rfl rfl) rfl rfl) QAll.nil)))) ?_
   refine EAll.cons ?_ EAll.nil
   refine EOp.e rfl rfl rfl (EffX.call (f := 79) (sh := fun h => ref02uLow _ h _) (H0 := H) rfl Tryd.call79 rfl (hl := fun w m hr hw => lift_ref02uLow _ w m hr _ hw)) ?_
   rintro _ _ ⟨v_4, h0u5, rfl, rfl, H⟩
   apply Stg.next [(35, _)] rfl rfl
   refine Stg.go [] [8] rfl rfl QAll.nil ?_
   refine EAll.cons ?_ EAll.nil
   refine EOp.e rfl rfl rfl (EffX.storeSP (i := 0) (qv := [(_, [_, _, _]), (_, [_, _, _]), (_, [_, _, _])]) hT rfl rfl rfl rfl rfl rfl rfl rfl rfl rfl) ?_
   rintro _ _ rfl
   apply Stg.next [] rfl rfl
   refine Stg.fin [] rfl rfl QAll.nil ?_
   refine AtE.then_n (AtE.go ?_)
   refine AtC.ret ?_
   refine AtE.then_r ?_
   exact AtE.retN (rs := [.cell 4 59]) rfl (ResAll.cons (ResAt.cellSP (i := 0) (l := [_, _, _]) hT rfl rfl rfl rfl rfl rfl rfl) ResAll.nil) rfl H
  ·
   refine AtC.skip ?_
   refine AtE.then_n (AtE.go ?_)
   refine AtC.seq ?_
   refine AtC.seqR ?_
   refine AtL.pures hT 2 _ _ _ _ rfl ?_
   refine AtL.e rfl (EffX.call (f := 33) (sh := fun h => ref01uCmp _ _ h _) (H0 := H) rfl Tryd.call33 rfl (hl := fun w m hr hw => lift_ref01uCmp _ _ w m hr _ hw)) ?_
   rintro _ _ ⟨v_5, h0u6, rfl, rfl, H⟩
   refine AtL.pures hT 1 _ _ _ _ rfl ?_
   refine AtL.nil ?_
   refine AtE.then_n (AtE.go ?_)
   refine AtC.condB H rfl (fun H => ?_) (fun H => ?_)
   ·
    apply AtC.seqS [4, 7, 8] [[], [], [], [], [], [], [4], [4], [4, 7]] [[], [0], [], [], [2, 3], [], [0, 1, 2, 3, 4, 5], [0, 1, 2, 3, 4, 5, 6], [0, 1, 2, 3, 4, 5, 6, 7]] hmix (by kernel_rfl) [(40, _), (41, _), (42, _), (43, _), (45, _)] rfl 3 rfl
    refine Stg.go [0, 1, 2, 3, 5] [4] rfl rfl (QAll.cons (QOp.p hT rfl rfl rfl rfl rfl) (QAll.cons (QOp.q rfl rfl (Quiet1.loadP (i := 2) hT rfl rfl rfl rfl rfl rfl) rfl rfl) (QAll.cons (QOp.p hT rfl rfl rfl rfl rfl) (QAll.cons (QOp.p hT rfl rfl rfl rfl rfl) (QAll.cons (QOp.p hT rfl rfl rfl rfl rfl) QAll.nil))))) ?_
    refine EAll.cons ?_ EAll.nil
    refine EOp.e rfl rfl rfl (EffX.call (f := 28) (sh := fun h => ref01uSub _ _ h _) (H0 := H) rfl Tryd.call28 rfl (hl := fun w m hr hw => lift_ref01uSub _ _ w m hr _ hw)) ?_
    rintro _ _ ⟨v_6, h0u7, rfl, rfl, H⟩
    apply Stg.next [(44, _), (46, _)] rfl rfl
    refine Stg.go [0, 1, 5, 6] [7] rfl rfl (QAll.cons (QOp.p hT rfl rfl rfl rfl rfl) (QAll.cons (QOp.q rfl rfl (Quiet1.loadP (i := 2) hT rfl rfl rfl rfl rfl rfl) rfl rfl) (QAll.cons (QOp.p hT rfl rfl rfl rfl rfl) (QAll.cons (QOp.q rfl rfl (Quiet1.build (cs := [_, _, _]) hT rfl rfl rfl rfl rfl rfl) rfl rfl) QAll.nil)))) ?_
    refine EAll.cons ?_ EAll.nil
    refine EOp.e rfl rfl rfl (EffX.call (f := 79) (sh := fun h => ref02uLow _ h _) (H0 := H) rfl Tryd.call79 rfl (hl := fun w m hr hw => lift_ref02uLow _ w m hr _ hw)) ?_
    rintro _ _ ⟨v_7, h0u8, rfl, rfl, H⟩
    apply Stg.next [(47, _)] rfl rfl
    refine Stg.go [] [8] rfl rfl QAll.nil ?_
    refine EAll.cons ?_ EAll.nil
    refine EOp.e rfl rfl rfl (EffX.storeSP (i := 0) (qv := [(_, [_, _, _]), (_, [_, _, _]), (_, [_, _, _])]) hT rfl rfl rfl rfl rfl rfl rfl rfl rfl rfl) ?_
    rintro _ _ rfl
    apply Stg.next [] rfl rfl
    refine Stg.fin [] rfl rfl QAll.nil ?_
    refine AtE.then_n (AtE.go ?_)
    refine AtC.ret ?_
    refine AtE.then_r ?_
    exact AtE.retN (rs := [.cell 4 59]) rfl (ResAll.cons (ResAt.cellSP (i := 0) (l := [_, _, _]) hT rfl rfl rfl rfl rfl rfl rfl) ResAll.nil) rfl H
   ·
    refine AtC.skip ?_
    refine AtE.then_n (AtE.go ?_)
    apply AtC.seqS [4, 7, 8] [[], [], [], [], [], [], [4], [4], [4, 7]] [[], [0], [], [], [2, 3], [], [0, 1, 2, 3, 4, 5], [0, 1, 2, 3, 4, 5, 6], [0, 1, 2, 3, 4, 5, 6, 7]] hmix (by kernel_rfl) [(48, _), (49, _), (50, _), (51, _), (53, _)] rfl 3 rfl
    refine Stg.go [0, 1, 2, 3, 5] [4] rfl rfl (QAll.cons (QOp.p hT rfl rfl rfl rfl rfl) (QAll.cons (QOp.q rfl rfl (Quiet1.loadP (i := 1) hT rfl rfl rfl rfl rfl rfl) rfl rfl) (QAll.cons (QOp.p hT rfl rfl rfl rfl rfl) (QAll.cons (QOp.p hT rfl rfl rfl rfl rfl) (QAll.cons (QOp.p hT rfl rfl rfl rfl rfl) QAll.nil))))) ?_
    refine EAll.cons ?_ EAll.nil
    refine EOp.e rfl rfl rfl (EffX.call (f := 28) (sh := fun h => ref01uSub _ _ h _) (H0 := H) rfl Tryd.call28 rfl (hl := fun w m hr hw => lift_ref01uSub _ _ w m hr _ hw)) ?_
    rintro _ _ ⟨v_8, h0u9, rfl, rfl, H⟩
    apply Stg.next [(52, _), (54, _)] rfl rfl
    refine Stg.go [0, 1, 5, 6] [7] rfl rfl (QAll.cons (QOp.p hT rfl rfl rfl rfl rfl) (QAll.cons (QOp.q rfl rfl (Quiet1.loadP (i := 1) hT rfl rfl rfl rfl rfl rfl) rfl rfl) (QAll.cons (QOp.p hT rfl rfl rfl rfl rfl) (QAll.cons (QOp.q rfl rfl (Quiet1.build (cs := [_, _, _]) hT rfl rfl rfl rfl rfl rfl) rfl rfl) QAll.nil)))) ?_
    refine EAll.cons ?_ EAll.nil
    refine EOp.e rfl rfl rfl (EffX.call (f := 79) (sh := fun h => ref02uLow _ h _) (H0 := H) rfl Tryd.call79 rfl (hl := fun w m hr hw => lift_ref02uLow _ w m hr _ hw)) ?_
    rintro _ _ ⟨v_9, h0u10, rfl, rfl, H⟩
    apply Stg.next [(55, _)] rfl rfl
    refine Stg.go [] [8] rfl rfl QAll.nil ?_
    refine EAll.cons ?_ EAll.nil
    refine EOp.e rfl rfl rfl (EffX.storeSP (i := 0) (qv := [(_, [_, _, _]), (_, [_, _, _]), (_, [_, _, _])]) hT rfl rfl rfl rfl rfl rfl rfl rfl rfl rfl) ?_
    rintro _ _ rfl
    apply Stg.next [] rfl rfl
    refine Stg.fin [] rfl rfl QAll.nil ?_
    refine AtE.then_n (AtE.go ?_)
    refine AtC.ret ?_
    exact AtE.retN (rs := [.cell 4 59]) rfl (ResAll.cons (ResAt.cellSP (i := 0) (l := [_, _, _]) hT rfl rfl rfl rfl rfl rfl rfl) ResAll.nil) rfl H

theorem lift_ref02uCmp (x0 : Bool × Sl × Sl) (y : Bool × Sl × Sl) (w : World) (m : Heap) (hr : Rel ⟨m, []⟩ w.heap) (S : Int → Heap → Prop) (H : ref02uCmp x0 y m S) :
    Calls Tryd.prog 67 #[Value.agg (C_bool_sl_sl x0).toArray, Value.agg (C_bool_sl_sl y).toArray] w (Post ⟨w, m⟩ (Value.int .i64) S) := by
  refine Calls.lift (args := [Value.agg (C_bool_sl_sl x0).toArray, Value.agg (C_bool_sl_sl y).toArray]) Tryd.func67 rfl Tryd.ntmps67 (Nat.le_of_ble_eq_true rfl) hr (ref02uCmp x0 y m S) H (fun H => ?_)
  refine AtC.pick (ts := [0, 1]) rfl ?_
  unfold ref02uCmp at H
  refine AtC.seqR ?_
  refine AtL.e rfl (EffX.boxP (cs := [_, _, _]) rfl rfl rfl H) ?_
  rintro _ _ ⟨b, _, rfl, rfl, _, H⟩
  refine AtL.e rfl (EffX.boxP (cs := [_, _, _]) rfl rfl rfl H) ?_
  rintro _ _ ⟨b_1, _, rfl, rfl, _, H⟩
  replace H := H.self
  refine AtL.pures hT 1 _ _ _ _ rfl ?_
  refine AtL.nil ?_
  refine AtE.then_n (AtE.go ?_)
  refine AtC.joinSeq (β := Nat) (fun (t0 : Bool × Sl × Sl) (bb : Nat) => [(5, Value.pointer (some ⟨bb, 0, none⟩))]) (fun (t0 : Bool × Sl × Sl) (bb : Nat) => [(bb, [Value.bool t0.1, Sl.toV t0.2.1, Sl.toV t0.2.2])]) [] [] H (by exact rfl) (by exact rfl) (fun t0 bb h0u1 H => ?_) (fun J1 H HK1 => ?_)
  ·
   refine AtC.seq ?_
   refine AtC.seqR ?_
   refine AtL.pures hT 1 _ _ _ _ rfl ?_
   refine AtL.q rfl (Quiet1.loadP (i := 0) hT rfl rfl rfl rfl rfl rfl) ?_
   refine AtL.pures hT 2 _ _ _ _ rfl ?_
   refine AtL.nil ?_
   refine AtE.then_n (AtE.go ?_)
   refine AtC.condB H rfl (fun H => ?_) (fun H => ?_)
   ·
    refine AtC.seqR ?_
    refine AtL.pures hT 1 _ _ _ _ rfl ?_
    refine AtL.nil ?_
    refine AtE.then_n (AtE.go ?_)
    refine AtC.ret ?_
    refine AtE.then_r ?_
    exact AtE.retN (rs := [.tmp 4]) rfl (ResAll.cons (ResAt.tmp rfl) ResAll.nil) rfl H
   ·
    refine AtC.skip ?_
    refine AtE.then_n (AtE.go ?_)
    refine AtC.seq ?_
    refine AtC.seqR ?_
    refine AtL.pures hT 1 _ _ _ _ rfl ?_
    refine AtL.q rfl (Quiet1.loadP (i := 0) hT rfl rfl rfl rfl rfl rfl) ?_
    refine AtL.nil ?_
    refine AtE.then_n (AtE.go ?_)
    refine AtC.condB H rfl (fun H => ?_) (fun H => ?_)
    ·
     refine AtC.seqR ?_
     refine AtL.pures hT 1 _ _ _ _ rfl ?_
     refine AtL.nil ?_
     refine AtE.then_n (AtE.go ?_)
     refine AtC.ret ?_
     refine AtE.then_r ?_
     exact AtE.retN (rs := [.tmp 4]) rfl (ResAll.cons (ResAt.tmp rfl) ResAll.nil) rfl H
    ·
     refine AtC.skip ?_
     refine AtE.then_n (AtE.go ?_)
     refine AtC.seqR ?_
     refine AtL.pures hT 1 _ _ _ _ rfl ?_
     refine AtL.nil ?_
     refine AtE.then_n (AtE.go ?_)
     refine AtC.ret ?_
     exact AtE.retN (rs := [.tmp 4]) rfl (ResAll.cons (ResAt.tmp rfl) ResAll.nil) rfl H
  ·
   apply AtC.stages [2, 3, 4, 5] [[], [], [], [2], [], [2, 3, 4]] [[], [], [1], [0, 1, 2], [], [0, 1, 2, 3, 4]] hmix (by kernel_rfl) [(6, _), (7, _)] rfl 4 rfl
   refine Stg.go [0, 1] [2, 4] rfl rfl (QAll.cons (QOp.q rfl rfl (Quiet1.loadSP (i := 1) (l := [_, _, _]) hT rfl rfl rfl rfl rfl rfl rfl rfl) rfl rfl) (QAll.cons (QOp.q rfl rfl (Quiet1.loadSP (i := 0) (l := [_, _, _]) hT rfl rfl rfl rfl rfl rfl rfl rfl) rfl rfl) QAll.nil)) ?_
   refine EAll.cons ?_ ?_
   ·
    replace H := H.self
    refine EOp.e rfl rfl rfl (EffX.call (f := 102) (sh := fun h => ref02uNeg _ h _) (H0 := H) rfl Tryd.call102 rfl (hl := fun w m hr hw => lift_ref02uNeg _ w m hr _ hw)) ?_
    rintro _ _ ⟨v, h0u3, rfl, rfl, H⟩
    apply Stg.next [(8, _)] rfl rfl
    refine Stg.go [0] [3, 4] rfl rfl (QAll.cons (QOp.q rfl rfl (Quiet1.loadSP (i := 1) (l := [_, _, _]) hT rfl rfl rfl rfl rfl rfl rfl rfl) rfl rfl) QAll.nil) ?_
    refine EAll.cons ?_ ?_
    ·
     replace H := H.self
     refine EOp.e rfl rfl rfl (EffX.call (f := 101) (sh := fun h => ref02uAdd _ _ h _) (H0 := H) rfl Tryd.call101 rfl (hl := fun w m hr hw => lift_ref02uAdd _ _ w m hr _ hw)) ?_
     rintro _ _ ⟨v_1, h0u5, rfl, rfl, H⟩
     apply Stg.next [(9, _)] rfl rfl
     refine Stg.go [] [4] rfl rfl QAll.nil ?_
     refine EAll.cons ?_ EAll.nil
     refine EOp.e rfl rfl rfl (EffX.allocP (cs := [_, _, _]) hT rfl rfl H) ?_
     rintro _ _ ⟨b_2, _, rfl, rfl, he1, H⟩
     apply Stg.next [(5, _)] rfl rfl
     refine Stg.go [] [5] rfl rfl QAll.nil ?_
     refine EAll.cons ?_ EAll.nil
     refine EOp.e rfl rfl rfl (EffX.storeSP (i := 0) (qv := [(_, [_, _, _]), (_, [_, _, _]), (_, [_, _, _])]) hT rfl rfl rfl rfl rfl rfl rfl rfl rfl rfl) ?_
     rintro _ _ rfl
     apply Stg.next [] rfl rfl
     refine Stg.fin [] rfl rfl QAll.nil ?_
     replace H := H.self
     exact AtE.then_n ((HK1 _ b_2 _ H).pickP (ts := [5]) (is := [0]) rfl rfl (by decide) rfl)
    refine EAll.cons ?_ EAll.nil
    refine EOp.e rfl rfl rfl (EffX.allocP (cs := [_, _, _]) hT rfl rfl H) ?_
    rintro _ _ ⟨b_3, _, rfl, rfl, he2, H⟩
    apply Stg.next [(5, _)] rfl rfl
    refine Stg.go [0] [3] rfl rfl (QAll.cons (QOp.q rfl rfl (Quiet1.loadSP (i := 2) (l := [_, _, _]) hT rfl rfl rfl rfl rfl rfl rfl rfl) rfl rfl) QAll.nil) ?_
    refine EAll.cons ?_ EAll.nil
    replace H := H.self
    refine EOp.e rfl rfl rfl (EffX.call (f := 101) (sh := fun h => ref02uAdd _ _ h _) (H0 := H) rfl Tryd.call101 rfl (hl := fun w m hr hw => lift_ref02uAdd _ _ w m hr _ hw)) ?_
    rintro _ _ ⟨v_2, h0u7, rfl, rfl, H⟩
    apply Stg.next [(9, _)] rfl rfl
    refine Stg.go [] [5] rfl rfl QAll.nil ?_
    refine EAll.cons ?_ EAll.nil
    refine EOp.e rfl rfl rfl (EffX.storeSP (i := 0) (qv := [(_, [_, _, _]), (_, [_, _, _]), (_, [_, _, _])]) hT rfl rfl rfl rfl rfl rfl rfl rfl rfl rfl) ?_
    rintro _ _ rfl
    apply Stg.next [] rfl rfl
    refine Stg.fin [] rfl rfl QAll.nil ?_
    replace H := H.self
    exact AtE.then_n ((HK1 _ b_3 _ H).pickP (ts := [5]) (is := [0]) rfl rfl (by decide) rfl)
   refine EAll.cons ?_ EAll.nil
   refine EOp.e rfl rfl rfl (EffX.allocP (cs := [_, _, _]) hT rfl rfl H) ?_
   rintro _ _ ⟨b_4, _, rfl, rfl, he3, H⟩
   apply Stg.next [(5, _)] rfl rfl
   refine Stg.go [0, 1] [2] rfl rfl (QAll.cons (QOp.q rfl rfl (Quiet1.loadSP (i := 2) (l := [_, _, _]) hT rfl rfl rfl rfl rfl rfl rfl rfl) rfl rfl) (QAll.cons (QOp.q rfl rfl (Quiet1.loadSP (i := 1) (l := [_, _, _]) hT rfl rfl rfl rfl rfl rfl rfl rfl) rfl rfl) QAll.nil)) ?_
   refine EAll.cons ?_ EAll.nil
   replace H := H.self
   refine EOp.e rfl rfl rfl (EffX.call (f := 102) (sh := fun h => ref02uNeg _ h _) (H0 := H) rfl Tryd.call102 rfl (hl := fun w m hr hw => lift_ref02uNeg _ w m hr _ hw)) ?_
   rintro _ _ ⟨v_3, h0u9, rfl, rfl, H⟩
   apply Stg.next [(8, _)] rfl rfl
   refine Stg.go [0] [3] rfl rfl (QAll.cons (QOp.q rfl rfl (Quiet1.loadSP (i := 2) (l := [_, _, _]) hT rfl rfl rfl rfl rfl rfl rfl rfl) rfl rfl) QAll.nil) ?_
   refine EAll.cons ?_ EAll.nil
   replace H := H.self
   refine EOp.e rfl rfl rfl (EffX.call (f := 101) (sh := fun h => ref02uAdd _ _ h _) (H0 := H) rfl Tryd.call101 rfl (hl := fun w m hr hw => lift_ref02uAdd _ _ w m hr _ hw)) ?_
   rintro _ _ ⟨v_4, h0u11, rfl, rfl, H⟩
   apply Stg.next [(9, _)] rfl rfl
   refine Stg.go [] [5] rfl rfl QAll.nil ?_
   refine EAll.cons ?_ EAll.nil
   refine EOp.e rfl rfl rfl (EffX.storeSP (i := 0) (qv := [(_, [_, _, _]), (_, [_, _, _]), (_, [_, _, _])]) hT rfl rfl rfl rfl rfl rfl rfl rfl rfl rfl) ?_
   rintro _ _ rfl
   apply Stg.next [] rfl rfl
   refine Stg.fin [] rfl rfl QAll.nil ?_
   replace H := H.self
   exact AtE.then_n ((HK1 _ b_4 _ H).pickP (ts := [5]) (is := [0]) rfl rfl (by decide) rfl)

theorem lift_ref02uDiv (x0 : Bool × Sl × Sl) (y : Bool × Sl × Sl) (w : World) (m : Heap) (hr : Rel ⟨m, []⟩ w.heap) (S : (Bool × Sl × Sl) → Heap → Prop) (H : ref02uDiv x0 y m S) :
    Calls Tryd.prog 109 #[Value.agg (C_bool_sl_sl x0).toArray, Value.agg (C_bool_sl_sl y).toArray] w (Post ⟨w, m⟩ (fun r => Value.agg (C_bool_sl_sl r).toArray) S) := by
  refine Calls.lift (args := [Value.agg (C_bool_sl_sl x0).toArray, Value.agg (C_bool_sl_sl y).toArray]) Tryd.func109 rfl Tryd.ntmps109 (Nat.le_of_ble_eq_true rfl) hr (ref02uDiv x0 y m S) H (fun H => ?_)
  refine AtC.pick (ts := [0, 1]) rfl ?_
  unfold ref02uDiv at H
  refine AtC.seqR ?_
  refine AtL.e rfl (EffX.boxP (cs := [_, _, _]) rfl rfl rfl H) ?_
  rintro _ _ ⟨b, _, rfl, rfl, _, H⟩
  refine AtL.e rfl (EffX.boxP (cs := [_, _, _]) rfl rfl rfl H) ?_
  rintro _ _ ⟨b_1, _, rfl, rfl, _, H⟩
  refine AtL.e rfl (EffX.allocP (cs := [_, _, _]) hT rfl rfl H) ?_
  rintro _ _ ⟨b_2, _, rfl, rfl, _, H⟩
  refine AtL.nil ?_
  replace H := H.self
  refine AtE.then_n (AtE.go ?_)
  refine AtC.seq ?_
  refine AtC.seqR ?_
  refine AtL.pures hT 1 _ _ _ _ rfl ?_
  refine AtL.q rfl (Quiet1.loadP (i := 1) hT rfl rfl rfl rfl rfl rfl) ?_
  refine AtL.pures hT 2 _ _ _ _ rfl ?_
  refine AtL.nil ?_
  refine AtE.then_n (AtE.go ?_)
  refine AtC.condB H rfl (fun H => ?_) (fun H => ?_)
  ·
   refine AtC.seqR ?_
   refine AtL.e rfl (EffX.call (f := 75) (sh := fun h => ref02uInt _ h _) (H0 := H) rfl Tryd.call75 rfl (hl := fun w m hr hw => lift_ref02uInt _ w m hr _ hw)) ?_
   rintro _ _ ⟨v, h0u1, rfl, rfl, H⟩
   refine AtL.e rfl (EffX.storeSP (i := 0) (qv := [(_, [_, _, _]), (_, [_, _, _]), (_, [_, _, _])]) hT rfl rfl rfl rfl rfl rfl rfl rfl rfl rfl) ?_
   rintro _ _ rfl
   refine AtL.nil ?_
   refine AtE.then_n (AtE.go ?_)
   refine AtC.ret ?_
   refine AtE.then_r ?_
   exact AtE.retN (rs := [.cell 4 59]) rfl (ResAll.cons (ResAt.cellSP (i := 0) (l := [_, _, _]) hT rfl rfl rfl rfl rfl rfl rfl) ResAll.nil) rfl H
  ·
   refine AtC.skip ?_
   refine AtE.then_n (AtE.go ?_)
   apply AtC.seqS [9, 14, 16, 17] [[], [], [], [], [], [], [], [], [], [], [], [], [], [], [9], [9, 14], [9, 14], [9, 14, 16]] [[], [0], [], [2], [0, 1, 2, 3], [], [5], [], [7], [5, 6, 7, 8], [], [10], [], [12], [5, 6, 7, 8, 9, 10, 11, 12, 13], [0, 1, 2, 3, 4, 5, 6, 7, 8, 9, 10, 11, 12, 13, 14], [0, 1, 2, 3, 4, 5, 6, 7, 8, 9, 10, 11, 12, 13, 14, 15], [0, 1, 2, 3, 4, 5, 6, 7, 8, 9, 10, 11, 12, 13, 14, 15, 16]] hmix (by kernel_rfl) [(10, _), (11, _), (12, _), (13, _), (14, _), (15, _), (16, _), (17, _), (18, _), (20, _), (21, _), (22, _), (23, _)] rfl 4 rfl
   refine Stg.go [0, 1, 2, 3, 4, 5, 6, 7, 8, 10, 11, 12, 13] [9] rfl rfl (QAll.cons (QOp.p hT rfl rfl rfl rfl rfl) (QAll.cons (QOp.q rfl rfl (Quiet1.loadP (i := 2) hT rfl rfl rfl rfl rfl rfl) rfl rfl) (QAll.cons (QOp.p hT rfl rfl rfl rfl rfl) (QAll.cons (QOp.q rfl rfl (Quiet1.loadP (i := 1) hT rfl rfl rfl rfl rfl rfl) rfl rfl) (QAll.cons (QOp.p hT rfl rfl rfl rfl rfl) (QAll.cons (QOp.p hT rfl rfl rfl rfl rfl) (QAll.cons (QOp.q rfl rfl (Quiet1.loadP (i := 2) hT rfl rfl rfl rfl rfl rfl) rfl rfl) (QAll.cons (QOp.p hT rfl rfl rfl rfl rfl) (QAll.cons (QOp.q rfl rfl (Quiet1.loadP (i := 1) hT rfl rfl rfl rfl rfl rfl) rfl rfl) (QAll.cons (QOp.p hT rfl rfl rfl rfl rfl) (QAll.cons (QOp.q rfl rfl (Quiet1.loadP (i := 2) hT rfl rfl rfl rfl rfl rfl) rfl rfl) (QAll.cons (QOp.p hT rfl rfl rfl rfl rfl) (QAll.cons (QOp.q rfl rfl (Quiet1.loadP (i := 1) hT rfl rfl rfl rfl rfl rfl) rfl rfl) QAll.nil))))))))))))) ?_
   refine EAll.cons ?_ EAll.nil
   refine EOp.e rfl rfl rfl (EffX.call (f := 29) (sh := fun h => ref01uMul _ _ h _) (H0 := H) rfl Tryd.call29 rfl (hl := fun w m hr hw => lift_ref01uMul _ _ w m hr _ hw)) ?_
   rintro _ _ ⟨v_1, h0u2, rfl, rfl, H⟩
   apply Stg.next [(19, _)] rfl rfl
   refine Stg.go [0, 1, 2, 3, 4, 10, 11, 12, 13] [14] rfl rfl (QAll.cons (QOp.p hT rfl rfl rfl rfl rfl) (QAll.cons (QOp.q rfl rfl (Quiet1.loadP (i := 2) hT rfl rfl rfl rfl rfl rfl) rfl rfl) (QAll.cons (QOp.p hT rfl rfl rfl rfl rfl) (QAll.cons (QOp.q rfl rfl (Quiet1.loadP (i := 1) hT rfl rfl rfl rfl rfl rfl) rfl rfl) (QAll.cons (QOp.p hT rfl rfl rfl rfl rfl) (QAll.cons (QOp.p hT rfl rfl rfl rfl rfl) (QAll.cons (QOp.q rfl rfl (Quiet1.loadP (i := 2) hT rfl rfl rfl rfl rfl rfl) rfl rfl) (QAll.cons (QOp.p hT rfl rfl rfl rfl rfl) (QAll.cons (QOp.q rfl rfl (Quiet1.loadP (i := 1) hT rfl rfl rfl rfl rfl rfl) rfl rfl) QAll.nil))))))))) ?_
   refine EAll.cons ?_ EAll.nil
   refine EOp.e rfl rfl rfl (EffX.call (f := 29) (sh := fun h => ref01uMul _ _ h _) (H0 := H) rfl Tryd.call29 rfl (hl := fun w m hr hw => lift_ref01uMul _ _ w m hr _ hw)) ?_
   rintro _ _ ⟨v_2, h0u3, rfl, rfl, H⟩
   apply Stg.next [(24, _), (25, _)] rfl rfl
   refine Stg.go [0, 1, 2, 3, 4, 15] [16] rfl rfl (QAll.cons (QOp.p hT rfl rfl rfl rfl rfl) (QAll.cons (QOp.q rfl rfl (Quiet1.loadP (i := 2) hT rfl rfl rfl rfl rfl rfl) rfl rfl) (QAll.cons (QOp.p hT rfl rfl rfl rfl rfl) (QAll.cons (QOp.q rfl rfl (Quiet1.loadP (i := 1) hT rfl rfl rfl rfl rfl rfl) rfl rfl) (QAll.cons (QOp.p hT rfl rfl rfl rfl rfl) (QAll.cons (QOp.q rfl rfl (Quiet1.build (cs := [_, _, _]) hT rfl rfl rfl rfl rfl rfl) rfl rfl) QAll.nil)))))) ?_
   refine EAll.cons ?_ EAll.nil
   refine EOp.e rfl rfl rfl (EffX.call (f := 79) (sh := fun h => ref02uLow _ h _) (H0 := H) rfl Tryd.call79 rfl (hl := fun w m hr hw => lift_ref02uLow _ w m hr _ hw)) ?_
   rintro _ _ ⟨v_3, h0u4, rfl, rfl, H⟩
   apply Stg.next [(26, _)] rfl rfl
   refine Stg.go [] [17] rfl rfl QAll.nil ?_
   refine EAll.cons ?_ EAll.nil
   refine EOp.e rfl rfl rfl (EffX.storeSP (i := 0) (qv := [(_, [_, _, _]), (_, [_, _, _]), (_, [_, _, _])]) hT rfl rfl rfl rfl rfl rfl rfl rfl rfl rfl) ?_
   rintro _ _ rfl
   apply Stg.next [] rfl rfl
   refine Stg.fin [] rfl rfl QAll.nil ?_
   refine AtE.then_n (AtE.go ?_)
   refine AtC.ret ?_
   exact AtE.retN (rs := [.cell 4 59]) rfl (ResAll.cons (ResAt.cellSP (i := 0) (l := [_, _, _]) hT rfl rfl rfl rfl rfl rfl rfl) ResAll.nil) rfl H

theorem lift_ref03uSmall (pairs : Sl) (w : World) (m : Heap) (hr : Rel ⟨m, []⟩ w.heap) (S : (Bool × Sl × Sl) → Heap → Prop) (H : ref03uSmall pairs m S) :
    Calls Tryd.prog 62 #[Sl.toV pairs] w (Post ⟨w, m⟩ (fun r => Value.agg (C_bool_sl_sl r).toArray) S) := by
  refine Calls.lift (args := [Sl.toV pairs]) Tryd.func62 rfl Tryd.ntmps62 (Nat.le_of_ble_eq_true rfl) hr (ref03uSmall pairs m S) H (fun H => ?_)
  refine AtC.pick (ts := [0]) rfl ?_
  unfold ref03uSmall at H
  refine AtC.seqR ?_
  refine AtL.e rfl (EffX.allocP (cs := [_, _, _]) hT rfl rfl H) ?_
  rintro _ _ ⟨b, _, rfl, rfl, _, H⟩
  refine AtL.nil ?_
  replace H := H.self
  refine AtE.then_n (AtE.go ?_)
  refine AtC.seqR ?_
  refine AtL.e rfl (EffX.call (f := 75) (sh := fun h => ref02uInt _ h _) (H0 := H) rfl Tryd.call75 rfl (hl := fun w m hr hw => lift_ref02uInt _ w m hr _ hw)) ?_
  rintro _ _ ⟨v, h0u1, rfl, rfl, H⟩
  refine AtL.e rfl (EffX.allocP (cs := [_, _, _]) hT rfl rfl H) ?_
  rintro _ _ ⟨b_1, _, rfl, rfl, _, H⟩
  replace H := H.self
  refine AtL.e rfl (EffX.storeSP (i := 0) (qv := [(_, [_, _, _]), (_, [_, _, _])]) hT rfl rfl rfl rfl rfl rfl rfl rfl rfl rfl) ?_
  rintro _ _ rfl
  refine AtL.nil ?_
  refine AtE.then_n (AtE.go ?_)
  refine AtC.seq ?_
  refine AtC.seqR ?_
  refine AtL.pures hT 1 _ _ _ _ rfl ?_
  refine AtL.nil ?_
  refine AtE.then_n (AtE.go ?_)
  refine AtC.block ?_
  refine AtC.loopM (fun (s0 : Int × Bool × Sl × Sl) => [(4, Value.int .i64 s0.1)]) (fun (s0 : Int × Bool × Sl × Sl) => [(b_1, [Value.bool s0.2.1, Sl.toV s0.2.2.1, Sl.toV s0.2.2.2])]) [0, 2, 3] [4, 0, 2, 3] [1] [0, 1] H (by exact rfl) (by exact rfl) (by exact rfl) (by decide) (by exact rfl) (fun Kp1 s0 h0u3 H Q1 HK1 => ?_)
  refine AtC.seq ?_
  refine AtC.seqR ?_
  refine AtL.pures hT 4 _ _ _ _ rfl ?_
  refine AtL.nil ?_
  refine AtE.then_n (AtE.go ?_)
  refine AtC.condB H rfl (fun H => ?_) (fun H => ?_)
  ·
   refine AtC.skip ?_
   refine AtE.then_n (AtE.go ?_)
   refine AtC.joinSeq (β := Unit) (fun (t0 : Bool × Sl × Sl) (bb : Unit) => []) (fun (t0 : Bool × Sl × Sl) (bb : Unit) => [(b_1, [Value.bool t0.1, Sl.toV t0.2.1, Sl.toV t0.2.2])]) [0, 2, 3, 4] [1] H (by exact rfl) (by exact rfl) (fun t0 bb h0u4 H => ?_) (fun J2 H HK2 => ?_)
   ·
    refine AtC.region ?_
    refine AtL.pures hT 3 _ _ _ _ rfl ?_
    replace H := H _ rfl
    refine AtL.nil ?_
    exact AtE.then_n ((HK1 _ _ H).pickP (ts := [4, 0, 2, 3]) (is := [0, 1]) rfl rfl (by decide) rfl)
   ·
    refine AtC.block ?_
    refine AtC.joinSeq (β := Nat) (fun (t0u1 : Bool × Sl × Sl) (bb_1 : Nat) => [(5, Value.pointer (some ⟨bb_1, 0, none⟩))]) (fun (t0u1 : Bool × Sl × Sl) (bb_1 : Nat) => [(bb_1, [Value.bool t0u1.1, Sl.toV t0u1.2.1, Sl.toV t0u1.2.2])]) [0, 2, 3, 4] [0, 1] H (by exact rfl) (by exact rfl) (fun t0u1 bb_1 h0u5 H => ?_) (fun J3 H HK3 => ?_)
    ·
     refine AtC.joinSeq (β := Nat) (fun (t0u2 : Bool × Sl × Sl) (bb_2 : Nat) => [(6, Value.pointer (some ⟨bb_2, 0, none⟩))]) (fun (t0u2 : Bool × Sl × Sl) (bb_2 : Nat) => [(bb_2, [Value.bool t0u2.1, Sl.toV t0u2.2.1, Sl.toV t0u2.2.2])]) [0, 2, 3, 4, 5] [0, 1, 2] H (by exact rfl) (by exact rfl) (fun t0u2 bb_2 h0u17 H => ?_) (fun J15 H HK15 => ?_)
     ·
      refine AtC.seqR ?_
      refine AtL.e rfl (EffX.call (f := 75) (sh := fun h => ref02uInt _ h _) (H0 := H) rfl Tryd.call75 rfl (hl := fun w m hr hw => lift_ref02uInt _ w m hr _ hw)) ?_
      rintro _ _ ⟨v_15, h0u29, rfl, rfl, H⟩
      refine AtL.e rfl (EffX.allocP (cs := [_, _, _]) hT rfl rfl H) ?_
      rintro _ _ ⟨b_8, _, rfl, rfl, _, H⟩
      replace H := H.self
      refine AtL.e rfl (EffX.storeSP (i := 0) (qv := [(_, [_, _, _]), (_, [_, _, _]), (_, [_, _, _]), (_, [_, _, _]), (_, [_, _, _])]) hT rfl rfl rfl rfl rfl rfl rfl rfl rfl rfl) ?_
      rintro _ _ rfl
      refine AtL.nil ?_
      refine AtE.then_n (AtE.go ?_)
      refine AtC.joinSeq (β := Unit) (fun (t0u3 : Bool) (bb_3 : Unit) => [(54, Value.bool t0u3)]) (fun (t0u3 : Bool) (bb_3 : Unit) => []) [0, 2, 3, 4, 5, 6] [1, 2, 3, 4] H (by exact rfl) (by exact rfl) (fun t0u3 bb_3 h0u31 H => ?_) (fun J27 H HK27 => ?_)
      ·
       refine AtC.condB H rfl (fun H => ?_) (fun H => ?_)
       ·
        refine AtC.seqR ?_
        refine AtL.q rfl (Quiet1.loadSP (i := 1) (l := [_, _, _]) hT rfl rfl rfl rfl rfl rfl rfl rfl) ?_
        refine AtL.q rfl (Quiet1.loadSP (i := 0) (l := [_, _, _]) hT rfl rfl rfl rfl rfl rfl rfl rfl) ?_
        refine AtL.e rfl (EffX.call (f := 109) (sh := fun h => ref02uDiv _ _ h _) (H0 := H) rfl Tryd.call109 rfl (hl := fun w m hr hw => lift_ref02uDiv _ _ w m hr _ hw)) ?_
        rintro _ _ ⟨v_18, h0u34, rfl, rfl, H⟩
        refine AtL.e rfl (EffX.allocP (cs := [_, _, _]) hT rfl rfl H) ?_
        rintro _ _ ⟨b_9, _, rfl, rfl, _, H⟩
        replace H := H.self
        refine AtL.e rfl (EffX.storeSP (i := 0) (qv := [(_, [_, _, _]), (_, [_, _, _]), (_, [_, _, _]), (_, [_, _, _]), (_, [_, _, _])]) hT rfl rfl rfl rfl rfl rfl rfl rfl rfl rfl) ?_
        rintro _ _ rfl
        refine AtL.nil ?_
        refine AtE.then_n (AtE.go ?_)
        refine AtC.seqR ?_
        refine AtL.q rfl (Quiet1.loadSP (i := 0) (l := [_, _, _]) hT rfl rfl rfl rfl rfl rfl rfl rfl) ?_
        refine AtL.q rfl (Quiet1.loadSP (i := 3) (l := [_, _, _]) hT rfl rfl rfl rfl rfl rfl rfl rfl) ?_
        refine AtL.e rfl (EffX.call (f := 67) (sh := fun h => ref02uCmp _ _ h _) (H0 := H) rfl Tryd.call67 rfl (hl := fun w m hr hw => lift_ref02uCmp _ _ w m hr _ hw)) ?_
        rintro _ _ ⟨v_19, h0u36, rfl, rfl, H⟩
        refine AtL.pures hT 1 _ _ _ _ rfl ?_
        refine AtL.nil ?_
        refine AtE.then_n (AtE.go ?_)
        refine AtC.condB H rfl (fun H => ?_) (fun H => ?_)
        ·
         refine AtC.region ?_
         refine AtL.q rfl (Quiet1.loadSP (i := 0) (l := [_, _, _]) hT rfl rfl rfl rfl rfl rfl rfl rfl) ?_
         refine AtL.e rfl (EffX.storeSP (i := 3) (qv := [(_, [_, _, _]), (_, [_, _, _]), (_, [_, _, _]), (_, [_, _, _]), (_, [_, _, _])]) hT rfl rfl rfl rfl rfl rfl rfl rfl rfl rfl) ?_
         rintro _ _ rfl
         refine AtL.nil ?_
         refine AtE.blk_n ?_
         exact AtE.then_n ((HK2 _ () _ H).pickP (ts := [0, 2, 3, 4]) (is := [3, 4]) rfl rfl (by decide) rfl)
        ·
         refine AtC.skip ?_
         refine AtE.blk_n ?_
         exact AtE.then_n ((HK2 _ () _ H).pickP (ts := [0, 2, 3, 4]) (is := [3, 4]) rfl rfl (by decide) rfl)
       ·
        refine AtC.skip ?_
        refine AtE.blk_n ?_
        exact AtE.then_n ((HK2 _ () _ H).pickP (ts := [0, 2, 3, 4]) (is := [2, 3]) rfl rfl (by decide) rfl)
      ·
       refine AtC.region ?_
       refine AtL.q rfl (Quiet1.loadSP (i := 2) (l := [_, _, _]) hT rfl rfl rfl rfl rfl rfl rfl rfl) ?_
       refine AtL.q rfl (Quiet1.loadSP (i := 0) (l := [_, _, _]) hT rfl rfl rfl rfl rfl rfl rfl rfl) ?_
       refine AtL.e rfl (EffX.call (f := 67) (sh := fun h => ref02uCmp _ _ h _) (H0 := H) rfl Tryd.call67 rfl (hl := fun w m hr hw => lift_ref02uCmp _ _ w m hr _ hw)) ?_
       rintro _ _ ⟨v_16, h0u32, rfl, rfl, H⟩
       refine AtL.pures hT 2 _ _ _ _ rfl ?_
       refine AtL.splitB (t := 49) H rfl (fun H => ?_) (fun H => ?_)
       ·
        refine AtL.yes rfl rfl rfl ?_
        refine AtL.q rfl (Quiet1.loadSP (i := 1) (l := [_, _, _]) hT rfl rfl rfl rfl rfl rfl rfl rfl) ?_
        refine AtL.yes rfl rfl rfl ?_
        refine AtL.q rfl (Quiet1.loadSP (i := 0) (l := [_, _, _]) hT rfl rfl rfl rfl rfl rfl rfl rfl) ?_
        refine AtL.yes rfl rfl rfl ?_
        refine AtL.e rfl (EffX.call (f := 67) (sh := fun h => ref02uCmp _ _ h _) (H0 := H) rfl Tryd.call67 rfl (hl := fun w m hr hw => lift_ref02uCmp _ _ w m hr _ hw)) ?_
        rintro _ _ ⟨v_17, h0u33, rfl, rfl, H⟩
        refine AtL.yes rfl rfl rfl ?_
        refine AtL.pures hT 1 _ _ _ _ rfl ?_
        refine AtL.pures hT 1 _ _ _ _ rfl ?_
        refine AtL.nil ?_
        exact AtE.then_n ((HK27 _ () _ H).pickP (ts := [54, 0, 2, 3, 4, 5, 6]) (is := [1, 2, 3, 4]) rfl rfl (by decide) rfl)
       ·
        refine AtL.noF rfl rfl rfl (by decide) rfl ?_
        refine AtL.noF rfl rfl rfl (by decide) rfl ?_
        refine AtL.noF rfl rfl rfl (by decide) rfl ?_
        refine AtL.noF rfl rfl rfl (by decide) rfl ?_
        refine AtL.pures hT 1 _ _ _ _ rfl ?_
        refine AtL.nil ?_
        exact AtE.then_n ((HK27 _ () _ H).pickP (ts := [54, 0, 2, 3, 4, 5, 6]) (is := [1, 2, 3, 4]) rfl rfl (by decide) rfl)
     ·
      obtain ⟨a_2_, hc15, hd15, H⟩ := H
      obtain ⟨hd16, H⟩ := H
      obtain ⟨v_8, hc17, H⟩ := H
      obtain ⟨a_3_, hc18, hd18, H⟩ := H
      obtain ⟨hd19, H⟩ := H
      obtain ⟨v_9, hc20, H⟩ := H
      apply AtC.stages [12, 13, 14, 15] [[], [], [], [], [], [], [], [], [], [], [], [], [], [12], [], [12, 13, 14]] [[], [], [0, 1], [0, 1, 2], [0, 1, 2, 3], [0, 1, 2, 3, 4], [], [], [6, 7], [6, 7, 8], [6, 7, 8, 9], [6, 7, 8, 9, 10], [6, 7, 8, 9, 10, 11], [0, 1, 2, 3, 4, 5, 6, 7, 8, 9, 10, 11, 12], [], [0, 1, 2, 3, 4, 5, 6, 7, 8, 9, 10, 11, 12, 13, 14]] hmix (by kernel_rfl) [(30, _), (31, _), (32, _), (33, _), (34, _), (35, _), (36, _), (37, _), (38, _), (39, _), (40, _), (41, _)] rfl 4 rfl
      refine Stg.go [0, 1, 2, 3, 4, 5, 6, 7, 8, 9, 10, 11] [12, 14] rfl rfl (QAll.cons (QOp.p hT rfl rfl rfl rfl rfl) (QAll.cons (QOp.p hT rfl rfl rfl rfl rfl) (QAll.cons (QOp.q rfl rfl (Quiet1.idxS (s := _) hT rfl rfl rfl rfl rfl hc15 hd15) rfl rfl) (QAll.cons (QOp.q rfl rfl (Quiet1.idxA hT rfl rfl rfl rfl rfl hd16) rfl rfl) (QAll.cons (QOp.p hT rfl rfl rfl rfl rfl) (QAll.cons (QOp.q rfl rfl (Quiet1.loadS hT rfl rfl rfl rfl hc17) rfl rfl) (QAll.cons (QOp.p hT rfl rfl rfl rfl rfl) (QAll.cons (QOp.p hT rfl rfl rfl rfl rfl) (QAll.cons (QOp.q rfl rfl (Quiet1.idxS (s := _) hT rfl rfl rfl rfl rfl hc18 hd18) rfl rfl) (QAll.cons (QOp.q rfl rfl (Quiet1.idxA hT rfl rfl rfl rfl rfl hd19) rfl rfl) (QAll.cons (QOp.p hT rfl rfl rfl rfl rfl) (QAll.cons (QOp.q rfl rfl (Quiet1.loadS hT rfl rfl rfl rfl hc20) rfl rfl) QAll.nil)))))))))))) ?_
      refine EAll.cons ?_ ?_
      ·
       replace H := H.self
       refine EOp.e rfl rfl rfl (EffX.call (f := 102) (sh := fun h => ref02uNeg _ h _) (H0 := H) rfl Tryd.call102 rfl (hl := fun w m hr hw => lift_ref02uNeg _ w m hr _ hw)) ?_
       rintro _ _ ⟨v_10, h0u19, rfl, rfl, H⟩
       obtain ⟨hc21, H⟩ := H
       apply Stg.next [(42, _)] rfl rfl
       refine Stg.go [0, 1, 2, 3, 4, 5] [13, 14] rfl rfl (QAll.cons (QOp.p hT rfl rfl rfl rfl rfl) (QAll.cons (QOp.p hT rfl rfl rfl rfl rfl) (QAll.cons (QOp.q rfl rfl (Quiet1.idxS (s := _) hT rfl rfl rfl rfl rfl hc15 hd15) rfl rfl) (QAll.cons (QOp.q rfl rfl (Quiet1.idxA hT rfl rfl rfl rfl rfl hd16) rfl rfl) (QAll.cons (QOp.p hT rfl rfl rfl rfl rfl) (QAll.cons (QOp.q rfl rfl (Quiet1.loadS hT rfl rfl rfl rfl hc21) rfl rfl) QAll.nil)))))) ?_
       refine EAll.cons ?_ ?_
       ·
        replace H := H.self
        refine EOp.e rfl rfl rfl (EffX.call (f := 101) (sh := fun h => ref02uAdd _ _ h _) (H0 := H) rfl Tryd.call101 rfl (hl := fun w m hr hw => lift_ref02uAdd _ _ w m hr _ hw)) ?_
        rintro _ _ ⟨v_11, h0u21, rfl, rfl, H⟩
        apply Stg.next [(43, _)] rfl rfl
        refine Stg.go [] [14] rfl rfl QAll.nil ?_
        refine EAll.cons ?_ EAll.nil
        refine EOp.e rfl rfl rfl (EffX.allocP (cs := [_, _, _]) hT rfl rfl H) ?_
        rintro _ _ ⟨b_5, _, rfl, rfl, he22, H⟩
        apply Stg.next [(6, _)] rfl rfl
        refine Stg.go [] [15] rfl rfl QAll.nil ?_
        refine EAll.cons ?_ EAll.nil
        refine EOp.e rfl rfl rfl (EffX.storeSP (i := 0) (qv := [(_, [_, _, _]), (_, [_, _, _]), (_, [_, _, _]), (_, [_, _, _])]) hT rfl rfl rfl rfl rfl rfl rfl rfl rfl rfl) ?_
        rintro _ _ rfl
        apply Stg.next [] rfl rfl
        refine Stg.fin [] rfl rfl QAll.nil ?_
        replace H := H.self
        exact AtE.then_n ((HK15 _ b_5 _ H).pickP (ts := [6, 0, 2, 3, 4, 5]) (is := [0, 1, 2, 3]) rfl rfl (by decide) rfl)
       refine EAll.cons ?_ EAll.nil
       refine EOp.e rfl rfl rfl (EffX.allocP (cs := [_, _, _]) hT rfl rfl H) ?_
       rintro _ _ ⟨b_6, _, rfl, rfl, he23, H⟩
       replace hc21 := he23.cells hc21
       apply Stg.next [(6, _)] rfl rfl
       refine Stg.go [0, 1, 2, 3, 4, 5] [13] rfl rfl (QAll.cons (QOp.p hT rfl rfl rfl rfl rfl) (QAll.cons (QOp.p hT rfl rfl rfl rfl rfl) (QAll.cons (QOp.q rfl rfl (Quiet1.idxS (s := _) hT rfl rfl rfl rfl rfl hc15 hd15) rfl rfl) (QAll.cons (QOp.q rfl rfl (Quiet1.idxA hT rfl rfl rfl rfl rfl hd16) rfl rfl) (QAll.cons (QOp.p hT rfl rfl rfl rfl rfl) (QAll.cons (QOp.q rfl rfl (Quiet1.loadS hT rfl rfl rfl rfl hc21) rfl rfl) QAll.nil)))))) ?_
       refine EAll.cons ?_ EAll.nil
       replace H := H.self
       refine EOp.e rfl rfl rfl (EffX.call (f := 101) (sh := fun h => ref02uAdd _ _ h _) (H0 := H) rfl Tryd.call101 rfl (hl := fun w m hr hw => lift_ref02uAdd _ _ w m hr _ hw)) ?_
       rintro _ _ ⟨v_12, h0u23, rfl, rfl, H⟩
       apply Stg.next [(43, _)] rfl rfl
       refine Stg.go [] [15] rfl rfl QAll.nil ?_
       refine EAll.cons ?_ EAll.nil
       refine EOp.e rfl rfl rfl (EffX.storeSP (i := 0) (qv := [(_, [_, _, _]), (_, [_, _, _]), (_, [_, _, _]), (_, [_, _, _])]) hT rfl rfl rfl rfl rfl rfl rfl rfl rfl rfl) ?_
       rintro _ _ rfl
       apply Stg.next [] rfl rfl
       refine Stg.fin [] rfl rfl QAll.nil ?_
       replace H := H.self
       exact AtE.then_n ((HK15 _ b_6 _ H).pickP (ts := [6, 0, 2, 3, 4, 5]) (is := [0, 1, 2, 3]) rfl rfl (by decide) rfl)
      refine EAll.cons ?_ EAll.nil
      refine EOp.e rfl rfl rfl (EffX.allocP (cs := [_, _, _]) hT rfl rfl H) ?_
      rintro _ _ ⟨b_7, _, rfl, rfl, he24, H⟩
      replace hc17 := he24.cells hc17
      replace hc20 := he24.cells hc20
      apply Stg.next [(6, _)] rfl rfl
      refine Stg.go [0, 1, 2, 3, 4, 5, 6, 7, 8, 9, 10, 11] [12] rfl rfl (QAll.cons (QOp.p hT rfl rfl rfl rfl rfl) (QAll.cons (QOp.p hT rfl rfl rfl rfl rfl) (QAll.cons (QOp.q rfl rfl (Quiet1.idxS (s := _) hT rfl rfl rfl rfl rfl hc15 hd15) rfl rfl) (QAll.cons (QOp.q rfl rfl (Quiet1.idxA hT rfl rfl rfl rfl rfl hd16) rfl rfl) (QAll.cons (QOp.p hT rfl rfl rfl rfl rfl) (QAll.cons (QOp.q rfl rfl (Quiet1.loadS hT rfl rfl rfl rfl hc17) rfl rfl) (QAll.cons (QOp.p hT rfl rfl rfl rfl rfl) (QAll.cons (QOp.p hT rfl rfl rfl rfl rfl) (QAll.cons (QOp.q rfl rfl (Quiet1.idxS (s := _) hT rfl rfl rfl rfl rfl hc18 hd18) rfl rfl) (QAll.cons (QOp.q rfl rfl (Quiet1.idxA hT rfl rfl rfl rfl rfl hd19) rfl rfl) (QAll.cons (QOp.p hT rfl rfl rfl rfl rfl) (QAll.cons (QOp.q rfl rfl (Quiet1.loadS hT rfl rfl rfl rfl hc20) rfl rfl) QAll.nil)))))))))))) ?_
      refine EAll.cons ?_ EAll.nil
      replace H := H.self
      refine EOp.e rfl rfl rfl (EffX.call (f := 102) (sh := fun h => ref02uNeg _ h _) (H0 := H) rfl Tryd.call102 rfl (hl := fun w m hr hw => lift_ref02uNeg _ w m hr _ hw)) ?_
      rintro _ _ ⟨v_13, h0u25, rfl, rfl, H⟩
      obtain ⟨hc25, H⟩ := H
      apply Stg.next [(42, _)] rfl rfl
      refine Stg.go [0, 1, 2, 3, 4, 5] [13] rfl rfl (QAll.cons (QOp.p hT rfl rfl rfl rfl rfl) (QAll.cons (QOp.p hT rfl rfl rfl rfl rfl) (QAll.cons (QOp.q rfl rfl (Quiet1.idxS (s := _) hT rfl rfl rfl rfl rfl hc15 hd15) rfl rfl) (QAll.cons (QOp.q rfl rfl (Quiet1.idxA hT rfl rfl rfl rfl rfl hd16) rfl rfl) (QAll.cons (QOp.p hT rfl rfl rfl rfl rfl) (QAll.cons (QOp.q rfl rfl (Quiet1.loadS hT rfl rfl rfl rfl hc25) rfl rfl) QAll.nil)))))) ?_
      refine EAll.cons ?_ EAll.nil
      replace H := H.self
      refine EOp.e rfl rfl rfl (EffX.call (f := 101) (sh := fun h => ref02uAdd _ _ h _) (H0 := H) rfl Tryd.call101 rfl (hl := fun w m hr hw => lift_ref02uAdd _ _ w m hr _ hw)) ?_
      rintro _ _ ⟨v_14, h0u27, rfl, rfl, H⟩
      apply Stg.next [(43, _)] rfl rfl
      refine Stg.go [] [15] rfl rfl QAll.nil ?_
      refine EAll.cons ?_ EAll.nil
      refine EOp.e rfl rfl rfl (EffX.storeSP (i := 0) (qv := [(_, [_, _, _]), (_, [_, _, _]), (_, [_, _, _]), (_, [_, _, _])]) hT rfl rfl rfl rfl rfl rfl rfl rfl rfl rfl) ?_
      rintro _ _ rfl
      apply Stg.next [] rfl rfl
      refine Stg.fin [] rfl rfl QAll.nil ?_
      replace H := H.self
      exact AtE.then_n ((HK15 _ b_7 _ H).pickP (ts := [6, 0, 2, 3, 4, 5]) (is := [0, 1, 2, 3]) rfl rfl (by decide) rfl)
    ·
     obtain ⟨a_, hc3, hd3, H⟩ := H
     obtain ⟨hd4, H⟩ := H
     obtain ⟨v_1, hc5, H⟩ := H
     obtain ⟨a_1_, hc6, hd6, H⟩ := H
     obtain ⟨hd7, H⟩ := H
     obtain ⟨v_2, hc8, H⟩ := H
     apply AtC.stages [12, 13, 14, 15] [[], [], [], [], [], [], [], [], [], [], [], [], [], [12], [], [12, 13, 14]] [[], [], [0, 1], [0, 1, 2], [0, 1, 2, 3], [0, 1, 2, 3, 4], [], [], [6, 7], [6, 7, 8], [6, 7, 8, 9], [6, 7, 8, 9, 10], [6, 7, 8, 9, 10, 11], [0, 1, 2, 3, 4, 5, 6, 7, 8, 9, 10, 11, 12], [], [0, 1, 2, 3, 4, 5, 6, 7, 8, 9, 10, 11, 12, 13, 14]] hmix (by kernel_rfl) [(16, _), (17, _), (18, _), (19, _), (20, _), (21, _), (22, _), (23, _), (24, _), (25, _), (26, _), (27, _)] rfl 4 rfl
     refine Stg.go [0, 1, 2, 3, 4, 5, 6, 7, 8, 9, 10, 11] [12, 14] rfl rfl (QAll.cons (QOp.p hT rfl rfl rfl rfl rfl) (QAll.cons (QOp.p hT rfl rfl rfl rfl rfl) (QAll.cons (QOp.q rfl rfl (Quiet1.idxS (s := _) hT rfl rfl rfl rfl rfl hc3 hd3) rfl rfl) (QAll.cons (QOp.q rfl rfl (Quiet1.idxA hT rfl rfl rfl rfl rfl hd4) rfl rfl) (QAll.cons (QOp.p hT rfl rfl rfl rfl rfl) (QAll.cons (QOp.q rfl rfl (Quiet1.loadS hT rfl rfl rfl rfl hc5) rfl rfl) (QAll.cons (QOp.p hT rfl rfl rfl rfl rfl) (QAll.cons (QOp.p hT rfl rfl rfl rfl rfl) (QAll.cons (QOp.q rfl rfl (Quiet1.idxS (s := _) hT rfl rfl rfl rfl rfl hc6 hd6) rfl rfl) (QAll.cons (QOp.q rfl rfl (Quiet1.idxA hT rfl rfl rfl rfl rfl hd7) rfl rfl) (QAll.cons (QOp.p hT rfl rfl rfl rfl rfl) (QAll.cons (QOp.q rfl rfl (Quiet1.loadS hT rfl rfl rfl rfl hc8) rfl rfl) QAll.nil)))))))))))) ?_
     refine EAll.cons ?_ ?_
     ·
      replace H := H.self
      refine EOp.e rfl rfl rfl (EffX.call (f := 102) (sh := fun h => ref02uNeg _ h _) (H0 := H) rfl Tryd.call102 rfl (hl := fun w m hr hw => lift_ref02uNeg _ w m hr _ hw)) ?_
      rintro _ _ ⟨v_3, h0u7, rfl, rfl, H⟩
      obtain ⟨hc9, H⟩ := H
      apply Stg.next [(28, _)] rfl rfl
      refine Stg.go [0, 1, 2, 3, 4, 5] [13, 14] rfl rfl (QAll.cons (QOp.p hT rfl rfl rfl rfl rfl) (QAll.cons (QOp.p hT rfl rfl rfl rfl rfl) (QAll.cons (QOp.q rfl rfl (Quiet1.idxS (s := _) hT rfl rfl rfl rfl rfl hc3 hd3) rfl rfl) (QAll.cons (QOp.q rfl rfl (Quiet1.idxA hT rfl rfl rfl rfl rfl hd4) rfl rfl) (QAll.cons (QOp.p hT rfl rfl rfl rfl rfl) (QAll.cons (QOp.q rfl rfl (Quiet1.loadS hT rfl rfl rfl rfl hc9) rfl rfl) QAll.nil)))))) ?_
      refine EAll.cons ?_ ?_
      ·
       replace H := H.self
       refine EOp.e rfl rfl rfl (EffX.call (f := 101) (sh := fun h => ref02uAdd _ _ h _) (H0 := H) rfl Tryd.call101 rfl (hl := fun w m hr hw => lift_ref02uAdd _ _ w m hr _ hw)) ?_
       rintro _ _ ⟨v_4, h0u9, rfl, rfl, H⟩
       apply Stg.next [(29, _)] rfl rfl
       refine Stg.go [] [14] rfl rfl QAll.nil ?_
       refine EAll.cons ?_ EAll.nil
       refine EOp.e rfl rfl rfl (EffX.allocP (cs := [_, _, _]) hT rfl rfl H) ?_
       rintro _ _ ⟨b_2, _, rfl, rfl, he10, H⟩
       apply Stg.next [(5, _)] rfl rfl
       refine Stg.go [] [15] rfl rfl QAll.nil ?_
       refine EAll.cons ?_ EAll.nil
       refine EOp.e rfl rfl rfl (EffX.storeSP (i := 0) (qv := [(_, [_, _, _]), (_, [_, _, _]), (_, [_, _, _])]) hT rfl rfl rfl rfl rfl rfl rfl rfl rfl rfl) ?_
       rintro _ _ rfl
       apply Stg.next [] rfl rfl
       refine Stg.fin [] rfl rfl QAll.nil ?_
       replace H := H.self
       exact AtE.then_n ((HK3 _ b_2 _ H).pickP (ts := [5, 0, 2, 3, 4]) (is := [0, 1, 2]) rfl rfl (by decide) rfl)
      refine EAll.cons ?_ EAll.nil
      refine EOp.e rfl rfl rfl (EffX.allocP (cs := [_, _, _]) hT rfl rfl H) ?_
      rintro _ _ ⟨b_3, _, rfl, rfl, he11, H⟩
      replace hc9 := he11.cells hc9
      apply Stg.next [(5, _)] rfl rfl
      refine Stg.go [0, 1, 2, 3, 4, 5] [13] rfl rfl (QAll.cons (QOp.p hT rfl rfl rfl rfl rfl) (QAll.cons (QOp.p hT rfl rfl rfl rfl rfl) (QAll.cons (QOp.q rfl rfl (Quiet1.idxS (s := _) hT rfl rfl rfl rfl rfl hc3 hd3) rfl rfl) (QAll.cons (QOp.q rfl rfl (Quiet1.idxA hT rfl rfl rfl rfl rfl hd4) rfl rfl) (QAll.cons (QOp.p hT rfl rfl rfl rfl rfl) (QAll.cons (QOp.q rfl rfl (Quiet1.loadS hT rfl rfl rfl rfl hc9) rfl rfl) QAll.nil)))))) ?_
      refine EAll.cons ?_ EAll.nil
      replace H := H.self
      refine EOp.e rfl rfl rfl (EffX.call (f := 101) (sh := fun h => ref02uAdd _ _ h _) (H0 := H) rfl Tryd.call101 rfl (hl := fun w m hr hw => lift_ref02uAdd _ _ w m hr _ hw)) ?_
      rintro _ _ ⟨v_5, h0u11, rfl, rfl, H⟩
      apply Stg.next [(29, _)] rfl rfl
      refine Stg.go [] [15] rfl rfl QAll.nil ?_
      refine EAll.cons ?_ EAll.nil
      refine EOp.e rfl rfl rfl (EffX.storeSP (i := 0) (qv := [(_, [_, _, _]), (_, [_, _, _]), (_, [_, _, _])]) hT rfl rfl rfl rfl rfl rfl rfl rfl rfl rfl) ?_
      rintro _ _ rfl
      apply Stg.next [] rfl rfl
      refine Stg.fin [] rfl rfl QAll.nil ?_
      replace H := H.self
      exact AtE.then_n ((HK3 _ b_3 _ H).pickP (ts := [5, 0, 2, 3, 4]) (is := [0, 1, 2]) rfl rfl (by decide) rfl)
     refine EAll.cons ?_ EAll.nil
     refine EOp.e rfl rfl rfl (EffX.allocP (cs := [_, _, _]) hT rfl rfl H) ?_
     rintro _ _ ⟨b_4, _, rfl, rfl, he12, H⟩
     replace hc5 := he12.cells hc5
     replace hc8 := he12.cells hc8
     apply Stg.next [(5, _)] rfl rfl
     refine Stg.go [0, 1, 2, 3, 4, 5, 6, 7, 8, 9, 10, 11] [12] rfl rfl (QAll.cons (QOp.p hT rfl rfl rfl rfl rfl) (QAll.cons (QOp.p hT rfl rfl rfl rfl rfl) (QAll.cons (QOp.q rfl rfl (Quiet1.idxS (s := _) hT rfl rfl rfl rfl rfl hc3 hd3) rfl rfl) (QAll.cons (QOp.q rfl rfl (Quiet1.idxA hT rfl rfl rfl rfl rfl hd4) rfl rfl) (QAll.cons (QOp.p hT rfl rfl rfl rfl rfl) (QAll.cons (QOp.q rfl rfl (Quiet1.loadS hT rfl rfl rfl rfl hc5) rfl rfl) (QAll.cons (QOp.p hT rfl rfl rfl rfl rfl) (QAll.cons (QOp.p hT rfl rfl rfl rfl rfl) (QAll.cons (QOp.q rfl rfl (Quiet1.idxS (s := _) hT rfl rfl rfl rfl rfl hc6 hd6) rfl rfl) (QAll.cons (QOp.q rfl rfl (Quiet1.idxA hT rfl rfl rfl rfl rfl hd7) rfl rfl) (QAll.cons (QOp.p hT rfl rfl rfl rfl rfl) (QAll.cons (QOp.q rfl rfl (Quiet1.loadS hT rfl rfl rfl rfl hc8) rfl rfl) QAll.nil)))))))))))) ?_
     refine EAll.cons ?_ EAll.nil
     replace H := H.self
     refine EOp.e rfl rfl rfl (EffX.call (f := 102) (sh := fun h => ref02uNeg _ h _) (H0 := H) rfl Tryd.call102 rfl (hl := fun w m hr hw => lift_ref02uNeg _ w m hr _ hw)) ?_
     rintro _ _ ⟨v_6, h0u13, rfl, rfl, H⟩
     obtain ⟨hc13, H⟩ := H
     apply Stg.next [(28, _)] rfl rfl
     refine Stg.go [0, 1, 2, 3, 4, 5] [13] rfl rfl (QAll.cons (QOp.p hT rfl rfl rfl rfl rfl) (QAll.cons (QOp.p hT rfl rfl rfl rfl rfl) (QAll.cons (QOp.q rfl rfl (Quiet1.idxS (s := _) hT rfl rfl rfl rfl rfl hc3 hd3) rfl rfl) (QAll.cons (QOp.q rfl rfl (Quiet1.idxA hT rfl rfl rfl rfl rfl hd4) rfl rfl) (QAll.cons (QOp.p hT rfl rfl rfl rfl rfl) (QAll.cons (QOp.q rfl rfl (Quiet1.loadS hT rfl rfl rfl rfl hc13) rfl rfl) QAll.nil)))))) ?_
     refine EAll.cons ?_ EAll.nil
     replace H := H.self
     refine EOp.e rfl rfl rfl (EffX.call (f := 101) (sh := fun h => ref02uAdd _ _ h _) (H0 := H) rfl Tryd.call101 rfl (hl := fun w m hr hw => lift_ref02uAdd _ _ w m hr _ hw)) ?_
     rintro _ _ ⟨v_7, h0u15, rfl, rfl, H⟩
     apply Stg.next [(29, _)] rfl rfl
     refine Stg.go [] [15] rfl rfl QAll.nil ?_
     refine EAll.cons ?_ EAll.nil
     refine EOp.e rfl rfl rfl (EffX.storeSP (i := 0) (qv := [(_, [_, _, _]), (_, [_, _, _]), (_, [_, _, _])]) hT rfl rfl rfl rfl rfl rfl rfl rfl rfl rfl) ?_
     rintro _ _ rfl
     apply Stg.next [] rfl rfl
     refine Stg.fin [] rfl rfl QAll.nil ?_
     replace H := H.self
     exact AtE.then_n ((HK3 _ b_4 _ H).pickP (ts := [5, 0, 2, 3, 4]) (is := [0, 1, 2]) rfl rfl (by decide) rfl)
  ·
   refine AtC.exit ?_
   refine AtE.then_x ?_
   refine AtE.then_x ?_
   refine AtE.blk_hit ?_
   refine AtE.then_n (AtE.go ?_)
   refine AtC.seqR ?_
   refine AtL.q rfl (Quiet1.loadSP (i := 0) (l := [_, _, _]) hT rfl rfl rfl rfl rfl rfl rfl rfl) ?_
   refine AtL.e rfl (EffX.storeSP (i := 1) (qv := [(_, [_, _, _]), (_, [_, _, _])]) hT rfl rfl rfl rfl rfl rfl rfl rfl rfl rfl) ?_
   rintro _ _ rfl
   refine AtL.nil ?_
   refine AtE.then_n (AtE.go ?_)
   refine AtC.ret ?_
   exact AtE.retN (rs := [.cell 2 59]) rfl (ResAll.cons (ResAt.cellSP (i := 1) (l := [_, _, _]) hT rfl rfl rfl rfl rfl rfl rfl) ResAll.nil) rfl H

theorem lift_ratio_Mul (b : (Option Addr)) (x0 : Bool × Sl × Sl) (y : Bool × Sl × Sl) (w : World) (m : Heap) (hr : Rel ⟨m, []⟩ w.heap) (S : (Bool × Sl × Sl) → Heap → Prop) (H : ratio_Mul b x0 y m S) :
    Calls Tryd.prog 82 #[Value.pointer b, Value.agg (C_bool_sl_sl x0).toArray, Value.agg (C_bool_sl_sl y).toArray] w (Post ⟨w, m⟩ (fun r => Value.agg (C_bool_sl_sl r).toArray) S) := by
  refine Calls.lift (args := [Value.pointer b, Value.agg (C_bool_sl_sl x0).toArray, Value.agg (C_bool_sl_sl y).toArray]) Tryd.func82 rfl Tryd.ntmps82 (Nat.le_of_ble_eq_true rfl) hr (ratio_Mul b x0 y m S) H (fun H => ?_)
  refine AtC.pick (ts := [0, 1, 2]) rfl ?_
  unfold ratio_Mul at H
  refine AtC.seqR ?_
  refine AtL.e rfl (EffX.boxP (cs := [_, _, _]) rfl rfl rfl H) ?_
  rintro _ _ ⟨b_1, _, rfl, rfl, _, H⟩
  refine AtL.e rfl (EffX.boxP (cs := [_, _, _]) rfl rfl rfl H) ?_
  rintro _ _ ⟨b_2, _, rfl, rfl, _, H⟩
  refine AtL.e rfl (EffX.allocP (cs := [_, _, _]) hT rfl rfl H) ?_
  rintro _ _ ⟨b_3, _, rfl, rfl, _, H⟩
  refine AtL.nil ?_
  replace H := H.self
  refine AtE.then_n (AtE.go ?_)
  refine AtC.seqR ?_
  refine AtL.e rfl (EffX.call (f := 110) (sh := fun h => ratio_free h _) (H0 := H) rfl Tryd.call110 rfl (hl := fun w m hr hw => lift_ratio_free  w m hr _ hw)) ?_
  rintro _ _ ⟨v, h0u1, rfl, rfl, H⟩
  refine AtL.q rfl (Quiet1.makeFn (bs := [_]) (cs := []) rfl rfl rfl) ?_
  refine AtL.pures hT 1 _ _ _ _ rfl ?_
  refine AtL.nil ?_
  refine AtE.then_n (AtE.go ?_)
  apply AtC.seqS [15, 18, 20, 21, 22, 23, 24] [[], [], [], [], [], [], [], [], [], [], [], [], [], [], [], [], [], [], [15], [], [15, 18], [15, 18, 20], [15, 18, 20, 21], [15, 18, 20, 21, 22], [15, 18, 20, 21, 22, 23]] [[], [], [1], [1, 2], [], [4], [4, 5], [1, 2, 3, 4, 5, 6], [], [], [9], [9, 10], [], [12], [12, 13], [8, 9, 10, 11, 12, 13, 14], [], [], [8, 9, 10, 11, 12, 13, 14, 15, 17], [], [8, 9, 10, 11, 12, 13, 14, 15, 17, 18, 19], [8, 9, 10, 11, 12, 13, 14, 15, 16, 17, 18, 19, 20], [1, 2, 3, 4, 5, 6, 7, 8, 9, 10, 11, 12, 13, 14, 15, 16, 17, 18, 19, 20, 21], [0, 1, 2, 3, 4, 5, 6, 7, 8, 9, 10, 11, 12, 13, 14, 15, 16, 17, 18, 19, 20, 21, 22], [0, 1, 2, 3, 4, 5, 6, 7, 8, 9, 10, 11, 12, 13, 14, 15, 16, 17, 18, 19, 20, 21, 22, 23]] hmix (by kernel_rfl) [(10, _), (11, _), (12, _), (13, _), (14, _), (15, _), (16, _), (17, _), (18, _), (19, _), (20, _), (21, _), (22, _), (23, _), (24, _), (26, _), (27, _), (29, _)] rfl 7 rfl
  refine Stg.go [0, 1, 2, 3, 4, 5, 6, 7, 8, 9, 10, 11, 12, 13, 14, 16, 17, 19] [15] rfl rfl (QAll.cons (QOp.p hT rfl rfl rfl rfl rfl) (QAll.cons (QOp.p hT rfl rfl rfl rfl rfl) (QAll.cons (QOp.p hT rfl rfl rfl rfl rfl) (QAll.cons (QOp.q rfl rfl (Quiet1.loadP (i := 2) hT rfl rfl rfl rfl rfl rfl) rfl rfl) (QAll.cons (QOp.p hT rfl rfl rfl rfl rfl) (QAll.cons (QOp.p hT rfl rfl rfl rfl rfl) (QAll.cons (QOp.q rfl rfl (Quiet1.loadP (i := 1) hT rfl rfl rfl rfl rfl rfl) rfl rfl) (QAll.cons (QOp.p hT rfl rfl rfl rfl rfl) (QAll.cons (QOp.p hT rfl rfl rfl rfl rfl) (QAll.cons (QOp.p hT rfl rfl rfl rfl rfl) (QAll.cons (QOp.p hT rfl rfl rfl rfl rfl) (QAll.cons (QOp.q rfl rfl (Quiet1.loadP (i := 2) hT rfl rfl rfl rfl rfl rfl) rfl rfl) (QAll.cons (QOp.p hT rfl rfl rfl rfl rfl) (QAll.cons (QOp.p hT rfl rfl rfl rfl rfl) (QAll.cons (QOp.q rfl rfl (Quiet1.loadP (i := 1) hT rfl rfl rfl rfl rfl rfl) rfl rfl) (QAll.cons (QOp.p hT rfl rfl rfl rfl rfl) (QAll.cons (QOp.q rfl rfl (Quiet1.loadSP (i := 2) (l := [_, _, _]) hT rfl rfl rfl rfl rfl rfl rfl rfl) rfl rfl) (QAll.cons (QOp.q rfl rfl (Quiet1.loadSP (i := 1) (l := [_, _, _]) hT rfl rfl rfl rfl rfl rfl rfl rfl) rfl rfl) QAll.nil)))))))))))))))))) ?_
  refine EAll.cons ?_ EAll.nil
  refine EOp.e rfl rfl rfl (EffX.callF (bs := [_]) (cs := []) (f := 18) (sh := fun h => nat_Bench_Mul _ _ _ h _) (H0 := H) rfl rfl Tryd.call18 rfl (hl := fun w m hr hw => lift_nat_Bench_Mul _ _ _ w m hr _ hw)) ?_
  rintro _ _ ⟨v_1, h0u2, rfl, rfl, H⟩
  apply Stg.next [(25, _)] rfl rfl
  refine Stg.go [0, 1, 2, 3, 4, 5, 6, 7, 16, 17, 19] [18] rfl rfl (QAll.cons (QOp.p hT rfl rfl rfl rfl rfl) (QAll.cons (QOp.p hT rfl rfl rfl rfl rfl) (QAll.cons (QOp.p hT rfl rfl rfl rfl rfl) (QAll.cons (QOp.q rfl rfl (Quiet1.loadP (i := 2) hT rfl rfl rfl rfl rfl rfl) rfl rfl) (QAll.cons (QOp.p hT rfl rfl rfl rfl rfl) (QAll.cons (QOp.p hT rfl rfl rfl rfl rfl) (QAll.cons (QOp.q rfl rfl (Quiet1.loadP (i := 1) hT rfl rfl rfl rfl rfl rfl) rfl rfl) (QAll.cons (QOp.p hT rfl rfl rfl rfl rfl) (QAll.cons (QOp.p hT rfl rfl rfl rfl rfl) (QAll.cons (QOp.q rfl rfl (Quiet1.loadSP (i := 2) (l := [_, _, _]) hT rfl rfl rfl rfl rfl rfl rfl rfl) rfl rfl) (QAll.cons (QOp.q rfl rfl (Quiet1.loadSP (i := 1) (l := [_, _, _]) hT rfl rfl rfl rfl rfl rfl rfl rfl) rfl rfl) QAll.nil))))))))))) ?_
  refine EAll.cons ?_ EAll.nil
  refine EOp.e rfl rfl rfl (EffX.call (f := 113) (sh := fun h => ratio_den _ h _) (H0 := H) rfl Tryd.call113 rfl (hl := fun w m hr hw => lift_ratio_den _ w m hr _ hw)) ?_
  rintro _ _ ⟨v_2, h0u3, rfl, rfl, H⟩
  apply Stg.next [(28, _)] rfl rfl
  refine Stg.go [0, 1, 2, 3, 4, 5, 6, 7, 16, 19] [20] rfl rfl (QAll.cons (QOp.p hT rfl rfl rfl rfl rfl) (QAll.cons (QOp.p hT rfl rfl rfl rfl rfl) (QAll.cons (QOp.p hT rfl rfl rfl rfl rfl) (QAll.cons (QOp.q rfl rfl (Quiet1.loadP (i := 2) hT rfl rfl rfl rfl rfl rfl) rfl rfl) (QAll.cons (QOp.p hT rfl rfl rfl rfl rfl) (QAll.cons (QOp.p hT rfl rfl rfl rfl rfl) (QAll.cons (QOp.q rfl rfl (Quiet1.loadP (i := 1) hT rfl rfl rfl rfl rfl rfl) rfl rfl) (QAll.cons (QOp.p hT rfl rfl rfl rfl rfl) (QAll.cons (QOp.p hT rfl rfl rfl rfl rfl) (QAll.cons (QOp.q rfl rfl (Quiet1.loadSP (i := 1) (l := [_, _, _]) hT rfl rfl rfl rfl rfl rfl rfl rfl) rfl rfl) QAll.nil)))))))))) ?_
  refine EAll.cons ?_ EAll.nil
  refine EOp.e rfl rfl rfl (EffX.call (f := 113) (sh := fun h => ratio_den _ h _) (H0 := H) rfl Tryd.call113 rfl (hl := fun w m hr hw => lift_ratio_den _ w m hr _ hw)) ?_
  rintro _ _ ⟨v_3, h0u4, rfl, rfl, H⟩
  apply Stg.next [(30, _)] rfl rfl
  refine Stg.go [0, 1, 2, 3, 4, 5, 6, 7, 16] [21] rfl rfl (QAll.cons (QOp.p hT rfl rfl rfl rfl rfl) (QAll.cons (QOp.p hT rfl rfl rfl rfl rfl) (QAll.cons (QOp.p hT rfl rfl rfl rfl rfl) (QAll.cons (QOp.q rfl rfl (Quiet1.loadP (i := 2) hT rfl rfl rfl rfl rfl rfl) rfl rfl) (QAll.cons (QOp.p hT rfl rfl rfl rfl rfl) (QAll.cons (QOp.p hT rfl rfl rfl rfl rfl) (QAll.cons (QOp.q rfl rfl (Quiet1.loadP (i := 1) hT rfl rfl rfl rfl rfl rfl) rfl rfl) (QAll.cons (QOp.p hT rfl rfl rfl rfl rfl) (QAll.cons (QOp.p hT rfl rfl rfl rfl rfl) QAll.nil))))))))) ?_
  refine EAll.cons ?_ EAll.nil
  refine EOp.e rfl rfl rfl (EffX.callF (bs := [_]) (cs := []) (f := 18) (sh := fun h => nat_Bench_Mul _ _ _ h _) (H0 := H) rfl rfl Tryd.call18 rfl (hl := fun w m hr hw => lift_nat_Bench_Mul _ _ _ w m hr _ hw)) ?_
  rintro _ _ ⟨v_4, h0u5, rfl, rfl, H⟩
  apply Stg.next [(31, _)] rfl rfl
  refine Stg.go [0, 1, 2, 3, 4, 5, 6, 7] [22] rfl rfl (QAll.cons (QOp.p hT rfl rfl rfl rfl rfl) (QAll.cons (QOp.p hT rfl rfl rfl rfl rfl) (QAll.cons (QOp.p hT rfl rfl rfl rfl rfl) (QAll.cons (QOp.q rfl rfl (Quiet1.loadP (i := 2) hT rfl rfl rfl rfl rfl rfl) rfl rfl) (QAll.cons (QOp.p hT rfl rfl rfl rfl rfl) (QAll.cons (QOp.p hT rfl rfl rfl rfl rfl) (QAll.cons (QOp.q rfl rfl (Quiet1.loadP (i := 1) hT rfl rfl rfl rfl rfl rfl) rfl rfl) (QAll.cons (QOp.p hT rfl rfl rfl rfl rfl) QAll.nil)))))))) ?_
  refine EAll.cons ?_ EAll.nil
  refine EOp.e rfl rfl rfl (EffX.call (f := 112) (sh := fun h => ratio_form _ _ _ h _) (H0 := H) rfl Tryd.call112 rfl (hl := fun w m hr hw => lift_ratio_form _ _ _ w m hr _ hw)) ?_
  rintro _ _ ⟨v_5, h0u6, rfl, rfl, H⟩
  apply Stg.next [(32, _)] rfl rfl
  refine Stg.go [0] [23] rfl rfl (QAll.cons (QOp.p hT rfl rfl rfl rfl rfl) QAll.nil) ?_
  refine EAll.cons ?_ EAll.nil
  refine EOp.e rfl rfl rfl (EffX.call (f := 111) (sh := fun h => ratio_fit _ _ h _) (H0 := H) rfl Tryd.call111 rfl (hl := fun w m hr hw => lift_ratio_fit _ _ w m hr _ hw)) ?_
  rintro _ _ ⟨v_6, h0u7, rfl, rfl, H⟩
  apply Stg.next [(33, _)] rfl rfl
  refine Stg.go [] [24] rfl rfl QAll.nil ?_
  refine EAll.cons ?_ EAll.nil
  refine EOp.e rfl rfl rfl (EffX.storeSP (i := 0) (qv := [(_, [_, _, _]), (_, [_, _, _]), (_, [_, _, _])]) hT rfl rfl rfl rfl rfl rfl rfl rfl rfl rfl) ?_
  rintro _ _ rfl
  apply Stg.next [] rfl rfl
  refine Stg.fin [] rfl rfl QAll.nil ?_
  refine AtE.then_n (AtE.go ?_)
  refine AtC.ret ?_
  exact AtE.retN (rs := [.cell 6 54]) rfl (ResAll.cons (ResAt.cellSP (i := 0) (l := [_, _, _]) hT rfl rfl rfl rfl rfl rfl rfl) ResAll.nil) rfl H

theorem lift_delta_At (b : (Option Addr)) (x0 : Bool × Sl × Sl × Bool × Sl × Sl) (d : Bool × Sl × Sl) (w : World) (m : Heap) (hr : Rel ⟨m, []⟩ w.heap) (S : (Bool × Sl × Sl) → Heap → Prop) (H : delta_At b x0 d m S) :
    Calls Tryd.prog 65 #[Value.pointer b, Value.agg (C_bool_sl_sl_bool_sl_sl x0).toArray, Value.agg (C_bool_sl_sl d).toArray] w (Post ⟨w, m⟩ (fun r => Value.agg (C_bool_sl_sl r).toArray) S) := by
  refine Calls.lift (args := [Value.pointer b, Value.agg (C_bool_sl_sl_bool_sl_sl x0).toArray, Value.agg (C_bool_sl_sl d).toArray]) Tryd.func65 rfl Tryd.ntmps65 (Nat.le_of_ble_eq_true rfl) hr (delta_At b x0 d m S) H (fun H => ?_)
  refine AtC.pick (ts := [0, 1, 2]) rfl ?_
  unfold delta_At at H
  refine AtC.seqR ?_
  refine AtL.e rfl (EffX.boxP (cs := [_, _, _, _, _, _]) rfl rfl rfl H) ?_
  rintro _ _ ⟨b_1, _, rfl, rfl, _, H⟩
  refine AtL.e rfl (EffX.boxP (cs := [_, _, _]) rfl rfl rfl H) ?_
  rintro _ _ ⟨b_2, _, rfl, rfl, _, H⟩
  refine AtL.e rfl (EffX.allocP (cs := [_, _, _]) hT rfl rfl H) ?_
  rintro _ _ ⟨b_3, _, rfl, rfl, _, H⟩
  refine AtL.nil ?_
  replace H := H.self
  refine AtE.then_n (AtE.go ?_)
  apply AtC.seqS [7, 8, 9] [[], [], [], [], [], [], [], [], [7], [7, 8]] [[], [], [1], [], [], [4], [], [3, 4, 5, 6], [0, 1, 2, 3, 4, 5, 6, 7], [0, 1, 2, 3, 4, 5, 6, 7, 8]] hmix (by kernel_rfl) [(7, _), (8, _), (9, _), (10, _), (11, _), (12, _), (13, _)] rfl 3 rfl
  refine Stg.go [0, 1, 2, 3, 4, 5, 6] [7] rfl rfl (QAll.cons (QOp.p hT rfl rfl rfl rfl rfl) (QAll.cons (QOp.p hT rfl rfl rfl rfl rfl) (QAll.cons (QOp.q rfl rfl (Quiet1.loadSP (i := 2) (l := [_, _, _]) hT rfl rfl rfl rfl rfl rfl rfl rfl) rfl rfl) (QAll.cons (QOp.p hT rfl rfl rfl rfl rfl) (QAll.cons (QOp.p hT rfl rfl rfl rfl rfl) (QAll.cons (QOp.q rfl rfl (Quiet1.loadSP (i := 2) (l := [_, _, _]) hT rfl rfl rfl rfl rfl rfl rfl rfl) rfl rfl) (QAll.cons (QOp.q rfl rfl (Quiet1.loadSP (i := 1) (l := [_, _, _]) hT rfl rfl rfl rfl rfl rfl rfl rfl) rfl rfl) QAll.nil))))))) ?_
  refine EAll.cons ?_ EAll.nil
  refine EOp.e rfl rfl rfl (EffX.call (f := 82) (sh := fun h => ratio_Mul _ _ _ h _) (H0 := H) rfl Tryd.call82 rfl (hl := fun w m hr hw => lift_ratio_Mul _ _ _ w m hr _ hw)) ?_
  rintro _ _ ⟨v, h0u1, rfl, rfl, H⟩
  apply Stg.next [(14, _)] rfl rfl
  refine Stg.go [0, 1, 2] [8] rfl rfl (QAll.cons (QOp.p hT rfl rfl rfl rfl rfl) (QAll.cons (QOp.p hT rfl rfl rfl rfl rfl) (QAll.cons (QOp.q rfl rfl (Quiet1.loadSP (i := 2) (l := [_, _, _]) hT rfl rfl rfl rfl rfl rfl rfl rfl) rfl rfl) QAll.nil))) ?_
  refine EAll.cons ?_ EAll.nil
  refine EOp.e rfl rfl rfl (EffX.call (f := 80) (sh := fun h => ratio_Add _ _ _ h _) (H0 := H) rfl Tryd.call80 rfl (hl := fun w m hr hw => lift_ratio_Add _ _ _ w m hr _ hw)) ?_
  rintro _ _ ⟨v_1, h0u2, rfl, rfl, H⟩
  apply Stg.next [(15, _)] rfl rfl
  refine Stg.go [] [9] rfl rfl QAll.nil ?_
  refine EAll.cons ?_ EAll.nil
  refine EOp.e rfl rfl rfl (EffX.storeSP (i := 0) (qv := [(_, [_, _, _]), (_, [_, _, _]), (_, [_, _, _, _, _, _])]) hT rfl rfl rfl rfl rfl rfl rfl rfl rfl rfl) ?_
  rintro _ _ rfl
  apply Stg.next [] rfl rfl
  refine Stg.fin [] rfl rfl QAll.nil ?_
  refine AtE.then_n (AtE.go ?_)
  refine AtC.ret ?_
  exact AtE.retN (rs := [.cell 6 54]) rfl (ResAll.cons (ResAt.cellSP (i := 0) (l := [_, _, _]) hT rfl rfl rfl rfl rfl rfl rfl) ResAll.nil) rfl H

theorem lift_ref02uMul (x0 : Bool × Sl × Sl) (y : Bool × Sl × Sl) (w : World) (m : Heap) (hr : Rel ⟨m, []⟩ w.heap) (S : (Bool × Sl × Sl) → Heap → Prop) (H : ref02uMul x0 y m S) :
    Calls Tryd.prog 103 #[Value.agg (C_bool_sl_sl x0).toArray, Value.agg (C_bool_sl_sl y).toArray] w (Post ⟨w, m⟩ (fun r => Value.agg (C_bool_sl_sl r).toArray) S) := by
  refine Calls.lift (args := [Value.agg (C_bool_sl_sl x0).toArray, Value.agg (C_bool_sl_sl y).toArray]) Tryd.func103 rfl Tryd.ntmps103 (Nat.le_of_ble_eq_true rfl) hr (ref02uMul x0 y m S) H (fun H => ?_)
  refine AtC.pick (ts := [0, 1]) rfl ?_
  unfold ref02uMul at H
  refine AtC.seqR ?_
  refine AtL.e rfl (EffX.boxP (cs := [_, _, _]) rfl rfl rfl H) ?_
  rintro _ _ ⟨b, _, rfl, rfl, _, H⟩
  refine AtL.e rfl (EffX.boxP (cs := [_, _, _]) rfl rfl rfl H) ?_
  rintro _ _ ⟨b_1, _, rfl, rfl, _, H⟩
  refine AtL.e rfl (EffX.allocP (cs := [_, _, _]) hT rfl rfl H) ?_
  rintro _ _ ⟨b_2, _, rfl, rfl, _, H⟩
  refine AtL.nil ?_
  replace H := H.self
  refine AtE.then_n (AtE.go ?_)
  apply AtC.seqS [9, 14, 16, 17] [[], [], [], [], [], [], [], [], [], [], [], [], [], [], [9], [9, 14], [9, 14], [9, 14, 16]] [[], [0], [], [2], [0, 1, 2, 3], [], [5], [], [7], [5, 6, 7, 8], [], [10], [], [12], [5, 6, 7, 8, 9, 10, 11, 12, 13], [0, 1, 2, 3, 4, 5, 6, 7, 8, 9, 10, 11, 12, 13, 14], [0, 1, 2, 3, 4, 5, 6, 7, 8, 9, 10, 11, 12, 13, 14, 15], [0, 1, 2, 3, 4, 5, 6, 7, 8, 9, 10, 11, 12, 13, 14, 15, 16]] hmix (by kernel_rfl) [(5, _), (6, _), (7, _), (8, _), (9, _), (10, _), (11, _), (12, _), (13, _), (15, _), (16, _), (17, _), (18, _)] rfl 4 rfl
  refine Stg.go [0, 1, 2, 3, 4, 5, 6, 7, 8, 10, 11, 12, 13] [9] rfl rfl (QAll.cons (QOp.p hT rfl rfl rfl rfl rfl) (QAll.cons (QOp.q rfl rfl (Quiet1.loadP (i := 2) hT rfl rfl rfl rfl rfl rfl) rfl rfl) (QAll.cons (QOp.p hT rfl rfl rfl rfl rfl) (QAll.cons (QOp.q rfl rfl (Quiet1.loadP (i := 1) hT rfl rfl rfl rfl rfl rfl) rfl rfl) (QAll.cons (QOp.p hT rfl rfl rfl rfl rfl) (QAll.cons (QOp.p hT rfl rfl rfl rfl rfl) (QAll.cons (QOp.q rfl rfl (Quiet1.loadP (i := 2) hT rfl rfl rfl rfl rfl rfl) rfl rfl) (QAll.cons (QOp.p hT rfl rfl rfl rfl rfl) (QAll.cons (QOp.q rfl rfl (Quiet1.loadP (i := 1) hT rfl rfl rfl rfl rfl rfl) rfl rfl) (QAll.cons (QOp.p hT rfl rfl rfl rfl rfl) (QAll.cons (QOp.q rfl rfl (Quiet1.loadP (i := 2) hT rfl rfl rfl rfl rfl rfl) rfl rfl) (QAll.cons (QOp.p hT rfl rfl rfl rfl rfl) (QAll.cons (QOp.q rfl rfl (Quiet1.loadP (i := 1) hT rfl rfl rfl rfl rfl rfl) rfl rfl) QAll.nil))))))))))))) ?_
  refine EAll.cons ?_ EAll.nil
  refine EOp.e rfl rfl rfl (EffX.call (f := 29) (sh := fun h => ref01uMul _ _ h _) (H0 := H) rfl Tryd.call29 rfl (hl := fun w m hr hw => lift_ref01uMul _ _ w m hr _ hw)) ?_
  rintro _ _ ⟨v, h0u1, rfl, rfl, H⟩
  apply Stg.next [(14, _)] rfl rfl
  refine Stg.go [0, 1, 2, 3, 4, 10, 11, 12, 13] [14] rfl rfl (QAll.cons (QOp.p hT rfl rfl rfl rfl rfl) (QAll.cons (QOp.q rfl rfl (Quiet1.loadP (i := 2) hT rfl rfl rfl rfl rfl rfl) rfl rfl) (QAll.cons (QOp.p hT rfl rfl rfl rfl rfl) (QAll.cons (QOp.q rfl rfl (Quiet1.loadP (i := 1) hT rfl rfl rfl rfl rfl rfl) rfl rfl) (QAll.cons (QOp.p hT rfl rfl rfl rfl rfl) (QAll.cons (QOp.p hT rfl rfl rfl rfl rfl) (QAll.cons (QOp.q rfl rfl (Quiet1.loadP (i := 2) hT rfl rfl rfl rfl rfl rfl) rfl rfl) (QAll.cons (QOp.p hT rfl rfl rfl rfl rfl) (QAll.cons (QOp.q rfl rfl (Quiet1.loadP (i := 1) hT rfl rfl rfl rfl rfl rfl) rfl rfl) QAll.nil))))))))) ?_
  refine EAll.cons ?_ EAll.nil
  refine EOp.e rfl rfl rfl (EffX.call (f := 29) (sh := fun h => ref01uMul _ _ h _) (H0 := H) rfl Tryd.call29 rfl (hl := fun w m hr hw => lift_ref01uMul _ _ w m hr _ hw)) ?_
  rintro _ _ ⟨v_1, h0u2, rfl, rfl, H⟩
  apply Stg.next [(19, _), (20, _)] rfl rfl
  refine Stg.go [0, 1, 2, 3, 4, 15] [16] rfl rfl (QAll.cons (QOp.p hT rfl rfl rfl rfl rfl) (QAll.cons (QOp.q rfl rfl (Quiet1.loadP (i := 2) hT rfl rfl rfl rfl rfl rfl) rfl rfl) (QAll.cons (QOp.p hT rfl rfl rfl rfl rfl) (QAll.cons (QOp.q rfl rfl (Quiet1.loadP (i := 1) hT rfl rfl rfl rfl rfl rfl) rfl rfl) (QAll.cons (QOp.p hT rfl rfl rfl rfl rfl) (QAll.cons (QOp.q rfl rfl (Quiet1.build (cs := [_, _, _]) hT rfl rfl rfl rfl rfl rfl) rfl rfl) QAll.nil)))))) ?_
  refine EAll.cons ?_ EAll.nil
  refine EOp.e rfl rfl rfl (EffX.call (f := 79) (sh := fun h => ref02uLow _ h _) (H0 := H) rfl Tryd.call79 rfl (hl := fun w m hr hw => lift_ref02uLow _ w m hr _ hw)) ?_
  rintro _ _ ⟨v_2, h0u3, rfl, rfl, H⟩
  apply Stg.next [(21, _)] rfl rfl
  refine Stg.go [] [17] rfl rfl QAll.nil ?_
  refine EAll.cons ?_ EAll.nil
  refine EOp.e rfl rfl rfl (EffX.storeSP (i := 0) (qv := [(_, [_, _, _]), (_, [_, _, _]), (_, [_, _, _])]) hT rfl rfl rfl rfl rfl rfl rfl rfl rfl rfl) ?_
  rintro _ _ rfl
  apply Stg.next [] rfl rfl
  refine Stg.fin [] rfl rfl QAll.nil ?_
  refine AtE.then_n (AtE.go ?_)
  refine AtC.ret ?_
  exact AtE.retN (rs := [.cell 4 59]) rfl (ResAll.cons (ResAt.cellSP (i := 0) (l := [_, _, _]) hT rfl rfl rfl rfl rfl rfl rfl) ResAll.nil) rfl H

theorem lift_ref03uAt (x0 : Bool × Sl × Sl × Bool × Sl × Sl) (d : Bool × Sl × Sl) (w : World) (m : Heap) (hr : Rel ⟨m, []⟩ w.heap) (S : (Bool × Sl × Sl) → Heap → Prop) (H : ref03uAt x0 d m S) :
    Calls Tryd.prog 66 #[Value.agg (C_bool_sl_sl_bool_sl_sl x0).toArray, Value.agg (C_bool_sl_sl d).toArray] w (Post ⟨w, m⟩ (fun r => Value.agg (C_bool_sl_sl r).toArray) S) := by
  refine Calls.lift (args := [Value.agg (C_bool_sl_sl_bool_sl_sl x0).toArray, Value.agg (C_bool_sl_sl d).toArray]) Tryd.func66 rfl Tryd.ntmps66 (Nat.le_of_ble_eq_true rfl) hr (ref03uAt x0 d m S) H (fun H => ?_)
  refine AtC.pick (ts := [0, 1]) rfl ?_
  unfold ref03uAt at H
  refine AtC.seqR ?_
  refine AtL.e rfl (EffX.boxP (cs := [_, _, _, _, _, _]) rfl rfl rfl H) ?_
  rintro _ _ ⟨b, _, rfl, rfl, _, H⟩
  refine AtL.e rfl (EffX.boxP (cs := [_, _, _]) rfl rfl rfl H) ?_
  rintro _ _ ⟨b_1, _, rfl, rfl, _, H⟩
  refine AtL.e rfl (EffX.allocP (cs := [_, _, _]) hT rfl rfl H) ?_
  rintro _ _ ⟨b_2, _, rfl, rfl, _, H⟩
  refine AtL.nil ?_
  replace H := H.self
  refine AtE.then_n (AtE.go ?_)
  apply AtC.seqS [5, 6, 7] [[], [], [], [], [], [], [5], [5, 6]] [[], [0], [], [2], [], [2, 3, 4], [0, 1, 2, 3, 4, 5], [0, 1, 2, 3, 4, 5, 6]] hmix (by kernel_rfl) [(5, _), (6, _), (7, _), (8, _), (9, _)] rfl 3 rfl
  refine Stg.go [0, 1, 2, 3, 4] [5] rfl rfl (QAll.cons (QOp.p hT rfl rfl rfl rfl rfl) (QAll.cons (QOp.q rfl rfl (Quiet1.loadSP (i := 2) (l := [_, _, _]) hT rfl rfl rfl rfl rfl rfl rfl rfl) rfl rfl) (QAll.cons (QOp.p hT rfl rfl rfl rfl rfl) (QAll.cons (QOp.q rfl rfl (Quiet1.loadSP (i := 2) (l := [_, _, _]) hT rfl rfl rfl rfl rfl rfl rfl rfl) rfl rfl) (QAll.cons (QOp.q rfl rfl (Quiet1.loadSP (i := 1) (l := [_, _, _]) hT rfl rfl rfl rfl rfl rfl rfl rfl) rfl rfl) QAll.nil))))) ?_
  refine EAll.cons ?_ EAll.nil
  refine EOp.e rfl rfl rfl (EffX.call (f := 103) (sh := fun h => ref02uMul _ _ h _) (H0 := H) rfl Tryd.call103 rfl (hl := fun w m hr hw => lift_ref02uMul _ _ w m hr _ hw)) ?_
  rintro _ _ ⟨v, h0u1, rfl, rfl, H⟩
  apply Stg.next [(10, _)] rfl rfl
  refine Stg.go [0, 1] [6] rfl rfl (QAll.cons (QOp.p hT rfl rfl rfl rfl rfl) (QAll.cons (QOp.q rfl rfl (Quiet1.loadSP (i := 2) (l := [_, _, _]) hT rfl rfl rfl rfl rfl rfl rfl rfl) rfl rfl) QAll.nil)) ?_
  refine EAll.cons ?_ EAll.nil
  refine EOp.e rfl rfl rfl (EffX.call (f := 101) (sh := fun h => ref02uAdd _ _ h _) (H0 := H) rfl Tryd.call101 rfl (hl := fun w m hr hw => lift_ref02uAdd _ _ w m hr _ hw)) ?_
  rintro _ _ ⟨v_1, h0u2, rfl, rfl, H⟩
  apply Stg.next [(11, _)] rfl rfl
  refine Stg.go [] [7] rfl rfl QAll.nil ?_
  refine EAll.cons ?_ EAll.nil
  refine EOp.e rfl rfl rfl (EffX.storeSP (i := 0) (qv := [(_, [_, _, _]), (_, [_, _, _]), (_, [_, _, _, _, _, _])]) hT rfl rfl rfl rfl rfl rfl rfl rfl rfl rfl) ?_
  rintro _ _ rfl
  apply Stg.next [] rfl rfl
  refine Stg.fin [] rfl rfl QAll.nil ?_
  refine AtE.then_n (AtE.go ?_)
  refine AtC.ret ?_
  exact AtE.retN (rs := [.cell 4 59]) rfl (ResAll.cons (ResAt.cellSP (i := 0) (l := [_, _, _]) hT rfl rfl rfl rfl rfl rfl rfl) ResAll.nil) rfl H

theorem lift_ref03uCmp (x0 : Bool × Sl × Sl × Bool × Sl × Sl) (y : Bool × Sl × Sl × Bool × Sl × Sl) (w : World) (m : Heap) (hr : Rel ⟨m, []⟩ w.heap) (S : Int → Heap → Prop) (H : ref03uCmp x0 y m S) :
    Calls Tryd.prog 52 #[Value.agg (C_bool_sl_sl_bool_sl_sl x0).toArray, Value.agg (C_bool_sl_sl_bool_sl_sl y).toArray] w (Post ⟨w, m⟩ (Value.int .i64) S) := by
  refine Calls.lift (args := [Value.agg (C_bool_sl_sl_bool_sl_sl x0).toArray, Value.agg (C_bool_sl_sl_bool_sl_sl y).toArray]) Tryd.func52 rfl Tryd.ntmps52 (Nat.le_of_ble_eq_true rfl) hr (ref03uCmp x0 y m S) H (fun H => ?_)
  refine AtC.pick (ts := [0, 1]) rfl ?_
  unfold ref03uCmp at H
  refine AtC.seqR ?_
  refine AtL.e rfl (EffX.boxP (cs := [_, _, _, _, _, _]) rfl rfl rfl H) ?_
  rintro _ _ ⟨b, _, rfl, rfl, _, H⟩
  refine AtL.e rfl (EffX.boxP (cs := [_, _, _, _, _, _]) rfl rfl rfl H) ?_
  rintro _ _ ⟨b_1, _, rfl, rfl, _, H⟩
  replace H := H.self
  refine AtL.pures hT 1 _ _ _ _ rfl ?_
  refine AtL.nil ?_
  refine AtE.then_n (AtE.go ?_)
  refine AtC.seqR ?_
  refine AtL.pures hT 1 _ _ _ _ rfl ?_
  refine AtL.q rfl (Quiet1.loadSP (i := 1) (l := [_, _, _]) hT rfl rfl rfl rfl rfl rfl rfl rfl) ?_
  refine AtL.pures hT 1 _ _ _ _ rfl ?_
  refine AtL.q rfl (Quiet1.loadSP (i := 0) (l := [_, _, _]) hT rfl rfl rfl rfl rfl rfl rfl rfl) ?_
  refine AtL.e rfl (EffX.call (f := 67) (sh := fun h => ref02uCmp _ _ h _) (H0 := H) rfl Tryd.call67 rfl (hl := fun w m hr hw => lift_ref02uCmp _ _ w m hr _ hw)) ?_
  rintro _ _ ⟨v, h0u1, rfl, rfl, H⟩
  refine AtL.pures hT 1 _ _ _ _ rfl ?_
  refine AtL.nil ?_
  refine AtE.then_n (AtE.go ?_)
  refine AtC.joinSeq (β := Unit) (fun (t0 : Int) (bb : Unit) => [(5, Value.int .i64 t0)]) (fun (t0 : Int) (bb : Unit) => []) [] [] H (by exact rfl) (by exact rfl) (fun t0 bb h0u2 H => ?_) (fun J1 H HK1 => ?_)
  ·
   refine AtC.seqR ?_
   refine AtL.pures hT 2 _ _ _ _ rfl ?_
   refine AtL.nil ?_
   refine AtE.then_n (AtE.go ?_)
   refine AtC.ret ?_
   exact AtE.retN (rs := [.tmp 4]) rfl (ResAll.cons (ResAt.tmp rfl) ResAll.nil) rfl H
  ·
   refine AtC.seqR ?_
   refine AtL.pures hT 2 _ _ _ _ rfl ?_
   refine AtL.nil ?_
   refine AtE.then_n (AtE.go ?_)
   refine AtC.condB H rfl (fun H => ?_) (fun H => ?_)
   ·
    refine AtC.region ?_
    refine AtL.pures hT 1 _ _ _ _ rfl ?_
    refine AtL.q rfl (Quiet1.loadSP (i := 1) (l := [_, _, _]) hT rfl rfl rfl rfl rfl rfl rfl rfl) ?_
    refine AtL.pures hT 1 _ _ _ _ rfl ?_
    refine AtL.q rfl (Quiet1.loadSP (i := 0) (l := [_, _, _]) hT rfl rfl rfl rfl rfl rfl rfl rfl) ?_
    refine AtL.e rfl (EffX.call (f := 67) (sh := fun h => ref02uCmp _ _ h _) (H0 := H) rfl Tryd.call67 rfl (hl := fun w m hr hw => lift_ref02uCmp _ _ w m hr _ hw)) ?_
    rintro _ _ ⟨v_1, h0u3, rfl, rfl, H⟩
    refine AtL.pures hT 1 _ _ _ _ rfl ?_
    refine AtL.nil ?_
    exact AtE.then_n ((HK1 _ () _ H).pickP (ts := [5]) (is := []) rfl rfl (by decide) rfl)
   ·
    refine AtC.skip ?_
    exact AtE.then_n ((HK1 _ () _ H).pickP (ts := [5]) (is := []) rfl rfl (by decide) rfl)

theorem lift_law03uDeltaSmall (pairs : Sl) (part : Int) (w : World) (m : Heap) (hr : Rel ⟨m, []⟩ w.heap) (S : Bool → Heap → Prop) (H : law03uDeltaSmall pairs part m S) :
    Calls Tryd.prog 8 #[Sl.toV pairs, Value.int .i64 part] w (Post ⟨w, m⟩ Value.bool S) := by
  refine Calls.lift (args := [Sl.toV pairs, Value.int .i64 part]) Tryd.func8 rfl Tryd.ntmps8 (Nat.le_of_ble_eq_true rfl) hr (law03uDeltaSmall pairs part m S) H (fun H => ?_)
  refine AtC.pick (ts := [0, 1]) rfl ?_
  unfold law03uDeltaSmall at H
  refine AtC.seqR ?_
  refine AtL.pures hT 1 _ _ _ _ rfl ?_
  refine AtL.nil ?_
  refine AtE.then_n (AtE.go ?_)
  refine AtC.seq ?_
  refine AtC.seqR ?_
  refine AtL.e rfl (EffX.call (f := 37) (sh := fun h => law03uspeaks h _) (H0 := H) rfl Tryd.call37 rfl (hl := fun w m hr hw => lift_law03uspeaks  w m hr _ hw)) ?_
  rintro _ _ ⟨v, h0, rfl, rfl, H⟩
  refine AtL.pures hT 1 _ _ _ _ rfl ?_
  refine AtL.nil ?_
  refine AtE.then_n (AtE.go ?_)
  refine AtC.condB H rfl (fun H => ?_) (fun H => ?_)
  ·
   refine AtC.seqR ?_
   refine AtL.pures hT 1 _ _ _ _ rfl ?_
   refine AtL.nil ?_
   refine AtE.then_n (AtE.go ?_)
   refine AtC.ret ?_
   refine AtE.then_r ?_
   exact AtE.retN (rs := [.tmp 4]) rfl (ResAll.cons (ResAt.tmp rfl) ResAll.nil) rfl H
  ·
   refine AtC.skip ?_
   refine AtE.then_n (AtE.go ?_)
   refine AtC.seq ?_
   refine AtC.seqR ?_
   refine AtL.pures hT 3 _ _ _ _ rfl ?_
   refine AtL.nil ?_
   refine AtE.then_n (AtE.go ?_)
   refine AtC.condB H rfl (fun H => ?_) (fun H => ?_)
   ·
    refine AtC.seqR ?_
    refine AtL.pures hT 1 _ _ _ _ rfl ?_
    refine AtL.nil ?_
    refine AtE.then_n (AtE.go ?_)
    refine AtC.ret ?_
    refine AtE.then_r ?_
    exact AtE.retN (rs := [.tmp 4]) rfl (ResAll.cons (ResAt.tmp rfl) ResAll.nil) rfl H
   ·
    refine AtC.skip ?_
    refine AtE.then_n (AtE.go ?_)
    refine AtC.seqR ?_
    refine AtLX.bs (hT := hT) (cs := []) H rfl rfl rfl rfl rfl rfl rfl rfl rfl (fun a h0u1 H => ?_)
    refine AtL.pures hT 1 _ _ _ _ rfl ?_
    replace H := H _ rfl
    refine AtL.nil ?_
    refine AtE.then_n (AtE.go ?_)
    refine AtC.seq ?_
    refine AtC.seqR ?_
    refine AtL.pures hT 3 _ _ _ _ rfl ?_
    refine AtL.nil ?_
    refine AtE.then_n (AtE.go ?_)
    refine AtC.block ?_
    refine AtC.loopM (fun (s0 : Sl × Int) => [(5, Sl.toV s0.1), (24, Value.int .i64 s0.2)]) (fun (s0 : Sl × Int) => []) [0, 1, 22, 23] [5, 24, 0, 1, 22, 23] [] [] H (by exact rfl) (by exact rfl) (by exact rfl) (by decide) (by exact rfl) (fun Kp1 s0 h0u2 H Q1 HK1 => ?_)
    refine AtC.seqR ?_
    refine AtL.pures hT 1 _ _ _ _ rfl ?_
    refine AtL.nil ?_
    refine AtE.then_n (AtE.go ?_)
    refine AtC.seq ?_
    refine AtC.condB H rfl (fun H => ?_) (fun H => ?_)
    ·
     refine AtC.skip ?_
     refine AtE.then_n (AtE.go ?_)
     refine AtC.seq ?_
     refine AtC.block ?_
     refine AtC.seqR ?_
     obtain ⟨a_1_, hc1, hd1, H⟩ := H
     refine AtL.q rfl (Quiet1.idxS (s := _) hT rfl rfl rfl rfl rfl hc1 hd1) ?_
     obtain ⟨v_2, hc2, H⟩ := H
     refine AtL.q rfl (Quiet1.loadS hT rfl rfl rfl rfl hc2) ?_
     refine AtL.e rfl (EffX.allocP (cs := [_, _, _, _, _, _, _, _, _, _, _, _]) hT rfl rfl H) ?_
     rintro _ _ ⟨b, _, rfl, rfl, _, H⟩
     replace H := H.self
     refine AtL.e rfl (EffX.storeSP (i := 0) (qv := [(_, [_, _, _, _, _, _, _, _, _, _, _, _])]) hT rfl rfl rfl rfl rfl rfl rfl rfl rfl rfl) ?_
     rintro _ _ rfl
     refine AtL.nil ?_
     refine AtE.then_n (AtE.go ?_)
     refine AtC.seq ?_
     refine AtC.seqR ?_
     refine AtL.q rfl (Quiet1.idxA hT rfl rfl rfl rfl rfl (by decide)) ?_
     refine AtL.q rfl (Quiet1.loadSP (i := 0) (l := [_, _, _, _, _, _]) hT rfl rfl rfl rfl rfl rfl rfl rfl) ?_
     refine AtL.q rfl (Quiet1.idxA hT rfl rfl rfl rfl rfl (by decide)) ?_
     refine AtL.q rfl (Quiet1.loadSP (i := 0) (l := [_, _, _, _, _, _]) hT rfl rfl rfl rfl rfl rfl rfl rfl) ?_
     refine AtLX.bs (hT := hT) (cs := [Value.bool v_2.1, Sl.toV v_2.2.1, Sl.toV v_2.2.2.1, Value.bool v_2.2.2.2.1, Sl.toV v_2.2.2.2.2.1, Sl.toV v_2.2.2.2.2.2.1, Value.bool v_2.2.2.2.2.2.2.1, Sl.toV v_2.2.2.2.2.2.2.2.1, Sl.toV v_2.2.2.2.2.2.2.2.2.1, Value.bool v_2.2.2.2.2.2.2.2.2.2.1, Sl.toV v_2.2.2.2.2.2.2.2.2.2.2.1, Sl.toV v_2.2.2.2.2.2.2.2.2.2.2.2]) H rfl rfl rfl rfl rfl rfl rfl (by kernel_rfl) rfl (fun a_2 h0u4 H => ?_)
     refine AtL.e rfl (EffX.call (f := 38) (sh := fun h => law03uOdd _ h _) (H0 := H) rfl Tryd.call38 rfl (hl := fun w m hr hw => lift_law03uOdd _ w m hr _ hw)) ?_
     rintro _ _ ⟨v_4, h0u5, rfl, rfl, H⟩
     refine AtL.nil ?_
     refine AtE.then_n (AtE.go ?_)
     refine AtC.condB H rfl (fun H => ?_) (fun H => ?_)
     ·
      refine AtC.seqR ?_
      refine AtL.pures hT 1 _ _ _ _ rfl ?_
      refine AtL.nil ?_
      refine AtE.then_n (AtE.go ?_)
      refine AtC.ret ?_
      refine AtE.then_r ?_
      refine AtE.blk_r ?_
      refine AtE.then_r ?_
      refine AtE.then_r ?_
      refine AtE.blk_r ?_
      refine AtE.then_r ?_
      exact AtE.retN (rs := [.tmp 4]) rfl (ResAll.cons (ResAt.tmp rfl) ResAll.nil) rfl H
     ·
      refine AtC.skip ?_
      refine AtE.then_n (AtE.go ?_)
      apply AtC.stages [3, 6, 8, 9, 10] [[], [], [], [], [], [], [3], [3, 6], [3, 6], [3, 6, 8], [3, 6, 8, 9]] [[], [], [1], [1, 2], [], [4], [1, 2, 3, 4, 5], [1, 2, 3, 4, 5, 6], [1, 2, 3, 4, 5, 6, 7], [0, 1, 2, 3, 4, 5, 6, 7, 8], [0, 1, 2, 3, 4, 5, 6, 7, 8, 9]] hmix (by kernel_rfl) [(34, _), (35, _), (36, _), (38, _), (39, _)] rfl 5 rfl
      refine Stg.go [0, 1, 2, 4, 5] [3] rfl rfl (QAll.cons (QOp.p hT rfl rfl rfl rfl rfl) (QAll.cons (QOp.q rfl rfl (Quiet1.idxA hT rfl rfl rfl rfl rfl (by decide)) rfl rfl) (QAll.cons (QOp.q rfl rfl (Quiet1.loadSP (i := 0) (l := [_, _, _, _, _, _]) hT rfl rfl rfl rfl rfl rfl rfl rfl) rfl rfl) (QAll.cons (QOp.q rfl rfl (Quiet1.idxA hT rfl rfl rfl rfl rfl (by decide)) rfl rfl) (QAll.cons (QOp.q rfl rfl (Quiet1.loadSP (i := 0) (l := [_, _, _, _, _, _]) hT rfl rfl rfl rfl rfl rfl rfl rfl) rfl rfl) QAll.nil))))) ?_
      refine EAll.cons ?_ EAll.nil
      refine EOp.e rfl rfl rfl (EffX.call (f := 39) (sh := fun h => ref03uOf _ h _) (H0 := H) rfl Tryd.call39 rfl (hl := fun w m hr hw => lift_ref03uOf _ w m hr _ hw)) ?_
      rintro _ _ ⟨v_5, h0u6, rfl, rfl, H⟩
      apply Stg.next [(37, _)] rfl rfl
      refine Stg.go [0, 4, 5] [6] rfl rfl (QAll.cons (QOp.p hT rfl rfl rfl rfl rfl) (QAll.cons (QOp.q rfl rfl (Quiet1.idxA hT rfl rfl rfl rfl rfl (by decide)) rfl rfl) (QAll.cons (QOp.q rfl rfl (Quiet1.loadSP (i := 0) (l := [_, _, _, _, _, _]) hT rfl rfl rfl rfl rfl rfl rfl rfl) rfl rfl) QAll.nil))) ?_
      refine EAll.cons ?_ EAll.nil
      refine EOp.e rfl rfl rfl (EffX.call (f := 39) (sh := fun h => ref03uOf _ h _) (H0 := H) rfl Tryd.call39 rfl (hl := fun w m hr hw => lift_ref03uOf _ w m hr _ hw)) ?_
      rintro _ _ ⟨v_6, h0u7, rfl, rfl, H⟩
      apply Stg.next [(40, _), (41, _)] rfl rfl
      refine Stg.go [0, 7] [8] rfl rfl (QAll.cons (QOp.p hT rfl rfl rfl rfl rfl) (QAll.cons (QOp.q rfl rfl (Quiet1.buildA (cs := [Value.bool v_5.1, Sl.toV v_5.2.1, Sl.toV v_5.2.2.1, Value.bool v_5.2.2.2.1, Sl.toV v_5.2.2.2.2.1, Sl.toV v_5.2.2.2.2.2, Value.bool v_6.1, Sl.toV v_6.2.1, Sl.toV v_6.2.2.1, Value.bool v_6.2.2.2.1, Sl.toV v_6.2.2.2.2.1, Sl.toV v_6.2.2.2.2.2]) hT rfl rfl rfl rfl rfl (by kernel_rfl)) rfl rfl) QAll.nil)) ?_
      refine EAll.cons ?_ EAll.nil
      refine EOp.e rfl rfl rfl (EffX.buildS2 (cs := [Value.bool v_5.1, Sl.toV v_5.2.1, Sl.toV v_5.2.2.1, Value.bool v_5.2.2.2.1, Sl.toV v_5.2.2.2.2.1, Sl.toV v_5.2.2.2.2.2, Value.bool v_6.1, Sl.toV v_6.2.1, Sl.toV v_6.2.2.1, Value.bool v_6.2.2.2.1, Sl.toV v_6.2.2.2.2.1, Sl.toV v_6.2.2.2.2.2]) hT rfl rfl rfl rfl rfl rfl rfl (by kernel_rfl) H) ?_
      rintro _ _ ⟨a_3, h0u8, rfl, rfl, H⟩
      apply Stg.next [(42, _)] rfl rfl
      refine Stg.go [0] [9] rfl rfl (QAll.cons (QOp.p hT rfl rfl rfl rfl rfl) QAll.nil) ?_
      refine EAll.cons ?_ EAll.nil
      refine EOp.e rfl rfl rfl (EffX.appendS (s := _) (u := _) hT rfl rfl rfl rfl rfl rfl rfl rfl rfl rfl (by decide) H) ?_
      rintro _ _ ⟨v_8, h0u9, rfl, rfl, H⟩
      apply Stg.next [(43, _)] rfl rfl
      refine Stg.go [] [10] rfl rfl QAll.nil ?_
      refine EAll.cons ?_ EAll.nil
      refine EOp.e rfl rfl rfl (Eff.ofPure hT rfl) ?_
      rintro _ _ ⟨rfl, rfl⟩
      apply Stg.next [(5, _)] rfl rfl
      refine Stg.fin [] rfl rfl QAll.nil ?_
      refine AtE.blk_n ?_
      refine AtE.then_n (AtE.go ?_)
      refine AtC.region ?_
      refine AtL.pures hT 2 _ _ _ _ rfl ?_
      refine AtL.nil ?_
      exact AtE.then_n ((HK1 _ _ H).pickP (ts := [5, 24, 0, 1, 22, 23]) (is := []) rfl rfl (by decide) rfl)
    ·
     refine AtC.exit ?_
     refine AtE.then_x ?_
     refine AtE.then_x ?_
     refine AtE.blk_hit ?_
     refine AtE.then_n (AtE.go ?_)
     refine AtC.seqR ?_
     refine AtL.e rfl (EffX.call (f := 15) (sh := fun h => nat_New _ h _) (H0 := H) rfl Tryd.call15 rfl (hl := fun w m hr hw => lift_nat_New _ w m hr _ hw)) ?_
     rintro _ _ ⟨v_9, h0u10, rfl, rfl, H⟩
     refine AtL.pures hT 1 _ _ _ _ rfl ?_
     refine AtL.nil ?_
     refine AtE.then_n (AtE.go ?_)
     refine AtC.seqR ?_
     refine AtL.pures hT 2 _ _ _ _ rfl ?_
     refine AtL.e rfl (EffX.call (f := 59) (sh := fun h => delta_Small _ _ h _) (H0 := H) rfl Tryd.call59 rfl (hl := fun w m hr hw => lift_delta_Small _ _ w m hr _ hw)) ?_
     rintro _ _ ⟨v_10, h0u11, rfl, rfl, H⟩
     refine AtL.e rfl (EffX.allocP (cs := [_, _, _]) hT rfl rfl H) ?_
     rintro _ _ ⟨b_1, _, rfl, rfl, _, H⟩
     replace H := H.self
     refine AtL.e rfl (EffX.storeSP (i := 0) (qv := [(_, [_, _, _])]) hT rfl rfl rfl rfl rfl rfl rfl rfl rfl rfl) ?_
     rintro _ _ rfl
     refine AtL.nil ?_
     refine AtE.then_n (AtE.go ?_)
     refine AtC.seq ?_
     refine AtC.joinSeq (β := Unit) (fun (t0 : Bool) (bb : Unit) => [(58, Value.bool t0)]) (fun (t0 : Bool) (bb : Unit) => []) [0, 1, 5, 8, 9] [0] H (by exact rfl) (by exact rfl) (fun t0 bb h0u13 H => ?_) (fun J8 H HK8 => ?_)
     ·
      refine AtC.condB H rfl (fun H => ?_) (fun H => ?_)
      ·
       refine AtC.seqR ?_
       refine AtL.pures hT 1 _ _ _ _ rfl ?_
       refine AtL.nil ?_
       refine AtE.then_n (AtE.go ?_)
       refine AtC.ret ?_
       refine AtE.then_r ?_
       exact AtE.retN (rs := [.tmp 4]) rfl (ResAll.cons (ResAt.tmp rfl) ResAll.nil) rfl H
      ·
       refine AtC.skip ?_
       refine AtE.then_n (AtE.go ?_)
       refine AtC.seq ?_
       apply AtC.seqS [6, 7, 8] [[], [], [], [], [], [], [], [6], [6, 7], [6, 7, 8], []] [[], [], [], [], [3], [3, 4], [3, 4, 5], [1, 2, 3, 4, 5, 6], [0, 1, 2, 3, 4, 5, 6, 7], [0, 1, 2, 3, 4, 5, 6, 7, 8], []] hmix (by kernel_rfl) [(59, _), (60, _), (61, _), (62, _), (63, _), (64, _), (69, _)] rfl 3 rfl
       refine Stg.go [0, 1, 2, 3, 4, 5, 10] [6] rfl rfl (QAll.cons (QOp.q rfl rfl (Quiet1.loadSP (i := 0) (l := [_, _, _]) hT rfl rfl rfl rfl rfl rfl rfl rfl) rfl rfl) (QAll.cons (QOp.p hT rfl rfl rfl rfl rfl) (QAll.cons (QOp.q rfl rfl (Quiet1.loadSP (i := 0) (l := [_, _, _]) hT rfl rfl rfl rfl rfl rfl rfl rfl) rfl rfl) (QAll.cons (QOp.p hT rfl rfl rfl rfl rfl) (QAll.cons (QOp.p hT rfl rfl rfl rfl rfl) (QAll.cons (QOp.p hT rfl rfl rfl rfl rfl) (QAll.cons (QOp.p hT rfl rfl rfl rfl rfl) QAll.nil))))))) ?_
       refine EAll.cons ?_ EAll.nil
       refine EOp.e rfl rfl rfl (EffX.call (f := 64) (sh := fun h => ratio_Of _ h _) (H0 := H) rfl Tryd.call64 rfl (hl := fun w m hr hw => lift_ratio_Of _ w m hr _ hw)) ?_
       rintro _ _ ⟨v_15, h0u18, rfl, rfl, H⟩
       apply Stg.next [(65, _)] rfl rfl
       refine Stg.go [0, 1, 2, 10] [7] rfl rfl (QAll.cons (QOp.q rfl rfl (Quiet1.loadSP (i := 0) (l := [_, _, _]) hT rfl rfl rfl rfl rfl rfl rfl rfl) rfl rfl) (QAll.cons (QOp.p hT rfl rfl rfl rfl rfl) (QAll.cons (QOp.q rfl rfl (Quiet1.loadSP (i := 0) (l := [_, _, _]) hT rfl rfl rfl rfl rfl rfl rfl rfl) rfl rfl) (QAll.cons (QOp.p hT rfl rfl rfl rfl rfl) QAll.nil)))) ?_
       refine EAll.cons ?_ EAll.nil
       refine EOp.e rfl rfl rfl (EffX.call (f := 63) (sh := fun h => ratio_Div _ _ _ h _) (H0 := H) rfl Tryd.call63 rfl (hl := fun w m hr hw => lift_ratio_Div _ _ _ w m hr _ hw)) ?_
       rintro _ _ ⟨v_16, h0u19, rfl, rfl, H⟩
       apply Stg.next [(66, _)] rfl rfl
       refine Stg.go [0, 10] [8] rfl rfl (QAll.cons (QOp.q rfl rfl (Quiet1.loadSP (i := 0) (l := [_, _, _]) hT rfl rfl rfl rfl rfl rfl rfl rfl) rfl rfl) (QAll.cons (QOp.p hT rfl rfl rfl rfl rfl) QAll.nil)) ?_
       refine EAll.cons ?_ EAll.nil
       refine EOp.e rfl rfl rfl (EffX.buildS2 (cs := [_, _, _, _, _, _]) hT rfl rfl rfl rfl rfl rfl rfl rfl H) ?_
       rintro _ _ ⟨a_4, h0u20, rfl, rfl, H⟩
       apply Stg.next [(67, _), (68, _)] rfl rfl
       refine Stg.fin [9, 10] rfl rfl (QAll.cons (QOp.p hT rfl rfl rfl rfl rfl) (QAll.cons (QOp.p hT rfl rfl rfl rfl rfl) QAll.nil)) ?_
       refine AtE.then_n (AtE.go ?_)
       refine AtC.block ?_
       refine AtC.loopM (fun (s0u1 : Int) => [(69, Value.int .i64 s0u1)]) (fun (s0u1 : Int) => []) [0, 5, 8, 67, 68] [69, 0, 5, 8, 67, 68] [] [] H (by exact rfl) (by exact rfl) (by exact rfl) (by decide) (by exact rfl) (fun Kp10 s0u1 h0u21 H Q10 HK10 => ?_)
       refine AtC.seqR ?_
       refine AtL.pures hT 1 _ _ _ _ rfl ?_
       refine AtL.nil ?_
       refine AtE.then_n (AtE.go ?_)
       refine AtC.seq ?_
       refine AtC.condB H rfl (fun H => ?_) (fun H => ?_)
       ·
        refine AtC.skip ?_
        refine AtE.then_n (AtE.go ?_)
        refine AtC.seq ?_
        refine AtC.block ?_
        refine AtC.seqR ?_
        obtain ⟨a_5_, hc10, hd10, H⟩ := H
        refine AtL.q rfl (Quiet1.idxS (s := _) hT rfl rfl rfl rfl rfl hc10 hd10) ?_
        obtain ⟨v_18, hc11, H⟩ := H
        refine AtL.q rfl (Quiet1.loadS hT rfl rfl rfl rfl hc11) ?_
        refine AtL.e rfl (EffX.allocP (cs := [_, _, _]) hT rfl rfl H) ?_
        rintro _ _ ⟨b_2, _, rfl, rfl, _, H⟩
        replace H := H.self
        refine AtL.e rfl (EffX.storeSP (i := 0) (qv := [(_, [_, _, _])]) hT rfl rfl rfl rfl rfl rfl rfl rfl rfl rfl) ?_
        rintro _ _ rfl
        refine AtL.nil ?_
        refine AtE.then_n (AtE.go ?_)
        refine AtC.seqR ?_
        refine AtL.pures hT 3 _ _ _ _ rfl ?_
        refine AtL.nil ?_
        refine AtE.then_n (AtE.go ?_)
        refine AtC.block ?_
        refine AtC.loopM (fun (s0u2 : Int) => [(75, Value.int .i64 s0u2)]) (fun (s0u2 : Int) => []) [0, 5, 8, 11, 67, 68, 69, 73, 74] [75, 0, 5, 8, 11, 67, 68, 69, 73, 74] [0] [0] H (by exact rfl) (by exact rfl) (by exact rfl) (by decide) (by exact rfl) (fun Kp13 s0u2 h0u23 H Q13 HK13 => ?_)
        refine AtC.seqR ?_
        refine AtL.pures hT 1 _ _ _ _ rfl ?_
        refine AtL.nil ?_
        refine AtE.then_n (AtE.go ?_)
        refine AtC.seq ?_
        refine AtC.condB H rfl (fun H => ?_) (fun H => ?_)
        ·
         refine AtC.skip ?_
         refine AtE.then_n (AtE.go ?_)
         refine AtC.seq ?_
         refine AtC.block ?_
         refine AtC.seqR ?_
         refine AtL.pures hT 1 _ _ _ _ rfl ?_
         obtain ⟨a_6_, hc13, hd13, H⟩ := H
         refine AtL.q rfl (Quiet1.idxS (s := _) hT rfl rfl rfl rfl rfl hc13 hd13) ?_
         obtain ⟨v_19, hc14, H⟩ := H
         refine AtL.q rfl (Quiet1.loadS hT rfl rfl rfl rfl hc14) ?_
         refine AtL.e rfl (EffX.allocP (cs := [_, _, _, _, _, _, _, _, _, _, _, _]) hT rfl rfl H) ?_
         rintro _ _ ⟨b_3, _, rfl, rfl, _, H⟩
         replace H := H.self
         refine AtL.pures hT 1 _ _ _ _ rfl ?_
         refine AtL.e rfl (EffX.storeSP (i := 0) (qv := [(_, [_, _, _, _, _, _, _, _, _, _, _, _]), (_, [_, _, _])]) hT rfl rfl rfl rfl rfl rfl rfl rfl rfl rfl) ?_
         rintro _ _ rfl
         refine AtL.nil ?_
         refine AtE.then_n (AtE.go ?_)
         refine AtC.joinSeq (β := Nat × Nat) (fun (t0u1 : Bool × Sl × Sl × Bool × Sl × Sl) (bb_1 : Nat × Nat) => [(14, Value.pointer (some ⟨bb_1.1, 0, none⟩)), (15, Value.pointer (some ⟨bb_1.2, 0, none⟩))]) (fun (t0u1 : Bool × Sl × Sl × Bool × Sl × Sl) (bb_1 : Nat × Nat) => [(bb_1.1, [Value.bool t0u1.1, Sl.toV t0u1.2.1, Sl.toV t0u1.2.2.1]), (bb_1.2, [Value.bool t0u1.2.2.2.1, Sl.toV t0u1.2.2.2.2.1, Sl.toV t0u1.2.2.2.2.2])]) [0, 5, 8, 11, 12, 67, 68, 69, 73, 74, 75] [1] H (by exact rfl) (by exact rfl) (fun t0u1 bb_1 h0u25 H => ?_) (fun J16 H HK16 => ?_)
         ·
          refine AtC.seq ?_
          obtain ⟨a_7_, hc36, hd36, H⟩ := H
          obtain ⟨hd37, H⟩ := H
          obtain ⟨v_36, hc38, H⟩ := H
          apply AtC.seqS [7, 8, 9, 10] [[], [], [], [], [], [], [], [], [7], [7, 8], [7, 8, 9], [7, 8, 9, 10]] [[], [], [], [1, 2], [1, 2, 3], [1, 2, 3, 4], [], [6], [1, 2, 3, 4, 5, 6, 7], [1, 2, 3, 4, 5, 6, 7, 8], [0, 1, 2, 3, 4, 5, 6, 7, 8, 9], [0, 1, 2, 3, 4, 5, 6, 7, 8, 9, 10]] hmix (by kernel_rfl) [(90, _), (91, _), (92, _), (93, _), (94, _), (95, _), (96, _)] rfl 4 rfl
          refine Stg.go [0, 1, 2, 3, 4, 5, 6] [7] rfl rfl (QAll.cons (QOp.q rfl rfl (Quiet1.loadSP (i := 0) (l := [_, _, _]) hT rfl rfl rfl rfl rfl rfl rfl rfl) rfl rfl) (QAll.cons (QOp.p hT rfl rfl rfl rfl rfl) (QAll.cons (QOp.p hT rfl rfl rfl rfl rfl) (QAll.cons (QOp.q rfl rfl (Quiet1.idxS (s := _) hT rfl rfl rfl rfl rfl hc36 hd36) rfl rfl) (QAll.cons (QOp.q rfl rfl (Quiet1.idxA hT rfl rfl rfl rfl rfl hd37) rfl rfl) (QAll.cons (QOp.q rfl rfl (Quiet1.loadS hT rfl rfl rfl rfl hc38) rfl rfl) (QAll.cons (QOp.q rfl rfl (Quiet1.loadSP (i := 2) (l := [_, _, _]) hT rfl rfl rfl rfl rfl rfl rfl rfl) rfl rfl) QAll.nil))))))) ?_
          refine EAll.cons ?_ EAll.nil
          refine EOp.e rfl rfl rfl (EffX.call (f := 50) (sh := fun h => ref02uOf _ h _) (H0 := H) rfl Tryd.call50 rfl (hl := fun w m hr hw => lift_ref02uOf _ w m hr _ hw)) ?_
          rintro _ _ ⟨v_37, h0u59, rfl, rfl, H⟩
          obtain ⟨hc39, H⟩ := H
          apply Stg.next [(97, _)] rfl rfl
          refine Stg.go [0, 1, 2, 3, 4, 5] [8] rfl rfl (QAll.cons (QOp.q rfl rfl (Quiet1.loadSP (i := 0) (l := [_, _, _]) hT rfl rfl rfl rfl rfl rfl rfl rfl) rfl rfl) (QAll.cons (QOp.p hT rfl rfl rfl rfl rfl) (QAll.cons (QOp.p hT rfl rfl rfl rfl rfl) (QAll.cons (QOp.q rfl rfl (Quiet1.idxS (s := _) hT rfl rfl rfl rfl rfl hc36 hd36) rfl rfl) (QAll.cons (QOp.q rfl rfl (Quiet1.idxA hT rfl rfl rfl rfl rfl hd37) rfl rfl) (QAll.cons (QOp.q rfl rfl (Quiet1.loadS hT rfl rfl rfl rfl hc39) rfl rfl) QAll.nil)))))) ?_
          refine EAll.cons ?_ EAll.nil
          refine EOp.e rfl rfl rfl (EffX.call (f := 66) (sh := fun h => ref03uAt _ _ h _) (H0 := H) rfl Tryd.call66 rfl (hl := fun w m hr hw => lift_ref03uAt _ _ w m hr _ hw)) ?_
          rintro _ _ ⟨v_38, h0u60, rfl, rfl, H⟩
          apply Stg.next [(98, _)] rfl rfl
          refine Stg.go [0] [9] rfl rfl (QAll.cons (QOp.q rfl rfl (Quiet1.loadSP (i := 0) (l := [_, _, _]) hT rfl rfl rfl rfl rfl rfl rfl rfl) rfl rfl) QAll.nil) ?_
          refine EAll.cons ?_ EAll.nil
          refine EOp.e rfl rfl rfl (EffX.call (f := 61) (sh := fun h => ref02uForm _ h _) (H0 := H) rfl Tryd.call61 rfl (hl := fun w m hr hw => lift_ref02uForm _ w m hr _ hw)) ?_
          rintro _ _ ⟨v_39, h0u61, rfl, rfl, H⟩
          apply Stg.next [(99, _)] rfl rfl
          refine Stg.go [0] [10] rfl rfl (QAll.cons (QOp.q rfl rfl (Quiet1.loadSP (i := 0) (l := [_, _, _]) hT rfl rfl rfl rfl rfl rfl rfl rfl) rfl rfl) QAll.nil) ?_
          refine EAll.cons ?_ EAll.nil
          refine EOp.e rfl rfl rfl (EffX.call (f := 60) (sh := fun h => ref02uSame _ _ h _) (H0 := H) rfl Tryd.call60 rfl (hl := fun w m hr hw => lift_ref02uSame _ _ w m hr _ hw)) ?_
          rintro _ _ ⟨v_40, h0u62, rfl, rfl, H⟩
          apply Stg.next [(100, _), (101, _)] rfl rfl
          refine Stg.fin [11] rfl rfl (QAll.cons (QOp.p hT rfl rfl rfl rfl rfl) QAll.nil) ?_
          refine AtE.then_n (AtE.go ?_)
          refine AtC.condB H rfl (fun H => ?_) (fun H => ?_)
          ·
           refine AtC.seqR ?_
           refine AtL.pures hT 1 _ _ _ _ rfl ?_
           refine AtL.nil ?_
           refine AtE.then_n (AtE.go ?_)
           refine AtC.ret ?_
           refine AtE.then_r ?_
           refine AtE.blk_r ?_
           refine AtE.then_r ?_
           refine AtE.then_r ?_
           refine AtE.blk_r ?_
           refine AtE.blk_r ?_
           refine AtE.then_r ?_
           refine AtE.then_r ?_
           refine AtE.blk_r ?_
           refine AtE.then_r ?_
           exact AtE.retN (rs := [.tmp 4]) rfl (ResAll.cons (ResAt.tmp rfl) ResAll.nil) rfl H
          ·
           refine AtC.skip ?_
           refine AtE.then_n (AtE.go ?_)
           refine AtC.joinSeq (β := Unit) (fun (t0u2 : Bool) (bb_2 : Unit) => [(121, Value.bool t0u2)]) (fun (t0u2 : Bool) (bb_2 : Unit) => []) [0, 5, 8, 11, 67, 68, 69, 73, 74, 75] [2] H (by exact rfl) (by exact rfl) (fun t0u2 bb_2 h0u63 H => ?_) (fun J41 H HK41 => ?_)
           ·
            refine AtC.condB H rfl (fun H => ?_) (fun H => ?_)
            ·
             refine AtC.seqR ?_
             refine AtL.pures hT 1 _ _ _ _ rfl ?_
             refine AtL.nil ?_
             refine AtE.then_n (AtE.go ?_)
             refine AtC.ret ?_
             refine AtE.blk_r ?_
             refine AtE.then_r ?_
             refine AtE.then_r ?_
             refine AtE.blk_r ?_
             refine AtE.blk_r ?_
             refine AtE.then_r ?_
             refine AtE.then_r ?_
             refine AtE.blk_r ?_
             refine AtE.then_r ?_
             exact AtE.retN (rs := [.tmp 4]) rfl (ResAll.cons (ResAt.tmp rfl) ResAll.nil) rfl H
            ·
             refine AtC.skip ?_
             refine AtE.blk_n ?_
             refine AtE.then_n (AtE.go ?_)
             refine AtC.region ?_
             refine AtL.pures hT 2 _ _ _ _ rfl ?_
             refine AtL.nil ?_
             exact AtE.then_n ((HK13 _ _ H).pickP (ts := [75, 0, 5, 8, 11, 67, 68, 69, 73, 74]) (is := [0]) rfl rfl (by decide) rfl)
           ·
            obtain ⟨a_8_, hc41, hd41, H⟩ := H
            obtain ⟨hd42, H⟩ := H
            obtain ⟨v_41, hc43, H⟩ := H
            obtain ⟨a_9_, hc44, hd44, H⟩ := H
            obtain ⟨hd45, H⟩ := H
            obtain ⟨v_42, hc46, H⟩ := H
            apply AtC.stages [10, 14, 16, 17] [[], [], [], [], [], [], [], [], [], [], [], [10], [10], [10], [10], [10], [10, 14], [10, 14, 16], [10, 14, 16, 17], [10, 14, 16, 17]] [[], [], [0, 1], [0, 1, 2], [0, 1, 2, 3], [], [], [5, 6], [5, 6, 7], [5, 6, 7, 8], [0, 1, 2, 3, 4, 5, 6, 7, 8, 9], [0, 1, 2, 3, 4, 5, 6, 7, 8, 9, 10], [0, 1, 2, 3, 4, 5, 6, 7, 8, 9, 10, 11], [0, 1, 2, 3, 4, 5, 6, 7, 8, 9, 10, 11, 12], [0, 1, 2, 3, 4, 5, 6, 7, 8, 9, 10, 11, 12, 13], [0, 1, 2, 3, 4, 5, 6, 7, 8, 9, 10, 11, 12], [0, 1, 2, 3, 4, 5, 6, 7, 8, 9, 10, 11, 12, 13, 14, 15], [0, 1, 2, 3, 4, 5, 6, 7, 8, 9, 10, 11, 12, 13, 14, 15, 16], [0, 1, 2, 3, 4, 5, 6, 7, 8, 9, 10, 11, 12, 13, 14, 15, 16, 17], [0, 1, 2, 3, 4, 5, 6, 7, 8, 9, 10, 11, 12, 13, 14, 15, 16, 17, 18]] hmix (by kernel_rfl) [(102, _), (103, _), (104, _), (105, _), (106, _), (107, _), (108, _), (109, _), (110, _), (111, _)] rfl 4 rfl
            refine Stg.go [0, 1, 2, 3, 4, 5, 6, 7, 8, 9] [10] rfl rfl (QAll.cons (QOp.p hT rfl rfl rfl rfl rfl) (QAll.cons (QOp.p hT rfl rfl rfl rfl rfl) (QAll.cons (QOp.q rfl rfl (Quiet1.idxS (s := _) hT rfl rfl rfl rfl rfl hc41 hd41) rfl rfl) (QAll.cons (QOp.q rfl rfl (Quiet1.idxA hT rfl rfl rfl rfl rfl hd42) rfl rfl) (QAll.cons (QOp.q rfl rfl (Quiet1.loadS hT rfl rfl rfl rfl hc43) rfl rfl) (QAll.cons (QOp.p hT rfl rfl rfl rfl rfl) (QAll.cons (QOp.p hT rfl rfl rfl rfl rfl) (QAll.cons (QOp.q rfl rfl (Quiet1.idxS (s := _) hT rfl rfl rfl rfl rfl hc44 hd44) rfl rfl) (QAll.cons (QOp.q rfl rfl (Quiet1.idxA hT rfl rfl rfl rfl rfl hd45) rfl rfl) (QAll.cons (QOp.q rfl rfl (Quiet1.loadS hT rfl rfl rfl rfl hc46) rfl rfl) QAll.nil)))))))))) ?_
            refine EAll.cons ?_ EAll.nil
            refine EOp.e rfl rfl rfl (EffX.call (f := 52) (sh := fun h => ref03uCmp _ _ h _) (H0 := H) rfl Tryd.call52 rfl (hl := fun w m hr hw => lift_ref03uCmp _ _ w m hr _ hw)) ?_
            rintro _ _ ⟨v_43, h0u64, rfl, rfl, H⟩
            rcases iteB.cases H with ⟨hb47, H⟩ | ⟨hb47, H⟩
            ·
             apply Stg.next [(112, _), (113, _), (114, _), (115, _), (117, _)] rfl rfl
             refine Stg.known (t := 114) rfl hb47 ?_
             refine Stg.go [11, 12, 13, 15] [14] rfl rfl (QAll.cons (QOp.p hT rfl rfl rfl rfl rfl) (QAll.cons (QOp.pk hT rfl rfl rfl rfl hb47 rfl) (QAll.cons (QOp.y rfl rfl rfl rfl (Quiet1.loadSP (i := 0) (l := [_, _, _]) hT rfl rfl rfl rfl rfl rfl rfl rfl) rfl rfl) (QAll.cons (QOp.y rfl rfl rfl rfl (Quiet1.loadSP (i := 1) (l := [_, _, _]) hT rfl rfl rfl rfl rfl rfl rfl rfl) rfl rfl) QAll.nil)))) ?_
             refine EAll.cons ?_ EAll.nil
             refine EOp.y rfl rfl rfl rfl rfl (EffX.call (f := 50) (sh := fun h => ref02uOf _ h _) (H0 := H) rfl Tryd.call50 rfl (hl := fun w m hr hw => lift_ref02uOf _ w m hr _ hw)) ?_
             rintro _ _ ⟨v_44, h0u65, rfl, rfl, H⟩
             apply Stg.next [(116, _)] rfl rfl
             refine Stg.go [15] [16] rfl rfl (QAll.cons (QOp.y rfl rfl rfl rfl (Quiet1.loadSP (i := 1) (l := [_, _, _]) hT rfl rfl rfl rfl rfl rfl rfl rfl) rfl rfl) QAll.nil) ?_
             refine EAll.cons ?_ EAll.nil
             refine EOp.y rfl rfl rfl rfl rfl (EffX.call (f := 50) (sh := fun h => ref02uOf _ h _) (H0 := H) rfl Tryd.call50 rfl (hl := fun w m hr hw => lift_ref02uOf _ w m hr _ hw)) ?_
             rintro _ _ ⟨v_45, h0u66, rfl, rfl, H⟩
             apply Stg.next [(118, _)] rfl rfl
             refine Stg.go [] [17] rfl rfl QAll.nil ?_
             refine EAll.cons ?_ EAll.nil
             refine EOp.y rfl rfl rfl rfl rfl (EffX.call (f := 67) (sh := fun h => ref02uCmp _ _ h _) (H0 := H) rfl Tryd.call67 rfl (hl := fun w m hr hw => lift_ref02uCmp _ _ w m hr _ hw)) ?_
             rintro _ _ ⟨v_46, h0u67, rfl, rfl, H⟩
             apply Stg.next [(119, _), (120, _), (121, _)] rfl rfl
             refine Stg.fin [18, 19] rfl rfl (QAll.cons (QOp.yp hT rfl rfl rfl rfl rfl rfl rfl) (QAll.cons (QOp.p hT rfl rfl rfl rfl rfl) QAll.nil)) ?_
             exact AtE.then_n ((HK41 _ () _ H).pickP (ts := [121, 0, 5, 8, 11, 67, 68, 69, 73, 74, 75]) (is := [2]) rfl rfl (by decide) rfl)
            ·
             apply Stg.next [(112, _), (113, _), (114, _), (115, _), (117, _)] rfl rfl
             refine Stg.known (t := 114) rfl hb47 ?_
             refine Stg.go [11, 12, 13, 15] [14] rfl rfl (QAll.cons (QOp.p hT rfl rfl rfl rfl rfl) (QAll.cons (QOp.pk hT rfl rfl rfl rfl hb47 rfl) (QAll.cons (QOp.no rfl rfl rfl rfl (by decide) rfl rfl) (QAll.cons (QOp.no rfl rfl rfl rfl (by decide) rfl rfl) QAll.nil)))) ?_
             refine EAll.cons ?_ EAll.nil
             refine EOp.no rfl rfl rfl rfl (by decide) rfl ?_
             apply Stg.next [(116, _)] rfl rfl
             refine Stg.go [15] [16] rfl rfl (QAll.cons (QOp.no rfl rfl rfl rfl (by decide) rfl rfl) QAll.nil) ?_
             refine EAll.cons ?_ EAll.nil
             refine EOp.no rfl rfl rfl rfl (by decide) rfl ?_
             apply Stg.next [(118, _)] rfl rfl
             refine Stg.go [] [17] rfl rfl QAll.nil ?_
             refine EAll.cons ?_ EAll.nil
             refine EOp.no rfl rfl rfl rfl (by decide) rfl ?_
             apply Stg.next [(119, _), (120, _), (121, _)] rfl rfl
             refine Stg.fin [18, 19] rfl rfl (QAll.cons (QOp.no rfl rfl rfl rfl (by decide) rfl rfl) (QAll.cons (QOp.p hT rfl rfl rfl rfl rfl) QAll.nil)) ?_
             exact AtE.then_n ((HK41 _ () _ H).pickP (ts := [121, 0, 5, 8, 11, 67, 68, 69, 73, 74, 75]) (is := [2]) rfl rfl (by decide) rfl)
         ·
          apply AtC.stages [4, 9, 10, 11, 12, 13] [[], [], [], [], [], [], [], [], [], [4], [], [], [4, 9, 10, 11], [4, 9, 10, 11, 12]] [[], [], [1], [], [0, 1, 2, 3], [], [], [6], [], [0, 1, 2, 3, 4, 5, 6, 7, 8], [], [], [0, 1, 2, 3, 4, 5, 6, 7, 8, 9, 10, 11], [0, 1, 2, 3, 4, 5, 6, 7, 8, 9, 10, 11, 12]] hmix (by kernel_rfl) [(80, _), (81, _), (82, _), (83, _), (85, _), (86, _), (87, _), (88, _)] rfl 6 rfl
          refine Stg.go [0, 1, 2, 3, 5, 6, 7, 8] [4, 10, 11] rfl rfl (QAll.cons (QOp.p hT rfl rfl rfl rfl rfl) (QAll.cons (QOp.q rfl rfl (Quiet1.idxA hT rfl rfl rfl rfl rfl (by decide)) rfl rfl) (QAll.cons (QOp.q rfl rfl (Quiet1.loadSP (i := 0) (l := [_, _, _, _, _, _]) hT rfl rfl rfl rfl rfl rfl rfl rfl) rfl rfl) (QAll.cons (QOp.q rfl rfl (Quiet1.loadSP (i := 1) (l := [_, _, _]) hT rfl rfl rfl rfl rfl rfl rfl rfl) rfl rfl) (QAll.cons (QOp.p hT rfl rfl rfl rfl rfl) (QAll.cons (QOp.q rfl rfl (Quiet1.idxA hT rfl rfl rfl rfl rfl (by decide)) rfl rfl) (QAll.cons (QOp.q rfl rfl (Quiet1.loadSP (i := 0) (l := [_, _, _, _, _, _]) hT rfl rfl rfl rfl rfl rfl rfl rfl) rfl rfl) (QAll.cons (QOp.q rfl rfl (Quiet1.loadSP (i := 1) (l := [_, _, _]) hT rfl rfl rfl rfl rfl rfl rfl rfl) rfl rfl) QAll.nil)))))))) ?_
          refine EAll.cons ?_ ?_
          ·
           replace H := H.self
           refine EOp.e rfl rfl rfl (EffX.call (f := 65) (sh := fun h => delta_At _ _ _ h _) (H0 := H) rfl Tryd.call65 rfl (hl := fun w m hr hw => lift_delta_At _ _ _ w m hr _ hw)) ?_
           rintro _ _ ⟨v_20, h0u27, rfl, rfl, H⟩
           apply Stg.next [(84, _)] rfl rfl
           refine Stg.go [5, 6, 7, 8] [9, 10, 11] rfl rfl (QAll.cons (QOp.p hT rfl rfl rfl rfl rfl) (QAll.cons (QOp.q rfl rfl (Quiet1.idxA hT rfl rfl rfl rfl rfl (by decide)) rfl rfl) (QAll.cons (QOp.q rfl rfl (Quiet1.loadSP (i := 0) (l := [_, _, _, _, _, _]) hT rfl rfl rfl rfl rfl rfl rfl rfl) rfl rfl) (QAll.cons (QOp.q rfl rfl (Quiet1.loadSP (i := 1) (l := [_, _, _]) hT rfl rfl rfl rfl rfl rfl rfl rfl) rfl rfl) QAll.nil)))) ?_
           refine EAll.cons ?_ ?_
           ·
            replace H := H.self
            refine EOp.e rfl rfl rfl (EffX.call (f := 65) (sh := fun h => delta_At _ _ _ h _) (H0 := H) rfl Tryd.call65 rfl (hl := fun w m hr hw => lift_delta_At _ _ _ w m hr _ hw)) ?_
            rintro _ _ ⟨v_21, h0u29, rfl, rfl, H⟩
            apply Stg.next [(89, _)] rfl rfl
            refine Stg.go [] [10, 11] rfl rfl QAll.nil ?_
            refine EAll.cons ?_ ?_
            ·
             refine EOp.e rfl rfl rfl (EffX.allocP (cs := [_, _, _]) hT rfl rfl H) ?_
             rintro _ _ ⟨b_4, _, rfl, rfl, he18, H⟩
             apply Stg.next [(14, _)] rfl rfl
             refine Stg.go [] [11] rfl rfl QAll.nil ?_
             refine EAll.cons ?_ EAll.nil
             refine EOp.e rfl rfl rfl (EffX.allocP (cs := [_, _, _]) hT rfl rfl H) ?_
             rintro _ _ ⟨b_5, _, rfl, rfl, he19, H⟩
             apply Stg.next [(15, _)] rfl rfl
             refine Stg.go [] [12] rfl rfl QAll.nil ?_
             refine EAll.cons ?_ EAll.nil
             refine EOp.e rfl rfl rfl (EffX.storeSP (i := 1) (qv := [(_, [_, _, _]), (_, [_, _, _]), (_, [_, _, _, _, _, _, _, _, _, _, _, _]), (_, [_, _, _])]) hT rfl rfl rfl rfl rfl rfl rfl rfl rfl rfl) ?_
             rintro _ _ rfl
             apply Stg.next [] rfl rfl
             refine Stg.go [] [13] rfl rfl QAll.nil ?_
             refine EAll.cons ?_ EAll.nil
             refine EOp.e rfl rfl rfl (EffX.storeSP (i := 0) (qv := [(_, [_, _, _]), (_, [_, _, _]), (_, [_, _, _, _, _, _, _, _, _, _, _, _]), (_, [_, _, _])]) hT rfl rfl rfl rfl rfl rfl rfl rfl rfl rfl) ?_
             rintro _ _ rfl
             apply Stg.next [] rfl rfl
             refine Stg.fin [] rfl rfl QAll.nil ?_
             replace H := H.self
             exact AtE.then_n ((HK16 _ (b_4, b_5) _ H).pickP (ts := [14, 15, 0, 5, 8, 11, 12, 67, 68, 69, 73, 74, 75]) (is := [1, 0, 3]) rfl rfl (by decide) rfl)
            refine EAll.cons ?_ EAll.nil
            refine EOp.e rfl rfl rfl (EffX.allocP (cs := [_, _, _]) hT rfl rfl H) ?_
            rintro _ _ ⟨b_6, _, rfl, rfl, he20, H⟩
            apply Stg.next [(15, _)] rfl rfl
            refine Stg.go [] [10] rfl rfl QAll.nil ?_
            refine EAll.cons ?_ EAll.nil
            refine EOp.e rfl rfl rfl (EffX.allocP (cs := [_, _, _]) hT rfl rfl H) ?_
            rintro _ _ ⟨b_7, _, rfl, rfl, he21, H⟩
            apply Stg.next [(14, _)] rfl rfl
            refine Stg.go [] [12] rfl rfl QAll.nil ?_
            refine EAll.cons ?_ EAll.nil
            refine EOp.e rfl rfl rfl (EffX.storeSP (i := 0) (qv := [(_, [_, _, _]), (_, [_, _, _]), (_, [_, _, _, _, _, _, _, _, _, _, _, _]), (_, [_, _, _])]) hT rfl rfl rfl rfl rfl rfl rfl rfl rfl rfl) ?_
            rintro _ _ rfl
            apply Stg.next [] rfl rfl
            refine Stg.go [] [13] rfl rfl QAll.nil ?_
            refine EAll.cons ?_ EAll.nil
            refine EOp.e rfl rfl rfl (EffX.storeSP (i := 1) (qv := [(_, [_, _, _]), (_, [_, _, _]), (_, [_, _, _, _, _, _, _, _, _, _, _, _]), (_, [_, _, _])]) hT rfl rfl rfl rfl rfl rfl rfl rfl rfl rfl) ?_
            rintro _ _ rfl
            apply Stg.next [] rfl rfl
            refine Stg.fin [] rfl rfl QAll.nil ?_
            replace H := H.self
            exact AtE.then_n ((HK16 _ (b_7, b_6) _ H).pickP (ts := [14, 15, 0, 5, 8, 11, 12, 67, 68, 69, 73, 74, 75]) (is := [0, 1, 3]) rfl rfl (by decide) rfl)
           refine EAll.cons ?_ ?_
           ·
            refine EOp.e rfl rfl rfl (EffX.allocP (cs := [_, _, _]) hT rfl rfl H) ?_
            rintro _ _ ⟨b_8, _, rfl, rfl, he22, H⟩
            apply Stg.next [(14, _)] rfl rfl
            refine Stg.go [5, 6, 7, 8] [9, 11] rfl rfl (QAll.cons (QOp.p hT rfl rfl rfl rfl rfl) (QAll.cons (QOp.q rfl rfl (Quiet1.idxA hT rfl rfl rfl rfl rfl (by decide)) rfl rfl) (QAll.cons (QOp.q rfl rfl (Quiet1.loadSP (i := 1) (l := [_, _, _, _, _, _]) hT rfl rfl rfl rfl rfl rfl rfl rfl) rfl rfl) (QAll.cons (QOp.q rfl rfl (Quiet1.loadSP (i := 2) (l := [_, _, _]) hT rfl rfl rfl rfl rfl rfl rfl rfl) rfl rfl) QAll.nil)))) ?_
            refine EAll.cons ?_ ?_
            ·
             replace H := H.self
             refine EOp.e rfl rfl rfl (EffX.call (f := 65) (sh := fun h => delta_At _ _ _ h _) (H0 := H) rfl Tryd.call65 rfl (hl := fun w m hr hw => lift_delta_At _ _ _ w m hr _ hw)) ?_
             rintro _ _ ⟨v_22, h0u31, rfl, rfl, H⟩
             apply Stg.next [(89, _)] rfl rfl
             refine Stg.go [] [11] rfl rfl QAll.nil ?_
             refine EAll.cons ?_ EAll.nil
             refine EOp.e rfl rfl rfl (EffX.allocP (cs := [_, _, _]) hT rfl rfl H) ?_
             rintro _ _ ⟨b_9, _, rfl, rfl, he23, H⟩
             apply Stg.next [(15, _)] rfl rfl
             refine Stg.go [] [12] rfl rfl QAll.nil ?_
             refine EAll.cons ?_ EAll.nil
             refine EOp.e rfl rfl rfl (EffX.storeSP (i := 1) (qv := [(_, [_, _, _]), (_, [_, _, _]), (_, [_, _, _, _, _, _, _, _, _, _, _, _]), (_, [_, _, _])]) hT rfl rfl rfl rfl rfl rfl rfl rfl rfl rfl) ?_
             rintro _ _ rfl
             apply Stg.next [] rfl rfl
             refine Stg.go [] [13] rfl rfl QAll.nil ?_
             refine EAll.cons ?_ EAll.nil
             refine EOp.e rfl rfl rfl (EffX.storeSP (i := 0) (qv := [(_, [_, _, _]), (_, [_, _, _]), (_, [_, _, _, _, _, _, _, _, _, _, _, _]), (_, [_, _, _])]) hT rfl rfl rfl rfl rfl rfl rfl rfl rfl rfl) ?_
             rintro _ _ rfl
             apply Stg.next [] rfl rfl
             refine Stg.fin [] rfl rfl QAll.nil ?_
             replace H := H.self
             exact AtE.then_n ((HK16 _ (b_8, b_9) _ H).pickP (ts := [14, 15, 0, 5, 8, 11, 12, 67, 68, 69, 73, 74, 75]) (is := [1, 0, 3]) rfl rfl (by decide) rfl)
            refine EAll.cons ?_ EAll.nil
            refine EOp.e rfl rfl rfl (EffX.allocP (cs := [_, _, _]) hT rfl rfl H) ?_
            rintro _ _ ⟨b_10, _, rfl, rfl, he24, H⟩
            apply Stg.next [(15, _)] rfl rfl
            refine Stg.go [5, 6, 7, 8] [9] rfl rfl (QAll.cons (QOp.p hT rfl rfl rfl rfl rfl) (QAll.cons (QOp.q rfl rfl (Quiet1.idxA hT rfl rfl rfl rfl rfl (by decide)) rfl rfl) (QAll.cons (QOp.q rfl rfl (Quiet1.loadSP (i := 2) (l := [_, _, _, _, _, _]) hT rfl rfl rfl rfl rfl rfl rfl rfl) rfl rfl) (QAll.cons (QOp.q rfl rfl (Quiet1.loadSP (i := 3) (l := [_, _, _]) hT rfl rfl rfl rfl rfl rfl rfl rfl) rfl rfl) QAll.nil)))) ?_
            refine EAll.cons ?_ EAll.nil
            replace H := H.self
            refine EOp.e rfl rfl rfl (EffX.call (f := 65) (sh := fun h => delta_At _ _ _ h _) (H0 := H) rfl Tryd.call65 rfl (hl := fun w m hr hw => lift_delta_At _ _ _ w m hr _ hw)) ?_
            rintro _ _ ⟨v_23, h0u33, rfl, rfl, H⟩
            apply Stg.next [(89, _)] rfl rfl
            refine Stg.go [] [12] rfl rfl QAll.nil ?_
            refine EAll.cons ?_ EAll.nil
            refine EOp.e rfl rfl rfl (EffX.storeSP (i := 1) (qv := [(_, [_, _, _]), (_, [_, _, _]), (_, [_, _, _, _, _, _, _, _, _, _, _, _]), (_, [_, _, _])]) hT rfl rfl rfl rfl rfl rfl rfl rfl rfl rfl) ?_
            rintro _ _ rfl
            apply Stg.next [] rfl rfl
            refine Stg.go [] [13] rfl rfl QAll.nil ?_
            refine EAll.cons ?_ EAll.nil
            refine EOp.e rfl rfl rfl (EffX.storeSP (i := 0) (qv := [(_, [_, _, _]), (_, [_, _, _]), (_, [_, _, _, _, _, _, _, _, _, _, _, _]), (_, [_, _, _])]) hT rfl rfl rfl rfl rfl rfl rfl rfl rfl rfl) ?_
            rintro _ _ rfl
            apply Stg.next [] rfl rfl
            refine Stg.fin [] rfl rfl QAll.nil ?_
            replace H := H.self
            exact AtE.then_n ((HK16 _ (b_8, b_10) _ H).pickP (ts := [14, 15, 0, 5, 8, 11, 12, 67, 68, 69, 73, 74, 75]) (is := [1, 0, 3]) rfl rfl (by decide) rfl)
           refine EAll.cons ?_ EAll.nil
           refine EOp.e rfl rfl rfl (EffX.allocP (cs := [_, _, _]) hT rfl rfl H) ?_
           rintro _ _ ⟨b_11, _, rfl, rfl, he25, H⟩
           apply Stg.next [(15, _)] rfl rfl
           refine Stg.go [5, 6, 7, 8] [9, 10] rfl rfl (QAll.cons (QOp.p hT rfl rfl rfl rfl rfl) (QAll.cons (QOp.q rfl rfl (Quiet1.idxA hT rfl rfl rfl rfl rfl (by decide)) rfl rfl) (QAll.cons (QOp.q rfl rfl (Quiet1.loadSP (i := 1) (l := [_, _, _, _, _, _]) hT rfl rfl rfl rfl rfl rfl rfl rfl) rfl rfl) (QAll.cons (QOp.q rfl rfl (Quiet1.loadSP (i := 2) (l := [_, _, _]) hT rfl rfl rfl rfl rfl rfl rfl rfl) rfl rfl) QAll.nil)))) ?_
           refine EAll.cons ?_ ?_
           ·
            replace H := H.self
            refine EOp.e rfl rfl rfl (EffX.call (f := 65) (sh := fun h => delta_At _ _ _ h _) (H0 := H) rfl Tryd.call65 rfl (hl := fun w m hr hw => lift_delta_At _ _ _ w m hr _ hw)) ?_
            rintro _ _ ⟨v_24, h0u35, rfl, rfl, H⟩
            apply Stg.next [(89, _)] rfl rfl
            refine Stg.go [] [10] rfl rfl QAll.nil ?_
            refine EAll.cons ?_ EAll.nil
            refine EOp.e rfl rfl rfl (EffX.allocP (cs := [_, _, _]) hT rfl rfl H) ?_
            rintro _ _ ⟨b_12, _, rfl, rfl, he26, H⟩
            apply Stg.next [(14, _)] rfl rfl
            refine Stg.go [] [12] rfl rfl QAll.nil ?_
            refine EAll.cons ?_ EAll.nil
            refine EOp.e rfl rfl rfl (EffX.storeSP (i := 0) (qv := [(_, [_, _, _]), (_, [_, _, _]), (_, [_, _, _, _, _, _, _, _, _, _, _, _]), (_, [_, _, _])]) hT rfl rfl rfl rfl rfl rfl rfl rfl rfl rfl) ?_
            rintro _ _ rfl
            apply Stg.next [] rfl rfl
            refine Stg.go [] [13] rfl rfl QAll.nil ?_
            refine EAll.cons ?_ EAll.nil
            refine EOp.e rfl rfl rfl (EffX.storeSP (i := 1) (qv := [(_, [_, _, _]), (_, [_, _, _]), (_, [_, _, _, _, _, _, _, _, _, _, _, _]), (_, [_, _, _])]) hT rfl rfl rfl rfl rfl rfl rfl rfl rfl rfl) ?_
            rintro _ _ rfl
            apply Stg.next [] rfl rfl
            refine Stg.fin [] rfl rfl QAll.nil ?_
            replace H := H.self
            exact AtE.then_n ((HK16 _ (b_12, b_11) _ H).pickP (ts := [14, 15, 0, 5, 8, 11, 12, 67, 68, 69, 73, 74, 75]) (is := [0, 1, 3]) rfl rfl (by decide) rfl)
           refine EAll.cons ?_ EAll.nil
           refine EOp.e rfl rfl rfl (EffX.allocP (cs := [_, _, _]) hT rfl rfl H) ?_
           rintro _ _ ⟨b_13, _, rfl, rfl, he27, H⟩
           apply Stg.next [(14, _)] rfl rfl
           refine Stg.go [5, 6, 7, 8] [9] rfl rfl (QAll.cons (QOp.p hT rfl rfl rfl rfl rfl) (QAll.cons (QOp.q rfl rfl (Quiet1.idxA hT rfl rfl rfl rfl rfl (by decide)) rfl rfl) (QAll.cons (QOp.q rfl rfl (Quiet1.loadSP (i := 2) (l := [_, _, _, _, _, _]) hT rfl rfl rfl rfl rfl rfl rfl rfl) rfl rfl) (QAll.cons (QOp.q rfl rfl (Quiet1.loadSP (i := 3) (l := [_, _, _]) hT rfl rfl rfl rfl rfl rfl rfl rfl) rfl rfl) QAll.nil)))) ?_
           refine EAll.cons ?_ EAll.nil
           replace H := H.self
           refine EOp.e rfl rfl rfl (EffX.call (f := 65) (sh := fun h => delta_At _ _ _ h _) (H0 := H) rfl Tryd.call65 rfl (hl := fun w m hr hw => lift_delta_At _ _ _ w m hr _ hw)) ?_
           rintro _ _ ⟨v_25, h0u37, rfl, rfl, H⟩
           apply Stg.next [(89, _)] rfl rfl
           refine Stg.go [] [12] rfl rfl QAll.nil ?_
           refine EAll.cons ?_ EAll.nil
           refine EOp.e rfl rfl rfl (EffX.storeSP (i := 0) (qv := [(_, [_, _, _]), (_, [_, _, _]), (_, [_, _, _, _, _, _, _, _, _, _, _, _]), (_, [_, _, _])]) hT rfl rfl rfl rfl rfl rfl rfl rfl rfl rfl) ?_
           rintro _ _ rfl
           apply Stg.next [] rfl rfl
           refine Stg.go [] [13] rfl rfl QAll.nil ?_
           refine EAll.cons ?_ EAll.nil
           refine EOp.e rfl rfl rfl (EffX.storeSP (i := 1) (qv := [(_, [_, _, _]), (_, [_, _, _]), (_, [_, _, _, _, _, _, _, _, _, _, _, _]), (_, [_, _, _])]) hT rfl rfl rfl rfl rfl rfl rfl rfl rfl rfl) ?_
           rintro _ _ rfl
           apply Stg.next [] rfl rfl
           refine Stg.fin [] rfl rfl QAll.nil ?_
           replace H := H.self
           exact AtE.then_n ((HK16 _ (b_13, b_11) _ H).pickP (ts := [14, 15, 0, 5, 8, 11, 12, 67, 68, 69, 73, 74, 75]) (is := [0, 1, 3]) rfl rfl (by decide) rfl)
          refine EAll.cons ?_ ?_
          ·
           refine EOp.e rfl rfl rfl (EffX.allocP (cs := [_, _, _]) hT rfl rfl H) ?_
           rintro _ _ ⟨b_14, _, rfl, rfl, he28, H⟩
           apply Stg.next [(14, _)] rfl rfl
           refine Stg.go [0, 1, 2, 3, 5, 6, 7, 8] [4, 11] rfl rfl (QAll.cons (QOp.p hT rfl rfl rfl rfl rfl) (QAll.cons (QOp.q rfl rfl (Quiet1.idxA hT rfl rfl rfl rfl rfl (by decide)) rfl rfl) (QAll.cons (QOp.q rfl rfl (Quiet1.loadSP (i := 1) (l := [_, _, _, _, _, _]) hT rfl rfl rfl rfl rfl rfl rfl rfl) rfl rfl) (QAll.cons (QOp.q rfl rfl (Quiet1.loadSP (i := 2) (l := [_, _, _]) hT rfl rfl rfl rfl rfl rfl rfl rfl) rfl rfl) (QAll.cons (QOp.p hT rfl rfl rfl rfl rfl) (QAll.cons (QOp.q rfl rfl (Quiet1.idxA hT rfl rfl rfl rfl rfl (by decide)) rfl rfl) (QAll.cons (QOp.q rfl rfl (Quiet1.loadSP (i := 1) (l := [_, _, _, _, _, _]) hT rfl rfl rfl rfl rfl rfl rfl rfl) rfl rfl) (QAll.cons (QOp.q rfl rfl (Quiet1.loadSP (i := 2) (l := [_, _, _]) hT rfl rfl rfl rfl rfl rfl rfl rfl) rfl rfl) QAll.nil)))))))) ?_
           refine EAll.cons ?_ ?_
           ·
            replace H := H.self
            refine EOp.e rfl rfl rfl (EffX.call (f := 65) (sh := fun h => delta_At _ _ _ h _) (H0 := H) rfl Tryd.call65 rfl (hl := fun w m hr hw => lift_delta_At _ _ _ w m hr _ hw)) ?_
            rintro _ _ ⟨v_26, h0u39, rfl, rfl, H⟩
            apply Stg.next [(84, _)] rfl rfl
            refine Stg.go [5, 6, 7, 8] [9, 11] rfl rfl (QAll.cons (QOp.p hT rfl rfl rfl rfl rfl) (QAll.cons (QOp.q rfl rfl (Quiet1.idxA hT rfl rfl rfl rfl rfl (by decide)) rfl rfl) (QAll.cons (QOp.q rfl rfl (Quiet1.loadSP (i := 1) (l := [_, _, _, _, _, _]) hT rfl rfl rfl rfl rfl rfl rfl rfl) rfl rfl) (QAll.cons (QOp.q rfl rfl (Quiet1.loadSP (i := 2) (l := [_, _, _]) hT rfl rfl rfl rfl rfl rfl rfl rfl) rfl rfl) QAll.nil)))) ?_
            refine EAll.cons ?_ ?_
            ·
             replace H := H.self
             refine EOp.e rfl rfl rfl (EffX.call (f := 65) (sh := fun h => delta_At _ _ _ h _) (H0 := H) rfl Tryd.call65 rfl (hl := fun w m hr hw => lift_delta_At _ _ _ w m hr _ hw)) ?_
             rintro _ _ ⟨v_27, h0u41, rfl, rfl, H⟩
             apply Stg.next [(89, _)] rfl rfl
             refine Stg.go [] [11] rfl rfl QAll.nil ?_
             refine EAll.cons ?_ EAll.nil
             refine EOp.e rfl rfl rfl (EffX.allocP (cs := [_, _, _]) hT rfl rfl H) ?_
             rintro _ _ ⟨b_15, _, rfl, rfl, he29, H⟩
             apply Stg.next [(15, _)] rfl rfl
             refine Stg.go [] [12] rfl rfl QAll.nil ?_
             refine EAll.cons ?_ EAll.nil
             refine EOp.e rfl rfl rfl (EffX.storeSP (i := 1) (qv := [(_, [_, _, _]), (_, [_, _, _]), (_, [_, _, _, _, _, _, _, _, _, _, _, _]), (_, [_, _, _])]) hT rfl rfl rfl rfl rfl rfl rfl rfl rfl rfl) ?_
             rintro _ _ rfl
             apply Stg.next [] rfl rfl
             refine Stg.go [] [13] rfl rfl QAll.nil ?_
             refine EAll.cons ?_ EAll.nil
             refine EOp.e rfl rfl rfl (EffX.storeSP (i := 0) (qv := [(_, [_, _, _]), (_, [_, _, _]), (_, [_, _, _, _, _, _, _, _, _, _, _, _]), (_, [_, _, _])]) hT rfl rfl rfl rfl rfl rfl rfl rfl rfl rfl) ?_
             rintro _ _ rfl
             apply Stg.next [] rfl rfl
             refine Stg.fin [] rfl rfl QAll.nil ?_
             replace H := H.self
             exact AtE.then_n ((HK16 _ (b_14, b_15) _ H).pickP (ts := [14, 15, 0, 5, 8, 11, 12, 67, 68, 69, 73, 74, 75]) (is := [1, 0, 3]) rfl rfl (by decide) rfl)
            refine EAll.cons ?_ EAll.nil
            refine EOp.e rfl rfl rfl (EffX.allocP (cs := [_, _, _]) hT rfl rfl H) ?_
            rintro _ _ ⟨b_16, _, rfl, rfl, he30, H⟩
            apply Stg.next [(15, _)] rfl rfl
            refine Stg.go [5, 6, 7, 8] [9] rfl rfl (QAll.cons (QOp.p hT rfl rfl rfl rfl rfl) (QAll.cons (QOp.q rfl rfl (Quiet1.idxA hT rfl rfl rfl rfl rfl (by decide)) rfl rfl) (QAll.cons (QOp.q rfl rfl (Quiet1.loadSP (i := 2) (l := [_, _, _, _, _, _]) hT rfl rfl rfl rfl rfl rfl rfl rfl) rfl rfl) (QAll.cons (QOp.q rfl rfl (Quiet1.loadSP (i := 3) (l := [_, _, _]) hT rfl rfl rfl rfl rfl rfl rfl rfl) rfl rfl) QAll.nil)))) ?_
            refine EAll.cons ?_ EAll.nil
            replace H := H.self
            refine EOp.e rfl rfl rfl (EffX.call (f := 65) (sh := fun h => delta_At _ _ _ h _) (H0 := H) rfl Tryd.call65 rfl (hl := fun w m hr hw => lift_delta_At _ _ _ w m hr _ hw)) ?_
            rintro _ _ ⟨v_28, h0u43, rfl, rfl, H⟩
            apply Stg.next [(89, _)] rfl rfl
            refine Stg.go [] [12] rfl rfl QAll.nil ?_
            refine EAll.cons ?_ EAll.nil
            refine EOp.e rfl rfl rfl (EffX.storeSP (i := 1) (qv := [(_, [_, _, _]), (_, [_, _, _]), (_, [_, _, _, _, _, _, _, _, _, _, _, _]), (_, [_, _, _])]) hT rfl rfl rfl rfl rfl rfl rfl rfl rfl rfl) ?_
            rintro _ _ rfl
            apply Stg.next [] rfl rfl
            refine Stg.go [] [13] rfl rfl QAll.nil ?_
            refine EAll.cons ?_ EAll.nil
            refine EOp.e rfl rfl rfl (EffX.storeSP (i := 0) (qv := [(_, [_, _, _]), (_, [_, _, _]), (_, [_, _, _, _, _, _, _, _, _, _, _, _]), (_, [_, _, _])]) hT rfl rfl rfl rfl rfl rfl rfl rfl rfl rfl) ?_
            rintro _ _ rfl
            apply Stg.next [] rfl rfl
            refine Stg.fin [] rfl rfl QAll.nil ?_
            replace H := H.self
            exact AtE.then_n ((HK16 _ (b_14, b_16) _ H).pickP (ts := [14, 15, 0, 5, 8, 11, 12, 67, 68, 69, 73, 74, 75]) (is := [1, 0, 3]) rfl rfl (by decide) rfl)
           refine EAll.cons ?_ EAll.nil
           refine EOp.e rfl rfl rfl (EffX.allocP (cs := [_, _, _]) hT rfl rfl H) ?_
           rintro _ _ ⟨b_17, _, rfl, rfl, he31, H⟩
           apply Stg.next [(15, _)] rfl rfl
           refine Stg.go [0, 1, 2, 3, 5, 6, 7, 8] [4] rfl rfl (QAll.cons (QOp.p hT rfl rfl rfl rfl rfl) (QAll.cons (QOp.q rfl rfl (Quiet1.idxA hT rfl rfl rfl rfl rfl (by decide)) rfl rfl) (QAll.cons (QOp.q rfl rfl (Quiet1.loadSP (i := 2) (l := [_, _, _, _, _, _]) hT rfl rfl rfl rfl rfl rfl rfl rfl) rfl rfl) (QAll.cons (QOp.q rfl rfl (Quiet1.loadSP (i := 3) (l := [_, _, _]) hT rfl rfl rfl rfl rfl rfl rfl rfl) rfl rfl) (QAll.cons (QOp.p hT rfl rfl rfl rfl rfl) (QAll.cons (QOp.q rfl rfl (Quiet1.idxA hT rfl rfl rfl rfl rfl (by decide)) rfl rfl) (QAll.cons (QOp.q rfl rfl (Quiet1.loadSP (i := 2) (l := [_, _, _, _, _, _]) hT rfl rfl rfl rfl rfl rfl rfl rfl) rfl rfl) (QAll.cons (QOp.q rfl rfl (Quiet1.loadSP (i := 3) (l := [_, _, _]) hT rfl rfl rfl rfl rfl rfl rfl rfl) rfl rfl) QAll.nil)))))))) ?_
           refine EAll.cons ?_ EAll.nil
           replace H := H.self
           refine EOp.e rfl rfl rfl (EffX.call (f := 65) (sh := fun h => delta_At _ _ _ h _) (H0 := H) rfl Tryd.call65 rfl (hl := fun w m hr hw => lift_delta_At _ _ _ w m hr _ hw)) ?_
           rintro _ _ ⟨v_29, h0u45, rfl, rfl, H⟩
           apply Stg.next [(84, _)] rfl rfl
           refine Stg.go [5, 6, 7, 8] [9] rfl rfl (QAll.cons (QOp.p hT rfl rfl rfl rfl rfl) (QAll.cons (QOp.q rfl rfl (Quiet1.idxA hT rfl rfl rfl rfl rfl (by decide)) rfl rfl) (QAll.cons (QOp.q rfl rfl (Quiet1.loadSP (i := 2) (l := [_, _, _, _, _, _]) hT rfl rfl rfl rfl rfl rfl rfl rfl) rfl rfl) (QAll.cons (QOp.q rfl rfl (Quiet1.loadSP (i := 3) (l := [_, _, _]) hT rfl rfl rfl rfl rfl rfl rfl rfl) rfl rfl) QAll.nil)))) ?_
           refine EAll.cons ?_ EAll.nil
           replace H := H.self
           refine EOp.e rfl rfl rfl (EffX.call (f := 65) (sh := fun h => delta_At _ _ _ h _) (H0 := H) rfl Tryd.call65 rfl (hl := fun w m hr hw => lift_delta_At _ _ _ w m hr _ hw)) ?_
           rintro _ _ ⟨v_30, h0u47, rfl, rfl, H⟩
           apply Stg.next [(89, _)] rfl rfl
           refine Stg.go [] [12] rfl rfl QAll.nil ?_
           refine EAll.cons ?_ EAll.nil
           refine EOp.e rfl rfl rfl (EffX.storeSP (i := 1) (qv := [(_, [_, _, _]), (_, [_, _, _]), (_, [_, _, _, _, _, _, _, _, _, _, _, _]), (_, [_, _, _])]) hT rfl rfl rfl rfl rfl rfl rfl rfl rfl rfl) ?_
           rintro _ _ rfl
           apply Stg.next [] rfl rfl
           refine Stg.go [] [13] rfl rfl QAll.nil ?_
           refine EAll.cons ?_ EAll.nil
           refine EOp.e rfl rfl rfl (EffX.storeSP (i := 0) (qv := [(_, [_, _, _]), (_, [_, _, _]), (_, [_, _, _, _, _, _, _, _, _, _, _, _]), (_, [_, _, _])]) hT rfl rfl rfl rfl rfl rfl rfl rfl rfl rfl) ?_
           rintro _ _ rfl
           apply Stg.next [] rfl rfl
           refine Stg.fin [] rfl rfl QAll.nil ?_
           replace H := H.self
           exact AtE.then_n ((HK16 _ (b_14, b_17) _ H).pickP (ts := [14, 15, 0, 5, 8, 11, 12, 67, 68, 69, 73, 74, 75]) (is := [1, 0, 3]) rfl rfl (by decide) rfl)
          refine EAll.cons ?_ EAll.nil
          refine EOp.e rfl rfl rfl (EffX.allocP (cs := [_, _, _]) hT rfl rfl H) ?_
          rintro _ _ ⟨b_18, _, rfl, rfl, he32, H⟩
          apply Stg.next [(15, _)] rfl rfl
          refine Stg.go [0, 1, 2, 3, 5, 6, 7, 8] [4, 10] rfl rfl (QAll.cons (QOp.p hT rfl rfl rfl rfl rfl) (QAll.cons (QOp.q rfl rfl (Quiet1.idxA hT rfl rfl rfl rfl rfl (by decide)) rfl rfl) (QAll.cons (QOp.q rfl rfl (Quiet1.loadSP (i := 1) (l := [_, _, _, _, _, _]) hT rfl rfl rfl rfl rfl rfl rfl rfl) rfl rfl) (QAll.cons (QOp.q rfl rfl (Quiet1.loadSP (i := 2) (l := [_, _, _]) hT rfl rfl rfl rfl rfl rfl rfl rfl) rfl rfl) (QAll.cons (QOp.p hT rfl rfl rfl rfl rfl) (QAll.cons (QOp.q rfl rfl (Quiet1.idxA hT rfl rfl rfl rfl rfl (by decide)) rfl rfl) (QAll.cons (QOp.q rfl rfl (Quiet1.loadSP (i := 1) (l := [_, _, _, _, _, _]) hT rfl rfl rfl rfl rfl rfl rfl rfl) rfl rfl) (QAll.cons (QOp.q rfl rfl (Quiet1.loadSP (i := 2) (l := [_, _, _]) hT rfl rfl rfl rfl rfl rfl rfl rfl) rfl rfl) QAll.nil)))))))) ?_
          refine EAll.cons ?_ ?_
          ·
           replace H := H.self
           refine EOp.e rfl rfl rfl (EffX.call (f := 65) (sh := fun h => delta_At _ _ _ h _) (H0 := H) rfl Tryd.call65 rfl (hl := fun w m hr hw => lift_delta_At _ _ _ w m hr _ hw)) ?_
           rintro _ _ ⟨v_31, h0u49, rfl, rfl, H⟩
           apply Stg.next [(84, _)] rfl rfl
           refine Stg.go [5, 6, 7, 8] [9, 10] rfl rfl (QAll.cons (QOp.p hT rfl rfl rfl rfl rfl) (QAll.cons (QOp.q rfl rfl (Quiet1.idxA hT rfl rfl rfl rfl rfl (by decide)) rfl rfl) (QAll.cons (QOp.q rfl rfl (Quiet1.loadSP (i := 1) (l := [_, _, _, _, _, _]) hT rfl rfl rfl rfl rfl rfl rfl rfl) rfl rfl) (QAll.cons (QOp.q rfl rfl (Quiet1.loadSP (i := 2) (l := [_, _, _]) hT rfl rfl rfl rfl rfl rfl rfl rfl) rfl rfl) QAll.nil)))) ?_
           refine EAll.cons ?_ ?_
           ·
            replace H := H.self
            refine EOp.e rfl rfl rfl (EffX.call (f := 65) (sh := fun h => delta_At _ _ _ h _) (H0 := H) rfl Tryd.call65 rfl (hl := fun w m hr hw => lift_delta_At _ _ _ w m hr _ hw)) ?_
            rintro _ _ ⟨v_32, h0u51, rfl, rfl, H⟩
            apply Stg.next [(89, _)] rfl rfl
            refine Stg.go [] [10] rfl rfl QAll.nil ?_
            refine EAll.cons ?_ EAll.nil
            refine EOp.e rfl rfl rfl (EffX.allocP (cs := [_, _, _]) hT rfl rfl H) ?_
            rintro _ _ ⟨b_19, _, rfl, rfl, he33, H⟩
            apply Stg.next [(14, _)] rfl rfl
            refine Stg.go [] [12] rfl rfl QAll.nil ?_
            refine EAll.cons ?_ EAll.nil
            refine EOp.e rfl rfl rfl (EffX.storeSP (i := 0) (qv := [(_, [_, _, _]), (_, [_, _, _]), (_, [_, _, _, _, _, _, _, _, _, _, _, _]), (_, [_, _, _])]) hT rfl rfl rfl rfl rfl rfl rfl rfl rfl rfl) ?_
            rintro _ _ rfl
            apply Stg.next [] rfl rfl
            refine Stg.go [] [13] rfl rfl QAll.nil ?_
            refine EAll.cons ?_ EAll.nil
            refine EOp.e rfl rfl rfl (EffX.storeSP (i := 1) (qv := [(_, [_, _, _]), (_, [_, _, _]), (_, [_, _, _, _, _, _, _, _, _, _, _, _]), (_, [_, _, _])]) hT rfl rfl rfl rfl rfl rfl rfl rfl rfl rfl) ?_
            rintro _ _ rfl
            apply Stg.next [] rfl rfl
            refine Stg.fin [] rfl rfl QAll.nil ?_
            replace H := H.self
            exact AtE.then_n ((HK16 _ (b_19, b_18) _ H).pickP (ts := [14, 15, 0, 5, 8, 11, 12, 67, 68, 69, 73, 74, 75]) (is := [0, 1, 3]) rfl rfl (by decide) rfl)
           refine EAll.cons ?_ EAll.nil
           refine EOp.e rfl rfl rfl (EffX.allocP (cs := [_, _, _]) hT rfl rfl H) ?_
           rintro _ _ ⟨b_20, _, rfl, rfl, he34, H⟩
           apply Stg.next [(14, _)] rfl rfl
           refine Stg.go [5, 6, 7, 8] [9] rfl rfl (QAll.cons (QOp.p hT rfl rfl rfl rfl rfl) (QAll.cons (QOp.q rfl rfl (Quiet1.idxA hT rfl rfl rfl rfl rfl (by decide)) rfl rfl) (QAll.cons (QOp.q rfl rfl (Quiet1.loadSP (i := 2) (l := [_, _, _, _, _, _]) hT rfl rfl rfl rfl rfl rfl rfl rfl) rfl rfl) (QAll.cons (QOp.q rfl rfl (Quiet1.loadSP (i := 3) (l := [_, _, _]) hT rfl rfl rfl rfl rfl rfl rfl rfl) rfl rfl) QAll.nil)))) ?_
           refine EAll.cons ?_ EAll.nil
           replace H := H.self
           refine EOp.e rfl rfl rfl (EffX.call (f := 65) (sh := fun h => delta_At _ _ _ h _) (H0 := H) rfl Tryd.call65 rfl (hl := fun w m hr hw => lift_delta_At _ _ _ w m hr _ hw)) ?_
           rintro _ _ ⟨v_33, h0u53, rfl, rfl, H⟩
           apply Stg.next [(89, _)] rfl rfl
           refine Stg.go [] [12] rfl rfl QAll.nil ?_
           refine EAll.cons ?_ EAll.nil
           refine EOp.e rfl rfl rfl (EffX.storeSP (i := 0) (qv := [(_, [_, _, _]), (_, [_, _, _]), (_, [_, _, _, _, _, _, _, _, _, _, _, _]), (_, [_, _, _])]) hT rfl rfl rfl rfl rfl rfl rfl rfl rfl rfl) ?_
           rintro _ _ rfl
           apply Stg.next [] rfl rfl
           refine Stg.go [] [13] rfl rfl QAll.nil ?_
           refine EAll.cons ?_ EAll.nil
           refine EOp.e rfl rfl rfl (EffX.storeSP (i := 1) (qv := [(_, [_, _, _]), (_, [_, _, _]), (_, [_, _, _, _, _, _, _, _, _, _, _, _]), (_, [_, _, _])]) hT rfl rfl rfl rfl rfl rfl rfl rfl rfl rfl) ?_
           rintro _ _ rfl
           apply Stg.next [] rfl rfl
           refine Stg.fin [] rfl rfl QAll.nil ?_
           replace H := H.self
           exact AtE.then_n ((HK16 _ (b_20, b_18) _ H).pickP (ts := [14, 15, 0, 5, 8, 11, 12, 67, 68, 69, 73, 74, 75]) (is := [0, 1, 3]) rfl rfl (by decide) rfl)
          refine EAll.cons ?_ EAll.nil
          refine EOp.e rfl rfl rfl (EffX.allocP (cs := [_, _, _]) hT rfl rfl H) ?_
          rintro _ _ ⟨b_21, _, rfl, rfl, he35, H⟩
          apply Stg.next [(14, _)] rfl rfl
          refine Stg.go [0, 1, 2, 3, 5, 6, 7, 8] [4] rfl rfl (QAll.cons (QOp.p hT rfl rfl rfl rfl rfl) (QAll.cons (QOp.q rfl rfl (Quiet1.idxA hT rfl rfl rfl rfl rfl (by decide)) rfl rfl) (QAll.cons (QOp.q rfl rfl (Quiet1.loadSP (i := 2) (l := [_, _, _, _, _, _]) hT rfl rfl rfl rfl rfl rfl rfl rfl) rfl rfl) (QAll.cons (QOp.q rfl rfl (Quiet1.loadSP (i := 3) (l := [_, _, _]) hT rfl rfl rfl rfl rfl rfl rfl rfl) rfl rfl) (QAll.cons (QOp.p hT rfl rfl rfl rfl rfl) (QAll.cons (QOp.q rfl rfl (Quiet1.idxA hT rfl rfl rfl rfl rfl (by decide)) rfl rfl) (QAll.cons (QOp.q rfl rfl (Quiet1.loadSP (i := 2) (l := [_, _, _, _, _, _]) hT rfl rfl rfl rfl rfl rfl rfl rfl) rfl rfl) (QAll.cons (QOp.q rfl rfl (Quiet1.loadSP (i := 3) (l := [_, _, _]) hT rfl rfl rfl rfl rfl rfl rfl rfl) rfl rfl) QAll.nil)))))))) ?_
          refine EAll.cons ?_ EAll.nil
          replace H := H.self
          refine EOp.e rfl rfl rfl (EffX.call (f := 65) (sh := fun h => delta_At _ _ _ h _) (H0 := H) rfl Tryd.call65 rfl (hl := fun w m hr hw => lift_delta_At _ _ _ w m hr _ hw)) ?_
          rintro _ _ ⟨v_34, h0u55, rfl, rfl, H⟩
          apply Stg.next [(84, _)] rfl rfl
          refine Stg.go [5, 6, 7, 8] [9] rfl rfl (QAll.cons (QOp.p hT rfl rfl rfl rfl rfl) (QAll.cons (QOp.q rfl rfl (Quiet1.idxA hT rfl rfl rfl rfl rfl (by decide)) rfl rfl) (QAll.cons (QOp.q rfl rfl (Quiet1.loadSP (i := 2) (l := [_, _, _, _, _, _]) hT rfl rfl rfl rfl rfl rfl rfl rfl) rfl rfl) (QAll.cons (QOp.q rfl rfl (Quiet1.loadSP (i := 3) (l := [_, _, _]) hT rfl rfl rfl rfl rfl rfl rfl rfl) rfl rfl) QAll.nil)))) ?_
          refine EAll.cons ?_ EAll.nil
          replace H := H.self
          refine EOp.e rfl rfl rfl (EffX.call (f := 65) (sh := fun h => delta_At _ _ _ h _) (H0 := H) rfl Tryd.call65 rfl (hl := fun w m hr hw => lift_delta_At _ _ _ w m hr _ hw)) ?_
          rintro _ _ ⟨v_35, h0u57, rfl, rfl, H⟩
          apply Stg.next [(89, _)] rfl rfl
          refine Stg.go [] [12] rfl rfl QAll.nil ?_
          refine EAll.cons ?_ EAll.nil
          refine EOp.e rfl rfl rfl (EffX.storeSP (i := 0) (qv := [(_, [_, _, _]), (_, [_, _, _]), (_, [_, _, _, _, _, _, _, _, _, _, _, _]), (_, [_, _, _])]) hT rfl rfl rfl rfl rfl rfl rfl rfl rfl rfl) ?_
          rintro _ _ rfl
          apply Stg.next [] rfl rfl
          refine Stg.go [] [13] rfl rfl QAll.nil ?_
          refine EAll.cons ?_ EAll.nil
          refine EOp.e rfl rfl rfl (EffX.storeSP (i := 1) (qv := [(_, [_, _, _]), (_, [_, _, _]), (_, [_, _, _, _, _, _, _, _, _, _, _, _]), (_, [_, _, _])]) hT rfl rfl rfl rfl rfl rfl rfl rfl rfl rfl) ?_
          rintro _ _ rfl
          apply Stg.next [] rfl rfl
          refine Stg.fin [] rfl rfl QAll.nil ?_
          replace H := H.self
          exact AtE.then_n ((HK16 _ (b_21, b_18) _ H).pickP (ts := [14, 15, 0, 5, 8, 11, 12, 67, 68, 69, 73, 74, 75]) (is := [0, 1, 3]) rfl rfl (by decide) rfl)
        ·
         refine AtC.exit ?_
         refine AtE.then_x ?_
         refine AtE.then_x ?_
         refine AtE.blk_hit ?_
         refine AtE.blk_n ?_
         refine AtE.then_n (AtE.go ?_)
         refine AtC.region ?_
         refine AtL.pures hT 2 _ _ _ _ rfl ?_
         refine AtL.nil ?_
         exact AtE.then_n ((HK10 _ _ H).pickP (ts := [69, 0, 5, 8, 67, 68]) (is := []) rfl rfl (by decide) rfl)
       ·
        refine AtC.exit ?_
        refine AtE.then_x ?_
        refine AtE.then_x ?_
        refine AtE.blk_hit ?_
        refine AtE.then_n (AtE.go ?_)
        refine AtC.seqR ?_
        refine AtL.pures hT 1 _ _ _ _ rfl ?_
        refine AtL.nil ?_
        refine AtE.then_n (AtE.go ?_)
        refine AtC.ret ?_
        exact AtE.retN (rs := [.tmp 4]) rfl (ResAll.cons (ResAt.tmp rfl) ResAll.nil) rfl H
     ·
      apply AtC.stages [2, 3, 4, 8] [[], [], [], [2], [2, 3], [2, 3, 4], [2, 3, 4], [2, 3, 4], [2, 3, 4], [2, 3, 4, 8]] [[], [], [1], [1, 2], [0, 1, 2, 3], [0, 1, 2, 3, 4], [0, 1, 2, 3, 4, 5], [0, 1, 2, 3, 4, 5, 6], [0, 1, 2, 3, 4, 5, 6, 7], [0, 1, 2, 3, 4, 5, 6, 7, 8]] hmix (by kernel_rfl) [(49, _), (50, _)] rfl 4 rfl
      refine Stg.go [0, 1] [2] rfl rfl (QAll.cons (QOp.q rfl rfl (Quiet1.loadSP (i := 0) (l := [_, _, _]) hT rfl rfl rfl rfl rfl rfl rfl rfl) rfl rfl) (QAll.cons (QOp.p hT rfl rfl rfl rfl rfl) QAll.nil)) ?_
      refine EAll.cons ?_ EAll.nil
      refine EOp.e rfl rfl rfl (EffX.call (f := 62) (sh := fun h => ref03uSmall _ h _) (H0 := H) rfl Tryd.call62 rfl (hl := fun w m hr hw => lift_ref03uSmall _ w m hr _ hw)) ?_
      rintro _ _ ⟨v_11, h0u14, rfl, rfl, H⟩
      apply Stg.next [(51, _)] rfl rfl
      refine Stg.go [0] [3] rfl rfl (QAll.cons (QOp.q rfl rfl (Quiet1.loadSP (i := 0) (l := [_, _, _]) hT rfl rfl rfl rfl rfl rfl rfl rfl) rfl rfl) QAll.nil) ?_
      refine EAll.cons ?_ EAll.nil
      refine EOp.e rfl rfl rfl (EffX.call (f := 61) (sh := fun h => ref02uForm _ h _) (H0 := H) rfl Tryd.call61 rfl (hl := fun w m hr hw => lift_ref02uForm _ w m hr _ hw)) ?_
      rintro _ _ ⟨v_12, h0u15, rfl, rfl, H⟩
      apply Stg.next [(52, _)] rfl rfl
      refine Stg.go [0] [4] rfl rfl (QAll.cons (QOp.q rfl rfl (Quiet1.loadSP (i := 0) (l := [_, _, _]) hT rfl rfl rfl rfl rfl rfl rfl rfl) rfl rfl) QAll.nil) ?_
      refine EAll.cons ?_ EAll.nil
      refine EOp.e rfl rfl rfl (EffX.call (f := 60) (sh := fun h => ref02uSame _ _ h _) (H0 := H) rfl Tryd.call60 rfl (hl := fun w m hr hw => lift_ref02uSame _ _ w m hr _ hw)) ?_
      rintro _ _ ⟨v_13, h0u16, rfl, rfl, H⟩
      rcases iteB.cases H with ⟨hb8, H⟩ | ⟨hb8, H⟩
      ·
       apply Stg.next [(53, _), (54, _), (55, _), (56, _)] rfl rfl
       refine Stg.known (t := 55) rfl hb8 ?_
       refine Stg.go [5, 6, 7] [8] rfl rfl (QAll.cons (QOp.p hT rfl rfl rfl rfl rfl) (QAll.cons (QOp.pk hT rfl rfl rfl rfl hb8 rfl) (QAll.cons (QOp.no rfl rfl rfl rfl (by decide) rfl rfl) QAll.nil))) ?_
       refine EAll.cons ?_ EAll.nil
       refine EOp.no rfl rfl rfl rfl (by decide) rfl ?_
       apply Stg.next [(57, _), (58, _)] rfl rfl
       refine Stg.fin [9] rfl rfl (QAll.cons (QOp.p hT rfl rfl rfl rfl rfl) QAll.nil) ?_
       exact AtE.then_n ((HK8 _ () _ H).pickP (ts := [58, 0, 1, 5, 8, 9]) (is := [0]) rfl rfl (by decide) rfl)
      ·
       apply Stg.next [(53, _), (54, _), (55, _), (56, _)] rfl rfl
       refine Stg.known (t := 55) rfl hb8 ?_
       refine Stg.go [5, 6, 7] [8] rfl rfl (QAll.cons (QOp.p hT rfl rfl rfl rfl rfl) (QAll.cons (QOp.pk hT rfl rfl rfl rfl hb8 rfl) (QAll.cons (QOp.yp hT rfl rfl rfl rfl rfl rfl rfl) QAll.nil))) ?_
       refine EAll.cons ?_ EAll.nil
       refine EOp.y rfl rfl rfl rfl rfl (EffX.call (f := 24) (sh := fun h => nat_Bench_Over _ h _) (H0 := H) rfl Tryd.call24 rfl (hl := fun w m hr hw => lift_nat_Bench_Over _ w m hr _ hw)) ?_
       rintro _ _ ⟨v_14, h0u17, rfl, rfl, H⟩
       apply Stg.next [(57, _), (58, _)] rfl rfl
       refine Stg.fin [9] rfl rfl (QAll.cons (QOp.p hT rfl rfl rfl rfl rfl) QAll.nil) ?_
       exact AtE.then_n ((HK8 _ () _ H).pickP (ts := [58, 0, 1, 5, 8, 9]) (is := [0]) rfl rfl (by decide) rfl)
end Go.Proofs.YtdcdidecehbplaaDoor

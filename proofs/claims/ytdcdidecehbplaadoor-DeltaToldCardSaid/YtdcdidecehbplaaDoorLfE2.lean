/-
  The deep code does what the functions of the shallow text say: printed by lift.py.
-/
import Derived.Test.YtdcdidecehbplaaDoorLfE1
set_option linter.unusedVariables false
set_option linter.unusedSimpArgs false
namespace Go.Proofs.YtdcdidecehbplaaDoor
open Go Go.Lift Go.Sh
set_option maxRecDepth 100000
set_option maxHeartbeats 4000000
attribute [local irreducible] Calls AtL AtC AtE AtD Eff Quiet1 Stg qAt QAll eAt EAll nextK Code.wp


theorem lift_nat_halve (x0 : Sl) (w : World) (m : Heap) (hr : Rel ⟨m, []⟩ w.heap) (S : (Sl × Int) → Heap → Prop) (H : nat_halve x0 m S) :
    Calls Tryd.prog 119 #[Sl.toV x0] w (Post ⟨w, m⟩ (fun r => Value.tuple #[Sl.toV r.1, (Value.int .i64) r.2]) S) := by
  refine Calls.lift (args := [Sl.toV x0]) Tryd.func119 rfl Tryd.ntmps119 (Nat.le_of_ble_eq_true rfl) hr (nat_halve x0 m S) H (fun H => ?_)
  refine AtC.pick (ts := [0]) rfl ?_
  unfold nat_halve at H
  refine AtC.seqR ?_
  refine AtL.pures hT 2 _ _ _ _ rfl ?_
  refine AtL.nil ?_
  refine AtE.then_n (AtE.go ?_)
  refine AtC.seqR ?_
  refine AtL.pures hT 1 _ _ _ _ rfl ?_
  refine AtL.nil ?_
  refine AtE.then_n (AtE.go ?_)
  refine AtC.seq ?_
  refine AtC.block ?_
  refine AtC.loopM (fun (s0 : Int) => [(4, Value.int .i64 s0)]) (fun (s0 : Int) => []) [0] [4, 0] [] [] H (by exact rfl) (by exact rfl) (by exact rfl) (by decide) (by exact rfl) (fun Kp1 s0 h0 H Q1 HK1 => ?_)
  refine AtC.seq ?_
  refine AtC.seqR ?_
  refine AtL.pures hT 3 _ _ _ _ rfl ?_
  obtain ⟨a_, hc1, hd1, H⟩ := H
  refine AtL.q rfl (Quiet1.idxS (s := _) hT rfl rfl rfl rfl rfl hc1 hd1) ?_
  obtain ⟨v, hc2, H⟩ := H
  refine AtL.q rfl (Quiet1.load hT rfl rfl rfl hc2) ?_
  refine AtL.pures hT 1 _ _ _ _ rfl ?_
  refine AtL.nil ?_
  refine AtE.then_n (AtE.go ?_)
  refine AtC.condB H rfl (fun H => ?_) (fun H => ?_)
  ·
   refine AtC.skip ?_
   refine AtE.then_n (AtE.go ?_)
   refine AtC.block ?_
   refine AtC.region ?_
   refine AtL.pures hT 3 _ _ _ _ rfl ?_
   replace H := H _ rfl
   refine AtL.nil ?_
   refine AtE.blk_n ?_
   exact AtE.then_n ((HK1 _ _ H).pickP (ts := [4, 0]) (is := []) rfl rfl (by decide) rfl)
  ·
   refine AtC.exit ?_
   refine AtE.then_x ?_
   refine AtE.then_x ?_
   refine AtE.blk_hit ?_
   refine AtE.then_n (AtE.go ?_)
   refine AtC.seqR ?_
   refine AtL.pures hT 4 _ _ _ _ rfl ?_
   obtain ⟨a_1_, hc3, hd3, H⟩ := H
   refine AtL.q rfl (Quiet1.idxS (s := _) hT rfl rfl rfl rfl rfl hc3 hd3) ?_
   obtain ⟨v_1, hc4, H⟩ := H
   refine AtL.q rfl (Quiet1.load hT rfl rfl rfl hc4) ?_
   refine AtL.e rfl (EffX.call (f := 132) (sh := fun h => math_bits_TrailingZeros32 _ h _) (H0 := H) rfl Tryd.call132 rfl (hl := fun w m hr hw => lift_math_bits_TrailingZeros32 _ w m hr _ hw)) ?_
   rintro _ _ ⟨v_2, h0u1, rfl, rfl, H⟩
   refine AtL.pures hT 2 _ _ _ _ rfl ?_
   replace H := H _ rfl
   refine AtL.nil ?_
   refine AtE.then_n (AtE.go ?_)
   refine AtC.seqR ?_
   refine AtL.pures hT 3 _ _ _ _ rfl ?_
   refine AtL.sl (hT := hT) H rfl rfl rfl rfl rfl rfl rfl (fun h => by cases h <;> rfl) rfl (fun v_3 H => ?_)
   refine AtL.e rfl (EffX.call (f := 118) (sh := fun h => slices_Clone_api_Nat_uint32 _ h _) (H0 := H) rfl Tryd.call118 rfl (hl := fun w m hr hw => lift_slices_Clone_api_Nat_uint32 _ w m hr _ hw)) ?_
   rintro _ _ ⟨v_4, h0u2, rfl, rfl, H⟩
   refine AtL.pures hT 1 _ _ _ _ rfl ?_
   refine AtL.nil ?_
   refine AtE.then_n (AtE.go ?_)
   refine AtC.joinSeq (β := Unit) (fun (t0 : Unit) (bb : Unit) => []) (fun (t0 : Unit) (bb : Unit) => []) [4, 5] [] H (by exact rfl) (by exact rfl) (fun t0 bb h0u3 H => ?_) (fun J7 H HK7 => ?_)
   ·
    refine AtC.seqR ?_
    refine AtL.pures hT 1 _ _ _ _ rfl ?_
    refine AtL.e rfl (EffX.call (f := 89) (sh := fun h => nat_trim _ h _) (H0 := H) rfl Tryd.call89 rfl (hl := fun w m hr hw => lift_nat_trim _ w m hr _ hw)) ?_
    rintro _ _ ⟨v_8, h0u8, rfl, rfl, H⟩
    refine AtL.pures hT 3 _ _ _ _ rfl ?_
    refine AtL.nil ?_
    refine AtE.then_n (AtE.go ?_)
    refine AtC.ret ?_
    exact AtE.retN (rs := [.tmp 2, .tmp 3]) rfl (ResAll.cons (ResAt.tmp rfl) (ResAll.cons (ResAt.tmp rfl) ResAll.nil)) rfl H
   ·
    refine AtC.seqR ?_
    refine AtL.pures hT 3 _ _ _ _ rfl ?_
    replace H := H _ rfl
    refine AtL.nil ?_
    refine AtE.then_n (AtE.go ?_)
    refine AtC.seqR ?_
    refine AtL.pures hT 2 _ _ _ _ rfl ?_
    refine AtL.nil ?_
    refine AtE.then_n (AtE.go ?_)
    refine AtC.condB H rfl (fun H => ?_) (fun H => ?_)
    ·
     refine AtC.seqR ?_
     refine AtL.pures hT 3 _ _ _ _ rfl ?_
     refine AtL.nil ?_
     refine AtE.then_n (AtE.go ?_)
     refine AtC.block ?_
     refine AtC.loopM (fun (s0u2 : Int) => [(35, Value.int .i64 s0u2)]) (fun (s0u2 : Int) => []) [4, 5, 6, 34] [35, 4, 5, 6, 34] [] [] H (by exact rfl) (by exact rfl) (by exact rfl) (by decide) (by exact rfl) (fun Kp8 s0u2 h0u4 H Q8 HK8 => ?_)
     refine AtC.seqR ?_
     refine AtL.pures hT 1 _ _ _ _ rfl ?_
     refine AtL.nil ?_
     refine AtE.then_n (AtE.go ?_)
     refine AtC.seq ?_
     refine AtC.condB H rfl (fun H => ?_) (fun H => ?_)
     ·
      refine AtC.skip ?_
      refine AtE.then_n (AtE.go ?_)
      refine AtC.joinSeq (β := Unit) (fun (t0u1 : Unit) (bb_1 : Unit) => []) (fun (t0u1 : Unit) (bb_1 : Unit) => []) [4, 5, 6, 34, 35] [] H (by exact rfl) (by exact rfl) (fun t0u1 bb_1 h0u5 H => ?_) (fun J9 H HK9 => ?_)
      ·
       refine AtC.region ?_
       refine AtL.pures hT 2 _ _ _ _ rfl ?_
       refine AtL.nil ?_
       exact AtE.then_n ((HK8 _ _ H).pickP (ts := [35, 4, 5, 6, 34]) (is := []) rfl rfl (by decide) rfl)
      ·
       refine AtC.block ?_
       refine AtC.seqR ?_
       refine AtL.pures hT 2 _ _ _ _ rfl ?_
       refine AtL.nil ?_
       refine AtE.then_n (AtE.go ?_)
       refine AtC.seqR ?_
       refine AtL.pures hT 2 _ _ _ _ rfl ?_
       obtain ⟨a_2_, hc9, hd9, H⟩ := H
       refine AtL.q rfl (Quiet1.idxS (s := _) hT rfl rfl rfl rfl rfl hc9 hd9) ?_
       obtain ⟨v_5, hc10, H⟩ := H
       refine AtL.q rfl (Quiet1.load hT rfl rfl rfl hc10) ?_
       refine AtL.pures hT 1 _ _ _ _ rfl ?_
       obtain ⟨hd11, H⟩ := H
       refine AtL.q rfl (Quiet1.shr rfl rfl rfl hd11) ?_
       obtain ⟨a_3_, hc12, hd12, H⟩ := H
       refine AtL.q rfl (Quiet1.idxS (s := _) hT rfl rfl rfl rfl rfl hc12 hd12) ?_
       refine AtL.e rfl (EffX.store hT rfl rfl rfl rfl rfl H) ?_
       rintro _ _ ⟨h0u6, rfl, H⟩
       refine AtL.nil ?_
       refine AtE.then_n (AtE.go ?_)
       refine AtC.seqR ?_
       refine AtL.pures hT 5 _ _ _ _ rfl ?_
       refine AtL.nil ?_
       refine AtE.then_n (AtE.go ?_)
       refine AtC.condB H rfl (fun H => ?_) (fun H => ?_)
       ·
        obtain ⟨a_4_, hc13, hd13, H⟩ := H
        obtain ⟨v_6, hc14, H⟩ := H
        obtain ⟨a_5_, hc15, hd15, H⟩ := H
        obtain ⟨v_7, hc16, H⟩ := H
        obtain ⟨hd17, H⟩ := H
        obtain ⟨a_6_, hc18, hd18, H⟩ := H
        apply AtC.stages [14] [[], [], [], [], [], [], [], [], [], [], [], [], [], [], []] [[], [], [0, 1], [0, 1, 2], [], [], [5], [4, 5, 6], [4, 5, 6, 7], [], [9], [4, 5, 6, 7, 8, 9, 10], [0, 1, 2, 3, 4, 5, 6, 7, 8, 9, 10, 11], [0, 1, 2, 3, 4, 5, 6, 7, 8, 9, 10, 11, 12], [0, 1, 2, 3, 4, 5, 6, 7, 8, 9, 10, 11, 12, 13]] hmix (by kernel_rfl) [(50, _), (51, _), (52, _), (53, _), (54, _), (55, _), (56, _), (57, _), (58, _), (59, _), (60, _), (61, _), (62, _), (63, _)] rfl 1 rfl
        refine Stg.go [0, 1, 2, 3, 4, 5, 6, 7, 8, 9, 10, 11, 12, 13] [14] rfl rfl (QAll.cons (QOp.p hT rfl rfl rfl rfl rfl) (QAll.cons (QOp.p hT rfl rfl rfl rfl rfl) (QAll.cons (QOp.q rfl rfl (Quiet1.idxS (s := _) hT rfl rfl rfl rfl rfl hc13 hd13) rfl rfl) (QAll.cons (QOp.q rfl rfl (Quiet1.load hT rfl rfl rfl hc14) rfl rfl) (QAll.cons (QOp.p hT rfl rfl rfl rfl rfl) (QAll.cons (QOp.p hT rfl rfl rfl rfl rfl) (QAll.cons (QOp.p hT rfl rfl rfl rfl rfl) (QAll.cons (QOp.q rfl rfl (Quiet1.idxS (s := _) hT rfl rfl rfl rfl rfl hc15 hd15) rfl rfl) (QAll.cons (QOp.q rfl rfl (Quiet1.load hT rfl rfl rfl hc16) rfl rfl) (QAll.cons (QOp.p hT rfl rfl rfl rfl rfl) (QAll.cons (QOp.p hT rfl rfl rfl rfl rfl) (QAll.cons (QOp.q rfl rfl (Quiet1.shl rfl rfl rfl hd17) rfl rfl) (QAll.cons (QOp.p hT rfl rfl rfl rfl rfl) (QAll.cons (QOp.q rfl rfl (Quiet1.idxS (s := _) hT rfl rfl rfl rfl rfl hc18 hd18) rfl rfl) QAll.nil)))))))))))))) ?_
        refine EAll.cons ?_ EAll.nil
        refine EOp.e rfl rfl rfl (EffX.store hT rfl rfl rfl rfl rfl H) ?_
        rintro _ _ ⟨h0u7, rfl, H⟩
        apply Stg.next [] rfl rfl
        refine Stg.fin [] rfl rfl QAll.nil ?_
        refine AtE.blk_n ?_
        exact AtE.then_n ((HK9 _ () _ H).pickP (ts := [4, 5, 6, 34, 35]) (is := []) rfl rfl (by decide) rfl)
       ·
        refine AtC.skip ?_
        refine AtE.blk_n ?_
        exact AtE.then_n ((HK9 _ () _ H).pickP (ts := [4, 5, 6, 34, 35]) (is := []) rfl rfl (by decide) rfl)
     ·
      refine AtC.exit ?_
      refine AtE.then_x ?_
      refine AtE.then_x ?_
      refine AtE.blk_hit ?_
      exact AtE.then_n ((HK7 _ () _ H).pickP (ts := [4, 5]) (is := []) rfl rfl (by decide) rfl)
    ·
     refine AtC.skip ?_
     exact AtE.then_n ((HK7 _ () _ H).pickP (ts := [4, 5]) (is := []) rfl rfl (by decide) rfl)

theorem lift_nat_double (x0 : Sl) (k : Int) (w : World) (m : Heap) (hr : Rel ⟨m, []⟩ w.heap) (S : Sl → Heap → Prop) (H : nat_double x0 k m S) :
    Calls Tryd.prog 120 #[Sl.toV x0, Value.int .i64 k] w (Post ⟨w, m⟩ Sl.toV S) := by
  refine Calls.lift (args := [Sl.toV x0, Value.int .i64 k]) Tryd.func120 rfl Tryd.ntmps120 (Nat.le_of_ble_eq_true rfl) hr (nat_double x0 k m S) H (fun H => ?_)
  refine AtC.pick (ts := [0, 1]) rfl ?_
  unfold nat_double at H
  refine AtC.seqR ?_
  refine AtL.pures hT 1 _ _ _ _ rfl ?_
  refine AtL.nil ?_
  refine AtE.then_n (AtE.go ?_)
  refine AtC.seqR ?_
  refine AtL.pures hT 3 _ _ _ _ rfl ?_
  replace H := H _ rfl
  refine AtL.e rfl (EffX.mkS hT rfl rfl rfl rfl rfl rfl rfl rfl (by decide) H) ?_
  rintro _ _ ⟨v, h0, rfl, rfl, H⟩
  refine AtL.pures hT 1 _ _ _ _ rfl ?_
  refine AtL.nil ?_
  refine AtE.then_n (AtE.go ?_)
  refine AtC.seqR ?_
  refine AtL.pures hT 5 _ _ _ _ rfl ?_
  obtain ⟨hd0, H⟩ := H
  refine AtL.q rfl (Quiet1.shl rfl rfl rfl hd0) ?_
  obtain ⟨a_, hc1, hd1, H⟩ := H
  refine AtL.q rfl (Quiet1.idxS (s := _) hT rfl rfl rfl rfl rfl hc1 hd1) ?_
  refine AtL.e rfl (EffX.store hT rfl rfl rfl rfl rfl H) ?_
  rintro _ _ ⟨h0u1, rfl, H⟩
  refine AtL.nil ?_
  refine AtE.then_n (AtE.go ?_)
  refine AtC.seqR ?_
  refine AtL.pures hT 2 _ _ _ _ rfl ?_
  refine AtL.e rfl (EffX.call (f := 88) (sh := fun h => nat_times _ _ h _) (H0 := H) rfl Tryd.call88 rfl (hl := fun w m hr hw => lift_nat_times _ _ w m hr _ hw)) ?_
  rintro _ _ ⟨v_1, h0u2, rfl, rfl, H⟩
  refine AtL.e rfl (EffX.call (f := 89) (sh := fun h => nat_trim _ h _) (H0 := H) rfl Tryd.call89 rfl (hl := fun w m hr hw => lift_nat_trim _ w m hr _ hw)) ?_
  rintro _ _ ⟨v_2, h0u3, rfl, rfl, H⟩
  refine AtL.pures hT 1 _ _ _ _ rfl ?_
  refine AtL.nil ?_
  refine AtE.then_n (AtE.go ?_)
  refine AtC.ret ?_
  exact AtE.retN (rs := [.tmp 4]) rfl (ResAll.cons (ResAt.tmp rfl) ResAll.nil) rfl H

theorem lift_nat_common (x0 : Sl) (y : Sl) (w : World) (m : Heap) (hr : Rel ⟨m, []⟩ w.heap) (S : Sl → Heap → Prop) (H : nat_common x0 y m S) :
    Calls Tryd.prog 92 #[Sl.toV x0, Sl.toV y] w (Post ⟨w, m⟩ Sl.toV S) := by
  refine Calls.lift (args := [Sl.toV x0, Sl.toV y]) Tryd.func92 rfl Tryd.ntmps92 (Nat.le_of_ble_eq_true rfl) hr (nat_common x0 y m S) H (fun H => ?_)
  refine AtC.pick (ts := [0, 1]) rfl ?_
  unfold nat_common at H
  refine AtC.seqR ?_
  refine AtL.pures hT 1 _ _ _ _ rfl ?_
  refine AtL.nil ?_
  refine AtE.then_n (AtE.go ?_)
  refine AtC.seqR ?_
  refine AtL.pures hT 1 _ _ _ _ rfl ?_
  refine AtL.e rfl (EffX.call (f := 89) (sh := fun h => nat_trim _ h _) (H0 := H) rfl Tryd.call89 rfl (hl := fun w m hr hw => lift_nat_trim _ w m hr _ hw)) ?_
  rintro _ _ ⟨v, h0, rfl, rfl, H⟩
  refine AtL.pures hT 1 _ _ _ _ rfl ?_
  refine AtL.e rfl (EffX.call (f := 89) (sh := fun h => nat_trim _ h _) (H0 := H) rfl Tryd.call89 rfl (hl := fun w m hr hw => lift_nat_trim _ w m hr _ hw)) ?_
  rintro _ _ ⟨v_1, h0u1, rfl, rfl, H⟩
  refine AtL.pures hT 2 _ _ _ _ rfl ?_
  refine AtL.nil ?_
  refine AtE.then_n (AtE.go ?_)
  refine AtC.seq ?_
  refine AtC.seqR ?_
  refine AtL.pures hT 3 _ _ _ _ rfl ?_
  refine AtL.nil ?_
  refine AtE.then_n (AtE.go ?_)
  refine AtC.condB H rfl (fun H => ?_) (fun H => ?_)
  ·
   refine AtC.seqR ?_
   refine AtL.pures hT 2 _ _ _ _ rfl ?_
   refine AtL.nil ?_
   refine AtE.then_n (AtE.go ?_)
   refine AtC.ret ?_
   refine AtE.then_r ?_
   exact AtE.retN (rs := [.tmp 4]) rfl (ResAll.cons (ResAt.tmp rfl) ResAll.nil) rfl H
  ·
   refine AtC.skip ?_
   refine AtE.then_n (AtE.go ?_)
   refine AtC.seq ?_
   refine AtC.seqR ?_
   refine AtL.pures hT 3 _ _ _ _ rfl ?_
   refine AtL.nil ?_
   refine AtE.then_n (AtE.go ?_)
   refine AtC.condB H rfl (fun H => ?_) (fun H => ?_)
   ·
    refine AtC.seqR ?_
    refine AtL.pures hT 2 _ _ _ _ rfl ?_
    refine AtL.nil ?_
    refine AtE.then_n (AtE.go ?_)
    refine AtC.ret ?_
    refine AtE.then_r ?_
    exact AtE.retN (rs := [.tmp 4]) rfl (ResAll.cons (ResAt.tmp rfl) ResAll.nil) rfl H
   ·
    refine AtC.skip ?_
    refine AtE.then_n (AtE.go ?_)
    refine AtC.joinSeq (β := Unit) (fun (t0 : Unit) (bb : Unit) => []) (fun (t0 : Unit) (bb : Unit) => []) [0, 1] [] H (by exact rfl) (by exact rfl) (fun t0 bb h0u2 H => ?_) (fun J1 H HK1 => ?_)
    ·
     refine AtC.seqR ?_
     refine AtL.pures hT 1 _ _ _ _ rfl ?_
     refine AtL.e rfl (EffX.call (f := 119) (sh := fun h => nat_halve _ h _) (H0 := H) rfl Tryd.call119 rfl (hl := fun w m hr hw => lift_nat_halve _ w m hr _ hw)) ?_
     rintro _ _ ⟨v_5, h0u7, rfl, rfl, H⟩
     refine AtL.pures hT 5 _ _ _ _ rfl ?_
     refine AtL.nil ?_
     refine AtE.then_n (AtE.go ?_)
     refine AtC.seqR ?_
     refine AtL.pures hT 1 _ _ _ _ rfl ?_
     refine AtL.e rfl (EffX.call (f := 119) (sh := fun h => nat_halve _ h _) (H0 := H) rfl Tryd.call119 rfl (hl := fun w m hr hw => lift_nat_halve _ w m hr _ hw)) ?_
     rintro _ _ ⟨v_6, h0u8, rfl, rfl, H⟩
     refine AtL.pures hT 5 _ _ _ _ rfl ?_
     refine AtL.nil ?_
     refine AtE.then_n (AtE.go ?_)
     refine AtC.seq ?_
     refine AtC.block ?_
     refine AtC.loopM (fun (s0u1 : Sl × Sl) => [(0, Sl.toV s0u1.1), (1, Sl.toV s0u1.2)]) (fun (s0u1 : Sl × Sl) => []) [9, 10] [0, 1, 9, 10] [] [] H (by exact rfl) (by exact rfl) (by exact rfl) (by decide) (by exact rfl) (fun Kp4 s0u1 h0u9 H Q4 HK4 => ?_)
     refine AtC.seq ?_
     refine AtC.seqR ?_
     refine AtL.pures hT 2 _ _ _ _ rfl ?_
     refine AtL.e rfl (EffX.call (f := 23) (sh := fun h => nat_Cmp _ _ h _) (H0 := H) rfl Tryd.call23 rfl (hl := fun w m hr hw => lift_nat_Cmp _ _ w m hr _ hw)) ?_
     rintro _ _ ⟨v_7, h0u10, rfl, rfl, H⟩
     refine AtL.pures hT 1 _ _ _ _ rfl ?_
     refine AtL.nil ?_
     refine AtE.then_n (AtE.go ?_)
     refine AtC.condB H rfl (fun H => ?_) (fun H => ?_)
     ·
      refine AtC.skip ?_
      refine AtE.then_n (AtE.go ?_)
      refine AtC.block ?_
      refine AtC.joinSeq (β := Unit) (fun (t0u1 : Sl × Sl) (bb_1 : Unit) => [(0, Sl.toV t0u1.1), (1, Sl.toV t0u1.2)]) (fun (t0u1 : Sl × Sl) (bb_1 : Unit) => []) [9, 10] [] H (by exact rfl) (by exact rfl) (fun t0u1 bb_1 h0u11 H => ?_) (fun J5 H HK5 => ?_)
      ·
       refine AtC.region ?_
       refine AtL.pures hT 2 _ _ _ _ rfl ?_
       refine AtL.e rfl (EffX.call (f := 90) (sh := fun h => nat_minus _ _ h _) (H0 := H) rfl Tryd.call90 rfl (hl := fun w m hr hw => lift_nat_minus _ _ w m hr _ hw)) ?_
       rintro _ _ ⟨v_9, h0u13, rfl, rfl, H⟩
       refine AtL.e rfl (EffX.call (f := 119) (sh := fun h => nat_halve _ h _) (H0 := H) rfl Tryd.call119 rfl (hl := fun w m hr hw => lift_nat_halve _ w m hr _ hw)) ?_
       rintro _ _ ⟨v_10, h0u14, rfl, rfl, H⟩
       refine AtL.pures hT 4 _ _ _ _ rfl ?_
       refine AtL.nil ?_
       refine AtE.blk_n ?_
       exact AtE.then_n ((HK4 _ _ H).pickP (ts := [0, 1, 9, 10]) (is := []) rfl rfl (by decide) rfl)
      ·
       refine AtC.seqR ?_
       refine AtL.pures hT 2 _ _ _ _ rfl ?_
       refine AtL.e rfl (EffX.call (f := 23) (sh := fun h => nat_Cmp _ _ h _) (H0 := H) rfl Tryd.call23 rfl (hl := fun w m hr hw => lift_nat_Cmp _ _ w m hr _ hw)) ?_
       rintro _ _ ⟨v_8, h0u12, rfl, rfl, H⟩
       refine AtL.pures hT 1 _ _ _ _ rfl ?_
       refine AtL.nil ?_
       refine AtE.then_n (AtE.go ?_)
       refine AtC.condB H rfl (fun H => ?_) (fun H => ?_)
       ·
        refine AtC.region ?_
        refine AtL.pures hT 4 _ _ _ _ rfl ?_
        refine AtL.nil ?_
        exact AtE.then_n ((HK5 _ () _ H).pickP (ts := [0, 1, 9, 10]) (is := []) rfl rfl (by decide) rfl)
       ·
        refine AtC.skip ?_
        exact AtE.then_n ((HK5 _ () _ H).pickP (ts := [0, 1, 9, 10]) (is := []) rfl rfl (by decide) rfl)
     ·
      refine AtC.exit ?_
      refine AtE.then_x ?_
      refine AtE.then_x ?_
      refine AtE.blk_hit ?_
      refine AtE.then_n (AtE.go ?_)
      refine AtC.seqR ?_
      refine AtL.pures hT 4 _ _ _ _ rfl ?_
      refine AtL.e rfl (EffX.call (f := 120) (sh := fun h => nat_double _ _ h _) (H0 := H) rfl Tryd.call120 rfl (hl := fun w m hr hw => lift_nat_double _ _ w m hr _ hw)) ?_
      rintro _ _ ⟨v_11, h0u15, rfl, rfl, H⟩
      refine AtL.pures hT 1 _ _ _ _ rfl ?_
      refine AtL.nil ?_
      refine AtE.then_n (AtE.go ?_)
      refine AtC.ret ?_
      exact AtE.retN (rs := [.tmp 4]) rfl (ResAll.cons (ResAt.tmp rfl) ResAll.nil) rfl H
    ·
     refine AtC.seqR ?_
     refine AtL.pures hT 1 _ _ _ _ rfl ?_
     refine AtL.e rfl (EffX.call (f := 96) (sh := fun h => nat_small _ h _) (H0 := H) rfl Tryd.call96 rfl (hl := fun w m hr hw => lift_nat_small _ w m hr _ hw)) ?_
     rintro _ _ ⟨v_2, h0u3, rfl, rfl, H⟩
     refine AtL.pures hT 5 _ _ _ _ rfl ?_
     refine AtL.nil ?_
     refine AtE.then_n (AtE.go ?_)
     refine AtC.seqR ?_
     refine AtL.pures hT 1 _ _ _ _ rfl ?_
     refine AtL.nil ?_
     refine AtE.then_n (AtE.go ?_)
     refine AtC.condB H rfl (fun H => ?_) (fun H => ?_)
     ·
      refine AtC.seqR ?_
      refine AtL.pures hT 1 _ _ _ _ rfl ?_
      refine AtL.e rfl (EffX.call (f := 96) (sh := fun h => nat_small _ h _) (H0 := H) rfl Tryd.call96 rfl (hl := fun w m hr hw => lift_nat_small _ w m hr _ hw)) ?_
      rintro _ _ ⟨v_3, h0u4, rfl, rfl, H⟩
      refine AtL.pures hT 5 _ _ _ _ rfl ?_
      refine AtL.nil ?_
      refine AtE.then_n (AtE.go ?_)
      refine AtC.seqR ?_
      refine AtL.pures hT 1 _ _ _ _ rfl ?_
      refine AtL.nil ?_
      refine AtE.then_n (AtE.go ?_)
      refine AtC.condB H rfl (fun H => ?_) (fun H => ?_)
      ·
       refine AtC.seq ?_
       refine AtC.block ?_
       refine AtC.loopM (fun (s0 : Int × Int) => [(5, Value.int .u64 s0.1), (7, Value.int .u64 s0.2)]) (fun (s0 : Int × Int) => []) [] [5, 7] [] [] H (by exact rfl) (by exact rfl) (by exact rfl) (by decide) (by exact rfl) (fun Kp2 s0 h0u5 H Q2 HK2 => ?_)
       refine AtC.seq ?_
       refine AtC.seqR ?_
       refine AtL.pures hT 2 _ _ _ _ rfl ?_
       refine AtL.nil ?_
       refine AtE.then_n (AtE.go ?_)
       refine AtC.condB H rfl (fun H => ?_) (fun H => ?_)
       ·
        refine AtC.skip ?_
        refine AtE.then_n (AtE.go ?_)
        refine AtC.block ?_
        refine AtC.draw hmix (by kernel_rfl) ?_
        refine AtD.pures hT 3 _ _ _ _ rfl ?_
        obtain ⟨hd2, H⟩ := H
        refine AtD.q rfl (Quiet1.rem rfl rfl rfl hd2) ?_
        refine AtD.pures hT 2 _ _ _ _ rfl ?_
        replace H := H _ rfl
        refine AtD.nil ?_
        refine AtE.blk_n ?_
        exact AtE.then_n ((HK2 _ _ H).pickP (ts := [5, 7]) (is := []) rfl rfl (by decide) rfl)
       ·
        refine AtC.exit ?_
        refine AtE.then_x ?_
        refine AtE.then_x ?_
        refine AtE.blk_hit ?_
        refine AtE.then_n (AtE.go ?_)
        refine AtC.seqR ?_
        refine AtL.pures hT 1 _ _ _ _ rfl ?_
        refine AtL.e rfl (EffX.call (f := 85) (sh := fun h => nat_Of _ h _) (H0 := H) rfl Tryd.call85 rfl (hl := fun w m hr hw => lift_nat_Of _ w m hr _ hw)) ?_
        rintro _ _ ⟨v_4, h0u6, rfl, rfl, H⟩
        refine AtL.pures hT 1 _ _ _ _ rfl ?_
        refine AtL.nil ?_
        refine AtE.then_n (AtE.go ?_)
        refine AtC.ret ?_
        refine AtE.then_r ?_
        exact AtE.retN (rs := [.tmp 4]) rfl (ResAll.cons (ResAt.tmp rfl) ResAll.nil) rfl H
      ·
       refine AtC.skip ?_
       exact AtE.then_n ((HK1 _ () _ H).pickP (ts := [0, 1]) (is := []) rfl rfl (by decide) rfl)
     ·
      refine AtC.skip ?_
      exact AtE.then_n ((HK1 _ () _ H).pickP (ts := [0, 1]) (is := []) rfl rfl (by decide) rfl)

theorem lift_nat_Bench_Gcd (b : (Option Addr)) (x0 : Sl) (y : Sl) (w : World) (m : Heap) (hr : Rel ⟨m, []⟩ w.heap) (S : Sl → Heap → Prop) (H : nat_Bench_Gcd b x0 y m S) :
    Calls Tryd.prog 21 #[Value.pointer b, Sl.toV x0, Sl.toV y] w (Post ⟨w, m⟩ Sl.toV S) := by
  refine Calls.lift (args := [Value.pointer b, Sl.toV x0, Sl.toV y]) Tryd.func21 rfl Tryd.ntmps21 (Nat.le_of_ble_eq_true rfl) hr (nat_Bench_Gcd b x0 y m S) H (fun H => ?_)
  refine AtC.pick (ts := [0, 1, 2]) rfl ?_
  unfold nat_Bench_Gcd at H
  refine AtC.seqR ?_
  refine AtL.pures hT 1 _ _ _ _ rfl ?_
  refine AtL.nil ?_
  refine AtE.then_n (AtE.go ?_)
  refine AtC.seqR ?_
  refine AtL.pures hT 3 _ _ _ _ rfl ?_
  refine AtL.e rfl (EffX.call (f := 92) (sh := fun h => nat_common _ _ h _) (H0 := H) rfl Tryd.call92 rfl (hl := fun w m hr hw => lift_nat_common _ _ w m hr _ hw)) ?_
  rintro _ _ ⟨v, h0, rfl, rfl, H⟩
  refine AtL.e rfl (EffX.call (f := 86) (sh := fun h => nat_Bench_fit _ _ h _) (H0 := H) rfl Tryd.call86 rfl (hl := fun w m hr hw => lift_nat_Bench_fit _ _ w m hr _ hw)) ?_
  rintro _ _ ⟨v_1, h0u1, rfl, rfl, H⟩
  refine AtL.pures hT 1 _ _ _ _ rfl ?_
  refine AtL.nil ?_
  refine AtE.then_n (AtE.go ?_)
  refine AtC.ret ?_
  exact AtE.retN (rs := [.tmp 6]) rfl (ResAll.cons (ResAt.tmp rfl) ResAll.nil) rfl H

theorem lift_nat_Bench_Div (b : (Option Addr)) (x0 : Sl) (y : Sl) (w : World) (m : Heap) (hr : Rel ⟨m, []⟩ w.heap) (S : (Sl × Sl) → Heap → Prop) (H : nat_Bench_Div b x0 y m S) :
    Calls Tryd.prog 22 #[Value.pointer b, Sl.toV x0, Sl.toV y] w (Post ⟨w, m⟩ (fun r => Value.tuple #[Sl.toV r.1, Sl.toV r.2]) S) := by
  refine Calls.lift (args := [Value.pointer b, Sl.toV x0, Sl.toV y]) Tryd.func22 rfl Tryd.ntmps22 (Nat.le_of_ble_eq_true rfl) hr (nat_Bench_Div b x0 y m S) H (fun H => ?_)
  refine AtC.pick (ts := [0, 1, 2]) rfl ?_
  unfold nat_Bench_Div at H
  refine AtC.seqR ?_
  refine AtL.pures hT 2 _ _ _ _ rfl ?_
  refine AtL.nil ?_
  refine AtE.then_n (AtE.go ?_)
  refine AtC.seq ?_
  refine AtC.seqR ?_
  refine AtL.pures hT 1 _ _ _ _ rfl ?_
  refine AtL.e rfl (EffX.call (f := 89) (sh := fun h => nat_trim _ h _) (H0 := H) rfl Tryd.call89 rfl (hl := fun w m hr hw => lift_nat_trim _ w m hr _ hw)) ?_
  rintro _ _ ⟨v, h0, rfl, rfl, H⟩
  refine AtL.pures hT 2 _ _ _ _ rfl ?_
  refine AtL.nil ?_
  refine AtE.then_n (AtE.go ?_)
  refine AtC.condB H rfl (fun H => ?_) (fun H => ?_)
  ·
   refine AtC.seqR ?_
   refine AtL.pures hT 2 _ _ _ _ rfl ?_
   refine AtL.nil ?_
   refine AtE.then_n (AtE.go ?_)
   refine AtC.ret ?_
   refine AtE.then_r ?_
   exact AtE.retN (rs := [.tmp 6, .tmp 7]) rfl (ResAll.cons (ResAt.tmp rfl) (ResAll.cons (ResAt.tmp rfl) ResAll.nil)) rfl H
  ·
   refine AtC.skip ?_
   refine AtE.then_n (AtE.go ?_)
   refine AtC.seqR ?_
   refine AtL.pures hT 2 _ _ _ _ rfl ?_
   refine AtL.e rfl (EffX.call (f := 93) (sh := fun h => nat_divide _ _ h _) (H0 := H) rfl Tryd.call93 rfl (hl := fun w m hr hw => lift_nat_divide _ _ w m hr _ hw)) ?_
   rintro _ _ ⟨v_1, h0u1, rfl, rfl, H⟩
   refine AtL.pures hT 5 _ _ _ _ rfl ?_
   refine AtL.nil ?_
   refine AtE.then_n (AtE.go ?_)
   refine AtC.seqR ?_
   refine AtL.pures hT 2 _ _ _ _ rfl ?_
   refine AtL.e rfl (EffX.call (f := 86) (sh := fun h => nat_Bench_fit _ _ h _) (H0 := H) rfl Tryd.call86 rfl (hl := fun w m hr hw => lift_nat_Bench_fit _ _ w m hr _ hw)) ?_
   rintro _ _ ⟨v_2, h0u2, rfl, rfl, H⟩
   refine AtL.pures hT 2 _ _ _ _ rfl ?_
   refine AtL.e rfl (EffX.call (f := 86) (sh := fun h => nat_Bench_fit _ _ h _) (H0 := H) rfl Tryd.call86 rfl (hl := fun w m hr hw => lift_nat_Bench_fit _ _ w m hr _ hw)) ?_
   rintro _ _ ⟨v_3, h0u3, rfl, rfl, H⟩
   refine AtL.pures hT 2 _ _ _ _ rfl ?_
   refine AtL.nil ?_
   refine AtE.then_n (AtE.go ?_)
   refine AtC.seq ?_
   refine AtC.seqR ?_
   refine AtL.pures hT 1 _ _ _ _ rfl ?_
   obtain ⟨a, hc0, H⟩ := H
   refine AtL.q rfl (Quiet1.nilChk rfl rfl hc0) ?_
   refine AtL.pures hT 1 _ _ _ _ rfl ?_
   obtain ⟨v_4, hc1, H⟩ := H
   refine AtL.q rfl (Quiet1.load hT rfl rfl rfl hc1) ?_
   refine AtL.nil ?_
   refine AtE.then_n (AtE.go ?_)
   refine AtC.condB H rfl (fun H => ?_) (fun H => ?_)
   ·
    refine AtC.seqR ?_
    refine AtL.pures hT 2 _ _ _ _ rfl ?_
    refine AtL.nil ?_
    refine AtE.then_n (AtE.go ?_)
    refine AtC.ret ?_
    refine AtE.then_r ?_
    exact AtE.retN (rs := [.tmp 6, .tmp 7]) rfl (ResAll.cons (ResAt.tmp rfl) (ResAll.cons (ResAt.tmp rfl) ResAll.nil)) rfl H
   ·
    refine AtC.skip ?_
    refine AtE.then_n (AtE.go ?_)
    refine AtC.seqR ?_
    refine AtL.pures hT 4 _ _ _ _ rfl ?_
    refine AtL.nil ?_
    refine AtE.then_n (AtE.go ?_)
    refine AtC.ret ?_
    exact AtE.retN (rs := [.tmp 6, .tmp 7]) rfl (ResAll.cons (ResAt.tmp rfl) (ResAll.cons (ResAt.tmp rfl) ResAll.nil)) rfl H

theorem lift_slices_Equal_api_Nat_uint32 (s1 : Sl) (s2 : Sl) (w : World) (m : Heap) (hr : Rel ⟨m, []⟩ w.heap) (S : Bool → Heap → Prop) (H : slices_Equal_api_Nat_uint32 s1 s2 m S) :
    Calls Tryd.prog 131 #[Sl.toV s1, Sl.toV s2] w (Post ⟨w, m⟩ Value.bool S) := by
  refine Calls.lift (args := [Sl.toV s1, Sl.toV s2]) Tryd.func131 rfl Tryd.ntmps131 (Nat.le_of_ble_eq_true rfl) hr (slices_Equal_api_Nat_uint32 s1 s2 m S) H (fun H => ?_)
  refine AtC.pick (ts := [0, 1]) rfl ?_
  unfold slices_Equal_api_Nat_uint32 at H
  refine AtC.seqR ?_
  refine AtL.pures hT 1 _ _ _ _ rfl ?_
  refine AtL.nil ?_
  refine AtE.then_n (AtE.go ?_)
  refine AtC.seq ?_
  refine AtC.seqR ?_
  refine AtL.pures hT 5 _ _ _ _ rfl ?_
  refine AtL.nil ?_
  refine AtE.then_n (AtE.go ?_)
  refine AtC.condB H rfl (fun H => ?_) (fun H => ?_)
  ·
   refine AtC.seqR ?_
   refine AtL.pures hT 1 _ _ _ _ rfl ?_
   refine AtL.nil ?_
   refine AtE.then_n (AtE.go ?_)
   refine AtC.ret ?_
   refine AtE.then_r ?_
   exact AtE.retN (rs := [.tmp 4]) rfl (ResAll.cons (ResAt.tmp rfl) ResAll.nil) rfl H
  ·
   refine AtC.skip ?_
   refine AtE.then_n (AtE.go ?_)
   refine AtC.seq ?_
   refine AtC.seqR ?_
   refine AtL.pures hT 3 _ _ _ _ rfl ?_
   refine AtL.nil ?_
   refine AtE.then_n (AtE.go ?_)
   refine AtC.block ?_
   refine AtC.loopM (fun (s0 : Int) => [(13, Value.int .i64 s0)]) (fun (s0 : Int) => []) [0, 1, 12] [13, 0, 1, 12] [] [] H (by exact rfl) (by exact rfl) (by exact rfl) (by decide) (by exact rfl) (fun Kp1 s0 h0 H Q1 HK1 => ?_)
   refine AtC.seqR ?_
   refine AtL.pures hT 1 _ _ _ _ rfl ?_
   refine AtL.nil ?_
   refine AtE.then_n (AtE.go ?_)
   refine AtC.seq ?_
   refine AtC.condB H rfl (fun H => ?_) (fun H => ?_)
   ·
    refine AtC.skip ?_
    refine AtE.then_n (AtE.go ?_)
    refine AtC.seq ?_
    refine AtC.block ?_
    refine AtC.seqR ?_
    refine AtL.pures hT 2 _ _ _ _ rfl ?_
    refine AtL.nil ?_
    refine AtE.then_n (AtE.go ?_)
    refine AtC.seqD hmix (by kernel_rfl) ?_
    refine AtD.pures hT 2 _ _ _ _ rfl ?_
    obtain ⟨a_, hc1, hd1, H⟩ := H
    refine AtD.q rfl (Quiet1.idxS (s := _) hT rfl rfl rfl rfl rfl hc1 hd1) ?_
    obtain ⟨v, hc2, H⟩ := H
    refine AtD.q rfl (Quiet1.load hT rfl rfl rfl hc2) ?_
    refine AtD.pures hT 2 _ _ _ _ rfl ?_
    obtain ⟨a_1_, hc3, hd3, H⟩ := H
    refine AtD.q rfl (Quiet1.idxS (s := _) hT rfl rfl rfl rfl rfl hc3 hd3) ?_
    obtain ⟨v_1, hc4, H⟩ := H
    refine AtD.q rfl (Quiet1.load hT rfl rfl rfl hc4) ?_
    refine AtD.pures hT 1 _ _ _ _ rfl ?_
    refine AtD.nil ?_
    refine AtE.then_n (AtE.go ?_)
    refine AtC.condB H rfl (fun H => ?_) (fun H => ?_)
    ·
     refine AtC.seqR ?_
     refine AtL.pures hT 1 _ _ _ _ rfl ?_
     refine AtL.nil ?_
     refine AtE.then_n (AtE.go ?_)
     refine AtC.ret ?_
     refine AtE.blk_r ?_
     refine AtE.then_r ?_
     refine AtE.then_r ?_
     refine AtE.blk_r ?_
     refine AtE.then_r ?_
     exact AtE.retN (rs := [.tmp 4]) rfl (ResAll.cons (ResAt.tmp rfl) ResAll.nil) rfl H
    ·
     refine AtC.skip ?_
     refine AtE.blk_n ?_
     refine AtE.then_n (AtE.go ?_)
     refine AtC.region ?_
     refine AtL.pures hT 2 _ _ _ _ rfl ?_
     refine AtL.nil ?_
     exact AtE.then_n ((HK1 _ _ H).pickP (ts := [13, 0, 1, 12]) (is := []) rfl rfl (by decide) rfl)
   ·
    refine AtC.exit ?_
    refine AtE.then_x ?_
    refine AtE.then_x ?_
    refine AtE.blk_hit ?_
    refine AtE.then_n (AtE.go ?_)
    refine AtC.seqR ?_
    refine AtL.pures hT 1 _ _ _ _ rfl ?_
    refine AtL.nil ?_
    refine AtE.then_n (AtE.go ?_)
    refine AtC.ret ?_
    exact AtE.retN (rs := [.tmp 4]) rfl (ResAll.cons (ResAt.tmp rfl) ResAll.nil) rfl H

theorem lift_ratio_isOne (x0 : Sl) (w : World) (m : Heap) (hr : Rel ⟨m, []⟩ w.heap) (S : Bool → Heap → Prop) (H : ratio_isOne x0 m S) :
    Calls Tryd.prog 117 #[Sl.toV x0] w (Post ⟨w, m⟩ Value.bool S) := by
  refine Calls.lift (args := [Sl.toV x0]) Tryd.func117 rfl Tryd.ntmps117 (Nat.le_of_ble_eq_true rfl) hr (ratio_isOne x0 m S) H (fun H => ?_)
  refine AtC.pick (ts := [0]) rfl ?_
  unfold ratio_isOne at H
  refine AtC.seqR ?_
  refine AtL.pures hT 1 _ _ _ _ rfl ?_
  refine AtL.nil ?_
  refine AtE.then_n (AtE.go ?_)
  refine AtC.seqR ?_
  refine AtL.pures hT 1 _ _ _ _ rfl ?_
  refine AtL.e rfl (EffX.call (f := 123) (sh := fun h => ratio_one h _) (H0 := H) rfl Tryd.call123 rfl (hl := fun w m hr hw => lift_ratio_one  w m hr _ hw)) ?_
  rintro _ _ ⟨v, h0, rfl, rfl, H⟩
  refine AtL.e rfl (EffX.call (f := 131) (sh := fun h => slices_Equal_api_Nat_uint32 _ _ h _) (H0 := H) rfl Tryd.call131 rfl (hl := fun w m hr hw => lift_slices_Equal_api_Nat_uint32 _ _ w m hr _ hw)) ?_
  rintro _ _ ⟨v_1, h0u1, rfl, rfl, H⟩
  refine AtL.pures hT 1 _ _ _ _ rfl ?_
  refine AtL.nil ?_
  refine AtE.then_n (AtE.go ?_)
  refine AtC.ret ?_
  exact AtE.retN (rs := [.tmp 2]) rfl (ResAll.cons (ResAt.tmp rfl) ResAll.nil) rfl H

theorem lift_ratio_form (neg : Bool) (num : Sl) (d : Sl) (w : World) (m : Heap) (hr : Rel ⟨m, []⟩ w.heap) (S : (Bool × Sl × Sl) → Heap → Prop) (H : ratio_form neg num d m S) :
    Calls Tryd.prog 112 #[Value.bool neg, Sl.toV num, Sl.toV d] w (Post ⟨w, m⟩ (fun r => Value.agg (C_bool_sl_sl r).toArray) S) := by
  refine Calls.lift (args := [Value.bool neg, Sl.toV num, Sl.toV d]) Tryd.func112 rfl Tryd.ntmps112 (Nat.le_of_ble_eq_true rfl) hr (ratio_form neg num d m S) H (fun H => ?_)
  refine AtC.pick (ts := [0, 1, 2]) rfl ?_
  unfold ratio_form at H
  refine AtC.seqR ?_
  refine AtL.e rfl (EffX.allocP (cs := [_, _, _]) hT rfl rfl H) ?_
  rintro _ _ ⟨b, _, rfl, rfl, _, H⟩
  refine AtL.nil ?_
  replace H := H.self
  refine AtE.then_n (AtE.go ?_)
  refine AtC.seqR ?_
  refine AtL.e rfl (EffX.call (f := 110) (sh := fun h => ratio_free h _) (H0 := H) rfl Tryd.call110 rfl (hl := fun w m hr hw => lift_ratio_free  w m hr _ hw)) ?_
  rintro _ _ ⟨v, h0u1, rfl, rfl, H⟩
  refine AtL.pures hT 1 _ _ _ _ rfl ?_
  refine AtL.nil ?_
  refine AtE.then_n (AtE.go ?_)
  refine AtC.seqR ?_
  refine AtL.pures hT 3 _ _ _ _ rfl ?_
  refine AtL.e rfl (EffX.call (f := 21) (sh := fun h => nat_Bench_Gcd _ _ _ h _) (H0 := H) rfl Tryd.call21 rfl (hl := fun w m hr hw => lift_nat_Bench_Gcd _ _ _ w m hr _ hw)) ?_
  rintro _ _ ⟨v_1, h0u2, rfl, rfl, H⟩
  refine AtL.pures hT 1 _ _ _ _ rfl ?_
  refine AtL.nil ?_
  refine AtE.then_n (AtE.go ?_)
  refine AtC.seqR ?_
  refine AtL.pures hT 3 _ _ _ _ rfl ?_
  refine AtL.e rfl (EffX.call (f := 22) (sh := fun h => nat_Bench_Div _ _ _ h _) (H0 := H) rfl Tryd.call22 rfl (hl := fun w m hr hw => lift_nat_Bench_Div _ _ _ w m hr _ hw)) ?_
  rintro _ _ ⟨v_2, h0u3, rfl, rfl, H⟩
  refine AtL.pures hT 4 _ _ _ _ rfl ?_
  refine AtL.nil ?_
  refine AtE.then_n (AtE.go ?_)
  refine AtC.seqR ?_
  refine AtL.pures hT 3 _ _ _ _ rfl ?_
  refine AtL.e rfl (EffX.call (f := 22) (sh := fun h => nat_Bench_Div _ _ _ h _) (H0 := H) rfl Tryd.call22 rfl (hl := fun w m hr hw => lift_nat_Bench_Div _ _ _ w m hr _ hw)) ?_
  rintro _ _ ⟨v_3, h0u4, rfl, rfl, H⟩
  refine AtL.pures hT 4 _ _ _ _ rfl ?_
  refine AtL.nil ?_
  refine AtE.then_n (AtE.go ?_)
  refine AtC.joinSeq (β := Unit) (fun (t0 : Sl) (bb : Unit) => [(2, Sl.toV t0)]) (fun (t0 : Sl) (bb : Unit) => []) [0, 1, 6] [0] H (by exact rfl) (by exact rfl) (fun t0 bb h0u5 H => ?_) (fun J1 H HK1 => ?_)
  ·
   refine AtC.seq ?_
   refine AtC.seqR ?_
   refine AtL.pures hT 3 _ _ _ _ rfl ?_
   refine AtL.nil ?_
   refine AtE.then_n (AtE.go ?_)
   refine AtC.condB H rfl (fun H => ?_) (fun H => ?_)
   ·
    refine AtC.seqR ?_
    refine AtL.q rfl (Quiet1.build (cs := [_, _, _]) hT rfl rfl rfl rfl rfl rfl) ?_
    refine AtL.e rfl (EffX.storeSP (i := 0) (qv := [(_, [_, _, _])]) hT rfl rfl rfl rfl rfl rfl rfl rfl rfl rfl) ?_
    rintro _ _ rfl
    refine AtL.nil ?_
    refine AtE.then_n (AtE.go ?_)
    refine AtC.ret ?_
    refine AtE.then_r ?_
    exact AtE.retN (rs := [.cell 6 54]) rfl (ResAll.cons (ResAt.cellSP (i := 0) (l := [_, _, _]) hT rfl rfl rfl rfl rfl rfl rfl) ResAll.nil) rfl H
   ·
    refine AtC.skip ?_
    refine AtE.then_n (AtE.go ?_)
    refine AtC.seqR ?_
    refine AtL.pures hT 2 _ _ _ _ rfl ?_
    refine AtL.q rfl (Quiet1.build (cs := [_, _]) hT rfl rfl rfl rfl rfl rfl) ?_
    refine AtL.pures hT 1 _ _ _ _ rfl ?_
    refine AtL.q rfl (Quiet1.build (cs := [_, _, _]) hT rfl rfl rfl rfl rfl rfl) ?_
    refine AtL.e rfl (EffX.storeSP (i := 0) (qv := [(_, [_, _, _])]) hT rfl rfl rfl rfl rfl rfl rfl rfl rfl rfl) ?_
    rintro _ _ rfl
    refine AtL.nil ?_
    refine AtE.then_n (AtE.go ?_)
    refine AtC.ret ?_
    exact AtE.retN (rs := [.cell 6 54]) rfl (ResAll.cons (ResAt.cellSP (i := 0) (l := [_, _, _]) hT rfl rfl rfl rfl rfl rfl rfl) ResAll.nil) rfl H
  ·
   refine AtC.seqR ?_
   refine AtL.pures hT 1 _ _ _ _ rfl ?_
   refine AtL.e rfl (EffX.call (f := 117) (sh := fun h => ratio_isOne _ h _) (H0 := H) rfl Tryd.call117 rfl (hl := fun w m hr hw => lift_ratio_isOne _ w m hr _ hw)) ?_
   rintro _ _ ⟨v_4, h0u6, rfl, rfl, H⟩
   refine AtL.nil ?_
   refine AtE.then_n (AtE.go ?_)
   refine AtC.condB H rfl (fun H => ?_) (fun H => ?_)
   ·
    refine AtC.region ?_
    refine AtL.pures hT 1 _ _ _ _ rfl ?_
    refine AtL.nil ?_
    exact AtE.then_n ((HK1 _ () _ H).pickP (ts := [2, 0, 1, 6]) (is := [0]) rfl rfl (by decide) rfl)
   ·
    refine AtC.skip ?_
    exact AtE.then_n ((HK1 _ () _ H).pickP (ts := [2, 0, 1, 6]) (is := [0]) rfl rfl (by decide) rfl)

theorem lift_ratio_fit (b : (Option Addr)) (x0 : Bool × Sl × Sl) (w : World) (m : Heap) (hr : Rel ⟨m, []⟩ w.heap) (S : (Bool × Sl × Sl) → Heap → Prop) (H : ratio_fit b x0 m S) :
    Calls Tryd.prog 111 #[Value.pointer b, Value.agg (C_bool_sl_sl x0).toArray] w (Post ⟨w, m⟩ (fun r => Value.agg (C_bool_sl_sl r).toArray) S) := by
  refine Calls.lift (args := [Value.pointer b, Value.agg (C_bool_sl_sl x0).toArray]) Tryd.func111 rfl Tryd.ntmps111 (Nat.le_of_ble_eq_true rfl) hr (ratio_fit b x0 m S) H (fun H => ?_)
  refine AtC.pick (ts := [0, 1]) rfl ?_
  unfold ratio_fit at H
  refine AtC.seqR ?_
  refine AtL.e rfl (EffX.boxP (cs := [_, _, _]) rfl rfl rfl H) ?_
  rintro _ _ ⟨b_1, _, rfl, rfl, _, H⟩
  refine AtL.e rfl (EffX.allocP (cs := [_, _, _]) hT rfl rfl H) ?_
  rintro _ _ ⟨b_2, _, rfl, rfl, _, H⟩
  refine AtL.nil ?_
  replace H := H.self
  refine AtE.then_n (AtE.go ?_)
  refine AtC.seqR ?_
  refine AtL.pures hT 3 _ _ _ _ rfl ?_
  refine AtL.q rfl (Quiet1.loadP (i := 1) hT rfl rfl rfl rfl rfl rfl) ?_
  refine AtL.e rfl (EffX.call (f := 17) (sh := fun h => nat_Bench_Add _ _ _ h _) (H0 := H) rfl Tryd.call17 rfl (hl := fun w m hr hw => lift_nat_Bench_Add _ _ _ w m hr _ hw)) ?_
  rintro _ _ ⟨v, h0u1, rfl, rfl, H⟩
  refine AtL.nil ?_
  refine AtE.then_n (AtE.go ?_)
  refine AtC.seqR ?_
  refine AtL.pures hT 2 _ _ _ _ rfl ?_
  refine AtL.q rfl (Quiet1.loadP (i := 1) hT rfl rfl rfl rfl rfl rfl) ?_
  refine AtL.e rfl (EffX.call (f := 17) (sh := fun h => nat_Bench_Add _ _ _ h _) (H0 := H) rfl Tryd.call17 rfl (hl := fun w m hr hw => lift_nat_Bench_Add _ _ _ w m hr _ hw)) ?_
  rintro _ _ ⟨v_1, h0u2, rfl, rfl, H⟩
  refine AtL.nil ?_
  refine AtE.then_n (AtE.go ?_)
  refine AtC.seq ?_
  refine AtC.seqR ?_
  refine AtL.pures hT 1 _ _ _ _ rfl ?_
  refine AtL.e rfl (EffX.call (f := 24) (sh := fun h => nat_Bench_Over _ h _) (H0 := H) rfl Tryd.call24 rfl (hl := fun w m hr hw => lift_nat_Bench_Over _ w m hr _ hw)) ?_
  rintro _ _ ⟨v_2, h0u3, rfl, rfl, H⟩
  refine AtL.nil ?_
  refine AtE.then_n (AtE.go ?_)
  refine AtC.condB H rfl (fun H => ?_) (fun H => ?_)
  ·
   refine AtC.seqR ?_
   refine AtL.q rfl (Quiet1.build (cs := [_, _, _]) hT rfl rfl rfl rfl rfl rfl) ?_
   refine AtL.e rfl (EffX.storeSP (i := 0) (qv := [(_, [_, _, _]), (_, [_, _, _])]) hT rfl rfl rfl rfl rfl rfl rfl rfl rfl rfl) ?_
   rintro _ _ rfl
   refine AtL.nil ?_
   refine AtE.then_n (AtE.go ?_)
   refine AtC.ret ?_
   refine AtE.then_r ?_
   exact AtE.retN (rs := [.cell 4 54]) rfl (ResAll.cons (ResAt.cellSP (i := 0) (l := [_, _, _]) hT rfl rfl rfl rfl rfl rfl rfl) ResAll.nil) rfl H
  ·
   refine AtC.skip ?_
   refine AtE.then_n (AtE.go ?_)
   refine AtC.seqR ?_
   refine AtL.q rfl (Quiet1.loadSP (i := 1) (l := [_, _, _]) hT rfl rfl rfl rfl rfl rfl rfl rfl) ?_
   refine AtL.e rfl (EffX.storeSP (i := 0) (qv := [(_, [_, _, _]), (_, [_, _, _])]) hT rfl rfl rfl rfl rfl rfl rfl rfl rfl rfl) ?_
   rintro _ _ rfl
   refine AtL.nil ?_
   refine AtE.then_n (AtE.go ?_)
   refine AtC.ret ?_
   exact AtE.retN (rs := [.cell 4 54]) rfl (ResAll.cons (ResAt.cellSP (i := 0) (l := [_, _, _]) hT rfl rfl rfl rfl rfl rfl rfl) ResAll.nil) rfl H

theorem lift_ratio_Add (b : (Option Addr)) (x0 : Bool × Sl × Sl) (y : Bool × Sl × Sl) (w : World) (m : Heap) (hr : Rel ⟨m, []⟩ w.heap) (S : (Bool × Sl × Sl) → Heap → Prop) (H : ratio_Add b x0 y m S) :
    Calls Tryd.prog 80 #[Value.pointer b, Value.agg (C_bool_sl_sl x0).toArray, Value.agg (C_bool_sl_sl y).toArray] w (Post ⟨w, m⟩ (fun r => Value.agg (C_bool_sl_sl r).toArray) S) := by
  refine Calls.lift (args := [Value.pointer b, Value.agg (C_bool_sl_sl x0).toArray, Value.agg (C_bool_sl_sl y).toArray]) Tryd.func80 rfl Tryd.ntmps80 (Nat.le_of_ble_eq_true rfl) hr (ratio_Add b x0 y m S) H (fun H => ?_)
  refine AtC.pick (ts := [0, 1, 2]) rfl ?_
  unfold ratio_Add at H
  refine AtC.seqR ?_
  refine AtL.e rfl (EffX.boxP (cs := [_, _, _]) rfl rfl rfl H) ?_
  rintro _ _ ⟨b_1, _, rfl, rfl, _, H⟩
  refine AtL.e rfl (EffX.boxP (cs := [_, _, _]) rfl rfl rfl H) ?_
  rintro _ _ ⟨b_2, _, rfl, rfl, _, H⟩
  refine AtL.e rfl (EffX.allocP (cs := [_, _, _]) hT rfl rfl H) ?_
  rintro _ _ ⟨b_3, _, rfl, rfl, _, H⟩
  refine AtL.nil ?_
  replace H := H.self
  refine AtE.then_n (AtE.go ?_)
  refine AtC.seqR ?_
  refine AtL.q rfl (Quiet1.loadSP (i := 2) (l := [_, _, _]) hT rfl rfl rfl rfl rfl rfl rfl rfl) ?_
  refine AtL.q rfl (Quiet1.loadSP (i := 1) (l := [_, _, _]) hT rfl rfl rfl rfl rfl rfl rfl rfl) ?_
  refine AtL.e rfl (EffX.call (f := 107) (sh := fun h => ratio_cross _ _ h _) (H0 := H) rfl Tryd.call107 rfl (hl := fun w m hr hw => lift_ratio_cross _ _ w m hr _ hw)) ?_
  rintro _ _ ⟨v, h0u1, rfl, rfl, H⟩
  refine AtL.pures hT 2 _ _ _ _ rfl ?_
  refine AtL.e rfl (EffX.call (f := 108) (sh := fun h => ratio_sum _ _ h _) (H0 := H) rfl Tryd.call108 rfl (hl := fun w m hr hw => lift_ratio_sum _ _ w m hr _ hw)) ?_
  rintro _ _ ⟨v_1, h0u2, rfl, rfl, H⟩
  refine AtL.e rfl (EffX.allocP (cs := [_, _]) hT rfl rfl H) ?_
  rintro _ _ ⟨b_4, _, rfl, rfl, _, H⟩
  replace H := H.self
  refine AtL.e rfl (EffX.storeSP (i := 0) (qv := [(_, [_, _]), (_, [_, _, _]), (_, [_, _, _]), (_, [_, _, _])]) hT rfl rfl rfl rfl rfl rfl rfl rfl rfl rfl) ?_
  rintro _ _ rfl
  refine AtL.nil ?_
  refine AtE.then_n (AtE.go ?_)
  apply AtC.seqS [5, 7, 9, 10, 11, 12, 13] [[], [], [], [], [], [], [], [5], [], [5, 7], [5, 7, 9], [5, 7, 9, 10], [5, 7, 9, 10, 11], [5, 7, 9, 10, 11, 12]] [[], [], [1], [], [3], [], [], [5, 6], [], [5, 6, 7, 8], [5, 6, 7, 8, 9], [1, 2, 3, 4, 5, 6, 7, 8, 9, 10], [0, 1, 2, 3, 4, 5, 6, 7, 8, 9, 10, 11], [0, 1, 2, 3, 4, 5, 6, 7, 8, 9, 10, 11, 12]] hmix (by kernel_rfl) [(14, _), (15, _), (16, _), (17, _), (18, _), (20, _), (22, _)] rfl 7 rfl
  refine Stg.go [0, 1, 2, 3, 4, 6, 8] [5] rfl rfl (QAll.cons (QOp.p hT rfl rfl rfl rfl rfl) (QAll.cons (QOp.p hT rfl rfl rfl rfl rfl) (QAll.cons (QOp.q rfl rfl (Quiet1.loadP (i := 0) hT rfl rfl rfl rfl rfl rfl) rfl rfl) (QAll.cons (QOp.p hT rfl rfl rfl rfl rfl) (QAll.cons (QOp.q rfl rfl (Quiet1.loadP (i := 0) hT rfl rfl rfl rfl rfl rfl) rfl rfl) (QAll.cons (QOp.q rfl rfl (Quiet1.loadSP (i := 3) (l := [_, _, _]) hT rfl rfl rfl rfl rfl rfl rfl rfl) rfl rfl) (QAll.cons (QOp.q rfl rfl (Quiet1.loadSP (i := 2) (l := [_, _, _]) hT rfl rfl rfl rfl rfl rfl rfl rfl) rfl rfl) QAll.nil))))))) ?_
  refine EAll.cons ?_ EAll.nil
  refine EOp.e rfl rfl rfl (EffX.call (f := 110) (sh := fun h => ratio_free h _) (H0 := H) rfl Tryd.call110 rfl (hl := fun w m hr hw => lift_ratio_free  w m hr _ hw)) ?_
  rintro _ _ ⟨v_2, h0u4, rfl, rfl, H⟩
  apply Stg.next [(19, _)] rfl rfl
  refine Stg.go [0, 1, 2, 3, 4, 6, 8] [7] rfl rfl (QAll.cons (QOp.p hT rfl rfl rfl rfl rfl) (QAll.cons (QOp.p hT rfl rfl rfl rfl rfl) (QAll.cons (QOp.q rfl rfl (Quiet1.loadP (i := 0) hT rfl rfl rfl rfl rfl rfl) rfl rfl) (QAll.cons (QOp.p hT rfl rfl rfl rfl rfl) (QAll.cons (QOp.q rfl rfl (Quiet1.loadP (i := 0) hT rfl rfl rfl rfl rfl rfl) rfl rfl) (QAll.cons (QOp.q rfl rfl (Quiet1.loadSP (i := 3) (l := [_, _, _]) hT rfl rfl rfl rfl rfl rfl rfl rfl) rfl rfl) (QAll.cons (QOp.q rfl rfl (Quiet1.loadSP (i := 2) (l := [_, _, _]) hT rfl rfl rfl rfl rfl rfl rfl rfl) rfl rfl) QAll.nil))))))) ?_
  refine EAll.cons ?_ EAll.nil
  refine EOp.e rfl rfl rfl (EffX.call (f := 113) (sh := fun h => ratio_den _ h _) (H0 := H) rfl Tryd.call113 rfl (hl := fun w m hr hw => lift_ratio_den _ w m hr _ hw)) ?_
  rintro _ _ ⟨v_3, h0u5, rfl, rfl, H⟩
  apply Stg.next [(21, _)] rfl rfl
  refine Stg.go [0, 1, 2, 3, 4, 8] [9] rfl rfl (QAll.cons (QOp.p hT rfl rfl rfl rfl rfl) (QAll.cons (QOp.p hT rfl rfl rfl rfl rfl) (QAll.cons (QOp.q rfl rfl (Quiet1.loadP (i := 0) hT rfl rfl rfl rfl rfl rfl) rfl rfl) (QAll.cons (QOp.p hT rfl rfl rfl rfl rfl) (QAll.cons (QOp.q rfl rfl (Quiet1.loadP (i := 0) hT rfl rfl rfl rfl rfl rfl) rfl rfl) (QAll.cons (QOp.q rfl rfl (Quiet1.loadSP (i := 2) (l := [_, _, _]) hT rfl rfl rfl rfl rfl rfl rfl rfl) rfl rfl) QAll.nil)))))) ?_
  refine EAll.cons ?_ EAll.nil
  refine EOp.e rfl rfl rfl (EffX.call (f := 113) (sh := fun h => ratio_den _ h _) (H0 := H) rfl Tryd.call113 rfl (hl := fun w m hr hw => lift_ratio_den _ w m hr _ hw)) ?_
  rintro _ _ ⟨v_4, h0u6, rfl, rfl, H⟩
  apply Stg.next [(23, _)] rfl rfl
  refine Stg.go [0, 1, 2, 3, 4] [10] rfl rfl (QAll.cons (QOp.p hT rfl rfl rfl rfl rfl) (QAll.cons (QOp.p hT rfl rfl rfl rfl rfl) (QAll.cons (QOp.q rfl rfl (Quiet1.loadP (i := 0) hT rfl rfl rfl rfl rfl rfl) rfl rfl) (QAll.cons (QOp.p hT rfl rfl rfl rfl rfl) (QAll.cons (QOp.q rfl rfl (Quiet1.loadP (i := 0) hT rfl rfl rfl rfl rfl rfl) rfl rfl) QAll.nil))))) ?_
  refine EAll.cons ?_ EAll.nil
  refine EOp.e rfl rfl rfl (EffX.call (f := 18) (sh := fun h => nat_Bench_Mul _ _ _ h _) (H0 := H) rfl Tryd.call18 rfl (hl := fun w m hr hw => lift_nat_Bench_Mul _ _ _ w m hr _ hw)) ?_
  rintro _ _ ⟨v_5, h0u7, rfl, rfl, H⟩
  apply Stg.next [(24, _)] rfl rfl
  refine Stg.go [0, 1, 2, 3, 4] [11] rfl rfl (QAll.cons (QOp.p hT rfl rfl rfl rfl rfl) (QAll.cons (QOp.p hT rfl rfl rfl rfl rfl) (QAll.cons (QOp.q rfl rfl (Quiet1.loadP (i := 0) hT rfl rfl rfl rfl rfl rfl) rfl rfl) (QAll.cons (QOp.p hT rfl rfl rfl rfl rfl) (QAll.cons (QOp.q rfl rfl (Quiet1.loadP (i := 0) hT rfl rfl rfl rfl rfl rfl) rfl rfl) QAll.nil))))) ?_
  refine EAll.cons ?_ EAll.nil
  refine EOp.e rfl rfl rfl (EffX.call (f := 112) (sh := fun h => ratio_form _ _ _ h _) (H0 := H) rfl Tryd.call112 rfl (hl := fun w m hr hw => lift_ratio_form _ _ _ w m hr _ hw)) ?_
  rintro _ _ ⟨v_6, h0u8, rfl, rfl, H⟩
  apply Stg.next [(25, _)] rfl rfl
  refine Stg.go [0] [12] rfl rfl (QAll.cons (QOp.p hT rfl rfl rfl rfl rfl) QAll.nil) ?_
  refine EAll.cons ?_ EAll.nil
  refine EOp.e rfl rfl rfl (EffX.call (f := 111) (sh := fun h => ratio_fit _ _ h _) (H0 := H) rfl Tryd.call111 rfl (hl := fun w m hr hw => lift_ratio_fit _ _ w m hr _ hw)) ?_
  rintro _ _ ⟨v_7, h0u9, rfl, rfl, H⟩
  apply Stg.next [(26, _)] rfl rfl
  refine Stg.go [] [13] rfl rfl QAll.nil ?_
  refine EAll.cons ?_ EAll.nil
  refine EOp.e rfl rfl rfl (EffX.storeSP (i := 1) (qv := [(_, [_, _]), (_, [_, _, _]), (_, [_, _, _]), (_, [_, _, _])]) hT rfl rfl rfl rfl rfl rfl rfl rfl rfl rfl) ?_
  rintro _ _ rfl
  apply Stg.next [] rfl rfl
  refine Stg.fin [] rfl rfl QAll.nil ?_
  refine AtE.then_n (AtE.go ?_)
  refine AtC.ret ?_
  exact AtE.retN (rs := [.cell 6 54]) rfl (ResAll.cons (ResAt.cellSP (i := 1) (l := [_, _, _]) hT rfl rfl rfl rfl rfl rfl rfl) ResAll.nil) rfl H

theorem lift_delta_both__ratio_Add (b : (Option Addr)) (x0 : Bool × Sl × Sl × Bool × Sl × Sl) (y : Bool × Sl × Sl × Bool × Sl × Sl) (w : World) (m : Heap) (hr : Rel ⟨m, []⟩ w.heap) (S : (Bool × Sl × Sl × Bool × Sl × Sl) → Heap → Prop) (H : delta_both__ratio_Add b x0 y m S) :
    Calls Tryd.prog 100 #[Value.pointer b, Value.func (.func 80) #[] #[], Value.agg (C_bool_sl_sl_bool_sl_sl x0).toArray, Value.agg (C_bool_sl_sl_bool_sl_sl y).toArray] w (Post ⟨w, m⟩ (fun r => Value.agg (C_bool_sl_sl_bool_sl_sl r).toArray) S) := by
  refine Calls.lift (args := [Value.pointer b, Value.func (.func 80) #[] #[], Value.agg (C_bool_sl_sl_bool_sl_sl x0).toArray, Value.agg (C_bool_sl_sl_bool_sl_sl y).toArray]) Tryd.func100 rfl Tryd.ntmps100 (Nat.le_of_ble_eq_true rfl) hr (delta_both__ratio_Add b x0 y m S) H (fun H => ?_)
  refine AtC.pick (ts := [0, 1, 2, 3]) rfl ?_
  unfold delta_both__ratio_Add at H
  refine AtC.seqR ?_
  refine AtL.e rfl (EffX.boxP (cs := [_, _, _, _, _, _]) rfl rfl rfl H) ?_
  rintro _ _ ⟨b_1, _, rfl, rfl, _, H⟩
  refine AtL.e rfl (EffX.boxP (cs := [_, _, _, _, _, _]) rfl rfl rfl H) ?_
  rintro _ _ ⟨b_2, _, rfl, rfl, _, H⟩
  refine AtL.e rfl (EffX.allocP (cs := [_, _, _, _, _, _]) hT rfl rfl H) ?_
  rintro _ _ ⟨b_3, _, rfl, rfl, _, H⟩
  refine AtL.nil ?_
  replace H := H.self
  refine AtE.then_n (AtE.go ?_)
  refine AtC.joinSeq (β := Nat) (fun (t0 : Bool × Sl × Sl × Bool × Sl × Sl) (bb : Nat) => [(9, Value.pointer (some ⟨bb, 0, none⟩))]) (fun (t0 : Bool × Sl × Sl × Bool × Sl × Sl) (bb : Nat) => [(bb, [Value.bool t0.1, Sl.toV t0.2.1, Sl.toV t0.2.2.1, Value.bool t0.2.2.2.1, Sl.toV t0.2.2.2.2.1, Sl.toV t0.2.2.2.2.2])]) [0, 8] [0] H (by exact rfl) (by exact rfl) (fun t0 bb h0u1 H => ?_) (fun J1 H HK1 => ?_)
  ·
   refine AtC.seq ?_
   refine AtC.seqR ?_
   refine AtL.pures hT 1 _ _ _ _ rfl ?_
   refine AtL.e rfl (EffX.call (f := 24) (sh := fun h => nat_Bench_Over _ h _) (H0 := H) rfl Tryd.call24 rfl (hl := fun w m hr hw => lift_nat_Bench_Over _ w m hr _ hw)) ?_
   rintro _ _ ⟨v_5, h0u13, rfl, rfl, H⟩
   refine AtL.nil ?_
   refine AtE.then_n (AtE.go ?_)
   refine AtC.condB H rfl (fun H => ?_) (fun H => ?_)
   ·
    refine AtC.seqR ?_
    refine AtL.q rfl (Quiet1.build (cs := [_, _, _, _, _, _]) hT rfl rfl rfl rfl rfl rfl) ?_
    refine AtL.e rfl (EffX.storeSP (i := 1) (qv := [(_, [_, _, _, _, _, _]), (_, [_, _, _, _, _, _])]) hT rfl rfl rfl rfl rfl rfl rfl rfl rfl rfl) ?_
    rintro _ _ rfl
    refine AtL.nil ?_
    refine AtE.then_n (AtE.go ?_)
    refine AtC.ret ?_
    refine AtE.then_r ?_
    exact AtE.retN (rs := [.cell 8 56]) rfl (ResAll.cons (ResAt.cellSP (i := 1) (l := [_, _, _, _, _, _]) hT rfl rfl rfl rfl rfl rfl rfl) ResAll.nil) rfl H
   ·
    refine AtC.skip ?_
    refine AtE.then_n (AtE.go ?_)
    refine AtC.seqR ?_
    refine AtL.q rfl (Quiet1.loadSP (i := 0) (l := [_, _, _, _, _, _]) hT rfl rfl rfl rfl rfl rfl rfl rfl) ?_
    refine AtL.e rfl (EffX.storeSP (i := 1) (qv := [(_, [_, _, _, _, _, _]), (_, [_, _, _, _, _, _])]) hT rfl rfl rfl rfl rfl rfl rfl rfl rfl rfl) ?_
    rintro _ _ rfl
    refine AtL.nil ?_
    refine AtE.then_n (AtE.go ?_)
    refine AtC.ret ?_
    exact AtE.retN (rs := [.cell 8 56]) rfl (ResAll.cons (ResAt.cellSP (i := 1) (l := [_, _, _, _, _, _]) hT rfl rfl rfl rfl rfl rfl rfl) ResAll.nil) rfl H
  ·
   apply AtC.stages [6, 13, 15, 16] [[], [], [], [], [], [], [], [], [], [], [], [], [], [6], [6, 13], [], [6, 13, 15]] [[], [], [], [2], [], [4], [0, 1, 2, 3, 4, 5], [], [], [], [9], [], [11], [0, 1, 2, 3, 4, 5, 6, 7, 8, 9, 10, 11, 12], [0, 1, 2, 3, 4, 5, 6, 7, 8, 9, 10, 11, 12, 13], [], [0, 1, 2, 3, 4, 5, 6, 7, 8, 9, 10, 11, 12, 13, 14, 15]] hmix (by kernel_rfl) [(10, _), (11, _), (12, _), (13, _), (14, _), (15, _), (17, _), (18, _), (19, _), (20, _), (21, _), (22, _)] rfl 4 rfl
   refine Stg.go [0, 1, 2, 3, 4, 5, 7, 8, 9, 10, 11, 12] [6, 15] rfl rfl (QAll.cons (QOp.p hT rfl rfl rfl rfl rfl) (QAll.cons (QOp.p hT rfl rfl rfl rfl rfl) (QAll.cons (QOp.p hT rfl rfl rfl rfl rfl) (QAll.cons (QOp.q rfl rfl (Quiet1.loadSP (i := 2) (l := [_, _, _]) hT rfl rfl rfl rfl rfl rfl rfl rfl) rfl rfl) (QAll.cons (QOp.p hT rfl rfl rfl rfl rfl) (QAll.cons (QOp.q rfl rfl (Quiet1.loadSP (i := 1) (l := [_, _, _]) hT rfl rfl rfl rfl rfl rfl rfl rfl) rfl rfl) (QAll.cons (QOp.p hT rfl rfl rfl rfl rfl) (QAll.cons (QOp.p hT rfl rfl rfl rfl rfl) (QAll.cons (QOp.p hT rfl rfl rfl rfl rfl) (QAll.cons (QOp.q rfl rfl (Quiet1.loadSP (i := 2) (l := [_, _, _]) hT rfl rfl rfl rfl rfl rfl rfl rfl) rfl rfl) (QAll.cons (QOp.p hT rfl rfl rfl rfl rfl) (QAll.cons (QOp.q rfl rfl (Quiet1.loadSP (i := 1) (l := [_, _, _]) hT rfl rfl rfl rfl rfl rfl rfl rfl) rfl rfl) QAll.nil)))))))))))) ?_
   refine EAll.cons ?_ ?_
   ·
    replace H := H.self
    refine EOp.e rfl rfl rfl (EffX.callF (bs := []) (cs := []) (f := 80) (sh := fun h => ratio_Add _ _ _ h _) (H0 := H) rfl rfl Tryd.call80 rfl (hl := fun w m hr hw => lift_ratio_Add _ _ _ w m hr _ hw)) ?_
    rintro _ _ ⟨v, h0u3, rfl, rfl, H⟩
    apply Stg.next [(16, _)] rfl rfl
    refine Stg.go [7, 8, 9, 10, 11, 12] [13, 15] rfl rfl (QAll.cons (QOp.p hT rfl rfl rfl rfl rfl) (QAll.cons (QOp.p hT rfl rfl rfl rfl rfl) (QAll.cons (QOp.p hT rfl rfl rfl rfl rfl) (QAll.cons (QOp.q rfl rfl (Quiet1.loadSP (i := 2) (l := [_, _, _]) hT rfl rfl rfl rfl rfl rfl rfl rfl) rfl rfl) (QAll.cons (QOp.p hT rfl rfl rfl rfl rfl) (QAll.cons (QOp.q rfl rfl (Quiet1.loadSP (i := 1) (l := [_, _, _]) hT rfl rfl rfl rfl rfl rfl rfl rfl) rfl rfl) QAll.nil)))))) ?_
    refine EAll.cons ?_ ?_
    ·
     replace H := H.self
     refine EOp.e rfl rfl rfl (EffX.callF (bs := []) (cs := []) (f := 80) (sh := fun h => ratio_Add _ _ _ h _) (H0 := H) rfl rfl Tryd.call80 rfl (hl := fun w m hr hw => lift_ratio_Add _ _ _ w m hr _ hw)) ?_
     rintro _ _ ⟨v_1, h0u5, rfl, rfl, H⟩
     apply Stg.next [(23, _), (24, _)] rfl rfl
     refine Stg.go [14] [15] rfl rfl (QAll.cons (QOp.q rfl rfl (Quiet1.build (cs := [_, _, _, _, _, _]) hT rfl rfl rfl rfl rfl rfl) rfl rfl) QAll.nil) ?_
     refine EAll.cons ?_ EAll.nil
     refine EOp.e rfl rfl rfl (EffX.allocP (cs := [_, _, _, _, _, _]) hT rfl rfl H) ?_
     rintro _ _ ⟨b_4, _, rfl, rfl, he1, H⟩
     apply Stg.next [(9, _)] rfl rfl
     refine Stg.go [14] [16] rfl rfl (QAll.cons (QOp.q rfl rfl (Quiet1.build (cs := [_, _, _, _, _, _]) hT rfl rfl rfl rfl rfl rfl) rfl rfl) QAll.nil) ?_
     refine EAll.cons ?_ EAll.nil
     refine EOp.e rfl rfl rfl (EffX.storeSP (i := 0) (qv := [(_, [_, _, _, _, _, _]), (_, [_, _, _, _, _, _]), (_, [_, _, _, _, _, _]), (_, [_, _, _, _, _, _])]) hT rfl rfl rfl rfl rfl rfl rfl rfl rfl rfl) ?_
     rintro _ _ rfl
     apply Stg.next [] rfl rfl
     refine Stg.fin [] rfl rfl QAll.nil ?_
     replace H := H.self
     exact AtE.then_n ((HK1 _ b_4 _ H).pickP (ts := [9, 0, 8]) (is := [0, 1]) rfl rfl (by decide) rfl)
    refine EAll.cons ?_ EAll.nil
    refine EOp.e rfl rfl rfl (EffX.allocP (cs := [_, _, _, _, _, _]) hT rfl rfl H) ?_
    rintro _ _ ⟨b_5, _, rfl, rfl, he2, H⟩
    apply Stg.next [(9, _)] rfl rfl
    refine Stg.go [7, 8, 9, 10, 11, 12] [13] rfl rfl (QAll.cons (QOp.p hT rfl rfl rfl rfl rfl) (QAll.cons (QOp.p hT rfl rfl rfl rfl rfl) (QAll.cons (QOp.p hT rfl rfl rfl rfl rfl) (QAll.cons (QOp.q rfl rfl (Quiet1.loadSP (i := 3) (l := [_, _, _]) hT rfl rfl rfl rfl rfl rfl rfl rfl) rfl rfl) (QAll.cons (QOp.p hT rfl rfl rfl rfl rfl) (QAll.cons (QOp.q rfl rfl (Quiet1.loadSP (i := 2) (l := [_, _, _]) hT rfl rfl rfl rfl rfl rfl rfl rfl) rfl rfl) QAll.nil)))))) ?_
    refine EAll.cons ?_ EAll.nil
    replace H := H.self
    refine EOp.e rfl rfl rfl (EffX.callF (bs := []) (cs := []) (f := 80) (sh := fun h => ratio_Add _ _ _ h _) (H0 := H) rfl rfl Tryd.call80 rfl (hl := fun w m hr hw => lift_ratio_Add _ _ _ w m hr _ hw)) ?_
    rintro _ _ ⟨v_2, h0u7, rfl, rfl, H⟩
    apply Stg.next [(23, _), (24, _)] rfl rfl
    refine Stg.go [14] [16] rfl rfl (QAll.cons (QOp.q rfl rfl (Quiet1.build (cs := [_, _, _, _, _, _]) hT rfl rfl rfl rfl rfl rfl) rfl rfl) QAll.nil) ?_
    refine EAll.cons ?_ EAll.nil
    refine EOp.e rfl rfl rfl (EffX.storeSP (i := 0) (qv := [(_, [_, _, _, _, _, _]), (_, [_, _, _, _, _, _]), (_, [_, _, _, _, _, _]), (_, [_, _, _, _, _, _])]) hT rfl rfl rfl rfl rfl rfl rfl rfl rfl rfl) ?_
    rintro _ _ rfl
    apply Stg.next [] rfl rfl
    refine Stg.fin [] rfl rfl QAll.nil ?_
    replace H := H.self
    exact AtE.then_n ((HK1 _ b_5 _ H).pickP (ts := [9, 0, 8]) (is := [0, 1]) rfl rfl (by decide) rfl)
   refine EAll.cons ?_ EAll.nil
   refine EOp.e rfl rfl rfl (EffX.allocP (cs := [_, _, _, _, _, _]) hT rfl rfl H) ?_
   rintro _ _ ⟨b_6, _, rfl, rfl, he3, H⟩
   apply Stg.next [(9, _)] rfl rfl
   refine Stg.go [0, 1, 2, 3, 4, 5, 7, 8, 9, 10, 11, 12] [6] rfl rfl (QAll.cons (QOp.p hT rfl rfl rfl rfl rfl) (QAll.cons (QOp.p hT rfl rfl rfl rfl rfl) (QAll.cons (QOp.p hT rfl rfl rfl rfl rfl) (QAll.cons (QOp.q rfl rfl (Quiet1.loadSP (i := 3) (l := [_, _, _]) hT rfl rfl rfl rfl rfl rfl rfl rfl) rfl rfl) (QAll.cons (QOp.p hT rfl rfl rfl rfl rfl) (QAll.cons (QOp.q rfl rfl (Quiet1.loadSP (i := 2) (l := [_, _, _]) hT rfl rfl rfl rfl rfl rfl rfl rfl) rfl rfl) (QAll.cons (QOp.p hT rfl rfl rfl rfl rfl) (QAll.cons (QOp.p hT rfl rfl rfl rfl rfl) (QAll.cons (QOp.p hT rfl rfl rfl rfl rfl) (QAll.cons (QOp.q rfl rfl (Quiet1.loadSP (i := 3) (l := [_, _, _]) hT rfl rfl rfl rfl rfl rfl rfl rfl) rfl rfl) (QAll.cons (QOp.p hT rfl rfl rfl rfl rfl) (QAll.cons (QOp.q rfl rfl (Quiet1.loadSP (i := 2) (l := [_, _, _]) hT rfl rfl rfl rfl rfl rfl rfl rfl) rfl rfl) QAll.nil)))))))))))) ?_
   refine EAll.cons ?_ EAll.nil
   replace H := H.self
   refine EOp.e rfl rfl rfl (EffX.callF (bs := []) (cs := []) (f := 80) (sh := fun h => ratio_Add _ _ _ h _) (H0 := H) rfl rfl Tryd.call80 rfl (hl := fun w m hr hw => lift_ratio_Add _ _ _ w m hr _ hw)) ?_
   rintro _ _ ⟨v_3, h0u9, rfl, rfl, H⟩
   apply Stg.next [(16, _)] rfl rfl
   refine Stg.go [7, 8, 9, 10, 11, 12] [13] rfl rfl (QAll.cons (QOp.p hT rfl rfl rfl rfl rfl) (QAll.cons (QOp.p hT rfl rfl rfl rfl rfl) (QAll.cons (QOp.p hT rfl rfl rfl rfl rfl) (QAll.cons (QOp.q rfl rfl (Quiet1.loadSP (i := 3) (l := [_, _, _]) hT rfl rfl rfl rfl rfl rfl rfl rfl) rfl rfl) (QAll.cons (QOp.p hT rfl rfl rfl rfl rfl) (QAll.cons (QOp.q rfl rfl (Quiet1.loadSP (i := 2) (l := [_, _, _]) hT rfl rfl rfl rfl rfl rfl rfl rfl) rfl rfl) QAll.nil)))))) ?_
   refine EAll.cons ?_ EAll.nil
   replace H := H.self
   refine EOp.e rfl rfl rfl (EffX.callF (bs := []) (cs := []) (f := 80) (sh := fun h => ratio_Add _ _ _ h _) (H0 := H) rfl rfl Tryd.call80 rfl (hl := fun w m hr hw => lift_ratio_Add _ _ _ w m hr _ hw)) ?_
   rintro _ _ ⟨v_4, h0u11, rfl, rfl, H⟩
   apply Stg.next [(23, _), (24, _)] rfl rfl
   refine Stg.go [14] [16] rfl rfl (QAll.cons (QOp.q rfl rfl (Quiet1.build (cs := [_, _, _, _, _, _]) hT rfl rfl rfl rfl rfl rfl) rfl rfl) QAll.nil) ?_
   refine EAll.cons ?_ EAll.nil
   refine EOp.e rfl rfl rfl (EffX.storeSP (i := 0) (qv := [(_, [_, _, _, _, _, _]), (_, [_, _, _, _, _, _]), (_, [_, _, _, _, _, _]), (_, [_, _, _, _, _, _])]) hT rfl rfl rfl rfl rfl rfl rfl rfl rfl rfl) ?_
   rintro _ _ rfl
   apply Stg.next [] rfl rfl
   refine Stg.fin [] rfl rfl QAll.nil ?_
   replace H := H.self
   exact AtE.then_n ((HK1 _ b_6 _ H).pickP (ts := [9, 0, 8]) (is := [0, 1]) rfl rfl (by decide) rfl)

theorem lift_delta_Add (b : (Option Addr)) (x0 : Bool × Sl × Sl × Bool × Sl × Sl) (y : Bool × Sl × Sl × Bool × Sl × Sl) (w : World) (m : Heap) (hr : Rel ⟨m, []⟩ w.heap) (S : (Bool × Sl × Sl × Bool × Sl × Sl) → Heap → Prop) (H : delta_Add b x0 y m S) :
    Calls Tryd.prog 42 #[Value.pointer b, Value.agg (C_bool_sl_sl_bool_sl_sl x0).toArray, Value.agg (C_bool_sl_sl_bool_sl_sl y).toArray] w (Post ⟨w, m⟩ (fun r => Value.agg (C_bool_sl_sl_bool_sl_sl r).toArray) S) := by
  refine Calls.lift (args := [Value.pointer b, Value.agg (C_bool_sl_sl_bool_sl_sl x0).toArray, Value.agg (C_bool_sl_sl_bool_sl_sl y).toArray]) Tryd.func42 rfl Tryd.ntmps42 (Nat.le_of_ble_eq_true rfl) hr (delta_Add b x0 y m S) H (fun H => ?_)
  refine AtC.pick (ts := [0, 1, 2]) rfl ?_
  unfold delta_Add at H
  refine AtC.seqR ?_
  refine AtL.e rfl (EffX.boxP (cs := [_, _, _, _, _, _]) rfl rfl rfl H) ?_
  rintro _ _ ⟨b_1, _, rfl, rfl, _, H⟩
  refine AtL.e rfl (EffX.boxP (cs := [_, _, _, _, _, _]) rfl rfl rfl H) ?_
  rintro _ _ ⟨b_2, _, rfl, rfl, _, H⟩
  refine AtL.e rfl (EffX.allocP (cs := [_, _, _, _, _, _]) hT rfl rfl H) ?_
  rintro _ _ ⟨b_3, _, rfl, rfl, _, H⟩
  refine AtL.nil ?_
  replace H := H.self
  refine AtE.then_n (AtE.go ?_)
  refine AtC.seqR ?_
  refine AtL.pures hT 1 _ _ _ _ rfl ?_
  refine AtL.q rfl (Quiet1.loadSP (i := 2) (l := [_, _, _, _, _, _]) hT rfl rfl rfl rfl rfl rfl rfl rfl) ?_
  refine AtL.q rfl (Quiet1.loadSP (i := 1) (l := [_, _, _, _, _, _]) hT rfl rfl rfl rfl rfl rfl rfl rfl) ?_
  refine AtL.e rfl (EffX.call (f := 100) (sh := fun h => delta_both__ratio_Add _ _ _ h _) (H0 := H) rfl Tryd.call100 rfl (hl := fun w m hr hw => lift_delta_both__ratio_Add _ _ _ w m hr _ hw)) ?_
  rintro _ _ ⟨v, h0u1, rfl, rfl, H⟩
  refine AtL.e rfl (EffX.storeSP (i := 0) (qv := [(_, [_, _, _, _, _, _]), (_, [_, _, _, _, _, _]), (_, [_, _, _, _, _, _])]) hT rfl rfl rfl rfl rfl rfl rfl rfl rfl rfl) ?_
  rintro _ _ rfl
  refine AtL.nil ?_
  refine AtE.then_n (AtE.go ?_)
  refine AtC.ret ?_
  exact AtE.retN (rs := [.cell 6 56]) rfl (ResAll.cons (ResAt.cellSP (i := 0) (l := [_, _, _, _, _, _]) hT rfl rfl rfl rfl rfl rfl rfl) ResAll.nil) rfl H

theorem lift_law03uDeltaTold_c1 (b : (Option Addr)) (c0 : Addr) (c1 : Addr) (w : World) (m : Heap) (hr : Rel ⟨m, []⟩ w.heap) (S : (Bool × Sl × Sl × Bool × Sl × Sl) → Heap → Prop) (H : law03uDeltaTold_c1 b c0 c1 m S) :
    Calls Tryd.prog 41 #[Value.pointer b, Value.pointer (some c0), Value.pointer (some c1)] w (Post ⟨w, m⟩ (fun r => Value.agg (C_bool_sl_sl_bool_sl_sl r).toArray) S) := by
  refine Calls.lift (args := [Value.pointer b, Value.pointer (some c0), Value.pointer (some c1)]) Tryd.func41 rfl Tryd.ntmps41 (Nat.le_of_ble_eq_true rfl) hr (law03uDeltaTold_c1 b c0 c1 m S) H (fun H => ?_)
  refine AtC.pick (ts := [0, 1, 2]) rfl ?_
  unfold law03uDeltaTold_c1 at H
  refine AtC.seqR ?_
  refine AtL.e rfl (EffX.allocP (cs := [_, _, _, _, _, _]) hT rfl rfl H) ?_
  rintro _ _ ⟨b_1, _, rfl, rfl, _, H⟩
  refine AtL.nil ?_
  replace H := H.self
  refine AtE.then_n (AtE.go ?_)
  refine AtC.seqR ?_
  refine AtL.pures hT 1 _ _ _ _ rfl ?_
  obtain ⟨v, hc0, H⟩ := H
  refine AtL.q rfl (Quiet1.loadS hT rfl rfl rfl rfl hc0) ?_
  obtain ⟨v_1, hc1, H⟩ := H
  refine AtL.q rfl (Quiet1.loadS hT rfl rfl rfl rfl hc1) ?_
  refine AtL.e rfl (EffX.call (f := 42) (sh := fun h => delta_Add _ _ _ h _) (H0 := H) rfl Tryd.call42 rfl (hl := fun w m hr hw => lift_delta_Add _ _ _ w m hr _ hw)) ?_
  rintro _ _ ⟨v_2, h0u1, rfl, rfl, H⟩
  refine AtL.e rfl (EffX.storeSP (i := 0) (qv := [(_, [_, _, _, _, _, _])]) hT rfl rfl rfl rfl rfl rfl rfl rfl rfl rfl) ?_
  rintro _ _ rfl
  refine AtL.nil ?_
  refine AtE.then_n (AtE.go ?_)
  refine AtC.ret ?_
  exact AtE.retN (rs := [.cell 4 56]) rfl (ResAll.cons (ResAt.cellSP (i := 0) (l := [_, _, _, _, _, _]) hT rfl rfl rfl rfl rfl rfl rfl) ResAll.nil) rfl H

theorem lift_ref01uMul (x0 : Sl) (y : Sl) (w : World) (m : Heap) (hr : Rel ⟨m, []⟩ w.heap) (S : Sl → Heap → Prop) (H : ref01uMul x0 y m S) :
    Calls Tryd.prog 29 #[Sl.toV x0, Sl.toV y] w (Post ⟨w, m⟩ Sl.toV S) := by
  refine Calls.lift (args := [Sl.toV x0, Sl.toV y]) Tryd.func29 rfl Tryd.ntmps29 (Nat.le_of_ble_eq_true rfl) hr (ref01uMul x0 y m S) H (fun H => ?_)
  refine AtC.pick (ts := [0, 1]) rfl ?_
  unfold ref01uMul at H
  refine AtC.seqR ?_
  refine AtL.pures hT 1 _ _ _ _ rfl ?_
  refine AtL.nil ?_
  refine AtE.then_n (AtE.go ?_)
  refine AtC.seqR ?_
  refine AtL.pures hT 6 _ _ _ _ rfl ?_
  replace H := H _ rfl
  refine AtL.e rfl (EffX.mkS hT rfl rfl rfl rfl rfl rfl rfl rfl (by decide) H) ?_
  rintro _ _ ⟨v, h0, rfl, rfl, H⟩
  refine AtL.pures hT 1 _ _ _ _ rfl ?_
  refine AtL.nil ?_
  refine AtE.then_n (AtE.go ?_)
  refine AtC.seq ?_
  refine AtC.seqR ?_
  refine AtL.pures hT 1 _ _ _ _ rfl ?_
  refine AtL.nil ?_
  refine AtE.then_n (AtE.go ?_)
  refine AtC.block ?_
  refine AtC.loopM (fun (s0 : Int) => [(6, Value.int .i64 s0)]) (fun (s0 : Int) => []) [0, 1, 5] [6, 0, 1, 5] [] [] H (by exact rfl) (by exact rfl) (by exact rfl) (by decide) (by exact rfl) (fun Kp1 s0 h0u1 H Q1 HK1 => ?_)
  refine AtC.seq ?_
  refine AtC.seqR ?_
  refine AtL.pures hT 4 _ _ _ _ rfl ?_
  refine AtL.nil ?_
  refine AtE.then_n (AtE.go ?_)
  refine AtC.condB H rfl (fun H => ?_) (fun H => ?_)
  ·
   refine AtC.skip ?_
   refine AtE.then_n (AtE.go ?_)
   refine AtC.seq ?_
   refine AtC.block ?_
   refine AtC.seqR ?_
   refine AtL.pures hT 1 _ _ _ _ rfl ?_
   refine AtL.nil ?_
   refine AtE.then_n (AtE.go ?_)
   refine AtC.seqR ?_
   refine AtL.pures hT 1 _ _ _ _ rfl ?_
   refine AtL.nil ?_
   refine AtE.then_n (AtE.go ?_)
   refine AtC.block ?_
   refine AtC.loopM (fun (s0u1 : Int × Int) => [(7, Value.int .i64 s0u1.1), (8, Value.int .i64 s0u1.2)]) (fun (s0u1 : Int × Int) => []) [0, 1, 5, 6] [7, 8, 0, 1, 5, 6] [] [] H (by exact rfl) (by exact rfl) (by exact rfl) (by decide) (by exact rfl) (fun Kp2 s0u1 h0u2 H Q2 HK2 => ?_)
   refine AtC.seq ?_
   refine AtC.joinSeq (β := Unit) (fun (t0 : Bool) (bb : Unit) => [(30, Value.bool t0)]) (fun (t0 : Bool) (bb : Unit) => []) [0, 1, 5, 6, 7, 8] [] H (by exact rfl) (by exact rfl) (fun t0 bb h0u3 H => ?_) (fun J3 H HK3 => ?_)
   ·
    refine AtC.condB H rfl (fun H => ?_) (fun H => ?_)
    ·
     refine AtC.skip ?_
     refine AtE.then_n (AtE.go ?_)
     refine AtC.seq ?_
     refine AtC.block ?_
     refine AtC.seqR ?_
     refine AtL.pures hT 4 _ _ _ _ rfl ?_
     obtain ⟨a_, hc3, hd3, H⟩ := H
     refine AtL.q rfl (Quiet1.idxS (s := _) hT rfl rfl rfl rfl rfl hc3 hd3) ?_
     obtain ⟨v_1, hc4, H⟩ := H
     refine AtL.q rfl (Quiet1.load hT rfl rfl rfl hc4) ?_
     refine AtL.pures hT 3 _ _ _ _ rfl ?_
     replace H := H _ rfl
     refine AtL.nil ?_
     refine AtE.then_n (AtE.go ?_)
     refine AtC.joinSeq (β := Unit) (fun (t0u1 : Int) (bb_1 : Unit) => [(9, Value.int .i64 t0u1)]) (fun (t0u1 : Int) (bb_1 : Unit) => []) [0, 1, 5, 6, 8] [] H (by exact rfl) (by exact rfl) (fun t0u1 bb_1 h0u4 H => ?_) (fun J6 H HK6 => ?_)
     ·
      refine AtC.seqR ?_
      refine AtL.pures hT 6 _ _ _ _ rfl ?_
      obtain ⟨a_3_, hc10, hd10, H⟩ := H
      refine AtL.q rfl (Quiet1.idxS (s := _) hT rfl rfl rfl rfl rfl hc10 hd10) ?_
      refine AtL.e rfl (EffX.store hT rfl rfl rfl rfl rfl H) ?_
      rintro _ _ ⟨h0u5, rfl, H⟩
      refine AtL.nil ?_
      refine AtE.then_n (AtE.go ?_)
      refine AtC.region ?_
      refine AtL.pures hT 3 _ _ _ _ rfl ?_
      replace H := H _ rfl
      refine AtL.nil ?_
      refine AtE.blk_n ?_
      refine AtE.then_n (AtE.go ?_)
      refine AtC.region ?_
      refine AtL.pures hT 3 _ _ _ _ rfl ?_
      replace H := H _ rfl
      refine AtL.nil ?_
      exact AtE.then_n ((HK2 _ _ H).pickP (ts := [7, 8, 0, 1, 5, 6]) (is := []) rfl rfl (by decide) rfl)
     ·
      refine AtC.seqR ?_
      refine AtL.pures hT 4 _ _ _ _ rfl ?_
      refine AtL.nil ?_
      refine AtE.then_n (AtE.go ?_)
      refine AtC.condB H rfl (fun H => ?_) (fun H => ?_)
      ·
       refine AtC.draw hmix (by kernel_rfl) ?_
       refine AtD.pures hT 3 _ _ _ _ rfl ?_
       obtain ⟨a_1_, hc6, hd6, H⟩ := H
       refine AtD.q rfl (Quiet1.idxS (s := _) hT rfl rfl rfl rfl rfl hc6 hd6) ?_
       obtain ⟨v_2, hc7, H⟩ := H
       refine AtD.q rfl (Quiet1.load hT rfl rfl rfl hc7) ?_
       refine AtD.pures hT 2 _ _ _ _ rfl ?_
       obtain ⟨a_2_, hc8, hd8, H⟩ := H
       refine AtD.q rfl (Quiet1.idxS (s := _) hT rfl rfl rfl rfl rfl hc8 hd8) ?_
       obtain ⟨v_3, hc9, H⟩ := H
       refine AtD.q rfl (Quiet1.load hT rfl rfl rfl hc9) ?_
       refine AtD.pures hT 3 _ _ _ _ rfl ?_
       replace H := H _ rfl
       refine AtD.nil ?_
       exact AtE.then_n ((HK6 _ () _ H).pickP (ts := [9, 0, 1, 5, 6, 8]) (is := []) rfl rfl (by decide) rfl)
      ·
       refine AtC.skip ?_
       exact AtE.then_n ((HK6 _ () _ H).pickP (ts := [9, 0, 1, 5, 6, 8]) (is := []) rfl rfl (by decide) rfl)
    ·
     refine AtC.exit ?_
     refine AtE.then_x ?_
     refine AtE.then_x ?_
     refine AtE.blk_hit ?_
     refine AtE.blk_n ?_
     refine AtE.then_n (AtE.go ?_)
     refine AtC.region ?_
     refine AtL.pures hT 3 _ _ _ _ rfl ?_
     replace H := H _ rfl
     refine AtL.nil ?_
     exact AtE.then_n ((HK1 _ _ H).pickP (ts := [6, 0, 1, 5]) (is := []) rfl rfl (by decide) rfl)
   ·
    refine AtC.region ?_
    refine AtL.pures hT 5 _ _ _ _ rfl ?_
    refine AtL.splitB (t := 27) H rfl (fun H => ?_) (fun H => ?_)
    ·
     refine AtL.noF rfl rfl rfl (by decide) rfl ?_
     refine AtL.noF rfl rfl rfl (by decide) rfl ?_
     refine AtL.pures hT 1 _ _ _ _ rfl ?_
     refine AtL.nil ?_
     exact AtE.then_n ((HK3 _ () _ H).pickP (ts := [30, 0, 1, 5, 6, 7, 8]) (is := []) rfl rfl (by decide) rfl)
    ·
     refine AtL.yes rfl rfl rfl ?_
     refine AtL.pures hT 1 _ _ _ _ rfl ?_
     refine AtL.yes rfl rfl rfl ?_
     refine AtL.pures hT 1 _ _ _ _ rfl ?_
     refine AtL.pures hT 1 _ _ _ _ rfl ?_
     refine AtL.nil ?_
     exact AtE.then_n ((HK3 _ () _ H).pickP (ts := [30, 0, 1, 5, 6, 7, 8]) (is := []) rfl rfl (by decide) rfl)
  ·
   refine AtC.exit ?_
   refine AtE.then_x ?_
   refine AtE.then_x ?_
   refine AtE.blk_hit ?_
   refine AtE.then_n (AtE.go ?_)
   refine AtC.seqR ?_
   refine AtL.pures hT 1 _ _ _ _ rfl ?_
   refine AtL.e rfl (EffX.call (f := 91) (sh := fun h => ref01uCut _ h _) (H0 := H) rfl Tryd.call91 rfl (hl := fun w m hr hw => lift_ref01uCut _ w m hr _ hw)) ?_
   rintro _ _ ⟨v_4, h0u6, rfl, rfl, H⟩
   refine AtL.pures hT 1 _ _ _ _ rfl ?_
   refine AtL.nil ?_
   refine AtE.then_n (AtE.go ?_)
   refine AtC.ret ?_
   exact AtE.retN (rs := [.tmp 4]) rfl (ResAll.cons (ResAt.tmp rfl) ResAll.nil) rfl H

theorem lift_ref01uAdd (x0 : Sl) (y : Sl) (w : World) (m : Heap) (hr : Rel ⟨m, []⟩ w.heap) (S : Sl → Heap → Prop) (H : ref01uAdd x0 y m S) :
    Calls Tryd.prog 27 #[Sl.toV x0, Sl.toV y] w (Post ⟨w, m⟩ Sl.toV S) := by
  refine Calls.lift (args := [Sl.toV x0, Sl.toV y]) Tryd.func27 rfl Tryd.ntmps27 (Nat.le_of_ble_eq_true rfl) hr (ref01uAdd x0 y m S) H (fun H => ?_)
  refine AtC.pick (ts := [0, 1]) rfl ?_
  unfold ref01uAdd at H
  refine AtC.seqR ?_
  refine AtL.pures hT 1 _ _ _ _ rfl ?_
  refine AtL.nil ?_
  refine AtE.then_n (AtE.go ?_)
  refine AtC.seqR ?_
  refine AtLX.bs (hT := hT) (cs := []) H rfl rfl rfl rfl rfl rfl rfl rfl rfl (fun a h0 H => ?_)
  refine AtL.pures hT 1 _ _ _ _ rfl ?_
  replace H := H _ rfl
  refine AtL.nil ?_
  refine AtE.then_n (AtE.go ?_)
  refine AtC.seqR ?_
  refine AtL.pures hT 1 _ _ _ _ rfl ?_
  refine AtL.nil ?_
  refine AtE.then_n (AtE.go ?_)
  refine AtC.seq ?_
  refine AtC.seqR ?_
  refine AtL.pures hT 1 _ _ _ _ rfl ?_
  refine AtL.nil ?_
  refine AtE.then_n (AtE.go ?_)
  refine AtC.block ?_
  refine AtC.loopM (fun (s0 : Sl × Int × Int) => [(5, Sl.toV s0.1), (6, Value.int .i64 s0.2.1), (7, Value.int .i64 s0.2.2)]) (fun (s0 : Sl × Int × Int) => []) [0, 1] [5, 6, 7, 0, 1] [] [] H (by exact rfl) (by exact rfl) (by exact rfl) (by decide) (by exact rfl) (fun Kp1 s0 h0u1 H Q1 HK1 => ?_)
  refine AtC.seq ?_
  refine AtC.joinSeq (β := Unit) (fun (t0 : Bool) (bb : Unit) => [(23, Value.bool t0)]) (fun (t0 : Bool) (bb : Unit) => []) [0, 1, 5, 6, 7] [] H (by exact rfl) (by exact rfl) (fun t0 bb h0u2 H => ?_) (fun J2 H HK2 => ?_)
  ·
   refine AtC.condB H rfl (fun H => ?_) (fun H => ?_)
   ·
    refine AtC.skip ?_
    refine AtE.then_n (AtE.go ?_)
    refine AtC.seq ?_
    refine AtC.block ?_
    refine AtC.seqR ?_
    refine AtL.pures hT 2 _ _ _ _ rfl ?_
    refine AtL.nil ?_
    refine AtE.then_n (AtE.go ?_)
    refine AtC.joinSeq (β := Unit) (fun (t0u1 : Int) (bb_1 : Unit) => [(8, Value.int .i64 t0u1)]) (fun (t0u1 : Int) (bb_1 : Unit) => []) [0, 1, 5, 7] [] H (by exact rfl) (by exact rfl) (fun t0u1 bb_1 h0u3 H => ?_) (fun J3 H HK3 => ?_)
    ·
     refine AtC.joinSeq (β := Unit) (fun (t0u2 : Int) (bb_2 : Unit) => [(8, Value.int .i64 t0u2)]) (fun (t0u2 : Int) (bb_2 : Unit) => []) [0, 1, 5, 7] [] H (by exact rfl) (by exact rfl) (fun t0u2 bb_2 h0u4 H => ?_) (fun J6 H HK6 => ?_)
     ·
      refine AtC.seqR ?_
      refine AtL.pures hT 3 _ _ _ _ rfl ?_
      refine AtLX.bs (hT := hT) (cs := [_]) H rfl rfl rfl rfl rfl rfl rfl rfl rfl (fun a_3 h0u5 H => ?_)
      refine AtL.e rfl (EffX.appendS (s := _) (u := _) hT rfl rfl rfl rfl rfl rfl rfl rfl rfl rfl (by decide) H) ?_
      rintro _ _ ⟨v_4, h0u6, rfl, rfl, H⟩
      refine AtL.pures hT 1 _ _ _ _ rfl ?_
      refine AtL.nil ?_
      refine AtE.then_n (AtE.go ?_)
      refine AtC.region ?_
      refine AtL.pures hT 3 _ _ _ _ rfl ?_
      replace H := H _ rfl
      refine AtL.nil ?_
      refine AtE.blk_n ?_
      refine AtE.then_n (AtE.go ?_)
      refine AtC.region ?_
      refine AtL.pures hT 3 _ _ _ _ rfl ?_
      replace H := H _ rfl
      refine AtL.nil ?_
      exact AtE.then_n ((HK1 _ _ H).pickP (ts := [5, 6, 7, 0, 1]) (is := []) rfl rfl (by decide) rfl)
     ·
      refine AtC.seqR ?_
      refine AtL.pures hT 4 _ _ _ _ rfl ?_
      refine AtL.nil ?_
      refine AtE.then_n (AtE.go ?_)
      refine AtC.condB H rfl (fun H => ?_) (fun H => ?_)
      ·
       refine AtC.region ?_
       refine AtL.pures hT 3 _ _ _ _ rfl ?_
       obtain ⟨a_2_, hc6, hd6, H⟩ := H
       refine AtL.q rfl (Quiet1.idxS (s := _) hT rfl rfl rfl rfl rfl hc6 hd6) ?_
       obtain ⟨v_2, hc7, H⟩ := H
       refine AtL.q rfl (Quiet1.load hT rfl rfl rfl hc7) ?_
       refine AtL.pures hT 2 _ _ _ _ rfl ?_
       replace H := H _ rfl
       refine AtL.nil ?_
       exact AtE.then_n ((HK6 _ () _ H).pickP (ts := [8, 0, 1, 5, 7]) (is := []) rfl rfl (by decide) rfl)
      ·
       refine AtC.skip ?_
       exact AtE.then_n ((HK6 _ () _ H).pickP (ts := [8, 0, 1, 5, 7]) (is := []) rfl rfl (by decide) rfl)
    ·
     refine AtC.seqR ?_
     refine AtL.pures hT 4 _ _ _ _ rfl ?_
     refine AtL.nil ?_
     refine AtE.then_n (AtE.go ?_)
     refine AtC.condB H rfl (fun H => ?_) (fun H => ?_)
     ·
      refine AtC.region ?_
      refine AtL.pures hT 3 _ _ _ _ rfl ?_
      obtain ⟨a_1_, hc3, hd3, H⟩ := H
      refine AtL.q rfl (Quiet1.idxS (s := _) hT rfl rfl rfl rfl rfl hc3 hd3) ?_
      obtain ⟨v_1, hc4, H⟩ := H
      refine AtL.q rfl (Quiet1.load hT rfl rfl rfl hc4) ?_
      refine AtL.pures hT 2 _ _ _ _ rfl ?_
      replace H := H _ rfl
      refine AtL.nil ?_
      exact AtE.then_n ((HK3 _ () _ H).pickP (ts := [8, 0, 1, 5, 7]) (is := []) rfl rfl (by decide) rfl)
     ·
      refine AtC.skip ?_
      exact AtE.then_n ((HK3 _ () _ H).pickP (ts := [8, 0, 1, 5, 7]) (is := []) rfl rfl (by decide) rfl)
   ·
    refine AtC.exit ?_
    refine AtE.then_x ?_
    refine AtE.then_x ?_
    refine AtE.blk_hit ?_
    refine AtE.then_n (AtE.go ?_)
    refine AtC.seqR ?_
    refine AtL.pures hT 1 _ _ _ _ rfl ?_
    refine AtL.e rfl (EffX.call (f := 91) (sh := fun h => ref01uCut _ h _) (H0 := H) rfl Tryd.call91 rfl (hl := fun w m hr hw => lift_ref01uCut _ w m hr _ hw)) ?_
    rintro _ _ ⟨v_5, h0u7, rfl, rfl, H⟩
    refine AtL.pures hT 1 _ _ _ _ rfl ?_
    refine AtL.nil ?_
    refine AtE.then_n (AtE.go ?_)
    refine AtC.ret ?_
    exact AtE.retN (rs := [.tmp 4]) rfl (ResAll.cons (ResAt.tmp rfl) ResAll.nil) rfl H
  ·
   refine AtC.region ?_
   refine AtL.pures hT 5 _ _ _ _ rfl ?_
   refine AtL.splitB (t := 14) H rfl (fun H => ?_) (fun H => ?_)
   ·
    refine AtL.noF rfl rfl rfl (by decide) rfl ?_
    refine AtL.noF rfl rfl rfl (by decide) rfl ?_
    refine AtL.noF rfl rfl rfl (by decide) rfl ?_
    refine AtL.noF rfl rfl rfl (by decide) rfl ?_
    refine AtL.pures hT 2 _ _ _ _ rfl ?_
    refine AtL.noF rfl rfl rfl (by decide) rfl ?_
    refine AtL.noF rfl rfl rfl (by decide) rfl ?_
    refine AtL.pures hT 1 _ _ _ _ rfl ?_
    refine AtL.nil ?_
    exact AtE.then_n ((HK2 _ () _ H).pickP (ts := [23, 0, 1, 5, 6, 7]) (is := []) rfl rfl (by decide) rfl)
   ·
    refine AtL.yes rfl rfl rfl ?_
    refine AtL.pures hT 1 _ _ _ _ rfl ?_
    refine AtL.yes rfl rfl rfl ?_
    refine AtL.pures hT 1 _ _ _ _ rfl ?_
    refine AtL.yes rfl rfl rfl ?_
    refine AtL.pures hT 1 _ _ _ _ rfl ?_
    refine AtL.yes rfl rfl rfl ?_
    refine AtL.pures hT 1 _ _ _ _ rfl ?_
    refine AtL.pures hT 2 _ _ _ _ rfl ?_
    refine AtL.splitB (t := 20) H rfl (fun H => ?_) (fun H => ?_)
    ·
     refine AtL.noF rfl rfl rfl (by decide) rfl ?_
     refine AtL.noF rfl rfl rfl (by decide) rfl ?_
     refine AtL.pures hT 1 _ _ _ _ rfl ?_
     refine AtL.nil ?_
     exact AtE.then_n ((HK2 _ () _ H).pickP (ts := [23, 0, 1, 5, 6, 7]) (is := []) rfl rfl (by decide) rfl)
    ·
     refine AtL.yes rfl rfl rfl ?_
     refine AtL.pures hT 1 _ _ _ _ rfl ?_
     refine AtL.yes rfl rfl rfl ?_
     refine AtL.pures hT 1 _ _ _ _ rfl ?_
     refine AtL.pures hT 1 _ _ _ _ rfl ?_
     refine AtL.nil ?_
     exact AtE.then_n ((HK2 _ () _ H).pickP (ts := [23, 0, 1, 5, 6, 7]) (is := []) rfl rfl (by decide) rfl)

theorem lift_ref02uAdd (x0 : Bool × Sl × Sl) (y : Bool × Sl × Sl) (w : World) (m : Heap) (hr : Rel ⟨m, []⟩ w.heap) (S : (Bool × Sl × Sl) → Heap → Prop) (H : ref02uAdd x0 y m S) :
    Calls Tryd.prog 101 #[Value.agg (C_bool_sl_sl x0).toArray, Value.agg (C_bool_sl_sl y).toArray] w (Post ⟨w, m⟩ (fun r => Value.agg (C_bool_sl_sl r).toArray) S) := by
  refine Calls.lift (args := [Value.agg (C_bool_sl_sl x0).toArray, Value.agg (C_bool_sl_sl y).toArray]) Tryd.func101 rfl Tryd.ntmps101 (Nat.le_of_ble_eq_true rfl) hr (ref02uAdd x0 y m S) H (fun H => ?_)
  refine AtC.pick (ts := [0, 1]) rfl ?_
  unfold ref02uAdd at H
  refine AtC.seqR ?_
  refine AtL.e rfl (EffX.boxP (cs := [_, _, _]) rfl rfl rfl H) ?_
  rintro _ _ ⟨b, _, rfl, rfl, _, H⟩
  refine AtL.e rfl (EffX.boxP (cs := [_, _, _]) rfl rfl rfl H) ?_
  rintro _ _ ⟨b_1, _, rfl, rfl, _, H⟩
  refine AtL.e rfl (EffX.allocP (cs := [_, _, _]) hT rfl rfl H) ?_
  rintro _ _ ⟨b_2, _, rfl, rfl, _, H⟩
  refine AtL.nil ?_
  replace H := H.self
  refine AtE.then_n (AtE.go ?_)
  refine AtC.seqR ?_
  refine AtL.pures hT 1 _ _ _ _ rfl ?_
  refine AtL.q rfl (Quiet1.loadP (i := 2) hT rfl rfl rfl rfl rfl rfl) ?_
  refine AtL.pures hT 1 _ _ _ _ rfl ?_
  refine AtL.q rfl (Quiet1.loadP (i := 1) hT rfl rfl rfl rfl rfl rfl) ?_
  refine AtL.e rfl (EffX.call (f := 29) (sh := fun h => ref01uMul _ _ h _) (H0 := H) rfl Tryd.call29 rfl (hl := fun w m hr hw => lift_ref01uMul _ _ w m hr _ hw)) ?_
  rintro _ _ ⟨v, h0u1, rfl, rfl, H⟩
  refine AtL.pures hT 1 _ _ _ _ rfl ?_
  refine AtL.nil ?_
  refine AtE.then_n (AtE.go ?_)
  refine AtC.seqR ?_
  refine AtL.pures hT 1 _ _ _ _ rfl ?_
  refine AtL.q rfl (Quiet1.loadP (i := 1) hT rfl rfl rfl rfl rfl rfl) ?_
  refine AtL.pures hT 1 _ _ _ _ rfl ?_
  refine AtL.q rfl (Quiet1.loadP (i := 2) hT rfl rfl rfl rfl rfl rfl) ?_
  refine AtL.e rfl (EffX.call (f := 29) (sh := fun h => ref01uMul _ _ h _) (H0 := H) rfl Tryd.call29 rfl (hl := fun w m hr hw => lift_ref01uMul _ _ w m hr _ hw)) ?_
  rintro _ _ ⟨v_1, h0u2, rfl, rfl, H⟩
  refine AtL.pures hT 1 _ _ _ _ rfl ?_
  refine AtL.nil ?_
  refine AtE.then_n (AtE.go ?_)
  refine AtC.seqR ?_
  refine AtL.pures hT 1 _ _ _ _ rfl ?_
  refine AtL.q rfl (Quiet1.loadP (i := 2) hT rfl rfl rfl rfl rfl rfl) ?_
  refine AtL.pures hT 1 _ _ _ _ rfl ?_
  refine AtL.q rfl (Quiet1.loadP (i := 1) hT rfl rfl rfl rfl rfl rfl) ?_
  refine AtL.e rfl (EffX.call (f := 29) (sh := fun h => ref01uMul _ _ h _) (H0 := H) rfl Tryd.call29 rfl (hl := fun w m hr hw => lift_ref01uMul _ _ w m hr _ hw)) ?_
  rintro _ _ ⟨v_2, h0u3, rfl, rfl, H⟩
  refine AtL.pures hT 1 _ _ _ _ rfl ?_
  refine AtL.nil ?_
  refine AtE.then_n (AtE.go ?_)
  refine AtC.seq ?_
  refine AtC.seqR ?_
  refine AtL.pures hT 1 _ _ _ _ rfl ?_
  refine AtL.q rfl (Quiet1.loadP (i := 2) hT rfl rfl rfl rfl rfl rfl) ?_
  refine AtL.pures hT 1 _ _ _ _ rfl ?_
  refine AtL.q rfl (Quiet1.loadP (i := 1) hT rfl rfl rfl rfl rfl rfl) ?_
  refine AtL.pures hT 1 _ _ _ _ rfl ?_
  refine AtL.nil ?_
  refine AtE.then_n (AtE.go ?_)
  refine AtC.condB H rfl (fun H => ?_) (fun H => ?_)
  ·
   apply AtC.seqS [4, 7, 8] [[], [], [], [], [], [], [4], [4], [4, 7]] [[], [0], [], [], [2, 3], [], [0, 1, 2, 3, 4, 5], [0, 1, 2, 3, 4, 5, 6], [0, 1, 2, 3, 4, 5, 6, 7]] hmix (by kernel_rfl) [(28, _), (29, _), (30, _), (31, _), (33, _)] rfl 3 rfl
   refine Stg.go [0, 1, 2, 3, 5] [4] rfl rfl (QAll.cons (QOp.p hT rfl rfl rfl rfl rfl) (QAll.cons (QOp.q rfl rfl (Quiet1.loadP (i := 2) hT rfl rfl rfl rfl rfl rfl) rfl rfl) (QAll.cons (QOp.p hT rfl rfl rfl rfl rfl) (QAll.cons (QOp.p hT rfl rfl rfl rfl rfl) (QAll.cons (QOp.p hT rfl rfl rfl rfl rfl) QAll.nil))))) ?_
   refine EAll.cons ?_ EAll.nil
   refine EOp.e rfl rfl rfl (EffX.call (f := 27) (sh := fun h => ref01uAdd _ _ h _) (H0 := H) rfl Tryd.call27 rfl (hl := fun w m hr hw => lift_ref01uAdd _ _ w m hr _ hw)) ?_
   rintro _ _ ⟨v_3, h0u4, rfl, rfl, H⟩
   apply Stg.next [(32, _), (34, _)] rfl rfl
   refine Stg.go [0, 1, 5, 6] [7] rfl rfl (QAll.cons (QOp.p hT rfl rfl rfl rfl rfl) (QAll.cons (QOp.q rfl rfl (Quiet1.loadP (i := 2) hT rfl rfl rfl rfl rfl rfl) rfl rfl) (QAll.cons (QOp.p hT rfl rfl rfl rfl rfl) (QAll.cons (QOp.q rfl rfl (Quiet1.build (cs := [_, _, _]) hT rfl rfl rfl rfl rfl rfl) rfl rfl) QAll.nil)))) ?_
   refine EAll.cons ?_ EAll.nil
   refine EOp.e rfl rfl rfl (EffX.call (f := 79) (sh := fun h => ref02uLow _ h _) (H0 := H) rfl Tryd.call79 rfl (hl := fun w m hr hw => lift_ref02uLow _ w m hr _ hw)) ?_
   rintro _ _ ⟨v_4, h0u5, rfl, rfl, H⟩
   apply Stg.next [(35, _)] rfl rfl
   refine Stg.go [] [8] rfl rfl QAll.nil ?_
   refine EAll.cons ?_ EAll.nil
   refine EOp.e rfl rfl rfl (EffX.storeSP (i := 0) (qv := [(_, [_, _, _]), (_, [_, _, _]), (_, [_, _, _])]) hT rfl rfl rfl rfl rfl rfl rfl rfl rfl rfl) ?_
   rintro _ _ rfl
   apply Stg.next [] rfl rfl
   refine Stg.fin [] rfl rfl QAll.nil ?_
   refine AtE.then_n (AtE.go ?_)
   refine AtC.ret ?_
   refine AtE.then_r ?_
   exact AtE.retN (rs := [.cell 4 59]) rfl (ResAll.cons (ResAt.cellSP (i := 0) (l := [_, _, _]) hT rfl rfl rfl rfl rfl rfl rfl) ResAll.nil) rfl H
  ·
   refine AtC.skip ?_
   refine AtE.then_n (AtE.go ?_)
   refine AtC.seq ?_
   refine AtC.seqR ?_
   refine AtL.pures hT 2 _ _ _ _ rfl ?_
   refine AtL.e rfl (EffX.call (f := 33) (sh := fun h => ref01uCmp _ _ h _) (H0 := H) rfl Tryd.call33 rfl (hl := fun w m hr hw => lift_ref01uCmp _ _ w m hr _ hw)) ?_
   rintro _ _ ⟨v_5, h0u6, rfl, rfl, H⟩
   refine AtL.pures hT 1 _ _ _ _ rfl ?_
   refine AtL.nil ?_
   refine AtE.then_n (AtE.go ?_)
   refine AtC.condB H rfl (fun H => ?_) (fun H => ?_)
   ·
    apply AtC.seqS [4, 7, 8] [[], [], [], [], [], [], [4], [4], [4, 7]] [[], [0], [], [], [2, 3], [], [0, 1, 2, 3, 4, 5], [0, 1, 2, 3, 4, 5, 6], [0, 1, 2, 3, 4, 5, 6, 7]] hmix (by kernel_rfl) [(40, _), (41, _), (42, _), (43, _), (45, _)] rfl 3 rfl
    refine Stg.go [0, 1, 2, 3, 5] [4] rfl rfl (QAll.cons (QOp.p hT rfl rfl rfl rfl rfl) (QAll.cons (QOp.q rfl rfl (Quiet1.loadP (i := 2) hT rfl rfl rfl rfl rfl rfl) rfl rfl) (QAll.cons (QOp.p hT rfl rfl rfl rfl rfl) (QAll.cons (QOp.p hT rfl rfl rfl rfl rfl) (QAll.cons (QOp.p hT rfl rfl rfl rfl rfl) QAll.nil))))) ?_
    refine EAll.cons ?_ EAll.nil
    refine EOp.e rfl rfl rfl (EffX.call (f := 28) (sh := fun h => ref01uSub _ _ h _) (H0 := H) rfl Tryd.call28 rfl (hl := fun w m hr hw => lift_ref01uSub _ _ w m hr _ hw)) ?_
    rintro _ _ ⟨v_6, h0u7, rfl, rfl, H⟩
    apply Stg.next [(44, _), (46, _)] rfl rfl
    refine Stg.go [0, 1, 5, 6] [7] rfl rfl (QAll.cons (QOp.p hT rfl rfl rfl rfl rfl) (QAll.cons (QOp.q rfl rfl (Quiet1.loadP (i := 2) hT rfl rfl rfl rfl rfl rfl) rfl rfl) (QAll.cons (QOp.p hT rfl rfl rfl rfl rfl) (QAll.cons (QOp.q rfl rfl (Quiet1.build (cs := [_, _, _]) hT rfl rfl rfl rfl rfl rfl) rfl rfl) QAll.nil)))) ?_
    refine EAll.cons ?_ EAll.nil
    refine EOp.e rfl rfl rfl (EffX.call (f := 79) (sh := fun h => ref02uLow _ h _) (H0 := H) rfl Tryd.call79 rfl (hl := fun w m hr hw => lift_ref02uLow _ w m hr _ hw)) ?_
    rintro _ _ ⟨v_7, h0u8, rfl, rfl, H⟩
    apply Stg.next [(47, _)] rfl rfl
    refine Stg.go [] [8] rfl rfl QAll.nil ?_
    refine EAll.cons ?_ EAll.nil
    refine EOp.e rfl rfl rfl (EffX.storeSP (i := 0) (qv := [(_, [_, _, _]), (_, [_, _, _]), (_, [_, _, _])]) hT rfl rfl rfl rfl rfl rfl rfl rfl rfl rfl) ?_
    rintro _ _ rfl
    apply Stg.next [] rfl rfl
    refine Stg.fin [] rfl rfl QAll.nil ?_
    refine AtE.then_n (AtE.go ?_)
    refine AtC.ret ?_
    refine AtE.then_r ?_
    exact AtE.retN (rs := [.cell 4 59]) rfl (ResAll.cons (ResAt.cellSP (i := 0) (l := [_, _, _]) hT rfl rfl rfl rfl rfl rfl rfl) ResAll.nil) rfl H
   ·
    refine AtC.skip ?_
    refine AtE.then_n (AtE.go ?_)
    apply AtC.seqS [4, 7, 8] [[], [], [], [], [], [], [4], [4], [4, 7]] [[], [0], [], [], [2, 3], [], [0, 1, 2, 3, 4, 5], [0, 1, 2, 3, 4, 5, 6], [0, 1, 2, 3, 4, 5, 6, 7]] hmix (by kernel_rfl) [(48, _), (49, _), (50, _), (51, _), (53, _)] rfl 3 rfl
    refine Stg.go [0, 1, 2, 3, 5] [4] rfl rfl (QAll.cons (QOp.p hT rfl rfl rfl rfl rfl) (QAll.cons (QOp.q rfl rfl (Quiet1.loadP (i := 1) hT rfl rfl rfl rfl rfl rfl) rfl rfl) (QAll.cons (QOp.p hT rfl rfl rfl rfl rfl) (QAll.cons (QOp.p hT rfl rfl rfl rfl rfl) (QAll.cons (QOp.p hT rfl rfl rfl rfl rfl) QAll.nil))))) ?_
    refine EAll.cons ?_ EAll.nil
    refine EOp.e rfl rfl rfl (EffX.call (f := 28) (sh := fun h => ref01uSub _ _ h _) (H0 := H) rfl Tryd.call28 rfl (hl := fun w m hr hw => lift_ref01uSub _ _ w m hr _ hw)) ?_
    rintro _ _ ⟨v_8, h0u9, rfl, rfl, H⟩
    apply Stg.next [(52, _), (54, _)] rfl rfl
    refine Stg.go [0, 1, 5, 6] [7] rfl rfl (QAll.cons (QOp.p hT rfl rfl rfl rfl rfl) (QAll.cons (QOp.q rfl rfl (Quiet1.loadP (i := 1) hT rfl rfl rfl rfl rfl rfl) rfl rfl) (QAll.cons (QOp.p hT rfl rfl rfl rfl rfl) (QAll.cons (QOp.q rfl rfl (Quiet1.build (cs := [_, _, _]) hT rfl rfl rfl rfl rfl rfl) rfl rfl) QAll.nil)))) ?_
    refine EAll.cons ?_ EAll.nil
    refine EOp.e rfl rfl rfl (EffX.call (f := 79) (sh := fun h => ref02uLow _ h _) (H0 := H) rfl Tryd.call79 rfl (hl := fun w m hr hw => lift_ref02uLow _ w m hr _ hw)) ?_
    rintro _ _ ⟨v_9, h0u10, rfl, rfl, H⟩
    apply Stg.next [(55, _)] rfl rfl
    refine Stg.go [] [8] rfl rfl QAll.nil ?_
    refine EAll.cons ?_ EAll.nil
    refine EOp.e rfl rfl rfl (EffX.storeSP (i := 0) (qv := [(_, [_, _, _]), (_, [_, _, _]), (_, [_, _, _])]) hT rfl rfl rfl rfl rfl rfl rfl rfl rfl rfl) ?_
    rintro _ _ rfl
    apply Stg.next [] rfl rfl
    refine Stg.fin [] rfl rfl QAll.nil ?_
    refine AtE.then_n (AtE.go ?_)
    refine AtC.ret ?_
    exact AtE.retN (rs := [.cell 4 59]) rfl (ResAll.cons (ResAt.cellSP (i := 0) (l := [_, _, _]) hT rfl rfl rfl rfl rfl rfl rfl) ResAll.nil) rfl H

theorem lift_ref03uAdd (x0 : Bool × Sl × Sl × Bool × Sl × Sl) (y : Bool × Sl × Sl × Bool × Sl × Sl) (w : World) (m : Heap) (hr : Rel ⟨m, []⟩ w.heap) (S : (Bool × Sl × Sl × Bool × Sl × Sl) → Heap → Prop) (H : ref03uAdd x0 y m S) :
    Calls Tryd.prog 43 #[Value.agg (C_bool_sl_sl_bool_sl_sl x0).toArray, Value.agg (C_bool_sl_sl_bool_sl_sl y).toArray] w (Post ⟨w, m⟩ (fun r => Value.agg (C_bool_sl_sl_bool_sl_sl r).toArray) S) := by
  refine Calls.lift (args := [Value.agg (C_bool_sl_sl_bool_sl_sl x0).toArray, Value.agg (C_bool_sl_sl_bool_sl_sl y).toArray]) Tryd.func43 rfl Tryd.ntmps43 (Nat.le_of_ble_eq_true rfl) hr (ref03uAdd x0 y m S) H (fun H => ?_)
  refine AtC.pick (ts := [0, 1]) rfl ?_
  unfold ref03uAdd at H
  refine AtC.seqR ?_
  refine AtL.e rfl (EffX.boxP (cs := [_, _, _, _, _, _]) rfl rfl rfl H) ?_
  rintro _ _ ⟨b, _, rfl, rfl, _, H⟩
  refine AtL.e rfl (EffX.boxP (cs := [_, _, _, _, _, _]) rfl rfl rfl H) ?_
  rintro _ _ ⟨b_1, _, rfl, rfl, _, H⟩
  refine AtL.e rfl (EffX.allocP (cs := [_, _, _, _, _, _]) hT rfl rfl H) ?_
  rintro _ _ ⟨b_2, _, rfl, rfl, _, H⟩
  refine AtL.nil ?_
  replace H := H.self
  refine AtE.then_n (AtE.go ?_)
  apply AtC.seqS [4, 9, 11] [[], [], [], [], [], [], [], [], [], [4], [4, 9], [4, 9]] [[], [0], [], [2], [0, 1, 2, 3], [], [5], [], [7], [0, 1, 2, 3, 4, 5, 6, 7, 8], [0, 1, 2, 3, 4, 5, 6, 7, 8, 9], [0, 1, 2, 3, 4, 5, 6, 7, 8, 9, 10]] hmix (by kernel_rfl) [(5, _), (6, _), (7, _), (8, _), (10, _), (11, _), (12, _), (13, _)] rfl 3 rfl
  refine Stg.go [0, 1, 2, 3, 5, 6, 7, 8] [4] rfl rfl (QAll.cons (QOp.p hT rfl rfl rfl rfl rfl) (QAll.cons (QOp.q rfl rfl (Quiet1.loadSP (i := 2) (l := [_, _, _]) hT rfl rfl rfl rfl rfl rfl rfl rfl) rfl rfl) (QAll.cons (QOp.p hT rfl rfl rfl rfl rfl) (QAll.cons (QOp.q rfl rfl (Quiet1.loadSP (i := 1) (l := [_, _, _]) hT rfl rfl rfl rfl rfl rfl rfl rfl) rfl rfl) (QAll.cons (QOp.p hT rfl rfl rfl rfl rfl) (QAll.cons (QOp.q rfl rfl (Quiet1.loadSP (i := 2) (l := [_, _, _]) hT rfl rfl rfl rfl rfl rfl rfl rfl) rfl rfl) (QAll.cons (QOp.p hT rfl rfl rfl rfl rfl) (QAll.cons (QOp.q rfl rfl (Quiet1.loadSP (i := 1) (l := [_, _, _]) hT rfl rfl rfl rfl rfl rfl rfl rfl) rfl rfl) QAll.nil)))))))) ?_
  refine EAll.cons ?_ EAll.nil
  refine EOp.e rfl rfl rfl (EffX.call (f := 101) (sh := fun h => ref02uAdd _ _ h _) (H0 := H) rfl Tryd.call101 rfl (hl := fun w m hr hw => lift_ref02uAdd _ _ w m hr _ hw)) ?_
  rintro _ _ ⟨v, h0u1, rfl, rfl, H⟩
  apply Stg.next [(9, _)] rfl rfl
  refine Stg.go [5, 6, 7, 8] [9] rfl rfl (QAll.cons (QOp.p hT rfl rfl rfl rfl rfl) (QAll.cons (QOp.q rfl rfl (Quiet1.loadSP (i := 2) (l := [_, _, _]) hT rfl rfl rfl rfl rfl rfl rfl rfl) rfl rfl) (QAll.cons (QOp.p hT rfl rfl rfl rfl rfl) (QAll.cons (QOp.q rfl rfl (Quiet1.loadSP (i := 1) (l := [_, _, _]) hT rfl rfl rfl rfl rfl rfl rfl rfl) rfl rfl) QAll.nil)))) ?_
  refine EAll.cons ?_ EAll.nil
  refine EOp.e rfl rfl rfl (EffX.call (f := 101) (sh := fun h => ref02uAdd _ _ h _) (H0 := H) rfl Tryd.call101 rfl (hl := fun w m hr hw => lift_ref02uAdd _ _ w m hr _ hw)) ?_
  rintro _ _ ⟨v_1, h0u2, rfl, rfl, H⟩
  apply Stg.next [(14, _), (15, _)] rfl rfl
  refine Stg.go [10] [11] rfl rfl (QAll.cons (QOp.q rfl rfl (Quiet1.build (cs := [_, _, _, _, _, _]) hT rfl rfl rfl rfl rfl rfl) rfl rfl) QAll.nil) ?_
  refine EAll.cons ?_ EAll.nil
  refine EOp.e rfl rfl rfl (EffX.storeSP (i := 0) (qv := [(_, [_, _, _, _, _, _]), (_, [_, _, _, _, _, _]), (_, [_, _, _, _, _, _])]) hT rfl rfl rfl rfl rfl rfl rfl rfl rfl rfl) ?_
  rintro _ _ rfl
  apply Stg.next [] rfl rfl
  refine Stg.fin [] rfl rfl QAll.nil ?_
  refine AtE.then_n (AtE.go ?_)
  refine AtC.ret ?_
  exact AtE.retN (rs := [.cell 4 61]) rfl (ResAll.cons (ResAt.cellSP (i := 0) (l := [_, _, _, _, _, _]) hT rfl rfl rfl rfl rfl rfl rfl) ResAll.nil) rfl H

theorem lift_ref03uForm (x0 : Bool × Sl × Sl × Bool × Sl × Sl) (w : World) (m : Heap) (hr : Rel ⟨m, []⟩ w.heap) (S : (Bool × Sl × Sl × Bool × Sl × Sl) → Heap → Prop) (H : ref03uForm x0 m S) :
    Calls Tryd.prog 99 #[Value.agg (C_bool_sl_sl_bool_sl_sl x0).toArray] w (Post ⟨w, m⟩ (fun r => Value.agg (C_bool_sl_sl_bool_sl_sl r).toArray) S) := by
  refine Calls.lift (args := [Value.agg (C_bool_sl_sl_bool_sl_sl x0).toArray]) Tryd.func99 rfl Tryd.ntmps99 (Nat.le_of_ble_eq_true rfl) hr (ref03uForm x0 m S) H (fun H => ?_)
  refine AtC.pick (ts := [0]) rfl ?_
  unfold ref03uForm at H
  refine AtC.seqR ?_
  refine AtL.e rfl (EffX.boxP (cs := [_, _, _, _, _, _]) rfl rfl rfl H) ?_
  rintro _ _ ⟨b, _, rfl, rfl, _, H⟩
  refine AtL.e rfl (EffX.allocP (cs := [_, _, _, _, _, _]) hT rfl rfl H) ?_
  rintro _ _ ⟨b_1, _, rfl, rfl, _, H⟩
  refine AtL.nil ?_
  replace H := H.self
  refine AtE.then_n (AtE.go ?_)
  apply AtC.seqS [2, 5, 7] [[], [], [], [], [], [2], [2, 5], [2, 5]] [[], [0], [0, 1], [], [3], [0, 1, 2, 3, 4], [0, 1, 2, 3, 4, 5], [0, 1, 2, 3, 4, 5, 6]] hmix (by kernel_rfl) [(3, _), (4, _), (6, _), (7, _)] rfl 3 rfl
  refine Stg.go [0, 1, 3, 4] [2] rfl rfl (QAll.cons (QOp.p hT rfl rfl rfl rfl rfl) (QAll.cons (QOp.q rfl rfl (Quiet1.loadSP (i := 1) (l := [_, _, _]) hT rfl rfl rfl rfl rfl rfl rfl rfl) rfl rfl) (QAll.cons (QOp.p hT rfl rfl rfl rfl rfl) (QAll.cons (QOp.q rfl rfl (Quiet1.loadSP (i := 1) (l := [_, _, _]) hT rfl rfl rfl rfl rfl rfl rfl rfl) rfl rfl) QAll.nil)))) ?_
  refine EAll.cons ?_ EAll.nil
  refine EOp.e rfl rfl rfl (EffX.call (f := 61) (sh := fun h => ref02uForm _ h _) (H0 := H) rfl Tryd.call61 rfl (hl := fun w m hr hw => lift_ref02uForm _ w m hr _ hw)) ?_
  rintro _ _ ⟨v, h0u1, rfl, rfl, H⟩
  apply Stg.next [(5, _)] rfl rfl
  refine Stg.go [3, 4] [5] rfl rfl (QAll.cons (QOp.p hT rfl rfl rfl rfl rfl) (QAll.cons (QOp.q rfl rfl (Quiet1.loadSP (i := 1) (l := [_, _, _]) hT rfl rfl rfl rfl rfl rfl rfl rfl) rfl rfl) QAll.nil)) ?_
  refine EAll.cons ?_ EAll.nil
  refine EOp.e rfl rfl rfl (EffX.call (f := 61) (sh := fun h => ref02uForm _ h _) (H0 := H) rfl Tryd.call61 rfl (hl := fun w m hr hw => lift_ref02uForm _ w m hr _ hw)) ?_
  rintro _ _ ⟨v_1, h0u2, rfl, rfl, H⟩
  apply Stg.next [(8, _), (9, _)] rfl rfl
  refine Stg.go [6] [7] rfl rfl (QAll.cons (QOp.q rfl rfl (Quiet1.build (cs := [_, _, _, _, _, _]) hT rfl rfl rfl rfl rfl rfl) rfl rfl) QAll.nil) ?_
  refine EAll.cons ?_ EAll.nil
  refine EOp.e rfl rfl rfl (EffX.storeSP (i := 0) (qv := [(_, [_, _, _, _, _, _]), (_, [_, _, _, _, _, _])]) hT rfl rfl rfl rfl rfl rfl rfl rfl rfl rfl) ?_
  rintro _ _ rfl
  apply Stg.next [] rfl rfl
  refine Stg.fin [] rfl rfl QAll.nil ?_
  refine AtE.then_n (AtE.go ?_)
  refine AtC.ret ?_
  exact AtE.retN (rs := [.cell 2 56]) rfl (ResAll.cons (ResAt.cellSP (i := 0) (l := [_, _, _, _, _, _]) hT rfl rfl rfl rfl rfl rfl rfl) ResAll.nil) rfl H

theorem lift_ref02uFits (x0 : Bool × Sl × Sl) (limbs : Int) (w : World) (m : Heap) (hr : Rel ⟨m, []⟩ w.heap) (S : Bool → Heap → Prop) (H : ref02uFits x0 limbs m S) :
    Calls Tryd.prog 71 #[Value.agg (C_bool_sl_sl x0).toArray, Value.int .i64 limbs] w (Post ⟨w, m⟩ Value.bool S) := by
  refine Calls.lift (args := [Value.agg (C_bool_sl_sl x0).toArray, Value.int .i64 limbs]) Tryd.func71 rfl Tryd.ntmps71 (Nat.le_of_ble_eq_true rfl) hr (ref02uFits x0 limbs m S) H (fun H => ?_)
  refine AtC.pick (ts := [0, 1]) rfl ?_
  unfold ref02uFits at H
  refine AtC.seqR ?_
  refine AtL.e rfl (EffX.boxP (cs := [_, _, _]) rfl rfl rfl H) ?_
  rintro _ _ ⟨b, _, rfl, rfl, _, H⟩
  replace H := H.self
  refine AtL.pures hT 1 _ _ _ _ rfl ?_
  refine AtL.nil ?_
  refine AtE.then_n (AtE.go ?_)
  refine AtC.joinSeq (β := Unit) (fun (t0 : Bool) (bb : Unit) => [(4, Value.bool t0)]) (fun (t0 : Bool) (bb : Unit) => []) [] [] H (by exact rfl) (by exact rfl) (fun t0 bb h0u1 H => ?_) (fun J1 H HK1 => ?_)
  ·
   refine AtC.ret ?_
   exact AtE.retN (rs := [.tmp 4]) rfl (ResAll.cons (ResAt.tmp rfl) ResAll.nil) rfl H
  ·
   refine AtC.region ?_
   refine AtL.pures hT 2 _ _ _ _ rfl ?_
   refine AtL.q rfl (Quiet1.loadP (i := 0) hT rfl rfl rfl rfl rfl rfl) ?_
   refine AtL.pures hT 4 _ _ _ _ rfl ?_
   refine AtL.splitB (t := 11) H rfl (fun H => ?_) (fun H => ?_)
   ·
    refine AtL.yes rfl rfl rfl ?_
    refine AtL.pures hT 1 _ _ _ _ rfl ?_
    refine AtL.yes rfl rfl rfl ?_
    refine AtL.q rfl (Quiet1.loadP (i := 0) hT rfl rfl rfl rfl rfl rfl) ?_
    refine AtL.yes rfl rfl rfl ?_
    refine AtL.pures hT 1 _ _ _ _ rfl ?_
    refine AtL.yes rfl rfl rfl ?_
    refine AtL.pures hT 1 _ _ _ _ rfl ?_
    refine AtL.yes rfl rfl rfl ?_
    refine AtL.pures hT 1 _ _ _ _ rfl ?_
    refine AtL.pures hT 2 _ _ _ _ rfl ?_
    refine AtL.nil ?_
    exact AtE.then_n ((HK1 _ () _ H).pickP (ts := [4]) (is := []) rfl rfl (by decide) rfl)
   ·
    refine AtL.noF rfl rfl rfl (by decide) rfl ?_
    refine AtL.noF rfl rfl rfl (by decide) rfl ?_
    refine AtL.noF rfl rfl rfl (by decide) rfl ?_
    refine AtL.noF rfl rfl rfl (by decide) rfl ?_
    refine AtL.noF rfl rfl rfl (by decide) rfl ?_
    refine AtL.pures hT 2 _ _ _ _ rfl ?_
    refine AtL.nil ?_
    exact AtE.then_n ((HK1 _ () _ H).pickP (ts := [4]) (is := []) rfl rfl (by decide) rfl)

theorem lift_ref03uSame (x0 : Bool × Sl × Sl × Bool × Sl × Sl) (y : Bool × Sl × Sl × Bool × Sl × Sl) (w : World) (m : Heap) (hr : Rel ⟨m, []⟩ w.heap) (S : Bool → Heap → Prop) (H : ref03uSame x0 y m S) :
    Calls Tryd.prog 55 #[Value.agg (C_bool_sl_sl_bool_sl_sl x0).toArray, Value.agg (C_bool_sl_sl_bool_sl_sl y).toArray] w (Post ⟨w, m⟩ Value.bool S) := by
  refine Calls.lift (args := [Value.agg (C_bool_sl_sl_bool_sl_sl x0).toArray, Value.agg (C_bool_sl_sl_bool_sl_sl y).toArray]) Tryd.func55 rfl Tryd.ntmps55 (Nat.le_of_ble_eq_true rfl) hr (ref03uSame x0 y m S) H (fun H => ?_)
  refine AtC.pick (ts := [0, 1]) rfl ?_
  unfold ref03uSame at H
  refine AtC.seqR ?_
  refine AtL.e rfl (EffX.boxP (cs := [_, _, _, _, _, _]) rfl rfl rfl H) ?_
  rintro _ _ ⟨b, _, rfl, rfl, _, H⟩
  refine AtL.e rfl (EffX.boxP (cs := [_, _, _, _, _, _]) rfl rfl rfl H) ?_
  rintro _ _ ⟨b_1, _, rfl, rfl, _, H⟩
  replace H := H.self
  refine AtL.pures hT 1 _ _ _ _ rfl ?_
  refine AtL.nil ?_
  refine AtE.then_n (AtE.go ?_)
  refine AtC.joinSeq (β := Unit) (fun (t0 : Bool) (bb : Unit) => [(4, Value.bool t0)]) (fun (t0 : Bool) (bb : Unit) => []) [] [] H (by exact rfl) (by exact rfl) (fun t0 bb h0u1 H => ?_) (fun J1 H HK1 => ?_)
  ·
   refine AtC.ret ?_
   exact AtE.retN (rs := [.tmp 4]) rfl (ResAll.cons (ResAt.tmp rfl) ResAll.nil) rfl H
  ·
   refine AtC.region ?_
   refine AtL.pures hT 1 _ _ _ _ rfl ?_
   refine AtL.q rfl (Quiet1.loadSP (i := 1) (l := [_, _, _]) hT rfl rfl rfl rfl rfl rfl rfl rfl) ?_
   refine AtL.pures hT 1 _ _ _ _ rfl ?_
   refine AtL.q rfl (Quiet1.loadSP (i := 0) (l := [_, _, _]) hT rfl rfl rfl rfl rfl rfl rfl rfl) ?_
   refine AtL.e rfl (EffX.call (f := 60) (sh := fun h => ref02uSame _ _ h _) (H0 := H) rfl Tryd.call60 rfl (hl := fun w m hr hw => lift_ref02uSame _ _ w m hr _ hw)) ?_
   rintro _ _ ⟨v, h0u2, rfl, rfl, H⟩
   refine AtL.pures hT 1 _ _ _ _ rfl ?_
   refine AtL.splitB (t := 10) H rfl (fun H => ?_) (fun H => ?_)
   ·
    refine AtL.yes rfl rfl rfl ?_
    refine AtL.pures hT 1 _ _ _ _ rfl ?_
    refine AtL.yes rfl rfl rfl ?_
    refine AtL.q rfl (Quiet1.loadSP (i := 1) (l := [_, _, _]) hT rfl rfl rfl rfl rfl rfl rfl rfl) ?_
    refine AtL.yes rfl rfl rfl ?_
    refine AtL.pures hT 1 _ _ _ _ rfl ?_
    refine AtL.yes rfl rfl rfl ?_
    refine AtL.q rfl (Quiet1.loadSP (i := 0) (l := [_, _, _]) hT rfl rfl rfl rfl rfl rfl rfl rfl) ?_
    refine AtL.yes rfl rfl rfl ?_
    refine AtL.e rfl (EffX.call (f := 60) (sh := fun h => ref02uSame _ _ h _) (H0 := H) rfl Tryd.call60 rfl (hl := fun w m hr hw => lift_ref02uSame _ _ w m hr _ hw)) ?_
    rintro _ _ ⟨v_1, h0u3, rfl, rfl, H⟩
    refine AtL.pures hT 2 _ _ _ _ rfl ?_
    refine AtL.nil ?_
    exact AtE.then_n ((HK1 _ () _ H).pickP (ts := [4]) (is := []) rfl rfl (by decide) rfl)
   ·
    refine AtL.noF rfl rfl rfl (by decide) rfl ?_
    refine AtL.noF rfl rfl rfl (by decide) rfl ?_
    refine AtL.noF rfl rfl rfl (by decide) rfl ?_
    refine AtL.noF rfl rfl rfl (by decide) rfl ?_
    refine AtL.noF rfl rfl rfl (by decide) rfl ?_
    refine AtL.pures hT 2 _ _ _ _ rfl ?_
    refine AtL.nil ?_
    exact AtE.then_n ((HK1 _ () _ H).pickP (ts := [4]) (is := []) rfl rfl (by decide) rfl)

theorem lift_ratio_Sub (b : (Option Addr)) (x0 : Bool × Sl × Sl) (y : Bool × Sl × Sl) (w : World) (m : Heap) (hr : Rel ⟨m, []⟩ w.heap) (S : (Bool × Sl × Sl) → Heap → Prop) (H : ratio_Sub b x0 y m S) :
    Calls Tryd.prog 81 #[Value.pointer b, Value.agg (C_bool_sl_sl x0).toArray, Value.agg (C_bool_sl_sl y).toArray] w (Post ⟨w, m⟩ (fun r => Value.agg (C_bool_sl_sl r).toArray) S) := by
  refine Calls.lift (args := [Value.pointer b, Value.agg (C_bool_sl_sl x0).toArray, Value.agg (C_bool_sl_sl y).toArray]) Tryd.func81 rfl Tryd.ntmps81 (Nat.le_of_ble_eq_true rfl) hr (ratio_Sub b x0 y m S) H (fun H => ?_)
  refine AtC.pick (ts := [0, 1, 2]) rfl ?_
  unfold ratio_Sub at H
  refine AtC.seqR ?_
  refine AtL.e rfl (EffX.boxP (cs := [_, _, _]) rfl rfl rfl H) ?_
  rintro _ _ ⟨b_1, _, rfl, rfl, _, H⟩
  refine AtL.e rfl (EffX.boxP (cs := [_, _, _]) rfl rfl rfl H) ?_
  rintro _ _ ⟨b_2, _, rfl, rfl, _, H⟩
  refine AtL.e rfl (EffX.allocP (cs := [_, _, _]) hT rfl rfl H) ?_
  rintro _ _ ⟨b_3, _, rfl, rfl, _, H⟩
  refine AtL.nil ?_
  replace H := H.self
  refine AtE.then_n (AtE.go ?_)
  apply AtC.seqS [3, 4, 5] [[], [], [], [], [3], [3, 4]] [[], [], [], [2], [0, 1, 2, 3], [0, 1, 2, 3, 4]] hmix (by kernel_rfl) [(7, _), (8, _), (9, _)] rfl 3 rfl
  refine Stg.go [0, 1, 2] [3] rfl rfl (QAll.cons (QOp.p hT rfl rfl rfl rfl rfl) (QAll.cons (QOp.q rfl rfl (Quiet1.loadSP (i := 2) (l := [_, _, _]) hT rfl rfl rfl rfl rfl rfl rfl rfl) rfl rfl) (QAll.cons (QOp.q rfl rfl (Quiet1.loadSP (i := 1) (l := [_, _, _]) hT rfl rfl rfl rfl rfl rfl rfl rfl) rfl rfl) QAll.nil))) ?_
  refine EAll.cons ?_ EAll.nil
  refine EOp.e rfl rfl rfl (EffX.call (f := 105) (sh := fun h => ratio_Neg _ h _) (H0 := H) rfl Tryd.call105 rfl (hl := fun w m hr hw => lift_ratio_Neg _ w m hr _ hw)) ?_
  rintro _ _ ⟨v, h0u1, rfl, rfl, H⟩
  apply Stg.next [(10, _)] rfl rfl
  refine Stg.go [0, 1] [4] rfl rfl (QAll.cons (QOp.p hT rfl rfl rfl rfl rfl) (QAll.cons (QOp.q rfl rfl (Quiet1.loadSP (i := 2) (l := [_, _, _]) hT rfl rfl rfl rfl rfl rfl rfl rfl) rfl rfl) QAll.nil)) ?_
  refine EAll.cons ?_ EAll.nil
  refine EOp.e rfl rfl rfl (EffX.call (f := 80) (sh := fun h => ratio_Add _ _ _ h _) (H0 := H) rfl Tryd.call80 rfl (hl := fun w m hr hw => lift_ratio_Add _ _ _ w m hr _ hw)) ?_
  rintro _ _ ⟨v_1, h0u2, rfl, rfl, H⟩
  apply Stg.next [(11, _)] rfl rfl
  refine Stg.go [] [5] rfl rfl QAll.nil ?_
  refine EAll.cons ?_ EAll.nil
  refine EOp.e rfl rfl rfl (EffX.storeSP (i := 0) (qv := [(_, [_, _, _]), (_, [_, _, _]), (_, [_, _, _])]) hT rfl rfl rfl rfl rfl rfl rfl rfl rfl rfl) ?_
  rintro _ _ rfl
  apply Stg.next [] rfl rfl
  refine Stg.fin [] rfl rfl QAll.nil ?_
  refine AtE.then_n (AtE.go ?_)
  refine AtC.ret ?_
  exact AtE.retN (rs := [.cell 6 54]) rfl (ResAll.cons (ResAt.cellSP (i := 0) (l := [_, _, _]) hT rfl rfl rfl rfl rfl rfl rfl) ResAll.nil) rfl H

theorem lift_delta_both__ratio_Sub (b : (Option Addr)) (x0 : Bool × Sl × Sl × Bool × Sl × Sl) (y : Bool × Sl × Sl × Bool × Sl × Sl) (w : World) (m : Heap) (hr : Rel ⟨m, []⟩ w.heap) (S : (Bool × Sl × Sl × Bool × Sl × Sl) → Heap → Prop) (H : delta_both__ratio_Sub b x0 y m S) :
    Calls Tryd.prog 100 #[Value.pointer b, Value.func (.func 81) #[] #[], Value.agg (C_bool_sl_sl_bool_sl_sl x0).toArray, Value.agg (C_bool_sl_sl_bool_sl_sl y).toArray] w (Post ⟨w, m⟩ (fun r => Value.agg (C_bool_sl_sl_bool_sl_sl r).toArray) S) := by
  refine Calls.lift (args := [Value.pointer b, Value.func (.func 81) #[] #[], Value.agg (C_bool_sl_sl_bool_sl_sl x0).toArray, Value.agg (C_bool_sl_sl_bool_sl_sl y).toArray]) Tryd.func100 rfl Tryd.ntmps100 (Nat.le_of_ble_eq_true rfl) hr (delta_both__ratio_Sub b x0 y m S) H (fun H => ?_)
  refine AtC.pick (ts := [0, 1, 2, 3]) rfl ?_
  unfold delta_both__ratio_Sub at H
  refine AtC.seqR ?_
  refine AtL.e rfl (EffX.boxP (cs := [_, _, _, _, _, _]) rfl rfl rfl H) ?_
  rintro _ _ ⟨b_1, _, rfl, rfl, _, H⟩
  refine AtL.e rfl (EffX.boxP (cs := [_, _, _, _, _, _]) rfl rfl rfl H) ?_
  rintro _ _ ⟨b_2, _, rfl, rfl, _, H⟩
  refine AtL.e rfl (EffX.allocP (cs := [_, _, _, _, _, _]) hT rfl rfl H) ?_
  rintro _ _ ⟨b_3, _, rfl, rfl, _, H⟩
  refine AtL.nil ?_
  replace H := H.self
  refine AtE.then_n (AtE.go ?_)
  refine AtC.joinSeq (β := Nat) (fun (t0 : Bool × Sl × Sl × Bool × Sl × Sl) (bb : Nat) => [(9, Value.pointer (some ⟨bb, 0, none⟩))]) (fun (t0 : Bool × Sl × Sl × Bool × Sl × Sl) (bb : Nat) => [(bb, [Value.bool t0.1, Sl.toV t0.2.1, Sl.toV t0.2.2.1, Value.bool t0.2.2.2.1, Sl.toV t0.2.2.2.2.1, Sl.toV t0.2.2.2.2.2])]) [0, 8] [0] H (by exact rfl) (by exact rfl) (fun t0 bb h0u1 H => ?_) (fun J1 H HK1 => ?_)
  ·
   refine AtC.seq ?_
   refine AtC.seqR ?_
   refine AtL.pures hT 1 _ _ _ _ rfl ?_
   refine AtL.e rfl (EffX.call (f := 24) (sh := fun h => nat_Bench_Over _ h _) (H0 := H) rfl Tryd.call24 rfl (hl := fun w m hr hw => lift_nat_Bench_Over _ w m hr _ hw)) ?_
   rintro _ _ ⟨v_5, h0u13, rfl, rfl, H⟩
   refine AtL.nil ?_
   refine AtE.then_n (AtE.go ?_)
   refine AtC.condB H rfl (fun H => ?_) (fun H => ?_)
   ·
    refine AtC.seqR ?_
    refine AtL.q rfl (Quiet1.build (cs := [_, _, _, _, _, _]) hT rfl rfl rfl rfl rfl rfl) ?_
    refine AtL.e rfl (EffX.storeSP (i := 1) (qv := [(_, [_, _, _, _, _, _]), (_, [_, _, _, _, _, _])]) hT rfl rfl rfl rfl rfl rfl rfl rfl rfl rfl) ?_
    rintro _ _ rfl
    refine AtL.nil ?_
    refine AtE.then_n (AtE.go ?_)
    refine AtC.ret ?_
    refine AtE.then_r ?_
    exact AtE.retN (rs := [.cell 8 56]) rfl (ResAll.cons (ResAt.cellSP (i := 1) (l := [_, _, _, _, _, _]) hT rfl rfl rfl rfl rfl rfl rfl) ResAll.nil) rfl H
   ·
    refine AtC.skip ?_
    refine AtE.then_n (AtE.go ?_)
    refine AtC.seqR ?_
    refine AtL.q rfl (Quiet1.loadSP (i := 0) (l := [_, _, _, _, _, _]) hT rfl rfl rfl rfl rfl rfl rfl rfl) ?_
    refine AtL.e rfl (EffX.storeSP (i := 1) (qv := [(_, [_, _, _, _, _, _]), (_, [_, _, _, _, _, _])]) hT rfl rfl rfl rfl rfl rfl rfl rfl rfl rfl) ?_
    rintro _ _ rfl
    refine AtL.nil ?_
    refine AtE.then_n (AtE.go ?_)
    refine AtC.ret ?_
    exact AtE.retN (rs := [.cell 8 56]) rfl (ResAll.cons (ResAt.cellSP (i := 1) (l := [_, _, _, _, _, _]) hT rfl rfl rfl rfl rfl rfl rfl) ResAll.nil) rfl H
  ·
   apply AtC.stages [6, 13, 15, 16] [[], [], [], [], [], [], [], [], [], [], [], [], [], [6], [6, 13], [], [6, 13, 15]] [[], [], [], [2], [], [4], [0, 1, 2, 3, 4, 5], [], [], [], [9], [], [11], [0, 1, 2, 3, 4, 5, 6, 7, 8, 9, 10, 11, 12], [0, 1, 2, 3, 4, 5, 6, 7, 8, 9, 10, 11, 12, 13], [], [0, 1, 2, 3, 4, 5, 6, 7, 8, 9, 10, 11, 12, 13, 14, 15]] hmix (by kernel_rfl) [(10, _), (11, _), (12, _), (13, _), (14, _), (15, _), (17, _), (18, _), (19, _), (20, _), (21, _), (22, _)] rfl 4 rfl
   refine Stg.go [0, 1, 2, 3, 4, 5, 7, 8, 9, 10, 11, 12] [6, 15] rfl rfl (QAll.cons (QOp.p hT rfl rfl rfl rfl rfl) (QAll.cons (QOp.p hT rfl rfl rfl rfl rfl) (QAll.cons (QOp.p hT rfl rfl rfl rfl rfl) (QAll.cons (QOp.q rfl rfl (Quiet1.loadSP (i := 2) (l := [_, _, _]) hT rfl rfl rfl rfl rfl rfl rfl rfl) rfl rfl) (QAll.cons (QOp.p hT rfl rfl rfl rfl rfl) (QAll.cons (QOp.q rfl rfl (Quiet1.loadSP (i := 1) (l := [_, _, _]) hT rfl rfl rfl rfl rfl rfl rfl rfl) rfl rfl) (QAll.cons (QOp.p hT rfl rfl rfl rfl rfl) (QAll.cons (QOp.p hT rfl rfl rfl rfl rfl) (QAll.cons (QOp.p hT rfl rfl rfl rfl rfl) (QAll.cons (QOp.q rfl rfl (Quiet1.loadSP (i := 2) (l := [_, _, _]) hT rfl rfl rfl rfl rfl rfl rfl rfl) rfl rfl) (QAll.cons (QOp.p hT rfl rfl rfl rfl rfl) (QAll.cons (QOp.q rfl rfl (Quiet1.loadSP (i := 1) (l := [_, _, _]) hT rfl rfl rfl rfl rfl rfl rfl rfl) rfl rfl) QAll.nil)))))))))))) ?_
   refine EAll.cons ?_ ?_
   ·
    replace H := H.self
    refine EOp.e rfl rfl rfl (EffX.callF (bs := []) (cs := []) (f := 81) (sh := fun h => ratio_Sub _ _ _ h _) (H0 := H) rfl rfl Tryd.call81 rfl (hl := fun w m hr hw => lift_ratio_Sub _ _ _ w m hr _ hw)) ?_
    rintro _ _ ⟨v, h0u3, rfl, rfl, H⟩
    apply Stg.next [(16, _)] rfl rfl
    refine Stg.go [7, 8, 9, 10, 11, 12] [13, 15] rfl rfl (QAll.cons (QOp.p hT rfl rfl rfl rfl rfl) (QAll.cons (QOp.p hT rfl rfl rfl rfl rfl) (QAll.cons (QOp.p hT rfl rfl rfl rfl rfl) (QAll.cons (QOp.q rfl rfl (Quiet1.loadSP (i := 2) (l := [_, _, _]) hT rfl rfl rfl rfl rfl rfl rfl rfl) rfl rfl) (QAll.cons (QOp.p hT rfl rfl rfl rfl rfl) (QAll.cons (QOp.q rfl rfl (Quiet1.loadSP (i := 1) (l := [_, _, _]) hT rfl rfl rfl rfl rfl rfl rfl rfl) rfl rfl) QAll.nil)))))) ?_
    refine EAll.cons ?_ ?_
    ·
     replace H := H.self
     refine EOp.e rfl rfl rfl (EffX.callF (bs := []) (cs := []) (f := 81) (sh := fun h => ratio_Sub _ _ _ h _) (H0 := H) rfl rfl Tryd.call81 rfl (hl := fun w m hr hw => lift_ratio_Sub _ _ _ w m hr _ hw)) ?_
     rintro _ _ ⟨v_1, h0u5, rfl, rfl, H⟩
     apply Stg.next [(23, _), (24, _)] rfl rfl
     refine Stg.go [14] [15] rfl rfl (QAll.cons (QOp.q rfl rfl (Quiet1.build (cs := [_, _, _, _, _, _]) hT rfl rfl rfl rfl rfl rfl) rfl rfl) QAll.nil) ?_
     refine EAll.cons ?_ EAll.nil
     refine EOp.e rfl rfl rfl (EffX.allocP (cs := [_, _, _, _, _, _]) hT rfl rfl H) ?_
     rintro _ _ ⟨b_4, _, rfl, rfl, he1, H⟩
     apply Stg.next [(9, _)] rfl rfl
     refine Stg.go [14] [16] rfl rfl (QAll.cons (QOp.q rfl rfl (Quiet1.build (cs := [_, _, _, _, _, _]) hT rfl rfl rfl rfl rfl rfl) rfl rfl) QAll.nil) ?_
     refine EAll.cons ?_ EAll.nil
     refine EOp.e rfl rfl rfl (EffX.storeSP (i := 0) (qv := [(_, [_, _, _, _, _, _]), (_, [_, _, _, _, _, _]), (_, [_, _, _, _, _, _]), (_, [_, _, _, _, _, _])]) hT rfl rfl rfl rfl rfl rfl rfl rfl rfl rfl) ?_
     rintro _ _ rfl
     apply Stg.next [] rfl rfl
     refine Stg.fin [] rfl rfl QAll.nil ?_
     replace H := H.self
     exact AtE.then_n ((HK1 _ b_4 _ H).pickP (ts := [9, 0, 8]) (is := [0, 1]) rfl rfl (by decide) rfl)
    refine EAll.cons ?_ EAll.nil
    refine EOp.e rfl rfl rfl (EffX.allocP (cs := [_, _, _, _, _, _]) hT rfl rfl H) ?_
    rintro _ _ ⟨b_5, _, rfl, rfl, he2, H⟩
    apply Stg.next [(9, _)] rfl rfl
    refine Stg.go [7, 8, 9, 10, 11, 12] [13] rfl rfl (QAll.cons (QOp.p hT rfl rfl rfl rfl rfl) (QAll.cons (QOp.p hT rfl rfl rfl rfl rfl) (QAll.cons (QOp.p hT rfl rfl rfl rfl rfl) (QAll.cons (QOp.q rfl rfl (Quiet1.loadSP (i := 3) (l := [_, _, _]) hT rfl rfl rfl rfl rfl rfl rfl rfl) rfl rfl) (QAll.cons (QOp.p hT rfl rfl rfl rfl rfl) (QAll.cons (QOp.q rfl rfl (Quiet1.loadSP (i := 2) (l := [_, _, _]) hT rfl rfl rfl rfl rfl rfl rfl rfl) rfl rfl) QAll.nil)))))) ?_
    refine EAll.cons ?_ EAll.nil
    replace H := H.self
    refine EOp.e rfl rfl rfl (EffX.callF (bs := []) (cs := []) (f := 81) (sh := fun h => ratio_Sub _ _ _ h _) (H0 := H) rfl rfl Tryd.call81 rfl (hl := fun w m hr hw => lift_ratio_Sub _ _ _ w m hr _ hw)) ?_
    rintro _ _ ⟨v_2, h0u7, rfl, rfl, H⟩
    apply Stg.next [(23, _), (24, _)] rfl rfl
    refine Stg.go [14] [16] rfl rfl (QAll.cons (QOp.q rfl rfl (Quiet1.build (cs := [_, _, _, _, _, _]) hT rfl rfl rfl rfl rfl rfl) rfl rfl) QAll.nil) ?_
    refine EAll.cons ?_ EAll.nil
    refine EOp.e rfl rfl rfl (EffX.storeSP (i := 0) (qv := [(_, [_, _, _, _, _, _]), (_, [_, _, _, _, _, _]), (_, [_, _, _, _, _, _]), (_, [_, _, _, _, _, _])]) hT rfl rfl rfl rfl rfl rfl rfl rfl rfl rfl) ?_
    rintro _ _ rfl
    apply Stg.next [] rfl rfl
    refine Stg.fin [] rfl rfl QAll.nil ?_
    replace H := H.self
    exact AtE.then_n ((HK1 _ b_5 _ H).pickP (ts := [9, 0, 8]) (is := [0, 1]) rfl rfl (by decide) rfl)
   refine EAll.cons ?_ EAll.nil
   refine EOp.e rfl rfl rfl (EffX.allocP (cs := [_, _, _, _, _, _]) hT rfl rfl H) ?_
   rintro _ _ ⟨b_6, _, rfl, rfl, he3, H⟩
   apply Stg.next [(9, _)] rfl rfl
   refine Stg.go [0, 1, 2, 3, 4, 5, 7, 8, 9, 10, 11, 12] [6] rfl rfl (QAll.cons (QOp.p hT rfl rfl rfl rfl rfl) (QAll.cons (QOp.p hT rfl rfl rfl rfl rfl) (QAll.cons (QOp.p hT rfl rfl rfl rfl rfl) (QAll.cons (QOp.q rfl rfl (Quiet1.loadSP (i := 3) (l := [_, _, _]) hT rfl rfl rfl rfl rfl rfl rfl rfl) rfl rfl) (QAll.cons (QOp.p hT rfl rfl rfl rfl rfl) (QAll.cons (QOp.q rfl rfl (Quiet1.loadSP (i := 2) (l := [_, _, _]) hT rfl rfl rfl rfl rfl rfl rfl rfl) rfl rfl) (QAll.cons (QOp.p hT rfl rfl rfl rfl rfl) (QAll.cons (QOp.p hT rfl rfl rfl rfl rfl) (QAll.cons (QOp.p hT rfl rfl rfl rfl rfl) (QAll.cons (QOp.q rfl rfl (Quiet1.loadSP (i := 3) (l := [_, _, _]) hT rfl rfl rfl rfl rfl rfl rfl rfl) rfl rfl) (QAll.cons (QOp.p hT rfl rfl rfl rfl rfl) (QAll.cons (QOp.q rfl rfl (Quiet1.loadSP (i := 2) (l := [_, _, _]) hT rfl rfl rfl rfl rfl rfl rfl rfl) rfl rfl) QAll.nil)))))))))))) ?_
   refine EAll.cons ?_ EAll.nil
   replace H := H.self
   refine EOp.e rfl rfl rfl (EffX.callF (bs := []) (cs := []) (f := 81) (sh := fun h => ratio_Sub _ _ _ h _) (H0 := H) rfl rfl Tryd.call81 rfl (hl := fun w m hr hw => lift_ratio_Sub _ _ _ w m hr _ hw)) ?_
   rintro _ _ ⟨v_3, h0u9, rfl, rfl, H⟩
   apply Stg.next [(16, _)] rfl rfl
   refine Stg.go [7, 8, 9, 10, 11, 12] [13] rfl rfl (QAll.cons (QOp.p hT rfl rfl rfl rfl rfl) (QAll.cons (QOp.p hT rfl rfl rfl rfl rfl) (QAll.cons (QOp.p hT rfl rfl rfl rfl rfl) (QAll.cons (QOp.q rfl rfl (Quiet1.loadSP (i := 3) (l := [_, _, _]) hT rfl rfl rfl rfl rfl rfl rfl rfl) rfl rfl) (QAll.cons (QOp.p hT rfl rfl rfl rfl rfl) (QAll.cons (QOp.q rfl rfl (Quiet1.loadSP (i := 2) (l := [_, _, _]) hT rfl rfl rfl rfl rfl rfl rfl rfl) rfl rfl) QAll.nil)))))) ?_
   refine EAll.cons ?_ EAll.nil
   replace H := H.self
   refine EOp.e rfl rfl rfl (EffX.callF (bs := []) (cs := []) (f := 81) (sh := fun h => ratio_Sub _ _ _ h _) (H0 := H) rfl rfl Tryd.call81 rfl (hl := fun w m hr hw => lift_ratio_Sub _ _ _ w m hr _ hw)) ?_
   rintro _ _ ⟨v_4, h0u11, rfl, rfl, H⟩
   apply Stg.next [(23, _), (24, _)] rfl rfl
   refine Stg.go [14] [16] rfl rfl (QAll.cons (QOp.q rfl rfl (Quiet1.build (cs := [_, _, _, _, _, _]) hT rfl rfl rfl rfl rfl rfl) rfl rfl) QAll.nil) ?_
   refine EAll.cons ?_ EAll.nil
   refine EOp.e rfl rfl rfl (EffX.storeSP (i := 0) (qv := [(_, [_, _, _, _, _, _]), (_, [_, _, _, _, _, _]), (_, [_, _, _, _, _, _]), (_, [_, _, _, _, _, _])]) hT rfl rfl rfl rfl rfl rfl rfl rfl rfl rfl) ?_
   rintro _ _ rfl
   apply Stg.next [] rfl rfl
   refine Stg.fin [] rfl rfl QAll.nil ?_
   replace H := H.self
   exact AtE.then_n ((HK1 _ b_6 _ H).pickP (ts := [9, 0, 8]) (is := [0, 1]) rfl rfl (by decide) rfl)

theorem lift_delta_Sub (b : (Option Addr)) (x0 : Bool × Sl × Sl × Bool × Sl × Sl) (y : Bool × Sl × Sl × Bool × Sl × Sl) (w : World) (m : Heap) (hr : Rel ⟨m, []⟩ w.heap) (S : (Bool × Sl × Sl × Bool × Sl × Sl) → Heap → Prop) (H : delta_Sub b x0 y m S) :
    Calls Tryd.prog 45 #[Value.pointer b, Value.agg (C_bool_sl_sl_bool_sl_sl x0).toArray, Value.agg (C_bool_sl_sl_bool_sl_sl y).toArray] w (Post ⟨w, m⟩ (fun r => Value.agg (C_bool_sl_sl_bool_sl_sl r).toArray) S) := by
  refine Calls.lift (args := [Value.pointer b, Value.agg (C_bool_sl_sl_bool_sl_sl x0).toArray, Value.agg (C_bool_sl_sl_bool_sl_sl y).toArray]) Tryd.func45 rfl Tryd.ntmps45 (Nat.le_of_ble_eq_true rfl) hr (delta_Sub b x0 y m S) H (fun H => ?_)
  refine AtC.pick (ts := [0, 1, 2]) rfl ?_
  unfold delta_Sub at H
  refine AtC.seqR ?_
  refine AtL.e rfl (EffX.boxP (cs := [_, _, _, _, _, _]) rfl rfl rfl H) ?_
  rintro _ _ ⟨b_1, _, rfl, rfl, _, H⟩
  refine AtL.e rfl (EffX.boxP (cs := [_, _, _, _, _, _]) rfl rfl rfl H) ?_
  rintro _ _ ⟨b_2, _, rfl, rfl, _, H⟩
  refine AtL.e rfl (EffX.allocP (cs := [_, _, _, _, _, _]) hT rfl rfl H) ?_
  rintro _ _ ⟨b_3, _, rfl, rfl, _, H⟩
  refine AtL.nil ?_
  replace H := H.self
  refine AtE.then_n (AtE.go ?_)
  refine AtC.seqR ?_
  refine AtL.pures hT 1 _ _ _ _ rfl ?_
  refine AtL.q rfl (Quiet1.loadSP (i := 2) (l := [_, _, _, _, _, _]) hT rfl rfl rfl rfl rfl rfl rfl rfl) ?_
  refine AtL.q rfl (Quiet1.loadSP (i := 1) (l := [_, _, _, _, _, _]) hT rfl rfl rfl rfl rfl rfl rfl rfl) ?_
  refine AtL.e rfl (EffX.call (f := 100) (sh := fun h => delta_both__ratio_Sub _ _ _ h _) (H0 := H) rfl Tryd.call100 rfl (hl := fun w m hr hw => lift_delta_both__ratio_Sub _ _ _ w m hr _ hw)) ?_
  rintro _ _ ⟨v, h0u1, rfl, rfl, H⟩
  refine AtL.e rfl (EffX.storeSP (i := 0) (qv := [(_, [_, _, _, _, _, _]), (_, [_, _, _, _, _, _]), (_, [_, _, _, _, _, _])]) hT rfl rfl rfl rfl rfl rfl rfl rfl rfl rfl) ?_
  rintro _ _ rfl
  refine AtL.nil ?_
  refine AtE.then_n (AtE.go ?_)
  refine AtC.ret ?_
  exact AtE.retN (rs := [.cell 6 56]) rfl (ResAll.cons (ResAt.cellSP (i := 0) (l := [_, _, _, _, _, _]) hT rfl rfl rfl rfl rfl rfl rfl) ResAll.nil) rfl H

theorem lift_law03uDeltaTold_c2 (b : (Option Addr)) (c0 : Addr) (c1 : Addr) (w : World) (m : Heap) (hr : Rel ⟨m, []⟩ w.heap) (S : (Bool × Sl × Sl × Bool × Sl × Sl) → Heap → Prop) (H : law03uDeltaTold_c2 b c0 c1 m S) :
    Calls Tryd.prog 44 #[Value.pointer b, Value.pointer (some c0), Value.pointer (some c1)] w (Post ⟨w, m⟩ (fun r => Value.agg (C_bool_sl_sl_bool_sl_sl r).toArray) S) := by
  refine Calls.lift (args := [Value.pointer b, Value.pointer (some c0), Value.pointer (some c1)]) Tryd.func44 rfl Tryd.ntmps44 (Nat.le_of_ble_eq_true rfl) hr (law03uDeltaTold_c2 b c0 c1 m S) H (fun H => ?_)
  refine AtC.pick (ts := [0, 1, 2]) rfl ?_
  unfold law03uDeltaTold_c2 at H
  refine AtC.seqR ?_
  refine AtL.e rfl (EffX.allocP (cs := [_, _, _, _, _, _]) hT rfl rfl H) ?_
  rintro _ _ ⟨b_1, _, rfl, rfl, _, H⟩
  refine AtL.nil ?_
  replace H := H.self
  refine AtE.then_n (AtE.go ?_)
  refine AtC.seqR ?_
  refine AtL.pures hT 1 _ _ _ _ rfl ?_
  obtain ⟨v, hc0, H⟩ := H
  refine AtL.q rfl (Quiet1.loadS hT rfl rfl rfl rfl hc0) ?_
  obtain ⟨v_1, hc1, H⟩ := H
  refine AtL.q rfl (Quiet1.loadS hT rfl rfl rfl rfl hc1) ?_
  refine AtL.e rfl (EffX.call (f := 45) (sh := fun h => delta_Sub _ _ _ h _) (H0 := H) rfl Tryd.call45 rfl (hl := fun w m hr hw => lift_delta_Sub _ _ _ w m hr _ hw)) ?_
  rintro _ _ ⟨v_2, h0u1, rfl, rfl, H⟩
  refine AtL.e rfl (EffX.storeSP (i := 0) (qv := [(_, [_, _, _, _, _, _])]) hT rfl rfl rfl rfl rfl rfl rfl rfl rfl rfl) ?_
  rintro _ _ rfl
  refine AtL.nil ?_
  refine AtE.then_n (AtE.go ?_)
  refine AtC.ret ?_
  exact AtE.retN (rs := [.cell 4 56]) rfl (ResAll.cons (ResAt.cellSP (i := 0) (l := [_, _, _, _, _, _]) hT rfl rfl rfl rfl rfl rfl rfl) ResAll.nil) rfl H

theorem lift_ref02uNeg (x0 : Bool × Sl × Sl) (w : World) (m : Heap) (hr : Rel ⟨m, []⟩ w.heap) (S : (Bool × Sl × Sl) → Heap → Prop) (H : ref02uNeg x0 m S) :
    Calls Tryd.prog 102 #[Value.agg (C_bool_sl_sl x0).toArray] w (Post ⟨w, m⟩ (fun r => Value.agg (C_bool_sl_sl r).toArray) S) := by
  refine Calls.lift (args := [Value.agg (C_bool_sl_sl x0).toArray]) Tryd.func102 rfl Tryd.ntmps102 (Nat.le_of_ble_eq_true rfl) hr (ref02uNeg x0 m S) H (fun H => ?_)
  refine AtC.pick (ts := [0]) rfl ?_
  unfold ref02uNeg at H
  refine AtC.seqR ?_
  refine AtL.e rfl (EffX.boxP (cs := [_, _, _]) rfl rfl rfl H) ?_
  rintro _ _ ⟨b, _, rfl, rfl, _, H⟩
  refine AtL.e rfl (EffX.allocP (cs := [_, _, _]) hT rfl rfl H) ?_
  rintro _ _ ⟨b_1, _, rfl, rfl, _, H⟩
  refine AtL.nil ?_
  replace H := H.self
  refine AtE.then_n (AtE.go ?_)
  refine AtC.joinSeq (β := Unit) (fun (t0 : Bool × Sl × Sl) (bb : Unit) => []) (fun (t0 : Bool × Sl × Sl) (bb : Unit) => [(b_1, [Value.bool t0.1, Sl.toV t0.2.1, Sl.toV t0.2.2])]) [2] [] H (by exact rfl) (by exact rfl) (fun t0 bb h0u1 H => ?_) (fun J1 H HK1 => ?_)
  ·
   refine AtC.ret ?_
   exact AtE.retN (rs := [.cell 2 59]) rfl (ResAll.cons (ResAt.cellSP (i := 0) (l := [_, _, _]) hT rfl rfl rfl rfl rfl rfl rfl) ResAll.nil) rfl H
  ·
   refine AtC.region ?_
   refine AtL.pures hT 1 _ _ _ _ rfl ?_
   refine AtL.q rfl (Quiet1.loadP (i := 1) hT rfl rfl rfl rfl rfl rfl) ?_
   refine AtL.pures hT 2 _ _ _ _ rfl ?_
   refine AtL.splitB (t := 6) H rfl (fun H => ?_) (fun H => ?_)
   ·
    refine AtL.yes rfl rfl rfl ?_
    refine AtL.pures hT 1 _ _ _ _ rfl ?_
    refine AtL.yes rfl rfl rfl ?_
    refine AtL.q rfl (Quiet1.loadP (i := 1) hT rfl rfl rfl rfl rfl rfl) ?_
    refine AtL.yes rfl rfl rfl ?_
    refine AtL.pures hT 1 _ _ _ _ rfl ?_
    refine AtL.yes rfl rfl rfl ?_
    refine AtL.pures hT 1 _ _ _ _ rfl ?_
    refine AtL.pures hT 2 _ _ _ _ rfl ?_
    refine AtL.q rfl (Quiet1.loadP (i := 1) hT rfl rfl rfl rfl rfl rfl) ?_
    refine AtL.pures hT 1 _ _ _ _ rfl ?_
    refine AtL.q rfl (Quiet1.loadP (i := 1) hT rfl rfl rfl rfl rfl rfl) ?_
    refine AtL.q rfl (Quiet1.build (cs := [_, _, _]) hT rfl rfl rfl rfl rfl rfl) ?_
    refine AtL.e rfl (EffX.storeSP (i := 0) (qv := [(_, [_, _, _]), (_, [_, _, _])]) hT rfl rfl rfl rfl rfl rfl rfl rfl rfl rfl) ?_
    rintro _ _ rfl
    refine AtL.nil ?_
    exact AtE.then_n ((HK1 _ () _ H).pickP (ts := [2]) (is := [0]) rfl rfl (by decide) rfl)
   ·
    refine AtL.noF rfl rfl rfl (by decide) rfl ?_
    refine AtL.noF rfl rfl rfl (by decide) rfl ?_
    refine AtL.noF rfl rfl rfl (by decide) rfl ?_
    refine AtL.noF rfl rfl rfl (by decide) rfl ?_
    refine AtL.pures hT 2 _ _ _ _ rfl ?_
    refine AtL.q rfl (Quiet1.loadP (i := 1) hT rfl rfl rfl rfl rfl rfl) ?_
    refine AtL.pures hT 1 _ _ _ _ rfl ?_
    refine AtL.q rfl (Quiet1.loadP (i := 1) hT rfl rfl rfl rfl rfl rfl) ?_
    refine AtL.q rfl (Quiet1.build (cs := [_, _, _]) hT rfl rfl rfl rfl rfl rfl) ?_
    refine AtL.e rfl (EffX.storeSP (i := 0) (qv := [(_, [_, _, _]), (_, [_, _, _])]) hT rfl rfl rfl rfl rfl rfl rfl rfl rfl rfl) ?_
    rintro _ _ rfl
    refine AtL.nil ?_
    exact AtE.then_n ((HK1 _ () _ H).pickP (ts := [2]) (is := [0]) rfl rfl (by decide) rfl)

theorem lift_ref03uNeg (x0 : Bool × Sl × Sl × Bool × Sl × Sl) (w : World) (m : Heap) (hr : Rel ⟨m, []⟩ w.heap) (S : (Bool × Sl × Sl × Bool × Sl × Sl) → Heap → Prop) (H : ref03uNeg x0 m S) :
    Calls Tryd.prog 46 #[Value.agg (C_bool_sl_sl_bool_sl_sl x0).toArray] w (Post ⟨w, m⟩ (fun r => Value.agg (C_bool_sl_sl_bool_sl_sl r).toArray) S) := by
  refine Calls.lift (args := [Value.agg (C_bool_sl_sl_bool_sl_sl x0).toArray]) Tryd.func46 rfl Tryd.ntmps46 (Nat.le_of_ble_eq_true rfl) hr (ref03uNeg x0 m S) H (fun H => ?_)
  refine AtC.pick (ts := [0]) rfl ?_
  unfold ref03uNeg at H
  refine AtC.seqR ?_
  refine AtL.e rfl (EffX.boxP (cs := [_, _, _, _, _, _]) rfl rfl rfl H) ?_
  rintro _ _ ⟨b, _, rfl, rfl, _, H⟩
  refine AtL.e rfl (EffX.allocP (cs := [_, _, _, _, _, _]) hT rfl rfl H) ?_
  rintro _ _ ⟨b_1, _, rfl, rfl, _, H⟩
  refine AtL.nil ?_
  replace H := H.self
  refine AtE.then_n (AtE.go ?_)
  apply AtC.seqS [2, 5, 7] [[], [], [], [], [], [2], [2, 5], [2, 5]] [[], [0], [0, 1], [], [3], [0, 1, 2, 3, 4], [0, 1, 2, 3, 4, 5], [0, 1, 2, 3, 4, 5, 6]] hmix (by kernel_rfl) [(3, _), (4, _), (6, _), (7, _)] rfl 3 rfl
  refine Stg.go [0, 1, 3, 4] [2] rfl rfl (QAll.cons (QOp.p hT rfl rfl rfl rfl rfl) (QAll.cons (QOp.q rfl rfl (Quiet1.loadSP (i := 1) (l := [_, _, _]) hT rfl rfl rfl rfl rfl rfl rfl rfl) rfl rfl) (QAll.cons (QOp.p hT rfl rfl rfl rfl rfl) (QAll.cons (QOp.q rfl rfl (Quiet1.loadSP (i := 1) (l := [_, _, _]) hT rfl rfl rfl rfl rfl rfl rfl rfl) rfl rfl) QAll.nil)))) ?_
  refine EAll.cons ?_ EAll.nil
  refine EOp.e rfl rfl rfl (EffX.call (f := 102) (sh := fun h => ref02uNeg _ h _) (H0 := H) rfl Tryd.call102 rfl (hl := fun w m hr hw => lift_ref02uNeg _ w m hr _ hw)) ?_
  rintro _ _ ⟨v, h0u1, rfl, rfl, H⟩
  apply Stg.next [(5, _)] rfl rfl
  refine Stg.go [3, 4] [5] rfl rfl (QAll.cons (QOp.p hT rfl rfl rfl rfl rfl) (QAll.cons (QOp.q rfl rfl (Quiet1.loadSP (i := 1) (l := [_, _, _]) hT rfl rfl rfl rfl rfl rfl rfl rfl) rfl rfl) QAll.nil)) ?_
  refine EAll.cons ?_ EAll.nil
  refine EOp.e rfl rfl rfl (EffX.call (f := 102) (sh := fun h => ref02uNeg _ h _) (H0 := H) rfl Tryd.call102 rfl (hl := fun w m hr hw => lift_ref02uNeg _ w m hr _ hw)) ?_
  rintro _ _ ⟨v_1, h0u2, rfl, rfl, H⟩
  apply Stg.next [(8, _), (9, _)] rfl rfl
  refine Stg.go [6] [7] rfl rfl (QAll.cons (QOp.q rfl rfl (Quiet1.build (cs := [_, _, _, _, _, _]) hT rfl rfl rfl rfl rfl rfl) rfl rfl) QAll.nil) ?_
  refine EAll.cons ?_ EAll.nil
  refine EOp.e rfl rfl rfl (EffX.storeSP (i := 0) (qv := [(_, [_, _, _, _, _, _]), (_, [_, _, _, _, _, _])]) hT rfl rfl rfl rfl rfl rfl rfl rfl rfl rfl) ?_
  rintro _ _ rfl
  apply Stg.next [] rfl rfl
  refine Stg.fin [] rfl rfl QAll.nil ?_
  refine AtE.then_n (AtE.go ?_)
  refine AtC.ret ?_
  exact AtE.retN (rs := [.cell 2 61]) rfl (ResAll.cons (ResAt.cellSP (i := 0) (l := [_, _, _, _, _, _]) hT rfl rfl rfl rfl rfl rfl rfl) ResAll.nil) rfl H

theorem lift_ratio_Mul (b : (Option Addr)) (x0 : Bool × Sl × Sl) (y : Bool × Sl × Sl) (w : World) (m : Heap) (hr : Rel ⟨m, []⟩ w.heap) (S : (Bool × Sl × Sl) → Heap → Prop) (H : ratio_Mul b x0 y m S) :
    Calls Tryd.prog 82 #[Value.pointer b, Value.agg (C_bool_sl_sl x0).toArray, Value.agg (C_bool_sl_sl y).toArray] w (Post ⟨w, m⟩ (fun r => Value.agg (C_bool_sl_sl r).toArray) S) := by
  refine Calls.lift (args := [Value.pointer b, Value.agg (C_bool_sl_sl x0).toArray, Value.agg (C_bool_sl_sl y).toArray]) Tryd.func82 rfl Tryd.ntmps82 (Nat.le_of_ble_eq_true rfl) hr (ratio_Mul b x0 y m S) H (fun H => ?_)
  refine AtC.pick (ts := [0, 1, 2]) rfl ?_
  unfold ratio_Mul at H
  refine AtC.seqR ?_
  refine AtL.e rfl (EffX.boxP (cs := [_, _, _]) rfl rfl rfl H) ?_
  rintro _ _ ⟨b_1, _, rfl, rfl, _, H⟩
  refine AtL.e rfl (EffX.boxP (cs := [_, _, _]) rfl rfl rfl H) ?_
  rintro _ _ ⟨b_2, _, rfl, rfl, _, H⟩
  refine AtL.e rfl (EffX.allocP (cs := [_, _, _]) hT rfl rfl H) ?_
  rintro _ _ ⟨b_3, _, rfl, rfl, _, H⟩
  refine AtL.nil ?_
  replace H := H.self
  refine AtE.then_n (AtE.go ?_)
  refine AtC.seqR ?_
  refine AtL.e rfl (EffX.call (f := 110) (sh := fun h => ratio_free h _) (H0 := H) rfl Tryd.call110 rfl (hl := fun w m hr hw => lift_ratio_free  w m hr _ hw)) ?_
  rintro _ _ ⟨v, h0u1, rfl, rfl, H⟩
  refine AtL.q rfl (Quiet1.makeFn (bs := [_]) (cs := []) rfl rfl rfl) ?_
  refine AtL.pures hT 1 _ _ _ _ rfl ?_
  refine AtL.nil ?_
  refine AtE.then_n (AtE.go ?_)
  apply AtC.seqS [15, 18, 20, 21, 22, 23, 24] [[], [], [], [], [], [], [], [], [], [], [], [], [], [], [], [], [], [], [15], [], [15, 18], [15, 18, 20], [15, 18, 20, 21], [15, 18, 20, 21, 22], [15, 18, 20, 21, 22, 23]] [[], [], [1], [1, 2], [], [4], [4, 5], [1, 2, 3, 4, 5, 6], [], [], [9], [9, 10], [], [12], [12, 13], [8, 9, 10, 11, 12, 13, 14], [], [], [8, 9, 10, 11, 12, 13, 14, 15, 17], [], [8, 9, 10, 11, 12, 13, 14, 15, 17, 18, 19], [8, 9, 10, 11, 12, 13, 14, 15, 16, 17, 18, 19, 20], [1, 2, 3, 4, 5, 6, 7, 8, 9, 10, 11, 12, 13, 14, 15, 16, 17, 18, 19, 20, 21], [0, 1, 2, 3, 4, 5, 6, 7, 8, 9, 10, 11, 12, 13, 14, 15, 16, 17, 18, 19, 20, 21, 22], [0, 1, 2, 3, 4, 5, 6, 7, 8, 9, 10, 11, 12, 13, 14, 15, 16, 17, 18, 19, 20, 21, 22, 23]] hmix (by kernel_rfl) [(10, _), (11, _), (12, _), (13, _), (14, _), (15, _), (16, _), (17, _), (18, _), (19, _), (20, _), (21, _), (22, _), (23, _), (24, _), (26, _), (27, _), (29, _)] rfl 7 rfl
  refine Stg.go [0, 1, 2, 3, 4, 5, 6, 7, 8, 9, 10, 11, 12, 13, 14, 16, 17, 19] [15] rfl rfl (QAll.cons (QOp.p hT rfl rfl rfl rfl rfl) (QAll.cons (QOp.p hT rfl rfl rfl rfl rfl) (QAll.cons (QOp.p hT rfl rfl rfl rfl rfl) (QAll.cons (QOp.q rfl rfl (Quiet1.loadP (i := 2) hT rfl rfl rfl rfl rfl rfl) rfl rfl) (QAll.cons (QOp.p hT rfl rfl rfl rfl rfl) (QAll.cons (QOp.p hT rfl rfl rfl rfl rfl) (QAll.cons (QOp.q rfl rfl (Quiet1.loadP (i := 1) hT rfl rfl rfl rfl rfl rfl) rfl rfl) (QAll.cons (QOp.p hT rfl rfl rfl rfl rfl) (QAll.cons (QOp.p hT rfl rfl rfl rfl rfl) (QAll.cons (QOp.p hT rfl rfl rfl rfl rfl) (QAll.cons (QOp.p hT rfl rfl rfl rfl rfl) (QAll.cons (QOp.q rfl rfl (Quiet1.loadP (i := 2) hT rfl rfl rfl rfl rfl rfl) rfl rfl) (QAll.cons (QOp.p hT rfl rfl rfl rfl rfl) (QAll.cons (QOp.p hT rfl rfl rfl rfl rfl) (QAll.cons (QOp.q rfl rfl (Quiet1.loadP (i := 1) hT rfl rfl rfl rfl rfl rfl) rfl rfl) (QAll.cons (QOp.p hT rfl rfl rfl rfl rfl) (QAll.cons (QOp.q rfl rfl (Quiet1.loadSP (i := 2) (l := [_, _, _]) hT rfl rfl rfl rfl rfl rfl rfl rfl) rfl rfl) (QAll.cons (QOp.q rfl rfl (Quiet1.loadSP (i := 1) (l := [_, _, _]) hT rfl rfl rfl rfl rfl rfl rfl rfl) rfl rfl) QAll.nil)))))))))))))))))) ?_
  refine EAll.cons ?_ EAll.nil
  refine EOp.e rfl rfl rfl (EffX.callF (bs := [_]) (cs := []) (f := 18) (sh := fun h => nat_Bench_Mul _ _ _ h _) (H0 := H) rfl rfl Tryd.call18 rfl (hl := fun w m hr hw => lift_nat_Bench_Mul _ _ _ w m hr _ hw)) ?_
  rintro _ _ ⟨v_1, h0u2, rfl, rfl, H⟩
  apply Stg.next [(25, _)] rfl rfl
  refine Stg.go [0, 1, 2, 3, 4, 5, 6, 7, 16, 17, 19] [18] rfl rfl (QAll.cons (QOp.p hT rfl rfl rfl rfl rfl) (QAll.cons (QOp.p hT rfl rfl rfl rfl rfl) (QAll.cons (QOp.p hT rfl rfl rfl rfl rfl) (QAll.cons (QOp.q rfl rfl (Quiet1.loadP (i := 2) hT rfl rfl rfl rfl rfl rfl) rfl rfl) (QAll.cons (QOp.p hT rfl rfl rfl rfl rfl) (QAll.cons (QOp.p hT rfl rfl rfl rfl rfl) (QAll.cons (QOp.q rfl rfl (Quiet1.loadP (i := 1) hT rfl rfl rfl rfl rfl rfl) rfl rfl) (QAll.cons (QOp.p hT rfl rfl rfl rfl rfl) (QAll.cons (QOp.p hT rfl rfl rfl rfl rfl) (QAll.cons (QOp.q rfl rfl (Quiet1.loadSP (i := 2) (l := [_, _, _]) hT rfl rfl rfl rfl rfl rfl rfl rfl) rfl rfl) (QAll.cons (QOp.q rfl rfl (Quiet1.loadSP (i := 1) (l := [_, _, _]) hT rfl rfl rfl rfl rfl rfl rfl rfl) rfl rfl) QAll.nil))))))))))) ?_
  refine EAll.cons ?_ EAll.nil
  refine EOp.e rfl rfl rfl (EffX.call (f := 113) (sh := fun h => ratio_den _ h _) (H0 := H) rfl Tryd.call113 rfl (hl := fun w m hr hw => lift_ratio_den _ w m hr _ hw)) ?_
  rintro _ _ ⟨v_2, h0u3, rfl, rfl, H⟩
  apply Stg.next [(28, _)] rfl rfl
  refine Stg.go [0, 1, 2, 3, 4, 5, 6, 7, 16, 19] [20] rfl rfl (QAll.cons (QOp.p hT rfl rfl rfl rfl rfl) (QAll.cons (QOp.p hT rfl rfl rfl rfl rfl) (QAll.cons (QOp.p hT rfl rfl rfl rfl rfl) (QAll.cons (QOp.q rfl rfl (Quiet1.loadP (i := 2) hT rfl rfl rfl rfl rfl rfl) rfl rfl) (QAll.cons (QOp.p hT rfl rfl rfl rfl rfl) (QAll.cons (QOp.p hT rfl rfl rfl rfl rfl) (QAll.cons (QOp.q rfl rfl (Quiet1.loadP (i := 1) hT rfl rfl rfl rfl rfl rfl) rfl rfl) (QAll.cons (QOp.p hT rfl rfl rfl rfl rfl) (QAll.cons (QOp.p hT rfl rfl rfl rfl rfl) (QAll.cons (QOp.q rfl rfl (Quiet1.loadSP (i := 1) (l := [_, _, _]) hT rfl rfl rfl rfl rfl rfl rfl rfl) rfl rfl) QAll.nil)))))))))) ?_
  refine EAll.cons ?_ EAll.nil
  refine EOp.e rfl rfl rfl (EffX.call (f := 113) (sh := fun h => ratio_den _ h _) (H0 := H) rfl Tryd.call113 rfl (hl := fun w m hr hw => lift_ratio_den _ w m hr _ hw)) ?_
  rintro _ _ ⟨v_3, h0u4, rfl, rfl, H⟩
  apply Stg.next [(30, _)] rfl rfl
  refine Stg.go [0, 1, 2, 3, 4, 5, 6, 7, 16] [21] rfl rfl (QAll.cons (QOp.p hT rfl rfl rfl rfl rfl) (QAll.cons (QOp.p hT rfl rfl rfl rfl rfl) (QAll.cons (QOp.p hT rfl rfl rfl rfl rfl) (QAll.cons (QOp.q rfl rfl (Quiet1.loadP (i := 2) hT rfl rfl rfl rfl rfl rfl) rfl rfl) (QAll.cons (QOp.p hT rfl rfl rfl rfl rfl) (QAll.cons (QOp.p hT rfl rfl rfl rfl rfl) (QAll.cons (QOp.q rfl rfl (Quiet1.loadP (i := 1) hT rfl rfl rfl rfl rfl rfl) rfl rfl) (QAll.cons (QOp.p hT rfl rfl rfl rfl rfl) (QAll.cons (QOp.p hT rfl rfl rfl rfl rfl) QAll.nil))))))))) ?_
  refine EAll.cons ?_ EAll.nil
  refine EOp.e rfl rfl rfl (EffX.callF (bs := [_]) (cs := []) (f := 18) (sh := fun h => nat_Bench_Mul _ _ _ h _) (H0 := H) rfl rfl Tryd.call18 rfl (hl := fun w m hr hw => lift_nat_Bench_Mul _ _ _ w m hr _ hw)) ?_
  rintro _ _ ⟨v_4, h0u5, rfl, rfl, H⟩
  apply Stg.next [(31, _)] rfl rfl
  refine Stg.go [0, 1, 2, 3, 4, 5, 6, 7] [22] rfl rfl (QAll.cons (QOp.p hT rfl rfl rfl rfl rfl) (QAll.cons (QOp.p hT rfl rfl rfl rfl rfl) (QAll.cons (QOp.p hT rfl rfl rfl rfl rfl) (QAll.cons (QOp.q rfl rfl (Quiet1.loadP (i := 2) hT rfl rfl rfl rfl rfl rfl) rfl rfl) (QAll.cons (QOp.p hT rfl rfl rfl rfl rfl) (QAll.cons (QOp.p hT rfl rfl rfl rfl rfl) (QAll.cons (QOp.q rfl rfl (Quiet1.loadP (i := 1) hT rfl rfl rfl rfl rfl rfl) rfl rfl) (QAll.cons (QOp.p hT rfl rfl rfl rfl rfl) QAll.nil)))))))) ?_
  refine EAll.cons ?_ EAll.nil
  refine EOp.e rfl rfl rfl (EffX.call (f := 112) (sh := fun h => ratio_form _ _ _ h _) (H0 := H) rfl Tryd.call112 rfl (hl := fun w m hr hw => lift_ratio_form _ _ _ w m hr _ hw)) ?_
  rintro _ _ ⟨v_5, h0u6, rfl, rfl, H⟩
  apply Stg.next [(32, _)] rfl rfl
  refine Stg.go [0] [23] rfl rfl (QAll.cons (QOp.p hT rfl rfl rfl rfl rfl) QAll.nil) ?_
  refine EAll.cons ?_ EAll.nil
  refine EOp.e rfl rfl rfl (EffX.call (f := 111) (sh := fun h => ratio_fit _ _ h _) (H0 := H) rfl Tryd.call111 rfl (hl := fun w m hr hw => lift_ratio_fit _ _ w m hr _ hw)) ?_
  rintro _ _ ⟨v_6, h0u7, rfl, rfl, H⟩
  apply Stg.next [(33, _)] rfl rfl
  refine Stg.go [] [24] rfl rfl QAll.nil ?_
  refine EAll.cons ?_ EAll.nil
  refine EOp.e rfl rfl rfl (EffX.storeSP (i := 0) (qv := [(_, [_, _, _]), (_, [_, _, _]), (_, [_, _, _])]) hT rfl rfl rfl rfl rfl rfl rfl rfl rfl rfl) ?_
  rintro _ _ rfl
  apply Stg.next [] rfl rfl
  refine Stg.fin [] rfl rfl QAll.nil ?_
  refine AtE.then_n (AtE.go ?_)
  refine AtC.ret ?_
  exact AtE.retN (rs := [.cell 6 54]) rfl (ResAll.cons (ResAt.cellSP (i := 0) (l := [_, _, _]) hT rfl rfl rfl rfl rfl rfl rfl) ResAll.nil) rfl H

theorem lift_delta_both__ratio_Mul (b : (Option Addr)) (x0 : Bool × Sl × Sl × Bool × Sl × Sl) (y : Bool × Sl × Sl × Bool × Sl × Sl) (w : World) (m : Heap) (hr : Rel ⟨m, []⟩ w.heap) (S : (Bool × Sl × Sl × Bool × Sl × Sl) → Heap → Prop) (H : delta_both__ratio_Mul b x0 y m S) :
    Calls Tryd.prog 100 #[Value.pointer b, Value.func (.func 82) #[] #[], Value.agg (C_bool_sl_sl_bool_sl_sl x0).toArray, Value.agg (C_bool_sl_sl_bool_sl_sl y).toArray] w (Post ⟨w, m⟩ (fun r => Value.agg (C_bool_sl_sl_bool_sl_sl r).toArray) S) := by
  refine Calls.lift (args := [Value.pointer b, Value.func (.func 82) #[] #[], Value.agg (C_bool_sl_sl_bool_sl_sl x0).toArray, Value.agg (C_bool_sl_sl_bool_sl_sl y).toArray]) Tryd.func100 rfl Tryd.ntmps100 (Nat.le_of_ble_eq_true rfl) hr (delta_both__ratio_Mul b x0 y m S) H (fun H => ?_)
  refine AtC.pick (ts := [0, 1, 2, 3]) rfl ?_
  unfold delta_both__ratio_Mul at H
  refine AtC.seqR ?_
  refine AtL.e rfl (EffX.boxP (cs := [_, _, _, _, _, _]) rfl rfl rfl H) ?_
  rintro _ _ ⟨b_1, _, rfl, rfl, _, H⟩
  refine AtL.e rfl (EffX.boxP (cs := [_, _, _, _, _, _]) rfl rfl rfl H) ?_
  rintro _ _ ⟨b_2, _, rfl, rfl, _, H⟩
  refine AtL.e rfl (EffX.allocP (cs := [_, _, _, _, _, _]) hT rfl rfl H) ?_
  rintro _ _ ⟨b_3, _, rfl, rfl, _, H⟩
  refine AtL.nil ?_
  replace H := H.self
  refine AtE.then_n (AtE.go ?_)
  refine AtC.joinSeq (β := Nat) (fun (t0 : Bool × Sl × Sl × Bool × Sl × Sl) (bb : Nat) => [(9, Value.pointer (some ⟨bb, 0, none⟩))]) (fun (t0 : Bool × Sl × Sl × Bool × Sl × Sl) (bb : Nat) => [(bb, [Value.bool t0.1, Sl.toV t0.2.1, Sl.toV t0.2.2.1, Value.bool t0.2.2.2.1, Sl.toV t0.2.2.2.2.1, Sl.toV t0.2.2.2.2.2])]) [0, 8] [0] H (by exact rfl) (by exact rfl) (fun t0 bb h0u1 H => ?_) (fun J1 H HK1 => ?_)
  ·
   refine AtC.seq ?_
   refine AtC.seqR ?_
   refine AtL.pures hT 1 _ _ _ _ rfl ?_
   refine AtL.e rfl (EffX.call (f := 24) (sh := fun h => nat_Bench_Over _ h _) (H0 := H) rfl Tryd.call24 rfl (hl := fun w m hr hw => lift_nat_Bench_Over _ w m hr _ hw)) ?_
   rintro _ _ ⟨v_5, h0u13, rfl, rfl, H⟩
   refine AtL.nil ?_
   refine AtE.then_n (AtE.go ?_)
   refine AtC.condB H rfl (fun H => ?_) (fun H => ?_)
   ·
    refine AtC.seqR ?_
    refine AtL.q rfl (Quiet1.build (cs := [_, _, _, _, _, _]) hT rfl rfl rfl rfl rfl rfl) ?_
    refine AtL.e rfl (EffX.storeSP (i := 1) (qv := [(_, [_, _, _, _, _, _]), (_, [_, _, _, _, _, _])]) hT rfl rfl rfl rfl rfl rfl rfl rfl rfl rfl) ?_
    rintro _ _ rfl
    refine AtL.nil ?_
    refine AtE.then_n (AtE.go ?_)
    refine AtC.ret ?_
    refine AtE.then_r ?_
    exact AtE.retN (rs := [.cell 8 56]) rfl (ResAll.cons (ResAt.cellSP (i := 1) (l := [_, _, _, _, _, _]) hT rfl rfl rfl rfl rfl rfl rfl) ResAll.nil) rfl H
   ·
    refine AtC.skip ?_
    refine AtE.then_n (AtE.go ?_)
    refine AtC.seqR ?_
    refine AtL.q rfl (Quiet1.loadSP (i := 0) (l := [_, _, _, _, _, _]) hT rfl rfl rfl rfl rfl rfl rfl rfl) ?_
    refine AtL.e rfl (EffX.storeSP (i := 1) (qv := [(_, [_, _, _, _, _, _]), (_, [_, _, _, _, _, _])]) hT rfl rfl rfl rfl rfl rfl rfl rfl rfl rfl) ?_
    rintro _ _ rfl
    refine AtL.nil ?_
    refine AtE.then_n (AtE.go ?_)
    refine AtC.ret ?_
    exact AtE.retN (rs := [.cell 8 56]) rfl (ResAll.cons (ResAt.cellSP (i := 1) (l := [_, _, _, _, _, _]) hT rfl rfl rfl rfl rfl rfl rfl) ResAll.nil) rfl H
  ·
   apply AtC.stages [6, 13, 15, 16] [[], [], [], [], [], [], [], [], [], [], [], [], [], [6], [6, 13], [], [6, 13, 15]] [[], [], [], [2], [], [4], [0, 1, 2, 3, 4, 5], [], [], [], [9], [], [11], [0, 1, 2, 3, 4, 5, 6, 7, 8, 9, 10, 11, 12], [0, 1, 2, 3, 4, 5, 6, 7, 8, 9, 10, 11, 12, 13], [], [0, 1, 2, 3, 4, 5, 6, 7, 8, 9, 10, 11, 12, 13, 14, 15]] hmix (by kernel_rfl) [(10, _), (11, _), (12, _), (13, _), (14, _), (15, _), (17, _), (18, _), (19, _), (20, _), (21, _), (22, _)] rfl 4 rfl
   refine Stg.go [0, 1, 2, 3, 4, 5, 7, 8, 9, 10, 11, 12] [6, 15] rfl rfl (QAll.cons (QOp.p hT rfl rfl rfl rfl rfl) (QAll.cons (QOp.p hT rfl rfl rfl rfl rfl) (QAll.cons (QOp.p hT rfl rfl rfl rfl rfl) (QAll.cons (QOp.q rfl rfl (Quiet1.loadSP (i := 2) (l := [_, _, _]) hT rfl rfl rfl rfl rfl rfl rfl rfl) rfl rfl) (QAll.cons (QOp.p hT rfl rfl rfl rfl rfl) (QAll.cons (QOp.q rfl rfl (Quiet1.loadSP (i := 1) (l := [_, _, _]) hT rfl rfl rfl rfl rfl rfl rfl rfl) rfl rfl) (QAll.cons (QOp.p hT rfl rfl rfl rfl rfl) (QAll.cons (QOp.p hT rfl rfl rfl rfl rfl) (QAll.cons (QOp.p hT rfl rfl rfl rfl rfl) (QAll.cons (QOp.q rfl rfl (Quiet1.loadSP (i := 2) (l := [_, _, _]) hT rfl rfl rfl rfl rfl rfl rfl rfl) rfl rfl) (QAll.cons (QOp.p hT rfl rfl rfl rfl rfl) (QAll.cons (QOp.q rfl rfl (Quiet1.loadSP (i := 1) (l := [_, _, _]) hT rfl rfl rfl rfl rfl rfl rfl rfl) rfl rfl) QAll.nil)))))))))))) ?_
   refine EAll.cons ?_ ?_
   ·
    replace H := H.self
    refine EOp.e rfl rfl rfl (EffX.callF (bs := []) (cs := []) (f := 82) (sh := fun h => ratio_Mul _ _ _ h _) (H0 := H) rfl rfl Tryd.call82 rfl (hl := fun w m hr hw => lift_ratio_Mul _ _ _ w m hr _ hw)) ?_
    rintro _ _ ⟨v, h0u3, rfl, rfl, H⟩
    apply Stg.next [(16, _)] rfl rfl
    refine Stg.go [7, 8, 9, 10, 11, 12] [13, 15] rfl rfl (QAll.cons (QOp.p hT rfl rfl rfl rfl rfl) (QAll.cons (QOp.p hT rfl rfl rfl rfl rfl) (QAll.cons (QOp.p hT rfl rfl rfl rfl rfl) (QAll.cons (QOp.q rfl rfl (Quiet1.loadSP (i := 2) (l := [_, _, _]) hT rfl rfl rfl rfl rfl rfl rfl rfl) rfl rfl) (QAll.cons (QOp.p hT rfl rfl rfl rfl rfl) (QAll.cons (QOp.q rfl rfl (Quiet1.loadSP (i := 1) (l := [_, _, _]) hT rfl rfl rfl rfl rfl rfl rfl rfl) rfl rfl) QAll.nil)))))) ?_
    refine EAll.cons ?_ ?_
    ·
     replace H := H.self
     refine EOp.e rfl rfl rfl (EffX.callF (bs := []) (cs := []) (f := 82) (sh := fun h => ratio_Mul _ _ _ h _) (H0 := H) rfl rfl Tryd.call82 rfl (hl := fun w m hr hw => lift_ratio_Mul _ _ _ w m hr _ hw)) ?_
     rintro _ _ ⟨v_1, h0u5, rfl, rfl, H⟩
     apply Stg.next [(23, _), (24, _)] rfl rfl
     refine Stg.go [14] [15] rfl rfl (QAll.cons (QOp.q rfl rfl (Quiet1.build (cs := [_, _, _, _, _, _]) hT rfl rfl rfl rfl rfl rfl) rfl rfl) QAll.nil) ?_
     refine EAll.cons ?_ EAll.nil
     refine EOp.e rfl rfl rfl (EffX.allocP (cs := [_, _, _, _, _, _]) hT rfl rfl H) ?_
     rintro _ _ ⟨b_4, _, rfl, rfl, he1, H⟩
     apply Stg.next [(9, _)] rfl rfl
     refine Stg.go [14] [16] rfl rfl (QAll.cons (QOp.q rfl rfl (Quiet1.build (cs := [_, _, _, _, _, _]) hT rfl rfl rfl rfl rfl rfl) rfl rfl) QAll.nil) ?_
     refine EAll.cons ?_ EAll.nil
     refine EOp.e rfl rfl rfl (EffX.storeSP (i := 0) (qv := [(_, [_, _, _, _, _, _]), (_, [_, _, _, _, _, _]), (_, [_, _, _, _, _, _]), (_, [_, _, _, _, _, _])]) hT rfl rfl rfl rfl rfl rfl rfl rfl rfl rfl) ?_
     rintro _ _ rfl
     apply Stg.next [] rfl rfl
     refine Stg.fin [] rfl rfl QAll.nil ?_
     replace H := H.self
     exact AtE.then_n ((HK1 _ b_4 _ H).pickP (ts := [9, 0, 8]) (is := [0, 1]) rfl rfl (by decide) rfl)
    refine EAll.cons ?_ EAll.nil
    refine EOp.e rfl rfl rfl (EffX.allocP (cs := [_, _, _, _, _, _]) hT rfl rfl H) ?_
    rintro _ _ ⟨b_5, _, rfl, rfl, he2, H⟩
    apply Stg.next [(9, _)] rfl rfl
    refine Stg.go [7, 8, 9, 10, 11, 12] [13] rfl rfl (QAll.cons (QOp.p hT rfl rfl rfl rfl rfl) (QAll.cons (QOp.p hT rfl rfl rfl rfl rfl) (QAll.cons (QOp.p hT rfl rfl rfl rfl rfl) (QAll.cons (QOp.q rfl rfl (Quiet1.loadSP (i := 3) (l := [_, _, _]) hT rfl rfl rfl rfl rfl rfl rfl rfl) rfl rfl) (QAll.cons (QOp.p hT rfl rfl rfl rfl rfl) (QAll.cons (QOp.q rfl rfl (Quiet1.loadSP (i := 2) (l := [_, _, _]) hT rfl rfl rfl rfl rfl rfl rfl rfl) rfl rfl) QAll.nil)))))) ?_
    refine EAll.cons ?_ EAll.nil
    replace H := H.self
    refine EOp.e rfl rfl rfl (EffX.callF (bs := []) (cs := []) (f := 82) (sh := fun h => ratio_Mul _ _ _ h _) (H0 := H) rfl rfl Tryd.call82 rfl (hl := fun w m hr hw => lift_ratio_Mul _ _ _ w m hr _ hw)) ?_
    rintro _ _ ⟨v_2, h0u7, rfl, rfl, H⟩
    apply Stg.next [(23, _), (24, _)] rfl rfl
    refine Stg.go [14] [16] rfl rfl (QAll.cons (QOp.q rfl rfl (Quiet1.build (cs := [_, _, _, _, _, _]) hT rfl rfl rfl rfl rfl rfl) rfl rfl) QAll.nil) ?_
    refine EAll.cons ?_ EAll.nil
    refine EOp.e rfl rfl rfl (EffX.storeSP (i := 0) (qv := [(_, [_, _, _, _, _, _]), (_, [_, _, _, _, _, _]), (_, [_, _, _, _, _, _]), (_, [_, _, _, _, _, _])]) hT rfl rfl rfl rfl rfl rfl rfl rfl rfl rfl) ?_
    rintro _ _ rfl
    apply Stg.next [] rfl rfl
    refine Stg.fin [] rfl rfl QAll.nil ?_
    replace H := H.self
    exact AtE.then_n ((HK1 _ b_5 _ H).pickP (ts := [9, 0, 8]) (is := [0, 1]) rfl rfl (by decide) rfl)
   refine EAll.cons ?_ EAll.nil
   refine EOp.e rfl rfl rfl (EffX.allocP (cs := [_, _, _, _, _, _]) hT rfl rfl H) ?_
   rintro _ _ ⟨b_6, _, rfl, rfl, he3, H⟩
   apply Stg.next [(9, _)] rfl rfl
   refine Stg.go [0, 1, 2, 3, 4, 5, 7, 8, 9, 10, 11, 12] [6] rfl rfl (QAll.cons (QOp.p hT rfl rfl rfl rfl rfl) (QAll.cons (QOp.p hT rfl rfl rfl rfl rfl) (QAll.cons (QOp.p hT rfl rfl rfl rfl rfl) (QAll.cons (QOp.q rfl rfl (Quiet1.loadSP (i := 3) (l := [_, _, _]) hT rfl rfl rfl rfl rfl rfl rfl rfl) rfl rfl) (QAll.cons (QOp.p hT rfl rfl rfl rfl rfl) (QAll.cons (QOp.q rfl rfl (Quiet1.loadSP (i := 2) (l := [_, _, _]) hT rfl rfl rfl rfl rfl rfl rfl rfl) rfl rfl) (QAll.cons (QOp.p hT rfl rfl rfl rfl rfl) (QAll.cons (QOp.p hT rfl rfl rfl rfl rfl) (QAll.cons (QOp.p hT rfl rfl rfl rfl rfl) (QAll.cons (QOp.q rfl rfl (Quiet1.loadSP (i := 3) (l := [_, _, _]) hT rfl rfl rfl rfl rfl rfl rfl rfl) rfl rfl) (QAll.cons (QOp.p hT rfl rfl rfl rfl rfl) (QAll.cons (QOp.q rfl rfl (Quiet1.loadSP (i := 2) (l := [_, _, _]) hT rfl rfl rfl rfl rfl rfl rfl rfl) rfl rfl) QAll.nil)))))))))))) ?_
   refine EAll.cons ?_ EAll.nil
   replace H := H.self
   refine EOp.e rfl rfl rfl (EffX.callF (bs := []) (cs := []) (f := 82) (sh := fun h => ratio_Mul _ _ _ h _) (H0 := H) rfl rfl Tryd.call82 rfl (hl := fun w m hr hw => lift_ratio_Mul _ _ _ w m hr _ hw)) ?_
   rintro _ _ ⟨v_3, h0u9, rfl, rfl, H⟩
   apply Stg.next [(16, _)] rfl rfl
   refine Stg.go [7, 8, 9, 10, 11, 12] [13] rfl rfl (QAll.cons (QOp.p hT rfl rfl rfl rfl rfl) (QAll.cons (QOp.p hT rfl rfl rfl rfl rfl) (QAll.cons (QOp.p hT rfl rfl rfl rfl rfl) (QAll.cons (QOp.q rfl rfl (Quiet1.loadSP (i := 3) (l := [_, _, _]) hT rfl rfl rfl rfl rfl rfl rfl rfl) rfl rfl) (QAll.cons (QOp.p hT rfl rfl rfl rfl rfl) (QAll.cons (QOp.q rfl rfl (Quiet1.loadSP (i := 2) (l := [_, _, _]) hT rfl rfl rfl rfl rfl rfl rfl rfl) rfl rfl) QAll.nil)))))) ?_
   refine EAll.cons ?_ EAll.nil
   replace H := H.self
   refine EOp.e rfl rfl rfl (EffX.callF (bs := []) (cs := []) (f := 82) (sh := fun h => ratio_Mul _ _ _ h _) (H0 := H) rfl rfl Tryd.call82 rfl (hl := fun w m hr hw => lift_ratio_Mul _ _ _ w m hr _ hw)) ?_
   rintro _ _ ⟨v_4, h0u11, rfl, rfl, H⟩
   apply Stg.next [(23, _), (24, _)] rfl rfl
   refine Stg.go [14] [16] rfl rfl (QAll.cons (QOp.q rfl rfl (Quiet1.build (cs := [_, _, _, _, _, _]) hT rfl rfl rfl rfl rfl rfl) rfl rfl) QAll.nil) ?_
   refine EAll.cons ?_ EAll.nil
   refine EOp.e rfl rfl rfl (EffX.storeSP (i := 0) (qv := [(_, [_, _, _, _, _, _]), (_, [_, _, _, _, _, _]), (_, [_, _, _, _, _, _]), (_, [_, _, _, _, _, _])]) hT rfl rfl rfl rfl rfl rfl rfl rfl rfl rfl) ?_
   rintro _ _ rfl
   apply Stg.next [] rfl rfl
   refine Stg.fin [] rfl rfl QAll.nil ?_
   replace H := H.self
   exact AtE.then_n ((HK1 _ b_6 _ H).pickP (ts := [9, 0, 8]) (is := [0, 1]) rfl rfl (by decide) rfl)

theorem lift_delta_Scale (b : (Option Addr)) (k : Bool × Sl × Sl) (x0 : Bool × Sl × Sl × Bool × Sl × Sl) (w : World) (m : Heap) (hr : Rel ⟨m, []⟩ w.heap) (S : (Bool × Sl × Sl × Bool × Sl × Sl) → Heap → Prop) (H : delta_Scale b k x0 m S) :
    Calls Tryd.prog 48 #[Value.pointer b, Value.agg (C_bool_sl_sl k).toArray, Value.agg (C_bool_sl_sl_bool_sl_sl x0).toArray] w (Post ⟨w, m⟩ (fun r => Value.agg (C_bool_sl_sl_bool_sl_sl r).toArray) S) := by
  refine Calls.lift (args := [Value.pointer b, Value.agg (C_bool_sl_sl k).toArray, Value.agg (C_bool_sl_sl_bool_sl_sl x0).toArray]) Tryd.func48 rfl Tryd.ntmps48 (Nat.le_of_ble_eq_true rfl) hr (delta_Scale b k x0 m S) H (fun H => ?_)
  refine AtC.pick (ts := [0, 1, 2]) rfl ?_
  unfold delta_Scale at H
  refine AtC.seqR ?_
  refine AtL.e rfl (EffX.boxP (cs := [_, _, _]) rfl rfl rfl H) ?_
  rintro _ _ ⟨b_1, _, rfl, rfl, _, H⟩
  refine AtL.e rfl (EffX.boxP (cs := [_, _, _, _, _, _]) rfl rfl rfl H) ?_
  rintro _ _ ⟨b_2, _, rfl, rfl, _, H⟩
  refine AtL.e rfl (EffX.allocP (cs := [_, _, _, _, _, _]) hT rfl rfl H) ?_
  rintro _ _ ⟨b_3, _, rfl, rfl, _, H⟩
  refine AtL.nil ?_
  replace H := H.self
  refine AtE.then_n (AtE.go ?_)
  refine AtC.seqR ?_
  refine AtL.pures hT 1 _ _ _ _ rfl ?_
  refine AtL.q rfl (Quiet1.loadSP (i := 2) (l := [_, _, _]) hT rfl rfl rfl rfl rfl rfl rfl rfl) ?_
  refine AtL.q rfl (Quiet1.loadSP (i := 2) (l := [_, _, _]) hT rfl rfl rfl rfl rfl rfl rfl rfl) ?_
  refine AtL.q rfl (Quiet1.build (cs := [_, _, _, _, _, _]) hT rfl rfl rfl rfl rfl rfl) ?_
  refine AtL.q rfl (Quiet1.loadSP (i := 1) (l := [_, _, _, _, _, _]) hT rfl rfl rfl rfl rfl rfl rfl rfl) ?_
  refine AtL.e rfl (EffX.call (f := 100) (sh := fun h => delta_both__ratio_Mul _ _ _ h _) (H0 := H) rfl Tryd.call100 rfl (hl := fun w m hr hw => lift_delta_both__ratio_Mul _ _ _ w m hr _ hw)) ?_
  rintro _ _ ⟨v, h0u1, rfl, rfl, H⟩
  refine AtL.e rfl (EffX.storeSP (i := 0) (qv := [(_, [_, _, _, _, _, _]), (_, [_, _, _, _, _, _]), (_, [_, _, _])]) hT rfl rfl rfl rfl rfl rfl rfl rfl rfl rfl) ?_
  rintro _ _ rfl
  refine AtL.nil ?_
  refine AtE.then_n (AtE.go ?_)
  refine AtC.ret ?_
  exact AtE.retN (rs := [.cell 6 56]) rfl (ResAll.cons (ResAt.cellSP (i := 0) (l := [_, _, _, _, _, _]) hT rfl rfl rfl rfl rfl rfl rfl) ResAll.nil) rfl H

theorem lift_law03uDeltaTold_c3 (b : (Option Addr)) (c0 : Addr) (c1 : Addr) (w : World) (m : Heap) (hr : Rel ⟨m, []⟩ w.heap) (S : (Bool × Sl × Sl × Bool × Sl × Sl) → Heap → Prop) (H : law03uDeltaTold_c3 b c0 c1 m S) :
    Calls Tryd.prog 47 #[Value.pointer b, Value.pointer (some c0), Value.pointer (some c1)] w (Post ⟨w, m⟩ (fun r => Value.agg (C_bool_sl_sl_bool_sl_sl r).toArray) S) := by
  refine Calls.lift (args := [Value.pointer b, Value.pointer (some c0), Value.pointer (some c1)]) Tryd.func47 rfl Tryd.ntmps47 (Nat.le_of_ble_eq_true rfl) hr (law03uDeltaTold_c3 b c0 c1 m S) H (fun H => ?_)
  refine AtC.pick (ts := [0, 1, 2]) rfl ?_
  unfold law03uDeltaTold_c3 at H
  refine AtC.seqR ?_
  refine AtL.e rfl (EffX.allocP (cs := [_, _, _, _, _, _]) hT rfl rfl H) ?_
  rintro _ _ ⟨b_1, _, rfl, rfl, _, H⟩
  refine AtL.nil ?_
  replace H := H.self
  refine AtE.then_n (AtE.go ?_)
  refine AtC.seqR ?_
  refine AtL.pures hT 1 _ _ _ _ rfl ?_
  obtain ⟨v, hc0, H⟩ := H
  refine AtL.q rfl (Quiet1.loadS hT rfl rfl rfl rfl hc0) ?_
  obtain ⟨v_1, hc1, H⟩ := H
  refine AtL.q rfl (Quiet1.loadS hT rfl rfl rfl rfl hc1) ?_
  refine AtL.e rfl (EffX.call (f := 48) (sh := fun h => delta_Scale _ _ _ h _) (H0 := H) rfl Tryd.call48 rfl (hl := fun w m hr hw => lift_delta_Scale _ _ _ w m hr _ hw)) ?_
  rintro _ _ ⟨v_2, h0u1, rfl, rfl, H⟩
  refine AtL.e rfl (EffX.storeSP (i := 0) (qv := [(_, [_, _, _, _, _, _])]) hT rfl rfl rfl rfl rfl rfl rfl rfl rfl rfl) ?_
  rintro _ _ rfl
  refine AtL.nil ?_
  refine AtE.then_n (AtE.go ?_)
  refine AtC.ret ?_
  exact AtE.retN (rs := [.cell 4 56]) rfl (ResAll.cons (ResAt.cellSP (i := 0) (l := [_, _, _, _, _, _]) hT rfl rfl rfl rfl rfl rfl rfl) ResAll.nil) rfl H

theorem lift_ref02uMul (x0 : Bool × Sl × Sl) (y : Bool × Sl × Sl) (w : World) (m : Heap) (hr : Rel ⟨m, []⟩ w.heap) (S : (Bool × Sl × Sl) → Heap → Prop) (H : ref02uMul x0 y m S) :
    Calls Tryd.prog 103 #[Value.agg (C_bool_sl_sl x0).toArray, Value.agg (C_bool_sl_sl y).toArray] w (Post ⟨w, m⟩ (fun r => Value.agg (C_bool_sl_sl r).toArray) S) := by
  refine Calls.lift (args := [Value.agg (C_bool_sl_sl x0).toArray, Value.agg (C_bool_sl_sl y).toArray]) Tryd.func103 rfl Tryd.ntmps103 (Nat.le_of_ble_eq_true rfl) hr (ref02uMul x0 y m S) H (fun H => ?_)
  refine AtC.pick (ts := [0, 1]) rfl ?_
  unfold ref02uMul at H
  refine AtC.seqR ?_
  refine AtL.e rfl (EffX.boxP (cs := [_, _, _]) rfl rfl rfl H) ?_
  rintro _ _ ⟨b, _, rfl, rfl, _, H⟩
  refine AtL.e rfl (EffX.boxP (cs := [_, _, _]) rfl rfl rfl H) ?_
  rintro _ _ ⟨b_1, _, rfl, rfl, _, H⟩
  refine AtL.e rfl (EffX.allocP (cs := [_, _, _]) hT rfl rfl H) ?_
  rintro _ _ ⟨b_2, _, rfl, rfl, _, H⟩
  refine AtL.nil ?_
  replace H := H.self
  refine AtE.then_n (AtE.go ?_)
  apply AtC.seqS [9, 14, 16, 17] [[], [], [], [], [], [], [], [], [], [], [], [], [], [], [9], [9, 14], [9, 14], [9, 14, 16]] [[], [0], [], [2], [0, 1, 2, 3], [], [5], [], [7], [5, 6, 7, 8], [], [10], [], [12], [5, 6, 7, 8, 9, 10, 11, 12, 13], [0, 1, 2, 3, 4, 5, 6, 7, 8, 9, 10, 11, 12, 13, 14], [0, 1, 2, 3, 4, 5, 6, 7, 8, 9, 10, 11, 12, 13, 14, 15], [0, 1, 2, 3, 4, 5, 6, 7, 8, 9, 10, 11, 12, 13, 14, 15, 16]] hmix (by kernel_rfl) [(5, _), (6, _), (7, _), (8, _), (9, _), (10, _), (11, _), (12, _), (13, _), (15, _), (16, _), (17, _), (18, _)] rfl 4 rfl
  refine Stg.go [0, 1, 2, 3, 4, 5, 6, 7, 8, 10, 11, 12, 13] [9] rfl rfl (QAll.cons (QOp.p hT rfl rfl rfl rfl rfl) (QAll.cons (QOp.q rfl rfl (Quiet1.loadP (i := 2) hT rfl rfl rfl rfl rfl rfl) rfl rfl) (QAll.cons (QOp.p hT rfl rfl rfl rfl rfl) (QAll.cons (QOp.q rfl rfl (Quiet1.loadP (i := 1) hT rfl rfl rfl rfl rfl rfl) rfl rfl) (QAll.cons (QOp.p hT rfl rfl rfl rfl rfl) (QAll.cons (QOp.p hT rfl rfl rfl rfl rfl) (QAll.cons (QOp.q rfl rfl (Quiet1.loadP (i := 2) hT rfl rfl rfl rfl rfl rfl) rfl rfl) (QAll.cons (QOp.p hT rfl rfl rfl rfl rfl) (QAll.cons (QOp.q rfl rfl (Quiet1.loadP (i := 1) hT rfl rfl rfl rfl rfl rfl) rfl rfl) (QAll.cons (QOp.p hT rfl rfl rfl rfl rfl) (QAll.cons (QOp.q rfl rfl (Quiet1.loadP (i := 2) hT rfl rfl rfl rfl rfl rfl) rfl rfl) (QAll.cons (QOp.p hT rfl rfl rfl rfl rfl) (QAll.cons (QOp.q rfl rfl (Quiet1.loadP (i := 1) hT rfl rfl rfl rfl rfl rfl) rfl rfl) QAll.nil))))))))))))) ?_
  refine EAll.cons ?_ EAll.nil
  refine EOp.e rfl rfl rfl (EffX.call (f := 29) (sh := fun h => ref01uMul _ _ h _) (H0 := H) rfl Tryd.call29 rfl (hl := fun w m hr hw => lift_ref01uMul _ _ w m hr _ hw)) ?_
  rintro _ _ ⟨v, h0u1, rfl, rfl, H⟩
  apply Stg.next [(14, _)] rfl rfl
  refine Stg.go [0, 1, 2, 3, 4, 10, 11, 12, 13] [14] rfl rfl (QAll.cons (QOp.p hT rfl rfl rfl rfl rfl) (QAll.cons (QOp.q rfl rfl (Quiet1.loadP (i := 2) hT rfl rfl rfl rfl rfl rfl) rfl rfl) (QAll.cons (QOp.p hT rfl rfl rfl rfl rfl) (QAll.cons (QOp.q rfl rfl (Quiet1.loadP (i := 1) hT rfl rfl rfl rfl rfl rfl) rfl rfl) (QAll.cons (QOp.p hT rfl rfl rfl rfl rfl) (QAll.cons (QOp.p hT rfl rfl rfl rfl rfl) (QAll.cons (QOp.q rfl rfl (Quiet1.loadP (i := 2) hT rfl rfl rfl rfl rfl rfl) rfl rfl) (QAll.cons (QOp.p hT rfl rfl rfl rfl rfl) (QAll.cons (QOp.q rfl rfl (Quiet1.loadP (i := 1) hT rfl rfl rfl rfl rfl rfl) rfl rfl) QAll.nil))))))))) ?_
  refine EAll.cons ?_ EAll.nil
  refine EOp.e rfl rfl rfl (EffX.call (f := 29) (sh := fun h => ref01uMul _ _ h _) (H0 := H) rfl Tryd.call29 rfl (hl := fun w m hr hw => lift_ref01uMul _ _ w m hr _ hw)) ?_
  rintro _ _ ⟨v_1, h0u2, rfl, rfl, H⟩
  apply Stg.next [(19, _), (20, _)] rfl rfl
  refine Stg.go [0, 1, 2, 3, 4, 15] [16] rfl rfl (QAll.cons (QOp.p hT rfl rfl rfl rfl rfl) (QAll.cons (QOp.q rfl rfl (Quiet1.loadP (i := 2) hT rfl rfl rfl rfl rfl rfl) rfl rfl) (QAll.cons (QOp.p hT rfl rfl rfl rfl rfl) (QAll.cons (QOp.q rfl rfl (Quiet1.loadP (i := 1) hT rfl rfl rfl rfl rfl rfl) rfl rfl) (QAll.cons (QOp.p hT rfl rfl rfl rfl rfl) (QAll.cons (QOp.q rfl rfl (Quiet1.build (cs := [_, _, _]) hT rfl rfl rfl rfl rfl rfl) rfl rfl) QAll.nil)))))) ?_
  refine EAll.cons ?_ EAll.nil
  refine EOp.e rfl rfl rfl (EffX.call (f := 79) (sh := fun h => ref02uLow _ h _) (H0 := H) rfl Tryd.call79 rfl (hl := fun w m hr hw => lift_ref02uLow _ w m hr _ hw)) ?_
  rintro _ _ ⟨v_2, h0u3, rfl, rfl, H⟩
  apply Stg.next [(21, _)] rfl rfl
  refine Stg.go [] [17] rfl rfl QAll.nil ?_
  refine EAll.cons ?_ EAll.nil
  refine EOp.e rfl rfl rfl (EffX.storeSP (i := 0) (qv := [(_, [_, _, _]), (_, [_, _, _]), (_, [_, _, _])]) hT rfl rfl rfl rfl rfl rfl rfl rfl rfl rfl) ?_
  rintro _ _ rfl
  apply Stg.next [] rfl rfl
  refine Stg.fin [] rfl rfl QAll.nil ?_
  refine AtE.then_n (AtE.go ?_)
  refine AtC.ret ?_
  exact AtE.retN (rs := [.cell 4 59]) rfl (ResAll.cons (ResAt.cellSP (i := 0) (l := [_, _, _]) hT rfl rfl rfl rfl rfl rfl rfl) ResAll.nil) rfl H

theorem lift_ref03uScale (k : Bool × Sl × Sl) (x0 : Bool × Sl × Sl × Bool × Sl × Sl) (w : World) (m : Heap) (hr : Rel ⟨m, []⟩ w.heap) (S : (Bool × Sl × Sl × Bool × Sl × Sl) → Heap → Prop) (H : ref03uScale k x0 m S) :
    Calls Tryd.prog 49 #[Value.agg (C_bool_sl_sl k).toArray, Value.agg (C_bool_sl_sl_bool_sl_sl x0).toArray] w (Post ⟨w, m⟩ (fun r => Value.agg (C_bool_sl_sl_bool_sl_sl r).toArray) S) := by
  refine Calls.lift (args := [Value.agg (C_bool_sl_sl k).toArray, Value.agg (C_bool_sl_sl_bool_sl_sl x0).toArray]) Tryd.func49 rfl Tryd.ntmps49 (Nat.le_of_ble_eq_true rfl) hr (ref03uScale k x0 m S) H (fun H => ?_)
  refine AtC.pick (ts := [0, 1]) rfl ?_
  unfold ref03uScale at H
  refine AtC.seqR ?_
  refine AtL.e rfl (EffX.boxP (cs := [_, _, _]) rfl rfl rfl H) ?_
  rintro _ _ ⟨b, _, rfl, rfl, _, H⟩
  refine AtL.e rfl (EffX.boxP (cs := [_, _, _, _, _, _]) rfl rfl rfl H) ?_
  rintro _ _ ⟨b_1, _, rfl, rfl, _, H⟩
  refine AtL.e rfl (EffX.allocP (cs := [_, _, _, _, _, _]) hT rfl rfl H) ?_
  rintro _ _ ⟨b_2, _, rfl, rfl, _, H⟩
  refine AtL.nil ?_
  replace H := H.self
  refine AtE.then_n (AtE.go ?_)
  apply AtC.seqS [3, 7, 9] [[], [], [], [], [], [], [], [3], [3, 7], [3, 7]] [[], [], [1], [0, 1, 2], [], [], [5], [0, 1, 2, 3, 4, 5, 6], [0, 1, 2, 3, 4, 5, 6, 7], [0, 1, 2, 3, 4, 5, 6, 7, 8]] hmix (by kernel_rfl) [(5, _), (6, _), (7, _), (9, _), (10, _), (11, _)] rfl 3 rfl
  refine Stg.go [0, 1, 2, 4, 5, 6] [3] rfl rfl (QAll.cons (QOp.q rfl rfl (Quiet1.loadSP (i := 2) (l := [_, _, _]) hT rfl rfl rfl rfl rfl rfl rfl rfl) rfl rfl) (QAll.cons (QOp.p hT rfl rfl rfl rfl rfl) (QAll.cons (QOp.q rfl rfl (Quiet1.loadSP (i := 1) (l := [_, _, _]) hT rfl rfl rfl rfl rfl rfl rfl rfl) rfl rfl) (QAll.cons (QOp.q rfl rfl (Quiet1.loadSP (i := 2) (l := [_, _, _]) hT rfl rfl rfl rfl rfl rfl rfl rfl) rfl rfl) (QAll.cons (QOp.p hT rfl rfl rfl rfl rfl) (QAll.cons (QOp.q rfl rfl (Quiet1.loadSP (i := 1) (l := [_, _, _]) hT rfl rfl rfl rfl rfl rfl rfl rfl) rfl rfl) QAll.nil)))))) ?_
  refine EAll.cons ?_ EAll.nil
  refine EOp.e rfl rfl rfl (EffX.call (f := 103) (sh := fun h => ref02uMul _ _ h _) (H0 := H) rfl Tryd.call103 rfl (hl := fun w m hr hw => lift_ref02uMul _ _ w m hr _ hw)) ?_
  rintro _ _ ⟨v, h0u1, rfl, rfl, H⟩
  apply Stg.next [(8, _)] rfl rfl
  refine Stg.go [4, 5, 6] [7] rfl rfl (QAll.cons (QOp.q rfl rfl (Quiet1.loadSP (i := 2) (l := [_, _, _]) hT rfl rfl rfl rfl rfl rfl rfl rfl) rfl rfl) (QAll.cons (QOp.p hT rfl rfl rfl rfl rfl) (QAll.cons (QOp.q rfl rfl (Quiet1.loadSP (i := 1) (l := [_, _, _]) hT rfl rfl rfl rfl rfl rfl rfl rfl) rfl rfl) QAll.nil))) ?_
  refine EAll.cons ?_ EAll.nil
  refine EOp.e rfl rfl rfl (EffX.call (f := 103) (sh := fun h => ref02uMul _ _ h _) (H0 := H) rfl Tryd.call103 rfl (hl := fun w m hr hw => lift_ref02uMul _ _ w m hr _ hw)) ?_
  rintro _ _ ⟨v_1, h0u2, rfl, rfl, H⟩
  apply Stg.next [(12, _), (13, _)] rfl rfl
  refine Stg.go [8] [9] rfl rfl (QAll.cons (QOp.q rfl rfl (Quiet1.build (cs := [_, _, _, _, _, _]) hT rfl rfl rfl rfl rfl rfl) rfl rfl) QAll.nil) ?_
  refine EAll.cons ?_ EAll.nil
  refine EOp.e rfl rfl rfl (EffX.storeSP (i := 0) (qv := [(_, [_, _, _, _, _, _]), (_, [_, _, _, _, _, _]), (_, [_, _, _])]) hT rfl rfl rfl rfl rfl rfl rfl rfl rfl rfl) ?_
  rintro _ _ rfl
  apply Stg.next [] rfl rfl
  refine Stg.fin [] rfl rfl QAll.nil ?_
  refine AtE.then_n (AtE.go ?_)
  refine AtC.ret ?_
  exact AtE.retN (rs := [.cell 4 61]) rfl (ResAll.cons (ResAt.cellSP (i := 0) (l := [_, _, _, _, _, _]) hT rfl rfl rfl rfl rfl rfl rfl) ResAll.nil) rfl H

theorem lift_ref02uCmp (x0 : Bool × Sl × Sl) (y : Bool × Sl × Sl) (w : World) (m : Heap) (hr : Rel ⟨m, []⟩ w.heap) (S : Int → Heap → Prop) (H : ref02uCmp x0 y m S) :
    Calls Tryd.prog 67 #[Value.agg (C_bool_sl_sl x0).toArray, Value.agg (C_bool_sl_sl y).toArray] w (Post ⟨w, m⟩ (Value.int .i64) S) := by
  refine Calls.lift (args := [Value.agg (C_bool_sl_sl x0).toArray, Value.agg (C_bool_sl_sl y).toArray]) Tryd.func67 rfl Tryd.ntmps67 (Nat.le_of_ble_eq_true rfl) hr (ref02uCmp x0 y m S) H (fun H => ?_)
  refine AtC.pick (ts := [0, 1]) rfl ?_
  unfold ref02uCmp at H
  refine AtC.seqR ?_
  refine AtL.e rfl (EffX.boxP (cs := [_, _, _]) rfl rfl rfl H) ?_
  rintro _ _ ⟨b, _, rfl, rfl, _, H⟩
  refine AtL.e rfl (EffX.boxP (cs := [_, _, _]) rfl rfl rfl H) ?_
  rintro _ _ ⟨b_1, _, rfl, rfl, _, H⟩
  replace H := H.self
  refine AtL.pures hT 1 _ _ _ _ rfl ?_
  refine AtL.nil ?_
  refine AtE.then_n (AtE.go ?_)
  refine AtC.joinSeq (β := Nat) (fun (t0 : Bool × Sl × Sl) (bb : Nat) => [(5, Value.pointer (some ⟨bb, 0, none⟩))]) (fun (t0 : Bool × Sl × Sl) (bb : Nat) => [(bb, [Value.bool t0.1, Sl.toV t0.2.1, Sl.toV t0.2.2])]) [] [] H (by exact rfl) (by exact rfl) (fun t0 bb h0u1 H => ?_) (fun J1 H HK1 => ?_)
  ·
   refine AtC.seq ?_
   refine AtC.seqR ?_
   refine AtL.pures hT 1 _ _ _ _ rfl ?_
   refine AtL.q rfl (Quiet1.loadP (i := 0) hT rfl rfl rfl rfl rfl rfl) ?_
   refine AtL.pures hT 2 _ _ _ _ rfl ?_
   refine AtL.nil ?_
   refine AtE.then_n (AtE.go ?_)
   refine AtC.condB H rfl (fun H => ?_) (fun H => ?_)
   ·
    refine AtC.seqR ?_
    refine AtL.pures hT 1 _ _ _ _ rfl ?_
    refine AtL.nil ?_
    refine AtE.then_n (AtE.go ?_)
    refine AtC.ret ?_
    refine AtE.then_r ?_
    exact AtE.retN (rs := [.tmp 4]) rfl (ResAll.cons (ResAt.tmp rfl) ResAll.nil) rfl H
   ·
    refine AtC.skip ?_
    refine AtE.then_n (AtE.go ?_)
    refine AtC.seq ?_
    refine AtC.seqR ?_
    refine AtL.pures hT 1 _ _ _ _ rfl ?_
    refine AtL.q rfl (Quiet1.loadP (i := 0) hT rfl rfl rfl rfl rfl rfl) ?_
    refine AtL.nil ?_
    refine AtE.then_n (AtE.go ?_)
    refine AtC.condB H rfl (fun H => ?_) (fun H => ?_)
    ·
     refine AtC.seqR ?_
     refine AtL.pures hT 1 _ _ _ _ rfl ?_
     refine AtL.nil ?_
     refine AtE.then_n (AtE.go ?_)
     refine AtC.ret ?_
     refine AtE.then_r ?_
     exact AtE.retN (rs := [.tmp 4]) rfl (ResAll.cons (ResAt.tmp rfl) ResAll.nil) rfl H
    ·
     refine AtC.skip ?_
     refine AtE.then_n (AtE.go ?_)
     refine AtC.seqR ?_
     refine AtL.pures hT 1 _ _ _ _ rfl ?_
     refine AtL.nil ?_
     refine AtE.then_n (AtE.go ?_)
     refine AtC.ret ?_
     exact AtE.retN (rs := [.tmp 4]) rfl (ResAll.cons (ResAt.tmp rfl) ResAll.nil) rfl H
  ·
   apply AtC.stages [2, 3, 4, 5] [[], [], [], [2], [], [2, 3, 4]] [[], [], [1], [0, 1, 2], [], [0, 1, 2, 3, 4]] hmix (by kernel_rfl) [(6, _), (7, _)] rfl 4 rfl
   refine Stg.go [0, 1] [2, 4] rfl rfl (QAll.cons (QOp.q rfl rfl (Quiet1.loadSP (i := 1) (l := [_, _, _]) hT rfl rfl rfl rfl rfl rfl rfl rfl) rfl rfl) (QAll.cons (QOp.q rfl rfl (Quiet1.loadSP (i := 0) (l := [_, _, _]) hT rfl rfl rfl rfl rfl rfl rfl rfl) rfl rfl) QAll.nil)) ?_
   refine EAll.cons ?_ ?_
   ·
    replace H := H.self
    refine EOp.e rfl rfl rfl (EffX.call (f := 102) (sh := fun h => ref02uNeg _ h _) (H0 := H) rfl Tryd.call102 rfl (hl := fun w m hr hw => lift_ref02uNeg _ w m hr _ hw)) ?_
    rintro _ _ ⟨v, h0u3, rfl, rfl, H⟩
    apply Stg.next [(8, _)] rfl rfl
    refine Stg.go [0] [3, 4] rfl rfl (QAll.cons (QOp.q rfl rfl (Quiet1.loadSP (i := 1) (l := [_, _, _]) hT rfl rfl rfl rfl rfl rfl rfl rfl) rfl rfl) QAll.nil) ?_
    refine EAll.cons ?_ ?_
    ·
     replace H := H.self
     refine EOp.e rfl rfl rfl (EffX.call (f := 101) (sh := fun h => ref02uAdd _ _ h _) (H0 := H) rfl Tryd.call101 rfl (hl := fun w m hr hw => lift_ref02uAdd _ _ w m hr _ hw)) ?_
     rintro _ _ ⟨v_1, h0u5, rfl, rfl, H⟩
     apply Stg.next [(9, _)] rfl rfl
     refine Stg.go [] [4] rfl rfl QAll.nil ?_
     refine EAll.cons ?_ EAll.nil
     refine EOp.e rfl rfl rfl (EffX.allocP (cs := [_, _, _]) hT rfl rfl H) ?_
     rintro _ _ ⟨b_2, _, rfl, rfl, he1, H⟩
     apply Stg.next [(5, _)] rfl rfl
     refine Stg.go [] [5] rfl rfl QAll.nil ?_
     refine EAll.cons ?_ EAll.nil
     refine EOp.e rfl rfl rfl (EffX.storeSP (i := 0) (qv := [(_, [_, _, _]), (_, [_, _, _]), (_, [_, _, _])]) hT rfl rfl rfl rfl rfl rfl rfl rfl rfl rfl) ?_
     rintro _ _ rfl
     apply Stg.next [] rfl rfl
     refine Stg.fin [] rfl rfl QAll.nil ?_
     replace H := H.self
     exact AtE.then_n ((HK1 _ b_2 _ H).pickP (ts := [5]) (is := [0]) rfl rfl (by decide) rfl)
    refine EAll.cons ?_ EAll.nil
    refine EOp.e rfl rfl rfl (EffX.allocP (cs := [_, _, _]) hT rfl rfl H) ?_
    rintro _ _ ⟨b_3, _, rfl, rfl, he2, H⟩
    apply Stg.next [(5, _)] rfl rfl
    refine Stg.go [0] [3] rfl rfl (QAll.cons (QOp.q rfl rfl (Quiet1.loadSP (i := 2) (l := [_, _, _]) hT rfl rfl rfl rfl rfl rfl rfl rfl) rfl rfl) QAll.nil) ?_
    refine EAll.cons ?_ EAll.nil
    replace H := H.self
    refine EOp.e rfl rfl rfl (EffX.call (f := 101) (sh := fun h => ref02uAdd _ _ h _) (H0 := H) rfl Tryd.call101 rfl (hl := fun w m hr hw => lift_ref02uAdd _ _ w m hr _ hw)) ?_
    rintro _ _ ⟨v_2, h0u7, rfl, rfl, H⟩
    apply Stg.next [(9, _)] rfl rfl
    refine Stg.go [] [5] rfl rfl QAll.nil ?_
    refine EAll.cons ?_ EAll.nil
    refine EOp.e rfl rfl rfl (EffX.storeSP (i := 0) (qv := [(_, [_, _, _]), (_, [_, _, _]), (_, [_, _, _])]) hT rfl rfl rfl rfl rfl rfl rfl rfl rfl rfl) ?_
    rintro _ _ rfl
    apply Stg.next [] rfl rfl
    refine Stg.fin [] rfl rfl QAll.nil ?_
    replace H := H.self
    exact AtE.then_n ((HK1 _ b_3 _ H).pickP (ts := [5]) (is := [0]) rfl rfl (by decide) rfl)
   refine EAll.cons ?_ EAll.nil
   refine EOp.e rfl rfl rfl (EffX.allocP (cs := [_, _, _]) hT rfl rfl H) ?_
   rintro _ _ ⟨b_4, _, rfl, rfl, he3, H⟩
   apply Stg.next [(5, _)] rfl rfl
   refine Stg.go [0, 1] [2] rfl rfl (QAll.cons (QOp.q rfl rfl (Quiet1.loadSP (i := 2) (l := [_, _, _]) hT rfl rfl rfl rfl rfl rfl rfl rfl) rfl rfl) (QAll.cons (QOp.q rfl rfl (Quiet1.loadSP (i := 1) (l := [_, _, _]) hT rfl rfl rfl rfl rfl rfl rfl rfl) rfl rfl) QAll.nil)) ?_
   refine EAll.cons ?_ EAll.nil
   replace H := H.self
   refine EOp.e rfl rfl rfl (EffX.call (f := 102) (sh := fun h => ref02uNeg _ h _) (H0 := H) rfl Tryd.call102 rfl (hl := fun w m hr hw => lift_ref02uNeg _ w m hr _ hw)) ?_
   rintro _ _ ⟨v_3, h0u9, rfl, rfl, H⟩
   apply Stg.next [(8, _)] rfl rfl
   refine Stg.go [0] [3] rfl rfl (QAll.cons (QOp.q rfl rfl (Quiet1.loadSP (i := 2) (l := [_, _, _]) hT rfl rfl rfl rfl rfl rfl rfl rfl) rfl rfl) QAll.nil) ?_
   refine EAll.cons ?_ EAll.nil
   replace H := H.self
   refine EOp.e rfl rfl rfl (EffX.call (f := 101) (sh := fun h => ref02uAdd _ _ h _) (H0 := H) rfl Tryd.call101 rfl (hl := fun w m hr hw => lift_ref02uAdd _ _ w m hr _ hw)) ?_
   rintro _ _ ⟨v_4, h0u11, rfl, rfl, H⟩
   apply Stg.next [(9, _)] rfl rfl
   refine Stg.go [] [5] rfl rfl QAll.nil ?_
   refine EAll.cons ?_ EAll.nil
   refine EOp.e rfl rfl rfl (EffX.storeSP (i := 0) (qv := [(_, [_, _, _]), (_, [_, _, _]), (_, [_, _, _])]) hT rfl rfl rfl rfl rfl rfl rfl rfl rfl rfl) ?_
   rintro _ _ rfl
   apply Stg.next [] rfl rfl
   refine Stg.fin [] rfl rfl QAll.nil ?_
   replace H := H.self
   exact AtE.then_n ((HK1 _ b_4 _ H).pickP (ts := [5]) (is := [0]) rfl rfl (by decide) rfl)

theorem lift_ref03uCmp (x0 : Bool × Sl × Sl × Bool × Sl × Sl) (y : Bool × Sl × Sl × Bool × Sl × Sl) (w : World) (m : Heap) (hr : Rel ⟨m, []⟩ w.heap) (S : Int → Heap → Prop) (H : ref03uCmp x0 y m S) :
    Calls Tryd.prog 52 #[Value.agg (C_bool_sl_sl_bool_sl_sl x0).toArray, Value.agg (C_bool_sl_sl_bool_sl_sl y).toArray] w (Post ⟨w, m⟩ (Value.int .i64) S) := by
  refine Calls.lift (args := [Value.agg (C_bool_sl_sl_bool_sl_sl x0).toArray, Value.agg (C_bool_sl_sl_bool_sl_sl y).toArray]) Tryd.func52 rfl Tryd.ntmps52 (Nat.le_of_ble_eq_true rfl) hr (ref03uCmp x0 y m S) H (fun H => ?_)
  refine AtC.pick (ts := [0, 1]) rfl ?_
  unfold ref03uCmp at H
  refine AtC.seqR ?_
  refine AtL.e rfl (EffX.boxP (cs := [_, _, _, _, _, _]) rfl rfl rfl H) ?_
  rintro _ _ ⟨b, _, rfl, rfl, _, H⟩
  refine AtL.e rfl (EffX.boxP (cs := [_, _, _, _, _, _]) rfl rfl rfl H) ?_
  rintro _ _ ⟨b_1, _, rfl, rfl, _, H⟩
  replace H := H.self
  refine AtL.pures hT 1 _ _ _ _ rfl ?_
  refine AtL.nil ?_
  refine AtE.then_n (AtE.go ?_)
  refine AtC.seqR ?_
  refine AtL.pures hT 1 _ _ _ _ rfl ?_
  refine AtL.q rfl (Quiet1.loadSP (i := 1) (l := [_, _, _]) hT rfl rfl rfl rfl rfl rfl rfl rfl) ?_
  refine AtL.pures hT 1 _ _ _ _ rfl ?_
  refine AtL.q rfl (Quiet1.loadSP (i := 0) (l := [_, _, _]) hT rfl rfl rfl rfl rfl rfl rfl rfl) ?_
  refine AtL.e rfl (EffX.call (f := 67) (sh := fun h => ref02uCmp _ _ h _) (H0 := H) rfl Tryd.call67 rfl (hl := fun w m hr hw => lift_ref02uCmp _ _ w m hr _ hw)) ?_
  rintro _ _ ⟨v, h0u1, rfl, rfl, H⟩
  refine AtL.pures hT 1 _ _ _ _ rfl ?_
  refine AtL.nil ?_
  refine AtE.then_n (AtE.go ?_)
  refine AtC.joinSeq (β := Unit) (fun (t0 : Int) (bb : Unit) => [(5, Value.int .i64 t0)]) (fun (t0 : Int) (bb : Unit) => []) [] [] H (by exact rfl) (by exact rfl) (fun t0 bb h0u2 H => ?_) (fun J1 H HK1 => ?_)
  ·
   refine AtC.seqR ?_
   refine AtL.pures hT 2 _ _ _ _ rfl ?_
   refine AtL.nil ?_
   refine AtE.then_n (AtE.go ?_)
   refine AtC.ret ?_
   exact AtE.retN (rs := [.tmp 4]) rfl (ResAll.cons (ResAt.tmp rfl) ResAll.nil) rfl H
  ·
   refine AtC.seqR ?_
   refine AtL.pures hT 2 _ _ _ _ rfl ?_
   refine AtL.nil ?_
   refine AtE.then_n (AtE.go ?_)
   refine AtC.condB H rfl (fun H => ?_) (fun H => ?_)
   ·
    refine AtC.region ?_
    refine AtL.pures hT 1 _ _ _ _ rfl ?_
    refine AtL.q rfl (Quiet1.loadSP (i := 1) (l := [_, _, _]) hT rfl rfl rfl rfl rfl rfl rfl rfl) ?_
    refine AtL.pures hT 1 _ _ _ _ rfl ?_
    refine AtL.q rfl (Quiet1.loadSP (i := 0) (l := [_, _, _]) hT rfl rfl rfl rfl rfl rfl rfl rfl) ?_
    refine AtL.e rfl (EffX.call (f := 67) (sh := fun h => ref02uCmp _ _ h _) (H0 := H) rfl Tryd.call67 rfl (hl := fun w m hr hw => lift_ref02uCmp _ _ w m hr _ hw)) ?_
    rintro _ _ ⟨v_1, h0u3, rfl, rfl, H⟩
    refine AtL.pures hT 1 _ _ _ _ rfl ?_
    refine AtL.nil ?_
    exact AtE.then_n ((HK1 _ () _ H).pickP (ts := [5]) (is := []) rfl rfl (by decide) rfl)
   ·
    refine AtC.skip ?_
    exact AtE.then_n ((HK1 _ () _ H).pickP (ts := [5]) (is := []) rfl rfl (by decide) rfl)

theorem lift_ref01uText (x0 : Sl) (w : World) (m : Heap) (hr : Rel ⟨m, []⟩ w.heap) (S : ByteArray → Heap → Prop) (H : ref01uText x0 m S) :
    Calls Tryd.prog 35 #[Sl.toV x0] w (Post ⟨w, m⟩ Value.string S) := by
  refine Calls.lift (args := [Sl.toV x0]) Tryd.func35 rfl Tryd.ntmps35 (Nat.le_of_ble_eq_true rfl) hr (ref01uText x0 m S) H (fun H => ?_)
  refine AtC.pick (ts := [0]) rfl ?_
  unfold ref01uText at H
  refine AtC.seqR ?_
  refine AtL.pures hT 1 _ _ _ _ rfl ?_
  refine AtL.nil ?_
  refine AtE.then_n (AtE.go ?_)
  refine AtC.seqR ?_
  refine AtLX.bs (hT := hT) (cs := []) H rfl rfl rfl rfl rfl rfl rfl rfl rfl (fun a h0 H => ?_)
  refine AtL.pures hT 1 _ _ _ _ rfl ?_
  replace H := H _ rfl
  refine AtL.nil ?_
  refine AtE.then_n (AtE.go ?_)
  refine AtC.seq ?_
  refine AtC.seqR ?_
  refine AtL.pures hT 4 _ _ _ _ rfl ?_
  replace H := H _ rfl
  refine AtL.nil ?_
  refine AtE.then_n (AtE.go ?_)
  refine AtC.block ?_
  refine AtC.loopM (fun (s0 : Sl × Int) => [(3, Sl.toV s0.1), (4, Value.int .i64 s0.2)]) (fun (s0 : Sl × Int) => []) [0] [3, 4, 0] [] [] H (by exact rfl) (by exact rfl) (by exact rfl) (by decide) (by exact rfl) (fun Kp1 s0 h0u1 H Q1 HK1 => ?_)
  refine AtC.seq ?_
  refine AtC.seqR ?_
  refine AtL.pures hT 2 _ _ _ _ rfl ?_
  refine AtL.nil ?_
  refine AtE.then_n (AtE.go ?_)
  refine AtC.condB H rfl (fun H => ?_) (fun H => ?_)
  ·
   refine AtC.skip ?_
   refine AtE.then_n (AtE.go ?_)
   refine AtC.seq ?_
   refine AtC.block ?_
   refine AtC.region ?_
   refine AtL.pures hT 3 _ _ _ _ rfl ?_
   obtain ⟨a_1_, hc1, hd1, H⟩ := H
   refine AtL.q rfl (Quiet1.idxS (s := _) hT rfl rfl rfl rfl rfl hc1 hd1) ?_
   obtain ⟨v_1, hc2, H⟩ := H
   refine AtL.q rfl (Quiet1.load hT rfl rfl rfl hc2) ?_
   refine AtL.pures hT 2 _ _ _ _ rfl ?_
   refine AtLX.bs (hT := hT) (cs := [_]) H rfl rfl rfl rfl rfl rfl rfl rfl rfl (fun a_2 h0u2 H => ?_)
   refine AtL.e rfl (EffX.appendS (s := _) (u := _) hT rfl rfl rfl rfl rfl rfl rfl rfl rfl rfl (by decide) H) ?_
   rintro _ _ ⟨v_3, h0u3, rfl, rfl, H⟩
   refine AtL.pures hT 1 _ _ _ _ rfl ?_
   refine AtL.nil ?_
   refine AtE.blk_n ?_
   refine AtE.then_n (AtE.go ?_)
   refine AtC.region ?_
   refine AtL.pures hT 3 _ _ _ _ rfl ?_
   replace H := H _ rfl
   refine AtL.nil ?_
   exact AtE.then_n ((HK1 _ _ H).pickP (ts := [3, 4, 0]) (is := []) rfl rfl (by decide) rfl)
  ·
   refine AtC.exit ?_
   refine AtE.then_x ?_
   refine AtE.then_x ?_
   refine AtE.blk_hit ?_
   refine AtE.then_n (AtE.go ?_)
   refine AtC.seq ?_
   refine AtC.seqR ?_
   refine AtL.pures hT 3 _ _ _ _ rfl ?_
   refine AtL.nil ?_
   refine AtE.then_n (AtE.go ?_)
   refine AtC.condB H rfl (fun H => ?_) (fun H => ?_)
   ·
    refine AtC.seqR ?_
    refine AtL.pures hT 1 _ _ _ _ rfl ?_
    refine AtL.nil ?_
    refine AtE.then_n (AtE.go ?_)
    refine AtC.ret ?_
    refine AtE.then_r ?_
    exact AtE.retN (rs := [.tmp 2]) rfl (ResAll.cons (ResAt.tmp rfl) ResAll.nil) rfl H
   ·
    refine AtC.skip ?_
    refine AtE.then_n (AtE.go ?_)
    refine AtC.seqR ?_
    refine AtL.pures hT 1 _ _ _ _ rfl ?_
    obtain ⟨v_4_, hc3, H⟩ := H
    refine AtL.q rfl (Quiet1.strOf (s := _) hT rfl rfl rfl rfl rfl hc3) ?_
    refine AtL.pures hT 1 _ _ _ _ rfl ?_
    refine AtL.nil ?_
    refine AtE.then_n (AtE.go ?_)
    refine AtC.ret ?_
    exact AtE.retN (rs := [.tmp 2]) rfl (ResAll.cons (ResAt.tmp rfl) ResAll.nil) rfl H

theorem lift_ref02uText (r : Bool × Sl × Sl) (w : World) (m : Heap) (hr : Rel ⟨m, []⟩ w.heap) (S : ByteArray → Heap → Prop) (H : ref02uText r m S) :
    Calls Tryd.prog 106 #[Value.agg (C_bool_sl_sl r).toArray] w (Post ⟨w, m⟩ Value.string S) := by
  refine Calls.lift (args := [Value.agg (C_bool_sl_sl r).toArray]) Tryd.func106 rfl Tryd.ntmps106 (Nat.le_of_ble_eq_true rfl) hr (ref02uText r m S) H (fun H => ?_)
  refine AtC.pick (ts := [0]) rfl ?_
  unfold ref02uText at H
  refine AtC.seqR ?_
  refine AtL.e rfl (EffX.boxP (cs := [_, _, _]) rfl rfl rfl H) ?_
  rintro _ _ ⟨b, _, rfl, rfl, _, H⟩
  replace H := H.self
  refine AtL.pures hT 1 _ _ _ _ rfl ?_
  refine AtL.nil ?_
  refine AtE.then_n (AtE.go ?_)
  refine AtC.seqR ?_
  refine AtL.pures hT 1 _ _ _ _ rfl ?_
  refine AtL.q rfl (Quiet1.loadP (i := 0) hT rfl rfl rfl rfl rfl rfl) ?_
  refine AtL.e rfl (EffX.call (f := 35) (sh := fun h => ref01uText _ h _) (H0 := H) rfl Tryd.call35 rfl (hl := fun w m hr hw => lift_ref01uText _ w m hr _ hw)) ?_
  rintro _ _ ⟨v, h0u1, rfl, rfl, H⟩
  refine AtL.pures hT 1 _ _ _ _ rfl ?_
  refine AtL.nil ?_
  refine AtE.then_n (AtE.go ?_)
  refine AtC.joinSeq (β := Unit) (fun (t0 : ByteArray) (bb : Unit) => [(3, Value.string t0)]) (fun (t0 : ByteArray) (bb : Unit) => []) [1] [0] H (by exact rfl) (by exact rfl) (fun t0 bb h0u2 H => ?_) (fun J1 H HK1 => ?_)
  ·
   refine AtC.joinSeq (β := Unit) (fun (t0u1 : ByteArray) (bb_1 : Unit) => [(3, Value.string t0u1)]) (fun (t0u1 : ByteArray) (bb_1 : Unit) => []) [] [] H (by exact rfl) (by exact rfl) (fun t0u1 bb_1 h0u3 H => ?_) (fun J3 H HK3 => ?_)
   ·
    refine AtC.seqR ?_
    refine AtL.pures hT 2 _ _ _ _ rfl ?_
    refine AtL.nil ?_
    refine AtE.then_n (AtE.go ?_)
    refine AtC.ret ?_
    exact AtE.retN (rs := [.tmp 2]) rfl (ResAll.cons (ResAt.tmp rfl) ResAll.nil) rfl H
   ·
    refine AtC.joinSeq (β := Unit) (fun (t0u2 : Bool) (bb_2 : Unit) => [(21, Value.bool t0u2)]) (fun (t0u2 : Bool) (bb_2 : Unit) => []) [1, 3] [0] H (by exact rfl) (by exact rfl) (fun t0u2 bb_2 h0u4 H => ?_) (fun J4 H HK4 => ?_)
    ·
     refine AtC.condB H rfl (fun H => ?_) (fun H => ?_)
     ·
      refine AtC.region ?_
      refine AtL.pures hT 1 _ _ _ _ rfl ?_
      obtain ⟨hd6, H⟩ := H
      refine AtL.q rfl (Quiet1.concat rfl rfl rfl hd6) ?_
      refine AtL.pures hT 1 _ _ _ _ rfl ?_
      refine AtL.q rfl (Quiet1.loadP (i := 0) hT rfl rfl rfl rfl rfl rfl) ?_
      refine AtL.e rfl (EffX.call (f := 35) (sh := fun h => ref01uText _ h _) (H0 := H) rfl Tryd.call35 rfl (hl := fun w m hr hw => lift_ref01uText _ w m hr _ hw)) ?_
      rintro _ _ ⟨v_2, h0u5, rfl, rfl, H⟩
      obtain ⟨hd7, H⟩ := H
      refine AtL.q rfl (Quiet1.concat rfl rfl rfl hd7) ?_
      refine AtL.pures hT 1 _ _ _ _ rfl ?_
      replace H := H _ rfl
      refine AtL.nil ?_
      exact AtE.then_n ((HK3 _ () _ H).pickP (ts := [3]) (is := []) rfl rfl (by decide) rfl)
     ·
      refine AtC.skip ?_
      exact AtE.then_n ((HK3 _ () _ H).pickP (ts := [3]) (is := []) rfl rfl (by decide) rfl)
    ·
     refine AtC.region ?_
     refine AtL.pures hT 1 _ _ _ _ rfl ?_
     refine AtL.q rfl (Quiet1.loadP (i := 0) hT rfl rfl rfl rfl rfl rfl) ?_
     refine AtL.pures hT 3 _ _ _ _ rfl ?_
     refine AtL.splitB (t := 15) H rfl (fun H => ?_) (fun H => ?_)
     ·
      refine AtL.noF rfl rfl rfl (by decide) rfl ?_
      refine AtL.noF rfl rfl rfl (by decide) rfl ?_
      refine AtL.noF rfl rfl rfl (by decide) rfl ?_
      refine AtL.noF rfl rfl rfl (by decide) rfl ?_
      refine AtL.noF rfl rfl rfl (by decide) rfl ?_
      refine AtL.pures hT 1 _ _ _ _ rfl ?_
      refine AtL.nil ?_
      exact AtE.then_n ((HK4 _ () _ H).pickP (ts := [21, 1, 3]) (is := [0]) rfl rfl (by decide) rfl)
     ·
      refine AtL.yes rfl rfl rfl ?_
      refine AtL.pures hT 1 _ _ _ _ rfl ?_
      refine AtL.yes rfl rfl rfl ?_
      refine AtL.q rfl (Quiet1.loadP (i := 0) hT rfl rfl rfl rfl rfl rfl) ?_
      refine AtL.yes rfl rfl rfl ?_
      obtain ⟨a_, hc4, hd4, H⟩ := H
      refine AtL.q rfl (Quiet1.idxS (s := _) hT rfl rfl rfl rfl rfl hc4 hd4) ?_
      refine AtL.yes rfl rfl rfl ?_
      obtain ⟨v_1, hc5, H⟩ := H
      refine AtL.q rfl (Quiet1.load hT rfl rfl rfl hc5) ?_
      refine AtL.yes rfl rfl rfl ?_
      refine AtL.pures hT 1 _ _ _ _ rfl ?_
      refine AtL.pures hT 1 _ _ _ _ rfl ?_
      refine AtL.nil ?_
      exact AtE.then_n ((HK4 _ () _ H).pickP (ts := [21, 1, 3]) (is := [0]) rfl rfl (by decide) rfl)
  ·
   refine AtC.seqR ?_
   refine AtL.pures hT 1 _ _ _ _ rfl ?_
   refine AtL.q rfl (Quiet1.loadP (i := 0) hT rfl rfl rfl rfl rfl rfl) ?_
   refine AtL.nil ?_
   refine AtE.then_n (AtE.go ?_)
   refine AtC.condB H rfl (fun H => ?_) (fun H => ?_)
   ·
    refine AtC.region ?_
    refine AtL.pures hT 1 _ _ _ _ rfl ?_
    obtain ⟨hd1, H⟩ := H
    refine AtL.q rfl (Quiet1.concat rfl rfl rfl hd1) ?_
    refine AtL.pures hT 1 _ _ _ _ rfl ?_
    replace H := H _ rfl
    refine AtL.nil ?_
    exact AtE.then_n ((HK1 _ () _ H).pickP (ts := [3, 1]) (is := [0]) rfl rfl (by decide) rfl)
   ·
    refine AtC.skip ?_
    exact AtE.then_n ((HK1 _ () _ H).pickP (ts := [3, 1]) (is := [0]) rfl rfl (by decide) rfl)

theorem lift_ref03uText (x0 : Bool × Sl × Sl × Bool × Sl × Sl) (w : World) (m : Heap) (hr : Rel ⟨m, []⟩ w.heap) (S : ByteArray → Heap → Prop) (H : ref03uText x0 m S) :
    Calls Tryd.prog 54 #[Value.agg (C_bool_sl_sl_bool_sl_sl x0).toArray] w (Post ⟨w, m⟩ Value.string S) := by
  refine Calls.lift (args := [Value.agg (C_bool_sl_sl_bool_sl_sl x0).toArray]) Tryd.func54 rfl Tryd.ntmps54 (Nat.le_of_ble_eq_true rfl) hr (ref03uText x0 m S) H (fun H => ?_)
  refine AtC.pick (ts := [0]) rfl ?_
  unfold ref03uText at H
  refine AtC.seqR ?_
  refine AtL.e rfl (EffX.boxP (cs := [_, _, _, _, _, _]) rfl rfl rfl H) ?_
  rintro _ _ ⟨b, _, rfl, rfl, _, H⟩
  replace H := H.self
  refine AtL.pures hT 1 _ _ _ _ rfl ?_
  refine AtL.nil ?_
  refine AtE.then_n (AtE.go ?_)
  refine AtC.seqR ?_
  refine AtL.pures hT 1 _ _ _ _ rfl ?_
  refine AtL.q rfl (Quiet1.loadSP (i := 0) (l := [_, _, _]) hT rfl rfl rfl rfl rfl rfl rfl rfl) ?_
  refine AtL.e rfl (EffX.call (f := 106) (sh := fun h => ref02uText _ h _) (H0 := H) rfl Tryd.call106 rfl (hl := fun w m hr hw => lift_ref02uText _ w m hr _ hw)) ?_
  rintro _ _ ⟨v, h0u1, rfl, rfl, H⟩
  refine AtL.pures hT 1 _ _ _ _ rfl ?_
  refine AtL.nil ?_
  refine AtE.then_n (AtE.go ?_)
  refine AtC.seq ?_
  refine AtC.seqR ?_
  refine AtL.pures hT 2 _ _ _ _ rfl ?_
  refine AtL.q rfl (Quiet1.loadP (i := 0) hT rfl rfl rfl rfl rfl rfl) ?_
  refine AtL.pures hT 2 _ _ _ _ rfl ?_
  refine AtL.nil ?_
  refine AtE.then_n (AtE.go ?_)
  refine AtC.condB H rfl (fun H => ?_) (fun H => ?_)
  ·
   refine AtC.seqR ?_
   refine AtL.pures hT 2 _ _ _ _ rfl ?_
   refine AtL.nil ?_
   refine AtE.then_n (AtE.go ?_)
   refine AtC.ret ?_
   refine AtE.then_r ?_
   exact AtE.retN (rs := [.tmp 2]) rfl (ResAll.cons (ResAt.tmp rfl) ResAll.nil) rfl H
  ·
   refine AtC.skip ?_
   refine AtE.then_n (AtE.go ?_)
   refine AtC.seq ?_
   refine AtC.seqR ?_
   refine AtL.pures hT 2 _ _ _ _ rfl ?_
   refine AtL.q rfl (Quiet1.loadP (i := 0) hT rfl rfl rfl rfl rfl rfl) ?_
   refine AtL.nil ?_
   refine AtE.then_n (AtE.go ?_)
   refine AtC.condB H rfl (fun H => ?_) (fun H => ?_)
   ·
    refine AtC.seqR ?_
    refine AtL.pures hT 1 _ _ _ _ rfl ?_
    obtain ⟨hd0, H⟩ := H
    refine AtL.q rfl (Quiet1.concat rfl rfl rfl hd0) ?_
    refine AtL.pures hT 1 _ _ _ _ rfl ?_
    refine AtL.q rfl (Quiet1.loadSP (i := 0) (l := [_, _, _]) hT rfl rfl rfl rfl rfl rfl rfl rfl) ?_
    refine AtL.e rfl (EffX.call (f := 102) (sh := fun h => ref02uNeg _ h _) (H0 := H) rfl Tryd.call102 rfl (hl := fun w m hr hw => lift_ref02uNeg _ w m hr _ hw)) ?_
    rintro _ _ ⟨v_1, h0u2, rfl, rfl, H⟩
    refine AtL.e rfl (EffX.call (f := 106) (sh := fun h => ref02uText _ h _) (H0 := H) rfl Tryd.call106 rfl (hl := fun w m hr hw => lift_ref02uText _ w m hr _ hw)) ?_
    rintro _ _ ⟨v_2, h0u3, rfl, rfl, H⟩
    obtain ⟨hd1, H⟩ := H
    refine AtL.q rfl (Quiet1.concat rfl rfl rfl hd1) ?_
    obtain ⟨hd2, H⟩ := H
    refine AtL.q rfl (Quiet1.concat rfl rfl rfl hd2) ?_
    refine AtL.pures hT 1 _ _ _ _ rfl ?_
    refine AtL.nil ?_
    refine AtE.then_n (AtE.go ?_)
    refine AtC.ret ?_
    refine AtE.then_r ?_
    exact AtE.retN (rs := [.tmp 2]) rfl (ResAll.cons (ResAt.tmp rfl) ResAll.nil) rfl H
   ·
    refine AtC.skip ?_
    refine AtE.then_n (AtE.go ?_)
    refine AtC.seqR ?_
    refine AtL.pures hT 1 _ _ _ _ rfl ?_
    obtain ⟨hd3, H⟩ := H
    refine AtL.q rfl (Quiet1.concat rfl rfl rfl hd3) ?_
    refine AtL.pures hT 1 _ _ _ _ rfl ?_
    refine AtL.q rfl (Quiet1.loadSP (i := 0) (l := [_, _, _]) hT rfl rfl rfl rfl rfl rfl rfl rfl) ?_
    refine AtL.e rfl (EffX.call (f := 106) (sh := fun h => ref02uText _ h _) (H0 := H) rfl Tryd.call106 rfl (hl := fun w m hr hw => lift_ref02uText _ w m hr _ hw)) ?_
    rintro _ _ ⟨v_3, h0u4, rfl, rfl, H⟩
    obtain ⟨hd4, H⟩ := H
    refine AtL.q rfl (Quiet1.concat rfl rfl rfl hd4) ?_
    obtain ⟨hd5, H⟩ := H
    refine AtL.q rfl (Quiet1.concat rfl rfl rfl hd5) ?_
    refine AtL.pures hT 1 _ _ _ _ rfl ?_
    refine AtL.nil ?_
    refine AtE.then_n (AtE.go ?_)
    refine AtC.ret ?_
    exact AtE.retN (rs := [.tmp 2]) rfl (ResAll.cons (ResAt.tmp rfl) ResAll.nil) rfl H

theorem lift_law03utold__law03uDeltaTold_c1 (limbs : Int) (do_c : Addr) (do_c_1 : Addr) (want : Bool × Sl × Sl × Bool × Sl × Sl) (w : World) (m : Heap) (hr : Rel ⟨m, []⟩ w.heap) (S : Bool → Heap → Prop) (H : law03utold__law03uDeltaTold_c1 limbs do_c do_c_1 want m S) :
    Calls Tryd.prog 40 #[Value.int .i64 limbs, Value.func (.func 41) #[] #[Value.pointer (some do_c), Value.pointer (some do_c_1)], Value.agg (C_bool_sl_sl_bool_sl_sl want).toArray] w (Post ⟨w, m⟩ Value.bool S) := by
  refine Calls.lift (args := [Value.int .i64 limbs, Value.func (.func 41) #[] #[Value.pointer (some do_c), Value.pointer (some do_c_1)], Value.agg (C_bool_sl_sl_bool_sl_sl want).toArray]) Tryd.func40 rfl Tryd.ntmps40 (Nat.le_of_ble_eq_true rfl) hr (law03utold__law03uDeltaTold_c1 limbs do_c do_c_1 want m S) H (fun H => ?_)
  refine AtC.pick (ts := [0, 1, 2]) rfl ?_
  unfold law03utold__law03uDeltaTold_c1 at H
  refine AtC.seqR ?_
  refine AtL.e rfl (EffX.boxP (cs := [_, _, _, _, _, _]) rfl rfl rfl H) ?_
  rintro _ _ ⟨b, _, rfl, rfl, _, H⟩
  replace H := H.self
  refine AtL.pures hT 1 _ _ _ _ rfl ?_
  refine AtL.nil ?_
  refine AtE.then_n (AtE.go ?_)
  refine AtC.seqR ?_
  refine AtL.pures hT 1 _ _ _ _ rfl ?_
  refine AtL.e rfl (EffX.call (f := 15) (sh := fun h => nat_New _ h _) (H0 := H) rfl Tryd.call15 rfl (hl := fun w m hr hw => lift_nat_New _ w m hr _ hw)) ?_
  rintro _ _ ⟨v, h0u1, rfl, rfl, H⟩
  refine AtL.pures hT 1 _ _ _ _ rfl ?_
  refine AtL.nil ?_
  refine AtE.then_n (AtE.go ?_)
  refine AtC.joinSeq (β := Nat × Nat) (fun (t0 : Int × Bool × Sl × Sl × Bool × Sl × Sl × Bool × Sl × Sl × Bool × Sl × Sl) (bb : Nat × Nat) => [(10, Value.int .i64 t0.1), (8, Value.pointer (some ⟨bb.1, 0, none⟩)), (9, Value.pointer (some ⟨bb.2, 0, none⟩))]) (fun (t0 : Int × Bool × Sl × Sl × Bool × Sl × Sl × Bool × Sl × Sl × Bool × Sl × Sl) (bb : Nat × Nat) => [(bb.1, [Value.bool t0.2.1, Sl.toV t0.2.2.1, Sl.toV t0.2.2.2.1, Value.bool t0.2.2.2.2.1, Sl.toV t0.2.2.2.2.2.1, Sl.toV t0.2.2.2.2.2.2.1]), (bb.2, [Value.bool t0.2.2.2.2.2.2.2.1, Sl.toV t0.2.2.2.2.2.2.2.2.1, Sl.toV t0.2.2.2.2.2.2.2.2.2.1, Value.bool t0.2.2.2.2.2.2.2.2.2.2.1, Sl.toV t0.2.2.2.2.2.2.2.2.2.2.2.1, Sl.toV t0.2.2.2.2.2.2.2.2.2.2.2.2])]) [7] [] H (by exact rfl) (by exact rfl) (fun t0 bb h0u2 H => ?_) (fun J1 H HK1 => ?_)
  ·
   refine AtC.seq ?_
   refine AtC.joinSeq (β := Unit) (fun (t0u1 : Bool) (bb_1 : Unit) => [(31, Value.bool t0u1)]) (fun (t0u1 : Bool) (bb_1 : Unit) => []) [7, 8, 9] [0, 1] H (by exact rfl) (by exact rfl) (fun t0u1 bb_1 h0u36 H => ?_) (fun J20 H HK20 => ?_)
   ·
    refine AtC.condB H rfl (fun H => ?_) (fun H => ?_)
    ·
     refine AtC.joinSeq (β := Unit) (fun (t0u2 : Bool) (bb_2 : Unit) => [(6, Value.bool t0u2)]) (fun (t0u2 : Bool) (bb_2 : Unit) => []) [] [] H (by exact rfl) (by exact rfl) (fun t0u2 bb_2 h0u39 H => ?_) (fun J21 H HK21 => ?_)
     ·
      refine AtC.ret ?_
      refine AtE.then_r ?_
      exact AtE.retN (rs := [.tmp 6]) rfl (ResAll.cons (ResAt.tmp rfl) ResAll.nil) rfl H
     ·
      refine AtC.region ?_
      refine AtL.pures hT 1 _ _ _ _ rfl ?_
      refine AtL.e rfl (EffX.call (f := 24) (sh := fun h => nat_Bench_Over _ h _) (H0 := H) rfl Tryd.call24 rfl (hl := fun w m hr hw => lift_nat_Bench_Over _ w m hr _ hw)) ?_
      rintro _ _ ⟨v_19, h0u40, rfl, rfl, H⟩
      refine AtL.pures hT 1 _ _ _ _ rfl ?_
      refine AtL.splitB (t := 34) H rfl (fun H => ?_) (fun H => ?_)
      ·
       refine AtL.yes rfl rfl rfl ?_
       refine AtL.q rfl (Quiet1.loadSP (i := 0) (l := [_, _, _, _, _, _]) hT rfl rfl rfl rfl rfl rfl rfl rfl) ?_
       refine AtL.yes rfl rfl rfl ?_
       refine AtL.q rfl (Quiet1.build (cs := [_, _, _, _, _, _]) hT rfl rfl rfl rfl rfl rfl) ?_
       refine AtL.yes rfl rfl rfl ?_
       refine AtL.e rfl (EffX.call (f := 55) (sh := fun h => ref03uSame _ _ h _) (H0 := H) rfl Tryd.call55 rfl (hl := fun w m hr hw => lift_ref03uSame _ _ w m hr _ hw)) ?_
       rintro _ _ ⟨v_20, h0u41, rfl, rfl, H⟩
       refine AtL.pures hT 2 _ _ _ _ rfl ?_
       refine AtL.nil ?_
       exact AtE.then_n ((HK21 _ () _ H).pickP (ts := [6]) (is := []) rfl rfl (by decide) rfl)
      ·
       refine AtL.noF rfl rfl rfl (by decide) rfl ?_
       refine AtL.noF rfl rfl rfl (by decide) rfl ?_
       refine AtL.noF rfl rfl rfl (by decide) rfl ?_
       refine AtL.pures hT 2 _ _ _ _ rfl ?_
       refine AtL.nil ?_
       exact AtE.then_n ((HK21 _ () _ H).pickP (ts := [6]) (is := []) rfl rfl (by decide) rfl)
    ·
     refine AtC.skip ?_
     refine AtE.then_n (AtE.go ?_)
     refine AtC.joinSeq (β := Unit) (fun (t0u3 : Bool) (bb_3 : Unit) => [(6, Value.bool t0u3)]) (fun (t0u3 : Bool) (bb_3 : Unit) => []) [] [] H (by exact rfl) (by exact rfl) (fun t0u3 bb_3 h0u42 H => ?_) (fun J22 H HK22 => ?_)
     ·
      refine AtC.ret ?_
      exact AtE.retN (rs := [.tmp 6]) rfl (ResAll.cons (ResAt.tmp rfl) ResAll.nil) rfl H
     ·
      refine AtC.region ?_
      refine AtL.pures hT 1 _ _ _ _ rfl ?_
      refine AtL.e rfl (EffX.call (f := 24) (sh := fun h => nat_Bench_Over _ h _) (H0 := H) rfl Tryd.call24 rfl (hl := fun w m hr hw => lift_nat_Bench_Over _ w m hr _ hw)) ?_
      rintro _ _ ⟨v_21, h0u43, rfl, rfl, H⟩
      refine AtL.pures hT 2 _ _ _ _ rfl ?_
      refine AtL.splitB (t := 42) H rfl (fun H => ?_) (fun H => ?_)
      ·
       refine AtL.yes rfl rfl rfl ?_
       refine AtL.q rfl (Quiet1.loadSP (i := 0) (l := [_, _, _, _, _, _]) hT rfl rfl rfl rfl rfl rfl rfl rfl) ?_
       refine AtL.yes rfl rfl rfl ?_
       refine AtL.q rfl (Quiet1.loadSP (i := 1) (l := [_, _, _, _, _, _]) hT rfl rfl rfl rfl rfl rfl rfl rfl) ?_
       refine AtL.yes rfl rfl rfl ?_
       refine AtL.e rfl (EffX.call (f := 55) (sh := fun h => ref03uSame _ _ h _) (H0 := H) rfl Tryd.call55 rfl (hl := fun w m hr hw => lift_ref03uSame _ _ w m hr _ hw)) ?_
       rintro _ _ ⟨v_22, h0u44, rfl, rfl, H⟩
       refine AtL.pures hT 2 _ _ _ _ rfl ?_
       refine AtL.nil ?_
       exact AtE.then_n ((HK22 _ () _ H).pickP (ts := [6]) (is := []) rfl rfl (by decide) rfl)
      ·
       refine AtL.noF rfl rfl rfl (by decide) rfl ?_
       refine AtL.noF rfl rfl rfl (by decide) rfl ?_
       refine AtL.noF rfl rfl rfl (by decide) rfl ?_
       refine AtL.pures hT 2 _ _ _ _ rfl ?_
       refine AtL.nil ?_
       exact AtE.then_n ((HK22 _ () _ H).pickP (ts := [6]) (is := []) rfl rfl (by decide) rfl)
   ·
    refine AtC.region ?_
    refine AtL.pures hT 1 _ _ _ _ rfl ?_
    refine AtL.q rfl (Quiet1.loadSP (i := 1) (l := [_, _, _]) hT rfl rfl rfl rfl rfl rfl rfl rfl) ?_
    refine AtL.pures hT 1 _ _ _ _ rfl ?_
    refine AtL.e rfl (EffX.call (f := 71) (sh := fun h => ref02uFits _ _ h _) (H0 := H) rfl Tryd.call71 rfl (hl := fun w m hr hw => lift_ref02uFits _ _ w m hr _ hw)) ?_
    rintro _ _ ⟨v_17, h0u37, rfl, rfl, H⟩
    refine AtL.pures hT 2 _ _ _ _ rfl ?_
    refine AtL.splitB (t := 25) H rfl (fun H => ?_) (fun H => ?_)
    ·
     refine AtL.noF rfl rfl rfl (by decide) rfl ?_
     refine AtL.noF rfl rfl rfl (by decide) rfl ?_
     refine AtL.noF rfl rfl rfl (by decide) rfl ?_
     refine AtL.noF rfl rfl rfl (by decide) rfl ?_
     refine AtL.noF rfl rfl rfl (by decide) rfl ?_
     refine AtL.pures hT 1 _ _ _ _ rfl ?_
     refine AtL.nil ?_
     exact AtE.then_n ((HK20 _ () _ H).pickP (ts := [31, 7, 8, 9]) (is := [0, 1]) rfl rfl (by decide) rfl)
    ·
     refine AtL.yes rfl rfl rfl ?_
     refine AtL.pures hT 1 _ _ _ _ rfl ?_
     refine AtL.yes rfl rfl rfl ?_
     refine AtL.q rfl (Quiet1.loadSP (i := 1) (l := [_, _, _]) hT rfl rfl rfl rfl rfl rfl rfl rfl) ?_
     refine AtL.yes rfl rfl rfl ?_
     refine AtL.pures hT 1 _ _ _ _ rfl ?_
     refine AtL.yes rfl rfl rfl ?_
     refine AtL.e rfl (EffX.call (f := 71) (sh := fun h => ref02uFits _ _ h _) (H0 := H) rfl Tryd.call71 rfl (hl := fun w m hr hw => lift_ref02uFits _ _ w m hr _ hw)) ?_
     rintro _ _ ⟨v_18, h0u38, rfl, rfl, H⟩
     refine AtL.yes rfl rfl rfl ?_
     refine AtL.pures hT 1 _ _ _ _ rfl ?_
     refine AtL.pures hT 1 _ _ _ _ rfl ?_
     refine AtL.nil ?_
     exact AtE.then_n ((HK20 _ () _ H).pickP (ts := [31, 7, 8, 9]) (is := [0, 1]) rfl rfl (by decide) rfl)
  ·
   apply AtC.stages [2, 4, 7, 8, 9, 10] [[], [], [], [], [2], [], [], [], [], [2, 4, 7, 8], [2, 4, 7, 8, 9], [2, 4, 7, 8, 9, 10]] [[], [], [0, 1], [], [0, 1, 2, 3], [], [5], [], [], [0, 1, 2, 3, 4, 7, 8], [0, 1, 2, 3, 4, 7, 8, 9], [0, 1, 2, 3, 4, 5, 6, 7, 8, 9, 10]] hmix (by kernel_rfl) [(13, _), (14, _), (16, _), (18, _), (19, _)] rfl 6 rfl
   refine Stg.go [0, 1, 3, 5, 6] [2, 7, 8] rfl rfl (QAll.cons (QOp.p hT rfl rfl rfl rfl rfl) (QAll.cons (QOp.p hT rfl rfl rfl rfl rfl) (QAll.cons (QOp.q rfl rfl (Quiet1.loadSP (i := 0) (l := [_, _, _, _, _, _]) hT rfl rfl rfl rfl rfl rfl rfl rfl) rfl rfl) (QAll.cons (QOp.p hT rfl rfl rfl rfl rfl) (QAll.cons (QOp.p hT rfl rfl rfl rfl rfl) QAll.nil))))) ?_
   refine EAll.cons ?_ ?_
   ·
    replace H := H.self
    refine EOp.e rfl rfl rfl (EffX.callF (bs := []) (cs := [_, _]) (f := 41) (sh := fun h => law03uDeltaTold_c1 _ _ _ h _) (H0 := H) rfl rfl Tryd.call41 rfl (hl := fun w m hr hw => lift_law03uDeltaTold_c1 _ _ _ w m hr _ hw)) ?_
    rintro _ _ ⟨v_1, h0u4, rfl, rfl, H⟩
    apply Stg.next [(15, _)] rfl rfl
    refine Stg.go [3, 5, 6] [4, 7, 8] rfl rfl (QAll.cons (QOp.q rfl rfl (Quiet1.loadSP (i := 0) (l := [_, _, _, _, _, _]) hT rfl rfl rfl rfl rfl rfl rfl rfl) rfl rfl) (QAll.cons (QOp.p hT rfl rfl rfl rfl rfl) (QAll.cons (QOp.p hT rfl rfl rfl rfl rfl) QAll.nil))) ?_
    refine EAll.cons ?_ ?_
    ·
     replace H := H.self
     refine EOp.e rfl rfl rfl (EffX.call (f := 99) (sh := fun h => ref03uForm _ h _) (H0 := H) rfl Tryd.call99 rfl (hl := fun w m hr hw => lift_ref03uForm _ w m hr _ hw)) ?_
     rintro _ _ ⟨v_2, h0u6, rfl, rfl, H⟩
     apply Stg.next [(17, _)] rfl rfl
     refine Stg.go [5, 6] [7, 8] rfl rfl (QAll.cons (QOp.p hT rfl rfl rfl rfl rfl) (QAll.cons (QOp.p hT rfl rfl rfl rfl rfl) QAll.nil)) ?_
     refine EAll.cons ?_ ?_
     ·
      refine EOp.e rfl rfl rfl (EffX.allocP (cs := [_, _, _, _, _, _]) hT rfl rfl H) ?_
      rintro _ _ ⟨b_1, _, rfl, rfl, he1, H⟩
      apply Stg.next [(8, _)] rfl rfl
      refine Stg.go [5, 6] [8] rfl rfl (QAll.cons (QOp.p hT rfl rfl rfl rfl rfl) (QAll.cons (QOp.p hT rfl rfl rfl rfl rfl) QAll.nil)) ?_
      refine EAll.cons ?_ EAll.nil
      refine EOp.e rfl rfl rfl (EffX.allocP (cs := [_, _, _, _, _, _]) hT rfl rfl H) ?_
      rintro _ _ ⟨b_2, _, rfl, rfl, he2, H⟩
      apply Stg.next [(9, _)] rfl rfl
      refine Stg.go [5, 6] [9] rfl rfl (QAll.cons (QOp.p hT rfl rfl rfl rfl rfl) (QAll.cons (QOp.p hT rfl rfl rfl rfl rfl) QAll.nil)) ?_
      refine EAll.cons ?_ EAll.nil
      refine EOp.e rfl rfl rfl (EffX.storeSP (i := 1) (qv := [(_, [_, _, _, _, _, _]), (_, [_, _, _, _, _, _]), (_, [_, _, _, _, _, _])]) hT rfl rfl rfl rfl rfl rfl rfl rfl rfl rfl) ?_
      rintro _ _ rfl
      apply Stg.next [] rfl rfl
      refine Stg.go [5, 6] [10] rfl rfl (QAll.cons (QOp.p hT rfl rfl rfl rfl rfl) (QAll.cons (QOp.p hT rfl rfl rfl rfl rfl) QAll.nil)) ?_
      refine EAll.cons ?_ EAll.nil
      refine EOp.e rfl rfl rfl (EffX.storeSP (i := 0) (qv := [(_, [_, _, _, _, _, _]), (_, [_, _, _, _, _, _]), (_, [_, _, _, _, _, _])]) hT rfl rfl rfl rfl rfl rfl rfl rfl rfl rfl) ?_
      rintro _ _ rfl
      apply Stg.next [(10, _)] rfl rfl
      refine Stg.fin [5, 6, 11] rfl rfl (QAll.cons (QOp.p hT rfl rfl rfl rfl rfl) (QAll.cons (QOp.p hT rfl rfl rfl rfl rfl) (QAll.cons (QOp.p hT rfl rfl rfl rfl rfl) QAll.nil))) ?_
      replace H := H.self
      exact AtE.then_n ((HK1 _ (b_1, b_2) _ H).pickP (ts := [10, 8, 9, 7]) (is := [1, 0]) rfl rfl (by decide) rfl)
     refine EAll.cons ?_ EAll.nil
     refine EOp.e rfl rfl rfl (EffX.allocP (cs := [_, _, _, _, _, _]) hT rfl rfl H) ?_
     rintro _ _ ⟨b_3, _, rfl, rfl, he3, H⟩
     apply Stg.next [(9, _)] rfl rfl
     refine Stg.go [5, 6] [7] rfl rfl (QAll.cons (QOp.p hT rfl rfl rfl rfl rfl) (QAll.cons (QOp.p hT rfl rfl rfl rfl rfl) QAll.nil)) ?_
     refine EAll.cons ?_ EAll.nil
     refine EOp.e rfl rfl rfl (EffX.allocP (cs := [_, _, _, _, _, _]) hT rfl rfl H) ?_
     rintro _ _ ⟨b_4, _, rfl, rfl, he4, H⟩
     apply Stg.next [(8, _)] rfl rfl
     refine Stg.go [5, 6] [9] rfl rfl (QAll.cons (QOp.p hT rfl rfl rfl rfl rfl) (QAll.cons (QOp.p hT rfl rfl rfl rfl rfl) QAll.nil)) ?_
     refine EAll.cons ?_ EAll.nil
     refine EOp.e rfl rfl rfl (EffX.storeSP (i := 0) (qv := [(_, [_, _, _, _, _, _]), (_, [_, _, _, _, _, _]), (_, [_, _, _, _, _, _])]) hT rfl rfl rfl rfl rfl rfl rfl rfl rfl rfl) ?_
     rintro _ _ rfl
     apply Stg.next [] rfl rfl
     refine Stg.go [5, 6] [10] rfl rfl (QAll.cons (QOp.p hT rfl rfl rfl rfl rfl) (QAll.cons (QOp.p hT rfl rfl rfl rfl rfl) QAll.nil)) ?_
     refine EAll.cons ?_ EAll.nil
     refine EOp.e rfl rfl rfl (EffX.storeSP (i := 1) (qv := [(_, [_, _, _, _, _, _]), (_, [_, _, _, _, _, _]), (_, [_, _, _, _, _, _])]) hT rfl rfl rfl rfl rfl rfl rfl rfl rfl rfl) ?_
     rintro _ _ rfl
     apply Stg.next [(10, _)] rfl rfl
     refine Stg.fin [5, 6, 11] rfl rfl (QAll.cons (QOp.p hT rfl rfl rfl rfl rfl) (QAll.cons (QOp.p hT rfl rfl rfl rfl rfl) (QAll.cons (QOp.p hT rfl rfl rfl rfl rfl) QAll.nil))) ?_
     replace H := H.self
     exact AtE.then_n ((HK1 _ (b_4, b_3) _ H).pickP (ts := [10, 8, 9, 7]) (is := [0, 1]) rfl rfl (by decide) rfl)
    refine EAll.cons ?_ ?_
    ·
     refine EOp.e rfl rfl rfl (EffX.allocP (cs := [_, _, _, _, _, _]) hT rfl rfl H) ?_
     rintro _ _ ⟨b_5, _, rfl, rfl, he5, H⟩
     apply Stg.next [(8, _)] rfl rfl
     refine Stg.go [3, 5, 6] [4, 8] rfl rfl (QAll.cons (QOp.q rfl rfl (Quiet1.loadSP (i := 1) (l := [_, _, _, _, _, _]) hT rfl rfl rfl rfl rfl rfl rfl rfl) rfl rfl) (QAll.cons (QOp.p hT rfl rfl rfl rfl rfl) (QAll.cons (QOp.p hT rfl rfl rfl rfl rfl) QAll.nil))) ?_
     refine EAll.cons ?_ ?_
     ·
      replace H := H.self
      refine EOp.e rfl rfl rfl (EffX.call (f := 99) (sh := fun h => ref03uForm _ h _) (H0 := H) rfl Tryd.call99 rfl (hl := fun w m hr hw => lift_ref03uForm _ w m hr _ hw)) ?_
      rintro _ _ ⟨v_3, h0u8, rfl, rfl, H⟩
      apply Stg.next [(17, _)] rfl rfl
      refine Stg.go [5, 6] [8] rfl rfl (QAll.cons (QOp.p hT rfl rfl rfl rfl rfl) (QAll.cons (QOp.p hT rfl rfl rfl rfl rfl) QAll.nil)) ?_
      refine EAll.cons ?_ EAll.nil
      refine EOp.e rfl rfl rfl (EffX.allocP (cs := [_, _, _, _, _, _]) hT rfl rfl H) ?_
      rintro _ _ ⟨b_6, _, rfl, rfl, he6, H⟩
      apply Stg.next [(9, _)] rfl rfl
      refine Stg.go [5, 6] [9] rfl rfl (QAll.cons (QOp.p hT rfl rfl rfl rfl rfl) (QAll.cons (QOp.p hT rfl rfl rfl rfl rfl) QAll.nil)) ?_
      refine EAll.cons ?_ EAll.nil
      refine EOp.e rfl rfl rfl (EffX.storeSP (i := 1) (qv := [(_, [_, _, _, _, _, _]), (_, [_, _, _, _, _, _]), (_, [_, _, _, _, _, _])]) hT rfl rfl rfl rfl rfl rfl rfl rfl rfl rfl) ?_
      rintro _ _ rfl
      apply Stg.next [] rfl rfl
      refine Stg.go [5, 6] [10] rfl rfl (QAll.cons (QOp.p hT rfl rfl rfl rfl rfl) (QAll.cons (QOp.p hT rfl rfl rfl rfl rfl) QAll.nil)) ?_
      refine EAll.cons ?_ EAll.nil
      refine EOp.e rfl rfl rfl (EffX.storeSP (i := 0) (qv := [(_, [_, _, _, _, _, _]), (_, [_, _, _, _, _, _]), (_, [_, _, _, _, _, _])]) hT rfl rfl rfl rfl rfl rfl rfl rfl rfl rfl) ?_
      rintro _ _ rfl
      apply Stg.next [(10, _)] rfl rfl
      refine Stg.fin [5, 6, 11] rfl rfl (QAll.cons (QOp.p hT rfl rfl rfl rfl rfl) (QAll.cons (QOp.p hT rfl rfl rfl rfl rfl) (QAll.cons (QOp.p hT rfl rfl rfl rfl rfl) QAll.nil))) ?_
      replace H := H.self
      exact AtE.then_n ((HK1 _ (b_5, b_6) _ H).pickP (ts := [10, 8, 9, 7]) (is := [1, 0]) rfl rfl (by decide) rfl)
     refine EAll.cons ?_ EAll.nil
     refine EOp.e rfl rfl rfl (EffX.allocP (cs := [_, _, _, _, _, _]) hT rfl rfl H) ?_
     rintro _ _ ⟨b_7, _, rfl, rfl, he7, H⟩
     apply Stg.next [(9, _)] rfl rfl
     refine Stg.go [3, 5, 6] [4] rfl rfl (QAll.cons (QOp.q rfl rfl (Quiet1.loadSP (i := 2) (l := [_, _, _, _, _, _]) hT rfl rfl rfl rfl rfl rfl rfl rfl) rfl rfl) (QAll.cons (QOp.p hT rfl rfl rfl rfl rfl) (QAll.cons (QOp.p hT rfl rfl rfl rfl rfl) QAll.nil))) ?_
     refine EAll.cons ?_ EAll.nil
     replace H := H.self
     refine EOp.e rfl rfl rfl (EffX.call (f := 99) (sh := fun h => ref03uForm _ h _) (H0 := H) rfl Tryd.call99 rfl (hl := fun w m hr hw => lift_ref03uForm _ w m hr _ hw)) ?_
     rintro _ _ ⟨v_4, h0u10, rfl, rfl, H⟩
     apply Stg.next [(17, _)] rfl rfl
     refine Stg.go [5, 6] [9] rfl rfl (QAll.cons (QOp.p hT rfl rfl rfl rfl rfl) (QAll.cons (QOp.p hT rfl rfl rfl rfl rfl) QAll.nil)) ?_
     refine EAll.cons ?_ EAll.nil
     refine EOp.e rfl rfl rfl (EffX.storeSP (i := 1) (qv := [(_, [_, _, _, _, _, _]), (_, [_, _, _, _, _, _]), (_, [_, _, _, _, _, _])]) hT rfl rfl rfl rfl rfl rfl rfl rfl rfl rfl) ?_
     rintro _ _ rfl
     apply Stg.next [] rfl rfl
     refine Stg.go [5, 6] [10] rfl rfl (QAll.cons (QOp.p hT rfl rfl rfl rfl rfl) (QAll.cons (QOp.p hT rfl rfl rfl rfl rfl) QAll.nil)) ?_
     refine EAll.cons ?_ EAll.nil
     refine EOp.e rfl rfl rfl (EffX.storeSP (i := 0) (qv := [(_, [_, _, _, _, _, _]), (_, [_, _, _, _, _, _]), (_, [_, _, _, _, _, _])]) hT rfl rfl rfl rfl rfl rfl rfl rfl rfl rfl) ?_
     rintro _ _ rfl
     apply Stg.next [(10, _)] rfl rfl
     refine Stg.fin [5, 6, 11] rfl rfl (QAll.cons (QOp.p hT rfl rfl rfl rfl rfl) (QAll.cons (QOp.p hT rfl rfl rfl rfl rfl) (QAll.cons (QOp.p hT rfl rfl rfl rfl rfl) QAll.nil))) ?_
     replace H := H.self
     exact AtE.then_n ((HK1 _ (b_5, b_7) _ H).pickP (ts := [10, 8, 9, 7]) (is := [1, 0]) rfl rfl (by decide) rfl)
    refine EAll.cons ?_ EAll.nil
    refine EOp.e rfl rfl rfl (EffX.allocP (cs := [_, _, _, _, _, _]) hT rfl rfl H) ?_
    rintro _ _ ⟨b_8, _, rfl, rfl, he8, H⟩
    apply Stg.next [(9, _)] rfl rfl
    refine Stg.go [3, 5, 6] [4, 7] rfl rfl (QAll.cons (QOp.q rfl rfl (Quiet1.loadSP (i := 1) (l := [_, _, _, _, _, _]) hT rfl rfl rfl rfl rfl rfl rfl rfl) rfl rfl) (QAll.cons (QOp.p hT rfl rfl rfl rfl rfl) (QAll.cons (QOp.p hT rfl rfl rfl rfl rfl) QAll.nil))) ?_
    refine EAll.cons ?_ ?_
    ·
     replace H := H.self
     refine EOp.e rfl rfl rfl (EffX.call (f := 99) (sh := fun h => ref03uForm _ h _) (H0 := H) rfl Tryd.call99 rfl (hl := fun w m hr hw => lift_ref03uForm _ w m hr _ hw)) ?_
     rintro _ _ ⟨v_5, h0u12, rfl, rfl, H⟩
     apply Stg.next [(17, _)] rfl rfl
     refine Stg.go [5, 6] [7] rfl rfl (QAll.cons (QOp.p hT rfl rfl rfl rfl rfl) (QAll.cons (QOp.p hT rfl rfl rfl rfl rfl) QAll.nil)) ?_
     refine EAll.cons ?_ EAll.nil
     refine EOp.e rfl rfl rfl (EffX.allocP (cs := [_, _, _, _, _, _]) hT rfl rfl H) ?_
     rintro _ _ ⟨b_9, _, rfl, rfl, he9, H⟩
     apply Stg.next [(8, _)] rfl rfl
     refine Stg.go [5, 6] [9] rfl rfl (QAll.cons (QOp.p hT rfl rfl rfl rfl rfl) (QAll.cons (QOp.p hT rfl rfl rfl rfl rfl) QAll.nil)) ?_
     refine EAll.cons ?_ EAll.nil
     refine EOp.e rfl rfl rfl (EffX.storeSP (i := 0) (qv := [(_, [_, _, _, _, _, _]), (_, [_, _, _, _, _, _]), (_, [_, _, _, _, _, _])]) hT rfl rfl rfl rfl rfl rfl rfl rfl rfl rfl) ?_
     rintro _ _ rfl
     apply Stg.next [] rfl rfl
     refine Stg.go [5, 6] [10] rfl rfl (QAll.cons (QOp.p hT rfl rfl rfl rfl rfl) (QAll.cons (QOp.p hT rfl rfl rfl rfl rfl) QAll.nil)) ?_
     refine EAll.cons ?_ EAll.nil
     refine EOp.e rfl rfl rfl (EffX.storeSP (i := 1) (qv := [(_, [_, _, _, _, _, _]), (_, [_, _, _, _, _, _]), (_, [_, _, _, _, _, _])]) hT rfl rfl rfl rfl rfl rfl rfl rfl rfl rfl) ?_
     rintro _ _ rfl
     apply Stg.next [(10, _)] rfl rfl
     refine Stg.fin [5, 6, 11] rfl rfl (QAll.cons (QOp.p hT rfl rfl rfl rfl rfl) (QAll.cons (QOp.p hT rfl rfl rfl rfl rfl) (QAll.cons (QOp.p hT rfl rfl rfl rfl rfl) QAll.nil))) ?_
     replace H := H.self
     exact AtE.then_n ((HK1 _ (b_9, b_8) _ H).pickP (ts := [10, 8, 9, 7]) (is := [0, 1]) rfl rfl (by decide) rfl)
    refine EAll.cons ?_ EAll.nil
    refine EOp.e rfl rfl rfl (EffX.allocP (cs := [_, _, _, _, _, _]) hT rfl rfl H) ?_
    rintro _ _ ⟨b_10, _, rfl, rfl, he10, H⟩
    apply Stg.next [(8, _)] rfl rfl
    refine Stg.go [3, 5, 6] [4] rfl rfl (QAll.cons (QOp.q rfl rfl (Quiet1.loadSP (i := 2) (l := [_, _, _, _, _, _]) hT rfl rfl rfl rfl rfl rfl rfl rfl) rfl rfl) (QAll.cons (QOp.p hT rfl rfl rfl rfl rfl) (QAll.cons (QOp.p hT rfl rfl rfl rfl rfl) QAll.nil))) ?_
    refine EAll.cons ?_ EAll.nil
    replace H := H.self
    refine EOp.e rfl rfl rfl (EffX.call (f := 99) (sh := fun h => ref03uForm _ h _) (H0 := H) rfl Tryd.call99 rfl (hl := fun w m hr hw => lift_ref03uForm _ w m hr _ hw)) ?_
    rintro _ _ ⟨v_6, h0u14, rfl, rfl, H⟩
    apply Stg.next [(17, _)] rfl rfl
    refine Stg.go [5, 6] [9] rfl rfl (QAll.cons (QOp.p hT rfl rfl rfl rfl rfl) (QAll.cons (QOp.p hT rfl rfl rfl rfl rfl) QAll.nil)) ?_
    refine EAll.cons ?_ EAll.nil
    refine EOp.e rfl rfl rfl (EffX.storeSP (i := 0) (qv := [(_, [_, _, _, _, _, _]), (_, [_, _, _, _, _, _]), (_, [_, _, _, _, _, _])]) hT rfl rfl rfl rfl rfl rfl rfl rfl rfl rfl) ?_
    rintro _ _ rfl
    apply Stg.next [] rfl rfl
    refine Stg.go [5, 6] [10] rfl rfl (QAll.cons (QOp.p hT rfl rfl rfl rfl rfl) (QAll.cons (QOp.p hT rfl rfl rfl rfl rfl) QAll.nil)) ?_
    refine EAll.cons ?_ EAll.nil
    refine EOp.e rfl rfl rfl (EffX.storeSP (i := 1) (qv := [(_, [_, _, _, _, _, _]), (_, [_, _, _, _, _, _]), (_, [_, _, _, _, _, _])]) hT rfl rfl rfl rfl rfl rfl rfl rfl rfl rfl) ?_
    rintro _ _ rfl
    apply Stg.next [(10, _)] rfl rfl
    refine Stg.fin [5, 6, 11] rfl rfl (QAll.cons (QOp.p hT rfl rfl rfl rfl rfl) (QAll.cons (QOp.p hT rfl rfl rfl rfl rfl) (QAll.cons (QOp.p hT rfl rfl rfl rfl rfl) QAll.nil))) ?_
    replace H := H.self
    exact AtE.then_n ((HK1 _ (b_10, b_8) _ H).pickP (ts := [10, 8, 9, 7]) (is := [0, 1]) rfl rfl (by decide) rfl)
   refine EAll.cons ?_ ?_
   ·
    refine EOp.e rfl rfl rfl (EffX.allocP (cs := [_, _, _, _, _, _]) hT rfl rfl H) ?_
    rintro _ _ ⟨b_11, _, rfl, rfl, he11, H⟩
    apply Stg.next [(8, _)] rfl rfl
    refine Stg.go [0, 1, 3, 5, 6] [2, 8] rfl rfl (QAll.cons (QOp.p hT rfl rfl rfl rfl rfl) (QAll.cons (QOp.p hT rfl rfl rfl rfl rfl) (QAll.cons (QOp.q rfl rfl (Quiet1.loadSP (i := 1) (l := [_, _, _, _, _, _]) hT rfl rfl rfl rfl rfl rfl rfl rfl) rfl rfl) (QAll.cons (QOp.p hT rfl rfl rfl rfl rfl) (QAll.cons (QOp.p hT rfl rfl rfl rfl rfl) QAll.nil))))) ?_
    refine EAll.cons ?_ ?_
    ·
     replace H := H.self
     refine EOp.e rfl rfl rfl (EffX.callF (bs := []) (cs := [_, _]) (f := 41) (sh := fun h => law03uDeltaTold_c1 _ _ _ h _) (H0 := H) rfl rfl Tryd.call41 rfl (hl := fun w m hr hw => lift_law03uDeltaTold_c1 _ _ _ w m hr _ hw)) ?_
     rintro _ _ ⟨v_7, h0u16, rfl, rfl, H⟩
     apply Stg.next [(15, _)] rfl rfl
     refine Stg.go [3, 5, 6] [4, 8] rfl rfl (QAll.cons (QOp.q rfl rfl (Quiet1.loadSP (i := 1) (l := [_, _, _, _, _, _]) hT rfl rfl rfl rfl rfl rfl rfl rfl) rfl rfl) (QAll.cons (QOp.p hT rfl rfl rfl rfl rfl) (QAll.cons (QOp.p hT rfl rfl rfl rfl rfl) QAll.nil))) ?_
     refine EAll.cons ?_ ?_
     ·
      replace H := H.self
      refine EOp.e rfl rfl rfl (EffX.call (f := 99) (sh := fun h => ref03uForm _ h _) (H0 := H) rfl Tryd.call99 rfl (hl := fun w m hr hw => lift_ref03uForm _ w m hr _ hw)) ?_
      rintro _ _ ⟨v_8, h0u18, rfl, rfl, H⟩
      apply Stg.next [(17, _)] rfl rfl
      refine Stg.go [5, 6] [8] rfl rfl (QAll.cons (QOp.p hT rfl rfl rfl rfl rfl) (QAll.cons (QOp.p hT rfl rfl rfl rfl rfl) QAll.nil)) ?_
      refine EAll.cons ?_ EAll.nil
      refine EOp.e rfl rfl rfl (EffX.allocP (cs := [_, _, _, _, _, _]) hT rfl rfl H) ?_
      rintro _ _ ⟨b_12, _, rfl, rfl, he12, H⟩
      apply Stg.next [(9, _)] rfl rfl
      refine Stg.go [5, 6] [9] rfl rfl (QAll.cons (QOp.p hT rfl rfl rfl rfl rfl) (QAll.cons (QOp.p hT rfl rfl rfl rfl rfl) QAll.nil)) ?_
      refine EAll.cons ?_ EAll.nil
      refine EOp.e rfl rfl rfl (EffX.storeSP (i := 1) (qv := [(_, [_, _, _, _, _, _]), (_, [_, _, _, _, _, _]), (_, [_, _, _, _, _, _])]) hT rfl rfl rfl rfl rfl rfl rfl rfl rfl rfl) ?_
      rintro _ _ rfl
      apply Stg.next [] rfl rfl
      refine Stg.go [5, 6] [10] rfl rfl (QAll.cons (QOp.p hT rfl rfl rfl rfl rfl) (QAll.cons (QOp.p hT rfl rfl rfl rfl rfl) QAll.nil)) ?_
      refine EAll.cons ?_ EAll.nil
      refine EOp.e rfl rfl rfl (EffX.storeSP (i := 0) (qv := [(_, [_, _, _, _, _, _]), (_, [_, _, _, _, _, _]), (_, [_, _, _, _, _, _])]) hT rfl rfl rfl rfl rfl rfl rfl rfl rfl rfl) ?_
      rintro _ _ rfl
      apply Stg.next [(10, _)] rfl rfl
      refine Stg.fin [5, 6, 11] rfl rfl (QAll.cons (QOp.p hT rfl rfl rfl rfl rfl) (QAll.cons (QOp.p hT rfl rfl rfl rfl rfl) (QAll.cons (QOp.p hT rfl rfl rfl rfl rfl) QAll.nil))) ?_
      replace H := H.self
      exact AtE.then_n ((HK1 _ (b_11, b_12) _ H).pickP (ts := [10, 8, 9, 7]) (is := [1, 0]) rfl rfl (by decide) rfl)
     refine EAll.cons ?_ EAll.nil
     refine EOp.e rfl rfl rfl (EffX.allocP (cs := [_, _, _, _, _, _]) hT rfl rfl H) ?_
     rintro _ _ ⟨b_13, _, rfl, rfl, he13, H⟩
     apply Stg.next [(9, _)] rfl rfl
     refine Stg.go [3, 5, 6] [4] rfl rfl (QAll.cons (QOp.q rfl rfl (Quiet1.loadSP (i := 2) (l := [_, _, _, _, _, _]) hT rfl rfl rfl rfl rfl rfl rfl rfl) rfl rfl) (QAll.cons (QOp.p hT rfl rfl rfl rfl rfl) (QAll.cons (QOp.p hT rfl rfl rfl rfl rfl) QAll.nil))) ?_
     refine EAll.cons ?_ EAll.nil
     replace H := H.self
     refine EOp.e rfl rfl rfl (EffX.call (f := 99) (sh := fun h => ref03uForm _ h _) (H0 := H) rfl Tryd.call99 rfl (hl := fun w m hr hw => lift_ref03uForm _ w m hr _ hw)) ?_
     rintro _ _ ⟨v_9, h0u20, rfl, rfl, H⟩
     apply Stg.next [(17, _)] rfl rfl
     refine Stg.go [5, 6] [9] rfl rfl (QAll.cons (QOp.p hT rfl rfl rfl rfl rfl) (QAll.cons (QOp.p hT rfl rfl rfl rfl rfl) QAll.nil)) ?_
     refine EAll.cons ?_ EAll.nil
     refine EOp.e rfl rfl rfl (EffX.storeSP (i := 1) (qv := [(_, [_, _, _, _, _, _]), (_, [_, _, _, _, _, _]), (_, [_, _, _, _, _, _])]) hT rfl rfl rfl rfl rfl rfl rfl rfl rfl rfl) ?_
     rintro _ _ rfl
     apply Stg.next [] rfl rfl
     refine Stg.go [5, 6] [10] rfl rfl (QAll.cons (QOp.p hT rfl rfl rfl rfl rfl) (QAll.cons (QOp.p hT rfl rfl rfl rfl rfl) QAll.nil)) ?_
     refine EAll.cons ?_ EAll.nil
     refine EOp.e rfl rfl rfl (EffX.storeSP (i := 0) (qv := [(_, [_, _, _, _, _, _]), (_, [_, _, _, _, _, _]), (_, [_, _, _, _, _, _])]) hT rfl rfl rfl rfl rfl rfl rfl rfl rfl rfl) ?_
     rintro _ _ rfl
     apply Stg.next [(10, _)] rfl rfl
     refine Stg.fin [5, 6, 11] rfl rfl (QAll.cons (QOp.p hT rfl rfl rfl rfl rfl) (QAll.cons (QOp.p hT rfl rfl rfl rfl rfl) (QAll.cons (QOp.p hT rfl rfl rfl rfl rfl) QAll.nil))) ?_
     replace H := H.self
     exact AtE.then_n ((HK1 _ (b_11, b_13) _ H).pickP (ts := [10, 8, 9, 7]) (is := [1, 0]) rfl rfl (by decide) rfl)
    refine EAll.cons ?_ EAll.nil
    refine EOp.e rfl rfl rfl (EffX.allocP (cs := [_, _, _, _, _, _]) hT rfl rfl H) ?_
    rintro _ _ ⟨b_14, _, rfl, rfl, he14, H⟩
    apply Stg.next [(9, _)] rfl rfl
    refine Stg.go [0, 1, 3, 5, 6] [2] rfl rfl (QAll.cons (QOp.p hT rfl rfl rfl rfl rfl) (QAll.cons (QOp.p hT rfl rfl rfl rfl rfl) (QAll.cons (QOp.q rfl rfl (Quiet1.loadSP (i := 2) (l := [_, _, _, _, _, _]) hT rfl rfl rfl rfl rfl rfl rfl rfl) rfl rfl) (QAll.cons (QOp.p hT rfl rfl rfl rfl rfl) (QAll.cons (QOp.p hT rfl rfl rfl rfl rfl) QAll.nil))))) ?_
    refine EAll.cons ?_ EAll.nil
    replace H := H.self
    refine EOp.e rfl rfl rfl (EffX.callF (bs := []) (cs := [_, _]) (f := 41) (sh := fun h => law03uDeltaTold_c1 _ _ _ h _) (H0 := H) rfl rfl Tryd.call41 rfl (hl := fun w m hr hw => lift_law03uDeltaTold_c1 _ _ _ w m hr _ hw)) ?_
    rintro _ _ ⟨v_10, h0u22, rfl, rfl, H⟩
    apply Stg.next [(15, _)] rfl rfl
    refine Stg.go [3, 5, 6] [4] rfl rfl (QAll.cons (QOp.q rfl rfl (Quiet1.loadSP (i := 2) (l := [_, _, _, _, _, _]) hT rfl rfl rfl rfl rfl rfl rfl rfl) rfl rfl) (QAll.cons (QOp.p hT rfl rfl rfl rfl rfl) (QAll.cons (QOp.p hT rfl rfl rfl rfl rfl) QAll.nil))) ?_
    refine EAll.cons ?_ EAll.nil
    replace H := H.self
    refine EOp.e rfl rfl rfl (EffX.call (f := 99) (sh := fun h => ref03uForm _ h _) (H0 := H) rfl Tryd.call99 rfl (hl := fun w m hr hw => lift_ref03uForm _ w m hr _ hw)) ?_
    rintro _ _ ⟨v_11, h0u24, rfl, rfl, H⟩
    apply Stg.next [(17, _)] rfl rfl
    refine Stg.go [5, 6] [9] rfl rfl (QAll.cons (QOp.p hT rfl rfl rfl rfl rfl) (QAll.cons (QOp.p hT rfl rfl rfl rfl rfl) QAll.nil)) ?_
    refine EAll.cons ?_ EAll.nil
    refine EOp.e rfl rfl rfl (EffX.storeSP (i := 1) (qv := [(_, [_, _, _, _, _, _]), (_, [_, _, _, _, _, _]), (_, [_, _, _, _, _, _])]) hT rfl rfl rfl rfl rfl rfl rfl rfl rfl rfl) ?_
    rintro _ _ rfl
    apply Stg.next [] rfl rfl
    refine Stg.go [5, 6] [10] rfl rfl (QAll.cons (QOp.p hT rfl rfl rfl rfl rfl) (QAll.cons (QOp.p hT rfl rfl rfl rfl rfl) QAll.nil)) ?_
    refine EAll.cons ?_ EAll.nil
    refine EOp.e rfl rfl rfl (EffX.storeSP (i := 0) (qv := [(_, [_, _, _, _, _, _]), (_, [_, _, _, _, _, _]), (_, [_, _, _, _, _, _])]) hT rfl rfl rfl rfl rfl rfl rfl rfl rfl rfl) ?_
    rintro _ _ rfl
    apply Stg.next [(10, _)] rfl rfl
    refine Stg.fin [5, 6, 11] rfl rfl (QAll.cons (QOp.p hT rfl rfl rfl rfl rfl) (QAll.cons (QOp.p hT rfl rfl rfl rfl rfl) (QAll.cons (QOp.p hT rfl rfl rfl rfl rfl) QAll.nil))) ?_
    replace H := H.self
    exact AtE.then_n ((HK1 _ (b_11, b_14) _ H).pickP (ts := [10, 8, 9, 7]) (is := [1, 0]) rfl rfl (by decide) rfl)
   refine EAll.cons ?_ EAll.nil
   refine EOp.e rfl rfl rfl (EffX.allocP (cs := [_, _, _, _, _, _]) hT rfl rfl H) ?_
   rintro _ _ ⟨b_15, _, rfl, rfl, he15, H⟩
   apply Stg.next [(9, _)] rfl rfl
   refine Stg.go [0, 1, 3, 5, 6] [2, 7] rfl rfl (QAll.cons (QOp.p hT rfl rfl rfl rfl rfl) (QAll.cons (QOp.p hT rfl rfl rfl rfl rfl) (QAll.cons (QOp.q rfl rfl (Quiet1.loadSP (i := 1) (l := [_, _, _, _, _, _]) hT rfl rfl rfl rfl rfl rfl rfl rfl) rfl rfl) (QAll.cons (QOp.p hT rfl rfl rfl rfl rfl) (QAll.cons (QOp.p hT rfl rfl rfl rfl rfl) QAll.nil))))) ?_
   refine EAll.cons ?_ ?_
   ·
    replace H := H.self
    refine EOp.e rfl rfl rfl (EffX.callF (bs := []) (cs := [_, _]) (f := 41) (sh := fun h => law03uDeltaTold_c1 _ _ _ h _) (H0 := H) rfl rfl Tryd.call41 rfl (hl := fun w m hr hw => lift_law03uDeltaTold_c1 _ _ _ w m hr _ hw)) ?_
    rintro _ _ ⟨v_12, h0u26, rfl, rfl, H⟩
    apply Stg.next [(15, _)] rfl rfl
    refine Stg.go [3, 5, 6] [4, 7] rfl rfl (QAll.cons (QOp.q rfl rfl (Quiet1.loadSP (i := 1) (l := [_, _, _, _, _, _]) hT rfl rfl rfl rfl rfl rfl rfl rfl) rfl rfl) (QAll.cons (QOp.p hT rfl rfl rfl rfl rfl) (QAll.cons (QOp.p hT rfl rfl rfl rfl rfl) QAll.nil))) ?_
    refine EAll.cons ?_ ?_
    ·
     replace H := H.self
     refine EOp.e rfl rfl rfl (EffX.call (f := 99) (sh := fun h => ref03uForm _ h _) (H0 := H) rfl Tryd.call99 rfl (hl := fun w m hr hw => lift_ref03uForm _ w m hr _ hw)) ?_
     rintro _ _ ⟨v_13, h0u28, rfl, rfl, H⟩
     apply Stg.next [(17, _)] rfl rfl
     refine Stg.go [5, 6] [7] rfl rfl (QAll.cons (QOp.p hT rfl rfl rfl rfl rfl) (QAll.cons (QOp.p hT rfl rfl rfl rfl rfl) QAll.nil)) ?_
     refine EAll.cons ?_ EAll.nil
     refine EOp.e rfl rfl rfl (EffX.allocP (cs := [_, _, _, _, _, _]) hT rfl rfl H) ?_
     rintro _ _ ⟨b_16, _, rfl, rfl, he16, H⟩
     apply Stg.next [(8, _)] rfl rfl
     refine Stg.go [5, 6] [9] rfl rfl (QAll.cons (QOp.p hT rfl rfl rfl rfl rfl) (QAll.cons (QOp.p hT rfl rfl rfl rfl rfl) QAll.nil)) ?_
     refine EAll.cons ?_ EAll.nil
     refine EOp.e rfl rfl rfl (EffX.storeSP (i := 0) (qv := [(_, [_, _, _, _, _, _]), (_, [_, _, _, _, _, _]), (_, [_, _, _, _, _, _])]) hT rfl rfl rfl rfl rfl rfl rfl rfl rfl rfl) ?_
     rintro _ _ rfl
     apply Stg.next [] rfl rfl
     refine Stg.go [5, 6] [10] rfl rfl (QAll.cons (QOp.p hT rfl rfl rfl rfl rfl) (QAll.cons (QOp.p hT rfl rfl rfl rfl rfl) QAll.nil)) ?_
     refine EAll.cons ?_ EAll.nil
     refine EOp.e rfl rfl rfl (EffX.storeSP (i := 1) (qv := [(_, [_, _, _, _, _, _]), (_, [_, _, _, _, _, _]), (_, [_, _, _, _, _, _])]) hT rfl rfl rfl rfl rfl rfl rfl rfl rfl rfl) ?_
     rintro _ _ rfl
     apply Stg.next [(10, _)] rfl rfl
     refine Stg.fin [5, 6, 11] rfl rfl (QAll.cons (QOp.p hT rfl rfl rfl rfl rfl) (QAll.cons (QOp.p hT rfl rfl rfl rfl rfl) (QAll.cons (QOp.p hT rfl rfl rfl rfl rfl) QAll.nil))) ?_
     replace H := H.self
     exact AtE.then_n ((HK1 _ (b_16, b_15) _ H).pickP (ts := [10, 8, 9, 7]) (is := [0, 1]) rfl rfl (by decide) rfl)
    refine EAll.cons ?_ EAll.nil
    refine EOp.e rfl rfl rfl (EffX.allocP (cs := [_, _, _, _, _, _]) hT rfl rfl H) ?_
    rintro _ _ ⟨b_17, _, rfl, rfl, he17, H⟩
    apply Stg.next [(8, _)] rfl rfl
    refine Stg.go [3, 5, 6] [4] rfl rfl (QAll.cons (QOp.q rfl rfl (Quiet1.loadSP (i := 2) (l := [_, _, _, _, _, _]) hT rfl rfl rfl rfl rfl rfl rfl rfl) rfl rfl) (QAll.cons (QOp.p hT rfl rfl rfl rfl rfl) (QAll.cons (QOp.p hT rfl rfl rfl rfl rfl) QAll.nil))) ?_
    refine EAll.cons ?_ EAll.nil
    replace H := H.self
    refine EOp.e rfl rfl rfl (EffX.call (f := 99) (sh := fun h => ref03uForm _ h _) (H0 := H) rfl Tryd.call99 rfl (hl := fun w m hr hw => lift_ref03uForm _ w m hr _ hw)) ?_
    rintro _ _ ⟨v_14, h0u30, rfl, rfl, H⟩
    apply Stg.next [(17, _)] rfl rfl
    refine Stg.go [5, 6] [9] rfl rfl (QAll.cons (QOp.p hT rfl rfl rfl rfl rfl) (QAll.cons (QOp.p hT rfl rfl rfl rfl rfl) QAll.nil)) ?_
    refine EAll.cons ?_ EAll.nil
    refine EOp.e rfl rfl rfl (EffX.storeSP (i := 0) (qv := [(_, [_, _, _, _, _, _]), (_, [_, _, _, _, _, _]), (_, [_, _, _, _, _, _])]) hT rfl rfl rfl rfl rfl rfl rfl rfl rfl rfl) ?_
    rintro _ _ rfl
    apply Stg.next [] rfl rfl
    refine Stg.go [5, 6] [10] rfl rfl (QAll.cons (QOp.p hT rfl rfl rfl rfl rfl) (QAll.cons (QOp.p hT rfl rfl rfl rfl rfl) QAll.nil)) ?_
    refine EAll.cons ?_ EAll.nil
    refine EOp.e rfl rfl rfl (EffX.storeSP (i := 1) (qv := [(_, [_, _, _, _, _, _]), (_, [_, _, _, _, _, _]), (_, [_, _, _, _, _, _])]) hT rfl rfl rfl rfl rfl rfl rfl rfl rfl rfl) ?_
    rintro _ _ rfl
    apply Stg.next [(10, _)] rfl rfl
    refine Stg.fin [5, 6, 11] rfl rfl (QAll.cons (QOp.p hT rfl rfl rfl rfl rfl) (QAll.cons (QOp.p hT rfl rfl rfl rfl rfl) (QAll.cons (QOp.p hT rfl rfl rfl rfl rfl) QAll.nil))) ?_
    replace H := H.self
    exact AtE.then_n ((HK1 _ (b_17, b_15) _ H).pickP (ts := [10, 8, 9, 7]) (is := [0, 1]) rfl rfl (by decide) rfl)
   refine EAll.cons ?_ EAll.nil
   refine EOp.e rfl rfl rfl (EffX.allocP (cs := [_, _, _, _, _, _]) hT rfl rfl H) ?_
   rintro _ _ ⟨b_18, _, rfl, rfl, he18, H⟩
   apply Stg.next [(8, _)] rfl rfl
   refine Stg.go [0, 1, 3, 5, 6] [2] rfl rfl (QAll.cons (QOp.p hT rfl rfl rfl rfl rfl) (QAll.cons (QOp.p hT rfl rfl rfl rfl rfl) (QAll.cons (QOp.q rfl rfl (Quiet1.loadSP (i := 2) (l := [_, _, _, _, _, _]) hT rfl rfl rfl rfl rfl rfl rfl rfl) rfl rfl) (QAll.cons (QOp.p hT rfl rfl rfl rfl rfl) (QAll.cons (QOp.p hT rfl rfl rfl rfl rfl) QAll.nil))))) ?_
   refine EAll.cons ?_ EAll.nil
   replace H := H.self
   refine EOp.e rfl rfl rfl (EffX.callF (bs := []) (cs := [_, _]) (f := 41) (sh := fun h => law03uDeltaTold_c1 _ _ _ h _) (H0 := H) rfl rfl Tryd.call41 rfl (hl := fun w m hr hw => lift_law03uDeltaTold_c1 _ _ _ w m hr _ hw)) ?_
   rintro _ _ ⟨v_15, h0u32, rfl, rfl, H⟩
   apply Stg.next [(15, _)] rfl rfl
   refine Stg.go [3, 5, 6] [4] rfl rfl (QAll.cons (QOp.q rfl rfl (Quiet1.loadSP (i := 2) (l := [_, _, _, _, _, _]) hT rfl rfl rfl rfl rfl rfl rfl rfl) rfl rfl) (QAll.cons (QOp.p hT rfl rfl rfl rfl rfl) (QAll.cons (QOp.p hT rfl rfl rfl rfl rfl) QAll.nil))) ?_
   refine EAll.cons ?_ EAll.nil
   replace H := H.self
   refine EOp.e rfl rfl rfl (EffX.call (f := 99) (sh := fun h => ref03uForm _ h _) (H0 := H) rfl Tryd.call99 rfl (hl := fun w m hr hw => lift_ref03uForm _ w m hr _ hw)) ?_
   rintro _ _ ⟨v_16, h0u34, rfl, rfl, H⟩
   apply Stg.next [(17, _)] rfl rfl
   refine Stg.go [5, 6] [9] rfl rfl (QAll.cons (QOp.p hT rfl rfl rfl rfl rfl) (QAll.cons (QOp.p hT rfl rfl rfl rfl rfl) QAll.nil)) ?_
   refine EAll.cons ?_ EAll.nil
   refine EOp.e rfl rfl rfl (EffX.storeSP (i := 0) (qv := [(_, [_, _, _, _, _, _]), (_, [_, _, _, _, _, _]), (_, [_, _, _, _, _, _])]) hT rfl rfl rfl rfl rfl rfl rfl rfl rfl rfl) ?_
   rintro _ _ rfl
   apply Stg.next [] rfl rfl
   refine Stg.go [5, 6] [10] rfl rfl (QAll.cons (QOp.p hT rfl rfl rfl rfl rfl) (QAll.cons (QOp.p hT rfl rfl rfl rfl rfl) QAll.nil)) ?_
   refine EAll.cons ?_ EAll.nil
   refine EOp.e rfl rfl rfl (EffX.storeSP (i := 1) (qv := [(_, [_, _, _, _, _, _]), (_, [_, _, _, _, _, _]), (_, [_, _, _, _, _, _])]) hT rfl rfl rfl rfl rfl rfl rfl rfl rfl rfl) ?_
   rintro _ _ rfl
   apply Stg.next [(10, _)] rfl rfl
   refine Stg.fin [5, 6, 11] rfl rfl (QAll.cons (QOp.p hT rfl rfl rfl rfl rfl) (QAll.cons (QOp.p hT rfl rfl rfl rfl rfl) (QAll.cons (QOp.p hT rfl rfl rfl rfl rfl) QAll.nil))) ?_
   replace H := H.self
   exact AtE.then_n ((HK1 _ (b_18, b_15) _ H).pickP (ts := [10, 8, 9, 7]) (is := [0, 1]) rfl rfl (by decide) rfl)
end Go.Proofs.YtdcdidecehbplaaDoor

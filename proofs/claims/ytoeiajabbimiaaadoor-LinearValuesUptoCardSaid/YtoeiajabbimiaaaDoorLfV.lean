/-
  The deep code does what the functions of the shallow text say: printed by lift.py.
-/
import Derived.Test.YtoeiajabbimiaaaDoorLfV2
set_option linter.unusedVariables false
set_option linter.unusedSimpArgs false
namespace Go.Proofs.YtoeiajabbimiaaaDoor
open Go Go.Lift Go.Sh
set_option maxRecDepth 100000
set_option maxHeartbeats 4000000
attribute [local irreducible] Calls AtL AtC AtE AtD Eff Quiet1 Stg qAt QAll eAt EAll nextK Code.wp


theorem lift_law12uLinearValues (p : Bool × Sl × Sl × Sl) (q : Bool × Sl × Sl × Sl) (k : Bool × Sl × Sl) (reals : Sl) (w : World) (m : Heap) (hr : Rel ⟨m, []⟩ w.heap) (S : Bool → Heap → Prop) (H : law12uLinearValues p q k reals m S) :
    Calls Tryd.prog 5 #[Value.agg (C_bool_sl_sl_sl p).toArray, Value.agg (C_bool_sl_sl_sl q).toArray, Value.agg (C_bool_sl_sl k).toArray, Sl.toV reals] w (Post ⟨w, m⟩ Value.bool S) := by
  refine Calls.lift (args := [Value.agg (C_bool_sl_sl_sl p).toArray, Value.agg (C_bool_sl_sl_sl q).toArray, Value.agg (C_bool_sl_sl k).toArray, Sl.toV reals]) Tryd.func5 rfl Tryd.ntmps5 (Nat.le_of_ble_eq_true rfl) hr (law12uLinearValues p q k reals m S) H (fun H => ?_)
  refine AtC.pick (ts := [0, 1, 2, 3]) rfl ?_
  unfold law12uLinearValues at H
  refine AtC.seqR ?_
  refine AtL.e rfl (EffX.boxP (cs := [_, _, _, _]) rfl rfl rfl H) ?_
  rintro _ _ ⟨b, _, rfl, rfl, _, H⟩
  refine AtL.e rfl (EffX.boxP (cs := [_, _, _, _]) rfl rfl rfl H) ?_
  rintro _ _ ⟨b_1, _, rfl, rfl, _, H⟩
  refine AtL.e rfl (EffX.boxP (cs := [_, _, _]) rfl rfl rfl H) ?_
  rintro _ _ ⟨b_2, _, rfl, rfl, _, H⟩
  replace H := H.self
  refine AtL.pures hT 1 _ _ _ _ rfl ?_
  refine AtL.nil ?_
  refine AtE.then_n (AtE.go ?_)
  refine AtC.seq ?_
  refine AtC.seqR ?_
  refine AtL.e rfl (EffX.call (f := 9) (sh := fun h => law12uspeaks h _) (H0 := H) rfl Tryd.call9 rfl (hl := fun w m hr hw => lift_law12uspeaks  w m hr _ hw)) ?_
  rintro _ _ ⟨v, h0u1, rfl, rfl, H⟩
  refine AtL.pures hT 1 _ _ _ _ rfl ?_
  refine AtL.nil ?_
  refine AtE.then_n (AtE.go ?_)
  refine AtC.condB H rfl (fun H => ?_) (fun H => ?_)
  ·
   refine AtC.seqR ?_
   refine AtL.pures hT 1 _ _ _ _ rfl ?_
   refine AtL.nil ?_
   refine AtE.then_n (AtE.go ?_)
   refine AtC.ret ?_
   refine AtE.then_r ?_
   exact AtE.retN (rs := [.tmp 8]) rfl (ResAll.cons (ResAt.tmp rfl) ResAll.nil) rfl H
  ·
   refine AtC.skip ?_
   refine AtE.then_n (AtE.go ?_)
   refine AtC.seq ?_
   refine AtC.joinSeq (β := Unit) (fun (t0 : Bool) (bb : Unit) => [(36, Value.bool t0)]) (fun (t0 : Bool) (bb : Unit) => []) [3, 4, 5, 6] [0, 1, 2] H (by exact rfl) (by exact rfl) (fun t0 bb h0u2 H => ?_) (fun J1 H HK1 => ?_)
   ·
    refine AtC.condB H rfl (fun H => ?_) (fun H => ?_)
    ·
     refine AtC.seqR ?_
     refine AtL.pures hT 1 _ _ _ _ rfl ?_
     refine AtL.nil ?_
     refine AtE.then_n (AtE.go ?_)
     refine AtC.ret ?_
     refine AtE.then_r ?_
     exact AtE.retN (rs := [.tmp 8]) rfl (ResAll.cons (ResAt.tmp rfl) ResAll.nil) rfl H
    ·
     refine AtC.skip ?_
     refine AtE.then_n (AtE.go ?_)
     refine AtC.seq ?_
     refine AtC.seqR ?_
     refine AtL.pures hT 3 _ _ _ _ rfl ?_
     refine AtL.nil ?_
     refine AtE.then_n (AtE.go ?_)
     refine AtC.block ?_
     refine AtC.loopM (fun (s0 : Int) => [(39, Value.int .i64 s0)]) (fun (s0 : Int) => []) [3, 4, 5, 6, 37, 38] [39, 3, 4, 5, 6, 37, 38] [0, 1, 2] [0, 1, 2] H (by exact rfl) (by exact rfl) (by exact rfl) (by decide) (by exact rfl) (fun Kp2 s0 h0u6 H Q2 HK2 => ?_)
     refine AtC.seqR ?_
     refine AtL.pures hT 1 _ _ _ _ rfl ?_
     refine AtL.nil ?_
     refine AtE.then_n (AtE.go ?_)
     refine AtC.seq ?_
     refine AtC.condB H rfl (fun H => ?_) (fun H => ?_)
     ·
      refine AtC.skip ?_
      refine AtE.then_n (AtE.go ?_)
      refine AtC.seq ?_
      refine AtC.block ?_
      refine AtC.seqR ?_
      obtain ⟨a_1_, hc2, hd2, H⟩ := H
      refine AtL.q rfl (Quiet1.idxS (s := _) hT rfl rfl rfl rfl rfl hc2 hd2) ?_
      obtain ⟨v_4, hc3, H⟩ := H
      refine AtL.q rfl (Quiet1.loadS hT rfl rfl rfl rfl hc3) ?_
      refine AtL.e rfl (EffX.allocP (cs := [_, _, _]) hT rfl rfl H) ?_
      rintro _ _ ⟨b_3, _, rfl, rfl, _, H⟩
      replace H := H.self
      refine AtL.e rfl (EffX.storeSP (i := 0) (qv := [(_, [_, _, _]), (_, [_, _, _]), (_, [_, _, _, _]), (_, [_, _, _, _])]) hT rfl rfl rfl rfl rfl rfl rfl rfl rfl rfl) ?_
      rintro _ _ rfl
      refine AtL.nil ?_
      refine AtE.then_n (AtE.go ?_)
      refine AtC.seqR ?_
      refine AtL.q rfl (Quiet1.loadSP (i := 0) (l := [_, _, _]) hT rfl rfl rfl rfl rfl rfl rfl rfl) ?_
      refine AtL.e rfl (EffX.call (f := 23) (sh := fun h => ref02uRight _ h _) (H0 := H) rfl Tryd.call23 rfl (hl := fun w m hr hw => lift_ref02uRight _ w m hr _ hw)) ?_
      rintro _ _ ⟨v_5, h0u8, rfl, rfl, H⟩
      refine AtL.pures hT 1 _ _ _ _ rfl ?_
      refine AtL.nil ?_
      refine AtE.then_n (AtE.go ?_)
      refine AtC.condB H rfl (fun H => ?_) (fun H => ?_)
      ·
       refine AtC.seqR ?_
       refine AtL.pures hT 1 _ _ _ _ rfl ?_
       refine AtL.nil ?_
       refine AtE.then_n (AtE.go ?_)
       refine AtC.ret ?_
       refine AtE.blk_r ?_
       refine AtE.then_r ?_
       refine AtE.then_r ?_
       refine AtE.blk_r ?_
       refine AtE.then_r ?_
       exact AtE.retN (rs := [.tmp 8]) rfl (ResAll.cons (ResAt.tmp rfl) ResAll.nil) rfl H
      ·
       refine AtC.skip ?_
       refine AtE.blk_n ?_
       refine AtE.then_n (AtE.go ?_)
       refine AtC.region ?_
       refine AtL.pures hT 2 _ _ _ _ rfl ?_
       refine AtL.nil ?_
       exact AtE.then_n ((HK2 _ _ H).pickP (ts := [39, 3, 4, 5, 6, 37, 38]) (is := [1, 2, 3]) rfl rfl (by decide) rfl)
     ·
      refine AtC.exit ?_
      refine AtE.then_x ?_
      refine AtE.then_x ?_
      refine AtE.blk_hit ?_
      refine AtE.then_n (AtE.go ?_)
      refine AtC.seqR ?_
      refine AtL.e rfl (EffX.call (f := 12) (sh := fun h => nat_New _ h _) (H0 := H) rfl Tryd.call12 rfl (hl := fun w m hr hw => lift_nat_New _ w m hr _ hw)) ?_
      rintro _ _ ⟨v_6, h0u9, rfl, rfl, H⟩
      refine AtL.pures hT 1 _ _ _ _ rfl ?_
      refine AtL.nil ?_
      refine AtE.then_n (AtE.go ?_)
      refine AtC.seqR ?_
      refine AtL.pures hT 1 _ _ _ _ rfl ?_
      refine AtL.q rfl (Quiet1.loadSP (i := 2) (l := [_, _, _, _]) hT rfl rfl rfl rfl rfl rfl rfl rfl) ?_
      refine AtL.pures hT 1 _ _ _ _ rfl ?_
      refine AtL.e rfl (EffX.call (f := 24) (sh := fun h => linear_Value _ _ _ h _) (H0 := H) rfl Tryd.call24 rfl (hl := fun w m hr hw => lift_linear_Value _ _ _ w m hr _ hw)) ?_
      rintro _ _ ⟨v_7, h0u10, rfl, rfl, H⟩
      refine AtL.pures hT 3 _ _ _ _ rfl ?_
      refine AtL.e rfl (EffX.allocP (cs := [_, _, _]) hT rfl rfl H) ?_
      rintro _ _ ⟨b_4, _, rfl, rfl, _, H⟩
      replace H := H.self
      refine AtL.e rfl (EffX.storeSP (i := 0) (qv := [(_, [_, _, _]), (_, [_, _, _]), (_, [_, _, _, _]), (_, [_, _, _, _])]) hT rfl rfl rfl rfl rfl rfl rfl rfl rfl rfl) ?_
      rintro _ _ rfl
      refine AtL.pures hT 1 _ _ _ _ rfl ?_
      refine AtL.nil ?_
      refine AtE.then_n (AtE.go ?_)
      refine AtC.seqR ?_
      refine AtL.pures hT 1 _ _ _ _ rfl ?_
      refine AtL.q rfl (Quiet1.loadSP (i := 2) (l := [_, _, _, _]) hT rfl rfl rfl rfl rfl rfl rfl rfl) ?_
      refine AtL.pures hT 1 _ _ _ _ rfl ?_
      refine AtL.e rfl (EffX.call (f := 24) (sh := fun h => linear_Value _ _ _ h _) (H0 := H) rfl Tryd.call24 rfl (hl := fun w m hr hw => lift_linear_Value _ _ _ w m hr _ hw)) ?_
      rintro _ _ ⟨v_8, h0u12, rfl, rfl, H⟩
      refine AtL.pures hT 3 _ _ _ _ rfl ?_
      refine AtL.e rfl (EffX.allocP (cs := [_, _, _]) hT rfl rfl H) ?_
      rintro _ _ ⟨b_5, _, rfl, rfl, _, H⟩
      replace H := H.self
      refine AtL.e rfl (EffX.storeSP (i := 0) (qv := [(_, [_, _, _]), (_, [_, _, _]), (_, [_, _, _]), (_, [_, _, _, _]), (_, [_, _, _, _])]) hT rfl rfl rfl rfl rfl rfl rfl rfl rfl rfl) ?_
      rintro _ _ rfl
      refine AtL.pures hT 1 _ _ _ _ rfl ?_
      refine AtL.nil ?_
      refine AtE.then_n (AtE.go ?_)
      refine AtC.seq ?_
      refine AtC.joinSeq (β := Unit) (fun (t0u1 : Bool) (bb_1 : Unit) => [(67, Value.bool t0u1)]) (fun (t0u1 : Bool) (bb_1 : Unit) => []) [3, 4, 5, 6, 11, 12, 14] [0, 1, 2, 3, 4] H (by exact rfl) (by exact rfl) (fun t0u1 bb_1 h0u14 H => ?_) (fun J5 H HK5 => ?_)
      ·
       refine AtC.condB H rfl (fun H => ?_) (fun H => ?_)
       ·
        refine AtC.seqR ?_
        refine AtL.pures hT 1 _ _ _ _ rfl ?_
        refine AtL.nil ?_
        refine AtE.then_n (AtE.go ?_)
        refine AtC.ret ?_
        refine AtE.then_r ?_
        exact AtE.retN (rs := [.tmp 8]) rfl (ResAll.cons (ResAt.tmp rfl) ResAll.nil) rfl H
       ·
        refine AtC.skip ?_
        refine AtE.then_n (AtE.go ?_)
        refine AtC.seqR ?_
        refine AtL.pures hT 2 _ _ _ _ rfl ?_
        refine AtL.q rfl (Quiet1.loadSP (i := 4) (l := [_, _, _, _]) hT rfl rfl rfl rfl rfl rfl rfl rfl) ?_
        refine AtL.q rfl (Quiet1.loadSP (i := 2) (l := [_, _, _]) hT rfl rfl rfl rfl rfl rfl rfl rfl) ?_
        refine AtL.q rfl (Quiet1.loadSP (i := 3) (l := [_, _, _, _]) hT rfl rfl rfl rfl rfl rfl rfl rfl) ?_
        refine AtL.e rfl (EffX.call (f := 19) (sh := fun h => linear_Add _ _ _ _ h _) (H0 := H) rfl Tryd.call19 rfl (hl := fun w m hr hw => lift_linear_Add _ _ _ _ w m hr _ hw)) ?_
        rintro _ _ ⟨v_9, h0u15, rfl, rfl, H⟩
        refine AtL.pures hT 1 _ _ _ _ rfl ?_
        refine AtL.e rfl (EffX.call (f := 24) (sh := fun h => linear_Value _ _ _ h _) (H0 := H) rfl Tryd.call24 rfl (hl := fun w m hr hw => lift_linear_Value _ _ _ w m hr _ hw)) ?_
        rintro _ _ ⟨v_10, h0u16, rfl, rfl, H⟩
        refine AtL.pures hT 3 _ _ _ _ rfl ?_
        refine AtL.e rfl (EffX.allocP (cs := [_, _, _]) hT rfl rfl H) ?_
        rintro _ _ ⟨b_6, _, rfl, rfl, _, H⟩
        replace H := H.self
        refine AtL.e rfl (EffX.storeSP (i := 0) (qv := [(_, [_, _, _]), (_, [_, _, _]), (_, [_, _, _]), (_, [_, _, _]), (_, [_, _, _, _]), (_, [_, _, _, _])]) hT rfl rfl rfl rfl rfl rfl rfl rfl rfl rfl) ?_
        rintro _ _ rfl
        refine AtL.pures hT 1 _ _ _ _ rfl ?_
        refine AtL.nil ?_
        refine AtE.then_n (AtE.go ?_)
        refine AtC.seqR ?_
        refine AtL.pures hT 2 _ _ _ _ rfl ?_
        refine AtL.q rfl (Quiet1.loadSP (i := 3) (l := [_, _, _]) hT rfl rfl rfl rfl rfl rfl rfl rfl) ?_
        refine AtL.q rfl (Quiet1.loadSP (i := 4) (l := [_, _, _, _]) hT rfl rfl rfl rfl rfl rfl rfl rfl) ?_
        refine AtL.e rfl (EffX.call (f := 25) (sh := fun h => linear_Scale _ _ _ h _) (H0 := H) rfl Tryd.call25 rfl (hl := fun w m hr hw => lift_linear_Scale _ _ _ w m hr _ hw)) ?_
        rintro _ _ ⟨v_11, h0u18, rfl, rfl, H⟩
        refine AtL.pures hT 1 _ _ _ _ rfl ?_
        refine AtL.e rfl (EffX.call (f := 24) (sh := fun h => linear_Value _ _ _ h _) (H0 := H) rfl Tryd.call24 rfl (hl := fun w m hr hw => lift_linear_Value _ _ _ w m hr _ hw)) ?_
        rintro _ _ ⟨v_12, h0u19, rfl, rfl, H⟩
        refine AtL.pures hT 3 _ _ _ _ rfl ?_
        refine AtL.e rfl (EffX.allocP (cs := [_, _, _]) hT rfl rfl H) ?_
        rintro _ _ ⟨b_7, _, rfl, rfl, _, H⟩
        replace H := H.self
        refine AtL.e rfl (EffX.storeSP (i := 0) (qv := [(_, [_, _, _]), (_, [_, _, _]), (_, [_, _, _]), (_, [_, _, _]), (_, [_, _, _]), (_, [_, _, _, _]), (_, [_, _, _, _])]) hT rfl rfl rfl rfl rfl rfl rfl rfl rfl rfl) ?_
        rintro _ _ rfl
        refine AtL.pures hT 1 _ _ _ _ rfl ?_
        refine AtL.nil ?_
        refine AtE.then_n (AtE.go ?_)
        refine AtC.joinSeq (β := Unit) (fun (t0u2 : Bool) (bb_2 : Unit) => [(8, Value.bool t0u2)]) (fun (t0u2 : Bool) (bb_2 : Unit) => []) [] [] H (by exact rfl) (by exact rfl) (fun t0u2 bb_2 h0u21 H => ?_) (fun J6 H HK6 => ?_)
        ·
         refine AtC.ret ?_
         exact AtE.retN (rs := [.tmp 8]) rfl (ResAll.cons (ResAt.tmp rfl) ResAll.nil) rfl H
        ·
         rcases iteB.cases H with ⟨hb6, H⟩ | ⟨hb6, H⟩
         ·
          rcases iteB.cases H with ⟨hb7, H⟩ | ⟨hb7, H⟩
          ·
           apply AtC.stages [13, 14, 15, 22, 23, 27] [[], [], [], [], [], [], [], [], [], [], [], [], [], [], [13], [13, 14], [13, 14, 15], [13, 14, 15], [13, 14, 15], [13, 14, 15], [13, 14, 15], [13, 14, 15], [13, 14, 15], [13, 14, 15, 22], [13, 14, 15, 22, 23], [13, 14, 15, 22, 23], [13, 14, 15, 22, 23], [13, 14, 15, 22, 23], [13, 14, 15, 22, 23, 27], [13, 14, 15, 22, 23, 27], [13, 14, 15, 22, 23, 27]] [[], [0], [0, 1], [0, 1, 2], [0, 1, 2, 3], [0, 1, 2, 3, 4], [0, 1, 2, 3, 4, 5], [0, 1, 2, 3, 4, 5, 6], [0, 1, 2, 3, 4, 5, 6], [0, 1, 2, 3, 4, 5, 6], [0, 1, 2, 3, 4, 5, 6], [0, 1, 2, 3, 4, 5, 6], [0, 1, 2, 3, 4, 5, 6], [0, 1, 2, 3, 4, 5, 6, 10, 11, 12], [0, 1, 2, 3, 4, 5, 6, 8, 9, 10, 11, 12, 13], [0, 1, 2, 3, 4, 5, 6, 7, 8, 9, 10, 11, 12, 13, 14], [0, 1, 2, 3, 4, 5, 6, 7, 8, 9, 10, 11, 12, 13, 14, 15], [0, 1, 2, 3, 4, 5, 6, 7, 8, 9, 10, 11, 12, 13, 14, 15, 16], [0, 1, 2, 3, 4, 5, 6, 7, 8, 9, 10, 11, 12, 13, 14, 15, 16, 17], [0, 1, 2, 3, 4, 5, 6, 7, 8, 9, 10, 11, 12, 13, 14, 15, 16, 17], [0, 1, 2, 3, 4, 5, 6, 7, 8, 9, 10, 11, 12, 13, 14, 15, 16, 17], [0, 1, 2, 3, 4, 5, 6, 7, 8, 9, 10, 11, 12, 13, 14, 15, 16, 17], [0, 1, 2, 3, 4, 5, 6, 7, 8, 9, 10, 11, 12, 13, 14, 15, 16, 17, 19, 20, 21], [0, 1, 2, 3, 4, 5, 6, 7, 8, 9, 10, 11, 12, 13, 14, 15, 16, 17, 18, 19, 20, 21, 22], [0, 1, 2, 3, 4, 5, 6, 7, 8, 9, 10, 11, 12, 13, 14, 15, 16, 17, 18, 19, 20, 21, 22, 23], [0, 1, 2, 3, 4, 5, 6, 7, 8, 9, 10, 11, 12, 13, 14, 15, 16, 17, 18, 19, 20, 21, 22, 23, 24], [0, 1, 2, 3, 4, 5, 6, 7, 8, 9, 10, 11, 12, 13, 14, 15, 16, 17, 18, 19, 20, 21, 22, 23, 24, 25], [0, 1, 2, 3, 4, 5, 6, 7, 8, 9, 10, 11, 12, 13, 14, 15, 16, 17, 18, 19, 20, 21, 22, 23, 24, 25, 26], [0, 1, 2, 3, 4, 5, 6, 7, 8, 9, 10, 11, 12, 13, 14, 15, 16, 17, 18, 19, 20, 21, 22, 23, 24, 25, 26, 27], [0, 1, 2, 3, 4, 5, 6, 7, 8, 9, 10, 11, 12, 13, 14, 15, 16, 17, 18, 19, 20, 21, 22, 23, 24, 25, 26, 27, 28], [0, 1, 2, 3, 4, 5, 6, 7, 8, 9, 10, 11, 12, 13, 14, 15, 16, 17, 18, 19, 20, 21, 22, 23, 24, 25, 26, 27, 28, 29]] hmix (by kernel_rfl) [(89, _), (90, _), (91, _), (92, _), (93, _), (94, _), (95, _), (96, _), (97, _), (98, _), (99, _), (100, _), (101, _)] rfl 6 rfl
           refine Stg.known (t := 91) rfl hb6 ?_
           refine Stg.known (t := 95) rfl hb7 ?_
           refine Stg.go [0, 1, 2, 3, 4, 5, 6, 7, 8, 9, 10, 11, 12] [13] rfl rfl (QAll.cons (QOp.p hT rfl rfl rfl rfl rfl) (QAll.cons (QOp.p hT rfl rfl rfl rfl rfl) (QAll.cons (QOp.pk hT rfl rfl rfl rfl hb6 rfl) (QAll.cons (QOp.yp hT rfl rfl rfl rfl rfl rfl rfl) (QAll.cons (QOp.yp hT rfl rfl rfl rfl rfl rfl rfl) (QAll.cons (QOp.p hT rfl rfl rfl rfl rfl) (QAll.cons (QOp.pk hT rfl rfl rfl rfl hb7 rfl) (QAll.cons (QOp.y rfl rfl rfl rfl (Quiet1.loadSP (i := 1) (l := [_, _, _]) hT rfl rfl rfl rfl rfl rfl rfl rfl) rfl rfl) (QAll.cons (QOp.yp hT rfl rfl rfl rfl rfl rfl rfl) (QAll.cons (QOp.y rfl rfl rfl rfl (Quiet1.loadSP (i := 3) (l := [_, _, _]) hT rfl rfl rfl rfl rfl rfl rfl rfl) rfl rfl) (QAll.cons (QOp.yp hT rfl rfl rfl rfl rfl rfl rfl) (QAll.cons (QOp.y rfl rfl rfl rfl (Quiet1.loadSP (i := 4) (l := [_, _, _]) hT rfl rfl rfl rfl rfl rfl rfl rfl) rfl rfl) (QAll.cons (QOp.y rfl rfl rfl rfl (Quiet1.loadSP (i := 2) (l := [_, _, _]) hT rfl rfl rfl rfl rfl rfl rfl rfl) rfl rfl) QAll.nil))))))))))))) ?_
           refine EAll.cons ?_ EAll.nil
           refine EOp.y rfl rfl rfl rfl rfl (EffX.call (f := 27) (sh := fun h => ratio_Mul _ _ _ h _) (H0 := H) rfl Tryd.call27 rfl (hl := fun w m hr hw => lift_ratio_Mul _ _ _ w m hr _ hw)) ?_
           rintro _ _ ⟨v_13, h0u22, rfl, rfl, H⟩
           apply Stg.next [(102, _)] rfl rfl
           refine Stg.go [7, 8, 9] [14] rfl rfl (QAll.cons (QOp.y rfl rfl rfl rfl (Quiet1.loadSP (i := 1) (l := [_, _, _]) hT rfl rfl rfl rfl rfl rfl rfl rfl) rfl rfl) (QAll.cons (QOp.yp hT rfl rfl rfl rfl rfl rfl rfl) (QAll.cons (QOp.y rfl rfl rfl rfl (Quiet1.loadSP (i := 3) (l := [_, _, _]) hT rfl rfl rfl rfl rfl rfl rfl rfl) rfl rfl) QAll.nil))) ?_
           refine EAll.cons ?_ EAll.nil
           refine EOp.y rfl rfl rfl rfl rfl (EffX.call (f := 26) (sh := fun h => ratio_Add _ _ _ h _) (H0 := H) rfl Tryd.call26 rfl (hl := fun w m hr hw => lift_ratio_Add _ _ _ w m hr _ hw)) ?_
           rintro _ _ ⟨v_14, h0u23, rfl, rfl, H⟩
           apply Stg.next [(103, _)] rfl rfl
           refine Stg.go [7] [15] rfl rfl (QAll.cons (QOp.y rfl rfl rfl rfl (Quiet1.loadSP (i := 1) (l := [_, _, _]) hT rfl rfl rfl rfl rfl rfl rfl rfl) rfl rfl) QAll.nil) ?_
           refine EAll.cons ?_ EAll.nil
           refine EOp.y rfl rfl rfl rfl rfl (EffX.call (f := 14) (sh := fun h => ref02uSame _ _ h _) (H0 := H) rfl Tryd.call14 rfl (hl := fun w m hr hw => lift_ref02uSame _ _ w m hr _ hw)) ?_
           rintro _ _ ⟨v_15, h0u24, rfl, rfl, H⟩
           rcases iteB.cases H with ⟨hb8, H⟩ | ⟨hb8, H⟩
           ·
            apply Stg.next [(104, _), (105, _), (106, _), (107, _), (108, _), (109, _), (110, _)] rfl rfl
            refine Stg.known (t := 106) rfl hb8 ?_
            refine Stg.go [16, 17, 18, 19, 20, 21] [22] rfl rfl (QAll.cons (QOp.p hT rfl rfl rfl rfl rfl) (QAll.cons (QOp.pk hT rfl rfl rfl rfl hb8 rfl) (QAll.cons (QOp.y rfl rfl rfl rfl (Quiet1.loadSP (i := 0) (l := [_, _, _]) hT rfl rfl rfl rfl rfl rfl rfl rfl) rfl rfl) (QAll.cons (QOp.yp hT rfl rfl rfl rfl rfl rfl rfl) (QAll.cons (QOp.y rfl rfl rfl rfl (Quiet1.loadSP (i := 4) (l := [_, _, _]) hT rfl rfl rfl rfl rfl rfl rfl rfl) rfl rfl) (QAll.cons (QOp.y rfl rfl rfl rfl (Quiet1.loadSP (i := 2) (l := [_, _, _]) hT rfl rfl rfl rfl rfl rfl rfl rfl) rfl rfl) QAll.nil)))))) ?_
            refine EAll.cons ?_ EAll.nil
            refine EOp.y rfl rfl rfl rfl rfl (EffX.call (f := 27) (sh := fun h => ratio_Mul _ _ _ h _) (H0 := H) rfl Tryd.call27 rfl (hl := fun w m hr hw => lift_ratio_Mul _ _ _ w m hr _ hw)) ?_
            rintro _ _ ⟨v_16, h0u25, rfl, rfl, H⟩
            apply Stg.next [(111, _)] rfl rfl
            refine Stg.go [18] [23] rfl rfl (QAll.cons (QOp.y rfl rfl rfl rfl (Quiet1.loadSP (i := 0) (l := [_, _, _]) hT rfl rfl rfl rfl rfl rfl rfl rfl) rfl rfl) QAll.nil) ?_
            refine EAll.cons ?_ EAll.nil
            refine EOp.y rfl rfl rfl rfl rfl (EffX.call (f := 14) (sh := fun h => ref02uSame _ _ h _) (H0 := H) rfl Tryd.call14 rfl (hl := fun w m hr hw => lift_ref02uSame _ _ w m hr _ hw)) ?_
            rintro _ _ ⟨v_17, h0u26, rfl, rfl, H⟩
            rcases iteB.cases H with ⟨hb9, H⟩ | ⟨hb9, H⟩
            ·
             apply Stg.next [(112, _), (113, _), (114, _), (115, _)] rfl rfl
             refine Stg.known (t := 114) rfl hb9 ?_
             refine Stg.go [24, 25, 26] [27] rfl rfl (QAll.cons (QOp.p hT rfl rfl rfl rfl rfl) (QAll.cons (QOp.pk hT rfl rfl rfl rfl hb9 rfl) (QAll.cons (QOp.yp hT rfl rfl rfl rfl rfl rfl rfl) QAll.nil))) ?_
             refine EAll.cons ?_ EAll.nil
             refine EOp.y rfl rfl rfl rfl rfl (EffX.call (f := 20) (sh := fun h => nat_Bench_Over _ h _) (H0 := H) rfl Tryd.call20 rfl (hl := fun w m hr hw => lift_nat_Bench_Over _ w m hr _ hw)) ?_
             rintro _ _ ⟨v_18, h0u27, rfl, rfl, H⟩
             apply Stg.next [(116, _), (117, _), (118, _), (8, _)] rfl rfl
             refine Stg.fin [28, 29, 30] rfl rfl (QAll.cons (QOp.yp hT rfl rfl rfl rfl rfl rfl rfl) (QAll.cons (QOp.p hT rfl rfl rfl rfl rfl) (QAll.cons (QOp.p hT rfl rfl rfl rfl rfl) QAll.nil))) ?_
             exact AtE.then_n ((HK6 _ () _ H).pickP (ts := [8]) (is := []) rfl rfl (by decide) rfl)
            ·
             apply Stg.next [(112, _), (113, _), (114, _), (115, _)] rfl rfl
             refine Stg.known (t := 114) rfl hb9 ?_
             refine Stg.go [24, 25, 26] [27] rfl rfl (QAll.cons (QOp.p hT rfl rfl rfl rfl rfl) (QAll.cons (QOp.pk hT rfl rfl rfl rfl hb9 rfl) (QAll.cons (QOp.no rfl rfl rfl rfl (by decide) rfl rfl) QAll.nil))) ?_
             refine EAll.cons ?_ EAll.nil
             refine EOp.no rfl rfl rfl rfl (by decide) rfl ?_
             apply Stg.next [(116, _), (117, _), (118, _), (8, _)] rfl rfl
             refine Stg.fin [28, 29, 30] rfl rfl (QAll.cons (QOp.no rfl rfl rfl rfl (by decide) rfl rfl) (QAll.cons (QOp.p hT rfl rfl rfl rfl rfl) (QAll.cons (QOp.p hT rfl rfl rfl rfl rfl) QAll.nil))) ?_
             exact AtE.then_n ((HK6 _ () _ H).pickP (ts := [8]) (is := []) rfl rfl (by decide) rfl)
           ·
            apply Stg.next [(104, _), (105, _), (106, _), (107, _), (108, _), (109, _), (110, _)] rfl rfl
            refine Stg.known (t := 106) rfl hb8 ?_
            refine Stg.go [16, 17, 18, 19, 20, 21] [22] rfl rfl (QAll.cons (QOp.p hT rfl rfl rfl rfl rfl) (QAll.cons (QOp.pk hT rfl rfl rfl rfl hb8 rfl) (QAll.cons (QOp.no rfl rfl rfl rfl (by decide) rfl rfl) (QAll.cons (QOp.no rfl rfl rfl rfl (by decide) rfl rfl) (QAll.cons (QOp.no rfl rfl rfl rfl (by decide) rfl rfl) (QAll.cons (QOp.no rfl rfl rfl rfl (by decide) rfl rfl) QAll.nil)))))) ?_
            refine EAll.cons ?_ EAll.nil
            refine EOp.no rfl rfl rfl rfl (by decide) rfl ?_
            apply Stg.next [(111, _)] rfl rfl
            refine Stg.go [18] [23] rfl rfl (QAll.cons (QOp.no rfl rfl rfl rfl (by decide) rfl rfl) QAll.nil) ?_
            refine EAll.cons ?_ EAll.nil
            refine EOp.no rfl rfl rfl rfl (by decide) rfl ?_
            apply Stg.next [(112, _), (113, _), (114, _), (115, _)] rfl rfl
            refine Stg.go [24, 25, 26] [27] rfl rfl (QAll.cons (QOp.p hT rfl rfl rfl rfl rfl) (QAll.cons (QOp.p hT rfl rfl rfl rfl rfl) (QAll.cons (QOp.no rfl rfl rfl rfl (by decide) rfl rfl) QAll.nil))) ?_
            refine EAll.cons ?_ EAll.nil
            refine EOp.no rfl rfl rfl rfl (by decide) rfl ?_
            apply Stg.next [(116, _), (117, _), (118, _), (8, _)] rfl rfl
            refine Stg.fin [28, 29, 30] rfl rfl (QAll.cons (QOp.no rfl rfl rfl rfl (by decide) rfl rfl) (QAll.cons (QOp.p hT rfl rfl rfl rfl rfl) (QAll.cons (QOp.p hT rfl rfl rfl rfl rfl) QAll.nil))) ?_
            exact AtE.then_n ((HK6 _ () _ H).pickP (ts := [8]) (is := []) rfl rfl (by decide) rfl)
          ·
           apply AtC.stages [13, 14, 15, 22, 23, 27] [[], [], [], [], [], [], [], [], [], [], [], [], [], [], [13], [13, 14], [13, 14, 15], [13, 14, 15], [13, 14, 15], [13, 14, 15], [13, 14, 15], [13, 14, 15], [13, 14, 15], [13, 14, 15, 22], [13, 14, 15, 22, 23], [13, 14, 15, 22, 23], [13, 14, 15, 22, 23], [13, 14, 15, 22, 23], [13, 14, 15, 22, 23, 27], [13, 14, 15, 22, 23, 27], [13, 14, 15, 22, 23, 27]] [[], [0], [0, 1], [0, 1, 2], [0, 1, 2, 3], [0, 1, 2, 3, 4], [0, 1, 2, 3, 4, 5], [0, 1, 2, 3, 4, 5, 6], [0, 1, 2, 3, 4, 5, 6], [0, 1, 2, 3, 4, 5, 6], [0, 1, 2, 3, 4, 5, 6], [0, 1, 2, 3, 4, 5, 6], [0, 1, 2, 3, 4, 5, 6], [0, 1, 2, 3, 4, 5, 6, 10, 11, 12], [0, 1, 2, 3, 4, 5, 6, 8, 9, 10, 11, 12, 13], [0, 1, 2, 3, 4, 5, 6, 7, 8, 9, 10, 11, 12, 13, 14], [0, 1, 2, 3, 4, 5, 6, 7, 8, 9, 10, 11, 12, 13, 14, 15], [0, 1, 2, 3, 4, 5, 6, 7, 8, 9, 10, 11, 12, 13, 14, 15, 16], [0, 1, 2, 3, 4, 5, 6, 7, 8, 9, 10, 11, 12, 13, 14, 15, 16, 17], [0, 1, 2, 3, 4, 5, 6, 7, 8, 9, 10, 11, 12, 13, 14, 15, 16, 17], [0, 1, 2, 3, 4, 5, 6, 7, 8, 9, 10, 11, 12, 13, 14, 15, 16, 17], [0, 1, 2, 3, 4, 5, 6, 7, 8, 9, 10, 11, 12, 13, 14, 15, 16, 17], [0, 1, 2, 3, 4, 5, 6, 7, 8, 9, 10, 11, 12, 13, 14, 15, 16, 17, 19, 20, 21], [0, 1, 2, 3, 4, 5, 6, 7, 8, 9, 10, 11, 12, 13, 14, 15, 16, 17, 18, 19, 20, 21, 22], [0, 1, 2, 3, 4, 5, 6, 7, 8, 9, 10, 11, 12, 13, 14, 15, 16, 17, 18, 19, 20, 21, 22, 23], [0, 1, 2, 3, 4, 5, 6, 7, 8, 9, 10, 11, 12, 13, 14, 15, 16, 17, 18, 19, 20, 21, 22, 23, 24], [0, 1, 2, 3, 4, 5, 6, 7, 8, 9, 10, 11, 12, 13, 14, 15, 16, 17, 18, 19, 20, 21, 22, 23, 24, 25], [0, 1, 2, 3, 4, 5, 6, 7, 8, 9, 10, 11, 12, 13, 14, 15, 16, 17, 18, 19, 20, 21, 22, 23, 24, 25, 26], [0, 1, 2, 3, 4, 5, 6, 7, 8, 9, 10, 11, 12, 13, 14, 15, 16, 17, 18, 19, 20, 21, 22, 23, 24, 25, 26, 27], [0, 1, 2, 3, 4, 5, 6, 7, 8, 9, 10, 11, 12, 13, 14, 15, 16, 17, 18, 19, 20, 21, 22, 23, 24, 25, 26, 27, 28], [0, 1, 2, 3, 4, 5, 6, 7, 8, 9, 10, 11, 12, 13, 14, 15, 16, 17, 18, 19, 20, 21, 22, 23, 24, 25, 26, 27, 28, 29]] hmix (by kernel_rfl) [(89, _), (90, _), (91, _), (92, _), (93, _), (94, _), (95, _), (96, _), (97, _), (98, _), (99, _), (100, _), (101, _)] rfl 6 rfl
           refine Stg.known (t := 91) rfl hb6 ?_
           refine Stg.known (t := 95) rfl hb7 ?_
           refine Stg.go [0, 1, 2, 3, 4, 5, 6, 7, 8, 9, 10, 11, 12] [13] rfl rfl (QAll.cons (QOp.p hT rfl rfl rfl rfl rfl) (QAll.cons (QOp.p hT rfl rfl rfl rfl rfl) (QAll.cons (QOp.pk hT rfl rfl rfl rfl hb6 rfl) (QAll.cons (QOp.yp hT rfl rfl rfl rfl rfl rfl rfl) (QAll.cons (QOp.yp hT rfl rfl rfl rfl rfl rfl rfl) (QAll.cons (QOp.p hT rfl rfl rfl rfl rfl) (QAll.cons (QOp.pk hT rfl rfl rfl rfl hb7 rfl) (QAll.cons (QOp.no rfl rfl rfl rfl (by decide) rfl rfl) (QAll.cons (QOp.no rfl rfl rfl rfl (by decide) rfl rfl) (QAll.cons (QOp.no rfl rfl rfl rfl (by decide) rfl rfl) (QAll.cons (QOp.no rfl rfl rfl rfl (by decide) rfl rfl) (QAll.cons (QOp.no rfl rfl rfl rfl (by decide) rfl rfl) (QAll.cons (QOp.no rfl rfl rfl rfl (by decide) rfl rfl) QAll.nil))))))))))))) ?_
           refine EAll.cons ?_ EAll.nil
           refine EOp.no rfl rfl rfl rfl (by decide) rfl ?_
           apply Stg.next [(102, _)] rfl rfl
           refine Stg.go [7, 8, 9] [14] rfl rfl (QAll.cons (QOp.no rfl rfl rfl rfl (by decide) rfl rfl) (QAll.cons (QOp.no rfl rfl rfl rfl (by decide) rfl rfl) (QAll.cons (QOp.no rfl rfl rfl rfl (by decide) rfl rfl) QAll.nil))) ?_
           refine EAll.cons ?_ EAll.nil
           refine EOp.no rfl rfl rfl rfl (by decide) rfl ?_
           apply Stg.next [(103, _)] rfl rfl
           refine Stg.go [7] [15] rfl rfl (QAll.cons (QOp.no rfl rfl rfl rfl (by decide) rfl rfl) QAll.nil) ?_
           refine EAll.cons ?_ EAll.nil
           refine EOp.no rfl rfl rfl rfl (by decide) rfl ?_
           apply Stg.next [(104, _), (105, _), (106, _), (107, _), (108, _), (109, _), (110, _)] rfl rfl
           refine Stg.go [16, 17, 18, 19, 20, 21] [22] rfl rfl (QAll.cons (QOp.p hT rfl rfl rfl rfl rfl) (QAll.cons (QOp.p hT rfl rfl rfl rfl rfl) (QAll.cons (QOp.no rfl rfl rfl rfl (by decide) rfl rfl) (QAll.cons (QOp.no rfl rfl rfl rfl (by decide) rfl rfl) (QAll.cons (QOp.no rfl rfl rfl rfl (by decide) rfl rfl) (QAll.cons (QOp.no rfl rfl rfl rfl (by decide) rfl rfl) QAll.nil)))))) ?_
           refine EAll.cons ?_ EAll.nil
           refine EOp.no rfl rfl rfl rfl (by decide) rfl ?_
           apply Stg.next [(111, _)] rfl rfl
           refine Stg.go [18] [23] rfl rfl (QAll.cons (QOp.no rfl rfl rfl rfl (by decide) rfl rfl) QAll.nil) ?_
           refine EAll.cons ?_ EAll.nil
           refine EOp.no rfl rfl rfl rfl (by decide) rfl ?_
           apply Stg.next [(112, _), (113, _), (114, _), (115, _)] rfl rfl
           refine Stg.go [24, 25, 26] [27] rfl rfl (QAll.cons (QOp.p hT rfl rfl rfl rfl rfl) (QAll.cons (QOp.p hT rfl rfl rfl rfl rfl) (QAll.cons (QOp.no rfl rfl rfl rfl (by decide) rfl rfl) QAll.nil))) ?_
           refine EAll.cons ?_ EAll.nil
           refine EOp.no rfl rfl rfl rfl (by decide) rfl ?_
           apply Stg.next [(116, _), (117, _), (118, _), (8, _)] rfl rfl
           refine Stg.fin [28, 29, 30] rfl rfl (QAll.cons (QOp.no rfl rfl rfl rfl (by decide) rfl rfl) (QAll.cons (QOp.p hT rfl rfl rfl rfl rfl) (QAll.cons (QOp.p hT rfl rfl rfl rfl rfl) QAll.nil))) ?_
           exact AtE.then_n ((HK6 _ () _ H).pickP (ts := [8]) (is := []) rfl rfl (by decide) rfl)
         ·
          apply AtC.stages [13, 14, 15, 22, 23, 27] [[], [], [], [], [], [], [], [], [], [], [], [], [], [], [13], [13, 14], [13, 14, 15], [13, 14, 15], [13, 14, 15], [13, 14, 15], [13, 14, 15], [13, 14, 15], [13, 14, 15], [13, 14, 15, 22], [13, 14, 15, 22, 23], [13, 14, 15, 22, 23], [13, 14, 15, 22, 23], [13, 14, 15, 22, 23], [13, 14, 15, 22, 23, 27], [13, 14, 15, 22, 23, 27], [13, 14, 15, 22, 23, 27]] [[], [0], [0, 1], [0, 1, 2], [0, 1, 2, 3], [0, 1, 2, 3, 4], [0, 1, 2, 3, 4, 5], [0, 1, 2, 3, 4, 5, 6], [0, 1, 2, 3, 4, 5, 6], [0, 1, 2, 3, 4, 5, 6], [0, 1, 2, 3, 4, 5, 6], [0, 1, 2, 3, 4, 5, 6], [0, 1, 2, 3, 4, 5, 6], [0, 1, 2, 3, 4, 5, 6, 10, 11, 12], [0, 1, 2, 3, 4, 5, 6, 8, 9, 10, 11, 12, 13], [0, 1, 2, 3, 4, 5, 6, 7, 8, 9, 10, 11, 12, 13, 14], [0, 1, 2, 3, 4, 5, 6, 7, 8, 9, 10, 11, 12, 13, 14, 15], [0, 1, 2, 3, 4, 5, 6, 7, 8, 9, 10, 11, 12, 13, 14, 15, 16], [0, 1, 2, 3, 4, 5, 6, 7, 8, 9, 10, 11, 12, 13, 14, 15, 16, 17], [0, 1, 2, 3, 4, 5, 6, 7, 8, 9, 10, 11, 12, 13, 14, 15, 16, 17], [0, 1, 2, 3, 4, 5, 6, 7, 8, 9, 10, 11, 12, 13, 14, 15, 16, 17], [0, 1, 2, 3, 4, 5, 6, 7, 8, 9, 10, 11, 12, 13, 14, 15, 16, 17], [0, 1, 2, 3, 4, 5, 6, 7, 8, 9, 10, 11, 12, 13, 14, 15, 16, 17, 19, 20, 21], [0, 1, 2, 3, 4, 5, 6, 7, 8, 9, 10, 11, 12, 13, 14, 15, 16, 17, 18, 19, 20, 21, 22], [0, 1, 2, 3, 4, 5, 6, 7, 8, 9, 10, 11, 12, 13, 14, 15, 16, 17, 18, 19, 20, 21, 22, 23], [0, 1, 2, 3, 4, 5, 6, 7, 8, 9, 10, 11, 12, 13, 14, 15, 16, 17, 18, 19, 20, 21, 22, 23, 24], [0, 1, 2, 3, 4, 5, 6, 7, 8, 9, 10, 11, 12, 13, 14, 15, 16, 17, 18, 19, 20, 21, 22, 23, 24, 25], [0, 1, 2, 3, 4, 5, 6, 7, 8, 9, 10, 11, 12, 13, 14, 15, 16, 17, 18, 19, 20, 21, 22, 23, 24, 25, 26], [0, 1, 2, 3, 4, 5, 6, 7, 8, 9, 10, 11, 12, 13, 14, 15, 16, 17, 18, 19, 20, 21, 22, 23, 24, 25, 26, 27], [0, 1, 2, 3, 4, 5, 6, 7, 8, 9, 10, 11, 12, 13, 14, 15, 16, 17, 18, 19, 20, 21, 22, 23, 24, 25, 26, 27, 28], [0, 1, 2, 3, 4, 5, 6, 7, 8, 9, 10, 11, 12, 13, 14, 15, 16, 17, 18, 19, 20, 21, 22, 23, 24, 25, 26, 27, 28, 29]] hmix (by kernel_rfl) [(89, _), (90, _), (91, _), (92, _), (93, _), (94, _), (95, _), (96, _), (97, _), (98, _), (99, _), (100, _), (101, _)] rfl 6 rfl
          refine Stg.known (t := 91) rfl hb6 ?_
          refine Stg.go [0, 1, 2, 3, 4, 5, 6, 7, 8, 9, 10, 11, 12] [13] rfl rfl (QAll.cons (QOp.p hT rfl rfl rfl rfl rfl) (QAll.cons (QOp.p hT rfl rfl rfl rfl rfl) (QAll.cons (QOp.pk hT rfl rfl rfl rfl hb6 rfl) (QAll.cons (QOp.no rfl rfl rfl rfl (by decide) rfl rfl) (QAll.cons (QOp.no rfl rfl rfl rfl (by decide) rfl rfl) (QAll.cons (QOp.p hT rfl rfl rfl rfl rfl) (QAll.cons (QOp.p hT rfl rfl rfl rfl rfl) (QAll.cons (QOp.no rfl rfl rfl rfl (by decide) rfl rfl) (QAll.cons (QOp.no rfl rfl rfl rfl (by decide) rfl rfl) (QAll.cons (QOp.no rfl rfl rfl rfl (by decide) rfl rfl) (QAll.cons (QOp.no rfl rfl rfl rfl (by decide) rfl rfl) (QAll.cons (QOp.no rfl rfl rfl rfl (by decide) rfl rfl) (QAll.cons (QOp.no rfl rfl rfl rfl (by decide) rfl rfl) QAll.nil))))))))))))) ?_
          refine EAll.cons ?_ EAll.nil
          refine EOp.no rfl rfl rfl rfl (by decide) rfl ?_
          apply Stg.next [(102, _)] rfl rfl
          refine Stg.go [7, 8, 9] [14] rfl rfl (QAll.cons (QOp.no rfl rfl rfl rfl (by decide) rfl rfl) (QAll.cons (QOp.no rfl rfl rfl rfl (by decide) rfl rfl) (QAll.cons (QOp.no rfl rfl rfl rfl (by decide) rfl rfl) QAll.nil))) ?_
          refine EAll.cons ?_ EAll.nil
          refine EOp.no rfl rfl rfl rfl (by decide) rfl ?_
          apply Stg.next [(103, _)] rfl rfl
          refine Stg.go [7] [15] rfl rfl (QAll.cons (QOp.no rfl rfl rfl rfl (by decide) rfl rfl) QAll.nil) ?_
          refine EAll.cons ?_ EAll.nil
          refine EOp.no rfl rfl rfl rfl (by decide) rfl ?_
          apply Stg.next [(104, _), (105, _), (106, _), (107, _), (108, _), (109, _), (110, _)] rfl rfl
          refine Stg.go [16, 17, 18, 19, 20, 21] [22] rfl rfl (QAll.cons (QOp.p hT rfl rfl rfl rfl rfl) (QAll.cons (QOp.p hT rfl rfl rfl rfl rfl) (QAll.cons (QOp.no rfl rfl rfl rfl (by decide) rfl rfl) (QAll.cons (QOp.no rfl rfl rfl rfl (by decide) rfl rfl) (QAll.cons (QOp.no rfl rfl rfl rfl (by decide) rfl rfl) (QAll.cons (QOp.no rfl rfl rfl rfl (by decide) rfl rfl) QAll.nil)))))) ?_
          refine EAll.cons ?_ EAll.nil
          refine EOp.no rfl rfl rfl rfl (by decide) rfl ?_
          apply Stg.next [(111, _)] rfl rfl
          refine Stg.go [18] [23] rfl rfl (QAll.cons (QOp.no rfl rfl rfl rfl (by decide) rfl rfl) QAll.nil) ?_
          refine EAll.cons ?_ EAll.nil
          refine EOp.no rfl rfl rfl rfl (by decide) rfl ?_
          apply Stg.next [(112, _), (113, _), (114, _), (115, _)] rfl rfl
          refine Stg.go [24, 25, 26] [27] rfl rfl (QAll.cons (QOp.p hT rfl rfl rfl rfl rfl) (QAll.cons (QOp.p hT rfl rfl rfl rfl rfl) (QAll.cons (QOp.no rfl rfl rfl rfl (by decide) rfl rfl) QAll.nil))) ?_
          refine EAll.cons ?_ EAll.nil
          refine EOp.no rfl rfl rfl rfl (by decide) rfl ?_
          apply Stg.next [(116, _), (117, _), (118, _), (8, _)] rfl rfl
          refine Stg.fin [28, 29, 30] rfl rfl (QAll.cons (QOp.no rfl rfl rfl rfl (by decide) rfl rfl) (QAll.cons (QOp.p hT rfl rfl rfl rfl rfl) (QAll.cons (QOp.p hT rfl rfl rfl rfl rfl) QAll.nil))) ?_
          exact AtE.then_n ((HK6 _ () _ H).pickP (ts := [8]) (is := []) rfl rfl (by decide) rfl)
      ·
       refine AtC.region ?_
       refine AtL.pures hT 3 _ _ _ _ rfl ?_
       refine AtL.splitB (t := 64) H rfl (fun H => ?_) (fun H => ?_)
       ·
        refine AtL.noF rfl rfl rfl (by decide) rfl ?_
        refine AtL.noF rfl rfl rfl (by decide) rfl ?_
        refine AtL.pures hT 1 _ _ _ _ rfl ?_
        refine AtL.nil ?_
        exact AtE.then_n ((HK5 _ () _ H).pickP (ts := [67, 3, 4, 5, 6, 11, 12, 14]) (is := [0, 1, 2, 3, 4]) rfl rfl (by decide) rfl)
       ·
        refine AtL.yes rfl rfl rfl ?_
        refine AtL.pures hT 1 _ _ _ _ rfl ?_
        refine AtL.yes rfl rfl rfl ?_
        refine AtL.pures hT 1 _ _ _ _ rfl ?_
        refine AtL.pures hT 1 _ _ _ _ rfl ?_
        refine AtL.nil ?_
        exact AtE.then_n ((HK5 _ () _ H).pickP (ts := [67, 3, 4, 5, 6, 11, 12, 14]) (is := [0, 1, 2, 3, 4]) rfl rfl (by decide) rfl)
   ·
    refine AtC.region ?_
    refine AtL.q rfl (Quiet1.loadSP (i := 2) (l := [_, _, _, _]) hT rfl rfl rfl rfl rfl rfl rfl rfl) ?_
    refine AtL.q rfl (Quiet1.loadSP (i := 1) (l := [_, _, _, _]) hT rfl rfl rfl rfl rfl rfl rfl rfl) ?_
    refine AtL.q rfl (Quiet1.loadSP (i := 0) (l := [_, _, _]) hT rfl rfl rfl rfl rfl rfl rfl rfl) ?_
    refine AtL.q rfl (Quiet1.build (cs := [_, _, _, _]) hT rfl rfl rfl rfl rfl rfl) ?_
    refine AtLX.bs (hT := hT) (cs := [Value.bool p.1, Sl.toV p.2.1, Sl.toV p.2.2.1, Sl.toV p.2.2.2, Value.bool q.1, Sl.toV q.2.1, Sl.toV q.2.2.1, Sl.toV q.2.2.2, Value.bool k.1, Sl.toV k.2.1, Sl.toV k.2.2, Sl.toV Sl.nil]) H rfl rfl rfl rfl rfl rfl rfl (by kernel_rfl) rfl (fun a h0u3 H => ?_)
    refine AtL.e rfl (EffX.call (f := 10) (sh := fun h => law12uOdd _ h _) (H0 := H) rfl Tryd.call10 rfl (hl := fun w m hr hw => lift_law12uOdd _ w m hr _ hw)) ?_
    rintro _ _ ⟨v_2, h0u4, rfl, rfl, H⟩
    refine AtL.pures hT 1 _ _ _ _ rfl ?_
    refine AtL.splitB (t := 28) H rfl (fun H => ?_) (fun H => ?_)
    ·
     refine AtL.noF rfl rfl rfl (by decide) rfl ?_
     refine AtL.noF rfl rfl rfl (by decide) rfl ?_
     refine AtL.noF rfl rfl rfl (by decide) rfl ?_
     refine AtL.pures hT 2 _ _ _ _ rfl ?_
     refine AtL.noF rfl rfl rfl (by decide) rfl ?_
     refine AtL.noF rfl rfl rfl (by decide) rfl ?_
     refine AtL.pures hT 1 _ _ _ _ rfl ?_
     refine AtL.nil ?_
     exact AtE.then_n ((HK1 _ () _ H).pickP (ts := [36, 3, 4, 5, 6]) (is := [0, 1, 2]) rfl rfl (by decide) rfl)
    ·
     refine AtL.yes rfl rfl rfl ?_
     refine AtL.pures hT 1 _ _ _ _ rfl ?_
     refine AtL.yes rfl rfl rfl ?_
     refine AtL.pures hT 1 _ _ _ _ rfl ?_
     refine AtL.yes rfl rfl rfl ?_
     refine AtL.pures hT 1 _ _ _ _ rfl ?_
     refine AtL.pures hT 2 _ _ _ _ rfl ?_
     refine AtL.splitB (t := 33) H rfl (fun H => ?_) (fun H => ?_)
     ·
      refine AtL.noF rfl rfl rfl (by decide) rfl ?_
      refine AtL.noF rfl rfl rfl (by decide) rfl ?_
      refine AtL.pures hT 1 _ _ _ _ rfl ?_
      refine AtL.nil ?_
      exact AtE.then_n ((HK1 _ () _ H).pickP (ts := [36, 3, 4, 5, 6]) (is := [0, 1, 2]) rfl rfl (by decide) rfl)
     ·
      refine AtL.yes rfl rfl rfl ?_
      refine AtL.pures hT 1 _ _ _ _ rfl ?_
      refine AtL.yes rfl rfl rfl ?_
      refine AtL.e rfl (EffX.call (f := 22) (sh := fun h => law02uGreat _ h _) (H0 := H) rfl Tryd.call22 rfl (hl := fun w m hr hw => lift_law02uGreat _ w m hr _ hw)) ?_
      rintro _ _ ⟨v_3, h0u5, rfl, rfl, H⟩
      refine AtL.pures hT 1 _ _ _ _ rfl ?_
      refine AtL.nil ?_
      exact AtE.then_n ((HK1 _ () _ H).pickP (ts := [36, 3, 4, 5, 6]) (is := [0, 1, 2]) rfl rfl (by decide) rfl)
end Go.Proofs.YtoeiajabbimiaaaDoor

/-
  The deep code does what the functions of the shallow text say: printed by lift.py.
-/
import Derived.Test.YtjppcjbmepcneaaDoorLfT2
set_option linter.unusedVariables false
set_option linter.unusedSimpArgs false
namespace Go.Proofs.YtjppcjbmepcneaaDoor
open Go Go.Lift Go.Sh
set_option maxRecDepth 100000
set_option maxHeartbeats 40000000
attribute [local irreducible] Calls AtL AtC AtE AtD Eff Quiet1 Stg qAt QAll eAt EAll nextK Code.wp


theorem lift_ref02uMul (x0 : Bool × Sl × Sl) (y : Bool × Sl × Sl) (w : World) (m : Heap) (hr : Rel ⟨m, []⟩ w.heap) (S : (Bool × Sl × Sl) → Heap → Prop) (H : ref02uMul x0 y m S) :
    Calls Tryd.prog 31 #[Value.agg (C_bool_sl_sl x0).toArray, Value.agg (C_bool_sl_sl y).toArray] w (Post ⟨w, m⟩ (fun r => Value.agg (C_bool_sl_sl r).toArray) S) := by
  refine Calls.lift (args := [Value.agg (C_bool_sl_sl x0).toArray, Value.agg (C_bool_sl_sl y).toArray]) Tryd.func31 rfl Tryd.ntmps31 (Nat.le_of_ble_eq_true rfl) hr (ref02uMul x0 y m S) H (fun H => ?_)
  refine AtC.pick (ts := [0, 1]) rfl ?_
  unfold ref02uMul at H
  refine AtC.seqR ?_
  refine AtL.e rfl (EffX.boxP (cs := [_, _, _]) rfl rfl rfl H) ?_
  rintro _ _ ⟨b, _, rfl, rfl, _, H⟩
  refine AtL.e rfl (EffX.boxP (cs := [_, _, _]) rfl rfl rfl H) ?_
  rintro _ _ ⟨b_1, _, rfl, rfl, _, H⟩
  refine AtL.e rfl (EffX.allocP (cs := [_, _, _]) hT rfl rfl H) ?_
  rintro _ _ ⟨b_2, _, rfl, rfl, _, H⟩
  refine AtL.nil ?_
  replace H := H.self
  refine AtE.then_n (AtE.go ?_)
  apply AtC.seqS [9, 14, 16, 17] [[], [], [], [], [], [], [], [], [], [], [], [], [], [], [9], [9, 14], [9, 14], [9, 14, 16]] [[], [0], [], [2], [0, 1, 2, 3], [], [5], [], [7], [5, 6, 7, 8], [], [10], [], [12], [5, 6, 7, 8, 9, 10, 11, 12, 13], [0, 1, 2, 3, 4, 5, 6, 7, 8, 9, 10, 11, 12, 13, 14], [0, 1, 2, 3, 4, 5, 6, 7, 8, 9, 10, 11, 12, 13, 14, 15], [0, 1, 2, 3, 4, 5, 6, 7, 8, 9, 10, 11, 12, 13, 14, 15, 16]] hmix (by kernel_rfl) [(5, _), (6, _), (7, _), (8, _), (9, _), (10, _), (11, _), (12, _), (13, _), (15, _), (16, _), (17, _), (18, _)] rfl 4 rfl
  refine Stg.go [0, 1, 2, 3, 4, 5, 6, 7, 8, 10, 11, 12, 13] [9] rfl rfl (QAll.cons (QOp.p hT rfl rfl rfl rfl rfl) (QAll.cons (QOp.q rfl rfl (Quiet1.loadP (i := 2) hT rfl rfl rfl rfl rfl rfl) rfl rfl) (QAll.cons (QOp.p hT rfl rfl rfl rfl rfl) (QAll.cons (QOp.q rfl rfl (Quiet1.loadP (i := 1) hT rfl rfl rfl rfl rfl rfl) rfl rfl) (QAll.cons (QOp.p hT rfl rfl rfl rfl rfl) (QAll.cons (QOp.p hT rfl rfl rfl rfl rfl) (QAll.cons (QOp.q rfl rfl (Quiet1.loadP (i := 2) hT rfl rfl rfl rfl rfl rfl) rfl rfl) (QAll.cons (QOp.p hT rfl rfl rfl rfl rfl) (QAll.cons (QOp.q rfl rfl (Quiet1.loadP (i := 1) hT rfl rfl rfl rfl rfl rfl) rfl rfl) (QAll.cons (QOp.p hT rfl rfl rfl rfl rfl) (QAll.cons (QOp.q rfl rfl (Quiet1.loadP (i := 2) hT rfl rfl rfl rfl rfl rfl) rfl rfl) (QAll.cons (QOp.p hT rfl rfl rfl rfl rfl) (QAll.cons (QOp.q rfl rfl (Quiet1.loadP (i := 1) hT rfl rfl rfl rfl rfl rfl) rfl rfl) QAll.nil))))))))))))) ?_
  refine EAll.cons ?_ EAll.nil
  refine EOp.e rfl rfl rfl (EffX.call (f := 58) (sh := fun h => ref01uMul _ _ h _) (H0 := H) rfl Tryd.call58 rfl (hl := fun w m hr hw => lift_ref01uMul _ _ w m hr _ hw)) ?_
  rintro _ _ ⟨v, h0u1, rfl, rfl, H⟩
  apply Stg.next [(14, _)] rfl rfl
  refine Stg.go [0, 1, 2, 3, 4, 10, 11, 12, 13] [14] rfl rfl (QAll.cons (QOp.p hT rfl rfl rfl rfl rfl) (QAll.cons (QOp.q rfl rfl (Quiet1.loadP (i := 2) hT rfl rfl rfl rfl rfl rfl) rfl rfl) (QAll.cons (QOp.p hT rfl rfl rfl rfl rfl) (QAll.cons (QOp.q rfl rfl (Quiet1.loadP (i := 1) hT rfl rfl rfl rfl rfl rfl) rfl rfl) (QAll.cons (QOp.p hT rfl rfl rfl rfl rfl) (QAll.cons (QOp.p hT rfl rfl rfl rfl rfl) (QAll.cons (QOp.q rfl rfl (Quiet1.loadP (i := 2) hT rfl rfl rfl rfl rfl rfl) rfl rfl) (QAll.cons (QOp.p hT rfl rfl rfl rfl rfl) (QAll.cons (QOp.q rfl rfl (Quiet1.loadP (i := 1) hT rfl rfl rfl rfl rfl rfl) rfl rfl) QAll.nil))))))))) ?_
  refine EAll.cons ?_ EAll.nil
  refine EOp.e rfl rfl rfl (EffX.call (f := 58) (sh := fun h => ref01uMul _ _ h _) (H0 := H) rfl Tryd.call58 rfl (hl := fun w m hr hw => lift_ref01uMul _ _ w m hr _ hw)) ?_
  rintro _ _ ⟨v_1, h0u2, rfl, rfl, H⟩
  apply Stg.next [(19, _), (20, _)] rfl rfl
  refine Stg.go [0, 1, 2, 3, 4, 15] [16] rfl rfl (QAll.cons (QOp.p hT rfl rfl rfl rfl rfl) (QAll.cons (QOp.q rfl rfl (Quiet1.loadP (i := 2) hT rfl rfl rfl rfl rfl rfl) rfl rfl) (QAll.cons (QOp.p hT rfl rfl rfl rfl rfl) (QAll.cons (QOp.q rfl rfl (Quiet1.loadP (i := 1) hT rfl rfl rfl rfl rfl rfl) rfl rfl) (QAll.cons (QOp.p hT rfl rfl rfl rfl rfl) (QAll.cons (QOp.q rfl rfl (Quiet1.build (cs := [_, _, _]) hT rfl rfl rfl rfl rfl rfl) rfl rfl) QAll.nil)))))) ?_
  refine EAll.cons ?_ EAll.nil
  refine EOp.e rfl rfl rfl (EffX.call (f := 43) (sh := fun h => ref02uLow _ h _) (H0 := H) rfl Tryd.call43 rfl (hl := fun w m hr hw => lift_ref02uLow _ w m hr _ hw)) ?_
  rintro _ _ ⟨v_2, h0u3, rfl, rfl, H⟩
  apply Stg.next [(21, _)] rfl rfl
  refine Stg.go [] [17] rfl rfl QAll.nil ?_
  refine EAll.cons ?_ EAll.nil
  refine EOp.e rfl rfl rfl (EffX.storeSP (i := 0) (qv := [(_, [_, _, _]), (_, [_, _, _]), (_, [_, _, _])]) hT rfl rfl rfl rfl rfl rfl rfl rfl rfl rfl) ?_
  rintro _ _ rfl
  apply Stg.next [] rfl rfl
  refine Stg.fin [] rfl rfl QAll.nil ?_
  refine AtE.then_n (AtE.go ?_)
  refine AtC.ret ?_
  exact AtE.retN (rs := [.cell 4 42]) rfl (ResAll.cons (ResAt.cellSP (i := 0) (l := [_, _, _]) hT rfl rfl rfl rfl rfl rfl rfl) ResAll.nil) rfl H

theorem lift_ref01uAdd (x0 : Sl) (y : Sl) (w : World) (m : Heap) (hr : Rel ⟨m, []⟩ w.heap) (S : Sl → Heap → Prop) (H : ref01uAdd x0 y m S) :
    Calls Tryd.prog 59 #[Sl.toV x0, Sl.toV y] w (Post ⟨w, m⟩ Sl.toV S) := by
  refine Calls.lift (args := [Sl.toV x0, Sl.toV y]) Tryd.func59 rfl Tryd.ntmps59 (Nat.le_of_ble_eq_true rfl) hr (ref01uAdd x0 y m S) H (fun H => ?_)
  refine AtC.pick (ts := [0, 1]) rfl ?_
  unfold ref01uAdd at H
  refine AtC.seqR ?_
  refine AtL.pures hT 1 _ _ _ _ rfl ?_
  refine AtL.nil ?_
  refine AtE.then_n (AtE.go ?_)
  refine AtC.seqR ?_
  refine AtLX.bs (hT := hT) (cs := []) H rfl rfl rfl rfl rfl rfl rfl rfl rfl (fun a h0 H => ?_)
  refine AtL.pures hT 1 _ _ _ _ rfl ?_
  replace H := H _ rfl
  refine AtL.nil ?_
  refine AtE.then_n (AtE.go ?_)
  refine AtC.seqR ?_
  refine AtL.pures hT 1 _ _ _ _ rfl ?_
  refine AtL.nil ?_
  refine AtE.then_n (AtE.go ?_)
  refine AtC.seq ?_
  refine AtC.seqR ?_
  refine AtL.pures hT 1 _ _ _ _ rfl ?_
  refine AtL.nil ?_
  refine AtE.then_n (AtE.go ?_)
  refine AtC.block ?_
  refine AtC.loopM (fun (s0 : Sl × Int × Int) => [(5, Sl.toV s0.1), (6, Value.int .i64 s0.2.1), (7, Value.int .i64 s0.2.2)]) (fun (s0 : Sl × Int × Int) => []) [0, 1] [5, 6, 7, 0, 1] [] [] H (by exact rfl) (by exact rfl) (by exact rfl) (by decide) (by exact rfl) (fun Kp1 s0 h0u1 H Q1 HK1 => ?_)
  refine AtC.seq ?_
  refine AtC.joinSeq (β := Unit) (fun (t0 : Bool) (bb : Unit) => [(23, Value.bool t0)]) (fun (t0 : Bool) (bb : Unit) => []) [0, 1, 5, 6, 7] [] H (by exact rfl) (by exact rfl) (fun t0 bb h0u2 H => ?_) (fun J2 H HK2 => ?_)
  ·
   refine AtC.condB H rfl (fun H => ?_) (fun H => ?_)
   ·
    refine AtC.skip ?_
    refine AtE.then_n (AtE.go ?_)
    refine AtC.seq ?_
    refine AtC.block ?_
    refine AtC.seqR ?_
    refine AtL.pures hT 2 _ _ _ _ rfl ?_
    refine AtL.nil ?_
    refine AtE.then_n (AtE.go ?_)
    refine AtC.joinSeq (β := Unit) (fun (t0u1 : Int) (bb_1 : Unit) => [(8, Value.int .i64 t0u1)]) (fun (t0u1 : Int) (bb_1 : Unit) => []) [0, 1, 5, 7] [] H (by exact rfl) (by exact rfl) (fun t0u1 bb_1 h0u3 H => ?_) (fun J3 H HK3 => ?_)
    ·
     refine AtC.joinSeq (β := Unit) (fun (t0u2 : Int) (bb_2 : Unit) => [(8, Value.int .i64 t0u2)]) (fun (t0u2 : Int) (bb_2 : Unit) => []) [0, 1, 5, 7] [] H (by exact rfl) (by exact rfl) (fun t0u2 bb_2 h0u4 H => ?_) (fun J6 H HK6 => ?_)
     ·
      refine AtC.seqR ?_
      refine AtL.pures hT 3 _ _ _ _ rfl ?_
      refine AtLX.bs (hT := hT) (cs := [_]) H rfl rfl rfl rfl rfl rfl rfl rfl rfl (fun a_3 h0u5 H => ?_)
      refine AtL.e rfl (EffX.appendS (s := _) (u := _) hT rfl rfl rfl rfl rfl rfl rfl rfl rfl rfl (by decide) H) ?_
      rintro _ _ ⟨v_4, h0u6, rfl, rfl, H⟩
      refine AtL.pures hT 1 _ _ _ _ rfl ?_
      refine AtL.nil ?_
      refine AtE.then_n (AtE.go ?_)
      refine AtC.region ?_
      refine AtL.pures hT 3 _ _ _ _ rfl ?_
      replace H := H _ rfl
      refine AtL.nil ?_
      refine AtE.blk_n ?_
      refine AtE.then_n (AtE.go ?_)
      refine AtC.region ?_
      refine AtL.pures hT 3 _ _ _ _ rfl ?_
      replace H := H _ rfl
      refine AtL.nil ?_
      exact AtE.then_n ((HK1 _ _ H).pickP (ts := [5, 6, 7, 0, 1]) (is := []) rfl rfl (by decide) rfl)
     ·
      refine AtC.seqR ?_
      refine AtL.pures hT 4 _ _ _ _ rfl ?_
      refine AtL.nil ?_
      refine AtE.then_n (AtE.go ?_)
      refine AtC.condB H rfl (fun H => ?_) (fun H => ?_)
      ·
       refine AtC.region ?_
       refine AtL.pures hT 3 _ _ _ _ rfl ?_
       obtain ⟨a_2_, hc6, hd6, H⟩ := H
       refine AtL.q rfl (Quiet1.idxS (s := _) hT rfl rfl rfl rfl rfl hc6 hd6) ?_
       obtain ⟨v_2, hc7, H⟩ := H
       refine AtL.q rfl (Quiet1.load hT rfl rfl rfl hc7) ?_
       refine AtL.pures hT 2 _ _ _ _ rfl ?_
       replace H := H _ rfl
       refine AtL.nil ?_
       exact AtE.then_n ((HK6 _ () _ H).pickP (ts := [8, 0, 1, 5, 7]) (is := []) rfl rfl (by decide) rfl)
      ·
       refine AtC.skip ?_
       exact AtE.then_n ((HK6 _ () _ H).pickP (ts := [8, 0, 1, 5, 7]) (is := []) rfl rfl (by decide) rfl)
    ·
     refine AtC.seqR ?_
     refine AtL.pures hT 4 _ _ _ _ rfl ?_
     refine AtL.nil ?_
     refine AtE.then_n (AtE.go ?_)
     refine AtC.condB H rfl (fun H => ?_) (fun H => ?_)
     ·
      refine AtC.region ?_
      refine AtL.pures hT 3 _ _ _ _ rfl ?_
      obtain ⟨a_1_, hc3, hd3, H⟩ := H
      refine AtL.q rfl (Quiet1.idxS (s := _) hT rfl rfl rfl rfl rfl hc3 hd3) ?_
      obtain ⟨v_1, hc4, H⟩ := H
      refine AtL.q rfl (Quiet1.load hT rfl rfl rfl hc4) ?_
      refine AtL.pures hT 2 _ _ _ _ rfl ?_
      replace H := H _ rfl
      refine AtL.nil ?_
      exact AtE.then_n ((HK3 _ () _ H).pickP (ts := [8, 0, 1, 5, 7]) (is := []) rfl rfl (by decide) rfl)
     ·
      refine AtC.skip ?_
      exact AtE.then_n ((HK3 _ () _ H).pickP (ts := [8, 0, 1, 5, 7]) (is := []) rfl rfl (by decide) rfl)
   ·
    refine AtC.exit ?_
    refine AtE.then_x ?_
    refine AtE.then_x ?_
    refine AtE.blk_hit ?_
    refine AtE.then_n (AtE.go ?_)
    refine AtC.seqR ?_
    refine AtL.pures hT 1 _ _ _ _ rfl ?_
    refine AtL.e rfl (EffX.call (f := 52) (sh := fun h => ref01uCut _ h _) (H0 := H) rfl Tryd.call52 rfl (hl := fun w m hr hw => lift_ref01uCut _ w m hr _ hw)) ?_
    rintro _ _ ⟨v_5, h0u7, rfl, rfl, H⟩
    refine AtL.pures hT 1 _ _ _ _ rfl ?_
    refine AtL.nil ?_
    refine AtE.then_n (AtE.go ?_)
    refine AtC.ret ?_
    exact AtE.retN (rs := [.tmp 4]) rfl (ResAll.cons (ResAt.tmp rfl) ResAll.nil) rfl H
  ·
   refine AtC.region ?_
   refine AtL.pures hT 5 _ _ _ _ rfl ?_
   refine AtL.splitB (t := 14) H rfl (fun H => ?_) (fun H => ?_)
   ·
    refine AtL.noF rfl rfl rfl (by decide) rfl ?_
    refine AtL.noF rfl rfl rfl (by decide) rfl ?_
    refine AtL.noF rfl rfl rfl (by decide) rfl ?_
    refine AtL.noF rfl rfl rfl (by decide) rfl ?_
    refine AtL.pures hT 2 _ _ _ _ rfl ?_
    refine AtL.noF rfl rfl rfl (by decide) rfl ?_
    refine AtL.noF rfl rfl rfl (by decide) rfl ?_
    refine AtL.pures hT 1 _ _ _ _ rfl ?_
    refine AtL.nil ?_
    exact AtE.then_n ((HK2 _ () _ H).pickP (ts := [23, 0, 1, 5, 6, 7]) (is := []) rfl rfl (by decide) rfl)
   ·
    refine AtL.yes rfl rfl rfl ?_
    refine AtL.pures hT 1 _ _ _ _ rfl ?_
    refine AtL.yes rfl rfl rfl ?_
    refine AtL.pures hT 1 _ _ _ _ rfl ?_
    refine AtL.yes rfl rfl rfl ?_
    refine AtL.pures hT 1 _ _ _ _ rfl ?_
    refine AtL.yes rfl rfl rfl ?_
    refine AtL.pures hT 1 _ _ _ _ rfl ?_
    refine AtL.pures hT 2 _ _ _ _ rfl ?_
    refine AtL.splitB (t := 20) H rfl (fun H => ?_) (fun H => ?_)
    ·
     refine AtL.noF rfl rfl rfl (by decide) rfl ?_
     refine AtL.noF rfl rfl rfl (by decide) rfl ?_
     refine AtL.pures hT 1 _ _ _ _ rfl ?_
     refine AtL.nil ?_
     exact AtE.then_n ((HK2 _ () _ H).pickP (ts := [23, 0, 1, 5, 6, 7]) (is := []) rfl rfl (by decide) rfl)
    ·
     refine AtL.yes rfl rfl rfl ?_
     refine AtL.pures hT 1 _ _ _ _ rfl ?_
     refine AtL.yes rfl rfl rfl ?_
     refine AtL.pures hT 1 _ _ _ _ rfl ?_
     refine AtL.pures hT 1 _ _ _ _ rfl ?_
     refine AtL.nil ?_
     exact AtE.then_n ((HK2 _ () _ H).pickP (ts := [23, 0, 1, 5, 6, 7]) (is := []) rfl rfl (by decide) rfl)

theorem lift_ref02uAdd (x0 : Bool × Sl × Sl) (y : Bool × Sl × Sl) (w : World) (m : Heap) (hr : Rel ⟨m, []⟩ w.heap) (S : (Bool × Sl × Sl) → Heap → Prop) (H : ref02uAdd x0 y m S) :
    Calls Tryd.prog 30 #[Value.agg (C_bool_sl_sl x0).toArray, Value.agg (C_bool_sl_sl y).toArray] w (Post ⟨w, m⟩ (fun r => Value.agg (C_bool_sl_sl r).toArray) S) := by
  refine Calls.lift (args := [Value.agg (C_bool_sl_sl x0).toArray, Value.agg (C_bool_sl_sl y).toArray]) Tryd.func30 rfl Tryd.ntmps30 (Nat.le_of_ble_eq_true rfl) hr (ref02uAdd x0 y m S) H (fun H => ?_)
  refine AtC.pick (ts := [0, 1]) rfl ?_
  unfold ref02uAdd at H
  refine AtC.seqR ?_
  refine AtL.e rfl (EffX.boxP (cs := [_, _, _]) rfl rfl rfl H) ?_
  rintro _ _ ⟨b, _, rfl, rfl, _, H⟩
  refine AtL.e rfl (EffX.boxP (cs := [_, _, _]) rfl rfl rfl H) ?_
  rintro _ _ ⟨b_1, _, rfl, rfl, _, H⟩
  refine AtL.e rfl (EffX.allocP (cs := [_, _, _]) hT rfl rfl H) ?_
  rintro _ _ ⟨b_2, _, rfl, rfl, _, H⟩
  refine AtL.nil ?_
  replace H := H.self
  refine AtE.then_n (AtE.go ?_)
  refine AtC.seqR ?_
  refine AtL.pures hT 1 _ _ _ _ rfl ?_
  refine AtL.q rfl (Quiet1.loadP (i := 2) hT rfl rfl rfl rfl rfl rfl) ?_
  refine AtL.pures hT 1 _ _ _ _ rfl ?_
  refine AtL.q rfl (Quiet1.loadP (i := 1) hT rfl rfl rfl rfl rfl rfl) ?_
  refine AtL.e rfl (EffX.call (f := 58) (sh := fun h => ref01uMul _ _ h _) (H0 := H) rfl Tryd.call58 rfl (hl := fun w m hr hw => lift_ref01uMul _ _ w m hr _ hw)) ?_
  rintro _ _ ⟨v, h0u1, rfl, rfl, H⟩
  refine AtL.pures hT 1 _ _ _ _ rfl ?_
  refine AtL.nil ?_
  refine AtE.then_n (AtE.go ?_)
  refine AtC.seqR ?_
  refine AtL.pures hT 1 _ _ _ _ rfl ?_
  refine AtL.q rfl (Quiet1.loadP (i := 1) hT rfl rfl rfl rfl rfl rfl) ?_
  refine AtL.pures hT 1 _ _ _ _ rfl ?_
  refine AtL.q rfl (Quiet1.loadP (i := 2) hT rfl rfl rfl rfl rfl rfl) ?_
  refine AtL.e rfl (EffX.call (f := 58) (sh := fun h => ref01uMul _ _ h _) (H0 := H) rfl Tryd.call58 rfl (hl := fun w m hr hw => lift_ref01uMul _ _ w m hr _ hw)) ?_
  rintro _ _ ⟨v_1, h0u2, rfl, rfl, H⟩
  refine AtL.pures hT 1 _ _ _ _ rfl ?_
  refine AtL.nil ?_
  refine AtE.then_n (AtE.go ?_)
  refine AtC.seqR ?_
  refine AtL.pures hT 1 _ _ _ _ rfl ?_
  refine AtL.q rfl (Quiet1.loadP (i := 2) hT rfl rfl rfl rfl rfl rfl) ?_
  refine AtL.pures hT 1 _ _ _ _ rfl ?_
  refine AtL.q rfl (Quiet1.loadP (i := 1) hT rfl rfl rfl rfl rfl rfl) ?_
  refine AtL.e rfl (EffX.call (f := 58) (sh := fun h => ref01uMul _ _ h _) (H0 := H) rfl Tryd.call58 rfl (hl := fun w m hr hw => lift_ref01uMul _ _ w m hr _ hw)) ?_
  rintro _ _ ⟨v_2, h0u3, rfl, rfl, H⟩
  refine AtL.pures hT 1 _ _ _ _ rfl ?_
  refine AtL.nil ?_
  refine AtE.then_n (AtE.go ?_)
  refine AtC.seq ?_
  refine AtC.seqR ?_
  refine AtL.pures hT 1 _ _ _ _ rfl ?_
  refine AtL.q rfl (Quiet1.loadP (i := 2) hT rfl rfl rfl rfl rfl rfl) ?_
  refine AtL.pures hT 1 _ _ _ _ rfl ?_
  refine AtL.q rfl (Quiet1.loadP (i := 1) hT rfl rfl rfl rfl rfl rfl) ?_
  refine AtL.pures hT 1 _ _ _ _ rfl ?_
  refine AtL.nil ?_
  refine AtE.then_n (AtE.go ?_)
  refine AtC.condB H rfl (fun H => ?_) (fun H => ?_)
  ·
   apply AtC.seqS [4, 7, 8] [[], [], [], [], [], [], [4], [4], [4, 7]] [[], [0], [], [], [2, 3], [], [0, 1, 2, 3, 4, 5], [0, 1, 2, 3, 4, 5, 6], [0, 1, 2, 3, 4, 5, 6, 7]] hmix (by kernel_rfl) [(28, _), (29, _), (30, _), (31, _), (33, _)] rfl 3 rfl
   refine Stg.go [0, 1, 2, 3, 5] [4] rfl rfl (QAll.cons (QOp.p hT rfl rfl rfl rfl rfl) (QAll.cons (QOp.q rfl rfl (Quiet1.loadP (i := 2) hT rfl rfl rfl rfl rfl rfl) rfl rfl) (QAll.cons (QOp.p hT rfl rfl rfl rfl rfl) (QAll.cons (QOp.p hT rfl rfl rfl rfl rfl) (QAll.cons (QOp.p hT rfl rfl rfl rfl rfl) QAll.nil))))) ?_
   refine EAll.cons ?_ EAll.nil
   refine EOp.e rfl rfl rfl (EffX.call (f := 59) (sh := fun h => ref01uAdd _ _ h _) (H0 := H) rfl Tryd.call59 rfl (hl := fun w m hr hw => lift_ref01uAdd _ _ w m hr _ hw)) ?_
   rintro _ _ ⟨v_3, h0u4, rfl, rfl, H⟩
   apply Stg.next [(32, _), (34, _)] rfl rfl
   refine Stg.go [0, 1, 5, 6] [7] rfl rfl (QAll.cons (QOp.p hT rfl rfl rfl rfl rfl) (QAll.cons (QOp.q rfl rfl (Quiet1.loadP (i := 2) hT rfl rfl rfl rfl rfl rfl) rfl rfl) (QAll.cons (QOp.p hT rfl rfl rfl rfl rfl) (QAll.cons (QOp.q rfl rfl (Quiet1.build (cs := [_, _, _]) hT rfl rfl rfl rfl rfl rfl) rfl rfl) QAll.nil)))) ?_
   refine EAll.cons ?_ EAll.nil
   refine EOp.e rfl rfl rfl (EffX.call (f := 43) (sh := fun h => ref02uLow _ h _) (H0 := H) rfl Tryd.call43 rfl (hl := fun w m hr hw => lift_ref02uLow _ w m hr _ hw)) ?_
   rintro _ _ ⟨v_4, h0u5, rfl, rfl, H⟩
   apply Stg.next [(35, _)] rfl rfl
   refine Stg.go [] [8] rfl rfl QAll.nil ?_
   refine EAll.cons ?_ EAll.nil
   refine EOp.e rfl rfl rfl (EffX.storeSP (i := 0) (qv := [(_, [_, _, _]), (_, [_, _, _]), (_, [_, _, _])]) hT rfl rfl rfl rfl rfl rfl rfl rfl rfl rfl) ?_
   rintro _ _ rfl
   apply Stg.next [] rfl rfl
   refine Stg.fin [] rfl rfl QAll.nil ?_
   refine AtE.then_n (AtE.go ?_)
   refine AtC.ret ?_
   refine AtE.then_r ?_
   exact AtE.retN (rs := [.cell 4 42]) rfl (ResAll.cons (ResAt.cellSP (i := 0) (l := [_, _, _]) hT rfl rfl rfl rfl rfl rfl rfl) ResAll.nil) rfl H
  ·
   refine AtC.skip ?_
   refine AtE.then_n (AtE.go ?_)
   refine AtC.seq ?_
   refine AtC.seqR ?_
   refine AtL.pures hT 2 _ _ _ _ rfl ?_
   refine AtL.e rfl (EffX.call (f := 60) (sh := fun h => ref01uCmp _ _ h _) (H0 := H) rfl Tryd.call60 rfl (hl := fun w m hr hw => lift_ref01uCmp _ _ w m hr _ hw)) ?_
   rintro _ _ ⟨v_5, h0u6, rfl, rfl, H⟩
   refine AtL.pures hT 1 _ _ _ _ rfl ?_
   refine AtL.nil ?_
   refine AtE.then_n (AtE.go ?_)
   refine AtC.condB H rfl (fun H => ?_) (fun H => ?_)
   ·
    apply AtC.seqS [4, 7, 8] [[], [], [], [], [], [], [4], [4], [4, 7]] [[], [0], [], [], [2, 3], [], [0, 1, 2, 3, 4, 5], [0, 1, 2, 3, 4, 5, 6], [0, 1, 2, 3, 4, 5, 6, 7]] hmix (by kernel_rfl) [(40, _), (41, _), (42, _), (43, _), (45, _)] rfl 3 rfl
    refine Stg.go [0, 1, 2, 3, 5] [4] rfl rfl (QAll.cons (QOp.p hT rfl rfl rfl rfl rfl) (QAll.cons (QOp.q rfl rfl (Quiet1.loadP (i := 2) hT rfl rfl rfl rfl rfl rfl) rfl rfl) (QAll.cons (QOp.p hT rfl rfl rfl rfl rfl) (QAll.cons (QOp.p hT rfl rfl rfl rfl rfl) (QAll.cons (QOp.p hT rfl rfl rfl rfl rfl) QAll.nil))))) ?_
    refine EAll.cons ?_ EAll.nil
    refine EOp.e rfl rfl rfl (EffX.call (f := 61) (sh := fun h => ref01uSub _ _ h _) (H0 := H) rfl Tryd.call61 rfl (hl := fun w m hr hw => lift_ref01uSub _ _ w m hr _ hw)) ?_
    rintro _ _ ⟨v_6, h0u7, rfl, rfl, H⟩
    apply Stg.next [(44, _), (46, _)] rfl rfl
    refine Stg.go [0, 1, 5, 6] [7] rfl rfl (QAll.cons (QOp.p hT rfl rfl rfl rfl rfl) (QAll.cons (QOp.q rfl rfl (Quiet1.loadP (i := 2) hT rfl rfl rfl rfl rfl rfl) rfl rfl) (QAll.cons (QOp.p hT rfl rfl rfl rfl rfl) (QAll.cons (QOp.q rfl rfl (Quiet1.build (cs := [_, _, _]) hT rfl rfl rfl rfl rfl rfl) rfl rfl) QAll.nil)))) ?_
    refine EAll.cons ?_ EAll.nil
    refine EOp.e rfl rfl rfl (EffX.call (f := 43) (sh := fun h => ref02uLow _ h _) (H0 := H) rfl Tryd.call43 rfl (hl := fun w m hr hw => lift_ref02uLow _ w m hr _ hw)) ?_
    rintro _ _ ⟨v_7, h0u8, rfl, rfl, H⟩
    apply Stg.next [(47, _)] rfl rfl
    refine Stg.go [] [8] rfl rfl QAll.nil ?_
    refine EAll.cons ?_ EAll.nil
    refine EOp.e rfl rfl rfl (EffX.storeSP (i := 0) (qv := [(_, [_, _, _]), (_, [_, _, _]), (_, [_, _, _])]) hT rfl rfl rfl rfl rfl rfl rfl rfl rfl rfl) ?_
    rintro _ _ rfl
    apply Stg.next [] rfl rfl
    refine Stg.fin [] rfl rfl QAll.nil ?_
    refine AtE.then_n (AtE.go ?_)
    refine AtC.ret ?_
    refine AtE.then_r ?_
    exact AtE.retN (rs := [.cell 4 42]) rfl (ResAll.cons (ResAt.cellSP (i := 0) (l := [_, _, _]) hT rfl rfl rfl rfl rfl rfl rfl) ResAll.nil) rfl H
   ·
    refine AtC.skip ?_
    refine AtE.then_n (AtE.go ?_)
    apply AtC.seqS [4, 7, 8] [[], [], [], [], [], [], [4], [4], [4, 7]] [[], [0], [], [], [2, 3], [], [0, 1, 2, 3, 4, 5], [0, 1, 2, 3, 4, 5, 6], [0, 1, 2, 3, 4, 5, 6, 7]] hmix (by kernel_rfl) [(48, _), (49, _), (50, _), (51, _), (53, _)] rfl 3 rfl
    refine Stg.go [0, 1, 2, 3, 5] [4] rfl rfl (QAll.cons (QOp.p hT rfl rfl rfl rfl rfl) (QAll.cons (QOp.q rfl rfl (Quiet1.loadP (i := 1) hT rfl rfl rfl rfl rfl rfl) rfl rfl) (QAll.cons (QOp.p hT rfl rfl rfl rfl rfl) (QAll.cons (QOp.p hT rfl rfl rfl rfl rfl) (QAll.cons (QOp.p hT rfl rfl rfl rfl rfl) QAll.nil))))) ?_
    refine EAll.cons ?_ EAll.nil
    refine EOp.e rfl rfl rfl (EffX.call (f := 61) (sh := fun h => ref01uSub _ _ h _) (H0 := H) rfl Tryd.call61 rfl (hl := fun w m hr hw => lift_ref01uSub _ _ w m hr _ hw)) ?_
    rintro _ _ ⟨v_8, h0u9, rfl, rfl, H⟩
    apply Stg.next [(52, _), (54, _)] rfl rfl
    refine Stg.go [0, 1, 5, 6] [7] rfl rfl (QAll.cons (QOp.p hT rfl rfl rfl rfl rfl) (QAll.cons (QOp.q rfl rfl (Quiet1.loadP (i := 1) hT rfl rfl rfl rfl rfl rfl) rfl rfl) (QAll.cons (QOp.p hT rfl rfl rfl rfl rfl) (QAll.cons (QOp.q rfl rfl (Quiet1.build (cs := [_, _, _]) hT rfl rfl rfl rfl rfl rfl) rfl rfl) QAll.nil)))) ?_
    refine EAll.cons ?_ EAll.nil
    refine EOp.e rfl rfl rfl (EffX.call (f := 43) (sh := fun h => ref02uLow _ h _) (H0 := H) rfl Tryd.call43 rfl (hl := fun w m hr hw => lift_ref02uLow _ w m hr _ hw)) ?_
    rintro _ _ ⟨v_9, h0u10, rfl, rfl, H⟩
    apply Stg.next [(55, _)] rfl rfl
    refine Stg.go [] [8] rfl rfl QAll.nil ?_
    refine EAll.cons ?_ EAll.nil
    refine EOp.e rfl rfl rfl (EffX.storeSP (i := 0) (qv := [(_, [_, _, _]), (_, [_, _, _]), (_, [_, _, _])]) hT rfl rfl rfl rfl rfl rfl rfl rfl rfl rfl) ?_
    rintro _ _ rfl
    apply Stg.next [] rfl rfl
    refine Stg.fin [] rfl rfl QAll.nil ?_
    refine AtE.then_n (AtE.go ?_)
    refine AtC.ret ?_
    exact AtE.retN (rs := [.cell 4 42]) rfl (ResAll.cons (ResAt.cellSP (i := 0) (l := [_, _, _]) hT rfl rfl rfl rfl rfl rfl rfl) ResAll.nil) rfl H

theorem lift_ref12uCoef (p : Bool × Sl × Sl × Sl) (v : Int) (w : World) (m : Heap) (hr : Rel ⟨m, []⟩ w.heap) (S : (Bool × Sl × Sl) → Heap → Prop) (H : ref12uCoef p v m S) :
    Calls Tryd.prog 32 #[Value.agg (C_bool_sl_sl_sl p).toArray, Value.int .i64 v] w (Post ⟨w, m⟩ (fun r => Value.agg (C_bool_sl_sl r).toArray) S) := by
  refine Calls.lift (args := [Value.agg (C_bool_sl_sl_sl p).toArray, Value.int .i64 v]) Tryd.func32 rfl Tryd.ntmps32 (Nat.le_of_ble_eq_true rfl) hr (ref12uCoef p v m S) H (fun H => ?_)
  refine AtC.pick (ts := [0, 1]) rfl ?_
  unfold ref12uCoef at H
  refine AtC.seqR ?_
  refine AtL.e rfl (EffX.boxP (cs := [_, _, _, _]) rfl rfl rfl H) ?_
  rintro _ _ ⟨b, _, rfl, rfl, _, H⟩
  refine AtL.e rfl (EffX.allocP (cs := [_, _, _]) hT rfl rfl H) ?_
  rintro _ _ ⟨b_1, _, rfl, rfl, _, H⟩
  refine AtL.nil ?_
  replace H := H.self
  refine AtE.then_n (AtE.go ?_)
  refine AtC.seq ?_
  refine AtC.seqR ?_
  refine AtL.pures hT 1 _ _ _ _ rfl ?_
  refine AtL.nil ?_
  refine AtE.then_n (AtE.go ?_)
  refine AtC.block ?_
  refine AtC.loopM (fun (s0 : Int × Bool × Sl × Sl) => [(5, Value.int .i64 s0.1)]) (fun (s0 : Int × Bool × Sl × Sl) => [(b_1, [Value.bool s0.2.1, Sl.toV s0.2.2.1, Sl.toV s0.2.2.2])]) [1, 2, 4] [5, 1, 2, 4] [1] [0, 1] H (by exact rfl) (by exact rfl) (by exact rfl) (by decide) (by exact rfl) (fun Kp1 s0 h0u1 H Q1 HK1 => ?_)
  refine AtC.seq ?_
  refine AtC.seqR ?_
  refine AtL.pures hT 2 _ _ _ _ rfl ?_
  refine AtL.q rfl (Quiet1.loadP (i := 1) hT rfl rfl rfl rfl rfl rfl) ?_
  refine AtL.pures hT 2 _ _ _ _ rfl ?_
  refine AtL.nil ?_
  refine AtE.then_n (AtE.go ?_)
  refine AtC.condB H rfl (fun H => ?_) (fun H => ?_)
  ·
   refine AtC.skip ?_
   refine AtE.then_n (AtE.go ?_)
   refine AtC.seq ?_
   refine AtC.block ?_
   refine AtC.seqR ?_
   refine AtL.pures hT 1 _ _ _ _ rfl ?_
   refine AtL.q rfl (Quiet1.loadP (i := 1) hT rfl rfl rfl rfl rfl rfl) ?_
   refine AtL.pures hT 1 _ _ _ _ rfl ?_
   obtain ⟨a_, hc1, hd1, H⟩ := H
   refine AtL.q rfl (Quiet1.idxS (s := _) hT rfl rfl rfl rfl rfl hc1 hd1) ?_
   refine AtL.pures hT 1 _ _ _ _ rfl ?_
   obtain ⟨v_1, hc2, H⟩ := H
   refine AtL.q rfl (Quiet1.load hT rfl rfl rfl hc2) ?_
   refine AtL.pures hT 2 _ _ _ _ rfl ?_
   refine AtL.nil ?_
   refine AtE.then_n (AtE.go ?_)
   refine AtC.condB H rfl (fun H => ?_) (fun H => ?_)
   ·
    refine AtC.seqR ?_
    refine AtL.pures hT 1 _ _ _ _ rfl ?_
    refine AtL.q rfl (Quiet1.loadP (i := 1) hT rfl rfl rfl rfl rfl rfl) ?_
    refine AtL.pures hT 1 _ _ _ _ rfl ?_
    obtain ⟨a_1_, hc3, hd3, H⟩ := H
    refine AtL.q rfl (Quiet1.idxS (s := _) hT rfl rfl rfl rfl rfl hc3 hd3) ?_
    refine AtL.pures hT 1 _ _ _ _ rfl ?_
    obtain ⟨v_2, hc4, H⟩ := H
    refine AtL.q rfl (Quiet1.loadS hT rfl rfl rfl rfl hc4) ?_
    refine AtL.e rfl (EffX.call (f := 11) (sh := fun h => ref02uOf _ h _) (H0 := H) rfl Tryd.call11 rfl (hl := fun w m hr hw => lift_ref02uOf _ w m hr _ hw)) ?_
    rintro _ _ ⟨v_3, h0u2, rfl, rfl, H⟩
    refine AtL.e rfl (EffX.storeSP (i := 0) (qv := [(_, [_, _, _]), (_, [_, _, _, _])]) hT rfl rfl rfl rfl rfl rfl rfl rfl rfl rfl) ?_
    rintro _ _ rfl
    refine AtL.nil ?_
    refine AtE.then_n (AtE.go ?_)
    refine AtC.ret ?_
    refine AtE.blk_r ?_
    refine AtE.then_r ?_
    refine AtE.then_r ?_
    refine AtE.blk_r ?_
    refine AtE.then_r ?_
    exact AtE.retN (rs := [.cell 4 42]) rfl (ResAll.cons (ResAt.cellSP (i := 0) (l := [_, _, _]) hT rfl rfl rfl rfl rfl rfl rfl) ResAll.nil) rfl H
   ·
    refine AtC.skip ?_
    refine AtE.blk_n ?_
    refine AtE.then_n (AtE.go ?_)
    refine AtC.region ?_
    refine AtL.pures hT 3 _ _ _ _ rfl ?_
    replace H := H _ rfl
    refine AtL.nil ?_
    exact AtE.then_n ((HK1 _ _ H).pickP (ts := [5, 1, 2, 4]) (is := [0, 1]) rfl rfl (by decide) rfl)
  ·
   refine AtC.exit ?_
   refine AtE.then_x ?_
   refine AtE.then_x ?_
   refine AtE.blk_hit ?_
   refine AtE.then_n (AtE.go ?_)
   refine AtC.seqR ?_
   refine AtL.e rfl (EffX.call (f := 62) (sh := fun h => ref02uInt _ h _) (H0 := H) rfl Tryd.call62 rfl (hl := fun w m hr hw => lift_ref02uInt _ w m hr _ hw)) ?_
   rintro _ _ ⟨v_4, h0u3, rfl, rfl, H⟩
   refine AtL.e rfl (EffX.storeSP (i := 0) (qv := [(_, [_, _, _]), (_, [_, _, _, _])]) hT rfl rfl rfl rfl rfl rfl rfl rfl rfl rfl) ?_
   rintro _ _ rfl
   refine AtL.nil ?_
   refine AtE.then_n (AtE.go ?_)
   refine AtC.ret ?_
   exact AtE.retN (rs := [.cell 4 42]) rfl (ResAll.cons (ResAt.cellSP (i := 0) (l := [_, _, _]) hT rfl rfl rfl rfl rfl rfl rfl) ResAll.nil) rfl H

theorem lift_ref12uAdd (p : Bool × Sl × Sl × Sl) (k : Bool × Sl × Sl) (q : Bool × Sl × Sl × Sl) (w : World) (m : Heap) (hr : Rel ⟨m, []⟩ w.heap) (S : (Bool × Sl × Sl × Sl) → Heap → Prop) (H : ref12uAdd p k q m S) :
    Calls Tryd.prog 14 #[Value.agg (C_bool_sl_sl_sl p).toArray, Value.agg (C_bool_sl_sl k).toArray, Value.agg (C_bool_sl_sl_sl q).toArray] w (Post ⟨w, m⟩ (fun r => Value.agg (C_bool_sl_sl_sl r).toArray) S) := by
  refine Calls.lift (args := [Value.agg (C_bool_sl_sl_sl p).toArray, Value.agg (C_bool_sl_sl k).toArray, Value.agg (C_bool_sl_sl_sl q).toArray]) Tryd.func14 rfl Tryd.ntmps14 (Nat.le_of_ble_eq_true rfl) hr (ref12uAdd p k q m S) H (fun H => ?_)
  refine AtC.pick (ts := [0, 1, 2]) rfl ?_
  unfold ref12uAdd at H
  refine AtC.seqR ?_
  refine AtL.e rfl (EffX.boxP (cs := [_, _, _, _]) rfl rfl rfl H) ?_
  rintro _ _ ⟨b, _, rfl, rfl, _, H⟩
  refine AtL.e rfl (EffX.boxP (cs := [_, _, _]) rfl rfl rfl H) ?_
  rintro _ _ ⟨b_1, _, rfl, rfl, _, H⟩
  refine AtL.e rfl (EffX.boxP (cs := [_, _, _, _]) rfl rfl rfl H) ?_
  rintro _ _ ⟨b_2, _, rfl, rfl, _, H⟩
  refine AtL.e rfl (EffX.allocP (cs := [_, _, _, _]) hT rfl rfl H) ?_
  rintro _ _ ⟨b_3, _, rfl, rfl, _, H⟩
  refine AtL.nil ?_
  replace H := H.self
  refine AtE.then_n (AtE.go ?_)
  refine AtC.joinSeq (β := Nat) (fun (t0 : Bool × Sl × Sl × Sl) (bb : Nat) => [(7, Value.pointer (some ⟨bb, 0, none⟩))]) (fun (t0 : Bool × Sl × Sl × Sl) (bb : Nat) => [(bb, [Value.bool t0.1, Sl.toV t0.2.1, Sl.toV t0.2.2.1, Sl.toV t0.2.2.2])]) [3, 4, 5, 6] [0, 1, 2, 3] H (by exact rfl) (by exact rfl) (fun t0 bb h0u1 H => ?_) (fun J1 H HK1 => ?_)
  ·
   refine AtC.seqR ?_
   refine AtLX.bs (hT := hT) (cs := []) H rfl rfl rfl rfl rfl rfl rfl rfl rfl (fun a h0u43 H => ?_)
   refine AtL.pures hT 1 _ _ _ _ rfl ?_
   replace H := H _ rfl
   refine AtL.nil ?_
   refine AtE.then_n (AtE.go ?_)
   refine AtC.seqR ?_
   refine AtL.pures hT 2 _ _ _ _ rfl ?_
   refine AtL.nil ?_
   refine AtE.then_n (AtE.go ?_)
   refine AtC.seq ?_
   refine AtC.block ?_
   refine AtC.loopM (fun (s0 : Sl × Int × Int) => [(8, Sl.toV s0.1), (9, Value.int .i64 s0.2.1), (10, Value.int .i64 s0.2.2)]) (fun (s0 : Sl × Int × Int) => []) [3, 4, 5, 6, 7] [8, 9, 10, 3, 4, 5, 6, 7] [0, 1, 2, 3, 4] [0, 1, 2, 3, 4] H (by exact rfl) (by exact rfl) (by exact rfl) (by decide) (by exact rfl) (fun Kp8 s0 h0u44 H Q8 HK8 => ?_)
   refine AtC.seq ?_
   refine AtC.joinSeq (β := Unit) (fun (t0u1 : Bool) (bb_1 : Unit) => [(36, Value.bool t0u1)]) (fun (t0u1 : Bool) (bb_1 : Unit) => []) [3, 4, 5, 6, 7, 8, 9, 10] [0, 1, 2, 3, 4] H (by exact rfl) (by exact rfl) (fun t0u1 bb_1 h0u45 H => ?_) (fun J9 H HK9 => ?_)
   ·
    refine AtC.condB H rfl (fun H => ?_) (fun H => ?_)
    ·
     refine AtC.skip ?_
     refine AtE.then_n (AtE.go ?_)
     refine AtC.block ?_
     refine AtC.joinSeq (β := Unit) (fun (t0u2 : Bool) (bb_2 : Unit) => [(63, Value.bool t0u2)]) (fun (t0u2 : Bool) (bb_2 : Unit) => []) [3, 4, 5, 6, 7, 8, 9, 10] [0, 1, 2, 3, 4] H (by exact rfl) (by exact rfl) (fun t0u2 bb_2 h0u46 H => ?_) (fun J10 H HK10 => ?_)
     ·
      refine AtC.condB H rfl (fun H => ?_) (fun H => ?_)
      ·
       refine AtC.seqR ?_
       refine AtL.pures hT 2 _ _ _ _ rfl ?_
       refine AtL.q rfl (Quiet1.loadP (i := 4) hT rfl rfl rfl rfl rfl rfl) ?_
       refine AtL.pures hT 1 _ _ _ _ rfl ?_
       obtain ⟨a_3_, hc14, hd14, H⟩ := H
       refine AtL.q rfl (Quiet1.idxS (s := _) hT rfl rfl rfl rfl rfl hc14 hd14) ?_
       refine AtL.pures hT 1 _ _ _ _ rfl ?_
       obtain ⟨v_23, hc15, H⟩ := H
       refine AtL.q rfl (Quiet1.load hT rfl rfl rfl hc15) ?_
       refine AtLX.bs (hT := hT) (cs := [_]) H rfl rfl rfl rfl rfl rfl rfl rfl rfl (fun a_4 h0u47 H => ?_)
       refine AtL.e rfl (EffX.appendS (s := _) (u := _) hT rfl rfl rfl rfl rfl rfl rfl rfl rfl rfl (by decide) H) ?_
       rintro _ _ ⟨v_25, h0u48, rfl, rfl, H⟩
       refine AtL.pures hT 1 _ _ _ _ rfl ?_
       refine AtL.nil ?_
       refine AtE.then_n (AtE.go ?_)
       refine AtC.joinSeq (β := Unit) (fun (t0u3 : Int) (bb_3 : Unit) => [(10, Value.int .i64 t0u3)]) (fun (t0u3 : Int) (bb_3 : Unit) => []) [3, 4, 5, 6, 7, 8, 9] [0, 1, 2, 3, 4] H (by exact rfl) (by exact rfl) (fun t0u3 bb_3 h0u49 H => ?_) (fun J17 H HK17 => ?_)
       ·
        refine AtC.region ?_
        refine AtL.pures hT 3 _ _ _ _ rfl ?_
        replace H := H _ rfl
        refine AtL.nil ?_
        refine AtE.blk_n ?_
        exact AtE.then_n ((HK8 _ _ H).pickP (ts := [8, 9, 10, 3, 4, 5, 6, 7]) (is := [0, 1, 2, 3, 4]) rfl rfl (by decide) rfl)
       ·
        refine AtC.joinSeq (β := Unit) (fun (t0u4 : Bool) (bb_4 : Unit) => [(92, Value.bool t0u4)]) (fun (t0u4 : Bool) (bb_4 : Unit) => []) [3, 4, 5, 6, 7, 8, 9, 10] [0, 1, 2, 3, 4] H (by exact rfl) (by exact rfl) (fun t0u4 bb_4 h0u50 H => ?_) (fun J18 H HK18 => ?_)
        ·
         refine AtC.condB H rfl (fun H => ?_) (fun H => ?_)
         ·
          refine AtC.region ?_
          refine AtL.pures hT 3 _ _ _ _ rfl ?_
          replace H := H _ rfl
          refine AtL.nil ?_
          exact AtE.then_n ((HK17 _ () _ H).pickP (ts := [10, 3, 4, 5, 6, 7, 8, 9]) (is := [0, 1, 2, 3, 4]) rfl rfl (by decide) rfl)
         ·
          refine AtC.skip ?_
          exact AtE.then_n ((HK17 _ () _ H).pickP (ts := [10, 3, 4, 5, 6, 7, 8, 9]) (is := [0, 1, 2, 3, 4]) rfl rfl (by decide) rfl)
        ·
         refine AtC.draw hmix (by kernel_rfl) ?_
         refine AtD.pures hT 2 _ _ _ _ rfl ?_
         refine AtD.q rfl (Quiet1.loadP (i := 2) hT rfl rfl rfl rfl rfl rfl) ?_
         refine AtD.pures hT 3 _ _ _ _ rfl ?_
         refine AtD.splitB (t := 78) H rfl (fun H => ?_) (fun H => ?_)
         ·
          refine AtD.yes rfl rfl rfl ?_
          refine AtD.pures hT 1 _ _ _ _ rfl ?_
          refine AtD.yes rfl rfl rfl ?_
          refine AtD.q rfl (Quiet1.loadP (i := 4) hT rfl rfl rfl rfl rfl rfl) ?_
          refine AtD.yes rfl rfl rfl ?_
          refine AtD.pures hT 1 _ _ _ _ rfl ?_
          refine AtD.yes rfl rfl rfl ?_
          obtain ⟨a_5_, hc18, hd18, H⟩ := H
          refine AtD.q rfl (Quiet1.idxS (s := _) hT rfl rfl rfl rfl rfl hc18 hd18) ?_
          refine AtD.yes rfl rfl rfl ?_
          refine AtD.pures hT 1 _ _ _ _ rfl ?_
          refine AtD.yes rfl rfl rfl ?_
          obtain ⟨v_26, hc19, H⟩ := H
          refine AtD.q rfl (Quiet1.load hT rfl rfl rfl hc19) ?_
          refine AtD.yes rfl rfl rfl ?_
          refine AtD.pures hT 1 _ _ _ _ rfl ?_
          refine AtD.yes rfl rfl rfl ?_
          refine AtD.q rfl (Quiet1.loadP (i := 2) hT rfl rfl rfl rfl rfl rfl) ?_
          refine AtD.yes rfl rfl rfl ?_
          refine AtD.pures hT 1 _ _ _ _ rfl ?_
          refine AtD.yes rfl rfl rfl ?_
          obtain ⟨a_6_, hc20, hd20, H⟩ := H
          refine AtD.q rfl (Quiet1.idxS (s := _) hT rfl rfl rfl rfl rfl hc20 hd20) ?_
          refine AtD.yes rfl rfl rfl ?_
          refine AtD.pures hT 1 _ _ _ _ rfl ?_
          refine AtD.yes rfl rfl rfl ?_
          obtain ⟨v_27, hc21, H⟩ := H
          refine AtD.q rfl (Quiet1.load hT rfl rfl rfl hc21) ?_
          refine AtD.yes rfl rfl rfl ?_
          refine AtD.pures hT 1 _ _ _ _ rfl ?_
          refine AtD.pures hT 1 _ _ _ _ rfl ?_
          refine AtD.nil ?_
          exact AtE.then_n ((HK18 _ () _ H).pickP (ts := [92, 3, 4, 5, 6, 7, 8, 9, 10]) (is := [0, 1, 2, 3, 4]) rfl rfl (by decide) rfl)
         ·
          refine AtD.noF rfl rfl rfl (by decide) rfl ?_
          refine AtD.noF rfl rfl rfl (by decide) rfl ?_
          refine AtD.noF rfl rfl rfl (by decide) rfl ?_
          refine AtD.noF rfl rfl rfl (by decide) rfl ?_
          refine AtD.noF rfl rfl rfl (by decide) rfl ?_
          refine AtD.noF rfl rfl rfl (by decide) rfl ?_
          refine AtD.noF rfl rfl rfl (by decide) rfl ?_
          refine AtD.noF rfl rfl rfl (by decide) rfl ?_
          refine AtD.noF rfl rfl rfl (by decide) rfl ?_
          refine AtD.noF rfl rfl rfl (by decide) rfl ?_
          refine AtD.noF rfl rfl rfl (by decide) rfl ?_
          refine AtD.noF rfl rfl rfl (by decide) rfl ?_
          refine AtD.noF rfl rfl rfl (by decide) rfl ?_
          refine AtD.pures hT 1 _ _ _ _ rfl ?_
          refine AtD.nil ?_
          exact AtE.then_n ((HK18 _ () _ H).pickP (ts := [92, 3, 4, 5, 6, 7, 8, 9, 10]) (is := [0, 1, 2, 3, 4]) rfl rfl (by decide) rfl)
      ·
       refine AtC.seqR ?_
       refine AtL.pures hT 2 _ _ _ _ rfl ?_
       refine AtL.q rfl (Quiet1.loadP (i := 2) hT rfl rfl rfl rfl rfl rfl) ?_
       refine AtL.pures hT 1 _ _ _ _ rfl ?_
       obtain ⟨a_7_, hc22, hd22, H⟩ := H
       refine AtL.q rfl (Quiet1.idxS (s := _) hT rfl rfl rfl rfl rfl hc22 hd22) ?_
       refine AtL.pures hT 1 _ _ _ _ rfl ?_
       obtain ⟨v_28, hc23, H⟩ := H
       refine AtL.q rfl (Quiet1.load hT rfl rfl rfl hc23) ?_
       refine AtLX.bs (hT := hT) (cs := [_]) H rfl rfl rfl rfl rfl rfl rfl rfl rfl (fun a_8 h0u51 H => ?_)
       refine AtL.e rfl (EffX.appendS (s := _) (u := _) hT rfl rfl rfl rfl rfl rfl rfl rfl rfl rfl (by decide) H) ?_
       rintro _ _ ⟨v_30, h0u52, rfl, rfl, H⟩
       refine AtL.pures hT 1 _ _ _ _ rfl ?_
       refine AtL.nil ?_
       refine AtE.then_n (AtE.go ?_)
       refine AtC.region ?_
       refine AtL.pures hT 3 _ _ _ _ rfl ?_
       replace H := H _ rfl
       refine AtL.nil ?_
       refine AtE.blk_n ?_
       exact AtE.then_n ((HK8 _ _ H).pickP (ts := [8, 9, 10, 3, 4, 5, 6, 7]) (is := [0, 1, 2, 3, 4]) rfl rfl (by decide) rfl)
     ·
      refine AtC.draw hmix (by kernel_rfl) ?_
      refine AtD.pures hT 2 _ _ _ _ rfl ?_
      refine AtD.q rfl (Quiet1.loadP (i := 2) hT rfl rfl rfl rfl rfl rfl) ?_
      refine AtD.pures hT 3 _ _ _ _ rfl ?_
      refine AtD.splitB (t := 42) H rfl (fun H => ?_) (fun H => ?_)
      ·
       refine AtD.noF rfl rfl rfl (by decide) rfl ?_
       refine AtD.noF rfl rfl rfl (by decide) rfl ?_
       refine AtD.noF rfl rfl rfl (by decide) rfl ?_
       refine AtD.noF rfl rfl rfl (by decide) rfl ?_
       refine AtD.noF rfl rfl rfl (by decide) rfl ?_
       refine AtD.noF rfl rfl rfl (by decide) rfl ?_
       refine AtD.noU rfl rfl rfl rfl ?_
       refine AtD.noU rfl rfl rfl rfl ?_
       refine AtD.noU rfl rfl rfl rfl ?_
       refine AtD.noU rfl rfl rfl rfl ?_
       refine AtD.noU rfl rfl rfl rfl ?_
       refine AtD.noU rfl rfl rfl rfl ?_
       refine AtD.noU rfl rfl rfl rfl ?_
       refine AtD.noU rfl rfl rfl rfl ?_
       refine AtD.noU rfl rfl rfl rfl ?_
       refine AtD.noU rfl rfl rfl rfl ?_
       refine AtD.noU rfl rfl rfl rfl ?_
       refine AtD.noU rfl rfl rfl rfl ?_
       refine AtD.noU rfl rfl rfl rfl ?_
       refine AtD.noF rfl rfl rfl (by decide) rfl ?_
       refine AtD.pures hT 1 _ _ _ _ rfl ?_
       refine AtD.nil ?_
       exact AtE.then_n ((HK10 _ () _ H).pickP (ts := [63, 3, 4, 5, 6, 7, 8, 9, 10]) (is := [0, 1, 2, 3, 4]) rfl rfl (by decide) rfl)
      ·
       refine AtD.yes rfl rfl rfl ?_
       refine AtD.pures hT 1 _ _ _ _ rfl ?_
       refine AtD.yes rfl rfl rfl ?_
       refine AtD.pures hT 1 _ _ _ _ rfl ?_
       refine AtD.yes rfl rfl rfl ?_
       refine AtD.q rfl (Quiet1.loadP (i := 4) hT rfl rfl rfl rfl rfl rfl) ?_
       refine AtD.yes rfl rfl rfl ?_
       refine AtD.pures hT 1 _ _ _ _ rfl ?_
       refine AtD.yes rfl rfl rfl ?_
       refine AtD.pures hT 1 _ _ _ _ rfl ?_
       refine AtD.yes rfl rfl rfl ?_
       refine AtD.pures hT 1 _ _ _ _ rfl ?_
       refine AtD.splitB (t := 48) H rfl (fun H => ?_) (fun H => ?_)
       ·
        refine AtD.yes rfl rfl rfl ?_
        refine AtD.pures hT 1 _ _ _ _ rfl ?_
        refine AtD.yes rfl rfl rfl ?_
        refine AtD.q rfl (Quiet1.loadP (i := 4) hT rfl rfl rfl rfl rfl rfl) ?_
        refine AtD.yes rfl rfl rfl ?_
        refine AtD.pures hT 1 _ _ _ _ rfl ?_
        refine AtD.yes rfl rfl rfl ?_
        obtain ⟨a_1_, hc10, hd10, H⟩ := H
        refine AtD.q rfl (Quiet1.idxS (s := _) hT rfl rfl rfl rfl rfl hc10 hd10) ?_
        refine AtD.yes rfl rfl rfl ?_
        refine AtD.pures hT 1 _ _ _ _ rfl ?_
        refine AtD.yes rfl rfl rfl ?_
        obtain ⟨v_21, hc11, H⟩ := H
        refine AtD.q rfl (Quiet1.load hT rfl rfl rfl hc11) ?_
        refine AtD.yes rfl rfl rfl ?_
        refine AtD.pures hT 1 _ _ _ _ rfl ?_
        refine AtD.yes rfl rfl rfl ?_
        refine AtD.q rfl (Quiet1.loadP (i := 2) hT rfl rfl rfl rfl rfl rfl) ?_
        refine AtD.yes rfl rfl rfl ?_
        refine AtD.pures hT 1 _ _ _ _ rfl ?_
        refine AtD.yes rfl rfl rfl ?_
        obtain ⟨a_2_, hc12, hd12, H⟩ := H
        refine AtD.q rfl (Quiet1.idxS (s := _) hT rfl rfl rfl rfl rfl hc12 hd12) ?_
        refine AtD.yes rfl rfl rfl ?_
        refine AtD.pures hT 1 _ _ _ _ rfl ?_
        refine AtD.yes rfl rfl rfl ?_
        obtain ⟨v_22, hc13, H⟩ := H
        refine AtD.q rfl (Quiet1.load hT rfl rfl rfl hc13) ?_
        refine AtD.yes rfl rfl rfl ?_
        refine AtD.pures hT 1 _ _ _ _ rfl ?_
        refine AtD.yes rfl rfl rfl ?_
        refine AtD.pures hT 1 _ _ _ _ rfl ?_
        refine AtD.pures hT 1 _ _ _ _ rfl ?_
        refine AtD.nil ?_
        exact AtE.then_n ((HK10 _ () _ H).pickP (ts := [63, 3, 4, 5, 6, 7, 8, 9, 10]) (is := [0, 1, 2, 3, 4]) rfl rfl (by decide) rfl)
       ·
        refine AtD.noF rfl rfl rfl (by decide) rfl ?_
        refine AtD.noF rfl rfl rfl (by decide) rfl ?_
        refine AtD.noF rfl rfl rfl (by decide) rfl ?_
        refine AtD.noF rfl rfl rfl (by decide) rfl ?_
        refine AtD.noF rfl rfl rfl (by decide) rfl ?_
        refine AtD.noF rfl rfl rfl (by decide) rfl ?_
        refine AtD.noF rfl rfl rfl (by decide) rfl ?_
        refine AtD.noF rfl rfl rfl (by decide) rfl ?_
        refine AtD.noF rfl rfl rfl (by decide) rfl ?_
        refine AtD.noF rfl rfl rfl (by decide) rfl ?_
        refine AtD.noF rfl rfl rfl (by decide) rfl ?_
        refine AtD.noF rfl rfl rfl (by decide) rfl ?_
        refine AtD.noF rfl rfl rfl (by decide) rfl ?_
        refine AtD.yes rfl rfl rfl ?_
        refine AtD.pures hT 1 _ _ _ _ rfl ?_
        refine AtD.pures hT 1 _ _ _ _ rfl ?_
        refine AtD.nil ?_
        exact AtE.then_n ((HK10 _ () _ H).pickP (ts := [63, 3, 4, 5, 6, 7, 8, 9, 10]) (is := [0, 1, 2, 3, 4]) rfl rfl (by decide) rfl)
    ·
     refine AtC.exit ?_
     refine AtE.then_x ?_
     refine AtE.then_x ?_
     refine AtE.blk_hit ?_
     refine AtE.then_n (AtE.go ?_)
     refine AtC.seq ?_
     refine AtC.seqR ?_
     refine AtL.pures hT 1 _ _ _ _ rfl ?_
     refine AtL.nil ?_
     refine AtE.then_n (AtE.go ?_)
     refine AtC.block ?_
     refine AtC.loopM (fun (s0u1 : Int × Bool × Sl × Sl × Sl) => [(11, Value.int .i64 s0u1.1)]) (fun (s0u1 : Int × Bool × Sl × Sl × Sl) => [(bb, [Value.bool s0u1.2.1, Sl.toV s0u1.2.2.1, Sl.toV s0u1.2.2.2.1, Sl.toV s0u1.2.2.2.2])]) [3, 4, 5, 6, 7, 8] [11, 3, 4, 5, 6, 7, 8] [1, 2, 3, 4] [0, 1, 2, 3, 4] H (by exact rfl) (by exact rfl) (by exact rfl) (by decide) (by exact rfl) (fun Kp25 s0u1 h0u53 H Q25 HK25 => ?_)
     refine AtC.seq ?_
     refine AtC.seqR ?_
     refine AtL.pures hT 4 _ _ _ _ rfl ?_
     refine AtL.nil ?_
     refine AtE.then_n (AtE.go ?_)
     refine AtC.condB H rfl (fun H => ?_) (fun H => ?_)
     ·
      refine AtC.skip ?_
      refine AtE.then_n (AtE.go ?_)
      refine AtC.joinSeq (β := Unit) (fun (t0u5 : Bool × Sl × Sl × Sl) (bb_5 : Unit) => []) (fun (t0u5 : Bool × Sl × Sl × Sl) (bb_5 : Unit) => [(bb, [Value.bool t0u5.1, Sl.toV t0u5.2.1, Sl.toV t0u5.2.2.1, Sl.toV t0u5.2.2.2])]) [3, 4, 5, 6, 7, 8, 11] [1, 2, 3, 4] H (by exact rfl) (by exact rfl) (fun t0u5 bb_5 h0u54 H => ?_) (fun J26 H HK26 => ?_)
      ·
       refine AtC.region ?_
       refine AtL.pures hT 3 _ _ _ _ rfl ?_
       replace H := H _ rfl
       refine AtL.nil ?_
       exact AtE.then_n ((HK25 _ _ H).pickP (ts := [11, 3, 4, 5, 6, 7, 8]) (is := [0, 1, 2, 3, 4]) rfl rfl (by decide) rfl)
      ·
       refine AtC.block ?_
       refine AtC.joinSeq (β := Nat) (fun (t0u6 : Bool × Sl × Sl) (bb_6 : Nat) => [(12, Value.pointer (some ⟨bb_6, 0, none⟩))]) (fun (t0u6 : Bool × Sl × Sl) (bb_6 : Nat) => [(bb_6, [Value.bool t0u6.1, Sl.toV t0u6.2.1, Sl.toV t0u6.2.2])]) [3, 4, 5, 6, 7, 8, 11] [0, 1, 2, 3, 4] H (by exact rfl) (by exact rfl) (fun t0u6 bb_6 h0u55 H => ?_) (fun J27 H HK27 => ?_)
       ·
        refine AtC.seqR ?_
        refine AtL.pures hT 1 _ _ _ _ rfl ?_
        refine AtL.q rfl (Quiet1.loadP (i := 0) hT rfl rfl rfl rfl rfl rfl) ?_
        refine AtL.pures hT 2 _ _ _ _ rfl ?_
        refine AtL.nil ?_
        refine AtE.then_n (AtE.go ?_)
        refine AtC.condB H rfl (fun H => ?_) (fun H => ?_)
        ·
         obtain ⟨a_11_, hc38, hd38, H⟩ := H
         obtain ⟨v_47, hc39, H⟩ := H
         apply AtC.stages [7, 9, 10, 12] [[], [], [], [], [], [], [], [], [7], [7], [7, 9], [7, 9, 10], [7, 9, 10]] [[], [0], [], [], [2, 3], [2, 3, 4], [], [6], [2, 3, 4, 5, 6, 7], [2, 3, 4, 5, 6, 7, 8], [0, 1, 2, 3, 4, 5, 6, 7, 8, 9], [0, 1, 2, 3, 4, 5, 6, 7, 8, 9, 10], [0, 1, 2, 3, 4, 5, 6, 7, 8, 9, 10, 11]] hmix (by kernel_rfl) [(133, _), (134, _), (135, _), (136, _), (137, _), (138, _), (139, _)] rfl 4 rfl
         refine Stg.go [0, 1, 2, 3, 4, 5, 6] [7] rfl rfl (QAll.cons (QOp.p hT rfl rfl rfl rfl rfl) (QAll.cons (QOp.q rfl rfl (Quiet1.loadP (i := 1) hT rfl rfl rfl rfl rfl rfl) rfl rfl) (QAll.cons (QOp.p hT rfl rfl rfl rfl rfl) (QAll.cons (QOp.p hT rfl rfl rfl rfl rfl) (QAll.cons (QOp.q rfl rfl (Quiet1.idxS (s := _) hT rfl rfl rfl rfl rfl hc38 hd38) rfl rfl) (QAll.cons (QOp.q rfl rfl (Quiet1.load hT rfl rfl rfl hc39) rfl rfl) (QAll.cons (QOp.q rfl rfl (Quiet1.loadSP (i := 0) (l := [_, _, _]) hT rfl rfl rfl rfl rfl rfl rfl rfl) rfl rfl) QAll.nil))))))) ?_
         refine EAll.cons ?_ EAll.nil
         refine EOp.e rfl rfl rfl (EffX.call (f := 21) (sh := fun h => ref02uForm _ h _) (H0 := H) rfl Tryd.call21 rfl (hl := fun w m hr hw => lift_ref02uForm _ w m hr _ hw)) ?_
         rintro _ _ ⟨v_48, h0u85, rfl, rfl, H⟩
         obtain ⟨hc40, H⟩ := H
         apply Stg.next [(140, _), (141, _)] rfl rfl
         refine Stg.go [0, 1, 2, 3, 4, 5, 8] [9] rfl rfl (QAll.cons (QOp.p hT rfl rfl rfl rfl rfl) (QAll.cons (QOp.q rfl rfl (Quiet1.loadP (i := 1) hT rfl rfl rfl rfl rfl rfl) rfl rfl) (QAll.cons (QOp.p hT rfl rfl rfl rfl rfl) (QAll.cons (QOp.p hT rfl rfl rfl rfl rfl) (QAll.cons (QOp.q rfl rfl (Quiet1.idxS (s := _) hT rfl rfl rfl rfl rfl hc38 hd38) rfl rfl) (QAll.cons (QOp.q rfl rfl (Quiet1.load hT rfl rfl rfl hc40) rfl rfl) (QAll.cons (QOp.q rfl rfl (Quiet1.build (cs := [_, _, _, _]) hT rfl rfl rfl rfl rfl rfl) rfl rfl) QAll.nil))))))) ?_
         refine EAll.cons ?_ EAll.nil
         refine EOp.e rfl rfl rfl (EffX.buildS2 (cs := [_, _, _, _]) hT rfl rfl rfl rfl rfl rfl rfl rfl H) ?_
         rintro _ _ ⟨a_12, h0u86, rfl, rfl, H⟩
         apply Stg.next [(142, _)] rfl rfl
         refine Stg.go [0, 1] [10] rfl rfl (QAll.cons (QOp.p hT rfl rfl rfl rfl rfl) (QAll.cons (QOp.q rfl rfl (Quiet1.loadP (i := 1) hT rfl rfl rfl rfl rfl rfl) rfl rfl) QAll.nil)) ?_
         refine EAll.cons ?_ EAll.nil
         refine EOp.e rfl rfl rfl (EffX.appendS (s := _) (u := _) hT rfl rfl rfl rfl rfl rfl rfl rfl rfl rfl (by decide) H) ?_
         rintro _ _ ⟨v_50, h0u87, rfl, rfl, H⟩
         apply Stg.next [(143, _), (144, _)] rfl rfl
         refine Stg.go [11] [12] rfl rfl (QAll.cons (QOp.p hT rfl rfl rfl rfl rfl) QAll.nil) ?_
         refine EAll.cons ?_ EAll.nil
         refine EOp.e rfl rfl rfl (EffX.storeP (i := 1) (qv := [(_, [_, _, _]), (_, [_, _, _, _]), (_, [_, _, _, _]), (_, [_, _, _, _]), (_, [_, _, _]), (_, [_, _, _, _])]) hT rfl rfl rfl rfl rfl rfl rfl rfl rfl) ?_
         rintro _ _ rfl
         apply Stg.next [] rfl rfl
         refine Stg.fin [] rfl rfl QAll.nil ?_
         refine AtE.blk_n ?_
         exact AtE.then_n ((HK26 _ () _ H).pickP (ts := [3, 4, 5, 6, 7, 8, 11]) (is := [1, 2, 3, 4, 5]) rfl rfl (by decide) rfl)
        ·
         refine AtC.skip ?_
         refine AtE.blk_n ?_
         exact AtE.then_n ((HK26 _ () _ H).pickP (ts := [3, 4, 5, 6, 7, 8, 11]) (is := [1, 2, 3, 4, 5]) rfl rfl (by decide) rfl)
       ·
        obtain ⟨a_9_, hc27, hd27, H⟩ := H
        obtain ⟨v_31, hc28, H⟩ := H
        obtain ⟨a_10_, hc29, hd29, H⟩ := H
        obtain ⟨v_32, hc30, H⟩ := H
        apply AtC.stages [5, 12, 13, 14, 15, 16] [[], [], [], [], [], [], [], [], [], [], [], [], [5], [5, 12], [5, 12, 13], [], [5, 12, 13, 14, 15]] [[], [], [], [1, 2], [1, 2, 3], [0, 1, 2, 3, 4], [], [], [], [], [8, 9], [8, 9, 10], [0, 1, 2, 3, 4, 5, 7, 8, 9, 10, 11], [0, 1, 2, 3, 4, 5, 6, 7, 8, 9, 10, 11, 12], [0, 1, 2, 3, 4, 5, 6, 7, 8, 9, 10, 11, 12, 13], [], [0, 1, 2, 3, 4, 5, 6, 7, 8, 9, 10, 11, 12, 13, 14, 15]] hmix (by kernel_rfl) [(114, _), (115, _), (116, _), (117, _), (118, _), (120, _), (121, _), (122, _), (123, _), (124, _), (125, _)] rfl 6 rfl
        refine Stg.go [0, 1, 2, 3, 4, 6, 7, 8, 9, 10, 11] [5, 15] rfl rfl (QAll.cons (QOp.q rfl rfl (Quiet1.loadSP (i := 4) (l := [_, _, _, _]) hT rfl rfl rfl rfl rfl rfl rfl rfl) rfl rfl) (QAll.cons (QOp.p hT rfl rfl rfl rfl rfl) (QAll.cons (QOp.p hT rfl rfl rfl rfl rfl) (QAll.cons (QOp.q rfl rfl (Quiet1.idxS (s := _) hT rfl rfl rfl rfl rfl hc27 hd27) rfl rfl) (QAll.cons (QOp.q rfl rfl (Quiet1.load hT rfl rfl rfl hc28) rfl rfl) (QAll.cons (QOp.q rfl rfl (Quiet1.loadSP (i := 3) (l := [_, _, _]) hT rfl rfl rfl rfl rfl rfl rfl rfl) rfl rfl) (QAll.cons (QOp.q rfl rfl (Quiet1.loadSP (i := 2) (l := [_, _, _, _]) hT rfl rfl rfl rfl rfl rfl rfl rfl) rfl rfl) (QAll.cons (QOp.p hT rfl rfl rfl rfl rfl) (QAll.cons (QOp.p hT rfl rfl rfl rfl rfl) (QAll.cons (QOp.q rfl rfl (Quiet1.idxS (s := _) hT rfl rfl rfl rfl rfl hc29 hd29) rfl rfl) (QAll.cons (QOp.q rfl rfl (Quiet1.load hT rfl rfl rfl hc30) rfl rfl) QAll.nil))))))))))) ?_
        refine EAll.cons ?_ ?_
        ·
         replace H := H.self
         refine EOp.e rfl rfl rfl (EffX.call (f := 32) (sh := fun h => ref12uCoef _ _ h _) (H0 := H) rfl Tryd.call32 rfl (hl := fun w m hr hw => lift_ref12uCoef _ _ w m hr _ hw)) ?_
         rintro _ _ ⟨v_33, h0u57, rfl, rfl, H⟩
         obtain ⟨hc31, H⟩ := H
         apply Stg.next [(119, _)] rfl rfl
         refine Stg.go [6, 7, 8, 9, 10, 11] [12, 15] rfl rfl (QAll.cons (QOp.q rfl rfl (Quiet1.loadSP (i := 3) (l := [_, _, _]) hT rfl rfl rfl rfl rfl rfl rfl rfl) rfl rfl) (QAll.cons (QOp.q rfl rfl (Quiet1.loadSP (i := 2) (l := [_, _, _, _]) hT rfl rfl rfl rfl rfl rfl rfl rfl) rfl rfl) (QAll.cons (QOp.p hT rfl rfl rfl rfl rfl) (QAll.cons (QOp.p hT rfl rfl rfl rfl rfl) (QAll.cons (QOp.q rfl rfl (Quiet1.idxS (s := _) hT rfl rfl rfl rfl rfl hc29 hd29) rfl rfl) (QAll.cons (QOp.q rfl rfl (Quiet1.load hT rfl rfl rfl hc31) rfl rfl) QAll.nil)))))) ?_
         refine EAll.cons ?_ ?_
         ·
          replace H := H.self
          refine EOp.e rfl rfl rfl (EffX.call (f := 32) (sh := fun h => ref12uCoef _ _ h _) (H0 := H) rfl Tryd.call32 rfl (hl := fun w m hr hw => lift_ref12uCoef _ _ w m hr _ hw)) ?_
          rintro _ _ ⟨v_34, h0u59, rfl, rfl, H⟩
          apply Stg.next [(126, _)] rfl rfl
          refine Stg.go [6] [13, 15] rfl rfl (QAll.cons (QOp.q rfl rfl (Quiet1.loadSP (i := 3) (l := [_, _, _]) hT rfl rfl rfl rfl rfl rfl rfl rfl) rfl rfl) QAll.nil) ?_
          refine EAll.cons ?_ ?_
          ·
           replace H := H.self
           refine EOp.e rfl rfl rfl (EffX.call (f := 31) (sh := fun h => ref02uMul _ _ h _) (H0 := H) rfl Tryd.call31 rfl (hl := fun w m hr hw => lift_ref02uMul _ _ w m hr _ hw)) ?_
           rintro _ _ ⟨v_35, h0u61, rfl, rfl, H⟩
           apply Stg.next [(127, _)] rfl rfl
           refine Stg.go [] [14, 15] rfl rfl QAll.nil ?_
           refine EAll.cons ?_ ?_
           ·
            replace H := H.self
            refine EOp.e rfl rfl rfl (EffX.call (f := 30) (sh := fun h => ref02uAdd _ _ h _) (H0 := H) rfl Tryd.call30 rfl (hl := fun w m hr hw => lift_ref02uAdd _ _ w m hr _ hw)) ?_
            rintro _ _ ⟨v_36, h0u63, rfl, rfl, H⟩
            apply Stg.next [(128, _)] rfl rfl
            refine Stg.go [] [15] rfl rfl QAll.nil ?_
            refine EAll.cons ?_ EAll.nil
            refine EOp.e rfl rfl rfl (EffX.allocP (cs := [_, _, _]) hT rfl rfl H) ?_
            rintro _ _ ⟨b_10, _, rfl, rfl, he32, H⟩
            apply Stg.next [(12, _)] rfl rfl
            refine Stg.go [] [16] rfl rfl QAll.nil ?_
            refine EAll.cons ?_ EAll.nil
            refine EOp.e rfl rfl rfl (EffX.storeSP (i := 0) (qv := [(_, [_, _, _]), (_, [_, _, _, _]), (_, [_, _, _, _]), (_, [_, _, _, _]), (_, [_, _, _]), (_, [_, _, _, _])]) hT rfl rfl rfl rfl rfl rfl rfl rfl rfl rfl) ?_
            rintro _ _ rfl
            apply Stg.next [] rfl rfl
            refine Stg.fin [] rfl rfl QAll.nil ?_
            replace H := H.self
            exact AtE.then_n ((HK27 _ b_10 _ H).pickP (ts := [12, 3, 4, 5, 6, 7, 8, 11]) (is := [0, 1, 2, 3, 4, 5]) rfl rfl (by decide) rfl)
           refine EAll.cons ?_ EAll.nil
           refine EOp.e rfl rfl rfl (EffX.allocP (cs := [_, _, _]) hT rfl rfl H) ?_
           rintro _ _ ⟨b_11, _, rfl, rfl, he33, H⟩
           apply Stg.next [(12, _)] rfl rfl
           refine Stg.go [] [14] rfl rfl QAll.nil ?_
           refine EAll.cons ?_ EAll.nil
           replace H := H.self
           refine EOp.e rfl rfl rfl (EffX.call (f := 30) (sh := fun h => ref02uAdd _ _ h _) (H0 := H) rfl Tryd.call30 rfl (hl := fun w m hr hw => lift_ref02uAdd _ _ w m hr _ hw)) ?_
           rintro _ _ ⟨v_37, h0u65, rfl, rfl, H⟩
           apply Stg.next [(128, _)] rfl rfl
           refine Stg.go [] [16] rfl rfl QAll.nil ?_
           refine EAll.cons ?_ EAll.nil
           refine EOp.e rfl rfl rfl (EffX.storeSP (i := 0) (qv := [(_, [_, _, _]), (_, [_, _, _, _]), (_, [_, _, _, _]), (_, [_, _, _, _]), (_, [_, _, _]), (_, [_, _, _, _])]) hT rfl rfl rfl rfl rfl rfl rfl rfl rfl rfl) ?_
           rintro _ _ rfl
           apply Stg.next [] rfl rfl
           refine Stg.fin [] rfl rfl QAll.nil ?_
           replace H := H.self
           exact AtE.then_n ((HK27 _ b_11 _ H).pickP (ts := [12, 3, 4, 5, 6, 7, 8, 11]) (is := [0, 1, 2, 3, 4, 5]) rfl rfl (by decide) rfl)
          refine EAll.cons ?_ EAll.nil
          refine EOp.e rfl rfl rfl (EffX.allocP (cs := [_, _, _]) hT rfl rfl H) ?_
          rintro _ _ ⟨b_12, _, rfl, rfl, he34, H⟩
          apply Stg.next [(12, _)] rfl rfl
          refine Stg.go [6] [13] rfl rfl (QAll.cons (QOp.q rfl rfl (Quiet1.loadSP (i := 4) (l := [_, _, _]) hT rfl rfl rfl rfl rfl rfl rfl rfl) rfl rfl) QAll.nil) ?_
          refine EAll.cons ?_ EAll.nil
          replace H := H.self
          refine EOp.e rfl rfl rfl (EffX.call (f := 31) (sh := fun h => ref02uMul _ _ h _) (H0 := H) rfl Tryd.call31 rfl (hl := fun w m hr hw => lift_ref02uMul _ _ w m hr _ hw)) ?_
          rintro _ _ ⟨v_38, h0u67, rfl, rfl, H⟩
          apply Stg.next [(127, _)] rfl rfl
          refine Stg.go [] [14] rfl rfl QAll.nil ?_
          refine EAll.cons ?_ EAll.nil
          replace H := H.self
          refine EOp.e rfl rfl rfl (EffX.call (f := 30) (sh := fun h => ref02uAdd _ _ h _) (H0 := H) rfl Tryd.call30 rfl (hl := fun w m hr hw => lift_ref02uAdd _ _ w m hr _ hw)) ?_
          rintro _ _ ⟨v_39, h0u69, rfl, rfl, H⟩
          apply Stg.next [(128, _)] rfl rfl
          refine Stg.go [] [16] rfl rfl QAll.nil ?_
          refine EAll.cons ?_ EAll.nil
          refine EOp.e rfl rfl rfl (EffX.storeSP (i := 0) (qv := [(_, [_, _, _]), (_, [_, _, _, _]), (_, [_, _, _, _]), (_, [_, _, _, _]), (_, [_, _, _]), (_, [_, _, _, _])]) hT rfl rfl rfl rfl rfl rfl rfl rfl rfl rfl) ?_
          rintro _ _ rfl
          apply Stg.next [] rfl rfl
          refine Stg.fin [] rfl rfl QAll.nil ?_
          replace H := H.self
          exact AtE.then_n ((HK27 _ b_12 _ H).pickP (ts := [12, 3, 4, 5, 6, 7, 8, 11]) (is := [0, 1, 2, 3, 4, 5]) rfl rfl (by decide) rfl)
         refine EAll.cons ?_ EAll.nil
         refine EOp.e rfl rfl rfl (EffX.allocP (cs := [_, _, _]) hT rfl rfl H) ?_
         rintro _ _ ⟨b_13, _, rfl, rfl, he35, H⟩
         replace hc31 := he35.cell hc31
         apply Stg.next [(12, _)] rfl rfl
         refine Stg.go [6, 7, 8, 9, 10, 11] [12] rfl rfl (QAll.cons (QOp.q rfl rfl (Quiet1.loadSP (i := 4) (l := [_, _, _]) hT rfl rfl rfl rfl rfl rfl rfl rfl) rfl rfl) (QAll.cons (QOp.q rfl rfl (Quiet1.loadSP (i := 3) (l := [_, _, _, _]) hT rfl rfl rfl rfl rfl rfl rfl rfl) rfl rfl) (QAll.cons (QOp.p hT rfl rfl rfl rfl rfl) (QAll.cons (QOp.p hT rfl rfl rfl rfl rfl) (QAll.cons (QOp.q rfl rfl (Quiet1.idxS (s := _) hT rfl rfl rfl rfl rfl hc29 hd29) rfl rfl) (QAll.cons (QOp.q rfl rfl (Quiet1.load hT rfl rfl rfl hc31) rfl rfl) QAll.nil)))))) ?_
         refine EAll.cons ?_ EAll.nil
         replace H := H.self
         refine EOp.e rfl rfl rfl (EffX.call (f := 32) (sh := fun h => ref12uCoef _ _ h _) (H0 := H) rfl Tryd.call32 rfl (hl := fun w m hr hw => lift_ref12uCoef _ _ w m hr _ hw)) ?_
         rintro _ _ ⟨v_40, h0u71, rfl, rfl, H⟩
         apply Stg.next [(126, _)] rfl rfl
         refine Stg.go [6] [13] rfl rfl (QAll.cons (QOp.q rfl rfl (Quiet1.loadSP (i := 4) (l := [_, _, _]) hT rfl rfl rfl rfl rfl rfl rfl rfl) rfl rfl) QAll.nil) ?_
         refine EAll.cons ?_ EAll.nil
         replace H := H.self
         refine EOp.e rfl rfl rfl (EffX.call (f := 31) (sh := fun h => ref02uMul _ _ h _) (H0 := H) rfl Tryd.call31 rfl (hl := fun w m hr hw => lift_ref02uMul _ _ w m hr _ hw)) ?_
         rintro _ _ ⟨v_41, h0u73, rfl, rfl, H⟩
         apply Stg.next [(127, _)] rfl rfl
         refine Stg.go [] [14] rfl rfl QAll.nil ?_
         refine EAll.cons ?_ EAll.nil
         replace H := H.self
         refine EOp.e rfl rfl rfl (EffX.call (f := 30) (sh := fun h => ref02uAdd _ _ h _) (H0 := H) rfl Tryd.call30 rfl (hl := fun w m hr hw => lift_ref02uAdd _ _ w m hr _ hw)) ?_
         rintro _ _ ⟨v_42, h0u75, rfl, rfl, H⟩
         apply Stg.next [(128, _)] rfl rfl
         refine Stg.go [] [16] rfl rfl QAll.nil ?_
         refine EAll.cons ?_ EAll.nil
         refine EOp.e rfl rfl rfl (EffX.storeSP (i := 0) (qv := [(_, [_, _, _]), (_, [_, _, _, _]), (_, [_, _, _, _]), (_, [_, _, _, _]), (_, [_, _, _]), (_, [_, _, _, _])]) hT rfl rfl rfl rfl rfl rfl rfl rfl rfl rfl) ?_
         rintro _ _ rfl
         apply Stg.next [] rfl rfl
         refine Stg.fin [] rfl rfl QAll.nil ?_
         replace H := H.self
         exact AtE.then_n ((HK27 _ b_13 _ H).pickP (ts := [12, 3, 4, 5, 6, 7, 8, 11]) (is := [0, 1, 2, 3, 4, 5]) rfl rfl (by decide) rfl)
        refine EAll.cons ?_ EAll.nil
        refine EOp.e rfl rfl rfl (EffX.allocP (cs := [_, _, _]) hT rfl rfl H) ?_
        rintro _ _ ⟨b_14, _, rfl, rfl, he36, H⟩
        replace hc28 := he36.cell hc28
        replace hc30 := he36.cell hc30
        apply Stg.next [(12, _)] rfl rfl
        refine Stg.go [0, 1, 2, 3, 4, 6, 7, 8, 9, 10, 11] [5] rfl rfl (QAll.cons (QOp.q rfl rfl (Quiet1.loadSP (i := 5) (l := [_, _, _, _]) hT rfl rfl rfl rfl rfl rfl rfl rfl) rfl rfl) (QAll.cons (QOp.p hT rfl rfl rfl rfl rfl) (QAll.cons (QOp.p hT rfl rfl rfl rfl rfl) (QAll.cons (QOp.q rfl rfl (Quiet1.idxS (s := _) hT rfl rfl rfl rfl rfl hc27 hd27) rfl rfl) (QAll.cons (QOp.q rfl rfl (Quiet1.load hT rfl rfl rfl hc28) rfl rfl) (QAll.cons (QOp.q rfl rfl (Quiet1.loadSP (i := 4) (l := [_, _, _]) hT rfl rfl rfl rfl rfl rfl rfl rfl) rfl rfl) (QAll.cons (QOp.q rfl rfl (Quiet1.loadSP (i := 3) (l := [_, _, _, _]) hT rfl rfl rfl rfl rfl rfl rfl rfl) rfl rfl) (QAll.cons (QOp.p hT rfl rfl rfl rfl rfl) (QAll.cons (QOp.p hT rfl rfl rfl rfl rfl) (QAll.cons (QOp.q rfl rfl (Quiet1.idxS (s := _) hT rfl rfl rfl rfl rfl hc29 hd29) rfl rfl) (QAll.cons (QOp.q rfl rfl (Quiet1.load hT rfl rfl rfl hc30) rfl rfl) QAll.nil))))))))))) ?_
        refine EAll.cons ?_ EAll.nil
        replace H := H.self
        refine EOp.e rfl rfl rfl (EffX.call (f := 32) (sh := fun h => ref12uCoef _ _ h _) (H0 := H) rfl Tryd.call32 rfl (hl := fun w m hr hw => lift_ref12uCoef _ _ w m hr _ hw)) ?_
        rintro _ _ ⟨v_43, h0u77, rfl, rfl, H⟩
        obtain ⟨hc37, H⟩ := H
        apply Stg.next [(119, _)] rfl rfl
        refine Stg.go [6, 7, 8, 9, 10, 11] [12] rfl rfl (QAll.cons (QOp.q rfl rfl (Quiet1.loadSP (i := 4) (l := [_, _, _]) hT rfl rfl rfl rfl rfl rfl rfl rfl) rfl rfl) (QAll.cons (QOp.q rfl rfl (Quiet1.loadSP (i := 3) (l := [_, _, _, _]) hT rfl rfl rfl rfl rfl rfl rfl rfl) rfl rfl) (QAll.cons (QOp.p hT rfl rfl rfl rfl rfl) (QAll.cons (QOp.p hT rfl rfl rfl rfl rfl) (QAll.cons (QOp.q rfl rfl (Quiet1.idxS (s := _) hT rfl rfl rfl rfl rfl hc29 hd29) rfl rfl) (QAll.cons (QOp.q rfl rfl (Quiet1.load hT rfl rfl rfl hc37) rfl rfl) QAll.nil)))))) ?_
        refine EAll.cons ?_ EAll.nil
        replace H := H.self
        refine EOp.e rfl rfl rfl (EffX.call (f := 32) (sh := fun h => ref12uCoef _ _ h _) (H0 := H) rfl Tryd.call32 rfl (hl := fun w m hr hw => lift_ref12uCoef _ _ w m hr _ hw)) ?_
        rintro _ _ ⟨v_44, h0u79, rfl, rfl, H⟩
        apply Stg.next [(126, _)] rfl rfl
        refine Stg.go [6] [13] rfl rfl (QAll.cons (QOp.q rfl rfl (Quiet1.loadSP (i := 4) (l := [_, _, _]) hT rfl rfl rfl rfl rfl rfl rfl rfl) rfl rfl) QAll.nil) ?_
        refine EAll.cons ?_ EAll.nil
        replace H := H.self
        refine EOp.e rfl rfl rfl (EffX.call (f := 31) (sh := fun h => ref02uMul _ _ h _) (H0 := H) rfl Tryd.call31 rfl (hl := fun w m hr hw => lift_ref02uMul _ _ w m hr _ hw)) ?_
        rintro _ _ ⟨v_45, h0u81, rfl, rfl, H⟩
        apply Stg.next [(127, _)] rfl rfl
        refine Stg.go [] [14] rfl rfl QAll.nil ?_
        refine EAll.cons ?_ EAll.nil
        replace H := H.self
        refine EOp.e rfl rfl rfl (EffX.call (f := 30) (sh := fun h => ref02uAdd _ _ h _) (H0 := H) rfl Tryd.call30 rfl (hl := fun w m hr hw => lift_ref02uAdd _ _ w m hr _ hw)) ?_
        rintro _ _ ⟨v_46, h0u83, rfl, rfl, H⟩
        apply Stg.next [(128, _)] rfl rfl
        refine Stg.go [] [16] rfl rfl QAll.nil ?_
        refine EAll.cons ?_ EAll.nil
        refine EOp.e rfl rfl rfl (EffX.storeSP (i := 0) (qv := [(_, [_, _, _]), (_, [_, _, _, _]), (_, [_, _, _, _]), (_, [_, _, _, _]), (_, [_, _, _]), (_, [_, _, _, _])]) hT rfl rfl rfl rfl rfl rfl rfl rfl rfl rfl) ?_
        rintro _ _ rfl
        apply Stg.next [] rfl rfl
        refine Stg.fin [] rfl rfl QAll.nil ?_
        replace H := H.self
        exact AtE.then_n ((HK27 _ b_14 _ H).pickP (ts := [12, 3, 4, 5, 6, 7, 8, 11]) (is := [0, 1, 2, 3, 4, 5]) rfl rfl (by decide) rfl)
     ·
      refine AtC.exit ?_
      refine AtE.then_x ?_
      refine AtE.then_x ?_
      refine AtE.blk_hit ?_
      refine AtE.then_n (AtE.go ?_)
      refine AtC.seqR ?_
      refine AtL.q rfl (Quiet1.loadSP (i := 0) (l := [_, _, _, _]) hT rfl rfl rfl rfl rfl rfl rfl rfl) ?_
      refine AtL.e rfl (EffX.storeSP (i := 1) (qv := [(_, [_, _, _, _]), (_, [_, _, _, _]), (_, [_, _, _, _]), (_, [_, _, _]), (_, [_, _, _, _])]) hT rfl rfl rfl rfl rfl rfl rfl rfl rfl rfl) ?_
      rintro _ _ rfl
      refine AtL.nil ?_
      refine AtE.then_n (AtE.go ?_)
      refine AtC.ret ?_
      exact AtE.retN (rs := [.cell 6 30]) rfl (ResAll.cons (ResAt.cellSP (i := 1) (l := [_, _, _, _]) hT rfl rfl rfl rfl rfl rfl rfl) ResAll.nil) rfl H
   ·
    refine AtC.region ?_
    refine AtL.pures hT 2 _ _ _ _ rfl ?_
    refine AtL.q rfl (Quiet1.loadP (i := 4) hT rfl rfl rfl rfl rfl rfl) ?_
    refine AtL.pures hT 3 _ _ _ _ rfl ?_
    refine AtL.splitB (t := 30) H rfl (fun H => ?_) (fun H => ?_)
    ·
     refine AtL.noF rfl rfl rfl (by decide) rfl ?_
     refine AtL.noF rfl rfl rfl (by decide) rfl ?_
     refine AtL.noF rfl rfl rfl (by decide) rfl ?_
     refine AtL.noF rfl rfl rfl (by decide) rfl ?_
     refine AtL.noF rfl rfl rfl (by decide) rfl ?_
     refine AtL.pures hT 1 _ _ _ _ rfl ?_
     refine AtL.nil ?_
     exact AtE.then_n ((HK9 _ () _ H).pickP (ts := [36, 3, 4, 5, 6, 7, 8, 9, 10]) (is := [0, 1, 2, 3, 4]) rfl rfl (by decide) rfl)
    ·
     refine AtL.yes rfl rfl rfl ?_
     refine AtL.pures hT 1 _ _ _ _ rfl ?_
     refine AtL.yes rfl rfl rfl ?_
     refine AtL.pures hT 1 _ _ _ _ rfl ?_
     refine AtL.yes rfl rfl rfl ?_
     refine AtL.q rfl (Quiet1.loadP (i := 2) hT rfl rfl rfl rfl rfl rfl) ?_
     refine AtL.yes rfl rfl rfl ?_
     refine AtL.pures hT 1 _ _ _ _ rfl ?_
     refine AtL.yes rfl rfl rfl ?_
     refine AtL.pures hT 1 _ _ _ _ rfl ?_
     refine AtL.pures hT 1 _ _ _ _ rfl ?_
     refine AtL.nil ?_
     exact AtE.then_n ((HK9 _ () _ H).pickP (ts := [36, 3, 4, 5, 6, 7, 8, 9, 10]) (is := [0, 1, 2, 3, 4]) rfl rfl (by decide) rfl)
  ·
   apply AtC.stages [2, 6, 7, 8, 9, 11, 12] [[], [], [], [], [], [], [2], [2, 6], [2, 6, 7], [2, 6, 7, 8], [2, 6, 7, 8, 9], [], [2, 6, 7, 8, 9, 11]] [[], [0], [0, 1], [], [], [4], [0, 1, 2, 4, 5], [0, 1, 2, 3, 4, 5, 6], [0, 1, 2, 3, 4, 5, 6, 7], [0, 1, 2, 3, 4, 5, 6, 7, 8], [0, 1, 2, 3, 4, 5, 6, 7, 8, 9], [], [0, 1, 2, 3, 4, 5, 6, 7, 8, 9, 10, 11]] hmix (by kernel_rfl) [(13, _), (14, _), (16, _), (17, _), (18, _)] rfl 7 rfl
   refine Stg.go [0, 1, 3, 4, 5] [2, 11] rfl rfl (QAll.cons (QOp.p hT rfl rfl rfl rfl rfl) (QAll.cons (QOp.q rfl rfl (Quiet1.loadSP (i := 3) (l := [_, _, _]) hT rfl rfl rfl rfl rfl rfl rfl rfl) rfl rfl) (QAll.cons (QOp.q rfl rfl (Quiet1.loadSP (i := 2) (l := [_, _, _]) hT rfl rfl rfl rfl rfl rfl rfl rfl) rfl rfl) (QAll.cons (QOp.p hT rfl rfl rfl rfl rfl) (QAll.cons (QOp.q rfl rfl (Quiet1.loadSP (i := 1) (l := [_, _, _]) hT rfl rfl rfl rfl rfl rfl rfl rfl) rfl rfl) QAll.nil))))) ?_
   refine EAll.cons ?_ ?_
   ·
    replace H := H.self
    refine EOp.e rfl rfl rfl (EffX.call (f := 11) (sh := fun h => ref02uOf _ h _) (H0 := H) rfl Tryd.call11 rfl (hl := fun w m hr hw => lift_ref02uOf _ w m hr _ hw)) ?_
    rintro _ _ ⟨v, h0u3, rfl, rfl, H⟩
    apply Stg.next [(15, _)] rfl rfl
    refine Stg.go [3, 4, 5] [6, 11] rfl rfl (QAll.cons (QOp.q rfl rfl (Quiet1.loadSP (i := 2) (l := [_, _, _]) hT rfl rfl rfl rfl rfl rfl rfl rfl) rfl rfl) (QAll.cons (QOp.p hT rfl rfl rfl rfl rfl) (QAll.cons (QOp.q rfl rfl (Quiet1.loadSP (i := 1) (l := [_, _, _]) hT rfl rfl rfl rfl rfl rfl rfl rfl) rfl rfl) QAll.nil))) ?_
    refine EAll.cons ?_ ?_
    ·
     replace H := H.self
     refine EOp.e rfl rfl rfl (EffX.call (f := 11) (sh := fun h => ref02uOf _ h _) (H0 := H) rfl Tryd.call11 rfl (hl := fun w m hr hw => lift_ref02uOf _ w m hr _ hw)) ?_
     rintro _ _ ⟨v_1, h0u5, rfl, rfl, H⟩
     apply Stg.next [(19, _)] rfl rfl
     refine Stg.go [3] [7, 11] rfl rfl (QAll.cons (QOp.q rfl rfl (Quiet1.loadSP (i := 2) (l := [_, _, _]) hT rfl rfl rfl rfl rfl rfl rfl rfl) rfl rfl) QAll.nil) ?_
     refine EAll.cons ?_ ?_
     ·
      replace H := H.self
      refine EOp.e rfl rfl rfl (EffX.call (f := 31) (sh := fun h => ref02uMul _ _ h _) (H0 := H) rfl Tryd.call31 rfl (hl := fun w m hr hw => lift_ref02uMul _ _ w m hr _ hw)) ?_
      rintro _ _ ⟨v_2, h0u7, rfl, rfl, H⟩
      apply Stg.next [(20, _)] rfl rfl
      refine Stg.go [] [8, 11] rfl rfl QAll.nil ?_
      refine EAll.cons ?_ ?_
      ·
       replace H := H.self
       refine EOp.e rfl rfl rfl (EffX.call (f := 30) (sh := fun h => ref02uAdd _ _ h _) (H0 := H) rfl Tryd.call30 rfl (hl := fun w m hr hw => lift_ref02uAdd _ _ w m hr _ hw)) ?_
       rintro _ _ ⟨v_3, h0u9, rfl, rfl, H⟩
       apply Stg.next [(21, _)] rfl rfl
       refine Stg.go [] [9, 11] rfl rfl QAll.nil ?_
       refine EAll.cons ?_ ?_
       ·
        replace H := H.self
        refine EOp.e rfl rfl rfl (EffX.call (f := 21) (sh := fun h => ref02uForm _ h _) (H0 := H) rfl Tryd.call21 rfl (hl := fun w m hr hw => lift_ref02uForm _ w m hr _ hw)) ?_
        rintro _ _ ⟨v_4, h0u11, rfl, rfl, H⟩
        apply Stg.next [(22, _), (23, _)] rfl rfl
        refine Stg.go [10] [11] rfl rfl (QAll.cons (QOp.q rfl rfl (Quiet1.build (cs := [_, _, _, _]) hT rfl rfl rfl rfl rfl rfl) rfl rfl) QAll.nil) ?_
        refine EAll.cons ?_ EAll.nil
        refine EOp.e rfl rfl rfl (EffX.allocP (cs := [_, _, _, _]) hT rfl rfl H) ?_
        rintro _ _ ⟨b_4, _, rfl, rfl, he1, H⟩
        apply Stg.next [(7, _)] rfl rfl
        refine Stg.go [10] [12] rfl rfl (QAll.cons (QOp.q rfl rfl (Quiet1.build (cs := [_, _, _, _]) hT rfl rfl rfl rfl rfl rfl) rfl rfl) QAll.nil) ?_
        refine EAll.cons ?_ EAll.nil
        refine EOp.e rfl rfl rfl (EffX.storeSP (i := 0) (qv := [(_, [_, _, _, _]), (_, [_, _, _, _]), (_, [_, _, _, _]), (_, [_, _, _]), (_, [_, _, _, _])]) hT rfl rfl rfl rfl rfl rfl rfl rfl rfl rfl) ?_
        rintro _ _ rfl
        apply Stg.next [] rfl rfl
        refine Stg.fin [] rfl rfl QAll.nil ?_
        replace H := H.self
        exact AtE.then_n ((HK1 _ b_4 _ H).pickP (ts := [7, 3, 4, 5, 6]) (is := [0, 1, 2, 3, 4]) rfl rfl (by decide) rfl)
       refine EAll.cons ?_ EAll.nil
       refine EOp.e rfl rfl rfl (EffX.allocP (cs := [_, _, _, _]) hT rfl rfl H) ?_
       rintro _ _ ⟨b_5, _, rfl, rfl, he2, H⟩
       apply Stg.next [(7, _)] rfl rfl
       refine Stg.go [] [9] rfl rfl QAll.nil ?_
       refine EAll.cons ?_ EAll.nil
       replace H := H.self
       refine EOp.e rfl rfl rfl (EffX.call (f := 21) (sh := fun h => ref02uForm _ h _) (H0 := H) rfl Tryd.call21 rfl (hl := fun w m hr hw => lift_ref02uForm _ w m hr _ hw)) ?_
       rintro _ _ ⟨v_5, h0u13, rfl, rfl, H⟩
       apply Stg.next [(22, _), (23, _)] rfl rfl
       refine Stg.go [10] [12] rfl rfl (QAll.cons (QOp.q rfl rfl (Quiet1.build (cs := [_, _, _, _]) hT rfl rfl rfl rfl rfl rfl) rfl rfl) QAll.nil) ?_
       refine EAll.cons ?_ EAll.nil
       refine EOp.e rfl rfl rfl (EffX.storeSP (i := 0) (qv := [(_, [_, _, _, _]), (_, [_, _, _, _]), (_, [_, _, _, _]), (_, [_, _, _]), (_, [_, _, _, _])]) hT rfl rfl rfl rfl rfl rfl rfl rfl rfl rfl) ?_
       rintro _ _ rfl
       apply Stg.next [] rfl rfl
       refine Stg.fin [] rfl rfl QAll.nil ?_
       replace H := H.self
       exact AtE.then_n ((HK1 _ b_5 _ H).pickP (ts := [7, 3, 4, 5, 6]) (is := [0, 1, 2, 3, 4]) rfl rfl (by decide) rfl)
      refine EAll.cons ?_ EAll.nil
      refine EOp.e rfl rfl rfl (EffX.allocP (cs := [_, _, _, _]) hT rfl rfl H) ?_
      rintro _ _ ⟨b_6, _, rfl, rfl, he3, H⟩
      apply Stg.next [(7, _)] rfl rfl
      refine Stg.go [] [8] rfl rfl QAll.nil ?_
      refine EAll.cons ?_ EAll.nil
      replace H := H.self
      refine EOp.e rfl rfl rfl (EffX.call (f := 30) (sh := fun h => ref02uAdd _ _ h _) (H0 := H) rfl Tryd.call30 rfl (hl := fun w m hr hw => lift_ref02uAdd _ _ w m hr _ hw)) ?_
      rintro _ _ ⟨v_6, h0u15, rfl, rfl, H⟩
      apply Stg.next [(21, _)] rfl rfl
      refine Stg.go [] [9] rfl rfl QAll.nil ?_
      refine EAll.cons ?_ EAll.nil
      replace H := H.self
      refine EOp.e rfl rfl rfl (EffX.call (f := 21) (sh := fun h => ref02uForm _ h _) (H0 := H) rfl Tryd.call21 rfl (hl := fun w m hr hw => lift_ref02uForm _ w m hr _ hw)) ?_
      rintro _ _ ⟨v_7, h0u17, rfl, rfl, H⟩
      apply Stg.next [(22, _), (23, _)] rfl rfl
      refine Stg.go [10] [12] rfl rfl (QAll.cons (QOp.q rfl rfl (Quiet1.build (cs := [_, _, _, _]) hT rfl rfl rfl rfl rfl rfl) rfl rfl) QAll.nil) ?_
      refine EAll.cons ?_ EAll.nil
      refine EOp.e rfl rfl rfl (EffX.storeSP (i := 0) (qv := [(_, [_, _, _, _]), (_, [_, _, _, _]), (_, [_, _, _, _]), (_, [_, _, _]), (_, [_, _, _, _])]) hT rfl rfl rfl rfl rfl rfl rfl rfl rfl rfl) ?_
      rintro _ _ rfl
      apply Stg.next [] rfl rfl
      refine Stg.fin [] rfl rfl QAll.nil ?_
      replace H := H.self
      exact AtE.then_n ((HK1 _ b_6 _ H).pickP (ts := [7, 3, 4, 5, 6]) (is := [0, 1, 2, 3, 4]) rfl rfl (by decide) rfl)
     refine EAll.cons ?_ EAll.nil
     refine EOp.e rfl rfl rfl (EffX.allocP (cs := [_, _, _, _]) hT rfl rfl H) ?_
     rintro _ _ ⟨b_7, _, rfl, rfl, he4, H⟩
     apply Stg.next [(7, _)] rfl rfl
     refine Stg.go [3] [7] rfl rfl (QAll.cons (QOp.q rfl rfl (Quiet1.loadSP (i := 3) (l := [_, _, _]) hT rfl rfl rfl rfl rfl rfl rfl rfl) rfl rfl) QAll.nil) ?_
     refine EAll.cons ?_ EAll.nil
     replace H := H.self
     refine EOp.e rfl rfl rfl (EffX.call (f := 31) (sh := fun h => ref02uMul _ _ h _) (H0 := H) rfl Tryd.call31 rfl (hl := fun w m hr hw => lift_ref02uMul _ _ w m hr _ hw)) ?_
     rintro _ _ ⟨v_8, h0u19, rfl, rfl, H⟩
     apply Stg.next [(20, _)] rfl rfl
     refine Stg.go [] [8] rfl rfl QAll.nil ?_
     refine EAll.cons ?_ EAll.nil
     replace H := H.self
     refine EOp.e rfl rfl rfl (EffX.call (f := 30) (sh := fun h => ref02uAdd _ _ h _) (H0 := H) rfl Tryd.call30 rfl (hl := fun w m hr hw => lift_ref02uAdd _ _ w m hr _ hw)) ?_
     rintro _ _ ⟨v_9, h0u21, rfl, rfl, H⟩
     apply Stg.next [(21, _)] rfl rfl
     refine Stg.go [] [9] rfl rfl QAll.nil ?_
     refine EAll.cons ?_ EAll.nil
     replace H := H.self
     refine EOp.e rfl rfl rfl (EffX.call (f := 21) (sh := fun h => ref02uForm _ h _) (H0 := H) rfl Tryd.call21 rfl (hl := fun w m hr hw => lift_ref02uForm _ w m hr _ hw)) ?_
     rintro _ _ ⟨v_10, h0u23, rfl, rfl, H⟩
     apply Stg.next [(22, _), (23, _)] rfl rfl
     refine Stg.go [10] [12] rfl rfl (QAll.cons (QOp.q rfl rfl (Quiet1.build (cs := [_, _, _, _]) hT rfl rfl rfl rfl rfl rfl) rfl rfl) QAll.nil) ?_
     refine EAll.cons ?_ EAll.nil
     refine EOp.e rfl rfl rfl (EffX.storeSP (i := 0) (qv := [(_, [_, _, _, _]), (_, [_, _, _, _]), (_, [_, _, _, _]), (_, [_, _, _]), (_, [_, _, _, _])]) hT rfl rfl rfl rfl rfl rfl rfl rfl rfl rfl) ?_
     rintro _ _ rfl
     apply Stg.next [] rfl rfl
     refine Stg.fin [] rfl rfl QAll.nil ?_
     replace H := H.self
     exact AtE.then_n ((HK1 _ b_7 _ H).pickP (ts := [7, 3, 4, 5, 6]) (is := [0, 1, 2, 3, 4]) rfl rfl (by decide) rfl)
    refine EAll.cons ?_ EAll.nil
    refine EOp.e rfl rfl rfl (EffX.allocP (cs := [_, _, _, _]) hT rfl rfl H) ?_
    rintro _ _ ⟨b_8, _, rfl, rfl, he5, H⟩
    apply Stg.next [(7, _)] rfl rfl
    refine Stg.go [3, 4, 5] [6] rfl rfl (QAll.cons (QOp.q rfl rfl (Quiet1.loadSP (i := 3) (l := [_, _, _]) hT rfl rfl rfl rfl rfl rfl rfl rfl) rfl rfl) (QAll.cons (QOp.p hT rfl rfl rfl rfl rfl) (QAll.cons (QOp.q rfl rfl (Quiet1.loadSP (i := 2) (l := [_, _, _]) hT rfl rfl rfl rfl rfl rfl rfl rfl) rfl rfl) QAll.nil))) ?_
    refine EAll.cons ?_ EAll.nil
    replace H := H.self
    refine EOp.e rfl rfl rfl (EffX.call (f := 11) (sh := fun h => ref02uOf _ h _) (H0 := H) rfl Tryd.call11 rfl (hl := fun w m hr hw => lift_ref02uOf _ w m hr _ hw)) ?_
    rintro _ _ ⟨v_11, h0u25, rfl, rfl, H⟩
    apply Stg.next [(19, _)] rfl rfl
    refine Stg.go [3] [7] rfl rfl (QAll.cons (QOp.q rfl rfl (Quiet1.loadSP (i := 3) (l := [_, _, _]) hT rfl rfl rfl rfl rfl rfl rfl rfl) rfl rfl) QAll.nil) ?_
    refine EAll.cons ?_ EAll.nil
    replace H := H.self
    refine EOp.e rfl rfl rfl (EffX.call (f := 31) (sh := fun h => ref02uMul _ _ h _) (H0 := H) rfl Tryd.call31 rfl (hl := fun w m hr hw => lift_ref02uMul _ _ w m hr _ hw)) ?_
    rintro _ _ ⟨v_12, h0u27, rfl, rfl, H⟩
    apply Stg.next [(20, _)] rfl rfl
    refine Stg.go [] [8] rfl rfl QAll.nil ?_
    refine EAll.cons ?_ EAll.nil
    replace H := H.self
    refine EOp.e rfl rfl rfl (EffX.call (f := 30) (sh := fun h => ref02uAdd _ _ h _) (H0 := H) rfl Tryd.call30 rfl (hl := fun w m hr hw => lift_ref02uAdd _ _ w m hr _ hw)) ?_
    rintro _ _ ⟨v_13, h0u29, rfl, rfl, H⟩
    apply Stg.next [(21, _)] rfl rfl
    refine Stg.go [] [9] rfl rfl QAll.nil ?_
    refine EAll.cons ?_ EAll.nil
    replace H := H.self
    refine EOp.e rfl rfl rfl (EffX.call (f := 21) (sh := fun h => ref02uForm _ h _) (H0 := H) rfl Tryd.call21 rfl (hl := fun w m hr hw => lift_ref02uForm _ w m hr _ hw)) ?_
    rintro _ _ ⟨v_14, h0u31, rfl, rfl, H⟩
    apply Stg.next [(22, _), (23, _)] rfl rfl
    refine Stg.go [10] [12] rfl rfl (QAll.cons (QOp.q rfl rfl (Quiet1.build (cs := [_, _, _, _]) hT rfl rfl rfl rfl rfl rfl) rfl rfl) QAll.nil) ?_
    refine EAll.cons ?_ EAll.nil
    refine EOp.e rfl rfl rfl (EffX.storeSP (i := 0) (qv := [(_, [_, _, _, _]), (_, [_, _, _, _]), (_, [_, _, _, _]), (_, [_, _, _]), (_, [_, _, _, _])]) hT rfl rfl rfl rfl rfl rfl rfl rfl rfl rfl) ?_
    rintro _ _ rfl
    apply Stg.next [] rfl rfl
    refine Stg.fin [] rfl rfl QAll.nil ?_
    replace H := H.self
    exact AtE.then_n ((HK1 _ b_8 _ H).pickP (ts := [7, 3, 4, 5, 6]) (is := [0, 1, 2, 3, 4]) rfl rfl (by decide) rfl)
   refine EAll.cons ?_ EAll.nil
   refine EOp.e rfl rfl rfl (EffX.allocP (cs := [_, _, _, _]) hT rfl rfl H) ?_
   rintro _ _ ⟨b_9, _, rfl, rfl, he6, H⟩
   apply Stg.next [(7, _)] rfl rfl
   refine Stg.go [0, 1, 3, 4, 5] [2] rfl rfl (QAll.cons (QOp.p hT rfl rfl rfl rfl rfl) (QAll.cons (QOp.q rfl rfl (Quiet1.loadSP (i := 4) (l := [_, _, _]) hT rfl rfl rfl rfl rfl rfl rfl rfl) rfl rfl) (QAll.cons (QOp.q rfl rfl (Quiet1.loadSP (i := 3) (l := [_, _, _]) hT rfl rfl rfl rfl rfl rfl rfl rfl) rfl rfl) (QAll.cons (QOp.p hT rfl rfl rfl rfl rfl) (QAll.cons (QOp.q rfl rfl (Quiet1.loadSP (i := 2) (l := [_, _, _]) hT rfl rfl rfl rfl rfl rfl rfl rfl) rfl rfl) QAll.nil))))) ?_
   refine EAll.cons ?_ EAll.nil
   replace H := H.self
   refine EOp.e rfl rfl rfl (EffX.call (f := 11) (sh := fun h => ref02uOf _ h _) (H0 := H) rfl Tryd.call11 rfl (hl := fun w m hr hw => lift_ref02uOf _ w m hr _ hw)) ?_
   rintro _ _ ⟨v_15, h0u33, rfl, rfl, H⟩
   apply Stg.next [(15, _)] rfl rfl
   refine Stg.go [3, 4, 5] [6] rfl rfl (QAll.cons (QOp.q rfl rfl (Quiet1.loadSP (i := 3) (l := [_, _, _]) hT rfl rfl rfl rfl rfl rfl rfl rfl) rfl rfl) (QAll.cons (QOp.p hT rfl rfl rfl rfl rfl) (QAll.cons (QOp.q rfl rfl (Quiet1.loadSP (i := 2) (l := [_, _, _]) hT rfl rfl rfl rfl rfl rfl rfl rfl) rfl rfl) QAll.nil))) ?_
   refine EAll.cons ?_ EAll.nil
   replace H := H.self
   refine EOp.e rfl rfl rfl (EffX.call (f := 11) (sh := fun h => ref02uOf _ h _) (H0 := H) rfl Tryd.call11 rfl (hl := fun w m hr hw => lift_ref02uOf _ w m hr _ hw)) ?_
   rintro _ _ ⟨v_16, h0u35, rfl, rfl, H⟩
   apply Stg.next [(19, _)] rfl rfl
   refine Stg.go [3] [7] rfl rfl (QAll.cons (QOp.q rfl rfl (Quiet1.loadSP (i := 3) (l := [_, _, _]) hT rfl rfl rfl rfl rfl rfl rfl rfl) rfl rfl) QAll.nil) ?_
   refine EAll.cons ?_ EAll.nil
   replace H := H.self
   refine EOp.e rfl rfl rfl (EffX.call (f := 31) (sh := fun h => ref02uMul _ _ h _) (H0 := H) rfl Tryd.call31 rfl (hl := fun w m hr hw => lift_ref02uMul _ _ w m hr _ hw)) ?_
   rintro _ _ ⟨v_17, h0u37, rfl, rfl, H⟩
   apply Stg.next [(20, _)] rfl rfl
   refine Stg.go [] [8] rfl rfl QAll.nil ?_
   refine EAll.cons ?_ EAll.nil
   replace H := H.self
   refine EOp.e rfl rfl rfl (EffX.call (f := 30) (sh := fun h => ref02uAdd _ _ h _) (H0 := H) rfl Tryd.call30 rfl (hl := fun w m hr hw => lift_ref02uAdd _ _ w m hr _ hw)) ?_
   rintro _ _ ⟨v_18, h0u39, rfl, rfl, H⟩
   apply Stg.next [(21, _)] rfl rfl
   refine Stg.go [] [9] rfl rfl QAll.nil ?_
   refine EAll.cons ?_ EAll.nil
   replace H := H.self
   refine EOp.e rfl rfl rfl (EffX.call (f := 21) (sh := fun h => ref02uForm _ h _) (H0 := H) rfl Tryd.call21 rfl (hl := fun w m hr hw => lift_ref02uForm _ w m hr _ hw)) ?_
   rintro _ _ ⟨v_19, h0u41, rfl, rfl, H⟩
   apply Stg.next [(22, _), (23, _)] rfl rfl
   refine Stg.go [10] [12] rfl rfl (QAll.cons (QOp.q rfl rfl (Quiet1.build (cs := [_, _, _, _]) hT rfl rfl rfl rfl rfl rfl) rfl rfl) QAll.nil) ?_
   refine EAll.cons ?_ EAll.nil
   refine EOp.e rfl rfl rfl (EffX.storeSP (i := 0) (qv := [(_, [_, _, _, _]), (_, [_, _, _, _]), (_, [_, _, _, _]), (_, [_, _, _]), (_, [_, _, _, _])]) hT rfl rfl rfl rfl rfl rfl rfl rfl rfl rfl) ?_
   rintro _ _ rfl
   apply Stg.next [] rfl rfl
   refine Stg.fin [] rfl rfl QAll.nil ?_
   replace H := H.self
   exact AtE.then_n ((HK1 _ b_9 _ H).pickP (ts := [7, 3, 4, 5, 6]) (is := [0, 1, 2, 3, 4]) rfl rfl (by decide) rfl)

theorem lift_ref12uSame (p : Bool × Sl × Sl × Sl) (q : Bool × Sl × Sl × Sl) (w : World) (m : Heap) (hr : Rel ⟨m, []⟩ w.heap) (S : Bool → Heap → Prop) (H : ref12uSame p q m S) :
    Calls Tryd.prog 12 #[Value.agg (C_bool_sl_sl_sl p).toArray, Value.agg (C_bool_sl_sl_sl q).toArray] w (Post ⟨w, m⟩ Value.bool S) := by
  refine Calls.lift (args := [Value.agg (C_bool_sl_sl_sl p).toArray, Value.agg (C_bool_sl_sl_sl q).toArray]) Tryd.func12 rfl Tryd.ntmps12 (Nat.le_of_ble_eq_true rfl) hr (ref12uSame p q m S) H (fun H => ?_)
  refine AtC.pick (ts := [0, 1]) rfl ?_
  unfold ref12uSame at H
  refine AtC.seqR ?_
  refine AtL.e rfl (EffX.boxP (cs := [_, _, _, _]) rfl rfl rfl H) ?_
  rintro _ _ ⟨b, _, rfl, rfl, _, H⟩
  refine AtL.e rfl (EffX.boxP (cs := [_, _, _, _]) rfl rfl rfl H) ?_
  rintro _ _ ⟨b_1, _, rfl, rfl, _, H⟩
  replace H := H.self
  refine AtL.pures hT 1 _ _ _ _ rfl ?_
  refine AtL.nil ?_
  refine AtE.then_n (AtE.go ?_)
  refine AtC.seq ?_
  refine AtC.joinSeq (β := Unit) (fun (t0 : Bool) (bb : Unit) => [(20, Value.bool t0)]) (fun (t0 : Bool) (bb : Unit) => []) [2, 3] [0, 1] H (by exact rfl) (by exact rfl) (fun t0 bb h0u1 H => ?_) (fun J1 H HK1 => ?_)
  ·
   refine AtC.condB H rfl (fun H => ?_) (fun H => ?_)
   ·
    refine AtC.seqR ?_
    refine AtL.pures hT 1 _ _ _ _ rfl ?_
    refine AtL.nil ?_
    refine AtE.then_n (AtE.go ?_)
    refine AtC.ret ?_
    refine AtE.then_r ?_
    exact AtE.retN (rs := [.tmp 4]) rfl (ResAll.cons (ResAt.tmp rfl) ResAll.nil) rfl H
   ·
    refine AtC.skip ?_
    refine AtE.then_n (AtE.go ?_)
    refine AtC.seq ?_
    refine AtC.seqR ?_
    refine AtL.pures hT 1 _ _ _ _ rfl ?_
    refine AtL.nil ?_
    refine AtE.then_n (AtE.go ?_)
    refine AtC.block ?_
    refine AtC.loopM (fun (s0 : Int) => [(5, Value.int .i64 s0)]) (fun (s0 : Int) => []) [2, 3] [5, 2, 3] [0, 1] [0, 1] H (by exact rfl) (by exact rfl) (by exact rfl) (by decide) (by exact rfl) (fun Kp2 s0 h0u3 H Q2 HK2 => ?_)
    refine AtC.seq ?_
    refine AtC.seqR ?_
    refine AtL.pures hT 2 _ _ _ _ rfl ?_
    refine AtL.q rfl (Quiet1.loadP (i := 1) hT rfl rfl rfl rfl rfl rfl) ?_
    refine AtL.pures hT 2 _ _ _ _ rfl ?_
    refine AtL.nil ?_
    refine AtE.then_n (AtE.go ?_)
    refine AtC.condB H rfl (fun H => ?_) (fun H => ?_)
    ·
     refine AtC.skip ?_
     refine AtE.then_n (AtE.go ?_)
     refine AtC.seq ?_
     refine AtC.block ?_
     refine AtC.joinSeq (β := Unit) (fun (t0u1 : Bool) (bb_1 : Unit) => [(56, Value.bool t0u1)]) (fun (t0u1 : Bool) (bb_1 : Unit) => []) [2, 3, 5] [0, 1] H (by exact rfl) (by exact rfl) (fun t0u1 bb_1 h0u4 H => ?_) (fun J3 H HK3 => ?_)
     ·
      refine AtC.condB H rfl (fun H => ?_) (fun H => ?_)
      ·
       refine AtC.seqR ?_
       refine AtL.pures hT 1 _ _ _ _ rfl ?_
       refine AtL.nil ?_
       refine AtE.then_n (AtE.go ?_)
       refine AtC.ret ?_
       refine AtE.blk_r ?_
       refine AtE.then_r ?_
       refine AtE.then_r ?_
       refine AtE.blk_r ?_
       refine AtE.then_r ?_
       exact AtE.retN (rs := [.tmp 4]) rfl (ResAll.cons (ResAt.tmp rfl) ResAll.nil) rfl H
      ·
       refine AtC.skip ?_
       refine AtE.blk_n ?_
       refine AtE.then_n (AtE.go ?_)
       refine AtC.region ?_
       refine AtL.pures hT 3 _ _ _ _ rfl ?_
       replace H := H _ rfl
       refine AtL.nil ?_
       exact AtE.then_n ((HK2 _ _ H).pickP (ts := [5, 2, 3]) (is := [0, 1]) rfl rfl (by decide) rfl)
     ·
      obtain ⟨a_, hc3, hd3, H⟩ := H
      obtain ⟨v_1, hc4, H⟩ := H
      obtain ⟨a_1_, hc5, hd5, H⟩ := H
      obtain ⟨v_2, hc6, H⟩ := H
      rcases iteB.cases H with ⟨hb7, H⟩ | ⟨hb7, H⟩
      ·
       apply AtC.stages [26] [[], [], [], [], [], [], [], [], [], [], [], [], [], [], [], [], [], [], [], [], [], [], [], [], [], [], [], [26], [26]] [[], [0], [], [0, 1, 2], [0, 1, 2, 3], [0, 1, 2, 3, 4], [], [6], [], [6, 7, 8], [6, 7, 8, 9], [6, 7, 8, 9, 10], [0, 1, 2, 3, 4, 5, 6, 7, 8, 9, 10, 11], [0, 1, 2, 3, 4, 5, 6, 7, 8, 9, 10, 11, 12], [0, 1, 2, 3, 4, 5, 6, 7, 8, 9, 10, 11, 12, 13], [0, 1, 2, 3, 4, 5, 6, 7, 8, 9, 10, 11, 12, 13, 14], [0, 1, 2, 3, 4, 5, 6, 7, 8, 9, 10, 11, 12, 13], [0, 1, 2, 3, 4, 5, 6, 7, 8, 9, 10, 11, 12, 13, 14, 15, 16], [0, 1, 2, 3, 4, 5, 6, 7, 8, 9, 10, 11, 12, 13, 14, 15, 16, 17], [0, 1, 2, 3, 4, 5, 6, 7, 8, 9, 10, 11, 12, 13, 14, 15, 16, 17, 18], [0, 1, 2, 3, 4, 5, 6, 7, 8, 9, 10, 11, 12, 13], [0, 1, 2, 3, 4, 5, 6, 7, 8, 9, 10, 11, 12, 13, 20], [0, 1, 2, 3, 4, 5, 6, 7, 8, 9, 10, 11, 12, 13], [0, 1, 2, 3, 4, 5, 6, 7, 8, 9, 10, 11, 12, 13, 20, 21, 22], [0, 1, 2, 3, 4, 5, 6, 7, 8, 9, 10, 11, 12, 13, 20, 21, 22, 23], [0, 1, 2, 3, 4, 5, 6, 7, 8, 9, 10, 11, 12, 13, 20, 21, 22, 23, 24], [0, 1, 2, 3, 4, 5, 6, 7, 8, 9, 10, 11, 12, 13, 14, 15, 16, 17, 18, 19, 20, 21, 22, 23, 24, 25], [0, 1, 2, 3, 4, 5, 6, 7, 8, 9, 10, 11, 12, 13, 14, 15, 16, 17, 18, 19, 20, 21, 22, 23, 24, 25, 26], [0, 1, 2, 3, 4, 5, 6, 7, 8, 9, 10, 11, 12, 13, 14, 15, 16, 17, 18, 19, 20, 21, 22, 23, 24, 25, 26, 27]] hmix (by kernel_rfl) [(28, _), (29, _), (30, _), (31, _), (32, _), (33, _), (34, _), (35, _), (36, _), (37, _), (38, _), (39, _), (40, _), (41, _), (42, _), (43, _), (44, _), (45, _), (46, _), (47, _), (48, _), (49, _), (50, _), (51, _), (52, _), (53, _)] rfl 1 rfl
       refine Stg.known (t := 41) rfl hb7 ?_
       refine Stg.go [0, 1, 2, 3, 4, 5, 6, 7, 8, 9, 10, 11, 12, 13, 14, 15, 16, 17, 18, 19, 20, 21, 22, 23, 24, 25] [26] rfl rfl (QAll.cons (QOp.p hT rfl rfl rfl rfl rfl) (QAll.cons (QOp.q rfl rfl (Quiet1.loadP (i := 1) hT rfl rfl rfl rfl rfl rfl) rfl rfl) (QAll.cons (QOp.p hT rfl rfl rfl rfl rfl) (QAll.cons (QOp.q rfl rfl (Quiet1.idxS (s := _) hT rfl rfl rfl rfl rfl hc3 hd3) rfl rfl) (QAll.cons (QOp.p hT rfl rfl rfl rfl rfl) (QAll.cons (QOp.q rfl rfl (Quiet1.load hT rfl rfl rfl hc4) rfl rfl) (QAll.cons (QOp.p hT rfl rfl rfl rfl rfl) (QAll.cons (QOp.q rfl rfl (Quiet1.loadP (i := 0) hT rfl rfl rfl rfl rfl rfl) rfl rfl) (QAll.cons (QOp.p hT rfl rfl rfl rfl rfl) (QAll.cons (QOp.q rfl rfl (Quiet1.idxS (s := _) hT rfl rfl rfl rfl rfl hc5 hd5) rfl rfl) (QAll.cons (QOp.p hT rfl rfl rfl rfl rfl) (QAll.cons (QOp.q rfl rfl (Quiet1.load hT rfl rfl rfl hc6) rfl rfl) (QAll.cons (QOp.p hT rfl rfl rfl rfl rfl) (QAll.cons (QOp.pk hT rfl rfl rfl rfl hb7 rfl) (QAll.cons (QOp.no rfl rfl rfl rfl (by decide) rfl rfl) (QAll.cons (QOp.no rfl rfl rfl rfl (by decide) rfl rfl) (QAll.cons (QOp.no rfl rfl rfl rfl (by decide) rfl rfl) (QAll.cons (QOp.no rfl rfl rfl rfl (by decide) rfl rfl) (QAll.cons (QOp.no rfl rfl rfl rfl (by decide) rfl rfl) (QAll.cons (QOp.no rfl rfl rfl rfl (by decide) rfl rfl) (QAll.cons (QOp.no rfl rfl rfl rfl (by decide) rfl rfl) (QAll.cons (QOp.no rfl rfl rfl rfl (by decide) rfl rfl) (QAll.cons (QOp.no rfl rfl rfl rfl (by decide) rfl rfl) (QAll.cons (QOp.no rfl rfl rfl rfl (by decide) rfl rfl) (QAll.cons (QOp.no rfl rfl rfl rfl (by decide) rfl rfl) (QAll.cons (QOp.no rfl rfl rfl rfl (by decide) rfl rfl) QAll.nil)))))))))))))))))))))))))) ?_
       refine EAll.cons ?_ EAll.nil
       refine EOp.no rfl rfl rfl rfl (by decide) rfl ?_
       apply Stg.next [(54, _), (55, _), (56, _)] rfl rfl
       refine Stg.fin [27, 28] rfl rfl (QAll.cons (QOp.no rfl rfl rfl rfl (by decide) rfl rfl) (QAll.cons (QOp.p hT rfl rfl rfl rfl rfl) QAll.nil)) ?_
       exact AtE.then_n ((HK3 _ () _ H).pickP (ts := [56, 2, 3, 5]) (is := [0, 1]) rfl rfl (by decide) rfl)
      ·
       obtain ⟨a_2_, hc8, hd8, H⟩ := H
       obtain ⟨v_3, hc9, H⟩ := H
       obtain ⟨a_3_, hc10, hd10, H⟩ := H
       obtain ⟨v_4, hc11, H⟩ := H
       apply AtC.stages [26] [[], [], [], [], [], [], [], [], [], [], [], [], [], [], [], [], [], [], [], [], [], [], [], [], [], [], [], [26], [26]] [[], [0], [], [0, 1, 2], [0, 1, 2, 3], [0, 1, 2, 3, 4], [], [6], [], [6, 7, 8], [6, 7, 8, 9], [6, 7, 8, 9, 10], [0, 1, 2, 3, 4, 5, 6, 7, 8, 9, 10, 11], [0, 1, 2, 3, 4, 5, 6, 7, 8, 9, 10, 11, 12], [0, 1, 2, 3, 4, 5, 6, 7, 8, 9, 10, 11, 12, 13], [0, 1, 2, 3, 4, 5, 6, 7, 8, 9, 10, 11, 12, 13, 14], [0, 1, 2, 3, 4, 5, 6, 7, 8, 9, 10, 11, 12, 13], [0, 1, 2, 3, 4, 5, 6, 7, 8, 9, 10, 11, 12, 13, 14, 15, 16], [0, 1, 2, 3, 4, 5, 6, 7, 8, 9, 10, 11, 12, 13, 14, 15, 16, 17], [0, 1, 2, 3, 4, 5, 6, 7, 8, 9, 10, 11, 12, 13, 14, 15, 16, 17, 18], [0, 1, 2, 3, 4, 5, 6, 7, 8, 9, 10, 11, 12, 13], [0, 1, 2, 3, 4, 5, 6, 7, 8, 9, 10, 11, 12, 13, 20], [0, 1, 2, 3, 4, 5, 6, 7, 8, 9, 10, 11, 12, 13], [0, 1, 2, 3, 4, 5, 6, 7, 8, 9, 10, 11, 12, 13, 20, 21, 22], [0, 1, 2, 3, 4, 5, 6, 7, 8, 9, 10, 11, 12, 13, 20, 21, 22, 23], [0, 1, 2, 3, 4, 5, 6, 7, 8, 9, 10, 11, 12, 13, 20, 21, 22, 23, 24], [0, 1, 2, 3, 4, 5, 6, 7, 8, 9, 10, 11, 12, 13, 14, 15, 16, 17, 18, 19, 20, 21, 22, 23, 24, 25], [0, 1, 2, 3, 4, 5, 6, 7, 8, 9, 10, 11, 12, 13, 14, 15, 16, 17, 18, 19, 20, 21, 22, 23, 24, 25, 26], [0, 1, 2, 3, 4, 5, 6, 7, 8, 9, 10, 11, 12, 13, 14, 15, 16, 17, 18, 19, 20, 21, 22, 23, 24, 25, 26, 27]] hmix (by kernel_rfl) [(28, _), (29, _), (30, _), (31, _), (32, _), (33, _), (34, _), (35, _), (36, _), (37, _), (38, _), (39, _), (40, _), (41, _), (42, _), (43, _), (44, _), (45, _), (46, _), (47, _), (48, _), (49, _), (50, _), (51, _), (52, _), (53, _)] rfl 1 rfl
       refine Stg.known (t := 41) rfl hb7 ?_
       refine Stg.go [0, 1, 2, 3, 4, 5, 6, 7, 8, 9, 10, 11, 12, 13, 14, 15, 16, 17, 18, 19, 20, 21, 22, 23, 24, 25] [26] rfl rfl (QAll.cons (QOp.p hT rfl rfl rfl rfl rfl) (QAll.cons (QOp.q rfl rfl (Quiet1.loadP (i := 1) hT rfl rfl rfl rfl rfl rfl) rfl rfl) (QAll.cons (QOp.p hT rfl rfl rfl rfl rfl) (QAll.cons (QOp.q rfl rfl (Quiet1.idxS (s := _) hT rfl rfl rfl rfl rfl hc3 hd3) rfl rfl) (QAll.cons (QOp.p hT rfl rfl rfl rfl rfl) (QAll.cons (QOp.q rfl rfl (Quiet1.load hT rfl rfl rfl hc4) rfl rfl) (QAll.cons (QOp.p hT rfl rfl rfl rfl rfl) (QAll.cons (QOp.q rfl rfl (Quiet1.loadP (i := 0) hT rfl rfl rfl rfl rfl rfl) rfl rfl) (QAll.cons (QOp.p hT rfl rfl rfl rfl rfl) (QAll.cons (QOp.q rfl rfl (Quiet1.idxS (s := _) hT rfl rfl rfl rfl rfl hc5 hd5) rfl rfl) (QAll.cons (QOp.p hT rfl rfl rfl rfl rfl) (QAll.cons (QOp.q rfl rfl (Quiet1.load hT rfl rfl rfl hc6) rfl rfl) (QAll.cons (QOp.p hT rfl rfl rfl rfl rfl) (QAll.cons (QOp.pk hT rfl rfl rfl rfl hb7 rfl) (QAll.cons (QOp.yp hT rfl rfl rfl rfl rfl rfl rfl) (QAll.cons (QOp.y rfl rfl rfl rfl (Quiet1.loadP (i := 1) hT rfl rfl rfl rfl rfl rfl) rfl rfl) (QAll.cons (QOp.yp hT rfl rfl rfl rfl rfl rfl rfl) (QAll.cons (QOp.y rfl rfl rfl rfl (Quiet1.idxS (s := _) hT rfl rfl rfl rfl rfl hc8 hd8) rfl rfl) (QAll.cons (QOp.yp hT rfl rfl rfl rfl rfl rfl rfl) (QAll.cons (QOp.y rfl rfl rfl rfl (Quiet1.loadS hT rfl rfl rfl rfl hc9) rfl rfl) (QAll.cons (QOp.yp hT rfl rfl rfl rfl rfl rfl rfl) (QAll.cons (QOp.y rfl rfl rfl rfl (Quiet1.loadP (i := 0) hT rfl rfl rfl rfl rfl rfl) rfl rfl) (QAll.cons (QOp.yp hT rfl rfl rfl rfl rfl rfl rfl) (QAll.cons (QOp.y rfl rfl rfl rfl (Quiet1.idxS (s := _) hT rfl rfl rfl rfl rfl hc10 hd10) rfl rfl) (QAll.cons (QOp.yp hT rfl rfl rfl rfl rfl rfl rfl) (QAll.cons (QOp.y rfl rfl rfl rfl (Quiet1.loadS hT rfl rfl rfl rfl hc11) rfl rfl) QAll.nil)))))))))))))))))))))))))) ?_
       refine EAll.cons ?_ EAll.nil
       refine EOp.y rfl rfl rfl rfl rfl (EffX.call (f := 20) (sh := fun h => ref02uSame _ _ h _) (H0 := H) rfl Tryd.call20 rfl (hl := fun w m hr hw => lift_ref02uSame _ _ w m hr _ hw)) ?_
       rintro _ _ ⟨v_5, h0u5, rfl, rfl, H⟩
       apply Stg.next [(54, _), (55, _), (56, _)] rfl rfl
       refine Stg.fin [27, 28] rfl rfl (QAll.cons (QOp.yp hT rfl rfl rfl rfl rfl rfl rfl) (QAll.cons (QOp.p hT rfl rfl rfl rfl rfl) QAll.nil)) ?_
       exact AtE.then_n ((HK3 _ () _ H).pickP (ts := [56, 2, 3, 5]) (is := [0, 1]) rfl rfl (by decide) rfl)
    ·
     refine AtC.exit ?_
     refine AtE.then_x ?_
     refine AtE.then_x ?_
     refine AtE.blk_hit ?_
     refine AtE.then_n (AtE.go ?_)
     refine AtC.seqR ?_
     refine AtL.pures hT 1 _ _ _ _ rfl ?_
     refine AtL.nil ?_
     refine AtE.then_n (AtE.go ?_)
     refine AtC.ret ?_
     exact AtE.retN (rs := [.tmp 4]) rfl (ResAll.cons (ResAt.tmp rfl) ResAll.nil) rfl H
  ·
   refine AtC.region ?_
   refine AtL.pures hT 1 _ _ _ _ rfl ?_
   refine AtL.q rfl (Quiet1.loadSP (i := 1) (l := [_, _, _]) hT rfl rfl rfl rfl rfl rfl rfl rfl) ?_
   refine AtL.pures hT 1 _ _ _ _ rfl ?_
   refine AtL.q rfl (Quiet1.loadSP (i := 0) (l := [_, _, _]) hT rfl rfl rfl rfl rfl rfl rfl rfl) ?_
   refine AtL.e rfl (EffX.call (f := 20) (sh := fun h => ref02uSame _ _ h _) (H0 := H) rfl Tryd.call20 rfl (hl := fun w m hr hw => lift_ref02uSame _ _ w m hr _ hw)) ?_
   rintro _ _ ⟨v, h0u2, rfl, rfl, H⟩
   refine AtL.pures hT 2 _ _ _ _ rfl ?_
   refine AtL.splitB (t := 12) H rfl (fun H => ?_) (fun H => ?_)
   ·
    refine AtL.noF rfl rfl rfl (by decide) rfl ?_
    refine AtL.noF rfl rfl rfl (by decide) rfl ?_
    refine AtL.noF rfl rfl rfl (by decide) rfl ?_
    refine AtL.noF rfl rfl rfl (by decide) rfl ?_
    refine AtL.noF rfl rfl rfl (by decide) rfl ?_
    refine AtL.noF rfl rfl rfl (by decide) rfl ?_
    refine AtL.noF rfl rfl rfl (by decide) rfl ?_
    refine AtL.pures hT 1 _ _ _ _ rfl ?_
    refine AtL.nil ?_
    exact AtE.then_n ((HK1 _ () _ H).pickP (ts := [20, 2, 3]) (is := [0, 1]) rfl rfl (by decide) rfl)
   ·
    refine AtL.yes rfl rfl rfl ?_
    refine AtL.pures hT 1 _ _ _ _ rfl ?_
    refine AtL.yes rfl rfl rfl ?_
    refine AtL.q rfl (Quiet1.loadP (i := 1) hT rfl rfl rfl rfl rfl rfl) ?_
    refine AtL.yes rfl rfl rfl ?_
    refine AtL.pures hT 1 _ _ _ _ rfl ?_
    refine AtL.yes rfl rfl rfl ?_
    refine AtL.pures hT 1 _ _ _ _ rfl ?_
    refine AtL.yes rfl rfl rfl ?_
    refine AtL.q rfl (Quiet1.loadP (i := 0) hT rfl rfl rfl rfl rfl rfl) ?_
    refine AtL.yes rfl rfl rfl ?_
    refine AtL.pures hT 1 _ _ _ _ rfl ?_
    refine AtL.yes rfl rfl rfl ?_
    refine AtL.pures hT 1 _ _ _ _ rfl ?_
    refine AtL.pures hT 1 _ _ _ _ rfl ?_
    refine AtL.nil ?_
    exact AtE.then_n ((HK1 _ () _ H).pickP (ts := [20, 2, 3]) (is := [0, 1]) rfl rfl (by decide) rfl)

theorem lift_ratio_Cmp (x0 : Bool × Sl × Sl) (y : Bool × Sl × Sl) (w : World) (m : Heap) (hr : Rel ⟨m, []⟩ w.heap) (S : Int → Heap → Prop) (H : ratio_Cmp x0 y m S) :
    Calls Tryd.prog 36 #[Value.agg (C_bool_sl_sl x0).toArray, Value.agg (C_bool_sl_sl y).toArray] w (Post ⟨w, m⟩ (Value.int .i64) S) := by
  refine Calls.lift (args := [Value.agg (C_bool_sl_sl x0).toArray, Value.agg (C_bool_sl_sl y).toArray]) Tryd.func36 rfl Tryd.ntmps36 (Nat.le_of_ble_eq_true rfl) hr (ratio_Cmp x0 y m S) H (fun H => ?_)
  refine AtC.pick (ts := [0, 1]) rfl ?_
  unfold ratio_Cmp at H
  refine AtC.seqR ?_
  refine AtL.e rfl (EffX.boxP (cs := [_, _, _]) rfl rfl rfl H) ?_
  rintro _ _ ⟨b, _, rfl, rfl, _, H⟩
  refine AtL.e rfl (EffX.boxP (cs := [_, _, _]) rfl rfl rfl H) ?_
  rintro _ _ ⟨b_1, _, rfl, rfl, _, H⟩
  replace H := H.self
  refine AtL.pures hT 1 _ _ _ _ rfl ?_
  refine AtL.nil ?_
  refine AtE.then_n (AtE.go ?_)
  refine AtC.seqR ?_
  refine AtL.q rfl (Quiet1.loadSP (i := 1) (l := [_, _, _]) hT rfl rfl rfl rfl rfl rfl rfl rfl) ?_
  refine AtL.q rfl (Quiet1.loadSP (i := 0) (l := [_, _, _]) hT rfl rfl rfl rfl rfl rfl rfl rfl) ?_
  refine AtL.e rfl (EffX.call (f := 54) (sh := fun h => ratio_cross _ _ h _) (H0 := H) rfl Tryd.call54 rfl (hl := fun w m hr hw => lift_ratio_cross _ _ w m hr _ hw)) ?_
  rintro _ _ ⟨v, h0u1, rfl, rfl, H⟩
  refine AtL.pures hT 3 _ _ _ _ rfl ?_
  refine AtL.e rfl (EffX.allocP (cs := [_, _]) hT rfl rfl H) ?_
  rintro _ _ ⟨b_2, _, rfl, rfl, _, H⟩
  refine AtL.e rfl (EffX.allocP (cs := [_, _]) hT rfl rfl H) ?_
  rintro _ _ ⟨b_3, _, rfl, rfl, _, H⟩
  replace H := H.self
  refine AtL.e rfl (EffX.storeSP (i := 1) (qv := [(_, [_, _]), (_, [_, _]), (_, [_, _, _]), (_, [_, _, _])]) hT rfl rfl rfl rfl rfl rfl rfl rfl rfl rfl) ?_
  rintro _ _ rfl
  refine AtL.e rfl (EffX.storeSP (i := 0) (qv := [(_, [_, _]), (_, [_, _]), (_, [_, _, _]), (_, [_, _, _])]) hT rfl rfl rfl rfl rfl rfl rfl rfl rfl rfl) ?_
  rintro _ _ rfl
  refine AtL.nil ?_
  refine AtE.then_n (AtE.go ?_)
  refine AtC.seqR ?_
  refine AtL.pures hT 1 _ _ _ _ rfl ?_
  refine AtL.q rfl (Quiet1.loadP (i := 0) hT rfl rfl rfl rfl rfl rfl) ?_
  refine AtL.pures hT 2 _ _ _ _ rfl ?_
  refine AtL.e rfl (EffX.storeP (i := 0) (qv := [(_, [_, _]), (_, [_, _]), (_, [_, _, _]), (_, [_, _, _])]) hT rfl rfl rfl rfl rfl rfl rfl rfl rfl) ?_
  rintro _ _ rfl
  refine AtL.nil ?_
  refine AtE.then_n (AtE.go ?_)
  refine AtC.seqR ?_
  refine AtL.q rfl (Quiet1.loadSP (i := 1) (l := [_, _]) hT rfl rfl rfl rfl rfl rfl rfl rfl) ?_
  refine AtL.q rfl (Quiet1.loadSP (i := 0) (l := [_, _]) hT rfl rfl rfl rfl rfl rfl rfl rfl) ?_
  refine AtL.e rfl (EffX.call (f := 53) (sh := fun h => ratio_sum _ _ h _) (H0 := H) rfl Tryd.call53 rfl (hl := fun w m hr hw => lift_ratio_sum _ _ w m hr _ hw)) ?_
  rintro _ _ ⟨v_1, h0u3, rfl, rfl, H⟩
  refine AtL.e rfl (EffX.allocP (cs := [_, _]) hT rfl rfl H) ?_
  rintro _ _ ⟨b_4, _, rfl, rfl, _, H⟩
  replace H := H.self
  refine AtL.e rfl (EffX.storeSP (i := 0) (qv := [(_, [_, _]), (_, [_, _]), (_, [_, _]), (_, [_, _, _]), (_, [_, _, _])]) hT rfl rfl rfl rfl rfl rfl rfl rfl rfl rfl) ?_
  rintro _ _ rfl
  refine AtL.nil ?_
  refine AtE.then_n (AtE.go ?_)
  refine AtC.seq ?_
  refine AtC.block ?_
  refine AtC.seqR ?_
  refine AtL.pures hT 1 _ _ _ _ rfl ?_
  refine AtL.q rfl (Quiet1.loadP (i := 0) hT rfl rfl rfl rfl rfl rfl) ?_
  refine AtL.pures hT 3 _ _ _ _ rfl ?_
  refine AtL.nil ?_
  refine AtE.then_n (AtE.go ?_)
  refine AtC.condB H rfl (fun H => ?_) (fun H => ?_)
  ·
   refine AtC.seqR ?_
   refine AtL.pures hT 1 _ _ _ _ rfl ?_
   refine AtL.nil ?_
   refine AtE.then_n (AtE.go ?_)
   refine AtC.ret ?_
   refine AtE.blk_r ?_
   refine AtE.then_r ?_
   exact AtE.retN (rs := [.tmp 4]) rfl (ResAll.cons (ResAt.tmp rfl) ResAll.nil) rfl H
  ·
   refine AtC.seqR ?_
   refine AtL.pures hT 1 _ _ _ _ rfl ?_
   refine AtL.q rfl (Quiet1.loadP (i := 0) hT rfl rfl rfl rfl rfl rfl) ?_
   refine AtL.pures hT 1 _ _ _ _ rfl ?_
   refine AtL.nil ?_
   refine AtE.then_n (AtE.go ?_)
   refine AtC.condB H rfl (fun H => ?_) (fun H => ?_)
   ·
    refine AtC.seqR ?_
    refine AtL.pures hT 1 _ _ _ _ rfl ?_
    refine AtL.nil ?_
    refine AtE.then_n (AtE.go ?_)
    refine AtC.ret ?_
    refine AtE.blk_r ?_
    refine AtE.then_r ?_
    exact AtE.retN (rs := [.tmp 4]) rfl (ResAll.cons (ResAt.tmp rfl) ResAll.nil) rfl H
   ·
    refine AtC.skip ?_
    refine AtE.blk_n ?_
    refine AtE.then_n (AtE.go ?_)
    refine AtC.seqR ?_
    refine AtL.pures hT 1 _ _ _ _ rfl ?_
    refine AtL.nil ?_
    refine AtE.then_n (AtE.go ?_)
    refine AtC.ret ?_
    exact AtE.retN (rs := [.tmp 4]) rfl (ResAll.cons (ResAt.tmp rfl) ResAll.nil) rfl H

theorem lift_linear_Same_c1 (x0 : Int × Bool × Sl × Sl) (y : Int × Bool × Sl × Sl) (w : World) (m : Heap) (hr : Rel ⟨m, []⟩ w.heap) (S : Bool → Heap → Prop) (H : linear_Same_c1 x0 y m S) :
    Calls Tryd.prog 35 #[Value.agg (C_i64ubool_sl_sl x0).toArray, Value.agg (C_i64ubool_sl_sl y).toArray] w (Post ⟨w, m⟩ Value.bool S) := by
  refine Calls.lift (args := [Value.agg (C_i64ubool_sl_sl x0).toArray, Value.agg (C_i64ubool_sl_sl y).toArray]) Tryd.func35 rfl Tryd.ntmps35 (Nat.le_of_ble_eq_true rfl) hr (linear_Same_c1 x0 y m S) H (fun H => ?_)
  refine AtC.pick (ts := [0, 1]) rfl ?_
  unfold linear_Same_c1 at H
  refine AtC.seqR ?_
  refine AtL.e rfl (EffX.boxP (cs := [_, _, _, _]) rfl rfl rfl H) ?_
  rintro _ _ ⟨b, _, rfl, rfl, _, H⟩
  refine AtL.e rfl (EffX.boxP (cs := [_, _, _, _]) rfl rfl rfl H) ?_
  rintro _ _ ⟨b_1, _, rfl, rfl, _, H⟩
  replace H := H.self
  refine AtL.pures hT 1 _ _ _ _ rfl ?_
  refine AtL.nil ?_
  refine AtE.then_n (AtE.go ?_)
  refine AtC.joinSeq (β := Unit) (fun (t0 : Bool) (bb : Unit) => [(4, Value.bool t0)]) (fun (t0 : Bool) (bb : Unit) => []) [] [] H (by exact rfl) (by exact rfl) (fun t0 bb h0u1 H => ?_) (fun J1 H HK1 => ?_)
  ·
   refine AtC.ret ?_
   exact AtE.retN (rs := [.tmp 4]) rfl (ResAll.cons (ResAt.tmp rfl) ResAll.nil) rfl H
  ·
   refine AtC.region ?_
   refine AtL.pures hT 1 _ _ _ _ rfl ?_
   refine AtL.q rfl (Quiet1.loadP (i := 1) hT rfl rfl rfl rfl rfl rfl) ?_
   refine AtL.pures hT 1 _ _ _ _ rfl ?_
   refine AtL.q rfl (Quiet1.loadP (i := 0) hT rfl rfl rfl rfl rfl rfl) ?_
   refine AtL.pures hT 2 _ _ _ _ rfl ?_
   refine AtL.splitB (t := 10) H rfl (fun H => ?_) (fun H => ?_)
   ·
    refine AtL.yes rfl rfl rfl ?_
    refine AtL.pures hT 1 _ _ _ _ rfl ?_
    refine AtL.yes rfl rfl rfl ?_
    refine AtL.q rfl (Quiet1.loadSP (i := 1) (l := [_, _, _]) hT rfl rfl rfl rfl rfl rfl rfl rfl) ?_
    refine AtL.yes rfl rfl rfl ?_
    refine AtL.pures hT 1 _ _ _ _ rfl ?_
    refine AtL.yes rfl rfl rfl ?_
    refine AtL.q rfl (Quiet1.loadSP (i := 0) (l := [_, _, _]) hT rfl rfl rfl rfl rfl rfl rfl rfl) ?_
    refine AtL.yes rfl rfl rfl ?_
    refine AtL.e rfl (EffX.call (f := 36) (sh := fun h => ratio_Cmp _ _ h _) (H0 := H) rfl Tryd.call36 rfl (hl := fun w m hr hw => lift_ratio_Cmp _ _ w m hr _ hw)) ?_
    rintro _ _ ⟨v, h0u2, rfl, rfl, H⟩
    refine AtL.yes rfl rfl rfl ?_
    refine AtL.pures hT 1 _ _ _ _ rfl ?_
    refine AtL.pures hT 2 _ _ _ _ rfl ?_
    refine AtL.nil ?_
    exact AtE.then_n ((HK1 _ () _ H).pickP (ts := [4]) (is := []) rfl rfl (by decide) rfl)
   ·
    refine AtL.noF rfl rfl rfl (by decide) rfl ?_
    refine AtL.noF rfl rfl rfl (by decide) rfl ?_
    refine AtL.noF rfl rfl rfl (by decide) rfl ?_
    refine AtL.noF rfl rfl rfl (by decide) rfl ?_
    refine AtL.noF rfl rfl rfl (by decide) rfl ?_
    refine AtL.noF rfl rfl rfl (by decide) rfl ?_
    refine AtL.pures hT 2 _ _ _ _ rfl ?_
    refine AtL.nil ?_
    exact AtE.then_n ((HK1 _ () _ H).pickP (ts := [4]) (is := []) rfl rfl (by decide) rfl)

theorem lift_slices_EqualFunc_api_Mono_api_Mono_api_Mono_api_Mono__linear_Same_c1 (s1 : Sl) (s2 : Sl) (w : World) (m : Heap) (hr : Rel ⟨m, []⟩ w.heap) (S : Bool → Heap → Prop) (H : slices_EqualFunc_api_Mono_api_Mono_api_Mono_api_Mono__linear_Same_c1 s1 s2 m S) :
    Calls Tryd.prog 37 #[Sl.toV s1, Sl.toV s2, Value.func (.func 35) #[] #[]] w (Post ⟨w, m⟩ Value.bool S) := by
  refine Calls.lift (args := [Sl.toV s1, Sl.toV s2, Value.func (.func 35) #[] #[]]) Tryd.func37 rfl Tryd.ntmps37 (Nat.le_of_ble_eq_true rfl) hr (slices_EqualFunc_api_Mono_api_Mono_api_Mono_api_Mono__linear_Same_c1 s1 s2 m S) H (fun H => ?_)
  refine AtC.pick (ts := [0, 1, 2]) rfl ?_
  unfold slices_EqualFunc_api_Mono_api_Mono_api_Mono_api_Mono__linear_Same_c1 at H
  refine AtC.seqR ?_
  refine AtL.pures hT 1 _ _ _ _ rfl ?_
  refine AtL.nil ?_
  refine AtE.then_n (AtE.go ?_)
  refine AtC.seq ?_
  refine AtC.seqR ?_
  refine AtL.pures hT 5 _ _ _ _ rfl ?_
  refine AtL.nil ?_
  refine AtE.then_n (AtE.go ?_)
  refine AtC.condB H rfl (fun H => ?_) (fun H => ?_)
  ·
   refine AtC.seqR ?_
   refine AtL.pures hT 1 _ _ _ _ rfl ?_
   refine AtL.nil ?_
   refine AtE.then_n (AtE.go ?_)
   refine AtC.ret ?_
   refine AtE.then_r ?_
   exact AtE.retN (rs := [.tmp 6]) rfl (ResAll.cons (ResAt.tmp rfl) ResAll.nil) rfl H
  ·
   refine AtC.skip ?_
   refine AtE.then_n (AtE.go ?_)
   refine AtC.seq ?_
   refine AtC.seqR ?_
   refine AtL.pures hT 3 _ _ _ _ rfl ?_
   refine AtL.nil ?_
   refine AtE.then_n (AtE.go ?_)
   refine AtC.block ?_
   refine AtC.loopM (fun (s0 : Int) => [(17, Value.int .i64 s0)]) (fun (s0 : Int) => []) [1, 2, 15, 16] [17, 1, 2, 15, 16] [] [] H (by exact rfl) (by exact rfl) (by exact rfl) (by decide) (by exact rfl) (fun Kp1 s0 h0 H Q1 HK1 => ?_)
   refine AtC.seqR ?_
   refine AtL.pures hT 1 _ _ _ _ rfl ?_
   refine AtL.nil ?_
   refine AtE.then_n (AtE.go ?_)
   refine AtC.seq ?_
   refine AtC.condB H rfl (fun H => ?_) (fun H => ?_)
   ·
    refine AtC.skip ?_
    refine AtE.then_n (AtE.go ?_)
    refine AtC.seq ?_
    refine AtC.block ?_
    refine AtC.seqR ?_
    refine AtL.pures hT 1 _ _ _ _ rfl ?_
    obtain ⟨a_, hc1, hd1, H⟩ := H
    refine AtL.q rfl (Quiet1.idxS (s := _) hT rfl rfl rfl rfl rfl hc1 hd1) ?_
    obtain ⟨v, hc2, H⟩ := H
    refine AtL.q rfl (Quiet1.loadS hT rfl rfl rfl rfl hc2) ?_
    refine AtL.e rfl (EffX.allocP (cs := [_, _, _, _]) hT rfl rfl H) ?_
    rintro _ _ ⟨b, _, rfl, rfl, _, H⟩
    replace H := H.self
    refine AtL.pures hT 1 _ _ _ _ rfl ?_
    refine AtL.e rfl (EffX.storeSP (i := 0) (qv := [(_, [_, _, _, _])]) hT rfl rfl rfl rfl rfl rfl rfl rfl rfl rfl) ?_
    rintro _ _ rfl
    refine AtL.nil ?_
    refine AtE.then_n (AtE.go ?_)
    refine AtC.seqR ?_
    refine AtL.pures hT 2 _ _ _ _ rfl ?_
    obtain ⟨a_1_, hc3, hd3, H⟩ := H
    refine AtL.q rfl (Quiet1.idxS (s := _) hT rfl rfl rfl rfl rfl hc3 hd3) ?_
    obtain ⟨v_1, hc4, H⟩ := H
    refine AtL.q rfl (Quiet1.loadS hT rfl rfl rfl rfl hc4) ?_
    refine AtL.e rfl (EffX.allocP (cs := [_, _, _, _]) hT rfl rfl H) ?_
    rintro _ _ ⟨b_1, _, rfl, rfl, _, H⟩
    replace H := H.self
    refine AtL.e rfl (EffX.storeSP (i := 0) (qv := [(_, [_, _, _, _]), (_, [_, _, _, _])]) hT rfl rfl rfl rfl rfl rfl rfl rfl rfl rfl) ?_
    rintro _ _ rfl
    refine AtL.nil ?_
    refine AtE.then_n (AtE.go ?_)
    refine AtC.seqR ?_
    refine AtL.pures hT 1 _ _ _ _ rfl ?_
    refine AtL.q rfl (Quiet1.loadSP (i := 1) (l := [_, _, _, _]) hT rfl rfl rfl rfl rfl rfl rfl rfl) ?_
    refine AtL.q rfl (Quiet1.loadSP (i := 0) (l := [_, _, _, _]) hT rfl rfl rfl rfl rfl rfl rfl rfl) ?_
    refine AtL.e rfl (EffX.callF (bs := []) (cs := []) (f := 35) (sh := fun h => linear_Same_c1 _ _ h _) (H0 := H) rfl rfl Tryd.call35 rfl (hl := fun w m hr hw => lift_linear_Same_c1 _ _ w m hr _ hw)) ?_
    rintro _ _ ⟨v_2, h0u3, rfl, rfl, H⟩
    refine AtL.pures hT 1 _ _ _ _ rfl ?_
    refine AtL.nil ?_
    refine AtE.then_n (AtE.go ?_)
    refine AtC.condB H rfl (fun H => ?_) (fun H => ?_)
    ·
     refine AtC.seqR ?_
     refine AtL.pures hT 1 _ _ _ _ rfl ?_
     refine AtL.nil ?_
     refine AtE.then_n (AtE.go ?_)
     refine AtC.ret ?_
     refine AtE.blk_r ?_
     refine AtE.then_r ?_
     refine AtE.then_r ?_
     refine AtE.blk_r ?_
     refine AtE.then_r ?_
     exact AtE.retN (rs := [.tmp 6]) rfl (ResAll.cons (ResAt.tmp rfl) ResAll.nil) rfl H
    ·
     refine AtC.skip ?_
     refine AtE.blk_n ?_
     refine AtE.then_n (AtE.go ?_)
     refine AtC.region ?_
     refine AtL.pures hT 2 _ _ _ _ rfl ?_
     refine AtL.nil ?_
     exact AtE.then_n ((HK1 _ _ H).pickP (ts := [17, 1, 2, 15, 16]) (is := []) rfl rfl (by decide) rfl)
   ·
    refine AtC.exit ?_
    refine AtE.then_x ?_
    refine AtE.then_x ?_
    refine AtE.blk_hit ?_
    refine AtE.then_n (AtE.go ?_)
    refine AtC.seqR ?_
    refine AtL.pures hT 1 _ _ _ _ rfl ?_
    refine AtL.nil ?_
    refine AtE.then_n (AtE.go ?_)
    refine AtC.ret ?_
    exact AtE.retN (rs := [.tmp 6]) rfl (ResAll.cons (ResAt.tmp rfl) ResAll.nil) rfl H

theorem lift_linear_Same (p : Bool × Sl × Sl × Sl) (q : Bool × Sl × Sl × Sl) (w : World) (m : Heap) (hr : Rel ⟨m, []⟩ w.heap) (S : Bool → Heap → Prop) (H : linear_Same p q m S) :
    Calls Tryd.prog 16 #[Value.agg (C_bool_sl_sl_sl p).toArray, Value.agg (C_bool_sl_sl_sl q).toArray] w (Post ⟨w, m⟩ Value.bool S) := by
  refine Calls.lift (args := [Value.agg (C_bool_sl_sl_sl p).toArray, Value.agg (C_bool_sl_sl_sl q).toArray]) Tryd.func16 rfl Tryd.ntmps16 (Nat.le_of_ble_eq_true rfl) hr (linear_Same p q m S) H (fun H => ?_)
  refine AtC.pick (ts := [0, 1]) rfl ?_
  unfold linear_Same at H
  refine AtC.seqR ?_
  refine AtL.e rfl (EffX.boxP (cs := [_, _, _, _]) rfl rfl rfl H) ?_
  rintro _ _ ⟨b, _, rfl, rfl, _, H⟩
  refine AtL.e rfl (EffX.boxP (cs := [_, _, _, _]) rfl rfl rfl H) ?_
  rintro _ _ ⟨b_1, _, rfl, rfl, _, H⟩
  replace H := H.self
  refine AtL.pures hT 1 _ _ _ _ rfl ?_
  refine AtL.nil ?_
  refine AtE.then_n (AtE.go ?_)
  refine AtC.seqR ?_
  refine AtL.pures hT 1 _ _ _ _ rfl ?_
  refine AtL.nil ?_
  refine AtE.then_n (AtE.go ?_)
  refine AtC.joinSeq (β := Unit) (fun (t0 : Bool) (bb : Unit) => [(4, Value.bool t0)]) (fun (t0 : Bool) (bb : Unit) => []) [] [] H (by exact rfl) (by exact rfl) (fun t0 bb h0u1 H => ?_) (fun J1 H HK1 => ?_)
  ·
   refine AtC.ret ?_
   exact AtE.retN (rs := [.tmp 4]) rfl (ResAll.cons (ResAt.tmp rfl) ResAll.nil) rfl H
  ·
   refine AtC.region ?_
   refine AtL.pures hT 1 _ _ _ _ rfl ?_
   refine AtL.q rfl (Quiet1.loadSP (i := 1) (l := [_, _, _]) hT rfl rfl rfl rfl rfl rfl rfl rfl) ?_
   refine AtL.pures hT 1 _ _ _ _ rfl ?_
   refine AtL.q rfl (Quiet1.loadSP (i := 0) (l := [_, _, _]) hT rfl rfl rfl rfl rfl rfl rfl rfl) ?_
   refine AtL.e rfl (EffX.call (f := 36) (sh := fun h => ratio_Cmp _ _ h _) (H0 := H) rfl Tryd.call36 rfl (hl := fun w m hr hw => lift_ratio_Cmp _ _ w m hr _ hw)) ?_
   rintro _ _ ⟨v, h0u2, rfl, rfl, H⟩
   refine AtL.pures hT 2 _ _ _ _ rfl ?_
   refine AtL.splitB (t := 12) H rfl (fun H => ?_) (fun H => ?_)
   ·
    refine AtL.yes rfl rfl rfl ?_
    refine AtL.pures hT 1 _ _ _ _ rfl ?_
    refine AtL.yes rfl rfl rfl ?_
    refine AtL.q rfl (Quiet1.loadP (i := 1) hT rfl rfl rfl rfl rfl rfl) ?_
    refine AtL.yes rfl rfl rfl ?_
    refine AtL.pures hT 1 _ _ _ _ rfl ?_
    refine AtL.yes rfl rfl rfl ?_
    refine AtL.q rfl (Quiet1.loadP (i := 0) hT rfl rfl rfl rfl rfl rfl) ?_
    refine AtL.yes rfl rfl rfl ?_
    refine AtL.pures hT 1 _ _ _ _ rfl ?_
    refine AtL.yes rfl rfl rfl ?_
    refine AtL.e rfl (EffX.call (f := 37) (sh := fun h => slices_EqualFunc_api_Mono_api_Mono_api_Mono_api_Mono__linear_Same_c1 _ _ h _) (H0 := H) rfl Tryd.call37 rfl (hl := fun w m hr hw => lift_slices_EqualFunc_api_Mono_api_Mono_api_Mono_api_Mono__linear_Same_c1 _ _ w m hr _ hw)) ?_
    rintro _ _ ⟨v_1, h0u3, rfl, rfl, H⟩
    refine AtL.pures hT 2 _ _ _ _ rfl ?_
    refine AtL.nil ?_
    exact AtE.then_n ((HK1 _ () _ H).pickP (ts := [4]) (is := []) rfl rfl (by decide) rfl)
   ·
    refine AtL.noF rfl rfl rfl (by decide) rfl ?_
    refine AtL.noF rfl rfl rfl (by decide) rfl ?_
    refine AtL.noF rfl rfl rfl (by decide) rfl ?_
    refine AtL.noF rfl rfl rfl (by decide) rfl ?_
    refine AtL.noF rfl rfl rfl (by decide) rfl ?_
    refine AtL.noF rfl rfl rfl (by decide) rfl ?_
    refine AtL.pures hT 2 _ _ _ _ rfl ?_
    refine AtL.nil ?_
    exact AtE.then_n ((HK1 _ () _ H).pickP (ts := [4]) (is := []) rfl rfl (by decide) rfl)

theorem lift_linear_Value_c1 (m0 : Int × Bool × Sl × Sl) (c0 : Addr) (w : World) (m : Heap) (hr : Rel ⟨m, []⟩ w.heap) (S : Bool → Heap → Prop) (H : linear_Value_c1 m0 c0 m S) :
    Calls Tryd.prog 39 #[Value.agg (C_i64ubool_sl_sl m0).toArray, Value.pointer (some c0)] w (Post ⟨w, m⟩ Value.bool S) := by
  refine Calls.lift (args := [Value.agg (C_i64ubool_sl_sl m0).toArray, Value.pointer (some c0)]) Tryd.func39 rfl Tryd.ntmps39 (Nat.le_of_ble_eq_true rfl) hr (linear_Value_c1 m0 c0 m S) H (fun H => ?_)
  refine AtC.pick (ts := [0, 1]) rfl ?_
  unfold linear_Value_c1 at H
  refine AtC.seqR ?_
  refine AtL.e rfl (EffX.boxP (cs := [_, _, _, _]) rfl rfl rfl H) ?_
  rintro _ _ ⟨b, _, rfl, rfl, _, H⟩
  replace H := H.self
  refine AtL.pures hT 1 _ _ _ _ rfl ?_
  refine AtL.nil ?_
  refine AtE.then_n (AtE.go ?_)
  refine AtC.joinSeq (β := Unit) (fun (t0 : Bool) (bb : Unit) => [(3, Value.bool t0)]) (fun (t0 : Bool) (bb : Unit) => []) [] [] H (by exact rfl) (by exact rfl) (fun t0 bb h0u1 H => ?_) (fun J1 H HK1 => ?_)
  ·
   refine AtC.ret ?_
   exact AtE.retN (rs := [.tmp 3]) rfl (ResAll.cons (ResAt.tmp rfl) ResAll.nil) rfl H
  ·
   refine AtC.region ?_
   refine AtL.pures hT 1 _ _ _ _ rfl ?_
   refine AtL.q rfl (Quiet1.loadP (i := 0) hT rfl rfl rfl rfl rfl rfl) ?_
   refine AtL.pures hT 2 _ _ _ _ rfl ?_
   refine AtL.splitB (t := 7) H rfl (fun H => ?_) (fun H => ?_)
   ·
    refine AtL.noF rfl rfl rfl (by decide) rfl ?_
    refine AtL.noF rfl rfl rfl (by decide) rfl ?_
    refine AtL.noF rfl rfl rfl (by decide) rfl ?_
    refine AtL.noF rfl rfl rfl (by decide) rfl ?_
    refine AtL.noF rfl rfl rfl (by decide) rfl ?_
    refine AtL.pures hT 2 _ _ _ _ rfl ?_
    refine AtL.nil ?_
    exact AtE.then_n ((HK1 _ () _ H).pickP (ts := [3]) (is := []) rfl rfl (by decide) rfl)
   ·
    refine AtL.yes rfl rfl rfl ?_
    refine AtL.pures hT 1 _ _ _ _ rfl ?_
    refine AtL.yes rfl rfl rfl ?_
    refine AtL.q rfl (Quiet1.loadP (i := 0) hT rfl rfl rfl rfl rfl rfl) ?_
    refine AtL.yes rfl rfl rfl ?_
    obtain ⟨v, hc1, H⟩ := H
    refine AtL.q rfl (Quiet1.load hT rfl rfl rfl hc1) ?_
    refine AtL.yes rfl rfl rfl ?_
    refine AtL.pures hT 1 _ _ _ _ rfl ?_
    refine AtL.yes rfl rfl rfl ?_
    refine AtL.pures hT 1 _ _ _ _ rfl ?_
    refine AtL.pures hT 2 _ _ _ _ rfl ?_
    refine AtL.nil ?_
    exact AtE.then_n ((HK1 _ () _ H).pickP (ts := [3]) (is := []) rfl rfl (by decide) rfl)

theorem lift_slices_IndexFunc_api_Mono_api_Mono__linear_Value_c1 (s0 : Sl) (f_c : Addr) (w : World) (m : Heap) (hr : Rel ⟨m, []⟩ w.heap) (S : Int → Heap → Prop) (H : slices_IndexFunc_api_Mono_api_Mono__linear_Value_c1 s0 f_c m S) :
    Calls Tryd.prog 64 #[Sl.toV s0, Value.func (.func 39) #[] #[Value.pointer (some f_c)]] w (Post ⟨w, m⟩ (Value.int .i64) S) := by
  refine Calls.lift (args := [Sl.toV s0, Value.func (.func 39) #[] #[Value.pointer (some f_c)]]) Tryd.func64 rfl Tryd.ntmps64 (Nat.le_of_ble_eq_true rfl) hr (slices_IndexFunc_api_Mono_api_Mono__linear_Value_c1 s0 f_c m S) H (fun H => ?_)
  refine AtC.pick (ts := [0, 1]) rfl ?_
  unfold slices_IndexFunc_api_Mono_api_Mono__linear_Value_c1 at H
  refine AtC.seqR ?_
  refine AtL.pures hT 1 _ _ _ _ rfl ?_
  refine AtL.nil ?_
  refine AtE.then_n (AtE.go ?_)
  refine AtC.seq ?_
  refine AtC.seqR ?_
  refine AtL.pures hT 3 _ _ _ _ rfl ?_
  refine AtL.nil ?_
  refine AtE.then_n (AtE.go ?_)
  refine AtC.block ?_
  refine AtC.loopM (fun (s0u1 : Int) => [(8, Value.int .i64 s0u1)]) (fun (s0u1 : Int) => []) [0, 1, 7] [8, 0, 1, 7] [] [] H (by exact rfl) (by exact rfl) (by exact rfl) (by decide) (by exact rfl) (fun Kp1 s0u1 h0 H Q1 HK1 => ?_)
  refine AtC.seqR ?_
  refine AtL.pures hT 1 _ _ _ _ rfl ?_
  refine AtL.nil ?_
  refine AtE.then_n (AtE.go ?_)
  refine AtC.seq ?_
  refine AtC.condB H rfl (fun H => ?_) (fun H => ?_)
  ·
   refine AtC.skip ?_
   refine AtE.then_n (AtE.go ?_)
   refine AtC.seq ?_
   refine AtC.block ?_
   refine AtC.seqR ?_
   refine AtL.pures hT 2 _ _ _ _ rfl ?_
   refine AtL.nil ?_
   refine AtE.then_n (AtE.go ?_)
   refine AtC.seqR ?_
   refine AtL.pures hT 3 _ _ _ _ rfl ?_
   obtain ⟨a_, hc1, hd1, H⟩ := H
   refine AtL.q rfl (Quiet1.idxS (s := _) hT rfl rfl rfl rfl rfl hc1 hd1) ?_
   obtain ⟨v, hc2, H⟩ := H
   refine AtL.q rfl (Quiet1.loadS hT rfl rfl rfl rfl hc2) ?_
   refine AtL.e rfl (EffX.callF (bs := []) (cs := [_]) (f := 39) (sh := fun h => linear_Value_c1 _ _ h _) (H0 := H) rfl rfl Tryd.call39 rfl (hl := fun w m hr hw => lift_linear_Value_c1 _ _ w m hr _ hw)) ?_
   rintro _ _ ⟨v_1, h0u1, rfl, rfl, H⟩
   refine AtL.nil ?_
   refine AtE.then_n (AtE.go ?_)
   refine AtC.condB H rfl (fun H => ?_) (fun H => ?_)
   ·
    refine AtC.seqR ?_
    refine AtL.pures hT 2 _ _ _ _ rfl ?_
    refine AtL.nil ?_
    refine AtE.then_n (AtE.go ?_)
    refine AtC.ret ?_
    refine AtE.blk_r ?_
    refine AtE.then_r ?_
    refine AtE.then_r ?_
    refine AtE.blk_r ?_
    refine AtE.then_r ?_
    exact AtE.retN (rs := [.tmp 4]) rfl (ResAll.cons (ResAt.tmp rfl) ResAll.nil) rfl H
   ·
    refine AtC.skip ?_
    refine AtE.blk_n ?_
    refine AtE.then_n (AtE.go ?_)
    refine AtC.region ?_
    refine AtL.pures hT 2 _ _ _ _ rfl ?_
    refine AtL.nil ?_
    exact AtE.then_n ((HK1 _ _ H).pickP (ts := [8, 0, 1, 7]) (is := []) rfl rfl (by decide) rfl)
  ·
   refine AtC.exit ?_
   refine AtE.then_x ?_
   refine AtE.then_x ?_
   refine AtE.blk_hit ?_
   refine AtE.then_n (AtE.go ?_)
   refine AtC.seqR ?_
   refine AtL.pures hT 1 _ _ _ _ rfl ?_
   refine AtL.nil ?_
   refine AtE.then_n (AtE.go ?_)
   refine AtC.ret ?_
   exact AtE.retN (rs := [.tmp 4]) rfl (ResAll.cons (ResAt.tmp rfl) ResAll.nil) rfl H

theorem lift_slices_ContainsFunc_api_Mono_api_Mono__linear_Value_c1 (s0 : Sl) (f_c : Addr) (w : World) (m : Heap) (hr : Rel ⟨m, []⟩ w.heap) (S : Bool → Heap → Prop) (H : slices_ContainsFunc_api_Mono_api_Mono__linear_Value_c1 s0 f_c m S) :
    Calls Tryd.prog 40 #[Sl.toV s0, Value.func (.func 39) #[] #[Value.pointer (some f_c)]] w (Post ⟨w, m⟩ Value.bool S) := by
  refine Calls.lift (args := [Sl.toV s0, Value.func (.func 39) #[] #[Value.pointer (some f_c)]]) Tryd.func40 rfl Tryd.ntmps40 (Nat.le_of_ble_eq_true rfl) hr (slices_ContainsFunc_api_Mono_api_Mono__linear_Value_c1 s0 f_c m S) H (fun H => ?_)
  refine AtC.pick (ts := [0, 1]) rfl ?_
  unfold slices_ContainsFunc_api_Mono_api_Mono__linear_Value_c1 at H
  refine AtC.seqR ?_
  refine AtL.pures hT 1 _ _ _ _ rfl ?_
  refine AtL.nil ?_
  refine AtE.then_n (AtE.go ?_)
  refine AtC.seqR ?_
  refine AtL.pures hT 2 _ _ _ _ rfl ?_
  refine AtL.e rfl (EffX.call (f := 64) (sh := fun h => slices_IndexFunc_api_Mono_api_Mono__linear_Value_c1 _ _ h _) (H0 := H) rfl Tryd.call64 rfl (hl := fun w m hr hw => lift_slices_IndexFunc_api_Mono_api_Mono__linear_Value_c1 _ _ w m hr _ hw)) ?_
  rintro _ _ ⟨v, h0, rfl, rfl, H⟩
  refine AtL.pures hT 2 _ _ _ _ rfl ?_
  refine AtL.nil ?_
  refine AtE.then_n (AtE.go ?_)
  refine AtC.ret ?_
  exact AtE.retN (rs := [.tmp 4]) rfl (ResAll.cons (ResAt.tmp rfl) ResAll.nil) rfl H

theorem lift_linear_Value (b : (Option Addr)) (p : Bool × Sl × Sl × Sl) (reals : Sl) (w : World) (m : Heap) (hr : Rel ⟨m, []⟩ w.heap) (S : ((Bool × Sl × Sl) × Int) → Heap → Prop) (H : linear_Value b p reals m S) :
    Calls Tryd.prog 19 #[Value.pointer b, Value.agg (C_bool_sl_sl_sl p).toArray, Sl.toV reals] w (Post ⟨w, m⟩ (fun r => Value.tuple #[(fun r => Value.agg (C_bool_sl_sl r).toArray) r.1, (Value.int .i64) r.2]) S) := by
  refine Calls.lift (args := [Value.pointer b, Value.agg (C_bool_sl_sl_sl p).toArray, Sl.toV reals]) Tryd.func19 rfl Tryd.ntmps19 (Nat.le_of_ble_eq_true rfl) hr (linear_Value b p reals m S) H (fun H => ?_)
  refine AtC.pick (ts := [0, 1, 2]) rfl ?_
  unfold linear_Value at H
  refine AtC.seqR ?_
  refine AtL.e rfl (EffX.boxP (cs := [_, _, _, _]) rfl rfl rfl H) ?_
  rintro _ _ ⟨b_1, _, rfl, rfl, _, H⟩
  replace H := H.self
  refine AtL.e rfl (EffX.box (cs := [_]) rfl rfl rfl H) ?_
  rintro _ _ ⟨reals_1, h0u1, rfl, rfl, H⟩
  refine AtL.e rfl (EffX.allocP (cs := [_, _, _]) hT rfl rfl H) ?_
  rintro _ _ ⟨b_2, _, rfl, rfl, _, H⟩
  replace H := H.self
  refine AtL.pures hT 1 _ _ _ _ rfl ?_
  refine AtL.nil ?_
  refine AtE.then_n (AtE.go ?_)
  refine AtC.seqR ?_
  refine AtL.q rfl (Quiet1.makeFn (bs := []) (cs := [_]) rfl rfl rfl) ?_
  refine AtL.pures hT 1 _ _ _ _ rfl ?_
  refine AtL.nil ?_
  refine AtE.then_n (AtE.go ?_)
  refine AtC.seq ?_
  refine AtC.seqR ?_
  refine AtL.pures hT 1 _ _ _ _ rfl ?_
  refine AtL.q rfl (Quiet1.loadP (i := 1) hT rfl rfl rfl rfl rfl rfl) ?_
  refine AtL.pures hT 1 _ _ _ _ rfl ?_
  refine AtL.e rfl (EffX.call (f := 40) (sh := fun h => slices_ContainsFunc_api_Mono_api_Mono__linear_Value_c1 _ _ h _) (H0 := H) rfl Tryd.call40 rfl (hl := fun w m hr hw => lift_slices_ContainsFunc_api_Mono_api_Mono__linear_Value_c1 _ _ w m hr _ hw)) ?_
  rintro _ _ ⟨v, h0u3, rfl, rfl, H⟩
  refine AtL.nil ?_
  refine AtE.then_n (AtE.go ?_)
  refine AtC.condB H rfl (fun H => ?_) (fun H => ?_)
  ·
   refine AtC.seqR ?_
   refine AtL.q rfl (Quiet1.build (cs := [_, _, _]) hT rfl rfl rfl rfl rfl rfl) ?_
   refine AtL.e rfl (EffX.storeSP (i := 0) (qv := [(_, [_, _, _]), (_, [_, _, _, _])]) hT rfl rfl rfl rfl rfl rfl rfl rfl rfl rfl) ?_
   rintro _ _ rfl
   refine AtL.pures hT 1 _ _ _ _ rfl ?_
   refine AtL.nil ?_
   refine AtE.then_n (AtE.go ?_)
   refine AtC.ret ?_
   refine AtE.then_r ?_
   exact AtE.retN (rs := [.cell 6 27, .tmp 7]) rfl (ResAll.cons (ResAt.cellSP (i := 0) (l := [_, _, _]) hT rfl rfl rfl rfl rfl rfl rfl) (ResAll.cons (ResAt.tmp rfl) ResAll.nil)) rfl H
  ·
   refine AtC.skip ?_
   refine AtE.then_n (AtE.go ?_)
   refine AtC.seqR ?_
   refine AtL.pures hT 1 _ _ _ _ rfl ?_
   refine AtL.q rfl (Quiet1.loadSP (i := 1) (l := [_, _, _]) hT rfl rfl rfl rfl rfl rfl rfl rfl) ?_
   refine AtL.e rfl (EffX.allocP (cs := [_, _, _]) hT rfl rfl H) ?_
   rintro _ _ ⟨b_3, _, rfl, rfl, _, H⟩
   replace H := H.self
   refine AtL.e rfl (EffX.storeSP (i := 0) (qv := [(_, [_, _, _]), (_, [_, _, _]), (_, [_, _, _, _])]) hT rfl rfl rfl rfl rfl rfl rfl rfl rfl rfl) ?_
   rintro _ _ rfl
   refine AtL.nil ?_
   refine AtE.then_n (AtE.go ?_)
   refine AtC.seq ?_
   refine AtC.seqR ?_
   refine AtL.pures hT 1 _ _ _ _ rfl ?_
   refine AtL.q rfl (Quiet1.loadP (i := 2) hT rfl rfl rfl rfl rfl rfl) ?_
   refine AtL.pures hT 2 _ _ _ _ rfl ?_
   refine AtL.nil ?_
   refine AtE.then_n (AtE.go ?_)
   refine AtC.block ?_
   refine AtC.loopM (fun (s0 : Int × Bool × Sl × Sl) => [(23, Value.int .i64 s0.1)]) (fun (s0 : Int × Bool × Sl × Sl) => [(b_3, [Value.bool s0.2.1, Sl.toV s0.2.2.1, Sl.toV s0.2.2.2])]) [0, 5, 6, 9, 21, 22] [23, 0, 5, 6, 9, 21, 22] [1] [0, 1] H (by exact rfl) (by exact rfl) (by exact rfl) (by decide) (by exact rfl) (fun Kp1 s0 h0u5 H Q1 HK1 => ?_)
   refine AtC.seqR ?_
   refine AtL.pures hT 1 _ _ _ _ rfl ?_
   refine AtL.nil ?_
   refine AtE.then_n (AtE.go ?_)
   refine AtC.seq ?_
   refine AtC.condB H rfl (fun H => ?_) (fun H => ?_)
   ·
    refine AtC.skip ?_
    refine AtE.then_n (AtE.go ?_)
    refine AtC.seq ?_
    refine AtC.block ?_
    refine AtC.seqR ?_
    obtain ⟨a_, hc1, hd1, H⟩ := H
    refine AtL.q rfl (Quiet1.idxS (s := _) hT rfl rfl rfl rfl rfl hc1 hd1) ?_
    obtain ⟨v_1, hc2, H⟩ := H
    refine AtL.q rfl (Quiet1.loadS hT rfl rfl rfl rfl hc2) ?_
    refine AtL.e rfl (EffX.allocP (cs := [_, _, _, _]) hT rfl rfl H) ?_
    rintro _ _ ⟨b_4, _, rfl, rfl, _, H⟩
    replace H := H.self
    refine AtL.e rfl (EffX.storeSP (i := 0) (qv := [(_, [_, _, _, _]), (_, [_, _, _]), (_, [_, _, _])]) hT rfl rfl rfl rfl rfl rfl rfl rfl rfl rfl) ?_
    rintro _ _ rfl
    refine AtL.nil ?_
    refine AtE.then_n (AtE.go ?_)
    obtain ⟨v_2, hc3, H⟩ := H
    obtain ⟨a_1_, hc4, hd4, H⟩ := H
    obtain ⟨v_3, hc5, H⟩ := H
    apply AtC.stages [10, 11, 12] [[], [], [], [], [], [], [], [], [], [], [], [10], [10, 11]] [[], [], [], [], [3], [], [], [6], [5, 6, 7], [5, 6, 7, 8], [2, 3, 4, 5, 6, 7, 8, 9], [0, 1, 2, 3, 4, 5, 6, 7, 8, 9, 10], [0, 1, 2, 3, 4, 5, 6, 7, 8, 9, 10, 11]] hmix (by kernel_rfl) [(27, _), (28, _), (29, _), (30, _), (31, _), (32, _), (33, _), (34, _), (35, _), (36, _)] rfl 3 rfl
    refine Stg.go [0, 1, 2, 3, 4, 5, 6, 7, 8, 9] [10] rfl rfl (QAll.cons (QOp.p hT rfl rfl rfl rfl rfl) (QAll.cons (QOp.q rfl rfl (Quiet1.loadSP (i := 1) (l := [_, _, _]) hT rfl rfl rfl rfl rfl rfl rfl rfl) rfl rfl) (QAll.cons (QOp.p hT rfl rfl rfl rfl rfl) (QAll.cons (QOp.p hT rfl rfl rfl rfl rfl) (QAll.cons (QOp.q rfl rfl (Quiet1.loadSP (i := 0) (l := [_, _, _]) hT rfl rfl rfl rfl rfl rfl rfl rfl) rfl rfl) (QAll.cons (QOp.q rfl rfl (Quiet1.load hT rfl rfl rfl hc3) rfl rfl) (QAll.cons (QOp.p hT rfl rfl rfl rfl rfl) (QAll.cons (QOp.q rfl rfl (Quiet1.loadP (i := 0) hT rfl rfl rfl rfl rfl rfl) rfl rfl) (QAll.cons (QOp.q rfl rfl (Quiet1.idxS (s := _) hT rfl rfl rfl rfl rfl hc4 hd4) rfl rfl) (QAll.cons (QOp.q rfl rfl (Quiet1.loadS hT rfl rfl rfl rfl hc5) rfl rfl) QAll.nil)))))))))) ?_
    refine EAll.cons ?_ EAll.nil
    refine EOp.e rfl rfl rfl (EffX.call (f := 34) (sh := fun h => ratio_Mul _ _ _ h _) (H0 := H) rfl Tryd.call34 rfl (hl := fun w m hr hw => lift_ratio_Mul _ _ _ w m hr _ hw)) ?_
    rintro _ _ ⟨v_4, h0u7, rfl, rfl, H⟩
    apply Stg.next [(37, _)] rfl rfl
    refine Stg.go [0, 1] [11] rfl rfl (QAll.cons (QOp.p hT rfl rfl rfl rfl rfl) (QAll.cons (QOp.q rfl rfl (Quiet1.loadSP (i := 1) (l := [_, _, _]) hT rfl rfl rfl rfl rfl rfl rfl rfl) rfl rfl) QAll.nil)) ?_
    refine EAll.cons ?_ EAll.nil
    refine EOp.e rfl rfl rfl (EffX.call (f := 28) (sh := fun h => ratio_Add _ _ _ h _) (H0 := H) rfl Tryd.call28 rfl (hl := fun w m hr hw => lift_ratio_Add _ _ _ w m hr _ hw)) ?_
    rintro _ _ ⟨v_5, h0u8, rfl, rfl, H⟩
    apply Stg.next [(38, _)] rfl rfl
    refine Stg.go [] [12] rfl rfl QAll.nil ?_
    refine EAll.cons ?_ EAll.nil
    refine EOp.e rfl rfl rfl (EffX.storeSP (i := 1) (qv := [(_, [_, _, _, _]), (_, [_, _, _]), (_, [_, _, _])]) hT rfl rfl rfl rfl rfl rfl rfl rfl rfl rfl) ?_
    rintro _ _ rfl
    apply Stg.next [] rfl rfl
    refine Stg.fin [] rfl rfl QAll.nil ?_
    refine AtE.blk_n ?_
    refine AtE.then_n (AtE.go ?_)
    refine AtC.region ?_
    refine AtL.pures hT 2 _ _ _ _ rfl ?_
    refine AtL.nil ?_
    exact AtE.then_n ((HK1 _ _ H).pickP (ts := [23, 0, 5, 6, 9, 21, 22]) (is := [1, 2]) rfl rfl (by decide) rfl)
   ·
    refine AtC.exit ?_
    refine AtE.then_x ?_
    refine AtE.then_x ?_
    refine AtE.blk_hit ?_
    refine AtE.then_n (AtE.go ?_)
    refine AtC.seq ?_
    refine AtC.seqR ?_
    refine AtL.pures hT 1 _ _ _ _ rfl ?_
    refine AtL.e rfl (EffX.call (f := 41) (sh := fun h => nat_Bench_Over _ h _) (H0 := H) rfl Tryd.call41 rfl (hl := fun w m hr hw => lift_nat_Bench_Over _ w m hr _ hw)) ?_
    rintro _ _ ⟨v_6, h0u9, rfl, rfl, H⟩
    refine AtL.nil ?_
    refine AtE.then_n (AtE.go ?_)
    refine AtC.condB H rfl (fun H => ?_) (fun H => ?_)
    ·
     refine AtC.seqR ?_
     refine AtL.q rfl (Quiet1.build (cs := [_, _, _]) hT rfl rfl rfl rfl rfl rfl) ?_
     refine AtL.e rfl (EffX.storeSP (i := 1) (qv := [(_, [_, _, _]), (_, [_, _, _])]) hT rfl rfl rfl rfl rfl rfl rfl rfl rfl rfl) ?_
     rintro _ _ rfl
     refine AtL.pures hT 1 _ _ _ _ rfl ?_
     refine AtL.nil ?_
     refine AtE.then_n (AtE.go ?_)
     refine AtC.ret ?_
     refine AtE.then_r ?_
     exact AtE.retN (rs := [.cell 6 27, .tmp 7]) rfl (ResAll.cons (ResAt.cellSP (i := 1) (l := [_, _, _]) hT rfl rfl rfl rfl rfl rfl rfl) (ResAll.cons (ResAt.tmp rfl) ResAll.nil)) rfl H
    ·
     refine AtC.skip ?_
     refine AtE.then_n (AtE.go ?_)
     refine AtC.seqR ?_
     refine AtL.q rfl (Quiet1.loadSP (i := 0) (l := [_, _, _]) hT rfl rfl rfl rfl rfl rfl rfl rfl) ?_
     refine AtL.e rfl (EffX.storeSP (i := 1) (qv := [(_, [_, _, _]), (_, [_, _, _])]) hT rfl rfl rfl rfl rfl rfl rfl rfl rfl rfl) ?_
     rintro _ _ rfl
     refine AtL.pures hT 1 _ _ _ _ rfl ?_
     refine AtL.nil ?_
     refine AtE.then_n (AtE.go ?_)
     refine AtC.ret ?_
     exact AtE.retN (rs := [.cell 6 27, .tmp 7]) rfl (ResAll.cons (ResAt.cellSP (i := 1) (l := [_, _, _]) hT rfl rfl rfl rfl rfl rfl rfl) (ResAll.cons (ResAt.tmp rfl) ResAll.nil)) rfl H

theorem lift_ref12uValue (p : Bool × Sl × Sl × Sl) (reals : Sl) (w : World) (m : Heap) (hr : Rel ⟨m, []⟩ w.heap) (S : (Bool × Sl × Sl) → Heap → Prop) (H : ref12uValue p reals m S) :
    Calls Tryd.prog 22 #[Value.agg (C_bool_sl_sl_sl p).toArray, Sl.toV reals] w (Post ⟨w, m⟩ (fun r => Value.agg (C_bool_sl_sl r).toArray) S) := by
  refine Calls.lift (args := [Value.agg (C_bool_sl_sl_sl p).toArray, Sl.toV reals]) Tryd.func22 rfl Tryd.ntmps22 (Nat.le_of_ble_eq_true rfl) hr (ref12uValue p reals m S) H (fun H => ?_)
  refine AtC.pick (ts := [0, 1]) rfl ?_
  unfold ref12uValue at H
  refine AtC.seqR ?_
  refine AtL.e rfl (EffX.boxP (cs := [_, _, _, _]) rfl rfl rfl H) ?_
  rintro _ _ ⟨b, _, rfl, rfl, _, H⟩
  refine AtL.e rfl (EffX.allocP (cs := [_, _, _]) hT rfl rfl H) ?_
  rintro _ _ ⟨b_1, _, rfl, rfl, _, H⟩
  refine AtL.nil ?_
  replace H := H.self
  refine AtE.then_n (AtE.go ?_)
  refine AtC.seqR ?_
  refine AtL.pures hT 1 _ _ _ _ rfl ?_
  refine AtL.q rfl (Quiet1.loadSP (i := 1) (l := [_, _, _]) hT rfl rfl rfl rfl rfl rfl rfl rfl) ?_
  refine AtL.e rfl (EffX.call (f := 11) (sh := fun h => ref02uOf _ h _) (H0 := H) rfl Tryd.call11 rfl (hl := fun w m hr hw => lift_ref02uOf _ w m hr _ hw)) ?_
  rintro _ _ ⟨v, h0u1, rfl, rfl, H⟩
  refine AtL.e rfl (EffX.allocP (cs := [_, _, _]) hT rfl rfl H) ?_
  rintro _ _ ⟨b_2, _, rfl, rfl, _, H⟩
  replace H := H.self
  refine AtL.e rfl (EffX.storeSP (i := 0) (qv := [(_, [_, _, _]), (_, [_, _, _]), (_, [_, _, _, _])]) hT rfl rfl rfl rfl rfl rfl rfl rfl rfl rfl) ?_
  rintro _ _ rfl
  refine AtL.nil ?_
  refine AtE.then_n (AtE.go ?_)
  refine AtC.seq ?_
  refine AtC.seqR ?_
  refine AtL.pures hT 1 _ _ _ _ rfl ?_
  refine AtL.nil ?_
  refine AtE.then_n (AtE.go ?_)
  refine AtC.block ?_
  refine AtC.loopM (fun (s0 : Int × Bool × Sl × Sl) => [(6, Value.int .i64 s0.1)]) (fun (s0 : Int × Bool × Sl × Sl) => [(b_2, [Value.bool s0.2.1, Sl.toV s0.2.2.1, Sl.toV s0.2.2.2])]) [1, 2, 4, 5] [6, 1, 2, 4, 5] [1, 2] [0, 1, 2] H (by exact rfl) (by exact rfl) (by exact rfl) (by decide) (by exact rfl) (fun Kp1 s0 h0u3 H Q1 HK1 => ?_)
  refine AtC.seq ?_
  refine AtC.seqR ?_
  refine AtL.pures hT 2 _ _ _ _ rfl ?_
  refine AtL.q rfl (Quiet1.loadP (i := 2) hT rfl rfl rfl rfl rfl rfl) ?_
  refine AtL.pures hT 2 _ _ _ _ rfl ?_
  refine AtL.nil ?_
  refine AtE.then_n (AtE.go ?_)
  refine AtC.condB H rfl (fun H => ?_) (fun H => ?_)
  ·
   refine AtC.skip ?_
   refine AtE.then_n (AtE.go ?_)
   refine AtC.seq ?_
   refine AtC.block ?_
   obtain ⟨a_, hc1, hd1, H⟩ := H
   obtain ⟨v_1, hc2, H⟩ := H
   obtain ⟨a_1_, hc3, hd3, H⟩ := H
   obtain ⟨v_2, hc4, H⟩ := H
   obtain ⟨a_2_, hc5, hd5, H⟩ := H
   obtain ⟨v_3, hc6, H⟩ := H
   apply AtC.stages [7, 17, 18, 19, 20] [[], [], [], [], [], [], [], [], [], [], [], [], [], [], [], [], [], [7], [7, 17], [7, 17, 18], [7, 17, 18, 19]] [[], [], [1], [], [1, 2, 3], [1, 2, 3, 4], [1, 2, 3, 4, 5], [1, 2, 3, 4, 5, 6], [], [], [9], [], [9, 10, 11], [9, 10, 11, 12], [9, 10, 11, 12, 13], [8, 9, 10, 11, 12, 13, 14], [8, 9, 10, 11, 12, 13, 14, 15], [1, 2, 3, 4, 5, 6, 7, 8, 9, 10, 11, 12, 13, 14, 15, 16], [1, 2, 3, 4, 5, 6, 7, 8, 9, 10, 11, 12, 13, 14, 15, 16, 17], [0, 1, 2, 3, 4, 5, 6, 7, 8, 9, 10, 11, 12, 13, 14, 15, 16, 17, 18], [0, 1, 2, 3, 4, 5, 6, 7, 8, 9, 10, 11, 12, 13, 14, 15, 16, 17, 18, 19]] hmix (by kernel_rfl) [(17, _), (18, _), (19, _), (20, _), (21, _), (22, _), (23, _), (25, _), (26, _), (27, _), (28, _), (29, _), (30, _), (31, _), (32, _), (33, _)] rfl 5 rfl
   refine Stg.go [0, 1, 2, 3, 4, 5, 6, 8, 9, 10, 11, 12, 13, 14, 15, 16] [7] rfl rfl (QAll.cons (QOp.q rfl rfl (Quiet1.loadSP (i := 0) (l := [_, _, _]) hT rfl rfl rfl rfl rfl rfl rfl rfl) rfl rfl) (QAll.cons (QOp.p hT rfl rfl rfl rfl rfl) (QAll.cons (QOp.q rfl rfl (Quiet1.loadP (i := 2) hT rfl rfl rfl rfl rfl rfl) rfl rfl) (QAll.cons (QOp.p hT rfl rfl rfl rfl rfl) (QAll.cons (QOp.q rfl rfl (Quiet1.idxS (s := _) hT rfl rfl rfl rfl rfl hc1 hd1) rfl rfl) (QAll.cons (QOp.p hT rfl rfl rfl rfl rfl) (QAll.cons (QOp.q rfl rfl (Quiet1.loadS hT rfl rfl rfl rfl hc2) rfl rfl) (QAll.cons (QOp.p hT rfl rfl rfl rfl rfl) (QAll.cons (QOp.p hT rfl rfl rfl rfl rfl) (QAll.cons (QOp.q rfl rfl (Quiet1.loadP (i := 2) hT rfl rfl rfl rfl rfl rfl) rfl rfl) (QAll.cons (QOp.p hT rfl rfl rfl rfl rfl) (QAll.cons (QOp.q rfl rfl (Quiet1.idxS (s := _) hT rfl rfl rfl rfl rfl hc3 hd3) rfl rfl) (QAll.cons (QOp.p hT rfl rfl rfl rfl rfl) (QAll.cons (QOp.q rfl rfl (Quiet1.load hT rfl rfl rfl hc4) rfl rfl) (QAll.cons (QOp.q rfl rfl (Quiet1.idxS (s := _) hT rfl rfl rfl rfl rfl hc5 hd5) rfl rfl) (QAll.cons (QOp.q rfl rfl (Quiet1.loadS hT rfl rfl rfl rfl hc6) rfl rfl) QAll.nil)))))))))))))))) ?_
   refine EAll.cons ?_ EAll.nil
   refine EOp.e rfl rfl rfl (EffX.call (f := 11) (sh := fun h => ref02uOf _ h _) (H0 := H) rfl Tryd.call11 rfl (hl := fun w m hr hw => lift_ref02uOf _ w m hr _ hw)) ?_
   rintro _ _ ⟨v_4, h0u4, rfl, rfl, H⟩
   obtain ⟨hc7, H⟩ := H
   obtain ⟨hc8, H⟩ := H
   apply Stg.next [(24, _)] rfl rfl
   refine Stg.go [0, 8, 9, 10, 11, 12, 13, 14, 15, 16] [17] rfl rfl (QAll.cons (QOp.q rfl rfl (Quiet1.loadSP (i := 0) (l := [_, _, _]) hT rfl rfl rfl rfl rfl rfl rfl rfl) rfl rfl) (QAll.cons (QOp.p hT rfl rfl rfl rfl rfl) (QAll.cons (QOp.p hT rfl rfl rfl rfl rfl) (QAll.cons (QOp.q rfl rfl (Quiet1.loadP (i := 2) hT rfl rfl rfl rfl rfl rfl) rfl rfl) (QAll.cons (QOp.p hT rfl rfl rfl rfl rfl) (QAll.cons (QOp.q rfl rfl (Quiet1.idxS (s := _) hT rfl rfl rfl rfl rfl hc3 hd3) rfl rfl) (QAll.cons (QOp.p hT rfl rfl rfl rfl rfl) (QAll.cons (QOp.q rfl rfl (Quiet1.load hT rfl rfl rfl hc7) rfl rfl) (QAll.cons (QOp.q rfl rfl (Quiet1.idxS (s := _) hT rfl rfl rfl rfl rfl hc5 hd5) rfl rfl) (QAll.cons (QOp.q rfl rfl (Quiet1.loadS hT rfl rfl rfl rfl hc8) rfl rfl) QAll.nil)))))))))) ?_
   refine EAll.cons ?_ EAll.nil
   refine EOp.e rfl rfl rfl (EffX.call (f := 11) (sh := fun h => ref02uOf _ h _) (H0 := H) rfl Tryd.call11 rfl (hl := fun w m hr hw => lift_ref02uOf _ w m hr _ hw)) ?_
   rintro _ _ ⟨v_5, h0u5, rfl, rfl, H⟩
   apply Stg.next [(34, _)] rfl rfl
   refine Stg.go [0] [18] rfl rfl (QAll.cons (QOp.q rfl rfl (Quiet1.loadSP (i := 0) (l := [_, _, _]) hT rfl rfl rfl rfl rfl rfl rfl rfl) rfl rfl) QAll.nil) ?_
   refine EAll.cons ?_ EAll.nil
   refine EOp.e rfl rfl rfl (EffX.call (f := 31) (sh := fun h => ref02uMul _ _ h _) (H0 := H) rfl Tryd.call31 rfl (hl := fun w m hr hw => lift_ref02uMul _ _ w m hr _ hw)) ?_
   rintro _ _ ⟨v_6, h0u6, rfl, rfl, H⟩
   apply Stg.next [(35, _)] rfl rfl
   refine Stg.go [0] [19] rfl rfl (QAll.cons (QOp.q rfl rfl (Quiet1.loadSP (i := 0) (l := [_, _, _]) hT rfl rfl rfl rfl rfl rfl rfl rfl) rfl rfl) QAll.nil) ?_
   refine EAll.cons ?_ EAll.nil
   refine EOp.e rfl rfl rfl (EffX.call (f := 30) (sh := fun h => ref02uAdd _ _ h _) (H0 := H) rfl Tryd.call30 rfl (hl := fun w m hr hw => lift_ref02uAdd _ _ w m hr _ hw)) ?_
   rintro _ _ ⟨v_7, h0u7, rfl, rfl, H⟩
   apply Stg.next [(36, _)] rfl rfl
   refine Stg.go [] [20] rfl rfl QAll.nil ?_
   refine EAll.cons ?_ EAll.nil
   refine EOp.e rfl rfl rfl (EffX.storeSP (i := 0) (qv := [(_, [_, _, _]), (_, [_, _, _]), (_, [_, _, _, _])]) hT rfl rfl rfl rfl rfl rfl rfl rfl rfl rfl) ?_
   rintro _ _ rfl
   apply Stg.next [] rfl rfl
   refine Stg.fin [] rfl rfl QAll.nil ?_
   refine AtE.blk_n ?_
   refine AtE.then_n (AtE.go ?_)
   refine AtC.region ?_
   refine AtL.pures hT 3 _ _ _ _ rfl ?_
   replace H := H _ rfl
   refine AtL.nil ?_
   exact AtE.then_n ((HK1 _ _ H).pickP (ts := [6, 1, 2, 4, 5]) (is := [0, 1, 2]) rfl rfl (by decide) rfl)
  ·
   refine AtC.exit ?_
   refine AtE.then_x ?_
   refine AtE.then_x ?_
   refine AtE.blk_hit ?_
   refine AtE.then_n (AtE.go ?_)
   refine AtC.seqR ?_
   refine AtL.q rfl (Quiet1.loadSP (i := 0) (l := [_, _, _]) hT rfl rfl rfl rfl rfl rfl rfl rfl) ?_
   refine AtL.e rfl (EffX.storeSP (i := 1) (qv := [(_, [_, _, _]), (_, [_, _, _]), (_, [_, _, _, _])]) hT rfl rfl rfl rfl rfl rfl rfl rfl rfl rfl) ?_
   rintro _ _ rfl
   refine AtL.nil ?_
   refine AtE.then_n (AtE.go ?_)
   refine AtC.ret ?_
   exact AtE.retN (rs := [.cell 4 42]) rfl (ResAll.cons (ResAt.cellSP (i := 1) (l := [_, _, _]) hT rfl rfl rfl rfl rfl rfl rfl) ResAll.nil) rfl H

theorem lift_law12uLinearTold (p : Bool × Sl × Sl × Sl) (q : Bool × Sl × Sl × Sl) (k : Bool × Sl × Sl) (reals : Sl) (v : Int) (w : World) (m : Heap) (hr : Rel ⟨m, []⟩ w.heap) (S : Bool → Heap → Prop) (H : law12uLinearTold p q k reals v m S) :
    Calls Tryd.prog 3 #[Value.agg (C_bool_sl_sl_sl p).toArray, Value.agg (C_bool_sl_sl_sl q).toArray, Value.agg (C_bool_sl_sl k).toArray, Sl.toV reals, Value.int .i64 v] w (Post ⟨w, m⟩ Value.bool S) := by
  refine Calls.lift (args := [Value.agg (C_bool_sl_sl_sl p).toArray, Value.agg (C_bool_sl_sl_sl q).toArray, Value.agg (C_bool_sl_sl k).toArray, Sl.toV reals, Value.int .i64 v]) Tryd.func3 rfl Tryd.ntmps3 (Nat.le_of_ble_eq_true rfl) hr (law12uLinearTold p q k reals v m S) H (fun H => ?_)
  refine AtC.pick (ts := [0, 1, 2, 3, 4]) rfl ?_
  unfold law12uLinearTold at H
  refine AtC.seqR ?_
  refine AtL.e rfl (EffX.boxP (cs := [_, _, _, _]) rfl rfl rfl H) ?_
  rintro _ _ ⟨b, _, rfl, rfl, _, H⟩
  refine AtL.e rfl (EffX.boxP (cs := [_, _, _, _]) rfl rfl rfl H) ?_
  rintro _ _ ⟨b_1, _, rfl, rfl, _, H⟩
  refine AtL.e rfl (EffX.boxP (cs := [_, _, _]) rfl rfl rfl H) ?_
  rintro _ _ ⟨b_2, _, rfl, rfl, _, H⟩
  replace H := H.self
  refine AtL.pures hT 1 _ _ _ _ rfl ?_
  refine AtL.nil ?_
  refine AtE.then_n (AtE.go ?_)
  refine AtC.seq ?_
  refine AtC.seqR ?_
  refine AtL.e rfl (EffX.call (f := 4) (sh := fun h => law12uspeaks h _) (H0 := H) rfl Tryd.call4 rfl (hl := fun w m hr hw => lift_law12uspeaks  w m hr _ hw)) ?_
  rintro _ _ ⟨v_1, h0u1, rfl, rfl, H⟩
  refine AtL.pures hT 1 _ _ _ _ rfl ?_
  refine AtL.nil ?_
  refine AtE.then_n (AtE.go ?_)
  refine AtC.condB H rfl (fun H => ?_) (fun H => ?_)
  ·
   refine AtC.seqR ?_
   refine AtL.pures hT 1 _ _ _ _ rfl ?_
   refine AtL.nil ?_
   refine AtE.then_n (AtE.go ?_)
   refine AtC.ret ?_
   refine AtE.then_r ?_
   exact AtE.retN (rs := [.tmp 10]) rfl (ResAll.cons (ResAt.tmp rfl) ResAll.nil) rfl H
  ·
   refine AtC.skip ?_
   refine AtE.then_n (AtE.go ?_)
   refine AtC.seq ?_
   refine AtC.joinSeq (β := Unit) (fun (t0 : Bool) (bb : Unit) => [(27, Value.bool t0)]) (fun (t0 : Bool) (bb : Unit) => []) [3, 4, 5, 6, 7] [0, 1, 2] H (by exact rfl) (by exact rfl) (fun t0 bb h0u2 H => ?_) (fun J1 H HK1 => ?_)
   ·
    refine AtC.condB H rfl (fun H => ?_) (fun H => ?_)
    ·
     refine AtC.seqR ?_
     refine AtL.pures hT 1 _ _ _ _ rfl ?_
     refine AtL.nil ?_
     refine AtE.then_n (AtE.go ?_)
     refine AtC.ret ?_
     refine AtE.then_r ?_
     exact AtE.retN (rs := [.tmp 10]) rfl (ResAll.cons (ResAt.tmp rfl) ResAll.nil) rfl H
    ·
     refine AtC.skip ?_
     refine AtE.then_n (AtE.go ?_)
     refine AtC.seq ?_
     apply AtC.seqS [1, 3] [[], [], [], [1], [1, 3]] [[], [0], [], [0, 1, 2], [0, 1, 2, 3]] hmix (by kernel_rfl) [(28, _), (30, _)] rfl 2 rfl
     refine Stg.go [0, 2] [1] rfl rfl (QAll.cons (QOp.q rfl rfl (Quiet1.loadSP (i := 2) (l := [_, _, _, _]) hT rfl rfl rfl rfl rfl rfl rfl rfl) rfl rfl) (QAll.cons (QOp.q rfl rfl (Quiet1.loadSP (i := 2) (l := [_, _, _, _]) hT rfl rfl rfl rfl rfl rfl rfl rfl) rfl rfl) QAll.nil)) ?_
     refine EAll.cons ?_ EAll.nil
     refine EOp.e rfl rfl rfl (EffX.call (f := 5) (sh := fun h => linear_Right _ h _) (H0 := H) rfl Tryd.call5 rfl (hl := fun w m hr hw => lift_linear_Right _ w m hr _ hw)) ?_
     rintro _ _ ⟨v_2, h0u3, rfl, rfl, H⟩
     apply Stg.next [(29, _)] rfl rfl
     refine Stg.go [2] [3] rfl rfl (QAll.cons (QOp.q rfl rfl (Quiet1.loadSP (i := 2) (l := [_, _, _, _]) hT rfl rfl rfl rfl rfl rfl rfl rfl) rfl rfl) QAll.nil) ?_
     refine EAll.cons ?_ EAll.nil
     refine EOp.e rfl rfl rfl (EffX.call (f := 6) (sh := fun h => ref12uRight _ h _) (H0 := H) rfl Tryd.call6 rfl (hl := fun w m hr hw => lift_ref12uRight _ w m hr _ hw)) ?_
     rintro _ _ ⟨v_3, h0u4, rfl, rfl, H⟩
     apply Stg.next [(31, _), (32, _)] rfl rfl
     refine Stg.fin [4] rfl rfl (QAll.cons (QOp.p hT rfl rfl rfl rfl rfl) QAll.nil) ?_
     refine AtE.then_n (AtE.go ?_)
     refine AtC.condB H rfl (fun H => ?_) (fun H => ?_)
     ·
      refine AtC.seqR ?_
      refine AtL.pures hT 1 _ _ _ _ rfl ?_
      refine AtL.nil ?_
      refine AtE.then_n (AtE.go ?_)
      refine AtC.ret ?_
      refine AtE.then_r ?_
      exact AtE.retN (rs := [.tmp 10]) rfl (ResAll.cons (ResAt.tmp rfl) ResAll.nil) rfl H
     ·
      refine AtC.skip ?_
      refine AtE.then_n (AtE.go ?_)
      refine AtC.seq ?_
      refine AtC.joinSeq (β := Unit) (fun (t0u1 : Bool) (bb_1 : Unit) => [(42, Value.bool t0u1)]) (fun (t0u1 : Bool) (bb_1 : Unit) => []) [3, 4, 5, 6, 7] [0, 1, 2] H (by exact rfl) (by exact rfl) (fun t0u1 bb_1 h0u5 H => ?_) (fun J2 H HK2 => ?_)
      ·
       refine AtC.condB H rfl (fun H => ?_) (fun H => ?_)
       ·
        refine AtC.seqR ?_
        refine AtL.pures hT 1 _ _ _ _ rfl ?_
        refine AtL.nil ?_
        refine AtE.then_n (AtE.go ?_)
        refine AtC.ret ?_
        refine AtE.then_r ?_
        exact AtE.retN (rs := [.tmp 10]) rfl (ResAll.cons (ResAt.tmp rfl) ResAll.nil) rfl H
       ·
        refine AtC.skip ?_
        refine AtE.then_n (AtE.go ?_)
        refine AtC.seq ?_
        refine AtC.seqR ?_
        refine AtL.pures hT 3 _ _ _ _ rfl ?_
        refine AtL.nil ?_
        refine AtE.then_n (AtE.go ?_)
        refine AtC.block ?_
        refine AtC.loopM (fun (s0 : Int) => [(45, Value.int .i64 s0)]) (fun (s0 : Int) => []) [3, 4, 5, 6, 7, 43, 44] [45, 3, 4, 5, 6, 7, 43, 44] [0, 1, 2] [0, 1, 2] H (by exact rfl) (by exact rfl) (by exact rfl) (by decide) (by exact rfl) (fun Kp3 s0 h0u9 H Q3 HK3 => ?_)
        refine AtC.seqR ?_
        refine AtL.pures hT 1 _ _ _ _ rfl ?_
        refine AtL.nil ?_
        refine AtE.then_n (AtE.go ?_)
        refine AtC.seq ?_
        refine AtC.condB H rfl (fun H => ?_) (fun H => ?_)
        ·
         refine AtC.skip ?_
         refine AtE.then_n (AtE.go ?_)
         refine AtC.seq ?_
         refine AtC.block ?_
         refine AtC.seqR ?_
         obtain ⟨a_1_, hc3, hd3, H⟩ := H
         refine AtL.q rfl (Quiet1.idxS (s := _) hT rfl rfl rfl rfl rfl hc3 hd3) ?_
         obtain ⟨v_7, hc4, H⟩ := H
         refine AtL.q rfl (Quiet1.loadS hT rfl rfl rfl rfl hc4) ?_
         refine AtL.e rfl (EffX.allocP (cs := [_, _, _]) hT rfl rfl H) ?_
         rintro _ _ ⟨b_3, _, rfl, rfl, _, H⟩
         replace H := H.self
         refine AtL.e rfl (EffX.storeSP (i := 0) (qv := [(_, [_, _, _]), (_, [_, _, _]), (_, [_, _, _, _]), (_, [_, _, _, _])]) hT rfl rfl rfl rfl rfl rfl rfl rfl rfl rfl) ?_
         rintro _ _ rfl
         refine AtL.nil ?_
         refine AtE.then_n (AtE.go ?_)
         refine AtC.seqR ?_
         refine AtL.q rfl (Quiet1.loadSP (i := 0) (l := [_, _, _]) hT rfl rfl rfl rfl rfl rfl rfl rfl) ?_
         refine AtL.e rfl (EffX.call (f := 9) (sh := fun h => ref02uRight _ h _) (H0 := H) rfl Tryd.call9 rfl (hl := fun w m hr hw => lift_ref02uRight _ w m hr _ hw)) ?_
         rintro _ _ ⟨v_8, h0u11, rfl, rfl, H⟩
         refine AtL.pures hT 1 _ _ _ _ rfl ?_
         refine AtL.nil ?_
         refine AtE.then_n (AtE.go ?_)
         refine AtC.condB H rfl (fun H => ?_) (fun H => ?_)
         ·
          refine AtC.seqR ?_
          refine AtL.pures hT 1 _ _ _ _ rfl ?_
          refine AtL.nil ?_
          refine AtE.then_n (AtE.go ?_)
          refine AtC.ret ?_
          refine AtE.blk_r ?_
          refine AtE.then_r ?_
          refine AtE.then_r ?_
          refine AtE.blk_r ?_
          refine AtE.then_r ?_
          exact AtE.retN (rs := [.tmp 10]) rfl (ResAll.cons (ResAt.tmp rfl) ResAll.nil) rfl H
         ·
          refine AtC.skip ?_
          refine AtE.blk_n ?_
          refine AtE.then_n (AtE.go ?_)
          refine AtC.region ?_
          refine AtL.pures hT 2 _ _ _ _ rfl ?_
          refine AtL.nil ?_
          exact AtE.then_n ((HK3 _ _ H).pickP (ts := [45, 3, 4, 5, 6, 7, 43, 44]) (is := [1, 2, 3]) rfl rfl (by decide) rfl)
        ·
         refine AtC.exit ?_
         refine AtE.then_x ?_
         refine AtE.then_x ?_
         refine AtE.blk_hit ?_
         refine AtE.then_n (AtE.go ?_)
         refine AtC.joinSeq (β := Nat) (fun (t0u2 : (Option Addr) × Bool × Sl × Sl) (bb_2 : Nat) => [(13, Value.pointer t0u2.1), (14, Value.pointer (some ⟨bb_2, 0, none⟩))]) (fun (t0u2 : (Option Addr) × Bool × Sl × Sl) (bb_2 : Nat) => [(bb_2, [Value.bool t0u2.2.1, Sl.toV t0u2.2.2.1, Sl.toV t0u2.2.2.2])]) [3, 4, 5, 6, 7] [0, 1, 2] H (by exact rfl) (by exact rfl) (fun t0u2 bb_2 h0u12 H => ?_) (fun J6 H HK6 => ?_)
         ·
          refine AtC.seq ?_
          refine AtC.joinSeq (β := Unit) (fun (t0u3 : Bool) (bb_3 : Unit) => [(102, Value.bool t0u3)]) (fun (t0u3 : Bool) (bb_3 : Unit) => []) [3, 5, 13] [3] H (by exact rfl) (by exact rfl) (fun t0u3 bb_3 h0u24 H => ?_) (fun J10 H HK10 => ?_)
          ·
           refine AtC.condB H rfl (fun H => ?_) (fun H => ?_)
           ·
            refine AtC.seqR ?_
            refine AtL.pures hT 1 _ _ _ _ rfl ?_
            refine AtL.nil ?_
            refine AtE.then_n (AtE.go ?_)
            refine AtC.ret ?_
            refine AtE.then_r ?_
            exact AtE.retN (rs := [.tmp 10]) rfl (ResAll.cons (ResAt.tmp rfl) ResAll.nil) rfl H
           ·
            refine AtC.skip ?_
            refine AtE.then_n (AtE.go ?_)
            refine AtC.seqR ?_
            refine AtL.pures hT 1 _ _ _ _ rfl ?_
            refine AtL.q rfl (Quiet1.loadSP (i := 0) (l := [_, _, _, _]) hT rfl rfl rfl rfl rfl rfl rfl rfl) ?_
            refine AtL.pures hT 1 _ _ _ _ rfl ?_
            refine AtL.e rfl (EffX.call (f := 19) (sh := fun h => linear_Value _ _ _ h _) (H0 := H) rfl Tryd.call19 rfl (hl := fun w m hr hw => lift_linear_Value _ _ _ w m hr _ hw)) ?_
            rintro _ _ ⟨v_26, h0u37, rfl, rfl, H⟩
            refine AtL.pures hT 3 _ _ _ _ rfl ?_
            refine AtL.e rfl (EffX.allocP (cs := [_, _, _]) hT rfl rfl H) ?_
            rintro _ _ ⟨b_7, _, rfl, rfl, _, H⟩
            replace H := H.self
            refine AtL.e rfl (EffX.storeSP (i := 0) (qv := [(_, [_, _, _]), (_, [_, _, _, _])]) hT rfl rfl rfl rfl rfl rfl rfl rfl rfl rfl) ?_
            rintro _ _ rfl
            refine AtL.pures hT 1 _ _ _ _ rfl ?_
            refine AtL.nil ?_
            refine AtE.then_n (AtE.go ?_)
            refine AtC.seq ?_
            refine AtC.joinSeq (β := Unit) (fun (t0u4 : Bool) (bb_4 : Unit) => [(127, Value.bool t0u4)]) (fun (t0u4 : Bool) (bb_4 : Unit) => []) [3, 5, 15, 16] [0, 1] H (by exact rfl) (by exact rfl) (fun t0u4 bb_4 h0u39 H => ?_) (fun J15 H HK15 => ?_)
            ·
             refine AtC.condB H rfl (fun H => ?_) (fun H => ?_)
             ·
              refine AtC.joinSeq (β := Unit) (fun (t0u5 : Bool) (bb_5 : Unit) => [(10, Value.bool t0u5)]) (fun (t0u5 : Bool) (bb_5 : Unit) => []) [] [] H (by exact rfl) (by exact rfl) (fun t0u5 bb_5 h0u40 H => ?_) (fun J18 H HK18 => ?_)
              ·
               refine AtC.ret ?_
               refine AtE.then_r ?_
               exact AtE.retN (rs := [.tmp 10]) rfl (ResAll.cons (ResAt.tmp rfl) ResAll.nil) rfl H
              ·
               refine AtC.region ?_
               refine AtL.pures hT 3 _ _ _ _ rfl ?_
               refine AtL.splitB (t := 130) H rfl (fun H => ?_) (fun H => ?_)
               ·
                refine AtL.yes rfl rfl rfl ?_
                refine AtL.q rfl (Quiet1.loadSP (i := 0) (l := [_, _, _]) hT rfl rfl rfl rfl rfl rfl rfl rfl) ?_
                refine AtL.yes rfl rfl rfl ?_
                refine AtL.q rfl (Quiet1.build (cs := [_, _, _]) hT rfl rfl rfl rfl rfl rfl) ?_
                refine AtL.yes rfl rfl rfl ?_
                refine AtL.e rfl (EffX.call (f := 20) (sh := fun h => ref02uSame _ _ h _) (H0 := H) rfl Tryd.call20 rfl (hl := fun w m hr hw => lift_ref02uSame _ _ w m hr _ hw)) ?_
                rintro _ _ ⟨v_28, h0u41, rfl, rfl, H⟩
                refine AtL.pures hT 2 _ _ _ _ rfl ?_
                refine AtL.nil ?_
                exact AtE.then_n ((HK18 _ () _ H).pickP (ts := [10]) (is := []) rfl rfl (by decide) rfl)
               ·
                refine AtL.noF rfl rfl rfl (by decide) rfl ?_
                refine AtL.noF rfl rfl rfl (by decide) rfl ?_
                refine AtL.noF rfl rfl rfl (by decide) rfl ?_
                refine AtL.pures hT 2 _ _ _ _ rfl ?_
                refine AtL.nil ?_
                exact AtE.then_n ((HK18 _ () _ H).pickP (ts := [10]) (is := []) rfl rfl (by decide) rfl)
             ·
              refine AtC.skip ?_
              refine AtE.then_n (AtE.go ?_)
              refine AtC.joinSeq (β := Unit) (fun (t0u6 : Bool) (bb_6 : Unit) => [(10, Value.bool t0u6)]) (fun (t0u6 : Bool) (bb_6 : Unit) => []) [] [] H (by exact rfl) (by exact rfl) (fun t0u6 bb_6 h0u42 H => ?_) (fun J19 H HK19 => ?_)
              ·
               refine AtC.ret ?_
               exact AtE.retN (rs := [.tmp 10]) rfl (ResAll.cons (ResAt.tmp rfl) ResAll.nil) rfl H
              ·
               rcases iteB.cases H with ⟨hb19, H⟩ | ⟨hb19, H⟩
               ·
                apply AtC.stages [6, 7, 8] [[], [], [], [], [], [], [], [6], [6, 7], [6, 7, 8], [6, 7, 8]] [[], [0], [0, 1], [0, 1, 2], [0, 1, 2], [0, 1, 2], [0, 1, 2, 4, 5], [0, 1, 2, 4, 5, 6], [0, 1, 2, 3, 4, 5, 6, 7], [0, 1, 2, 3, 4, 5, 6, 7, 8], [0, 1, 2, 3, 4, 5, 6, 7, 8, 9]] hmix (by kernel_rfl) [(135, _), (136, _), (137, _), (138, _), (139, _), (140, _)] rfl 3 rfl
                refine Stg.known (t := 137) rfl hb19 ?_
                refine Stg.go [0, 1, 2, 3, 4, 5] [6] rfl rfl (QAll.cons (QOp.p hT rfl rfl rfl rfl rfl) (QAll.cons (QOp.p hT rfl rfl rfl rfl rfl) (QAll.cons (QOp.pk hT rfl rfl rfl rfl hb19 rfl) (QAll.cons (QOp.y rfl rfl rfl rfl (Quiet1.loadSP (i := 0) (l := [_, _, _]) hT rfl rfl rfl rfl rfl rfl rfl rfl) rfl rfl) (QAll.cons (QOp.y rfl rfl rfl rfl (Quiet1.loadSP (i := 1) (l := [_, _, _, _]) hT rfl rfl rfl rfl rfl rfl rfl rfl) rfl rfl) (QAll.cons (QOp.yp hT rfl rfl rfl rfl rfl rfl rfl) QAll.nil)))))) ?_
                refine EAll.cons ?_ EAll.nil
                refine EOp.y rfl rfl rfl rfl rfl (EffX.call (f := 22) (sh := fun h => ref12uValue _ _ h _) (H0 := H) rfl Tryd.call22 rfl (hl := fun w m hr hw => lift_ref12uValue _ _ w m hr _ hw)) ?_
                rintro _ _ ⟨v_29, h0u43, rfl, rfl, H⟩
                apply Stg.next [(141, _)] rfl rfl
                refine Stg.go [3] [7] rfl rfl (QAll.cons (QOp.y rfl rfl rfl rfl (Quiet1.loadSP (i := 0) (l := [_, _, _]) hT rfl rfl rfl rfl rfl rfl rfl rfl) rfl rfl) QAll.nil) ?_
                refine EAll.cons ?_ EAll.nil
                refine EOp.y rfl rfl rfl rfl rfl (EffX.call (f := 21) (sh := fun h => ref02uForm _ h _) (H0 := H) rfl Tryd.call21 rfl (hl := fun w m hr hw => lift_ref02uForm _ w m hr _ hw)) ?_
                rintro _ _ ⟨v_30, h0u44, rfl, rfl, H⟩
                apply Stg.next [(142, _)] rfl rfl
                refine Stg.go [3] [8] rfl rfl (QAll.cons (QOp.y rfl rfl rfl rfl (Quiet1.loadSP (i := 0) (l := [_, _, _]) hT rfl rfl rfl rfl rfl rfl rfl rfl) rfl rfl) QAll.nil) ?_
                refine EAll.cons ?_ EAll.nil
                refine EOp.y rfl rfl rfl rfl rfl (EffX.call (f := 20) (sh := fun h => ref02uSame _ _ h _) (H0 := H) rfl Tryd.call20 rfl (hl := fun w m hr hw => lift_ref02uSame _ _ w m hr _ hw)) ?_
                rintro _ _ ⟨v_31, h0u45, rfl, rfl, H⟩
                apply Stg.next [(143, _), (144, _), (10, _)] rfl rfl
                refine Stg.fin [9, 10] rfl rfl (QAll.cons (QOp.p hT rfl rfl rfl rfl rfl) (QAll.cons (QOp.p hT rfl rfl rfl rfl rfl) QAll.nil)) ?_
                exact AtE.then_n ((HK19 _ () _ H).pickP (ts := [10]) (is := []) rfl rfl (by decide) rfl)
               ·
                apply AtC.stages [6, 7, 8] [[], [], [], [], [], [], [], [6], [6, 7], [6, 7, 8], [6, 7, 8]] [[], [0], [0, 1], [0, 1, 2], [0, 1, 2], [0, 1, 2], [0, 1, 2, 4, 5], [0, 1, 2, 4, 5, 6], [0, 1, 2, 3, 4, 5, 6, 7], [0, 1, 2, 3, 4, 5, 6, 7, 8], [0, 1, 2, 3, 4, 5, 6, 7, 8, 9]] hmix (by kernel_rfl) [(135, _), (136, _), (137, _), (138, _), (139, _), (140, _)] rfl 3 rfl
                refine Stg.known (t := 137) rfl hb19 ?_
                refine Stg.go [0, 1, 2, 3, 4, 5] [6] rfl rfl (QAll.cons (QOp.p hT rfl rfl rfl rfl rfl) (QAll.cons (QOp.p hT rfl rfl rfl rfl rfl) (QAll.cons (QOp.pk hT rfl rfl rfl rfl hb19 rfl) (QAll.cons (QOp.no rfl rfl rfl rfl (by decide) rfl rfl) (QAll.cons (QOp.no rfl rfl rfl rfl (by decide) rfl rfl) (QAll.cons (QOp.no rfl rfl rfl rfl (by decide) rfl rfl) QAll.nil)))))) ?_
                refine EAll.cons ?_ EAll.nil
                refine EOp.no rfl rfl rfl rfl (by decide) rfl ?_
                apply Stg.next [(141, _)] rfl rfl
                refine Stg.go [3] [7] rfl rfl (QAll.cons (QOp.no rfl rfl rfl rfl (by decide) rfl rfl) QAll.nil) ?_
                refine EAll.cons ?_ EAll.nil
                refine EOp.no rfl rfl rfl rfl (by decide) rfl ?_
                apply Stg.next [(142, _)] rfl rfl
                refine Stg.go [3] [8] rfl rfl (QAll.cons (QOp.no rfl rfl rfl rfl (by decide) rfl rfl) QAll.nil) ?_
                refine EAll.cons ?_ EAll.nil
                refine EOp.no rfl rfl rfl rfl (by decide) rfl ?_
                apply Stg.next [(143, _), (144, _), (10, _)] rfl rfl
                refine Stg.fin [9, 10] rfl rfl (QAll.cons (QOp.p hT rfl rfl rfl rfl rfl) (QAll.cons (QOp.p hT rfl rfl rfl rfl rfl) QAll.nil)) ?_
                exact AtE.then_n ((HK19 _ () _ H).pickP (ts := [10]) (is := []) rfl rfl (by decide) rfl)
            ·
             refine AtC.region ?_
             refine AtL.pures hT 1 _ _ _ _ rfl ?_
             refine AtL.q rfl (Quiet1.loadP (i := 1) hT rfl rfl rfl rfl rfl rfl) ?_
             refine AtL.pures hT 3 _ _ _ _ rfl ?_
             refine AtL.splitB (t := 114) H rfl (fun H => ?_) (fun H => ?_)
             ·
              refine AtL.yes rfl rfl rfl ?_
              refine AtL.pures hT 1 _ _ _ _ rfl ?_
              refine AtL.yes rfl rfl rfl ?_
              refine AtL.q rfl (Quiet1.loadP (i := 1) hT rfl rfl rfl rfl rfl rfl) ?_
              refine AtL.yes rfl rfl rfl ?_
              refine AtL.pures hT 1 _ _ _ _ rfl ?_
              refine AtL.yes rfl rfl rfl ?_
              refine AtL.q rfl (Quiet1.loadP (i := 1) hT rfl rfl rfl rfl rfl rfl) ?_
              refine AtL.yes rfl rfl rfl ?_
              refine AtL.pures hT 1 _ _ _ _ rfl ?_
              refine AtL.yes rfl rfl rfl ?_
              refine AtL.pures hT 1 _ _ _ _ rfl ?_
              refine AtL.yes rfl rfl rfl ?_
              obtain ⟨a_3_, hc15, hd15, H⟩ := H
              refine AtL.q rfl (Quiet1.idxS (s := _) hT rfl rfl rfl rfl rfl hc15 hd15) ?_
              refine AtL.yes rfl rfl rfl ?_
              refine AtL.pures hT 1 _ _ _ _ rfl ?_
              refine AtL.yes rfl rfl rfl ?_
              obtain ⟨v_27, hc16, H⟩ := H
              refine AtL.q rfl (Quiet1.load hT rfl rfl rfl hc16) ?_
              refine AtL.yes rfl rfl rfl ?_
              refine AtL.pures hT 1 _ _ _ _ rfl ?_
              refine AtL.yes rfl rfl rfl ?_
              refine AtL.pures hT 1 _ _ _ _ rfl ?_
              refine AtL.yes rfl rfl rfl ?_
              refine AtL.pures hT 1 _ _ _ _ rfl ?_
              refine AtL.pures hT 1 _ _ _ _ rfl ?_
              refine AtL.nil ?_
              exact AtE.then_n ((HK15 _ () _ H).pickP (ts := [127, 3, 5, 15, 16]) (is := [0, 1]) rfl rfl (by decide) rfl)
             ·
              refine AtL.noF rfl rfl rfl (by decide) rfl ?_
              refine AtL.noF rfl rfl rfl (by decide) rfl ?_
              refine AtL.noF rfl rfl rfl (by decide) rfl ?_
              refine AtL.noF rfl rfl rfl (by decide) rfl ?_
              refine AtL.noF rfl rfl rfl (by decide) rfl ?_
              refine AtL.noF rfl rfl rfl (by decide) rfl ?_
              refine AtL.noF rfl rfl rfl (by decide) rfl ?_
              refine AtL.noF rfl rfl rfl (by decide) rfl ?_
              refine AtL.noF rfl rfl rfl (by decide) rfl ?_
              refine AtL.noF rfl rfl rfl (by decide) rfl ?_
              refine AtL.noF rfl rfl rfl (by decide) rfl ?_
              refine AtL.noF rfl rfl rfl (by decide) rfl ?_
              refine AtL.pures hT 1 _ _ _ _ rfl ?_
              refine AtL.nil ?_
              exact AtE.then_n ((HK15 _ () _ H).pickP (ts := [127, 3, 5, 15, 16]) (is := [0, 1]) rfl rfl (by decide) rfl)
          ·
           apply AtC.stages [4, 8, 9, 15, 19, 20, 26, 29, 37, 39, 41, 43] [[], [], [], [], [], [], [], [], [4], [4, 8], [4, 8, 9], [4, 8, 9], [4, 8, 9], [4, 8, 9], [4, 8, 9], [4, 8, 9], [4, 8, 9], [4, 8, 9], [4, 8, 9], [4, 8, 9, 15], [4, 8, 9, 15, 19], [4, 8, 9, 15, 19, 20], [4, 8, 9, 15, 19, 20], [4, 8, 9, 15, 19, 20], [4, 8, 9, 15, 19, 20], [4, 8, 9, 15, 19, 20], [4, 8, 9, 15, 19, 20], [4, 8, 9, 15, 19, 20], [4, 8, 9, 15, 19, 20], [4, 8, 9, 15, 19, 20, 26], [4, 8, 9, 15, 19, 20, 26, 29], [4, 8, 9, 15, 19, 20, 26, 29], [4, 8, 9, 15, 19, 20, 26, 29], [4, 8, 9, 15, 19, 20, 26, 29], [4, 8, 9, 15, 19, 20, 26, 29], [4, 8, 9, 15, 19, 20, 26, 29], [4, 8, 9, 15, 19, 20, 26, 29], [4, 8, 9, 15, 19, 20, 26, 29], [4, 8, 9, 15, 19, 20, 26, 29], [4, 8, 9, 15, 19, 20, 26, 29, 37], [4, 8, 9, 15, 19, 20, 26, 29, 37, 39], [4, 8, 9, 15, 19, 20, 26, 29, 37, 39], [4, 8, 9, 15, 19, 20, 26, 29, 37, 39, 41], [4, 8, 9, 15, 19, 20, 26, 29, 37, 39, 41], [4, 8, 9, 15, 19, 20, 26, 29, 37, 39, 41, 43], [4, 8, 9, 15, 19, 20, 26, 29, 37, 39, 41, 43], [4, 8, 9, 15, 19, 20, 26, 29, 37, 39, 41, 43]] [[], [], [], [], [0, 1, 2, 3], [], [], [], [0, 1, 2, 3, 4, 5, 6, 7], [0, 1, 2, 3, 4, 5, 6, 7, 8], [0, 1, 2, 3, 4, 5, 6, 7, 8, 9], [0, 1, 2, 3, 4, 5, 6, 7, 8, 9, 10], [0, 1, 2, 3, 4, 5, 6, 7, 8, 9, 10, 11], [0, 1, 2, 3, 4, 5, 6, 7, 8, 9, 10, 11], [0, 1, 2, 3, 4, 5, 6, 7, 8, 9, 10, 11], [0, 1, 2, 3, 4, 5, 6, 7, 8, 9, 10, 11, 12, 13, 14], [0, 1, 2, 3, 4, 5, 6, 7, 8, 9, 10, 11], [0, 1, 2, 3, 4, 5, 6, 7, 8, 9, 10, 11], [0, 1, 2, 3, 4, 5, 6, 7, 8, 9, 10, 11], [0, 1, 2, 3, 4, 5, 6, 7, 8, 9, 10, 11, 12, 13, 14, 15, 16, 17, 18], [0, 1, 2, 3, 4, 5, 6, 7, 8, 9, 10, 11, 12, 13, 14, 15, 16, 17, 18, 19], [0, 1, 2, 3, 4, 5, 6, 7, 8, 9, 10, 11, 12, 13, 14, 15, 16, 17, 18, 19, 20], [0, 1, 2, 3, 4, 5, 6, 7, 8, 9, 10, 11, 12, 13, 14, 15, 16, 17, 18, 19, 20, 21], [0, 1, 2, 3, 4, 5, 6, 7, 8, 9, 10, 11, 12, 13, 14, 15, 16, 17, 18, 19, 20, 21, 22], [0, 1, 2, 3, 4, 5, 6, 7, 8, 9, 10, 11, 12, 13, 14, 15, 16, 17, 18, 19, 20, 21, 22, 23], [0, 1, 2, 3, 4, 5, 6, 7, 8, 9, 10, 11, 12, 13, 14, 15, 16, 17, 18, 19, 20, 21, 22, 23], [0, 1, 2, 3, 4, 5, 6, 7, 8, 9, 10, 11, 12, 13, 14, 15, 16, 17, 18, 19, 20, 21, 22, 23, 24, 25], [0, 1, 2, 3, 4, 5, 6, 7, 8, 9, 10, 11, 12, 13, 14, 15, 16, 17, 18, 19, 20, 21, 22, 23], [0, 1, 2, 3, 4, 5, 6, 7, 8, 9, 10, 11, 12, 13, 14, 15, 16, 17, 18, 19, 20, 21, 22, 23], [0, 1, 2, 3, 4, 5, 6, 7, 8, 9, 10, 11, 12, 13, 14, 15, 16, 17, 18, 19, 20, 21, 22, 23, 24, 25, 26, 27, 28], [0, 1, 2, 3, 4, 5, 6, 7, 8, 9, 10, 11, 12, 13, 14, 15, 16, 17, 18, 19, 20, 21, 22, 23, 24, 25, 26, 27, 28, 29], [0, 1, 2, 3, 4, 5, 6, 7, 8, 9, 10, 11, 12, 13, 14, 15, 16, 17, 18, 19, 20, 21, 22, 23, 24, 25, 26, 27, 28, 29, 30], [0, 1, 2, 3, 4, 5, 6, 7, 8, 9, 10, 11, 12, 13, 14, 15, 16, 17, 18, 19, 20, 21, 22, 23, 24, 25, 26, 27, 28, 29, 30, 31], [0, 1, 2, 3, 4, 5, 6, 7, 8, 9, 10, 11, 12, 13, 14, 15, 16, 17, 18, 19, 20, 21, 22, 23, 24, 25, 26, 27, 28, 29, 30, 31, 32], [0, 1, 2, 3, 4, 5, 6, 7, 8, 9, 10, 11, 12, 13, 14, 15, 16, 17, 18, 19, 20, 21, 22, 23, 24, 25, 26, 27, 28, 29, 30, 31, 32, 33], [0, 1, 2, 3, 4, 5, 6, 7, 8, 9, 10, 11, 12, 13, 14, 15, 16, 17, 18, 19, 20, 21, 22, 23, 24, 25, 26, 27, 28, 29, 30, 31, 32, 33, 34], [0, 1, 2, 3, 4, 5, 6, 7, 8, 9, 10, 11, 12, 13, 14, 15, 16, 17, 18, 19, 20, 21, 22, 23, 24, 25, 26, 27, 28, 29, 30, 31, 32, 33, 34, 35], [0, 1, 2, 3, 4, 5, 6, 7, 8, 9, 10, 11, 12, 13, 14, 15, 16, 17, 18, 19, 20, 21, 22, 23, 24, 25, 26, 27, 28, 29, 30, 31, 32, 33, 34, 35, 36], [0, 1, 2, 3, 4, 5, 6, 7, 8, 9, 10, 11, 12, 13, 14, 15, 16, 17, 18, 19, 20, 21, 22, 23, 24, 25, 26, 27, 28, 29, 30, 31, 32, 33, 34, 35], [0, 1, 2, 3, 4, 5, 6, 7, 8, 9, 10, 11, 12, 13, 14, 15, 16, 17, 18, 19, 20, 21, 22, 23, 24, 25, 26, 27, 28, 29, 30, 31, 32, 33, 34, 35, 36, 37], [0, 1, 2, 3, 4, 5, 6, 7, 8, 9, 10, 11, 12, 13, 14, 15, 16, 17, 18, 19, 20, 21, 22, 23, 24, 25, 26, 27, 28, 29, 30, 31, 32, 33, 34, 35, 36, 37, 38, 39], [0, 1, 2, 3, 4, 5, 6, 7, 8, 9, 10, 11, 12, 13, 14, 15, 16, 17, 18, 19, 20, 21, 22, 23, 24, 25, 26, 27, 28, 29, 30, 31, 32, 33, 34, 35, 36, 37, 38, 39, 40], [0, 1, 2, 3, 4, 5, 6, 7, 8, 9, 10, 11, 12, 13, 14, 15, 16, 17, 18, 19, 20, 21, 22, 23, 24, 25, 26, 27, 28, 29, 30, 31, 32, 33, 34, 35, 36, 37, 38, 39, 40, 41], [0, 1, 2, 3, 4, 5, 6, 7, 8, 9, 10, 11, 12, 13, 14, 15, 16, 17, 18, 19, 20, 21, 22, 23, 24, 25, 26, 27, 28, 29, 30, 31, 32, 33, 34, 35, 36, 37, 38, 39, 40, 41, 42], [0, 1, 2, 3, 4, 5, 6, 7, 8, 9, 10, 11, 12, 13, 14, 15, 16, 17, 18, 19, 20, 21, 22, 23, 24, 25, 26, 27, 28, 29, 30, 31, 32, 33, 34, 35, 36, 37, 38, 39, 40, 41, 42, 43], [0, 1, 2, 3, 4, 5, 6, 7, 8, 9, 10, 11, 12, 13, 14, 15, 16, 17, 18, 19, 20, 21, 22, 23, 24, 25, 26, 27, 28, 29, 30, 31, 32, 33, 34, 35, 36, 37, 38, 39, 40, 41, 42, 43, 44], [0, 1, 2, 3, 4, 5, 6, 7, 8, 9, 10, 11, 12, 13, 14, 15, 16, 17, 18, 19, 20, 21, 22, 23, 24, 25, 26, 27, 28, 29, 30, 31, 32, 33, 34, 35, 36, 37, 38, 39, 40, 41, 42, 43, 44, 45]] hmix (by kernel_rfl) [(56, _), (57, _), (58, _), (59, _), (61, _), (62, _), (63, _)] rfl 12 rfl
           refine Stg.go [0, 1, 2, 3, 5, 6, 7] [4] rfl rfl (QAll.cons (QOp.p hT rfl rfl rfl rfl rfl) (QAll.cons (QOp.q rfl rfl (Quiet1.loadSP (i := 3) (l := [_, _, _, _]) hT rfl rfl rfl rfl rfl rfl rfl rfl) rfl rfl) (QAll.cons (QOp.q rfl rfl (Quiet1.loadSP (i := 1) (l := [_, _, _]) hT rfl rfl rfl rfl rfl rfl rfl rfl) rfl rfl) (QAll.cons (QOp.q rfl rfl (Quiet1.loadSP (i := 2) (l := [_, _, _, _]) hT rfl rfl rfl rfl rfl rfl rfl rfl) rfl rfl) (QAll.cons (QOp.q rfl rfl (Quiet1.loadSP (i := 3) (l := [_, _, _, _]) hT rfl rfl rfl rfl rfl rfl rfl rfl) rfl rfl) (QAll.cons (QOp.q rfl rfl (Quiet1.loadSP (i := 0) (l := [_, _, _]) hT rfl rfl rfl rfl rfl rfl rfl rfl) rfl rfl) (QAll.cons (QOp.q rfl rfl (Quiet1.loadSP (i := 2) (l := [_, _, _, _]) hT rfl rfl rfl rfl rfl rfl rfl rfl) rfl rfl) QAll.nil))))))) ?_
           refine EAll.cons ?_ EAll.nil
           refine EOp.e rfl rfl rfl (EffX.call (f := 13) (sh := fun h => linear_Add _ _ _ _ h _) (H0 := H) rfl Tryd.call13 rfl (hl := fun w m hr hw => lift_linear_Add _ _ _ _ w m hr _ hw)) ?_
           rintro _ _ ⟨v_14, h0u25, rfl, rfl, H⟩
           apply Stg.next [(60, _)] rfl rfl
           refine Stg.go [5, 6, 7] [8] rfl rfl (QAll.cons (QOp.q rfl rfl (Quiet1.loadSP (i := 3) (l := [_, _, _, _]) hT rfl rfl rfl rfl rfl rfl rfl rfl) rfl rfl) (QAll.cons (QOp.q rfl rfl (Quiet1.loadSP (i := 0) (l := [_, _, _]) hT rfl rfl rfl rfl rfl rfl rfl rfl) rfl rfl) (QAll.cons (QOp.q rfl rfl (Quiet1.loadSP (i := 2) (l := [_, _, _, _]) hT rfl rfl rfl rfl rfl rfl rfl rfl) rfl rfl) QAll.nil))) ?_
           refine EAll.cons ?_ EAll.nil
           refine EOp.e rfl rfl rfl (EffX.call (f := 14) (sh := fun h => ref12uAdd _ _ _ h _) (H0 := H) rfl Tryd.call14 rfl (hl := fun w m hr hw => lift_ref12uAdd _ _ _ w m hr _ hw)) ?_
           rintro _ _ ⟨v_15, h0u26, rfl, rfl, H⟩
           apply Stg.next [(64, _)] rfl rfl
           refine Stg.go [] [9] rfl rfl QAll.nil ?_
           refine EAll.cons ?_ EAll.nil
           refine EOp.e rfl rfl rfl (EffX.call (f := 12) (sh := fun h => ref12uSame _ _ h _) (H0 := H) rfl Tryd.call12 rfl (hl := fun w m hr hw => lift_ref12uSame _ _ w m hr _ hw)) ?_
           rintro _ _ ⟨v_16, h0u27, rfl, rfl, H⟩
           rcases iteB.cases H with ⟨hb10, H⟩ | ⟨hb10, H⟩
           ·
            apply Stg.next [(65, _), (66, _), (67, _), (68, _), (69, _), (70, _), (72, _), (73, _), (74, _)] rfl rfl
            refine Stg.known (t := 67) rfl hb10 ?_
            refine Stg.go [10, 11, 12, 13, 14, 16, 17, 18] [15] rfl rfl (QAll.cons (QOp.p hT rfl rfl rfl rfl rfl) (QAll.cons (QOp.pk hT rfl rfl rfl rfl hb10 rfl) (QAll.cons (QOp.no rfl rfl rfl rfl (by decide) rfl rfl) (QAll.cons (QOp.no rfl rfl rfl rfl (by decide) rfl rfl) (QAll.cons (QOp.no rfl rfl rfl rfl (by decide) rfl rfl) (QAll.cons (QOp.no rfl rfl rfl rfl (by decide) rfl rfl) (QAll.cons (QOp.no rfl rfl rfl rfl (by decide) rfl rfl) (QAll.cons (QOp.no rfl rfl rfl rfl (by decide) rfl rfl) QAll.nil)))))))) ?_
            refine EAll.cons ?_ EAll.nil
            refine EOp.no rfl rfl rfl rfl (by decide) rfl ?_
            apply Stg.next [(71, _)] rfl rfl
            refine Stg.go [16, 17, 18] [19] rfl rfl (QAll.cons (QOp.no rfl rfl rfl rfl (by decide) rfl rfl) (QAll.cons (QOp.no rfl rfl rfl rfl (by decide) rfl rfl) (QAll.cons (QOp.no rfl rfl rfl rfl (by decide) rfl rfl) QAll.nil))) ?_
            refine EAll.cons ?_ EAll.nil
            refine EOp.no rfl rfl rfl rfl (by decide) rfl ?_
            apply Stg.next [(75, _)] rfl rfl
            refine Stg.go [] [20] rfl rfl QAll.nil ?_
            refine EAll.cons ?_ EAll.nil
            refine EOp.no rfl rfl rfl rfl (by decide) rfl ?_
            apply Stg.next [(76, _), (77, _), (78, _), (79, _), (80, _), (81, _), (83, _), (84, _)] rfl rfl
            refine Stg.go [21, 22, 23, 24, 25, 27, 28] [26] rfl rfl (QAll.cons (QOp.no rfl rfl rfl rfl (by decide) rfl rfl) (QAll.cons (QOp.p hT rfl rfl rfl rfl rfl) (QAll.cons (QOp.p hT rfl rfl rfl rfl rfl) (QAll.cons (QOp.no rfl rfl rfl rfl (by decide) rfl rfl) (QAll.cons (QOp.no rfl rfl rfl rfl (by decide) rfl rfl) (QAll.cons (QOp.no rfl rfl rfl rfl (by decide) rfl rfl) (QAll.cons (QOp.no rfl rfl rfl rfl (by decide) rfl rfl) QAll.nil))))))) ?_
            refine EAll.cons ?_ EAll.nil
            refine EOp.no rfl rfl rfl rfl (by decide) rfl ?_
            apply Stg.next [(82, _)] rfl rfl
            refine Stg.go [27, 28] [29] rfl rfl (QAll.cons (QOp.no rfl rfl rfl rfl (by decide) rfl rfl) (QAll.cons (QOp.no rfl rfl rfl rfl (by decide) rfl rfl) QAll.nil)) ?_
            refine EAll.cons ?_ EAll.nil
            refine EOp.no rfl rfl rfl rfl (by decide) rfl ?_
            apply Stg.next [(85, _), (86, _), (87, _), (88, _), (89, _), (90, _), (91, _), (92, _), (94, _)] rfl rfl
            refine Stg.go [30, 31, 32, 33, 34, 35, 36, 38] [37] rfl rfl (QAll.cons (QOp.no rfl rfl rfl rfl (by decide) rfl rfl) (QAll.cons (QOp.p hT rfl rfl rfl rfl rfl) (QAll.cons (QOp.p hT rfl rfl rfl rfl rfl) (QAll.cons (QOp.no rfl rfl rfl rfl (by decide) rfl rfl) (QAll.cons (QOp.no rfl rfl rfl rfl (by decide) rfl rfl) (QAll.cons (QOp.no rfl rfl rfl rfl (by decide) rfl rfl) (QAll.cons (QOp.u rfl rfl rfl rfl rfl rfl) (QAll.cons (QOp.u rfl rfl rfl rfl rfl rfl) QAll.nil)))))))) ?_
            refine EAll.cons ?_ EAll.nil
            refine EOp.u rfl rfl rfl rfl rfl ?_
            apply Stg.next [(93, _)] rfl rfl
            refine Stg.go [38] [39] rfl rfl (QAll.cons (QOp.u rfl rfl rfl rfl rfl rfl) QAll.nil) ?_
            refine EAll.cons ?_ EAll.nil
            refine EOp.u rfl rfl rfl rfl rfl ?_
            apply Stg.next [(95, _), (96, _)] rfl rfl
            refine Stg.go [38, 40] [41] rfl rfl (QAll.cons (QOp.u rfl rfl rfl rfl rfl rfl) (QAll.cons (QOp.u rfl rfl rfl rfl rfl rfl) QAll.nil)) ?_
            refine EAll.cons ?_ EAll.nil
            refine EOp.u rfl rfl rfl rfl rfl ?_
            apply Stg.next [(97, _), (98, _)] rfl rfl
            refine Stg.go [42] [43] rfl rfl (QAll.cons (QOp.u rfl rfl rfl rfl rfl rfl) QAll.nil) ?_
            refine EAll.cons ?_ EAll.nil
            refine EOp.u rfl rfl rfl rfl rfl ?_
            apply Stg.next [(99, _), (100, _), (101, _), (102, _)] rfl rfl
            refine Stg.fin [44, 45, 46] rfl rfl (QAll.cons (QOp.u rfl rfl rfl rfl rfl rfl) (QAll.cons (QOp.no rfl rfl rfl rfl (by decide) rfl rfl) (QAll.cons (QOp.p hT rfl rfl rfl rfl rfl) QAll.nil))) ?_
            exact AtE.then_n ((HK10 _ () _ H).pickP (ts := [102, 3, 5, 13]) (is := [3]) rfl rfl (by decide) rfl)
           ·
            apply Stg.next [(65, _), (66, _), (67, _), (68, _), (69, _), (70, _), (72, _), (73, _), (74, _)] rfl rfl
            refine Stg.known (t := 67) rfl hb10 ?_
            refine Stg.go [10, 11, 12, 13, 14, 16, 17, 18] [15] rfl rfl (QAll.cons (QOp.p hT rfl rfl rfl rfl rfl) (QAll.cons (QOp.pk hT rfl rfl rfl rfl hb10 rfl) (QAll.cons (QOp.yp hT rfl rfl rfl rfl rfl rfl rfl) (QAll.cons (QOp.y rfl rfl rfl rfl (Quiet1.loadSP (i := 1) (l := [_, _, _]) hT rfl rfl rfl rfl rfl rfl rfl rfl) rfl rfl) (QAll.cons (QOp.y rfl rfl rfl rfl (Quiet1.loadSP (i := 3) (l := [_, _, _, _]) hT rfl rfl rfl rfl rfl rfl rfl rfl) rfl rfl) (QAll.cons (QOp.y rfl rfl rfl rfl (Quiet1.build (cs := [_, _, _, _]) hT rfl rfl rfl rfl rfl rfl) rfl rfl) (QAll.cons (QOp.y rfl rfl rfl rfl (Quiet1.loadSP (i := 0) (l := [_, _, _]) hT rfl rfl rfl rfl rfl rfl rfl rfl) rfl rfl) (QAll.cons (QOp.y rfl rfl rfl rfl (Quiet1.loadSP (i := 3) (l := [_, _, _, _]) hT rfl rfl rfl rfl rfl rfl rfl rfl) rfl rfl) QAll.nil)))))))) ?_
            refine EAll.cons ?_ EAll.nil
            refine EOp.y rfl rfl rfl rfl rfl (EffX.call (f := 15) (sh := fun h => linear_Scale _ _ _ h _) (H0 := H) rfl Tryd.call15 rfl (hl := fun w m hr hw => lift_linear_Scale _ _ _ w m hr _ hw)) ?_
            rintro _ _ ⟨v_17, h0u28, rfl, rfl, H⟩
            apply Stg.next [(71, _)] rfl rfl
            refine Stg.go [16, 17, 18] [19] rfl rfl (QAll.cons (QOp.y rfl rfl rfl rfl (Quiet1.build (cs := [_, _, _, _]) hT rfl rfl rfl rfl rfl rfl) rfl rfl) (QAll.cons (QOp.y rfl rfl rfl rfl (Quiet1.loadSP (i := 0) (l := [_, _, _]) hT rfl rfl rfl rfl rfl rfl rfl rfl) rfl rfl) (QAll.cons (QOp.y rfl rfl rfl rfl (Quiet1.loadSP (i := 3) (l := [_, _, _, _]) hT rfl rfl rfl rfl rfl rfl rfl rfl) rfl rfl) QAll.nil))) ?_
            refine EAll.cons ?_ EAll.nil
            refine EOp.y rfl rfl rfl rfl rfl (EffX.call (f := 14) (sh := fun h => ref12uAdd _ _ _ h _) (H0 := H) rfl Tryd.call14 rfl (hl := fun w m hr hw => lift_ref12uAdd _ _ _ w m hr _ hw)) ?_
            rintro _ _ ⟨v_18, h0u29, rfl, rfl, H⟩
            apply Stg.next [(75, _)] rfl rfl
            refine Stg.go [] [20] rfl rfl QAll.nil ?_
            refine EAll.cons ?_ EAll.nil
            refine EOp.y rfl rfl rfl rfl rfl (EffX.call (f := 12) (sh := fun h => ref12uSame _ _ h _) (H0 := H) rfl Tryd.call12 rfl (hl := fun w m hr hw => lift_ref12uSame _ _ w m hr _ hw)) ?_
            rintro _ _ ⟨v_19, h0u30, rfl, rfl, H⟩
            rcases iteB.cases H with ⟨hb11, H⟩ | ⟨hb11, H⟩
            ·
             apply Stg.next [(76, _), (77, _), (78, _), (79, _), (80, _), (81, _), (83, _), (84, _)] rfl rfl
             refine Stg.known (t := 79) rfl hb11 ?_
             refine Stg.go [21, 22, 23, 24, 25, 27, 28] [26] rfl rfl (QAll.cons (QOp.yp hT rfl rfl rfl rfl rfl rfl rfl) (QAll.cons (QOp.p hT rfl rfl rfl rfl rfl) (QAll.cons (QOp.pk hT rfl rfl rfl rfl hb11 rfl) (QAll.cons (QOp.no rfl rfl rfl rfl (by decide) rfl rfl) (QAll.cons (QOp.no rfl rfl rfl rfl (by decide) rfl rfl) (QAll.cons (QOp.no rfl rfl rfl rfl (by decide) rfl rfl) (QAll.cons (QOp.no rfl rfl rfl rfl (by decide) rfl rfl) QAll.nil))))))) ?_
             refine EAll.cons ?_ EAll.nil
             refine EOp.no rfl rfl rfl rfl (by decide) rfl ?_
             apply Stg.next [(82, _)] rfl rfl
             refine Stg.go [27, 28] [29] rfl rfl (QAll.cons (QOp.no rfl rfl rfl rfl (by decide) rfl rfl) (QAll.cons (QOp.no rfl rfl rfl rfl (by decide) rfl rfl) QAll.nil)) ?_
             refine EAll.cons ?_ EAll.nil
             refine EOp.no rfl rfl rfl rfl (by decide) rfl ?_
             apply Stg.next [(85, _), (86, _), (87, _), (88, _), (89, _), (90, _), (91, _), (92, _), (94, _)] rfl rfl
             refine Stg.go [30, 31, 32, 33, 34, 35, 36, 38] [37] rfl rfl (QAll.cons (QOp.no rfl rfl rfl rfl (by decide) rfl rfl) (QAll.cons (QOp.p hT rfl rfl rfl rfl rfl) (QAll.cons (QOp.p hT rfl rfl rfl rfl rfl) (QAll.cons (QOp.no rfl rfl rfl rfl (by decide) rfl rfl) (QAll.cons (QOp.no rfl rfl rfl rfl (by decide) rfl rfl) (QAll.cons (QOp.no rfl rfl rfl rfl (by decide) rfl rfl) (QAll.cons (QOp.u rfl rfl rfl rfl rfl rfl) (QAll.cons (QOp.u rfl rfl rfl rfl rfl rfl) QAll.nil)))))))) ?_
             refine EAll.cons ?_ EAll.nil
             refine EOp.u rfl rfl rfl rfl rfl ?_
             apply Stg.next [(93, _)] rfl rfl
             refine Stg.go [38] [39] rfl rfl (QAll.cons (QOp.u rfl rfl rfl rfl rfl rfl) QAll.nil) ?_
             refine EAll.cons ?_ EAll.nil
             refine EOp.u rfl rfl rfl rfl rfl ?_
             apply Stg.next [(95, _), (96, _)] rfl rfl
             refine Stg.go [38, 40] [41] rfl rfl (QAll.cons (QOp.u rfl rfl rfl rfl rfl rfl) (QAll.cons (QOp.u rfl rfl rfl rfl rfl rfl) QAll.nil)) ?_
             refine EAll.cons ?_ EAll.nil
             refine EOp.u rfl rfl rfl rfl rfl ?_
             apply Stg.next [(97, _), (98, _)] rfl rfl
             refine Stg.go [42] [43] rfl rfl (QAll.cons (QOp.u rfl rfl rfl rfl rfl rfl) QAll.nil) ?_
             refine EAll.cons ?_ EAll.nil
             refine EOp.u rfl rfl rfl rfl rfl ?_
             apply Stg.next [(99, _), (100, _), (101, _), (102, _)] rfl rfl
             refine Stg.fin [44, 45, 46] rfl rfl (QAll.cons (QOp.u rfl rfl rfl rfl rfl rfl) (QAll.cons (QOp.no rfl rfl rfl rfl (by decide) rfl rfl) (QAll.cons (QOp.p hT rfl rfl rfl rfl rfl) QAll.nil))) ?_
             exact AtE.then_n ((HK10 _ () _ H).pickP (ts := [102, 3, 5, 13]) (is := [3]) rfl rfl (by decide) rfl)
            ·
             apply Stg.next [(76, _), (77, _), (78, _), (79, _), (80, _), (81, _), (83, _), (84, _)] rfl rfl
             refine Stg.known (t := 79) rfl hb11 ?_
             refine Stg.go [21, 22, 23, 24, 25, 27, 28] [26] rfl rfl (QAll.cons (QOp.yp hT rfl rfl rfl rfl rfl rfl rfl) (QAll.cons (QOp.p hT rfl rfl rfl rfl rfl) (QAll.cons (QOp.pk hT rfl rfl rfl rfl hb11 rfl) (QAll.cons (QOp.y rfl rfl rfl rfl (Quiet1.loadSP (i := 3) (l := [_, _, _, _]) hT rfl rfl rfl rfl rfl rfl rfl rfl) rfl rfl) (QAll.cons (QOp.y rfl rfl rfl rfl (Quiet1.loadSP (i := 2) (l := [_, _, _, _]) hT rfl rfl rfl rfl rfl rfl rfl rfl) rfl rfl) (QAll.cons (QOp.y rfl rfl rfl rfl (Quiet1.loadSP (i := 3) (l := [_, _, _, _]) hT rfl rfl rfl rfl rfl rfl rfl rfl) rfl rfl) (QAll.cons (QOp.y rfl rfl rfl rfl (Quiet1.loadSP (i := 2) (l := [_, _, _, _]) hT rfl rfl rfl rfl rfl rfl rfl rfl) rfl rfl) QAll.nil))))))) ?_
             refine EAll.cons ?_ EAll.nil
             refine EOp.y rfl rfl rfl rfl rfl (EffX.call (f := 16) (sh := fun h => linear_Same _ _ h _) (H0 := H) rfl Tryd.call16 rfl (hl := fun w m hr hw => lift_linear_Same _ _ w m hr _ hw)) ?_
             rintro _ _ ⟨v_20, h0u31, rfl, rfl, H⟩
             apply Stg.next [(82, _)] rfl rfl
             refine Stg.go [27, 28] [29] rfl rfl (QAll.cons (QOp.y rfl rfl rfl rfl (Quiet1.loadSP (i := 3) (l := [_, _, _, _]) hT rfl rfl rfl rfl rfl rfl rfl rfl) rfl rfl) (QAll.cons (QOp.y rfl rfl rfl rfl (Quiet1.loadSP (i := 2) (l := [_, _, _, _]) hT rfl rfl rfl rfl rfl rfl rfl rfl) rfl rfl) QAll.nil)) ?_
             refine EAll.cons ?_ EAll.nil
             refine EOp.y rfl rfl rfl rfl rfl (EffX.call (f := 12) (sh := fun h => ref12uSame _ _ h _) (H0 := H) rfl Tryd.call12 rfl (hl := fun w m hr hw => lift_ref12uSame _ _ w m hr _ hw)) ?_
             rintro _ _ ⟨v_21, h0u32, rfl, rfl, H⟩
             rcases iteB.cases H with ⟨hb12, H⟩ | ⟨hb12, H⟩
             ·
              apply Stg.next [(85, _), (86, _), (87, _), (88, _), (89, _), (90, _), (91, _), (92, _), (94, _)] rfl rfl
              refine Stg.known (t := 88) rfl hb12 ?_
              refine Stg.go [30, 31, 32, 33, 34, 35, 36, 38] [37] rfl rfl (QAll.cons (QOp.yp hT rfl rfl rfl rfl rfl rfl rfl) (QAll.cons (QOp.p hT rfl rfl rfl rfl rfl) (QAll.cons (QOp.pk hT rfl rfl rfl rfl hb12 rfl) (QAll.cons (QOp.no rfl rfl rfl rfl (by decide) rfl rfl) (QAll.cons (QOp.no rfl rfl rfl rfl (by decide) rfl rfl) (QAll.cons (QOp.no rfl rfl rfl rfl (by decide) rfl rfl) (QAll.cons (QOp.u rfl rfl rfl rfl rfl rfl) (QAll.cons (QOp.u rfl rfl rfl rfl rfl rfl) QAll.nil)))))))) ?_
              refine EAll.cons ?_ EAll.nil
              refine EOp.u rfl rfl rfl rfl rfl ?_
              apply Stg.next [(93, _)] rfl rfl
              refine Stg.go [38] [39] rfl rfl (QAll.cons (QOp.u rfl rfl rfl rfl rfl rfl) QAll.nil) ?_
              refine EAll.cons ?_ EAll.nil
              refine EOp.u rfl rfl rfl rfl rfl ?_
              apply Stg.next [(95, _), (96, _)] rfl rfl
              refine Stg.go [38, 40] [41] rfl rfl (QAll.cons (QOp.u rfl rfl rfl rfl rfl rfl) (QAll.cons (QOp.u rfl rfl rfl rfl rfl rfl) QAll.nil)) ?_
              refine EAll.cons ?_ EAll.nil
              refine EOp.u rfl rfl rfl rfl rfl ?_
              apply Stg.next [(97, _), (98, _)] rfl rfl
              refine Stg.go [42] [43] rfl rfl (QAll.cons (QOp.u rfl rfl rfl rfl rfl rfl) QAll.nil) ?_
              refine EAll.cons ?_ EAll.nil
              refine EOp.u rfl rfl rfl rfl rfl ?_
              apply Stg.next [(99, _), (100, _), (101, _), (102, _)] rfl rfl
              refine Stg.fin [44, 45, 46] rfl rfl (QAll.cons (QOp.u rfl rfl rfl rfl rfl rfl) (QAll.cons (QOp.no rfl rfl rfl rfl (by decide) rfl rfl) (QAll.cons (QOp.p hT rfl rfl rfl rfl rfl) QAll.nil))) ?_
              exact AtE.then_n ((HK10 _ () _ H).pickP (ts := [102, 3, 5, 13]) (is := [3]) rfl rfl (by decide) rfl)
             ·
              rcases iteB.cases H with ⟨hb13, H⟩ | ⟨hb13, H⟩
              ·
               apply Stg.next [(85, _), (86, _), (87, _), (88, _), (89, _), (90, _), (91, _), (92, _), (94, _)] rfl rfl
               refine Stg.known (t := 88) rfl hb12 ?_
               refine Stg.known (t := 91) rfl hb13 ?_
               refine Stg.go [30, 31, 32, 33, 34, 35, 36, 38] [37] rfl rfl (QAll.cons (QOp.yp hT rfl rfl rfl rfl rfl rfl rfl) (QAll.cons (QOp.p hT rfl rfl rfl rfl rfl) (QAll.cons (QOp.pk hT rfl rfl rfl rfl hb12 rfl) (QAll.cons (QOp.yp hT rfl rfl rfl rfl rfl rfl rfl) (QAll.cons (QOp.yp hT rfl rfl rfl rfl rfl rfl rfl) (QAll.cons (QOp.ypk hT rfl rfl rfl rfl rfl rfl hb13 rfl) (QAll.cons (QOp.yp hT rfl rfl rfl rfl rfl rfl rfl) (QAll.cons (QOp.yp hT rfl rfl rfl rfl rfl rfl rfl) QAll.nil)))))))) ?_
               refine EAll.cons ?_ EAll.nil
               refine EOp.y rfl rfl rfl rfl rfl (EffX.call (f := 17) (sh := fun h => linear_Of _ h _) (H0 := H) rfl Tryd.call17 rfl (hl := fun w m hr hw => lift_linear_Of _ w m hr _ hw)) ?_
               rintro _ _ ⟨v_22, h0u33, rfl, rfl, H⟩
               apply Stg.next [(93, _)] rfl rfl
               refine Stg.go [38] [39] rfl rfl (QAll.cons (QOp.yp hT rfl rfl rfl rfl rfl rfl rfl) QAll.nil) ?_
               refine EAll.cons ?_ EAll.nil
               refine EOp.y rfl rfl rfl rfl rfl (EffX.call (f := 18) (sh := fun h => ratio_Of _ h _) (H0 := H) rfl Tryd.call18 rfl (hl := fun w m hr hw => lift_ratio_Of _ w m hr _ hw)) ?_
               rintro _ _ ⟨v_23, h0u34, rfl, rfl, H⟩
               apply Stg.next [(95, _), (96, _)] rfl rfl
               refine Stg.go [38, 40] [41] rfl rfl (QAll.cons (QOp.yp hT rfl rfl rfl rfl rfl rfl rfl) (QAll.cons (QOp.y rfl rfl rfl rfl (Quiet1.build (cs := [_, _, _, _]) hT rfl rfl rfl rfl rfl rfl) rfl rfl) QAll.nil)) ?_
               refine EAll.cons ?_ EAll.nil
               refine EOp.y rfl rfl rfl rfl rfl (EffX.buildS2 (cs := [_, _, _, _]) hT rfl rfl rfl rfl rfl rfl rfl rfl H) ?_
               rintro _ _ ⟨a_2, h0u35, rfl, rfl, H⟩
               apply Stg.next [(97, _), (98, _)] rfl rfl
               refine Stg.go [42] [43] rfl rfl (QAll.cons (QOp.y rfl rfl rfl rfl (Quiet1.build (cs := [_, _, _, _]) hT rfl rfl rfl rfl rfl rfl) rfl rfl) QAll.nil) ?_
               refine EAll.cons ?_ EAll.nil
               refine EOp.y rfl rfl rfl rfl rfl (EffX.call (f := 12) (sh := fun h => ref12uSame _ _ h _) (H0 := H) rfl Tryd.call12 rfl (hl := fun w m hr hw => lift_ref12uSame _ _ w m hr _ hw)) ?_
               rintro _ _ ⟨v_25, h0u36, rfl, rfl, H⟩
               apply Stg.next [(99, _), (100, _), (101, _), (102, _)] rfl rfl
               refine Stg.fin [44, 45, 46] rfl rfl (QAll.cons (QOp.yp hT rfl rfl rfl rfl rfl rfl rfl) (QAll.cons (QOp.yp hT rfl rfl rfl rfl rfl rfl rfl) (QAll.cons (QOp.p hT rfl rfl rfl rfl rfl) QAll.nil))) ?_
               exact AtE.then_n ((HK10 _ () _ H).pickP (ts := [102, 3, 5, 13]) (is := [3]) rfl rfl (by decide) rfl)
              ·
               apply Stg.next [(85, _), (86, _), (87, _), (88, _), (89, _), (90, _), (91, _), (92, _), (94, _)] rfl rfl
               refine Stg.known (t := 88) rfl hb12 ?_
               refine Stg.known (t := 91) rfl hb13 ?_
               refine Stg.go [30, 31, 32, 33, 34, 35, 36, 38] [37] rfl rfl (QAll.cons (QOp.yp hT rfl rfl rfl rfl rfl rfl rfl) (QAll.cons (QOp.p hT rfl rfl rfl rfl rfl) (QAll.cons (QOp.pk hT rfl rfl rfl rfl hb12 rfl) (QAll.cons (QOp.yp hT rfl rfl rfl rfl rfl rfl rfl) (QAll.cons (QOp.yp hT rfl rfl rfl rfl rfl rfl rfl) (QAll.cons (QOp.ypk hT rfl rfl rfl rfl rfl rfl hb13 rfl) (QAll.cons (QOp.no rfl rfl rfl rfl (by decide) rfl rfl) (QAll.cons (QOp.no rfl rfl rfl rfl (by decide) rfl rfl) QAll.nil)))))))) ?_
               refine EAll.cons ?_ EAll.nil
               refine EOp.no rfl rfl rfl rfl (by decide) rfl ?_
               apply Stg.next [(93, _)] rfl rfl
               refine Stg.go [38] [39] rfl rfl (QAll.cons (QOp.no rfl rfl rfl rfl (by decide) rfl rfl) QAll.nil) ?_
               refine EAll.cons ?_ EAll.nil
               refine EOp.no rfl rfl rfl rfl (by decide) rfl ?_
               apply Stg.next [(95, _), (96, _)] rfl rfl
               refine Stg.go [38, 40] [41] rfl rfl (QAll.cons (QOp.no rfl rfl rfl rfl (by decide) rfl rfl) (QAll.cons (QOp.no rfl rfl rfl rfl (by decide) rfl rfl) QAll.nil)) ?_
               refine EAll.cons ?_ EAll.nil
               refine EOp.no rfl rfl rfl rfl (by decide) rfl ?_
               apply Stg.next [(97, _), (98, _)] rfl rfl
               refine Stg.go [42] [43] rfl rfl (QAll.cons (QOp.no rfl rfl rfl rfl (by decide) rfl rfl) QAll.nil) ?_
               refine EAll.cons ?_ EAll.nil
               refine EOp.no rfl rfl rfl rfl (by decide) rfl ?_
               apply Stg.next [(99, _), (100, _), (101, _), (102, _)] rfl rfl
               refine Stg.fin [44, 45, 46] rfl rfl (QAll.cons (QOp.no rfl rfl rfl rfl (by decide) rfl rfl) (QAll.cons (QOp.yp hT rfl rfl rfl rfl rfl rfl rfl) (QAll.cons (QOp.p hT rfl rfl rfl rfl rfl) QAll.nil))) ?_
               exact AtE.then_n ((HK10 _ () _ H).pickP (ts := [102, 3, 5, 13]) (is := [3]) rfl rfl (by decide) rfl)
         ·
          apply AtC.stages [0, 2, 3, 5] [[], [], [0], [], [0, 2, 3], [0, 2, 3]] [[], [], [0, 1], [], [0, 1, 2, 3], [0, 1, 2, 3, 4]] hmix (by kernel_rfl) [(54, _)] rfl 4 rfl
          refine Stg.go [1] [0, 3] rfl rfl (QAll.cons (QOp.q rfl rfl (Quiet1.loadSP (i := 0) (l := [_, _, _]) hT rfl rfl rfl rfl rfl rfl rfl rfl) rfl rfl) QAll.nil) ?_
          refine EAll.cons ?_ ?_
          ·
           replace H := H.self
           refine EOp.e rfl rfl rfl (EffX.call (f := 10) (sh := fun h => nat_New _ h _) (H0 := H) rfl Tryd.call10 rfl (hl := fun w m hr hw => lift_nat_New _ w m hr _ hw)) ?_
           rintro _ _ ⟨v_9, h0u14, rfl, rfl, H⟩
           apply Stg.next [(53, _)] rfl rfl
           refine Stg.go [1] [2, 3] rfl rfl (QAll.cons (QOp.q rfl rfl (Quiet1.loadSP (i := 0) (l := [_, _, _]) hT rfl rfl rfl rfl rfl rfl rfl rfl) rfl rfl) QAll.nil) ?_
           refine EAll.cons ?_ ?_
           ·
            replace H := H.self
            refine EOp.e rfl rfl rfl (EffX.call (f := 11) (sh := fun h => ref02uOf _ h _) (H0 := H) rfl Tryd.call11 rfl (hl := fun w m hr hw => lift_ref02uOf _ w m hr _ hw)) ?_
            rintro _ _ ⟨v_10, h0u16, rfl, rfl, H⟩
            apply Stg.next [(55, _)] rfl rfl
            refine Stg.go [] [3] rfl rfl QAll.nil ?_
            refine EAll.cons ?_ EAll.nil
            refine EOp.e rfl rfl rfl (EffX.allocP (cs := [_, _, _]) hT rfl rfl H) ?_
            rintro _ _ ⟨b_4, _, rfl, rfl, he6, H⟩
            apply Stg.next [(14, _), (13, _)] rfl rfl
            refine Stg.go [4] [5] rfl rfl (QAll.cons (QOp.p hT rfl rfl rfl rfl rfl) QAll.nil) ?_
            refine EAll.cons ?_ EAll.nil
            refine EOp.e rfl rfl rfl (EffX.storeSP (i := 0) (qv := [(_, [_, _, _]), (_, [_, _, _]), (_, [_, _, _, _]), (_, [_, _, _, _])]) hT rfl rfl rfl rfl rfl rfl rfl rfl rfl rfl) ?_
            rintro _ _ rfl
            apply Stg.next [] rfl rfl
            refine Stg.fin [] rfl rfl QAll.nil ?_
            replace H := H.self
            exact AtE.then_n ((HK6 _ b_4 _ H).pickP (ts := [13, 14, 3, 4, 5, 6, 7]) (is := [0, 1, 2, 3]) rfl rfl (by decide) rfl)
           refine EAll.cons ?_ EAll.nil
           refine EOp.e rfl rfl rfl (EffX.allocP (cs := [_, _, _]) hT rfl rfl H) ?_
           rintro _ _ ⟨b_5, _, rfl, rfl, he7, H⟩
           apply Stg.next [(14, _)] rfl rfl
           refine Stg.go [1] [2] rfl rfl (QAll.cons (QOp.q rfl rfl (Quiet1.loadSP (i := 1) (l := [_, _, _]) hT rfl rfl rfl rfl rfl rfl rfl rfl) rfl rfl) QAll.nil) ?_
           refine EAll.cons ?_ EAll.nil
           replace H := H.self
           refine EOp.e rfl rfl rfl (EffX.call (f := 11) (sh := fun h => ref02uOf _ h _) (H0 := H) rfl Tryd.call11 rfl (hl := fun w m hr hw => lift_ref02uOf _ w m hr _ hw)) ?_
           rintro _ _ ⟨v_11, h0u18, rfl, rfl, H⟩
           apply Stg.next [(55, _), (13, _)] rfl rfl
           refine Stg.go [4] [5] rfl rfl (QAll.cons (QOp.p hT rfl rfl rfl rfl rfl) QAll.nil) ?_
           refine EAll.cons ?_ EAll.nil
           refine EOp.e rfl rfl rfl (EffX.storeSP (i := 0) (qv := [(_, [_, _, _]), (_, [_, _, _]), (_, [_, _, _, _]), (_, [_, _, _, _])]) hT rfl rfl rfl rfl rfl rfl rfl rfl rfl rfl) ?_
           rintro _ _ rfl
           apply Stg.next [] rfl rfl
           refine Stg.fin [] rfl rfl QAll.nil ?_
           replace H := H.self
           exact AtE.then_n ((HK6 _ b_5 _ H).pickP (ts := [13, 14, 3, 4, 5, 6, 7]) (is := [0, 1, 2, 3]) rfl rfl (by decide) rfl)
          refine EAll.cons ?_ EAll.nil
          refine EOp.e rfl rfl rfl (EffX.allocP (cs := [_, _, _]) hT rfl rfl H) ?_
          rintro _ _ ⟨b_6, _, rfl, rfl, he8, H⟩
          apply Stg.next [(14, _)] rfl rfl
          refine Stg.go [1] [0] rfl rfl (QAll.cons (QOp.q rfl rfl (Quiet1.loadSP (i := 1) (l := [_, _, _]) hT rfl rfl rfl rfl rfl rfl rfl rfl) rfl rfl) QAll.nil) ?_
          refine EAll.cons ?_ EAll.nil
          replace H := H.self
          refine EOp.e rfl rfl rfl (EffX.call (f := 10) (sh := fun h => nat_New _ h _) (H0 := H) rfl Tryd.call10 rfl (hl := fun w m hr hw => lift_nat_New _ w m hr _ hw)) ?_
          rintro _ _ ⟨v_12, h0u20, rfl, rfl, H⟩
          apply Stg.next [(53, _)] rfl rfl
          refine Stg.go [1] [2] rfl rfl (QAll.cons (QOp.q rfl rfl (Quiet1.loadSP (i := 1) (l := [_, _, _]) hT rfl rfl rfl rfl rfl rfl rfl rfl) rfl rfl) QAll.nil) ?_
          refine EAll.cons ?_ EAll.nil
          replace H := H.self
          refine EOp.e rfl rfl rfl (EffX.call (f := 11) (sh := fun h => ref02uOf _ h _) (H0 := H) rfl Tryd.call11 rfl (hl := fun w m hr hw => lift_ref02uOf _ w m hr _ hw)) ?_
          rintro _ _ ⟨v_13, h0u22, rfl, rfl, H⟩
          apply Stg.next [(55, _), (13, _)] rfl rfl
          refine Stg.go [4] [5] rfl rfl (QAll.cons (QOp.p hT rfl rfl rfl rfl rfl) QAll.nil) ?_
          refine EAll.cons ?_ EAll.nil
          refine EOp.e rfl rfl rfl (EffX.storeSP (i := 0) (qv := [(_, [_, _, _]), (_, [_, _, _]), (_, [_, _, _, _]), (_, [_, _, _, _])]) hT rfl rfl rfl rfl rfl rfl rfl rfl rfl rfl) ?_
          rintro _ _ rfl
          apply Stg.next [] rfl rfl
          refine Stg.fin [] rfl rfl QAll.nil ?_
          replace H := H.self
          exact AtE.then_n ((HK6 _ b_6 _ H).pickP (ts := [13, 14, 3, 4, 5, 6, 7]) (is := [0, 1, 2, 3]) rfl rfl (by decide) rfl)
      ·
       refine AtC.region ?_
       refine AtL.q rfl (Quiet1.loadSP (i := 2) (l := [_, _, _, _]) hT rfl rfl rfl rfl rfl rfl rfl rfl) ?_
       refine AtL.q rfl (Quiet1.loadSP (i := 1) (l := [_, _, _, _]) hT rfl rfl rfl rfl rfl rfl rfl rfl) ?_
       refine AtL.q rfl (Quiet1.loadSP (i := 0) (l := [_, _, _]) hT rfl rfl rfl rfl rfl rfl rfl rfl) ?_
       refine AtL.q rfl (Quiet1.build (cs := [_, _, _, _]) hT rfl rfl rfl rfl rfl rfl) ?_
       refine AtLX.bs (hT := hT) (cs := [Value.bool p.1, Sl.toV p.2.1, Sl.toV p.2.2.1, Sl.toV p.2.2.2, Value.bool q.1, Sl.toV q.2.1, Sl.toV q.2.2.1, Sl.toV q.2.2.2, Value.bool k.1, Sl.toV k.2.1, Sl.toV k.2.2, Sl.toV Sl.nil]) H rfl rfl rfl rfl rfl rfl rfl (by kernel_rfl) rfl (fun a h0u6 H => ?_)
       refine AtL.e rfl (EffX.call (f := 7) (sh := fun h => law12uOdd _ h _) (H0 := H) rfl Tryd.call7 rfl (hl := fun w m hr hw => lift_law12uOdd _ w m hr _ hw)) ?_
       rintro _ _ ⟨v_5, h0u7, rfl, rfl, H⟩
       refine AtL.pures hT 1 _ _ _ _ rfl ?_
       refine AtL.splitB (t := 39) H rfl (fun H => ?_) (fun H => ?_)
       ·
        refine AtL.noF rfl rfl rfl (by decide) rfl ?_
        refine AtL.noF rfl rfl rfl (by decide) rfl ?_
        refine AtL.pures hT 1 _ _ _ _ rfl ?_
        refine AtL.nil ?_
        exact AtE.then_n ((HK2 _ () _ H).pickP (ts := [42, 3, 4, 5, 6, 7]) (is := [0, 1, 2]) rfl rfl (by decide) rfl)
       ·
        refine AtL.yes rfl rfl rfl ?_
        refine AtL.pures hT 1 _ _ _ _ rfl ?_
        refine AtL.yes rfl rfl rfl ?_
        refine AtL.e rfl (EffX.call (f := 8) (sh := fun h => law02uGreat _ h _) (H0 := H) rfl Tryd.call8 rfl (hl := fun w m hr hw => lift_law02uGreat _ w m hr _ hw)) ?_
        rintro _ _ ⟨v_6, h0u8, rfl, rfl, H⟩
        refine AtL.pures hT 1 _ _ _ _ rfl ?_
        refine AtL.nil ?_
        exact AtE.then_n ((HK2 _ () _ H).pickP (ts := [42, 3, 4, 5, 6, 7]) (is := [0, 1, 2]) rfl rfl (by decide) rfl)
   ·
    refine AtC.region ?_
    refine AtL.pures hT 1 _ _ _ _ rfl ?_
    refine AtL.q rfl (Quiet1.loadP (i := 2) hT rfl rfl rfl rfl rfl rfl) ?_
    refine AtL.pures hT 3 _ _ _ _ rfl ?_
    refine AtL.splitB (t := 23) H rfl (fun H => ?_) (fun H => ?_)
    ·
     refine AtL.noF rfl rfl rfl (by decide) rfl ?_
     refine AtL.noF rfl rfl rfl (by decide) rfl ?_
     refine AtL.noF rfl rfl rfl (by decide) rfl ?_
     refine AtL.pures hT 1 _ _ _ _ rfl ?_
     refine AtL.nil ?_
     exact AtE.then_n ((HK1 _ () _ H).pickP (ts := [27, 3, 4, 5, 6, 7]) (is := [0, 1, 2]) rfl rfl (by decide) rfl)
    ·
     refine AtL.yes rfl rfl rfl ?_
     refine AtL.pures hT 1 _ _ _ _ rfl ?_
     refine AtL.yes rfl rfl rfl ?_
     refine AtL.pures hT 1 _ _ _ _ rfl ?_
     refine AtL.yes rfl rfl rfl ?_
     refine AtL.pures hT 1 _ _ _ _ rfl ?_
     refine AtL.pures hT 1 _ _ _ _ rfl ?_
     refine AtL.nil ?_
     exact AtE.then_n ((HK1 _ () _ H).pickP (ts := [27, 3, 4, 5, 6, 7]) (is := [0, 1, 2]) rfl rfl (by decide) rfl)
end Go.Proofs.YtjppcjbmepcneaaDoor

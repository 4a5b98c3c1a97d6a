/-
  Laws that the proof of this claim's statement leans on, each proved under the conditions that it states.
-/
import Derived.Test.YtjppcjbmepcneaaGreatDoorLfB
set_option linter.unusedVariables false
set_option linter.unusedSimpArgs false
namespace Go.Proofs.YtjppcjbmepcneaaGreatDoor
open Go Go.Lift Go.Sh
set_option maxRecDepth 100000
set_option maxHeartbeats 40000000
attribute [local irreducible] Calls AtL AtC AtE AtD Eff Quiet1 Stg qAt QAll eAt EAll nextK Code.wp
theorem lift_ref02uRight (x0 : Bool × Sl × Sl) (w : World) (m : Heap) (hr : Rel ⟨m, []⟩ w.heap) (S : Bool → Heap → Prop) (H : ref02uRight x0 m S) :
 Calls Tryz.prog 11 #[Value.agg (C_bool_sl_sl x0).toArray] w (Post ⟨w, m⟩ Value.bool S) := by
 refine Calls.lift (args := [Value.agg (C_bool_sl_sl x0).toArray]) Tryz.func11 Y Tryz.ntmps11 (Nat.le_of_ble_eq_true Y) hr (ref02uRight x0 m S) H (fun H => ?_)
 refine AtC.pick (ts := [0]) Y ?_
 unfold ref02uRight at H
 refine sR (AtL.e Y (EffX.boxP (cs := [_, _, _]) Y Y Y H) ?_)
 rintro _ _ ⟨b, _, rfl, rfl, _, H⟩
 replace H := H.self
 refine pu hT 1 Y (ng (AtC.seq ?_))
 refine AtC.joinSeq (β := Unit) (fun (t0 : Bool) (bb : Unit) => [(49, Value.bool t0)]) (fun (t0 : Bool) (bb : Unit) => []) [1] [0] H Y Y (fun t0 bb h0u1 H => ?_) (fun J1 H HK1 => ?_)
 refine AtC.condB H Y (fun H => ?_) (fun H => ?_)
 refine sR (pu hT 1 Y (ng (AtC.ret (AtE.then_r ?_))))
 exact r1 2 Y Y Y H
 refine AtC.skip (tg ?_)
 apply AtC.seqS [2, 3, 4] [[], [], [], [2], [2, 3], [2, 3, 4]] [[], [], [1], [1, 2], [0, 1, 2, 3], [0, 1, 2, 3, 4]] hmix (by kernel_rfl) [(50, _), (51, _)] Y 3 Y
 refine Stg.go [0, 1] [2] Y Y (qq Y (lS hT 0 [_, _, _] Y Y Y Y Y Y Y Y) Y (qq Y (lS hT 0 [_, _, _] Y Y Y Y Y Y Y Y) Y QAll.nil)) ?_
 refine EAll.cons ?_ EAll.nil
 refine EOp.e Y Y Y (cl (fun h => ref02uOf _ h _) H Y Tryz.call36 Y (fun w m hr hw => lift_ref02uOf _ w m hr _ hw)) ?_
 rintro _ _ ⟨v_3, h0u2, rfl, rfl, H⟩
 apply Stg.next [(52, _)] Y Y
 refine Stg.go [0] [3] Y Y (qq Y (lS hT 0 [_, _, _] Y Y Y Y Y Y Y Y) Y QAll.nil) ?_
 refine EAll.cons ?_ EAll.nil
 refine EOp.e Y Y Y (cl (fun h => ref02uForm _ h _) H Y Tryz.call48 Y (fun w m hr hw => lift_ref02uForm _ w m hr _ hw)) ?_
 rintro _ _ ⟨v_4, h0u3, rfl, rfl, H⟩
 apply Stg.next [(53, _)] Y Y
 refine Stg.go [0] [4] Y Y (qq Y (lS hT 0 [_, _, _] Y Y Y Y Y Y Y Y) Y QAll.nil) ?_
 refine EAll.cons ?_ EAll.nil
 refine EOp.e Y Y Y (cl (fun h => ref02uSame _ _ h _) H Y Tryz.call47 Y (fun w m hr hw => lift_ref02uSame _ _ w m hr _ hw)) ?_
 rintro _ _ ⟨v_5, h0u4, rfl, rfl, H⟩
 apply Stg.next [(54, _), (2, _)] Y Y
 refine Stg.fin [5] Y Y (qp hT Y QAll.nil) (tg (AtC.ret ?_))
 exact r1 2 Y Y Y H
 refine AtC.region (pu hT 2 Y (AtL.q Y (lP hT 0 Y) (pu hT 3 Y ?_)))
 refine AtL.splitB (t := 8) H Y (fun H => ?_) (fun H => ?_)
 refine ys Y (pu hT 1 Y (ys Y (pu hT 1 Y (ys Y (AtL.q Y (lP hT 0 Y) ?_)))))
 refine ys Y (pu hT 1 Y (ys Y (pu hT 1 Y (ys Y (AtL.q Y (lP hT 0 Y) ?_)))))
 refine ys Y (pu hT 1 Y (ys Y (pu hT 1 Y (ys Y ?_))))
 obtain ⟨a_, hc1, hd1, H⟩ := H
 refine AtL.q Y (Quiet1.idxS hT Y Y Y Y Y hc1 hd1) (ys Y ?_)
 obtain ⟨v, hc2, H⟩ := H
 refine AtL.q Y (Quiet1.load hT Y Y Y hc2) (ys Y (pu hT 1 Y (pu hT 2 Y ?_)))
 refine AtL.splitB (t := 21) H Y (fun H => ?_) (fun H => ?_)
 refine nf Y (nf Y (nf Y (nf Y (nf Y (AtL.noU Y Y Y Y ?_)))))
 refine AtL.noU Y Y Y Y (AtL.noU Y Y Y Y (AtL.noU Y Y Y Y (AtL.noU Y Y Y Y (AtL.noU Y Y Y Y (AtL.noU Y Y Y Y ?_)))))
 refine AtL.noU Y Y Y Y (AtL.noU Y Y Y Y (nf Y (pu hT 2 Y (nf Y (nf Y ?_)))))
 refine nf Y (nf Y (nf Y (nf Y (AtL.noU Y Y Y Y (AtL.noU Y Y Y Y ?_)))))
 refine AtL.noU Y Y Y Y (nf Y (pu hT 1 Y (AtL.nil ?_)))
 exact AtE.then_n ((HK1 _ () _ H).pickP (ts := [49, 1]) (is := [0]) Y Y (by decide) Y)
 refine ys Y (pu hT 1 Y (ys Y (AtL.q Y (lP hT 0 Y) (ys Y (pu hT 1 Y ?_)))))
 refine ys Y (pu hT 1 Y (ys Y (pu hT 1 Y ?_)))
 refine AtL.splitB (t := 26) H Y (fun H => ?_) (fun H => ?_)
 refine ys Y (pu hT 1 Y (ys Y (AtL.q Y (lP hT 0 Y) (ys Y (pu hT 1 Y ?_)))))
 refine ys Y (AtL.q Y (lP hT 0 Y) (ys Y (pu hT 1 Y (ys Y (pu hT 1 Y ?_)))))
 refine ys Y ?_
 obtain ⟨a_1_, hc3, hd3, H⟩ := H
 refine AtL.q Y (Quiet1.idxS hT Y Y Y Y Y hc3 hd3) (ys Y ?_)
 obtain ⟨v_1, hc4, H⟩ := H
 refine AtL.q Y (Quiet1.load hT Y Y Y hc4) (ys Y (pu hT 1 Y (ys Y (pu hT 1 Y (pu hT 2 Y ?_)))))
 refine AtL.splitB (t := 38) H Y (fun H => ?_) (fun H => ?_)
 refine nf Y (nf Y (nf Y (nf Y (nf Y (nf Y ?_)))))
 refine AtL.noU Y Y Y Y (AtL.noU Y Y Y Y (AtL.noU Y Y Y Y (nf Y (pu hT 1 Y (AtL.nil ?_)))))
 exact AtE.then_n ((HK1 _ () _ H).pickP (ts := [49, 1]) (is := [0]) Y Y (by decide) Y)
 refine ys Y (pu hT 1 Y (ys Y (pu hT 1 Y (ys Y (AtL.q Y (lP hT 0 Y) ?_)))))
 refine ys Y (pu hT 1 Y (ys Y (pu hT 1 Y (ys Y (pu hT 1 Y ?_)))))
 refine AtL.splitB (t := 44) H Y (fun H => ?_) (fun H => ?_)
 refine ys Y (pu hT 1 Y (ys Y (pu hT 1 Y (ys Y (AtL.q Y (lP hT 0 Y) ?_)))))
 refine ys Y (pu hT 1 Y (pu hT 1 Y (AtL.nil ?_)))
 exact AtE.then_n ((HK1 _ () _ H).pickP (ts := [49, 1]) (is := [0]) Y Y (by decide) Y)
 refine nf Y (nf Y (nf Y (ys Y (pu hT 1 Y (pu hT 1 Y ?_)))))
 refine AtL.nil ?_
 exact AtE.then_n ((HK1 _ () _ H).pickP (ts := [49, 1]) (is := [0]) Y Y (by decide) Y)
 refine nf Y (nf Y (nf Y (nf Y (nf Y (nf Y ?_)))))
 refine nf Y (nf Y (nf Y (ys Y (pu hT 1 Y (pu hT 2 Y ?_)))))
 refine ys Y (pu hT 1 Y (ys Y (pu hT 1 Y (ys Y (AtL.q Y (lP hT 0 Y) ?_)))))
 refine ys Y (pu hT 1 Y (ys Y (pu hT 1 Y (ys Y (pu hT 1 Y ?_)))))
 refine AtL.splitB (t := 44) H Y (fun H => ?_) (fun H => ?_)
 refine ys Y (pu hT 1 Y (ys Y (pu hT 1 Y (ys Y (AtL.q Y (lP hT 0 Y) ?_)))))
 refine ys Y (pu hT 1 Y (pu hT 1 Y (AtL.nil ?_)))
 exact AtE.then_n ((HK1 _ () _ H).pickP (ts := [49, 1]) (is := [0]) Y Y (by decide) Y)
 refine nf Y (nf Y (nf Y (ys Y (pu hT 1 Y (pu hT 1 Y ?_)))))
 refine AtL.nil ?_
 exact AtE.then_n ((HK1 _ () _ H).pickP (ts := [49, 1]) (is := [0]) Y Y (by decide) Y)
 refine nf Y (nf Y (nf Y (nf Y (nf Y (nf Y ?_)))))
 refine nf Y (nf Y (nf Y (nf Y (nf Y (pu hT 2 Y ?_)))))
 refine ys Y (pu hT 1 Y (ys Y (AtL.q Y (lP hT 0 Y) (ys Y (pu hT 1 Y ?_)))))
 refine ys Y (pu hT 1 Y (ys Y (pu hT 1 Y ?_)))
 refine AtL.splitB (t := 26) H Y (fun H => ?_) (fun H => ?_)
 refine ys Y (pu hT 1 Y (ys Y (AtL.q Y (lP hT 0 Y) (ys Y (pu hT 1 Y ?_)))))
 refine ys Y (AtL.q Y (lP hT 0 Y) (ys Y (pu hT 1 Y (ys Y (pu hT 1 Y ?_)))))
 refine ys Y ?_
 obtain ⟨a_2_, hc5, hd5, H⟩ := H
 refine AtL.q Y (Quiet1.idxS hT Y Y Y Y Y hc5 hd5) (ys Y ?_)
 obtain ⟨v_2, hc6, H⟩ := H
 refine AtL.q Y (Quiet1.load hT Y Y Y hc6) (ys Y (pu hT 1 Y (ys Y (pu hT 1 Y (pu hT 2 Y ?_)))))
 refine AtL.splitB (t := 38) H Y (fun H => ?_) (fun H => ?_)
 refine nf Y (nf Y (nf Y (nf Y (nf Y (nf Y ?_)))))
 refine AtL.noU Y Y Y Y (AtL.noU Y Y Y Y (AtL.noU Y Y Y Y (nf Y (pu hT 1 Y (AtL.nil ?_)))))
 exact AtE.then_n ((HK1 _ () _ H).pickP (ts := [49, 1]) (is := [0]) Y Y (by decide) Y)
 refine ys Y (pu hT 1 Y (ys Y (pu hT 1 Y (ys Y (AtL.q Y (lP hT 0 Y) ?_)))))
 refine ys Y (pu hT 1 Y (ys Y (pu hT 1 Y (ys Y (pu hT 1 Y ?_)))))
 refine AtL.splitB (t := 44) H Y (fun H => ?_) (fun H => ?_)
 refine ys Y (pu hT 1 Y (ys Y (pu hT 1 Y (ys Y (AtL.q Y (lP hT 0 Y) ?_)))))
 refine ys Y (pu hT 1 Y (pu hT 1 Y (AtL.nil ?_)))
 exact AtE.then_n ((HK1 _ () _ H).pickP (ts := [49, 1]) (is := [0]) Y Y (by decide) Y)
 refine nf Y (nf Y (nf Y (ys Y (pu hT 1 Y (pu hT 1 Y ?_)))))
 refine AtL.nil ?_
 exact AtE.then_n ((HK1 _ () _ H).pickP (ts := [49, 1]) (is := [0]) Y Y (by decide) Y)
 refine nf Y (nf Y (nf Y (nf Y (nf Y (nf Y ?_)))))
 refine nf Y (nf Y (nf Y (ys Y (pu hT 1 Y (pu hT 2 Y ?_)))))
 refine ys Y (pu hT 1 Y (ys Y (pu hT 1 Y (ys Y (AtL.q Y (lP hT 0 Y) ?_)))))
 refine ys Y (pu hT 1 Y (ys Y (pu hT 1 Y (ys Y (pu hT 1 Y ?_)))))
 refine AtL.splitB (t := 44) H Y (fun H => ?_) (fun H => ?_)
 refine ys Y (pu hT 1 Y (ys Y (pu hT 1 Y (ys Y (AtL.q Y (lP hT 0 Y) ?_)))))
 refine ys Y (pu hT 1 Y (pu hT 1 Y (AtL.nil ?_)))
 exact AtE.then_n ((HK1 _ () _ H).pickP (ts := [49, 1]) (is := [0]) Y Y (by decide) Y)
 refine nf Y (nf Y (nf Y (ys Y (pu hT 1 Y (pu hT 1 Y ?_)))))
 refine AtL.nil ?_
 exact AtE.then_n ((HK1 _ () _ H).pickP (ts := [49, 1]) (is := [0]) Y Y (by decide) Y)
theorem lift_ref12uRight (p : Bool × Sl × Sl × Sl) (w : World) (m : Heap) (hr : Rel ⟨m, []⟩ w.heap) (S : Bool → Heap → Prop) (H : ref12uRight p m S) :
 Calls Tryz.prog 35 #[Value.agg (C_bool_sl_sl_sl p).toArray] w (Post ⟨w, m⟩ Value.bool S) := by
 refine Calls.lift (args := [Value.agg (C_bool_sl_sl_sl p).toArray]) Tryz.func35 Y Tryz.ntmps35 (Nat.le_of_ble_eq_true Y) hr (ref12uRight p m S) H (fun H => ?_)
 refine AtC.pick (ts := [0]) Y ?_
 unfold ref12uRight at H
 refine sR (AtL.e Y (EffX.boxP (cs := [_, _, _, _]) Y Y Y H) ?_)
 rintro _ _ ⟨b, _, rfl, rfl, _, H⟩
 replace H := H.self
 refine pu hT 1 Y (ng (AtC.seq (sR (pu hT 1 Y (AtL.q Y (lS hT 0 [_, _, _] Y Y Y Y Y Y Y Y) ?_)))))
 refine AtL.e Y (cl (fun h => ref02uRight _ h _) H Y Tryz.call11 Y (fun w m hr hw => lift_ref02uRight _ w m hr _ hw)) ?_
 rintro _ _ ⟨v, h0u1, rfl, rfl, H⟩
 refine pu hT 1 Y (ng ?_)
 refine AtC.condB H Y (fun H => ?_) (fun H => ?_)
 refine sR (pu hT 1 Y (ng (AtC.ret (AtE.then_r ?_))))
 exact r1 2 Y Y Y H
 refine AtC.skip (tg (AtC.seq (sR (pu hT 1 Y (ng ?_)))))
 refine AtC.block ?_
 refine AtC.loopM (fun (s0 : Int) => [(3, Value.int .i64 s0)]) (fun (s0 : Int) => []) [1] [3, 1] [0] [0] H Y Y Y (by decide) Y (fun Kp1 s0 h0u2 H Q1 HK1 => ?_)
 refine AtC.seq (sR (pu hT 2 Y (AtL.q Y (lP hT 0 Y) (pu hT 2 Y (ng ?_)))))
 refine AtC.condB H Y (fun H => ?_) (fun H => ?_)
 refine AtC.skip (tg (AtC.seq (AtC.block (sR (pu hT 1 Y ?_)))))
 refine AtL.q Y (lP hT 0 Y) (pu hT 1 Y ?_)
 obtain ⟨a_, hc1, hd1, H⟩ := H
 refine AtL.q Y (Quiet1.idxS hT Y Y Y Y Y hc1 hd1) ?_
 obtain ⟨v_1, hc2, H⟩ := H
 refine AtL.q Y (Quiet1.loadS hT Y Y Y Y hc2) (AtL.e Y (EffX.allocP (cs := [_, _, _, _]) hT Y Y H) ?_)
 rintro _ _ ⟨b_1, _, rfl, rfl, _, H⟩
 replace H := H.self
 refine AtL.e Y (EffX.storeSP (i := 0) (qv := [(_, [_, _, _, _]), (_, [_, _, _, _])]) hT Y Y Y Y Y Y Y Y Y Y) ?_
 rintro _ _ rfl
 refine ng ?_
 refine AtC.joinSeq (β := Unit) (fun (t0 : Bool) (bb : Unit) => [(53, Value.bool t0)]) (fun (t0 : Bool) (bb : Unit) => []) [1, 3] [1] H Y Y (fun t0 bb h0u4 H => ?_) (fun J4 H HK4 => ?_)
 refine AtC.condB H Y (fun H => ?_) (fun H => ?_)
 refine sR (pu hT 1 Y (ng (AtC.ret (AtE.blk_r (AtE.then_r ?_)))))
 refine AtE.then_r (AtE.blk_r (AtE.then_r ?_))
 exact r1 2 Y Y Y H
 refine AtC.skip (AtE.blk_n (tg (AtC.region (pu hT 3 Y ?_))))
 replace H := H _ rfl
 refine AtL.nil ?_
 exact AtE.then_n ((HK1 _ _ H).pickP (ts := [3, 1]) (is := [0]) Y Y (by decide) Y)
 rcases iteB.cases H with ⟨hb4, H⟩ | ⟨hb4, H⟩
 apply AtC.stages [22] [[], [], [], [], [], [], [], [], [], [], [], [], [], [], [], [], [], [], [], [], [], [], [], [22], [22], [22], [22], [22], [22], [22], [22], [22], [22]] [[], [0], [0, 1], [0, 1, 2], [0, 1, 2, 3], [0, 1, 2, 3, 4], [0, 1, 2, 3, 4, 5], [0, 1, 2, 3, 4, 5, 6], [0, 1, 2, 3, 4, 5, 6, 7], [0, 1, 2, 3, 4, 5, 6], [0, 1, 2, 3, 4, 5, 6, 9], [0, 1, 2, 3, 4, 5, 6], [0, 1, 2, 3, 4, 5, 6, 11], [0, 1, 2, 3, 4, 5, 6, 9, 10, 11, 12], [0, 1, 2, 3, 4, 5, 6, 9, 10, 11, 12, 13], [0, 1, 2, 3, 4, 5, 6, 9, 10, 11, 12, 13, 14], [0, 1, 2, 3, 4, 5, 6, 7, 8, 9, 10, 11, 12, 13, 14, 15], [0, 1, 2, 3, 4, 5, 6, 7, 8, 9, 10, 11, 12, 13, 14, 15, 16], [0, 1, 2, 3, 4, 5, 6, 7, 8, 9, 10, 11, 12, 13, 14, 15, 16, 17], [0, 1, 2, 3, 4, 5, 6, 7, 8, 9, 10, 11, 12, 13, 14, 15, 16, 17, 18], [0, 1, 2, 3, 4, 5, 6, 7, 8, 9, 10, 11, 12, 13, 14, 15, 16, 17, 18, 19], [0, 1, 2, 3, 4, 5, 6, 7, 8, 9, 10, 11, 12, 13, 14, 15, 16, 17, 18, 19, 20], [0, 1, 2, 3, 4, 5, 6, 7, 8, 9, 10, 11, 12, 13, 14, 15, 16, 17, 18, 19, 20, 21], [0, 1, 2, 3, 4, 5, 6, 7, 8, 9, 10, 11, 12, 13, 14, 15, 16, 17, 18, 19, 20, 21, 22], [0, 1, 2, 3, 4, 5, 6, 7, 8, 9, 10, 11, 12, 13, 14, 15, 16, 17, 18, 19, 20, 21, 22, 23], [0, 1, 2, 3, 4, 5, 6, 7, 8, 9, 10, 11, 12, 13, 14, 15, 16, 17, 18, 19, 20, 21, 22, 23, 24], [0, 1, 2, 3, 4, 5, 6, 7, 8, 9, 10, 11, 12, 13, 14, 15, 16, 17, 18, 19, 20, 21, 22, 23, 24, 25], [0, 1, 2, 3, 4, 5, 6, 7, 8, 9, 10, 11, 12, 13, 14, 15, 16, 17, 18, 19, 20, 21, 22, 23, 24, 25, 26], [0, 1, 2, 3, 4, 5, 6, 7, 8, 9, 10, 11, 12, 13, 14, 15, 16, 17, 18, 19, 20, 21, 22, 23, 24, 25, 26, 27], [0, 1, 2, 3, 4, 5, 6, 7, 8, 9, 10, 11, 12, 13, 14, 15, 16, 17, 18, 19, 20, 21, 22, 23, 24, 25, 26, 27, 28], [0, 1, 2, 3, 4, 5, 6, 7, 8, 9, 10, 11, 12, 13, 14, 15, 16, 17, 18, 19, 20, 21, 22, 23, 24, 25, 26, 27, 28, 29], [0, 1, 2, 3, 4, 5, 6, 7, 8, 9, 10, 11, 12, 13, 14, 15, 16, 17, 18, 19, 20, 21, 22, 23, 24, 25, 26, 27, 28, 29, 30], [0, 1, 2, 3, 4, 5, 6, 7, 8, 9, 10, 11, 12, 13, 14, 15, 16, 17, 18, 19, 20, 21, 22, 23, 24, 25, 26, 27, 28, 29, 30, 31]] hmix (by kernel_rfl) [(21, _), (22, _), (23, _), (24, _), (25, _), (26, _), (27, _), (28, _), (29, _), (30, _), (31, _), (32, _), (33, _), (34, _), (35, _), (36, _), (37, _), (38, _), (39, _), (40, _), (41, _), (42, _)] Y 1 Y
 refine Stg.known (t := 24) Y hb4 (Stg.go [0, 1, 2, 3, 4, 5, 6, 7, 8, 9, 10, 11, 12, 13, 14, 15, 16, 17, 18, 19, 20, 21] [22] Y Y (qp hT Y (qq Y (lP hT 0 Y) Y (qp hT Y (QAll.cons (QOp.pk hT Y Y Y Y hb4 Y) (qn Y Y Y Y (by decide) Y Y (qn Y Y Y Y (by decide) Y Y (qn Y Y Y Y (by decide) Y Y (QAll.cons (QOp.u Y Y Y Y Y Y) (QAll.cons (QOp.u Y Y Y Y Y Y) (QAll.cons (QOp.u Y Y Y Y Y Y) (QAll.cons (QOp.u Y Y Y Y Y Y) (QAll.cons (QOp.u Y Y Y Y Y Y) (QAll.cons (QOp.u Y Y Y Y Y Y) (QAll.cons (QOp.u Y Y Y Y Y Y) (QAll.cons (QOp.u Y Y Y Y Y Y) (QAll.cons (QOp.u Y Y Y Y Y Y) (QAll.cons (QOp.u Y Y Y Y Y Y) (qn Y Y Y Y (by decide) Y Y (qp hT Y (qp hT Y (qn Y Y Y Y (by decide) Y Y (qn Y Y Y Y (by decide) Y Y QAll.nil)))))))))))))))))))))) ?_)
 refine EAll.cons ?_ EAll.nil
 refine EOp.no Y Y Y Y (by decide) Y ?_
 apply Stg.next [(43, _), (44, _), (45, _), (46, _), (47, _), (48, _), (49, _), (50, _), (51, _), (52, _), (53, _)] Y Y
 refine Stg.fin [23, 24, 25, 26, 27, 28, 29, 30, 31, 32] Y Y (qn Y Y Y Y (by decide) Y Y (qp hT Y (qp hT Y (qn Y Y Y Y (by decide) Y Y (qn Y Y Y Y (by decide) Y Y (qn Y Y Y Y (by decide) Y Y (qn Y Y Y Y (by decide) Y Y (qn Y Y Y Y (by decide) Y Y (qn Y Y Y Y (by decide) Y Y (qp hT Y QAll.nil)))))))))) ?_
 exact AtE.then_n ((HK4 _ () _ H).pickP (ts := [53, 1, 3]) (is := [1]) Y Y (by decide) Y)
 rcases iteB.cases H with ⟨hb5, H⟩ | ⟨hb5, H⟩
 obtain ⟨a_1_, hc6, hd6, H⟩ := H
 obtain ⟨v_2, hc7, H⟩ := H
 rcases iteB.cases H with ⟨hb8, H⟩ | ⟨hb8, H⟩
 apply AtC.stages [22] [[], [], [], [], [], [], [], [], [], [], [], [], [], [], [], [], [], [], [], [], [], [], [], [22], [22], [22], [22], [22], [22], [22], [22], [22], [22]] [[], [0], [0, 1], [0, 1, 2], [0, 1, 2, 3], [0, 1, 2, 3, 4], [0, 1, 2, 3, 4, 5], [0, 1, 2, 3, 4, 5, 6], [0, 1, 2, 3, 4, 5, 6, 7], [0, 1, 2, 3, 4, 5, 6], [0, 1, 2, 3, 4, 5, 6, 9], [0, 1, 2, 3, 4, 5, 6], [0, 1, 2, 3, 4, 5, 6, 11], [0, 1, 2, 3, 4, 5, 6, 9, 10, 11, 12], [0, 1, 2, 3, 4, 5, 6, 9, 10, 11, 12, 13], [0, 1, 2, 3, 4, 5, 6, 9, 10, 11, 12, 13, 14], [0, 1, 2, 3, 4, 5, 6, 7, 8, 9, 10, 11, 12, 13, 14, 15], [0, 1, 2, 3, 4, 5, 6, 7, 8, 9, 10, 11, 12, 13, 14, 15, 16], [0, 1, 2, 3, 4, 5, 6, 7, 8, 9, 10, 11, 12, 13, 14, 15, 16, 17], [0, 1, 2, 3, 4, 5, 6, 7, 8, 9, 10, 11, 12, 13, 14, 15, 16, 17, 18], [0, 1, 2, 3, 4, 5, 6, 7, 8, 9, 10, 11, 12, 13, 14, 15, 16, 17, 18, 19], [0, 1, 2, 3, 4, 5, 6, 7, 8, 9, 10, 11, 12, 13, 14, 15, 16, 17, 18, 19, 20], [0, 1, 2, 3, 4, 5, 6, 7, 8, 9, 10, 11, 12, 13, 14, 15, 16, 17, 18, 19, 20, 21], [0, 1, 2, 3, 4, 5, 6, 7, 8, 9, 10, 11, 12, 13, 14, 15, 16, 17, 18, 19, 20, 21, 22], [0, 1, 2, 3, 4, 5, 6, 7, 8, 9, 10, 11, 12, 13, 14, 15, 16, 17, 18, 19, 20, 21, 22, 23], [0, 1, 2, 3, 4, 5, 6, 7, 8, 9, 10, 11, 12, 13, 14, 15, 16, 17, 18, 19, 20, 21, 22, 23, 24], [0, 1, 2, 3, 4, 5, 6, 7, 8, 9, 10, 11, 12, 13, 14, 15, 16, 17, 18, 19, 20, 21, 22, 23, 24, 25], [0, 1, 2, 3, 4, 5, 6, 7, 8, 9, 10, 11, 12, 13, 14, 15, 16, 17, 18, 19, 20, 21, 22, 23, 24, 25, 26], [0, 1, 2, 3, 4, 5, 6, 7, 8, 9, 10, 11, 12, 13, 14, 15, 16, 17, 18, 19, 20, 21, 22, 23, 24, 25, 26, 27], [0, 1, 2, 3, 4, 5, 6, 7, 8, 9, 10, 11, 12, 13, 14, 15, 16, 17, 18, 19, 20, 21, 22, 23, 24, 25, 26, 27, 28], [0, 1, 2, 3, 4, 5, 6, 7, 8, 9, 10, 11, 12, 13, 14, 15, 16, 17, 18, 19, 20, 21, 22, 23, 24, 25, 26, 27, 28, 29], [0, 1, 2, 3, 4, 5, 6, 7, 8, 9, 10, 11, 12, 13, 14, 15, 16, 17, 18, 19, 20, 21, 22, 23, 24, 25, 26, 27, 28, 29, 30], [0, 1, 2, 3, 4, 5, 6, 7, 8, 9, 10, 11, 12, 13, 14, 15, 16, 17, 18, 19, 20, 21, 22, 23, 24, 25, 26, 27, 28, 29, 30, 31]] hmix (by kernel_rfl) [(21, _), (22, _), (23, _), (24, _), (25, _), (26, _), (27, _), (28, _), (29, _), (30, _), (31, _), (32, _), (33, _), (34, _), (35, _), (36, _), (37, _), (38, _), (39, _), (40, _), (41, _), (42, _)] Y 1 Y
 refine Stg.known (t := 24) Y hb4 (Stg.known (t := 27) Y hb5 (Stg.known (t := 40) Y hb8 (Stg.go [0, 1, 2, 3, 4, 5, 6, 7, 8, 9, 10, 11, 12, 13, 14, 15, 16, 17, 18, 19, 20, 21] [22] Y Y (qp hT Y (qq Y (lP hT 0 Y) Y (qp hT Y (QAll.cons (QOp.pk hT Y Y Y Y hb4 Y) (QAll.cons (QOp.yp hT Y Y Y Y Y Y Y) (QAll.cons (QOp.yp hT Y Y Y Y Y Y Y) (QAll.cons (QOp.ypk hT Y Y Y Y Y Y hb5 Y) (QAll.cons (QOp.yp hT Y Y Y Y Y Y Y) (QAll.cons (QOp.y Y Y Y Y (lP hT 0 Y) Y Y) (QAll.cons (QOp.yp hT Y Y Y Y Y Y Y) (QAll.cons (QOp.y Y Y Y Y (lP hT 1 Y) Y Y) (QAll.cons (QOp.yp hT Y Y Y Y Y Y Y) (QAll.cons (QOp.yp hT Y Y Y Y Y Y Y) (QAll.cons (QOp.y Y Y Y Y (Quiet1.idxS hT Y Y Y Y Y hc6 hd6) Y Y) (QAll.cons (QOp.yp hT Y Y Y Y Y Y Y) (QAll.cons (QOp.y Y Y Y Y (Quiet1.load hT Y Y Y hc7) Y Y) (QAll.cons (QOp.yp hT Y Y Y Y Y Y Y) (QAll.cons (QOp.yp hT Y Y Y Y Y Y Y) (qp hT Y (QAll.cons (QOp.pk hT Y Y Y Y hb8 Y) (qn Y Y Y Y (by decide) Y Y (qn Y Y Y Y (by decide) Y Y QAll.nil)))))))))))))))))))))) ?_)))
 refine EAll.cons ?_ EAll.nil
 refine EOp.no Y Y Y Y (by decide) Y ?_
 apply Stg.next [(43, _), (44, _), (45, _), (46, _), (47, _), (48, _), (49, _), (50, _), (51, _), (52, _), (53, _)] Y Y
 refine Stg.fin [23, 24, 25, 26, 27, 28, 29, 30, 31, 32] Y Y (qn Y Y Y Y (by decide) Y Y (qp hT Y (qp hT Y (qn Y Y Y Y (by decide) Y Y (qn Y Y Y Y (by decide) Y Y (qn Y Y Y Y (by decide) Y Y (qn Y Y Y Y (by decide) Y Y (qn Y Y Y Y (by decide) Y Y (qn Y Y Y Y (by decide) Y Y (qp hT Y QAll.nil)))))))))) ?_
 exact AtE.then_n ((HK4 _ () _ H).pickP (ts := [53, 1, 3]) (is := [1]) Y Y (by decide) Y)
 apply AtC.stages [22] [[], [], [], [], [], [], [], [], [], [], [], [], [], [], [], [], [], [], [], [], [], [], [], [22], [22], [22], [22], [22], [22], [22], [22], [22], [22]] [[], [0], [0, 1], [0, 1, 2], [0, 1, 2, 3], [0, 1, 2, 3, 4], [0, 1, 2, 3, 4, 5], [0, 1, 2, 3, 4, 5, 6], [0, 1, 2, 3, 4, 5, 6, 7], [0, 1, 2, 3, 4, 5, 6], [0, 1, 2, 3, 4, 5, 6, 9], [0, 1, 2, 3, 4, 5, 6], [0, 1, 2, 3, 4, 5, 6, 11], [0, 1, 2, 3, 4, 5, 6, 9, 10, 11, 12], [0, 1, 2, 3, 4, 5, 6, 9, 10, 11, 12, 13], [0, 1, 2, 3, 4, 5, 6, 9, 10, 11, 12, 13, 14], [0, 1, 2, 3, 4, 5, 6, 7, 8, 9, 10, 11, 12, 13, 14, 15], [0, 1, 2, 3, 4, 5, 6, 7, 8, 9, 10, 11, 12, 13, 14, 15, 16], [0, 1, 2, 3, 4, 5, 6, 7, 8, 9, 10, 11, 12, 13, 14, 15, 16, 17], [0, 1, 2, 3, 4, 5, 6, 7, 8, 9, 10, 11, 12, 13, 14, 15, 16, 17, 18], [0, 1, 2, 3, 4, 5, 6, 7, 8, 9, 10, 11, 12, 13, 14, 15, 16, 17, 18, 19], [0, 1, 2, 3, 4, 5, 6, 7, 8, 9, 10, 11, 12, 13, 14, 15, 16, 17, 18, 19, 20], [0, 1, 2, 3, 4, 5, 6, 7, 8, 9, 10, 11, 12, 13, 14, 15, 16, 17, 18, 19, 20, 21], [0, 1, 2, 3, 4, 5, 6, 7, 8, 9, 10, 11, 12, 13, 14, 15, 16, 17, 18, 19, 20, 21, 22], [0, 1, 2, 3, 4, 5, 6, 7, 8, 9, 10, 11, 12, 13, 14, 15, 16, 17, 18, 19, 20, 21, 22, 23], [0, 1, 2, 3, 4, 5, 6, 7, 8, 9, 10, 11, 12, 13, 14, 15, 16, 17, 18, 19, 20, 21, 22, 23, 24], [0, 1, 2, 3, 4, 5, 6, 7, 8, 9, 10, 11, 12, 13, 14, 15, 16, 17, 18, 19, 20, 21, 22, 23, 24, 25], [0, 1, 2, 3, 4, 5, 6, 7, 8, 9, 10, 11, 12, 13, 14, 15, 16, 17, 18, 19, 20, 21, 22, 23, 24, 25, 26], [0, 1, 2, 3, 4, 5, 6, 7, 8, 9, 10, 11, 12, 13, 14, 15, 16, 17, 18, 19, 20, 21, 22, 23, 24, 25, 26, 27], [0, 1, 2, 3, 4, 5, 6, 7, 8, 9, 10, 11, 12, 13, 14, 15, 16, 17, 18, 19, 20, 21, 22, 23, 24, 25, 26, 27, 28], [0, 1, 2, 3, 4, 5, 6, 7, 8, 9, 10, 11, 12, 13, 14, 15, 16, 17, 18, 19, 20, 21, 22, 23, 24, 25, 26, 27, 28, 29], [0, 1, 2, 3, 4, 5, 6, 7, 8, 9, 10, 11, 12, 13, 14, 15, 16, 17, 18, 19, 20, 21, 22, 23, 24, 25, 26, 27, 28, 29, 30], [0, 1, 2, 3, 4, 5, 6, 7, 8, 9, 10, 11, 12, 13, 14, 15, 16, 17, 18, 19, 20, 21, 22, 23, 24, 25, 26, 27, 28, 29, 30, 31]] hmix (by kernel_rfl) [(21, _), (22, _), (23, _), (24, _), (25, _), (26, _), (27, _), (28, _), (29, _), (30, _), (31, _), (32, _), (33, _), (34, _), (35, _), (36, _), (37, _), (38, _), (39, _), (40, _), (41, _), (42, _)] Y 1 Y
 refine Stg.known (t := 24) Y hb4 (Stg.known (t := 27) Y hb5 (Stg.known (t := 40) Y hb8 (Stg.go [0, 1, 2, 3, 4, 5, 6, 7, 8, 9, 10, 11, 12, 13, 14, 15, 16, 17, 18, 19, 20, 21] [22] Y Y (qp hT Y (qq Y (lP hT 0 Y) Y (qp hT Y (QAll.cons (QOp.pk hT Y Y Y Y hb4 Y) (QAll.cons (QOp.yp hT Y Y Y Y Y Y Y) (QAll.cons (QOp.yp hT Y Y Y Y Y Y Y) (QAll.cons (QOp.ypk hT Y Y Y Y Y Y hb5 Y) (QAll.cons (QOp.yp hT Y Y Y Y Y Y Y) (QAll.cons (QOp.y Y Y Y Y (lP hT 0 Y) Y Y) (QAll.cons (QOp.yp hT Y Y Y Y Y Y Y) (QAll.cons (QOp.y Y Y Y Y (lP hT 1 Y) Y Y) (QAll.cons (QOp.yp hT Y Y Y Y Y Y Y) (QAll.cons (QOp.yp hT Y Y Y Y Y Y Y) (QAll.cons (QOp.y Y Y Y Y (Quiet1.idxS hT Y Y Y Y Y hc6 hd6) Y Y) (QAll.cons (QOp.yp hT Y Y Y Y Y Y Y) (QAll.cons (QOp.y Y Y Y Y (Quiet1.load hT Y Y Y hc7) Y Y) (QAll.cons (QOp.yp hT Y Y Y Y Y Y Y) (QAll.cons (QOp.yp hT Y Y Y Y Y Y Y) (qp hT Y (QAll.cons (QOp.pk hT Y Y Y Y hb8 Y) (QAll.cons (QOp.yp hT Y Y Y Y Y Y Y) (QAll.cons (QOp.y Y Y Y Y (lS hT 0 [_, _, _] Y Y Y Y Y Y Y Y) Y Y) QAll.nil)))))))))))))))))))))) ?_)))
 refine EAll.cons ?_ EAll.nil
 refine EOp.y Y Y Y Y Y (cl (fun h => ref02uRight _ h _) H Y Tryz.call11 Y (fun w m hr hw => lift_ref02uRight _ w m hr _ hw)) ?_
 rintro _ _ ⟨v_3, h0u5, rfl, rfl, H⟩
 rcases iteB.cases H with ⟨hb9, H⟩ | ⟨hb9, H⟩
 apply Stg.next [(43, _), (44, _), (45, _), (46, _), (47, _), (48, _), (49, _), (50, _), (51, _), (52, _), (53, _)] Y Y
 refine Stg.known (t := 46) Y hb9 (Stg.fin [23, 24, 25, 26, 27, 28, 29, 30, 31, 32] Y Y (QAll.cons (QOp.yp hT Y Y Y Y Y Y Y) (qp hT Y (QAll.cons (QOp.pk hT Y Y Y Y hb9 Y) (qn Y Y Y Y (by decide) Y Y (qn Y Y Y Y (by decide) Y Y (qn Y Y Y Y (by decide) Y Y (qn Y Y Y Y (by decide) Y Y (qn Y Y Y Y (by decide) Y Y (qn Y Y Y Y (by decide) Y Y (qp hT Y QAll.nil)))))))))) ?_)
 exact AtE.then_n ((HK4 _ () _ H).pickP (ts := [53, 1, 3]) (is := [1]) Y Y (by decide) Y)
 apply Stg.next [(43, _), (44, _), (45, _), (46, _), (47, _), (48, _), (49, _), (50, _), (51, _), (52, _), (53, _)] Y Y
 refine Stg.known (t := 46) Y hb9 (Stg.fin [23, 24, 25, 26, 27, 28, 29, 30, 31, 32] Y Y (QAll.cons (QOp.yp hT Y Y Y Y Y Y Y) (qp hT Y (QAll.cons (QOp.pk hT Y Y Y Y hb9 Y) (QAll.cons (QOp.yp hT Y Y Y Y Y Y Y) (QAll.cons (QOp.yp hT Y Y Y Y Y Y Y) (QAll.cons (QOp.yp hT Y Y Y Y Y Y Y) (QAll.cons (QOp.y Y Y Y Y (lP hT 0 Y) Y Y) (QAll.cons (QOp.yp hT Y Y Y Y Y Y Y) (QAll.cons (QOp.yp hT Y Y Y Y Y Y Y) (qp hT Y QAll.nil)))))))))) ?_)
 exact AtE.then_n ((HK4 _ () _ H).pickP (ts := [53, 1, 3]) (is := [1]) Y Y (by decide) Y)
 apply AtC.stages [22] [[], [], [], [], [], [], [], [], [], [], [], [], [], [], [], [], [], [], [], [], [], [], [], [22], [22], [22], [22], [22], [22], [22], [22], [22], [22]] [[], [0], [0, 1], [0, 1, 2], [0, 1, 2, 3], [0, 1, 2, 3, 4], [0, 1, 2, 3, 4, 5], [0, 1, 2, 3, 4, 5, 6], [0, 1, 2, 3, 4, 5, 6, 7], [0, 1, 2, 3, 4, 5, 6], [0, 1, 2, 3, 4, 5, 6, 9], [0, 1, 2, 3, 4, 5, 6], [0, 1, 2, 3, 4, 5, 6, 11], [0, 1, 2, 3, 4, 5, 6, 9, 10, 11, 12], [0, 1, 2, 3, 4, 5, 6, 9, 10, 11, 12, 13], [0, 1, 2, 3, 4, 5, 6, 9, 10, 11, 12, 13, 14], [0, 1, 2, 3, 4, 5, 6, 7, 8, 9, 10, 11, 12, 13, 14, 15], [0, 1, 2, 3, 4, 5, 6, 7, 8, 9, 10, 11, 12, 13, 14, 15, 16], [0, 1, 2, 3, 4, 5, 6, 7, 8, 9, 10, 11, 12, 13, 14, 15, 16, 17], [0, 1, 2, 3, 4, 5, 6, 7, 8, 9, 10, 11, 12, 13, 14, 15, 16, 17, 18], [0, 1, 2, 3, 4, 5, 6, 7, 8, 9, 10, 11, 12, 13, 14, 15, 16, 17, 18, 19], [0, 1, 2, 3, 4, 5, 6, 7, 8, 9, 10, 11, 12, 13, 14, 15, 16, 17, 18, 19, 20], [0, 1, 2, 3, 4, 5, 6, 7, 8, 9, 10, 11, 12, 13, 14, 15, 16, 17, 18, 19, 20, 21], [0, 1, 2, 3, 4, 5, 6, 7, 8, 9, 10, 11, 12, 13, 14, 15, 16, 17, 18, 19, 20, 21, 22], [0, 1, 2, 3, 4, 5, 6, 7, 8, 9, 10, 11, 12, 13, 14, 15, 16, 17, 18, 19, 20, 21, 22, 23], [0, 1, 2, 3, 4, 5, 6, 7, 8, 9, 10, 11, 12, 13, 14, 15, 16, 17, 18, 19, 20, 21, 22, 23, 24], [0, 1, 2, 3, 4, 5, 6, 7, 8, 9, 10, 11, 12, 13, 14, 15, 16, 17, 18, 19, 20, 21, 22, 23, 24, 25], [0, 1, 2, 3, 4, 5, 6, 7, 8, 9, 10, 11, 12, 13, 14, 15, 16, 17, 18, 19, 20, 21, 22, 23, 24, 25, 26], [0, 1, 2, 3, 4, 5, 6, 7, 8, 9, 10, 11, 12, 13, 14, 15, 16, 17, 18, 19, 20, 21, 22, 23, 24, 25, 26, 27], [0, 1, 2, 3, 4, 5, 6, 7, 8, 9, 10, 11, 12, 13, 14, 15, 16, 17, 18, 19, 20, 21, 22, 23, 24, 25, 26, 27, 28], [0, 1, 2, 3, 4, 5, 6, 7, 8, 9, 10, 11, 12, 13, 14, 15, 16, 17, 18, 19, 20, 21, 22, 23, 24, 25, 26, 27, 28, 29], [0, 1, 2, 3, 4, 5, 6, 7, 8, 9, 10, 11, 12, 13, 14, 15, 16, 17, 18, 19, 20, 21, 22, 23, 24, 25, 26, 27, 28, 29, 30], [0, 1, 2, 3, 4, 5, 6, 7, 8, 9, 10, 11, 12, 13, 14, 15, 16, 17, 18, 19, 20, 21, 22, 23, 24, 25, 26, 27, 28, 29, 30, 31]] hmix (by kernel_rfl) [(21, _), (22, _), (23, _), (24, _), (25, _), (26, _), (27, _), (28, _), (29, _), (30, _), (31, _), (32, _), (33, _), (34, _), (35, _), (36, _), (37, _), (38, _), (39, _), (40, _), (41, _), (42, _)] Y 1 Y
 refine Stg.known (t := 24) Y hb4 (Stg.known (t := 27) Y hb5 (Stg.go [0, 1, 2, 3, 4, 5, 6, 7, 8, 9, 10, 11, 12, 13, 14, 15, 16, 17, 18, 19, 20, 21] [22] Y Y (qp hT Y (qq Y (lP hT 0 Y) Y (qp hT Y (QAll.cons (QOp.pk hT Y Y Y Y hb4 Y) (QAll.cons (QOp.yp hT Y Y Y Y Y Y Y) (QAll.cons (QOp.yp hT Y Y Y Y Y Y Y) (QAll.cons (QOp.ypk hT Y Y Y Y Y Y hb5 Y) (qn Y Y Y Y (by decide) Y Y (qn Y Y Y Y (by decide) Y Y (qn Y Y Y Y (by decide) Y Y (qn Y Y Y Y (by decide) Y Y (qn Y Y Y Y (by decide) Y Y (qn Y Y Y Y (by decide) Y Y (qn Y Y Y Y (by decide) Y Y (qn Y Y Y Y (by decide) Y Y (qn Y Y Y Y (by decide) Y Y (qn Y Y Y Y (by decide) Y Y (QAll.cons (QOp.yp hT Y Y Y Y Y Y Y) (qp hT Y (qp hT Y (QAll.cons (QOp.yp hT Y Y Y Y Y Y Y) (QAll.cons (QOp.y Y Y Y Y (lS hT 0 [_, _, _] Y Y Y Y Y Y Y Y) Y Y) QAll.nil)))))))))))))))))))))) ?_))
 refine EAll.cons ?_ EAll.nil
 refine EOp.y Y Y Y Y Y (cl (fun h => ref02uRight _ h _) H Y Tryz.call11 Y (fun w m hr hw => lift_ref02uRight _ w m hr _ hw)) ?_
 rintro _ _ ⟨v_4, h0u6, rfl, rfl, H⟩
 rcases iteB.cases H with ⟨hb10, H⟩ | ⟨hb10, H⟩
 apply Stg.next [(43, _), (44, _), (45, _), (46, _), (47, _), (48, _), (49, _), (50, _), (51, _), (52, _), (53, _)] Y Y
 refine Stg.known (t := 46) Y hb10 (Stg.fin [23, 24, 25, 26, 27, 28, 29, 30, 31, 32] Y Y (QAll.cons (QOp.yp hT Y Y Y Y Y Y Y) (qp hT Y (QAll.cons (QOp.pk hT Y Y Y Y hb10 Y) (qn Y Y Y Y (by decide) Y Y (qn Y Y Y Y (by decide) Y Y (qn Y Y Y Y (by decide) Y Y (qn Y Y Y Y (by decide) Y Y (qn Y Y Y Y (by decide) Y Y (qn Y Y Y Y (by decide) Y Y (qp hT Y QAll.nil)))))))))) ?_)
 exact AtE.then_n ((HK4 _ () _ H).pickP (ts := [53, 1, 3]) (is := [1]) Y Y (by decide) Y)
 apply Stg.next [(43, _), (44, _), (45, _), (46, _), (47, _), (48, _), (49, _), (50, _), (51, _), (52, _), (53, _)] Y Y
 refine Stg.known (t := 46) Y hb10 (Stg.fin [23, 24, 25, 26, 27, 28, 29, 30, 31, 32] Y Y (QAll.cons (QOp.yp hT Y Y Y Y Y Y Y) (qp hT Y (QAll.cons (QOp.pk hT Y Y Y Y hb10 Y) (QAll.cons (QOp.yp hT Y Y Y Y Y Y Y) (QAll.cons (QOp.yp hT Y Y Y Y Y Y Y) (QAll.cons (QOp.yp hT Y Y Y Y Y Y Y) (QAll.cons (QOp.y Y Y Y Y (lP hT 0 Y) Y Y) (QAll.cons (QOp.yp hT Y Y Y Y Y Y Y) (QAll.cons (QOp.yp hT Y Y Y Y Y Y Y) (qp hT Y QAll.nil)))))))))) ?_)
 exact AtE.then_n ((HK4 _ () _ H).pickP (ts := [53, 1, 3]) (is := [1]) Y Y (by decide) Y)
 refine AtC.exit (AtE.then_x (AtE.then_x (AtE.blk_hit (tg (sR ?_)))))
 refine pu hT 1 Y (ng (AtC.ret ?_))
 exact r1 2 Y Y Y H
theorem lift_law12uOdd (l : Sl) (w : World) (m : Heap) (hr : Rel ⟨m, []⟩ w.heap) (S : Bool → Heap → Prop) (H : law12uOdd l m S) :
 Calls Tryz.prog 18 #[Sl.toV l] w (Post ⟨w, m⟩ Value.bool S) := by
 refine Calls.lift (args := [Sl.toV l]) Tryz.func18 Y Tryz.ntmps18 (Nat.le_of_ble_eq_true Y) hr (law12uOdd l m S) H (fun H => ?_)
 refine AtC.pick (ts := [0]) Y ?_
 unfold law12uOdd at H
 refine sR (pu hT 1 Y (ng (AtC.seq (sR (pu hT 3 Y ?_)))))
 refine ng (AtC.block ?_)
 refine AtC.loopM (fun (s0 : Int) => [(9, Value.int .i64 s0)]) (fun (s0 : Int) => []) [7, 8] [9, 7, 8] [] [] H Y Y Y (by decide) Y (fun Kp1 s0 h0 H Q1 HK1 => ?_)
 refine sR (pu hT 1 Y (ng (AtC.seq ?_)))
 refine AtC.condB H Y (fun H => ?_) (fun H => ?_)
 refine AtC.skip (tg (AtC.seq (AtC.block (sR ?_))))
 obtain ⟨a_, hc1, hd1, H⟩ := H
 refine AtL.q Y (Quiet1.idxS hT Y Y Y Y Y hc1 hd1) ?_
 obtain ⟨v, hc2, H⟩ := H
 refine AtL.q Y (Quiet1.loadS hT Y Y Y Y hc2) (AtL.e Y (EffX.allocP (cs := [_, _, _, _]) hT Y Y H) ?_)
 rintro _ _ ⟨b, _, rfl, rfl, _, H⟩
 replace H := H.self
 refine AtL.e Y (EffX.storeSP (i := 0) (qv := [(_, [_, _, _, _])]) hT Y Y Y Y Y Y Y Y Y Y) ?_
 rintro _ _ rfl
 refine ng (AtC.seq ?_)
 refine AtC.joinSeq (β := Unit) (fun (t0 : Bool) (bb : Unit) => [(27, Value.bool t0)]) (fun (t0 : Bool) (bb : Unit) => []) [4, 7, 8, 9] [0] H Y Y (fun t0 bb h0u2 H => ?_) (fun J4 H HK4 => ?_)
 refine AtC.condB H Y (fun H => ?_) (fun H => ?_)
 refine sR (pu hT 1 Y (ng (AtC.ret (AtE.then_r (AtE.blk_r ?_)))))
 refine AtE.then_r (AtE.then_r (AtE.blk_r (AtE.then_r ?_)))
 exact r1 2 Y Y Y H
 refine AtC.skip (tg (sR (pu hT 1 Y (AtL.q Y (lP hT 0 Y) (pu hT 2 Y ?_)))))
 refine ng (AtC.block ?_)
 refine AtC.loopM (fun (s0u1 : Int) => [(31, Value.int .i64 s0u1)]) (fun (s0u1 : Int) => []) [7, 8, 9, 29, 30] [31, 7, 8, 9, 29, 30] [] [] H Y Y Y (by decide) Y (fun Kp5 s0u1 h0u6 H Q5 HK5 => ?_)
 refine sR (pu hT 1 Y (ng (AtC.seq ?_)))
 refine AtC.condB H Y (fun H => ?_) (fun H => ?_)
 refine AtC.skip (tg (AtC.seq (AtC.block (sR ?_))))
 obtain ⟨a_2_, hc5, hd5, H⟩ := H
 refine AtL.q Y (Quiet1.idxS hT Y Y Y Y Y hc5 hd5) ?_
 obtain ⟨v_4, hc6, H⟩ := H
 refine AtL.q Y (Quiet1.loadS hT Y Y Y Y hc6) (AtL.e Y (EffX.allocP (cs := [_, _, _, _]) hT Y Y H) ?_)
 rintro _ _ ⟨b_1, _, rfl, rfl, _, H⟩
 replace H := H.self
 refine AtL.e Y (EffX.storeSP (i := 0) (qv := [(_, [_, _, _, _])]) hT Y Y Y Y Y Y Y Y Y Y) ?_
 rintro _ _ rfl
 refine ng (sR (pu hT 1 Y (AtL.q Y (lS hT 0 [_, _, _] Y Y Y Y Y Y Y Y) ?_)))
 refine AtLX.bs (hT := hT) (cs := [_, _, _]) H Y Y Y Y Y Y Y Y Y (fun a_3 h0u8 H => ?_)
 refine AtL.e Y (cl (fun h => law02uGreat _ h _) H Y Tryz.call10 Y (fun w m hr hw => lift_law02uGreat _ w m hr _ hw)) ?_
 rintro _ _ ⟨v_6, h0u9, rfl, rfl, H⟩
 refine ng ?_
 refine AtC.condB H Y (fun H => ?_) (fun H => ?_)
 refine sR (pu hT 1 Y (ng (AtC.ret (AtE.blk_r (AtE.then_r ?_)))))
 refine AtE.then_r (AtE.blk_r (AtE.blk_r (AtE.then_r (AtE.then_r (AtE.blk_r ?_)))))
 refine AtE.then_r ?_
 exact r1 2 Y Y Y H
 refine AtC.skip (AtE.blk_n (tg (AtC.region (pu hT 2 Y (AtL.nil ?_)))))
 exact AtE.then_n ((HK5 _ _ H).pickP (ts := [31, 7, 8, 9, 29, 30]) (is := []) Y Y (by decide) Y)
 refine AtC.exit (AtE.then_x (AtE.then_x (AtE.blk_hit (AtE.blk_n (tg ?_)))))
 refine AtC.region (pu hT 2 Y (AtL.nil ?_))
 exact AtE.then_n ((HK1 _ _ H).pickP (ts := [9, 7, 8]) (is := []) Y Y (by decide) Y)
 refine AtC.region (pu hT 1 Y (AtL.q Y (lP hT 0 Y) (pu hT 3 Y ?_)))
 refine AtL.splitB (t := 17) H Y (fun H => ?_) (fun H => ?_)
 refine nf Y (nf Y (nf Y (nf Y (pu hT 2 Y (nf Y ?_)))))
 refine nf Y (nf Y (pu hT 1 Y (AtL.nil ?_)))
 exact AtE.then_n ((HK4 _ () _ H).pickP (ts := [27, 4, 7, 8, 9]) (is := [0]) Y Y (by decide) Y)
 refine ys Y (pu hT 1 Y (ys Y (AtL.q Y (lS hT 0 [_, _, _] Y Y Y Y Y Y Y Y) (ys Y ?_))))
 refine AtLX.bs (hT := hT) (cs := [_, _, _]) H Y Y Y Y Y Y Y Y Y (fun a_1 h0u3 H => ?_)
 refine ys Y (AtL.e Y (cl (fun h => law02uGreat _ h _) H Y Tryz.call10 Y (fun w m hr hw => lift_law02uGreat _ w m hr _ hw)) ?_)
 rintro _ _ ⟨v_2, h0u4, rfl, rfl, H⟩
 refine pu hT 2 Y ?_
 refine AtL.splitB (t := 23) H Y (fun H => ?_) (fun H => ?_)
 refine nf Y (nf Y (nf Y (pu hT 1 Y (AtL.nil ?_))))
 exact AtE.then_n ((HK4 _ () _ H).pickP (ts := [27, 4, 7, 8, 9]) (is := [0]) Y Y (by decide) Y)
 refine ys Y (AtL.q Y (lS hT 0 [_, _, _, _] Y Y Y Y Y Y Y Y) (ys Y (AtL.e Y (cl (fun h => ref12uRight _ h _) H Y Tryz.call35 Y (fun w m hr hw => lift_ref12uRight _ w m hr _ hw)) ?_)))
 rintro _ _ ⟨v_3, h0u5, rfl, rfl, H⟩
 refine ys Y (pu hT 1 Y (pu hT 1 Y (AtL.nil ?_)))
 exact AtE.then_n ((HK4 _ () _ H).pickP (ts := [27, 4, 7, 8, 9]) (is := [0]) Y Y (by decide) Y)
 refine AtC.exit (AtE.then_x (AtE.then_x (AtE.blk_hit (tg (sR ?_)))))
 refine pu hT 1 Y (ng (AtC.ret ?_))
 exact r1 2 Y Y Y H
theorem lift_ref03uRight (x0 : Bool × Sl × Sl × Bool × Sl × Sl) (w : World) (m : Heap) (hr : Rel ⟨m, []⟩ w.heap) (S : Bool → Heap → Prop) (H : ref03uRight x0 m S) :
 Calls Tryz.prog 54 #[Value.agg (C_bool_sl_sl_bool_sl_sl x0).toArray] w (Post ⟨w, m⟩ Value.bool S) := by
 refine Calls.lift (args := [Value.agg (C_bool_sl_sl_bool_sl_sl x0).toArray]) Tryz.func54 Y Tryz.ntmps54 (Nat.le_of_ble_eq_true Y) hr (ref03uRight x0 m S) H (fun H => ?_)
 refine AtC.pick (ts := [0]) Y ?_
 unfold ref03uRight at H
 refine sR (AtL.e Y (EffX.boxP (cs := [_, _, _, _, _, _]) Y Y Y H) ?_)
 rintro _ _ ⟨b, _, rfl, rfl, _, H⟩
 replace H := H.self
 refine pu hT 1 Y (ng ?_)
 refine AtC.joinSeq (β := Unit) (fun (t0 : Bool) (bb : Unit) => [(2, Value.bool t0)]) (fun (t0 : Bool) (bb : Unit) => []) [] [] H Y Y (fun t0 bb h0u1 H => ?_) (fun J1 H HK1 => ?_)
 refine AtC.ret ?_
 exact r1 2 Y Y Y H
 refine AtC.region (pu hT 1 Y (AtL.q Y (lS hT 0 [_, _, _] Y Y Y Y Y Y Y Y) (AtL.e Y (cl (fun h => ref02uRight _ h _) H Y Tryz.call11 Y (fun w m hr hw => lift_ref02uRight _ w m hr _ hw)) ?_)))
 rintro _ _ ⟨v, h0u2, rfl, rfl, H⟩
 refine pu hT 1 Y ?_
 refine AtL.splitB (t := 6) H Y (fun H => ?_) (fun H => ?_)
 refine ys Y (pu hT 1 Y (ys Y (AtL.q Y (lS hT 0 [_, _, _] Y Y Y Y Y Y Y Y) (ys Y (AtL.e Y (cl (fun h => ref02uRight _ h _) H Y Tryz.call11 Y (fun w m hr hw => lift_ref02uRight _ w m hr _ hw)) ?_)))))
 rintro _ _ ⟨v_1, h0u3, rfl, rfl, H⟩
 refine pu hT 2 Y (AtL.nil ?_)
 exact AtE.then_n ((HK1 _ () _ H).pickP (ts := [2]) (is := []) Y Y (by decide) Y)
 refine nf Y (nf Y (nf Y (pu hT 2 Y (AtL.nil ?_))))
 exact AtE.then_n ((HK1 _ () _ H).pickP (ts := [2]) (is := []) Y Y (by decide) Y)
theorem lift_law03uOdd (l : Sl) (w : World) (m : Heap) (hr : Rel ⟨m, []⟩ w.heap) (S : Bool → Heap → Prop) (H : law03uOdd l m S) :
 Calls Tryz.prog 19 #[Sl.toV l] w (Post ⟨w, m⟩ Value.bool S) := by
 refine Calls.lift (args := [Sl.toV l]) Tryz.func19 Y Tryz.ntmps19 (Nat.le_of_ble_eq_true Y) hr (law03uOdd l m S) H (fun H => ?_)
 refine AtC.pick (ts := [0]) Y ?_
 unfold law03uOdd at H
 refine sR (pu hT 1 Y (ng (AtC.seq (sR (pu hT 3 Y ?_)))))
 refine ng (AtC.block ?_)
 refine AtC.loopM (fun (s0 : Int) => [(7, Value.int .i64 s0)]) (fun (s0 : Int) => []) [5, 6] [7, 5, 6] [] [] H Y Y Y (by decide) Y (fun Kp1 s0 h0 H Q1 HK1 => ?_)
 refine sR (pu hT 1 Y (ng (AtC.seq ?_)))
 refine AtC.condB H Y (fun H => ?_) (fun H => ?_)
 refine AtC.skip (tg (AtC.seq (AtC.block (sR ?_))))
 obtain ⟨a_, hc1, hd1, H⟩ := H
 refine AtL.q Y (Quiet1.idxS hT Y Y Y Y Y hc1 hd1) ?_
 obtain ⟨v, hc2, H⟩ := H
 refine AtL.q Y (Quiet1.loadS hT Y Y Y Y hc2) (AtL.e Y (EffX.allocP (cs := [_, _, _, _, _, _]) hT Y Y H) ?_)
 rintro _ _ ⟨b, _, rfl, rfl, _, H⟩
 replace H := H.self
 refine AtL.e Y (EffX.storeSP (i := 0) (qv := [(_, [_, _, _, _, _, _])]) hT Y Y Y Y Y Y Y Y Y Y) ?_
 rintro _ _ rfl
 refine ng ?_
 refine AtC.joinSeq (β := Unit) (fun (t0 : Bool) (bb : Unit) => [(21, Value.bool t0)]) (fun (t0 : Bool) (bb : Unit) => []) [5, 6, 7] [] H Y Y (fun t0 bb h0u2 H => ?_) (fun J4 H HK4 => ?_)
 refine AtC.condB H Y (fun H => ?_) (fun H => ?_)
 refine sR (pu hT 1 Y (ng (AtC.ret (AtE.blk_r (AtE.then_r ?_)))))
 refine AtE.then_r (AtE.blk_r (AtE.then_r ?_))
 exact r1 2 Y Y Y H
 refine AtC.skip (AtE.blk_n (tg (AtC.region (pu hT 2 Y (AtL.nil ?_)))))
 exact AtE.then_n ((HK1 _ _ H).pickP (ts := [7, 5, 6]) (is := []) Y Y (by decide) Y)
 refine AtC.region (pu hT 1 Y (AtL.q Y (lS hT 0 [_, _, _] Y Y Y Y Y Y Y Y) (pu hT 1 Y (AtL.q Y (lS hT 0 [_, _, _] Y Y Y Y Y Y Y Y) ?_))))
 refine AtLX.bs (hT := hT) (cs := [_, _, _, _, _, _]) H Y Y Y Y Y Y Y Y Y (fun a_1 h0u3 H => ?_)
 refine AtL.e Y (cl (fun h => law02uGreat _ h _) H Y Tryz.call10 Y (fun w m hr hw => lift_law02uGreat _ w m hr _ hw)) ?_
 rintro _ _ ⟨v_2, h0u4, rfl, rfl, H⟩
 refine pu hT 1 Y ?_
 refine AtL.splitB (t := 17) H Y (fun H => ?_) (fun H => ?_)
 refine nf Y (nf Y (nf Y (pu hT 1 Y (AtL.nil ?_))))
 exact AtE.then_n ((HK4 _ () _ H).pickP (ts := [21, 5, 6, 7]) (is := []) Y Y (by decide) Y)
 refine ys Y (AtL.q Y (lS hT 0 [_, _, _, _, _, _] Y Y Y Y Y Y Y Y) (ys Y (AtL.e Y (cl (fun h => ref03uRight _ h _) H Y Tryz.call54 Y (fun w m hr hw => lift_ref03uRight _ w m hr _ hw)) ?_)))
 rintro _ _ ⟨v_3, h0u5, rfl, rfl, H⟩
 refine ys Y (pu hT 1 Y (pu hT 1 Y (AtL.nil ?_)))
 exact AtE.then_n ((HK4 _ () _ H).pickP (ts := [21, 5, 6, 7]) (is := []) Y Y (by decide) Y)
 refine AtC.exit (AtE.then_x (AtE.then_x (AtE.blk_hit (tg (sR ?_)))))
 refine pu hT 1 Y (ng (AtC.ret ?_))
 exact r1 2 Y Y Y H
theorem lift_law16uGreat (p : Int × Int × Sl × Sl × Sl × Sl × Sl) (list : Sl) (w : World) (m : Heap) (hr : Rel ⟨m, []⟩ w.heap) (S : Bool → Heap → Prop) (H : law16uGreat p list m S) :
 Calls Tryz.prog 7 #[Value.agg (C_i64ui64usl_sl_sl_sl_sl p).toArray, Sl.toV list] w (Post ⟨w, m⟩ Value.bool S) := by
 refine Calls.lift (args := [Value.agg (C_i64ui64usl_sl_sl_sl_sl p).toArray, Sl.toV list]) Tryz.func7 Y Tryz.ntmps7 (Nat.le_of_ble_eq_true Y) hr (law16uGreat p list m S) H (fun H => ?_)
 refine AtC.pick (ts := [0, 1]) Y ?_
 unfold law16uGreat at H
 refine sR (AtL.e Y (EffX.boxP (cs := [_, _, _, _, _, _, _]) Y Y Y H) ?_)
 rintro _ _ ⟨b, _, rfl, rfl, _, H⟩
 replace H := H.self
 refine pu hT 1 Y (ng (AtC.seq ?_))
 refine AtC.joinSeq (β := Unit) (fun (t0 : Bool) (bb : Unit) => [(38, Value.bool t0)]) (fun (t0 : Bool) (bb : Unit) => []) [1, 2] [0] H Y Y (fun t0 bb h0u1 H => ?_) (fun J1 H HK1 => ?_)
 refine AtC.condB H Y (fun H => ?_) (fun H => ?_)
 refine sR (pu hT 1 Y (ng (AtC.ret (AtE.then_r ?_))))
 exact r1 4 Y Y Y H
 refine AtC.skip (tg (AtC.seq (sR (pu hT 1 Y (AtL.q Y (lP hT 0 Y) ?_)))))
 refine pu hT 2 Y (ng (AtC.block ?_))
 refine AtC.loopM (fun (s0 : Int) => [(42, Value.int .i64 s0)]) (fun (s0 : Int) => []) [1, 2, 40, 41] [42, 1, 2, 40, 41] [0] [0] H Y Y Y (by decide) Y (fun Kp2 s0 h0u2 H Q2 HK2 => ?_)
 refine sR (pu hT 1 Y (ng (AtC.seq ?_)))
 refine AtC.condB H Y (fun H => ?_) (fun H => ?_)
 refine AtC.skip (tg (AtC.seq (AtC.block (sR ?_))))
 obtain ⟨a_, hc2, hd2, H⟩ := H
 refine AtL.q Y (Quiet1.idxS hT Y Y Y Y Y hc2 hd2) ?_
 obtain ⟨v, hc3, H⟩ := H
 refine AtL.q Y (Quiet1.loadS hT Y Y Y Y hc3) (AtL.e Y (EffX.allocP (cs := [_, _, _, _]) hT Y Y H) ?_)
 rintro _ _ ⟨b_1, _, rfl, rfl, _, H⟩
 replace H := H.self
 refine AtL.e Y (EffX.storeSP (i := 0) (qv := [(_, [_, _, _, _]), (_, [_, _, _, _, _, _, _])]) hT Y Y Y Y Y Y Y Y Y Y) ?_
 rintro _ _ rfl
 refine ng ?_
 refine AtC.joinSeq (β := Unit) (fun (t0u1 : Bool) (bb_1 : Unit) => [(54, Value.bool t0u1)]) (fun (t0u1 : Bool) (bb_1 : Unit) => []) [1, 2, 40, 41, 42] [1] H Y Y (fun t0u1 bb_1 h0u4 H => ?_) (fun J5 H HK5 => ?_)
 refine AtC.condB H Y (fun H => ?_) (fun H => ?_)
 refine sR (pu hT 1 Y (ng (AtC.ret (AtE.blk_r (AtE.then_r ?_)))))
 refine AtE.then_r (AtE.blk_r (AtE.then_r ?_))
 exact r1 4 Y Y Y H
 refine AtC.skip (AtE.blk_n (tg (AtC.region (pu hT 2 Y (AtL.nil ?_)))))
 exact AtE.then_n ((HK2 _ _ H).pickP (ts := [42, 1, 2, 40, 41]) (is := [0]) Y Y (by decide) Y)
 refine AtC.region (pu hT 1 Y (AtL.q Y (lP hT 0 Y) (pu hT 3 Y ?_)))
 refine AtL.splitB (t := 50) H Y (fun H => ?_) (fun H => ?_)
 refine nf Y (nf Y (nf Y (pu hT 1 Y (AtL.nil ?_))))
 exact AtE.then_n ((HK5 _ () _ H).pickP (ts := [54, 1, 2, 40, 41, 42]) (is := [1]) Y Y (by decide) Y)
 refine ys Y (AtL.q Y (lS hT 0 [_, _, _, _] Y Y Y Y Y Y Y Y) (ys Y ?_))
 refine AtLX.bs (hT := hT) (cs := [_, _, _, _]) H Y Y Y Y Y Y Y Y Y (fun a_1 h0u5 H => ?_)
 refine ys Y (AtL.e Y (cl (fun h => law12uOdd _ h _) H Y Tryz.call18 Y (fun w m hr hw => lift_law12uOdd _ w m hr _ hw)) ?_)
 rintro _ _ ⟨v_2, h0u6, rfl, rfl, H⟩
 refine pu hT 1 Y (AtL.nil ?_)
 exact AtE.then_n ((HK5 _ () _ H).pickP (ts := [54, 1, 2, 40, 41, 42]) (is := [1]) Y Y (by decide) Y)
 refine AtC.exit (AtE.then_x (AtE.then_x (AtE.blk_hit (tg (AtC.seq ?_)))))
 refine sR (pu hT 1 Y (AtL.q Y (lP hT 0 Y) (pu hT 2 Y (ng (AtC.block ?_)))))
 refine AtC.loopM (fun (s0u1 : Int) => [(59, Value.int .i64 s0u1)]) (fun (s0u1 : Int) => []) [1, 2, 57, 58] [59, 1, 2, 57, 58] [0] [0] H Y Y Y (by decide) Y (fun Kp6 s0u1 h0u7 H Q6 HK6 => ?_)
 refine sR (pu hT 1 Y (ng (AtC.seq ?_)))
 refine AtC.condB H Y (fun H => ?_) (fun H => ?_)
 refine AtC.skip (tg (AtC.seq (AtC.block (sR ?_))))
 obtain ⟨a_2_, hc6, hd6, H⟩ := H
 refine AtL.q Y (Quiet1.idxS hT Y Y Y Y Y hc6 hd6) ?_
 obtain ⟨v_3, hc7, H⟩ := H
 refine AtL.q Y (Quiet1.loadS hT Y Y Y Y hc7) (AtL.e Y (EffX.allocP (cs := [_, _, _, _, _, _, _, _, _]) hT Y Y H) ?_)
 rintro _ _ ⟨b_2, _, rfl, rfl, _, H⟩
 replace H := H.self
 refine AtL.e Y (EffX.storeSP (i := 0) (qv := [(_, [_, _, _, _, _, _, _, _, _]), (_, [_, _, _, _, _, _, _])]) hT Y Y Y Y Y Y Y Y Y Y) ?_
 rintro _ _ rfl
 refine ng (sR (pu hT 1 Y (AtL.q Y (lS hT 0 [_, _, _, _, _, _] Y Y Y Y Y Y Y Y) ?_)))
 refine AtLX.bs (hT := hT) (cs := [_, _, _, _, _, _]) H Y Y Y Y Y Y Y Y Y (fun a_3 h0u9 H => ?_)
 refine AtL.e Y (cl (fun h => law03uOdd _ h _) H Y Tryz.call19 Y (fun w m hr hw => lift_law03uOdd _ w m hr _ hw)) ?_
 rintro _ _ ⟨v_5, h0u10, rfl, rfl, H⟩
 refine ng ?_
 refine AtC.condB H Y (fun H => ?_) (fun H => ?_)
 refine sR (pu hT 1 Y (ng (AtC.ret (AtE.blk_r (AtE.then_r ?_)))))
 refine AtE.then_r (AtE.blk_r (AtE.then_r ?_))
 exact r1 4 Y Y Y H
 refine AtC.skip (AtE.blk_n (tg (AtC.region (pu hT 2 Y (AtL.nil ?_)))))
 exact AtE.then_n ((HK6 _ _ H).pickP (ts := [59, 1, 2, 57, 58]) (is := [1]) Y Y (by decide) Y)
 refine AtC.exit (AtE.then_x (AtE.then_x (AtE.blk_hit (tg (AtC.seq ?_)))))
 refine sR (pu hT 1 Y (AtL.q Y (lP hT 0 Y) (pu hT 2 Y (ng (AtC.block ?_)))))
 refine AtC.loopM (fun (s0u2 : Int) => [(71, Value.int .i64 s0u2)]) (fun (s0u2 : Int) => []) [1, 69, 70] [71, 1, 69, 70] [] [] H Y Y Y (by decide) Y (fun Kp9 s0u2 h0u11 H Q9 HK9 => ?_)
 refine sR (pu hT 1 Y (ng (AtC.seq ?_)))
 refine AtC.condB H Y (fun H => ?_) (fun H => ?_)
 refine AtC.skip (tg (AtC.seq (AtC.block (sR ?_))))
 obtain ⟨a_4_, hc9, hd9, H⟩ := H
 refine AtL.q Y (Quiet1.idxS hT Y Y Y Y Y hc9 hd9) ?_
 obtain ⟨v_6, hc10, H⟩ := H
 refine AtL.q Y (Quiet1.load hT Y Y Y hc10) (pu hT 1 Y (ng (sR (pu hT 3 Y (ng ?_)))))
 refine AtC.condB H Y (fun H => ?_) (fun H => ?_)
 refine sR (pu hT 1 Y (ng (AtC.ret (AtE.blk_r (AtE.then_r ?_)))))
 refine AtE.then_r (AtE.blk_r (AtE.then_r ?_))
 exact r1 4 Y Y Y H
 refine AtC.skip (AtE.blk_n (tg (AtC.region (pu hT 2 Y (AtL.nil ?_)))))
 exact AtE.then_n ((HK9 _ _ H).pickP (ts := [71, 1, 69, 70]) (is := []) Y Y (by decide) Y)
 refine AtC.exit (AtE.then_x (AtE.then_x (AtE.blk_hit (tg (AtC.seq ?_)))))
 refine sR (pu hT 3 Y (ng (AtC.block ?_)))
 refine AtC.loopM (fun (s0u3 : Int) => [(81, Value.int .i64 s0u3)]) (fun (s0u3 : Int) => []) [79, 80] [81, 79, 80] [] [] H Y Y Y (by decide) Y (fun Kp12 s0u3 h0u12 H Q12 HK12 => ?_)
 refine sR (pu hT 1 Y (ng (AtC.seq ?_)))
 refine AtC.condB H Y (fun H => ?_) (fun H => ?_)
 refine AtC.skip (tg (AtC.seq (AtC.block (sR ?_))))
 obtain ⟨a_5_, hc12, hd12, H⟩ := H
 refine AtL.q Y (Quiet1.idxS hT Y Y Y Y Y hc12 hd12) ?_
 obtain ⟨v_7, hc13, H⟩ := H
 refine AtL.q Y (Quiet1.loadS hT Y Y Y Y hc13) (AtL.e Y (EffX.allocP (cs := [_, _, _, _]) hT Y Y H) ?_)
 rintro _ _ ⟨b_3, _, rfl, rfl, _, H⟩
 replace H := H.self
 refine AtL.e Y (EffX.storeSP (i := 0) (qv := [(_, [_, _, _, _])]) hT Y Y Y Y Y Y Y Y Y Y) ?_
 rintro _ _ rfl
 refine ng (sR (pu hT 1 Y (AtL.q Y (lS hT 0 [_, _, _] Y Y Y Y Y Y Y Y) ?_)))
 refine AtLX.bs (hT := hT) (cs := [_, _, _]) H Y Y Y Y Y Y Y Y Y (fun a_6 h0u14 H => ?_)
 refine AtL.e Y (cl (fun h => law02uGreat _ h _) H Y Tryz.call10 Y (fun w m hr hw => lift_law02uGreat _ w m hr _ hw)) ?_
 rintro _ _ ⟨v_9, h0u15, rfl, rfl, H⟩
 refine ng ?_
 refine AtC.condB H Y (fun H => ?_) (fun H => ?_)
 refine sR (pu hT 1 Y (ng (AtC.ret (AtE.blk_r (AtE.then_r ?_)))))
 refine AtE.then_r (AtE.blk_r (AtE.then_r ?_))
 exact r1 4 Y Y Y H
 refine AtC.skip (AtE.blk_n (tg (AtC.region (pu hT 2 Y (AtL.nil ?_)))))
 exact AtE.then_n ((HK12 _ _ H).pickP (ts := [81, 79, 80]) (is := []) Y Y (by decide) Y)
 refine AtC.exit (AtE.then_x (AtE.then_x (AtE.blk_hit (tg (sR ?_)))))
 refine pu hT 1 Y (ng (AtC.ret ?_))
 exact r1 4 Y Y Y H
 refine AtC.region (pu hT 1 Y (AtL.q Y (lP hT 0 Y) (pu hT 2 Y ?_)))
 refine AtL.splitB (t := 16) H Y (fun H => ?_) (fun H => ?_)
 refine nf Y (nf Y (nf Y (nf Y (pu hT 2 Y (nf Y ?_)))))
 refine nf Y (nf Y (nf Y (pu hT 2 Y (nf Y (nf Y ?_)))))
 refine nf Y (nf Y (pu hT 2 Y (nf Y (nf Y (nf Y ?_)))))
 refine pu hT 1 Y (AtL.nil ?_)
 exact AtE.then_n ((HK1 _ () _ H).pickP (ts := [38, 1, 2]) (is := [0]) Y Y (by decide) Y)
 refine ys Y (pu hT 1 Y (ys Y (AtL.q Y (lP hT 0 Y) (ys Y (pu hT 1 Y ?_)))))
 refine ys Y (pu hT 1 Y (pu hT 2 Y ?_))
 refine AtL.splitB (t := 22) H Y (fun H => ?_) (fun H => ?_)
 refine nf Y (nf Y (nf Y (nf Y (pu hT 2 Y (nf Y ?_)))))
 refine nf Y (nf Y (nf Y (pu hT 2 Y (nf Y (nf Y ?_)))))
 refine nf Y (pu hT 1 Y (AtL.nil ?_))
 exact AtE.then_n ((HK1 _ () _ H).pickP (ts := [38, 1, 2]) (is := [0]) Y Y (by decide) Y)
 refine ys Y (pu hT 1 Y (ys Y (AtL.q Y (lP hT 0 Y) (ys Y (pu hT 1 Y ?_)))))
 refine ys Y (pu hT 1 Y (pu hT 2 Y ?_))
 refine AtL.splitB (t := 28) H Y (fun H => ?_) (fun H => ?_)
 refine nf Y (nf Y (nf Y (nf Y (pu hT 2 Y (nf Y ?_)))))
 refine nf Y (nf Y (pu hT 1 Y (AtL.nil ?_)))
 exact AtE.then_n ((HK1 _ () _ H).pickP (ts := [38, 1, 2]) (is := [0]) Y Y (by decide) Y)
 refine ys Y (pu hT 1 Y (ys Y (AtL.q Y (lP hT 0 Y) (ys Y (pu hT 1 Y ?_)))))
 refine ys Y (pu hT 1 Y (pu hT 2 Y ?_))
 refine AtL.splitB (t := 34) H Y (fun H => ?_) (fun H => ?_)
 refine nf Y (nf Y (nf Y (pu hT 1 Y (AtL.nil ?_))))
 exact AtE.then_n ((HK1 _ () _ H).pickP (ts := [38, 1, 2]) (is := [0]) Y Y (by decide) Y)
 refine ys Y (pu hT 1 Y (ys Y (pu hT 1 Y (ys Y (pu hT 1 Y ?_)))))
 refine pu hT 1 Y (AtL.nil ?_)
 exact AtE.then_n ((HK1 _ () _ H).pickP (ts := [38, 1, 2]) (is := [0]) Y Y (by decide) Y)
theorem lift_ref02uNeg (x0 : Bool × Sl × Sl) (w : World) (m : Heap) (hr : Rel ⟨m, []⟩ w.heap) (S : (Bool × Sl × Sl) → Heap → Prop) (H : ref02uNeg x0 m S) :
 Calls Tryz.prog 93 #[Value.agg (C_bool_sl_sl x0).toArray] w (Post ⟨w, m⟩ (fun r => Value.agg (C_bool_sl_sl r).toArray) S) := by
 refine Calls.lift (args := [Value.agg (C_bool_sl_sl x0).toArray]) Tryz.func93 Y Tryz.ntmps93 (Nat.le_of_ble_eq_true Y) hr (ref02uNeg x0 m S) H (fun H => ?_)
 refine AtC.pick (ts := [0]) Y ?_
 unfold ref02uNeg at H
 refine sR (AtL.e Y (EffX.boxP (cs := [_, _, _]) Y Y Y H) ?_)
 rintro _ _ ⟨b, _, rfl, rfl, _, H⟩
 refine AtL.e Y (EffX.allocP (cs := [_, _, _]) hT Y Y H) ?_
 rintro _ _ ⟨b_1, _, rfl, rfl, _, H⟩
 refine AtL.nil ?_
 replace H := H.self
 refine tg ?_
 refine AtC.joinSeq (β := Unit) (fun (t0 : Bool × Sl × Sl) (bb : Unit) => []) (fun (t0 : Bool × Sl × Sl) (bb : Unit) => [(b_1, [Value.bool t0.1, Sl.toV t0.2.1, Sl.toV t0.2.2])]) [2] [] H Y Y (fun t0 bb h0u1 H => ?_) (fun J1 H HK1 => ?_)
 refine AtC.ret ?_
 exact AtE.retN (rs := [.cell 2 55]) Y (ResAll.cons (ResAt.cellSP (i := 0) (l := [_, _, _]) hT Y Y Y Y Y Y Y) ResAll.nil) Y H
 refine AtC.region (pu hT 1 Y (AtL.q Y (lP hT 1 Y) (pu hT 2 Y ?_)))
 refine AtL.splitB (t := 6) H Y (fun H => ?_) (fun H => ?_)
 refine ys Y (pu hT 1 Y (ys Y (AtL.q Y (lP hT 1 Y) (ys Y (pu hT 1 Y ?_)))))
 refine ys Y (pu hT 1 Y (pu hT 2 Y (AtL.q Y (lP hT 1 Y) (pu hT 1 Y (AtL.q Y (lP hT 1 Y) ?_)))))
 refine AtL.q Y (Quiet1.build (cs := [_, _, _]) hT Y Y Y Y Y Y) (AtL.e Y (EffX.storeSP (i := 0) (qv := [(_, [_, _, _]), (_, [_, _, _])]) hT Y Y Y Y Y Y Y Y Y Y) ?_)
 rintro _ _ rfl
 refine AtL.nil ?_
 exact AtE.then_n ((HK1 _ () _ H).pickP (ts := [2]) (is := [0]) Y Y (by decide) Y)
 refine nf Y (nf Y (nf Y (nf Y (pu hT 2 Y (AtL.q Y (lP hT 1 Y) ?_)))))
 refine pu hT 1 Y (AtL.q Y (lP hT 1 Y) (AtL.q Y (Quiet1.build (cs := [_, _, _]) hT Y Y Y Y Y Y) (AtL.e Y (EffX.storeSP (i := 0) (qv := [(_, [_, _, _]), (_, [_, _, _])]) hT Y Y Y Y Y Y Y Y Y Y) ?_)))
 rintro _ _ rfl
 refine AtL.nil ?_
 exact AtE.then_n ((HK1 _ () _ H).pickP (ts := [2]) (is := [0]) Y Y (by decide) Y)
theorem lift_ref01uMul (x0 : Sl) (y : Sl) (w : World) (m : Heap) (hr : Rel ⟨m, []⟩ w.heap) (S : Sl → Heap → Prop) (H : ref01uMul x0 y m S) :
 Calls Tryz.prog 117 #[Sl.toV x0, Sl.toV y] w (Post ⟨w, m⟩ Sl.toV S) := by
 refine Calls.lift (args := [Sl.toV x0, Sl.toV y]) Tryz.func117 Y Tryz.ntmps117 (Nat.le_of_ble_eq_true Y) hr (ref01uMul x0 y m S) H (fun H => ?_)
 refine AtC.pick (ts := [0, 1]) Y ?_
 unfold ref01uMul at H
 refine sR (pu hT 1 Y (ng (sR (pu hT 6 Y ?_))))
 replace H := H _ rfl
 refine AtL.e Y (EffX.mkS hT Y Y Y Y Y Y Y Y (by decide) H) ?_
 rintro _ _ ⟨v, h0, rfl, rfl, H⟩
 refine pu hT 1 Y (ng (AtC.seq (sR (pu hT 1 Y (ng ?_)))))
 refine AtC.block ?_
 refine AtC.loopM (fun (s0 : Int) => [(6, Value.int .i64 s0)]) (fun (s0 : Int) => []) [0, 1, 5] [6, 0, 1, 5] [] [] H Y Y Y (by decide) Y (fun Kp1 s0 h0u1 H Q1 HK1 => ?_)
 refine AtC.seq (sR (pu hT 4 Y (ng ?_)))
 refine AtC.condB H Y (fun H => ?_) (fun H => ?_)
 refine AtC.skip (tg (AtC.seq (AtC.block (sR (pu hT 1 Y ?_)))))
 refine ng (sR (pu hT 1 Y (ng (AtC.block ?_))))
 refine AtC.loopM (fun (s0u1 : Int × Int) => [(7, Value.int .i64 s0u1.1), (8, Value.int .i64 s0u1.2)]) (fun (s0u1 : Int × Int) => []) [0, 1, 5, 6] [7, 8, 0, 1, 5, 6] [] [] H Y Y Y (by decide) Y (fun Kp2 s0u1 h0u2 H Q2 HK2 => ?_)
 refine AtC.seq ?_
 refine AtC.joinSeq (β := Unit) (fun (t0 : Bool) (bb : Unit) => [(30, Value.bool t0)]) (fun (t0 : Bool) (bb : Unit) => []) [0, 1, 5, 6, 7, 8] [] H Y Y (fun t0 bb h0u3 H => ?_) (fun J3 H HK3 => ?_)
 refine AtC.condB H Y (fun H => ?_) (fun H => ?_)
 refine AtC.skip (tg (AtC.seq (AtC.block (sR (pu hT 4 Y ?_)))))
 obtain ⟨a_, hc3, hd3, H⟩ := H
 refine AtL.q Y (Quiet1.idxS hT Y Y Y Y Y hc3 hd3) ?_
 obtain ⟨v_1, hc4, H⟩ := H
 refine AtL.q Y (Quiet1.load hT Y Y Y hc4) (pu hT 3 Y ?_)
 replace H := H _ rfl
 refine ng ?_
 refine AtC.joinSeq (β := Unit) (fun (t0u1 : Int) (bb_1 : Unit) => [(9, Value.int .i64 t0u1)]) (fun (t0u1 : Int) (bb_1 : Unit) => []) [0, 1, 5, 6, 8] [] H Y Y (fun t0u1 bb_1 h0u4 H => ?_) (fun J6 H HK6 => ?_)
 refine sR (pu hT 6 Y ?_)
 obtain ⟨a_3_, hc10, hd10, H⟩ := H
 refine AtL.q Y (Quiet1.idxS hT Y Y Y Y Y hc10 hd10) (AtL.e Y (EffX.store hT Y Y Y Y Y H) ?_)
 rintro _ _ ⟨h0u5, rfl, H⟩
 refine ng (AtC.region (pu hT 3 Y ?_))
 replace H := H _ rfl
 refine AtL.nil (AtE.blk_n (tg (AtC.region (pu hT 3 Y ?_))))
 replace H := H _ rfl
 refine AtL.nil ?_
 exact AtE.then_n ((HK2 _ _ H).pickP (ts := [7, 8, 0, 1, 5, 6]) (is := []) Y Y (by decide) Y)
 refine sR (pu hT 4 Y (ng ?_))
 refine AtC.condB H Y (fun H => ?_) (fun H => ?_)
 refine AtC.draw hmix (by kernel_rfl) (AtD.pures hT 3 _ _ _ _ Y ?_)
 obtain ⟨a_1_, hc6, hd6, H⟩ := H
 refine AtD.q Y (Quiet1.idxS hT Y Y Y Y Y hc6 hd6) ?_
 obtain ⟨v_2, hc7, H⟩ := H
 refine AtD.q Y (Quiet1.load hT Y Y Y hc7) (AtD.pures hT 2 _ _ _ _ Y ?_)
 obtain ⟨a_2_, hc8, hd8, H⟩ := H
 refine AtD.q Y (Quiet1.idxS hT Y Y Y Y Y hc8 hd8) ?_
 obtain ⟨v_3, hc9, H⟩ := H
 refine AtD.q Y (Quiet1.load hT Y Y Y hc9) (AtD.pures hT 3 _ _ _ _ Y ?_)
 replace H := H _ rfl
 refine AtD.nil ?_
 exact AtE.then_n ((HK6 _ () _ H).pickP (ts := [9, 0, 1, 5, 6, 8]) (is := []) Y Y (by decide) Y)
 refine AtC.skip ?_
 exact AtE.then_n ((HK6 _ () _ H).pickP (ts := [9, 0, 1, 5, 6, 8]) (is := []) Y Y (by decide) Y)
 refine AtC.exit (AtE.then_x (AtE.then_x (AtE.blk_hit (AtE.blk_n (tg ?_)))))
 refine AtC.region (pu hT 3 Y ?_)
 replace H := H _ rfl
 refine AtL.nil ?_
 exact AtE.then_n ((HK1 _ _ H).pickP (ts := [6, 0, 1, 5]) (is := []) Y Y (by decide) Y)
 refine AtC.region (pu hT 5 Y ?_)
 refine AtL.splitB (t := 27) H Y (fun H => ?_) (fun H => ?_)
 refine nf Y (nf Y (pu hT 1 Y (AtL.nil ?_)))
 exact AtE.then_n ((HK3 _ () _ H).pickP (ts := [30, 0, 1, 5, 6, 7, 8]) (is := []) Y Y (by decide) Y)
 refine ys Y (pu hT 1 Y (ys Y (pu hT 1 Y (pu hT 1 Y (AtL.nil ?_)))))
 exact AtE.then_n ((HK3 _ () _ H).pickP (ts := [30, 0, 1, 5, 6, 7, 8]) (is := []) Y Y (by decide) Y)
 refine AtC.exit (AtE.then_x (AtE.then_x (AtE.blk_hit (tg (sR ?_)))))
 refine pu hT 1 Y (AtL.e Y (cl (fun h => ref01uCut _ h _) H Y Tryz.call142 Y (fun w m hr hw => lift_ref01uCut _ w m hr _ hw)) ?_)
 rintro _ _ ⟨v_4, h0u6, rfl, rfl, H⟩
 refine pu hT 1 Y (ng (AtC.ret ?_))
 exact r1 4 Y Y Y H
theorem lift_ref01uAdd (x0 : Sl) (y : Sl) (w : World) (m : Heap) (hr : Rel ⟨m, []⟩ w.heap) (S : Sl → Heap → Prop) (H : ref01uAdd x0 y m S) :
 Calls Tryz.prog 118 #[Sl.toV x0, Sl.toV y] w (Post ⟨w, m⟩ Sl.toV S) := by
 refine Calls.lift (args := [Sl.toV x0, Sl.toV y]) Tryz.func118 Y Tryz.ntmps118 (Nat.le_of_ble_eq_true Y) hr (ref01uAdd x0 y m S) H (fun H => ?_)
 refine AtC.pick (ts := [0, 1]) Y ?_
 unfold ref01uAdd at H
 refine sR (pu hT 1 Y (ng (sR ?_)))
 refine AtLX.bs (hT := hT) (cs := []) H Y Y Y Y Y Y Y Y Y (fun a h0 H => ?_)
 refine pu hT 1 Y ?_
 replace H := H _ rfl
 refine ng (sR (pu hT 1 Y (ng (AtC.seq (sR ?_)))))
 refine pu hT 1 Y (ng (AtC.block ?_))
 refine AtC.loopM (fun (s0 : Sl × Int × Int) => [(5, Sl.toV s0.1), (6, Value.int .i64 s0.2.1), (7, Value.int .i64 s0.2.2)]) (fun (s0 : Sl × Int × Int) => []) [0, 1] [5, 6, 7, 0, 1] [] [] H Y Y Y (by decide) Y (fun Kp1 s0 h0u1 H Q1 HK1 => ?_)
 refine AtC.seq ?_
 refine AtC.joinSeq (β := Unit) (fun (t0 : Bool) (bb : Unit) => [(23, Value.bool t0)]) (fun (t0 : Bool) (bb : Unit) => []) [0, 1, 5, 6, 7] [] H Y Y (fun t0 bb h0u2 H => ?_) (fun J2 H HK2 => ?_)
 refine AtC.condB H Y (fun H => ?_) (fun H => ?_)
 refine AtC.skip (tg (AtC.seq (AtC.block (sR (pu hT 2 Y ?_)))))
 refine ng ?_
 refine AtC.joinSeq (β := Unit) (fun (t0u1 : Int) (bb_1 : Unit) => [(8, Value.int .i64 t0u1)]) (fun (t0u1 : Int) (bb_1 : Unit) => []) [0, 1, 5, 7] [] H Y Y (fun t0u1 bb_1 h0u3 H => ?_) (fun J3 H HK3 => ?_)
 refine AtC.joinSeq (β := Unit) (fun (t0u2 : Int) (bb_2 : Unit) => [(8, Value.int .i64 t0u2)]) (fun (t0u2 : Int) (bb_2 : Unit) => []) [0, 1, 5, 7] [] H Y Y (fun t0u2 bb_2 h0u4 H => ?_) (fun J6 H HK6 => ?_)
 refine sR (pu hT 3 Y ?_)
 refine AtLX.bs (hT := hT) (cs := [_]) H Y Y Y Y Y Y Y Y Y (fun a_3 h0u5 H => ?_)
 refine AtL.e Y (EffX.appendS (s := _) (u := _) hT Y Y Y Y Y Y Y Y Y Y (by decide) H) ?_
 rintro _ _ ⟨v_4, h0u6, rfl, rfl, H⟩
 refine pu hT 1 Y (ng (AtC.region (pu hT 3 Y ?_)))
 replace H := H _ rfl
 refine AtL.nil (AtE.blk_n (tg (AtC.region (pu hT 3 Y ?_))))
 replace H := H _ rfl
 refine AtL.nil ?_
 exact AtE.then_n ((HK1 _ _ H).pickP (ts := [5, 6, 7, 0, 1]) (is := []) Y Y (by decide) Y)
 refine sR (pu hT 4 Y (ng ?_))
 refine AtC.condB H Y (fun H => ?_) (fun H => ?_)
 refine AtC.region (pu hT 3 Y ?_)
 obtain ⟨a_2_, hc6, hd6, H⟩ := H
 refine AtL.q Y (Quiet1.idxS hT Y Y Y Y Y hc6 hd6) ?_
 obtain ⟨v_2, hc7, H⟩ := H
 refine AtL.q Y (Quiet1.load hT Y Y Y hc7) (pu hT 2 Y ?_)
 replace H := H _ rfl
 refine AtL.nil ?_
 exact AtE.then_n ((HK6 _ () _ H).pickP (ts := [8, 0, 1, 5, 7]) (is := []) Y Y (by decide) Y)
 refine AtC.skip ?_
 exact AtE.then_n ((HK6 _ () _ H).pickP (ts := [8, 0, 1, 5, 7]) (is := []) Y Y (by decide) Y)
 refine sR (pu hT 4 Y (ng ?_))
 refine AtC.condB H Y (fun H => ?_) (fun H => ?_)
 refine AtC.region (pu hT 3 Y ?_)
 obtain ⟨a_1_, hc3, hd3, H⟩ := H
 refine AtL.q Y (Quiet1.idxS hT Y Y Y Y Y hc3 hd3) ?_
 obtain ⟨v_1, hc4, H⟩ := H
 refine AtL.q Y (Quiet1.load hT Y Y Y hc4) (pu hT 2 Y ?_)
 replace H := H _ rfl
 refine AtL.nil ?_
 exact AtE.then_n ((HK3 _ () _ H).pickP (ts := [8, 0, 1, 5, 7]) (is := []) Y Y (by decide) Y)
 refine AtC.skip ?_
 exact AtE.then_n ((HK3 _ () _ H).pickP (ts := [8, 0, 1, 5, 7]) (is := []) Y Y (by decide) Y)
 refine AtC.exit (AtE.then_x (AtE.then_x (AtE.blk_hit (tg (sR ?_)))))
 refine pu hT 1 Y (AtL.e Y (cl (fun h => ref01uCut _ h _) H Y Tryz.call142 Y (fun w m hr hw => lift_ref01uCut _ w m hr _ hw)) ?_)
 rintro _ _ ⟨v_5, h0u7, rfl, rfl, H⟩
 refine pu hT 1 Y (ng (AtC.ret ?_))
 exact r1 4 Y Y Y H
 refine AtC.region (pu hT 5 Y ?_)
 refine AtL.splitB (t := 14) H Y (fun H => ?_) (fun H => ?_)
 refine nf Y (nf Y (nf Y (nf Y (pu hT 2 Y (nf Y ?_)))))
 refine nf Y (pu hT 1 Y (AtL.nil ?_))
 exact AtE.then_n ((HK2 _ () _ H).pickP (ts := [23, 0, 1, 5, 6, 7]) (is := []) Y Y (by decide) Y)
 refine ys Y (pu hT 1 Y (ys Y (pu hT 1 Y (ys Y (pu hT 1 Y ?_)))))
 refine ys Y (pu hT 1 Y (pu hT 2 Y ?_))
 refine AtL.splitB (t := 20) H Y (fun H => ?_) (fun H => ?_)
 refine nf Y (nf Y (pu hT 1 Y (AtL.nil ?_)))
 exact AtE.then_n ((HK2 _ () _ H).pickP (ts := [23, 0, 1, 5, 6, 7]) (is := []) Y Y (by decide) Y)
 refine ys Y (pu hT 1 Y (ys Y (pu hT 1 Y (pu hT 1 Y (AtL.nil ?_)))))
 exact AtE.then_n ((HK2 _ () _ H).pickP (ts := [23, 0, 1, 5, 6, 7]) (is := []) Y Y (by decide) Y)
theorem lift_ref02uAdd (x0 : Bool × Sl × Sl) (y : Bool × Sl × Sl) (w : World) (m : Heap) (hr : Rel ⟨m, []⟩ w.heap) (S : (Bool × Sl × Sl) → Heap → Prop) (H : ref02uAdd x0 y m S) :
 Calls Tryz.prog 50 #[Value.agg (C_bool_sl_sl x0).toArray, Value.agg (C_bool_sl_sl y).toArray] w (Post ⟨w, m⟩ (fun r => Value.agg (C_bool_sl_sl r).toArray) S) := by
 refine Calls.lift (args := [Value.agg (C_bool_sl_sl x0).toArray, Value.agg (C_bool_sl_sl y).toArray]) Tryz.func50 Y Tryz.ntmps50 (Nat.le_of_ble_eq_true Y) hr (ref02uAdd x0 y m S) H (fun H => ?_)
 refine AtC.pick (ts := [0, 1]) Y ?_
 unfold ref02uAdd at H
 refine sR (AtL.e Y (EffX.boxP (cs := [_, _, _]) Y Y Y H) ?_)
 rintro _ _ ⟨b, _, rfl, rfl, _, H⟩
 refine AtL.e Y (EffX.boxP (cs := [_, _, _]) Y Y Y H) ?_
 rintro _ _ ⟨b_1, _, rfl, rfl, _, H⟩
 refine AtL.e Y (EffX.allocP (cs := [_, _, _]) hT Y Y H) ?_
 rintro _ _ ⟨b_2, _, rfl, rfl, _, H⟩
 refine AtL.nil ?_
 replace H := H.self
 refine tg (sR (pu hT 1 Y (AtL.q Y (lP hT 2 Y) (pu hT 1 Y (AtL.q Y (lP hT 1 Y) ?_)))))
 refine AtL.e Y (cl (fun h => ref01uMul _ _ h _) H Y Tryz.call117 Y (fun w m hr hw => lift_ref01uMul _ _ w m hr _ hw)) ?_
 rintro _ _ ⟨v, h0u1, rfl, rfl, H⟩
 refine pu hT 1 Y (ng (sR (pu hT 1 Y (AtL.q Y (lP hT 1 Y) (pu hT 1 Y ?_)))))
 refine AtL.q Y (lP hT 2 Y) (AtL.e Y (cl (fun h => ref01uMul _ _ h _) H Y Tryz.call117 Y (fun w m hr hw => lift_ref01uMul _ _ w m hr _ hw)) ?_)
 rintro _ _ ⟨v_1, h0u2, rfl, rfl, H⟩
 refine pu hT 1 Y (ng (sR (pu hT 1 Y (AtL.q Y (lP hT 2 Y) (pu hT 1 Y ?_)))))
 refine AtL.q Y (lP hT 1 Y) (AtL.e Y (cl (fun h => ref01uMul _ _ h _) H Y Tryz.call117 Y (fun w m hr hw => lift_ref01uMul _ _ w m hr _ hw)) ?_)
 rintro _ _ ⟨v_2, h0u3, rfl, rfl, H⟩
 refine pu hT 1 Y (ng (AtC.seq (sR (pu hT 1 Y (AtL.q Y (lP hT 2 Y) ?_)))))
 refine pu hT 1 Y (AtL.q Y (lP hT 1 Y) (pu hT 1 Y (ng ?_)))
 refine AtC.condB H Y (fun H => ?_) (fun H => ?_)
 apply AtC.seqS [4, 7, 8] [[], [], [], [], [], [], [4], [4], [4, 7]] [[], [0], [], [], [2, 3], [], [0, 1, 2, 3, 4, 5], [0, 1, 2, 3, 4, 5, 6], [0, 1, 2, 3, 4, 5, 6, 7]] hmix (by kernel_rfl) [(28, _), (29, _), (30, _), (31, _), (33, _)] Y 3 Y
 refine Stg.go [0, 1, 2, 3, 5] [4] Y Y (qp hT Y (qq Y (lP hT 2 Y) Y (qp hT Y (qp hT Y (qp hT Y QAll.nil))))) ?_
 refine EAll.cons ?_ EAll.nil
 refine EOp.e Y Y Y (cl (fun h => ref01uAdd _ _ h _) H Y Tryz.call118 Y (fun w m hr hw => lift_ref01uAdd _ _ w m hr _ hw)) ?_
 rintro _ _ ⟨v_3, h0u4, rfl, rfl, H⟩
 apply Stg.next [(32, _), (34, _)] Y Y
 refine Stg.go [0, 1, 5, 6] [7] Y Y (qp hT Y (qq Y (lP hT 2 Y) Y (qp hT Y (qq Y (Quiet1.build (cs := [_, _, _]) hT Y Y Y Y Y Y) Y QAll.nil)))) ?_
 refine EAll.cons ?_ EAll.nil
 refine EOp.e Y Y Y (cl (fun h => ref02uLow _ h _) H Y Tryz.call114 Y (fun w m hr hw => lift_ref02uLow _ w m hr _ hw)) ?_
 rintro _ _ ⟨v_4, h0u5, rfl, rfl, H⟩
 apply Stg.next [(35, _)] Y Y
 refine Stg.go [] [8] Y Y QAll.nil ?_
 refine EAll.cons ?_ EAll.nil
 refine EOp.e Y Y Y (EffX.storeSP (i := 0) (qv := [(_, [_, _, _]), (_, [_, _, _]), (_, [_, _, _])]) hT Y Y Y Y Y Y Y Y Y Y) ?_
 rintro _ _ rfl
 apply Stg.next [] Y Y
 refine Stg.fin [] Y Y QAll.nil (tg (AtC.ret (AtE.then_r ?_)))
 exact AtE.retN (rs := [.cell 4 55]) Y (ResAll.cons (ResAt.cellSP (i := 0) (l := [_, _, _]) hT Y Y Y Y Y Y Y) ResAll.nil) Y H
 refine AtC.skip (tg (AtC.seq (sR (pu hT 2 Y (AtL.e Y (cl (fun h => ref01uCmp _ _ h _) H Y Tryz.call119 Y (fun w m hr hw => lift_ref01uCmp _ _ w m hr _ hw)) ?_)))))
 rintro _ _ ⟨v_5, h0u6, rfl, rfl, H⟩
 refine pu hT 1 Y (ng ?_)
 refine AtC.condB H Y (fun H => ?_) (fun H => ?_)
 apply AtC.seqS [4, 7, 8] [[], [], [], [], [], [], [4], [4], [4, 7]] [[], [0], [], [], [2, 3], [], [0, 1, 2, 3, 4, 5], [0, 1, 2, 3, 4, 5, 6], [0, 1, 2, 3, 4, 5, 6, 7]] hmix (by kernel_rfl) [(40, _), (41, _), (42, _), (43, _), (45, _)] Y 3 Y
 refine Stg.go [0, 1, 2, 3, 5] [4] Y Y (qp hT Y (qq Y (lP hT 2 Y) Y (qp hT Y (qp hT Y (qp hT Y QAll.nil))))) ?_
 refine EAll.cons ?_ EAll.nil
 refine EOp.e Y Y Y (cl (fun h => ref01uSub _ _ h _) H Y Tryz.call120 Y (fun w m hr hw => lift_ref01uSub _ _ w m hr _ hw)) ?_
 rintro _ _ ⟨v_6, h0u7, rfl, rfl, H⟩
 apply Stg.next [(44, _), (46, _)] Y Y
 refine Stg.go [0, 1, 5, 6] [7] Y Y (qp hT Y (qq Y (lP hT 2 Y) Y (qp hT Y (qq Y (Quiet1.build (cs := [_, _, _]) hT Y Y Y Y Y Y) Y QAll.nil)))) ?_
 refine EAll.cons ?_ EAll.nil
 refine EOp.e Y Y Y (cl (fun h => ref02uLow _ h _) H Y Tryz.call114 Y (fun w m hr hw => lift_ref02uLow _ w m hr _ hw)) ?_
 rintro _ _ ⟨v_7, h0u8, rfl, rfl, H⟩
 apply Stg.next [(47, _)] Y Y
 refine Stg.go [] [8] Y Y QAll.nil ?_
 refine EAll.cons ?_ EAll.nil
 refine EOp.e Y Y Y (EffX.storeSP (i := 0) (qv := [(_, [_, _, _]), (_, [_, _, _]), (_, [_, _, _])]) hT Y Y Y Y Y Y Y Y Y Y) ?_
 rintro _ _ rfl
 apply Stg.next [] Y Y
 refine Stg.fin [] Y Y QAll.nil (tg (AtC.ret (AtE.then_r ?_)))
 exact AtE.retN (rs := [.cell 4 55]) Y (ResAll.cons (ResAt.cellSP (i := 0) (l := [_, _, _]) hT Y Y Y Y Y Y Y) ResAll.nil) Y H
 refine AtC.skip (tg ?_)
 apply AtC.seqS [4, 7, 8] [[], [], [], [], [], [], [4], [4], [4, 7]] [[], [0], [], [], [2, 3], [], [0, 1, 2, 3, 4, 5], [0, 1, 2, 3, 4, 5, 6], [0, 1, 2, 3, 4, 5, 6, 7]] hmix (by kernel_rfl) [(48, _), (49, _), (50, _), (51, _), (53, _)] Y 3 Y
 refine Stg.go [0, 1, 2, 3, 5] [4] Y Y (qp hT Y (qq Y (lP hT 1 Y) Y (qp hT Y (qp hT Y (qp hT Y QAll.nil))))) ?_
 refine EAll.cons ?_ EAll.nil
 refine EOp.e Y Y Y (cl (fun h => ref01uSub _ _ h _) H Y Tryz.call120 Y (fun w m hr hw => lift_ref01uSub _ _ w m hr _ hw)) ?_
 rintro _ _ ⟨v_8, h0u9, rfl, rfl, H⟩
 apply Stg.next [(52, _), (54, _)] Y Y
 refine Stg.go [0, 1, 5, 6] [7] Y Y (qp hT Y (qq Y (lP hT 1 Y) Y (qp hT Y (qq Y (Quiet1.build (cs := [_, _, _]) hT Y Y Y Y Y Y) Y QAll.nil)))) ?_
 refine EAll.cons ?_ EAll.nil
 refine EOp.e Y Y Y (cl (fun h => ref02uLow _ h _) H Y Tryz.call114 Y (fun w m hr hw => lift_ref02uLow _ w m hr _ hw)) ?_
 rintro _ _ ⟨v_9, h0u10, rfl, rfl, H⟩
 apply Stg.next [(55, _)] Y Y
 refine Stg.go [] [8] Y Y QAll.nil ?_
 refine EAll.cons ?_ EAll.nil
 refine EOp.e Y Y Y (EffX.storeSP (i := 0) (qv := [(_, [_, _, _]), (_, [_, _, _]), (_, [_, _, _])]) hT Y Y Y Y Y Y Y Y Y Y) ?_
 rintro _ _ rfl
 apply Stg.next [] Y Y
 refine Stg.fin [] Y Y QAll.nil (tg (AtC.ret ?_))
 exact AtE.retN (rs := [.cell 4 55]) Y (ResAll.cons (ResAt.cellSP (i := 0) (l := [_, _, _]) hT Y Y Y Y Y Y Y) ResAll.nil) Y H
theorem lift_ref02uCmp (x0 : Bool × Sl × Sl) (y : Bool × Sl × Sl) (w : World) (m : Heap) (hr : Rel ⟨m, []⟩ w.heap) (S : Int → Heap → Prop) (H : ref02uCmp x0 y m S) :
 Calls Tryz.prog 37 #[Value.agg (C_bool_sl_sl x0).toArray, Value.agg (C_bool_sl_sl y).toArray] w (Post ⟨w, m⟩ (Value.int .i64) S) := by
 refine Calls.lift (args := [Value.agg (C_bool_sl_sl x0).toArray, Value.agg (C_bool_sl_sl y).toArray]) Tryz.func37 Y Tryz.ntmps37 (Nat.le_of_ble_eq_true Y) hr (ref02uCmp x0 y m S) H (fun H => ?_)
 refine AtC.pick (ts := [0, 1]) Y ?_
 unfold ref02uCmp at H
 refine sR (AtL.e Y (EffX.boxP (cs := [_, _, _]) Y Y Y H) ?_)
 rintro _ _ ⟨b, _, rfl, rfl, _, H⟩
 refine AtL.e Y (EffX.boxP (cs := [_, _, _]) Y Y Y H) ?_
 rintro _ _ ⟨b_1, _, rfl, rfl, _, H⟩
 replace H := H.self
 refine pu hT 1 Y (ng ?_)
 refine AtC.joinSeq (β := Nat) (fun (t0 : Bool × Sl × Sl) (bb : Nat) => [(5, Value.pointer (some ⟨bb, 0, none⟩))]) (fun (t0 : Bool × Sl × Sl) (bb : Nat) => [(bb, [Value.bool t0.1, Sl.toV t0.2.1, Sl.toV t0.2.2])]) [] [] H Y Y (fun t0 bb h0u1 H => ?_) (fun J1 H HK1 => ?_)
 refine AtC.seq (sR (pu hT 1 Y (AtL.q Y (lP hT 0 Y) (pu hT 2 Y (ng ?_)))))
 refine AtC.condB H Y (fun H => ?_) (fun H => ?_)
 refine sR (pu hT 1 Y (ng (AtC.ret (AtE.then_r ?_))))
 exact r1 4 Y Y Y H
 refine AtC.skip (tg (AtC.seq (sR (pu hT 1 Y (AtL.q Y (lP hT 0 Y) ?_)))))
 refine ng ?_
 refine AtC.condB H Y (fun H => ?_) (fun H => ?_)
 refine sR (pu hT 1 Y (ng (AtC.ret (AtE.then_r ?_))))
 exact r1 4 Y Y Y H
 refine AtC.skip (tg (sR (pu hT 1 Y (ng (AtC.ret ?_)))))
 exact r1 4 Y Y Y H
 apply AtC.stages [2, 3, 4, 5] [[], [], [], [2], [], [2, 3, 4]] [[], [], [1], [0, 1, 2], [], [0, 1, 2, 3, 4]] hmix (by kernel_rfl) [(6, _), (7, _)] Y 4 Y
 refine Stg.go [0, 1] [2, 4] Y Y (qq Y (lS hT 1 [_, _, _] Y Y Y Y Y Y Y Y) Y (qq Y (lS hT 0 [_, _, _] Y Y Y Y Y Y Y Y) Y QAll.nil)) ?_
 refine EAll.cons ?_ ?_
 replace H := H.self
 refine EOp.e Y Y Y (cl (fun h => ref02uNeg _ h _) H Y Tryz.call93 Y (fun w m hr hw => lift_ref02uNeg _ w m hr _ hw)) ?_
 rintro _ _ ⟨v, h0u3, rfl, rfl, H⟩
 apply Stg.next [(8, _)] Y Y
 refine Stg.go [0] [3, 4] Y Y (qq Y (lS hT 1 [_, _, _] Y Y Y Y Y Y Y Y) Y QAll.nil) ?_
 refine EAll.cons ?_ ?_
 replace H := H.self
 refine EOp.e Y Y Y (cl (fun h => ref02uAdd _ _ h _) H Y Tryz.call50 Y (fun w m hr hw => lift_ref02uAdd _ _ w m hr _ hw)) ?_
 rintro _ _ ⟨v_1, h0u5, rfl, rfl, H⟩
 apply Stg.next [(9, _)] Y Y
 refine Stg.go [] [4] Y Y QAll.nil ?_
 refine EAll.cons ?_ EAll.nil
 refine EOp.e Y Y Y (EffX.allocP (cs := [_, _, _]) hT Y Y H) ?_
 rintro _ _ ⟨b_2, _, rfl, rfl, he1, H⟩
 apply Stg.next [(5, _)] Y Y
 refine Stg.go [] [5] Y Y QAll.nil ?_
 refine EAll.cons ?_ EAll.nil
 refine EOp.e Y Y Y (EffX.storeSP (i := 0) (qv := [(_, [_, _, _]), (_, [_, _, _]), (_, [_, _, _])]) hT Y Y Y Y Y Y Y Y Y Y) ?_
 rintro _ _ rfl
 apply Stg.next [] Y Y
 refine Stg.fin [] Y Y QAll.nil ?_
 replace H := H.self
 exact AtE.then_n ((HK1 _ b_2 _ H).pickP (ts := [5]) (is := [0]) Y Y (by decide) Y)
 refine EAll.cons ?_ EAll.nil
 refine EOp.e Y Y Y (EffX.allocP (cs := [_, _, _]) hT Y Y H) ?_
 rintro _ _ ⟨b_3, _, rfl, rfl, he2, H⟩
 apply Stg.next [(5, _)] Y Y
 refine Stg.go [0] [3] Y Y (qq Y (lS hT 2 [_, _, _] Y Y Y Y Y Y Y Y) Y QAll.nil) ?_
 refine EAll.cons ?_ EAll.nil
 replace H := H.self
 refine EOp.e Y Y Y (cl (fun h => ref02uAdd _ _ h _) H Y Tryz.call50 Y (fun w m hr hw => lift_ref02uAdd _ _ w m hr _ hw)) ?_
 rintro _ _ ⟨v_2, h0u7, rfl, rfl, H⟩
 apply Stg.next [(9, _)] Y Y
 refine Stg.go [] [5] Y Y QAll.nil ?_
 refine EAll.cons ?_ EAll.nil
 refine EOp.e Y Y Y (EffX.storeSP (i := 0) (qv := [(_, [_, _, _]), (_, [_, _, _]), (_, [_, _, _])]) hT Y Y Y Y Y Y Y Y Y Y) ?_
 rintro _ _ rfl
 apply Stg.next [] Y Y
 refine Stg.fin [] Y Y QAll.nil ?_
 replace H := H.self
 exact AtE.then_n ((HK1 _ b_3 _ H).pickP (ts := [5]) (is := [0]) Y Y (by decide) Y)
 refine EAll.cons ?_ EAll.nil
 refine EOp.e Y Y Y (EffX.allocP (cs := [_, _, _]) hT Y Y H) ?_
 rintro _ _ ⟨b_4, _, rfl, rfl, he3, H⟩
 apply Stg.next [(5, _)] Y Y
 refine Stg.go [0, 1] [2] Y Y (qq Y (lS hT 2 [_, _, _] Y Y Y Y Y Y Y Y) Y (qq Y (lS hT 1 [_, _, _] Y Y Y Y Y Y Y Y) Y QAll.nil)) ?_
 refine EAll.cons ?_ EAll.nil
 replace H := H.self
 refine EOp.e Y Y Y (cl (fun h => ref02uNeg _ h _) H Y Tryz.call93 Y (fun w m hr hw => lift_ref02uNeg _ w m hr _ hw)) ?_
 rintro _ _ ⟨v_3, h0u9, rfl, rfl, H⟩
 apply Stg.next [(8, _)] Y Y
 refine Stg.go [0] [3] Y Y (qq Y (lS hT 2 [_, _, _] Y Y Y Y Y Y Y Y) Y QAll.nil) ?_
 refine EAll.cons ?_ EAll.nil
 replace H := H.self
 refine EOp.e Y Y Y (cl (fun h => ref02uAdd _ _ h _) H Y Tryz.call50 Y (fun w m hr hw => lift_ref02uAdd _ _ w m hr _ hw)) ?_
 rintro _ _ ⟨v_4, h0u11, rfl, rfl, H⟩
 apply Stg.next [(9, _)] Y Y
 refine Stg.go [] [5] Y Y QAll.nil ?_
 refine EAll.cons ?_ EAll.nil
 refine EOp.e Y Y Y (EffX.storeSP (i := 0) (qv := [(_, [_, _, _]), (_, [_, _, _]), (_, [_, _, _])]) hT Y Y Y Y Y Y Y Y Y Y) ?_
 rintro _ _ rfl
 apply Stg.next [] Y Y
 refine Stg.fin [] Y Y QAll.nil ?_
 replace H := H.self
 exact AtE.then_n ((HK1 _ b_4 _ H).pickP (ts := [5]) (is := [0]) Y Y (by decide) Y)
theorem lift_ref13uRight (p : Int × Int × Sl × Sl × Sl × Sl × Sl) (w : World) (m : Heap) (hr : Rel ⟨m, []⟩ w.heap) (S : Bool → Heap → Prop) (H : ref13uRight p m S) :
 Calls Tryz.prog 8 #[Value.agg (C_i64ui64usl_sl_sl_sl_sl p).toArray] w (Post ⟨w, m⟩ Value.bool S) := by
 refine Calls.lift (args := [Value.agg (C_i64ui64usl_sl_sl_sl_sl p).toArray]) Tryz.func8 Y Tryz.ntmps8 (Nat.le_of_ble_eq_true Y) hr (ref13uRight p m S) H (fun H => ?_)
 refine AtC.pick (ts := [0]) Y ?_
 unfold ref13uRight at H
 refine sR (AtL.e Y (EffX.boxP (cs := [_, _, _, _, _, _, _]) Y Y Y H) ?_)
 rintro _ _ ⟨b, _, rfl, rfl, _, H⟩
 replace H := H.self
 refine pu hT 1 Y (ng (AtC.seq ?_))
 refine AtC.joinSeq (β := Unit) (fun (t0 : Bool) (bb : Unit) => [(19, Value.bool t0)]) (fun (t0 : Bool) (bb : Unit) => []) [1] [0] H Y Y (fun t0 bb h0u1 H => ?_) (fun J1 H HK1 => ?_)
 refine AtC.condB H Y (fun H => ?_) (fun H => ?_)
 refine sR (pu hT 1 Y (ng (AtC.ret (AtE.then_r ?_))))
 exact r1 2 Y Y Y H
 refine AtC.skip (tg (AtC.seq (sR (pu hT 1 Y (ng ?_)))))
 refine AtC.block ?_
 refine AtC.loopM (fun (s0 : Int) => [(3, Value.int .i64 s0)]) (fun (s0 : Int) => []) [1] [3, 1] [0] [0] H Y Y Y (by decide) Y (fun Kp2 s0 h0u2 H Q2 HK2 => ?_)
 refine AtC.seq (sR (pu hT 2 Y (AtL.q Y (lP hT 0 Y) (pu hT 2 Y (ng ?_)))))
 refine AtC.condB H Y (fun H => ?_) (fun H => ?_)
 refine AtC.skip (tg (AtC.seq (AtC.block (sR (pu hT 1 Y ?_)))))
 refine AtL.q Y (lP hT 0 Y) (pu hT 1 Y ?_)
 obtain ⟨a_, hc2, hd2, H⟩ := H
 refine AtL.q Y (Quiet1.idxS hT Y Y Y Y Y hc2 hd2) ?_
 obtain ⟨v, hc3, H⟩ := H
 refine AtL.q Y (Quiet1.loadS hT Y Y Y Y hc3) (AtL.e Y (EffX.allocP (cs := [_, _, _, _]) hT Y Y H) ?_)
 rintro _ _ ⟨b_1, _, rfl, rfl, _, H⟩
 replace H := H.self
 refine AtL.e Y (EffX.storeSP (i := 0) (qv := [(_, [_, _, _, _]), (_, [_, _, _, _, _, _, _])]) hT Y Y Y Y Y Y Y Y Y Y) ?_
 rintro _ _ rfl
 refine ng ?_
 refine AtC.joinSeq (β := Unit) (fun (t0u1 : Bool) (bb_1 : Unit) => [(62, Value.bool t0u1)]) (fun (t0u1 : Bool) (bb_1 : Unit) => []) [1, 3] [1] H Y Y (fun t0u1 bb_1 h0u4 H => ?_) (fun J5 H HK5 => ?_)
 refine AtC.condB H Y (fun H => ?_) (fun H => ?_)
 refine sR (pu hT 1 Y (ng (AtC.ret (AtE.blk_r (AtE.then_r ?_)))))
 refine AtE.then_r (AtE.blk_r (AtE.then_r ?_))
 exact r1 2 Y Y Y H
 refine AtC.skip (AtE.blk_n (tg (AtC.region (pu hT 3 Y ?_))))
 replace H := H _ rfl
 refine AtL.nil ?_
 exact AtE.then_n ((HK2 _ _ H).pickP (ts := [3, 1]) (is := [0]) Y Y (by decide) Y)
 apply AtC.stages [1] [[], [], [1], [1], [1], [1], [1], [1], [1], [1], [1], [1], [1], [1], [1], [1], [1], [1], [1], [1], [1], [1], [1], [1], [1], [1], [1], [1], [1], [1], [1]] [[], [0], [0, 1], [0, 1, 2], [0, 1, 2, 3], [0, 1, 2, 3, 4], [0, 1, 2, 3, 4, 5], [0, 1, 2, 3, 4, 5, 6], [0, 1, 2, 3, 4, 5, 6, 7], [0, 1, 2, 3, 4, 5, 6, 7, 8], [0, 1, 2, 3, 4, 5, 6, 7, 8, 9], [0, 1, 2, 3, 4, 5, 6, 7, 8, 9, 10], [0, 1, 2, 3, 4, 5, 6, 7, 8, 9, 10, 11], [0, 1, 2, 3, 4, 5, 6, 7, 8, 9, 10, 11, 12], [0, 1, 2, 3, 4, 5, 6, 7, 8, 9, 10, 11, 12, 13], [0, 1, 2, 3, 4, 5, 6, 7, 8, 9, 10, 11, 12, 13, 14], [0, 1, 2, 3, 4, 5, 6, 7, 8, 9, 10, 11, 12, 13, 14, 15], [0, 1, 2, 3, 4, 5, 6, 7, 8, 9, 10, 11, 12, 13, 14, 15, 16], [0, 1, 2, 3, 4, 5, 6, 7, 8, 9, 10, 11, 12, 13, 14, 15, 16, 17], [0, 1, 2, 3, 4, 5, 6, 7, 8, 9, 10, 11, 12, 13, 14, 15, 16, 17, 18], [0, 1, 2, 3, 4, 5, 6, 7, 8, 9, 10, 11, 12, 13, 14, 15, 16, 17], [0, 1, 2, 3, 4, 5, 6, 7, 8, 9, 10, 11, 12, 13, 14, 15, 16, 17, 20], [0, 1, 2, 3, 4, 5, 6, 7, 8, 9, 10, 11, 12, 13, 14, 15, 16, 17, 20, 21], [0, 1, 2, 3, 4, 5, 6, 7, 8, 9, 10, 11, 12, 13, 14, 15, 16, 17, 20, 21, 22], [0, 1, 2, 3, 4, 5, 6, 7, 8, 9, 10, 11, 12, 13, 14, 15, 16, 17, 18, 19, 20, 21, 22, 23], [0, 1, 2, 3, 4, 5, 6, 7, 8, 9, 10, 11, 12, 13, 14, 15, 16, 17, 18, 19, 20, 21, 22, 23, 24], [0, 1, 2, 3, 4, 5, 6, 7, 8, 9, 10, 11, 12, 13, 14, 15, 16, 17, 18, 19, 20, 21, 22, 23, 24, 25], [0, 1, 2, 3, 4, 5, 6, 7, 8, 9, 10, 11, 12, 13, 14, 15, 16, 17], [0, 1, 2, 3, 4, 5, 6, 7, 8, 9, 10, 11, 12, 13, 14, 15, 16, 17, 27], [0, 1, 2, 3, 4, 5, 6, 7, 8, 9, 10, 11, 12, 13, 14, 15, 16, 17, 18, 19, 20, 21, 22, 23, 24, 25, 26, 27, 28], [0, 1, 2, 3, 4, 5, 6, 7, 8, 9, 10, 11, 12, 13, 14, 15, 16, 17, 18, 19, 20, 21, 22, 23, 24, 25, 26, 27, 28, 29]] hmix (by kernel_rfl) [(32, _)] Y 1 Y
 refine Stg.go [0] [1] Y Y (qq Y (lS hT 0 [_, _, _, _] Y Y Y Y Y Y Y Y) Y QAll.nil) ?_
 refine EAll.cons ?_ EAll.nil
 refine EOp.e Y Y Y (cl (fun h => ref12uRight _ h _) H Y Tryz.call35 Y (fun w m hr hw => lift_ref12uRight _ w m hr _ hw)) ?_
 rintro _ _ ⟨v_1, h0u5, rfl, rfl, H⟩
 rcases iteB.cases H with ⟨hb5, H⟩ | ⟨hb5, H⟩
 apply Stg.next [(33, _), (34, _), (35, _), (36, _), (37, _), (38, _), (39, _), (40, _), (41, _), (42, _), (43, _), (44, _), (45, _), (46, _), (47, _), (48, _), (49, _), (50, _), (51, _), (52, _), (53, _), (54, _), (55, _), (56, _), (57, _), (58, _), (59, _), (60, _), (61, _), (62, _)] Y Y
 refine Stg.known (t := 35) Y hb5 (Stg.fin [2, 3, 4, 5, 6, 7, 8, 9, 10, 11, 12, 13, 14, 15, 16, 17, 18, 19, 20, 21, 22, 23, 24, 25, 26, 27, 28, 29, 30] Y Y (qp hT Y (QAll.cons (QOp.pk hT Y Y Y Y hb5 Y) (qn Y Y Y Y (by decide) Y Y (qn Y Y Y Y (by decide) Y Y (qn Y Y Y Y (by decide) Y Y (qn Y Y Y Y (by decide) Y Y (qp hT Y (qp hT Y (qn Y Y Y Y (by decide) Y Y (qn Y Y Y Y (by decide) Y Y (qn Y Y Y Y (by decide) Y Y (qn Y Y Y Y (by decide) Y Y (qn Y Y Y Y (by decide) Y Y (qn Y Y Y Y (by decide) Y Y (qp hT Y (qp hT Y (qn Y Y Y Y (by decide) Y Y (qn Y Y Y Y (by decide) Y Y (qn Y Y Y Y (by decide) Y Y (qn Y Y Y Y (by decide) Y Y (qn Y Y Y Y (by decide) Y Y (qn Y Y Y Y (by decide) Y Y (qn Y Y Y Y (by decide) Y Y (qn Y Y Y Y (by decide) Y Y (qn Y Y Y Y (by decide) Y Y (qn Y Y Y Y (by decide) Y Y (qn Y Y Y Y (by decide) Y Y (qn Y Y Y Y (by decide) Y Y (qp hT Y QAll.nil))))))))))))))))))))))))))))) ?_)
 exact AtE.then_n ((HK5 _ () _ H).pickP (ts := [62, 1, 3]) (is := [1]) Y Y (by decide) Y)
 rcases iteB.cases H with ⟨hb6, H⟩ | ⟨hb6, H⟩
 apply Stg.next [(33, _), (34, _), (35, _), (36, _), (37, _), (38, _), (39, _), (40, _), (41, _), (42, _), (43, _), (44, _), (45, _), (46, _), (47, _), (48, _), (49, _), (50, _), (51, _), (52, _), (53, _), (54, _), (55, _), (56, _), (57, _), (58, _), (59, _), (60, _), (61, _), (62, _)] Y Y
 refine Stg.known (t := 35) Y hb5 (Stg.known (t := 41) Y hb6 (Stg.fin [2, 3, 4, 5, 6, 7, 8, 9, 10, 11, 12, 13, 14, 15, 16, 17, 18, 19, 20, 21, 22, 23, 24, 25, 26, 27, 28, 29, 30] Y Y (qp hT Y (QAll.cons (QOp.pk hT Y Y Y Y hb5 Y) (QAll.cons (QOp.yp hT Y Y Y Y Y Y Y) (QAll.cons (QOp.y Y Y Y Y (lP hT 0 Y) Y Y) (QAll.cons (QOp.yp hT Y Y Y Y Y Y Y) (QAll.cons (QOp.yp hT Y Y Y Y Y Y Y) (qp hT Y (QAll.cons (QOp.pk hT Y Y Y Y hb6 Y) (qn Y Y Y Y (by decide) Y Y (qn Y Y Y Y (by decide) Y Y (qn Y Y Y Y (by decide) Y Y (qn Y Y Y Y (by decide) Y Y (qn Y Y Y Y (by decide) Y Y (qn Y Y Y Y (by decide) Y Y (qp hT Y (qp hT Y (qn Y Y Y Y (by decide) Y Y (qn Y Y Y Y (by decide) Y Y (qn Y Y Y Y (by decide) Y Y (qn Y Y Y Y (by decide) Y Y (qn Y Y Y Y (by decide) Y Y (qn Y Y Y Y (by decide) Y Y (qn Y Y Y Y (by decide) Y Y (qn Y Y Y Y (by decide) Y Y (qn Y Y Y Y (by decide) Y Y (qn Y Y Y Y (by decide) Y Y (qn Y Y Y Y (by decide) Y Y (qn Y Y Y Y (by decide) Y Y (qp hT Y QAll.nil))))))))))))))))))))))))))))) ?_))
 exact AtE.then_n ((HK5 _ () _ H).pickP (ts := [62, 1, 3]) (is := [1]) Y Y (by decide) Y)
 rcases iteB.cases H with ⟨hb7, H⟩ | ⟨hb7, H⟩
 apply Stg.next [(33, _), (34, _), (35, _), (36, _), (37, _), (38, _), (39, _), (40, _), (41, _), (42, _), (43, _), (44, _), (45, _), (46, _), (47, _), (48, _), (49, _), (50, _), (51, _), (52, _), (53, _), (54, _), (55, _), (56, _), (57, _), (58, _), (59, _), (60, _), (61, _), (62, _)] Y Y
 refine Stg.known (t := 35) Y hb5 (Stg.known (t := 41) Y hb6 (Stg.known (t := 49) Y hb7 (Stg.fin [2, 3, 4, 5, 6, 7, 8, 9, 10, 11, 12, 13, 14, 15, 16, 17, 18, 19, 20, 21, 22, 23, 24, 25, 26, 27, 28, 29, 30] Y Y (qp hT Y (QAll.cons (QOp.pk hT Y Y Y Y hb5 Y) (QAll.cons (QOp.yp hT Y Y Y Y Y Y Y) (QAll.cons (QOp.y Y Y Y Y (lP hT 0 Y) Y Y) (QAll.cons (QOp.yp hT Y Y Y Y Y Y Y) (QAll.cons (QOp.yp hT Y Y Y Y Y Y Y) (qp hT Y (QAll.cons (QOp.pk hT Y Y Y Y hb6 Y) (QAll.cons (QOp.yp hT Y Y Y Y Y Y Y) (QAll.cons (QOp.yp hT Y Y Y Y Y Y Y) (QAll.cons (QOp.yp hT Y Y Y Y Y Y Y) (QAll.cons (QOp.y Y Y Y Y (lP hT 0 Y) Y Y) (QAll.cons (QOp.yp hT Y Y Y Y Y Y Y) (QAll.cons (QOp.yp hT Y Y Y Y Y Y Y) (qp hT Y (QAll.cons (QOp.pk hT Y Y Y Y hb7 Y) (qn Y Y Y Y (by decide) Y Y (qn Y Y Y Y (by decide) Y Y (qn Y Y Y Y (by decide) Y Y (qn Y Y Y Y (by decide) Y Y (qn Y Y Y Y (by decide) Y Y (qn Y Y Y Y (by decide) Y Y (qn Y Y Y Y (by decide) Y Y (qn Y Y Y Y (by decide) Y Y (qn Y Y Y Y (by decide) Y Y (qn Y Y Y Y (by decide) Y Y (qn Y Y Y Y (by decide) Y Y (qn Y Y Y Y (by decide) Y Y (qp hT Y QAll.nil))))))))))))))))))))))))))))) ?_)))
 exact AtE.then_n ((HK5 _ () _ H).pickP (ts := [62, 1, 3]) (is := [1]) Y Y (by decide) Y)
 obtain ⟨a_1_, hc8, hd8, H⟩ := H
 obtain ⟨v_2, hc9, H⟩ := H
 apply Stg.next [(33, _), (34, _), (35, _), (36, _), (37, _), (38, _), (39, _), (40, _), (41, _), (42, _), (43, _), (44, _), (45, _), (46, _), (47, _), (48, _), (49, _), (50, _), (51, _), (52, _), (53, _), (54, _), (55, _), (56, _), (57, _), (58, _), (59, _), (60, _), (61, _), (62, _)] Y Y
 refine Stg.known (t := 35) Y hb5 (Stg.known (t := 41) Y hb6 (Stg.known (t := 49) Y hb7 (Stg.fin [2, 3, 4, 5, 6, 7, 8, 9, 10, 11, 12, 13, 14, 15, 16, 17, 18, 19, 20, 21, 22, 23, 24, 25, 26, 27, 28, 29, 30] Y Y (qp hT Y (QAll.cons (QOp.pk hT Y Y Y Y hb5 Y) (QAll.cons (QOp.yp hT Y Y Y Y Y Y Y) (QAll.cons (QOp.y Y Y Y Y (lP hT 0 Y) Y Y) (QAll.cons (QOp.yp hT Y Y Y Y Y Y Y) (QAll.cons (QOp.yp hT Y Y Y Y Y Y Y) (qp hT Y (QAll.cons (QOp.pk hT Y Y Y Y hb6 Y) (QAll.cons (QOp.yp hT Y Y Y Y Y Y Y) (QAll.cons (QOp.yp hT Y Y Y Y Y Y Y) (QAll.cons (QOp.yp hT Y Y Y Y Y Y Y) (QAll.cons (QOp.y Y Y Y Y (lP hT 0 Y) Y Y) (QAll.cons (QOp.yp hT Y Y Y Y Y Y Y) (QAll.cons (QOp.yp hT Y Y Y Y Y Y Y) (qp hT Y (QAll.cons (QOp.pk hT Y Y Y Y hb7 Y) (QAll.cons (QOp.yp hT Y Y Y Y Y Y Y) (QAll.cons (QOp.y Y Y Y Y (lP hT 0 Y) Y Y) (QAll.cons (QOp.yp hT Y Y Y Y Y Y Y) (QAll.cons (QOp.y Y Y Y Y (lP hT 0 Y) Y Y) (QAll.cons (QOp.yp hT Y Y Y Y Y Y Y) (QAll.cons (QOp.yp hT Y Y Y Y Y Y Y) (QAll.cons (QOp.y Y Y Y Y (Quiet1.idxS hT Y Y Y Y Y hc8 hd8) Y Y) (QAll.cons (QOp.yp hT Y Y Y Y Y Y Y) (QAll.cons (QOp.y Y Y Y Y (Quiet1.load hT Y Y Y hc9) Y Y) (QAll.cons (QOp.yp hT Y Y Y Y Y Y Y) (QAll.cons (QOp.y Y Y Y Y (lP hT 1 Y) Y Y) (QAll.cons (QOp.yp hT Y Y Y Y Y Y Y) (qp hT Y QAll.nil))))))))))))))))))))))))))))) ?_)))
 exact AtE.then_n ((HK5 _ () _ H).pickP (ts := [62, 1, 3]) (is := [1]) Y Y (by decide) Y)
 refine AtC.exit (AtE.then_x (AtE.then_x (AtE.blk_hit (tg (AtC.seq ?_)))))
 refine sR (pu hT 1 Y (ng (AtC.block ?_)))
 refine AtC.loopM (fun (s0u1 : Int) => [(5, Value.int .i64 s0u1)]) (fun (s0u1 : Int) => []) [1] [5, 1] [0] [0] H Y Y Y (by decide) Y (fun Kp11 s0u1 h0u6 H Q11 HK11 => ?_)
 refine AtC.seq (sR (pu hT 2 Y (AtL.q Y (lP hT 0 Y) (pu hT 2 Y (ng ?_)))))
 refine AtC.condB H Y (fun H => ?_) (fun H => ?_)
 refine AtC.skip (tg (AtC.seq (AtC.block (sR (pu hT 1 Y ?_)))))
 refine AtL.q Y (lP hT 0 Y) (pu hT 1 Y ?_)
 obtain ⟨a_2_, hc11, hd11, H⟩ := H
 refine AtL.q Y (Quiet1.idxS hT Y Y Y Y Y hc11 hd11) ?_
 obtain ⟨v_3, hc12, H⟩ := H
 refine AtL.q Y (Quiet1.loadS hT Y Y Y Y hc12) (AtL.e Y (EffX.allocP (cs := [_, _, _, _, _, _, _, _, _]) hT Y Y H) ?_)
 rintro _ _ ⟨b_2, _, rfl, rfl, _, H⟩
 replace H := H.self
 refine AtL.e Y (EffX.storeSP (i := 0) (qv := [(_, [_, _, _, _, _, _, _, _, _]), (_, [_, _, _, _, _, _, _])]) hT Y Y Y Y Y Y Y Y Y Y) ?_
 rintro _ _ rfl
 refine ng (AtC.seq ?_)
 refine AtC.joinSeq (β := Unit) (fun (t0u2 : Bool) (bb_2 : Unit) => [(124, Value.bool t0u2)]) (fun (t0u2 : Bool) (bb_2 : Unit) => []) [1, 5, 6] [0, 1] H Y Y (fun t0u2 bb_2 h0u8 H => ?_) (fun J14 H HK14 => ?_)
 refine AtC.condB H Y (fun H => ?_) (fun H => ?_)
 refine sR (pu hT 1 Y (ng (AtC.ret (AtE.then_r (AtE.blk_r ?_)))))
 refine AtE.then_r (AtE.then_r (AtE.blk_r (AtE.then_r ?_)))
 exact r1 2 Y Y Y H
 refine AtC.skip (tg (AtC.seq ?_))
 refine AtC.joinSeq (β := Unit) (fun (t0u3 : Bool) (bb_3 : Unit) => [(136, Value.bool t0u3)]) (fun (t0u3 : Bool) (bb_3 : Unit) => []) [1, 5, 6] [0, 1] H Y Y (fun t0u3 bb_3 h0u9 H => ?_) (fun J15 H HK15 => ?_)
 refine AtC.condB H Y (fun H => ?_) (fun H => ?_)
 refine sR (pu hT 1 Y (ng (AtC.ret (AtE.then_r (AtE.blk_r ?_)))))
 refine AtE.then_r (AtE.then_r (AtE.blk_r (AtE.then_r ?_)))
 exact r1 2 Y Y Y H
 refine AtC.skip (tg (sR (pu hT 2 Y (AtL.q Y (lS hT 0 [_, _, _] Y Y Y Y Y Y Y Y) (AtL.e Y (cl (fun h => ref02uOf _ h _) H Y Tryz.call36 Y (fun w m hr hw => lift_ref02uOf _ w m hr _ hw)) ?_)))))
 rintro _ _ ⟨v_6, h0u12, rfl, rfl, H⟩
 refine AtL.e Y (EffX.allocP (cs := [_, _, _]) hT Y Y H) ?_
 rintro _ _ ⟨b_3, _, rfl, rfl, _, H⟩
 replace H := H.self
 refine AtL.e Y (EffX.storeSP (i := 0) (qv := [(_, [_, _, _]), (_, [_, _, _, _, _, _, _, _, _]), (_, [_, _, _, _, _, _, _])]) hT Y Y Y Y Y Y Y Y Y Y) ?_
 rintro _ _ rfl
 refine ng (AtC.seq ?_)
 refine AtC.joinSeq (β := Unit) (fun (t0u4 : Bool) (bb_4 : Unit) => [(150, Value.bool t0u4)]) (fun (t0u4 : Bool) (bb_4 : Unit) => []) [1, 5, 6] [1, 2] H Y Y (fun t0u4 bb_4 h0u14 H => ?_) (fun J16 H HK16 => ?_)
 refine AtC.condB H Y (fun H => ?_) (fun H => ?_)
 refine sR (pu hT 1 Y (ng (AtC.ret (AtE.then_r (AtE.blk_r ?_)))))
 refine AtE.then_r (AtE.then_r (AtE.blk_r (AtE.then_r ?_)))
 exact r1 2 Y Y Y H
 refine AtC.skip (tg (sR (pu hT 1 Y (ng (AtC.block ?_)))))
 refine AtC.loopM (fun (s0u2 : Int) => [(8, Value.int .i64 s0u2)]) (fun (s0u2 : Int) => []) [1, 5, 6] [8, 1, 5, 6] [0, 1] [0, 1] H Y Y Y (by decide) Y (fun Kp18 s0u2 h0u19 H Q18 HK18 => ?_)
 refine AtC.seq (sR (pu hT 3 Y (ng ?_)))
 refine AtC.condB H Y (fun H => ?_) (fun H => ?_)
 refine AtC.skip (tg (AtC.seq (AtC.block (AtC.seqD hmix (by kernel_rfl) (AtD.pures hT 1 _ _ _ _ Y ?_)))))
 refine AtD.q Y (lP hT 1 Y) (AtD.pures hT 1 _ _ _ _ Y ?_)
 obtain ⟨a_3_, hc18, hd18, H⟩ := H
 refine AtD.q Y (Quiet1.idxS hT Y Y Y Y Y hc18 hd18) (AtD.pures hT 1 _ _ _ _ Y ?_)
 obtain ⟨v_11, hc19, H⟩ := H
 refine AtD.q Y (Quiet1.load hT Y Y Y hc19) (AtD.pures hT 1 _ _ _ _ Y (AtD.q Y (lP hT 0 Y) (AtD.pures hT 1 _ _ _ _ Y (AtD.nil (tg ?_)))))
 refine AtC.condB H Y (fun H => ?_) (fun H => ?_)
 refine sR (pu hT 1 Y (ng (AtC.ret (AtE.blk_r (AtE.then_r ?_)))))
 refine AtE.then_r (AtE.blk_r (AtE.blk_r (AtE.then_r (AtE.then_r (AtE.blk_r ?_)))))
 refine AtE.then_r ?_
 exact r1 2 Y Y Y H
 refine AtC.skip (AtE.blk_n (tg (AtC.region (pu hT 3 Y ?_))))
 replace H := H _ rfl
 refine AtL.nil ?_
 exact AtE.then_n ((HK18 _ _ H).pickP (ts := [8, 1, 5, 6]) (is := [0, 1]) Y Y (by decide) Y)
 refine AtC.exit (AtE.then_x (AtE.then_x (AtE.blk_hit (AtE.blk_n (tg ?_)))))
 refine AtC.region (pu hT 3 Y ?_)
 replace H := H _ rfl
 refine AtL.nil ?_
 exact AtE.then_n ((HK11 _ _ H).pickP (ts := [5, 1]) (is := [1]) Y Y (by decide) Y)
 apply AtC.stages [1, 2, 6, 7] [[], [], [1], [1, 2], [1, 2], [1, 2], [1, 2], [1, 2, 6], [1, 2, 6, 7], [1, 2, 6, 7]] [[], [], [0, 1], [0, 1, 2], [0, 1, 2, 3], [0, 1, 2, 3, 4], [0, 1, 2, 3, 4], [0, 1, 2, 3, 4, 5, 6], [0, 1, 2, 3, 4, 5, 6, 7], [0, 1, 2, 3, 4, 5, 6, 7, 8]] hmix (by kernel_rfl) [(141, _)] Y 4 Y
 refine Stg.go [0] [1] Y Y (qq Y (lS hT 0 [_, _, _] Y Y Y Y Y Y Y Y) Y QAll.nil) ?_
 refine EAll.cons ?_ EAll.nil
 refine EOp.e Y Y Y (cl (fun h => ref02uInt _ h _) H Y Tryz.call14 Y (fun w m hr hw => lift_ref02uInt _ w m hr _ hw)) ?_
 rintro _ _ ⟨v_7, h0u15, rfl, rfl, H⟩
 apply Stg.next [(142, _)] Y Y
 refine Stg.go [0] [2] Y Y (qq Y (lS hT 0 [_, _, _] Y Y Y Y Y Y Y Y) Y QAll.nil) ?_
 refine EAll.cons ?_ EAll.nil
 refine EOp.e Y Y Y (cl (fun h => ref02uCmp _ _ h _) H Y Tryz.call37 Y (fun w m hr hw => lift_ref02uCmp _ _ w m hr _ hw)) ?_
 rintro _ _ ⟨v_8, h0u16, rfl, rfl, H⟩
 rcases iteB.cases H with ⟨hb16, H⟩ | ⟨hb16, H⟩
 apply Stg.next [(143, _), (144, _), (145, _), (146, _)] Y Y
 refine Stg.known (t := 145) Y hb16 (Stg.go [3, 4, 5] [6] Y Y (qp hT Y (QAll.cons (QOp.pk hT Y Y Y Y hb16 Y) (QAll.cons (QOp.y Y Y Y Y (lS hT 0 [_, _, _] Y Y Y Y Y Y Y Y) Y Y) QAll.nil))) ?_)
 refine EAll.cons ?_ EAll.nil
 refine EOp.y Y Y Y Y Y (cl (fun h => ref02uInt _ h _) H Y Tryz.call14 Y (fun w m hr hw => lift_ref02uInt _ w m hr _ hw)) ?_
 rintro _ _ ⟨v_9, h0u17, rfl, rfl, H⟩
 apply Stg.next [(147, _)] Y Y
 refine Stg.go [5] [7] Y Y (QAll.cons (QOp.y Y Y Y Y (lS hT 0 [_, _, _] Y Y Y Y Y Y Y Y) Y Y) QAll.nil) ?_
 refine EAll.cons ?_ EAll.nil
 refine EOp.y Y Y Y Y Y (cl (fun h => ref02uCmp _ _ h _) H Y Tryz.call37 Y (fun w m hr hw => lift_ref02uCmp _ _ w m hr _ hw)) ?_
 rintro _ _ ⟨v_10, h0u18, rfl, rfl, H⟩
 apply Stg.next [(148, _), (149, _), (150, _)] Y Y
 refine Stg.fin [8, 9] Y Y (QAll.cons (QOp.yp hT Y Y Y Y Y Y Y) (qp hT Y QAll.nil)) ?_
 exact AtE.then_n ((HK16 _ () _ H).pickP (ts := [150, 1, 5, 6]) (is := [1, 2]) Y Y (by decide) Y)
 apply Stg.next [(143, _), (144, _), (145, _), (146, _)] Y Y
 refine Stg.known (t := 145) Y hb16 (Stg.go [3, 4, 5] [6] Y Y (qp hT Y (QAll.cons (QOp.pk hT Y Y Y Y hb16 Y) (qn Y Y Y Y (by decide) Y Y QAll.nil))) ?_)
 refine EAll.cons ?_ EAll.nil
 refine EOp.no Y Y Y Y (by decide) Y ?_
 apply Stg.next [(147, _)] Y Y
 refine Stg.go [5] [7] Y Y (qn Y Y Y Y (by decide) Y Y QAll.nil) ?_
 refine EAll.cons ?_ EAll.nil
 refine EOp.no Y Y Y Y (by decide) Y ?_
 apply Stg.next [(148, _), (149, _), (150, _)] Y Y
 refine Stg.fin [8, 9] Y Y (qn Y Y Y Y (by decide) Y Y (qp hT Y QAll.nil)) ?_
 exact AtE.then_n ((HK16 _ () _ H).pickP (ts := [150, 1, 5, 6]) (is := [1, 2]) Y Y (by decide) Y)
 refine AtC.region (pu hT 2 Y (AtL.q Y (lS hT 0 [_, _, _] Y Y Y Y Y Y Y Y) (AtL.e Y (cl (fun h => ref02uRight _ h _) H Y Tryz.call11 Y (fun w m hr hw => lift_ref02uRight _ w m hr _ hw)) ?_)))
 rintro _ _ ⟨v_4, h0u10, rfl, rfl, H⟩
 refine pu hT 2 Y ?_
 refine AtL.splitB (t := 130) H Y (fun H => ?_) (fun H => ?_)
 refine nf Y (nf Y (nf Y (nf Y (nf Y (pu hT 1 Y ?_)))))
 refine AtL.nil ?_
 exact AtE.then_n ((HK15 _ () _ H).pickP (ts := [136, 1, 5, 6]) (is := [0, 1]) Y Y (by decide) Y)
 refine ys Y (pu hT 1 Y (ys Y (pu hT 1 Y (ys Y (AtL.q Y (lS hT 0 [_, _, _] Y Y Y Y Y Y Y Y) ?_)))))
 refine ys Y (AtL.e Y (cl (fun h => ref02uRight _ h _) H Y Tryz.call11 Y (fun w m hr hw => lift_ref02uRight _ w m hr _ hw)) ?_)
 rintro _ _ ⟨v_5, h0u11, rfl, rfl, H⟩
 refine ys Y (pu hT 1 Y (pu hT 1 Y (AtL.nil ?_)))
 exact AtE.then_n ((HK15 _ () _ H).pickP (ts := [136, 1, 5, 6]) (is := [0, 1]) Y Y (by decide) Y)
 refine AtC.region (pu hT 1 Y (AtL.q Y (lP hT 0 Y) (pu hT 2 Y ?_)))
 refine AtL.splitB (t := 78) H Y (fun H => ?_) (fun H => ?_)
 refine nf Y (nf Y (nf Y (nf Y (nf Y (pu hT 2 Y ?_)))))
 refine nf Y (nf Y (nf Y (pu hT 2 Y (nf Y (nf Y ?_)))))
 refine nf Y (nf Y (nf Y (nf Y (pu hT 2 Y (nf Y ?_)))))
 refine nf Y (nf Y (nf Y (AtL.noU Y Y Y Y (AtL.noU Y Y Y Y (AtL.noU Y Y Y Y ?_)))))
 refine nf Y (pu hT 2 Y (nf Y (nf Y (nf Y (nf Y ?_)))))
 refine AtL.noU Y Y Y Y (AtL.noU Y Y Y Y (AtL.noU Y Y Y Y (AtL.noU Y Y Y Y (AtL.noU Y Y Y Y (AtL.noU Y Y Y Y ?_)))))
 refine AtL.noU Y Y Y Y (AtL.noU Y Y Y Y (AtL.noU Y Y Y Y (AtL.noU Y Y Y Y (nf Y (pu hT 1 Y ?_)))))
 refine AtL.nil ?_
 exact AtE.then_n ((HK14 _ () _ H).pickP (ts := [124, 1, 5, 6]) (is := [0, 1]) Y Y (by decide) Y)
 refine ys Y (pu hT 1 Y (ys Y (AtL.q Y (lP hT 0 Y) (ys Y (pu hT 1 Y ?_)))))
 refine ys Y (AtL.q Y (lP hT 1 Y) (ys Y (pu hT 1 Y (pu hT 2 Y ?_))))
 refine AtL.splitB (t := 85) H Y (fun H => ?_) (fun H => ?_)
 refine nf Y (nf Y (nf Y (pu hT 2 Y (nf Y (nf Y ?_)))))
 refine nf Y (nf Y (nf Y (nf Y (pu hT 2 Y (nf Y ?_)))))
 refine nf Y (nf Y (nf Y (AtL.noU Y Y Y Y (AtL.noU Y Y Y Y (AtL.noU Y Y Y Y ?_)))))
 refine nf Y (pu hT 2 Y (nf Y (nf Y (nf Y (nf Y ?_)))))
 refine AtL.noU Y Y Y Y (AtL.noU Y Y Y Y (AtL.noU Y Y Y Y (AtL.noU Y Y Y Y (AtL.noU Y Y Y Y (AtL.noU Y Y Y Y ?_)))))
 refine AtL.noU Y Y Y Y (AtL.noU Y Y Y Y (AtL.noU Y Y Y Y (AtL.noU Y Y Y Y (nf Y (pu hT 1 Y ?_)))))
 refine AtL.nil ?_
 exact AtE.then_n ((HK14 _ () _ H).pickP (ts := [124, 1, 5, 6]) (is := [0, 1]) Y Y (by decide) Y)
 refine ys Y (pu hT 1 Y (ys Y (AtL.q Y (lP hT 0 Y) (ys Y (pu hT 1 Y ?_)))))
 refine pu hT 2 Y ?_
 refine AtL.splitB (t := 90) H Y (fun H => ?_) (fun H => ?_)
 refine nf Y (nf Y (nf Y (nf Y (nf Y (nf Y ?_)))))
 refine pu hT 2 Y (nf Y (nf Y (nf Y (nf Y (AtL.noU Y Y Y Y ?_)))))
 refine AtL.noU Y Y Y Y (AtL.noU Y Y Y Y (nf Y (pu hT 2 Y (nf Y (nf Y ?_)))))
 refine nf Y (nf Y (AtL.noU Y Y Y Y (AtL.noU Y Y Y Y (AtL.noU Y Y Y Y (AtL.noU Y Y Y Y ?_)))))
 refine AtL.noU Y Y Y Y (AtL.noU Y Y Y Y (AtL.noU Y Y Y Y (AtL.noU Y Y Y Y (AtL.noU Y Y Y Y (AtL.noU Y Y Y Y ?_)))))
 refine nf Y (pu hT 1 Y (AtL.nil ?_))
 exact AtE.then_n ((HK14 _ () _ H).pickP (ts := [124, 1, 5, 6]) (is := [0, 1]) Y Y (by decide) Y)
 refine ys Y (pu hT 1 Y (ys Y (AtL.q Y (lP hT 0 Y) (ys Y (pu hT 1 Y ?_)))))
 refine ys Y (AtL.q Y (lP hT 1 Y) (ys Y (pu hT 1 Y (ys Y (pu hT 1 Y ?_)))))
 refine pu hT 2 Y ?_
 refine AtL.splitB (t := 98) H Y (fun H => ?_) (fun H => ?_)
 refine nf Y (nf Y (nf Y (nf Y (AtL.noU Y Y Y Y (AtL.noU Y Y Y Y ?_)))))
 refine AtL.noU Y Y Y Y (nf Y (pu hT 2 Y (nf Y (nf Y (nf Y ?_)))))
 refine nf Y (AtL.noU Y Y Y Y (AtL.noU Y Y Y Y (AtL.noU Y Y Y Y (AtL.noU Y Y Y Y (AtL.noU Y Y Y Y ?_)))))
 refine AtL.noU Y Y Y Y (AtL.noU Y Y Y Y (AtL.noU Y Y Y Y (AtL.noU Y Y Y Y (AtL.noU Y Y Y Y (nf Y ?_)))))
 refine pu hT 1 Y (AtL.nil ?_)
 exact AtE.then_n ((HK14 _ () _ H).pickP (ts := [124, 1, 5, 6]) (is := [0, 1]) Y Y (by decide) Y)
 refine ys Y (pu hT 1 Y (ys Y (AtL.q Y (lP hT 0 Y) (ys Y (pu hT 1 Y ?_)))))
 refine ys Y (pu hT 1 Y ?_)
 refine AtL.splitB (t := 102) H Y (fun H => ?_) (fun H => ?_)
 refine ys Y (pu hT 1 Y (ys Y (AtL.q Y (lP hT 0 Y) (ys Y (pu hT 1 Y ?_)))))
 refine ys Y (pu hT 1 Y (pu hT 2 Y ?_))
 refine AtL.splitB (t := 108) H Y (fun H => ?_) (fun H => ?_)
 refine nf Y (nf Y (nf Y (nf Y (AtL.noU Y Y Y Y (AtL.noU Y Y Y Y ?_)))))
 refine AtL.noU Y Y Y Y (AtL.noU Y Y Y Y (AtL.noU Y Y Y Y (AtL.noU Y Y Y Y (AtL.noU Y Y Y Y (AtL.noU Y Y Y Y ?_)))))
 refine AtL.noU Y Y Y Y (AtL.noU Y Y Y Y (nf Y (pu hT 1 Y (AtL.nil ?_))))
 exact AtE.then_n ((HK14 _ () _ H).pickP (ts := [124, 1, 5, 6]) (is := [0, 1]) Y Y (by decide) Y)
 refine ys Y (pu hT 1 Y (ys Y (AtL.q Y (lP hT 0 Y) (ys Y (pu hT 1 Y ?_)))))
 refine ys Y (pu hT 1 Y ?_)
 refine AtL.splitB (t := 112) H Y (fun H => ?_) (fun H => ?_)
 refine ys Y (pu hT 1 Y (ys Y (AtL.q Y (lP hT 0 Y) (ys Y (pu hT 1 Y ?_)))))
 refine ys Y (pu hT 1 Y ?_)
 refine AtL.splitB (t := 116) H Y (fun H => ?_) (fun H => ?_)
 refine nf Y (nf Y (nf Y (nf Y (nf Y (ys Y ?_)))))
 refine pu hT 1 Y (ys Y (pu hT 1 Y (pu hT 1 Y (AtL.nil ?_))))
 exact AtE.then_n ((HK14 _ () _ H).pickP (ts := [124, 1, 5, 6]) (is := [0, 1]) Y Y (by decide) Y)
 refine ys Y (pu hT 1 Y (ys Y (AtL.q Y (lP hT 0 Y) (ys Y (pu hT 1 Y ?_)))))
 refine ys Y (AtL.q Y (lP hT 1 Y) (ys Y (pu hT 1 Y (ys Y (pu hT 1 Y ?_)))))
 refine ys Y (pu hT 1 Y (pu hT 1 Y (AtL.nil ?_)))
 exact AtE.then_n ((HK14 _ () _ H).pickP (ts := [124, 1, 5, 6]) (is := [0, 1]) Y Y (by decide) Y)
 refine nf Y (nf Y (nf Y (nf Y (AtL.noU Y Y Y Y (AtL.noU Y Y Y Y ?_)))))
 refine AtL.noU Y Y Y Y (AtL.noU Y Y Y Y (AtL.noU Y Y Y Y (nf Y (ys Y (pu hT 1 Y ?_)))))
 refine pu hT 1 Y (AtL.nil ?_)
 exact AtE.then_n ((HK14 _ () _ H).pickP (ts := [124, 1, 5, 6]) (is := [0, 1]) Y Y (by decide) Y)
 refine nf Y (nf Y (nf Y (ys Y (pu hT 1 Y (pu hT 2 Y ?_)))))
 refine ys Y (pu hT 1 Y (ys Y (AtL.q Y (lP hT 0 Y) (ys Y (pu hT 1 Y ?_)))))
 refine ys Y (pu hT 1 Y ?_)
 refine AtL.splitB (t := 112) H Y (fun H => ?_) (fun H => ?_)
 refine ys Y (pu hT 1 Y (ys Y (AtL.q Y (lP hT 0 Y) (ys Y (pu hT 1 Y ?_)))))
 refine ys Y (pu hT 1 Y ?_)
 refine AtL.splitB (t := 116) H Y (fun H => ?_) (fun H => ?_)
 refine nf Y (nf Y (nf Y (nf Y (nf Y (ys Y ?_)))))
 refine pu hT 1 Y (ys Y (pu hT 1 Y (pu hT 1 Y (AtL.nil ?_))))
 exact AtE.then_n ((HK14 _ () _ H).pickP (ts := [124, 1, 5, 6]) (is := [0, 1]) Y Y (by decide) Y)
 refine ys Y (pu hT 1 Y (ys Y (AtL.q Y (lP hT 0 Y) (ys Y (pu hT 1 Y ?_)))))
 refine ys Y (AtL.q Y (lP hT 1 Y) (ys Y (pu hT 1 Y (ys Y (pu hT 1 Y ?_)))))
 refine ys Y (pu hT 1 Y (pu hT 1 Y (AtL.nil ?_)))
 exact AtE.then_n ((HK14 _ () _ H).pickP (ts := [124, 1, 5, 6]) (is := [0, 1]) Y Y (by decide) Y)
 refine nf Y (nf Y (nf Y (nf Y (AtL.noU Y Y Y Y (AtL.noU Y Y Y Y ?_)))))
 refine AtL.noU Y Y Y Y (AtL.noU Y Y Y Y (AtL.noU Y Y Y Y (nf Y (ys Y (pu hT 1 Y ?_)))))
 refine pu hT 1 Y (AtL.nil ?_)
 exact AtE.then_n ((HK14 _ () _ H).pickP (ts := [124, 1, 5, 6]) (is := [0, 1]) Y Y (by decide) Y)
 refine AtC.exit (AtE.then_x (AtE.then_x (AtE.blk_hit (tg (AtC.seq ?_)))))
 refine sR (pu hT 1 Y (ng (AtC.block ?_)))
 refine AtC.loopM (fun (s0u3 : Int) => [(9, Value.int .i64 s0u3)]) (fun (s0u3 : Int) => []) [1] [9, 1] [0] [0] H Y Y Y (by decide) Y (fun Kp21 s0u3 h0u20 H Q21 HK21 => ?_)
 refine AtC.seq (sR (pu hT 2 Y (AtL.q Y (lP hT 0 Y) (pu hT 2 Y (ng ?_)))))
 refine AtC.condB H Y (fun H => ?_) (fun H => ?_)
 refine AtC.skip (tg (AtC.seq (AtC.block (sR (pu hT 1 Y ?_)))))
 refine ng (AtC.block ?_)
 refine AtC.loopM (fun (s0u4 : Int) => [(10, Value.int .i64 s0u4)]) (fun (s0u4 : Int) => []) [1, 9] [10, 1, 9] [0] [0] H Y Y Y (by decide) Y (fun Kp22 s0u4 h0u21 H Q22 HK22 => ?_)
 refine AtC.seq (sR (pu hT 2 Y (AtL.q Y (lP hT 0 Y) (pu hT 1 Y ?_))))
 obtain ⟨a_4_, hc22, hd22, H⟩ := H
 refine AtL.q Y (Quiet1.idxS hT Y Y Y Y Y hc22 hd22) ?_
 obtain ⟨v_12, hc23, H⟩ := H
 refine AtL.q Y (Quiet1.load hT Y Y Y hc23) (pu hT 2 Y (ng ?_))
 refine AtC.condB H Y (fun H => ?_) (fun H => ?_)
 refine AtC.skip (tg (AtC.seq (AtC.block (sR (pu hT 1 Y ?_)))))
 refine AtL.q Y (lP hT 0 Y) (pu hT 1 Y ?_)
 obtain ⟨a_5_, hc24, hd24, H⟩ := H
 refine AtL.q Y (Quiet1.idxS hT Y Y Y Y Y hc24 hd24) ?_
 obtain ⟨v_13, hc25, H⟩ := H
 refine AtL.q Y (Quiet1.load hT Y Y Y hc25) (pu hT 1 Y ?_)
 obtain ⟨a_6_, hc26, hd26, H⟩ := H
 refine AtL.q Y (Quiet1.idxS hT Y Y Y Y Y hc26 hd26) ?_
 obtain ⟨v_14, hc27, H⟩ := H
 refine AtL.q Y (Quiet1.load hT Y Y Y hc27) (pu hT 1 Y (ng ?_))
 refine AtC.joinSeq (β := Unit) (fun (t0u5 : Bool) (bb_5 : Unit) => [(212, Value.bool t0u5)]) (fun (t0u5 : Bool) (bb_5 : Unit) => []) [1, 9, 10] [0] H Y Y (fun t0u5 bb_5 h0u22 H => ?_) (fun J29 H HK29 => ?_)
 refine AtC.condB H Y (fun H => ?_) (fun H => ?_)
 refine sR (pu hT 1 Y (ng (AtC.ret (AtE.blk_r (AtE.then_r ?_)))))
 refine AtE.then_r (AtE.blk_r (AtE.blk_r (AtE.then_r (AtE.then_r (AtE.blk_r ?_)))))
 refine AtE.then_r ?_
 exact r1 2 Y Y Y H
 refine AtC.skip (AtE.blk_n (tg (AtC.region (pu hT 3 Y ?_))))
 replace H := H _ rfl
 refine AtL.nil ?_
 exact AtE.then_n ((HK22 _ _ H).pickP (ts := [10, 1, 9]) (is := [0]) Y Y (by decide) Y)
 refine AtC.region (pu hT 3 Y ?_)
 refine AtL.splitB (t := 192) H Y (fun H => ?_) (fun H => ?_)
 refine nf Y (nf Y (nf Y (AtL.noU Y Y Y Y (AtL.noU Y Y Y Y (AtL.noU Y Y Y Y ?_)))))
 refine AtL.noU Y Y Y Y (nf Y (pu hT 2 Y (nf Y (nf Y (nf Y ?_)))))
 refine AtL.noU Y Y Y Y (AtL.noU Y Y Y Y (AtL.noU Y Y Y Y (AtL.noU Y Y Y Y (AtL.noU Y Y Y Y (nf Y ?_)))))
 refine pu hT 1 Y (AtL.nil ?_)
 exact AtE.then_n ((HK29 _ () _ H).pickP (ts := [212, 1, 9, 10]) (is := [0]) Y Y (by decide) Y)
 refine ys Y (pu hT 1 Y (ys Y (pu hT 1 Y (ys Y (pu hT 1 Y ?_)))))
 refine AtL.splitB (t := 195) H Y (fun H => ?_) (fun H => ?_)
 refine ys Y (pu hT 1 Y (ys Y (pu hT 1 Y (ys Y (AtL.q Y (lP hT 0 Y) ?_)))))
 refine ys Y (pu hT 1 Y (ys Y (pu hT 1 Y (pu hT 2 Y ?_))))
 refine AtL.splitB (t := 202) H Y (fun H => ?_) (fun H => ?_)
 refine nf Y (nf Y (nf Y (AtL.noU Y Y Y Y (AtL.noU Y Y Y Y (AtL.noU Y Y Y Y ?_)))))
 refine AtL.noU Y Y Y Y (AtL.noU Y Y Y Y (nf Y (pu hT 1 Y (AtL.nil ?_))))
 exact AtE.then_n ((HK29 _ () _ H).pickP (ts := [212, 1, 9, 10]) (is := [0]) Y Y (by decide) Y)
 refine ys Y (pu hT 1 Y (ys Y (pu hT 1 Y (ys Y (pu hT 1 Y ?_)))))
 refine AtL.splitB (t := 205) H Y (fun H => ?_) (fun H => ?_)
 refine ys Y (pu hT 1 Y (ys Y (pu hT 1 Y (ys Y (AtL.q Y (lP hT 0 Y) ?_)))))
 refine ys Y (pu hT 1 Y (ys Y (pu hT 1 Y (ys Y (pu hT 1 Y ?_)))))
 refine pu hT 1 Y (AtL.nil ?_)
 exact AtE.then_n ((HK29 _ () _ H).pickP (ts := [212, 1, 9, 10]) (is := [0]) Y Y (by decide) Y)
 refine nf Y (nf Y (nf Y (nf Y (nf Y (ys Y ?_)))))
 refine pu hT 1 Y (pu hT 1 Y (AtL.nil ?_))
 exact AtE.then_n ((HK29 _ () _ H).pickP (ts := [212, 1, 9, 10]) (is := [0]) Y Y (by decide) Y)
 refine nf Y (nf Y (nf Y (nf Y (ys Y (pu hT 1 Y ?_)))))
 refine pu hT 2 Y (ys Y (pu hT 1 Y (ys Y (pu hT 1 Y (ys Y ?_)))))
 refine pu hT 1 Y ?_
 refine AtL.splitB (t := 205) H Y (fun H => ?_) (fun H => ?_)
 refine ys Y (pu hT 1 Y (ys Y (pu hT 1 Y (ys Y (AtL.q Y (lP hT 0 Y) ?_)))))
 refine ys Y (pu hT 1 Y (ys Y (pu hT 1 Y (ys Y (pu hT 1 Y ?_)))))
 refine pu hT 1 Y (AtL.nil ?_)
 exact AtE.then_n ((HK29 _ () _ H).pickP (ts := [212, 1, 9, 10]) (is := [0]) Y Y (by decide) Y)
 refine nf Y (nf Y (nf Y (nf Y (nf Y (ys Y ?_)))))
 refine pu hT 1 Y (pu hT 1 Y (AtL.nil ?_))
 exact AtE.then_n ((HK29 _ () _ H).pickP (ts := [212, 1, 9, 10]) (is := [0]) Y Y (by decide) Y)
 refine AtC.exit (AtE.then_x (AtE.then_x (AtE.blk_hit (AtE.blk_n (tg ?_)))))
 refine AtC.region (pu hT 3 Y ?_)
 replace H := H _ rfl
 refine AtL.nil ?_
 exact AtE.then_n ((HK21 _ _ H).pickP (ts := [9, 1]) (is := [0]) Y Y (by decide) Y)
 refine AtC.exit (AtE.then_x (AtE.then_x (AtE.blk_hit (tg (sR ?_)))))
 refine pu hT 1 Y (ng (AtC.ret ?_))
 exact r1 2 Y Y Y H
 refine AtC.region (pu hT 1 Y (AtL.q Y (lP hT 0 Y) (pu hT 2 Y ?_)))
 refine AtL.splitB (t := 15) H Y (fun H => ?_) (fun H => ?_)
 refine nf Y (nf Y (nf Y (pu hT 1 Y (AtL.nil ?_))))
 exact AtE.then_n ((HK1 _ () _ H).pickP (ts := [19, 1]) (is := [0]) Y Y (by decide) Y)
 refine ys Y (pu hT 1 Y (ys Y (AtL.q Y (lP hT 0 Y) (ys Y (pu hT 1 Y ?_)))))
 refine pu hT 1 Y (AtL.nil ?_)
 exact AtE.then_n ((HK1 _ () _ H).pickP (ts := [19, 1]) (is := [0]) Y Y (by decide) Y)
theorem lift_ref02uMul (x0 : Bool × Sl × Sl) (y : Bool × Sl × Sl) (w : World) (m : Heap) (hr : Rel ⟨m, []⟩ w.heap) (S : (Bool × Sl × Sl) → Heap → Prop) (H : ref02uMul x0 y m S) :
 Calls Tryz.prog 51 #[Value.agg (C_bool_sl_sl x0).toArray, Value.agg (C_bool_sl_sl y).toArray] w (Post ⟨w, m⟩ (fun r => Value.agg (C_bool_sl_sl r).toArray) S) := by
 refine Calls.lift (args := [Value.agg (C_bool_sl_sl x0).toArray, Value.agg (C_bool_sl_sl y).toArray]) Tryz.func51 Y Tryz.ntmps51 (Nat.le_of_ble_eq_true Y) hr (ref02uMul x0 y m S) H (fun H => ?_)
 refine AtC.pick (ts := [0, 1]) Y ?_
 unfold ref02uMul at H
 refine sR (AtL.e Y (EffX.boxP (cs := [_, _, _]) Y Y Y H) ?_)
 rintro _ _ ⟨b, _, rfl, rfl, _, H⟩
 refine AtL.e Y (EffX.boxP (cs := [_, _, _]) Y Y Y H) ?_
 rintro _ _ ⟨b_1, _, rfl, rfl, _, H⟩
 refine AtL.e Y (EffX.allocP (cs := [_, _, _]) hT Y Y H) ?_
 rintro _ _ ⟨b_2, _, rfl, rfl, _, H⟩
 refine AtL.nil ?_
 replace H := H.self
 refine tg ?_
 apply AtC.seqS [9, 14, 16, 17] [[], [], [], [], [], [], [], [], [], [], [], [], [], [], [9], [9, 14], [9, 14], [9, 14, 16]] [[], [0], [], [2], [0, 1, 2, 3], [], [5], [], [7], [5, 6, 7, 8], [], [10], [], [12], [5, 6, 7, 8, 9, 10, 11, 12, 13], [0, 1, 2, 3, 4, 5, 6, 7, 8, 9, 10, 11, 12, 13, 14], [0, 1, 2, 3, 4, 5, 6, 7, 8, 9, 10, 11, 12, 13, 14, 15], [0, 1, 2, 3, 4, 5, 6, 7, 8, 9, 10, 11, 12, 13, 14, 15, 16]] hmix (by kernel_rfl) [(5, _), (6, _), (7, _), (8, _), (9, _), (10, _), (11, _), (12, _), (13, _), (15, _), (16, _), (17, _), (18, _)] Y 4 Y
 refine Stg.go [0, 1, 2, 3, 4, 5, 6, 7, 8, 10, 11, 12, 13] [9] Y Y (qp hT Y (qq Y (lP hT 2 Y) Y (qp hT Y (qq Y (lP hT 1 Y) Y (qp hT Y (qp hT Y (qq Y (lP hT 2 Y) Y (qp hT Y (qq Y (lP hT 1 Y) Y (qp hT Y (qq Y (lP hT 2 Y) Y (qp hT Y (qq Y (lP hT 1 Y) Y QAll.nil))))))))))))) ?_
 refine EAll.cons ?_ EAll.nil
 refine EOp.e Y Y Y (cl (fun h => ref01uMul _ _ h _) H Y Tryz.call117 Y (fun w m hr hw => lift_ref01uMul _ _ w m hr _ hw)) ?_
 rintro _ _ ⟨v, h0u1, rfl, rfl, H⟩
 apply Stg.next [(14, _)] Y Y
 refine Stg.go [0, 1, 2, 3, 4, 10, 11, 12, 13] [14] Y Y (qp hT Y (qq Y (lP hT 2 Y) Y (qp hT Y (qq Y (lP hT 1 Y) Y (qp hT Y (qp hT Y (qq Y (lP hT 2 Y) Y (qp hT Y (qq Y (lP hT 1 Y) Y QAll.nil))))))))) ?_
 refine EAll.cons ?_ EAll.nil
 refine EOp.e Y Y Y (cl (fun h => ref01uMul _ _ h _) H Y Tryz.call117 Y (fun w m hr hw => lift_ref01uMul _ _ w m hr _ hw)) ?_
 rintro _ _ ⟨v_1, h0u2, rfl, rfl, H⟩
 apply Stg.next [(19, _), (20, _)] Y Y
 refine Stg.go [0, 1, 2, 3, 4, 15] [16] Y Y (qp hT Y (qq Y (lP hT 2 Y) Y (qp hT Y (qq Y (lP hT 1 Y) Y (qp hT Y (qq Y (Quiet1.build (cs := [_, _, _]) hT Y Y Y Y Y Y) Y QAll.nil)))))) ?_
 refine EAll.cons ?_ EAll.nil
 refine EOp.e Y Y Y (cl (fun h => ref02uLow _ h _) H Y Tryz.call114 Y (fun w m hr hw => lift_ref02uLow _ w m hr _ hw)) ?_
 rintro _ _ ⟨v_2, h0u3, rfl, rfl, H⟩
 apply Stg.next [(21, _)] Y Y
 refine Stg.go [] [17] Y Y QAll.nil ?_
 refine EAll.cons ?_ EAll.nil
 refine EOp.e Y Y Y (EffX.storeSP (i := 0) (qv := [(_, [_, _, _]), (_, [_, _, _]), (_, [_, _, _])]) hT Y Y Y Y Y Y Y Y Y Y) ?_
 rintro _ _ rfl
 apply Stg.next [] Y Y
 refine Stg.fin [] Y Y QAll.nil (tg (AtC.ret ?_))
 exact AtE.retN (rs := [.cell 4 55]) Y (ResAll.cons (ResAt.cellSP (i := 0) (l := [_, _, _]) hT Y Y Y Y Y Y Y) ResAll.nil) Y H
theorem lift_ref12uValue (p : Bool × Sl × Sl × Sl) (reals : Sl) (w : World) (m : Heap) (hr : Rel ⟨m, []⟩ w.heap) (S : (Bool × Sl × Sl) → Heap → Prop) (H : ref12uValue p reals m S) :
 Calls Tryz.prog 13 #[Value.agg (C_bool_sl_sl_sl p).toArray, Sl.toV reals] w (Post ⟨w, m⟩ (fun r => Value.agg (C_bool_sl_sl r).toArray) S) := by
 refine Calls.lift (args := [Value.agg (C_bool_sl_sl_sl p).toArray, Sl.toV reals]) Tryz.func13 Y Tryz.ntmps13 (Nat.le_of_ble_eq_true Y) hr (ref12uValue p reals m S) H (fun H => ?_)
 refine AtC.pick (ts := [0, 1]) Y ?_
 unfold ref12uValue at H
 refine sR (AtL.e Y (EffX.boxP (cs := [_, _, _, _]) Y Y Y H) ?_)
 rintro _ _ ⟨b, _, rfl, rfl, _, H⟩
 refine AtL.e Y (EffX.allocP (cs := [_, _, _]) hT Y Y H) ?_
 rintro _ _ ⟨b_1, _, rfl, rfl, _, H⟩
 refine AtL.nil ?_
 replace H := H.self
 refine tg (sR (pu hT 1 Y (AtL.q Y (lS hT 1 [_, _, _] Y Y Y Y Y Y Y Y) (AtL.e Y (cl (fun h => ref02uOf _ h _) H Y Tryz.call36 Y (fun w m hr hw => lift_ref02uOf _ w m hr _ hw)) ?_))))
 rintro _ _ ⟨v, h0u1, rfl, rfl, H⟩
 refine AtL.e Y (EffX.allocP (cs := [_, _, _]) hT Y Y H) ?_
 rintro _ _ ⟨b_2, _, rfl, rfl, _, H⟩
 replace H := H.self
 refine AtL.e Y (EffX.storeSP (i := 0) (qv := [(_, [_, _, _]), (_, [_, _, _]), (_, [_, _, _, _])]) hT Y Y Y Y Y Y Y Y Y Y) ?_
 rintro _ _ rfl
 refine ng (AtC.seq (sR (pu hT 1 Y (ng (AtC.block ?_)))))
 refine AtC.loopM (fun (s0 : Int × Bool × Sl × Sl) => [(6, Value.int .i64 s0.1)]) (fun (s0 : Int × Bool × Sl × Sl) => [(b_2, [Value.bool s0.2.1, Sl.toV s0.2.2.1, Sl.toV s0.2.2.2])]) [1, 2, 4, 5] [6, 1, 2, 4, 5] [1, 2] [0, 1, 2] H Y Y Y (by decide) Y (fun Kp1 s0 h0u3 H Q1 HK1 => ?_)
 refine AtC.seq (sR (pu hT 2 Y (AtL.q Y (lP hT 2 Y) (pu hT 2 Y (ng ?_)))))
 refine AtC.condB H Y (fun H => ?_) (fun H => ?_)
 refine AtC.skip (tg (AtC.seq (AtC.block ?_)))
 obtain ⟨a_, hc1, hd1, H⟩ := H
 obtain ⟨v_1, hc2, H⟩ := H
 obtain ⟨a_1_, hc3, hd3, H⟩ := H
 obtain ⟨v_2, hc4, H⟩ := H
 obtain ⟨a_2_, hc5, hd5, H⟩ := H
 obtain ⟨v_3, hc6, H⟩ := H
 apply AtC.stages [7, 17, 18, 19, 20] [[], [], [], [], [], [], [], [], [], [], [], [], [], [], [], [], [], [7], [7, 17], [7, 17, 18], [7, 17, 18, 19]] [[], [], [1], [], [1, 2, 3], [1, 2, 3, 4], [1, 2, 3, 4, 5], [1, 2, 3, 4, 5, 6], [], [], [9], [], [9, 10, 11], [9, 10, 11, 12], [9, 10, 11, 12, 13], [8, 9, 10, 11, 12, 13, 14], [8, 9, 10, 11, 12, 13, 14, 15], [1, 2, 3, 4, 5, 6, 7, 8, 9, 10, 11, 12, 13, 14, 15, 16], [1, 2, 3, 4, 5, 6, 7, 8, 9, 10, 11, 12, 13, 14, 15, 16, 17], [0, 1, 2, 3, 4, 5, 6, 7, 8, 9, 10, 11, 12, 13, 14, 15, 16, 17, 18], [0, 1, 2, 3, 4, 5, 6, 7, 8, 9, 10, 11, 12, 13, 14, 15, 16, 17, 18, 19]] hmix (by kernel_rfl) [(17, _), (18, _), (19, _), (20, _), (21, _), (22, _), (23, _), (25, _), (26, _), (27, _), (28, _), (29, _), (30, _), (31, _), (32, _), (33, _)] Y 5 Y
 refine Stg.go [0, 1, 2, 3, 4, 5, 6, 8, 9, 10, 11, 12, 13, 14, 15, 16] [7] Y Y (qq Y (lS hT 0 [_, _, _] Y Y Y Y Y Y Y Y) Y (qp hT Y (qq Y (lP hT 2 Y) Y (qp hT Y (qq Y (Quiet1.idxS hT Y Y Y Y Y hc1 hd1) Y (qp hT Y (qq Y (Quiet1.loadS hT Y Y Y Y hc2) Y (qp hT Y (qp hT Y (qq Y (lP hT 2 Y) Y (qp hT Y (qq Y (Quiet1.idxS hT Y Y Y Y Y hc3 hd3) Y (qp hT Y (qq Y (Quiet1.load hT Y Y Y hc4) Y (qq Y (Quiet1.idxS hT Y Y Y Y Y hc5 hd5) Y (qq Y (Quiet1.loadS hT Y Y Y Y hc6) Y QAll.nil)))))))))))))))) ?_
 refine EAll.cons ?_ EAll.nil
 refine EOp.e Y Y Y (cl (fun h => ref02uOf _ h _) H Y Tryz.call36 Y (fun w m hr hw => lift_ref02uOf _ w m hr _ hw)) ?_
 rintro _ _ ⟨v_4, h0u4, rfl, rfl, H⟩
 obtain ⟨hc7, H⟩ := H
 obtain ⟨hc8, H⟩ := H
 apply Stg.next [(24, _)] Y Y
 refine Stg.go [0, 8, 9, 10, 11, 12, 13, 14, 15, 16] [17] Y Y (qq Y (lS hT 0 [_, _, _] Y Y Y Y Y Y Y Y) Y (qp hT Y (qp hT Y (qq Y (lP hT 2 Y) Y (qp hT Y (qq Y (Quiet1.idxS hT Y Y Y Y Y hc3 hd3) Y (qp hT Y (qq Y (Quiet1.load hT Y Y Y hc7) Y (qq Y (Quiet1.idxS hT Y Y Y Y Y hc5 hd5) Y (qq Y (Quiet1.loadS hT Y Y Y Y hc8) Y QAll.nil)))))))))) ?_
 refine EAll.cons ?_ EAll.nil
 refine EOp.e Y Y Y (cl (fun h => ref02uOf _ h _) H Y Tryz.call36 Y (fun w m hr hw => lift_ref02uOf _ w m hr _ hw)) ?_
 rintro _ _ ⟨v_5, h0u5, rfl, rfl, H⟩
 apply Stg.next [(34, _)] Y Y
 refine Stg.go [0] [18] Y Y (qq Y (lS hT 0 [_, _, _] Y Y Y Y Y Y Y Y) Y QAll.nil) ?_
 refine EAll.cons ?_ EAll.nil
 refine EOp.e Y Y Y (cl (fun h => ref02uMul _ _ h _) H Y Tryz.call51 Y (fun w m hr hw => lift_ref02uMul _ _ w m hr _ hw)) ?_
 rintro _ _ ⟨v_6, h0u6, rfl, rfl, H⟩
 apply Stg.next [(35, _)] Y Y
 refine Stg.go [0] [19] Y Y (qq Y (lS hT 0 [_, _, _] Y Y Y Y Y Y Y Y) Y QAll.nil) ?_
 refine EAll.cons ?_ EAll.nil
 refine EOp.e Y Y Y (cl (fun h => ref02uAdd _ _ h _) H Y Tryz.call50 Y (fun w m hr hw => lift_ref02uAdd _ _ w m hr _ hw)) ?_
 rintro _ _ ⟨v_7, h0u7, rfl, rfl, H⟩
 apply Stg.next [(36, _)] Y Y
 refine Stg.go [] [20] Y Y QAll.nil ?_
 refine EAll.cons ?_ EAll.nil
 refine EOp.e Y Y Y (EffX.storeSP (i := 0) (qv := [(_, [_, _, _]), (_, [_, _, _]), (_, [_, _, _, _])]) hT Y Y Y Y Y Y Y Y Y Y) ?_
 rintro _ _ rfl
 apply Stg.next [] Y Y
 refine Stg.fin [] Y Y QAll.nil (AtE.blk_n (tg (AtC.region (pu hT 3 Y ?_))))
 replace H := H _ rfl
 refine AtL.nil ?_
 exact AtE.then_n ((HK1 _ _ H).pickP (ts := [6, 1, 2, 4, 5]) (is := [0, 1, 2]) Y Y (by decide) Y)
 refine AtC.exit (AtE.then_x (AtE.then_x (AtE.blk_hit (tg (sR ?_)))))
 refine AtL.q Y (lS hT 0 [_, _, _] Y Y Y Y Y Y Y Y) (AtL.e Y (EffX.storeSP (i := 1) (qv := [(_, [_, _, _]), (_, [_, _, _]), (_, [_, _, _, _])]) hT Y Y Y Y Y Y Y Y Y Y) ?_)
 rintro _ _ rfl
 refine ng (AtC.ret ?_)
 exact AtE.retN (rs := [.cell 4 55]) Y (ResAll.cons (ResAt.cellSP (i := 1) (l := [_, _, _]) hT Y Y Y Y Y Y Y) ResAll.nil) Y H
theorem lift_ref03uOf (x0 : Bool × Sl × Sl × Bool × Sl × Sl) (w : World) (m : Heap) (hr : Rel ⟨m, []⟩ w.heap) (S : (Bool × Sl × Sl × Bool × Sl × Sl) → Heap → Prop) (H : ref03uOf x0 m S) :
 Calls Tryz.prog 16 #[Value.agg (C_bool_sl_sl_bool_sl_sl x0).toArray] w (Post ⟨w, m⟩ (fun r => Value.agg (C_bool_sl_sl_bool_sl_sl r).toArray) S) := by
 refine Calls.lift (args := [Value.agg (C_bool_sl_sl_bool_sl_sl x0).toArray]) Tryz.func16 Y Tryz.ntmps16 (Nat.le_of_ble_eq_true Y) hr (ref03uOf x0 m S) H (fun H => ?_)
 refine AtC.pick (ts := [0]) Y ?_
 unfold ref03uOf at H
 refine sR (AtL.e Y (EffX.boxP (cs := [_, _, _, _, _, _]) Y Y Y H) ?_)
 rintro _ _ ⟨b, _, rfl, rfl, _, H⟩
 refine AtL.e Y (EffX.allocP (cs := [_, _, _, _, _, _]) hT Y Y H) ?_
 rintro _ _ ⟨b_1, _, rfl, rfl, _, H⟩
 refine AtL.nil ?_
 replace H := H.self
 refine tg ?_
 apply AtC.seqS [2, 5, 7] [[], [], [], [], [], [2], [2, 5], [2, 5]] [[], [0], [0, 1], [], [3], [0, 1, 2, 3, 4], [0, 1, 2, 3, 4, 5], [0, 1, 2, 3, 4, 5, 6]] hmix (by kernel_rfl) [(3, _), (4, _), (6, _), (7, _)] Y 3 Y
 refine Stg.go [0, 1, 3, 4] [2] Y Y (qp hT Y (qq Y (lS hT 1 [_, _, _] Y Y Y Y Y Y Y Y) Y (qp hT Y (qq Y (lS hT 1 [_, _, _] Y Y Y Y Y Y Y Y) Y QAll.nil)))) ?_
 refine EAll.cons ?_ EAll.nil
 refine EOp.e Y Y Y (cl (fun h => ref02uOf _ h _) H Y Tryz.call36 Y (fun w m hr hw => lift_ref02uOf _ w m hr _ hw)) ?_
 rintro _ _ ⟨v, h0u1, rfl, rfl, H⟩
 apply Stg.next [(5, _)] Y Y
 refine Stg.go [3, 4] [5] Y Y (qp hT Y (qq Y (lS hT 1 [_, _, _] Y Y Y Y Y Y Y Y) Y QAll.nil)) ?_
 refine EAll.cons ?_ EAll.nil
 refine EOp.e Y Y Y (cl (fun h => ref02uOf _ h _) H Y Tryz.call36 Y (fun w m hr hw => lift_ref02uOf _ w m hr _ hw)) ?_
 rintro _ _ ⟨v_1, h0u2, rfl, rfl, H⟩
 apply Stg.next [(8, _), (9, _)] Y Y
 refine Stg.go [6] [7] Y Y (qq Y (Quiet1.build (cs := [_, _, _, _, _, _]) hT Y Y Y Y Y Y) Y QAll.nil) ?_
 refine EAll.cons ?_ EAll.nil
 refine EOp.e Y Y Y (EffX.storeSP (i := 0) (qv := [(_, [_, _, _, _, _, _]), (_, [_, _, _, _, _, _])]) hT Y Y Y Y Y Y Y Y Y Y) ?_
 rintro _ _ rfl
 apply Stg.next [] Y Y
 refine Stg.fin [] Y Y QAll.nil (tg (AtC.ret ?_))
 exact AtE.retN (rs := [.cell 2 59]) Y (ResAll.cons (ResAt.cellSP (i := 0) (l := [_, _, _, _, _, _]) hT Y Y Y Y Y Y Y) ResAll.nil) Y H
theorem lift_ref03uCmp (x0 : Bool × Sl × Sl × Bool × Sl × Sl) (y : Bool × Sl × Sl × Bool × Sl × Sl) (w : World) (m : Heap) (hr : Rel ⟨m, []⟩ w.heap) (S : Int → Heap → Prop) (H : ref03uCmp x0 y m S) :
 Calls Tryz.prog 15 #[Value.agg (C_bool_sl_sl_bool_sl_sl x0).toArray, Value.agg (C_bool_sl_sl_bool_sl_sl y).toArray] w (Post ⟨w, m⟩ (Value.int .i64) S) := by
 refine Calls.lift (args := [Value.agg (C_bool_sl_sl_bool_sl_sl x0).toArray, Value.agg (C_bool_sl_sl_bool_sl_sl y).toArray]) Tryz.func15 Y Tryz.ntmps15 (Nat.le_of_ble_eq_true Y) hr (ref03uCmp x0 y m S) H (fun H => ?_)
 refine AtC.pick (ts := [0, 1]) Y ?_
 unfold ref03uCmp at H
 refine sR (AtL.e Y (EffX.boxP (cs := [_, _, _, _, _, _]) Y Y Y H) ?_)
 rintro _ _ ⟨b, _, rfl, rfl, _, H⟩
 refine AtL.e Y (EffX.boxP (cs := [_, _, _, _, _, _]) Y Y Y H) ?_
 rintro _ _ ⟨b_1, _, rfl, rfl, _, H⟩
 replace H := H.self
 refine pu hT 1 Y (ng (sR (pu hT 1 Y (AtL.q Y (lS hT 1 [_, _, _] Y Y Y Y Y Y Y Y) (pu hT 1 Y ?_)))))
 refine AtL.q Y (lS hT 0 [_, _, _] Y Y Y Y Y Y Y Y) (AtL.e Y (cl (fun h => ref02uCmp _ _ h _) H Y Tryz.call37 Y (fun w m hr hw => lift_ref02uCmp _ _ w m hr _ hw)) ?_)
 rintro _ _ ⟨v, h0u1, rfl, rfl, H⟩
 refine pu hT 1 Y (ng ?_)
 refine AtC.joinSeq (β := Unit) (fun (t0 : Int) (bb : Unit) => [(5, Value.int .i64 t0)]) (fun (t0 : Int) (bb : Unit) => []) [] [] H Y Y (fun t0 bb h0u2 H => ?_) (fun J1 H HK1 => ?_)
 refine sR (pu hT 2 Y (ng (AtC.ret ?_)))
 exact r1 4 Y Y Y H
 refine sR (pu hT 2 Y (ng ?_))
 refine AtC.condB H Y (fun H => ?_) (fun H => ?_)
 refine AtC.region (pu hT 1 Y (AtL.q Y (lS hT 1 [_, _, _] Y Y Y Y Y Y Y Y) (pu hT 1 Y (AtL.q Y (lS hT 0 [_, _, _] Y Y Y Y Y Y Y Y) (AtL.e Y (cl (fun h => ref02uCmp _ _ h _) H Y Tryz.call37 Y (fun w m hr hw => lift_ref02uCmp _ _ w m hr _ hw)) ?_)))))
 rintro _ _ ⟨v_1, h0u3, rfl, rfl, H⟩
 refine pu hT 1 Y (AtL.nil ?_)
 exact AtE.then_n ((HK1 _ () _ H).pickP (ts := [5]) (is := []) Y Y (by decide) Y)
 refine AtC.skip ?_
 exact AtE.then_n ((HK1 _ () _ H).pickP (ts := [5]) (is := []) Y Y (by decide) Y)
theorem lift_law16uFarkasNever (p : Int × Int × Sl × Sl × Sl × Sl × Sl) (list : Sl) (reals : Sl) (w : World) (m : Heap) (hr : Rel ⟨m, []⟩ w.heap) (S : Bool → Heap → Prop) (H : law16uFarkasNever p list reals m S) :
 Calls Tryz.prog 3 #[Value.agg (C_i64ui64usl_sl_sl_sl_sl p).toArray, Sl.toV list, Sl.toV reals] w (Post ⟨w, m⟩ Value.bool S) := by
 refine Calls.lift (args := [Value.agg (C_i64ui64usl_sl_sl_sl_sl p).toArray, Sl.toV list, Sl.toV reals]) Tryz.func3 Y Tryz.ntmps3 (Nat.le_of_ble_eq_true Y) hr (law16uFarkasNever p list reals m S) H (fun H => ?_)
 refine AtC.pick (ts := [0, 1, 2]) Y ?_
 unfold law16uFarkasNever at H
 refine sR (AtL.e Y (EffX.boxP (cs := [_, _, _, _, _, _, _]) Y Y Y H) ?_)
 rintro _ _ ⟨b, _, rfl, rfl, _, H⟩
 replace H := H.self
 refine pu hT 1 Y (ng (AtC.seq (sR (AtL.e Y (cl (fun h => law16uspeaks h _) H Y Tryz.call6 Y (fun w m hr hw => lift_law16uspeaks  w m hr _ hw)) ?_))))
 rintro _ _ ⟨v, h0u1, rfl, rfl, H⟩
 refine pu hT 1 Y (ng ?_)
 refine AtC.condB H Y (fun H => ?_) (fun H => ?_)
 refine sR (pu hT 1 Y (ng (AtC.ret (AtE.then_r ?_))))
 exact r1 6 Y Y Y H
 refine AtC.skip (tg (AtC.seq ?_))
 refine AtC.joinSeq (β := Unit) (fun (t0 : Bool) (bb : Unit) => [(42, Value.bool t0)]) (fun (t0 : Bool) (bb : Unit) => []) [1, 2, 3] [0] H Y Y (fun t0 bb h0u2 H => ?_) (fun J1 H HK1 => ?_)
 refine AtC.condB H Y (fun H => ?_) (fun H => ?_)
 refine sR (pu hT 1 Y (ng (AtC.ret (AtE.then_r ?_))))
 exact r1 6 Y Y Y H
 refine AtC.skip (tg (AtC.seq (sR (pu hT 3 Y (ng ?_)))))
 refine AtC.block ?_
 refine AtC.loopM (fun (s0 : Int) => [(45, Value.int .i64 s0)]) (fun (s0 : Int) => []) [1, 2, 3, 43, 44] [45, 1, 2, 3, 43, 44] [0] [0] H Y Y Y (by decide) Y (fun Kp2 s0 h0u6 H Q2 HK2 => ?_)
 refine sR (pu hT 1 Y (ng (AtC.seq ?_)))
 refine AtC.condB H Y (fun H => ?_) (fun H => ?_)
 refine AtC.skip (tg (AtC.seq (AtC.block (sR ?_))))
 obtain ⟨a_, hc2, hd2, H⟩ := H
 refine AtL.q Y (Quiet1.idxS hT Y Y Y Y Y hc2 hd2) ?_
 obtain ⟨v_4, hc3, H⟩ := H
 refine AtL.q Y (Quiet1.loadS hT Y Y Y Y hc3) (AtL.e Y (EffX.allocP (cs := [_, _, _]) hT Y Y H) ?_)
 rintro _ _ ⟨b_1, _, rfl, rfl, _, H⟩
 replace H := H.self
 refine AtL.e Y (EffX.storeSP (i := 0) (qv := [(_, [_, _, _]), (_, [_, _, _, _, _, _, _])]) hT Y Y Y Y Y Y Y Y Y Y) ?_
 rintro _ _ rfl
 refine ng ?_
 refine AtC.joinSeq (β := Unit) (fun (t0u1 : Bool) (bb_1 : Unit) => [(56, Value.bool t0u1)]) (fun (t0u1 : Bool) (bb_1 : Unit) => []) [1, 2, 3, 43, 44, 45] [1] H Y Y (fun t0u1 bb_1 h0u8 H => ?_) (fun J5 H HK5 => ?_)
 refine AtC.condB H Y (fun H => ?_) (fun H => ?_)
 refine sR (pu hT 1 Y (ng (AtC.ret (AtE.blk_r (AtE.then_r ?_)))))
 refine AtE.then_r (AtE.blk_r (AtE.then_r ?_))
 exact r1 6 Y Y Y H
 refine AtC.skip (AtE.blk_n (tg (AtC.region (pu hT 2 Y (AtL.nil ?_)))))
 exact AtE.then_n ((HK2 _ _ H).pickP (ts := [45, 1, 2, 3, 43, 44]) (is := [0]) Y Y (by decide) Y)
 refine AtC.region (AtL.q Y (lS hT 0 [_, _, _] Y Y Y Y Y Y Y Y) ?_)
 refine AtLX.bs (hT := hT) (cs := [_, _, _]) H Y Y Y Y Y Y Y Y Y (fun a_1 h0u9 H => ?_)
 refine AtL.e Y (cl (fun h => law02uGreat _ h _) H Y Tryz.call10 Y (fun w m hr hw => lift_law02uGreat _ w m hr _ hw)) ?_
 rintro _ _ ⟨v_6, h0u10, rfl, rfl, H⟩
 refine pu hT 1 Y ?_
 refine AtL.splitB (t := 52) H Y (fun H => ?_) (fun H => ?_)
 refine nf Y (nf Y (nf Y (pu hT 1 Y (AtL.nil ?_))))
 exact AtE.then_n ((HK5 _ () _ H).pickP (ts := [56, 1, 2, 3, 43, 44, 45]) (is := [1]) Y Y (by decide) Y)
 refine ys Y (AtL.q Y (lS hT 0 [_, _, _] Y Y Y Y Y Y Y Y) (ys Y (AtL.e Y (cl (fun h => ref02uRight _ h _) H Y Tryz.call11 Y (fun w m hr hw => lift_ref02uRight _ w m hr _ hw)) ?_)))
 rintro _ _ ⟨v_7, h0u11, rfl, rfl, H⟩
 refine ys Y (pu hT 1 Y (pu hT 1 Y (AtL.nil ?_)))
 exact AtE.then_n ((HK5 _ () _ H).pickP (ts := [56, 1, 2, 3, 43, 44, 45]) (is := [1]) Y Y (by decide) Y)
 refine AtC.exit (AtE.then_x (AtE.then_x (AtE.blk_hit (tg (AtC.seq ?_)))))
 refine sR (pu hT 3 Y (ng (AtC.block ?_)))
 refine AtC.loopM (fun (s0u1 : Int) => [(60, Value.int .i64 s0u1)]) (fun (s0u1 : Int) => []) [2, 3, 58, 59] [60, 2, 3, 58, 59] [0] [0] H Y Y Y (by decide) Y (fun Kp6 s0u1 h0u12 H Q6 HK6 => ?_)
 refine sR (pu hT 1 Y (ng (AtC.seq ?_)))
 refine AtC.condB H Y (fun H => ?_) (fun H => ?_)
 refine AtC.skip (tg (AtC.seq (AtC.block (sR ?_))))
 obtain ⟨a_2_, hc6, hd6, H⟩ := H
 refine AtL.q Y (Quiet1.idxS hT Y Y Y Y Y hc6 hd6) ?_
 obtain ⟨v_8, hc7, H⟩ := H
 refine AtL.q Y (Quiet1.loadS hT Y Y Y Y hc7) (AtL.e Y (EffX.allocP (cs := [_, _, _, _]) hT Y Y H) ?_)
 rintro _ _ ⟨b_2, _, rfl, rfl, _, H⟩
 replace H := H.self
 refine AtL.e Y (EffX.storeSP (i := 0) (qv := [(_, [_, _, _, _]), (_, [_, _, _, _, _, _, _])]) hT Y Y Y Y Y Y Y Y Y Y) ?_
 rintro _ _ rfl
 refine ng (sR (pu hT 1 Y (AtL.q Y (lP hT 1 Y) (pu hT 2 Y (ng ?_)))))
 refine AtC.block ?_
 refine AtC.loopM (fun (s0u2 : Int) => [(67, Value.int .i64 s0u2)]) (fun (s0u2 : Int) => []) [2, 3, 10, 58, 59, 60, 65, 66] [67, 2, 3, 10, 58, 59, 60, 65, 66] [0, 1] [0, 1] H Y Y Y (by decide) Y (fun Kp9 s0u2 h0u14 H Q9 HK9 => ?_)
 refine sR (pu hT 1 Y (ng (AtC.seq ?_)))
 refine AtC.condB H Y (fun H => ?_) (fun H => ?_)
 refine AtC.skip (tg ?_)
 refine AtC.joinSeq (β := Unit) (fun (t0u2 : Unit) (bb_2 : Unit) => []) (fun (t0u2 : Unit) (bb_2 : Unit) => []) [2, 3, 10, 58, 59, 60, 65, 66, 67] [0, 1] H Y Y (fun t0u2 bb_2 h0u15 H => ?_) (fun J10 H HK10 => ?_)
 refine AtC.region (pu hT 2 Y (AtL.nil ?_))
 exact AtE.then_n ((HK9 _ _ H).pickP (ts := [67, 2, 3, 10, 58, 59, 60, 65, 66]) (is := [0, 1]) Y Y (by decide) Y)
 refine AtC.block (sR ?_)
 obtain ⟨a_3_, hc10, hd10, H⟩ := H
 refine AtL.q Y (Quiet1.idxS hT Y Y Y Y Y hc10 hd10) ?_
 obtain ⟨v_9, hc11, H⟩ := H
 refine AtL.q Y (Quiet1.loadS hT Y Y Y Y hc11) (AtL.e Y (EffX.allocP (cs := [_, _, _, _, _, _, _, _, _]) hT Y Y H) ?_)
 rintro _ _ ⟨b_3, _, rfl, rfl, _, H⟩
 replace H := H.self
 refine AtL.e Y (EffX.storeSP (i := 0) (qv := [(_, [_, _, _, _, _, _, _, _, _]), (_, [_, _, _, _]), (_, [_, _, _, _, _, _, _])]) hT Y Y Y Y Y Y Y Y Y Y) ?_
 rintro _ _ rfl
 refine ng (AtC.seq (sR (pu hT 1 Y (AtL.q Y (lP hT 0 Y) (pu hT 1 Y ?_)))))
 refine AtL.q Y (lP hT 1 Y) (pu hT 1 Y (AtL.q Y (lP hT 1 Y) (pu hT 4 Y (ng ?_))))
 refine AtC.condB H Y (fun H => ?_) (fun H => ?_)
 refine AtC.exit (AtE.then_x (AtE.blk_hit ?_))
 exact AtE.then_n ((HK10 _ () _ H).pickP (ts := [2, 3, 10, 58, 59, 60, 65, 66, 67]) (is := [1, 2]) Y Y (by decide) Y)
 refine AtC.skip (tg ?_)
 refine AtC.joinSeq (β := Nat) (fun (t0u3 : Bool × Sl × Sl × Sl) (bb_3 : Nat) => [(13, Value.pointer (some ⟨bb_3, 0, none⟩))]) (fun (t0u3 : Bool × Sl × Sl × Sl) (bb_3 : Nat) => [(bb_3, [Value.bool t0u3.1, Sl.toV t0u3.2.1, Sl.toV t0u3.2.2.1, Sl.toV t0u3.2.2.2])]) [2, 3, 10, 12, 58, 59, 60, 65, 66, 67] [0, 1, 2] H Y Y (fun t0u3 bb_3 h0u17 H => ?_) (fun J13 H HK13 => ?_)
 refine AtC.joinSeq (β := Unit) (fun (t0u4 : Bool × Sl × Sl × Sl) (bb_4 : Unit) => []) (fun (t0u4 : Bool × Sl × Sl × Sl) (bb_4 : Unit) => [(bb_3, [Value.bool t0u4.1, Sl.toV t0u4.2.1, Sl.toV t0u4.2.2.1, Sl.toV t0u4.2.2.2])]) [2, 3, 10, 12, 13, 58, 59, 60, 65, 66, 67] [1, 2, 3] H Y Y (fun t0u4 bb_4 h0u29 H => ?_) (fun J17 H HK17 => ?_)
 refine sR (AtL.q Y (lS hT 0 [_, _, _, _] Y Y Y Y Y Y Y Y) (pu hT 1 Y (AtL.e Y (cl (fun h => ref12uValue _ _ h _) H Y Tryz.call13 Y (fun w m hr hw => lift_ref12uValue _ _ w m hr _ hw)) ?_)))
 rintro _ _ ⟨v_16, h0u30, rfl, rfl, H⟩
 refine AtL.e Y (cl (fun h => ref02uInt _ h _) H Y Tryz.call14 Y (fun w m hr hw => lift_ref02uInt _ w m hr _ hw)) ?_
 rintro _ _ ⟨v_17, h0u31, rfl, rfl, H⟩
 refine AtL.q Y (Quiet1.build (cs := [_, _, _, _, _, _]) hT Y Y Y Y Y Y) (AtL.e Y (EffX.allocP (cs := [_, _, _, _, _, _]) hT Y Y H) ?_)
 rintro _ _ ⟨b_7, _, rfl, rfl, _, H⟩
 replace H := H.self
 refine AtL.e Y (EffX.storeSP (i := 0) (qv := [(_, [_, _, _, _, _, _]), (_, [_, _, _, _]), (_, [_, _, _, _, _, _, _, _, _]), (_, [_, _, _, _]), (_, [_, _, _, _, _, _, _])]) hT Y Y Y Y Y Y Y Y Y Y) ?_
 rintro _ _ rfl
 refine ng ?_
 apply AtC.seqS [3, 4] [[], [], [], [], [3], [3, 4], [], [], [], [3, 4]] [[], [], [1], [1, 2], [0, 1, 2, 3], [0, 1, 2, 3, 4], [], [6], [6, 7], [0, 1, 2, 3, 4, 5, 6, 7, 8]] hmix (by kernel_rfl) [(101, _), (102, _), (103, _), (107, _), (108, _), (109, _)] Y 2 Y
 refine Stg.go [0, 1, 2, 6, 7, 8] [3] Y Y (qq Y (lS hT 0 [_, _, _, _, _, _] Y Y Y Y Y Y Y Y) Y (qp hT Y (qq Y (lS hT 2 [_, _, _, _, _, _] Y Y Y Y Y Y Y Y) Y (qp hT Y (qq Y (lP hT 3 Y) Y (qp hT Y QAll.nil)))))) ?_
 refine EAll.cons ?_ EAll.nil
 refine EOp.e Y Y Y (cl (fun h => ref03uOf _ h _) H Y Tryz.call16 Y (fun w m hr hw => lift_ref03uOf _ w m hr _ hw)) ?_
 rintro _ _ ⟨v_18, h0u33, rfl, rfl, H⟩
 apply Stg.next [(104, _)] Y Y
 refine Stg.go [0, 6, 7, 8] [4] Y Y (qq Y (lS hT 0 [_, _, _, _, _, _] Y Y Y Y Y Y Y Y) Y (qp hT Y (qq Y (lP hT 3 Y) Y (qp hT Y QAll.nil)))) ?_
 refine EAll.cons ?_ EAll.nil
 refine EOp.e Y Y Y (cl (fun h => ref03uCmp _ _ h _) H Y Tryz.call15 Y (fun w m hr hw => lift_ref03uCmp _ _ w m hr _ hw)) ?_
 rintro _ _ ⟨v_19, h0u34, rfl, rfl, H⟩
 apply Stg.next [(105, _), (106, _), (110, _)] Y Y
 refine Stg.fin [5, 6, 7, 8, 9] Y Y (qp hT Y (qp hT Y (qq Y (lP hT 3 Y) Y (qp hT Y (qp hT Y QAll.nil))))) (tg ?_)
 refine AtC.condB H Y (fun H => ?_) (fun H => ?_)
 refine sR (pu hT 1 Y (ng (AtC.ret (AtE.blk_r (AtE.then_r ?_)))))
 refine AtE.then_r (AtE.blk_r (AtE.blk_r (AtE.then_r (AtE.then_r (AtE.blk_r ?_)))))
 refine AtE.then_r ?_
 exact r1 6 Y Y Y H
 refine AtC.skip (AtE.blk_n ?_)
 exact AtE.then_n ((HK10 _ () _ H).pickP (ts := [2, 3, 10, 58, 59, 60, 65, 66, 67]) (is := [3, 4]) Y Y (by decide) Y)
 refine sR (pu hT 1 Y (AtL.q Y (lP hT 1 Y) (pu hT 1 Y (ng ?_))))
 refine AtC.condB H Y (fun H => ?_) (fun H => ?_)
 refine AtC.region (pu hT 1 Y (AtL.q Y (lP hT 3 Y) (pu hT 1 Y (AtL.q Y (lP hT 1 Y) ?_))))
 obtain ⟨a_7_, hc17, hd17, H⟩ := H
 refine AtL.q Y (Quiet1.idxS hT Y Y Y Y Y hc17 hd17) ?_
 obtain ⟨v_15, hc18, H⟩ := H
 refine AtL.q Y (Quiet1.loadS hT Y Y Y Y hc18) (AtL.e Y (EffX.storeSP (i := 0) (qv := [(_, [_, _, _, _]), (_, [_, _, _, _, _, _, _, _, _]), (_, [_, _, _, _]), (_, [_, _, _, _, _, _, _])]) hT Y Y Y Y Y Y Y Y Y Y) ?_)
 rintro _ _ rfl
 refine AtL.nil ?_
 exact AtE.then_n ((HK17 _ () _ H).pickP (ts := [2, 3, 10, 12, 13, 58, 59, 60, 65, 66, 67]) (is := [0, 1, 2, 3]) Y Y (by decide) Y)
 refine AtC.skip ?_
 exact AtE.then_n ((HK17 _ () _ H).pickP (ts := [2, 3, 10, 12, 13, 58, 59, 60, 65, 66, 67]) (is := [0, 1, 2, 3]) Y Y (by decide) Y)
 apply AtC.stages [2, 4, 6, 7] [[], [], [], [2], [2], [2, 4], [], [2, 4, 6]] [[], [0], [], [0, 1, 2], [0, 1, 2, 3], [0, 1, 2, 3, 4], [], [0, 1, 2, 3, 4, 5, 6]] hmix (by kernel_rfl) [(81, _), (82, _)] Y 4 Y
 refine Stg.go [0, 1] [2, 6] Y Y (qp hT Y (qq Y (lP hT 0 Y) Y QAll.nil)) ?_
 refine EAll.cons ?_ ?_
 replace H := H.self
 refine EOp.e Y Y Y (cl (fun h => ratio_Of _ h _) H Y Tryz.call12 Y (fun w m hr hw => lift_ratio_Of _ w m hr _ hw)) ?_
 rintro _ _ ⟨v_10, h0u19, rfl, rfl, H⟩
 apply Stg.next [(83, _), (84, _)] Y Y
 refine Stg.go [0, 1, 3] [4, 6] Y Y (qp hT Y (qq Y (lP hT 0 Y) Y (qq Y (Quiet1.build (cs := [_, _, _, _]) hT Y Y Y Y Y Y) Y QAll.nil))) ?_
 refine EAll.cons ?_ ?_
 replace H := H.self
 refine EOp.e Y Y Y (EffX.buildS2 (cs := [_, _, _, _]) hT Y Y Y Y Y Y Y Y H) ?_
 rintro _ _ ⟨a_4, h0u21, rfl, rfl, H⟩
 apply Stg.next [(85, _), (86, _)] Y Y
 refine Stg.go [5] [6] Y Y (qq Y (Quiet1.build (cs := [_, _, _, _]) hT Y Y Y Y Y Y) Y QAll.nil) ?_
 refine EAll.cons ?_ EAll.nil
 refine EOp.e Y Y Y (EffX.allocP (cs := [_, _, _, _]) hT Y Y H) ?_
 rintro _ _ ⟨b_4, _, rfl, rfl, he13, H⟩
 apply Stg.next [(13, _)] Y Y
 refine Stg.go [5] [7] Y Y (qq Y (Quiet1.build (cs := [_, _, _, _]) hT Y Y Y Y Y Y) Y QAll.nil) ?_
 refine EAll.cons ?_ EAll.nil
 refine EOp.e Y Y Y (EffX.storeSP (i := 0) (qv := [(_, [_, _, _, _]), (_, [_, _, _, _, _, _, _, _, _]), (_, [_, _, _, _]), (_, [_, _, _, _, _, _, _])]) hT Y Y Y Y Y Y Y Y Y Y) ?_
 rintro _ _ rfl
 apply Stg.next [] Y Y
 refine Stg.fin [] Y Y QAll.nil ?_
 replace H := H.self
 exact AtE.then_n ((HK13 _ b_4 _ H).pickP (ts := [13, 2, 3, 10, 12, 58, 59, 60, 65, 66, 67]) (is := [0, 1, 2, 3]) Y Y (by decide) Y)
 refine EAll.cons ?_ EAll.nil
 refine EOp.e Y Y Y (EffX.allocP (cs := [_, _, _, _]) hT Y Y H) ?_
 rintro _ _ ⟨b_5, _, rfl, rfl, he14, H⟩
 apply Stg.next [(13, _)] Y Y
 refine Stg.go [0, 1, 3] [4] Y Y (qp hT Y (qq Y (lP hT 1 Y) Y (qq Y (Quiet1.build (cs := [_, _, _, _]) hT Y Y Y Y Y Y) Y QAll.nil))) ?_
 refine EAll.cons ?_ EAll.nil
 replace H := H.self
 refine EOp.e Y Y Y (EffX.buildS2 (cs := [_, _, _, _]) hT Y Y Y Y Y Y Y Y H) ?_
 rintro _ _ ⟨a_5, h0u23, rfl, rfl, H⟩
 apply Stg.next [(85, _), (86, _)] Y Y
 refine Stg.go [5] [7] Y Y (qq Y (Quiet1.build (cs := [_, _, _, _]) hT Y Y Y Y Y Y) Y QAll.nil) ?_
 refine EAll.cons ?_ EAll.nil
 refine EOp.e Y Y Y (EffX.storeSP (i := 0) (qv := [(_, [_, _, _, _]), (_, [_, _, _, _, _, _, _, _, _]), (_, [_, _, _, _]), (_, [_, _, _, _, _, _, _])]) hT Y Y Y Y Y Y Y Y Y Y) ?_
 rintro _ _ rfl
 apply Stg.next [] Y Y
 refine Stg.fin [] Y Y QAll.nil ?_
 replace H := H.self
 exact AtE.then_n ((HK13 _ b_5 _ H).pickP (ts := [13, 2, 3, 10, 12, 58, 59, 60, 65, 66, 67]) (is := [0, 1, 2, 3]) Y Y (by decide) Y)
 refine EAll.cons ?_ EAll.nil
 refine EOp.e Y Y Y (EffX.allocP (cs := [_, _, _, _]) hT Y Y H) ?_
 rintro _ _ ⟨b_6, _, rfl, rfl, he15, H⟩
 apply Stg.next [(13, _)] Y Y
 refine Stg.go [0, 1] [2] Y Y (qp hT Y (qq Y (lP hT 1 Y) Y QAll.nil)) ?_
 refine EAll.cons ?_ EAll.nil
 replace H := H.self
 refine EOp.e Y Y Y (cl (fun h => ratio_Of _ h _) H Y Tryz.call12 Y (fun w m hr hw => lift_ratio_Of _ w m hr _ hw)) ?_
 rintro _ _ ⟨v_13, h0u25, rfl, rfl, H⟩
 apply Stg.next [(83, _), (84, _)] Y Y
 refine Stg.go [0, 1, 3] [4] Y Y (qp hT Y (qq Y (lP hT 1 Y) Y (qq Y (Quiet1.build (cs := [_, _, _, _]) hT Y Y Y Y Y Y) Y QAll.nil))) ?_
 refine EAll.cons ?_ EAll.nil
 replace H := H.self
 refine EOp.e Y Y Y (EffX.buildS2 (cs := [_, _, _, _]) hT Y Y Y Y Y Y Y Y H) ?_
 rintro _ _ ⟨a_6, h0u27, rfl, rfl, H⟩
 apply Stg.next [(85, _), (86, _)] Y Y
 refine Stg.go [5] [7] Y Y (qq Y (Quiet1.build (cs := [_, _, _, _]) hT Y Y Y Y Y Y) Y QAll.nil) ?_
 refine EAll.cons ?_ EAll.nil
 refine EOp.e Y Y Y (EffX.storeSP (i := 0) (qv := [(_, [_, _, _, _]), (_, [_, _, _, _, _, _, _, _, _]), (_, [_, _, _, _]), (_, [_, _, _, _, _, _, _])]) hT Y Y Y Y Y Y Y Y Y Y) ?_
 rintro _ _ rfl
 apply Stg.next [] Y Y
 refine Stg.fin [] Y Y QAll.nil ?_
 replace H := H.self
 exact AtE.then_n ((HK13 _ b_6 _ H).pickP (ts := [13, 2, 3, 10, 12, 58, 59, 60, 65, 66, 67]) (is := [0, 1, 2, 3]) Y Y (by decide) Y)
 refine AtC.exit (AtE.then_x (AtE.then_x (AtE.blk_hit (AtE.blk_n (tg ?_)))))
 refine AtC.region (pu hT 2 Y (AtL.nil ?_))
 exact AtE.then_n ((HK6 _ _ H).pickP (ts := [60, 2, 3, 58, 59]) (is := [1]) Y Y (by decide) Y)
 refine AtC.exit (AtE.then_x (AtE.then_x (AtE.blk_hit (tg (sR ?_)))))
 refine pu hT 1 Y (ng (AtC.ret ?_))
 exact r1 6 Y Y Y H
 refine AtC.region (AtL.q Y (lS hT 0 [_, _, _, _, _, _, _] Y Y Y Y Y Y Y Y) (pu hT 1 Y (AtL.e Y (cl (fun h => law16uGreat _ _ h _) H Y Tryz.call7 Y (fun w m hr hw => lift_law16uGreat _ _ w m hr _ hw)) ?_)))
 rintro _ _ ⟨v_1, h0u3, rfl, rfl, H⟩
 refine pu hT 1 Y ?_
 refine AtL.splitB (t := 20) H Y (fun H => ?_) (fun H => ?_)
 refine nf Y (nf Y (nf Y (nf Y (nf Y (pu hT 2 Y ?_)))))
 refine nf Y (nf Y (nf Y (pu hT 2 Y (nf Y (nf Y ?_)))))
 refine nf Y (pu hT 2 Y (nf Y (nf Y (nf Y (nf Y ?_)))))
 refine pu hT 1 Y (AtL.nil ?_)
 exact AtE.then_n ((HK1 _ () _ H).pickP (ts := [42, 1, 2, 3]) (is := [0]) Y Y (by decide) Y)
 refine ys Y (pu hT 1 Y (ys Y (pu hT 1 Y (ys Y (pu hT 1 Y ?_)))))
 refine ys Y (AtL.q Y (lP hT 0 Y) (ys Y (pu hT 1 Y (pu hT 2 Y ?_))))
 refine AtL.splitB (t := 27) H Y (fun H => ?_) (fun H => ?_)
 refine nf Y (nf Y (nf Y (pu hT 2 Y (nf Y (nf Y ?_)))))
 refine nf Y (pu hT 2 Y (nf Y (nf Y (nf Y (nf Y ?_)))))
 refine pu hT 1 Y (AtL.nil ?_)
 exact AtE.then_n ((HK1 _ () _ H).pickP (ts := [42, 1, 2, 3]) (is := [0]) Y Y (by decide) Y)
 refine ys Y (pu hT 1 Y (ys Y (pu hT 1 Y (ys Y (pu hT 1 Y ?_)))))
 refine pu hT 2 Y ?_
 refine AtL.splitB (t := 32) H Y (fun H => ?_) (fun H => ?_)
 refine nf Y (nf Y (nf Y (pu hT 2 Y (nf Y (nf Y ?_)))))
 refine nf Y (nf Y (pu hT 1 Y (AtL.nil ?_)))
 exact AtE.then_n ((HK1 _ () _ H).pickP (ts := [42, 1, 2, 3]) (is := [0]) Y Y (by decide) Y)
 refine ys Y (AtL.q Y (lS hT 0 [_, _, _, _, _, _, _] Y Y Y Y Y Y Y Y) (ys Y (AtL.e Y (cl (fun h => ref13uRight _ h _) H Y Tryz.call8 Y (fun w m hr hw => lift_ref13uRight _ w m hr _ hw)) ?_)))
 rintro _ _ ⟨v_2, h0u4, rfl, rfl, H⟩
 refine ys Y (pu hT 1 Y (pu hT 2 Y ?_))
 refine AtL.splitB (t := 37) H Y (fun H => ?_) (fun H => ?_)
 refine nf Y (nf Y (nf Y (nf Y (pu hT 1 Y (AtL.nil ?_)))))
 exact AtE.then_n ((HK1 _ () _ H).pickP (ts := [42, 1, 2, 3]) (is := [0]) Y Y (by decide) Y)
 refine ys Y (AtL.q Y (lS hT 0 [_, _, _, _, _, _, _] Y Y Y Y Y Y Y Y) (ys Y (pu hT 1 Y (ys Y (AtL.e Y (cl (fun h => farkas_Holds _ _ h _) H Y Tryz.call9 Y (fun w m hr hw => lift_farkas_Holds _ _ w m hr _ hw)) ?_)))))
 rintro _ _ ⟨v_3, h0u5, rfl, rfl, H⟩
 refine ys Y (pu hT 1 Y (pu hT 1 Y (AtL.nil ?_)))
 exact AtE.then_n ((HK1 _ () _ H).pickP (ts := [42, 1, 2, 3]) (is := [0]) Y Y (by decide) Y)
end Go.Proofs.YtjppcjbmepcneaaGreatDoor

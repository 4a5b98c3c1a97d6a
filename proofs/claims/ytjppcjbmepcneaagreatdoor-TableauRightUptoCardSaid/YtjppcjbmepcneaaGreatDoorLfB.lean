/-
  Laws that the proof of this claim's statement leans on, each proved under the conditions that it states.
-/
import Derived.Test.YtjppcjbmepcneaaGreatDoorLfA
set_option linter.unusedVariables false
set_option linter.unusedSimpArgs false
namespace Go.Proofs.YtjppcjbmepcneaaGreatDoor
open Go Go.Lift Go.Sh
set_option maxRecDepth 100000
set_option maxHeartbeats 40000000
attribute [local irreducible] Calls AtL AtC AtE AtD Eff Quiet1 Stg qAt QAll eAt EAll nextK Code.wp
theorem lift_linear_Add (b : (Option Addr)) (p : Bool × Sl × Sl × Sl) (k : Bool × Sl × Sl) (q : Bool × Sl × Sl × Sl) (w : World) (m : Heap) (hr : Rel ⟨m, []⟩ w.heap) (S : (Bool × Sl × Sl × Sl) → Heap → Prop) (H : linear_Add b p k q m S) :
 Calls Tryz.prog 84 #[Value.pointer b, Value.agg (C_bool_sl_sl_sl p).toArray, Value.agg (C_bool_sl_sl k).toArray, Value.agg (C_bool_sl_sl_sl q).toArray] w (Post ⟨w, m⟩ (fun r => Value.agg (C_bool_sl_sl_sl r).toArray) S) := by
 refine Calls.lift (args := [Value.pointer b, Value.agg (C_bool_sl_sl_sl p).toArray, Value.agg (C_bool_sl_sl k).toArray, Value.agg (C_bool_sl_sl_sl q).toArray]) Tryz.func84 Y Tryz.ntmps84 (Nat.le_of_ble_eq_true Y) hr (linear_Add b p k q m S) H (fun H => ?_)
 refine AtC.pick (ts := [0, 1, 2, 3]) Y ?_
 unfold linear_Add at H
 refine sR (AtL.e Y (EffX.boxP (cs := [_, _, _, _]) Y Y Y H) ?_)
 rintro _ _ ⟨b_1, _, rfl, rfl, _, H⟩
 refine AtL.e Y (EffX.boxP (cs := [_, _, _]) Y Y Y H) ?_
 rintro _ _ ⟨b_2, _, rfl, rfl, _, H⟩
 refine AtL.e Y (EffX.boxP (cs := [_, _, _, _]) Y Y Y H) ?_
 rintro _ _ ⟨b_3, _, rfl, rfl, _, H⟩
 refine AtL.e Y (EffX.allocP (cs := [_, _, _, _]) hT Y Y H) ?_
 rintro _ _ ⟨b_4, _, rfl, rfl, _, H⟩
 refine AtL.nil ?_
 replace H := H.self
 refine tg (sR (pu hT 1 Y (AtL.q Y (lS hT 2 [_, _, _] Y Y Y Y Y Y Y Y) (AtL.q Y (lS hT 1 [_, _, _, _] Y Y Y Y Y Y Y Y) (AtL.e Y (cl (fun h => linear_Scale _ _ _ h _) H Y Tryz.call85 Y (fun w m hr hw => lift_linear_Scale _ _ _ w m hr _ hw)) ?_)))))
 rintro _ _ ⟨v, h0u1, rfl, rfl, H⟩
 refine AtL.e Y (EffX.storeSP (i := 1) (qv := [(_, [_, _, _, _]), (_, [_, _, _, _]), (_, [_, _, _]), (_, [_, _, _, _])]) hT Y Y Y Y Y Y Y Y Y Y) ?_
 rintro _ _ rfl
 refine ng (sR (pu hT 2 Y (AtL.q Y (lS hT 3 [_, _, _] Y Y Y Y Y Y Y Y) (pu hT 1 Y (AtL.q Y (lS hT 1 [_, _, _] Y Y Y Y Y Y Y Y) ?_)))))
 refine AtL.e Y (cl (fun h => ratio_Add _ _ _ h _) H Y Tryz.call134 Y (fun w m hr hw => lift_ratio_Add _ _ _ w m hr _ hw)) ?_
 rintro _ _ ⟨v_1, h0u2, rfl, rfl, H⟩
 refine AtL.q Y (Quiet1.build (cs := [_, _, _, _]) hT Y Y Y Y Y Y) (AtL.e Y (EffX.allocP (cs := [_, _, _, _]) hT Y Y H) ?_)
 rintro _ _ ⟨b_5, _, rfl, rfl, _, H⟩
 replace H := H.self
 refine AtL.e Y (EffX.storeSP (i := 0) (qv := [(_, [_, _, _, _]), (_, [_, _, _, _]), (_, [_, _, _, _]), (_, [_, _, _]), (_, [_, _, _, _])]) hT Y Y Y Y Y Y Y Y Y Y) ?_
 rintro _ _ rfl
 refine ng (AtC.seqD hmix (by kernel_rfl) (AtD.pures hT 1 _ _ _ _ Y (AtD.q Y (lP hT 4 Y) (AtD.pures hT 1 _ _ _ _ Y (AtD.q Y (lP hT 2 Y) ?_)))))
 refine AtD.pures hT 2 _ _ _ _ Y (AtD.nil (tg (AtC.seq (AtC.block ?_))))
 refine AtC.loopM (fun (s0 : Sl × Sl × Bool × Sl × Sl × Sl) => [(10, Sl.toV s0.1), (11, Sl.toV s0.2.1)]) (fun (s0 : Sl × Sl × Bool × Sl × Sl × Sl) => [(b_5, [Value.bool s0.2.2.1, Sl.toV s0.2.2.2.1, Sl.toV s0.2.2.2.2.1, Sl.toV s0.2.2.2.2.2])]) [0, 8, 9] [10, 11, 0, 8, 9] [1] [0, 1] H Y Y Y (by decide) Y (fun Kp1 s0 h0u4 H Q1 HK1 => ?_)
 refine AtC.seq ?_
 refine AtC.joinSeq (β := Unit) (fun (t0 : Bool) (bb : Unit) => [(35, Value.bool t0)]) (fun (t0 : Bool) (bb : Unit) => []) [0, 8, 9, 10, 11] [0, 1] H Y Y (fun t0 bb h0u5 H => ?_) (fun J2 H HK2 => ?_)
 refine AtC.condB H Y (fun H => ?_) (fun H => ?_)
 refine AtC.skip (tg (AtC.block (sR (AtL.e Y (EffX.allocP (cs := [_, _, _, _]) hT Y Y H) ?_))))
 rintro _ _ ⟨b_6, _, rfl, rfl, _, H⟩
 refine AtL.nil ?_
 replace H := H.self
 refine tg ?_
 refine AtC.joinSeq (β := Unit) (fun (t0u1 : Sl × Sl × Int × Bool × Sl × Sl) (bb_1 : Unit) => [(10, Sl.toV t0u1.1), (11, Sl.toV t0u1.2.1)]) (fun (t0u1 : Sl × Sl × Int × Bool × Sl × Sl) (bb_1 : Unit) => [(b_6, [Value.int .i64 t0u1.2.2.1, Value.bool t0u1.2.2.2.1, Sl.toV t0u1.2.2.2.2.1, Sl.toV t0u1.2.2.2.2.2])]) [0, 8, 9, 12] [1, 2] H Y Y (fun t0u1 bb_1 h0u7 H => ?_) (fun J3 H HK3 => ?_)
 refine sR (pu hT 1 Y (AtL.q Y (lS hT 0 [_, _, _] Y Y Y Y Y Y Y Y) (AtL.e Y (cl (fun h => ratio_Sign _ h _) H Y Tryz.call43 Y (fun w m hr hw => lift_ratio_Sign _ w m hr _ hw)) ?_)))
 rintro _ _ ⟨v_16, h0u11, rfl, rfl, H⟩
 refine pu hT 1 Y (ng ?_)
 refine AtC.condB H Y (fun H => ?_) (fun H => ?_)
 refine AtC.region (pu hT 1 Y (AtL.q Y (lP hT 1 Y) (AtL.q Y (lS hT 0 [_, _, _, _] Y Y Y Y Y Y Y Y) ?_)))
 refine AtLX.bs (hT := hT) (cs := [_, _, _, _]) H Y Y Y Y Y Y Y Y Y (fun a_9 h0u12 H => ?_)
 refine AtL.e Y (EffX.appendS (s := _) (u := _) hT Y Y Y Y Y Y Y Y Y Y (by decide) H) ?_
 rintro _ _ ⟨v_18, h0u13, rfl, rfl, H⟩
 refine pu hT 1 Y (AtL.e Y (EffX.storeP (i := 1) (qv := [(_, [_, _, _, _]), (_, [_, _, _, _]), (_, [_, _, _, _])]) hT Y Y Y Y Y Y Y Y Y) ?_)
 rintro _ _ rfl
 refine AtL.nil (AtE.blk_n ?_)
 exact AtE.then_n ((HK1 _ _ H).pickP (ts := [10, 11, 0, 8, 9]) (is := [1, 2]) Y Y (by decide) Y)
 refine AtC.skip (AtE.blk_n ?_)
 exact AtE.then_n ((HK1 _ _ H).pickP (ts := [10, 11, 0, 8, 9]) (is := [1, 2]) Y Y (by decide) Y)
 refine AtC.block ?_
 refine AtC.joinSeq (β := Unit) (fun (t0u2 : Bool) (bb_2 : Unit) => [(55, Value.bool t0u2)]) (fun (t0u2 : Bool) (bb_2 : Unit) => []) [0, 8, 9, 10, 11, 12] [0, 1, 2] H Y Y (fun t0u2 bb_2 h0u8 H => ?_) (fun J4 H HK4 => ?_)
 refine AtC.condB H Y (fun H => ?_) (fun H => ?_)
 obtain ⟨a_2_, hc8, hd8, H⟩ := H
 obtain ⟨v_4, hc9, H⟩ := H
 obtain ⟨v_5, hs10, H⟩ := sliceOf.out H
 apply AtC.stages [5, 6] [[], [], [], [], [], [], [5]] [[], [0], [0, 1], [], [3], [0, 1, 2], [0, 1, 2, 3, 4, 5]] hmix (by kernel_rfl) [(75, _), (76, _), (77, _), (78, _), (79, _)] Y 2 Y
 refine Stg.go [0, 1, 2, 3, 4] [5] Y Y (qp hT Y (qq Y (Quiet1.idxS hT Y Y Y Y Y hc8 hd8) Y (qq Y (Quiet1.loadS hT Y Y Y Y hc9) Y (qp hT Y (qq Y (Quiet1.sliceIs hT Y Y Y Y Y Y Y (fun h => by cases h <;> rfl) hs10) Y QAll.nil))))) ?_
 refine EAll.cons ?_ EAll.nil
 refine EOp.e Y Y Y (EffX.storeSP (i := 0) (qv := [(_, [_, _, _, _]), (_, [_, _, _, _]), (_, [_, _, _, _])]) hT Y Y Y Y Y Y Y Y Y Y) ?_
 rintro _ _ rfl
 apply Stg.next [] Y Y
 refine Stg.go [3, 4] [6] Y Y (qp hT Y (qq Y (Quiet1.sliceIs hT Y Y Y Y Y Y Y (fun h => by cases h <;> rfl) hs10) Y QAll.nil)) ?_
 refine EAll.cons ?_ EAll.nil
 refine EOp.e Y Y Y (Eff.ofPure hT Y) ?_
 rintro _ _ ⟨rfl, rfl⟩
 apply Stg.next [(10, _)] Y Y
 refine Stg.fin [] Y Y QAll.nil (AtE.blk_n ?_)
 exact AtE.then_n ((HK3 _ () _ H).pickP (ts := [10, 11, 0, 8, 9, 12]) (is := [0, 1, 2]) Y Y (by decide) Y)
 refine AtC.joinSeq (β := Unit) (fun (t0u3 : Bool) (bb_3 : Unit) => [(80, Value.bool t0u3)]) (fun (t0u3 : Bool) (bb_3 : Unit) => []) [0, 8, 9, 10, 11, 12] [0, 1, 2] H Y Y (fun t0u3 bb_3 h0u9 H => ?_) (fun J12 H HK12 => ?_)
 refine AtC.condB H Y (fun H => ?_) (fun H => ?_)
 obtain ⟨a_5_, hc16, hd16, H⟩ := H
 obtain ⟨v_8, hc17, H⟩ := H
 obtain ⟨v_9, hs18, H⟩ := sliceOf.out H
 apply AtC.stages [5, 6] [[], [], [], [], [], [], [5]] [[], [0], [0, 1], [], [3], [0, 1, 2], [0, 1, 2, 3, 4, 5]] hmix (by kernel_rfl) [(95, _), (96, _), (97, _), (98, _), (99, _)] Y 2 Y
 refine Stg.go [0, 1, 2, 3, 4] [5] Y Y (qp hT Y (qq Y (Quiet1.idxS hT Y Y Y Y Y hc16 hd16) Y (qq Y (Quiet1.loadS hT Y Y Y Y hc17) Y (qp hT Y (qq Y (Quiet1.sliceIs hT Y Y Y Y Y Y Y (fun h => by cases h <;> rfl) hs18) Y QAll.nil))))) ?_
 refine EAll.cons ?_ EAll.nil
 refine EOp.e Y Y Y (EffX.storeSP (i := 0) (qv := [(_, [_, _, _, _]), (_, [_, _, _, _]), (_, [_, _, _, _])]) hT Y Y Y Y Y Y Y Y Y Y) ?_
 rintro _ _ rfl
 apply Stg.next [] Y Y
 refine Stg.go [3, 4] [6] Y Y (qp hT Y (qq Y (Quiet1.sliceIs hT Y Y Y Y Y Y Y (fun h => by cases h <;> rfl) hs18) Y QAll.nil)) ?_
 refine EAll.cons ?_ EAll.nil
 refine EOp.e Y Y Y (Eff.ofPure hT Y) ?_
 rintro _ _ ⟨rfl, rfl⟩
 apply Stg.next [(11, _)] Y Y
 refine Stg.fin [] Y Y QAll.nil (AtE.blk_n ?_)
 exact AtE.then_n ((HK3 _ () _ H).pickP (ts := [10, 11, 0, 8, 9, 12]) (is := [0, 1, 2]) Y Y (by decide) Y)
 obtain ⟨a_6_, hc19, hd19, H⟩ := H
 obtain ⟨v_10, hc20, H⟩ := H
 obtain ⟨a_7_, hc21, hd21, H⟩ := H
 obtain ⟨v_11, hc22, H⟩ := H
 obtain ⟨a_8_, hc23, hd23, H⟩ := H
 obtain ⟨v_12, hc24, H⟩ := H
 apply AtC.seqS [13, 15] [[], [], [], [], [], [], [], [], [], [], [], [], [], [], [13], [13]] [[], [0], [0, 1], [0, 1, 2], [], [], [5], [5, 6], [5, 6, 7], [], [9], [9, 10], [9, 10, 11], [4, 5, 6, 7, 8, 9, 10, 11, 12], [0, 1, 2, 3, 4, 5, 6, 7, 8, 9, 10, 11, 12, 13], [0, 1, 2, 3, 4, 5, 6, 7, 8, 9, 10, 11, 12, 13, 14]] hmix (by kernel_rfl) [(36, _), (37, _), (38, _), (39, _), (40, _), (41, _), (42, _), (43, _), (44, _), (45, _), (46, _), (47, _), (48, _)] Y 2 Y
 refine Stg.go [0, 1, 2, 3, 4, 5, 6, 7, 8, 9, 10, 11, 12] [13] Y Y (qp hT Y (qq Y (Quiet1.idxS hT Y Y Y Y Y hc19 hd19) Y (qp hT Y (qq Y (Quiet1.load hT Y Y Y hc20) Y (qp hT Y (qp hT Y (qq Y (Quiet1.idxS hT Y Y Y Y Y hc21 hd21) Y (qp hT Y (qq Y (Quiet1.loadS hT Y Y Y Y hc22) Y (qp hT Y (qq Y (Quiet1.idxS hT Y Y Y Y Y hc23 hd23) Y (qp hT Y (qq Y (Quiet1.loadS hT Y Y Y Y hc24) Y QAll.nil))))))))))))) ?_
 refine EAll.cons ?_ EAll.nil
 refine EOp.e Y Y Y (cl (fun h => ratio_Add _ _ _ h _) H Y Tryz.call134 Y (fun w m hr hw => lift_ratio_Add _ _ _ w m hr _ hw)) ?_
 rintro _ _ ⟨v_13, h0u10, rfl, rfl, H⟩
 obtain ⟨hc25, H⟩ := H
 apply Stg.next [(49, _), (50, _)] Y Y
 refine Stg.go [0, 1, 2, 3, 14] [15] Y Y (qp hT Y (qq Y (Quiet1.idxS hT Y Y Y Y Y hc19 hd19) Y (qp hT Y (qq Y (Quiet1.load hT Y Y Y hc25) Y (qq Y (Quiet1.build (cs := [_, _, _, _]) hT Y Y Y Y Y Y) Y QAll.nil))))) ?_
 refine EAll.cons ?_ EAll.nil
 refine EOp.e Y Y Y (EffX.storeSP (i := 0) (qv := [(_, [_, _, _, _]), (_, [_, _, _, _]), (_, [_, _, _, _])]) hT Y Y Y Y Y Y Y Y Y Y) ?_
 rintro _ _ rfl
 apply Stg.next [] Y Y
 refine Stg.fin [] Y Y QAll.nil (tg (AtC.draw hmix (by kernel_rfl) (AtD.pures hT 1 _ _ _ _ Y ?_)))
 refine AtD.sl (hT := hT) H Y Y Y Y Y Y Y (fun h => by cases h <;> rfl) Y (fun v_14 H => ?_)
 refine AtD.pures hT 1 _ _ _ _ Y ?_
 refine AtD.sl (hT := hT) H Y Y Y Y Y Y Y (fun h => by cases h <;> rfl) Y (fun v_15 H => ?_)
 refine AtD.pures hT 2 _ _ _ _ Y (AtD.nil (AtE.blk_n ?_))
 exact AtE.then_n ((HK3 _ () _ H).pickP (ts := [10, 11, 0, 8, 9, 12]) (is := [0, 1, 2]) Y Y (by decide) Y)
 refine AtC.draw hmix (by kernel_rfl) (AtD.pures hT 4 _ _ _ _ Y ?_)
 refine AtD.splitB (t := 84) H Y (fun H => ?_) (fun H => ?_)
 refine AtD.noF Y Y Y (by decide) Y (AtD.noF Y Y Y (by decide) Y (AtD.noF Y Y Y (by decide) Y (AtD.noF Y Y Y (by decide) Y (AtD.noF Y Y Y (by decide) Y (AtD.noF Y Y Y (by decide) Y ?_)))))
 refine AtD.noF Y Y Y (by decide) Y (AtD.noF Y Y Y (by decide) Y (AtD.noF Y Y Y (by decide) Y (AtD.pures hT 2 _ _ _ _ Y (AtD.nil ?_))))
 exact AtE.then_n ((HK12 _ () _ H).pickP (ts := [80, 0, 8, 9, 10, 11, 12]) (is := [0, 1, 2]) Y Y (by decide) Y)
 refine AtD.yes Y Y Y (AtD.pures hT 1 _ _ _ _ Y (AtD.yes Y Y Y ?_))
 obtain ⟨a_3_, hc12, hd12, H⟩ := H
 refine AtD.q Y (Quiet1.idxS hT Y Y Y Y Y hc12 hd12) (AtD.yes Y Y Y (AtD.pures hT 1 _ _ _ _ Y (AtD.yes Y Y Y ?_)))
 obtain ⟨v_6, hc13, H⟩ := H
 refine AtD.q Y (Quiet1.load hT Y Y Y hc13) (AtD.yes Y Y Y (AtD.pures hT 1 _ _ _ _ Y (AtD.yes Y Y Y ?_)))
 obtain ⟨a_4_, hc14, hd14, H⟩ := H
 refine AtD.q Y (Quiet1.idxS hT Y Y Y Y Y hc14 hd14) (AtD.yes Y Y Y (AtD.pures hT 1 _ _ _ _ Y (AtD.yes Y Y Y ?_)))
 obtain ⟨v_7, hc15, H⟩ := H
 refine AtD.q Y (Quiet1.load hT Y Y Y hc15) (AtD.yes Y Y Y (AtD.pures hT 1 _ _ _ _ Y (AtD.pures hT 2 _ _ _ _ Y (AtD.nil ?_))))
 exact AtE.then_n ((HK12 _ () _ H).pickP (ts := [80, 0, 8, 9, 10, 11, 12]) (is := [0, 1, 2]) Y Y (by decide) Y)
 refine AtC.draw hmix (by kernel_rfl) (AtD.pures hT 4 _ _ _ _ Y ?_)
 refine AtD.splitB (t := 59) H Y (fun H => ?_) (fun H => ?_)
 refine AtD.noF Y Y Y (by decide) Y (AtD.noF Y Y Y (by decide) Y (AtD.noF Y Y Y (by decide) Y (AtD.noF Y Y Y (by decide) Y (AtD.noU Y Y Y Y (AtD.noU Y Y Y Y ?_)))))
 refine AtD.noU Y Y Y Y (AtD.noU Y Y Y Y (AtD.noU Y Y Y Y (AtD.noU Y Y Y Y (AtD.noU Y Y Y Y (AtD.noU Y Y Y Y ?_)))))
 refine AtD.noU Y Y Y Y (AtD.noF Y Y Y (by decide) Y (AtD.pures hT 2 _ _ _ _ Y (AtD.nil ?_)))
 exact AtE.then_n ((HK4 _ () _ H).pickP (ts := [55, 0, 8, 9, 10, 11, 12]) (is := [0, 1, 2]) Y Y (by decide) Y)
 refine AtD.yes Y Y Y (AtD.pures hT 1 _ _ _ _ Y (AtD.yes Y Y Y (AtD.pures hT 1 _ _ _ _ Y (AtD.yes Y Y Y (AtD.pures hT 1 _ _ _ _ Y ?_)))))
 refine AtD.yes Y Y Y (AtD.pures hT 1 _ _ _ _ Y ?_)
 refine AtD.splitB (t := 63) H Y (fun H => ?_) (fun H => ?_)
 refine AtD.yes Y Y Y (AtD.pures hT 1 _ _ _ _ Y (AtD.yes Y Y Y ?_))
 obtain ⟨a_, hc4, hd4, H⟩ := H
 refine AtD.q Y (Quiet1.idxS hT Y Y Y Y Y hc4 hd4) (AtD.yes Y Y Y (AtD.pures hT 1 _ _ _ _ Y (AtD.yes Y Y Y ?_)))
 obtain ⟨v_2, hc5, H⟩ := H
 refine AtD.q Y (Quiet1.load hT Y Y Y hc5) (AtD.yes Y Y Y (AtD.pures hT 1 _ _ _ _ Y (AtD.yes Y Y Y ?_)))
 obtain ⟨a_1_, hc6, hd6, H⟩ := H
 refine AtD.q Y (Quiet1.idxS hT Y Y Y Y Y hc6 hd6) (AtD.yes Y Y Y (AtD.pures hT 1 _ _ _ _ Y (AtD.yes Y Y Y ?_)))
 obtain ⟨v_3, hc7, H⟩ := H
 refine AtD.q Y (Quiet1.load hT Y Y Y hc7) (AtD.yes Y Y Y (AtD.pures hT 1 _ _ _ _ Y (AtD.yes Y Y Y (AtD.pures hT 1 _ _ _ _ Y (AtD.pures hT 2 _ _ _ _ Y ?_)))))
 refine AtD.nil ?_
 exact AtE.then_n ((HK4 _ () _ H).pickP (ts := [55, 0, 8, 9, 10, 11, 12]) (is := [0, 1, 2]) Y Y (by decide) Y)
 refine AtD.noF Y Y Y (by decide) Y (AtD.noF Y Y Y (by decide) Y (AtD.noF Y Y Y (by decide) Y (AtD.noF Y Y Y (by decide) Y (AtD.noF Y Y Y (by decide) Y (AtD.noF Y Y Y (by decide) Y ?_)))))
 refine AtD.noF Y Y Y (by decide) Y (AtD.noF Y Y Y (by decide) Y (AtD.noF Y Y Y (by decide) Y (AtD.yes Y Y Y (AtD.pures hT 1 _ _ _ _ Y (AtD.pures hT 2 _ _ _ _ Y ?_)))))
 refine AtD.nil ?_
 exact AtE.then_n ((HK4 _ () _ H).pickP (ts := [55, 0, 8, 9, 10, 11, 12]) (is := [0, 1, 2]) Y Y (by decide) Y)
 refine AtC.exit (AtE.then_x (AtE.then_x (AtE.blk_hit (tg (sR ?_)))))
 refine pu hT 1 Y (AtL.q Y (lS hT 0 [_, _, _, _] Y Y Y Y Y Y Y Y) (AtL.e Y (cl (fun h => linear_kept _ _ h _) H Y Tryz.call139 Y (fun w m hr hw => lift_linear_kept _ _ w m hr _ hw)) ?_))
 rintro _ _ ⟨v_19, h0u14, rfl, rfl, H⟩
 refine AtL.e Y (EffX.storeSP (i := 1) (qv := [(_, [_, _, _, _]), (_, [_, _, _, _])]) hT Y Y Y Y Y Y Y Y Y Y) ?_
 rintro _ _ rfl
 refine ng (AtC.ret ?_)
 exact AtE.retN (rs := [.cell 8 52]) Y (ResAll.cons (ResAt.cellSP (i := 1) (l := [_, _, _, _]) hT Y Y Y Y Y Y Y) ResAll.nil) Y H
 refine AtC.region (pu hT 4 Y ?_)
 refine AtL.splitB (t := 31) H Y (fun H => ?_) (fun H => ?_)
 refine nf Y (nf Y (nf Y (pu hT 1 Y (AtL.nil ?_))))
 exact AtE.then_n ((HK2 _ () _ H).pickP (ts := [35, 0, 8, 9, 10, 11]) (is := [0, 1]) Y Y (by decide) Y)
 refine ys Y (pu hT 1 Y (ys Y (pu hT 1 Y (ys Y (pu hT 1 Y ?_)))))
 refine pu hT 1 Y (AtL.nil ?_)
 exact AtE.then_n ((HK2 _ () _ H).pickP (ts := [35, 0, 8, 9, 10, 11]) (is := [0, 1]) Y Y (by decide) Y)
theorem lift_slices_Clone_int_int (s0 : Sl) (w : World) (m : Heap) (hr : Rel ⟨m, []⟩ w.heap) (S : Sl → Heap → Prop) (H : slices_Clone_int_int s0 m S) :
 Calls Tryz.prog 89 #[Sl.toV s0] w (Post ⟨w, m⟩ Sl.toV S) := by
 refine Calls.lift (args := [Sl.toV s0]) Tryz.func89 Y Tryz.ntmps89 (Nat.le_of_ble_eq_true Y) hr (slices_Clone_int_int s0 m S) H (fun H => ?_)
 refine AtC.pick (ts := [0]) Y ?_
 unfold slices_Clone_int_int at H
 refine sR (pu hT 1 Y (ng (AtC.seq (sR (pu hT 1 Y ?_)))))
 refine AtL.q Y (Quiet1.eqNilS hT Y Y Y Y) (ng ?_)
 refine AtC.condB H Y (fun H => ?_) (fun H => ?_)
 refine sR (pu hT 1 Y (ng (AtC.ret (AtE.then_r ?_))))
 exact r1 2 Y Y Y H
 refine AtC.skip (tg (sR ?_))
 refine AtLX.bs (hT := hT) (cs := []) H Y Y Y Y Y Y Y Y Y (fun a h0 H => ?_)
 refine pu hT 1 Y (AtL.e Y (EffX.appendS (s := _) (u := _) hT Y Y Y Y Y Y Y Y Y Y (by decide) H) ?_)
 rintro _ _ ⟨v_1, h0u1, rfl, rfl, H⟩
 refine pu hT 1 Y (ng (AtC.ret ?_))
 exact r1 2 Y Y Y H
theorem lift_tableau_over (b : (Option Addr)) (w : World) (m : Heap) (hr : Rel ⟨m, []⟩ w.heap) (S : Int → Heap → Prop) (H : tableau_over b m S) :
 Calls Tryz.prog 82 #[Value.pointer b] w (Post ⟨w, m⟩ (Value.int .i64) S) := by
 refine Calls.lift (args := [Value.pointer b]) Tryz.func82 Y Tryz.ntmps82 (Nat.le_of_ble_eq_true Y) hr (tableau_over b m S) H (fun H => ?_)
 refine AtC.pick (ts := [0]) Y ?_
 unfold tableau_over at H
 refine sR (pu hT 1 Y (ng (AtC.seq (sR (pu hT 1 Y ?_)))))
 refine AtL.e Y (cl (fun h => nat_Bench_Over _ h _) H Y Tryz.call30 Y (fun w m hr hw => lift_nat_Bench_Over _ w m hr _ hw)) ?_
 rintro _ _ ⟨v, h0, rfl, rfl, H⟩
 refine ng ?_
 refine AtC.condB H Y (fun H => ?_) (fun H => ?_)
 refine sR (pu hT 1 Y (ng (AtC.ret (AtE.then_r ?_))))
 exact r1 2 Y Y Y H
 refine AtC.skip (tg (sR (pu hT 1 Y (ng (AtC.ret ?_)))))
 exact r1 2 Y Y Y H
theorem lift_tableau_Pivot (b : (Option Addr)) (t0 : (Option Addr)) (row : Int) (v : Int) (w : World) (m : Heap) (hr : Rel ⟨m, []⟩ w.heap) (S : Int → Heap → Prop) (H : tableau_Pivot b t0 row v m S) :
 Calls Tryz.prog 29 #[Value.pointer b, Value.pointer t0, Value.int .i64 row, Value.int .i64 v] w (Post ⟨w, m⟩ (Value.int .i64) S) := by
 refine Calls.lift (args := [Value.pointer b, Value.pointer t0, Value.int .i64 row, Value.int .i64 v]) Tryz.func29 Y Tryz.ntmps29 (Nat.le_of_ble_eq_true Y) hr (tableau_Pivot b t0 row v m S) H (fun H => ?_)
 refine AtC.pick (ts := [0, 1, 2, 3]) Y ?_
 unfold tableau_Pivot at H
 refine sR (pu hT 1 Y (ng (AtC.seq ?_)))
 refine AtC.joinSeq (β := Unit) (fun (t0u1 : Bool) (bb : Unit) => [(27, Value.bool t0u1)]) (fun (t0u1 : Bool) (bb : Unit) => []) [0, 1, 2, 3] [] H Y Y (fun t0u1 bb h0 H => ?_) (fun J1 H HK1 => ?_)
 refine AtC.condB H Y (fun H => ?_) (fun H => ?_)
 refine sR (pu hT 1 Y (ng (AtC.ret (AtE.then_r ?_))))
 exact r1 8 Y Y Y H
 refine AtC.skip (tg (sR (pu hT 1 Y ?_)))
 obtain ⟨a_1, hc3, H⟩ := H
 refine AtL.q Y (Quiet1.nilChk Y Y hc3) (pu hT 1 Y ?_)
 obtain ⟨v_2, hc4, H⟩ := H
 refine AtL.q Y (Quiet1.load hT Y Y Y hc4) (pu hT 1 Y ?_)
 obtain ⟨a_2_, hc5, hd5, H⟩ := H
 refine AtL.q Y (Quiet1.idxS hT Y Y Y Y Y hc5 hd5) ?_
 obtain ⟨v_3, hc6, H⟩ := H
 refine AtL.q Y (Quiet1.loadS hT Y Y Y Y hc6) (pu hT 1 Y (AtL.e Y (cl (fun h => tableau_coef _ _ h _) H Y Tryz.call79 Y (fun w m hr hw => lift_tableau_coef _ _ w m hr _ hw)) ?_))
 rintro _ _ ⟨v_4, h0u1, rfl, rfl, H⟩
 refine AtL.e Y (EffX.allocP (cs := [_, _, _]) hT Y Y H) ?_
 rintro _ _ ⟨b_1, _, rfl, rfl, _, H⟩
 replace H := H.self
 refine AtL.e Y (EffX.storeSP (i := 0) (qv := [(_, [_, _, _])]) hT Y Y Y Y Y Y Y Y Y Y) ?_
 rintro _ _ rfl
 refine ng (AtC.seq (sR (AtL.q Y (lS hT 0 [_, _, _] Y Y Y Y Y Y Y Y) (AtL.e Y (cl (fun h => ratio_Sign _ h _) H Y Tryz.call43 Y (fun w m hr hw => lift_ratio_Sign _ w m hr _ hw)) ?_))))
 rintro _ _ ⟨v_5, h0u3, rfl, rfl, H⟩
 refine pu hT 1 Y (ng ?_)
 refine AtC.condB H Y (fun H => ?_) (fun H => ?_)
 refine sR (pu hT 1 Y (ng (AtC.ret (AtE.then_r ?_))))
 exact r1 8 Y Y Y H
 refine AtC.skip (tg (sR (pu hT 1 Y ?_)))
 obtain ⟨a_3, hc7, H⟩ := H
 refine AtL.q Y (Quiet1.nilChk Y Y hc7) (pu hT 1 Y ?_)
 obtain ⟨v_6, hc8, H⟩ := H
 refine AtL.q Y (Quiet1.load hT Y Y Y hc8) (pu hT 1 Y ?_)
 obtain ⟨a_4_, hc9, hd9, H⟩ := H
 refine AtL.q Y (Quiet1.idxS hT Y Y Y Y Y hc9 hd9) ?_
 obtain ⟨v_7, hc10, H⟩ := H
 refine AtL.q Y (Quiet1.load hT Y Y Y hc10) (pu hT 1 Y (ng ?_))
 refine AtC.joinSeq (β := Nat) (fun (t0u2 : Bool × Sl × Sl) (bb_1 : Nat) => [(11, Value.pointer (some ⟨bb_1, 0, none⟩))]) (fun (t0u2 : Bool × Sl × Sl) (bb_1 : Nat) => [(bb_1, [Value.bool t0u2.1, Sl.toV t0u2.2.1, Sl.toV t0u2.2.2])]) [0, 1, 2, 3, 10] [] H Y Y (fun t0u2 bb_1 h0u4 H => ?_) (fun J12 H HK12 => ?_)
 refine AtC.joinSeq (β := Nat) (fun (t0u3 : Bool × Sl × Sl × Sl) (bb_2 : Nat) => [(12, Value.pointer (some ⟨bb_2, 0, none⟩))]) (fun (t0u3 : Bool × Sl × Sl × Sl) (bb_2 : Nat) => [(bb_2, [Value.bool t0u3.1, Sl.toV t0u3.2.1, Sl.toV t0u3.2.2.1, Sl.toV t0u3.2.2.2])]) [0, 1, 2, 3] [] H Y Y (fun t0u3 bb_2 h0u16 H => ?_) (fun J16 H HK16 => ?_)
 refine sR (pu hT 1 Y ?_)
 obtain ⟨a_7, hc44, H⟩ := H
 refine AtL.q Y (Quiet1.nilChk Y Y hc44) (pu hT 1 Y ?_)
 obtain ⟨v_35, hc45, H⟩ := H
 refine AtL.q Y (Quiet1.load hT Y Y Y hc45) (AtL.e Y (cl (fun h => slices_Clone_api_Poly_api_Poly _ h _) H Y Tryz.call77 Y (fun w m hr hw => lift_slices_Clone_api_Poly_api_Poly _ w m hr _ hw)) ?_)
 rintro _ _ ⟨v_36, h0u58, rfl, rfl, H⟩
 refine pu hT 1 Y (ng (AtC.seq (sR (pu hT 1 Y ?_))))
 obtain ⟨a_8, hc46, H⟩ := H
 refine AtL.q Y (Quiet1.nilChk Y Y hc46) (pu hT 1 Y ?_)
 obtain ⟨v_37, hc47, H⟩ := H
 refine AtL.q Y (Quiet1.load hT Y Y Y hc47) (pu hT 2 Y (ng (AtC.block ?_)))
 refine AtC.loopM (fun (s0 : Int) => [(79, Value.int .i64 s0)]) (fun (s0 : Int) => []) [0, 1, 2, 3, 12, 13, 77, 78] [79, 0, 1, 2, 3, 12, 13, 77, 78] [0] [0] H Y Y Y (by decide) Y (fun Kp49 s0 h0u59 H Q49 HK49 => ?_)
 refine sR (pu hT 1 Y (ng (AtC.seq ?_)))
 refine AtC.condB H Y (fun H => ?_) (fun H => ?_)
 refine AtC.skip (tg ?_)
 refine AtC.joinSeq (β := Unit) (fun (t0u4 : Unit) (bb_3 : Unit) => []) (fun (t0u4 : Unit) (bb_3 : Unit) => []) [0, 1, 2, 3, 12, 13, 77, 78, 79] [0] H Y Y (fun t0u4 bb_3 h0u60 H => ?_) (fun J50 H HK50 => ?_)
 refine AtC.region (pu hT 2 Y (AtL.nil ?_))
 exact AtE.then_n ((HK49 _ _ H).pickP (ts := [79, 0, 1, 2, 3, 12, 13, 77, 78]) (is := [0]) Y Y (by decide) Y)
 refine AtC.block (sR (pu hT 1 Y ?_))
 obtain ⟨a_9_, hc50, hd50, H⟩ := H
 refine AtL.q Y (Quiet1.idxS hT Y Y Y Y Y hc50 hd50) ?_
 obtain ⟨v_38, hc51, H⟩ := H
 refine AtL.q Y (Quiet1.loadS hT Y Y Y Y hc51) (AtL.e Y (EffX.allocP (cs := [_, _, _, _]) hT Y Y H) ?_)
 rintro _ _ ⟨b_11, _, rfl, rfl, _, H⟩
 replace H := H.self
 refine pu hT 1 Y (AtL.e Y (EffX.storeSP (i := 0) (qv := [(_, [_, _, _, _]), (_, [_, _, _, _])]) hT Y Y Y Y Y Y Y Y Y Y) ?_)
 rintro _ _ rfl
 refine ng (sR (AtL.q Y (lS hT 0 [_, _, _, _] Y Y Y Y Y Y Y Y) (pu hT 1 Y (AtL.e Y (cl (fun h => tableau_coef _ _ h _) H Y Tryz.call79 Y (fun w m hr hw => lift_tableau_coef _ _ w m hr _ hw)) ?_))))
 rintro _ _ ⟨v_39, h0u62, rfl, rfl, H⟩
 refine AtL.e Y (EffX.allocP (cs := [_, _, _]) hT Y Y H) ?_
 rintro _ _ ⟨b_12, _, rfl, rfl, _, H⟩
 replace H := H.self
 refine AtL.e Y (EffX.storeSP (i := 0) (qv := [(_, [_, _, _]), (_, [_, _, _, _]), (_, [_, _, _, _])]) hT Y Y Y Y Y Y Y Y Y Y) ?_
 rintro _ _ rfl
 refine ng (sR (AtL.q Y (lS hT 0 [_, _, _] Y Y Y Y Y Y Y Y) (AtL.e Y (cl (fun h => ratio_Sign _ h _) H Y Tryz.call43 Y (fun w m hr hw => lift_ratio_Sign _ w m hr _ hw)) ?_)))
 rintro _ _ ⟨v_40, h0u64, rfl, rfl, H⟩
 refine pu hT 1 Y (ng ?_)
 refine AtC.condB H Y (fun H => ?_) (fun H => ?_)
 apply AtC.stages [5, 8, 10] [[], [], [], [], [], [], [], [], [5], [5, 8], [5, 8]] [[], [], [], [], [], [3, 4], [], [], [2, 3, 4, 5, 6, 7], [0, 1, 2, 3, 4, 5, 6, 7, 8], [0, 1, 2, 3, 4, 5, 6, 7, 8, 9]] hmix (by kernel_rfl) [(90, _), (91, _), (92, _), (93, _), (94, _), (96, _), (97, _)] Y 3 Y
 refine Stg.go [0, 1, 2, 3, 4, 6, 7] [5] Y Y (qp hT Y (qp hT Y (qp hT Y (qq Y (lS hT 1 [_, _, _, _] Y Y Y Y Y Y Y Y) Y (qp hT Y (qq Y (lS hT 0 [_, _, _] Y Y Y Y Y Y Y Y) Y (qq Y (lS hT 2 [_, _, _, _] Y Y Y Y Y Y Y Y) Y QAll.nil))))))) ?_
 refine EAll.cons ?_ EAll.nil
 refine EOp.e Y Y Y (cl (fun h => tableau_without _ _ h _) H Y Tryz.call88 Y (fun w m hr hw => lift_tableau_without _ _ w m hr _ hw)) ?_
 rintro _ _ ⟨v_41, h0u65, rfl, rfl, H⟩
 apply Stg.next [(95, _)] Y Y
 refine Stg.go [0, 1, 2, 6, 7] [8] Y Y (qp hT Y (qp hT Y (qp hT Y (qq Y (lS hT 0 [_, _, _] Y Y Y Y Y Y Y Y) Y (qq Y (lS hT 2 [_, _, _, _] Y Y Y Y Y Y Y Y) Y QAll.nil))))) ?_
 refine EAll.cons ?_ EAll.nil
 refine EOp.e Y Y Y (cl (fun h => linear_Add _ _ _ _ h _) H Y Tryz.call84 Y (fun w m hr hw => lift_linear_Add _ _ _ _ w m hr _ hw)) ?_
 rintro _ _ ⟨v_42, h0u66, rfl, rfl, H⟩
 obtain ⟨a_10_, hc52, hd52, H⟩ := H
 apply Stg.next [(98, _), (99, _)] Y Y
 refine Stg.go [0, 1, 9] [10] Y Y (qp hT Y (qp hT Y (qq Y (Quiet1.idxS hT Y Y Y Y Y hc52 hd52) Y QAll.nil))) ?_
 refine EAll.cons ?_ EAll.nil
 refine EOp.e Y Y Y (EffX.storeS hT Y Y Y Y Y Y H) ?_
 rintro _ _ ⟨h0u67, rfl, H⟩
 apply Stg.next [] Y Y
 refine Stg.fin [] Y Y QAll.nil (AtE.blk_n ?_)
 exact AtE.then_n ((HK50 _ () _ H).pickP (ts := [0, 1, 2, 3, 12, 13, 77, 78, 79]) (is := [2]) Y Y (by decide) Y)
 refine AtC.skip (AtE.blk_n ?_)
 exact AtE.then_n ((HK50 _ () _ H).pickP (ts := [0, 1, 2, 3, 12, 13, 77, 78, 79]) (is := [2]) Y Y (by decide) Y)
 refine AtC.exit (AtE.then_x (AtE.then_x (AtE.blk_hit (tg (sR ?_)))))
 refine pu hT 2 Y (AtL.q Y (lS hT 0 [_, _, _, _] Y Y Y Y Y Y Y Y) ?_)
 obtain ⟨a_11_, hc53, hd53, H⟩ := H
 refine AtL.q Y (Quiet1.idxS hT Y Y Y Y Y hc53 hd53) (AtL.e Y (EffX.storeS hT Y Y Y Y Y Y H) ?_)
 rintro _ _ ⟨h0u68, rfl, H⟩
 refine ng (sR (pu hT 4 Y ?_))
 obtain ⟨a_12, hc54, H⟩ := H
 refine AtL.q Y (Quiet1.nilChk Y Y hc54) (pu hT 1 Y ?_)
 obtain ⟨v_43, hc55, H⟩ := H
 refine AtL.q Y (Quiet1.load hT Y Y Y hc55) (AtL.e Y (cl (fun h => slices_Clone_int_int _ h _) H Y Tryz.call89 Y (fun w m hr hw => lift_slices_Clone_int_int _ w m hr _ hw)) ?_)
 rintro _ _ ⟨v_44, h0u69, rfl, rfl, H⟩
 obtain ⟨a_13, hc56, H⟩ := H
 refine AtL.q Y (Quiet1.nilChk Y Y hc56) (pu hT 1 Y (AtL.e Y (EffX.store hT Y Y Y Y Y H) ?_))
 rintro _ _ ⟨h0u70, rfl, H⟩
 obtain ⟨a_14, hc57, H⟩ := H
 refine AtL.q Y (Quiet1.nilChk Y Y hc57) (pu hT 1 Y (AtL.e Y (EffX.store hT Y Y Y Y Y H) ?_))
 rintro _ _ ⟨h0u71, rfl, H⟩
 refine ng (sR (pu hT 1 Y ?_))
 obtain ⟨a_15, hc58, H⟩ := H
 refine AtL.q Y (Quiet1.nilChk Y Y hc58) (pu hT 1 Y ?_)
 obtain ⟨v_45, hc59, H⟩ := H
 refine AtL.q Y (Quiet1.load hT Y Y Y hc59) (pu hT 2 Y ?_)
 obtain ⟨a_16_, hc60, hd60, H⟩ := H
 refine AtL.q Y (Quiet1.idxS hT Y Y Y Y Y hc60 hd60) (AtL.e Y (EffX.store hT Y Y Y Y Y H) ?_)
 rintro _ _ ⟨h0u72, rfl, H⟩
 refine ng (sR (pu hT 1 Y (AtL.e Y (cl (fun h => tableau_over _ h _) H Y Tryz.call82 Y (fun w m hr hw => lift_tableau_over _ w m hr _ hw)) ?_)))
 rintro _ _ ⟨v_46, h0u73, rfl, rfl, H⟩
 refine pu hT 1 Y (ng (AtC.ret ?_))
 exact r1 8 Y Y Y H
 obtain ⟨a_5, hc16, H⟩ := H
 obtain ⟨v_13, hc17, H⟩ := H
 obtain ⟨a_6_, hc18, hd18, H⟩ := H
 obtain ⟨v_14, hc19, H⟩ := H
 apply AtC.stages [4, 5, 7, 16, 17, 18, 19] [[], [], [], [], [], [4], [], [4, 5], [], [], [], [], [], [], [], [], [4, 5, 7], [4, 5, 7, 16], [], [4, 5, 7, 16, 17, 18]] [[], [], [], [], [3], [1, 2, 3, 4], [], [1, 2, 3, 4, 5, 6], [], [8], [8, 9], [8, 9, 10], [], [8, 9, 10, 11, 12], [8, 9, 10, 11, 12, 13], [], [1, 2, 3, 4, 5, 6, 7, 8, 9, 10, 11, 12, 13, 14, 15], [0, 1, 2, 3, 4, 5, 6, 7, 8, 9, 10, 11, 12, 13, 14, 15, 16], [], [0, 1, 2, 3, 4, 5, 6, 7, 8, 9, 10, 11, 12, 13, 14, 15, 16, 17, 18]] hmix (by kernel_rfl) [(51, _), (52, _), (53, _), (54, _), (57, _), (59, _), (60, _), (61, _), (62, _), (63, _), (64, _), (65, _), (66, _)] Y 7 Y
 refine Stg.go [0, 1, 2, 3, 6, 8, 9, 10, 11, 12, 13, 14, 15] [4, 18] Y Y (qp hT Y (qp hT Y (qq Y (lS hT 0 [_, _, _] Y Y Y Y Y Y Y Y) Y (qp hT Y (qq Y (lS hT 0 [_, _, _] Y Y Y Y Y Y Y Y) Y (qp hT Y (qq Y (Quiet1.nilChk Y Y hc16) Y (qp hT Y (qq Y (Quiet1.load hT Y Y Y hc17) Y (qp hT Y (qq Y (Quiet1.idxS hT Y Y Y Y Y hc18 hd18) Y (qq Y (Quiet1.loadS hT Y Y Y Y hc19) Y (qp hT Y QAll.nil))))))))))))) ?_
 refine EAll.cons ?_ ?_
 replace H := H.self
 refine EOp.e Y Y Y (cl (fun h => linear_Of _ h _) H Y Tryz.call86 Y (fun w m hr hw => lift_linear_Of _ w m hr _ hw)) ?_
 rintro _ _ ⟨v_15, h0u18, rfl, rfl, H⟩
 obtain ⟨hc20, H⟩ := H
 obtain ⟨hc21, H⟩ := H
 apply Stg.next [(55, _)] Y Y
 refine Stg.go [0, 1, 2, 6, 8, 9, 10, 11, 12, 13, 14, 15] [5, 18] Y Y (qp hT Y (qp hT Y (qq Y (lS hT 0 [_, _, _] Y Y Y Y Y Y Y Y) Y (qq Y (lS hT 0 [_, _, _] Y Y Y Y Y Y Y Y) Y (qp hT Y (qq Y (Quiet1.nilChk Y Y hc16) Y (qp hT Y (qq Y (Quiet1.load hT Y Y Y hc20) Y (qp hT Y (qq Y (Quiet1.idxS hT Y Y Y Y Y hc18 hd18) Y (qq Y (Quiet1.loadS hT Y Y Y Y hc21) Y (qp hT Y QAll.nil)))))))))))) ?_
 refine EAll.cons ?_ ?_
 replace H := H.self
 refine EOp.e Y Y Y (cl (fun h => linear_Scale _ _ _ h _) H Y Tryz.call85 Y (fun w m hr hw => lift_linear_Scale _ _ _ w m hr _ hw)) ?_
 rintro _ _ ⟨v_16, h0u20, rfl, rfl, H⟩
 obtain ⟨hc22, H⟩ := H
 obtain ⟨hc23, H⟩ := H
 apply Stg.next [(56, _)] Y Y
 refine Stg.go [0, 6, 8, 9, 10, 11, 12, 13, 14, 15] [7, 18] Y Y (qp hT Y (qq Y (lS hT 0 [_, _, _] Y Y Y Y Y Y Y Y) Y (qp hT Y (qq Y (Quiet1.nilChk Y Y hc16) Y (qp hT Y (qq Y (Quiet1.load hT Y Y Y hc22) Y (qp hT Y (qq Y (Quiet1.idxS hT Y Y Y Y Y hc18 hd18) Y (qq Y (Quiet1.loadS hT Y Y Y Y hc23) Y (qp hT Y QAll.nil)))))))))) ?_
 refine EAll.cons ?_ ?_
 replace H := H.self
 refine EOp.e Y Y Y (cl (fun h => ratio_Neg _ h _) H Y Tryz.call87 Y (fun w m hr hw => lift_ratio_Neg _ w m hr _ hw)) ?_
 rintro _ _ ⟨v_17, h0u22, rfl, rfl, H⟩
 obtain ⟨hc24, H⟩ := H
 obtain ⟨hc25, H⟩ := H
 apply Stg.next [(58, _)] Y Y
 refine Stg.go [0, 8, 9, 10, 11, 12, 13, 14, 15] [16, 18] Y Y (qp hT Y (qp hT Y (qq Y (Quiet1.nilChk Y Y hc16) Y (qp hT Y (qq Y (Quiet1.load hT Y Y Y hc24) Y (qp hT Y (qq Y (Quiet1.idxS hT Y Y Y Y Y hc18 hd18) Y (qq Y (Quiet1.loadS hT Y Y Y Y hc25) Y (qp hT Y QAll.nil))))))))) ?_
 refine EAll.cons ?_ ?_
 replace H := H.self
 refine EOp.e Y Y Y (cl (fun h => tableau_without _ _ h _) H Y Tryz.call88 Y (fun w m hr hw => lift_tableau_without _ _ w m hr _ hw)) ?_
 rintro _ _ ⟨v_18, h0u24, rfl, rfl, H⟩
 apply Stg.next [(67, _)] Y Y
 refine Stg.go [0] [17, 18] Y Y (qp hT Y QAll.nil) ?_
 refine EAll.cons ?_ ?_
 replace H := H.self
 refine EOp.e Y Y Y (cl (fun h => linear_Add _ _ _ _ h _) H Y Tryz.call84 Y (fun w m hr hw => lift_linear_Add _ _ _ _ w m hr _ hw)) ?_
 rintro _ _ ⟨v_19, h0u26, rfl, rfl, H⟩
 apply Stg.next [(68, _)] Y Y
 refine Stg.go [] [18] Y Y QAll.nil ?_
 refine EAll.cons ?_ EAll.nil
 refine EOp.e Y Y Y (EffX.allocP (cs := [_, _, _, _]) hT Y Y H) ?_
 rintro _ _ ⟨b_5, _, rfl, rfl, he26, H⟩
 apply Stg.next [(12, _)] Y Y
 refine Stg.go [] [19] Y Y QAll.nil ?_
 refine EAll.cons ?_ EAll.nil
 refine EOp.e Y Y Y (EffX.storeSP (i := 0) (qv := [(_, [_, _, _, _]), (_, [_, _, _])]) hT Y Y Y Y Y Y Y Y Y Y) ?_
 rintro _ _ rfl
 apply Stg.next [] Y Y
 refine Stg.fin [] Y Y QAll.nil ?_
 replace H := H.self
 exact AtE.then_n ((HK16 _ b_5 _ H).pickP (ts := [12, 0, 1, 2, 3]) (is := [0]) Y Y (by decide) Y)
 refine EAll.cons ?_ EAll.nil
 refine EOp.e Y Y Y (EffX.allocP (cs := [_, _, _, _]) hT Y Y H) ?_
 rintro _ _ ⟨b_6, _, rfl, rfl, he27, H⟩
 apply Stg.next [(12, _)] Y Y
 refine Stg.go [0] [17] Y Y (qp hT Y QAll.nil) ?_
 refine EAll.cons ?_ EAll.nil
 replace H := H.self
 refine EOp.e Y Y Y (cl (fun h => linear_Add _ _ _ _ h _) H Y Tryz.call84 Y (fun w m hr hw => lift_linear_Add _ _ _ _ w m hr _ hw)) ?_
 rintro _ _ ⟨v_20, h0u28, rfl, rfl, H⟩
 apply Stg.next [(68, _)] Y Y
 refine Stg.go [] [19] Y Y QAll.nil ?_
 refine EAll.cons ?_ EAll.nil
 refine EOp.e Y Y Y (EffX.storeSP (i := 0) (qv := [(_, [_, _, _, _]), (_, [_, _, _])]) hT Y Y Y Y Y Y Y Y Y Y) ?_
 rintro _ _ rfl
 apply Stg.next [] Y Y
 refine Stg.fin [] Y Y QAll.nil ?_
 replace H := H.self
 exact AtE.then_n ((HK16 _ b_6 _ H).pickP (ts := [12, 0, 1, 2, 3]) (is := [0]) Y Y (by decide) Y)
 refine EAll.cons ?_ EAll.nil
 refine EOp.e Y Y Y (EffX.allocP (cs := [_, _, _, _]) hT Y Y H) ?_
 rintro _ _ ⟨b_7, _, rfl, rfl, he28, H⟩
 replace hc24 := he28.cell hc24
 replace hc25 := he28.cells hc25
 apply Stg.next [(12, _)] Y Y
 refine Stg.go [0, 8, 9, 10, 11, 12, 13, 14, 15] [16] Y Y (qp hT Y (qp hT Y (qq Y (Quiet1.nilChk Y Y hc16) Y (qp hT Y (qq Y (Quiet1.load hT Y Y Y hc24) Y (qp hT Y (qq Y (Quiet1.idxS hT Y Y Y Y Y hc18 hd18) Y (qq Y (Quiet1.loadS hT Y Y Y Y hc25) Y (qp hT Y QAll.nil))))))))) ?_
 refine EAll.cons ?_ EAll.nil
 replace H := H.self
 refine EOp.e Y Y Y (cl (fun h => tableau_without _ _ h _) H Y Tryz.call88 Y (fun w m hr hw => lift_tableau_without _ _ w m hr _ hw)) ?_
 rintro _ _ ⟨v_21, h0u30, rfl, rfl, H⟩
 apply Stg.next [(67, _)] Y Y
 refine Stg.go [0] [17] Y Y (qp hT Y QAll.nil) ?_
 refine EAll.cons ?_ EAll.nil
 replace H := H.self
 refine EOp.e Y Y Y (cl (fun h => linear_Add _ _ _ _ h _) H Y Tryz.call84 Y (fun w m hr hw => lift_linear_Add _ _ _ _ w m hr _ hw)) ?_
 rintro _ _ ⟨v_22, h0u32, rfl, rfl, H⟩
 apply Stg.next [(68, _)] Y Y
 refine Stg.go [] [19] Y Y QAll.nil ?_
 refine EAll.cons ?_ EAll.nil
 refine EOp.e Y Y Y (EffX.storeSP (i := 0) (qv := [(_, [_, _, _, _]), (_, [_, _, _])]) hT Y Y Y Y Y Y Y Y Y Y) ?_
 rintro _ _ rfl
 apply Stg.next [] Y Y
 refine Stg.fin [] Y Y QAll.nil ?_
 replace H := H.self
 exact AtE.then_n ((HK16 _ b_7 _ H).pickP (ts := [12, 0, 1, 2, 3]) (is := [0]) Y Y (by decide) Y)
 refine EAll.cons ?_ EAll.nil
 refine EOp.e Y Y Y (EffX.allocP (cs := [_, _, _, _]) hT Y Y H) ?_
 rintro _ _ ⟨b_8, _, rfl, rfl, he29, H⟩
 replace hc22 := he29.cell hc22
 replace hc23 := he29.cells hc23
 apply Stg.next [(12, _)] Y Y
 refine Stg.go [0, 6, 8, 9, 10, 11, 12, 13, 14, 15] [7] Y Y (qp hT Y (qq Y (lS hT 1 [_, _, _] Y Y Y Y Y Y Y Y) Y (qp hT Y (qq Y (Quiet1.nilChk Y Y hc16) Y (qp hT Y (qq Y (Quiet1.load hT Y Y Y hc22) Y (qp hT Y (qq Y (Quiet1.idxS hT Y Y Y Y Y hc18 hd18) Y (qq Y (Quiet1.loadS hT Y Y Y Y hc23) Y (qp hT Y QAll.nil)))))))))) ?_
 refine EAll.cons ?_ EAll.nil
 replace H := H.self
 refine EOp.e Y Y Y (cl (fun h => ratio_Neg _ h _) H Y Tryz.call87 Y (fun w m hr hw => lift_ratio_Neg _ w m hr _ hw)) ?_
 rintro _ _ ⟨v_23, h0u34, rfl, rfl, H⟩
 obtain ⟨hc30, H⟩ := H
 obtain ⟨hc31, H⟩ := H
 apply Stg.next [(58, _)] Y Y
 refine Stg.go [0, 8, 9, 10, 11, 12, 13, 14, 15] [16] Y Y (qp hT Y (qp hT Y (qq Y (Quiet1.nilChk Y Y hc16) Y (qp hT Y (qq Y (Quiet1.load hT Y Y Y hc30) Y (qp hT Y (qq Y (Quiet1.idxS hT Y Y Y Y Y hc18 hd18) Y (qq Y (Quiet1.loadS hT Y Y Y Y hc31) Y (qp hT Y QAll.nil))))))))) ?_
 refine EAll.cons ?_ EAll.nil
 replace H := H.self
 refine EOp.e Y Y Y (cl (fun h => tableau_without _ _ h _) H Y Tryz.call88 Y (fun w m hr hw => lift_tableau_without _ _ w m hr _ hw)) ?_
 rintro _ _ ⟨v_24, h0u36, rfl, rfl, H⟩
 apply Stg.next [(67, _)] Y Y
 refine Stg.go [0] [17] Y Y (qp hT Y QAll.nil) ?_
 refine EAll.cons ?_ EAll.nil
 replace H := H.self
 refine EOp.e Y Y Y (cl (fun h => linear_Add _ _ _ _ h _) H Y Tryz.call84 Y (fun w m hr hw => lift_linear_Add _ _ _ _ w m hr _ hw)) ?_
 rintro _ _ ⟨v_25, h0u38, rfl, rfl, H⟩
 apply Stg.next [(68, _)] Y Y
 refine Stg.go [] [19] Y Y QAll.nil ?_
 refine EAll.cons ?_ EAll.nil
 refine EOp.e Y Y Y (EffX.storeSP (i := 0) (qv := [(_, [_, _, _, _]), (_, [_, _, _])]) hT Y Y Y Y Y Y Y Y Y Y) ?_
 rintro _ _ rfl
 apply Stg.next [] Y Y
 refine Stg.fin [] Y Y QAll.nil ?_
 replace H := H.self
 exact AtE.then_n ((HK16 _ b_8 _ H).pickP (ts := [12, 0, 1, 2, 3]) (is := [0]) Y Y (by decide) Y)
 refine EAll.cons ?_ EAll.nil
 refine EOp.e Y Y Y (EffX.allocP (cs := [_, _, _, _]) hT Y Y H) ?_
 rintro _ _ ⟨b_9, _, rfl, rfl, he32, H⟩
 replace hc20 := he32.cell hc20
 replace hc21 := he32.cells hc21
 apply Stg.next [(12, _)] Y Y
 refine Stg.go [0, 1, 2, 6, 8, 9, 10, 11, 12, 13, 14, 15] [5] Y Y (qp hT Y (qp hT Y (qq Y (lS hT 1 [_, _, _] Y Y Y Y Y Y Y Y) Y (qq Y (lS hT 1 [_, _, _] Y Y Y Y Y Y Y Y) Y (qp hT Y (qq Y (Quiet1.nilChk Y Y hc16) Y (qp hT Y (qq Y (Quiet1.load hT Y Y Y hc20) Y (qp hT Y (qq Y (Quiet1.idxS hT Y Y Y Y Y hc18 hd18) Y (qq Y (Quiet1.loadS hT Y Y Y Y hc21) Y (qp hT Y QAll.nil)))))))))))) ?_
 refine EAll.cons ?_ EAll.nil
 replace H := H.self
 refine EOp.e Y Y Y (cl (fun h => linear_Scale _ _ _ h _) H Y Tryz.call85 Y (fun w m hr hw => lift_linear_Scale _ _ _ w m hr _ hw)) ?_
 rintro _ _ ⟨v_26, h0u40, rfl, rfl, H⟩
 obtain ⟨hc33, H⟩ := H
 obtain ⟨hc34, H⟩ := H
 apply Stg.next [(56, _)] Y Y
 refine Stg.go [0, 6, 8, 9, 10, 11, 12, 13, 14, 15] [7] Y Y (qp hT Y (qq Y (lS hT 1 [_, _, _] Y Y Y Y Y Y Y Y) Y (qp hT Y (qq Y (Quiet1.nilChk Y Y hc16) Y (qp hT Y (qq Y (Quiet1.load hT Y Y Y hc33) Y (qp hT Y (qq Y (Quiet1.idxS hT Y Y Y Y Y hc18 hd18) Y (qq Y (Quiet1.loadS hT Y Y Y Y hc34) Y (qp hT Y QAll.nil)))))))))) ?_
 refine EAll.cons ?_ EAll.nil
 replace H := H.self
 refine EOp.e Y Y Y (cl (fun h => ratio_Neg _ h _) H Y Tryz.call87 Y (fun w m hr hw => lift_ratio_Neg _ w m hr _ hw)) ?_
 rintro _ _ ⟨v_27, h0u42, rfl, rfl, H⟩
 obtain ⟨hc35, H⟩ := H
 obtain ⟨hc36, H⟩ := H
 apply Stg.next [(58, _)] Y Y
 refine Stg.go [0, 8, 9, 10, 11, 12, 13, 14, 15] [16] Y Y (qp hT Y (qp hT Y (qq Y (Quiet1.nilChk Y Y hc16) Y (qp hT Y (qq Y (Quiet1.load hT Y Y Y hc35) Y (qp hT Y (qq Y (Quiet1.idxS hT Y Y Y Y Y hc18 hd18) Y (qq Y (Quiet1.loadS hT Y Y Y Y hc36) Y (qp hT Y QAll.nil))))))))) ?_
 refine EAll.cons ?_ EAll.nil
 replace H := H.self
 refine EOp.e Y Y Y (cl (fun h => tableau_without _ _ h _) H Y Tryz.call88 Y (fun w m hr hw => lift_tableau_without _ _ w m hr _ hw)) ?_
 rintro _ _ ⟨v_28, h0u44, rfl, rfl, H⟩
 apply Stg.next [(67, _)] Y Y
 refine Stg.go [0] [17] Y Y (qp hT Y QAll.nil) ?_
 refine EAll.cons ?_ EAll.nil
 replace H := H.self
 refine EOp.e Y Y Y (cl (fun h => linear_Add _ _ _ _ h _) H Y Tryz.call84 Y (fun w m hr hw => lift_linear_Add _ _ _ _ w m hr _ hw)) ?_
 rintro _ _ ⟨v_29, h0u46, rfl, rfl, H⟩
 apply Stg.next [(68, _)] Y Y
 refine Stg.go [] [19] Y Y QAll.nil ?_
 refine EAll.cons ?_ EAll.nil
 refine EOp.e Y Y Y (EffX.storeSP (i := 0) (qv := [(_, [_, _, _, _]), (_, [_, _, _])]) hT Y Y Y Y Y Y Y Y Y Y) ?_
 rintro _ _ rfl
 apply Stg.next [] Y Y
 refine Stg.fin [] Y Y QAll.nil ?_
 replace H := H.self
 exact AtE.then_n ((HK16 _ b_9 _ H).pickP (ts := [12, 0, 1, 2, 3]) (is := [0]) Y Y (by decide) Y)
 refine EAll.cons ?_ EAll.nil
 refine EOp.e Y Y Y (EffX.allocP (cs := [_, _, _, _]) hT Y Y H) ?_
 rintro _ _ ⟨b_10, _, rfl, rfl, he37, H⟩
 replace hc17 := he37.cell hc17
 replace hc19 := he37.cells hc19
 apply Stg.next [(12, _)] Y Y
 refine Stg.go [0, 1, 2, 3, 6, 8, 9, 10, 11, 12, 13, 14, 15] [4] Y Y (qp hT Y (qp hT Y (qq Y (lS hT 1 [_, _, _] Y Y Y Y Y Y Y Y) Y (qp hT Y (qq Y (lS hT 1 [_, _, _] Y Y Y Y Y Y Y Y) Y (qp hT Y (qq Y (Quiet1.nilChk Y Y hc16) Y (qp hT Y (qq Y (Quiet1.load hT Y Y Y hc17) Y (qp hT Y (qq Y (Quiet1.idxS hT Y Y Y Y Y hc18 hd18) Y (qq Y (Quiet1.loadS hT Y Y Y Y hc19) Y (qp hT Y QAll.nil))))))))))))) ?_
 refine EAll.cons ?_ EAll.nil
 replace H := H.self
 refine EOp.e Y Y Y (cl (fun h => linear_Of _ h _) H Y Tryz.call86 Y (fun w m hr hw => lift_linear_Of _ w m hr _ hw)) ?_
 rintro _ _ ⟨v_30, h0u48, rfl, rfl, H⟩
 obtain ⟨hc38, H⟩ := H
 obtain ⟨hc39, H⟩ := H
 apply Stg.next [(55, _)] Y Y
 refine Stg.go [0, 1, 2, 6, 8, 9, 10, 11, 12, 13, 14, 15] [5] Y Y (qp hT Y (qp hT Y (qq Y (lS hT 1 [_, _, _] Y Y Y Y Y Y Y Y) Y (qq Y (lS hT 1 [_, _, _] Y Y Y Y Y Y Y Y) Y (qp hT Y (qq Y (Quiet1.nilChk Y Y hc16) Y (qp hT Y (qq Y (Quiet1.load hT Y Y Y hc38) Y (qp hT Y (qq Y (Quiet1.idxS hT Y Y Y Y Y hc18 hd18) Y (qq Y (Quiet1.loadS hT Y Y Y Y hc39) Y (qp hT Y QAll.nil)))))))))))) ?_
 refine EAll.cons ?_ EAll.nil
 replace H := H.self
 refine EOp.e Y Y Y (cl (fun h => linear_Scale _ _ _ h _) H Y Tryz.call85 Y (fun w m hr hw => lift_linear_Scale _ _ _ w m hr _ hw)) ?_
 rintro _ _ ⟨v_31, h0u50, rfl, rfl, H⟩
 obtain ⟨hc40, H⟩ := H
 obtain ⟨hc41, H⟩ := H
 apply Stg.next [(56, _)] Y Y
 refine Stg.go [0, 6, 8, 9, 10, 11, 12, 13, 14, 15] [7] Y Y (qp hT Y (qq Y (lS hT 1 [_, _, _] Y Y Y Y Y Y Y Y) Y (qp hT Y (qq Y (Quiet1.nilChk Y Y hc16) Y (qp hT Y (qq Y (Quiet1.load hT Y Y Y hc40) Y (qp hT Y (qq Y (Quiet1.idxS hT Y Y Y Y Y hc18 hd18) Y (qq Y (Quiet1.loadS hT Y Y Y Y hc41) Y (qp hT Y QAll.nil)))))))))) ?_
 refine EAll.cons ?_ EAll.nil
 replace H := H.self
 refine EOp.e Y Y Y (cl (fun h => ratio_Neg _ h _) H Y Tryz.call87 Y (fun w m hr hw => lift_ratio_Neg _ w m hr _ hw)) ?_
 rintro _ _ ⟨v_32, h0u52, rfl, rfl, H⟩
 obtain ⟨hc42, H⟩ := H
 obtain ⟨hc43, H⟩ := H
 apply Stg.next [(58, _)] Y Y
 refine Stg.go [0, 8, 9, 10, 11, 12, 13, 14, 15] [16] Y Y (qp hT Y (qp hT Y (qq Y (Quiet1.nilChk Y Y hc16) Y (qp hT Y (qq Y (Quiet1.load hT Y Y Y hc42) Y (qp hT Y (qq Y (Quiet1.idxS hT Y Y Y Y Y hc18 hd18) Y (qq Y (Quiet1.loadS hT Y Y Y Y hc43) Y (qp hT Y QAll.nil))))))))) ?_
 refine EAll.cons ?_ EAll.nil
 replace H := H.self
 refine EOp.e Y Y Y (cl (fun h => tableau_without _ _ h _) H Y Tryz.call88 Y (fun w m hr hw => lift_tableau_without _ _ w m hr _ hw)) ?_
 rintro _ _ ⟨v_33, h0u54, rfl, rfl, H⟩
 apply Stg.next [(67, _)] Y Y
 refine Stg.go [0] [17] Y Y (qp hT Y QAll.nil) ?_
 refine EAll.cons ?_ EAll.nil
 replace H := H.self
 refine EOp.e Y Y Y (cl (fun h => linear_Add _ _ _ _ h _) H Y Tryz.call84 Y (fun w m hr hw => lift_linear_Add _ _ _ _ w m hr _ hw)) ?_
 rintro _ _ ⟨v_34, h0u56, rfl, rfl, H⟩
 apply Stg.next [(68, _)] Y Y
 refine Stg.go [] [19] Y Y QAll.nil ?_
 refine EAll.cons ?_ EAll.nil
 refine EOp.e Y Y Y (EffX.storeSP (i := 0) (qv := [(_, [_, _, _, _]), (_, [_, _, _])]) hT Y Y Y Y Y Y Y Y Y Y) ?_
 rintro _ _ rfl
 apply Stg.next [] Y Y
 refine Stg.fin [] Y Y QAll.nil ?_
 replace H := H.self
 exact AtE.then_n ((HK16 _ b_10 _ H).pickP (ts := [12, 0, 1, 2, 3]) (is := [0]) Y Y (by decide) Y)
 apply AtC.stages [1, 3, 4, 5] [[], [], [], [1], [], [1, 3, 4]] [[], [], [], [0, 1, 2], [], [0, 1, 2, 3, 4]] hmix (by kernel_rfl) [(47, _), (49, _)] Y 4 Y
 refine Stg.go [0, 2] [1, 4] Y Y (qp hT Y (qq Y (lS hT 0 [_, _, _] Y Y Y Y Y Y Y Y) Y QAll.nil)) ?_
 refine EAll.cons ?_ ?_
 replace H := H.self
 refine EOp.e Y Y Y (cl (fun h => ratio_Of _ h _) H Y Tryz.call12 Y (fun w m hr hw => lift_ratio_Of _ w m hr _ hw)) ?_
 rintro _ _ ⟨v_8, h0u6, rfl, rfl, H⟩
 apply Stg.next [(48, _)] Y Y
 refine Stg.go [0, 2] [3, 4] Y Y (qp hT Y (qq Y (lS hT 0 [_, _, _] Y Y Y Y Y Y Y Y) Y QAll.nil)) ?_
 refine EAll.cons ?_ ?_
 replace H := H.self
 refine EOp.e Y Y Y (cl (fun h => ratio_Div _ _ _ h _) H Y Tryz.call83 Y (fun w m hr hw => lift_ratio_Div _ _ _ w m hr _ hw)) ?_
 rintro _ _ ⟨v_9, h0u8, rfl, rfl, H⟩
 apply Stg.next [(50, _)] Y Y
 refine Stg.go [] [4] Y Y QAll.nil ?_
 refine EAll.cons ?_ EAll.nil
 refine EOp.e Y Y Y (EffX.allocP (cs := [_, _, _]) hT Y Y H) ?_
 rintro _ _ ⟨b_2, _, rfl, rfl, he12, H⟩
 apply Stg.next [(11, _)] Y Y
 refine Stg.go [] [5] Y Y QAll.nil ?_
 refine EAll.cons ?_ EAll.nil
 refine EOp.e Y Y Y (EffX.storeSP (i := 0) (qv := [(_, [_, _, _]), (_, [_, _, _])]) hT Y Y Y Y Y Y Y Y Y Y) ?_
 rintro _ _ rfl
 apply Stg.next [] Y Y
 refine Stg.fin [] Y Y QAll.nil ?_
 replace H := H.self
 exact AtE.then_n ((HK12 _ b_2 _ H).pickP (ts := [11, 0, 1, 2, 3, 10]) (is := [0]) Y Y (by decide) Y)
 refine EAll.cons ?_ EAll.nil
 refine EOp.e Y Y Y (EffX.allocP (cs := [_, _, _]) hT Y Y H) ?_
 rintro _ _ ⟨b_3, _, rfl, rfl, he13, H⟩
 apply Stg.next [(11, _)] Y Y
 refine Stg.go [0, 2] [3] Y Y (qp hT Y (qq Y (lS hT 1 [_, _, _] Y Y Y Y Y Y Y Y) Y QAll.nil)) ?_
 refine EAll.cons ?_ EAll.nil
 replace H := H.self
 refine EOp.e Y Y Y (cl (fun h => ratio_Div _ _ _ h _) H Y Tryz.call83 Y (fun w m hr hw => lift_ratio_Div _ _ _ w m hr _ hw)) ?_
 rintro _ _ ⟨v_10, h0u10, rfl, rfl, H⟩
 apply Stg.next [(50, _)] Y Y
 refine Stg.go [] [5] Y Y QAll.nil ?_
 refine EAll.cons ?_ EAll.nil
 refine EOp.e Y Y Y (EffX.storeSP (i := 0) (qv := [(_, [_, _, _]), (_, [_, _, _])]) hT Y Y Y Y Y Y Y Y Y Y) ?_
 rintro _ _ rfl
 apply Stg.next [] Y Y
 refine Stg.fin [] Y Y QAll.nil ?_
 replace H := H.self
 exact AtE.then_n ((HK12 _ b_3 _ H).pickP (ts := [11, 0, 1, 2, 3, 10]) (is := [0]) Y Y (by decide) Y)
 refine EAll.cons ?_ EAll.nil
 refine EOp.e Y Y Y (EffX.allocP (cs := [_, _, _]) hT Y Y H) ?_
 rintro _ _ ⟨b_4, _, rfl, rfl, he14, H⟩
 apply Stg.next [(11, _)] Y Y
 refine Stg.go [0, 2] [1] Y Y (qp hT Y (qq Y (lS hT 1 [_, _, _] Y Y Y Y Y Y Y Y) Y QAll.nil)) ?_
 refine EAll.cons ?_ EAll.nil
 replace H := H.self
 refine EOp.e Y Y Y (cl (fun h => ratio_Of _ h _) H Y Tryz.call12 Y (fun w m hr hw => lift_ratio_Of _ w m hr _ hw)) ?_
 rintro _ _ ⟨v_11, h0u12, rfl, rfl, H⟩
 apply Stg.next [(48, _)] Y Y
 refine Stg.go [0, 2] [3] Y Y (qp hT Y (qq Y (lS hT 1 [_, _, _] Y Y Y Y Y Y Y Y) Y QAll.nil)) ?_
 refine EAll.cons ?_ EAll.nil
 replace H := H.self
 refine EOp.e Y Y Y (cl (fun h => ratio_Div _ _ _ h _) H Y Tryz.call83 Y (fun w m hr hw => lift_ratio_Div _ _ _ w m hr _ hw)) ?_
 rintro _ _ ⟨v_12, h0u14, rfl, rfl, H⟩
 apply Stg.next [(50, _)] Y Y
 refine Stg.go [] [5] Y Y QAll.nil ?_
 refine EAll.cons ?_ EAll.nil
 refine EOp.e Y Y Y (EffX.storeSP (i := 0) (qv := [(_, [_, _, _]), (_, [_, _, _])]) hT Y Y Y Y Y Y Y Y Y Y) ?_
 rintro _ _ rfl
 apply Stg.next [] Y Y
 refine Stg.fin [] Y Y QAll.nil ?_
 replace H := H.self
 exact AtE.then_n ((HK12 _ b_4 _ H).pickP (ts := [11, 0, 1, 2, 3, 10]) (is := [0]) Y Y (by decide) Y)
 refine AtC.region (pu hT 3 Y ?_)
 refine AtL.splitB (t := 19) H Y (fun H => ?_) (fun H => ?_)
 refine nf Y (nf Y (nf Y (nf Y (nf Y (nf Y ?_)))))
 refine nf Y (pu hT 1 Y (AtL.nil ?_))
 exact AtE.then_n ((HK1 _ () _ H).pickP (ts := [27, 0, 1, 2, 3]) (is := []) Y Y (by decide) Y)
 refine ys Y (pu hT 1 Y (ys Y (pu hT 1 Y (ys Y ?_))))
 obtain ⟨a, hc1, H⟩ := H
 refine AtL.q Y (Quiet1.nilChk Y Y hc1) (ys Y (pu hT 1 Y (ys Y ?_)))
 obtain ⟨v_1, hc2, H⟩ := H
 refine AtL.q Y (Quiet1.load hT Y Y Y hc2) (ys Y (pu hT 1 Y (ys Y (pu hT 1 Y (pu hT 1 Y ?_)))))
 refine AtL.nil ?_
 exact AtE.then_n ((HK1 _ () _ H).pickP (ts := [27, 0, 1, 2, 3]) (is := []) Y Y (by decide) Y)
theorem lift_slices_Reverse_byte_byte (s0 : Sl) (w : World) (m : Heap) (hr : Rel ⟨m, []⟩ w.heap) (S : Unit → Heap → Prop) (H : slices_Reverse_byte_byte s0 m S) :
 Calls Tryz.prog 158 #[Sl.toV s0] w (Post ⟨w, m⟩ (fun _ => Value.tuple #[]) S) := by
 refine Calls.lift (args := [Sl.toV s0]) Tryz.func158 Y Tryz.ntmps158 (Nat.le_of_ble_eq_true Y) hr (slices_Reverse_byte_byte s0 m S) H (fun H => ?_)
 refine AtC.pick (ts := [0]) Y ?_
 unfold slices_Reverse_byte_byte at H
 refine sR (pu hT 5 Y ?_)
 replace H := H _ rfl
 refine ng (AtC.block ?_)
 refine AtC.loopM (fun (s0u1 : Int × Int) => [(2, Value.int .i64 s0u1.1), (3, Value.int .i64 s0u1.2)]) (fun (s0u1 : Int × Int) => []) [0] [2, 3, 0] [] [] H Y Y Y (by decide) Y (fun Kp1 s0u1 h0 H Q1 HK1 => ?_)
 refine AtC.seq (sR (pu hT 3 Y (ng ?_)))
 refine AtC.condB H Y (fun H => ?_) (fun H => ?_)
 refine AtC.skip (tg (AtC.seq (AtC.block ?_)))
 obtain ⟨a_, hc1, hd1, H⟩ := H
 obtain ⟨v, hc2, H⟩ := H
 obtain ⟨a_1_, hc3, hd3, H⟩ := H
 obtain ⟨v_1, hc4, H⟩ := H
 obtain ⟨a_2_, hc5, hd5, H⟩ := H
 apply AtC.stages [13, 15] [[], [], [], [], [], [], [], [], [], [], [], [], [], [], [13], [13]] [[], [], [], [], [], [], [4, 5], [4, 5, 6], [], [], [8, 9], [8, 9, 10], [0, 1, 4, 5, 6, 7, 8, 9, 10, 11], [0, 1, 4, 5, 6, 7, 8, 9, 10, 11, 12], [0, 1, 2, 3, 4, 5, 6, 7, 8, 9, 10, 11, 12, 13], [0, 1, 2, 3, 4, 5, 6, 7, 8, 9, 10, 11, 12, 13, 14]] hmix (by kernel_rfl) [(14, _), (15, _), (16, _), (17, _), (18, _), (19, _), (20, _), (21, _), (22, _), (23, _), (24, _), (25, _), (26, _)] Y 2 Y
 refine Stg.go [0, 1, 2, 3, 4, 5, 6, 7, 8, 9, 10, 11, 12] [13] Y Y (qp hT Y (qp hT Y (qp hT Y (qp hT Y (qp hT Y (qp hT Y (qq Y (Quiet1.idxS hT Y Y Y Y Y hc1 hd1) Y (qq Y (Quiet1.load hT Y Y Y hc2) Y (qp hT Y (qp hT Y (qq Y (Quiet1.idxS hT Y Y Y Y Y hc3 hd3) Y (qq Y (Quiet1.load hT Y Y Y hc4) Y (qq Y (Quiet1.idxS hT Y Y Y Y Y hc5 hd5) Y QAll.nil))))))))))))) ?_
 refine EAll.cons ?_ EAll.nil
 refine EOp.e Y Y Y (EffX.store hT Y Y Y Y Y H) ?_
 rintro _ _ ⟨h0u1, rfl, H⟩
 obtain ⟨a_3_, hc6, hd6, H⟩ := H
 apply Stg.next [(27, _)] Y Y
 refine Stg.go [2, 3, 14] [15] Y Y (qp hT Y (qp hT Y (qq Y (Quiet1.idxS hT Y Y Y Y Y hc6 hd6) Y QAll.nil))) ?_
 refine EAll.cons ?_ EAll.nil
 refine EOp.e Y Y Y (EffX.store hT Y Y Y Y Y H) ?_
 rintro _ _ ⟨h0u2, rfl, H⟩
 apply Stg.next [] Y Y
 refine Stg.fin [] Y Y QAll.nil (AtE.blk_n (tg (AtC.region (pu hT 6 Y ?_))))
 replace H := H _ rfl
 replace H := H _ rfl
 refine AtL.nil ?_
 exact AtE.then_n ((HK1 _ _ H).pickP (ts := [2, 3, 0]) (is := []) Y Y (by decide) Y)
 refine AtC.exit (AtE.then_x (AtE.then_x (AtE.blk_hit ?_)))
 exact AtE.endN Y Y H
theorem lift_nat_Text (x0 : Sl) (w : World) (m : Heap) (hr : Rel ⟨m, []⟩ w.heap) (S : ByteArray → Heap → Prop) (H : nat_Text x0 m S) :
 Calls Tryz.prog 121 #[Sl.toV x0] w (Post ⟨w, m⟩ Value.string S) := by
 refine Calls.lift (args := [Sl.toV x0]) Tryz.func121 Y Tryz.ntmps121 (Nat.le_of_ble_eq_true Y) hr (nat_Text x0 m S) H (fun H => ?_)
 refine AtC.pick (ts := [0]) Y ?_
 unfold nat_Text at H
 refine sR (pu hT 1 Y (ng (sR (pu hT 1 Y (ng ?_)))))
 refine AtC.seq (sR (pu hT 1 Y (AtL.e Y (cl (fun h => nat_trim _ h _) H Y Tryz.call116 Y (fun w m hr hw => lift_nat_trim _ w m hr _ hw)) ?_)))
 rintro _ _ ⟨v, h0, rfl, rfl, H⟩
 refine pu hT 1 Y (ng (AtC.block ?_))
 refine AtC.loopM (fun (s0 : Sl × Sl) => [(0, Sl.toV s0.1), (3, Sl.toV s0.2)]) (fun (s0 : Sl × Sl) => []) [] [0, 3] [] [] H Y Y Y (by decide) Y (fun Kp1 s0 h0u1 H Q1 HK1 => ?_)
 refine AtC.seq (sR (pu hT 3 Y (ng ?_)))
 refine AtC.condB H Y (fun H => ?_) (fun H => ?_)
 refine AtC.skip (tg (AtC.block (sR (pu hT 1 Y ?_))))
 refine AtLX.bs (hT := hT) (cs := [_]) H Y Y Y Y Y Y Y Y Y (fun a h0u2 H => ?_)
 refine AtL.e Y (cl (fun h => nat_divide _ _ h _) H Y Tryz.call156 Y (fun w m hr hw => lift_nat_divide _ _ w m hr _ hw)) ?_
 rintro _ _ ⟨v_2, h0u3, rfl, rfl, H⟩
 refine pu hT 5 Y (ng (sR (pu hT 1 Y (AtL.e Y (cl (fun h => nat_small _ h _) H Y Tryz.call157 Y (fun w m hr hw => lift_nat_small _ w m hr _ hw)) ?_))))
 rintro _ _ ⟨v_3, h0u4, rfl, rfl, H⟩
 refine pu hT 5 Y (ng (AtC.seq (sR (pu hT 1 Y (ng ?_)))))
 refine AtC.block ?_
 refine AtC.loopM (fun (s0u1 : Sl × Int × Int) => [(3, Sl.toV s0u1.1), (6, Value.int .u64 s0u1.2.1), (8, Value.int .i64 s0u1.2.2)]) (fun (s0u1 : Sl × Int × Int) => []) [4] [3, 6, 8, 4] [] [] H Y Y Y (by decide) Y (fun Kp2 s0u1 h0u5 H Q2 HK2 => ?_)
 refine AtC.seq ?_
 refine AtC.joinSeq (β := Unit) (fun (t0 : Bool) (bb : Unit) => [(35, Value.bool t0)]) (fun (t0 : Bool) (bb : Unit) => []) [3, 4, 6, 8] [] H Y Y (fun t0 bb h0u6 H => ?_) (fun J3 H HK3 => ?_)
 refine AtC.condB H Y (fun H => ?_) (fun H => ?_)
 refine AtC.skip (tg (AtC.seq (AtC.block (sR (pu hT 5 Y ?_)))))
 refine AtLX.bs (hT := hT) (cs := [_]) H Y Y Y Y Y Y Y Y Y (fun a_1 h0u7 H => ?_)
 refine AtL.e Y (EffX.appendS (s := _) (u := _) hT Y Y Y Y Y Y Y Y Y Y (by decide) H) ?_
 rintro _ _ ⟨v_5, h0u8, rfl, rfl, H⟩
 refine pu hT 1 Y (ng (AtC.region (pu hT 3 Y ?_)))
 replace H := H _ rfl
 refine AtL.nil (AtE.blk_n (tg (AtC.region (pu hT 3 Y ?_))))
 replace H := H _ rfl
 refine AtL.nil ?_
 exact AtE.then_n ((HK2 _ _ H).pickP (ts := [3, 6, 8, 4]) (is := []) Y Y (by decide) Y)
 refine AtC.exit (AtE.then_x (AtE.then_x (AtE.blk_hit (tg (AtC.region ?_)))))
 refine pu hT 2 Y (AtL.nil (AtE.blk_n ?_))
 exact AtE.then_n ((HK1 _ _ H).pickP (ts := [0, 3]) (is := []) Y Y (by decide) Y)
 refine AtC.region (pu hT 3 Y ?_)
 refine AtL.splitB (t := 27) H Y (fun H => ?_) (fun H => ?_)
 refine ys Y (pu hT 1 Y (ys Y (pu hT 1 Y (ys Y (pu hT 1 Y ?_)))))
 refine ys Y (pu hT 1 Y ?_)
 refine AtL.splitB (t := 31) H Y (fun H => ?_) (fun H => ?_)
 refine nf Y (nf Y (ys Y (pu hT 1 Y (pu hT 1 Y (AtL.nil ?_)))))
 exact AtE.then_n ((HK3 _ () _ H).pickP (ts := [35, 3, 4, 6, 8]) (is := []) Y Y (by decide) Y)
 refine ys Y (pu hT 1 Y (ys Y (pu hT 1 Y (ys Y (pu hT 1 Y ?_)))))
 refine pu hT 1 Y (AtL.nil ?_)
 exact AtE.then_n ((HK3 _ () _ H).pickP (ts := [35, 3, 4, 6, 8]) (is := []) Y Y (by decide) Y)
 refine nf Y (nf Y (nf Y (nf Y (AtL.noU Y Y Y Y (AtL.noU Y Y Y Y ?_)))))
 refine nf Y (pu hT 1 Y (AtL.nil ?_))
 exact AtE.then_n ((HK3 _ () _ H).pickP (ts := [35, 3, 4, 6, 8]) (is := []) Y Y (by decide) Y)
 refine AtC.exit (AtE.then_x (AtE.then_x (AtE.blk_hit (tg (AtC.seq ?_)))))
 refine sR (pu hT 3 Y (ng ?_))
 refine AtC.condB H Y (fun H => ?_) (fun H => ?_)
 refine sR (pu hT 1 Y (ng (AtC.ret (AtE.then_r ?_))))
 exact r1 2 Y Y Y H
 refine AtC.skip (tg (sR (pu hT 1 Y (AtL.e Y (cl (fun h => slices_Reverse_byte_byte _ h _) H Y Tryz.call158 Y (fun w m hr hw => lift_slices_Reverse_byte_byte _ w m hr _ hw)) ?_))))
 rintro _ _ ⟨v_6, h0u9, rfl, rfl, H⟩
 refine ng (sR (pu hT 1 Y ?_))
 obtain ⟨v_7_, hc3, H⟩ := H
 refine AtL.q Y (Quiet1.strOf (s := _) hT Y Y Y Y Y hc3) (pu hT 1 Y (ng (AtC.ret ?_)))
 exact r1 2 Y Y Y H
theorem lift_ratio_Text (x0 : Bool × Sl × Sl) (w : World) (m : Heap) (hr : Rel ⟨m, []⟩ w.heap) (S : ByteArray → Heap → Prop) (H : ratio_Text x0 m S) :
 Calls Tryz.prog 53 #[Value.agg (C_bool_sl_sl x0).toArray] w (Post ⟨w, m⟩ Value.string S) := by
 refine Calls.lift (args := [Value.agg (C_bool_sl_sl x0).toArray]) Tryz.func53 Y Tryz.ntmps53 (Nat.le_of_ble_eq_true Y) hr (ratio_Text x0 m S) H (fun H => ?_)
 refine AtC.pick (ts := [0]) Y ?_
 unfold ratio_Text at H
 refine sR (AtL.e Y (EffX.boxP (cs := [_, _, _]) Y Y Y H) ?_)
 rintro _ _ ⟨b, _, rfl, rfl, _, H⟩
 replace H := H.self
 refine pu hT 1 Y (ng (sR (pu hT 2 Y (AtL.q Y (lP hT 0 Y) (AtL.e Y (cl (fun h => nat_Text _ h _) H Y Tryz.call121 Y (fun w m hr hw => lift_nat_Text _ w m hr _ hw)) ?_)))))
 rintro _ _ ⟨v, h0u1, rfl, rfl, H⟩
 refine pu hT 1 Y (ng ?_)
 refine AtC.joinSeq (β := Unit) (fun (t0 : ByteArray) (bb : Unit) => [(3, Value.string t0)]) (fun (t0 : ByteArray) (bb : Unit) => []) [1] [0] H Y Y (fun t0 bb h0u2 H => ?_) (fun J1 H HK1 => ?_)
 refine AtC.joinSeq (β := Unit) (fun (t0u1 : ByteArray) (bb_1 : Unit) => [(3, Value.string t0u1)]) (fun (t0u1 : ByteArray) (bb_1 : Unit) => []) [] [] H Y Y (fun t0u1 bb_1 h0u3 H => ?_) (fun J3 H HK3 => ?_)
 refine sR (pu hT 2 Y (ng (AtC.ret ?_)))
 exact r1 2 Y Y Y H
 refine sR (pu hT 1 Y (AtL.q Y (lP hT 0 Y) (pu hT 2 Y (ng ?_))))
 refine AtC.condB H Y (fun H => ?_) (fun H => ?_)
 refine AtC.region (pu hT 2 Y (AtL.q Y (lP hT 0 Y) (AtL.e Y (cl (fun h => nat_Text _ h _) H Y Tryz.call121 Y (fun w m hr hw => lift_nat_Text _ w m hr _ hw)) ?_)))
 rintro _ _ ⟨v_1, h0u4, rfl, rfl, H⟩
 obtain ⟨hd3, H⟩ := H
 refine AtL.q Y (Quiet1.concat Y Y Y hd3) ?_
 obtain ⟨hd4, H⟩ := H
 refine AtL.q Y (Quiet1.concat Y Y Y hd4) (pu hT 1 Y ?_)
 replace H := H _ rfl
 refine AtL.nil ?_
 exact AtE.then_n ((HK3 _ () _ H).pickP (ts := [3]) (is := []) Y Y (by decide) Y)
 refine AtC.skip ?_
 exact AtE.then_n ((HK3 _ () _ H).pickP (ts := [3]) (is := []) Y Y (by decide) Y)
 refine sR (pu hT 2 Y (AtL.q Y (lP hT 0 Y) (ng ?_)))
 refine AtC.condB H Y (fun H => ?_) (fun H => ?_)
 refine AtC.region (pu hT 1 Y ?_)
 obtain ⟨hd1, H⟩ := H
 refine AtL.q Y (Quiet1.concat Y Y Y hd1) (pu hT 1 Y ?_)
 replace H := H _ rfl
 refine AtL.nil ?_
 exact AtE.then_n ((HK1 _ () _ H).pickP (ts := [3, 1]) (is := [0]) Y Y (by decide) Y)
 refine AtC.skip ?_
 exact AtE.then_n ((HK1 _ () _ H).pickP (ts := [3, 1]) (is := [0]) Y Y (by decide) Y)
theorem lift_law14uspeaks (w : World) (m : Heap) (hr : Rel ⟨m, []⟩ w.heap) (S : Bool → Heap → Prop) (H : law14uspeaks m S) :
 Calls Tryz.prog 17 #[] w (Post ⟨w, m⟩ Value.bool S) := by
 refine Calls.lift (args := []) Tryz.func17 Y Tryz.ntmps17 (Nat.le_of_ble_eq_true Y) hr (law14uspeaks m S) H (fun H => ?_)
 refine AtC.pick (ts := []) Y ?_
 unfold law14uspeaks at H
 refine sR (pu hT 1 Y (ng (sR (AtL.e Y (cl (fun h => law14uone h _) H Y Tryz.call52 Y (fun w m hr hw => lift_law14uone  w m hr _ hw)) ?_))))
 rintro _ _ ⟨v, h0, rfl, rfl, H⟩
 refine AtL.e Y (cl (fun h => tableau_New _ h _) H Y Tryz.call26 Y (fun w m hr hw => lift_tableau_New _ w m hr _ hw)) ?_
 rintro _ _ ⟨v_1, h0u1, rfl, rfl, H⟩
 refine AtL.e Y (EffX.alloc hT Y Y H) ?_
 rintro _ _ ⟨t0, h0u2, rfl, rfl, H⟩
 refine AtL.e Y (EffX.storeS hT Y Y Y Y Y Y H) ?_
 rintro _ _ ⟨h0u3, rfl, H⟩
 refine ng (sR (AtL.e Y (cl (fun h => nat_New _ h _) H Y Tryz.call25 Y (fun w m hr hw => lift_nat_New _ w m hr _ hw)) ?_))
 rintro _ _ ⟨v_2, h0u4, rfl, rfl, H⟩
 refine AtL.e Y (cl (fun h => tableau_Pivot _ _ _ _ h _) H Y Tryz.call29 Y (fun w m hr hw => lift_tableau_Pivot _ _ _ _ w m hr _ hw)) ?_
 rintro _ _ ⟨v_3, h0u5, rfl, rfl, H⟩
 refine pu hT 1 Y (ng ?_)
 refine AtC.joinSeq (β := Unit) (fun (t0u1 : Bool) (bb : Unit) => [(0, Value.bool t0u1)]) (fun (t0u1 : Bool) (bb : Unit) => []) [] [] H Y Y (fun t0u1 bb h0u6 H => ?_) (fun J1 H HK1 => ?_)
 refine AtC.ret ?_
 exact r1 0 Y Y Y H
 refine AtC.region (pu hT 3 Y ?_)
 refine AtL.splitB (t := 9) H Y (fun H => ?_) (fun H => ?_)
 refine ys Y (pu hT 1 Y (ys Y ?_))
 obtain ⟨v_4, hc1, H⟩ := H
 refine AtL.q Y (Quiet1.load hT Y Y Y hc1) (ys Y (pu hT 1 Y (ys Y (pu hT 1 Y (pu hT 2 Y ?_)))))
 refine AtL.splitB (t := 15) H Y (fun H => ?_) (fun H => ?_)
 refine ys Y (pu hT 1 Y (ys Y ?_))
 obtain ⟨v_5, hc2, H⟩ := H
 refine AtL.q Y (Quiet1.load hT Y Y Y hc2) (ys Y ?_)
 obtain ⟨a_, hc3, hd3, H⟩ := H
 refine AtL.q Y (Quiet1.idxS hT Y Y Y Y Y hc3 hd3) (ys Y (pu hT 1 Y (ys Y ?_)))
 obtain ⟨v_6, hc4, H⟩ := H
 refine AtL.q Y (Quiet1.load hT Y Y Y hc4) (ys Y (pu hT 1 Y (ys Y (pu hT 1 Y (pu hT 2 Y ?_)))))
 refine AtL.splitB (t := 24) H Y (fun H => ?_) (fun H => ?_)
 refine ys Y (pu hT 1 Y (ys Y ?_))
 obtain ⟨v_7, hc5, H⟩ := H
 refine AtL.q Y (Quiet1.load hT Y Y Y hc5) (ys Y ?_)
 obtain ⟨a_1_, hc6, hd6, H⟩ := H
 refine AtL.q Y (Quiet1.idxS hT Y Y Y Y Y hc6 hd6) (ys Y (pu hT 1 Y (ys Y ?_)))
 obtain ⟨v_8, hc7, H⟩ := H
 refine AtL.q Y (Quiet1.load hT Y Y Y hc7) (ys Y ?_)
 obtain ⟨a_2_, hc8, hd8, H⟩ := H
 refine AtL.q Y (Quiet1.idxS hT Y Y Y Y Y hc8 hd8) (ys Y (pu hT 1 Y (ys Y ?_)))
 obtain ⟨v_9, hc9, H⟩ := H
 refine AtL.q Y (Quiet1.loadS hT Y Y Y Y hc9) (ys Y (AtL.e Y (cl (fun h => ratio_Text _ h _) H Y Tryz.call53 Y (fun w m hr hw => lift_ratio_Text _ w m hr _ hw)) ?_))
 rintro _ _ ⟨v_10, h0u7, rfl, rfl, H⟩
 refine ys Y (pu hT 1 Y (pu hT 2 Y ?_))
 refine AtL.splitB (t := 36) H Y (fun H => ?_) (fun H => ?_)
 refine ys Y (pu hT 1 Y (ys Y ?_))
 obtain ⟨v_11, hc10, H⟩ := H
 refine AtL.q Y (Quiet1.load hT Y Y Y hc10) (ys Y ?_)
 obtain ⟨a_3_, hc11, hd11, H⟩ := H
 refine AtL.q Y (Quiet1.idxS hT Y Y Y Y Y hc11 hd11) (ys Y ?_)
 obtain ⟨v_12, hc12, H⟩ := H
 refine AtL.q Y (Quiet1.load hT Y Y Y hc12) (ys Y (pu hT 1 Y (pu hT 2 Y (AtL.nil ?_))))
 exact AtE.then_n ((HK1 _ () _ H).pickP (ts := [0]) (is := []) Y Y (by decide) Y)
 refine nf Y (nf Y (nf Y (nf Y (nf Y (pu hT 2 Y ?_)))))
 refine AtL.nil ?_
 exact AtE.then_n ((HK1 _ () _ H).pickP (ts := [0]) (is := []) Y Y (by decide) Y)
 refine nf Y (nf Y (nf Y (nf Y (nf Y (nf Y ?_)))))
 refine nf Y (nf Y (nf Y (nf Y (pu hT 2 Y (nf Y ?_)))))
 refine nf Y (nf Y (nf Y (nf Y (pu hT 2 Y (AtL.nil ?_)))))
 exact AtE.then_n ((HK1 _ () _ H).pickP (ts := [0]) (is := []) Y Y (by decide) Y)
 refine nf Y (nf Y (nf Y (nf Y (nf Y (nf Y ?_)))))
 refine nf Y (pu hT 2 Y (nf Y (nf Y (nf Y (nf Y ?_)))))
 refine nf Y (nf Y (nf Y (nf Y (nf Y (nf Y ?_)))))
 refine pu hT 2 Y (nf Y (nf Y (nf Y (nf Y (nf Y ?_)))))
 refine pu hT 2 Y (AtL.nil ?_)
 exact AtE.then_n ((HK1 _ () _ H).pickP (ts := [0]) (is := []) Y Y (by decide) Y)
 refine nf Y (nf Y (nf Y (nf Y (pu hT 2 Y (nf Y ?_)))))
 refine nf Y (nf Y (nf Y (nf Y (nf Y (nf Y ?_)))))
 refine pu hT 2 Y (nf Y (nf Y (nf Y (nf Y (nf Y ?_)))))
 refine nf Y (nf Y (nf Y (nf Y (nf Y (pu hT 2 Y ?_)))))
 refine nf Y (nf Y (nf Y (nf Y (nf Y (pu hT 2 Y ?_)))))
 refine AtL.nil ?_
 exact AtE.then_n ((HK1 _ () _ H).pickP (ts := [0]) (is := []) Y Y (by decide) Y)
theorem lift_law02uGreat (l : Sl) (w : World) (m : Heap) (hr : Rel ⟨m, []⟩ w.heap) (S : Bool → Heap → Prop) (H : law02uGreat l m S) :
 Calls Tryz.prog 10 #[Sl.toV l] w (Post ⟨w, m⟩ Value.bool S) := by
 refine Calls.lift (args := [Sl.toV l]) Tryz.func10 Y Tryz.ntmps10 (Nat.le_of_ble_eq_true Y) hr (law02uGreat l m S) H (fun H => ?_)
 refine AtC.pick (ts := [0]) Y ?_
 unfold law02uGreat at H
 refine sR (pu hT 1 Y (ng (AtC.seq (sR (pu hT 3 Y ?_)))))
 refine ng (AtC.block ?_)
 refine AtC.loopM (fun (s0 : Int) => [(7, Value.int .i64 s0)]) (fun (s0 : Int) => []) [5, 6] [7, 5, 6] [] [] H Y Y Y (by decide) Y (fun Kp1 s0 h0 H Q1 HK1 => ?_)
 refine sR (pu hT 1 Y (ng (AtC.seq ?_)))
 refine AtC.condB H Y (fun H => ?_) (fun H => ?_)
 refine AtC.skip (tg (AtC.seq (AtC.block (sR ?_))))
 obtain ⟨a_, hc1, hd1, H⟩ := H
 refine AtL.q Y (Quiet1.idxS hT Y Y Y Y Y hc1 hd1) ?_
 obtain ⟨v, hc2, H⟩ := H
 refine AtL.q Y (Quiet1.loadS hT Y Y Y Y hc2) (AtL.e Y (EffX.allocP (cs := [_, _, _]) hT Y Y H) ?_)
 rintro _ _ ⟨b, _, rfl, rfl, _, H⟩
 replace H := H.self
 refine AtL.e Y (EffX.storeSP (i := 0) (qv := [(_, [_, _, _])]) hT Y Y Y Y Y Y Y Y Y Y) ?_
 rintro _ _ rfl
 refine ng ?_
 refine AtC.joinSeq (β := Unit) (fun (t0 : Bool) (bb : Unit) => [(21, Value.bool t0)]) (fun (t0 : Bool) (bb : Unit) => []) [5, 6, 7] [] H Y Y (fun t0 bb h0u2 H => ?_) (fun J4 H HK4 => ?_)
 refine AtC.condB H Y (fun H => ?_) (fun H => ?_)
 refine sR (pu hT 1 Y (ng (AtC.ret (AtE.blk_r (AtE.then_r ?_)))))
 refine AtE.then_r (AtE.blk_r (AtE.then_r ?_))
 exact r1 2 Y Y Y H
 refine AtC.skip (AtE.blk_n (tg (AtC.region (pu hT 2 Y (AtL.nil ?_)))))
 exact AtE.then_n ((HK1 _ _ H).pickP (ts := [7, 5, 6]) (is := []) Y Y (by decide) Y)
 refine AtC.region (pu hT 2 Y (AtL.q Y (lP hT 0 Y) (pu hT 3 Y ?_)))
 refine AtL.splitB (t := 16) H Y (fun H => ?_) (fun H => ?_)
 refine nf Y (nf Y (nf Y (nf Y (pu hT 1 Y (AtL.nil ?_)))))
 exact AtE.then_n ((HK4 _ () _ H).pickP (ts := [21, 5, 6, 7]) (is := []) Y Y (by decide) Y)
 refine ys Y (pu hT 1 Y (ys Y (AtL.q Y (lP hT 0 Y) (ys Y (pu hT 1 Y ?_)))))
 refine ys Y (pu hT 1 Y (pu hT 1 Y (AtL.nil ?_)))
 exact AtE.then_n ((HK4 _ () _ H).pickP (ts := [21, 5, 6, 7]) (is := []) Y Y (by decide) Y)
 refine AtC.exit (AtE.then_x (AtE.then_x (AtE.blk_hit (tg (sR ?_)))))
 refine pu hT 1 Y (ng (AtC.ret ?_))
 exact r1 2 Y Y Y H
theorem lift_ref01uCut (x0 : Sl) (w : World) (m : Heap) (hr : Rel ⟨m, []⟩ w.heap) (S : Sl → Heap → Prop) (H : ref01uCut x0 m S) :
 Calls Tryz.prog 142 #[Sl.toV x0] w (Post ⟨w, m⟩ Sl.toV S) := by
 refine Calls.lift (args := [Sl.toV x0]) Tryz.func142 Y Tryz.ntmps142 (Nat.le_of_ble_eq_true Y) hr (ref01uCut x0 m S) H (fun H => ?_)
 refine AtC.pick (ts := [0]) Y ?_
 unfold ref01uCut at H
 refine sR (pu hT 1 Y (ng (sR (pu hT 3 Y ?_))))
 replace H := H _ rfl
 refine ng (AtC.seq (AtC.block ?_))
 refine AtC.loopM (fun (s0 : Int) => [(3, Value.int .i64 s0)]) (fun (s0 : Int) => []) [0] [3, 0] [] [] H Y Y Y (by decide) Y (fun Kp1 s0 h0 H Q1 HK1 => ?_)
 refine AtC.seq ?_
 refine AtC.joinSeq (β := Unit) (fun (t0 : Bool) (bb : Unit) => [(15, Value.bool t0)]) (fun (t0 : Bool) (bb : Unit) => []) [0, 3] [] H Y Y (fun t0 bb h0u1 H => ?_) (fun J2 H HK2 => ?_)
 refine AtC.condB H Y (fun H => ?_) (fun H => ?_)
 refine AtC.skip (tg (AtC.block (AtC.region (pu hT 3 Y ?_))))
 replace H := H _ rfl
 refine AtL.nil (AtE.blk_n ?_)
 exact AtE.then_n ((HK1 _ _ H).pickP (ts := [3, 0]) (is := []) Y Y (by decide) Y)
 refine AtC.exit (AtE.then_x (AtE.then_x (AtE.blk_hit (tg (sR ?_)))))
 refine pu hT 2 Y ?_
 refine AtL.sl (hT := hT) H Y Y Y Y Y Y Y (fun h => by cases h <;> rfl) Y (fun v_1 H => ?_)
 refine pu hT 1 Y (ng (AtC.ret ?_))
 exact r1 2 Y Y Y H
 refine AtC.region (pu hT 3 Y ?_)
 refine AtL.splitB (t := 8) H Y (fun H => ?_) (fun H => ?_)
 refine ys Y (pu hT 1 Y (ys Y (pu hT 1 Y (ys Y (pu hT 1 Y ?_)))))
 refine ys Y ?_
 obtain ⟨a_, hc2, hd2, H⟩ := H
 refine AtL.q Y (Quiet1.idxS hT Y Y Y Y Y hc2 hd2) (ys Y ?_)
 obtain ⟨v, hc3, H⟩ := H
 refine AtL.q Y (Quiet1.load hT Y Y Y hc3) (ys Y (pu hT 1 Y (pu hT 1 Y (AtL.nil ?_))))
 exact AtE.then_n ((HK2 _ () _ H).pickP (ts := [15, 0, 3]) (is := []) Y Y (by decide) Y)
 refine nf Y (nf Y (nf Y (nf Y (nf Y (nf Y ?_)))))
 refine pu hT 1 Y (AtL.nil ?_)
 exact AtE.then_n ((HK2 _ () _ H).pickP (ts := [15, 0, 3]) (is := []) Y Y (by decide) Y)
theorem lift_ref01uOf (x0 : Sl) (w : World) (m : Heap) (hr : Rel ⟨m, []⟩ w.heap) (S : Sl → Heap → Prop) (H : ref01uOf x0 m S) :
 Calls Tryz.prog 96 #[Sl.toV x0] w (Post ⟨w, m⟩ Sl.toV S) := by
 refine Calls.lift (args := [Sl.toV x0]) Tryz.func96 Y Tryz.ntmps96 (Nat.le_of_ble_eq_true Y) hr (ref01uOf x0 m S) H (fun H => ?_)
 refine AtC.pick (ts := [0]) Y ?_
 unfold ref01uOf at H
 refine sR (pu hT 1 Y (ng (sR ?_)))
 refine AtLX.bs (hT := hT) (cs := []) H Y Y Y Y Y Y Y Y Y (fun a h0 H => ?_)
 refine pu hT 1 Y ?_
 replace H := H _ rfl
 refine ng (AtC.seq (sR (pu hT 4 Y ?_)))
 replace H := H _ rfl
 refine ng (AtC.block ?_)
 refine AtC.loopM (fun (s0 : Sl × Int) => [(3, Sl.toV s0.1), (4, Value.int .i64 s0.2)]) (fun (s0 : Sl × Int) => []) [0] [3, 4, 0] [] [] H Y Y Y (by decide) Y (fun Kp1 s0 h0u1 H Q1 HK1 => ?_)
 refine AtC.seq (sR (pu hT 2 Y (ng ?_)))
 refine AtC.condB H Y (fun H => ?_) (fun H => ?_)
 refine AtC.skip (tg (AtC.seq (AtC.block (sR (pu hT 2 Y ?_)))))
 obtain ⟨a_1_, hc1, hd1, H⟩ := H
 refine AtL.q Y (Quiet1.idxS hT Y Y Y Y Y hc1 hd1) ?_
 obtain ⟨v_1, hc2, H⟩ := H
 refine AtL.q Y (Quiet1.load hT Y Y Y hc2) (pu hT 2 Y ?_)
 replace H := H _ rfl
 refine ng (AtC.seq (sR (pu hT 1 Y (ng (AtC.block ?_)))))
 refine AtC.loopM (fun (s0u1 : Int × Int) => [(5, Value.int .i64 s0u1.1), (6, Value.int .i64 s0u1.2)]) (fun (s0u1 : Int × Int) => []) [0, 3, 4] [5, 6, 0, 3, 4] [] [] H Y Y Y (by decide) Y (fun Kp4 s0u1 h0u2 H Q4 HK4 => ?_)
 refine AtC.seq (sR (pu hT 4 Y (ng ?_)))
 refine AtC.condB H Y (fun H => ?_) (fun H => ?_)
 refine AtC.skip (tg (AtC.seq (AtC.block (sR (pu hT 2 Y ?_)))))
 obtain ⟨a_2_, hc4, hd4, H⟩ := H
 refine AtL.q Y (Quiet1.idxS hT Y Y Y Y Y hc4 hd4) ?_
 obtain ⟨v_2, hc5, H⟩ := H
 refine AtL.q Y (Quiet1.load hT Y Y Y hc5) (pu hT 4 Y ?_)
 replace H := H _ rfl
 refine ng (sR (pu hT 4 Y ?_))
 obtain ⟨a_3_, hc6, hd6, H⟩ := H
 refine AtL.q Y (Quiet1.idxS hT Y Y Y Y Y hc6 hd6) (AtL.e Y (EffX.store hT Y Y Y Y Y H) ?_)
 rintro _ _ ⟨h0u3, rfl, H⟩
 refine ng (AtC.region (pu hT 3 Y ?_))
 replace H := H _ rfl
 refine AtL.nil (AtE.blk_n (tg (AtC.region (pu hT 3 Y ?_))))
 replace H := H _ rfl
 refine AtL.nil ?_
 exact AtE.then_n ((HK4 _ _ H).pickP (ts := [5, 6, 0, 3, 4]) (is := []) Y Y (by decide) Y)
 refine AtC.exit (AtE.then_x (AtE.then_x (AtE.blk_hit (tg (AtC.block ?_)))))
 refine AtC.loopM (fun (s0u2 : Sl × Int) => [(3, Sl.toV s0u2.1), (5, Value.int .i64 s0u2.2)]) (fun (s0u2 : Sl × Int) => []) [0, 4] [3, 5, 0, 4] [] [] H Y Y Y (by decide) Y (fun Kp8 s0u2 h0u4 H Q8 HK8 => ?_)
 refine AtC.seq (sR (pu hT 2 Y (ng ?_)))
 refine AtC.condB H Y (fun H => ?_) (fun H => ?_)
 refine AtC.skip (tg (AtC.block (sR (pu hT 3 Y ?_))))
 refine AtLX.bs (hT := hT) (cs := [_]) H Y Y Y Y Y Y Y Y Y (fun a_4 h0u5 H => ?_)
 refine AtL.e Y (EffX.appendS (s := _) (u := _) hT Y Y Y Y Y Y Y Y Y Y (by decide) H) ?_
 rintro _ _ ⟨v_4, h0u6, rfl, rfl, H⟩
 refine pu hT 1 Y (ng (AtC.region (pu hT 3 Y ?_)))
 replace H := H _ rfl
 refine AtL.nil (AtE.blk_n ?_)
 exact AtE.then_n ((HK8 _ _ H).pickP (ts := [3, 5, 0, 4]) (is := []) Y Y (by decide) Y)
 refine AtC.exit (AtE.then_x (AtE.then_x (AtE.blk_hit (AtE.blk_n (tg ?_)))))
 refine AtC.region (pu hT 3 Y ?_)
 replace H := H _ rfl
 refine AtL.nil ?_
 exact AtE.then_n ((HK1 _ _ H).pickP (ts := [3, 4, 0]) (is := []) Y Y (by decide) Y)
 refine AtC.exit (AtE.then_x (AtE.then_x (AtE.blk_hit (tg (sR ?_)))))
 refine pu hT 1 Y (AtL.e Y (cl (fun h => ref01uCut _ h _) H Y Tryz.call142 Y (fun w m hr hw => lift_ref01uCut _ w m hr _ hw)) ?_)
 rintro _ _ ⟨v_5, h0u7, rfl, rfl, H⟩
 refine pu hT 1 Y (ng (AtC.ret ?_))
 exact r1 2 Y Y Y H
theorem lift_ref02uOf (x0 : Bool × Sl × Sl) (w : World) (m : Heap) (hr : Rel ⟨m, []⟩ w.heap) (S : (Bool × Sl × Sl) → Heap → Prop) (H : ref02uOf x0 m S) :
 Calls Tryz.prog 36 #[Value.agg (C_bool_sl_sl x0).toArray] w (Post ⟨w, m⟩ (fun r => Value.agg (C_bool_sl_sl r).toArray) S) := by
 refine Calls.lift (args := [Value.agg (C_bool_sl_sl x0).toArray]) Tryz.func36 Y Tryz.ntmps36 (Nat.le_of_ble_eq_true Y) hr (ref02uOf x0 m S) H (fun H => ?_)
 refine AtC.pick (ts := [0]) Y ?_
 unfold ref02uOf at H
 refine sR (AtL.e Y (EffX.boxP (cs := [_, _, _]) Y Y Y H) ?_)
 rintro _ _ ⟨b, _, rfl, rfl, _, H⟩
 refine AtL.e Y (EffX.allocP (cs := [_, _, _]) hT Y Y H) ?_
 rintro _ _ ⟨b_1, _, rfl, rfl, _, H⟩
 refine AtL.nil ?_
 replace H := H.self
 refine tg ?_
 refine AtC.joinSeq (β := Nat) (fun (t0 : Bool × Sl × Sl) (bb : Nat) => [(3, Value.pointer (some ⟨bb, 0, none⟩))]) (fun (t0 : Bool × Sl × Sl) (bb : Nat) => [(bb, [Value.bool t0.1, Sl.toV t0.2.1, Sl.toV t0.2.2])]) [2] [0] H Y Y (fun t0 bb h0u1 H => ?_) (fun J1 H HK1 => ?_)
 refine AtC.joinSeq (β := Unit) (fun (t0u1 : Bool × Sl × Sl) (bb_1 : Unit) => []) (fun (t0u1 : Bool × Sl × Sl) (bb_1 : Unit) => [(bb, [Value.bool t0u1.1, Sl.toV t0u1.2.1, Sl.toV t0u1.2.2])]) [2, 3] [1] H Y Y (fun t0u1 bb_1 h0u13 H => ?_) (fun J5 H HK5 => ?_)
 refine sR (AtL.q Y (lS hT 0 [_, _, _] Y Y Y Y Y Y Y Y) (AtL.e Y (EffX.storeSP (i := 1) (qv := [(_, [_, _, _]), (_, [_, _, _])]) hT Y Y Y Y Y Y Y Y Y Y) ?_))
 rintro _ _ rfl
 refine ng (AtC.ret ?_)
 exact AtE.retN (rs := [.cell 2 55]) Y (ResAll.cons (ResAt.cellSP (i := 1) (l := [_, _, _]) hT Y Y Y Y Y Y Y) ResAll.nil) Y H
 refine sR (pu hT 1 Y (AtL.q Y (lP hT 0 Y) (pu hT 2 Y (ng ?_))))
 refine AtC.condB H Y (fun H => ?_) (fun H => ?_)
 refine AtC.region ?_
 refine AtLX.bs (hT := hT) (cs := [_]) H Y Y Y Y Y Y Y Y Y (fun a h0u14 H => ?_)
 refine pu hT 1 Y (AtL.e Y (EffX.storeP (i := 0) (qv := [(_, [_, _, _]), (_, [_, _, _])]) hT Y Y Y Y Y Y Y Y Y) ?_)
 rintro _ _ rfl
 refine AtL.nil ?_
 exact AtE.then_n ((HK5 _ () _ H).pickP (ts := [2, 3]) (is := [0, 1]) Y Y (by decide) Y)
 refine AtC.skip ?_
 exact AtE.then_n ((HK5 _ () _ H).pickP (ts := [2, 3]) (is := [0, 1]) Y Y (by decide) Y)
 apply AtC.stages [6, 9, 11, 12] [[], [], [], [], [], [], [], [], [], [6], [6, 9], [], [6, 9, 11]] [[], [0], [0, 1], [], [3], [3, 4], [3, 4, 5], [], [7], [3, 4, 5, 6, 7, 8], [0, 1, 2, 3, 4, 5, 6, 7, 8, 9], [], [0, 1, 2, 3, 4, 5, 6, 7, 8, 9, 10, 11]] hmix (by kernel_rfl) [(4, _), (5, _), (6, _), (7, _), (8, _), (9, _), (11, _), (12, _)] Y 4 Y
 refine Stg.go [0, 1, 2, 3, 4, 5, 7, 8] [6, 11] Y Y (qp hT Y (qp hT Y (qq Y (lP hT 1 Y) Y (qp hT Y (qp hT Y (qq Y (lP hT 1 Y) Y (qp hT Y (qq Y (lP hT 1 Y) Y QAll.nil)))))))) ?_
 refine EAll.cons ?_ ?_
 replace H := H.self
 refine EOp.e Y Y Y (cl (fun h => ref01uOf _ h _) H Y Tryz.call96 Y (fun w m hr hw => lift_ref01uOf _ w m hr _ hw)) ?_
 rintro _ _ ⟨v, h0u3, rfl, rfl, H⟩
 apply Stg.next [(10, _)] Y Y
 refine Stg.go [0, 1, 2, 7, 8] [9, 11] Y Y (qp hT Y (qp hT Y (qq Y (lP hT 1 Y) Y (qp hT Y (qq Y (lP hT 1 Y) Y QAll.nil))))) ?_
 refine EAll.cons ?_ ?_
 replace H := H.self
 refine EOp.e Y Y Y (cl (fun h => ref01uOf _ h _) H Y Tryz.call96 Y (fun w m hr hw => lift_ref01uOf _ w m hr _ hw)) ?_
 rintro _ _ ⟨v_1, h0u5, rfl, rfl, H⟩
 apply Stg.next [(13, _), (14, _)] Y Y
 refine Stg.go [0, 1, 2, 10] [11] Y Y (qp hT Y (qp hT Y (qq Y (lP hT 1 Y) Y (qq Y (Quiet1.build (cs := [_, _, _]) hT Y Y Y Y Y Y) Y QAll.nil)))) ?_
 refine EAll.cons ?_ EAll.nil
 refine EOp.e Y Y Y (EffX.allocP (cs := [_, _, _]) hT Y Y H) ?_
 rintro _ _ ⟨b_2, _, rfl, rfl, he1, H⟩
 apply Stg.next [(3, _)] Y Y
 refine Stg.go [0, 1, 2, 10] [12] Y Y (qp hT Y (qp hT Y (qq Y (lP hT 2 Y) Y (qq Y (Quiet1.build (cs := [_, _, _]) hT Y Y Y Y Y Y) Y QAll.nil)))) ?_
 refine EAll.cons ?_ EAll.nil
 refine EOp.e Y Y Y (EffX.storeSP (i := 0) (qv := [(_, [_, _, _]), (_, [_, _, _]), (_, [_, _, _])]) hT Y Y Y Y Y Y Y Y Y Y) ?_
 rintro _ _ rfl
 apply Stg.next [] Y Y
 refine Stg.fin [] Y Y QAll.nil ?_
 replace H := H.self
 exact AtE.then_n ((HK1 _ b_2 _ H).pickP (ts := [3, 2]) (is := [0, 1]) Y Y (by decide) Y)
 refine EAll.cons ?_ EAll.nil
 refine EOp.e Y Y Y (EffX.allocP (cs := [_, _, _]) hT Y Y H) ?_
 rintro _ _ ⟨b_3, _, rfl, rfl, he2, H⟩
 apply Stg.next [(3, _)] Y Y
 refine Stg.go [0, 1, 2, 7, 8] [9] Y Y (qp hT Y (qp hT Y (qq Y (lP hT 2 Y) Y (qp hT Y (qq Y (lP hT 2 Y) Y QAll.nil))))) ?_
 refine EAll.cons ?_ EAll.nil
 replace H := H.self
 refine EOp.e Y Y Y (cl (fun h => ref01uOf _ h _) H Y Tryz.call96 Y (fun w m hr hw => lift_ref01uOf _ w m hr _ hw)) ?_
 rintro _ _ ⟨v_2, h0u7, rfl, rfl, H⟩
 apply Stg.next [(13, _), (14, _)] Y Y
 refine Stg.go [0, 1, 2, 10] [12] Y Y (qp hT Y (qp hT Y (qq Y (lP hT 2 Y) Y (qq Y (Quiet1.build (cs := [_, _, _]) hT Y Y Y Y Y Y) Y QAll.nil)))) ?_
 refine EAll.cons ?_ EAll.nil
 refine EOp.e Y Y Y (EffX.storeSP (i := 0) (qv := [(_, [_, _, _]), (_, [_, _, _]), (_, [_, _, _])]) hT Y Y Y Y Y Y Y Y Y Y) ?_
 rintro _ _ rfl
 apply Stg.next [] Y Y
 refine Stg.fin [] Y Y QAll.nil ?_
 replace H := H.self
 exact AtE.then_n ((HK1 _ b_3 _ H).pickP (ts := [3, 2]) (is := [0, 1]) Y Y (by decide) Y)
 refine EAll.cons ?_ EAll.nil
 refine EOp.e Y Y Y (EffX.allocP (cs := [_, _, _]) hT Y Y H) ?_
 rintro _ _ ⟨b_4, _, rfl, rfl, he3, H⟩
 apply Stg.next [(3, _)] Y Y
 refine Stg.go [0, 1, 2, 3, 4, 5, 7, 8] [6] Y Y (qp hT Y (qp hT Y (qq Y (lP hT 2 Y) Y (qp hT Y (qp hT Y (qq Y (lP hT 2 Y) Y (qp hT Y (qq Y (lP hT 2 Y) Y QAll.nil)))))))) ?_
 refine EAll.cons ?_ EAll.nil
 replace H := H.self
 refine EOp.e Y Y Y (cl (fun h => ref01uOf _ h _) H Y Tryz.call96 Y (fun w m hr hw => lift_ref01uOf _ w m hr _ hw)) ?_
 rintro _ _ ⟨v_3, h0u9, rfl, rfl, H⟩
 apply Stg.next [(10, _)] Y Y
 refine Stg.go [0, 1, 2, 7, 8] [9] Y Y (qp hT Y (qp hT Y (qq Y (lP hT 2 Y) Y (qp hT Y (qq Y (lP hT 2 Y) Y QAll.nil))))) ?_
 refine EAll.cons ?_ EAll.nil
 replace H := H.self
 refine EOp.e Y Y Y (cl (fun h => ref01uOf _ h _) H Y Tryz.call96 Y (fun w m hr hw => lift_ref01uOf _ w m hr _ hw)) ?_
 rintro _ _ ⟨v_4, h0u11, rfl, rfl, H⟩
 apply Stg.next [(13, _), (14, _)] Y Y
 refine Stg.go [0, 1, 2, 10] [12] Y Y (qp hT Y (qp hT Y (qq Y (lP hT 2 Y) Y (qq Y (Quiet1.build (cs := [_, _, _]) hT Y Y Y Y Y Y) Y QAll.nil)))) ?_
 refine EAll.cons ?_ EAll.nil
 refine EOp.e Y Y Y (EffX.storeSP (i := 0) (qv := [(_, [_, _, _]), (_, [_, _, _]), (_, [_, _, _])]) hT Y Y Y Y Y Y Y Y Y Y) ?_
 rintro _ _ rfl
 apply Stg.next [] Y Y
 refine Stg.fin [] Y Y QAll.nil ?_
 replace H := H.self
 exact AtE.then_n ((HK1 _ b_4 _ H).pickP (ts := [3, 2]) (is := [0, 1]) Y Y (by decide) Y)
theorem lift_ref02uInt (n : Int) (w : World) (m : Heap) (hr : Rel ⟨m, []⟩ w.heap) (S : (Bool × Sl × Sl) → Heap → Prop) (H : ref02uInt n m S) :
 Calls Tryz.prog 14 #[Value.int .i64 n] w (Post ⟨w, m⟩ (fun r => Value.agg (C_bool_sl_sl r).toArray) S) := by
 refine Calls.lift (args := [Value.int .i64 n]) Tryz.func14 Y Tryz.ntmps14 (Nat.le_of_ble_eq_true Y) hr (ref02uInt n m S) H (fun H => ?_)
 refine AtC.pick (ts := [0]) Y ?_
 unfold ref02uInt at H
 refine sR (AtL.e Y (EffX.allocP (cs := [_, _, _]) hT Y Y H) ?_)
 rintro _ _ ⟨b, _, rfl, rfl, _, H⟩
 refine AtL.nil ?_
 replace H := H.self
 refine tg (sR (pu hT 2 Y ?_))
 refine AtLX.bs (hT := hT) (cs := []) H Y Y Y Y Y Y Y Y Y (fun a h0u1 H => ?_)
 refine AtLX.bs (hT := hT) (cs := [_]) H Y Y Y Y Y Y Y Y Y (fun a_1 h0u2 H => ?_)
 refine AtL.q Y (Quiet1.build (cs := [_, _, _]) hT Y Y Y Y Y Y) (AtL.e Y (EffX.allocP (cs := [_, _, _]) hT Y Y H) ?_)
 rintro _ _ ⟨b_1, _, rfl, rfl, _, H⟩
 replace H := H.self
 refine AtL.e Y (EffX.storeSP (i := 0) (qv := [(_, [_, _, _]), (_, [_, _, _])]) hT Y Y Y Y Y Y Y Y Y Y) ?_
 rintro _ _ rfl
 refine ng ?_
 refine AtC.joinSeq (β := Unit) (fun (t0 : Int) (bb : Unit) => [(0, Value.int .i64 t0)]) (fun (t0 : Int) (bb : Unit) => []) [2, 3] [0, 1] H Y Y (fun t0 bb h0u4 H => ?_) (fun J1 H HK1 => ?_)
 refine AtC.seq (AtC.block ?_)
 refine AtC.loopM (fun (s0 : Int × Bool × Sl × Sl) => [(0, Value.int .i64 s0.1)]) (fun (s0 : Int × Bool × Sl × Sl) => [(b_1, [Value.bool s0.2.1, Sl.toV s0.2.2.1, Sl.toV s0.2.2.2])]) [2, 3] [0, 2, 3] [1] [0, 1] H Y Y Y (by decide) Y (fun Kp2 s0 h0u5 H Q2 HK2 => ?_)
 refine AtC.seq (sR (pu hT 2 Y (ng ?_)))
 refine AtC.condB H Y (fun H => ?_) (fun H => ?_)
 refine AtC.skip (tg (AtC.block (sR (pu hT 1 Y (AtL.q Y (lP hT 0 Y) ?_)))))
 refine pu hT 2 Y ?_
 refine AtLX.bs (hT := hT) (cs := [_]) H Y Y Y Y Y Y Y Y Y (fun a_2 h0u6 H => ?_)
 refine AtL.e Y (EffX.appendS (s := _) (u := _) hT Y Y Y Y Y Y Y Y Y Y (by decide) H) ?_
 rintro _ _ ⟨v_3, h0u7, rfl, rfl, H⟩
 refine pu hT 1 Y (AtL.e Y (EffX.storeP (i := 0) (qv := [(_, [_, _, _]), (_, [_, _, _])]) hT Y Y Y Y Y Y Y Y Y) ?_)
 rintro _ _ rfl
 refine ng (AtC.region (pu hT 3 Y ?_))
 replace H := H _ rfl
 refine AtL.nil (AtE.blk_n ?_)
 exact AtE.then_n ((HK2 _ _ H).pickP (ts := [0, 2, 3]) (is := [0, 1]) Y Y (by decide) Y)
 refine AtC.exit (AtE.then_x (AtE.then_x (AtE.blk_hit (tg (sR ?_)))))
 refine AtL.q Y (lS hT 0 [_, _, _] Y Y Y Y Y Y Y Y) (AtL.e Y (EffX.storeSP (i := 1) (qv := [(_, [_, _, _]), (_, [_, _, _])]) hT Y Y Y Y Y Y Y Y Y Y) ?_)
 rintro _ _ rfl
 refine ng (AtC.ret ?_)
 exact AtE.retN (rs := [.cell 2 55]) Y (ResAll.cons (ResAt.cellSP (i := 1) (l := [_, _, _]) hT Y Y Y Y Y Y Y) ResAll.nil) Y H
 refine sR (pu hT 2 Y (ng ?_))
 refine AtC.condB H Y (fun H => ?_) (fun H => ?_)
 refine AtC.region (pu hT 3 Y ?_)
 replace H := H _ rfl
 refine AtL.nil ?_
 exact AtE.then_n ((HK1 _ () _ H).pickP (ts := [0, 2, 3]) (is := [0, 1]) Y Y (by decide) Y)
 refine AtC.skip ?_
 exact AtE.then_n ((HK1 _ () _ H).pickP (ts := [0, 2, 3]) (is := [0, 1]) Y Y (by decide) Y)
theorem lift_ref01uCmp (x0 : Sl) (y : Sl) (w : World) (m : Heap) (hr : Rel ⟨m, []⟩ w.heap) (S : Int → Heap → Prop) (H : ref01uCmp x0 y m S) :
 Calls Tryz.prog 119 #[Sl.toV x0, Sl.toV y] w (Post ⟨w, m⟩ (Value.int .i64) S) := by
 refine Calls.lift (args := [Sl.toV x0, Sl.toV y]) Tryz.func119 Y Tryz.ntmps119 (Nat.le_of_ble_eq_true Y) hr (ref01uCmp x0 y m S) H (fun H => ?_)
 refine AtC.pick (ts := [0, 1]) Y ?_
 unfold ref01uCmp at H
 refine sR (pu hT 1 Y (ng (AtC.seq (sR (pu hT 5 Y ?_)))))
 refine ng ?_
 refine AtC.condB H Y (fun H => ?_) (fun H => ?_)
 refine AtC.seq (sR (pu hT 5 Y (ng ?_)))
 refine AtC.condB H Y (fun H => ?_) (fun H => ?_)
 refine sR (pu hT 1 Y (ng (AtC.ret (AtE.then_r (AtE.then_r ?_)))))
 exact r1 4 Y Y Y H
 refine AtC.skip (tg (sR (pu hT 1 Y (ng (AtC.ret ?_)))))
 refine AtE.then_r ?_
 exact r1 4 Y Y Y H
 refine AtC.skip (tg (AtC.seq (sR (pu hT 4 Y ?_))))
 replace H := H _ rfl
 refine ng (AtC.block ?_)
 refine AtC.loopM (fun (s0 : Int) => [(5, Value.int .i64 s0)]) (fun (s0 : Int) => []) [0, 1] [5, 0, 1] [] [] H Y Y Y (by decide) Y (fun Kp1 s0 h0 H Q1 HK1 => ?_)
 refine AtC.seq (sR (pu hT 2 Y (ng ?_)))
 refine AtC.condB H Y (fun H => ?_) (fun H => ?_)
 refine AtC.skip (tg (AtC.seq (AtC.block (AtC.seq (AtC.seqD hmix (by kernel_rfl) ?_)))))
 refine AtD.pures hT 2 _ _ _ _ Y ?_
 obtain ⟨a_, hc1, hd1, H⟩ := H
 refine AtD.q Y (Quiet1.idxS hT Y Y Y Y Y hc1 hd1) ?_
 obtain ⟨v, hc2, H⟩ := H
 refine AtD.q Y (Quiet1.load hT Y Y Y hc2) (AtD.pures hT 2 _ _ _ _ Y ?_)
 obtain ⟨a_1_, hc3, hd3, H⟩ := H
 refine AtD.q Y (Quiet1.idxS hT Y Y Y Y Y hc3 hd3) ?_
 obtain ⟨v_1, hc4, H⟩ := H
 refine AtD.q Y (Quiet1.load hT Y Y Y hc4) (AtD.pures hT 1 _ _ _ _ Y (AtD.nil (tg ?_)))
 refine AtC.condB H Y (fun H => ?_) (fun H => ?_)
 refine sR (pu hT 1 Y (ng (AtC.ret (AtE.then_r (AtE.blk_r ?_)))))
 refine AtE.then_r (AtE.then_r (AtE.blk_r (AtE.then_r ?_)))
 exact r1 4 Y Y Y H
 refine AtC.skip (tg (AtC.seqD hmix (by kernel_rfl) (AtD.pures hT 2 _ _ _ _ Y ?_)))
 obtain ⟨a_2_, hc5, hd5, H⟩ := H
 refine AtD.q Y (Quiet1.idxS hT Y Y Y Y Y hc5 hd5) ?_
 obtain ⟨v_2, hc6, H⟩ := H
 refine AtD.q Y (Quiet1.load hT Y Y Y hc6) (AtD.pures hT 2 _ _ _ _ Y ?_)
 obtain ⟨a_3_, hc7, hd7, H⟩ := H
 refine AtD.q Y (Quiet1.idxS hT Y Y Y Y Y hc7 hd7) ?_
 obtain ⟨v_3, hc8, H⟩ := H
 refine AtD.q Y (Quiet1.load hT Y Y Y hc8) (AtD.pures hT 1 _ _ _ _ Y (AtD.nil (tg ?_)))
 refine AtC.condB H Y (fun H => ?_) (fun H => ?_)
 refine sR (pu hT 1 Y (ng (AtC.ret (AtE.blk_r (AtE.then_r ?_)))))
 refine AtE.then_r (AtE.blk_r (AtE.then_r ?_))
 exact r1 4 Y Y Y H
 refine AtC.skip (AtE.blk_n (tg (AtC.region (pu hT 3 Y ?_))))
 replace H := H _ rfl
 refine AtL.nil ?_
 exact AtE.then_n ((HK1 _ _ H).pickP (ts := [5, 0, 1]) (is := []) Y Y (by decide) Y)
 refine AtC.exit (AtE.then_x (AtE.then_x (AtE.blk_hit (tg (sR ?_)))))
 refine pu hT 1 Y (ng (AtC.ret ?_))
 exact r1 4 Y Y Y H
theorem lift_ref01uSub (x0 : Sl) (y : Sl) (w : World) (m : Heap) (hr : Rel ⟨m, []⟩ w.heap) (S : Sl → Heap → Prop) (H : ref01uSub x0 y m S) :
 Calls Tryz.prog 120 #[Sl.toV x0, Sl.toV y] w (Post ⟨w, m⟩ Sl.toV S) := by
 refine Calls.lift (args := [Sl.toV x0, Sl.toV y]) Tryz.func120 Y Tryz.ntmps120 (Nat.le_of_ble_eq_true Y) hr (ref01uSub x0 y m S) H (fun H => ?_)
 refine AtC.pick (ts := [0, 1]) Y ?_
 unfold ref01uSub at H
 refine sR (pu hT 1 Y (ng (AtC.seq (sR (pu hT 2 Y ?_)))))
 refine AtL.e Y (cl (fun h => ref01uCmp _ _ h _) H Y Tryz.call119 Y (fun w m hr hw => lift_ref01uCmp _ _ w m hr _ hw)) ?_
 rintro _ _ ⟨v, h0, rfl, rfl, H⟩
 refine pu hT 1 Y (ng ?_)
 refine AtC.condB H Y (fun H => ?_) (fun H => ?_)
 refine sR ?_
 refine AtLX.bs (hT := hT) (cs := []) H Y Y Y Y Y Y Y Y Y (fun a h0u1 H => ?_)
 refine pu hT 1 Y (ng (AtC.ret (AtE.then_r ?_)))
 exact r1 4 Y Y Y H
 refine AtC.skip (tg (sR ?_))
 refine AtLX.bs (hT := hT) (cs := []) H Y Y Y Y Y Y Y Y Y (fun a_1 h0u2 H => ?_)
 refine pu hT 1 Y ?_
 replace H := H _ rfl
 refine ng (sR (pu hT 1 Y (ng (AtC.seq (sR ?_)))))
 refine pu hT 1 Y (ng (AtC.block ?_))
 refine AtC.loopM (fun (s0 : Sl × Int × Int) => [(5, Sl.toV s0.1), (6, Value.int .i64 s0.2.1), (7, Value.int .i64 s0.2.2)]) (fun (s0 : Sl × Int × Int) => []) [0, 1] [5, 6, 7, 0, 1] [] [] H Y Y Y (by decide) Y (fun Kp1 s0 h0u3 H Q1 HK1 => ?_)
 refine AtC.seq (sR (pu hT 4 Y (ng ?_)))
 refine AtC.condB H Y (fun H => ?_) (fun H => ?_)
 refine AtC.skip (tg (AtC.seq (AtC.block (sR (pu hT 2 Y ?_)))))
 obtain ⟨a_2_, hc1, hd1, H⟩ := H
 refine AtL.q Y (Quiet1.idxS hT Y Y Y Y Y hc1 hd1) ?_
 obtain ⟨v_3, hc2, H⟩ := H
 refine AtL.q Y (Quiet1.load hT Y Y Y hc2) (pu hT 3 Y ?_)
 replace H := H _ rfl
 refine ng ?_
 refine AtC.joinSeq (β := Unit) (fun (t0 : Int) (bb : Unit) => [(8, Value.int .i64 t0)]) (fun (t0 : Int) (bb : Unit) => []) [0, 1, 5, 7] [] H Y Y (fun t0 bb h0u4 H => ?_) (fun J4 H HK4 => ?_)
 refine sR (pu hT 1 Y (ng ?_))
 refine AtC.joinSeq (β := Unit) (fun (t0u1 : Int × Int) (bb_1 : Unit) => [(6, Value.int .i64 t0u1.1), (8, Value.int .i64 t0u1.2)]) (fun (t0u1 : Int × Int) (bb_1 : Unit) => []) [0, 1, 5, 7] [] H Y Y (fun t0u1 bb_1 h0u5 H => ?_) (fun J7 H HK7 => ?_)
 refine AtC.region (pu hT 2 Y ?_)
 refine AtLX.bs (hT := hT) (cs := [_]) H Y Y Y Y Y Y Y Y Y (fun a_4 h0u6 H => ?_)
 refine AtL.e Y (EffX.appendS (s := _) (u := _) hT Y Y Y Y Y Y Y Y Y Y (by decide) H) ?_
 rintro _ _ ⟨v_6, h0u7, rfl, rfl, H⟩
 refine pu hT 1 Y (AtL.nil (AtE.blk_n (tg (AtC.region (pu hT 3 Y ?_)))))
 replace H := H _ rfl
 refine AtL.nil ?_
 exact AtE.then_n ((HK1 _ _ H).pickP (ts := [5, 6, 7, 0, 1]) (is := []) Y Y (by decide) Y)
 refine sR (pu hT 2 Y (ng ?_))
 refine AtC.condB H Y (fun H => ?_) (fun H => ?_)
 refine sR (pu hT 3 Y ?_)
 replace H := H _ rfl
 refine ng (AtC.region (pu hT 1 Y (AtL.nil ?_)))
 exact AtE.then_n ((HK7 _ () _ H).pickP (ts := [6, 8, 0, 1, 5, 7]) (is := []) Y Y (by decide) Y)
 refine AtC.skip ?_
 exact AtE.then_n ((HK7 _ () _ H).pickP (ts := [6, 8, 0, 1, 5, 7]) (is := []) Y Y (by decide) Y)
 refine sR (pu hT 4 Y (ng ?_))
 refine AtC.condB H Y (fun H => ?_) (fun H => ?_)
 refine AtC.region (pu hT 3 Y ?_)
 obtain ⟨a_3_, hc4, hd4, H⟩ := H
 refine AtL.q Y (Quiet1.idxS hT Y Y Y Y Y hc4 hd4) ?_
 obtain ⟨v_4, hc5, H⟩ := H
 refine AtL.q Y (Quiet1.load hT Y Y Y hc5) (pu hT 2 Y ?_)
 replace H := H _ rfl
 refine AtL.nil ?_
 exact AtE.then_n ((HK4 _ () _ H).pickP (ts := [8, 0, 1, 5, 7]) (is := []) Y Y (by decide) Y)
 refine AtC.skip ?_
 exact AtE.then_n ((HK4 _ () _ H).pickP (ts := [8, 0, 1, 5, 7]) (is := []) Y Y (by decide) Y)
 refine AtC.exit (AtE.then_x (AtE.then_x (AtE.blk_hit (tg (sR ?_)))))
 refine pu hT 1 Y (AtL.e Y (cl (fun h => ref01uCut _ h _) H Y Tryz.call142 Y (fun w m hr hw => lift_ref01uCut _ w m hr _ hw)) ?_)
 rintro _ _ ⟨v_7, h0u8, rfl, rfl, H⟩
 refine pu hT 1 Y (ng (AtC.ret ?_))
 exact r1 4 Y Y Y H
theorem lift_ref01uDiv (x0 : Sl) (y : Sl) (w : World) (m : Heap) (hr : Rel ⟨m, []⟩ w.heap) (S : (Sl × Sl) → Heap → Prop) (H : ref01uDiv x0 y m S) :
 Calls Tryz.prog 155 #[Sl.toV x0, Sl.toV y] w (Post ⟨w, m⟩ (fun r => Value.tuple #[Sl.toV r.1, Sl.toV r.2]) S) := by
 refine Calls.lift (args := [Sl.toV x0, Sl.toV y]) Tryz.func155 Y Tryz.ntmps155 (Nat.le_of_ble_eq_true Y) hr (ref01uDiv x0 y m S) H (fun H => ?_)
 refine AtC.pick (ts := [0, 1]) Y ?_
 unfold ref01uDiv at H
 refine sR (pu hT 2 Y (ng (AtC.seq (sR (pu hT 3 Y ?_)))))
 refine ng ?_
 refine AtC.condB H Y (fun H => ?_) (fun H => ?_)
 refine sR ?_
 refine AtLX.bs (hT := hT) (cs := []) H Y Y Y Y Y Y Y Y Y (fun a h0 H => ?_)
 refine AtLX.bs (hT := hT) (cs := []) H Y Y Y Y Y Y Y Y Y (fun a_1 h0u1 H => ?_)
 refine pu hT 2 Y (ng (AtC.ret (AtE.then_r ?_)))
 exact AtE.retN (rs := [.tmp 4, .tmp 5]) Y (ResAll.cons (ResAt.tmp Y) (ResAll.cons (ResAt.tmp Y) ResAll.nil)) Y H
 refine AtC.skip (tg (sR (pu hT 2 Y ?_)))
 replace H := H _ rfl
 refine AtL.e Y (EffX.mkS hT Y Y Y Y Y Y Y Y (by decide) H) ?_
 rintro _ _ ⟨v_2, h0u2, rfl, rfl, H⟩
 refine pu hT 1 Y (ng (sR ?_))
 refine AtLX.bs (hT := hT) (cs := []) H Y Y Y Y Y Y Y Y Y (fun a_2 h0u3 H => ?_)
 refine pu hT 1 Y ?_
 replace H := H _ rfl
 refine ng (AtC.seq (sR (pu hT 4 Y ?_)))
 replace H := H _ rfl
 refine ng (AtC.block ?_)
 refine AtC.loopM (fun (s0 : Sl × Int) => [(7, Sl.toV s0.1), (8, Value.int .i64 s0.2)]) (fun (s0 : Sl × Int) => []) [0, 1, 6] [7, 8, 0, 1, 6] [] [] H Y Y Y (by decide) Y (fun Kp1 s0 h0u4 H Q1 HK1 => ?_)
 refine AtC.seq (sR (pu hT 2 Y (ng ?_)))
 refine AtC.condB H Y (fun H => ?_) (fun H => ?_)
 refine AtC.skip (tg (AtC.seq (AtC.block (sR (pu hT 2 Y ?_)))))
 obtain ⟨a_3_, hc1, hd1, H⟩ := H
 refine AtL.q Y (Quiet1.idxS hT Y Y Y Y Y hc1 hd1) ?_
 obtain ⟨v_4, hc2, H⟩ := H
 refine AtL.q Y (Quiet1.load hT Y Y Y hc2) ?_
 refine AtLX.bs (hT := hT) (cs := [_]) H Y Y Y Y Y Y Y Y Y (fun a_4 h0u5 H => ?_)
 refine pu hT 1 Y (AtL.e Y (EffX.appendS (s := _) (u := _) hT Y Y Y Y Y Y Y Y Y Y (by decide) H) ?_)
 rintro _ _ ⟨v_6, h0u6, rfl, rfl, H⟩
 refine AtL.e Y (cl (fun h => ref01uCut _ h _) H Y Tryz.call142 Y (fun w m hr hw => lift_ref01uCut _ w m hr _ hw)) ?_
 rintro _ _ ⟨v_7, h0u7, rfl, rfl, H⟩
 refine pu hT 1 Y (ng (AtC.block ?_))
 refine AtC.loopM (fun (s0u1 : Sl) => [(7, Sl.toV s0u1)]) (fun (s0u1 : Sl) => []) [0, 1, 6, 8] [7, 0, 1, 6, 8] [] [] H Y Y Y (by decide) Y (fun Kp4 s0u1 h0u8 H Q4 HK4 => ?_)
 refine AtC.seq (sR (pu hT 2 Y (AtL.e Y (cl (fun h => ref01uCmp _ _ h _) H Y Tryz.call119 Y (fun w m hr hw => lift_ref01uCmp _ _ w m hr _ hw)) ?_)))
 rintro _ _ ⟨v_8, h0u9, rfl, rfl, H⟩
 refine pu hT 1 Y (ng ?_)
 refine AtC.condB H Y (fun H => ?_) (fun H => ?_)
 refine AtC.skip (tg (AtC.block (sR (pu hT 2 Y (AtL.e Y (cl (fun h => ref01uSub _ _ h _) H Y Tryz.call120 Y (fun w m hr hw => lift_ref01uSub _ _ w m hr _ hw)) ?_)))))
 rintro _ _ ⟨v_9, h0u10, rfl, rfl, H⟩
 refine pu hT 1 Y (ng (AtC.region (pu hT 2 Y ?_)))
 obtain ⟨a_5_, hc4, hd4, H⟩ := H
 refine AtL.q Y (Quiet1.idxS hT Y Y Y Y Y hc4 hd4) ?_
 obtain ⟨v_10, hc5, H⟩ := H
 refine AtL.q Y (Quiet1.load hT Y Y Y hc5) (pu hT 1 Y ?_)
 obtain ⟨a_6_, hc6, hd6, H⟩ := H
 refine AtL.q Y (Quiet1.idxS hT Y Y Y Y Y hc6 hd6) (AtL.e Y (EffX.store hT Y Y Y Y Y H) ?_)
 rintro _ _ ⟨h0u11, rfl, H⟩
 refine AtL.nil (AtE.blk_n ?_)
 exact AtE.then_n ((HK4 _ _ H).pickP (ts := [7, 0, 1, 6, 8]) (is := []) Y Y (by decide) Y)
 refine AtC.exit (AtE.then_x (AtE.then_x (AtE.blk_hit (AtE.blk_n (tg ?_)))))
 refine AtC.region (pu hT 3 Y ?_)
 replace H := H _ rfl
 refine AtL.nil ?_
 exact AtE.then_n ((HK1 _ _ H).pickP (ts := [7, 8, 0, 1, 6]) (is := []) Y Y (by decide) Y)
 refine AtC.exit (AtE.then_x (AtE.then_x (AtE.blk_hit (tg (sR ?_)))))
 refine pu hT 1 Y (AtL.e Y (cl (fun h => ref01uCut _ h _) H Y Tryz.call142 Y (fun w m hr hw => lift_ref01uCut _ w m hr _ hw)) ?_)
 rintro _ _ ⟨v_11, h0u12, rfl, rfl, H⟩
 refine pu hT 3 Y (ng (AtC.ret ?_))
 exact AtE.retN (rs := [.tmp 4, .tmp 5]) Y (ResAll.cons (ResAt.tmp Y) (ResAll.cons (ResAt.tmp Y) ResAll.nil)) Y H
theorem lift_ref01uGcd (x0 : Sl) (y : Sl) (w : World) (m : Heap) (hr : Rel ⟨m, []⟩ w.heap) (S : Sl → Heap → Prop) (H : ref01uGcd x0 y m S) :
 Calls Tryz.prog 154 #[Sl.toV x0, Sl.toV y] w (Post ⟨w, m⟩ Sl.toV S) := by
 refine Calls.lift (args := [Sl.toV x0, Sl.toV y]) Tryz.func154 Y Tryz.ntmps154 (Nat.le_of_ble_eq_true Y) hr (ref01uGcd x0 y m S) H (fun H => ?_)
 refine AtC.pick (ts := [0, 1]) Y ?_
 unfold ref01uGcd at H
 refine sR (pu hT 1 Y (ng (AtC.seq (AtC.block ?_))))
 refine AtC.loopM (fun (s0 : Sl × Sl) => [(0, Sl.toV s0.1), (1, Sl.toV s0.2)]) (fun (s0 : Sl × Sl) => []) [] [0, 1] [] [] H Y Y Y (by decide) Y (fun Kp1 s0 h0 H Q1 HK1 => ?_)
 refine AtC.seq (sR (pu hT 3 Y (ng ?_)))
 refine AtC.condB H Y (fun H => ?_) (fun H => ?_)
 refine AtC.skip (tg (AtC.block (sR (pu hT 2 Y (AtL.e Y (cl (fun h => ref01uDiv _ _ h _) H Y Tryz.call155 Y (fun w m hr hw => lift_ref01uDiv _ _ w m hr _ hw)) ?_)))))
 rintro _ _ ⟨v, h0u1, rfl, rfl, H⟩
 refine pu hT 5 Y (ng (AtC.region (pu hT 4 Y (AtL.nil (AtE.blk_n ?_)))))
 exact AtE.then_n ((HK1 _ _ H).pickP (ts := [0, 1]) (is := []) Y Y (by decide) Y)
 refine AtC.exit (AtE.then_x (AtE.then_x (AtE.blk_hit (tg (sR ?_)))))
 refine pu hT 2 Y (ng (AtC.ret ?_))
 exact r1 4 Y Y Y H
theorem lift_ref02uLow (r : Bool × Sl × Sl) (w : World) (m : Heap) (hr : Rel ⟨m, []⟩ w.heap) (S : (Bool × Sl × Sl) → Heap → Prop) (H : ref02uLow r m S) :
 Calls Tryz.prog 114 #[Value.agg (C_bool_sl_sl r).toArray] w (Post ⟨w, m⟩ (fun r => Value.agg (C_bool_sl_sl r).toArray) S) := by
 refine Calls.lift (args := [Value.agg (C_bool_sl_sl r).toArray]) Tryz.func114 Y Tryz.ntmps114 (Nat.le_of_ble_eq_true Y) hr (ref02uLow r m S) H (fun H => ?_)
 refine AtC.pick (ts := [0]) Y ?_
 unfold ref02uLow at H
 refine sR (AtL.e Y (EffX.boxP (cs := [_, _, _]) Y Y Y H) ?_)
 rintro _ _ ⟨b, _, rfl, rfl, _, H⟩
 refine AtL.e Y (EffX.allocP (cs := [_, _, _]) hT Y Y H) ?_
 rintro _ _ ⟨b_1, _, rfl, rfl, _, H⟩
 refine AtL.nil ?_
 replace H := H.self
 refine tg (AtC.seq (sR (pu hT 1 Y (AtL.q Y (lP hT 1 Y) (pu hT 2 Y ?_)))))
 refine ng ?_
 refine AtC.condB H Y (fun H => ?_) (fun H => ?_)
 refine sR (AtL.e Y (cl (fun h => ref02uInt _ h _) H Y Tryz.call14 Y (fun w m hr hw => lift_ref02uInt _ w m hr _ hw)) ?_)
 rintro _ _ ⟨v, h0u1, rfl, rfl, H⟩
 refine AtL.e Y (EffX.storeSP (i := 0) (qv := [(_, [_, _, _]), (_, [_, _, _])]) hT Y Y Y Y Y Y Y Y Y Y) ?_
 rintro _ _ rfl
 refine ng (AtC.ret (AtE.then_r ?_))
 exact AtE.retN (rs := [.cell 2 55]) Y (ResAll.cons (ResAt.cellSP (i := 0) (l := [_, _, _]) hT Y Y Y Y Y Y Y) ResAll.nil) Y H
 refine AtC.skip (tg (sR (pu hT 1 Y (AtL.q Y (lP hT 1 Y) (pu hT 1 Y ?_)))))
 refine AtL.q Y (lP hT 1 Y) (AtL.e Y (cl (fun h => ref01uGcd _ _ h _) H Y Tryz.call154 Y (fun w m hr hw => lift_ref01uGcd _ _ w m hr _ hw)) ?_)
 rintro _ _ ⟨v_1, h0u2, rfl, rfl, H⟩
 refine pu hT 1 Y (ng (sR (pu hT 1 Y (AtL.q Y (lP hT 1 Y) (pu hT 1 Y ?_)))))
 refine AtL.e Y (cl (fun h => ref01uDiv _ _ h _) H Y Tryz.call155 Y (fun w m hr hw => lift_ref01uDiv _ _ w m hr _ hw)) ?_
 rintro _ _ ⟨v_2, h0u3, rfl, rfl, H⟩
 refine pu hT 5 Y (ng (sR (pu hT 1 Y (AtL.q Y (lP hT 1 Y) (pu hT 1 Y ?_)))))
 refine AtL.e Y (cl (fun h => ref01uDiv _ _ h _) H Y Tryz.call155 Y (fun w m hr hw => lift_ref01uDiv _ _ w m hr _ hw)) ?_
 rintro _ _ ⟨v_3, h0u4, rfl, rfl, H⟩
 refine pu hT 5 Y (ng (sR (pu hT 1 Y (AtL.q Y (lP hT 1 Y) (pu hT 2 Y ?_)))))
 refine AtL.q Y (Quiet1.build (cs := [_, _, _]) hT Y Y Y Y Y Y) (AtL.e Y (EffX.storeSP (i := 0) (qv := [(_, [_, _, _]), (_, [_, _, _])]) hT Y Y Y Y Y Y Y Y Y Y) ?_)
 rintro _ _ rfl
 refine ng (AtC.ret ?_)
 exact AtE.retN (rs := [.cell 2 55]) Y (ResAll.cons (ResAt.cellSP (i := 0) (l := [_, _, _]) hT Y Y Y Y Y Y Y) ResAll.nil) Y H
theorem lift_ref01uLimbs (x0 : Sl) (w : World) (m : Heap) (hr : Rel ⟨m, []⟩ w.heap) (S : Sl → Heap → Prop) (H : ref01uLimbs x0 m S) :
 Calls Tryz.prog 115 #[Sl.toV x0] w (Post ⟨w, m⟩ Sl.toV S) := by
 refine Calls.lift (args := [Sl.toV x0]) Tryz.func115 Y Tryz.ntmps115 (Nat.le_of_ble_eq_true Y) hr (ref01uLimbs x0 m S) H (fun H => ?_)
 refine AtC.pick (ts := [0]) Y ?_
 unfold ref01uLimbs at H
 refine sR (pu hT 1 Y (ng (sR ?_)))
 refine AtLX.bs (hT := hT) (cs := []) H Y Y Y Y Y Y Y Y Y (fun a h0 H => ?_)
 refine pu hT 1 Y ?_
 replace H := H _ rfl
 refine ng (AtC.seq (sR (pu hT 4 Y ?_)))
 replace H := H _ rfl
 refine ng (AtC.block ?_)
 refine AtC.loopM (fun (s0 : Sl × Int) => [(3, Sl.toV s0.1), (4, Value.int .i64 s0.2)]) (fun (s0 : Sl × Int) => []) [0] [3, 4, 0] [] [] H Y Y Y (by decide) Y (fun Kp1 s0 h0u1 H Q1 HK1 => ?_)
 refine AtC.seq (sR (pu hT 2 Y (ng ?_)))
 refine AtC.condB H Y (fun H => ?_) (fun H => ?_)
 refine AtC.skip (tg ?_)
 refine AtC.joinSeq (β := Unit) (fun (t0 : Sl) (bb : Unit) => [(3, Sl.toV t0)]) (fun (t0 : Sl) (bb : Unit) => []) [0, 4] [] H Y Y (fun t0 bb h0u2 H => ?_) (fun J2 H HK2 => ?_)
 refine AtC.region (pu hT 3 Y ?_)
 replace H := H _ rfl
 refine AtL.nil ?_
 exact AtE.then_n ((HK1 _ _ H).pickP (ts := [3, 4, 0]) (is := []) Y Y (by decide) Y)
 refine AtC.block (sR (pu hT 2 Y ?_))
 obtain ⟨a_1_, hc2, hd2, H⟩ := H
 refine AtL.q Y (Quiet1.idxS hT Y Y Y Y Y hc2 hd2) ?_
 obtain ⟨v_1, hc3, H⟩ := H
 refine AtL.q Y (Quiet1.load hT Y Y Y hc3) (pu hT 2 Y ?_)
 replace H := H _ rfl
 refine ng (AtC.seq (sR (pu hT 1 Y (ng (AtC.block ?_)))))
 refine AtC.loopM (fun (s0u1 : Int × Int) => [(5, Value.int .u64 s0u1.1), (6, Value.int .i64 s0u1.2)]) (fun (s0u1 : Int × Int) => []) [0, 3, 4] [5, 6, 0, 3, 4] [] [] H Y Y Y (by decide) Y (fun Kp5 s0u1 h0u3 H Q5 HK5 => ?_)
 refine AtC.seq (sR (pu hT 4 Y (ng ?_)))
 refine AtC.condB H Y (fun H => ?_) (fun H => ?_)
 refine AtC.skip (tg (AtC.seq (AtC.block (sR (pu hT 2 Y ?_)))))
 obtain ⟨a_2_, hc5, hd5, H⟩ := H
 refine AtL.q Y (Quiet1.idxS hT Y Y Y Y Y hc5 hd5) ?_
 obtain ⟨v_2, hc6, H⟩ := H
 refine AtL.q Y (Quiet1.load hT Y Y Y hc6) (pu hT 5 Y ?_)
 replace H := H _ rfl
 refine ng (sR (pu hT 5 Y ?_))
 obtain ⟨a_3_, hc7, hd7, H⟩ := H
 refine AtL.q Y (Quiet1.idxS hT Y Y Y Y Y hc7 hd7) (AtL.e Y (EffX.store hT Y Y Y Y Y H) ?_)
 rintro _ _ ⟨h0u4, rfl, H⟩
 refine ng (AtC.region (pu hT 3 Y ?_))
 replace H := H _ rfl
 refine AtL.nil (AtE.blk_n (tg (AtC.region (pu hT 3 Y ?_))))
 replace H := H _ rfl
 refine AtL.nil ?_
 exact AtE.then_n ((HK5 _ _ H).pickP (ts := [5, 6, 0, 3, 4]) (is := []) Y Y (by decide) Y)
 refine AtC.exit (AtE.then_x (AtE.then_x (AtE.blk_hit (tg (sR ?_)))))
 refine pu hT 2 Y (ng ?_)
 refine AtC.condB H Y (fun H => ?_) (fun H => ?_)
 refine AtC.region (pu hT 3 Y ?_)
 refine AtLX.bs (hT := hT) (cs := [_]) H Y Y Y Y Y Y Y Y Y (fun a_4 h0u5 H => ?_)
 refine AtL.e Y (EffX.appendS (s := _) (u := _) hT Y Y Y Y Y Y Y Y Y Y (by decide) H) ?_
 rintro _ _ ⟨v_4, h0u6, rfl, rfl, H⟩
 refine pu hT 1 Y (AtL.nil (AtE.blk_n ?_))
 exact AtE.then_n ((HK2 _ () _ H).pickP (ts := [3, 0, 4]) (is := []) Y Y (by decide) Y)
 refine AtC.skip (AtE.blk_n ?_)
 exact AtE.then_n ((HK2 _ () _ H).pickP (ts := [3, 0, 4]) (is := []) Y Y (by decide) Y)
 refine AtC.exit (AtE.then_x (AtE.then_x (AtE.blk_hit (tg (sR ?_)))))
 refine pu hT 2 Y (ng (AtC.ret ?_))
 exact r1 2 Y Y Y H
theorem lift_ref02uForm (r : Bool × Sl × Sl) (w : World) (m : Heap) (hr : Rel ⟨m, []⟩ w.heap) (S : (Bool × Sl × Sl) → Heap → Prop) (H : ref02uForm r m S) :
 Calls Tryz.prog 48 #[Value.agg (C_bool_sl_sl r).toArray] w (Post ⟨w, m⟩ (fun r => Value.agg (C_bool_sl_sl r).toArray) S) := by
 refine Calls.lift (args := [Value.agg (C_bool_sl_sl r).toArray]) Tryz.func48 Y Tryz.ntmps48 (Nat.le_of_ble_eq_true Y) hr (ref02uForm r m S) H (fun H => ?_)
 refine AtC.pick (ts := [0]) Y ?_
 unfold ref02uForm at H
 refine sR (AtL.e Y (EffX.boxP (cs := [_, _, _]) Y Y Y H) ?_)
 rintro _ _ ⟨b, _, rfl, rfl, _, H⟩
 refine AtL.e Y (EffX.allocP (cs := [_, _, _]) hT Y Y H) ?_
 rintro _ _ ⟨b_1, _, rfl, rfl, _, H⟩
 refine AtL.nil ?_
 replace H := H.self
 refine tg (sR (AtL.q Y (lS hT 1 [_, _, _] Y Y Y Y Y Y Y Y) (AtL.e Y (cl (fun h => ref02uLow _ h _) H Y Tryz.call114 Y (fun w m hr hw => lift_ref02uLow _ w m hr _ hw)) ?_)))
 rintro _ _ ⟨v, h0u1, rfl, rfl, H⟩
 refine AtL.e Y (EffX.storeSP (i := 1) (qv := [(_, [_, _, _]), (_, [_, _, _])]) hT Y Y Y Y Y Y Y Y Y Y) ?_
 rintro _ _ rfl
 refine ng ?_
 refine AtC.joinSeq (β := Nat) (fun (t0 : Bool × Sl × Sl) (bb : Nat) => [(3, Value.pointer (some ⟨bb, 0, none⟩))]) (fun (t0 : Bool × Sl × Sl) (bb : Nat) => [(bb, [Value.bool t0.1, Sl.toV t0.2.1, Sl.toV t0.2.2])]) [1, 2] [0, 1] H Y Y (fun t0 bb h0u2 H => ?_) (fun J1 H HK1 => ?_)
 refine AtC.joinSeq (β := Unit) (fun (t0u1 : Bool × Sl × Sl) (bb_1 : Unit) => []) (fun (t0u1 : Bool × Sl × Sl) (bb_1 : Unit) => [(bb, [Value.bool t0u1.1, Sl.toV t0u1.2.1, Sl.toV t0u1.2.2])]) [2, 3] [1] H Y Y (fun t0u1 bb_1 h0u8 H => ?_) (fun J4 H HK4 => ?_)
 refine sR (AtL.q Y (lS hT 0 [_, _, _] Y Y Y Y Y Y Y Y) (AtL.e Y (EffX.storeSP (i := 1) (qv := [(_, [_, _, _]), (_, [_, _, _])]) hT Y Y Y Y Y Y Y Y Y Y) ?_))
 rintro _ _ rfl
 refine ng (AtC.ret ?_)
 exact AtE.retN (rs := [.cell 2 38]) Y (ResAll.cons (ResAt.cellSP (i := 1) (l := [_, _, _]) hT Y Y Y Y Y Y Y) ResAll.nil) Y H
 refine AtC.joinSeq (β := Unit) (fun (t0u2 : Bool) (bb_2 : Unit) => [(23, Value.bool t0u2)]) (fun (t0u2 : Bool) (bb_2 : Unit) => []) [1, 2, 3] [0, 1, 2] H Y Y (fun t0u2 bb_2 h0u9 H => ?_) (fun J5 H HK5 => ?_)
 refine AtC.condB H Y (fun H => ?_) (fun H => ?_)
 refine AtC.region (pu hT 1 Y (AtL.q Y (lP hT 2 Y) (AtL.e Y (cl (fun h => ref01uLimbs _ h _) H Y Tryz.call115 Y (fun w m hr hw => lift_ref01uLimbs _ w m hr _ hw)) ?_)))
 rintro _ _ ⟨v_4, h0u10, rfl, rfl, H⟩
 refine pu hT 1 Y (AtL.e Y (EffX.storeP (i := 0) (qv := [(_, [_, _, _]), (_, [_, _, _]), (_, [_, _, _])]) hT Y Y Y Y Y Y Y Y Y) ?_)
 rintro _ _ rfl
 refine AtL.nil ?_
 exact AtE.then_n ((HK4 _ () _ H).pickP (ts := [2, 3]) (is := [0, 1]) Y Y (by decide) Y)
 refine AtC.skip ?_
 exact AtE.then_n ((HK4 _ () _ H).pickP (ts := [2, 3]) (is := [0, 1]) Y Y (by decide) Y)
 refine AtC.region (pu hT 1 Y (AtL.q Y (lP hT 2 Y) (pu hT 3 Y ?_)))
 refine AtL.splitB (t := 17) H Y (fun H => ?_) (fun H => ?_)
 refine nf Y (nf Y (nf Y (nf Y (nf Y (pu hT 1 Y ?_)))))
 refine AtL.nil ?_
 exact AtE.then_n ((HK5 _ () _ H).pickP (ts := [23, 1, 2, 3]) (is := [0, 1, 2]) Y Y (by decide) Y)
 refine ys Y (pu hT 1 Y (ys Y (AtL.q Y (lP hT 2 Y) (ys Y ?_))))
 obtain ⟨a_, hc5, hd5, H⟩ := H
 refine AtL.q Y (Quiet1.idxS hT Y Y Y Y Y hc5 hd5) (ys Y ?_)
 obtain ⟨v_3, hc6, H⟩ := H
 refine AtL.q Y (Quiet1.load hT Y Y Y hc6) (ys Y (pu hT 1 Y (pu hT 1 Y (AtL.nil ?_))))
 exact AtE.then_n ((HK5 _ () _ H).pickP (ts := [23, 1, 2, 3]) (is := [0, 1, 2]) Y Y (by decide) Y)
 apply AtC.stages [4, 7, 8] [[], [], [], [], [], [4], [4], [], [4, 7]] [[], [0], [], [2], [2, 3], [0, 1, 2, 3, 4], [0, 1, 2, 3, 4, 5], [], [0, 1, 2, 3, 4, 5, 6, 7]] hmix (by kernel_rfl) [(6, _), (7, _), (8, _), (9, _)] Y 3 Y
 refine Stg.go [0, 1, 2, 3] [4, 7] Y Y (qp hT Y (qq Y (lP hT 1 Y) Y (qp hT Y (qq Y (lP hT 1 Y) Y QAll.nil)))) ?_
 refine EAll.cons ?_ ?_
 replace H := H.self
 refine EOp.e Y Y Y (cl (fun h => ref01uLimbs _ h _) H Y Tryz.call115 Y (fun w m hr hw => lift_ref01uLimbs _ w m hr _ hw)) ?_
 rintro _ _ ⟨v_1, h0u4, rfl, rfl, H⟩
 apply Stg.next [(10, _), (11, _), (12, _)] Y Y
 refine Stg.go [0, 1, 5, 6] [7] Y Y (qp hT Y (qq Y (lP hT 1 Y) Y (qq Y (Quiet1.build (cs := [_, _]) hT Y Y Y Y Y Y) Y (qq Y (Quiet1.build (cs := [_, _, _]) hT Y Y Y Y Y Y) Y QAll.nil)))) ?_
 refine EAll.cons ?_ EAll.nil
 refine EOp.e Y Y Y (EffX.allocP (cs := [_, _, _]) hT Y Y H) ?_
 rintro _ _ ⟨b_2, _, rfl, rfl, he1, H⟩
 apply Stg.next [(3, _)] Y Y
 refine Stg.go [0, 1, 5, 6] [8] Y Y (qp hT Y (qq Y (lP hT 2 Y) Y (qq Y (Quiet1.build (cs := [_, _]) hT Y Y Y Y Y Y) Y (qq Y (Quiet1.build (cs := [_, _, _]) hT Y Y Y Y Y Y) Y QAll.nil)))) ?_
 refine EAll.cons ?_ EAll.nil
 refine EOp.e Y Y Y (EffX.storeSP (i := 0) (qv := [(_, [_, _, _]), (_, [_, _, _]), (_, [_, _, _])]) hT Y Y Y Y Y Y Y Y Y Y) ?_
 rintro _ _ rfl
 apply Stg.next [] Y Y
 refine Stg.fin [] Y Y QAll.nil ?_
 replace H := H.self
 exact AtE.then_n ((HK1 _ b_2 _ H).pickP (ts := [3, 1, 2]) (is := [0, 1, 2]) Y Y (by decide) Y)
 refine EAll.cons ?_ EAll.nil
 refine EOp.e Y Y Y (EffX.allocP (cs := [_, _, _]) hT Y Y H) ?_
 rintro _ _ ⟨b_3, _, rfl, rfl, he2, H⟩
 apply Stg.next [(3, _)] Y Y
 refine Stg.go [0, 1, 2, 3] [4] Y Y (qp hT Y (qq Y (lP hT 2 Y) Y (qp hT Y (qq Y (lP hT 2 Y) Y QAll.nil)))) ?_
 refine EAll.cons ?_ EAll.nil
 replace H := H.self
 refine EOp.e Y Y Y (cl (fun h => ref01uLimbs _ h _) H Y Tryz.call115 Y (fun w m hr hw => lift_ref01uLimbs _ w m hr _ hw)) ?_
 rintro _ _ ⟨v_2, h0u6, rfl, rfl, H⟩
 apply Stg.next [(10, _), (11, _), (12, _)] Y Y
 refine Stg.go [0, 1, 5, 6] [8] Y Y (qp hT Y (qq Y (lP hT 2 Y) Y (qq Y (Quiet1.build (cs := [_, _]) hT Y Y Y Y Y Y) Y (qq Y (Quiet1.build (cs := [_, _, _]) hT Y Y Y Y Y Y) Y QAll.nil)))) ?_
 refine EAll.cons ?_ EAll.nil
 refine EOp.e Y Y Y (EffX.storeSP (i := 0) (qv := [(_, [_, _, _]), (_, [_, _, _]), (_, [_, _, _])]) hT Y Y Y Y Y Y Y Y Y Y) ?_
 rintro _ _ rfl
 apply Stg.next [] Y Y
 refine Stg.fin [] Y Y QAll.nil ?_
 replace H := H.self
 exact AtE.then_n ((HK1 _ b_3 _ H).pickP (ts := [3, 1, 2]) (is := [0, 1, 2]) Y Y (by decide) Y)
theorem lift_ref01uSame (a : Sl) (b : Sl) (w : World) (m : Heap) (hr : Rel ⟨m, []⟩ w.heap) (S : Bool → Heap → Prop) (H : ref01uSame a b m S) :
 Calls Tryz.prog 113 #[Sl.toV a, Sl.toV b] w (Post ⟨w, m⟩ Value.bool S) := by
 refine Calls.lift (args := [Sl.toV a, Sl.toV b]) Tryz.func113 Y Tryz.ntmps113 (Nat.le_of_ble_eq_true Y) hr (ref01uSame a b m S) H (fun H => ?_)
 refine AtC.pick (ts := [0, 1]) Y ?_
 unfold ref01uSame at H
 refine sR (pu hT 1 Y (ng (AtC.seq (sR (pu hT 5 Y ?_)))))
 refine ng ?_
 refine AtC.condB H Y (fun H => ?_) (fun H => ?_)
 refine sR (pu hT 1 Y (ng (AtC.ret (AtE.then_r ?_))))
 exact r1 4 Y Y Y H
 refine AtC.skip (tg (AtC.seq (sR (pu hT 1 Y (ng ?_)))))
 refine AtC.block ?_
 refine AtC.loopM (fun (s0 : Int) => [(5, Value.int .i64 s0)]) (fun (s0 : Int) => []) [0, 1] [5, 0, 1] [] [] H Y Y Y (by decide) Y (fun Kp1 s0 h0 H Q1 HK1 => ?_)
 refine AtC.seq (sR (pu hT 4 Y (ng ?_)))
 refine AtC.condB H Y (fun H => ?_) (fun H => ?_)
 refine AtC.skip (tg (AtC.seq (AtC.block (AtC.seqD hmix (by kernel_rfl) (AtD.pures hT 2 _ _ _ _ Y ?_)))))
 obtain ⟨a_1_, hc1, hd1, H⟩ := H
 refine AtD.q Y (Quiet1.idxS hT Y Y Y Y Y hc1 hd1) ?_
 obtain ⟨v, hc2, H⟩ := H
 refine AtD.q Y (Quiet1.load hT Y Y Y hc2) (AtD.pures hT 2 _ _ _ _ Y ?_)
 obtain ⟨a_2_, hc3, hd3, H⟩ := H
 refine AtD.q Y (Quiet1.idxS hT Y Y Y Y Y hc3 hd3) ?_
 obtain ⟨v_1, hc4, H⟩ := H
 refine AtD.q Y (Quiet1.load hT Y Y Y hc4) (AtD.pures hT 1 _ _ _ _ Y (AtD.nil (tg ?_)))
 refine AtC.condB H Y (fun H => ?_) (fun H => ?_)
 refine sR (pu hT 1 Y (ng (AtC.ret (AtE.blk_r (AtE.then_r ?_)))))
 refine AtE.then_r (AtE.blk_r (AtE.then_r ?_))
 exact r1 4 Y Y Y H
 refine AtC.skip (AtE.blk_n (tg (AtC.region (pu hT 3 Y ?_))))
 replace H := H _ rfl
 refine AtL.nil ?_
 exact AtE.then_n ((HK1 _ _ H).pickP (ts := [5, 0, 1]) (is := []) Y Y (by decide) Y)
 refine AtC.exit (AtE.then_x (AtE.then_x (AtE.blk_hit (tg (sR ?_)))))
 refine pu hT 1 Y (ng (AtC.ret ?_))
 exact r1 4 Y Y Y H
theorem lift_ref02uSame (x0 : Bool × Sl × Sl) (y : Bool × Sl × Sl) (w : World) (m : Heap) (hr : Rel ⟨m, []⟩ w.heap) (S : Bool → Heap → Prop) (H : ref02uSame x0 y m S) :
 Calls Tryz.prog 47 #[Value.agg (C_bool_sl_sl x0).toArray, Value.agg (C_bool_sl_sl y).toArray] w (Post ⟨w, m⟩ Value.bool S) := by
 refine Calls.lift (args := [Value.agg (C_bool_sl_sl x0).toArray, Value.agg (C_bool_sl_sl y).toArray]) Tryz.func47 Y Tryz.ntmps47 (Nat.le_of_ble_eq_true Y) hr (ref02uSame x0 y m S) H (fun H => ?_)
 refine AtC.pick (ts := [0, 1]) Y ?_
 unfold ref02uSame at H
 refine sR (AtL.e Y (EffX.boxP (cs := [_, _, _]) Y Y Y H) ?_)
 rintro _ _ ⟨b, _, rfl, rfl, _, H⟩
 refine AtL.e Y (EffX.boxP (cs := [_, _, _]) Y Y Y H) ?_
 rintro _ _ ⟨b_1, _, rfl, rfl, _, H⟩
 replace H := H.self
 refine pu hT 1 Y (ng ?_)
 refine AtC.joinSeq (β := Unit) (fun (t0 : Bool) (bb : Unit) => [(4, Value.bool t0)]) (fun (t0 : Bool) (bb : Unit) => []) [] [] H Y Y (fun t0 bb h0u1 H => ?_) (fun J1 H HK1 => ?_)
 refine AtC.ret ?_
 exact r1 4 Y Y Y H
 refine AtC.region (pu hT 2 Y (AtL.q Y (lP hT 1 Y) (pu hT 2 Y (AtL.q Y (lP hT 0 Y) (pu hT 2 Y ?_)))))
 refine AtL.splitB (t := 12) H Y (fun H => ?_) (fun H => ?_)
 refine ys Y (pu hT 1 Y (ys Y (pu hT 1 Y (ys Y (AtL.q Y (lP hT 1 Y) ?_)))))
 refine ys Y (pu hT 1 Y (ys Y (pu hT 1 Y (ys Y (AtL.q Y (lP hT 0 Y) ?_)))))
 refine ys Y (AtL.e Y (cl (fun h => ref01uSame _ _ h _) H Y Tryz.call113 Y (fun w m hr hw => lift_ref01uSame _ _ w m hr _ hw)) ?_)
 rintro _ _ ⟨v, h0u2, rfl, rfl, H⟩
 refine pu hT 2 Y ?_
 refine AtL.splitB (t := 21) H Y (fun H => ?_) (fun H => ?_)
 refine ys Y (pu hT 1 Y (ys Y (AtL.q Y (lP hT 1 Y) (ys Y (pu hT 1 Y ?_)))))
 refine ys Y (AtL.q Y (lP hT 0 Y) (ys Y (AtL.e Y (cl (fun h => ref01uSame _ _ h _) H Y Tryz.call113 Y (fun w m hr hw => lift_ref01uSame _ _ w m hr _ hw)) ?_)))
 rintro _ _ ⟨v_1, h0u3, rfl, rfl, H⟩
 refine pu hT 2 Y (AtL.nil ?_)
 exact AtE.then_n ((HK1 _ () _ H).pickP (ts := [4]) (is := []) Y Y (by decide) Y)
 refine nf Y (nf Y (nf Y (nf Y (nf Y (pu hT 2 Y ?_)))))
 refine AtL.nil ?_
 exact AtE.then_n ((HK1 _ () _ H).pickP (ts := [4]) (is := []) Y Y (by decide) Y)
 refine nf Y (nf Y (nf Y (nf Y (nf Y (nf Y ?_)))))
 refine nf Y (pu hT 2 Y (nf Y (nf Y (nf Y (nf Y ?_)))))
 refine nf Y (pu hT 2 Y (AtL.nil ?_))
 exact AtE.then_n ((HK1 _ () _ H).pickP (ts := [4]) (is := []) Y Y (by decide) Y)
theorem lift_ref02uRight (x0 : Bool × Sl × Sl) (w : World) (m : Heap) (hr : Rel ⟨m, []⟩ w.heap) (S : Bool → Heap → Prop) (H : ref02uRight x0 m S) :
 Calls Tryz.prog 11 #[Value.agg (C_bool_sl_sl x0).toArray] w (Post ⟨w, m⟩ Value.bool S) := by
 refine Calls.lift (args := [Value.agg (C_bool_sl_sl x0).toArray]) Tryz.func11 Y Tryz.ntmps11 (Nat.le_of_ble_eq_true Y) hr (ref02uRight x0 m S) H (fun H => ?_)
 refine AtC.pick (ts := [0]) Y ?_
 unfold ref02uRight at H
 refine sR (AtL.e Y (EffX.boxP (cs := [_, _, _]) Y Y Y H) ?_)
 rintro _ _ ⟨b, _, rfl, rfl, _, H⟩
 replace H := H.self
 refine pu hT 1 Y (ng (AtC.seq ?_))
 refine AtC.joinSeq (β := Unit) (fun (t0 : Bool) (bb : Unit) => [(49, Value.bool t0)]) (fun (t0 : Bool) (bb : Unit) => []) [1] [0] H Y Y (fun t0 bb h0u1 H => ?_) (fun J1 H HK1 => ?_)
 refine AtC.condB H Y (fun H => ?_) (fun H => ?_)
 refine sR (pu hT 1 Y (ng (AtC.ret (AtE.then_r ?_))))
 exact r1 2 Y Y Y H
 refine AtC.skip (tg ?_)
 apply AtC.seqS [2, 3, 4] [[], [], [], [2], [2, 3], [2, 3, 4]] [[], [], [1], [1, 2], [0, 1, 2, 3], [0, 1, 2, 3, 4]] hmix (by kernel_rfl) [(50, _), (51, _)] Y 3 Y
 refine Stg.go [0, 1] [2] Y Y (qq Y (lS hT 0 [_, _, _] Y Y Y Y Y Y Y Y) Y (qq Y (lS hT 0 [_, _, _] Y Y Y Y Y Y Y Y) Y QAll.nil)) ?_
 refine EAll.cons ?_ EAll.nil
 refine EOp.e Y Y Y (cl (fun h => ref02uOf _ h _) H Y Tryz.call36 Y (fun w m hr hw => lift_ref02uOf _ w m hr _ hw)) ?_
 rintro _ _ ⟨v_3, h0u2, rfl, rfl, H⟩
 apply Stg.next [(52, _)] Y Y
 refine Stg.go [0] [3] Y Y (qq Y (lS hT 0 [_, _, _] Y Y Y Y Y Y Y Y) Y QAll.nil) ?_
 refine EAll.cons ?_ EAll.nil
 refine EOp.e Y Y Y (cl (fun h => ref02uForm _ h _) H Y Tryz.call48 Y (fun w m hr hw => lift_ref02uForm _ w m hr _ hw)) ?_
 rintro _ _ ⟨v_4, h0u3, rfl, rfl, H⟩
 apply Stg.next [(53, _)] Y Y
 refine Stg.go [0] [4] Y Y (qq Y (lS hT 0 [_, _, _] Y Y Y Y Y Y Y Y) Y QAll.nil) ?_
 refine EAll.cons ?_ EAll.nil
 refine EOp.e Y Y Y (cl (fun h => ref02uSame _ _ h _) H Y Tryz.call47 Y (fun w m hr hw => lift_ref02uSame _ _ w m hr _ hw)) ?_
 rintro _ _ ⟨v_5, h0u4, rfl, rfl, H⟩
 apply Stg.next [(54, _), (2, _)] Y Y
 refine Stg.fin [5] Y Y (qp hT Y QAll.nil) (tg (AtC.ret ?_))
 exact r1 2 Y Y Y H
 refine AtC.region (pu hT 2 Y (AtL.q Y (lP hT 0 Y) (pu hT 3 Y ?_)))
 refine AtL.splitB (t := 8) H Y (fun H => ?_) (fun H => ?_)
 refine ys Y (pu hT 1 Y (ys Y (pu hT 1 Y (ys Y (AtL.q Y (lP hT 0 Y) ?_)))))
 refine ys Y (pu hT 1 Y (ys Y (pu hT 1 Y (ys Y (AtL.q Y (lP hT 0 Y) ?_)))))
 refine ys Y (pu hT 1 Y (ys Y (pu hT 1 Y (ys Y ?_))))
 obtain ⟨a_, hc1, hd1, H⟩ := H
 refine AtL.q Y (Quiet1.idxS hT Y Y Y Y Y hc1 hd1) (ys Y ?_)
 obtain ⟨v, hc2, H⟩ := H
 refine AtL.q Y (Quiet1.load hT Y Y Y hc2) (ys Y (pu hT 1 Y (pu hT 2 Y ?_)))
 refine AtL.splitB (t := 21) H Y (fun H => ?_) (fun H => ?_)
 refine nf Y (nf Y (nf Y (nf Y (nf Y (AtL.noU Y Y Y Y ?_)))))
 refine AtL.noU Y Y Y Y (AtL.noU Y Y Y Y (AtL.noU Y Y Y Y (AtL.noU Y Y Y Y (AtL.noU Y Y Y Y (AtL.noU Y Y Y Y ?_)))))
 refine AtL.noU Y Y Y Y (AtL.noU Y Y Y Y (nf Y (pu hT 2 Y (nf Y (nf Y ?_)))))
 refine nf Y (nf Y (nf Y (nf Y (AtL.noU Y Y Y Y (AtL.noU Y Y Y Y ?_)))))
 refine AtL.noU Y Y Y Y (nf Y (pu hT 1 Y (AtL.nil ?_)))
 exact AtE.then_n ((HK1 _ () _ H).pickP (ts := [49, 1]) (is := [0]) Y Y (by decide) Y)
 refine ys Y (pu hT 1 Y (ys Y (AtL.q Y (lP hT 0 Y) (ys Y (pu hT 1 Y ?_)))))
 refine ys Y (pu hT 1 Y (ys Y (pu hT 1 Y ?_)))
 refine AtL.splitB (t := 26) H Y (fun H => ?_) (fun H => ?_)
 refine ys Y (pu hT 1 Y (ys Y (AtL.q Y (lP hT 0 Y) (ys Y (pu hT 1 Y ?_)))))
 refine ys Y (AtL.q Y (lP hT 0 Y) (ys Y (pu hT 1 Y (ys Y (pu hT 1 Y ?_)))))
 refine ys Y ?_
 obtain ⟨a_1_, hc3, hd3, H⟩ := H
 refine AtL.q Y (Quiet1.idxS hT Y Y Y Y Y hc3 hd3) (ys Y ?_)
 obtain ⟨v_1, hc4, H⟩ := H
 refine AtL.q Y (Quiet1.load hT Y Y Y hc4) (ys Y (pu hT 1 Y (ys Y (pu hT 1 Y (pu hT 2 Y ?_)))))
 refine AtL.splitB (t := 38) H Y (fun H => ?_) (fun H => ?_)
 refine nf Y (nf Y (nf Y (nf Y (nf Y (nf Y ?_)))))
 refine AtL.noU Y Y Y Y (AtL.noU Y Y Y Y (AtL.noU Y Y Y Y (nf Y (pu hT 1 Y (AtL.nil ?_)))))
 exact AtE.then_n ((HK1 _ () _ H).pickP (ts := [49, 1]) (is := [0]) Y Y (by decide) Y)
 refine ys Y (pu hT 1 Y (ys Y (pu hT 1 Y (ys Y (AtL.q Y (lP hT 0 Y) ?_)))))
 refine ys Y (pu hT 1 Y (ys Y (pu hT 1 Y (ys Y (pu hT 1 Y ?_)))))
 refine AtL.splitB (t := 44) H Y (fun H => ?_) (fun H => ?_)
 refine ys Y (pu hT 1 Y (ys Y (pu hT 1 Y (ys Y (AtL.q Y (lP hT 0 Y) ?_)))))
 refine ys Y (pu hT 1 Y (pu hT 1 Y (AtL.nil ?_)))
 exact AtE.then_n ((HK1 _ () _ H).pickP (ts := [49, 1]) (is := [0]) Y Y (by decide) Y)
 refine nf Y (nf Y (nf Y (ys Y (pu hT 1 Y (pu hT 1 Y ?_)))))
 refine AtL.nil ?_
 exact AtE.then_n ((HK1 _ () _ H).pickP (ts := [49, 1]) (is := [0]) Y Y (by decide) Y)
 refine nf Y (nf Y (nf Y (nf Y (nf Y (nf Y ?_)))))
 refine nf Y (nf Y (nf Y (ys Y (pu hT 1 Y (pu hT 2 Y ?_)))))
 refine ys Y (pu hT 1 Y (ys Y (pu hT 1 Y (ys Y (AtL.q Y (lP hT 0 Y) ?_)))))
 refine ys Y (pu hT 1 Y (ys Y (pu hT 1 Y (ys Y (pu hT 1 Y ?_)))))
 refine AtL.splitB (t := 44) H Y (fun H => ?_) (fun H => ?_)
 refine ys Y (pu hT 1 Y (ys Y (pu hT 1 Y (ys Y (AtL.q Y (lP hT 0 Y) ?_)))))
 refine ys Y (pu hT 1 Y (pu hT 1 Y (AtL.nil ?_)))
 exact AtE.then_n ((HK1 _ () _ H).pickP (ts := [49, 1]) (is := [0]) Y Y (by decide) Y)
 refine nf Y (nf Y (nf Y (ys Y (pu hT 1 Y (pu hT 1 Y ?_)))))
 refine AtL.nil ?_
 exact AtE.then_n ((HK1 _ () _ H).pickP (ts := [49, 1]) (is := [0]) Y Y (by decide) Y)
 refine nf Y (nf Y (nf Y (nf Y (nf Y (nf Y ?_)))))
 refine nf Y (nf Y (nf Y (nf Y (nf Y (pu hT 2 Y ?_)))))
 refine ys Y (pu hT 1 Y (ys Y (AtL.q Y (lP hT 0 Y) (ys Y (pu hT 1 Y ?_)))))
 refine ys Y (pu hT 1 Y (ys Y (pu hT 1 Y ?_)))
 refine AtL.splitB (t := 26) H Y (fun H => ?_) (fun H => ?_)
 refine ys Y (pu hT 1 Y (ys Y (AtL.q Y (lP hT 0 Y) (ys Y (pu hT 1 Y ?_)))))
 refine ys Y (AtL.q Y (lP hT 0 Y) (ys Y (pu hT 1 Y (ys Y (pu hT 1 Y ?_)))))
 refine ys Y ?_
 obtain ⟨a_2_, hc5, hd5, H⟩ := H
 refine AtL.q Y (Quiet1.idxS hT Y Y Y Y Y hc5 hd5) (ys Y ?_)
 obtain ⟨v_2, hc6, H⟩ := H
 refine AtL.q Y (Quiet1.load hT Y Y Y hc6) (ys Y (pu hT 1 Y (ys Y (pu hT 1 Y (pu hT 2 Y ?_)))))
 refine AtL.splitB (t := 38) H Y (fun H => ?_) (fun H => ?_)
 refine nf Y (nf Y (nf Y (nf Y (nf Y (nf Y ?_)))))
 refine AtL.noU Y Y Y Y (AtL.noU Y Y Y Y (AtL.noU Y Y Y Y (nf Y (pu hT 1 Y (AtL.nil ?_)))))
 exact AtE.then_n ((HK1 _ () _ H).pickP (ts := [49, 1]) (is := [0]) Y Y (by decide) Y)
 refine ys Y (pu hT 1 Y (ys Y (pu hT 1 Y (ys Y (AtL.q Y (lP hT 0 Y) ?_)))))
 refine ys Y (pu hT 1 Y (ys Y (pu hT 1 Y (ys Y (pu hT 1 Y ?_)))))
 refine AtL.splitB (t := 44) H Y (fun H => ?_) (fun H => ?_)
 refine ys Y (pu hT 1 Y (ys Y (pu hT 1 Y (ys Y (AtL.q Y (lP hT 0 Y) ?_)))))
 refine ys Y (pu hT 1 Y (pu hT 1 Y (AtL.nil ?_)))
 exact AtE.then_n ((HK1 _ () _ H).pickP (ts := [49, 1]) (is := [0]) Y Y (by decide) Y)
 refine nf Y (nf Y (nf Y (ys Y (pu hT 1 Y (pu hT 1 Y ?_)))))
 refine AtL.nil ?_
 exact AtE.then_n ((HK1 _ () _ H).pickP (ts := [49, 1]) (is := [0]) Y Y (by decide) Y)
 refine nf Y (nf Y (nf Y (nf Y (nf Y (nf Y ?_)))))
 refine nf Y (nf Y (nf Y (ys Y (pu hT 1 Y (pu hT 2 Y ?_)))))
 refine ys Y (pu hT 1 Y (ys Y (pu hT 1 Y (ys Y (AtL.q Y (lP hT 0 Y) ?_)))))
 refine ys Y (pu hT 1 Y (ys Y (pu hT 1 Y (ys Y (pu hT 1 Y ?_)))))
 refine AtL.splitB (t := 44) H Y (fun H => ?_) (fun H => ?_)
 refine ys Y (pu hT 1 Y (ys Y (pu hT 1 Y (ys Y (AtL.q Y (lP hT 0 Y) ?_)))))
 refine ys Y (pu hT 1 Y (pu hT 1 Y (AtL.nil ?_)))
 exact AtE.then_n ((HK1 _ () _ H).pickP (ts := [49, 1]) (is := [0]) Y Y (by decide) Y)
 refine nf Y (nf Y (nf Y (ys Y (pu hT 1 Y (pu hT 1 Y ?_)))))
 refine AtL.nil ?_
 exact AtE.then_n ((HK1 _ () _ H).pickP (ts := [49, 1]) (is := [0]) Y Y (by decide) Y)
theorem lift_ref12uRight (p : Bool × Sl × Sl × Sl) (w : World) (m : Heap) (hr : Rel ⟨m, []⟩ w.heap) (S : Bool → Heap → Prop) (H : ref12uRight p m S) :
 Calls Tryz.prog 35 #[Value.agg (C_bool_sl_sl_sl p).toArray] w (Post ⟨w, m⟩ Value.bool S) := by
 refine Calls.lift (args := [Value.agg (C_bool_sl_sl_sl p).toArray]) Tryz.func35 Y Tryz.ntmps35 (Nat.le_of_ble_eq_true Y) hr (ref12uRight p m S) H (fun H => ?_)
 refine AtC.pick (ts := [0]) Y ?_
 unfold ref12uRight at H
 refine sR (AtL.e Y (EffX.boxP (cs := [_, _, _, _]) Y Y Y H) ?_)
 rintro _ _ ⟨b, _, rfl, rfl, _, H⟩
 replace H := H.self
 refine pu hT 1 Y (ng (AtC.seq (sR (pu hT 1 Y (AtL.q Y (lS hT 0 [_, _, _] Y Y Y Y Y Y Y Y) ?_)))))
 refine AtL.e Y (cl (fun h => ref02uRight _ h _) H Y Tryz.call11 Y (fun w m hr hw => lift_ref02uRight _ w m hr _ hw)) ?_
 rintro _ _ ⟨v, h0u1, rfl, rfl, H⟩
 refine pu hT 1 Y (ng ?_)
 refine AtC.condB H Y (fun H => ?_) (fun H => ?_)
 refine sR (pu hT 1 Y (ng (AtC.ret (AtE.then_r ?_))))
 exact r1 2 Y Y Y H
 refine AtC.skip (tg (AtC.seq (sR (pu hT 1 Y (ng ?_)))))
 refine AtC.block ?_
 refine AtC.loopM (fun (s0 : Int) => [(3, Value.int .i64 s0)]) (fun (s0 : Int) => []) [1] [3, 1] [0] [0] H Y Y Y (by decide) Y (fun Kp1 s0 h0u2 H Q1 HK1 => ?_)
 refine AtC.seq (sR (pu hT 2 Y (AtL.q Y (lP hT 0 Y) (pu hT 2 Y (ng ?_)))))
 refine AtC.condB H Y (fun H => ?_) (fun H => ?_)
 refine AtC.skip (tg (AtC.seq (AtC.block (sR (pu hT 1 Y ?_)))))
 refine AtL.q Y (lP hT 0 Y) (pu hT 1 Y ?_)
 obtain ⟨a_, hc1, hd1, H⟩ := H
 refine AtL.q Y (Quiet1.idxS hT Y Y Y Y Y hc1 hd1) ?_
 obtain ⟨v_1, hc2, H⟩ := H
 refine AtL.q Y (Quiet1.loadS hT Y Y Y Y hc2) (AtL.e Y (EffX.allocP (cs := [_, _, _, _]) hT Y Y H) ?_)
 rintro _ _ ⟨b_1, _, rfl, rfl, _, H⟩
 replace H := H.self
 refine AtL.e Y (EffX.storeSP (i := 0) (qv := [(_, [_, _, _, _]), (_, [_, _, _, _])]) hT Y Y Y Y Y Y Y Y Y Y) ?_
 rintro _ _ rfl
 refine ng ?_
 refine AtC.joinSeq (β := Unit) (fun (t0 : Bool) (bb : Unit) => [(53, Value.bool t0)]) (fun (t0 : Bool) (bb : Unit) => []) [1, 3] [1] H Y Y (fun t0 bb h0u4 H => ?_) (fun J4 H HK4 => ?_)
 refine AtC.condB H Y (fun H => ?_) (fun H => ?_)
 refine sR (pu hT 1 Y (ng (AtC.ret (AtE.blk_r (AtE.then_r ?_)))))
 refine AtE.then_r (AtE.blk_r (AtE.then_r ?_))
 exact r1 2 Y Y Y H
 refine AtC.skip (AtE.blk_n (tg (AtC.region (pu hT 3 Y ?_))))
 replace H := H _ rfl
 refine AtL.nil ?_
 exact AtE.then_n ((HK1 _ _ H).pickP (ts := [3, 1]) (is := [0]) Y Y (by decide) Y)
 rcases iteB.cases H with ⟨hb4, H⟩ | ⟨hb4, H⟩
 apply AtC.stages [22] [[], [], [], [], [], [], [], [], [], [], [], [], [], [], [], [], [], [], [], [], [], [], [], [22], [22], [22], [22], [22], [22], [22], [22], [22], [22]] [[], [0], [0, 1], [0, 1, 2], [0, 1, 2, 3], [0, 1, 2, 3, 4], [0, 1, 2, 3, 4, 5], [0, 1, 2, 3, 4, 5, 6], [0, 1, 2, 3, 4, 5, 6, 7], [0, 1, 2, 3, 4, 5, 6], [0, 1, 2, 3, 4, 5, 6, 9], [0, 1, 2, 3, 4, 5, 6], [0, 1, 2, 3, 4, 5, 6, 11], [0, 1, 2, 3, 4, 5, 6, 9, 10, 11, 12], [0, 1, 2, 3, 4, 5, 6, 9, 10, 11, 12, 13], [0, 1, 2, 3, 4, 5, 6, 9, 10, 11, 12, 13, 14], [0, 1, 2, 3, 4, 5, 6, 7, 8, 9, 10, 11, 12, 13, 14, 15], [0, 1, 2, 3, 4, 5, 6, 7, 8, 9, 10, 11, 12, 13, 14, 15, 16], [0, 1, 2, 3, 4, 5, 6, 7, 8, 9, 10, 11, 12, 13, 14, 15, 16, 17], [0, 1, 2, 3, 4, 5, 6, 7, 8, 9, 10, 11, 12, 13, 14, 15, 16, 17, 18], [0, 1, 2, 3, 4, 5, 6, 7, 8, 9, 10, 11, 12, 13, 14, 15, 16, 17, 18, 19], [0, 1, 2, 3, 4, 5, 6, 7, 8, 9, 10, 11, 12, 13, 14, 15, 16, 17, 18, 19, 20], [0, 1, 2, 3, 4, 5, 6, 7, 8, 9, 10, 11, 12, 13, 14, 15, 16, 17, 18, 19, 20, 21], [0, 1, 2, 3, 4, 5, 6, 7, 8, 9, 10, 11, 12, 13, 14, 15, 16, 17, 18, 19, 20, 21, 22], [0, 1, 2, 3, 4, 5, 6, 7, 8, 9, 10, 11, 12, 13, 14, 15, 16, 17, 18, 19, 20, 21, 22, 23], [0, 1, 2, 3, 4, 5, 6, 7, 8, 9, 10, 11, 12, 13, 14, 15, 16, 17, 18, 19, 20, 21, 22, 23, 24], [0, 1, 2, 3, 4, 5, 6, 7, 8, 9, 10, 11, 12, 13, 14, 15, 16, 17, 18, 19, 20, 21, 22, 23, 24, 25], [0, 1, 2, 3, 4, 5, 6, 7, 8, 9, 10, 11, 12, 13, 14, 15, 16, 17, 18, 19, 20, 21, 22, 23, 24, 25, 26], [0, 1, 2, 3, 4, 5, 6, 7, 8, 9, 10, 11, 12, 13, 14, 15, 16, 17, 18, 19, 20, 21, 22, 23, 24, 25, 26, 27], [0, 1, 2, 3, 4, 5, 6, 7, 8, 9, 10, 11, 12, 13, 14, 15, 16, 17, 18, 19, 20, 21, 22, 23, 24, 25, 26, 27, 28], [0, 1, 2, 3, 4, 5, 6, 7, 8, 9, 10, 11, 12, 13, 14, 15, 16, 17, 18, 19, 20, 21, 22, 23, 24, 25, 26, 27, 28, 29], [0, 1, 2, 3, 4, 5, 6, 7, 8, 9, 10, 11, 12, 13, 14, 15, 16, 17, 18, 19, 20, 21, 22, 23, 24, 25, 26, 27, 28, 29, 30], [0, 1, 2, 3, 4, 5, 6, 7, 8, 9, 10, 11, 12, 13, 14, 15, 16, 17, 18, 19, 20, 21, 22, 23, 24, 25, 26, 27, 28, 29, 30, 31]] hmix (by kernel_rfl) [(21, _), (22, _), (23, _), (24, _), (25, _), (26, _), (27, _), (28, _), (29, _), (30, _), (31, _), (32, _), (33, _), (34, _), (35, _), (36, _), (37, _), (38, _), (39, _), (40, _), (41, _), (42, _)] Y 1 Y
 refine Stg.known (t := 24) Y hb4 (Stg.go [0, 1, 2, 3, 4, 5, 6, 7, 8, 9, 10, 11, 12, 13, 14, 15, 16, 17, 18, 19, 20, 21] [22] Y Y (qp hT Y (qq Y (lP hT 0 Y) Y (qp hT Y (QAll.cons (QOp.pk hT Y Y Y Y hb4 Y) (qn Y Y Y Y (by decide) Y Y (qn Y Y Y Y (by decide) Y Y (qn Y Y Y Y (by decide) Y Y (QAll.cons (QOp.u Y Y Y Y Y Y) (QAll.cons (QOp.u Y Y Y Y Y Y) (QAll.cons (QOp.u Y Y Y Y Y Y) (QAll.cons (QOp.u Y Y Y Y Y Y) (QAll.cons (QOp.u Y Y Y Y Y Y) (QAll.cons (QOp.u Y Y Y Y Y Y) (QAll.cons (QOp.u Y Y Y Y Y Y) (QAll.cons (QOp.u Y Y Y Y Y Y) (QAll.cons (QOp.u Y Y Y Y Y Y) (QAll.cons (QOp.u Y Y Y Y Y Y) (qn Y Y Y Y (by decide) Y Y (qp hT Y (qp hT Y (qn Y Y Y Y (by decide) Y Y (qn Y Y Y Y (by decide) Y Y QAll.nil)))))))))))))))))))))) ?_)
 refine EAll.cons ?_ EAll.nil
 refine EOp.no Y Y Y Y (by decide) Y ?_
 apply Stg.next [(43, _), (44, _), (45, _), (46, _), (47, _), (48, _), (49, _), (50, _), (51, _), (52, _), (53, _)] Y Y
 refine Stg.fin [23, 24, 25, 26, 27, 28, 29, 30, 31, 32] Y Y (qn Y Y Y Y (by decide) Y Y (qp hT Y (qp hT Y (qn Y Y Y Y (by decide) Y Y (qn Y Y Y Y (by decide) Y Y (qn Y Y Y Y (by decide) Y Y (qn Y Y Y Y (by decide) Y Y (qn Y Y Y Y (by decide) Y Y (qn Y Y Y Y (by decide) Y Y (qp hT Y QAll.nil)))))))))) ?_
 exact AtE.then_n ((HK4 _ () _ H).pickP (ts := [53, 1, 3]) (is := [1]) Y Y (by decide) Y)
 rcases iteB.cases H with ⟨hb5, H⟩ | ⟨hb5, H⟩
 obtain ⟨a_1_, hc6, hd6, H⟩ := H
 obtain ⟨v_2, hc7, H⟩ := H
 rcases iteB.cases H with ⟨hb8, H⟩ | ⟨hb8, H⟩
 apply AtC.stages [22] [[], [], [], [], [], [], [], [], [], [], [], [], [], [], [], [], [], [], [], [], [], [], [], [22], [22], [22], [22], [22], [22], [22], [22], [22], [22]] [[], [0], [0, 1], [0, 1, 2], [0, 1, 2, 3], [0, 1, 2, 3, 4], [0, 1, 2, 3, 4, 5], [0, 1, 2, 3, 4, 5, 6], [0, 1, 2, 3, 4, 5, 6, 7], [0, 1, 2, 3, 4, 5, 6], [0, 1, 2, 3, 4, 5, 6, 9], [0, 1, 2, 3, 4, 5, 6], [0, 1, 2, 3, 4, 5, 6, 11], [0, 1, 2, 3, 4, 5, 6, 9, 10, 11, 12], [0, 1, 2, 3, 4, 5, 6, 9, 10, 11, 12, 13], [0, 1, 2, 3, 4, 5, 6, 9, 10, 11, 12, 13, 14], [0, 1, 2, 3, 4, 5, 6, 7, 8, 9, 10, 11, 12, 13, 14, 15], [0, 1, 2, 3, 4, 5, 6, 7, 8, 9, 10, 11, 12, 13, 14, 15, 16], [0, 1, 2, 3, 4, 5, 6, 7, 8, 9, 10, 11, 12, 13, 14, 15, 16, 17], [0, 1, 2, 3, 4, 5, 6, 7, 8, 9, 10, 11, 12, 13, 14, 15, 16, 17, 18], [0, 1, 2, 3, 4, 5, 6, 7, 8, 9, 10, 11, 12, 13, 14, 15, 16, 17, 18, 19], [0, 1, 2, 3, 4, 5, 6, 7, 8, 9, 10, 11, 12, 13, 14, 15, 16, 17, 18, 19, 20], [0, 1, 2, 3, 4, 5, 6, 7, 8, 9, 10, 11, 12, 13, 14, 15, 16, 17, 18, 19, 20, 21], [0, 1, 2, 3, 4, 5, 6, 7, 8, 9, 10, 11, 12, 13, 14, 15, 16, 17, 18, 19, 20, 21, 22], [0, 1, 2, 3, 4, 5, 6, 7, 8, 9, 10, 11, 12, 13, 14, 15, 16, 17, 18, 19, 20, 21, 22, 23], [0, 1, 2, 3, 4, 5, 6, 7, 8, 9, 10, 11, 12, 13, 14, 15, 16, 17, 18, 19, 20, 21, 22, 23, 24], [0, 1, 2, 3, 4, 5, 6, 7, 8, 9, 10, 11, 12, 13, 14, 15, 16, 17, 18, 19, 20, 21, 22, 23, 24, 25], [0, 1, 2, 3, 4, 5, 6, 7, 8, 9, 10, 11, 12, 13, 14, 15, 16, 17, 18, 19, 20, 21, 22, 23, 24, 25, 26], [0, 1, 2, 3, 4, 5, 6, 7, 8, 9, 10, 11, 12, 13, 14, 15, 16, 17, 18, 19, 20, 21, 22, 23, 24, 25, 26, 27], [0, 1, 2, 3, 4, 5, 6, 7, 8, 9, 10, 11, 12, 13, 14, 15, 16, 17, 18, 19, 20, 21, 22, 23, 24, 25, 26, 27, 28], [0, 1, 2, 3, 4, 5, 6, 7, 8, 9, 10, 11, 12, 13, 14, 15, 16, 17, 18, 19, 20, 21, 22, 23, 24, 25, 26, 27, 28, 29], [0, 1, 2, 3, 4, 5, 6, 7, 8, 9, 10, 11, 12, 13, 14, 15, 16, 17, 18, 19, 20, 21, 22, 23, 24, 25, 26, 27, 28, 29, 30], [0, 1, 2, 3, 4, 5, 6, 7, 8, 9, 10, 11, 12, 13, 14, 15, 16, 17, 18, 19, 20, 21, 22, 23, 24, 25, 26, 27, 28, 29, 30, 31]] hmix (by kernel_rfl) [(21, _), (22, _), (23, _), (24, _), (25, _), (26, _), (27, _), (28, _), (29, _), (30, _), (31, _), (32, _), (33, _), (34, _), (35, _), (36, _), (37, _), (38, _), (39, _), (40, _), (41, _), (42, _)] Y 1 Y
 refine Stg.known (t := 24) Y hb4 (Stg.known (t := 27) Y hb5 (Stg.known (t := 40) Y hb8 (Stg.go [0, 1, 2, 3, 4, 5, 6, 7, 8, 9, 10, 11, 12, 13, 14, 15, 16, 17, 18, 19, 20, 21] [22] Y Y (qp hT Y (qq Y (lP hT 0 Y) Y (qp hT Y (QAll.cons (QOp.pk hT Y Y Y Y hb4 Y) (QAll.cons (QOp.yp hT Y Y Y Y Y Y Y) (QAll.cons (QOp.yp hT Y Y Y Y Y Y Y) (QAll.cons (QOp.ypk hT Y Y Y Y Y Y hb5 Y) (QAll.cons (QOp.yp hT Y Y Y Y Y Y Y) (QAll.cons (QOp.y Y Y Y Y (lP hT 0 Y) Y Y) (QAll.cons (QOp.yp hT Y Y Y Y Y Y Y) (QAll.cons (QOp.y Y Y Y Y (lP hT 1 Y) Y Y) (QAll.cons (QOp.yp hT Y Y Y Y Y Y Y) (QAll.cons (QOp.yp hT Y Y Y Y Y Y Y) (QAll.cons (QOp.y Y Y Y Y (Quiet1.idxS hT Y Y Y Y Y hc6 hd6) Y Y) (QAll.cons (QOp.yp hT Y Y Y Y Y Y Y) (QAll.cons (QOp.y Y Y Y Y (Quiet1.load hT Y Y Y hc7) Y Y) (QAll.cons (QOp.yp hT Y Y Y Y Y Y Y) (QAll.cons (QOp.yp hT Y Y Y Y Y Y Y) (qp hT Y (QAll.cons (QOp.pk hT Y Y Y Y hb8 Y) (qn Y Y Y Y (by decide) Y Y (qn Y Y Y Y (by decide) Y Y QAll.nil)))))))))))))))))))))) ?_)))
 refine EAll.cons ?_ EAll.nil
 refine EOp.no Y Y Y Y (by decide) Y ?_
 apply Stg.next [(43, _), (44, _), (45, _), (46, _), (47, _), (48, _), (49, _), (50, _), (51, _), (52, _), (53, _)] Y Y
 refine Stg.fin [23, 24, 25, 26, 27, 28, 29, 30, 31, 32] Y Y (qn Y Y Y Y (by decide) Y Y (qp hT Y (qp hT Y (qn Y Y Y Y (by decide) Y Y (qn Y Y Y Y (by decide) Y Y (qn Y Y Y Y (by decide) Y Y (qn Y Y Y Y (by decide) Y Y (qn Y Y Y Y (by decide) Y Y (qn Y Y Y Y (by decide) Y Y (qp hT Y QAll.nil)))))))))) ?_
 exact AtE.then_n ((HK4 _ () _ H).pickP (ts := [53, 1, 3]) (is := [1]) Y Y (by decide) Y)
 apply AtC.stages [22] [[], [], [], [], [], [], [], [], [], [], [], [], [], [], [], [], [], [], [], [], [], [], [], [22], [22], [22], [22], [22], [22], [22], [22], [22], [22]] [[], [0], [0, 1], [0, 1, 2], [0, 1, 2, 3], [0, 1, 2, 3, 4], [0, 1, 2, 3, 4, 5], [0, 1, 2, 3, 4, 5, 6], [0, 1, 2, 3, 4, 5, 6, 7], [0, 1, 2, 3, 4, 5, 6], [0, 1, 2, 3, 4, 5, 6, 9], [0, 1, 2, 3, 4, 5, 6], [0, 1, 2, 3, 4, 5, 6, 11], [0, 1, 2, 3, 4, 5, 6, 9, 10, 11, 12], [0, 1, 2, 3, 4, 5, 6, 9, 10, 11, 12, 13], [0, 1, 2, 3, 4, 5, 6, 9, 10, 11, 12, 13, 14], [0, 1, 2, 3, 4, 5, 6, 7, 8, 9, 10, 11, 12, 13, 14, 15], [0, 1, 2, 3, 4, 5, 6, 7, 8, 9, 10, 11, 12, 13, 14, 15, 16], [0, 1, 2, 3, 4, 5, 6, 7, 8, 9, 10, 11, 12, 13, 14, 15, 16, 17], [0, 1, 2, 3, 4, 5, 6, 7, 8, 9, 10, 11, 12, 13, 14, 15, 16, 17, 18], [0, 1, 2, 3, 4, 5, 6, 7, 8, 9, 10, 11, 12, 13, 14, 15, 16, 17, 18, 19], [0, 1, 2, 3, 4, 5, 6, 7, 8, 9, 10, 11, 12, 13, 14, 15, 16, 17, 18, 19, 20], [0, 1, 2, 3, 4, 5, 6, 7, 8, 9, 10, 11, 12, 13, 14, 15, 16, 17, 18, 19, 20, 21], [0, 1, 2, 3, 4, 5, 6, 7, 8, 9, 10, 11, 12, 13, 14, 15, 16, 17, 18, 19, 20, 21, 22], [0, 1, 2, 3, 4, 5, 6, 7, 8, 9, 10, 11, 12, 13, 14, 15, 16, 17, 18, 19, 20, 21, 22, 23], [0, 1, 2, 3, 4, 5, 6, 7, 8, 9, 10, 11, 12, 13, 14, 15, 16, 17, 18, 19, 20, 21, 22, 23, 24], [0, 1, 2, 3, 4, 5, 6, 7, 8, 9, 10, 11, 12, 13, 14, 15, 16, 17, 18, 19, 20, 21, 22, 23, 24, 25], [0, 1, 2, 3, 4, 5, 6, 7, 8, 9, 10, 11, 12, 13, 14, 15, 16, 17, 18, 19, 20, 21, 22, 23, 24, 25, 26], [0, 1, 2, 3, 4, 5, 6, 7, 8, 9, 10, 11, 12, 13, 14, 15, 16, 17, 18, 19, 20, 21, 22, 23, 24, 25, 26, 27], [0, 1, 2, 3, 4, 5, 6, 7, 8, 9, 10, 11, 12, 13, 14, 15, 16, 17, 18, 19, 20, 21, 22, 23, 24, 25, 26, 27, 28], [0, 1, 2, 3, 4, 5, 6, 7, 8, 9, 10, 11, 12, 13, 14, 15, 16, 17, 18, 19, 20, 21, 22, 23, 24, 25, 26, 27, 28, 29], [0, 1, 2, 3, 4, 5, 6, 7, 8, 9, 10, 11, 12, 13, 14, 15, 16, 17, 18, 19, 20, 21, 22, 23, 24, 25, 26, 27, 28, 29, 30], [0, 1, 2, 3, 4, 5, 6, 7, 8, 9, 10, 11, 12, 13, 14, 15, 16, 17, 18, 19, 20, 21, 22, 23, 24, 25, 26, 27, 28, 29, 30, 31]] hmix (by kernel_rfl) [(21, _), (22, _), (23, _), (24, _), (25, _), (26, _), (27, _), (28, _), (29, _), (30, _), (31, _), (32, _), (33, _), (34, _), (35, _), (36, _), (37, _), (38, _), (39, _), (40, _), (41, _), (42, _)] Y 1 Y
 refine Stg.known (t := 24) Y hb4 (Stg.known (t := 27) Y hb5 (Stg.known (t := 40) Y hb8 (Stg.go [0, 1, 2, 3, 4, 5, 6, 7, 8, 9, 10, 11, 12, 13, 14, 15, 16, 17, 18, 19, 20, 21] [22] Y Y (qp hT Y (qq Y (lP hT 0 Y) Y (qp hT Y (QAll.cons (QOp.pk hT Y Y Y Y hb4 Y) (QAll.cons (QOp.yp hT Y Y Y Y Y Y Y) (QAll.cons (QOp.yp hT Y Y Y Y Y Y Y) (QAll.cons (QOp.ypk hT Y Y Y Y Y Y hb5 Y) (QAll.cons (QOp.yp hT Y Y Y Y Y Y Y) (QAll.cons (QOp.y Y Y Y Y (lP hT 0 Y) Y Y) (QAll.cons (QOp.yp hT Y Y Y Y Y Y Y) (QAll.cons (QOp.y Y Y Y Y (lP hT 1 Y) Y Y) (QAll.cons (QOp.yp hT Y Y Y Y Y Y Y) (QAll.cons (QOp.yp hT Y Y Y Y Y Y Y) (QAll.cons (QOp.y Y Y Y Y (Quiet1.idxS hT Y Y Y Y Y hc6 hd6) Y Y) (QAll.cons (QOp.yp hT Y Y Y Y Y Y Y) (QAll.cons (QOp.y Y Y Y Y (Quiet1.load hT Y Y Y hc7) Y Y) (QAll.cons (QOp.yp hT Y Y Y Y Y Y Y) (QAll.cons (QOp.yp hT Y Y Y Y Y Y Y) (qp hT Y (QAll.cons (QOp.pk hT Y Y Y Y hb8 Y) (QAll.cons (QOp.yp hT Y Y Y Y Y Y Y) (QAll.cons (QOp.y Y Y Y Y (lS hT 0 [_, _, _] Y Y Y Y Y Y Y Y) Y Y) QAll.nil)))))))))))))))))))))) ?_)))
 refine EAll.cons ?_ EAll.nil
 refine EOp.y Y Y Y Y Y (cl (fun h => ref02uRight _ h _) H Y Tryz.call11 Y (fun w m hr hw => lift_ref02uRight _ w m hr _ hw)) ?_
 rintro _ _ ⟨v_3, h0u5, rfl, rfl, H⟩
 rcases iteB.cases H with ⟨hb9, H⟩ | ⟨hb9, H⟩
 apply Stg.next [(43, _), (44, _), (45, _), (46, _), (47, _), (48, _), (49, _), (50, _), (51, _), (52, _), (53, _)] Y Y
 refine Stg.known (t := 46) Y hb9 (Stg.fin [23, 24, 25, 26, 27, 28, 29, 30, 31, 32] Y Y (QAll.cons (QOp.yp hT Y Y Y Y Y Y Y) (qp hT Y (QAll.cons (QOp.pk hT Y Y Y Y hb9 Y) (qn Y Y Y Y (by decide) Y Y (qn Y Y Y Y (by decide) Y Y (qn Y Y Y Y (by decide) Y Y (qn Y Y Y Y (by decide) Y Y (qn Y Y Y Y (by decide) Y Y (qn Y Y Y Y (by decide) Y Y (qp hT Y QAll.nil)))))))))) ?_)
 exact AtE.then_n ((HK4 _ () _ H).pickP (ts := [53, 1, 3]) (is := [1]) Y Y (by decide) Y)
 apply Stg.next [(43, _), (44, _), (45, _), (46, _), (47, _), (48, _), (49, _), (50, _), (51, _), (52, _), (53, _)] Y Y
 refine Stg.known (t := 46) Y hb9 (Stg.fin [23, 24, 25, 26, 27, 28, 29, 30, 31, 32] Y Y (QAll.cons (QOp.yp hT Y Y Y Y Y Y Y) (qp hT Y (QAll.cons (QOp.pk hT Y Y Y Y hb9 Y) (QAll.cons (QOp.yp hT Y Y Y Y Y Y Y) (QAll.cons (QOp.yp hT Y Y Y Y Y Y Y) (QAll.cons (QOp.yp hT Y Y Y Y Y Y Y) (QAll.cons (QOp.y Y Y Y Y (lP hT 0 Y) Y Y) (QAll.cons (QOp.yp hT Y Y Y Y Y Y Y) (QAll.cons (QOp.yp hT Y Y Y Y Y Y Y) (qp hT Y QAll.nil)))))))))) ?_)
 exact AtE.then_n ((HK4 _ () _ H).pickP (ts := [53, 1, 3]) (is := [1]) Y Y (by decide) Y)
 apply AtC.stages [22] [[], [], [], [], [], [], [], [], [], [], [], [], [], [], [], [], [], [], [], [], [], [], [], [22], [22], [22], [22], [22], [22], [22], [22], [22], [22]] [[], [0], [0, 1], [0, 1, 2], [0, 1, 2, 3], [0, 1, 2, 3, 4], [0, 1, 2, 3, 4, 5], [0, 1, 2, 3, 4, 5, 6], [0, 1, 2, 3, 4, 5, 6, 7], [0, 1, 2, 3, 4, 5, 6], [0, 1, 2, 3, 4, 5, 6, 9], [0, 1, 2, 3, 4, 5, 6], [0, 1, 2, 3, 4, 5, 6, 11], [0, 1, 2, 3, 4, 5, 6, 9, 10, 11, 12], [0, 1, 2, 3, 4, 5, 6, 9, 10, 11, 12, 13], [0, 1, 2, 3, 4, 5, 6, 9, 10, 11, 12, 13, 14], [0, 1, 2, 3, 4, 5, 6, 7, 8, 9, 10, 11, 12, 13, 14, 15], [0, 1, 2, 3, 4, 5, 6, 7, 8, 9, 10, 11, 12, 13, 14, 15, 16], [0, 1, 2, 3, 4, 5, 6, 7, 8, 9, 10, 11, 12, 13, 14, 15, 16, 17], [0, 1, 2, 3, 4, 5, 6, 7, 8, 9, 10, 11, 12, 13, 14, 15, 16, 17, 18], [0, 1, 2, 3, 4, 5, 6, 7, 8, 9, 10, 11, 12, 13, 14, 15, 16, 17, 18, 19], [0, 1, 2, 3, 4, 5, 6, 7, 8, 9, 10, 11, 12, 13, 14, 15, 16, 17, 18, 19, 20], [0, 1, 2, 3, 4, 5, 6, 7, 8, 9, 10, 11, 12, 13, 14, 15, 16, 17, 18, 19, 20, 21], [0, 1, 2, 3, 4, 5, 6, 7, 8, 9, 10, 11, 12, 13, 14, 15, 16, 17, 18, 19, 20, 21, 22], [0, 1, 2, 3, 4, 5, 6, 7, 8, 9, 10, 11, 12, 13, 14, 15, 16, 17, 18, 19, 20, 21, 22, 23], [0, 1, 2, 3, 4, 5, 6, 7, 8, 9, 10, 11, 12, 13, 14, 15, 16, 17, 18, 19, 20, 21, 22, 23, 24], [0, 1, 2, 3, 4, 5, 6, 7, 8, 9, 10, 11, 12, 13, 14, 15, 16, 17, 18, 19, 20, 21, 22, 23, 24, 25], [0, 1, 2, 3, 4, 5, 6, 7, 8, 9, 10, 11, 12, 13, 14, 15, 16, 17, 18, 19, 20, 21, 22, 23, 24, 25, 26], [0, 1, 2, 3, 4, 5, 6, 7, 8, 9, 10, 11, 12, 13, 14, 15, 16, 17, 18, 19, 20, 21, 22, 23, 24, 25, 26, 27], [0, 1, 2, 3, 4, 5, 6, 7, 8, 9, 10, 11, 12, 13, 14, 15, 16, 17, 18, 19, 20, 21, 22, 23, 24, 25, 26, 27, 28], [0, 1, 2, 3, 4, 5, 6, 7, 8, 9, 10, 11, 12, 13, 14, 15, 16, 17, 18, 19, 20, 21, 22, 23, 24, 25, 26, 27, 28, 29], [0, 1, 2, 3, 4, 5, 6, 7, 8, 9, 10, 11, 12, 13, 14, 15, 16, 17, 18, 19, 20, 21, 22, 23, 24, 25, 26, 27, 28, 29, 30], [0, 1, 2, 3, 4, 5, 6, 7, 8, 9, 10, 11, 12, 13, 14, 15, 16, 17, 18, 19, 20, 21, 22, 23, 24, 25, 26, 27, 28, 29, 30, 31]] hmix (by kernel_rfl) [(21, _), (22, _), (23, _), (24, _), (25, _), (26, _), (27, _), (28, _), (29, _), (30, _), (31, _), (32, _), (33, _), (34, _), (35, _), (36, _), (37, _), (38, _), (39, _), (40, _), (41, _), (42, _)] Y 1 Y
 refine Stg.known (t := 24) Y hb4 (Stg.known (t := 27) Y hb5 (Stg.go [0, 1, 2, 3, 4, 5, 6, 7, 8, 9, 10, 11, 12, 13, 14, 15, 16, 17, 18, 19, 20, 21] [22] Y Y (qp hT Y (qq Y (lP hT 0 Y) Y (qp hT Y (QAll.cons (QOp.pk hT Y Y Y Y hb4 Y) (QAll.cons (QOp.yp hT Y Y Y Y Y Y Y) (QAll.cons (QOp.yp hT Y Y Y Y Y Y Y) (QAll.cons (QOp.ypk hT Y Y Y Y Y Y hb5 Y) (qn Y Y Y Y (by decide) Y Y (qn Y Y Y Y (by decide) Y Y (qn Y Y Y Y (by decide) Y Y (qn Y Y Y Y (by decide) Y Y (qn Y Y Y Y (by decide) Y Y (qn Y Y Y Y (by decide) Y Y (qn Y Y Y Y (by decide) Y Y (qn Y Y Y Y (by decide) Y Y (qn Y Y Y Y (by decide) Y Y (qn Y Y Y Y (by decide) Y Y (QAll.cons (QOp.yp hT Y Y Y Y Y Y Y) (qp hT Y (qp hT Y (QAll.cons (QOp.yp hT Y Y Y Y Y Y Y) (QAll.cons (QOp.y Y Y Y Y (lS hT 0 [_, _, _] Y Y Y Y Y Y Y Y) Y Y) QAll.nil)))))))))))))))))))))) ?_))
 refine EAll.cons ?_ EAll.nil
 refine EOp.y Y Y Y Y Y (cl (fun h => ref02uRight _ h _) H Y Tryz.call11 Y (fun w m hr hw => lift_ref02uRight _ w m hr _ hw)) ?_
 rintro _ _ ⟨v_4, h0u6, rfl, rfl, H⟩
 rcases iteB.cases H with ⟨hb10, H⟩ | ⟨hb10, H⟩
 apply Stg.next [(43, _), (44, _), (45, _), (46, _), (47, _), (48, _), (49, _), (50, _), (51, _), (52, _), (53, _)] Y Y
 refine Stg.known (t := 46) Y hb10 (Stg.fin [23, 24, 25, 26, 27, 28, 29, 30, 31, 32] Y Y (QAll.cons (QOp.yp hT Y Y Y Y Y Y Y) (qp hT Y (QAll.cons (QOp.pk hT Y Y Y Y hb10 Y) (qn Y Y Y Y (by decide) Y Y (qn Y Y Y Y (by decide) Y Y (qn Y Y Y Y (by decide) Y Y (qn Y Y Y Y (by decide) Y Y (qn Y Y Y Y (by decide) Y Y (qn Y Y Y Y (by decide) Y Y (qp hT Y QAll.nil)))))))))) ?_)
 exact AtE.then_n ((HK4 _ () _ H).pickP (ts := [53, 1, 3]) (is := [1]) Y Y (by decide) Y)
 apply Stg.next [(43, _), (44, _), (45, _), (46, _), (47, _), (48, _), (49, _), (50, _), (51, _), (52, _), (53, _)] Y Y
 refine Stg.known (t := 46) Y hb10 (Stg.fin [23, 24, 25, 26, 27, 28, 29, 30, 31, 32] Y Y (QAll.cons (QOp.yp hT Y Y Y Y Y Y Y) (qp hT Y (QAll.cons (QOp.pk hT Y Y Y Y hb10 Y) (QAll.cons (QOp.yp hT Y Y Y Y Y Y Y) (QAll.cons (QOp.yp hT Y Y Y Y Y Y Y) (QAll.cons (QOp.yp hT Y Y Y Y Y Y Y) (QAll.cons (QOp.y Y Y Y Y (lP hT 0 Y) Y Y) (QAll.cons (QOp.yp hT Y Y Y Y Y Y Y) (QAll.cons (QOp.yp hT Y Y Y Y Y Y Y) (qp hT Y QAll.nil)))))))))) ?_)
 exact AtE.then_n ((HK4 _ () _ H).pickP (ts := [53, 1, 3]) (is := [1]) Y Y (by decide) Y)
 refine AtC.exit (AtE.then_x (AtE.then_x (AtE.blk_hit (tg (sR ?_)))))
 refine pu hT 1 Y (ng (AtC.ret ?_))
 exact r1 2 Y Y Y H
theorem lift_law12uOdd (l : Sl) (w : World) (m : Heap) (hr : Rel ⟨m, []⟩ w.heap) (S : Bool → Heap → Prop) (H : law12uOdd l m S) :
 Calls Tryz.prog 18 #[Sl.toV l] w (Post ⟨w, m⟩ Value.bool S) := by
 refine Calls.lift (args := [Sl.toV l]) Tryz.func18 Y Tryz.ntmps18 (Nat.le_of_ble_eq_true Y) hr (law12uOdd l m S) H (fun H => ?_)
 refine AtC.pick (ts := [0]) Y ?_
 unfold law12uOdd at H
 refine sR (pu hT 1 Y (ng (AtC.seq (sR (pu hT 3 Y ?_)))))
 refine ng (AtC.block ?_)
 refine AtC.loopM (fun (s0 : Int) => [(9, Value.int .i64 s0)]) (fun (s0 : Int) => []) [7, 8] [9, 7, 8] [] [] H Y Y Y (by decide) Y (fun Kp1 s0 h0 H Q1 HK1 => ?_)
 refine sR (pu hT 1 Y (ng (AtC.seq ?_)))
 refine AtC.condB H Y (fun H => ?_) (fun H => ?_)
 refine AtC.skip (tg (AtC.seq (AtC.block (sR ?_))))
 obtain ⟨a_, hc1, hd1, H⟩ := H
 refine AtL.q Y (Quiet1.idxS hT Y Y Y Y Y hc1 hd1) ?_
 obtain ⟨v, hc2, H⟩ := H
 refine AtL.q Y (Quiet1.loadS hT Y Y Y Y hc2) (AtL.e Y (EffX.allocP (cs := [_, _, _, _]) hT Y Y H) ?_)
 rintro _ _ ⟨b, _, rfl, rfl, _, H⟩
 replace H := H.self
 refine AtL.e Y (EffX.storeSP (i := 0) (qv := [(_, [_, _, _, _])]) hT Y Y Y Y Y Y Y Y Y Y) ?_
 rintro _ _ rfl
 refine ng (AtC.seq ?_)
 refine AtC.joinSeq (β := Unit) (fun (t0 : Bool) (bb : Unit) => [(27, Value.bool t0)]) (fun (t0 : Bool) (bb : Unit) => []) [4, 7, 8, 9] [0] H Y Y (fun t0 bb h0u2 H => ?_) (fun J4 H HK4 => ?_)
 refine AtC.condB H Y (fun H => ?_) (fun H => ?_)
 refine sR (pu hT 1 Y (ng (AtC.ret (AtE.then_r (AtE.blk_r ?_)))))
 refine AtE.then_r (AtE.then_r (AtE.blk_r (AtE.then_r ?_)))
 exact r1 2 Y Y Y H
 refine AtC.skip (tg (sR (pu hT 1 Y (AtL.q Y (lP hT 0 Y) (pu hT 2 Y ?_)))))
 refine ng (AtC.block ?_)
 refine AtC.loopM (fun (s0u1 : Int) => [(31, Value.int .i64 s0u1)]) (fun (s0u1 : Int) => []) [7, 8, 9, 29, 30] [31, 7, 8, 9, 29, 30] [] [] H Y Y Y (by decide) Y (fun Kp5 s0u1 h0u6 H Q5 HK5 => ?_)
 refine sR (pu hT 1 Y (ng (AtC.seq ?_)))
 refine AtC.condB H Y (fun H => ?_) (fun H => ?_)
 refine AtC.skip (tg (AtC.seq (AtC.block (sR ?_))))
 obtain ⟨a_2_, hc5, hd5, H⟩ := H
 refine AtL.q Y (Quiet1.idxS hT Y Y Y Y Y hc5 hd5) ?_
 obtain ⟨v_4, hc6, H⟩ := H
 refine AtL.q Y (Quiet1.loadS hT Y Y Y Y hc6) (AtL.e Y (EffX.allocP (cs := [_, _, _, _]) hT Y Y H) ?_)
 rintro _ _ ⟨b_1, _, rfl, rfl, _, H⟩
 replace H := H.self
 refine AtL.e Y (EffX.storeSP (i := 0) (qv := [(_, [_, _, _, _])]) hT Y Y Y Y Y Y Y Y Y Y) ?_
 rintro _ _ rfl
 refine ng (sR (pu hT 1 Y (AtL.q Y (lS hT 0 [_, _, _] Y Y Y Y Y Y Y Y) ?_)))
 refine AtLX.bs (hT := hT) (cs := [_, _, _]) H Y Y Y Y Y Y Y Y Y (fun a_3 h0u8 H => ?_)
 refine AtL.e Y (cl (fun h => law02uGreat _ h _) H Y Tryz.call10 Y (fun w m hr hw => lift_law02uGreat _ w m hr _ hw)) ?_
 rintro _ _ ⟨v_6, h0u9, rfl, rfl, H⟩
 refine ng ?_
 refine AtC.condB H Y (fun H => ?_) (fun H => ?_)
 refine sR (pu hT 1 Y (ng (AtC.ret (AtE.blk_r (AtE.then_r ?_)))))
 refine AtE.then_r (AtE.blk_r (AtE.blk_r (AtE.then_r (AtE.then_r (AtE.blk_r ?_)))))
 refine AtE.then_r ?_
 exact r1 2 Y Y Y H
 refine AtC.skip (AtE.blk_n (tg (AtC.region (pu hT 2 Y (AtL.nil ?_)))))
 exact AtE.then_n ((HK5 _ _ H).pickP (ts := [31, 7, 8, 9, 29, 30]) (is := []) Y Y (by decide) Y)
 refine AtC.exit (AtE.then_x (AtE.then_x (AtE.blk_hit (AtE.blk_n (tg ?_)))))
 refine AtC.region (pu hT 2 Y (AtL.nil ?_))
 exact AtE.then_n ((HK1 _ _ H).pickP (ts := [9, 7, 8]) (is := []) Y Y (by decide) Y)
 refine AtC.region (pu hT 1 Y (AtL.q Y (lP hT 0 Y) (pu hT 3 Y ?_)))
 refine AtL.splitB (t := 17) H Y (fun H => ?_) (fun H => ?_)
 refine nf Y (nf Y (nf Y (nf Y (pu hT 2 Y (nf Y ?_)))))
 refine nf Y (nf Y (pu hT 1 Y (AtL.nil ?_)))
 exact AtE.then_n ((HK4 _ () _ H).pickP (ts := [27, 4, 7, 8, 9]) (is := [0]) Y Y (by decide) Y)
 refine ys Y (pu hT 1 Y (ys Y (AtL.q Y (lS hT 0 [_, _, _] Y Y Y Y Y Y Y Y) (ys Y ?_))))
 refine AtLX.bs (hT := hT) (cs := [_, _, _]) H Y Y Y Y Y Y Y Y Y (fun a_1 h0u3 H => ?_)
 refine ys Y (AtL.e Y (cl (fun h => law02uGreat _ h _) H Y Tryz.call10 Y (fun w m hr hw => lift_law02uGreat _ w m hr _ hw)) ?_)
 rintro _ _ ⟨v_2, h0u4, rfl, rfl, H⟩
 refine pu hT 2 Y ?_
 refine AtL.splitB (t := 23) H Y (fun H => ?_) (fun H => ?_)
 refine nf Y (nf Y (nf Y (pu hT 1 Y (AtL.nil ?_))))
 exact AtE.then_n ((HK4 _ () _ H).pickP (ts := [27, 4, 7, 8, 9]) (is := [0]) Y Y (by decide) Y)
 refine ys Y (AtL.q Y (lS hT 0 [_, _, _, _] Y Y Y Y Y Y Y Y) (ys Y (AtL.e Y (cl (fun h => ref12uRight _ h _) H Y Tryz.call35 Y (fun w m hr hw => lift_ref12uRight _ w m hr _ hw)) ?_)))
 rintro _ _ ⟨v_3, h0u5, rfl, rfl, H⟩
 refine ys Y (pu hT 1 Y (pu hT 1 Y (AtL.nil ?_)))
 exact AtE.then_n ((HK4 _ () _ H).pickP (ts := [27, 4, 7, 8, 9]) (is := [0]) Y Y (by decide) Y)
 refine AtC.exit (AtE.then_x (AtE.then_x (AtE.blk_hit (tg (sR ?_)))))
 refine pu hT 1 Y (ng (AtC.ret ?_))
 exact r1 2 Y Y Y H
theorem lift_ref03uRight (x0 : Bool × Sl × Sl × Bool × Sl × Sl) (w : World) (m : Heap) (hr : Rel ⟨m, []⟩ w.heap) (S : Bool → Heap → Prop) (H : ref03uRight x0 m S) :
 Calls Tryz.prog 54 #[Value.agg (C_bool_sl_sl_bool_sl_sl x0).toArray] w (Post ⟨w, m⟩ Value.bool S) := by
 refine Calls.lift (args := [Value.agg (C_bool_sl_sl_bool_sl_sl x0).toArray]) Tryz.func54 Y Tryz.ntmps54 (Nat.le_of_ble_eq_true Y) hr (ref03uRight x0 m S) H (fun H => ?_)
 refine AtC.pick (ts := [0]) Y ?_
 unfold ref03uRight at H
 refine sR (AtL.e Y (EffX.boxP (cs := [_, _, _, _, _, _]) Y Y Y H) ?_)
 rintro _ _ ⟨b, _, rfl, rfl, _, H⟩
 replace H := H.self
 refine pu hT 1 Y (ng ?_)
 refine AtC.joinSeq (β := Unit) (fun (t0 : Bool) (bb : Unit) => [(2, Value.bool t0)]) (fun (t0 : Bool) (bb : Unit) => []) [] [] H Y Y (fun t0 bb h0u1 H => ?_) (fun J1 H HK1 => ?_)
 refine AtC.ret ?_
 exact r1 2 Y Y Y H
 refine AtC.region (pu hT 1 Y (AtL.q Y (lS hT 0 [_, _, _] Y Y Y Y Y Y Y Y) (AtL.e Y (cl (fun h => ref02uRight _ h _) H Y Tryz.call11 Y (fun w m hr hw => lift_ref02uRight _ w m hr _ hw)) ?_)))
 rintro _ _ ⟨v, h0u2, rfl, rfl, H⟩
 refine pu hT 1 Y ?_
 refine AtL.splitB (t := 6) H Y (fun H => ?_) (fun H => ?_)
 refine ys Y (pu hT 1 Y (ys Y (AtL.q Y (lS hT 0 [_, _, _] Y Y Y Y Y Y Y Y) (ys Y (AtL.e Y (cl (fun h => ref02uRight _ h _) H Y Tryz.call11 Y (fun w m hr hw => lift_ref02uRight _ w m hr _ hw)) ?_)))))
 rintro _ _ ⟨v_1, h0u3, rfl, rfl, H⟩
 refine pu hT 2 Y (AtL.nil ?_)
 exact AtE.then_n ((HK1 _ () _ H).pickP (ts := [2]) (is := []) Y Y (by decide) Y)
 refine nf Y (nf Y (nf Y (pu hT 2 Y (AtL.nil ?_))))
 exact AtE.then_n ((HK1 _ () _ H).pickP (ts := [2]) (is := []) Y Y (by decide) Y)
theorem lift_law03uOdd (l : Sl) (w : World) (m : Heap) (hr : Rel ⟨m, []⟩ w.heap) (S : Bool → Heap → Prop) (H : law03uOdd l m S) :
 Calls Tryz.prog 19 #[Sl.toV l] w (Post ⟨w, m⟩ Value.bool S) := by
 refine Calls.lift (args := [Sl.toV l]) Tryz.func19 Y Tryz.ntmps19 (Nat.le_of_ble_eq_true Y) hr (law03uOdd l m S) H (fun H => ?_)
 refine AtC.pick (ts := [0]) Y ?_
 unfold law03uOdd at H
 refine sR (pu hT 1 Y (ng (AtC.seq (sR (pu hT 3 Y ?_)))))
 refine ng (AtC.block ?_)
 refine AtC.loopM (fun (s0 : Int) => [(7, Value.int .i64 s0)]) (fun (s0 : Int) => []) [5, 6] [7, 5, 6] [] [] H Y Y Y (by decide) Y (fun Kp1 s0 h0 H Q1 HK1 => ?_)
 refine sR (pu hT 1 Y (ng (AtC.seq ?_)))
 refine AtC.condB H Y (fun H => ?_) (fun H => ?_)
 refine AtC.skip (tg (AtC.seq (AtC.block (sR ?_))))
 obtain ⟨a_, hc1, hd1, H⟩ := H
 refine AtL.q Y (Quiet1.idxS hT Y Y Y Y Y hc1 hd1) ?_
 obtain ⟨v, hc2, H⟩ := H
 refine AtL.q Y (Quiet1.loadS hT Y Y Y Y hc2) (AtL.e Y (EffX.allocP (cs := [_, _, _, _, _, _]) hT Y Y H) ?_)
 rintro _ _ ⟨b, _, rfl, rfl, _, H⟩
 replace H := H.self
 refine AtL.e Y (EffX.storeSP (i := 0) (qv := [(_, [_, _, _, _, _, _])]) hT Y Y Y Y Y Y Y Y Y Y) ?_
 rintro _ _ rfl
 refine ng ?_
 refine AtC.joinSeq (β := Unit) (fun (t0 : Bool) (bb : Unit) => [(21, Value.bool t0)]) (fun (t0 : Bool) (bb : Unit) => []) [5, 6, 7] [] H Y Y (fun t0 bb h0u2 H => ?_) (fun J4 H HK4 => ?_)
 refine AtC.condB H Y (fun H => ?_) (fun H => ?_)
 refine sR (pu hT 1 Y (ng (AtC.ret (AtE.blk_r (AtE.then_r ?_)))))
 refine AtE.then_r (AtE.blk_r (AtE.then_r ?_))
 exact r1 2 Y Y Y H
 refine AtC.skip (AtE.blk_n (tg (AtC.region (pu hT 2 Y (AtL.nil ?_)))))
 exact AtE.then_n ((HK1 _ _ H).pickP (ts := [7, 5, 6]) (is := []) Y Y (by decide) Y)
 refine AtC.region (pu hT 1 Y (AtL.q Y (lS hT 0 [_, _, _] Y Y Y Y Y Y Y Y) (pu hT 1 Y (AtL.q Y (lS hT 0 [_, _, _] Y Y Y Y Y Y Y Y) ?_))))
 refine AtLX.bs (hT := hT) (cs := [_, _, _, _, _, _]) H Y Y Y Y Y Y Y Y Y (fun a_1 h0u3 H => ?_)
 refine AtL.e Y (cl (fun h => law02uGreat _ h _) H Y Tryz.call10 Y (fun w m hr hw => lift_law02uGreat _ w m hr _ hw)) ?_
 rintro _ _ ⟨v_2, h0u4, rfl, rfl, H⟩
 refine pu hT 1 Y ?_
 refine AtL.splitB (t := 17) H Y (fun H => ?_) (fun H => ?_)
 refine nf Y (nf Y (nf Y (pu hT 1 Y (AtL.nil ?_))))
 exact AtE.then_n ((HK4 _ () _ H).pickP (ts := [21, 5, 6, 7]) (is := []) Y Y (by decide) Y)
 refine ys Y (AtL.q Y (lS hT 0 [_, _, _, _, _, _] Y Y Y Y Y Y Y Y) (ys Y (AtL.e Y (cl (fun h => ref03uRight _ h _) H Y Tryz.call54 Y (fun w m hr hw => lift_ref03uRight _ w m hr _ hw)) ?_)))
 rintro _ _ ⟨v_3, h0u5, rfl, rfl, H⟩
 refine ys Y (pu hT 1 Y (pu hT 1 Y (AtL.nil ?_)))
 exact AtE.then_n ((HK4 _ () _ H).pickP (ts := [21, 5, 6, 7]) (is := []) Y Y (by decide) Y)
 refine AtC.exit (AtE.then_x (AtE.then_x (AtE.blk_hit (tg (sR ?_)))))
 refine pu hT 1 Y (ng (AtC.ret ?_))
 exact r1 2 Y Y Y H
theorem lift_slices_Index_int_int (s0 : Sl) (v : Int) (w : World) (m : Heap) (hr : Rel ⟨m, []⟩ w.heap) (S : Int → Heap → Prop) (H : slices_Index_int_int s0 v m S) :
 Calls Tryz.prog 95 #[Sl.toV s0, Value.int .i64 v] w (Post ⟨w, m⟩ (Value.int .i64) S) := by
 refine Calls.lift (args := [Sl.toV s0, Value.int .i64 v]) Tryz.func95 Y Tryz.ntmps95 (Nat.le_of_ble_eq_true Y) hr (slices_Index_int_int s0 v m S) H (fun H => ?_)
 refine AtC.pick (ts := [0, 1]) Y ?_
 unfold slices_Index_int_int at H
 refine sR (pu hT 1 Y (ng (AtC.seq (sR (pu hT 3 Y ?_)))))
 refine ng (AtC.block ?_)
 refine AtC.loopM (fun (s0u1 : Int) => [(8, Value.int .i64 s0u1)]) (fun (s0u1 : Int) => []) [0, 1, 7] [8, 0, 1, 7] [] [] H Y Y Y (by decide) Y (fun Kp1 s0u1 h0 H Q1 HK1 => ?_)
 refine sR (pu hT 1 Y (ng (AtC.seq ?_)))
 refine AtC.condB H Y (fun H => ?_) (fun H => ?_)
 refine AtC.skip (tg (AtC.seq (AtC.block (sR (pu hT 2 Y ?_)))))
 refine ng (sR (pu hT 3 Y ?_))
 obtain ⟨a_, hc1, hd1, H⟩ := H
 refine AtL.q Y (Quiet1.idxS hT Y Y Y Y Y hc1 hd1) ?_
 obtain ⟨v_1, hc2, H⟩ := H
 refine AtL.q Y (Quiet1.load hT Y Y Y hc2) (pu hT 1 Y (ng ?_))
 refine AtC.condB H Y (fun H => ?_) (fun H => ?_)
 refine sR (pu hT 2 Y (ng (AtC.ret (AtE.blk_r (AtE.then_r ?_)))))
 refine AtE.then_r (AtE.blk_r (AtE.then_r ?_))
 exact r1 4 Y Y Y H
 refine AtC.skip (AtE.blk_n (tg (AtC.region (pu hT 2 Y (AtL.nil ?_)))))
 exact AtE.then_n ((HK1 _ _ H).pickP (ts := [8, 0, 1, 7]) (is := []) Y Y (by decide) Y)
 refine AtC.exit (AtE.then_x (AtE.then_x (AtE.blk_hit (tg (sR ?_)))))
 refine pu hT 1 Y (ng (AtC.ret ?_))
 exact r1 4 Y Y Y H
end Go.Proofs.YtjppcjbmepcneaaGreatDoor

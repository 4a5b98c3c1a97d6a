/-
  Laws that the proof of this claim's statement leans on, each proved under the conditions that it states.
-/
import Derived.Test.YtjppcjbmepcneaaGreatDoorLfC
set_option linter.unusedVariables false
set_option linter.unusedSimpArgs false
namespace Go.Proofs.YtjppcjbmepcneaaGreatDoor
open Go Go.Lift Go.Sh
set_option maxRecDepth 100000
set_option maxHeartbeats 40000000
attribute [local irreducible] Calls AtL AtC AtE AtD Eff Quiet1 Stg qAt QAll eAt EAll nextK Code.wp
theorem lift_ref14uRight (t0 : Sl × Sl × Sl × Sl × Sl) (w : World) (m : Heap) (hr : Rel ⟨m, []⟩ w.heap) (S : Bool → Heap → Prop) (H : ref14uRight t0 m S) :
 Calls Tryz.prog 21 #[Value.agg (C_sl_sl_sl_sl_sl t0).toArray] w (Post ⟨w, m⟩ Value.bool S) := by
 refine Calls.lift (args := [Value.agg (C_sl_sl_sl_sl_sl t0).toArray]) Tryz.func21 Y Tryz.ntmps21 (Nat.le_of_ble_eq_true Y) hr (ref14uRight t0 m S) H (fun H => ?_)
 refine AtC.pick (ts := [0]) Y ?_
 unfold ref14uRight at H
 refine sR (AtL.e Y (EffX.boxP (cs := [_, _, _, _, _]) Y Y Y H) ?_)
 rintro _ _ ⟨b, _, rfl, rfl, _, H⟩
 replace H := H.self
 refine pu hT 1 Y (ng (sR (pu hT 1 Y (AtL.q Y (lP hT 0 Y) (pu hT 2 Y ?_)))))
 replace H := H _ rfl
 refine ng (AtC.seq ?_)
 refine AtC.joinSeq (β := Unit) (fun (t0u1 : Bool) (bb : Unit) => [(32, Value.bool t0u1)]) (fun (t0u1 : Bool) (bb : Unit) => []) [1, 3] [0] H Y Y (fun t0u1 bb h0u1 H => ?_) (fun J1 H HK1 => ?_)
 refine AtC.condB H Y (fun H => ?_) (fun H => ?_)
 refine sR (pu hT 1 Y (ng (AtC.ret (AtE.then_r ?_))))
 exact r1 2 Y Y Y H
 refine AtC.skip (tg (AtC.seq (sR (pu hT 1 Y (ng ?_)))))
 refine AtC.block ?_
 refine AtC.loopM (fun (s0 : Int) => [(4, Value.int .i64 s0)]) (fun (s0 : Int) => []) [1, 3] [4, 1, 3] [0] [0] H Y Y Y (by decide) Y (fun Kp2 s0 h0u2 H Q2 HK2 => ?_)
 refine AtC.seq (sR (pu hT 3 Y (ng ?_)))
 refine AtC.condB H Y (fun H => ?_) (fun H => ?_)
 refine AtC.skip (tg (AtC.seq (AtC.block (AtC.seq ?_))))
 refine AtC.joinSeq (β := Unit) (fun (t0u2 : Bool) (bb_1 : Unit) => [(64, Value.bool t0u2)]) (fun (t0u2 : Bool) (bb_1 : Unit) => []) [1, 3, 4] [0] H Y Y (fun t0u2 bb_1 h0u3 H => ?_) (fun J3 H HK3 => ?_)
 refine AtC.condB H Y (fun H => ?_) (fun H => ?_)
 refine sR (pu hT 1 Y (ng (AtC.ret (AtE.then_r (AtE.blk_r ?_)))))
 refine AtE.then_r (AtE.then_r (AtE.blk_r (AtE.then_r ?_)))
 exact r1 2 Y Y Y H
 refine AtC.skip (tg ?_)
 refine AtC.joinSeq (β := Unit) (fun (t0u3 : Bool) (bb_2 : Unit) => [(102, Value.bool t0u3)]) (fun (t0u3 : Bool) (bb_2 : Unit) => []) [1, 3, 4] [0] H Y Y (fun t0u3 bb_2 h0u7 H => ?_) (fun J10 H HK10 => ?_)
 refine AtC.condB H Y (fun H => ?_) (fun H => ?_)
 refine sR (pu hT 1 Y (ng (AtC.ret (AtE.blk_r (AtE.then_r ?_)))))
 refine AtE.then_r (AtE.blk_r (AtE.then_r ?_))
 exact r1 2 Y Y Y H
 refine AtC.skip (AtE.blk_n (tg (AtC.region (pu hT 3 Y ?_))))
 replace H := H _ rfl
 refine AtL.nil ?_
 exact AtE.then_n ((HK2 _ _ H).pickP (ts := [4, 1, 3]) (is := [0]) Y Y (by decide) Y)
 refine AtC.region (pu hT 1 Y (AtL.q Y (lP hT 0 Y) (pu hT 1 Y ?_)))
 obtain ⟨a_3_, hc10, hd10, H⟩ := H
 refine AtL.q Y (Quiet1.idxS hT Y Y Y Y Y hc10 hd10) (pu hT 1 Y ?_)
 obtain ⟨v_6, hc11, H⟩ := H
 refine AtL.q Y (Quiet1.load hT Y Y Y hc11) (pu hT 2 Y ?_)
 refine AtL.splitB (t := 72) H Y (fun H => ?_) (fun H => ?_)
 refine ys Y (pu hT 1 Y (ys Y (AtL.q Y (lP hT 0 Y) (ys Y (pu hT 1 Y ?_)))))
 refine ys Y ?_
 obtain ⟨a_4_, hc12, hd12, H⟩ := H
 refine AtL.q Y (Quiet1.idxS hT Y Y Y Y Y hc12 hd12) (ys Y (pu hT 1 Y (ys Y ?_)))
 obtain ⟨v_7, hc13, H⟩ := H
 refine AtL.q Y (Quiet1.loadS hT Y Y Y Y hc13) (ys Y (AtL.q Y (Quiet1.build (cs := [_, _, _, _, _, _]) hT Y Y Y Y Y Y) (ys Y (AtL.e Y (cl (fun h => ref03uSame _ _ h _) H Y Tryz.call68 Y (fun w m hr hw => lift_ref03uSame _ _ w m hr _ hw)) ?_))))
 rintro _ _ ⟨v_8, h0u8, rfl, rfl, H⟩
 refine ys Y (pu hT 1 Y (pu hT 2 Y ?_))
 refine AtL.splitB (t := 83) H Y (fun H => ?_) (fun H => ?_)
 refine nf Y (nf Y (nf Y (nf Y (nf Y (nf Y ?_)))))
 refine nf Y (nf Y (AtL.noU Y Y Y Y (AtL.noU Y Y Y Y (AtL.noU Y Y Y Y (AtL.noU Y Y Y Y ?_)))))
 refine AtL.noU Y Y Y Y (AtL.noU Y Y Y Y (AtL.noU Y Y Y Y (AtL.noU Y Y Y Y (AtL.noU Y Y Y Y (nf Y ?_)))))
 refine pu hT 1 Y (AtL.nil ?_)
 exact AtE.then_n ((HK10 _ () _ H).pickP (ts := [102, 1, 3, 4]) (is := [0]) Y Y (by decide) Y)
 refine ys Y (pu hT 1 Y (ys Y (AtL.q Y (lP hT 0 Y) (ys Y (pu hT 1 Y ?_)))))
 refine ys Y ?_
 obtain ⟨a_5_, hc14, hd14, H⟩ := H
 refine AtL.q Y (Quiet1.idxS hT Y Y Y Y Y hc14 hd14) (ys Y (pu hT 1 Y (ys Y ?_)))
 obtain ⟨v_9, hc15, H⟩ := H
 refine AtL.q Y (Quiet1.load hT Y Y Y hc15) (ys Y (pu hT 1 Y (ys Y (pu hT 1 Y ?_))))
 refine AtL.splitB (t := 91) H Y (fun H => ?_) (fun H => ?_)
 refine ys Y (pu hT 1 Y (ys Y (AtL.q Y (lP hT 0 Y) (ys Y (pu hT 1 Y ?_)))))
 refine ys Y ?_
 obtain ⟨a_6_, hc16, hd16, H⟩ := H
 refine AtL.q Y (Quiet1.idxS hT Y Y Y Y Y hc16 hd16) (ys Y (pu hT 1 Y (ys Y ?_)))
 obtain ⟨v_10, hc17, H⟩ := H
 refine AtL.q Y (Quiet1.loadS hT Y Y Y Y hc17) (ys Y (AtL.q Y (Quiet1.build (cs := [_, _, _, _, _, _]) hT Y Y Y Y Y Y) (ys Y (AtL.e Y (cl (fun h => ref03uSame _ _ h _) H Y Tryz.call68 Y (fun w m hr hw => lift_ref03uSame _ _ w m hr _ hw)) ?_))))
 rintro _ _ ⟨v_11, h0u9, rfl, rfl, H⟩
 refine ys Y (pu hT 1 Y (ys Y (pu hT 1 Y (pu hT 1 Y (AtL.nil ?_)))))
 exact AtE.then_n ((HK10 _ () _ H).pickP (ts := [102, 1, 3, 4]) (is := [0]) Y Y (by decide) Y)
 refine nf Y (nf Y (nf Y (nf Y (nf Y (nf Y ?_)))))
 refine nf Y (nf Y (nf Y (ys Y (pu hT 1 Y (pu hT 1 Y ?_)))))
 refine AtL.nil ?_
 exact AtE.then_n ((HK10 _ () _ H).pickP (ts := [102, 1, 3, 4]) (is := [0]) Y Y (by decide) Y)
 refine nf Y (nf Y (nf Y (nf Y (nf Y (nf Y ?_)))))
 refine nf Y (nf Y (nf Y (pu hT 2 Y (ys Y (pu hT 1 Y ?_)))))
 refine ys Y (AtL.q Y (lP hT 0 Y) (ys Y (pu hT 1 Y (ys Y ?_))))
 obtain ⟨a_7_, hc18, hd18, H⟩ := H
 refine AtL.q Y (Quiet1.idxS hT Y Y Y Y Y hc18 hd18) (ys Y (pu hT 1 Y (ys Y ?_)))
 obtain ⟨v_12, hc19, H⟩ := H
 refine AtL.q Y (Quiet1.load hT Y Y Y hc19) (ys Y (pu hT 1 Y (ys Y (pu hT 1 Y ?_))))
 refine AtL.splitB (t := 91) H Y (fun H => ?_) (fun H => ?_)
 refine ys Y (pu hT 1 Y (ys Y (AtL.q Y (lP hT 0 Y) (ys Y (pu hT 1 Y ?_)))))
 refine ys Y ?_
 obtain ⟨a_8_, hc20, hd20, H⟩ := H
 refine AtL.q Y (Quiet1.idxS hT Y Y Y Y Y hc20 hd20) (ys Y (pu hT 1 Y (ys Y ?_)))
 obtain ⟨v_13, hc21, H⟩ := H
 refine AtL.q Y (Quiet1.loadS hT Y Y Y Y hc21) (ys Y (AtL.q Y (Quiet1.build (cs := [_, _, _, _, _, _]) hT Y Y Y Y Y Y) (ys Y (AtL.e Y (cl (fun h => ref03uSame _ _ h _) H Y Tryz.call68 Y (fun w m hr hw => lift_ref03uSame _ _ w m hr _ hw)) ?_))))
 rintro _ _ ⟨v_14, h0u10, rfl, rfl, H⟩
 refine ys Y (pu hT 1 Y (ys Y (pu hT 1 Y (pu hT 1 Y (AtL.nil ?_)))))
 exact AtE.then_n ((HK10 _ () _ H).pickP (ts := [102, 1, 3, 4]) (is := [0]) Y Y (by decide) Y)
 refine nf Y (nf Y (nf Y (nf Y (nf Y (nf Y ?_)))))
 refine nf Y (nf Y (nf Y (ys Y (pu hT 1 Y (pu hT 1 Y ?_)))))
 refine AtL.nil ?_
 exact AtE.then_n ((HK10 _ () _ H).pickP (ts := [102, 1, 3, 4]) (is := [0]) Y Y (by decide) Y)
 refine AtC.region (pu hT 1 Y (AtL.q Y (lP hT 0 Y) (pu hT 1 Y ?_)))
 obtain ⟨a_, hc3, hd3, H⟩ := H
 refine AtL.q Y (Quiet1.idxS hT Y Y Y Y Y hc3 hd3) ?_
 obtain ⟨v, hc4, H⟩ := H
 refine AtL.q Y (Quiet1.loadS hT Y Y Y Y hc4) (AtL.e Y (cl (fun h => ref14unumber _ h _) H Y Tryz.call67 Y (fun w m hr hw => lift_ref14unumber _ w m hr _ hw)) ?_)
 rintro _ _ ⟨v_1, h0u4, rfl, rfl, H⟩
 refine pu hT 2 Y ?_
 refine AtL.splitB (t := 45) H Y (fun H => ?_) (fun H => ?_)
 refine nf Y (nf Y (nf Y (nf Y (nf Y (nf Y ?_)))))
 refine nf Y (nf Y (pu hT 2 Y (nf Y (nf Y (nf Y ?_)))))
 refine nf Y (nf Y (nf Y (nf Y (nf Y (pu hT 1 Y ?_)))))
 refine AtL.nil ?_
 exact AtE.then_n ((HK3 _ () _ H).pickP (ts := [64, 1, 3, 4]) (is := [0]) Y Y (by decide) Y)
 refine ys Y (pu hT 1 Y (ys Y (AtL.q Y (lP hT 0 Y) (ys Y (pu hT 1 Y ?_)))))
 refine ys Y ?_
 obtain ⟨a_1_, hc5, hd5, H⟩ := H
 refine AtL.q Y (Quiet1.idxS hT Y Y Y Y Y hc5 hd5) (ys Y (pu hT 1 Y (ys Y ?_)))
 obtain ⟨v_2, hc6, H⟩ := H
 refine AtL.q Y (Quiet1.loadS hT Y Y Y Y hc6) (ys Y (AtL.e Y (cl (fun h => ref14unumber _ h _) H Y Tryz.call67 Y (fun w m hr hw => lift_ref14unumber _ w m hr _ hw)) ?_))
 rintro _ _ ⟨v_3, h0u5, rfl, rfl, H⟩
 refine ys Y (pu hT 1 Y (pu hT 2 Y ?_))
 refine AtL.splitB (t := 55) H Y (fun H => ?_) (fun H => ?_)
 refine nf Y (nf Y (nf Y (nf Y (nf Y (nf Y ?_)))))
 refine nf Y (nf Y (pu hT 1 Y (AtL.nil ?_)))
 exact AtE.then_n ((HK3 _ () _ H).pickP (ts := [64, 1, 3, 4]) (is := [0]) Y Y (by decide) Y)
 refine ys Y (pu hT 1 Y (ys Y (AtL.q Y (lP hT 0 Y) (ys Y (pu hT 1 Y ?_)))))
 refine ys Y ?_
 obtain ⟨a_2_, hc7, hd7, H⟩ := H
 refine AtL.q Y (Quiet1.idxS hT Y Y Y Y Y hc7 hd7) (ys Y (pu hT 1 Y (ys Y ?_)))
 obtain ⟨v_4, hc8, H⟩ := H
 refine AtL.q Y (Quiet1.loadS hT Y Y Y Y hc8) (ys Y (AtL.e Y (cl (fun h => ref14unumber _ h _) H Y Tryz.call67 Y (fun w m hr hw => lift_ref14unumber _ w m hr _ hw)) ?_))
 rintro _ _ ⟨v_5, h0u6, rfl, rfl, H⟩
 refine ys Y (pu hT 1 Y (pu hT 1 Y (AtL.nil ?_)))
 exact AtE.then_n ((HK3 _ () _ H).pickP (ts := [64, 1, 3, 4]) (is := [0]) Y Y (by decide) Y)
 refine AtC.exit (AtE.then_x (AtE.then_x (AtE.blk_hit (tg (AtC.seq ?_)))))
 refine sR (pu hT 1 Y (ng (AtC.block ?_)))
 refine AtC.loopM (fun (s0u1 : Int) => [(5, Value.int .i64 s0u1)]) (fun (s0u1 : Int) => []) [1, 3] [5, 1, 3] [0] [0] H Y Y Y (by decide) Y (fun Kp23 s0u1 h0u11 H Q23 HK23 => ?_)
 refine AtC.seq (sR (pu hT 2 Y (AtL.q Y (lP hT 0 Y) (pu hT 2 Y (ng ?_)))))
 refine AtC.condB H Y (fun H => ?_) (fun H => ?_)
 refine AtC.skip (tg (AtC.seq (AtC.block (sR (pu hT 1 Y ?_)))))
 refine AtL.q Y (lP hT 0 Y) (pu hT 1 Y ?_)
 obtain ⟨a_9_, hc23, hd23, H⟩ := H
 refine AtL.q Y (Quiet1.idxS hT Y Y Y Y Y hc23 hd23) ?_
 obtain ⟨v_15, hc24, H⟩ := H
 refine AtL.q Y (Quiet1.load hT Y Y Y hc24) (pu hT 1 Y (ng (AtC.seq ?_)))
 refine AtC.joinSeq (β := Unit) (fun (t0u4 : Bool) (bb_3 : Unit) => [(149, Value.bool t0u4)]) (fun (t0u4 : Bool) (bb_3 : Unit) => []) [1, 3, 5, 6] [0] H Y Y (fun t0u4 bb_3 h0u12 H => ?_) (fun J26 H HK26 => ?_)
 refine AtC.condB H Y (fun H => ?_) (fun H => ?_)
 refine sR (pu hT 1 Y (ng (AtC.ret (AtE.then_r (AtE.blk_r ?_)))))
 refine AtE.then_r (AtE.then_r (AtE.blk_r (AtE.then_r ?_)))
 exact r1 2 Y Y Y H
 refine AtC.skip (tg (AtC.seq (sR (pu hT 1 Y (ng ?_)))))
 refine AtC.block ?_
 refine AtC.loopM (fun (s0u2 : Int) => [(7, Value.int .i64 s0u2)]) (fun (s0u2 : Int) => []) [1, 3, 5, 6] [7, 1, 3, 5, 6] [0] [0] H Y Y Y (by decide) Y (fun Kp31 s0u2 h0u15 H Q31 HK31 => ?_)
 refine AtC.seq (sR (pu hT 2 Y (AtL.q Y (lP hT 0 Y) (pu hT 1 Y ?_))))
 obtain ⟨a_12_, hc31, hd31, H⟩ := H
 refine AtL.q Y (Quiet1.idxS hT Y Y Y Y Y hc31 hd31) (pu hT 1 Y ?_)
 obtain ⟨v_20, hc32, H⟩ := H
 refine AtL.q Y (Quiet1.load hT Y Y Y hc32) (pu hT 2 Y (ng ?_))
 refine AtC.condB H Y (fun H => ?_) (fun H => ?_)
 refine AtC.skip (tg (AtC.seq (AtC.block (sR (pu hT 1 Y ?_)))))
 refine AtL.q Y (lP hT 0 Y) (pu hT 1 Y ?_)
 obtain ⟨a_13_, hc33, hd33, H⟩ := H
 refine AtL.q Y (Quiet1.idxS hT Y Y Y Y Y hc33 hd33) (pu hT 1 Y ?_)
 obtain ⟨v_21, hc34, H⟩ := H
 refine AtL.q Y (Quiet1.load hT Y Y Y hc34) (pu hT 1 Y ?_)
 obtain ⟨a_14_, hc35, hd35, H⟩ := H
 refine AtL.q Y (Quiet1.idxS hT Y Y Y Y Y hc35 hd35) (pu hT 1 Y ?_)
 obtain ⟨v_22, hc36, H⟩ := H
 refine AtL.q Y (Quiet1.load hT Y Y Y hc36) (pu hT 1 Y (ng ?_))
 refine AtC.joinSeq (β := Unit) (fun (t0u5 : Bool) (bb_4 : Unit) => [(179, Value.bool t0u5)]) (fun (t0u5 : Bool) (bb_4 : Unit) => []) [1, 3, 5, 6, 7] [0] H Y Y (fun t0u5 bb_4 h0u16 H => ?_) (fun J38 H HK38 => ?_)
 refine AtC.condB H Y (fun H => ?_) (fun H => ?_)
 refine sR (pu hT 1 Y (ng (AtC.ret (AtE.blk_r (AtE.then_r ?_)))))
 refine AtE.then_r (AtE.blk_r (AtE.then_r (AtE.blk_r (AtE.then_r (AtE.then_r ?_)))))
 refine AtE.blk_r (AtE.then_r ?_)
 exact r1 2 Y Y Y H
 refine AtC.skip (AtE.blk_n (tg (AtC.region (pu hT 3 Y ?_))))
 replace H := H _ rfl
 refine AtL.nil ?_
 exact AtE.then_n ((HK31 _ _ H).pickP (ts := [7, 1, 3, 5, 6]) (is := [0]) Y Y (by decide) Y)
 refine AtC.region (pu hT 4 Y ?_)
 refine AtL.splitB (t := 174) H Y (fun H => ?_) (fun H => ?_)
 refine nf Y (nf Y (nf Y (nf Y (pu hT 1 Y (AtL.nil ?_)))))
 exact AtE.then_n ((HK38 _ () _ H).pickP (ts := [179, 1, 3, 5, 6, 7]) (is := [0]) Y Y (by decide) Y)
 refine ys Y (AtL.q Y (lS hT 0 [_, _, _, _, _] Y Y Y Y Y Y Y Y) (ys Y (pu hT 1 Y (ys Y (AtL.e Y (cl (fun h => ref14uRow _ _ h _) H Y Tryz.call34 Y (fun w m hr hw => lift_ref14uRow _ _ w m hr _ hw)) ?_)))))
 rintro _ _ ⟨v_23, h0u17, rfl, rfl, H⟩
 refine ys Y (pu hT 1 Y (pu hT 1 Y (AtL.nil ?_)))
 exact AtE.then_n ((HK38 _ () _ H).pickP (ts := [179, 1, 3, 5, 6, 7]) (is := [0]) Y Y (by decide) Y)
 refine AtC.exit (AtE.then_x (AtE.then_x (AtE.blk_hit (tg ?_))))
 obtain ⟨a_15_, hc38, hd38, H⟩ := H
 obtain ⟨v_24, hc39, H⟩ := H
 obtain ⟨a_16_, hc40, hd40, H⟩ := H
 obtain ⟨v_25, hc41, H⟩ := H
 apply AtC.seqS [7, 13, 14] [[], [], [], [], [], [], [], [], [], [], [], [], [], [7], [7, 13], [7, 13, 14]] [[], [0], [], [0, 1, 2], [0, 1, 2, 3], [], [5], [0, 1, 2, 3, 4, 5, 6], [], [8], [], [8, 9, 10], [8, 9, 10, 11], [0, 1, 2, 3, 4, 5, 6, 7, 8, 9, 10, 11, 12], [0, 1, 2, 3, 4, 5, 6, 7, 8, 9, 10, 11, 12, 13], [0, 1, 2, 3, 4, 5, 6, 7, 8, 9, 10, 11, 12, 13, 14]] hmix (by kernel_rfl) [(180, _), (181, _), (182, _), (183, _), (184, _), (185, _), (186, _), (188, _), (189, _), (190, _), (191, _), (192, _)] Y 3 Y
 refine Stg.go [0, 1, 2, 3, 4, 5, 6, 8, 9, 10, 11, 12] [7] Y Y (qp hT Y (qq Y (lP hT 0 Y) Y (qp hT Y (qq Y (Quiet1.idxS hT Y Y Y Y Y hc38 hd38) Y (qq Y (Quiet1.loadS hT Y Y Y Y hc39) Y (qp hT Y (qq Y (lP hT 0 Y) Y (qp hT Y (qq Y (lP hT 0 Y) Y (qp hT Y (qq Y (Quiet1.idxS hT Y Y Y Y Y hc40 hd40) Y (qq Y (Quiet1.loadS hT Y Y Y Y hc41) Y QAll.nil)))))))))))) ?_
 refine EAll.cons ?_ EAll.nil
 refine EOp.e Y Y Y (cl (fun h => ref14uValue _ _ h _) H Y Tryz.call69 Y (fun w m hr hw => lift_ref14uValue _ _ w m hr _ hw)) ?_
 rintro _ _ ⟨v_26, h0u18, rfl, rfl, H⟩
 obtain ⟨hc42, H⟩ := H
 apply Stg.next [(187, _)] Y Y
 refine Stg.go [8, 9, 10, 11, 12] [13] Y Y (qp hT Y (qq Y (lP hT 0 Y) Y (qp hT Y (qq Y (Quiet1.idxS hT Y Y Y Y Y hc40 hd40) Y (qq Y (Quiet1.loadS hT Y Y Y Y hc42) Y QAll.nil))))) ?_
 refine EAll.cons ?_ EAll.nil
 refine EOp.e Y Y Y (cl (fun h => ref03uOf _ h _) H Y Tryz.call16 Y (fun w m hr hw => lift_ref03uOf _ w m hr _ hw)) ?_
 rintro _ _ ⟨v_27, h0u19, rfl, rfl, H⟩
 apply Stg.next [(193, _)] Y Y
 refine Stg.go [] [14] Y Y QAll.nil ?_
 refine EAll.cons ?_ EAll.nil
 refine EOp.e Y Y Y (cl (fun h => ref03uCmp _ _ h _) H Y Tryz.call15 Y (fun w m hr hw => lift_ref03uCmp _ _ w m hr _ hw)) ?_
 rintro _ _ ⟨v_28, h0u20, rfl, rfl, H⟩
 apply Stg.next [(194, _), (195, _)] Y Y
 refine Stg.fin [15] Y Y (qp hT Y QAll.nil) (tg ?_)
 refine AtC.condB H Y (fun H => ?_) (fun H => ?_)
 refine sR (pu hT 1 Y (ng (AtC.ret (AtE.blk_r (AtE.then_r ?_)))))
 refine AtE.then_r (AtE.blk_r (AtE.then_r ?_))
 exact r1 2 Y Y Y H
 refine AtC.skip (AtE.blk_n (tg (AtC.region (pu hT 3 Y ?_))))
 replace H := H _ rfl
 refine AtL.nil ?_
 exact AtE.then_n ((HK23 _ _ H).pickP (ts := [5, 1, 3]) (is := [0]) Y Y (by decide) Y)
 refine AtC.region (pu hT 3 Y ?_)
 refine AtL.splitB (t := 117) H Y (fun H => ?_) (fun H => ?_)
 refine nf Y (nf Y (nf Y (pu hT 2 Y (nf Y (nf Y ?_)))))
 refine nf Y (nf Y (nf Y (pu hT 2 Y (nf Y (nf Y ?_)))))
 refine nf Y (nf Y (nf Y (nf Y (nf Y (pu hT 2 Y ?_)))))
 refine nf Y (nf Y (nf Y (nf Y (nf Y (nf Y ?_)))))
 refine nf Y (nf Y (nf Y (nf Y (pu hT 1 Y (AtL.nil ?_)))))
 exact AtE.then_n ((HK26 _ () _ H).pickP (ts := [149, 1, 3, 5, 6]) (is := [0]) Y Y (by decide) Y)
 refine ys Y (pu hT 1 Y (ys Y (pu hT 1 Y (ys Y (pu hT 1 Y ?_)))))
 refine pu hT 2 Y ?_
 refine AtL.splitB (t := 122) H Y (fun H => ?_) (fun H => ?_)
 refine nf Y (nf Y (nf Y (nf Y (nf Y (pu hT 2 Y ?_)))))
 refine nf Y (nf Y (nf Y (nf Y (nf Y (nf Y ?_)))))
 refine nf Y (pu hT 2 Y (nf Y (nf Y (nf Y (nf Y ?_)))))
 refine nf Y (nf Y (nf Y (nf Y (nf Y (nf Y ?_)))))
 refine pu hT 1 Y (AtL.nil ?_)
 exact AtE.then_n ((HK26 _ () _ H).pickP (ts := [149, 1, 3, 5, 6]) (is := [0]) Y Y (by decide) Y)
 refine ys Y (AtL.q Y (lS hT 0 [_, _, _, _, _] Y Y Y Y Y Y Y Y) (ys Y (pu hT 1 Y (ys Y (AtL.e Y (cl (fun h => ref14uRow _ _ h _) H Y Tryz.call34 Y (fun w m hr hw => lift_ref14uRow _ _ w m hr _ hw)) ?_)))))
 rintro _ _ ⟨v_16, h0u13, rfl, rfl, H⟩
 refine ys Y (pu hT 1 Y (ys Y (pu hT 1 Y (pu hT 2 Y ?_))))
 refine AtL.splitB (t := 129) H Y (fun H => ?_) (fun H => ?_)
 refine nf Y (nf Y (nf Y (nf Y (nf Y (nf Y ?_)))))
 refine nf Y (pu hT 2 Y (nf Y (nf Y (nf Y (nf Y ?_)))))
 refine nf Y (nf Y (nf Y (nf Y (nf Y (nf Y ?_)))))
 refine pu hT 1 Y (AtL.nil ?_)
 exact AtE.then_n ((HK26 _ () _ H).pickP (ts := [149, 1, 3, 5, 6]) (is := [0]) Y Y (by decide) Y)
 refine ys Y (pu hT 1 Y (ys Y (AtL.q Y (lP hT 0 Y) (ys Y (pu hT 1 Y ?_)))))
 refine ys Y ?_
 obtain ⟨a_10_, hc26, hd26, H⟩ := H
 refine AtL.q Y (Quiet1.idxS hT Y Y Y Y Y hc26 hd26) (ys Y ?_)
 obtain ⟨v_17, hc27, H⟩ := H
 refine AtL.q Y (Quiet1.loadS hT Y Y Y Y hc27) (ys Y (AtL.e Y (cl (fun h => ref12uRight _ h _) H Y Tryz.call35 Y (fun w m hr hw => lift_ref12uRight _ w m hr _ hw)) ?_))
 rintro _ _ ⟨v_18, h0u14, rfl, rfl, H⟩
 refine ys Y (pu hT 1 Y (pu hT 2 Y ?_))
 refine AtL.splitB (t := 138) H Y (fun H => ?_) (fun H => ?_)
 refine nf Y (nf Y (nf Y (nf Y (nf Y (nf Y ?_)))))
 refine nf Y (nf Y (nf Y (nf Y (pu hT 1 Y (AtL.nil ?_)))))
 exact AtE.then_n ((HK26 _ () _ H).pickP (ts := [149, 1, 3, 5, 6]) (is := [0]) Y Y (by decide) Y)
 refine ys Y (pu hT 1 Y (ys Y (AtL.q Y (lP hT 0 Y) (ys Y (pu hT 1 Y ?_)))))
 refine ys Y ?_
 obtain ⟨a_11_, hc28, hd28, H⟩ := H
 refine AtL.q Y (Quiet1.idxS hT Y Y Y Y Y hc28 hd28) (ys Y (pu hT 1 Y (ys Y (pu hT 1 Y (ys Y ?_)))))
 refine pu hT 1 Y (ys Y ?_)
 obtain ⟨v_19, hc29, H⟩ := H
 refine AtL.q Y (Quiet1.load hT Y Y Y hc29) (ys Y (pu hT 1 Y (ys Y (pu hT 1 Y (pu hT 1 Y ?_)))))
 refine AtL.nil ?_
 exact AtE.then_n ((HK26 _ () _ H).pickP (ts := [149, 1, 3, 5, 6]) (is := [0]) Y Y (by decide) Y)
 refine AtC.exit (AtE.then_x (AtE.then_x (AtE.blk_hit (tg (sR ?_)))))
 refine pu hT 1 Y (ng (AtC.ret ?_))
 exact r1 2 Y Y Y H
 refine AtC.region (pu hT 1 Y (AtL.q Y (lP hT 0 Y) (pu hT 2 Y (AtL.q Y (lP hT 0 Y) (pu hT 3 Y ?_)))))
 refine AtL.splitB (t := 19) H Y (fun H => ?_) (fun H => ?_)
 refine nf Y (nf Y (nf Y (nf Y (nf Y (pu hT 2 Y ?_)))))
 refine nf Y (nf Y (nf Y (nf Y (nf Y (pu hT 1 Y ?_)))))
 refine AtL.nil ?_
 exact AtE.then_n ((HK1 _ () _ H).pickP (ts := [32, 1, 3]) (is := [0]) Y Y (by decide) Y)
 refine ys Y (pu hT 1 Y (ys Y (AtL.q Y (lP hT 0 Y) (ys Y (pu hT 1 Y ?_)))))
 refine ys Y (pu hT 1 Y (ys Y (pu hT 1 Y (pu hT 2 Y ?_))))
 refine AtL.splitB (t := 26) H Y (fun H => ?_) (fun H => ?_)
 refine nf Y (nf Y (nf Y (nf Y (nf Y (pu hT 1 Y ?_)))))
 refine AtL.nil ?_
 exact AtE.then_n ((HK1 _ () _ H).pickP (ts := [32, 1, 3]) (is := [0]) Y Y (by decide) Y)
 refine ys Y (pu hT 1 Y (ys Y (AtL.q Y (lP hT 0 Y) (ys Y (pu hT 1 Y ?_)))))
 refine ys Y (pu hT 1 Y (ys Y (pu hT 1 Y (pu hT 1 Y (AtL.nil ?_)))))
 exact AtE.then_n ((HK1 _ () _ H).pickP (ts := [32, 1, 3]) (is := [0]) Y Y (by decide) Y)
theorem lift_slices_Equal_int_int (s1 : Sl) (s2 : Sl) (w : World) (m : Heap) (hr : Rel ⟨m, []⟩ w.heap) (S : Bool → Heap → Prop) (H : slices_Equal_int_int s1 s2 m S) :
 Calls Tryz.prog 71 #[Sl.toV s1, Sl.toV s2] w (Post ⟨w, m⟩ Value.bool S) := by
 refine Calls.lift (args := [Sl.toV s1, Sl.toV s2]) Tryz.func71 Y Tryz.ntmps71 (Nat.le_of_ble_eq_true Y) hr (slices_Equal_int_int s1 s2 m S) H (fun H => ?_)
 refine AtC.pick (ts := [0, 1]) Y ?_
 unfold slices_Equal_int_int at H
 refine sR (pu hT 1 Y (ng (AtC.seq (sR (pu hT 5 Y ?_)))))
 refine ng ?_
 refine AtC.condB H Y (fun H => ?_) (fun H => ?_)
 refine sR (pu hT 1 Y (ng (AtC.ret (AtE.then_r ?_))))
 exact r1 4 Y Y Y H
 refine AtC.skip (tg (AtC.seq (sR (pu hT 3 Y (ng ?_)))))
 refine AtC.block ?_
 refine AtC.loopM (fun (s0 : Int) => [(13, Value.int .i64 s0)]) (fun (s0 : Int) => []) [0, 1, 12] [13, 0, 1, 12] [] [] H Y Y Y (by decide) Y (fun Kp1 s0 h0 H Q1 HK1 => ?_)
 refine sR (pu hT 1 Y (ng (AtC.seq ?_)))
 refine AtC.condB H Y (fun H => ?_) (fun H => ?_)
 refine AtC.skip (tg (AtC.seq (AtC.block (sR (pu hT 2 Y ?_)))))
 refine ng (AtC.seqD hmix (by kernel_rfl) (AtD.pures hT 2 _ _ _ _ Y ?_))
 obtain ⟨a_, hc1, hd1, H⟩ := H
 refine AtD.q Y (Quiet1.idxS hT Y Y Y Y Y hc1 hd1) ?_
 obtain ⟨v, hc2, H⟩ := H
 refine AtD.q Y (Quiet1.load hT Y Y Y hc2) (AtD.pures hT 2 _ _ _ _ Y ?_)
 obtain ⟨a_1_, hc3, hd3, H⟩ := H
 refine AtD.q Y (Quiet1.idxS hT Y Y Y Y Y hc3 hd3) ?_
 obtain ⟨v_1, hc4, H⟩ := H
 refine AtD.q Y (Quiet1.load hT Y Y Y hc4) (AtD.pures hT 1 _ _ _ _ Y (AtD.nil (tg ?_)))
 refine AtC.condB H Y (fun H => ?_) (fun H => ?_)
 refine sR (pu hT 1 Y (ng (AtC.ret (AtE.blk_r (AtE.then_r ?_)))))
 refine AtE.then_r (AtE.blk_r (AtE.then_r ?_))
 exact r1 4 Y Y Y H
 refine AtC.skip (AtE.blk_n (tg (AtC.region (pu hT 2 Y (AtL.nil ?_)))))
 exact AtE.then_n ((HK1 _ _ H).pickP (ts := [13, 0, 1, 12]) (is := []) Y Y (by decide) Y)
 refine AtC.exit (AtE.then_x (AtE.then_x (AtE.blk_hit (tg (sR ?_)))))
 refine pu hT 1 Y (ng (AtC.ret ?_))
 exact r1 4 Y Y Y H
theorem lift_linear_Same_c1 (x0 : Int × Bool × Sl × Sl) (y : Int × Bool × Sl × Sl) (w : World) (m : Heap) (hr : Rel ⟨m, []⟩ w.heap) (S : Bool → Heap → Prop) (H : linear_Same_c1 x0 y m S) :
 Calls Tryz.prog 128 #[Value.agg (C_i64ubool_sl_sl x0).toArray, Value.agg (C_i64ubool_sl_sl y).toArray] w (Post ⟨w, m⟩ Value.bool S) := by
 refine Calls.lift (args := [Value.agg (C_i64ubool_sl_sl x0).toArray, Value.agg (C_i64ubool_sl_sl y).toArray]) Tryz.func128 Y Tryz.ntmps128 (Nat.le_of_ble_eq_true Y) hr (linear_Same_c1 x0 y m S) H (fun H => ?_)
 refine AtC.pick (ts := [0, 1]) Y ?_
 unfold linear_Same_c1 at H
 refine sR (AtL.e Y (EffX.boxP (cs := [_, _, _, _]) Y Y Y H) ?_)
 rintro _ _ ⟨b, _, rfl, rfl, _, H⟩
 refine AtL.e Y (EffX.boxP (cs := [_, _, _, _]) Y Y Y H) ?_
 rintro _ _ ⟨b_1, _, rfl, rfl, _, H⟩
 replace H := H.self
 refine pu hT 1 Y (ng ?_)
 refine AtC.joinSeq (β := Unit) (fun (t0 : Bool) (bb : Unit) => [(4, Value.bool t0)]) (fun (t0 : Bool) (bb : Unit) => []) [] [] H Y Y (fun t0 bb h0u1 H => ?_) (fun J1 H HK1 => ?_)
 refine AtC.ret ?_
 exact r1 4 Y Y Y H
 refine AtC.region (pu hT 1 Y (AtL.q Y (lP hT 1 Y) (pu hT 1 Y (AtL.q Y (lP hT 0 Y) (pu hT 2 Y ?_)))))
 refine AtL.splitB (t := 10) H Y (fun H => ?_) (fun H => ?_)
 refine ys Y (pu hT 1 Y (ys Y (AtL.q Y (lS hT 1 [_, _, _] Y Y Y Y Y Y Y Y) (ys Y (pu hT 1 Y ?_)))))
 refine ys Y (AtL.q Y (lS hT 0 [_, _, _] Y Y Y Y Y Y Y Y) (ys Y (AtL.e Y (cl (fun h => ratio_Cmp _ _ h _) H Y Tryz.call112 Y (fun w m hr hw => lift_ratio_Cmp _ _ w m hr _ hw)) ?_)))
 rintro _ _ ⟨v, h0u2, rfl, rfl, H⟩
 refine ys Y (pu hT 1 Y (pu hT 2 Y (AtL.nil ?_)))
 exact AtE.then_n ((HK1 _ () _ H).pickP (ts := [4]) (is := []) Y Y (by decide) Y)
 refine nf Y (nf Y (nf Y (nf Y (nf Y (nf Y ?_)))))
 refine pu hT 2 Y (AtL.nil ?_)
 exact AtE.then_n ((HK1 _ () _ H).pickP (ts := [4]) (is := []) Y Y (by decide) Y)
theorem lift_slices_EqualFunc_api_Mono_api_Mono_api_Mono_api_Mono__linear_Same_c1 (s1 : Sl) (s2 : Sl) (w : World) (m : Heap) (hr : Rel ⟨m, []⟩ w.heap) (S : Bool → Heap → Prop) (H : slices_EqualFunc_api_Mono_api_Mono_api_Mono_api_Mono__linear_Same_c1 s1 s2 m S) :
 Calls Tryz.prog 129 #[Sl.toV s1, Sl.toV s2, Value.func (.func 128) #[] #[]] w (Post ⟨w, m⟩ Value.bool S) := by
 refine Calls.lift (args := [Sl.toV s1, Sl.toV s2, Value.func (.func 128) #[] #[]]) Tryz.func129 Y Tryz.ntmps129 (Nat.le_of_ble_eq_true Y) hr (slices_EqualFunc_api_Mono_api_Mono_api_Mono_api_Mono__linear_Same_c1 s1 s2 m S) H (fun H => ?_)
 refine AtC.pick (ts := [0, 1, 2]) Y ?_
 unfold slices_EqualFunc_api_Mono_api_Mono_api_Mono_api_Mono__linear_Same_c1 at H
 refine sR (pu hT 1 Y (ng (AtC.seq (sR (pu hT 5 Y ?_)))))
 refine ng ?_
 refine AtC.condB H Y (fun H => ?_) (fun H => ?_)
 refine sR (pu hT 1 Y (ng (AtC.ret (AtE.then_r ?_))))
 exact r1 6 Y Y Y H
 refine AtC.skip (tg (AtC.seq (sR (pu hT 3 Y (ng ?_)))))
 refine AtC.block ?_
 refine AtC.loopM (fun (s0 : Int) => [(17, Value.int .i64 s0)]) (fun (s0 : Int) => []) [1, 2, 15, 16] [17, 1, 2, 15, 16] [] [] H Y Y Y (by decide) Y (fun Kp1 s0 h0 H Q1 HK1 => ?_)
 refine sR (pu hT 1 Y (ng (AtC.seq ?_)))
 refine AtC.condB H Y (fun H => ?_) (fun H => ?_)
 refine AtC.skip (tg (AtC.seq (AtC.block (sR (pu hT 1 Y ?_)))))
 obtain ⟨a_, hc1, hd1, H⟩ := H
 refine AtL.q Y (Quiet1.idxS hT Y Y Y Y Y hc1 hd1) ?_
 obtain ⟨v, hc2, H⟩ := H
 refine AtL.q Y (Quiet1.loadS hT Y Y Y Y hc2) (AtL.e Y (EffX.allocP (cs := [_, _, _, _]) hT Y Y H) ?_)
 rintro _ _ ⟨b, _, rfl, rfl, _, H⟩
 replace H := H.self
 refine pu hT 1 Y (AtL.e Y (EffX.storeSP (i := 0) (qv := [(_, [_, _, _, _])]) hT Y Y Y Y Y Y Y Y Y Y) ?_)
 rintro _ _ rfl
 refine ng (sR (pu hT 2 Y ?_))
 obtain ⟨a_1_, hc3, hd3, H⟩ := H
 refine AtL.q Y (Quiet1.idxS hT Y Y Y Y Y hc3 hd3) ?_
 obtain ⟨v_1, hc4, H⟩ := H
 refine AtL.q Y (Quiet1.loadS hT Y Y Y Y hc4) (AtL.e Y (EffX.allocP (cs := [_, _, _, _]) hT Y Y H) ?_)
 rintro _ _ ⟨b_1, _, rfl, rfl, _, H⟩
 replace H := H.self
 refine AtL.e Y (EffX.storeSP (i := 0) (qv := [(_, [_, _, _, _]), (_, [_, _, _, _])]) hT Y Y Y Y Y Y Y Y Y Y) ?_
 rintro _ _ rfl
 refine ng (sR (pu hT 1 Y (AtL.q Y (lS hT 1 [_, _, _, _] Y Y Y Y Y Y Y Y) (AtL.q Y (lS hT 0 [_, _, _, _] Y Y Y Y Y Y Y Y) (AtL.e Y (EffX.callF (bs := []) (cs := []) (f := 128) (sh := fun h => linear_Same_c1 _ _ h _) (H0 := H) Y Y Tryz.call128 Y (hl := fun w m hr hw => lift_linear_Same_c1 _ _ w m hr _ hw)) ?_)))))
 rintro _ _ ⟨v_2, h0u3, rfl, rfl, H⟩
 refine pu hT 1 Y (ng ?_)
 refine AtC.condB H Y (fun H => ?_) (fun H => ?_)
 refine sR (pu hT 1 Y (ng (AtC.ret (AtE.blk_r (AtE.then_r ?_)))))
 refine AtE.then_r (AtE.blk_r (AtE.then_r ?_))
 exact r1 6 Y Y Y H
 refine AtC.skip (AtE.blk_n (tg (AtC.region (pu hT 2 Y (AtL.nil ?_)))))
 exact AtE.then_n ((HK1 _ _ H).pickP (ts := [17, 1, 2, 15, 16]) (is := []) Y Y (by decide) Y)
 refine AtC.exit (AtE.then_x (AtE.then_x (AtE.blk_hit (tg (sR ?_)))))
 refine pu hT 1 Y (ng (AtC.ret ?_))
 exact r1 6 Y Y Y H
theorem lift_linear_Same (p : Bool × Sl × Sl × Sl) (q : Bool × Sl × Sl × Sl) (w : World) (m : Heap) (hr : Rel ⟨m, []⟩ w.heap) (S : Bool → Heap → Prop) (H : linear_Same p q m S) :
 Calls Tryz.prog 73 #[Value.agg (C_bool_sl_sl_sl p).toArray, Value.agg (C_bool_sl_sl_sl q).toArray] w (Post ⟨w, m⟩ Value.bool S) := by
 refine Calls.lift (args := [Value.agg (C_bool_sl_sl_sl p).toArray, Value.agg (C_bool_sl_sl_sl q).toArray]) Tryz.func73 Y Tryz.ntmps73 (Nat.le_of_ble_eq_true Y) hr (linear_Same p q m S) H (fun H => ?_)
 refine AtC.pick (ts := [0, 1]) Y ?_
 unfold linear_Same at H
 refine sR (AtL.e Y (EffX.boxP (cs := [_, _, _, _]) Y Y Y H) ?_)
 rintro _ _ ⟨b, _, rfl, rfl, _, H⟩
 refine AtL.e Y (EffX.boxP (cs := [_, _, _, _]) Y Y Y H) ?_
 rintro _ _ ⟨b_1, _, rfl, rfl, _, H⟩
 replace H := H.self
 refine pu hT 1 Y (ng (sR (pu hT 1 Y (ng ?_))))
 refine AtC.joinSeq (β := Unit) (fun (t0 : Bool) (bb : Unit) => [(4, Value.bool t0)]) (fun (t0 : Bool) (bb : Unit) => []) [] [] H Y Y (fun t0 bb h0u1 H => ?_) (fun J1 H HK1 => ?_)
 refine AtC.ret ?_
 exact r1 4 Y Y Y H
 refine AtC.region (pu hT 1 Y (AtL.q Y (lS hT 1 [_, _, _] Y Y Y Y Y Y Y Y) (pu hT 1 Y (AtL.q Y (lS hT 0 [_, _, _] Y Y Y Y Y Y Y Y) (AtL.e Y (cl (fun h => ratio_Cmp _ _ h _) H Y Tryz.call112 Y (fun w m hr hw => lift_ratio_Cmp _ _ w m hr _ hw)) ?_)))))
 rintro _ _ ⟨v, h0u2, rfl, rfl, H⟩
 refine pu hT 2 Y ?_
 refine AtL.splitB (t := 12) H Y (fun H => ?_) (fun H => ?_)
 refine ys Y (pu hT 1 Y (ys Y (AtL.q Y (lP hT 1 Y) (ys Y (pu hT 1 Y ?_)))))
 refine ys Y (AtL.q Y (lP hT 0 Y) (ys Y (pu hT 1 Y (ys Y (AtL.e Y (cl (fun h => slices_EqualFunc_api_Mono_api_Mono_api_Mono_api_Mono__linear_Same_c1 _ _ h _) H Y Tryz.call129 Y (fun w m hr hw => lift_slices_EqualFunc_api_Mono_api_Mono_api_Mono_api_Mono__linear_Same_c1 _ _ w m hr _ hw)) ?_)))))
 rintro _ _ ⟨v_1, h0u3, rfl, rfl, H⟩
 refine pu hT 2 Y (AtL.nil ?_)
 exact AtE.then_n ((HK1 _ () _ H).pickP (ts := [4]) (is := []) Y Y (by decide) Y)
 refine nf Y (nf Y (nf Y (nf Y (nf Y (nf Y ?_)))))
 refine pu hT 2 Y (AtL.nil ?_)
 exact AtE.then_n ((HK1 _ () _ H).pickP (ts := [4]) (is := []) Y Y (by decide) Y)
theorem lift_slices_EqualFunc_api_Poly_api_Poly_api_Poly_api_Poly__linear_Same (s1 : Sl) (s2 : Sl) (w : World) (m : Heap) (hr : Rel ⟨m, []⟩ w.heap) (S : Bool → Heap → Prop) (H : slices_EqualFunc_api_Poly_api_Poly_api_Poly_api_Poly__linear_Same s1 s2 m S) :
 Calls Tryz.prog 72 #[Sl.toV s1, Sl.toV s2, Value.func (.func 73) #[] #[]] w (Post ⟨w, m⟩ Value.bool S) := by
 refine Calls.lift (args := [Sl.toV s1, Sl.toV s2, Value.func (.func 73) #[] #[]]) Tryz.func72 Y Tryz.ntmps72 (Nat.le_of_ble_eq_true Y) hr (slices_EqualFunc_api_Poly_api_Poly_api_Poly_api_Poly__linear_Same s1 s2 m S) H (fun H => ?_)
 refine AtC.pick (ts := [0, 1, 2]) Y ?_
 unfold slices_EqualFunc_api_Poly_api_Poly_api_Poly_api_Poly__linear_Same at H
 refine sR (pu hT 1 Y (ng (AtC.seq (sR (pu hT 5 Y ?_)))))
 refine ng ?_
 refine AtC.condB H Y (fun H => ?_) (fun H => ?_)
 refine sR (pu hT 1 Y (ng (AtC.ret (AtE.then_r ?_))))
 exact r1 6 Y Y Y H
 refine AtC.skip (tg (AtC.seq (sR (pu hT 3 Y (ng ?_)))))
 refine AtC.block ?_
 refine AtC.loopM (fun (s0 : Int) => [(17, Value.int .i64 s0)]) (fun (s0 : Int) => []) [1, 2, 15, 16] [17, 1, 2, 15, 16] [] [] H Y Y Y (by decide) Y (fun Kp1 s0 h0 H Q1 HK1 => ?_)
 refine sR (pu hT 1 Y (ng (AtC.seq ?_)))
 refine AtC.condB H Y (fun H => ?_) (fun H => ?_)
 refine AtC.skip (tg (AtC.seq (AtC.block (sR (pu hT 1 Y ?_)))))
 obtain ⟨a_, hc1, hd1, H⟩ := H
 refine AtL.q Y (Quiet1.idxS hT Y Y Y Y Y hc1 hd1) ?_
 obtain ⟨v, hc2, H⟩ := H
 refine AtL.q Y (Quiet1.loadS hT Y Y Y Y hc2) (AtL.e Y (EffX.allocP (cs := [_, _, _, _]) hT Y Y H) ?_)
 rintro _ _ ⟨b, _, rfl, rfl, _, H⟩
 replace H := H.self
 refine pu hT 1 Y (AtL.e Y (EffX.storeSP (i := 0) (qv := [(_, [_, _, _, _])]) hT Y Y Y Y Y Y Y Y Y Y) ?_)
 rintro _ _ rfl
 refine ng (sR (pu hT 2 Y ?_))
 obtain ⟨a_1_, hc3, hd3, H⟩ := H
 refine AtL.q Y (Quiet1.idxS hT Y Y Y Y Y hc3 hd3) ?_
 obtain ⟨v_1, hc4, H⟩ := H
 refine AtL.q Y (Quiet1.loadS hT Y Y Y Y hc4) (AtL.e Y (EffX.allocP (cs := [_, _, _, _]) hT Y Y H) ?_)
 rintro _ _ ⟨b_1, _, rfl, rfl, _, H⟩
 replace H := H.self
 refine AtL.e Y (EffX.storeSP (i := 0) (qv := [(_, [_, _, _, _]), (_, [_, _, _, _])]) hT Y Y Y Y Y Y Y Y Y Y) ?_
 rintro _ _ rfl
 refine ng (sR (pu hT 1 Y (AtL.q Y (lS hT 1 [_, _, _, _] Y Y Y Y Y Y Y Y) (AtL.q Y (lS hT 0 [_, _, _, _] Y Y Y Y Y Y Y Y) (AtL.e Y (EffX.callF (bs := []) (cs := []) (f := 73) (sh := fun h => linear_Same _ _ h _) (H0 := H) Y Y Tryz.call73 Y (hl := fun w m hr hw => lift_linear_Same _ _ w m hr _ hw)) ?_)))))
 rintro _ _ ⟨v_2, h0u3, rfl, rfl, H⟩
 refine pu hT 1 Y (ng ?_)
 refine AtC.condB H Y (fun H => ?_) (fun H => ?_)
 refine sR (pu hT 1 Y (ng (AtC.ret (AtE.blk_r (AtE.then_r ?_)))))
 refine AtE.then_r (AtE.blk_r (AtE.then_r ?_))
 exact r1 6 Y Y Y H
 refine AtC.skip (AtE.blk_n (tg (AtC.region (pu hT 2 Y (AtL.nil ?_)))))
 exact AtE.then_n ((HK1 _ _ H).pickP (ts := [17, 1, 2, 15, 16]) (is := []) Y Y (by decide) Y)
 refine AtC.exit (AtE.then_x (AtE.then_x (AtE.blk_hit (tg (sR ?_)))))
 refine pu hT 1 Y (ng (AtC.ret ?_))
 exact r1 6 Y Y Y H
theorem lift_slices_EqualFunc_api_Delta_api_Delta_api_Delta_api_Delta__tableau_same (s1 : Sl) (s2 : Sl) (w : World) (m : Heap) (hr : Rel ⟨m, []⟩ w.heap) (S : Bool → Heap → Prop) (H : slices_EqualFunc_api_Delta_api_Delta_api_Delta_api_Delta__tableau_same s1 s2 m S) :
 Calls Tryz.prog 74 #[Sl.toV s1, Sl.toV s2, Value.func (.func 65) #[] #[]] w (Post ⟨w, m⟩ Value.bool S) := by
 refine Calls.lift (args := [Sl.toV s1, Sl.toV s2, Value.func (.func 65) #[] #[]]) Tryz.func74 Y Tryz.ntmps74 (Nat.le_of_ble_eq_true Y) hr (slices_EqualFunc_api_Delta_api_Delta_api_Delta_api_Delta__tableau_same s1 s2 m S) H (fun H => ?_)
 refine AtC.pick (ts := [0, 1, 2]) Y ?_
 unfold slices_EqualFunc_api_Delta_api_Delta_api_Delta_api_Delta__tableau_same at H
 refine sR (pu hT 1 Y (ng (AtC.seq (sR (pu hT 5 Y ?_)))))
 refine ng ?_
 refine AtC.condB H Y (fun H => ?_) (fun H => ?_)
 refine sR (pu hT 1 Y (ng (AtC.ret (AtE.then_r ?_))))
 exact r1 6 Y Y Y H
 refine AtC.skip (tg (AtC.seq (sR (pu hT 3 Y (ng ?_)))))
 refine AtC.block ?_
 refine AtC.loopM (fun (s0 : Int) => [(17, Value.int .i64 s0)]) (fun (s0 : Int) => []) [1, 2, 15, 16] [17, 1, 2, 15, 16] [] [] H Y Y Y (by decide) Y (fun Kp1 s0 h0 H Q1 HK1 => ?_)
 refine sR (pu hT 1 Y (ng (AtC.seq ?_)))
 refine AtC.condB H Y (fun H => ?_) (fun H => ?_)
 refine AtC.skip (tg (AtC.seq (AtC.block (sR (pu hT 1 Y ?_)))))
 obtain ⟨a_, hc1, hd1, H⟩ := H
 refine AtL.q Y (Quiet1.idxS hT Y Y Y Y Y hc1 hd1) ?_
 obtain ⟨v, hc2, H⟩ := H
 refine AtL.q Y (Quiet1.loadS hT Y Y Y Y hc2) (AtL.e Y (EffX.allocP (cs := [_, _, _, _, _, _]) hT Y Y H) ?_)
 rintro _ _ ⟨b, _, rfl, rfl, _, H⟩
 replace H := H.self
 refine pu hT 1 Y (AtL.e Y (EffX.storeSP (i := 0) (qv := [(_, [_, _, _, _, _, _])]) hT Y Y Y Y Y Y Y Y Y Y) ?_)
 rintro _ _ rfl
 refine ng (sR (pu hT 2 Y ?_))
 obtain ⟨a_1_, hc3, hd3, H⟩ := H
 refine AtL.q Y (Quiet1.idxS hT Y Y Y Y Y hc3 hd3) ?_
 obtain ⟨v_1, hc4, H⟩ := H
 refine AtL.q Y (Quiet1.loadS hT Y Y Y Y hc4) (AtL.e Y (EffX.allocP (cs := [_, _, _, _, _, _]) hT Y Y H) ?_)
 rintro _ _ ⟨b_1, _, rfl, rfl, _, H⟩
 replace H := H.self
 refine AtL.e Y (EffX.storeSP (i := 0) (qv := [(_, [_, _, _, _, _, _]), (_, [_, _, _, _, _, _])]) hT Y Y Y Y Y Y Y Y Y Y) ?_
 rintro _ _ rfl
 refine ng (sR (pu hT 1 Y (AtL.q Y (lS hT 1 [_, _, _, _, _, _] Y Y Y Y Y Y Y Y) (AtL.q Y (lS hT 0 [_, _, _, _, _, _] Y Y Y Y Y Y Y Y) (AtL.e Y (EffX.callF (bs := []) (cs := []) (f := 65) (sh := fun h => tableau_same _ _ h _) (H0 := H) Y Y Tryz.call65 Y (hl := fun w m hr hw => lift_tableau_same _ _ w m hr _ hw)) ?_)))))
 rintro _ _ ⟨v_2, h0u3, rfl, rfl, H⟩
 refine pu hT 1 Y (ng ?_)
 refine AtC.condB H Y (fun H => ?_) (fun H => ?_)
 refine sR (pu hT 1 Y (ng (AtC.ret (AtE.blk_r (AtE.then_r ?_)))))
 refine AtE.then_r (AtE.blk_r (AtE.then_r ?_))
 exact r1 6 Y Y Y H
 refine AtC.skip (AtE.blk_n (tg (AtC.region (pu hT 2 Y (AtL.nil ?_)))))
 exact AtE.then_n ((HK1 _ _ H).pickP (ts := [17, 1, 2, 15, 16]) (is := []) Y Y (by decide) Y)
 refine AtC.exit (AtE.then_x (AtE.then_x (AtE.blk_hit (tg (sR ?_)))))
 refine pu hT 1 Y (ng (AtC.ret ?_))
 exact r1 6 Y Y Y H
theorem lift_tableau_Same_c1 (x0 : Int × Bool × Sl × Sl × Bool × Sl × Sl) (y : Int × Bool × Sl × Sl × Bool × Sl × Sl) (w : World) (m : Heap) (hr : Rel ⟨m, []⟩ w.heap) (S : Bool → Heap → Prop) (H : tableau_Same_c1 x0 y m S) :
 Calls Tryz.prog 70 #[Value.agg (C_i64ubool_sl_sl_bool_sl_sl x0).toArray, Value.agg (C_i64ubool_sl_sl_bool_sl_sl y).toArray] w (Post ⟨w, m⟩ Value.bool S) := by
 refine Calls.lift (args := [Value.agg (C_i64ubool_sl_sl_bool_sl_sl x0).toArray, Value.agg (C_i64ubool_sl_sl_bool_sl_sl y).toArray]) Tryz.func70 Y Tryz.ntmps70 (Nat.le_of_ble_eq_true Y) hr (tableau_Same_c1 x0 y m S) H (fun H => ?_)
 refine AtC.pick (ts := [0, 1]) Y ?_
 unfold tableau_Same_c1 at H
 refine sR (AtL.e Y (EffX.boxP (cs := [_, _, _, _, _, _, _]) Y Y Y H) ?_)
 rintro _ _ ⟨b, _, rfl, rfl, _, H⟩
 refine AtL.e Y (EffX.boxP (cs := [_, _, _, _, _, _, _]) Y Y Y H) ?_
 rintro _ _ ⟨b_1, _, rfl, rfl, _, H⟩
 replace H := H.self
 refine pu hT 1 Y (ng ?_)
 refine AtC.joinSeq (β := Unit) (fun (t0 : Bool) (bb : Unit) => [(4, Value.bool t0)]) (fun (t0 : Bool) (bb : Unit) => []) [] [] H Y Y (fun t0 bb h0u1 H => ?_) (fun J1 H HK1 => ?_)
 refine AtC.ret ?_
 exact r1 4 Y Y Y H
 refine AtC.region (pu hT 1 Y (AtL.q Y (lP hT 1 Y) (pu hT 1 Y (AtL.q Y (lP hT 0 Y) (pu hT 2 Y ?_)))))
 refine AtL.splitB (t := 10) H Y (fun H => ?_) (fun H => ?_)
 refine ys Y (pu hT 1 Y (ys Y (AtL.q Y (lS hT 1 [_, _, _, _, _, _] Y Y Y Y Y Y Y Y) (ys Y (pu hT 1 Y ?_)))))
 refine ys Y (AtL.q Y (lS hT 0 [_, _, _, _, _, _] Y Y Y Y Y Y Y Y) (ys Y (AtL.e Y (cl (fun h => tableau_same _ _ h _) H Y Tryz.call65 Y (fun w m hr hw => lift_tableau_same _ _ w m hr _ hw)) ?_)))
 rintro _ _ ⟨v, h0u2, rfl, rfl, H⟩
 refine pu hT 2 Y (AtL.nil ?_)
 exact AtE.then_n ((HK1 _ () _ H).pickP (ts := [4]) (is := []) Y Y (by decide) Y)
 refine nf Y (nf Y (nf Y (nf Y (nf Y (pu hT 2 Y ?_)))))
 refine AtL.nil ?_
 exact AtE.then_n ((HK1 _ () _ H).pickP (ts := [4]) (is := []) Y Y (by decide) Y)
theorem lift_slices_EqualFunc_api_Edge_api_Edge_api_Edge_api_Edge__tableau_Same_c1 (s1 : Sl) (s2 : Sl) (w : World) (m : Heap) (hr : Rel ⟨m, []⟩ w.heap) (S : Bool → Heap → Prop) (H : slices_EqualFunc_api_Edge_api_Edge_api_Edge_api_Edge__tableau_Same_c1 s1 s2 m S) :
 Calls Tryz.prog 75 #[Sl.toV s1, Sl.toV s2, Value.func (.func 70) #[] #[]] w (Post ⟨w, m⟩ Value.bool S) := by
 refine Calls.lift (args := [Sl.toV s1, Sl.toV s2, Value.func (.func 70) #[] #[]]) Tryz.func75 Y Tryz.ntmps75 (Nat.le_of_ble_eq_true Y) hr (slices_EqualFunc_api_Edge_api_Edge_api_Edge_api_Edge__tableau_Same_c1 s1 s2 m S) H (fun H => ?_)
 refine AtC.pick (ts := [0, 1, 2]) Y ?_
 unfold slices_EqualFunc_api_Edge_api_Edge_api_Edge_api_Edge__tableau_Same_c1 at H
 refine sR (pu hT 1 Y (ng (AtC.seq (sR (pu hT 5 Y ?_)))))
 refine ng ?_
 refine AtC.condB H Y (fun H => ?_) (fun H => ?_)
 refine sR (pu hT 1 Y (ng (AtC.ret (AtE.then_r ?_))))
 exact r1 6 Y Y Y H
 refine AtC.skip (tg (AtC.seq (sR (pu hT 3 Y (ng ?_)))))
 refine AtC.block ?_
 refine AtC.loopM (fun (s0 : Int) => [(17, Value.int .i64 s0)]) (fun (s0 : Int) => []) [1, 2, 15, 16] [17, 1, 2, 15, 16] [] [] H Y Y Y (by decide) Y (fun Kp1 s0 h0 H Q1 HK1 => ?_)
 refine sR (pu hT 1 Y (ng (AtC.seq ?_)))
 refine AtC.condB H Y (fun H => ?_) (fun H => ?_)
 refine AtC.skip (tg (AtC.seq (AtC.block (sR (pu hT 1 Y ?_)))))
 obtain ⟨a_, hc1, hd1, H⟩ := H
 refine AtL.q Y (Quiet1.idxS hT Y Y Y Y Y hc1 hd1) ?_
 obtain ⟨v, hc2, H⟩ := H
 refine AtL.q Y (Quiet1.loadS hT Y Y Y Y hc2) (AtL.e Y (EffX.allocP (cs := [_, _, _, _, _, _, _]) hT Y Y H) ?_)
 rintro _ _ ⟨b, _, rfl, rfl, _, H⟩
 replace H := H.self
 refine pu hT 1 Y (AtL.e Y (EffX.storeSP (i := 0) (qv := [(_, [_, _, _, _, _, _, _])]) hT Y Y Y Y Y Y Y Y Y Y) ?_)
 rintro _ _ rfl
 refine ng (sR (pu hT 2 Y ?_))
 obtain ⟨a_1_, hc3, hd3, H⟩ := H
 refine AtL.q Y (Quiet1.idxS hT Y Y Y Y Y hc3 hd3) ?_
 obtain ⟨v_1, hc4, H⟩ := H
 refine AtL.q Y (Quiet1.loadS hT Y Y Y Y hc4) (AtL.e Y (EffX.allocP (cs := [_, _, _, _, _, _, _]) hT Y Y H) ?_)
 rintro _ _ ⟨b_1, _, rfl, rfl, _, H⟩
 replace H := H.self
 refine AtL.e Y (EffX.storeSP (i := 0) (qv := [(_, [_, _, _, _, _, _, _]), (_, [_, _, _, _, _, _, _])]) hT Y Y Y Y Y Y Y Y Y Y) ?_
 rintro _ _ rfl
 refine ng (sR (pu hT 1 Y (AtL.q Y (lS hT 1 [_, _, _, _, _, _, _] Y Y Y Y Y Y Y Y) (AtL.q Y (lS hT 0 [_, _, _, _, _, _, _] Y Y Y Y Y Y Y Y) (AtL.e Y (EffX.callF (bs := []) (cs := []) (f := 70) (sh := fun h => tableau_Same_c1 _ _ h _) (H0 := H) Y Y Tryz.call70 Y (hl := fun w m hr hw => lift_tableau_Same_c1 _ _ w m hr _ hw)) ?_)))))
 rintro _ _ ⟨v_2, h0u3, rfl, rfl, H⟩
 refine pu hT 1 Y (ng ?_)
 refine AtC.condB H Y (fun H => ?_) (fun H => ?_)
 refine sR (pu hT 1 Y (ng (AtC.ret (AtE.blk_r (AtE.then_r ?_)))))
 refine AtE.then_r (AtE.blk_r (AtE.then_r ?_))
 exact r1 6 Y Y Y H
 refine AtC.skip (AtE.blk_n (tg (AtC.region (pu hT 2 Y (AtL.nil ?_)))))
 exact AtE.then_n ((HK1 _ _ H).pickP (ts := [17, 1, 2, 15, 16]) (is := []) Y Y (by decide) Y)
 refine AtC.exit (AtE.then_x (AtE.then_x (AtE.blk_hit (tg (sR ?_)))))
 refine pu hT 1 Y (ng (AtC.ret ?_))
 exact r1 6 Y Y Y H
theorem lift_tableau_Same (s0 : Sl × Sl × Sl × Sl × Sl) (t0 : Sl × Sl × Sl × Sl × Sl) (w : World) (m : Heap) (hr : Rel ⟨m, []⟩ w.heap) (S : Bool → Heap → Prop) (H : tableau_Same s0 t0 m S) :
 Calls Tryz.prog 22 #[Value.agg (C_sl_sl_sl_sl_sl s0).toArray, Value.agg (C_sl_sl_sl_sl_sl t0).toArray] w (Post ⟨w, m⟩ Value.bool S) := by
 refine Calls.lift (args := [Value.agg (C_sl_sl_sl_sl_sl s0).toArray, Value.agg (C_sl_sl_sl_sl_sl t0).toArray]) Tryz.func22 Y Tryz.ntmps22 (Nat.le_of_ble_eq_true Y) hr (tableau_Same s0 t0 m S) H (fun H => ?_)
 refine AtC.pick (ts := [0, 1]) Y ?_
 unfold tableau_Same at H
 refine sR (AtL.e Y (EffX.boxP (cs := [_, _, _, _, _]) Y Y Y H) ?_)
 rintro _ _ ⟨b, _, rfl, rfl, _, H⟩
 refine AtL.e Y (EffX.boxP (cs := [_, _, _, _, _]) Y Y Y H) ?_
 rintro _ _ ⟨b_1, _, rfl, rfl, _, H⟩
 replace H := H.self
 refine pu hT 1 Y (ng (sR (pu hT 1 Y (ng ?_))))
 refine AtC.joinSeq (β := Unit) (fun (t0u1 : Bool) (bb : Unit) => [(4, Value.bool t0u1)]) (fun (t0u1 : Bool) (bb : Unit) => []) [] [] H Y Y (fun t0u1 bb h0u1 H => ?_) (fun J1 H HK1 => ?_)
 refine AtC.ret ?_
 exact r1 4 Y Y Y H
 refine AtC.region (pu hT 1 Y (AtL.q Y (lP hT 1 Y) (pu hT 1 Y (AtL.q Y (lP hT 0 Y) (AtL.e Y (cl (fun h => slices_Equal_int_int _ _ h _) H Y Tryz.call71 Y (fun w m hr hw => lift_slices_Equal_int_int _ _ w m hr _ hw)) ?_)))))
 rintro _ _ ⟨v, h0u2, rfl, rfl, H⟩
 refine pu hT 1 Y ?_
 refine AtL.splitB (t := 11) H Y (fun H => ?_) (fun H => ?_)
 refine ys Y (pu hT 1 Y (ys Y (AtL.q Y (lP hT 1 Y) (ys Y (pu hT 1 Y ?_)))))
 refine ys Y (AtL.q Y (lP hT 0 Y) (ys Y (AtL.e Y (cl (fun h => slices_EqualFunc_api_Poly_api_Poly_api_Poly_api_Poly__linear_Same _ _ h _) H Y Tryz.call72 Y (fun w m hr hw => lift_slices_EqualFunc_api_Poly_api_Poly_api_Poly_api_Poly__linear_Same _ _ w m hr _ hw)) ?_)))
 rintro _ _ ⟨v_1, h0u3, rfl, rfl, H⟩
 refine pu hT 2 Y ?_
 refine AtL.splitB (t := 18) H Y (fun H => ?_) (fun H => ?_)
 refine ys Y (pu hT 1 Y (ys Y (AtL.q Y (lP hT 1 Y) (ys Y (pu hT 1 Y ?_)))))
 refine ys Y (AtL.q Y (lP hT 0 Y) (ys Y (AtL.e Y (cl (fun h => slices_EqualFunc_api_Delta_api_Delta_api_Delta_api_Delta__tableau_same _ _ h _) H Y Tryz.call74 Y (fun w m hr hw => lift_slices_EqualFunc_api_Delta_api_Delta_api_Delta_api_Delta__tableau_same _ _ w m hr _ hw)) ?_)))
 rintro _ _ ⟨v_2, h0u4, rfl, rfl, H⟩
 refine pu hT 2 Y ?_
 refine AtL.splitB (t := 25) H Y (fun H => ?_) (fun H => ?_)
 refine ys Y (pu hT 1 Y (ys Y (AtL.q Y (lP hT 1 Y) (ys Y (pu hT 1 Y ?_)))))
 refine ys Y (AtL.q Y (lP hT 0 Y) (ys Y (pu hT 1 Y (ys Y (AtL.e Y (cl (fun h => slices_EqualFunc_api_Edge_api_Edge_api_Edge_api_Edge__tableau_Same_c1 _ _ h _) H Y Tryz.call75 Y (fun w m hr hw => lift_slices_EqualFunc_api_Edge_api_Edge_api_Edge_api_Edge__tableau_Same_c1 _ _ w m hr _ hw)) ?_)))))
 rintro _ _ ⟨v_3, h0u5, rfl, rfl, H⟩
 refine pu hT 2 Y ?_
 refine AtL.splitB (t := 33) H Y (fun H => ?_) (fun H => ?_)
 refine ys Y (pu hT 1 Y (ys Y (AtL.q Y (lP hT 1 Y) (ys Y (pu hT 1 Y ?_)))))
 refine ys Y (AtL.q Y (lP hT 0 Y) (ys Y (pu hT 1 Y (ys Y (AtL.e Y (cl (fun h => slices_EqualFunc_api_Edge_api_Edge_api_Edge_api_Edge__tableau_Same_c1 _ _ h _) H Y Tryz.call75 Y (fun w m hr hw => lift_slices_EqualFunc_api_Edge_api_Edge_api_Edge_api_Edge__tableau_Same_c1 _ _ w m hr _ hw)) ?_)))))
 rintro _ _ ⟨v_4, h0u6, rfl, rfl, H⟩
 refine pu hT 2 Y (AtL.nil ?_)
 exact AtE.then_n ((HK1 _ () _ H).pickP (ts := [4]) (is := []) Y Y (by decide) Y)
 refine nf Y (nf Y (nf Y (nf Y (nf Y (nf Y ?_)))))
 refine pu hT 2 Y (AtL.nil ?_)
 exact AtE.then_n ((HK1 _ () _ H).pickP (ts := [4]) (is := []) Y Y (by decide) Y)
 refine nf Y (nf Y (nf Y (nf Y (nf Y (nf Y ?_)))))
 refine pu hT 2 Y (nf Y (nf Y (nf Y (nf Y (nf Y ?_)))))
 refine nf Y (pu hT 2 Y (AtL.nil ?_))
 exact AtE.then_n ((HK1 _ () _ H).pickP (ts := [4]) (is := []) Y Y (by decide) Y)
 refine nf Y (nf Y (nf Y (nf Y (nf Y (pu hT 2 Y ?_)))))
 refine nf Y (nf Y (nf Y (nf Y (nf Y (nf Y ?_)))))
 refine pu hT 2 Y (nf Y (nf Y (nf Y (nf Y (nf Y ?_)))))
 refine nf Y (pu hT 2 Y (AtL.nil ?_))
 exact AtE.then_n ((HK1 _ () _ H).pickP (ts := [4]) (is := []) Y Y (by decide) Y)
 refine nf Y (nf Y (nf Y (nf Y (nf Y (pu hT 2 Y ?_)))))
 refine nf Y (nf Y (nf Y (nf Y (nf Y (pu hT 2 Y ?_)))))
 refine nf Y (nf Y (nf Y (nf Y (nf Y (nf Y ?_)))))
 refine pu hT 2 Y (nf Y (nf Y (nf Y (nf Y (nf Y ?_)))))
 refine nf Y (pu hT 2 Y (AtL.nil ?_))
 exact AtE.then_n ((HK1 _ () _ H).pickP (ts := [4]) (is := []) Y Y (by decide) Y)
theorem lift_ref12uSame (p : Bool × Sl × Sl × Sl) (q : Bool × Sl × Sl × Sl) (w : World) (m : Heap) (hr : Rel ⟨m, []⟩ w.heap) (S : Bool → Heap → Prop) (H : ref12uSame p q m S) :
 Calls Tryz.prog 76 #[Value.agg (C_bool_sl_sl_sl p).toArray, Value.agg (C_bool_sl_sl_sl q).toArray] w (Post ⟨w, m⟩ Value.bool S) := by
 refine Calls.lift (args := [Value.agg (C_bool_sl_sl_sl p).toArray, Value.agg (C_bool_sl_sl_sl q).toArray]) Tryz.func76 Y Tryz.ntmps76 (Nat.le_of_ble_eq_true Y) hr (ref12uSame p q m S) H (fun H => ?_)
 refine AtC.pick (ts := [0, 1]) Y ?_
 unfold ref12uSame at H
 refine sR (AtL.e Y (EffX.boxP (cs := [_, _, _, _]) Y Y Y H) ?_)
 rintro _ _ ⟨b, _, rfl, rfl, _, H⟩
 refine AtL.e Y (EffX.boxP (cs := [_, _, _, _]) Y Y Y H) ?_
 rintro _ _ ⟨b_1, _, rfl, rfl, _, H⟩
 replace H := H.self
 refine pu hT 1 Y (ng (AtC.seq ?_))
 refine AtC.joinSeq (β := Unit) (fun (t0 : Bool) (bb : Unit) => [(20, Value.bool t0)]) (fun (t0 : Bool) (bb : Unit) => []) [2, 3] [0, 1] H Y Y (fun t0 bb h0u1 H => ?_) (fun J1 H HK1 => ?_)
 refine AtC.condB H Y (fun H => ?_) (fun H => ?_)
 refine sR (pu hT 1 Y (ng (AtC.ret (AtE.then_r ?_))))
 exact r1 4 Y Y Y H
 refine AtC.skip (tg (AtC.seq (sR (pu hT 1 Y (ng ?_)))))
 refine AtC.block ?_
 refine AtC.loopM (fun (s0 : Int) => [(5, Value.int .i64 s0)]) (fun (s0 : Int) => []) [2, 3] [5, 2, 3] [0, 1] [0, 1] H Y Y Y (by decide) Y (fun Kp2 s0 h0u3 H Q2 HK2 => ?_)
 refine AtC.seq (sR (pu hT 2 Y (AtL.q Y (lP hT 1 Y) (pu hT 2 Y (ng ?_)))))
 refine AtC.condB H Y (fun H => ?_) (fun H => ?_)
 refine AtC.skip (tg (AtC.seq (AtC.block ?_)))
 refine AtC.joinSeq (β := Unit) (fun (t0u1 : Bool) (bb_1 : Unit) => [(56, Value.bool t0u1)]) (fun (t0u1 : Bool) (bb_1 : Unit) => []) [2, 3, 5] [0, 1] H Y Y (fun t0u1 bb_1 h0u4 H => ?_) (fun J3 H HK3 => ?_)
 refine AtC.condB H Y (fun H => ?_) (fun H => ?_)
 refine sR (pu hT 1 Y (ng (AtC.ret (AtE.blk_r (AtE.then_r ?_)))))
 refine AtE.then_r (AtE.blk_r (AtE.then_r ?_))
 exact r1 4 Y Y Y H
 refine AtC.skip (AtE.blk_n (tg (AtC.region (pu hT 3 Y ?_))))
 replace H := H _ rfl
 refine AtL.nil ?_
 exact AtE.then_n ((HK2 _ _ H).pickP (ts := [5, 2, 3]) (is := [0, 1]) Y Y (by decide) Y)
 obtain ⟨a_, hc3, hd3, H⟩ := H
 obtain ⟨v_1, hc4, H⟩ := H
 obtain ⟨a_1_, hc5, hd5, H⟩ := H
 obtain ⟨v_2, hc6, H⟩ := H
 rcases iteB.cases H with ⟨hb7, H⟩ | ⟨hb7, H⟩
 apply AtC.stages [26] [[], [], [], [], [], [], [], [], [], [], [], [], [], [], [], [], [], [], [], [], [], [], [], [], [], [], [], [26], [26]] [[], [0], [], [0, 1, 2], [0, 1, 2, 3], [0, 1, 2, 3, 4], [], [6], [], [6, 7, 8], [6, 7, 8, 9], [6, 7, 8, 9, 10], [0, 1, 2, 3, 4, 5, 6, 7, 8, 9, 10, 11], [0, 1, 2, 3, 4, 5, 6, 7, 8, 9, 10, 11, 12], [0, 1, 2, 3, 4, 5, 6, 7, 8, 9, 10, 11, 12, 13], [0, 1, 2, 3, 4, 5, 6, 7, 8, 9, 10, 11, 12, 13, 14], [0, 1, 2, 3, 4, 5, 6, 7, 8, 9, 10, 11, 12, 13], [0, 1, 2, 3, 4, 5, 6, 7, 8, 9, 10, 11, 12, 13, 14, 15, 16], [0, 1, 2, 3, 4, 5, 6, 7, 8, 9, 10, 11, 12, 13, 14, 15, 16, 17], [0, 1, 2, 3, 4, 5, 6, 7, 8, 9, 10, 11, 12, 13, 14, 15, 16, 17, 18], [0, 1, 2, 3, 4, 5, 6, 7, 8, 9, 10, 11, 12, 13], [0, 1, 2, 3, 4, 5, 6, 7, 8, 9, 10, 11, 12, 13, 20], [0, 1, 2, 3, 4, 5, 6, 7, 8, 9, 10, 11, 12, 13], [0, 1, 2, 3, 4, 5, 6, 7, 8, 9, 10, 11, 12, 13, 20, 21, 22], [0, 1, 2, 3, 4, 5, 6, 7, 8, 9, 10, 11, 12, 13, 20, 21, 22, 23], [0, 1, 2, 3, 4, 5, 6, 7, 8, 9, 10, 11, 12, 13, 20, 21, 22, 23, 24], [0, 1, 2, 3, 4, 5, 6, 7, 8, 9, 10, 11, 12, 13, 14, 15, 16, 17, 18, 19, 20, 21, 22, 23, 24, 25], [0, 1, 2, 3, 4, 5, 6, 7, 8, 9, 10, 11, 12, 13, 14, 15, 16, 17, 18, 19, 20, 21, 22, 23, 24, 25, 26], [0, 1, 2, 3, 4, 5, 6, 7, 8, 9, 10, 11, 12, 13, 14, 15, 16, 17, 18, 19, 20, 21, 22, 23, 24, 25, 26, 27]] hmix (by kernel_rfl) [(28, _), (29, _), (30, _), (31, _), (32, _), (33, _), (34, _), (35, _), (36, _), (37, _), (38, _), (39, _), (40, _), (41, _), (42, _), (43, _), (44, _), (45, _), (46, _), (47, _), (48, _), (49, _), (50, _), (51, _), (52, _), (53, _)] Y 1 Y
 refine Stg.known (t := 41) Y hb7 (Stg.go [0, 1, 2, 3, 4, 5, 6, 7, 8, 9, 10, 11, 12, 13, 14, 15, 16, 17, 18, 19, 20, 21, 22, 23, 24, 25] [26] Y Y (qp hT Y (qq Y (lP hT 1 Y) Y (qp hT Y (qq Y (Quiet1.idxS hT Y Y Y Y Y hc3 hd3) Y (qp hT Y (qq Y (Quiet1.load hT Y Y Y hc4) Y (qp hT Y (qq Y (lP hT 0 Y) Y (qp hT Y (qq Y (Quiet1.idxS hT Y Y Y Y Y hc5 hd5) Y (qp hT Y (qq Y (Quiet1.load hT Y Y Y hc6) Y (qp hT Y (QAll.cons (QOp.pk hT Y Y Y Y hb7 Y) (qn Y Y Y Y (by decide) Y Y (qn Y Y Y Y (by decide) Y Y (qn Y Y Y Y (by decide) Y Y (qn Y Y Y Y (by decide) Y Y (qn Y Y Y Y (by decide) Y Y (qn Y Y Y Y (by decide) Y Y (qn Y Y Y Y (by decide) Y Y (qn Y Y Y Y (by decide) Y Y (qn Y Y Y Y (by decide) Y Y (qn Y Y Y Y (by decide) Y Y (qn Y Y Y Y (by decide) Y Y (qn Y Y Y Y (by decide) Y Y QAll.nil)))))))))))))))))))))))))) ?_)
 refine EAll.cons ?_ EAll.nil
 refine EOp.no Y Y Y Y (by decide) Y ?_
 apply Stg.next [(54, _), (55, _), (56, _)] Y Y
 refine Stg.fin [27, 28] Y Y (qn Y Y Y Y (by decide) Y Y (qp hT Y QAll.nil)) ?_
 exact AtE.then_n ((HK3 _ () _ H).pickP (ts := [56, 2, 3, 5]) (is := [0, 1]) Y Y (by decide) Y)
 obtain ⟨a_2_, hc8, hd8, H⟩ := H
 obtain ⟨v_3, hc9, H⟩ := H
 obtain ⟨a_3_, hc10, hd10, H⟩ := H
 obtain ⟨v_4, hc11, H⟩ := H
 apply AtC.stages [26] [[], [], [], [], [], [], [], [], [], [], [], [], [], [], [], [], [], [], [], [], [], [], [], [], [], [], [], [26], [26]] [[], [0], [], [0, 1, 2], [0, 1, 2, 3], [0, 1, 2, 3, 4], [], [6], [], [6, 7, 8], [6, 7, 8, 9], [6, 7, 8, 9, 10], [0, 1, 2, 3, 4, 5, 6, 7, 8, 9, 10, 11], [0, 1, 2, 3, 4, 5, 6, 7, 8, 9, 10, 11, 12], [0, 1, 2, 3, 4, 5, 6, 7, 8, 9, 10, 11, 12, 13], [0, 1, 2, 3, 4, 5, 6, 7, 8, 9, 10, 11, 12, 13, 14], [0, 1, 2, 3, 4, 5, 6, 7, 8, 9, 10, 11, 12, 13], [0, 1, 2, 3, 4, 5, 6, 7, 8, 9, 10, 11, 12, 13, 14, 15, 16], [0, 1, 2, 3, 4, 5, 6, 7, 8, 9, 10, 11, 12, 13, 14, 15, 16, 17], [0, 1, 2, 3, 4, 5, 6, 7, 8, 9, 10, 11, 12, 13, 14, 15, 16, 17, 18], [0, 1, 2, 3, 4, 5, 6, 7, 8, 9, 10, 11, 12, 13], [0, 1, 2, 3, 4, 5, 6, 7, 8, 9, 10, 11, 12, 13, 20], [0, 1, 2, 3, 4, 5, 6, 7, 8, 9, 10, 11, 12, 13], [0, 1, 2, 3, 4, 5, 6, 7, 8, 9, 10, 11, 12, 13, 20, 21, 22], [0, 1, 2, 3, 4, 5, 6, 7, 8, 9, 10, 11, 12, 13, 20, 21, 22, 23], [0, 1, 2, 3, 4, 5, 6, 7, 8, 9, 10, 11, 12, 13, 20, 21, 22, 23, 24], [0, 1, 2, 3, 4, 5, 6, 7, 8, 9, 10, 11, 12, 13, 14, 15, 16, 17, 18, 19, 20, 21, 22, 23, 24, 25], [0, 1, 2, 3, 4, 5, 6, 7, 8, 9, 10, 11, 12, 13, 14, 15, 16, 17, 18, 19, 20, 21, 22, 23, 24, 25, 26], [0, 1, 2, 3, 4, 5, 6, 7, 8, 9, 10, 11, 12, 13, 14, 15, 16, 17, 18, 19, 20, 21, 22, 23, 24, 25, 26, 27]] hmix (by kernel_rfl) [(28, _), (29, _), (30, _), (31, _), (32, _), (33, _), (34, _), (35, _), (36, _), (37, _), (38, _), (39, _), (40, _), (41, _), (42, _), (43, _), (44, _), (45, _), (46, _), (47, _), (48, _), (49, _), (50, _), (51, _), (52, _), (53, _)] Y 1 Y
 refine Stg.known (t := 41) Y hb7 (Stg.go [0, 1, 2, 3, 4, 5, 6, 7, 8, 9, 10, 11, 12, 13, 14, 15, 16, 17, 18, 19, 20, 21, 22, 23, 24, 25] [26] Y Y (qp hT Y (qq Y (lP hT 1 Y) Y (qp hT Y (qq Y (Quiet1.idxS hT Y Y Y Y Y hc3 hd3) Y (qp hT Y (qq Y (Quiet1.load hT Y Y Y hc4) Y (qp hT Y (qq Y (lP hT 0 Y) Y (qp hT Y (qq Y (Quiet1.idxS hT Y Y Y Y Y hc5 hd5) Y (qp hT Y (qq Y (Quiet1.load hT Y Y Y hc6) Y (qp hT Y (QAll.cons (QOp.pk hT Y Y Y Y hb7 Y) (QAll.cons (QOp.yp hT Y Y Y Y Y Y Y) (QAll.cons (QOp.y Y Y Y Y (lP hT 1 Y) Y Y) (QAll.cons (QOp.yp hT Y Y Y Y Y Y Y) (QAll.cons (QOp.y Y Y Y Y (Quiet1.idxS hT Y Y Y Y Y hc8 hd8) Y Y) (QAll.cons (QOp.yp hT Y Y Y Y Y Y Y) (QAll.cons (QOp.y Y Y Y Y (Quiet1.loadS hT Y Y Y Y hc9) Y Y) (QAll.cons (QOp.yp hT Y Y Y Y Y Y Y) (QAll.cons (QOp.y Y Y Y Y (lP hT 0 Y) Y Y) (QAll.cons (QOp.yp hT Y Y Y Y Y Y Y) (QAll.cons (QOp.y Y Y Y Y (Quiet1.idxS hT Y Y Y Y Y hc10 hd10) Y Y) (QAll.cons (QOp.yp hT Y Y Y Y Y Y Y) (QAll.cons (QOp.y Y Y Y Y (Quiet1.loadS hT Y Y Y Y hc11) Y Y) QAll.nil)))))))))))))))))))))))))) ?_)
 refine EAll.cons ?_ EAll.nil
 refine EOp.y Y Y Y Y Y (cl (fun h => ref02uSame _ _ h _) H Y Tryz.call47 Y (fun w m hr hw => lift_ref02uSame _ _ w m hr _ hw)) ?_
 rintro _ _ ⟨v_5, h0u5, rfl, rfl, H⟩
 apply Stg.next [(54, _), (55, _), (56, _)] Y Y
 refine Stg.fin [27, 28] Y Y (QAll.cons (QOp.yp hT Y Y Y Y Y Y Y) (qp hT Y QAll.nil)) ?_
 exact AtE.then_n ((HK3 _ () _ H).pickP (ts := [56, 2, 3, 5]) (is := [0, 1]) Y Y (by decide) Y)
 refine AtC.exit (AtE.then_x (AtE.then_x (AtE.blk_hit (tg (sR ?_)))))
 refine pu hT 1 Y (ng (AtC.ret ?_))
 exact r1 4 Y Y Y H
 refine AtC.region (pu hT 1 Y (AtL.q Y (lS hT 1 [_, _, _] Y Y Y Y Y Y Y Y) (pu hT 1 Y (AtL.q Y (lS hT 0 [_, _, _] Y Y Y Y Y Y Y Y) (AtL.e Y (cl (fun h => ref02uSame _ _ h _) H Y Tryz.call47 Y (fun w m hr hw => lift_ref02uSame _ _ w m hr _ hw)) ?_)))))
 rintro _ _ ⟨v, h0u2, rfl, rfl, H⟩
 refine pu hT 2 Y ?_
 refine AtL.splitB (t := 12) H Y (fun H => ?_) (fun H => ?_)
 refine nf Y (nf Y (nf Y (nf Y (nf Y (nf Y ?_)))))
 refine nf Y (pu hT 1 Y (AtL.nil ?_))
 exact AtE.then_n ((HK1 _ () _ H).pickP (ts := [20, 2, 3]) (is := [0, 1]) Y Y (by decide) Y)
 refine ys Y (pu hT 1 Y (ys Y (AtL.q Y (lP hT 1 Y) (ys Y (pu hT 1 Y ?_)))))
 refine ys Y (pu hT 1 Y (ys Y (AtL.q Y (lP hT 0 Y) (ys Y (pu hT 1 Y ?_)))))
 refine ys Y (pu hT 1 Y (pu hT 1 Y (AtL.nil ?_)))
 exact AtE.then_n ((HK1 _ () _ H).pickP (ts := [20, 2, 3]) (is := [0, 1]) Y Y (by decide) Y)
theorem lift_ref14uSame (s0 : Sl × Sl × Sl × Sl × Sl) (t0 : Sl × Sl × Sl × Sl × Sl) (w : World) (m : Heap) (hr : Rel ⟨m, []⟩ w.heap) (S : Bool → Heap → Prop) (H : ref14uSame s0 t0 m S) :
 Calls Tryz.prog 23 #[Value.agg (C_sl_sl_sl_sl_sl s0).toArray, Value.agg (C_sl_sl_sl_sl_sl t0).toArray] w (Post ⟨w, m⟩ Value.bool S) := by
 refine Calls.lift (args := [Value.agg (C_sl_sl_sl_sl_sl s0).toArray, Value.agg (C_sl_sl_sl_sl_sl t0).toArray]) Tryz.func23 Y Tryz.ntmps23 (Nat.le_of_ble_eq_true Y) hr (ref14uSame s0 t0 m S) H (fun H => ?_)
 refine AtC.pick (ts := [0, 1]) Y ?_
 unfold ref14uSame at H
 refine sR (AtL.e Y (EffX.boxP (cs := [_, _, _, _, _]) Y Y Y H) ?_)
 rintro _ _ ⟨b, _, rfl, rfl, _, H⟩
 refine AtL.e Y (EffX.boxP (cs := [_, _, _, _, _]) Y Y Y H) ?_
 rintro _ _ ⟨b_1, _, rfl, rfl, _, H⟩
 replace H := H.self
 refine pu hT 1 Y (ng (AtC.seq ?_))
 refine AtC.joinSeq (β := Unit) (fun (t0u1 : Bool) (bb : Unit) => [(52, Value.bool t0u1)]) (fun (t0u1 : Bool) (bb : Unit) => []) [2, 3] [0, 1] H Y Y (fun t0u1 bb h0u1 H => ?_) (fun J1 H HK1 => ?_)
 refine AtC.condB H Y (fun H => ?_) (fun H => ?_)
 refine sR (pu hT 1 Y (ng (AtC.ret (AtE.then_r ?_))))
 exact r1 4 Y Y Y H
 refine AtC.skip (tg (AtC.seq (sR (pu hT 1 Y (ng ?_)))))
 refine AtC.block ?_
 refine AtC.loopM (fun (s0u1 : Int) => [(5, Value.int .i64 s0u1)]) (fun (s0u1 : Int) => []) [2, 3] [5, 2, 3] [0, 1] [0, 1] H Y Y Y (by decide) Y (fun Kp2 s0u1 h0u2 H Q2 HK2 => ?_)
 refine AtC.seq (sR (pu hT 2 Y (AtL.q Y (lP hT 1 Y) (pu hT 2 Y (ng ?_)))))
 refine AtC.condB H Y (fun H => ?_) (fun H => ?_)
 refine AtC.skip (tg (AtC.seq (AtC.block (AtC.seqD hmix (by kernel_rfl) (AtD.pures hT 1 _ _ _ _ Y ?_)))))
 refine AtD.q Y (lP hT 1 Y) (AtD.pures hT 1 _ _ _ _ Y ?_)
 obtain ⟨a_, hc2, hd2, H⟩ := H
 refine AtD.q Y (Quiet1.idxS hT Y Y Y Y Y hc2 hd2) ?_
 obtain ⟨v, hc3, H⟩ := H
 refine AtD.q Y (Quiet1.load hT Y Y Y hc3) (AtD.pures hT 1 _ _ _ _ Y (AtD.q Y (lP hT 0 Y) (AtD.pures hT 1 _ _ _ _ Y ?_)))
 obtain ⟨a_1_, hc4, hd4, H⟩ := H
 refine AtD.q Y (Quiet1.idxS hT Y Y Y Y Y hc4 hd4) ?_
 obtain ⟨v_1, hc5, H⟩ := H
 refine AtD.q Y (Quiet1.load hT Y Y Y hc5) (AtD.pures hT 1 _ _ _ _ Y (AtD.nil (tg ?_)))
 refine AtC.condB H Y (fun H => ?_) (fun H => ?_)
 refine sR (pu hT 1 Y (ng (AtC.ret (AtE.blk_r (AtE.then_r ?_)))))
 refine AtE.then_r (AtE.blk_r (AtE.then_r ?_))
 exact r1 4 Y Y Y H
 refine AtC.skip (AtE.blk_n (tg (AtC.region (pu hT 3 Y ?_))))
 replace H := H _ rfl
 refine AtL.nil ?_
 exact AtE.then_n ((HK2 _ _ H).pickP (ts := [5, 2, 3]) (is := [0, 1]) Y Y (by decide) Y)
 refine AtC.exit (AtE.then_x (AtE.then_x (AtE.blk_hit (tg (AtC.seq ?_)))))
 refine sR (pu hT 1 Y (ng (AtC.block ?_)))
 refine AtC.loopM (fun (s0u2 : Int) => [(6, Value.int .i64 s0u2)]) (fun (s0u2 : Int) => []) [2, 3] [6, 2, 3] [0, 1] [0, 1] H Y Y Y (by decide) Y (fun Kp7 s0u2 h0u3 H Q7 HK7 => ?_)
 refine AtC.seq (sR (pu hT 2 Y (AtL.q Y (lP hT 1 Y) (pu hT 2 Y (ng ?_)))))
 refine AtC.condB H Y (fun H => ?_) (fun H => ?_)
 refine AtC.skip (tg (AtC.seq (AtC.block ?_)))
 obtain ⟨a_2_, hc7, hd7, H⟩ := H
 obtain ⟨v_2, hc8, H⟩ := H
 obtain ⟨a_3_, hc9, hd9, H⟩ := H
 obtain ⟨v_3, hc10, H⟩ := H
 apply AtC.seqS [10] [[], [], [], [], [], [], [], [], [], [], [], [10]] [[], [0], [], [0, 1, 2], [0, 1, 2, 3], [], [5], [], [5, 6, 7], [5, 6, 7, 8], [0, 1, 2, 3, 4, 5, 6, 7, 8, 9], [0, 1, 2, 3, 4, 5, 6, 7, 8, 9, 10]] hmix (by kernel_rfl) [(78, _), (79, _), (80, _), (81, _), (82, _), (83, _), (84, _), (85, _), (86, _), (87, _)] Y 1 Y
 refine Stg.go [0, 1, 2, 3, 4, 5, 6, 7, 8, 9] [10] Y Y (qp hT Y (qq Y (lP hT 1 Y) Y (qp hT Y (qq Y (Quiet1.idxS hT Y Y Y Y Y hc7 hd7) Y (qq Y (Quiet1.loadS hT Y Y Y Y hc8) Y (qp hT Y (qq Y (lP hT 0 Y) Y (qp hT Y (qq Y (Quiet1.idxS hT Y Y Y Y Y hc9 hd9) Y (qq Y (Quiet1.loadS hT Y Y Y Y hc10) Y QAll.nil)))))))))) ?_
 refine EAll.cons ?_ EAll.nil
 refine EOp.e Y Y Y (cl (fun h => ref12uSame _ _ h _) H Y Tryz.call76 Y (fun w m hr hw => lift_ref12uSame _ _ w m hr _ hw)) ?_
 rintro _ _ ⟨v_4, h0u4, rfl, rfl, H⟩
 apply Stg.next [(88, _), (89, _)] Y Y
 refine Stg.fin [11] Y Y (qp hT Y QAll.nil) (tg ?_)
 refine AtC.condB H Y (fun H => ?_) (fun H => ?_)
 refine sR (pu hT 1 Y (ng (AtC.ret (AtE.blk_r (AtE.then_r ?_)))))
 refine AtE.then_r (AtE.blk_r (AtE.then_r ?_))
 exact r1 4 Y Y Y H
 refine AtC.skip (AtE.blk_n (tg (AtC.region (pu hT 3 Y ?_))))
 replace H := H _ rfl
 refine AtL.nil ?_
 exact AtE.then_n ((HK7 _ _ H).pickP (ts := [6, 2, 3]) (is := [0, 1]) Y Y (by decide) Y)
 refine AtC.exit (AtE.then_x (AtE.then_x (AtE.blk_hit (tg (AtC.seq ?_)))))
 refine sR (pu hT 1 Y (ng (AtC.block ?_)))
 refine AtC.loopM (fun (s0u3 : Int) => [(7, Value.int .i64 s0u3)]) (fun (s0u3 : Int) => []) [2, 3] [7, 2, 3] [0, 1] [0, 1] H Y Y Y (by decide) Y (fun Kp12 s0u3 h0u5 H Q12 HK12 => ?_)
 refine AtC.seq (sR (pu hT 2 Y (AtL.q Y (lP hT 1 Y) (pu hT 2 Y (ng ?_)))))
 refine AtC.condB H Y (fun H => ?_) (fun H => ?_)
 refine AtC.skip (tg (AtC.seq (AtC.block ?_)))
 obtain ⟨a_4_, hc12, hd12, H⟩ := H
 obtain ⟨v_5, hc13, H⟩ := H
 obtain ⟨a_5_, hc14, hd14, H⟩ := H
 obtain ⟨v_6, hc15, H⟩ := H
 apply AtC.seqS [10] [[], [], [], [], [], [], [], [], [], [], [], [10]] [[], [0], [], [0, 1, 2], [0, 1, 2, 3], [], [5], [], [5, 6, 7], [5, 6, 7, 8], [0, 1, 2, 3, 4, 5, 6, 7, 8, 9], [0, 1, 2, 3, 4, 5, 6, 7, 8, 9, 10]] hmix (by kernel_rfl) [(97, _), (98, _), (99, _), (100, _), (101, _), (102, _), (103, _), (104, _), (105, _), (106, _)] Y 1 Y
 refine Stg.go [0, 1, 2, 3, 4, 5, 6, 7, 8, 9] [10] Y Y (qp hT Y (qq Y (lP hT 1 Y) Y (qp hT Y (qq Y (Quiet1.idxS hT Y Y Y Y Y hc12 hd12) Y (qq Y (Quiet1.loadS hT Y Y Y Y hc13) Y (qp hT Y (qq Y (lP hT 0 Y) Y (qp hT Y (qq Y (Quiet1.idxS hT Y Y Y Y Y hc14 hd14) Y (qq Y (Quiet1.loadS hT Y Y Y Y hc15) Y QAll.nil)))))))))) ?_
 refine EAll.cons ?_ EAll.nil
 refine EOp.e Y Y Y (cl (fun h => ref03uSame _ _ h _) H Y Tryz.call68 Y (fun w m hr hw => lift_ref03uSame _ _ w m hr _ hw)) ?_
 rintro _ _ ⟨v_7, h0u6, rfl, rfl, H⟩
 apply Stg.next [(107, _), (108, _)] Y Y
 refine Stg.fin [11] Y Y (qp hT Y QAll.nil) (tg ?_)
 refine AtC.condB H Y (fun H => ?_) (fun H => ?_)
 refine sR (pu hT 1 Y (ng (AtC.ret (AtE.blk_r (AtE.then_r ?_)))))
 refine AtE.then_r (AtE.blk_r (AtE.then_r ?_))
 exact r1 4 Y Y Y H
 refine AtC.skip (AtE.blk_n (tg (AtC.region (pu hT 3 Y ?_))))
 replace H := H _ rfl
 refine AtL.nil ?_
 exact AtE.then_n ((HK12 _ _ H).pickP (ts := [7, 2, 3]) (is := [0, 1]) Y Y (by decide) Y)
 refine AtC.exit (AtE.then_x (AtE.then_x (AtE.blk_hit (tg (AtC.seq ?_)))))
 refine sR (pu hT 1 Y (ng (AtC.block ?_)))
 refine AtC.loopM (fun (s0u4 : Int) => [(8, Value.int .i64 s0u4)]) (fun (s0u4 : Int) => []) [2, 3] [8, 2, 3] [0, 1] [0, 1] H Y Y Y (by decide) Y (fun Kp17 s0u4 h0u7 H Q17 HK17 => ?_)
 refine AtC.seq (sR (pu hT 2 Y (AtL.q Y (lP hT 1 Y) (pu hT 2 Y (ng ?_)))))
 refine AtC.condB H Y (fun H => ?_) (fun H => ?_)
 refine AtC.skip (tg (AtC.seq (AtC.block ?_)))
 refine AtC.joinSeq (β := Unit) (fun (t0u2 : Bool) (bb_1 : Unit) => [(144, Value.bool t0u2)]) (fun (t0u2 : Bool) (bb_1 : Unit) => []) [2, 3, 8] [0, 1] H Y Y (fun t0u2 bb_1 h0u8 H => ?_) (fun J18 H HK18 => ?_)
 refine AtC.condB H Y (fun H => ?_) (fun H => ?_)
 refine sR (pu hT 1 Y (ng (AtC.ret (AtE.blk_r (AtE.then_r ?_)))))
 refine AtE.then_r (AtE.blk_r (AtE.then_r ?_))
 exact r1 4 Y Y Y H
 refine AtC.skip (AtE.blk_n (tg (AtC.region (pu hT 3 Y ?_))))
 replace H := H _ rfl
 refine AtL.nil ?_
 exact AtE.then_n ((HK17 _ _ H).pickP (ts := [8, 2, 3]) (is := [0, 1]) Y Y (by decide) Y)
 obtain ⟨a_6_, hc18, hd18, H⟩ := H
 obtain ⟨v_8, hc19, H⟩ := H
 obtain ⟨a_7_, hc20, hd20, H⟩ := H
 obtain ⟨v_9, hc21, H⟩ := H
 rcases iteB.cases H with ⟨hb22, H⟩ | ⟨hb22, H⟩
 apply AtC.stages [26] [[], [], [], [], [], [], [], [], [], [], [], [], [], [], [], [], [], [], [], [], [], [], [], [], [], [], [], [26], [26]] [[], [0], [], [0, 1, 2], [0, 1, 2, 3], [0, 1, 2, 3, 4], [], [6], [], [6, 7, 8], [6, 7, 8, 9], [6, 7, 8, 9, 10], [0, 1, 2, 3, 4, 5, 6, 7, 8, 9, 10, 11], [0, 1, 2, 3, 4, 5, 6, 7, 8, 9, 10, 11, 12], [0, 1, 2, 3, 4, 5, 6, 7, 8, 9, 10, 11, 12, 13], [0, 1, 2, 3, 4, 5, 6, 7, 8, 9, 10, 11, 12, 13, 14], [0, 1, 2, 3, 4, 5, 6, 7, 8, 9, 10, 11, 12, 13], [0, 1, 2, 3, 4, 5, 6, 7, 8, 9, 10, 11, 12, 13, 14, 15, 16], [0, 1, 2, 3, 4, 5, 6, 7, 8, 9, 10, 11, 12, 13, 14, 15, 16, 17], [0, 1, 2, 3, 4, 5, 6, 7, 8, 9, 10, 11, 12, 13, 14, 15, 16, 17, 18], [0, 1, 2, 3, 4, 5, 6, 7, 8, 9, 10, 11, 12, 13], [0, 1, 2, 3, 4, 5, 6, 7, 8, 9, 10, 11, 12, 13, 20], [0, 1, 2, 3, 4, 5, 6, 7, 8, 9, 10, 11, 12, 13], [0, 1, 2, 3, 4, 5, 6, 7, 8, 9, 10, 11, 12, 13, 20, 21, 22], [0, 1, 2, 3, 4, 5, 6, 7, 8, 9, 10, 11, 12, 13, 20, 21, 22, 23], [0, 1, 2, 3, 4, 5, 6, 7, 8, 9, 10, 11, 12, 13, 20, 21, 22, 23, 24], [0, 1, 2, 3, 4, 5, 6, 7, 8, 9, 10, 11, 12, 13, 14, 15, 16, 17, 18, 19, 20, 21, 22, 23, 24, 25], [0, 1, 2, 3, 4, 5, 6, 7, 8, 9, 10, 11, 12, 13, 14, 15, 16, 17, 18, 19, 20, 21, 22, 23, 24, 25, 26], [0, 1, 2, 3, 4, 5, 6, 7, 8, 9, 10, 11, 12, 13, 14, 15, 16, 17, 18, 19, 20, 21, 22, 23, 24, 25, 26, 27]] hmix (by kernel_rfl) [(116, _), (117, _), (118, _), (119, _), (120, _), (121, _), (122, _), (123, _), (124, _), (125, _), (126, _), (127, _), (128, _), (129, _), (130, _), (131, _), (132, _), (133, _), (134, _), (135, _), (136, _), (137, _), (138, _), (139, _), (140, _), (141, _)] Y 1 Y
 refine Stg.known (t := 129) Y hb22 (Stg.go [0, 1, 2, 3, 4, 5, 6, 7, 8, 9, 10, 11, 12, 13, 14, 15, 16, 17, 18, 19, 20, 21, 22, 23, 24, 25] [26] Y Y (qp hT Y (qq Y (lP hT 1 Y) Y (qp hT Y (qq Y (Quiet1.idxS hT Y Y Y Y Y hc18 hd18) Y (qp hT Y (qq Y (Quiet1.load hT Y Y Y hc19) Y (qp hT Y (qq Y (lP hT 0 Y) Y (qp hT Y (qq Y (Quiet1.idxS hT Y Y Y Y Y hc20 hd20) Y (qp hT Y (qq Y (Quiet1.load hT Y Y Y hc21) Y (qp hT Y (QAll.cons (QOp.pk hT Y Y Y Y hb22 Y) (qn Y Y Y Y (by decide) Y Y (qn Y Y Y Y (by decide) Y Y (qn Y Y Y Y (by decide) Y Y (qn Y Y Y Y (by decide) Y Y (qn Y Y Y Y (by decide) Y Y (qn Y Y Y Y (by decide) Y Y (qn Y Y Y Y (by decide) Y Y (qn Y Y Y Y (by decide) Y Y (qn Y Y Y Y (by decide) Y Y (qn Y Y Y Y (by decide) Y Y (qn Y Y Y Y (by decide) Y Y (qn Y Y Y Y (by decide) Y Y QAll.nil)))))))))))))))))))))))))) ?_)
 refine EAll.cons ?_ EAll.nil
 refine EOp.no Y Y Y Y (by decide) Y ?_
 apply Stg.next [(142, _), (143, _), (144, _)] Y Y
 refine Stg.fin [27, 28] Y Y (qn Y Y Y Y (by decide) Y Y (qp hT Y QAll.nil)) ?_
 exact AtE.then_n ((HK18 _ () _ H).pickP (ts := [144, 2, 3, 8]) (is := [0, 1]) Y Y (by decide) Y)
 obtain ⟨a_8_, hc23, hd23, H⟩ := H
 obtain ⟨v_10, hc24, H⟩ := H
 obtain ⟨a_9_, hc25, hd25, H⟩ := H
 obtain ⟨v_11, hc26, H⟩ := H
 apply AtC.stages [26] [[], [], [], [], [], [], [], [], [], [], [], [], [], [], [], [], [], [], [], [], [], [], [], [], [], [], [], [26], [26]] [[], [0], [], [0, 1, 2], [0, 1, 2, 3], [0, 1, 2, 3, 4], [], [6], [], [6, 7, 8], [6, 7, 8, 9], [6, 7, 8, 9, 10], [0, 1, 2, 3, 4, 5, 6, 7, 8, 9, 10, 11], [0, 1, 2, 3, 4, 5, 6, 7, 8, 9, 10, 11, 12], [0, 1, 2, 3, 4, 5, 6, 7, 8, 9, 10, 11, 12, 13], [0, 1, 2, 3, 4, 5, 6, 7, 8, 9, 10, 11, 12, 13, 14], [0, 1, 2, 3, 4, 5, 6, 7, 8, 9, 10, 11, 12, 13], [0, 1, 2, 3, 4, 5, 6, 7, 8, 9, 10, 11, 12, 13, 14, 15, 16], [0, 1, 2, 3, 4, 5, 6, 7, 8, 9, 10, 11, 12, 13, 14, 15, 16, 17], [0, 1, 2, 3, 4, 5, 6, 7, 8, 9, 10, 11, 12, 13, 14, 15, 16, 17, 18], [0, 1, 2, 3, 4, 5, 6, 7, 8, 9, 10, 11, 12, 13], [0, 1, 2, 3, 4, 5, 6, 7, 8, 9, 10, 11, 12, 13, 20], [0, 1, 2, 3, 4, 5, 6, 7, 8, 9, 10, 11, 12, 13], [0, 1, 2, 3, 4, 5, 6, 7, 8, 9, 10, 11, 12, 13, 20, 21, 22], [0, 1, 2, 3, 4, 5, 6, 7, 8, 9, 10, 11, 12, 13, 20, 21, 22, 23], [0, 1, 2, 3, 4, 5, 6, 7, 8, 9, 10, 11, 12, 13, 20, 21, 22, 23, 24], [0, 1, 2, 3, 4, 5, 6, 7, 8, 9, 10, 11, 12, 13, 14, 15, 16, 17, 18, 19, 20, 21, 22, 23, 24, 25], [0, 1, 2, 3, 4, 5, 6, 7, 8, 9, 10, 11, 12, 13, 14, 15, 16, 17, 18, 19, 20, 21, 22, 23, 24, 25, 26], [0, 1, 2, 3, 4, 5, 6, 7, 8, 9, 10, 11, 12, 13, 14, 15, 16, 17, 18, 19, 20, 21, 22, 23, 24, 25, 26, 27]] hmix (by kernel_rfl) [(116, _), (117, _), (118, _), (119, _), (120, _), (121, _), (122, _), (123, _), (124, _), (125, _), (126, _), (127, _), (128, _), (129, _), (130, _), (131, _), (132, _), (133, _), (134, _), (135, _), (136, _), (137, _), (138, _), (139, _), (140, _), (141, _)] Y 1 Y
 refine Stg.known (t := 129) Y hb22 (Stg.go [0, 1, 2, 3, 4, 5, 6, 7, 8, 9, 10, 11, 12, 13, 14, 15, 16, 17, 18, 19, 20, 21, 22, 23, 24, 25] [26] Y Y (qp hT Y (qq Y (lP hT 1 Y) Y (qp hT Y (qq Y (Quiet1.idxS hT Y Y Y Y Y hc18 hd18) Y (qp hT Y (qq Y (Quiet1.load hT Y Y Y hc19) Y (qp hT Y (qq Y (lP hT 0 Y) Y (qp hT Y (qq Y (Quiet1.idxS hT Y Y Y Y Y hc20 hd20) Y (qp hT Y (qq Y (Quiet1.load hT Y Y Y hc21) Y (qp hT Y (QAll.cons (QOp.pk hT Y Y Y Y hb22 Y) (QAll.cons (QOp.yp hT Y Y Y Y Y Y Y) (QAll.cons (QOp.y Y Y Y Y (lP hT 1 Y) Y Y) (QAll.cons (QOp.yp hT Y Y Y Y Y Y Y) (QAll.cons (QOp.y Y Y Y Y (Quiet1.idxS hT Y Y Y Y Y hc23 hd23) Y Y) (QAll.cons (QOp.yp hT Y Y Y Y Y Y Y) (QAll.cons (QOp.y Y Y Y Y (Quiet1.loadS hT Y Y Y Y hc24) Y Y) (QAll.cons (QOp.yp hT Y Y Y Y Y Y Y) (QAll.cons (QOp.y Y Y Y Y (lP hT 0 Y) Y Y) (QAll.cons (QOp.yp hT Y Y Y Y Y Y Y) (QAll.cons (QOp.y Y Y Y Y (Quiet1.idxS hT Y Y Y Y Y hc25 hd25) Y Y) (QAll.cons (QOp.yp hT Y Y Y Y Y Y Y) (QAll.cons (QOp.y Y Y Y Y (Quiet1.loadS hT Y Y Y Y hc26) Y Y) QAll.nil)))))))))))))))))))))))))) ?_)
 refine EAll.cons ?_ EAll.nil
 refine EOp.y Y Y Y Y Y (cl (fun h => ref03uSame _ _ h _) H Y Tryz.call68 Y (fun w m hr hw => lift_ref03uSame _ _ w m hr _ hw)) ?_
 rintro _ _ ⟨v_12, h0u9, rfl, rfl, H⟩
 apply Stg.next [(142, _), (143, _), (144, _)] Y Y
 refine Stg.fin [27, 28] Y Y (QAll.cons (QOp.yp hT Y Y Y Y Y Y Y) (qp hT Y QAll.nil)) ?_
 exact AtE.then_n ((HK18 _ () _ H).pickP (ts := [144, 2, 3, 8]) (is := [0, 1]) Y Y (by decide) Y)
 refine AtC.exit (AtE.then_x (AtE.then_x (AtE.blk_hit (tg (AtC.seq ?_)))))
 refine sR (pu hT 1 Y (ng (AtC.block ?_)))
 refine AtC.loopM (fun (s0u5 : Int) => [(9, Value.int .i64 s0u5)]) (fun (s0u5 : Int) => []) [2, 3] [9, 2, 3] [0, 1] [0, 1] H Y Y Y (by decide) Y (fun Kp28 s0u5 h0u10 H Q28 HK28 => ?_)
 refine AtC.seq (sR (pu hT 2 Y (AtL.q Y (lP hT 1 Y) (pu hT 2 Y (ng ?_)))))
 refine AtC.condB H Y (fun H => ?_) (fun H => ?_)
 refine AtC.skip (tg (AtC.seq (AtC.block ?_)))
 refine AtC.joinSeq (β := Unit) (fun (t0u3 : Bool) (bb_2 : Unit) => [(180, Value.bool t0u3)]) (fun (t0u3 : Bool) (bb_2 : Unit) => []) [2, 3, 9] [0, 1] H Y Y (fun t0u3 bb_2 h0u11 H => ?_) (fun J29 H HK29 => ?_)
 refine AtC.condB H Y (fun H => ?_) (fun H => ?_)
 refine sR (pu hT 1 Y (ng (AtC.ret (AtE.blk_r (AtE.then_r ?_)))))
 refine AtE.then_r (AtE.blk_r (AtE.then_r ?_))
 exact r1 4 Y Y Y H
 refine AtC.skip (AtE.blk_n (tg (AtC.region (pu hT 3 Y ?_))))
 replace H := H _ rfl
 refine AtL.nil ?_
 exact AtE.then_n ((HK28 _ _ H).pickP (ts := [9, 2, 3]) (is := [0, 1]) Y Y (by decide) Y)
 obtain ⟨a_10_, hc29, hd29, H⟩ := H
 obtain ⟨v_13, hc30, H⟩ := H
 obtain ⟨a_11_, hc31, hd31, H⟩ := H
 obtain ⟨v_14, hc32, H⟩ := H
 rcases iteB.cases H with ⟨hb33, H⟩ | ⟨hb33, H⟩
 apply AtC.stages [26] [[], [], [], [], [], [], [], [], [], [], [], [], [], [], [], [], [], [], [], [], [], [], [], [], [], [], [], [26], [26]] [[], [0], [], [0, 1, 2], [0, 1, 2, 3], [0, 1, 2, 3, 4], [], [6], [], [6, 7, 8], [6, 7, 8, 9], [6, 7, 8, 9, 10], [0, 1, 2, 3, 4, 5, 6, 7, 8, 9, 10, 11], [0, 1, 2, 3, 4, 5, 6, 7, 8, 9, 10, 11, 12], [0, 1, 2, 3, 4, 5, 6, 7, 8, 9, 10, 11, 12, 13], [0, 1, 2, 3, 4, 5, 6, 7, 8, 9, 10, 11, 12, 13, 14], [0, 1, 2, 3, 4, 5, 6, 7, 8, 9, 10, 11, 12, 13], [0, 1, 2, 3, 4, 5, 6, 7, 8, 9, 10, 11, 12, 13, 14, 15, 16], [0, 1, 2, 3, 4, 5, 6, 7, 8, 9, 10, 11, 12, 13, 14, 15, 16, 17], [0, 1, 2, 3, 4, 5, 6, 7, 8, 9, 10, 11, 12, 13, 14, 15, 16, 17, 18], [0, 1, 2, 3, 4, 5, 6, 7, 8, 9, 10, 11, 12, 13], [0, 1, 2, 3, 4, 5, 6, 7, 8, 9, 10, 11, 12, 13, 20], [0, 1, 2, 3, 4, 5, 6, 7, 8, 9, 10, 11, 12, 13], [0, 1, 2, 3, 4, 5, 6, 7, 8, 9, 10, 11, 12, 13, 20, 21, 22], [0, 1, 2, 3, 4, 5, 6, 7, 8, 9, 10, 11, 12, 13, 20, 21, 22, 23], [0, 1, 2, 3, 4, 5, 6, 7, 8, 9, 10, 11, 12, 13, 20, 21, 22, 23, 24], [0, 1, 2, 3, 4, 5, 6, 7, 8, 9, 10, 11, 12, 13, 14, 15, 16, 17, 18, 19, 20, 21, 22, 23, 24, 25], [0, 1, 2, 3, 4, 5, 6, 7, 8, 9, 10, 11, 12, 13, 14, 15, 16, 17, 18, 19, 20, 21, 22, 23, 24, 25, 26], [0, 1, 2, 3, 4, 5, 6, 7, 8, 9, 10, 11, 12, 13, 14, 15, 16, 17, 18, 19, 20, 21, 22, 23, 24, 25, 26, 27]] hmix (by kernel_rfl) [(152, _), (153, _), (154, _), (155, _), (156, _), (157, _), (158, _), (159, _), (160, _), (161, _), (162, _), (163, _), (164, _), (165, _), (166, _), (167, _), (168, _), (169, _), (170, _), (171, _), (172, _), (173, _), (174, _), (175, _), (176, _), (177, _)] Y 1 Y
 refine Stg.known (t := 165) Y hb33 (Stg.go [0, 1, 2, 3, 4, 5, 6, 7, 8, 9, 10, 11, 12, 13, 14, 15, 16, 17, 18, 19, 20, 21, 22, 23, 24, 25] [26] Y Y (qp hT Y (qq Y (lP hT 1 Y) Y (qp hT Y (qq Y (Quiet1.idxS hT Y Y Y Y Y hc29 hd29) Y (qp hT Y (qq Y (Quiet1.load hT Y Y Y hc30) Y (qp hT Y (qq Y (lP hT 0 Y) Y (qp hT Y (qq Y (Quiet1.idxS hT Y Y Y Y Y hc31 hd31) Y (qp hT Y (qq Y (Quiet1.load hT Y Y Y hc32) Y (qp hT Y (QAll.cons (QOp.pk hT Y Y Y Y hb33 Y) (qn Y Y Y Y (by decide) Y Y (qn Y Y Y Y (by decide) Y Y (qn Y Y Y Y (by decide) Y Y (qn Y Y Y Y (by decide) Y Y (qn Y Y Y Y (by decide) Y Y (qn Y Y Y Y (by decide) Y Y (qn Y Y Y Y (by decide) Y Y (qn Y Y Y Y (by decide) Y Y (qn Y Y Y Y (by decide) Y Y (qn Y Y Y Y (by decide) Y Y (qn Y Y Y Y (by decide) Y Y (qn Y Y Y Y (by decide) Y Y QAll.nil)))))))))))))))))))))))))) ?_)
 refine EAll.cons ?_ EAll.nil
 refine EOp.no Y Y Y Y (by decide) Y ?_
 apply Stg.next [(178, _), (179, _), (180, _)] Y Y
 refine Stg.fin [27, 28] Y Y (qn Y Y Y Y (by decide) Y Y (qp hT Y QAll.nil)) ?_
 exact AtE.then_n ((HK29 _ () _ H).pickP (ts := [180, 2, 3, 9]) (is := [0, 1]) Y Y (by decide) Y)
 obtain ⟨a_12_, hc34, hd34, H⟩ := H
 obtain ⟨v_15, hc35, H⟩ := H
 obtain ⟨a_13_, hc36, hd36, H⟩ := H
 obtain ⟨v_16, hc37, H⟩ := H
 apply AtC.stages [26] [[], [], [], [], [], [], [], [], [], [], [], [], [], [], [], [], [], [], [], [], [], [], [], [], [], [], [], [26], [26]] [[], [0], [], [0, 1, 2], [0, 1, 2, 3], [0, 1, 2, 3, 4], [], [6], [], [6, 7, 8], [6, 7, 8, 9], [6, 7, 8, 9, 10], [0, 1, 2, 3, 4, 5, 6, 7, 8, 9, 10, 11], [0, 1, 2, 3, 4, 5, 6, 7, 8, 9, 10, 11, 12], [0, 1, 2, 3, 4, 5, 6, 7, 8, 9, 10, 11, 12, 13], [0, 1, 2, 3, 4, 5, 6, 7, 8, 9, 10, 11, 12, 13, 14], [0, 1, 2, 3, 4, 5, 6, 7, 8, 9, 10, 11, 12, 13], [0, 1, 2, 3, 4, 5, 6, 7, 8, 9, 10, 11, 12, 13, 14, 15, 16], [0, 1, 2, 3, 4, 5, 6, 7, 8, 9, 10, 11, 12, 13, 14, 15, 16, 17], [0, 1, 2, 3, 4, 5, 6, 7, 8, 9, 10, 11, 12, 13, 14, 15, 16, 17, 18], [0, 1, 2, 3, 4, 5, 6, 7, 8, 9, 10, 11, 12, 13], [0, 1, 2, 3, 4, 5, 6, 7, 8, 9, 10, 11, 12, 13, 20], [0, 1, 2, 3, 4, 5, 6, 7, 8, 9, 10, 11, 12, 13], [0, 1, 2, 3, 4, 5, 6, 7, 8, 9, 10, 11, 12, 13, 20, 21, 22], [0, 1, 2, 3, 4, 5, 6, 7, 8, 9, 10, 11, 12, 13, 20, 21, 22, 23], [0, 1, 2, 3, 4, 5, 6, 7, 8, 9, 10, 11, 12, 13, 20, 21, 22, 23, 24], [0, 1, 2, 3, 4, 5, 6, 7, 8, 9, 10, 11, 12, 13, 14, 15, 16, 17, 18, 19, 20, 21, 22, 23, 24, 25], [0, 1, 2, 3, 4, 5, 6, 7, 8, 9, 10, 11, 12, 13, 14, 15, 16, 17, 18, 19, 20, 21, 22, 23, 24, 25, 26], [0, 1, 2, 3, 4, 5, 6, 7, 8, 9, 10, 11, 12, 13, 14, 15, 16, 17, 18, 19, 20, 21, 22, 23, 24, 25, 26, 27]] hmix (by kernel_rfl) [(152, _), (153, _), (154, _), (155, _), (156, _), (157, _), (158, _), (159, _), (160, _), (161, _), (162, _), (163, _), (164, _), (165, _), (166, _), (167, _), (168, _), (169, _), (170, _), (171, _), (172, _), (173, _), (174, _), (175, _), (176, _), (177, _)] Y 1 Y
 refine Stg.known (t := 165) Y hb33 (Stg.go [0, 1, 2, 3, 4, 5, 6, 7, 8, 9, 10, 11, 12, 13, 14, 15, 16, 17, 18, 19, 20, 21, 22, 23, 24, 25] [26] Y Y (qp hT Y (qq Y (lP hT 1 Y) Y (qp hT Y (qq Y (Quiet1.idxS hT Y Y Y Y Y hc29 hd29) Y (qp hT Y (qq Y (Quiet1.load hT Y Y Y hc30) Y (qp hT Y (qq Y (lP hT 0 Y) Y (qp hT Y (qq Y (Quiet1.idxS hT Y Y Y Y Y hc31 hd31) Y (qp hT Y (qq Y (Quiet1.load hT Y Y Y hc32) Y (qp hT Y (QAll.cons (QOp.pk hT Y Y Y Y hb33 Y) (QAll.cons (QOp.yp hT Y Y Y Y Y Y Y) (QAll.cons (QOp.y Y Y Y Y (lP hT 1 Y) Y Y) (QAll.cons (QOp.yp hT Y Y Y Y Y Y Y) (QAll.cons (QOp.y Y Y Y Y (Quiet1.idxS hT Y Y Y Y Y hc34 hd34) Y Y) (QAll.cons (QOp.yp hT Y Y Y Y Y Y Y) (QAll.cons (QOp.y Y Y Y Y (Quiet1.loadS hT Y Y Y Y hc35) Y Y) (QAll.cons (QOp.yp hT Y Y Y Y Y Y Y) (QAll.cons (QOp.y Y Y Y Y (lP hT 0 Y) Y Y) (QAll.cons (QOp.yp hT Y Y Y Y Y Y Y) (QAll.cons (QOp.y Y Y Y Y (Quiet1.idxS hT Y Y Y Y Y hc36 hd36) Y Y) (QAll.cons (QOp.yp hT Y Y Y Y Y Y Y) (QAll.cons (QOp.y Y Y Y Y (Quiet1.loadS hT Y Y Y Y hc37) Y Y) QAll.nil)))))))))))))))))))))))))) ?_)
 refine EAll.cons ?_ EAll.nil
 refine EOp.y Y Y Y Y Y (cl (fun h => ref03uSame _ _ h _) H Y Tryz.call68 Y (fun w m hr hw => lift_ref03uSame _ _ w m hr _ hw)) ?_
 rintro _ _ ⟨v_17, h0u12, rfl, rfl, H⟩
 apply Stg.next [(178, _), (179, _), (180, _)] Y Y
 refine Stg.fin [27, 28] Y Y (QAll.cons (QOp.yp hT Y Y Y Y Y Y Y) (qp hT Y QAll.nil)) ?_
 exact AtE.then_n ((HK29 _ () _ H).pickP (ts := [180, 2, 3, 9]) (is := [0, 1]) Y Y (by decide) Y)
 refine AtC.exit (AtE.then_x (AtE.then_x (AtE.blk_hit (tg (sR ?_)))))
 refine pu hT 1 Y (ng (AtC.ret ?_))
 exact r1 4 Y Y Y H
 refine AtC.region (pu hT 1 Y (AtL.q Y (lP hT 1 Y) (pu hT 2 Y (AtL.q Y (lP hT 0 Y) (pu hT 3 Y ?_)))))
 refine AtL.splitB (t := 17) H Y (fun H => ?_) (fun H => ?_)
 refine nf Y (nf Y (nf Y (nf Y (nf Y (nf Y ?_)))))
 refine nf Y (pu hT 2 Y (nf Y (nf Y (nf Y (nf Y ?_)))))
 refine nf Y (nf Y (nf Y (pu hT 2 Y (nf Y (nf Y ?_)))))
 refine nf Y (nf Y (nf Y (nf Y (nf Y (pu hT 2 Y ?_)))))
 refine nf Y (nf Y (nf Y (nf Y (nf Y (nf Y ?_)))))
 refine nf Y (pu hT 1 Y (AtL.nil ?_))
 exact AtE.then_n ((HK1 _ () _ H).pickP (ts := [52, 2, 3]) (is := [0, 1]) Y Y (by decide) Y)
 refine ys Y (pu hT 1 Y (ys Y (AtL.q Y (lP hT 1 Y) (ys Y (pu hT 1 Y ?_)))))
 refine ys Y (pu hT 1 Y (ys Y (AtL.q Y (lP hT 0 Y) (ys Y (pu hT 1 Y ?_)))))
 refine ys Y (pu hT 1 Y (pu hT 2 Y ?_))
 refine AtL.splitB (t := 26) H Y (fun H => ?_) (fun H => ?_)
 refine nf Y (nf Y (nf Y (nf Y (nf Y (nf Y ?_)))))
 refine nf Y (pu hT 2 Y (nf Y (nf Y (nf Y (nf Y ?_)))))
 refine nf Y (nf Y (nf Y (pu hT 2 Y (nf Y (nf Y ?_)))))
 refine nf Y (nf Y (nf Y (nf Y (nf Y (pu hT 1 Y ?_)))))
 refine AtL.nil ?_
 exact AtE.then_n ((HK1 _ () _ H).pickP (ts := [52, 2, 3]) (is := [0, 1]) Y Y (by decide) Y)
 refine ys Y (pu hT 1 Y (ys Y (AtL.q Y (lP hT 1 Y) (ys Y (pu hT 1 Y ?_)))))
 refine ys Y (pu hT 1 Y (ys Y (AtL.q Y (lP hT 0 Y) (ys Y (pu hT 1 Y ?_)))))
 refine ys Y (pu hT 1 Y (pu hT 2 Y ?_))
 refine AtL.splitB (t := 35) H Y (fun H => ?_) (fun H => ?_)
 refine nf Y (nf Y (nf Y (nf Y (nf Y (nf Y ?_)))))
 refine nf Y (pu hT 2 Y (nf Y (nf Y (nf Y (nf Y ?_)))))
 refine nf Y (nf Y (nf Y (pu hT 1 Y (AtL.nil ?_))))
 exact AtE.then_n ((HK1 _ () _ H).pickP (ts := [52, 2, 3]) (is := [0, 1]) Y Y (by decide) Y)
 refine ys Y (pu hT 1 Y (ys Y (AtL.q Y (lP hT 1 Y) (ys Y (pu hT 1 Y ?_)))))
 refine ys Y (pu hT 1 Y (ys Y (AtL.q Y (lP hT 0 Y) (ys Y (pu hT 1 Y ?_)))))
 refine ys Y (pu hT 1 Y (pu hT 2 Y ?_))
 refine AtL.splitB (t := 44) H Y (fun H => ?_) (fun H => ?_)
 refine nf Y (nf Y (nf Y (nf Y (nf Y (nf Y ?_)))))
 refine nf Y (pu hT 1 Y (AtL.nil ?_))
 exact AtE.then_n ((HK1 _ () _ H).pickP (ts := [52, 2, 3]) (is := [0, 1]) Y Y (by decide) Y)
 refine ys Y (pu hT 1 Y (ys Y (AtL.q Y (lP hT 1 Y) (ys Y (pu hT 1 Y ?_)))))
 refine ys Y (pu hT 1 Y (ys Y (AtL.q Y (lP hT 0 Y) (ys Y (pu hT 1 Y ?_)))))
 refine ys Y (pu hT 1 Y (pu hT 1 Y (AtL.nil ?_)))
 exact AtE.then_n ((HK1 _ () _ H).pickP (ts := [52, 2, 3]) (is := [0, 1]) Y Y (by decide) Y)
theorem lift_law14uTableauRight (s0 : Sl × Sl × Sl × Sl × Sl) (t0 : Sl × Sl × Sl × Sl × Sl) (w : World) (m : Heap) (hr : Rel ⟨m, []⟩ w.heap) (S : Bool → Heap → Prop) (H : law14uTableauRight s0 t0 m S) :
 Calls Tryz.prog 4 #[Value.agg (C_sl_sl_sl_sl_sl s0).toArray, Value.agg (C_sl_sl_sl_sl_sl t0).toArray] w (Post ⟨w, m⟩ Value.bool S) := by
 refine Calls.lift (args := [Value.agg (C_sl_sl_sl_sl_sl s0).toArray, Value.agg (C_sl_sl_sl_sl_sl t0).toArray]) Tryz.func4 Y Tryz.ntmps4 (Nat.le_of_ble_eq_true Y) hr (law14uTableauRight s0 t0 m S) H (fun H => ?_)
 refine AtC.pick (ts := [0, 1]) Y ?_
 unfold law14uTableauRight at H
 refine sR (AtL.e Y (EffX.boxP (cs := [_, _, _, _, _]) Y Y Y H) ?_)
 rintro _ _ ⟨b, _, rfl, rfl, _, H⟩
 refine AtL.e Y (EffX.boxP (cs := [_, _, _, _, _]) Y Y Y H) ?_
 rintro _ _ ⟨b_1, _, rfl, rfl, _, H⟩
 replace H := H.self
 refine pu hT 1 Y (ng (AtC.seq (sR (AtL.e Y (cl (fun h => law14uspeaks h _) H Y Tryz.call17 Y (fun w m hr hw => lift_law14uspeaks  w m hr _ hw)) ?_))))
 rintro _ _ ⟨v, h0u1, rfl, rfl, H⟩
 refine pu hT 1 Y (ng ?_)
 refine AtC.condB H Y (fun H => ?_) (fun H => ?_)
 refine sR (pu hT 1 Y (ng (AtC.ret (AtE.then_r ?_))))
 exact r1 4 Y Y Y H
 refine AtC.skip (tg (AtC.seq (sR (AtL.q Y (lS hT 1 [_, _, _, _, _] Y Y Y Y Y Y Y Y) (AtL.q Y (lS hT 0 [_, _, _, _, _] Y Y Y Y Y Y Y Y) ?_)))))
 refine AtLX.bs (hT := hT) (cs := [Sl.toV s0.1, Sl.toV s0.2.1, Sl.toV s0.2.2.1, Sl.toV s0.2.2.2.1, Sl.toV s0.2.2.2.2, Sl.toV t0.1, Sl.toV t0.2.1, Sl.toV t0.2.2.1, Sl.toV t0.2.2.2.1, Sl.toV t0.2.2.2.2]) H Y Y Y Y Y Y Y (by kernel_rfl) Y (fun a h0u2 H => ?_)
 refine pu hT 2 Y (ng (AtC.block ?_))
 refine AtC.loopM (fun (s0u1 : Int) => [(19, Value.int .i64 s0u1)]) (fun (s0u1 : Int) => []) [2, 3, 17, 18] [19, 2, 3, 17, 18] [0, 1] [0, 1] H Y Y Y (by decide) Y (fun Kp1 s0u1 h0u3 H Q1 HK1 => ?_)
 refine sR (pu hT 1 Y (ng (AtC.seq ?_)))
 refine AtC.condB H Y (fun H => ?_) (fun H => ?_)
 refine AtC.skip (tg (AtC.seq (AtC.block (sR ?_))))
 obtain ⟨a_1_, hc1, hd1, H⟩ := H
 refine AtL.q Y (Quiet1.idxS hT Y Y Y Y Y hc1 hd1) ?_
 obtain ⟨v_2, hc2, H⟩ := H
 refine AtL.q Y (Quiet1.loadS hT Y Y Y Y hc2) (AtL.e Y (EffX.allocP (cs := [_, _, _, _, _]) hT Y Y H) ?_)
 rintro _ _ ⟨b_2, _, rfl, rfl, _, H⟩
 replace H := H.self
 refine AtL.e Y (EffX.storeSP (i := 0) (qv := [(_, [_, _, _, _, _]), (_, [_, _, _, _, _]), (_, [_, _, _, _, _])]) hT Y Y Y Y Y Y Y Y Y Y) ?_
 rintro _ _ rfl
 refine ng (AtC.seq ?_)
 refine AtC.joinSeq (β := Unit) (fun (t0u1 : Bool) (bb : Unit) => [(50, Value.bool t0u1)]) (fun (t0u1 : Bool) (bb : Unit) => []) [2, 3, 6, 17, 18, 19] [0, 1, 2] H Y Y (fun t0u1 bb h0u5 H => ?_) (fun J4 H HK4 => ?_)
 refine AtC.condB H Y (fun H => ?_) (fun H => ?_)
 refine sR (pu hT 1 Y (ng (AtC.ret (AtE.then_r (AtE.blk_r ?_)))))
 refine AtE.then_r (AtE.then_r (AtE.blk_r (AtE.then_r ?_)))
 exact r1 4 Y Y Y H
 refine AtC.skip (tg (AtC.seq (sR (pu hT 1 Y (AtL.q Y (lP hT 0 Y) ?_)))))
 refine pu hT 2 Y (ng (AtC.block ?_))
 refine AtC.loopM (fun (s0u2 : Int) => [(54, Value.int .i64 s0u2)]) (fun (s0u2 : Int) => []) [2, 3, 6, 17, 18, 19, 52, 53] [54, 2, 3, 6, 17, 18, 19, 52, 53] [0, 1, 2] [0, 1, 2] H Y Y Y (by decide) Y (fun Kp5 s0u2 h0u6 H Q5 HK5 => ?_)
 refine sR (pu hT 1 Y (ng (AtC.seq ?_)))
 refine AtC.condB H Y (fun H => ?_) (fun H => ?_)
 refine AtC.skip (tg (AtC.seq (AtC.block (sR ?_))))
 obtain ⟨a_2_, hc5, hd5, H⟩ := H
 refine AtL.q Y (Quiet1.idxS hT Y Y Y Y Y hc5 hd5) ?_
 obtain ⟨v_3, hc6, H⟩ := H
 refine AtL.q Y (Quiet1.loadS hT Y Y Y Y hc6) (AtL.e Y (EffX.allocP (cs := [_, _, _, _]) hT Y Y H) ?_)
 rintro _ _ ⟨b_3, _, rfl, rfl, _, H⟩
 replace H := H.self
 refine AtL.e Y (EffX.storeSP (i := 0) (qv := [(_, [_, _, _, _]), (_, [_, _, _, _, _]), (_, [_, _, _, _, _]), (_, [_, _, _, _, _])]) hT Y Y Y Y Y Y Y Y Y Y) ?_
 rintro _ _ rfl
 refine ng ?_
 refine AtC.joinSeq (β := Unit) (fun (t0u2 : Bool) (bb_1 : Unit) => [(66, Value.bool t0u2)]) (fun (t0u2 : Bool) (bb_1 : Unit) => []) [2, 3, 6, 17, 18, 19, 52, 53, 54] [1, 2, 3] H Y Y (fun t0u2 bb_1 h0u8 H => ?_) (fun J8 H HK8 => ?_)
 refine AtC.condB H Y (fun H => ?_) (fun H => ?_)
 refine sR (pu hT 1 Y (ng (AtC.ret (AtE.blk_r (AtE.then_r ?_)))))
 refine AtE.then_r (AtE.blk_r (AtE.then_r (AtE.blk_r (AtE.then_r (AtE.then_r ?_)))))
 refine AtE.blk_r (AtE.then_r ?_)
 exact r1 4 Y Y Y H
 refine AtC.skip (AtE.blk_n (tg (AtC.region (pu hT 2 Y (AtL.nil ?_)))))
 exact AtE.then_n ((HK5 _ _ H).pickP (ts := [54, 2, 3, 6, 17, 18, 19, 52, 53]) (is := [0, 1, 2]) Y Y (by decide) Y)
 refine AtC.region (pu hT 1 Y (AtL.q Y (lP hT 0 Y) (pu hT 3 Y ?_)))
 refine AtL.splitB (t := 62) H Y (fun H => ?_) (fun H => ?_)
 refine nf Y (nf Y (nf Y (pu hT 1 Y (AtL.nil ?_))))
 exact AtE.then_n ((HK8 _ () _ H).pickP (ts := [66, 2, 3, 6, 17, 18, 19, 52, 53, 54]) (is := [1, 2, 3]) Y Y (by decide) Y)
 refine ys Y (AtL.q Y (lS hT 0 [_, _, _, _] Y Y Y Y Y Y Y Y) (ys Y ?_))
 refine AtLX.bs (hT := hT) (cs := [_, _, _, _]) H Y Y Y Y Y Y Y Y Y (fun a_3 h0u9 H => ?_)
 refine ys Y (AtL.e Y (cl (fun h => law12uOdd _ h _) H Y Tryz.call18 Y (fun w m hr hw => lift_law12uOdd _ w m hr _ hw)) ?_)
 rintro _ _ ⟨v_5, h0u10, rfl, rfl, H⟩
 refine pu hT 1 Y (AtL.nil ?_)
 exact AtE.then_n ((HK8 _ () _ H).pickP (ts := [66, 2, 3, 6, 17, 18, 19, 52, 53, 54]) (is := [1, 2, 3]) Y Y (by decide) Y)
 refine AtC.exit (AtE.then_x (AtE.then_x (AtE.blk_hit (tg (AtC.seq ?_)))))
 refine sR (pu hT 1 Y (AtL.q Y (lP hT 0 Y) (pu hT 2 Y (ng (AtC.block ?_)))))
 refine AtC.loopM (fun (s0u3 : Int) => [(71, Value.int .i64 s0u3)]) (fun (s0u3 : Int) => []) [2, 3, 6, 17, 18, 19, 69, 70] [71, 2, 3, 6, 17, 18, 19, 69, 70] [0, 1, 2] [0, 1, 2] H Y Y Y (by decide) Y (fun Kp9 s0u3 h0u11 H Q9 HK9 => ?_)
 refine sR (pu hT 1 Y (ng (AtC.seq ?_)))
 refine AtC.condB H Y (fun H => ?_) (fun H => ?_)
 refine AtC.skip (tg (AtC.seq (AtC.block (sR ?_))))
 obtain ⟨a_4_, hc9, hd9, H⟩ := H
 refine AtL.q Y (Quiet1.idxS hT Y Y Y Y Y hc9 hd9) ?_
 obtain ⟨v_6, hc10, H⟩ := H
 refine AtL.q Y (Quiet1.loadS hT Y Y Y Y hc10) (AtL.e Y (EffX.allocP (cs := [_, _, _, _, _, _]) hT Y Y H) ?_)
 rintro _ _ ⟨b_4, _, rfl, rfl, _, H⟩
 replace H := H.self
 refine AtL.e Y (EffX.storeSP (i := 0) (qv := [(_, [_, _, _, _, _, _]), (_, [_, _, _, _, _]), (_, [_, _, _, _, _]), (_, [_, _, _, _, _])]) hT Y Y Y Y Y Y Y Y Y Y) ?_
 rintro _ _ rfl
 refine ng (sR (AtL.q Y (lS hT 0 [_, _, _, _, _, _] Y Y Y Y Y Y Y Y) ?_))
 refine AtLX.bs (hT := hT) (cs := [_, _, _, _, _, _]) H Y Y Y Y Y Y Y Y Y (fun a_5 h0u13 H => ?_)
 refine AtL.e Y (cl (fun h => law03uOdd _ h _) H Y Tryz.call19 Y (fun w m hr hw => lift_law03uOdd _ w m hr _ hw)) ?_
 rintro _ _ ⟨v_8, h0u14, rfl, rfl, H⟩
 refine ng ?_
 refine AtC.condB H Y (fun H => ?_) (fun H => ?_)
 refine sR (pu hT 1 Y (ng (AtC.ret (AtE.blk_r (AtE.then_r ?_)))))
 refine AtE.then_r (AtE.blk_r (AtE.then_r (AtE.blk_r (AtE.then_r (AtE.then_r ?_)))))
 refine AtE.blk_r (AtE.then_r ?_)
 exact r1 4 Y Y Y H
 refine AtC.skip (AtE.blk_n (tg (AtC.region (pu hT 2 Y (AtL.nil ?_)))))
 exact AtE.then_n ((HK9 _ _ H).pickP (ts := [71, 2, 3, 6, 17, 18, 19, 69, 70]) (is := [1, 2, 3]) Y Y (by decide) Y)
 refine AtC.exit (AtE.then_x (AtE.then_x (AtE.blk_hit (tg ?_))))
 apply AtC.seqS [0, 3, 6] [[], [], [], [0], [], [], [0, 3], [0, 3, 6], []] [[], [], [1], [0, 1, 2], [], [4], [0, 1, 2, 3, 4, 5], [0, 1, 2, 3, 4, 5, 6], []] hmix (by kernel_rfl) [(80, _), (81, _), (83, _), (84, _), (87, _)] Y 3 Y
 refine Stg.go [1, 2, 4, 5, 8] [0] Y Y (qp hT Y (qq Y (lP hT 0 Y) Y (qp hT Y (qq Y (lP hT 0 Y) Y (qp hT Y QAll.nil))))) ?_
 refine EAll.cons ?_ EAll.nil
 refine EOp.e Y Y Y (EffX.buildS2 (cs := []) hT Y Y Y Y Y Y Y Y H) ?_
 rintro _ _ ⟨a_6, h0u15, rfl, rfl, H⟩
 apply Stg.next [(79, _)] Y Y
 refine Stg.go [1, 2, 4, 5, 8] [3] Y Y (qp hT Y (qq Y (lP hT 0 Y) Y (qp hT Y (qq Y (lP hT 0 Y) Y (qp hT Y QAll.nil))))) ?_
 refine EAll.cons ?_ EAll.nil
 refine EOp.e Y Y Y (EffX.appendS (s := _) (u := _) hT Y Y Y Y Y Y Y Y Y Y (by decide) H) ?_
 rintro _ _ ⟨v_10, h0u16, rfl, rfl, H⟩
 apply Stg.next [(82, _)] Y Y
 refine Stg.go [4, 5, 8] [6] Y Y (qp hT Y (qq Y (lP hT 0 Y) Y (qp hT Y QAll.nil))) ?_
 refine EAll.cons ?_ EAll.nil
 refine EOp.e Y Y Y (EffX.appendS (s := _) (u := _) hT Y Y Y Y Y Y Y Y Y Y (by decide) H) ?_
 rintro _ _ ⟨v_11, h0u17, rfl, rfl, H⟩
 apply Stg.next [(85, _), (86, _)] Y Y
 refine Stg.fin [7, 8] Y Y (qp hT Y (qp hT Y QAll.nil)) (tg (AtC.block ?_))
 refine AtC.loopM (fun (s0u4 : Int) => [(87, Value.int .i64 s0u4)]) (fun (s0u4 : Int) => []) [2, 3, 17, 18, 19, 85, 86] [87, 2, 3, 17, 18, 19, 85, 86] [1, 2] [1, 2] H Y Y Y (by decide) Y (fun Kp12 s0u4 h0u18 H Q12 HK12 => ?_)
 refine sR (pu hT 1 Y (ng (AtC.seq ?_)))
 refine AtC.condB H Y (fun H => ?_) (fun H => ?_)
 refine AtC.skip (tg (AtC.seq (AtC.block (sR ?_))))
 obtain ⟨a_7_, hc12, hd12, H⟩ := H
 refine AtL.q Y (Quiet1.idxS hT Y Y Y Y Y hc12 hd12) ?_
 obtain ⟨v_12, hc13, H⟩ := H
 refine AtL.q Y (Quiet1.loadS hT Y Y Y Y hc13) (AtL.e Y (EffX.allocP (cs := [_, _, _, _, _, _, _]) hT Y Y H) ?_)
 rintro _ _ ⟨b_5, _, rfl, rfl, _, H⟩
 replace H := H.self
 refine AtL.e Y (EffX.storeSP (i := 0) (qv := [(_, [_, _, _, _, _, _, _]), (_, [_, _, _, _, _]), (_, [_, _, _, _, _])]) hT Y Y Y Y Y Y Y Y Y Y) ?_
 rintro _ _ rfl
 refine ng (sR (pu hT 1 Y (AtL.q Y (lS hT 0 [_, _, _, _, _, _] Y Y Y Y Y Y Y Y) ?_)))
 refine AtLX.bs (hT := hT) (cs := [_, _, _, _, _, _]) H Y Y Y Y Y Y Y Y Y (fun a_8 h0u20 H => ?_)
 refine AtL.e Y (cl (fun h => law03uOdd _ h _) H Y Tryz.call19 Y (fun w m hr hw => lift_law03uOdd _ w m hr _ hw)) ?_
 rintro _ _ ⟨v_14, h0u21, rfl, rfl, H⟩
 refine ng ?_
 refine AtC.condB H Y (fun H => ?_) (fun H => ?_)
 refine sR (pu hT 1 Y (ng (AtC.ret (AtE.blk_r (AtE.then_r ?_)))))
 refine AtE.then_r (AtE.blk_r (AtE.blk_r (AtE.then_r (AtE.then_r (AtE.blk_r ?_)))))
 refine AtE.then_r ?_
 exact r1 4 Y Y Y H
 refine AtC.skip (AtE.blk_n (tg (AtC.region (pu hT 2 Y (AtL.nil ?_)))))
 exact AtE.then_n ((HK12 _ _ H).pickP (ts := [87, 2, 3, 17, 18, 19, 85, 86]) (is := [1, 2]) Y Y (by decide) Y)
 refine AtC.exit (AtE.then_x (AtE.then_x (AtE.blk_hit (AtE.blk_n (tg ?_)))))
 refine AtC.region (pu hT 2 Y (AtL.nil ?_))
 exact AtE.then_n ((HK1 _ _ H).pickP (ts := [19, 2, 3, 17, 18]) (is := [0, 1]) Y Y (by decide) Y)
 refine AtC.region (pu hT 1 Y (AtL.q Y (lP hT 0 Y) (pu hT 3 Y ?_)))
 refine AtL.splitB (t := 27) H Y (fun H => ?_) (fun H => ?_)
 refine nf Y (nf Y (nf Y (nf Y (pu hT 2 Y (nf Y ?_)))))
 refine nf Y (nf Y (nf Y (pu hT 2 Y (nf Y (nf Y ?_)))))
 refine nf Y (nf Y (pu hT 2 Y (nf Y (nf Y (nf Y ?_)))))
 refine nf Y (pu hT 1 Y (AtL.nil ?_))
 exact AtE.then_n ((HK4 _ () _ H).pickP (ts := [50, 2, 3, 6, 17, 18, 19]) (is := [0, 1, 2]) Y Y (by decide) Y)
 refine ys Y (pu hT 1 Y (ys Y (AtL.q Y (lP hT 0 Y) (ys Y (pu hT 1 Y ?_)))))
 refine ys Y (pu hT 1 Y (pu hT 2 Y ?_))
 refine AtL.splitB (t := 33) H Y (fun H => ?_) (fun H => ?_)
 refine nf Y (nf Y (nf Y (nf Y (pu hT 2 Y (nf Y ?_)))))
 refine nf Y (nf Y (nf Y (pu hT 2 Y (nf Y (nf Y ?_)))))
 refine nf Y (nf Y (pu hT 1 Y (AtL.nil ?_)))
 exact AtE.then_n ((HK4 _ () _ H).pickP (ts := [50, 2, 3, 6, 17, 18, 19]) (is := [0, 1, 2]) Y Y (by decide) Y)
 refine ys Y (pu hT 1 Y (ys Y (AtL.q Y (lP hT 0 Y) (ys Y (pu hT 1 Y ?_)))))
 refine ys Y (pu hT 1 Y (pu hT 2 Y ?_))
 refine AtL.splitB (t := 39) H Y (fun H => ?_) (fun H => ?_)
 refine nf Y (nf Y (nf Y (nf Y (pu hT 2 Y (nf Y ?_)))))
 refine nf Y (nf Y (nf Y (pu hT 1 Y (AtL.nil ?_))))
 exact AtE.then_n ((HK4 _ () _ H).pickP (ts := [50, 2, 3, 6, 17, 18, 19]) (is := [0, 1, 2]) Y Y (by decide) Y)
 refine ys Y (pu hT 1 Y (ys Y (AtL.q Y (lP hT 0 Y) (ys Y (pu hT 1 Y ?_)))))
 refine ys Y (pu hT 1 Y (pu hT 2 Y ?_))
 refine AtL.splitB (t := 45) H Y (fun H => ?_) (fun H => ?_)
 refine nf Y (nf Y (nf Y (nf Y (pu hT 1 Y (AtL.nil ?_)))))
 exact AtE.then_n ((HK4 _ () _ H).pickP (ts := [50, 2, 3, 6, 17, 18, 19]) (is := [0, 1, 2]) Y Y (by decide) Y)
 refine ys Y (pu hT 1 Y (ys Y (AtL.q Y (lP hT 0 Y) (ys Y (pu hT 1 Y ?_)))))
 refine ys Y (pu hT 1 Y (pu hT 1 Y (AtL.nil ?_)))
 exact AtE.then_n ((HK4 _ () _ H).pickP (ts := [50, 2, 3, 6, 17, 18, 19]) (is := [0, 1, 2]) Y Y (by decide) Y)
 refine AtC.exit (AtE.then_x (AtE.then_x (AtE.blk_hit (tg ?_))))
 refine AtC.joinSeq (β := Unit) (fun (t0u3 : Bool) (bb_2 : Unit) => [(4, Value.bool t0u3)]) (fun (t0u3 : Bool) (bb_2 : Unit) => []) [] [] H Y Y (fun t0u3 bb_2 h0u22 H => ?_) (fun J15 H HK15 => ?_)
 refine AtC.ret ?_
 exact r1 4 Y Y Y H
 apply AtC.stages [1, 3, 7, 9, 15, 18, 24] [[], [], [], [1], [1, 3], [1, 3], [1, 3], [1, 3], [1, 3], [1, 3, 7], [1, 3, 7, 9], [1, 3, 7, 9], [1, 3, 7, 9], [1, 3, 7, 9], [1, 3, 7, 9], [1, 3, 7, 9], [1, 3, 7, 9], [1, 3, 7, 9], [1, 3, 7, 9, 15], [1, 3, 7, 9, 15, 18], [1, 3, 7, 9, 15, 18], [1, 3, 7, 9, 15, 18], [1, 3, 7, 9, 15, 18], [1, 3, 7, 9, 15, 18], [1, 3, 7, 9, 15, 18], [1, 3, 7, 9, 15, 18, 24], [1, 3, 7, 9, 15, 18, 24]] [[], [0], [], [0, 1, 2], [0, 1, 2, 3], [0, 1, 2, 3, 4], [0, 1, 2, 3, 4, 5], [0, 1, 2, 3, 4, 5, 6], [0, 1, 2, 3, 4, 5], [0, 1, 2, 3, 4, 5, 6, 7, 8], [0, 1, 2, 3, 4, 5, 6, 7, 8, 9], [0, 1, 2, 3, 4, 5, 6, 7, 8, 9, 10], [0, 1, 2, 3, 4, 5, 6, 7, 8, 9, 10, 11], [0, 1, 2, 3, 4, 5, 6, 7, 8, 9, 10, 11, 12], [0, 1, 2, 3, 4, 5, 6, 7, 8, 9, 10, 11, 12], [0, 1, 2, 3, 4, 5, 6, 7, 8, 9, 10, 11, 12, 13, 14], [0, 1, 2, 3, 4, 5, 6, 7, 8, 9, 10, 11, 12], [0, 1, 2, 3, 4, 5, 6, 7, 8, 9, 10, 11, 12], [0, 1, 2, 3, 4, 5, 6, 7, 8, 9, 10, 11, 12, 13, 14, 15, 16, 17], [0, 1, 2, 3, 4, 5, 6, 7, 8, 9, 10, 11, 12, 13, 14, 15, 16, 17, 18], [0, 1, 2, 3, 4, 5, 6, 7, 8, 9, 10, 11, 12, 13, 14, 15, 16, 17, 18, 19], [0, 1, 2, 3, 4, 5, 6, 7, 8, 9, 10, 11, 12, 13, 14, 15, 16, 17, 18, 19, 20], [0, 1, 2, 3, 4, 5, 6, 7, 8, 9, 10, 11, 12, 13, 14, 15, 16, 17, 18, 19, 20, 21], [0, 1, 2, 3, 4, 5, 6, 7, 8, 9, 10, 11, 12, 13, 14, 15, 16, 17, 18, 19, 20, 21], [0, 1, 2, 3, 4, 5, 6, 7, 8, 9, 10, 11, 12, 13, 14, 15, 16, 17, 18, 19, 20, 21, 22, 23], [0, 1, 2, 3, 4, 5, 6, 7, 8, 9, 10, 11, 12, 13, 14, 15, 16, 17, 18, 19, 20, 21, 22, 23, 24], [0, 1, 2, 3, 4, 5, 6, 7, 8, 9, 10, 11, 12, 13, 14, 15, 16, 17, 18, 19, 20, 21, 22, 23, 24, 25]] hmix (by kernel_rfl) [(97, _), (99, _)] Y 7 Y
 refine Stg.go [0, 2] [1] Y Y (qq Y (lS hT 1 [_, _, _, _, _] Y Y Y Y Y Y Y Y) Y (qq Y (lS hT 1 [_, _, _, _, _] Y Y Y Y Y Y Y Y) Y QAll.nil)) ?_
 refine EAll.cons ?_ EAll.nil
 refine EOp.e Y Y Y (cl (fun h => tableau_Right _ h _) H Y Tryz.call20 Y (fun w m hr hw => lift_tableau_Right _ w m hr _ hw)) ?_
 rintro _ _ ⟨v_15, h0u23, rfl, rfl, H⟩
 apply Stg.next [(98, _)] Y Y
 refine Stg.go [2] [3] Y Y (qq Y (lS hT 1 [_, _, _, _, _] Y Y Y Y Y Y Y Y) Y QAll.nil) ?_
 refine EAll.cons ?_ EAll.nil
 refine EOp.e Y Y Y (cl (fun h => ref14uRight _ h _) H Y Tryz.call21 Y (fun w m hr hw => lift_ref14uRight _ w m hr _ hw)) ?_
 rintro _ _ ⟨v_16, h0u24, rfl, rfl, H⟩
 rcases iteB.cases H with ⟨hb15, H⟩ | ⟨hb15, H⟩
 apply Stg.next [(100, _), (101, _), (102, _), (103, _), (105, _)] Y Y
 refine Stg.known (t := 102) Y hb15 (Stg.go [4, 5, 6, 8] [7] Y Y (qp hT Y (QAll.cons (QOp.pk hT Y Y Y Y hb15 Y) (QAll.cons (QOp.y Y Y Y Y (lS hT 0 [_, _, _, _, _] Y Y Y Y Y Y Y Y) Y Y) (QAll.cons (QOp.y Y Y Y Y (lS hT 0 [_, _, _, _, _] Y Y Y Y Y Y Y Y) Y Y) QAll.nil)))) ?_)
 refine EAll.cons ?_ EAll.nil
 refine EOp.y Y Y Y Y Y (cl (fun h => tableau_Right _ h _) H Y Tryz.call20 Y (fun w m hr hw => lift_tableau_Right _ w m hr _ hw)) ?_
 rintro _ _ ⟨v_17, h0u25, rfl, rfl, H⟩
 apply Stg.next [(104, _)] Y Y
 refine Stg.go [8] [9] Y Y (QAll.cons (QOp.y Y Y Y Y (lS hT 0 [_, _, _, _, _] Y Y Y Y Y Y Y Y) Y Y) QAll.nil) ?_
 refine EAll.cons ?_ EAll.nil
 refine EOp.y Y Y Y Y Y (cl (fun h => ref14uRight _ h _) H Y Tryz.call21 Y (fun w m hr hw => lift_ref14uRight _ w m hr _ hw)) ?_
 rintro _ _ ⟨v_18, h0u26, rfl, rfl, H⟩
 rcases iteB.cases H with ⟨hb16, H⟩ | ⟨hb16, H⟩
 apply Stg.next [(106, _), (107, _), (108, _), (109, _), (110, _), (111, _), (113, _), (114, _)] Y Y
 refine Stg.known (t := 109) Y hb16 (Stg.go [10, 11, 12, 13, 14, 16, 17] [15] Y Y (QAll.cons (QOp.yp hT Y Y Y Y Y Y Y) (qp hT Y (QAll.cons (QOp.pk hT Y Y Y Y hb16 Y) (QAll.cons (QOp.y Y Y Y Y (lS hT 1 [_, _, _, _, _] Y Y Y Y Y Y Y Y) Y Y) (QAll.cons (QOp.y Y Y Y Y (lS hT 0 [_, _, _, _, _] Y Y Y Y Y Y Y Y) Y Y) (QAll.cons (QOp.y Y Y Y Y (lS hT 1 [_, _, _, _, _] Y Y Y Y Y Y Y Y) Y Y) (QAll.cons (QOp.y Y Y Y Y (lS hT 0 [_, _, _, _, _] Y Y Y Y Y Y Y Y) Y Y) QAll.nil))))))) ?_)
 refine EAll.cons ?_ EAll.nil
 refine EOp.y Y Y Y Y Y (cl (fun h => tableau_Same _ _ h _) H Y Tryz.call22 Y (fun w m hr hw => lift_tableau_Same _ _ w m hr _ hw)) ?_
 rintro _ _ ⟨v_19, h0u27, rfl, rfl, H⟩
 apply Stg.next [(112, _)] Y Y
 refine Stg.go [16, 17] [18] Y Y (QAll.cons (QOp.y Y Y Y Y (lS hT 1 [_, _, _, _, _] Y Y Y Y Y Y Y Y) Y Y) (QAll.cons (QOp.y Y Y Y Y (lS hT 0 [_, _, _, _, _] Y Y Y Y Y Y Y Y) Y Y) QAll.nil)) ?_
 refine EAll.cons ?_ EAll.nil
 refine EOp.y Y Y Y Y Y (cl (fun h => ref14uSame _ _ h _) H Y Tryz.call23 Y (fun w m hr hw => lift_ref14uSame _ _ w m hr _ hw)) ?_
 rintro _ _ ⟨v_20, h0u28, rfl, rfl, H⟩
 rcases iteB.cases H with ⟨hb17, H⟩ | ⟨hb17, H⟩
 apply Stg.next [(115, _), (116, _), (117, _), (118, _), (119, _), (120, _)] Y Y
 refine Stg.known (t := 118) Y hb17 (Stg.go [19, 20, 21, 22, 23] [24] Y Y (QAll.cons (QOp.yp hT Y Y Y Y Y Y Y) (qp hT Y (QAll.cons (QOp.pk hT Y Y Y Y hb17 Y) (QAll.cons (QOp.y Y Y Y Y (lS hT 1 [_, _, _, _, _] Y Y Y Y Y Y Y Y) Y Y) (QAll.cons (QOp.y Y Y Y Y (lS hT 1 [_, _, _, _, _] Y Y Y Y Y Y Y Y) Y Y) QAll.nil))))) ?_)
 refine EAll.cons ?_ EAll.nil
 refine EOp.y Y Y Y Y Y (cl (fun h => tableau_Same _ _ h _) H Y Tryz.call22 Y (fun w m hr hw => lift_tableau_Same _ _ w m hr _ hw)) ?_
 rintro _ _ ⟨v_21, h0u29, rfl, rfl, H⟩
 apply Stg.next [(121, _), (122, _), (4, _)] Y Y
 refine Stg.fin [25, 26] Y Y (qp hT Y (qp hT Y QAll.nil)) ?_
 exact AtE.then_n ((HK15 _ () _ H).pickP (ts := [4]) (is := []) Y Y (by decide) Y)
 apply Stg.next [(115, _), (116, _), (117, _), (118, _), (119, _), (120, _)] Y Y
 refine Stg.known (t := 118) Y hb17 (Stg.go [19, 20, 21, 22, 23] [24] Y Y (QAll.cons (QOp.yp hT Y Y Y Y Y Y Y) (qp hT Y (QAll.cons (QOp.pk hT Y Y Y Y hb17 Y) (qn Y Y Y Y (by decide) Y Y (qn Y Y Y Y (by decide) Y Y QAll.nil))))) ?_)
 refine EAll.cons ?_ EAll.nil
 refine EOp.no Y Y Y Y (by decide) Y ?_
 apply Stg.next [(121, _), (122, _), (4, _)] Y Y
 refine Stg.fin [25, 26] Y Y (qp hT Y (qp hT Y QAll.nil)) ?_
 exact AtE.then_n ((HK15 _ () _ H).pickP (ts := [4]) (is := []) Y Y (by decide) Y)
 apply Stg.next [(106, _), (107, _), (108, _), (109, _), (110, _), (111, _), (113, _), (114, _)] Y Y
 refine Stg.known (t := 109) Y hb16 (Stg.go [10, 11, 12, 13, 14, 16, 17] [15] Y Y (QAll.cons (QOp.yp hT Y Y Y Y Y Y Y) (qp hT Y (QAll.cons (QOp.pk hT Y Y Y Y hb16 Y) (qn Y Y Y Y (by decide) Y Y (qn Y Y Y Y (by decide) Y Y (qn Y Y Y Y (by decide) Y Y (qn Y Y Y Y (by decide) Y Y QAll.nil))))))) ?_)
 refine EAll.cons ?_ EAll.nil
 refine EOp.no Y Y Y Y (by decide) Y ?_
 apply Stg.next [(112, _)] Y Y
 refine Stg.go [16, 17] [18] Y Y (qn Y Y Y Y (by decide) Y Y (qn Y Y Y Y (by decide) Y Y QAll.nil)) ?_
 refine EAll.cons ?_ EAll.nil
 refine EOp.no Y Y Y Y (by decide) Y ?_
 apply Stg.next [(115, _), (116, _), (117, _), (118, _), (119, _), (120, _)] Y Y
 refine Stg.go [19, 20, 21, 22, 23] [24] Y Y (qn Y Y Y Y (by decide) Y Y (qp hT Y (qp hT Y (qn Y Y Y Y (by decide) Y Y (qn Y Y Y Y (by decide) Y Y QAll.nil))))) ?_
 refine EAll.cons ?_ EAll.nil
 refine EOp.no Y Y Y Y (by decide) Y ?_
 apply Stg.next [(121, _), (122, _), (4, _)] Y Y
 refine Stg.fin [25, 26] Y Y (qp hT Y (qp hT Y QAll.nil)) ?_
 exact AtE.then_n ((HK15 _ () _ H).pickP (ts := [4]) (is := []) Y Y (by decide) Y)
 apply Stg.next [(100, _), (101, _), (102, _), (103, _), (105, _)] Y Y
 refine Stg.known (t := 102) Y hb15 (Stg.go [4, 5, 6, 8] [7] Y Y (qp hT Y (QAll.cons (QOp.pk hT Y Y Y Y hb15 Y) (qn Y Y Y Y (by decide) Y Y (qn Y Y Y Y (by decide) Y Y QAll.nil)))) ?_)
 refine EAll.cons ?_ EAll.nil
 refine EOp.no Y Y Y Y (by decide) Y ?_
 apply Stg.next [(104, _)] Y Y
 refine Stg.go [8] [9] Y Y (qn Y Y Y Y (by decide) Y Y QAll.nil) ?_
 refine EAll.cons ?_ EAll.nil
 refine EOp.no Y Y Y Y (by decide) Y ?_
 apply Stg.next [(106, _), (107, _), (108, _), (109, _), (110, _), (111, _), (113, _), (114, _)] Y Y
 refine Stg.go [10, 11, 12, 13, 14, 16, 17] [15] Y Y (qn Y Y Y Y (by decide) Y Y (qp hT Y (qp hT Y (qn Y Y Y Y (by decide) Y Y (qn Y Y Y Y (by decide) Y Y (qn Y Y Y Y (by decide) Y Y (qn Y Y Y Y (by decide) Y Y QAll.nil))))))) ?_
 refine EAll.cons ?_ EAll.nil
 refine EOp.no Y Y Y Y (by decide) Y ?_
 apply Stg.next [(112, _)] Y Y
 refine Stg.go [16, 17] [18] Y Y (qn Y Y Y Y (by decide) Y Y (qn Y Y Y Y (by decide) Y Y QAll.nil)) ?_
 refine EAll.cons ?_ EAll.nil
 refine EOp.no Y Y Y Y (by decide) Y ?_
 apply Stg.next [(115, _), (116, _), (117, _), (118, _), (119, _), (120, _)] Y Y
 refine Stg.go [19, 20, 21, 22, 23] [24] Y Y (qn Y Y Y Y (by decide) Y Y (qp hT Y (qp hT Y (qn Y Y Y Y (by decide) Y Y (qn Y Y Y Y (by decide) Y Y QAll.nil))))) ?_
 refine EAll.cons ?_ EAll.nil
 refine EOp.no Y Y Y Y (by decide) Y ?_
 apply Stg.next [(121, _), (122, _), (4, _)] Y Y
 refine Stg.fin [25, 26] Y Y (qp hT Y (qp hT Y QAll.nil)) ?_
 exact AtE.then_n ((HK15 _ () _ H).pickP (ts := [4]) (is := []) Y Y (by decide) Y)
end Go.Proofs.YtjppcjbmepcneaaGreatDoor

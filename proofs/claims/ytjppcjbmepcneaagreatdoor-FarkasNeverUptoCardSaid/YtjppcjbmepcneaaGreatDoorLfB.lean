/-
  Laws that the proof of this claim's statement leans on, each proved under the conditions that it states.
-/
import Derived.Test.YtjppcjbmepcneaaGreatDoorLfA
set_option linter.unusedVariables false
set_option linter.unusedSimpArgs false
namespace Go.Proofs.YtjppcjbmepcneaaGreatDoor
open Go Go.Lift Go.Sh
set_option maxRecDepth 100000
set_option maxHeartbeats 40000000
attribute [local irreducible] Calls AtL AtC AtE AtD Eff Quiet1 Stg qAt QAll eAt EAll nextK Code.wp
theorem lift_nat_divide (x0 : Sl) (y : Sl) (w : World) (m : Heap) (hr : Rel ⟨m, []⟩ w.heap) (S : (Sl × Sl) → Heap → Prop) (H : nat_divide x0 y m S) :
 Calls Tryz.prog 156 #[Sl.toV x0, Sl.toV y] w (Post ⟨w, m⟩ (fun r => Value.tuple #[Sl.toV r.1, Sl.toV r.2]) S) := by
 refine Calls.lift (args := [Sl.toV x0, Sl.toV y]) Tryz.func156 Y Tryz.ntmps156 (Nat.le_of_ble_eq_true Y) hr (nat_divide x0 y m S) H (fun H => ?_)
 refine AtC.pick (ts := [0, 1]) Y ?_
 unfold nat_divide at H
 refine sR (pu hT 2 Y (ng (sR (pu hT 1 Y (AtL.e Y (cl (fun h => nat_small _ h _) H Y Tryz.call157 Y (fun w m hr hw => lift_nat_small _ w m hr _ hw)) ?_)))))
 rintro _ _ ⟨v, h0, rfl, rfl, H⟩
 refine pu hT 5 Y (ng (sR (pu hT 1 Y (AtL.e Y (cl (fun h => nat_small _ h _) H Y Tryz.call157 Y (fun w m hr hw => lift_nat_small _ w m hr _ hw)) ?_))))
 rintro _ _ ⟨v_1, h0u1, rfl, rfl, H⟩
 refine pu hT 5 Y (ng (AtC.seq ?_))
 refine AtC.joinSeq (β := Unit) (fun (t0 : Bool) (bb : Unit) => [(24, Value.bool t0)]) (fun (t0 : Bool) (bb : Unit) => []) [0, 1, 5, 6, 8] [] H Y Y (fun t0 bb h0u2 H => ?_) (fun J1 H HK1 => ?_)
 refine AtC.condB H Y (fun H => ?_) (fun H => ?_)
 obtain ⟨hd1, H⟩ := H
 obtain ⟨hd2, H⟩ := H
 apply AtC.seqS [3, 7] [[], [], [], [], [], [], [], [3], [3, 7], [3, 7]] [[], [], [0, 1], [0, 1, 2], [], [], [4, 5], [0, 1, 2, 3, 4, 5, 6], [0, 1, 2, 3, 4, 5, 6, 7], [0, 1, 2, 3, 4, 5, 6, 7, 8]] hmix (by kernel_rfl) [(25, _), (26, _), (27, _), (29, _), (30, _), (31, _)] Y 2 Y
 refine Stg.go [0, 1, 2, 4, 5, 6] [3] Y Y (qp hT Y (qp hT Y (qq Y (Quiet1.quo Y Y Y hd1) Y (qp hT Y (qp hT Y (qq Y (Quiet1.rem Y Y Y hd2) Y QAll.nil)))))) ?_
 refine EAll.cons ?_ EAll.nil
 refine EOp.e Y Y Y (cl (fun h => nat_Of _ h _) H Y Tryz.call49 Y (fun w m hr hw => lift_nat_Of _ w m hr _ hw)) ?_
 rintro _ _ ⟨v_2, h0u3, rfl, rfl, H⟩
 apply Stg.next [(28, _)] Y Y
 refine Stg.go [4, 5, 6] [7] Y Y (qp hT Y (qp hT Y (qq Y (Quiet1.rem Y Y Y hd2) Y QAll.nil))) ?_
 refine EAll.cons ?_ EAll.nil
 refine EOp.e Y Y Y (cl (fun h => nat_Of _ h _) H Y Tryz.call49 Y (fun w m hr hw => lift_nat_Of _ w m hr _ hw)) ?_
 rintro _ _ ⟨v_3, h0u4, rfl, rfl, H⟩
 apply Stg.next [(32, _), (4, _), (5, _)] Y Y
 refine Stg.fin [8, 9] Y Y (qp hT Y (qp hT Y QAll.nil)) (tg (AtC.ret (AtE.then_r ?_)))
 exact AtE.retN (rs := [.tmp 4, .tmp 5]) Y (ResAll.cons (ResAt.tmp Y) (ResAll.cons (ResAt.tmp Y) ResAll.nil)) Y H
 refine AtC.skip (tg (sR (pu hT 1 Y (AtL.e Y (cl (fun h => nat_trim _ h _) H Y Tryz.call116 Y (fun w m hr hw => lift_nat_trim _ w m hr _ hw)) ?_))))
 rintro _ _ ⟨v_4, h0u5, rfl, rfl, H⟩
 refine pu hT 1 Y (AtL.e Y (cl (fun h => nat_trim _ h _) H Y Tryz.call116 Y (fun w m hr hw => lift_nat_trim _ w m hr _ hw)) ?_)
 rintro _ _ ⟨v_5, h0u6, rfl, rfl, H⟩
 refine pu hT 2 Y (ng (sR (pu hT 2 Y ?_)))
 replace H := H _ rfl
 refine AtL.e Y (EffX.mkS hT Y Y Y Y Y Y Y Y (by decide) H) ?_
 rintro _ _ ⟨v_6, h0u7, rfl, rfl, H⟩
 refine pu hT 1 Y (ng (AtC.seq (sR (pu hT 5 Y ?_))))
 replace H := H _ rfl
 refine ng (AtC.block ?_)
 refine AtC.loopM (fun (s0 : Sl × Int) => [(5, Sl.toV s0.1), (10, Value.int .i64 s0.2)]) (fun (s0 : Sl × Int) => []) [0, 1, 4] [5, 10, 0, 1, 4] [] [] H Y Y Y (by decide) Y (fun Kp4 s0 h0u8 H Q4 HK4 => ?_)
 refine AtC.seq (sR (pu hT 2 Y (ng ?_)))
 refine AtC.condB H Y (fun H => ?_) (fun H => ?_)
 refine AtC.skip (tg ?_)
 refine AtC.joinSeq (β := Unit) (fun (t0u1 : Sl) (bb_1 : Unit) => [(5, Sl.toV t0u1)]) (fun (t0u1 : Sl) (bb_1 : Unit) => []) [0, 1, 4, 10] [] H Y Y (fun t0u1 bb_1 h0u9 H => ?_) (fun J5 H HK5 => ?_)
 refine AtC.region (pu hT 3 Y ?_)
 replace H := H _ rfl
 refine AtL.nil ?_
 exact AtE.then_n ((HK4 _ _ H).pickP (ts := [5, 10, 0, 1, 4]) (is := []) Y Y (by decide) Y)
 refine AtC.block (sR (pu hT 2 Y (AtL.e Y (cl (fun h => nat_plus _ _ h _) H Y Tryz.call168 Y (fun w m hr hw => lift_nat_plus _ _ w m hr _ hw)) ?_)))
 rintro _ _ ⟨v_7, h0u10, rfl, rfl, H⟩
 refine pu hT 1 Y (ng ?_)
 obtain ⟨a_, hc5, hd5, H⟩ := H
 obtain ⟨v_8, hc6, H⟩ := H
 apply AtC.seqS [5, 8] [[], [], [], [], [], [], [5], [5], [5]] [[], [0], [0, 1], [], [], [3, 4], [0, 1, 2, 3, 4, 5], [0, 1, 2, 3, 4, 5, 6], [0, 1, 2, 3, 4, 5, 6, 7]] hmix (by kernel_rfl) [(51, _), (52, _), (53, _), (54, _), (55, _)] Y 2 Y
 refine Stg.go [0, 1, 2, 3, 4] [5] Y Y (qp hT Y (qq Y (Quiet1.idxS hT Y Y Y Y Y hc5 hd5) Y (qq Y (Quiet1.load hT Y Y Y hc6) Y (qp hT Y (qp hT Y QAll.nil))))) ?_
 refine EAll.cons ?_ EAll.nil
 refine EOp.e Y Y Y (cl (fun h => nat_bit _ _ h _) H Y Tryz.call169 Y (fun w m hr hw => lift_nat_bit _ _ w m hr _ hw)) ?_
 rintro _ _ ⟨v_9, h0u11, rfl, rfl, H⟩
 obtain ⟨hc7, H⟩ := H
 obtain ⟨a_1_, hc8, hd8, H⟩ := H
 apply Stg.next [(56, _), (57, _), (58, _)] Y Y
 refine Stg.go [0, 1, 2, 6, 7] [8] Y Y (qp hT Y (qq Y (Quiet1.idxS hT Y Y Y Y Y hc5 hd5) Y (qq Y (Quiet1.load hT Y Y Y hc7) Y (qp hT Y (qq Y (Quiet1.idxS hT Y Y Y Y Y hc8 hd8) Y QAll.nil))))) ?_
 refine EAll.cons ?_ EAll.nil
 refine EOp.e Y Y Y (EffX.store hT Y Y Y Y Y H) ?_
 rintro _ _ ⟨h0u12, rfl, H⟩
 apply Stg.next [] Y Y
 refine Stg.fin [] Y Y QAll.nil (tg (sR (pu hT 1 Y (AtL.e Y (cl (fun h => nat_trim _ h _) H Y Tryz.call116 Y (fun w m hr hw => lift_nat_trim _ w m hr _ hw)) ?_))))
 rintro _ _ ⟨v_10, h0u13, rfl, rfl, H⟩
 refine pu hT 1 Y (ng (sR (pu hT 2 Y (AtL.e Y (cl (fun h => nat_Cmp _ _ h _) H Y Tryz.call163 Y (fun w m hr hw => lift_nat_Cmp _ _ w m hr _ hw)) ?_))))
 rintro _ _ ⟨v_11, h0u14, rfl, rfl, H⟩
 refine pu hT 1 Y (ng ?_)
 refine AtC.condB H Y (fun H => ?_) (fun H => ?_)
 refine sR (pu hT 2 Y (AtL.e Y (cl (fun h => nat_minus _ _ h _) H Y Tryz.call164 Y (fun w m hr hw => lift_nat_minus _ _ w m hr _ hw)) ?_))
 rintro _ _ ⟨v_12, h0u15, rfl, rfl, H⟩
 refine pu hT 1 Y (ng ?_)
 obtain ⟨a_2_, hc9, hd9, H⟩ := H
 obtain ⟨v_13, hc10, H⟩ := H
 obtain ⟨hd11, H⟩ := H
 obtain ⟨a_3_, hc12, hd12, H⟩ := H
 apply AtC.stages [10] [[], [], [], [], [], [], [], [], [], [], []] [[], [], [1], [0, 1, 2], [0, 1, 2, 3], [], [5], [5, 6], [0, 1, 2, 3, 4, 5, 6, 7], [0, 1, 2, 3, 4, 5, 6, 7, 8], [0, 1, 2, 3, 4, 5, 6, 7, 8, 9]] hmix (by kernel_rfl) [(68, _), (69, _), (70, _), (71, _), (72, _), (73, _), (74, _), (75, _), (76, _), (77, _)] Y 1 Y
 refine Stg.go [0, 1, 2, 3, 4, 5, 6, 7, 8, 9] [10] Y Y (qp hT Y (qp hT Y (qp hT Y (qq Y (Quiet1.idxS hT Y Y Y Y Y hc9 hd9) Y (qq Y (Quiet1.load hT Y Y Y hc10) Y (qp hT Y (qp hT Y (qq Y (Quiet1.shl Y Y Y hd11) Y (qp hT Y (qq Y (Quiet1.idxS hT Y Y Y Y Y hc12 hd12) Y QAll.nil)))))))))) ?_
 refine EAll.cons ?_ EAll.nil
 refine EOp.e Y Y Y (EffX.store hT Y Y Y Y Y H) ?_
 rintro _ _ ⟨h0u16, rfl, H⟩
 apply Stg.next [] Y Y
 refine Stg.fin [] Y Y QAll.nil (AtE.blk_n ?_)
 exact AtE.then_n ((HK5 _ () _ H).pickP (ts := [5, 0, 1, 4, 10]) (is := []) Y Y (by decide) Y)
 refine AtC.skip (AtE.blk_n ?_)
 exact AtE.then_n ((HK5 _ () _ H).pickP (ts := [5, 0, 1, 4, 10]) (is := []) Y Y (by decide) Y)
 refine AtC.exit (AtE.then_x (AtE.then_x (AtE.blk_hit (tg (sR ?_)))))
 refine pu hT 1 Y (AtL.e Y (cl (fun h => nat_trim _ h _) H Y Tryz.call116 Y (fun w m hr hw => lift_nat_trim _ w m hr _ hw)) ?_)
 rintro _ _ ⟨v_14, h0u17, rfl, rfl, H⟩
 refine pu hT 3 Y (ng (AtC.ret ?_))
 exact AtE.retN (rs := [.tmp 4, .tmp 5]) Y (ResAll.cons (ResAt.tmp Y) (ResAll.cons (ResAt.tmp Y) ResAll.nil)) Y H
 refine AtC.region (pu hT 2 Y ?_)
 refine AtL.splitB (t := 22) H Y (fun H => ?_) (fun H => ?_)
 refine ys Y (pu hT 1 Y (pu hT 1 Y (AtL.nil ?_)))
 exact AtE.then_n ((HK1 _ () _ H).pickP (ts := [24, 0, 1, 5, 6, 8]) (is := []) Y Y (by decide) Y)
 refine nf Y (pu hT 1 Y (AtL.nil ?_))
 exact AtE.then_n ((HK1 _ () _ H).pickP (ts := [24, 0, 1, 5, 6, 8]) (is := []) Y Y (by decide) Y)
theorem lift_nat_Bench_Div (b : (Option Addr)) (x0 : Sl) (y : Sl) (w : World) (m : Heap) (hr : Rel ⟨m, []⟩ w.heap) (S : (Sl × Sl) → Heap → Prop) (H : nat_Bench_Div b x0 y m S) :
 Calls Tryz.prog 161 #[Value.pointer b, Sl.toV x0, Sl.toV y] w (Post ⟨w, m⟩ (fun r => Value.tuple #[Sl.toV r.1, Sl.toV r.2]) S) := by
 refine Calls.lift (args := [Value.pointer b, Sl.toV x0, Sl.toV y]) Tryz.func161 Y Tryz.ntmps161 (Nat.le_of_ble_eq_true Y) hr (nat_Bench_Div b x0 y m S) H (fun H => ?_)
 refine AtC.pick (ts := [0, 1, 2]) Y ?_
 unfold nat_Bench_Div at H
 refine sR (pu hT 2 Y (ng (AtC.seq (sR (pu hT 1 Y ?_)))))
 refine AtL.e Y (cl (fun h => nat_trim _ h _) H Y Tryz.call116 Y (fun w m hr hw => lift_nat_trim _ w m hr _ hw)) ?_
 rintro _ _ ⟨v, h0, rfl, rfl, H⟩
 refine pu hT 2 Y (ng ?_)
 refine AtC.condB H Y (fun H => ?_) (fun H => ?_)
 refine sR (pu hT 2 Y (ng (AtC.ret (AtE.then_r ?_))))
 exact AtE.retN (rs := [.tmp 6, .tmp 7]) Y (ResAll.cons (ResAt.tmp Y) (ResAll.cons (ResAt.tmp Y) ResAll.nil)) Y H
 refine AtC.skip (tg (sR (pu hT 2 Y (AtL.e Y (cl (fun h => nat_divide _ _ h _) H Y Tryz.call156 Y (fun w m hr hw => lift_nat_divide _ _ w m hr _ hw)) ?_))))
 rintro _ _ ⟨v_1, h0u1, rfl, rfl, H⟩
 refine pu hT 5 Y (ng (sR (pu hT 2 Y (AtL.e Y (cl (fun h => nat_Bench_fit _ _ h _) H Y Tryz.call150 Y (fun w m hr hw => lift_nat_Bench_fit _ _ w m hr _ hw)) ?_))))
 rintro _ _ ⟨v_2, h0u2, rfl, rfl, H⟩
 refine pu hT 2 Y (AtL.e Y (cl (fun h => nat_Bench_fit _ _ h _) H Y Tryz.call150 Y (fun w m hr hw => lift_nat_Bench_fit _ _ w m hr _ hw)) ?_)
 rintro _ _ ⟨v_3, h0u3, rfl, rfl, H⟩
 refine pu hT 2 Y (ng (AtC.seq (sR (pu hT 1 Y ?_))))
 obtain ⟨a, hc0, H⟩ := H
 refine AtL.q Y (Quiet1.nilChk Y Y hc0) (pu hT 1 Y ?_)
 obtain ⟨v_4, hc1, H⟩ := H
 refine AtL.q Y (Quiet1.load hT Y Y Y hc1) (ng ?_)
 refine AtC.condB H Y (fun H => ?_) (fun H => ?_)
 refine sR (pu hT 2 Y (ng (AtC.ret (AtE.then_r ?_))))
 exact AtE.retN (rs := [.tmp 6, .tmp 7]) Y (ResAll.cons (ResAt.tmp Y) (ResAll.cons (ResAt.tmp Y) ResAll.nil)) Y H
 refine AtC.skip (tg (sR (pu hT 4 Y (ng (AtC.ret ?_)))))
 exact AtE.retN (rs := [.tmp 6, .tmp 7]) Y (ResAll.cons (ResAt.tmp Y) (ResAll.cons (ResAt.tmp Y) ResAll.nil)) Y H
theorem lift_ratio_form (neg : Bool) (num : Sl) (d : Sl) (w : World) (m : Heap) (hr : Rel ⟨m, []⟩ w.heap) (S : (Bool × Sl × Sl) → Heap → Prop) (H : ratio_form neg num d m S) :
 Calls Tryz.prog 138 #[Value.bool neg, Sl.toV num, Sl.toV d] w (Post ⟨w, m⟩ (fun r => Value.agg (C_bool_sl_sl r).toArray) S) := by
 refine Calls.lift (args := [Value.bool neg, Sl.toV num, Sl.toV d]) Tryz.func138 Y Tryz.ntmps138 (Nat.le_of_ble_eq_true Y) hr (ratio_form neg num d m S) H (fun H => ?_)
 refine AtC.pick (ts := [0, 1, 2]) Y ?_
 unfold ratio_form at H
 refine sR (AtL.e Y (EffX.allocP (cs := [_, _, _]) hT Y Y H) ?_)
 rintro _ _ ⟨b, _, rfl, rfl, _, H⟩
 refine AtL.nil ?_
 replace H := H.self
 refine tg (sR (AtL.e Y (cl (fun h => ratio_free h _) H Y Tryz.call109 Y (fun w m hr hw => lift_ratio_free  w m hr _ hw)) ?_))
 rintro _ _ ⟨v, h0u1, rfl, rfl, H⟩
 refine pu hT 1 Y (ng (sR (pu hT 3 Y (AtL.e Y (cl (fun h => nat_Bench_Gcd _ _ _ h _) H Y Tryz.call110 Y (fun w m hr hw => lift_nat_Bench_Gcd _ _ _ w m hr _ hw)) ?_))))
 rintro _ _ ⟨v_1, h0u2, rfl, rfl, H⟩
 refine pu hT 1 Y (ng (sR (pu hT 3 Y (AtL.e Y (cl (fun h => nat_Bench_Div _ _ _ h _) H Y Tryz.call161 Y (fun w m hr hw => lift_nat_Bench_Div _ _ _ w m hr _ hw)) ?_))))
 rintro _ _ ⟨v_2, h0u3, rfl, rfl, H⟩
 refine pu hT 4 Y (ng (sR (pu hT 3 Y (AtL.e Y (cl (fun h => nat_Bench_Div _ _ _ h _) H Y Tryz.call161 Y (fun w m hr hw => lift_nat_Bench_Div _ _ _ w m hr _ hw)) ?_))))
 rintro _ _ ⟨v_3, h0u4, rfl, rfl, H⟩
 refine pu hT 4 Y (ng ?_)
 refine AtC.joinSeq (β := Unit) (fun (t0 : Sl) (bb : Unit) => [(2, Sl.toV t0)]) (fun (t0 : Sl) (bb : Unit) => []) [0, 1, 6] [0] H Y Y (fun t0 bb h0u5 H => ?_) (fun J1 H HK1 => ?_)
 refine AtC.seq (sR (pu hT 3 Y (ng ?_)))
 refine AtC.condB H Y (fun H => ?_) (fun H => ?_)
 refine sR (AtL.q Y (Quiet1.build (cs := [_, _, _]) hT Y Y Y Y Y Y) (AtL.e Y (EffX.storeSP (i := 0) (qv := [(_, [_, _, _])]) hT Y Y Y Y Y Y Y Y Y Y) ?_))
 rintro _ _ rfl
 refine ng (AtC.ret (AtE.then_r ?_))
 exact AtE.retN (rs := [.cell 6 38]) Y (ResAll.cons (ResAt.cellSP (i := 0) (l := [_, _, _]) hT Y Y Y Y Y Y Y) ResAll.nil) Y H
 refine AtC.skip (tg (sR (pu hT 2 Y (AtL.q Y (Quiet1.build (cs := [_, _]) hT Y Y Y Y Y Y) (pu hT 1 Y ?_)))))
 refine AtL.q Y (Quiet1.build (cs := [_, _, _]) hT Y Y Y Y Y Y) (AtL.e Y (EffX.storeSP (i := 0) (qv := [(_, [_, _, _])]) hT Y Y Y Y Y Y Y Y Y Y) ?_)
 rintro _ _ rfl
 refine ng (AtC.ret ?_)
 exact AtE.retN (rs := [.cell 6 38]) Y (ResAll.cons (ResAt.cellSP (i := 0) (l := [_, _, _]) hT Y Y Y Y Y Y Y) ResAll.nil) Y H
 refine sR (pu hT 1 Y (AtL.e Y (cl (fun h => ratio_isOne _ h _) H Y Tryz.call108 Y (fun w m hr hw => lift_ratio_isOne _ w m hr _ hw)) ?_))
 rintro _ _ ⟨v_4, h0u6, rfl, rfl, H⟩
 refine ng ?_
 refine AtC.condB H Y (fun H => ?_) (fun H => ?_)
 refine AtC.region (pu hT 1 Y (AtL.nil ?_))
 exact AtE.then_n ((HK1 _ () _ H).pickP (ts := [2, 0, 1, 6]) (is := [0]) Y Y (by decide) Y)
 refine AtC.skip ?_
 exact AtE.then_n ((HK1 _ () _ H).pickP (ts := [2, 0, 1, 6]) (is := [0]) Y Y (by decide) Y)
theorem lift_nat_Bench_Over (b : (Option Addr)) (w : World) (m : Heap) (hr : Rel ⟨m, []⟩ w.heap) (S : Bool → Heap → Prop) (H : nat_Bench_Over b m S) :
 Calls Tryz.prog 30 #[Value.pointer b] w (Post ⟨w, m⟩ Value.bool S) := by
 refine Calls.lift (args := [Value.pointer b]) Tryz.func30 Y Tryz.ntmps30 (Nat.le_of_ble_eq_true Y) hr (nat_Bench_Over b m S) H (fun H => ?_)
 refine AtC.pick (ts := [0]) Y ?_
 unfold nat_Bench_Over at H
 refine sR (pu hT 1 Y (ng (sR (pu hT 1 Y ?_))))
 obtain ⟨a, hc0, H⟩ := H
 refine AtL.q Y (Quiet1.nilChk Y Y hc0) (pu hT 1 Y ?_)
 obtain ⟨v, hc1, H⟩ := H
 refine AtL.q Y (Quiet1.load hT Y Y Y hc1) (pu hT 1 Y (ng (AtC.ret ?_)))
 exact r1 2 Y Y Y H
theorem lift_ratio_fit (b : (Option Addr)) (x0 : Bool × Sl × Sl) (w : World) (m : Heap) (hr : Rel ⟨m, []⟩ w.heap) (S : (Bool × Sl × Sl) → Heap → Prop) (H : ratio_fit b x0 m S) :
 Calls Tryz.prog 137 #[Value.pointer b, Value.agg (C_bool_sl_sl x0).toArray] w (Post ⟨w, m⟩ (fun r => Value.agg (C_bool_sl_sl r).toArray) S) := by
 refine Calls.lift (args := [Value.pointer b, Value.agg (C_bool_sl_sl x0).toArray]) Tryz.func137 Y Tryz.ntmps137 (Nat.le_of_ble_eq_true Y) hr (ratio_fit b x0 m S) H (fun H => ?_)
 refine AtC.pick (ts := [0, 1]) Y ?_
 unfold ratio_fit at H
 refine sR (AtL.e Y (EffX.boxP (cs := [_, _, _]) Y Y Y H) ?_)
 rintro _ _ ⟨b_1, _, rfl, rfl, _, H⟩
 refine AtL.e Y (EffX.allocP (cs := [_, _, _]) hT Y Y H) ?_
 rintro _ _ ⟨b_2, _, rfl, rfl, _, H⟩
 refine AtL.nil ?_
 replace H := H.self
 refine tg (sR (pu hT 3 Y (AtL.q Y (lP hT 1 Y) (AtL.e Y (cl (fun h => nat_Bench_Add _ _ _ h _) H Y Tryz.call160 Y (fun w m hr hw => lift_nat_Bench_Add _ _ _ w m hr _ hw)) ?_))))
 rintro _ _ ⟨v, h0u1, rfl, rfl, H⟩
 refine ng (sR (pu hT 2 Y (AtL.q Y (lP hT 1 Y) (AtL.e Y (cl (fun h => nat_Bench_Add _ _ _ h _) H Y Tryz.call160 Y (fun w m hr hw => lift_nat_Bench_Add _ _ _ w m hr _ hw)) ?_))))
 rintro _ _ ⟨v_1, h0u2, rfl, rfl, H⟩
 refine ng (AtC.seq (sR (pu hT 1 Y (AtL.e Y (cl (fun h => nat_Bench_Over _ h _) H Y Tryz.call30 Y (fun w m hr hw => lift_nat_Bench_Over _ w m hr _ hw)) ?_))))
 rintro _ _ ⟨v_2, h0u3, rfl, rfl, H⟩
 refine ng ?_
 refine AtC.condB H Y (fun H => ?_) (fun H => ?_)
 refine sR (AtL.q Y (Quiet1.build (cs := [_, _, _]) hT Y Y Y Y Y Y) (AtL.e Y (EffX.storeSP (i := 0) (qv := [(_, [_, _, _]), (_, [_, _, _])]) hT Y Y Y Y Y Y Y Y Y Y) ?_))
 rintro _ _ rfl
 refine ng (AtC.ret (AtE.then_r ?_))
 exact AtE.retN (rs := [.cell 4 38]) Y (ResAll.cons (ResAt.cellSP (i := 0) (l := [_, _, _]) hT Y Y Y Y Y Y Y) ResAll.nil) Y H
 refine AtC.skip (tg (sR (AtL.q Y (lS hT 1 [_, _, _] Y Y Y Y Y Y Y Y) (AtL.e Y (EffX.storeSP (i := 0) (qv := [(_, [_, _, _]), (_, [_, _, _])]) hT Y Y Y Y Y Y Y Y Y Y) ?_))))
 rintro _ _ rfl
 refine ng (AtC.ret ?_)
 exact AtE.retN (rs := [.cell 4 38]) Y (ResAll.cons (ResAt.cellSP (i := 0) (l := [_, _, _]) hT Y Y Y Y Y Y Y) ResAll.nil) Y H
theorem lift_ratio_Add (b : (Option Addr)) (x0 : Bool × Sl × Sl) (y : Bool × Sl × Sl) (w : World) (m : Heap) (hr : Rel ⟨m, []⟩ w.heap) (S : (Bool × Sl × Sl) → Heap → Prop) (H : ratio_Add b x0 y m S) :
 Calls Tryz.prog 134 #[Value.pointer b, Value.agg (C_bool_sl_sl x0).toArray, Value.agg (C_bool_sl_sl y).toArray] w (Post ⟨w, m⟩ (fun r => Value.agg (C_bool_sl_sl r).toArray) S) := by
 refine Calls.lift (args := [Value.pointer b, Value.agg (C_bool_sl_sl x0).toArray, Value.agg (C_bool_sl_sl y).toArray]) Tryz.func134 Y Tryz.ntmps134 (Nat.le_of_ble_eq_true Y) hr (ratio_Add b x0 y m S) H (fun H => ?_)
 refine AtC.pick (ts := [0, 1, 2]) Y ?_
 unfold ratio_Add at H
 refine sR (AtL.e Y (EffX.boxP (cs := [_, _, _]) Y Y Y H) ?_)
 rintro _ _ ⟨b_1, _, rfl, rfl, _, H⟩
 refine AtL.e Y (EffX.boxP (cs := [_, _, _]) Y Y Y H) ?_
 rintro _ _ ⟨b_2, _, rfl, rfl, _, H⟩
 refine AtL.e Y (EffX.allocP (cs := [_, _, _]) hT Y Y H) ?_
 rintro _ _ ⟨b_3, _, rfl, rfl, _, H⟩
 refine AtL.nil ?_
 replace H := H.self
 refine tg (sR (AtL.q Y (lS hT 2 [_, _, _] Y Y Y Y Y Y Y Y) (AtL.q Y (lS hT 1 [_, _, _] Y Y Y Y Y Y Y Y) (AtL.e Y (cl (fun h => ratio_cross _ _ h _) H Y Tryz.call152 Y (fun w m hr hw => lift_ratio_cross _ _ w m hr _ hw)) ?_))))
 rintro _ _ ⟨v, h0u1, rfl, rfl, H⟩
 refine pu hT 2 Y (AtL.e Y (cl (fun h => ratio_sum _ _ h _) H Y Tryz.call153 Y (fun w m hr hw => lift_ratio_sum _ _ w m hr _ hw)) ?_)
 rintro _ _ ⟨v_1, h0u2, rfl, rfl, H⟩
 refine AtL.e Y (EffX.allocP (cs := [_, _]) hT Y Y H) ?_
 rintro _ _ ⟨b_4, _, rfl, rfl, _, H⟩
 replace H := H.self
 refine AtL.e Y (EffX.storeSP (i := 0) (qv := [(_, [_, _]), (_, [_, _, _]), (_, [_, _, _]), (_, [_, _, _])]) hT Y Y Y Y Y Y Y Y Y Y) ?_
 rintro _ _ rfl
 refine ng ?_
 apply AtC.seqS [5, 7, 9, 10, 11, 12, 13] [[], [], [], [], [], [], [], [5], [], [5, 7], [5, 7, 9], [5, 7, 9, 10], [5, 7, 9, 10, 11], [5, 7, 9, 10, 11, 12]] [[], [], [1], [], [3], [], [], [5, 6], [], [5, 6, 7, 8], [5, 6, 7, 8, 9], [1, 2, 3, 4, 5, 6, 7, 8, 9, 10], [0, 1, 2, 3, 4, 5, 6, 7, 8, 9, 10, 11], [0, 1, 2, 3, 4, 5, 6, 7, 8, 9, 10, 11, 12]] hmix (by kernel_rfl) [(14, _), (15, _), (16, _), (17, _), (18, _), (20, _), (22, _)] Y 7 Y
 refine Stg.go [0, 1, 2, 3, 4, 6, 8] [5] Y Y (qp hT Y (qp hT Y (qq Y (lP hT 0 Y) Y (qp hT Y (qq Y (lP hT 0 Y) Y (qq Y (lS hT 3 [_, _, _] Y Y Y Y Y Y Y Y) Y (qq Y (lS hT 2 [_, _, _] Y Y Y Y Y Y Y Y) Y QAll.nil))))))) ?_
 refine EAll.cons ?_ EAll.nil
 refine EOp.e Y Y Y (cl (fun h => ratio_free h _) H Y Tryz.call109 Y (fun w m hr hw => lift_ratio_free  w m hr _ hw)) ?_
 rintro _ _ ⟨v_2, h0u4, rfl, rfl, H⟩
 apply Stg.next [(19, _)] Y Y
 refine Stg.go [0, 1, 2, 3, 4, 6, 8] [7] Y Y (qp hT Y (qp hT Y (qq Y (lP hT 0 Y) Y (qp hT Y (qq Y (lP hT 0 Y) Y (qq Y (lS hT 3 [_, _, _] Y Y Y Y Y Y Y Y) Y (qq Y (lS hT 2 [_, _, _] Y Y Y Y Y Y Y Y) Y QAll.nil))))))) ?_
 refine EAll.cons ?_ EAll.nil
 refine EOp.e Y Y Y (cl (fun h => ratio_den _ h _) H Y Tryz.call111 Y (fun w m hr hw => lift_ratio_den _ w m hr _ hw)) ?_
 rintro _ _ ⟨v_3, h0u5, rfl, rfl, H⟩
 apply Stg.next [(21, _)] Y Y
 refine Stg.go [0, 1, 2, 3, 4, 8] [9] Y Y (qp hT Y (qp hT Y (qq Y (lP hT 0 Y) Y (qp hT Y (qq Y (lP hT 0 Y) Y (qq Y (lS hT 2 [_, _, _] Y Y Y Y Y Y Y Y) Y QAll.nil)))))) ?_
 refine EAll.cons ?_ EAll.nil
 refine EOp.e Y Y Y (cl (fun h => ratio_den _ h _) H Y Tryz.call111 Y (fun w m hr hw => lift_ratio_den _ w m hr _ hw)) ?_
 rintro _ _ ⟨v_4, h0u6, rfl, rfl, H⟩
 apply Stg.next [(23, _)] Y Y
 refine Stg.go [0, 1, 2, 3, 4] [10] Y Y (qp hT Y (qp hT Y (qq Y (lP hT 0 Y) Y (qp hT Y (qq Y (lP hT 0 Y) Y QAll.nil))))) ?_
 refine EAll.cons ?_ EAll.nil
 refine EOp.e Y Y Y (cl (fun h => nat_Bench_Mul _ _ _ h _) H Y Tryz.call136 Y (fun w m hr hw => lift_nat_Bench_Mul _ _ _ w m hr _ hw)) ?_
 rintro _ _ ⟨v_5, h0u7, rfl, rfl, H⟩
 apply Stg.next [(24, _)] Y Y
 refine Stg.go [0, 1, 2, 3, 4] [11] Y Y (qp hT Y (qp hT Y (qq Y (lP hT 0 Y) Y (qp hT Y (qq Y (lP hT 0 Y) Y QAll.nil))))) ?_
 refine EAll.cons ?_ EAll.nil
 refine EOp.e Y Y Y (cl (fun h => ratio_form _ _ _ h _) H Y Tryz.call138 Y (fun w m hr hw => lift_ratio_form _ _ _ w m hr _ hw)) ?_
 rintro _ _ ⟨v_6, h0u8, rfl, rfl, H⟩
 apply Stg.next [(25, _)] Y Y
 refine Stg.go [0] [12] Y Y (qp hT Y QAll.nil) ?_
 refine EAll.cons ?_ EAll.nil
 refine EOp.e Y Y Y (cl (fun h => ratio_fit _ _ h _) H Y Tryz.call137 Y (fun w m hr hw => lift_ratio_fit _ _ w m hr _ hw)) ?_
 rintro _ _ ⟨v_7, h0u9, rfl, rfl, H⟩
 apply Stg.next [(26, _)] Y Y
 refine Stg.go [] [13] Y Y QAll.nil ?_
 refine EAll.cons ?_ EAll.nil
 refine EOp.e Y Y Y (EffX.storeSP (i := 1) (qv := [(_, [_, _]), (_, [_, _, _]), (_, [_, _, _]), (_, [_, _, _])]) hT Y Y Y Y Y Y Y Y Y Y) ?_
 rintro _ _ rfl
 apply Stg.next [] Y Y
 refine Stg.fin [] Y Y QAll.nil (tg (AtC.ret ?_))
 exact AtE.retN (rs := [.cell 6 38]) Y (ResAll.cons (ResAt.cellSP (i := 1) (l := [_, _, _]) hT Y Y Y Y Y Y Y) ResAll.nil) Y H
theorem lift_delta_both__ratio_Add (b : (Option Addr)) (x0 : Bool × Sl × Sl × Bool × Sl × Sl) (y : Bool × Sl × Sl × Bool × Sl × Sl) (w : World) (m : Heap) (hr : Rel ⟨m, []⟩ w.heap) (S : (Bool × Sl × Sl × Bool × Sl × Sl) → Heap → Prop) (H : delta_both__ratio_Add b x0 y m S) :
 Calls Tryz.prog 130 #[Value.pointer b, Value.func (.func 134) #[] #[], Value.agg (C_bool_sl_sl_bool_sl_sl x0).toArray, Value.agg (C_bool_sl_sl_bool_sl_sl y).toArray] w (Post ⟨w, m⟩ (fun r => Value.agg (C_bool_sl_sl_bool_sl_sl r).toArray) S) := by
 refine Calls.lift (args := [Value.pointer b, Value.func (.func 134) #[] #[], Value.agg (C_bool_sl_sl_bool_sl_sl x0).toArray, Value.agg (C_bool_sl_sl_bool_sl_sl y).toArray]) Tryz.func130 Y Tryz.ntmps130 (Nat.le_of_ble_eq_true Y) hr (delta_both__ratio_Add b x0 y m S) H (fun H => ?_)
 refine AtC.pick (ts := [0, 1, 2, 3]) Y ?_
 unfold delta_both__ratio_Add at H
 refine sR (AtL.e Y (EffX.boxP (cs := [_, _, _, _, _, _]) Y Y Y H) ?_)
 rintro _ _ ⟨b_1, _, rfl, rfl, _, H⟩
 refine AtL.e Y (EffX.boxP (cs := [_, _, _, _, _, _]) Y Y Y H) ?_
 rintro _ _ ⟨b_2, _, rfl, rfl, _, H⟩
 refine AtL.e Y (EffX.allocP (cs := [_, _, _, _, _, _]) hT Y Y H) ?_
 rintro _ _ ⟨b_3, _, rfl, rfl, _, H⟩
 refine AtL.nil ?_
 replace H := H.self
 refine tg ?_
 refine AtC.joinSeq (β := Nat) (fun (t0 : Bool × Sl × Sl × Bool × Sl × Sl) (bb : Nat) => [(9, Value.pointer (some ⟨bb, 0, none⟩))]) (fun (t0 : Bool × Sl × Sl × Bool × Sl × Sl) (bb : Nat) => [(bb, [Value.bool t0.1, Sl.toV t0.2.1, Sl.toV t0.2.2.1, Value.bool t0.2.2.2.1, Sl.toV t0.2.2.2.2.1, Sl.toV t0.2.2.2.2.2])]) [0, 8] [0] H Y Y (fun t0 bb h0u1 H => ?_) (fun J1 H HK1 => ?_)
 refine AtC.seq (sR (pu hT 1 Y (AtL.e Y (cl (fun h => nat_Bench_Over _ h _) H Y Tryz.call30 Y (fun w m hr hw => lift_nat_Bench_Over _ w m hr _ hw)) ?_)))
 rintro _ _ ⟨v_5, h0u13, rfl, rfl, H⟩
 refine ng ?_
 refine AtC.condB H Y (fun H => ?_) (fun H => ?_)
 refine sR (AtL.q Y (Quiet1.build (cs := [_, _, _, _, _, _]) hT Y Y Y Y Y Y) (AtL.e Y (EffX.storeSP (i := 1) (qv := [(_, [_, _, _, _, _, _]), (_, [_, _, _, _, _, _])]) hT Y Y Y Y Y Y Y Y Y Y) ?_))
 rintro _ _ rfl
 refine ng (AtC.ret (AtE.then_r ?_))
 exact AtE.retN (rs := [.cell 8 44]) Y (ResAll.cons (ResAt.cellSP (i := 1) (l := [_, _, _, _, _, _]) hT Y Y Y Y Y Y Y) ResAll.nil) Y H
 refine AtC.skip (tg (sR (AtL.q Y (lS hT 0 [_, _, _, _, _, _] Y Y Y Y Y Y Y Y) (AtL.e Y (EffX.storeSP (i := 1) (qv := [(_, [_, _, _, _, _, _]), (_, [_, _, _, _, _, _])]) hT Y Y Y Y Y Y Y Y Y Y) ?_))))
 rintro _ _ rfl
 refine ng (AtC.ret ?_)
 exact AtE.retN (rs := [.cell 8 44]) Y (ResAll.cons (ResAt.cellSP (i := 1) (l := [_, _, _, _, _, _]) hT Y Y Y Y Y Y Y) ResAll.nil) Y H
 apply AtC.stages [6, 13, 15, 16] [[], [], [], [], [], [], [], [], [], [], [], [], [], [6], [6, 13], [], [6, 13, 15]] [[], [], [], [2], [], [4], [0, 1, 2, 3, 4, 5], [], [], [], [9], [], [11], [0, 1, 2, 3, 4, 5, 6, 7, 8, 9, 10, 11, 12], [0, 1, 2, 3, 4, 5, 6, 7, 8, 9, 10, 11, 12, 13], [], [0, 1, 2, 3, 4, 5, 6, 7, 8, 9, 10, 11, 12, 13, 14, 15]] hmix (by kernel_rfl) [(10, _), (11, _), (12, _), (13, _), (14, _), (15, _), (17, _), (18, _), (19, _), (20, _), (21, _), (22, _)] Y 4 Y
 refine Stg.go [0, 1, 2, 3, 4, 5, 7, 8, 9, 10, 11, 12] [6, 15] Y Y (qp hT Y (qp hT Y (qp hT Y (qq Y (lS hT 2 [_, _, _] Y Y Y Y Y Y Y Y) Y (qp hT Y (qq Y (lS hT 1 [_, _, _] Y Y Y Y Y Y Y Y) Y (qp hT Y (qp hT Y (qp hT Y (qq Y (lS hT 2 [_, _, _] Y Y Y Y Y Y Y Y) Y (qp hT Y (qq Y (lS hT 1 [_, _, _] Y Y Y Y Y Y Y Y) Y QAll.nil)))))))))))) ?_
 refine EAll.cons ?_ ?_
 replace H := H.self
 refine EOp.e Y Y Y (EffX.callF (bs := []) (cs := []) (f := 134) (sh := fun h => ratio_Add _ _ _ h _) (H0 := H) Y Y Tryz.call134 Y (hl := fun w m hr hw => lift_ratio_Add _ _ _ w m hr _ hw)) ?_
 rintro _ _ ⟨v, h0u3, rfl, rfl, H⟩
 apply Stg.next [(16, _)] Y Y
 refine Stg.go [7, 8, 9, 10, 11, 12] [13, 15] Y Y (qp hT Y (qp hT Y (qp hT Y (qq Y (lS hT 2 [_, _, _] Y Y Y Y Y Y Y Y) Y (qp hT Y (qq Y (lS hT 1 [_, _, _] Y Y Y Y Y Y Y Y) Y QAll.nil)))))) ?_
 refine EAll.cons ?_ ?_
 replace H := H.self
 refine EOp.e Y Y Y (EffX.callF (bs := []) (cs := []) (f := 134) (sh := fun h => ratio_Add _ _ _ h _) (H0 := H) Y Y Tryz.call134 Y (hl := fun w m hr hw => lift_ratio_Add _ _ _ w m hr _ hw)) ?_
 rintro _ _ ⟨v_1, h0u5, rfl, rfl, H⟩
 apply Stg.next [(23, _), (24, _)] Y Y
 refine Stg.go [14] [15] Y Y (qq Y (Quiet1.build (cs := [_, _, _, _, _, _]) hT Y Y Y Y Y Y) Y QAll.nil) ?_
 refine EAll.cons ?_ EAll.nil
 refine EOp.e Y Y Y (EffX.allocP (cs := [_, _, _, _, _, _]) hT Y Y H) ?_
 rintro _ _ ⟨b_4, _, rfl, rfl, he1, H⟩
 apply Stg.next [(9, _)] Y Y
 refine Stg.go [14] [16] Y Y (qq Y (Quiet1.build (cs := [_, _, _, _, _, _]) hT Y Y Y Y Y Y) Y QAll.nil) ?_
 refine EAll.cons ?_ EAll.nil
 refine EOp.e Y Y Y (EffX.storeSP (i := 0) (qv := [(_, [_, _, _, _, _, _]), (_, [_, _, _, _, _, _]), (_, [_, _, _, _, _, _]), (_, [_, _, _, _, _, _])]) hT Y Y Y Y Y Y Y Y Y Y) ?_
 rintro _ _ rfl
 apply Stg.next [] Y Y
 refine Stg.fin [] Y Y QAll.nil ?_
 replace H := H.self
 exact AtE.then_n ((HK1 _ b_4 _ H).pickP (ts := [9, 0, 8]) (is := [0, 1]) Y Y (by decide) Y)
 refine EAll.cons ?_ EAll.nil
 refine EOp.e Y Y Y (EffX.allocP (cs := [_, _, _, _, _, _]) hT Y Y H) ?_
 rintro _ _ ⟨b_5, _, rfl, rfl, he2, H⟩
 apply Stg.next [(9, _)] Y Y
 refine Stg.go [7, 8, 9, 10, 11, 12] [13] Y Y (qp hT Y (qp hT Y (qp hT Y (qq Y (lS hT 3 [_, _, _] Y Y Y Y Y Y Y Y) Y (qp hT Y (qq Y (lS hT 2 [_, _, _] Y Y Y Y Y Y Y Y) Y QAll.nil)))))) ?_
 refine EAll.cons ?_ EAll.nil
 replace H := H.self
 refine EOp.e Y Y Y (EffX.callF (bs := []) (cs := []) (f := 134) (sh := fun h => ratio_Add _ _ _ h _) (H0 := H) Y Y Tryz.call134 Y (hl := fun w m hr hw => lift_ratio_Add _ _ _ w m hr _ hw)) ?_
 rintro _ _ ⟨v_2, h0u7, rfl, rfl, H⟩
 apply Stg.next [(23, _), (24, _)] Y Y
 refine Stg.go [14] [16] Y Y (qq Y (Quiet1.build (cs := [_, _, _, _, _, _]) hT Y Y Y Y Y Y) Y QAll.nil) ?_
 refine EAll.cons ?_ EAll.nil
 refine EOp.e Y Y Y (EffX.storeSP (i := 0) (qv := [(_, [_, _, _, _, _, _]), (_, [_, _, _, _, _, _]), (_, [_, _, _, _, _, _]), (_, [_, _, _, _, _, _])]) hT Y Y Y Y Y Y Y Y Y Y) ?_
 rintro _ _ rfl
 apply Stg.next [] Y Y
 refine Stg.fin [] Y Y QAll.nil ?_
 replace H := H.self
 exact AtE.then_n ((HK1 _ b_5 _ H).pickP (ts := [9, 0, 8]) (is := [0, 1]) Y Y (by decide) Y)
 refine EAll.cons ?_ EAll.nil
 refine EOp.e Y Y Y (EffX.allocP (cs := [_, _, _, _, _, _]) hT Y Y H) ?_
 rintro _ _ ⟨b_6, _, rfl, rfl, he3, H⟩
 apply Stg.next [(9, _)] Y Y
 refine Stg.go [0, 1, 2, 3, 4, 5, 7, 8, 9, 10, 11, 12] [6] Y Y (qp hT Y (qp hT Y (qp hT Y (qq Y (lS hT 3 [_, _, _] Y Y Y Y Y Y Y Y) Y (qp hT Y (qq Y (lS hT 2 [_, _, _] Y Y Y Y Y Y Y Y) Y (qp hT Y (qp hT Y (qp hT Y (qq Y (lS hT 3 [_, _, _] Y Y Y Y Y Y Y Y) Y (qp hT Y (qq Y (lS hT 2 [_, _, _] Y Y Y Y Y Y Y Y) Y QAll.nil)))))))))))) ?_
 refine EAll.cons ?_ EAll.nil
 replace H := H.self
 refine EOp.e Y Y Y (EffX.callF (bs := []) (cs := []) (f := 134) (sh := fun h => ratio_Add _ _ _ h _) (H0 := H) Y Y Tryz.call134 Y (hl := fun w m hr hw => lift_ratio_Add _ _ _ w m hr _ hw)) ?_
 rintro _ _ ⟨v_3, h0u9, rfl, rfl, H⟩
 apply Stg.next [(16, _)] Y Y
 refine Stg.go [7, 8, 9, 10, 11, 12] [13] Y Y (qp hT Y (qp hT Y (qp hT Y (qq Y (lS hT 3 [_, _, _] Y Y Y Y Y Y Y Y) Y (qp hT Y (qq Y (lS hT 2 [_, _, _] Y Y Y Y Y Y Y Y) Y QAll.nil)))))) ?_
 refine EAll.cons ?_ EAll.nil
 replace H := H.self
 refine EOp.e Y Y Y (EffX.callF (bs := []) (cs := []) (f := 134) (sh := fun h => ratio_Add _ _ _ h _) (H0 := H) Y Y Tryz.call134 Y (hl := fun w m hr hw => lift_ratio_Add _ _ _ w m hr _ hw)) ?_
 rintro _ _ ⟨v_4, h0u11, rfl, rfl, H⟩
 apply Stg.next [(23, _), (24, _)] Y Y
 refine Stg.go [14] [16] Y Y (qq Y (Quiet1.build (cs := [_, _, _, _, _, _]) hT Y Y Y Y Y Y) Y QAll.nil) ?_
 refine EAll.cons ?_ EAll.nil
 refine EOp.e Y Y Y (EffX.storeSP (i := 0) (qv := [(_, [_, _, _, _, _, _]), (_, [_, _, _, _, _, _]), (_, [_, _, _, _, _, _]), (_, [_, _, _, _, _, _])]) hT Y Y Y Y Y Y Y Y Y Y) ?_
 rintro _ _ rfl
 apply Stg.next [] Y Y
 refine Stg.fin [] Y Y QAll.nil ?_
 replace H := H.self
 exact AtE.then_n ((HK1 _ b_6 _ H).pickP (ts := [9, 0, 8]) (is := [0, 1]) Y Y (by decide) Y)
theorem lift_delta_Add (b : (Option Addr)) (x0 : Bool × Sl × Sl × Bool × Sl × Sl) (y : Bool × Sl × Sl × Bool × Sl × Sl) (w : World) (m : Heap) (hr : Rel ⟨m, []⟩ w.heap) (S : (Bool × Sl × Sl × Bool × Sl × Sl) → Heap → Prop) (H : delta_Add b x0 y m S) :
 Calls Tryz.prog 80 #[Value.pointer b, Value.agg (C_bool_sl_sl_bool_sl_sl x0).toArray, Value.agg (C_bool_sl_sl_bool_sl_sl y).toArray] w (Post ⟨w, m⟩ (fun r => Value.agg (C_bool_sl_sl_bool_sl_sl r).toArray) S) := by
 refine Calls.lift (args := [Value.pointer b, Value.agg (C_bool_sl_sl_bool_sl_sl x0).toArray, Value.agg (C_bool_sl_sl_bool_sl_sl y).toArray]) Tryz.func80 Y Tryz.ntmps80 (Nat.le_of_ble_eq_true Y) hr (delta_Add b x0 y m S) H (fun H => ?_)
 refine AtC.pick (ts := [0, 1, 2]) Y ?_
 unfold delta_Add at H
 refine sR (AtL.e Y (EffX.boxP (cs := [_, _, _, _, _, _]) Y Y Y H) ?_)
 rintro _ _ ⟨b_1, _, rfl, rfl, _, H⟩
 refine AtL.e Y (EffX.boxP (cs := [_, _, _, _, _, _]) Y Y Y H) ?_
 rintro _ _ ⟨b_2, _, rfl, rfl, _, H⟩
 refine AtL.e Y (EffX.allocP (cs := [_, _, _, _, _, _]) hT Y Y H) ?_
 rintro _ _ ⟨b_3, _, rfl, rfl, _, H⟩
 refine AtL.nil ?_
 replace H := H.self
 refine tg (sR (pu hT 1 Y (AtL.q Y (lS hT 2 [_, _, _, _, _, _] Y Y Y Y Y Y Y Y) (AtL.q Y (lS hT 1 [_, _, _, _, _, _] Y Y Y Y Y Y Y Y) (AtL.e Y (cl (fun h => delta_both__ratio_Add _ _ _ h _) H Y Tryz.call130 Y (fun w m hr hw => lift_delta_both__ratio_Add _ _ _ w m hr _ hw)) ?_)))))
 rintro _ _ ⟨v, h0u1, rfl, rfl, H⟩
 refine AtL.e Y (EffX.storeSP (i := 0) (qv := [(_, [_, _, _, _, _, _]), (_, [_, _, _, _, _, _]), (_, [_, _, _, _, _, _])]) hT Y Y Y Y Y Y Y Y Y Y) ?_
 rintro _ _ rfl
 refine ng (AtC.ret ?_)
 exact AtE.retN (rs := [.cell 6 44]) Y (ResAll.cons (ResAt.cellSP (i := 0) (l := [_, _, _, _, _, _]) hT Y Y Y Y Y Y Y) ResAll.nil) Y H
theorem lift_ratio_Mul (b : (Option Addr)) (x0 : Bool × Sl × Sl) (y : Bool × Sl × Sl) (w : World) (m : Heap) (hr : Rel ⟨m, []⟩ w.heap) (S : (Bool × Sl × Sl) → Heap → Prop) (H : ratio_Mul b x0 y m S) :
 Calls Tryz.prog 135 #[Value.pointer b, Value.agg (C_bool_sl_sl x0).toArray, Value.agg (C_bool_sl_sl y).toArray] w (Post ⟨w, m⟩ (fun r => Value.agg (C_bool_sl_sl r).toArray) S) := by
 refine Calls.lift (args := [Value.pointer b, Value.agg (C_bool_sl_sl x0).toArray, Value.agg (C_bool_sl_sl y).toArray]) Tryz.func135 Y Tryz.ntmps135 (Nat.le_of_ble_eq_true Y) hr (ratio_Mul b x0 y m S) H (fun H => ?_)
 refine AtC.pick (ts := [0, 1, 2]) Y ?_
 unfold ratio_Mul at H
 refine sR (AtL.e Y (EffX.boxP (cs := [_, _, _]) Y Y Y H) ?_)
 rintro _ _ ⟨b_1, _, rfl, rfl, _, H⟩
 refine AtL.e Y (EffX.boxP (cs := [_, _, _]) Y Y Y H) ?_
 rintro _ _ ⟨b_2, _, rfl, rfl, _, H⟩
 refine AtL.e Y (EffX.allocP (cs := [_, _, _]) hT Y Y H) ?_
 rintro _ _ ⟨b_3, _, rfl, rfl, _, H⟩
 refine AtL.nil ?_
 replace H := H.self
 refine tg (sR (AtL.e Y (cl (fun h => ratio_free h _) H Y Tryz.call109 Y (fun w m hr hw => lift_ratio_free  w m hr _ hw)) ?_))
 rintro _ _ ⟨v, h0u1, rfl, rfl, H⟩
 refine AtL.q Y (Quiet1.makeFn (bs := [_]) (cs := []) Y Y Y) (pu hT 1 Y (ng ?_))
 apply AtC.seqS [15, 18, 20, 21, 22, 23, 24] [[], [], [], [], [], [], [], [], [], [], [], [], [], [], [], [], [], [], [15], [], [15, 18], [15, 18, 20], [15, 18, 20, 21], [15, 18, 20, 21, 22], [15, 18, 20, 21, 22, 23]] [[], [], [1], [1, 2], [], [4], [4, 5], [1, 2, 3, 4, 5, 6], [], [], [9], [9, 10], [], [12], [12, 13], [8, 9, 10, 11, 12, 13, 14], [], [], [8, 9, 10, 11, 12, 13, 14, 15, 17], [], [8, 9, 10, 11, 12, 13, 14, 15, 17, 18, 19], [8, 9, 10, 11, 12, 13, 14, 15, 16, 17, 18, 19, 20], [1, 2, 3, 4, 5, 6, 7, 8, 9, 10, 11, 12, 13, 14, 15, 16, 17, 18, 19, 20, 21], [0, 1, 2, 3, 4, 5, 6, 7, 8, 9, 10, 11, 12, 13, 14, 15, 16, 17, 18, 19, 20, 21, 22], [0, 1, 2, 3, 4, 5, 6, 7, 8, 9, 10, 11, 12, 13, 14, 15, 16, 17, 18, 19, 20, 21, 22, 23]] hmix (by kernel_rfl) [(10, _), (11, _), (12, _), (13, _), (14, _), (15, _), (16, _), (17, _), (18, _), (19, _), (20, _), (21, _), (22, _), (23, _), (24, _), (26, _), (27, _), (29, _)] Y 7 Y
 refine Stg.go [0, 1, 2, 3, 4, 5, 6, 7, 8, 9, 10, 11, 12, 13, 14, 16, 17, 19] [15] Y Y (qp hT Y (qp hT Y (qp hT Y (qq Y (lP hT 2 Y) Y (qp hT Y (qp hT Y (qq Y (lP hT 1 Y) Y (qp hT Y (qp hT Y (qp hT Y (qp hT Y (qq Y (lP hT 2 Y) Y (qp hT Y (qp hT Y (qq Y (lP hT 1 Y) Y (qp hT Y (qq Y (lS hT 2 [_, _, _] Y Y Y Y Y Y Y Y) Y (qq Y (lS hT 1 [_, _, _] Y Y Y Y Y Y Y Y) Y QAll.nil)))))))))))))))))) ?_
 refine EAll.cons ?_ EAll.nil
 refine EOp.e Y Y Y (EffX.callF (bs := [_]) (cs := []) (f := 136) (sh := fun h => nat_Bench_Mul _ _ _ h _) (H0 := H) Y Y Tryz.call136 Y (hl := fun w m hr hw => lift_nat_Bench_Mul _ _ _ w m hr _ hw)) ?_
 rintro _ _ ⟨v_1, h0u2, rfl, rfl, H⟩
 apply Stg.next [(25, _)] Y Y
 refine Stg.go [0, 1, 2, 3, 4, 5, 6, 7, 16, 17, 19] [18] Y Y (qp hT Y (qp hT Y (qp hT Y (qq Y (lP hT 2 Y) Y (qp hT Y (qp hT Y (qq Y (lP hT 1 Y) Y (qp hT Y (qp hT Y (qq Y (lS hT 2 [_, _, _] Y Y Y Y Y Y Y Y) Y (qq Y (lS hT 1 [_, _, _] Y Y Y Y Y Y Y Y) Y QAll.nil))))))))))) ?_
 refine EAll.cons ?_ EAll.nil
 refine EOp.e Y Y Y (cl (fun h => ratio_den _ h _) H Y Tryz.call111 Y (fun w m hr hw => lift_ratio_den _ w m hr _ hw)) ?_
 rintro _ _ ⟨v_2, h0u3, rfl, rfl, H⟩
 apply Stg.next [(28, _)] Y Y
 refine Stg.go [0, 1, 2, 3, 4, 5, 6, 7, 16, 19] [20] Y Y (qp hT Y (qp hT Y (qp hT Y (qq Y (lP hT 2 Y) Y (qp hT Y (qp hT Y (qq Y (lP hT 1 Y) Y (qp hT Y (qp hT Y (qq Y (lS hT 1 [_, _, _] Y Y Y Y Y Y Y Y) Y QAll.nil)))))))))) ?_
 refine EAll.cons ?_ EAll.nil
 refine EOp.e Y Y Y (cl (fun h => ratio_den _ h _) H Y Tryz.call111 Y (fun w m hr hw => lift_ratio_den _ w m hr _ hw)) ?_
 rintro _ _ ⟨v_3, h0u4, rfl, rfl, H⟩
 apply Stg.next [(30, _)] Y Y
 refine Stg.go [0, 1, 2, 3, 4, 5, 6, 7, 16] [21] Y Y (qp hT Y (qp hT Y (qp hT Y (qq Y (lP hT 2 Y) Y (qp hT Y (qp hT Y (qq Y (lP hT 1 Y) Y (qp hT Y (qp hT Y QAll.nil))))))))) ?_
 refine EAll.cons ?_ EAll.nil
 refine EOp.e Y Y Y (EffX.callF (bs := [_]) (cs := []) (f := 136) (sh := fun h => nat_Bench_Mul _ _ _ h _) (H0 := H) Y Y Tryz.call136 Y (hl := fun w m hr hw => lift_nat_Bench_Mul _ _ _ w m hr _ hw)) ?_
 rintro _ _ ⟨v_4, h0u5, rfl, rfl, H⟩
 apply Stg.next [(31, _)] Y Y
 refine Stg.go [0, 1, 2, 3, 4, 5, 6, 7] [22] Y Y (qp hT Y (qp hT Y (qp hT Y (qq Y (lP hT 2 Y) Y (qp hT Y (qp hT Y (qq Y (lP hT 1 Y) Y (qp hT Y QAll.nil)))))))) ?_
 refine EAll.cons ?_ EAll.nil
 refine EOp.e Y Y Y (cl (fun h => ratio_form _ _ _ h _) H Y Tryz.call138 Y (fun w m hr hw => lift_ratio_form _ _ _ w m hr _ hw)) ?_
 rintro _ _ ⟨v_5, h0u6, rfl, rfl, H⟩
 apply Stg.next [(32, _)] Y Y
 refine Stg.go [0] [23] Y Y (qp hT Y QAll.nil) ?_
 refine EAll.cons ?_ EAll.nil
 refine EOp.e Y Y Y (cl (fun h => ratio_fit _ _ h _) H Y Tryz.call137 Y (fun w m hr hw => lift_ratio_fit _ _ w m hr _ hw)) ?_
 rintro _ _ ⟨v_6, h0u7, rfl, rfl, H⟩
 apply Stg.next [(33, _)] Y Y
 refine Stg.go [] [24] Y Y QAll.nil ?_
 refine EAll.cons ?_ EAll.nil
 refine EOp.e Y Y Y (EffX.storeSP (i := 0) (qv := [(_, [_, _, _]), (_, [_, _, _]), (_, [_, _, _])]) hT Y Y Y Y Y Y Y Y Y Y) ?_
 rintro _ _ rfl
 apply Stg.next [] Y Y
 refine Stg.fin [] Y Y QAll.nil (tg (AtC.ret ?_))
 exact AtE.retN (rs := [.cell 6 38]) Y (ResAll.cons (ResAt.cellSP (i := 0) (l := [_, _, _]) hT Y Y Y Y Y Y Y) ResAll.nil) Y H
theorem lift_linear_Scale_c1 (x0 : Bool × Sl × Sl) (c0 : Addr) (c1 : Addr) (w : World) (m : Heap) (hr : Rel ⟨m, []⟩ w.heap) (S : (Bool × Sl × Sl) → Heap → Prop) (H : linear_Scale_c1 x0 c0 c1 m S) :
 Calls Tryz.prog 140 #[Value.agg (C_bool_sl_sl x0).toArray, Value.pointer (some c0), Value.pointer (some c1)] w (Post ⟨w, m⟩ (fun r => Value.agg (C_bool_sl_sl r).toArray) S) := by
 refine Calls.lift (args := [Value.agg (C_bool_sl_sl x0).toArray, Value.pointer (some c0), Value.pointer (some c1)]) Tryz.func140 Y Tryz.ntmps140 (Nat.le_of_ble_eq_true Y) hr (linear_Scale_c1 x0 c0 c1 m S) H (fun H => ?_)
 refine AtC.pick (ts := [0, 1, 2]) Y ?_
 unfold linear_Scale_c1 at H
 refine sR (AtL.e Y (EffX.boxP (cs := [_, _, _]) Y Y Y H) ?_)
 rintro _ _ ⟨b, _, rfl, rfl, _, H⟩
 refine AtL.e Y (EffX.allocP (cs := [_, _, _]) hT Y Y H) ?_
 rintro _ _ ⟨b_1, _, rfl, rfl, _, H⟩
 refine AtL.nil ?_
 replace H := H.self
 refine tg (sR ?_)
 obtain ⟨v, hc0, H⟩ := H
 refine AtL.q Y (Quiet1.load hT Y Y Y hc0) ?_
 obtain ⟨v_1, hc1, H⟩ := H
 refine AtL.q Y (Quiet1.loadS hT Y Y Y Y hc1) (AtL.q Y (lS hT 1 [_, _, _] Y Y Y Y Y Y Y Y) (AtL.e Y (cl (fun h => ratio_Mul _ _ _ h _) H Y Tryz.call135 Y (fun w m hr hw => lift_ratio_Mul _ _ _ w m hr _ hw)) ?_))
 rintro _ _ ⟨v_2, h0u1, rfl, rfl, H⟩
 refine AtL.e Y (EffX.storeSP (i := 0) (qv := [(_, [_, _, _]), (_, [_, _, _])]) hT Y Y Y Y Y Y Y Y Y Y) ?_
 rintro _ _ rfl
 refine ng (AtC.ret ?_)
 exact AtE.retN (rs := [.cell 4 38]) Y (ResAll.cons (ResAt.cellSP (i := 0) (l := [_, _, _]) hT Y Y Y Y Y Y Y) ResAll.nil) Y H
theorem lift_linear_kept (b : (Option Addr)) (p : Bool × Sl × Sl × Sl) (w : World) (m : Heap) (hr : Rel ⟨m, []⟩ w.heap) (S : (Bool × Sl × Sl × Sl) → Heap → Prop) (H : linear_kept b p m S) :
 Calls Tryz.prog 139 #[Value.pointer b, Value.agg (C_bool_sl_sl_sl p).toArray] w (Post ⟨w, m⟩ (fun r => Value.agg (C_bool_sl_sl_sl r).toArray) S) := by
 refine Calls.lift (args := [Value.pointer b, Value.agg (C_bool_sl_sl_sl p).toArray]) Tryz.func139 Y Tryz.ntmps139 (Nat.le_of_ble_eq_true Y) hr (linear_kept b p m S) H (fun H => ?_)
 refine AtC.pick (ts := [0, 1]) Y ?_
 unfold linear_kept at H
 refine sR (AtL.e Y (EffX.boxP (cs := [_, _, _, _]) Y Y Y H) ?_)
 rintro _ _ ⟨b_1, _, rfl, rfl, _, H⟩
 refine AtL.e Y (EffX.allocP (cs := [_, _, _, _]) hT Y Y H) ?_
 rintro _ _ ⟨b_2, _, rfl, rfl, _, H⟩
 refine AtL.nil ?_
 replace H := H.self
 refine tg (AtC.seq (sR (pu hT 1 Y (AtL.e Y (cl (fun h => nat_Bench_Over _ h _) H Y Tryz.call30 Y (fun w m hr hw => lift_nat_Bench_Over _ w m hr _ hw)) ?_))))
 rintro _ _ ⟨v, h0u1, rfl, rfl, H⟩
 refine ng ?_
 refine AtC.condB H Y (fun H => ?_) (fun H => ?_)
 refine sR (AtL.q Y (Quiet1.build (cs := [_, _, _, _]) hT Y Y Y Y Y Y) (AtL.e Y (EffX.storeSP (i := 0) (qv := [(_, [_, _, _, _]), (_, [_, _, _, _])]) hT Y Y Y Y Y Y Y Y Y Y) ?_))
 rintro _ _ rfl
 refine ng (AtC.ret (AtE.then_r ?_))
 exact AtE.retN (rs := [.cell 4 52]) Y (ResAll.cons (ResAt.cellSP (i := 0) (l := [_, _, _, _]) hT Y Y Y Y Y Y Y) ResAll.nil) Y H
 refine AtC.skip (tg (sR (AtL.q Y (lS hT 1 [_, _, _, _] Y Y Y Y Y Y Y Y) (AtL.e Y (EffX.storeSP (i := 0) (qv := [(_, [_, _, _, _]), (_, [_, _, _, _])]) hT Y Y Y Y Y Y Y Y Y Y) ?_))))
 rintro _ _ rfl
 refine ng (AtC.ret ?_)
 exact AtE.retN (rs := [.cell 4 52]) Y (ResAll.cons (ResAt.cellSP (i := 0) (l := [_, _, _, _]) hT Y Y Y Y Y Y Y) ResAll.nil) Y H
theorem lift_linear_Scale (b : (Option Addr)) (k : Bool × Sl × Sl) (p : Bool × Sl × Sl × Sl) (w : World) (m : Heap) (hr : Rel ⟨m, []⟩ w.heap) (S : (Bool × Sl × Sl × Sl) → Heap → Prop) (H : linear_Scale b k p m S) :
 Calls Tryz.prog 85 #[Value.pointer b, Value.agg (C_bool_sl_sl k).toArray, Value.agg (C_bool_sl_sl_sl p).toArray] w (Post ⟨w, m⟩ (fun r => Value.agg (C_bool_sl_sl_sl r).toArray) S) := by
 refine Calls.lift (args := [Value.pointer b, Value.agg (C_bool_sl_sl k).toArray, Value.agg (C_bool_sl_sl_sl p).toArray]) Tryz.func85 Y Tryz.ntmps85 (Nat.le_of_ble_eq_true Y) hr (linear_Scale b k p m S) H (fun H => ?_)
 refine AtC.pick (ts := [0, 1, 2]) Y ?_
 unfold linear_Scale at H
 refine sR (AtL.e Y (EffX.box (cs := [_]) Y Y Y H) ?_)
 rintro _ _ ⟨b_1, h0, rfl, rfl, H⟩
 refine AtL.e Y (EffX.box (cs := [_, _, _]) Y Y Y H) ?_
 rintro _ _ ⟨k_1, h0u1, rfl, rfl, H⟩
 refine AtL.e Y (EffX.boxP (cs := [_, _, _, _]) Y Y Y H) ?_
 rintro _ _ ⟨b_2, _, rfl, rfl, _, H⟩
 refine AtL.e Y (EffX.allocP (cs := [_, _, _, _]) hT Y Y H) ?_
 rintro _ _ ⟨b_3, _, rfl, rfl, _, H⟩
 refine AtL.nil ?_
 replace H := H.self
 refine tg (AtC.seq (sR ?_))
 obtain ⟨v, hc0, H⟩ := H
 refine AtL.q Y (Quiet1.loadS hT Y Y Y Y hc0) (AtL.e Y (cl (fun h => ratio_Sign _ h _) H Y Tryz.call43 Y (fun w m hr hw => lift_ratio_Sign _ w m hr _ hw)) ?_)
 rintro _ _ ⟨v_1, h0u3, rfl, rfl, H⟩
 refine pu hT 1 Y (ng ?_)
 refine AtC.condB H Y (fun H => ?_) (fun H => ?_)
 refine sR (AtL.q Y (Quiet1.build (cs := [_, _, _, _]) hT Y Y Y Y Y Y) (AtL.e Y (EffX.storeSP (i := 0) (qv := [(_, [_, _, _, _]), (_, [_, _, _, _])]) hT Y Y Y Y Y Y Y Y Y Y) ?_))
 rintro _ _ rfl
 refine ng (AtC.ret (AtE.then_r ?_))
 exact AtE.retN (rs := [.cell 6 52]) Y (ResAll.cons (ResAt.cellSP (i := 0) (l := [_, _, _, _]) hT Y Y Y Y Y Y Y) ResAll.nil) Y H
 refine AtC.skip (tg (sR (AtL.q Y (Quiet1.makeFn (bs := []) (cs := [_, _]) Y Y Y) (pu hT 1 Y (ng ?_)))))
 refine sR (pu hT 2 Y (AtL.q Y (lS hT 1 [_, _, _] Y Y Y Y Y Y Y Y) (AtL.e Y (EffX.callF (bs := []) (cs := [_, _]) (f := 140) (sh := fun h => linear_Scale_c1 _ _ _ h _) (H0 := H) Y Y Tryz.call140 Y (hl := fun w m hr hw => lift_linear_Scale_c1 _ _ _ w m hr _ hw)) ?_)))
 rintro _ _ ⟨v_2, h0u4, rfl, rfl, H⟩
 refine AtL.q Y (Quiet1.build (cs := [_, _, _, _]) hT Y Y Y Y Y Y) (AtL.e Y (EffX.allocP (cs := [_, _, _, _]) hT Y Y H) ?_)
 rintro _ _ ⟨b_4, _, rfl, rfl, _, H⟩
 replace H := H.self
 refine AtL.e Y (EffX.storeSP (i := 0) (qv := [(_, [_, _, _, _]), (_, [_, _, _, _]), (_, [_, _, _, _])]) hT Y Y Y Y Y Y Y Y Y Y) ?_
 rintro _ _ rfl
 refine ng (AtC.seq (sR (pu hT 1 Y (AtL.q Y (lP hT 2 Y) (pu hT 2 Y ?_)))))
 refine ng (AtC.block ?_)
 refine AtC.loopM (fun (s0 : Int × Bool × Sl × Sl × Sl) => [(24, Value.int .i64 s0.1)]) (fun (s0 : Int × Bool × Sl × Sl × Sl) => [(b_4, [Value.bool s0.2.1, Sl.toV s0.2.2.1, Sl.toV s0.2.2.2.1, Sl.toV s0.2.2.2.2])]) [3, 6, 7, 8, 22, 23] [24, 3, 6, 7, 8, 22, 23] [1] [0, 1] H Y Y Y (by decide) Y (fun Kp2 s0 h0u6 H Q2 HK2 => ?_)
 refine sR (pu hT 1 Y (ng (AtC.seq ?_)))
 refine AtC.condB H Y (fun H => ?_) (fun H => ?_)
 refine AtC.skip (tg (AtC.seq (AtC.block (sR ?_))))
 obtain ⟨a_, hc2, hd2, H⟩ := H
 refine AtL.q Y (Quiet1.idxS hT Y Y Y Y Y hc2 hd2) ?_
 obtain ⟨v_3, hc3, H⟩ := H
 refine AtL.q Y (Quiet1.loadS hT Y Y Y Y hc3) (AtL.e Y (EffX.allocP (cs := [_, _, _, _]) hT Y Y H) ?_)
 rintro _ _ ⟨b_5, _, rfl, rfl, _, H⟩
 replace H := H.self
 refine AtL.e Y (EffX.storeSP (i := 0) (qv := [(_, [_, _, _, _]), (_, [_, _, _, _]), (_, [_, _, _, _])]) hT Y Y Y Y Y Y Y Y Y Y) ?_
 rintro _ _ rfl
 refine ng ?_
 apply AtC.stages [7, 9, 10, 12] [[], [], [], [], [], [], [], [], [7], [7], [7, 9], [7, 9, 10], [7, 9, 10]] [[], [0], [], [2], [], [], [5], [4, 5, 6], [2, 3, 4, 5, 6, 7], [2, 3, 4, 5, 6, 7, 8], [0, 1, 2, 3, 4, 5, 6, 7, 8, 9], [0, 1, 2, 3, 4, 5, 6, 7, 8, 9, 10], [0, 1, 2, 3, 4, 5, 6, 7, 8, 9, 10, 11]] hmix (by kernel_rfl) [(28, _), (29, _), (30, _), (31, _), (32, _), (33, _), (34, _)] Y 4 Y
 refine Stg.go [0, 1, 2, 3, 4, 5, 6] [7] Y Y (qp hT Y (qq Y (lP hT 1 Y) Y (qp hT Y (qq Y (lP hT 0 Y) Y (qp hT Y (qp hT Y (qq Y (lS hT 0 [_, _, _] Y Y Y Y Y Y Y Y) Y QAll.nil))))))) ?_
 refine EAll.cons ?_ EAll.nil
 refine EOp.e Y Y Y (EffX.callF (bs := []) (cs := [_, _]) (f := 140) (sh := fun h => linear_Scale_c1 _ _ _ h _) (H0 := H) Y Y Tryz.call140 Y (hl := fun w m hr hw => lift_linear_Scale_c1 _ _ _ w m hr _ hw)) ?_
 rintro _ _ ⟨v_4, h0u8, rfl, rfl, H⟩
 apply Stg.next [(35, _), (36, _)] Y Y
 refine Stg.go [0, 1, 2, 3, 8] [9] Y Y (qp hT Y (qq Y (lP hT 1 Y) Y (qp hT Y (qq Y (lP hT 0 Y) Y (qq Y (Quiet1.build (cs := [_, _, _, _]) hT Y Y Y Y Y Y) Y QAll.nil))))) ?_
 refine EAll.cons ?_ EAll.nil
 refine EOp.e Y Y Y (EffX.buildS2 (cs := [_, _, _, _]) hT Y Y Y Y Y Y Y Y H) ?_
 rintro _ _ ⟨a_1, h0u9, rfl, rfl, H⟩
 apply Stg.next [(37, _)] Y Y
 refine Stg.go [0, 1] [10] Y Y (qp hT Y (qq Y (lP hT 1 Y) Y QAll.nil)) ?_
 refine EAll.cons ?_ EAll.nil
 refine EOp.e Y Y Y (EffX.appendS (s := _) (u := _) hT Y Y Y Y Y Y Y Y Y Y (by decide) H) ?_
 rintro _ _ ⟨v_6, h0u10, rfl, rfl, H⟩
 apply Stg.next [(38, _), (39, _)] Y Y
 refine Stg.go [11] [12] Y Y (qp hT Y QAll.nil) ?_
 refine EAll.cons ?_ EAll.nil
 refine EOp.e Y Y Y (EffX.storeP (i := 1) (qv := [(_, [_, _, _, _]), (_, [_, _, _, _]), (_, [_, _, _, _])]) hT Y Y Y Y Y Y Y Y Y) ?_
 rintro _ _ rfl
 apply Stg.next [] Y Y
 refine Stg.fin [] Y Y QAll.nil (AtE.blk_n (tg (AtC.region (pu hT 2 Y (AtL.nil ?_)))))
 exact AtE.then_n ((HK2 _ _ H).pickP (ts := [24, 3, 6, 7, 8, 22, 23]) (is := [1, 2]) Y Y (by decide) Y)
 refine AtC.exit (AtE.then_x (AtE.then_x (AtE.blk_hit (tg (sR ?_)))))
 obtain ⟨v_7, hc4, H⟩ := H
 refine AtL.q Y (Quiet1.load hT Y Y Y hc4) (AtL.q Y (lS hT 0 [_, _, _, _] Y Y Y Y Y Y Y Y) (AtL.e Y (cl (fun h => linear_kept _ _ h _) H Y Tryz.call139 Y (fun w m hr hw => lift_linear_kept _ _ w m hr _ hw)) ?_))
 rintro _ _ ⟨v_8, h0u11, rfl, rfl, H⟩
 refine AtL.e Y (EffX.storeSP (i := 1) (qv := [(_, [_, _, _, _]), (_, [_, _, _, _])]) hT Y Y Y Y Y Y Y Y Y Y) ?_
 rintro _ _ rfl
 refine ng (AtC.ret ?_)
 exact AtE.retN (rs := [.cell 6 52]) Y (ResAll.cons (ResAt.cellSP (i := 1) (l := [_, _, _, _]) hT Y Y Y Y Y Y Y) ResAll.nil) Y H
theorem lift_delta_both__ratio_Mul (b : (Option Addr)) (x0 : Bool × Sl × Sl × Bool × Sl × Sl) (y : Bool × Sl × Sl × Bool × Sl × Sl) (w : World) (m : Heap) (hr : Rel ⟨m, []⟩ w.heap) (S : (Bool × Sl × Sl × Bool × Sl × Sl) → Heap → Prop) (H : delta_both__ratio_Mul b x0 y m S) :
 Calls Tryz.prog 130 #[Value.pointer b, Value.func (.func 135) #[] #[], Value.agg (C_bool_sl_sl_bool_sl_sl x0).toArray, Value.agg (C_bool_sl_sl_bool_sl_sl y).toArray] w (Post ⟨w, m⟩ (fun r => Value.agg (C_bool_sl_sl_bool_sl_sl r).toArray) S) := by
 refine Calls.lift (args := [Value.pointer b, Value.func (.func 135) #[] #[], Value.agg (C_bool_sl_sl_bool_sl_sl x0).toArray, Value.agg (C_bool_sl_sl_bool_sl_sl y).toArray]) Tryz.func130 Y Tryz.ntmps130 (Nat.le_of_ble_eq_true Y) hr (delta_both__ratio_Mul b x0 y m S) H (fun H => ?_)
 refine AtC.pick (ts := [0, 1, 2, 3]) Y ?_
 unfold delta_both__ratio_Mul at H
 refine sR (AtL.e Y (EffX.boxP (cs := [_, _, _, _, _, _]) Y Y Y H) ?_)
 rintro _ _ ⟨b_1, _, rfl, rfl, _, H⟩
 refine AtL.e Y (EffX.boxP (cs := [_, _, _, _, _, _]) Y Y Y H) ?_
 rintro _ _ ⟨b_2, _, rfl, rfl, _, H⟩
 refine AtL.e Y (EffX.allocP (cs := [_, _, _, _, _, _]) hT Y Y H) ?_
 rintro _ _ ⟨b_3, _, rfl, rfl, _, H⟩
 refine AtL.nil ?_
 replace H := H.self
 refine tg ?_
 refine AtC.joinSeq (β := Nat) (fun (t0 : Bool × Sl × Sl × Bool × Sl × Sl) (bb : Nat) => [(9, Value.pointer (some ⟨bb, 0, none⟩))]) (fun (t0 : Bool × Sl × Sl × Bool × Sl × Sl) (bb : Nat) => [(bb, [Value.bool t0.1, Sl.toV t0.2.1, Sl.toV t0.2.2.1, Value.bool t0.2.2.2.1, Sl.toV t0.2.2.2.2.1, Sl.toV t0.2.2.2.2.2])]) [0, 8] [0] H Y Y (fun t0 bb h0u1 H => ?_) (fun J1 H HK1 => ?_)
 refine AtC.seq (sR (pu hT 1 Y (AtL.e Y (cl (fun h => nat_Bench_Over _ h _) H Y Tryz.call30 Y (fun w m hr hw => lift_nat_Bench_Over _ w m hr _ hw)) ?_)))
 rintro _ _ ⟨v_5, h0u13, rfl, rfl, H⟩
 refine ng ?_
 refine AtC.condB H Y (fun H => ?_) (fun H => ?_)
 refine sR (AtL.q Y (Quiet1.build (cs := [_, _, _, _, _, _]) hT Y Y Y Y Y Y) (AtL.e Y (EffX.storeSP (i := 1) (qv := [(_, [_, _, _, _, _, _]), (_, [_, _, _, _, _, _])]) hT Y Y Y Y Y Y Y Y Y Y) ?_))
 rintro _ _ rfl
 refine ng (AtC.ret (AtE.then_r ?_))
 exact AtE.retN (rs := [.cell 8 44]) Y (ResAll.cons (ResAt.cellSP (i := 1) (l := [_, _, _, _, _, _]) hT Y Y Y Y Y Y Y) ResAll.nil) Y H
 refine AtC.skip (tg (sR (AtL.q Y (lS hT 0 [_, _, _, _, _, _] Y Y Y Y Y Y Y Y) (AtL.e Y (EffX.storeSP (i := 1) (qv := [(_, [_, _, _, _, _, _]), (_, [_, _, _, _, _, _])]) hT Y Y Y Y Y Y Y Y Y Y) ?_))))
 rintro _ _ rfl
 refine ng (AtC.ret ?_)
 exact AtE.retN (rs := [.cell 8 44]) Y (ResAll.cons (ResAt.cellSP (i := 1) (l := [_, _, _, _, _, _]) hT Y Y Y Y Y Y Y) ResAll.nil) Y H
 apply AtC.stages [6, 13, 15, 16] [[], [], [], [], [], [], [], [], [], [], [], [], [], [6], [6, 13], [], [6, 13, 15]] [[], [], [], [2], [], [4], [0, 1, 2, 3, 4, 5], [], [], [], [9], [], [11], [0, 1, 2, 3, 4, 5, 6, 7, 8, 9, 10, 11, 12], [0, 1, 2, 3, 4, 5, 6, 7, 8, 9, 10, 11, 12, 13], [], [0, 1, 2, 3, 4, 5, 6, 7, 8, 9, 10, 11, 12, 13, 14, 15]] hmix (by kernel_rfl) [(10, _), (11, _), (12, _), (13, _), (14, _), (15, _), (17, _), (18, _), (19, _), (20, _), (21, _), (22, _)] Y 4 Y
 refine Stg.go [0, 1, 2, 3, 4, 5, 7, 8, 9, 10, 11, 12] [6, 15] Y Y (qp hT Y (qp hT Y (qp hT Y (qq Y (lS hT 2 [_, _, _] Y Y Y Y Y Y Y Y) Y (qp hT Y (qq Y (lS hT 1 [_, _, _] Y Y Y Y Y Y Y Y) Y (qp hT Y (qp hT Y (qp hT Y (qq Y (lS hT 2 [_, _, _] Y Y Y Y Y Y Y Y) Y (qp hT Y (qq Y (lS hT 1 [_, _, _] Y Y Y Y Y Y Y Y) Y QAll.nil)))))))))))) ?_
 refine EAll.cons ?_ ?_
 replace H := H.self
 refine EOp.e Y Y Y (EffX.callF (bs := []) (cs := []) (f := 135) (sh := fun h => ratio_Mul _ _ _ h _) (H0 := H) Y Y Tryz.call135 Y (hl := fun w m hr hw => lift_ratio_Mul _ _ _ w m hr _ hw)) ?_
 rintro _ _ ⟨v, h0u3, rfl, rfl, H⟩
 apply Stg.next [(16, _)] Y Y
 refine Stg.go [7, 8, 9, 10, 11, 12] [13, 15] Y Y (qp hT Y (qp hT Y (qp hT Y (qq Y (lS hT 2 [_, _, _] Y Y Y Y Y Y Y Y) Y (qp hT Y (qq Y (lS hT 1 [_, _, _] Y Y Y Y Y Y Y Y) Y QAll.nil)))))) ?_
 refine EAll.cons ?_ ?_
 replace H := H.self
 refine EOp.e Y Y Y (EffX.callF (bs := []) (cs := []) (f := 135) (sh := fun h => ratio_Mul _ _ _ h _) (H0 := H) Y Y Tryz.call135 Y (hl := fun w m hr hw => lift_ratio_Mul _ _ _ w m hr _ hw)) ?_
 rintro _ _ ⟨v_1, h0u5, rfl, rfl, H⟩
 apply Stg.next [(23, _), (24, _)] Y Y
 refine Stg.go [14] [15] Y Y (qq Y (Quiet1.build (cs := [_, _, _, _, _, _]) hT Y Y Y Y Y Y) Y QAll.nil) ?_
 refine EAll.cons ?_ EAll.nil
 refine EOp.e Y Y Y (EffX.allocP (cs := [_, _, _, _, _, _]) hT Y Y H) ?_
 rintro _ _ ⟨b_4, _, rfl, rfl, he1, H⟩
 apply Stg.next [(9, _)] Y Y
 refine Stg.go [14] [16] Y Y (qq Y (Quiet1.build (cs := [_, _, _, _, _, _]) hT Y Y Y Y Y Y) Y QAll.nil) ?_
 refine EAll.cons ?_ EAll.nil
 refine EOp.e Y Y Y (EffX.storeSP (i := 0) (qv := [(_, [_, _, _, _, _, _]), (_, [_, _, _, _, _, _]), (_, [_, _, _, _, _, _]), (_, [_, _, _, _, _, _])]) hT Y Y Y Y Y Y Y Y Y Y) ?_
 rintro _ _ rfl
 apply Stg.next [] Y Y
 refine Stg.fin [] Y Y QAll.nil ?_
 replace H := H.self
 exact AtE.then_n ((HK1 _ b_4 _ H).pickP (ts := [9, 0, 8]) (is := [0, 1]) Y Y (by decide) Y)
 refine EAll.cons ?_ EAll.nil
 refine EOp.e Y Y Y (EffX.allocP (cs := [_, _, _, _, _, _]) hT Y Y H) ?_
 rintro _ _ ⟨b_5, _, rfl, rfl, he2, H⟩
 apply Stg.next [(9, _)] Y Y
 refine Stg.go [7, 8, 9, 10, 11, 12] [13] Y Y (qp hT Y (qp hT Y (qp hT Y (qq Y (lS hT 3 [_, _, _] Y Y Y Y Y Y Y Y) Y (qp hT Y (qq Y (lS hT 2 [_, _, _] Y Y Y Y Y Y Y Y) Y QAll.nil)))))) ?_
 refine EAll.cons ?_ EAll.nil
 replace H := H.self
 refine EOp.e Y Y Y (EffX.callF (bs := []) (cs := []) (f := 135) (sh := fun h => ratio_Mul _ _ _ h _) (H0 := H) Y Y Tryz.call135 Y (hl := fun w m hr hw => lift_ratio_Mul _ _ _ w m hr _ hw)) ?_
 rintro _ _ ⟨v_2, h0u7, rfl, rfl, H⟩
 apply Stg.next [(23, _), (24, _)] Y Y
 refine Stg.go [14] [16] Y Y (qq Y (Quiet1.build (cs := [_, _, _, _, _, _]) hT Y Y Y Y Y Y) Y QAll.nil) ?_
 refine EAll.cons ?_ EAll.nil
 refine EOp.e Y Y Y (EffX.storeSP (i := 0) (qv := [(_, [_, _, _, _, _, _]), (_, [_, _, _, _, _, _]), (_, [_, _, _, _, _, _]), (_, [_, _, _, _, _, _])]) hT Y Y Y Y Y Y Y Y Y Y) ?_
 rintro _ _ rfl
 apply Stg.next [] Y Y
 refine Stg.fin [] Y Y QAll.nil ?_
 replace H := H.self
 exact AtE.then_n ((HK1 _ b_5 _ H).pickP (ts := [9, 0, 8]) (is := [0, 1]) Y Y (by decide) Y)
 refine EAll.cons ?_ EAll.nil
 refine EOp.e Y Y Y (EffX.allocP (cs := [_, _, _, _, _, _]) hT Y Y H) ?_
 rintro _ _ ⟨b_6, _, rfl, rfl, he3, H⟩
 apply Stg.next [(9, _)] Y Y
 refine Stg.go [0, 1, 2, 3, 4, 5, 7, 8, 9, 10, 11, 12] [6] Y Y (qp hT Y (qp hT Y (qp hT Y (qq Y (lS hT 3 [_, _, _] Y Y Y Y Y Y Y Y) Y (qp hT Y (qq Y (lS hT 2 [_, _, _] Y Y Y Y Y Y Y Y) Y (qp hT Y (qp hT Y (qp hT Y (qq Y (lS hT 3 [_, _, _] Y Y Y Y Y Y Y Y) Y (qp hT Y (qq Y (lS hT 2 [_, _, _] Y Y Y Y Y Y Y Y) Y QAll.nil)))))))))))) ?_
 refine EAll.cons ?_ EAll.nil
 replace H := H.self
 refine EOp.e Y Y Y (EffX.callF (bs := []) (cs := []) (f := 135) (sh := fun h => ratio_Mul _ _ _ h _) (H0 := H) Y Y Tryz.call135 Y (hl := fun w m hr hw => lift_ratio_Mul _ _ _ w m hr _ hw)) ?_
 rintro _ _ ⟨v_3, h0u9, rfl, rfl, H⟩
 apply Stg.next [(16, _)] Y Y
 refine Stg.go [7, 8, 9, 10, 11, 12] [13] Y Y (qp hT Y (qp hT Y (qp hT Y (qq Y (lS hT 3 [_, _, _] Y Y Y Y Y Y Y Y) Y (qp hT Y (qq Y (lS hT 2 [_, _, _] Y Y Y Y Y Y Y Y) Y QAll.nil)))))) ?_
 refine EAll.cons ?_ EAll.nil
 replace H := H.self
 refine EOp.e Y Y Y (EffX.callF (bs := []) (cs := []) (f := 135) (sh := fun h => ratio_Mul _ _ _ h _) (H0 := H) Y Y Tryz.call135 Y (hl := fun w m hr hw => lift_ratio_Mul _ _ _ w m hr _ hw)) ?_
 rintro _ _ ⟨v_4, h0u11, rfl, rfl, H⟩
 apply Stg.next [(23, _), (24, _)] Y Y
 refine Stg.go [14] [16] Y Y (qq Y (Quiet1.build (cs := [_, _, _, _, _, _]) hT Y Y Y Y Y Y) Y QAll.nil) ?_
 refine EAll.cons ?_ EAll.nil
 refine EOp.e Y Y Y (EffX.storeSP (i := 0) (qv := [(_, [_, _, _, _, _, _]), (_, [_, _, _, _, _, _]), (_, [_, _, _, _, _, _]), (_, [_, _, _, _, _, _])]) hT Y Y Y Y Y Y Y Y Y Y) ?_
 rintro _ _ rfl
 apply Stg.next [] Y Y
 refine Stg.fin [] Y Y QAll.nil ?_
 replace H := H.self
 exact AtE.then_n ((HK1 _ b_6 _ H).pickP (ts := [9, 0, 8]) (is := [0, 1]) Y Y (by decide) Y)
theorem lift_delta_Scale (b : (Option Addr)) (k : Bool × Sl × Sl) (x0 : Bool × Sl × Sl × Bool × Sl × Sl) (w : World) (m : Heap) (hr : Rel ⟨m, []⟩ w.heap) (S : (Bool × Sl × Sl × Bool × Sl × Sl) → Heap → Prop) (H : delta_Scale b k x0 m S) :
 Calls Tryz.prog 81 #[Value.pointer b, Value.agg (C_bool_sl_sl k).toArray, Value.agg (C_bool_sl_sl_bool_sl_sl x0).toArray] w (Post ⟨w, m⟩ (fun r => Value.agg (C_bool_sl_sl_bool_sl_sl r).toArray) S) := by
 refine Calls.lift (args := [Value.pointer b, Value.agg (C_bool_sl_sl k).toArray, Value.agg (C_bool_sl_sl_bool_sl_sl x0).toArray]) Tryz.func81 Y Tryz.ntmps81 (Nat.le_of_ble_eq_true Y) hr (delta_Scale b k x0 m S) H (fun H => ?_)
 refine AtC.pick (ts := [0, 1, 2]) Y ?_
 unfold delta_Scale at H
 refine sR (AtL.e Y (EffX.boxP (cs := [_, _, _]) Y Y Y H) ?_)
 rintro _ _ ⟨b_1, _, rfl, rfl, _, H⟩
 refine AtL.e Y (EffX.boxP (cs := [_, _, _, _, _, _]) Y Y Y H) ?_
 rintro _ _ ⟨b_2, _, rfl, rfl, _, H⟩
 refine AtL.e Y (EffX.allocP (cs := [_, _, _, _, _, _]) hT Y Y H) ?_
 rintro _ _ ⟨b_3, _, rfl, rfl, _, H⟩
 refine AtL.nil ?_
 replace H := H.self
 refine tg (sR (pu hT 1 Y (AtL.q Y (lS hT 2 [_, _, _] Y Y Y Y Y Y Y Y) (AtL.q Y (lS hT 2 [_, _, _] Y Y Y Y Y Y Y Y) (AtL.q Y (Quiet1.build (cs := [_, _, _, _, _, _]) hT Y Y Y Y Y Y) ?_)))))
 refine AtL.q Y (lS hT 1 [_, _, _, _, _, _] Y Y Y Y Y Y Y Y) (AtL.e Y (cl (fun h => delta_both__ratio_Mul _ _ _ h _) H Y Tryz.call130 Y (fun w m hr hw => lift_delta_both__ratio_Mul _ _ _ w m hr _ hw)) ?_)
 rintro _ _ ⟨v, h0u1, rfl, rfl, H⟩
 refine AtL.e Y (EffX.storeSP (i := 0) (qv := [(_, [_, _, _, _, _, _]), (_, [_, _, _, _, _, _]), (_, [_, _, _])]) hT Y Y Y Y Y Y Y Y Y Y) ?_
 rintro _ _ rfl
 refine ng (AtC.ret ?_)
 exact AtE.retN (rs := [.cell 6 44]) Y (ResAll.cons (ResAt.cellSP (i := 0) (l := [_, _, _, _, _, _]) hT Y Y Y Y Y Y Y) ResAll.nil) Y H
theorem lift_farkas_bounded (b : (Option Addr)) (p : Int × Int × Sl × Sl × Sl × Sl × Sl) (a : Int × Int × Int × Bool × Sl × Sl × Bool × Sl × Sl) (lit : Int) (w : World) (m : Heap) (hr : Rel ⟨m, []⟩ w.heap) (S : (Bool × Sl × Sl × Sl × Bool × Sl × Sl × Bool × Sl × Sl) → Heap → Prop) (H : farkas_bounded b p a lit m S) :
 Calls Tryz.prog 45 #[Value.pointer b, Value.agg (C_i64ui64usl_sl_sl_sl_sl p).toArray, Value.agg (C_i64ui64ui64ubool_sl_sl_bool_sl_sl a).toArray, Value.int .i64 lit] w (Post ⟨w, m⟩ (fun r => Value.agg (C_bool_sl_sl_sl_bool_sl_sl_bool_sl_sl r).toArray) S) := by
 refine Calls.lift (args := [Value.pointer b, Value.agg (C_i64ui64usl_sl_sl_sl_sl p).toArray, Value.agg (C_i64ui64ui64ubool_sl_sl_bool_sl_sl a).toArray, Value.int .i64 lit]) Tryz.func45 Y Tryz.ntmps45 (Nat.le_of_ble_eq_true Y) hr (farkas_bounded b p a lit m S) H (fun H => ?_)
 refine AtC.pick (ts := [0, 1, 2, 3]) Y ?_
 unfold farkas_bounded at H
 refine sR (AtL.e Y (EffX.boxP (cs := [_, _, _, _, _, _, _]) Y Y Y H) ?_)
 rintro _ _ ⟨b_1, _, rfl, rfl, _, H⟩
 refine AtL.e Y (EffX.boxP (cs := [_, _, _, _, _, _, _, _, _]) Y Y Y H) ?_
 rintro _ _ ⟨b_2, _, rfl, rfl, _, H⟩
 refine AtL.e Y (EffX.allocP (cs := [_, _, _, _, _, _, _, _, _, _]) hT Y Y H) ?_
 rintro _ _ ⟨b_3, _, rfl, rfl, _, H⟩
 refine AtL.nil ?_
 replace H := H.self
 refine tg ?_
 refine AtC.joinSeq (β := Nat) (fun (t0 : Bool × Sl × Sl × Sl × Bool × Sl × Sl × Bool × Sl × Sl) (bb : Nat) => [(9, Value.pointer (some ⟨bb, 0, none⟩))]) (fun (t0 : Bool × Sl × Sl × Sl × Bool × Sl × Sl × Bool × Sl × Sl) (bb : Nat) => [(bb, [Value.bool t0.1, Sl.toV t0.2.1, Sl.toV t0.2.2.1, Sl.toV t0.2.2.2.1, Value.bool t0.2.2.2.2.1, Sl.toV t0.2.2.2.2.2.1, Sl.toV t0.2.2.2.2.2.2.1, Value.bool t0.2.2.2.2.2.2.2.1, Sl.toV t0.2.2.2.2.2.2.2.2.1, Sl.toV t0.2.2.2.2.2.2.2.2.2])]) [0, 3, 5, 6, 8] [0, 1, 2] H Y Y (fun t0 bb h0u1 H => ?_) (fun J1 H HK1 => ?_)
 refine AtC.joinSeq (β := Unit) (fun (t0u1 : Bool × Sl × Sl × Sl × Bool × Sl × Sl × Bool × Sl × Sl) (bb_1 : Unit) => []) (fun (t0u1 : Bool × Sl × Sl × Sl × Bool × Sl × Sl × Bool × Sl × Sl) (bb_1 : Unit) => [(bb, [Value.bool t0u1.1, Sl.toV t0u1.2.1, Sl.toV t0u1.2.2.1, Sl.toV t0u1.2.2.2.1, Value.bool t0u1.2.2.2.2.1, Sl.toV t0u1.2.2.2.2.2.1, Sl.toV t0u1.2.2.2.2.2.2.1, Value.bool t0u1.2.2.2.2.2.2.2.1, Sl.toV t0u1.2.2.2.2.2.2.2.2.1, Sl.toV t0u1.2.2.2.2.2.2.2.2.2])]) [0, 3, 6, 8, 9] [1, 2] H Y Y (fun t0u1 bb_1 h0u7 H => ?_) (fun J4 H HK4 => ?_)
 refine AtC.seq (sR (pu hT 2 Y (ng ?_)))
 refine AtC.condB H Y (fun H => ?_) (fun H => ?_)
 refine sR (AtL.q Y (lS hT 0 [_, _, _, _, _, _, _, _, _, _] Y Y Y Y Y Y Y Y) (AtL.e Y (EffX.storeSP (i := 1) (qv := [(_, [_, _, _, _, _, _, _, _, _, _]), (_, [_, _, _, _, _, _, _, _, _, _]), (_, [_, _, _, _, _, _, _, _, _])]) hT Y Y Y Y Y Y Y Y Y Y) ?_))
 rintro _ _ rfl
 refine ng (AtC.ret (AtE.then_r ?_))
 exact AtE.retN (rs := [.cell 8 94]) Y (ResAll.cons (ResAt.cellSP (i := 1) (l := [_, _, _, _, _, _, _, _, _, _]) hT Y Y Y Y Y Y Y) ResAll.nil) Y H
 refine AtC.skip (tg ?_)
 refine AtC.joinSeq (β := Nat) (fun (t0u2 : Bool × Sl × Sl × Bool × Sl × Sl) (bb_2 : Nat) => [(10, Value.pointer (some ⟨bb_2, 0, none⟩))]) (fun (t0u2 : Bool × Sl × Sl × Bool × Sl × Sl) (bb_2 : Nat) => [(bb_2, [Value.bool t0u2.1, Sl.toV t0u2.2.1, Sl.toV t0u2.2.2.1, Value.bool t0u2.2.2.2.1, Sl.toV t0u2.2.2.2.2.1, Sl.toV t0u2.2.2.2.2.2])]) [0, 8, 9] [0, 1] H Y Y (fun t0u2 bb_2 h0u8 H => ?_) (fun J7 H HK7 => ?_)
 apply AtC.seqS [1, 4, 6, 8, 10] [[], [], [], [], [1], [], [1, 4], [], [1, 4, 6], [1, 4, 6, 8], [1, 4, 6, 8]] [[], [], [], [2], [0, 1, 2, 3], [], [0, 1, 2, 3, 4], [], [0, 1, 2, 3, 4, 5, 6, 7], [0, 1, 2, 3, 4, 5, 6, 7, 8], [0, 1, 2, 3, 4, 5, 6, 7, 8, 9]] hmix (by kernel_rfl) [(36, _), (38, _), (39, _), (41, _), (43, _)] Y 5 Y
 refine Stg.go [0, 2, 3, 5, 7] [1] Y Y (qp hT Y (qp hT Y (qq Y (lS hT 1 [_, _, _, _] Y Y Y Y Y Y Y Y) Y (qp hT Y (qq Y (lS hT 0 [_, _, _, _, _, _] Y Y Y Y Y Y Y Y) Y QAll.nil))))) ?_
 refine EAll.cons ?_ EAll.nil
 refine EOp.e Y Y Y (cl (fun h => ratio_Of _ h _) H Y Tryz.call12 Y (fun w m hr hw => lift_ratio_Of _ w m hr _ hw)) ?_
 rintro _ _ ⟨v_8, h0u20, rfl, rfl, H⟩
 apply Stg.next [(37, _)] Y Y
 refine Stg.go [0, 2, 3, 5, 7] [4] Y Y (qp hT Y (qp hT Y (qq Y (lS hT 1 [_, _, _, _] Y Y Y Y Y Y Y Y) Y (qp hT Y (qq Y (lS hT 0 [_, _, _, _, _, _] Y Y Y Y Y Y Y Y) Y QAll.nil))))) ?_
 refine EAll.cons ?_ EAll.nil
 refine EOp.e Y Y Y (cl (fun h => linear_Scale _ _ _ h _) H Y Tryz.call85 Y (fun w m hr hw => lift_linear_Scale _ _ _ w m hr _ hw)) ?_
 rintro _ _ ⟨v_9, h0u21, rfl, rfl, H⟩
 apply Stg.next [(40, _)] Y Y
 refine Stg.go [5, 7] [6] Y Y (qp hT Y (qq Y (lS hT 0 [_, _, _, _, _, _] Y Y Y Y Y Y Y Y) Y QAll.nil)) ?_
 refine EAll.cons ?_ EAll.nil
 refine EOp.e Y Y Y (cl (fun h => ratio_Of _ h _) H Y Tryz.call12 Y (fun w m hr hw => lift_ratio_Of _ w m hr _ hw)) ?_
 rintro _ _ ⟨v_10, h0u22, rfl, rfl, H⟩
 apply Stg.next [(42, _)] Y Y
 refine Stg.go [5, 7] [8] Y Y (qp hT Y (qq Y (lS hT 0 [_, _, _, _, _, _] Y Y Y Y Y Y Y Y) Y QAll.nil)) ?_
 refine EAll.cons ?_ EAll.nil
 refine EOp.e Y Y Y (cl (fun h => delta_Scale _ _ _ h _) H Y Tryz.call81 Y (fun w m hr hw => lift_delta_Scale _ _ _ w m hr _ hw)) ?_
 rintro _ _ ⟨v_11, h0u23, rfl, rfl, H⟩
 apply Stg.next [(44, _), (45, _)] Y Y
 refine Stg.go [9] [10] Y Y (qq Y (Quiet1.build (cs := [Value.bool v_9.1, Sl.toV v_9.2.1, Sl.toV v_9.2.2.1, Sl.toV v_9.2.2.2, Value.bool v_11.1, Sl.toV v_11.2.1, Sl.toV v_11.2.2.1, Value.bool v_11.2.2.2.1, Sl.toV v_11.2.2.2.2.1, Sl.toV v_11.2.2.2.2.2]) hT Y Y Y Y Y (by kernel_rfl)) Y QAll.nil) ?_
 refine EAll.cons ?_ EAll.nil
 refine EOp.e Y Y Y (EffX.storeSP (i := 2) (qv := [(_, [_, _, _, _, _, _]), (_, [_, _, _, _, _, _, _, _, _, _]), (_, [_, _, _, _, _, _, _, _, _, _])]) hT Y Y Y Y Y Y Y Y Y Y) ?_
 rintro _ _ rfl
 apply Stg.next [] Y Y
 refine Stg.fin [] Y Y QAll.nil (tg (AtC.ret ?_))
 exact AtE.retN (rs := [.cell 8 94]) Y (ResAll.cons (ResAt.cellSP (i := 2) (l := [_, _, _, _, _, _, _, _, _, _]) hT Y Y Y Y Y Y Y) ResAll.nil) Y H
 apply AtC.stages [3, 5, 6, 7] [[], [], [], [], [3], [3], [], [3, 5, 6]] [[], [], [1], [], [3], [0, 1, 2, 3, 4], [], [0, 1, 2, 3, 4, 5, 6]] hmix (by kernel_rfl) [(30, _), (31, _), (32, _)] Y 4 Y
 refine Stg.go [0, 1, 2] [3, 6] Y Y (qp hT Y (qp hT Y (qq Y (lS hT 2 [_, _, _, _, _, _] Y Y Y Y Y Y Y Y) Y QAll.nil))) ?_
 refine EAll.cons ?_ ?_
 replace H := H.self
 refine EOp.e Y Y Y (cl (fun h => ratio_Of _ h _) H Y Tryz.call12 Y (fun w m hr hw => lift_ratio_Of _ w m hr _ hw)) ?_
 rintro _ _ ⟨v_3, h0u10, rfl, rfl, H⟩
 apply Stg.next [(33, _), (34, _)] Y Y
 refine Stg.go [0, 1, 2, 4] [5, 6] Y Y (qp hT Y (qp hT Y (qq Y (lS hT 2 [_, _, _, _, _, _] Y Y Y Y Y Y Y Y) Y (qq Y (Quiet1.build (cs := [_, _, _, _, _, _]) hT Y Y Y Y Y Y) Y QAll.nil)))) ?_
 refine EAll.cons ?_ ?_
 replace H := H.self
 refine EOp.e Y Y Y (cl (fun h => delta_Add _ _ _ h _) H Y Tryz.call80 Y (fun w m hr hw => lift_delta_Add _ _ _ w m hr _ hw)) ?_
 rintro _ _ ⟨v_4, h0u12, rfl, rfl, H⟩
 apply Stg.next [(35, _)] Y Y
 refine Stg.go [] [6] Y Y QAll.nil ?_
 refine EAll.cons ?_ EAll.nil
 refine EOp.e Y Y Y (EffX.allocP (cs := [_, _, _, _, _, _]) hT Y Y H) ?_
 rintro _ _ ⟨b_6, _, rfl, rfl, he7, H⟩
 apply Stg.next [(10, _)] Y Y
 refine Stg.go [] [7] Y Y QAll.nil ?_
 refine EAll.cons ?_ EAll.nil
 refine EOp.e Y Y Y (EffX.storeSP (i := 0) (qv := [(_, [_, _, _, _, _, _]), (_, [_, _, _, _, _, _, _, _, _, _]), (_, [_, _, _, _, _, _, _, _, _, _]), (_, [_, _, _, _, _, _, _, _, _])]) hT Y Y Y Y Y Y Y Y Y Y) ?_
 rintro _ _ rfl
 apply Stg.next [] Y Y
 refine Stg.fin [] Y Y QAll.nil ?_
 replace H := H.self
 exact AtE.then_n ((HK7 _ b_6 _ H).pickP (ts := [10, 0, 8, 9]) (is := [0, 1, 2]) Y Y (by decide) Y)
 refine EAll.cons ?_ EAll.nil
 refine EOp.e Y Y Y (EffX.allocP (cs := [_, _, _, _, _, _]) hT Y Y H) ?_
 rintro _ _ ⟨b_7, _, rfl, rfl, he8, H⟩
 apply Stg.next [(10, _)] Y Y
 refine Stg.go [0, 1, 2, 4] [5] Y Y (qp hT Y (qp hT Y (qq Y (lS hT 3 [_, _, _, _, _, _] Y Y Y Y Y Y Y Y) Y (qq Y (Quiet1.build (cs := [_, _, _, _, _, _]) hT Y Y Y Y Y Y) Y QAll.nil)))) ?_
 refine EAll.cons ?_ EAll.nil
 replace H := H.self
 refine EOp.e Y Y Y (cl (fun h => delta_Add _ _ _ h _) H Y Tryz.call80 Y (fun w m hr hw => lift_delta_Add _ _ _ w m hr _ hw)) ?_
 rintro _ _ ⟨v_5, h0u14, rfl, rfl, H⟩
 apply Stg.next [(35, _)] Y Y
 refine Stg.go [] [7] Y Y QAll.nil ?_
 refine EAll.cons ?_ EAll.nil
 refine EOp.e Y Y Y (EffX.storeSP (i := 0) (qv := [(_, [_, _, _, _, _, _]), (_, [_, _, _, _, _, _, _, _, _, _]), (_, [_, _, _, _, _, _, _, _, _, _]), (_, [_, _, _, _, _, _, _, _, _])]) hT Y Y Y Y Y Y Y Y Y Y) ?_
 rintro _ _ rfl
 apply Stg.next [] Y Y
 refine Stg.fin [] Y Y QAll.nil ?_
 replace H := H.self
 exact AtE.then_n ((HK7 _ b_7 _ H).pickP (ts := [10, 0, 8, 9]) (is := [0, 1, 2]) Y Y (by decide) Y)
 refine EAll.cons ?_ EAll.nil
 refine EOp.e Y Y Y (EffX.allocP (cs := [_, _, _, _, _, _]) hT Y Y H) ?_
 rintro _ _ ⟨b_8, _, rfl, rfl, he9, H⟩
 apply Stg.next [(10, _)] Y Y
 refine Stg.go [0, 1, 2] [3] Y Y (qp hT Y (qp hT Y (qq Y (lS hT 3 [_, _, _, _, _, _] Y Y Y Y Y Y Y Y) Y QAll.nil))) ?_
 refine EAll.cons ?_ EAll.nil
 replace H := H.self
 refine EOp.e Y Y Y (cl (fun h => ratio_Of _ h _) H Y Tryz.call12 Y (fun w m hr hw => lift_ratio_Of _ w m hr _ hw)) ?_
 rintro _ _ ⟨v_6, h0u16, rfl, rfl, H⟩
 apply Stg.next [(33, _), (34, _)] Y Y
 refine Stg.go [0, 1, 2, 4] [5] Y Y (qp hT Y (qp hT Y (qq Y (lS hT 3 [_, _, _, _, _, _] Y Y Y Y Y Y Y Y) Y (qq Y (Quiet1.build (cs := [_, _, _, _, _, _]) hT Y Y Y Y Y Y) Y QAll.nil)))) ?_
 refine EAll.cons ?_ EAll.nil
 replace H := H.self
 refine EOp.e Y Y Y (cl (fun h => delta_Add _ _ _ h _) H Y Tryz.call80 Y (fun w m hr hw => lift_delta_Add _ _ _ w m hr _ hw)) ?_
 rintro _ _ ⟨v_7, h0u18, rfl, rfl, H⟩
 apply Stg.next [(35, _)] Y Y
 refine Stg.go [] [7] Y Y QAll.nil ?_
 refine EAll.cons ?_ EAll.nil
 refine EOp.e Y Y Y (EffX.storeSP (i := 0) (qv := [(_, [_, _, _, _, _, _]), (_, [_, _, _, _, _, _, _, _, _, _]), (_, [_, _, _, _, _, _, _, _, _, _]), (_, [_, _, _, _, _, _, _, _, _])]) hT Y Y Y Y Y Y Y Y Y Y) ?_
 rintro _ _ rfl
 apply Stg.next [] Y Y
 refine Stg.fin [] Y Y QAll.nil ?_
 replace H := H.self
 exact AtE.then_n ((HK7 _ b_8 _ H).pickP (ts := [10, 0, 8, 9]) (is := [0, 1, 2]) Y Y (by decide) Y)
 refine sR (pu hT 1 Y (AtL.q Y (lP hT 2 Y) (pu hT 1 Y (ng ?_))))
 refine AtC.condB H Y (fun H => ?_) (fun H => ?_)
 refine AtC.region (pu hT 1 Y (AtL.q Y (lP hT 3 Y) (pu hT 1 Y (AtL.q Y (lP hT 2 Y) ?_))))
 obtain ⟨a_1_, hc4, hd4, H⟩ := H
 refine AtL.q Y (Quiet1.idxS hT Y Y Y Y Y hc4 hd4) ?_
 obtain ⟨v_2, hc5, H⟩ := H
 refine AtL.q Y (Quiet1.loadS hT Y Y Y Y hc5) (pu hT 1 Y (AtL.e Y (EffX.storeSP (i := 0) (qv := [(_, [_, _, _, _, _, _, _, _, _, _]), (_, [_, _, _, _, _, _, _, _, _, _]), (_, [_, _, _, _, _, _, _, _, _]), (_, [_, _, _, _, _, _, _])]) hT Y Y Y Y Y Y Y Y Y Y) ?_))
 rintro _ _ rfl
 refine AtL.nil ?_
 exact AtE.then_n ((HK4 _ () _ H).pickP (ts := [0, 3, 6, 8, 9]) (is := [0, 1, 2]) Y Y (by decide) Y)
 refine AtC.skip ?_
 exact AtE.then_n ((HK4 _ () _ H).pickP (ts := [0, 3, 6, 8, 9]) (is := [0, 1, 2]) Y Y (by decide) Y)
 apply AtC.stages [2, 6, 7] [[], [], [], [], [], [2], [], [2, 6]] [[], [0], [0, 1], [], [3], [0, 1, 2, 3, 4], [], [0, 1, 2, 3, 4, 5, 6]] hmix (by kernel_rfl) [(11, _), (12, _), (14, _), (15, _)] Y 3 Y
 refine Stg.go [0, 1, 3, 4] [2, 6] Y Y (qp hT Y (qq Y (lP hT 1 Y) Y (qp hT Y (qq Y (lS hT 1 [_, _, _, _, _, _] Y Y Y Y Y Y Y Y) Y QAll.nil)))) ?_
 refine EAll.cons ?_ ?_
 replace H := H.self
 refine EOp.e Y Y Y (cl (fun h => linear_Of _ h _) H Y Tryz.call86 Y (fun w m hr hw => lift_linear_Of _ w m hr _ hw)) ?_
 rintro _ _ ⟨v, h0u3, rfl, rfl, H⟩
 apply Stg.next [(13, _), (16, _)] Y Y
 refine Stg.go [3, 4, 5] [6] Y Y (qp hT Y (qq Y (lS hT 1 [_, _, _, _, _, _] Y Y Y Y Y Y Y Y) Y (qq Y (Quiet1.build (cs := [Value.bool v.1, Sl.toV v.2.1, Sl.toV v.2.2.1, Sl.toV v.2.2.2, Value.bool a.2.2.2.1, Sl.toV a.2.2.2.2.1, Sl.toV a.2.2.2.2.2.1, Value.bool a.2.2.2.2.2.2.1, Sl.toV a.2.2.2.2.2.2.2.1, Sl.toV a.2.2.2.2.2.2.2.2]) hT Y Y Y Y Y (by kernel_rfl)) Y QAll.nil))) ?_
 refine EAll.cons ?_ EAll.nil
 refine EOp.e Y Y Y (EffX.allocP (cs := [_, _, _, _, _, _, _, _, _, _]) hT Y Y H) ?_
 rintro _ _ ⟨b_4, _, rfl, rfl, he1, H⟩
 apply Stg.next [(9, _)] Y Y
 refine Stg.go [3, 4, 5] [7] Y Y (qp hT Y (qq Y (lS hT 2 [_, _, _, _, _, _] Y Y Y Y Y Y Y Y) Y (qq Y (Quiet1.build (cs := [Value.bool v.1, Sl.toV v.2.1, Sl.toV v.2.2.1, Sl.toV v.2.2.2, Value.bool a.2.2.2.1, Sl.toV a.2.2.2.2.1, Sl.toV a.2.2.2.2.2.1, Value.bool a.2.2.2.2.2.2.1, Sl.toV a.2.2.2.2.2.2.2.1, Sl.toV a.2.2.2.2.2.2.2.2]) hT Y Y Y Y Y (by kernel_rfl)) Y QAll.nil))) ?_
 refine EAll.cons ?_ EAll.nil
 refine EOp.e Y Y Y (EffX.storeSP (i := 0) (qv := [(_, [_, _, _, _, _, _, _, _, _, _]), (_, [_, _, _, _, _, _, _, _, _, _]), (_, [_, _, _, _, _, _, _, _, _]), (_, [_, _, _, _, _, _, _])]) hT Y Y Y Y Y Y Y Y Y Y) ?_
 rintro _ _ rfl
 apply Stg.next [] Y Y
 refine Stg.fin [] Y Y QAll.nil ?_
 replace H := H.self
 exact AtE.then_n ((HK1 _ b_4 _ H).pickP (ts := [9, 0, 3, 5, 6, 8]) (is := [0, 1, 2, 3]) Y Y (by decide) Y)
 refine EAll.cons ?_ EAll.nil
 refine EOp.e Y Y Y (EffX.allocP (cs := [_, _, _, _, _, _, _, _, _, _]) hT Y Y H) ?_
 rintro _ _ ⟨b_5, _, rfl, rfl, he2, H⟩
 apply Stg.next [(9, _)] Y Y
 refine Stg.go [0, 1, 3, 4] [2] Y Y (qp hT Y (qq Y (lP hT 2 Y) Y (qp hT Y (qq Y (lS hT 2 [_, _, _, _, _, _] Y Y Y Y Y Y Y Y) Y QAll.nil)))) ?_
 refine EAll.cons ?_ EAll.nil
 replace H := H.self
 refine EOp.e Y Y Y (cl (fun h => linear_Of _ h _) H Y Tryz.call86 Y (fun w m hr hw => lift_linear_Of _ w m hr _ hw)) ?_
 rintro _ _ ⟨v_1, h0u5, rfl, rfl, H⟩
 apply Stg.next [(13, _), (16, _)] Y Y
 refine Stg.go [3, 4, 5] [7] Y Y (qp hT Y (qq Y (lS hT 2 [_, _, _, _, _, _] Y Y Y Y Y Y Y Y) Y (qq Y (Quiet1.build (cs := [Value.bool v_1.1, Sl.toV v_1.2.1, Sl.toV v_1.2.2.1, Sl.toV v_1.2.2.2, Value.bool a.2.2.2.1, Sl.toV a.2.2.2.2.1, Sl.toV a.2.2.2.2.2.1, Value.bool a.2.2.2.2.2.2.1, Sl.toV a.2.2.2.2.2.2.2.1, Sl.toV a.2.2.2.2.2.2.2.2]) hT Y Y Y Y Y (by kernel_rfl)) Y QAll.nil))) ?_
 refine EAll.cons ?_ EAll.nil
 refine EOp.e Y Y Y (EffX.storeSP (i := 0) (qv := [(_, [_, _, _, _, _, _, _, _, _, _]), (_, [_, _, _, _, _, _, _, _, _, _]), (_, [_, _, _, _, _, _, _, _, _]), (_, [_, _, _, _, _, _, _])]) hT Y Y Y Y Y Y Y Y Y Y) ?_
 rintro _ _ rfl
 apply Stg.next [] Y Y
 refine Stg.fin [] Y Y QAll.nil ?_
 replace H := H.self
 exact AtE.then_n ((HK1 _ b_5 _ H).pickP (ts := [9, 0, 3, 5, 6, 8]) (is := [0, 1, 2, 3]) Y Y (by decide) Y)
theorem lift_linear_Add (b : (Option Addr)) (p : Bool × Sl × Sl × Sl) (k : Bool × Sl × Sl) (q : Bool × Sl × Sl × Sl) (w : World) (m : Heap) (hr : Rel ⟨m, []⟩ w.heap) (S : (Bool × Sl × Sl × Sl) → Heap → Prop) (H : linear_Add b p k q m S) :
 Calls Tryz.prog 84 #[Value.pointer b, Value.agg (C_bool_sl_sl_sl p).toArray, Value.agg (C_bool_sl_sl k).toArray, Value.agg (C_bool_sl_sl_sl q).toArray] w (Post ⟨w, m⟩ (fun r => Value.agg (C_bool_sl_sl_sl r).toArray) S) := by
 refine Calls.lift (args := [Value.pointer b, Value.agg (C_bool_sl_sl_sl p).toArray, Value.agg (C_bool_sl_sl k).toArray, Value.agg (C_bool_sl_sl_sl q).toArray]) Tryz.func84 Y Tryz.ntmps84 (Nat.le_of_ble_eq_true Y) hr (linear_Add b p k q m S) H (fun H => ?_)
 refine AtC.pick (ts := [0, 1, 2, 3]) Y ?_
 unfold linear_Add at H
 refine sR (AtL.e Y (EffX.boxP (cs := [_, _, _, _]) Y Y Y H) ?_)
 rintro _ _ ⟨b_1, _, rfl, rfl, _, H⟩
 refine AtL.e Y (EffX.boxP (cs := [_, _, _]) Y Y Y H) ?_
 rintro _ _ ⟨b_2, _, rfl, rfl, _, H⟩
 refine AtL.e Y (EffX.boxP (cs := [_, _, _, _]) Y Y Y H) ?_
 rintro _ _ ⟨b_3, _, rfl, rfl, _, H⟩
 refine AtL.e Y (EffX.allocP (cs := [_, _, _, _]) hT Y Y H) ?_
 rintro _ _ ⟨b_4, _, rfl, rfl, _, H⟩
 refine AtL.nil ?_
 replace H := H.self
 refine tg (sR (pu hT 1 Y (AtL.q Y (lS hT 2 [_, _, _] Y Y Y Y Y Y Y Y) (AtL.q Y (lS hT 1 [_, _, _, _] Y Y Y Y Y Y Y Y) (AtL.e Y (cl (fun h => linear_Scale _ _ _ h _) H Y Tryz.call85 Y (fun w m hr hw => lift_linear_Scale _ _ _ w m hr _ hw)) ?_)))))
 rintro _ _ ⟨v, h0u1, rfl, rfl, H⟩
 refine AtL.e Y (EffX.storeSP (i := 1) (qv := [(_, [_, _, _, _]), (_, [_, _, _, _]), (_, [_, _, _]), (_, [_, _, _, _])]) hT Y Y Y Y Y Y Y Y Y Y) ?_
 rintro _ _ rfl
 refine ng (sR (pu hT 2 Y (AtL.q Y (lS hT 3 [_, _, _] Y Y Y Y Y Y Y Y) (pu hT 1 Y (AtL.q Y (lS hT 1 [_, _, _] Y Y Y Y Y Y Y Y) ?_)))))
 refine AtL.e Y (cl (fun h => ratio_Add _ _ _ h _) H Y Tryz.call134 Y (fun w m hr hw => lift_ratio_Add _ _ _ w m hr _ hw)) ?_
 rintro _ _ ⟨v_1, h0u2, rfl, rfl, H⟩
 refine AtL.q Y (Quiet1.build (cs := [_, _, _, _]) hT Y Y Y Y Y Y) (AtL.e Y (EffX.allocP (cs := [_, _, _, _]) hT Y Y H) ?_)
 rintro _ _ ⟨b_5, _, rfl, rfl, _, H⟩
 replace H := H.self
 refine AtL.e Y (EffX.storeSP (i := 0) (qv := [(_, [_, _, _, _]), (_, [_, _, _, _]), (_, [_, _, _, _]), (_, [_, _, _]), (_, [_, _, _, _])]) hT Y Y Y Y Y Y Y Y Y Y) ?_
 rintro _ _ rfl
 refine ng (AtC.seqD hmix (by kernel_rfl) (AtD.pures hT 1 _ _ _ _ Y (AtD.q Y (lP hT 4 Y) (AtD.pures hT 1 _ _ _ _ Y (AtD.q Y (lP hT 2 Y) ?_)))))
 refine AtD.pures hT 2 _ _ _ _ Y (AtD.nil (tg (AtC.seq (AtC.block ?_))))
 refine AtC.loopM (fun (s0 : Sl × Sl × Bool × Sl × Sl × Sl) => [(10, Sl.toV s0.1), (11, Sl.toV s0.2.1)]) (fun (s0 : Sl × Sl × Bool × Sl × Sl × Sl) => [(b_5, [Value.bool s0.2.2.1, Sl.toV s0.2.2.2.1, Sl.toV s0.2.2.2.2.1, Sl.toV s0.2.2.2.2.2])]) [0, 8, 9] [10, 11, 0, 8, 9] [1] [0, 1] H Y Y Y (by decide) Y (fun Kp1 s0 h0u4 H Q1 HK1 => ?_)
 refine AtC.seq ?_
 refine AtC.joinSeq (β := Unit) (fun (t0 : Bool) (bb : Unit) => [(35, Value.bool t0)]) (fun (t0 : Bool) (bb : Unit) => []) [0, 8, 9, 10, 11] [0, 1] H Y Y (fun t0 bb h0u5 H => ?_) (fun J2 H HK2 => ?_)
 refine AtC.condB H Y (fun H => ?_) (fun H => ?_)
 refine AtC.skip (tg (AtC.block (sR (AtL.e Y (EffX.allocP (cs := [_, _, _, _]) hT Y Y H) ?_))))
 rintro _ _ ⟨b_6, _, rfl, rfl, _, H⟩
 refine AtL.nil ?_
 replace H := H.self
 refine tg ?_
 refine AtC.joinSeq (β := Unit) (fun (t0u1 : Sl × Sl × Int × Bool × Sl × Sl) (bb_1 : Unit) => [(10, Sl.toV t0u1.1), (11, Sl.toV t0u1.2.1)]) (fun (t0u1 : Sl × Sl × Int × Bool × Sl × Sl) (bb_1 : Unit) => [(b_6, [Value.int .i64 t0u1.2.2.1, Value.bool t0u1.2.2.2.1, Sl.toV t0u1.2.2.2.2.1, Sl.toV t0u1.2.2.2.2.2])]) [0, 8, 9, 12] [1, 2] H Y Y (fun t0u1 bb_1 h0u7 H => ?_) (fun J3 H HK3 => ?_)
 refine sR (pu hT 1 Y (AtL.q Y (lS hT 0 [_, _, _] Y Y Y Y Y Y Y Y) (AtL.e Y (cl (fun h => ratio_Sign _ h _) H Y Tryz.call43 Y (fun w m hr hw => lift_ratio_Sign _ w m hr _ hw)) ?_)))
 rintro _ _ ⟨v_16, h0u11, rfl, rfl, H⟩
 refine pu hT 1 Y (ng ?_)
 refine AtC.condB H Y (fun H => ?_) (fun H => ?_)
 refine AtC.region (pu hT 1 Y (AtL.q Y (lP hT 1 Y) (AtL.q Y (lS hT 0 [_, _, _, _] Y Y Y Y Y Y Y Y) ?_)))
 refine AtLX.bs (hT := hT) (cs := [_, _, _, _]) H Y Y Y Y Y Y Y Y Y (fun a_9 h0u12 H => ?_)
 refine AtL.e Y (EffX.appendS (s := _) (u := _) hT Y Y Y Y Y Y Y Y Y Y (by decide) H) ?_
 rintro _ _ ⟨v_18, h0u13, rfl, rfl, H⟩
 refine pu hT 1 Y (AtL.e Y (EffX.storeP (i := 1) (qv := [(_, [_, _, _, _]), (_, [_, _, _, _]), (_, [_, _, _, _])]) hT Y Y Y Y Y Y Y Y Y) ?_)
 rintro _ _ rfl
 refine AtL.nil (AtE.blk_n ?_)
 exact AtE.then_n ((HK1 _ _ H).pickP (ts := [10, 11, 0, 8, 9]) (is := [1, 2]) Y Y (by decide) Y)
 refine AtC.skip (AtE.blk_n ?_)
 exact AtE.then_n ((HK1 _ _ H).pickP (ts := [10, 11, 0, 8, 9]) (is := [1, 2]) Y Y (by decide) Y)
 refine AtC.block ?_
 refine AtC.joinSeq (β := Unit) (fun (t0u2 : Bool) (bb_2 : Unit) => [(55, Value.bool t0u2)]) (fun (t0u2 : Bool) (bb_2 : Unit) => []) [0, 8, 9, 10, 11, 12] [0, 1, 2] H Y Y (fun t0u2 bb_2 h0u8 H => ?_) (fun J4 H HK4 => ?_)
 refine AtC.condB H Y (fun H => ?_) (fun H => ?_)
 obtain ⟨a_2_, hc8, hd8, H⟩ := H
 obtain ⟨v_4, hc9, H⟩ := H
 obtain ⟨v_5, hs10, H⟩ := sliceOf.out H
 apply AtC.stages [5, 6] [[], [], [], [], [], [], [5]] [[], [0], [0, 1], [], [3], [0, 1, 2], [0, 1, 2, 3, 4, 5]] hmix (by kernel_rfl) [(75, _), (76, _), (77, _), (78, _), (79, _)] Y 2 Y
 refine Stg.go [0, 1, 2, 3, 4] [5] Y Y (qp hT Y (qq Y (Quiet1.idxS hT Y Y Y Y Y hc8 hd8) Y (qq Y (Quiet1.loadS hT Y Y Y Y hc9) Y (qp hT Y (qq Y (Quiet1.sliceIs hT Y Y Y Y Y Y Y (fun h => by cases h <;> rfl) hs10) Y QAll.nil))))) ?_
 refine EAll.cons ?_ EAll.nil
 refine EOp.e Y Y Y (EffX.storeSP (i := 0) (qv := [(_, [_, _, _, _]), (_, [_, _, _, _]), (_, [_, _, _, _])]) hT Y Y Y Y Y Y Y Y Y Y) ?_
 rintro _ _ rfl
 apply Stg.next [] Y Y
 refine Stg.go [3, 4] [6] Y Y (qp hT Y (qq Y (Quiet1.sliceIs hT Y Y Y Y Y Y Y (fun h => by cases h <;> rfl) hs10) Y QAll.nil)) ?_
 refine EAll.cons ?_ EAll.nil
 refine EOp.e Y Y Y (Eff.ofPure hT Y) ?_
 rintro _ _ ⟨rfl, rfl⟩
 apply Stg.next [(10, _)] Y Y
 refine Stg.fin [] Y Y QAll.nil (AtE.blk_n ?_)
 exact AtE.then_n ((HK3 _ () _ H).pickP (ts := [10, 11, 0, 8, 9, 12]) (is := [0, 1, 2]) Y Y (by decide) Y)
 refine AtC.joinSeq (β := Unit) (fun (t0u3 : Bool) (bb_3 : Unit) => [(80, Value.bool t0u3)]) (fun (t0u3 : Bool) (bb_3 : Unit) => []) [0, 8, 9, 10, 11, 12] [0, 1, 2] H Y Y (fun t0u3 bb_3 h0u9 H => ?_) (fun J12 H HK12 => ?_)
 refine AtC.condB H Y (fun H => ?_) (fun H => ?_)
 obtain ⟨a_5_, hc16, hd16, H⟩ := H
 obtain ⟨v_8, hc17, H⟩ := H
 obtain ⟨v_9, hs18, H⟩ := sliceOf.out H
 apply AtC.stages [5, 6] [[], [], [], [], [], [], [5]] [[], [0], [0, 1], [], [3], [0, 1, 2], [0, 1, 2, 3, 4, 5]] hmix (by kernel_rfl) [(95, _), (96, _), (97, _), (98, _), (99, _)] Y 2 Y
 refine Stg.go [0, 1, 2, 3, 4] [5] Y Y (qp hT Y (qq Y (Quiet1.idxS hT Y Y Y Y Y hc16 hd16) Y (qq Y (Quiet1.loadS hT Y Y Y Y hc17) Y (qp hT Y (qq Y (Quiet1.sliceIs hT Y Y Y Y Y Y Y (fun h => by cases h <;> rfl) hs18) Y QAll.nil))))) ?_
 refine EAll.cons ?_ EAll.nil
 refine EOp.e Y Y Y (EffX.storeSP (i := 0) (qv := [(_, [_, _, _, _]), (_, [_, _, _, _]), (_, [_, _, _, _])]) hT Y Y Y Y Y Y Y Y Y Y) ?_
 rintro _ _ rfl
 apply Stg.next [] Y Y
 refine Stg.go [3, 4] [6] Y Y (qp hT Y (qq Y (Quiet1.sliceIs hT Y Y Y Y Y Y Y (fun h => by cases h <;> rfl) hs18) Y QAll.nil)) ?_
 refine EAll.cons ?_ EAll.nil
 refine EOp.e Y Y Y (Eff.ofPure hT Y) ?_
 rintro _ _ ⟨rfl, rfl⟩
 apply Stg.next [(11, _)] Y Y
 refine Stg.fin [] Y Y QAll.nil (AtE.blk_n ?_)
 exact AtE.then_n ((HK3 _ () _ H).pickP (ts := [10, 11, 0, 8, 9, 12]) (is := [0, 1, 2]) Y Y (by decide) Y)
 obtain ⟨a_6_, hc19, hd19, H⟩ := H
 obtain ⟨v_10, hc20, H⟩ := H
 obtain ⟨a_7_, hc21, hd21, H⟩ := H
 obtain ⟨v_11, hc22, H⟩ := H
 obtain ⟨a_8_, hc23, hd23, H⟩ := H
 obtain ⟨v_12, hc24, H⟩ := H
 apply AtC.seqS [13, 15] [[], [], [], [], [], [], [], [], [], [], [], [], [], [], [13], [13]] [[], [0], [0, 1], [0, 1, 2], [], [], [5], [5, 6], [5, 6, 7], [], [9], [9, 10], [9, 10, 11], [4, 5, 6, 7, 8, 9, 10, 11, 12], [0, 1, 2, 3, 4, 5, 6, 7, 8, 9, 10, 11, 12, 13], [0, 1, 2, 3, 4, 5, 6, 7, 8, 9, 10, 11, 12, 13, 14]] hmix (by kernel_rfl) [(36, _), (37, _), (38, _), (39, _), (40, _), (41, _), (42, _), (43, _), (44, _), (45, _), (46, _), (47, _), (48, _)] Y 2 Y
 refine Stg.go [0, 1, 2, 3, 4, 5, 6, 7, 8, 9, 10, 11, 12] [13] Y Y (qp hT Y (qq Y (Quiet1.idxS hT Y Y Y Y Y hc19 hd19) Y (qp hT Y (qq Y (Quiet1.load hT Y Y Y hc20) Y (qp hT Y (qp hT Y (qq Y (Quiet1.idxS hT Y Y Y Y Y hc21 hd21) Y (qp hT Y (qq Y (Quiet1.loadS hT Y Y Y Y hc22) Y (qp hT Y (qq Y (Quiet1.idxS hT Y Y Y Y Y hc23 hd23) Y (qp hT Y (qq Y (Quiet1.loadS hT Y Y Y Y hc24) Y QAll.nil))))))))))))) ?_
 refine EAll.cons ?_ EAll.nil
 refine EOp.e Y Y Y (cl (fun h => ratio_Add _ _ _ h _) H Y Tryz.call134 Y (fun w m hr hw => lift_ratio_Add _ _ _ w m hr _ hw)) ?_
 rintro _ _ ⟨v_13, h0u10, rfl, rfl, H⟩
 obtain ⟨hc25, H⟩ := H
 apply Stg.next [(49, _), (50, _)] Y Y
 refine Stg.go [0, 1, 2, 3, 14] [15] Y Y (qp hT Y (qq Y (Quiet1.idxS hT Y Y Y Y Y hc19 hd19) Y (qp hT Y (qq Y (Quiet1.load hT Y Y Y hc25) Y (qq Y (Quiet1.build (cs := [_, _, _, _]) hT Y Y Y Y Y Y) Y QAll.nil))))) ?_
 refine EAll.cons ?_ EAll.nil
 refine EOp.e Y Y Y (EffX.storeSP (i := 0) (qv := [(_, [_, _, _, _]), (_, [_, _, _, _]), (_, [_, _, _, _])]) hT Y Y Y Y Y Y Y Y Y Y) ?_
 rintro _ _ rfl
 apply Stg.next [] Y Y
 refine Stg.fin [] Y Y QAll.nil (tg (AtC.draw hmix (by kernel_rfl) (AtD.pures hT 1 _ _ _ _ Y ?_)))
 refine AtD.sl (hT := hT) H Y Y Y Y Y Y Y (fun h => by cases h <;> rfl) Y (fun v_14 H => ?_)
 refine AtD.pures hT 1 _ _ _ _ Y ?_
 refine AtD.sl (hT := hT) H Y Y Y Y Y Y Y (fun h => by cases h <;> rfl) Y (fun v_15 H => ?_)
 refine AtD.pures hT 2 _ _ _ _ Y (AtD.nil (AtE.blk_n ?_))
 exact AtE.then_n ((HK3 _ () _ H).pickP (ts := [10, 11, 0, 8, 9, 12]) (is := [0, 1, 2]) Y Y (by decide) Y)
 refine AtC.draw hmix (by kernel_rfl) (AtD.pures hT 4 _ _ _ _ Y ?_)
 refine AtD.splitB (t := 84) H Y (fun H => ?_) (fun H => ?_)
 refine AtD.noF Y Y Y (by decide) Y (AtD.noF Y Y Y (by decide) Y (AtD.noF Y Y Y (by decide) Y (AtD.noF Y Y Y (by decide) Y (AtD.noF Y Y Y (by decide) Y (AtD.noF Y Y Y (by decide) Y ?_)))))
 refine AtD.noF Y Y Y (by decide) Y (AtD.noF Y Y Y (by decide) Y (AtD.noF Y Y Y (by decide) Y (AtD.pures hT 2 _ _ _ _ Y (AtD.nil ?_))))
 exact AtE.then_n ((HK12 _ () _ H).pickP (ts := [80, 0, 8, 9, 10, 11, 12]) (is := [0, 1, 2]) Y Y (by decide) Y)
 refine AtD.yes Y Y Y (AtD.pures hT 1 _ _ _ _ Y (AtD.yes Y Y Y ?_))
 obtain ⟨a_3_, hc12, hd12, H⟩ := H
 refine AtD.q Y (Quiet1.idxS hT Y Y Y Y Y hc12 hd12) (AtD.yes Y Y Y (AtD.pures hT 1 _ _ _ _ Y (AtD.yes Y Y Y ?_)))
 obtain ⟨v_6, hc13, H⟩ := H
 refine AtD.q Y (Quiet1.load hT Y Y Y hc13) (AtD.yes Y Y Y (AtD.pures hT 1 _ _ _ _ Y (AtD.yes Y Y Y ?_)))
 obtain ⟨a_4_, hc14, hd14, H⟩ := H
 refine AtD.q Y (Quiet1.idxS hT Y Y Y Y Y hc14 hd14) (AtD.yes Y Y Y (AtD.pures hT 1 _ _ _ _ Y (AtD.yes Y Y Y ?_)))
 obtain ⟨v_7, hc15, H⟩ := H
 refine AtD.q Y (Quiet1.load hT Y Y Y hc15) (AtD.yes Y Y Y (AtD.pures hT 1 _ _ _ _ Y (AtD.pures hT 2 _ _ _ _ Y (AtD.nil ?_))))
 exact AtE.then_n ((HK12 _ () _ H).pickP (ts := [80, 0, 8, 9, 10, 11, 12]) (is := [0, 1, 2]) Y Y (by decide) Y)
 refine AtC.draw hmix (by kernel_rfl) (AtD.pures hT 4 _ _ _ _ Y ?_)
 refine AtD.splitB (t := 59) H Y (fun H => ?_) (fun H => ?_)
 refine AtD.noF Y Y Y (by decide) Y (AtD.noF Y Y Y (by decide) Y (AtD.noF Y Y Y (by decide) Y (AtD.noF Y Y Y (by decide) Y (AtD.noU Y Y Y Y (AtD.noU Y Y Y Y ?_)))))
 refine AtD.noU Y Y Y Y (AtD.noU Y Y Y Y (AtD.noU Y Y Y Y (AtD.noU Y Y Y Y (AtD.noU Y Y Y Y (AtD.noU Y Y Y Y ?_)))))
 refine AtD.noU Y Y Y Y (AtD.noF Y Y Y (by decide) Y (AtD.pures hT 2 _ _ _ _ Y (AtD.nil ?_)))
 exact AtE.then_n ((HK4 _ () _ H).pickP (ts := [55, 0, 8, 9, 10, 11, 12]) (is := [0, 1, 2]) Y Y (by decide) Y)
 refine AtD.yes Y Y Y (AtD.pures hT 1 _ _ _ _ Y (AtD.yes Y Y Y (AtD.pures hT 1 _ _ _ _ Y (AtD.yes Y Y Y (AtD.pures hT 1 _ _ _ _ Y ?_)))))
 refine AtD.yes Y Y Y (AtD.pures hT 1 _ _ _ _ Y ?_)
 refine AtD.splitB (t := 63) H Y (fun H => ?_) (fun H => ?_)
 refine AtD.yes Y Y Y (AtD.pures hT 1 _ _ _ _ Y (AtD.yes Y Y Y ?_))
 obtain ⟨a_, hc4, hd4, H⟩ := H
 refine AtD.q Y (Quiet1.idxS hT Y Y Y Y Y hc4 hd4) (AtD.yes Y Y Y (AtD.pures hT 1 _ _ _ _ Y (AtD.yes Y Y Y ?_)))
 obtain ⟨v_2, hc5, H⟩ := H
 refine AtD.q Y (Quiet1.load hT Y Y Y hc5) (AtD.yes Y Y Y (AtD.pures hT 1 _ _ _ _ Y (AtD.yes Y Y Y ?_)))
 obtain ⟨a_1_, hc6, hd6, H⟩ := H
 refine AtD.q Y (Quiet1.idxS hT Y Y Y Y Y hc6 hd6) (AtD.yes Y Y Y (AtD.pures hT 1 _ _ _ _ Y (AtD.yes Y Y Y ?_)))
 obtain ⟨v_3, hc7, H⟩ := H
 refine AtD.q Y (Quiet1.load hT Y Y Y hc7) (AtD.yes Y Y Y (AtD.pures hT 1 _ _ _ _ Y (AtD.yes Y Y Y (AtD.pures hT 1 _ _ _ _ Y (AtD.pures hT 2 _ _ _ _ Y ?_)))))
 refine AtD.nil ?_
 exact AtE.then_n ((HK4 _ () _ H).pickP (ts := [55, 0, 8, 9, 10, 11, 12]) (is := [0, 1, 2]) Y Y (by decide) Y)
 refine AtD.noF Y Y Y (by decide) Y (AtD.noF Y Y Y (by decide) Y (AtD.noF Y Y Y (by decide) Y (AtD.noF Y Y Y (by decide) Y (AtD.noF Y Y Y (by decide) Y (AtD.noF Y Y Y (by decide) Y ?_)))))
 refine AtD.noF Y Y Y (by decide) Y (AtD.noF Y Y Y (by decide) Y (AtD.noF Y Y Y (by decide) Y (AtD.yes Y Y Y (AtD.pures hT 1 _ _ _ _ Y (AtD.pures hT 2 _ _ _ _ Y ?_)))))
 refine AtD.nil ?_
 exact AtE.then_n ((HK4 _ () _ H).pickP (ts := [55, 0, 8, 9, 10, 11, 12]) (is := [0, 1, 2]) Y Y (by decide) Y)
 refine AtC.exit (AtE.then_x (AtE.then_x (AtE.blk_hit (tg (sR ?_)))))
 refine pu hT 1 Y (AtL.q Y (lS hT 0 [_, _, _, _] Y Y Y Y Y Y Y Y) (AtL.e Y (cl (fun h => linear_kept _ _ h _) H Y Tryz.call139 Y (fun w m hr hw => lift_linear_kept _ _ w m hr _ hw)) ?_))
 rintro _ _ ⟨v_19, h0u14, rfl, rfl, H⟩
 refine AtL.e Y (EffX.storeSP (i := 1) (qv := [(_, [_, _, _, _]), (_, [_, _, _, _])]) hT Y Y Y Y Y Y Y Y Y Y) ?_
 rintro _ _ rfl
 refine ng (AtC.ret ?_)
 exact AtE.retN (rs := [.cell 8 52]) Y (ResAll.cons (ResAt.cellSP (i := 1) (l := [_, _, _, _]) hT Y Y Y Y Y Y Y) ResAll.nil) Y H
 refine AtC.region (pu hT 4 Y ?_)
 refine AtL.splitB (t := 31) H Y (fun H => ?_) (fun H => ?_)
 refine nf Y (nf Y (nf Y (pu hT 1 Y (AtL.nil ?_))))
 exact AtE.then_n ((HK2 _ () _ H).pickP (ts := [35, 0, 8, 9, 10, 11]) (is := [0, 1]) Y Y (by decide) Y)
 refine ys Y (pu hT 1 Y (ys Y (pu hT 1 Y (ys Y (pu hT 1 Y ?_)))))
 refine pu hT 1 Y (AtL.nil ?_)
 exact AtE.then_n ((HK2 _ () _ H).pickP (ts := [35, 0, 8, 9, 10, 11]) (is := [0, 1]) Y Y (by decide) Y)
theorem lift_farkas_claim_add (c : Bool × Sl × Sl × Sl × Bool × Sl × Sl × Bool × Sl × Sl) (b : (Option Addr)) (k : Bool × Sl × Sl) (d : Bool × Sl × Sl × Sl × Bool × Sl × Sl × Bool × Sl × Sl) (w : World) (m : Heap) (hr : Rel ⟨m, []⟩ w.heap) (S : (Bool × Sl × Sl × Sl × Bool × Sl × Sl × Bool × Sl × Sl) → Heap → Prop) (H : farkas_claim_add c b k d m S) :
 Calls Tryz.prog 44 #[Value.agg (C_bool_sl_sl_sl_bool_sl_sl_bool_sl_sl c).toArray, Value.pointer b, Value.agg (C_bool_sl_sl k).toArray, Value.agg (C_bool_sl_sl_sl_bool_sl_sl_bool_sl_sl d).toArray] w (Post ⟨w, m⟩ (fun r => Value.agg (C_bool_sl_sl_sl_bool_sl_sl_bool_sl_sl r).toArray) S) := by
 refine Calls.lift (args := [Value.agg (C_bool_sl_sl_sl_bool_sl_sl_bool_sl_sl c).toArray, Value.pointer b, Value.agg (C_bool_sl_sl k).toArray, Value.agg (C_bool_sl_sl_sl_bool_sl_sl_bool_sl_sl d).toArray]) Tryz.func44 Y Tryz.ntmps44 (Nat.le_of_ble_eq_true Y) hr (farkas_claim_add c b k d m S) H (fun H => ?_)
 refine AtC.pick (ts := [0, 1, 2, 3]) Y ?_
 unfold farkas_claim_add at H
 refine sR (AtL.e Y (EffX.boxP (cs := [_, _, _, _, _, _, _, _, _, _]) Y Y Y H) ?_)
 rintro _ _ ⟨b_1, _, rfl, rfl, _, H⟩
 refine AtL.e Y (EffX.boxP (cs := [_, _, _]) Y Y Y H) ?_
 rintro _ _ ⟨b_2, _, rfl, rfl, _, H⟩
 refine AtL.e Y (EffX.boxP (cs := [_, _, _, _, _, _, _, _, _, _]) Y Y Y H) ?_
 rintro _ _ ⟨b_3, _, rfl, rfl, _, H⟩
 refine AtL.e Y (EffX.allocP (cs := [_, _, _, _, _, _, _, _, _, _]) hT Y Y H) ?_
 rintro _ _ ⟨b_4, _, rfl, rfl, _, H⟩
 refine AtL.nil ?_
 replace H := H.self
 refine tg ?_
 apply AtC.seqS [6, 14, 15, 17] [[], [], [], [], [], [], [], [], [], [], [], [], [], [], [6], [6, 14], [6, 14, 15], [6, 14, 15]] [[], [], [1], [], [], [4], [0, 1, 2, 3, 4, 5], [], [], [8], [], [], [], [12], [0, 1, 2, 3, 4, 5, 6, 10, 11, 12, 13], [0, 1, 2, 3, 4, 5, 6, 7, 8, 9, 10, 11, 12, 13, 14], [0, 1, 2, 3, 4, 5, 6, 7, 8, 9, 10, 11, 12, 13, 14, 15], [0, 1, 2, 3, 4, 5, 6, 7, 8, 9, 10, 11, 12, 13, 14, 15, 16]] hmix (by kernel_rfl) [(9, _), (10, _), (11, _), (12, _), (13, _), (14, _), (16, _), (17, _), (18, _), (19, _), (20, _), (21, _), (22, _)] Y 4 Y
 refine Stg.go [0, 1, 2, 3, 4, 5, 7, 8, 9, 10, 11, 12, 13] [6] Y Y (qp hT Y (qp hT Y (qq Y (lS hT 3 [_, _, _, _] Y Y Y Y Y Y Y Y) Y (qq Y (lS hT 2 [_, _, _] Y Y Y Y Y Y Y Y) Y (qp hT Y (qq Y (lS hT 1 [_, _, _, _] Y Y Y Y Y Y Y Y) Y (qp hT Y (qp hT Y (qq Y (lS hT 3 [_, _, _, _, _, _] Y Y Y Y Y Y Y Y) Y (qp hT Y (qq Y (lS hT 2 [_, _, _] Y Y Y Y Y Y Y Y) Y (qp hT Y (qq Y (lS hT 1 [_, _, _, _, _, _] Y Y Y Y Y Y Y Y) Y QAll.nil))))))))))))) ?_
 refine EAll.cons ?_ EAll.nil
 refine EOp.e Y Y Y (cl (fun h => linear_Add _ _ _ _ h _) H Y Tryz.call84 Y (fun w m hr hw => lift_linear_Add _ _ _ _ w m hr _ hw)) ?_
 rintro _ _ ⟨v, h0u1, rfl, rfl, H⟩
 apply Stg.next [(15, _)] Y Y
 refine Stg.go [7, 8, 9, 10, 11, 12, 13] [14] Y Y (qp hT Y (qp hT Y (qq Y (lS hT 3 [_, _, _, _, _, _] Y Y Y Y Y Y Y Y) Y (qp hT Y (qq Y (lS hT 2 [_, _, _] Y Y Y Y Y Y Y Y) Y (qp hT Y (qq Y (lS hT 1 [_, _, _, _, _, _] Y Y Y Y Y Y Y Y) Y QAll.nil))))))) ?_
 refine EAll.cons ?_ EAll.nil
 refine EOp.e Y Y Y (cl (fun h => delta_Scale _ _ _ h _) H Y Tryz.call81 Y (fun w m hr hw => lift_delta_Scale _ _ _ w m hr _ hw)) ?_
 rintro _ _ ⟨v_1, h0u2, rfl, rfl, H⟩
 apply Stg.next [(23, _)] Y Y
 refine Stg.go [7, 8, 9] [15] Y Y (qp hT Y (qp hT Y (qq Y (lS hT 3 [_, _, _, _, _, _] Y Y Y Y Y Y Y Y) Y QAll.nil))) ?_
 refine EAll.cons ?_ EAll.nil
 refine EOp.e Y Y Y (cl (fun h => delta_Add _ _ _ h _) H Y Tryz.call80 Y (fun w m hr hw => lift_delta_Add _ _ _ w m hr _ hw)) ?_
 rintro _ _ ⟨v_2, h0u3, rfl, rfl, H⟩
 apply Stg.next [(24, _), (25, _)] Y Y
 refine Stg.go [16] [17] Y Y (qq Y (Quiet1.build (cs := [Value.bool v.1, Sl.toV v.2.1, Sl.toV v.2.2.1, Sl.toV v.2.2.2, Value.bool v_2.1, Sl.toV v_2.2.1, Sl.toV v_2.2.2.1, Value.bool v_2.2.2.2.1, Sl.toV v_2.2.2.2.2.1, Sl.toV v_2.2.2.2.2.2]) hT Y Y Y Y Y (by kernel_rfl)) Y QAll.nil) ?_
 refine EAll.cons ?_ EAll.nil
 refine EOp.e Y Y Y (EffX.storeSP (i := 0) (qv := [(_, [_, _, _, _, _, _, _, _, _, _]), (_, [_, _, _, _, _, _, _, _, _, _]), (_, [_, _, _]), (_, [_, _, _, _, _, _, _, _, _, _])]) hT Y Y Y Y Y Y Y Y Y Y) ?_
 rintro _ _ rfl
 apply Stg.next [] Y Y
 refine Stg.fin [] Y Y QAll.nil (tg (AtC.ret ?_))
 exact AtE.retN (rs := [.cell 8 94]) Y (ResAll.cons (ResAt.cellSP (i := 0) (l := [_, _, _, _, _, _, _, _, _, _]) hT Y Y Y Y Y Y Y) ResAll.nil) Y H
theorem lift_delta_Cmp (x0 : Bool × Sl × Sl × Bool × Sl × Sl) (y : Bool × Sl × Sl × Bool × Sl × Sl) (w : World) (m : Heap) (hr : Rel ⟨m, []⟩ w.heap) (S : Int → Heap → Prop) (H : delta_Cmp x0 y m S) :
 Calls Tryz.prog 46 #[Value.agg (C_bool_sl_sl_bool_sl_sl x0).toArray, Value.agg (C_bool_sl_sl_bool_sl_sl y).toArray] w (Post ⟨w, m⟩ (Value.int .i64) S) := by
 refine Calls.lift (args := [Value.agg (C_bool_sl_sl_bool_sl_sl x0).toArray, Value.agg (C_bool_sl_sl_bool_sl_sl y).toArray]) Tryz.func46 Y Tryz.ntmps46 (Nat.le_of_ble_eq_true Y) hr (delta_Cmp x0 y m S) H (fun H => ?_)
 refine AtC.pick (ts := [0, 1]) Y ?_
 unfold delta_Cmp at H
 refine sR (AtL.e Y (EffX.boxP (cs := [_, _, _, _, _, _]) Y Y Y H) ?_)
 rintro _ _ ⟨b, _, rfl, rfl, _, H⟩
 refine AtL.e Y (EffX.boxP (cs := [_, _, _, _, _, _]) Y Y Y H) ?_
 rintro _ _ ⟨b_1, _, rfl, rfl, _, H⟩
 replace H := H.self
 refine pu hT 1 Y (ng (AtC.seq (sR (pu hT 1 Y (AtL.q Y (lS hT 1 [_, _, _] Y Y Y Y Y Y Y Y) ?_)))))
 refine pu hT 1 Y (AtL.q Y (lS hT 0 [_, _, _] Y Y Y Y Y Y Y Y) (AtL.e Y (cl (fun h => ratio_Cmp _ _ h _) H Y Tryz.call112 Y (fun w m hr hw => lift_ratio_Cmp _ _ w m hr _ hw)) ?_))
 rintro _ _ ⟨v, h0u1, rfl, rfl, H⟩
 refine pu hT 1 Y (ng (sR (pu hT 2 Y (ng ?_))))
 refine AtC.condB H Y (fun H => ?_) (fun H => ?_)
 refine sR (pu hT 2 Y (ng (AtC.ret (AtE.then_r ?_))))
 exact r1 4 Y Y Y H
 refine AtC.skip (tg (sR (pu hT 1 Y (AtL.q Y (lS hT 1 [_, _, _] Y Y Y Y Y Y Y Y) (pu hT 1 Y ?_)))))
 refine AtL.q Y (lS hT 0 [_, _, _] Y Y Y Y Y Y Y Y) (AtL.e Y (cl (fun h => ratio_Cmp _ _ h _) H Y Tryz.call112 Y (fun w m hr hw => lift_ratio_Cmp _ _ w m hr _ hw)) ?_)
 rintro _ _ ⟨v_1, h0u2, rfl, rfl, H⟩
 refine pu hT 1 Y (ng (AtC.ret ?_))
 exact r1 4 Y Y Y H
theorem lift_farkas_Holds (p : Int × Int × Sl × Sl × Sl × Sl × Sl) (list : Sl) (w : World) (m : Heap) (hr : Rel ⟨m, []⟩ w.heap) (S : Bool → Heap → Prop) (H : farkas_Holds p list m S) :
 Calls Tryz.prog 9 #[Value.agg (C_i64ui64usl_sl_sl_sl_sl p).toArray, Sl.toV list] w (Post ⟨w, m⟩ Value.bool S) := by
 refine Calls.lift (args := [Value.agg (C_i64ui64usl_sl_sl_sl_sl p).toArray, Sl.toV list]) Tryz.func9 Y Tryz.ntmps9 (Nat.le_of_ble_eq_true Y) hr (farkas_Holds p list m S) H (fun H => ?_)
 refine AtC.pick (ts := [0, 1]) Y ?_
 unfold farkas_Holds at H
 refine sR (AtL.e Y (EffX.boxP (cs := [_, _, _, _, _, _, _]) Y Y Y H) ?_)
 rintro _ _ ⟨b, _, rfl, rfl, _, H⟩
 replace H := H.self
 refine pu hT 1 Y (ng (AtC.seq (sR (AtL.q Y (lS hT 0 [_, _, _, _, _, _, _] Y Y Y Y Y Y Y Y) (AtL.e Y (cl (fun h => cnf_Right _ h _) H Y Tryz.call38 Y (fun w m hr hw => lift_cnf_Right _ w m hr _ hw)) ?_)))))
 rintro _ _ ⟨v, h0u1, rfl, rfl, H⟩
 refine pu hT 1 Y (ng ?_)
 refine AtC.condB H Y (fun H => ?_) (fun H => ?_)
 refine sR (pu hT 1 Y (ng (AtC.ret (AtE.then_r ?_))))
 exact r1 4 Y Y Y H
 refine AtC.skip (tg (sR (AtL.e Y (cl (fun h => nat_New _ h _) H Y Tryz.call25 Y (fun w m hr hw => lift_nat_New _ w m hr _ hw)) ?_)))
 rintro _ _ ⟨v_1, h0u2, rfl, rfl, H⟩
 refine pu hT 1 Y (ng (sR (AtL.e Y (EffX.allocP (cs := [_, _, _, _, _, _, _, _, _, _]) hT Y Y H) ?_)))
 rintro _ _ ⟨b_1, _, rfl, rfl, _, H⟩
 refine AtL.nil ?_
 replace H := H.self
 refine tg (AtC.seq (sR (pu hT 3 Y (ng (AtC.block ?_)))))
 refine AtC.loopM (fun (s0 : Int × Bool × Sl × Sl × Sl × Bool × Sl × Sl × Bool × Sl × Sl) => [(16, Value.int .i64 s0.1)]) (fun (s0 : Int × Bool × Sl × Sl × Sl × Bool × Sl × Sl × Bool × Sl × Sl) => [(b_1, [Value.bool s0.2.1, Sl.toV s0.2.2.1, Sl.toV s0.2.2.2.1, Sl.toV s0.2.2.2.2.1, Value.bool s0.2.2.2.2.2.1, Sl.toV s0.2.2.2.2.2.2.1, Sl.toV s0.2.2.2.2.2.2.2.1, Value.bool s0.2.2.2.2.2.2.2.2.1, Sl.toV s0.2.2.2.2.2.2.2.2.2.1, Sl.toV s0.2.2.2.2.2.2.2.2.2.2])]) [2, 5, 6, 14, 15] [16, 2, 5, 6, 14, 15] [1] [0, 1] H Y Y Y (by decide) Y (fun Kp1 s0 h0u4 H Q1 HK1 => ?_)
 refine sR (pu hT 1 Y (ng (AtC.seq ?_)))
 refine AtC.condB H Y (fun H => ?_) (fun H => ?_)
 refine AtC.skip (tg (AtC.seq (AtC.block (sR ?_))))
 obtain ⟨a_, hc1, hd1, H⟩ := H
 refine AtL.q Y (Quiet1.idxS hT Y Y Y Y Y hc1 hd1) ?_
 obtain ⟨v_2, hc2, H⟩ := H
 refine AtL.q Y (Quiet1.loadS hT Y Y Y Y hc2) (AtL.e Y (EffX.alloc hT Y Y H) ?_)
 rintro _ _ ⟨r, h0u5, rfl, rfl, H⟩
 refine AtL.e Y (EffX.storeS hT Y Y Y Y Y Y H) ?_
 rintro _ _ ⟨h0u6, rfl, H⟩
 refine ng (sR (pu hT 1 Y (AtL.q Y (lP hT 1 Y) (AtL.q Y (Quiet1.makeFn (bs := []) (cs := [_]) Y Y Y) (AtL.e Y (cl (fun h => slices_IndexFunc_api_Atom_api_Atom__farkas_Holds_c1 _ _ h _) H Y Tryz.call39 Y (fun w m hr hw => lift_slices_IndexFunc_api_Atom_api_Atom__farkas_Holds_c1 _ _ w m hr _ hw)) ?_)))))
 rintro _ _ ⟨v_3, h0u7, rfl, rfl, H⟩
 refine pu hT 1 Y (ng (AtC.seq ?_))
 refine AtC.joinSeq (β := Unit) (fun (t0 : Bool) (bb : Unit) => [(37, Value.bool t0)]) (fun (t0 : Bool) (bb : Unit) => []) [2, 5, 6, 8, 9, 14, 15, 16] [0, 1] H Y Y (fun t0 bb h0u8 H => ?_) (fun J4 H HK4 => ?_)
 refine AtC.condB H Y (fun H => ?_) (fun H => ?_)
 refine sR (pu hT 1 Y (ng (AtC.ret (AtE.then_r (AtE.blk_r ?_)))))
 refine AtE.then_r (AtE.then_r (AtE.blk_r (AtE.then_r ?_)))
 exact r1 4 Y Y Y H
 refine AtC.skip (tg ?_)
 obtain ⟨v_8, hc6, H⟩ := H
 obtain ⟨a_1_, hc7, hd7, H⟩ := H
 obtain ⟨v_9, hc8, H⟩ := H
 obtain ⟨v_10, hc9, H⟩ := H
 apply AtC.stages [13, 14, 15] [[], [], [], [], [], [], [], [], [], [], [], [], [], [], [13], [13, 14]] [[], [], [], [2], [], [], [], [6], [], [6, 7, 8], [6, 7, 8, 9], [], [11], [4, 5, 6, 7, 8, 9, 10, 11, 12], [0, 1, 2, 3, 4, 5, 6, 7, 8, 9, 10, 11, 12, 13], [0, 1, 2, 3, 4, 5, 6, 7, 8, 9, 10, 11, 12, 13, 14]] hmix (by kernel_rfl) [(38, _), (39, _), (40, _), (41, _), (42, _), (43, _), (44, _), (45, _), (46, _), (47, _), (48, _), (49, _), (50, _)] Y 3 Y
 refine Stg.go [0, 1, 2, 3, 4, 5, 6, 7, 8, 9, 10, 11, 12] [13] Y Y (qq Y (lS hT 0 [_, _, _, _, _, _, _, _, _, _] Y Y Y Y Y Y Y Y) Y (qp hT Y (qp hT Y (qq Y (Quiet1.loadS hT Y Y Y Y hc6) Y (qp hT Y (qq Y (lS hT 1 [_, _, _, _, _, _, _] Y Y Y Y Y Y Y Y) Y (qp hT Y (qq Y (lP hT 1 Y) Y (qp hT Y (qq Y (Quiet1.idxS hT Y Y Y Y Y hc7 hd7) Y (qq Y (Quiet1.loadS hT Y Y Y Y hc8) Y (qp hT Y (qq Y (Quiet1.load hT Y Y Y hc9) Y QAll.nil))))))))))))) ?_
 refine EAll.cons ?_ EAll.nil
 refine EOp.e Y Y Y (cl (fun h => farkas_bounded _ _ _ _ h _) H Y Tryz.call45 Y (fun w m hr hw => lift_farkas_bounded _ _ _ _ w m hr _ hw)) ?_
 rintro _ _ ⟨v_11, h0u11, rfl, rfl, H⟩
 obtain ⟨hc10, H⟩ := H
 apply Stg.next [(51, _)] Y Y
 refine Stg.go [0, 1, 2, 3] [14] Y Y (qq Y (lS hT 0 [_, _, _, _, _, _, _, _, _, _] Y Y Y Y Y Y Y Y) Y (qp hT Y (qp hT Y (qq Y (Quiet1.loadS hT Y Y Y Y hc10) Y QAll.nil)))) ?_
 refine EAll.cons ?_ EAll.nil
 refine EOp.e Y Y Y (cl (fun h => farkas_claim_add _ _ _ _ h _) H Y Tryz.call44 Y (fun w m hr hw => lift_farkas_claim_add _ _ _ _ w m hr _ hw)) ?_
 rintro _ _ ⟨v_12, h0u12, rfl, rfl, H⟩
 apply Stg.next [(52, _)] Y Y
 refine Stg.go [] [15] Y Y QAll.nil ?_
 refine EAll.cons ?_ EAll.nil
 refine EOp.e Y Y Y (EffX.storeSP (i := 0) (qv := [(_, [_, _, _, _, _, _, _, _, _, _]), (_, [_, _, _, _, _, _, _])]) hT Y Y Y Y Y Y Y Y Y Y) ?_
 rintro _ _ rfl
 apply Stg.next [] Y Y
 refine Stg.fin [] Y Y QAll.nil (AtE.blk_n (tg (AtC.region (pu hT 2 Y (AtL.nil ?_)))))
 exact AtE.then_n ((HK1 _ _ H).pickP (ts := [16, 2, 5, 6, 14, 15]) (is := [0, 1]) Y Y (by decide) Y)
 refine AtC.region (pu hT 3 Y ?_)
 refine AtL.splitB (t := 26) H Y (fun H => ?_) (fun H => ?_)
 refine nf Y (nf Y (nf Y (nf Y (pu hT 2 Y (nf Y ?_)))))
 refine nf Y (nf Y (nf Y (pu hT 1 Y (AtL.nil ?_))))
 exact AtE.then_n ((HK4 _ () _ H).pickP (ts := [37, 2, 5, 6, 8, 9, 14, 15, 16]) (is := [0, 1]) Y Y (by decide) Y)
 refine ys Y (pu hT 1 Y (ys Y ?_))
 obtain ⟨v_4, hc4, H⟩ := H
 refine AtL.q Y (Quiet1.loadS hT Y Y Y Y hc4) (ys Y (AtL.e Y (cl (fun h => ratio_Right _ h _) H Y Tryz.call42 Y (fun w m hr hw => lift_ratio_Right _ w m hr _ hw)) ?_))
 rintro _ _ ⟨v_5, h0u9, rfl, rfl, H⟩
 refine ys Y (pu hT 1 Y (pu hT 2 Y ?_))
 refine AtL.splitB (t := 32) H Y (fun H => ?_) (fun H => ?_)
 refine nf Y (nf Y (nf Y (nf Y (pu hT 1 Y (AtL.nil ?_)))))
 exact AtE.then_n ((HK4 _ () _ H).pickP (ts := [37, 2, 5, 6, 8, 9, 14, 15, 16]) (is := [0, 1]) Y Y (by decide) Y)
 refine ys Y (pu hT 1 Y (ys Y ?_))
 obtain ⟨v_6, hc5, H⟩ := H
 refine AtL.q Y (Quiet1.loadS hT Y Y Y Y hc5) (ys Y (AtL.e Y (cl (fun h => ratio_Sign _ h _) H Y Tryz.call43 Y (fun w m hr hw => lift_ratio_Sign _ w m hr _ hw)) ?_))
 rintro _ _ ⟨v_7, h0u10, rfl, rfl, H⟩
 refine ys Y (pu hT 1 Y (pu hT 1 Y (AtL.nil ?_)))
 exact AtE.then_n ((HK4 _ () _ H).pickP (ts := [37, 2, 5, 6, 8, 9, 14, 15, 16]) (is := [0, 1]) Y Y (by decide) Y)
 refine AtC.exit (AtE.then_x (AtE.then_x (AtE.blk_hit (tg ?_))))
 refine AtC.joinSeq (β := Unit) (fun (t0u1 : Bool) (bb_1 : Unit) => [(4, Value.bool t0u1)]) (fun (t0u1 : Bool) (bb_1 : Unit) => []) [] [] H Y Y (fun t0u1 bb_1 h0u13 H => ?_) (fun J12 H HK12 => ?_)
 refine AtC.ret ?_
 exact r1 4 Y Y Y H
 refine AtC.region (pu hT 2 Y (AtL.q Y (lP hT 0 Y) (pu hT 3 Y ?_)))
 refine AtL.splitB (t := 59) H Y (fun H => ?_) (fun H => ?_)
 refine ys Y (pu hT 1 Y (ys Y (AtL.q Y (lS hT 0 [_, _, _, _, _, _] Y Y Y Y Y Y Y Y) (ys Y (AtL.q Y (Quiet1.build (cs := [_, _, _, _, _, _]) hT Y Y Y Y Y Y) ?_)))))
 refine ys Y (AtL.e Y (cl (fun h => delta_Cmp _ _ h _) H Y Tryz.call46 Y (fun w m hr hw => lift_delta_Cmp _ _ w m hr _ hw)) ?_)
 rintro _ _ ⟨v_13, h0u14, rfl, rfl, H⟩
 refine ys Y (pu hT 1 Y (pu hT 2 Y (AtL.nil ?_)))
 exact AtE.then_n ((HK12 _ () _ H).pickP (ts := [4]) (is := []) Y Y (by decide) Y)
 refine nf Y (nf Y (nf Y (nf Y (nf Y (pu hT 2 Y ?_)))))
 refine AtL.nil ?_
 exact AtE.then_n ((HK12 _ () _ H).pickP (ts := [4]) (is := []) Y Y (by decide) Y)
theorem lift_law16uspeaks (w : World) (m : Heap) (hr : Rel ⟨m, []⟩ w.heap) (S : Bool → Heap → Prop) (H : law16uspeaks m S) :
 Calls Tryz.prog 6 #[] w (Post ⟨w, m⟩ Value.bool S) := by
 refine Calls.lift (args := []) Tryz.func6 Y Tryz.ntmps6 (Nat.le_of_ble_eq_true Y) hr (law16uspeaks m S) H (fun H => ?_)
 refine AtC.pick (ts := []) Y ?_
 unfold law16uspeaks at H
 refine sR (pu hT 1 Y (ng (sR (AtL.e Y (cl (fun h => ratio_Of _ h _) H Y Tryz.call12 Y (fun w m hr hw => lift_ratio_Of _ w m hr _ hw)) ?_))))
 rintro _ _ ⟨v, h0, rfl, rfl, H⟩
 refine AtL.q Y (Quiet1.build (cs := [_, _, _, _, _, _]) hT Y Y Y Y Y Y) (AtL.q Y (Quiet1.build (cs := [Value.int .i64 0, Value.int .i64 0, Value.int .i64 (-1), Value.bool v.1, Sl.toV v.2.1, Sl.toV v.2.2, Value.bool false, Sl.toV Sl.nil, Sl.toV Sl.nil]) hT Y Y Y Y Y (by kernel_rfl)) (AtL.e Y (cl (fun h => ratio_Of _ h _) H Y Tryz.call12 Y (fun w m hr hw => lift_ratio_Of _ w m hr _ hw)) ?_))
 rintro _ _ ⟨v_1, h0u1, rfl, rfl, H⟩
 refine AtL.e Y (cl (fun h => ratio_Of _ h _) H Y Tryz.call12 Y (fun w m hr hw => lift_ratio_Of _ w m hr _ hw)) ?_
 rintro _ _ ⟨v_2, h0u2, rfl, rfl, H⟩
 refine AtL.q Y (Quiet1.build (cs := [_, _, _, _, _, _]) hT Y Y Y Y Y Y) (AtL.q Y (Quiet1.build (cs := [Value.int .i64 1, Value.int .i64 0, Value.int .i64 (-1), Value.bool v_1.1, Sl.toV v_1.2.1, Sl.toV v_1.2.2, Value.bool v_2.1, Sl.toV v_2.2.1, Sl.toV v_2.2.2]) hT Y Y Y Y Y (by kernel_rfl)) ?_)
 refine AtLX.bs (hT := hT) (cs := [Value.int .i64 0, Value.int .i64 0, Value.int .i64 (-1), Value.bool v.1, Sl.toV v.2.1, Sl.toV v.2.2, Value.bool false, Sl.toV Sl.nil, Sl.toV Sl.nil, Value.int .i64 1, Value.int .i64 0, Value.int .i64 (-1), Value.bool v_1.1, Sl.toV v_1.2.1, Sl.toV v_1.2.2, Value.bool v_2.1, Sl.toV v_2.2.1, Sl.toV v_2.2.2]) H Y Y Y Y Y Y Y (by kernel_rfl) Y (fun a h0u3 H => ?_)
 refine AtL.q Y (Quiet1.build (cs := [_, _, _, _, _, _, _]) hT Y Y Y Y Y Y) (AtL.e Y (EffX.allocP (cs := [_, _, _, _, _, _, _]) hT Y Y H) ?_)
 rintro _ _ ⟨b, _, rfl, rfl, _, H⟩
 replace H := H.self
 refine AtL.e Y (EffX.storeSP (i := 0) (qv := [(_, [_, _, _, _, _, _, _])]) hT Y Y Y Y Y Y Y Y Y Y) ?_
 rintro _ _ rfl
 refine ng (sR (AtL.e Y (cl (fun h => ratio_Of _ h _) H Y Tryz.call12 Y (fun w m hr hw => lift_ratio_Of _ w m hr _ hw)) ?_))
 rintro _ _ ⟨v_4, h0u5, rfl, rfl, H⟩
 refine AtL.e Y (EffX.allocP (cs := [_, _, _]) hT Y Y H) ?_
 rintro _ _ ⟨b_1, _, rfl, rfl, _, H⟩
 replace H := H.self
 refine AtL.e Y (EffX.storeSP (i := 0) (qv := [(_, [_, _, _]), (_, [_, _, _, _, _, _, _])]) hT Y Y Y Y Y Y Y Y Y Y) ?_
 rintro _ _ rfl
 refine ng ?_
 refine AtC.joinSeq (β := Unit) (fun (t0 : Bool) (bb : Unit) => [(0, Value.bool t0)]) (fun (t0 : Bool) (bb : Unit) => []) [] [] H Y Y (fun t0 bb h0u7 H => ?_) (fun J1 H HK1 => ?_)
 refine AtC.ret ?_
 exact r1 0 Y Y Y H
 refine AtC.region (AtL.q Y (lS hT 1 [_, _, _, _, _, _, _] Y Y Y Y Y Y Y Y) (AtL.q Y (lS hT 0 [_, _, _] Y Y Y Y Y Y Y Y) (AtL.q Y (Quiet1.build (cs := [_, _, _, _]) hT Y Y Y Y Y Y) (AtL.q Y (lS hT 0 [_, _, _] Y Y Y Y Y Y Y Y) (AtL.q Y (Quiet1.build (cs := [_, _, _, _]) hT Y Y Y Y Y Y) ?_)))))
 refine AtLX.bs (hT := hT) (cs := [_, _, _, _, _, _, _, _]) H Y Y Y Y Y Y Y Y Y (fun a_1 h0u8 H => ?_)
 refine AtL.e Y (cl (fun h => farkas_Holds _ _ h _) H Y Tryz.call9 Y (fun w m hr hw => lift_farkas_Holds _ _ w m hr _ hw)) ?_
 rintro _ _ ⟨v_6, h0u9, rfl, rfl, H⟩
 refine pu hT 1 Y ?_
 refine AtL.splitB (t := 20) H Y (fun H => ?_) (fun H => ?_)
 refine ys Y (AtL.q Y (lS hT 1 [_, _, _, _, _, _, _] Y Y Y Y Y Y Y Y) (ys Y (AtL.q Y (lS hT 0 [_, _, _] Y Y Y Y Y Y Y Y) (ys Y (AtL.q Y (Quiet1.build (cs := [_, _, _, _]) hT Y Y Y Y Y Y) ?_)))))
 refine ys Y ?_
 refine AtLX.bs (hT := hT) (cs := [_, _, _, _]) H Y Y Y Y Y Y Y Y Y (fun a_2 h0u10 H => ?_)
 refine ys Y (AtL.e Y (cl (fun h => farkas_Holds _ _ h _) H Y Tryz.call9 Y (fun w m hr hw => lift_farkas_Holds _ _ w m hr _ hw)) ?_)
 rintro _ _ ⟨v_8, h0u11, rfl, rfl, H⟩
 refine ys Y (pu hT 1 Y (pu hT 2 Y (AtL.nil ?_)))
 exact AtE.then_n ((HK1 _ () _ H).pickP (ts := [0]) (is := []) Y Y (by decide) Y)
 refine nf Y (nf Y (nf Y (nf Y (nf Y (nf Y ?_)))))
 refine pu hT 2 Y (AtL.nil ?_)
 exact AtE.then_n ((HK1 _ () _ H).pickP (ts := [0]) (is := []) Y Y (by decide) Y)
theorem lift_law02uGreat (l : Sl) (w : World) (m : Heap) (hr : Rel ⟨m, []⟩ w.heap) (S : Bool → Heap → Prop) (H : law02uGreat l m S) :
 Calls Tryz.prog 10 #[Sl.toV l] w (Post ⟨w, m⟩ Value.bool S) := by
 refine Calls.lift (args := [Sl.toV l]) Tryz.func10 Y Tryz.ntmps10 (Nat.le_of_ble_eq_true Y) hr (law02uGreat l m S) H (fun H => ?_)
 refine AtC.pick (ts := [0]) Y ?_
 unfold law02uGreat at H
 refine sR (pu hT 1 Y (ng (AtC.seq (sR (pu hT 3 Y ?_)))))
 refine ng (AtC.block ?_)
 refine AtC.loopM (fun (s0 : Int) => [(7, Value.int .i64 s0)]) (fun (s0 : Int) => []) [5, 6] [7, 5, 6] [] [] H Y Y Y (by decide) Y (fun Kp1 s0 h0 H Q1 HK1 => ?_)
 refine sR (pu hT 1 Y (ng (AtC.seq ?_)))
 refine AtC.condB H Y (fun H => ?_) (fun H => ?_)
 refine AtC.skip (tg (AtC.seq (AtC.block (sR ?_))))
 obtain ⟨a_, hc1, hd1, H⟩ := H
 refine AtL.q Y (Quiet1.idxS hT Y Y Y Y Y hc1 hd1) ?_
 obtain ⟨v, hc2, H⟩ := H
 refine AtL.q Y (Quiet1.loadS hT Y Y Y Y hc2) (AtL.e Y (EffX.allocP (cs := [_, _, _]) hT Y Y H) ?_)
 rintro _ _ ⟨b, _, rfl, rfl, _, H⟩
 replace H := H.self
 refine AtL.e Y (EffX.storeSP (i := 0) (qv := [(_, [_, _, _])]) hT Y Y Y Y Y Y Y Y Y Y) ?_
 rintro _ _ rfl
 refine ng ?_
 refine AtC.joinSeq (β := Unit) (fun (t0 : Bool) (bb : Unit) => [(21, Value.bool t0)]) (fun (t0 : Bool) (bb : Unit) => []) [5, 6, 7] [] H Y Y (fun t0 bb h0u2 H => ?_) (fun J4 H HK4 => ?_)
 refine AtC.condB H Y (fun H => ?_) (fun H => ?_)
 refine sR (pu hT 1 Y (ng (AtC.ret (AtE.blk_r (AtE.then_r ?_)))))
 refine AtE.then_r (AtE.blk_r (AtE.then_r ?_))
 exact r1 2 Y Y Y H
 refine AtC.skip (AtE.blk_n (tg (AtC.region (pu hT 2 Y (AtL.nil ?_)))))
 exact AtE.then_n ((HK1 _ _ H).pickP (ts := [7, 5, 6]) (is := []) Y Y (by decide) Y)
 refine AtC.region (pu hT 2 Y (AtL.q Y (lP hT 0 Y) (pu hT 3 Y ?_)))
 refine AtL.splitB (t := 16) H Y (fun H => ?_) (fun H => ?_)
 refine nf Y (nf Y (nf Y (nf Y (pu hT 1 Y (AtL.nil ?_)))))
 exact AtE.then_n ((HK4 _ () _ H).pickP (ts := [21, 5, 6, 7]) (is := []) Y Y (by decide) Y)
 refine ys Y (pu hT 1 Y (ys Y (AtL.q Y (lP hT 0 Y) (ys Y (pu hT 1 Y ?_)))))
 refine ys Y (pu hT 1 Y (pu hT 1 Y (AtL.nil ?_)))
 exact AtE.then_n ((HK4 _ () _ H).pickP (ts := [21, 5, 6, 7]) (is := []) Y Y (by decide) Y)
 refine AtC.exit (AtE.then_x (AtE.then_x (AtE.blk_hit (tg (sR ?_)))))
 refine pu hT 1 Y (ng (AtC.ret ?_))
 exact r1 2 Y Y Y H
theorem lift_ref01uCut (x0 : Sl) (w : World) (m : Heap) (hr : Rel ⟨m, []⟩ w.heap) (S : Sl → Heap → Prop) (H : ref01uCut x0 m S) :
 Calls Tryz.prog 142 #[Sl.toV x0] w (Post ⟨w, m⟩ Sl.toV S) := by
 refine Calls.lift (args := [Sl.toV x0]) Tryz.func142 Y Tryz.ntmps142 (Nat.le_of_ble_eq_true Y) hr (ref01uCut x0 m S) H (fun H => ?_)
 refine AtC.pick (ts := [0]) Y ?_
 unfold ref01uCut at H
 refine sR (pu hT 1 Y (ng (sR (pu hT 3 Y ?_))))
 replace H := H _ rfl
 refine ng (AtC.seq (AtC.block ?_))
 refine AtC.loopM (fun (s0 : Int) => [(3, Value.int .i64 s0)]) (fun (s0 : Int) => []) [0] [3, 0] [] [] H Y Y Y (by decide) Y (fun Kp1 s0 h0 H Q1 HK1 => ?_)
 refine AtC.seq ?_
 refine AtC.joinSeq (β := Unit) (fun (t0 : Bool) (bb : Unit) => [(15, Value.bool t0)]) (fun (t0 : Bool) (bb : Unit) => []) [0, 3] [] H Y Y (fun t0 bb h0u1 H => ?_) (fun J2 H HK2 => ?_)
 refine AtC.condB H Y (fun H => ?_) (fun H => ?_)
 refine AtC.skip (tg (AtC.block (AtC.region (pu hT 3 Y ?_))))
 replace H := H _ rfl
 refine AtL.nil (AtE.blk_n ?_)
 exact AtE.then_n ((HK1 _ _ H).pickP (ts := [3, 0]) (is := []) Y Y (by decide) Y)
 refine AtC.exit (AtE.then_x (AtE.then_x (AtE.blk_hit (tg (sR ?_)))))
 refine pu hT 2 Y ?_
 refine AtL.sl (hT := hT) H Y Y Y Y Y Y Y (fun h => by cases h <;> rfl) Y (fun v_1 H => ?_)
 refine pu hT 1 Y (ng (AtC.ret ?_))
 exact r1 2 Y Y Y H
 refine AtC.region (pu hT 3 Y ?_)
 refine AtL.splitB (t := 8) H Y (fun H => ?_) (fun H => ?_)
 refine ys Y (pu hT 1 Y (ys Y (pu hT 1 Y (ys Y (pu hT 1 Y ?_)))))
 refine ys Y ?_
 obtain ⟨a_, hc2, hd2, H⟩ := H
 refine AtL.q Y (Quiet1.idxS hT Y Y Y Y Y hc2 hd2) (ys Y ?_)
 obtain ⟨v, hc3, H⟩ := H
 refine AtL.q Y (Quiet1.load hT Y Y Y hc3) (ys Y (pu hT 1 Y (pu hT 1 Y (AtL.nil ?_))))
 exact AtE.then_n ((HK2 _ () _ H).pickP (ts := [15, 0, 3]) (is := []) Y Y (by decide) Y)
 refine nf Y (nf Y (nf Y (nf Y (nf Y (nf Y ?_)))))
 refine pu hT 1 Y (AtL.nil ?_)
 exact AtE.then_n ((HK2 _ () _ H).pickP (ts := [15, 0, 3]) (is := []) Y Y (by decide) Y)
theorem lift_ref01uOf (x0 : Sl) (w : World) (m : Heap) (hr : Rel ⟨m, []⟩ w.heap) (S : Sl → Heap → Prop) (H : ref01uOf x0 m S) :
 Calls Tryz.prog 96 #[Sl.toV x0] w (Post ⟨w, m⟩ Sl.toV S) := by
 refine Calls.lift (args := [Sl.toV x0]) Tryz.func96 Y Tryz.ntmps96 (Nat.le_of_ble_eq_true Y) hr (ref01uOf x0 m S) H (fun H => ?_)
 refine AtC.pick (ts := [0]) Y ?_
 unfold ref01uOf at H
 refine sR (pu hT 1 Y (ng (sR ?_)))
 refine AtLX.bs (hT := hT) (cs := []) H Y Y Y Y Y Y Y Y Y (fun a h0 H => ?_)
 refine pu hT 1 Y ?_
 replace H := H _ rfl
 refine ng (AtC.seq (sR (pu hT 4 Y ?_)))
 replace H := H _ rfl
 refine ng (AtC.block ?_)
 refine AtC.loopM (fun (s0 : Sl × Int) => [(3, Sl.toV s0.1), (4, Value.int .i64 s0.2)]) (fun (s0 : Sl × Int) => []) [0] [3, 4, 0] [] [] H Y Y Y (by decide) Y (fun Kp1 s0 h0u1 H Q1 HK1 => ?_)
 refine AtC.seq (sR (pu hT 2 Y (ng ?_)))
 refine AtC.condB H Y (fun H => ?_) (fun H => ?_)
 refine AtC.skip (tg (AtC.seq (AtC.block (sR (pu hT 2 Y ?_)))))
 obtain ⟨a_1_, hc1, hd1, H⟩ := H
 refine AtL.q Y (Quiet1.idxS hT Y Y Y Y Y hc1 hd1) ?_
 obtain ⟨v_1, hc2, H⟩ := H
 refine AtL.q Y (Quiet1.load hT Y Y Y hc2) (pu hT 2 Y ?_)
 replace H := H _ rfl
 refine ng (AtC.seq (sR (pu hT 1 Y (ng (AtC.block ?_)))))
 refine AtC.loopM (fun (s0u1 : Int × Int) => [(5, Value.int .i64 s0u1.1), (6, Value.int .i64 s0u1.2)]) (fun (s0u1 : Int × Int) => []) [0, 3, 4] [5, 6, 0, 3, 4] [] [] H Y Y Y (by decide) Y (fun Kp4 s0u1 h0u2 H Q4 HK4 => ?_)
 refine AtC.seq (sR (pu hT 4 Y (ng ?_)))
 refine AtC.condB H Y (fun H => ?_) (fun H => ?_)
 refine AtC.skip (tg (AtC.seq (AtC.block (sR (pu hT 2 Y ?_)))))
 obtain ⟨a_2_, hc4, hd4, H⟩ := H
 refine AtL.q Y (Quiet1.idxS hT Y Y Y Y Y hc4 hd4) ?_
 obtain ⟨v_2, hc5, H⟩ := H
 refine AtL.q Y (Quiet1.load hT Y Y Y hc5) (pu hT 4 Y ?_)
 replace H := H _ rfl
 refine ng (sR (pu hT 4 Y ?_))
 obtain ⟨a_3_, hc6, hd6, H⟩ := H
 refine AtL.q Y (Quiet1.idxS hT Y Y Y Y Y hc6 hd6) (AtL.e Y (EffX.store hT Y Y Y Y Y H) ?_)
 rintro _ _ ⟨h0u3, rfl, H⟩
 refine ng (AtC.region (pu hT 3 Y ?_))
 replace H := H _ rfl
 refine AtL.nil (AtE.blk_n (tg (AtC.region (pu hT 3 Y ?_))))
 replace H := H _ rfl
 refine AtL.nil ?_
 exact AtE.then_n ((HK4 _ _ H).pickP (ts := [5, 6, 0, 3, 4]) (is := []) Y Y (by decide) Y)
 refine AtC.exit (AtE.then_x (AtE.then_x (AtE.blk_hit (tg (AtC.block ?_)))))
 refine AtC.loopM (fun (s0u2 : Sl × Int) => [(3, Sl.toV s0u2.1), (5, Value.int .i64 s0u2.2)]) (fun (s0u2 : Sl × Int) => []) [0, 4] [3, 5, 0, 4] [] [] H Y Y Y (by decide) Y (fun Kp8 s0u2 h0u4 H Q8 HK8 => ?_)
 refine AtC.seq (sR (pu hT 2 Y (ng ?_)))
 refine AtC.condB H Y (fun H => ?_) (fun H => ?_)
 refine AtC.skip (tg (AtC.block (sR (pu hT 3 Y ?_))))
 refine AtLX.bs (hT := hT) (cs := [_]) H Y Y Y Y Y Y Y Y Y (fun a_4 h0u5 H => ?_)
 refine AtL.e Y (EffX.appendS (s := _) (u := _) hT Y Y Y Y Y Y Y Y Y Y (by decide) H) ?_
 rintro _ _ ⟨v_4, h0u6, rfl, rfl, H⟩
 refine pu hT 1 Y (ng (AtC.region (pu hT 3 Y ?_)))
 replace H := H _ rfl
 refine AtL.nil (AtE.blk_n ?_)
 exact AtE.then_n ((HK8 _ _ H).pickP (ts := [3, 5, 0, 4]) (is := []) Y Y (by decide) Y)
 refine AtC.exit (AtE.then_x (AtE.then_x (AtE.blk_hit (AtE.blk_n (tg ?_)))))
 refine AtC.region (pu hT 3 Y ?_)
 replace H := H _ rfl
 refine AtL.nil ?_
 exact AtE.then_n ((HK1 _ _ H).pickP (ts := [3, 4, 0]) (is := []) Y Y (by decide) Y)
 refine AtC.exit (AtE.then_x (AtE.then_x (AtE.blk_hit (tg (sR ?_)))))
 refine pu hT 1 Y (AtL.e Y (cl (fun h => ref01uCut _ h _) H Y Tryz.call142 Y (fun w m hr hw => lift_ref01uCut _ w m hr _ hw)) ?_)
 rintro _ _ ⟨v_5, h0u7, rfl, rfl, H⟩
 refine pu hT 1 Y (ng (AtC.ret ?_))
 exact r1 2 Y Y Y H
theorem lift_ref02uOf (x0 : Bool × Sl × Sl) (w : World) (m : Heap) (hr : Rel ⟨m, []⟩ w.heap) (S : (Bool × Sl × Sl) → Heap → Prop) (H : ref02uOf x0 m S) :
 Calls Tryz.prog 36 #[Value.agg (C_bool_sl_sl x0).toArray] w (Post ⟨w, m⟩ (fun r => Value.agg (C_bool_sl_sl r).toArray) S) := by
 refine Calls.lift (args := [Value.agg (C_bool_sl_sl x0).toArray]) Tryz.func36 Y Tryz.ntmps36 (Nat.le_of_ble_eq_true Y) hr (ref02uOf x0 m S) H (fun H => ?_)
 refine AtC.pick (ts := [0]) Y ?_
 unfold ref02uOf at H
 refine sR (AtL.e Y (EffX.boxP (cs := [_, _, _]) Y Y Y H) ?_)
 rintro _ _ ⟨b, _, rfl, rfl, _, H⟩
 refine AtL.e Y (EffX.allocP (cs := [_, _, _]) hT Y Y H) ?_
 rintro _ _ ⟨b_1, _, rfl, rfl, _, H⟩
 refine AtL.nil ?_
 replace H := H.self
 refine tg ?_
 refine AtC.joinSeq (β := Nat) (fun (t0 : Bool × Sl × Sl) (bb : Nat) => [(3, Value.pointer (some ⟨bb, 0, none⟩))]) (fun (t0 : Bool × Sl × Sl) (bb : Nat) => [(bb, [Value.bool t0.1, Sl.toV t0.2.1, Sl.toV t0.2.2])]) [2] [0] H Y Y (fun t0 bb h0u1 H => ?_) (fun J1 H HK1 => ?_)
 refine AtC.joinSeq (β := Unit) (fun (t0u1 : Bool × Sl × Sl) (bb_1 : Unit) => []) (fun (t0u1 : Bool × Sl × Sl) (bb_1 : Unit) => [(bb, [Value.bool t0u1.1, Sl.toV t0u1.2.1, Sl.toV t0u1.2.2])]) [2, 3] [1] H Y Y (fun t0u1 bb_1 h0u13 H => ?_) (fun J5 H HK5 => ?_)
 refine sR (AtL.q Y (lS hT 0 [_, _, _] Y Y Y Y Y Y Y Y) (AtL.e Y (EffX.storeSP (i := 1) (qv := [(_, [_, _, _]), (_, [_, _, _])]) hT Y Y Y Y Y Y Y Y Y Y) ?_))
 rintro _ _ rfl
 refine ng (AtC.ret ?_)
 exact AtE.retN (rs := [.cell 2 55]) Y (ResAll.cons (ResAt.cellSP (i := 1) (l := [_, _, _]) hT Y Y Y Y Y Y Y) ResAll.nil) Y H
 refine sR (pu hT 1 Y (AtL.q Y (lP hT 0 Y) (pu hT 2 Y (ng ?_))))
 refine AtC.condB H Y (fun H => ?_) (fun H => ?_)
 refine AtC.region ?_
 refine AtLX.bs (hT := hT) (cs := [_]) H Y Y Y Y Y Y Y Y Y (fun a h0u14 H => ?_)
 refine pu hT 1 Y (AtL.e Y (EffX.storeP (i := 0) (qv := [(_, [_, _, _]), (_, [_, _, _])]) hT Y Y Y Y Y Y Y Y Y) ?_)
 rintro _ _ rfl
 refine AtL.nil ?_
 exact AtE.then_n ((HK5 _ () _ H).pickP (ts := [2, 3]) (is := [0, 1]) Y Y (by decide) Y)
 refine AtC.skip ?_
 exact AtE.then_n ((HK5 _ () _ H).pickP (ts := [2, 3]) (is := [0, 1]) Y Y (by decide) Y)
 apply AtC.stages [6, 9, 11, 12] [[], [], [], [], [], [], [], [], [], [6], [6, 9], [], [6, 9, 11]] [[], [0], [0, 1], [], [3], [3, 4], [3, 4, 5], [], [7], [3, 4, 5, 6, 7, 8], [0, 1, 2, 3, 4, 5, 6, 7, 8, 9], [], [0, 1, 2, 3, 4, 5, 6, 7, 8, 9, 10, 11]] hmix (by kernel_rfl) [(4, _), (5, _), (6, _), (7, _), (8, _), (9, _), (11, _), (12, _)] Y 4 Y
 refine Stg.go [0, 1, 2, 3, 4, 5, 7, 8] [6, 11] Y Y (qp hT Y (qp hT Y (qq Y (lP hT 1 Y) Y (qp hT Y (qp hT Y (qq Y (lP hT 1 Y) Y (qp hT Y (qq Y (lP hT 1 Y) Y QAll.nil)))))))) ?_
 refine EAll.cons ?_ ?_
 replace H := H.self
 refine EOp.e Y Y Y (cl (fun h => ref01uOf _ h _) H Y Tryz.call96 Y (fun w m hr hw => lift_ref01uOf _ w m hr _ hw)) ?_
 rintro _ _ ⟨v, h0u3, rfl, rfl, H⟩
 apply Stg.next [(10, _)] Y Y
 refine Stg.go [0, 1, 2, 7, 8] [9, 11] Y Y (qp hT Y (qp hT Y (qq Y (lP hT 1 Y) Y (qp hT Y (qq Y (lP hT 1 Y) Y QAll.nil))))) ?_
 refine EAll.cons ?_ ?_
 replace H := H.self
 refine EOp.e Y Y Y (cl (fun h => ref01uOf _ h _) H Y Tryz.call96 Y (fun w m hr hw => lift_ref01uOf _ w m hr _ hw)) ?_
 rintro _ _ ⟨v_1, h0u5, rfl, rfl, H⟩
 apply Stg.next [(13, _), (14, _)] Y Y
 refine Stg.go [0, 1, 2, 10] [11] Y Y (qp hT Y (qp hT Y (qq Y (lP hT 1 Y) Y (qq Y (Quiet1.build (cs := [_, _, _]) hT Y Y Y Y Y Y) Y QAll.nil)))) ?_
 refine EAll.cons ?_ EAll.nil
 refine EOp.e Y Y Y (EffX.allocP (cs := [_, _, _]) hT Y Y H) ?_
 rintro _ _ ⟨b_2, _, rfl, rfl, he1, H⟩
 apply Stg.next [(3, _)] Y Y
 refine Stg.go [0, 1, 2, 10] [12] Y Y (qp hT Y (qp hT Y (qq Y (lP hT 2 Y) Y (qq Y (Quiet1.build (cs := [_, _, _]) hT Y Y Y Y Y Y) Y QAll.nil)))) ?_
 refine EAll.cons ?_ EAll.nil
 refine EOp.e Y Y Y (EffX.storeSP (i := 0) (qv := [(_, [_, _, _]), (_, [_, _, _]), (_, [_, _, _])]) hT Y Y Y Y Y Y Y Y Y Y) ?_
 rintro _ _ rfl
 apply Stg.next [] Y Y
 refine Stg.fin [] Y Y QAll.nil ?_
 replace H := H.self
 exact AtE.then_n ((HK1 _ b_2 _ H).pickP (ts := [3, 2]) (is := [0, 1]) Y Y (by decide) Y)
 refine EAll.cons ?_ EAll.nil
 refine EOp.e Y Y Y (EffX.allocP (cs := [_, _, _]) hT Y Y H) ?_
 rintro _ _ ⟨b_3, _, rfl, rfl, he2, H⟩
 apply Stg.next [(3, _)] Y Y
 refine Stg.go [0, 1, 2, 7, 8] [9] Y Y (qp hT Y (qp hT Y (qq Y (lP hT 2 Y) Y (qp hT Y (qq Y (lP hT 2 Y) Y QAll.nil))))) ?_
 refine EAll.cons ?_ EAll.nil
 replace H := H.self
 refine EOp.e Y Y Y (cl (fun h => ref01uOf _ h _) H Y Tryz.call96 Y (fun w m hr hw => lift_ref01uOf _ w m hr _ hw)) ?_
 rintro _ _ ⟨v_2, h0u7, rfl, rfl, H⟩
 apply Stg.next [(13, _), (14, _)] Y Y
 refine Stg.go [0, 1, 2, 10] [12] Y Y (qp hT Y (qp hT Y (qq Y (lP hT 2 Y) Y (qq Y (Quiet1.build (cs := [_, _, _]) hT Y Y Y Y Y Y) Y QAll.nil)))) ?_
 refine EAll.cons ?_ EAll.nil
 refine EOp.e Y Y Y (EffX.storeSP (i := 0) (qv := [(_, [_, _, _]), (_, [_, _, _]), (_, [_, _, _])]) hT Y Y Y Y Y Y Y Y Y Y) ?_
 rintro _ _ rfl
 apply Stg.next [] Y Y
 refine Stg.fin [] Y Y QAll.nil ?_
 replace H := H.self
 exact AtE.then_n ((HK1 _ b_3 _ H).pickP (ts := [3, 2]) (is := [0, 1]) Y Y (by decide) Y)
 refine EAll.cons ?_ EAll.nil
 refine EOp.e Y Y Y (EffX.allocP (cs := [_, _, _]) hT Y Y H) ?_
 rintro _ _ ⟨b_4, _, rfl, rfl, he3, H⟩
 apply Stg.next [(3, _)] Y Y
 refine Stg.go [0, 1, 2, 3, 4, 5, 7, 8] [6] Y Y (qp hT Y (qp hT Y (qq Y (lP hT 2 Y) Y (qp hT Y (qp hT Y (qq Y (lP hT 2 Y) Y (qp hT Y (qq Y (lP hT 2 Y) Y QAll.nil)))))))) ?_
 refine EAll.cons ?_ EAll.nil
 replace H := H.self
 refine EOp.e Y Y Y (cl (fun h => ref01uOf _ h _) H Y Tryz.call96 Y (fun w m hr hw => lift_ref01uOf _ w m hr _ hw)) ?_
 rintro _ _ ⟨v_3, h0u9, rfl, rfl, H⟩
 apply Stg.next [(10, _)] Y Y
 refine Stg.go [0, 1, 2, 7, 8] [9] Y Y (qp hT Y (qp hT Y (qq Y (lP hT 2 Y) Y (qp hT Y (qq Y (lP hT 2 Y) Y QAll.nil))))) ?_
 refine EAll.cons ?_ EAll.nil
 replace H := H.self
 refine EOp.e Y Y Y (cl (fun h => ref01uOf _ h _) H Y Tryz.call96 Y (fun w m hr hw => lift_ref01uOf _ w m hr _ hw)) ?_
 rintro _ _ ⟨v_4, h0u11, rfl, rfl, H⟩
 apply Stg.next [(13, _), (14, _)] Y Y
 refine Stg.go [0, 1, 2, 10] [12] Y Y (qp hT Y (qp hT Y (qq Y (lP hT 2 Y) Y (qq Y (Quiet1.build (cs := [_, _, _]) hT Y Y Y Y Y Y) Y QAll.nil)))) ?_
 refine EAll.cons ?_ EAll.nil
 refine EOp.e Y Y Y (EffX.storeSP (i := 0) (qv := [(_, [_, _, _]), (_, [_, _, _]), (_, [_, _, _])]) hT Y Y Y Y Y Y Y Y Y Y) ?_
 rintro _ _ rfl
 apply Stg.next [] Y Y
 refine Stg.fin [] Y Y QAll.nil ?_
 replace H := H.self
 exact AtE.then_n ((HK1 _ b_4 _ H).pickP (ts := [3, 2]) (is := [0, 1]) Y Y (by decide) Y)
theorem lift_ref02uInt (n : Int) (w : World) (m : Heap) (hr : Rel ⟨m, []⟩ w.heap) (S : (Bool × Sl × Sl) → Heap → Prop) (H : ref02uInt n m S) :
 Calls Tryz.prog 14 #[Value.int .i64 n] w (Post ⟨w, m⟩ (fun r => Value.agg (C_bool_sl_sl r).toArray) S) := by
 refine Calls.lift (args := [Value.int .i64 n]) Tryz.func14 Y Tryz.ntmps14 (Nat.le_of_ble_eq_true Y) hr (ref02uInt n m S) H (fun H => ?_)
 refine AtC.pick (ts := [0]) Y ?_
 unfold ref02uInt at H
 refine sR (AtL.e Y (EffX.allocP (cs := [_, _, _]) hT Y Y H) ?_)
 rintro _ _ ⟨b, _, rfl, rfl, _, H⟩
 refine AtL.nil ?_
 replace H := H.self
 refine tg (sR (pu hT 2 Y ?_))
 refine AtLX.bs (hT := hT) (cs := []) H Y Y Y Y Y Y Y Y Y (fun a h0u1 H => ?_)
 refine AtLX.bs (hT := hT) (cs := [_]) H Y Y Y Y Y Y Y Y Y (fun a_1 h0u2 H => ?_)
 refine AtL.q Y (Quiet1.build (cs := [_, _, _]) hT Y Y Y Y Y Y) (AtL.e Y (EffX.allocP (cs := [_, _, _]) hT Y Y H) ?_)
 rintro _ _ ⟨b_1, _, rfl, rfl, _, H⟩
 replace H := H.self
 refine AtL.e Y (EffX.storeSP (i := 0) (qv := [(_, [_, _, _]), (_, [_, _, _])]) hT Y Y Y Y Y Y Y Y Y Y) ?_
 rintro _ _ rfl
 refine ng ?_
 refine AtC.joinSeq (β := Unit) (fun (t0 : Int) (bb : Unit) => [(0, Value.int .i64 t0)]) (fun (t0 : Int) (bb : Unit) => []) [2, 3] [0, 1] H Y Y (fun t0 bb h0u4 H => ?_) (fun J1 H HK1 => ?_)
 refine AtC.seq (AtC.block ?_)
 refine AtC.loopM (fun (s0 : Int × Bool × Sl × Sl) => [(0, Value.int .i64 s0.1)]) (fun (s0 : Int × Bool × Sl × Sl) => [(b_1, [Value.bool s0.2.1, Sl.toV s0.2.2.1, Sl.toV s0.2.2.2])]) [2, 3] [0, 2, 3] [1] [0, 1] H Y Y Y (by decide) Y (fun Kp2 s0 h0u5 H Q2 HK2 => ?_)
 refine AtC.seq (sR (pu hT 2 Y (ng ?_)))
 refine AtC.condB H Y (fun H => ?_) (fun H => ?_)
 refine AtC.skip (tg (AtC.block (sR (pu hT 1 Y (AtL.q Y (lP hT 0 Y) ?_)))))
 refine pu hT 2 Y ?_
 refine AtLX.bs (hT := hT) (cs := [_]) H Y Y Y Y Y Y Y Y Y (fun a_2 h0u6 H => ?_)
 refine AtL.e Y (EffX.appendS (s := _) (u := _) hT Y Y Y Y Y Y Y Y Y Y (by decide) H) ?_
 rintro _ _ ⟨v_3, h0u7, rfl, rfl, H⟩
 refine pu hT 1 Y (AtL.e Y (EffX.storeP (i := 0) (qv := [(_, [_, _, _]), (_, [_, _, _])]) hT Y Y Y Y Y Y Y Y Y) ?_)
 rintro _ _ rfl
 refine ng (AtC.region (pu hT 3 Y ?_))
 replace H := H _ rfl
 refine AtL.nil (AtE.blk_n ?_)
 exact AtE.then_n ((HK2 _ _ H).pickP (ts := [0, 2, 3]) (is := [0, 1]) Y Y (by decide) Y)
 refine AtC.exit (AtE.then_x (AtE.then_x (AtE.blk_hit (tg (sR ?_)))))
 refine AtL.q Y (lS hT 0 [_, _, _] Y Y Y Y Y Y Y Y) (AtL.e Y (EffX.storeSP (i := 1) (qv := [(_, [_, _, _]), (_, [_, _, _])]) hT Y Y Y Y Y Y Y Y Y Y) ?_)
 rintro _ _ rfl
 refine ng (AtC.ret ?_)
 exact AtE.retN (rs := [.cell 2 55]) Y (ResAll.cons (ResAt.cellSP (i := 1) (l := [_, _, _]) hT Y Y Y Y Y Y Y) ResAll.nil) Y H
 refine sR (pu hT 2 Y (ng ?_))
 refine AtC.condB H Y (fun H => ?_) (fun H => ?_)
 refine AtC.region (pu hT 3 Y ?_)
 replace H := H _ rfl
 refine AtL.nil ?_
 exact AtE.then_n ((HK1 _ () _ H).pickP (ts := [0, 2, 3]) (is := [0, 1]) Y Y (by decide) Y)
 refine AtC.skip ?_
 exact AtE.then_n ((HK1 _ () _ H).pickP (ts := [0, 2, 3]) (is := [0, 1]) Y Y (by decide) Y)
theorem lift_ref01uCmp (x0 : Sl) (y : Sl) (w : World) (m : Heap) (hr : Rel ⟨m, []⟩ w.heap) (S : Int → Heap → Prop) (H : ref01uCmp x0 y m S) :
 Calls Tryz.prog 119 #[Sl.toV x0, Sl.toV y] w (Post ⟨w, m⟩ (Value.int .i64) S) := by
 refine Calls.lift (args := [Sl.toV x0, Sl.toV y]) Tryz.func119 Y Tryz.ntmps119 (Nat.le_of_ble_eq_true Y) hr (ref01uCmp x0 y m S) H (fun H => ?_)
 refine AtC.pick (ts := [0, 1]) Y ?_
 unfold ref01uCmp at H
 refine sR (pu hT 1 Y (ng (AtC.seq (sR (pu hT 5 Y ?_)))))
 refine ng ?_
 refine AtC.condB H Y (fun H => ?_) (fun H => ?_)
 refine AtC.seq (sR (pu hT 5 Y (ng ?_)))
 refine AtC.condB H Y (fun H => ?_) (fun H => ?_)
 refine sR (pu hT 1 Y (ng (AtC.ret (AtE.then_r (AtE.then_r ?_)))))
 exact r1 4 Y Y Y H
 refine AtC.skip (tg (sR (pu hT 1 Y (ng (AtC.ret ?_)))))
 refine AtE.then_r ?_
 exact r1 4 Y Y Y H
 refine AtC.skip (tg (AtC.seq (sR (pu hT 4 Y ?_))))
 replace H := H _ rfl
 refine ng (AtC.block ?_)
 refine AtC.loopM (fun (s0 : Int) => [(5, Value.int .i64 s0)]) (fun (s0 : Int) => []) [0, 1] [5, 0, 1] [] [] H Y Y Y (by decide) Y (fun Kp1 s0 h0 H Q1 HK1 => ?_)
 refine AtC.seq (sR (pu hT 2 Y (ng ?_)))
 refine AtC.condB H Y (fun H => ?_) (fun H => ?_)
 refine AtC.skip (tg (AtC.seq (AtC.block (AtC.seq (AtC.seqD hmix (by kernel_rfl) ?_)))))
 refine AtD.pures hT 2 _ _ _ _ Y ?_
 obtain ⟨a_, hc1, hd1, H⟩ := H
 refine AtD.q Y (Quiet1.idxS hT Y Y Y Y Y hc1 hd1) ?_
 obtain ⟨v, hc2, H⟩ := H
 refine AtD.q Y (Quiet1.load hT Y Y Y hc2) (AtD.pures hT 2 _ _ _ _ Y ?_)
 obtain ⟨a_1_, hc3, hd3, H⟩ := H
 refine AtD.q Y (Quiet1.idxS hT Y Y Y Y Y hc3 hd3) ?_
 obtain ⟨v_1, hc4, H⟩ := H
 refine AtD.q Y (Quiet1.load hT Y Y Y hc4) (AtD.pures hT 1 _ _ _ _ Y (AtD.nil (tg ?_)))
 refine AtC.condB H Y (fun H => ?_) (fun H => ?_)
 refine sR (pu hT 1 Y (ng (AtC.ret (AtE.then_r (AtE.blk_r ?_)))))
 refine AtE.then_r (AtE.then_r (AtE.blk_r (AtE.then_r ?_)))
 exact r1 4 Y Y Y H
 refine AtC.skip (tg (AtC.seqD hmix (by kernel_rfl) (AtD.pures hT 2 _ _ _ _ Y ?_)))
 obtain ⟨a_2_, hc5, hd5, H⟩ := H
 refine AtD.q Y (Quiet1.idxS hT Y Y Y Y Y hc5 hd5) ?_
 obtain ⟨v_2, hc6, H⟩ := H
 refine AtD.q Y (Quiet1.load hT Y Y Y hc6) (AtD.pures hT 2 _ _ _ _ Y ?_)
 obtain ⟨a_3_, hc7, hd7, H⟩ := H
 refine AtD.q Y (Quiet1.idxS hT Y Y Y Y Y hc7 hd7) ?_
 obtain ⟨v_3, hc8, H⟩ := H
 refine AtD.q Y (Quiet1.load hT Y Y Y hc8) (AtD.pures hT 1 _ _ _ _ Y (AtD.nil (tg ?_)))
 refine AtC.condB H Y (fun H => ?_) (fun H => ?_)
 refine sR (pu hT 1 Y (ng (AtC.ret (AtE.blk_r (AtE.then_r ?_)))))
 refine AtE.then_r (AtE.blk_r (AtE.then_r ?_))
 exact r1 4 Y Y Y H
 refine AtC.skip (AtE.blk_n (tg (AtC.region (pu hT 3 Y ?_))))
 replace H := H _ rfl
 refine AtL.nil ?_
 exact AtE.then_n ((HK1 _ _ H).pickP (ts := [5, 0, 1]) (is := []) Y Y (by decide) Y)
 refine AtC.exit (AtE.then_x (AtE.then_x (AtE.blk_hit (tg (sR ?_)))))
 refine pu hT 1 Y (ng (AtC.ret ?_))
 exact r1 4 Y Y Y H
theorem lift_ref01uSub (x0 : Sl) (y : Sl) (w : World) (m : Heap) (hr : Rel ⟨m, []⟩ w.heap) (S : Sl → Heap → Prop) (H : ref01uSub x0 y m S) :
 Calls Tryz.prog 120 #[Sl.toV x0, Sl.toV y] w (Post ⟨w, m⟩ Sl.toV S) := by
 refine Calls.lift (args := [Sl.toV x0, Sl.toV y]) Tryz.func120 Y Tryz.ntmps120 (Nat.le_of_ble_eq_true Y) hr (ref01uSub x0 y m S) H (fun H => ?_)
 refine AtC.pick (ts := [0, 1]) Y ?_
 unfold ref01uSub at H
 refine sR (pu hT 1 Y (ng (AtC.seq (sR (pu hT 2 Y ?_)))))
 refine AtL.e Y (cl (fun h => ref01uCmp _ _ h _) H Y Tryz.call119 Y (fun w m hr hw => lift_ref01uCmp _ _ w m hr _ hw)) ?_
 rintro _ _ ⟨v, h0, rfl, rfl, H⟩
 refine pu hT 1 Y (ng ?_)
 refine AtC.condB H Y (fun H => ?_) (fun H => ?_)
 refine sR ?_
 refine AtLX.bs (hT := hT) (cs := []) H Y Y Y Y Y Y Y Y Y (fun a h0u1 H => ?_)
 refine pu hT 1 Y (ng (AtC.ret (AtE.then_r ?_)))
 exact r1 4 Y Y Y H
 refine AtC.skip (tg (sR ?_))
 refine AtLX.bs (hT := hT) (cs := []) H Y Y Y Y Y Y Y Y Y (fun a_1 h0u2 H => ?_)
 refine pu hT 1 Y ?_
 replace H := H _ rfl
 refine ng (sR (pu hT 1 Y (ng (AtC.seq (sR ?_)))))
 refine pu hT 1 Y (ng (AtC.block ?_))
 refine AtC.loopM (fun (s0 : Sl × Int × Int) => [(5, Sl.toV s0.1), (6, Value.int .i64 s0.2.1), (7, Value.int .i64 s0.2.2)]) (fun (s0 : Sl × Int × Int) => []) [0, 1] [5, 6, 7, 0, 1] [] [] H Y Y Y (by decide) Y (fun Kp1 s0 h0u3 H Q1 HK1 => ?_)
 refine AtC.seq (sR (pu hT 4 Y (ng ?_)))
 refine AtC.condB H Y (fun H => ?_) (fun H => ?_)
 refine AtC.skip (tg (AtC.seq (AtC.block (sR (pu hT 2 Y ?_)))))
 obtain ⟨a_2_, hc1, hd1, H⟩ := H
 refine AtL.q Y (Quiet1.idxS hT Y Y Y Y Y hc1 hd1) ?_
 obtain ⟨v_3, hc2, H⟩ := H
 refine AtL.q Y (Quiet1.load hT Y Y Y hc2) (pu hT 3 Y ?_)
 replace H := H _ rfl
 refine ng ?_
 refine AtC.joinSeq (β := Unit) (fun (t0 : Int) (bb : Unit) => [(8, Value.int .i64 t0)]) (fun (t0 : Int) (bb : Unit) => []) [0, 1, 5, 7] [] H Y Y (fun t0 bb h0u4 H => ?_) (fun J4 H HK4 => ?_)
 refine sR (pu hT 1 Y (ng ?_))
 refine AtC.joinSeq (β := Unit) (fun (t0u1 : Int × Int) (bb_1 : Unit) => [(6, Value.int .i64 t0u1.1), (8, Value.int .i64 t0u1.2)]) (fun (t0u1 : Int × Int) (bb_1 : Unit) => []) [0, 1, 5, 7] [] H Y Y (fun t0u1 bb_1 h0u5 H => ?_) (fun J7 H HK7 => ?_)
 refine AtC.region (pu hT 2 Y ?_)
 refine AtLX.bs (hT := hT) (cs := [_]) H Y Y Y Y Y Y Y Y Y (fun a_4 h0u6 H => ?_)
 refine AtL.e Y (EffX.appendS (s := _) (u := _) hT Y Y Y Y Y Y Y Y Y Y (by decide) H) ?_
 rintro _ _ ⟨v_6, h0u7, rfl, rfl, H⟩
 refine pu hT 1 Y (AtL.nil (AtE.blk_n (tg (AtC.region (pu hT 3 Y ?_)))))
 replace H := H _ rfl
 refine AtL.nil ?_
 exact AtE.then_n ((HK1 _ _ H).pickP (ts := [5, 6, 7, 0, 1]) (is := []) Y Y (by decide) Y)
 refine sR (pu hT 2 Y (ng ?_))
 refine AtC.condB H Y (fun H => ?_) (fun H => ?_)
 refine sR (pu hT 3 Y ?_)
 replace H := H _ rfl
 refine ng (AtC.region (pu hT 1 Y (AtL.nil ?_)))
 exact AtE.then_n ((HK7 _ () _ H).pickP (ts := [6, 8, 0, 1, 5, 7]) (is := []) Y Y (by decide) Y)
 refine AtC.skip ?_
 exact AtE.then_n ((HK7 _ () _ H).pickP (ts := [6, 8, 0, 1, 5, 7]) (is := []) Y Y (by decide) Y)
 refine sR (pu hT 4 Y (ng ?_))
 refine AtC.condB H Y (fun H => ?_) (fun H => ?_)
 refine AtC.region (pu hT 3 Y ?_)
 obtain ⟨a_3_, hc4, hd4, H⟩ := H
 refine AtL.q Y (Quiet1.idxS hT Y Y Y Y Y hc4 hd4) ?_
 obtain ⟨v_4, hc5, H⟩ := H
 refine AtL.q Y (Quiet1.load hT Y Y Y hc5) (pu hT 2 Y ?_)
 replace H := H _ rfl
 refine AtL.nil ?_
 exact AtE.then_n ((HK4 _ () _ H).pickP (ts := [8, 0, 1, 5, 7]) (is := []) Y Y (by decide) Y)
 refine AtC.skip ?_
 exact AtE.then_n ((HK4 _ () _ H).pickP (ts := [8, 0, 1, 5, 7]) (is := []) Y Y (by decide) Y)
 refine AtC.exit (AtE.then_x (AtE.then_x (AtE.blk_hit (tg (sR ?_)))))
 refine pu hT 1 Y (AtL.e Y (cl (fun h => ref01uCut _ h _) H Y Tryz.call142 Y (fun w m hr hw => lift_ref01uCut _ w m hr _ hw)) ?_)
 rintro _ _ ⟨v_7, h0u8, rfl, rfl, H⟩
 refine pu hT 1 Y (ng (AtC.ret ?_))
 exact r1 4 Y Y Y H
theorem lift_ref01uDiv (x0 : Sl) (y : Sl) (w : World) (m : Heap) (hr : Rel ⟨m, []⟩ w.heap) (S : (Sl × Sl) → Heap → Prop) (H : ref01uDiv x0 y m S) :
 Calls Tryz.prog 155 #[Sl.toV x0, Sl.toV y] w (Post ⟨w, m⟩ (fun r => Value.tuple #[Sl.toV r.1, Sl.toV r.2]) S) := by
 refine Calls.lift (args := [Sl.toV x0, Sl.toV y]) Tryz.func155 Y Tryz.ntmps155 (Nat.le_of_ble_eq_true Y) hr (ref01uDiv x0 y m S) H (fun H => ?_)
 refine AtC.pick (ts := [0, 1]) Y ?_
 unfold ref01uDiv at H
 refine sR (pu hT 2 Y (ng (AtC.seq (sR (pu hT 3 Y ?_)))))
 refine ng ?_
 refine AtC.condB H Y (fun H => ?_) (fun H => ?_)
 refine sR ?_
 refine AtLX.bs (hT := hT) (cs := []) H Y Y Y Y Y Y Y Y Y (fun a h0 H => ?_)
 refine AtLX.bs (hT := hT) (cs := []) H Y Y Y Y Y Y Y Y Y (fun a_1 h0u1 H => ?_)
 refine pu hT 2 Y (ng (AtC.ret (AtE.then_r ?_)))
 exact AtE.retN (rs := [.tmp 4, .tmp 5]) Y (ResAll.cons (ResAt.tmp Y) (ResAll.cons (ResAt.tmp Y) ResAll.nil)) Y H
 refine AtC.skip (tg (sR (pu hT 2 Y ?_)))
 replace H := H _ rfl
 refine AtL.e Y (EffX.mkS hT Y Y Y Y Y Y Y Y (by decide) H) ?_
 rintro _ _ ⟨v_2, h0u2, rfl, rfl, H⟩
 refine pu hT 1 Y (ng (sR ?_))
 refine AtLX.bs (hT := hT) (cs := []) H Y Y Y Y Y Y Y Y Y (fun a_2 h0u3 H => ?_)
 refine pu hT 1 Y ?_
 replace H := H _ rfl
 refine ng (AtC.seq (sR (pu hT 4 Y ?_)))
 replace H := H _ rfl
 refine ng (AtC.block ?_)
 refine AtC.loopM (fun (s0 : Sl × Int) => [(7, Sl.toV s0.1), (8, Value.int .i64 s0.2)]) (fun (s0 : Sl × Int) => []) [0, 1, 6] [7, 8, 0, 1, 6] [] [] H Y Y Y (by decide) Y (fun Kp1 s0 h0u4 H Q1 HK1 => ?_)
 refine AtC.seq (sR (pu hT 2 Y (ng ?_)))
 refine AtC.condB H Y (fun H => ?_) (fun H => ?_)
 refine AtC.skip (tg (AtC.seq (AtC.block (sR (pu hT 2 Y ?_)))))
 obtain ⟨a_3_, hc1, hd1, H⟩ := H
 refine AtL.q Y (Quiet1.idxS hT Y Y Y Y Y hc1 hd1) ?_
 obtain ⟨v_4, hc2, H⟩ := H
 refine AtL.q Y (Quiet1.load hT Y Y Y hc2) ?_
 refine AtLX.bs (hT := hT) (cs := [_]) H Y Y Y Y Y Y Y Y Y (fun a_4 h0u5 H => ?_)
 refine pu hT 1 Y (AtL.e Y (EffX.appendS (s := _) (u := _) hT Y Y Y Y Y Y Y Y Y Y (by decide) H) ?_)
 rintro _ _ ⟨v_6, h0u6, rfl, rfl, H⟩
 refine AtL.e Y (cl (fun h => ref01uCut _ h _) H Y Tryz.call142 Y (fun w m hr hw => lift_ref01uCut _ w m hr _ hw)) ?_
 rintro _ _ ⟨v_7, h0u7, rfl, rfl, H⟩
 refine pu hT 1 Y (ng (AtC.block ?_))
 refine AtC.loopM (fun (s0u1 : Sl) => [(7, Sl.toV s0u1)]) (fun (s0u1 : Sl) => []) [0, 1, 6, 8] [7, 0, 1, 6, 8] [] [] H Y Y Y (by decide) Y (fun Kp4 s0u1 h0u8 H Q4 HK4 => ?_)
 refine AtC.seq (sR (pu hT 2 Y (AtL.e Y (cl (fun h => ref01uCmp _ _ h _) H Y Tryz.call119 Y (fun w m hr hw => lift_ref01uCmp _ _ w m hr _ hw)) ?_)))
 rintro _ _ ⟨v_8, h0u9, rfl, rfl, H⟩
 refine pu hT 1 Y (ng ?_)
 refine AtC.condB H Y (fun H => ?_) (fun H => ?_)
 refine AtC.skip (tg (AtC.block (sR (pu hT 2 Y (AtL.e Y (cl (fun h => ref01uSub _ _ h _) H Y Tryz.call120 Y (fun w m hr hw => lift_ref01uSub _ _ w m hr _ hw)) ?_)))))
 rintro _ _ ⟨v_9, h0u10, rfl, rfl, H⟩
 refine pu hT 1 Y (ng (AtC.region (pu hT 2 Y ?_)))
 obtain ⟨a_5_, hc4, hd4, H⟩ := H
 refine AtL.q Y (Quiet1.idxS hT Y Y Y Y Y hc4 hd4) ?_
 obtain ⟨v_10, hc5, H⟩ := H
 refine AtL.q Y (Quiet1.load hT Y Y Y hc5) (pu hT 1 Y ?_)
 obtain ⟨a_6_, hc6, hd6, H⟩ := H
 refine AtL.q Y (Quiet1.idxS hT Y Y Y Y Y hc6 hd6) (AtL.e Y (EffX.store hT Y Y Y Y Y H) ?_)
 rintro _ _ ⟨h0u11, rfl, H⟩
 refine AtL.nil (AtE.blk_n ?_)
 exact AtE.then_n ((HK4 _ _ H).pickP (ts := [7, 0, 1, 6, 8]) (is := []) Y Y (by decide) Y)
 refine AtC.exit (AtE.then_x (AtE.then_x (AtE.blk_hit (AtE.blk_n (tg ?_)))))
 refine AtC.region (pu hT 3 Y ?_)
 replace H := H _ rfl
 refine AtL.nil ?_
 exact AtE.then_n ((HK1 _ _ H).pickP (ts := [7, 8, 0, 1, 6]) (is := []) Y Y (by decide) Y)
 refine AtC.exit (AtE.then_x (AtE.then_x (AtE.blk_hit (tg (sR ?_)))))
 refine pu hT 1 Y (AtL.e Y (cl (fun h => ref01uCut _ h _) H Y Tryz.call142 Y (fun w m hr hw => lift_ref01uCut _ w m hr _ hw)) ?_)
 rintro _ _ ⟨v_11, h0u12, rfl, rfl, H⟩
 refine pu hT 3 Y (ng (AtC.ret ?_))
 exact AtE.retN (rs := [.tmp 4, .tmp 5]) Y (ResAll.cons (ResAt.tmp Y) (ResAll.cons (ResAt.tmp Y) ResAll.nil)) Y H
theorem lift_ref01uGcd (x0 : Sl) (y : Sl) (w : World) (m : Heap) (hr : Rel ⟨m, []⟩ w.heap) (S : Sl → Heap → Prop) (H : ref01uGcd x0 y m S) :
 Calls Tryz.prog 154 #[Sl.toV x0, Sl.toV y] w (Post ⟨w, m⟩ Sl.toV S) := by
 refine Calls.lift (args := [Sl.toV x0, Sl.toV y]) Tryz.func154 Y Tryz.ntmps154 (Nat.le_of_ble_eq_true Y) hr (ref01uGcd x0 y m S) H (fun H => ?_)
 refine AtC.pick (ts := [0, 1]) Y ?_
 unfold ref01uGcd at H
 refine sR (pu hT 1 Y (ng (AtC.seq (AtC.block ?_))))
 refine AtC.loopM (fun (s0 : Sl × Sl) => [(0, Sl.toV s0.1), (1, Sl.toV s0.2)]) (fun (s0 : Sl × Sl) => []) [] [0, 1] [] [] H Y Y Y (by decide) Y (fun Kp1 s0 h0 H Q1 HK1 => ?_)
 refine AtC.seq (sR (pu hT 3 Y (ng ?_)))
 refine AtC.condB H Y (fun H => ?_) (fun H => ?_)
 refine AtC.skip (tg (AtC.block (sR (pu hT 2 Y (AtL.e Y (cl (fun h => ref01uDiv _ _ h _) H Y Tryz.call155 Y (fun w m hr hw => lift_ref01uDiv _ _ w m hr _ hw)) ?_)))))
 rintro _ _ ⟨v, h0u1, rfl, rfl, H⟩
 refine pu hT 5 Y (ng (AtC.region (pu hT 4 Y (AtL.nil (AtE.blk_n ?_)))))
 exact AtE.then_n ((HK1 _ _ H).pickP (ts := [0, 1]) (is := []) Y Y (by decide) Y)
 refine AtC.exit (AtE.then_x (AtE.then_x (AtE.blk_hit (tg (sR ?_)))))
 refine pu hT 2 Y (ng (AtC.ret ?_))
 exact r1 4 Y Y Y H
theorem lift_ref02uLow (r : Bool × Sl × Sl) (w : World) (m : Heap) (hr : Rel ⟨m, []⟩ w.heap) (S : (Bool × Sl × Sl) → Heap → Prop) (H : ref02uLow r m S) :
 Calls Tryz.prog 114 #[Value.agg (C_bool_sl_sl r).toArray] w (Post ⟨w, m⟩ (fun r => Value.agg (C_bool_sl_sl r).toArray) S) := by
 refine Calls.lift (args := [Value.agg (C_bool_sl_sl r).toArray]) Tryz.func114 Y Tryz.ntmps114 (Nat.le_of_ble_eq_true Y) hr (ref02uLow r m S) H (fun H => ?_)
 refine AtC.pick (ts := [0]) Y ?_
 unfold ref02uLow at H
 refine sR (AtL.e Y (EffX.boxP (cs := [_, _, _]) Y Y Y H) ?_)
 rintro _ _ ⟨b, _, rfl, rfl, _, H⟩
 refine AtL.e Y (EffX.allocP (cs := [_, _, _]) hT Y Y H) ?_
 rintro _ _ ⟨b_1, _, rfl, rfl, _, H⟩
 refine AtL.nil ?_
 replace H := H.self
 refine tg (AtC.seq (sR (pu hT 1 Y (AtL.q Y (lP hT 1 Y) (pu hT 2 Y ?_)))))
 refine ng ?_
 refine AtC.condB H Y (fun H => ?_) (fun H => ?_)
 refine sR (AtL.e Y (cl (fun h => ref02uInt _ h _) H Y Tryz.call14 Y (fun w m hr hw => lift_ref02uInt _ w m hr _ hw)) ?_)
 rintro _ _ ⟨v, h0u1, rfl, rfl, H⟩
 refine AtL.e Y (EffX.storeSP (i := 0) (qv := [(_, [_, _, _]), (_, [_, _, _])]) hT Y Y Y Y Y Y Y Y Y Y) ?_
 rintro _ _ rfl
 refine ng (AtC.ret (AtE.then_r ?_))
 exact AtE.retN (rs := [.cell 2 55]) Y (ResAll.cons (ResAt.cellSP (i := 0) (l := [_, _, _]) hT Y Y Y Y Y Y Y) ResAll.nil) Y H
 refine AtC.skip (tg (sR (pu hT 1 Y (AtL.q Y (lP hT 1 Y) (pu hT 1 Y ?_)))))
 refine AtL.q Y (lP hT 1 Y) (AtL.e Y (cl (fun h => ref01uGcd _ _ h _) H Y Tryz.call154 Y (fun w m hr hw => lift_ref01uGcd _ _ w m hr _ hw)) ?_)
 rintro _ _ ⟨v_1, h0u2, rfl, rfl, H⟩
 refine pu hT 1 Y (ng (sR (pu hT 1 Y (AtL.q Y (lP hT 1 Y) (pu hT 1 Y ?_)))))
 refine AtL.e Y (cl (fun h => ref01uDiv _ _ h _) H Y Tryz.call155 Y (fun w m hr hw => lift_ref01uDiv _ _ w m hr _ hw)) ?_
 rintro _ _ ⟨v_2, h0u3, rfl, rfl, H⟩
 refine pu hT 5 Y (ng (sR (pu hT 1 Y (AtL.q Y (lP hT 1 Y) (pu hT 1 Y ?_)))))
 refine AtL.e Y (cl (fun h => ref01uDiv _ _ h _) H Y Tryz.call155 Y (fun w m hr hw => lift_ref01uDiv _ _ w m hr _ hw)) ?_
 rintro _ _ ⟨v_3, h0u4, rfl, rfl, H⟩
 refine pu hT 5 Y (ng (sR (pu hT 1 Y (AtL.q Y (lP hT 1 Y) (pu hT 2 Y ?_)))))
 refine AtL.q Y (Quiet1.build (cs := [_, _, _]) hT Y Y Y Y Y Y) (AtL.e Y (EffX.storeSP (i := 0) (qv := [(_, [_, _, _]), (_, [_, _, _])]) hT Y Y Y Y Y Y Y Y Y Y) ?_)
 rintro _ _ rfl
 refine ng (AtC.ret ?_)
 exact AtE.retN (rs := [.cell 2 55]) Y (ResAll.cons (ResAt.cellSP (i := 0) (l := [_, _, _]) hT Y Y Y Y Y Y Y) ResAll.nil) Y H
theorem lift_ref01uLimbs (x0 : Sl) (w : World) (m : Heap) (hr : Rel ⟨m, []⟩ w.heap) (S : Sl → Heap → Prop) (H : ref01uLimbs x0 m S) :
 Calls Tryz.prog 115 #[Sl.toV x0] w (Post ⟨w, m⟩ Sl.toV S) := by
 refine Calls.lift (args := [Sl.toV x0]) Tryz.func115 Y Tryz.ntmps115 (Nat.le_of_ble_eq_true Y) hr (ref01uLimbs x0 m S) H (fun H => ?_)
 refine AtC.pick (ts := [0]) Y ?_
 unfold ref01uLimbs at H
 refine sR (pu hT 1 Y (ng (sR ?_)))
 refine AtLX.bs (hT := hT) (cs := []) H Y Y Y Y Y Y Y Y Y (fun a h0 H => ?_)
 refine pu hT 1 Y ?_
 replace H := H _ rfl
 refine ng (AtC.seq (sR (pu hT 4 Y ?_)))
 replace H := H _ rfl
 refine ng (AtC.block ?_)
 refine AtC.loopM (fun (s0 : Sl × Int) => [(3, Sl.toV s0.1), (4, Value.int .i64 s0.2)]) (fun (s0 : Sl × Int) => []) [0] [3, 4, 0] [] [] H Y Y Y (by decide) Y (fun Kp1 s0 h0u1 H Q1 HK1 => ?_)
 refine AtC.seq (sR (pu hT 2 Y (ng ?_)))
 refine AtC.condB H Y (fun H => ?_) (fun H => ?_)
 refine AtC.skip (tg ?_)
 refine AtC.joinSeq (β := Unit) (fun (t0 : Sl) (bb : Unit) => [(3, Sl.toV t0)]) (fun (t0 : Sl) (bb : Unit) => []) [0, 4] [] H Y Y (fun t0 bb h0u2 H => ?_) (fun J2 H HK2 => ?_)
 refine AtC.region (pu hT 3 Y ?_)
 replace H := H _ rfl
 refine AtL.nil ?_
 exact AtE.then_n ((HK1 _ _ H).pickP (ts := [3, 4, 0]) (is := []) Y Y (by decide) Y)
 refine AtC.block (sR (pu hT 2 Y ?_))
 obtain ⟨a_1_, hc2, hd2, H⟩ := H
 refine AtL.q Y (Quiet1.idxS hT Y Y Y Y Y hc2 hd2) ?_
 obtain ⟨v_1, hc3, H⟩ := H
 refine AtL.q Y (Quiet1.load hT Y Y Y hc3) (pu hT 2 Y ?_)
 replace H := H _ rfl
 refine ng (AtC.seq (sR (pu hT 1 Y (ng (AtC.block ?_)))))
 refine AtC.loopM (fun (s0u1 : Int × Int) => [(5, Value.int .u64 s0u1.1), (6, Value.int .i64 s0u1.2)]) (fun (s0u1 : Int × Int) => []) [0, 3, 4] [5, 6, 0, 3, 4] [] [] H Y Y Y (by decide) Y (fun Kp5 s0u1 h0u3 H Q5 HK5 => ?_)
 refine AtC.seq (sR (pu hT 4 Y (ng ?_)))
 refine AtC.condB H Y (fun H => ?_) (fun H => ?_)
 refine AtC.skip (tg (AtC.seq (AtC.block (sR (pu hT 2 Y ?_)))))
 obtain ⟨a_2_, hc5, hd5, H⟩ := H
 refine AtL.q Y (Quiet1.idxS hT Y Y Y Y Y hc5 hd5) ?_
 obtain ⟨v_2, hc6, H⟩ := H
 refine AtL.q Y (Quiet1.load hT Y Y Y hc6) (pu hT 5 Y ?_)
 replace H := H _ rfl
 refine ng (sR (pu hT 5 Y ?_))
 obtain ⟨a_3_, hc7, hd7, H⟩ := H
 refine AtL.q Y (Quiet1.idxS hT Y Y Y Y Y hc7 hd7) (AtL.e Y (EffX.store hT Y Y Y Y Y H) ?_)
 rintro _ _ ⟨h0u4, rfl, H⟩
 refine ng (AtC.region (pu hT 3 Y ?_))
 replace H := H _ rfl
 refine AtL.nil (AtE.blk_n (tg (AtC.region (pu hT 3 Y ?_))))
 replace H := H _ rfl
 refine AtL.nil ?_
 exact AtE.then_n ((HK5 _ _ H).pickP (ts := [5, 6, 0, 3, 4]) (is := []) Y Y (by decide) Y)
 refine AtC.exit (AtE.then_x (AtE.then_x (AtE.blk_hit (tg (sR ?_)))))
 refine pu hT 2 Y (ng ?_)
 refine AtC.condB H Y (fun H => ?_) (fun H => ?_)
 refine AtC.region (pu hT 3 Y ?_)
 refine AtLX.bs (hT := hT) (cs := [_]) H Y Y Y Y Y Y Y Y Y (fun a_4 h0u5 H => ?_)
 refine AtL.e Y (EffX.appendS (s := _) (u := _) hT Y Y Y Y Y Y Y Y Y Y (by decide) H) ?_
 rintro _ _ ⟨v_4, h0u6, rfl, rfl, H⟩
 refine pu hT 1 Y (AtL.nil (AtE.blk_n ?_))
 exact AtE.then_n ((HK2 _ () _ H).pickP (ts := [3, 0, 4]) (is := []) Y Y (by decide) Y)
 refine AtC.skip (AtE.blk_n ?_)
 exact AtE.then_n ((HK2 _ () _ H).pickP (ts := [3, 0, 4]) (is := []) Y Y (by decide) Y)
 refine AtC.exit (AtE.then_x (AtE.then_x (AtE.blk_hit (tg (sR ?_)))))
 refine pu hT 2 Y (ng (AtC.ret ?_))
 exact r1 2 Y Y Y H
theorem lift_ref02uForm (r : Bool × Sl × Sl) (w : World) (m : Heap) (hr : Rel ⟨m, []⟩ w.heap) (S : (Bool × Sl × Sl) → Heap → Prop) (H : ref02uForm r m S) :
 Calls Tryz.prog 48 #[Value.agg (C_bool_sl_sl r).toArray] w (Post ⟨w, m⟩ (fun r => Value.agg (C_bool_sl_sl r).toArray) S) := by
 refine Calls.lift (args := [Value.agg (C_bool_sl_sl r).toArray]) Tryz.func48 Y Tryz.ntmps48 (Nat.le_of_ble_eq_true Y) hr (ref02uForm r m S) H (fun H => ?_)
 refine AtC.pick (ts := [0]) Y ?_
 unfold ref02uForm at H
 refine sR (AtL.e Y (EffX.boxP (cs := [_, _, _]) Y Y Y H) ?_)
 rintro _ _ ⟨b, _, rfl, rfl, _, H⟩
 refine AtL.e Y (EffX.allocP (cs := [_, _, _]) hT Y Y H) ?_
 rintro _ _ ⟨b_1, _, rfl, rfl, _, H⟩
 refine AtL.nil ?_
 replace H := H.self
 refine tg (sR (AtL.q Y (lS hT 1 [_, _, _] Y Y Y Y Y Y Y Y) (AtL.e Y (cl (fun h => ref02uLow _ h _) H Y Tryz.call114 Y (fun w m hr hw => lift_ref02uLow _ w m hr _ hw)) ?_)))
 rintro _ _ ⟨v, h0u1, rfl, rfl, H⟩
 refine AtL.e Y (EffX.storeSP (i := 1) (qv := [(_, [_, _, _]), (_, [_, _, _])]) hT Y Y Y Y Y Y Y Y Y Y) ?_
 rintro _ _ rfl
 refine ng ?_
 refine AtC.joinSeq (β := Nat) (fun (t0 : Bool × Sl × Sl) (bb : Nat) => [(3, Value.pointer (some ⟨bb, 0, none⟩))]) (fun (t0 : Bool × Sl × Sl) (bb : Nat) => [(bb, [Value.bool t0.1, Sl.toV t0.2.1, Sl.toV t0.2.2])]) [1, 2] [0, 1] H Y Y (fun t0 bb h0u2 H => ?_) (fun J1 H HK1 => ?_)
 refine AtC.joinSeq (β := Unit) (fun (t0u1 : Bool × Sl × Sl) (bb_1 : Unit) => []) (fun (t0u1 : Bool × Sl × Sl) (bb_1 : Unit) => [(bb, [Value.bool t0u1.1, Sl.toV t0u1.2.1, Sl.toV t0u1.2.2])]) [2, 3] [1] H Y Y (fun t0u1 bb_1 h0u8 H => ?_) (fun J4 H HK4 => ?_)
 refine sR (AtL.q Y (lS hT 0 [_, _, _] Y Y Y Y Y Y Y Y) (AtL.e Y (EffX.storeSP (i := 1) (qv := [(_, [_, _, _]), (_, [_, _, _])]) hT Y Y Y Y Y Y Y Y Y Y) ?_))
 rintro _ _ rfl
 refine ng (AtC.ret ?_)
 exact AtE.retN (rs := [.cell 2 38]) Y (ResAll.cons (ResAt.cellSP (i := 1) (l := [_, _, _]) hT Y Y Y Y Y Y Y) ResAll.nil) Y H
 refine AtC.joinSeq (β := Unit) (fun (t0u2 : Bool) (bb_2 : Unit) => [(23, Value.bool t0u2)]) (fun (t0u2 : Bool) (bb_2 : Unit) => []) [1, 2, 3] [0, 1, 2] H Y Y (fun t0u2 bb_2 h0u9 H => ?_) (fun J5 H HK5 => ?_)
 refine AtC.condB H Y (fun H => ?_) (fun H => ?_)
 refine AtC.region (pu hT 1 Y (AtL.q Y (lP hT 2 Y) (AtL.e Y (cl (fun h => ref01uLimbs _ h _) H Y Tryz.call115 Y (fun w m hr hw => lift_ref01uLimbs _ w m hr _ hw)) ?_)))
 rintro _ _ ⟨v_4, h0u10, rfl, rfl, H⟩
 refine pu hT 1 Y (AtL.e Y (EffX.storeP (i := 0) (qv := [(_, [_, _, _]), (_, [_, _, _]), (_, [_, _, _])]) hT Y Y Y Y Y Y Y Y Y) ?_)
 rintro _ _ rfl
 refine AtL.nil ?_
 exact AtE.then_n ((HK4 _ () _ H).pickP (ts := [2, 3]) (is := [0, 1]) Y Y (by decide) Y)
 refine AtC.skip ?_
 exact AtE.then_n ((HK4 _ () _ H).pickP (ts := [2, 3]) (is := [0, 1]) Y Y (by decide) Y)
 refine AtC.region (pu hT 1 Y (AtL.q Y (lP hT 2 Y) (pu hT 3 Y ?_)))
 refine AtL.splitB (t := 17) H Y (fun H => ?_) (fun H => ?_)
 refine nf Y (nf Y (nf Y (nf Y (nf Y (pu hT 1 Y ?_)))))
 refine AtL.nil ?_
 exact AtE.then_n ((HK5 _ () _ H).pickP (ts := [23, 1, 2, 3]) (is := [0, 1, 2]) Y Y (by decide) Y)
 refine ys Y (pu hT 1 Y (ys Y (AtL.q Y (lP hT 2 Y) (ys Y ?_))))
 obtain ⟨a_, hc5, hd5, H⟩ := H
 refine AtL.q Y (Quiet1.idxS hT Y Y Y Y Y hc5 hd5) (ys Y ?_)
 obtain ⟨v_3, hc6, H⟩ := H
 refine AtL.q Y (Quiet1.load hT Y Y Y hc6) (ys Y (pu hT 1 Y (pu hT 1 Y (AtL.nil ?_))))
 exact AtE.then_n ((HK5 _ () _ H).pickP (ts := [23, 1, 2, 3]) (is := [0, 1, 2]) Y Y (by decide) Y)
 apply AtC.stages [4, 7, 8] [[], [], [], [], [], [4], [4], [], [4, 7]] [[], [0], [], [2], [2, 3], [0, 1, 2, 3, 4], [0, 1, 2, 3, 4, 5], [], [0, 1, 2, 3, 4, 5, 6, 7]] hmix (by kernel_rfl) [(6, _), (7, _), (8, _), (9, _)] Y 3 Y
 refine Stg.go [0, 1, 2, 3] [4, 7] Y Y (qp hT Y (qq Y (lP hT 1 Y) Y (qp hT Y (qq Y (lP hT 1 Y) Y QAll.nil)))) ?_
 refine EAll.cons ?_ ?_
 replace H := H.self
 refine EOp.e Y Y Y (cl (fun h => ref01uLimbs _ h _) H Y Tryz.call115 Y (fun w m hr hw => lift_ref01uLimbs _ w m hr _ hw)) ?_
 rintro _ _ ⟨v_1, h0u4, rfl, rfl, H⟩
 apply Stg.next [(10, _), (11, _), (12, _)] Y Y
 refine Stg.go [0, 1, 5, 6] [7] Y Y (qp hT Y (qq Y (lP hT 1 Y) Y (qq Y (Quiet1.build (cs := [_, _]) hT Y Y Y Y Y Y) Y (qq Y (Quiet1.build (cs := [_, _, _]) hT Y Y Y Y Y Y) Y QAll.nil)))) ?_
 refine EAll.cons ?_ EAll.nil
 refine EOp.e Y Y Y (EffX.allocP (cs := [_, _, _]) hT Y Y H) ?_
 rintro _ _ ⟨b_2, _, rfl, rfl, he1, H⟩
 apply Stg.next [(3, _)] Y Y
 refine Stg.go [0, 1, 5, 6] [8] Y Y (qp hT Y (qq Y (lP hT 2 Y) Y (qq Y (Quiet1.build (cs := [_, _]) hT Y Y Y Y Y Y) Y (qq Y (Quiet1.build (cs := [_, _, _]) hT Y Y Y Y Y Y) Y QAll.nil)))) ?_
 refine EAll.cons ?_ EAll.nil
 refine EOp.e Y Y Y (EffX.storeSP (i := 0) (qv := [(_, [_, _, _]), (_, [_, _, _]), (_, [_, _, _])]) hT Y Y Y Y Y Y Y Y Y Y) ?_
 rintro _ _ rfl
 apply Stg.next [] Y Y
 refine Stg.fin [] Y Y QAll.nil ?_
 replace H := H.self
 exact AtE.then_n ((HK1 _ b_2 _ H).pickP (ts := [3, 1, 2]) (is := [0, 1, 2]) Y Y (by decide) Y)
 refine EAll.cons ?_ EAll.nil
 refine EOp.e Y Y Y (EffX.allocP (cs := [_, _, _]) hT Y Y H) ?_
 rintro _ _ ⟨b_3, _, rfl, rfl, he2, H⟩
 apply Stg.next [(3, _)] Y Y
 refine Stg.go [0, 1, 2, 3] [4] Y Y (qp hT Y (qq Y (lP hT 2 Y) Y (qp hT Y (qq Y (lP hT 2 Y) Y QAll.nil)))) ?_
 refine EAll.cons ?_ EAll.nil
 replace H := H.self
 refine EOp.e Y Y Y (cl (fun h => ref01uLimbs _ h _) H Y Tryz.call115 Y (fun w m hr hw => lift_ref01uLimbs _ w m hr _ hw)) ?_
 rintro _ _ ⟨v_2, h0u6, rfl, rfl, H⟩
 apply Stg.next [(10, _), (11, _), (12, _)] Y Y
 refine Stg.go [0, 1, 5, 6] [8] Y Y (qp hT Y (qq Y (lP hT 2 Y) Y (qq Y (Quiet1.build (cs := [_, _]) hT Y Y Y Y Y Y) Y (qq Y (Quiet1.build (cs := [_, _, _]) hT Y Y Y Y Y Y) Y QAll.nil)))) ?_
 refine EAll.cons ?_ EAll.nil
 refine EOp.e Y Y Y (EffX.storeSP (i := 0) (qv := [(_, [_, _, _]), (_, [_, _, _]), (_, [_, _, _])]) hT Y Y Y Y Y Y Y Y Y Y) ?_
 rintro _ _ rfl
 apply Stg.next [] Y Y
 refine Stg.fin [] Y Y QAll.nil ?_
 replace H := H.self
 exact AtE.then_n ((HK1 _ b_3 _ H).pickP (ts := [3, 1, 2]) (is := [0, 1, 2]) Y Y (by decide) Y)
theorem lift_ref01uSame (a : Sl) (b : Sl) (w : World) (m : Heap) (hr : Rel ⟨m, []⟩ w.heap) (S : Bool → Heap → Prop) (H : ref01uSame a b m S) :
 Calls Tryz.prog 113 #[Sl.toV a, Sl.toV b] w (Post ⟨w, m⟩ Value.bool S) := by
 refine Calls.lift (args := [Sl.toV a, Sl.toV b]) Tryz.func113 Y Tryz.ntmps113 (Nat.le_of_ble_eq_true Y) hr (ref01uSame a b m S) H (fun H => ?_)
 refine AtC.pick (ts := [0, 1]) Y ?_
 unfold ref01uSame at H
 refine sR (pu hT 1 Y (ng (AtC.seq (sR (pu hT 5 Y ?_)))))
 refine ng ?_
 refine AtC.condB H Y (fun H => ?_) (fun H => ?_)
 refine sR (pu hT 1 Y (ng (AtC.ret (AtE.then_r ?_))))
 exact r1 4 Y Y Y H
 refine AtC.skip (tg (AtC.seq (sR (pu hT 1 Y (ng ?_)))))
 refine AtC.block ?_
 refine AtC.loopM (fun (s0 : Int) => [(5, Value.int .i64 s0)]) (fun (s0 : Int) => []) [0, 1] [5, 0, 1] [] [] H Y Y Y (by decide) Y (fun Kp1 s0 h0 H Q1 HK1 => ?_)
 refine AtC.seq (sR (pu hT 4 Y (ng ?_)))
 refine AtC.condB H Y (fun H => ?_) (fun H => ?_)
 refine AtC.skip (tg (AtC.seq (AtC.block (AtC.seqD hmix (by kernel_rfl) (AtD.pures hT 2 _ _ _ _ Y ?_)))))
 obtain ⟨a_1_, hc1, hd1, H⟩ := H
 refine AtD.q Y (Quiet1.idxS hT Y Y Y Y Y hc1 hd1) ?_
 obtain ⟨v, hc2, H⟩ := H
 refine AtD.q Y (Quiet1.load hT Y Y Y hc2) (AtD.pures hT 2 _ _ _ _ Y ?_)
 obtain ⟨a_2_, hc3, hd3, H⟩ := H
 refine AtD.q Y (Quiet1.idxS hT Y Y Y Y Y hc3 hd3) ?_
 obtain ⟨v_1, hc4, H⟩ := H
 refine AtD.q Y (Quiet1.load hT Y Y Y hc4) (AtD.pures hT 1 _ _ _ _ Y (AtD.nil (tg ?_)))
 refine AtC.condB H Y (fun H => ?_) (fun H => ?_)
 refine sR (pu hT 1 Y (ng (AtC.ret (AtE.blk_r (AtE.then_r ?_)))))
 refine AtE.then_r (AtE.blk_r (AtE.then_r ?_))
 exact r1 4 Y Y Y H
 refine AtC.skip (AtE.blk_n (tg (AtC.region (pu hT 3 Y ?_))))
 replace H := H _ rfl
 refine AtL.nil ?_
 exact AtE.then_n ((HK1 _ _ H).pickP (ts := [5, 0, 1]) (is := []) Y Y (by decide) Y)
 refine AtC.exit (AtE.then_x (AtE.then_x (AtE.blk_hit (tg (sR ?_)))))
 refine pu hT 1 Y (ng (AtC.ret ?_))
 exact r1 4 Y Y Y H
theorem lift_ref02uSame (x0 : Bool × Sl × Sl) (y : Bool × Sl × Sl) (w : World) (m : Heap) (hr : Rel ⟨m, []⟩ w.heap) (S : Bool → Heap → Prop) (H : ref02uSame x0 y m S) :
 Calls Tryz.prog 47 #[Value.agg (C_bool_sl_sl x0).toArray, Value.agg (C_bool_sl_sl y).toArray] w (Post ⟨w, m⟩ Value.bool S) := by
 refine Calls.lift (args := [Value.agg (C_bool_sl_sl x0).toArray, Value.agg (C_bool_sl_sl y).toArray]) Tryz.func47 Y Tryz.ntmps47 (Nat.le_of_ble_eq_true Y) hr (ref02uSame x0 y m S) H (fun H => ?_)
 refine AtC.pick (ts := [0, 1]) Y ?_
 unfold ref02uSame at H
 refine sR (AtL.e Y (EffX.boxP (cs := [_, _, _]) Y Y Y H) ?_)
 rintro _ _ ⟨b, _, rfl, rfl, _, H⟩
 refine AtL.e Y (EffX.boxP (cs := [_, _, _]) Y Y Y H) ?_
 rintro _ _ ⟨b_1, _, rfl, rfl, _, H⟩
 replace H := H.self
 refine pu hT 1 Y (ng ?_)
 refine AtC.joinSeq (β := Unit) (fun (t0 : Bool) (bb : Unit) => [(4, Value.bool t0)]) (fun (t0 : Bool) (bb : Unit) => []) [] [] H Y Y (fun t0 bb h0u1 H => ?_) (fun J1 H HK1 => ?_)
 refine AtC.ret ?_
 exact r1 4 Y Y Y H
 refine AtC.region (pu hT 2 Y (AtL.q Y (lP hT 1 Y) (pu hT 2 Y (AtL.q Y (lP hT 0 Y) (pu hT 2 Y ?_)))))
 refine AtL.splitB (t := 12) H Y (fun H => ?_) (fun H => ?_)
 refine ys Y (pu hT 1 Y (ys Y (pu hT 1 Y (ys Y (AtL.q Y (lP hT 1 Y) ?_)))))
 refine ys Y (pu hT 1 Y (ys Y (pu hT 1 Y (ys Y (AtL.q Y (lP hT 0 Y) ?_)))))
 refine ys Y (AtL.e Y (cl (fun h => ref01uSame _ _ h _) H Y Tryz.call113 Y (fun w m hr hw => lift_ref01uSame _ _ w m hr _ hw)) ?_)
 rintro _ _ ⟨v, h0u2, rfl, rfl, H⟩
 refine pu hT 2 Y ?_
 refine AtL.splitB (t := 21) H Y (fun H => ?_) (fun H => ?_)
 refine ys Y (pu hT 1 Y (ys Y (AtL.q Y (lP hT 1 Y) (ys Y (pu hT 1 Y ?_)))))
 refine ys Y (AtL.q Y (lP hT 0 Y) (ys Y (AtL.e Y (cl (fun h => ref01uSame _ _ h _) H Y Tryz.call113 Y (fun w m hr hw => lift_ref01uSame _ _ w m hr _ hw)) ?_)))
 rintro _ _ ⟨v_1, h0u3, rfl, rfl, H⟩
 refine pu hT 2 Y (AtL.nil ?_)
 exact AtE.then_n ((HK1 _ () _ H).pickP (ts := [4]) (is := []) Y Y (by decide) Y)
 refine nf Y (nf Y (nf Y (nf Y (nf Y (pu hT 2 Y ?_)))))
 refine AtL.nil ?_
 exact AtE.then_n ((HK1 _ () _ H).pickP (ts := [4]) (is := []) Y Y (by decide) Y)
 refine nf Y (nf Y (nf Y (nf Y (nf Y (nf Y ?_)))))
 refine nf Y (pu hT 2 Y (nf Y (nf Y (nf Y (nf Y ?_)))))
 refine nf Y (pu hT 2 Y (AtL.nil ?_))
 exact AtE.then_n ((HK1 _ () _ H).pickP (ts := [4]) (is := []) Y Y (by decide) Y)
end Go.Proofs.YtjppcjbmepcneaaGreatDoor

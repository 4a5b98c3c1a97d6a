/-
  Laws that the proof of this claim's statement leans on, each proved under the conditions that it states.
-/
import Derived.Test.YtjppcjbmepcneaaGreatDoorLfB
set_option linter.unusedVariables false
set_option linter.unusedSimpArgs false
namespace Go.Proofs.YtjppcjbmepcneaaGreatDoor
open Go Go.Lift Go.Sh
set_option maxRecDepth 100000
set_option maxHeartbeats 40000000
attribute [local irreducible] Calls AtL AtC AtE AtD Eff Quiet1 Stg qAt QAll eAt EAll nextK Code.wp
theorem lift_tableau_Row (t0 : Sl × Sl × Sl × Sl × Sl) (v : Int) (w : World) (m : Heap) (hr : Rel ⟨m, []⟩ w.heap) (S : Int → Heap → Prop) (H : tableau_Row t0 v m S) :
 Calls Tryz.prog 33 #[Value.agg (C_sl_sl_sl_sl_sl t0).toArray, Value.int .i64 v] w (Post ⟨w, m⟩ (Value.int .i64) S) := by
 refine Calls.lift (args := [Value.agg (C_sl_sl_sl_sl_sl t0).toArray, Value.int .i64 v]) Tryz.func33 Y Tryz.ntmps33 (Nat.le_of_ble_eq_true Y) hr (tableau_Row t0 v m S) H (fun H => ?_)
 refine AtC.pick (ts := [0, 1]) Y ?_
 unfold tableau_Row at H
 refine sR (AtL.e Y (EffX.boxP (cs := [_, _, _, _, _]) Y Y Y H) ?_)
 rintro _ _ ⟨b, _, rfl, rfl, _, H⟩
 replace H := H.self
 refine pu hT 1 Y (ng (sR (pu hT 1 Y (AtL.q Y (lP hT 0 Y) (pu hT 1 Y ?_)))))
 refine AtL.e Y (cl (fun h => slices_Index_int_int _ _ h _) H Y Tryz.call95 Y (fun w m hr hw => lift_slices_Index_int_int _ _ w m hr _ hw)) ?_
 rintro _ _ ⟨v_1, h0u1, rfl, rfl, H⟩
 refine pu hT 1 Y (ng (AtC.ret ?_))
 exact r1 4 Y Y Y H
theorem lift_nat_Right (x0 : Sl) (w : World) (m : Heap) (hr : Rel ⟨m, []⟩ w.heap) (S : Bool → Heap → Prop) (H : nat_Right x0 m S) :
 Calls Tryz.prog 107 #[Sl.toV x0] w (Post ⟨w, m⟩ Value.bool S) := by
 refine Calls.lift (args := [Sl.toV x0]) Tryz.func107 Y Tryz.ntmps107 (Nat.le_of_ble_eq_true Y) hr (nat_Right x0 m S) H (fun H => ?_)
 refine AtC.pick (ts := [0]) Y ?_
 unfold nat_Right at H
 refine sR (pu hT 1 Y (ng (sR (pu hT 1 Y (AtL.e Y (cl (fun h => nat_trim _ h _) H Y Tryz.call116 Y (fun w m hr hw => lift_nat_trim _ w m hr _ hw)) ?_)))))
 rintro _ _ ⟨v, h0, rfl, rfl, H⟩
 refine pu hT 5 Y (ng (AtC.ret ?_))
 exact r1 2 Y Y Y H
theorem lift_ratio_Right (x0 : Bool × Sl × Sl) (w : World) (m : Heap) (hr : Rel ⟨m, []⟩ w.heap) (S : Bool → Heap → Prop) (H : ratio_Right x0 m S) :
 Calls Tryz.prog 42 #[Value.agg (C_bool_sl_sl x0).toArray] w (Post ⟨w, m⟩ Value.bool S) := by
 refine Calls.lift (args := [Value.agg (C_bool_sl_sl x0).toArray]) Tryz.func42 Y Tryz.ntmps42 (Nat.le_of_ble_eq_true Y) hr (ratio_Right x0 m S) H (fun H => ?_)
 refine AtC.pick (ts := [0]) Y ?_
 unfold ratio_Right at H
 refine sR (AtL.e Y (EffX.boxP (cs := [_, _, _]) Y Y Y H) ?_)
 rintro _ _ ⟨b, _, rfl, rfl, _, H⟩
 replace H := H.self
 refine pu hT 1 Y (ng (AtC.seq (AtC.block ?_)))
 refine AtC.joinSeq (β := Unit) (fun (t0 : Bool) (bb : Unit) => [(3, Value.bool t0)]) (fun (t0 : Bool) (bb : Unit) => []) [1] [0] H Y Y (fun t0 bb h0u1 H => ?_) (fun J1 H HK1 => ?_)
 refine AtC.condB H Y (fun H => ?_) (fun H => ?_)
 refine sR (pu hT 1 Y (ng (AtC.ret (AtE.blk_r (AtE.then_r ?_)))))
 exact r1 2 Y Y Y H
 refine sR (pu hT 2 Y (AtL.q Y (lP hT 0 Y) (pu hT 3 Y (ng ?_))))
 refine AtC.condB H Y (fun H => ?_) (fun H => ?_)
 refine AtC.joinSeq (β := Unit) (fun (t0u1 : Bool) (bb_1 : Unit) => [(2, Value.bool t0u1)]) (fun (t0u1 : Bool) (bb_1 : Unit) => []) [] [] H Y Y (fun t0u1 bb_1 h0u5 H => ?_) (fun J2 H HK2 => ?_)
 refine AtC.ret (AtE.blk_r (AtE.then_r ?_))
 exact r1 2 Y Y Y H
 refine AtC.region (pu hT 2 Y (AtL.q Y (lP hT 0 Y) (pu hT 2 Y ?_)))
 refine AtL.splitB (t := 30) H Y (fun H => ?_) (fun H => ?_)
 refine ys Y (pu hT 1 Y (ys Y (AtL.q Y (lP hT 0 Y) (ys Y (pu hT 1 Y ?_)))))
 refine ys Y (pu hT 1 Y (pu hT 2 Y (AtL.nil ?_)))
 exact AtE.then_n ((HK2 _ () _ H).pickP (ts := [2]) (is := []) Y Y (by decide) Y)
 refine nf Y (nf Y (nf Y (nf Y (pu hT 2 Y (AtL.nil ?_)))))
 exact AtE.then_n ((HK2 _ () _ H).pickP (ts := [2]) (is := []) Y Y (by decide) Y)
 refine AtC.skip (AtE.blk_n (tg ?_))
 apply AtC.seqS [0, 5, 6, 7] [[], [], [], [], [], [0], [0, 5], [0, 5, 6], [0, 5, 6, 7]] [[], [], [1], [1, 2], [], [0, 4], [0, 1, 2, 3, 4, 5], [0, 1, 2, 3, 4, 5, 6], [0, 1, 2, 3, 4, 5, 6, 7]] hmix (by kernel_rfl) [(37, _), (38, _), (39, _), (40, _)] Y 4 Y
 refine Stg.go [1, 2, 3, 4] [0] Y Y (qp hT Y (qp hT Y (qq Y (lP hT 0 Y) Y (qq Y (lS hT 0 [_, _, _] Y Y Y Y Y Y Y Y) Y QAll.nil)))) ?_
 refine EAll.cons ?_ EAll.nil
 refine EOp.e Y Y Y (cl (fun h => ratio_free h _) H Y Tryz.call109 Y (fun w m hr hw => lift_ratio_free  w m hr _ hw)) ?_
 rintro _ _ ⟨v_3, h0u6, rfl, rfl, H⟩
 apply Stg.next [(36, _)] Y Y
 refine Stg.go [1, 2, 3, 4] [5] Y Y (qp hT Y (qp hT Y (qq Y (lP hT 0 Y) Y (qq Y (lS hT 0 [_, _, _] Y Y Y Y Y Y Y Y) Y QAll.nil)))) ?_
 refine EAll.cons ?_ EAll.nil
 refine EOp.e Y Y Y (cl (fun h => ratio_den _ h _) H Y Tryz.call111 Y (fun w m hr hw => lift_ratio_den _ w m hr _ hw)) ?_
 rintro _ _ ⟨v_4, h0u7, rfl, rfl, H⟩
 apply Stg.next [(41, _)] Y Y
 refine Stg.go [1, 2, 3] [6] Y Y (qp hT Y (qp hT Y (qq Y (lP hT 0 Y) Y QAll.nil))) ?_
 refine EAll.cons ?_ EAll.nil
 refine EOp.e Y Y Y (cl (fun h => nat_Bench_Gcd _ _ _ h _) H Y Tryz.call110 Y (fun w m hr hw => lift_nat_Bench_Gcd _ _ _ w m hr _ hw)) ?_
 rintro _ _ ⟨v_5, h0u8, rfl, rfl, H⟩
 apply Stg.next [(42, _)] Y Y
 refine Stg.go [] [7] Y Y QAll.nil ?_
 refine EAll.cons ?_ EAll.nil
 refine EOp.e Y Y Y (cl (fun h => ratio_isOne _ h _) H Y Tryz.call108 Y (fun w m hr hw => lift_ratio_isOne _ w m hr _ hw)) ?_
 rintro _ _ ⟨v_6, h0u9, rfl, rfl, H⟩
 apply Stg.next [(43, _), (2, _)] Y Y
 refine Stg.fin [8] Y Y (qp hT Y QAll.nil) (tg (AtC.ret ?_))
 exact r1 2 Y Y Y H
 refine AtC.region (pu hT 2 Y (AtL.q Y (lP hT 0 Y) (AtL.e Y (cl (fun h => nat_Right _ h _) H Y Tryz.call107 Y (fun w m hr hw => lift_nat_Right _ w m hr _ hw)) ?_)))
 rintro _ _ ⟨v, h0u2, rfl, rfl, H⟩
 refine pu hT 2 Y ?_
 refine AtL.splitB (t := 9) H Y (fun H => ?_) (fun H => ?_)
 refine nf Y (nf Y (nf Y (nf Y (pu hT 2 Y (nf Y ?_)))))
 refine nf Y (nf Y (pu hT 2 Y (AtL.nil ?_)))
 exact AtE.then_n ((HK1 _ () _ H).pickP (ts := [3, 1]) (is := [0]) Y Y (by decide) Y)
 refine ys Y (pu hT 1 Y (ys Y (AtL.q Y (lP hT 0 Y) (ys Y (AtL.e Y (cl (fun h => nat_Right _ h _) H Y Tryz.call107 Y (fun w m hr hw => lift_nat_Right _ w m hr _ hw)) ?_)))))
 rintro _ _ ⟨v_1, h0u3, rfl, rfl, H⟩
 refine ys Y (pu hT 1 Y (pu hT 2 Y ?_))
 refine AtL.splitB (t := 15) H Y (fun H => ?_) (fun H => ?_)
 refine nf Y (nf Y (nf Y (pu hT 2 Y (AtL.nil ?_))))
 exact AtE.then_n ((HK1 _ () _ H).pickP (ts := [3, 1]) (is := [0]) Y Y (by decide) Y)
 refine ys Y (pu hT 1 Y (ys Y (AtL.q Y (lP hT 0 Y) (ys Y (AtL.e Y (cl (fun h => ratio_isOne _ h _) H Y Tryz.call108 Y (fun w m hr hw => lift_ratio_isOne _ w m hr _ hw)) ?_)))))
 rintro _ _ ⟨v_2, h0u4, rfl, rfl, H⟩
 refine pu hT 2 Y (AtL.nil ?_)
 exact AtE.then_n ((HK1 _ () _ H).pickP (ts := [3, 1]) (is := [0]) Y Y (by decide) Y)
theorem lift_tableau_Right_c1 (x0 : Bool × Sl × Sl × Bool × Sl × Sl) (w : World) (m : Heap) (hr : Rel ⟨m, []⟩ w.heap) (S : Bool → Heap → Prop) (H : tableau_Right_c1 x0 m S) :
 Calls Tryz.prog 55 #[Value.agg (C_bool_sl_sl_bool_sl_sl x0).toArray] w (Post ⟨w, m⟩ Value.bool S) := by
 refine Calls.lift (args := [Value.agg (C_bool_sl_sl_bool_sl_sl x0).toArray]) Tryz.func55 Y Tryz.ntmps55 (Nat.le_of_ble_eq_true Y) hr (tableau_Right_c1 x0 m S) H (fun H => ?_)
 refine AtC.pick (ts := [0]) Y ?_
 unfold tableau_Right_c1 at H
 refine sR (AtL.e Y (EffX.boxP (cs := [_, _, _, _, _, _]) Y Y Y H) ?_)
 rintro _ _ ⟨b, _, rfl, rfl, _, H⟩
 replace H := H.self
 refine pu hT 1 Y (ng ?_)
 refine AtC.joinSeq (β := Unit) (fun (t0 : Bool) (bb : Unit) => [(2, Value.bool t0)]) (fun (t0 : Bool) (bb : Unit) => []) [] [] H Y Y (fun t0 bb h0u1 H => ?_) (fun J1 H HK1 => ?_)
 refine AtC.ret ?_
 exact r1 2 Y Y Y H
 refine AtC.region (pu hT 1 Y (AtL.q Y (lS hT 0 [_, _, _] Y Y Y Y Y Y Y Y) (AtL.e Y (cl (fun h => ratio_Right _ h _) H Y Tryz.call42 Y (fun w m hr hw => lift_ratio_Right _ w m hr _ hw)) ?_)))
 rintro _ _ ⟨v, h0u2, rfl, rfl, H⟩
 refine pu hT 1 Y ?_
 refine AtL.splitB (t := 6) H Y (fun H => ?_) (fun H => ?_)
 refine ys Y (pu hT 1 Y (ys Y (AtL.q Y (lS hT 0 [_, _, _] Y Y Y Y Y Y Y Y) (ys Y (AtL.e Y (cl (fun h => ratio_Right _ h _) H Y Tryz.call42 Y (fun w m hr hw => lift_ratio_Right _ w m hr _ hw)) ?_)))))
 rintro _ _ ⟨v_1, h0u3, rfl, rfl, H⟩
 refine pu hT 2 Y (AtL.nil ?_)
 exact AtE.then_n ((HK1 _ () _ H).pickP (ts := [2]) (is := []) Y Y (by decide) Y)
 refine nf Y (nf Y (nf Y (pu hT 2 Y (AtL.nil ?_))))
 exact AtE.then_n ((HK1 _ () _ H).pickP (ts := [2]) (is := []) Y Y (by decide) Y)
theorem lift_tableau_Right_c2 (x0 : Bool × Sl × Sl × Bool × Sl × Sl) (c0 : Addr) (w : World) (m : Heap) (hr : Rel ⟨m, []⟩ w.heap) (S : Bool → Heap → Prop) (H : tableau_Right_c2 x0 c0 m S) :
 Calls Tryz.prog 57 #[Value.agg (C_bool_sl_sl_bool_sl_sl x0).toArray, Value.pointer (some c0)] w (Post ⟨w, m⟩ Value.bool S) := by
 refine Calls.lift (args := [Value.agg (C_bool_sl_sl_bool_sl_sl x0).toArray, Value.pointer (some c0)]) Tryz.func57 Y Tryz.ntmps57 (Nat.le_of_ble_eq_true Y) hr (tableau_Right_c2 x0 c0 m S) H (fun H => ?_)
 refine AtC.pick (ts := [0, 1]) Y ?_
 unfold tableau_Right_c2 at H
 refine sR (AtL.e Y (EffX.boxP (cs := [_, _, _, _, _, _]) Y Y Y H) ?_)
 rintro _ _ ⟨b, _, rfl, rfl, _, H⟩
 replace H := H.self
 refine pu hT 1 Y (ng (sR ?_))
 obtain ⟨v, hc0, H⟩ := H
 refine AtL.q Y (Quiet1.load hT Y Y Y hc0) (AtL.q Y (lS hT 0 [_, _, _, _, _, _] Y Y Y Y Y Y Y Y) ?_)
 obtain ⟨he1, H⟩ := H
 refine AtL.e Y (EffX.callFd (bs := []) (cs := []) (f := 55) (sh := fun h => tableau_Right_c1 _ h _) (H0 := H) Y Y he1 Tryz.call55 Y (hl := fun w m hr hw => lift_tableau_Right_c1 _ w m hr _ hw)) ?_
 rintro _ _ ⟨v_1, h0u1, rfl, rfl, H⟩
 refine pu hT 2 Y (ng (AtC.ret ?_))
 exact r1 3 Y Y Y H
theorem lift_slices_IndexFunc_api_Delta_api_Delta__tableau_Right_c2 (s0 : Sl) (f_c : Addr) (w : World) (m : Heap) (hr : Rel ⟨m, []⟩ w.heap) (S : Int → Heap → Prop) (H : slices_IndexFunc_api_Delta_api_Delta__tableau_Right_c2 s0 f_c m S) :
 Calls Tryz.prog 122 #[Sl.toV s0, Value.func (.func 57) #[] #[Value.pointer (some f_c)]] w (Post ⟨w, m⟩ (Value.int .i64) S) := by
 refine Calls.lift (args := [Sl.toV s0, Value.func (.func 57) #[] #[Value.pointer (some f_c)]]) Tryz.func122 Y Tryz.ntmps122 (Nat.le_of_ble_eq_true Y) hr (slices_IndexFunc_api_Delta_api_Delta__tableau_Right_c2 s0 f_c m S) H (fun H => ?_)
 refine AtC.pick (ts := [0, 1]) Y ?_
 unfold slices_IndexFunc_api_Delta_api_Delta__tableau_Right_c2 at H
 refine sR (pu hT 1 Y (ng (AtC.seq (sR (pu hT 3 Y ?_)))))
 refine ng (AtC.block ?_)
 refine AtC.loopM (fun (s0u1 : Int) => [(8, Value.int .i64 s0u1)]) (fun (s0u1 : Int) => []) [0, 1, 7] [8, 0, 1, 7] [] [] H Y Y Y (by decide) Y (fun Kp1 s0u1 h0 H Q1 HK1 => ?_)
 refine sR (pu hT 1 Y (ng (AtC.seq ?_)))
 refine AtC.condB H Y (fun H => ?_) (fun H => ?_)
 refine AtC.skip (tg (AtC.seq (AtC.block (sR (pu hT 2 Y ?_)))))
 refine ng (sR (pu hT 3 Y ?_))
 obtain ⟨a_, hc1, hd1, H⟩ := H
 refine AtL.q Y (Quiet1.idxS hT Y Y Y Y Y hc1 hd1) ?_
 obtain ⟨v, hc2, H⟩ := H
 refine AtL.q Y (Quiet1.loadS hT Y Y Y Y hc2) (AtL.e Y (EffX.callF (bs := []) (cs := [_]) (f := 57) (sh := fun h => tableau_Right_c2 _ _ h _) (H0 := H) Y Y Tryz.call57 Y (hl := fun w m hr hw => lift_tableau_Right_c2 _ _ w m hr _ hw)) ?_)
 rintro _ _ ⟨v_1, h0u1, rfl, rfl, H⟩
 refine ng ?_
 refine AtC.condB H Y (fun H => ?_) (fun H => ?_)
 refine sR (pu hT 2 Y (ng (AtC.ret (AtE.blk_r (AtE.then_r ?_)))))
 refine AtE.then_r (AtE.blk_r (AtE.then_r ?_))
 exact r1 4 Y Y Y H
 refine AtC.skip (AtE.blk_n (tg (AtC.region (pu hT 2 Y (AtL.nil ?_)))))
 exact AtE.then_n ((HK1 _ _ H).pickP (ts := [8, 0, 1, 7]) (is := []) Y Y (by decide) Y)
 refine AtC.exit (AtE.then_x (AtE.then_x (AtE.blk_hit (tg (sR ?_)))))
 refine pu hT 1 Y (ng (AtC.ret ?_))
 exact r1 4 Y Y Y H
theorem lift_slices_ContainsFunc_api_Delta_api_Delta__tableau_Right_c2 (s0 : Sl) (f_c : Addr) (w : World) (m : Heap) (hr : Rel ⟨m, []⟩ w.heap) (S : Bool → Heap → Prop) (H : slices_ContainsFunc_api_Delta_api_Delta__tableau_Right_c2 s0 f_c m S) :
 Calls Tryz.prog 56 #[Sl.toV s0, Value.func (.func 57) #[] #[Value.pointer (some f_c)]] w (Post ⟨w, m⟩ Value.bool S) := by
 refine Calls.lift (args := [Sl.toV s0, Value.func (.func 57) #[] #[Value.pointer (some f_c)]]) Tryz.func56 Y Tryz.ntmps56 (Nat.le_of_ble_eq_true Y) hr (slices_ContainsFunc_api_Delta_api_Delta__tableau_Right_c2 s0 f_c m S) H (fun H => ?_)
 refine AtC.pick (ts := [0, 1]) Y ?_
 unfold slices_ContainsFunc_api_Delta_api_Delta__tableau_Right_c2 at H
 refine sR (pu hT 1 Y (ng (sR (pu hT 2 Y (AtL.e Y (cl (fun h => slices_IndexFunc_api_Delta_api_Delta__tableau_Right_c2 _ _ h _) H Y Tryz.call122 Y (fun w m hr hw => lift_slices_IndexFunc_api_Delta_api_Delta__tableau_Right_c2 _ _ w m hr _ hw)) ?_)))))
 rintro _ _ ⟨v, h0, rfl, rfl, H⟩
 refine pu hT 2 Y (ng (AtC.ret ?_))
 exact r1 4 Y Y Y H
theorem lift_slices_Grow_api_Edge_api_Edge (s0 : Sl) (n : Int) (w : World) (m : Heap) (hr : Rel ⟨m, []⟩ w.heap) (S : Sl → Heap → Prop) (H : slices_Grow_api_Edge_api_Edge s0 n m S) :
 Calls Tryz.prog 124 #[Sl.toV s0, Value.int .i64 n] w (Post ⟨w, m⟩ Sl.toV S) := by
 refine Calls.lift (args := [Sl.toV s0, Value.int .i64 n]) Tryz.func124 Y Tryz.ntmps124 (Nat.le_of_ble_eq_true Y) hr (slices_Grow_api_Edge_api_Edge s0 n m S) H (fun H => ?_)
 refine AtC.pick (ts := [0, 1]) Y ?_
 unfold slices_Grow_api_Edge_api_Edge at H
 refine sR (pu hT 1 Y (ng ?_))
 refine AtC.joinSeq (β := Unit) (fun (t0 : Unit) (bb : Unit) => []) (fun (t0 : Unit) (bb : Unit) => []) [0, 1] [] H Y Y (fun t0 bb h0 H => ?_) (fun J1 H HK1 => ?_)
 refine AtC.joinSeq (β := Unit) (fun (t0u1 : Sl) (bb_1 : Unit) => [(0, Sl.toV t0u1)]) (fun (t0u1 : Sl) (bb_1 : Unit) => []) [] [] H Y Y (fun t0u1 bb_1 h0u1 H => ?_) (fun J2 H HK2 => ?_)
 refine sR (pu hT 2 Y (ng (AtC.ret ?_)))
 exact r1 4 Y Y Y H
 refine sR (pu hT 8 Y ?_)
 replace H := H _ rfl
 refine ng (sR (pu hT 2 Y (ng ?_)))
 refine AtC.condB H Y (fun H => ?_) (fun H => ?_)
 refine AtC.region (pu hT 3 Y ?_)
 refine AtL.sl (hT := hT) H Y Y Y Y Y Y Y (fun h => by cases h <;> rfl) Y (fun v H => ?_)
 refine pu hT 1 Y (AtL.e Y (EffX.appendZ (s := _) hT Y Y Y Y Y Y Y Y Y (by decide) Y Y (by decide) H) ?_)
 rintro _ _ ⟨v_1, h0u2, rfl, rfl, H⟩
 refine pu hT 2 Y ?_
 refine AtL.sl (hT := hT) H Y Y Y Y Y Y Y (fun h => by cases h <;> rfl) Y (fun v_2 H => ?_)
 refine pu hT 1 Y (AtL.nil ?_)
 exact AtE.then_n ((HK2 _ () _ H).pickP (ts := [0]) (is := []) Y Y (by decide) Y)
 refine AtC.skip ?_
 exact AtE.then_n ((HK2 _ () _ H).pickP (ts := [0]) (is := []) Y Y (by decide) Y)
 refine sR (pu hT 2 Y (ng ?_))
 refine AtC.condB H Y (fun H => ?_) (fun H => ?_)
 refine AtC.region (AtL.q Y (Quiet1.makeI hT Y Y (by intro m; nofun) Y) ?_)
 exact H.elim
 refine AtC.skip ?_
 exact AtE.then_n ((HK1 _ () _ H).pickP (ts := [0, 1]) (is := []) Y Y (by decide) Y)
theorem lift_slices_Concat_api_Edge_api_Edge (slices : Sl) (w : World) (m : Heap) (hr : Rel ⟨m, []⟩ w.heap) (S : Sl → Heap → Prop) (H : slices_Concat_api_Edge_api_Edge slices m S) :
 Calls Tryz.prog 59 #[Sl.toV slices] w (Post ⟨w, m⟩ Sl.toV S) := by
 refine Calls.lift (args := [Sl.toV slices]) Tryz.func59 Y Tryz.ntmps59 (Nat.le_of_ble_eq_true Y) hr (slices_Concat_api_Edge_api_Edge slices m S) H (fun H => ?_)
 refine AtC.pick (ts := [0]) Y ?_
 unfold slices_Concat_api_Edge_api_Edge at H
 refine sR (pu hT 1 Y (ng (sR (pu hT 1 Y (ng ?_)))))
 refine AtC.seq (sR (pu hT 3 Y (ng (AtC.block ?_))))
 refine AtC.loopM (fun (s0 : Int × Int) => [(3, Value.int .i64 s0.1), (11, Value.int .i64 s0.2)]) (fun (s0 : Int × Int) => []) [0, 9, 10] [3, 11, 0, 9, 10] [] [] H Y Y Y (by decide) Y (fun Kp1 s0 h0 H Q1 HK1 => ?_)
 refine sR (pu hT 1 Y (ng (AtC.seq ?_)))
 refine AtC.condB H Y (fun H => ?_) (fun H => ?_)
 refine AtC.skip (tg ?_)
 refine AtC.joinSeq (β := Unit) (fun (t0 : Int) (bb : Unit) => [(3, Value.int .i64 t0)]) (fun (t0 : Int) (bb : Unit) => []) [0, 9, 10, 11] [] H Y Y (fun t0 bb h0u1 H => ?_) (fun J2 H HK2 => ?_)
 refine AtC.region (pu hT 2 Y (AtL.nil ?_))
 exact AtE.then_n ((HK1 _ _ H).pickP (ts := [3, 11, 0, 9, 10]) (is := []) Y Y (by decide) Y)
 refine AtC.block (sR ?_)
 obtain ⟨a_, hc2, hd2, H⟩ := H
 refine AtL.q Y (Quiet1.idxS hT Y Y Y Y Y hc2 hd2) ?_
 obtain ⟨v, hc3, H⟩ := H
 refine AtL.q Y (Quiet1.load hT Y Y Y hc3) (pu hT 1 Y (ng (sR (pu hT 5 Y ?_))))
 replace H := H _ rfl
 refine ng (sR (pu hT 2 Y (ng ?_)))
 refine AtC.condB H Y (fun H => ?_) (fun H => ?_)
 refine AtC.region (AtL.q Y (Quiet1.makeI hT Y Y (by intro m; nofun) Y) ?_)
 exact H.elim
 refine AtC.skip (AtE.blk_n ?_)
 exact AtE.then_n ((HK2 _ () _ H).pickP (ts := [3, 0, 9, 10, 11]) (is := []) Y Y (by decide) Y)
 refine AtC.exit (AtE.then_x (AtE.then_x (AtE.blk_hit (tg (sR ?_)))))
 refine pu hT 1 Y (AtL.e Y (cl (fun h => slices_Grow_api_Edge_api_Edge _ _ h _) H Y Tryz.call124 Y (fun w m hr hw => lift_slices_Grow_api_Edge_api_Edge _ _ w m hr _ hw)) ?_)
 rintro _ _ ⟨v_1, h0u2, rfl, rfl, H⟩
 refine pu hT 1 Y (ng (AtC.seq (sR (pu hT 3 Y (ng ?_)))))
 refine AtC.block ?_
 refine AtC.loopM (fun (s0u1 : Sl × Int) => [(6, Sl.toV s0u1.1), (27, Value.int .i64 s0u1.2)]) (fun (s0u1 : Sl × Int) => []) [25, 26] [6, 27, 25, 26] [] [] H Y Y Y (by decide) Y (fun Kp5 s0u1 h0u3 H Q5 HK5 => ?_)
 refine sR (pu hT 1 Y (ng (AtC.seq ?_)))
 refine AtC.condB H Y (fun H => ?_) (fun H => ?_)
 refine AtC.skip (tg (AtC.seq (AtC.block (sR ?_))))
 obtain ⟨a_1_, hc5, hd5, H⟩ := H
 refine AtL.q Y (Quiet1.idxS hT Y Y Y Y Y hc5 hd5) ?_
 obtain ⟨v_2, hc6, H⟩ := H
 refine AtL.q Y (Quiet1.load hT Y Y Y hc6) (pu hT 1 Y (ng (AtC.region (pu hT 2 Y (AtL.e Y (EffX.appendS (s := _) (u := _) hT Y Y Y Y Y Y Y Y Y Y (by decide) H) ?_)))))
 rintro _ _ ⟨v_3, h0u4, rfl, rfl, H⟩
 refine pu hT 1 Y (AtL.nil (AtE.blk_n (tg (AtC.region (pu hT 2 Y ?_)))))
 refine AtL.nil ?_
 exact AtE.then_n ((HK5 _ _ H).pickP (ts := [6, 27, 25, 26]) (is := []) Y Y (by decide) Y)
 refine AtC.exit (AtE.then_x (AtE.then_x (AtE.blk_hit (tg (sR ?_)))))
 refine pu hT 2 Y (ng (AtC.ret ?_))
 exact r1 2 Y Y Y H
theorem lift_ratio_Cmp (x0 : Bool × Sl × Sl) (y : Bool × Sl × Sl) (w : World) (m : Heap) (hr : Rel ⟨m, []⟩ w.heap) (S : Int → Heap → Prop) (H : ratio_Cmp x0 y m S) :
 Calls Tryz.prog 112 #[Value.agg (C_bool_sl_sl x0).toArray, Value.agg (C_bool_sl_sl y).toArray] w (Post ⟨w, m⟩ (Value.int .i64) S) := by
 refine Calls.lift (args := [Value.agg (C_bool_sl_sl x0).toArray, Value.agg (C_bool_sl_sl y).toArray]) Tryz.func112 Y Tryz.ntmps112 (Nat.le_of_ble_eq_true Y) hr (ratio_Cmp x0 y m S) H (fun H => ?_)
 refine AtC.pick (ts := [0, 1]) Y ?_
 unfold ratio_Cmp at H
 refine sR (AtL.e Y (EffX.boxP (cs := [_, _, _]) Y Y Y H) ?_)
 rintro _ _ ⟨b, _, rfl, rfl, _, H⟩
 refine AtL.e Y (EffX.boxP (cs := [_, _, _]) Y Y Y H) ?_
 rintro _ _ ⟨b_1, _, rfl, rfl, _, H⟩
 replace H := H.self
 refine pu hT 1 Y (ng (sR (AtL.q Y (lS hT 1 [_, _, _] Y Y Y Y Y Y Y Y) (AtL.q Y (lS hT 0 [_, _, _] Y Y Y Y Y Y Y Y) (AtL.e Y (cl (fun h => ratio_cross _ _ h _) H Y Tryz.call152 Y (fun w m hr hw => lift_ratio_cross _ _ w m hr _ hw)) ?_)))))
 rintro _ _ ⟨v, h0u1, rfl, rfl, H⟩
 refine pu hT 3 Y (AtL.e Y (EffX.allocP (cs := [_, _]) hT Y Y H) ?_)
 rintro _ _ ⟨b_2, _, rfl, rfl, _, H⟩
 refine AtL.e Y (EffX.allocP (cs := [_, _]) hT Y Y H) ?_
 rintro _ _ ⟨b_3, _, rfl, rfl, _, H⟩
 replace H := H.self
 refine AtL.e Y (EffX.storeSP (i := 1) (qv := [(_, [_, _]), (_, [_, _]), (_, [_, _, _]), (_, [_, _, _])]) hT Y Y Y Y Y Y Y Y Y Y) ?_
 rintro _ _ rfl
 refine AtL.e Y (EffX.storeSP (i := 0) (qv := [(_, [_, _]), (_, [_, _]), (_, [_, _, _]), (_, [_, _, _])]) hT Y Y Y Y Y Y Y Y Y Y) ?_
 rintro _ _ rfl
 refine ng (sR (pu hT 1 Y (AtL.q Y (lP hT 0 Y) (pu hT 2 Y (AtL.e Y (EffX.storeP (i := 0) (qv := [(_, [_, _]), (_, [_, _]), (_, [_, _, _]), (_, [_, _, _])]) hT Y Y Y Y Y Y Y Y Y) ?_)))))
 rintro _ _ rfl
 refine ng (sR (AtL.q Y (lS hT 1 [_, _] Y Y Y Y Y Y Y Y) (AtL.q Y (lS hT 0 [_, _] Y Y Y Y Y Y Y Y) (AtL.e Y (cl (fun h => ratio_sum _ _ h _) H Y Tryz.call153 Y (fun w m hr hw => lift_ratio_sum _ _ w m hr _ hw)) ?_))))
 rintro _ _ ⟨v_1, h0u3, rfl, rfl, H⟩
 refine AtL.e Y (EffX.allocP (cs := [_, _]) hT Y Y H) ?_
 rintro _ _ ⟨b_4, _, rfl, rfl, _, H⟩
 replace H := H.self
 refine AtL.e Y (EffX.storeSP (i := 0) (qv := [(_, [_, _]), (_, [_, _]), (_, [_, _]), (_, [_, _, _]), (_, [_, _, _])]) hT Y Y Y Y Y Y Y Y Y Y) ?_
 rintro _ _ rfl
 refine ng (AtC.seq (AtC.block (sR (pu hT 1 Y (AtL.q Y (lP hT 0 Y) ?_)))))
 refine pu hT 3 Y (ng ?_)
 refine AtC.condB H Y (fun H => ?_) (fun H => ?_)
 refine sR (pu hT 1 Y (ng (AtC.ret (AtE.blk_r (AtE.then_r ?_)))))
 exact r1 4 Y Y Y H
 refine sR (pu hT 1 Y (AtL.q Y (lP hT 0 Y) (pu hT 1 Y (ng ?_))))
 refine AtC.condB H Y (fun H => ?_) (fun H => ?_)
 refine sR (pu hT 1 Y (ng (AtC.ret (AtE.blk_r (AtE.then_r ?_)))))
 exact r1 4 Y Y Y H
 refine AtC.skip (AtE.blk_n (tg (sR (pu hT 1 Y (ng ?_)))))
 refine AtC.ret ?_
 exact r1 4 Y Y Y H
theorem lift_delta_Cmp (x0 : Bool × Sl × Sl × Bool × Sl × Sl) (y : Bool × Sl × Sl × Bool × Sl × Sl) (w : World) (m : Heap) (hr : Rel ⟨m, []⟩ w.heap) (S : Int → Heap → Prop) (H : delta_Cmp x0 y m S) :
 Calls Tryz.prog 46 #[Value.agg (C_bool_sl_sl_bool_sl_sl x0).toArray, Value.agg (C_bool_sl_sl_bool_sl_sl y).toArray] w (Post ⟨w, m⟩ (Value.int .i64) S) := by
 refine Calls.lift (args := [Value.agg (C_bool_sl_sl_bool_sl_sl x0).toArray, Value.agg (C_bool_sl_sl_bool_sl_sl y).toArray]) Tryz.func46 Y Tryz.ntmps46 (Nat.le_of_ble_eq_true Y) hr (delta_Cmp x0 y m S) H (fun H => ?_)
 refine AtC.pick (ts := [0, 1]) Y ?_
 unfold delta_Cmp at H
 refine sR (AtL.e Y (EffX.boxP (cs := [_, _, _, _, _, _]) Y Y Y H) ?_)
 rintro _ _ ⟨b, _, rfl, rfl, _, H⟩
 refine AtL.e Y (EffX.boxP (cs := [_, _, _, _, _, _]) Y Y Y H) ?_
 rintro _ _ ⟨b_1, _, rfl, rfl, _, H⟩
 replace H := H.self
 refine pu hT 1 Y (ng (AtC.seq (sR (pu hT 1 Y (AtL.q Y (lS hT 1 [_, _, _] Y Y Y Y Y Y Y Y) ?_)))))
 refine pu hT 1 Y (AtL.q Y (lS hT 0 [_, _, _] Y Y Y Y Y Y Y Y) (AtL.e Y (cl (fun h => ratio_Cmp _ _ h _) H Y Tryz.call112 Y (fun w m hr hw => lift_ratio_Cmp _ _ w m hr _ hw)) ?_))
 rintro _ _ ⟨v, h0u1, rfl, rfl, H⟩
 refine pu hT 1 Y (ng (sR (pu hT 2 Y (ng ?_))))
 refine AtC.condB H Y (fun H => ?_) (fun H => ?_)
 refine sR (pu hT 2 Y (ng (AtC.ret (AtE.then_r ?_))))
 exact r1 4 Y Y Y H
 refine AtC.skip (tg (sR (pu hT 1 Y (AtL.q Y (lS hT 1 [_, _, _] Y Y Y Y Y Y Y Y) (pu hT 1 Y ?_)))))
 refine AtL.q Y (lS hT 0 [_, _, _] Y Y Y Y Y Y Y Y) (AtL.e Y (cl (fun h => ratio_Cmp _ _ h _) H Y Tryz.call112 Y (fun w m hr hw => lift_ratio_Cmp _ _ w m hr _ hw)) ?_)
 rintro _ _ ⟨v_1, h0u2, rfl, rfl, H⟩
 refine pu hT 1 Y (ng (AtC.ret ?_))
 exact r1 4 Y Y Y H
theorem lift_tableau_same (x0 : Bool × Sl × Sl × Bool × Sl × Sl) (y : Bool × Sl × Sl × Bool × Sl × Sl) (w : World) (m : Heap) (hr : Rel ⟨m, []⟩ w.heap) (S : Bool → Heap → Prop) (H : tableau_same x0 y m S) :
 Calls Tryz.prog 65 #[Value.agg (C_bool_sl_sl_bool_sl_sl x0).toArray, Value.agg (C_bool_sl_sl_bool_sl_sl y).toArray] w (Post ⟨w, m⟩ Value.bool S) := by
 refine Calls.lift (args := [Value.agg (C_bool_sl_sl_bool_sl_sl x0).toArray, Value.agg (C_bool_sl_sl_bool_sl_sl y).toArray]) Tryz.func65 Y Tryz.ntmps65 (Nat.le_of_ble_eq_true Y) hr (tableau_same x0 y m S) H (fun H => ?_)
 refine AtC.pick (ts := [0, 1]) Y ?_
 unfold tableau_same at H
 refine sR (AtL.e Y (EffX.boxP (cs := [_, _, _, _, _, _]) Y Y Y H) ?_)
 rintro _ _ ⟨b, _, rfl, rfl, _, H⟩
 refine AtL.e Y (EffX.boxP (cs := [_, _, _, _, _, _]) Y Y Y H) ?_
 rintro _ _ ⟨b_1, _, rfl, rfl, _, H⟩
 replace H := H.self
 refine pu hT 1 Y (ng (sR (AtL.q Y (lS hT 1 [_, _, _, _, _, _] Y Y Y Y Y Y Y Y) (AtL.q Y (lS hT 0 [_, _, _, _, _, _] Y Y Y Y Y Y Y Y) (AtL.e Y (cl (fun h => delta_Cmp _ _ h _) H Y Tryz.call46 Y (fun w m hr hw => lift_delta_Cmp _ _ w m hr _ hw)) ?_)))))
 rintro _ _ ⟨v, h0u1, rfl, rfl, H⟩
 refine pu hT 2 Y (ng (AtC.ret ?_))
 exact r1 4 Y Y Y H
theorem lift_tableau_edge (e : Int × Bool × Sl × Sl × Bool × Sl × Sl) (w : World) (m : Heap) (hr : Rel ⟨m, []⟩ w.heap) (S : Bool → Heap → Prop) (H : tableau_edge e m S) :
 Calls Tryz.prog 61 #[Value.agg (C_i64ubool_sl_sl_bool_sl_sl e).toArray] w (Post ⟨w, m⟩ Value.bool S) := by
 refine Calls.lift (args := [Value.agg (C_i64ubool_sl_sl_bool_sl_sl e).toArray]) Tryz.func61 Y Tryz.ntmps61 (Nat.le_of_ble_eq_true Y) hr (tableau_edge e m S) H (fun H => ?_)
 refine AtC.pick (ts := [0]) Y ?_
 unfold tableau_edge at H
 refine sR (AtL.e Y (EffX.boxP (cs := [_, _, _, _, _, _, _]) Y Y Y H) ?_)
 rintro _ _ ⟨b, _, rfl, rfl, _, H⟩
 replace H := H.self
 refine pu hT 1 Y (ng (AtC.seq (sR (pu hT 1 Y (AtL.q Y (lP hT 0 Y) ?_)))))
 refine pu hT 1 Y (ng ?_)
 refine AtC.condB H Y (fun H => ?_) (fun H => ?_)
 refine AtC.joinSeq (β := Unit) (fun (t0 : Bool) (bb : Unit) => [(2, Value.bool t0)]) (fun (t0 : Bool) (bb : Unit) => []) [] [] H Y Y (fun t0 bb h0u1 H => ?_) (fun J1 H HK1 => ?_)
 refine AtC.ret (AtE.then_r ?_)
 exact r1 2 Y Y Y H
 refine AtC.region (pu hT 1 Y (AtL.q Y (lS hT 0 [_, _, _, _, _, _] Y Y Y Y Y Y Y Y) (AtL.q Y (Quiet1.build (cs := [_, _, _, _, _, _]) hT Y Y Y Y Y Y) (AtL.e Y (cl (fun h => tableau_same _ _ h _) H Y Tryz.call65 Y (fun w m hr hw => lift_tableau_same _ _ w m hr _ hw)) ?_))))
 rintro _ _ ⟨v, h0u2, rfl, rfl, H⟩
 refine pu hT 1 Y ?_
 refine AtL.splitB (t := 10) H Y (fun H => ?_) (fun H => ?_)
 refine ys Y (pu hT 1 Y (ys Y (pu hT 1 Y (ys Y (pu hT 1 Y ?_)))))
 refine ys Y (AtL.q Y (lP hT 0 Y) (ys Y (pu hT 1 Y (ys Y (pu hT 1 Y ?_)))))
 refine ys Y (pu hT 1 Y (ys Y (pu hT 1 Y (ys Y (AtL.q Y (lP hT 0 Y) ?_)))))
 refine ys Y (pu hT 1 Y (ys Y (pu hT 1 Y (ys Y (pu hT 1 Y ?_)))))
 refine pu hT 2 Y (AtL.nil ?_)
 exact AtE.then_n ((HK1 _ () _ H).pickP (ts := [2]) (is := []) Y Y (by decide) Y)
 refine nf Y (nf Y (nf Y (nf Y (nf Y (nf Y ?_)))))
 refine nf Y (nf Y (nf Y (nf Y (nf Y (nf Y ?_)))))
 refine pu hT 2 Y (AtL.nil ?_)
 exact AtE.then_n ((HK1 _ () _ H).pickP (ts := [2]) (is := []) Y Y (by decide) Y)
 refine AtC.skip (tg ?_)
 refine AtC.joinSeq (β := Unit) (fun (t0u1 : Bool) (bb_1 : Unit) => [(2, Value.bool t0u1)]) (fun (t0u1 : Bool) (bb_1 : Unit) => []) [] [] H Y Y (fun t0u1 bb_1 h0u3 H => ?_) (fun J2 H HK2 => ?_)
 refine AtC.ret ?_
 exact r1 2 Y Y Y H
 refine AtC.region (pu hT 2 Y (AtL.q Y (lS hT 0 [_, _, _] Y Y Y Y Y Y Y Y) (AtL.e Y (cl (fun h => ratio_Right _ h _) H Y Tryz.call42 Y (fun w m hr hw => lift_ratio_Right _ w m hr _ hw)) ?_)))
 rintro _ _ ⟨v_1, h0u4, rfl, rfl, H⟩
 refine pu hT 1 Y ?_
 refine AtL.splitB (t := 28) H Y (fun H => ?_) (fun H => ?_)
 refine ys Y (pu hT 1 Y (ys Y (pu hT 1 Y (ys Y (AtL.q Y (lS hT 0 [_, _, _] Y Y Y Y Y Y Y Y) ?_)))))
 refine ys Y (AtL.e Y (cl (fun h => ratio_Right _ h _) H Y Tryz.call42 Y (fun w m hr hw => lift_ratio_Right _ w m hr _ hw)) ?_)
 rintro _ _ ⟨v_2, h0u5, rfl, rfl, H⟩
 refine pu hT 2 Y (AtL.nil ?_)
 exact AtE.then_n ((HK2 _ () _ H).pickP (ts := [2]) (is := []) Y Y (by decide) Y)
 refine nf Y (nf Y (nf Y (nf Y (pu hT 2 Y (AtL.nil ?_)))))
 exact AtE.then_n ((HK2 _ () _ H).pickP (ts := [2]) (is := []) Y Y (by decide) Y)
theorem lift_tableau_Right_c3 (e : Int × Bool × Sl × Sl × Bool × Sl × Sl) (w : World) (m : Heap) (hr : Rel ⟨m, []⟩ w.heap) (S : Bool → Heap → Prop) (H : tableau_Right_c3 e m S) :
 Calls Tryz.prog 60 #[Value.agg (C_i64ubool_sl_sl_bool_sl_sl e).toArray] w (Post ⟨w, m⟩ Value.bool S) := by
 refine Calls.lift (args := [Value.agg (C_i64ubool_sl_sl_bool_sl_sl e).toArray]) Tryz.func60 Y Tryz.ntmps60 (Nat.le_of_ble_eq_true Y) hr (tableau_Right_c3 e m S) H (fun H => ?_)
 refine AtC.pick (ts := [0]) Y ?_
 unfold tableau_Right_c3 at H
 refine sR (AtL.e Y (EffX.boxP (cs := [_, _, _, _, _, _, _]) Y Y Y H) ?_)
 rintro _ _ ⟨b, _, rfl, rfl, _, H⟩
 replace H := H.self
 refine pu hT 1 Y (ng (sR (AtL.q Y (lS hT 0 [_, _, _, _, _, _, _] Y Y Y Y Y Y Y Y) (AtL.e Y (cl (fun h => tableau_edge _ h _) H Y Tryz.call61 Y (fun w m hr hw => lift_tableau_edge _ w m hr _ hw)) ?_))))
 rintro _ _ ⟨v, h0u1, rfl, rfl, H⟩
 refine pu hT 2 Y (ng (AtC.ret ?_))
 exact r1 2 Y Y Y H
theorem lift_slices_IndexFunc_api_Edge_api_Edge__tableau_Right_c3 (s0 : Sl) (w : World) (m : Heap) (hr : Rel ⟨m, []⟩ w.heap) (S : Int → Heap → Prop) (H : slices_IndexFunc_api_Edge_api_Edge__tableau_Right_c3 s0 m S) :
 Calls Tryz.prog 123 #[Sl.toV s0, Value.func (.func 60) #[] #[]] w (Post ⟨w, m⟩ (Value.int .i64) S) := by
 refine Calls.lift (args := [Sl.toV s0, Value.func (.func 60) #[] #[]]) Tryz.func123 Y Tryz.ntmps123 (Nat.le_of_ble_eq_true Y) hr (slices_IndexFunc_api_Edge_api_Edge__tableau_Right_c3 s0 m S) H (fun H => ?_)
 refine AtC.pick (ts := [0, 1]) Y ?_
 unfold slices_IndexFunc_api_Edge_api_Edge__tableau_Right_c3 at H
 refine sR (pu hT 1 Y (ng (AtC.seq (sR (pu hT 3 Y ?_)))))
 refine ng (AtC.block ?_)
 refine AtC.loopM (fun (s0u1 : Int) => [(8, Value.int .i64 s0u1)]) (fun (s0u1 : Int) => []) [0, 1, 7] [8, 0, 1, 7] [] [] H Y Y Y (by decide) Y (fun Kp1 s0u1 h0 H Q1 HK1 => ?_)
 refine sR (pu hT 1 Y (ng (AtC.seq ?_)))
 refine AtC.condB H Y (fun H => ?_) (fun H => ?_)
 refine AtC.skip (tg (AtC.seq (AtC.block (sR (pu hT 2 Y ?_)))))
 refine ng (sR (pu hT 3 Y ?_))
 obtain ⟨a_, hc1, hd1, H⟩ := H
 refine AtL.q Y (Quiet1.idxS hT Y Y Y Y Y hc1 hd1) ?_
 obtain ⟨v, hc2, H⟩ := H
 refine AtL.q Y (Quiet1.loadS hT Y Y Y Y hc2) (AtL.e Y (EffX.callF (bs := []) (cs := []) (f := 60) (sh := fun h => tableau_Right_c3 _ h _) (H0 := H) Y Y Tryz.call60 Y (hl := fun w m hr hw => lift_tableau_Right_c3 _ w m hr _ hw)) ?_)
 rintro _ _ ⟨v_1, h0u1, rfl, rfl, H⟩
 refine ng ?_
 refine AtC.condB H Y (fun H => ?_) (fun H => ?_)
 refine sR (pu hT 2 Y (ng (AtC.ret (AtE.blk_r (AtE.then_r ?_)))))
 refine AtE.then_r (AtE.blk_r (AtE.then_r ?_))
 exact r1 4 Y Y Y H
 refine AtC.skip (AtE.blk_n (tg (AtC.region (pu hT 2 Y (AtL.nil ?_)))))
 exact AtE.then_n ((HK1 _ _ H).pickP (ts := [8, 0, 1, 7]) (is := []) Y Y (by decide) Y)
 refine AtC.exit (AtE.then_x (AtE.then_x (AtE.blk_hit (tg (sR ?_)))))
 refine pu hT 1 Y (ng (AtC.ret ?_))
 exact r1 4 Y Y Y H
theorem lift_slices_ContainsFunc_api_Edge_api_Edge__tableau_Right_c3 (s0 : Sl) (w : World) (m : Heap) (hr : Rel ⟨m, []⟩ w.heap) (S : Bool → Heap → Prop) (H : slices_ContainsFunc_api_Edge_api_Edge__tableau_Right_c3 s0 m S) :
 Calls Tryz.prog 58 #[Sl.toV s0, Value.func (.func 60) #[] #[]] w (Post ⟨w, m⟩ Value.bool S) := by
 refine Calls.lift (args := [Sl.toV s0, Value.func (.func 60) #[] #[]]) Tryz.func58 Y Tryz.ntmps58 (Nat.le_of_ble_eq_true Y) hr (slices_ContainsFunc_api_Edge_api_Edge__tableau_Right_c3 s0 m S) H (fun H => ?_)
 refine AtC.pick (ts := [0, 1]) Y ?_
 unfold slices_ContainsFunc_api_Edge_api_Edge__tableau_Right_c3 at H
 refine sR (pu hT 1 Y (ng (sR (pu hT 2 Y (AtL.e Y (cl (fun h => slices_IndexFunc_api_Edge_api_Edge__tableau_Right_c3 _ h _) H Y Tryz.call123 Y (fun w m hr hw => lift_slices_IndexFunc_api_Edge_api_Edge__tableau_Right_c3 _ w m hr _ hw)) ?_)))))
 rintro _ _ ⟨v, h0, rfl, rfl, H⟩
 refine pu hT 2 Y (ng (AtC.ret ?_))
 exact r1 4 Y Y Y H
theorem lift_linear_Right (p : Bool × Sl × Sl × Sl) (w : World) (m : Heap) (hr : Rel ⟨m, []⟩ w.heap) (S : Bool → Heap → Prop) (H : linear_Right p m S) :
 Calls Tryz.prog 63 #[Value.agg (C_bool_sl_sl_sl p).toArray] w (Post ⟨w, m⟩ Value.bool S) := by
 refine Calls.lift (args := [Value.agg (C_bool_sl_sl_sl p).toArray]) Tryz.func63 Y Tryz.ntmps63 (Nat.le_of_ble_eq_true Y) hr (linear_Right p m S) H (fun H => ?_)
 refine AtC.pick (ts := [0]) Y ?_
 unfold linear_Right at H
 refine sR (AtL.e Y (EffX.boxP (cs := [_, _, _, _]) Y Y Y H) ?_)
 rintro _ _ ⟨b, _, rfl, rfl, _, H⟩
 replace H := H.self
 refine pu hT 1 Y (ng (sR (pu hT 1 Y (ng (AtC.seq ?_)))))
 refine sR (pu hT 1 Y (AtL.q Y (lP hT 0 Y) (pu hT 2 Y (ng (AtC.block ?_)))))
 refine AtC.loopM (fun (s0 : Int × Int) => [(3, Value.int .i64 s0.1), (9, Value.int .i64 s0.2)]) (fun (s0 : Int × Int) => []) [1, 7, 8] [3, 9, 1, 7, 8] [0] [0] H Y Y Y (by decide) Y (fun Kp1 s0 h0u1 H Q1 HK1 => ?_)
 refine sR (pu hT 1 Y (ng (AtC.seq ?_)))
 refine AtC.condB H Y (fun H => ?_) (fun H => ?_)
 refine AtC.skip (tg (AtC.seq (AtC.block (sR ?_))))
 obtain ⟨a_, hc1, hd1, H⟩ := H
 refine AtL.q Y (Quiet1.idxS hT Y Y Y Y Y hc1 hd1) ?_
 obtain ⟨v, hc2, H⟩ := H
 refine AtL.q Y (Quiet1.loadS hT Y Y Y Y hc2) (AtL.e Y (EffX.allocP (cs := [_, _, _, _]) hT Y Y H) ?_)
 rintro _ _ ⟨b_1, _, rfl, rfl, _, H⟩
 replace H := H.self
 refine AtL.e Y (EffX.storeSP (i := 0) (qv := [(_, [_, _, _, _]), (_, [_, _, _, _])]) hT Y Y Y Y Y Y Y Y Y Y) ?_
 rintro _ _ rfl
 refine ng (AtC.seq ?_)
 refine AtC.joinSeq (β := Unit) (fun (t0 : Bool) (bb : Unit) => [(28, Value.bool t0)]) (fun (t0 : Bool) (bb : Unit) => []) [1, 5, 7, 8, 9] [0, 1] H Y Y (fun t0 bb h0u3 H => ?_) (fun J4 H HK4 => ?_)
 refine AtC.condB H Y (fun H => ?_) (fun H => ?_)
 refine sR (pu hT 1 Y (ng (AtC.ret (AtE.then_r (AtE.blk_r ?_)))))
 refine AtE.then_r (AtE.then_r (AtE.blk_r (AtE.then_r ?_)))
 exact r1 2 Y Y Y H
 refine AtC.skip (tg (AtC.region (pu hT 1 Y (AtL.q Y (lP hT 0 Y) (pu hT 1 Y ?_)))))
 refine AtL.nil (AtE.blk_n (tg (AtC.region (pu hT 2 Y (AtL.nil ?_)))))
 exact AtE.then_n ((HK1 _ _ H).pickP (ts := [3, 9, 1, 7, 8]) (is := [1]) Y Y (by decide) Y)
 refine AtC.region (pu hT 1 Y (AtL.q Y (lP hT 0 Y) (pu hT 3 Y ?_)))
 refine AtL.splitB (t := 17) H Y (fun H => ?_) (fun H => ?_)
 refine nf Y (nf Y (nf Y (nf Y (pu hT 2 Y (nf Y ?_)))))
 refine nf Y (nf Y (nf Y (pu hT 1 Y (AtL.nil ?_))))
 exact AtE.then_n ((HK4 _ () _ H).pickP (ts := [28, 1, 5, 7, 8, 9]) (is := [0, 1]) Y Y (by decide) Y)
 refine ys Y (pu hT 1 Y (ys Y (AtL.q Y (lS hT 0 [_, _, _] Y Y Y Y Y Y Y Y) (ys Y (AtL.e Y (cl (fun h => ratio_Sign _ h _) H Y Tryz.call43 Y (fun w m hr hw => lift_ratio_Sign _ w m hr _ hw)) ?_)))))
 rintro _ _ ⟨v_1, h0u4, rfl, rfl, H⟩
 refine ys Y (pu hT 1 Y (pu hT 2 Y ?_))
 refine AtL.splitB (t := 23) H Y (fun H => ?_) (fun H => ?_)
 refine nf Y (nf Y (nf Y (nf Y (pu hT 1 Y (AtL.nil ?_)))))
 exact AtE.then_n ((HK4 _ () _ H).pickP (ts := [28, 1, 5, 7, 8, 9]) (is := [0, 1]) Y Y (by decide) Y)
 refine ys Y (pu hT 1 Y (ys Y (AtL.q Y (lS hT 0 [_, _, _] Y Y Y Y Y Y Y Y) (ys Y (AtL.e Y (cl (fun h => ratio_Right _ h _) H Y Tryz.call42 Y (fun w m hr hw => lift_ratio_Right _ w m hr _ hw)) ?_)))))
 rintro _ _ ⟨v_2, h0u5, rfl, rfl, H⟩
 refine ys Y (pu hT 1 Y (pu hT 1 Y (AtL.nil ?_)))
 exact AtE.then_n ((HK4 _ () _ H).pickP (ts := [28, 1, 5, 7, 8, 9]) (is := [0, 1]) Y Y (by decide) Y)
 refine AtC.exit (AtE.then_x (AtE.then_x (AtE.blk_hit (tg (sR ?_)))))
 refine pu hT 1 Y (AtL.q Y (lS hT 0 [_, _, _] Y Y Y Y Y Y Y Y) (AtL.e Y (cl (fun h => ratio_Right _ h _) H Y Tryz.call42 Y (fun w m hr hw => lift_ratio_Right _ w m hr _ hw)) ?_))
 rintro _ _ ⟨v_3, h0u6, rfl, rfl, H⟩
 refine pu hT 1 Y (ng (AtC.ret ?_))
 exact r1 2 Y Y Y H
theorem lift_tableau_Right_c4 (m0 : Int × Bool × Sl × Sl) (c0 : Addr) (c1 : Addr) (w : World) (m : Heap) (hr : Rel ⟨m, []⟩ w.heap) (S : Bool → Heap → Prop) (H : tableau_Right_c4 m0 c0 c1 m S) :
 Calls Tryz.prog 62 #[Value.agg (C_i64ubool_sl_sl m0).toArray, Value.pointer (some c0), Value.pointer (some c1)] w (Post ⟨w, m⟩ Value.bool S) := by
 refine Calls.lift (args := [Value.agg (C_i64ubool_sl_sl m0).toArray, Value.pointer (some c0), Value.pointer (some c1)]) Tryz.func62 Y Tryz.ntmps62 (Nat.le_of_ble_eq_true Y) hr (tableau_Right_c4 m0 c0 c1 m S) H (fun H => ?_)
 refine AtC.pick (ts := [0, 1, 2]) Y ?_
 unfold tableau_Right_c4 at H
 refine sR (AtL.e Y (EffX.boxP (cs := [_, _, _, _]) Y Y Y H) ?_)
 rintro _ _ ⟨b, _, rfl, rfl, _, H⟩
 replace H := H.self
 refine pu hT 1 Y (ng ?_)
 refine AtC.joinSeq (β := Unit) (fun (t0 : Bool) (bb : Unit) => [(4, Value.bool t0)]) (fun (t0 : Bool) (bb : Unit) => []) [] [] H Y Y (fun t0 bb h0u1 H => ?_) (fun J1 H HK1 => ?_)
 refine AtC.ret ?_
 exact r1 4 Y Y Y H
 refine AtC.region (pu hT 1 Y (AtL.q Y (lP hT 0 Y) ?_))
 obtain ⟨v, hc1, H⟩ := H
 refine AtL.q Y (Quiet1.load hT Y Y Y hc1) (pu hT 2 Y ?_)
 refine AtL.splitB (t := 9) H Y (fun H => ?_) (fun H => ?_)
 refine nf Y (nf Y (nf Y (nf Y (nf Y (pu hT 2 Y ?_)))))
 refine AtL.nil ?_
 exact AtE.then_n ((HK1 _ () _ H).pickP (ts := [4]) (is := []) Y Y (by decide) Y)
 refine ys Y ?_
 obtain ⟨v_1, hc2, H⟩ := H
 refine AtL.q Y (Quiet1.loadS hT Y Y Y Y hc2) (ys Y (pu hT 1 Y (ys Y (AtL.q Y (lP hT 0 Y) (ys Y ?_)))))
 refine AtL.e Y (cl (fun h => tableau_Row _ _ h _) H Y Tryz.call33 Y (fun w m hr hw => lift_tableau_Row _ _ w m hr _ hw)) ?_
 rintro _ _ ⟨v_2, h0u2, rfl, rfl, H⟩
 refine ys Y (pu hT 1 Y (pu hT 2 Y (AtL.nil ?_)))
 exact AtE.then_n ((HK1 _ () _ H).pickP (ts := [4]) (is := []) Y Y (by decide) Y)
theorem lift_slices_IndexFunc_api_Mono_api_Mono__tableau_Right_c4 (s0 : Sl) (f_c : Addr) (f_c_1 : Addr) (w : World) (m : Heap) (hr : Rel ⟨m, []⟩ w.heap) (S : Int → Heap → Prop) (H : slices_IndexFunc_api_Mono_api_Mono__tableau_Right_c4 s0 f_c f_c_1 m S) :
 Calls Tryz.prog 125 #[Sl.toV s0, Value.func (.func 62) #[] #[Value.pointer (some f_c), Value.pointer (some f_c_1)]] w (Post ⟨w, m⟩ (Value.int .i64) S) := by
 refine Calls.lift (args := [Sl.toV s0, Value.func (.func 62) #[] #[Value.pointer (some f_c), Value.pointer (some f_c_1)]]) Tryz.func125 Y Tryz.ntmps125 (Nat.le_of_ble_eq_true Y) hr (slices_IndexFunc_api_Mono_api_Mono__tableau_Right_c4 s0 f_c f_c_1 m S) H (fun H => ?_)
 refine AtC.pick (ts := [0, 1]) Y ?_
 unfold slices_IndexFunc_api_Mono_api_Mono__tableau_Right_c4 at H
 refine sR (pu hT 1 Y (ng (AtC.seq (sR (pu hT 3 Y ?_)))))
 refine ng (AtC.block ?_)
 refine AtC.loopM (fun (s0u1 : Int) => [(8, Value.int .i64 s0u1)]) (fun (s0u1 : Int) => []) [0, 1, 7] [8, 0, 1, 7] [] [] H Y Y Y (by decide) Y (fun Kp1 s0u1 h0 H Q1 HK1 => ?_)
 refine sR (pu hT 1 Y (ng (AtC.seq ?_)))
 refine AtC.condB H Y (fun H => ?_) (fun H => ?_)
 refine AtC.skip (tg (AtC.seq (AtC.block (sR (pu hT 2 Y ?_)))))
 refine ng (sR (pu hT 3 Y ?_))
 obtain ⟨a_, hc1, hd1, H⟩ := H
 refine AtL.q Y (Quiet1.idxS hT Y Y Y Y Y hc1 hd1) ?_
 obtain ⟨v, hc2, H⟩ := H
 refine AtL.q Y (Quiet1.loadS hT Y Y Y Y hc2) (AtL.e Y (EffX.callF (bs := []) (cs := [_, _]) (f := 62) (sh := fun h => tableau_Right_c4 _ _ _ h _) (H0 := H) Y Y Tryz.call62 Y (hl := fun w m hr hw => lift_tableau_Right_c4 _ _ _ w m hr _ hw)) ?_)
 rintro _ _ ⟨v_1, h0u1, rfl, rfl, H⟩
 refine ng ?_
 refine AtC.condB H Y (fun H => ?_) (fun H => ?_)
 refine sR (pu hT 2 Y (ng (AtC.ret (AtE.blk_r (AtE.then_r ?_)))))
 refine AtE.then_r (AtE.blk_r (AtE.then_r ?_))
 exact r1 4 Y Y Y H
 refine AtC.skip (AtE.blk_n (tg (AtC.region (pu hT 2 Y (AtL.nil ?_)))))
 exact AtE.then_n ((HK1 _ _ H).pickP (ts := [8, 0, 1, 7]) (is := []) Y Y (by decide) Y)
 refine AtC.exit (AtE.then_x (AtE.then_x (AtE.blk_hit (tg (sR ?_)))))
 refine pu hT 1 Y (ng (AtC.ret ?_))
 exact r1 4 Y Y Y H
theorem lift_slices_ContainsFunc_api_Mono_api_Mono__tableau_Right_c4 (s0 : Sl) (f_c : Addr) (f_c_1 : Addr) (w : World) (m : Heap) (hr : Rel ⟨m, []⟩ w.heap) (S : Bool → Heap → Prop) (H : slices_ContainsFunc_api_Mono_api_Mono__tableau_Right_c4 s0 f_c f_c_1 m S) :
 Calls Tryz.prog 64 #[Sl.toV s0, Value.func (.func 62) #[] #[Value.pointer (some f_c), Value.pointer (some f_c_1)]] w (Post ⟨w, m⟩ Value.bool S) := by
 refine Calls.lift (args := [Sl.toV s0, Value.func (.func 62) #[] #[Value.pointer (some f_c), Value.pointer (some f_c_1)]]) Tryz.func64 Y Tryz.ntmps64 (Nat.le_of_ble_eq_true Y) hr (slices_ContainsFunc_api_Mono_api_Mono__tableau_Right_c4 s0 f_c f_c_1 m S) H (fun H => ?_)
 refine AtC.pick (ts := [0, 1]) Y ?_
 unfold slices_ContainsFunc_api_Mono_api_Mono__tableau_Right_c4 at H
 refine sR (pu hT 1 Y (ng (sR (pu hT 2 Y (AtL.e Y (cl (fun h => slices_IndexFunc_api_Mono_api_Mono__tableau_Right_c4 _ _ _ h _) H Y Tryz.call125 Y (fun w m hr hw => lift_slices_IndexFunc_api_Mono_api_Mono__tableau_Right_c4 _ _ _ w m hr _ hw)) ?_)))))
 rintro _ _ ⟨v, h0, rfl, rfl, H⟩
 refine pu hT 2 Y (ng (AtC.ret ?_))
 exact r1 4 Y Y Y H
theorem lift_delta_both__ratio_Mul (b : (Option Addr)) (x0 : Bool × Sl × Sl × Bool × Sl × Sl) (y : Bool × Sl × Sl × Bool × Sl × Sl) (w : World) (m : Heap) (hr : Rel ⟨m, []⟩ w.heap) (S : (Bool × Sl × Sl × Bool × Sl × Sl) → Heap → Prop) (H : delta_both__ratio_Mul b x0 y m S) :
 Calls Tryz.prog 130 #[Value.pointer b, Value.func (.func 135) #[] #[], Value.agg (C_bool_sl_sl_bool_sl_sl x0).toArray, Value.agg (C_bool_sl_sl_bool_sl_sl y).toArray] w (Post ⟨w, m⟩ (fun r => Value.agg (C_bool_sl_sl_bool_sl_sl r).toArray) S) := by
 refine Calls.lift (args := [Value.pointer b, Value.func (.func 135) #[] #[], Value.agg (C_bool_sl_sl_bool_sl_sl x0).toArray, Value.agg (C_bool_sl_sl_bool_sl_sl y).toArray]) Tryz.func130 Y Tryz.ntmps130 (Nat.le_of_ble_eq_true Y) hr (delta_both__ratio_Mul b x0 y m S) H (fun H => ?_)
 refine AtC.pick (ts := [0, 1, 2, 3]) Y ?_
 unfold delta_both__ratio_Mul at H
 refine sR (AtL.e Y (EffX.boxP (cs := [_, _, _, _, _, _]) Y Y Y H) ?_)
 rintro _ _ ⟨b_1, _, rfl, rfl, _, H⟩
 refine AtL.e Y (EffX.boxP (cs := [_, _, _, _, _, _]) Y Y Y H) ?_
 rintro _ _ ⟨b_2, _, rfl, rfl, _, H⟩
 refine AtL.e Y (EffX.allocP (cs := [_, _, _, _, _, _]) hT Y Y H) ?_
 rintro _ _ ⟨b_3, _, rfl, rfl, _, H⟩
 refine AtL.nil ?_
 replace H := H.self
 refine tg ?_
 refine AtC.joinSeq (β := Nat) (fun (t0 : Bool × Sl × Sl × Bool × Sl × Sl) (bb : Nat) => [(9, Value.pointer (some ⟨bb, 0, none⟩))]) (fun (t0 : Bool × Sl × Sl × Bool × Sl × Sl) (bb : Nat) => [(bb, [Value.bool t0.1, Sl.toV t0.2.1, Sl.toV t0.2.2.1, Value.bool t0.2.2.2.1, Sl.toV t0.2.2.2.2.1, Sl.toV t0.2.2.2.2.2])]) [0, 8] [0] H Y Y (fun t0 bb h0u1 H => ?_) (fun J1 H HK1 => ?_)
 refine AtC.seq (sR (pu hT 1 Y (AtL.e Y (cl (fun h => nat_Bench_Over _ h _) H Y Tryz.call30 Y (fun w m hr hw => lift_nat_Bench_Over _ w m hr _ hw)) ?_)))
 rintro _ _ ⟨v_5, h0u13, rfl, rfl, H⟩
 refine ng ?_
 refine AtC.condB H Y (fun H => ?_) (fun H => ?_)
 refine sR (AtL.q Y (Quiet1.build (cs := [_, _, _, _, _, _]) hT Y Y Y Y Y Y) (AtL.e Y (EffX.storeSP (i := 1) (qv := [(_, [_, _, _, _, _, _]), (_, [_, _, _, _, _, _])]) hT Y Y Y Y Y Y Y Y Y Y) ?_))
 rintro _ _ rfl
 refine ng (AtC.ret (AtE.then_r ?_))
 exact AtE.retN (rs := [.cell 8 44]) Y (ResAll.cons (ResAt.cellSP (i := 1) (l := [_, _, _, _, _, _]) hT Y Y Y Y Y Y Y) ResAll.nil) Y H
 refine AtC.skip (tg (sR (AtL.q Y (lS hT 0 [_, _, _, _, _, _] Y Y Y Y Y Y Y Y) (AtL.e Y (EffX.storeSP (i := 1) (qv := [(_, [_, _, _, _, _, _]), (_, [_, _, _, _, _, _])]) hT Y Y Y Y Y Y Y Y Y Y) ?_))))
 rintro _ _ rfl
 refine ng (AtC.ret ?_)
 exact AtE.retN (rs := [.cell 8 44]) Y (ResAll.cons (ResAt.cellSP (i := 1) (l := [_, _, _, _, _, _]) hT Y Y Y Y Y Y Y) ResAll.nil) Y H
 apply AtC.stages [6, 13, 15, 16] [[], [], [], [], [], [], [], [], [], [], [], [], [], [6], [6, 13], [], [6, 13, 15]] [[], [], [], [2], [], [4], [0, 1, 2, 3, 4, 5], [], [], [], [9], [], [11], [0, 1, 2, 3, 4, 5, 6, 7, 8, 9, 10, 11, 12], [0, 1, 2, 3, 4, 5, 6, 7, 8, 9, 10, 11, 12, 13], [], [0, 1, 2, 3, 4, 5, 6, 7, 8, 9, 10, 11, 12, 13, 14, 15]] hmix (by kernel_rfl) [(10, _), (11, _), (12, _), (13, _), (14, _), (15, _), (17, _), (18, _), (19, _), (20, _), (21, _), (22, _)] Y 4 Y
 refine Stg.go [0, 1, 2, 3, 4, 5, 7, 8, 9, 10, 11, 12] [6, 15] Y Y (qp hT Y (qp hT Y (qp hT Y (qq Y (lS hT 2 [_, _, _] Y Y Y Y Y Y Y Y) Y (qp hT Y (qq Y (lS hT 1 [_, _, _] Y Y Y Y Y Y Y Y) Y (qp hT Y (qp hT Y (qp hT Y (qq Y (lS hT 2 [_, _, _] Y Y Y Y Y Y Y Y) Y (qp hT Y (qq Y (lS hT 1 [_, _, _] Y Y Y Y Y Y Y Y) Y QAll.nil)))))))))))) ?_
 refine EAll.cons ?_ ?_
 replace H := H.self
 refine EOp.e Y Y Y (EffX.callF (bs := []) (cs := []) (f := 135) (sh := fun h => ratio_Mul _ _ _ h _) (H0 := H) Y Y Tryz.call135 Y (hl := fun w m hr hw => lift_ratio_Mul _ _ _ w m hr _ hw)) ?_
 rintro _ _ ⟨v, h0u3, rfl, rfl, H⟩
 apply Stg.next [(16, _)] Y Y
 refine Stg.go [7, 8, 9, 10, 11, 12] [13, 15] Y Y (qp hT Y (qp hT Y (qp hT Y (qq Y (lS hT 2 [_, _, _] Y Y Y Y Y Y Y Y) Y (qp hT Y (qq Y (lS hT 1 [_, _, _] Y Y Y Y Y Y Y Y) Y QAll.nil)))))) ?_
 refine EAll.cons ?_ ?_
 replace H := H.self
 refine EOp.e Y Y Y (EffX.callF (bs := []) (cs := []) (f := 135) (sh := fun h => ratio_Mul _ _ _ h _) (H0 := H) Y Y Tryz.call135 Y (hl := fun w m hr hw => lift_ratio_Mul _ _ _ w m hr _ hw)) ?_
 rintro _ _ ⟨v_1, h0u5, rfl, rfl, H⟩
 apply Stg.next [(23, _), (24, _)] Y Y
 refine Stg.go [14] [15] Y Y (qq Y (Quiet1.build (cs := [_, _, _, _, _, _]) hT Y Y Y Y Y Y) Y QAll.nil) ?_
 refine EAll.cons ?_ EAll.nil
 refine EOp.e Y Y Y (EffX.allocP (cs := [_, _, _, _, _, _]) hT Y Y H) ?_
 rintro _ _ ⟨b_4, _, rfl, rfl, he1, H⟩
 apply Stg.next [(9, _)] Y Y
 refine Stg.go [14] [16] Y Y (qq Y (Quiet1.build (cs := [_, _, _, _, _, _]) hT Y Y Y Y Y Y) Y QAll.nil) ?_
 refine EAll.cons ?_ EAll.nil
 refine EOp.e Y Y Y (EffX.storeSP (i := 0) (qv := [(_, [_, _, _, _, _, _]), (_, [_, _, _, _, _, _]), (_, [_, _, _, _, _, _]), (_, [_, _, _, _, _, _])]) hT Y Y Y Y Y Y Y Y Y Y) ?_
 rintro _ _ rfl
 apply Stg.next [] Y Y
 refine Stg.fin [] Y Y QAll.nil ?_
 replace H := H.self
 exact AtE.then_n ((HK1 _ b_4 _ H).pickP (ts := [9, 0, 8]) (is := [0, 1]) Y Y (by decide) Y)
 refine EAll.cons ?_ EAll.nil
 refine EOp.e Y Y Y (EffX.allocP (cs := [_, _, _, _, _, _]) hT Y Y H) ?_
 rintro _ _ ⟨b_5, _, rfl, rfl, he2, H⟩
 apply Stg.next [(9, _)] Y Y
 refine Stg.go [7, 8, 9, 10, 11, 12] [13] Y Y (qp hT Y (qp hT Y (qp hT Y (qq Y (lS hT 3 [_, _, _] Y Y Y Y Y Y Y Y) Y (qp hT Y (qq Y (lS hT 2 [_, _, _] Y Y Y Y Y Y Y Y) Y QAll.nil)))))) ?_
 refine EAll.cons ?_ EAll.nil
 replace H := H.self
 refine EOp.e Y Y Y (EffX.callF (bs := []) (cs := []) (f := 135) (sh := fun h => ratio_Mul _ _ _ h _) (H0 := H) Y Y Tryz.call135 Y (hl := fun w m hr hw => lift_ratio_Mul _ _ _ w m hr _ hw)) ?_
 rintro _ _ ⟨v_2, h0u7, rfl, rfl, H⟩
 apply Stg.next [(23, _), (24, _)] Y Y
 refine Stg.go [14] [16] Y Y (qq Y (Quiet1.build (cs := [_, _, _, _, _, _]) hT Y Y Y Y Y Y) Y QAll.nil) ?_
 refine EAll.cons ?_ EAll.nil
 refine EOp.e Y Y Y (EffX.storeSP (i := 0) (qv := [(_, [_, _, _, _, _, _]), (_, [_, _, _, _, _, _]), (_, [_, _, _, _, _, _]), (_, [_, _, _, _, _, _])]) hT Y Y Y Y Y Y Y Y Y Y) ?_
 rintro _ _ rfl
 apply Stg.next [] Y Y
 refine Stg.fin [] Y Y QAll.nil ?_
 replace H := H.self
 exact AtE.then_n ((HK1 _ b_5 _ H).pickP (ts := [9, 0, 8]) (is := [0, 1]) Y Y (by decide) Y)
 refine EAll.cons ?_ EAll.nil
 refine EOp.e Y Y Y (EffX.allocP (cs := [_, _, _, _, _, _]) hT Y Y H) ?_
 rintro _ _ ⟨b_6, _, rfl, rfl, he3, H⟩
 apply Stg.next [(9, _)] Y Y
 refine Stg.go [0, 1, 2, 3, 4, 5, 7, 8, 9, 10, 11, 12] [6] Y Y (qp hT Y (qp hT Y (qp hT Y (qq Y (lS hT 3 [_, _, _] Y Y Y Y Y Y Y Y) Y (qp hT Y (qq Y (lS hT 2 [_, _, _] Y Y Y Y Y Y Y Y) Y (qp hT Y (qp hT Y (qp hT Y (qq Y (lS hT 3 [_, _, _] Y Y Y Y Y Y Y Y) Y (qp hT Y (qq Y (lS hT 2 [_, _, _] Y Y Y Y Y Y Y Y) Y QAll.nil)))))))))))) ?_
 refine EAll.cons ?_ EAll.nil
 replace H := H.self
 refine EOp.e Y Y Y (EffX.callF (bs := []) (cs := []) (f := 135) (sh := fun h => ratio_Mul _ _ _ h _) (H0 := H) Y Y Tryz.call135 Y (hl := fun w m hr hw => lift_ratio_Mul _ _ _ w m hr _ hw)) ?_
 rintro _ _ ⟨v_3, h0u9, rfl, rfl, H⟩
 apply Stg.next [(16, _)] Y Y
 refine Stg.go [7, 8, 9, 10, 11, 12] [13] Y Y (qp hT Y (qp hT Y (qp hT Y (qq Y (lS hT 3 [_, _, _] Y Y Y Y Y Y Y Y) Y (qp hT Y (qq Y (lS hT 2 [_, _, _] Y Y Y Y Y Y Y Y) Y QAll.nil)))))) ?_
 refine EAll.cons ?_ EAll.nil
 replace H := H.self
 refine EOp.e Y Y Y (EffX.callF (bs := []) (cs := []) (f := 135) (sh := fun h => ratio_Mul _ _ _ h _) (H0 := H) Y Y Tryz.call135 Y (hl := fun w m hr hw => lift_ratio_Mul _ _ _ w m hr _ hw)) ?_
 rintro _ _ ⟨v_4, h0u11, rfl, rfl, H⟩
 apply Stg.next [(23, _), (24, _)] Y Y
 refine Stg.go [14] [16] Y Y (qq Y (Quiet1.build (cs := [_, _, _, _, _, _]) hT Y Y Y Y Y Y) Y QAll.nil) ?_
 refine EAll.cons ?_ EAll.nil
 refine EOp.e Y Y Y (EffX.storeSP (i := 0) (qv := [(_, [_, _, _, _, _, _]), (_, [_, _, _, _, _, _]), (_, [_, _, _, _, _, _]), (_, [_, _, _, _, _, _])]) hT Y Y Y Y Y Y Y Y Y Y) ?_
 rintro _ _ rfl
 apply Stg.next [] Y Y
 refine Stg.fin [] Y Y QAll.nil ?_
 replace H := H.self
 exact AtE.then_n ((HK1 _ b_6 _ H).pickP (ts := [9, 0, 8]) (is := [0, 1]) Y Y (by decide) Y)
theorem lift_delta_Scale (b : (Option Addr)) (k : Bool × Sl × Sl) (x0 : Bool × Sl × Sl × Bool × Sl × Sl) (w : World) (m : Heap) (hr : Rel ⟨m, []⟩ w.heap) (S : (Bool × Sl × Sl × Bool × Sl × Sl) → Heap → Prop) (H : delta_Scale b k x0 m S) :
 Calls Tryz.prog 81 #[Value.pointer b, Value.agg (C_bool_sl_sl k).toArray, Value.agg (C_bool_sl_sl_bool_sl_sl x0).toArray] w (Post ⟨w, m⟩ (fun r => Value.agg (C_bool_sl_sl_bool_sl_sl r).toArray) S) := by
 refine Calls.lift (args := [Value.pointer b, Value.agg (C_bool_sl_sl k).toArray, Value.agg (C_bool_sl_sl_bool_sl_sl x0).toArray]) Tryz.func81 Y Tryz.ntmps81 (Nat.le_of_ble_eq_true Y) hr (delta_Scale b k x0 m S) H (fun H => ?_)
 refine AtC.pick (ts := [0, 1, 2]) Y ?_
 unfold delta_Scale at H
 refine sR (AtL.e Y (EffX.boxP (cs := [_, _, _]) Y Y Y H) ?_)
 rintro _ _ ⟨b_1, _, rfl, rfl, _, H⟩
 refine AtL.e Y (EffX.boxP (cs := [_, _, _, _, _, _]) Y Y Y H) ?_
 rintro _ _ ⟨b_2, _, rfl, rfl, _, H⟩
 refine AtL.e Y (EffX.allocP (cs := [_, _, _, _, _, _]) hT Y Y H) ?_
 rintro _ _ ⟨b_3, _, rfl, rfl, _, H⟩
 refine AtL.nil ?_
 replace H := H.self
 refine tg (sR (pu hT 1 Y (AtL.q Y (lS hT 2 [_, _, _] Y Y Y Y Y Y Y Y) (AtL.q Y (lS hT 2 [_, _, _] Y Y Y Y Y Y Y Y) (AtL.q Y (Quiet1.build (cs := [_, _, _, _, _, _]) hT Y Y Y Y Y Y) ?_)))))
 refine AtL.q Y (lS hT 1 [_, _, _, _, _, _] Y Y Y Y Y Y Y Y) (AtL.e Y (cl (fun h => delta_both__ratio_Mul _ _ _ h _) H Y Tryz.call130 Y (fun w m hr hw => lift_delta_both__ratio_Mul _ _ _ w m hr _ hw)) ?_)
 rintro _ _ ⟨v, h0u1, rfl, rfl, H⟩
 refine AtL.e Y (EffX.storeSP (i := 0) (qv := [(_, [_, _, _, _, _, _]), (_, [_, _, _, _, _, _]), (_, [_, _, _])]) hT Y Y Y Y Y Y Y Y Y Y) ?_
 rintro _ _ rfl
 refine ng (AtC.ret ?_)
 exact AtE.retN (rs := [.cell 6 44]) Y (ResAll.cons (ResAt.cellSP (i := 0) (l := [_, _, _, _, _, _]) hT Y Y Y Y Y Y Y) ResAll.nil) Y H
theorem lift_delta_both__ratio_Add (b : (Option Addr)) (x0 : Bool × Sl × Sl × Bool × Sl × Sl) (y : Bool × Sl × Sl × Bool × Sl × Sl) (w : World) (m : Heap) (hr : Rel ⟨m, []⟩ w.heap) (S : (Bool × Sl × Sl × Bool × Sl × Sl) → Heap → Prop) (H : delta_both__ratio_Add b x0 y m S) :
 Calls Tryz.prog 130 #[Value.pointer b, Value.func (.func 134) #[] #[], Value.agg (C_bool_sl_sl_bool_sl_sl x0).toArray, Value.agg (C_bool_sl_sl_bool_sl_sl y).toArray] w (Post ⟨w, m⟩ (fun r => Value.agg (C_bool_sl_sl_bool_sl_sl r).toArray) S) := by
 refine Calls.lift (args := [Value.pointer b, Value.func (.func 134) #[] #[], Value.agg (C_bool_sl_sl_bool_sl_sl x0).toArray, Value.agg (C_bool_sl_sl_bool_sl_sl y).toArray]) Tryz.func130 Y Tryz.ntmps130 (Nat.le_of_ble_eq_true Y) hr (delta_both__ratio_Add b x0 y m S) H (fun H => ?_)
 refine AtC.pick (ts := [0, 1, 2, 3]) Y ?_
 unfold delta_both__ratio_Add at H
 refine sR (AtL.e Y (EffX.boxP (cs := [_, _, _, _, _, _]) Y Y Y H) ?_)
 rintro _ _ ⟨b_1, _, rfl, rfl, _, H⟩
 refine AtL.e Y (EffX.boxP (cs := [_, _, _, _, _, _]) Y Y Y H) ?_
 rintro _ _ ⟨b_2, _, rfl, rfl, _, H⟩
 refine AtL.e Y (EffX.allocP (cs := [_, _, _, _, _, _]) hT Y Y H) ?_
 rintro _ _ ⟨b_3, _, rfl, rfl, _, H⟩
 refine AtL.nil ?_
 replace H := H.self
 refine tg ?_
 refine AtC.joinSeq (β := Nat) (fun (t0 : Bool × Sl × Sl × Bool × Sl × Sl) (bb : Nat) => [(9, Value.pointer (some ⟨bb, 0, none⟩))]) (fun (t0 : Bool × Sl × Sl × Bool × Sl × Sl) (bb : Nat) => [(bb, [Value.bool t0.1, Sl.toV t0.2.1, Sl.toV t0.2.2.1, Value.bool t0.2.2.2.1, Sl.toV t0.2.2.2.2.1, Sl.toV t0.2.2.2.2.2])]) [0, 8] [0] H Y Y (fun t0 bb h0u1 H => ?_) (fun J1 H HK1 => ?_)
 refine AtC.seq (sR (pu hT 1 Y (AtL.e Y (cl (fun h => nat_Bench_Over _ h _) H Y Tryz.call30 Y (fun w m hr hw => lift_nat_Bench_Over _ w m hr _ hw)) ?_)))
 rintro _ _ ⟨v_5, h0u13, rfl, rfl, H⟩
 refine ng ?_
 refine AtC.condB H Y (fun H => ?_) (fun H => ?_)
 refine sR (AtL.q Y (Quiet1.build (cs := [_, _, _, _, _, _]) hT Y Y Y Y Y Y) (AtL.e Y (EffX.storeSP (i := 1) (qv := [(_, [_, _, _, _, _, _]), (_, [_, _, _, _, _, _])]) hT Y Y Y Y Y Y Y Y Y Y) ?_))
 rintro _ _ rfl
 refine ng (AtC.ret (AtE.then_r ?_))
 exact AtE.retN (rs := [.cell 8 44]) Y (ResAll.cons (ResAt.cellSP (i := 1) (l := [_, _, _, _, _, _]) hT Y Y Y Y Y Y Y) ResAll.nil) Y H
 refine AtC.skip (tg (sR (AtL.q Y (lS hT 0 [_, _, _, _, _, _] Y Y Y Y Y Y Y Y) (AtL.e Y (EffX.storeSP (i := 1) (qv := [(_, [_, _, _, _, _, _]), (_, [_, _, _, _, _, _])]) hT Y Y Y Y Y Y Y Y Y Y) ?_))))
 rintro _ _ rfl
 refine ng (AtC.ret ?_)
 exact AtE.retN (rs := [.cell 8 44]) Y (ResAll.cons (ResAt.cellSP (i := 1) (l := [_, _, _, _, _, _]) hT Y Y Y Y Y Y Y) ResAll.nil) Y H
 apply AtC.stages [6, 13, 15, 16] [[], [], [], [], [], [], [], [], [], [], [], [], [], [6], [6, 13], [], [6, 13, 15]] [[], [], [], [2], [], [4], [0, 1, 2, 3, 4, 5], [], [], [], [9], [], [11], [0, 1, 2, 3, 4, 5, 6, 7, 8, 9, 10, 11, 12], [0, 1, 2, 3, 4, 5, 6, 7, 8, 9, 10, 11, 12, 13], [], [0, 1, 2, 3, 4, 5, 6, 7, 8, 9, 10, 11, 12, 13, 14, 15]] hmix (by kernel_rfl) [(10, _), (11, _), (12, _), (13, _), (14, _), (15, _), (17, _), (18, _), (19, _), (20, _), (21, _), (22, _)] Y 4 Y
 refine Stg.go [0, 1, 2, 3, 4, 5, 7, 8, 9, 10, 11, 12] [6, 15] Y Y (qp hT Y (qp hT Y (qp hT Y (qq Y (lS hT 2 [_, _, _] Y Y Y Y Y Y Y Y) Y (qp hT Y (qq Y (lS hT 1 [_, _, _] Y Y Y Y Y Y Y Y) Y (qp hT Y (qp hT Y (qp hT Y (qq Y (lS hT 2 [_, _, _] Y Y Y Y Y Y Y Y) Y (qp hT Y (qq Y (lS hT 1 [_, _, _] Y Y Y Y Y Y Y Y) Y QAll.nil)))))))))))) ?_
 refine EAll.cons ?_ ?_
 replace H := H.self
 refine EOp.e Y Y Y (EffX.callF (bs := []) (cs := []) (f := 134) (sh := fun h => ratio_Add _ _ _ h _) (H0 := H) Y Y Tryz.call134 Y (hl := fun w m hr hw => lift_ratio_Add _ _ _ w m hr _ hw)) ?_
 rintro _ _ ⟨v, h0u3, rfl, rfl, H⟩
 apply Stg.next [(16, _)] Y Y
 refine Stg.go [7, 8, 9, 10, 11, 12] [13, 15] Y Y (qp hT Y (qp hT Y (qp hT Y (qq Y (lS hT 2 [_, _, _] Y Y Y Y Y Y Y Y) Y (qp hT Y (qq Y (lS hT 1 [_, _, _] Y Y Y Y Y Y Y Y) Y QAll.nil)))))) ?_
 refine EAll.cons ?_ ?_
 replace H := H.self
 refine EOp.e Y Y Y (EffX.callF (bs := []) (cs := []) (f := 134) (sh := fun h => ratio_Add _ _ _ h _) (H0 := H) Y Y Tryz.call134 Y (hl := fun w m hr hw => lift_ratio_Add _ _ _ w m hr _ hw)) ?_
 rintro _ _ ⟨v_1, h0u5, rfl, rfl, H⟩
 apply Stg.next [(23, _), (24, _)] Y Y
 refine Stg.go [14] [15] Y Y (qq Y (Quiet1.build (cs := [_, _, _, _, _, _]) hT Y Y Y Y Y Y) Y QAll.nil) ?_
 refine EAll.cons ?_ EAll.nil
 refine EOp.e Y Y Y (EffX.allocP (cs := [_, _, _, _, _, _]) hT Y Y H) ?_
 rintro _ _ ⟨b_4, _, rfl, rfl, he1, H⟩
 apply Stg.next [(9, _)] Y Y
 refine Stg.go [14] [16] Y Y (qq Y (Quiet1.build (cs := [_, _, _, _, _, _]) hT Y Y Y Y Y Y) Y QAll.nil) ?_
 refine EAll.cons ?_ EAll.nil
 refine EOp.e Y Y Y (EffX.storeSP (i := 0) (qv := [(_, [_, _, _, _, _, _]), (_, [_, _, _, _, _, _]), (_, [_, _, _, _, _, _]), (_, [_, _, _, _, _, _])]) hT Y Y Y Y Y Y Y Y Y Y) ?_
 rintro _ _ rfl
 apply Stg.next [] Y Y
 refine Stg.fin [] Y Y QAll.nil ?_
 replace H := H.self
 exact AtE.then_n ((HK1 _ b_4 _ H).pickP (ts := [9, 0, 8]) (is := [0, 1]) Y Y (by decide) Y)
 refine EAll.cons ?_ EAll.nil
 refine EOp.e Y Y Y (EffX.allocP (cs := [_, _, _, _, _, _]) hT Y Y H) ?_
 rintro _ _ ⟨b_5, _, rfl, rfl, he2, H⟩
 apply Stg.next [(9, _)] Y Y
 refine Stg.go [7, 8, 9, 10, 11, 12] [13] Y Y (qp hT Y (qp hT Y (qp hT Y (qq Y (lS hT 3 [_, _, _] Y Y Y Y Y Y Y Y) Y (qp hT Y (qq Y (lS hT 2 [_, _, _] Y Y Y Y Y Y Y Y) Y QAll.nil)))))) ?_
 refine EAll.cons ?_ EAll.nil
 replace H := H.self
 refine EOp.e Y Y Y (EffX.callF (bs := []) (cs := []) (f := 134) (sh := fun h => ratio_Add _ _ _ h _) (H0 := H) Y Y Tryz.call134 Y (hl := fun w m hr hw => lift_ratio_Add _ _ _ w m hr _ hw)) ?_
 rintro _ _ ⟨v_2, h0u7, rfl, rfl, H⟩
 apply Stg.next [(23, _), (24, _)] Y Y
 refine Stg.go [14] [16] Y Y (qq Y (Quiet1.build (cs := [_, _, _, _, _, _]) hT Y Y Y Y Y Y) Y QAll.nil) ?_
 refine EAll.cons ?_ EAll.nil
 refine EOp.e Y Y Y (EffX.storeSP (i := 0) (qv := [(_, [_, _, _, _, _, _]), (_, [_, _, _, _, _, _]), (_, [_, _, _, _, _, _]), (_, [_, _, _, _, _, _])]) hT Y Y Y Y Y Y Y Y Y Y) ?_
 rintro _ _ rfl
 apply Stg.next [] Y Y
 refine Stg.fin [] Y Y QAll.nil ?_
 replace H := H.self
 exact AtE.then_n ((HK1 _ b_5 _ H).pickP (ts := [9, 0, 8]) (is := [0, 1]) Y Y (by decide) Y)
 refine EAll.cons ?_ EAll.nil
 refine EOp.e Y Y Y (EffX.allocP (cs := [_, _, _, _, _, _]) hT Y Y H) ?_
 rintro _ _ ⟨b_6, _, rfl, rfl, he3, H⟩
 apply Stg.next [(9, _)] Y Y
 refine Stg.go [0, 1, 2, 3, 4, 5, 7, 8, 9, 10, 11, 12] [6] Y Y (qp hT Y (qp hT Y (qp hT Y (qq Y (lS hT 3 [_, _, _] Y Y Y Y Y Y Y Y) Y (qp hT Y (qq Y (lS hT 2 [_, _, _] Y Y Y Y Y Y Y Y) Y (qp hT Y (qp hT Y (qp hT Y (qq Y (lS hT 3 [_, _, _] Y Y Y Y Y Y Y Y) Y (qp hT Y (qq Y (lS hT 2 [_, _, _] Y Y Y Y Y Y Y Y) Y QAll.nil)))))))))))) ?_
 refine EAll.cons ?_ EAll.nil
 replace H := H.self
 refine EOp.e Y Y Y (EffX.callF (bs := []) (cs := []) (f := 134) (sh := fun h => ratio_Add _ _ _ h _) (H0 := H) Y Y Tryz.call134 Y (hl := fun w m hr hw => lift_ratio_Add _ _ _ w m hr _ hw)) ?_
 rintro _ _ ⟨v_3, h0u9, rfl, rfl, H⟩
 apply Stg.next [(16, _)] Y Y
 refine Stg.go [7, 8, 9, 10, 11, 12] [13] Y Y (qp hT Y (qp hT Y (qp hT Y (qq Y (lS hT 3 [_, _, _] Y Y Y Y Y Y Y Y) Y (qp hT Y (qq Y (lS hT 2 [_, _, _] Y Y Y Y Y Y Y Y) Y QAll.nil)))))) ?_
 refine EAll.cons ?_ EAll.nil
 replace H := H.self
 refine EOp.e Y Y Y (EffX.callF (bs := []) (cs := []) (f := 134) (sh := fun h => ratio_Add _ _ _ h _) (H0 := H) Y Y Tryz.call134 Y (hl := fun w m hr hw => lift_ratio_Add _ _ _ w m hr _ hw)) ?_
 rintro _ _ ⟨v_4, h0u11, rfl, rfl, H⟩
 apply Stg.next [(23, _), (24, _)] Y Y
 refine Stg.go [14] [16] Y Y (qq Y (Quiet1.build (cs := [_, _, _, _, _, _]) hT Y Y Y Y Y Y) Y QAll.nil) ?_
 refine EAll.cons ?_ EAll.nil
 refine EOp.e Y Y Y (EffX.storeSP (i := 0) (qv := [(_, [_, _, _, _, _, _]), (_, [_, _, _, _, _, _]), (_, [_, _, _, _, _, _]), (_, [_, _, _, _, _, _])]) hT Y Y Y Y Y Y Y Y Y Y) ?_
 rintro _ _ rfl
 apply Stg.next [] Y Y
 refine Stg.fin [] Y Y QAll.nil ?_
 replace H := H.self
 exact AtE.then_n ((HK1 _ b_6 _ H).pickP (ts := [9, 0, 8]) (is := [0, 1]) Y Y (by decide) Y)
theorem lift_delta_Add (b : (Option Addr)) (x0 : Bool × Sl × Sl × Bool × Sl × Sl) (y : Bool × Sl × Sl × Bool × Sl × Sl) (w : World) (m : Heap) (hr : Rel ⟨m, []⟩ w.heap) (S : (Bool × Sl × Sl × Bool × Sl × Sl) → Heap → Prop) (H : delta_Add b x0 y m S) :
 Calls Tryz.prog 80 #[Value.pointer b, Value.agg (C_bool_sl_sl_bool_sl_sl x0).toArray, Value.agg (C_bool_sl_sl_bool_sl_sl y).toArray] w (Post ⟨w, m⟩ (fun r => Value.agg (C_bool_sl_sl_bool_sl_sl r).toArray) S) := by
 refine Calls.lift (args := [Value.pointer b, Value.agg (C_bool_sl_sl_bool_sl_sl x0).toArray, Value.agg (C_bool_sl_sl_bool_sl_sl y).toArray]) Tryz.func80 Y Tryz.ntmps80 (Nat.le_of_ble_eq_true Y) hr (delta_Add b x0 y m S) H (fun H => ?_)
 refine AtC.pick (ts := [0, 1, 2]) Y ?_
 unfold delta_Add at H
 refine sR (AtL.e Y (EffX.boxP (cs := [_, _, _, _, _, _]) Y Y Y H) ?_)
 rintro _ _ ⟨b_1, _, rfl, rfl, _, H⟩
 refine AtL.e Y (EffX.boxP (cs := [_, _, _, _, _, _]) Y Y Y H) ?_
 rintro _ _ ⟨b_2, _, rfl, rfl, _, H⟩
 refine AtL.e Y (EffX.allocP (cs := [_, _, _, _, _, _]) hT Y Y H) ?_
 rintro _ _ ⟨b_3, _, rfl, rfl, _, H⟩
 refine AtL.nil ?_
 replace H := H.self
 refine tg (sR (pu hT 1 Y (AtL.q Y (lS hT 2 [_, _, _, _, _, _] Y Y Y Y Y Y Y Y) (AtL.q Y (lS hT 1 [_, _, _, _, _, _] Y Y Y Y Y Y Y Y) (AtL.e Y (cl (fun h => delta_both__ratio_Add _ _ _ h _) H Y Tryz.call130 Y (fun w m hr hw => lift_delta_both__ratio_Add _ _ _ w m hr _ hw)) ?_)))))
 rintro _ _ ⟨v, h0u1, rfl, rfl, H⟩
 refine AtL.e Y (EffX.storeSP (i := 0) (qv := [(_, [_, _, _, _, _, _]), (_, [_, _, _, _, _, _]), (_, [_, _, _, _, _, _])]) hT Y Y Y Y Y Y Y Y Y Y) ?_
 rintro _ _ rfl
 refine ng (AtC.ret ?_)
 exact AtE.retN (rs := [.cell 6 44]) Y (ResAll.cons (ResAt.cellSP (i := 0) (l := [_, _, _, _, _, _]) hT Y Y Y Y Y Y Y) ResAll.nil) Y H
theorem lift_tableau_value (b : (Option Addr)) (p : Bool × Sl × Sl × Sl) (values : Sl) (w : World) (m : Heap) (hr : Rel ⟨m, []⟩ w.heap) (S : (Bool × Sl × Sl × Bool × Sl × Sl) → Heap → Prop) (H : tableau_value b p values m S) :
 Calls Tryz.prog 66 #[Value.pointer b, Value.agg (C_bool_sl_sl_sl p).toArray, Sl.toV values] w (Post ⟨w, m⟩ (fun r => Value.agg (C_bool_sl_sl_bool_sl_sl r).toArray) S) := by
 refine Calls.lift (args := [Value.pointer b, Value.agg (C_bool_sl_sl_sl p).toArray, Sl.toV values]) Tryz.func66 Y Tryz.ntmps66 (Nat.le_of_ble_eq_true Y) hr (tableau_value b p values m S) H (fun H => ?_)
 refine AtC.pick (ts := [0, 1, 2]) Y ?_
 unfold tableau_value at H
 refine sR (AtL.e Y (EffX.boxP (cs := [_, _, _, _]) Y Y Y H) ?_)
 rintro _ _ ⟨b_1, _, rfl, rfl, _, H⟩
 refine AtL.e Y (EffX.allocP (cs := [_, _, _, _, _, _]) hT Y Y H) ?_
 rintro _ _ ⟨b_2, _, rfl, rfl, _, H⟩
 refine AtL.nil ?_
 replace H := H.self
 refine tg (AtC.seq (sR (pu hT 1 Y (AtL.q Y (lP hT 1 Y) (pu hT 2 Y ?_)))))
 refine ng (AtC.block ?_)
 refine AtC.loopM (fun (s0 : Int × Bool × Sl × Sl × Bool × Sl × Sl) => [(12, Value.int .i64 s0.1)]) (fun (s0 : Int × Bool × Sl × Sl × Bool × Sl × Sl) => [(b_2, [Value.bool s0.2.1, Sl.toV s0.2.2.1, Sl.toV s0.2.2.2.1, Value.bool s0.2.2.2.2.1, Sl.toV s0.2.2.2.2.2.1, Sl.toV s0.2.2.2.2.2.2])]) [0, 2, 6, 10, 11] [12, 0, 2, 6, 10, 11] [] [0] H Y Y Y (by decide) Y (fun Kp1 s0 h0u1 H Q1 HK1 => ?_)
 refine sR (pu hT 1 Y (ng (AtC.seq ?_)))
 refine AtC.condB H Y (fun H => ?_) (fun H => ?_)
 refine AtC.skip (tg (AtC.seq (AtC.block (sR ?_))))
 obtain ⟨a_, hc1, hd1, H⟩ := H
 refine AtL.q Y (Quiet1.idxS hT Y Y Y Y Y hc1 hd1) ?_
 obtain ⟨v, hc2, H⟩ := H
 refine AtL.q Y (Quiet1.loadS hT Y Y Y Y hc2) (AtL.e Y (EffX.allocP (cs := [_, _, _, _]) hT Y Y H) ?_)
 rintro _ _ ⟨b_3, _, rfl, rfl, _, H⟩
 replace H := H.self
 refine AtL.e Y (EffX.storeSP (i := 0) (qv := [(_, [_, _, _, _]), (_, [_, _, _, _, _, _])]) hT Y Y Y Y Y Y Y Y Y Y) ?_
 rintro _ _ rfl
 refine ng ?_
 obtain ⟨a_1_, hc3, hd3, H⟩ := H
 obtain ⟨v_1, hc4, H⟩ := H
 apply AtC.stages [10, 11, 12] [[], [], [], [], [], [], [], [], [], [], [], [10], [10, 11]] [[], [], [], [], [3], [], [], [6], [5, 6, 7], [5, 6, 7, 8], [2, 3, 4, 5, 6, 7, 8, 9], [0, 1, 2, 3, 4, 5, 6, 7, 8, 9, 10], [0, 1, 2, 3, 4, 5, 6, 7, 8, 9, 10, 11]] hmix (by kernel_rfl) [(16, _), (17, _), (18, _), (19, _), (20, _), (21, _), (22, _), (23, _), (24, _), (25, _)] Y 3 Y
 refine Stg.go [0, 1, 2, 3, 4, 5, 6, 7, 8, 9] [10] Y Y (qp hT Y (qq Y (lS hT 1 [_, _, _, _, _, _] Y Y Y Y Y Y Y Y) Y (qp hT Y (qp hT Y (qq Y (lS hT 0 [_, _, _] Y Y Y Y Y Y Y Y) Y (qp hT Y (qp hT Y (qq Y (lP hT 0 Y) Y (qq Y (Quiet1.idxS hT Y Y Y Y Y hc3 hd3) Y (qq Y (Quiet1.loadS hT Y Y Y Y hc4) Y QAll.nil)))))))))) ?_
 refine EAll.cons ?_ EAll.nil
 refine EOp.e Y Y Y (cl (fun h => delta_Scale _ _ _ h _) H Y Tryz.call81 Y (fun w m hr hw => lift_delta_Scale _ _ _ w m hr _ hw)) ?_
 rintro _ _ ⟨v_2, h0u3, rfl, rfl, H⟩
 apply Stg.next [(26, _)] Y Y
 refine Stg.go [0, 1] [11] Y Y (qp hT Y (qq Y (lS hT 1 [_, _, _, _, _, _] Y Y Y Y Y Y Y Y) Y QAll.nil)) ?_
 refine EAll.cons ?_ EAll.nil
 refine EOp.e Y Y Y (cl (fun h => delta_Add _ _ _ h _) H Y Tryz.call80 Y (fun w m hr hw => lift_delta_Add _ _ _ w m hr _ hw)) ?_
 rintro _ _ ⟨v_3, h0u4, rfl, rfl, H⟩
 apply Stg.next [(27, _)] Y Y
 refine Stg.go [] [12] Y Y QAll.nil ?_
 refine EAll.cons ?_ EAll.nil
 refine EOp.e Y Y Y (EffX.storeSP (i := 1) (qv := [(_, [_, _, _, _]), (_, [_, _, _, _, _, _])]) hT Y Y Y Y Y Y Y Y Y Y) ?_
 rintro _ _ rfl
 apply Stg.next [] Y Y
 refine Stg.fin [] Y Y QAll.nil (AtE.blk_n (tg (AtC.region (pu hT 2 Y (AtL.nil ?_)))))
 exact AtE.then_n ((HK1 _ _ H).pickP (ts := [12, 0, 2, 6, 10, 11]) (is := [1]) Y Y (by decide) Y)
 refine AtC.exit (AtE.then_x (AtE.then_x (AtE.blk_hit (tg (sR ?_)))))
 refine AtL.q Y (lS hT 0 [_, _, _, _, _, _] Y Y Y Y Y Y Y Y) (AtL.e Y (EffX.storeSP (i := 0) (qv := [(_, [_, _, _, _, _, _])]) hT Y Y Y Y Y Y Y Y Y Y) ?_)
 rintro _ _ rfl
 refine ng (AtC.ret ?_)
 exact AtE.retN (rs := [.cell 6 44]) Y (ResAll.cons (ResAt.cellSP (i := 0) (l := [_, _, _, _, _, _]) hT Y Y Y Y Y Y Y) ResAll.nil) Y H
theorem lift_tableau_Right (t0 : Sl × Sl × Sl × Sl × Sl) (w : World) (m : Heap) (hr : Rel ⟨m, []⟩ w.heap) (S : Bool → Heap → Prop) (H : tableau_Right t0 m S) :
 Calls Tryz.prog 20 #[Value.agg (C_sl_sl_sl_sl_sl t0).toArray] w (Post ⟨w, m⟩ Value.bool S) := by
 refine Calls.lift (args := [Value.agg (C_sl_sl_sl_sl_sl t0).toArray]) Tryz.func20 Y Tryz.ntmps20 (Nat.le_of_ble_eq_true Y) hr (tableau_Right t0 m S) H (fun H => ?_)
 refine AtC.pick (ts := [0]) Y ?_
 unfold tableau_Right at H
 refine sR (AtL.e Y (EffX.box (cs := [_, _, _, _, _]) Y Y Y H) ?_)
 rintro _ _ ⟨t0u1, h0, rfl, rfl, H⟩
 refine pu hT 1 Y (ng (sR (pu hT 1 Y ?_)))
 obtain ⟨v, hc0, H⟩ := H
 refine AtL.q Y (Quiet1.load hT Y Y Y hc0) (pu hT 1 Y (AtL.e Y (EffX.alloc hT Y Y H) ?_))
 rintro _ _ ⟨n, h0u1, rfl, rfl, H⟩
 refine AtL.e Y (EffX.store hT Y Y Y Y Y H) ?_
 rintro _ _ ⟨h0u2, rfl, H⟩
 refine ng (AtC.seq ?_)
 refine AtC.joinSeq (β := Unit) (fun (t0u2 : Bool) (bb : Unit) => [(34, Value.bool t0u2)]) (fun (t0u2 : Bool) (bb : Unit) => []) [1, 3] [] H Y Y (fun t0u2 bb h0u3 H => ?_) (fun J2 H HK2 => ?_)
 refine AtC.condB H Y (fun H => ?_) (fun H => ?_)
 refine sR (pu hT 1 Y (ng (AtC.ret (AtE.then_r ?_))))
 exact r1 2 Y Y Y H
 refine AtC.skip (tg (AtC.seq (sR (pu hT 1 Y ?_))))
 obtain ⟨v_7, hc8, H⟩ := H
 refine AtL.q Y (Quiet1.load hT Y Y Y hc8) (pu hT 2 Y (ng (AtC.block ?_)))
 refine AtC.loopM (fun (s0 : Int) => [(38, Value.int .i64 s0)]) (fun (s0 : Int) => []) [1, 3, 36, 37] [38, 1, 3, 36, 37] [] [] H Y Y Y (by decide) Y (fun Kp10 s0 h0u4 H Q10 HK10 => ?_)
 refine sR (pu hT 1 Y (ng (AtC.seq ?_)))
 refine AtC.condB H Y (fun H => ?_) (fun H => ?_)
 refine AtC.skip (tg (AtC.seq (AtC.block (sR (pu hT 1 Y ?_)))))
 obtain ⟨a_, hc10, hd10, H⟩ := H
 refine AtL.q Y (Quiet1.idxS hT Y Y Y Y Y hc10 hd10) ?_
 obtain ⟨v_8, hc11, H⟩ := H
 refine AtL.q Y (Quiet1.load hT Y Y Y hc11) (pu hT 2 Y (ng ?_))
 refine AtC.joinSeq (β := Unit) (fun (t0u3 : Bool) (bb_1 : Unit) => [(56, Value.bool t0u3)]) (fun (t0u3 : Bool) (bb_1 : Unit) => []) [1, 3, 36, 37, 38] [] H Y Y (fun t0u3 bb_1 h0u5 H => ?_) (fun J13 H HK13 => ?_)
 refine AtC.condB H Y (fun H => ?_) (fun H => ?_)
 refine sR (pu hT 1 Y (ng (AtC.ret (AtE.blk_r (AtE.then_r ?_)))))
 refine AtE.then_r (AtE.blk_r (AtE.then_r ?_))
 exact r1 2 Y Y Y H
 refine AtC.skip (AtE.blk_n (tg (AtC.region (pu hT 2 Y (AtL.nil ?_)))))
 exact AtE.then_n ((HK10 _ _ H).pickP (ts := [38, 1, 3, 36, 37]) (is := []) Y Y (by decide) Y)
 refine AtC.region (pu hT 3 Y ?_)
 refine AtL.splitB (t := 45) H Y (fun H => ?_) (fun H => ?_)
 refine nf Y (nf Y (nf Y (pu hT 2 Y (nf Y (nf Y ?_)))))
 refine nf Y (nf Y (nf Y (pu hT 1 Y (AtL.nil ?_))))
 exact AtE.then_n ((HK13 _ () _ H).pickP (ts := [56, 1, 3, 36, 37, 38]) (is := []) Y Y (by decide) Y)
 refine ys Y (pu hT 1 Y (ys Y ?_))
 obtain ⟨v_9, hc13, H⟩ := H
 refine AtL.q Y (Quiet1.load hT Y Y Y hc13) (ys Y (pu hT 1 Y (pu hT 2 Y ?_)))
 refine AtL.splitB (t := 50) H Y (fun H => ?_) (fun H => ?_)
 refine nf Y (nf Y (nf Y (nf Y (nf Y (pu hT 1 Y ?_)))))
 refine AtL.nil ?_
 exact AtE.then_n ((HK13 _ () _ H).pickP (ts := [56, 1, 3, 36, 37, 38]) (is := []) Y Y (by decide) Y)
 refine ys Y ?_
 obtain ⟨v_10, hc14, H⟩ := H
 refine AtL.q Y (Quiet1.loadS hT Y Y Y Y hc14) (ys Y (pu hT 1 Y (ys Y (AtL.e Y (cl (fun h => tableau_Row _ _ h _) H Y Tryz.call33 Y (fun w m hr hw => lift_tableau_Row _ _ w m hr _ hw)) ?_))))
 rintro _ _ ⟨v_11, h0u6, rfl, rfl, H⟩
 refine ys Y (pu hT 1 Y (ys Y (pu hT 1 Y (pu hT 1 Y (AtL.nil ?_)))))
 exact AtE.then_n ((HK13 _ () _ H).pickP (ts := [56, 1, 3, 36, 37, 38]) (is := []) Y Y (by decide) Y)
 refine AtC.exit (AtE.then_x (AtE.then_x (AtE.blk_hit (tg (sR ?_)))))
 refine AtL.e Y (EffX.alloc hT Y Y H) ?_
 rintro _ _ ⟨number, h0u7, rfl, rfl, H⟩
 refine AtL.e Y (EffX.store hT Y Y Y Y Y H) ?_
 rintro _ _ ⟨h0u8, rfl, H⟩
 refine ng (AtC.seq ?_)
 refine AtC.joinSeq (β := Unit) (fun (t0u4 : Bool) (bb_2 : Unit) => [(70, Value.bool t0u4)]) (fun (t0u4 : Bool) (bb_2 : Unit) => []) [1, 3] [] H Y Y (fun t0u4 bb_2 h0u9 H => ?_) (fun J16 H HK16 => ?_)
 refine AtC.condB H Y (fun H => ?_) (fun H => ?_)
 refine sR (pu hT 1 Y (ng (AtC.ret (AtE.then_r ?_))))
 exact r1 2 Y Y Y H
 refine AtC.skip (tg (sR (AtL.e Y (cl (fun h => nat_New _ h _) H Y Tryz.call25 Y (fun w m hr hw => lift_nat_New _ w m hr _ hw)) ?_)))
 rintro _ _ ⟨v_19, h0u14, rfl, rfl, H⟩
 refine pu hT 1 Y (ng (AtC.seq (sR (pu hT 1 Y ?_))))
 obtain ⟨v_20, hc19, H⟩ := H
 refine AtL.q Y (Quiet1.load hT Y Y Y hc19) (pu hT 2 Y (ng (AtC.block ?_)))
 refine AtC.loopM (fun (s0u1 : Int) => [(75, Value.int .i64 s0u1)]) (fun (s0u1 : Int) => []) [1, 3, 7, 73, 74] [75, 1, 3, 7, 73, 74] [] [] H Y Y Y (by decide) Y (fun Kp21 s0u1 h0u15 H Q21 HK21 => ?_)
 refine sR (pu hT 1 Y (ng (AtC.seq ?_)))
 refine AtC.condB H Y (fun H => ?_) (fun H => ?_)
 refine AtC.skip (tg (AtC.seq (AtC.block (sR (pu hT 1 Y ?_)))))
 obtain ⟨a_2_, hc21, hd21, H⟩ := H
 refine AtL.q Y (Quiet1.idxS hT Y Y Y Y Y hc21 hd21) ?_
 obtain ⟨v_21, hc22, H⟩ := H
 refine AtL.q Y (Quiet1.loadS hT Y Y Y Y hc22) (AtL.e Y (EffX.allocP (cs := [_, _, _, _]) hT Y Y H) ?_)
 rintro _ _ ⟨b, _, rfl, rfl, _, H⟩
 replace H := H.self
 refine pu hT 1 Y (AtL.e Y (EffX.storeSP (i := 0) (qv := [(_, [_, _, _, _])]) hT Y Y Y Y Y Y Y Y Y Y) ?_)
 rintro _ _ rfl
 refine ng (sR (AtL.q Y (Quiet1.makeFn (bs := []) (cs := [_, _]) Y Y Y) (pu hT 1 Y (ng ?_))))
 refine AtC.joinSeq (β := Unit) (fun (t0u5 : Bool) (bb_3 : Unit) => [(113, Value.bool t0u5)]) (fun (t0u5 : Bool) (bb_3 : Unit) => []) [1, 3, 7, 73, 74, 75] [] H Y Y (fun t0u5 bb_3 h0u17 H => ?_) (fun J24 H HK24 => ?_)
 refine AtC.condB H Y (fun H => ?_) (fun H => ?_)
 refine sR (pu hT 1 Y (ng (AtC.ret (AtE.blk_r (AtE.then_r ?_)))))
 refine AtE.then_r (AtE.blk_r (AtE.then_r ?_))
 exact r1 2 Y Y Y H
 refine AtC.skip (AtE.blk_n (tg (AtC.region (pu hT 2 Y (AtL.nil ?_)))))
 exact AtE.then_n ((HK21 _ _ H).pickP (ts := [75, 1, 3, 7, 73, 74]) (is := []) Y Y (by decide) Y)
 apply AtC.stages [1, 6, 13, 20, 30] [[], [], [1], [1], [1], [1], [1], [1, 6], [1, 6], [1, 6], [1, 6], [1, 6], [1, 6], [1, 6], [1, 6, 13], [1, 6, 13], [1, 6, 13], [1, 6, 13], [1, 6, 13], [1, 6, 13], [1, 6, 13], [1, 6, 13], [1, 6, 13], [1, 6, 13], [1, 6, 13], [1, 6, 13], [1, 6, 13], [1, 6, 13], [1, 6, 13], [1, 6, 13], [1, 6, 13, 20], [1, 6, 13, 20, 30], [1, 6, 13, 20, 30]] [[], [0], [0, 1], [0, 1, 2], [0, 1, 2, 3], [0, 1, 2, 3, 4], [0, 1, 2, 3, 4, 5], [0, 1, 2, 3, 4, 5, 6], [0, 1, 2, 3, 4, 5, 6, 7], [0, 1, 2, 3, 4, 5, 6, 7, 8], [0, 1, 2, 3, 4, 5, 6, 7, 8, 9], [0, 1, 2, 3, 4, 5, 6, 7, 8, 9, 10], [0, 1, 2, 3, 4, 5, 6, 7, 8, 9], [0, 1, 2, 3, 4, 5, 6, 7, 8, 9, 10, 11, 12], [0, 1, 2, 3, 4, 5, 6, 7, 8, 9, 10, 11, 12, 13], [0, 1, 2, 3, 4, 5, 6, 7, 8, 9, 10, 11, 12, 13, 14], [0, 1, 2, 3, 4, 5, 6, 7, 8, 9, 10, 11, 12, 13, 14, 15], [0, 1, 2, 3, 4, 5, 6, 7, 8, 9, 10, 11, 12, 13, 14, 15], [0, 1, 2, 3, 4, 5, 6, 7, 8, 9, 10, 11, 12, 13, 14, 15], [0, 1, 2, 3, 4, 5, 6, 7, 8, 9, 10, 11, 12, 13, 14, 15, 18], [0, 1, 2, 3, 4, 5, 6, 7, 8, 9, 10, 11, 12, 13, 14, 15, 16, 17, 18, 19], [0, 1, 2, 3, 4, 5, 6, 7, 8, 9, 10, 11, 12, 13, 14, 15], [0, 1, 2, 3, 4, 5, 6, 7, 8, 9, 10, 11, 12, 13, 14, 15, 21], [0, 1, 2, 3, 4, 5, 6, 7, 8, 9, 10, 11, 12, 13, 14, 15], [0, 1, 2, 3, 4, 5, 6, 7, 8, 9, 10, 11, 12, 13, 14, 15, 23], [0, 1, 2, 3, 4, 5, 6, 7, 8, 9, 10, 11, 12, 13, 14, 15], [0, 1, 2, 3, 4, 5, 6, 7, 8, 9, 10, 11, 12, 13, 14, 15, 23, 24, 25], [0, 1, 2, 3, 4, 5, 6, 7, 8, 9, 10, 11, 12, 13, 14, 15, 23, 24, 25, 26], [0, 1, 2, 3, 4, 5, 6, 7, 8, 9, 10, 11, 12, 13, 14, 15, 21, 22, 23, 24, 25, 26, 27], [0, 1, 2, 3, 4, 5, 6, 7, 8, 9, 10, 11, 12, 13, 14, 15, 21, 22, 23, 24, 25, 26, 27, 28], [0, 1, 2, 3, 4, 5, 6, 7, 8, 9, 10, 11, 12, 13, 14, 15, 16, 17, 18, 19, 20, 21, 22, 23, 24, 25, 26, 27, 28, 29], [0, 1, 2, 3, 4, 5, 6, 7, 8, 9, 10, 11, 12, 13, 14, 15, 16, 17, 18, 19, 20, 21, 22, 23, 24, 25, 26, 27, 28, 29, 30], [0, 1, 2, 3, 4, 5, 6, 7, 8, 9, 10, 11, 12, 13, 14, 15, 16, 17, 18, 19, 20, 21, 22, 23, 24, 25, 26, 27, 28, 29, 30, 31]] hmix (by kernel_rfl) [(81, _)] Y 5 Y
 refine Stg.go [0] [1] Y Y (qq Y (lS hT 0 [_, _, _, _] Y Y Y Y Y Y Y Y) Y QAll.nil) ?_
 refine EAll.cons ?_ EAll.nil
 refine EOp.e Y Y Y (cl (fun h => linear_Right _ h _) H Y Tryz.call63 Y (fun w m hr hw => lift_linear_Right _ w m hr _ hw)) ?_
 rintro _ _ ⟨v_22, h0u18, rfl, rfl, H⟩
 rcases iteB.cases H with ⟨hb24, H⟩ | ⟨hb24, H⟩
 apply Stg.next [(82, _), (83, _), (84, _), (85, _), (86, _)] Y Y
 refine Stg.known (t := 84) Y hb24 (Stg.go [2, 3, 4, 5] [6] Y Y (qp hT Y (QAll.cons (QOp.pk hT Y Y Y Y hb24 Y) (qn Y Y Y Y (by decide) Y Y (qn Y Y Y Y (by decide) Y Y QAll.nil)))) ?_)
 refine EAll.cons ?_ EAll.nil
 refine EOp.no Y Y Y Y (by decide) Y ?_
 apply Stg.next [(87, _), (88, _), (89, _), (90, _), (91, _), (92, _), (93, _)] Y Y
 refine Stg.go [7, 8, 9, 10, 11, 12] [13] Y Y (qn Y Y Y Y (by decide) Y Y (qp hT Y (qp hT Y (qn Y Y Y Y (by decide) Y Y (qn Y Y Y Y (by decide) Y Y (qn Y Y Y Y (by decide) Y Y QAll.nil)))))) ?_
 refine EAll.cons ?_ EAll.nil
 refine EOp.no Y Y Y Y (by decide) Y ?_
 apply Stg.next [(94, _), (95, _), (96, _), (97, _), (98, _), (99, _), (100, _), (102, _), (103, _), (104, _), (105, _), (106, _), (107, _), (108, _), (109, _), (110, _)] Y Y
 refine Stg.go [14, 15, 16, 17, 18, 19, 21, 22, 23, 24, 25, 26, 27, 28, 29] [20] Y Y (qp hT Y (qp hT Y (qn Y Y Y Y (by decide) Y Y (qn Y Y Y Y (by decide) Y Y (qn Y Y Y Y (by decide) Y Y (qn Y Y Y Y (by decide) Y Y (qn Y Y Y Y (by decide) Y Y (qn Y Y Y Y (by decide) Y Y (qn Y Y Y Y (by decide) Y Y (qn Y Y Y Y (by decide) Y Y (qn Y Y Y Y (by decide) Y Y (qn Y Y Y Y (by decide) Y Y (qn Y Y Y Y (by decide) Y Y (qn Y Y Y Y (by decide) Y Y (qn Y Y Y Y (by decide) Y Y QAll.nil))))))))))))))) ?_
 refine EAll.cons ?_ EAll.nil
 refine EOp.no Y Y Y Y (by decide) Y ?_
 apply Stg.next [(101, _)] Y Y
 refine Stg.go [21, 22, 23, 24, 25, 26, 27, 28, 29] [30] Y Y (qn Y Y Y Y (by decide) Y Y (qn Y Y Y Y (by decide) Y Y (qn Y Y Y Y (by decide) Y Y (qn Y Y Y Y (by decide) Y Y (qn Y Y Y Y (by decide) Y Y (qn Y Y Y Y (by decide) Y Y (qn Y Y Y Y (by decide) Y Y (qn Y Y Y Y (by decide) Y Y (qn Y Y Y Y (by decide) Y Y QAll.nil))))))))) ?_
 refine EAll.cons ?_ EAll.nil
 refine EOp.no Y Y Y Y (by decide) Y ?_
 apply Stg.next [(111, _), (112, _), (113, _)] Y Y
 refine Stg.fin [31, 32] Y Y (qn Y Y Y Y (by decide) Y Y (qp hT Y QAll.nil)) ?_
 exact AtE.then_n ((HK24 _ () _ H).pickP (ts := [113, 1, 3, 7, 73, 74, 75]) (is := []) Y Y (by decide) Y)
 apply Stg.next [(82, _), (83, _), (84, _), (85, _), (86, _)] Y Y
 refine Stg.known (t := 84) Y hb24 (Stg.go [2, 3, 4, 5] [6] Y Y (qp hT Y (QAll.cons (QOp.pk hT Y Y Y Y hb24 Y) (QAll.cons (QOp.yp hT Y Y Y Y Y Y Y) (QAll.cons (QOp.y Y Y Y Y (lS hT 0 [_, _, _] Y Y Y Y Y Y Y Y) Y Y) QAll.nil)))) ?_)
 refine EAll.cons ?_ EAll.nil
 refine EOp.y Y Y Y Y Y (cl (fun h => ratio_Sign _ h _) H Y Tryz.call43 Y (fun w m hr hw => lift_ratio_Sign _ w m hr _ hw)) ?_
 rintro _ _ ⟨v_23, h0u19, rfl, rfl, H⟩
 rcases iteB.cases H with ⟨hb25, H⟩ | ⟨hb25, H⟩
 apply Stg.next [(87, _), (88, _), (89, _), (90, _), (91, _), (92, _), (93, _)] Y Y
 refine Stg.known (t := 90) Y hb25 (Stg.go [7, 8, 9, 10, 11, 12] [13] Y Y (QAll.cons (QOp.yp hT Y Y Y Y Y Y Y) (qp hT Y (QAll.cons (QOp.pk hT Y Y Y Y hb25 Y) (qn Y Y Y Y (by decide) Y Y (qn Y Y Y Y (by decide) Y Y (qn Y Y Y Y (by decide) Y Y QAll.nil)))))) ?_)
 refine EAll.cons ?_ EAll.nil
 refine EOp.no Y Y Y Y (by decide) Y ?_
 apply Stg.next [(94, _), (95, _), (96, _), (97, _), (98, _), (99, _), (100, _), (102, _), (103, _), (104, _), (105, _), (106, _), (107, _), (108, _), (109, _), (110, _)] Y Y
 refine Stg.go [14, 15, 16, 17, 18, 19, 21, 22, 23, 24, 25, 26, 27, 28, 29] [20] Y Y (qp hT Y (qp hT Y (qn Y Y Y Y (by decide) Y Y (qn Y Y Y Y (by decide) Y Y (qn Y Y Y Y (by decide) Y Y (qn Y Y Y Y (by decide) Y Y (qn Y Y Y Y (by decide) Y Y (qn Y Y Y Y (by decide) Y Y (qn Y Y Y Y (by decide) Y Y (qn Y Y Y Y (by decide) Y Y (qn Y Y Y Y (by decide) Y Y (qn Y Y Y Y (by decide) Y Y (qn Y Y Y Y (by decide) Y Y (qn Y Y Y Y (by decide) Y Y (qn Y Y Y Y (by decide) Y Y QAll.nil))))))))))))))) ?_
 refine EAll.cons ?_ EAll.nil
 refine EOp.no Y Y Y Y (by decide) Y ?_
 apply Stg.next [(101, _)] Y Y
 refine Stg.go [21, 22, 23, 24, 25, 26, 27, 28, 29] [30] Y Y (qn Y Y Y Y (by decide) Y Y (qn Y Y Y Y (by decide) Y Y (qn Y Y Y Y (by decide) Y Y (qn Y Y Y Y (by decide) Y Y (qn Y Y Y Y (by decide) Y Y (qn Y Y Y Y (by decide) Y Y (qn Y Y Y Y (by decide) Y Y (qn Y Y Y Y (by decide) Y Y (qn Y Y Y Y (by decide) Y Y QAll.nil))))))))) ?_
 refine EAll.cons ?_ EAll.nil
 refine EOp.no Y Y Y Y (by decide) Y ?_
 apply Stg.next [(111, _), (112, _), (113, _)] Y Y
 refine Stg.fin [31, 32] Y Y (qn Y Y Y Y (by decide) Y Y (qp hT Y QAll.nil)) ?_
 exact AtE.then_n ((HK24 _ () _ H).pickP (ts := [113, 1, 3, 7, 73, 74, 75]) (is := []) Y Y (by decide) Y)
 apply Stg.next [(87, _), (88, _), (89, _), (90, _), (91, _), (92, _), (93, _)] Y Y
 refine Stg.known (t := 90) Y hb25 (Stg.go [7, 8, 9, 10, 11, 12] [13] Y Y (QAll.cons (QOp.yp hT Y Y Y Y Y Y Y) (qp hT Y (QAll.cons (QOp.pk hT Y Y Y Y hb25 Y) (QAll.cons (QOp.yp hT Y Y Y Y Y Y Y) (QAll.cons (QOp.y Y Y Y Y (lP hT 0 Y) Y Y) (QAll.cons (QOp.yp hT Y Y Y Y Y Y Y) QAll.nil)))))) ?_)
 refine EAll.cons ?_ EAll.nil
 refine EOp.y Y Y Y Y Y (cl (fun h => slices_ContainsFunc_api_Mono_api_Mono__tableau_Right_c4 _ _ _ h _) H Y Tryz.call64 Y (fun w m hr hw => lift_slices_ContainsFunc_api_Mono_api_Mono__tableau_Right_c4 _ _ _ w m hr _ hw)) ?_
 rintro _ _ ⟨v_24, h0u20, rfl, rfl, H⟩
 rcases iteB.cases H with ⟨hb26, H⟩ | ⟨hb26, H⟩
 apply Stg.next [(94, _), (95, _), (96, _), (97, _), (98, _), (99, _), (100, _), (102, _), (103, _), (104, _), (105, _), (106, _), (107, _), (108, _), (109, _), (110, _)] Y Y
 refine Stg.known (t := 96) Y hb26 (Stg.go [14, 15, 16, 17, 18, 19, 21, 22, 23, 24, 25, 26, 27, 28, 29] [20] Y Y (qp hT Y (QAll.cons (QOp.pk hT Y Y Y Y hb26 Y) (qn Y Y Y Y (by decide) Y Y (qn Y Y Y Y (by decide) Y Y (qn Y Y Y Y (by decide) Y Y (qn Y Y Y Y (by decide) Y Y (qn Y Y Y Y (by decide) Y Y (qn Y Y Y Y (by decide) Y Y (qn Y Y Y Y (by decide) Y Y (qn Y Y Y Y (by decide) Y Y (qn Y Y Y Y (by decide) Y Y (qn Y Y Y Y (by decide) Y Y (qn Y Y Y Y (by decide) Y Y (qn Y Y Y Y (by decide) Y Y (qn Y Y Y Y (by decide) Y Y QAll.nil))))))))))))))) ?_)
 refine EAll.cons ?_ EAll.nil
 refine EOp.no Y Y Y Y (by decide) Y ?_
 apply Stg.next [(101, _)] Y Y
 refine Stg.go [21, 22, 23, 24, 25, 26, 27, 28, 29] [30] Y Y (qn Y Y Y Y (by decide) Y Y (qn Y Y Y Y (by decide) Y Y (qn Y Y Y Y (by decide) Y Y (qn Y Y Y Y (by decide) Y Y (qn Y Y Y Y (by decide) Y Y (qn Y Y Y Y (by decide) Y Y (qn Y Y Y Y (by decide) Y Y (qn Y Y Y Y (by decide) Y Y (qn Y Y Y Y (by decide) Y Y QAll.nil))))))))) ?_
 refine EAll.cons ?_ EAll.nil
 refine EOp.no Y Y Y Y (by decide) Y ?_
 apply Stg.next [(111, _), (112, _), (113, _)] Y Y
 refine Stg.fin [31, 32] Y Y (qn Y Y Y Y (by decide) Y Y (qp hT Y QAll.nil)) ?_
 exact AtE.then_n ((HK24 _ () _ H).pickP (ts := [113, 1, 3, 7, 73, 74, 75]) (is := []) Y Y (by decide) Y)
 obtain ⟨v_25, hc27, H⟩ := H
 obtain ⟨v_26, hc28, H⟩ := H
 obtain ⟨v_27, hc29, H⟩ := H
 obtain ⟨a_3_, hc30, hd30, H⟩ := H
 obtain ⟨v_28, hc31, H⟩ := H
 obtain ⟨a_4_, hc32, hd32, H⟩ := H
 obtain ⟨v_29, hc33, H⟩ := H
 apply Stg.next [(94, _), (95, _), (96, _), (97, _), (98, _), (99, _), (100, _), (102, _), (103, _), (104, _), (105, _), (106, _), (107, _), (108, _), (109, _), (110, _)] Y Y
 refine Stg.known (t := 96) Y hb26 (Stg.go [14, 15, 16, 17, 18, 19, 21, 22, 23, 24, 25, 26, 27, 28, 29] [20] Y Y (qp hT Y (QAll.cons (QOp.pk hT Y Y Y Y hb26 Y) (QAll.cons (QOp.yp hT Y Y Y Y Y Y Y) (QAll.cons (QOp.y Y Y Y Y (lS hT 0 [_, _, _, _] Y Y Y Y Y Y Y Y) Y Y) (QAll.cons (QOp.yp hT Y Y Y Y Y Y Y) (QAll.cons (QOp.y Y Y Y Y (Quiet1.load hT Y Y Y hc27) Y Y) (QAll.cons (QOp.yp hT Y Y Y Y Y Y Y) (QAll.cons (QOp.y Y Y Y Y (Quiet1.load hT Y Y Y hc28) Y Y) (QAll.cons (QOp.yp hT Y Y Y Y Y Y Y) (QAll.cons (QOp.y Y Y Y Y (Quiet1.load hT Y Y Y hc29) Y Y) (QAll.cons (QOp.yp hT Y Y Y Y Y Y Y) (QAll.cons (QOp.y Y Y Y Y (Quiet1.idxS hT Y Y Y Y Y hc30 hd30) Y Y) (QAll.cons (QOp.y Y Y Y Y (Quiet1.load hT Y Y Y hc31) Y Y) (QAll.cons (QOp.y Y Y Y Y (Quiet1.idxS hT Y Y Y Y Y hc32 hd32) Y Y) (QAll.cons (QOp.y Y Y Y Y (Quiet1.loadS hT Y Y Y Y hc33) Y Y) QAll.nil))))))))))))))) ?_)
 refine EAll.cons ?_ EAll.nil
 refine EOp.y Y Y Y Y Y (cl (fun h => tableau_value _ _ _ h _) H Y Tryz.call66 Y (fun w m hr hw => lift_tableau_value _ _ _ w m hr _ hw)) ?_
 rintro _ _ ⟨v_30, h0u21, rfl, rfl, H⟩
 obtain ⟨hc34, H⟩ := H
 obtain ⟨hc35, H⟩ := H
 obtain ⟨hc36, H⟩ := H
 obtain ⟨hc37, H⟩ := H
 apply Stg.next [(101, _)] Y Y
 refine Stg.go [21, 22, 23, 24, 25, 26, 27, 28, 29] [30] Y Y (QAll.cons (QOp.yp hT Y Y Y Y Y Y Y) (QAll.cons (QOp.y Y Y Y Y (Quiet1.load hT Y Y Y hc34) Y Y) (QAll.cons (QOp.yp hT Y Y Y Y Y Y Y) (QAll.cons (QOp.y Y Y Y Y (Quiet1.load hT Y Y Y hc35) Y Y) (QAll.cons (QOp.yp hT Y Y Y Y Y Y Y) (QAll.cons (QOp.y Y Y Y Y (Quiet1.idxS hT Y Y Y Y Y hc30 hd30) Y Y) (QAll.cons (QOp.y Y Y Y Y (Quiet1.load hT Y Y Y hc36) Y Y) (QAll.cons (QOp.y Y Y Y Y (Quiet1.idxS hT Y Y Y Y Y hc32 hd32) Y Y) (QAll.cons (QOp.y Y Y Y Y (Quiet1.loadS hT Y Y Y Y hc37) Y Y) QAll.nil))))))))) ?_
 refine EAll.cons ?_ EAll.nil
 refine EOp.y Y Y Y Y Y (cl (fun h => tableau_same _ _ h _) H Y Tryz.call65 Y (fun w m hr hw => lift_tableau_same _ _ w m hr _ hw)) ?_
 rintro _ _ ⟨v_31, h0u22, rfl, rfl, H⟩
 apply Stg.next [(111, _), (112, _), (113, _)] Y Y
 refine Stg.fin [31, 32] Y Y (QAll.cons (QOp.yp hT Y Y Y Y Y Y Y) (qp hT Y QAll.nil)) ?_
 exact AtE.then_n ((HK24 _ () _ H).pickP (ts := [113, 1, 3, 7, 73, 74, 75]) (is := []) Y Y (by decide) Y)
 refine AtC.exit (AtE.then_x (AtE.then_x (AtE.blk_hit (tg (sR ?_)))))
 refine pu hT 1 Y (ng (AtC.ret ?_))
 exact r1 2 Y Y Y H
 refine AtC.region (pu hT 1 Y ?_)
 obtain ⟨v_12, hc16, H⟩ := H
 refine AtL.q Y (Quiet1.load hT Y Y Y hc16) (AtL.q Y (Quiet1.makeFn (bs := []) (cs := [_]) Y Y Y) (AtL.e Y (cl (fun h => slices_ContainsFunc_api_Delta_api_Delta__tableau_Right_c2 _ _ h _) H Y Tryz.call56 Y (fun w m hr hw => lift_slices_ContainsFunc_api_Delta_api_Delta__tableau_Right_c2 _ _ w m hr _ hw)) ?_))
 rintro _ _ ⟨v_13, h0u10, rfl, rfl, H⟩
 refine pu hT 1 Y ?_
 refine AtL.splitB (t := 62) H Y (fun H => ?_) (fun H => ?_)
 refine nf Y (nf Y (nf Y (nf Y (nf Y (nf Y ?_)))))
 refine nf Y (pu hT 1 Y (AtL.nil ?_))
 exact AtE.then_n ((HK16 _ () _ H).pickP (ts := [70, 1, 3]) (is := []) Y Y (by decide) Y)
 refine ys Y (pu hT 1 Y (ys Y ?_))
 obtain ⟨v_14, hc17, H⟩ := H
 refine AtL.q Y (Quiet1.load hT Y Y Y hc17) (ys Y (pu hT 1 Y (ys Y ?_)))
 obtain ⟨v_15, hc18, H⟩ := H
 refine AtL.q Y (Quiet1.load hT Y Y Y hc18) (ys Y ?_)
 refine AtLX.bs (hT := hT) (cs := [_, _]) H Y Y Y Y Y Y Y Y Y (fun a_1 h0u11 H => ?_)
 refine ys Y (AtL.e Y (cl (fun h => slices_Concat_api_Edge_api_Edge _ h _) H Y Tryz.call59 Y (fun w m hr hw => lift_slices_Concat_api_Edge_api_Edge _ w m hr _ hw)) ?_)
 rintro _ _ ⟨v_17, h0u12, rfl, rfl, H⟩
 refine ys Y (AtL.e Y (cl (fun h => slices_ContainsFunc_api_Edge_api_Edge__tableau_Right_c3 _ h _) H Y Tryz.call58 Y (fun w m hr hw => lift_slices_ContainsFunc_api_Edge_api_Edge__tableau_Right_c3 _ w m hr _ hw)) ?_)
 rintro _ _ ⟨v_18, h0u13, rfl, rfl, H⟩
 refine pu hT 1 Y (AtL.nil ?_)
 exact AtE.then_n ((HK16 _ () _ H).pickP (ts := [70, 1, 3]) (is := []) Y Y (by decide) Y)
 refine AtC.region (pu hT 1 Y ?_)
 obtain ⟨v_1, hc2, H⟩ := H
 refine AtL.q Y (Quiet1.load hT Y Y Y hc2) (pu hT 2 Y ?_)
 obtain ⟨v_2, hc3, H⟩ := H
 refine AtL.q Y (Quiet1.load hT Y Y Y hc3) (pu hT 3 Y ?_)
 refine AtL.splitB (t := 21) H Y (fun H => ?_) (fun H => ?_)
 refine nf Y (nf Y (nf Y (nf Y (nf Y (pu hT 2 Y ?_)))))
 refine nf Y (nf Y (nf Y (nf Y (nf Y (pu hT 1 Y ?_)))))
 refine AtL.nil ?_
 exact AtE.then_n ((HK2 _ () _ H).pickP (ts := [34, 1, 3]) (is := []) Y Y (by decide) Y)
 refine ys Y (pu hT 1 Y (ys Y ?_))
 obtain ⟨v_3, hc4, H⟩ := H
 refine AtL.q Y (Quiet1.load hT Y Y Y hc4) (ys Y (pu hT 1 Y (ys Y ?_)))
 obtain ⟨v_4, hc5, H⟩ := H
 refine AtL.q Y (Quiet1.load hT Y Y Y hc5) (ys Y (pu hT 1 Y (pu hT 2 Y ?_)))
 refine AtL.splitB (t := 28) H Y (fun H => ?_) (fun H => ?_)
 refine nf Y (nf Y (nf Y (nf Y (nf Y (pu hT 1 Y ?_)))))
 refine AtL.nil ?_
 exact AtE.then_n ((HK2 _ () _ H).pickP (ts := [34, 1, 3]) (is := []) Y Y (by decide) Y)
 refine ys Y (pu hT 1 Y (ys Y ?_))
 obtain ⟨v_5, hc6, H⟩ := H
 refine AtL.q Y (Quiet1.load hT Y Y Y hc6) (ys Y (pu hT 1 Y (ys Y ?_)))
 obtain ⟨v_6, hc7, H⟩ := H
 refine AtL.q Y (Quiet1.load hT Y Y Y hc7) (ys Y (pu hT 1 Y (pu hT 1 Y (AtL.nil ?_))))
 exact AtE.then_n ((HK2 _ () _ H).pickP (ts := [34, 1, 3]) (is := []) Y Y (by decide) Y)
theorem lift_ref14unumber (x0 : Bool × Sl × Sl × Bool × Sl × Sl) (w : World) (m : Heap) (hr : Rel ⟨m, []⟩ w.heap) (S : Bool → Heap → Prop) (H : ref14unumber x0 m S) :
 Calls Tryz.prog 67 #[Value.agg (C_bool_sl_sl_bool_sl_sl x0).toArray] w (Post ⟨w, m⟩ Value.bool S) := by
 refine Calls.lift (args := [Value.agg (C_bool_sl_sl_bool_sl_sl x0).toArray]) Tryz.func67 Y Tryz.ntmps67 (Nat.le_of_ble_eq_true Y) hr (ref14unumber x0 m S) H (fun H => ?_)
 refine AtC.pick (ts := [0]) Y ?_
 unfold ref14unumber at H
 refine sR (AtL.e Y (EffX.boxP (cs := [_, _, _, _, _, _]) Y Y Y H) ?_)
 rintro _ _ ⟨b, _, rfl, rfl, _, H⟩
 replace H := H.self
 refine pu hT 1 Y (ng (sR (AtL.q Y (lS hT 0 [_, _, _, _, _, _] Y Y Y Y Y Y Y Y) (AtL.e Y (cl (fun h => ref03uRight _ h _) H Y Tryz.call54 Y (fun w m hr hw => lift_ref03uRight _ w m hr _ hw)) ?_))))
 rintro _ _ ⟨v, h0u1, rfl, rfl, H⟩
 refine pu hT 1 Y (ng (AtC.ret ?_))
 exact r1 2 Y Y Y H
theorem lift_ref03uSame (x0 : Bool × Sl × Sl × Bool × Sl × Sl) (y : Bool × Sl × Sl × Bool × Sl × Sl) (w : World) (m : Heap) (hr : Rel ⟨m, []⟩ w.heap) (S : Bool → Heap → Prop) (H : ref03uSame x0 y m S) :
 Calls Tryz.prog 68 #[Value.agg (C_bool_sl_sl_bool_sl_sl x0).toArray, Value.agg (C_bool_sl_sl_bool_sl_sl y).toArray] w (Post ⟨w, m⟩ Value.bool S) := by
 refine Calls.lift (args := [Value.agg (C_bool_sl_sl_bool_sl_sl x0).toArray, Value.agg (C_bool_sl_sl_bool_sl_sl y).toArray]) Tryz.func68 Y Tryz.ntmps68 (Nat.le_of_ble_eq_true Y) hr (ref03uSame x0 y m S) H (fun H => ?_)
 refine AtC.pick (ts := [0, 1]) Y ?_
 unfold ref03uSame at H
 refine sR (AtL.e Y (EffX.boxP (cs := [_, _, _, _, _, _]) Y Y Y H) ?_)
 rintro _ _ ⟨b, _, rfl, rfl, _, H⟩
 refine AtL.e Y (EffX.boxP (cs := [_, _, _, _, _, _]) Y Y Y H) ?_
 rintro _ _ ⟨b_1, _, rfl, rfl, _, H⟩
 replace H := H.self
 refine pu hT 1 Y (ng ?_)
 refine AtC.joinSeq (β := Unit) (fun (t0 : Bool) (bb : Unit) => [(4, Value.bool t0)]) (fun (t0 : Bool) (bb : Unit) => []) [] [] H Y Y (fun t0 bb h0u1 H => ?_) (fun J1 H HK1 => ?_)
 refine AtC.ret ?_
 exact r1 4 Y Y Y H
 refine AtC.region (pu hT 1 Y (AtL.q Y (lS hT 1 [_, _, _] Y Y Y Y Y Y Y Y) (pu hT 1 Y (AtL.q Y (lS hT 0 [_, _, _] Y Y Y Y Y Y Y Y) (AtL.e Y (cl (fun h => ref02uSame _ _ h _) H Y Tryz.call47 Y (fun w m hr hw => lift_ref02uSame _ _ w m hr _ hw)) ?_)))))
 rintro _ _ ⟨v, h0u2, rfl, rfl, H⟩
 refine pu hT 1 Y ?_
 refine AtL.splitB (t := 10) H Y (fun H => ?_) (fun H => ?_)
 refine ys Y (pu hT 1 Y (ys Y (AtL.q Y (lS hT 1 [_, _, _] Y Y Y Y Y Y Y Y) (ys Y (pu hT 1 Y ?_)))))
 refine ys Y (AtL.q Y (lS hT 0 [_, _, _] Y Y Y Y Y Y Y Y) (ys Y (AtL.e Y (cl (fun h => ref02uSame _ _ h _) H Y Tryz.call47 Y (fun w m hr hw => lift_ref02uSame _ _ w m hr _ hw)) ?_)))
 rintro _ _ ⟨v_1, h0u3, rfl, rfl, H⟩
 refine pu hT 2 Y (AtL.nil ?_)
 exact AtE.then_n ((HK1 _ () _ H).pickP (ts := [4]) (is := []) Y Y (by decide) Y)
 refine nf Y (nf Y (nf Y (nf Y (nf Y (pu hT 2 Y ?_)))))
 refine AtL.nil ?_
 exact AtE.then_n ((HK1 _ () _ H).pickP (ts := [4]) (is := []) Y Y (by decide) Y)
theorem lift_ref14uRow (t0 : Sl × Sl × Sl × Sl × Sl) (v : Int) (w : World) (m : Heap) (hr : Rel ⟨m, []⟩ w.heap) (S : Int → Heap → Prop) (H : ref14uRow t0 v m S) :
 Calls Tryz.prog 34 #[Value.agg (C_sl_sl_sl_sl_sl t0).toArray, Value.int .i64 v] w (Post ⟨w, m⟩ (Value.int .i64) S) := by
 refine Calls.lift (args := [Value.agg (C_sl_sl_sl_sl_sl t0).toArray, Value.int .i64 v]) Tryz.func34 Y Tryz.ntmps34 (Nat.le_of_ble_eq_true Y) hr (ref14uRow t0 v m S) H (fun H => ?_)
 refine AtC.pick (ts := [0, 1]) Y ?_
 unfold ref14uRow at H
 refine sR (AtL.e Y (EffX.boxP (cs := [_, _, _, _, _]) Y Y Y H) ?_)
 rintro _ _ ⟨b, _, rfl, rfl, _, H⟩
 replace H := H.self
 refine pu hT 1 Y (ng (AtC.seq (sR (pu hT 1 Y (ng ?_)))))
 refine AtC.block ?_
 refine AtC.loopM (fun (s0 : Int) => [(5, Value.int .i64 s0)]) (fun (s0 : Int) => []) [1, 2] [5, 1, 2] [0] [0] H Y Y Y (by decide) Y (fun Kp1 s0 h0u1 H Q1 HK1 => ?_)
 refine AtC.seq (sR (pu hT 2 Y (AtL.q Y (lP hT 0 Y) (pu hT 2 Y (ng ?_)))))
 refine AtC.condB H Y (fun H => ?_) (fun H => ?_)
 refine AtC.skip (tg (AtC.seq (AtC.block (sR (pu hT 1 Y ?_)))))
 refine AtL.q Y (lP hT 0 Y) (pu hT 1 Y ?_)
 obtain ⟨a_, hc1, hd1, H⟩ := H
 refine AtL.q Y (Quiet1.idxS hT Y Y Y Y Y hc1 hd1) ?_
 obtain ⟨v_1, hc2, H⟩ := H
 refine AtL.q Y (Quiet1.load hT Y Y Y hc2) (pu hT 2 Y (ng ?_))
 refine AtC.condB H Y (fun H => ?_) (fun H => ?_)
 refine sR (pu hT 2 Y (ng (AtC.ret (AtE.blk_r (AtE.then_r ?_)))))
 refine AtE.then_r (AtE.blk_r (AtE.then_r ?_))
 exact r1 4 Y Y Y H
 refine AtC.skip (AtE.blk_n (tg (AtC.region (pu hT 3 Y ?_))))
 replace H := H _ rfl
 refine AtL.nil ?_
 exact AtE.then_n ((HK1 _ _ H).pickP (ts := [5, 1, 2]) (is := [0]) Y Y (by decide) Y)
 refine AtC.exit (AtE.then_x (AtE.then_x (AtE.blk_hit (tg (sR ?_)))))
 refine pu hT 1 Y (ng (AtC.ret ?_))
 exact r1 4 Y Y Y H
theorem lift_ref03uOf (x0 : Bool × Sl × Sl × Bool × Sl × Sl) (w : World) (m : Heap) (hr : Rel ⟨m, []⟩ w.heap) (S : (Bool × Sl × Sl × Bool × Sl × Sl) → Heap → Prop) (H : ref03uOf x0 m S) :
 Calls Tryz.prog 16 #[Value.agg (C_bool_sl_sl_bool_sl_sl x0).toArray] w (Post ⟨w, m⟩ (fun r => Value.agg (C_bool_sl_sl_bool_sl_sl r).toArray) S) := by
 refine Calls.lift (args := [Value.agg (C_bool_sl_sl_bool_sl_sl x0).toArray]) Tryz.func16 Y Tryz.ntmps16 (Nat.le_of_ble_eq_true Y) hr (ref03uOf x0 m S) H (fun H => ?_)
 refine AtC.pick (ts := [0]) Y ?_
 unfold ref03uOf at H
 refine sR (AtL.e Y (EffX.boxP (cs := [_, _, _, _, _, _]) Y Y Y H) ?_)
 rintro _ _ ⟨b, _, rfl, rfl, _, H⟩
 refine AtL.e Y (EffX.allocP (cs := [_, _, _, _, _, _]) hT Y Y H) ?_
 rintro _ _ ⟨b_1, _, rfl, rfl, _, H⟩
 refine AtL.nil ?_
 replace H := H.self
 refine tg ?_
 apply AtC.seqS [2, 5, 7] [[], [], [], [], [], [2], [2, 5], [2, 5]] [[], [0], [0, 1], [], [3], [0, 1, 2, 3, 4], [0, 1, 2, 3, 4, 5], [0, 1, 2, 3, 4, 5, 6]] hmix (by kernel_rfl) [(3, _), (4, _), (6, _), (7, _)] Y 3 Y
 refine Stg.go [0, 1, 3, 4] [2] Y Y (qp hT Y (qq Y (lS hT 1 [_, _, _] Y Y Y Y Y Y Y Y) Y (qp hT Y (qq Y (lS hT 1 [_, _, _] Y Y Y Y Y Y Y Y) Y QAll.nil)))) ?_
 refine EAll.cons ?_ EAll.nil
 refine EOp.e Y Y Y (cl (fun h => ref02uOf _ h _) H Y Tryz.call36 Y (fun w m hr hw => lift_ref02uOf _ w m hr _ hw)) ?_
 rintro _ _ ⟨v, h0u1, rfl, rfl, H⟩
 apply Stg.next [(5, _)] Y Y
 refine Stg.go [3, 4] [5] Y Y (qp hT Y (qq Y (lS hT 1 [_, _, _] Y Y Y Y Y Y Y Y) Y QAll.nil)) ?_
 refine EAll.cons ?_ EAll.nil
 refine EOp.e Y Y Y (cl (fun h => ref02uOf _ h _) H Y Tryz.call36 Y (fun w m hr hw => lift_ref02uOf _ w m hr _ hw)) ?_
 rintro _ _ ⟨v_1, h0u2, rfl, rfl, H⟩
 apply Stg.next [(8, _), (9, _)] Y Y
 refine Stg.go [6] [7] Y Y (qq Y (Quiet1.build (cs := [_, _, _, _, _, _]) hT Y Y Y Y Y Y) Y QAll.nil) ?_
 refine EAll.cons ?_ EAll.nil
 refine EOp.e Y Y Y (EffX.storeSP (i := 0) (qv := [(_, [_, _, _, _, _, _]), (_, [_, _, _, _, _, _])]) hT Y Y Y Y Y Y Y Y Y Y) ?_
 rintro _ _ rfl
 apply Stg.next [] Y Y
 refine Stg.fin [] Y Y QAll.nil (tg (AtC.ret ?_))
 exact AtE.retN (rs := [.cell 2 59]) Y (ResAll.cons (ResAt.cellSP (i := 0) (l := [_, _, _, _, _, _]) hT Y Y Y Y Y Y Y) ResAll.nil) Y H
theorem lift_ref01uMul (x0 : Sl) (y : Sl) (w : World) (m : Heap) (hr : Rel ⟨m, []⟩ w.heap) (S : Sl → Heap → Prop) (H : ref01uMul x0 y m S) :
 Calls Tryz.prog 117 #[Sl.toV x0, Sl.toV y] w (Post ⟨w, m⟩ Sl.toV S) := by
 refine Calls.lift (args := [Sl.toV x0, Sl.toV y]) Tryz.func117 Y Tryz.ntmps117 (Nat.le_of_ble_eq_true Y) hr (ref01uMul x0 y m S) H (fun H => ?_)
 refine AtC.pick (ts := [0, 1]) Y ?_
 unfold ref01uMul at H
 refine sR (pu hT 1 Y (ng (sR (pu hT 6 Y ?_))))
 replace H := H _ rfl
 refine AtL.e Y (EffX.mkS hT Y Y Y Y Y Y Y Y (by decide) H) ?_
 rintro _ _ ⟨v, h0, rfl, rfl, H⟩
 refine pu hT 1 Y (ng (AtC.seq (sR (pu hT 1 Y (ng ?_)))))
 refine AtC.block ?_
 refine AtC.loopM (fun (s0 : Int) => [(6, Value.int .i64 s0)]) (fun (s0 : Int) => []) [0, 1, 5] [6, 0, 1, 5] [] [] H Y Y Y (by decide) Y (fun Kp1 s0 h0u1 H Q1 HK1 => ?_)
 refine AtC.seq (sR (pu hT 4 Y (ng ?_)))
 refine AtC.condB H Y (fun H => ?_) (fun H => ?_)
 refine AtC.skip (tg (AtC.seq (AtC.block (sR (pu hT 1 Y ?_)))))
 refine ng (sR (pu hT 1 Y (ng (AtC.block ?_))))
 refine AtC.loopM (fun (s0u1 : Int × Int) => [(7, Value.int .i64 s0u1.1), (8, Value.int .i64 s0u1.2)]) (fun (s0u1 : Int × Int) => []) [0, 1, 5, 6] [7, 8, 0, 1, 5, 6] [] [] H Y Y Y (by decide) Y (fun Kp2 s0u1 h0u2 H Q2 HK2 => ?_)
 refine AtC.seq ?_
 refine AtC.joinSeq (β := Unit) (fun (t0 : Bool) (bb : Unit) => [(30, Value.bool t0)]) (fun (t0 : Bool) (bb : Unit) => []) [0, 1, 5, 6, 7, 8] [] H Y Y (fun t0 bb h0u3 H => ?_) (fun J3 H HK3 => ?_)
 refine AtC.condB H Y (fun H => ?_) (fun H => ?_)
 refine AtC.skip (tg (AtC.seq (AtC.block (sR (pu hT 4 Y ?_)))))
 obtain ⟨a_, hc3, hd3, H⟩ := H
 refine AtL.q Y (Quiet1.idxS hT Y Y Y Y Y hc3 hd3) ?_
 obtain ⟨v_1, hc4, H⟩ := H
 refine AtL.q Y (Quiet1.load hT Y Y Y hc4) (pu hT 3 Y ?_)
 replace H := H _ rfl
 refine ng ?_
 refine AtC.joinSeq (β := Unit) (fun (t0u1 : Int) (bb_1 : Unit) => [(9, Value.int .i64 t0u1)]) (fun (t0u1 : Int) (bb_1 : Unit) => []) [0, 1, 5, 6, 8] [] H Y Y (fun t0u1 bb_1 h0u4 H => ?_) (fun J6 H HK6 => ?_)
 refine sR (pu hT 6 Y ?_)
 obtain ⟨a_3_, hc10, hd10, H⟩ := H
 refine AtL.q Y (Quiet1.idxS hT Y Y Y Y Y hc10 hd10) (AtL.e Y (EffX.store hT Y Y Y Y Y H) ?_)
 rintro _ _ ⟨h0u5, rfl, H⟩
 refine ng (AtC.region (pu hT 3 Y ?_))
 replace H := H _ rfl
 refine AtL.nil (AtE.blk_n (tg (AtC.region (pu hT 3 Y ?_))))
 replace H := H _ rfl
 refine AtL.nil ?_
 exact AtE.then_n ((HK2 _ _ H).pickP (ts := [7, 8, 0, 1, 5, 6]) (is := []) Y Y (by decide) Y)
 refine sR (pu hT 4 Y (ng ?_))
 refine AtC.condB H Y (fun H => ?_) (fun H => ?_)
 refine AtC.draw hmix (by kernel_rfl) (AtD.pures hT 3 _ _ _ _ Y ?_)
 obtain ⟨a_1_, hc6, hd6, H⟩ := H
 refine AtD.q Y (Quiet1.idxS hT Y Y Y Y Y hc6 hd6) ?_
 obtain ⟨v_2, hc7, H⟩ := H
 refine AtD.q Y (Quiet1.load hT Y Y Y hc7) (AtD.pures hT 2 _ _ _ _ Y ?_)
 obtain ⟨a_2_, hc8, hd8, H⟩ := H
 refine AtD.q Y (Quiet1.idxS hT Y Y Y Y Y hc8 hd8) ?_
 obtain ⟨v_3, hc9, H⟩ := H
 refine AtD.q Y (Quiet1.load hT Y Y Y hc9) (AtD.pures hT 3 _ _ _ _ Y ?_)
 replace H := H _ rfl
 refine AtD.nil ?_
 exact AtE.then_n ((HK6 _ () _ H).pickP (ts := [9, 0, 1, 5, 6, 8]) (is := []) Y Y (by decide) Y)
 refine AtC.skip ?_
 exact AtE.then_n ((HK6 _ () _ H).pickP (ts := [9, 0, 1, 5, 6, 8]) (is := []) Y Y (by decide) Y)
 refine AtC.exit (AtE.then_x (AtE.then_x (AtE.blk_hit (AtE.blk_n (tg ?_)))))
 refine AtC.region (pu hT 3 Y ?_)
 replace H := H _ rfl
 refine AtL.nil ?_
 exact AtE.then_n ((HK1 _ _ H).pickP (ts := [6, 0, 1, 5]) (is := []) Y Y (by decide) Y)
 refine AtC.region (pu hT 5 Y ?_)
 refine AtL.splitB (t := 27) H Y (fun H => ?_) (fun H => ?_)
 refine nf Y (nf Y (pu hT 1 Y (AtL.nil ?_)))
 exact AtE.then_n ((HK3 _ () _ H).pickP (ts := [30, 0, 1, 5, 6, 7, 8]) (is := []) Y Y (by decide) Y)
 refine ys Y (pu hT 1 Y (ys Y (pu hT 1 Y (pu hT 1 Y (AtL.nil ?_)))))
 exact AtE.then_n ((HK3 _ () _ H).pickP (ts := [30, 0, 1, 5, 6, 7, 8]) (is := []) Y Y (by decide) Y)
 refine AtC.exit (AtE.then_x (AtE.then_x (AtE.blk_hit (tg (sR ?_)))))
 refine pu hT 1 Y (AtL.e Y (cl (fun h => ref01uCut _ h _) H Y Tryz.call142 Y (fun w m hr hw => lift_ref01uCut _ w m hr _ hw)) ?_)
 rintro _ _ ⟨v_4, h0u6, rfl, rfl, H⟩
 refine pu hT 1 Y (ng (AtC.ret ?_))
 exact r1 4 Y Y Y H
theorem lift_ref02uMul (x0 : Bool × Sl × Sl) (y : Bool × Sl × Sl) (w : World) (m : Heap) (hr : Rel ⟨m, []⟩ w.heap) (S : (Bool × Sl × Sl) → Heap → Prop) (H : ref02uMul x0 y m S) :
 Calls Tryz.prog 51 #[Value.agg (C_bool_sl_sl x0).toArray, Value.agg (C_bool_sl_sl y).toArray] w (Post ⟨w, m⟩ (fun r => Value.agg (C_bool_sl_sl r).toArray) S) := by
 refine Calls.lift (args := [Value.agg (C_bool_sl_sl x0).toArray, Value.agg (C_bool_sl_sl y).toArray]) Tryz.func51 Y Tryz.ntmps51 (Nat.le_of_ble_eq_true Y) hr (ref02uMul x0 y m S) H (fun H => ?_)
 refine AtC.pick (ts := [0, 1]) Y ?_
 unfold ref02uMul at H
 refine sR (AtL.e Y (EffX.boxP (cs := [_, _, _]) Y Y Y H) ?_)
 rintro _ _ ⟨b, _, rfl, rfl, _, H⟩
 refine AtL.e Y (EffX.boxP (cs := [_, _, _]) Y Y Y H) ?_
 rintro _ _ ⟨b_1, _, rfl, rfl, _, H⟩
 refine AtL.e Y (EffX.allocP (cs := [_, _, _]) hT Y Y H) ?_
 rintro _ _ ⟨b_2, _, rfl, rfl, _, H⟩
 refine AtL.nil ?_
 replace H := H.self
 refine tg ?_
 apply AtC.seqS [9, 14, 16, 17] [[], [], [], [], [], [], [], [], [], [], [], [], [], [], [9], [9, 14], [9, 14], [9, 14, 16]] [[], [0], [], [2], [0, 1, 2, 3], [], [5], [], [7], [5, 6, 7, 8], [], [10], [], [12], [5, 6, 7, 8, 9, 10, 11, 12, 13], [0, 1, 2, 3, 4, 5, 6, 7, 8, 9, 10, 11, 12, 13, 14], [0, 1, 2, 3, 4, 5, 6, 7, 8, 9, 10, 11, 12, 13, 14, 15], [0, 1, 2, 3, 4, 5, 6, 7, 8, 9, 10, 11, 12, 13, 14, 15, 16]] hmix (by kernel_rfl) [(5, _), (6, _), (7, _), (8, _), (9, _), (10, _), (11, _), (12, _), (13, _), (15, _), (16, _), (17, _), (18, _)] Y 4 Y
 refine Stg.go [0, 1, 2, 3, 4, 5, 6, 7, 8, 10, 11, 12, 13] [9] Y Y (qp hT Y (qq Y (lP hT 2 Y) Y (qp hT Y (qq Y (lP hT 1 Y) Y (qp hT Y (qp hT Y (qq Y (lP hT 2 Y) Y (qp hT Y (qq Y (lP hT 1 Y) Y (qp hT Y (qq Y (lP hT 2 Y) Y (qp hT Y (qq Y (lP hT 1 Y) Y QAll.nil))))))))))))) ?_
 refine EAll.cons ?_ EAll.nil
 refine EOp.e Y Y Y (cl (fun h => ref01uMul _ _ h _) H Y Tryz.call117 Y (fun w m hr hw => lift_ref01uMul _ _ w m hr _ hw)) ?_
 rintro _ _ ⟨v, h0u1, rfl, rfl, H⟩
 apply Stg.next [(14, _)] Y Y
 refine Stg.go [0, 1, 2, 3, 4, 10, 11, 12, 13] [14] Y Y (qp hT Y (qq Y (lP hT 2 Y) Y (qp hT Y (qq Y (lP hT 1 Y) Y (qp hT Y (qp hT Y (qq Y (lP hT 2 Y) Y (qp hT Y (qq Y (lP hT 1 Y) Y QAll.nil))))))))) ?_
 refine EAll.cons ?_ EAll.nil
 refine EOp.e Y Y Y (cl (fun h => ref01uMul _ _ h _) H Y Tryz.call117 Y (fun w m hr hw => lift_ref01uMul _ _ w m hr _ hw)) ?_
 rintro _ _ ⟨v_1, h0u2, rfl, rfl, H⟩
 apply Stg.next [(19, _), (20, _)] Y Y
 refine Stg.go [0, 1, 2, 3, 4, 15] [16] Y Y (qp hT Y (qq Y (lP hT 2 Y) Y (qp hT Y (qq Y (lP hT 1 Y) Y (qp hT Y (qq Y (Quiet1.build (cs := [_, _, _]) hT Y Y Y Y Y Y) Y QAll.nil)))))) ?_
 refine EAll.cons ?_ EAll.nil
 refine EOp.e Y Y Y (cl (fun h => ref02uLow _ h _) H Y Tryz.call114 Y (fun w m hr hw => lift_ref02uLow _ w m hr _ hw)) ?_
 rintro _ _ ⟨v_2, h0u3, rfl, rfl, H⟩
 apply Stg.next [(21, _)] Y Y
 refine Stg.go [] [17] Y Y QAll.nil ?_
 refine EAll.cons ?_ EAll.nil
 refine EOp.e Y Y Y (EffX.storeSP (i := 0) (qv := [(_, [_, _, _]), (_, [_, _, _]), (_, [_, _, _])]) hT Y Y Y Y Y Y Y Y Y Y) ?_
 rintro _ _ rfl
 apply Stg.next [] Y Y
 refine Stg.fin [] Y Y QAll.nil (tg (AtC.ret ?_))
 exact AtE.retN (rs := [.cell 4 55]) Y (ResAll.cons (ResAt.cellSP (i := 0) (l := [_, _, _]) hT Y Y Y Y Y Y Y) ResAll.nil) Y H
theorem lift_ref03uScale (k : Bool × Sl × Sl) (x0 : Bool × Sl × Sl × Bool × Sl × Sl) (w : World) (m : Heap) (hr : Rel ⟨m, []⟩ w.heap) (S : (Bool × Sl × Sl × Bool × Sl × Sl) → Heap → Prop) (H : ref03uScale k x0 m S) :
 Calls Tryz.prog 127 #[Value.agg (C_bool_sl_sl k).toArray, Value.agg (C_bool_sl_sl_bool_sl_sl x0).toArray] w (Post ⟨w, m⟩ (fun r => Value.agg (C_bool_sl_sl_bool_sl_sl r).toArray) S) := by
 refine Calls.lift (args := [Value.agg (C_bool_sl_sl k).toArray, Value.agg (C_bool_sl_sl_bool_sl_sl x0).toArray]) Tryz.func127 Y Tryz.ntmps127 (Nat.le_of_ble_eq_true Y) hr (ref03uScale k x0 m S) H (fun H => ?_)
 refine AtC.pick (ts := [0, 1]) Y ?_
 unfold ref03uScale at H
 refine sR (AtL.e Y (EffX.boxP (cs := [_, _, _]) Y Y Y H) ?_)
 rintro _ _ ⟨b, _, rfl, rfl, _, H⟩
 refine AtL.e Y (EffX.boxP (cs := [_, _, _, _, _, _]) Y Y Y H) ?_
 rintro _ _ ⟨b_1, _, rfl, rfl, _, H⟩
 refine AtL.e Y (EffX.allocP (cs := [_, _, _, _, _, _]) hT Y Y H) ?_
 rintro _ _ ⟨b_2, _, rfl, rfl, _, H⟩
 refine AtL.nil ?_
 replace H := H.self
 refine tg ?_
 apply AtC.seqS [3, 7, 9] [[], [], [], [], [], [], [], [3], [3, 7], [3, 7]] [[], [], [1], [0, 1, 2], [], [], [5], [0, 1, 2, 3, 4, 5, 6], [0, 1, 2, 3, 4, 5, 6, 7], [0, 1, 2, 3, 4, 5, 6, 7, 8]] hmix (by kernel_rfl) [(5, _), (6, _), (7, _), (9, _), (10, _), (11, _)] Y 3 Y
 refine Stg.go [0, 1, 2, 4, 5, 6] [3] Y Y (qq Y (lS hT 2 [_, _, _] Y Y Y Y Y Y Y Y) Y (qp hT Y (qq Y (lS hT 1 [_, _, _] Y Y Y Y Y Y Y Y) Y (qq Y (lS hT 2 [_, _, _] Y Y Y Y Y Y Y Y) Y (qp hT Y (qq Y (lS hT 1 [_, _, _] Y Y Y Y Y Y Y Y) Y QAll.nil)))))) ?_
 refine EAll.cons ?_ EAll.nil
 refine EOp.e Y Y Y (cl (fun h => ref02uMul _ _ h _) H Y Tryz.call51 Y (fun w m hr hw => lift_ref02uMul _ _ w m hr _ hw)) ?_
 rintro _ _ ⟨v, h0u1, rfl, rfl, H⟩
 apply Stg.next [(8, _)] Y Y
 refine Stg.go [4, 5, 6] [7] Y Y (qq Y (lS hT 2 [_, _, _] Y Y Y Y Y Y Y Y) Y (qp hT Y (qq Y (lS hT 1 [_, _, _] Y Y Y Y Y Y Y Y) Y QAll.nil))) ?_
 refine EAll.cons ?_ EAll.nil
 refine EOp.e Y Y Y (cl (fun h => ref02uMul _ _ h _) H Y Tryz.call51 Y (fun w m hr hw => lift_ref02uMul _ _ w m hr _ hw)) ?_
 rintro _ _ ⟨v_1, h0u2, rfl, rfl, H⟩
 apply Stg.next [(12, _), (13, _)] Y Y
 refine Stg.go [8] [9] Y Y (qq Y (Quiet1.build (cs := [_, _, _, _, _, _]) hT Y Y Y Y Y Y) Y QAll.nil) ?_
 refine EAll.cons ?_ EAll.nil
 refine EOp.e Y Y Y (EffX.storeSP (i := 0) (qv := [(_, [_, _, _, _, _, _]), (_, [_, _, _, _, _, _]), (_, [_, _, _])]) hT Y Y Y Y Y Y Y Y Y Y) ?_
 rintro _ _ rfl
 apply Stg.next [] Y Y
 refine Stg.fin [] Y Y QAll.nil (tg (AtC.ret ?_))
 exact AtE.retN (rs := [.cell 4 59]) Y (ResAll.cons (ResAt.cellSP (i := 0) (l := [_, _, _, _, _, _]) hT Y Y Y Y Y Y Y) ResAll.nil) Y H
theorem lift_ref01uAdd (x0 : Sl) (y : Sl) (w : World) (m : Heap) (hr : Rel ⟨m, []⟩ w.heap) (S : Sl → Heap → Prop) (H : ref01uAdd x0 y m S) :
 Calls Tryz.prog 118 #[Sl.toV x0, Sl.toV y] w (Post ⟨w, m⟩ Sl.toV S) := by
 refine Calls.lift (args := [Sl.toV x0, Sl.toV y]) Tryz.func118 Y Tryz.ntmps118 (Nat.le_of_ble_eq_true Y) hr (ref01uAdd x0 y m S) H (fun H => ?_)
 refine AtC.pick (ts := [0, 1]) Y ?_
 unfold ref01uAdd at H
 refine sR (pu hT 1 Y (ng (sR ?_)))
 refine AtLX.bs (hT := hT) (cs := []) H Y Y Y Y Y Y Y Y Y (fun a h0 H => ?_)
 refine pu hT 1 Y ?_
 replace H := H _ rfl
 refine ng (sR (pu hT 1 Y (ng (AtC.seq (sR ?_)))))
 refine pu hT 1 Y (ng (AtC.block ?_))
 refine AtC.loopM (fun (s0 : Sl × Int × Int) => [(5, Sl.toV s0.1), (6, Value.int .i64 s0.2.1), (7, Value.int .i64 s0.2.2)]) (fun (s0 : Sl × Int × Int) => []) [0, 1] [5, 6, 7, 0, 1] [] [] H Y Y Y (by decide) Y (fun Kp1 s0 h0u1 H Q1 HK1 => ?_)
 refine AtC.seq ?_
 refine AtC.joinSeq (β := Unit) (fun (t0 : Bool) (bb : Unit) => [(23, Value.bool t0)]) (fun (t0 : Bool) (bb : Unit) => []) [0, 1, 5, 6, 7] [] H Y Y (fun t0 bb h0u2 H => ?_) (fun J2 H HK2 => ?_)
 refine AtC.condB H Y (fun H => ?_) (fun H => ?_)
 refine AtC.skip (tg (AtC.seq (AtC.block (sR (pu hT 2 Y ?_)))))
 refine ng ?_
 refine AtC.joinSeq (β := Unit) (fun (t0u1 : Int) (bb_1 : Unit) => [(8, Value.int .i64 t0u1)]) (fun (t0u1 : Int) (bb_1 : Unit) => []) [0, 1, 5, 7] [] H Y Y (fun t0u1 bb_1 h0u3 H => ?_) (fun J3 H HK3 => ?_)
 refine AtC.joinSeq (β := Unit) (fun (t0u2 : Int) (bb_2 : Unit) => [(8, Value.int .i64 t0u2)]) (fun (t0u2 : Int) (bb_2 : Unit) => []) [0, 1, 5, 7] [] H Y Y (fun t0u2 bb_2 h0u4 H => ?_) (fun J6 H HK6 => ?_)
 refine sR (pu hT 3 Y ?_)
 refine AtLX.bs (hT := hT) (cs := [_]) H Y Y Y Y Y Y Y Y Y (fun a_3 h0u5 H => ?_)
 refine AtL.e Y (EffX.appendS (s := _) (u := _) hT Y Y Y Y Y Y Y Y Y Y (by decide) H) ?_
 rintro _ _ ⟨v_4, h0u6, rfl, rfl, H⟩
 refine pu hT 1 Y (ng (AtC.region (pu hT 3 Y ?_)))
 replace H := H _ rfl
 refine AtL.nil (AtE.blk_n (tg (AtC.region (pu hT 3 Y ?_))))
 replace H := H _ rfl
 refine AtL.nil ?_
 exact AtE.then_n ((HK1 _ _ H).pickP (ts := [5, 6, 7, 0, 1]) (is := []) Y Y (by decide) Y)
 refine sR (pu hT 4 Y (ng ?_))
 refine AtC.condB H Y (fun H => ?_) (fun H => ?_)
 refine AtC.region (pu hT 3 Y ?_)
 obtain ⟨a_2_, hc6, hd6, H⟩ := H
 refine AtL.q Y (Quiet1.idxS hT Y Y Y Y Y hc6 hd6) ?_
 obtain ⟨v_2, hc7, H⟩ := H
 refine AtL.q Y (Quiet1.load hT Y Y Y hc7) (pu hT 2 Y ?_)
 replace H := H _ rfl
 refine AtL.nil ?_
 exact AtE.then_n ((HK6 _ () _ H).pickP (ts := [8, 0, 1, 5, 7]) (is := []) Y Y (by decide) Y)
 refine AtC.skip ?_
 exact AtE.then_n ((HK6 _ () _ H).pickP (ts := [8, 0, 1, 5, 7]) (is := []) Y Y (by decide) Y)
 refine sR (pu hT 4 Y (ng ?_))
 refine AtC.condB H Y (fun H => ?_) (fun H => ?_)
 refine AtC.region (pu hT 3 Y ?_)
 obtain ⟨a_1_, hc3, hd3, H⟩ := H
 refine AtL.q Y (Quiet1.idxS hT Y Y Y Y Y hc3 hd3) ?_
 obtain ⟨v_1, hc4, H⟩ := H
 refine AtL.q Y (Quiet1.load hT Y Y Y hc4) (pu hT 2 Y ?_)
 replace H := H _ rfl
 refine AtL.nil ?_
 exact AtE.then_n ((HK3 _ () _ H).pickP (ts := [8, 0, 1, 5, 7]) (is := []) Y Y (by decide) Y)
 refine AtC.skip ?_
 exact AtE.then_n ((HK3 _ () _ H).pickP (ts := [8, 0, 1, 5, 7]) (is := []) Y Y (by decide) Y)
 refine AtC.exit (AtE.then_x (AtE.then_x (AtE.blk_hit (tg (sR ?_)))))
 refine pu hT 1 Y (AtL.e Y (cl (fun h => ref01uCut _ h _) H Y Tryz.call142 Y (fun w m hr hw => lift_ref01uCut _ w m hr _ hw)) ?_)
 rintro _ _ ⟨v_5, h0u7, rfl, rfl, H⟩
 refine pu hT 1 Y (ng (AtC.ret ?_))
 exact r1 4 Y Y Y H
 refine AtC.region (pu hT 5 Y ?_)
 refine AtL.splitB (t := 14) H Y (fun H => ?_) (fun H => ?_)
 refine nf Y (nf Y (nf Y (nf Y (pu hT 2 Y (nf Y ?_)))))
 refine nf Y (pu hT 1 Y (AtL.nil ?_))
 exact AtE.then_n ((HK2 _ () _ H).pickP (ts := [23, 0, 1, 5, 6, 7]) (is := []) Y Y (by decide) Y)
 refine ys Y (pu hT 1 Y (ys Y (pu hT 1 Y (ys Y (pu hT 1 Y ?_)))))
 refine ys Y (pu hT 1 Y (pu hT 2 Y ?_))
 refine AtL.splitB (t := 20) H Y (fun H => ?_) (fun H => ?_)
 refine nf Y (nf Y (pu hT 1 Y (AtL.nil ?_)))
 exact AtE.then_n ((HK2 _ () _ H).pickP (ts := [23, 0, 1, 5, 6, 7]) (is := []) Y Y (by decide) Y)
 refine ys Y (pu hT 1 Y (ys Y (pu hT 1 Y (pu hT 1 Y (AtL.nil ?_)))))
 exact AtE.then_n ((HK2 _ () _ H).pickP (ts := [23, 0, 1, 5, 6, 7]) (is := []) Y Y (by decide) Y)
theorem lift_ref02uAdd (x0 : Bool × Sl × Sl) (y : Bool × Sl × Sl) (w : World) (m : Heap) (hr : Rel ⟨m, []⟩ w.heap) (S : (Bool × Sl × Sl) → Heap → Prop) (H : ref02uAdd x0 y m S) :
 Calls Tryz.prog 50 #[Value.agg (C_bool_sl_sl x0).toArray, Value.agg (C_bool_sl_sl y).toArray] w (Post ⟨w, m⟩ (fun r => Value.agg (C_bool_sl_sl r).toArray) S) := by
 refine Calls.lift (args := [Value.agg (C_bool_sl_sl x0).toArray, Value.agg (C_bool_sl_sl y).toArray]) Tryz.func50 Y Tryz.ntmps50 (Nat.le_of_ble_eq_true Y) hr (ref02uAdd x0 y m S) H (fun H => ?_)
 refine AtC.pick (ts := [0, 1]) Y ?_
 unfold ref02uAdd at H
 refine sR (AtL.e Y (EffX.boxP (cs := [_, _, _]) Y Y Y H) ?_)
 rintro _ _ ⟨b, _, rfl, rfl, _, H⟩
 refine AtL.e Y (EffX.boxP (cs := [_, _, _]) Y Y Y H) ?_
 rintro _ _ ⟨b_1, _, rfl, rfl, _, H⟩
 refine AtL.e Y (EffX.allocP (cs := [_, _, _]) hT Y Y H) ?_
 rintro _ _ ⟨b_2, _, rfl, rfl, _, H⟩
 refine AtL.nil ?_
 replace H := H.self
 refine tg (sR (pu hT 1 Y (AtL.q Y (lP hT 2 Y) (pu hT 1 Y (AtL.q Y (lP hT 1 Y) ?_)))))
 refine AtL.e Y (cl (fun h => ref01uMul _ _ h _) H Y Tryz.call117 Y (fun w m hr hw => lift_ref01uMul _ _ w m hr _ hw)) ?_
 rintro _ _ ⟨v, h0u1, rfl, rfl, H⟩
 refine pu hT 1 Y (ng (sR (pu hT 1 Y (AtL.q Y (lP hT 1 Y) (pu hT 1 Y ?_)))))
 refine AtL.q Y (lP hT 2 Y) (AtL.e Y (cl (fun h => ref01uMul _ _ h _) H Y Tryz.call117 Y (fun w m hr hw => lift_ref01uMul _ _ w m hr _ hw)) ?_)
 rintro _ _ ⟨v_1, h0u2, rfl, rfl, H⟩
 refine pu hT 1 Y (ng (sR (pu hT 1 Y (AtL.q Y (lP hT 2 Y) (pu hT 1 Y ?_)))))
 refine AtL.q Y (lP hT 1 Y) (AtL.e Y (cl (fun h => ref01uMul _ _ h _) H Y Tryz.call117 Y (fun w m hr hw => lift_ref01uMul _ _ w m hr _ hw)) ?_)
 rintro _ _ ⟨v_2, h0u3, rfl, rfl, H⟩
 refine pu hT 1 Y (ng (AtC.seq (sR (pu hT 1 Y (AtL.q Y (lP hT 2 Y) ?_)))))
 refine pu hT 1 Y (AtL.q Y (lP hT 1 Y) (pu hT 1 Y (ng ?_)))
 refine AtC.condB H Y (fun H => ?_) (fun H => ?_)
 apply AtC.seqS [4, 7, 8] [[], [], [], [], [], [], [4], [4], [4, 7]] [[], [0], [], [], [2, 3], [], [0, 1, 2, 3, 4, 5], [0, 1, 2, 3, 4, 5, 6], [0, 1, 2, 3, 4, 5, 6, 7]] hmix (by kernel_rfl) [(28, _), (29, _), (30, _), (31, _), (33, _)] Y 3 Y
 refine Stg.go [0, 1, 2, 3, 5] [4] Y Y (qp hT Y (qq Y (lP hT 2 Y) Y (qp hT Y (qp hT Y (qp hT Y QAll.nil))))) ?_
 refine EAll.cons ?_ EAll.nil
 refine EOp.e Y Y Y (cl (fun h => ref01uAdd _ _ h _) H Y Tryz.call118 Y (fun w m hr hw => lift_ref01uAdd _ _ w m hr _ hw)) ?_
 rintro _ _ ⟨v_3, h0u4, rfl, rfl, H⟩
 apply Stg.next [(32, _), (34, _)] Y Y
 refine Stg.go [0, 1, 5, 6] [7] Y Y (qp hT Y (qq Y (lP hT 2 Y) Y (qp hT Y (qq Y (Quiet1.build (cs := [_, _, _]) hT Y Y Y Y Y Y) Y QAll.nil)))) ?_
 refine EAll.cons ?_ EAll.nil
 refine EOp.e Y Y Y (cl (fun h => ref02uLow _ h _) H Y Tryz.call114 Y (fun w m hr hw => lift_ref02uLow _ w m hr _ hw)) ?_
 rintro _ _ ⟨v_4, h0u5, rfl, rfl, H⟩
 apply Stg.next [(35, _)] Y Y
 refine Stg.go [] [8] Y Y QAll.nil ?_
 refine EAll.cons ?_ EAll.nil
 refine EOp.e Y Y Y (EffX.storeSP (i := 0) (qv := [(_, [_, _, _]), (_, [_, _, _]), (_, [_, _, _])]) hT Y Y Y Y Y Y Y Y Y Y) ?_
 rintro _ _ rfl
 apply Stg.next [] Y Y
 refine Stg.fin [] Y Y QAll.nil (tg (AtC.ret (AtE.then_r ?_)))
 exact AtE.retN (rs := [.cell 4 55]) Y (ResAll.cons (ResAt.cellSP (i := 0) (l := [_, _, _]) hT Y Y Y Y Y Y Y) ResAll.nil) Y H
 refine AtC.skip (tg (AtC.seq (sR (pu hT 2 Y (AtL.e Y (cl (fun h => ref01uCmp _ _ h _) H Y Tryz.call119 Y (fun w m hr hw => lift_ref01uCmp _ _ w m hr _ hw)) ?_)))))
 rintro _ _ ⟨v_5, h0u6, rfl, rfl, H⟩
 refine pu hT 1 Y (ng ?_)
 refine AtC.condB H Y (fun H => ?_) (fun H => ?_)
 apply AtC.seqS [4, 7, 8] [[], [], [], [], [], [], [4], [4], [4, 7]] [[], [0], [], [], [2, 3], [], [0, 1, 2, 3, 4, 5], [0, 1, 2, 3, 4, 5, 6], [0, 1, 2, 3, 4, 5, 6, 7]] hmix (by kernel_rfl) [(40, _), (41, _), (42, _), (43, _), (45, _)] Y 3 Y
 refine Stg.go [0, 1, 2, 3, 5] [4] Y Y (qp hT Y (qq Y (lP hT 2 Y) Y (qp hT Y (qp hT Y (qp hT Y QAll.nil))))) ?_
 refine EAll.cons ?_ EAll.nil
 refine EOp.e Y Y Y (cl (fun h => ref01uSub _ _ h _) H Y Tryz.call120 Y (fun w m hr hw => lift_ref01uSub _ _ w m hr _ hw)) ?_
 rintro _ _ ⟨v_6, h0u7, rfl, rfl, H⟩
 apply Stg.next [(44, _), (46, _)] Y Y
 refine Stg.go [0, 1, 5, 6] [7] Y Y (qp hT Y (qq Y (lP hT 2 Y) Y (qp hT Y (qq Y (Quiet1.build (cs := [_, _, _]) hT Y Y Y Y Y Y) Y QAll.nil)))) ?_
 refine EAll.cons ?_ EAll.nil
 refine EOp.e Y Y Y (cl (fun h => ref02uLow _ h _) H Y Tryz.call114 Y (fun w m hr hw => lift_ref02uLow _ w m hr _ hw)) ?_
 rintro _ _ ⟨v_7, h0u8, rfl, rfl, H⟩
 apply Stg.next [(47, _)] Y Y
 refine Stg.go [] [8] Y Y QAll.nil ?_
 refine EAll.cons ?_ EAll.nil
 refine EOp.e Y Y Y (EffX.storeSP (i := 0) (qv := [(_, [_, _, _]), (_, [_, _, _]), (_, [_, _, _])]) hT Y Y Y Y Y Y Y Y Y Y) ?_
 rintro _ _ rfl
 apply Stg.next [] Y Y
 refine Stg.fin [] Y Y QAll.nil (tg (AtC.ret (AtE.then_r ?_)))
 exact AtE.retN (rs := [.cell 4 55]) Y (ResAll.cons (ResAt.cellSP (i := 0) (l := [_, _, _]) hT Y Y Y Y Y Y Y) ResAll.nil) Y H
 refine AtC.skip (tg ?_)
 apply AtC.seqS [4, 7, 8] [[], [], [], [], [], [], [4], [4], [4, 7]] [[], [0], [], [], [2, 3], [], [0, 1, 2, 3, 4, 5], [0, 1, 2, 3, 4, 5, 6], [0, 1, 2, 3, 4, 5, 6, 7]] hmix (by kernel_rfl) [(48, _), (49, _), (50, _), (51, _), (53, _)] Y 3 Y
 refine Stg.go [0, 1, 2, 3, 5] [4] Y Y (qp hT Y (qq Y (lP hT 1 Y) Y (qp hT Y (qp hT Y (qp hT Y QAll.nil))))) ?_
 refine EAll.cons ?_ EAll.nil
 refine EOp.e Y Y Y (cl (fun h => ref01uSub _ _ h _) H Y Tryz.call120 Y (fun w m hr hw => lift_ref01uSub _ _ w m hr _ hw)) ?_
 rintro _ _ ⟨v_8, h0u9, rfl, rfl, H⟩
 apply Stg.next [(52, _), (54, _)] Y Y
 refine Stg.go [0, 1, 5, 6] [7] Y Y (qp hT Y (qq Y (lP hT 1 Y) Y (qp hT Y (qq Y (Quiet1.build (cs := [_, _, _]) hT Y Y Y Y Y Y) Y QAll.nil)))) ?_
 refine EAll.cons ?_ EAll.nil
 refine EOp.e Y Y Y (cl (fun h => ref02uLow _ h _) H Y Tryz.call114 Y (fun w m hr hw => lift_ref02uLow _ w m hr _ hw)) ?_
 rintro _ _ ⟨v_9, h0u10, rfl, rfl, H⟩
 apply Stg.next [(55, _)] Y Y
 refine Stg.go [] [8] Y Y QAll.nil ?_
 refine EAll.cons ?_ EAll.nil
 refine EOp.e Y Y Y (EffX.storeSP (i := 0) (qv := [(_, [_, _, _]), (_, [_, _, _]), (_, [_, _, _])]) hT Y Y Y Y Y Y Y Y Y Y) ?_
 rintro _ _ rfl
 apply Stg.next [] Y Y
 refine Stg.fin [] Y Y QAll.nil (tg (AtC.ret ?_))
 exact AtE.retN (rs := [.cell 4 55]) Y (ResAll.cons (ResAt.cellSP (i := 0) (l := [_, _, _]) hT Y Y Y Y Y Y Y) ResAll.nil) Y H
theorem lift_ref03uAdd (x0 : Bool × Sl × Sl × Bool × Sl × Sl) (y : Bool × Sl × Sl × Bool × Sl × Sl) (w : World) (m : Heap) (hr : Rel ⟨m, []⟩ w.heap) (S : (Bool × Sl × Sl × Bool × Sl × Sl) → Heap → Prop) (H : ref03uAdd x0 y m S) :
 Calls Tryz.prog 126 #[Value.agg (C_bool_sl_sl_bool_sl_sl x0).toArray, Value.agg (C_bool_sl_sl_bool_sl_sl y).toArray] w (Post ⟨w, m⟩ (fun r => Value.agg (C_bool_sl_sl_bool_sl_sl r).toArray) S) := by
 refine Calls.lift (args := [Value.agg (C_bool_sl_sl_bool_sl_sl x0).toArray, Value.agg (C_bool_sl_sl_bool_sl_sl y).toArray]) Tryz.func126 Y Tryz.ntmps126 (Nat.le_of_ble_eq_true Y) hr (ref03uAdd x0 y m S) H (fun H => ?_)
 refine AtC.pick (ts := [0, 1]) Y ?_
 unfold ref03uAdd at H
 refine sR (AtL.e Y (EffX.boxP (cs := [_, _, _, _, _, _]) Y Y Y H) ?_)
 rintro _ _ ⟨b, _, rfl, rfl, _, H⟩
 refine AtL.e Y (EffX.boxP (cs := [_, _, _, _, _, _]) Y Y Y H) ?_
 rintro _ _ ⟨b_1, _, rfl, rfl, _, H⟩
 refine AtL.e Y (EffX.allocP (cs := [_, _, _, _, _, _]) hT Y Y H) ?_
 rintro _ _ ⟨b_2, _, rfl, rfl, _, H⟩
 refine AtL.nil ?_
 replace H := H.self
 refine tg ?_
 apply AtC.seqS [4, 9, 11] [[], [], [], [], [], [], [], [], [], [4], [4, 9], [4, 9]] [[], [0], [], [2], [0, 1, 2, 3], [], [5], [], [7], [0, 1, 2, 3, 4, 5, 6, 7, 8], [0, 1, 2, 3, 4, 5, 6, 7, 8, 9], [0, 1, 2, 3, 4, 5, 6, 7, 8, 9, 10]] hmix (by kernel_rfl) [(5, _), (6, _), (7, _), (8, _), (10, _), (11, _), (12, _), (13, _)] Y 3 Y
 refine Stg.go [0, 1, 2, 3, 5, 6, 7, 8] [4] Y Y (qp hT Y (qq Y (lS hT 2 [_, _, _] Y Y Y Y Y Y Y Y) Y (qp hT Y (qq Y (lS hT 1 [_, _, _] Y Y Y Y Y Y Y Y) Y (qp hT Y (qq Y (lS hT 2 [_, _, _] Y Y Y Y Y Y Y Y) Y (qp hT Y (qq Y (lS hT 1 [_, _, _] Y Y Y Y Y Y Y Y) Y QAll.nil)))))))) ?_
 refine EAll.cons ?_ EAll.nil
 refine EOp.e Y Y Y (cl (fun h => ref02uAdd _ _ h _) H Y Tryz.call50 Y (fun w m hr hw => lift_ref02uAdd _ _ w m hr _ hw)) ?_
 rintro _ _ ⟨v, h0u1, rfl, rfl, H⟩
 apply Stg.next [(9, _)] Y Y
 refine Stg.go [5, 6, 7, 8] [9] Y Y (qp hT Y (qq Y (lS hT 2 [_, _, _] Y Y Y Y Y Y Y Y) Y (qp hT Y (qq Y (lS hT 1 [_, _, _] Y Y Y Y Y Y Y Y) Y QAll.nil)))) ?_
 refine EAll.cons ?_ EAll.nil
 refine EOp.e Y Y Y (cl (fun h => ref02uAdd _ _ h _) H Y Tryz.call50 Y (fun w m hr hw => lift_ref02uAdd _ _ w m hr _ hw)) ?_
 rintro _ _ ⟨v_1, h0u2, rfl, rfl, H⟩
 apply Stg.next [(14, _), (15, _)] Y Y
 refine Stg.go [10] [11] Y Y (qq Y (Quiet1.build (cs := [_, _, _, _, _, _]) hT Y Y Y Y Y Y) Y QAll.nil) ?_
 refine EAll.cons ?_ EAll.nil
 refine EOp.e Y Y Y (EffX.storeSP (i := 0) (qv := [(_, [_, _, _, _, _, _]), (_, [_, _, _, _, _, _]), (_, [_, _, _, _, _, _])]) hT Y Y Y Y Y Y Y Y Y Y) ?_
 rintro _ _ rfl
 apply Stg.next [] Y Y
 refine Stg.fin [] Y Y QAll.nil (tg (AtC.ret ?_))
 exact AtE.retN (rs := [.cell 4 59]) Y (ResAll.cons (ResAt.cellSP (i := 0) (l := [_, _, _, _, _, _]) hT Y Y Y Y Y Y Y) ResAll.nil) Y H
theorem lift_ref14uValue (p : Bool × Sl × Sl × Sl) (l : Sl) (w : World) (m : Heap) (hr : Rel ⟨m, []⟩ w.heap) (S : (Bool × Sl × Sl × Bool × Sl × Sl) → Heap → Prop) (H : ref14uValue p l m S) :
 Calls Tryz.prog 69 #[Value.agg (C_bool_sl_sl_sl p).toArray, Sl.toV l] w (Post ⟨w, m⟩ (fun r => Value.agg (C_bool_sl_sl_bool_sl_sl r).toArray) S) := by
 refine Calls.lift (args := [Value.agg (C_bool_sl_sl_sl p).toArray, Sl.toV l]) Tryz.func69 Y Tryz.ntmps69 (Nat.le_of_ble_eq_true Y) hr (ref14uValue p l m S) H (fun H => ?_)
 refine AtC.pick (ts := [0, 1]) Y ?_
 unfold ref14uValue at H
 refine sR (AtL.e Y (EffX.boxP (cs := [_, _, _, _]) Y Y Y H) ?_)
 rintro _ _ ⟨b, _, rfl, rfl, _, H⟩
 refine AtL.e Y (EffX.allocP (cs := [_, _, _, _, _, _]) hT Y Y H) ?_
 rintro _ _ ⟨b_1, _, rfl, rfl, _, H⟩
 refine AtL.nil ?_
 replace H := H.self
 refine tg (sR (AtL.q Y (Quiet1.build (cs := [_, _, _, _, _, _]) hT Y Y Y Y Y Y) (AtL.e Y (cl (fun h => ref03uOf _ h _) H Y Tryz.call16 Y (fun w m hr hw => lift_ref03uOf _ w m hr _ hw)) ?_)))
 rintro _ _ ⟨v, h0u1, rfl, rfl, H⟩
 refine AtL.e Y (EffX.allocP (cs := [_, _, _, _, _, _]) hT Y Y H) ?_
 rintro _ _ ⟨b_2, _, rfl, rfl, _, H⟩
 replace H := H.self
 refine AtL.e Y (EffX.storeSP (i := 0) (qv := [(_, [_, _, _, _, _, _]), (_, [_, _, _, _, _, _]), (_, [_, _, _, _])]) hT Y Y Y Y Y Y Y Y Y Y) ?_
 rintro _ _ rfl
 refine ng (AtC.seq (sR (pu hT 1 Y (ng (AtC.block ?_)))))
 refine AtC.loopM (fun (s0 : Int × Bool × Sl × Sl × Bool × Sl × Sl) => [(6, Value.int .i64 s0.1)]) (fun (s0 : Int × Bool × Sl × Sl × Bool × Sl × Sl) => [(b_2, [Value.bool s0.2.1, Sl.toV s0.2.2.1, Sl.toV s0.2.2.2.1, Value.bool s0.2.2.2.2.1, Sl.toV s0.2.2.2.2.2.1, Sl.toV s0.2.2.2.2.2.2])]) [1, 2, 4, 5] [6, 1, 2, 4, 5] [1, 2] [0, 1, 2] H Y Y Y (by decide) Y (fun Kp1 s0 h0u3 H Q1 HK1 => ?_)
 refine AtC.seq (sR (pu hT 2 Y (AtL.q Y (lP hT 2 Y) (pu hT 2 Y (ng ?_)))))
 refine AtC.condB H Y (fun H => ?_) (fun H => ?_)
 refine AtC.skip (tg (AtC.seq (AtC.block ?_)))
 obtain ⟨a_, hc1, hd1, H⟩ := H
 obtain ⟨v_1, hc2, H⟩ := H
 obtain ⟨a_1_, hc3, hd3, H⟩ := H
 obtain ⟨v_2, hc4, H⟩ := H
 obtain ⟨a_2_, hc5, hd5, H⟩ := H
 obtain ⟨v_3, hc6, H⟩ := H
 apply AtC.stages [7, 17, 18, 19, 20] [[], [], [], [], [], [], [], [], [], [], [], [], [], [], [], [], [], [7], [7, 17], [7, 17, 18], [7, 17, 18, 19]] [[], [], [1], [], [1, 2, 3], [1, 2, 3, 4], [1, 2, 3, 4, 5], [1, 2, 3, 4, 5, 6], [], [], [9], [], [9, 10, 11], [9, 10, 11, 12], [9, 10, 11, 12, 13], [8, 9, 10, 11, 12, 13, 14], [8, 9, 10, 11, 12, 13, 14, 15], [1, 2, 3, 4, 5, 6, 7, 8, 9, 10, 11, 12, 13, 14, 15, 16], [1, 2, 3, 4, 5, 6, 7, 8, 9, 10, 11, 12, 13, 14, 15, 16, 17], [0, 1, 2, 3, 4, 5, 6, 7, 8, 9, 10, 11, 12, 13, 14, 15, 16, 17, 18], [0, 1, 2, 3, 4, 5, 6, 7, 8, 9, 10, 11, 12, 13, 14, 15, 16, 17, 18, 19]] hmix (by kernel_rfl) [(16, _), (17, _), (18, _), (19, _), (20, _), (21, _), (22, _), (24, _), (25, _), (26, _), (27, _), (28, _), (29, _), (30, _), (31, _), (32, _)] Y 5 Y
 refine Stg.go [0, 1, 2, 3, 4, 5, 6, 8, 9, 10, 11, 12, 13, 14, 15, 16] [7] Y Y (qq Y (lS hT 0 [_, _, _, _, _, _] Y Y Y Y Y Y Y Y) Y (qp hT Y (qq Y (lP hT 2 Y) Y (qp hT Y (qq Y (Quiet1.idxS hT Y Y Y Y Y hc1 hd1) Y (qp hT Y (qq Y (Quiet1.loadS hT Y Y Y Y hc2) Y (qp hT Y (qp hT Y (qq Y (lP hT 2 Y) Y (qp hT Y (qq Y (Quiet1.idxS hT Y Y Y Y Y hc3 hd3) Y (qp hT Y (qq Y (Quiet1.load hT Y Y Y hc4) Y (qq Y (Quiet1.idxS hT Y Y Y Y Y hc5 hd5) Y (qq Y (Quiet1.loadS hT Y Y Y Y hc6) Y QAll.nil)))))))))))))))) ?_
 refine EAll.cons ?_ EAll.nil
 refine EOp.e Y Y Y (cl (fun h => ref02uOf _ h _) H Y Tryz.call36 Y (fun w m hr hw => lift_ref02uOf _ w m hr _ hw)) ?_
 rintro _ _ ⟨v_4, h0u4, rfl, rfl, H⟩
 obtain ⟨hc7, H⟩ := H
 obtain ⟨hc8, H⟩ := H
 apply Stg.next [(23, _)] Y Y
 refine Stg.go [0, 8, 9, 10, 11, 12, 13, 14, 15, 16] [17] Y Y (qq Y (lS hT 0 [_, _, _, _, _, _] Y Y Y Y Y Y Y Y) Y (qp hT Y (qp hT Y (qq Y (lP hT 2 Y) Y (qp hT Y (qq Y (Quiet1.idxS hT Y Y Y Y Y hc3 hd3) Y (qp hT Y (qq Y (Quiet1.load hT Y Y Y hc7) Y (qq Y (Quiet1.idxS hT Y Y Y Y Y hc5 hd5) Y (qq Y (Quiet1.loadS hT Y Y Y Y hc8) Y QAll.nil)))))))))) ?_
 refine EAll.cons ?_ EAll.nil
 refine EOp.e Y Y Y (cl (fun h => ref03uOf _ h _) H Y Tryz.call16 Y (fun w m hr hw => lift_ref03uOf _ w m hr _ hw)) ?_
 rintro _ _ ⟨v_5, h0u5, rfl, rfl, H⟩
 apply Stg.next [(33, _)] Y Y
 refine Stg.go [0] [18] Y Y (qq Y (lS hT 0 [_, _, _, _, _, _] Y Y Y Y Y Y Y Y) Y QAll.nil) ?_
 refine EAll.cons ?_ EAll.nil
 refine EOp.e Y Y Y (cl (fun h => ref03uScale _ _ h _) H Y Tryz.call127 Y (fun w m hr hw => lift_ref03uScale _ _ w m hr _ hw)) ?_
 rintro _ _ ⟨v_6, h0u6, rfl, rfl, H⟩
 apply Stg.next [(34, _)] Y Y
 refine Stg.go [0] [19] Y Y (qq Y (lS hT 0 [_, _, _, _, _, _] Y Y Y Y Y Y Y Y) Y QAll.nil) ?_
 refine EAll.cons ?_ EAll.nil
 refine EOp.e Y Y Y (cl (fun h => ref03uAdd _ _ h _) H Y Tryz.call126 Y (fun w m hr hw => lift_ref03uAdd _ _ w m hr _ hw)) ?_
 rintro _ _ ⟨v_7, h0u7, rfl, rfl, H⟩
 apply Stg.next [(35, _)] Y Y
 refine Stg.go [] [20] Y Y QAll.nil ?_
 refine EAll.cons ?_ EAll.nil
 refine EOp.e Y Y Y (EffX.storeSP (i := 0) (qv := [(_, [_, _, _, _, _, _]), (_, [_, _, _, _, _, _]), (_, [_, _, _, _])]) hT Y Y Y Y Y Y Y Y Y Y) ?_
 rintro _ _ rfl
 apply Stg.next [] Y Y
 refine Stg.fin [] Y Y QAll.nil (AtE.blk_n (tg (AtC.region (pu hT 3 Y ?_))))
 replace H := H _ rfl
 refine AtL.nil ?_
 exact AtE.then_n ((HK1 _ _ H).pickP (ts := [6, 1, 2, 4, 5]) (is := [0, 1, 2]) Y Y (by decide) Y)
 refine AtC.exit (AtE.then_x (AtE.then_x (AtE.blk_hit (tg (sR ?_)))))
 refine AtL.q Y (lS hT 0 [_, _, _, _, _, _] Y Y Y Y Y Y Y Y) (AtL.e Y (EffX.storeSP (i := 1) (qv := [(_, [_, _, _, _, _, _]), (_, [_, _, _, _, _, _]), (_, [_, _, _, _])]) hT Y Y Y Y Y Y Y Y Y Y) ?_)
 rintro _ _ rfl
 refine ng (AtC.ret ?_)
 exact AtE.retN (rs := [.cell 4 59]) Y (ResAll.cons (ResAt.cellSP (i := 1) (l := [_, _, _, _, _, _]) hT Y Y Y Y Y Y Y) ResAll.nil) Y H
theorem lift_ref02uNeg (x0 : Bool × Sl × Sl) (w : World) (m : Heap) (hr : Rel ⟨m, []⟩ w.heap) (S : (Bool × Sl × Sl) → Heap → Prop) (H : ref02uNeg x0 m S) :
 Calls Tryz.prog 93 #[Value.agg (C_bool_sl_sl x0).toArray] w (Post ⟨w, m⟩ (fun r => Value.agg (C_bool_sl_sl r).toArray) S) := by
 refine Calls.lift (args := [Value.agg (C_bool_sl_sl x0).toArray]) Tryz.func93 Y Tryz.ntmps93 (Nat.le_of_ble_eq_true Y) hr (ref02uNeg x0 m S) H (fun H => ?_)
 refine AtC.pick (ts := [0]) Y ?_
 unfold ref02uNeg at H
 refine sR (AtL.e Y (EffX.boxP (cs := [_, _, _]) Y Y Y H) ?_)
 rintro _ _ ⟨b, _, rfl, rfl, _, H⟩
 refine AtL.e Y (EffX.allocP (cs := [_, _, _]) hT Y Y H) ?_
 rintro _ _ ⟨b_1, _, rfl, rfl, _, H⟩
 refine AtL.nil ?_
 replace H := H.self
 refine tg ?_
 refine AtC.joinSeq (β := Unit) (fun (t0 : Bool × Sl × Sl) (bb : Unit) => []) (fun (t0 : Bool × Sl × Sl) (bb : Unit) => [(b_1, [Value.bool t0.1, Sl.toV t0.2.1, Sl.toV t0.2.2])]) [2] [] H Y Y (fun t0 bb h0u1 H => ?_) (fun J1 H HK1 => ?_)
 refine AtC.ret ?_
 exact AtE.retN (rs := [.cell 2 55]) Y (ResAll.cons (ResAt.cellSP (i := 0) (l := [_, _, _]) hT Y Y Y Y Y Y Y) ResAll.nil) Y H
 refine AtC.region (pu hT 1 Y (AtL.q Y (lP hT 1 Y) (pu hT 2 Y ?_)))
 refine AtL.splitB (t := 6) H Y (fun H => ?_) (fun H => ?_)
 refine ys Y (pu hT 1 Y (ys Y (AtL.q Y (lP hT 1 Y) (ys Y (pu hT 1 Y ?_)))))
 refine ys Y (pu hT 1 Y (pu hT 2 Y (AtL.q Y (lP hT 1 Y) (pu hT 1 Y (AtL.q Y (lP hT 1 Y) ?_)))))
 refine AtL.q Y (Quiet1.build (cs := [_, _, _]) hT Y Y Y Y Y Y) (AtL.e Y (EffX.storeSP (i := 0) (qv := [(_, [_, _, _]), (_, [_, _, _])]) hT Y Y Y Y Y Y Y Y Y Y) ?_)
 rintro _ _ rfl
 refine AtL.nil ?_
 exact AtE.then_n ((HK1 _ () _ H).pickP (ts := [2]) (is := [0]) Y Y (by decide) Y)
 refine nf Y (nf Y (nf Y (nf Y (pu hT 2 Y (AtL.q Y (lP hT 1 Y) ?_)))))
 refine pu hT 1 Y (AtL.q Y (lP hT 1 Y) (AtL.q Y (Quiet1.build (cs := [_, _, _]) hT Y Y Y Y Y Y) (AtL.e Y (EffX.storeSP (i := 0) (qv := [(_, [_, _, _]), (_, [_, _, _])]) hT Y Y Y Y Y Y Y Y Y Y) ?_)))
 rintro _ _ rfl
 refine AtL.nil ?_
 exact AtE.then_n ((HK1 _ () _ H).pickP (ts := [2]) (is := [0]) Y Y (by decide) Y)
theorem lift_ref02uCmp (x0 : Bool × Sl × Sl) (y : Bool × Sl × Sl) (w : World) (m : Heap) (hr : Rel ⟨m, []⟩ w.heap) (S : Int → Heap → Prop) (H : ref02uCmp x0 y m S) :
 Calls Tryz.prog 37 #[Value.agg (C_bool_sl_sl x0).toArray, Value.agg (C_bool_sl_sl y).toArray] w (Post ⟨w, m⟩ (Value.int .i64) S) := by
 refine Calls.lift (args := [Value.agg (C_bool_sl_sl x0).toArray, Value.agg (C_bool_sl_sl y).toArray]) Tryz.func37 Y Tryz.ntmps37 (Nat.le_of_ble_eq_true Y) hr (ref02uCmp x0 y m S) H (fun H => ?_)
 refine AtC.pick (ts := [0, 1]) Y ?_
 unfold ref02uCmp at H
 refine sR (AtL.e Y (EffX.boxP (cs := [_, _, _]) Y Y Y H) ?_)
 rintro _ _ ⟨b, _, rfl, rfl, _, H⟩
 refine AtL.e Y (EffX.boxP (cs := [_, _, _]) Y Y Y H) ?_
 rintro _ _ ⟨b_1, _, rfl, rfl, _, H⟩
 replace H := H.self
 refine pu hT 1 Y (ng ?_)
 refine AtC.joinSeq (β := Nat) (fun (t0 : Bool × Sl × Sl) (bb : Nat) => [(5, Value.pointer (some ⟨bb, 0, none⟩))]) (fun (t0 : Bool × Sl × Sl) (bb : Nat) => [(bb, [Value.bool t0.1, Sl.toV t0.2.1, Sl.toV t0.2.2])]) [] [] H Y Y (fun t0 bb h0u1 H => ?_) (fun J1 H HK1 => ?_)
 refine AtC.seq (sR (pu hT 1 Y (AtL.q Y (lP hT 0 Y) (pu hT 2 Y (ng ?_)))))
 refine AtC.condB H Y (fun H => ?_) (fun H => ?_)
 refine sR (pu hT 1 Y (ng (AtC.ret (AtE.then_r ?_))))
 exact r1 4 Y Y Y H
 refine AtC.skip (tg (AtC.seq (sR (pu hT 1 Y (AtL.q Y (lP hT 0 Y) ?_)))))
 refine ng ?_
 refine AtC.condB H Y (fun H => ?_) (fun H => ?_)
 refine sR (pu hT 1 Y (ng (AtC.ret (AtE.then_r ?_))))
 exact r1 4 Y Y Y H
 refine AtC.skip (tg (sR (pu hT 1 Y (ng (AtC.ret ?_)))))
 exact r1 4 Y Y Y H
 apply AtC.stages [2, 3, 4, 5] [[], [], [], [2], [], [2, 3, 4]] [[], [], [1], [0, 1, 2], [], [0, 1, 2, 3, 4]] hmix (by kernel_rfl) [(6, _), (7, _)] Y 4 Y
 refine Stg.go [0, 1] [2, 4] Y Y (qq Y (lS hT 1 [_, _, _] Y Y Y Y Y Y Y Y) Y (qq Y (lS hT 0 [_, _, _] Y Y Y Y Y Y Y Y) Y QAll.nil)) ?_
 refine EAll.cons ?_ ?_
 replace H := H.self
 refine EOp.e Y Y Y (cl (fun h => ref02uNeg _ h _) H Y Tryz.call93 Y (fun w m hr hw => lift_ref02uNeg _ w m hr _ hw)) ?_
 rintro _ _ ⟨v, h0u3, rfl, rfl, H⟩
 apply Stg.next [(8, _)] Y Y
 refine Stg.go [0] [3, 4] Y Y (qq Y (lS hT 1 [_, _, _] Y Y Y Y Y Y Y Y) Y QAll.nil) ?_
 refine EAll.cons ?_ ?_
 replace H := H.self
 refine EOp.e Y Y Y (cl (fun h => ref02uAdd _ _ h _) H Y Tryz.call50 Y (fun w m hr hw => lift_ref02uAdd _ _ w m hr _ hw)) ?_
 rintro _ _ ⟨v_1, h0u5, rfl, rfl, H⟩
 apply Stg.next [(9, _)] Y Y
 refine Stg.go [] [4] Y Y QAll.nil ?_
 refine EAll.cons ?_ EAll.nil
 refine EOp.e Y Y Y (EffX.allocP (cs := [_, _, _]) hT Y Y H) ?_
 rintro _ _ ⟨b_2, _, rfl, rfl, he1, H⟩
 apply Stg.next [(5, _)] Y Y
 refine Stg.go [] [5] Y Y QAll.nil ?_
 refine EAll.cons ?_ EAll.nil
 refine EOp.e Y Y Y (EffX.storeSP (i := 0) (qv := [(_, [_, _, _]), (_, [_, _, _]), (_, [_, _, _])]) hT Y Y Y Y Y Y Y Y Y Y) ?_
 rintro _ _ rfl
 apply Stg.next [] Y Y
 refine Stg.fin [] Y Y QAll.nil ?_
 replace H := H.self
 exact AtE.then_n ((HK1 _ b_2 _ H).pickP (ts := [5]) (is := [0]) Y Y (by decide) Y)
 refine EAll.cons ?_ EAll.nil
 refine EOp.e Y Y Y (EffX.allocP (cs := [_, _, _]) hT Y Y H) ?_
 rintro _ _ ⟨b_3, _, rfl, rfl, he2, H⟩
 apply Stg.next [(5, _)] Y Y
 refine Stg.go [0] [3] Y Y (qq Y (lS hT 2 [_, _, _] Y Y Y Y Y Y Y Y) Y QAll.nil) ?_
 refine EAll.cons ?_ EAll.nil
 replace H := H.self
 refine EOp.e Y Y Y (cl (fun h => ref02uAdd _ _ h _) H Y Tryz.call50 Y (fun w m hr hw => lift_ref02uAdd _ _ w m hr _ hw)) ?_
 rintro _ _ ⟨v_2, h0u7, rfl, rfl, H⟩
 apply Stg.next [(9, _)] Y Y
 refine Stg.go [] [5] Y Y QAll.nil ?_
 refine EAll.cons ?_ EAll.nil
 refine EOp.e Y Y Y (EffX.storeSP (i := 0) (qv := [(_, [_, _, _]), (_, [_, _, _]), (_, [_, _, _])]) hT Y Y Y Y Y Y Y Y Y Y) ?_
 rintro _ _ rfl
 apply Stg.next [] Y Y
 refine Stg.fin [] Y Y QAll.nil ?_
 replace H := H.self
 exact AtE.then_n ((HK1 _ b_3 _ H).pickP (ts := [5]) (is := [0]) Y Y (by decide) Y)
 refine EAll.cons ?_ EAll.nil
 refine EOp.e Y Y Y (EffX.allocP (cs := [_, _, _]) hT Y Y H) ?_
 rintro _ _ ⟨b_4, _, rfl, rfl, he3, H⟩
 apply Stg.next [(5, _)] Y Y
 refine Stg.go [0, 1] [2] Y Y (qq Y (lS hT 2 [_, _, _] Y Y Y Y Y Y Y Y) Y (qq Y (lS hT 1 [_, _, _] Y Y Y Y Y Y Y Y) Y QAll.nil)) ?_
 refine EAll.cons ?_ EAll.nil
 replace H := H.self
 refine EOp.e Y Y Y (cl (fun h => ref02uNeg _ h _) H Y Tryz.call93 Y (fun w m hr hw => lift_ref02uNeg _ w m hr _ hw)) ?_
 rintro _ _ ⟨v_3, h0u9, rfl, rfl, H⟩
 apply Stg.next [(8, _)] Y Y
 refine Stg.go [0] [3] Y Y (qq Y (lS hT 2 [_, _, _] Y Y Y Y Y Y Y Y) Y QAll.nil) ?_
 refine EAll.cons ?_ EAll.nil
 replace H := H.self
 refine EOp.e Y Y Y (cl (fun h => ref02uAdd _ _ h _) H Y Tryz.call50 Y (fun w m hr hw => lift_ref02uAdd _ _ w m hr _ hw)) ?_
 rintro _ _ ⟨v_4, h0u11, rfl, rfl, H⟩
 apply Stg.next [(9, _)] Y Y
 refine Stg.go [] [5] Y Y QAll.nil ?_
 refine EAll.cons ?_ EAll.nil
 refine EOp.e Y Y Y (EffX.storeSP (i := 0) (qv := [(_, [_, _, _]), (_, [_, _, _]), (_, [_, _, _])]) hT Y Y Y Y Y Y Y Y Y Y) ?_
 rintro _ _ rfl
 apply Stg.next [] Y Y
 refine Stg.fin [] Y Y QAll.nil ?_
 replace H := H.self
 exact AtE.then_n ((HK1 _ b_4 _ H).pickP (ts := [5]) (is := [0]) Y Y (by decide) Y)
theorem lift_ref03uCmp (x0 : Bool × Sl × Sl × Bool × Sl × Sl) (y : Bool × Sl × Sl × Bool × Sl × Sl) (w : World) (m : Heap) (hr : Rel ⟨m, []⟩ w.heap) (S : Int → Heap → Prop) (H : ref03uCmp x0 y m S) :
 Calls Tryz.prog 15 #[Value.agg (C_bool_sl_sl_bool_sl_sl x0).toArray, Value.agg (C_bool_sl_sl_bool_sl_sl y).toArray] w (Post ⟨w, m⟩ (Value.int .i64) S) := by
 refine Calls.lift (args := [Value.agg (C_bool_sl_sl_bool_sl_sl x0).toArray, Value.agg (C_bool_sl_sl_bool_sl_sl y).toArray]) Tryz.func15 Y Tryz.ntmps15 (Nat.le_of_ble_eq_true Y) hr (ref03uCmp x0 y m S) H (fun H => ?_)
 refine AtC.pick (ts := [0, 1]) Y ?_
 unfold ref03uCmp at H
 refine sR (AtL.e Y (EffX.boxP (cs := [_, _, _, _, _, _]) Y Y Y H) ?_)
 rintro _ _ ⟨b, _, rfl, rfl, _, H⟩
 refine AtL.e Y (EffX.boxP (cs := [_, _, _, _, _, _]) Y Y Y H) ?_
 rintro _ _ ⟨b_1, _, rfl, rfl, _, H⟩
 replace H := H.self
 refine pu hT 1 Y (ng (sR (pu hT 1 Y (AtL.q Y (lS hT 1 [_, _, _] Y Y Y Y Y Y Y Y) (pu hT 1 Y ?_)))))
 refine AtL.q Y (lS hT 0 [_, _, _] Y Y Y Y Y Y Y Y) (AtL.e Y (cl (fun h => ref02uCmp _ _ h _) H Y Tryz.call37 Y (fun w m hr hw => lift_ref02uCmp _ _ w m hr _ hw)) ?_)
 rintro _ _ ⟨v, h0u1, rfl, rfl, H⟩
 refine pu hT 1 Y (ng ?_)
 refine AtC.joinSeq (β := Unit) (fun (t0 : Int) (bb : Unit) => [(5, Value.int .i64 t0)]) (fun (t0 : Int) (bb : Unit) => []) [] [] H Y Y (fun t0 bb h0u2 H => ?_) (fun J1 H HK1 => ?_)
 refine sR (pu hT 2 Y (ng (AtC.ret ?_)))
 exact r1 4 Y Y Y H
 refine sR (pu hT 2 Y (ng ?_))
 refine AtC.condB H Y (fun H => ?_) (fun H => ?_)
 refine AtC.region (pu hT 1 Y (AtL.q Y (lS hT 1 [_, _, _] Y Y Y Y Y Y Y Y) (pu hT 1 Y (AtL.q Y (lS hT 0 [_, _, _] Y Y Y Y Y Y Y Y) (AtL.e Y (cl (fun h => ref02uCmp _ _ h _) H Y Tryz.call37 Y (fun w m hr hw => lift_ref02uCmp _ _ w m hr _ hw)) ?_)))))
 rintro _ _ ⟨v_1, h0u3, rfl, rfl, H⟩
 refine pu hT 1 Y (AtL.nil ?_)
 exact AtE.then_n ((HK1 _ () _ H).pickP (ts := [5]) (is := []) Y Y (by decide) Y)
 refine AtC.skip ?_
 exact AtE.then_n ((HK1 _ () _ H).pickP (ts := [5]) (is := []) Y Y (by decide) Y)
end Go.Proofs.YtjppcjbmepcneaaGreatDoor

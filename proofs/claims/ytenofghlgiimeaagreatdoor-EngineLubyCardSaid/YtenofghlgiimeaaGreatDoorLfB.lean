/-
  The deep code does what the functions of the shallow text say: printed by lift.py.
-/
import Derived.Test.YtenofghlgiimeaaGreatDoorLfA
set_option linter.unusedVariables false
set_option linter.unusedSimpArgs false
namespace Go.Proofs.YtenofghlgiimeaaGreatDoor
open Go Go.Lift Go.Sh
set_option maxRecDepth 100000
set_option maxHeartbeats 40000000
attribute [local irreducible] Calls AtL AtC AtE AtD Eff Quiet1 Stg qAt QAll eAt EAll nextK Code.wp


theorem lift_queue_New (n : Int) (w : World) (m : Heap) (hr : Rel ⟨m, []⟩ w.heap) (S : (Sl × Sl) → Heap → Prop) (H : queue_New n m S) :
    Calls Tryz.prog 12 #[Value.int .i64 n] w (Post ⟨w, m⟩ (fun r => Value.agg (C_sl_sl r).toArray) S) := by
  refine Calls.lift (args := [Value.int .i64 n]) Tryz.func12 rfl Tryz.ntmps12 (Nat.le_of_ble_eq_true rfl) hr (queue_New n m S) H (fun H => ?_)
  refine AtC.pick (ts := [0]) rfl ?_
  unfold queue_New at H
  refine AtC.seqR ?_
  refine AtL.e rfl (EffX.allocP (cs := [_, _]) hT rfl rfl H) ?_
  rintro _ _ ⟨b, _, rfl, rfl, _, H⟩
  refine AtL.nil ?_
  replace H := H.self
  refine AtE.then_n (AtE.go ?_)
  refine AtC.seqR ?_
  refine AtL.pures hT 4 _ _ _ _ rfl ?_
  replace H := H _ rfl
  refine AtL.nil ?_
  refine AtE.then_n (AtE.go ?_)
  refine AtC.seqR ?_
  refine AtL.pures hT 1 _ _ _ _ rfl ?_
  refine AtL.e rfl (EffX.mkS hT rfl rfl rfl rfl rfl rfl rfl rfl (by decide) H) ?_
  rintro _ _ ⟨v, h0u1, rfl, rfl, H⟩
  refine AtL.q rfl (Quiet1.build (cs := [_, _]) hT rfl rfl rfl rfl rfl rfl) ?_
  refine AtL.e rfl (EffX.allocP (cs := [_, _]) hT rfl rfl H) ?_
  rintro _ _ ⟨b_1, _, rfl, rfl, _, H⟩
  replace H := H.self
  refine AtL.e rfl (EffX.storeSP (i := 0) (qv := [(_, [_, _]), (_, [_, _])]) hT rfl rfl rfl rfl rfl rfl rfl rfl rfl rfl) ?_
  rintro _ _ rfl
  refine AtL.nil ?_
  refine AtE.then_n (AtE.go ?_)
  refine AtC.seq ?_
  refine AtC.seqR ?_
  refine AtL.pures hT 2 _ _ _ _ rfl ?_
  refine AtL.nil ?_
  refine AtE.then_n (AtE.go ?_)
  refine AtC.block ?_
  refine AtC.loopM (fun (s0 : Int × Sl × Sl) => [(12, Value.int .i64 s0.1)]) (fun (s0 : Int × Sl × Sl) => [(b_1, [Sl.toV s0.2.1, Sl.toV s0.2.2])]) [2, 3, 11] [12, 2, 3, 11] [1] [0, 1] H (by exact rfl) (by exact rfl) (by exact rfl) (by decide) (by exact rfl) (fun Kp1 s0 h0u3 H Q1 HK1 => ?_)
  refine AtC.seqR ?_
  refine AtL.pures hT 1 _ _ _ _ rfl ?_
  refine AtL.nil ?_
  refine AtE.then_n (AtE.go ?_)
  refine AtC.seq ?_
  refine AtC.condB H rfl (fun H => ?_) (fun H => ?_)
  ·
   refine AtC.skip ?_
   refine AtE.then_n (AtE.go ?_)
   refine AtC.seq ?_
   refine AtC.block ?_
   refine AtC.seqR ?_
   refine AtL.pures hT 2 _ _ _ _ rfl ?_
   refine AtL.nil ?_
   refine AtE.then_n (AtE.go ?_)
   refine AtC.region ?_
   refine AtL.pures hT 1 _ _ _ _ rfl ?_
   refine AtL.q rfl (Quiet1.loadP (i := 0) hT rfl rfl rfl rfl rfl rfl) ?_
   refine AtL.pures hT 1 _ _ _ _ rfl ?_
   refine AtLX.bs (hT := hT) (cs := [_]) H rfl rfl rfl rfl rfl rfl rfl rfl rfl (fun a h0u4 H => ?_)
   refine AtL.e rfl (EffX.appendS (s := _) (u := _) hT rfl rfl rfl rfl rfl rfl rfl rfl rfl rfl (by decide) H) ?_
   rintro _ _ ⟨v_2, h0u5, rfl, rfl, H⟩
   refine AtL.pures hT 1 _ _ _ _ rfl ?_
   refine AtL.e rfl (EffX.storeP (i := 0) (qv := [(_, [_, _]), (_, [_, _])]) hT rfl rfl rfl rfl rfl rfl rfl rfl rfl) ?_
   rintro _ _ rfl
   refine AtL.nil ?_
   refine AtE.blk_n ?_
   refine AtE.then_n (AtE.go ?_)
   refine AtC.region ?_
   refine AtL.pures hT 2 _ _ _ _ rfl ?_
   refine AtL.nil ?_
   exact AtE.then_n ((HK1 _ _ H).pickP (ts := [12, 2, 3, 11]) (is := [0, 1]) rfl rfl (by decide) rfl)
  ·
   refine AtC.exit ?_
   refine AtE.then_x ?_
   refine AtE.then_x ?_
   refine AtE.blk_hit ?_
   refine AtE.then_n (AtE.go ?_)
   refine AtC.seqR ?_
   refine AtL.q rfl (Quiet1.loadSP (i := 0) (l := [_, _]) hT rfl rfl rfl rfl rfl rfl rfl rfl) ?_
   refine AtL.e rfl (EffX.storeSP (i := 1) (qv := [(_, [_, _]), (_, [_, _])]) hT rfl rfl rfl rfl rfl rfl rfl rfl rfl rfl) ?_
   rintro _ _ rfl
   refine AtL.nil ?_
   refine AtE.then_n (AtE.go ?_)
   refine AtC.ret ?_
   exact AtE.retN (rs := [.cell 2 37]) rfl (ResAll.cons (ResAt.cellSP (i := 1) (l := [_, _]) hT rfl rfl rfl rfl rfl rfl rfl) ResAll.nil) rfl H

theorem lift_slices_Clone_api_Poly_api_Poly (s0 : Sl) (w : World) (m : Heap) (hr : Rel ⟨m, []⟩ w.heap) (S : Sl → Heap → Prop) (H : slices_Clone_api_Poly_api_Poly s0 m S) :
    Calls Tryz.prog 34 #[Sl.toV s0] w (Post ⟨w, m⟩ Sl.toV S) := by
  refine Calls.lift (args := [Sl.toV s0]) Tryz.func34 rfl Tryz.ntmps34 (Nat.le_of_ble_eq_true rfl) hr (slices_Clone_api_Poly_api_Poly s0 m S) H (fun H => ?_)
  refine AtC.pick (ts := [0]) rfl ?_
  unfold slices_Clone_api_Poly_api_Poly at H
  refine AtC.seqR ?_
  refine AtL.pures hT 1 _ _ _ _ rfl ?_
  refine AtL.nil ?_
  refine AtE.then_n (AtE.go ?_)
  refine AtC.seq ?_
  refine AtC.seqR ?_
  refine AtL.pures hT 1 _ _ _ _ rfl ?_
  refine AtL.q rfl (Quiet1.eqNilS hT rfl rfl rfl rfl) ?_
  refine AtL.nil ?_
  refine AtE.then_n (AtE.go ?_)
  refine AtC.condB H rfl (fun H => ?_) (fun H => ?_)
  ·
   refine AtC.seqR ?_
   refine AtL.pures hT 1 _ _ _ _ rfl ?_
   refine AtL.nil ?_
   refine AtE.then_n (AtE.go ?_)
   refine AtC.ret ?_
   refine AtE.then_r ?_
   exact AtE.retN (rs := [.tmp 2]) rfl (ResAll.cons (ResAt.tmp rfl) ResAll.nil) rfl H
  ·
   refine AtC.skip ?_
   refine AtE.then_n (AtE.go ?_)
   refine AtC.seqR ?_
   refine AtLX.bs (hT := hT) (cs := []) H rfl rfl rfl rfl rfl rfl rfl rfl rfl (fun a h0 H => ?_)
   refine AtL.pures hT 1 _ _ _ _ rfl ?_
   refine AtL.e rfl (EffX.appendS (s := _) (u := _) hT rfl rfl rfl rfl rfl rfl rfl rfl rfl rfl (by decide) H) ?_
   rintro _ _ ⟨v_1, h0u1, rfl, rfl, H⟩
   refine AtL.pures hT 1 _ _ _ _ rfl ?_
   refine AtL.nil ?_
   refine AtE.then_n (AtE.go ?_)
   refine AtC.ret ?_
   exact AtE.retN (rs := [.tmp 2]) rfl (ResAll.cons (ResAt.tmp rfl) ResAll.nil) rfl H

theorem lift_tableau_New (p : Int × Int × Sl × Sl × Sl × Sl × Sl) (w : World) (m : Heap) (hr : Rel ⟨m, []⟩ w.heap) (S : (Sl × Sl × Sl × Sl × Sl) → Heap → Prop) (H : tableau_New p m S) :
    Calls Tryz.prog 13 #[Value.agg (C_i64ui64usl_sl_sl_sl_sl p).toArray] w (Post ⟨w, m⟩ (fun r => Value.agg (C_sl_sl_sl_sl_sl r).toArray) S) := by
  refine Calls.lift (args := [Value.agg (C_i64ui64usl_sl_sl_sl_sl p).toArray]) Tryz.func13 rfl Tryz.ntmps13 (Nat.le_of_ble_eq_true rfl) hr (tableau_New p m S) H (fun H => ?_)
  refine AtC.pick (ts := [0]) rfl ?_
  unfold tableau_New at H
  refine AtC.seqR ?_
  refine AtL.e rfl (EffX.boxP (cs := [_, _, _, _, _, _, _]) rfl rfl rfl H) ?_
  rintro _ _ ⟨b, _, rfl, rfl, _, H⟩
  refine AtL.e rfl (EffX.allocP (cs := [_, _, _, _, _]) hT rfl rfl H) ?_
  rintro _ _ ⟨b_1, _, rfl, rfl, _, H⟩
  refine AtL.nil ?_
  replace H := H.self
  refine AtE.then_n (AtE.go ?_)
  refine AtC.seqR ?_
  refine AtL.pures hT 1 _ _ _ _ rfl ?_
  refine AtL.q rfl (Quiet1.loadP (i := 1) hT rfl rfl rfl rfl rfl rfl) ?_
  refine AtL.pures hT 1 _ _ _ _ rfl ?_
  refine AtL.q rfl (Quiet1.loadP (i := 1) hT rfl rfl rfl rfl rfl rfl) ?_
  refine AtL.pures hT 3 _ _ _ _ rfl ?_
  replace H := H _ rfl
  refine AtL.nil ?_
  refine AtE.then_n (AtE.go ?_)
  refine AtC.seq ?_
  refine AtC.seqR ?_
  refine AtL.pures hT 1 _ _ _ _ rfl ?_
  refine AtL.q rfl (Quiet1.loadP (i := 1) hT rfl rfl rfl rfl rfl rfl) ?_
  refine AtL.pures hT 2 _ _ _ _ rfl ?_
  refine AtL.nil ?_
  refine AtE.then_n (AtE.go ?_)
  refine AtC.block ?_
  refine AtC.loopM (fun (s0 : Int × Sl × Sl × Sl × Sl × Sl) => [(14, Value.int .i64 s0.1)]) (fun (s0 : Int × Sl × Sl × Sl × Sl × Sl) => [(b_1, [Sl.toV s0.2.1, Sl.toV s0.2.2.1, Sl.toV s0.2.2.2.1, Sl.toV s0.2.2.2.2.1, Sl.toV s0.2.2.2.2.2])]) [1, 2, 3, 13] [14, 1, 2, 3, 13] [1] [0, 1] H (by exact rfl) (by exact rfl) (by exact rfl) (by decide) (by exact rfl) (fun Kp1 s0 h0u1 H Q1 HK1 => ?_)
  refine AtC.seqR ?_
  refine AtL.pures hT 1 _ _ _ _ rfl ?_
  refine AtL.nil ?_
  refine AtE.then_n (AtE.go ?_)
  refine AtC.seq ?_
  refine AtC.condB H rfl (fun H => ?_) (fun H => ?_)
  ·
   refine AtC.skip ?_
   refine AtE.then_n (AtE.go ?_)
   refine AtC.seq ?_
   refine AtC.block ?_
   refine AtC.seqR ?_
   refine AtL.pures hT 2 _ _ _ _ rfl ?_
   refine AtL.nil ?_
   refine AtE.then_n (AtE.go ?_)
   refine AtC.region ?_
   refine AtL.pures hT 1 _ _ _ _ rfl ?_
   refine AtL.q rfl (Quiet1.loadP (i := 0) hT rfl rfl rfl rfl rfl rfl) ?_
   refine AtL.pures hT 1 _ _ _ _ rfl ?_
   refine AtL.q rfl (Quiet1.loadP (i := 1) hT rfl rfl rfl rfl rfl rfl) ?_
   refine AtL.pures hT 2 _ _ _ _ rfl ?_
   refine AtLX.bs (hT := hT) (cs := [_]) H rfl rfl rfl rfl rfl rfl rfl rfl rfl (fun a h0u2 H => ?_)
   refine AtL.e rfl (EffX.appendS (s := _) (u := _) hT rfl rfl rfl rfl rfl rfl rfl rfl rfl rfl (by decide) H) ?_
   rintro _ _ ⟨v_1, h0u3, rfl, rfl, H⟩
   refine AtL.pures hT 1 _ _ _ _ rfl ?_
   refine AtL.e rfl (EffX.storeP (i := 0) (qv := [(_, [_, _, _, _, _]), (_, [_, _, _, _, _, _, _])]) hT rfl rfl rfl rfl rfl rfl rfl rfl rfl) ?_
   rintro _ _ rfl
   refine AtL.nil ?_
   refine AtE.blk_n ?_
   refine AtE.then_n (AtE.go ?_)
   refine AtC.region ?_
   refine AtL.pures hT 2 _ _ _ _ rfl ?_
   refine AtL.nil ?_
   exact AtE.then_n ((HK1 _ _ H).pickP (ts := [14, 1, 2, 3, 13]) (is := [0, 1]) rfl rfl (by decide) rfl)
  ·
   refine AtC.exit ?_
   refine AtE.then_x ?_
   refine AtE.then_x ?_
   refine AtE.blk_hit ?_
   refine AtE.then_n (AtE.go ?_)
   refine AtC.seqR ?_
   refine AtL.pures hT 1 _ _ _ _ rfl ?_
   refine AtL.q rfl (Quiet1.loadP (i := 1) hT rfl rfl rfl rfl rfl rfl) ?_
   refine AtL.e rfl (EffX.call (f := 34) (sh := fun h => slices_Clone_api_Poly_api_Poly _ h _) (H0 := H) rfl Tryz.call34 rfl (hl := fun w m hr hw => lift_slices_Clone_api_Poly_api_Poly _ w m hr _ hw)) ?_
   rintro _ _ ⟨v_2, h0u4, rfl, rfl, H⟩
   refine AtL.pures hT 1 _ _ _ _ rfl ?_
   refine AtL.e rfl (EffX.storeP (i := 0) (qv := [(_, [_, _, _, _, _]), (_, [_, _, _, _, _, _, _])]) hT rfl rfl rfl rfl rfl rfl rfl rfl rfl) ?_
   rintro _ _ rfl
   refine AtL.nil ?_
   refine AtE.then_n (AtE.go ?_)
   refine AtC.joinSeq (β := Unit) (fun (t0 : Sl × Sl × Sl × Sl × Sl) (bb : Unit) => []) (fun (t0 : Sl × Sl × Sl × Sl × Sl) (bb : Unit) => [(b_1, [Sl.toV t0.1, Sl.toV t0.2.1, Sl.toV t0.2.2.1, Sl.toV t0.2.2.2.1, Sl.toV t0.2.2.2.2])]) [2] [] H (by exact rfl) (by exact rfl) (fun t0 bb h0u5 H => ?_) (fun J2 H HK2 => ?_)
   ·
    refine AtC.seqR ?_
    refine AtL.q rfl (Quiet1.loadSP (i := 0) (l := [_, _, _, _, _]) hT rfl rfl rfl rfl rfl rfl rfl rfl) ?_
    refine AtL.e rfl (EffX.storeSP (i := 0) (qv := [(_, [_, _, _, _, _])]) hT rfl rfl rfl rfl rfl rfl rfl rfl rfl rfl) ?_
    rintro _ _ rfl
    refine AtL.nil ?_
    refine AtE.then_n (AtE.go ?_)
    refine AtC.ret ?_
    exact AtE.retN (rs := [.cell 2 41]) rfl (ResAll.cons (ResAt.cellSP (i := 0) (l := [_, _, _, _, _]) hT rfl rfl rfl rfl rfl rfl rfl) ResAll.nil) rfl H
   ·
    apply AtC.stages [1, 3, 5, 7, 9, 11] [[], [], [], [], [], [], [1], [1], [1, 3, 7], [1, 3, 7], [1, 3, 5, 7, 9], [1, 3, 5, 7, 9]] [[], [0], [], [2], [], [4], [0, 1], [0, 1, 6], [0, 1, 2, 3, 6, 7], [0, 1, 2, 3, 6, 7, 8], [0, 1, 2, 3, 4, 5, 6, 7, 8, 9], [0, 1, 2, 3, 4, 5, 6, 7, 8, 9, 10]] hmix (by kernel_rfl) [(31, _), (33, _), (35, _)] rfl 6 rfl
    refine Stg.go [0, 2, 4] [1, 3, 5] rfl rfl (QAll.cons (QOp.p hT rfl rfl rfl rfl rfl) (QAll.cons (QOp.p hT rfl rfl rfl rfl rfl) (QAll.cons (QOp.p hT rfl rfl rfl rfl rfl) QAll.nil))) ?_
    refine EAll.cons ?_ ?_
    ·
     replace H := H.1
     refine EOp.e rfl rfl rfl (EffX.mkS hT rfl rfl rfl rfl rfl rfl rfl rfl (by decide) H) ?_
     rintro _ _ ⟨v_3, h0u6, rfl, rfl, H⟩
     apply Stg.next [(32, _), (37, _)] rfl rfl
     refine Stg.go [2, 4, 6] [3, 5, 7] rfl rfl (QAll.cons (QOp.p hT rfl rfl rfl rfl rfl) (QAll.cons (QOp.p hT rfl rfl rfl rfl rfl) (QAll.cons (QOp.p hT rfl rfl rfl rfl rfl) QAll.nil))) ?_
     refine EAll.cons ?_ ?_
     ·
      replace H := H.1
      refine EOp.e rfl rfl rfl (EffX.mkS hT rfl rfl rfl rfl rfl rfl rfl rfl (by decide) H) ?_
      rintro _ _ ⟨v_4, h0u7, rfl, rfl, H⟩
      apply Stg.next [(34, _)] rfl rfl
      refine Stg.go [4, 6] [5, 7] rfl rfl (QAll.cons (QOp.p hT rfl rfl rfl rfl rfl) (QAll.cons (QOp.p hT rfl rfl rfl rfl rfl) QAll.nil)) ?_
      refine EAll.cons ?_ ?_
      ·
       refine EOp.e rfl rfl rfl (EffX.mkS hT rfl rfl rfl rfl rfl rfl rfl rfl (by decide) H) ?_
       rintro _ _ ⟨v_5, h0u8, rfl, rfl, H⟩
       apply Stg.next [(36, _)] rfl rfl
       refine Stg.go [6] [7] rfl rfl (QAll.cons (QOp.p hT rfl rfl rfl rfl rfl) QAll.nil) ?_
       refine EAll.cons ?_ EAll.nil
       refine EOp.e rfl rfl rfl (EffX.storeP (i := 0) (qv := [(_, [_, _, _, _, _]), (_, [_, _, _, _, _, _, _])]) hT rfl rfl rfl rfl rfl rfl rfl rfl rfl) ?_
       rintro _ _ rfl
       apply Stg.next [(38, _)] rfl rfl
       refine Stg.go [8] [9] rfl rfl (QAll.cons (QOp.p hT rfl rfl rfl rfl rfl) QAll.nil) ?_
       refine EAll.cons ?_ EAll.nil
       refine EOp.e rfl rfl rfl (EffX.storeP (i := 0) (qv := [(_, [_, _, _, _, _]), (_, [_, _, _, _, _, _, _])]) hT rfl rfl rfl rfl rfl rfl rfl rfl rfl) ?_
       rintro _ _ rfl
       apply Stg.next [(39, _)] rfl rfl
       refine Stg.go [10] [11] rfl rfl (QAll.cons (QOp.p hT rfl rfl rfl rfl rfl) QAll.nil) ?_
       refine EAll.cons ?_ EAll.nil
       refine EOp.e rfl rfl rfl (EffX.storeP (i := 0) (qv := [(_, [_, _, _, _, _]), (_, [_, _, _, _, _, _, _])]) hT rfl rfl rfl rfl rfl rfl rfl rfl rfl) ?_
       rintro _ _ rfl
       apply Stg.next [] rfl rfl
       refine Stg.fin [] rfl rfl QAll.nil ?_
       exact AtE.then_n ((HK2 _ () _ H).pickP (ts := [2]) (is := [0]) rfl rfl (by decide) rfl)
      refine EAll.cons ?_ EAll.nil
      refine EOp.e rfl rfl rfl (EffX.storeP (i := 0) (qv := [(_, [_, _, _, _, _]), (_, [_, _, _, _, _, _, _])]) hT rfl rfl rfl rfl rfl rfl rfl rfl rfl) ?_
      rintro _ _ rfl
      apply Stg.next [(38, _)] rfl rfl
      refine Stg.go [4, 8] [5, 9] rfl rfl (QAll.cons (QOp.p hT rfl rfl rfl rfl rfl) (QAll.cons (QOp.p hT rfl rfl rfl rfl rfl) QAll.nil)) ?_
      refine EAll.cons ?_ ?_
      ·
       refine EOp.e rfl rfl rfl (EffX.mkS hT rfl rfl rfl rfl rfl rfl rfl rfl (by decide) H) ?_
       rintro _ _ ⟨v_6, h0u9, rfl, rfl, H⟩
       apply Stg.next [(36, _)] rfl rfl
       refine Stg.go [8] [9] rfl rfl (QAll.cons (QOp.p hT rfl rfl rfl rfl rfl) QAll.nil) ?_
       refine EAll.cons ?_ EAll.nil
       refine EOp.e rfl rfl rfl (EffX.storeP (i := 0) (qv := [(_, [_, _, _, _, _]), (_, [_, _, _, _, _, _, _])]) hT rfl rfl rfl rfl rfl rfl rfl rfl rfl) ?_
       rintro _ _ rfl
       apply Stg.next [(39, _)] rfl rfl
       refine Stg.go [10] [11] rfl rfl (QAll.cons (QOp.p hT rfl rfl rfl rfl rfl) QAll.nil) ?_
       refine EAll.cons ?_ EAll.nil
       refine EOp.e rfl rfl rfl (EffX.storeP (i := 0) (qv := [(_, [_, _, _, _, _]), (_, [_, _, _, _, _, _, _])]) hT rfl rfl rfl rfl rfl rfl rfl rfl rfl) ?_
       rintro _ _ rfl
       apply Stg.next [] rfl rfl
       refine Stg.fin [] rfl rfl QAll.nil ?_
       exact AtE.then_n ((HK2 _ () _ H).pickP (ts := [2]) (is := [0]) rfl rfl (by decide) rfl)
      refine EAll.cons ?_ EAll.nil
      refine EOp.e rfl rfl rfl (EffX.storeP (i := 0) (qv := [(_, [_, _, _, _, _]), (_, [_, _, _, _, _, _, _])]) hT rfl rfl rfl rfl rfl rfl rfl rfl rfl) ?_
      rintro _ _ rfl
      apply Stg.next [] rfl rfl
      refine Stg.go [4] [5] rfl rfl (QAll.cons (QOp.p hT rfl rfl rfl rfl rfl) QAll.nil) ?_
      refine EAll.cons ?_ EAll.nil
      refine EOp.e rfl rfl rfl (EffX.mkS hT rfl rfl rfl rfl rfl rfl rfl rfl (by decide) H) ?_
      rintro _ _ ⟨v_7, h0u10, rfl, rfl, H⟩
      apply Stg.next [(36, _), (39, _)] rfl rfl
      refine Stg.go [10] [11] rfl rfl (QAll.cons (QOp.p hT rfl rfl rfl rfl rfl) QAll.nil) ?_
      refine EAll.cons ?_ EAll.nil
      refine EOp.e rfl rfl rfl (EffX.storeP (i := 0) (qv := [(_, [_, _, _, _, _]), (_, [_, _, _, _, _, _, _])]) hT rfl rfl rfl rfl rfl rfl rfl rfl rfl) ?_
      rintro _ _ rfl
      apply Stg.next [] rfl rfl
      refine Stg.fin [] rfl rfl QAll.nil ?_
      exact AtE.then_n ((HK2 _ () _ H).pickP (ts := [2]) (is := [0]) rfl rfl (by decide) rfl)
     refine EAll.cons ?_ ?_
     ·
      replace H := H.2
      refine EOp.e rfl rfl rfl (EffX.mkS hT rfl rfl rfl rfl rfl rfl rfl rfl (by decide) H) ?_
      rintro _ _ ⟨v_8, h0u11, rfl, rfl, H⟩
      apply Stg.next [(36, _)] rfl rfl
      refine Stg.go [2, 6] [3, 7] rfl rfl (QAll.cons (QOp.p hT rfl rfl rfl rfl rfl) (QAll.cons (QOp.p hT rfl rfl rfl rfl rfl) QAll.nil)) ?_
      refine EAll.cons ?_ ?_
      ·
       refine EOp.e rfl rfl rfl (EffX.mkS hT rfl rfl rfl rfl rfl rfl rfl rfl (by decide) H) ?_
       rintro _ _ ⟨v_9, h0u12, rfl, rfl, H⟩
       apply Stg.next [(34, _)] rfl rfl
       refine Stg.go [6] [7] rfl rfl (QAll.cons (QOp.p hT rfl rfl rfl rfl rfl) QAll.nil) ?_
       refine EAll.cons ?_ EAll.nil
       refine EOp.e rfl rfl rfl (EffX.storeP (i := 0) (qv := [(_, [_, _, _, _, _]), (_, [_, _, _, _, _, _, _])]) hT rfl rfl rfl rfl rfl rfl rfl rfl rfl) ?_
       rintro _ _ rfl
       apply Stg.next [(38, _)] rfl rfl
       refine Stg.go [8] [9] rfl rfl (QAll.cons (QOp.p hT rfl rfl rfl rfl rfl) QAll.nil) ?_
       refine EAll.cons ?_ EAll.nil
       refine EOp.e rfl rfl rfl (EffX.storeP (i := 0) (qv := [(_, [_, _, _, _, _]), (_, [_, _, _, _, _, _, _])]) hT rfl rfl rfl rfl rfl rfl rfl rfl rfl) ?_
       rintro _ _ rfl
       apply Stg.next [(39, _)] rfl rfl
       refine Stg.go [10] [11] rfl rfl (QAll.cons (QOp.p hT rfl rfl rfl rfl rfl) QAll.nil) ?_
       refine EAll.cons ?_ EAll.nil
       refine EOp.e rfl rfl rfl (EffX.storeP (i := 0) (qv := [(_, [_, _, _, _, _]), (_, [_, _, _, _, _, _, _])]) hT rfl rfl rfl rfl rfl rfl rfl rfl rfl) ?_
       rintro _ _ rfl
       apply Stg.next [] rfl rfl
       refine Stg.fin [] rfl rfl QAll.nil ?_
       exact AtE.then_n ((HK2 _ () _ H).pickP (ts := [2]) (is := [0]) rfl rfl (by decide) rfl)
      refine EAll.cons ?_ EAll.nil
      refine EOp.e rfl rfl rfl (EffX.storeP (i := 0) (qv := [(_, [_, _, _, _, _]), (_, [_, _, _, _, _, _, _])]) hT rfl rfl rfl rfl rfl rfl rfl rfl rfl) ?_
      rintro _ _ rfl
      apply Stg.next [] rfl rfl
      refine Stg.go [2] [3] rfl rfl (QAll.cons (QOp.p hT rfl rfl rfl rfl rfl) QAll.nil) ?_
      refine EAll.cons ?_ EAll.nil
      refine EOp.e rfl rfl rfl (EffX.mkS hT rfl rfl rfl rfl rfl rfl rfl rfl (by decide) H) ?_
      rintro _ _ ⟨v_10, h0u13, rfl, rfl, H⟩
      apply Stg.next [(34, _), (38, _)] rfl rfl
      refine Stg.go [8] [9] rfl rfl (QAll.cons (QOp.p hT rfl rfl rfl rfl rfl) QAll.nil) ?_
      refine EAll.cons ?_ EAll.nil
      refine EOp.e rfl rfl rfl (EffX.storeP (i := 0) (qv := [(_, [_, _, _, _, _]), (_, [_, _, _, _, _, _, _])]) hT rfl rfl rfl rfl rfl rfl rfl rfl rfl) ?_
      rintro _ _ rfl
      apply Stg.next [(39, _)] rfl rfl
      refine Stg.go [10] [11] rfl rfl (QAll.cons (QOp.p hT rfl rfl rfl rfl rfl) QAll.nil) ?_
      refine EAll.cons ?_ EAll.nil
      refine EOp.e rfl rfl rfl (EffX.storeP (i := 0) (qv := [(_, [_, _, _, _, _]), (_, [_, _, _, _, _, _, _])]) hT rfl rfl rfl rfl rfl rfl rfl rfl rfl) ?_
      rintro _ _ rfl
      apply Stg.next [] rfl rfl
      refine Stg.fin [] rfl rfl QAll.nil ?_
      exact AtE.then_n ((HK2 _ () _ H).pickP (ts := [2]) (is := [0]) rfl rfl (by decide) rfl)
     refine EAll.cons ?_ EAll.nil
     refine EOp.e rfl rfl rfl (EffX.storeP (i := 0) (qv := [(_, [_, _, _, _, _]), (_, [_, _, _, _, _, _, _])]) hT rfl rfl rfl rfl rfl rfl rfl rfl rfl) ?_
     rintro _ _ rfl
     apply Stg.next [] rfl rfl
     refine Stg.go [2, 4] [3, 5] rfl rfl (QAll.cons (QOp.p hT rfl rfl rfl rfl rfl) (QAll.cons (QOp.p hT rfl rfl rfl rfl rfl) QAll.nil)) ?_
     refine EAll.cons ?_ ?_
     ·
      replace H := H.1
      refine EOp.e rfl rfl rfl (EffX.mkS hT rfl rfl rfl rfl rfl rfl rfl rfl (by decide) H) ?_
      rintro _ _ ⟨v_11, h0u14, rfl, rfl, H⟩
      apply Stg.next [(34, _), (38, _)] rfl rfl
      refine Stg.go [4, 8] [5, 9] rfl rfl (QAll.cons (QOp.p hT rfl rfl rfl rfl rfl) (QAll.cons (QOp.p hT rfl rfl rfl rfl rfl) QAll.nil)) ?_
      refine EAll.cons ?_ ?_
      ·
       refine EOp.e rfl rfl rfl (EffX.mkS hT rfl rfl rfl rfl rfl rfl rfl rfl (by decide) H) ?_
       rintro _ _ ⟨v_12, h0u15, rfl, rfl, H⟩
       apply Stg.next [(36, _)] rfl rfl
       refine Stg.go [8] [9] rfl rfl (QAll.cons (QOp.p hT rfl rfl rfl rfl rfl) QAll.nil) ?_
       refine EAll.cons ?_ EAll.nil
       refine EOp.e rfl rfl rfl (EffX.storeP (i := 0) (qv := [(_, [_, _, _, _, _]), (_, [_, _, _, _, _, _, _])]) hT rfl rfl rfl rfl rfl rfl rfl rfl rfl) ?_
       rintro _ _ rfl
       apply Stg.next [(39, _)] rfl rfl
       refine Stg.go [10] [11] rfl rfl (QAll.cons (QOp.p hT rfl rfl rfl rfl rfl) QAll.nil) ?_
       refine EAll.cons ?_ EAll.nil
       refine EOp.e rfl rfl rfl (EffX.storeP (i := 0) (qv := [(_, [_, _, _, _, _]), (_, [_, _, _, _, _, _, _])]) hT rfl rfl rfl rfl rfl rfl rfl rfl rfl) ?_
       rintro _ _ rfl
       apply Stg.next [] rfl rfl
       refine Stg.fin [] rfl rfl QAll.nil ?_
       exact AtE.then_n ((HK2 _ () _ H).pickP (ts := [2]) (is := [0]) rfl rfl (by decide) rfl)
      refine EAll.cons ?_ EAll.nil
      refine EOp.e rfl rfl rfl (EffX.storeP (i := 0) (qv := [(_, [_, _, _, _, _]), (_, [_, _, _, _, _, _, _])]) hT rfl rfl rfl rfl rfl rfl rfl rfl rfl) ?_
      rintro _ _ rfl
      apply Stg.next [] rfl rfl
      refine Stg.go [4] [5] rfl rfl (QAll.cons (QOp.p hT rfl rfl rfl rfl rfl) QAll.nil) ?_
      refine EAll.cons ?_ EAll.nil
      refine EOp.e rfl rfl rfl (EffX.mkS hT rfl rfl rfl rfl rfl rfl rfl rfl (by decide) H) ?_
      rintro _ _ ⟨v_13, h0u16, rfl, rfl, H⟩
      apply Stg.next [(36, _), (39, _)] rfl rfl
      refine Stg.go [10] [11] rfl rfl (QAll.cons (QOp.p hT rfl rfl rfl rfl rfl) QAll.nil) ?_
      refine EAll.cons ?_ EAll.nil
      refine EOp.e rfl rfl rfl (EffX.storeP (i := 0) (qv := [(_, [_, _, _, _, _]), (_, [_, _, _, _, _, _, _])]) hT rfl rfl rfl rfl rfl rfl rfl rfl rfl) ?_
      rintro _ _ rfl
      apply Stg.next [] rfl rfl
      refine Stg.fin [] rfl rfl QAll.nil ?_
      exact AtE.then_n ((HK2 _ () _ H).pickP (ts := [2]) (is := [0]) rfl rfl (by decide) rfl)
     refine EAll.cons ?_ EAll.nil
     replace H := H.2
     refine EOp.e rfl rfl rfl (EffX.mkS hT rfl rfl rfl rfl rfl rfl rfl rfl (by decide) H) ?_
     rintro _ _ ⟨v_14, h0u17, rfl, rfl, H⟩
     apply Stg.next [(36, _)] rfl rfl
     refine Stg.go [2] [3] rfl rfl (QAll.cons (QOp.p hT rfl rfl rfl rfl rfl) QAll.nil) ?_
     refine EAll.cons ?_ EAll.nil
     refine EOp.e rfl rfl rfl (EffX.mkS hT rfl rfl rfl rfl rfl rfl rfl rfl (by decide) H) ?_
     rintro _ _ ⟨v_15, h0u18, rfl, rfl, H⟩
     apply Stg.next [(34, _), (38, _)] rfl rfl
     refine Stg.go [8] [9] rfl rfl (QAll.cons (QOp.p hT rfl rfl rfl rfl rfl) QAll.nil) ?_
     refine EAll.cons ?_ EAll.nil
     refine EOp.e rfl rfl rfl (EffX.storeP (i := 0) (qv := [(_, [_, _, _, _, _]), (_, [_, _, _, _, _, _, _])]) hT rfl rfl rfl rfl rfl rfl rfl rfl rfl) ?_
     rintro _ _ rfl
     apply Stg.next [(39, _)] rfl rfl
     refine Stg.go [10] [11] rfl rfl (QAll.cons (QOp.p hT rfl rfl rfl rfl rfl) QAll.nil) ?_
     refine EAll.cons ?_ EAll.nil
     refine EOp.e rfl rfl rfl (EffX.storeP (i := 0) (qv := [(_, [_, _, _, _, _]), (_, [_, _, _, _, _, _, _])]) hT rfl rfl rfl rfl rfl rfl rfl rfl rfl) ?_
     rintro _ _ rfl
     apply Stg.next [] rfl rfl
     refine Stg.fin [] rfl rfl QAll.nil ?_
     exact AtE.then_n ((HK2 _ () _ H).pickP (ts := [2]) (is := [0]) rfl rfl (by decide) rfl)
    refine EAll.cons ?_ ?_
    ·
     replace H := H.2.1
     refine EOp.e rfl rfl rfl (EffX.mkS hT rfl rfl rfl rfl rfl rfl rfl rfl (by decide) H) ?_
     rintro _ _ ⟨v_16, h0u19, rfl, rfl, H⟩
     apply Stg.next [(34, _)] rfl rfl
     refine Stg.go [0, 4] [1, 5] rfl rfl (QAll.cons (QOp.p hT rfl rfl rfl rfl rfl) (QAll.cons (QOp.p hT rfl rfl rfl rfl rfl) QAll.nil)) ?_
     refine EAll.cons ?_ ?_
     ·
      replace H := H.1
      refine EOp.e rfl rfl rfl (EffX.mkS hT rfl rfl rfl rfl rfl rfl rfl rfl (by decide) H) ?_
      rintro _ _ ⟨v_17, h0u20, rfl, rfl, H⟩
      apply Stg.next [(32, _), (37, _)] rfl rfl
      refine Stg.go [4, 6] [5, 7] rfl rfl (QAll.cons (QOp.p hT rfl rfl rfl rfl rfl) (QAll.cons (QOp.p hT rfl rfl rfl rfl rfl) QAll.nil)) ?_
      refine EAll.cons ?_ ?_
      ·
       refine EOp.e rfl rfl rfl (EffX.mkS hT rfl rfl rfl rfl rfl rfl rfl rfl (by decide) H) ?_
       rintro _ _ ⟨v_18, h0u21, rfl, rfl, H⟩
       apply Stg.next [(36, _)] rfl rfl
       refine Stg.go [6] [7] rfl rfl (QAll.cons (QOp.p hT rfl rfl rfl rfl rfl) QAll.nil) ?_
       refine EAll.cons ?_ EAll.nil
       refine EOp.e rfl rfl rfl (EffX.storeP (i := 0) (qv := [(_, [_, _, _, _, _]), (_, [_, _, _, _, _, _, _])]) hT rfl rfl rfl rfl rfl rfl rfl rfl rfl) ?_
       rintro _ _ rfl
       apply Stg.next [(38, _)] rfl rfl
       refine Stg.go [8] [9] rfl rfl (QAll.cons (QOp.p hT rfl rfl rfl rfl rfl) QAll.nil) ?_
       refine EAll.cons ?_ EAll.nil
       refine EOp.e rfl rfl rfl (EffX.storeP (i := 0) (qv := [(_, [_, _, _, _, _]), (_, [_, _, _, _, _, _, _])]) hT rfl rfl rfl rfl rfl rfl rfl rfl rfl) ?_
       rintro _ _ rfl
       apply Stg.next [(39, _)] rfl rfl
       refine Stg.go [10] [11] rfl rfl (QAll.cons (QOp.p hT rfl rfl rfl rfl rfl) QAll.nil) ?_
       refine EAll.cons ?_ EAll.nil
       refine EOp.e rfl rfl rfl (EffX.storeP (i := 0) (qv := [(_, [_, _, _, _, _]), (_, [_, _, _, _, _, _, _])]) hT rfl rfl rfl rfl rfl rfl rfl rfl rfl) ?_
       rintro _ _ rfl
       apply Stg.next [] rfl rfl
       refine Stg.fin [] rfl rfl QAll.nil ?_
       exact AtE.then_n ((HK2 _ () _ H).pickP (ts := [2]) (is := [0]) rfl rfl (by decide) rfl)
      refine EAll.cons ?_ EAll.nil
      refine EOp.e rfl rfl rfl (EffX.storeP (i := 0) (qv := [(_, [_, _, _, _, _]), (_, [_, _, _, _, _, _, _])]) hT rfl rfl rfl rfl rfl rfl rfl rfl rfl) ?_
      rintro _ _ rfl
      apply Stg.next [(38, _)] rfl rfl
      refine Stg.go [4, 8] [5, 9] rfl rfl (QAll.cons (QOp.p hT rfl rfl rfl rfl rfl) (QAll.cons (QOp.p hT rfl rfl rfl rfl rfl) QAll.nil)) ?_
      refine EAll.cons ?_ ?_
      ·
       refine EOp.e rfl rfl rfl (EffX.mkS hT rfl rfl rfl rfl rfl rfl rfl rfl (by decide) H) ?_
       rintro _ _ ⟨v_19, h0u22, rfl, rfl, H⟩
       apply Stg.next [(36, _)] rfl rfl
       refine Stg.go [8] [9] rfl rfl (QAll.cons (QOp.p hT rfl rfl rfl rfl rfl) QAll.nil) ?_
       refine EAll.cons ?_ EAll.nil
       refine EOp.e rfl rfl rfl (EffX.storeP (i := 0) (qv := [(_, [_, _, _, _, _]), (_, [_, _, _, _, _, _, _])]) hT rfl rfl rfl rfl rfl rfl rfl rfl rfl) ?_
       rintro _ _ rfl
       apply Stg.next [(39, _)] rfl rfl
       refine Stg.go [10] [11] rfl rfl (QAll.cons (QOp.p hT rfl rfl rfl rfl rfl) QAll.nil) ?_
       refine EAll.cons ?_ EAll.nil
       refine EOp.e rfl rfl rfl (EffX.storeP (i := 0) (qv := [(_, [_, _, _, _, _]), (_, [_, _, _, _, _, _, _])]) hT rfl rfl rfl rfl rfl rfl rfl rfl rfl) ?_
       rintro _ _ rfl
       apply Stg.next [] rfl rfl
       refine Stg.fin [] rfl rfl QAll.nil ?_
       exact AtE.then_n ((HK2 _ () _ H).pickP (ts := [2]) (is := [0]) rfl rfl (by decide) rfl)
      refine EAll.cons ?_ EAll.nil
      refine EOp.e rfl rfl rfl (EffX.storeP (i := 0) (qv := [(_, [_, _, _, _, _]), (_, [_, _, _, _, _, _, _])]) hT rfl rfl rfl rfl rfl rfl rfl rfl rfl) ?_
      rintro _ _ rfl
      apply Stg.next [] rfl rfl
      refine Stg.go [4] [5] rfl rfl (QAll.cons (QOp.p hT rfl rfl rfl rfl rfl) QAll.nil) ?_
      refine EAll.cons ?_ EAll.nil
      refine EOp.e rfl rfl rfl (EffX.mkS hT rfl rfl rfl rfl rfl rfl rfl rfl (by decide) H) ?_
      rintro _ _ ⟨v_20, h0u23, rfl, rfl, H⟩
      apply Stg.next [(36, _), (39, _)] rfl rfl
      refine Stg.go [10] [11] rfl rfl (QAll.cons (QOp.p hT rfl rfl rfl rfl rfl) QAll.nil) ?_
      refine EAll.cons ?_ EAll.nil
      refine EOp.e rfl rfl rfl (EffX.storeP (i := 0) (qv := [(_, [_, _, _, _, _]), (_, [_, _, _, _, _, _, _])]) hT rfl rfl rfl rfl rfl rfl rfl rfl rfl) ?_
      rintro _ _ rfl
      apply Stg.next [] rfl rfl
      refine Stg.fin [] rfl rfl QAll.nil ?_
      exact AtE.then_n ((HK2 _ () _ H).pickP (ts := [2]) (is := [0]) rfl rfl (by decide) rfl)
     refine EAll.cons ?_ EAll.nil
     replace H := H.2
     refine EOp.e rfl rfl rfl (EffX.mkS hT rfl rfl rfl rfl rfl rfl rfl rfl (by decide) H) ?_
     rintro _ _ ⟨v_21, h0u24, rfl, rfl, H⟩
     apply Stg.next [(36, _)] rfl rfl
     refine Stg.go [0] [1] rfl rfl (QAll.cons (QOp.p hT rfl rfl rfl rfl rfl) QAll.nil) ?_
     refine EAll.cons ?_ EAll.nil
     refine EOp.e rfl rfl rfl (EffX.mkS hT rfl rfl rfl rfl rfl rfl rfl rfl (by decide) H) ?_
     rintro _ _ ⟨v_22, h0u25, rfl, rfl, H⟩
     apply Stg.next [(32, _), (37, _)] rfl rfl
     refine Stg.go [6] [7] rfl rfl (QAll.cons (QOp.p hT rfl rfl rfl rfl rfl) QAll.nil) ?_
     refine EAll.cons ?_ EAll.nil
     refine EOp.e rfl rfl rfl (EffX.storeP (i := 0) (qv := [(_, [_, _, _, _, _]), (_, [_, _, _, _, _, _, _])]) hT rfl rfl rfl rfl rfl rfl rfl rfl rfl) ?_
     rintro _ _ rfl
     apply Stg.next [(38, _)] rfl rfl
     refine Stg.go [8] [9] rfl rfl (QAll.cons (QOp.p hT rfl rfl rfl rfl rfl) QAll.nil) ?_
     refine EAll.cons ?_ EAll.nil
     refine EOp.e rfl rfl rfl (EffX.storeP (i := 0) (qv := [(_, [_, _, _, _, _]), (_, [_, _, _, _, _, _, _])]) hT rfl rfl rfl rfl rfl rfl rfl rfl rfl) ?_
     rintro _ _ rfl
     apply Stg.next [(39, _)] rfl rfl
     refine Stg.go [10] [11] rfl rfl (QAll.cons (QOp.p hT rfl rfl rfl rfl rfl) QAll.nil) ?_
     refine EAll.cons ?_ EAll.nil
     refine EOp.e rfl rfl rfl (EffX.storeP (i := 0) (qv := [(_, [_, _, _, _, _]), (_, [_, _, _, _, _, _, _])]) hT rfl rfl rfl rfl rfl rfl rfl rfl rfl) ?_
     rintro _ _ rfl
     apply Stg.next [] rfl rfl
     refine Stg.fin [] rfl rfl QAll.nil ?_
     exact AtE.then_n ((HK2 _ () _ H).pickP (ts := [2]) (is := [0]) rfl rfl (by decide) rfl)
    refine EAll.cons ?_ EAll.nil
    replace H := H.2.2
    refine EOp.e rfl rfl rfl (EffX.mkS hT rfl rfl rfl rfl rfl rfl rfl rfl (by decide) H) ?_
    rintro _ _ ⟨v_23, h0u26, rfl, rfl, H⟩
    apply Stg.next [(36, _)] rfl rfl
    refine Stg.go [0, 2] [1, 3] rfl rfl (QAll.cons (QOp.p hT rfl rfl rfl rfl rfl) (QAll.cons (QOp.p hT rfl rfl rfl rfl rfl) QAll.nil)) ?_
    refine EAll.cons ?_ ?_
    ·
     replace H := H.1
     refine EOp.e rfl rfl rfl (EffX.mkS hT rfl rfl rfl rfl rfl rfl rfl rfl (by decide) H) ?_
     rintro _ _ ⟨v_24, h0u27, rfl, rfl, H⟩
     apply Stg.next [(32, _), (37, _)] rfl rfl
     refine Stg.go [2, 6] [3, 7] rfl rfl (QAll.cons (QOp.p hT rfl rfl rfl rfl rfl) (QAll.cons (QOp.p hT rfl rfl rfl rfl rfl) QAll.nil)) ?_
     refine EAll.cons ?_ ?_
     ·
      refine EOp.e rfl rfl rfl (EffX.mkS hT rfl rfl rfl rfl rfl rfl rfl rfl (by decide) H) ?_
      rintro _ _ ⟨v_25, h0u28, rfl, rfl, H⟩
      apply Stg.next [(34, _)] rfl rfl
      refine Stg.go [6] [7] rfl rfl (QAll.cons (QOp.p hT rfl rfl rfl rfl rfl) QAll.nil) ?_
      refine EAll.cons ?_ EAll.nil
      refine EOp.e rfl rfl rfl (EffX.storeP (i := 0) (qv := [(_, [_, _, _, _, _]), (_, [_, _, _, _, _, _, _])]) hT rfl rfl rfl rfl rfl rfl rfl rfl rfl) ?_
      rintro _ _ rfl
      apply Stg.next [(38, _)] rfl rfl
      refine Stg.go [8] [9] rfl rfl (QAll.cons (QOp.p hT rfl rfl rfl rfl rfl) QAll.nil) ?_
      refine EAll.cons ?_ EAll.nil
      refine EOp.e rfl rfl rfl (EffX.storeP (i := 0) (qv := [(_, [_, _, _, _, _]), (_, [_, _, _, _, _, _, _])]) hT rfl rfl rfl rfl rfl rfl rfl rfl rfl) ?_
      rintro _ _ rfl
      apply Stg.next [(39, _)] rfl rfl
      refine Stg.go [10] [11] rfl rfl (QAll.cons (QOp.p hT rfl rfl rfl rfl rfl) QAll.nil) ?_
      refine EAll.cons ?_ EAll.nil
      refine EOp.e rfl rfl rfl (EffX.storeP (i := 0) (qv := [(_, [_, _, _, _, _]), (_, [_, _, _, _, _, _, _])]) hT rfl rfl rfl rfl rfl rfl rfl rfl rfl) ?_
      rintro _ _ rfl
      apply Stg.next [] rfl rfl
      refine Stg.fin [] rfl rfl QAll.nil ?_
      exact AtE.then_n ((HK2 _ () _ H).pickP (ts := [2]) (is := [0]) rfl rfl (by decide) rfl)
     refine EAll.cons ?_ EAll.nil
     refine EOp.e rfl rfl rfl (EffX.storeP (i := 0) (qv := [(_, [_, _, _, _, _]), (_, [_, _, _, _, _, _, _])]) hT rfl rfl rfl rfl rfl rfl rfl rfl rfl) ?_
     rintro _ _ rfl
     apply Stg.next [] rfl rfl
     refine Stg.go [2] [3] rfl rfl (QAll.cons (QOp.p hT rfl rfl rfl rfl rfl) QAll.nil) ?_
     refine EAll.cons ?_ EAll.nil
     refine EOp.e rfl rfl rfl (EffX.mkS hT rfl rfl rfl rfl rfl rfl rfl rfl (by decide) H) ?_
     rintro _ _ ⟨v_26, h0u29, rfl, rfl, H⟩
     apply Stg.next [(34, _), (38, _)] rfl rfl
     refine Stg.go [8] [9] rfl rfl (QAll.cons (QOp.p hT rfl rfl rfl rfl rfl) QAll.nil) ?_
     refine EAll.cons ?_ EAll.nil
     refine EOp.e rfl rfl rfl (EffX.storeP (i := 0) (qv := [(_, [_, _, _, _, _]), (_, [_, _, _, _, _, _, _])]) hT rfl rfl rfl rfl rfl rfl rfl rfl rfl) ?_
     rintro _ _ rfl
     apply Stg.next [(39, _)] rfl rfl
     refine Stg.go [10] [11] rfl rfl (QAll.cons (QOp.p hT rfl rfl rfl rfl rfl) QAll.nil) ?_
     refine EAll.cons ?_ EAll.nil
     refine EOp.e rfl rfl rfl (EffX.storeP (i := 0) (qv := [(_, [_, _, _, _, _]), (_, [_, _, _, _, _, _, _])]) hT rfl rfl rfl rfl rfl rfl rfl rfl rfl) ?_
     rintro _ _ rfl
     apply Stg.next [] rfl rfl
     refine Stg.fin [] rfl rfl QAll.nil ?_
     exact AtE.then_n ((HK2 _ () _ H).pickP (ts := [2]) (is := [0]) rfl rfl (by decide) rfl)
    refine EAll.cons ?_ EAll.nil
    replace H := H.2
    refine EOp.e rfl rfl rfl (EffX.mkS hT rfl rfl rfl rfl rfl rfl rfl rfl (by decide) H) ?_
    rintro _ _ ⟨v_27, h0u30, rfl, rfl, H⟩
    apply Stg.next [(34, _)] rfl rfl
    refine Stg.go [0] [1] rfl rfl (QAll.cons (QOp.p hT rfl rfl rfl rfl rfl) QAll.nil) ?_
    refine EAll.cons ?_ EAll.nil
    refine EOp.e rfl rfl rfl (EffX.mkS hT rfl rfl rfl rfl rfl rfl rfl rfl (by decide) H) ?_
    rintro _ _ ⟨v_28, h0u31, rfl, rfl, H⟩
    apply Stg.next [(32, _), (37, _)] rfl rfl
    refine Stg.go [6] [7] rfl rfl (QAll.cons (QOp.p hT rfl rfl rfl rfl rfl) QAll.nil) ?_
    refine EAll.cons ?_ EAll.nil
    refine EOp.e rfl rfl rfl (EffX.storeP (i := 0) (qv := [(_, [_, _, _, _, _]), (_, [_, _, _, _, _, _, _])]) hT rfl rfl rfl rfl rfl rfl rfl rfl rfl) ?_
    rintro _ _ rfl
    apply Stg.next [(38, _)] rfl rfl
    refine Stg.go [8] [9] rfl rfl (QAll.cons (QOp.p hT rfl rfl rfl rfl rfl) QAll.nil) ?_
    refine EAll.cons ?_ EAll.nil
    refine EOp.e rfl rfl rfl (EffX.storeP (i := 0) (qv := [(_, [_, _, _, _, _]), (_, [_, _, _, _, _, _, _])]) hT rfl rfl rfl rfl rfl rfl rfl rfl rfl) ?_
    rintro _ _ rfl
    apply Stg.next [(39, _)] rfl rfl
    refine Stg.go [10] [11] rfl rfl (QAll.cons (QOp.p hT rfl rfl rfl rfl rfl) QAll.nil) ?_
    refine EAll.cons ?_ EAll.nil
    refine EOp.e rfl rfl rfl (EffX.storeP (i := 0) (qv := [(_, [_, _, _, _, _]), (_, [_, _, _, _, _, _, _])]) hT rfl rfl rfl rfl rfl rfl rfl rfl rfl) ?_
    rintro _ _ rfl
    apply Stg.next [] rfl rfl
    refine Stg.fin [] rfl rfl QAll.nil ?_
    exact AtE.then_n ((HK2 _ () _ H).pickP (ts := [2]) (is := [0]) rfl rfl (by decide) rfl)

theorem lift_clause_there (s0 : (Option Addr)) (lit : Int) (w : World) (m : Heap) (hr : Rel ⟨m, []⟩ w.heap) (S : Bool → Heap → Prop) (H : clause_there s0 lit m S) :
    Calls Tryz.prog 39 #[Value.pointer s0, Value.int .i64 lit] w (Post ⟨w, m⟩ Value.bool S) := by
  refine Calls.lift (args := [Value.pointer s0, Value.int .i64 lit]) Tryz.func39 rfl Tryz.ntmps39 (Nat.le_of_ble_eq_true rfl) hr (clause_there s0 lit m S) H (fun H => ?_)
  refine AtC.pick (ts := [0, 1]) rfl ?_
  unfold clause_there at H
  refine AtC.seqR ?_
  refine AtL.pures hT 1 _ _ _ _ rfl ?_
  refine AtL.nil ?_
  refine AtE.then_n (AtE.go ?_)
  refine AtC.joinSeq (β := Unit) (fun (t0 : Bool) (bb : Unit) => [(4, Value.bool t0)]) (fun (t0 : Bool) (bb : Unit) => []) [] [] H (by exact rfl) (by exact rfl) (fun t0 bb h0 H => ?_) (fun J1 H HK1 => ?_)
  ·
   refine AtC.ret ?_
   exact AtE.retN (rs := [.tmp 4]) rfl (ResAll.cons (ResAt.tmp rfl) ResAll.nil) rfl H
  ·
   refine AtC.region ?_
   refine AtL.pures hT 3 _ _ _ _ rfl ?_
   refine AtL.splitB (t := 7) H rfl (fun H => ?_) (fun H => ?_)
   ·
    refine AtL.yes rfl rfl rfl ?_
    refine AtL.pures hT 1 _ _ _ _ rfl ?_
    refine AtL.yes rfl rfl rfl ?_
    refine AtL.pures hT 1 _ _ _ _ rfl ?_
    refine AtL.yes rfl rfl rfl ?_
    obtain ⟨a, hc1, H⟩ := H
    refine AtL.q rfl (Quiet1.nilChk rfl rfl hc1) ?_
    refine AtL.yes rfl rfl rfl ?_
    refine AtL.pures hT 1 _ _ _ _ rfl ?_
    refine AtL.yes rfl rfl rfl ?_
    obtain ⟨v, hc2, H⟩ := H
    refine AtL.q rfl (Quiet1.load hT rfl rfl rfl hc2) ?_
    refine AtL.yes rfl rfl rfl ?_
    refine AtL.pures hT 1 _ _ _ _ rfl ?_
    refine AtL.yes rfl rfl rfl ?_
    refine AtL.pures hT 1 _ _ _ _ rfl ?_
    refine AtL.pures hT 2 _ _ _ _ rfl ?_
    refine AtL.splitB (t := 16) H rfl (fun H => ?_) (fun H => ?_)
    ·
     refine AtL.yes rfl rfl rfl ?_
     refine AtL.pures hT 1 _ _ _ _ rfl ?_
     refine AtL.yes rfl rfl rfl ?_
     refine AtL.pures hT 1 _ _ _ _ rfl ?_
     refine AtL.yes rfl rfl rfl ?_
     obtain ⟨a_1, hc3, H⟩ := H
     refine AtL.q rfl (Quiet1.nilChk rfl rfl hc3) ?_
     refine AtL.yes rfl rfl rfl ?_
     refine AtL.pures hT 1 _ _ _ _ rfl ?_
     refine AtL.yes rfl rfl rfl ?_
     obtain ⟨v_1, hc4, H⟩ := H
     refine AtL.q rfl (Quiet1.load hT rfl rfl rfl hc4) ?_
     refine AtL.yes rfl rfl rfl ?_
     refine AtL.pures hT 1 _ _ _ _ rfl ?_
     refine AtL.yes rfl rfl rfl ?_
     refine AtL.pures hT 1 _ _ _ _ rfl ?_
     refine AtL.yes rfl rfl rfl ?_
     refine AtL.pures hT 1 _ _ _ _ rfl ?_
     refine AtL.pures hT 2 _ _ _ _ rfl ?_
     refine AtL.nil ?_
     exact AtE.then_n ((HK1 _ () _ H).pickP (ts := [4]) (is := []) rfl rfl (by decide) rfl)
    ·
     refine AtL.noF rfl rfl rfl (by decide) rfl ?_
     refine AtL.noF rfl rfl rfl (by decide) rfl ?_
     refine AtL.noF rfl rfl rfl (by decide) rfl ?_
     refine AtL.noF rfl rfl rfl (by decide) rfl ?_
     refine AtL.noF rfl rfl rfl (by decide) rfl ?_
     refine AtL.noF rfl rfl rfl (by decide) rfl ?_
     refine AtL.noF rfl rfl rfl (by decide) rfl ?_
     refine AtL.noF rfl rfl rfl (by decide) rfl ?_
     refine AtL.pures hT 2 _ _ _ _ rfl ?_
     refine AtL.nil ?_
     exact AtE.then_n ((HK1 _ () _ H).pickP (ts := [4]) (is := []) rfl rfl (by decide) rfl)
   ·
    refine AtL.noF rfl rfl rfl (by decide) rfl ?_
    refine AtL.noF rfl rfl rfl (by decide) rfl ?_
    refine AtL.noF rfl rfl rfl (by decide) rfl ?_
    refine AtL.noF rfl rfl rfl (by decide) rfl ?_
    refine AtL.noF rfl rfl rfl (by decide) rfl ?_
    refine AtL.noF rfl rfl rfl (by decide) rfl ?_
    refine AtL.noF rfl rfl rfl (by decide) rfl ?_
    refine AtL.pures hT 2 _ _ _ _ rfl ?_
    refine AtL.noF rfl rfl rfl (by decide) rfl ?_
    refine AtL.noF rfl rfl rfl (by decide) rfl ?_
    refine AtL.noF rfl rfl rfl (by decide) rfl ?_
    refine AtL.noF rfl rfl rfl (by decide) rfl ?_
    refine AtL.noF rfl rfl rfl (by decide) rfl ?_
    refine AtL.noF rfl rfl rfl (by decide) rfl ?_
    refine AtL.noF rfl rfl rfl (by decide) rfl ?_
    refine AtL.noF rfl rfl rfl (by decide) rfl ?_
    refine AtL.pures hT 2 _ _ _ _ rfl ?_
    refine AtL.nil ?_
    exact AtE.then_n ((HK1 _ () _ H).pickP (ts := [4]) (is := []) rfl rfl (by decide) rfl)

theorem lift_clause_truth (lit : Int) (w : World) (m : Heap) (hr : Rel ⟨m, []⟩ w.heap) (S : Int → Heap → Prop) (H : clause_truth lit m S) :
    Calls Tryz.prog 63 #[Value.int .i64 lit] w (Post ⟨w, m⟩ (Value.int .i64) S) := by
  refine Calls.lift (args := [Value.int .i64 lit]) Tryz.func63 rfl Tryz.ntmps63 (Nat.le_of_ble_eq_true rfl) hr (clause_truth lit m S) H (fun H => ?_)
  refine AtC.pick (ts := [0]) rfl ?_
  unfold clause_truth at H
  refine AtC.seqR ?_
  refine AtL.pures hT 1 _ _ _ _ rfl ?_
  refine AtL.nil ?_
  refine AtE.then_n (AtE.go ?_)
  refine AtC.seqR ?_
  refine AtL.pures hT 6 _ _ _ _ rfl ?_
  refine AtL.nil ?_
  refine AtE.then_n (AtE.go ?_)
  refine AtC.ret ?_
  exact AtE.retN (rs := [.tmp 2]) rfl (ResAll.cons (ResAt.tmp rfl) ResAll.nil) rfl H

theorem lift_clause_sign (lit : Int) (w : World) (m : Heap) (hr : Rel ⟨m, []⟩ w.heap) (S : Int → Heap → Prop) (H : clause_sign lit m S) :
    Calls Tryz.prog 65 #[Value.int .i64 lit] w (Post ⟨w, m⟩ (Value.int .i64) S) := by
  refine Calls.lift (args := [Value.int .i64 lit]) Tryz.func65 rfl Tryz.ntmps65 (Nat.le_of_ble_eq_true rfl) hr (clause_sign lit m S) H (fun H => ?_)
  refine AtC.pick (ts := [0]) rfl ?_
  unfold clause_sign at H
  refine AtC.seqR ?_
  refine AtL.pures hT 1 _ _ _ _ rfl ?_
  refine AtL.nil ?_
  refine AtE.then_n (AtE.go ?_)
  refine AtC.seqR ?_
  refine AtL.pures hT 4 _ _ _ _ rfl ?_
  refine AtL.nil ?_
  refine AtE.then_n (AtE.go ?_)
  refine AtC.ret ?_
  exact AtE.retN (rs := [.tmp 2]) rfl (ResAll.cons (ResAt.tmp rfl) ResAll.nil) rfl H

theorem lift_clause_Value (s0 : Sl × Sl × Sl × Sl × Sl × Sl × Sl × Int) (lit : Int) (w : World) (m : Heap) (hr : Rel ⟨m, []⟩ w.heap) (S : Int → Heap → Prop) (H : clause_Value s0 lit m S) :
    Calls Tryz.prog 40 #[Value.agg (C_sl_sl_sl_sl_sl_sl_sl_i64 s0).toArray, Value.int .i64 lit] w (Post ⟨w, m⟩ (Value.int .i64) S) := by
  refine Calls.lift (args := [Value.agg (C_sl_sl_sl_sl_sl_sl_sl_i64 s0).toArray, Value.int .i64 lit]) Tryz.func40 rfl Tryz.ntmps40 (Nat.le_of_ble_eq_true rfl) hr (clause_Value s0 lit m S) H (fun H => ?_)
  refine AtC.pick (ts := [0, 1]) rfl ?_
  unfold clause_Value at H
  refine AtC.seqR ?_
  refine AtL.e rfl (EffX.box (cs := [_, _, _, _, _, _, _, _]) rfl rfl rfl H) ?_
  rintro _ _ ⟨s0u1, h0, rfl, rfl, H⟩
  refine AtL.pures hT 1 _ _ _ _ rfl ?_
  refine AtL.nil ?_
  refine AtE.then_n (AtE.go ?_)
  refine AtC.seq ?_
  refine AtC.seqR ?_
  refine AtL.pures hT 1 _ _ _ _ rfl ?_
  refine AtL.e rfl (EffX.call (f := 39) (sh := fun h => clause_there _ _ h _) (H0 := H) rfl Tryz.call39 rfl (hl := fun w m hr hw => lift_clause_there _ _ w m hr _ hw)) ?_
  rintro _ _ ⟨v, h0u1, rfl, rfl, H⟩
  refine AtL.pures hT 1 _ _ _ _ rfl ?_
  refine AtL.nil ?_
  refine AtE.then_n (AtE.go ?_)
  refine AtC.condB H rfl (fun H => ?_) (fun H => ?_)
  ·
   refine AtC.seqR ?_
   refine AtL.pures hT 1 _ _ _ _ rfl ?_
   refine AtL.nil ?_
   refine AtE.then_n (AtE.go ?_)
   refine AtC.ret ?_
   refine AtE.then_r ?_
   exact AtE.retN (rs := [.tmp 4]) rfl (ResAll.cons (ResAt.tmp rfl) ResAll.nil) rfl H
  ·
   refine AtC.skip ?_
   refine AtE.then_n (AtE.go ?_)
   obtain ⟨v_1, hc0, H⟩ := H
   apply AtC.seqS [3, 7] [[], [], [], [], [3], [3], [], [3], [3, 7], [3, 7]] [[], [0], [], [2], [0, 1, 2, 3], [0, 1, 2, 3, 4], [], [2, 3, 6], [0, 1, 2, 3, 4, 5, 6, 7], [0, 1, 2, 3, 4, 5, 6, 7, 8]] hmix (by kernel_rfl) [(8, _), (9, _), (10, _), (14, _)] rfl 2 rfl
   refine Stg.go [0, 1, 2, 6] [3] rfl rfl (QAll.cons (QOp.p hT rfl rfl rfl rfl rfl) (QAll.cons (QOp.q rfl rfl (Quiet1.load hT rfl rfl rfl hc0) rfl rfl) (QAll.cons (QOp.p hT rfl rfl rfl rfl rfl) (QAll.cons (QOp.p hT rfl rfl rfl rfl rfl) QAll.nil)))) ?_
   refine EAll.cons ?_ EAll.nil
   refine EOp.e rfl rfl rfl (EffX.call (f := 63) (sh := fun h => clause_truth _ h _) (H0 := H) rfl Tryz.call63 rfl (hl := fun w m hr hw => lift_clause_truth _ w m hr _ hw)) ?_
   rintro _ _ ⟨v_2, h0u2, rfl, rfl, H⟩
   obtain ⟨hc1, H⟩ := H
   obtain ⟨a_, hc2, hd2, H⟩ := H
   obtain ⟨v_3, hc3, H⟩ := H
   apply Stg.next [(11, _), (12, _), (13, _)] rfl rfl
   refine Stg.go [0, 1, 4, 5, 6] [7] rfl rfl (QAll.cons (QOp.p hT rfl rfl rfl rfl rfl) (QAll.cons (QOp.q rfl rfl (Quiet1.load hT rfl rfl rfl hc1) rfl rfl) (QAll.cons (QOp.q rfl rfl (Quiet1.idxS (s := _) hT rfl rfl rfl rfl rfl hc2 hd2) rfl rfl) (QAll.cons (QOp.q rfl rfl (Quiet1.load hT rfl rfl rfl hc3) rfl rfl) (QAll.cons (QOp.p hT rfl rfl rfl rfl rfl) QAll.nil))))) ?_
   refine EAll.cons ?_ EAll.nil
   refine EOp.e rfl rfl rfl (EffX.call (f := 65) (sh := fun h => clause_sign _ h _) (H0 := H) rfl Tryz.call65 rfl (hl := fun w m hr hw => lift_clause_sign _ w m hr _ hw)) ?_
   rintro _ _ ⟨v_4, h0u3, rfl, rfl, H⟩
   obtain ⟨hc4, H⟩ := H
   obtain ⟨hc5, H⟩ := H
   apply Stg.next [(15, _), (16, _), (4, _)] rfl rfl
   refine Stg.fin [0, 1, 4, 5, 8, 9] rfl rfl (QAll.cons (QOp.p hT rfl rfl rfl rfl rfl) (QAll.cons (QOp.q rfl rfl (Quiet1.load hT rfl rfl rfl hc4) rfl rfl) (QAll.cons (QOp.q rfl rfl (Quiet1.idxS (s := _) hT rfl rfl rfl rfl rfl hc2 hd2) rfl rfl) (QAll.cons (QOp.q rfl rfl (Quiet1.load hT rfl rfl rfl hc5) rfl rfl) (QAll.cons (QOp.p hT rfl rfl rfl rfl rfl) (QAll.cons (QOp.p hT rfl rfl rfl rfl rfl) QAll.nil)))))) ?_
   refine AtE.then_n (AtE.go ?_)
   refine AtC.ret ?_
   exact AtE.retN (rs := [.tmp 4]) rfl (ResAll.cons (ResAt.tmp rfl) ResAll.nil) rfl H

theorem lift_clause_put (s0 : (Option Addr)) (lit : Int) (reason : Int) (w : World) (m : Heap) (hr : Rel ⟨m, []⟩ w.heap) (S : Unit → Heap → Prop) (H : clause_put s0 lit reason m S) :
    Calls Tryz.prog 41 #[Value.pointer s0, Value.int .i64 lit, Value.int .i64 reason] w (Post ⟨w, m⟩ (fun _ => Value.tuple #[]) S) := by
  refine Calls.lift (args := [Value.pointer s0, Value.int .i64 lit, Value.int .i64 reason]) Tryz.func41 rfl Tryz.ntmps41 (Nat.le_of_ble_eq_true rfl) hr (clause_put s0 lit reason m S) H (fun H => ?_)
  refine AtC.pick (ts := [0, 1, 2]) rfl ?_
  unfold clause_put at H
  refine AtC.seqR ?_
  refine AtL.pures hT 1 _ _ _ _ rfl ?_
  refine AtL.e rfl (EffX.call (f := 63) (sh := fun h => clause_truth _ h _) (H0 := H) rfl Tryz.call63 rfl (hl := fun w m hr hw => lift_clause_truth _ w m hr _ hw)) ?_
  rintro _ _ ⟨v, h0, rfl, rfl, H⟩
  refine AtL.pures hT 1 _ _ _ _ rfl ?_
  refine AtL.nil ?_
  refine AtE.then_n (AtE.go ?_)
  obtain ⟨a, hc0, H⟩ := H
  obtain ⟨v_1, hc1, H⟩ := H
  obtain ⟨a_1, hc2, H⟩ := H
  obtain ⟨v_2, hc3, H⟩ := H
  obtain ⟨a_2, hc4, H⟩ := H
  obtain ⟨v_3, hc5, H⟩ := H
  obtain ⟨a_3, hc6, H⟩ := H
  obtain ⟨v_4, hc7, H⟩ := H
  apply AtC.seqS [16, 24, 26, 28] [[], [], [], [], [], [], [], [], [], [], [], [], [], [], [], [], [], [], [], [], [], [], [], [16], [16], [16, 24], [16, 24], [16, 24, 26], [16, 24, 26]] [[], [0], [0, 1], [0, 1, 2], [], [], [5], [5, 6], [5, 6, 7], [], [], [10], [10, 11], [10, 11, 12], [], [], [15], [], [17], [17, 18], [17, 18, 19], [17, 18, 19, 20], [], [0, 1, 2, 3, 4, 5, 6, 7, 8, 10, 11, 12, 13, 15, 16, 17, 18, 19, 20], [0, 1, 2, 3, 4, 5, 6, 7, 8, 10, 11, 12, 13, 15, 16, 17, 18, 19, 20, 23], [0, 1, 2, 3, 4, 5, 6, 7, 8, 9, 10, 11, 12, 13, 15, 16, 17, 18, 19, 20, 21, 23, 24], [0, 1, 2, 3, 4, 5, 6, 7, 8, 9, 10, 11, 12, 13, 15, 16, 17, 18, 19, 20, 21, 23, 24, 25], [0, 1, 2, 3, 4, 5, 6, 7, 8, 9, 10, 11, 12, 13, 14, 15, 16, 17, 18, 19, 20, 21, 22, 23, 24, 25, 26], [0, 1, 2, 3, 4, 5, 6, 7, 8, 9, 10, 11, 12, 13, 14, 15, 16, 17, 18, 19, 20, 21, 22, 23, 24, 25, 26, 27]] hmix (by kernel_rfl) [(9, _), (10, _), (11, _), (12, _), (13, _), (14, _), (15, _), (16, _), (17, _), (18, _), (19, _), (20, _), (21, _), (22, _), (23, _), (24, _), (26, _), (27, _), (28, _), (29, _), (30, _), (31, _)] rfl 4 rfl
  refine Stg.go [0, 1, 2, 3, 4, 5, 6, 7, 8, 9, 10, 11, 12, 13, 14, 15, 17, 18, 19, 20, 21, 22] [16] rfl rfl (QAll.cons (QOp.p hT rfl rfl rfl rfl rfl) (QAll.cons (QOp.q rfl rfl (Quiet1.nilChk rfl rfl hc0) rfl rfl) (QAll.cons (QOp.p hT rfl rfl rfl rfl rfl) (QAll.cons (QOp.q rfl rfl (Quiet1.load hT rfl rfl rfl hc1) rfl rfl) (QAll.cons (QOp.p hT rfl rfl rfl rfl rfl) (QAll.cons (QOp.p hT rfl rfl rfl rfl rfl) (QAll.cons (QOp.q rfl rfl (Quiet1.nilChk rfl rfl hc2) rfl rfl) (QAll.cons (QOp.p hT rfl rfl rfl rfl rfl) (QAll.cons (QOp.q rfl rfl (Quiet1.load hT rfl rfl rfl hc3) rfl rfl) (QAll.cons (QOp.p hT rfl rfl rfl rfl rfl) (QAll.cons (QOp.p hT rfl rfl rfl rfl rfl) (QAll.cons (QOp.q rfl rfl (Quiet1.nilChk rfl rfl hc4) rfl rfl) (QAll.cons (QOp.p hT rfl rfl rfl rfl rfl) (QAll.cons (QOp.q rfl rfl (Quiet1.load hT rfl rfl rfl hc5) rfl rfl) (QAll.cons (QOp.p hT rfl rfl rfl rfl rfl) (QAll.cons (QOp.p hT rfl rfl rfl rfl rfl) (QAll.cons (QOp.p hT rfl rfl rfl rfl rfl) (QAll.cons (QOp.q rfl rfl (Quiet1.nilChk rfl rfl hc6) rfl rfl) (QAll.cons (QOp.p hT rfl rfl rfl rfl rfl) (QAll.cons (QOp.q rfl rfl (Quiet1.load hT rfl rfl rfl hc7) rfl rfl) (QAll.cons (QOp.p hT rfl rfl rfl rfl rfl) (QAll.cons (QOp.p hT rfl rfl rfl rfl rfl) QAll.nil)))))))))))))))))))))) ?_
  refine EAll.cons ?_ EAll.nil
  refine EOp.e rfl rfl rfl (EffX.call (f := 65) (sh := fun h => clause_sign _ h _) (H0 := H) rfl Tryz.call65 rfl (hl := fun w m hr hw => lift_clause_sign _ w m hr _ hw)) ?_
  rintro _ _ ⟨v_5, h0u1, rfl, rfl, H⟩
  obtain ⟨hc8, H⟩ := H
  obtain ⟨hc9, H⟩ := H
  obtain ⟨hc10, H⟩ := H
  obtain ⟨hc11, H⟩ := H
  obtain ⟨a_4_, hc12, hd12, H⟩ := H
  apply Stg.next [(25, _), (32, _)] rfl rfl
  refine Stg.go [0, 1, 2, 3, 4, 5, 6, 7, 8, 9, 10, 11, 12, 13, 14, 17, 18, 19, 20, 21, 22, 23] [24] rfl rfl (QAll.cons (QOp.p hT rfl rfl rfl rfl rfl) (QAll.cons (QOp.q rfl rfl (Quiet1.nilChk rfl rfl hc0) rfl rfl) (QAll.cons (QOp.p hT rfl rfl rfl rfl rfl) (QAll.cons (QOp.q rfl rfl (Quiet1.load hT rfl rfl rfl hc8) rfl rfl) (QAll.cons (QOp.p hT rfl rfl rfl rfl rfl) (QAll.cons (QOp.p hT rfl rfl rfl rfl rfl) (QAll.cons (QOp.q rfl rfl (Quiet1.nilChk rfl rfl hc2) rfl rfl) (QAll.cons (QOp.p hT rfl rfl rfl rfl rfl) (QAll.cons (QOp.q rfl rfl (Quiet1.load hT rfl rfl rfl hc9) rfl rfl) (QAll.cons (QOp.p hT rfl rfl rfl rfl rfl) (QAll.cons (QOp.p hT rfl rfl rfl rfl rfl) (QAll.cons (QOp.q rfl rfl (Quiet1.nilChk rfl rfl hc4) rfl rfl) (QAll.cons (QOp.p hT rfl rfl rfl rfl rfl) (QAll.cons (QOp.q rfl rfl (Quiet1.load hT rfl rfl rfl hc10) rfl rfl) (QAll.cons (QOp.p hT rfl rfl rfl rfl rfl) (QAll.cons (QOp.p hT rfl rfl rfl rfl rfl) (QAll.cons (QOp.q rfl rfl (Quiet1.nilChk rfl rfl hc6) rfl rfl) (QAll.cons (QOp.p hT rfl rfl rfl rfl rfl) (QAll.cons (QOp.q rfl rfl (Quiet1.load hT rfl rfl rfl hc11) rfl rfl) (QAll.cons (QOp.p hT rfl rfl rfl rfl rfl) (QAll.cons (QOp.p hT rfl rfl rfl rfl rfl) (QAll.cons (QOp.q rfl rfl (Quiet1.idxS (s := _) hT rfl rfl rfl rfl rfl hc12 hd12) rfl rfl) QAll.nil)))))))))))))))))))))) ?_
  refine EAll.cons ?_ EAll.nil
  refine EOp.e rfl rfl rfl (EffX.store hT rfl rfl rfl rfl rfl H) ?_
  rintro _ _ ⟨h0u2, rfl, H⟩
  obtain ⟨a_5_, hc13, hd13, H⟩ := H
  apply Stg.next [(33, _)] rfl rfl
  refine Stg.go [9, 14, 21, 22, 25] [26] rfl rfl (QAll.cons (QOp.p hT rfl rfl rfl rfl rfl) (QAll.cons (QOp.p hT rfl rfl rfl rfl rfl) (QAll.cons (QOp.p hT rfl rfl rfl rfl rfl) (QAll.cons (QOp.p hT rfl rfl rfl rfl rfl) (QAll.cons (QOp.q rfl rfl (Quiet1.idxS (s := _) hT rfl rfl rfl rfl rfl hc13 hd13) rfl rfl) QAll.nil))))) ?_
  refine EAll.cons ?_ EAll.nil
  refine EOp.e rfl rfl rfl (EffX.store hT rfl rfl rfl rfl rfl H) ?_
  rintro _ _ ⟨h0u3, rfl, H⟩
  obtain ⟨a_6_, hc14, hd14, H⟩ := H
  apply Stg.next [(34, _)] rfl rfl
  refine Stg.go [14, 22, 27] [28] rfl rfl (QAll.cons (QOp.p hT rfl rfl rfl rfl rfl) (QAll.cons (QOp.p hT rfl rfl rfl rfl rfl) (QAll.cons (QOp.q rfl rfl (Quiet1.idxS (s := _) hT rfl rfl rfl rfl rfl hc14 hd14) rfl rfl) QAll.nil))) ?_
  refine EAll.cons ?_ EAll.nil
  refine EOp.e rfl rfl rfl (EffX.store hT rfl rfl rfl rfl rfl H) ?_
  rintro _ _ ⟨h0u4, rfl, H⟩
  apply Stg.next [] rfl rfl
  refine Stg.fin [] rfl rfl QAll.nil ?_
  refine AtE.then_n (AtE.go ?_)
  refine AtC.region ?_
  refine AtL.pures hT 2 _ _ _ _ rfl ?_
  obtain ⟨a_7, hc15, H⟩ := H
  refine AtL.q rfl (Quiet1.nilChk rfl rfl hc15) ?_
  refine AtL.pures hT 1 _ _ _ _ rfl ?_
  obtain ⟨v_6, hc16, H⟩ := H
  refine AtL.q rfl (Quiet1.load hT rfl rfl rfl hc16) ?_
  refine AtL.pures hT 1 _ _ _ _ rfl ?_
  refine AtLX.bs (hT := hT) (cs := [_]) H rfl rfl rfl rfl rfl rfl rfl rfl rfl (fun a_8 h0u5 H => ?_)
  refine AtL.e rfl (EffX.appendS (s := _) (u := _) hT rfl rfl rfl rfl rfl rfl rfl rfl rfl rfl (by decide) H) ?_
  rintro _ _ ⟨v_8, h0u6, rfl, rfl, H⟩
  obtain ⟨a_9, hc17, H⟩ := H
  refine AtL.q rfl (Quiet1.nilChk rfl rfl hc17) ?_
  refine AtL.pures hT 1 _ _ _ _ rfl ?_
  refine AtL.e rfl (EffX.store hT rfl rfl rfl rfl rfl H) ?_
  rintro _ _ ⟨h0u7, rfl, H⟩
  refine AtL.nil ?_
  exact AtE.endN rfl rfl H

theorem lift_clause_Tell (s0 : (Option Addr)) (lit : Int) (reason : Int) (w : World) (m : Heap) (hr : Rel ⟨m, []⟩ w.heap) (S : Bool → Heap → Prop) (H : clause_Tell s0 lit reason m S) :
    Calls Tryz.prog 16 #[Value.pointer s0, Value.int .i64 lit, Value.int .i64 reason] w (Post ⟨w, m⟩ Value.bool S) := by
  refine Calls.lift (args := [Value.pointer s0, Value.int .i64 lit, Value.int .i64 reason]) Tryz.func16 rfl Tryz.ntmps16 (Nat.le_of_ble_eq_true rfl) hr (clause_Tell s0 lit reason m S) H (fun H => ?_)
  refine AtC.pick (ts := [0, 1, 2]) rfl ?_
  unfold clause_Tell at H
  refine AtC.seqR ?_
  refine AtL.pures hT 1 _ _ _ _ rfl ?_
  refine AtL.nil ?_
  refine AtE.then_n (AtE.go ?_)
  refine AtC.joinSeq (β := Unit) (fun (t0 : Unit) (bb : Unit) => []) (fun (t0 : Unit) (bb : Unit) => []) [] [] H (by exact rfl) (by exact rfl) (fun t0 bb h0 H => ?_) (fun J1 H HK1 => ?_)
  ·
   refine AtC.seqR ?_
   refine AtL.pures hT 1 _ _ _ _ rfl ?_
   refine AtL.nil ?_
   refine AtE.then_n (AtE.go ?_)
   refine AtC.ret ?_
   exact AtE.retN (rs := [.tmp 6]) rfl (ResAll.cons (ResAt.tmp rfl) ResAll.nil) rfl H
  ·
   refine AtC.block ?_
   refine AtC.joinSeq (β := Unit) (fun (t0u1 : Bool) (bb_1 : Unit) => [(7, Value.bool t0u1)]) (fun (t0u1 : Bool) (bb_1 : Unit) => []) [0, 1, 2] [] H (by exact rfl) (by exact rfl) (fun t0u1 bb_1 h0u1 H => ?_) (fun J2 H HK2 => ?_)
   ·
    refine AtC.condB H rfl (fun H => ?_) (fun H => ?_)
    ·
     refine AtC.seqR ?_
     refine AtL.pures hT 1 _ _ _ _ rfl ?_
     refine AtL.nil ?_
     refine AtE.then_n (AtE.go ?_)
     refine AtC.ret ?_
     refine AtE.blk_r ?_
     refine AtE.then_r ?_
     exact AtE.retN (rs := [.tmp 6]) rfl (ResAll.cons (ResAt.tmp rfl) ResAll.nil) rfl H
    ·
     refine AtC.seqR ?_
     refine AtL.pures hT 1 _ _ _ _ rfl ?_
     obtain ⟨a_1, hc4, H⟩ := H
     refine AtL.q rfl (Quiet1.nilChk rfl rfl hc4) ?_
     obtain ⟨v_3, hc5, H⟩ := H
     refine AtL.q rfl (Quiet1.loadS hT rfl rfl rfl rfl hc5) ?_
     refine AtL.pures hT 1 _ _ _ _ rfl ?_
     refine AtL.e rfl (EffX.call (f := 40) (sh := fun h => clause_Value _ _ h _) (H0 := H) rfl Tryz.call40 rfl (hl := fun w m hr hw => lift_clause_Value _ _ w m hr _ hw)) ?_
     rintro _ _ ⟨v_4, h0u4, rfl, rfl, H⟩
     refine AtL.pures hT 2 _ _ _ _ rfl ?_
     refine AtL.nil ?_
     refine AtE.then_n (AtE.go ?_)
     refine AtC.condB H rfl (fun H => ?_) (fun H => ?_)
     ·
      refine AtC.region ?_
      refine AtL.pures hT 3 _ _ _ _ rfl ?_
      refine AtL.e rfl (EffX.call (f := 41) (sh := fun h => clause_put _ _ _ h _) (H0 := H) rfl Tryz.call41 rfl (hl := fun w m hr hw => lift_clause_put _ _ _ w m hr _ hw)) ?_
      rintro _ _ ⟨v_5, h0u5, rfl, rfl, H⟩
      refine AtL.nil ?_
      refine AtE.blk_n ?_
      exact AtE.then_n ((HK1 _ () _ H).pickP (ts := []) (is := []) rfl rfl (by decide) rfl)
     ·
      refine AtC.skip ?_
      refine AtE.blk_n ?_
      exact AtE.then_n ((HK1 _ () _ H).pickP (ts := []) (is := []) rfl rfl (by decide) rfl)
   ·
    refine AtC.region ?_
    refine AtL.pures hT 2 _ _ _ _ rfl ?_
    refine AtL.e rfl (EffX.call (f := 39) (sh := fun h => clause_there _ _ h _) (H0 := H) rfl Tryz.call39 rfl (hl := fun w m hr hw => lift_clause_there _ _ w m hr _ hw)) ?_
    rintro _ _ ⟨v, h0u2, rfl, rfl, H⟩
    refine AtL.pures hT 2 _ _ _ _ rfl ?_
    refine AtL.splitB (t := 12) H rfl (fun H => ?_) (fun H => ?_)
    ·
     refine AtL.noF rfl rfl rfl (by decide) rfl ?_
     refine AtL.noF rfl rfl rfl (by decide) rfl ?_
     refine AtL.noF rfl rfl rfl (by decide) rfl ?_
     refine AtL.noF rfl rfl rfl (by decide) rfl ?_
     refine AtL.noF rfl rfl rfl (by decide) rfl ?_
     refine AtL.noF rfl rfl rfl (by decide) rfl ?_
     refine AtL.pures hT 2 _ _ _ _ rfl ?_
     refine AtL.nil ?_
     exact AtE.then_n ((HK2 _ () _ H).pickP (ts := [7, 0, 1, 2]) (is := []) rfl rfl (by decide) rfl)
    ·
     refine AtL.yes rfl rfl rfl ?_
     refine AtL.pures hT 1 _ _ _ _ rfl ?_
     refine AtL.yes rfl rfl rfl ?_
     obtain ⟨a, hc2, H⟩ := H
     refine AtL.q rfl (Quiet1.nilChk rfl rfl hc2) ?_
     refine AtL.yes rfl rfl rfl ?_
     obtain ⟨v_1, hc3, H⟩ := H
     refine AtL.q rfl (Quiet1.loadS hT rfl rfl rfl rfl hc3) ?_
     refine AtL.yes rfl rfl rfl ?_
     refine AtL.pures hT 1 _ _ _ _ rfl ?_
     refine AtL.yes rfl rfl rfl ?_
     refine AtL.e rfl (EffX.call (f := 40) (sh := fun h => clause_Value _ _ h _) (H0 := H) rfl Tryz.call40 rfl (hl := fun w m hr hw => lift_clause_Value _ _ w m hr _ hw)) ?_
     rintro _ _ ⟨v_2, h0u3, rfl, rfl, H⟩
     refine AtL.yes rfl rfl rfl ?_
     refine AtL.pures hT 1 _ _ _ _ rfl ?_
     refine AtL.pures hT 2 _ _ _ _ rfl ?_
     refine AtL.nil ?_
     exact AtE.then_n ((HK2 _ () _ H).pickP (ts := [7, 0, 1, 2]) (is := []) rfl rfl (by decide) rfl)

theorem lift_engine_New (p : Int × Int × Sl × Sl × Sl × Sl × Sl) (l : Int × Int) (w : World) (m : Heap) (hr : Rel ⟨m, []⟩ w.heap) (S : ((Int × Int × Sl × Sl × Sl × Sl × Sl × Int × Int × Sl × Sl × Sl × Sl × Sl × Sl × Sl × Int × Sl × Sl × Sl × Sl × Sl × Sl × Sl × Sl × Int × Sl × Int × Int × Int × Int × Int × Int) × Int) → Heap → Prop) (H : engine_New p l m S) :
    Calls Tryz.prog 7 #[Value.agg (C_i64ui64usl_sl_sl_sl_sl p).toArray, Value.agg (C_i64ui64 l).toArray] w (Post ⟨w, m⟩ (fun r => Value.tuple #[(fun r => Value.agg (C_i64ui64usl_sl_sl_sl_sl_i64ui64usl_sl_sl_sl_sl_sl_sl_i64usl_sl_sl_sl_sl_sl_sl_sl_i64usl_i64ui64ui64ui64ui64ui64 r).toArray) r.1, (Value.int .i64) r.2]) S) := by
  refine Calls.lift (args := [Value.agg (C_i64ui64usl_sl_sl_sl_sl p).toArray, Value.agg (C_i64ui64 l).toArray]) Tryz.func7 rfl Tryz.ntmps7 (Nat.le_of_ble_eq_true rfl) hr (engine_New p l m S) H (fun H => ?_)
  refine AtC.pick (ts := [0, 1]) rfl ?_
  unfold engine_New at H
  refine AtC.seqR ?_
  refine AtL.e rfl (EffX.boxP (cs := [_, _, _, _, _, _, _]) rfl rfl rfl H) ?_
  rintro _ _ ⟨b, _, rfl, rfl, _, H⟩
  refine AtL.e rfl (EffX.boxP (cs := [_, _]) rfl rfl rfl H) ?_
  rintro _ _ ⟨b_1, _, rfl, rfl, _, H⟩
  refine AtL.e rfl (EffX.allocP (cs := [_, _, _, _, _, _, _, _, _, _, _, _, _, _, _, _, _, _, _, _, _, _, _, _, _, _, _, _, _, _, _, _, _]) hT rfl rfl H) ?_
  rintro _ _ ⟨b_2, _, rfl, rfl, _, H⟩
  replace H := H.self
  refine AtL.pures hT 1 _ _ _ _ rfl ?_
  refine AtL.nil ?_
  refine AtE.then_n (AtE.go ?_)
  refine AtC.seq ?_
  refine AtC.joinSeq (β := Unit) (fun (t0 : Bool) (bb : Unit) => [(21, Value.bool t0)]) (fun (t0 : Bool) (bb : Unit) => []) [2, 3, 4] [0, 1, 2] H (by exact rfl) (by exact rfl) (fun t0 bb h0u1 H => ?_) (fun J1 H HK1 => ?_)
  ·
   refine AtC.condB H rfl (fun H => ?_) (fun H => ?_)
   ·
    refine AtC.seqR ?_
    refine AtL.q rfl (Quiet1.build (cs := [Value.int .i64 0, Value.int .i64 0, Sl.toV Sl.nil, Sl.toV Sl.nil, Sl.toV Sl.nil, Sl.toV Sl.nil, Sl.toV Sl.nil, Value.int .i64 0, Value.int .i64 0, Sl.toV Sl.nil, Sl.toV Sl.nil, Sl.toV Sl.nil, Sl.toV Sl.nil, Sl.toV Sl.nil, Sl.toV Sl.nil, Sl.toV Sl.nil, Value.int .i64 0, Sl.toV Sl.nil, Sl.toV Sl.nil, Sl.toV Sl.nil, Sl.toV Sl.nil, Sl.toV Sl.nil, Sl.toV Sl.nil, Sl.toV Sl.nil, Sl.toV Sl.nil, Value.int .i64 0, Sl.toV Sl.nil, Value.int .i64 0, Value.int .i64 0, Value.int .i64 0, Value.int .i64 0, Value.int .i64 0, Value.int .i64 0]) hT rfl rfl rfl rfl rfl (by kernel_rfl)) ?_
    refine AtL.e rfl (EffX.storeSPw (i := 0) (qv := [(_, [_, _, _, _, _, _, _, _, _, _, _, _, _, _, _, _, _, _, _, _, _, _, _, _, _, _, _, _, _, _, _, _, _]), (_, [_, _]), (_, [_, _, _, _, _, _, _])]) hT rfl rfl rfl rfl rfl rfl rfl rfl rfl rfl rfl) ?_
    rintro _ _ rfl
    refine AtL.pures hT 1 _ _ _ _ rfl ?_
    refine AtL.nil ?_
    refine AtE.then_n (AtE.go ?_)
    refine AtC.ret ?_
    refine AtE.then_r ?_
    exact AtE.retN (rs := [.cell 4 45, .tmp 5]) rfl (ResAll.cons (ResAt.cellSP (i := 0) (l := [_, _, _, _, _, _, _, _, _, _, _, _, _, _, _, _, _, _, _, _, _, _, _, _, _, _, _, _, _, _, _, _, _]) hT rfl rfl rfl rfl rfl rfl rfl) (ResAll.cons (ResAt.tmp rfl) ResAll.nil)) rfl H
   ·
    refine AtC.skip ?_
    refine AtE.then_n (AtE.go ?_)
    refine AtC.joinSeq (β := Unit) (fun (t0u1 : Addr) (bb_1 : Unit) => [(6, Value.pointer (some t0u1))]) (fun (t0u1 : Addr) (bb_1 : Unit) => []) [2, 4] [0, 2] H (by exact rfl) (by exact rfl) (fun t0u1 bb_1 h0u3 H => ?_) (fun J2 H HK2 => ?_)
    ·
     refine AtC.seqR ?_
     refine AtL.pures hT 1 _ _ _ _ rfl ?_
     refine AtL.nil ?_
     refine AtE.then_n (AtE.go ?_)
     refine AtC.seq ?_
     refine AtC.seqR ?_
     refine AtL.pures hT 1 _ _ _ _ rfl ?_
     refine AtL.q rfl (Quiet1.loadP (i := 1) hT rfl rfl rfl rfl rfl rfl) ?_
     refine AtL.pures hT 2 _ _ _ _ rfl ?_
     refine AtL.nil ?_
     refine AtE.then_n (AtE.go ?_)
     refine AtC.block ?_
     refine AtC.loopM (fun (s0u14 : Sl × Int) => [(7, Sl.toV s0u14.1), (45, Value.int .i64 s0u14.2)]) (fun (s0u14 : Sl × Int) => []) [4, 6, 43, 44] [7, 45, 4, 6, 43, 44] [0] [0] H (by exact rfl) (by exact rfl) (by exact rfl) (by decide) (by exact rfl) (fun Kp3 s0u14 h0u87 H Q3 HK3 => ?_)
     refine AtC.seqR ?_
     refine AtL.pures hT 1 _ _ _ _ rfl ?_
     refine AtL.nil ?_
     refine AtE.then_n (AtE.go ?_)
     refine AtC.seq ?_
     refine AtC.condB H rfl (fun H => ?_) (fun H => ?_)
     ·
      refine AtC.skip ?_
      refine AtE.then_n (AtE.go ?_)
      refine AtC.joinSeq (β := Unit) (fun (t0u2 : Sl) (bb_2 : Unit) => [(7, Sl.toV t0u2)]) (fun (t0u2 : Sl) (bb_2 : Unit) => []) [4, 6, 43, 44, 45] [0] H (by exact rfl) (by exact rfl) (fun t0u2 bb_2 h0u88 H => ?_) (fun J4 H HK4 => ?_)
      ·
       refine AtC.region ?_
       refine AtL.pures hT 2 _ _ _ _ rfl ?_
       refine AtL.nil ?_
       exact AtE.then_n ((HK3 _ _ H).pickP (ts := [7, 45, 4, 6, 43, 44]) (is := [0]) rfl rfl (by decide) rfl)
      ·
       refine AtC.block ?_
       refine AtC.seqR ?_
       obtain ⟨a_, hc4, hd4, H⟩ := H
       refine AtL.q rfl (Quiet1.idxS (s := _) hT rfl rfl rfl rfl rfl hc4 hd4) ?_
       obtain ⟨v_50, hc5, H⟩ := H
       refine AtL.q rfl (Quiet1.load hT rfl rfl rfl hc5) ?_
       refine AtL.pures hT 1 _ _ _ _ rfl ?_
       refine AtL.nil ?_
       refine AtE.then_n (AtE.go ?_)
       refine AtC.seqR ?_
       refine AtL.pures hT 1 _ _ _ _ rfl ?_
       exact H.elim
     ·
      refine AtC.exit ?_
      refine AtE.then_x ?_
      refine AtE.then_x ?_
      refine AtE.blk_hit ?_
      refine AtE.then_n (AtE.go ?_)
      refine AtC.seq ?_
      refine AtC.seqR ?_
      refine AtL.pures hT 3 _ _ _ _ rfl ?_
      refine AtL.nil ?_
      refine AtE.then_n (AtE.go ?_)
      refine AtC.block ?_
      refine AtC.loopM (fun (s0u15 : Int) => [(78, Value.int .i64 s0u15)]) (fun (s0u15 : Int) => []) [4, 6, 76, 77] [78, 4, 6, 76, 77] [0] [0] H (by exact rfl) (by exact rfl) (by exact rfl) (by decide) (by exact rfl) (fun Kp7 s0u15 h0u89 H Q7 HK7 => ?_)
      refine AtC.seqR ?_
      refine AtL.pures hT 1 _ _ _ _ rfl ?_
      refine AtL.nil ?_
      refine AtE.then_n (AtE.go ?_)
      refine AtC.seq ?_
      refine AtC.condB H rfl (fun H => ?_) (fun H => ?_)
      ·
       refine AtC.skip ?_
       refine AtE.then_n (AtE.go ?_)
       refine AtC.joinSeq (β := Unit) (fun (t0u3 : Unit) (bb_3 : Unit) => []) (fun (t0u3 : Unit) (bb_3 : Unit) => []) [4, 6, 76, 77, 78] [0] H (by exact rfl) (by exact rfl) (fun t0u3 bb_3 h0u90 H => ?_) (fun J8 H HK8 => ?_)
       ·
        refine AtC.region ?_
        refine AtL.pures hT 2 _ _ _ _ rfl ?_
        refine AtL.nil ?_
        exact AtE.then_n ((HK7 _ _ H).pickP (ts := [78, 4, 6, 76, 77]) (is := [0]) rfl rfl (by decide) rfl)
       ·
        refine AtC.block ?_
        refine AtC.seqR ?_
        obtain ⟨a_1_, hc8, hd8, H⟩ := H
        refine AtL.q rfl (Quiet1.idxS (s := _) hT rfl rfl rfl rfl rfl hc8 hd8) ?_
        obtain ⟨v_51, hc9, H⟩ := H
        refine AtL.q rfl (Quiet1.load hT rfl rfl rfl hc9) ?_
        refine AtL.pures hT 1 _ _ _ _ rfl ?_
        refine AtL.nil ?_
        refine AtE.then_n (AtE.go ?_)
        refine AtC.seqR ?_
        refine AtL.pures hT 2 _ _ _ _ rfl ?_
        refine AtL.e rfl (EffX.call (f := 16) (sh := fun h => clause_Tell _ _ _ h _) (H0 := H) rfl Tryz.call16 rfl (hl := fun w m hr hw => lift_clause_Tell _ _ _ w m hr _ hw)) ?_
        rintro _ _ ⟨v_52, h0u91, rfl, rfl, H⟩
        refine AtL.pures hT 1 _ _ _ _ rfl ?_
        refine AtL.nil ?_
        refine AtE.then_n (AtE.go ?_)
        refine AtC.condB H rfl (fun H => ?_) (fun H => ?_)
        ·
         refine AtC.region ?_
         refine AtL.pures hT 1 _ _ _ _ rfl ?_
         refine AtL.e rfl (EffX.store hT rfl rfl rfl rfl rfl H) ?_
         rintro _ _ ⟨h0u92, rfl, H⟩
         refine AtL.nil ?_
         refine AtE.blk_n ?_
         exact AtE.then_n ((HK8 _ () _ H).pickP (ts := [4, 6, 76, 77, 78]) (is := [0]) rfl rfl (by decide) rfl)
        ·
         refine AtC.skip ?_
         refine AtE.blk_n ?_
         exact AtE.then_n ((HK8 _ () _ H).pickP (ts := [4, 6, 76, 77, 78]) (is := [0]) rfl rfl (by decide) rfl)
      ·
       refine AtC.exit ?_
       refine AtE.then_x ?_
       refine AtE.then_x ?_
       refine AtE.blk_hit ?_
       refine AtE.then_n (AtE.go ?_)
       refine AtC.seqR ?_
       obtain ⟨v_53, hc10, H⟩ := H
       refine AtL.q rfl (Quiet1.loadS hT rfl rfl rfl rfl hc10) ?_
       refine AtL.e rfl (EffX.storeSPw (i := 0) (qv := [(_, [_, _, _, _, _, _, _, _, _, _, _, _, _, _, _, _, _, _, _, _, _, _, _, _, _, _, _, _, _, _, _, _, _])]) hT rfl rfl rfl rfl rfl rfl rfl rfl rfl rfl rfl) ?_
       rintro _ _ rfl
       refine AtL.pures hT 1 _ _ _ _ rfl ?_
       refine AtL.nil ?_
       refine AtE.then_n (AtE.go ?_)
       refine AtC.ret ?_
       exact AtE.retN (rs := [.cell 4 45, .tmp 5]) rfl (ResAll.cons (ResAt.cellSP (i := 0) (l := [_, _, _, _, _, _, _, _, _, _, _, _, _, _, _, _, _, _, _, _, _, _, _, _, _, _, _, _, _, _, _, _, _]) hT rfl rfl rfl rfl rfl rfl rfl) (ResAll.cons (ResAt.tmp rfl) ResAll.nil)) rfl H
    ·
     apply AtC.stages [4, 7, 9, 12, 19, 20] [[], [], [], [], [], [], [], [4], [], [4, 7], [], [], [], [], [], [], [], [], [4, 7, 9, 12], [], [4, 7, 9, 12, 19]] [[], [], [], [2], [2, 3], [], [5], [2, 3, 4, 5, 6], [], [2, 3, 4, 5, 6, 7, 8], [], [10], [10, 11], [], [13], [13, 14], [13, 14, 15], [13, 14, 15, 16], [0, 1, 2, 3, 4, 5, 6, 7, 8, 9, 10, 11, 12, 13, 14, 15, 16, 17], [], [0, 1, 2, 3, 4, 5, 6, 7, 8, 9, 10, 11, 12, 13, 14, 15, 16, 17, 18, 19]] hmix (by kernel_rfl) [(23, _), (24, _), (25, _), (26, _), (28, _), (29, _), (31, _), (33, _), (34, _), (36, _), (37, _), (38, _), (39, _), (40, _)] rfl 6 rfl
     refine Stg.go [0, 1, 2, 3, 5, 6, 8, 10, 11, 13, 14, 15, 16, 17] [4, 12, 19] rfl rfl (QAll.cons (QOp.q rfl rfl (Quiet1.loadSP (i := 2) (l := [_, _, _, _, _, _, _]) hT rfl rfl rfl rfl rfl rfl rfl rfl) rfl rfl) (QAll.cons (QOp.q rfl rfl (Quiet1.loadSP (i := 1) (l := [_, _]) hT rfl rfl rfl rfl rfl rfl rfl rfl) rfl rfl) (QAll.cons (QOp.p hT rfl rfl rfl rfl rfl) (QAll.cons (QOp.q rfl rfl (Quiet1.loadP (i := 2) hT rfl rfl rfl rfl rfl rfl) rfl rfl) (QAll.cons (QOp.p hT rfl rfl rfl rfl rfl) (QAll.cons (QOp.q rfl rfl (Quiet1.loadP (i := 2) hT rfl rfl rfl rfl rfl rfl) rfl rfl) (QAll.cons (QOp.q rfl rfl (Quiet1.loadSP (i := 2) (l := [_, _, _, _, _, _, _]) hT rfl rfl rfl rfl rfl rfl rfl rfl) rfl rfl) (QAll.cons (QOp.p hT rfl rfl rfl rfl rfl) (QAll.cons (QOp.q rfl rfl (Quiet1.loadP (i := 2) hT rfl rfl rfl rfl rfl rfl) rfl rfl) (QAll.cons (QOp.p hT rfl rfl rfl rfl rfl) (QAll.cons (QOp.q rfl rfl (Quiet1.loadP (i := 2) hT rfl rfl rfl rfl rfl rfl) rfl rfl) (QAll.cons (QOp.p hT rfl rfl rfl rfl rfl) (QAll.cons (QOp.p hT rfl rfl rfl rfl rfl) (QAll.cons (QOp.p hT rfl rfl rfl rfl rfl) QAll.nil)))))))))))))) ?_
     refine EAll.cons ?_ ?_
     ·
      replace H := H.1
      refine EOp.e rfl rfl rfl (EffX.call (f := 11) (sh := fun h => clause_New _ h _) (H0 := H) rfl Tryz.call11 rfl (hl := fun w m hr hw => lift_clause_New _ w m hr _ hw)) ?_
      rintro _ _ ⟨v_1, h0u4, rfl, rfl, H⟩
      apply Stg.next [(27, _)] rfl rfl
      refine Stg.go [0, 1, 5, 6, 8, 10, 11, 13, 14, 15, 16, 17] [7, 12, 19] rfl rfl (QAll.cons (QOp.q rfl rfl (Quiet1.loadSP (i := 2) (l := [_, _, _, _, _, _, _]) hT rfl rfl rfl rfl rfl rfl rfl rfl) rfl rfl) (QAll.cons (QOp.q rfl rfl (Quiet1.loadSP (i := 1) (l := [_, _]) hT rfl rfl rfl rfl rfl rfl rfl rfl) rfl rfl) (QAll.cons (QOp.p hT rfl rfl rfl rfl rfl) (QAll.cons (QOp.q rfl rfl (Quiet1.loadP (i := 2) hT rfl rfl rfl rfl rfl rfl) rfl rfl) (QAll.cons (QOp.q rfl rfl (Quiet1.loadSP (i := 2) (l := [_, _, _, _, _, _, _]) hT rfl rfl rfl rfl rfl rfl rfl rfl) rfl rfl) (QAll.cons (QOp.p hT rfl rfl rfl rfl rfl) (QAll.cons (QOp.q rfl rfl (Quiet1.loadP (i := 2) hT rfl rfl rfl rfl rfl rfl) rfl rfl) (QAll.cons (QOp.p hT rfl rfl rfl rfl rfl) (QAll.cons (QOp.q rfl rfl (Quiet1.loadP (i := 2) hT rfl rfl rfl rfl rfl rfl) rfl rfl) (QAll.cons (QOp.p hT rfl rfl rfl rfl rfl) (QAll.cons (QOp.p hT rfl rfl rfl rfl rfl) (QAll.cons (QOp.p hT rfl rfl rfl rfl rfl) QAll.nil)))))))))))) ?_
      refine EAll.cons ?_ ?_
      ·
       replace H := H.1
       refine EOp.e rfl rfl rfl (EffX.call (f := 12) (sh := fun h => queue_New _ h _) (H0 := H) rfl Tryz.call12 rfl (hl := fun w m hr hw => lift_queue_New _ w m hr _ hw)) ?_
       rintro _ _ ⟨v_2, h0u5, rfl, rfl, H⟩
       apply Stg.next [(30, _)] rfl rfl
       refine Stg.go [0, 1, 8, 10, 11, 13, 14, 15, 16, 17] [9, 12, 19] rfl rfl (QAll.cons (QOp.q rfl rfl (Quiet1.loadSP (i := 2) (l := [_, _, _, _, _, _, _]) hT rfl rfl rfl rfl rfl rfl rfl rfl) rfl rfl) (QAll.cons (QOp.q rfl rfl (Quiet1.loadSP (i := 1) (l := [_, _]) hT rfl rfl rfl rfl rfl rfl rfl rfl) rfl rfl) (QAll.cons (QOp.q rfl rfl (Quiet1.loadSP (i := 2) (l := [_, _, _, _, _, _, _]) hT rfl rfl rfl rfl rfl rfl rfl rfl) rfl rfl) (QAll.cons (QOp.p hT rfl rfl rfl rfl rfl) (QAll.cons (QOp.q rfl rfl (Quiet1.loadP (i := 2) hT rfl rfl rfl rfl rfl rfl) rfl rfl) (QAll.cons (QOp.p hT rfl rfl rfl rfl rfl) (QAll.cons (QOp.q rfl rfl (Quiet1.loadP (i := 2) hT rfl rfl rfl rfl rfl rfl) rfl rfl) (QAll.cons (QOp.p hT rfl rfl rfl rfl rfl) (QAll.cons (QOp.p hT rfl rfl rfl rfl rfl) (QAll.cons (QOp.p hT rfl rfl rfl rfl rfl) QAll.nil)))))))))) ?_
       refine EAll.cons ?_ ?_
       ·
        replace H := H.1
        refine EOp.e rfl rfl rfl (EffX.call (f := 13) (sh := fun h => tableau_New _ h _) (H0 := H) rfl Tryz.call13 rfl (hl := fun w m hr hw => lift_tableau_New _ w m hr _ hw)) ?_
        rintro _ _ ⟨v_3, h0u6, rfl, rfl, H⟩
        apply Stg.next [(32, _)] rfl rfl
        refine Stg.go [0, 1, 10, 11, 13, 14, 15, 16, 17] [12, 19] rfl rfl (QAll.cons (QOp.q rfl rfl (Quiet1.loadSP (i := 2) (l := [_, _, _, _, _, _, _]) hT rfl rfl rfl rfl rfl rfl rfl rfl) rfl rfl) (QAll.cons (QOp.q rfl rfl (Quiet1.loadSP (i := 1) (l := [_, _]) hT rfl rfl rfl rfl rfl rfl rfl rfl) rfl rfl) (QAll.cons (QOp.p hT rfl rfl rfl rfl rfl) (QAll.cons (QOp.q rfl rfl (Quiet1.loadP (i := 2) hT rfl rfl rfl rfl rfl rfl) rfl rfl) (QAll.cons (QOp.p hT rfl rfl rfl rfl rfl) (QAll.cons (QOp.q rfl rfl (Quiet1.loadP (i := 2) hT rfl rfl rfl rfl rfl rfl) rfl rfl) (QAll.cons (QOp.p hT rfl rfl rfl rfl rfl) (QAll.cons (QOp.p hT rfl rfl rfl rfl rfl) (QAll.cons (QOp.p hT rfl rfl rfl rfl rfl) QAll.nil))))))))) ?_
        refine EAll.cons ?_ ?_
        ·
         replace H := H.1
         refine EOp.e rfl rfl rfl (EffX.mkS hT rfl rfl rfl rfl rfl rfl rfl rfl (by decide) H) ?_
         rintro _ _ ⟨v_4, h0u7, rfl, rfl, H⟩
         apply Stg.next [(35, _), (41, _)] rfl rfl
         refine Stg.go [0, 1, 13, 14, 15, 16, 17, 18] [19] rfl rfl (QAll.cons (QOp.q rfl rfl (Quiet1.loadSP (i := 2) (l := [_, _, _, _, _, _, _]) hT rfl rfl rfl rfl rfl rfl rfl rfl) rfl rfl) (QAll.cons (QOp.q rfl rfl (Quiet1.loadSP (i := 1) (l := [_, _]) hT rfl rfl rfl rfl rfl rfl rfl rfl) rfl rfl) (QAll.cons (QOp.p hT rfl rfl rfl rfl rfl) (QAll.cons (QOp.q rfl rfl (Quiet1.loadP (i := 2) hT rfl rfl rfl rfl rfl rfl) rfl rfl) (QAll.cons (QOp.p hT rfl rfl rfl rfl rfl) (QAll.cons (QOp.p hT rfl rfl rfl rfl rfl) (QAll.cons (QOp.p hT rfl rfl rfl rfl rfl) (QAll.cons (QOp.q rfl rfl (Quiet1.build (cs := [Value.int .i64 p.1, Value.int .i64 p.2.1, Sl.toV p.2.2.1, Sl.toV p.2.2.2.1, Sl.toV p.2.2.2.2.1, Sl.toV p.2.2.2.2.2.1, Sl.toV p.2.2.2.2.2.2, Value.int .i64 l.1, Value.int .i64 l.2, Sl.toV v_1.1, Sl.toV v_1.2.1, Sl.toV v_1.2.2.1, Sl.toV v_1.2.2.2.1, Sl.toV v_1.2.2.2.2.1, Sl.toV v_1.2.2.2.2.2.1, Sl.toV v_1.2.2.2.2.2.2.1, Value.int .i64 v_1.2.2.2.2.2.2.2, Sl.toV v_2.1, Sl.toV v_2.2, Sl.toV v_3.1, Sl.toV v_3.2.1, Sl.toV v_3.2.2.1, Sl.toV v_3.2.2.2.1, Sl.toV v_3.2.2.2.2, Sl.toV Sl.nil, Value.int .i64 0, Sl.toV v_4, Value.int .i64 0, Value.int .i64 0, Value.int .i64 0, Value.int .i64 0, Value.int .i64 (IntKind.wrap .i64 (64 + (IntKind.wrap .i64 (Int.tdiv ((p.2.2.2.2.1.len : Nat) : Int) 3)))), Value.int .i64 0]) hT rfl rfl rfl rfl rfl (by kernel_rfl)) rfl rfl) QAll.nil)))))))) ?_
         refine EAll.cons ?_ EAll.nil
         refine EOp.e rfl rfl rfl (EffX.alloc hT rfl rfl H) ?_
         rintro _ _ ⟨s0, h0u8, rfl, rfl, H⟩
         apply Stg.next [(6, _)] rfl rfl
         refine Stg.go [0, 1, 13, 14, 15, 16, 17, 18] [20] rfl rfl (QAll.cons (QOp.q rfl rfl (Quiet1.loadSP (i := 2) (l := [_, _, _, _, _, _, _]) hT rfl rfl rfl rfl rfl rfl rfl rfl) rfl rfl) (QAll.cons (QOp.q rfl rfl (Quiet1.loadSP (i := 1) (l := [_, _]) hT rfl rfl rfl rfl rfl rfl rfl rfl) rfl rfl) (QAll.cons (QOp.p hT rfl rfl rfl rfl rfl) (QAll.cons (QOp.q rfl rfl (Quiet1.loadP (i := 2) hT rfl rfl rfl rfl rfl rfl) rfl rfl) (QAll.cons (QOp.p hT rfl rfl rfl rfl rfl) (QAll.cons (QOp.p hT rfl rfl rfl rfl rfl) (QAll.cons (QOp.p hT rfl rfl rfl rfl rfl) (QAll.cons (QOp.q rfl rfl (Quiet1.build (cs := [Value.int .i64 p.1, Value.int .i64 p.2.1, Sl.toV p.2.2.1, Sl.toV p.2.2.2.1, Sl.toV p.2.2.2.2.1, Sl.toV p.2.2.2.2.2.1, Sl.toV p.2.2.2.2.2.2, Value.int .i64 l.1, Value.int .i64 l.2, Sl.toV v_1.1, Sl.toV v_1.2.1, Sl.toV v_1.2.2.1, Sl.toV v_1.2.2.2.1, Sl.toV v_1.2.2.2.2.1, Sl.toV v_1.2.2.2.2.2.1, Sl.toV v_1.2.2.2.2.2.2.1, Value.int .i64 v_1.2.2.2.2.2.2.2, Sl.toV v_2.1, Sl.toV v_2.2, Sl.toV v_3.1, Sl.toV v_3.2.1, Sl.toV v_3.2.2.1, Sl.toV v_3.2.2.2.1, Sl.toV v_3.2.2.2.2, Sl.toV Sl.nil, Value.int .i64 0, Sl.toV v_4, Value.int .i64 0, Value.int .i64 0, Value.int .i64 0, Value.int .i64 0, Value.int .i64 (IntKind.wrap .i64 (64 + (IntKind.wrap .i64 (Int.tdiv ((p.2.2.2.2.1.len : Nat) : Int) 3)))), Value.int .i64 0]) hT rfl rfl rfl rfl rfl (by kernel_rfl)) rfl rfl) QAll.nil)))))))) ?_
         refine EAll.cons ?_ EAll.nil
         refine EOp.e rfl rfl rfl (EffX.storeS hT rfl rfl rfl rfl rfl rfl H) ?_
         rintro _ _ ⟨h0u9, rfl, H⟩
         apply Stg.next [] rfl rfl
         refine Stg.fin [] rfl rfl QAll.nil ?_
         exact AtE.then_n ((HK2 _ () _ H).pickP (ts := [6, 2, 4]) (is := [0, 2]) rfl rfl (by decide) rfl)
        refine EAll.cons ?_ EAll.nil
        replace H := H.2
        refine EOp.e rfl rfl rfl (EffX.alloc hT rfl rfl H) ?_
        rintro _ _ ⟨s0u1, h0u10, rfl, rfl, H⟩
        apply Stg.next [(6, _)] rfl rfl
        refine Stg.go [0, 1, 10, 11, 13, 14, 15, 16, 17] [12] rfl rfl (QAll.cons (QOp.q rfl rfl (Quiet1.loadSP (i := 2) (l := [_, _, _, _, _, _, _]) hT rfl rfl rfl rfl rfl rfl rfl rfl) rfl rfl) (QAll.cons (QOp.q rfl rfl (Quiet1.loadSP (i := 1) (l := [_, _]) hT rfl rfl rfl rfl rfl rfl rfl rfl) rfl rfl) (QAll.cons (QOp.p hT rfl rfl rfl rfl rfl) (QAll.cons (QOp.q rfl rfl (Quiet1.loadP (i := 2) hT rfl rfl rfl rfl rfl rfl) rfl rfl) (QAll.cons (QOp.p hT rfl rfl rfl rfl rfl) (QAll.cons (QOp.q rfl rfl (Quiet1.loadP (i := 2) hT rfl rfl rfl rfl rfl rfl) rfl rfl) (QAll.cons (QOp.p hT rfl rfl rfl rfl rfl) (QAll.cons (QOp.p hT rfl rfl rfl rfl rfl) (QAll.cons (QOp.p hT rfl rfl rfl rfl rfl) QAll.nil))))))))) ?_
        refine EAll.cons ?_ EAll.nil
        refine EOp.e rfl rfl rfl (EffX.mkS hT rfl rfl rfl rfl rfl rfl rfl rfl (by decide) H) ?_
        rintro _ _ ⟨v_5, h0u11, rfl, rfl, H⟩
        apply Stg.next [(35, _), (41, _)] rfl rfl
        refine Stg.go [0, 1, 13, 14, 15, 16, 17, 18] [20] rfl rfl (QAll.cons (QOp.q rfl rfl (Quiet1.loadSP (i := 2) (l := [_, _, _, _, _, _, _]) hT rfl rfl rfl rfl rfl rfl rfl rfl) rfl rfl) (QAll.cons (QOp.q rfl rfl (Quiet1.loadSP (i := 1) (l := [_, _]) hT rfl rfl rfl rfl rfl rfl rfl rfl) rfl rfl) (QAll.cons (QOp.p hT rfl rfl rfl rfl rfl) (QAll.cons (QOp.q rfl rfl (Quiet1.loadP (i := 2) hT rfl rfl rfl rfl rfl rfl) rfl rfl) (QAll.cons (QOp.p hT rfl rfl rfl rfl rfl) (QAll.cons (QOp.p hT rfl rfl rfl rfl rfl) (QAll.cons (QOp.p hT rfl rfl rfl rfl rfl) (QAll.cons (QOp.q rfl rfl (Quiet1.build (cs := [Value.int .i64 p.1, Value.int .i64 p.2.1, Sl.toV p.2.2.1, Sl.toV p.2.2.2.1, Sl.toV p.2.2.2.2.1, Sl.toV p.2.2.2.2.2.1, Sl.toV p.2.2.2.2.2.2, Value.int .i64 l.1, Value.int .i64 l.2, Sl.toV v_1.1, Sl.toV v_1.2.1, Sl.toV v_1.2.2.1, Sl.toV v_1.2.2.2.1, Sl.toV v_1.2.2.2.2.1, Sl.toV v_1.2.2.2.2.2.1, Sl.toV v_1.2.2.2.2.2.2.1, Value.int .i64 v_1.2.2.2.2.2.2.2, Sl.toV v_2.1, Sl.toV v_2.2, Sl.toV v_3.1, Sl.toV v_3.2.1, Sl.toV v_3.2.2.1, Sl.toV v_3.2.2.2.1, Sl.toV v_3.2.2.2.2, Sl.toV Sl.nil, Value.int .i64 0, Sl.toV v_5, Value.int .i64 0, Value.int .i64 0, Value.int .i64 0, Value.int .i64 0, Value.int .i64 (IntKind.wrap .i64 (64 + (IntKind.wrap .i64 (Int.tdiv ((p.2.2.2.2.1.len : Nat) : Int) 3)))), Value.int .i64 0]) hT rfl rfl rfl rfl rfl (by kernel_rfl)) rfl rfl) QAll.nil)))))))) ?_
        refine EAll.cons ?_ EAll.nil
        refine EOp.e rfl rfl rfl (EffX.storeS hT rfl rfl rfl rfl rfl rfl H) ?_
        rintro _ _ ⟨h0u12, rfl, H⟩
        apply Stg.next [] rfl rfl
        refine Stg.fin [] rfl rfl QAll.nil ?_
        exact AtE.then_n ((HK2 _ () _ H).pickP (ts := [6, 2, 4]) (is := [0, 2]) rfl rfl (by decide) rfl)
       refine EAll.cons ?_ ?_
       ·
        replace H := H.2.1
        refine EOp.e rfl rfl rfl (EffX.mkS hT rfl rfl rfl rfl rfl rfl rfl rfl (by decide) H) ?_
        rintro _ _ ⟨v_6, h0u13, rfl, rfl, H⟩
        apply Stg.next [(35, _)] rfl rfl
        refine Stg.go [0, 1, 8, 13, 14, 15, 16, 17] [9, 19] rfl rfl (QAll.cons (QOp.q rfl rfl (Quiet1.loadSP (i := 2) (l := [_, _, _, _, _, _, _]) hT rfl rfl rfl rfl rfl rfl rfl rfl) rfl rfl) (QAll.cons (QOp.q rfl rfl (Quiet1.loadSP (i := 1) (l := [_, _]) hT rfl rfl rfl rfl rfl rfl rfl rfl) rfl rfl) (QAll.cons (QOp.q rfl rfl (Quiet1.loadSP (i := 2) (l := [_, _, _, _, _, _, _]) hT rfl rfl rfl rfl rfl rfl rfl rfl) rfl rfl) (QAll.cons (QOp.p hT rfl rfl rfl rfl rfl) (QAll.cons (QOp.q rfl rfl (Quiet1.loadP (i := 2) hT rfl rfl rfl rfl rfl rfl) rfl rfl) (QAll.cons (QOp.p hT rfl rfl rfl rfl rfl) (QAll.cons (QOp.p hT rfl rfl rfl rfl rfl) (QAll.cons (QOp.p hT rfl rfl rfl rfl rfl) QAll.nil)))))))) ?_
        refine EAll.cons ?_ ?_
        ·
         replace H := H.1
         refine EOp.e rfl rfl rfl (EffX.call (f := 13) (sh := fun h => tableau_New _ h _) (H0 := H) rfl Tryz.call13 rfl (hl := fun w m hr hw => lift_tableau_New _ w m hr _ hw)) ?_
         rintro _ _ ⟨v_7, h0u14, rfl, rfl, H⟩
         apply Stg.next [(32, _), (41, _)] rfl rfl
         refine Stg.go [0, 1, 13, 14, 15, 16, 17, 18] [19] rfl rfl (QAll.cons (QOp.q rfl rfl (Quiet1.loadSP (i := 2) (l := [_, _, _, _, _, _, _]) hT rfl rfl rfl rfl rfl rfl rfl rfl) rfl rfl) (QAll.cons (QOp.q rfl rfl (Quiet1.loadSP (i := 1) (l := [_, _]) hT rfl rfl rfl rfl rfl rfl rfl rfl) rfl rfl) (QAll.cons (QOp.p hT rfl rfl rfl rfl rfl) (QAll.cons (QOp.q rfl rfl (Quiet1.loadP (i := 2) hT rfl rfl rfl rfl rfl rfl) rfl rfl) (QAll.cons (QOp.p hT rfl rfl rfl rfl rfl) (QAll.cons (QOp.p hT rfl rfl rfl rfl rfl) (QAll.cons (QOp.p hT rfl rfl rfl rfl rfl) (QAll.cons (QOp.q rfl rfl (Quiet1.build (cs := [Value.int .i64 p.1, Value.int .i64 p.2.1, Sl.toV p.2.2.1, Sl.toV p.2.2.2.1, Sl.toV p.2.2.2.2.1, Sl.toV p.2.2.2.2.2.1, Sl.toV p.2.2.2.2.2.2, Value.int .i64 l.1, Value.int .i64 l.2, Sl.toV v_1.1, Sl.toV v_1.2.1, Sl.toV v_1.2.2.1, Sl.toV v_1.2.2.2.1, Sl.toV v_1.2.2.2.2.1, Sl.toV v_1.2.2.2.2.2.1, Sl.toV v_1.2.2.2.2.2.2.1, Value.int .i64 v_1.2.2.2.2.2.2.2, Sl.toV v_2.1, Sl.toV v_2.2, Sl.toV v_7.1, Sl.toV v_7.2.1, Sl.toV v_7.2.2.1, Sl.toV v_7.2.2.2.1, Sl.toV v_7.2.2.2.2, Sl.toV Sl.nil, Value.int .i64 0, Sl.toV v_6, Value.int .i64 0, Value.int .i64 0, Value.int .i64 0, Value.int .i64 0, Value.int .i64 (IntKind.wrap .i64 (64 + (IntKind.wrap .i64 (Int.tdiv ((p.2.2.2.2.1.len : Nat) : Int) 3)))), Value.int .i64 0]) hT rfl rfl rfl rfl rfl (by kernel_rfl)) rfl rfl) QAll.nil)))))))) ?_
         refine EAll.cons ?_ EAll.nil
         refine EOp.e rfl rfl rfl (EffX.alloc hT rfl rfl H) ?_
         rintro _ _ ⟨s0u2, h0u15, rfl, rfl, H⟩
         apply Stg.next [(6, _)] rfl rfl
         refine Stg.go [0, 1, 13, 14, 15, 16, 17, 18] [20] rfl rfl (QAll.cons (QOp.q rfl rfl (Quiet1.loadSP (i := 2) (l := [_, _, _, _, _, _, _]) hT rfl rfl rfl rfl rfl rfl rfl rfl) rfl rfl) (QAll.cons (QOp.q rfl rfl (Quiet1.loadSP (i := 1) (l := [_, _]) hT rfl rfl rfl rfl rfl rfl rfl rfl) rfl rfl) (QAll.cons (QOp.p hT rfl rfl rfl rfl rfl) (QAll.cons (QOp.q rfl rfl (Quiet1.loadP (i := 2) hT rfl rfl rfl rfl rfl rfl) rfl rfl) (QAll.cons (QOp.p hT rfl rfl rfl rfl rfl) (QAll.cons (QOp.p hT rfl rfl rfl rfl rfl) (QAll.cons (QOp.p hT rfl rfl rfl rfl rfl) (QAll.cons (QOp.q rfl rfl (Quiet1.build (cs := [Value.int .i64 p.1, Value.int .i64 p.2.1, Sl.toV p.2.2.1, Sl.toV p.2.2.2.1, Sl.toV p.2.2.2.2.1, Sl.toV p.2.2.2.2.2.1, Sl.toV p.2.2.2.2.2.2, Value.int .i64 l.1, Value.int .i64 l.2, Sl.toV v_1.1, Sl.toV v_1.2.1, Sl.toV v_1.2.2.1, Sl.toV v_1.2.2.2.1, Sl.toV v_1.2.2.2.2.1, Sl.toV v_1.2.2.2.2.2.1, Sl.toV v_1.2.2.2.2.2.2.1, Value.int .i64 v_1.2.2.2.2.2.2.2, Sl.toV v_2.1, Sl.toV v_2.2, Sl.toV v_7.1, Sl.toV v_7.2.1, Sl.toV v_7.2.2.1, Sl.toV v_7.2.2.2.1, Sl.toV v_7.2.2.2.2, Sl.toV Sl.nil, Value.int .i64 0, Sl.toV v_6, Value.int .i64 0, Value.int .i64 0, Value.int .i64 0, Value.int .i64 0, Value.int .i64 (IntKind.wrap .i64 (64 + (IntKind.wrap .i64 (Int.tdiv ((p.2.2.2.2.1.len : Nat) : Int) 3)))), Value.int .i64 0]) hT rfl rfl rfl rfl rfl (by kernel_rfl)) rfl rfl) QAll.nil)))))))) ?_
         refine EAll.cons ?_ EAll.nil
         refine EOp.e rfl rfl rfl (EffX.storeS hT rfl rfl rfl rfl rfl rfl H) ?_
         rintro _ _ ⟨h0u16, rfl, H⟩
         apply Stg.next [] rfl rfl
         refine Stg.fin [] rfl rfl QAll.nil ?_
         exact AtE.then_n ((HK2 _ () _ H).pickP (ts := [6, 2, 4]) (is := [0, 2]) rfl rfl (by decide) rfl)
        refine EAll.cons ?_ EAll.nil
        replace H := H.2
        refine EOp.e rfl rfl rfl (EffX.alloc hT rfl rfl H) ?_
        rintro _ _ ⟨s0u3, h0u17, rfl, rfl, H⟩
        apply Stg.next [(6, _)] rfl rfl
        refine Stg.go [0, 1, 8, 13, 14, 15, 16, 17] [9] rfl rfl (QAll.cons (QOp.q rfl rfl (Quiet1.loadSP (i := 2) (l := [_, _, _, _, _, _, _]) hT rfl rfl rfl rfl rfl rfl rfl rfl) rfl rfl) (QAll.cons (QOp.q rfl rfl (Quiet1.loadSP (i := 1) (l := [_, _]) hT rfl rfl rfl rfl rfl rfl rfl rfl) rfl rfl) (QAll.cons (QOp.q rfl rfl (Quiet1.loadSP (i := 2) (l := [_, _, _, _, _, _, _]) hT rfl rfl rfl rfl rfl rfl rfl rfl) rfl rfl) (QAll.cons (QOp.p hT rfl rfl rfl rfl rfl) (QAll.cons (QOp.q rfl rfl (Quiet1.loadP (i := 2) hT rfl rfl rfl rfl rfl rfl) rfl rfl) (QAll.cons (QOp.p hT rfl rfl rfl rfl rfl) (QAll.cons (QOp.p hT rfl rfl rfl rfl rfl) (QAll.cons (QOp.p hT rfl rfl rfl rfl rfl) QAll.nil)))))))) ?_
        refine EAll.cons ?_ EAll.nil
        refine EOp.e rfl rfl rfl (EffX.call (f := 13) (sh := fun h => tableau_New _ h _) (H0 := H) rfl Tryz.call13 rfl (hl := fun w m hr hw => lift_tableau_New _ w m hr _ hw)) ?_
        rintro _ _ ⟨v_8, h0u18, rfl, rfl, H⟩
        apply Stg.next [(32, _), (41, _)] rfl rfl
        refine Stg.go [0, 1, 13, 14, 15, 16, 17, 18] [20] rfl rfl (QAll.cons (QOp.q rfl rfl (Quiet1.loadSP (i := 2) (l := [_, _, _, _, _, _, _]) hT rfl rfl rfl rfl rfl rfl rfl rfl) rfl rfl) (QAll.cons (QOp.q rfl rfl (Quiet1.loadSP (i := 1) (l := [_, _]) hT rfl rfl rfl rfl rfl rfl rfl rfl) rfl rfl) (QAll.cons (QOp.p hT rfl rfl rfl rfl rfl) (QAll.cons (QOp.q rfl rfl (Quiet1.loadP (i := 2) hT rfl rfl rfl rfl rfl rfl) rfl rfl) (QAll.cons (QOp.p hT rfl rfl rfl rfl rfl) (QAll.cons (QOp.p hT rfl rfl rfl rfl rfl) (QAll.cons (QOp.p hT rfl rfl rfl rfl rfl) (QAll.cons (QOp.q rfl rfl (Quiet1.build (cs := [Value.int .i64 p.1, Value.int .i64 p.2.1, Sl.toV p.2.2.1, Sl.toV p.2.2.2.1, Sl.toV p.2.2.2.2.1, Sl.toV p.2.2.2.2.2.1, Sl.toV p.2.2.2.2.2.2, Value.int .i64 l.1, Value.int .i64 l.2, Sl.toV v_1.1, Sl.toV v_1.2.1, Sl.toV v_1.2.2.1, Sl.toV v_1.2.2.2.1, Sl.toV v_1.2.2.2.2.1, Sl.toV v_1.2.2.2.2.2.1, Sl.toV v_1.2.2.2.2.2.2.1, Value.int .i64 v_1.2.2.2.2.2.2.2, Sl.toV v_2.1, Sl.toV v_2.2, Sl.toV v_8.1, Sl.toV v_8.2.1, Sl.toV v_8.2.2.1, Sl.toV v_8.2.2.2.1, Sl.toV v_8.2.2.2.2, Sl.toV Sl.nil, Value.int .i64 0, Sl.toV v_6, Value.int .i64 0, Value.int .i64 0, Value.int .i64 0, Value.int .i64 0, Value.int .i64 (IntKind.wrap .i64 (64 + (IntKind.wrap .i64 (Int.tdiv ((p.2.2.2.2.1.len : Nat) : Int) 3)))), Value.int .i64 0]) hT rfl rfl rfl rfl rfl (by kernel_rfl)) rfl rfl) QAll.nil)))))))) ?_
        refine EAll.cons ?_ EAll.nil
        refine EOp.e rfl rfl rfl (EffX.storeS hT rfl rfl rfl rfl rfl rfl H) ?_
        rintro _ _ ⟨h0u19, rfl, H⟩
        apply Stg.next [] rfl rfl
        refine Stg.fin [] rfl rfl QAll.nil ?_
        exact AtE.then_n ((HK2 _ () _ H).pickP (ts := [6, 2, 4]) (is := [0, 2]) rfl rfl (by decide) rfl)
       refine EAll.cons ?_ EAll.nil
       replace H := H.2.2
       refine EOp.e rfl rfl rfl (EffX.alloc hT rfl rfl H) ?_
       rintro _ _ ⟨s0u4, h0u20, rfl, rfl, H⟩
       apply Stg.next [(6, _)] rfl rfl
       refine Stg.go [0, 1, 8, 10, 11, 13, 14, 15, 16, 17] [9, 12] rfl rfl (QAll.cons (QOp.q rfl rfl (Quiet1.loadSP (i := 2) (l := [_, _, _, _, _, _, _]) hT rfl rfl rfl rfl rfl rfl rfl rfl) rfl rfl) (QAll.cons (QOp.q rfl rfl (Quiet1.loadSP (i := 1) (l := [_, _]) hT rfl rfl rfl rfl rfl rfl rfl rfl) rfl rfl) (QAll.cons (QOp.q rfl rfl (Quiet1.loadSP (i := 2) (l := [_, _, _, _, _, _, _]) hT rfl rfl rfl rfl rfl rfl rfl rfl) rfl rfl) (QAll.cons (QOp.p hT rfl rfl rfl rfl rfl) (QAll.cons (QOp.q rfl rfl (Quiet1.loadP (i := 2) hT rfl rfl rfl rfl rfl rfl) rfl rfl) (QAll.cons (QOp.p hT rfl rfl rfl rfl rfl) (QAll.cons (QOp.q rfl rfl (Quiet1.loadP (i := 2) hT rfl rfl rfl rfl rfl rfl) rfl rfl) (QAll.cons (QOp.p hT rfl rfl rfl rfl rfl) (QAll.cons (QOp.p hT rfl rfl rfl rfl rfl) (QAll.cons (QOp.p hT rfl rfl rfl rfl rfl) QAll.nil)))))))))) ?_
       refine EAll.cons ?_ ?_
       ·
        replace H := H.1
        refine EOp.e rfl rfl rfl (EffX.call (f := 13) (sh := fun h => tableau_New _ h _) (H0 := H) rfl Tryz.call13 rfl (hl := fun w m hr hw => lift_tableau_New _ w m hr _ hw)) ?_
        rintro _ _ ⟨v_9, h0u21, rfl, rfl, H⟩
        apply Stg.next [(32, _)] rfl rfl
        refine Stg.go [0, 1, 10, 11, 13, 14, 15, 16, 17] [12] rfl rfl (QAll.cons (QOp.q rfl rfl (Quiet1.loadSP (i := 2) (l := [_, _, _, _, _, _, _]) hT rfl rfl rfl rfl rfl rfl rfl rfl) rfl rfl) (QAll.cons (QOp.q rfl rfl (Quiet1.loadSP (i := 1) (l := [_, _]) hT rfl rfl rfl rfl rfl rfl rfl rfl) rfl rfl) (QAll.cons (QOp.p hT rfl rfl rfl rfl rfl) (QAll.cons (QOp.q rfl rfl (Quiet1.loadP (i := 2) hT rfl rfl rfl rfl rfl rfl) rfl rfl) (QAll.cons (QOp.p hT rfl rfl rfl rfl rfl) (QAll.cons (QOp.q rfl rfl (Quiet1.loadP (i := 2) hT rfl rfl rfl rfl rfl rfl) rfl rfl) (QAll.cons (QOp.p hT rfl rfl rfl rfl rfl) (QAll.cons (QOp.p hT rfl rfl rfl rfl rfl) (QAll.cons (QOp.p hT rfl rfl rfl rfl rfl) QAll.nil))))))))) ?_
        refine EAll.cons ?_ EAll.nil
        refine EOp.e rfl rfl rfl (EffX.mkS hT rfl rfl rfl rfl rfl rfl rfl rfl (by decide) H) ?_
        rintro _ _ ⟨v_10, h0u22, rfl, rfl, H⟩
        apply Stg.next [(35, _), (41, _)] rfl rfl
        refine Stg.go [0, 1, 13, 14, 15, 16, 17, 18] [20] rfl rfl (QAll.cons (QOp.q rfl rfl (Quiet1.loadSP (i := 2) (l := [_, _, _, _, _, _, _]) hT rfl rfl rfl rfl rfl rfl rfl rfl) rfl rfl) (QAll.cons (QOp.q rfl rfl (Quiet1.loadSP (i := 1) (l := [_, _]) hT rfl rfl rfl rfl rfl rfl rfl rfl) rfl rfl) (QAll.cons (QOp.p hT rfl rfl rfl rfl rfl) (QAll.cons (QOp.q rfl rfl (Quiet1.loadP (i := 2) hT rfl rfl rfl rfl rfl rfl) rfl rfl) (QAll.cons (QOp.p hT rfl rfl rfl rfl rfl) (QAll.cons (QOp.p hT rfl rfl rfl rfl rfl) (QAll.cons (QOp.p hT rfl rfl rfl rfl rfl) (QAll.cons (QOp.q rfl rfl (Quiet1.build (cs := [Value.int .i64 p.1, Value.int .i64 p.2.1, Sl.toV p.2.2.1, Sl.toV p.2.2.2.1, Sl.toV p.2.2.2.2.1, Sl.toV p.2.2.2.2.2.1, Sl.toV p.2.2.2.2.2.2, Value.int .i64 l.1, Value.int .i64 l.2, Sl.toV v_1.1, Sl.toV v_1.2.1, Sl.toV v_1.2.2.1, Sl.toV v_1.2.2.2.1, Sl.toV v_1.2.2.2.2.1, Sl.toV v_1.2.2.2.2.2.1, Sl.toV v_1.2.2.2.2.2.2.1, Value.int .i64 v_1.2.2.2.2.2.2.2, Sl.toV v_2.1, Sl.toV v_2.2, Sl.toV v_9.1, Sl.toV v_9.2.1, Sl.toV v_9.2.2.1, Sl.toV v_9.2.2.2.1, Sl.toV v_9.2.2.2.2, Sl.toV Sl.nil, Value.int .i64 0, Sl.toV v_10, Value.int .i64 0, Value.int .i64 0, Value.int .i64 0, Value.int .i64 0, Value.int .i64 (IntKind.wrap .i64 (64 + (IntKind.wrap .i64 (Int.tdiv ((p.2.2.2.2.1.len : Nat) : Int) 3)))), Value.int .i64 0]) hT rfl rfl rfl rfl rfl (by kernel_rfl)) rfl rfl) QAll.nil)))))))) ?_
        refine EAll.cons ?_ EAll.nil
        refine EOp.e rfl rfl rfl (EffX.storeS hT rfl rfl rfl rfl rfl rfl H) ?_
        rintro _ _ ⟨h0u23, rfl, H⟩
        apply Stg.next [] rfl rfl
        refine Stg.fin [] rfl rfl QAll.nil ?_
        exact AtE.then_n ((HK2 _ () _ H).pickP (ts := [6, 2, 4]) (is := [0, 2]) rfl rfl (by decide) rfl)
       refine EAll.cons ?_ EAll.nil
       replace H := H.2
       refine EOp.e rfl rfl rfl (EffX.mkS hT rfl rfl rfl rfl rfl rfl rfl rfl (by decide) H) ?_
       rintro _ _ ⟨v_11, h0u24, rfl, rfl, H⟩
       apply Stg.next [(35, _)] rfl rfl
       refine Stg.go [0, 1, 8, 13, 14, 15, 16, 17] [9] rfl rfl (QAll.cons (QOp.q rfl rfl (Quiet1.loadSP (i := 2) (l := [_, _, _, _, _, _, _]) hT rfl rfl rfl rfl rfl rfl rfl rfl) rfl rfl) (QAll.cons (QOp.q rfl rfl (Quiet1.loadSP (i := 1) (l := [_, _]) hT rfl rfl rfl rfl rfl rfl rfl rfl) rfl rfl) (QAll.cons (QOp.q rfl rfl (Quiet1.loadSP (i := 2) (l := [_, _, _, _, _, _, _]) hT rfl rfl rfl rfl rfl rfl rfl rfl) rfl rfl) (QAll.cons (QOp.p hT rfl rfl rfl rfl rfl) (QAll.cons (QOp.q rfl rfl (Quiet1.loadP (i := 2) hT rfl rfl rfl rfl rfl rfl) rfl rfl) (QAll.cons (QOp.p hT rfl rfl rfl rfl rfl) (QAll.cons (QOp.p hT rfl rfl rfl rfl rfl) (QAll.cons (QOp.p hT rfl rfl rfl rfl rfl) QAll.nil)))))))) ?_
       refine EAll.cons ?_ EAll.nil
       refine EOp.e rfl rfl rfl (EffX.call (f := 13) (sh := fun h => tableau_New _ h _) (H0 := H) rfl Tryz.call13 rfl (hl := fun w m hr hw => lift_tableau_New _ w m hr _ hw)) ?_
       rintro _ _ ⟨v_12, h0u25, rfl, rfl, H⟩
       apply Stg.next [(32, _), (41, _)] rfl rfl
       refine Stg.go [0, 1, 13, 14, 15, 16, 17, 18] [20] rfl rfl (QAll.cons (QOp.q rfl rfl (Quiet1.loadSP (i := 2) (l := [_, _, _, _, _, _, _]) hT rfl rfl rfl rfl rfl rfl rfl rfl) rfl rfl) (QAll.cons (QOp.q rfl rfl (Quiet1.loadSP (i := 1) (l := [_, _]) hT rfl rfl rfl rfl rfl rfl rfl rfl) rfl rfl) (QAll.cons (QOp.p hT rfl rfl rfl rfl rfl) (QAll.cons (QOp.q rfl rfl (Quiet1.loadP (i := 2) hT rfl rfl rfl rfl rfl rfl) rfl rfl) (QAll.cons (QOp.p hT rfl rfl rfl rfl rfl) (QAll.cons (QOp.p hT rfl rfl rfl rfl rfl) (QAll.cons (QOp.p hT rfl rfl rfl rfl rfl) (QAll.cons (QOp.q rfl rfl (Quiet1.build (cs := [Value.int .i64 p.1, Value.int .i64 p.2.1, Sl.toV p.2.2.1, Sl.toV p.2.2.2.1, Sl.toV p.2.2.2.2.1, Sl.toV p.2.2.2.2.2.1, Sl.toV p.2.2.2.2.2.2, Value.int .i64 l.1, Value.int .i64 l.2, Sl.toV v_1.1, Sl.toV v_1.2.1, Sl.toV v_1.2.2.1, Sl.toV v_1.2.2.2.1, Sl.toV v_1.2.2.2.2.1, Sl.toV v_1.2.2.2.2.2.1, Sl.toV v_1.2.2.2.2.2.2.1, Value.int .i64 v_1.2.2.2.2.2.2.2, Sl.toV v_2.1, Sl.toV v_2.2, Sl.toV v_12.1, Sl.toV v_12.2.1, Sl.toV v_12.2.2.1, Sl.toV v_12.2.2.2.1, Sl.toV v_12.2.2.2.2, Sl.toV Sl.nil, Value.int .i64 0, Sl.toV v_11, Value.int .i64 0, Value.int .i64 0, Value.int .i64 0, Value.int .i64 0, Value.int .i64 (IntKind.wrap .i64 (64 + (IntKind.wrap .i64 (Int.tdiv ((p.2.2.2.2.1.len : Nat) : Int) 3)))), Value.int .i64 0]) hT rfl rfl rfl rfl rfl (by kernel_rfl)) rfl rfl) QAll.nil)))))))) ?_
       refine EAll.cons ?_ EAll.nil
       refine EOp.e rfl rfl rfl (EffX.storeS hT rfl rfl rfl rfl rfl rfl H) ?_
       rintro _ _ ⟨h0u26, rfl, H⟩
       apply Stg.next [] rfl rfl
       refine Stg.fin [] rfl rfl QAll.nil ?_
       exact AtE.then_n ((HK2 _ () _ H).pickP (ts := [6, 2, 4]) (is := [0, 2]) rfl rfl (by decide) rfl)
      refine EAll.cons ?_ ?_
      ·
       replace H := H.2.1
       refine EOp.e rfl rfl rfl (EffX.mkS hT rfl rfl rfl rfl rfl rfl rfl rfl (by decide) H) ?_
       rintro _ _ ⟨v_13, h0u27, rfl, rfl, H⟩
       apply Stg.next [(35, _)] rfl rfl
       refine Stg.go [0, 1, 5, 6, 8, 13, 14, 15, 16, 17] [7, 19] rfl rfl (QAll.cons (QOp.q rfl rfl (Quiet1.loadSP (i := 2) (l := [_, _, _, _, _, _, _]) hT rfl rfl rfl rfl rfl rfl rfl rfl) rfl rfl) (QAll.cons (QOp.q rfl rfl (Quiet1.loadSP (i := 1) (l := [_, _]) hT rfl rfl rfl rfl rfl rfl rfl rfl) rfl rfl) (QAll.cons (QOp.p hT rfl rfl rfl rfl rfl) (QAll.cons (QOp.q rfl rfl (Quiet1.loadP (i := 2) hT rfl rfl rfl rfl rfl rfl) rfl rfl) (QAll.cons (QOp.q rfl rfl (Quiet1.loadSP (i := 2) (l := [_, _, _, _, _, _, _]) hT rfl rfl rfl rfl rfl rfl rfl rfl) rfl rfl) (QAll.cons (QOp.p hT rfl rfl rfl rfl rfl) (QAll.cons (QOp.q rfl rfl (Quiet1.loadP (i := 2) hT rfl rfl rfl rfl rfl rfl) rfl rfl) (QAll.cons (QOp.p hT rfl rfl rfl rfl rfl) (QAll.cons (QOp.p hT rfl rfl rfl rfl rfl) (QAll.cons (QOp.p hT rfl rfl rfl rfl rfl) QAll.nil)))))))))) ?_
       refine EAll.cons ?_ ?_
       ·
        replace H := H.1
        refine EOp.e rfl rfl rfl (EffX.call (f := 12) (sh := fun h => queue_New _ h _) (H0 := H) rfl Tryz.call12 rfl (hl := fun w m hr hw => lift_queue_New _ w m hr _ hw)) ?_
        rintro _ _ ⟨v_14, h0u28, rfl, rfl, H⟩
        apply Stg.next [(30, _)] rfl rfl
        refine Stg.go [0, 1, 8, 13, 14, 15, 16, 17] [9, 19] rfl rfl (QAll.cons (QOp.q rfl rfl (Quiet1.loadSP (i := 2) (l := [_, _, _, _, _, _, _]) hT rfl rfl rfl rfl rfl rfl rfl rfl) rfl rfl) (QAll.cons (QOp.q rfl rfl (Quiet1.loadSP (i := 1) (l := [_, _]) hT rfl rfl rfl rfl rfl rfl rfl rfl) rfl rfl) (QAll.cons (QOp.q rfl rfl (Quiet1.loadSP (i := 2) (l := [_, _, _, _, _, _, _]) hT rfl rfl rfl rfl rfl rfl rfl rfl) rfl rfl) (QAll.cons (QOp.p hT rfl rfl rfl rfl rfl) (QAll.cons (QOp.q rfl rfl (Quiet1.loadP (i := 2) hT rfl rfl rfl rfl rfl rfl) rfl rfl) (QAll.cons (QOp.p hT rfl rfl rfl rfl rfl) (QAll.cons (QOp.p hT rfl rfl rfl rfl rfl) (QAll.cons (QOp.p hT rfl rfl rfl rfl rfl) QAll.nil)))))))) ?_
        refine EAll.cons ?_ ?_
        ·
         replace H := H.1
         refine EOp.e rfl rfl rfl (EffX.call (f := 13) (sh := fun h => tableau_New _ h _) (H0 := H) rfl Tryz.call13 rfl (hl := fun w m hr hw => lift_tableau_New _ w m hr _ hw)) ?_
         rintro _ _ ⟨v_15, h0u29, rfl, rfl, H⟩
         apply Stg.next [(32, _), (41, _)] rfl rfl
         refine Stg.go [0, 1, 13, 14, 15, 16, 17, 18] [19] rfl rfl (QAll.cons (QOp.q rfl rfl (Quiet1.loadSP (i := 2) (l := [_, _, _, _, _, _, _]) hT rfl rfl rfl rfl rfl rfl rfl rfl) rfl rfl) (QAll.cons (QOp.q rfl rfl (Quiet1.loadSP (i := 1) (l := [_, _]) hT rfl rfl rfl rfl rfl rfl rfl rfl) rfl rfl) (QAll.cons (QOp.p hT rfl rfl rfl rfl rfl) (QAll.cons (QOp.q rfl rfl (Quiet1.loadP (i := 2) hT rfl rfl rfl rfl rfl rfl) rfl rfl) (QAll.cons (QOp.p hT rfl rfl rfl rfl rfl) (QAll.cons (QOp.p hT rfl rfl rfl rfl rfl) (QAll.cons (QOp.p hT rfl rfl rfl rfl rfl) (QAll.cons (QOp.q rfl rfl (Quiet1.build (cs := [Value.int .i64 p.1, Value.int .i64 p.2.1, Sl.toV p.2.2.1, Sl.toV p.2.2.2.1, Sl.toV p.2.2.2.2.1, Sl.toV p.2.2.2.2.2.1, Sl.toV p.2.2.2.2.2.2, Value.int .i64 l.1, Value.int .i64 l.2, Sl.toV v_1.1, Sl.toV v_1.2.1, Sl.toV v_1.2.2.1, Sl.toV v_1.2.2.2.1, Sl.toV v_1.2.2.2.2.1, Sl.toV v_1.2.2.2.2.2.1, Sl.toV v_1.2.2.2.2.2.2.1, Value.int .i64 v_1.2.2.2.2.2.2.2, Sl.toV v_14.1, Sl.toV v_14.2, Sl.toV v_15.1, Sl.toV v_15.2.1, Sl.toV v_15.2.2.1, Sl.toV v_15.2.2.2.1, Sl.toV v_15.2.2.2.2, Sl.toV Sl.nil, Value.int .i64 0, Sl.toV v_13, Value.int .i64 0, Value.int .i64 0, Value.int .i64 0, Value.int .i64 0, Value.int .i64 (IntKind.wrap .i64 (64 + (IntKind.wrap .i64 (Int.tdiv ((p.2.2.2.2.1.len : Nat) : Int) 3)))), Value.int .i64 0]) hT rfl rfl rfl rfl rfl (by kernel_rfl)) rfl rfl) QAll.nil)))))))) ?_
         refine EAll.cons ?_ EAll.nil
         refine EOp.e rfl rfl rfl (EffX.alloc hT rfl rfl H) ?_
         rintro _ _ ⟨s0u5, h0u30, rfl, rfl, H⟩
         apply Stg.next [(6, _)] rfl rfl
         refine Stg.go [0, 1, 13, 14, 15, 16, 17, 18] [20] rfl rfl (QAll.cons (QOp.q rfl rfl (Quiet1.loadSP (i := 2) (l := [_, _, _, _, _, _, _]) hT rfl rfl rfl rfl rfl rfl rfl rfl) rfl rfl) (QAll.cons (QOp.q rfl rfl (Quiet1.loadSP (i := 1) (l := [_, _]) hT rfl rfl rfl rfl rfl rfl rfl rfl) rfl rfl) (QAll.cons (QOp.p hT rfl rfl rfl rfl rfl) (QAll.cons (QOp.q rfl rfl (Quiet1.loadP (i := 2) hT rfl rfl rfl rfl rfl rfl) rfl rfl) (QAll.cons (QOp.p hT rfl rfl rfl rfl rfl) (QAll.cons (QOp.p hT rfl rfl rfl rfl rfl) (QAll.cons (QOp.p hT rfl rfl rfl rfl rfl) (QAll.cons (QOp.q rfl rfl (Quiet1.build (cs := [Value.int .i64 p.1, Value.int .i64 p.2.1, Sl.toV p.2.2.1, Sl.toV p.2.2.2.1, Sl.toV p.2.2.2.2.1, Sl.toV p.2.2.2.2.2.1, Sl.toV p.2.2.2.2.2.2, Value.int .i64 l.1, Value.int .i64 l.2, Sl.toV v_1.1, Sl.toV v_1.2.1, Sl.toV v_1.2.2.1, Sl.toV v_1.2.2.2.1, Sl.toV v_1.2.2.2.2.1, Sl.toV v_1.2.2.2.2.2.1, Sl.toV v_1.2.2.2.2.2.2.1, Value.int .i64 v_1.2.2.2.2.2.2.2, Sl.toV v_14.1, Sl.toV v_14.2, Sl.toV v_15.1, Sl.toV v_15.2.1, Sl.toV v_15.2.2.1, Sl.toV v_15.2.2.2.1, Sl.toV v_15.2.2.2.2, Sl.toV Sl.nil, Value.int .i64 0, Sl.toV v_13, Value.int .i64 0, Value.int .i64 0, Value.int .i64 0, Value.int .i64 0, Value.int .i64 (IntKind.wrap .i64 (64 + (IntKind.wrap .i64 (Int.tdiv ((p.2.2.2.2.1.len : Nat) : Int) 3)))), Value.int .i64 0]) hT rfl rfl rfl rfl rfl (by kernel_rfl)) rfl rfl) QAll.nil)))))))) ?_
         refine EAll.cons ?_ EAll.nil
         refine EOp.e rfl rfl rfl (EffX.storeS hT rfl rfl rfl rfl rfl rfl H) ?_
         rintro _ _ ⟨h0u31, rfl, H⟩
         apply Stg.next [] rfl rfl
         refine Stg.fin [] rfl rfl QAll.nil ?_
         exact AtE.then_n ((HK2 _ () _ H).pickP (ts := [6, 2, 4]) (is := [0, 2]) rfl rfl (by decide) rfl)
        refine EAll.cons ?_ EAll.nil
        replace H := H.2
        refine EOp.e rfl rfl rfl (EffX.alloc hT rfl rfl H) ?_
        rintro _ _ ⟨s0u6, h0u32, rfl, rfl, H⟩
        apply Stg.next [(6, _)] rfl rfl
        refine Stg.go [0, 1, 8, 13, 14, 15, 16, 17] [9] rfl rfl (QAll.cons (QOp.q rfl rfl (Quiet1.loadSP (i := 2) (l := [_, _, _, _, _, _, _]) hT rfl rfl rfl rfl rfl rfl rfl rfl) rfl rfl) (QAll.cons (QOp.q rfl rfl (Quiet1.loadSP (i := 1) (l := [_, _]) hT rfl rfl rfl rfl rfl rfl rfl rfl) rfl rfl) (QAll.cons (QOp.q rfl rfl (Quiet1.loadSP (i := 2) (l := [_, _, _, _, _, _, _]) hT rfl rfl rfl rfl rfl rfl rfl rfl) rfl rfl) (QAll.cons (QOp.p hT rfl rfl rfl rfl rfl) (QAll.cons (QOp.q rfl rfl (Quiet1.loadP (i := 2) hT rfl rfl rfl rfl rfl rfl) rfl rfl) (QAll.cons (QOp.p hT rfl rfl rfl rfl rfl) (QAll.cons (QOp.p hT rfl rfl rfl rfl rfl) (QAll.cons (QOp.p hT rfl rfl rfl rfl rfl) QAll.nil)))))))) ?_
        refine EAll.cons ?_ EAll.nil
        refine EOp.e rfl rfl rfl (EffX.call (f := 13) (sh := fun h => tableau_New _ h _) (H0 := H) rfl Tryz.call13 rfl (hl := fun w m hr hw => lift_tableau_New _ w m hr _ hw)) ?_
        rintro _ _ ⟨v_16, h0u33, rfl, rfl, H⟩
        apply Stg.next [(32, _), (41, _)] rfl rfl
        refine Stg.go [0, 1, 13, 14, 15, 16, 17, 18] [20] rfl rfl (QAll.cons (QOp.q rfl rfl (Quiet1.loadSP (i := 2) (l := [_, _, _, _, _, _, _]) hT rfl rfl rfl rfl rfl rfl rfl rfl) rfl rfl) (QAll.cons (QOp.q rfl rfl (Quiet1.loadSP (i := 1) (l := [_, _]) hT rfl rfl rfl rfl rfl rfl rfl rfl) rfl rfl) (QAll.cons (QOp.p hT rfl rfl rfl rfl rfl) (QAll.cons (QOp.q rfl rfl (Quiet1.loadP (i := 2) hT rfl rfl rfl rfl rfl rfl) rfl rfl) (QAll.cons (QOp.p hT rfl rfl rfl rfl rfl) (QAll.cons (QOp.p hT rfl rfl rfl rfl rfl) (QAll.cons (QOp.p hT rfl rfl rfl rfl rfl) (QAll.cons (QOp.q rfl rfl (Quiet1.build (cs := [Value.int .i64 p.1, Value.int .i64 p.2.1, Sl.toV p.2.2.1, Sl.toV p.2.2.2.1, Sl.toV p.2.2.2.2.1, Sl.toV p.2.2.2.2.2.1, Sl.toV p.2.2.2.2.2.2, Value.int .i64 l.1, Value.int .i64 l.2, Sl.toV v_1.1, Sl.toV v_1.2.1, Sl.toV v_1.2.2.1, Sl.toV v_1.2.2.2.1, Sl.toV v_1.2.2.2.2.1, Sl.toV v_1.2.2.2.2.2.1, Sl.toV v_1.2.2.2.2.2.2.1, Value.int .i64 v_1.2.2.2.2.2.2.2, Sl.toV v_14.1, Sl.toV v_14.2, Sl.toV v_16.1, Sl.toV v_16.2.1, Sl.toV v_16.2.2.1, Sl.toV v_16.2.2.2.1, Sl.toV v_16.2.2.2.2, Sl.toV Sl.nil, Value.int .i64 0, Sl.toV v_13, Value.int .i64 0, Value.int .i64 0, Value.int .i64 0, Value.int .i64 0, Value.int .i64 (IntKind.wrap .i64 (64 + (IntKind.wrap .i64 (Int.tdiv ((p.2.2.2.2.1.len : Nat) : Int) 3)))), Value.int .i64 0]) hT rfl rfl rfl rfl rfl (by kernel_rfl)) rfl rfl) QAll.nil)))))))) ?_
        refine EAll.cons ?_ EAll.nil
        refine EOp.e rfl rfl rfl (EffX.storeS hT rfl rfl rfl rfl rfl rfl H) ?_
        rintro _ _ ⟨h0u34, rfl, H⟩
        apply Stg.next [] rfl rfl
        refine Stg.fin [] rfl rfl QAll.nil ?_
        exact AtE.then_n ((HK2 _ () _ H).pickP (ts := [6, 2, 4]) (is := [0, 2]) rfl rfl (by decide) rfl)
       refine EAll.cons ?_ EAll.nil
       replace H := H.2
       refine EOp.e rfl rfl rfl (EffX.alloc hT rfl rfl H) ?_
       rintro _ _ ⟨s0u7, h0u35, rfl, rfl, H⟩
       apply Stg.next [(6, _)] rfl rfl
       refine Stg.go [0, 1, 5, 6, 8, 13, 14, 15, 16, 17] [7] rfl rfl (QAll.cons (QOp.q rfl rfl (Quiet1.loadSP (i := 2) (l := [_, _, _, _, _, _, _]) hT rfl rfl rfl rfl rfl rfl rfl rfl) rfl rfl) (QAll.cons (QOp.q rfl rfl (Quiet1.loadSP (i := 1) (l := [_, _]) hT rfl rfl rfl rfl rfl rfl rfl rfl) rfl rfl) (QAll.cons (QOp.p hT rfl rfl rfl rfl rfl) (QAll.cons (QOp.q rfl rfl (Quiet1.loadP (i := 2) hT rfl rfl rfl rfl rfl rfl) rfl rfl) (QAll.cons (QOp.q rfl rfl (Quiet1.loadSP (i := 2) (l := [_, _, _, _, _, _, _]) hT rfl rfl rfl rfl rfl rfl rfl rfl) rfl rfl) (QAll.cons (QOp.p hT rfl rfl rfl rfl rfl) (QAll.cons (QOp.q rfl rfl (Quiet1.loadP (i := 2) hT rfl rfl rfl rfl rfl rfl) rfl rfl) (QAll.cons (QOp.p hT rfl rfl rfl rfl rfl) (QAll.cons (QOp.p hT rfl rfl rfl rfl rfl) (QAll.cons (QOp.p hT rfl rfl rfl rfl rfl) QAll.nil)))))))))) ?_
       refine EAll.cons ?_ EAll.nil
       refine EOp.e rfl rfl rfl (EffX.call (f := 12) (sh := fun h => queue_New _ h _) (H0 := H) rfl Tryz.call12 rfl (hl := fun w m hr hw => lift_queue_New _ w m hr _ hw)) ?_
       rintro _ _ ⟨v_17, h0u36, rfl, rfl, H⟩
       apply Stg.next [(30, _)] rfl rfl
       refine Stg.go [0, 1, 8, 13, 14, 15, 16, 17] [9] rfl rfl (QAll.cons (QOp.q rfl rfl (Quiet1.loadSP (i := 2) (l := [_, _, _, _, _, _, _]) hT rfl rfl rfl rfl rfl rfl rfl rfl) rfl rfl) (QAll.cons (QOp.q rfl rfl (Quiet1.loadSP (i := 1) (l := [_, _]) hT rfl rfl rfl rfl rfl rfl rfl rfl) rfl rfl) (QAll.cons (QOp.q rfl rfl (Quiet1.loadSP (i := 2) (l := [_, _, _, _, _, _, _]) hT rfl rfl rfl rfl rfl rfl rfl rfl) rfl rfl) (QAll.cons (QOp.p hT rfl rfl rfl rfl rfl) (QAll.cons (QOp.q rfl rfl (Quiet1.loadP (i := 2) hT rfl rfl rfl rfl rfl rfl) rfl rfl) (QAll.cons (QOp.p hT rfl rfl rfl rfl rfl) (QAll.cons (QOp.p hT rfl rfl rfl rfl rfl) (QAll.cons (QOp.p hT rfl rfl rfl rfl rfl) QAll.nil)))))))) ?_
       refine EAll.cons ?_ EAll.nil
       refine EOp.e rfl rfl rfl (EffX.call (f := 13) (sh := fun h => tableau_New _ h _) (H0 := H) rfl Tryz.call13 rfl (hl := fun w m hr hw => lift_tableau_New _ w m hr _ hw)) ?_
       rintro _ _ ⟨v_18, h0u37, rfl, rfl, H⟩
       apply Stg.next [(32, _), (41, _)] rfl rfl
       refine Stg.go [0, 1, 13, 14, 15, 16, 17, 18] [20] rfl rfl (QAll.cons (QOp.q rfl rfl (Quiet1.loadSP (i := 2) (l := [_, _, _, _, _, _, _]) hT rfl rfl rfl rfl rfl rfl rfl rfl) rfl rfl) (QAll.cons (QOp.q rfl rfl (Quiet1.loadSP (i := 1) (l := [_, _]) hT rfl rfl rfl rfl rfl rfl rfl rfl) rfl rfl) (QAll.cons (QOp.p hT rfl rfl rfl rfl rfl) (QAll.cons (QOp.q rfl rfl (Quiet1.loadP (i := 2) hT rfl rfl rfl rfl rfl rfl) rfl rfl) (QAll.cons (QOp.p hT rfl rfl rfl rfl rfl) (QAll.cons (QOp.p hT rfl rfl rfl rfl rfl) (QAll.cons (QOp.p hT rfl rfl rfl rfl rfl) (QAll.cons (QOp.q rfl rfl (Quiet1.build (cs := [Value.int .i64 p.1, Value.int .i64 p.2.1, Sl.toV p.2.2.1, Sl.toV p.2.2.2.1, Sl.toV p.2.2.2.2.1, Sl.toV p.2.2.2.2.2.1, Sl.toV p.2.2.2.2.2.2, Value.int .i64 l.1, Value.int .i64 l.2, Sl.toV v_1.1, Sl.toV v_1.2.1, Sl.toV v_1.2.2.1, Sl.toV v_1.2.2.2.1, Sl.toV v_1.2.2.2.2.1, Sl.toV v_1.2.2.2.2.2.1, Sl.toV v_1.2.2.2.2.2.2.1, Value.int .i64 v_1.2.2.2.2.2.2.2, Sl.toV v_17.1, Sl.toV v_17.2, Sl.toV v_18.1, Sl.toV v_18.2.1, Sl.toV v_18.2.2.1, Sl.toV v_18.2.2.2.1, Sl.toV v_18.2.2.2.2, Sl.toV Sl.nil, Value.int .i64 0, Sl.toV v_13, Value.int .i64 0, Value.int .i64 0, Value.int .i64 0, Value.int .i64 0, Value.int .i64 (IntKind.wrap .i64 (64 + (IntKind.wrap .i64 (Int.tdiv ((p.2.2.2.2.1.len : Nat) : Int) 3)))), Value.int .i64 0]) hT rfl rfl rfl rfl rfl (by kernel_rfl)) rfl rfl) QAll.nil)))))))) ?_
       refine EAll.cons ?_ EAll.nil
       refine EOp.e rfl rfl rfl (EffX.storeS hT rfl rfl rfl rfl rfl rfl H) ?_
       rintro _ _ ⟨h0u38, rfl, H⟩
       apply Stg.next [] rfl rfl
       refine Stg.fin [] rfl rfl QAll.nil ?_
       exact AtE.then_n ((HK2 _ () _ H).pickP (ts := [6, 2, 4]) (is := [0, 2]) rfl rfl (by decide) rfl)
      refine EAll.cons ?_ EAll.nil
      replace H := H.2.2
      refine EOp.e rfl rfl rfl (EffX.alloc hT rfl rfl H) ?_
      rintro _ _ ⟨s0u8, h0u39, rfl, rfl, H⟩
      apply Stg.next [(6, _)] rfl rfl
      refine Stg.go [0, 1, 5, 6, 8, 10, 11, 13, 14, 15, 16, 17] [7, 12] rfl rfl (QAll.cons (QOp.q rfl rfl (Quiet1.loadSP (i := 2) (l := [_, _, _, _, _, _, _]) hT rfl rfl rfl rfl rfl rfl rfl rfl) rfl rfl) (QAll.cons (QOp.q rfl rfl (Quiet1.loadSP (i := 1) (l := [_, _]) hT rfl rfl rfl rfl rfl rfl rfl rfl) rfl rfl) (QAll.cons (QOp.p hT rfl rfl rfl rfl rfl) (QAll.cons (QOp.q rfl rfl (Quiet1.loadP (i := 2) hT rfl rfl rfl rfl rfl rfl) rfl rfl) (QAll.cons (QOp.q rfl rfl (Quiet1.loadSP (i := 2) (l := [_, _, _, _, _, _, _]) hT rfl rfl rfl rfl rfl rfl rfl rfl) rfl rfl) (QAll.cons (QOp.p hT rfl rfl rfl rfl rfl) (QAll.cons (QOp.q rfl rfl (Quiet1.loadP (i := 2) hT rfl rfl rfl rfl rfl rfl) rfl rfl) (QAll.cons (QOp.p hT rfl rfl rfl rfl rfl) (QAll.cons (QOp.q rfl rfl (Quiet1.loadP (i := 2) hT rfl rfl rfl rfl rfl rfl) rfl rfl) (QAll.cons (QOp.p hT rfl rfl rfl rfl rfl) (QAll.cons (QOp.p hT rfl rfl rfl rfl rfl) (QAll.cons (QOp.p hT rfl rfl rfl rfl rfl) QAll.nil)))))))))))) ?_
      refine EAll.cons ?_ ?_
      ·
       replace H := H.1
       refine EOp.e rfl rfl rfl (EffX.call (f := 12) (sh := fun h => queue_New _ h _) (H0 := H) rfl Tryz.call12 rfl (hl := fun w m hr hw => lift_queue_New _ w m hr _ hw)) ?_
       rintro _ _ ⟨v_19, h0u40, rfl, rfl, H⟩
       apply Stg.next [(30, _)] rfl rfl
       refine Stg.go [0, 1, 8, 10, 11, 13, 14, 15, 16, 17] [9, 12] rfl rfl (QAll.cons (QOp.q rfl rfl (Quiet1.loadSP (i := 2) (l := [_, _, _, _, _, _, _]) hT rfl rfl rfl rfl rfl rfl rfl rfl) rfl rfl) (QAll.cons (QOp.q rfl rfl (Quiet1.loadSP (i := 1) (l := [_, _]) hT rfl rfl rfl rfl rfl rfl rfl rfl) rfl rfl) (QAll.cons (QOp.q rfl rfl (Quiet1.loadSP (i := 2) (l := [_, _, _, _, _, _, _]) hT rfl rfl rfl rfl rfl rfl rfl rfl) rfl rfl) (QAll.cons (QOp.p hT rfl rfl rfl rfl rfl) (QAll.cons (QOp.q rfl rfl (Quiet1.loadP (i := 2) hT rfl rfl rfl rfl rfl rfl) rfl rfl) (QAll.cons (QOp.p hT rfl rfl rfl rfl rfl) (QAll.cons (QOp.q rfl rfl (Quiet1.loadP (i := 2) hT rfl rfl rfl rfl rfl rfl) rfl rfl) (QAll.cons (QOp.p hT rfl rfl rfl rfl rfl) (QAll.cons (QOp.p hT rfl rfl rfl rfl rfl) (QAll.cons (QOp.p hT rfl rfl rfl rfl rfl) QAll.nil)))))))))) ?_
       refine EAll.cons ?_ ?_
       ·
        replace H := H.1
        refine EOp.e rfl rfl rfl (EffX.call (f := 13) (sh := fun h => tableau_New _ h _) (H0 := H) rfl Tryz.call13 rfl (hl := fun w m hr hw => lift_tableau_New _ w m hr _ hw)) ?_
        rintro _ _ ⟨v_20, h0u41, rfl, rfl, H⟩
        apply Stg.next [(32, _)] rfl rfl
        refine Stg.go [0, 1, 10, 11, 13, 14, 15, 16, 17] [12] rfl rfl (QAll.cons (QOp.q rfl rfl (Quiet1.loadSP (i := 2) (l := [_, _, _, _, _, _, _]) hT rfl rfl rfl rfl rfl rfl rfl rfl) rfl rfl) (QAll.cons (QOp.q rfl rfl (Quiet1.loadSP (i := 1) (l := [_, _]) hT rfl rfl rfl rfl rfl rfl rfl rfl) rfl rfl) (QAll.cons (QOp.p hT rfl rfl rfl rfl rfl) (QAll.cons (QOp.q rfl rfl (Quiet1.loadP (i := 2) hT rfl rfl rfl rfl rfl rfl) rfl rfl) (QAll.cons (QOp.p hT rfl rfl rfl rfl rfl) (QAll.cons (QOp.q rfl rfl (Quiet1.loadP (i := 2) hT rfl rfl rfl rfl rfl rfl) rfl rfl) (QAll.cons (QOp.p hT rfl rfl rfl rfl rfl) (QAll.cons (QOp.p hT rfl rfl rfl rfl rfl) (QAll.cons (QOp.p hT rfl rfl rfl rfl rfl) QAll.nil))))))))) ?_
        refine EAll.cons ?_ EAll.nil
        refine EOp.e rfl rfl rfl (EffX.mkS hT rfl rfl rfl rfl rfl rfl rfl rfl (by decide) H) ?_
        rintro _ _ ⟨v_21, h0u42, rfl, rfl, H⟩
        apply Stg.next [(35, _), (41, _)] rfl rfl
        refine Stg.go [0, 1, 13, 14, 15, 16, 17, 18] [20] rfl rfl (QAll.cons (QOp.q rfl rfl (Quiet1.loadSP (i := 2) (l := [_, _, _, _, _, _, _]) hT rfl rfl rfl rfl rfl rfl rfl rfl) rfl rfl) (QAll.cons (QOp.q rfl rfl (Quiet1.loadSP (i := 1) (l := [_, _]) hT rfl rfl rfl rfl rfl rfl rfl rfl) rfl rfl) (QAll.cons (QOp.p hT rfl rfl rfl rfl rfl) (QAll.cons (QOp.q rfl rfl (Quiet1.loadP (i := 2) hT rfl rfl rfl rfl rfl rfl) rfl rfl) (QAll.cons (QOp.p hT rfl rfl rfl rfl rfl) (QAll.cons (QOp.p hT rfl rfl rfl rfl rfl) (QAll.cons (QOp.p hT rfl rfl rfl rfl rfl) (QAll.cons (QOp.q rfl rfl (Quiet1.build (cs := [Value.int .i64 p.1, Value.int .i64 p.2.1, Sl.toV p.2.2.1, Sl.toV p.2.2.2.1, Sl.toV p.2.2.2.2.1, Sl.toV p.2.2.2.2.2.1, Sl.toV p.2.2.2.2.2.2, Value.int .i64 l.1, Value.int .i64 l.2, Sl.toV v_1.1, Sl.toV v_1.2.1, Sl.toV v_1.2.2.1, Sl.toV v_1.2.2.2.1, Sl.toV v_1.2.2.2.2.1, Sl.toV v_1.2.2.2.2.2.1, Sl.toV v_1.2.2.2.2.2.2.1, Value.int .i64 v_1.2.2.2.2.2.2.2, Sl.toV v_19.1, Sl.toV v_19.2, Sl.toV v_20.1, Sl.toV v_20.2.1, Sl.toV v_20.2.2.1, Sl.toV v_20.2.2.2.1, Sl.toV v_20.2.2.2.2, Sl.toV Sl.nil, Value.int .i64 0, Sl.toV v_21, Value.int .i64 0, Value.int .i64 0, Value.int .i64 0, Value.int .i64 0, Value.int .i64 (IntKind.wrap .i64 (64 + (IntKind.wrap .i64 (Int.tdiv ((p.2.2.2.2.1.len : Nat) : Int) 3)))), Value.int .i64 0]) hT rfl rfl rfl rfl rfl (by kernel_rfl)) rfl rfl) QAll.nil)))))))) ?_
        refine EAll.cons ?_ EAll.nil
        refine EOp.e rfl rfl rfl (EffX.storeS hT rfl rfl rfl rfl rfl rfl H) ?_
        rintro _ _ ⟨h0u43, rfl, H⟩
        apply Stg.next [] rfl rfl
        refine Stg.fin [] rfl rfl QAll.nil ?_
        exact AtE.then_n ((HK2 _ () _ H).pickP (ts := [6, 2, 4]) (is := [0, 2]) rfl rfl (by decide) rfl)
       refine EAll.cons ?_ EAll.nil
       replace H := H.2
       refine EOp.e rfl rfl rfl (EffX.mkS hT rfl rfl rfl rfl rfl rfl rfl rfl (by decide) H) ?_
       rintro _ _ ⟨v_22, h0u44, rfl, rfl, H⟩
       apply Stg.next [(35, _)] rfl rfl
       refine Stg.go [0, 1, 8, 13, 14, 15, 16, 17] [9] rfl rfl (QAll.cons (QOp.q rfl rfl (Quiet1.loadSP (i := 2) (l := [_, _, _, _, _, _, _]) hT rfl rfl rfl rfl rfl rfl rfl rfl) rfl rfl) (QAll.cons (QOp.q rfl rfl (Quiet1.loadSP (i := 1) (l := [_, _]) hT rfl rfl rfl rfl rfl rfl rfl rfl) rfl rfl) (QAll.cons (QOp.q rfl rfl (Quiet1.loadSP (i := 2) (l := [_, _, _, _, _, _, _]) hT rfl rfl rfl rfl rfl rfl rfl rfl) rfl rfl) (QAll.cons (QOp.p hT rfl rfl rfl rfl rfl) (QAll.cons (QOp.q rfl rfl (Quiet1.loadP (i := 2) hT rfl rfl rfl rfl rfl rfl) rfl rfl) (QAll.cons (QOp.p hT rfl rfl rfl rfl rfl) (QAll.cons (QOp.p hT rfl rfl rfl rfl rfl) (QAll.cons (QOp.p hT rfl rfl rfl rfl rfl) QAll.nil)))))))) ?_
       refine EAll.cons ?_ EAll.nil
       refine EOp.e rfl rfl rfl (EffX.call (f := 13) (sh := fun h => tableau_New _ h _) (H0 := H) rfl Tryz.call13 rfl (hl := fun w m hr hw => lift_tableau_New _ w m hr _ hw)) ?_
       rintro _ _ ⟨v_23, h0u45, rfl, rfl, H⟩
       apply Stg.next [(32, _), (41, _)] rfl rfl
       refine Stg.go [0, 1, 13, 14, 15, 16, 17, 18] [20] rfl rfl (QAll.cons (QOp.q rfl rfl (Quiet1.loadSP (i := 2) (l := [_, _, _, _, _, _, _]) hT rfl rfl rfl rfl rfl rfl rfl rfl) rfl rfl) (QAll.cons (QOp.q rfl rfl (Quiet1.loadSP (i := 1) (l := [_, _]) hT rfl rfl rfl rfl rfl rfl rfl rfl) rfl rfl) (QAll.cons (QOp.p hT rfl rfl rfl rfl rfl) (QAll.cons (QOp.q rfl rfl (Quiet1.loadP (i := 2) hT rfl rfl rfl rfl rfl rfl) rfl rfl) (QAll.cons (QOp.p hT rfl rfl rfl rfl rfl) (QAll.cons (QOp.p hT rfl rfl rfl rfl rfl) (QAll.cons (QOp.p hT rfl rfl rfl rfl rfl) (QAll.cons (QOp.q rfl rfl (Quiet1.build (cs := [Value.int .i64 p.1, Value.int .i64 p.2.1, Sl.toV p.2.2.1, Sl.toV p.2.2.2.1, Sl.toV p.2.2.2.2.1, Sl.toV p.2.2.2.2.2.1, Sl.toV p.2.2.2.2.2.2, Value.int .i64 l.1, Value.int .i64 l.2, Sl.toV v_1.1, Sl.toV v_1.2.1, Sl.toV v_1.2.2.1, Sl.toV v_1.2.2.2.1, Sl.toV v_1.2.2.2.2.1, Sl.toV v_1.2.2.2.2.2.1, Sl.toV v_1.2.2.2.2.2.2.1, Value.int .i64 v_1.2.2.2.2.2.2.2, Sl.toV v_19.1, Sl.toV v_19.2, Sl.toV v_23.1, Sl.toV v_23.2.1, Sl.toV v_23.2.2.1, Sl.toV v_23.2.2.2.1, Sl.toV v_23.2.2.2.2, Sl.toV Sl.nil, Value.int .i64 0, Sl.toV v_22, Value.int .i64 0, Value.int .i64 0, Value.int .i64 0, Value.int .i64 0, Value.int .i64 (IntKind.wrap .i64 (64 + (IntKind.wrap .i64 (Int.tdiv ((p.2.2.2.2.1.len : Nat) : Int) 3)))), Value.int .i64 0]) hT rfl rfl rfl rfl rfl (by kernel_rfl)) rfl rfl) QAll.nil)))))))) ?_
       refine EAll.cons ?_ EAll.nil
       refine EOp.e rfl rfl rfl (EffX.storeS hT rfl rfl rfl rfl rfl rfl H) ?_
       rintro _ _ ⟨h0u46, rfl, H⟩
       apply Stg.next [] rfl rfl
       refine Stg.fin [] rfl rfl QAll.nil ?_
       exact AtE.then_n ((HK2 _ () _ H).pickP (ts := [6, 2, 4]) (is := [0, 2]) rfl rfl (by decide) rfl)
      refine EAll.cons ?_ EAll.nil
      replace H := H.2
      refine EOp.e rfl rfl rfl (EffX.mkS hT rfl rfl rfl rfl rfl rfl rfl rfl (by decide) H) ?_
      rintro _ _ ⟨v_24, h0u47, rfl, rfl, H⟩
      apply Stg.next [(35, _)] rfl rfl
      refine Stg.go [0, 1, 5, 6, 8, 13, 14, 15, 16, 17] [7] rfl rfl (QAll.cons (QOp.q rfl rfl (Quiet1.loadSP (i := 2) (l := [_, _, _, _, _, _, _]) hT rfl rfl rfl rfl rfl rfl rfl rfl) rfl rfl) (QAll.cons (QOp.q rfl rfl (Quiet1.loadSP (i := 1) (l := [_, _]) hT rfl rfl rfl rfl rfl rfl rfl rfl) rfl rfl) (QAll.cons (QOp.p hT rfl rfl rfl rfl rfl) (QAll.cons (QOp.q rfl rfl (Quiet1.loadP (i := 2) hT rfl rfl rfl rfl rfl rfl) rfl rfl) (QAll.cons (QOp.q rfl rfl (Quiet1.loadSP (i := 2) (l := [_, _, _, _, _, _, _]) hT rfl rfl rfl rfl rfl rfl rfl rfl) rfl rfl) (QAll.cons (QOp.p hT rfl rfl rfl rfl rfl) (QAll.cons (QOp.q rfl rfl (Quiet1.loadP (i := 2) hT rfl rfl rfl rfl rfl rfl) rfl rfl) (QAll.cons (QOp.p hT rfl rfl rfl rfl rfl) (QAll.cons (QOp.p hT rfl rfl rfl rfl rfl) (QAll.cons (QOp.p hT rfl rfl rfl rfl rfl) QAll.nil)))))))))) ?_
      refine EAll.cons ?_ EAll.nil
      refine EOp.e rfl rfl rfl (EffX.call (f := 12) (sh := fun h => queue_New _ h _) (H0 := H) rfl Tryz.call12 rfl (hl := fun w m hr hw => lift_queue_New _ w m hr _ hw)) ?_
      rintro _ _ ⟨v_25, h0u48, rfl, rfl, H⟩
      apply Stg.next [(30, _)] rfl rfl
      refine Stg.go [0, 1, 8, 13, 14, 15, 16, 17] [9] rfl rfl (QAll.cons (QOp.q rfl rfl (Quiet1.loadSP (i := 2) (l := [_, _, _, _, _, _, _]) hT rfl rfl rfl rfl rfl rfl rfl rfl) rfl rfl) (QAll.cons (QOp.q rfl rfl (Quiet1.loadSP (i := 1) (l := [_, _]) hT rfl rfl rfl rfl rfl rfl rfl rfl) rfl rfl) (QAll.cons (QOp.q rfl rfl (Quiet1.loadSP (i := 2) (l := [_, _, _, _, _, _, _]) hT rfl rfl rfl rfl rfl rfl rfl rfl) rfl rfl) (QAll.cons (QOp.p hT rfl rfl rfl rfl rfl) (QAll.cons (QOp.q rfl rfl (Quiet1.loadP (i := 2) hT rfl rfl rfl rfl rfl rfl) rfl rfl) (QAll.cons (QOp.p hT rfl rfl rfl rfl rfl) (QAll.cons (QOp.p hT rfl rfl rfl rfl rfl) (QAll.cons (QOp.p hT rfl rfl rfl rfl rfl) QAll.nil)))))))) ?_
      refine EAll.cons ?_ EAll.nil
      refine EOp.e rfl rfl rfl (EffX.call (f := 13) (sh := fun h => tableau_New _ h _) (H0 := H) rfl Tryz.call13 rfl (hl := fun w m hr hw => lift_tableau_New _ w m hr _ hw)) ?_
      rintro _ _ ⟨v_26, h0u49, rfl, rfl, H⟩
      apply Stg.next [(32, _), (41, _)] rfl rfl
      refine Stg.go [0, 1, 13, 14, 15, 16, 17, 18] [20] rfl rfl (QAll.cons (QOp.q rfl rfl (Quiet1.loadSP (i := 2) (l := [_, _, _, _, _, _, _]) hT rfl rfl rfl rfl rfl rfl rfl rfl) rfl rfl) (QAll.cons (QOp.q rfl rfl (Quiet1.loadSP (i := 1) (l := [_, _]) hT rfl rfl rfl rfl rfl rfl rfl rfl) rfl rfl) (QAll.cons (QOp.p hT rfl rfl rfl rfl rfl) (QAll.cons (QOp.q rfl rfl (Quiet1.loadP (i := 2) hT rfl rfl rfl rfl rfl rfl) rfl rfl) (QAll.cons (QOp.p hT rfl rfl rfl rfl rfl) (QAll.cons (QOp.p hT rfl rfl rfl rfl rfl) (QAll.cons (QOp.p hT rfl rfl rfl rfl rfl) (QAll.cons (QOp.q rfl rfl (Quiet1.build (cs := [Value.int .i64 p.1, Value.int .i64 p.2.1, Sl.toV p.2.2.1, Sl.toV p.2.2.2.1, Sl.toV p.2.2.2.2.1, Sl.toV p.2.2.2.2.2.1, Sl.toV p.2.2.2.2.2.2, Value.int .i64 l.1, Value.int .i64 l.2, Sl.toV v_1.1, Sl.toV v_1.2.1, Sl.toV v_1.2.2.1, Sl.toV v_1.2.2.2.1, Sl.toV v_1.2.2.2.2.1, Sl.toV v_1.2.2.2.2.2.1, Sl.toV v_1.2.2.2.2.2.2.1, Value.int .i64 v_1.2.2.2.2.2.2.2, Sl.toV v_25.1, Sl.toV v_25.2, Sl.toV v_26.1, Sl.toV v_26.2.1, Sl.toV v_26.2.2.1, Sl.toV v_26.2.2.2.1, Sl.toV v_26.2.2.2.2, Sl.toV Sl.nil, Value.int .i64 0, Sl.toV v_24, Value.int .i64 0, Value.int .i64 0, Value.int .i64 0, Value.int .i64 0, Value.int .i64 (IntKind.wrap .i64 (64 + (IntKind.wrap .i64 (Int.tdiv ((p.2.2.2.2.1.len : Nat) : Int) 3)))), Value.int .i64 0]) hT rfl rfl rfl rfl rfl (by kernel_rfl)) rfl rfl) QAll.nil)))))))) ?_
      refine EAll.cons ?_ EAll.nil
      refine EOp.e rfl rfl rfl (EffX.storeS hT rfl rfl rfl rfl rfl rfl H) ?_
      rintro _ _ ⟨h0u50, rfl, H⟩
      apply Stg.next [] rfl rfl
      refine Stg.fin [] rfl rfl QAll.nil ?_
      exact AtE.then_n ((HK2 _ () _ H).pickP (ts := [6, 2, 4]) (is := [0, 2]) rfl rfl (by decide) rfl)
     refine EAll.cons ?_ ?_
     ·
      replace H := H.2.1
      refine EOp.e rfl rfl rfl (EffX.mkS hT rfl rfl rfl rfl rfl rfl rfl rfl (by decide) H) ?_
      rintro _ _ ⟨v_27, h0u51, rfl, rfl, H⟩
      apply Stg.next [(35, _)] rfl rfl
      refine Stg.go [0, 1, 2, 3, 5, 6, 8, 13, 14, 15, 16, 17] [4, 19] rfl rfl (QAll.cons (QOp.q rfl rfl (Quiet1.loadSP (i := 2) (l := [_, _, _, _, _, _, _]) hT rfl rfl rfl rfl rfl rfl rfl rfl) rfl rfl) (QAll.cons (QOp.q rfl rfl (Quiet1.loadSP (i := 1) (l := [_, _]) hT rfl rfl rfl rfl rfl rfl rfl rfl) rfl rfl) (QAll.cons (QOp.p hT rfl rfl rfl rfl rfl) (QAll.cons (QOp.q rfl rfl (Quiet1.loadP (i := 2) hT rfl rfl rfl rfl rfl rfl) rfl rfl) (QAll.cons (QOp.p hT rfl rfl rfl rfl rfl) (QAll.cons (QOp.q rfl rfl (Quiet1.loadP (i := 2) hT rfl rfl rfl rfl rfl rfl) rfl rfl) (QAll.cons (QOp.q rfl rfl (Quiet1.loadSP (i := 2) (l := [_, _, _, _, _, _, _]) hT rfl rfl rfl rfl rfl rfl rfl rfl) rfl rfl) (QAll.cons (QOp.p hT rfl rfl rfl rfl rfl) (QAll.cons (QOp.q rfl rfl (Quiet1.loadP (i := 2) hT rfl rfl rfl rfl rfl rfl) rfl rfl) (QAll.cons (QOp.p hT rfl rfl rfl rfl rfl) (QAll.cons (QOp.p hT rfl rfl rfl rfl rfl) (QAll.cons (QOp.p hT rfl rfl rfl rfl rfl) QAll.nil)))))))))))) ?_
      refine EAll.cons ?_ ?_
      ·
       replace H := H.1
       refine EOp.e rfl rfl rfl (EffX.call (f := 11) (sh := fun h => clause_New _ h _) (H0 := H) rfl Tryz.call11 rfl (hl := fun w m hr hw => lift_clause_New _ w m hr _ hw)) ?_
       rintro _ _ ⟨v_28, h0u52, rfl, rfl, H⟩
       apply Stg.next [(27, _)] rfl rfl
       refine Stg.go [0, 1, 5, 6, 8, 13, 14, 15, 16, 17] [7, 19] rfl rfl (QAll.cons (QOp.q rfl rfl (Quiet1.loadSP (i := 2) (l := [_, _, _, _, _, _, _]) hT rfl rfl rfl rfl rfl rfl rfl rfl) rfl rfl) (QAll.cons (QOp.q rfl rfl (Quiet1.loadSP (i := 1) (l := [_, _]) hT rfl rfl rfl rfl rfl rfl rfl rfl) rfl rfl) (QAll.cons (QOp.p hT rfl rfl rfl rfl rfl) (QAll.cons (QOp.q rfl rfl (Quiet1.loadP (i := 2) hT rfl rfl rfl rfl rfl rfl) rfl rfl) (QAll.cons (QOp.q rfl rfl (Quiet1.loadSP (i := 2) (l := [_, _, _, _, _, _, _]) hT rfl rfl rfl rfl rfl rfl rfl rfl) rfl rfl) (QAll.cons (QOp.p hT rfl rfl rfl rfl rfl) (QAll.cons (QOp.q rfl rfl (Quiet1.loadP (i := 2) hT rfl rfl rfl rfl rfl rfl) rfl rfl) (QAll.cons (QOp.p hT rfl rfl rfl rfl rfl) (QAll.cons (QOp.p hT rfl rfl rfl rfl rfl) (QAll.cons (QOp.p hT rfl rfl rfl rfl rfl) QAll.nil)))))))))) ?_
       refine EAll.cons ?_ ?_
       ·
        replace H := H.1
        refine EOp.e rfl rfl rfl (EffX.call (f := 12) (sh := fun h => queue_New _ h _) (H0 := H) rfl Tryz.call12 rfl (hl := fun w m hr hw => lift_queue_New _ w m hr _ hw)) ?_
        rintro _ _ ⟨v_29, h0u53, rfl, rfl, H⟩
        apply Stg.next [(30, _)] rfl rfl
        refine Stg.go [0, 1, 8, 13, 14, 15, 16, 17] [9, 19] rfl rfl (QAll.cons (QOp.q rfl rfl (Quiet1.loadSP (i := 2) (l := [_, _, _, _, _, _, _]) hT rfl rfl rfl rfl rfl rfl rfl rfl) rfl rfl) (QAll.cons (QOp.q rfl rfl (Quiet1.loadSP (i := 1) (l := [_, _]) hT rfl rfl rfl rfl rfl rfl rfl rfl) rfl rfl) (QAll.cons (QOp.q rfl rfl (Quiet1.loadSP (i := 2) (l := [_, _, _, _, _, _, _]) hT rfl rfl rfl rfl rfl rfl rfl rfl) rfl rfl) (QAll.cons (QOp.p hT rfl rfl rfl rfl rfl) (QAll.cons (QOp.q rfl rfl (Quiet1.loadP (i := 2) hT rfl rfl rfl rfl rfl rfl) rfl rfl) (QAll.cons (QOp.p hT rfl rfl rfl rfl rfl) (QAll.cons (QOp.p hT rfl rfl rfl rfl rfl) (QAll.cons (QOp.p hT rfl rfl rfl rfl rfl) QAll.nil)))))))) ?_
        refine EAll.cons ?_ ?_
        ·
         replace H := H.1
         refine EOp.e rfl rfl rfl (EffX.call (f := 13) (sh := fun h => tableau_New _ h _) (H0 := H) rfl Tryz.call13 rfl (hl := fun w m hr hw => lift_tableau_New _ w m hr _ hw)) ?_
         rintro _ _ ⟨v_30, h0u54, rfl, rfl, H⟩
         apply Stg.next [(32, _), (41, _)] rfl rfl
         refine Stg.go [0, 1, 13, 14, 15, 16, 17, 18] [19] rfl rfl (QAll.cons (QOp.q rfl rfl (Quiet1.loadSP (i := 2) (l := [_, _, _, _, _, _, _]) hT rfl rfl rfl rfl rfl rfl rfl rfl) rfl rfl) (QAll.cons (QOp.q rfl rfl (Quiet1.loadSP (i := 1) (l := [_, _]) hT rfl rfl rfl rfl rfl rfl rfl rfl) rfl rfl) (QAll.cons (QOp.p hT rfl rfl rfl rfl rfl) (QAll.cons (QOp.q rfl rfl (Quiet1.loadP (i := 2) hT rfl rfl rfl rfl rfl rfl) rfl rfl) (QAll.cons (QOp.p hT rfl rfl rfl rfl rfl) (QAll.cons (QOp.p hT rfl rfl rfl rfl rfl) (QAll.cons (QOp.p hT rfl rfl rfl rfl rfl) (QAll.cons (QOp.q rfl rfl (Quiet1.build (cs := [Value.int .i64 p.1, Value.int .i64 p.2.1, Sl.toV p.2.2.1, Sl.toV p.2.2.2.1, Sl.toV p.2.2.2.2.1, Sl.toV p.2.2.2.2.2.1, Sl.toV p.2.2.2.2.2.2, Value.int .i64 l.1, Value.int .i64 l.2, Sl.toV v_28.1, Sl.toV v_28.2.1, Sl.toV v_28.2.2.1, Sl.toV v_28.2.2.2.1, Sl.toV v_28.2.2.2.2.1, Sl.toV v_28.2.2.2.2.2.1, Sl.toV v_28.2.2.2.2.2.2.1, Value.int .i64 v_28.2.2.2.2.2.2.2, Sl.toV v_29.1, Sl.toV v_29.2, Sl.toV v_30.1, Sl.toV v_30.2.1, Sl.toV v_30.2.2.1, Sl.toV v_30.2.2.2.1, Sl.toV v_30.2.2.2.2, Sl.toV Sl.nil, Value.int .i64 0, Sl.toV v_27, Value.int .i64 0, Value.int .i64 0, Value.int .i64 0, Value.int .i64 0, Value.int .i64 (IntKind.wrap .i64 (64 + (IntKind.wrap .i64 (Int.tdiv ((p.2.2.2.2.1.len : Nat) : Int) 3)))), Value.int .i64 0]) hT rfl rfl rfl rfl rfl (by kernel_rfl)) rfl rfl) QAll.nil)))))))) ?_
         refine EAll.cons ?_ EAll.nil
         refine EOp.e rfl rfl rfl (EffX.alloc hT rfl rfl H) ?_
         rintro _ _ ⟨s0u9, h0u55, rfl, rfl, H⟩
         apply Stg.next [(6, _)] rfl rfl
         refine Stg.go [0, 1, 13, 14, 15, 16, 17, 18] [20] rfl rfl (QAll.cons (QOp.q rfl rfl (Quiet1.loadSP (i := 2) (l := [_, _, _, _, _, _, _]) hT rfl rfl rfl rfl rfl rfl rfl rfl) rfl rfl) (QAll.cons (QOp.q rfl rfl (Quiet1.loadSP (i := 1) (l := [_, _]) hT rfl rfl rfl rfl rfl rfl rfl rfl) rfl rfl) (QAll.cons (QOp.p hT rfl rfl rfl rfl rfl) (QAll.cons (QOp.q rfl rfl (Quiet1.loadP (i := 2) hT rfl rfl rfl rfl rfl rfl) rfl rfl) (QAll.cons (QOp.p hT rfl rfl rfl rfl rfl) (QAll.cons (QOp.p hT rfl rfl rfl rfl rfl) (QAll.cons (QOp.p hT rfl rfl rfl rfl rfl) (QAll.cons (QOp.q rfl rfl (Quiet1.build (cs := [Value.int .i64 p.1, Value.int .i64 p.2.1, Sl.toV p.2.2.1, Sl.toV p.2.2.2.1, Sl.toV p.2.2.2.2.1, Sl.toV p.2.2.2.2.2.1, Sl.toV p.2.2.2.2.2.2, Value.int .i64 l.1, Value.int .i64 l.2, Sl.toV v_28.1, Sl.toV v_28.2.1, Sl.toV v_28.2.2.1, Sl.toV v_28.2.2.2.1, Sl.toV v_28.2.2.2.2.1, Sl.toV v_28.2.2.2.2.2.1, Sl.toV v_28.2.2.2.2.2.2.1, Value.int .i64 v_28.2.2.2.2.2.2.2, Sl.toV v_29.1, Sl.toV v_29.2, Sl.toV v_30.1, Sl.toV v_30.2.1, Sl.toV v_30.2.2.1, Sl.toV v_30.2.2.2.1, Sl.toV v_30.2.2.2.2, Sl.toV Sl.nil, Value.int .i64 0, Sl.toV v_27, Value.int .i64 0, Value.int .i64 0, Value.int .i64 0, Value.int .i64 0, Value.int .i64 (IntKind.wrap .i64 (64 + (IntKind.wrap .i64 (Int.tdiv ((p.2.2.2.2.1.len : Nat) : Int) 3)))), Value.int .i64 0]) hT rfl rfl rfl rfl rfl (by kernel_rfl)) rfl rfl) QAll.nil)))))))) ?_
         refine EAll.cons ?_ EAll.nil
         refine EOp.e rfl rfl rfl (EffX.storeS hT rfl rfl rfl rfl rfl rfl H) ?_
         rintro _ _ ⟨h0u56, rfl, H⟩
         apply Stg.next [] rfl rfl
         refine Stg.fin [] rfl rfl QAll.nil ?_
         exact AtE.then_n ((HK2 _ () _ H).pickP (ts := [6, 2, 4]) (is := [0, 2]) rfl rfl (by decide) rfl)
        refine EAll.cons ?_ EAll.nil
        replace H := H.2
        refine EOp.e rfl rfl rfl (EffX.alloc hT rfl rfl H) ?_
        rintro _ _ ⟨s0u10, h0u57, rfl, rfl, H⟩
        apply Stg.next [(6, _)] rfl rfl
        refine Stg.go [0, 1, 8, 13, 14, 15, 16, 17] [9] rfl rfl (QAll.cons (QOp.q rfl rfl (Quiet1.loadSP (i := 2) (l := [_, _, _, _, _, _, _]) hT rfl rfl rfl rfl rfl rfl rfl rfl) rfl rfl) (QAll.cons (QOp.q rfl rfl (Quiet1.loadSP (i := 1) (l := [_, _]) hT rfl rfl rfl rfl rfl rfl rfl rfl) rfl rfl) (QAll.cons (QOp.q rfl rfl (Quiet1.loadSP (i := 2) (l := [_, _, _, _, _, _, _]) hT rfl rfl rfl rfl rfl rfl rfl rfl) rfl rfl) (QAll.cons (QOp.p hT rfl rfl rfl rfl rfl) (QAll.cons (QOp.q rfl rfl (Quiet1.loadP (i := 2) hT rfl rfl rfl rfl rfl rfl) rfl rfl) (QAll.cons (QOp.p hT rfl rfl rfl rfl rfl) (QAll.cons (QOp.p hT rfl rfl rfl rfl rfl) (QAll.cons (QOp.p hT rfl rfl rfl rfl rfl) QAll.nil)))))))) ?_
        refine EAll.cons ?_ EAll.nil
        refine EOp.e rfl rfl rfl (EffX.call (f := 13) (sh := fun h => tableau_New _ h _) (H0 := H) rfl Tryz.call13 rfl (hl := fun w m hr hw => lift_tableau_New _ w m hr _ hw)) ?_
        rintro _ _ ⟨v_31, h0u58, rfl, rfl, H⟩
        apply Stg.next [(32, _), (41, _)] rfl rfl
        refine Stg.go [0, 1, 13, 14, 15, 16, 17, 18] [20] rfl rfl (QAll.cons (QOp.q rfl rfl (Quiet1.loadSP (i := 2) (l := [_, _, _, _, _, _, _]) hT rfl rfl rfl rfl rfl rfl rfl rfl) rfl rfl) (QAll.cons (QOp.q rfl rfl (Quiet1.loadSP (i := 1) (l := [_, _]) hT rfl rfl rfl rfl rfl rfl rfl rfl) rfl rfl) (QAll.cons (QOp.p hT rfl rfl rfl rfl rfl) (QAll.cons (QOp.q rfl rfl (Quiet1.loadP (i := 2) hT rfl rfl rfl rfl rfl rfl) rfl rfl) (QAll.cons (QOp.p hT rfl rfl rfl rfl rfl) (QAll.cons (QOp.p hT rfl rfl rfl rfl rfl) (QAll.cons (QOp.p hT rfl rfl rfl rfl rfl) (QAll.cons (QOp.q rfl rfl (Quiet1.build (cs := [Value.int .i64 p.1, Value.int .i64 p.2.1, Sl.toV p.2.2.1, Sl.toV p.2.2.2.1, Sl.toV p.2.2.2.2.1, Sl.toV p.2.2.2.2.2.1, Sl.toV p.2.2.2.2.2.2, Value.int .i64 l.1, Value.int .i64 l.2, Sl.toV v_28.1, Sl.toV v_28.2.1, Sl.toV v_28.2.2.1, Sl.toV v_28.2.2.2.1, Sl.toV v_28.2.2.2.2.1, Sl.toV v_28.2.2.2.2.2.1, Sl.toV v_28.2.2.2.2.2.2.1, Value.int .i64 v_28.2.2.2.2.2.2.2, Sl.toV v_29.1, Sl.toV v_29.2, Sl.toV v_31.1, Sl.toV v_31.2.1, Sl.toV v_31.2.2.1, Sl.toV v_31.2.2.2.1, Sl.toV v_31.2.2.2.2, Sl.toV Sl.nil, Value.int .i64 0, Sl.toV v_27, Value.int .i64 0, Value.int .i64 0, Value.int .i64 0, Value.int .i64 0, Value.int .i64 (IntKind.wrap .i64 (64 + (IntKind.wrap .i64 (Int.tdiv ((p.2.2.2.2.1.len : Nat) : Int) 3)))), Value.int .i64 0]) hT rfl rfl rfl rfl rfl (by kernel_rfl)) rfl rfl) QAll.nil)))))))) ?_
        refine EAll.cons ?_ EAll.nil
        refine EOp.e rfl rfl rfl (EffX.storeS hT rfl rfl rfl rfl rfl rfl H) ?_
        rintro _ _ ⟨h0u59, rfl, H⟩
        apply Stg.next [] rfl rfl
        refine Stg.fin [] rfl rfl QAll.nil ?_
        exact AtE.then_n ((HK2 _ () _ H).pickP (ts := [6, 2, 4]) (is := [0, 2]) rfl rfl (by decide) rfl)
       refine EAll.cons ?_ EAll.nil
       replace H := H.2
       refine EOp.e rfl rfl rfl (EffX.alloc hT rfl rfl H) ?_
       rintro _ _ ⟨s0u11, h0u60, rfl, rfl, H⟩
       apply Stg.next [(6, _)] rfl rfl
       refine Stg.go [0, 1, 5, 6, 8, 13, 14, 15, 16, 17] [7] rfl rfl (QAll.cons (QOp.q rfl rfl (Quiet1.loadSP (i := 2) (l := [_, _, _, _, _, _, _]) hT rfl rfl rfl rfl rfl rfl rfl rfl) rfl rfl) (QAll.cons (QOp.q rfl rfl (Quiet1.loadSP (i := 1) (l := [_, _]) hT rfl rfl rfl rfl rfl rfl rfl rfl) rfl rfl) (QAll.cons (QOp.p hT rfl rfl rfl rfl rfl) (QAll.cons (QOp.q rfl rfl (Quiet1.loadP (i := 2) hT rfl rfl rfl rfl rfl rfl) rfl rfl) (QAll.cons (QOp.q rfl rfl (Quiet1.loadSP (i := 2) (l := [_, _, _, _, _, _, _]) hT rfl rfl rfl rfl rfl rfl rfl rfl) rfl rfl) (QAll.cons (QOp.p hT rfl rfl rfl rfl rfl) (QAll.cons (QOp.q rfl rfl (Quiet1.loadP (i := 2) hT rfl rfl rfl rfl rfl rfl) rfl rfl) (QAll.cons (QOp.p hT rfl rfl rfl rfl rfl) (QAll.cons (QOp.p hT rfl rfl rfl rfl rfl) (QAll.cons (QOp.p hT rfl rfl rfl rfl rfl) QAll.nil)))))))))) ?_
       refine EAll.cons ?_ EAll.nil
       refine EOp.e rfl rfl rfl (EffX.call (f := 12) (sh := fun h => queue_New _ h _) (H0 := H) rfl Tryz.call12 rfl (hl := fun w m hr hw => lift_queue_New _ w m hr _ hw)) ?_
       rintro _ _ ⟨v_32, h0u61, rfl, rfl, H⟩
       apply Stg.next [(30, _)] rfl rfl
       refine Stg.go [0, 1, 8, 13, 14, 15, 16, 17] [9] rfl rfl (QAll.cons (QOp.q rfl rfl (Quiet1.loadSP (i := 2) (l := [_, _, _, _, _, _, _]) hT rfl rfl rfl rfl rfl rfl rfl rfl) rfl rfl) (QAll.cons (QOp.q rfl rfl (Quiet1.loadSP (i := 1) (l := [_, _]) hT rfl rfl rfl rfl rfl rfl rfl rfl) rfl rfl) (QAll.cons (QOp.q rfl rfl (Quiet1.loadSP (i := 2) (l := [_, _, _, _, _, _, _]) hT rfl rfl rfl rfl rfl rfl rfl rfl) rfl rfl) (QAll.cons (QOp.p hT rfl rfl rfl rfl rfl) (QAll.cons (QOp.q rfl rfl (Quiet1.loadP (i := 2) hT rfl rfl rfl rfl rfl rfl) rfl rfl) (QAll.cons (QOp.p hT rfl rfl rfl rfl rfl) (QAll.cons (QOp.p hT rfl rfl rfl rfl rfl) (QAll.cons (QOp.p hT rfl rfl rfl rfl rfl) QAll.nil)))))))) ?_
       refine EAll.cons ?_ EAll.nil
       refine EOp.e rfl rfl rfl (EffX.call (f := 13) (sh := fun h => tableau_New _ h _) (H0 := H) rfl Tryz.call13 rfl (hl := fun w m hr hw => lift_tableau_New _ w m hr _ hw)) ?_
       rintro _ _ ⟨v_33, h0u62, rfl, rfl, H⟩
       apply Stg.next [(32, _), (41, _)] rfl rfl
       refine Stg.go [0, 1, 13, 14, 15, 16, 17, 18] [20] rfl rfl (QAll.cons (QOp.q rfl rfl (Quiet1.loadSP (i := 2) (l := [_, _, _, _, _, _, _]) hT rfl rfl rfl rfl rfl rfl rfl rfl) rfl rfl) (QAll.cons (QOp.q rfl rfl (Quiet1.loadSP (i := 1) (l := [_, _]) hT rfl rfl rfl rfl rfl rfl rfl rfl) rfl rfl) (QAll.cons (QOp.p hT rfl rfl rfl rfl rfl) (QAll.cons (QOp.q rfl rfl (Quiet1.loadP (i := 2) hT rfl rfl rfl rfl rfl rfl) rfl rfl) (QAll.cons (QOp.p hT rfl rfl rfl rfl rfl) (QAll.cons (QOp.p hT rfl rfl rfl rfl rfl) (QAll.cons (QOp.p hT rfl rfl rfl rfl rfl) (QAll.cons (QOp.q rfl rfl (Quiet1.build (cs := [Value.int .i64 p.1, Value.int .i64 p.2.1, Sl.toV p.2.2.1, Sl.toV p.2.2.2.1, Sl.toV p.2.2.2.2.1, Sl.toV p.2.2.2.2.2.1, Sl.toV p.2.2.2.2.2.2, Value.int .i64 l.1, Value.int .i64 l.2, Sl.toV v_28.1, Sl.toV v_28.2.1, Sl.toV v_28.2.2.1, Sl.toV v_28.2.2.2.1, Sl.toV v_28.2.2.2.2.1, Sl.toV v_28.2.2.2.2.2.1, Sl.toV v_28.2.2.2.2.2.2.1, Value.int .i64 v_28.2.2.2.2.2.2.2, Sl.toV v_32.1, Sl.toV v_32.2, Sl.toV v_33.1, Sl.toV v_33.2.1, Sl.toV v_33.2.2.1, Sl.toV v_33.2.2.2.1, Sl.toV v_33.2.2.2.2, Sl.toV Sl.nil, Value.int .i64 0, Sl.toV v_27, Value.int .i64 0, Value.int .i64 0, Value.int .i64 0, Value.int .i64 0, Value.int .i64 (IntKind.wrap .i64 (64 + (IntKind.wrap .i64 (Int.tdiv ((p.2.2.2.2.1.len : Nat) : Int) 3)))), Value.int .i64 0]) hT rfl rfl rfl rfl rfl (by kernel_rfl)) rfl rfl) QAll.nil)))))))) ?_
       refine EAll.cons ?_ EAll.nil
       refine EOp.e rfl rfl rfl (EffX.storeS hT rfl rfl rfl rfl rfl rfl H) ?_
       rintro _ _ ⟨h0u63, rfl, H⟩
       apply Stg.next [] rfl rfl
       refine Stg.fin [] rfl rfl QAll.nil ?_
       exact AtE.then_n ((HK2 _ () _ H).pickP (ts := [6, 2, 4]) (is := [0, 2]) rfl rfl (by decide) rfl)
      refine EAll.cons ?_ EAll.nil
      replace H := H.2
      refine EOp.e rfl rfl rfl (EffX.alloc hT rfl rfl H) ?_
      rintro _ _ ⟨s0u12, h0u64, rfl, rfl, H⟩
      apply Stg.next [(6, _)] rfl rfl
      refine Stg.go [0, 1, 2, 3, 5, 6, 8, 13, 14, 15, 16, 17] [4] rfl rfl (QAll.cons (QOp.q rfl rfl (Quiet1.loadSP (i := 2) (l := [_, _, _, _, _, _, _]) hT rfl rfl rfl rfl rfl rfl rfl rfl) rfl rfl) (QAll.cons (QOp.q rfl rfl (Quiet1.loadSP (i := 1) (l := [_, _]) hT rfl rfl rfl rfl rfl rfl rfl rfl) rfl rfl) (QAll.cons (QOp.p hT rfl rfl rfl rfl rfl) (QAll.cons (QOp.q rfl rfl (Quiet1.loadP (i := 2) hT rfl rfl rfl rfl rfl rfl) rfl rfl) (QAll.cons (QOp.p hT rfl rfl rfl rfl rfl) (QAll.cons (QOp.q rfl rfl (Quiet1.loadP (i := 2) hT rfl rfl rfl rfl rfl rfl) rfl rfl) (QAll.cons (QOp.q rfl rfl (Quiet1.loadSP (i := 2) (l := [_, _, _, _, _, _, _]) hT rfl rfl rfl rfl rfl rfl rfl rfl) rfl rfl) (QAll.cons (QOp.p hT rfl rfl rfl rfl rfl) (QAll.cons (QOp.q rfl rfl (Quiet1.loadP (i := 2) hT rfl rfl rfl rfl rfl rfl) rfl rfl) (QAll.cons (QOp.p hT rfl rfl rfl rfl rfl) (QAll.cons (QOp.p hT rfl rfl rfl rfl rfl) (QAll.cons (QOp.p hT rfl rfl rfl rfl rfl) QAll.nil)))))))))))) ?_
      refine EAll.cons ?_ EAll.nil
      refine EOp.e rfl rfl rfl (EffX.call (f := 11) (sh := fun h => clause_New _ h _) (H0 := H) rfl Tryz.call11 rfl (hl := fun w m hr hw => lift_clause_New _ w m hr _ hw)) ?_
      rintro _ _ ⟨v_34, h0u65, rfl, rfl, H⟩
      apply Stg.next [(27, _)] rfl rfl
      refine Stg.go [0, 1, 5, 6, 8, 13, 14, 15, 16, 17] [7] rfl rfl (QAll.cons (QOp.q rfl rfl (Quiet1.loadSP (i := 2) (l := [_, _, _, _, _, _, _]) hT rfl rfl rfl rfl rfl rfl rfl rfl) rfl rfl) (QAll.cons (QOp.q rfl rfl (Quiet1.loadSP (i := 1) (l := [_, _]) hT rfl rfl rfl rfl rfl rfl rfl rfl) rfl rfl) (QAll.cons (QOp.p hT rfl rfl rfl rfl rfl) (QAll.cons (QOp.q rfl rfl (Quiet1.loadP (i := 2) hT rfl rfl rfl rfl rfl rfl) rfl rfl) (QAll.cons (QOp.q rfl rfl (Quiet1.loadSP (i := 2) (l := [_, _, _, _, _, _, _]) hT rfl rfl rfl rfl rfl rfl rfl rfl) rfl rfl) (QAll.cons (QOp.p hT rfl rfl rfl rfl rfl) (QAll.cons (QOp.q rfl rfl (Quiet1.loadP (i := 2) hT rfl rfl rfl rfl rfl rfl) rfl rfl) (QAll.cons (QOp.p hT rfl rfl rfl rfl rfl) (QAll.cons (QOp.p hT rfl rfl rfl rfl rfl) (QAll.cons (QOp.p hT rfl rfl rfl rfl rfl) QAll.nil)))))))))) ?_
      refine EAll.cons ?_ EAll.nil
      refine EOp.e rfl rfl rfl (EffX.call (f := 12) (sh := fun h => queue_New _ h _) (H0 := H) rfl Tryz.call12 rfl (hl := fun w m hr hw => lift_queue_New _ w m hr _ hw)) ?_
      rintro _ _ ⟨v_35, h0u66, rfl, rfl, H⟩
      apply Stg.next [(30, _)] rfl rfl
      refine Stg.go [0, 1, 8, 13, 14, 15, 16, 17] [9] rfl rfl (QAll.cons (QOp.q rfl rfl (Quiet1.loadSP (i := 2) (l := [_, _, _, _, _, _, _]) hT rfl rfl rfl rfl rfl rfl rfl rfl) rfl rfl) (QAll.cons (QOp.q rfl rfl (Quiet1.loadSP (i := 1) (l := [_, _]) hT rfl rfl rfl rfl rfl rfl rfl rfl) rfl rfl) (QAll.cons (QOp.q rfl rfl (Quiet1.loadSP (i := 2) (l := [_, _, _, _, _, _, _]) hT rfl rfl rfl rfl rfl rfl rfl rfl) rfl rfl) (QAll.cons (QOp.p hT rfl rfl rfl rfl rfl) (QAll.cons (QOp.q rfl rfl (Quiet1.loadP (i := 2) hT rfl rfl rfl rfl rfl rfl) rfl rfl) (QAll.cons (QOp.p hT rfl rfl rfl rfl rfl) (QAll.cons (QOp.p hT rfl rfl rfl rfl rfl) (QAll.cons (QOp.p hT rfl rfl rfl rfl rfl) QAll.nil)))))))) ?_
      refine EAll.cons ?_ EAll.nil
      refine EOp.e rfl rfl rfl (EffX.call (f := 13) (sh := fun h => tableau_New _ h _) (H0 := H) rfl Tryz.call13 rfl (hl := fun w m hr hw => lift_tableau_New _ w m hr _ hw)) ?_
      rintro _ _ ⟨v_36, h0u67, rfl, rfl, H⟩
      apply Stg.next [(32, _), (41, _)] rfl rfl
      refine Stg.go [0, 1, 13, 14, 15, 16, 17, 18] [20] rfl rfl (QAll.cons (QOp.q rfl rfl (Quiet1.loadSP (i := 2) (l := [_, _, _, _, _, _, _]) hT rfl rfl rfl rfl rfl rfl rfl rfl) rfl rfl) (QAll.cons (QOp.q rfl rfl (Quiet1.loadSP (i := 1) (l := [_, _]) hT rfl rfl rfl rfl rfl rfl rfl rfl) rfl rfl) (QAll.cons (QOp.p hT rfl rfl rfl rfl rfl) (QAll.cons (QOp.q rfl rfl (Quiet1.loadP (i := 2) hT rfl rfl rfl rfl rfl rfl) rfl rfl) (QAll.cons (QOp.p hT rfl rfl rfl rfl rfl) (QAll.cons (QOp.p hT rfl rfl rfl rfl rfl) (QAll.cons (QOp.p hT rfl rfl rfl rfl rfl) (QAll.cons (QOp.q rfl rfl (Quiet1.build (cs := [Value.int .i64 p.1, Value.int .i64 p.2.1, Sl.toV p.2.2.1, Sl.toV p.2.2.2.1, Sl.toV p.2.2.2.2.1, Sl.toV p.2.2.2.2.2.1, Sl.toV p.2.2.2.2.2.2, Value.int .i64 l.1, Value.int .i64 l.2, Sl.toV v_34.1, Sl.toV v_34.2.1, Sl.toV v_34.2.2.1, Sl.toV v_34.2.2.2.1, Sl.toV v_34.2.2.2.2.1, Sl.toV v_34.2.2.2.2.2.1, Sl.toV v_34.2.2.2.2.2.2.1, Value.int .i64 v_34.2.2.2.2.2.2.2, Sl.toV v_35.1, Sl.toV v_35.2, Sl.toV v_36.1, Sl.toV v_36.2.1, Sl.toV v_36.2.2.1, Sl.toV v_36.2.2.2.1, Sl.toV v_36.2.2.2.2, Sl.toV Sl.nil, Value.int .i64 0, Sl.toV v_27, Value.int .i64 0, Value.int .i64 0, Value.int .i64 0, Value.int .i64 0, Value.int .i64 (IntKind.wrap .i64 (64 + (IntKind.wrap .i64 (Int.tdiv ((p.2.2.2.2.1.len : Nat) : Int) 3)))), Value.int .i64 0]) hT rfl rfl rfl rfl rfl (by kernel_rfl)) rfl rfl) QAll.nil)))))))) ?_
      refine EAll.cons ?_ EAll.nil
      refine EOp.e rfl rfl rfl (EffX.storeS hT rfl rfl rfl rfl rfl rfl H) ?_
      rintro _ _ ⟨h0u68, rfl, H⟩
      apply Stg.next [] rfl rfl
      refine Stg.fin [] rfl rfl QAll.nil ?_
      exact AtE.then_n ((HK2 _ () _ H).pickP (ts := [6, 2, 4]) (is := [0, 2]) rfl rfl (by decide) rfl)
     refine EAll.cons ?_ EAll.nil
     replace H := H.2.2
     refine EOp.e rfl rfl rfl (EffX.alloc hT rfl rfl H) ?_
     rintro _ _ ⟨s0u13, h0u69, rfl, rfl, H⟩
     apply Stg.next [(6, _)] rfl rfl
     refine Stg.go [0, 1, 2, 3, 5, 6, 8, 10, 11, 13, 14, 15, 16, 17] [4, 12] rfl rfl (QAll.cons (QOp.q rfl rfl (Quiet1.loadSP (i := 2) (l := [_, _, _, _, _, _, _]) hT rfl rfl rfl rfl rfl rfl rfl rfl) rfl rfl) (QAll.cons (QOp.q rfl rfl (Quiet1.loadSP (i := 1) (l := [_, _]) hT rfl rfl rfl rfl rfl rfl rfl rfl) rfl rfl) (QAll.cons (QOp.p hT rfl rfl rfl rfl rfl) (QAll.cons (QOp.q rfl rfl (Quiet1.loadP (i := 2) hT rfl rfl rfl rfl rfl rfl) rfl rfl) (QAll.cons (QOp.p hT rfl rfl rfl rfl rfl) (QAll.cons (QOp.q rfl rfl (Quiet1.loadP (i := 2) hT rfl rfl rfl rfl rfl rfl) rfl rfl) (QAll.cons (QOp.q rfl rfl (Quiet1.loadSP (i := 2) (l := [_, _, _, _, _, _, _]) hT rfl rfl rfl rfl rfl rfl rfl rfl) rfl rfl) (QAll.cons (QOp.p hT rfl rfl rfl rfl rfl) (QAll.cons (QOp.q rfl rfl (Quiet1.loadP (i := 2) hT rfl rfl rfl rfl rfl rfl) rfl rfl) (QAll.cons (QOp.p hT rfl rfl rfl rfl rfl) (QAll.cons (QOp.q rfl rfl (Quiet1.loadP (i := 2) hT rfl rfl rfl rfl rfl rfl) rfl rfl) (QAll.cons (QOp.p hT rfl rfl rfl rfl rfl) (QAll.cons (QOp.p hT rfl rfl rfl rfl rfl) (QAll.cons (QOp.p hT rfl rfl rfl rfl rfl) QAll.nil)))))))))))))) ?_
     refine EAll.cons ?_ ?_
     ·
      replace H := H.1
      refine EOp.e rfl rfl rfl (EffX.call (f := 11) (sh := fun h => clause_New _ h _) (H0 := H) rfl Tryz.call11 rfl (hl := fun w m hr hw => lift_clause_New _ w m hr _ hw)) ?_
      rintro _ _ ⟨v_37, h0u70, rfl, rfl, H⟩
      apply Stg.next [(27, _)] rfl rfl
      refine Stg.go [0, 1, 5, 6, 8, 10, 11, 13, 14, 15, 16, 17] [7, 12] rfl rfl (QAll.cons (QOp.q rfl rfl (Quiet1.loadSP (i := 2) (l := [_, _, _, _, _, _, _]) hT rfl rfl rfl rfl rfl rfl rfl rfl) rfl rfl) (QAll.cons (QOp.q rfl rfl (Quiet1.loadSP (i := 1) (l := [_, _]) hT rfl rfl rfl rfl rfl rfl rfl rfl) rfl rfl) (QAll.cons (QOp.p hT rfl rfl rfl rfl rfl) (QAll.cons (QOp.q rfl rfl (Quiet1.loadP (i := 2) hT rfl rfl rfl rfl rfl rfl) rfl rfl) (QAll.cons (QOp.q rfl rfl (Quiet1.loadSP (i := 2) (l := [_, _, _, _, _, _, _]) hT rfl rfl rfl rfl rfl rfl rfl rfl) rfl rfl) (QAll.cons (QOp.p hT rfl rfl rfl rfl rfl) (QAll.cons (QOp.q rfl rfl (Quiet1.loadP (i := 2) hT rfl rfl rfl rfl rfl rfl) rfl rfl) (QAll.cons (QOp.p hT rfl rfl rfl rfl rfl) (QAll.cons (QOp.q rfl rfl (Quiet1.loadP (i := 2) hT rfl rfl rfl rfl rfl rfl) rfl rfl) (QAll.cons (QOp.p hT rfl rfl rfl rfl rfl) (QAll.cons (QOp.p hT rfl rfl rfl rfl rfl) (QAll.cons (QOp.p hT rfl rfl rfl rfl rfl) QAll.nil)))))))))))) ?_
      refine EAll.cons ?_ ?_
      ·
       replace H := H.1
       refine EOp.e rfl rfl rfl (EffX.call (f := 12) (sh := fun h => queue_New _ h _) (H0 := H) rfl Tryz.call12 rfl (hl := fun w m hr hw => lift_queue_New _ w m hr _ hw)) ?_
       rintro _ _ ⟨v_38, h0u71, rfl, rfl, H⟩
       apply Stg.next [(30, _)] rfl rfl
       refine Stg.go [0, 1, 8, 10, 11, 13, 14, 15, 16, 17] [9, 12] rfl rfl (QAll.cons (QOp.q rfl rfl (Quiet1.loadSP (i := 2) (l := [_, _, _, _, _, _, _]) hT rfl rfl rfl rfl rfl rfl rfl rfl) rfl rfl) (QAll.cons (QOp.q rfl rfl (Quiet1.loadSP (i := 1) (l := [_, _]) hT rfl rfl rfl rfl rfl rfl rfl rfl) rfl rfl) (QAll.cons (QOp.q rfl rfl (Quiet1.loadSP (i := 2) (l := [_, _, _, _, _, _, _]) hT rfl rfl rfl rfl rfl rfl rfl rfl) rfl rfl) (QAll.cons (QOp.p hT rfl rfl rfl rfl rfl) (QAll.cons (QOp.q rfl rfl (Quiet1.loadP (i := 2) hT rfl rfl rfl rfl rfl rfl) rfl rfl) (QAll.cons (QOp.p hT rfl rfl rfl rfl rfl) (QAll.cons (QOp.q rfl rfl (Quiet1.loadP (i := 2) hT rfl rfl rfl rfl rfl rfl) rfl rfl) (QAll.cons (QOp.p hT rfl rfl rfl rfl rfl) (QAll.cons (QOp.p hT rfl rfl rfl rfl rfl) (QAll.cons (QOp.p hT rfl rfl rfl rfl rfl) QAll.nil)))))))))) ?_
       refine EAll.cons ?_ ?_
       ·
        replace H := H.1
        refine EOp.e rfl rfl rfl (EffX.call (f := 13) (sh := fun h => tableau_New _ h _) (H0 := H) rfl Tryz.call13 rfl (hl := fun w m hr hw => lift_tableau_New _ w m hr _ hw)) ?_
        rintro _ _ ⟨v_39, h0u72, rfl, rfl, H⟩
        apply Stg.next [(32, _)] rfl rfl
        refine Stg.go [0, 1, 10, 11, 13, 14, 15, 16, 17] [12] rfl rfl (QAll.cons (QOp.q rfl rfl (Quiet1.loadSP (i := 2) (l := [_, _, _, _, _, _, _]) hT rfl rfl rfl rfl rfl rfl rfl rfl) rfl rfl) (QAll.cons (QOp.q rfl rfl (Quiet1.loadSP (i := 1) (l := [_, _]) hT rfl rfl rfl rfl rfl rfl rfl rfl) rfl rfl) (QAll.cons (QOp.p hT rfl rfl rfl rfl rfl) (QAll.cons (QOp.q rfl rfl (Quiet1.loadP (i := 2) hT rfl rfl rfl rfl rfl rfl) rfl rfl) (QAll.cons (QOp.p hT rfl rfl rfl rfl rfl) (QAll.cons (QOp.q rfl rfl (Quiet1.loadP (i := 2) hT rfl rfl rfl rfl rfl rfl) rfl rfl) (QAll.cons (QOp.p hT rfl rfl rfl rfl rfl) (QAll.cons (QOp.p hT rfl rfl rfl rfl rfl) (QAll.cons (QOp.p hT rfl rfl rfl rfl rfl) QAll.nil))))))))) ?_
        refine EAll.cons ?_ EAll.nil
        refine EOp.e rfl rfl rfl (EffX.mkS hT rfl rfl rfl rfl rfl rfl rfl rfl (by decide) H) ?_
        rintro _ _ ⟨v_40, h0u73, rfl, rfl, H⟩
        apply Stg.next [(35, _), (41, _)] rfl rfl
        refine Stg.go [0, 1, 13, 14, 15, 16, 17, 18] [20] rfl rfl (QAll.cons (QOp.q rfl rfl (Quiet1.loadSP (i := 2) (l := [_, _, _, _, _, _, _]) hT rfl rfl rfl rfl rfl rfl rfl rfl) rfl rfl) (QAll.cons (QOp.q rfl rfl (Quiet1.loadSP (i := 1) (l := [_, _]) hT rfl rfl rfl rfl rfl rfl rfl rfl) rfl rfl) (QAll.cons (QOp.p hT rfl rfl rfl rfl rfl) (QAll.cons (QOp.q rfl rfl (Quiet1.loadP (i := 2) hT rfl rfl rfl rfl rfl rfl) rfl rfl) (QAll.cons (QOp.p hT rfl rfl rfl rfl rfl) (QAll.cons (QOp.p hT rfl rfl rfl rfl rfl) (QAll.cons (QOp.p hT rfl rfl rfl rfl rfl) (QAll.cons (QOp.q rfl rfl (Quiet1.build (cs := [Value.int .i64 p.1, Value.int .i64 p.2.1, Sl.toV p.2.2.1, Sl.toV p.2.2.2.1, Sl.toV p.2.2.2.2.1, Sl.toV p.2.2.2.2.2.1, Sl.toV p.2.2.2.2.2.2, Value.int .i64 l.1, Value.int .i64 l.2, Sl.toV v_37.1, Sl.toV v_37.2.1, Sl.toV v_37.2.2.1, Sl.toV v_37.2.2.2.1, Sl.toV v_37.2.2.2.2.1, Sl.toV v_37.2.2.2.2.2.1, Sl.toV v_37.2.2.2.2.2.2.1, Value.int .i64 v_37.2.2.2.2.2.2.2, Sl.toV v_38.1, Sl.toV v_38.2, Sl.toV v_39.1, Sl.toV v_39.2.1, Sl.toV v_39.2.2.1, Sl.toV v_39.2.2.2.1, Sl.toV v_39.2.2.2.2, Sl.toV Sl.nil, Value.int .i64 0, Sl.toV v_40, Value.int .i64 0, Value.int .i64 0, Value.int .i64 0, Value.int .i64 0, Value.int .i64 (IntKind.wrap .i64 (64 + (IntKind.wrap .i64 (Int.tdiv ((p.2.2.2.2.1.len : Nat) : Int) 3)))), Value.int .i64 0]) hT rfl rfl rfl rfl rfl (by kernel_rfl)) rfl rfl) QAll.nil)))))))) ?_
        refine EAll.cons ?_ EAll.nil
        refine EOp.e rfl rfl rfl (EffX.storeS hT rfl rfl rfl rfl rfl rfl H) ?_
        rintro _ _ ⟨h0u74, rfl, H⟩
        apply Stg.next [] rfl rfl
        refine Stg.fin [] rfl rfl QAll.nil ?_
        exact AtE.then_n ((HK2 _ () _ H).pickP (ts := [6, 2, 4]) (is := [0, 2]) rfl rfl (by decide) rfl)
       refine EAll.cons ?_ EAll.nil
       replace H := H.2
       refine EOp.e rfl rfl rfl (EffX.mkS hT rfl rfl rfl rfl rfl rfl rfl rfl (by decide) H) ?_
       rintro _ _ ⟨v_41, h0u75, rfl, rfl, H⟩
       apply Stg.next [(35, _)] rfl rfl
       refine Stg.go [0, 1, 8, 13, 14, 15, 16, 17] [9] rfl rfl (QAll.cons (QOp.q rfl rfl (Quiet1.loadSP (i := 2) (l := [_, _, _, _, _, _, _]) hT rfl rfl rfl rfl rfl rfl rfl rfl) rfl rfl) (QAll.cons (QOp.q rfl rfl (Quiet1.loadSP (i := 1) (l := [_, _]) hT rfl rfl rfl rfl rfl rfl rfl rfl) rfl rfl) (QAll.cons (QOp.q rfl rfl (Quiet1.loadSP (i := 2) (l := [_, _, _, _, _, _, _]) hT rfl rfl rfl rfl rfl rfl rfl rfl) rfl rfl) (QAll.cons (QOp.p hT rfl rfl rfl rfl rfl) (QAll.cons (QOp.q rfl rfl (Quiet1.loadP (i := 2) hT rfl rfl rfl rfl rfl rfl) rfl rfl) (QAll.cons (QOp.p hT rfl rfl rfl rfl rfl) (QAll.cons (QOp.p hT rfl rfl rfl rfl rfl) (QAll.cons (QOp.p hT rfl rfl rfl rfl rfl) QAll.nil)))))))) ?_
       refine EAll.cons ?_ EAll.nil
       refine EOp.e rfl rfl rfl (EffX.call (f := 13) (sh := fun h => tableau_New _ h _) (H0 := H) rfl Tryz.call13 rfl (hl := fun w m hr hw => lift_tableau_New _ w m hr _ hw)) ?_
       rintro _ _ ⟨v_42, h0u76, rfl, rfl, H⟩
       apply Stg.next [(32, _), (41, _)] rfl rfl
       refine Stg.go [0, 1, 13, 14, 15, 16, 17, 18] [20] rfl rfl (QAll.cons (QOp.q rfl rfl (Quiet1.loadSP (i := 2) (l := [_, _, _, _, _, _, _]) hT rfl rfl rfl rfl rfl rfl rfl rfl) rfl rfl) (QAll.cons (QOp.q rfl rfl (Quiet1.loadSP (i := 1) (l := [_, _]) hT rfl rfl rfl rfl rfl rfl rfl rfl) rfl rfl) (QAll.cons (QOp.p hT rfl rfl rfl rfl rfl) (QAll.cons (QOp.q rfl rfl (Quiet1.loadP (i := 2) hT rfl rfl rfl rfl rfl rfl) rfl rfl) (QAll.cons (QOp.p hT rfl rfl rfl rfl rfl) (QAll.cons (QOp.p hT rfl rfl rfl rfl rfl) (QAll.cons (QOp.p hT rfl rfl rfl rfl rfl) (QAll.cons (QOp.q rfl rfl (Quiet1.build (cs := [Value.int .i64 p.1, Value.int .i64 p.2.1, Sl.toV p.2.2.1, Sl.toV p.2.2.2.1, Sl.toV p.2.2.2.2.1, Sl.toV p.2.2.2.2.2.1, Sl.toV p.2.2.2.2.2.2, Value.int .i64 l.1, Value.int .i64 l.2, Sl.toV v_37.1, Sl.toV v_37.2.1, Sl.toV v_37.2.2.1, Sl.toV v_37.2.2.2.1, Sl.toV v_37.2.2.2.2.1, Sl.toV v_37.2.2.2.2.2.1, Sl.toV v_37.2.2.2.2.2.2.1, Value.int .i64 v_37.2.2.2.2.2.2.2, Sl.toV v_38.1, Sl.toV v_38.2, Sl.toV v_42.1, Sl.toV v_42.2.1, Sl.toV v_42.2.2.1, Sl.toV v_42.2.2.2.1, Sl.toV v_42.2.2.2.2, Sl.toV Sl.nil, Value.int .i64 0, Sl.toV v_41, Value.int .i64 0, Value.int .i64 0, Value.int .i64 0, Value.int .i64 0, Value.int .i64 (IntKind.wrap .i64 (64 + (IntKind.wrap .i64 (Int.tdiv ((p.2.2.2.2.1.len : Nat) : Int) 3)))), Value.int .i64 0]) hT rfl rfl rfl rfl rfl (by kernel_rfl)) rfl rfl) QAll.nil)))))))) ?_
       refine EAll.cons ?_ EAll.nil
       refine EOp.e rfl rfl rfl (EffX.storeS hT rfl rfl rfl rfl rfl rfl H) ?_
       rintro _ _ ⟨h0u77, rfl, H⟩
       apply Stg.next [] rfl rfl
       refine Stg.fin [] rfl rfl QAll.nil ?_
       exact AtE.then_n ((HK2 _ () _ H).pickP (ts := [6, 2, 4]) (is := [0, 2]) rfl rfl (by decide) rfl)
      refine EAll.cons ?_ EAll.nil
      replace H := H.2
      refine EOp.e rfl rfl rfl (EffX.mkS hT rfl rfl rfl rfl rfl rfl rfl rfl (by decide) H) ?_
      rintro _ _ ⟨v_43, h0u78, rfl, rfl, H⟩
      apply Stg.next [(35, _)] rfl rfl
      refine Stg.go [0, 1, 5, 6, 8, 13, 14, 15, 16, 17] [7] rfl rfl (QAll.cons (QOp.q rfl rfl (Quiet1.loadSP (i := 2) (l := [_, _, _, _, _, _, _]) hT rfl rfl rfl rfl rfl rfl rfl rfl) rfl rfl) (QAll.cons (QOp.q rfl rfl (Quiet1.loadSP (i := 1) (l := [_, _]) hT rfl rfl rfl rfl rfl rfl rfl rfl) rfl rfl) (QAll.cons (QOp.p hT rfl rfl rfl rfl rfl) (QAll.cons (QOp.q rfl rfl (Quiet1.loadP (i := 2) hT rfl rfl rfl rfl rfl rfl) rfl rfl) (QAll.cons (QOp.q rfl rfl (Quiet1.loadSP (i := 2) (l := [_, _, _, _, _, _, _]) hT rfl rfl rfl rfl rfl rfl rfl rfl) rfl rfl) (QAll.cons (QOp.p hT rfl rfl rfl rfl rfl) (QAll.cons (QOp.q rfl rfl (Quiet1.loadP (i := 2) hT rfl rfl rfl rfl rfl rfl) rfl rfl) (QAll.cons (QOp.p hT rfl rfl rfl rfl rfl) (QAll.cons (QOp.p hT rfl rfl rfl rfl rfl) (QAll.cons (QOp.p hT rfl rfl rfl rfl rfl) QAll.nil)))))))))) ?_
      refine EAll.cons ?_ EAll.nil
      refine EOp.e rfl rfl rfl (EffX.call (f := 12) (sh := fun h => queue_New _ h _) (H0 := H) rfl Tryz.call12 rfl (hl := fun w m hr hw => lift_queue_New _ w m hr _ hw)) ?_
      rintro _ _ ⟨v_44, h0u79, rfl, rfl, H⟩
      apply Stg.next [(30, _)] rfl rfl
      refine Stg.go [0, 1, 8, 13, 14, 15, 16, 17] [9] rfl rfl (QAll.cons (QOp.q rfl rfl (Quiet1.loadSP (i := 2) (l := [_, _, _, _, _, _, _]) hT rfl rfl rfl rfl rfl rfl rfl rfl) rfl rfl) (QAll.cons (QOp.q rfl rfl (Quiet1.loadSP (i := 1) (l := [_, _]) hT rfl rfl rfl rfl rfl rfl rfl rfl) rfl rfl) (QAll.cons (QOp.q rfl rfl (Quiet1.loadSP (i := 2) (l := [_, _, _, _, _, _, _]) hT rfl rfl rfl rfl rfl rfl rfl rfl) rfl rfl) (QAll.cons (QOp.p hT rfl rfl rfl rfl rfl) (QAll.cons (QOp.q rfl rfl (Quiet1.loadP (i := 2) hT rfl rfl rfl rfl rfl rfl) rfl rfl) (QAll.cons (QOp.p hT rfl rfl rfl rfl rfl) (QAll.cons (QOp.p hT rfl rfl rfl rfl rfl) (QAll.cons (QOp.p hT rfl rfl rfl rfl rfl) QAll.nil)))))))) ?_
      refine EAll.cons ?_ EAll.nil
      refine EOp.e rfl rfl rfl (EffX.call (f := 13) (sh := fun h => tableau_New _ h _) (H0 := H) rfl Tryz.call13 rfl (hl := fun w m hr hw => lift_tableau_New _ w m hr _ hw)) ?_
      rintro _ _ ⟨v_45, h0u80, rfl, rfl, H⟩
      apply Stg.next [(32, _), (41, _)] rfl rfl
      refine Stg.go [0, 1, 13, 14, 15, 16, 17, 18] [20] rfl rfl (QAll.cons (QOp.q rfl rfl (Quiet1.loadSP (i := 2) (l := [_, _, _, _, _, _, _]) hT rfl rfl rfl rfl rfl rfl rfl rfl) rfl rfl) (QAll.cons (QOp.q rfl rfl (Quiet1.loadSP (i := 1) (l := [_, _]) hT rfl rfl rfl rfl rfl rfl rfl rfl) rfl rfl) (QAll.cons (QOp.p hT rfl rfl rfl rfl rfl) (QAll.cons (QOp.q rfl rfl (Quiet1.loadP (i := 2) hT rfl rfl rfl rfl rfl rfl) rfl rfl) (QAll.cons (QOp.p hT rfl rfl rfl rfl rfl) (QAll.cons (QOp.p hT rfl rfl rfl rfl rfl) (QAll.cons (QOp.p hT rfl rfl rfl rfl rfl) (QAll.cons (QOp.q rfl rfl (Quiet1.build (cs := [Value.int .i64 p.1, Value.int .i64 p.2.1, Sl.toV p.2.2.1, Sl.toV p.2.2.2.1, Sl.toV p.2.2.2.2.1, Sl.toV p.2.2.2.2.2.1, Sl.toV p.2.2.2.2.2.2, Value.int .i64 l.1, Value.int .i64 l.2, Sl.toV v_37.1, Sl.toV v_37.2.1, Sl.toV v_37.2.2.1, Sl.toV v_37.2.2.2.1, Sl.toV v_37.2.2.2.2.1, Sl.toV v_37.2.2.2.2.2.1, Sl.toV v_37.2.2.2.2.2.2.1, Value.int .i64 v_37.2.2.2.2.2.2.2, Sl.toV v_44.1, Sl.toV v_44.2, Sl.toV v_45.1, Sl.toV v_45.2.1, Sl.toV v_45.2.2.1, Sl.toV v_45.2.2.2.1, Sl.toV v_45.2.2.2.2, Sl.toV Sl.nil, Value.int .i64 0, Sl.toV v_43, Value.int .i64 0, Value.int .i64 0, Value.int .i64 0, Value.int .i64 0, Value.int .i64 (IntKind.wrap .i64 (64 + (IntKind.wrap .i64 (Int.tdiv ((p.2.2.2.2.1.len : Nat) : Int) 3)))), Value.int .i64 0]) hT rfl rfl rfl rfl rfl (by kernel_rfl)) rfl rfl) QAll.nil)))))))) ?_
      refine EAll.cons ?_ EAll.nil
      refine EOp.e rfl rfl rfl (EffX.storeS hT rfl rfl rfl rfl rfl rfl H) ?_
      rintro _ _ ⟨h0u81, rfl, H⟩
      apply Stg.next [] rfl rfl
      refine Stg.fin [] rfl rfl QAll.nil ?_
      exact AtE.then_n ((HK2 _ () _ H).pickP (ts := [6, 2, 4]) (is := [0, 2]) rfl rfl (by decide) rfl)
     refine EAll.cons ?_ EAll.nil
     replace H := H.2
     refine EOp.e rfl rfl rfl (EffX.mkS hT rfl rfl rfl rfl rfl rfl rfl rfl (by decide) H) ?_
     rintro _ _ ⟨v_46, h0u82, rfl, rfl, H⟩
     apply Stg.next [(35, _)] rfl rfl
     refine Stg.go [0, 1, 2, 3, 5, 6, 8, 13, 14, 15, 16, 17] [4] rfl rfl (QAll.cons (QOp.q rfl rfl (Quiet1.loadSP (i := 2) (l := [_, _, _, _, _, _, _]) hT rfl rfl rfl rfl rfl rfl rfl rfl) rfl rfl) (QAll.cons (QOp.q rfl rfl (Quiet1.loadSP (i := 1) (l := [_, _]) hT rfl rfl rfl rfl rfl rfl rfl rfl) rfl rfl) (QAll.cons (QOp.p hT rfl rfl rfl rfl rfl) (QAll.cons (QOp.q rfl rfl (Quiet1.loadP (i := 2) hT rfl rfl rfl rfl rfl rfl) rfl rfl) (QAll.cons (QOp.p hT rfl rfl rfl rfl rfl) (QAll.cons (QOp.q rfl rfl (Quiet1.loadP (i := 2) hT rfl rfl rfl rfl rfl rfl) rfl rfl) (QAll.cons (QOp.q rfl rfl (Quiet1.loadSP (i := 2) (l := [_, _, _, _, _, _, _]) hT rfl rfl rfl rfl rfl rfl rfl rfl) rfl rfl) (QAll.cons (QOp.p hT rfl rfl rfl rfl rfl) (QAll.cons (QOp.q rfl rfl (Quiet1.loadP (i := 2) hT rfl rfl rfl rfl rfl rfl) rfl rfl) (QAll.cons (QOp.p hT rfl rfl rfl rfl rfl) (QAll.cons (QOp.p hT rfl rfl rfl rfl rfl) (QAll.cons (QOp.p hT rfl rfl rfl rfl rfl) QAll.nil)))))))))))) ?_
     refine EAll.cons ?_ EAll.nil
     refine EOp.e rfl rfl rfl (EffX.call (f := 11) (sh := fun h => clause_New _ h _) (H0 := H) rfl Tryz.call11 rfl (hl := fun w m hr hw => lift_clause_New _ w m hr _ hw)) ?_
     rintro _ _ ⟨v_47, h0u83, rfl, rfl, H⟩
     apply Stg.next [(27, _)] rfl rfl
     refine Stg.go [0, 1, 5, 6, 8, 13, 14, 15, 16, 17] [7] rfl rfl (QAll.cons (QOp.q rfl rfl (Quiet1.loadSP (i := 2) (l := [_, _, _, _, _, _, _]) hT rfl rfl rfl rfl rfl rfl rfl rfl) rfl rfl) (QAll.cons (QOp.q rfl rfl (Quiet1.loadSP (i := 1) (l := [_, _]) hT rfl rfl rfl rfl rfl rfl rfl rfl) rfl rfl) (QAll.cons (QOp.p hT rfl rfl rfl rfl rfl) (QAll.cons (QOp.q rfl rfl (Quiet1.loadP (i := 2) hT rfl rfl rfl rfl rfl rfl) rfl rfl) (QAll.cons (QOp.q rfl rfl (Quiet1.loadSP (i := 2) (l := [_, _, _, _, _, _, _]) hT rfl rfl rfl rfl rfl rfl rfl rfl) rfl rfl) (QAll.cons (QOp.p hT rfl rfl rfl rfl rfl) (QAll.cons (QOp.q rfl rfl (Quiet1.loadP (i := 2) hT rfl rfl rfl rfl rfl rfl) rfl rfl) (QAll.cons (QOp.p hT rfl rfl rfl rfl rfl) (QAll.cons (QOp.p hT rfl rfl rfl rfl rfl) (QAll.cons (QOp.p hT rfl rfl rfl rfl rfl) QAll.nil)))))))))) ?_
     refine EAll.cons ?_ EAll.nil
     refine EOp.e rfl rfl rfl (EffX.call (f := 12) (sh := fun h => queue_New _ h _) (H0 := H) rfl Tryz.call12 rfl (hl := fun w m hr hw => lift_queue_New _ w m hr _ hw)) ?_
     rintro _ _ ⟨v_48, h0u84, rfl, rfl, H⟩
     apply Stg.next [(30, _)] rfl rfl
     refine Stg.go [0, 1, 8, 13, 14, 15, 16, 17] [9] rfl rfl (QAll.cons (QOp.q rfl rfl (Quiet1.loadSP (i := 2) (l := [_, _, _, _, _, _, _]) hT rfl rfl rfl rfl rfl rfl rfl rfl) rfl rfl) (QAll.cons (QOp.q rfl rfl (Quiet1.loadSP (i := 1) (l := [_, _]) hT rfl rfl rfl rfl rfl rfl rfl rfl) rfl rfl) (QAll.cons (QOp.q rfl rfl (Quiet1.loadSP (i := 2) (l := [_, _, _, _, _, _, _]) hT rfl rfl rfl rfl rfl rfl rfl rfl) rfl rfl) (QAll.cons (QOp.p hT rfl rfl rfl rfl rfl) (QAll.cons (QOp.q rfl rfl (Quiet1.loadP (i := 2) hT rfl rfl rfl rfl rfl rfl) rfl rfl) (QAll.cons (QOp.p hT rfl rfl rfl rfl rfl) (QAll.cons (QOp.p hT rfl rfl rfl rfl rfl) (QAll.cons (QOp.p hT rfl rfl rfl rfl rfl) QAll.nil)))))))) ?_
     refine EAll.cons ?_ EAll.nil
     refine EOp.e rfl rfl rfl (EffX.call (f := 13) (sh := fun h => tableau_New _ h _) (H0 := H) rfl Tryz.call13 rfl (hl := fun w m hr hw => lift_tableau_New _ w m hr _ hw)) ?_
     rintro _ _ ⟨v_49, h0u85, rfl, rfl, H⟩
     apply Stg.next [(32, _), (41, _)] rfl rfl
     refine Stg.go [0, 1, 13, 14, 15, 16, 17, 18] [20] rfl rfl (QAll.cons (QOp.q rfl rfl (Quiet1.loadSP (i := 2) (l := [_, _, _, _, _, _, _]) hT rfl rfl rfl rfl rfl rfl rfl rfl) rfl rfl) (QAll.cons (QOp.q rfl rfl (Quiet1.loadSP (i := 1) (l := [_, _]) hT rfl rfl rfl rfl rfl rfl rfl rfl) rfl rfl) (QAll.cons (QOp.p hT rfl rfl rfl rfl rfl) (QAll.cons (QOp.q rfl rfl (Quiet1.loadP (i := 2) hT rfl rfl rfl rfl rfl rfl) rfl rfl) (QAll.cons (QOp.p hT rfl rfl rfl rfl rfl) (QAll.cons (QOp.p hT rfl rfl rfl rfl rfl) (QAll.cons (QOp.p hT rfl rfl rfl rfl rfl) (QAll.cons (QOp.q rfl rfl (Quiet1.build (cs := [Value.int .i64 p.1, Value.int .i64 p.2.1, Sl.toV p.2.2.1, Sl.toV p.2.2.2.1, Sl.toV p.2.2.2.2.1, Sl.toV p.2.2.2.2.2.1, Sl.toV p.2.2.2.2.2.2, Value.int .i64 l.1, Value.int .i64 l.2, Sl.toV v_47.1, Sl.toV v_47.2.1, Sl.toV v_47.2.2.1, Sl.toV v_47.2.2.2.1, Sl.toV v_47.2.2.2.2.1, Sl.toV v_47.2.2.2.2.2.1, Sl.toV v_47.2.2.2.2.2.2.1, Value.int .i64 v_47.2.2.2.2.2.2.2, Sl.toV v_48.1, Sl.toV v_48.2, Sl.toV v_49.1, Sl.toV v_49.2.1, Sl.toV v_49.2.2.1, Sl.toV v_49.2.2.2.1, Sl.toV v_49.2.2.2.2, Sl.toV Sl.nil, Value.int .i64 0, Sl.toV v_46, Value.int .i64 0, Value.int .i64 0, Value.int .i64 0, Value.int .i64 0, Value.int .i64 (IntKind.wrap .i64 (64 + (IntKind.wrap .i64 (Int.tdiv ((p.2.2.2.2.1.len : Nat) : Int) 3)))), Value.int .i64 0]) hT rfl rfl rfl rfl rfl (by kernel_rfl)) rfl rfl) QAll.nil)))))))) ?_
     refine EAll.cons ?_ EAll.nil
     refine EOp.e rfl rfl rfl (EffX.storeS hT rfl rfl rfl rfl rfl rfl H) ?_
     rintro _ _ ⟨h0u86, rfl, H⟩
     apply Stg.next [] rfl rfl
     refine Stg.fin [] rfl rfl QAll.nil ?_
     exact AtE.then_n ((HK2 _ () _ H).pickP (ts := [6, 2, 4]) (is := [0, 2]) rfl rfl (by decide) rfl)
  ·
   refine AtC.region ?_
   refine AtL.q rfl (Quiet1.loadSP (i := 2) (l := [_, _, _, _, _, _, _]) hT rfl rfl rfl rfl rfl rfl rfl rfl) ?_
   refine AtL.e rfl (EffX.call (f := 10) (sh := fun h => cnf_Right _ h _) (H0 := H) rfl Tryz.call10 rfl (hl := fun w m hr hw => lift_cnf_Right _ w m hr _ hw)) ?_
   rintro _ _ ⟨v, h0u2, rfl, rfl, H⟩
   refine AtL.pures hT 2 _ _ _ _ rfl ?_
   refine AtL.splitB (t := 17) H rfl (fun H => ?_) (fun H => ?_)
   ·
    refine AtL.noF rfl rfl rfl (by decide) rfl ?_
    refine AtL.noF rfl rfl rfl (by decide) rfl ?_
    refine AtL.noF rfl rfl rfl (by decide) rfl ?_
    refine AtL.pures hT 1 _ _ _ _ rfl ?_
    refine AtL.nil ?_
    exact AtE.then_n ((HK1 _ () _ H).pickP (ts := [21, 2, 3, 4]) (is := [0, 1, 2]) rfl rfl (by decide) rfl)
   ·
    refine AtL.yes rfl rfl rfl ?_
    refine AtL.pures hT 1 _ _ _ _ rfl ?_
    refine AtL.yes rfl rfl rfl ?_
    refine AtL.q rfl (Quiet1.loadP (i := 2) hT rfl rfl rfl rfl rfl rfl) ?_
    refine AtL.yes rfl rfl rfl ?_
    refine AtL.pures hT 1 _ _ _ _ rfl ?_
    refine AtL.pures hT 1 _ _ _ _ rfl ?_
    refine AtL.nil ?_
    exact AtE.then_n ((HK1 _ () _ H).pickP (ts := [21, 2, 3, 4]) (is := [0, 1, 2]) rfl rfl (by decide) rfl)

theorem lift_nat_New (limbs : Int) (w : World) (m : Heap) (hr : Rel ⟨m, []⟩ w.heap) (S : ((Option Addr)) → Heap → Prop) (H : nat_New limbs m S) :
    Calls Tryz.prog 17 #[Value.int .i64 limbs] w (Post ⟨w, m⟩ Value.pointer S) := by
  refine Calls.lift (args := [Value.int .i64 limbs]) Tryz.func17 rfl Tryz.ntmps17 (Nat.le_of_ble_eq_true rfl) hr (nat_New limbs m S) H (fun H => ?_)
  refine AtC.pick (ts := [0]) rfl ?_
  unfold nat_New at H
  refine AtC.seqR ?_
  refine AtL.pures hT 1 _ _ _ _ rfl ?_
  refine AtL.nil ?_
  refine AtE.then_n (AtE.go ?_)
  refine AtC.seqR ?_
  refine AtL.pures hT 2 _ _ _ _ rfl ?_
  refine AtL.q rfl (Quiet1.build (cs := [_, _]) hT rfl rfl rfl rfl rfl rfl) ?_
  refine AtL.e rfl (EffX.box (cs := [_, _]) rfl rfl rfl H) ?_
  rintro _ _ ⟨a, h0, rfl, rfl, H⟩
  refine AtL.pures hT 1 _ _ _ _ rfl ?_
  refine AtL.nil ?_
  refine AtE.then_n (AtE.go ?_)
  refine AtC.ret ?_
  exact AtE.retN (rs := [.tmp 2]) rfl (ResAll.cons (ResAt.tmp rfl) ResAll.nil) rfl H

theorem lift_clause_watch (lit : Int) (w : World) (m : Heap) (hr : Rel ⟨m, []⟩ w.heap) (S : Int → Heap → Prop) (H : clause_watch lit m S) :
    Calls Tryz.prog 64 #[Value.int .i64 lit] w (Post ⟨w, m⟩ (Value.int .i64) S) := by
  refine Calls.lift (args := [Value.int .i64 lit]) Tryz.func64 rfl Tryz.ntmps64 (Nat.le_of_ble_eq_true rfl) hr (clause_watch lit m S) H (fun H => ?_)
  refine AtC.pick (ts := [0]) rfl ?_
  unfold clause_watch at H
  refine AtC.seqR ?_
  refine AtL.pures hT 1 _ _ _ _ rfl ?_
  refine AtL.nil ?_
  refine AtE.then_n (AtE.go ?_)
  refine AtC.seq ?_
  refine AtC.seqR ?_
  refine AtL.pures hT 2 _ _ _ _ rfl ?_
  refine AtL.nil ?_
  refine AtE.then_n (AtE.go ?_)
  refine AtC.condB H rfl (fun H => ?_) (fun H => ?_)
  ·
   refine AtC.seqR ?_
   refine AtL.pures hT 1 _ _ _ _ rfl ?_
   refine AtL.e rfl (EffX.call (f := 63) (sh := fun h => clause_truth _ h _) (H0 := H) rfl Tryz.call63 rfl (hl := fun w m hr hw => lift_clause_truth _ w m hr _ hw)) ?_
   rintro _ _ ⟨v, h0, rfl, rfl, H⟩
   refine AtL.pures hT 2 _ _ _ _ rfl ?_
   refine AtL.nil ?_
   refine AtE.then_n (AtE.go ?_)
   refine AtC.ret ?_
   refine AtE.then_r ?_
   exact AtE.retN (rs := [.tmp 2]) rfl (ResAll.cons (ResAt.tmp rfl) ResAll.nil) rfl H
  ·
   refine AtC.skip ?_
   refine AtE.then_n (AtE.go ?_)
   refine AtC.seqR ?_
   refine AtL.pures hT 1 _ _ _ _ rfl ?_
   refine AtL.e rfl (EffX.call (f := 63) (sh := fun h => clause_truth _ h _) (H0 := H) rfl Tryz.call63 rfl (hl := fun w m hr hw => lift_clause_truth _ w m hr _ hw)) ?_
   rintro _ _ ⟨v_1, h0u1, rfl, rfl, H⟩
   refine AtL.pures hT 3 _ _ _ _ rfl ?_
   refine AtL.nil ?_
   refine AtE.then_n (AtE.go ?_)
   refine AtC.ret ?_
   exact AtE.retN (rs := [.tmp 2]) rfl (ResAll.cons (ResAt.tmp rfl) ResAll.nil) rfl H

theorem lift_clause_ask (s0 : (Option Addr)) (at0 : Int) (gone : Int) (w : World) (m : Heap) (hr : Rel ⟨m, []⟩ w.heap) (S : Int → Heap → Prop) (H : clause_ask s0 at0 gone m S) :
    Calls Tryz.prog 66 #[Value.pointer s0, Value.int .i64 at0, Value.int .i64 gone] w (Post ⟨w, m⟩ (Value.int .i64) S) := by
  refine Calls.lift (args := [Value.pointer s0, Value.int .i64 at0, Value.int .i64 gone]) Tryz.func66 rfl Tryz.ntmps66 (Nat.le_of_ble_eq_true rfl) hr (clause_ask s0 at0 gone m S) H (fun H => ?_)
  refine AtC.pick (ts := [0, 1, 2]) rfl ?_
  unfold clause_ask at H
  refine AtC.seqR ?_
  refine AtL.pures hT 1 _ _ _ _ rfl ?_
  refine AtL.nil ?_
  refine AtE.then_n (AtE.go ?_)
  refine AtC.seqR ?_
  refine AtL.pures hT 1 _ _ _ _ rfl ?_
  obtain ⟨a, hc0, H⟩ := H
  refine AtL.q rfl (Quiet1.nilChk rfl rfl hc0) ?_
  refine AtL.pures hT 1 _ _ _ _ rfl ?_
  obtain ⟨v, hc1, H⟩ := H
  refine AtL.q rfl (Quiet1.load hT rfl rfl rfl hc1) ?_
  refine AtL.pures hT 1 _ _ _ _ rfl ?_
  obtain ⟨a_1_, hc2, hd2, H⟩ := H
  refine AtL.q rfl (Quiet1.idxS (s := _) hT rfl rfl rfl rfl rfl hc2 hd2) ?_
  refine AtL.pures hT 1 _ _ _ _ rfl ?_
  obtain ⟨v_1, hc3, H⟩ := H
  refine AtL.q rfl (Quiet1.load hT rfl rfl rfl hc3) ?_
  refine AtL.pures hT 1 _ _ _ _ rfl ?_
  refine AtL.nil ?_
  refine AtE.then_n (AtE.go ?_)
  refine AtC.joinSeq (β := Unit) (fun (t0 : Unit) (bb : Unit) => []) (fun (t0 : Unit) (bb : Unit) => []) [0, 1, 7] [] H (by exact rfl) (by exact rfl) (fun t0 bb h0 H => ?_) (fun J5 H HK5 => ?_)
  ·
   refine AtC.seq ?_
   obtain ⟨a_7, hc13, H⟩ := H
   obtain ⟨v_5, hc14, H⟩ := H
   obtain ⟨a_8_, hc15, hd15, H⟩ := H
   obtain ⟨v_6, hc16, H⟩ := H
   apply AtC.seqS [6] [[], [], [], [], [], [], [], [6]] [[], [0], [0, 1], [], [3], [3, 4], [0, 1, 2, 3, 4, 5], [0, 1, 2, 3, 4, 5, 6]] hmix (by kernel_rfl) [(32, _), (33, _), (34, _), (35, _), (36, _), (37, _)] rfl 1 rfl
   refine Stg.go [0, 1, 2, 3, 4, 5] [6] rfl rfl (QAll.cons (QOp.p hT rfl rfl rfl rfl rfl) (QAll.cons (QOp.q rfl rfl (Quiet1.nilChk rfl rfl hc13) rfl rfl) (QAll.cons (QOp.q rfl rfl (Quiet1.loadS hT rfl rfl rfl rfl hc14) rfl rfl) (QAll.cons (QOp.p hT rfl rfl rfl rfl rfl) (QAll.cons (QOp.q rfl rfl (Quiet1.idxS (s := _) hT rfl rfl rfl rfl rfl hc15 hd15) rfl rfl) (QAll.cons (QOp.q rfl rfl (Quiet1.load hT rfl rfl rfl hc16) rfl rfl) QAll.nil)))))) ?_
   refine EAll.cons ?_ EAll.nil
   refine EOp.e rfl rfl rfl (EffX.call (f := 40) (sh := fun h => clause_Value _ _ h _) (H0 := H) rfl Tryz.call40 rfl (hl := fun w m hr hw => lift_clause_Value _ _ w m hr _ hw)) ?_
   rintro _ _ ⟨v_7, h0u3, rfl, rfl, H⟩
   apply Stg.next [(38, _), (39, _)] rfl rfl
   refine Stg.fin [7] rfl rfl (QAll.cons (QOp.p hT rfl rfl rfl rfl rfl) QAll.nil) ?_
   refine AtE.then_n (AtE.go ?_)
   refine AtC.condB H rfl (fun H => ?_) (fun H => ?_)
   ·
    refine AtC.seqR ?_
    refine AtL.pures hT 1 _ _ _ _ rfl ?_
    refine AtL.nil ?_
    refine AtE.then_n (AtE.go ?_)
    refine AtC.ret ?_
    refine AtE.then_r ?_
    exact AtE.retN (rs := [.tmp 6]) rfl (ResAll.cons (ResAt.tmp rfl) ResAll.nil) rfl H
   ·
    refine AtC.skip ?_
    refine AtE.then_n (AtE.go ?_)
    refine AtC.seq ?_
    refine AtC.seqR ?_
    refine AtL.pures hT 1 _ _ _ _ rfl ?_
    refine AtL.nil ?_
    refine AtE.then_n (AtE.go ?_)
    refine AtC.block ?_
    refine AtC.loopM (fun (s0u1 : Int) => [(8, Value.int .i64 s0u1)]) (fun (s0u1 : Int) => []) [0, 1, 7] [8, 0, 1, 7] [] [] H (by exact rfl) (by exact rfl) (by exact rfl) (by decide) (by exact rfl) (fun Kp18 s0u1 h0u4 H Q18 HK18 => ?_)
    refine AtC.seq ?_
    refine AtC.seqR ?_
    refine AtL.pures hT 4 _ _ _ _ rfl ?_
    refine AtL.nil ?_
    refine AtE.then_n (AtE.go ?_)
    refine AtC.condB H rfl (fun H => ?_) (fun H => ?_)
    ·
     refine AtC.skip ?_
     refine AtE.then_n (AtE.go ?_)
     refine AtC.seq ?_
     refine AtC.block ?_
     obtain ⟨a_9, hc18, H⟩ := H
     obtain ⟨v_8, hc19, H⟩ := H
     obtain ⟨a_10_, hc20, hd20, H⟩ := H
     obtain ⟨v_9, hc21, H⟩ := H
     apply AtC.seqS [7] [[], [], [], [], [], [], [], [], [7]] [[], [0], [0, 1], [], [], [3, 4], [3, 4, 5], [0, 1, 2, 3, 4, 5, 6], [0, 1, 2, 3, 4, 5, 6, 7]] hmix (by kernel_rfl) [(46, _), (47, _), (48, _), (49, _), (50, _), (51, _), (52, _)] rfl 1 rfl
     refine Stg.go [0, 1, 2, 3, 4, 5, 6] [7] rfl rfl (QAll.cons (QOp.p hT rfl rfl rfl rfl rfl) (QAll.cons (QOp.q rfl rfl (Quiet1.nilChk rfl rfl hc18) rfl rfl) (QAll.cons (QOp.q rfl rfl (Quiet1.loadS hT rfl rfl rfl rfl hc19) rfl rfl) (QAll.cons (QOp.p hT rfl rfl rfl rfl rfl) (QAll.cons (QOp.p hT rfl rfl rfl rfl rfl) (QAll.cons (QOp.q rfl rfl (Quiet1.idxS (s := _) hT rfl rfl rfl rfl rfl hc20 hd20) rfl rfl) (QAll.cons (QOp.q rfl rfl (Quiet1.load hT rfl rfl rfl hc21) rfl rfl) QAll.nil))))))) ?_
     refine EAll.cons ?_ EAll.nil
     refine EOp.e rfl rfl rfl (EffX.call (f := 40) (sh := fun h => clause_Value _ _ h _) (H0 := H) rfl Tryz.call40 rfl (hl := fun w m hr hw => lift_clause_Value _ _ w m hr _ hw)) ?_
     rintro _ _ ⟨v_10, h0u5, rfl, rfl, H⟩
     apply Stg.next [(53, _), (54, _)] rfl rfl
     refine Stg.fin [8] rfl rfl (QAll.cons (QOp.p hT rfl rfl rfl rfl rfl) QAll.nil) ?_
     refine AtE.then_n (AtE.go ?_)
     refine AtC.condB H rfl (fun H => ?_) (fun H => ?_)
     ·
      obtain ⟨a_11_, hc22, hd22, H⟩ := H
      obtain ⟨v_11, hc23, H⟩ := H
      obtain ⟨a_12_, hc24, hd24, H⟩ := H
      obtain ⟨v_12, hc25, H⟩ := H
      obtain ⟨a_13_, hc26, hd26, H⟩ := H
      apply AtC.seqS [11, 13] [[], [], [], [], [], [], [], [], [], [], [], [], [11], [11]] [[], [], [], [], [], [3, 4], [3, 4, 5], [], [7], [7, 8], [0, 3, 4, 5, 6, 7, 8, 9], [0, 3, 4, 5, 6, 7, 8, 9, 10], [0, 1, 2, 3, 4, 5, 6, 7, 8, 9, 10, 11], [0, 1, 2, 3, 4, 5, 6, 7, 8, 9, 10, 11, 12]] hmix (by kernel_rfl) [(55, _), (56, _), (57, _), (58, _), (59, _), (60, _), (61, _), (62, _), (63, _), (64, _), (65, _)] rfl 2 rfl
      refine Stg.go [0, 1, 2, 3, 4, 5, 6, 7, 8, 9, 10] [11] rfl rfl (QAll.cons (QOp.p hT rfl rfl rfl rfl rfl) (QAll.cons (QOp.p hT rfl rfl rfl rfl rfl) (QAll.cons (QOp.p hT rfl rfl rfl rfl rfl) (QAll.cons (QOp.p hT rfl rfl rfl rfl rfl) (QAll.cons (QOp.p hT rfl rfl rfl rfl rfl) (QAll.cons (QOp.q rfl rfl (Quiet1.idxS (s := _) hT rfl rfl rfl rfl rfl hc22 hd22) rfl rfl) (QAll.cons (QOp.q rfl rfl (Quiet1.load hT rfl rfl rfl hc23) rfl rfl) (QAll.cons (QOp.p hT rfl rfl rfl rfl rfl) (QAll.cons (QOp.q rfl rfl (Quiet1.idxS (s := _) hT rfl rfl rfl rfl rfl hc24 hd24) rfl rfl) (QAll.cons (QOp.q rfl rfl (Quiet1.load hT rfl rfl rfl hc25) rfl rfl) (QAll.cons (QOp.q rfl rfl (Quiet1.idxS (s := _) hT rfl rfl rfl rfl rfl hc26 hd26) rfl rfl) QAll.nil))))))))))) ?_
      refine EAll.cons ?_ EAll.nil
      refine EOp.e rfl rfl rfl (EffX.store hT rfl rfl rfl rfl rfl H) ?_
      rintro _ _ ⟨h0u6, rfl, H⟩
      obtain ⟨a_14_, hc27, hd27, H⟩ := H
      apply Stg.next [(66, _)] rfl rfl
      refine Stg.go [1, 2, 12] [13] rfl rfl (QAll.cons (QOp.p hT rfl rfl rfl rfl rfl) (QAll.cons (QOp.p hT rfl rfl rfl rfl rfl) (QAll.cons (QOp.q rfl rfl (Quiet1.idxS (s := _) hT rfl rfl rfl rfl rfl hc27 hd27) rfl rfl) QAll.nil))) ?_
      refine EAll.cons ?_ EAll.nil
      refine EOp.e rfl rfl rfl (EffX.store hT rfl rfl rfl rfl rfl H) ?_
      rintro _ _ ⟨h0u7, rfl, H⟩
      apply Stg.next [] rfl rfl
      refine Stg.fin [] rfl rfl QAll.nil ?_
      refine AtE.then_n (AtE.go ?_)
      refine AtC.joinSeq (β := Unit) (fun (t0u1 : Unit) (bb_1 : Unit) => []) (fun (t0u1 : Unit) (bb_1 : Unit) => []) [] [] H (by exact rfl) (by exact rfl) (fun t0u1 bb_1 h0u8 H => ?_) (fun J29 H HK29 => ?_)
      ·
       refine AtC.seqR ?_
       refine AtL.pures hT 1 _ _ _ _ rfl ?_
       refine AtL.nil ?_
       refine AtE.then_n (AtE.go ?_)
       refine AtC.ret ?_
       refine AtE.blk_r ?_
       refine AtE.then_r ?_
       refine AtE.then_r ?_
       refine AtE.blk_r ?_
       refine AtE.then_r ?_
       exact AtE.retN (rs := [.tmp 6]) rfl (ResAll.cons (ResAt.tmp rfl) ResAll.nil) rfl H
      ·
       obtain ⟨a_15, hc29, H⟩ := H
       obtain ⟨v_13, hc30, H⟩ := H
       obtain ⟨a_16_, hc31, hd31, H⟩ := H
       obtain ⟨v_14, hc32, H⟩ := H
       obtain ⟨a_17, hc33, H⟩ := H
       obtain ⟨v_15, hc34, H⟩ := H
       obtain ⟨a_18_, hc35, hd35, H⟩ := H
       obtain ⟨v_16, hc36, H⟩ := H
       apply AtC.stages [7, 15, 19, 20, 22] [[], [], [], [], [], [], [], [], [], [], [], [], [], [], [], [7], [7, 15], [7, 15], [], [], [7, 15, 19], [7, 15, 19, 20], [7, 15, 19, 20]] [[], [0], [0, 1], [0, 1, 2], [], [4], [4, 5], [4, 5, 6], [], [8], [8, 9], [8, 9, 10], [], [12], [12, 13], [4, 5, 6, 7, 12, 13, 14], [4, 5, 6, 7, 8, 9, 10, 11, 12, 13, 14, 15], [4, 5, 6, 7, 8, 9, 10, 11, 12, 13, 14, 15, 16], [], [18], [4, 5, 6, 7, 8, 9, 10, 11, 12, 13, 14, 15, 16, 17, 18, 19], [0, 1, 2, 3, 4, 5, 6, 7, 8, 9, 10, 11, 12, 13, 14, 15, 16, 17, 18, 19, 20], [0, 1, 2, 3, 4, 5, 6, 7, 8, 9, 10, 11, 12, 13, 14, 15, 16, 17, 18, 19, 20, 21]] hmix (by kernel_rfl) [(67, _), (68, _), (69, _), (70, _), (71, _), (72, _), (73, _), (75, _), (76, _), (77, _), (78, _), (79, _), (80, _), (81, _), (85, _)] rfl 5 rfl
       refine Stg.go [0, 1, 2, 3, 4, 5, 6, 8, 9, 10, 11, 12, 13, 14, 18] [7, 19] rfl rfl (QAll.cons (QOp.p hT rfl rfl rfl rfl rfl) (QAll.cons (QOp.q rfl rfl (Quiet1.nilChk rfl rfl hc29) rfl rfl) (QAll.cons (QOp.p hT rfl rfl rfl rfl rfl) (QAll.cons (QOp.q rfl rfl (Quiet1.load hT rfl rfl rfl hc30) rfl rfl) (QAll.cons (QOp.p hT rfl rfl rfl rfl rfl) (QAll.cons (QOp.q rfl rfl (Quiet1.idxS (s := _) hT rfl rfl rfl rfl rfl hc31 hd31) rfl rfl) (QAll.cons (QOp.q rfl rfl (Quiet1.load hT rfl rfl rfl hc32) rfl rfl) (QAll.cons (QOp.p hT rfl rfl rfl rfl rfl) (QAll.cons (QOp.q rfl rfl (Quiet1.nilChk rfl rfl hc33) rfl rfl) (QAll.cons (QOp.p hT rfl rfl rfl rfl rfl) (QAll.cons (QOp.q rfl rfl (Quiet1.load hT rfl rfl rfl hc34) rfl rfl) (QAll.cons (QOp.p hT rfl rfl rfl rfl rfl) (QAll.cons (QOp.q rfl rfl (Quiet1.idxS (s := _) hT rfl rfl rfl rfl rfl hc35 hd35) rfl rfl) (QAll.cons (QOp.q rfl rfl (Quiet1.load hT rfl rfl rfl hc36) rfl rfl) (QAll.cons (QOp.p hT rfl rfl rfl rfl rfl) QAll.nil))))))))))))))) ?_
       refine EAll.cons ?_ ?_
       ·
        replace H := H.1
        refine EOp.e rfl rfl rfl (EffX.call (f := 64) (sh := fun h => clause_watch _ h _) (H0 := H) rfl Tryz.call64 rfl (hl := fun w m hr hw => lift_clause_watch _ w m hr _ hw)) ?_
        rintro _ _ ⟨v_17, h0u9, rfl, rfl, H⟩
        obtain ⟨hc37, H⟩ := H
        obtain ⟨hc38, H⟩ := H
        obtain ⟨hc39, H⟩ := H
        apply Stg.next [(74, _)] rfl rfl
        refine Stg.go [0, 1, 2, 3, 8, 9, 10, 11, 12, 13, 14, 18] [15, 19] rfl rfl (QAll.cons (QOp.p hT rfl rfl rfl rfl rfl) (QAll.cons (QOp.q rfl rfl (Quiet1.nilChk rfl rfl hc29) rfl rfl) (QAll.cons (QOp.p hT rfl rfl rfl rfl rfl) (QAll.cons (QOp.q rfl rfl (Quiet1.load hT rfl rfl rfl hc37) rfl rfl) (QAll.cons (QOp.p hT rfl rfl rfl rfl rfl) (QAll.cons (QOp.q rfl rfl (Quiet1.nilChk rfl rfl hc33) rfl rfl) (QAll.cons (QOp.p hT rfl rfl rfl rfl rfl) (QAll.cons (QOp.q rfl rfl (Quiet1.load hT rfl rfl rfl hc38) rfl rfl) (QAll.cons (QOp.p hT rfl rfl rfl rfl rfl) (QAll.cons (QOp.q rfl rfl (Quiet1.idxS (s := _) hT rfl rfl rfl rfl rfl hc35 hd35) rfl rfl) (QAll.cons (QOp.q rfl rfl (Quiet1.load hT rfl rfl rfl hc39) rfl rfl) (QAll.cons (QOp.p hT rfl rfl rfl rfl rfl) QAll.nil)))))))))))) ?_
        refine EAll.cons ?_ ?_
        ·
         replace H := H.1
         refine EOp.e rfl rfl rfl (EffX.call (f := 64) (sh := fun h => clause_watch _ h _) (H0 := H) rfl Tryz.call64 rfl (hl := fun w m hr hw => lift_clause_watch _ w m hr _ hw)) ?_
         rintro _ _ ⟨v_18, h0u10, rfl, rfl, H⟩
         obtain ⟨hc40, H⟩ := H
         obtain ⟨hc41, H⟩ := H
         obtain ⟨a_19_, hc42, hd42, H⟩ := H
         obtain ⟨v_19, hc43, H⟩ := H
         apply Stg.next [(82, _), (83, _), (84, _)] rfl rfl
         refine Stg.go [0, 1, 2, 3, 8, 9, 10, 11, 16, 17, 18] [19] rfl rfl (QAll.cons (QOp.p hT rfl rfl rfl rfl rfl) (QAll.cons (QOp.q rfl rfl (Quiet1.nilChk rfl rfl hc29) rfl rfl) (QAll.cons (QOp.p hT rfl rfl rfl rfl rfl) (QAll.cons (QOp.q rfl rfl (Quiet1.load hT rfl rfl rfl hc40) rfl rfl) (QAll.cons (QOp.p hT rfl rfl rfl rfl rfl) (QAll.cons (QOp.q rfl rfl (Quiet1.nilChk rfl rfl hc33) rfl rfl) (QAll.cons (QOp.p hT rfl rfl rfl rfl rfl) (QAll.cons (QOp.q rfl rfl (Quiet1.load hT rfl rfl rfl hc41) rfl rfl) (QAll.cons (QOp.q rfl rfl (Quiet1.idxS (s := _) hT rfl rfl rfl rfl rfl hc42 hd42) rfl rfl) (QAll.cons (QOp.q rfl rfl (Quiet1.load hT rfl rfl rfl hc43) rfl rfl) (QAll.cons (QOp.p hT rfl rfl rfl rfl rfl) QAll.nil))))))))))) ?_
         refine EAll.cons ?_ EAll.nil
         refine EOp.e rfl rfl rfl (EffX.buildS2 (cs := [_]) hT rfl rfl rfl rfl rfl rfl rfl rfl H) ?_
         rintro _ _ ⟨a_20, h0u11, rfl, rfl, H⟩
         obtain ⟨hc44, H⟩ := H
         obtain ⟨hc45, H⟩ := H
         obtain ⟨hc46, H⟩ := H
         apply Stg.next [(86, _)] rfl rfl
         refine Stg.go [0, 1, 2, 3, 8, 9, 10, 11, 16, 17] [20] rfl rfl (QAll.cons (QOp.p hT rfl rfl rfl rfl rfl) (QAll.cons (QOp.q rfl rfl (Quiet1.nilChk rfl rfl hc29) rfl rfl) (QAll.cons (QOp.p hT rfl rfl rfl rfl rfl) (QAll.cons (QOp.q rfl rfl (Quiet1.load hT rfl rfl rfl hc44) rfl rfl) (QAll.cons (QOp.p hT rfl rfl rfl rfl rfl) (QAll.cons (QOp.q rfl rfl (Quiet1.nilChk rfl rfl hc33) rfl rfl) (QAll.cons (QOp.p hT rfl rfl rfl rfl rfl) (QAll.cons (QOp.q rfl rfl (Quiet1.load hT rfl rfl rfl hc45) rfl rfl) (QAll.cons (QOp.q rfl rfl (Quiet1.idxS (s := _) hT rfl rfl rfl rfl rfl hc42 hd42) rfl rfl) (QAll.cons (QOp.q rfl rfl (Quiet1.load hT rfl rfl rfl hc46) rfl rfl) QAll.nil)))))))))) ?_
         refine EAll.cons ?_ EAll.nil
         refine EOp.e rfl rfl rfl (EffX.appendS (s := _) (u := _) hT rfl rfl rfl rfl rfl rfl rfl rfl rfl rfl (by decide) H) ?_
         rintro _ _ ⟨v_21, h0u12, rfl, rfl, H⟩
         obtain ⟨hc47, H⟩ := H
         obtain ⟨a_21_, hc48, hd48, H⟩ := H
         apply Stg.next [(87, _), (88, _)] rfl rfl
         refine Stg.go [0, 1, 2, 3, 21] [22] rfl rfl (QAll.cons (QOp.p hT rfl rfl rfl rfl rfl) (QAll.cons (QOp.q rfl rfl (Quiet1.nilChk rfl rfl hc29) rfl rfl) (QAll.cons (QOp.p hT rfl rfl rfl rfl rfl) (QAll.cons (QOp.q rfl rfl (Quiet1.load hT rfl rfl rfl hc47) rfl rfl) (QAll.cons (QOp.q rfl rfl (Quiet1.idxS (s := _) hT rfl rfl rfl rfl rfl hc48 hd48) rfl rfl) QAll.nil))))) ?_
         refine EAll.cons ?_ EAll.nil
         refine EOp.e rfl rfl rfl (EffX.store hT rfl rfl rfl rfl rfl H) ?_
         rintro _ _ ⟨h0u13, rfl, H⟩
         apply Stg.next [] rfl rfl
         refine Stg.fin [] rfl rfl QAll.nil ?_
         exact AtE.then_n ((HK29 _ () _ H).pickP (ts := []) (is := []) rfl rfl (by decide) rfl)
        refine EAll.cons ?_ EAll.nil
        replace H := H.2
        refine EOp.e rfl rfl rfl (EffX.buildS2 (cs := [_]) hT rfl rfl rfl rfl rfl rfl rfl rfl H) ?_
        rintro _ _ ⟨a_22, h0u14, rfl, rfl, H⟩
        obtain ⟨hc49, H⟩ := H
        obtain ⟨hc50, H⟩ := H
        obtain ⟨hc51, H⟩ := H
        apply Stg.next [(86, _)] rfl rfl
        refine Stg.go [0, 1, 2, 3, 8, 9, 10, 11, 12, 13, 14] [15] rfl rfl (QAll.cons (QOp.p hT rfl rfl rfl rfl rfl) (QAll.cons (QOp.q rfl rfl (Quiet1.nilChk rfl rfl hc29) rfl rfl) (QAll.cons (QOp.p hT rfl rfl rfl rfl rfl) (QAll.cons (QOp.q rfl rfl (Quiet1.load hT rfl rfl rfl hc49) rfl rfl) (QAll.cons (QOp.p hT rfl rfl rfl rfl rfl) (QAll.cons (QOp.q rfl rfl (Quiet1.nilChk rfl rfl hc33) rfl rfl) (QAll.cons (QOp.p hT rfl rfl rfl rfl rfl) (QAll.cons (QOp.q rfl rfl (Quiet1.load hT rfl rfl rfl hc50) rfl rfl) (QAll.cons (QOp.p hT rfl rfl rfl rfl rfl) (QAll.cons (QOp.q rfl rfl (Quiet1.idxS (s := _) hT rfl rfl rfl rfl rfl hc35 hd35) rfl rfl) (QAll.cons (QOp.q rfl rfl (Quiet1.load hT rfl rfl rfl hc51) rfl rfl) QAll.nil))))))))))) ?_
        refine EAll.cons ?_ EAll.nil
        refine EOp.e rfl rfl rfl (EffX.call (f := 64) (sh := fun h => clause_watch _ h _) (H0 := H) rfl Tryz.call64 rfl (hl := fun w m hr hw => lift_clause_watch _ w m hr _ hw)) ?_
        rintro _ _ ⟨v_23, h0u15, rfl, rfl, H⟩
        obtain ⟨hc52, H⟩ := H
        obtain ⟨hc53, H⟩ := H
        obtain ⟨a_23_, hc54, hd54, H⟩ := H
        obtain ⟨v_24, hc55, H⟩ := H
        apply Stg.next [(82, _), (83, _), (84, _)] rfl rfl
        refine Stg.go [0, 1, 2, 3, 8, 9, 10, 11, 16, 17] [20] rfl rfl (QAll.cons (QOp.p hT rfl rfl rfl rfl rfl) (QAll.cons (QOp.q rfl rfl (Quiet1.nilChk rfl rfl hc29) rfl rfl) (QAll.cons (QOp.p hT rfl rfl rfl rfl rfl) (QAll.cons (QOp.q rfl rfl (Quiet1.load hT rfl rfl rfl hc52) rfl rfl) (QAll.cons (QOp.p hT rfl rfl rfl rfl rfl) (QAll.cons (QOp.q rfl rfl (Quiet1.nilChk rfl rfl hc33) rfl rfl) (QAll.cons (QOp.p hT rfl rfl rfl rfl rfl) (QAll.cons (QOp.q rfl rfl (Quiet1.load hT rfl rfl rfl hc53) rfl rfl) (QAll.cons (QOp.q rfl rfl (Quiet1.idxS (s := _) hT rfl rfl rfl rfl rfl hc54 hd54) rfl rfl) (QAll.cons (QOp.q rfl rfl (Quiet1.load hT rfl rfl rfl hc55) rfl rfl) QAll.nil)))))))))) ?_
        refine EAll.cons ?_ EAll.nil
        refine EOp.e rfl rfl rfl (EffX.appendS (s := _) (u := _) hT rfl rfl rfl rfl rfl rfl rfl rfl rfl rfl (by decide) H) ?_
        rintro _ _ ⟨v_25, h0u16, rfl, rfl, H⟩
        obtain ⟨hc56, H⟩ := H
        obtain ⟨a_24_, hc57, hd57, H⟩ := H
        apply Stg.next [(87, _), (88, _)] rfl rfl
        refine Stg.go [0, 1, 2, 3, 21] [22] rfl rfl (QAll.cons (QOp.p hT rfl rfl rfl rfl rfl) (QAll.cons (QOp.q rfl rfl (Quiet1.nilChk rfl rfl hc29) rfl rfl) (QAll.cons (QOp.p hT rfl rfl rfl rfl rfl) (QAll.cons (QOp.q rfl rfl (Quiet1.load hT rfl rfl rfl hc56) rfl rfl) (QAll.cons (QOp.q rfl rfl (Quiet1.idxS (s := _) hT rfl rfl rfl rfl rfl hc57 hd57) rfl rfl) QAll.nil))))) ?_
        refine EAll.cons ?_ EAll.nil
        refine EOp.e rfl rfl rfl (EffX.store hT rfl rfl rfl rfl rfl H) ?_
        rintro _ _ ⟨h0u17, rfl, H⟩
        apply Stg.next [] rfl rfl
        refine Stg.fin [] rfl rfl QAll.nil ?_
        exact AtE.then_n ((HK29 _ () _ H).pickP (ts := []) (is := []) rfl rfl (by decide) rfl)
       refine EAll.cons ?_ EAll.nil
       replace H := H.2
       refine EOp.e rfl rfl rfl (EffX.buildS2 (cs := [_]) hT rfl rfl rfl rfl rfl rfl rfl rfl H) ?_
       rintro _ _ ⟨a_25, h0u18, rfl, rfl, H⟩
       obtain ⟨hc58, H⟩ := H
       obtain ⟨hc59, H⟩ := H
       obtain ⟨hc60, H⟩ := H
       obtain ⟨hc61, H⟩ := H
       apply Stg.next [(86, _)] rfl rfl
       refine Stg.go [0, 1, 2, 3, 4, 5, 6, 8, 9, 10, 11, 12, 13, 14] [7] rfl rfl (QAll.cons (QOp.p hT rfl rfl rfl rfl rfl) (QAll.cons (QOp.q rfl rfl (Quiet1.nilChk rfl rfl hc29) rfl rfl) (QAll.cons (QOp.p hT rfl rfl rfl rfl rfl) (QAll.cons (QOp.q rfl rfl (Quiet1.load hT rfl rfl rfl hc58) rfl rfl) (QAll.cons (QOp.p hT rfl rfl rfl rfl rfl) (QAll.cons (QOp.q rfl rfl (Quiet1.idxS (s := _) hT rfl rfl rfl rfl rfl hc31 hd31) rfl rfl) (QAll.cons (QOp.q rfl rfl (Quiet1.load hT rfl rfl rfl hc59) rfl rfl) (QAll.cons (QOp.p hT rfl rfl rfl rfl rfl) (QAll.cons (QOp.q rfl rfl (Quiet1.nilChk rfl rfl hc33) rfl rfl) (QAll.cons (QOp.p hT rfl rfl rfl rfl rfl) (QAll.cons (QOp.q rfl rfl (Quiet1.load hT rfl rfl rfl hc60) rfl rfl) (QAll.cons (QOp.p hT rfl rfl rfl rfl rfl) (QAll.cons (QOp.q rfl rfl (Quiet1.idxS (s := _) hT rfl rfl rfl rfl rfl hc35 hd35) rfl rfl) (QAll.cons (QOp.q rfl rfl (Quiet1.load hT rfl rfl rfl hc61) rfl rfl) QAll.nil)))))))))))))) ?_
       refine EAll.cons ?_ EAll.nil
       refine EOp.e rfl rfl rfl (EffX.call (f := 64) (sh := fun h => clause_watch _ h _) (H0 := H) rfl Tryz.call64 rfl (hl := fun w m hr hw => lift_clause_watch _ w m hr _ hw)) ?_
       rintro _ _ ⟨v_27, h0u19, rfl, rfl, H⟩
       obtain ⟨hc62, H⟩ := H
       obtain ⟨hc63, H⟩ := H
       obtain ⟨hc64, H⟩ := H
       apply Stg.next [(74, _)] rfl rfl
       refine Stg.go [0, 1, 2, 3, 8, 9, 10, 11, 12, 13, 14] [15] rfl rfl (QAll.cons (QOp.p hT rfl rfl rfl rfl rfl) (QAll.cons (QOp.q rfl rfl (Quiet1.nilChk rfl rfl hc29) rfl rfl) (QAll.cons (QOp.p hT rfl rfl rfl rfl rfl) (QAll.cons (QOp.q rfl rfl (Quiet1.load hT rfl rfl rfl hc62) rfl rfl) (QAll.cons (QOp.p hT rfl rfl rfl rfl rfl) (QAll.cons (QOp.q rfl rfl (Quiet1.nilChk rfl rfl hc33) rfl rfl) (QAll.cons (QOp.p hT rfl rfl rfl rfl rfl) (QAll.cons (QOp.q rfl rfl (Quiet1.load hT rfl rfl rfl hc63) rfl rfl) (QAll.cons (QOp.p hT rfl rfl rfl rfl rfl) (QAll.cons (QOp.q rfl rfl (Quiet1.idxS (s := _) hT rfl rfl rfl rfl rfl hc35 hd35) rfl rfl) (QAll.cons (QOp.q rfl rfl (Quiet1.load hT rfl rfl rfl hc64) rfl rfl) QAll.nil))))))))))) ?_
       refine EAll.cons ?_ EAll.nil
       refine EOp.e rfl rfl rfl (EffX.call (f := 64) (sh := fun h => clause_watch _ h _) (H0 := H) rfl Tryz.call64 rfl (hl := fun w m hr hw => lift_clause_watch _ w m hr _ hw)) ?_
       rintro _ _ ⟨v_28, h0u20, rfl, rfl, H⟩
       obtain ⟨hc65, H⟩ := H
       obtain ⟨hc66, H⟩ := H
       obtain ⟨a_26_, hc67, hd67, H⟩ := H
       obtain ⟨v_29, hc68, H⟩ := H
       apply Stg.next [(82, _), (83, _), (84, _)] rfl rfl
       refine Stg.go [0, 1, 2, 3, 8, 9, 10, 11, 16, 17] [20] rfl rfl (QAll.cons (QOp.p hT rfl rfl rfl rfl rfl) (QAll.cons (QOp.q rfl rfl (Quiet1.nilChk rfl rfl hc29) rfl rfl) (QAll.cons (QOp.p hT rfl rfl rfl rfl rfl) (QAll.cons (QOp.q rfl rfl (Quiet1.load hT rfl rfl rfl hc65) rfl rfl) (QAll.cons (QOp.p hT rfl rfl rfl rfl rfl) (QAll.cons (QOp.q rfl rfl (Quiet1.nilChk rfl rfl hc33) rfl rfl) (QAll.cons (QOp.p hT rfl rfl rfl rfl rfl) (QAll.cons (QOp.q rfl rfl (Quiet1.load hT rfl rfl rfl hc66) rfl rfl) (QAll.cons (QOp.q rfl rfl (Quiet1.idxS (s := _) hT rfl rfl rfl rfl rfl hc67 hd67) rfl rfl) (QAll.cons (QOp.q rfl rfl (Quiet1.load hT rfl rfl rfl hc68) rfl rfl) QAll.nil)))))))))) ?_
       refine EAll.cons ?_ EAll.nil
       refine EOp.e rfl rfl rfl (EffX.appendS (s := _) (u := _) hT rfl rfl rfl rfl rfl rfl rfl rfl rfl rfl (by decide) H) ?_
       rintro _ _ ⟨v_30, h0u21, rfl, rfl, H⟩
       obtain ⟨hc69, H⟩ := H
       obtain ⟨a_27_, hc70, hd70, H⟩ := H
       apply Stg.next [(87, _), (88, _)] rfl rfl
       refine Stg.go [0, 1, 2, 3, 21] [22] rfl rfl (QAll.cons (QOp.p hT rfl rfl rfl rfl rfl) (QAll.cons (QOp.q rfl rfl (Quiet1.nilChk rfl rfl hc29) rfl rfl) (QAll.cons (QOp.p hT rfl rfl rfl rfl rfl) (QAll.cons (QOp.q rfl rfl (Quiet1.load hT rfl rfl rfl hc69) rfl rfl) (QAll.cons (QOp.q rfl rfl (Quiet1.idxS (s := _) hT rfl rfl rfl rfl rfl hc70 hd70) rfl rfl) QAll.nil))))) ?_
       refine EAll.cons ?_ EAll.nil
       refine EOp.e rfl rfl rfl (EffX.store hT rfl rfl rfl rfl rfl H) ?_
       rintro _ _ ⟨h0u22, rfl, H⟩
       apply Stg.next [] rfl rfl
       refine Stg.fin [] rfl rfl QAll.nil ?_
       exact AtE.then_n ((HK29 _ () _ H).pickP (ts := []) (is := []) rfl rfl (by decide) rfl)
     ·
      refine AtC.skip ?_
      refine AtE.blk_n ?_
      refine AtE.then_n (AtE.go ?_)
      refine AtC.region ?_
      refine AtL.pures hT 3 _ _ _ _ rfl ?_
      replace H := H _ rfl
      refine AtL.nil ?_
      exact AtE.then_n ((HK18 _ _ H).pickP (ts := [8, 0, 1, 7]) (is := []) rfl rfl (by decide) rfl)
    ·
     refine AtC.exit ?_
     refine AtE.then_x ?_
     refine AtE.then_x ?_
     refine AtE.blk_hit ?_
     refine AtE.then_n (AtE.go ?_)
     refine AtC.seq ?_
     refine AtC.seqR ?_
     refine AtL.pures hT 2 _ _ _ _ rfl ?_
     obtain ⟨a_28_, hc71, hd71, H⟩ := H
     refine AtL.q rfl (Quiet1.idxS (s := _) hT rfl rfl rfl rfl rfl hc71 hd71) ?_
     obtain ⟨v_31, hc72, H⟩ := H
     refine AtL.q rfl (Quiet1.load hT rfl rfl rfl hc72) ?_
     refine AtL.pures hT 1 _ _ _ _ rfl ?_
     refine AtL.e rfl (EffX.call (f := 16) (sh := fun h => clause_Tell _ _ _ h _) (H0 := H) rfl Tryz.call16 rfl (hl := fun w m hr hw => lift_clause_Tell _ _ _ w m hr _ hw)) ?_
     rintro _ _ ⟨v_32, h0u23, rfl, rfl, H⟩
     refine AtL.pures hT 1 _ _ _ _ rfl ?_
     refine AtL.nil ?_
     refine AtE.then_n (AtE.go ?_)
     refine AtC.condB H rfl (fun H => ?_) (fun H => ?_)
     ·
      refine AtC.seqR ?_
      refine AtL.pures hT 1 _ _ _ _ rfl ?_
      refine AtL.nil ?_
      refine AtE.then_n (AtE.go ?_)
      refine AtC.ret ?_
      refine AtE.then_r ?_
      exact AtE.retN (rs := [.tmp 6]) rfl (ResAll.cons (ResAt.tmp rfl) ResAll.nil) rfl H
     ·
      refine AtC.skip ?_
      refine AtE.then_n (AtE.go ?_)
      refine AtC.seqR ?_
      refine AtL.pures hT 1 _ _ _ _ rfl ?_
      refine AtL.nil ?_
      refine AtE.then_n (AtE.go ?_)
      refine AtC.ret ?_
      exact AtE.retN (rs := [.tmp 6]) rfl (ResAll.cons (ResAt.tmp rfl) ResAll.nil) rfl H
  ·
   refine AtC.seqR ?_
   refine AtL.pures hT 1 _ _ _ _ rfl ?_
   obtain ⟨a_2_, hc5, hd5, H⟩ := H
   refine AtL.q rfl (Quiet1.idxS (s := _) hT rfl rfl rfl rfl rfl hc5 hd5) ?_
   obtain ⟨v_2, hc6, H⟩ := H
   refine AtL.q rfl (Quiet1.load hT rfl rfl rfl hc6) ?_
   refine AtL.pures hT 2 _ _ _ _ rfl ?_
   refine AtL.nil ?_
   refine AtE.then_n (AtE.go ?_)
   refine AtC.condB H rfl (fun H => ?_) (fun H => ?_)
   ·
    obtain ⟨a_3_, hc7, hd7, H⟩ := H
    obtain ⟨v_3, hc8, H⟩ := H
    obtain ⟨a_4_, hc9, hd9, H⟩ := H
    obtain ⟨v_4, hc10, H⟩ := H
    obtain ⟨a_5_, hc11, hd11, H⟩ := H
    apply AtC.stages [9, 11] [[], [], [], [], [], [], [], [], [], [], [9], [9]] [[], [], [], [2], [2, 3], [], [5], [5, 6], [0, 2, 3, 4, 5, 6, 7], [0, 2, 3, 4, 5, 6, 7, 8], [0, 1, 2, 3, 4, 5, 6, 7, 8, 9], [0, 1, 2, 3, 4, 5, 6, 7, 8, 9, 10]] hmix (by kernel_rfl) [(22, _), (23, _), (24, _), (25, _), (26, _), (27, _), (28, _), (29, _), (30, _)] rfl 2 rfl
    refine Stg.go [0, 1, 2, 3, 4, 5, 6, 7, 8] [9] rfl rfl (QAll.cons (QOp.p hT rfl rfl rfl rfl rfl) (QAll.cons (QOp.p hT rfl rfl rfl rfl rfl) (QAll.cons (QOp.p hT rfl rfl rfl rfl rfl) (QAll.cons (QOp.q rfl rfl (Quiet1.idxS (s := _) hT rfl rfl rfl rfl rfl hc7 hd7) rfl rfl) (QAll.cons (QOp.q rfl rfl (Quiet1.load hT rfl rfl rfl hc8) rfl rfl) (QAll.cons (QOp.p hT rfl rfl rfl rfl rfl) (QAll.cons (QOp.q rfl rfl (Quiet1.idxS (s := _) hT rfl rfl rfl rfl rfl hc9 hd9) rfl rfl) (QAll.cons (QOp.q rfl rfl (Quiet1.load hT rfl rfl rfl hc10) rfl rfl) (QAll.cons (QOp.q rfl rfl (Quiet1.idxS (s := _) hT rfl rfl rfl rfl rfl hc11 hd11) rfl rfl) QAll.nil))))))))) ?_
    refine EAll.cons ?_ EAll.nil
    refine EOp.e rfl rfl rfl (EffX.store hT rfl rfl rfl rfl rfl H) ?_
    rintro _ _ ⟨h0u1, rfl, H⟩
    obtain ⟨a_6_, hc12, hd12, H⟩ := H
    apply Stg.next [(31, _)] rfl rfl
    refine Stg.go [1, 10] [11] rfl rfl (QAll.cons (QOp.p hT rfl rfl rfl rfl rfl) (QAll.cons (QOp.q rfl rfl (Quiet1.idxS (s := _) hT rfl rfl rfl rfl rfl hc12 hd12) rfl rfl) QAll.nil)) ?_
    refine EAll.cons ?_ EAll.nil
    refine EOp.e rfl rfl rfl (EffX.store hT rfl rfl rfl rfl rfl H) ?_
    rintro _ _ ⟨h0u2, rfl, H⟩
    apply Stg.next [] rfl rfl
    refine Stg.fin [] rfl rfl QAll.nil ?_
    exact AtE.then_n ((HK5 _ () _ H).pickP (ts := [0, 1, 7]) (is := []) rfl rfl (by decide) rfl)
   ·
    refine AtC.skip ?_
    exact AtE.then_n ((HK5 _ () _ H).pickP (ts := [0, 1, 7]) (is := []) rfl rfl (by decide) rfl)

theorem lift_slices_Grow_int_int (s0 : Sl) (n : Int) (w : World) (m : Heap) (hr : Rel ⟨m, []⟩ w.heap) (S : Sl → Heap → Prop) (H : slices_Grow_int_int s0 n m S) :
    Calls Tryz.prog 101 #[Sl.toV s0, Value.int .i64 n] w (Post ⟨w, m⟩ Sl.toV S) := by
  refine Calls.lift (args := [Sl.toV s0, Value.int .i64 n]) Tryz.func101 rfl Tryz.ntmps101 (Nat.le_of_ble_eq_true rfl) hr (slices_Grow_int_int s0 n m S) H (fun H => ?_)
  refine AtC.pick (ts := [0, 1]) rfl ?_
  unfold slices_Grow_int_int at H
  refine AtC.seqR ?_
  refine AtL.pures hT 1 _ _ _ _ rfl ?_
  refine AtL.nil ?_
  refine AtE.then_n (AtE.go ?_)
  refine AtC.joinSeq (β := Unit) (fun (t0 : Unit) (bb : Unit) => []) (fun (t0 : Unit) (bb : Unit) => []) [0, 1] [] H (by exact rfl) (by exact rfl) (fun t0 bb h0 H => ?_) (fun J1 H HK1 => ?_)
  ·
   refine AtC.joinSeq (β := Unit) (fun (t0u1 : Sl) (bb_1 : Unit) => [(0, Sl.toV t0u1)]) (fun (t0u1 : Sl) (bb_1 : Unit) => []) [] [] H (by exact rfl) (by exact rfl) (fun t0u1 bb_1 h0u1 H => ?_) (fun J2 H HK2 => ?_)
   ·
    refine AtC.seqR ?_
    refine AtL.pures hT 2 _ _ _ _ rfl ?_
    refine AtL.nil ?_
    refine AtE.then_n (AtE.go ?_)
    refine AtC.ret ?_
    exact AtE.retN (rs := [.tmp 4]) rfl (ResAll.cons (ResAt.tmp rfl) ResAll.nil) rfl H
   ·
    refine AtC.seqR ?_
    refine AtL.pures hT 8 _ _ _ _ rfl ?_
    replace H := H _ rfl
    refine AtL.nil ?_
    refine AtE.then_n (AtE.go ?_)
    refine AtC.seqR ?_
    refine AtL.pures hT 2 _ _ _ _ rfl ?_
    refine AtL.nil ?_
    refine AtE.then_n (AtE.go ?_)
    refine AtC.condB H rfl (fun H => ?_) (fun H => ?_)
    ·
     refine AtC.region ?_
     refine AtL.pures hT 3 _ _ _ _ rfl ?_
     refine AtL.sl (hT := hT) H rfl rfl rfl rfl rfl rfl rfl (fun h => by cases h <;> rfl) rfl (fun v H => ?_)
     refine AtL.pures hT 1 _ _ _ _ rfl ?_
     refine AtL.e rfl (EffX.appendZ (s := _) hT rfl rfl rfl rfl rfl rfl rfl rfl rfl (by decide) rfl rfl (by decide) H) ?_
     rintro _ _ ⟨v_1, h0u2, rfl, rfl, H⟩
     refine AtL.pures hT 2 _ _ _ _ rfl ?_
     refine AtL.sl (hT := hT) H rfl rfl rfl rfl rfl rfl rfl (fun h => by cases h <;> rfl) rfl (fun v_2 H => ?_)
     refine AtL.pures hT 1 _ _ _ _ rfl ?_
     refine AtL.nil ?_
     exact AtE.then_n ((HK2 _ () _ H).pickP (ts := [0]) (is := []) rfl rfl (by decide) rfl)
    ·
     refine AtC.skip ?_
     exact AtE.then_n ((HK2 _ () _ H).pickP (ts := [0]) (is := []) rfl rfl (by decide) rfl)
  ·
   refine AtC.seqR ?_
   refine AtL.pures hT 2 _ _ _ _ rfl ?_
   refine AtL.nil ?_
   refine AtE.then_n (AtE.go ?_)
   refine AtC.condB H rfl (fun H => ?_) (fun H => ?_)
   ·
    refine AtC.region ?_
    refine AtL.q rfl (Quiet1.makeI hT rfl rfl (by intro m; nofun) rfl) ?_
    exact H.elim
   ·
    refine AtC.skip ?_
    exact AtE.then_n ((HK1 _ () _ H).pickP (ts := [0, 1]) (is := []) rfl rfl (by decide) rfl)

theorem lift_slices_Concat_int_int (slices : Sl) (w : World) (m : Heap) (hr : Rel ⟨m, []⟩ w.heap) (S : Sl → Heap → Prop) (H : slices_Concat_int_int slices m S) :
    Calls Tryz.prog 67 #[Sl.toV slices] w (Post ⟨w, m⟩ Sl.toV S) := by
  refine Calls.lift (args := [Sl.toV slices]) Tryz.func67 rfl Tryz.ntmps67 (Nat.le_of_ble_eq_true rfl) hr (slices_Concat_int_int slices m S) H (fun H => ?_)
  refine AtC.pick (ts := [0]) rfl ?_
  unfold slices_Concat_int_int at H
  refine AtC.seqR ?_
  refine AtL.pures hT 1 _ _ _ _ rfl ?_
  refine AtL.nil ?_
  refine AtE.then_n (AtE.go ?_)
  refine AtC.seqR ?_
  refine AtL.pures hT 1 _ _ _ _ rfl ?_
  refine AtL.nil ?_
  refine AtE.then_n (AtE.go ?_)
  refine AtC.seq ?_
  refine AtC.seqR ?_
  refine AtL.pures hT 3 _ _ _ _ rfl ?_
  refine AtL.nil ?_
  refine AtE.then_n (AtE.go ?_)
  refine AtC.block ?_
  refine AtC.loopM (fun (s0 : Int × Int) => [(3, Value.int .i64 s0.1), (11, Value.int .i64 s0.2)]) (fun (s0 : Int × Int) => []) [0, 9, 10] [3, 11, 0, 9, 10] [] [] H (by exact rfl) (by exact rfl) (by exact rfl) (by decide) (by exact rfl) (fun Kp1 s0 h0 H Q1 HK1 => ?_)
  refine AtC.seqR ?_
  refine AtL.pures hT 1 _ _ _ _ rfl ?_
  refine AtL.nil ?_
  refine AtE.then_n (AtE.go ?_)
  refine AtC.seq ?_
  refine AtC.condB H rfl (fun H => ?_) (fun H => ?_)
  ·
   refine AtC.skip ?_
   refine AtE.then_n (AtE.go ?_)
   refine AtC.joinSeq (β := Unit) (fun (t0 : Int) (bb : Unit) => [(3, Value.int .i64 t0)]) (fun (t0 : Int) (bb : Unit) => []) [0, 9, 10, 11] [] H (by exact rfl) (by exact rfl) (fun t0 bb h0u1 H => ?_) (fun J2 H HK2 => ?_)
   ·
    refine AtC.region ?_
    refine AtL.pures hT 2 _ _ _ _ rfl ?_
    refine AtL.nil ?_
    exact AtE.then_n ((HK1 _ _ H).pickP (ts := [3, 11, 0, 9, 10]) (is := []) rfl rfl (by decide) rfl)
   ·
    refine AtC.block ?_
    refine AtC.seqR ?_
    obtain ⟨a_, hc2, hd2, H⟩ := H
    refine AtL.q rfl (Quiet1.idxS (s := _) hT rfl rfl rfl rfl rfl hc2 hd2) ?_
    obtain ⟨v, hc3, H⟩ := H
    refine AtL.q rfl (Quiet1.load hT rfl rfl rfl hc3) ?_
    refine AtL.pures hT 1 _ _ _ _ rfl ?_
    refine AtL.nil ?_
    refine AtE.then_n (AtE.go ?_)
    refine AtC.seqR ?_
    refine AtL.pures hT 5 _ _ _ _ rfl ?_
    replace H := H _ rfl
    refine AtL.nil ?_
    refine AtE.then_n (AtE.go ?_)
    refine AtC.seqR ?_
    refine AtL.pures hT 2 _ _ _ _ rfl ?_
    refine AtL.nil ?_
    refine AtE.then_n (AtE.go ?_)
    refine AtC.condB H rfl (fun H => ?_) (fun H => ?_)
    ·
     refine AtC.region ?_
     refine AtL.q rfl (Quiet1.makeI hT rfl rfl (by intro m; nofun) rfl) ?_
     exact H.elim
    ·
     refine AtC.skip ?_
     refine AtE.blk_n ?_
     exact AtE.then_n ((HK2 _ () _ H).pickP (ts := [3, 0, 9, 10, 11]) (is := []) rfl rfl (by decide) rfl)
  ·
   refine AtC.exit ?_
   refine AtE.then_x ?_
   refine AtE.then_x ?_
   refine AtE.blk_hit ?_
   refine AtE.then_n (AtE.go ?_)
   refine AtC.seqR ?_
   refine AtL.pures hT 1 _ _ _ _ rfl ?_
   refine AtL.e rfl (EffX.call (f := 101) (sh := fun h => slices_Grow_int_int _ _ h _) (H0 := H) rfl Tryz.call101 rfl (hl := fun w m hr hw => lift_slices_Grow_int_int _ _ w m hr _ hw)) ?_
   rintro _ _ ⟨v_1, h0u2, rfl, rfl, H⟩
   refine AtL.pures hT 1 _ _ _ _ rfl ?_
   refine AtL.nil ?_
   refine AtE.then_n (AtE.go ?_)
   refine AtC.seq ?_
   refine AtC.seqR ?_
   refine AtL.pures hT 3 _ _ _ _ rfl ?_
   refine AtL.nil ?_
   refine AtE.then_n (AtE.go ?_)
   refine AtC.block ?_
   refine AtC.loopM (fun (s0u1 : Sl × Int) => [(6, Sl.toV s0u1.1), (27, Value.int .i64 s0u1.2)]) (fun (s0u1 : Sl × Int) => []) [25, 26] [6, 27, 25, 26] [] [] H (by exact rfl) (by exact rfl) (by exact rfl) (by decide) (by exact rfl) (fun Kp5 s0u1 h0u3 H Q5 HK5 => ?_)
   refine AtC.seqR ?_
   refine AtL.pures hT 1 _ _ _ _ rfl ?_
   refine AtL.nil ?_
   refine AtE.then_n (AtE.go ?_)
   refine AtC.seq ?_
   refine AtC.condB H rfl (fun H => ?_) (fun H => ?_)
   ·
    refine AtC.skip ?_
    refine AtE.then_n (AtE.go ?_)
    refine AtC.seq ?_
    refine AtC.block ?_
    refine AtC.seqR ?_
    obtain ⟨a_1_, hc5, hd5, H⟩ := H
    refine AtL.q rfl (Quiet1.idxS (s := _) hT rfl rfl rfl rfl rfl hc5 hd5) ?_
    obtain ⟨v_2, hc6, H⟩ := H
    refine AtL.q rfl (Quiet1.load hT rfl rfl rfl hc6) ?_
    refine AtL.pures hT 1 _ _ _ _ rfl ?_
    refine AtL.nil ?_
    refine AtE.then_n (AtE.go ?_)
    refine AtC.region ?_
    refine AtL.pures hT 2 _ _ _ _ rfl ?_
    refine AtL.e rfl (EffX.appendS (s := _) (u := _) hT rfl rfl rfl rfl rfl rfl rfl rfl rfl rfl (by decide) H) ?_
    rintro _ _ ⟨v_3, h0u4, rfl, rfl, H⟩
    refine AtL.pures hT 1 _ _ _ _ rfl ?_
    refine AtL.nil ?_
    refine AtE.blk_n ?_
    refine AtE.then_n (AtE.go ?_)
    refine AtC.region ?_
    refine AtL.pures hT 2 _ _ _ _ rfl ?_
    refine AtL.nil ?_
    exact AtE.then_n ((HK5 _ _ H).pickP (ts := [6, 27, 25, 26]) (is := []) rfl rfl (by decide) rfl)
   ·
    refine AtC.exit ?_
    refine AtE.then_x ?_
    refine AtE.then_x ?_
    refine AtE.blk_hit ?_
    refine AtE.then_n (AtE.go ?_)
    refine AtC.seqR ?_
    refine AtL.pures hT 2 _ _ _ _ rfl ?_
    refine AtL.nil ?_
    refine AtE.then_n (AtE.go ?_)
    refine AtC.ret ?_
    exact AtE.retN (rs := [.tmp 2]) rfl (ResAll.cons (ResAt.tmp rfl) ResAll.nil) rfl H

theorem lift_clause_Run (s0 : (Option Addr)) (w : World) (m : Heap) (hr : Rel ⟨m, []⟩ w.heap) (S : Int → Heap → Prop) (H : clause_Run s0 m S) :
    Calls Tryz.prog 42 #[Value.pointer s0] w (Post ⟨w, m⟩ (Value.int .i64) S) := by
  refine Calls.lift (args := [Value.pointer s0]) Tryz.func42 rfl Tryz.ntmps42 (Nat.le_of_ble_eq_true rfl) hr (clause_Run s0 m S) H (fun H => ?_)
  refine AtC.pick (ts := [0]) rfl ?_
  unfold clause_Run at H
  refine AtC.seqR ?_
  refine AtL.pures hT 1 _ _ _ _ rfl ?_
  refine AtL.nil ?_
  refine AtE.then_n (AtE.go ?_)
  refine AtC.scope ?_
  refine AtC.seqR ?_
  refine AtL.pures hT 1 _ _ _ _ rfl ?_
  refine AtL.nil ?_
  refine AtE.then_n (AtE.go ?_)
  refine AtC.seq ?_
  refine AtC.label ?_
  refine AtE.then_n (AtE.go ?_)
  refine AtC.joinSeq (β := Unit) (fun (t0 : Int) (bb : Unit) => [(3, Value.int .i64 t0)]) (fun (t0 : Int) (bb : Unit) => []) [0] [] H (by exact rfl) (by exact rfl) (fun t0 bb h0 H => ?_) (fun J1 H HK1 => ?_)
  ·
   refine AtC.joinSeq (β := Unit) (fun (t0u2 : Unit) (bb_2 : Unit) => []) (fun (t0u2 : Unit) (bb_2 : Unit) => []) [3] [] H (by exact rfl) (by exact rfl) (fun t0u2 bb_2 h0u20 H => ?_) (fun J55 H HK55 => ?_)
   ·
    refine AtC.seqR ?_
    refine AtL.pures hT 2 _ _ _ _ rfl ?_
    refine AtL.nil ?_
    refine AtE.then_n (AtE.go ?_)
    refine AtC.ret ?_
    refine AtE.ng_r ?_
    exact AtE.retN (rs := [.tmp 2]) rfl (ResAll.cons (ResAt.tmp rfl) ResAll.nil) rfl H
   ·
    refine AtC.seqR ?_
    refine AtL.pures hT 2 _ _ _ _ rfl ?_
    refine AtL.nil ?_
    refine AtE.then_n (AtE.go ?_)
    refine AtC.condB H rfl (fun H => ?_) (fun H => ?_)
    ·
     refine AtC.region ?_
     refine AtL.pures hT 1 _ _ _ _ rfl ?_
     obtain ⟨a_22, hc55, H⟩ := H
     refine AtL.q rfl (Quiet1.nilChk rfl rfl hc55) ?_
     refine AtL.pures hT 1 _ _ _ _ rfl ?_
     obtain ⟨v_29, hc56, H⟩ := H
     refine AtL.q rfl (Quiet1.load hT rfl rfl rfl hc56) ?_
     refine AtL.pures hT 1 _ _ _ _ rfl ?_
     obtain ⟨a_23_, hc57, hd57, H⟩ := H
     refine AtL.q rfl (Quiet1.idxS (s := _) hT rfl rfl rfl rfl rfl hc57 hd57) ?_
     refine AtL.pures hT 1 _ _ _ _ rfl ?_
     obtain ⟨v_30, hc58, H⟩ := H
     refine AtL.q rfl (Quiet1.load hT rfl rfl rfl hc58) ?_
     refine AtL.pures hT 1 _ _ _ _ rfl ?_
     obtain ⟨a_24_, hc59, hd59, H⟩ := H
     refine AtL.q rfl (Quiet1.idxS (s := _) hT rfl rfl rfl rfl rfl hc59 hd59) ?_
     refine AtL.pures hT 1 _ _ _ _ rfl ?_
     refine AtL.e rfl (EffX.store hT rfl rfl rfl rfl rfl H) ?_
     rintro _ _ ⟨h0u21, rfl, H⟩
     refine AtL.nil ?_
     exact AtE.then_n ((HK55 _ () _ H).pickP (ts := [3]) (is := []) rfl rfl (by decide) rfl)
    ·
     refine AtC.skip ?_
     exact AtE.then_n ((HK55 _ () _ H).pickP (ts := [3]) (is := []) rfl rfl (by decide) rfl)
  ·
   refine AtC.block ?_
   refine AtC.loopM (fun (s0u1 : Int) => [(3, Value.int .i64 s0u1)]) (fun (s0u1 : Int) => []) [0] [3, 0] [] [] H (by exact rfl) (by exact rfl) (by exact rfl) (by decide) (by exact rfl) (fun Kp2 s0u1 h0u1 H Q2 HK2 => ?_)
   refine AtC.seq ?_
   refine AtC.seqD hmix (by kernel_rfl) ?_
   refine AtD.pures hT 1 _ _ _ _ rfl ?_
   obtain ⟨a, hc2, H⟩ := H
   refine AtD.q rfl (Quiet1.nilChk rfl rfl hc2) ?_
   refine AtD.pures hT 1 _ _ _ _ rfl ?_
   obtain ⟨v, hc3, H⟩ := H
   refine AtD.q rfl (Quiet1.load hT rfl rfl rfl hc3) ?_
   refine AtD.pures hT 1 _ _ _ _ rfl ?_
   obtain ⟨a_1, hc4, H⟩ := H
   refine AtD.q rfl (Quiet1.nilChk rfl rfl hc4) ?_
   refine AtD.pures hT 1 _ _ _ _ rfl ?_
   obtain ⟨v_1, hc5, H⟩ := H
   refine AtD.q rfl (Quiet1.load hT rfl rfl rfl hc5) ?_
   refine AtD.pures hT 2 _ _ _ _ rfl ?_
   refine AtD.nil ?_
   refine AtE.then_n (AtE.go ?_)
   refine AtC.condB H rfl (fun H => ?_) (fun H => ?_)
   ·
    refine AtC.skip ?_
    refine AtE.then_n (AtE.go ?_)
    refine AtC.block ?_
    refine AtC.seqD hmix (by kernel_rfl) ?_
    refine AtD.pures hT 1 _ _ _ _ rfl ?_
    obtain ⟨a_2, hc6, H⟩ := H
    refine AtD.q rfl (Quiet1.nilChk rfl rfl hc6) ?_
    refine AtD.pures hT 1 _ _ _ _ rfl ?_
    obtain ⟨v_2, hc7, H⟩ := H
    refine AtD.q rfl (Quiet1.load hT rfl rfl rfl hc7) ?_
    refine AtD.pures hT 1 _ _ _ _ rfl ?_
    obtain ⟨a_3, hc8, H⟩ := H
    refine AtD.q rfl (Quiet1.nilChk rfl rfl hc8) ?_
    refine AtD.pures hT 1 _ _ _ _ rfl ?_
    obtain ⟨v_3, hc9, H⟩ := H
    refine AtD.q rfl (Quiet1.load hT rfl rfl rfl hc9) ?_
    obtain ⟨a_4_, hc10, hd10, H⟩ := H
    refine AtD.q rfl (Quiet1.idxS (s := _) hT rfl rfl rfl rfl rfl hc10 hd10) ?_
    obtain ⟨v_4, hc11, H⟩ := H
    refine AtD.q rfl (Quiet1.load hT rfl rfl rfl hc11) ?_
    refine AtD.pures hT 2 _ _ _ _ rfl ?_
    replace H := H _ rfl
    refine AtD.nil ?_
    refine AtE.then_n (AtE.go ?_)
    refine AtC.seqR ?_
    refine AtL.pures hT 1 _ _ _ _ rfl ?_
    obtain ⟨a_5, hc12, H⟩ := H
    refine AtL.q rfl (Quiet1.nilChk rfl rfl hc12) ?_
    refine AtL.pures hT 1 _ _ _ _ rfl ?_
    obtain ⟨v_5, hc13, H⟩ := H
    refine AtL.q rfl (Quiet1.load hT rfl rfl rfl hc13) ?_
    refine AtL.pures hT 1 _ _ _ _ rfl ?_
    obtain ⟨a_6, hc14, H⟩ := H
    refine AtL.q rfl (Quiet1.nilChk rfl rfl hc14) ?_
    refine AtL.pures hT 1 _ _ _ _ rfl ?_
    refine AtL.e rfl (EffX.store hT rfl rfl rfl rfl rfl H) ?_
    rintro _ _ ⟨h0u2, rfl, H⟩
    refine AtL.nil ?_
    refine AtE.then_n (AtE.go ?_)
    obtain ⟨a_7, hc15, H⟩ := H
    obtain ⟨v_6, hc16, H⟩ := H
    apply AtC.seqS [5] [[], [], [], [], [], [], [5], [5], [5]] [[], [0], [0, 1], [0, 1, 2], [], [4], [0, 1, 2, 3, 4, 5], [0, 1, 2, 3, 4, 5, 6], [0, 1, 2, 3, 4, 5, 6, 7]] hmix (by kernel_rfl) [(38, _), (39, _), (40, _), (41, _), (42, _)] rfl 1 rfl
    refine Stg.go [0, 1, 2, 3, 4] [5] rfl rfl (QAll.cons (QOp.p hT rfl rfl rfl rfl rfl) (QAll.cons (QOp.q rfl rfl (Quiet1.nilChk rfl rfl hc15) rfl rfl) (QAll.cons (QOp.p hT rfl rfl rfl rfl rfl) (QAll.cons (QOp.q rfl rfl (Quiet1.load hT rfl rfl rfl hc16) rfl rfl) (QAll.cons (QOp.p hT rfl rfl rfl rfl rfl) QAll.nil))))) ?_
    refine EAll.cons ?_ EAll.nil
    refine EOp.e rfl rfl rfl (EffX.call (f := 64) (sh := fun h => clause_watch _ h _) (H0 := H) rfl Tryz.call64 rfl (hl := fun w m hr hw => lift_clause_watch _ w m hr _ hw)) ?_
    rintro _ _ ⟨v_7, h0u3, rfl, rfl, H⟩
    obtain ⟨hc17, H⟩ := H
    obtain ⟨a_8_, hc18, hd18, H⟩ := H
    obtain ⟨v_8, hc19, H⟩ := H
    apply Stg.next [(43, _), (44, _), (45, _), (5, _)] rfl rfl
    refine Stg.fin [0, 1, 2, 3, 6, 7, 8] rfl rfl (QAll.cons (QOp.p hT rfl rfl rfl rfl rfl) (QAll.cons (QOp.q rfl rfl (Quiet1.nilChk rfl rfl hc15) rfl rfl) (QAll.cons (QOp.p hT rfl rfl rfl rfl rfl) (QAll.cons (QOp.q rfl rfl (Quiet1.load hT rfl rfl rfl hc17) rfl rfl) (QAll.cons (QOp.q rfl rfl (Quiet1.idxS (s := _) hT rfl rfl rfl rfl rfl hc18 hd18) rfl rfl) (QAll.cons (QOp.q rfl rfl (Quiet1.load hT rfl rfl rfl hc19) rfl rfl) (QAll.cons (QOp.p hT rfl rfl rfl rfl rfl) QAll.nil))))))) ?_
    refine AtE.then_n (AtE.go ?_)
    obtain ⟨a_9, hc20, H⟩ := H
    obtain ⟨v_9, hc21, H⟩ := H
    apply AtC.seqS [5, 7] [[], [], [], [], [], [], [5], [5]] [[], [0], [0, 1], [0, 1, 2], [], [4], [0, 1, 2, 3, 4, 5], [0, 1, 2, 3, 4, 5, 6]] hmix (by kernel_rfl) [(46, _), (47, _), (48, _), (49, _), (50, _)] rfl 2 rfl
    refine Stg.go [0, 1, 2, 3, 4] [5] rfl rfl (QAll.cons (QOp.p hT rfl rfl rfl rfl rfl) (QAll.cons (QOp.q rfl rfl (Quiet1.nilChk rfl rfl hc20) rfl rfl) (QAll.cons (QOp.p hT rfl rfl rfl rfl rfl) (QAll.cons (QOp.q rfl rfl (Quiet1.load hT rfl rfl rfl hc21) rfl rfl) (QAll.cons (QOp.p hT rfl rfl rfl rfl rfl) QAll.nil))))) ?_
    refine EAll.cons ?_ EAll.nil
    refine EOp.e rfl rfl rfl (EffX.call (f := 64) (sh := fun h => clause_watch _ h _) (H0 := H) rfl Tryz.call64 rfl (hl := fun w m hr hw => lift_clause_watch _ w m hr _ hw)) ?_
    rintro _ _ ⟨v_10, h0u4, rfl, rfl, H⟩
    obtain ⟨hc22, H⟩ := H
    obtain ⟨a_10_, hc23, hd23, H⟩ := H
    apply Stg.next [(51, _), (52, _)] rfl rfl
    refine Stg.go [0, 1, 2, 3, 6] [7] rfl rfl (QAll.cons (QOp.p hT rfl rfl rfl rfl rfl) (QAll.cons (QOp.q rfl rfl (Quiet1.nilChk rfl rfl hc20) rfl rfl) (QAll.cons (QOp.p hT rfl rfl rfl rfl rfl) (QAll.cons (QOp.q rfl rfl (Quiet1.load hT rfl rfl rfl hc22) rfl rfl) (QAll.cons (QOp.q rfl rfl (Quiet1.idxS (s := _) hT rfl rfl rfl rfl rfl hc23 hd23) rfl rfl) QAll.nil))))) ?_
    refine EAll.cons ?_ EAll.nil
    refine EOp.e rfl rfl rfl (EffX.store hT rfl rfl rfl rfl rfl H) ?_
    rintro _ _ ⟨h0u5, rfl, H⟩
    apply Stg.next [] rfl rfl
    refine Stg.fin [] rfl rfl QAll.nil ?_
    refine AtE.then_n (AtE.go ?_)
    refine AtC.seqR ?_
    refine AtL.pures hT 1 _ _ _ _ rfl ?_
    refine AtL.nil ?_
    refine AtE.then_n (AtE.go ?_)
    refine AtC.seq ?_
    refine AtC.seqR ?_
    refine AtL.pures hT 3 _ _ _ _ rfl ?_
    refine AtL.nil ?_
    refine AtE.then_n (AtE.go ?_)
    refine AtC.block ?_
    refine AtC.loopM (fun (s0u2 : Int × Sl × Int) => [(3, Value.int .i64 s0u2.1), (6, Sl.toV s0u2.2.1), (55, Value.int .i64 s0u2.2.2)]) (fun (s0u2 : Int × Sl × Int) => []) [0, 4, 5, 53, 54] [3, 6, 55, 0, 4, 5, 53, 54] [] [] H (by exact rfl) (by exact rfl) (by exact rfl) (by decide) (by exact rfl) (fun Kp25 s0u2 h0u6 H Q25 HK25 => ?_)
    refine AtC.seqR ?_
    refine AtL.pures hT 1 _ _ _ _ rfl ?_
    refine AtL.nil ?_
    refine AtE.then_n (AtE.go ?_)
    refine AtC.seq ?_
    refine AtC.condB H rfl (fun H => ?_) (fun H => ?_)
    ·
     refine AtC.skip ?_
     refine AtE.then_n (AtE.go ?_)
     refine AtC.seq ?_
     refine AtC.block ?_
     refine AtC.seqR ?_
     refine AtL.pures hT 1 _ _ _ _ rfl ?_
     obtain ⟨a_11_, hc25, hd25, H⟩ := H
     refine AtL.q rfl (Quiet1.idxS (s := _) hT rfl rfl rfl rfl rfl hc25 hd25) ?_
     obtain ⟨v_11, hc26, H⟩ := H
     refine AtL.q rfl (Quiet1.load hT rfl rfl rfl hc26) ?_
     refine AtL.pures hT 2 _ _ _ _ rfl ?_
     refine AtL.nil ?_
     refine AtE.then_n (AtE.go ?_)
     refine AtC.seqR ?_
     refine AtL.pures hT 3 _ _ _ _ rfl ?_
     refine AtL.e rfl (EffX.call (f := 66) (sh := fun h => clause_ask _ _ _ h _) (H0 := H) rfl Tryz.call66 rfl (hl := fun w m hr hw => lift_clause_ask _ _ _ w m hr _ hw)) ?_
     rintro _ _ ⟨v_12, h0u7, rfl, rfl, H⟩
     refine AtL.pures hT 1 _ _ _ _ rfl ?_
     refine AtL.nil ?_
     refine AtE.then_n (AtE.go ?_)
     refine AtC.joinSeq (β := Unit) (fun (t0u1 : Sl) (bb_1 : Unit) => [(6, Sl.toV t0u1)]) (fun (t0u1 : Sl) (bb_1 : Unit) => []) [0, 3, 4, 5, 7, 8, 9, 53, 54, 55] [] H (by exact rfl) (by exact rfl) (fun t0u1 bb_1 h0u8 H => ?_) (fun J28 H HK28 => ?_)
     ·
      refine AtC.seqR ?_
      refine AtL.pures hT 2 _ _ _ _ rfl ?_
      refine AtL.nil ?_
      refine AtE.then_n (AtE.go ?_)
      refine AtC.condB H rfl (fun H => ?_) (fun H => ?_)
      ·
       refine AtC.seqR ?_
       refine AtL.pures hT 2 _ _ _ _ rfl ?_
       refine AtL.nil ?_
       refine AtE.then_n (AtE.go ?_)
       obtain ⟨a_13, hc28, H⟩ := H
       obtain ⟨v_15, hc29, H⟩ := H
       obtain ⟨v_16, hs30, H⟩ := sliceOf.out H
       obtain ⟨a_14, hc31, H⟩ := H
       obtain ⟨v_17, hc32, H⟩ := H
       apply AtC.seqS [5, 16, 19, 20, 22] [[], [], [], [], [], [], [], [], [], [], [], [], [], [], [], [], [5], [5, 16], [5, 16], [5, 16], [5, 16, 19], [5, 16, 19, 20], [5, 16, 19, 20]] [[], [0], [0, 1], [0, 1, 2], [], [4], [], [], [], [8], [7, 8, 9], [], [11], [11, 12], [11, 12, 13], [], [4, 5, 15], [4, 5, 11, 12, 13, 14, 15, 16], [4, 5, 11, 12, 13, 14, 15, 16, 17], [4, 5, 6, 7, 8, 9, 10, 11, 12, 13, 14, 15, 16, 17, 18], [4, 5, 6, 7, 8, 9, 10, 11, 12, 13, 14, 15, 16, 17, 18, 19], [0, 1, 2, 3, 4, 5, 6, 7, 8, 9, 10, 11, 12, 13, 14, 15, 16, 17, 18, 19, 20], [0, 1, 2, 3, 4, 5, 6, 7, 8, 9, 10, 11, 12, 13, 14, 15, 16, 17, 18, 19, 20, 21]] hmix (by kernel_rfl) [(73, _), (74, _), (75, _), (76, _), (77, _), (79, _), (80, _), (81, _), (82, _), (83, _), (84, _), (85, _), (86, _), (87, _), (88, _)] rfl 5 rfl
       refine Stg.go [0, 1, 2, 3, 4, 6, 7, 8, 9, 10, 11, 12, 13, 14, 15] [5] rfl rfl (QAll.cons (QOp.p hT rfl rfl rfl rfl rfl) (QAll.cons (QOp.q rfl rfl (Quiet1.nilChk rfl rfl hc28) rfl rfl) (QAll.cons (QOp.p hT rfl rfl rfl rfl rfl) (QAll.cons (QOp.q rfl rfl (Quiet1.load hT rfl rfl rfl hc29) rfl rfl) (QAll.cons (QOp.p hT rfl rfl rfl rfl rfl) (QAll.cons (QOp.p hT rfl rfl rfl rfl rfl) (QAll.cons (QOp.p hT rfl rfl rfl rfl rfl) (QAll.cons (QOp.p hT rfl rfl rfl rfl rfl) (QAll.cons (QOp.p hT rfl rfl rfl rfl rfl) (QAll.cons (QOp.q rfl rfl (Quiet1.sliceIs hT rfl rfl rfl rfl rfl rfl rfl (fun h => by cases h <;> rfl) hs30) rfl rfl) (QAll.cons (QOp.p hT rfl rfl rfl rfl rfl) (QAll.cons (QOp.q rfl rfl (Quiet1.nilChk rfl rfl hc31) rfl rfl) (QAll.cons (QOp.p hT rfl rfl rfl rfl rfl) (QAll.cons (QOp.q rfl rfl (Quiet1.load hT rfl rfl rfl hc32) rfl rfl) (QAll.cons (QOp.p hT rfl rfl rfl rfl rfl) QAll.nil))))))))))))))) ?_
       refine EAll.cons ?_ EAll.nil
       refine EOp.e rfl rfl rfl (EffX.call (f := 64) (sh := fun h => clause_watch _ h _) (H0 := H) rfl Tryz.call64 rfl (hl := fun w m hr hw => lift_clause_watch _ w m hr _ hw)) ?_
       rintro _ _ ⟨v_18, h0u11, rfl, rfl, H⟩
       obtain ⟨hc33, H⟩ := H
       obtain ⟨hc34, H⟩ := H
       apply Stg.next [(78, _)] rfl rfl
       refine Stg.go [0, 1, 2, 3, 6, 7, 8, 9, 10, 11, 12, 13, 14, 15] [16] rfl rfl (QAll.cons (QOp.p hT rfl rfl rfl rfl rfl) (QAll.cons (QOp.q rfl rfl (Quiet1.nilChk rfl rfl hc28) rfl rfl) (QAll.cons (QOp.p hT rfl rfl rfl rfl rfl) (QAll.cons (QOp.q rfl rfl (Quiet1.load hT rfl rfl rfl hc33) rfl rfl) (QAll.cons (QOp.p hT rfl rfl rfl rfl rfl) (QAll.cons (QOp.p hT rfl rfl rfl rfl rfl) (QAll.cons (QOp.p hT rfl rfl rfl rfl rfl) (QAll.cons (QOp.p hT rfl rfl rfl rfl rfl) (QAll.cons (QOp.q rfl rfl (Quiet1.sliceIs hT rfl rfl rfl rfl rfl rfl rfl (fun h => by cases h <;> rfl) hs30) rfl rfl) (QAll.cons (QOp.p hT rfl rfl rfl rfl rfl) (QAll.cons (QOp.q rfl rfl (Quiet1.nilChk rfl rfl hc31) rfl rfl) (QAll.cons (QOp.p hT rfl rfl rfl rfl rfl) (QAll.cons (QOp.q rfl rfl (Quiet1.load hT rfl rfl rfl hc34) rfl rfl) (QAll.cons (QOp.p hT rfl rfl rfl rfl rfl) QAll.nil)))))))))))))) ?_
       refine EAll.cons ?_ EAll.nil
       refine EOp.e rfl rfl rfl (EffX.call (f := 64) (sh := fun h => clause_watch _ h _) (H0 := H) rfl Tryz.call64 rfl (hl := fun w m hr hw => lift_clause_watch _ w m hr _ hw)) ?_
       rintro _ _ ⟨v_19, h0u12, rfl, rfl, H⟩
       obtain ⟨hc35, H⟩ := H
       obtain ⟨hc36, H⟩ := H
       obtain ⟨a_15_, hc37, hd37, H⟩ := H
       obtain ⟨v_20, hc38, H⟩ := H
       apply Stg.next [(89, _), (90, _), (91, _)] rfl rfl
       refine Stg.go [0, 1, 2, 3, 6, 7, 8, 9, 10, 11, 12, 13, 14, 17, 18] [19] rfl rfl (QAll.cons (QOp.p hT rfl rfl rfl rfl rfl) (QAll.cons (QOp.q rfl rfl (Quiet1.nilChk rfl rfl hc28) rfl rfl) (QAll.cons (QOp.p hT rfl rfl rfl rfl rfl) (QAll.cons (QOp.q rfl rfl (Quiet1.load hT rfl rfl rfl hc35) rfl rfl) (QAll.cons (QOp.p hT rfl rfl rfl rfl rfl) (QAll.cons (QOp.p hT rfl rfl rfl rfl rfl) (QAll.cons (QOp.p hT rfl rfl rfl rfl rfl) (QAll.cons (QOp.p hT rfl rfl rfl rfl rfl) (QAll.cons (QOp.q rfl rfl (Quiet1.sliceIs hT rfl rfl rfl rfl rfl rfl rfl (fun h => by cases h <;> rfl) hs30) rfl rfl) (QAll.cons (QOp.p hT rfl rfl rfl rfl rfl) (QAll.cons (QOp.q rfl rfl (Quiet1.nilChk rfl rfl hc31) rfl rfl) (QAll.cons (QOp.p hT rfl rfl rfl rfl rfl) (QAll.cons (QOp.q rfl rfl (Quiet1.load hT rfl rfl rfl hc36) rfl rfl) (QAll.cons (QOp.q rfl rfl (Quiet1.idxS (s := _) hT rfl rfl rfl rfl rfl hc37 hd37) rfl rfl) (QAll.cons (QOp.q rfl rfl (Quiet1.load hT rfl rfl rfl hc38) rfl rfl) QAll.nil))))))))))))))) ?_
       refine EAll.cons ?_ EAll.nil
       refine EOp.e rfl rfl rfl (EffX.buildS2 (cs := [_, _, _]) hT rfl rfl rfl rfl rfl rfl rfl rfl H) ?_
       rintro _ _ ⟨a_16, h0u13, rfl, rfl, H⟩
       obtain ⟨hc39, H⟩ := H
       apply Stg.next [(92, _)] rfl rfl
       refine Stg.go [0, 1, 2, 3] [20] rfl rfl (QAll.cons (QOp.p hT rfl rfl rfl rfl rfl) (QAll.cons (QOp.q rfl rfl (Quiet1.nilChk rfl rfl hc28) rfl rfl) (QAll.cons (QOp.p hT rfl rfl rfl rfl rfl) (QAll.cons (QOp.q rfl rfl (Quiet1.load hT rfl rfl rfl hc39) rfl rfl) QAll.nil)))) ?_
       refine EAll.cons ?_ EAll.nil
       refine EOp.e rfl rfl rfl (EffX.call (f := 67) (sh := fun h => slices_Concat_int_int _ h _) (H0 := H) rfl Tryz.call67 rfl (hl := fun w m hr hw => lift_slices_Concat_int_int _ w m hr _ hw)) ?_
       rintro _ _ ⟨v_22, h0u14, rfl, rfl, H⟩
       obtain ⟨hc40, H⟩ := H
       obtain ⟨a_17_, hc41, hd41, H⟩ := H
       apply Stg.next [(93, _), (94, _)] rfl rfl
       refine Stg.go [0, 1, 2, 3, 21] [22] rfl rfl (QAll.cons (QOp.p hT rfl rfl rfl rfl rfl) (QAll.cons (QOp.q rfl rfl (Quiet1.nilChk rfl rfl hc28) rfl rfl) (QAll.cons (QOp.p hT rfl rfl rfl rfl rfl) (QAll.cons (QOp.q rfl rfl (Quiet1.load hT rfl rfl rfl hc40) rfl rfl) (QAll.cons (QOp.q rfl rfl (Quiet1.idxS (s := _) hT rfl rfl rfl rfl rfl hc41 hd41) rfl rfl) QAll.nil))))) ?_
       refine EAll.cons ?_ EAll.nil
       refine EOp.e rfl rfl rfl (EffX.store hT rfl rfl rfl rfl rfl H) ?_
       rintro _ _ ⟨h0u15, rfl, H⟩
       apply Stg.next [] rfl rfl
       refine Stg.fin [] rfl rfl QAll.nil ?_
       refine AtE.then_n (AtE.go ?_)
       refine AtC.exit ?_
       refine AtE.blk_miss rfl ?_
       refine AtE.then_x ?_
       refine AtE.then_x ?_
       refine AtE.blk_miss rfl ?_
       refine AtE.then_x ?_
       refine AtE.blk_miss rfl ?_
       refine AtE.then_x ?_
       refine AtE.blk_hit ?_
       exact AtE.then_n ((HK1 _ () _ H).pickP (ts := [3, 0]) (is := []) rfl rfl (by decide) rfl)
      ·
       refine AtC.skip ?_
       refine AtE.blk_n ?_
       refine AtE.then_n (AtE.go ?_)
       refine AtC.region ?_
       refine AtL.pures hT 2 _ _ _ _ rfl ?_
       refine AtL.nil ?_
       exact AtE.then_n ((HK25 _ _ H).pickP (ts := [3, 6, 55, 0, 4, 5, 53, 54]) (is := []) rfl rfl (by decide) rfl)
     ·
      refine AtC.seqR ?_
      refine AtL.pures hT 2 _ _ _ _ rfl ?_
      refine AtL.nil ?_
      refine AtE.then_n (AtE.go ?_)
      refine AtC.condB H rfl (fun H => ?_) (fun H => ?_)
      ·
       refine AtC.region ?_
       refine AtL.pures hT 2 _ _ _ _ rfl ?_
       refine AtLX.bs (hT := hT) (cs := [_]) H rfl rfl rfl rfl rfl rfl rfl rfl rfl (fun a_12 h0u9 H => ?_)
       refine AtL.e rfl (EffX.appendS (s := _) (u := _) hT rfl rfl rfl rfl rfl rfl rfl rfl rfl rfl (by decide) H) ?_
       rintro _ _ ⟨v_14, h0u10, rfl, rfl, H⟩
       refine AtL.pures hT 1 _ _ _ _ rfl ?_
       refine AtL.nil ?_
       exact AtE.then_n ((HK28 _ () _ H).pickP (ts := [6, 0, 3, 4, 5, 7, 8, 9, 53, 54, 55]) (is := []) rfl rfl (by decide) rfl)
      ·
       refine AtC.skip ?_
       exact AtE.then_n ((HK28 _ () _ H).pickP (ts := [6, 0, 3, 4, 5, 7, 8, 9, 53, 54, 55]) (is := []) rfl rfl (by decide) rfl)
    ·
     refine AtC.exit ?_
     refine AtE.then_x ?_
     refine AtE.then_x ?_
     refine AtE.blk_hit ?_
     refine AtE.then_n (AtE.go ?_)
     obtain ⟨a_18, hc42, H⟩ := H
     obtain ⟨v_23, hc43, H⟩ := H
     obtain ⟨a_19, hc44, H⟩ := H
     obtain ⟨v_24, hc45, H⟩ := H
     apply AtC.stages [5, 12, 15, 17] [[], [], [], [], [], [], [], [], [], [], [], [], [5], [5, 12], [5, 12], [5, 12], [5, 12, 15], [5, 12, 15]] [[], [0], [0, 1], [0, 1, 2], [], [4], [], [], [7], [7, 8], [7, 8, 9], [], [4, 5, 11], [4, 5, 7, 8, 9, 10, 11, 12], [4, 5, 7, 8, 9, 10, 11, 12, 13], [4, 5, 6, 7, 8, 9, 10, 11, 12, 13, 14], [0, 1, 2, 3, 4, 5, 6, 7, 8, 9, 10, 11, 12, 13, 14, 15], [0, 1, 2, 3, 4, 5, 6, 7, 8, 9, 10, 11, 12, 13, 14, 15, 16]] hmix (by kernel_rfl) [(96, _), (97, _), (98, _), (99, _), (100, _), (102, _), (103, _), (104, _), (105, _), (106, _), (107, _)] rfl 4 rfl
     refine Stg.go [0, 1, 2, 3, 4, 6, 7, 8, 9, 10, 11] [5] rfl rfl (QAll.cons (QOp.p hT rfl rfl rfl rfl rfl) (QAll.cons (QOp.q rfl rfl (Quiet1.nilChk rfl rfl hc42) rfl rfl) (QAll.cons (QOp.p hT rfl rfl rfl rfl rfl) (QAll.cons (QOp.q rfl rfl (Quiet1.load hT rfl rfl rfl hc43) rfl rfl) (QAll.cons (QOp.p hT rfl rfl rfl rfl rfl) (QAll.cons (QOp.p hT rfl rfl rfl rfl rfl) (QAll.cons (QOp.p hT rfl rfl rfl rfl rfl) (QAll.cons (QOp.q rfl rfl (Quiet1.nilChk rfl rfl hc44) rfl rfl) (QAll.cons (QOp.p hT rfl rfl rfl rfl rfl) (QAll.cons (QOp.q rfl rfl (Quiet1.load hT rfl rfl rfl hc45) rfl rfl) (QAll.cons (QOp.p hT rfl rfl rfl rfl rfl) QAll.nil))))))))))) ?_
     refine EAll.cons ?_ EAll.nil
     refine EOp.e rfl rfl rfl (EffX.call (f := 64) (sh := fun h => clause_watch _ h _) (H0 := H) rfl Tryz.call64 rfl (hl := fun w m hr hw => lift_clause_watch _ w m hr _ hw)) ?_
     rintro _ _ ⟨v_25, h0u16, rfl, rfl, H⟩
     obtain ⟨hc46, H⟩ := H
     obtain ⟨hc47, H⟩ := H
     apply Stg.next [(101, _)] rfl rfl
     refine Stg.go [0, 1, 2, 3, 6, 7, 8, 9, 10, 11] [12] rfl rfl (QAll.cons (QOp.p hT rfl rfl rfl rfl rfl) (QAll.cons (QOp.q rfl rfl (Quiet1.nilChk rfl rfl hc42) rfl rfl) (QAll.cons (QOp.p hT rfl rfl rfl rfl rfl) (QAll.cons (QOp.q rfl rfl (Quiet1.load hT rfl rfl rfl hc46) rfl rfl) (QAll.cons (QOp.p hT rfl rfl rfl rfl rfl) (QAll.cons (QOp.p hT rfl rfl rfl rfl rfl) (QAll.cons (QOp.q rfl rfl (Quiet1.nilChk rfl rfl hc44) rfl rfl) (QAll.cons (QOp.p hT rfl rfl rfl rfl rfl) (QAll.cons (QOp.q rfl rfl (Quiet1.load hT rfl rfl rfl hc47) rfl rfl) (QAll.cons (QOp.p hT rfl rfl rfl rfl rfl) QAll.nil)))))))))) ?_
     refine EAll.cons ?_ EAll.nil
     refine EOp.e rfl rfl rfl (EffX.call (f := 64) (sh := fun h => clause_watch _ h _) (H0 := H) rfl Tryz.call64 rfl (hl := fun w m hr hw => lift_clause_watch _ w m hr _ hw)) ?_
     rintro _ _ ⟨v_26, h0u17, rfl, rfl, H⟩
     obtain ⟨hc48, H⟩ := H
     obtain ⟨hc49, H⟩ := H
     obtain ⟨a_20_, hc50, hd50, H⟩ := H
     obtain ⟨v_27, hc51, H⟩ := H
     apply Stg.next [(108, _), (109, _), (110, _)] rfl rfl
     refine Stg.go [0, 1, 2, 3, 6, 7, 8, 9, 10, 13, 14] [15] rfl rfl (QAll.cons (QOp.p hT rfl rfl rfl rfl rfl) (QAll.cons (QOp.q rfl rfl (Quiet1.nilChk rfl rfl hc42) rfl rfl) (QAll.cons (QOp.p hT rfl rfl rfl rfl rfl) (QAll.cons (QOp.q rfl rfl (Quiet1.load hT rfl rfl rfl hc48) rfl rfl) (QAll.cons (QOp.p hT rfl rfl rfl rfl rfl) (QAll.cons (QOp.p hT rfl rfl rfl rfl rfl) (QAll.cons (QOp.q rfl rfl (Quiet1.nilChk rfl rfl hc44) rfl rfl) (QAll.cons (QOp.p hT rfl rfl rfl rfl rfl) (QAll.cons (QOp.q rfl rfl (Quiet1.load hT rfl rfl rfl hc49) rfl rfl) (QAll.cons (QOp.q rfl rfl (Quiet1.idxS (s := _) hT rfl rfl rfl rfl rfl hc50 hd50) rfl rfl) (QAll.cons (QOp.q rfl rfl (Quiet1.load hT rfl rfl rfl hc51) rfl rfl) QAll.nil))))))))))) ?_
     refine EAll.cons ?_ EAll.nil
     refine EOp.e rfl rfl rfl (EffX.appendS (s := _) (u := _) hT rfl rfl rfl rfl rfl rfl rfl rfl rfl rfl (by decide) H) ?_
     rintro _ _ ⟨v_28, h0u18, rfl, rfl, H⟩
     obtain ⟨hc52, H⟩ := H
     obtain ⟨a_21_, hc53, hd53, H⟩ := H
     apply Stg.next [(111, _), (112, _)] rfl rfl
     refine Stg.go [0, 1, 2, 3, 16] [17] rfl rfl (QAll.cons (QOp.p hT rfl rfl rfl rfl rfl) (QAll.cons (QOp.q rfl rfl (Quiet1.nilChk rfl rfl hc42) rfl rfl) (QAll.cons (QOp.p hT rfl rfl rfl rfl rfl) (QAll.cons (QOp.q rfl rfl (Quiet1.load hT rfl rfl rfl hc52) rfl rfl) (QAll.cons (QOp.q rfl rfl (Quiet1.idxS (s := _) hT rfl rfl rfl rfl rfl hc53 hd53) rfl rfl) QAll.nil))))) ?_
     refine EAll.cons ?_ EAll.nil
     refine EOp.e rfl rfl rfl (EffX.store hT rfl rfl rfl rfl rfl H) ?_
     rintro _ _ ⟨h0u19, rfl, H⟩
     apply Stg.next [] rfl rfl
     refine Stg.fin [] rfl rfl QAll.nil ?_
     refine AtE.blk_n ?_
     exact AtE.then_n ((HK2 _ _ H).pickP (ts := [3, 0]) (is := []) rfl rfl (by decide) rfl)
   ·
    refine AtC.exit ?_
    refine AtE.then_x ?_
    refine AtE.then_x ?_
    refine AtE.blk_hit ?_
    exact AtE.then_n ((HK1 _ () _ H).pickP (ts := [3, 0]) (is := []) rfl rfl (by decide) rfl)

theorem lift_engine_atoms (p : Int × Int × Sl × Sl × Sl × Sl × Sl) (w : World) (m : Heap) (hr : Rel ⟨m, []⟩ w.heap) (S : ((Option Nat)) → Heap → Prop) (H : engine_atoms p m S) :
    Calls Tryz.prog 68 #[Value.agg (C_i64ui64usl_sl_sl_sl_sl p).toArray] w (Post ⟨w, m⟩ Value.map S) := by
  refine Calls.lift (args := [Value.agg (C_i64ui64usl_sl_sl_sl_sl p).toArray]) Tryz.func68 rfl Tryz.ntmps68 (Nat.le_of_ble_eq_true rfl) hr (engine_atoms p m S) H (fun H => ?_)
  refine AtC.pick (ts := [0]) rfl ?_
  unfold engine_atoms at H
  refine AtC.seqR ?_
  refine AtL.e rfl (EffX.boxP (cs := [_, _, _, _, _, _, _]) rfl rfl rfl H) ?_
  rintro _ _ ⟨b, _, rfl, rfl, _, H⟩
  replace H := H.self
  refine AtL.pures hT 1 _ _ _ _ rfl ?_
  refine AtL.nil ?_
  refine AtE.then_n (AtE.go ?_)
  refine AtC.seqR ?_
  refine AtL.e rfl (EffX.newM rfl H) ?_
  rintro _ _ ⟨v, h0u1, rfl, rfl, H⟩
  refine AtL.pures hT 1 _ _ _ _ rfl ?_
  refine AtL.nil ?_
  refine AtE.then_n (AtE.go ?_)
  refine AtC.seq ?_
  refine AtC.seqR ?_
  refine AtL.pures hT 1 _ _ _ _ rfl ?_
  refine AtL.q rfl (Quiet1.loadP (i := 0) hT rfl rfl rfl rfl rfl rfl) ?_
  refine AtL.pures hT 2 _ _ _ _ rfl ?_
  refine AtL.nil ?_
  refine AtE.then_n (AtE.go ?_)
  refine AtC.block ?_
  refine AtC.loopM (fun (s0 : Int) => [(10, Value.int .i64 s0)]) (fun (s0 : Int) => []) [3, 8, 9] [10, 3, 8, 9] [] [] H (by exact rfl) (by exact rfl) (by exact rfl) (by decide) (by exact rfl) (fun Kp1 s0 h0u2 H Q1 HK1 => ?_)
  refine AtC.seqR ?_
  refine AtL.pures hT 1 _ _ _ _ rfl ?_
  refine AtL.nil ?_
  refine AtE.then_n (AtE.go ?_)
  refine AtC.seq ?_
  refine AtC.condB H rfl (fun H => ?_) (fun H => ?_)
  ·
   refine AtC.skip ?_
   refine AtE.then_n (AtE.go ?_)
   refine AtC.seq ?_
   refine AtC.block ?_
   refine AtC.seqR ?_
   obtain ⟨a_, hc1, hd1, H⟩ := H
   refine AtL.q rfl (Quiet1.idxS (s := _) hT rfl rfl rfl rfl rfl hc1 hd1) ?_
   obtain ⟨v_1, hc2, H⟩ := H
   refine AtL.q rfl (Quiet1.loadS hT rfl rfl rfl rfl hc2) ?_
   refine AtL.e rfl (EffX.allocP (cs := [_, _, _, _, _, _, _, _, _]) hT rfl rfl H) ?_
   rintro _ _ ⟨b_1, _, rfl, rfl, _, H⟩
   replace H := H.self
   refine AtL.e rfl (EffX.storeSPw (i := 0) (qv := [(_, [_, _, _, _, _, _, _, _, _])]) hT rfl rfl rfl rfl rfl rfl rfl rfl rfl rfl rfl) ?_
   rintro _ _ rfl
   refine AtL.nil ?_
   refine AtE.then_n (AtE.go ?_)
   refine AtC.region ?_
   refine AtL.pures hT 2 _ _ _ _ rfl ?_
   refine AtL.q rfl (Quiet1.loadP (i := 0) hT rfl rfl rfl rfl rfl rfl) ?_
   refine AtL.q rfl (Quiet1.loadSP (i := 0) (l := [_, _, _, _, _, _, _, _, _]) hT rfl rfl rfl rfl rfl rfl rfl rfl) ?_
   refine AtL.e rfl (EffX.setM (toV := (fun r => Value.agg (C_i64ui64ui64ubool_sl_sl_bool_sl_sl r).toArray)) (v := (v_1.1, v_1.2.1, v_1.2.2.1, v_1.2.2.2.1, v_1.2.2.2.2.1, v_1.2.2.2.2.2.1, v_1.2.2.2.2.2.2.1, v_1.2.2.2.2.2.2.2.1, v_1.2.2.2.2.2.2.2.2)) hT rfl rfl rfl rfl rfl rfl H) ?_
   rintro _ _ ⟨h0u4, rfl, H⟩
   refine AtL.nil ?_
   refine AtE.blk_n ?_
   refine AtE.then_n (AtE.go ?_)
   refine AtC.region ?_
   refine AtL.pures hT 2 _ _ _ _ rfl ?_
   refine AtL.nil ?_
   exact AtE.then_n ((HK1 _ _ H).pickP (ts := [10, 3, 8, 9]) (is := []) rfl rfl (by decide) rfl)
  ·
   refine AtC.exit ?_
   refine AtE.then_x ?_
   refine AtE.then_x ?_
   refine AtE.blk_hit ?_
   refine AtE.then_n (AtE.go ?_)
   refine AtC.seqR ?_
   refine AtL.pures hT 2 _ _ _ _ rfl ?_
   refine AtL.nil ?_
   refine AtE.then_n (AtE.go ?_)
   refine AtC.ret ?_
   exact AtE.retN (rs := [.tmp 2]) rfl (ResAll.cons (ResAt.tmp rfl) ResAll.nil) rfl H

theorem lift_simplex_worst (t0 : (Option Addr)) (w : World) (m : Heap) (hr : Rel ⟨m, []⟩ w.heap) (S : (Int × Bool) → Heap → Prop) (H : simplex_worst t0 m S) :
    Calls Tryz.prog 136 #[Value.pointer t0] w (Post ⟨w, m⟩ (fun r => Value.tuple #[(Value.int .i64) r.1, Value.bool r.2]) S) := by
  refine Calls.lift (args := [Value.pointer t0]) Tryz.func136 rfl Tryz.ntmps136 (Nat.le_of_ble_eq_true rfl) hr (simplex_worst t0 m S) H (fun H => ?_)
  refine AtC.pick (ts := [0]) rfl ?_
  unfold simplex_worst at H
  refine AtC.seqR ?_
  refine AtL.pures hT 2 _ _ _ _ rfl ?_
  refine AtL.nil ?_
  refine AtE.then_n (AtE.go ?_)
  refine AtC.seqR ?_
  refine AtL.pures hT 1 _ _ _ _ rfl ?_
  refine AtL.nil ?_
  refine AtE.then_n (AtE.go ?_)
  refine AtC.seq ?_
  refine AtC.seqR ?_
  refine AtL.pures hT 1 _ _ _ _ rfl ?_
  obtain ⟨a, hc0, H⟩ := H
  refine AtL.q rfl (Quiet1.nilChk rfl rfl hc0) ?_
  refine AtL.pures hT 1 _ _ _ _ rfl ?_
  obtain ⟨v, hc1, H⟩ := H
  refine AtL.q rfl (Quiet1.load hT rfl rfl rfl hc1) ?_
  refine AtL.pures hT 2 _ _ _ _ rfl ?_
  refine AtL.nil ?_
  refine AtE.then_n (AtE.go ?_)
  refine AtC.block ?_
  refine AtC.loopM (fun (s0 : Int × Bool × Int) => [(2, Value.int .i64 s0.1), (3, Value.bool s0.2.1), (13, Value.int .i64 s0.2.2)]) (fun (s0 : Int × Bool × Int) => []) [0, 11, 12] [2, 3, 13, 0, 11, 12] [] [] H (by exact rfl) (by exact rfl) (by exact rfl) (by decide) (by exact rfl) (fun Kp3 s0 h0 H Q3 HK3 => ?_)
  refine AtC.seqR ?_
  refine AtL.pures hT 1 _ _ _ _ rfl ?_
  refine AtL.nil ?_
  refine AtE.then_n (AtE.go ?_)
  refine AtC.seq ?_
  refine AtC.condB H rfl (fun H => ?_) (fun H => ?_)
  ·
   refine AtC.skip ?_
   refine AtE.then_n (AtE.go ?_)
   refine AtC.seq ?_
   refine AtC.block ?_
   refine AtC.seqR ?_
   refine AtL.pures hT 1 _ _ _ _ rfl ?_
   obtain ⟨a_1_, hc3, hd3, H⟩ := H
   refine AtL.q rfl (Quiet1.idxS (s := _) hT rfl rfl rfl rfl rfl hc3 hd3) ?_
   obtain ⟨v_1, hc4, H⟩ := H
   refine AtL.q rfl (Quiet1.load hT rfl rfl rfl hc4) ?_
   refine AtL.pures hT 2 _ _ _ _ rfl ?_
   refine AtL.nil ?_
   refine AtE.then_n (AtE.go ?_)
   refine AtC.seqR ?_
   refine AtL.q rfl (Quiet1.buildA (cs := [_, _]) hT rfl rfl rfl rfl rfl rfl) ?_
   refine AtL.pures hT 1 _ _ _ _ rfl ?_
   refine AtL.nil ?_
   refine AtE.then_n (AtE.go ?_)
   refine AtC.block ?_
   refine AtC.loopM (fun (s0u1 : Int × Bool × Int) => [(2, Value.int .i64 s0u1.1), (3, Value.bool s0u1.2.1), (19, Value.int .i64 s0u1.2.2)]) (fun (s0u1 : Int × Bool × Int) => []) [0, 4, 5, 11, 12, 13, 18] [2, 3, 19, 0, 4, 5, 11, 12, 13, 18] [] [] H (by exact rfl) (by exact rfl) (by exact rfl) (by decide) (by exact rfl) (fun Kp6 s0u1 h0u1 H Q6 HK6 => ?_)
   refine AtC.seqR ?_
   refine AtL.pures hT 1 _ _ _ _ rfl ?_
   refine AtL.nil ?_
   refine AtE.then_n (AtE.go ?_)
   refine AtC.seq ?_
   refine AtC.condB H rfl (fun H => ?_) (fun H => ?_)
   ·
    refine AtC.skip ?_
    refine AtE.then_n (AtE.go ?_)
    refine AtC.joinSeq (β := Unit) (fun (t0u1 : Int × Bool) (bb : Unit) => [(2, Value.int .i64 t0u1.1), (3, Value.bool t0u1.2)]) (fun (t0u1 : Int × Bool) (bb : Unit) => []) [0, 4, 5, 11, 12, 13, 18, 19] [] H (by exact rfl) (by exact rfl) (fun t0u1 bb h0u2 H => ?_) (fun J7 H HK7 => ?_)
    ·
     refine AtC.region ?_
     refine AtL.pures hT 2 _ _ _ _ rfl ?_
     refine AtL.nil ?_
     exact AtE.then_n ((HK6 _ _ H).pickP (ts := [2, 3, 19, 0, 4, 5, 11, 12, 13, 18]) (is := []) rfl rfl (by decide) rfl)
    ·
     refine AtC.block ?_
     refine AtC.seqR ?_
     obtain ⟨hd7, v_2, hc7, H⟩ := H
     refine AtL.q rfl (Quiet1.idxV hT rfl rfl rfl rfl rfl rfl hd7 hc7) ?_
     refine AtL.pures hT 1 _ _ _ _ rfl ?_
     refine AtL.nil ?_
     refine AtE.then_n (AtE.go ?_)
     refine AtC.joinSeq (β := Unit) (fun (t0u2 : Bool) (bb_1 : Unit) => [(48, Value.bool t0u2)]) (fun (t0u2 : Bool) (bb_1 : Unit) => []) [0, 2, 3, 4, 5, 7, 11, 12, 13, 18, 19] [] H (by exact rfl) (by exact rfl) (fun t0u2 bb_1 h0u3 H => ?_) (fun J9 H HK9 => ?_)
     ·
      refine AtC.condB H rfl (fun H => ?_) (fun H => ?_)
      ·
       refine AtC.region ?_
       refine AtL.pures hT 4 _ _ _ _ rfl ?_
       refine AtL.nil ?_
       refine AtE.blk_n ?_
       exact AtE.then_n ((HK7 _ () _ H).pickP (ts := [2, 3, 0, 4, 5, 11, 12, 13, 18, 19]) (is := []) rfl rfl (by decide) rfl)
      ·
       refine AtC.skip ?_
       refine AtE.blk_n ?_
       exact AtE.then_n ((HK7 _ () _ H).pickP (ts := [2, 3, 0, 4, 5, 11, 12, 13, 18, 19]) (is := []) rfl rfl (by decide) rfl)
     ·
      exact H.elim
   ·
    refine AtC.exit ?_
    refine AtE.then_x ?_
    refine AtE.then_x ?_
    refine AtE.blk_hit ?_
    refine AtE.blk_n ?_
    refine AtE.then_n (AtE.go ?_)
    refine AtC.region ?_
    refine AtL.pures hT 2 _ _ _ _ rfl ?_
    refine AtL.nil ?_
    exact AtE.then_n ((HK3 _ _ H).pickP (ts := [2, 3, 13, 0, 11, 12]) (is := []) rfl rfl (by decide) rfl)
  ·
   refine AtC.exit ?_
   refine AtE.then_x ?_
   refine AtE.then_x ?_
   refine AtE.blk_hit ?_
   refine AtE.then_n (AtE.go ?_)
   refine AtC.seqR ?_
   refine AtL.pures hT 4 _ _ _ _ rfl ?_
   refine AtL.nil ?_
   refine AtE.then_n (AtE.go ?_)
   refine AtC.ret ?_
   exact AtE.retN (rs := [.tmp 2, .tmp 3]) rfl (ResAll.cons (ResAt.tmp rfl) (ResAll.cons (ResAt.tmp rfl) ResAll.nil)) rfl H

theorem lift_slices_IndexFunc_api_Mono_api_Mono__simplex_Step_c1 (s0 : Sl) (f_c : Addr) (f_c_1 : Addr) (w : World) (m : Heap) (hr : Rel ⟨m, []⟩ w.heap) (S : Int → Heap → Prop) (H : slices_IndexFunc_api_Mono_api_Mono__simplex_Step_c1 s0 f_c f_c_1 m S) :
    Calls Tryz.prog 137 #[Sl.toV s0, Value.func (.func 138) #[] #[Value.pointer (some f_c), Value.pointer (some f_c_1)]] w (Post ⟨w, m⟩ (Value.int .i64) S) := by
  refine Calls.lift (args := [Sl.toV s0, Value.func (.func 138) #[] #[Value.pointer (some f_c), Value.pointer (some f_c_1)]]) Tryz.func137 rfl Tryz.ntmps137 (Nat.le_of_ble_eq_true rfl) hr (slices_IndexFunc_api_Mono_api_Mono__simplex_Step_c1 s0 f_c f_c_1 m S) H (fun H => ?_)
  refine AtC.pick (ts := [0, 1]) rfl ?_
  unfold slices_IndexFunc_api_Mono_api_Mono__simplex_Step_c1 at H
  refine AtC.seqR ?_
  refine AtL.pures hT 1 _ _ _ _ rfl ?_
  refine AtL.nil ?_
  refine AtE.then_n (AtE.go ?_)
  refine AtC.seq ?_
  refine AtC.seqR ?_
  refine AtL.pures hT 3 _ _ _ _ rfl ?_
  refine AtL.nil ?_
  refine AtE.then_n (AtE.go ?_)
  refine AtC.block ?_
  refine AtC.loopM (fun (s0u1 : Int) => [(8, Value.int .i64 s0u1)]) (fun (s0u1 : Int) => []) [0, 1, 7] [8, 0, 1, 7] [] [] H (by exact rfl) (by exact rfl) (by exact rfl) (by decide) (by exact rfl) (fun Kp1 s0u1 h0 H Q1 HK1 => ?_)
  refine AtC.seqR ?_
  refine AtL.pures hT 1 _ _ _ _ rfl ?_
  refine AtL.nil ?_
  refine AtE.then_n (AtE.go ?_)
  refine AtC.seq ?_
  refine AtC.condB H rfl (fun H => ?_) (fun H => ?_)
  ·
   refine AtC.skip ?_
   refine AtE.then_n (AtE.go ?_)
   refine AtC.seq ?_
   refine AtC.block ?_
   refine AtC.seqR ?_
   refine AtL.pures hT 2 _ _ _ _ rfl ?_
   refine AtL.nil ?_
   refine AtE.then_n (AtE.go ?_)
   refine AtC.seqR ?_
   refine AtL.pures hT 3 _ _ _ _ rfl ?_
   obtain ⟨a_, hc1, hd1, H⟩ := H
   refine AtL.q rfl (Quiet1.idxS (s := _) hT rfl rfl rfl rfl rfl hc1 hd1) ?_
   obtain ⟨v, hc2, H⟩ := H
   refine AtL.q rfl (Quiet1.loadS hT rfl rfl rfl rfl hc2) ?_
   exact H.elim
  ·
   refine AtC.exit ?_
   refine AtE.then_x ?_
   refine AtE.then_x ?_
   refine AtE.blk_hit ?_
   refine AtE.then_n (AtE.go ?_)
   refine AtC.seqR ?_
   refine AtL.pures hT 1 _ _ _ _ rfl ?_
   refine AtL.nil ?_
   refine AtE.then_n (AtE.go ?_)
   refine AtC.ret ?_
   exact AtE.retN (rs := [.tmp 4]) rfl (ResAll.cons (ResAt.tmp rfl) ResAll.nil) rfl H
end Go.Proofs.YtenofghlgiimeaaGreatDoor

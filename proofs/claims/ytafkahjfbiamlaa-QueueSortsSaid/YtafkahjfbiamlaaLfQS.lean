/-
  The deep code does what the functions of the shallow text say: printed by lift.py.
-/
import Derived.Test.YtafkahjfbiamlaaProg
import Derived.Test.YtafkahjfbiamlaaShQ
set_option linter.unusedVariables false
set_option linter.unusedSimpArgs false
namespace Go.Proofs.Ytafkahjfbiamlaa
open Go Go.Lift Go.Sh
set_option maxRecDepth 100000
set_option maxHeartbeats 4000000
attribute [local irreducible] Calls AtL AtC AtE AtD Eff Quiet1 Stg qAt QAll eAt EAll nextK Code.wp

def T : TTab := [(3, .int .i64, 1, 8, [Value.int .i64 0]), (22, .slice 3, 1, 24, [Sl.toV Sl.nil]), (25, .struct #[⟨ "Score", 22, 0, false, "", "", 0⟩, ⟨ "Heap", 22, 1, false, "", "", 24⟩], 2, 48, [Sl.toV Sl.nil, Sl.toV Sl.nil]), (29, .pointer 25, 1, 8, [Value.pointer none]), (88, .struct #[⟨ "Queue", 29, 0, true, "", "", 0⟩], 1, 8, [Value.pointer none])]
theorem hT : TTab.Ok Try.prog T := TTab.ok_cons (by kernel_rfl) (by kernel_rfl) (TTab.ok_cons (by kernel_rfl) (by kernel_rfl) (TTab.ok_cons (by kernel_rfl) (by kernel_rfl) (TTab.ok_cons (by kernel_rfl) (by kernel_rfl) (TTab.ok_cons (by kernel_rfl) (by kernel_rfl) (TTab.ok_nil _)))))
theorem hmix : Try.prog.follows .mixedOrders = true := by kernel_rfl

theorem lift_queue_New (n : Int) (w : World) (m : Heap) (hr : Rel ⟨m, []⟩ w.heap) (S : (Sl × Sl) → Heap → Prop) (H : queue_New n m S) :
    Calls Try.prog 11 #[Value.int .i64 n] w (Post ⟨w, m⟩ (fun r => Value.agg (C_sl_sl r).toArray) S) := by
  refine Calls.lift (args := [Value.int .i64 n]) Try.func11 rfl Try.ntmps11 (Nat.le_of_ble_eq_true rfl) hr (queue_New n m S) H (fun H => ?_)
  refine AtC.pick (ts := [0]) rfl ?_
  unfold queue_New at H
  refine AtC.seqR ?_
  refine AtL.e rfl (EffX.allocP (cs := [_, _]) hT rfl rfl H) ?_
  rintro _ _ ⟨b, _, rfl, rfl, _, H⟩
  refine AtL.nil ?_
  replace H := H.self
  refine AtE.then_n (AtE.go ?_)
  refine AtC.seqR ?_
  refine AtL.pures hT 4 _ _ _ _ rfl ?_
  replace H := H _ rfl
  refine AtL.nil ?_
  refine AtE.then_n (AtE.go ?_)
  refine AtC.seqR ?_
  refine AtL.pures hT 1 _ _ _ _ rfl ?_
  refine AtL.e rfl (EffX.mkS hT rfl rfl rfl rfl rfl rfl rfl rfl (by decide) H) ?_
  rintro _ _ ⟨v, h0u1, rfl, rfl, H⟩
  refine AtL.q rfl (Quiet1.build (cs := [_, _]) hT rfl rfl rfl rfl rfl rfl) ?_
  refine AtL.e rfl (EffX.allocP (cs := [_, _]) hT rfl rfl H) ?_
  rintro _ _ ⟨b_1, _, rfl, rfl, _, H⟩
  replace H := H.self
  refine AtL.e rfl (EffX.storeSP (i := 0) (qv := [(_, [_, _]), (_, [_, _])]) hT rfl rfl rfl rfl rfl rfl rfl rfl rfl rfl) ?_
  rintro _ _ rfl
  refine AtL.nil ?_
  refine AtE.then_n (AtE.go ?_)
  refine AtC.seq ?_
  refine AtC.seqR ?_
  refine AtL.pures hT 2 _ _ _ _ rfl ?_
  refine AtL.nil ?_
  refine AtE.then_n (AtE.go ?_)
  refine AtC.block ?_
  refine AtC.loopM (fun (s0 : Int × Sl × Sl) => [(12, Value.int .i64 s0.1)]) (fun (s0 : Int × Sl × Sl) => [(b_1, [Sl.toV s0.2.1, Sl.toV s0.2.2])]) [2, 3, 11] [12, 2, 3, 11] [1] [0, 1] H (by exact rfl) (by exact rfl) (by exact rfl) (by decide) (by exact rfl) (fun Kp1 s0 h0u3 H Q1 HK1 => ?_)
  refine AtC.seqR ?_
  refine AtL.pures hT 1 _ _ _ _ rfl ?_
  refine AtL.nil ?_
  refine AtE.then_n (AtE.go ?_)
  refine AtC.seq ?_
  refine AtC.condB H rfl (fun H => ?_) (fun H => ?_)
  ·
   refine AtC.skip ?_
   refine AtE.then_n (AtE.go ?_)
   refine AtC.seq ?_
   refine AtC.block ?_
   refine AtC.seqR ?_
   refine AtL.pures hT 2 _ _ _ _ rfl ?_
   refine AtL.nil ?_
   refine AtE.then_n (AtE.go ?_)
   refine AtC.region ?_
   refine AtL.pures hT 1 _ _ _ _ rfl ?_
   refine AtL.q rfl (Quiet1.loadP (i := 0) hT rfl rfl rfl rfl rfl rfl) ?_
   refine AtL.pures hT 1 _ _ _ _ rfl ?_
   refine AtLX.bs (hT := hT) (cs := [_]) H rfl rfl rfl rfl rfl rfl rfl rfl rfl (fun a h0u4 H => ?_)
   refine AtL.e rfl (EffX.appendS (s := _) (u := _) hT rfl rfl rfl rfl rfl rfl rfl rfl rfl rfl (by decide) H) ?_
   rintro _ _ ⟨v_2, h0u5, rfl, rfl, H⟩
   refine AtL.pures hT 1 _ _ _ _ rfl ?_
   refine AtL.e rfl (EffX.storeP (i := 0) (qv := [(_, [_, _]), (_, [_, _])]) hT rfl rfl rfl rfl rfl rfl rfl rfl rfl) ?_
   rintro _ _ rfl
   refine AtL.nil ?_
   refine AtE.blk_n ?_
   refine AtE.then_n (AtE.go ?_)
   refine AtC.region ?_
   refine AtL.pures hT 2 _ _ _ _ rfl ?_
   refine AtL.nil ?_
   exact AtE.then_n ((HK1 _ _ H).pickP (ts := [12, 2, 3, 11]) (is := [0, 1]) rfl rfl (by decide) rfl)
  ·
   refine AtC.exit ?_
   refine AtE.then_x ?_
   refine AtE.then_x ?_
   refine AtE.blk_hit ?_
   refine AtE.then_n (AtE.go ?_)
   refine AtC.seqR ?_
   refine AtL.q rfl (Quiet1.loadSP (i := 0) (l := [_, _]) hT rfl rfl rfl rfl rfl rfl rfl rfl) ?_
   refine AtL.e rfl (EffX.storeSP (i := 1) (qv := [(_, [_, _]), (_, [_, _])]) hT rfl rfl rfl rfl rfl rfl rfl rfl rfl rfl) ?_
   rintro _ _ rfl
   refine AtL.nil ?_
   refine AtE.then_n (AtE.go ?_)
   refine AtC.ret ?_
   exact AtE.retN (rs := [.cell 2 25]) rfl (ResAll.cons (ResAt.cellSP (i := 1) (l := [_, _]) hT rfl rfl rfl rfl rfl rfl rfl) ResAll.nil) rfl H

theorem lift_queue_there (q : (Option Addr)) (v : Int) (w : World) (m : Heap) (hr : Rel ⟨m, []⟩ w.heap) (S : Bool → Heap → Prop) (H : queue_there q v m S) :
    Calls Try.prog 46 #[Value.pointer q, Value.int .i64 v] w (Post ⟨w, m⟩ Value.bool S) := by
  refine Calls.lift (args := [Value.pointer q, Value.int .i64 v]) Try.func46 rfl Try.ntmps46 (Nat.le_of_ble_eq_true rfl) hr (queue_there q v m S) H (fun H => ?_)
  refine AtC.pick (ts := [0, 1]) rfl ?_
  unfold queue_there at H
  refine AtC.seqR ?_
  refine AtL.pures hT 1 _ _ _ _ rfl ?_
  refine AtL.nil ?_
  refine AtE.then_n (AtE.go ?_)
  refine AtC.joinSeq (β := Unit) (fun (t0 : Bool) (bb : Unit) => [(4, Value.bool t0)]) (fun (t0 : Bool) (bb : Unit) => []) [] [] H (by exact rfl) (by exact rfl) (fun t0 bb h0 H => ?_) (fun J1 H HK1 => ?_)
  ·
   refine AtC.ret ?_
   exact AtE.retN (rs := [.tmp 4]) rfl (ResAll.cons (ResAt.tmp rfl) ResAll.nil) rfl H
  ·
   refine AtC.region ?_
   refine AtL.pures hT 3 _ _ _ _ rfl ?_
   refine AtL.splitB (t := 7) H rfl (fun H => ?_) (fun H => ?_)
   ·
    refine AtL.yes rfl rfl rfl ?_
    refine AtL.pures hT 1 _ _ _ _ rfl ?_
    refine AtL.yes rfl rfl rfl ?_
    refine AtL.pures hT 1 _ _ _ _ rfl ?_
    refine AtL.yes rfl rfl rfl ?_
    obtain ⟨a, hc1, H⟩ := H
    refine AtL.q rfl (Quiet1.nilChk rfl rfl hc1) ?_
    refine AtL.yes rfl rfl rfl ?_
    refine AtL.pures hT 1 _ _ _ _ rfl ?_
    refine AtL.yes rfl rfl rfl ?_
    obtain ⟨v_1, hc2, H⟩ := H
    refine AtL.q rfl (Quiet1.load hT rfl rfl rfl hc2) ?_
    refine AtL.yes rfl rfl rfl ?_
    refine AtL.pures hT 1 _ _ _ _ rfl ?_
    refine AtL.yes rfl rfl rfl ?_
    refine AtL.pures hT 1 _ _ _ _ rfl ?_
    refine AtL.pures hT 2 _ _ _ _ rfl ?_
    refine AtL.nil ?_
    exact AtE.then_n ((HK1 _ () _ H).pickP (ts := [4]) (is := []) rfl rfl (by decide) rfl)
   ·
    refine AtL.noF rfl rfl rfl (by decide) rfl ?_
    refine AtL.noF rfl rfl rfl (by decide) rfl ?_
    refine AtL.noF rfl rfl rfl (by decide) rfl ?_
    refine AtL.noF rfl rfl rfl (by decide) rfl ?_
    refine AtL.noF rfl rfl rfl (by decide) rfl ?_
    refine AtL.noF rfl rfl rfl (by decide) rfl ?_
    refine AtL.noF rfl rfl rfl (by decide) rfl ?_
    refine AtL.pures hT 2 _ _ _ _ rfl ?_
    refine AtL.nil ?_
    exact AtE.then_n ((HK1 _ () _ H).pickP (ts := [4]) (is := []) rfl rfl (by decide) rfl)

theorem lift_slices_Index_int_int (s0 : Sl) (v : Int) (w : World) (m : Heap) (hr : Rel ⟨m, []⟩ w.heap) (S : Int → Heap → Prop) (H : slices_Index_int_int s0 v m S) :
    Calls Try.prog 47 #[Sl.toV s0, Value.int .i64 v] w (Post ⟨w, m⟩ (Value.int .i64) S) := by
  refine Calls.lift (args := [Sl.toV s0, Value.int .i64 v]) Try.func47 rfl Try.ntmps47 (Nat.le_of_ble_eq_true rfl) hr (slices_Index_int_int s0 v m S) H (fun H => ?_)
  refine AtC.pick (ts := [0, 1]) rfl ?_
  unfold slices_Index_int_int at H
  refine AtC.seqR ?_
  refine AtL.pures hT 1 _ _ _ _ rfl ?_
  refine AtL.nil ?_
  refine AtE.then_n (AtE.go ?_)
  refine AtC.seq ?_
  refine AtC.seqR ?_
  refine AtL.pures hT 3 _ _ _ _ rfl ?_
  refine AtL.nil ?_
  refine AtE.then_n (AtE.go ?_)
  refine AtC.block ?_
  refine AtC.loopM (fun (s0u1 : Int) => [(8, Value.int .i64 s0u1)]) (fun (s0u1 : Int) => []) [0, 1, 7] [8, 0, 1, 7] [] [] H (by exact rfl) (by exact rfl) (by exact rfl) (by decide) (by exact rfl) (fun Kp1 s0u1 h0 H Q1 HK1 => ?_)
  refine AtC.seqR ?_
  refine AtL.pures hT 1 _ _ _ _ rfl ?_
  refine AtL.nil ?_
  refine AtE.then_n (AtE.go ?_)
  refine AtC.seq ?_
  refine AtC.condB H rfl (fun H => ?_) (fun H => ?_)
  ·
   refine AtC.skip ?_
   refine AtE.then_n (AtE.go ?_)
   refine AtC.seq ?_
   refine AtC.block ?_
   refine AtC.seqR ?_
   refine AtL.pures hT 2 _ _ _ _ rfl ?_
   refine AtL.nil ?_
   refine AtE.then_n (AtE.go ?_)
   refine AtC.seqR ?_
   refine AtL.pures hT 3 _ _ _ _ rfl ?_
   obtain ⟨a_, hc1, hd1, H⟩ := H
   refine AtL.q rfl (Quiet1.idxS (s := _) hT rfl rfl rfl rfl rfl hc1 hd1) ?_
   obtain ⟨v_1, hc2, H⟩ := H
   refine AtL.q rfl (Quiet1.load hT rfl rfl rfl hc2) ?_
   refine AtL.pures hT 1 _ _ _ _ rfl ?_
   refine AtL.nil ?_
   refine AtE.then_n (AtE.go ?_)
   refine AtC.condB H rfl (fun H => ?_) (fun H => ?_)
   ·
    refine AtC.seqR ?_
    refine AtL.pures hT 2 _ _ _ _ rfl ?_
    refine AtL.nil ?_
    refine AtE.then_n (AtE.go ?_)
    refine AtC.ret ?_
    refine AtE.blk_r ?_
    refine AtE.then_r ?_
    refine AtE.then_r ?_
    refine AtE.blk_r ?_
    refine AtE.then_r ?_
    exact AtE.retN (rs := [.tmp 4]) rfl (ResAll.cons (ResAt.tmp rfl) ResAll.nil) rfl H
   ·
    refine AtC.skip ?_
    refine AtE.blk_n ?_
    refine AtE.then_n (AtE.go ?_)
    refine AtC.region ?_
    refine AtL.pures hT 2 _ _ _ _ rfl ?_
    refine AtL.nil ?_
    exact AtE.then_n ((HK1 _ _ H).pickP (ts := [8, 0, 1, 7]) (is := []) rfl rfl (by decide) rfl)
  ·
   refine AtC.exit ?_
   refine AtE.then_x ?_
   refine AtE.then_x ?_
   refine AtE.blk_hit ?_
   refine AtE.then_n (AtE.go ?_)
   refine AtC.seqR ?_
   refine AtL.pures hT 1 _ _ _ _ rfl ?_
   refine AtL.nil ?_
   refine AtE.then_n (AtE.go ?_)
   refine AtC.ret ?_
   exact AtE.retN (rs := [.tmp 4]) rfl (ResAll.cons (ResAt.tmp rfl) ResAll.nil) rfl H

theorem lift_queue_ranks_Len (r : (Option Addr)) (w : World) (m : Heap) (hr : Rel ⟨m, []⟩ w.heap) (S : Int → Heap → Prop) (H : queue_ranks_Len r m S) :
    Calls Try.prog 163 #[Value.agg (C_ptr r).toArray] w (Post ⟨w, m⟩ (Value.int .i64) S) := by
  refine Calls.lift (args := [Value.agg (C_ptr r).toArray]) Try.func163 rfl Try.ntmps163 (Nat.le_of_ble_eq_true rfl) hr (queue_ranks_Len r m S) H (fun H => ?_)
  refine AtC.pick (ts := [0]) rfl ?_
  unfold queue_ranks_Len at H
  refine AtC.seqR ?_
  refine AtL.e rfl (EffX.boxP (cs := [_]) rfl rfl rfl H) ?_
  rintro _ _ ⟨b, _, rfl, rfl, _, H⟩
  replace H := H.self
  refine AtL.pures hT 1 _ _ _ _ rfl ?_
  refine AtL.nil ?_
  refine AtE.then_n (AtE.go ?_)
  refine AtC.seqR ?_
  refine AtL.pures hT 1 _ _ _ _ rfl ?_
  refine AtL.q rfl (Quiet1.loadP (i := 0) hT rfl rfl rfl rfl rfl rfl) ?_
  obtain ⟨a, hc0, H⟩ := H
  refine AtL.q rfl (Quiet1.nilChk rfl rfl hc0) ?_
  refine AtL.pures hT 1 _ _ _ _ rfl ?_
  obtain ⟨v, hc1, H⟩ := H
  refine AtL.q rfl (Quiet1.load hT rfl rfl rfl hc1) ?_
  refine AtL.pures hT 2 _ _ _ _ rfl ?_
  refine AtL.nil ?_
  refine AtE.then_n (AtE.go ?_)
  refine AtC.ret ?_
  exact AtE.retN (rs := [.tmp 2]) rfl (ResAll.cons (ResAt.tmp rfl) ResAll.nil) rfl H

theorem lift_queue_ranks_Less (r : (Option Addr)) (i : Int) (j : Int) (w : World) (m : Heap) (hr : Rel ⟨m, []⟩ w.heap) (S : Bool → Heap → Prop) (H : queue_ranks_Less r i j m S) :
    Calls Try.prog 60 #[Value.agg (C_ptr r).toArray, Value.int .i64 i, Value.int .i64 j] w (Post ⟨w, m⟩ Value.bool S) := by
  refine Calls.lift (args := [Value.agg (C_ptr r).toArray, Value.int .i64 i, Value.int .i64 j]) Try.func60 rfl Try.ntmps60 (Nat.le_of_ble_eq_true rfl) hr (queue_ranks_Less r i j m S) H (fun H => ?_)
  refine AtC.pick (ts := [0, 1, 2]) rfl ?_
  unfold queue_ranks_Less at H
  refine AtC.seqR ?_
  refine AtL.e rfl (EffX.boxP (cs := [_]) rfl rfl rfl H) ?_
  rintro _ _ ⟨b, _, rfl, rfl, _, H⟩
  replace H := H.self
  refine AtL.pures hT 1 _ _ _ _ rfl ?_
  refine AtL.nil ?_
  refine AtE.then_n (AtE.go ?_)
  refine AtC.seqD hmix (by kernel_rfl) ?_
  refine AtD.pures hT 1 _ _ _ _ rfl ?_
  refine AtD.q rfl (Quiet1.loadP (i := 0) hT rfl rfl rfl rfl rfl rfl) ?_
  obtain ⟨a, hc0, H⟩ := H
  refine AtD.q rfl (Quiet1.nilChk rfl rfl hc0) ?_
  refine AtD.pures hT 1 _ _ _ _ rfl ?_
  obtain ⟨v, hc1, H⟩ := H
  refine AtD.q rfl (Quiet1.load hT rfl rfl rfl hc1) ?_
  refine AtD.pures hT 1 _ _ _ _ rfl ?_
  obtain ⟨a_1_, hc2, hd2, H⟩ := H
  refine AtD.q rfl (Quiet1.idxS (s := _) hT rfl rfl rfl rfl rfl hc2 hd2) ?_
  obtain ⟨v_1, hc3, H⟩ := H
  refine AtD.q rfl (Quiet1.load hT rfl rfl rfl hc3) ?_
  refine AtD.pures hT 1 _ _ _ _ rfl ?_
  refine AtD.q rfl (Quiet1.loadP (i := 0) hT rfl rfl rfl rfl rfl rfl) ?_
  obtain ⟨a_2, hc4, H⟩ := H
  refine AtD.q rfl (Quiet1.nilChk rfl rfl hc4) ?_
  refine AtD.pures hT 1 _ _ _ _ rfl ?_
  obtain ⟨v_2, hc5, H⟩ := H
  refine AtD.q rfl (Quiet1.load hT rfl rfl rfl hc5) ?_
  refine AtD.pures hT 1 _ _ _ _ rfl ?_
  obtain ⟨a_3_, hc6, hd6, H⟩ := H
  refine AtD.q rfl (Quiet1.idxS (s := _) hT rfl rfl rfl rfl rfl hc6 hd6) ?_
  obtain ⟨v_3, hc7, H⟩ := H
  refine AtD.q rfl (Quiet1.load hT rfl rfl rfl hc7) ?_
  refine AtD.pures hT 2 _ _ _ _ rfl ?_
  refine AtD.nil ?_
  refine AtE.then_n (AtE.go ?_)
  refine AtC.seq ?_
  refine AtC.seqD hmix (by kernel_rfl) ?_
  refine AtD.pures hT 1 _ _ _ _ rfl ?_
  refine AtD.q rfl (Quiet1.loadP (i := 0) hT rfl rfl rfl rfl rfl rfl) ?_
  obtain ⟨a_4, hc8, H⟩ := H
  refine AtD.q rfl (Quiet1.nilChk rfl rfl hc8) ?_
  refine AtD.pures hT 1 _ _ _ _ rfl ?_
  obtain ⟨v_4, hc9, H⟩ := H
  refine AtD.q rfl (Quiet1.load hT rfl rfl rfl hc9) ?_
  refine AtD.pures hT 1 _ _ _ _ rfl ?_
  obtain ⟨a_5_, hc10, hd10, H⟩ := H
  refine AtD.q rfl (Quiet1.idxS (s := _) hT rfl rfl rfl rfl rfl hc10 hd10) ?_
  obtain ⟨v_5, hc11, H⟩ := H
  refine AtD.q rfl (Quiet1.load hT rfl rfl rfl hc11) ?_
  refine AtD.pures hT 1 _ _ _ _ rfl ?_
  refine AtD.q rfl (Quiet1.loadP (i := 0) hT rfl rfl rfl rfl rfl rfl) ?_
  obtain ⟨a_6, hc12, H⟩ := H
  refine AtD.q rfl (Quiet1.nilChk rfl rfl hc12) ?_
  refine AtD.pures hT 1 _ _ _ _ rfl ?_
  obtain ⟨v_6, hc13, H⟩ := H
  refine AtD.q rfl (Quiet1.load hT rfl rfl rfl hc13) ?_
  refine AtD.pures hT 1 _ _ _ _ rfl ?_
  obtain ⟨a_7_, hc14, hd14, H⟩ := H
  refine AtD.q rfl (Quiet1.idxS (s := _) hT rfl rfl rfl rfl rfl hc14 hd14) ?_
  obtain ⟨v_7, hc15, H⟩ := H
  refine AtD.q rfl (Quiet1.load hT rfl rfl rfl hc15) ?_
  refine AtD.pures hT 2 _ _ _ _ rfl ?_
  refine AtD.nil ?_
  refine AtE.then_n (AtE.go ?_)
  refine AtC.seqR ?_
  refine AtL.pures hT 3 _ _ _ _ rfl ?_
  refine AtL.nil ?_
  refine AtE.then_n (AtE.go ?_)
  refine AtC.condB H rfl (fun H => ?_) (fun H => ?_)
  ·
   refine AtC.seqR ?_
   refine AtL.pures hT 4 _ _ _ _ rfl ?_
   refine AtL.nil ?_
   refine AtE.then_n (AtE.go ?_)
   refine AtC.ret ?_
   refine AtE.then_r ?_
   exact AtE.retN (rs := [.tmp 6]) rfl (ResAll.cons (ResAt.tmp rfl) ResAll.nil) rfl H
  ·
   refine AtC.skip ?_
   refine AtE.then_n (AtE.go ?_)
   refine AtC.seqR ?_
   refine AtL.pures hT 4 _ _ _ _ rfl ?_
   refine AtL.nil ?_
   refine AtE.then_n (AtE.go ?_)
   refine AtC.ret ?_
   exact AtE.retN (rs := [.tmp 6]) rfl (ResAll.cons (ResAt.tmp rfl) ResAll.nil) rfl H

theorem lift_queue_ranks_Swap (r : (Option Addr)) (i : Int) (j : Int) (w : World) (m : Heap) (hr : Rel ⟨m, []⟩ w.heap) (S : Unit → Heap → Prop) (H : queue_ranks_Swap r i j m S) :
    Calls Try.prog 166 #[Value.agg (C_ptr r).toArray, Value.int .i64 i, Value.int .i64 j] w (Post ⟨w, m⟩ (fun _ => Value.tuple #[]) S) := by
  refine Calls.lift (args := [Value.agg (C_ptr r).toArray, Value.int .i64 i, Value.int .i64 j]) Try.func166 rfl Try.ntmps166 (Nat.le_of_ble_eq_true rfl) hr (queue_ranks_Swap r i j m S) H (fun H => ?_)
  refine AtC.pick (ts := [0, 1, 2]) rfl ?_
  unfold queue_ranks_Swap at H
  refine AtC.seqR ?_
  refine AtL.e rfl (EffX.boxP (cs := [_]) rfl rfl rfl H) ?_
  rintro _ _ ⟨b, _, rfl, rfl, _, H⟩
  refine AtL.nil ?_
  replace H := H.self
  refine AtE.then_n (AtE.go ?_)
  obtain ⟨a, hc0, H⟩ := H
  obtain ⟨v, hc1, H⟩ := H
  obtain ⟨a_1, hc2, H⟩ := H
  obtain ⟨v_1, hc3, H⟩ := H
  obtain ⟨a_2, hc4, H⟩ := H
  obtain ⟨v_2, hc5, H⟩ := H
  obtain ⟨a_3_, hc6, hd6, H⟩ := H
  obtain ⟨v_3, hc7, H⟩ := H
  obtain ⟨a_4, hc8, H⟩ := H
  obtain ⟨v_4, hc9, H⟩ := H
  obtain ⟨a_5_, hc10, hd10, H⟩ := H
  obtain ⟨v_5, hc11, H⟩ := H
  obtain ⟨a_6_, hc12, hd12, H⟩ := H
  apply AtC.stages [29, 31] [[], [], [], [], [], [], [], [], [], [], [], [], [], [], [], [], [], [], [], [], [], [], [], [], [], [], [], [], [], [], [29], [29]] [[], [0], [0, 1], [0, 1, 2], [0, 1, 2, 3], [], [], [6], [6, 7], [6, 7, 8], [6, 7, 8, 9], [], [], [12], [12, 13], [12, 13, 14], [12, 13, 14, 15], [], [12, 13, 14, 15, 16, 17], [12, 13, 14, 15, 16, 17, 18], [], [20], [20, 21], [20, 21, 22], [20, 21, 22, 23], [], [20, 21, 22, 23, 24, 25], [20, 21, 22, 23, 24, 25, 26], [0, 1, 2, 3, 4, 5, 6, 7, 8, 9, 10, 12, 13, 14, 15, 16, 17, 18, 19, 20, 21, 22, 23, 24, 25, 26, 27], [0, 1, 2, 3, 4, 5, 6, 7, 8, 9, 10, 12, 13, 14, 15, 16, 17, 18, 19, 20, 21, 22, 23, 24, 25, 26, 27, 28], [0, 1, 2, 3, 4, 5, 6, 7, 8, 9, 10, 11, 12, 13, 14, 15, 16, 17, 18, 19, 20, 21, 22, 23, 24, 25, 26, 27, 28, 29], [0, 1, 2, 3, 4, 5, 6, 7, 8, 9, 10, 11, 12, 13, 14, 15, 16, 17, 18, 19, 20, 21, 22, 23, 24, 25, 26, 27, 28, 29, 30]] hmix (by kernel_rfl) [(6, _), (7, _), (8, _), (9, _), (10, _), (11, _), (12, _), (13, _), (14, _), (15, _), (16, _), (17, _), (18, _), (19, _), (20, _), (21, _), (22, _), (23, _), (24, _), (25, _), (26, _), (27, _), (28, _), (29, _), (30, _), (31, _), (32, _), (33, _), (34, _)] rfl 2 rfl
  refine Stg.go [0, 1, 2, 3, 4, 5, 6, 7, 8, 9, 10, 11, 12, 13, 14, 15, 16, 17, 18, 19, 20, 21, 22, 23, 24, 25, 26, 27, 28] [29] rfl rfl (QAll.cons (QOp.p hT rfl rfl rfl rfl rfl) (QAll.cons (QOp.q rfl rfl (Quiet1.loadP (i := 0) hT rfl rfl rfl rfl rfl rfl) rfl rfl) (QAll.cons (QOp.q rfl rfl (Quiet1.nilChk rfl rfl hc0) rfl rfl) (QAll.cons (QOp.p hT rfl rfl rfl rfl rfl) (QAll.cons (QOp.q rfl rfl (Quiet1.load hT rfl rfl rfl hc1) rfl rfl) (QAll.cons (QOp.p hT rfl rfl rfl rfl rfl) (QAll.cons (QOp.p hT rfl rfl rfl rfl rfl) (QAll.cons (QOp.q rfl rfl (Quiet1.loadP (i := 0) hT rfl rfl rfl rfl rfl rfl) rfl rfl) (QAll.cons (QOp.q rfl rfl (Quiet1.nilChk rfl rfl hc2) rfl rfl) (QAll.cons (QOp.p hT rfl rfl rfl rfl rfl) (QAll.cons (QOp.q rfl rfl (Quiet1.load hT rfl rfl rfl hc3) rfl rfl) (QAll.cons (QOp.p hT rfl rfl rfl rfl rfl) (QAll.cons (QOp.p hT rfl rfl rfl rfl rfl) (QAll.cons (QOp.q rfl rfl (Quiet1.loadP (i := 0) hT rfl rfl rfl rfl rfl rfl) rfl rfl) (QAll.cons (QOp.q rfl rfl (Quiet1.nilChk rfl rfl hc4) rfl rfl) (QAll.cons (QOp.p hT rfl rfl rfl rfl rfl) (QAll.cons (QOp.q rfl rfl (Quiet1.load hT rfl rfl rfl hc5) rfl rfl) (QAll.cons (QOp.p hT rfl rfl rfl rfl rfl) (QAll.cons (QOp.q rfl rfl (Quiet1.idxS (s := _) hT rfl rfl rfl rfl rfl hc6 hd6) rfl rfl) (QAll.cons (QOp.q rfl rfl (Quiet1.load hT rfl rfl rfl hc7) rfl rfl) (QAll.cons (QOp.p hT rfl rfl rfl rfl rfl) (QAll.cons (QOp.q rfl rfl (Quiet1.loadP (i := 0) hT rfl rfl rfl rfl rfl rfl) rfl rfl) (QAll.cons (QOp.q rfl rfl (Quiet1.nilChk rfl rfl hc8) rfl rfl) (QAll.cons (QOp.p hT rfl rfl rfl rfl rfl) (QAll.cons (QOp.q rfl rfl (Quiet1.load hT rfl rfl rfl hc9) rfl rfl) (QAll.cons (QOp.p hT rfl rfl rfl rfl rfl) (QAll.cons (QOp.q rfl rfl (Quiet1.idxS (s := _) hT rfl rfl rfl rfl rfl hc10 hd10) rfl rfl) (QAll.cons (QOp.q rfl rfl (Quiet1.load hT rfl rfl rfl hc11) rfl rfl) (QAll.cons (QOp.q rfl rfl (Quiet1.idxS (s := _) hT rfl rfl rfl rfl rfl hc12 hd12) rfl rfl) QAll.nil))))))))))))))))))))))))))))) ?_
  refine EAll.cons ?_ EAll.nil
  refine EOp.e rfl rfl rfl (EffX.store hT rfl rfl rfl rfl rfl H) ?_
  rintro _ _ ⟨h0u1, rfl, H⟩
  obtain ⟨a_7_, hc13, hd13, H⟩ := H
  apply Stg.next [(35, _)] rfl rfl
  refine Stg.go [11, 30] [31] rfl rfl (QAll.cons (QOp.p hT rfl rfl rfl rfl rfl) (QAll.cons (QOp.q rfl rfl (Quiet1.idxS (s := _) hT rfl rfl rfl rfl rfl hc13 hd13) rfl rfl) QAll.nil)) ?_
  refine EAll.cons ?_ EAll.nil
  refine EOp.e rfl rfl rfl (EffX.store hT rfl rfl rfl rfl rfl H) ?_
  rintro _ _ ⟨h0u2, rfl, H⟩
  apply Stg.next [] rfl rfl
  refine Stg.fin [] rfl rfl QAll.nil ?_
  exact AtE.endN rfl rfl H

theorem lift_container_heap_down__t88 (h0 : (Option Addr)) (i0 : Int) (n : Int) (w : World) (m : Heap) (hr : Rel ⟨m, []⟩ w.heap) (S : Bool → Heap → Prop) (H : container_heap_down__t88 h0 i0 n m S) :
    Calls Try.prog 91 #[Value.iface 88 (Value.agg (C_ptr h0).toArray), Value.int .i64 i0, Value.int .i64 n] w (Post ⟨w, m⟩ Value.bool S) := by
  refine Calls.lift (args := [Value.iface 88 (Value.agg (C_ptr h0).toArray), Value.int .i64 i0, Value.int .i64 n]) Try.func91 rfl Try.ntmps91 (Nat.le_of_ble_eq_true rfl) hr (container_heap_down__t88 h0 i0 n m S) H (fun H => ?_)
  refine AtC.pick (ts := [0, 1, 2]) rfl ?_
  unfold container_heap_down__t88 at H
  refine AtC.seqR ?_
  refine AtL.pures hT 1 _ _ _ _ rfl ?_
  refine AtL.nil ?_
  refine AtE.then_n (AtE.go ?_)
  refine AtC.seqR ?_
  refine AtL.pures hT 2 _ _ _ _ rfl ?_
  refine AtL.nil ?_
  refine AtE.then_n (AtE.go ?_)
  refine AtC.joinSeq (β := Unit) (fun (t0 : Int) (bb : Unit) => [(7, Value.int .i64 t0)]) (fun (t0 : Int) (bb : Unit) => []) [1] [] H (by exact rfl) (by exact rfl) (fun t0 bb h0u1 H => ?_) (fun J1 H HK1 => ?_)
  ·
   refine AtC.seqR ?_
   refine AtL.pures hT 4 _ _ _ _ rfl ?_
   refine AtL.nil ?_
   refine AtE.then_n (AtE.go ?_)
   refine AtC.ret ?_
   exact AtE.retN (rs := [.tmp 6]) rfl (ResAll.cons (ResAt.tmp rfl) ResAll.nil) rfl H
  ·
   refine AtC.block ?_
   refine AtC.loopM (fun (s0 : Int) => [(7, Value.int .i64 s0)]) (fun (s0 : Int) => []) [0, 1, 2] [7, 0, 1, 2] [] [] H (by exact rfl) (by exact rfl) (by exact rfl) (by decide) (by exact rfl) (fun Kp2 s0 h0u2 H Q2 HK2 => ?_)
   refine AtC.block ?_
   refine AtC.seqR ?_
   refine AtL.pures hT 4 _ _ _ _ rfl ?_
   replace H := H _ rfl
   refine AtL.nil ?_
   refine AtE.then_n (AtE.go ?_)
   refine AtC.seq ?_
   refine AtC.joinSeq (β := Unit) (fun (t0u1 : Bool) (bb_1 : Unit) => [(21, Value.bool t0u1)]) (fun (t0u1 : Bool) (bb_1 : Unit) => []) [0, 1, 2, 7, 8] [] H (by exact rfl) (by exact rfl) (fun t0u1 bb_1 h0u3 H => ?_) (fun J3 H HK3 => ?_)
   ·
    refine AtC.condB H rfl (fun H => ?_) (fun H => ?_)
    ·
     refine AtC.exit ?_
     refine AtE.then_x ?_
     refine AtE.blk_miss rfl ?_
     refine AtE.then_x ?_
     refine AtE.blk_hit ?_
     exact AtE.then_n ((HK1 _ () _ H).pickP (ts := [7, 1]) (is := []) rfl rfl (by decide) rfl)
    ·
     refine AtC.skip ?_
     refine AtE.then_n (AtE.go ?_)
     refine AtC.seqR ?_
     refine AtL.pures hT 2 _ _ _ _ rfl ?_
     refine AtL.nil ?_
     refine AtE.then_n (AtE.go ?_)
     refine AtC.joinSeq (β := Unit) (fun (t0u2 : Int) (bb_2 : Unit) => [(9, Value.int .i64 t0u2)]) (fun (t0u2 : Int) (bb_2 : Unit) => []) [0, 1, 2, 7] [] H (by exact rfl) (by exact rfl) (fun t0u2 bb_2 h0u4 H => ?_) (fun J4 H HK4 => ?_)
     ·
      refine AtC.seq ?_
      refine AtC.seqR ?_
      refine AtL.pures hT 3 _ _ _ _ rfl ?_
      refine AtL.e rfl (EffX.invoke (f := 60) (sh := fun h => queue_ranks_Less _ _ _ h _) (H0 := H) hT rfl rfl (by kernel_rfl) rfl Try.call60 rfl (hl := fun w m hr hw => lift_queue_ranks_Less _ _ _ w m hr _ hw)) ?_
      rintro _ _ ⟨v_1, h0u7, rfl, rfl, H⟩
      refine AtL.pures hT 1 _ _ _ _ rfl ?_
      refine AtL.nil ?_
      refine AtE.then_n (AtE.go ?_)
      refine AtC.condB H rfl (fun H => ?_) (fun H => ?_)
      ·
       refine AtC.exit ?_
       refine AtE.then_x ?_
       refine AtE.blk_miss rfl ?_
       refine AtE.then_x ?_
       refine AtE.blk_hit ?_
       exact AtE.then_n ((HK1 _ () _ H).pickP (ts := [7, 1]) (is := []) rfl rfl (by decide) rfl)
      ·
       refine AtC.skip ?_
       refine AtE.then_n (AtE.go ?_)
       refine AtC.seqR ?_
       refine AtL.pures hT 3 _ _ _ _ rfl ?_
       refine AtL.e rfl (EffX.invoke (f := 166) (sh := fun h => queue_ranks_Swap _ _ _ h _) (H0 := H) hT rfl rfl (by kernel_rfl) rfl Try.call166 rfl (hl := fun w m hr hw => lift_queue_ranks_Swap _ _ _ w m hr _ hw)) ?_
       rintro _ _ ⟨v_2, h0u8, rfl, rfl, H⟩
       refine AtL.nil ?_
       refine AtE.then_n (AtE.go ?_)
       refine AtC.region ?_
       refine AtL.pures hT 2 _ _ _ _ rfl ?_
       refine AtL.nil ?_
       refine AtE.blk_n ?_
       exact AtE.then_n ((HK2 _ _ H).pickP (ts := [7, 0, 1, 2]) (is := []) rfl rfl (by decide) rfl)
     ·
      refine AtC.seqR ?_
      refine AtL.pures hT 3 _ _ _ _ rfl ?_
      replace H := H _ rfl
      refine AtL.nil ?_
      refine AtE.then_n (AtE.go ?_)
      refine AtC.joinSeq (β := Unit) (fun (t0u3 : Bool) (bb_3 : Unit) => [(33, Value.bool t0u3)]) (fun (t0u3 : Bool) (bb_3 : Unit) => []) [0, 1, 2, 7, 9, 10] [] H (by exact rfl) (by exact rfl) (fun t0u3 bb_3 h0u5 H => ?_) (fun J5 H HK5 => ?_)
      ·
       refine AtC.condB H rfl (fun H => ?_) (fun H => ?_)
       ·
        refine AtC.region ?_
        refine AtL.pures hT 2 _ _ _ _ rfl ?_
        refine AtL.nil ?_
        exact AtE.then_n ((HK4 _ () _ H).pickP (ts := [9, 0, 1, 2, 7]) (is := []) rfl rfl (by decide) rfl)
       ·
        refine AtC.skip ?_
        exact AtE.then_n ((HK4 _ () _ H).pickP (ts := [9, 0, 1, 2, 7]) (is := []) rfl rfl (by decide) rfl)
      ·
       refine AtC.region ?_
       refine AtL.pures hT 4 _ _ _ _ rfl ?_
       refine AtL.splitB (t := 28) H rfl (fun H => ?_) (fun H => ?_)
       ·
        refine AtL.yes rfl rfl rfl ?_
        refine AtL.pures hT 1 _ _ _ _ rfl ?_
        refine AtL.yes rfl rfl rfl ?_
        refine AtL.pures hT 1 _ _ _ _ rfl ?_
        refine AtL.yes rfl rfl rfl ?_
        refine AtL.pures hT 1 _ _ _ _ rfl ?_
        refine AtL.yes rfl rfl rfl ?_
        refine AtL.e rfl (EffX.invoke (f := 60) (sh := fun h => queue_ranks_Less _ _ _ h _) (H0 := H) hT rfl rfl (by kernel_rfl) rfl Try.call60 rfl (hl := fun w m hr hw => lift_queue_ranks_Less _ _ _ w m hr _ hw)) ?_
        rintro _ _ ⟨v, h0u6, rfl, rfl, H⟩
        refine AtL.pures hT 1 _ _ _ _ rfl ?_
        refine AtL.nil ?_
        exact AtE.then_n ((HK5 _ () _ H).pickP (ts := [33, 0, 1, 2, 7, 9, 10]) (is := []) rfl rfl (by decide) rfl)
       ·
        refine AtL.noF rfl rfl rfl (by decide) rfl ?_
        refine AtL.noF rfl rfl rfl (by decide) rfl ?_
        refine AtL.noF rfl rfl rfl (by decide) rfl ?_
        refine AtL.noF rfl rfl rfl (by decide) rfl ?_
        refine AtL.pures hT 1 _ _ _ _ rfl ?_
        refine AtL.nil ?_
        exact AtE.then_n ((HK5 _ () _ H).pickP (ts := [33, 0, 1, 2, 7, 9, 10]) (is := []) rfl rfl (by decide) rfl)
   ·
    refine AtC.region ?_
    refine AtL.pures hT 4 _ _ _ _ rfl ?_
    refine AtL.splitB (t := 18) H rfl (fun H => ?_) (fun H => ?_)
    ·
     refine AtL.noF rfl rfl rfl (by decide) rfl ?_
     refine AtL.noF rfl rfl rfl (by decide) rfl ?_
     refine AtL.pures hT 1 _ _ _ _ rfl ?_
     refine AtL.nil ?_
     exact AtE.then_n ((HK3 _ () _ H).pickP (ts := [21, 0, 1, 2, 7, 8]) (is := []) rfl rfl (by decide) rfl)
    ·
     refine AtL.yes rfl rfl rfl ?_
     refine AtL.pures hT 1 _ _ _ _ rfl ?_
     refine AtL.yes rfl rfl rfl ?_
     refine AtL.pures hT 1 _ _ _ _ rfl ?_
     refine AtL.pures hT 1 _ _ _ _ rfl ?_
     refine AtL.nil ?_
     exact AtE.then_n ((HK3 _ () _ H).pickP (ts := [21, 0, 1, 2, 7, 8]) (is := []) rfl rfl (by decide) rfl)

theorem lift_container_heap_up__t88 (h0 : (Option Addr)) (j : Int) (w : World) (m : Heap) (hr : Rel ⟨m, []⟩ w.heap) (S : Unit → Heap → Prop) (H : container_heap_up__t88 h0 j m S) :
    Calls Try.prog 92 #[Value.iface 88 (Value.agg (C_ptr h0).toArray), Value.int .i64 j] w (Post ⟨w, m⟩ (fun _ => Value.tuple #[]) S) := by
  refine Calls.lift (args := [Value.iface 88 (Value.agg (C_ptr h0).toArray), Value.int .i64 j]) Try.func92 rfl Try.ntmps92 (Nat.le_of_ble_eq_true rfl) hr (container_heap_up__t88 h0 j m S) H (fun H => ?_)
  refine AtC.pick (ts := [0, 1]) rfl ?_
  unfold container_heap_up__t88 at H
  refine AtC.block ?_
  refine AtC.loopM (fun (s0 : Int) => [(1, Value.int .i64 s0)]) (fun (s0 : Int) => []) [0] [1, 0] [] [] H (by exact rfl) (by exact rfl) (by exact rfl) (by decide) (by exact rfl) (fun Kp1 s0 h0u1 H Q1 HK1 => ?_)
  refine AtC.block ?_
  refine AtC.seqR ?_
  refine AtL.pures hT 4 _ _ _ _ rfl ?_
  replace H := H _ rfl
  refine AtL.nil ?_
  refine AtE.then_n (AtE.go ?_)
  refine AtC.seq ?_
  refine AtC.joinSeq (β := Unit) (fun (t0 : Bool) (bb : Unit) => [(17, Value.bool t0)]) (fun (t0 : Bool) (bb : Unit) => []) [0, 1, 4] [] H (by exact rfl) (by exact rfl) (fun t0 bb h0u2 H => ?_) (fun J2 H HK2 => ?_)
  ·
   refine AtC.condB H rfl (fun H => ?_) (fun H => ?_)
   ·
    refine AtC.exit ?_
    refine AtE.then_x ?_
    refine AtE.blk_miss rfl ?_
    refine AtE.then_x ?_
    refine AtE.blk_hit ?_
    exact AtE.endN rfl rfl H
   ·
    refine AtC.skip ?_
    refine AtE.then_n (AtE.go ?_)
    refine AtC.seqR ?_
    refine AtL.pures hT 3 _ _ _ _ rfl ?_
    refine AtL.e rfl (EffX.invoke (f := 166) (sh := fun h => queue_ranks_Swap _ _ _ h _) (H0 := H) hT rfl rfl (by kernel_rfl) rfl Try.call166 rfl (hl := fun w m hr hw => lift_queue_ranks_Swap _ _ _ w m hr _ hw)) ?_
    rintro _ _ ⟨v_1, h0u4, rfl, rfl, H⟩
    refine AtL.nil ?_
    refine AtE.then_n (AtE.go ?_)
    refine AtC.region ?_
    refine AtL.pures hT 2 _ _ _ _ rfl ?_
    refine AtL.nil ?_
    refine AtE.blk_n ?_
    exact AtE.then_n ((HK1 _ _ H).pickP (ts := [1, 0]) (is := []) rfl rfl (by decide) rfl)
  ·
   refine AtC.region ?_
   refine AtL.pures hT 4 _ _ _ _ rfl ?_
   refine AtL.splitB (t := 11) H rfl (fun H => ?_) (fun H => ?_)
   ·
    refine AtL.noF rfl rfl rfl (by decide) rfl ?_
    refine AtL.noF rfl rfl rfl (by decide) rfl ?_
    refine AtL.noF rfl rfl rfl (by decide) rfl ?_
    refine AtL.noF rfl rfl rfl (by decide) rfl ?_
    refine AtL.noF rfl rfl rfl (by decide) rfl ?_
    refine AtL.pures hT 1 _ _ _ _ rfl ?_
    refine AtL.nil ?_
    exact AtE.then_n ((HK2 _ () _ H).pickP (ts := [17, 0, 1, 4]) (is := []) rfl rfl (by decide) rfl)
   ·
    refine AtL.yes rfl rfl rfl ?_
    refine AtL.pures hT 1 _ _ _ _ rfl ?_
    refine AtL.yes rfl rfl rfl ?_
    refine AtL.pures hT 1 _ _ _ _ rfl ?_
    refine AtL.yes rfl rfl rfl ?_
    refine AtL.pures hT 1 _ _ _ _ rfl ?_
    refine AtL.yes rfl rfl rfl ?_
    refine AtL.e rfl (EffX.invoke (f := 60) (sh := fun h => queue_ranks_Less _ _ _ h _) (H0 := H) hT rfl rfl (by kernel_rfl) rfl Try.call60 rfl (hl := fun w m hr hw => lift_queue_ranks_Less _ _ _ w m hr _ hw)) ?_
    rintro _ _ ⟨v, h0u3, rfl, rfl, H⟩
    refine AtL.yes rfl rfl rfl ?_
    refine AtL.pures hT 1 _ _ _ _ rfl ?_
    refine AtL.pures hT 1 _ _ _ _ rfl ?_
    refine AtL.nil ?_
    exact AtE.then_n ((HK2 _ () _ H).pickP (ts := [17, 0, 1, 4]) (is := []) rfl rfl (by decide) rfl)

theorem lift_container_heap_Fix__t88 (h0 : (Option Addr)) (i : Int) (w : World) (m : Heap) (hr : Rel ⟨m, []⟩ w.heap) (S : Unit → Heap → Prop) (H : container_heap_Fix__t88 h0 i m S) :
    Calls Try.prog 48 #[Value.iface 88 (Value.agg (C_ptr h0).toArray), Value.int .i64 i] w (Post ⟨w, m⟩ (fun _ => Value.tuple #[]) S) := by
  refine Calls.lift (args := [Value.iface 88 (Value.agg (C_ptr h0).toArray), Value.int .i64 i]) Try.func48 rfl Try.ntmps48 (Nat.le_of_ble_eq_true rfl) hr (container_heap_Fix__t88 h0 i m S) H (fun H => ?_)
  refine AtC.pick (ts := [0, 1]) rfl ?_
  unfold container_heap_Fix__t88 at H
  refine AtC.seqR ?_
  refine AtL.pures hT 3 _ _ _ _ rfl ?_
  refine AtL.e rfl (EffX.invoke (f := 163) (sh := fun h => queue_ranks_Len _ h _) (H0 := H) hT rfl rfl (by kernel_rfl) rfl Try.call163 rfl (hl := fun w m hr hw => lift_queue_ranks_Len _ w m hr _ hw)) ?_
  rintro _ _ ⟨v, h0u1, rfl, rfl, H⟩
  refine AtL.e rfl (EffX.call (f := 91) (sh := fun h => container_heap_down__t88 _ _ _ h _) (H0 := H) rfl Try.call91 rfl (hl := fun w m hr hw => lift_container_heap_down__t88 _ _ _ w m hr _ hw)) ?_
  rintro _ _ ⟨v_1, h0u2, rfl, rfl, H⟩
  refine AtL.pures hT 1 _ _ _ _ rfl ?_
  refine AtL.nil ?_
  refine AtE.then_n (AtE.go ?_)
  refine AtC.condB H rfl (fun H => ?_) (fun H => ?_)
  ·
   refine AtC.region ?_
   refine AtL.pures hT 2 _ _ _ _ rfl ?_
   refine AtL.e rfl (EffX.call (f := 92) (sh := fun h => container_heap_up__t88 _ _ h _) (H0 := H) rfl Try.call92 rfl (hl := fun w m hr hw => lift_container_heap_up__t88 _ _ w m hr _ hw)) ?_
   rintro _ _ ⟨v_2, h0u3, rfl, rfl, H⟩
   refine AtL.nil ?_
   exact AtE.endN rfl rfl H
  ·
   refine AtC.skip ?_
   exact AtE.endN rfl rfl H

theorem lift_queue_Bump (q : (Option Addr)) (v : Int) (by0 : Int) (w : World) (m : Heap) (hr : Rel ⟨m, []⟩ w.heap) (S : Int → Heap → Prop) (H : queue_Bump q v by0 m S) :
    Calls Try.prog 12 #[Value.pointer q, Value.int .i64 v, Value.int .i64 by0] w (Post ⟨w, m⟩ (Value.int .i64) S) := by
  refine Calls.lift (args := [Value.pointer q, Value.int .i64 v, Value.int .i64 by0]) Try.func12 rfl Try.ntmps12 (Nat.le_of_ble_eq_true rfl) hr (queue_Bump q v by0 m S) H (fun H => ?_)
  refine AtC.pick (ts := [0, 1, 2]) rfl ?_
  unfold queue_Bump at H
  refine AtC.seqR ?_
  refine AtL.pures hT 1 _ _ _ _ rfl ?_
  refine AtL.nil ?_
  refine AtE.then_n (AtE.go ?_)
  refine AtC.seq ?_
  refine AtC.block ?_
  refine AtC.seqR ?_
  refine AtL.pures hT 2 _ _ _ _ rfl ?_
  refine AtL.e rfl (EffX.call (f := 46) (sh := fun h => queue_there _ _ h _) (H0 := H) rfl Try.call46 rfl (hl := fun w m hr hw => lift_queue_there _ _ w m hr _ hw)) ?_
  rintro _ _ ⟨v_1, h0, rfl, rfl, H⟩
  refine AtL.pures hT 2 _ _ _ _ rfl ?_
  refine AtL.nil ?_
  refine AtE.then_n (AtE.go ?_)
  refine AtC.condB H rfl (fun H => ?_) (fun H => ?_)
  ·
   refine AtC.seqR ?_
   refine AtL.pures hT 1 _ _ _ _ rfl ?_
   refine AtL.nil ?_
   refine AtE.then_n (AtE.go ?_)
   refine AtC.ret ?_
   refine AtE.blk_r ?_
   refine AtE.then_r ?_
   exact AtE.retN (rs := [.tmp 6]) rfl (ResAll.cons (ResAt.tmp rfl) ResAll.nil) rfl H
  ·
   refine AtC.seqR ?_
   refine AtL.pures hT 3 _ _ _ _ rfl ?_
   refine AtL.nil ?_
   refine AtE.then_n (AtE.go ?_)
   refine AtC.condB H rfl (fun H => ?_) (fun H => ?_)
   ·
    refine AtC.seqR ?_
    refine AtL.pures hT 1 _ _ _ _ rfl ?_
    refine AtL.nil ?_
    refine AtE.then_n (AtE.go ?_)
    refine AtC.ret ?_
    refine AtE.blk_r ?_
    refine AtE.then_r ?_
    exact AtE.retN (rs := [.tmp 6]) rfl (ResAll.cons (ResAt.tmp rfl) ResAll.nil) rfl H
   ·
    refine AtC.seqR ?_
    refine AtL.pures hT 2 _ _ _ _ rfl ?_
    obtain ⟨a, hc0, H⟩ := H
    refine AtL.q rfl (Quiet1.nilChk rfl rfl hc0) ?_
    refine AtL.pures hT 1 _ _ _ _ rfl ?_
    obtain ⟨v_2, hc1, H⟩ := H
    refine AtL.q rfl (Quiet1.load hT rfl rfl rfl hc1) ?_
    refine AtL.pures hT 1 _ _ _ _ rfl ?_
    obtain ⟨a_1_, hc2, hd2, H⟩ := H
    refine AtL.q rfl (Quiet1.idxS (s := _) hT rfl rfl rfl rfl rfl hc2 hd2) ?_
    obtain ⟨v_3, hc3, H⟩ := H
    refine AtL.q rfl (Quiet1.load hT rfl rfl rfl hc3) ?_
    refine AtL.pures hT 3 _ _ _ _ rfl ?_
    refine AtL.nil ?_
    refine AtE.then_n (AtE.go ?_)
    refine AtC.condB H rfl (fun H => ?_) (fun H => ?_)
    ·
     refine AtC.seqR ?_
     refine AtL.pures hT 1 _ _ _ _ rfl ?_
     refine AtL.nil ?_
     refine AtE.then_n (AtE.go ?_)
     refine AtC.ret ?_
     refine AtE.blk_r ?_
     refine AtE.then_r ?_
     exact AtE.retN (rs := [.tmp 6]) rfl (ResAll.cons (ResAt.tmp rfl) ResAll.nil) rfl H
    ·
     refine AtC.skip ?_
     refine AtE.blk_n ?_
     refine AtE.then_n (AtE.go ?_)
     refine AtC.seqR ?_
     refine AtL.pures hT 1 _ _ _ _ rfl ?_
     obtain ⟨a_2, hc4, H⟩ := H
     refine AtL.q rfl (Quiet1.nilChk rfl rfl hc4) ?_
     refine AtL.pures hT 1 _ _ _ _ rfl ?_
     obtain ⟨v_4, hc5, H⟩ := H
     refine AtL.q rfl (Quiet1.load hT rfl rfl rfl hc5) ?_
     refine AtL.pures hT 1 _ _ _ _ rfl ?_
     obtain ⟨a_3_, hc6, hd6, H⟩ := H
     refine AtL.q rfl (Quiet1.idxS (s := _) hT rfl rfl rfl rfl rfl hc6 hd6) ?_
     obtain ⟨v_5, hc7, H⟩ := H
     refine AtL.q rfl (Quiet1.load hT rfl rfl rfl hc7) ?_
     refine AtL.pures hT 2 _ _ _ _ rfl ?_
     obtain ⟨a_4_, hc8, hd8, H⟩ := H
     refine AtL.q rfl (Quiet1.idxS (s := _) hT rfl rfl rfl rfl rfl hc8 hd8) ?_
     refine AtL.e rfl (EffX.store hT rfl rfl rfl rfl rfl H) ?_
     rintro _ _ ⟨h0u1, rfl, H⟩
     refine AtL.nil ?_
     refine AtE.then_n (AtE.go ?_)
     refine AtC.joinSeq (β := Unit) (fun (t0 : Unit) (bb : Unit) => []) (fun (t0 : Unit) (bb : Unit) => []) [] [] H (by exact rfl) (by exact rfl) (fun t0 bb h0u2 H => ?_) (fun J10 H HK10 => ?_)
     ·
      refine AtC.seqR ?_
      refine AtL.pures hT 1 _ _ _ _ rfl ?_
      refine AtL.nil ?_
      refine AtE.then_n (AtE.go ?_)
      refine AtC.ret ?_
      exact AtE.retN (rs := [.tmp 6]) rfl (ResAll.cons (ResAt.tmp rfl) ResAll.nil) rfl H
     ·
      refine AtC.seqR ?_
      refine AtL.pures hT 1 _ _ _ _ rfl ?_
      obtain ⟨a_5, hc10, H⟩ := H
      refine AtL.q rfl (Quiet1.nilChk rfl rfl hc10) ?_
      refine AtL.pures hT 1 _ _ _ _ rfl ?_
      obtain ⟨v_6, hc11, H⟩ := H
      refine AtL.q rfl (Quiet1.load hT rfl rfl rfl hc11) ?_
      refine AtL.pures hT 1 _ _ _ _ rfl ?_
      refine AtL.e rfl (EffX.call (f := 47) (sh := fun h => slices_Index_int_int _ _ h _) (H0 := H) rfl Try.call47 rfl (hl := fun w m hr hw => lift_slices_Index_int_int _ _ w m hr _ hw)) ?_
      rintro _ _ ⟨v_7, h0u3, rfl, rfl, H⟩
      refine AtL.pures hT 1 _ _ _ _ rfl ?_
      refine AtL.nil ?_
      refine AtE.then_n (AtE.go ?_)
      refine AtC.seqR ?_
      refine AtL.pures hT 2 _ _ _ _ rfl ?_
      refine AtL.nil ?_
      refine AtE.then_n (AtE.go ?_)
      refine AtC.condB H rfl (fun H => ?_) (fun H => ?_)
      ·
       refine AtC.region ?_
       refine AtL.pures hT 1 _ _ _ _ rfl ?_
       refine AtL.q rfl (Quiet1.build (cs := [_]) hT rfl rfl rfl rfl rfl rfl) ?_
       refine AtL.q rfl (Quiet1.makeI hT rfl rfl (by intro m; nofun) rfl) ?_
       refine AtL.pures hT 1 _ _ _ _ rfl ?_
       refine AtL.e rfl (EffX.call (f := 48) (sh := fun h => container_heap_Fix__t88 _ _ h _) (H0 := H) rfl Try.call48 rfl (hl := fun w m hr hw => lift_container_heap_Fix__t88 _ _ w m hr _ hw)) ?_
       rintro _ _ ⟨v_8, h0u4, rfl, rfl, H⟩
       refine AtL.nil ?_
       exact AtE.then_n ((HK10 _ () _ H).pickP (ts := []) (is := []) rfl rfl (by decide) rfl)
      ·
       refine AtC.skip ?_
       exact AtE.then_n ((HK10 _ () _ H).pickP (ts := []) (is := []) rfl rfl (by decide) rfl)

theorem lift_queue_ranks_Pop (r : (Option Addr)) (w : World) (m : Heap) (hr : Rel ⟨m, []⟩ w.heap) (S : Int → Heap → Prop) (H : queue_ranks_Pop r m S) :
    Calls Try.prog 164 #[Value.agg (C_ptr r).toArray] w (Post ⟨w, m⟩ (fun r => Value.iface 3 ((Value.int .i64) r)) S) := by
  refine Calls.lift (args := [Value.agg (C_ptr r).toArray]) Try.func164 rfl Try.ntmps164 (Nat.le_of_ble_eq_true rfl) hr (queue_ranks_Pop r m S) H (fun H => ?_)
  refine AtC.pick (ts := [0]) rfl ?_
  unfold queue_ranks_Pop at H
  refine AtC.seqR ?_
  refine AtL.e rfl (EffX.boxP (cs := [_]) rfl rfl rfl H) ?_
  rintro _ _ ⟨b, _, rfl, rfl, _, H⟩
  replace H := H.self
  refine AtL.pures hT 1 _ _ _ _ rfl ?_
  refine AtL.nil ?_
  refine AtE.then_n (AtE.go ?_)
  refine AtC.seqR ?_
  refine AtL.pures hT 1 _ _ _ _ rfl ?_
  refine AtL.q rfl (Quiet1.loadP (i := 0) hT rfl rfl rfl rfl rfl rfl) ?_
  obtain ⟨a, hc0, H⟩ := H
  refine AtL.q rfl (Quiet1.nilChk rfl rfl hc0) ?_
  refine AtL.pures hT 1 _ _ _ _ rfl ?_
  obtain ⟨v, hc1, H⟩ := H
  refine AtL.q rfl (Quiet1.load hT rfl rfl rfl hc1) ?_
  refine AtL.pures hT 3 _ _ _ _ rfl ?_
  replace H := H _ rfl
  refine AtL.nil ?_
  refine AtE.then_n (AtE.go ?_)
  refine AtC.seqR ?_
  refine AtL.pures hT 1 _ _ _ _ rfl ?_
  refine AtL.q rfl (Quiet1.loadP (i := 0) hT rfl rfl rfl rfl rfl rfl) ?_
  obtain ⟨a_1, hc2, H⟩ := H
  refine AtL.q rfl (Quiet1.nilChk rfl rfl hc2) ?_
  refine AtL.pures hT 1 _ _ _ _ rfl ?_
  obtain ⟨v_1, hc3, H⟩ := H
  refine AtL.q rfl (Quiet1.load hT rfl rfl rfl hc3) ?_
  refine AtL.pures hT 1 _ _ _ _ rfl ?_
  obtain ⟨a_2_, hc4, hd4, H⟩ := H
  refine AtL.q rfl (Quiet1.idxS (s := _) hT rfl rfl rfl rfl rfl hc4 hd4) ?_
  obtain ⟨v_2, hc5, H⟩ := H
  refine AtL.q rfl (Quiet1.load hT rfl rfl rfl hc5) ?_
  refine AtL.pures hT 1 _ _ _ _ rfl ?_
  refine AtL.nil ?_
  refine AtE.then_n (AtE.go ?_)
  obtain ⟨a_3, hc6, H⟩ := H
  obtain ⟨v_3, hc7, H⟩ := H
  obtain ⟨v_4, hs8, H⟩ := sliceOf.out H
  obtain ⟨a_4, hc9, H⟩ := H
  apply AtC.seqS [11] [[], [], [], [], [], [], [], [], [], [], [], []] [[], [0], [], [2], [2, 3], [2, 3, 4], [2, 3, 4, 5], [], [2, 3, 4, 5, 6, 7], [0, 1, 2, 3, 4, 5, 6, 7, 8], [0, 1, 2, 3, 4, 5, 6, 7, 8, 9], [0, 1, 2, 3, 4, 5, 6, 7, 8, 9, 10]] hmix (by kernel_rfl) [(20, _), (21, _), (22, _), (23, _), (24, _), (25, _), (26, _), (27, _), (28, _), (29, _), (30, _)] rfl 1 rfl
  refine Stg.go [0, 1, 2, 3, 4, 5, 6, 7, 8, 9, 10] [11] rfl rfl (QAll.cons (QOp.p hT rfl rfl rfl rfl rfl) (QAll.cons (QOp.q rfl rfl (Quiet1.loadP (i := 0) hT rfl rfl rfl rfl rfl rfl) rfl rfl) (QAll.cons (QOp.p hT rfl rfl rfl rfl rfl) (QAll.cons (QOp.q rfl rfl (Quiet1.loadP (i := 0) hT rfl rfl rfl rfl rfl rfl) rfl rfl) (QAll.cons (QOp.q rfl rfl (Quiet1.nilChk rfl rfl hc6) rfl rfl) (QAll.cons (QOp.p hT rfl rfl rfl rfl rfl) (QAll.cons (QOp.q rfl rfl (Quiet1.load hT rfl rfl rfl hc7) rfl rfl) (QAll.cons (QOp.p hT rfl rfl rfl rfl rfl) (QAll.cons (QOp.q rfl rfl (Quiet1.sliceIs hT rfl rfl rfl rfl rfl rfl rfl (fun h => by cases h <;> rfl) hs8) rfl rfl) (QAll.cons (QOp.q rfl rfl (Quiet1.nilChk rfl rfl hc9) rfl rfl) (QAll.cons (QOp.p hT rfl rfl rfl rfl rfl) QAll.nil))))))))))) ?_
  refine EAll.cons ?_ EAll.nil
  refine EOp.e rfl rfl rfl (EffX.store hT rfl rfl rfl rfl rfl H) ?_
  rintro _ _ ⟨h0u1, rfl, H⟩
  apply Stg.next [] rfl rfl
  refine Stg.fin [] rfl rfl QAll.nil ?_
  refine AtE.then_n (AtE.go ?_)
  refine AtC.seqR ?_
  refine AtL.pures hT 1 _ _ _ _ rfl ?_
  refine AtL.q rfl (Quiet1.makeI hT rfl rfl (by intro m; nofun) rfl) ?_
  refine AtL.pures hT 1 _ _ _ _ rfl ?_
  refine AtL.nil ?_
  refine AtE.then_n (AtE.go ?_)
  refine AtC.ret ?_
  exact AtE.retN (rs := [.tmp 2]) rfl (ResAll.cons (ResAt.tmp rfl) ResAll.nil) rfl H

theorem lift_container_heap_Pop__t88 (h0 : (Option Addr)) (w : World) (m : Heap) (hr : Rel ⟨m, []⟩ w.heap) (S : Int → Heap → Prop) (H : container_heap_Pop__t88 h0 m S) :
    Calls Try.prog 49 #[Value.iface 88 (Value.agg (C_ptr h0).toArray)] w (Post ⟨w, m⟩ (fun r => Value.iface 3 ((Value.int .i64) r)) S) := by
  refine Calls.lift (args := [Value.iface 88 (Value.agg (C_ptr h0).toArray)]) Try.func49 rfl Try.ntmps49 (Nat.le_of_ble_eq_true rfl) hr (container_heap_Pop__t88 h0 m S) H (fun H => ?_)
  refine AtC.pick (ts := [0]) rfl ?_
  unfold container_heap_Pop__t88 at H
  refine AtC.seqR ?_
  refine AtL.pures hT 1 _ _ _ _ rfl ?_
  refine AtL.nil ?_
  refine AtE.then_n (AtE.go ?_)
  refine AtC.seqR ?_
  refine AtL.pures hT 1 _ _ _ _ rfl ?_
  refine AtL.e rfl (EffX.invoke (f := 163) (sh := fun h => queue_ranks_Len _ h _) (H0 := H) hT rfl rfl (by kernel_rfl) rfl Try.call163 rfl (hl := fun w m hr hw => lift_queue_ranks_Len _ w m hr _ hw)) ?_
  rintro _ _ ⟨v, h0u1, rfl, rfl, H⟩
  refine AtL.pures hT 2 _ _ _ _ rfl ?_
  replace H := H _ rfl
  refine AtL.nil ?_
  refine AtE.then_n (AtE.go ?_)
  refine AtC.seqR ?_
  refine AtL.pures hT 2 _ _ _ _ rfl ?_
  refine AtL.e rfl (EffX.invoke (f := 166) (sh := fun h => queue_ranks_Swap _ _ _ h _) (H0 := H) hT rfl rfl (by kernel_rfl) rfl Try.call166 rfl (hl := fun w m hr hw => lift_queue_ranks_Swap _ _ _ w m hr _ hw)) ?_
  rintro _ _ ⟨v_1, h0u2, rfl, rfl, H⟩
  refine AtL.nil ?_
  refine AtE.then_n (AtE.go ?_)
  refine AtC.seqR ?_
  refine AtL.pures hT 2 _ _ _ _ rfl ?_
  refine AtL.e rfl (EffX.call (f := 91) (sh := fun h => container_heap_down__t88 _ _ _ h _) (H0 := H) rfl Try.call91 rfl (hl := fun w m hr hw => lift_container_heap_down__t88 _ _ _ w m hr _ hw)) ?_
  rintro _ _ ⟨v_2, h0u3, rfl, rfl, H⟩
  refine AtL.nil ?_
  refine AtE.then_n (AtE.go ?_)
  refine AtC.seqR ?_
  refine AtL.pures hT 1 _ _ _ _ rfl ?_
  refine AtL.e rfl (EffX.invoke (f := 164) (sh := fun h => queue_ranks_Pop _ h _) (H0 := H) hT rfl rfl (by kernel_rfl) rfl Try.call164 rfl (hl := fun w m hr hw => lift_queue_ranks_Pop _ w m hr _ hw)) ?_
  rintro _ _ ⟨v_3, h0u4, rfl, rfl, H⟩
  refine AtL.pures hT 1 _ _ _ _ rfl ?_
  refine AtL.nil ?_
  refine AtE.then_n (AtE.go ?_)
  refine AtC.ret ?_
  exact AtE.retN (rs := [.tmp 2]) rfl (ResAll.cons (ResAt.tmp rfl) ResAll.nil) rfl H

theorem lift_queue_Pop (q : (Option Addr)) (w : World) (m : Heap) (hr : Rel ⟨m, []⟩ w.heap) (S : (Int × Bool) → Heap → Prop) (H : queue_Pop q m S) :
    Calls Try.prog 13 #[Value.pointer q] w (Post ⟨w, m⟩ (fun r => Value.tuple #[(Value.int .i64) r.1, Value.bool r.2]) S) := by
  refine Calls.lift (args := [Value.pointer q]) Try.func13 rfl Try.ntmps13 (Nat.le_of_ble_eq_true rfl) hr (queue_Pop q m S) H (fun H => ?_)
  refine AtC.pick (ts := [0]) rfl ?_
  unfold queue_Pop at H
  refine AtC.seqR ?_
  refine AtL.pures hT 2 _ _ _ _ rfl ?_
  refine AtL.nil ?_
  refine AtE.then_n (AtE.go ?_)
  refine AtC.seq ?_
  refine AtC.seqR ?_
  refine AtL.pures hT 1 _ _ _ _ rfl ?_
  obtain ⟨a, hc0, H⟩ := H
  refine AtL.q rfl (Quiet1.nilChk rfl rfl hc0) ?_
  refine AtL.pures hT 1 _ _ _ _ rfl ?_
  obtain ⟨v, hc1, H⟩ := H
  refine AtL.q rfl (Quiet1.load hT rfl rfl rfl hc1) ?_
  refine AtL.pures hT 2 _ _ _ _ rfl ?_
  refine AtL.nil ?_
  refine AtE.then_n (AtE.go ?_)
  refine AtC.condB H rfl (fun H => ?_) (fun H => ?_)
  ·
   refine AtC.seqR ?_
   refine AtL.pures hT 2 _ _ _ _ rfl ?_
   refine AtL.nil ?_
   refine AtE.then_n (AtE.go ?_)
   refine AtC.ret ?_
   refine AtE.then_r ?_
   exact AtE.retN (rs := [.tmp 2, .tmp 3]) rfl (ResAll.cons (ResAt.tmp rfl) (ResAll.cons (ResAt.tmp rfl) ResAll.nil)) rfl H
  ·
   refine AtC.skip ?_
   refine AtE.then_n (AtE.go ?_)
   refine AtC.seqR ?_
   refine AtL.pures hT 1 _ _ _ _ rfl ?_
   refine AtL.q rfl (Quiet1.build (cs := [_]) hT rfl rfl rfl rfl rfl rfl) ?_
   refine AtL.q rfl (Quiet1.makeI hT rfl rfl (by intro m; nofun) rfl) ?_
   refine AtL.e rfl (EffX.call (f := 49) (sh := fun h => container_heap_Pop__t88 _ h _) (H0 := H) rfl Try.call49 rfl (hl := fun w m hr hw => lift_container_heap_Pop__t88 _ w m hr _ hw)) ?_
   rintro _ _ ⟨v_1, h0, rfl, rfl, H⟩
   refine AtL.q rfl (Quiet1.assertI hT rfl rfl (by intro m; nofun) rfl) ?_
   refine AtL.pures hT 2 _ _ _ _ rfl ?_
   refine AtL.nil ?_
   refine AtE.then_n (AtE.go ?_)
   refine AtC.ret ?_
   exact AtE.retN (rs := [.tmp 2, .tmp 3]) rfl (ResAll.cons (ResAt.tmp rfl) (ResAll.cons (ResAt.tmp rfl) ResAll.nil)) rfl H

theorem lift_slices_Contains_int_int (s0 : Sl) (v : Int) (w : World) (m : Heap) (hr : Rel ⟨m, []⟩ w.heap) (S : Bool → Heap → Prop) (H : slices_Contains_int_int s0 v m S) :
    Calls Try.prog 63 #[Sl.toV s0, Value.int .i64 v] w (Post ⟨w, m⟩ Value.bool S) := by
  refine Calls.lift (args := [Sl.toV s0, Value.int .i64 v]) Try.func63 rfl Try.ntmps63 (Nat.le_of_ble_eq_true rfl) hr (slices_Contains_int_int s0 v m S) H (fun H => ?_)
  refine AtC.pick (ts := [0, 1]) rfl ?_
  unfold slices_Contains_int_int at H
  refine AtC.seqR ?_
  refine AtL.pures hT 1 _ _ _ _ rfl ?_
  refine AtL.nil ?_
  refine AtE.then_n (AtE.go ?_)
  refine AtC.seqR ?_
  refine AtL.pures hT 2 _ _ _ _ rfl ?_
  refine AtL.e rfl (EffX.call (f := 47) (sh := fun h => slices_Index_int_int _ _ h _) (H0 := H) rfl Try.call47 rfl (hl := fun w m hr hw => lift_slices_Index_int_int _ _ w m hr _ hw)) ?_
  rintro _ _ ⟨v_1, h0, rfl, rfl, H⟩
  refine AtL.pures hT 2 _ _ _ _ rfl ?_
  refine AtL.nil ?_
  refine AtE.then_n (AtE.go ?_)
  refine AtC.ret ?_
  exact AtE.retN (rs := [.tmp 4]) rfl (ResAll.cons (ResAt.tmp rfl) ResAll.nil) rfl H

theorem lift_queue_Has (q : Sl × Sl) (v : Int) (w : World) (m : Heap) (hr : Rel ⟨m, []⟩ w.heap) (S : Bool → Heap → Prop) (H : queue_Has q v m S) :
    Calls Try.prog 28 #[Value.agg (C_sl_sl q).toArray, Value.int .i64 v] w (Post ⟨w, m⟩ Value.bool S) := by
  refine Calls.lift (args := [Value.agg (C_sl_sl q).toArray, Value.int .i64 v]) Try.func28 rfl Try.ntmps28 (Nat.le_of_ble_eq_true rfl) hr (queue_Has q v m S) H (fun H => ?_)
  refine AtC.pick (ts := [0, 1]) rfl ?_
  unfold queue_Has at H
  refine AtC.seqR ?_
  refine AtL.e rfl (EffX.boxP (cs := [_, _]) rfl rfl rfl H) ?_
  rintro _ _ ⟨b, _, rfl, rfl, _, H⟩
  replace H := H.self
  refine AtL.pures hT 1 _ _ _ _ rfl ?_
  refine AtL.nil ?_
  refine AtE.then_n (AtE.go ?_)
  refine AtC.seqR ?_
  refine AtL.pures hT 1 _ _ _ _ rfl ?_
  refine AtL.q rfl (Quiet1.loadP (i := 0) hT rfl rfl rfl rfl rfl rfl) ?_
  refine AtL.pures hT 1 _ _ _ _ rfl ?_
  refine AtL.e rfl (EffX.call (f := 63) (sh := fun h => slices_Contains_int_int _ _ h _) (H0 := H) rfl Try.call63 rfl (hl := fun w m hr hw => lift_slices_Contains_int_int _ _ w m hr _ hw)) ?_
  rintro _ _ ⟨v_1, h0u1, rfl, rfl, H⟩
  refine AtL.pures hT 1 _ _ _ _ rfl ?_
  refine AtL.nil ?_
  refine AtE.then_n (AtE.go ?_)
  refine AtC.ret ?_
  exact AtE.retN (rs := [.tmp 4]) rfl (ResAll.cons (ResAt.tmp rfl) ResAll.nil) rfl H

theorem lift_law17uspeaks (w : World) (m : Heap) (hr : Rel ⟨m, []⟩ w.heap) (S : Bool → Heap → Prop) (H : law17uspeaks m S) :
    Calls Try.prog 10 #[] w (Post ⟨w, m⟩ Value.bool S) := by
  refine Calls.lift (args := []) Try.func10 rfl Try.ntmps10 (Nat.le_of_ble_eq_true rfl) hr (law17uspeaks m S) H (fun H => ?_)
  refine AtC.pick (ts := []) rfl ?_
  unfold law17uspeaks at H
  refine AtC.seqR ?_
  refine AtL.pures hT 1 _ _ _ _ rfl ?_
  refine AtL.nil ?_
  refine AtE.then_n (AtE.go ?_)
  refine AtC.seqR ?_
  refine AtL.e rfl (EffX.call (f := 11) (sh := fun h => queue_New _ h _) (H0 := H) rfl Try.call11 rfl (hl := fun w m hr hw => lift_queue_New _ w m hr _ hw)) ?_
  rintro _ _ ⟨v, h0, rfl, rfl, H⟩
  refine AtL.e rfl (EffX.alloc hT rfl rfl H) ?_
  rintro _ _ ⟨q, h0u1, rfl, rfl, H⟩
  refine AtL.e rfl (EffX.storeS hT rfl rfl rfl rfl rfl rfl H) ?_
  rintro _ _ ⟨h0u2, rfl, H⟩
  refine AtL.nil ?_
  refine AtE.then_n (AtE.go ?_)
  refine AtC.seqR ?_
  refine AtL.e rfl (EffX.call (f := 12) (sh := fun h => queue_Bump _ _ _ h _) (H0 := H) rfl Try.call12 rfl (hl := fun w m hr hw => lift_queue_Bump _ _ _ w m hr _ hw)) ?_
  rintro _ _ ⟨v_1, h0u3, rfl, rfl, H⟩
  refine AtL.pures hT 1 _ _ _ _ rfl ?_
  refine AtL.nil ?_
  refine AtE.then_n (AtE.go ?_)
  refine AtC.seqR ?_
  refine AtL.e rfl (EffX.call (f := 13) (sh := fun h => queue_Pop _ h _) (H0 := H) rfl Try.call13 rfl (hl := fun w m hr hw => lift_queue_Pop _ w m hr _ hw)) ?_
  rintro _ _ ⟨v_2, h0u4, rfl, rfl, H⟩
  refine AtL.pures hT 5 _ _ _ _ rfl ?_
  refine AtL.nil ?_
  refine AtE.then_n (AtE.go ?_)
  refine AtC.joinSeq (β := Unit) (fun (t0 : Bool) (bb : Unit) => [(0, Value.bool t0)]) (fun (t0 : Bool) (bb : Unit) => []) [] [] H (by exact rfl) (by exact rfl) (fun t0 bb h0u5 H => ?_) (fun J1 H HK1 => ?_)
  ·
   refine AtC.ret ?_
   exact AtE.retN (rs := [.tmp 0]) rfl (ResAll.cons (ResAt.tmp rfl) ResAll.nil) rfl H
  ·
   refine AtC.region ?_
   refine AtL.pures hT 3 _ _ _ _ rfl ?_
   refine AtL.splitB (t := 13) H rfl (fun H => ?_) (fun H => ?_)
   ·
    refine AtL.yes rfl rfl rfl ?_
    refine AtL.pures hT 1 _ _ _ _ rfl ?_
    refine AtL.pures hT 2 _ _ _ _ rfl ?_
    refine AtL.splitB (t := 16) H rfl (fun H => ?_) (fun H => ?_)
    ·
     refine AtL.yes rfl rfl rfl ?_
     refine AtL.pures hT 1 _ _ _ _ rfl ?_
     refine AtL.yes rfl rfl rfl ?_
     refine AtL.pures hT 1 _ _ _ _ rfl ?_
     refine AtL.pures hT 2 _ _ _ _ rfl ?_
     refine AtL.splitB (t := 20) H rfl (fun H => ?_) (fun H => ?_)
     ·
      refine AtL.yes rfl rfl rfl ?_
      obtain ⟨v_3, hc1, H⟩ := H
      refine AtL.q rfl (Quiet1.loadS hT rfl rfl rfl rfl hc1) ?_
      refine AtL.yes rfl rfl rfl ?_
      refine AtL.e rfl (EffX.call (f := 28) (sh := fun h => queue_Has _ _ h _) (H0 := H) rfl Try.call28 rfl (hl := fun w m hr hw => lift_queue_Has _ _ w m hr _ hw)) ?_
      rintro _ _ ⟨v_4, h0u6, rfl, rfl, H⟩
      refine AtL.yes rfl rfl rfl ?_
      refine AtL.pures hT 1 _ _ _ _ rfl ?_
      refine AtL.pures hT 2 _ _ _ _ rfl ?_
      refine AtL.splitB (t := 25) H rfl (fun H => ?_) (fun H => ?_)
      ·
       refine AtL.yes rfl rfl rfl ?_
       obtain ⟨v_5, hc2, H⟩ := H
       refine AtL.q rfl (Quiet1.loadS hT rfl rfl rfl rfl hc2) ?_
       refine AtL.yes rfl rfl rfl ?_
       refine AtL.e rfl (EffX.call (f := 28) (sh := fun h => queue_Has _ _ h _) (H0 := H) rfl Try.call28 rfl (hl := fun w m hr hw => lift_queue_Has _ _ w m hr _ hw)) ?_
       rintro _ _ ⟨v_6, h0u7, rfl, rfl, H⟩
       refine AtL.pures hT 2 _ _ _ _ rfl ?_
       refine AtL.nil ?_
       exact AtE.then_n ((HK1 _ () _ H).pickP (ts := [0]) (is := []) rfl rfl (by decide) rfl)
      ·
       refine AtL.noF rfl rfl rfl (by decide) rfl ?_
       refine AtL.noF rfl rfl rfl (by decide) rfl ?_
       refine AtL.pures hT 2 _ _ _ _ rfl ?_
       refine AtL.nil ?_
       exact AtE.then_n ((HK1 _ () _ H).pickP (ts := [0]) (is := []) rfl rfl (by decide) rfl)
     ·
      refine AtL.noF rfl rfl rfl (by decide) rfl ?_
      refine AtL.noF rfl rfl rfl (by decide) rfl ?_
      refine AtL.noF rfl rfl rfl (by decide) rfl ?_
      refine AtL.pures hT 2 _ _ _ _ rfl ?_
      refine AtL.noF rfl rfl rfl (by decide) rfl ?_
      refine AtL.noF rfl rfl rfl (by decide) rfl ?_
      refine AtL.pures hT 2 _ _ _ _ rfl ?_
      refine AtL.nil ?_
      exact AtE.then_n ((HK1 _ () _ H).pickP (ts := [0]) (is := []) rfl rfl (by decide) rfl)
    ·
     refine AtL.noF rfl rfl rfl (by decide) rfl ?_
     refine AtL.noF rfl rfl rfl (by decide) rfl ?_
     refine AtL.pures hT 2 _ _ _ _ rfl ?_
     refine AtL.noF rfl rfl rfl (by decide) rfl ?_
     refine AtL.noF rfl rfl rfl (by decide) rfl ?_
     refine AtL.noF rfl rfl rfl (by decide) rfl ?_
     refine AtL.pures hT 2 _ _ _ _ rfl ?_
     refine AtL.noF rfl rfl rfl (by decide) rfl ?_
     refine AtL.noF rfl rfl rfl (by decide) rfl ?_
     refine AtL.pures hT 2 _ _ _ _ rfl ?_
     refine AtL.nil ?_
     exact AtE.then_n ((HK1 _ () _ H).pickP (ts := [0]) (is := []) rfl rfl (by decide) rfl)
   ·
    refine AtL.noF rfl rfl rfl (by decide) rfl ?_
    refine AtL.pures hT 2 _ _ _ _ rfl ?_
    refine AtL.noF rfl rfl rfl (by decide) rfl ?_
    refine AtL.noF rfl rfl rfl (by decide) rfl ?_
    refine AtL.pures hT 2 _ _ _ _ rfl ?_
    refine AtL.noF rfl rfl rfl (by decide) rfl ?_
    refine AtL.noF rfl rfl rfl (by decide) rfl ?_
    refine AtL.noF rfl rfl rfl (by decide) rfl ?_
    refine AtL.pures hT 2 _ _ _ _ rfl ?_
    refine AtL.noF rfl rfl rfl (by decide) rfl ?_
    refine AtL.noF rfl rfl rfl (by decide) rfl ?_
    refine AtL.pures hT 2 _ _ _ _ rfl ?_
    refine AtL.nil ?_
    exact AtE.then_n ((HK1 _ () _ H).pickP (ts := [0]) (is := []) rfl rfl (by decide) rfl)

theorem lift_law17uQueueSorts (scores : Sl) (w : World) (m : Heap) (hr : Rel ⟨m, []⟩ w.heap) (S : Bool → Heap → Prop) (H : law17uQueueSorts scores m S) :
    Calls Try.prog 3 #[Sl.toV scores] w (Post ⟨w, m⟩ Value.bool S) := by
  refine Calls.lift (args := [Sl.toV scores]) Try.func3 rfl Try.ntmps3 (Nat.le_of_ble_eq_true rfl) hr (law17uQueueSorts scores m S) H (fun H => ?_)
  refine AtC.pick (ts := [0]) rfl ?_
  unfold law17uQueueSorts at H
  refine AtC.seqR ?_
  refine AtL.pures hT 1 _ _ _ _ rfl ?_
  refine AtL.nil ?_
  refine AtE.then_n (AtE.go ?_)
  refine AtC.seq ?_
  refine AtC.seqR ?_
  refine AtL.e rfl (EffX.call (f := 10) (sh := fun h => law17uspeaks h _) (H0 := H) rfl Try.call10 rfl (hl := fun w m hr hw => lift_law17uspeaks  w m hr _ hw)) ?_
  rintro _ _ ⟨v, h0, rfl, rfl, H⟩
  refine AtL.pures hT 1 _ _ _ _ rfl ?_
  refine AtL.nil ?_
  refine AtE.then_n (AtE.go ?_)
  refine AtC.condB H rfl (fun H => ?_) (fun H => ?_)
  ·
   refine AtC.seqR ?_
   refine AtL.pures hT 1 _ _ _ _ rfl ?_
   refine AtL.nil ?_
   refine AtE.then_n (AtE.go ?_)
   refine AtC.ret ?_
   refine AtE.then_r ?_
   exact AtE.retN (rs := [.tmp 2]) rfl (ResAll.cons (ResAt.tmp rfl) ResAll.nil) rfl H
  ·
   refine AtC.skip ?_
   refine AtE.then_n (AtE.go ?_)
   refine AtC.seq ?_
   refine AtC.seqR ?_
   refine AtL.pures hT 3 _ _ _ _ rfl ?_
   refine AtL.nil ?_
   refine AtE.then_n (AtE.go ?_)
   refine AtC.condB H rfl (fun H => ?_) (fun H => ?_)
   ·
    refine AtC.seqR ?_
    refine AtL.pures hT 1 _ _ _ _ rfl ?_
    refine AtL.nil ?_
    refine AtE.then_n (AtE.go ?_)
    refine AtC.ret ?_
    refine AtE.then_r ?_
    exact AtE.retN (rs := [.tmp 2]) rfl (ResAll.cons (ResAt.tmp rfl) ResAll.nil) rfl H
   ·
    refine AtC.skip ?_
    refine AtE.then_n (AtE.go ?_)
    refine AtC.seqR ?_
    refine AtL.pures hT 2 _ _ _ _ rfl ?_
    refine AtL.e rfl (EffX.call (f := 11) (sh := fun h => queue_New _ h _) (H0 := H) rfl Try.call11 rfl (hl := fun w m hr hw => lift_queue_New _ w m hr _ hw)) ?_
    rintro _ _ ⟨v_1, h0u1, rfl, rfl, H⟩
    refine AtL.e rfl (EffX.alloc hT rfl rfl H) ?_
    rintro _ _ ⟨q, h0u2, rfl, rfl, H⟩
    refine AtL.e rfl (EffX.storeS hT rfl rfl rfl rfl rfl rfl H) ?_
    rintro _ _ ⟨h0u3, rfl, H⟩
    refine AtL.nil ?_
    refine AtE.then_n (AtE.go ?_)
    refine AtC.seq ?_
    refine AtC.seqR ?_
    refine AtL.pures hT 3 _ _ _ _ rfl ?_
    refine AtL.nil ?_
    refine AtE.then_n (AtE.go ?_)
    refine AtC.block ?_
    refine AtC.loopM (fun (s0 : Int) => [(21, Value.int .i64 s0)]) (fun (s0 : Int) => []) [0, 3, 19, 20] [21, 0, 3, 19, 20] [] [] H (by exact rfl) (by exact rfl) (by exact rfl) (by decide) (by exact rfl) (fun Kp1 s0 h0u4 H Q1 HK1 => ?_)
    refine AtC.seqR ?_
    refine AtL.pures hT 1 _ _ _ _ rfl ?_
    refine AtL.nil ?_
    refine AtE.then_n (AtE.go ?_)
    refine AtC.seq ?_
    refine AtC.condB H rfl (fun H => ?_) (fun H => ?_)
    ·
     refine AtC.skip ?_
     refine AtE.then_n (AtE.go ?_)
     refine AtC.seq ?_
     refine AtC.block ?_
     refine AtC.seqR ?_
     refine AtL.pures hT 1 _ _ _ _ rfl ?_
     obtain ⟨a_, hc1, hd1, H⟩ := H
     refine AtL.q rfl (Quiet1.idxS (s := _) hT rfl rfl rfl rfl rfl hc1 hd1) ?_
     obtain ⟨v_2, hc2, H⟩ := H
     refine AtL.q rfl (Quiet1.load hT rfl rfl rfl hc2) ?_
     refine AtL.pures hT 2 _ _ _ _ rfl ?_
     refine AtL.nil ?_
     refine AtE.then_n (AtE.go ?_)
     refine AtC.seqR ?_
     refine AtL.pures hT 3 _ _ _ _ rfl ?_
     refine AtL.e rfl (EffX.call (f := 12) (sh := fun h => queue_Bump _ _ _ h _) (H0 := H) rfl Try.call12 rfl (hl := fun w m hr hw => lift_queue_Bump _ _ _ w m hr _ hw)) ?_
     rintro _ _ ⟨v_3, h0u5, rfl, rfl, H⟩
     refine AtL.pures hT 1 _ _ _ _ rfl ?_
     refine AtL.nil ?_
     refine AtE.then_n (AtE.go ?_)
     refine AtC.condB H rfl (fun H => ?_) (fun H => ?_)
     ·
      refine AtC.seqR ?_
      refine AtL.pures hT 1 _ _ _ _ rfl ?_
      refine AtL.nil ?_
      refine AtE.then_n (AtE.go ?_)
      refine AtC.ret ?_
      refine AtE.blk_r ?_
      refine AtE.then_r ?_
      refine AtE.then_r ?_
      refine AtE.blk_r ?_
      refine AtE.then_r ?_
      exact AtE.retN (rs := [.tmp 2]) rfl (ResAll.cons (ResAt.tmp rfl) ResAll.nil) rfl H
     ·
      refine AtC.skip ?_
      refine AtE.blk_n ?_
      refine AtE.then_n (AtE.go ?_)
      refine AtC.region ?_
      refine AtL.pures hT 2 _ _ _ _ rfl ?_
      refine AtL.nil ?_
      exact AtE.then_n ((HK1 _ _ H).pickP (ts := [21, 0, 3, 19, 20]) (is := []) rfl rfl (by decide) rfl)
    ·
     refine AtC.exit ?_
     refine AtE.then_x ?_
     refine AtE.then_x ?_
     refine AtE.blk_hit ?_
     refine AtE.then_n (AtE.go ?_)
     refine AtC.seqR ?_
     refine AtL.pures hT 1 _ _ _ _ rfl ?_
     refine AtL.nil ?_
     refine AtE.then_n (AtE.go ?_)
     refine AtC.seq ?_
     refine AtC.seqR ?_
     refine AtL.pures hT 3 _ _ _ _ rfl ?_
     refine AtL.nil ?_
     refine AtE.then_n (AtE.go ?_)
     refine AtC.block ?_
     refine AtC.loopM (fun (s0u1 : Int × Int) => [(6, Value.int .i64 s0u1.1), (34, Value.int .i64 s0u1.2)]) (fun (s0u1 : Int × Int) => []) [0, 3, 33] [6, 34, 0, 3, 33] [] [] H (by exact rfl) (by exact rfl) (by exact rfl) (by decide) (by exact rfl) (fun Kp4 s0u1 h0u6 H Q4 HK4 => ?_)
     refine AtC.seqR ?_
     refine AtL.pures hT 1 _ _ _ _ rfl ?_
     refine AtL.nil ?_
     refine AtE.then_n (AtE.go ?_)
     refine AtC.seq ?_
     refine AtC.condB H rfl (fun H => ?_) (fun H => ?_)
     ·
      refine AtC.skip ?_
      refine AtE.then_n (AtE.go ?_)
      refine AtC.seq ?_
      refine AtC.block ?_
      refine AtC.seqR ?_
      refine AtL.e rfl (EffX.call (f := 13) (sh := fun h => queue_Pop _ h _) (H0 := H) rfl Try.call13 rfl (hl := fun w m hr hw => lift_queue_Pop _ w m hr _ hw)) ?_
      rintro _ _ ⟨v_4, h0u7, rfl, rfl, H⟩
      refine AtL.pures hT 5 _ _ _ _ rfl ?_
      refine AtL.nil ?_
      refine AtE.then_n (AtE.go ?_)
      refine AtC.seq ?_
      refine AtC.joinSeq (β := Unit) (fun (t0 : Bool) (bb : Unit) => [(86, Value.bool t0)]) (fun (t0 : Bool) (bb : Unit) => []) [0, 3, 7, 33, 34] [] H (by exact rfl) (by exact rfl) (fun t0 bb h0u8 H => ?_) (fun J5 H HK5 => ?_)
      ·
       refine AtC.condB H rfl (fun H => ?_) (fun H => ?_)
       ·
        refine AtC.seqR ?_
        refine AtL.pures hT 1 _ _ _ _ rfl ?_
        refine AtL.nil ?_
        refine AtE.then_n (AtE.go ?_)
        refine AtC.ret ?_
        refine AtE.then_r ?_
        refine AtE.blk_r ?_
        refine AtE.then_r ?_
        refine AtE.then_r ?_
        refine AtE.blk_r ?_
        refine AtE.then_r ?_
        exact AtE.retN (rs := [.tmp 2]) rfl (ResAll.cons (ResAt.tmp rfl) ResAll.nil) rfl H
       ·
        refine AtC.skip ?_
        refine AtE.then_n (AtE.go ?_)
        refine AtC.region ?_
        refine AtL.pures hT 2 _ _ _ _ rfl ?_
        refine AtL.nil ?_
        refine AtE.blk_n ?_
        refine AtE.then_n (AtE.go ?_)
        refine AtC.region ?_
        refine AtL.pures hT 2 _ _ _ _ rfl ?_
        refine AtL.nil ?_
        exact AtE.then_n ((HK4 _ _ H).pickP (ts := [6, 34, 0, 3, 33]) (is := []) rfl rfl (by decide) rfl)
      ·
       refine AtC.draw hmix (by kernel_rfl) ?_
       refine AtD.pures hT 3 _ _ _ _ rfl ?_
       refine AtD.splitB (t := 42) H rfl (fun H => ?_) (fun H => ?_)
       ·
        refine AtD.noF rfl rfl rfl (by decide) rfl ?_
        refine AtD.noF rfl rfl rfl (by decide) rfl ?_
        refine AtD.pures hT 2 _ _ _ _ rfl ?_
        refine AtD.noF rfl rfl rfl (by decide) rfl ?_
        refine AtD.noF rfl rfl rfl (by decide) rfl ?_
        refine AtD.noF rfl rfl rfl (by decide) rfl ?_
        refine AtD.noF rfl rfl rfl (by decide) rfl ?_
        refine AtD.pures hT 2 _ _ _ _ rfl ?_
        refine AtD.noF rfl rfl rfl (by decide) rfl ?_
        refine AtD.noF rfl rfl rfl (by decide) rfl ?_
        refine AtD.noF rfl rfl rfl (by decide) rfl ?_
        refine AtD.noU rfl rfl rfl rfl ?_
        refine AtD.noU rfl rfl rfl rfl ?_
        refine AtD.noU rfl rfl rfl rfl ?_
        refine AtD.noU rfl rfl rfl rfl ?_
        refine AtD.noU rfl rfl rfl rfl ?_
        refine AtD.noU rfl rfl rfl rfl ?_
        refine AtD.noU rfl rfl rfl rfl ?_
        refine AtD.noU rfl rfl rfl rfl ?_
        refine AtD.noU rfl rfl rfl rfl ?_
        refine AtD.noU rfl rfl rfl rfl ?_
        refine AtD.noU rfl rfl rfl rfl ?_
        refine AtD.noU rfl rfl rfl rfl ?_
        refine AtD.noU rfl rfl rfl rfl ?_
        refine AtD.noU rfl rfl rfl rfl ?_
        refine AtD.noU rfl rfl rfl rfl ?_
        refine AtD.noU rfl rfl rfl rfl ?_
        refine AtD.noU rfl rfl rfl rfl ?_
        refine AtD.noU rfl rfl rfl rfl ?_
        refine AtD.noU rfl rfl rfl rfl ?_
        refine AtD.noU rfl rfl rfl rfl ?_
        refine AtD.noU rfl rfl rfl rfl ?_
        refine AtD.noU rfl rfl rfl rfl ?_
        refine AtD.noU rfl rfl rfl rfl ?_
        refine AtD.noU rfl rfl rfl rfl ?_
        refine AtD.noU rfl rfl rfl rfl ?_
        refine AtD.noU rfl rfl rfl rfl ?_
        refine AtD.noU rfl rfl rfl rfl ?_
        refine AtD.noU rfl rfl rfl rfl ?_
        refine AtD.noU rfl rfl rfl rfl ?_
        refine AtD.noF rfl rfl rfl (by decide) rfl ?_
        refine AtD.pures hT 1 _ _ _ _ rfl ?_
        refine AtD.nil ?_
        exact AtE.then_n ((HK5 _ () _ H).pickP (ts := [86, 0, 3, 7, 33, 34]) (is := []) rfl rfl (by decide) rfl)
       ·
        refine AtD.yes rfl rfl rfl ?_
        refine AtD.pures hT 1 _ _ _ _ rfl ?_
        refine AtD.yes rfl rfl rfl ?_
        refine AtD.pures hT 1 _ _ _ _ rfl ?_
        refine AtD.pures hT 2 _ _ _ _ rfl ?_
        refine AtD.splitB (t := 46) H rfl (fun H => ?_) (fun H => ?_)
        ·
         refine AtD.noF rfl rfl rfl (by decide) rfl ?_
         refine AtD.noF rfl rfl rfl (by decide) rfl ?_
         refine AtD.noF rfl rfl rfl (by decide) rfl ?_
         refine AtD.noF rfl rfl rfl (by decide) rfl ?_
         refine AtD.pures hT 2 _ _ _ _ rfl ?_
         refine AtD.noF rfl rfl rfl (by decide) rfl ?_
         refine AtD.noF rfl rfl rfl (by decide) rfl ?_
         refine AtD.noF rfl rfl rfl (by decide) rfl ?_
         refine AtD.noU rfl rfl rfl rfl ?_
         refine AtD.noU rfl rfl rfl rfl ?_
         refine AtD.noU rfl rfl rfl rfl ?_
         refine AtD.noU rfl rfl rfl rfl ?_
         refine AtD.noU rfl rfl rfl rfl ?_
         refine AtD.noU rfl rfl rfl rfl ?_
         refine AtD.noU rfl rfl rfl rfl ?_
         refine AtD.noU rfl rfl rfl rfl ?_
         refine AtD.noU rfl rfl rfl rfl ?_
         refine AtD.noU rfl rfl rfl rfl ?_
         refine AtD.noU rfl rfl rfl rfl ?_
         refine AtD.noU rfl rfl rfl rfl ?_
         refine AtD.noU rfl rfl rfl rfl ?_
         refine AtD.noU rfl rfl rfl rfl ?_
         refine AtD.noU rfl rfl rfl rfl ?_
         refine AtD.noU rfl rfl rfl rfl ?_
         refine AtD.noU rfl rfl rfl rfl ?_
         refine AtD.noU rfl rfl rfl rfl ?_
         refine AtD.noU rfl rfl rfl rfl ?_
         refine AtD.noU rfl rfl rfl rfl ?_
         refine AtD.noU rfl rfl rfl rfl ?_
         refine AtD.noU rfl rfl rfl rfl ?_
         refine AtD.noU rfl rfl rfl rfl ?_
         refine AtD.noU rfl rfl rfl rfl ?_
         refine AtD.noU rfl rfl rfl rfl ?_
         refine AtD.noU rfl rfl rfl rfl ?_
         refine AtD.noU rfl rfl rfl rfl ?_
         refine AtD.noU rfl rfl rfl rfl ?_
         refine AtD.noU rfl rfl rfl rfl ?_
         refine AtD.noF rfl rfl rfl (by decide) rfl ?_
         refine AtD.pures hT 1 _ _ _ _ rfl ?_
         refine AtD.nil ?_
         exact AtE.then_n ((HK5 _ () _ H).pickP (ts := [86, 0, 3, 7, 33, 34]) (is := []) rfl rfl (by decide) rfl)
        ·
         refine AtD.yes rfl rfl rfl ?_
         refine AtD.pures hT 1 _ _ _ _ rfl ?_
         refine AtD.yes rfl rfl rfl ?_
         refine AtD.pures hT 1 _ _ _ _ rfl ?_
         refine AtD.yes rfl rfl rfl ?_
         refine AtD.pures hT 1 _ _ _ _ rfl ?_
         refine AtD.yes rfl rfl rfl ?_
         refine AtD.pures hT 1 _ _ _ _ rfl ?_
         refine AtD.pures hT 2 _ _ _ _ rfl ?_
         refine AtD.splitB (t := 52) H rfl (fun H => ?_) (fun H => ?_)
         ·
          refine AtD.noF rfl rfl rfl (by decide) rfl ?_
          refine AtD.noF rfl rfl rfl (by decide) rfl ?_
          refine AtD.noF rfl rfl rfl (by decide) rfl ?_
          refine AtD.noU rfl rfl rfl rfl ?_
          refine AtD.noU rfl rfl rfl rfl ?_
          refine AtD.noU rfl rfl rfl rfl ?_
          refine AtD.noU rfl rfl rfl rfl ?_
          refine AtD.noU rfl rfl rfl rfl ?_
          refine AtD.noU rfl rfl rfl rfl ?_
          refine AtD.noU rfl rfl rfl rfl ?_
          refine AtD.noU rfl rfl rfl rfl ?_
          refine AtD.noU rfl rfl rfl rfl ?_
          refine AtD.noU rfl rfl rfl rfl ?_
          refine AtD.noU rfl rfl rfl rfl ?_
          refine AtD.noU rfl rfl rfl rfl ?_
          refine AtD.noU rfl rfl rfl rfl ?_
          refine AtD.noU rfl rfl rfl rfl ?_
          refine AtD.noU rfl rfl rfl rfl ?_
          refine AtD.noU rfl rfl rfl rfl ?_
          refine AtD.noU rfl rfl rfl rfl ?_
          refine AtD.noU rfl rfl rfl rfl ?_
          refine AtD.noU rfl rfl rfl rfl ?_
          refine AtD.noU rfl rfl rfl rfl ?_
          refine AtD.noU rfl rfl rfl rfl ?_
          refine AtD.noU rfl rfl rfl rfl ?_
          refine AtD.noU rfl rfl rfl rfl ?_
          refine AtD.noU rfl rfl rfl rfl ?_
          refine AtD.noU rfl rfl rfl rfl ?_
          refine AtD.noU rfl rfl rfl rfl ?_
          refine AtD.noU rfl rfl rfl rfl ?_
          refine AtD.noU rfl rfl rfl rfl ?_
          refine AtD.noU rfl rfl rfl rfl ?_
          refine AtD.noF rfl rfl rfl (by decide) rfl ?_
          refine AtD.pures hT 1 _ _ _ _ rfl ?_
          refine AtD.nil ?_
          exact AtE.then_n ((HK5 _ () _ H).pickP (ts := [86, 0, 3, 7, 33, 34]) (is := []) rfl rfl (by decide) rfl)
         ·
          refine AtD.yes rfl rfl rfl ?_
          refine AtD.pures hT 1 _ _ _ _ rfl ?_
          refine AtD.yes rfl rfl rfl ?_
          refine AtD.pures hT 1 _ _ _ _ rfl ?_
          refine AtD.yes rfl rfl rfl ?_
          refine AtD.pures hT 1 _ _ _ _ rfl ?_
          refine AtD.splitB (t := 55) H rfl (fun H => ?_) (fun H => ?_)
          ·
           refine AtD.yes rfl rfl rfl ?_
           refine AtD.pures hT 1 _ _ _ _ rfl ?_
           refine AtD.yes rfl rfl rfl ?_
           refine AtD.pures hT 1 _ _ _ _ rfl ?_
           refine AtD.yes rfl rfl rfl ?_
           obtain ⟨a_1_, hc5, hd5, H⟩ := H
           refine AtD.q rfl (Quiet1.idxS (s := _) hT rfl rfl rfl rfl rfl hc5 hd5) ?_
           refine AtD.yes rfl rfl rfl ?_
           obtain ⟨v_5, hc6, H⟩ := H
           refine AtD.q rfl (Quiet1.load hT rfl rfl rfl hc6) ?_
           refine AtD.yes rfl rfl rfl ?_
           refine AtD.pures hT 1 _ _ _ _ rfl ?_
           refine AtD.yes rfl rfl rfl ?_
           refine AtD.pures hT 1 _ _ _ _ rfl ?_
           refine AtD.yes rfl rfl rfl ?_
           refine AtD.pures hT 1 _ _ _ _ rfl ?_
           refine AtD.yes rfl rfl rfl ?_
           obtain ⟨a_2_, hc7, hd7, H⟩ := H
           refine AtD.q rfl (Quiet1.idxS (s := _) hT rfl rfl rfl rfl rfl hc7 hd7) ?_
           refine AtD.yes rfl rfl rfl ?_
           obtain ⟨v_6, hc8, H⟩ := H
           refine AtD.q rfl (Quiet1.load hT rfl rfl rfl hc8) ?_
           refine AtD.yes rfl rfl rfl ?_
           refine AtD.pures hT 1 _ _ _ _ rfl ?_
           refine AtD.yes rfl rfl rfl ?_
           refine AtD.pures hT 1 _ _ _ _ rfl ?_
           refine AtD.yes rfl rfl rfl ?_
           refine AtD.pures hT 1 _ _ _ _ rfl ?_
           refine AtD.splitB (t := 67) H rfl (fun H => ?_) (fun H => ?_)
           ·
            refine AtD.noF rfl rfl rfl (by decide) rfl ?_
            refine AtD.noF rfl rfl rfl (by decide) rfl ?_
            refine AtD.noF rfl rfl rfl (by decide) rfl ?_
            refine AtD.noF rfl rfl rfl (by decide) rfl ?_
            refine AtD.noF rfl rfl rfl (by decide) rfl ?_
            refine AtD.noF rfl rfl rfl (by decide) rfl ?_
            refine AtD.noF rfl rfl rfl (by decide) rfl ?_
            refine AtD.noF rfl rfl rfl (by decide) rfl ?_
            refine AtD.noF rfl rfl rfl (by decide) rfl ?_
            refine AtD.noF rfl rfl rfl (by decide) rfl ?_
            refine AtD.noF rfl rfl rfl (by decide) rfl ?_
            refine AtD.noF rfl rfl rfl (by decide) rfl ?_
            refine AtD.noU rfl rfl rfl rfl ?_
            refine AtD.noU rfl rfl rfl rfl ?_
            refine AtD.noU rfl rfl rfl rfl ?_
            refine AtD.noF rfl rfl rfl (by decide) rfl ?_
            refine AtD.yes rfl rfl rfl ?_
            refine AtD.pures hT 1 _ _ _ _ rfl ?_
            refine AtD.yes rfl rfl rfl ?_
            refine AtD.pures hT 1 _ _ _ _ rfl ?_
            refine AtD.pures hT 1 _ _ _ _ rfl ?_
            refine AtD.nil ?_
            exact AtE.then_n ((HK5 _ () _ H).pickP (ts := [86, 0, 3, 7, 33, 34]) (is := []) rfl rfl (by decide) rfl)
           ·
            refine AtD.yes rfl rfl rfl ?_
            refine AtD.pures hT 1 _ _ _ _ rfl ?_
            refine AtD.yes rfl rfl rfl ?_
            refine AtD.pures hT 1 _ _ _ _ rfl ?_
            refine AtD.yes rfl rfl rfl ?_
            obtain ⟨a_3_, hc9, hd9, H⟩ := H
            refine AtD.q rfl (Quiet1.idxS (s := _) hT rfl rfl rfl rfl rfl hc9 hd9) ?_
            refine AtD.yes rfl rfl rfl ?_
            obtain ⟨v_7, hc10, H⟩ := H
            refine AtD.q rfl (Quiet1.load hT rfl rfl rfl hc10) ?_
            refine AtD.yes rfl rfl rfl ?_
            refine AtD.pures hT 1 _ _ _ _ rfl ?_
            refine AtD.yes rfl rfl rfl ?_
            refine AtD.pures hT 1 _ _ _ _ rfl ?_
            refine AtD.yes rfl rfl rfl ?_
            refine AtD.pures hT 1 _ _ _ _ rfl ?_
            refine AtD.yes rfl rfl rfl ?_
            obtain ⟨a_4_, hc11, hd11, H⟩ := H
            refine AtD.q rfl (Quiet1.idxS (s := _) hT rfl rfl rfl rfl rfl hc11 hd11) ?_
            refine AtD.yes rfl rfl rfl ?_
            obtain ⟨v_8, hc12, H⟩ := H
            refine AtD.q rfl (Quiet1.load hT rfl rfl rfl hc12) ?_
            refine AtD.yes rfl rfl rfl ?_
            refine AtD.pures hT 1 _ _ _ _ rfl ?_
            refine AtD.yes rfl rfl rfl ?_
            refine AtD.pures hT 1 _ _ _ _ rfl ?_
            refine AtD.yes rfl rfl rfl ?_
            refine AtD.pures hT 1 _ _ _ _ rfl ?_
            refine AtD.splitB (t := 79) H rfl (fun H => ?_) (fun H => ?_)
            ·
             refine AtD.yes rfl rfl rfl ?_
             refine AtD.pures hT 1 _ _ _ _ rfl ?_
             refine AtD.yes rfl rfl rfl ?_
             refine AtD.pures hT 1 _ _ _ _ rfl ?_
             refine AtD.yes rfl rfl rfl ?_
             refine AtD.pures hT 1 _ _ _ _ rfl ?_
             refine AtD.yes rfl rfl rfl ?_
             refine AtD.pures hT 1 _ _ _ _ rfl ?_
             refine AtD.yes rfl rfl rfl ?_
             refine AtD.pures hT 1 _ _ _ _ rfl ?_
             refine AtD.yes rfl rfl rfl ?_
             refine AtD.pures hT 1 _ _ _ _ rfl ?_
             refine AtD.pures hT 1 _ _ _ _ rfl ?_
             refine AtD.nil ?_
             exact AtE.then_n ((HK5 _ () _ H).pickP (ts := [86, 0, 3, 7, 33, 34]) (is := []) rfl rfl (by decide) rfl)
            ·
             refine AtD.noF rfl rfl rfl (by decide) rfl ?_
             refine AtD.noF rfl rfl rfl (by decide) rfl ?_
             refine AtD.noF rfl rfl rfl (by decide) rfl ?_
             refine AtD.yes rfl rfl rfl ?_
             refine AtD.pures hT 1 _ _ _ _ rfl ?_
             refine AtD.yes rfl rfl rfl ?_
             refine AtD.pures hT 1 _ _ _ _ rfl ?_
             refine AtD.yes rfl rfl rfl ?_
             refine AtD.pures hT 1 _ _ _ _ rfl ?_
             refine AtD.pures hT 1 _ _ _ _ rfl ?_
             refine AtD.nil ?_
             exact AtE.then_n ((HK5 _ () _ H).pickP (ts := [86, 0, 3, 7, 33, 34]) (is := []) rfl rfl (by decide) rfl)
          ·
           refine AtD.noF rfl rfl rfl (by decide) rfl ?_
           refine AtD.noF rfl rfl rfl (by decide) rfl ?_
           refine AtD.noF rfl rfl rfl (by decide) rfl ?_
           refine AtD.noF rfl rfl rfl (by decide) rfl ?_
           refine AtD.noF rfl rfl rfl (by decide) rfl ?_
           refine AtD.noF rfl rfl rfl (by decide) rfl ?_
           refine AtD.noF rfl rfl rfl (by decide) rfl ?_
           refine AtD.noF rfl rfl rfl (by decide) rfl ?_
           refine AtD.noF rfl rfl rfl (by decide) rfl ?_
           refine AtD.noF rfl rfl rfl (by decide) rfl ?_
           refine AtD.noF rfl rfl rfl (by decide) rfl ?_
           refine AtD.noF rfl rfl rfl (by decide) rfl ?_
           refine AtD.noU rfl rfl rfl rfl ?_
           refine AtD.noU rfl rfl rfl rfl ?_
           refine AtD.noU rfl rfl rfl rfl ?_
           refine AtD.noU rfl rfl rfl rfl ?_
           refine AtD.noU rfl rfl rfl rfl ?_
           refine AtD.noU rfl rfl rfl rfl ?_
           refine AtD.noU rfl rfl rfl rfl ?_
           refine AtD.noU rfl rfl rfl rfl ?_
           refine AtD.noU rfl rfl rfl rfl ?_
           refine AtD.noU rfl rfl rfl rfl ?_
           refine AtD.noU rfl rfl rfl rfl ?_
           refine AtD.noU rfl rfl rfl rfl ?_
           refine AtD.noU rfl rfl rfl rfl ?_
           refine AtD.noU rfl rfl rfl rfl ?_
           refine AtD.noU rfl rfl rfl rfl ?_
           refine AtD.noU rfl rfl rfl rfl ?_
           refine AtD.noF rfl rfl rfl (by decide) rfl ?_
           refine AtD.yes rfl rfl rfl ?_
           refine AtD.pures hT 1 _ _ _ _ rfl ?_
           refine AtD.pures hT 1 _ _ _ _ rfl ?_
           refine AtD.nil ?_
           exact AtE.then_n ((HK5 _ () _ H).pickP (ts := [86, 0, 3, 7, 33, 34]) (is := []) rfl rfl (by decide) rfl)
     ·
      refine AtC.exit ?_
      refine AtE.then_x ?_
      refine AtE.then_x ?_
      refine AtE.blk_hit ?_
      refine AtE.then_n (AtE.go ?_)
      refine AtC.seqR ?_
      refine AtL.e rfl (EffX.call (f := 13) (sh := fun h => queue_Pop _ h _) (H0 := H) rfl Try.call13 rfl (hl := fun w m hr hw => lift_queue_Pop _ w m hr _ hw)) ?_
      rintro _ _ ⟨v_9, h0u9, rfl, rfl, H⟩
      refine AtL.pures hT 5 _ _ _ _ rfl ?_
      refine AtL.nil ?_
      refine AtE.then_n (AtE.go ?_)
      refine AtC.joinSeq (β := Unit) (fun (t0u1 : Bool) (bb_1 : Unit) => [(2, Value.bool t0u1)]) (fun (t0u1 : Bool) (bb_1 : Unit) => []) [] [] H (by exact rfl) (by exact rfl) (fun t0u1 bb_1 h0u10 H => ?_) (fun J14 H HK14 => ?_)
      ·
       refine AtC.ret ?_
       exact AtE.retN (rs := [.tmp 2]) rfl (ResAll.cons (ResAt.tmp rfl) ResAll.nil) rfl H
      ·
       refine AtC.region ?_
       refine AtL.pures hT 3 _ _ _ _ rfl ?_
       refine AtL.splitB (t := 95) H rfl (fun H => ?_) (fun H => ?_)
       ·
        refine AtL.yes rfl rfl rfl ?_
        refine AtL.pures hT 1 _ _ _ _ rfl ?_
        refine AtL.yes rfl rfl rfl ?_
        obtain ⟨v_10, hc14, H⟩ := H
        refine AtL.q rfl (Quiet1.load hT rfl rfl rfl hc14) ?_
        refine AtL.yes rfl rfl rfl ?_
        refine AtL.pures hT 1 _ _ _ _ rfl ?_
        refine AtL.yes rfl rfl rfl ?_
        refine AtL.pures hT 1 _ _ _ _ rfl ?_
        refine AtL.pures hT 2 _ _ _ _ rfl ?_
        refine AtL.nil ?_
        exact AtE.then_n ((HK14 _ () _ H).pickP (ts := [2]) (is := []) rfl rfl (by decide) rfl)
       ·
        refine AtL.noF rfl rfl rfl (by decide) rfl ?_
        refine AtL.noF rfl rfl rfl (by decide) rfl ?_
        refine AtL.noF rfl rfl rfl (by decide) rfl ?_
        refine AtL.noF rfl rfl rfl (by decide) rfl ?_
        refine AtL.pures hT 2 _ _ _ _ rfl ?_
        refine AtL.nil ?_
        exact AtE.then_n ((HK14 _ () _ H).pickP (ts := [2]) (is := []) rfl rfl (by decide) rfl)
end Go.Proofs.Ytafkahjfbiamlaa

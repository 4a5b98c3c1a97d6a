/-
  The deep code does what the functions of the shallow text say: printed by lift.py.
-/
import Derived.Test.YtafkahjfbiamlaaProg
import Derived.Test.YtafkahjfbiamlaaShQ
set_option linter.unusedVariables false
set_option linter.unusedSimpArgs false
namespace Go.Proofs.Ytafkahjfbiamlaa
open Go Go.Lift Go.Sh
set_option maxRecDepth 100000
set_option maxHeartbeats 4000000
attribute [local irreducible] Calls AtL AtC AtE AtD Eff Quiet1 Stg qAt QAll eAt EAll nextK Code.wp

def T : TTab := [(3, .int .i64, 1, 8, [Value.int .i64 0]), (4, .bool, 1, 1, [Value.bool false]), (22, .slice 3, 1, 24, [Sl.toV Sl.nil]), (25, .struct #[⟨ "Score", 22, 0, false, "", "", 0⟩, ⟨ "Heap", 22, 1, false, "", "", 24⟩], 2, 48, [Sl.toV Sl.nil, Sl.toV Sl.nil]), (29, .pointer 25, 1, 8, [Value.pointer none]), (46, .slice 50, 1, 24, [Sl.toV Sl.nil]), (50, .struct #[⟨ "What", 3, 0, false, "", "", 0⟩, ⟨ "V", 3, 1, false, "", "", 8⟩, ⟨ "By", 3, 2, false, "", "", 16⟩], 3, 24, [Value.int .i64 0, Value.int .i64 0, Value.int .i64 0]), (51, .slice 4, 1, 24, [Sl.toV Sl.nil]), (53, .struct #[⟨ "Score", 22, 0, false, "", "", 0⟩, ⟨ "In", 51, 1, false, "", "", 24⟩], 2, 48, [Sl.toV Sl.nil, Sl.toV Sl.nil]), (88, .struct #[⟨ "Queue", 29, 0, true, "", "", 0⟩], 1, 8, [Value.pointer none]), (98, .map 3 4, 1, 8, [Value.map none])]
theorem hT : TTab.Ok Try.prog T := TTab.ok_cons (by kernel_rfl) (by kernel_rfl) (TTab.ok_cons (by kernel_rfl) (by kernel_rfl) (TTab.ok_cons (by kernel_rfl) (by kernel_rfl) (TTab.ok_cons (by kernel_rfl) (by kernel_rfl) (TTab.ok_cons (by kernel_rfl) (by kernel_rfl) (TTab.ok_cons (by kernel_rfl) (by kernel_rfl) (TTab.ok_cons (by kernel_rfl) (by kernel_rfl) (TTab.ok_cons (by kernel_rfl) (by kernel_rfl) (TTab.ok_cons (by kernel_rfl) (by kernel_rfl) (TTab.ok_cons (by kernel_rfl) (by kernel_rfl) (TTab.ok_cons (by kernel_rfl) (by kernel_rfl) (TTab.ok_nil _)))))))))))
theorem hmix : Try.prog.follows .mixedOrders = true := by kernel_rfl

theorem lift_queue_New (n : Int) (w : World) (m : Heap) (hr : Rel ⟨m, []⟩ w.heap) (S : (Sl × Sl) → Heap → Prop) (H : queue_New n m S) :
    Calls Try.prog 11 #[Value.int .i64 n] w (Post ⟨w, m⟩ (fun r => Value.agg (C_sl_sl r).toArray) S) := by
  refine Calls.lift (args := [Value.int .i64 n]) Try.func11 rfl Try.ntmps11 (Nat.le_of_ble_eq_true rfl) hr (queue_New n m S) H (fun H => ?_)
  refine AtC.pick (ts := [0]) rfl ?_
  unfold queue_New at H
  refine AtC.seqR ?_
  refine AtL.e rfl (EffX.allocP (cs := [_, _]) hT rfl rfl H) ?_
  rintro _ _ ⟨b, _, rfl, rfl, _, H⟩
  refine AtL.nil ?_
  replace H := H.self
  refine AtE.then_n (AtE.go ?_)
  refine AtC.seqR ?_
  refine AtL.pures hT 4 _ _ _ _ rfl ?_
  replace H := H _ rfl
  refine AtL.nil ?_
  refine AtE.then_n (AtE.go ?_)
  refine AtC.seqR ?_
  refine AtL.pures hT 1 _ _ _ _ rfl ?_
  refine AtL.e rfl (EffX.mkS hT rfl rfl rfl rfl rfl rfl rfl rfl (by decide) H) ?_
  rintro _ _ ⟨v, h0u1, rfl, rfl, H⟩
  refine AtL.q rfl (Quiet1.build (cs := [_, _]) hT rfl rfl rfl rfl rfl rfl) ?_
  refine AtL.e rfl (EffX.allocP (cs := [_, _]) hT rfl rfl H) ?_
  rintro _ _ ⟨b_1, _, rfl, rfl, _, H⟩
  replace H := H.self
  refine AtL.e rfl (EffX.storeSP (i := 0) (qv := [(_, [_, _]), (_, [_, _])]) hT rfl rfl rfl rfl rfl rfl rfl rfl rfl rfl) ?_
  rintro _ _ rfl
  refine AtL.nil ?_
  refine AtE.then_n (AtE.go ?_)
  refine AtC.seq ?_
  refine AtC.seqR ?_
  refine AtL.pures hT 2 _ _ _ _ rfl ?_
  refine AtL.nil ?_
  refine AtE.then_n (AtE.go ?_)
  refine AtC.block ?_
  refine AtC.loopM (fun (s0 : Int × Sl × Sl) => [(12, Value.int .i64 s0.1)]) (fun (s0 : Int × Sl × Sl) => [(b_1, [Sl.toV s0.2.1, Sl.toV s0.2.2])]) [2, 3, 11] [12, 2, 3, 11] [1] [0, 1] H (by exact rfl) (by exact rfl) (by exact rfl) (by decide) (by exact rfl) (fun Kp1 s0 h0u3 H Q1 HK1 => ?_)
  refine AtC.seqR ?_
  refine AtL.pures hT 1 _ _ _ _ rfl ?_
  refine AtL.nil ?_
  refine AtE.then_n (AtE.go ?_)
  refine AtC.seq ?_
  refine AtC.condB H rfl (fun H => ?_) (fun H => ?_)
  ·
   refine AtC.skip ?_
   refine AtE.then_n (AtE.go ?_)
   refine AtC.seq ?_
   refine AtC.block ?_
   refine AtC.seqR ?_
   refine AtL.pures hT 2 _ _ _ _ rfl ?_
   refine AtL.nil ?_
   refine AtE.then_n (AtE.go ?_)
   refine AtC.region ?_
   refine AtL.pures hT 1 _ _ _ _ rfl ?_
   refine AtL.q rfl (Quiet1.loadP (i := 0) hT rfl rfl rfl rfl rfl rfl) ?_
   refine AtL.pures hT 1 _ _ _ _ rfl ?_
   refine AtLX.bs (hT := hT) (cs := [_]) H rfl rfl rfl rfl rfl rfl rfl rfl rfl (fun a h0u4 H => ?_)
   refine AtL.e rfl (EffX.appendS (s := _) (u := _) hT rfl rfl rfl rfl rfl rfl rfl rfl rfl rfl (by decide) H) ?_
   rintro _ _ ⟨v_2, h0u5, rfl, rfl, H⟩
   refine AtL.pures hT 1 _ _ _ _ rfl ?_
   refine AtL.e rfl (EffX.storeP (i := 0) (qv := [(_, [_, _]), (_, [_, _])]) hT rfl rfl rfl rfl rfl rfl rfl rfl rfl) ?_
   rintro _ _ rfl
   refine AtL.nil ?_
   refine AtE.blk_n ?_
   refine AtE.then_n (AtE.go ?_)
   refine AtC.region ?_
   refine AtL.pures hT 2 _ _ _ _ rfl ?_
   refine AtL.nil ?_
   exact AtE.then_n ((HK1 _ _ H).pickP (ts := [12, 2, 3, 11]) (is := [0, 1]) rfl rfl (by decide) rfl)
  ·
   refine AtC.exit ?_
   refine AtE.then_x ?_
   refine AtE.then_x ?_
   refine AtE.blk_hit ?_
   refine AtE.then_n (AtE.go ?_)
   refine AtC.seqR ?_
   refine AtL.q rfl (Quiet1.loadSP (i := 0) (l := [_, _]) hT rfl rfl rfl rfl rfl rfl rfl rfl) ?_
   refine AtL.e rfl (EffX.storeSP (i := 1) (qv := [(_, [_, _]), (_, [_, _])]) hT rfl rfl rfl rfl rfl rfl rfl rfl rfl rfl) ?_
   rintro _ _ rfl
   refine AtL.nil ?_
   refine AtE.then_n (AtE.go ?_)
   refine AtC.ret ?_
   exact AtE.retN (rs := [.cell 2 25]) rfl (ResAll.cons (ResAt.cellSP (i := 1) (l := [_, _]) hT rfl rfl rfl rfl rfl rfl rfl) ResAll.nil) rfl H

theorem lift_queue_there (q : (Option Addr)) (v : Int) (w : World) (m : Heap) (hr : Rel ⟨m, []⟩ w.heap) (S : Bool → Heap → Prop) (H : queue_there q v m S) :
    Calls Try.prog 46 #[Value.pointer q, Value.int .i64 v] w (Post ⟨w, m⟩ Value.bool S) := by
  refine Calls.lift (args := [Value.pointer q, Value.int .i64 v]) Try.func46 rfl Try.ntmps46 (Nat.le_of_ble_eq_true rfl) hr (queue_there q v m S) H (fun H => ?_)
  refine AtC.pick (ts := [0, 1]) rfl ?_
  unfold queue_there at H
  refine AtC.seqR ?_
  refine AtL.pures hT 1 _ _ _ _ rfl ?_
  refine AtL.nil ?_
  refine AtE.then_n (AtE.go ?_)
  refine AtC.joinSeq (β := Unit) (fun (t0 : Bool) (bb : Unit) => [(4, Value.bool t0)]) (fun (t0 : Bool) (bb : Unit) => []) [] [] H (by exact rfl) (by exact rfl) (fun t0 bb h0 H => ?_) (fun J1 H HK1 => ?_)
  ·
   refine AtC.ret ?_
   exact AtE.retN (rs := [.tmp 4]) rfl (ResAll.cons (ResAt.tmp rfl) ResAll.nil) rfl H
  ·
   refine AtC.region ?_
   refine AtL.pures hT 3 _ _ _ _ rfl ?_
   refine AtL.splitB (t := 7) H rfl (fun H => ?_) (fun H => ?_)
   ·
    refine AtL.yes rfl rfl rfl ?_
    refine AtL.pures hT 1 _ _ _ _ rfl ?_
    refine AtL.yes rfl rfl rfl ?_
    refine AtL.pures hT 1 _ _ _ _ rfl ?_
    refine AtL.yes rfl rfl rfl ?_
    obtain ⟨a, hc1, H⟩ := H
    refine AtL.q rfl (Quiet1.nilChk rfl rfl hc1) ?_
    refine AtL.yes rfl rfl rfl ?_
    refine AtL.pures hT 1 _ _ _ _ rfl ?_
    refine AtL.yes rfl rfl rfl ?_
    obtain ⟨v_1, hc2, H⟩ := H
    refine AtL.q rfl (Quiet1.load hT rfl rfl rfl hc2) ?_
    refine AtL.yes rfl rfl rfl ?_
    refine AtL.pures hT 1 _ _ _ _ rfl ?_
    refine AtL.yes rfl rfl rfl ?_
    refine AtL.pures hT 1 _ _ _ _ rfl ?_
    refine AtL.pures hT 2 _ _ _ _ rfl ?_
    refine AtL.nil ?_
    exact AtE.then_n ((HK1 _ () _ H).pickP (ts := [4]) (is := []) rfl rfl (by decide) rfl)
   ·
    refine AtL.noF rfl rfl rfl (by decide) rfl ?_
    refine AtL.noF rfl rfl rfl (by decide) rfl ?_
    refine AtL.noF rfl rfl rfl (by decide) rfl ?_
    refine AtL.noF rfl rfl rfl (by decide) rfl ?_
    refine AtL.noF rfl rfl rfl (by decide) rfl ?_
    refine AtL.noF rfl rfl rfl (by decide) rfl ?_
    refine AtL.noF rfl rfl rfl (by decide) rfl ?_
    refine AtL.pures hT 2 _ _ _ _ rfl ?_
    refine AtL.nil ?_
    exact AtE.then_n ((HK1 _ () _ H).pickP (ts := [4]) (is := []) rfl rfl (by decide) rfl)

theorem lift_slices_Index_int_int (s0 : Sl) (v : Int) (w : World) (m : Heap) (hr : Rel ⟨m, []⟩ w.heap) (S : Int → Heap → Prop) (H : slices_Index_int_int s0 v m S) :
    Calls Try.prog 47 #[Sl.toV s0, Value.int .i64 v] w (Post ⟨w, m⟩ (Value.int .i64) S) := by
  refine Calls.lift (args := [Sl.toV s0, Value.int .i64 v]) Try.func47 rfl Try.ntmps47 (Nat.le_of_ble_eq_true rfl) hr (slices_Index_int_int s0 v m S) H (fun H => ?_)
  refine AtC.pick (ts := [0, 1]) rfl ?_
  unfold slices_Index_int_int at H
  refine AtC.seqR ?_
  refine AtL.pures hT 1 _ _ _ _ rfl ?_
  refine AtL.nil ?_
  refine AtE.then_n (AtE.go ?_)
  refine AtC.seq ?_
  refine AtC.seqR ?_
  refine AtL.pures hT 3 _ _ _ _ rfl ?_
  refine AtL.nil ?_
  refine AtE.then_n (AtE.go ?_)
  refine AtC.block ?_
  refine AtC.loopM (fun (s0u1 : Int) => [(8, Value.int .i64 s0u1)]) (fun (s0u1 : Int) => []) [0, 1, 7] [8, 0, 1, 7] [] [] H (by exact rfl) (by exact rfl) (by exact rfl) (by decide) (by exact rfl) (fun Kp1 s0u1 h0 H Q1 HK1 => ?_)
  refine AtC.seqR ?_
  refine AtL.pures hT 1 _ _ _ _ rfl ?_
  refine AtL.nil ?_
  refine AtE.then_n (AtE.go ?_)
  refine AtC.seq ?_
  refine AtC.condB H rfl (fun H => ?_) (fun H => ?_)
  ·
   refine AtC.skip ?_
   refine AtE.then_n (AtE.go ?_)
   refine AtC.seq ?_
   refine AtC.block ?_
   refine AtC.seqR ?_
   refine AtL.pures hT 2 _ _ _ _ rfl ?_
   refine AtL.nil ?_
   refine AtE.then_n (AtE.go ?_)
   refine AtC.seqR ?_
   refine AtL.pures hT 3 _ _ _ _ rfl ?_
   obtain ⟨a_, hc1, hd1, H⟩ := H
   refine AtL.q rfl (Quiet1.idxS (s := _) hT rfl rfl rfl rfl rfl hc1 hd1) ?_
   obtain ⟨v_1, hc2, H⟩ := H
   refine AtL.q rfl (Quiet1.load hT rfl rfl rfl hc2) ?_
   refine AtL.pures hT 1 _ _ _ _ rfl ?_
   refine AtL.nil ?_
   refine AtE.then_n (AtE.go ?_)
   refine AtC.condB H rfl (fun H => ?_) (fun H => ?_)
   ·
    refine AtC.seqR ?_
    refine AtL.pures hT 2 _ _ _ _ rfl ?_
    refine AtL.nil ?_
    refine AtE.then_n (AtE.go ?_)
    refine AtC.ret ?_
    refine AtE.blk_r ?_
    refine AtE.then_r ?_
    refine AtE.then_r ?_
    refine AtE.blk_r ?_
    refine AtE.then_r ?_
    exact AtE.retN (rs := [.tmp 4]) rfl (ResAll.cons (ResAt.tmp rfl) ResAll.nil) rfl H
   ·
    refine AtC.skip ?_
    refine AtE.blk_n ?_
    refine AtE.then_n (AtE.go ?_)
    refine AtC.region ?_
    refine AtL.pures hT 2 _ _ _ _ rfl ?_
    refine AtL.nil ?_
    exact AtE.then_n ((HK1 _ _ H).pickP (ts := [8, 0, 1, 7]) (is := []) rfl rfl (by decide) rfl)
  ·
   refine AtC.exit ?_
   refine AtE.then_x ?_
   refine AtE.then_x ?_
   refine AtE.blk_hit ?_
   refine AtE.then_n (AtE.go ?_)
   refine AtC.seqR ?_
   refine AtL.pures hT 1 _ _ _ _ rfl ?_
   refine AtL.nil ?_
   refine AtE.then_n (AtE.go ?_)
   refine AtC.ret ?_
   exact AtE.retN (rs := [.tmp 4]) rfl (ResAll.cons (ResAt.tmp rfl) ResAll.nil) rfl H

theorem lift_queue_ranks_Len (r : (Option Addr)) (w : World) (m : Heap) (hr : Rel ⟨m, []⟩ w.heap) (S : Int → Heap → Prop) (H : queue_ranks_Len r m S) :
    Calls Try.prog 163 #[Value.agg (C_ptr r).toArray] w (Post ⟨w, m⟩ (Value.int .i64) S) := by
  refine Calls.lift (args := [Value.agg (C_ptr r).toArray]) Try.func163 rfl Try.ntmps163 (Nat.le_of_ble_eq_true rfl) hr (queue_ranks_Len r m S) H (fun H => ?_)
  refine AtC.pick (ts := [0]) rfl ?_
  unfold queue_ranks_Len at H
  refine AtC.seqR ?_
  refine AtL.e rfl (EffX.boxP (cs := [_]) rfl rfl rfl H) ?_
  rintro _ _ ⟨b, _, rfl, rfl, _, H⟩
  replace H := H.self
  refine AtL.pures hT 1 _ _ _ _ rfl ?_
  refine AtL.nil ?_
  refine AtE.then_n (AtE.go ?_)
  refine AtC.seqR ?_
  refine AtL.pures hT 1 _ _ _ _ rfl ?_
  refine AtL.q rfl (Quiet1.loadP (i := 0) hT rfl rfl rfl rfl rfl rfl) ?_
  obtain ⟨a, hc0, H⟩ := H
  refine AtL.q rfl (Quiet1.nilChk rfl rfl hc0) ?_
  refine AtL.pures hT 1 _ _ _ _ rfl ?_
  obtain ⟨v, hc1, H⟩ := H
  refine AtL.q rfl (Quiet1.load hT rfl rfl rfl hc1) ?_
  refine AtL.pures hT 2 _ _ _ _ rfl ?_
  refine AtL.nil ?_
  refine AtE.then_n (AtE.go ?_)
  refine AtC.ret ?_
  exact AtE.retN (rs := [.tmp 2]) rfl (ResAll.cons (ResAt.tmp rfl) ResAll.nil) rfl H

theorem lift_queue_ranks_Less (r : (Option Addr)) (i : Int) (j : Int) (w : World) (m : Heap) (hr : Rel ⟨m, []⟩ w.heap) (S : Bool → Heap → Prop) (H : queue_ranks_Less r i j m S) :
    Calls Try.prog 60 #[Value.agg (C_ptr r).toArray, Value.int .i64 i, Value.int .i64 j] w (Post ⟨w, m⟩ Value.bool S) := by
  refine Calls.lift (args := [Value.agg (C_ptr r).toArray, Value.int .i64 i, Value.int .i64 j]) Try.func60 rfl Try.ntmps60 (Nat.le_of_ble_eq_true rfl) hr (queue_ranks_Less r i j m S) H (fun H => ?_)
  refine AtC.pick (ts := [0, 1, 2]) rfl ?_
  unfold queue_ranks_Less at H
  refine AtC.seqR ?_
  refine AtL.e rfl (EffX.boxP (cs := [_]) rfl rfl rfl H) ?_
  rintro _ _ ⟨b, _, rfl, rfl, _, H⟩
  replace H := H.self
  refine AtL.pures hT 1 _ _ _ _ rfl ?_
  refine AtL.nil ?_
  refine AtE.then_n (AtE.go ?_)
  refine AtC.seqD hmix (by kernel_rfl) ?_
  refine AtD.pures hT 1 _ _ _ _ rfl ?_
  refine AtD.q rfl (Quiet1.loadP (i := 0) hT rfl rfl rfl rfl rfl rfl) ?_
  obtain ⟨a, hc0, H⟩ := H
  refine AtD.q rfl (Quiet1.nilChk rfl rfl hc0) ?_
  refine AtD.pures hT 1 _ _ _ _ rfl ?_
  obtain ⟨v, hc1, H⟩ := H
  refine AtD.q rfl (Quiet1.load hT rfl rfl rfl hc1) ?_
  refine AtD.pures hT 1 _ _ _ _ rfl ?_
  obtain ⟨a_1_, hc2, hd2, H⟩ := H
  refine AtD.q rfl (Quiet1.idxS (s := _) hT rfl rfl rfl rfl rfl hc2 hd2) ?_
  obtain ⟨v_1, hc3, H⟩ := H
  refine AtD.q rfl (Quiet1.load hT rfl rfl rfl hc3) ?_
  refine AtD.pures hT 1 _ _ _ _ rfl ?_
  refine AtD.q rfl (Quiet1.loadP (i := 0) hT rfl rfl rfl rfl rfl rfl) ?_
  obtain ⟨a_2, hc4, H⟩ := H
  refine AtD.q rfl (Quiet1.nilChk rfl rfl hc4) ?_
  refine AtD.pures hT 1 _ _ _ _ rfl ?_
  obtain ⟨v_2, hc5, H⟩ := H
  refine AtD.q rfl (Quiet1.load hT rfl rfl rfl hc5) ?_
  refine AtD.pures hT 1 _ _ _ _ rfl ?_
  obtain ⟨a_3_, hc6, hd6, H⟩ := H
  refine AtD.q rfl (Quiet1.idxS (s := _) hT rfl rfl rfl rfl rfl hc6 hd6) ?_
  obtain ⟨v_3, hc7, H⟩ := H
  refine AtD.q rfl (Quiet1.load hT rfl rfl rfl hc7) ?_
  refine AtD.pures hT 2 _ _ _ _ rfl ?_
  refine AtD.nil ?_
  refine AtE.then_n (AtE.go ?_)
  refine AtC.seq ?_
  refine AtC.seqD hmix (by kernel_rfl) ?_
  refine AtD.pures hT 1 _ _ _ _ rfl ?_
  refine AtD.q rfl (Quiet1.loadP (i := 0) hT rfl rfl rfl rfl rfl rfl) ?_
  obtain ⟨a_4, hc8, H⟩ := H
  refine AtD.q rfl (Quiet1.nilChk rfl rfl hc8) ?_
  refine AtD.pures hT 1 _ _ _ _ rfl ?_
  obtain ⟨v_4, hc9, H⟩ := H
  refine AtD.q rfl (Quiet1.load hT rfl rfl rfl hc9) ?_
  refine AtD.pures hT 1 _ _ _ _ rfl ?_
  obtain ⟨a_5_, hc10, hd10, H⟩ := H
  refine AtD.q rfl (Quiet1.idxS (s := _) hT rfl rfl rfl rfl rfl hc10 hd10) ?_
  obtain ⟨v_5, hc11, H⟩ := H
  refine AtD.q rfl (Quiet1.load hT rfl rfl rfl hc11) ?_
  refine AtD.pures hT 1 _ _ _ _ rfl ?_
  refine AtD.q rfl (Quiet1.loadP (i := 0) hT rfl rfl rfl rfl rfl rfl) ?_
  obtain ⟨a_6, hc12, H⟩ := H
  refine AtD.q rfl (Quiet1.nilChk rfl rfl hc12) ?_
  refine AtD.pures hT 1 _ _ _ _ rfl ?_
  obtain ⟨v_6, hc13, H⟩ := H
  refine AtD.q rfl (Quiet1.load hT rfl rfl rfl hc13) ?_
  refine AtD.pures hT 1 _ _ _ _ rfl ?_
  obtain ⟨a_7_, hc14, hd14, H⟩ := H
  refine AtD.q rfl (Quiet1.idxS (s := _) hT rfl rfl rfl rfl rfl hc14 hd14) ?_
  obtain ⟨v_7, hc15, H⟩ := H
  refine AtD.q rfl (Quiet1.load hT rfl rfl rfl hc15) ?_
  refine AtD.pures hT 2 _ _ _ _ rfl ?_
  refine AtD.nil ?_
  refine AtE.then_n (AtE.go ?_)
  refine AtC.seqR ?_
  refine AtL.pures hT 3 _ _ _ _ rfl ?_
  refine AtL.nil ?_
  refine AtE.then_n (AtE.go ?_)
  refine AtC.condB H rfl (fun H => ?_) (fun H => ?_)
  ·
   refine AtC.seqR ?_
   refine AtL.pures hT 4 _ _ _ _ rfl ?_
   refine AtL.nil ?_
   refine AtE.then_n (AtE.go ?_)
   refine AtC.ret ?_
   refine AtE.then_r ?_
   exact AtE.retN (rs := [.tmp 6]) rfl (ResAll.cons (ResAt.tmp rfl) ResAll.nil) rfl H
  ·
   refine AtC.skip ?_
   refine AtE.then_n (AtE.go ?_)
   refine AtC.seqR ?_
   refine AtL.pures hT 4 _ _ _ _ rfl ?_
   refine AtL.nil ?_
   refine AtE.then_n (AtE.go ?_)
   refine AtC.ret ?_
   exact AtE.retN (rs := [.tmp 6]) rfl (ResAll.cons (ResAt.tmp rfl) ResAll.nil) rfl H

theorem lift_queue_ranks_Swap (r : (Option Addr)) (i : Int) (j : Int) (w : World) (m : Heap) (hr : Rel ⟨m, []⟩ w.heap) (S : Unit → Heap → Prop) (H : queue_ranks_Swap r i j m S) :
    Calls Try.prog 166 #[Value.agg (C_ptr r).toArray, Value.int .i64 i, Value.int .i64 j] w (Post ⟨w, m⟩ (fun _ => Value.tuple #[]) S) := by
  refine Calls.lift (args := [Value.agg (C_ptr r).toArray, Value.int .i64 i, Value.int .i64 j]) Try.func166 rfl Try.ntmps166 (Nat.le_of_ble_eq_true rfl) hr (queue_ranks_Swap r i j m S) H (fun H => ?_)
  refine AtC.pick (ts := [0, 1, 2]) rfl ?_
  unfold queue_ranks_Swap at H
  refine AtC.seqR ?_
  refine AtL.e rfl (EffX.boxP (cs := [_]) rfl rfl rfl H) ?_
  rintro _ _ ⟨b, _, rfl, rfl, _, H⟩
  refine AtL.nil ?_
  replace H := H.self
  refine AtE.then_n (AtE.go ?_)
  obtain ⟨a, hc0, H⟩ := H
  obtain ⟨v, hc1, H⟩ := H
  obtain ⟨a_1, hc2, H⟩ := H
  obtain ⟨v_1, hc3, H⟩ := H
  obtain ⟨a_2, hc4, H⟩ := H
  obtain ⟨v_2, hc5, H⟩ := H
  obtain ⟨a_3_, hc6, hd6, H⟩ := H
  obtain ⟨v_3, hc7, H⟩ := H
  obtain ⟨a_4, hc8, H⟩ := H
  obtain ⟨v_4, hc9, H⟩ := H
  obtain ⟨a_5_, hc10, hd10, H⟩ := H
  obtain ⟨v_5, hc11, H⟩ := H
  obtain ⟨a_6_, hc12, hd12, H⟩ := H
  apply AtC.stages [29, 31] [[], [], [], [], [], [], [], [], [], [], [], [], [], [], [], [], [], [], [], [], [], [], [], [], [], [], [], [], [], [], [29], [29]] [[], [0], [0, 1], [0, 1, 2], [0, 1, 2, 3], [], [], [6], [6, 7], [6, 7, 8], [6, 7, 8, 9], [], [], [12], [12, 13], [12, 13, 14], [12, 13, 14, 15], [], [12, 13, 14, 15, 16, 17], [12, 13, 14, 15, 16, 17, 18], [], [20], [20, 21], [20, 21, 22], [20, 21, 22, 23], [], [20, 21, 22, 23, 24, 25], [20, 21, 22, 23, 24, 25, 26], [0, 1, 2, 3, 4, 5, 6, 7, 8, 9, 10, 12, 13, 14, 15, 16, 17, 18, 19, 20, 21, 22, 23, 24, 25, 26, 27], [0, 1, 2, 3, 4, 5, 6, 7, 8, 9, 10, 12, 13, 14, 15, 16, 17, 18, 19, 20, 21, 22, 23, 24, 25, 26, 27, 28], [0, 1, 2, 3, 4, 5, 6, 7, 8, 9, 10, 11, 12, 13, 14, 15, 16, 17, 18, 19, 20, 21, 22, 23, 24, 25, 26, 27, 28, 29], [0, 1, 2, 3, 4, 5, 6, 7, 8, 9, 10, 11, 12, 13, 14, 15, 16, 17, 18, 19, 20, 21, 22, 23, 24, 25, 26, 27, 28, 29, 30]] hmix (by kernel_rfl) [(6, _), (7, _), (8, _), (9, _), (10, _), (11, _), (12, _), (13, _), (14, _), (15, _), (16, _), (17, _), (18, _), (19, _), (20, _), (21, _), (22, _), (23, _), (24, _), (25, _), (26, _), (27, _), (28, _), (29, _), (30, _), (31, _), (32, _), (33, _), (34, _)] rfl 2 rfl
  refine Stg.go [0, 1, 2, 3, 4, 5, 6, 7, 8, 9, 10, 11, 12, 13, 14, 15, 16, 17, 18, 19, 20, 21, 22, 23, 24, 25, 26, 27, 28] [29] rfl rfl (QAll.cons (QOp.p hT rfl rfl rfl rfl rfl) (QAll.cons (QOp.q rfl rfl (Quiet1.loadP (i := 0) hT rfl rfl rfl rfl rfl rfl) rfl rfl) (QAll.cons (QOp.q rfl rfl (Quiet1.nilChk rfl rfl hc0) rfl rfl) (QAll.cons (QOp.p hT rfl rfl rfl rfl rfl) (QAll.cons (QOp.q rfl rfl (Quiet1.load hT rfl rfl rfl hc1) rfl rfl) (QAll.cons (QOp.p hT rfl rfl rfl rfl rfl) (QAll.cons (QOp.p hT rfl rfl rfl rfl rfl) (QAll.cons (QOp.q rfl rfl (Quiet1.loadP (i := 0) hT rfl rfl rfl rfl rfl rfl) rfl rfl) (QAll.cons (QOp.q rfl rfl (Quiet1.nilChk rfl rfl hc2) rfl rfl) (QAll.cons (QOp.p hT rfl rfl rfl rfl rfl) (QAll.cons (QOp.q rfl rfl (Quiet1.load hT rfl rfl rfl hc3) rfl rfl) (QAll.cons (QOp.p hT rfl rfl rfl rfl rfl) (QAll.cons (QOp.p hT rfl rfl rfl rfl rfl) (QAll.cons (QOp.q rfl rfl (Quiet1.loadP (i := 0) hT rfl rfl rfl rfl rfl rfl) rfl rfl) (QAll.cons (QOp.q rfl rfl (Quiet1.nilChk rfl rfl hc4) rfl rfl) (QAll.cons (QOp.p hT rfl rfl rfl rfl rfl) (QAll.cons (QOp.q rfl rfl (Quiet1.load hT rfl rfl rfl hc5) rfl rfl) (QAll.cons (QOp.p hT rfl rfl rfl rfl rfl) (QAll.cons (QOp.q rfl rfl (Quiet1.idxS (s := _) hT rfl rfl rfl rfl rfl hc6 hd6) rfl rfl) (QAll.cons (QOp.q rfl rfl (Quiet1.load hT rfl rfl rfl hc7) rfl rfl) (QAll.cons (QOp.p hT rfl rfl rfl rfl rfl) (QAll.cons (QOp.q rfl rfl (Quiet1.loadP (i := 0) hT rfl rfl rfl rfl rfl rfl) rfl rfl) (QAll.cons (QOp.q rfl rfl (Quiet1.nilChk rfl rfl hc8) rfl rfl) (QAll.cons (QOp.p hT rfl rfl rfl rfl rfl) (QAll.cons (QOp.q rfl rfl (Quiet1.load hT rfl rfl rfl hc9) rfl rfl) (QAll.cons (QOp.p hT rfl rfl rfl rfl rfl) (QAll.cons (QOp.q rfl rfl (Quiet1.idxS (s := _) hT rfl rfl rfl rfl rfl hc10 hd10) rfl rfl) (QAll.cons (QOp.q rfl rfl (Quiet1.load hT rfl rfl rfl hc11) rfl rfl) (QAll.cons (QOp.q rfl rfl (Quiet1.idxS (s := _) hT rfl rfl rfl rfl rfl hc12 hd12) rfl rfl) QAll.nil))))))))))))))))))))))))))))) ?_
  refine EAll.cons ?_ EAll.nil
  refine EOp.e rfl rfl rfl (EffX.store hT rfl rfl rfl rfl rfl H) ?_
  rintro _ _ ⟨h0u1, rfl, H⟩
  obtain ⟨a_7_, hc13, hd13, H⟩ := H
  apply Stg.next [(35, _)] rfl rfl
  refine Stg.go [11, 30] [31] rfl rfl (QAll.cons (QOp.p hT rfl rfl rfl rfl rfl) (QAll.cons (QOp.q rfl rfl (Quiet1.idxS (s := _) hT rfl rfl rfl rfl rfl hc13 hd13) rfl rfl) QAll.nil)) ?_
  refine EAll.cons ?_ EAll.nil
  refine EOp.e rfl rfl rfl (EffX.store hT rfl rfl rfl rfl rfl H) ?_
  rintro _ _ ⟨h0u2, rfl, H⟩
  apply Stg.next [] rfl rfl
  refine Stg.fin [] rfl rfl QAll.nil ?_
  exact AtE.endN rfl rfl H

theorem lift_container_heap_down__t88 (h0 : (Option Addr)) (i0 : Int) (n : Int) (w : World) (m : Heap) (hr : Rel ⟨m, []⟩ w.heap) (S : Bool → Heap → Prop) (H : container_heap_down__t88 h0 i0 n m S) :
    Calls Try.prog 91 #[Value.iface 88 (Value.agg (C_ptr h0).toArray), Value.int .i64 i0, Value.int .i64 n] w (Post ⟨w, m⟩ Value.bool S) := by
  refine Calls.lift (args := [Value.iface 88 (Value.agg (C_ptr h0).toArray), Value.int .i64 i0, Value.int .i64 n]) Try.func91 rfl Try.ntmps91 (Nat.le_of_ble_eq_true rfl) hr (container_heap_down__t88 h0 i0 n m S) H (fun H => ?_)
  refine AtC.pick (ts := [0, 1, 2]) rfl ?_
  unfold container_heap_down__t88 at H
  refine AtC.seqR ?_
  refine AtL.pures hT 1 _ _ _ _ rfl ?_
  refine AtL.nil ?_
  refine AtE.then_n (AtE.go ?_)
  refine AtC.seqR ?_
  refine AtL.pures hT 2 _ _ _ _ rfl ?_
  refine AtL.nil ?_
  refine AtE.then_n (AtE.go ?_)
  refine AtC.joinSeq (β := Unit) (fun (t0 : Int) (bb : Unit) => [(7, Value.int .i64 t0)]) (fun (t0 : Int) (bb : Unit) => []) [1] [] H (by exact rfl) (by exact rfl) (fun t0 bb h0u1 H => ?_) (fun J1 H HK1 => ?_)
  ·
   refine AtC.seqR ?_
   refine AtL.pures hT 4 _ _ _ _ rfl ?_
   refine AtL.nil ?_
   refine AtE.then_n (AtE.go ?_)
   refine AtC.ret ?_
   exact AtE.retN (rs := [.tmp 6]) rfl (ResAll.cons (ResAt.tmp rfl) ResAll.nil) rfl H
  ·
   refine AtC.block ?_
   refine AtC.loopM (fun (s0 : Int) => [(7, Value.int .i64 s0)]) (fun (s0 : Int) => []) [0, 1, 2] [7, 0, 1, 2] [] [] H (by exact rfl) (by exact rfl) (by exact rfl) (by decide) (by exact rfl) (fun Kp2 s0 h0u2 H Q2 HK2 => ?_)
   refine AtC.block ?_
   refine AtC.seqR ?_
   refine AtL.pures hT 4 _ _ _ _ rfl ?_
   replace H := H _ rfl
   refine AtL.nil ?_
   refine AtE.then_n (AtE.go ?_)
   refine AtC.seq ?_
   refine AtC.joinSeq (β := Unit) (fun (t0u1 : Bool) (bb_1 : Unit) => [(21, Value.bool t0u1)]) (fun (t0u1 : Bool) (bb_1 : Unit) => []) [0, 1, 2, 7, 8] [] H (by exact rfl) (by exact rfl) (fun t0u1 bb_1 h0u3 H => ?_) (fun J3 H HK3 => ?_)
   ·
    refine AtC.condB H rfl (fun H => ?_) (fun H => ?_)
    ·
     refine AtC.exit ?_
     refine AtE.then_x ?_
     refine AtE.blk_miss rfl ?_
     refine AtE.then_x ?_
     refine AtE.blk_hit ?_
     exact AtE.then_n ((HK1 _ () _ H).pickP (ts := [7, 1]) (is := []) rfl rfl (by decide) rfl)
    ·
     refine AtC.skip ?_
     refine AtE.then_n (AtE.go ?_)
     refine AtC.seqR ?_
     refine AtL.pures hT 2 _ _ _ _ rfl ?_
     refine AtL.nil ?_
     refine AtE.then_n (AtE.go ?_)
     refine AtC.joinSeq (β := Unit) (fun (t0u2 : Int) (bb_2 : Unit) => [(9, Value.int .i64 t0u2)]) (fun (t0u2 : Int) (bb_2 : Unit) => []) [0, 1, 2, 7] [] H (by exact rfl) (by exact rfl) (fun t0u2 bb_2 h0u4 H => ?_) (fun J4 H HK4 => ?_)
     ·
      refine AtC.seq ?_
      refine AtC.seqR ?_
      refine AtL.pures hT 3 _ _ _ _ rfl ?_
      refine AtL.e rfl (EffX.invoke (f := 60) (sh := fun h => queue_ranks_Less _ _ _ h _) (H0 := H) hT rfl rfl (by kernel_rfl) rfl Try.call60 rfl (hl := fun w m hr hw => lift_queue_ranks_Less _ _ _ w m hr _ hw)) ?_
      rintro _ _ ⟨v_1, h0u7, rfl, rfl, H⟩
      refine AtL.pures hT 1 _ _ _ _ rfl ?_
      refine AtL.nil ?_
      refine AtE.then_n (AtE.go ?_)
      refine AtC.condB H rfl (fun H => ?_) (fun H => ?_)
      ·
       refine AtC.exit ?_
       refine AtE.then_x ?_
       refine AtE.blk_miss rfl ?_
       refine AtE.then_x ?_
       refine AtE.blk_hit ?_
       exact AtE.then_n ((HK1 _ () _ H).pickP (ts := [7, 1]) (is := []) rfl rfl (by decide) rfl)
      ·
       refine AtC.skip ?_
       refine AtE.then_n (AtE.go ?_)
       refine AtC.seqR ?_
       refine AtL.pures hT 3 _ _ _ _ rfl ?_
       refine AtL.e rfl (EffX.invoke (f := 166) (sh := fun h => queue_ranks_Swap _ _ _ h _) (H0 := H) hT rfl rfl (by kernel_rfl) rfl Try.call166 rfl (hl := fun w m hr hw => lift_queue_ranks_Swap _ _ _ w m hr _ hw)) ?_
       rintro _ _ ⟨v_2, h0u8, rfl, rfl, H⟩
       refine AtL.nil ?_
       refine AtE.then_n (AtE.go ?_)
       refine AtC.region ?_
       refine AtL.pures hT 2 _ _ _ _ rfl ?_
       refine AtL.nil ?_
       refine AtE.blk_n ?_
       exact AtE.then_n ((HK2 _ _ H).pickP (ts := [7, 0, 1, 2]) (is := []) rfl rfl (by decide) rfl)
     ·
      refine AtC.seqR ?_
      refine AtL.pures hT 3 _ _ _ _ rfl ?_
      replace H := H _ rfl
      refine AtL.nil ?_
      refine AtE.then_n (AtE.go ?_)
      refine AtC.joinSeq (β := Unit) (fun (t0u3 : Bool) (bb_3 : Unit) => [(33, Value.bool t0u3)]) (fun (t0u3 : Bool) (bb_3 : Unit) => []) [0, 1, 2, 7, 9, 10] [] H (by exact rfl) (by exact rfl) (fun t0u3 bb_3 h0u5 H => ?_) (fun J5 H HK5 => ?_)
      ·
       refine AtC.condB H rfl (fun H => ?_) (fun H => ?_)
       ·
        refine AtC.region ?_
        refine AtL.pures hT 2 _ _ _ _ rfl ?_
        refine AtL.nil ?_
        exact AtE.then_n ((HK4 _ () _ H).pickP (ts := [9, 0, 1, 2, 7]) (is := []) rfl rfl (by decide) rfl)
       ·
        refine AtC.skip ?_
        exact AtE.then_n ((HK4 _ () _ H).pickP (ts := [9, 0, 1, 2, 7]) (is := []) rfl rfl (by decide) rfl)
      ·
       refine AtC.region ?_
       refine AtL.pures hT 4 _ _ _ _ rfl ?_
       refine AtL.splitB (t := 28) H rfl (fun H => ?_) (fun H => ?_)
       ·
        refine AtL.yes rfl rfl rfl ?_
        refine AtL.pures hT 1 _ _ _ _ rfl ?_
        refine AtL.yes rfl rfl rfl ?_
        refine AtL.pures hT 1 _ _ _ _ rfl ?_
        refine AtL.yes rfl rfl rfl ?_
        refine AtL.pures hT 1 _ _ _ _ rfl ?_
        refine AtL.yes rfl rfl rfl ?_
        refine AtL.e rfl (EffX.invoke (f := 60) (sh := fun h => queue_ranks_Less _ _ _ h _) (H0 := H) hT rfl rfl (by kernel_rfl) rfl Try.call60 rfl (hl := fun w m hr hw => lift_queue_ranks_Less _ _ _ w m hr _ hw)) ?_
        rintro _ _ ⟨v, h0u6, rfl, rfl, H⟩
        refine AtL.pures hT 1 _ _ _ _ rfl ?_
        refine AtL.nil ?_
        exact AtE.then_n ((HK5 _ () _ H).pickP (ts := [33, 0, 1, 2, 7, 9, 10]) (is := []) rfl rfl (by decide) rfl)
       ·
        refine AtL.noF rfl rfl rfl (by decide) rfl ?_
        refine AtL.noF rfl rfl rfl (by decide) rfl ?_
        refine AtL.noF rfl rfl rfl (by decide) rfl ?_
        refine AtL.noF rfl rfl rfl (by decide) rfl ?_
        refine AtL.pures hT 1 _ _ _ _ rfl ?_
        refine AtL.nil ?_
        exact AtE.then_n ((HK5 _ () _ H).pickP (ts := [33, 0, 1, 2, 7, 9, 10]) (is := []) rfl rfl (by decide) rfl)
   ·
    refine AtC.region ?_
    refine AtL.pures hT 4 _ _ _ _ rfl ?_
    refine AtL.splitB (t := 18) H rfl (fun H => ?_) (fun H => ?_)
    ·
     refine AtL.noF rfl rfl rfl (by decide) rfl ?_
     refine AtL.noF rfl rfl rfl (by decide) rfl ?_
     refine AtL.pures hT 1 _ _ _ _ rfl ?_
     refine AtL.nil ?_
     exact AtE.then_n ((HK3 _ () _ H).pickP (ts := [21, 0, 1, 2, 7, 8]) (is := []) rfl rfl (by decide) rfl)
    ·
     refine AtL.yes rfl rfl rfl ?_
     refine AtL.pures hT 1 _ _ _ _ rfl ?_
     refine AtL.yes rfl rfl rfl ?_
     refine AtL.pures hT 1 _ _ _ _ rfl ?_
     refine AtL.pures hT 1 _ _ _ _ rfl ?_
     refine AtL.nil ?_
     exact AtE.then_n ((HK3 _ () _ H).pickP (ts := [21, 0, 1, 2, 7, 8]) (is := []) rfl rfl (by decide) rfl)

theorem lift_container_heap_up__t88 (h0 : (Option Addr)) (j : Int) (w : World) (m : Heap) (hr : Rel ⟨m, []⟩ w.heap) (S : Unit → Heap → Prop) (H : container_heap_up__t88 h0 j m S) :
    Calls Try.prog 92 #[Value.iface 88 (Value.agg (C_ptr h0).toArray), Value.int .i64 j] w (Post ⟨w, m⟩ (fun _ => Value.tuple #[]) S) := by
  refine Calls.lift (args := [Value.iface 88 (Value.agg (C_ptr h0).toArray), Value.int .i64 j]) Try.func92 rfl Try.ntmps92 (Nat.le_of_ble_eq_true rfl) hr (container_heap_up__t88 h0 j m S) H (fun H => ?_)
  refine AtC.pick (ts := [0, 1]) rfl ?_
  unfold container_heap_up__t88 at H
  refine AtC.block ?_
  refine AtC.loopM (fun (s0 : Int) => [(1, Value.int .i64 s0)]) (fun (s0 : Int) => []) [0] [1, 0] [] [] H (by exact rfl) (by exact rfl) (by exact rfl) (by decide) (by exact rfl) (fun Kp1 s0 h0u1 H Q1 HK1 => ?_)
  refine AtC.block ?_
  refine AtC.seqR ?_
  refine AtL.pures hT 4 _ _ _ _ rfl ?_
  replace H := H _ rfl
  refine AtL.nil ?_
  refine AtE.then_n (AtE.go ?_)
  refine AtC.seq ?_
  refine AtC.joinSeq (β := Unit) (fun (t0 : Bool) (bb : Unit) => [(17, Value.bool t0)]) (fun (t0 : Bool) (bb : Unit) => []) [0, 1, 4] [] H (by exact rfl) (by exact rfl) (fun t0 bb h0u2 H => ?_) (fun J2 H HK2 => ?_)
  ·
   refine AtC.condB H rfl (fun H => ?_) (fun H => ?_)
   ·
    refine AtC.exit ?_
    refine AtE.then_x ?_
    refine AtE.blk_miss rfl ?_
    refine AtE.then_x ?_
    refine AtE.blk_hit ?_
    exact AtE.endN rfl rfl H
   ·
    refine AtC.skip ?_
    refine AtE.then_n (AtE.go ?_)
    refine AtC.seqR ?_
    refine AtL.pures hT 3 _ _ _ _ rfl ?_
    refine AtL.e rfl (EffX.invoke (f := 166) (sh := fun h => queue_ranks_Swap _ _ _ h _) (H0 := H) hT rfl rfl (by kernel_rfl) rfl Try.call166 rfl (hl := fun w m hr hw => lift_queue_ranks_Swap _ _ _ w m hr _ hw)) ?_
    rintro _ _ ⟨v_1, h0u4, rfl, rfl, H⟩
    refine AtL.nil ?_
    refine AtE.then_n (AtE.go ?_)
    refine AtC.region ?_
    refine AtL.pures hT 2 _ _ _ _ rfl ?_
    refine AtL.nil ?_
    refine AtE.blk_n ?_
    exact AtE.then_n ((HK1 _ _ H).pickP (ts := [1, 0]) (is := []) rfl rfl (by decide) rfl)
  ·
   refine AtC.region ?_
   refine AtL.pures hT 4 _ _ _ _ rfl ?_
   refine AtL.splitB (t := 11) H rfl (fun H => ?_) (fun H => ?_)
   ·
    refine AtL.noF rfl rfl rfl (by decide) rfl ?_
    refine AtL.noF rfl rfl rfl (by decide) rfl ?_
    refine AtL.noF rfl rfl rfl (by decide) rfl ?_
    refine AtL.noF rfl rfl rfl (by decide) rfl ?_
    refine AtL.noF rfl rfl rfl (by decide) rfl ?_
    refine AtL.pures hT 1 _ _ _ _ rfl ?_
    refine AtL.nil ?_
    exact AtE.then_n ((HK2 _ () _ H).pickP (ts := [17, 0, 1, 4]) (is := []) rfl rfl (by decide) rfl)
   ·
    refine AtL.yes rfl rfl rfl ?_
    refine AtL.pures hT 1 _ _ _ _ rfl ?_
    refine AtL.yes rfl rfl rfl ?_
    refine AtL.pures hT 1 _ _ _ _ rfl ?_
    refine AtL.yes rfl rfl rfl ?_
    refine AtL.pures hT 1 _ _ _ _ rfl ?_
    refine AtL.yes rfl rfl rfl ?_
    refine AtL.e rfl (EffX.invoke (f := 60) (sh := fun h => queue_ranks_Less _ _ _ h _) (H0 := H) hT rfl rfl (by kernel_rfl) rfl Try.call60 rfl (hl := fun w m hr hw => lift_queue_ranks_Less _ _ _ w m hr _ hw)) ?_
    rintro _ _ ⟨v, h0u3, rfl, rfl, H⟩
    refine AtL.yes rfl rfl rfl ?_
    refine AtL.pures hT 1 _ _ _ _ rfl ?_
    refine AtL.pures hT 1 _ _ _ _ rfl ?_
    refine AtL.nil ?_
    exact AtE.then_n ((HK2 _ () _ H).pickP (ts := [17, 0, 1, 4]) (is := []) rfl rfl (by decide) rfl)

theorem lift_container_heap_Fix__t88 (h0 : (Option Addr)) (i : Int) (w : World) (m : Heap) (hr : Rel ⟨m, []⟩ w.heap) (S : Unit → Heap → Prop) (H : container_heap_Fix__t88 h0 i m S) :
    Calls Try.prog 48 #[Value.iface 88 (Value.agg (C_ptr h0).toArray), Value.int .i64 i] w (Post ⟨w, m⟩ (fun _ => Value.tuple #[]) S) := by
  refine Calls.lift (args := [Value.iface 88 (Value.agg (C_ptr h0).toArray), Value.int .i64 i]) Try.func48 rfl Try.ntmps48 (Nat.le_of_ble_eq_true rfl) hr (container_heap_Fix__t88 h0 i m S) H (fun H => ?_)
  refine AtC.pick (ts := [0, 1]) rfl ?_
  unfold container_heap_Fix__t88 at H
  refine AtC.seqR ?_
  refine AtL.pures hT 3 _ _ _ _ rfl ?_
  refine AtL.e rfl (EffX.invoke (f := 163) (sh := fun h => queue_ranks_Len _ h _) (H0 := H) hT rfl rfl (by kernel_rfl) rfl Try.call163 rfl (hl := fun w m hr hw => lift_queue_ranks_Len _ w m hr _ hw)) ?_
  rintro _ _ ⟨v, h0u1, rfl, rfl, H⟩
  refine AtL.e rfl (EffX.call (f := 91) (sh := fun h => container_heap_down__t88 _ _ _ h _) (H0 := H) rfl Try.call91 rfl (hl := fun w m hr hw => lift_container_heap_down__t88 _ _ _ w m hr _ hw)) ?_
  rintro _ _ ⟨v_1, h0u2, rfl, rfl, H⟩
  refine AtL.pures hT 1 _ _ _ _ rfl ?_
  refine AtL.nil ?_
  refine AtE.then_n (AtE.go ?_)
  refine AtC.condB H rfl (fun H => ?_) (fun H => ?_)
  ·
   refine AtC.region ?_
   refine AtL.pures hT 2 _ _ _ _ rfl ?_
   refine AtL.e rfl (EffX.call (f := 92) (sh := fun h => container_heap_up__t88 _ _ h _) (H0 := H) rfl Try.call92 rfl (hl := fun w m hr hw => lift_container_heap_up__t88 _ _ w m hr _ hw)) ?_
   rintro _ _ ⟨v_2, h0u3, rfl, rfl, H⟩
   refine AtL.nil ?_
   exact AtE.endN rfl rfl H
  ·
   refine AtC.skip ?_
   exact AtE.endN rfl rfl H

theorem lift_queue_Bump (q : (Option Addr)) (v : Int) (by0 : Int) (w : World) (m : Heap) (hr : Rel ⟨m, []⟩ w.heap) (S : Int → Heap → Prop) (H : queue_Bump q v by0 m S) :
    Calls Try.prog 12 #[Value.pointer q, Value.int .i64 v, Value.int .i64 by0] w (Post ⟨w, m⟩ (Value.int .i64) S) := by
  refine Calls.lift (args := [Value.pointer q, Value.int .i64 v, Value.int .i64 by0]) Try.func12 rfl Try.ntmps12 (Nat.le_of_ble_eq_true rfl) hr (queue_Bump q v by0 m S) H (fun H => ?_)
  refine AtC.pick (ts := [0, 1, 2]) rfl ?_
  unfold queue_Bump at H
  refine AtC.seqR ?_
  refine AtL.pures hT 1 _ _ _ _ rfl ?_
  refine AtL.nil ?_
  refine AtE.then_n (AtE.go ?_)
  refine AtC.seq ?_
  refine AtC.block ?_
  refine AtC.seqR ?_
  refine AtL.pures hT 2 _ _ _ _ rfl ?_
  refine AtL.e rfl (EffX.call (f := 46) (sh := fun h => queue_there _ _ h _) (H0 := H) rfl Try.call46 rfl (hl := fun w m hr hw => lift_queue_there _ _ w m hr _ hw)) ?_
  rintro _ _ ⟨v_1, h0, rfl, rfl, H⟩
  refine AtL.pures hT 2 _ _ _ _ rfl ?_
  refine AtL.nil ?_
  refine AtE.then_n (AtE.go ?_)
  refine AtC.condB H rfl (fun H => ?_) (fun H => ?_)
  ·
   refine AtC.seqR ?_
   refine AtL.pures hT 1 _ _ _ _ rfl ?_
   refine AtL.nil ?_
   refine AtE.then_n (AtE.go ?_)
   refine AtC.ret ?_
   refine AtE.blk_r ?_
   refine AtE.then_r ?_
   exact AtE.retN (rs := [.tmp 6]) rfl (ResAll.cons (ResAt.tmp rfl) ResAll.nil) rfl H
  ·
   refine AtC.seqR ?_
   refine AtL.pures hT 3 _ _ _ _ rfl ?_
   refine AtL.nil ?_
   refine AtE.then_n (AtE.go ?_)
   refine AtC.condB H rfl (fun H => ?_) (fun H => ?_)
   ·
    refine AtC.seqR ?_
    refine AtL.pures hT 1 _ _ _ _ rfl ?_
    refine AtL.nil ?_
    refine AtE.then_n (AtE.go ?_)
    refine AtC.ret ?_
    refine AtE.blk_r ?_
    refine AtE.then_r ?_
    exact AtE.retN (rs := [.tmp 6]) rfl (ResAll.cons (ResAt.tmp rfl) ResAll.nil) rfl H
   ·
    refine AtC.seqR ?_
    refine AtL.pures hT 2 _ _ _ _ rfl ?_
    obtain ⟨a, hc0, H⟩ := H
    refine AtL.q rfl (Quiet1.nilChk rfl rfl hc0) ?_
    refine AtL.pures hT 1 _ _ _ _ rfl ?_
    obtain ⟨v_2, hc1, H⟩ := H
    refine AtL.q rfl (Quiet1.load hT rfl rfl rfl hc1) ?_
    refine AtL.pures hT 1 _ _ _ _ rfl ?_
    obtain ⟨a_1_, hc2, hd2, H⟩ := H
    refine AtL.q rfl (Quiet1.idxS (s := _) hT rfl rfl rfl rfl rfl hc2 hd2) ?_
    obtain ⟨v_3, hc3, H⟩ := H
    refine AtL.q rfl (Quiet1.load hT rfl rfl rfl hc3) ?_
    refine AtL.pures hT 3 _ _ _ _ rfl ?_
    refine AtL.nil ?_
    refine AtE.then_n (AtE.go ?_)
    refine AtC.condB H rfl (fun H => ?_) (fun H => ?_)
    ·
     refine AtC.seqR ?_
     refine AtL.pures hT 1 _ _ _ _ rfl ?_
     refine AtL.nil ?_
     refine AtE.then_n (AtE.go ?_)
     refine AtC.ret ?_
     refine AtE.blk_r ?_
     refine AtE.then_r ?_
     exact AtE.retN (rs := [.tmp 6]) rfl (ResAll.cons (ResAt.tmp rfl) ResAll.nil) rfl H
    ·
     refine AtC.skip ?_
     refine AtE.blk_n ?_
     refine AtE.then_n (AtE.go ?_)
     refine AtC.seqR ?_
     refine AtL.pures hT 1 _ _ _ _ rfl ?_
     obtain ⟨a_2, hc4, H⟩ := H
     refine AtL.q rfl (Quiet1.nilChk rfl rfl hc4) ?_
     refine AtL.pures hT 1 _ _ _ _ rfl ?_
     obtain ⟨v_4, hc5, H⟩ := H
     refine AtL.q rfl (Quiet1.load hT rfl rfl rfl hc5) ?_
     refine AtL.pures hT 1 _ _ _ _ rfl ?_
     obtain ⟨a_3_, hc6, hd6, H⟩ := H
     refine AtL.q rfl (Quiet1.idxS (s := _) hT rfl rfl rfl rfl rfl hc6 hd6) ?_
     obtain ⟨v_5, hc7, H⟩ := H
     refine AtL.q rfl (Quiet1.load hT rfl rfl rfl hc7) ?_
     refine AtL.pures hT 2 _ _ _ _ rfl ?_
     obtain ⟨a_4_, hc8, hd8, H⟩ := H
     refine AtL.q rfl (Quiet1.idxS (s := _) hT rfl rfl rfl rfl rfl hc8 hd8) ?_
     refine AtL.e rfl (EffX.store hT rfl rfl rfl rfl rfl H) ?_
     rintro _ _ ⟨h0u1, rfl, H⟩
     refine AtL.nil ?_
     refine AtE.then_n (AtE.go ?_)
     refine AtC.joinSeq (β := Unit) (fun (t0 : Unit) (bb : Unit) => []) (fun (t0 : Unit) (bb : Unit) => []) [] [] H (by exact rfl) (by exact rfl) (fun t0 bb h0u2 H => ?_) (fun J10 H HK10 => ?_)
     ·
      refine AtC.seqR ?_
      refine AtL.pures hT 1 _ _ _ _ rfl ?_
      refine AtL.nil ?_
      refine AtE.then_n (AtE.go ?_)
      refine AtC.ret ?_
      exact AtE.retN (rs := [.tmp 6]) rfl (ResAll.cons (ResAt.tmp rfl) ResAll.nil) rfl H
     ·
      refine AtC.seqR ?_
      refine AtL.pures hT 1 _ _ _ _ rfl ?_
      obtain ⟨a_5, hc10, H⟩ := H
      refine AtL.q rfl (Quiet1.nilChk rfl rfl hc10) ?_
      refine AtL.pures hT 1 _ _ _ _ rfl ?_
      obtain ⟨v_6, hc11, H⟩ := H
      refine AtL.q rfl (Quiet1.load hT rfl rfl rfl hc11) ?_
      refine AtL.pures hT 1 _ _ _ _ rfl ?_
      refine AtL.e rfl (EffX.call (f := 47) (sh := fun h => slices_Index_int_int _ _ h _) (H0 := H) rfl Try.call47 rfl (hl := fun w m hr hw => lift_slices_Index_int_int _ _ w m hr _ hw)) ?_
      rintro _ _ ⟨v_7, h0u3, rfl, rfl, H⟩
      refine AtL.pures hT 1 _ _ _ _ rfl ?_
      refine AtL.nil ?_
      refine AtE.then_n (AtE.go ?_)
      refine AtC.seqR ?_
      refine AtL.pures hT 2 _ _ _ _ rfl ?_
      refine AtL.nil ?_
      refine AtE.then_n (AtE.go ?_)
      refine AtC.condB H rfl (fun H => ?_) (fun H => ?_)
      ·
       refine AtC.region ?_
       refine AtL.pures hT 1 _ _ _ _ rfl ?_
       refine AtL.q rfl (Quiet1.build (cs := [_]) hT rfl rfl rfl rfl rfl rfl) ?_
       refine AtL.q rfl (Quiet1.makeI hT rfl rfl (by intro m; nofun) rfl) ?_
       refine AtL.pures hT 1 _ _ _ _ rfl ?_
       refine AtL.e rfl (EffX.call (f := 48) (sh := fun h => container_heap_Fix__t88 _ _ h _) (H0 := H) rfl Try.call48 rfl (hl := fun w m hr hw => lift_container_heap_Fix__t88 _ _ w m hr _ hw)) ?_
       rintro _ _ ⟨v_8, h0u4, rfl, rfl, H⟩
       refine AtL.nil ?_
       exact AtE.then_n ((HK10 _ () _ H).pickP (ts := []) (is := []) rfl rfl (by decide) rfl)
      ·
       refine AtC.skip ?_
       exact AtE.then_n ((HK10 _ () _ H).pickP (ts := []) (is := []) rfl rfl (by decide) rfl)

theorem lift_queue_ranks_Pop (r : (Option Addr)) (w : World) (m : Heap) (hr : Rel ⟨m, []⟩ w.heap) (S : Int → Heap → Prop) (H : queue_ranks_Pop r m S) :
    Calls Try.prog 164 #[Value.agg (C_ptr r).toArray] w (Post ⟨w, m⟩ (fun r => Value.iface 3 ((Value.int .i64) r)) S) := by
  refine Calls.lift (args := [Value.agg (C_ptr r).toArray]) Try.func164 rfl Try.ntmps164 (Nat.le_of_ble_eq_true rfl) hr (queue_ranks_Pop r m S) H (fun H => ?_)
  refine AtC.pick (ts := [0]) rfl ?_
  unfold queue_ranks_Pop at H
  refine AtC.seqR ?_
  refine AtL.e rfl (EffX.boxP (cs := [_]) rfl rfl rfl H) ?_
  rintro _ _ ⟨b, _, rfl, rfl, _, H⟩
  replace H := H.self
  refine AtL.pures hT 1 _ _ _ _ rfl ?_
  refine AtL.nil ?_
  refine AtE.then_n (AtE.go ?_)
  refine AtC.seqR ?_
  refine AtL.pures hT 1 _ _ _ _ rfl ?_
  refine AtL.q rfl (Quiet1.loadP (i := 0) hT rfl rfl rfl rfl rfl rfl) ?_
  obtain ⟨a, hc0, H⟩ := H
  refine AtL.q rfl (Quiet1.nilChk rfl rfl hc0) ?_
  refine AtL.pures hT 1 _ _ _ _ rfl ?_
  obtain ⟨v, hc1, H⟩ := H
  refine AtL.q rfl (Quiet1.load hT rfl rfl rfl hc1) ?_
  refine AtL.pures hT 3 _ _ _ _ rfl ?_
  replace H := H _ rfl
  refine AtL.nil ?_
  refine AtE.then_n (AtE.go ?_)
  refine AtC.seqR ?_
  refine AtL.pures hT 1 _ _ _ _ rfl ?_
  refine AtL.q rfl (Quiet1.loadP (i := 0) hT rfl rfl rfl rfl rfl rfl) ?_
  obtain ⟨a_1, hc2, H⟩ := H
  refine AtL.q rfl (Quiet1.nilChk rfl rfl hc2) ?_
  refine AtL.pures hT 1 _ _ _ _ rfl ?_
  obtain ⟨v_1, hc3, H⟩ := H
  refine AtL.q rfl (Quiet1.load hT rfl rfl rfl hc3) ?_
  refine AtL.pures hT 1 _ _ _ _ rfl ?_
  obtain ⟨a_2_, hc4, hd4, H⟩ := H
  refine AtL.q rfl (Quiet1.idxS (s := _) hT rfl rfl rfl rfl rfl hc4 hd4) ?_
  obtain ⟨v_2, hc5, H⟩ := H
  refine AtL.q rfl (Quiet1.load hT rfl rfl rfl hc5) ?_
  refine AtL.pures hT 1 _ _ _ _ rfl ?_
  refine AtL.nil ?_
  refine AtE.then_n (AtE.go ?_)
  obtain ⟨a_3, hc6, H⟩ := H
  obtain ⟨v_3, hc7, H⟩ := H
  obtain ⟨v_4, hs8, H⟩ := sliceOf.out H
  obtain ⟨a_4, hc9, H⟩ := H
  apply AtC.seqS [11] [[], [], [], [], [], [], [], [], [], [], [], []] [[], [0], [], [2], [2, 3], [2, 3, 4], [2, 3, 4, 5], [], [2, 3, 4, 5, 6, 7], [0, 1, 2, 3, 4, 5, 6, 7, 8], [0, 1, 2, 3, 4, 5, 6, 7, 8, 9], [0, 1, 2, 3, 4, 5, 6, 7, 8, 9, 10]] hmix (by kernel_rfl) [(20, _), (21, _), (22, _), (23, _), (24, _), (25, _), (26, _), (27, _), (28, _), (29, _), (30, _)] rfl 1 rfl
  refine Stg.go [0, 1, 2, 3, 4, 5, 6, 7, 8, 9, 10] [11] rfl rfl (QAll.cons (QOp.p hT rfl rfl rfl rfl rfl) (QAll.cons (QOp.q rfl rfl (Quiet1.loadP (i := 0) hT rfl rfl rfl rfl rfl rfl) rfl rfl) (QAll.cons (QOp.p hT rfl rfl rfl rfl rfl) (QAll.cons (QOp.q rfl rfl (Quiet1.loadP (i := 0) hT rfl rfl rfl rfl rfl rfl) rfl rfl) (QAll.cons (QOp.q rfl rfl (Quiet1.nilChk rfl rfl hc6) rfl rfl) (QAll.cons (QOp.p hT rfl rfl rfl rfl rfl) (QAll.cons (QOp.q rfl rfl (Quiet1.load hT rfl rfl rfl hc7) rfl rfl) (QAll.cons (QOp.p hT rfl rfl rfl rfl rfl) (QAll.cons (QOp.q rfl rfl (Quiet1.sliceIs hT rfl rfl rfl rfl rfl rfl rfl (fun h => by cases h <;> rfl) hs8) rfl rfl) (QAll.cons (QOp.q rfl rfl (Quiet1.nilChk rfl rfl hc9) rfl rfl) (QAll.cons (QOp.p hT rfl rfl rfl rfl rfl) QAll.nil))))))))))) ?_
  refine EAll.cons ?_ EAll.nil
  refine EOp.e rfl rfl rfl (EffX.store hT rfl rfl rfl rfl rfl H) ?_
  rintro _ _ ⟨h0u1, rfl, H⟩
  apply Stg.next [] rfl rfl
  refine Stg.fin [] rfl rfl QAll.nil ?_
  refine AtE.then_n (AtE.go ?_)
  refine AtC.seqR ?_
  refine AtL.pures hT 1 _ _ _ _ rfl ?_
  refine AtL.q rfl (Quiet1.makeI hT rfl rfl (by intro m; nofun) rfl) ?_
  refine AtL.pures hT 1 _ _ _ _ rfl ?_
  refine AtL.nil ?_
  refine AtE.then_n (AtE.go ?_)
  refine AtC.ret ?_
  exact AtE.retN (rs := [.tmp 2]) rfl (ResAll.cons (ResAt.tmp rfl) ResAll.nil) rfl H

theorem lift_container_heap_Pop__t88 (h0 : (Option Addr)) (w : World) (m : Heap) (hr : Rel ⟨m, []⟩ w.heap) (S : Int → Heap → Prop) (H : container_heap_Pop__t88 h0 m S) :
    Calls Try.prog 49 #[Value.iface 88 (Value.agg (C_ptr h0).toArray)] w (Post ⟨w, m⟩ (fun r => Value.iface 3 ((Value.int .i64) r)) S) := by
  refine Calls.lift (args := [Value.iface 88 (Value.agg (C_ptr h0).toArray)]) Try.func49 rfl Try.ntmps49 (Nat.le_of_ble_eq_true rfl) hr (container_heap_Pop__t88 h0 m S) H (fun H => ?_)
  refine AtC.pick (ts := [0]) rfl ?_
  unfold container_heap_Pop__t88 at H
  refine AtC.seqR ?_
  refine AtL.pures hT 1 _ _ _ _ rfl ?_
  refine AtL.nil ?_
  refine AtE.then_n (AtE.go ?_)
  refine AtC.seqR ?_
  refine AtL.pures hT 1 _ _ _ _ rfl ?_
  refine AtL.e rfl (EffX.invoke (f := 163) (sh := fun h => queue_ranks_Len _ h _) (H0 := H) hT rfl rfl (by kernel_rfl) rfl Try.call163 rfl (hl := fun w m hr hw => lift_queue_ranks_Len _ w m hr _ hw)) ?_
  rintro _ _ ⟨v, h0u1, rfl, rfl, H⟩
  refine AtL.pures hT 2 _ _ _ _ rfl ?_
  replace H := H _ rfl
  refine AtL.nil ?_
  refine AtE.then_n (AtE.go ?_)
  refine AtC.seqR ?_
  refine AtL.pures hT 2 _ _ _ _ rfl ?_
  refine AtL.e rfl (EffX.invoke (f := 166) (sh := fun h => queue_ranks_Swap _ _ _ h _) (H0 := H) hT rfl rfl (by kernel_rfl) rfl Try.call166 rfl (hl := fun w m hr hw => lift_queue_ranks_Swap _ _ _ w m hr _ hw)) ?_
  rintro _ _ ⟨v_1, h0u2, rfl, rfl, H⟩
  refine AtL.nil ?_
  refine AtE.then_n (AtE.go ?_)
  refine AtC.seqR ?_
  refine AtL.pures hT 2 _ _ _ _ rfl ?_
  refine AtL.e rfl (EffX.call (f := 91) (sh := fun h => container_heap_down__t88 _ _ _ h _) (H0 := H) rfl Try.call91 rfl (hl := fun w m hr hw => lift_container_heap_down__t88 _ _ _ w m hr _ hw)) ?_
  rintro _ _ ⟨v_2, h0u3, rfl, rfl, H⟩
  refine AtL.nil ?_
  refine AtE.then_n (AtE.go ?_)
  refine AtC.seqR ?_
  refine AtL.pures hT 1 _ _ _ _ rfl ?_
  refine AtL.e rfl (EffX.invoke (f := 164) (sh := fun h => queue_ranks_Pop _ h _) (H0 := H) hT rfl rfl (by kernel_rfl) rfl Try.call164 rfl (hl := fun w m hr hw => lift_queue_ranks_Pop _ w m hr _ hw)) ?_
  rintro _ _ ⟨v_3, h0u4, rfl, rfl, H⟩
  refine AtL.pures hT 1 _ _ _ _ rfl ?_
  refine AtL.nil ?_
  refine AtE.then_n (AtE.go ?_)
  refine AtC.ret ?_
  exact AtE.retN (rs := [.tmp 2]) rfl (ResAll.cons (ResAt.tmp rfl) ResAll.nil) rfl H

theorem lift_queue_Pop (q : (Option Addr)) (w : World) (m : Heap) (hr : Rel ⟨m, []⟩ w.heap) (S : (Int × Bool) → Heap → Prop) (H : queue_Pop q m S) :
    Calls Try.prog 13 #[Value.pointer q] w (Post ⟨w, m⟩ (fun r => Value.tuple #[(Value.int .i64) r.1, Value.bool r.2]) S) := by
  refine Calls.lift (args := [Value.pointer q]) Try.func13 rfl Try.ntmps13 (Nat.le_of_ble_eq_true rfl) hr (queue_Pop q m S) H (fun H => ?_)
  refine AtC.pick (ts := [0]) rfl ?_
  unfold queue_Pop at H
  refine AtC.seqR ?_
  refine AtL.pures hT 2 _ _ _ _ rfl ?_
  refine AtL.nil ?_
  refine AtE.then_n (AtE.go ?_)
  refine AtC.seq ?_
  refine AtC.seqR ?_
  refine AtL.pures hT 1 _ _ _ _ rfl ?_
  obtain ⟨a, hc0, H⟩ := H
  refine AtL.q rfl (Quiet1.nilChk rfl rfl hc0) ?_
  refine AtL.pures hT 1 _ _ _ _ rfl ?_
  obtain ⟨v, hc1, H⟩ := H
  refine AtL.q rfl (Quiet1.load hT rfl rfl rfl hc1) ?_
  refine AtL.pures hT 2 _ _ _ _ rfl ?_
  refine AtL.nil ?_
  refine AtE.then_n (AtE.go ?_)
  refine AtC.condB H rfl (fun H => ?_) (fun H => ?_)
  ·
   refine AtC.seqR ?_
   refine AtL.pures hT 2 _ _ _ _ rfl ?_
   refine AtL.nil ?_
   refine AtE.then_n (AtE.go ?_)
   refine AtC.ret ?_
   refine AtE.then_r ?_
   exact AtE.retN (rs := [.tmp 2, .tmp 3]) rfl (ResAll.cons (ResAt.tmp rfl) (ResAll.cons (ResAt.tmp rfl) ResAll.nil)) rfl H
  ·
   refine AtC.skip ?_
   refine AtE.then_n (AtE.go ?_)
   refine AtC.seqR ?_
   refine AtL.pures hT 1 _ _ _ _ rfl ?_
   refine AtL.q rfl (Quiet1.build (cs := [_]) hT rfl rfl rfl rfl rfl rfl) ?_
   refine AtL.q rfl (Quiet1.makeI hT rfl rfl (by intro m; nofun) rfl) ?_
   refine AtL.e rfl (EffX.call (f := 49) (sh := fun h => container_heap_Pop__t88 _ h _) (H0 := H) rfl Try.call49 rfl (hl := fun w m hr hw => lift_container_heap_Pop__t88 _ w m hr _ hw)) ?_
   rintro _ _ ⟨v_1, h0, rfl, rfl, H⟩
   refine AtL.q rfl (Quiet1.assertI hT rfl rfl (by intro m; nofun) rfl) ?_
   refine AtL.pures hT 2 _ _ _ _ rfl ?_
   refine AtL.nil ?_
   refine AtE.then_n (AtE.go ?_)
   refine AtC.ret ?_
   exact AtE.retN (rs := [.tmp 2, .tmp 3]) rfl (ResAll.cons (ResAt.tmp rfl) (ResAll.cons (ResAt.tmp rfl) ResAll.nil)) rfl H

theorem lift_slices_Contains_int_int (s0 : Sl) (v : Int) (w : World) (m : Heap) (hr : Rel ⟨m, []⟩ w.heap) (S : Bool → Heap → Prop) (H : slices_Contains_int_int s0 v m S) :
    Calls Try.prog 63 #[Sl.toV s0, Value.int .i64 v] w (Post ⟨w, m⟩ Value.bool S) := by
  refine Calls.lift (args := [Sl.toV s0, Value.int .i64 v]) Try.func63 rfl Try.ntmps63 (Nat.le_of_ble_eq_true rfl) hr (slices_Contains_int_int s0 v m S) H (fun H => ?_)
  refine AtC.pick (ts := [0, 1]) rfl ?_
  unfold slices_Contains_int_int at H
  refine AtC.seqR ?_
  refine AtL.pures hT 1 _ _ _ _ rfl ?_
  refine AtL.nil ?_
  refine AtE.then_n (AtE.go ?_)
  refine AtC.seqR ?_
  refine AtL.pures hT 2 _ _ _ _ rfl ?_
  refine AtL.e rfl (EffX.call (f := 47) (sh := fun h => slices_Index_int_int _ _ h _) (H0 := H) rfl Try.call47 rfl (hl := fun w m hr hw => lift_slices_Index_int_int _ _ w m hr _ hw)) ?_
  rintro _ _ ⟨v_1, h0, rfl, rfl, H⟩
  refine AtL.pures hT 2 _ _ _ _ rfl ?_
  refine AtL.nil ?_
  refine AtE.then_n (AtE.go ?_)
  refine AtC.ret ?_
  exact AtE.retN (rs := [.tmp 4]) rfl (ResAll.cons (ResAt.tmp rfl) ResAll.nil) rfl H

theorem lift_queue_Has (q : Sl × Sl) (v : Int) (w : World) (m : Heap) (hr : Rel ⟨m, []⟩ w.heap) (S : Bool → Heap → Prop) (H : queue_Has q v m S) :
    Calls Try.prog 28 #[Value.agg (C_sl_sl q).toArray, Value.int .i64 v] w (Post ⟨w, m⟩ Value.bool S) := by
  refine Calls.lift (args := [Value.agg (C_sl_sl q).toArray, Value.int .i64 v]) Try.func28 rfl Try.ntmps28 (Nat.le_of_ble_eq_true rfl) hr (queue_Has q v m S) H (fun H => ?_)
  refine AtC.pick (ts := [0, 1]) rfl ?_
  unfold queue_Has at H
  refine AtC.seqR ?_
  refine AtL.e rfl (EffX.boxP (cs := [_, _]) rfl rfl rfl H) ?_
  rintro _ _ ⟨b, _, rfl, rfl, _, H⟩
  replace H := H.self
  refine AtL.pures hT 1 _ _ _ _ rfl ?_
  refine AtL.nil ?_
  refine AtE.then_n (AtE.go ?_)
  refine AtC.seqR ?_
  refine AtL.pures hT 1 _ _ _ _ rfl ?_
  refine AtL.q rfl (Quiet1.loadP (i := 0) hT rfl rfl rfl rfl rfl rfl) ?_
  refine AtL.pures hT 1 _ _ _ _ rfl ?_
  refine AtL.e rfl (EffX.call (f := 63) (sh := fun h => slices_Contains_int_int _ _ h _) (H0 := H) rfl Try.call63 rfl (hl := fun w m hr hw => lift_slices_Contains_int_int _ _ w m hr _ hw)) ?_
  rintro _ _ ⟨v_1, h0u1, rfl, rfl, H⟩
  refine AtL.pures hT 1 _ _ _ _ rfl ?_
  refine AtL.nil ?_
  refine AtE.then_n (AtE.go ?_)
  refine AtC.ret ?_
  exact AtE.retN (rs := [.tmp 4]) rfl (ResAll.cons (ResAt.tmp rfl) ResAll.nil) rfl H

theorem lift_law17uspeaks (w : World) (m : Heap) (hr : Rel ⟨m, []⟩ w.heap) (S : Bool → Heap → Prop) (H : law17uspeaks m S) :
    Calls Try.prog 10 #[] w (Post ⟨w, m⟩ Value.bool S) := by
  refine Calls.lift (args := []) Try.func10 rfl Try.ntmps10 (Nat.le_of_ble_eq_true rfl) hr (law17uspeaks m S) H (fun H => ?_)
  refine AtC.pick (ts := []) rfl ?_
  unfold law17uspeaks at H
  refine AtC.seqR ?_
  refine AtL.pures hT 1 _ _ _ _ rfl ?_
  refine AtL.nil ?_
  refine AtE.then_n (AtE.go ?_)
  refine AtC.seqR ?_
  refine AtL.e rfl (EffX.call (f := 11) (sh := fun h => queue_New _ h _) (H0 := H) rfl Try.call11 rfl (hl := fun w m hr hw => lift_queue_New _ w m hr _ hw)) ?_
  rintro _ _ ⟨v, h0, rfl, rfl, H⟩
  refine AtL.e rfl (EffX.alloc hT rfl rfl H) ?_
  rintro _ _ ⟨q, h0u1, rfl, rfl, H⟩
  refine AtL.e rfl (EffX.storeS hT rfl rfl rfl rfl rfl rfl H) ?_
  rintro _ _ ⟨h0u2, rfl, H⟩
  refine AtL.nil ?_
  refine AtE.then_n (AtE.go ?_)
  refine AtC.seqR ?_
  refine AtL.e rfl (EffX.call (f := 12) (sh := fun h => queue_Bump _ _ _ h _) (H0 := H) rfl Try.call12 rfl (hl := fun w m hr hw => lift_queue_Bump _ _ _ w m hr _ hw)) ?_
  rintro _ _ ⟨v_1, h0u3, rfl, rfl, H⟩
  refine AtL.pures hT 1 _ _ _ _ rfl ?_
  refine AtL.nil ?_
  refine AtE.then_n (AtE.go ?_)
  refine AtC.seqR ?_
  refine AtL.e rfl (EffX.call (f := 13) (sh := fun h => queue_Pop _ h _) (H0 := H) rfl Try.call13 rfl (hl := fun w m hr hw => lift_queue_Pop _ w m hr _ hw)) ?_
  rintro _ _ ⟨v_2, h0u4, rfl, rfl, H⟩
  refine AtL.pures hT 5 _ _ _ _ rfl ?_
  refine AtL.nil ?_
  refine AtE.then_n (AtE.go ?_)
  refine AtC.joinSeq (β := Unit) (fun (t0 : Bool) (bb : Unit) => [(0, Value.bool t0)]) (fun (t0 : Bool) (bb : Unit) => []) [] [] H (by exact rfl) (by exact rfl) (fun t0 bb h0u5 H => ?_) (fun J1 H HK1 => ?_)
  ·
   refine AtC.ret ?_
   exact AtE.retN (rs := [.tmp 0]) rfl (ResAll.cons (ResAt.tmp rfl) ResAll.nil) rfl H
  ·
   refine AtC.region ?_
   refine AtL.pures hT 3 _ _ _ _ rfl ?_
   refine AtL.splitB (t := 13) H rfl (fun H => ?_) (fun H => ?_)
   ·
    refine AtL.yes rfl rfl rfl ?_
    refine AtL.pures hT 1 _ _ _ _ rfl ?_
    refine AtL.pures hT 2 _ _ _ _ rfl ?_
    refine AtL.splitB (t := 16) H rfl (fun H => ?_) (fun H => ?_)
    ·
     refine AtL.yes rfl rfl rfl ?_
     refine AtL.pures hT 1 _ _ _ _ rfl ?_
     refine AtL.yes rfl rfl rfl ?_
     refine AtL.pures hT 1 _ _ _ _ rfl ?_
     refine AtL.pures hT 2 _ _ _ _ rfl ?_
     refine AtL.splitB (t := 20) H rfl (fun H => ?_) (fun H => ?_)
     ·
      refine AtL.yes rfl rfl rfl ?_
      obtain ⟨v_3, hc1, H⟩ := H
      refine AtL.q rfl (Quiet1.loadS hT rfl rfl rfl rfl hc1) ?_
      refine AtL.yes rfl rfl rfl ?_
      refine AtL.e rfl (EffX.call (f := 28) (sh := fun h => queue_Has _ _ h _) (H0 := H) rfl Try.call28 rfl (hl := fun w m hr hw => lift_queue_Has _ _ w m hr _ hw)) ?_
      rintro _ _ ⟨v_4, h0u6, rfl, rfl, H⟩
      refine AtL.yes rfl rfl rfl ?_
      refine AtL.pures hT 1 _ _ _ _ rfl ?_
      refine AtL.pures hT 2 _ _ _ _ rfl ?_
      refine AtL.splitB (t := 25) H rfl (fun H => ?_) (fun H => ?_)
      ·
       refine AtL.yes rfl rfl rfl ?_
       obtain ⟨v_5, hc2, H⟩ := H
       refine AtL.q rfl (Quiet1.loadS hT rfl rfl rfl rfl hc2) ?_
       refine AtL.yes rfl rfl rfl ?_
       refine AtL.e rfl (EffX.call (f := 28) (sh := fun h => queue_Has _ _ h _) (H0 := H) rfl Try.call28 rfl (hl := fun w m hr hw => lift_queue_Has _ _ w m hr _ hw)) ?_
       rintro _ _ ⟨v_6, h0u7, rfl, rfl, H⟩
       refine AtL.pures hT 2 _ _ _ _ rfl ?_
       refine AtL.nil ?_
       exact AtE.then_n ((HK1 _ () _ H).pickP (ts := [0]) (is := []) rfl rfl (by decide) rfl)
      ·
       refine AtL.noF rfl rfl rfl (by decide) rfl ?_
       refine AtL.noF rfl rfl rfl (by decide) rfl ?_
       refine AtL.pures hT 2 _ _ _ _ rfl ?_
       refine AtL.nil ?_
       exact AtE.then_n ((HK1 _ () _ H).pickP (ts := [0]) (is := []) rfl rfl (by decide) rfl)
     ·
      refine AtL.noF rfl rfl rfl (by decide) rfl ?_
      refine AtL.noF rfl rfl rfl (by decide) rfl ?_
      refine AtL.noF rfl rfl rfl (by decide) rfl ?_
      refine AtL.pures hT 2 _ _ _ _ rfl ?_
      refine AtL.noF rfl rfl rfl (by decide) rfl ?_
      refine AtL.noF rfl rfl rfl (by decide) rfl ?_
      refine AtL.pures hT 2 _ _ _ _ rfl ?_
      refine AtL.nil ?_
      exact AtE.then_n ((HK1 _ () _ H).pickP (ts := [0]) (is := []) rfl rfl (by decide) rfl)
    ·
     refine AtL.noF rfl rfl rfl (by decide) rfl ?_
     refine AtL.noF rfl rfl rfl (by decide) rfl ?_
     refine AtL.pures hT 2 _ _ _ _ rfl ?_
     refine AtL.noF rfl rfl rfl (by decide) rfl ?_
     refine AtL.noF rfl rfl rfl (by decide) rfl ?_
     refine AtL.noF rfl rfl rfl (by decide) rfl ?_
     refine AtL.pures hT 2 _ _ _ _ rfl ?_
     refine AtL.noF rfl rfl rfl (by decide) rfl ?_
     refine AtL.noF rfl rfl rfl (by decide) rfl ?_
     refine AtL.pures hT 2 _ _ _ _ rfl ?_
     refine AtL.nil ?_
     exact AtE.then_n ((HK1 _ () _ H).pickP (ts := [0]) (is := []) rfl rfl (by decide) rfl)
   ·
    refine AtL.noF rfl rfl rfl (by decide) rfl ?_
    refine AtL.pures hT 2 _ _ _ _ rfl ?_
    refine AtL.noF rfl rfl rfl (by decide) rfl ?_
    refine AtL.noF rfl rfl rfl (by decide) rfl ?_
    refine AtL.pures hT 2 _ _ _ _ rfl ?_
    refine AtL.noF rfl rfl rfl (by decide) rfl ?_
    refine AtL.noF rfl rfl rfl (by decide) rfl ?_
    refine AtL.noF rfl rfl rfl (by decide) rfl ?_
    refine AtL.pures hT 2 _ _ _ _ rfl ?_
    refine AtL.noF rfl rfl rfl (by decide) rfl ?_
    refine AtL.noF rfl rfl rfl (by decide) rfl ?_
    refine AtL.pures hT 2 _ _ _ _ rfl ?_
    refine AtL.nil ?_
    exact AtE.then_n ((HK1 _ () _ H).pickP (ts := [0]) (is := []) rfl rfl (by decide) rfl)

theorem lift_ref17uNew (n : Int) (w : World) (m : Heap) (hr : Rel ⟨m, []⟩ w.heap) (S : ((Option Addr)) → Heap → Prop) (H : ref17uNew n m S) :
    Calls Try.prog 21 #[Value.int .i64 n] w (Post ⟨w, m⟩ Value.pointer S) := by
  refine Calls.lift (args := [Value.int .i64 n]) Try.func21 rfl Try.ntmps21 (Nat.le_of_ble_eq_true rfl) hr (ref17uNew n m S) H (fun H => ?_)
  refine AtC.pick (ts := [0]) rfl ?_
  unfold ref17uNew at H
  refine AtC.seqR ?_
  refine AtL.pures hT 1 _ _ _ _ rfl ?_
  refine AtL.nil ?_
  refine AtE.then_n (AtE.go ?_)
  refine AtC.joinSeq (β := Unit) (fun (t0 : Int) (bb : Unit) => [(0, Value.int .i64 t0)]) (fun (t0 : Int) (bb : Unit) => []) [] [] H (by exact rfl) (by exact rfl) (fun t0 bb h0 H => ?_) (fun J1 H HK1 => ?_)
  ·
   refine AtC.joinSeq (β := Unit) (fun (t0u1 : (Option Addr)) (bb_1 : Unit) => [(3, Value.pointer t0u1)]) (fun (t0u1 : (Option Addr)) (bb_1 : Unit) => []) [0] [] H (by exact rfl) (by exact rfl) (fun t0u1 bb_1 h0u1 H => ?_) (fun J2 H HK2 => ?_)
   ·
    refine AtC.seq ?_
    refine AtC.seqR ?_
    refine AtL.pures hT 1 _ _ _ _ rfl ?_
    refine AtL.nil ?_
    refine AtE.then_n (AtE.go ?_)
    refine AtC.block ?_
    refine AtC.loopM (fun (s0 : Int) => [(4, Value.int .i64 s0)]) (fun (s0 : Int) => []) [0, 3] [4, 0, 3] [] [] H (by exact rfl) (by exact rfl) (by exact rfl) (by decide) (by exact rfl) (fun Kp3 s0 h0u8 H Q3 HK3 => ?_)
    refine AtC.seq ?_
    refine AtC.seqR ?_
    refine AtL.pures hT 3 _ _ _ _ rfl ?_
    refine AtL.nil ?_
    refine AtE.then_n (AtE.go ?_)
    refine AtC.condB H rfl (fun H => ?_) (fun H => ?_)
    ·
     refine AtC.skip ?_
     refine AtE.then_n (AtE.go ?_)
     refine AtC.seq ?_
     refine AtC.block ?_
     refine AtC.region ?_
     refine AtL.pures hT 1 _ _ _ _ rfl ?_
     obtain ⟨a_2, hc3, H⟩ := H
     refine AtL.q rfl (Quiet1.nilChk rfl rfl hc3) ?_
     refine AtL.pures hT 1 _ _ _ _ rfl ?_
     obtain ⟨v_4, hc4, H⟩ := H
     refine AtL.q rfl (Quiet1.load hT rfl rfl rfl hc4) ?_
     refine AtL.pures hT 1 _ _ _ _ rfl ?_
     obtain ⟨a_3_, hc5, hd5, H⟩ := H
     refine AtL.q rfl (Quiet1.idxS (s := _) hT rfl rfl rfl rfl rfl hc5 hd5) ?_
     refine AtL.e rfl (EffX.store hT rfl rfl rfl rfl rfl H) ?_
     rintro _ _ ⟨h0u9, rfl, H⟩
     refine AtL.nil ?_
     refine AtE.blk_n ?_
     refine AtE.then_n (AtE.go ?_)
     refine AtC.region ?_
     refine AtL.pures hT 3 _ _ _ _ rfl ?_
     replace H := H _ rfl
     refine AtL.nil ?_
     exact AtE.then_n ((HK3 _ _ H).pickP (ts := [4, 0, 3]) (is := []) rfl rfl (by decide) rfl)
    ·
     refine AtC.exit ?_
     refine AtE.then_x ?_
     refine AtE.then_x ?_
     refine AtE.blk_hit ?_
     refine AtE.then_n (AtE.go ?_)
     refine AtC.seqR ?_
     refine AtL.pures hT 2 _ _ _ _ rfl ?_
     refine AtL.nil ?_
     refine AtE.then_n (AtE.go ?_)
     refine AtC.ret ?_
     exact AtE.retN (rs := [.tmp 2]) rfl (ResAll.cons (ResAt.tmp rfl) ResAll.nil) rfl H
   ·
    apply AtC.stages [1, 3, 5] [[], [], [], [], [1, 3], [1, 3], [1, 3, 5]] [[], [0], [], [2], [0, 1, 2, 3], [0, 1, 2, 3, 4], [0, 1, 2, 3, 4, 5]] hmix (by kernel_rfl) [(7, _), (9, _)] rfl 3 rfl
    refine Stg.go [0, 2] [1, 3] rfl rfl (QAll.cons (QOp.p hT rfl rfl rfl rfl rfl) (QAll.cons (QOp.p hT rfl rfl rfl rfl rfl) QAll.nil)) ?_
    refine EAll.cons ?_ ?_
    ·
     replace H := H.1
     refine EOp.e rfl rfl rfl (EffX.mkS hT rfl rfl rfl rfl rfl rfl rfl rfl (by decide) H) ?_
     rintro _ _ ⟨v, h0u2, rfl, rfl, H⟩
     apply Stg.next [(8, _)] rfl rfl
     refine Stg.go [2] [3] rfl rfl (QAll.cons (QOp.p hT rfl rfl rfl rfl rfl) QAll.nil) ?_
     refine EAll.cons ?_ EAll.nil
     refine EOp.e rfl rfl rfl (EffX.mkS hT rfl rfl rfl rfl rfl rfl rfl rfl (by decide) H) ?_
     rintro _ _ ⟨v_1, h0u3, rfl, rfl, H⟩
     apply Stg.next [(10, _), (11, _)] rfl rfl
     refine Stg.go [4] [5] rfl rfl (QAll.cons (QOp.q rfl rfl (Quiet1.build (cs := [_, _]) hT rfl rfl rfl rfl rfl rfl) rfl rfl) QAll.nil) ?_
     refine EAll.cons ?_ EAll.nil
     refine EOp.e rfl rfl rfl (EffX.box (cs := [_, _]) rfl rfl rfl H) ?_
     rintro _ _ ⟨a, h0u4, rfl, rfl, H⟩
     apply Stg.next [(12, _), (3, _)] rfl rfl
     refine Stg.fin [6] rfl rfl (QAll.cons (QOp.p hT rfl rfl rfl rfl rfl) QAll.nil) ?_
     exact AtE.then_n ((HK2 _ () _ H).pickP (ts := [3, 0]) (is := []) rfl rfl (by decide) rfl)
    refine EAll.cons ?_ EAll.nil
    replace H := H.2
    refine EOp.e rfl rfl rfl (EffX.mkS hT rfl rfl rfl rfl rfl rfl rfl rfl (by decide) H) ?_
    rintro _ _ ⟨v_2, h0u5, rfl, rfl, H⟩
    apply Stg.next [(10, _)] rfl rfl
    refine Stg.go [0] [1] rfl rfl (QAll.cons (QOp.p hT rfl rfl rfl rfl rfl) QAll.nil) ?_
    refine EAll.cons ?_ EAll.nil
    refine EOp.e rfl rfl rfl (EffX.mkS hT rfl rfl rfl rfl rfl rfl rfl rfl (by decide) H) ?_
    rintro _ _ ⟨v_3, h0u6, rfl, rfl, H⟩
    apply Stg.next [(8, _), (11, _)] rfl rfl
    refine Stg.go [4] [5] rfl rfl (QAll.cons (QOp.q rfl rfl (Quiet1.build (cs := [_, _]) hT rfl rfl rfl rfl rfl rfl) rfl rfl) QAll.nil) ?_
    refine EAll.cons ?_ EAll.nil
    refine EOp.e rfl rfl rfl (EffX.box (cs := [_, _]) rfl rfl rfl H) ?_
    rintro _ _ ⟨a_1, h0u7, rfl, rfl, H⟩
    apply Stg.next [(12, _), (3, _)] rfl rfl
    refine Stg.fin [6] rfl rfl (QAll.cons (QOp.p hT rfl rfl rfl rfl rfl) QAll.nil) ?_
    exact AtE.then_n ((HK2 _ () _ H).pickP (ts := [3, 0]) (is := []) rfl rfl (by decide) rfl)
  ·
   refine AtC.seqR ?_
   refine AtL.pures hT 2 _ _ _ _ rfl ?_
   refine AtL.nil ?_
   refine AtE.then_n (AtE.go ?_)
   refine AtC.condB H rfl (fun H => ?_) (fun H => ?_)
   ·
    refine AtC.region ?_
    refine AtL.pures hT 1 _ _ _ _ rfl ?_
    refine AtL.nil ?_
    exact AtE.then_n ((HK1 _ () _ H).pickP (ts := [0]) (is := []) rfl rfl (by decide) rfl)
   ·
    refine AtC.skip ?_
    exact AtE.then_n ((HK1 _ () _ H).pickP (ts := [0]) (is := []) rfl rfl (by decide) rfl)

theorem lift_queue_ranks_Push__t3 (r : (Option Addr)) (v : Int) (w : World) (m : Heap) (hr : Rel ⟨m, []⟩ w.heap) (S : Unit → Heap → Prop) (H : queue_ranks_Push__t3 r v m S) :
    Calls Try.prog 165 #[Value.agg (C_ptr r).toArray, Value.iface 3 (Value.int .i64 v)] w (Post ⟨w, m⟩ (fun _ => Value.tuple #[]) S) := by
  refine Calls.lift (args := [Value.agg (C_ptr r).toArray, Value.iface 3 (Value.int .i64 v)]) Try.func165 rfl Try.ntmps165 (Nat.le_of_ble_eq_true rfl) hr (queue_ranks_Push__t3 r v m S) H (fun H => ?_)
  refine AtC.pick (ts := [0, 1]) rfl ?_
  unfold queue_ranks_Push__t3 at H
  refine AtC.seqR ?_
  refine AtL.e rfl (EffX.boxP (cs := [_]) rfl rfl rfl H) ?_
  rintro _ _ ⟨b, _, rfl, rfl, _, H⟩
  refine AtL.nil ?_
  replace H := H.self
  refine AtE.then_n (AtE.go ?_)
  obtain ⟨a, hc0, H⟩ := H
  obtain ⟨v_1, hc1, H⟩ := H
  apply AtC.stages [9, 10, 13] [[], [], [], [], [], [], [], [], [], [], [9], [9, 10], [9, 10], [9, 10]] [[], [0], [], [2], [2, 3], [2, 3, 4], [2, 3, 4, 5], [], [7], [7, 8], [2, 3, 4, 5, 6, 7, 8, 9], [0, 1, 2, 3, 4, 5, 6, 7, 8, 9, 10], [0, 1, 2, 3, 4, 5, 6, 7, 8, 9, 10, 11], [0, 1, 2, 3, 4, 5, 6, 7, 8, 9, 10, 11, 12]] hmix (by kernel_rfl) [(4, _), (5, _), (6, _), (7, _), (8, _), (9, _), (10, _), (11, _), (12, _)] rfl 3 rfl
  refine Stg.go [0, 1, 2, 3, 4, 5, 6, 7, 8] [9] rfl rfl (QAll.cons (QOp.p hT rfl rfl rfl rfl rfl) (QAll.cons (QOp.q rfl rfl (Quiet1.loadP (i := 0) hT rfl rfl rfl rfl rfl rfl) rfl rfl) (QAll.cons (QOp.p hT rfl rfl rfl rfl rfl) (QAll.cons (QOp.q rfl rfl (Quiet1.loadP (i := 0) hT rfl rfl rfl rfl rfl rfl) rfl rfl) (QAll.cons (QOp.q rfl rfl (Quiet1.nilChk rfl rfl hc0) rfl rfl) (QAll.cons (QOp.p hT rfl rfl rfl rfl rfl) (QAll.cons (QOp.q rfl rfl (Quiet1.load hT rfl rfl rfl hc1) rfl rfl) (QAll.cons (QOp.p hT rfl rfl rfl rfl rfl) (QAll.cons (QOp.q rfl rfl (Quiet1.assertI hT rfl rfl (by intro m; nofun) rfl) rfl rfl) QAll.nil))))))))) ?_
  refine EAll.cons ?_ EAll.nil
  refine EOp.e rfl rfl rfl (EffX.buildS2 (cs := [_]) hT rfl rfl rfl rfl rfl rfl rfl rfl H) ?_
  rintro _ _ ⟨a_1, h0u1, rfl, rfl, H⟩
  obtain ⟨hc2, H⟩ := H
  apply Stg.next [(13, _)] rfl rfl
  refine Stg.go [0, 1, 2, 3, 4, 5, 6] [10] rfl rfl (QAll.cons (QOp.p hT rfl rfl rfl rfl rfl) (QAll.cons (QOp.q rfl rfl (Quiet1.loadP (i := 0) hT rfl rfl rfl rfl rfl rfl) rfl rfl) (QAll.cons (QOp.p hT rfl rfl rfl rfl rfl) (QAll.cons (QOp.q rfl rfl (Quiet1.loadP (i := 0) hT rfl rfl rfl rfl rfl rfl) rfl rfl) (QAll.cons (QOp.q rfl rfl (Quiet1.nilChk rfl rfl hc0) rfl rfl) (QAll.cons (QOp.p hT rfl rfl rfl rfl rfl) (QAll.cons (QOp.q rfl rfl (Quiet1.load hT rfl rfl rfl hc2) rfl rfl) QAll.nil))))))) ?_
  refine EAll.cons ?_ EAll.nil
  refine EOp.e rfl rfl rfl (EffX.appendS (s := _) (u := _) hT rfl rfl rfl rfl rfl rfl rfl rfl rfl rfl (by decide) H) ?_
  rintro _ _ ⟨v_3, h0u2, rfl, rfl, H⟩
  obtain ⟨a_2, hc3, H⟩ := H
  apply Stg.next [(14, _), (15, _), (16, _)] rfl rfl
  refine Stg.go [0, 1, 11, 12] [13] rfl rfl (QAll.cons (QOp.p hT rfl rfl rfl rfl rfl) (QAll.cons (QOp.q rfl rfl (Quiet1.loadP (i := 0) hT rfl rfl rfl rfl rfl rfl) rfl rfl) (QAll.cons (QOp.q rfl rfl (Quiet1.nilChk rfl rfl hc3) rfl rfl) (QAll.cons (QOp.p hT rfl rfl rfl rfl rfl) QAll.nil)))) ?_
  refine EAll.cons ?_ EAll.nil
  refine EOp.e rfl rfl rfl (EffX.store hT rfl rfl rfl rfl rfl H) ?_
  rintro _ _ ⟨h0u3, rfl, H⟩
  apply Stg.next [] rfl rfl
  refine Stg.fin [] rfl rfl QAll.nil ?_
  exact AtE.endN rfl rfl H

theorem lift_container_heap_Push__t88u_t3 (h0 : (Option Addr)) (x0 : Int) (w : World) (m : Heap) (hr : Rel ⟨m, []⟩ w.heap) (S : Unit → Heap → Prop) (H : container_heap_Push__t88u_t3 h0 x0 m S) :
    Calls Try.prog 58 #[Value.iface 88 (Value.agg (C_ptr h0).toArray), Value.iface 3 (Value.int .i64 x0)] w (Post ⟨w, m⟩ (fun _ => Value.tuple #[]) S) := by
  refine Calls.lift (args := [Value.iface 88 (Value.agg (C_ptr h0).toArray), Value.iface 3 (Value.int .i64 x0)]) Try.func58 rfl Try.ntmps58 (Nat.le_of_ble_eq_true rfl) hr (container_heap_Push__t88u_t3 h0 x0 m S) H (fun H => ?_)
  refine AtC.pick (ts := [0, 1]) rfl ?_
  unfold container_heap_Push__t88u_t3 at H
  refine AtC.seqR ?_
  refine AtL.pures hT 2 _ _ _ _ rfl ?_
  refine AtL.e rfl (EffX.invoke (f := 165) (sh := fun h => queue_ranks_Push__t3 _ _ h _) (H0 := H) hT rfl rfl (by kernel_rfl) rfl Try.call165 rfl (hl := fun w m hr hw => lift_queue_ranks_Push__t3 _ _ w m hr _ hw)) ?_
  rintro _ _ ⟨v, h0u1, rfl, rfl, H⟩
  refine AtL.nil ?_
  refine AtE.then_n (AtE.go ?_)
  refine AtC.region ?_
  refine AtL.pures hT 2 _ _ _ _ rfl ?_
  refine AtL.e rfl (EffX.invoke (f := 163) (sh := fun h => queue_ranks_Len _ h _) (H0 := H) hT rfl rfl (by kernel_rfl) rfl Try.call163 rfl (hl := fun w m hr hw => lift_queue_ranks_Len _ w m hr _ hw)) ?_
  rintro _ _ ⟨v_1, h0u2, rfl, rfl, H⟩
  refine AtL.pures hT 1 _ _ _ _ rfl ?_
  refine AtL.e rfl (EffX.call (f := 92) (sh := fun h => container_heap_up__t88 _ _ h _) (H0 := H) rfl Try.call92 rfl (hl := fun w m hr hw => lift_container_heap_up__t88 _ _ w m hr _ hw)) ?_
  rintro _ _ ⟨v_2, h0u3, rfl, rfl, H⟩
  refine AtL.nil ?_
  exact AtE.endN rfl rfl H

theorem lift_queue_Push (q : (Option Addr)) (v : Int) (w : World) (m : Heap) (hr : Rel ⟨m, []⟩ w.heap) (S : Int → Heap → Prop) (H : queue_Push q v m S) :
    Calls Try.prog 22 #[Value.pointer q, Value.int .i64 v] w (Post ⟨w, m⟩ (Value.int .i64) S) := by
  refine Calls.lift (args := [Value.pointer q, Value.int .i64 v]) Try.func22 rfl Try.ntmps22 (Nat.le_of_ble_eq_true rfl) hr (queue_Push q v m S) H (fun H => ?_)
  refine AtC.pick (ts := [0, 1]) rfl ?_
  unfold queue_Push at H
  refine AtC.seqR ?_
  refine AtL.pures hT 1 _ _ _ _ rfl ?_
  refine AtL.nil ?_
  refine AtE.then_n (AtE.go ?_)
  refine AtC.seq ?_
  refine AtC.seqR ?_
  refine AtL.pures hT 2 _ _ _ _ rfl ?_
  refine AtL.e rfl (EffX.call (f := 46) (sh := fun h => queue_there _ _ h _) (H0 := H) rfl Try.call46 rfl (hl := fun w m hr hw => lift_queue_there _ _ w m hr _ hw)) ?_
  rintro _ _ ⟨v_1, h0, rfl, rfl, H⟩
  refine AtL.pures hT 1 _ _ _ _ rfl ?_
  refine AtL.nil ?_
  refine AtE.then_n (AtE.go ?_)
  refine AtC.condB H rfl (fun H => ?_) (fun H => ?_)
  ·
   refine AtC.seqR ?_
   refine AtL.pures hT 1 _ _ _ _ rfl ?_
   refine AtL.nil ?_
   refine AtE.then_n (AtE.go ?_)
   refine AtC.ret ?_
   refine AtE.then_r ?_
   exact AtE.retN (rs := [.tmp 4]) rfl (ResAll.cons (ResAt.tmp rfl) ResAll.nil) rfl H
  ·
   refine AtC.skip ?_
   refine AtE.then_n (AtE.go ?_)
   refine AtC.joinSeq (β := Unit) (fun (t0 : Unit) (bb : Unit) => []) (fun (t0 : Unit) (bb : Unit) => []) [] [] H (by exact rfl) (by exact rfl) (fun t0 bb h0u1 H => ?_) (fun J1 H HK1 => ?_)
   ·
    refine AtC.seqR ?_
    refine AtL.pures hT 1 _ _ _ _ rfl ?_
    refine AtL.nil ?_
    refine AtE.then_n (AtE.go ?_)
    refine AtC.ret ?_
    exact AtE.retN (rs := [.tmp 4]) rfl (ResAll.cons (ResAt.tmp rfl) ResAll.nil) rfl H
   ·
    refine AtC.seqR ?_
    refine AtL.pures hT 1 _ _ _ _ rfl ?_
    obtain ⟨a, hc1, H⟩ := H
    refine AtL.q rfl (Quiet1.nilChk rfl rfl hc1) ?_
    obtain ⟨v_2, hc2, H⟩ := H
    refine AtL.q rfl (Quiet1.loadS hT rfl rfl rfl rfl hc2) ?_
    refine AtL.pures hT 1 _ _ _ _ rfl ?_
    refine AtL.e rfl (EffX.call (f := 28) (sh := fun h => queue_Has _ _ h _) (H0 := H) rfl Try.call28 rfl (hl := fun w m hr hw => lift_queue_Has _ _ w m hr _ hw)) ?_
    rintro _ _ ⟨v_3, h0u2, rfl, rfl, H⟩
    refine AtL.pures hT 1 _ _ _ _ rfl ?_
    refine AtL.nil ?_
    refine AtE.then_n (AtE.go ?_)
    refine AtC.condB H rfl (fun H => ?_) (fun H => ?_)
    ·
     refine AtC.region ?_
     refine AtL.pures hT 1 _ _ _ _ rfl ?_
     refine AtL.q rfl (Quiet1.build (cs := [_]) hT rfl rfl rfl rfl rfl rfl) ?_
     refine AtL.q rfl (Quiet1.makeI hT rfl rfl (by intro m; nofun) rfl) ?_
     refine AtL.pures hT 1 _ _ _ _ rfl ?_
     refine AtL.q rfl (Quiet1.makeI hT rfl rfl (by intro m; nofun) rfl) ?_
     refine AtL.e rfl (EffX.call (f := 58) (sh := fun h => container_heap_Push__t88u_t3 _ _ h _) (H0 := H) rfl Try.call58 rfl (hl := fun w m hr hw => lift_container_heap_Push__t88u_t3 _ _ w m hr _ hw)) ?_
     rintro _ _ ⟨v_4, h0u3, rfl, rfl, H⟩
     refine AtL.nil ?_
     exact AtE.then_n ((HK1 _ () _ H).pickP (ts := []) (is := []) rfl rfl (by decide) rfl)
    ·
     refine AtC.skip ?_
     exact AtE.then_n ((HK1 _ () _ H).pickP (ts := []) (is := []) rfl rfl (by decide) rfl)

theorem lift_ref17uQueue_First (q : (Option Addr)) (w : World) (m : Heap) (hr : Rel ⟨m, []⟩ w.heap) (S : Int → Heap → Prop) (H : ref17uQueue_First q m S) :
    Calls Try.prog 23 #[Value.pointer q] w (Post ⟨w, m⟩ (Value.int .i64) S) := by
  refine Calls.lift (args := [Value.pointer q]) Try.func23 rfl Try.ntmps23 (Nat.le_of_ble_eq_true rfl) hr (ref17uQueue_First q m S) H (fun H => ?_)
  refine AtC.pick (ts := [0]) rfl ?_
  unfold ref17uQueue_First at H
  refine AtC.seqR ?_
  refine AtL.pures hT 1 _ _ _ _ rfl ?_
  refine AtL.nil ?_
  refine AtE.then_n (AtE.go ?_)
  refine AtC.seqR ?_
  refine AtL.pures hT 1 _ _ _ _ rfl ?_
  refine AtL.nil ?_
  refine AtE.then_n (AtE.go ?_)
  refine AtC.seq ?_
  refine AtC.seqR ?_
  refine AtL.pures hT 1 _ _ _ _ rfl ?_
  refine AtL.nil ?_
  refine AtE.then_n (AtE.go ?_)
  refine AtC.block ?_
  refine AtC.loopM (fun (s0 : Int × Int) => [(3, Value.int .i64 s0.1), (4, Value.int .i64 s0.2)]) (fun (s0 : Int × Int) => []) [0] [3, 4, 0] [] [] H (by exact rfl) (by exact rfl) (by exact rfl) (by decide) (by exact rfl) (fun Kp1 s0 h0 H Q1 HK1 => ?_)
  refine AtC.seq ?_
  refine AtC.seqR ?_
  refine AtL.pures hT 2 _ _ _ _ rfl ?_
  obtain ⟨a, hc1, H⟩ := H
  refine AtL.q rfl (Quiet1.nilChk rfl rfl hc1) ?_
  refine AtL.pures hT 1 _ _ _ _ rfl ?_
  obtain ⟨v, hc2, H⟩ := H
  refine AtL.q rfl (Quiet1.load hT rfl rfl rfl hc2) ?_
  refine AtL.pures hT 2 _ _ _ _ rfl ?_
  refine AtL.nil ?_
  refine AtE.then_n (AtE.go ?_)
  refine AtC.condB H rfl (fun H => ?_) (fun H => ?_)
  ·
   refine AtC.skip ?_
   refine AtE.then_n (AtE.go ?_)
   refine AtC.joinSeq (β := Unit) (fun (t0 : Int) (bb : Unit) => [(3, Value.int .i64 t0)]) (fun (t0 : Int) (bb : Unit) => []) [0, 4] [] H (by exact rfl) (by exact rfl) (fun t0 bb h0u1 H => ?_) (fun J4 H HK4 => ?_)
   ·
    refine AtC.region ?_
    refine AtL.pures hT 3 _ _ _ _ rfl ?_
    replace H := H _ rfl
    refine AtL.nil ?_
    exact AtE.then_n ((HK1 _ _ H).pickP (ts := [3, 4, 0]) (is := []) rfl rfl (by decide) rfl)
   ·
    refine AtC.block ?_
    refine AtC.joinSeq (β := Unit) (fun (t0u1 : Bool) (bb_1 : Unit) => [(41, Value.bool t0u1)]) (fun (t0u1 : Bool) (bb_1 : Unit) => []) [0, 3, 4] [] H (by exact rfl) (by exact rfl) (fun t0u1 bb_1 h0u2 H => ?_) (fun J5 H HK5 => ?_)
    ·
     refine AtC.condB H rfl (fun H => ?_) (fun H => ?_)
     ·
      refine AtC.region ?_
      refine AtL.pures hT 2 _ _ _ _ rfl ?_
      refine AtL.nil ?_
      refine AtE.blk_n ?_
      exact AtE.then_n ((HK4 _ () _ H).pickP (ts := [3, 0, 4]) (is := []) rfl rfl (by decide) rfl)
     ·
      refine AtC.skip ?_
      refine AtE.blk_n ?_
      exact AtE.then_n ((HK4 _ () _ H).pickP (ts := [3, 0, 4]) (is := []) rfl rfl (by decide) rfl)
    ·
     refine AtC.draw hmix (by kernel_rfl) ?_
     refine AtD.pures hT 1 _ _ _ _ rfl ?_
     obtain ⟨a_1, hc5, H⟩ := H
     refine AtD.q rfl (Quiet1.nilChk rfl rfl hc5) ?_
     refine AtD.pures hT 1 _ _ _ _ rfl ?_
     obtain ⟨v_1, hc6, H⟩ := H
     refine AtD.q rfl (Quiet1.load hT rfl rfl rfl hc6) ?_
     refine AtD.pures hT 1 _ _ _ _ rfl ?_
     obtain ⟨a_2_, hc7, hd7, H⟩ := H
     refine AtD.q rfl (Quiet1.idxS (s := _) hT rfl rfl rfl rfl rfl hc7 hd7) ?_
     obtain ⟨v_2, hc8, H⟩ := H
     refine AtD.q rfl (Quiet1.load hT rfl rfl rfl hc8) ?_
     refine AtD.pures hT 1 _ _ _ _ rfl ?_
     refine AtD.splitB (t := 21) H rfl (fun H => ?_) (fun H => ?_)
     ·
      refine AtD.yes rfl rfl rfl ?_
      refine AtD.pures hT 1 _ _ _ _ rfl ?_
      refine AtD.yes rfl rfl rfl ?_
      refine AtD.pures hT 1 _ _ _ _ rfl ?_
      refine AtD.yes rfl rfl rfl ?_
      refine AtD.pures hT 1 _ _ _ _ rfl ?_
      refine AtD.splitB (t := 24) H rfl (fun H => ?_) (fun H => ?_)
      ·
       refine AtD.noF rfl rfl rfl (by decide) rfl ?_
       refine AtD.noF rfl rfl rfl (by decide) rfl ?_
       refine AtD.noF rfl rfl rfl (by decide) rfl ?_
       refine AtD.noF rfl rfl rfl (by decide) rfl ?_
       refine AtD.noF rfl rfl rfl (by decide) rfl ?_
       refine AtD.noF rfl rfl rfl (by decide) rfl ?_
       refine AtD.noF rfl rfl rfl (by decide) rfl ?_
       refine AtD.noF rfl rfl rfl (by decide) rfl ?_
       refine AtD.noF rfl rfl rfl (by decide) rfl ?_
       refine AtD.noF rfl rfl rfl (by decide) rfl ?_
       refine AtD.noF rfl rfl rfl (by decide) rfl ?_
       refine AtD.noF rfl rfl rfl (by decide) rfl ?_
       refine AtD.noF rfl rfl rfl (by decide) rfl ?_
       refine AtD.noF rfl rfl rfl (by decide) rfl ?_
       refine AtD.noF rfl rfl rfl (by decide) rfl ?_
       refine AtD.yes rfl rfl rfl ?_
       refine AtD.pures hT 1 _ _ _ _ rfl ?_
       refine AtD.pures hT 1 _ _ _ _ rfl ?_
       refine AtD.nil ?_
       exact AtE.then_n ((HK5 _ () _ H).pickP (ts := [41, 0, 3, 4]) (is := []) rfl rfl (by decide) rfl)
      ·
       refine AtD.yes rfl rfl rfl ?_
       refine AtD.pures hT 1 _ _ _ _ rfl ?_
       refine AtD.yes rfl rfl rfl ?_
       obtain ⟨a_3, hc9, H⟩ := H
       refine AtD.q rfl (Quiet1.nilChk rfl rfl hc9) ?_
       refine AtD.yes rfl rfl rfl ?_
       refine AtD.pures hT 1 _ _ _ _ rfl ?_
       refine AtD.yes rfl rfl rfl ?_
       obtain ⟨v_3, hc10, H⟩ := H
       refine AtD.q rfl (Quiet1.load hT rfl rfl rfl hc10) ?_
       refine AtD.yes rfl rfl rfl ?_
       refine AtD.pures hT 1 _ _ _ _ rfl ?_
       refine AtD.yes rfl rfl rfl ?_
       obtain ⟨a_4_, hc11, hd11, H⟩ := H
       refine AtD.q rfl (Quiet1.idxS (s := _) hT rfl rfl rfl rfl rfl hc11 hd11) ?_
       refine AtD.yes rfl rfl rfl ?_
       obtain ⟨v_4, hc12, H⟩ := H
       refine AtD.q rfl (Quiet1.load hT rfl rfl rfl hc12) ?_
       refine AtD.yes rfl rfl rfl ?_
       refine AtD.pures hT 1 _ _ _ _ rfl ?_
       refine AtD.yes rfl rfl rfl ?_
       obtain ⟨a_5, hc13, H⟩ := H
       refine AtD.q rfl (Quiet1.nilChk rfl rfl hc13) ?_
       refine AtD.yes rfl rfl rfl ?_
       refine AtD.pures hT 1 _ _ _ _ rfl ?_
       refine AtD.yes rfl rfl rfl ?_
       obtain ⟨v_5, hc14, H⟩ := H
       refine AtD.q rfl (Quiet1.load hT rfl rfl rfl hc14) ?_
       refine AtD.yes rfl rfl rfl ?_
       refine AtD.pures hT 1 _ _ _ _ rfl ?_
       refine AtD.yes rfl rfl rfl ?_
       obtain ⟨a_6_, hc15, hd15, H⟩ := H
       refine AtD.q rfl (Quiet1.idxS (s := _) hT rfl rfl rfl rfl rfl hc15 hd15) ?_
       refine AtD.yes rfl rfl rfl ?_
       obtain ⟨v_6, hc16, H⟩ := H
       refine AtD.q rfl (Quiet1.load hT rfl rfl rfl hc16) ?_
       refine AtD.yes rfl rfl rfl ?_
       refine AtD.pures hT 1 _ _ _ _ rfl ?_
       refine AtD.yes rfl rfl rfl ?_
       refine AtD.pures hT 1 _ _ _ _ rfl ?_
       refine AtD.pures hT 1 _ _ _ _ rfl ?_
       refine AtD.nil ?_
       exact AtE.then_n ((HK5 _ () _ H).pickP (ts := [41, 0, 3, 4]) (is := []) rfl rfl (by decide) rfl)
     ·
      refine AtD.noF rfl rfl rfl (by decide) rfl ?_
      refine AtD.noF rfl rfl rfl (by decide) rfl ?_
      refine AtD.noF rfl rfl rfl (by decide) rfl ?_
      refine AtD.noU rfl rfl rfl rfl ?_
      refine AtD.noU rfl rfl rfl rfl ?_
      refine AtD.noU rfl rfl rfl rfl ?_
      refine AtD.noU rfl rfl rfl rfl ?_
      refine AtD.noU rfl rfl rfl rfl ?_
      refine AtD.noU rfl rfl rfl rfl ?_
      refine AtD.noU rfl rfl rfl rfl ?_
      refine AtD.noU rfl rfl rfl rfl ?_
      refine AtD.noU rfl rfl rfl rfl ?_
      refine AtD.noU rfl rfl rfl rfl ?_
      refine AtD.noU rfl rfl rfl rfl ?_
      refine AtD.noU rfl rfl rfl rfl ?_
      refine AtD.noU rfl rfl rfl rfl ?_
      refine AtD.noU rfl rfl rfl rfl ?_
      refine AtD.noU rfl rfl rfl rfl ?_
      refine AtD.noF rfl rfl rfl (by decide) rfl ?_
      refine AtD.pures hT 1 _ _ _ _ rfl ?_
      refine AtD.nil ?_
      exact AtE.then_n ((HK5 _ () _ H).pickP (ts := [41, 0, 3, 4]) (is := []) rfl rfl (by decide) rfl)
  ·
   refine AtC.exit ?_
   refine AtE.then_x ?_
   refine AtE.then_x ?_
   refine AtE.blk_hit ?_
   refine AtE.then_n (AtE.go ?_)
   refine AtC.seqR ?_
   refine AtL.pures hT 2 _ _ _ _ rfl ?_
   refine AtL.nil ?_
   refine AtE.then_n (AtE.go ?_)
   refine AtC.ret ?_
   exact AtE.retN (rs := [.tmp 2]) rfl (ResAll.cons (ResAt.tmp rfl) ResAll.nil) rfl H

theorem lift_ref17uQueue_Bump (q : (Option Addr)) (v : Int) (by0 : Int) (w : World) (m : Heap) (hr : Rel ⟨m, []⟩ w.heap) (S : Int → Heap → Prop) (H : ref17uQueue_Bump q v by0 m S) :
    Calls Try.prog 24 #[Value.pointer q, Value.int .i64 v, Value.int .i64 by0] w (Post ⟨w, m⟩ (Value.int .i64) S) := by
  refine Calls.lift (args := [Value.pointer q, Value.int .i64 v, Value.int .i64 by0]) Try.func24 rfl Try.ntmps24 (Nat.le_of_ble_eq_true rfl) hr (ref17uQueue_Bump q v by0 m S) H (fun H => ?_)
  refine AtC.pick (ts := [0, 1, 2]) rfl ?_
  unfold ref17uQueue_Bump at H
  refine AtC.seqR ?_
  refine AtL.pures hT 1 _ _ _ _ rfl ?_
  refine AtL.nil ?_
  refine AtE.then_n (AtE.go ?_)
  refine AtC.seq ?_
  refine AtC.joinSeq (β := Unit) (fun (t0 : Bool) (bb : Unit) => [(17, Value.bool t0)]) (fun (t0 : Bool) (bb : Unit) => []) [0, 1, 2] [] H (by exact rfl) (by exact rfl) (fun t0 bb h0 H => ?_) (fun J1 H HK1 => ?_)
  ·
   refine AtC.condB H rfl (fun H => ?_) (fun H => ?_)
   ·
    refine AtC.seqR ?_
    refine AtL.pures hT 1 _ _ _ _ rfl ?_
    refine AtL.nil ?_
    refine AtE.then_n (AtE.go ?_)
    refine AtC.ret ?_
    refine AtE.then_r ?_
    exact AtE.retN (rs := [.tmp 6]) rfl (ResAll.cons (ResAt.tmp rfl) ResAll.nil) rfl H
   ·
    refine AtC.skip ?_
    refine AtE.then_n (AtE.go ?_)
    refine AtC.seq ?_
    refine AtC.seqR ?_
    refine AtL.pures hT 2 _ _ _ _ rfl ?_
    refine AtL.nil ?_
    refine AtE.then_n (AtE.go ?_)
    refine AtC.condB H rfl (fun H => ?_) (fun H => ?_)
    ·
     refine AtC.seqR ?_
     refine AtL.pures hT 1 _ _ _ _ rfl ?_
     refine AtL.nil ?_
     refine AtE.then_n (AtE.go ?_)
     refine AtC.ret ?_
     refine AtE.then_r ?_
     exact AtE.retN (rs := [.tmp 6]) rfl (ResAll.cons (ResAt.tmp rfl) ResAll.nil) rfl H
    ·
     refine AtC.skip ?_
     refine AtE.then_n (AtE.go ?_)
     refine AtC.seq ?_
     refine AtC.seqR ?_
     refine AtL.pures hT 2 _ _ _ _ rfl ?_
     obtain ⟨a_1, hc3, H⟩ := H
     refine AtL.q rfl (Quiet1.nilChk rfl rfl hc3) ?_
     refine AtL.pures hT 1 _ _ _ _ rfl ?_
     obtain ⟨v_2, hc4, H⟩ := H
     refine AtL.q rfl (Quiet1.load hT rfl rfl rfl hc4) ?_
     refine AtL.pures hT 1 _ _ _ _ rfl ?_
     obtain ⟨a_2_, hc5, hd5, H⟩ := H
     refine AtL.q rfl (Quiet1.idxS (s := _) hT rfl rfl rfl rfl rfl hc5 hd5) ?_
     obtain ⟨v_3, hc6, H⟩ := H
     refine AtL.q rfl (Quiet1.load hT rfl rfl rfl hc6) ?_
     refine AtL.pures hT 2 _ _ _ _ rfl ?_
     refine AtL.nil ?_
     refine AtE.then_n (AtE.go ?_)
     refine AtC.condB H rfl (fun H => ?_) (fun H => ?_)
     ·
      refine AtC.seqR ?_
      refine AtL.pures hT 1 _ _ _ _ rfl ?_
      refine AtL.nil ?_
      refine AtE.then_n (AtE.go ?_)
      refine AtC.ret ?_
      refine AtE.then_r ?_
      exact AtE.retN (rs := [.tmp 6]) rfl (ResAll.cons (ResAt.tmp rfl) ResAll.nil) rfl H
     ·
      refine AtC.skip ?_
      refine AtE.then_n (AtE.go ?_)
      refine AtC.seqR ?_
      refine AtL.pures hT 1 _ _ _ _ rfl ?_
      obtain ⟨a_3, hc7, H⟩ := H
      refine AtL.q rfl (Quiet1.nilChk rfl rfl hc7) ?_
      refine AtL.pures hT 1 _ _ _ _ rfl ?_
      obtain ⟨v_4, hc8, H⟩ := H
      refine AtL.q rfl (Quiet1.load hT rfl rfl rfl hc8) ?_
      refine AtL.pures hT 1 _ _ _ _ rfl ?_
      obtain ⟨a_4_, hc9, hd9, H⟩ := H
      refine AtL.q rfl (Quiet1.idxS (s := _) hT rfl rfl rfl rfl rfl hc9 hd9) ?_
      obtain ⟨v_5, hc10, H⟩ := H
      refine AtL.q rfl (Quiet1.load hT rfl rfl rfl hc10) ?_
      refine AtL.pures hT 2 _ _ _ _ rfl ?_
      obtain ⟨a_5_, hc11, hd11, H⟩ := H
      refine AtL.q rfl (Quiet1.idxS (s := _) hT rfl rfl rfl rfl rfl hc11 hd11) ?_
      refine AtL.e rfl (EffX.store hT rfl rfl rfl rfl rfl H) ?_
      rintro _ _ ⟨h0u1, rfl, H⟩
      refine AtL.nil ?_
      refine AtE.then_n (AtE.go ?_)
      refine AtC.seqR ?_
      refine AtL.pures hT 1 _ _ _ _ rfl ?_
      refine AtL.nil ?_
      refine AtE.then_n (AtE.go ?_)
      refine AtC.ret ?_
      exact AtE.retN (rs := [.tmp 6]) rfl (ResAll.cons (ResAt.tmp rfl) ResAll.nil) rfl H
  ·
   refine AtC.region ?_
   refine AtL.pures hT 3 _ _ _ _ rfl ?_
   refine AtL.splitB (t := 9) H rfl (fun H => ?_) (fun H => ?_)
   ·
    refine AtL.noF rfl rfl rfl (by decide) rfl ?_
    refine AtL.noF rfl rfl rfl (by decide) rfl ?_
    refine AtL.noF rfl rfl rfl (by decide) rfl ?_
    refine AtL.noF rfl rfl rfl (by decide) rfl ?_
    refine AtL.noF rfl rfl rfl (by decide) rfl ?_
    refine AtL.noF rfl rfl rfl (by decide) rfl ?_
    refine AtL.noF rfl rfl rfl (by decide) rfl ?_
    refine AtL.pures hT 1 _ _ _ _ rfl ?_
    refine AtL.nil ?_
    exact AtE.then_n ((HK1 _ () _ H).pickP (ts := [17, 0, 1, 2]) (is := []) rfl rfl (by decide) rfl)
   ·
    refine AtL.yes rfl rfl rfl ?_
    refine AtL.pures hT 1 _ _ _ _ rfl ?_
    refine AtL.yes rfl rfl rfl ?_
    refine AtL.pures hT 1 _ _ _ _ rfl ?_
    refine AtL.yes rfl rfl rfl ?_
    obtain ⟨a, hc1, H⟩ := H
    refine AtL.q rfl (Quiet1.nilChk rfl rfl hc1) ?_
    refine AtL.yes rfl rfl rfl ?_
    refine AtL.pures hT 1 _ _ _ _ rfl ?_
    refine AtL.yes rfl rfl rfl ?_
    obtain ⟨v_1, hc2, H⟩ := H
    refine AtL.q rfl (Quiet1.load hT rfl rfl rfl hc2) ?_
    refine AtL.yes rfl rfl rfl ?_
    refine AtL.pures hT 1 _ _ _ _ rfl ?_
    refine AtL.yes rfl rfl rfl ?_
    refine AtL.pures hT 1 _ _ _ _ rfl ?_
    refine AtL.pures hT 1 _ _ _ _ rfl ?_
    refine AtL.nil ?_
    exact AtE.then_n ((HK1 _ () _ H).pickP (ts := [17, 0, 1, 2]) (is := []) rfl rfl (by decide) rfl)

theorem lift_container_heap_Init__t88 (h0 : (Option Addr)) (w : World) (m : Heap) (hr : Rel ⟨m, []⟩ w.heap) (S : Unit → Heap → Prop) (H : container_heap_Init__t88 h0 m S) :
    Calls Try.prog 59 #[Value.iface 88 (Value.agg (C_ptr h0).toArray)] w (Post ⟨w, m⟩ (fun _ => Value.tuple #[]) S) := by
  refine Calls.lift (args := [Value.iface 88 (Value.agg (C_ptr h0).toArray)]) Try.func59 rfl Try.ntmps59 (Nat.le_of_ble_eq_true rfl) hr (container_heap_Init__t88 h0 m S) H (fun H => ?_)
  refine AtC.pick (ts := [0]) rfl ?_
  unfold container_heap_Init__t88 at H
  refine AtC.seqR ?_
  refine AtL.pures hT 1 _ _ _ _ rfl ?_
  refine AtL.e rfl (EffX.invoke (f := 163) (sh := fun h => queue_ranks_Len _ h _) (H0 := H) hT rfl rfl (by kernel_rfl) rfl Try.call163 rfl (hl := fun w m hr hw => lift_queue_ranks_Len _ w m hr _ hw)) ?_
  rintro _ _ ⟨v, h0u1, rfl, rfl, H⟩
  refine AtL.pures hT 1 _ _ _ _ rfl ?_
  refine AtL.nil ?_
  refine AtE.then_n (AtE.go ?_)
  refine AtC.seqR ?_
  refine AtL.pures hT 4 _ _ _ _ rfl ?_
  replace H := H _ rfl
  refine AtL.nil ?_
  refine AtE.then_n (AtE.go ?_)
  refine AtC.block ?_
  refine AtC.loopM (fun (s0 : Int) => [(3, Value.int .i64 s0)]) (fun (s0 : Int) => []) [0, 2] [3, 0, 2] [] [] H (by exact rfl) (by exact rfl) (by exact rfl) (by decide) (by exact rfl) (fun Kp1 s0 h0u2 H Q1 HK1 => ?_)
  refine AtC.seq ?_
  refine AtC.seqR ?_
  refine AtL.pures hT 2 _ _ _ _ rfl ?_
  refine AtL.nil ?_
  refine AtE.then_n (AtE.go ?_)
  refine AtC.condB H rfl (fun H => ?_) (fun H => ?_)
  ·
   refine AtC.skip ?_
   refine AtE.then_n (AtE.go ?_)
   refine AtC.seq ?_
   refine AtC.block ?_
   refine AtC.region ?_
   refine AtL.pures hT 3 _ _ _ _ rfl ?_
   refine AtL.e rfl (EffX.call (f := 91) (sh := fun h => container_heap_down__t88 _ _ _ h _) (H0 := H) rfl Try.call91 rfl (hl := fun w m hr hw => lift_container_heap_down__t88 _ _ _ w m hr _ hw)) ?_
   rintro _ _ ⟨v_1, h0u3, rfl, rfl, H⟩
   refine AtL.nil ?_
   refine AtE.blk_n ?_
   refine AtE.then_n (AtE.go ?_)
   refine AtC.region ?_
   refine AtL.pures hT 3 _ _ _ _ rfl ?_
   replace H := H _ rfl
   refine AtL.nil ?_
   exact AtE.then_n ((HK1 _ _ H).pickP (ts := [3, 0, 2]) (is := []) rfl rfl (by decide) rfl)
  ·
   refine AtC.exit ?_
   refine AtE.then_x ?_
   refine AtE.then_x ?_
   refine AtE.blk_hit ?_
   exact AtE.endN rfl rfl H

theorem lift_queue_Halve (q : (Option Addr)) (w : World) (m : Heap) (hr : Rel ⟨m, []⟩ w.heap) (S : Unit → Heap → Prop) (H : queue_Halve q m S) :
    Calls Try.prog 25 #[Value.pointer q] w (Post ⟨w, m⟩ (fun _ => Value.tuple #[]) S) := by
  refine Calls.lift (args := [Value.pointer q]) Try.func25 rfl Try.ntmps25 (Nat.le_of_ble_eq_true rfl) hr (queue_Halve q m S) H (fun H => ?_)
  refine AtC.pick (ts := [0]) rfl ?_
  unfold queue_Halve at H
  refine AtC.seq ?_
  refine AtC.seqR ?_
  refine AtL.pures hT 1 _ _ _ _ rfl ?_
  obtain ⟨a, hc0, H⟩ := H
  refine AtL.q rfl (Quiet1.nilChk rfl rfl hc0) ?_
  refine AtL.pures hT 1 _ _ _ _ rfl ?_
  obtain ⟨v, hc1, H⟩ := H
  refine AtL.q rfl (Quiet1.load hT rfl rfl rfl hc1) ?_
  refine AtL.pures hT 2 _ _ _ _ rfl ?_
  refine AtL.nil ?_
  refine AtE.then_n (AtE.go ?_)
  refine AtC.block ?_
  refine AtC.loopM (fun (s0 : Int) => [(8, Value.int .i64 s0)]) (fun (s0 : Int) => []) [0, 7] [8, 0, 7] [] [] H (by exact rfl) (by exact rfl) (by exact rfl) (by decide) (by exact rfl) (fun Kp3 s0 h0 H Q3 HK3 => ?_)
  refine AtC.seqR ?_
  refine AtL.pures hT 1 _ _ _ _ rfl ?_
  refine AtL.nil ?_
  refine AtE.then_n (AtE.go ?_)
  refine AtC.seq ?_
  refine AtC.condB H rfl (fun H => ?_) (fun H => ?_)
  ·
   refine AtC.skip ?_
   refine AtE.then_n (AtE.go ?_)
   refine AtC.seq ?_
   refine AtC.block ?_
   refine AtC.seqR ?_
   refine AtL.pures hT 2 _ _ _ _ rfl ?_
   refine AtL.nil ?_
   refine AtE.then_n (AtE.go ?_)
   refine AtC.region ?_
   refine AtL.pures hT 1 _ _ _ _ rfl ?_
   obtain ⟨a_1, hc3, H⟩ := H
   refine AtL.q rfl (Quiet1.nilChk rfl rfl hc3) ?_
   refine AtL.pures hT 1 _ _ _ _ rfl ?_
   obtain ⟨v_1, hc4, H⟩ := H
   refine AtL.q rfl (Quiet1.load hT rfl rfl rfl hc4) ?_
   refine AtL.pures hT 1 _ _ _ _ rfl ?_
   obtain ⟨a_2_, hc5, hd5, H⟩ := H
   refine AtL.q rfl (Quiet1.idxS (s := _) hT rfl rfl rfl rfl rfl hc5 hd5) ?_
   obtain ⟨v_2, hc6, H⟩ := H
   refine AtL.q rfl (Quiet1.load hT rfl rfl rfl hc6) ?_
   refine AtL.pures hT 1 _ _ _ _ rfl ?_
   obtain ⟨a_3_, hc7, hd7, H⟩ := H
   refine AtL.q rfl (Quiet1.idxS (s := _) hT rfl rfl rfl rfl rfl hc7 hd7) ?_
   refine AtL.e rfl (EffX.store hT rfl rfl rfl rfl rfl H) ?_
   rintro _ _ ⟨h0u1, rfl, H⟩
   refine AtL.nil ?_
   refine AtE.blk_n ?_
   refine AtE.then_n (AtE.go ?_)
   refine AtC.region ?_
   refine AtL.pures hT 2 _ _ _ _ rfl ?_
   refine AtL.nil ?_
   exact AtE.then_n ((HK3 _ _ H).pickP (ts := [8, 0, 7]) (is := []) rfl rfl (by decide) rfl)
  ·
   refine AtC.exit ?_
   refine AtE.then_x ?_
   refine AtE.then_x ?_
   refine AtE.blk_hit ?_
   refine AtE.then_n (AtE.go ?_)
   refine AtC.region ?_
   refine AtL.pures hT 1 _ _ _ _ rfl ?_
   refine AtL.q rfl (Quiet1.build (cs := [_]) hT rfl rfl rfl rfl rfl rfl) ?_
   refine AtL.q rfl (Quiet1.makeI hT rfl rfl (by intro m; nofun) rfl) ?_
   refine AtL.e rfl (EffX.call (f := 59) (sh := fun h => container_heap_Init__t88 _ h _) (H0 := H) rfl Try.call59 rfl (hl := fun w m hr hw => lift_container_heap_Init__t88 _ w m hr _ hw)) ?_
   rintro _ _ ⟨v_3, h0u2, rfl, rfl, H⟩
   refine AtL.nil ?_
   exact AtE.endN rfl rfl H

theorem lift_queue_Right_c1 (n : Int) (w : World) (m : Heap) (hr : Rel ⟨m, []⟩ w.heap) (S : Bool → Heap → Prop) (H : queue_Right_c1 n m S) :
    Calls Try.prog 62 #[Value.int .i64 n] w (Post ⟨w, m⟩ Value.bool S) := by
  refine Calls.lift (args := [Value.int .i64 n]) Try.func62 rfl Try.ntmps62 (Nat.le_of_ble_eq_true rfl) hr (queue_Right_c1 n m S) H (fun H => ?_)
  refine AtC.pick (ts := [0]) rfl ?_
  unfold queue_Right_c1 at H
  refine AtC.seqR ?_
  refine AtL.pures hT 1 _ _ _ _ rfl ?_
  refine AtL.nil ?_
  refine AtE.then_n (AtE.go ?_)
  refine AtC.joinSeq (β := Unit) (fun (t0 : Bool) (bb : Unit) => [(2, Value.bool t0)]) (fun (t0 : Bool) (bb : Unit) => []) [] [] H (by exact rfl) (by exact rfl) (fun t0 bb h0 H => ?_) (fun J1 H HK1 => ?_)
  ·
   refine AtC.ret ?_
   exact AtE.retN (rs := [.tmp 2]) rfl (ResAll.cons (ResAt.tmp rfl) ResAll.nil) rfl H
  ·
   refine AtC.region ?_
   refine AtL.pures hT 3 _ _ _ _ rfl ?_
   refine AtL.splitB (t := 5) H rfl (fun H => ?_) (fun H => ?_)
   ·
    refine AtL.noF rfl rfl rfl (by decide) rfl ?_
    refine AtL.noF rfl rfl rfl (by decide) rfl ?_
    refine AtL.pures hT 2 _ _ _ _ rfl ?_
    refine AtL.nil ?_
    exact AtE.then_n ((HK1 _ () _ H).pickP (ts := [2]) (is := []) rfl rfl (by decide) rfl)
   ·
    refine AtL.yes rfl rfl rfl ?_
    refine AtL.pures hT 1 _ _ _ _ rfl ?_
    refine AtL.yes rfl rfl rfl ?_
    refine AtL.pures hT 1 _ _ _ _ rfl ?_
    refine AtL.pures hT 2 _ _ _ _ rfl ?_
    refine AtL.nil ?_
    exact AtE.then_n ((HK1 _ () _ H).pickP (ts := [2]) (is := []) rfl rfl (by decide) rfl)

theorem lift_slices_IndexFunc_int_int__queue_Right_c1 (s0 : Sl) (w : World) (m : Heap) (hr : Rel ⟨m, []⟩ w.heap) (S : Int → Heap → Prop) (H : slices_IndexFunc_int_int__queue_Right_c1 s0 m S) :
    Calls Try.prog 94 #[Sl.toV s0, Value.func (.func 62) #[] #[]] w (Post ⟨w, m⟩ (Value.int .i64) S) := by
  refine Calls.lift (args := [Sl.toV s0, Value.func (.func 62) #[] #[]]) Try.func94 rfl Try.ntmps94 (Nat.le_of_ble_eq_true rfl) hr (slices_IndexFunc_int_int__queue_Right_c1 s0 m S) H (fun H => ?_)
  refine AtC.pick (ts := [0, 1]) rfl ?_
  unfold slices_IndexFunc_int_int__queue_Right_c1 at H
  refine AtC.seqR ?_
  refine AtL.pures hT 1 _ _ _ _ rfl ?_
  refine AtL.nil ?_
  refine AtE.then_n (AtE.go ?_)
  refine AtC.seq ?_
  refine AtC.seqR ?_
  refine AtL.pures hT 3 _ _ _ _ rfl ?_
  refine AtL.nil ?_
  refine AtE.then_n (AtE.go ?_)
  refine AtC.block ?_
  refine AtC.loopM (fun (s0u1 : Int) => [(8, Value.int .i64 s0u1)]) (fun (s0u1 : Int) => []) [0, 1, 7] [8, 0, 1, 7] [] [] H (by exact rfl) (by exact rfl) (by exact rfl) (by decide) (by exact rfl) (fun Kp1 s0u1 h0 H Q1 HK1 => ?_)
  refine AtC.seqR ?_
  refine AtL.pures hT 1 _ _ _ _ rfl ?_
  refine AtL.nil ?_
  refine AtE.then_n (AtE.go ?_)
  refine AtC.seq ?_
  refine AtC.condB H rfl (fun H => ?_) (fun H => ?_)
  ·
   refine AtC.skip ?_
   refine AtE.then_n (AtE.go ?_)
   refine AtC.seq ?_
   refine AtC.block ?_
   refine AtC.seqR ?_
   refine AtL.pures hT 2 _ _ _ _ rfl ?_
   refine AtL.nil ?_
   refine AtE.then_n (AtE.go ?_)
   refine AtC.seqR ?_
   refine AtL.pures hT 3 _ _ _ _ rfl ?_
   obtain ⟨a_, hc1, hd1, H⟩ := H
   refine AtL.q rfl (Quiet1.idxS (s := _) hT rfl rfl rfl rfl rfl hc1 hd1) ?_
   obtain ⟨v, hc2, H⟩ := H
   refine AtL.q rfl (Quiet1.load hT rfl rfl rfl hc2) ?_
   refine AtL.e rfl (EffX.callF (bs := []) (cs := []) (f := 62) (sh := fun h => queue_Right_c1 _ h _) (H0 := H) rfl rfl Try.call62 rfl (hl := fun w m hr hw => lift_queue_Right_c1 _ w m hr _ hw)) ?_
   rintro _ _ ⟨v_1, h0u1, rfl, rfl, H⟩
   refine AtL.nil ?_
   refine AtE.then_n (AtE.go ?_)
   refine AtC.condB H rfl (fun H => ?_) (fun H => ?_)
   ·
    refine AtC.seqR ?_
    refine AtL.pures hT 2 _ _ _ _ rfl ?_
    refine AtL.nil ?_
    refine AtE.then_n (AtE.go ?_)
    refine AtC.ret ?_
    refine AtE.blk_r ?_
    refine AtE.then_r ?_
    refine AtE.then_r ?_
    refine AtE.blk_r ?_
    refine AtE.then_r ?_
    exact AtE.retN (rs := [.tmp 4]) rfl (ResAll.cons (ResAt.tmp rfl) ResAll.nil) rfl H
   ·
    refine AtC.skip ?_
    refine AtE.blk_n ?_
    refine AtE.then_n (AtE.go ?_)
    refine AtC.region ?_
    refine AtL.pures hT 2 _ _ _ _ rfl ?_
    refine AtL.nil ?_
    exact AtE.then_n ((HK1 _ _ H).pickP (ts := [8, 0, 1, 7]) (is := []) rfl rfl (by decide) rfl)
  ·
   refine AtC.exit ?_
   refine AtE.then_x ?_
   refine AtE.then_x ?_
   refine AtE.blk_hit ?_
   refine AtE.then_n (AtE.go ?_)
   refine AtC.seqR ?_
   refine AtL.pures hT 1 _ _ _ _ rfl ?_
   refine AtL.nil ?_
   refine AtE.then_n (AtE.go ?_)
   refine AtC.ret ?_
   exact AtE.retN (rs := [.tmp 4]) rfl (ResAll.cons (ResAt.tmp rfl) ResAll.nil) rfl H

theorem lift_slices_ContainsFunc_int_int__queue_Right_c1 (s0 : Sl) (w : World) (m : Heap) (hr : Rel ⟨m, []⟩ w.heap) (S : Bool → Heap → Prop) (H : slices_ContainsFunc_int_int__queue_Right_c1 s0 m S) :
    Calls Try.prog 61 #[Sl.toV s0, Value.func (.func 62) #[] #[]] w (Post ⟨w, m⟩ Value.bool S) := by
  refine Calls.lift (args := [Sl.toV s0, Value.func (.func 62) #[] #[]]) Try.func61 rfl Try.ntmps61 (Nat.le_of_ble_eq_true rfl) hr (slices_ContainsFunc_int_int__queue_Right_c1 s0 m S) H (fun H => ?_)
  refine AtC.pick (ts := [0, 1]) rfl ?_
  unfold slices_ContainsFunc_int_int__queue_Right_c1 at H
  refine AtC.seqR ?_
  refine AtL.pures hT 1 _ _ _ _ rfl ?_
  refine AtL.nil ?_
  refine AtE.then_n (AtE.go ?_)
  refine AtC.seqR ?_
  refine AtL.pures hT 2 _ _ _ _ rfl ?_
  refine AtL.e rfl (EffX.call (f := 94) (sh := fun h => slices_IndexFunc_int_int__queue_Right_c1 _ h _) (H0 := H) rfl Try.call94 rfl (hl := fun w m hr hw => lift_slices_IndexFunc_int_int__queue_Right_c1 _ w m hr _ hw)) ?_
  rintro _ _ ⟨v, h0, rfl, rfl, H⟩
  refine AtL.pures hT 2 _ _ _ _ rfl ?_
  refine AtL.nil ?_
  refine AtE.then_n (AtE.go ?_)
  refine AtC.ret ?_
  exact AtE.retN (rs := [.tmp 4]) rfl (ResAll.cons (ResAt.tmp rfl) ResAll.nil) rfl H

theorem lift_queue_Right (q : Sl × Sl) (w : World) (m : Heap) (hr : Rel ⟨m, []⟩ w.heap) (S : Bool → Heap → Prop) (H : queue_Right q m S) :
    Calls Try.prog 26 #[Value.agg (C_sl_sl q).toArray] w (Post ⟨w, m⟩ Value.bool S) := by
  refine Calls.lift (args := [Value.agg (C_sl_sl q).toArray]) Try.func26 rfl Try.ntmps26 (Nat.le_of_ble_eq_true rfl) hr (queue_Right q m S) H (fun H => ?_)
  refine AtC.pick (ts := [0]) rfl ?_
  unfold queue_Right at H
  refine AtC.seqR ?_
  refine AtL.e rfl (EffX.box (cs := [_, _]) rfl rfl rfl H) ?_
  rintro _ _ ⟨q_1, h0, rfl, rfl, H⟩
  refine AtL.pures hT 1 _ _ _ _ rfl ?_
  refine AtL.nil ?_
  refine AtE.then_n (AtE.go ?_)
  refine AtC.seqR ?_
  refine AtL.e rfl (EffX.newM rfl H) ?_
  rintro _ _ ⟨v, h0u1, rfl, rfl, H⟩
  refine AtL.pures hT 1 _ _ _ _ rfl ?_
  refine AtL.nil ?_
  refine AtE.then_n (AtE.go ?_)
  refine AtC.seq ?_
  refine AtC.seqR ?_
  refine AtL.pures hT 1 _ _ _ _ rfl ?_
  obtain ⟨v_1, hc0, H⟩ := H
  refine AtL.q rfl (Quiet1.load hT rfl rfl rfl hc0) ?_
  refine AtL.pures hT 2 _ _ _ _ rfl ?_
  refine AtL.nil ?_
  refine AtE.then_n (AtE.go ?_)
  refine AtC.block ?_
  refine AtC.loopM (fun (s0 : Int) => [(10, Value.int .i64 s0)]) (fun (s0 : Int) => []) [1, 3, 8, 9] [10, 1, 3, 8, 9] [] [] H (by exact rfl) (by exact rfl) (by exact rfl) (by decide) (by exact rfl) (fun Kp2 s0 h0u2 H Q2 HK2 => ?_)
  refine AtC.seqR ?_
  refine AtL.pures hT 1 _ _ _ _ rfl ?_
  refine AtL.nil ?_
  refine AtE.then_n (AtE.go ?_)
  refine AtC.seq ?_
  refine AtC.condB H rfl (fun H => ?_) (fun H => ?_)
  ·
   refine AtC.skip ?_
   refine AtE.then_n (AtE.go ?_)
   refine AtC.seq ?_
   refine AtC.block ?_
   refine AtC.seqR ?_
   refine AtL.pures hT 1 _ _ _ _ rfl ?_
   obtain ⟨a_, hc2, hd2, H⟩ := H
   refine AtL.q rfl (Quiet1.idxS (s := _) hT rfl rfl rfl rfl rfl hc2 hd2) ?_
   obtain ⟨v_2, hc3, H⟩ := H
   refine AtL.q rfl (Quiet1.load hT rfl rfl rfl hc3) ?_
   refine AtL.pures hT 2 _ _ _ _ rfl ?_
   refine AtL.nil ?_
   refine AtE.then_n (AtE.go ?_)
   refine AtC.seq ?_
   refine AtC.joinSeq (β := Unit) (fun (t0 : Bool) (bb : Unit) => [(35, Value.bool t0)]) (fun (t0 : Bool) (bb : Unit) => []) [1, 3, 5, 8, 9, 10] [] H (by exact rfl) (by exact rfl) (fun t0 bb h0u3 H => ?_) (fun J5 H HK5 => ?_)
   ·
    refine AtC.condB H rfl (fun H => ?_) (fun H => ?_)
    ·
     refine AtC.seqR ?_
     refine AtL.pures hT 1 _ _ _ _ rfl ?_
     refine AtL.nil ?_
     refine AtE.then_n (AtE.go ?_)
     refine AtC.ret ?_
     refine AtE.then_r ?_
     refine AtE.blk_r ?_
     refine AtE.then_r ?_
     refine AtE.then_r ?_
     refine AtE.blk_r ?_
     refine AtE.then_r ?_
     exact AtE.retN (rs := [.tmp 2]) rfl (ResAll.cons (ResAt.tmp rfl) ResAll.nil) rfl H
    ·
     refine AtC.skip ?_
     refine AtE.then_n (AtE.go ?_)
     refine AtC.region ?_
     refine AtL.pures hT 2 _ _ _ _ rfl ?_
     refine AtL.e rfl (EffX.setM hT rfl rfl rfl rfl rfl rfl H) ?_
     rintro _ _ ⟨h0u6, rfl, H⟩
     refine AtL.nil ?_
     refine AtE.blk_n ?_
     refine AtE.then_n (AtE.go ?_)
     refine AtC.region ?_
     refine AtL.pures hT 2 _ _ _ _ rfl ?_
     refine AtL.nil ?_
     exact AtE.then_n ((HK2 _ _ H).pickP (ts := [10, 1, 3, 8, 9]) (is := []) rfl rfl (by decide) rfl)
   ·
    refine AtC.region ?_
    refine AtL.pures hT 1 _ _ _ _ rfl ?_
    refine AtL.e rfl (EffX.call (f := 46) (sh := fun h => queue_there _ _ h _) (H0 := H) rfl Try.call46 rfl (hl := fun w m hr hw => lift_queue_there _ _ w m hr _ hw)) ?_
    rintro _ _ ⟨v_3, h0u4, rfl, rfl, H⟩
    refine AtL.pures hT 2 _ _ _ _ rfl ?_
    refine AtL.splitB (t := 18) H rfl (fun H => ?_) (fun H => ?_)
    ·
     refine AtL.noF rfl rfl rfl (by decide) rfl ?_
     refine AtL.noF rfl rfl rfl (by decide) rfl ?_
     refine AtL.noF rfl rfl rfl (by decide) rfl ?_
     refine AtL.pures hT 2 _ _ _ _ rfl ?_
     refine AtL.noF rfl rfl rfl (by decide) rfl ?_
     refine AtL.noF rfl rfl rfl (by decide) rfl ?_
     refine AtL.noF rfl rfl rfl (by decide) rfl ?_
     refine AtL.noU rfl rfl rfl rfl ?_
     refine AtL.noU rfl rfl rfl rfl ?_
     refine AtL.noU rfl rfl rfl rfl ?_
     refine AtL.noU rfl rfl rfl rfl ?_
     refine AtL.noU rfl rfl rfl rfl ?_
     refine AtL.noU rfl rfl rfl rfl ?_
     refine AtL.noU rfl rfl rfl rfl ?_
     refine AtL.noF rfl rfl rfl (by decide) rfl ?_
     refine AtL.pures hT 1 _ _ _ _ rfl ?_
     refine AtL.nil ?_
     exact AtE.then_n ((HK5 _ () _ H).pickP (ts := [35, 1, 3, 5, 8, 9, 10]) (is := []) rfl rfl (by decide) rfl)
    ·
     refine AtL.yes rfl rfl rfl ?_
     refine AtL.pures hT 1 _ _ _ _ rfl ?_
     refine AtL.yes rfl rfl rfl ?_
     refine AtL.pures hT 1 _ _ _ _ rfl ?_
     refine AtL.yes rfl rfl rfl ?_
     obtain ⟨fm5, v_4, hm5, hn5, H⟩ := H
     refine AtL.q rfl (Quiet1.lookM1 hT rfl rfl rfl (by kernel_rfl) rfl rfl hm5 hn5) ?_
     refine AtL.pures hT 2 _ _ _ _ rfl ?_
     refine AtL.splitB (t := 23) H rfl (fun H => ?_) (fun H => ?_)
     ·
      refine AtL.noF rfl rfl rfl (by decide) rfl ?_
      refine AtL.noF rfl rfl rfl (by decide) rfl ?_
      refine AtL.noF rfl rfl rfl (by decide) rfl ?_
      refine AtL.noU rfl rfl rfl rfl ?_
      refine AtL.noU rfl rfl rfl rfl ?_
      refine AtL.noU rfl rfl rfl rfl ?_
      refine AtL.noU rfl rfl rfl rfl ?_
      refine AtL.noU rfl rfl rfl rfl ?_
      refine AtL.noU rfl rfl rfl rfl ?_
      refine AtL.noU rfl rfl rfl rfl ?_
      refine AtL.noF rfl rfl rfl (by decide) rfl ?_
      refine AtL.pures hT 1 _ _ _ _ rfl ?_
      refine AtL.nil ?_
      exact AtE.then_n ((HK5 _ () _ H).pickP (ts := [35, 1, 3, 5, 8, 9, 10]) (is := []) rfl rfl (by decide) rfl)
     ·
      refine AtL.yes rfl rfl rfl ?_
      refine AtL.pures hT 1 _ _ _ _ rfl ?_
      refine AtL.yes rfl rfl rfl ?_
      refine AtL.pures hT 1 _ _ _ _ rfl ?_
      refine AtL.yes rfl rfl rfl ?_
      refine AtL.pures hT 1 _ _ _ _ rfl ?_
      refine AtL.splitB (t := 26) H rfl (fun H => ?_) (fun H => ?_)
      ·
       refine AtL.yes rfl rfl rfl ?_
       refine AtL.q rfl (Quiet1.build (cs := [_]) hT rfl rfl rfl rfl rfl rfl) ?_
       refine AtL.yes rfl rfl rfl ?_
       refine AtL.pures hT 1 _ _ _ _ rfl ?_
       refine AtL.yes rfl rfl rfl ?_
       refine AtL.pures hT 1 _ _ _ _ rfl ?_
       refine AtL.yes rfl rfl rfl ?_
       refine AtL.pures hT 1 _ _ _ _ rfl ?_
       refine AtL.yes rfl rfl rfl ?_
       refine AtL.pures hT 1 _ _ _ _ rfl ?_
       refine AtL.yes rfl rfl rfl ?_
       refine AtL.e rfl (EffX.call (f := 60) (sh := fun h => queue_ranks_Less _ _ _ h _) (H0 := H) rfl Try.call60 rfl (hl := fun w m hr hw => lift_queue_ranks_Less _ _ _ w m hr _ hw)) ?_
       rintro _ _ ⟨v_5, h0u5, rfl, rfl, H⟩
       refine AtL.yes rfl rfl rfl ?_
       refine AtL.pures hT 1 _ _ _ _ rfl ?_
       refine AtL.yes rfl rfl rfl ?_
       refine AtL.pures hT 1 _ _ _ _ rfl ?_
       refine AtL.pures hT 1 _ _ _ _ rfl ?_
       refine AtL.nil ?_
       exact AtE.then_n ((HK5 _ () _ H).pickP (ts := [35, 1, 3, 5, 8, 9, 10]) (is := []) rfl rfl (by decide) rfl)
      ·
       refine AtL.noF rfl rfl rfl (by decide) rfl ?_
       refine AtL.noF rfl rfl rfl (by decide) rfl ?_
       refine AtL.noF rfl rfl rfl (by decide) rfl ?_
       refine AtL.noF rfl rfl rfl (by decide) rfl ?_
       refine AtL.noF rfl rfl rfl (by decide) rfl ?_
       refine AtL.noF rfl rfl rfl (by decide) rfl ?_
       refine AtL.noF rfl rfl rfl (by decide) rfl ?_
       refine AtL.yes rfl rfl rfl ?_
       refine AtL.pures hT 1 _ _ _ _ rfl ?_
       refine AtL.pures hT 1 _ _ _ _ rfl ?_
       refine AtL.nil ?_
       exact AtE.then_n ((HK5 _ () _ H).pickP (ts := [35, 1, 3, 5, 8, 9, 10]) (is := []) rfl rfl (by decide) rfl)
  ·
   refine AtC.exit ?_
   refine AtE.then_x ?_
   refine AtE.then_x ?_
   refine AtE.blk_hit ?_
   refine AtE.then_n (AtE.go ?_)
   refine AtC.seqR ?_
   refine AtL.pures hT 1 _ _ _ _ rfl ?_
   obtain ⟨v_6, hc6, H⟩ := H
   refine AtL.q rfl (Quiet1.load hT rfl rfl rfl hc6) ?_
   refine AtL.e rfl (EffX.call (f := 61) (sh := fun h => slices_ContainsFunc_int_int__queue_Right_c1 _ h _) (H0 := H) rfl Try.call61 rfl (hl := fun w m hr hw => lift_slices_ContainsFunc_int_int__queue_Right_c1 _ w m hr _ hw)) ?_
   rintro _ _ ⟨v_7, h0u7, rfl, rfl, H⟩
   refine AtL.pures hT 2 _ _ _ _ rfl ?_
   refine AtL.nil ?_
   refine AtE.then_n (AtE.go ?_)
   refine AtC.ret ?_
   exact AtE.retN (rs := [.tmp 2]) rfl (ResAll.cons (ResAt.tmp rfl) ResAll.nil) rfl H

theorem lift_ref17uRight (q : Sl × Sl) (w : World) (m : Heap) (hr : Rel ⟨m, []⟩ w.heap) (S : Bool → Heap → Prop) (H : ref17uRight q m S) :
    Calls Try.prog 27 #[Value.agg (C_sl_sl q).toArray] w (Post ⟨w, m⟩ Value.bool S) := by
  refine Calls.lift (args := [Value.agg (C_sl_sl q).toArray]) Try.func27 rfl Try.ntmps27 (Nat.le_of_ble_eq_true rfl) hr (ref17uRight q m S) H (fun H => ?_)
  refine AtC.pick (ts := [0]) rfl ?_
  unfold ref17uRight at H
  refine AtC.seqR ?_
  refine AtL.e rfl (EffX.boxP (cs := [_, _]) rfl rfl rfl H) ?_
  rintro _ _ ⟨b, _, rfl, rfl, _, H⟩
  replace H := H.self
  refine AtL.pures hT 1 _ _ _ _ rfl ?_
  refine AtL.nil ?_
  refine AtE.then_n (AtE.go ?_)
  refine AtC.seq ?_
  refine AtC.seqR ?_
  refine AtL.pures hT 1 _ _ _ _ rfl ?_
  refine AtL.nil ?_
  refine AtE.then_n (AtE.go ?_)
  refine AtC.block ?_
  refine AtC.loopM (fun (s0 : Int) => [(3, Value.int .i64 s0)]) (fun (s0 : Int) => []) [1] [3, 1] [0] [0] H (by exact rfl) (by exact rfl) (by exact rfl) (by decide) (by exact rfl) (fun Kp1 s0 h0u1 H Q1 HK1 => ?_)
  refine AtC.seq ?_
  refine AtC.seqR ?_
  refine AtL.pures hT 2 _ _ _ _ rfl ?_
  refine AtL.q rfl (Quiet1.loadP (i := 0) hT rfl rfl rfl rfl rfl rfl) ?_
  refine AtL.pures hT 2 _ _ _ _ rfl ?_
  refine AtL.nil ?_
  refine AtE.then_n (AtE.go ?_)
  refine AtC.condB H rfl (fun H => ?_) (fun H => ?_)
  ·
   refine AtC.skip ?_
   refine AtE.then_n (AtE.go ?_)
   refine AtC.seq ?_
   refine AtC.block ?_
   refine AtC.joinSeq (β := Unit) (fun (t0 : Bool) (bb : Unit) => [(28, Value.bool t0)]) (fun (t0 : Bool) (bb : Unit) => []) [1, 3] [0] H (by exact rfl) (by exact rfl) (fun t0 bb h0u2 H => ?_) (fun J2 H HK2 => ?_)
   ·
    refine AtC.condB H rfl (fun H => ?_) (fun H => ?_)
    ·
     refine AtC.seqR ?_
     refine AtL.pures hT 1 _ _ _ _ rfl ?_
     refine AtL.nil ?_
     refine AtE.then_n (AtE.go ?_)
     refine AtC.ret ?_
     refine AtE.blk_r ?_
     refine AtE.then_r ?_
     refine AtE.then_r ?_
     refine AtE.blk_r ?_
     refine AtE.then_r ?_
     exact AtE.retN (rs := [.tmp 2]) rfl (ResAll.cons (ResAt.tmp rfl) ResAll.nil) rfl H
    ·
     refine AtC.skip ?_
     refine AtE.blk_n ?_
     refine AtE.then_n (AtE.go ?_)
     refine AtC.region ?_
     refine AtL.pures hT 3 _ _ _ _ rfl ?_
     replace H := H _ rfl
     refine AtL.nil ?_
     exact AtE.then_n ((HK1 _ _ H).pickP (ts := [3, 1]) (is := [0]) rfl rfl (by decide) rfl)
   ·
    refine AtC.region ?_
    refine AtL.pures hT 1 _ _ _ _ rfl ?_
    refine AtL.q rfl (Quiet1.loadP (i := 0) hT rfl rfl rfl rfl rfl rfl) ?_
    refine AtL.pures hT 1 _ _ _ _ rfl ?_
    obtain ⟨a_, hc2, hd2, H⟩ := H
    refine AtL.q rfl (Quiet1.idxS (s := _) hT rfl rfl rfl rfl rfl hc2 hd2) ?_
    obtain ⟨v, hc3, H⟩ := H
    refine AtL.q rfl (Quiet1.load hT rfl rfl rfl hc3) ?_
    refine AtL.pures hT 2 _ _ _ _ rfl ?_
    refine AtL.splitB (t := 21) H rfl (fun H => ?_) (fun H => ?_)
    ·
     refine AtL.noF rfl rfl rfl (by decide) rfl ?_
     refine AtL.noF rfl rfl rfl (by decide) rfl ?_
     refine AtL.noF rfl rfl rfl (by decide) rfl ?_
     refine AtL.noF rfl rfl rfl (by decide) rfl ?_
     refine AtL.noF rfl rfl rfl (by decide) rfl ?_
     refine AtL.noF rfl rfl rfl (by decide) rfl ?_
     refine AtL.pures hT 1 _ _ _ _ rfl ?_
     refine AtL.nil ?_
     exact AtE.then_n ((HK2 _ () _ H).pickP (ts := [28, 1, 3]) (is := [0]) rfl rfl (by decide) rfl)
    ·
     refine AtL.yes rfl rfl rfl ?_
     refine AtL.pures hT 1 _ _ _ _ rfl ?_
     refine AtL.yes rfl rfl rfl ?_
     refine AtL.q rfl (Quiet1.loadP (i := 0) hT rfl rfl rfl rfl rfl rfl) ?_
     refine AtL.yes rfl rfl rfl ?_
     refine AtL.pures hT 1 _ _ _ _ rfl ?_
     refine AtL.yes rfl rfl rfl ?_
     obtain ⟨a_1_, hc4, hd4, H⟩ := H
     refine AtL.q rfl (Quiet1.idxS (s := _) hT rfl rfl rfl rfl rfl hc4 hd4) ?_
     refine AtL.yes rfl rfl rfl ?_
     obtain ⟨v_1, hc5, H⟩ := H
     refine AtL.q rfl (Quiet1.load hT rfl rfl rfl hc5) ?_
     refine AtL.yes rfl rfl rfl ?_
     refine AtL.pures hT 1 _ _ _ _ rfl ?_
     refine AtL.pures hT 1 _ _ _ _ rfl ?_
     refine AtL.nil ?_
     exact AtE.then_n ((HK2 _ () _ H).pickP (ts := [28, 1, 3]) (is := [0]) rfl rfl (by decide) rfl)
  ·
   refine AtC.exit ?_
   refine AtE.then_x ?_
   refine AtE.then_x ?_
   refine AtE.blk_hit ?_
   refine AtE.then_n (AtE.go ?_)
   refine AtC.seq ?_
   refine AtC.seqR ?_
   refine AtL.pures hT 1 _ _ _ _ rfl ?_
   refine AtL.nil ?_
   refine AtE.then_n (AtE.go ?_)
   refine AtC.block ?_
   refine AtC.loopM (fun (s0u1 : Int) => [(4, Value.int .i64 s0u1)]) (fun (s0u1 : Int) => []) [1] [4, 1] [0] [0] H (by exact rfl) (by exact rfl) (by exact rfl) (by decide) (by exact rfl) (fun Kp7 s0u1 h0u3 H Q7 HK7 => ?_)
   refine AtC.seq ?_
   refine AtC.seqR ?_
   refine AtL.pures hT 2 _ _ _ _ rfl ?_
   refine AtL.q rfl (Quiet1.loadP (i := 0) hT rfl rfl rfl rfl rfl rfl) ?_
   refine AtL.pures hT 2 _ _ _ _ rfl ?_
   refine AtL.nil ?_
   refine AtE.then_n (AtE.go ?_)
   refine AtC.condB H rfl (fun H => ?_) (fun H => ?_)
   ·
    refine AtC.skip ?_
    refine AtE.then_n (AtE.go ?_)
    refine AtC.joinSeq (β := Unit) (fun (t0u1 : Unit) (bb_1 : Unit) => []) (fun (t0u1 : Unit) (bb_1 : Unit) => []) [1, 4] [0] H (by exact rfl) (by exact rfl) (fun t0u1 bb_1 h0u4 H => ?_) (fun J8 H HK8 => ?_)
    ·
     refine AtC.region ?_
     refine AtL.pures hT 3 _ _ _ _ rfl ?_
     replace H := H _ rfl
     refine AtL.nil ?_
     exact AtE.then_n ((HK7 _ _ H).pickP (ts := [4, 1]) (is := [0]) rfl rfl (by decide) rfl)
    ·
     refine AtC.block ?_
     refine AtC.seqR ?_
     refine AtL.pures hT 1 _ _ _ _ rfl ?_
     refine AtL.q rfl (Quiet1.loadP (i := 0) hT rfl rfl rfl rfl rfl rfl) ?_
     refine AtL.pures hT 1 _ _ _ _ rfl ?_
     obtain ⟨a_2_, hc8, hd8, H⟩ := H
     refine AtL.q rfl (Quiet1.idxS (s := _) hT rfl rfl rfl rfl rfl hc8 hd8) ?_
     obtain ⟨v_2, hc9, H⟩ := H
     refine AtL.q rfl (Quiet1.load hT rfl rfl rfl hc9) ?_
     refine AtL.pures hT 1 _ _ _ _ rfl ?_
     refine AtL.nil ?_
     refine AtE.then_n (AtE.go ?_)
     refine AtC.seq ?_
     refine AtC.joinSeq (β := Unit) (fun (t0u2 : Bool) (bb_2 : Unit) => [(49, Value.bool t0u2)]) (fun (t0u2 : Bool) (bb_2 : Unit) => []) [1, 4, 5] [0] H (by exact rfl) (by exact rfl) (fun t0u2 bb_2 h0u5 H => ?_) (fun J11 H HK11 => ?_)
     ·
      refine AtC.condB H rfl (fun H => ?_) (fun H => ?_)
      ·
       refine AtC.seqR ?_
       refine AtL.pures hT 1 _ _ _ _ rfl ?_
       refine AtL.nil ?_
       refine AtE.then_n (AtE.go ?_)
       refine AtC.ret ?_
       refine AtE.then_r ?_
       refine AtE.blk_r ?_
       refine AtE.then_r ?_
       refine AtE.then_r ?_
       refine AtE.blk_r ?_
       refine AtE.then_r ?_
       exact AtE.retN (rs := [.tmp 2]) rfl (ResAll.cons (ResAt.tmp rfl) ResAll.nil) rfl H
      ·
       refine AtC.skip ?_
       refine AtE.then_n (AtE.go ?_)
       refine AtC.seq ?_
       refine AtC.seqR ?_
       refine AtL.pures hT 1 _ _ _ _ rfl ?_
       refine AtL.nil ?_
       refine AtE.then_n (AtE.go ?_)
       refine AtC.block ?_
       refine AtC.loopM (fun (s0u2 : Int) => [(6, Value.int .i64 s0u2)]) (fun (s0u2 : Int) => []) [1, 4, 5] [6, 1, 4, 5] [0] [0] H (by exact rfl) (by exact rfl) (by exact rfl) (by decide) (by exact rfl) (fun Kp12 s0u2 h0u6 H Q12 HK12 => ?_)
       refine AtC.seq ?_
       refine AtC.seqR ?_
       refine AtL.pures hT 3 _ _ _ _ rfl ?_
       refine AtL.nil ?_
       refine AtE.then_n (AtE.go ?_)
       refine AtC.condB H rfl (fun H => ?_) (fun H => ?_)
       ·
        refine AtC.skip ?_
        refine AtE.then_n (AtE.go ?_)
        refine AtC.seq ?_
        refine AtC.block ?_
        refine AtC.seqR ?_
        refine AtL.pures hT 1 _ _ _ _ rfl ?_
        refine AtL.q rfl (Quiet1.loadP (i := 0) hT rfl rfl rfl rfl rfl rfl) ?_
        refine AtL.pures hT 1 _ _ _ _ rfl ?_
        obtain ⟨a_3_, hc12, hd12, H⟩ := H
        refine AtL.q rfl (Quiet1.idxS (s := _) hT rfl rfl rfl rfl rfl hc12 hd12) ?_
        obtain ⟨v_3, hc13, H⟩ := H
        refine AtL.q rfl (Quiet1.load hT rfl rfl rfl hc13) ?_
        refine AtL.pures hT 2 _ _ _ _ rfl ?_
        refine AtL.nil ?_
        refine AtE.then_n (AtE.go ?_)
        refine AtC.condB H rfl (fun H => ?_) (fun H => ?_)
        ·
         refine AtC.seqR ?_
         refine AtL.pures hT 1 _ _ _ _ rfl ?_
         refine AtL.nil ?_
         refine AtE.then_n (AtE.go ?_)
         refine AtC.ret ?_
         refine AtE.blk_r ?_
         refine AtE.then_r ?_
         refine AtE.then_r ?_
         refine AtE.blk_r ?_
         refine AtE.then_r ?_
         refine AtE.blk_r ?_
         refine AtE.then_r ?_
         refine AtE.then_r ?_
         refine AtE.blk_r ?_
         refine AtE.then_r ?_
         exact AtE.retN (rs := [.tmp 2]) rfl (ResAll.cons (ResAt.tmp rfl) ResAll.nil) rfl H
        ·
         refine AtC.skip ?_
         refine AtE.blk_n ?_
         refine AtE.then_n (AtE.go ?_)
         refine AtC.region ?_
         refine AtL.pures hT 3 _ _ _ _ rfl ?_
         replace H := H _ rfl
         refine AtL.nil ?_
         exact AtE.then_n ((HK12 _ _ H).pickP (ts := [6, 1, 4, 5]) (is := [0]) rfl rfl (by decide) rfl)
       ·
        refine AtC.exit ?_
        refine AtE.then_x ?_
        refine AtE.then_x ?_
        refine AtE.blk_hit ?_
        refine AtE.then_n (AtE.go ?_)
        refine AtC.seqR ?_
        refine AtL.pures hT 2 _ _ _ _ rfl ?_
        refine AtL.nil ?_
        refine AtE.then_n (AtE.go ?_)
        refine AtC.condB H rfl (fun H => ?_) (fun H => ?_)
        ·
         refine AtC.seqR ?_
         refine AtL.pures hT 1 _ _ _ _ rfl ?_
         refine AtL.q rfl (Quiet1.loadP (i := 0) hT rfl rfl rfl rfl rfl rfl) ?_
         refine AtL.pures hT 3 _ _ _ _ rfl ?_
         obtain ⟨a_4_, hc14, hd14, H⟩ := H
         refine AtL.q rfl (Quiet1.idxS (s := _) hT rfl rfl rfl rfl rfl hc14 hd14) ?_
         obtain ⟨v_4, hc15, H⟩ := H
         refine AtL.q rfl (Quiet1.load hT rfl rfl rfl hc15) ?_
         refine AtL.pures hT 1 _ _ _ _ rfl ?_
         refine AtL.nil ?_
         refine AtE.then_n (AtE.go ?_)
         refine AtC.joinSeq (β := Unit) (fun (t0u3 : Bool) (bb_3 : Unit) => [(99, Value.bool t0u3)]) (fun (t0u3 : Bool) (bb_3 : Unit) => []) [1, 4] [0] H (by exact rfl) (by exact rfl) (fun t0u3 bb_3 h0u7 H => ?_) (fun J17 H HK17 => ?_)
         ·
          refine AtC.condB H rfl (fun H => ?_) (fun H => ?_)
          ·
           refine AtC.seqR ?_
           refine AtL.pures hT 1 _ _ _ _ rfl ?_
           refine AtL.nil ?_
           refine AtE.then_n (AtE.go ?_)
           refine AtC.ret ?_
           refine AtE.blk_r ?_
           refine AtE.then_r ?_
           refine AtE.then_r ?_
           refine AtE.blk_r ?_
           refine AtE.then_r ?_
           exact AtE.retN (rs := [.tmp 2]) rfl (ResAll.cons (ResAt.tmp rfl) ResAll.nil) rfl H
          ·
           refine AtC.skip ?_
           refine AtE.blk_n ?_
           exact AtE.then_n ((HK8 _ () _ H).pickP (ts := [1, 4]) (is := [0]) rfl rfl (by decide) rfl)
         ·
          refine AtC.draw hmix (by kernel_rfl) ?_
          refine AtD.pures hT 1 _ _ _ _ rfl ?_
          refine AtD.q rfl (Quiet1.loadP (i := 0) hT rfl rfl rfl rfl rfl rfl) ?_
          refine AtD.pures hT 1 _ _ _ _ rfl ?_
          obtain ⟨a_5_, hc17, hd17, H⟩ := H
          refine AtD.q rfl (Quiet1.idxS (s := _) hT rfl rfl rfl rfl rfl hc17 hd17) ?_
          obtain ⟨v_5, hc18, H⟩ := H
          refine AtD.q rfl (Quiet1.load hT rfl rfl rfl hc18) ?_
          refine AtD.pures hT 1 _ _ _ _ rfl ?_
          refine AtD.q rfl (Quiet1.loadP (i := 0) hT rfl rfl rfl rfl rfl rfl) ?_
          refine AtD.pures hT 1 _ _ _ _ rfl ?_
          obtain ⟨a_6_, hc19, hd19, H⟩ := H
          refine AtD.q rfl (Quiet1.idxS (s := _) hT rfl rfl rfl rfl rfl hc19 hd19) ?_
          obtain ⟨v_6, hc20, H⟩ := H
          refine AtD.q rfl (Quiet1.load hT rfl rfl rfl hc20) ?_
          refine AtD.pures hT 2 _ _ _ _ rfl ?_
          refine AtD.splitB (t := 82) H rfl (fun H => ?_) (fun H => ?_)
          ·
           refine AtD.noF rfl rfl rfl (by decide) rfl ?_
           refine AtD.noF rfl rfl rfl (by decide) rfl ?_
           refine AtD.noF rfl rfl rfl (by decide) rfl ?_
           refine AtD.noF rfl rfl rfl (by decide) rfl ?_
           refine AtD.noF rfl rfl rfl (by decide) rfl ?_
           refine AtD.noF rfl rfl rfl (by decide) rfl ?_
           refine AtD.noF rfl rfl rfl (by decide) rfl ?_
           refine AtD.noF rfl rfl rfl (by decide) rfl ?_
           refine AtD.noF rfl rfl rfl (by decide) rfl ?_
           refine AtD.noF rfl rfl rfl (by decide) rfl ?_
           refine AtD.noF rfl rfl rfl (by decide) rfl ?_
           refine AtD.noF rfl rfl rfl (by decide) rfl ?_
           refine AtD.noU rfl rfl rfl rfl ?_
           refine AtD.noU rfl rfl rfl rfl ?_
           refine AtD.noU rfl rfl rfl rfl ?_
           refine AtD.noF rfl rfl rfl (by decide) rfl ?_
           refine AtD.pures hT 1 _ _ _ _ rfl ?_
           refine AtD.nil ?_
           exact AtE.then_n ((HK17 _ () _ H).pickP (ts := [99, 1, 4]) (is := [0]) rfl rfl (by decide) rfl)
          ·
           refine AtD.yes rfl rfl rfl ?_
           refine AtD.pures hT 1 _ _ _ _ rfl ?_
           refine AtD.yes rfl rfl rfl ?_
           refine AtD.q rfl (Quiet1.loadP (i := 0) hT rfl rfl rfl rfl rfl rfl) ?_
           refine AtD.yes rfl rfl rfl ?_
           refine AtD.pures hT 1 _ _ _ _ rfl ?_
           refine AtD.yes rfl rfl rfl ?_
           obtain ⟨a_7_, hc21, hd21, H⟩ := H
           refine AtD.q rfl (Quiet1.idxS (s := _) hT rfl rfl rfl rfl rfl hc21 hd21) ?_
           refine AtD.yes rfl rfl rfl ?_
           obtain ⟨v_7, hc22, H⟩ := H
           refine AtD.q rfl (Quiet1.load hT rfl rfl rfl hc22) ?_
           refine AtD.yes rfl rfl rfl ?_
           refine AtD.pures hT 1 _ _ _ _ rfl ?_
           refine AtD.yes rfl rfl rfl ?_
           refine AtD.q rfl (Quiet1.loadP (i := 0) hT rfl rfl rfl rfl rfl rfl) ?_
           refine AtD.yes rfl rfl rfl ?_
           refine AtD.pures hT 1 _ _ _ _ rfl ?_
           refine AtD.yes rfl rfl rfl ?_
           obtain ⟨a_8_, hc23, hd23, H⟩ := H
           refine AtD.q rfl (Quiet1.idxS (s := _) hT rfl rfl rfl rfl rfl hc23 hd23) ?_
           refine AtD.yes rfl rfl rfl ?_
           obtain ⟨v_8, hc24, H⟩ := H
           refine AtD.q rfl (Quiet1.load hT rfl rfl rfl hc24) ?_
           refine AtD.yes rfl rfl rfl ?_
           refine AtD.pures hT 1 _ _ _ _ rfl ?_
           refine AtD.yes rfl rfl rfl ?_
           refine AtD.pures hT 1 _ _ _ _ rfl ?_
           refine AtD.splitB (t := 94) H rfl (fun H => ?_) (fun H => ?_)
           ·
            refine AtD.yes rfl rfl rfl ?_
            refine AtD.pures hT 1 _ _ _ _ rfl ?_
            refine AtD.yes rfl rfl rfl ?_
            refine AtD.pures hT 1 _ _ _ _ rfl ?_
            refine AtD.yes rfl rfl rfl ?_
            refine AtD.pures hT 1 _ _ _ _ rfl ?_
            refine AtD.yes rfl rfl rfl ?_
            refine AtD.pures hT 1 _ _ _ _ rfl ?_
            refine AtD.pures hT 1 _ _ _ _ rfl ?_
            refine AtD.nil ?_
            exact AtE.then_n ((HK17 _ () _ H).pickP (ts := [99, 1, 4]) (is := [0]) rfl rfl (by decide) rfl)
           ·
            refine AtD.noF rfl rfl rfl (by decide) rfl ?_
            refine AtD.noF rfl rfl rfl (by decide) rfl ?_
            refine AtD.noF rfl rfl rfl (by decide) rfl ?_
            refine AtD.yes rfl rfl rfl ?_
            refine AtD.pures hT 1 _ _ _ _ rfl ?_
            refine AtD.pures hT 1 _ _ _ _ rfl ?_
            refine AtD.nil ?_
            exact AtE.then_n ((HK17 _ () _ H).pickP (ts := [99, 1, 4]) (is := [0]) rfl rfl (by decide) rfl)
        ·
         refine AtC.skip ?_
         refine AtE.blk_n ?_
         exact AtE.then_n ((HK8 _ () _ H).pickP (ts := [1, 4]) (is := [0]) rfl rfl (by decide) rfl)
     ·
      refine AtC.region ?_
      refine AtL.pures hT 3 _ _ _ _ rfl ?_
      refine AtL.splitB (t := 43) H rfl (fun H => ?_) (fun H => ?_)
      ·
       refine AtL.noF rfl rfl rfl (by decide) rfl ?_
       refine AtL.noF rfl rfl rfl (by decide) rfl ?_
       refine AtL.noF rfl rfl rfl (by decide) rfl ?_
       refine AtL.noF rfl rfl rfl (by decide) rfl ?_
       refine AtL.noF rfl rfl rfl (by decide) rfl ?_
       refine AtL.pures hT 1 _ _ _ _ rfl ?_
       refine AtL.nil ?_
       exact AtE.then_n ((HK11 _ () _ H).pickP (ts := [49, 1, 4, 5]) (is := [0]) rfl rfl (by decide) rfl)
      ·
       refine AtL.yes rfl rfl rfl ?_
       refine AtL.pures hT 1 _ _ _ _ rfl ?_
       refine AtL.yes rfl rfl rfl ?_
       refine AtL.pures hT 1 _ _ _ _ rfl ?_
       refine AtL.yes rfl rfl rfl ?_
       refine AtL.q rfl (Quiet1.loadP (i := 0) hT rfl rfl rfl rfl rfl rfl) ?_
       refine AtL.yes rfl rfl rfl ?_
       refine AtL.pures hT 1 _ _ _ _ rfl ?_
       refine AtL.yes rfl rfl rfl ?_
       refine AtL.pures hT 1 _ _ _ _ rfl ?_
       refine AtL.pures hT 1 _ _ _ _ rfl ?_
       refine AtL.nil ?_
       exact AtE.then_n ((HK11 _ () _ H).pickP (ts := [49, 1, 4, 5]) (is := [0]) rfl rfl (by decide) rfl)
   ·
    refine AtC.exit ?_
    refine AtE.then_x ?_
    refine AtE.then_x ?_
    refine AtE.blk_hit ?_
    refine AtE.then_n (AtE.go ?_)
    refine AtC.seqR ?_
    refine AtL.pures hT 1 _ _ _ _ rfl ?_
    refine AtL.nil ?_
    refine AtE.then_n (AtE.go ?_)
    refine AtC.ret ?_
    exact AtE.retN (rs := [.tmp 2]) rfl (ResAll.cons (ResAt.tmp rfl) ResAll.nil) rfl H

theorem lift_law17uQueueActs (n : Int) (acts : Sl) (w : World) (m : Heap) (hr : Rel ⟨m, []⟩ w.heap) (S : Bool → Heap → Prop) (H : law17uQueueActs n acts m S) :
    Calls Try.prog 5 #[Value.int .i64 n, Sl.toV acts] w (Post ⟨w, m⟩ Value.bool S) := by
  refine Calls.lift (args := [Value.int .i64 n, Sl.toV acts]) Try.func5 rfl Try.ntmps5 (Nat.le_of_ble_eq_true rfl) hr (law17uQueueActs n acts m S) H (fun H => ?_)
  refine AtC.pick (ts := [0, 1]) rfl ?_
  unfold law17uQueueActs at H
  refine AtC.seqR ?_
  refine AtL.pures hT 1 _ _ _ _ rfl ?_
  refine AtL.nil ?_
  refine AtE.then_n (AtE.go ?_)
  refine AtC.seq ?_
  refine AtC.seqR ?_
  refine AtL.e rfl (EffX.call (f := 10) (sh := fun h => law17uspeaks h _) (H0 := H) rfl Try.call10 rfl (hl := fun w m hr hw => lift_law17uspeaks  w m hr _ hw)) ?_
  rintro _ _ ⟨v, h0, rfl, rfl, H⟩
  refine AtL.pures hT 1 _ _ _ _ rfl ?_
  refine AtL.nil ?_
  refine AtE.then_n (AtE.go ?_)
  refine AtC.condB H rfl (fun H => ?_) (fun H => ?_)
  ·
   refine AtC.seqR ?_
   refine AtL.pures hT 1 _ _ _ _ rfl ?_
   refine AtL.nil ?_
   refine AtE.then_n (AtE.go ?_)
   refine AtC.ret ?_
   refine AtE.then_r ?_
   exact AtE.retN (rs := [.tmp 4]) rfl (ResAll.cons (ResAt.tmp rfl) ResAll.nil) rfl H
  ·
   refine AtC.skip ?_
   refine AtE.then_n (AtE.go ?_)
   refine AtC.seq ?_
   refine AtC.joinSeq (β := Unit) (fun (t0 : Bool) (bb : Unit) => [(24, Value.bool t0)]) (fun (t0 : Bool) (bb : Unit) => []) [0, 1] [] H (by exact rfl) (by exact rfl) (fun t0 bb h0u1 H => ?_) (fun J1 H HK1 => ?_)
   ·
    refine AtC.condB H rfl (fun H => ?_) (fun H => ?_)
    ·
     refine AtC.seqR ?_
     refine AtL.pures hT 1 _ _ _ _ rfl ?_
     refine AtL.nil ?_
     refine AtE.then_n (AtE.go ?_)
     refine AtC.ret ?_
     refine AtE.then_r ?_
     exact AtE.retN (rs := [.tmp 4]) rfl (ResAll.cons (ResAt.tmp rfl) ResAll.nil) rfl H
    ·
     refine AtC.skip ?_
     refine AtE.then_n (AtE.go ?_)
     refine AtC.seqR ?_
     refine AtL.pures hT 1 _ _ _ _ rfl ?_
     refine AtL.e rfl (EffX.call (f := 11) (sh := fun h => queue_New _ h _) (H0 := H) rfl Try.call11 rfl (hl := fun w m hr hw => lift_queue_New _ w m hr _ hw)) ?_
     rintro _ _ ⟨v_1, h0u2, rfl, rfl, H⟩
     refine AtL.pures hT 1 _ _ _ _ rfl ?_
     refine AtL.e rfl (EffX.call (f := 21) (sh := fun h => ref17uNew _ h _) (H0 := H) rfl Try.call21 rfl (hl := fun w m hr hw => lift_ref17uNew _ w m hr _ hw)) ?_
     rintro _ _ ⟨v_2, h0u3, rfl, rfl, H⟩
     refine AtL.e rfl (EffX.alloc hT rfl rfl H) ?_
     rintro _ _ ⟨q, h0u4, rfl, rfl, H⟩
     refine AtL.e rfl (EffX.storeS hT rfl rfl rfl rfl rfl rfl H) ?_
     rintro _ _ ⟨h0u5, rfl, H⟩
     refine AtL.pures hT 1 _ _ _ _ rfl ?_
     refine AtL.nil ?_
     refine AtE.then_n (AtE.go ?_)
     refine AtC.seq ?_
     refine AtC.seqR ?_
     refine AtL.pures hT 3 _ _ _ _ rfl ?_
     refine AtL.nil ?_
     refine AtE.then_n (AtE.go ?_)
     refine AtC.block ?_
     refine AtC.loopM (fun (s0 : Int) => [(31, Value.int .i64 s0)]) (fun (s0 : Int) => []) [5, 6, 29, 30] [31, 5, 6, 29, 30] [] [] H (by exact rfl) (by exact rfl) (by exact rfl) (by decide) (by exact rfl) (fun Kp2 s0 h0u6 H Q2 HK2 => ?_)
     refine AtC.seqR ?_
     refine AtL.pures hT 1 _ _ _ _ rfl ?_
     refine AtL.nil ?_
     refine AtE.then_n (AtE.go ?_)
     refine AtC.seq ?_
     refine AtC.condB H rfl (fun H => ?_) (fun H => ?_)
     ·
      refine AtC.skip ?_
      refine AtE.then_n (AtE.go ?_)
      refine AtC.seq ?_
      refine AtC.block ?_
      refine AtC.seqR ?_
      obtain ⟨a_, hc2, hd2, H⟩ := H
      refine AtL.q rfl (Quiet1.idxS (s := _) hT rfl rfl rfl rfl rfl hc2 hd2) ?_
      obtain ⟨v_3, hc3, H⟩ := H
      refine AtL.q rfl (Quiet1.loadS hT rfl rfl rfl rfl hc3) ?_
      refine AtL.e rfl (EffX.allocP (cs := [_, _, _]) hT rfl rfl H) ?_
      rintro _ _ ⟨b, _, rfl, rfl, _, H⟩
      replace H := H.self
      refine AtL.e rfl (EffX.storeSP (i := 0) (qv := [(_, [_, _, _])]) hT rfl rfl rfl rfl rfl rfl rfl rfl rfl rfl) ?_
      rintro _ _ rfl
      refine AtL.nil ?_
      refine AtE.then_n (AtE.go ?_)
      refine AtC.joinSeq (β := Unit) (fun (t0u1 : Bool) (bb_1 : Unit) => [(9, Value.bool t0u1)]) (fun (t0u1 : Bool) (bb_1 : Unit) => []) [5, 6, 8, 29, 30, 31] [0] H (by exact rfl) (by exact rfl) (fun t0u1 bb_1 h0u8 H => ?_) (fun J5 H HK5 => ?_)
      ·
       refine AtC.joinSeq (β := Unit) (fun (t0u2 : Unit) (bb_2 : Unit) => []) (fun (t0u2 : Unit) (bb_2 : Unit) => []) [5, 6, 29, 30, 31] [] H (by exact rfl) (by exact rfl) (fun t0u2 bb_2 h0u9 H => ?_) (fun J8 H HK8 => ?_)
       ·
        refine AtC.seq ?_
        refine AtC.joinSeq (β := Unit) (fun (t0u4 : Bool) (bb_4 : Unit) => [(152, Value.bool t0u4)]) (fun (t0u4 : Bool) (bb_4 : Unit) => []) [5, 6, 29, 30, 31] [] H (by exact rfl) (by exact rfl) (fun t0u4 bb_4 h0u21 H => ?_) (fun J24 H HK24 => ?_)
        ·
         refine AtC.condB H rfl (fun H => ?_) (fun H => ?_)
         ·
          refine AtC.seqR ?_
          refine AtL.pures hT 1 _ _ _ _ rfl ?_
          refine AtL.nil ?_
          refine AtE.then_n (AtE.go ?_)
          refine AtC.ret ?_
          refine AtE.then_r ?_
          refine AtE.blk_r ?_
          refine AtE.then_r ?_
          refine AtE.then_r ?_
          refine AtE.blk_r ?_
          refine AtE.then_r ?_
          exact AtE.retN (rs := [.tmp 4]) rfl (ResAll.cons (ResAt.tmp rfl) ResAll.nil) rfl H
         ·
          refine AtC.skip ?_
          refine AtE.then_n (AtE.go ?_)
          refine AtC.seq ?_
          refine AtC.seqR ?_
          refine AtL.pures hT 1 _ _ _ _ rfl ?_
          obtain ⟨a_11, hc31, H⟩ := H
          refine AtL.q rfl (Quiet1.nilChk rfl rfl hc31) ?_
          refine AtL.pures hT 1 _ _ _ _ rfl ?_
          obtain ⟨v_22, hc32, H⟩ := H
          refine AtL.q rfl (Quiet1.load hT rfl rfl rfl hc32) ?_
          refine AtL.pures hT 2 _ _ _ _ rfl ?_
          refine AtL.nil ?_
          refine AtE.then_n (AtE.go ?_)
          refine AtC.block ?_
          refine AtC.loopM (fun (s0u2 : Int) => [(158, Value.int .i64 s0u2)]) (fun (s0u2 : Int) => []) [5, 6, 29, 30, 31, 156, 157] [158, 5, 6, 29, 30, 31, 156, 157] [] [] H (by exact rfl) (by exact rfl) (by exact rfl) (by decide) (by exact rfl) (fun Kp34 s0u2 h0u24 H Q34 HK34 => ?_)
          refine AtC.seqR ?_
          refine AtL.pures hT 1 _ _ _ _ rfl ?_
          refine AtL.nil ?_
          refine AtE.then_n (AtE.go ?_)
          refine AtC.seq ?_
          refine AtC.condB H rfl (fun H => ?_) (fun H => ?_)
          ·
           refine AtC.skip ?_
           refine AtE.then_n (AtE.go ?_)
           refine AtC.seq ?_
           refine AtC.block ?_
           refine AtC.seqR ?_
           refine AtL.pures hT 1 _ _ _ _ rfl ?_
           obtain ⟨a_12_, hc34, hd34, H⟩ := H
           refine AtL.q rfl (Quiet1.idxS (s := _) hT rfl rfl rfl rfl rfl hc34 hd34) ?_
           obtain ⟨v_23, hc35, H⟩ := H
           refine AtL.q rfl (Quiet1.load hT rfl rfl rfl hc35) ?_
           refine AtL.pures hT 2 _ _ _ _ rfl ?_
           refine AtL.nil ?_
           refine AtE.then_n (AtE.go ?_)
           refine AtC.joinSeq (β := Unit) (fun (t0u5 : Bool) (bb_5 : Unit) => [(182, Value.bool t0u5)]) (fun (t0u5 : Bool) (bb_5 : Unit) => []) [5, 6, 29, 30, 31, 156, 157, 158] [] H (by exact rfl) (by exact rfl) (fun t0u5 bb_5 h0u25 H => ?_) (fun J37 H HK37 => ?_)
           ·
            refine AtC.condB H rfl (fun H => ?_) (fun H => ?_)
            ·
             refine AtC.seqR ?_
             refine AtL.pures hT 1 _ _ _ _ rfl ?_
             refine AtL.nil ?_
             refine AtE.then_n (AtE.go ?_)
             refine AtC.ret ?_
             refine AtE.blk_r ?_
             refine AtE.then_r ?_
             refine AtE.then_r ?_
             refine AtE.blk_r ?_
             refine AtE.then_r ?_
             refine AtE.blk_r ?_
             refine AtE.then_r ?_
             refine AtE.then_r ?_
             refine AtE.blk_r ?_
             refine AtE.then_r ?_
             exact AtE.retN (rs := [.tmp 4]) rfl (ResAll.cons (ResAt.tmp rfl) ResAll.nil) rfl H
            ·
             refine AtC.skip ?_
             refine AtE.blk_n ?_
             refine AtE.then_n (AtE.go ?_)
             refine AtC.region ?_
             refine AtL.pures hT 2 _ _ _ _ rfl ?_
             refine AtL.nil ?_
             exact AtE.then_n ((HK34 _ _ H).pickP (ts := [158, 5, 6, 29, 30, 31, 156, 157]) (is := []) rfl rfl (by decide) rfl)
           ·
            obtain ⟨v_24, hc37, H⟩ := H
            apply AtC.stages [2] [[], [], [], [], [2], [2], [2], [2], [2], [2], [2], [2], [2], [2], [2], [2], [2], [2], [2], [2]] [[], [], [0, 1], [], [0, 1, 2, 3], [0, 1, 2, 3, 4], [0, 1, 2, 3, 4, 5], [0, 1, 2, 3, 4, 5, 6], [0, 1, 2, 3, 4, 5], [0, 1, 2, 3, 4, 5, 6, 7, 8], [0, 1, 2, 3, 4, 5, 6, 7, 8, 9], [0, 1, 2, 3, 4, 5], [0, 1, 2, 3, 4, 5, 11], [0, 1, 2, 3, 4, 5, 11, 12], [0, 1, 2, 3, 4, 5, 11, 12, 13], [0, 1, 2, 3, 4, 5], [0, 1, 2, 3, 4, 5, 11, 12, 13, 14, 15], [0, 1, 2, 3, 4, 5, 11, 12, 13, 14, 15, 16], [0, 1, 2, 3, 4, 5, 6, 7, 8, 9, 10, 11, 12, 13, 14, 15, 16, 17], [0, 1, 2, 3, 4, 5, 6, 7, 8, 9, 10, 11, 12, 13, 14, 15, 16, 17, 18]] hmix (by kernel_rfl) [(163, _), (164, _), (166, _)] rfl 1 rfl
            refine Stg.go [0, 1, 3] [2] rfl rfl (QAll.cons (QOp.q rfl rfl (Quiet1.loadS hT rfl rfl rfl rfl hc37) rfl rfl) (QAll.cons (QOp.p hT rfl rfl rfl rfl rfl) (QAll.cons (QOp.p hT rfl rfl rfl rfl rfl) QAll.nil))) ?_
            refine EAll.cons ?_ EAll.nil
            refine EOp.e rfl rfl rfl (EffX.call (f := 28) (sh := fun h => queue_Has _ _ h _) (H0 := H) rfl Try.call28 rfl (hl := fun w m hr hw => lift_queue_Has _ _ w m hr _ hw)) ?_
            rintro _ _ ⟨v_25, h0u26, rfl, rfl, H⟩
            rcases iteB.cases H with ⟨hb38, H⟩ | ⟨hb38, H⟩
            ·
             apply Stg.next [(165, _), (167, _), (168, _), (169, _), (170, _), (171, _), (172, _), (173, _), (174, _), (175, _), (176, _), (177, _), (178, _), (179, _), (180, _), (181, _), (182, _)] rfl rfl
             refine Stg.known (t := 168) rfl hb38 ?_
             refine Stg.fin [3, 4, 5, 6, 7, 8, 9, 10, 11, 12, 13, 14, 15, 16, 17, 18, 19] rfl rfl (QAll.cons (QOp.p hT rfl rfl rfl rfl rfl) (QAll.cons (QOp.p hT rfl rfl rfl rfl rfl) (QAll.cons (QOp.pk hT rfl rfl rfl rfl hb38 rfl) (QAll.cons (QOp.no rfl rfl rfl rfl (by decide) rfl rfl) (QAll.cons (QOp.no rfl rfl rfl rfl (by decide) rfl rfl) (QAll.cons (QOp.no rfl rfl rfl rfl (by decide) rfl rfl) (QAll.cons (QOp.no rfl rfl rfl rfl (by decide) rfl rfl) (QAll.cons (QOp.no rfl rfl rfl rfl (by decide) rfl rfl) (QAll.cons (QOp.no rfl rfl rfl rfl (by decide) rfl rfl) (QAll.cons (QOp.no rfl rfl rfl rfl (by decide) rfl rfl) (QAll.cons (QOp.no rfl rfl rfl rfl (by decide) rfl rfl) (QAll.cons (QOp.no rfl rfl rfl rfl (by decide) rfl rfl) (QAll.cons (QOp.no rfl rfl rfl rfl (by decide) rfl rfl) (QAll.cons (QOp.no rfl rfl rfl rfl (by decide) rfl rfl) (QAll.cons (QOp.no rfl rfl rfl rfl (by decide) rfl rfl) (QAll.cons (QOp.no rfl rfl rfl rfl (by decide) rfl rfl) (QAll.cons (QOp.p hT rfl rfl rfl rfl rfl) QAll.nil))))))))))))))))) ?_
             exact AtE.then_n ((HK37 _ () _ H).pickP (ts := [182, 5, 6, 29, 30, 31, 156, 157, 158]) (is := []) rfl rfl (by decide) rfl)
            ·
             obtain ⟨v_26, hc39, H⟩ := H
             obtain ⟨a_13_, hc40, hd40, H⟩ := H
             obtain ⟨v_27, hc41, H⟩ := H
             obtain ⟨a_14, hc42, H⟩ := H
             obtain ⟨v_28, hc43, H⟩ := H
             obtain ⟨a_15_, hc44, hd44, H⟩ := H
             obtain ⟨v_29, hc45, H⟩ := H
             apply Stg.next [(165, _), (167, _), (168, _), (169, _), (170, _), (171, _), (172, _), (173, _), (174, _), (175, _), (176, _), (177, _), (178, _), (179, _), (180, _), (181, _), (182, _)] rfl rfl
             refine Stg.known (t := 168) rfl hb38 ?_
             refine Stg.fin [3, 4, 5, 6, 7, 8, 9, 10, 11, 12, 13, 14, 15, 16, 17, 18, 19] rfl rfl (QAll.cons (QOp.p hT rfl rfl rfl rfl rfl) (QAll.cons (QOp.p hT rfl rfl rfl rfl rfl) (QAll.cons (QOp.pk hT rfl rfl rfl rfl hb38 rfl) (QAll.cons (QOp.yp hT rfl rfl rfl rfl rfl rfl rfl) (QAll.cons (QOp.y rfl rfl rfl rfl (Quiet1.load hT rfl rfl rfl hc39) rfl rfl) (QAll.cons (QOp.yp hT rfl rfl rfl rfl rfl rfl rfl) (QAll.cons (QOp.y rfl rfl rfl rfl (Quiet1.idxS (s := _) hT rfl rfl rfl rfl rfl hc40 hd40) rfl rfl) (QAll.cons (QOp.y rfl rfl rfl rfl (Quiet1.load hT rfl rfl rfl hc41) rfl rfl) (QAll.cons (QOp.yp hT rfl rfl rfl rfl rfl rfl rfl) (QAll.cons (QOp.y rfl rfl rfl rfl (Quiet1.nilChk rfl rfl hc42) rfl rfl) (QAll.cons (QOp.yp hT rfl rfl rfl rfl rfl rfl rfl) (QAll.cons (QOp.y rfl rfl rfl rfl (Quiet1.load hT rfl rfl rfl hc43) rfl rfl) (QAll.cons (QOp.yp hT rfl rfl rfl rfl rfl rfl rfl) (QAll.cons (QOp.y rfl rfl rfl rfl (Quiet1.idxS (s := _) hT rfl rfl rfl rfl rfl hc44 hd44) rfl rfl) (QAll.cons (QOp.y rfl rfl rfl rfl (Quiet1.load hT rfl rfl rfl hc45) rfl rfl) (QAll.cons (QOp.yp hT rfl rfl rfl rfl rfl rfl rfl) (QAll.cons (QOp.p hT rfl rfl rfl rfl rfl) QAll.nil))))))))))))))))) ?_
             exact AtE.then_n ((HK37 _ () _ H).pickP (ts := [182, 5, 6, 29, 30, 31, 156, 157, 158]) (is := []) rfl rfl (by decide) rfl)
          ·
           refine AtC.exit ?_
           refine AtE.then_x ?_
           refine AtE.then_x ?_
           refine AtE.blk_hit ?_
           refine AtE.then_n (AtE.go ?_)
           refine AtC.joinSeq (β := Unit) (fun (t0u6 : Bool) (bb_6 : Unit) => [(194, Value.bool t0u6)]) (fun (t0u6 : Bool) (bb_6 : Unit) => []) [5, 6, 29, 30, 31] [] H (by exact rfl) (by exact rfl) (fun t0u6 bb_6 h0u27 H => ?_) (fun J47 H HK47 => ?_)
           ·
            refine AtC.condB H rfl (fun H => ?_) (fun H => ?_)
            ·
             refine AtC.seqR ?_
             refine AtL.pures hT 1 _ _ _ _ rfl ?_
             refine AtL.nil ?_
             refine AtE.then_n (AtE.go ?_)
             refine AtC.ret ?_
             refine AtE.blk_r ?_
             refine AtE.then_r ?_
             refine AtE.then_r ?_
             refine AtE.blk_r ?_
             refine AtE.then_r ?_
             exact AtE.retN (rs := [.tmp 4]) rfl (ResAll.cons (ResAt.tmp rfl) ResAll.nil) rfl H
            ·
             refine AtC.skip ?_
             refine AtE.blk_n ?_
             refine AtE.then_n (AtE.go ?_)
             refine AtC.region ?_
             refine AtL.pures hT 2 _ _ _ _ rfl ?_
             refine AtL.nil ?_
             exact AtE.then_n ((HK2 _ _ H).pickP (ts := [31, 5, 6, 29, 30]) (is := []) rfl rfl (by decide) rfl)
           ·
            obtain ⟨v_30, hc47, H⟩ := H
            apply AtC.stages [1, 9] [[], [], [1], [1], [1], [1], [1], [1], [1], [1], [1, 9]] [[], [0], [0, 1], [0, 1, 2], [0, 1, 2], [0, 1, 2, 4], [0, 1, 2, 4, 5], [0, 1, 2, 4, 5, 6], [0, 1, 2, 4, 5, 6, 7], [0, 1, 2, 3, 4, 5, 6, 7, 8], [0, 1, 2, 3, 4, 5, 6, 7, 8, 9]] hmix (by kernel_rfl) [(184, _)] rfl 2 rfl
            refine Stg.go [0] [1] rfl rfl (QAll.cons (QOp.q rfl rfl (Quiet1.loadS hT rfl rfl rfl rfl hc47) rfl rfl) QAll.nil) ?_
            refine EAll.cons ?_ EAll.nil
            refine EOp.e rfl rfl rfl (EffX.call (f := 28) (sh := fun h => queue_Has _ _ h _) (H0 := H) rfl Try.call28 rfl (hl := fun w m hr hw => lift_queue_Has _ _ w m hr _ hw)) ?_
            rintro _ _ ⟨v_31, h0u28, rfl, rfl, H⟩
            rcases iteB.cases H with ⟨hb48, H⟩ | ⟨hb48, H⟩
            ·
             apply Stg.next [(185, _), (186, _), (187, _), (188, _), (189, _), (190, _), (191, _), (192, _)] rfl rfl
             refine Stg.known (t := 186) rfl hb48 ?_
             refine Stg.go [2, 3, 4, 5, 6, 7, 8] [9] rfl rfl (QAll.cons (QOp.pk hT rfl rfl rfl rfl hb48 rfl) (QAll.cons (QOp.no rfl rfl rfl rfl (by decide) rfl rfl) (QAll.cons (QOp.no rfl rfl rfl rfl (by decide) rfl rfl) (QAll.cons (QOp.no rfl rfl rfl rfl (by decide) rfl rfl) (QAll.cons (QOp.no rfl rfl rfl rfl (by decide) rfl rfl) (QAll.cons (QOp.no rfl rfl rfl rfl (by decide) rfl rfl) (QAll.cons (QOp.no rfl rfl rfl rfl (by decide) rfl rfl) QAll.nil))))))) ?_
             refine EAll.cons ?_ EAll.nil
             refine EOp.no rfl rfl rfl rfl (by decide) rfl ?_
             apply Stg.next [(193, _), (194, _)] rfl rfl
             refine Stg.fin [10] rfl rfl (QAll.cons (QOp.p hT rfl rfl rfl rfl rfl) QAll.nil) ?_
             exact AtE.then_n ((HK47 _ () _ H).pickP (ts := [194, 5, 6, 29, 30, 31]) (is := []) rfl rfl (by decide) rfl)
            ·
             obtain ⟨v_32, hc49, H⟩ := H
             obtain ⟨a_16, hc50, H⟩ := H
             obtain ⟨v_33, hc51, H⟩ := H
             apply Stg.next [(185, _), (186, _), (187, _), (188, _), (189, _), (190, _), (191, _), (192, _)] rfl rfl
             refine Stg.known (t := 186) rfl hb48 ?_
             refine Stg.go [2, 3, 4, 5, 6, 7, 8] [9] rfl rfl (QAll.cons (QOp.pk hT rfl rfl rfl rfl hb48 rfl) (QAll.cons (QOp.y rfl rfl rfl rfl (Quiet1.loadS hT rfl rfl rfl rfl hc49) rfl rfl) (QAll.cons (QOp.yp hT rfl rfl rfl rfl rfl rfl rfl) (QAll.cons (QOp.y rfl rfl rfl rfl (Quiet1.nilChk rfl rfl hc50) rfl rfl) (QAll.cons (QOp.yp hT rfl rfl rfl rfl rfl rfl rfl) (QAll.cons (QOp.y rfl rfl rfl rfl (Quiet1.load hT rfl rfl rfl hc51) rfl rfl) (QAll.cons (QOp.yp hT rfl rfl rfl rfl rfl rfl rfl) QAll.nil))))))) ?_
             refine EAll.cons ?_ EAll.nil
             refine EOp.y rfl rfl rfl rfl rfl (EffX.call (f := 28) (sh := fun h => queue_Has _ _ h _) (H0 := H) rfl Try.call28 rfl (hl := fun w m hr hw => lift_queue_Has _ _ w m hr _ hw)) ?_
             rintro _ _ ⟨v_34, h0u29, rfl, rfl, H⟩
             apply Stg.next [(193, _), (194, _)] rfl rfl
             refine Stg.fin [10] rfl rfl (QAll.cons (QOp.p hT rfl rfl rfl rfl rfl) QAll.nil) ?_
             exact AtE.then_n ((HK47 _ () _ H).pickP (ts := [194, 5, 6, 29, 30, 31]) (is := []) rfl rfl (by decide) rfl)
        ·
         obtain ⟨v_16, hc24, H⟩ := H
         apply AtC.stages [1, 5] [[], [], [1], [1], [1], [1], [1, 5], [1, 5], [1, 5], [1, 5], [1, 5], [1, 5], [1, 5], [1, 5], [1, 5], [1, 5], [1, 5], [1, 5], [1, 5]] [[], [0], [0, 1], [0, 1, 2], [0, 1, 2, 3], [0, 1, 2, 3, 4], [0, 1, 2, 3, 4, 5], [0, 1, 2, 3, 4, 5, 6], [0, 1, 2, 3, 4, 5, 6, 7], [0, 1, 2, 3, 4, 5, 6, 7, 8], [0, 1, 2, 3, 4, 5, 6, 7, 8, 9], [0, 1, 2, 3, 4, 5, 6, 7, 8, 9, 10], [0, 1, 2, 3, 4, 5, 6, 7, 8], [0, 1, 2, 3, 4, 5, 6, 7, 8, 12], [0, 1, 2, 3, 4, 5, 6, 7, 8, 12, 13], [0, 1, 2, 3, 4, 5, 6, 7, 8, 12, 13, 14], [0, 1, 2, 3, 4, 5, 6, 7, 8, 12, 13, 14, 15], [0, 1, 2, 3, 4, 5, 6, 7, 8, 9, 10, 11, 12, 13, 14, 15, 16], [0, 1, 2, 3, 4, 5, 6, 7, 8, 9, 10, 11, 12, 13, 14, 15, 16, 17]] hmix (by kernel_rfl) [(134, _)] rfl 2 rfl
         refine Stg.go [0] [1] rfl rfl (QAll.cons (QOp.q rfl rfl (Quiet1.loadS hT rfl rfl rfl rfl hc24) rfl rfl) QAll.nil) ?_
         refine EAll.cons ?_ EAll.nil
         refine EOp.e rfl rfl rfl (EffX.call (f := 26) (sh := fun h => queue_Right _ h _) (H0 := H) rfl Try.call26 rfl (hl := fun w m hr hw => lift_queue_Right _ w m hr _ hw)) ?_
         rintro _ _ ⟨v_17, h0u22, rfl, rfl, H⟩
         rcases iteB.cases H with ⟨hb25, H⟩ | ⟨hb25, H⟩
         ·
          apply Stg.next [(135, _), (136, _), (137, _), (138, _)] rfl rfl
          refine Stg.known (t := 137) rfl hb25 ?_
          refine Stg.go [2, 3, 4] [5] rfl rfl (QAll.cons (QOp.p hT rfl rfl rfl rfl rfl) (QAll.cons (QOp.pk hT rfl rfl rfl rfl hb25 rfl) (QAll.cons (QOp.no rfl rfl rfl rfl (by decide) rfl rfl) QAll.nil))) ?_
          refine EAll.cons ?_ EAll.nil
          refine EOp.no rfl rfl rfl rfl (by decide) rfl ?_
          apply Stg.next [(139, _), (140, _), (141, _), (142, _), (143, _), (144, _), (145, _), (146, _), (147, _), (148, _), (149, _), (150, _), (151, _), (152, _)] rfl rfl
          refine Stg.fin [6, 7, 8, 9, 10, 11, 12, 13, 14, 15, 16, 17, 18] rfl rfl (QAll.cons (QOp.no rfl rfl rfl rfl (by decide) rfl rfl) (QAll.cons (QOp.p hT rfl rfl rfl rfl rfl) (QAll.cons (QOp.p hT rfl rfl rfl rfl rfl) (QAll.cons (QOp.no rfl rfl rfl rfl (by decide) rfl rfl) (QAll.cons (QOp.no rfl rfl rfl rfl (by decide) rfl rfl) (QAll.cons (QOp.no rfl rfl rfl rfl (by decide) rfl rfl) (QAll.cons (QOp.no rfl rfl rfl rfl (by decide) rfl rfl) (QAll.cons (QOp.no rfl rfl rfl rfl (by decide) rfl rfl) (QAll.cons (QOp.no rfl rfl rfl rfl (by decide) rfl rfl) (QAll.cons (QOp.no rfl rfl rfl rfl (by decide) rfl rfl) (QAll.cons (QOp.no rfl rfl rfl rfl (by decide) rfl rfl) (QAll.cons (QOp.no rfl rfl rfl rfl (by decide) rfl rfl) (QAll.cons (QOp.p hT rfl rfl rfl rfl rfl) QAll.nil))))))))))))) ?_
          exact AtE.then_n ((HK24 _ () _ H).pickP (ts := [152, 5, 6, 29, 30, 31]) (is := []) rfl rfl (by decide) rfl)
         ·
          obtain ⟨v_18, hc26, H⟩ := H
          apply Stg.next [(135, _), (136, _), (137, _), (138, _)] rfl rfl
          refine Stg.known (t := 137) rfl hb25 ?_
          refine Stg.go [2, 3, 4] [5] rfl rfl (QAll.cons (QOp.p hT rfl rfl rfl rfl rfl) (QAll.cons (QOp.pk hT rfl rfl rfl rfl hb25 rfl) (QAll.cons (QOp.y rfl rfl rfl rfl (Quiet1.loadS hT rfl rfl rfl rfl hc26) rfl rfl) QAll.nil))) ?_
          refine EAll.cons ?_ EAll.nil
          refine EOp.y rfl rfl rfl rfl rfl (EffX.call (f := 27) (sh := fun h => ref17uRight _ h _) (H0 := H) rfl Try.call27 rfl (hl := fun w m hr hw => lift_ref17uRight _ w m hr _ hw)) ?_
          rintro _ _ ⟨v_19, h0u23, rfl, rfl, H⟩
          rcases iteB.cases H with ⟨hb27, H⟩ | ⟨hb27, H⟩
          ·
           apply Stg.next [(139, _), (140, _), (141, _), (142, _), (143, _), (144, _), (145, _), (146, _), (147, _), (148, _), (149, _), (150, _), (151, _), (152, _)] rfl rfl
           refine Stg.known (t := 142) rfl hb27 ?_
           refine Stg.fin [6, 7, 8, 9, 10, 11, 12, 13, 14, 15, 16, 17, 18] rfl rfl (QAll.cons (QOp.yp hT rfl rfl rfl rfl rfl rfl rfl) (QAll.cons (QOp.p hT rfl rfl rfl rfl rfl) (QAll.cons (QOp.pk hT rfl rfl rfl rfl hb27 rfl) (QAll.cons (QOp.no rfl rfl rfl rfl (by decide) rfl rfl) (QAll.cons (QOp.no rfl rfl rfl rfl (by decide) rfl rfl) (QAll.cons (QOp.no rfl rfl rfl rfl (by decide) rfl rfl) (QAll.cons (QOp.no rfl rfl rfl rfl (by decide) rfl rfl) (QAll.cons (QOp.no rfl rfl rfl rfl (by decide) rfl rfl) (QAll.cons (QOp.no rfl rfl rfl rfl (by decide) rfl rfl) (QAll.cons (QOp.no rfl rfl rfl rfl (by decide) rfl rfl) (QAll.cons (QOp.no rfl rfl rfl rfl (by decide) rfl rfl) (QAll.cons (QOp.no rfl rfl rfl rfl (by decide) rfl rfl) (QAll.cons (QOp.p hT rfl rfl rfl rfl rfl) QAll.nil))))))))))))) ?_
           exact AtE.then_n ((HK24 _ () _ H).pickP (ts := [152, 5, 6, 29, 30, 31]) (is := []) rfl rfl (by decide) rfl)
          ·
           obtain ⟨v_20, hc28, H⟩ := H
           obtain ⟨a_10, hc29, H⟩ := H
           obtain ⟨v_21, hc30, H⟩ := H
           apply Stg.next [(139, _), (140, _), (141, _), (142, _), (143, _), (144, _), (145, _), (146, _), (147, _), (148, _), (149, _), (150, _), (151, _), (152, _)] rfl rfl
           refine Stg.known (t := 142) rfl hb27 ?_
           refine Stg.fin [6, 7, 8, 9, 10, 11, 12, 13, 14, 15, 16, 17, 18] rfl rfl (QAll.cons (QOp.yp hT rfl rfl rfl rfl rfl rfl rfl) (QAll.cons (QOp.p hT rfl rfl rfl rfl rfl) (QAll.cons (QOp.pk hT rfl rfl rfl rfl hb27 rfl) (QAll.cons (QOp.yp hT rfl rfl rfl rfl rfl rfl rfl) (QAll.cons (QOp.y rfl rfl rfl rfl (Quiet1.load hT rfl rfl rfl hc28) rfl rfl) (QAll.cons (QOp.yp hT rfl rfl rfl rfl rfl rfl rfl) (QAll.cons (QOp.yp hT rfl rfl rfl rfl rfl rfl rfl) (QAll.cons (QOp.y rfl rfl rfl rfl (Quiet1.nilChk rfl rfl hc29) rfl rfl) (QAll.cons (QOp.yp hT rfl rfl rfl rfl rfl rfl rfl) (QAll.cons (QOp.y rfl rfl rfl rfl (Quiet1.load hT rfl rfl rfl hc30) rfl rfl) (QAll.cons (QOp.yp hT rfl rfl rfl rfl rfl rfl rfl) (QAll.cons (QOp.yp hT rfl rfl rfl rfl rfl rfl rfl) (QAll.cons (QOp.p hT rfl rfl rfl rfl rfl) QAll.nil))))))))))))) ?_
           exact AtE.then_n ((HK24 _ () _ H).pickP (ts := [152, 5, 6, 29, 30, 31]) (is := []) rfl rfl (by decide) rfl)
       ·
        refine AtC.seqR ?_
        refine AtL.pures hT 1 _ _ _ _ rfl ?_
        refine AtL.q rfl (Quiet1.loadP (i := 0) hT rfl rfl rfl rfl rfl rfl) ?_
        refine AtL.nil ?_
        refine AtE.then_n (AtE.go ?_)
        refine AtC.block ?_
        refine AtC.seqR ?_
        refine AtL.pures hT 2 _ _ _ _ rfl ?_
        refine AtL.nil ?_
        refine AtE.then_n (AtE.go ?_)
        refine AtC.condB H rfl (fun H => ?_) (fun H => ?_)
        ·
         refine AtC.seq ?_
         refine AtC.seqR ?_
         refine AtL.pures hT 1 _ _ _ _ rfl ?_
         refine AtL.q rfl (Quiet1.loadP (i := 0) hT rfl rfl rfl rfl rfl rfl) ?_
         refine AtL.e rfl (EffX.call (f := 22) (sh := fun h => queue_Push _ _ h _) (H0 := H) rfl Try.call22 rfl (hl := fun w m hr hw => lift_queue_Push _ _ w m hr _ hw)) ?_
         rintro _ _ ⟨v_5, h0u10, rfl, rfl, H⟩
         refine AtL.pures hT 3 _ _ _ _ rfl ?_
         refine AtL.nil ?_
         refine AtE.then_n (AtE.go ?_)
         refine AtC.condB H rfl (fun H => ?_) (fun H => ?_)
         ·
          refine AtC.seqR ?_
          refine AtL.pures hT 1 _ _ _ _ rfl ?_
          refine AtL.nil ?_
          refine AtE.then_n (AtE.go ?_)
          refine AtC.ret ?_
          refine AtE.then_r ?_
          refine AtE.blk_r ?_
          refine AtE.then_r ?_
          refine AtE.blk_r ?_
          refine AtE.then_r ?_
          refine AtE.then_r ?_
          refine AtE.blk_r ?_
          refine AtE.then_r ?_
          exact AtE.retN (rs := [.tmp 4]) rfl (ResAll.cons (ResAt.tmp rfl) ResAll.nil) rfl H
         ·
          refine AtC.skip ?_
          refine AtE.then_n (AtE.go ?_)
          refine AtC.seqR ?_
          refine AtL.pures hT 1 _ _ _ _ rfl ?_
          refine AtL.nil ?_
          refine AtE.then_n (AtE.go ?_)
          refine AtC.condB H rfl (fun H => ?_) (fun H => ?_)
          ·
           obtain ⟨a_2, hc8, H⟩ := H
           obtain ⟨v_6, hc9, H⟩ := H
           obtain ⟨a_3_, hc10, hd10, H⟩ := H
           apply AtC.stages [7] [[], [], [], [], [], [], [], []] [[], [0], [0, 1], [0, 1, 2], [], [4], [0, 1, 2, 3, 4, 5], [0, 1, 2, 3, 4, 5, 6]] hmix (by kernel_rfl) [(78, _), (79, _), (80, _), (81, _), (82, _), (83, _), (84, _)] rfl 1 rfl
           refine Stg.go [0, 1, 2, 3, 4, 5, 6] [7] rfl rfl (QAll.cons (QOp.p hT rfl rfl rfl rfl rfl) (QAll.cons (QOp.q rfl rfl (Quiet1.nilChk rfl rfl hc8) rfl rfl) (QAll.cons (QOp.p hT rfl rfl rfl rfl rfl) (QAll.cons (QOp.q rfl rfl (Quiet1.load hT rfl rfl rfl hc9) rfl rfl) (QAll.cons (QOp.p hT rfl rfl rfl rfl rfl) (QAll.cons (QOp.q rfl rfl (Quiet1.loadP (i := 0) hT rfl rfl rfl rfl rfl rfl) rfl rfl) (QAll.cons (QOp.q rfl rfl (Quiet1.idxS (s := _) hT rfl rfl rfl rfl rfl hc10 hd10) rfl rfl) QAll.nil))))))) ?_
           refine EAll.cons ?_ EAll.nil
           refine EOp.e rfl rfl rfl (EffX.store hT rfl rfl rfl rfl rfl H) ?_
           rintro _ _ ⟨h0u11, rfl, H⟩
           apply Stg.next [] rfl rfl
           refine Stg.fin [] rfl rfl QAll.nil ?_
           refine AtE.blk_n ?_
           exact AtE.then_n ((HK8 _ () _ H).pickP (ts := [5, 6, 29, 30, 31]) (is := []) rfl rfl (by decide) rfl)
          ·
           refine AtC.skip ?_
           refine AtE.blk_n ?_
           exact AtE.then_n ((HK8 _ () _ H).pickP (ts := [5, 6, 29, 30, 31]) (is := []) rfl rfl (by decide) rfl)
        ·
         refine AtC.seqR ?_
         refine AtL.pures hT 2 _ _ _ _ rfl ?_
         refine AtL.nil ?_
         refine AtE.then_n (AtE.go ?_)
         refine AtC.condB H rfl (fun H => ?_) (fun H => ?_)
         ·
          refine AtC.seqR ?_
          refine AtL.e rfl (EffX.call (f := 13) (sh := fun h => queue_Pop _ h _) (H0 := H) rfl Try.call13 rfl (hl := fun w m hr hw => lift_queue_Pop _ w m hr _ hw)) ?_
          rintro _ _ ⟨v_7, h0u12, rfl, rfl, H⟩
          refine AtL.pures hT 5 _ _ _ _ rfl ?_
          refine AtL.nil ?_
          refine AtE.then_n (AtE.go ?_)
          refine AtC.seqR ?_
          refine AtL.pures hT 1 _ _ _ _ rfl ?_
          refine AtL.e rfl (EffX.call (f := 23) (sh := fun h => ref17uQueue_First _ h _) (H0 := H) rfl Try.call23 rfl (hl := fun w m hr hw => lift_ref17uQueue_First _ w m hr _ hw)) ?_
          rintro _ _ ⟨v_8, h0u13, rfl, rfl, H⟩
          refine AtL.pures hT 1 _ _ _ _ rfl ?_
          refine AtL.nil ?_
          refine AtE.then_n (AtE.go ?_)
          refine AtC.seq ?_
          refine AtC.joinSeq (β := Unit) (fun (t0u3 : Bool) (bb_3 : Unit) => [(112, Value.bool t0u3)]) (fun (t0u3 : Bool) (bb_3 : Unit) => []) [5, 6, 10, 11, 29, 30, 31] [] H (by exact rfl) (by exact rfl) (fun t0u3 bb_3 h0u14 H => ?_) (fun J12 H HK12 => ?_)
          ·
           refine AtC.condB H rfl (fun H => ?_) (fun H => ?_)
           ·
            refine AtC.seqR ?_
            refine AtL.pures hT 1 _ _ _ _ rfl ?_
            refine AtL.nil ?_
            refine AtE.then_n (AtE.go ?_)
            refine AtC.ret ?_
            refine AtE.then_r ?_
            refine AtE.blk_r ?_
            refine AtE.then_r ?_
            refine AtE.blk_r ?_
            refine AtE.then_r ?_
            refine AtE.then_r ?_
            refine AtE.blk_r ?_
            refine AtE.then_r ?_
            exact AtE.retN (rs := [.tmp 4]) rfl (ResAll.cons (ResAt.tmp rfl) ResAll.nil) rfl H
           ·
            refine AtC.skip ?_
            refine AtE.then_n (AtE.go ?_)
            refine AtC.seqR ?_
            refine AtL.pures hT 1 _ _ _ _ rfl ?_
            refine AtL.nil ?_
            refine AtE.then_n (AtE.go ?_)
            refine AtC.condB H rfl (fun H => ?_) (fun H => ?_)
            ·
             refine AtC.region ?_
             refine AtL.pures hT 1 _ _ _ _ rfl ?_
             obtain ⟨a_4, hc12, H⟩ := H
             refine AtL.q rfl (Quiet1.nilChk rfl rfl hc12) ?_
             refine AtL.pures hT 1 _ _ _ _ rfl ?_
             obtain ⟨v_9, hc13, H⟩ := H
             refine AtL.q rfl (Quiet1.load hT rfl rfl rfl hc13) ?_
             refine AtL.pures hT 1 _ _ _ _ rfl ?_
             obtain ⟨a_5_, hc14, hd14, H⟩ := H
             refine AtL.q rfl (Quiet1.idxS (s := _) hT rfl rfl rfl rfl rfl hc14 hd14) ?_
             refine AtL.e rfl (EffX.store hT rfl rfl rfl rfl rfl H) ?_
             rintro _ _ ⟨h0u15, rfl, H⟩
             refine AtL.nil ?_
             refine AtE.blk_n ?_
             exact AtE.then_n ((HK8 _ () _ H).pickP (ts := [5, 6, 29, 30, 31]) (is := []) rfl rfl (by decide) rfl)
            ·
             refine AtC.skip ?_
             refine AtE.blk_n ?_
             exact AtE.then_n ((HK8 _ () _ H).pickP (ts := [5, 6, 29, 30, 31]) (is := []) rfl rfl (by decide) rfl)
          ·
           refine AtC.region ?_
           refine AtL.pures hT 5 _ _ _ _ rfl ?_
           refine AtL.splitB (t := 97) H rfl (fun H => ?_) (fun H => ?_)
           ·
            refine AtL.noF rfl rfl rfl (by decide) rfl ?_
            refine AtL.noF rfl rfl rfl (by decide) rfl ?_
            refine AtL.noU rfl rfl rfl rfl ?_
            refine AtL.noU rfl rfl rfl rfl ?_
            refine AtL.noU rfl rfl rfl rfl ?_
            refine AtL.noF rfl rfl rfl (by decide) rfl ?_
            refine AtL.pures hT 2 _ _ _ _ rfl ?_
            refine AtL.noF rfl rfl rfl (by decide) rfl ?_
            refine AtL.noF rfl rfl rfl (by decide) rfl ?_
            refine AtL.noF rfl rfl rfl (by decide) rfl ?_
            refine AtL.noU rfl rfl rfl rfl ?_
            refine AtL.noU rfl rfl rfl rfl ?_
            refine AtL.noF rfl rfl rfl (by decide) rfl ?_
            refine AtL.pures hT 1 _ _ _ _ rfl ?_
            refine AtL.nil ?_
            exact AtE.then_n ((HK12 _ () _ H).pickP (ts := [112, 5, 6, 10, 11, 29, 30, 31]) (is := []) rfl rfl (by decide) rfl)
           ·
            refine AtL.yes rfl rfl rfl ?_
            refine AtL.pures hT 1 _ _ _ _ rfl ?_
            refine AtL.yes rfl rfl rfl ?_
            refine AtL.pures hT 1 _ _ _ _ rfl ?_
            refine AtL.splitB (t := 99) H rfl (fun H => ?_) (fun H => ?_)
            ·
             refine AtL.yes rfl rfl rfl ?_
             refine AtL.pures hT 1 _ _ _ _ rfl ?_
             refine AtL.yes rfl rfl rfl ?_
             refine AtL.pures hT 1 _ _ _ _ rfl ?_
             refine AtL.yes rfl rfl rfl ?_
             refine AtL.pures hT 1 _ _ _ _ rfl ?_
             refine AtL.yes rfl rfl rfl ?_
             refine AtL.pures hT 1 _ _ _ _ rfl ?_
             refine AtL.pures hT 2 _ _ _ _ rfl ?_
             refine AtL.splitB (t := 105) H rfl (fun H => ?_) (fun H => ?_)
             ·
              refine AtL.noF rfl rfl rfl (by decide) rfl ?_
              refine AtL.noF rfl rfl rfl (by decide) rfl ?_
              refine AtL.noF rfl rfl rfl (by decide) rfl ?_
              refine AtL.noU rfl rfl rfl rfl ?_
              refine AtL.noU rfl rfl rfl rfl ?_
              refine AtL.noF rfl rfl rfl (by decide) rfl ?_
              refine AtL.pures hT 1 _ _ _ _ rfl ?_
              refine AtL.nil ?_
              exact AtE.then_n ((HK12 _ () _ H).pickP (ts := [112, 5, 6, 10, 11, 29, 30, 31]) (is := []) rfl rfl (by decide) rfl)
             ·
              refine AtL.yes rfl rfl rfl ?_
              refine AtL.pures hT 1 _ _ _ _ rfl ?_
              refine AtL.yes rfl rfl rfl ?_
              refine AtL.pures hT 1 _ _ _ _ rfl ?_
              refine AtL.yes rfl rfl rfl ?_
              refine AtL.pures hT 1 _ _ _ _ rfl ?_
              refine AtL.splitB (t := 108) H rfl (fun H => ?_) (fun H => ?_)
              ·
               refine AtL.yes rfl rfl rfl ?_
               refine AtL.pures hT 1 _ _ _ _ rfl ?_
               refine AtL.yes rfl rfl rfl ?_
               refine AtL.pures hT 1 _ _ _ _ rfl ?_
               refine AtL.yes rfl rfl rfl ?_
               refine AtL.pures hT 1 _ _ _ _ rfl ?_
               refine AtL.pures hT 1 _ _ _ _ rfl ?_
               refine AtL.nil ?_
               exact AtE.then_n ((HK12 _ () _ H).pickP (ts := [112, 5, 6, 10, 11, 29, 30, 31]) (is := []) rfl rfl (by decide) rfl)
              ·
               refine AtL.noF rfl rfl rfl (by decide) rfl ?_
               refine AtL.noF rfl rfl rfl (by decide) rfl ?_
               refine AtL.yes rfl rfl rfl ?_
               refine AtL.pures hT 1 _ _ _ _ rfl ?_
               refine AtL.pures hT 1 _ _ _ _ rfl ?_
               refine AtL.nil ?_
               exact AtE.then_n ((HK12 _ () _ H).pickP (ts := [112, 5, 6, 10, 11, 29, 30, 31]) (is := []) rfl rfl (by decide) rfl)
            ·
             refine AtL.noF rfl rfl rfl (by decide) rfl ?_
             refine AtL.noF rfl rfl rfl (by decide) rfl ?_
             refine AtL.noF rfl rfl rfl (by decide) rfl ?_
             refine AtL.yes rfl rfl rfl ?_
             refine AtL.pures hT 1 _ _ _ _ rfl ?_
             refine AtL.pures hT 2 _ _ _ _ rfl ?_
             refine AtL.yes rfl rfl rfl ?_
             refine AtL.pures hT 1 _ _ _ _ rfl ?_
             refine AtL.yes rfl rfl rfl ?_
             refine AtL.pures hT 1 _ _ _ _ rfl ?_
             refine AtL.yes rfl rfl rfl ?_
             refine AtL.pures hT 1 _ _ _ _ rfl ?_
             refine AtL.splitB (t := 108) H rfl (fun H => ?_) (fun H => ?_)
             ·
              refine AtL.yes rfl rfl rfl ?_
              refine AtL.pures hT 1 _ _ _ _ rfl ?_
              refine AtL.yes rfl rfl rfl ?_
              refine AtL.pures hT 1 _ _ _ _ rfl ?_
              refine AtL.yes rfl rfl rfl ?_
              refine AtL.pures hT 1 _ _ _ _ rfl ?_
              refine AtL.pures hT 1 _ _ _ _ rfl ?_
              refine AtL.nil ?_
              exact AtE.then_n ((HK12 _ () _ H).pickP (ts := [112, 5, 6, 10, 11, 29, 30, 31]) (is := []) rfl rfl (by decide) rfl)
             ·
              refine AtL.noF rfl rfl rfl (by decide) rfl ?_
              refine AtL.noF rfl rfl rfl (by decide) rfl ?_
              refine AtL.yes rfl rfl rfl ?_
              refine AtL.pures hT 1 _ _ _ _ rfl ?_
              refine AtL.pures hT 1 _ _ _ _ rfl ?_
              refine AtL.nil ?_
              exact AtE.then_n ((HK12 _ () _ H).pickP (ts := [112, 5, 6, 10, 11, 29, 30, 31]) (is := []) rfl rfl (by decide) rfl)
         ·
          refine AtC.seqR ?_
          refine AtL.pures hT 2 _ _ _ _ rfl ?_
          refine AtL.nil ?_
          refine AtE.then_n (AtE.go ?_)
          refine AtC.condB H rfl (fun H => ?_) (fun H => ?_)
          ·
           apply AtC.seqS [4, 10] [[], [], [], [], [], [], [], [], [], [], [4], [4, 10]] [[], [0], [], [2], [0, 1, 2, 3], [], [], [6], [], [8], [0, 1, 2, 3, 4, 5, 6, 7, 8, 9], [0, 1, 2, 3, 4, 5, 6, 7, 8, 9, 10]] hmix (by kernel_rfl) [(122, _), (123, _), (124, _), (125, _), (127, _), (128, _), (129, _), (130, _), (131, _)] rfl 2 rfl
           refine Stg.go [0, 1, 2, 3, 5, 6, 7, 8, 9] [4] rfl rfl (QAll.cons (QOp.p hT rfl rfl rfl rfl rfl) (QAll.cons (QOp.q rfl rfl (Quiet1.loadP (i := 0) hT rfl rfl rfl rfl rfl rfl) rfl rfl) (QAll.cons (QOp.p hT rfl rfl rfl rfl rfl) (QAll.cons (QOp.q rfl rfl (Quiet1.loadP (i := 0) hT rfl rfl rfl rfl rfl rfl) rfl rfl) (QAll.cons (QOp.p hT rfl rfl rfl rfl rfl) (QAll.cons (QOp.p hT rfl rfl rfl rfl rfl) (QAll.cons (QOp.q rfl rfl (Quiet1.loadP (i := 0) hT rfl rfl rfl rfl rfl rfl) rfl rfl) (QAll.cons (QOp.p hT rfl rfl rfl rfl rfl) (QAll.cons (QOp.q rfl rfl (Quiet1.loadP (i := 0) hT rfl rfl rfl rfl rfl rfl) rfl rfl) QAll.nil))))))))) ?_
           refine EAll.cons ?_ EAll.nil
           refine EOp.e rfl rfl rfl (EffX.call (f := 12) (sh := fun h => queue_Bump _ _ _ h _) (H0 := H) rfl Try.call12 rfl (hl := fun w m hr hw => lift_queue_Bump _ _ _ w m hr _ hw)) ?_
           rintro _ _ ⟨v_10, h0u16, rfl, rfl, H⟩
           apply Stg.next [(126, _)] rfl rfl
           refine Stg.go [5, 6, 7, 8, 9] [10] rfl rfl (QAll.cons (QOp.p hT rfl rfl rfl rfl rfl) (QAll.cons (QOp.p hT rfl rfl rfl rfl rfl) (QAll.cons (QOp.q rfl rfl (Quiet1.loadP (i := 0) hT rfl rfl rfl rfl rfl rfl) rfl rfl) (QAll.cons (QOp.p hT rfl rfl rfl rfl rfl) (QAll.cons (QOp.q rfl rfl (Quiet1.loadP (i := 0) hT rfl rfl rfl rfl rfl rfl) rfl rfl) QAll.nil))))) ?_
           refine EAll.cons ?_ EAll.nil
           refine EOp.e rfl rfl rfl (EffX.call (f := 24) (sh := fun h => ref17uQueue_Bump _ _ _ h _) (H0 := H) rfl Try.call24 rfl (hl := fun w m hr hw => lift_ref17uQueue_Bump _ _ _ w m hr _ hw)) ?_
           rintro _ _ ⟨v_11, h0u17, rfl, rfl, H⟩
           apply Stg.next [(132, _), (133, _)] rfl rfl
           refine Stg.fin [11] rfl rfl (QAll.cons (QOp.p hT rfl rfl rfl rfl rfl) QAll.nil) ?_
           refine AtE.then_n (AtE.go ?_)
           refine AtC.condB H rfl (fun H => ?_) (fun H => ?_)
           ·
            refine AtC.seqR ?_
            refine AtL.pures hT 1 _ _ _ _ rfl ?_
            refine AtL.nil ?_
            refine AtE.then_n (AtE.go ?_)
            refine AtC.ret ?_
            refine AtE.blk_r ?_
            refine AtE.then_r ?_
            refine AtE.blk_r ?_
            refine AtE.then_r ?_
            refine AtE.then_r ?_
            refine AtE.blk_r ?_
            refine AtE.then_r ?_
            exact AtE.retN (rs := [.tmp 4]) rfl (ResAll.cons (ResAt.tmp rfl) ResAll.nil) rfl H
           ·
            refine AtC.skip ?_
            refine AtE.blk_n ?_
            exact AtE.then_n ((HK8 _ () _ H).pickP (ts := [5, 6, 29, 30, 31]) (is := []) rfl rfl (by decide) rfl)
          ·
           refine AtC.seqR ?_
           refine AtL.e rfl (EffX.call (f := 25) (sh := fun h => queue_Halve _ h _) (H0 := H) rfl Try.call25 rfl (hl := fun w m hr hw => lift_queue_Halve _ w m hr _ hw)) ?_
           rintro _ _ ⟨v_12, h0u18, rfl, rfl, H⟩
           refine AtL.nil ?_
           refine AtE.then_n (AtE.go ?_)
           refine AtC.seqR ?_
           refine AtL.pures hT 1 _ _ _ _ rfl ?_
           obtain ⟨a_6, hc15, H⟩ := H
           refine AtL.q rfl (Quiet1.nilChk rfl rfl hc15) ?_
           refine AtL.pures hT 1 _ _ _ _ rfl ?_
           obtain ⟨v_13, hc16, H⟩ := H
           refine AtL.q rfl (Quiet1.load hT rfl rfl rfl hc16) ?_
           refine AtL.pures hT 2 _ _ _ _ rfl ?_
           refine AtL.nil ?_
           refine AtE.then_n (AtE.go ?_)
           refine AtC.block ?_
           refine AtC.loopM (fun (s0u1 : Int) => [(56, Value.int .i64 s0u1)]) (fun (s0u1 : Int) => []) [5, 6, 29, 30, 31, 55] [56, 5, 6, 29, 30, 31, 55] [] [] H (by exact rfl) (by exact rfl) (by exact rfl) (by decide) (by exact rfl) (fun Kp18 s0u1 h0u19 H Q18 HK18 => ?_)
           refine AtC.seqR ?_
           refine AtL.pures hT 1 _ _ _ _ rfl ?_
           refine AtL.nil ?_
           refine AtE.then_n (AtE.go ?_)
           refine AtC.seq ?_
           refine AtC.condB H rfl (fun H => ?_) (fun H => ?_)
           ·
            refine AtC.skip ?_
            refine AtE.then_n (AtE.go ?_)
            refine AtC.seq ?_
            refine AtC.block ?_
            refine AtC.seqR ?_
            refine AtL.pures hT 2 _ _ _ _ rfl ?_
            refine AtL.nil ?_
            refine AtE.then_n (AtE.go ?_)
            refine AtC.region ?_
            refine AtL.pures hT 1 _ _ _ _ rfl ?_
            obtain ⟨a_7, hc18, H⟩ := H
            refine AtL.q rfl (Quiet1.nilChk rfl rfl hc18) ?_
            refine AtL.pures hT 1 _ _ _ _ rfl ?_
            obtain ⟨v_14, hc19, H⟩ := H
            refine AtL.q rfl (Quiet1.load hT rfl rfl rfl hc19) ?_
            refine AtL.pures hT 1 _ _ _ _ rfl ?_
            obtain ⟨a_8_, hc20, hd20, H⟩ := H
            refine AtL.q rfl (Quiet1.idxS (s := _) hT rfl rfl rfl rfl rfl hc20 hd20) ?_
            obtain ⟨v_15, hc21, H⟩ := H
            refine AtL.q rfl (Quiet1.load hT rfl rfl rfl hc21) ?_
            refine AtL.pures hT 1 _ _ _ _ rfl ?_
            obtain ⟨a_9_, hc22, hd22, H⟩ := H
            refine AtL.q rfl (Quiet1.idxS (s := _) hT rfl rfl rfl rfl rfl hc22 hd22) ?_
            refine AtL.e rfl (EffX.store hT rfl rfl rfl rfl rfl H) ?_
            rintro _ _ ⟨h0u20, rfl, H⟩
            refine AtL.nil ?_
            refine AtE.blk_n ?_
            refine AtE.then_n (AtE.go ?_)
            refine AtC.region ?_
            refine AtL.pures hT 2 _ _ _ _ rfl ?_
            refine AtL.nil ?_
            exact AtE.then_n ((HK18 _ _ H).pickP (ts := [56, 5, 6, 29, 30, 31, 55]) (is := []) rfl rfl (by decide) rfl)
           ·
            refine AtC.exit ?_
            refine AtE.then_x ?_
            refine AtE.then_x ?_
            refine AtE.blk_hit ?_
            refine AtE.blk_n ?_
            exact AtE.then_n ((HK8 _ () _ H).pickP (ts := [5, 6, 29, 30, 31]) (is := []) rfl rfl (by decide) rfl)
      ·
       refine AtC.draw hmix (by kernel_rfl) ?_
       refine AtD.pures hT 1 _ _ _ _ rfl ?_
       refine AtD.q rfl (Quiet1.loadP (i := 0) hT rfl rfl rfl rfl rfl rfl) ?_
       refine AtD.pures hT 2 _ _ _ _ rfl ?_
       refine AtD.splitB (t := 38) H rfl (fun H => ?_) (fun H => ?_)
       ·
        refine AtD.yes rfl rfl rfl ?_
        refine AtD.pures hT 1 _ _ _ _ rfl ?_
        refine AtD.yes rfl rfl rfl ?_
        refine AtD.q rfl (Quiet1.loadP (i := 0) hT rfl rfl rfl rfl rfl rfl) ?_
        refine AtD.yes rfl rfl rfl ?_
        refine AtD.pures hT 1 _ _ _ _ rfl ?_
        refine AtD.yes rfl rfl rfl ?_
        obtain ⟨a_1, hc5, H⟩ := H
        refine AtD.q rfl (Quiet1.nilChk rfl rfl hc5) ?_
        refine AtD.yes rfl rfl rfl ?_
        refine AtD.pures hT 1 _ _ _ _ rfl ?_
        refine AtD.yes rfl rfl rfl ?_
        obtain ⟨v_4, hc6, H⟩ := H
        refine AtD.q rfl (Quiet1.load hT rfl rfl rfl hc6) ?_
        refine AtD.yes rfl rfl rfl ?_
        refine AtD.pures hT 1 _ _ _ _ rfl ?_
        refine AtD.yes rfl rfl rfl ?_
        refine AtD.pures hT 1 _ _ _ _ rfl ?_
        refine AtD.pures hT 2 _ _ _ _ rfl ?_
        replace H := H _ rfl
        refine AtD.nil ?_
        exact AtE.then_n ((HK5 _ () _ H).pickP (ts := [9, 5, 6, 8, 29, 30, 31]) (is := [0]) rfl rfl (by decide) rfl)
       ·
        refine AtD.noF rfl rfl rfl (by decide) rfl ?_
        refine AtD.noF rfl rfl rfl (by decide) rfl ?_
        refine AtD.noF rfl rfl rfl (by decide) rfl ?_
        refine AtD.noF rfl rfl rfl (by decide) rfl ?_
        refine AtD.noF rfl rfl rfl (by decide) rfl ?_
        refine AtD.noF rfl rfl rfl (by decide) rfl ?_
        refine AtD.noF rfl rfl rfl (by decide) rfl ?_
        refine AtD.noF rfl rfl rfl (by decide) rfl ?_
        refine AtD.pures hT 2 _ _ _ _ rfl ?_
        refine AtD.nil ?_
        exact AtE.then_n ((HK5 _ () _ H).pickP (ts := [9, 5, 6, 8, 29, 30, 31]) (is := [0]) rfl rfl (by decide) rfl)
     ·
      refine AtC.exit ?_
      refine AtE.then_x ?_
      refine AtE.then_x ?_
      refine AtE.blk_hit ?_
      refine AtE.then_n (AtE.go ?_)
      refine AtC.seqR ?_
      refine AtL.pures hT 1 _ _ _ _ rfl ?_
      refine AtL.nil ?_
      refine AtE.then_n (AtE.go ?_)
      refine AtC.ret ?_
      exact AtE.retN (rs := [.tmp 4]) rfl (ResAll.cons (ResAt.tmp rfl) ResAll.nil) rfl H
   ·
    refine AtC.region ?_
    refine AtL.pures hT 3 _ _ _ _ rfl ?_
    refine AtL.splitB (t := 20) H rfl (fun H => ?_) (fun H => ?_)
    ·
     refine AtL.noF rfl rfl rfl (by decide) rfl ?_
     refine AtL.noF rfl rfl rfl (by decide) rfl ?_
     refine AtL.noF rfl rfl rfl (by decide) rfl ?_
     refine AtL.pures hT 1 _ _ _ _ rfl ?_
     refine AtL.nil ?_
     exact AtE.then_n ((HK1 _ () _ H).pickP (ts := [24, 0, 1]) (is := []) rfl rfl (by decide) rfl)
    ·
     refine AtL.yes rfl rfl rfl ?_
     refine AtL.pures hT 1 _ _ _ _ rfl ?_
     refine AtL.yes rfl rfl rfl ?_
     refine AtL.pures hT 1 _ _ _ _ rfl ?_
     refine AtL.yes rfl rfl rfl ?_
     refine AtL.pures hT 1 _ _ _ _ rfl ?_
     refine AtL.pures hT 1 _ _ _ _ rfl ?_
     refine AtL.nil ?_
     exact AtE.then_n ((HK1 _ () _ H).pickP (ts := [24, 0, 1]) (is := []) rfl rfl (by decide) rfl)
end Go.Proofs.Ytafkahjfbiamlaa

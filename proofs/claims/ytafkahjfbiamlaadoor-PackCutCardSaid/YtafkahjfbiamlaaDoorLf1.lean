/-
  The deep code does what the functions of the shallow text say: printed by lift.py.
-/
import Derived.Test.YtafkahjfbiamlaaDoorProg
import Derived.Test.YtafkahjfbiamlaaDoorSh
set_option linter.unusedVariables false
set_option linter.unusedSimpArgs false
namespace Go.Proofs.YtafkahjfbiamlaaDoor
open Go Go.Lift Go.Sh
set_option maxRecDepth 100000
set_option maxHeartbeats 4000000
attribute [local irreducible] Calls AtL AtC AtE AtD Eff Quiet1 Stg qAt QAll eAt EAll nextK Code.wp

def T : TTab := [(3, .int .i64, 1, 8, [Value.int .i64 0]), (4, .bool, 1, 1, [Value.bool false]), (5, .int .u8, 1, 1, [Value.int .u8 0]), (9, .string, 1, 16, [Value.string (ByteArray.mk #[])]), (22, .slice 5, 1, 24, [Sl.toV Sl.nil]), (23, .slice 41, 1, 24, [Sl.toV Sl.nil]), (30, .struct #[⟨ "B", 22, 0, false, "", "", 0⟩, ⟨ "At", 3, 1, false, "", "", 24⟩, ⟨ "Wrong", 4, 2, false, "", "", 32⟩], 3, 40, [Sl.toV Sl.nil, Value.int .i64 0, Value.bool false]), (31, .slice 107, 1, 24, [Sl.toV Sl.nil]), (32, .slice 107, 1, 24, [Sl.toV Sl.nil]), (34, .struct #[⟨ "Neg", 4, 0, false, "", "", 0⟩, ⟨ "Mag", 32, 1, false, "", "", 8⟩], 2, 32, [Value.bool false, Sl.toV Sl.nil]), (36, .struct #[⟨ "Num", 34, 0, false, "", "", 0⟩, ⟨ "Den", 32, 2, false, "", "", 32⟩], 3, 56, [Value.bool false, Sl.toV Sl.nil, Sl.toV Sl.nil]), (38, .struct #[⟨ "A", 36, 0, false, "", "", 0⟩, ⟨ "B", 36, 3, false, "", "", 56⟩], 6, 112, [Value.bool false, Sl.toV Sl.nil, Sl.toV Sl.nil, Value.bool false, Sl.toV Sl.nil, Sl.toV Sl.nil]), (39, .slice 3, 1, 24, [Sl.toV Sl.nil]), (41, .struct #[⟨ "Kind", 3, 0, false, "", "", 0⟩, ⟨ "N", 3, 1, false, "", "", 8⟩, ⟨ "B", 22, 2, false, "", "", 16⟩, ⟨ "X", 38, 3, false, "", "", 40⟩, ⟨ "List", 39, 9, false, "", "", 152⟩], 10, 176, [Value.int .i64 0, Value.int .i64 0, Sl.toV Sl.nil, Value.bool false, Sl.toV Sl.nil, Sl.toV Sl.nil, Value.bool false, Sl.toV Sl.nil, Sl.toV Sl.nil, Sl.toV Sl.nil]), (49, .struct #[⟨ "b", 22, 0, false, "", "steelyard/pack", 0⟩], 1, 24, [Sl.toV Sl.nil]), (72, .struct #[⟨ "left", 22, 0, false, "", "steelyard/pack", 0⟩, ⟨ "wrong", 4, 1, false, "", "steelyard/pack", 24⟩], 2, 32, [Sl.toV Sl.nil, Value.bool false]), (100, .int .u64, 1, 8, [Value.int .u64 0]), (101, .slice 38, 1, 24, [Sl.toV Sl.nil]), (107, .int .u32, 1, 4, [Value.int .u32 0]), (111, .array 8 5, 8, 8, [Value.int .u8 0, Value.int .u8 0, Value.int .u8 0, Value.int .u8 0, Value.int .u8 0, Value.int .u8 0, Value.int .u8 0, Value.int .u8 0]), (117, .slice 36, 1, 24, [Sl.toV Sl.nil]), (126, .slice 3, 1, 24, [Sl.toV Sl.nil]), (128, .struct #[⟨ "Neg", 4, 0, false, "", "", 0⟩, ⟨ "Num", 126, 1, false, "", "", 8⟩, ⟨ "Den", 126, 2, false, "", "", 32⟩], 3, 56, [Value.bool false, Sl.toV Sl.nil, Sl.toV Sl.nil]), (136, .struct #[⟨ "limbs", 3, 0, false, "", "steelyard/nat", 0⟩, ⟨ "over", 4, 1, false, "", "steelyard/nat", 8⟩], 2, 16, [Value.int .i64 0, Value.bool false]), (151, .array 32 5, 32, 32, [Value.int .u8 0, Value.int .u8 0, Value.int .u8 0, Value.int .u8 0, Value.int .u8 0, Value.int .u8 0, Value.int .u8 0, Value.int .u8 0, Value.int .u8 0, Value.int .u8 0, Value.int .u8 0, Value.int .u8 0, Value.int .u8 0, Value.int .u8 0, Value.int .u8 0, Value.int .u8 0, Value.int .u8 0, Value.int .u8 0, Value.int .u8 0, Value.int .u8 0, Value.int .u8 0, Value.int .u8 0, Value.int .u8 0, Value.int .u8 0, Value.int .u8 0, Value.int .u8 0, Value.int .u8 0, Value.int .u8 0, Value.int .u8 0, Value.int .u8 0, Value.int .u8 0, Value.int .u8 0])]
theorem hT : TTab.Ok Tryd.prog T := TTab.ok_cons (by kernel_rfl) (by kernel_rfl) (TTab.ok_cons (by kernel_rfl) (by kernel_rfl) (TTab.ok_cons (by kernel_rfl) (by kernel_rfl) (TTab.ok_cons (by kernel_rfl) (by kernel_rfl) (TTab.ok_cons (by kernel_rfl) (by kernel_rfl) (TTab.ok_cons (by kernel_rfl) (by kernel_rfl) (TTab.ok_cons (by kernel_rfl) (by kernel_rfl) (TTab.ok_cons (by kernel_rfl) (by kernel_rfl) (TTab.ok_cons (by kernel_rfl) (by kernel_rfl) (TTab.ok_cons (by kernel_rfl) (by kernel_rfl) (TTab.ok_cons (by kernel_rfl) (by kernel_rfl) (TTab.ok_cons (by kernel_rfl) (by kernel_rfl) (TTab.ok_cons (by kernel_rfl) (by kernel_rfl) (TTab.ok_cons (by kernel_rfl) (by kernel_rfl) (TTab.ok_cons (by kernel_rfl) (by kernel_rfl) (TTab.ok_cons (by kernel_rfl) (by kernel_rfl) (TTab.ok_cons (by kernel_rfl) (by kernel_rfl) (TTab.ok_cons (by kernel_rfl) (by kernel_rfl) (TTab.ok_cons (by kernel_rfl) (by kernel_rfl) (TTab.ok_cons (by kernel_rfl) (by kernel_rfl) (TTab.ok_cons (by kernel_rfl) (by kernel_rfl) (TTab.ok_cons (by kernel_rfl) (by kernel_rfl) (TTab.ok_cons (by kernel_rfl) (by kernel_rfl) (TTab.ok_cons (by kernel_rfl) (by kernel_rfl) (TTab.ok_cons (by kernel_rfl) (by kernel_rfl) (TTab.ok_nil _)))))))))))))))))))))))))
theorem hmix : Tryd.prog.follows .mixedOrders = true := by kernel_rfl

theorem lift_pack_Out_number (o : (Option Addr)) (n : Int) (size : Int) (w : World) (m : Heap) (hr : Rel ⟨m, []⟩ w.heap) (S : Unit → Heap → Prop) (H : pack_Out_number o n size m S) :
    Calls Tryd.prog 61 #[Value.pointer o, Value.int .u64 n, Value.int .i64 size] w (Post ⟨w, m⟩ (fun _ => Value.tuple #[]) S) := by
  refine Calls.lift (args := [Value.pointer o, Value.int .u64 n, Value.int .i64 size]) Tryd.func61 rfl Tryd.ntmps61 (Nat.le_of_ble_eq_true rfl) hr (pack_Out_number o n size m S) H (fun H => ?_)
  refine AtC.pick (ts := [0, 1, 2]) rfl ?_
  unfold pack_Out_number at H
  refine AtC.seqR ?_
  refine AtL.pures hT 3 _ _ _ _ rfl ?_
  replace H := H _ rfl
  refine AtL.nil ?_
  refine AtE.then_n (AtE.go ?_)
  refine AtC.block ?_
  refine AtC.loopM (fun (s0 : Int) => [(6, Value.int .i64 s0)]) (fun (s0 : Int) => []) [0, 1] [6, 0, 1] [] [] H (by exact rfl) (by exact rfl) (by exact rfl) (by decide) (by exact rfl) (fun Kp1 s0 h0 H Q1 HK1 => ?_)
  refine AtC.seq ?_
  refine AtC.seqR ?_
  refine AtL.pures hT 2 _ _ _ _ rfl ?_
  refine AtL.nil ?_
  refine AtE.then_n (AtE.go ?_)
  refine AtC.condB H rfl (fun H => ?_) (fun H => ?_)
  ·
   refine AtC.skip ?_
   refine AtE.then_n (AtE.go ?_)
   refine AtC.seq ?_
   refine AtC.block ?_
   obtain ⟨a, hc1, H⟩ := H
   obtain ⟨v, hc2, H⟩ := H
   obtain ⟨hd3, H⟩ := H
   apply AtC.stages [10, 11, 14] [[], [], [], [], [], [], [], [], [], [], [], [10], [10, 11], [10, 11], [10, 11]] [[], [], [1], [1, 2], [1, 2, 3], [], [], [6], [5, 6, 7], [5, 6, 7, 8], [5, 6, 7, 8, 9], [1, 2, 3, 4, 5, 6, 7, 8, 9, 10], [0, 1, 2, 3, 4, 5, 6, 7, 8, 9, 10, 11], [0, 1, 2, 3, 4, 5, 6, 7, 8, 9, 10, 11, 12], [0, 1, 2, 3, 4, 5, 6, 7, 8, 9, 10, 11, 12, 13]] hmix (by kernel_rfl) [(13, _), (14, _), (15, _), (16, _), (17, _), (18, _), (19, _), (20, _), (21, _), (22, _)] rfl 3 rfl
   refine Stg.go [0, 1, 2, 3, 4, 5, 6, 7, 8, 9] [10] rfl rfl (QAll.cons (QOp.p hT rfl rfl rfl rfl rfl) (QAll.cons (QOp.p hT rfl rfl rfl rfl rfl) (QAll.cons (QOp.q rfl rfl (Quiet1.nilChk rfl rfl hc1) rfl rfl) (QAll.cons (QOp.p hT rfl rfl rfl rfl rfl) (QAll.cons (QOp.q rfl rfl (Quiet1.load hT rfl rfl rfl hc2) rfl rfl) (QAll.cons (QOp.p hT rfl rfl rfl rfl rfl) (QAll.cons (QOp.p hT rfl rfl rfl rfl rfl) (QAll.cons (QOp.p hT rfl rfl rfl rfl rfl) (QAll.cons (QOp.q rfl rfl (Quiet1.shr rfl rfl rfl hd3) rfl rfl) (QAll.cons (QOp.p hT rfl rfl rfl rfl rfl) QAll.nil)))))))))) ?_
   refine EAll.cons ?_ EAll.nil
   refine EOp.e rfl rfl rfl (EffX.buildS2 (cs := [_]) hT rfl rfl rfl rfl rfl rfl rfl rfl H) ?_
   rintro _ _ ⟨a_1, h0u1, rfl, rfl, H⟩
   obtain ⟨hc4, H⟩ := H
   apply Stg.next [(23, _)] rfl rfl
   refine Stg.go [0, 1, 2, 3, 4] [11] rfl rfl (QAll.cons (QOp.p hT rfl rfl rfl rfl rfl) (QAll.cons (QOp.p hT rfl rfl rfl rfl rfl) (QAll.cons (QOp.q rfl rfl (Quiet1.nilChk rfl rfl hc1) rfl rfl) (QAll.cons (QOp.p hT rfl rfl rfl rfl rfl) (QAll.cons (QOp.q rfl rfl (Quiet1.load hT rfl rfl rfl hc4) rfl rfl) QAll.nil))))) ?_
   refine EAll.cons ?_ EAll.nil
   refine EOp.e rfl rfl rfl (EffX.appendS (s := _) (u := _) hT rfl rfl rfl rfl rfl rfl rfl rfl rfl rfl (by decide) H) ?_
   rintro _ _ ⟨v_2, h0u2, rfl, rfl, H⟩
   obtain ⟨a_2, hc5, H⟩ := H
   apply Stg.next [(24, _), (25, _), (26, _)] rfl rfl
   refine Stg.go [0, 12, 13] [14] rfl rfl (QAll.cons (QOp.p hT rfl rfl rfl rfl rfl) (QAll.cons (QOp.q rfl rfl (Quiet1.nilChk rfl rfl hc5) rfl rfl) (QAll.cons (QOp.p hT rfl rfl rfl rfl rfl) QAll.nil))) ?_
   refine EAll.cons ?_ EAll.nil
   refine EOp.e rfl rfl rfl (EffX.store hT rfl rfl rfl rfl rfl H) ?_
   rintro _ _ ⟨h0u3, rfl, H⟩
   apply Stg.next [] rfl rfl
   refine Stg.fin [] rfl rfl QAll.nil ?_
   refine AtE.blk_n ?_
   refine AtE.then_n (AtE.go ?_)
   refine AtC.region ?_
   refine AtL.pures hT 3 _ _ _ _ rfl ?_
   replace H := H _ rfl
   refine AtL.nil ?_
   exact AtE.then_n ((HK1 _ _ H).pickP (ts := [6, 0, 1]) (is := []) rfl rfl (by decide) rfl)
  ·
   refine AtC.exit ?_
   refine AtE.then_x ?_
   refine AtE.then_x ?_
   refine AtE.blk_hit ?_
   exact AtE.endN rfl rfl H

theorem lift_pack_Out_Int (o : (Option Addr)) (n : Int) (w : World) (m : Heap) (hr : Rel ⟨m, []⟩ w.heap) (S : Unit → Heap → Prop) (H : pack_Out_Int o n m S) :
    Calls Tryd.prog 25 #[Value.pointer o, Value.int .i64 n] w (Post ⟨w, m⟩ (fun _ => Value.tuple #[]) S) := by
  refine Calls.lift (args := [Value.pointer o, Value.int .i64 n]) Tryd.func25 rfl Tryd.ntmps25 (Nat.le_of_ble_eq_true rfl) hr (pack_Out_Int o n m S) H (fun H => ?_)
  refine AtC.pick (ts := [0, 1]) rfl ?_
  unfold pack_Out_Int at H
  refine AtC.region ?_
  refine AtL.pures hT 3 _ _ _ _ rfl ?_
  refine AtL.e rfl (EffX.call (f := 61) (sh := fun h => pack_Out_number _ _ _ h _) (H0 := H) rfl Tryd.call61 rfl (hl := fun w m hr hw => lift_pack_Out_number _ _ _ w m hr _ hw)) ?_
  rintro _ _ ⟨v, h0, rfl, rfl, H⟩
  refine AtL.nil ?_
  exact AtE.endN rfl rfl H

theorem lift_slices_Clone_byte_byte (s0 : Sl) (w : World) (m : Heap) (hr : Rel ⟨m, []⟩ w.heap) (S : Sl → Heap → Prop) (H : slices_Clone_byte_byte s0 m S) :
    Calls Tryd.prog 27 #[Sl.toV s0] w (Post ⟨w, m⟩ Sl.toV S) := by
  refine Calls.lift (args := [Sl.toV s0]) Tryd.func27 rfl Tryd.ntmps27 (Nat.le_of_ble_eq_true rfl) hr (slices_Clone_byte_byte s0 m S) H (fun H => ?_)
  refine AtC.pick (ts := [0]) rfl ?_
  unfold slices_Clone_byte_byte at H
  refine AtC.seqR ?_
  refine AtL.pures hT 1 _ _ _ _ rfl ?_
  refine AtL.nil ?_
  refine AtE.then_n (AtE.go ?_)
  refine AtC.seq ?_
  refine AtC.seqR ?_
  refine AtL.pures hT 1 _ _ _ _ rfl ?_
  refine AtL.q rfl (Quiet1.eqNilS hT rfl rfl rfl rfl) ?_
  refine AtL.nil ?_
  refine AtE.then_n (AtE.go ?_)
  refine AtC.condB H rfl (fun H => ?_) (fun H => ?_)
  ·
   refine AtC.seqR ?_
   refine AtL.pures hT 1 _ _ _ _ rfl ?_
   refine AtL.nil ?_
   refine AtE.then_n (AtE.go ?_)
   refine AtC.ret ?_
   refine AtE.then_r ?_
   exact AtE.retN (rs := [.tmp 2]) rfl (ResAll.cons (ResAt.tmp rfl) ResAll.nil) rfl H
  ·
   refine AtC.skip ?_
   refine AtE.then_n (AtE.go ?_)
   refine AtC.seqR ?_
   refine AtLX.bs (hT := hT) (cs := []) H rfl rfl rfl rfl rfl rfl rfl rfl rfl (fun a h0 H => ?_)
   refine AtL.pures hT 1 _ _ _ _ rfl ?_
   refine AtL.e rfl (EffX.appendS (s := _) (u := _) hT rfl rfl rfl rfl rfl rfl rfl rfl rfl rfl (by decide) H) ?_
   rintro _ _ ⟨v_1, h0u1, rfl, rfl, H⟩
   refine AtL.pures hT 1 _ _ _ _ rfl ?_
   refine AtL.nil ?_
   refine AtE.then_n (AtE.go ?_)
   refine AtC.ret ?_
   exact AtE.retN (rs := [.tmp 2]) rfl (ResAll.cons (ResAt.tmp rfl) ResAll.nil) rfl H

theorem lift_pack_Out_Done (o : (Option Addr)) (w : World) (m : Heap) (hr : Rel ⟨m, []⟩ w.heap) (S : Sl → Heap → Prop) (H : pack_Out_Done o m S) :
    Calls Tryd.prog 16 #[Value.pointer o] w (Post ⟨w, m⟩ Sl.toV S) := by
  refine Calls.lift (args := [Value.pointer o]) Tryd.func16 rfl Tryd.ntmps16 (Nat.le_of_ble_eq_true rfl) hr (pack_Out_Done o m S) H (fun H => ?_)
  refine AtC.pick (ts := [0]) rfl ?_
  unfold pack_Out_Done at H
  refine AtC.seqR ?_
  refine AtL.pures hT 1 _ _ _ _ rfl ?_
  refine AtL.nil ?_
  refine AtE.then_n (AtE.go ?_)
  refine AtC.seqR ?_
  refine AtL.pures hT 1 _ _ _ _ rfl ?_
  obtain ⟨a, hc0, H⟩ := H
  refine AtL.q rfl (Quiet1.nilChk rfl rfl hc0) ?_
  refine AtL.pures hT 1 _ _ _ _ rfl ?_
  obtain ⟨v, hc1, H⟩ := H
  refine AtL.q rfl (Quiet1.load hT rfl rfl rfl hc1) ?_
  refine AtL.e rfl (EffX.call (f := 27) (sh := fun h => slices_Clone_byte_byte _ h _) (H0 := H) rfl Tryd.call27 rfl (hl := fun w m hr hw => lift_slices_Clone_byte_byte _ w m hr _ hw)) ?_
  rintro _ _ ⟨v_1, h0, rfl, rfl, H⟩
  refine AtL.pures hT 1 _ _ _ _ rfl ?_
  refine AtL.nil ?_
  refine AtE.then_n (AtE.go ?_)
  refine AtC.ret ?_
  exact AtE.retN (rs := [.tmp 2]) rfl (ResAll.cons (ResAt.tmp rfl) ResAll.nil) rfl H

theorem lift_law04uspeaks (w : World) (m : Heap) (hr : Rel ⟨m, []⟩ w.heap) (S : Bool → Heap → Prop) (H : law04uspeaks m S) :
    Calls Tryd.prog 8 #[] w (Post ⟨w, m⟩ Value.bool S) := by
  refine Calls.lift (args := []) Tryd.func8 rfl Tryd.ntmps8 (Nat.le_of_ble_eq_true rfl) hr (law04uspeaks m S) H (fun H => ?_)
  refine AtC.pick (ts := []) rfl ?_
  unfold law04uspeaks at H
  refine AtC.seqR ?_
  refine AtL.pures hT 1 _ _ _ _ rfl ?_
  refine AtL.nil ?_
  refine AtE.then_n (AtE.go ?_)
  refine AtC.seqR ?_
  refine AtL.q rfl (Quiet1.build (cs := [_]) hT rfl rfl rfl rfl rfl rfl) ?_
  refine AtL.e rfl (EffX.box (cs := [_]) rfl rfl rfl H) ?_
  rintro _ _ ⟨a, h0, rfl, rfl, H⟩
  refine AtL.pures hT 1 _ _ _ _ rfl ?_
  refine AtL.nil ?_
  refine AtE.then_n (AtE.go ?_)
  refine AtC.seqR ?_
  refine AtL.pures hT 1 _ _ _ _ rfl ?_
  refine AtL.e rfl (EffX.call (f := 25) (sh := fun h => pack_Out_Int _ _ h _) (H0 := H) rfl Tryd.call25 rfl (hl := fun w m hr hw => lift_pack_Out_Int _ _ w m hr _ hw)) ?_
  rintro _ _ ⟨v, h0u1, rfl, rfl, H⟩
  refine AtL.nil ?_
  refine AtE.then_n (AtE.go ?_)
  refine AtC.seqR ?_
  refine AtL.pures hT 1 _ _ _ _ rfl ?_
  refine AtL.e rfl (EffX.call (f := 16) (sh := fun h => pack_Out_Done _ h _) (H0 := H) rfl Tryd.call16 rfl (hl := fun w m hr hw => lift_pack_Out_Done _ w m hr _ hw)) ?_
  rintro _ _ ⟨v_1, h0u2, rfl, rfl, H⟩
  obtain ⟨v_2_, hc0, H⟩ := H
  refine AtL.q rfl (Quiet1.strOf (s := _) hT rfl rfl rfl rfl rfl hc0) ?_
  refine AtL.pures hT 2 _ _ _ _ rfl ?_
  refine AtL.nil ?_
  refine AtE.then_n (AtE.go ?_)
  refine AtC.ret ?_
  exact AtE.retN (rs := [.tmp 0]) rfl (ResAll.cons (ResAt.tmp rfl) ResAll.nil) rfl H

theorem lift_law02uGreat (l : Sl) (w : World) (m : Heap) (hr : Rel ⟨m, []⟩ w.heap) (S : Bool → Heap → Prop) (H : law02uGreat l m S) :
    Calls Tryd.prog 60 #[Sl.toV l] w (Post ⟨w, m⟩ Value.bool S) := by
  refine Calls.lift (args := [Sl.toV l]) Tryd.func60 rfl Tryd.ntmps60 (Nat.le_of_ble_eq_true rfl) hr (law02uGreat l m S) H (fun H => ?_)
  refine AtC.pick (ts := [0]) rfl ?_
  unfold law02uGreat at H
  refine AtC.seqR ?_
  refine AtL.pures hT 1 _ _ _ _ rfl ?_
  refine AtL.nil ?_
  refine AtE.then_n (AtE.go ?_)
  refine AtC.seq ?_
  refine AtC.seqR ?_
  refine AtL.pures hT 3 _ _ _ _ rfl ?_
  refine AtL.nil ?_
  refine AtE.then_n (AtE.go ?_)
  refine AtC.block ?_
  refine AtC.loopM (fun (s0 : Int) => [(7, Value.int .i64 s0)]) (fun (s0 : Int) => []) [5, 6] [7, 5, 6] [] [] H (by exact rfl) (by exact rfl) (by exact rfl) (by decide) (by exact rfl) (fun Kp1 s0 h0 H Q1 HK1 => ?_)
  refine AtC.seqR ?_
  refine AtL.pures hT 1 _ _ _ _ rfl ?_
  refine AtL.nil ?_
  refine AtE.then_n (AtE.go ?_)
  refine AtC.seq ?_
  refine AtC.condB H rfl (fun H => ?_) (fun H => ?_)
  ·
   refine AtC.skip ?_
   refine AtE.then_n (AtE.go ?_)
   refine AtC.seq ?_
   refine AtC.block ?_
   refine AtC.seqR ?_
   obtain ⟨a_, hc1, hd1, H⟩ := H
   refine AtL.q rfl (Quiet1.idxS (s := _) hT rfl rfl rfl rfl rfl hc1 hd1) ?_
   obtain ⟨v, hc2, H⟩ := H
   refine AtL.q rfl (Quiet1.loadS hT rfl rfl rfl rfl hc2) ?_
   refine AtL.e rfl (EffX.allocP (cs := [_, _, _]) hT rfl rfl H) ?_
   rintro _ _ ⟨b, _, rfl, rfl, _, H⟩
   replace H := H.self
   refine AtL.e rfl (EffX.storeSP (i := 0) (qv := [(_, [_, _, _])]) hT rfl rfl rfl rfl rfl rfl rfl rfl rfl rfl) ?_
   rintro _ _ rfl
   refine AtL.nil ?_
   refine AtE.then_n (AtE.go ?_)
   refine AtC.joinSeq (β := Unit) (fun (t0 : Bool) (bb : Unit) => [(21, Value.bool t0)]) (fun (t0 : Bool) (bb : Unit) => []) [5, 6, 7] [] H (by exact rfl) (by exact rfl) (fun t0 bb h0u2 H => ?_) (fun J4 H HK4 => ?_)
   ·
    refine AtC.condB H rfl (fun H => ?_) (fun H => ?_)
    ·
     refine AtC.seqR ?_
     refine AtL.pures hT 1 _ _ _ _ rfl ?_
     refine AtL.nil ?_
     refine AtE.then_n (AtE.go ?_)
     refine AtC.ret ?_
     refine AtE.blk_r ?_
     refine AtE.then_r ?_
     refine AtE.then_r ?_
     refine AtE.blk_r ?_
     refine AtE.then_r ?_
     exact AtE.retN (rs := [.tmp 2]) rfl (ResAll.cons (ResAt.tmp rfl) ResAll.nil) rfl H
    ·
     refine AtC.skip ?_
     refine AtE.blk_n ?_
     refine AtE.then_n (AtE.go ?_)
     refine AtC.region ?_
     refine AtL.pures hT 2 _ _ _ _ rfl ?_
     refine AtL.nil ?_
     exact AtE.then_n ((HK1 _ _ H).pickP (ts := [7, 5, 6]) (is := []) rfl rfl (by decide) rfl)
   ·
    refine AtC.region ?_
    refine AtL.pures hT 2 _ _ _ _ rfl ?_
    refine AtL.q rfl (Quiet1.loadP (i := 0) hT rfl rfl rfl rfl rfl rfl) ?_
    refine AtL.pures hT 3 _ _ _ _ rfl ?_
    refine AtL.splitB (t := 16) H rfl (fun H => ?_) (fun H => ?_)
    ·
     refine AtL.noF rfl rfl rfl (by decide) rfl ?_
     refine AtL.noF rfl rfl rfl (by decide) rfl ?_
     refine AtL.noF rfl rfl rfl (by decide) rfl ?_
     refine AtL.noF rfl rfl rfl (by decide) rfl ?_
     refine AtL.pures hT 1 _ _ _ _ rfl ?_
     refine AtL.nil ?_
     exact AtE.then_n ((HK4 _ () _ H).pickP (ts := [21, 5, 6, 7]) (is := []) rfl rfl (by decide) rfl)
    ·
     refine AtL.yes rfl rfl rfl ?_
     refine AtL.pures hT 1 _ _ _ _ rfl ?_
     refine AtL.yes rfl rfl rfl ?_
     refine AtL.q rfl (Quiet1.loadP (i := 0) hT rfl rfl rfl rfl rfl rfl) ?_
     refine AtL.yes rfl rfl rfl ?_
     refine AtL.pures hT 1 _ _ _ _ rfl ?_
     refine AtL.yes rfl rfl rfl ?_
     refine AtL.pures hT 1 _ _ _ _ rfl ?_
     refine AtL.pures hT 1 _ _ _ _ rfl ?_
     refine AtL.nil ?_
     exact AtE.then_n ((HK4 _ () _ H).pickP (ts := [21, 5, 6, 7]) (is := []) rfl rfl (by decide) rfl)
  ·
   refine AtC.exit ?_
   refine AtE.then_x ?_
   refine AtE.then_x ?_
   refine AtE.blk_hit ?_
   refine AtE.then_n (AtE.go ?_)
   refine AtC.seqR ?_
   refine AtL.pures hT 1 _ _ _ _ rfl ?_
   refine AtL.nil ?_
   refine AtE.then_n (AtE.go ?_)
   refine AtC.ret ?_
   exact AtE.retN (rs := [.tmp 2]) rfl (ResAll.cons (ResAt.tmp rfl) ResAll.nil) rfl H

theorem lift_ref01uCut (x0 : Sl) (w : World) (m : Heap) (hr : Rel ⟨m, []⟩ w.heap) (S : Sl → Heap → Prop) (H : ref01uCut x0 m S) :
    Calls Tryd.prog 105 #[Sl.toV x0] w (Post ⟨w, m⟩ Sl.toV S) := by
  refine Calls.lift (args := [Sl.toV x0]) Tryd.func105 rfl Tryd.ntmps105 (Nat.le_of_ble_eq_true rfl) hr (ref01uCut x0 m S) H (fun H => ?_)
  refine AtC.pick (ts := [0]) rfl ?_
  unfold ref01uCut at H
  refine AtC.seqR ?_
  refine AtL.pures hT 1 _ _ _ _ rfl ?_
  refine AtL.nil ?_
  refine AtE.then_n (AtE.go ?_)
  refine AtC.seqR ?_
  refine AtL.pures hT 3 _ _ _ _ rfl ?_
  replace H := H _ rfl
  refine AtL.nil ?_
  refine AtE.then_n (AtE.go ?_)
  refine AtC.seq ?_
  refine AtC.block ?_
  refine AtC.loopM (fun (s0 : Int) => [(3, Value.int .i64 s0)]) (fun (s0 : Int) => []) [0] [3, 0] [] [] H (by exact rfl) (by exact rfl) (by exact rfl) (by decide) (by exact rfl) (fun Kp1 s0 h0 H Q1 HK1 => ?_)
  refine AtC.seq ?_
  refine AtC.joinSeq (β := Unit) (fun (t0 : Bool) (bb : Unit) => [(15, Value.bool t0)]) (fun (t0 : Bool) (bb : Unit) => []) [0, 3] [] H (by exact rfl) (by exact rfl) (fun t0 bb h0u1 H => ?_) (fun J2 H HK2 => ?_)
  ·
   refine AtC.condB H rfl (fun H => ?_) (fun H => ?_)
   ·
    refine AtC.skip ?_
    refine AtE.then_n (AtE.go ?_)
    refine AtC.block ?_
    refine AtC.region ?_
    refine AtL.pures hT 3 _ _ _ _ rfl ?_
    replace H := H _ rfl
    refine AtL.nil ?_
    refine AtE.blk_n ?_
    exact AtE.then_n ((HK1 _ _ H).pickP (ts := [3, 0]) (is := []) rfl rfl (by decide) rfl)
   ·
    refine AtC.exit ?_
    refine AtE.then_x ?_
    refine AtE.then_x ?_
    refine AtE.blk_hit ?_
    refine AtE.then_n (AtE.go ?_)
    refine AtC.seqR ?_
    refine AtL.pures hT 2 _ _ _ _ rfl ?_
    refine AtL.sl (hT := hT) H rfl rfl rfl rfl rfl rfl rfl (fun h => by cases h <;> rfl) rfl (fun v_1 H => ?_)
    refine AtL.pures hT 1 _ _ _ _ rfl ?_
    refine AtL.nil ?_
    refine AtE.then_n (AtE.go ?_)
    refine AtC.ret ?_
    exact AtE.retN (rs := [.tmp 2]) rfl (ResAll.cons (ResAt.tmp rfl) ResAll.nil) rfl H
  ·
   refine AtC.region ?_
   refine AtL.pures hT 3 _ _ _ _ rfl ?_
   refine AtL.splitB (t := 8) H rfl (fun H => ?_) (fun H => ?_)
   ·
    refine AtL.yes rfl rfl rfl ?_
    refine AtL.pures hT 1 _ _ _ _ rfl ?_
    refine AtL.yes rfl rfl rfl ?_
    refine AtL.pures hT 1 _ _ _ _ rfl ?_
    refine AtL.yes rfl rfl rfl ?_
    refine AtL.pures hT 1 _ _ _ _ rfl ?_
    refine AtL.yes rfl rfl rfl ?_
    obtain ⟨a_, hc2, hd2, H⟩ := H
    refine AtL.q rfl (Quiet1.idxS (s := _) hT rfl rfl rfl rfl rfl hc2 hd2) ?_
    refine AtL.yes rfl rfl rfl ?_
    obtain ⟨v, hc3, H⟩ := H
    refine AtL.q rfl (Quiet1.load hT rfl rfl rfl hc3) ?_
    refine AtL.yes rfl rfl rfl ?_
    refine AtL.pures hT 1 _ _ _ _ rfl ?_
    refine AtL.pures hT 1 _ _ _ _ rfl ?_
    refine AtL.nil ?_
    exact AtE.then_n ((HK2 _ () _ H).pickP (ts := [15, 0, 3]) (is := []) rfl rfl (by decide) rfl)
   ·
    refine AtL.noF rfl rfl rfl (by decide) rfl ?_
    refine AtL.noF rfl rfl rfl (by decide) rfl ?_
    refine AtL.noF rfl rfl rfl (by decide) rfl ?_
    refine AtL.noF rfl rfl rfl (by decide) rfl ?_
    refine AtL.noF rfl rfl rfl (by decide) rfl ?_
    refine AtL.noF rfl rfl rfl (by decide) rfl ?_
    refine AtL.pures hT 1 _ _ _ _ rfl ?_
    refine AtL.nil ?_
    exact AtE.then_n ((HK2 _ () _ H).pickP (ts := [15, 0, 3]) (is := []) rfl rfl (by decide) rfl)

theorem lift_ref01uOf (x0 : Sl) (w : World) (m : Heap) (hr : Rel ⟨m, []⟩ w.heap) (S : Sl → Heap → Prop) (H : ref01uOf x0 m S) :
    Calls Tryd.prog 94 #[Sl.toV x0] w (Post ⟨w, m⟩ Sl.toV S) := by
  refine Calls.lift (args := [Sl.toV x0]) Tryd.func94 rfl Tryd.ntmps94 (Nat.le_of_ble_eq_true rfl) hr (ref01uOf x0 m S) H (fun H => ?_)
  refine AtC.pick (ts := [0]) rfl ?_
  unfold ref01uOf at H
  refine AtC.seqR ?_
  refine AtL.pures hT 1 _ _ _ _ rfl ?_
  refine AtL.nil ?_
  refine AtE.then_n (AtE.go ?_)
  refine AtC.seqR ?_
  refine AtLX.bs (hT := hT) (cs := []) H rfl rfl rfl rfl rfl rfl rfl rfl rfl (fun a h0 H => ?_)
  refine AtL.pures hT 1 _ _ _ _ rfl ?_
  replace H := H _ rfl
  refine AtL.nil ?_
  refine AtE.then_n (AtE.go ?_)
  refine AtC.seq ?_
  refine AtC.seqR ?_
  refine AtL.pures hT 4 _ _ _ _ rfl ?_
  replace H := H _ rfl
  refine AtL.nil ?_
  refine AtE.then_n (AtE.go ?_)
  refine AtC.block ?_
  refine AtC.loopM (fun (s0 : Sl × Int) => [(3, Sl.toV s0.1), (4, Value.int .i64 s0.2)]) (fun (s0 : Sl × Int) => []) [0] [3, 4, 0] [] [] H (by exact rfl) (by exact rfl) (by exact rfl) (by decide) (by exact rfl) (fun Kp1 s0 h0u1 H Q1 HK1 => ?_)
  refine AtC.seq ?_
  refine AtC.seqR ?_
  refine AtL.pures hT 2 _ _ _ _ rfl ?_
  refine AtL.nil ?_
  refine AtE.then_n (AtE.go ?_)
  refine AtC.condB H rfl (fun H => ?_) (fun H => ?_)
  ·
   refine AtC.skip ?_
   refine AtE.then_n (AtE.go ?_)
   refine AtC.seq ?_
   refine AtC.block ?_
   refine AtC.seqR ?_
   refine AtL.pures hT 2 _ _ _ _ rfl ?_
   obtain ⟨a_1_, hc1, hd1, H⟩ := H
   refine AtL.q rfl (Quiet1.idxS (s := _) hT rfl rfl rfl rfl rfl hc1 hd1) ?_
   obtain ⟨v_1, hc2, H⟩ := H
   refine AtL.q rfl (Quiet1.load hT rfl rfl rfl hc2) ?_
   refine AtL.pures hT 2 _ _ _ _ rfl ?_
   replace H := H _ rfl
   refine AtL.nil ?_
   refine AtE.then_n (AtE.go ?_)
   refine AtC.seq ?_
   refine AtC.seqR ?_
   refine AtL.pures hT 1 _ _ _ _ rfl ?_
   refine AtL.nil ?_
   refine AtE.then_n (AtE.go ?_)
   refine AtC.block ?_
   refine AtC.loopM (fun (s0u1 : Int × Int) => [(5, Value.int .i64 s0u1.1), (6, Value.int .i64 s0u1.2)]) (fun (s0u1 : Int × Int) => []) [0, 3, 4] [5, 6, 0, 3, 4] [] [] H (by exact rfl) (by exact rfl) (by exact rfl) (by decide) (by exact rfl) (fun Kp4 s0u1 h0u2 H Q4 HK4 => ?_)
   refine AtC.seq ?_
   refine AtC.seqR ?_
   refine AtL.pures hT 4 _ _ _ _ rfl ?_
   refine AtL.nil ?_
   refine AtE.then_n (AtE.go ?_)
   refine AtC.condB H rfl (fun H => ?_) (fun H => ?_)
   ·
    refine AtC.skip ?_
    refine AtE.then_n (AtE.go ?_)
    refine AtC.seq ?_
    refine AtC.block ?_
    refine AtC.seqR ?_
    refine AtL.pures hT 2 _ _ _ _ rfl ?_
    obtain ⟨a_2_, hc4, hd4, H⟩ := H
    refine AtL.q rfl (Quiet1.idxS (s := _) hT rfl rfl rfl rfl rfl hc4 hd4) ?_
    obtain ⟨v_2, hc5, H⟩ := H
    refine AtL.q rfl (Quiet1.load hT rfl rfl rfl hc5) ?_
    refine AtL.pures hT 4 _ _ _ _ rfl ?_
    replace H := H _ rfl
    refine AtL.nil ?_
    refine AtE.then_n (AtE.go ?_)
    refine AtC.seqR ?_
    refine AtL.pures hT 4 _ _ _ _ rfl ?_
    obtain ⟨a_3_, hc6, hd6, H⟩ := H
    refine AtL.q rfl (Quiet1.idxS (s := _) hT rfl rfl rfl rfl rfl hc6 hd6) ?_
    refine AtL.e rfl (EffX.store hT rfl rfl rfl rfl rfl H) ?_
    rintro _ _ ⟨h0u3, rfl, H⟩
    refine AtL.nil ?_
    refine AtE.then_n (AtE.go ?_)
    refine AtC.region ?_
    refine AtL.pures hT 3 _ _ _ _ rfl ?_
    replace H := H _ rfl
    refine AtL.nil ?_
    refine AtE.blk_n ?_
    refine AtE.then_n (AtE.go ?_)
    refine AtC.region ?_
    refine AtL.pures hT 3 _ _ _ _ rfl ?_
    replace H := H _ rfl
    refine AtL.nil ?_
    exact AtE.then_n ((HK4 _ _ H).pickP (ts := [5, 6, 0, 3, 4]) (is := []) rfl rfl (by decide) rfl)
   ·
    refine AtC.exit ?_
    refine AtE.then_x ?_
    refine AtE.then_x ?_
    refine AtE.blk_hit ?_
    refine AtE.then_n (AtE.go ?_)
    refine AtC.block ?_
    refine AtC.loopM (fun (s0u2 : Sl × Int) => [(3, Sl.toV s0u2.1), (5, Value.int .i64 s0u2.2)]) (fun (s0u2 : Sl × Int) => []) [0, 4] [3, 5, 0, 4] [] [] H (by exact rfl) (by exact rfl) (by exact rfl) (by decide) (by exact rfl) (fun Kp8 s0u2 h0u4 H Q8 HK8 => ?_)
    refine AtC.seq ?_
    refine AtC.seqR ?_
    refine AtL.pures hT 2 _ _ _ _ rfl ?_
    refine AtL.nil ?_
    refine AtE.then_n (AtE.go ?_)
    refine AtC.condB H rfl (fun H => ?_) (fun H => ?_)
    ·
     refine AtC.skip ?_
     refine AtE.then_n (AtE.go ?_)
     refine AtC.block ?_
     refine AtC.seqR ?_
     refine AtL.pures hT 3 _ _ _ _ rfl ?_
     refine AtLX.bs (hT := hT) (cs := [_]) H rfl rfl rfl rfl rfl rfl rfl rfl rfl (fun a_4 h0u5 H => ?_)
     refine AtL.e rfl (EffX.appendS (s := _) (u := _) hT rfl rfl rfl rfl rfl rfl rfl rfl rfl rfl (by decide) H) ?_
     rintro _ _ ⟨v_4, h0u6, rfl, rfl, H⟩
     refine AtL.pures hT 1 _ _ _ _ rfl ?_
     refine AtL.nil ?_
     refine AtE.then_n (AtE.go ?_)
     refine AtC.region ?_
     refine AtL.pures hT 3 _ _ _ _ rfl ?_
     replace H := H _ rfl
     refine AtL.nil ?_
     refine AtE.blk_n ?_
     exact AtE.then_n ((HK8 _ _ H).pickP (ts := [3, 5, 0, 4]) (is := []) rfl rfl (by decide) rfl)
    ·
     refine AtC.exit ?_
     refine AtE.then_x ?_
     refine AtE.then_x ?_
     refine AtE.blk_hit ?_
     refine AtE.blk_n ?_
     refine AtE.then_n (AtE.go ?_)
     refine AtC.region ?_
     refine AtL.pures hT 3 _ _ _ _ rfl ?_
     replace H := H _ rfl
     refine AtL.nil ?_
     exact AtE.then_n ((HK1 _ _ H).pickP (ts := [3, 4, 0]) (is := []) rfl rfl (by decide) rfl)
  ·
   refine AtC.exit ?_
   refine AtE.then_x ?_
   refine AtE.then_x ?_
   refine AtE.blk_hit ?_
   refine AtE.then_n (AtE.go ?_)
   refine AtC.seqR ?_
   refine AtL.pures hT 1 _ _ _ _ rfl ?_
   refine AtL.e rfl (EffX.call (f := 105) (sh := fun h => ref01uCut _ h _) (H0 := H) rfl Tryd.call105 rfl (hl := fun w m hr hw => lift_ref01uCut _ w m hr _ hw)) ?_
   rintro _ _ ⟨v_5, h0u7, rfl, rfl, H⟩
   refine AtL.pures hT 1 _ _ _ _ rfl ?_
   refine AtL.nil ?_
   refine AtE.then_n (AtE.go ?_)
   refine AtC.ret ?_
   exact AtE.retN (rs := [.tmp 2]) rfl (ResAll.cons (ResAt.tmp rfl) ResAll.nil) rfl H

theorem lift_ref02uOf (x0 : Bool × Sl × Sl) (w : World) (m : Heap) (hr : Rel ⟨m, []⟩ w.heap) (S : (Bool × Sl × Sl) → Heap → Prop) (H : ref02uOf x0 m S) :
    Calls Tryd.prog 85 #[Value.agg (C_bool_sl_sl x0).toArray] w (Post ⟨w, m⟩ (fun r => Value.agg (C_bool_sl_sl r).toArray) S) := by
  refine Calls.lift (args := [Value.agg (C_bool_sl_sl x0).toArray]) Tryd.func85 rfl Tryd.ntmps85 (Nat.le_of_ble_eq_true rfl) hr (ref02uOf x0 m S) H (fun H => ?_)
  refine AtC.pick (ts := [0]) rfl ?_
  unfold ref02uOf at H
  refine AtC.seqR ?_
  refine AtL.e rfl (EffX.boxP (cs := [_, _, _]) rfl rfl rfl H) ?_
  rintro _ _ ⟨b, _, rfl, rfl, _, H⟩
  refine AtL.e rfl (EffX.allocP (cs := [_, _, _]) hT rfl rfl H) ?_
  rintro _ _ ⟨b_1, _, rfl, rfl, _, H⟩
  refine AtL.nil ?_
  replace H := H.self
  refine AtE.then_n (AtE.go ?_)
  refine AtC.joinSeq (β := Nat) (fun (t0 : Bool × Sl × Sl) (bb : Nat) => [(3, Value.pointer (some ⟨bb, 0, none⟩))]) (fun (t0 : Bool × Sl × Sl) (bb : Nat) => [(bb, [Value.bool t0.1, Sl.toV t0.2.1, Sl.toV t0.2.2])]) [2] [0] H (by exact rfl) (by exact rfl) (fun t0 bb h0u1 H => ?_) (fun J1 H HK1 => ?_)
  ·
   refine AtC.joinSeq (β := Unit) (fun (t0u1 : Bool × Sl × Sl) (bb_1 : Unit) => []) (fun (t0u1 : Bool × Sl × Sl) (bb_1 : Unit) => [(bb, [Value.bool t0u1.1, Sl.toV t0u1.2.1, Sl.toV t0u1.2.2])]) [2, 3] [1] H (by exact rfl) (by exact rfl) (fun t0u1 bb_1 h0u13 H => ?_) (fun J5 H HK5 => ?_)
   ·
    refine AtC.seqR ?_
    refine AtL.q rfl (Quiet1.loadSP (i := 0) (l := [_, _, _]) hT rfl rfl rfl rfl rfl rfl rfl rfl) ?_
    refine AtL.e rfl (EffX.storeSP (i := 1) (qv := [(_, [_, _, _]), (_, [_, _, _])]) hT rfl rfl rfl rfl rfl rfl rfl rfl rfl rfl) ?_
    rintro _ _ rfl
    refine AtL.nil ?_
    refine AtE.then_n (AtE.go ?_)
    refine AtC.ret ?_
    exact AtE.retN (rs := [.cell 2 128]) rfl (ResAll.cons (ResAt.cellSP (i := 1) (l := [_, _, _]) hT rfl rfl rfl rfl rfl rfl rfl) ResAll.nil) rfl H
   ·
    refine AtC.seqR ?_
    refine AtL.pures hT 1 _ _ _ _ rfl ?_
    refine AtL.q rfl (Quiet1.loadP (i := 0) hT rfl rfl rfl rfl rfl rfl) ?_
    refine AtL.pures hT 2 _ _ _ _ rfl ?_
    refine AtL.nil ?_
    refine AtE.then_n (AtE.go ?_)
    refine AtC.condB H rfl (fun H => ?_) (fun H => ?_)
    ·
     refine AtC.region ?_
     refine AtLX.bs (hT := hT) (cs := [_]) H rfl rfl rfl rfl rfl rfl rfl rfl rfl (fun a h0u14 H => ?_)
     refine AtL.pures hT 1 _ _ _ _ rfl ?_
     refine AtL.e rfl (EffX.storeP (i := 0) (qv := [(_, [_, _, _]), (_, [_, _, _])]) hT rfl rfl rfl rfl rfl rfl rfl rfl rfl) ?_
     rintro _ _ rfl
     refine AtL.nil ?_
     exact AtE.then_n ((HK5 _ () _ H).pickP (ts := [2, 3]) (is := [0, 1]) rfl rfl (by decide) rfl)
    ·
     refine AtC.skip ?_
     exact AtE.then_n ((HK5 _ () _ H).pickP (ts := [2, 3]) (is := [0, 1]) rfl rfl (by decide) rfl)
  ·
   apply AtC.stages [6, 9, 11, 12] [[], [], [], [], [], [], [], [], [], [6], [6, 9], [], [6, 9, 11]] [[], [0], [0, 1], [], [3], [3, 4], [3, 4, 5], [], [7], [3, 4, 5, 6, 7, 8], [0, 1, 2, 3, 4, 5, 6, 7, 8, 9], [], [0, 1, 2, 3, 4, 5, 6, 7, 8, 9, 10, 11]] hmix (by kernel_rfl) [(4, _), (5, _), (6, _), (7, _), (8, _), (9, _), (11, _), (12, _)] rfl 4 rfl
   refine Stg.go [0, 1, 2, 3, 4, 5, 7, 8] [6, 11] rfl rfl (QAll.cons (QOp.p hT rfl rfl rfl rfl rfl) (QAll.cons (QOp.p hT rfl rfl rfl rfl rfl) (QAll.cons (QOp.q rfl rfl (Quiet1.loadP (i := 1) hT rfl rfl rfl rfl rfl rfl) rfl rfl) (QAll.cons (QOp.p hT rfl rfl rfl rfl rfl) (QAll.cons (QOp.p hT rfl rfl rfl rfl rfl) (QAll.cons (QOp.q rfl rfl (Quiet1.loadP (i := 1) hT rfl rfl rfl rfl rfl rfl) rfl rfl) (QAll.cons (QOp.p hT rfl rfl rfl rfl rfl) (QAll.cons (QOp.q rfl rfl (Quiet1.loadP (i := 1) hT rfl rfl rfl rfl rfl rfl) rfl rfl) QAll.nil)))))))) ?_
   refine EAll.cons ?_ ?_
   ·
    replace H := H.self
    refine EOp.e rfl rfl rfl (EffX.call (f := 94) (sh := fun h => ref01uOf _ h _) (H0 := H) rfl Tryd.call94 rfl (hl := fun w m hr hw => lift_ref01uOf _ w m hr _ hw)) ?_
    rintro _ _ ⟨v, h0u3, rfl, rfl, H⟩
    apply Stg.next [(10, _)] rfl rfl
    refine Stg.go [0, 1, 2, 7, 8] [9, 11] rfl rfl (QAll.cons (QOp.p hT rfl rfl rfl rfl rfl) (QAll.cons (QOp.p hT rfl rfl rfl rfl rfl) (QAll.cons (QOp.q rfl rfl (Quiet1.loadP (i := 1) hT rfl rfl rfl rfl rfl rfl) rfl rfl) (QAll.cons (QOp.p hT rfl rfl rfl rfl rfl) (QAll.cons (QOp.q rfl rfl (Quiet1.loadP (i := 1) hT rfl rfl rfl rfl rfl rfl) rfl rfl) QAll.nil))))) ?_
    refine EAll.cons ?_ ?_
    ·
     replace H := H.self
     refine EOp.e rfl rfl rfl (EffX.call (f := 94) (sh := fun h => ref01uOf _ h _) (H0 := H) rfl Tryd.call94 rfl (hl := fun w m hr hw => lift_ref01uOf _ w m hr _ hw)) ?_
     rintro _ _ ⟨v_1, h0u5, rfl, rfl, H⟩
     apply Stg.next [(13, _), (14, _)] rfl rfl
     refine Stg.go [0, 1, 2, 10] [11] rfl rfl (QAll.cons (QOp.p hT rfl rfl rfl rfl rfl) (QAll.cons (QOp.p hT rfl rfl rfl rfl rfl) (QAll.cons (QOp.q rfl rfl (Quiet1.loadP (i := 1) hT rfl rfl rfl rfl rfl rfl) rfl rfl) (QAll.cons (QOp.q rfl rfl (Quiet1.build (cs := [_, _, _]) hT rfl rfl rfl rfl rfl rfl) rfl rfl) QAll.nil)))) ?_
     refine EAll.cons ?_ EAll.nil
     refine EOp.e rfl rfl rfl (EffX.allocP (cs := [_, _, _]) hT rfl rfl H) ?_
     rintro _ _ ⟨b_2, _, rfl, rfl, he1, H⟩
     apply Stg.next [(3, _)] rfl rfl
     refine Stg.go [0, 1, 2, 10] [12] rfl rfl (QAll.cons (QOp.p hT rfl rfl rfl rfl rfl) (QAll.cons (QOp.p hT rfl rfl rfl rfl rfl) (QAll.cons (QOp.q rfl rfl (Quiet1.loadP (i := 2) hT rfl rfl rfl rfl rfl rfl) rfl rfl) (QAll.cons (QOp.q rfl rfl (Quiet1.build (cs := [_, _, _]) hT rfl rfl rfl rfl rfl rfl) rfl rfl) QAll.nil)))) ?_
     refine EAll.cons ?_ EAll.nil
     refine EOp.e rfl rfl rfl (EffX.storeSP (i := 0) (qv := [(_, [_, _, _]), (_, [_, _, _]), (_, [_, _, _])]) hT rfl rfl rfl rfl rfl rfl rfl rfl rfl rfl) ?_
     rintro _ _ rfl
     apply Stg.next [] rfl rfl
     refine Stg.fin [] rfl rfl QAll.nil ?_
     replace H := H.self
     exact AtE.then_n ((HK1 _ b_2 _ H).pickP (ts := [3, 2]) (is := [0, 1]) rfl rfl (by decide) rfl)
    refine EAll.cons ?_ EAll.nil
    refine EOp.e rfl rfl rfl (EffX.allocP (cs := [_, _, _]) hT rfl rfl H) ?_
    rintro _ _ ⟨b_3, _, rfl, rfl, he2, H⟩
    apply Stg.next [(3, _)] rfl rfl
    refine Stg.go [0, 1, 2, 7, 8] [9] rfl rfl (QAll.cons (QOp.p hT rfl rfl rfl rfl rfl) (QAll.cons (QOp.p hT rfl rfl rfl rfl rfl) (QAll.cons (QOp.q rfl rfl (Quiet1.loadP (i := 2) hT rfl rfl rfl rfl rfl rfl) rfl rfl) (QAll.cons (QOp.p hT rfl rfl rfl rfl rfl) (QAll.cons (QOp.q rfl rfl (Quiet1.loadP (i := 2) hT rfl rfl rfl rfl rfl rfl) rfl rfl) QAll.nil))))) ?_
    refine EAll.cons ?_ EAll.nil
    replace H := H.self
    refine EOp.e rfl rfl rfl (EffX.call (f := 94) (sh := fun h => ref01uOf _ h _) (H0 := H) rfl Tryd.call94 rfl (hl := fun w m hr hw => lift_ref01uOf _ w m hr _ hw)) ?_
    rintro _ _ ⟨v_2, h0u7, rfl, rfl, H⟩
    apply Stg.next [(13, _), (14, _)] rfl rfl
    refine Stg.go [0, 1, 2, 10] [12] rfl rfl (QAll.cons (QOp.p hT rfl rfl rfl rfl rfl) (QAll.cons (QOp.p hT rfl rfl rfl rfl rfl) (QAll.cons (QOp.q rfl rfl (Quiet1.loadP (i := 2) hT rfl rfl rfl rfl rfl rfl) rfl rfl) (QAll.cons (QOp.q rfl rfl (Quiet1.build (cs := [_, _, _]) hT rfl rfl rfl rfl rfl rfl) rfl rfl) QAll.nil)))) ?_
    refine EAll.cons ?_ EAll.nil
    refine EOp.e rfl rfl rfl (EffX.storeSP (i := 0) (qv := [(_, [_, _, _]), (_, [_, _, _]), (_, [_, _, _])]) hT rfl rfl rfl rfl rfl rfl rfl rfl rfl rfl) ?_
    rintro _ _ rfl
    apply Stg.next [] rfl rfl
    refine Stg.fin [] rfl rfl QAll.nil ?_
    replace H := H.self
    exact AtE.then_n ((HK1 _ b_3 _ H).pickP (ts := [3, 2]) (is := [0, 1]) rfl rfl (by decide) rfl)
   refine EAll.cons ?_ EAll.nil
   refine EOp.e rfl rfl rfl (EffX.allocP (cs := [_, _, _]) hT rfl rfl H) ?_
   rintro _ _ ⟨b_4, _, rfl, rfl, he3, H⟩
   apply Stg.next [(3, _)] rfl rfl
   refine Stg.go [0, 1, 2, 3, 4, 5, 7, 8] [6] rfl rfl (QAll.cons (QOp.p hT rfl rfl rfl rfl rfl) (QAll.cons (QOp.p hT rfl rfl rfl rfl rfl) (QAll.cons (QOp.q rfl rfl (Quiet1.loadP (i := 2) hT rfl rfl rfl rfl rfl rfl) rfl rfl) (QAll.cons (QOp.p hT rfl rfl rfl rfl rfl) (QAll.cons (QOp.p hT rfl rfl rfl rfl rfl) (QAll.cons (QOp.q rfl rfl (Quiet1.loadP (i := 2) hT rfl rfl rfl rfl rfl rfl) rfl rfl) (QAll.cons (QOp.p hT rfl rfl rfl rfl rfl) (QAll.cons (QOp.q rfl rfl (Quiet1.loadP (i := 2) hT rfl rfl rfl rfl rfl rfl) rfl rfl) QAll.nil)))))))) ?_
   refine EAll.cons ?_ EAll.nil
   replace H := H.self
   refine EOp.e rfl rfl rfl (EffX.call (f := 94) (sh := fun h => ref01uOf _ h _) (H0 := H) rfl Tryd.call94 rfl (hl := fun w m hr hw => lift_ref01uOf _ w m hr _ hw)) ?_
   rintro _ _ ⟨v_3, h0u9, rfl, rfl, H⟩
   apply Stg.next [(10, _)] rfl rfl
   refine Stg.go [0, 1, 2, 7, 8] [9] rfl rfl (QAll.cons (QOp.p hT rfl rfl rfl rfl rfl) (QAll.cons (QOp.p hT rfl rfl rfl rfl rfl) (QAll.cons (QOp.q rfl rfl (Quiet1.loadP (i := 2) hT rfl rfl rfl rfl rfl rfl) rfl rfl) (QAll.cons (QOp.p hT rfl rfl rfl rfl rfl) (QAll.cons (QOp.q rfl rfl (Quiet1.loadP (i := 2) hT rfl rfl rfl rfl rfl rfl) rfl rfl) QAll.nil))))) ?_
   refine EAll.cons ?_ EAll.nil
   replace H := H.self
   refine EOp.e rfl rfl rfl (EffX.call (f := 94) (sh := fun h => ref01uOf _ h _) (H0 := H) rfl Tryd.call94 rfl (hl := fun w m hr hw => lift_ref01uOf _ w m hr _ hw)) ?_
   rintro _ _ ⟨v_4, h0u11, rfl, rfl, H⟩
   apply Stg.next [(13, _), (14, _)] rfl rfl
   refine Stg.go [0, 1, 2, 10] [12] rfl rfl (QAll.cons (QOp.p hT rfl rfl rfl rfl rfl) (QAll.cons (QOp.p hT rfl rfl rfl rfl rfl) (QAll.cons (QOp.q rfl rfl (Quiet1.loadP (i := 2) hT rfl rfl rfl rfl rfl rfl) rfl rfl) (QAll.cons (QOp.q rfl rfl (Quiet1.build (cs := [_, _, _]) hT rfl rfl rfl rfl rfl rfl) rfl rfl) QAll.nil)))) ?_
   refine EAll.cons ?_ EAll.nil
   refine EOp.e rfl rfl rfl (EffX.storeSP (i := 0) (qv := [(_, [_, _, _]), (_, [_, _, _]), (_, [_, _, _])]) hT rfl rfl rfl rfl rfl rfl rfl rfl rfl rfl) ?_
   rintro _ _ rfl
   apply Stg.next [] rfl rfl
   refine Stg.fin [] rfl rfl QAll.nil ?_
   replace H := H.self
   exact AtE.then_n ((HK1 _ b_4 _ H).pickP (ts := [3, 2]) (is := [0, 1]) rfl rfl (by decide) rfl)

theorem lift_ref02uInt (n : Int) (w : World) (m : Heap) (hr : Rel ⟨m, []⟩ w.heap) (S : (Bool × Sl × Sl) → Heap → Prop) (H : ref02uInt n m S) :
    Calls Tryd.prog 102 #[Value.int .i64 n] w (Post ⟨w, m⟩ (fun r => Value.agg (C_bool_sl_sl r).toArray) S) := by
  refine Calls.lift (args := [Value.int .i64 n]) Tryd.func102 rfl Tryd.ntmps102 (Nat.le_of_ble_eq_true rfl) hr (ref02uInt n m S) H (fun H => ?_)
  refine AtC.pick (ts := [0]) rfl ?_
  unfold ref02uInt at H
  refine AtC.seqR ?_
  refine AtL.e rfl (EffX.allocP (cs := [_, _, _]) hT rfl rfl H) ?_
  rintro _ _ ⟨b, _, rfl, rfl, _, H⟩
  refine AtL.nil ?_
  replace H := H.self
  refine AtE.then_n (AtE.go ?_)
  refine AtC.seqR ?_
  refine AtL.pures hT 2 _ _ _ _ rfl ?_
  refine AtLX.bs (hT := hT) (cs := []) H rfl rfl rfl rfl rfl rfl rfl rfl rfl (fun a h0u1 H => ?_)
  refine AtLX.bs (hT := hT) (cs := [_]) H rfl rfl rfl rfl rfl rfl rfl rfl rfl (fun a_1 h0u2 H => ?_)
  refine AtL.q rfl (Quiet1.build (cs := [_, _, _]) hT rfl rfl rfl rfl rfl rfl) ?_
  refine AtL.e rfl (EffX.allocP (cs := [_, _, _]) hT rfl rfl H) ?_
  rintro _ _ ⟨b_1, _, rfl, rfl, _, H⟩
  replace H := H.self
  refine AtL.e rfl (EffX.storeSP (i := 0) (qv := [(_, [_, _, _]), (_, [_, _, _])]) hT rfl rfl rfl rfl rfl rfl rfl rfl rfl rfl) ?_
  rintro _ _ rfl
  refine AtL.nil ?_
  refine AtE.then_n (AtE.go ?_)
  refine AtC.joinSeq (β := Unit) (fun (t0 : Int) (bb : Unit) => [(0, Value.int .i64 t0)]) (fun (t0 : Int) (bb : Unit) => []) [2, 3] [0, 1] H (by exact rfl) (by exact rfl) (fun t0 bb h0u4 H => ?_) (fun J1 H HK1 => ?_)
  ·
   refine AtC.seq ?_
   refine AtC.block ?_
   refine AtC.loopM (fun (s0 : Int × Bool × Sl × Sl) => [(0, Value.int .i64 s0.1)]) (fun (s0 : Int × Bool × Sl × Sl) => [(b_1, [Value.bool s0.2.1, Sl.toV s0.2.2.1, Sl.toV s0.2.2.2])]) [2, 3] [0, 2, 3] [1] [0, 1] H (by exact rfl) (by exact rfl) (by exact rfl) (by decide) (by exact rfl) (fun Kp2 s0 h0u5 H Q2 HK2 => ?_)
   refine AtC.seq ?_
   refine AtC.seqR ?_
   refine AtL.pures hT 2 _ _ _ _ rfl ?_
   refine AtL.nil ?_
   refine AtE.then_n (AtE.go ?_)
   refine AtC.condB H rfl (fun H => ?_) (fun H => ?_)
   ·
    refine AtC.skip ?_
    refine AtE.then_n (AtE.go ?_)
    refine AtC.block ?_
    refine AtC.seqR ?_
    refine AtL.pures hT 1 _ _ _ _ rfl ?_
    refine AtL.q rfl (Quiet1.loadP (i := 0) hT rfl rfl rfl rfl rfl rfl) ?_
    refine AtL.pures hT 2 _ _ _ _ rfl ?_
    refine AtLX.bs (hT := hT) (cs := [_]) H rfl rfl rfl rfl rfl rfl rfl rfl rfl (fun a_2 h0u6 H => ?_)
    refine AtL.e rfl (EffX.appendS (s := _) (u := _) hT rfl rfl rfl rfl rfl rfl rfl rfl rfl rfl (by decide) H) ?_
    rintro _ _ ⟨v_3, h0u7, rfl, rfl, H⟩
    refine AtL.pures hT 1 _ _ _ _ rfl ?_
    refine AtL.e rfl (EffX.storeP (i := 0) (qv := [(_, [_, _, _]), (_, [_, _, _])]) hT rfl rfl rfl rfl rfl rfl rfl rfl rfl) ?_
    rintro _ _ rfl
    refine AtL.nil ?_
    refine AtE.then_n (AtE.go ?_)
    refine AtC.region ?_
    refine AtL.pures hT 3 _ _ _ _ rfl ?_
    replace H := H _ rfl
    refine AtL.nil ?_
    refine AtE.blk_n ?_
    exact AtE.then_n ((HK2 _ _ H).pickP (ts := [0, 2, 3]) (is := [0, 1]) rfl rfl (by decide) rfl)
   ·
    refine AtC.exit ?_
    refine AtE.then_x ?_
    refine AtE.then_x ?_
    refine AtE.blk_hit ?_
    refine AtE.then_n (AtE.go ?_)
    refine AtC.seqR ?_
    refine AtL.q rfl (Quiet1.loadSP (i := 0) (l := [_, _, _]) hT rfl rfl rfl rfl rfl rfl rfl rfl) ?_
    refine AtL.e rfl (EffX.storeSP (i := 1) (qv := [(_, [_, _, _]), (_, [_, _, _])]) hT rfl rfl rfl rfl rfl rfl rfl rfl rfl rfl) ?_
    rintro _ _ rfl
    refine AtL.nil ?_
    refine AtE.then_n (AtE.go ?_)
    refine AtC.ret ?_
    exact AtE.retN (rs := [.cell 2 128]) rfl (ResAll.cons (ResAt.cellSP (i := 1) (l := [_, _, _]) hT rfl rfl rfl rfl rfl rfl rfl) ResAll.nil) rfl H
  ·
   refine AtC.seqR ?_
   refine AtL.pures hT 2 _ _ _ _ rfl ?_
   refine AtL.nil ?_
   refine AtE.then_n (AtE.go ?_)
   refine AtC.condB H rfl (fun H => ?_) (fun H => ?_)
   ·
    refine AtC.region ?_
    refine AtL.pures hT 3 _ _ _ _ rfl ?_
    replace H := H _ rfl
    refine AtL.nil ?_
    exact AtE.then_n ((HK1 _ () _ H).pickP (ts := [0, 2, 3]) (is := [0, 1]) rfl rfl (by decide) rfl)
   ·
    refine AtC.skip ?_
    exact AtE.then_n ((HK1 _ () _ H).pickP (ts := [0, 2, 3]) (is := [0, 1]) rfl rfl (by decide) rfl)

theorem lift_ref01uCmp (x0 : Sl) (y : Sl) (w : World) (m : Heap) (hr : Rel ⟨m, []⟩ w.heap) (S : Int → Heap → Prop) (H : ref01uCmp x0 y m S) :
    Calls Tryd.prog 109 #[Sl.toV x0, Sl.toV y] w (Post ⟨w, m⟩ (Value.int .i64) S) := by
  refine Calls.lift (args := [Sl.toV x0, Sl.toV y]) Tryd.func109 rfl Tryd.ntmps109 (Nat.le_of_ble_eq_true rfl) hr (ref01uCmp x0 y m S) H (fun H => ?_)
  refine AtC.pick (ts := [0, 1]) rfl ?_
  unfold ref01uCmp at H
  refine AtC.seqR ?_
  refine AtL.pures hT 1 _ _ _ _ rfl ?_
  refine AtL.nil ?_
  refine AtE.then_n (AtE.go ?_)
  refine AtC.seq ?_
  refine AtC.seqR ?_
  refine AtL.pures hT 5 _ _ _ _ rfl ?_
  refine AtL.nil ?_
  refine AtE.then_n (AtE.go ?_)
  refine AtC.condB H rfl (fun H => ?_) (fun H => ?_)
  ·
   refine AtC.seq ?_
   refine AtC.seqR ?_
   refine AtL.pures hT 5 _ _ _ _ rfl ?_
   refine AtL.nil ?_
   refine AtE.then_n (AtE.go ?_)
   refine AtC.condB H rfl (fun H => ?_) (fun H => ?_)
   ·
    refine AtC.seqR ?_
    refine AtL.pures hT 1 _ _ _ _ rfl ?_
    refine AtL.nil ?_
    refine AtE.then_n (AtE.go ?_)
    refine AtC.ret ?_
    refine AtE.then_r ?_
    refine AtE.then_r ?_
    exact AtE.retN (rs := [.tmp 4]) rfl (ResAll.cons (ResAt.tmp rfl) ResAll.nil) rfl H
   ·
    refine AtC.skip ?_
    refine AtE.then_n (AtE.go ?_)
    refine AtC.seqR ?_
    refine AtL.pures hT 1 _ _ _ _ rfl ?_
    refine AtL.nil ?_
    refine AtE.then_n (AtE.go ?_)
    refine AtC.ret ?_
    refine AtE.then_r ?_
    exact AtE.retN (rs := [.tmp 4]) rfl (ResAll.cons (ResAt.tmp rfl) ResAll.nil) rfl H
  ·
   refine AtC.skip ?_
   refine AtE.then_n (AtE.go ?_)
   refine AtC.seq ?_
   refine AtC.seqR ?_
   refine AtL.pures hT 4 _ _ _ _ rfl ?_
   replace H := H _ rfl
   refine AtL.nil ?_
   refine AtE.then_n (AtE.go ?_)
   refine AtC.block ?_
   refine AtC.loopM (fun (s0 : Int) => [(5, Value.int .i64 s0)]) (fun (s0 : Int) => []) [0, 1] [5, 0, 1] [] [] H (by exact rfl) (by exact rfl) (by exact rfl) (by decide) (by exact rfl) (fun Kp1 s0 h0 H Q1 HK1 => ?_)
   refine AtC.seq ?_
   refine AtC.seqR ?_
   refine AtL.pures hT 2 _ _ _ _ rfl ?_
   refine AtL.nil ?_
   refine AtE.then_n (AtE.go ?_)
   refine AtC.condB H rfl (fun H => ?_) (fun H => ?_)
   ·
    refine AtC.skip ?_
    refine AtE.then_n (AtE.go ?_)
    refine AtC.seq ?_
    refine AtC.block ?_
    refine AtC.seq ?_
    refine AtC.seqD hmix (by kernel_rfl) ?_
    refine AtD.pures hT 2 _ _ _ _ rfl ?_
    obtain ⟨a_, hc1, hd1, H⟩ := H
    refine AtD.q rfl (Quiet1.idxS (s := _) hT rfl rfl rfl rfl rfl hc1 hd1) ?_
    obtain ⟨v, hc2, H⟩ := H
    refine AtD.q rfl (Quiet1.load hT rfl rfl rfl hc2) ?_
    refine AtD.pures hT 2 _ _ _ _ rfl ?_
    obtain ⟨a_1_, hc3, hd3, H⟩ := H
    refine AtD.q rfl (Quiet1.idxS (s := _) hT rfl rfl rfl rfl rfl hc3 hd3) ?_
    obtain ⟨v_1, hc4, H⟩ := H
    refine AtD.q rfl (Quiet1.load hT rfl rfl rfl hc4) ?_
    refine AtD.pures hT 1 _ _ _ _ rfl ?_
    refine AtD.nil ?_
    refine AtE.then_n (AtE.go ?_)
    refine AtC.condB H rfl (fun H => ?_) (fun H => ?_)
    ·
     refine AtC.seqR ?_
     refine AtL.pures hT 1 _ _ _ _ rfl ?_
     refine AtL.nil ?_
     refine AtE.then_n (AtE.go ?_)
     refine AtC.ret ?_
     refine AtE.then_r ?_
     refine AtE.blk_r ?_
     refine AtE.then_r ?_
     refine AtE.then_r ?_
     refine AtE.blk_r ?_
     refine AtE.then_r ?_
     exact AtE.retN (rs := [.tmp 4]) rfl (ResAll.cons (ResAt.tmp rfl) ResAll.nil) rfl H
    ·
     refine AtC.skip ?_
     refine AtE.then_n (AtE.go ?_)
     refine AtC.seqD hmix (by kernel_rfl) ?_
     refine AtD.pures hT 2 _ _ _ _ rfl ?_
     obtain ⟨a_2_, hc5, hd5, H⟩ := H
     refine AtD.q rfl (Quiet1.idxS (s := _) hT rfl rfl rfl rfl rfl hc5 hd5) ?_
     obtain ⟨v_2, hc6, H⟩ := H
     refine AtD.q rfl (Quiet1.load hT rfl rfl rfl hc6) ?_
     refine AtD.pures hT 2 _ _ _ _ rfl ?_
     obtain ⟨a_3_, hc7, hd7, H⟩ := H
     refine AtD.q rfl (Quiet1.idxS (s := _) hT rfl rfl rfl rfl rfl hc7 hd7) ?_
     obtain ⟨v_3, hc8, H⟩ := H
     refine AtD.q rfl (Quiet1.load hT rfl rfl rfl hc8) ?_
     refine AtD.pures hT 1 _ _ _ _ rfl ?_
     refine AtD.nil ?_
     refine AtE.then_n (AtE.go ?_)
     refine AtC.condB H rfl (fun H => ?_) (fun H => ?_)
     ·
      refine AtC.seqR ?_
      refine AtL.pures hT 1 _ _ _ _ rfl ?_
      refine AtL.nil ?_
      refine AtE.then_n (AtE.go ?_)
      refine AtC.ret ?_
      refine AtE.blk_r ?_
      refine AtE.then_r ?_
      refine AtE.then_r ?_
      refine AtE.blk_r ?_
      refine AtE.then_r ?_
      exact AtE.retN (rs := [.tmp 4]) rfl (ResAll.cons (ResAt.tmp rfl) ResAll.nil) rfl H
     ·
      refine AtC.skip ?_
      refine AtE.blk_n ?_
      refine AtE.then_n (AtE.go ?_)
      refine AtC.region ?_
      refine AtL.pures hT 3 _ _ _ _ rfl ?_
      replace H := H _ rfl
      refine AtL.nil ?_
      exact AtE.then_n ((HK1 _ _ H).pickP (ts := [5, 0, 1]) (is := []) rfl rfl (by decide) rfl)
   ·
    refine AtC.exit ?_
    refine AtE.then_x ?_
    refine AtE.then_x ?_
    refine AtE.blk_hit ?_
    refine AtE.then_n (AtE.go ?_)
    refine AtC.seqR ?_
    refine AtL.pures hT 1 _ _ _ _ rfl ?_
    refine AtL.nil ?_
    refine AtE.then_n (AtE.go ?_)
    refine AtC.ret ?_
    exact AtE.retN (rs := [.tmp 4]) rfl (ResAll.cons (ResAt.tmp rfl) ResAll.nil) rfl H

theorem lift_ref01uSub (x0 : Sl) (y : Sl) (w : World) (m : Heap) (hr : Rel ⟨m, []⟩ w.heap) (S : Sl → Heap → Prop) (H : ref01uSub x0 y m S) :
    Calls Tryd.prog 110 #[Sl.toV x0, Sl.toV y] w (Post ⟨w, m⟩ Sl.toV S) := by
  refine Calls.lift (args := [Sl.toV x0, Sl.toV y]) Tryd.func110 rfl Tryd.ntmps110 (Nat.le_of_ble_eq_true rfl) hr (ref01uSub x0 y m S) H (fun H => ?_)
  refine AtC.pick (ts := [0, 1]) rfl ?_
  unfold ref01uSub at H
  refine AtC.seqR ?_
  refine AtL.pures hT 1 _ _ _ _ rfl ?_
  refine AtL.nil ?_
  refine AtE.then_n (AtE.go ?_)
  refine AtC.seq ?_
  refine AtC.seqR ?_
  refine AtL.pures hT 2 _ _ _ _ rfl ?_
  refine AtL.e rfl (EffX.call (f := 109) (sh := fun h => ref01uCmp _ _ h _) (H0 := H) rfl Tryd.call109 rfl (hl := fun w m hr hw => lift_ref01uCmp _ _ w m hr _ hw)) ?_
  rintro _ _ ⟨v, h0, rfl, rfl, H⟩
  refine AtL.pures hT 1 _ _ _ _ rfl ?_
  refine AtL.nil ?_
  refine AtE.then_n (AtE.go ?_)
  refine AtC.condB H rfl (fun H => ?_) (fun H => ?_)
  ·
   refine AtC.seqR ?_
   refine AtLX.bs (hT := hT) (cs := []) H rfl rfl rfl rfl rfl rfl rfl rfl rfl (fun a h0u1 H => ?_)
   refine AtL.pures hT 1 _ _ _ _ rfl ?_
   refine AtL.nil ?_
   refine AtE.then_n (AtE.go ?_)
   refine AtC.ret ?_
   refine AtE.then_r ?_
   exact AtE.retN (rs := [.tmp 4]) rfl (ResAll.cons (ResAt.tmp rfl) ResAll.nil) rfl H
  ·
   refine AtC.skip ?_
   refine AtE.then_n (AtE.go ?_)
   refine AtC.seqR ?_
   refine AtLX.bs (hT := hT) (cs := []) H rfl rfl rfl rfl rfl rfl rfl rfl rfl (fun a_1 h0u2 H => ?_)
   refine AtL.pures hT 1 _ _ _ _ rfl ?_
   replace H := H _ rfl
   refine AtL.nil ?_
   refine AtE.then_n (AtE.go ?_)
   refine AtC.seqR ?_
   refine AtL.pures hT 1 _ _ _ _ rfl ?_
   refine AtL.nil ?_
   refine AtE.then_n (AtE.go ?_)
   refine AtC.seq ?_
   refine AtC.seqR ?_
   refine AtL.pures hT 1 _ _ _ _ rfl ?_
   refine AtL.nil ?_
   refine AtE.then_n (AtE.go ?_)
   refine AtC.block ?_
   refine AtC.loopM (fun (s0 : Sl × Int × Int) => [(5, Sl.toV s0.1), (6, Value.int .i64 s0.2.1), (7, Value.int .i64 s0.2.2)]) (fun (s0 : Sl × Int × Int) => []) [0, 1] [5, 6, 7, 0, 1] [] [] H (by exact rfl) (by exact rfl) (by exact rfl) (by decide) (by exact rfl) (fun Kp1 s0 h0u3 H Q1 HK1 => ?_)
   refine AtC.seq ?_
   refine AtC.seqR ?_
   refine AtL.pures hT 4 _ _ _ _ rfl ?_
   refine AtL.nil ?_
   refine AtE.then_n (AtE.go ?_)
   refine AtC.condB H rfl (fun H => ?_) (fun H => ?_)
   ·
    refine AtC.skip ?_
    refine AtE.then_n (AtE.go ?_)
    refine AtC.seq ?_
    refine AtC.block ?_
    refine AtC.seqR ?_
    refine AtL.pures hT 2 _ _ _ _ rfl ?_
    obtain ⟨a_2_, hc1, hd1, H⟩ := H
    refine AtL.q rfl (Quiet1.idxS (s := _) hT rfl rfl rfl rfl rfl hc1 hd1) ?_
    obtain ⟨v_3, hc2, H⟩ := H
    refine AtL.q rfl (Quiet1.load hT rfl rfl rfl hc2) ?_
    refine AtL.pures hT 3 _ _ _ _ rfl ?_
    replace H := H _ rfl
    refine AtL.nil ?_
    refine AtE.then_n (AtE.go ?_)
    refine AtC.joinSeq (β := Unit) (fun (t0 : Int) (bb : Unit) => [(8, Value.int .i64 t0)]) (fun (t0 : Int) (bb : Unit) => []) [0, 1, 5, 7] [] H (by exact rfl) (by exact rfl) (fun t0 bb h0u4 H => ?_) (fun J4 H HK4 => ?_)
    ·
     refine AtC.seqR ?_
     refine AtL.pures hT 1 _ _ _ _ rfl ?_
     refine AtL.nil ?_
     refine AtE.then_n (AtE.go ?_)
     refine AtC.joinSeq (β := Unit) (fun (t0u1 : Int × Int) (bb_1 : Unit) => [(6, Value.int .i64 t0u1.1), (8, Value.int .i64 t0u1.2)]) (fun (t0u1 : Int × Int) (bb_1 : Unit) => []) [0, 1, 5, 7] [] H (by exact rfl) (by exact rfl) (fun t0u1 bb_1 h0u5 H => ?_) (fun J7 H HK7 => ?_)
     ·
      refine AtC.region ?_
      refine AtL.pures hT 2 _ _ _ _ rfl ?_
      refine AtLX.bs (hT := hT) (cs := [_]) H rfl rfl rfl rfl rfl rfl rfl rfl rfl (fun a_4 h0u6 H => ?_)
      refine AtL.e rfl (EffX.appendS (s := _) (u := _) hT rfl rfl rfl rfl rfl rfl rfl rfl rfl rfl (by decide) H) ?_
      rintro _ _ ⟨v_6, h0u7, rfl, rfl, H⟩
      refine AtL.pures hT 1 _ _ _ _ rfl ?_
      refine AtL.nil ?_
      refine AtE.blk_n ?_
      refine AtE.then_n (AtE.go ?_)
      refine AtC.region ?_
      refine AtL.pures hT 3 _ _ _ _ rfl ?_
      replace H := H _ rfl
      refine AtL.nil ?_
      exact AtE.then_n ((HK1 _ _ H).pickP (ts := [5, 6, 7, 0, 1]) (is := []) rfl rfl (by decide) rfl)
     ·
      refine AtC.seqR ?_
      refine AtL.pures hT 2 _ _ _ _ rfl ?_
      refine AtL.nil ?_
      refine AtE.then_n (AtE.go ?_)
      refine AtC.condB H rfl (fun H => ?_) (fun H => ?_)
      ·
       refine AtC.seqR ?_
       refine AtL.pures hT 3 _ _ _ _ rfl ?_
       replace H := H _ rfl
       refine AtL.nil ?_
       refine AtE.then_n (AtE.go ?_)
       refine AtC.region ?_
       refine AtL.pures hT 1 _ _ _ _ rfl ?_
       refine AtL.nil ?_
       exact AtE.then_n ((HK7 _ () _ H).pickP (ts := [6, 8, 0, 1, 5, 7]) (is := []) rfl rfl (by decide) rfl)
      ·
       refine AtC.skip ?_
       exact AtE.then_n ((HK7 _ () _ H).pickP (ts := [6, 8, 0, 1, 5, 7]) (is := []) rfl rfl (by decide) rfl)
    ·
     refine AtC.seqR ?_
     refine AtL.pures hT 4 _ _ _ _ rfl ?_
     refine AtL.nil ?_
     refine AtE.then_n (AtE.go ?_)
     refine AtC.condB H rfl (fun H => ?_) (fun H => ?_)
     ·
      refine AtC.region ?_
      refine AtL.pures hT 3 _ _ _ _ rfl ?_
      obtain ⟨a_3_, hc4, hd4, H⟩ := H
      refine AtL.q rfl (Quiet1.idxS (s := _) hT rfl rfl rfl rfl rfl hc4 hd4) ?_
      obtain ⟨v_4, hc5, H⟩ := H
      refine AtL.q rfl (Quiet1.load hT rfl rfl rfl hc5) ?_
      refine AtL.pures hT 2 _ _ _ _ rfl ?_
      replace H := H _ rfl
      refine AtL.nil ?_
      exact AtE.then_n ((HK4 _ () _ H).pickP (ts := [8, 0, 1, 5, 7]) (is := []) rfl rfl (by decide) rfl)
     ·
      refine AtC.skip ?_
      exact AtE.then_n ((HK4 _ () _ H).pickP (ts := [8, 0, 1, 5, 7]) (is := []) rfl rfl (by decide) rfl)
   ·
    refine AtC.exit ?_
    refine AtE.then_x ?_
    refine AtE.then_x ?_
    refine AtE.blk_hit ?_
    refine AtE.then_n (AtE.go ?_)
    refine AtC.seqR ?_
    refine AtL.pures hT 1 _ _ _ _ rfl ?_
    refine AtL.e rfl (EffX.call (f := 105) (sh := fun h => ref01uCut _ h _) (H0 := H) rfl Tryd.call105 rfl (hl := fun w m hr hw => lift_ref01uCut _ w m hr _ hw)) ?_
    rintro _ _ ⟨v_7, h0u8, rfl, rfl, H⟩
    refine AtL.pures hT 1 _ _ _ _ rfl ?_
    refine AtL.nil ?_
    refine AtE.then_n (AtE.go ?_)
    refine AtC.ret ?_
    exact AtE.retN (rs := [.tmp 4]) rfl (ResAll.cons (ResAt.tmp rfl) ResAll.nil) rfl H

theorem lift_ref01uDiv (x0 : Sl) (y : Sl) (w : World) (m : Heap) (hr : Rel ⟨m, []⟩ w.heap) (S : (Sl × Sl) → Heap → Prop) (H : ref01uDiv x0 y m S) :
    Calls Tryd.prog 104 #[Sl.toV x0, Sl.toV y] w (Post ⟨w, m⟩ (fun r => Value.tuple #[Sl.toV r.1, Sl.toV r.2]) S) := by
  refine Calls.lift (args := [Sl.toV x0, Sl.toV y]) Tryd.func104 rfl Tryd.ntmps104 (Nat.le_of_ble_eq_true rfl) hr (ref01uDiv x0 y m S) H (fun H => ?_)
  refine AtC.pick (ts := [0, 1]) rfl ?_
  unfold ref01uDiv at H
  refine AtC.seqR ?_
  refine AtL.pures hT 2 _ _ _ _ rfl ?_
  refine AtL.nil ?_
  refine AtE.then_n (AtE.go ?_)
  refine AtC.seq ?_
  refine AtC.seqR ?_
  refine AtL.pures hT 3 _ _ _ _ rfl ?_
  refine AtL.nil ?_
  refine AtE.then_n (AtE.go ?_)
  refine AtC.condB H rfl (fun H => ?_) (fun H => ?_)
  ·
   refine AtC.seqR ?_
   refine AtLX.bs (hT := hT) (cs := []) H rfl rfl rfl rfl rfl rfl rfl rfl rfl (fun a h0 H => ?_)
   refine AtLX.bs (hT := hT) (cs := []) H rfl rfl rfl rfl rfl rfl rfl rfl rfl (fun a_1 h0u1 H => ?_)
   refine AtL.pures hT 2 _ _ _ _ rfl ?_
   refine AtL.nil ?_
   refine AtE.then_n (AtE.go ?_)
   refine AtC.ret ?_
   refine AtE.then_r ?_
   exact AtE.retN (rs := [.tmp 4, .tmp 5]) rfl (ResAll.cons (ResAt.tmp rfl) (ResAll.cons (ResAt.tmp rfl) ResAll.nil)) rfl H
  ·
   refine AtC.skip ?_
   refine AtE.then_n (AtE.go ?_)
   refine AtC.seqR ?_
   refine AtL.pures hT 2 _ _ _ _ rfl ?_
   replace H := H _ rfl
   refine AtL.e rfl (EffX.mkS hT rfl rfl rfl rfl rfl rfl rfl rfl (by decide) H) ?_
   rintro _ _ ⟨v_2, h0u2, rfl, rfl, H⟩
   refine AtL.pures hT 1 _ _ _ _ rfl ?_
   refine AtL.nil ?_
   refine AtE.then_n (AtE.go ?_)
   refine AtC.seqR ?_
   refine AtLX.bs (hT := hT) (cs := []) H rfl rfl rfl rfl rfl rfl rfl rfl rfl (fun a_2 h0u3 H => ?_)
   refine AtL.pures hT 1 _ _ _ _ rfl ?_
   replace H := H _ rfl
   refine AtL.nil ?_
   refine AtE.then_n (AtE.go ?_)
   refine AtC.seq ?_
   refine AtC.seqR ?_
   refine AtL.pures hT 4 _ _ _ _ rfl ?_
   replace H := H _ rfl
   refine AtL.nil ?_
   refine AtE.then_n (AtE.go ?_)
   refine AtC.block ?_
   refine AtC.loopM (fun (s0 : Sl × Int) => [(7, Sl.toV s0.1), (8, Value.int .i64 s0.2)]) (fun (s0 : Sl × Int) => []) [0, 1, 6] [7, 8, 0, 1, 6] [] [] H (by exact rfl) (by exact rfl) (by exact rfl) (by decide) (by exact rfl) (fun Kp1 s0 h0u4 H Q1 HK1 => ?_)
   refine AtC.seq ?_
   refine AtC.seqR ?_
   refine AtL.pures hT 2 _ _ _ _ rfl ?_
   refine AtL.nil ?_
   refine AtE.then_n (AtE.go ?_)
   refine AtC.condB H rfl (fun H => ?_) (fun H => ?_)
   ·
    refine AtC.skip ?_
    refine AtE.then_n (AtE.go ?_)
    refine AtC.seq ?_
    refine AtC.block ?_
    refine AtC.seqR ?_
    refine AtL.pures hT 2 _ _ _ _ rfl ?_
    obtain ⟨a_3_, hc1, hd1, H⟩ := H
    refine AtL.q rfl (Quiet1.idxS (s := _) hT rfl rfl rfl rfl rfl hc1 hd1) ?_
    obtain ⟨v_4, hc2, H⟩ := H
    refine AtL.q rfl (Quiet1.load hT rfl rfl rfl hc2) ?_
    refine AtLX.bs (hT := hT) (cs := [_]) H rfl rfl rfl rfl rfl rfl rfl rfl rfl (fun a_4 h0u5 H => ?_)
    refine AtL.pures hT 1 _ _ _ _ rfl ?_
    refine AtL.e rfl (EffX.appendS (s := _) (u := _) hT rfl rfl rfl rfl rfl rfl rfl rfl rfl rfl (by decide) H) ?_
    rintro _ _ ⟨v_6, h0u6, rfl, rfl, H⟩
    refine AtL.e rfl (EffX.call (f := 105) (sh := fun h => ref01uCut _ h _) (H0 := H) rfl Tryd.call105 rfl (hl := fun w m hr hw => lift_ref01uCut _ w m hr _ hw)) ?_
    rintro _ _ ⟨v_7, h0u7, rfl, rfl, H⟩
    refine AtL.pures hT 1 _ _ _ _ rfl ?_
    refine AtL.nil ?_
    refine AtE.then_n (AtE.go ?_)
    refine AtC.block ?_
    refine AtC.loopM (fun (s0u1 : Sl) => [(7, Sl.toV s0u1)]) (fun (s0u1 : Sl) => []) [0, 1, 6, 8] [7, 0, 1, 6, 8] [] [] H (by exact rfl) (by exact rfl) (by exact rfl) (by decide) (by exact rfl) (fun Kp4 s0u1 h0u8 H Q4 HK4 => ?_)
    refine AtC.seq ?_
    refine AtC.seqR ?_
    refine AtL.pures hT 2 _ _ _ _ rfl ?_
    refine AtL.e rfl (EffX.call (f := 109) (sh := fun h => ref01uCmp _ _ h _) (H0 := H) rfl Tryd.call109 rfl (hl := fun w m hr hw => lift_ref01uCmp _ _ w m hr _ hw)) ?_
    rintro _ _ ⟨v_8, h0u9, rfl, rfl, H⟩
    refine AtL.pures hT 1 _ _ _ _ rfl ?_
    refine AtL.nil ?_
    refine AtE.then_n (AtE.go ?_)
    refine AtC.condB H rfl (fun H => ?_) (fun H => ?_)
    ·
     refine AtC.skip ?_
     refine AtE.then_n (AtE.go ?_)
     refine AtC.block ?_
     refine AtC.seqR ?_
     refine AtL.pures hT 2 _ _ _ _ rfl ?_
     refine AtL.e rfl (EffX.call (f := 110) (sh := fun h => ref01uSub _ _ h _) (H0 := H) rfl Tryd.call110 rfl (hl := fun w m hr hw => lift_ref01uSub _ _ w m hr _ hw)) ?_
     rintro _ _ ⟨v_9, h0u10, rfl, rfl, H⟩
     refine AtL.pures hT 1 _ _ _ _ rfl ?_
     refine AtL.nil ?_
     refine AtE.then_n (AtE.go ?_)
     refine AtC.region ?_
     refine AtL.pures hT 2 _ _ _ _ rfl ?_
     obtain ⟨a_5_, hc4, hd4, H⟩ := H
     refine AtL.q rfl (Quiet1.idxS (s := _) hT rfl rfl rfl rfl rfl hc4 hd4) ?_
     obtain ⟨v_10, hc5, H⟩ := H
     refine AtL.q rfl (Quiet1.load hT rfl rfl rfl hc5) ?_
     refine AtL.pures hT 1 _ _ _ _ rfl ?_
     obtain ⟨a_6_, hc6, hd6, H⟩ := H
     refine AtL.q rfl (Quiet1.idxS (s := _) hT rfl rfl rfl rfl rfl hc6 hd6) ?_
     refine AtL.e rfl (EffX.store hT rfl rfl rfl rfl rfl H) ?_
     rintro _ _ ⟨h0u11, rfl, H⟩
     refine AtL.nil ?_
     refine AtE.blk_n ?_
     exact AtE.then_n ((HK4 _ _ H).pickP (ts := [7, 0, 1, 6, 8]) (is := []) rfl rfl (by decide) rfl)
    ·
     refine AtC.exit ?_
     refine AtE.then_x ?_
     refine AtE.then_x ?_
     refine AtE.blk_hit ?_
     refine AtE.blk_n ?_
     refine AtE.then_n (AtE.go ?_)
     refine AtC.region ?_
     refine AtL.pures hT 3 _ _ _ _ rfl ?_
     replace H := H _ rfl
     refine AtL.nil ?_
     exact AtE.then_n ((HK1 _ _ H).pickP (ts := [7, 8, 0, 1, 6]) (is := []) rfl rfl (by decide) rfl)
   ·
    refine AtC.exit ?_
    refine AtE.then_x ?_
    refine AtE.then_x ?_
    refine AtE.blk_hit ?_
    refine AtE.then_n (AtE.go ?_)
    refine AtC.seqR ?_
    refine AtL.pures hT 1 _ _ _ _ rfl ?_
    refine AtL.e rfl (EffX.call (f := 105) (sh := fun h => ref01uCut _ h _) (H0 := H) rfl Tryd.call105 rfl (hl := fun w m hr hw => lift_ref01uCut _ w m hr _ hw)) ?_
    rintro _ _ ⟨v_11, h0u12, rfl, rfl, H⟩
    refine AtL.pures hT 3 _ _ _ _ rfl ?_
    refine AtL.nil ?_
    refine AtE.then_n (AtE.go ?_)
    refine AtC.ret ?_
    exact AtE.retN (rs := [.tmp 4, .tmp 5]) rfl (ResAll.cons (ResAt.tmp rfl) (ResAll.cons (ResAt.tmp rfl) ResAll.nil)) rfl H

theorem lift_ref01uGcd (x0 : Sl) (y : Sl) (w : World) (m : Heap) (hr : Rel ⟨m, []⟩ w.heap) (S : Sl → Heap → Prop) (H : ref01uGcd x0 y m S) :
    Calls Tryd.prog 103 #[Sl.toV x0, Sl.toV y] w (Post ⟨w, m⟩ Sl.toV S) := by
  refine Calls.lift (args := [Sl.toV x0, Sl.toV y]) Tryd.func103 rfl Tryd.ntmps103 (Nat.le_of_ble_eq_true rfl) hr (ref01uGcd x0 y m S) H (fun H => ?_)
  refine AtC.pick (ts := [0, 1]) rfl ?_
  unfold ref01uGcd at H
  refine AtC.seqR ?_
  refine AtL.pures hT 1 _ _ _ _ rfl ?_
  refine AtL.nil ?_
  refine AtE.then_n (AtE.go ?_)
  refine AtC.seq ?_
  refine AtC.block ?_
  refine AtC.loopM (fun (s0 : Sl × Sl) => [(0, Sl.toV s0.1), (1, Sl.toV s0.2)]) (fun (s0 : Sl × Sl) => []) [] [0, 1] [] [] H (by exact rfl) (by exact rfl) (by exact rfl) (by decide) (by exact rfl) (fun Kp1 s0 h0 H Q1 HK1 => ?_)
  refine AtC.seq ?_
  refine AtC.seqR ?_
  refine AtL.pures hT 3 _ _ _ _ rfl ?_
  refine AtL.nil ?_
  refine AtE.then_n (AtE.go ?_)
  refine AtC.condB H rfl (fun H => ?_) (fun H => ?_)
  ·
   refine AtC.skip ?_
   refine AtE.then_n (AtE.go ?_)
   refine AtC.block ?_
   refine AtC.seqR ?_
   refine AtL.pures hT 2 _ _ _ _ rfl ?_
   refine AtL.e rfl (EffX.call (f := 104) (sh := fun h => ref01uDiv _ _ h _) (H0 := H) rfl Tryd.call104 rfl (hl := fun w m hr hw => lift_ref01uDiv _ _ w m hr _ hw)) ?_
   rintro _ _ ⟨v, h0u1, rfl, rfl, H⟩
   refine AtL.pures hT 5 _ _ _ _ rfl ?_
   refine AtL.nil ?_
   refine AtE.then_n (AtE.go ?_)
   refine AtC.region ?_
   refine AtL.pures hT 4 _ _ _ _ rfl ?_
   refine AtL.nil ?_
   refine AtE.blk_n ?_
   exact AtE.then_n ((HK1 _ _ H).pickP (ts := [0, 1]) (is := []) rfl rfl (by decide) rfl)
  ·
   refine AtC.exit ?_
   refine AtE.then_x ?_
   refine AtE.then_x ?_
   refine AtE.blk_hit ?_
   refine AtE.then_n (AtE.go ?_)
   refine AtC.seqR ?_
   refine AtL.pures hT 2 _ _ _ _ rfl ?_
   refine AtL.nil ?_
   refine AtE.then_n (AtE.go ?_)
   refine AtC.ret ?_
   exact AtE.retN (rs := [.tmp 4]) rfl (ResAll.cons (ResAt.tmp rfl) ResAll.nil) rfl H

theorem lift_ref02uLow (r : Bool × Sl × Sl) (w : World) (m : Heap) (hr : Rel ⟨m, []⟩ w.heap) (S : (Bool × Sl × Sl) → Heap → Prop) (H : ref02uLow r m S) :
    Calls Tryd.prog 92 #[Value.agg (C_bool_sl_sl r).toArray] w (Post ⟨w, m⟩ (fun r => Value.agg (C_bool_sl_sl r).toArray) S) := by
  refine Calls.lift (args := [Value.agg (C_bool_sl_sl r).toArray]) Tryd.func92 rfl Tryd.ntmps92 (Nat.le_of_ble_eq_true rfl) hr (ref02uLow r m S) H (fun H => ?_)
  refine AtC.pick (ts := [0]) rfl ?_
  unfold ref02uLow at H
  refine AtC.seqR ?_
  refine AtL.e rfl (EffX.boxP (cs := [_, _, _]) rfl rfl rfl H) ?_
  rintro _ _ ⟨b, _, rfl, rfl, _, H⟩
  refine AtL.e rfl (EffX.allocP (cs := [_, _, _]) hT rfl rfl H) ?_
  rintro _ _ ⟨b_1, _, rfl, rfl, _, H⟩
  refine AtL.nil ?_
  replace H := H.self
  refine AtE.then_n (AtE.go ?_)
  refine AtC.seq ?_
  refine AtC.seqR ?_
  refine AtL.pures hT 1 _ _ _ _ rfl ?_
  refine AtL.q rfl (Quiet1.loadP (i := 1) hT rfl rfl rfl rfl rfl rfl) ?_
  refine AtL.pures hT 2 _ _ _ _ rfl ?_
  refine AtL.nil ?_
  refine AtE.then_n (AtE.go ?_)
  refine AtC.condB H rfl (fun H => ?_) (fun H => ?_)
  ·
   refine AtC.seqR ?_
   refine AtL.e rfl (EffX.call (f := 102) (sh := fun h => ref02uInt _ h _) (H0 := H) rfl Tryd.call102 rfl (hl := fun w m hr hw => lift_ref02uInt _ w m hr _ hw)) ?_
   rintro _ _ ⟨v, h0u1, rfl, rfl, H⟩
   refine AtL.e rfl (EffX.storeSP (i := 0) (qv := [(_, [_, _, _]), (_, [_, _, _])]) hT rfl rfl rfl rfl rfl rfl rfl rfl rfl rfl) ?_
   rintro _ _ rfl
   refine AtL.nil ?_
   refine AtE.then_n (AtE.go ?_)
   refine AtC.ret ?_
   refine AtE.then_r ?_
   exact AtE.retN (rs := [.cell 2 128]) rfl (ResAll.cons (ResAt.cellSP (i := 0) (l := [_, _, _]) hT rfl rfl rfl rfl rfl rfl rfl) ResAll.nil) rfl H
  ·
   refine AtC.skip ?_
   refine AtE.then_n (AtE.go ?_)
   refine AtC.seqR ?_
   refine AtL.pures hT 1 _ _ _ _ rfl ?_
   refine AtL.q rfl (Quiet1.loadP (i := 1) hT rfl rfl rfl rfl rfl rfl) ?_
   refine AtL.pures hT 1 _ _ _ _ rfl ?_
   refine AtL.q rfl (Quiet1.loadP (i := 1) hT rfl rfl rfl rfl rfl rfl) ?_
   refine AtL.e rfl (EffX.call (f := 103) (sh := fun h => ref01uGcd _ _ h _) (H0 := H) rfl Tryd.call103 rfl (hl := fun w m hr hw => lift_ref01uGcd _ _ w m hr _ hw)) ?_
   rintro _ _ ⟨v_1, h0u2, rfl, rfl, H⟩
   refine AtL.pures hT 1 _ _ _ _ rfl ?_
   refine AtL.nil ?_
   refine AtE.then_n (AtE.go ?_)
   refine AtC.seqR ?_
   refine AtL.pures hT 1 _ _ _ _ rfl ?_
   refine AtL.q rfl (Quiet1.loadP (i := 1) hT rfl rfl rfl rfl rfl rfl) ?_
   refine AtL.pures hT 1 _ _ _ _ rfl ?_
   refine AtL.e rfl (EffX.call (f := 104) (sh := fun h => ref01uDiv _ _ h _) (H0 := H) rfl Tryd.call104 rfl (hl := fun w m hr hw => lift_ref01uDiv _ _ w m hr _ hw)) ?_
   rintro _ _ ⟨v_2, h0u3, rfl, rfl, H⟩
   refine AtL.pures hT 5 _ _ _ _ rfl ?_
   refine AtL.nil ?_
   refine AtE.then_n (AtE.go ?_)
   refine AtC.seqR ?_
   refine AtL.pures hT 1 _ _ _ _ rfl ?_
   refine AtL.q rfl (Quiet1.loadP (i := 1) hT rfl rfl rfl rfl rfl rfl) ?_
   refine AtL.pures hT 1 _ _ _ _ rfl ?_
   refine AtL.e rfl (EffX.call (f := 104) (sh := fun h => ref01uDiv _ _ h _) (H0 := H) rfl Tryd.call104 rfl (hl := fun w m hr hw => lift_ref01uDiv _ _ w m hr _ hw)) ?_
   rintro _ _ ⟨v_3, h0u4, rfl, rfl, H⟩
   refine AtL.pures hT 5 _ _ _ _ rfl ?_
   refine AtL.nil ?_
   refine AtE.then_n (AtE.go ?_)
   refine AtC.seqR ?_
   refine AtL.pures hT 1 _ _ _ _ rfl ?_
   refine AtL.q rfl (Quiet1.loadP (i := 1) hT rfl rfl rfl rfl rfl rfl) ?_
   refine AtL.pures hT 2 _ _ _ _ rfl ?_
   refine AtL.q rfl (Quiet1.build (cs := [_, _, _]) hT rfl rfl rfl rfl rfl rfl) ?_
   refine AtL.e rfl (EffX.storeSP (i := 0) (qv := [(_, [_, _, _]), (_, [_, _, _])]) hT rfl rfl rfl rfl rfl rfl rfl rfl rfl rfl) ?_
   rintro _ _ rfl
   refine AtL.nil ?_
   refine AtE.then_n (AtE.go ?_)
   refine AtC.ret ?_
   exact AtE.retN (rs := [.cell 2 128]) rfl (ResAll.cons (ResAt.cellSP (i := 0) (l := [_, _, _]) hT rfl rfl rfl rfl rfl rfl rfl) ResAll.nil) rfl H

theorem lift_ref01uLimbs (x0 : Sl) (w : World) (m : Heap) (hr : Rel ⟨m, []⟩ w.heap) (S : Sl → Heap → Prop) (H : ref01uLimbs x0 m S) :
    Calls Tryd.prog 93 #[Sl.toV x0] w (Post ⟨w, m⟩ Sl.toV S) := by
  refine Calls.lift (args := [Sl.toV x0]) Tryd.func93 rfl Tryd.ntmps93 (Nat.le_of_ble_eq_true rfl) hr (ref01uLimbs x0 m S) H (fun H => ?_)
  refine AtC.pick (ts := [0]) rfl ?_
  unfold ref01uLimbs at H
  refine AtC.seqR ?_
  refine AtL.pures hT 1 _ _ _ _ rfl ?_
  refine AtL.nil ?_
  refine AtE.then_n (AtE.go ?_)
  refine AtC.seqR ?_
  refine AtLX.bs (hT := hT) (cs := []) H rfl rfl rfl rfl rfl rfl rfl rfl rfl (fun a h0 H => ?_)
  refine AtL.pures hT 1 _ _ _ _ rfl ?_
  replace H := H _ rfl
  refine AtL.nil ?_
  refine AtE.then_n (AtE.go ?_)
  refine AtC.seq ?_
  refine AtC.seqR ?_
  refine AtL.pures hT 4 _ _ _ _ rfl ?_
  replace H := H _ rfl
  refine AtL.nil ?_
  refine AtE.then_n (AtE.go ?_)
  refine AtC.block ?_
  refine AtC.loopM (fun (s0 : Sl × Int) => [(3, Sl.toV s0.1), (4, Value.int .i64 s0.2)]) (fun (s0 : Sl × Int) => []) [0] [3, 4, 0] [] [] H (by exact rfl) (by exact rfl) (by exact rfl) (by decide) (by exact rfl) (fun Kp1 s0 h0u1 H Q1 HK1 => ?_)
  refine AtC.seq ?_
  refine AtC.seqR ?_
  refine AtL.pures hT 2 _ _ _ _ rfl ?_
  refine AtL.nil ?_
  refine AtE.then_n (AtE.go ?_)
  refine AtC.condB H rfl (fun H => ?_) (fun H => ?_)
  ·
   refine AtC.skip ?_
   refine AtE.then_n (AtE.go ?_)
   refine AtC.joinSeq (β := Unit) (fun (t0 : Sl) (bb : Unit) => [(3, Sl.toV t0)]) (fun (t0 : Sl) (bb : Unit) => []) [0, 4] [] H (by exact rfl) (by exact rfl) (fun t0 bb h0u2 H => ?_) (fun J2 H HK2 => ?_)
   ·
    refine AtC.region ?_
    refine AtL.pures hT 3 _ _ _ _ rfl ?_
    replace H := H _ rfl
    refine AtL.nil ?_
    exact AtE.then_n ((HK1 _ _ H).pickP (ts := [3, 4, 0]) (is := []) rfl rfl (by decide) rfl)
   ·
    refine AtC.block ?_
    refine AtC.seqR ?_
    refine AtL.pures hT 2 _ _ _ _ rfl ?_
    obtain ⟨a_1_, hc2, hd2, H⟩ := H
    refine AtL.q rfl (Quiet1.idxS (s := _) hT rfl rfl rfl rfl rfl hc2 hd2) ?_
    obtain ⟨v_1, hc3, H⟩ := H
    refine AtL.q rfl (Quiet1.load hT rfl rfl rfl hc3) ?_
    refine AtL.pures hT 2 _ _ _ _ rfl ?_
    replace H := H _ rfl
    refine AtL.nil ?_
    refine AtE.then_n (AtE.go ?_)
    refine AtC.seq ?_
    refine AtC.seqR ?_
    refine AtL.pures hT 1 _ _ _ _ rfl ?_
    refine AtL.nil ?_
    refine AtE.then_n (AtE.go ?_)
    refine AtC.block ?_
    refine AtC.loopM (fun (s0u1 : Int × Int) => [(5, Value.int .u64 s0u1.1), (6, Value.int .i64 s0u1.2)]) (fun (s0u1 : Int × Int) => []) [0, 3, 4] [5, 6, 0, 3, 4] [] [] H (by exact rfl) (by exact rfl) (by exact rfl) (by decide) (by exact rfl) (fun Kp5 s0u1 h0u3 H Q5 HK5 => ?_)
    refine AtC.seq ?_
    refine AtC.seqR ?_
    refine AtL.pures hT 4 _ _ _ _ rfl ?_
    refine AtL.nil ?_
    refine AtE.then_n (AtE.go ?_)
    refine AtC.condB H rfl (fun H => ?_) (fun H => ?_)
    ·
     refine AtC.skip ?_
     refine AtE.then_n (AtE.go ?_)
     refine AtC.seq ?_
     refine AtC.block ?_
     refine AtC.seqR ?_
     refine AtL.pures hT 2 _ _ _ _ rfl ?_
     obtain ⟨a_2_, hc5, hd5, H⟩ := H
     refine AtL.q rfl (Quiet1.idxS (s := _) hT rfl rfl rfl rfl rfl hc5 hd5) ?_
     obtain ⟨v_2, hc6, H⟩ := H
     refine AtL.q rfl (Quiet1.load hT rfl rfl rfl hc6) ?_
     refine AtL.pures hT 5 _ _ _ _ rfl ?_
     replace H := H _ rfl
     refine AtL.nil ?_
     refine AtE.then_n (AtE.go ?_)
     refine AtC.seqR ?_
     refine AtL.pures hT 5 _ _ _ _ rfl ?_
     obtain ⟨a_3_, hc7, hd7, H⟩ := H
     refine AtL.q rfl (Quiet1.idxS (s := _) hT rfl rfl rfl rfl rfl hc7 hd7) ?_
     refine AtL.e rfl (EffX.store hT rfl rfl rfl rfl rfl H) ?_
     rintro _ _ ⟨h0u4, rfl, H⟩
     refine AtL.nil ?_
     refine AtE.then_n (AtE.go ?_)
     refine AtC.region ?_
     refine AtL.pures hT 3 _ _ _ _ rfl ?_
     replace H := H _ rfl
     refine AtL.nil ?_
     refine AtE.blk_n ?_
     refine AtE.then_n (AtE.go ?_)
     refine AtC.region ?_
     refine AtL.pures hT 3 _ _ _ _ rfl ?_
     replace H := H _ rfl
     refine AtL.nil ?_
     exact AtE.then_n ((HK5 _ _ H).pickP (ts := [5, 6, 0, 3, 4]) (is := []) rfl rfl (by decide) rfl)
    ·
     refine AtC.exit ?_
     refine AtE.then_x ?_
     refine AtE.then_x ?_
     refine AtE.blk_hit ?_
     refine AtE.then_n (AtE.go ?_)
     refine AtC.seqR ?_
     refine AtL.pures hT 2 _ _ _ _ rfl ?_
     refine AtL.nil ?_
     refine AtE.then_n (AtE.go ?_)
     refine AtC.condB H rfl (fun H => ?_) (fun H => ?_)
     ·
      refine AtC.region ?_
      refine AtL.pures hT 3 _ _ _ _ rfl ?_
      refine AtLX.bs (hT := hT) (cs := [_]) H rfl rfl rfl rfl rfl rfl rfl rfl rfl (fun a_4 h0u5 H => ?_)
      refine AtL.e rfl (EffX.appendS (s := _) (u := _) hT rfl rfl rfl rfl rfl rfl rfl rfl rfl rfl (by decide) H) ?_
      rintro _ _ ⟨v_4, h0u6, rfl, rfl, H⟩
      refine AtL.pures hT 1 _ _ _ _ rfl ?_
      refine AtL.nil ?_
      refine AtE.blk_n ?_
      exact AtE.then_n ((HK2 _ () _ H).pickP (ts := [3, 0, 4]) (is := []) rfl rfl (by decide) rfl)
     ·
      refine AtC.skip ?_
      refine AtE.blk_n ?_
      exact AtE.then_n ((HK2 _ () _ H).pickP (ts := [3, 0, 4]) (is := []) rfl rfl (by decide) rfl)
  ·
   refine AtC.exit ?_
   refine AtE.then_x ?_
   refine AtE.then_x ?_
   refine AtE.blk_hit ?_
   refine AtE.then_n (AtE.go ?_)
   refine AtC.seqR ?_
   refine AtL.pures hT 2 _ _ _ _ rfl ?_
   refine AtL.nil ?_
   refine AtE.then_n (AtE.go ?_)
   refine AtC.ret ?_
   exact AtE.retN (rs := [.tmp 2]) rfl (ResAll.cons (ResAt.tmp rfl) ResAll.nil) rfl H

theorem lift_ref02uForm (r : Bool × Sl × Sl) (w : World) (m : Heap) (hr : Rel ⟨m, []⟩ w.heap) (S : (Bool × Sl × Sl) → Heap → Prop) (H : ref02uForm r m S) :
    Calls Tryd.prog 84 #[Value.agg (C_bool_sl_sl r).toArray] w (Post ⟨w, m⟩ (fun r => Value.agg (C_bool_sl_sl r).toArray) S) := by
  refine Calls.lift (args := [Value.agg (C_bool_sl_sl r).toArray]) Tryd.func84 rfl Tryd.ntmps84 (Nat.le_of_ble_eq_true rfl) hr (ref02uForm r m S) H (fun H => ?_)
  refine AtC.pick (ts := [0]) rfl ?_
  unfold ref02uForm at H
  refine AtC.seqR ?_
  refine AtL.e rfl (EffX.boxP (cs := [_, _, _]) rfl rfl rfl H) ?_
  rintro _ _ ⟨b, _, rfl, rfl, _, H⟩
  refine AtL.e rfl (EffX.allocP (cs := [_, _, _]) hT rfl rfl H) ?_
  rintro _ _ ⟨b_1, _, rfl, rfl, _, H⟩
  refine AtL.nil ?_
  replace H := H.self
  refine AtE.then_n (AtE.go ?_)
  refine AtC.seqR ?_
  refine AtL.q rfl (Quiet1.loadSP (i := 1) (l := [_, _, _]) hT rfl rfl rfl rfl rfl rfl rfl rfl) ?_
  refine AtL.e rfl (EffX.call (f := 92) (sh := fun h => ref02uLow _ h _) (H0 := H) rfl Tryd.call92 rfl (hl := fun w m hr hw => lift_ref02uLow _ w m hr _ hw)) ?_
  rintro _ _ ⟨v, h0u1, rfl, rfl, H⟩
  refine AtL.e rfl (EffX.storeSP (i := 1) (qv := [(_, [_, _, _]), (_, [_, _, _])]) hT rfl rfl rfl rfl rfl rfl rfl rfl rfl rfl) ?_
  rintro _ _ rfl
  refine AtL.nil ?_
  refine AtE.then_n (AtE.go ?_)
  refine AtC.joinSeq (β := Nat) (fun (t0 : Bool × Sl × Sl) (bb : Nat) => [(3, Value.pointer (some ⟨bb, 0, none⟩))]) (fun (t0 : Bool × Sl × Sl) (bb : Nat) => [(bb, [Value.bool t0.1, Sl.toV t0.2.1, Sl.toV t0.2.2])]) [1, 2] [0, 1] H (by exact rfl) (by exact rfl) (fun t0 bb h0u2 H => ?_) (fun J1 H HK1 => ?_)
  ·
   refine AtC.joinSeq (β := Unit) (fun (t0u1 : Bool × Sl × Sl) (bb_1 : Unit) => []) (fun (t0u1 : Bool × Sl × Sl) (bb_1 : Unit) => [(bb, [Value.bool t0u1.1, Sl.toV t0u1.2.1, Sl.toV t0u1.2.2])]) [2, 3] [1] H (by exact rfl) (by exact rfl) (fun t0u1 bb_1 h0u8 H => ?_) (fun J4 H HK4 => ?_)
   ·
    refine AtC.seqR ?_
    refine AtL.q rfl (Quiet1.loadSP (i := 0) (l := [_, _, _]) hT rfl rfl rfl rfl rfl rfl rfl rfl) ?_
    refine AtL.e rfl (EffX.storeSP (i := 1) (qv := [(_, [_, _, _]), (_, [_, _, _])]) hT rfl rfl rfl rfl rfl rfl rfl rfl rfl rfl) ?_
    rintro _ _ rfl
    refine AtL.nil ?_
    refine AtE.then_n (AtE.go ?_)
    refine AtC.ret ?_
    exact AtE.retN (rs := [.cell 2 36]) rfl (ResAll.cons (ResAt.cellSP (i := 1) (l := [_, _, _]) hT rfl rfl rfl rfl rfl rfl rfl) ResAll.nil) rfl H
   ·
    refine AtC.joinSeq (β := Unit) (fun (t0u2 : Bool) (bb_2 : Unit) => [(23, Value.bool t0u2)]) (fun (t0u2 : Bool) (bb_2 : Unit) => []) [1, 2, 3] [0, 1, 2] H (by exact rfl) (by exact rfl) (fun t0u2 bb_2 h0u9 H => ?_) (fun J5 H HK5 => ?_)
    ·
     refine AtC.condB H rfl (fun H => ?_) (fun H => ?_)
     ·
      refine AtC.region ?_
      refine AtL.pures hT 1 _ _ _ _ rfl ?_
      refine AtL.q rfl (Quiet1.loadP (i := 2) hT rfl rfl rfl rfl rfl rfl) ?_
      refine AtL.e rfl (EffX.call (f := 93) (sh := fun h => ref01uLimbs _ h _) (H0 := H) rfl Tryd.call93 rfl (hl := fun w m hr hw => lift_ref01uLimbs _ w m hr _ hw)) ?_
      rintro _ _ ⟨v_4, h0u10, rfl, rfl, H⟩
      refine AtL.pures hT 1 _ _ _ _ rfl ?_
      refine AtL.e rfl (EffX.storeP (i := 0) (qv := [(_, [_, _, _]), (_, [_, _, _]), (_, [_, _, _])]) hT rfl rfl rfl rfl rfl rfl rfl rfl rfl) ?_
      rintro _ _ rfl
      refine AtL.nil ?_
      exact AtE.then_n ((HK4 _ () _ H).pickP (ts := [2, 3]) (is := [0, 1]) rfl rfl (by decide) rfl)
     ·
      refine AtC.skip ?_
      exact AtE.then_n ((HK4 _ () _ H).pickP (ts := [2, 3]) (is := [0, 1]) rfl rfl (by decide) rfl)
    ·
     refine AtC.region ?_
     refine AtL.pures hT 1 _ _ _ _ rfl ?_
     refine AtL.q rfl (Quiet1.loadP (i := 2) hT rfl rfl rfl rfl rfl rfl) ?_
     refine AtL.pures hT 3 _ _ _ _ rfl ?_
     refine AtL.splitB (t := 17) H rfl (fun H => ?_) (fun H => ?_)
     ·
      refine AtL.noF rfl rfl rfl (by decide) rfl ?_
      refine AtL.noF rfl rfl rfl (by decide) rfl ?_
      refine AtL.noF rfl rfl rfl (by decide) rfl ?_
      refine AtL.noF rfl rfl rfl (by decide) rfl ?_
      refine AtL.noF rfl rfl rfl (by decide) rfl ?_
      refine AtL.pures hT 1 _ _ _ _ rfl ?_
      refine AtL.nil ?_
      exact AtE.then_n ((HK5 _ () _ H).pickP (ts := [23, 1, 2, 3]) (is := [0, 1, 2]) rfl rfl (by decide) rfl)
     ·
      refine AtL.yes rfl rfl rfl ?_
      refine AtL.pures hT 1 _ _ _ _ rfl ?_
      refine AtL.yes rfl rfl rfl ?_
      refine AtL.q rfl (Quiet1.loadP (i := 2) hT rfl rfl rfl rfl rfl rfl) ?_
      refine AtL.yes rfl rfl rfl ?_
      obtain ⟨a_, hc5, hd5, H⟩ := H
      refine AtL.q rfl (Quiet1.idxS (s := _) hT rfl rfl rfl rfl rfl hc5 hd5) ?_
      refine AtL.yes rfl rfl rfl ?_
      obtain ⟨v_3, hc6, H⟩ := H
      refine AtL.q rfl (Quiet1.load hT rfl rfl rfl hc6) ?_
      refine AtL.yes rfl rfl rfl ?_
      refine AtL.pures hT 1 _ _ _ _ rfl ?_
      refine AtL.pures hT 1 _ _ _ _ rfl ?_
      refine AtL.nil ?_
      exact AtE.then_n ((HK5 _ () _ H).pickP (ts := [23, 1, 2, 3]) (is := [0, 1, 2]) rfl rfl (by decide) rfl)
  ·
   apply AtC.stages [4, 7, 8] [[], [], [], [], [], [4], [4], [], [4, 7]] [[], [0], [], [2], [2, 3], [0, 1, 2, 3, 4], [0, 1, 2, 3, 4, 5], [], [0, 1, 2, 3, 4, 5, 6, 7]] hmix (by kernel_rfl) [(6, _), (7, _), (8, _), (9, _)] rfl 3 rfl
   refine Stg.go [0, 1, 2, 3] [4, 7] rfl rfl (QAll.cons (QOp.p hT rfl rfl rfl rfl rfl) (QAll.cons (QOp.q rfl rfl (Quiet1.loadP (i := 1) hT rfl rfl rfl rfl rfl rfl) rfl rfl) (QAll.cons (QOp.p hT rfl rfl rfl rfl rfl) (QAll.cons (QOp.q rfl rfl (Quiet1.loadP (i := 1) hT rfl rfl rfl rfl rfl rfl) rfl rfl) QAll.nil)))) ?_
   refine EAll.cons ?_ ?_
   ·
    replace H := H.self
    refine EOp.e rfl rfl rfl (EffX.call (f := 93) (sh := fun h => ref01uLimbs _ h _) (H0 := H) rfl Tryd.call93 rfl (hl := fun w m hr hw => lift_ref01uLimbs _ w m hr _ hw)) ?_
    rintro _ _ ⟨v_1, h0u4, rfl, rfl, H⟩
    apply Stg.next [(10, _), (11, _), (12, _)] rfl rfl
    refine Stg.go [0, 1, 5, 6] [7] rfl rfl (QAll.cons (QOp.p hT rfl rfl rfl rfl rfl) (QAll.cons (QOp.q rfl rfl (Quiet1.loadP (i := 1) hT rfl rfl rfl rfl rfl rfl) rfl rfl) (QAll.cons (QOp.q rfl rfl (Quiet1.build (cs := [_, _]) hT rfl rfl rfl rfl rfl rfl) rfl rfl) (QAll.cons (QOp.q rfl rfl (Quiet1.build (cs := [_, _, _]) hT rfl rfl rfl rfl rfl rfl) rfl rfl) QAll.nil)))) ?_
    refine EAll.cons ?_ EAll.nil
    refine EOp.e rfl rfl rfl (EffX.allocP (cs := [_, _, _]) hT rfl rfl H) ?_
    rintro _ _ ⟨b_2, _, rfl, rfl, he1, H⟩
    apply Stg.next [(3, _)] rfl rfl
    refine Stg.go [0, 1, 5, 6] [8] rfl rfl (QAll.cons (QOp.p hT rfl rfl rfl rfl rfl) (QAll.cons (QOp.q rfl rfl (Quiet1.loadP (i := 2) hT rfl rfl rfl rfl rfl rfl) rfl rfl) (QAll.cons (QOp.q rfl rfl (Quiet1.build (cs := [_, _]) hT rfl rfl rfl rfl rfl rfl) rfl rfl) (QAll.cons (QOp.q rfl rfl (Quiet1.build (cs := [_, _, _]) hT rfl rfl rfl rfl rfl rfl) rfl rfl) QAll.nil)))) ?_
    refine EAll.cons ?_ EAll.nil
    refine EOp.e rfl rfl rfl (EffX.storeSP (i := 0) (qv := [(_, [_, _, _]), (_, [_, _, _]), (_, [_, _, _])]) hT rfl rfl rfl rfl rfl rfl rfl rfl rfl rfl) ?_
    rintro _ _ rfl
    apply Stg.next [] rfl rfl
    refine Stg.fin [] rfl rfl QAll.nil ?_
    replace H := H.self
    exact AtE.then_n ((HK1 _ b_2 _ H).pickP (ts := [3, 1, 2]) (is := [0, 1, 2]) rfl rfl (by decide) rfl)
   refine EAll.cons ?_ EAll.nil
   refine EOp.e rfl rfl rfl (EffX.allocP (cs := [_, _, _]) hT rfl rfl H) ?_
   rintro _ _ ⟨b_3, _, rfl, rfl, he2, H⟩
   apply Stg.next [(3, _)] rfl rfl
   refine Stg.go [0, 1, 2, 3] [4] rfl rfl (QAll.cons (QOp.p hT rfl rfl rfl rfl rfl) (QAll.cons (QOp.q rfl rfl (Quiet1.loadP (i := 2) hT rfl rfl rfl rfl rfl rfl) rfl rfl) (QAll.cons (QOp.p hT rfl rfl rfl rfl rfl) (QAll.cons (QOp.q rfl rfl (Quiet1.loadP (i := 2) hT rfl rfl rfl rfl rfl rfl) rfl rfl) QAll.nil)))) ?_
   refine EAll.cons ?_ EAll.nil
   replace H := H.self
   refine EOp.e rfl rfl rfl (EffX.call (f := 93) (sh := fun h => ref01uLimbs _ h _) (H0 := H) rfl Tryd.call93 rfl (hl := fun w m hr hw => lift_ref01uLimbs _ w m hr _ hw)) ?_
   rintro _ _ ⟨v_2, h0u6, rfl, rfl, H⟩
   apply Stg.next [(10, _), (11, _), (12, _)] rfl rfl
   refine Stg.go [0, 1, 5, 6] [8] rfl rfl (QAll.cons (QOp.p hT rfl rfl rfl rfl rfl) (QAll.cons (QOp.q rfl rfl (Quiet1.loadP (i := 2) hT rfl rfl rfl rfl rfl rfl) rfl rfl) (QAll.cons (QOp.q rfl rfl (Quiet1.build (cs := [_, _]) hT rfl rfl rfl rfl rfl rfl) rfl rfl) (QAll.cons (QOp.q rfl rfl (Quiet1.build (cs := [_, _, _]) hT rfl rfl rfl rfl rfl rfl) rfl rfl) QAll.nil)))) ?_
   refine EAll.cons ?_ EAll.nil
   refine EOp.e rfl rfl rfl (EffX.storeSP (i := 0) (qv := [(_, [_, _, _]), (_, [_, _, _]), (_, [_, _, _])]) hT rfl rfl rfl rfl rfl rfl rfl rfl rfl rfl) ?_
   rintro _ _ rfl
   apply Stg.next [] rfl rfl
   refine Stg.fin [] rfl rfl QAll.nil ?_
   replace H := H.self
   exact AtE.then_n ((HK1 _ b_3 _ H).pickP (ts := [3, 1, 2]) (is := [0, 1, 2]) rfl rfl (by decide) rfl)

theorem lift_ref01uSame (a : Sl) (b : Sl) (w : World) (m : Heap) (hr : Rel ⟨m, []⟩ w.heap) (S : Bool → Heap → Prop) (H : ref01uSame a b m S) :
    Calls Tryd.prog 78 #[Sl.toV a, Sl.toV b] w (Post ⟨w, m⟩ Value.bool S) := by
  refine Calls.lift (args := [Sl.toV a, Sl.toV b]) Tryd.func78 rfl Tryd.ntmps78 (Nat.le_of_ble_eq_true rfl) hr (ref01uSame a b m S) H (fun H => ?_)
  refine AtC.pick (ts := [0, 1]) rfl ?_
  unfold ref01uSame at H
  refine AtC.seqR ?_
  refine AtL.pures hT 1 _ _ _ _ rfl ?_
  refine AtL.nil ?_
  refine AtE.then_n (AtE.go ?_)
  refine AtC.seq ?_
  refine AtC.seqR ?_
  refine AtL.pures hT 5 _ _ _ _ rfl ?_
  refine AtL.nil ?_
  refine AtE.then_n (AtE.go ?_)
  refine AtC.condB H rfl (fun H => ?_) (fun H => ?_)
  ·
   refine AtC.seqR ?_
   refine AtL.pures hT 1 _ _ _ _ rfl ?_
   refine AtL.nil ?_
   refine AtE.then_n (AtE.go ?_)
   refine AtC.ret ?_
   refine AtE.then_r ?_
   exact AtE.retN (rs := [.tmp 4]) rfl (ResAll.cons (ResAt.tmp rfl) ResAll.nil) rfl H
  ·
   refine AtC.skip ?_
   refine AtE.then_n (AtE.go ?_)
   refine AtC.seq ?_
   refine AtC.seqR ?_
   refine AtL.pures hT 1 _ _ _ _ rfl ?_
   refine AtL.nil ?_
   refine AtE.then_n (AtE.go ?_)
   refine AtC.block ?_
   refine AtC.loopM (fun (s0 : Int) => [(5, Value.int .i64 s0)]) (fun (s0 : Int) => []) [0, 1] [5, 0, 1] [] [] H (by exact rfl) (by exact rfl) (by exact rfl) (by decide) (by exact rfl) (fun Kp1 s0 h0 H Q1 HK1 => ?_)
   refine AtC.seq ?_
   refine AtC.seqR ?_
   refine AtL.pures hT 4 _ _ _ _ rfl ?_
   refine AtL.nil ?_
   refine AtE.then_n (AtE.go ?_)
   refine AtC.condB H rfl (fun H => ?_) (fun H => ?_)
   ·
    refine AtC.skip ?_
    refine AtE.then_n (AtE.go ?_)
    refine AtC.seq ?_
    refine AtC.block ?_
    refine AtC.seqD hmix (by kernel_rfl) ?_
    refine AtD.pures hT 2 _ _ _ _ rfl ?_
    obtain ⟨a_1_, hc1, hd1, H⟩ := H
    refine AtD.q rfl (Quiet1.idxS (s := _) hT rfl rfl rfl rfl rfl hc1 hd1) ?_
    obtain ⟨v, hc2, H⟩ := H
    refine AtD.q rfl (Quiet1.load hT rfl rfl rfl hc2) ?_
    refine AtD.pures hT 2 _ _ _ _ rfl ?_
    obtain ⟨a_2_, hc3, hd3, H⟩ := H
    refine AtD.q rfl (Quiet1.idxS (s := _) hT rfl rfl rfl rfl rfl hc3 hd3) ?_
    obtain ⟨v_1, hc4, H⟩ := H
    refine AtD.q rfl (Quiet1.load hT rfl rfl rfl hc4) ?_
    refine AtD.pures hT 1 _ _ _ _ rfl ?_
    refine AtD.nil ?_
    refine AtE.then_n (AtE.go ?_)
    refine AtC.condB H rfl (fun H => ?_) (fun H => ?_)
    ·
     refine AtC.seqR ?_
     refine AtL.pures hT 1 _ _ _ _ rfl ?_
     refine AtL.nil ?_
     refine AtE.then_n (AtE.go ?_)
     refine AtC.ret ?_
     refine AtE.blk_r ?_
     refine AtE.then_r ?_
     refine AtE.then_r ?_
     refine AtE.blk_r ?_
     refine AtE.then_r ?_
     exact AtE.retN (rs := [.tmp 4]) rfl (ResAll.cons (ResAt.tmp rfl) ResAll.nil) rfl H
    ·
     refine AtC.skip ?_
     refine AtE.blk_n ?_
     refine AtE.then_n (AtE.go ?_)
     refine AtC.region ?_
     refine AtL.pures hT 3 _ _ _ _ rfl ?_
     replace H := H _ rfl
     refine AtL.nil ?_
     exact AtE.then_n ((HK1 _ _ H).pickP (ts := [5, 0, 1]) (is := []) rfl rfl (by decide) rfl)
   ·
    refine AtC.exit ?_
    refine AtE.then_x ?_
    refine AtE.then_x ?_
    refine AtE.blk_hit ?_
    refine AtE.then_n (AtE.go ?_)
    refine AtC.seqR ?_
    refine AtL.pures hT 1 _ _ _ _ rfl ?_
    refine AtL.nil ?_
    refine AtE.then_n (AtE.go ?_)
    refine AtC.ret ?_
    exact AtE.retN (rs := [.tmp 4]) rfl (ResAll.cons (ResAt.tmp rfl) ResAll.nil) rfl H

theorem lift_ref02uSame (x0 : Bool × Sl × Sl) (y : Bool × Sl × Sl) (w : World) (m : Heap) (hr : Rel ⟨m, []⟩ w.heap) (S : Bool → Heap → Prop) (H : ref02uSame x0 y m S) :
    Calls Tryd.prog 67 #[Value.agg (C_bool_sl_sl x0).toArray, Value.agg (C_bool_sl_sl y).toArray] w (Post ⟨w, m⟩ Value.bool S) := by
  refine Calls.lift (args := [Value.agg (C_bool_sl_sl x0).toArray, Value.agg (C_bool_sl_sl y).toArray]) Tryd.func67 rfl Tryd.ntmps67 (Nat.le_of_ble_eq_true rfl) hr (ref02uSame x0 y m S) H (fun H => ?_)
  refine AtC.pick (ts := [0, 1]) rfl ?_
  unfold ref02uSame at H
  refine AtC.seqR ?_
  refine AtL.e rfl (EffX.boxP (cs := [_, _, _]) rfl rfl rfl H) ?_
  rintro _ _ ⟨b, _, rfl, rfl, _, H⟩
  refine AtL.e rfl (EffX.boxP (cs := [_, _, _]) rfl rfl rfl H) ?_
  rintro _ _ ⟨b_1, _, rfl, rfl, _, H⟩
  replace H := H.self
  refine AtL.pures hT 1 _ _ _ _ rfl ?_
  refine AtL.nil ?_
  refine AtE.then_n (AtE.go ?_)
  refine AtC.joinSeq (β := Unit) (fun (t0 : Bool) (bb : Unit) => [(4, Value.bool t0)]) (fun (t0 : Bool) (bb : Unit) => []) [] [] H (by exact rfl) (by exact rfl) (fun t0 bb h0u1 H => ?_) (fun J1 H HK1 => ?_)
  ·
   refine AtC.ret ?_
   exact AtE.retN (rs := [.tmp 4]) rfl (ResAll.cons (ResAt.tmp rfl) ResAll.nil) rfl H
  ·
   refine AtC.region ?_
   refine AtL.pures hT 2 _ _ _ _ rfl ?_
   refine AtL.q rfl (Quiet1.loadP (i := 1) hT rfl rfl rfl rfl rfl rfl) ?_
   refine AtL.pures hT 2 _ _ _ _ rfl ?_
   refine AtL.q rfl (Quiet1.loadP (i := 0) hT rfl rfl rfl rfl rfl rfl) ?_
   refine AtL.pures hT 2 _ _ _ _ rfl ?_
   refine AtL.splitB (t := 12) H rfl (fun H => ?_) (fun H => ?_)
   ·
    refine AtL.yes rfl rfl rfl ?_
    refine AtL.pures hT 1 _ _ _ _ rfl ?_
    refine AtL.yes rfl rfl rfl ?_
    refine AtL.pures hT 1 _ _ _ _ rfl ?_
    refine AtL.yes rfl rfl rfl ?_
    refine AtL.q rfl (Quiet1.loadP (i := 1) hT rfl rfl rfl rfl rfl rfl) ?_
    refine AtL.yes rfl rfl rfl ?_
    refine AtL.pures hT 1 _ _ _ _ rfl ?_
    refine AtL.yes rfl rfl rfl ?_
    refine AtL.pures hT 1 _ _ _ _ rfl ?_
    refine AtL.yes rfl rfl rfl ?_
    refine AtL.q rfl (Quiet1.loadP (i := 0) hT rfl rfl rfl rfl rfl rfl) ?_
    refine AtL.yes rfl rfl rfl ?_
    refine AtL.e rfl (EffX.call (f := 78) (sh := fun h => ref01uSame _ _ h _) (H0 := H) rfl Tryd.call78 rfl (hl := fun w m hr hw => lift_ref01uSame _ _ w m hr _ hw)) ?_
    rintro _ _ ⟨v, h0u2, rfl, rfl, H⟩
    refine AtL.pures hT 2 _ _ _ _ rfl ?_
    refine AtL.splitB (t := 21) H rfl (fun H => ?_) (fun H => ?_)
    ·
     refine AtL.yes rfl rfl rfl ?_
     refine AtL.pures hT 1 _ _ _ _ rfl ?_
     refine AtL.yes rfl rfl rfl ?_
     refine AtL.q rfl (Quiet1.loadP (i := 1) hT rfl rfl rfl rfl rfl rfl) ?_
     refine AtL.yes rfl rfl rfl ?_
     refine AtL.pures hT 1 _ _ _ _ rfl ?_
     refine AtL.yes rfl rfl rfl ?_
     refine AtL.q rfl (Quiet1.loadP (i := 0) hT rfl rfl rfl rfl rfl rfl) ?_
     refine AtL.yes rfl rfl rfl ?_
     refine AtL.e rfl (EffX.call (f := 78) (sh := fun h => ref01uSame _ _ h _) (H0 := H) rfl Tryd.call78 rfl (hl := fun w m hr hw => lift_ref01uSame _ _ w m hr _ hw)) ?_
     rintro _ _ ⟨v_1, h0u3, rfl, rfl, H⟩
     refine AtL.pures hT 2 _ _ _ _ rfl ?_
     refine AtL.nil ?_
     exact AtE.then_n ((HK1 _ () _ H).pickP (ts := [4]) (is := []) rfl rfl (by decide) rfl)
    ·
     refine AtL.noF rfl rfl rfl (by decide) rfl ?_
     refine AtL.noF rfl rfl rfl (by decide) rfl ?_
     refine AtL.noF rfl rfl rfl (by decide) rfl ?_
     refine AtL.noF rfl rfl rfl (by decide) rfl ?_
     refine AtL.noF rfl rfl rfl (by decide) rfl ?_
     refine AtL.pures hT 2 _ _ _ _ rfl ?_
     refine AtL.nil ?_
     exact AtE.then_n ((HK1 _ () _ H).pickP (ts := [4]) (is := []) rfl rfl (by decide) rfl)
   ·
    refine AtL.noF rfl rfl rfl (by decide) rfl ?_
    refine AtL.noF rfl rfl rfl (by decide) rfl ?_
    refine AtL.noF rfl rfl rfl (by decide) rfl ?_
    refine AtL.noF rfl rfl rfl (by decide) rfl ?_
    refine AtL.noF rfl rfl rfl (by decide) rfl ?_
    refine AtL.noF rfl rfl rfl (by decide) rfl ?_
    refine AtL.noF rfl rfl rfl (by decide) rfl ?_
    refine AtL.pures hT 2 _ _ _ _ rfl ?_
    refine AtL.noF rfl rfl rfl (by decide) rfl ?_
    refine AtL.noF rfl rfl rfl (by decide) rfl ?_
    refine AtL.noF rfl rfl rfl (by decide) rfl ?_
    refine AtL.noF rfl rfl rfl (by decide) rfl ?_
    refine AtL.noF rfl rfl rfl (by decide) rfl ?_
    refine AtL.pures hT 2 _ _ _ _ rfl ?_
    refine AtL.nil ?_
    exact AtE.then_n ((HK1 _ () _ H).pickP (ts := [4]) (is := []) rfl rfl (by decide) rfl)

theorem lift_ref02uRight (x0 : Bool × Sl × Sl) (w : World) (m : Heap) (hr : Rel ⟨m, []⟩ w.heap) (S : Bool → Heap → Prop) (H : ref02uRight x0 m S) :
    Calls Tryd.prog 72 #[Value.agg (C_bool_sl_sl x0).toArray] w (Post ⟨w, m⟩ Value.bool S) := by
  refine Calls.lift (args := [Value.agg (C_bool_sl_sl x0).toArray]) Tryd.func72 rfl Tryd.ntmps72 (Nat.le_of_ble_eq_true rfl) hr (ref02uRight x0 m S) H (fun H => ?_)
  refine AtC.pick (ts := [0]) rfl ?_
  unfold ref02uRight at H
  refine AtC.seqR ?_
  refine AtL.e rfl (EffX.boxP (cs := [_, _, _]) rfl rfl rfl H) ?_
  rintro _ _ ⟨b, _, rfl, rfl, _, H⟩
  replace H := H.self
  refine AtL.pures hT 1 _ _ _ _ rfl ?_
  refine AtL.nil ?_
  refine AtE.then_n (AtE.go ?_)
  refine AtC.seq ?_
  refine AtC.joinSeq (β := Unit) (fun (t0 : Bool) (bb : Unit) => [(49, Value.bool t0)]) (fun (t0 : Bool) (bb : Unit) => []) [1] [0] H (by exact rfl) (by exact rfl) (fun t0 bb h0u1 H => ?_) (fun J1 H HK1 => ?_)
  ·
   refine AtC.condB H rfl (fun H => ?_) (fun H => ?_)
   ·
    refine AtC.seqR ?_
    refine AtL.pures hT 1 _ _ _ _ rfl ?_
    refine AtL.nil ?_
    refine AtE.then_n (AtE.go ?_)
    refine AtC.ret ?_
    refine AtE.then_r ?_
    exact AtE.retN (rs := [.tmp 2]) rfl (ResAll.cons (ResAt.tmp rfl) ResAll.nil) rfl H
   ·
    refine AtC.skip ?_
    refine AtE.then_n (AtE.go ?_)
    apply AtC.seqS [2, 3, 4] [[], [], [], [2], [2, 3], [2, 3, 4]] [[], [], [1], [1, 2], [0, 1, 2, 3], [0, 1, 2, 3, 4]] hmix (by kernel_rfl) [(50, _), (51, _)] rfl 3 rfl
    refine Stg.go [0, 1] [2] rfl rfl (QAll.cons (QOp.q rfl rfl (Quiet1.loadSP (i := 0) (l := [_, _, _]) hT rfl rfl rfl rfl rfl rfl rfl rfl) rfl rfl) (QAll.cons (QOp.q rfl rfl (Quiet1.loadSP (i := 0) (l := [_, _, _]) hT rfl rfl rfl rfl rfl rfl rfl rfl) rfl rfl) QAll.nil)) ?_
    refine EAll.cons ?_ EAll.nil
    refine EOp.e rfl rfl rfl (EffX.call (f := 85) (sh := fun h => ref02uOf _ h _) (H0 := H) rfl Tryd.call85 rfl (hl := fun w m hr hw => lift_ref02uOf _ w m hr _ hw)) ?_
    rintro _ _ ⟨v_3, h0u2, rfl, rfl, H⟩
    apply Stg.next [(52, _)] rfl rfl
    refine Stg.go [0] [3] rfl rfl (QAll.cons (QOp.q rfl rfl (Quiet1.loadSP (i := 0) (l := [_, _, _]) hT rfl rfl rfl rfl rfl rfl rfl rfl) rfl rfl) QAll.nil) ?_
    refine EAll.cons ?_ EAll.nil
    refine EOp.e rfl rfl rfl (EffX.call (f := 84) (sh := fun h => ref02uForm _ h _) (H0 := H) rfl Tryd.call84 rfl (hl := fun w m hr hw => lift_ref02uForm _ w m hr _ hw)) ?_
    rintro _ _ ⟨v_4, h0u3, rfl, rfl, H⟩
    apply Stg.next [(53, _)] rfl rfl
    refine Stg.go [0] [4] rfl rfl (QAll.cons (QOp.q rfl rfl (Quiet1.loadSP (i := 0) (l := [_, _, _]) hT rfl rfl rfl rfl rfl rfl rfl rfl) rfl rfl) QAll.nil) ?_
    refine EAll.cons ?_ EAll.nil
    refine EOp.e rfl rfl rfl (EffX.call (f := 67) (sh := fun h => ref02uSame _ _ h _) (H0 := H) rfl Tryd.call67 rfl (hl := fun w m hr hw => lift_ref02uSame _ _ w m hr _ hw)) ?_
    rintro _ _ ⟨v_5, h0u4, rfl, rfl, H⟩
    apply Stg.next [(54, _), (2, _)] rfl rfl
    refine Stg.fin [5] rfl rfl (QAll.cons (QOp.p hT rfl rfl rfl rfl rfl) QAll.nil) ?_
    refine AtE.then_n (AtE.go ?_)
    refine AtC.ret ?_
    exact AtE.retN (rs := [.tmp 2]) rfl (ResAll.cons (ResAt.tmp rfl) ResAll.nil) rfl H
  ·
   refine AtC.region ?_
   refine AtL.pures hT 2 _ _ _ _ rfl ?_
   refine AtL.q rfl (Quiet1.loadP (i := 0) hT rfl rfl rfl rfl rfl rfl) ?_
   refine AtL.pures hT 3 _ _ _ _ rfl ?_
   refine AtL.splitB (t := 8) H rfl (fun H => ?_) (fun H => ?_)
   ·
    refine AtL.yes rfl rfl rfl ?_
    refine AtL.pures hT 1 _ _ _ _ rfl ?_
    refine AtL.yes rfl rfl rfl ?_
    refine AtL.pures hT 1 _ _ _ _ rfl ?_
    refine AtL.yes rfl rfl rfl ?_
    refine AtL.q rfl (Quiet1.loadP (i := 0) hT rfl rfl rfl rfl rfl rfl) ?_
    refine AtL.yes rfl rfl rfl ?_
    refine AtL.pures hT 1 _ _ _ _ rfl ?_
    refine AtL.yes rfl rfl rfl ?_
    refine AtL.pures hT 1 _ _ _ _ rfl ?_
    refine AtL.yes rfl rfl rfl ?_
    refine AtL.q rfl (Quiet1.loadP (i := 0) hT rfl rfl rfl rfl rfl rfl) ?_
    refine AtL.yes rfl rfl rfl ?_
    refine AtL.pures hT 1 _ _ _ _ rfl ?_
    refine AtL.yes rfl rfl rfl ?_
    refine AtL.pures hT 1 _ _ _ _ rfl ?_
    refine AtL.yes rfl rfl rfl ?_
    obtain ⟨a_, hc1, hd1, H⟩ := H
    refine AtL.q rfl (Quiet1.idxS (s := _) hT rfl rfl rfl rfl rfl hc1 hd1) ?_
    refine AtL.yes rfl rfl rfl ?_
    obtain ⟨v, hc2, H⟩ := H
    refine AtL.q rfl (Quiet1.load hT rfl rfl rfl hc2) ?_
    refine AtL.yes rfl rfl rfl ?_
    refine AtL.pures hT 1 _ _ _ _ rfl ?_
    refine AtL.pures hT 2 _ _ _ _ rfl ?_
    refine AtL.splitB (t := 21) H rfl (fun H => ?_) (fun H => ?_)
    ·
     refine AtL.noF rfl rfl rfl (by decide) rfl ?_
     refine AtL.noF rfl rfl rfl (by decide) rfl ?_
     refine AtL.noF rfl rfl rfl (by decide) rfl ?_
     refine AtL.noF rfl rfl rfl (by decide) rfl ?_
     refine AtL.noF rfl rfl rfl (by decide) rfl ?_
     refine AtL.noU rfl rfl rfl rfl ?_
     refine AtL.noU rfl rfl rfl rfl ?_
     refine AtL.noU rfl rfl rfl rfl ?_
     refine AtL.noU rfl rfl rfl rfl ?_
     refine AtL.noU rfl rfl rfl rfl ?_
     refine AtL.noU rfl rfl rfl rfl ?_
     refine AtL.noU rfl rfl rfl rfl ?_
     refine AtL.noU rfl rfl rfl rfl ?_
     refine AtL.noU rfl rfl rfl rfl ?_
     refine AtL.noF rfl rfl rfl (by decide) rfl ?_
     refine AtL.pures hT 2 _ _ _ _ rfl ?_
     refine AtL.noF rfl rfl rfl (by decide) rfl ?_
     refine AtL.noF rfl rfl rfl (by decide) rfl ?_
     refine AtL.noF rfl rfl rfl (by decide) rfl ?_
     refine AtL.noF rfl rfl rfl (by decide) rfl ?_
     refine AtL.noF rfl rfl rfl (by decide) rfl ?_
     refine AtL.noF rfl rfl rfl (by decide) rfl ?_
     refine AtL.noU rfl rfl rfl rfl ?_
     refine AtL.noU rfl rfl rfl rfl ?_
     refine AtL.noU rfl rfl rfl rfl ?_
     refine AtL.noF rfl rfl rfl (by decide) rfl ?_
     refine AtL.pures hT 1 _ _ _ _ rfl ?_
     refine AtL.nil ?_
     exact AtE.then_n ((HK1 _ () _ H).pickP (ts := [49, 1]) (is := [0]) rfl rfl (by decide) rfl)
    ·
     refine AtL.yes rfl rfl rfl ?_
     refine AtL.pures hT 1 _ _ _ _ rfl ?_
     refine AtL.yes rfl rfl rfl ?_
     refine AtL.q rfl (Quiet1.loadP (i := 0) hT rfl rfl rfl rfl rfl rfl) ?_
     refine AtL.yes rfl rfl rfl ?_
     refine AtL.pures hT 1 _ _ _ _ rfl ?_
     refine AtL.yes rfl rfl rfl ?_
     refine AtL.pures hT 1 _ _ _ _ rfl ?_
     refine AtL.yes rfl rfl rfl ?_
     refine AtL.pures hT 1 _ _ _ _ rfl ?_
     refine AtL.splitB (t := 26) H rfl (fun H => ?_) (fun H => ?_)
     ·
      refine AtL.yes rfl rfl rfl ?_
      refine AtL.pures hT 1 _ _ _ _ rfl ?_
      refine AtL.yes rfl rfl rfl ?_
      refine AtL.q rfl (Quiet1.loadP (i := 0) hT rfl rfl rfl rfl rfl rfl) ?_
      refine AtL.yes rfl rfl rfl ?_
      refine AtL.pures hT 1 _ _ _ _ rfl ?_
      refine AtL.yes rfl rfl rfl ?_
      refine AtL.q rfl (Quiet1.loadP (i := 0) hT rfl rfl rfl rfl rfl rfl) ?_
      refine AtL.yes rfl rfl rfl ?_
      refine AtL.pures hT 1 _ _ _ _ rfl ?_
      refine AtL.yes rfl rfl rfl ?_
      refine AtL.pures hT 1 _ _ _ _ rfl ?_
      refine AtL.yes rfl rfl rfl ?_
      obtain ⟨a_1_, hc3, hd3, H⟩ := H
      refine AtL.q rfl (Quiet1.idxS (s := _) hT rfl rfl rfl rfl rfl hc3 hd3) ?_
      refine AtL.yes rfl rfl rfl ?_
      obtain ⟨v_1, hc4, H⟩ := H
      refine AtL.q rfl (Quiet1.load hT rfl rfl rfl hc4) ?_
      refine AtL.yes rfl rfl rfl ?_
      refine AtL.pures hT 1 _ _ _ _ rfl ?_
      refine AtL.yes rfl rfl rfl ?_
      refine AtL.pures hT 1 _ _ _ _ rfl ?_
      refine AtL.pures hT 2 _ _ _ _ rfl ?_
      refine AtL.splitB (t := 38) H rfl (fun H => ?_) (fun H => ?_)
      ·
       refine AtL.noF rfl rfl rfl (by decide) rfl ?_
       refine AtL.noF rfl rfl rfl (by decide) rfl ?_
       refine AtL.noF rfl rfl rfl (by decide) rfl ?_
       refine AtL.noF rfl rfl rfl (by decide) rfl ?_
       refine AtL.noF rfl rfl rfl (by decide) rfl ?_
       refine AtL.noF rfl rfl rfl (by decide) rfl ?_
       refine AtL.noU rfl rfl rfl rfl ?_
       refine AtL.noU rfl rfl rfl rfl ?_
       refine AtL.noU rfl rfl rfl rfl ?_
       refine AtL.noF rfl rfl rfl (by decide) rfl ?_
       refine AtL.pures hT 1 _ _ _ _ rfl ?_
       refine AtL.nil ?_
       exact AtE.then_n ((HK1 _ () _ H).pickP (ts := [49, 1]) (is := [0]) rfl rfl (by decide) rfl)
      ·
       refine AtL.yes rfl rfl rfl ?_
       refine AtL.pures hT 1 _ _ _ _ rfl ?_
       refine AtL.yes rfl rfl rfl ?_
       refine AtL.pures hT 1 _ _ _ _ rfl ?_
       refine AtL.yes rfl rfl rfl ?_
       refine AtL.q rfl (Quiet1.loadP (i := 0) hT rfl rfl rfl rfl rfl rfl) ?_
       refine AtL.yes rfl rfl rfl ?_
       refine AtL.pures hT 1 _ _ _ _ rfl ?_
       refine AtL.yes rfl rfl rfl ?_
       refine AtL.pures hT 1 _ _ _ _ rfl ?_
       refine AtL.yes rfl rfl rfl ?_
       refine AtL.pures hT 1 _ _ _ _ rfl ?_
       refine AtL.splitB (t := 44) H rfl (fun H => ?_) (fun H => ?_)
       ·
        refine AtL.yes rfl rfl rfl ?_
        refine AtL.pures hT 1 _ _ _ _ rfl ?_
        refine AtL.yes rfl rfl rfl ?_
        refine AtL.pures hT 1 _ _ _ _ rfl ?_
        refine AtL.yes rfl rfl rfl ?_
        refine AtL.q rfl (Quiet1.loadP (i := 0) hT rfl rfl rfl rfl rfl rfl) ?_
        refine AtL.yes rfl rfl rfl ?_
        refine AtL.pures hT 1 _ _ _ _ rfl ?_
        refine AtL.pures hT 1 _ _ _ _ rfl ?_
        refine AtL.nil ?_
        exact AtE.then_n ((HK1 _ () _ H).pickP (ts := [49, 1]) (is := [0]) rfl rfl (by decide) rfl)
       ·
        refine AtL.noF rfl rfl rfl (by decide) rfl ?_
        refine AtL.noF rfl rfl rfl (by decide) rfl ?_
        refine AtL.noF rfl rfl rfl (by decide) rfl ?_
        refine AtL.yes rfl rfl rfl ?_
        refine AtL.pures hT 1 _ _ _ _ rfl ?_
        refine AtL.pures hT 1 _ _ _ _ rfl ?_
        refine AtL.nil ?_
        exact AtE.then_n ((HK1 _ () _ H).pickP (ts := [49, 1]) (is := [0]) rfl rfl (by decide) rfl)
     ·
      refine AtL.noF rfl rfl rfl (by decide) rfl ?_
      refine AtL.noF rfl rfl rfl (by decide) rfl ?_
      refine AtL.noF rfl rfl rfl (by decide) rfl ?_
      refine AtL.noF rfl rfl rfl (by decide) rfl ?_
      refine AtL.noF rfl rfl rfl (by decide) rfl ?_
      refine AtL.noF rfl rfl rfl (by decide) rfl ?_
      refine AtL.noF rfl rfl rfl (by decide) rfl ?_
      refine AtL.noF rfl rfl rfl (by decide) rfl ?_
      refine AtL.noF rfl rfl rfl (by decide) rfl ?_
      refine AtL.yes rfl rfl rfl ?_
      refine AtL.pures hT 1 _ _ _ _ rfl ?_
      refine AtL.pures hT 2 _ _ _ _ rfl ?_
      refine AtL.yes rfl rfl rfl ?_
      refine AtL.pures hT 1 _ _ _ _ rfl ?_
      refine AtL.yes rfl rfl rfl ?_
      refine AtL.pures hT 1 _ _ _ _ rfl ?_
      refine AtL.yes rfl rfl rfl ?_
      refine AtL.q rfl (Quiet1.loadP (i := 0) hT rfl rfl rfl rfl rfl rfl) ?_
      refine AtL.yes rfl rfl rfl ?_
      refine AtL.pures hT 1 _ _ _ _ rfl ?_
      refine AtL.yes rfl rfl rfl ?_
      refine AtL.pures hT 1 _ _ _ _ rfl ?_
      refine AtL.yes rfl rfl rfl ?_
      refine AtL.pures hT 1 _ _ _ _ rfl ?_
      refine AtL.splitB (t := 44) H rfl (fun H => ?_) (fun H => ?_)
      ·
       refine AtL.yes rfl rfl rfl ?_
       refine AtL.pures hT 1 _ _ _ _ rfl ?_
       refine AtL.yes rfl rfl rfl ?_
       refine AtL.pures hT 1 _ _ _ _ rfl ?_
       refine AtL.yes rfl rfl rfl ?_
       refine AtL.q rfl (Quiet1.loadP (i := 0) hT rfl rfl rfl rfl rfl rfl) ?_
       refine AtL.yes rfl rfl rfl ?_
       refine AtL.pures hT 1 _ _ _ _ rfl ?_
       refine AtL.pures hT 1 _ _ _ _ rfl ?_
       refine AtL.nil ?_
       exact AtE.then_n ((HK1 _ () _ H).pickP (ts := [49, 1]) (is := [0]) rfl rfl (by decide) rfl)
      ·
       refine AtL.noF rfl rfl rfl (by decide) rfl ?_
       refine AtL.noF rfl rfl rfl (by decide) rfl ?_
       refine AtL.noF rfl rfl rfl (by decide) rfl ?_
       refine AtL.yes rfl rfl rfl ?_
       refine AtL.pures hT 1 _ _ _ _ rfl ?_
       refine AtL.pures hT 1 _ _ _ _ rfl ?_
       refine AtL.nil ?_
       exact AtE.then_n ((HK1 _ () _ H).pickP (ts := [49, 1]) (is := [0]) rfl rfl (by decide) rfl)
   ·
    refine AtL.noF rfl rfl rfl (by decide) rfl ?_
    refine AtL.noF rfl rfl rfl (by decide) rfl ?_
    refine AtL.noF rfl rfl rfl (by decide) rfl ?_
    refine AtL.noF rfl rfl rfl (by decide) rfl ?_
    refine AtL.noF rfl rfl rfl (by decide) rfl ?_
    refine AtL.noF rfl rfl rfl (by decide) rfl ?_
    refine AtL.noF rfl rfl rfl (by decide) rfl ?_
    refine AtL.noF rfl rfl rfl (by decide) rfl ?_
    refine AtL.noF rfl rfl rfl (by decide) rfl ?_
    refine AtL.noF rfl rfl rfl (by decide) rfl ?_
    refine AtL.noF rfl rfl rfl (by decide) rfl ?_
    refine AtL.pures hT 2 _ _ _ _ rfl ?_
    refine AtL.yes rfl rfl rfl ?_
    refine AtL.pures hT 1 _ _ _ _ rfl ?_
    refine AtL.yes rfl rfl rfl ?_
    refine AtL.q rfl (Quiet1.loadP (i := 0) hT rfl rfl rfl rfl rfl rfl) ?_
    refine AtL.yes rfl rfl rfl ?_
    refine AtL.pures hT 1 _ _ _ _ rfl ?_
    refine AtL.yes rfl rfl rfl ?_
    refine AtL.pures hT 1 _ _ _ _ rfl ?_
    refine AtL.yes rfl rfl rfl ?_
    refine AtL.pures hT 1 _ _ _ _ rfl ?_
    refine AtL.splitB (t := 26) H rfl (fun H => ?_) (fun H => ?_)
    ·
     refine AtL.yes rfl rfl rfl ?_
     refine AtL.pures hT 1 _ _ _ _ rfl ?_
     refine AtL.yes rfl rfl rfl ?_
     refine AtL.q rfl (Quiet1.loadP (i := 0) hT rfl rfl rfl rfl rfl rfl) ?_
     refine AtL.yes rfl rfl rfl ?_
     refine AtL.pures hT 1 _ _ _ _ rfl ?_
     refine AtL.yes rfl rfl rfl ?_
     refine AtL.q rfl (Quiet1.loadP (i := 0) hT rfl rfl rfl rfl rfl rfl) ?_
     refine AtL.yes rfl rfl rfl ?_
     refine AtL.pures hT 1 _ _ _ _ rfl ?_
     refine AtL.yes rfl rfl rfl ?_
     refine AtL.pures hT 1 _ _ _ _ rfl ?_
     refine AtL.yes rfl rfl rfl ?_
     obtain ⟨a_2_, hc5, hd5, H⟩ := H
     refine AtL.q rfl (Quiet1.idxS (s := _) hT rfl rfl rfl rfl rfl hc5 hd5) ?_
     refine AtL.yes rfl rfl rfl ?_
     obtain ⟨v_2, hc6, H⟩ := H
     refine AtL.q rfl (Quiet1.load hT rfl rfl rfl hc6) ?_
     refine AtL.yes rfl rfl rfl ?_
     refine AtL.pures hT 1 _ _ _ _ rfl ?_
     refine AtL.yes rfl rfl rfl ?_
     refine AtL.pures hT 1 _ _ _ _ rfl ?_
     refine AtL.pures hT 2 _ _ _ _ rfl ?_
     refine AtL.splitB (t := 38) H rfl (fun H => ?_) (fun H => ?_)
     ·
      refine AtL.noF rfl rfl rfl (by decide) rfl ?_
      refine AtL.noF rfl rfl rfl (by decide) rfl ?_
      refine AtL.noF rfl rfl rfl (by decide) rfl ?_
      refine AtL.noF rfl rfl rfl (by decide) rfl ?_
      refine AtL.noF rfl rfl rfl (by decide) rfl ?_
      refine AtL.noF rfl rfl rfl (by decide) rfl ?_
      refine AtL.noU rfl rfl rfl rfl ?_
      refine AtL.noU rfl rfl rfl rfl ?_
      refine AtL.noU rfl rfl rfl rfl ?_
      refine AtL.noF rfl rfl rfl (by decide) rfl ?_
      refine AtL.pures hT 1 _ _ _ _ rfl ?_
      refine AtL.nil ?_
      exact AtE.then_n ((HK1 _ () _ H).pickP (ts := [49, 1]) (is := [0]) rfl rfl (by decide) rfl)
     ·
      refine AtL.yes rfl rfl rfl ?_
      refine AtL.pures hT 1 _ _ _ _ rfl ?_
      refine AtL.yes rfl rfl rfl ?_
      refine AtL.pures hT 1 _ _ _ _ rfl ?_
      refine AtL.yes rfl rfl rfl ?_
      refine AtL.q rfl (Quiet1.loadP (i := 0) hT rfl rfl rfl rfl rfl rfl) ?_
      refine AtL.yes rfl rfl rfl ?_
      refine AtL.pures hT 1 _ _ _ _ rfl ?_
      refine AtL.yes rfl rfl rfl ?_
      refine AtL.pures hT 1 _ _ _ _ rfl ?_
      refine AtL.yes rfl rfl rfl ?_
      refine AtL.pures hT 1 _ _ _ _ rfl ?_
      refine AtL.splitB (t := 44) H rfl (fun H => ?_) (fun H => ?_)
      ·
       refine AtL.yes rfl rfl rfl ?_
       refine AtL.pures hT 1 _ _ _ _ rfl ?_
       refine AtL.yes rfl rfl rfl ?_
       refine AtL.pures hT 1 _ _ _ _ rfl ?_
       refine AtL.yes rfl rfl rfl ?_
       refine AtL.q rfl (Quiet1.loadP (i := 0) hT rfl rfl rfl rfl rfl rfl) ?_
       refine AtL.yes rfl rfl rfl ?_
       refine AtL.pures hT 1 _ _ _ _ rfl ?_
       refine AtL.pures hT 1 _ _ _ _ rfl ?_
       refine AtL.nil ?_
       exact AtE.then_n ((HK1 _ () _ H).pickP (ts := [49, 1]) (is := [0]) rfl rfl (by decide) rfl)
      ·
       refine AtL.noF rfl rfl rfl (by decide) rfl ?_
       refine AtL.noF rfl rfl rfl (by decide) rfl ?_
       refine AtL.noF rfl rfl rfl (by decide) rfl ?_
       refine AtL.yes rfl rfl rfl ?_
       refine AtL.pures hT 1 _ _ _ _ rfl ?_
       refine AtL.pures hT 1 _ _ _ _ rfl ?_
       refine AtL.nil ?_
       exact AtE.then_n ((HK1 _ () _ H).pickP (ts := [49, 1]) (is := [0]) rfl rfl (by decide) rfl)
    ·
     refine AtL.noF rfl rfl rfl (by decide) rfl ?_
     refine AtL.noF rfl rfl rfl (by decide) rfl ?_
     refine AtL.noF rfl rfl rfl (by decide) rfl ?_
     refine AtL.noF rfl rfl rfl (by decide) rfl ?_
     refine AtL.noF rfl rfl rfl (by decide) rfl ?_
     refine AtL.noF rfl rfl rfl (by decide) rfl ?_
     refine AtL.noF rfl rfl rfl (by decide) rfl ?_
     refine AtL.noF rfl rfl rfl (by decide) rfl ?_
     refine AtL.noF rfl rfl rfl (by decide) rfl ?_
     refine AtL.yes rfl rfl rfl ?_
     refine AtL.pures hT 1 _ _ _ _ rfl ?_
     refine AtL.pures hT 2 _ _ _ _ rfl ?_
     refine AtL.yes rfl rfl rfl ?_
     refine AtL.pures hT 1 _ _ _ _ rfl ?_
     refine AtL.yes rfl rfl rfl ?_
     refine AtL.pures hT 1 _ _ _ _ rfl ?_
     refine AtL.yes rfl rfl rfl ?_
     refine AtL.q rfl (Quiet1.loadP (i := 0) hT rfl rfl rfl rfl rfl rfl) ?_
     refine AtL.yes rfl rfl rfl ?_
     refine AtL.pures hT 1 _ _ _ _ rfl ?_
     refine AtL.yes rfl rfl rfl ?_
     refine AtL.pures hT 1 _ _ _ _ rfl ?_
     refine AtL.yes rfl rfl rfl ?_
     refine AtL.pures hT 1 _ _ _ _ rfl ?_
     refine AtL.splitB (t := 44) H rfl (fun H => ?_) (fun H => ?_)
     ·
      refine AtL.yes rfl rfl rfl ?_
      refine AtL.pures hT 1 _ _ _ _ rfl ?_
      refine AtL.yes rfl rfl rfl ?_
      refine AtL.pures hT 1 _ _ _ _ rfl ?_
      refine AtL.yes rfl rfl rfl ?_
      refine AtL.q rfl (Quiet1.loadP (i := 0) hT rfl rfl rfl rfl rfl rfl) ?_
      refine AtL.yes rfl rfl rfl ?_
      refine AtL.pures hT 1 _ _ _ _ rfl ?_
      refine AtL.pures hT 1 _ _ _ _ rfl ?_
      refine AtL.nil ?_
      exact AtE.then_n ((HK1 _ () _ H).pickP (ts := [49, 1]) (is := [0]) rfl rfl (by decide) rfl)
     ·
      refine AtL.noF rfl rfl rfl (by decide) rfl ?_
      refine AtL.noF rfl rfl rfl (by decide) rfl ?_
      refine AtL.noF rfl rfl rfl (by decide) rfl ?_
      refine AtL.yes rfl rfl rfl ?_
      refine AtL.pures hT 1 _ _ _ _ rfl ?_
      refine AtL.pures hT 1 _ _ _ _ rfl ?_
      refine AtL.nil ?_
      exact AtE.then_n ((HK1 _ () _ H).pickP (ts := [49, 1]) (is := [0]) rfl rfl (by decide) rfl)

theorem lift_ref03uRight (x0 : Bool × Sl × Sl × Bool × Sl × Sl) (w : World) (m : Heap) (hr : Rel ⟨m, []⟩ w.heap) (S : Bool → Heap → Prop) (H : ref03uRight x0 m S) :
    Calls Tryd.prog 62 #[Value.agg (C_bool_sl_sl_bool_sl_sl x0).toArray] w (Post ⟨w, m⟩ Value.bool S) := by
  refine Calls.lift (args := [Value.agg (C_bool_sl_sl_bool_sl_sl x0).toArray]) Tryd.func62 rfl Tryd.ntmps62 (Nat.le_of_ble_eq_true rfl) hr (ref03uRight x0 m S) H (fun H => ?_)
  refine AtC.pick (ts := [0]) rfl ?_
  unfold ref03uRight at H
  refine AtC.seqR ?_
  refine AtL.e rfl (EffX.boxP (cs := [_, _, _, _, _, _]) rfl rfl rfl H) ?_
  rintro _ _ ⟨b, _, rfl, rfl, _, H⟩
  replace H := H.self
  refine AtL.pures hT 1 _ _ _ _ rfl ?_
  refine AtL.nil ?_
  refine AtE.then_n (AtE.go ?_)
  refine AtC.joinSeq (β := Unit) (fun (t0 : Bool) (bb : Unit) => [(2, Value.bool t0)]) (fun (t0 : Bool) (bb : Unit) => []) [] [] H (by exact rfl) (by exact rfl) (fun t0 bb h0u1 H => ?_) (fun J1 H HK1 => ?_)
  ·
   refine AtC.ret ?_
   exact AtE.retN (rs := [.tmp 2]) rfl (ResAll.cons (ResAt.tmp rfl) ResAll.nil) rfl H
  ·
   refine AtC.region ?_
   refine AtL.pures hT 1 _ _ _ _ rfl ?_
   refine AtL.q rfl (Quiet1.loadSP (i := 0) (l := [_, _, _]) hT rfl rfl rfl rfl rfl rfl rfl rfl) ?_
   refine AtL.e rfl (EffX.call (f := 72) (sh := fun h => ref02uRight _ h _) (H0 := H) rfl Tryd.call72 rfl (hl := fun w m hr hw => lift_ref02uRight _ w m hr _ hw)) ?_
   rintro _ _ ⟨v, h0u2, rfl, rfl, H⟩
   refine AtL.pures hT 1 _ _ _ _ rfl ?_
   refine AtL.splitB (t := 6) H rfl (fun H => ?_) (fun H => ?_)
   ·
    refine AtL.yes rfl rfl rfl ?_
    refine AtL.pures hT 1 _ _ _ _ rfl ?_
    refine AtL.yes rfl rfl rfl ?_
    refine AtL.q rfl (Quiet1.loadSP (i := 0) (l := [_, _, _]) hT rfl rfl rfl rfl rfl rfl rfl rfl) ?_
    refine AtL.yes rfl rfl rfl ?_
    refine AtL.e rfl (EffX.call (f := 72) (sh := fun h => ref02uRight _ h _) (H0 := H) rfl Tryd.call72 rfl (hl := fun w m hr hw => lift_ref02uRight _ w m hr _ hw)) ?_
    rintro _ _ ⟨v_1, h0u3, rfl, rfl, H⟩
    refine AtL.pures hT 2 _ _ _ _ rfl ?_
    refine AtL.nil ?_
    exact AtE.then_n ((HK1 _ () _ H).pickP (ts := [2]) (is := []) rfl rfl (by decide) rfl)
   ·
    refine AtL.noF rfl rfl rfl (by decide) rfl ?_
    refine AtL.noF rfl rfl rfl (by decide) rfl ?_
    refine AtL.noF rfl rfl rfl (by decide) rfl ?_
    refine AtL.pures hT 2 _ _ _ _ rfl ?_
    refine AtL.nil ?_
    exact AtE.then_n ((HK1 _ () _ H).pickP (ts := [2]) (is := []) rfl rfl (by decide) rfl)

theorem lift_law03uOdd (l : Sl) (w : World) (m : Heap) (hr : Rel ⟨m, []⟩ w.heap) (S : Bool → Heap → Prop) (H : law03uOdd l m S) :
    Calls Tryd.prog 26 #[Sl.toV l] w (Post ⟨w, m⟩ Value.bool S) := by
  refine Calls.lift (args := [Sl.toV l]) Tryd.func26 rfl Tryd.ntmps26 (Nat.le_of_ble_eq_true rfl) hr (law03uOdd l m S) H (fun H => ?_)
  refine AtC.pick (ts := [0]) rfl ?_
  unfold law03uOdd at H
  refine AtC.seqR ?_
  refine AtL.pures hT 1 _ _ _ _ rfl ?_
  refine AtL.nil ?_
  refine AtE.then_n (AtE.go ?_)
  refine AtC.seq ?_
  refine AtC.seqR ?_
  refine AtL.pures hT 3 _ _ _ _ rfl ?_
  refine AtL.nil ?_
  refine AtE.then_n (AtE.go ?_)
  refine AtC.block ?_
  refine AtC.loopM (fun (s0 : Int) => [(7, Value.int .i64 s0)]) (fun (s0 : Int) => []) [5, 6] [7, 5, 6] [] [] H (by exact rfl) (by exact rfl) (by exact rfl) (by decide) (by exact rfl) (fun Kp1 s0 h0 H Q1 HK1 => ?_)
  refine AtC.seqR ?_
  refine AtL.pures hT 1 _ _ _ _ rfl ?_
  refine AtL.nil ?_
  refine AtE.then_n (AtE.go ?_)
  refine AtC.seq ?_
  refine AtC.condB H rfl (fun H => ?_) (fun H => ?_)
  ·
   refine AtC.skip ?_
   refine AtE.then_n (AtE.go ?_)
   refine AtC.seq ?_
   refine AtC.block ?_
   refine AtC.seqR ?_
   obtain ⟨a_, hc1, hd1, H⟩ := H
   refine AtL.q rfl (Quiet1.idxS (s := _) hT rfl rfl rfl rfl rfl hc1 hd1) ?_
   obtain ⟨v, hc2, H⟩ := H
   refine AtL.q rfl (Quiet1.loadS hT rfl rfl rfl rfl hc2) ?_
   refine AtL.e rfl (EffX.allocP (cs := [_, _, _, _, _, _]) hT rfl rfl H) ?_
   rintro _ _ ⟨b, _, rfl, rfl, _, H⟩
   replace H := H.self
   refine AtL.e rfl (EffX.storeSP (i := 0) (qv := [(_, [_, _, _, _, _, _])]) hT rfl rfl rfl rfl rfl rfl rfl rfl rfl rfl) ?_
   rintro _ _ rfl
   refine AtL.nil ?_
   refine AtE.then_n (AtE.go ?_)
   refine AtC.joinSeq (β := Unit) (fun (t0 : Bool) (bb : Unit) => [(21, Value.bool t0)]) (fun (t0 : Bool) (bb : Unit) => []) [5, 6, 7] [] H (by exact rfl) (by exact rfl) (fun t0 bb h0u2 H => ?_) (fun J4 H HK4 => ?_)
   ·
    refine AtC.condB H rfl (fun H => ?_) (fun H => ?_)
    ·
     refine AtC.seqR ?_
     refine AtL.pures hT 1 _ _ _ _ rfl ?_
     refine AtL.nil ?_
     refine AtE.then_n (AtE.go ?_)
     refine AtC.ret ?_
     refine AtE.blk_r ?_
     refine AtE.then_r ?_
     refine AtE.then_r ?_
     refine AtE.blk_r ?_
     refine AtE.then_r ?_
     exact AtE.retN (rs := [.tmp 2]) rfl (ResAll.cons (ResAt.tmp rfl) ResAll.nil) rfl H
    ·
     refine AtC.skip ?_
     refine AtE.blk_n ?_
     refine AtE.then_n (AtE.go ?_)
     refine AtC.region ?_
     refine AtL.pures hT 2 _ _ _ _ rfl ?_
     refine AtL.nil ?_
     exact AtE.then_n ((HK1 _ _ H).pickP (ts := [7, 5, 6]) (is := []) rfl rfl (by decide) rfl)
   ·
    refine AtC.region ?_
    refine AtL.pures hT 1 _ _ _ _ rfl ?_
    refine AtL.q rfl (Quiet1.loadSP (i := 0) (l := [_, _, _]) hT rfl rfl rfl rfl rfl rfl rfl rfl) ?_
    refine AtL.pures hT 1 _ _ _ _ rfl ?_
    refine AtL.q rfl (Quiet1.loadSP (i := 0) (l := [_, _, _]) hT rfl rfl rfl rfl rfl rfl rfl rfl) ?_
    refine AtLX.bs (hT := hT) (cs := [_, _, _, _, _, _]) H rfl rfl rfl rfl rfl rfl rfl rfl rfl (fun a_1 h0u3 H => ?_)
    refine AtL.e rfl (EffX.call (f := 60) (sh := fun h => law02uGreat _ h _) (H0 := H) rfl Tryd.call60 rfl (hl := fun w m hr hw => lift_law02uGreat _ w m hr _ hw)) ?_
    rintro _ _ ⟨v_2, h0u4, rfl, rfl, H⟩
    refine AtL.pures hT 1 _ _ _ _ rfl ?_
    refine AtL.splitB (t := 17) H rfl (fun H => ?_) (fun H => ?_)
    ·
     refine AtL.noF rfl rfl rfl (by decide) rfl ?_
     refine AtL.noF rfl rfl rfl (by decide) rfl ?_
     refine AtL.noF rfl rfl rfl (by decide) rfl ?_
     refine AtL.pures hT 1 _ _ _ _ rfl ?_
     refine AtL.nil ?_
     exact AtE.then_n ((HK4 _ () _ H).pickP (ts := [21, 5, 6, 7]) (is := []) rfl rfl (by decide) rfl)
    ·
     refine AtL.yes rfl rfl rfl ?_
     refine AtL.q rfl (Quiet1.loadSP (i := 0) (l := [_, _, _, _, _, _]) hT rfl rfl rfl rfl rfl rfl rfl rfl) ?_
     refine AtL.yes rfl rfl rfl ?_
     refine AtL.e rfl (EffX.call (f := 62) (sh := fun h => ref03uRight _ h _) (H0 := H) rfl Tryd.call62 rfl (hl := fun w m hr hw => lift_ref03uRight _ w m hr _ hw)) ?_
     rintro _ _ ⟨v_3, h0u5, rfl, rfl, H⟩
     refine AtL.yes rfl rfl rfl ?_
     refine AtL.pures hT 1 _ _ _ _ rfl ?_
     refine AtL.pures hT 1 _ _ _ _ rfl ?_
     refine AtL.nil ?_
     exact AtE.then_n ((HK4 _ () _ H).pickP (ts := [21, 5, 6, 7]) (is := []) rfl rfl (by decide) rfl)
  ·
   refine AtC.exit ?_
   refine AtE.then_x ?_
   refine AtE.then_x ?_
   refine AtE.blk_hit ?_
   refine AtE.then_n (AtE.go ?_)
   refine AtC.seqR ?_
   refine AtL.pures hT 1 _ _ _ _ rfl ?_
   refine AtL.nil ?_
   refine AtE.then_n (AtE.go ?_)
   refine AtC.ret ?_
   exact AtE.retN (rs := [.tmp 2]) rfl (ResAll.cons (ResAt.tmp rfl) ResAll.nil) rfl H

theorem lift_law04ugreat (l : Sl) (w : World) (m : Heap) (hr : Rel ⟨m, []⟩ w.heap) (S : Bool → Heap → Prop) (H : law04ugreat l m S) :
    Calls Tryd.prog 9 #[Sl.toV l] w (Post ⟨w, m⟩ Value.bool S) := by
  refine Calls.lift (args := [Sl.toV l]) Tryd.func9 rfl Tryd.ntmps9 (Nat.le_of_ble_eq_true rfl) hr (law04ugreat l m S) H (fun H => ?_)
  refine AtC.pick (ts := [0]) rfl ?_
  unfold law04ugreat at H
  refine AtC.seqR ?_
  refine AtL.pures hT 1 _ _ _ _ rfl ?_
  refine AtL.nil ?_
  refine AtE.then_n (AtE.go ?_)
  refine AtC.seq ?_
  refine AtC.seqR ?_
  refine AtL.pures hT 3 _ _ _ _ rfl ?_
  refine AtL.nil ?_
  refine AtE.then_n (AtE.go ?_)
  refine AtC.condB H rfl (fun H => ?_) (fun H => ?_)
  ·
   refine AtC.seqR ?_
   refine AtL.pures hT 1 _ _ _ _ rfl ?_
   refine AtL.nil ?_
   refine AtE.then_n (AtE.go ?_)
   refine AtC.ret ?_
   refine AtE.then_r ?_
   exact AtE.retN (rs := [.tmp 2]) rfl (ResAll.cons (ResAt.tmp rfl) ResAll.nil) rfl H
  ·
   refine AtC.skip ?_
   refine AtE.then_n (AtE.go ?_)
   refine AtC.seq ?_
   refine AtC.seqR ?_
   refine AtL.pures hT 3 _ _ _ _ rfl ?_
   refine AtL.nil ?_
   refine AtE.then_n (AtE.go ?_)
   refine AtC.block ?_
   refine AtC.loopM (fun (s0 : Int) => [(10, Value.int .i64 s0)]) (fun (s0 : Int) => []) [8, 9] [10, 8, 9] [] [] H (by exact rfl) (by exact rfl) (by exact rfl) (by decide) (by exact rfl) (fun Kp1 s0 h0 H Q1 HK1 => ?_)
   refine AtC.seqR ?_
   refine AtL.pures hT 1 _ _ _ _ rfl ?_
   refine AtL.nil ?_
   refine AtE.then_n (AtE.go ?_)
   refine AtC.seq ?_
   refine AtC.condB H rfl (fun H => ?_) (fun H => ?_)
   ·
    refine AtC.skip ?_
    refine AtE.then_n (AtE.go ?_)
    refine AtC.seq ?_
    refine AtC.block ?_
    refine AtC.seqR ?_
    obtain ⟨a_, hc1, hd1, H⟩ := H
    refine AtL.q rfl (Quiet1.idxS (s := _) hT rfl rfl rfl rfl rfl hc1 hd1) ?_
    obtain ⟨v, hc2, H⟩ := H
    refine AtL.q rfl (Quiet1.loadS hT rfl rfl rfl rfl hc2) ?_
    refine AtL.e rfl (EffX.allocP (cs := [_, _, _, _, _, _, _, _, _, _]) hT rfl rfl H) ?_
    rintro _ _ ⟨b, _, rfl, rfl, _, H⟩
    replace H := H.self
    refine AtL.e rfl (EffX.storeSP (i := 0) (qv := [(_, [_, _, _, _, _, _, _, _, _, _])]) hT rfl rfl rfl rfl rfl rfl rfl rfl rfl rfl) ?_
    rintro _ _ rfl
    refine AtL.nil ?_
    refine AtE.then_n (AtE.go ?_)
    refine AtC.joinSeq (β := Unit) (fun (t0 : Bool) (bb : Unit) => [(29, Value.bool t0)]) (fun (t0 : Bool) (bb : Unit) => []) [8, 9, 10] [] H (by exact rfl) (by exact rfl) (fun t0 bb h0u2 H => ?_) (fun J4 H HK4 => ?_)
    ·
     refine AtC.condB H rfl (fun H => ?_) (fun H => ?_)
     ·
      refine AtC.seqR ?_
      refine AtL.pures hT 1 _ _ _ _ rfl ?_
      refine AtL.nil ?_
      refine AtE.then_n (AtE.go ?_)
      refine AtC.ret ?_
      refine AtE.blk_r ?_
      refine AtE.then_r ?_
      refine AtE.then_r ?_
      refine AtE.blk_r ?_
      refine AtE.then_r ?_
      exact AtE.retN (rs := [.tmp 2]) rfl (ResAll.cons (ResAt.tmp rfl) ResAll.nil) rfl H
     ·
      refine AtC.skip ?_
      refine AtE.blk_n ?_
      refine AtE.then_n (AtE.go ?_)
      refine AtC.region ?_
      refine AtL.pures hT 2 _ _ _ _ rfl ?_
      refine AtL.nil ?_
      exact AtE.then_n ((HK1 _ _ H).pickP (ts := [10, 8, 9]) (is := []) rfl rfl (by decide) rfl)
    ·
     refine AtC.region ?_
     refine AtL.pures hT 1 _ _ _ _ rfl ?_
     refine AtL.q rfl (Quiet1.loadP (i := 0) hT rfl rfl rfl rfl rfl rfl) ?_
     refine AtL.pures hT 3 _ _ _ _ rfl ?_
     refine AtL.splitB (t := 18) H rfl (fun H => ?_) (fun H => ?_)
     ·
      refine AtL.noF rfl rfl rfl (by decide) rfl ?_
      refine AtL.noF rfl rfl rfl (by decide) rfl ?_
      refine AtL.noF rfl rfl rfl (by decide) rfl ?_
      refine AtL.noF rfl rfl rfl (by decide) rfl ?_
      refine AtL.pures hT 2 _ _ _ _ rfl ?_
      refine AtL.noF rfl rfl rfl (by decide) rfl ?_
      refine AtL.noF rfl rfl rfl (by decide) rfl ?_
      refine AtL.noF rfl rfl rfl (by decide) rfl ?_
      refine AtL.noF rfl rfl rfl (by decide) rfl ?_
      refine AtL.pures hT 1 _ _ _ _ rfl ?_
      refine AtL.nil ?_
      exact AtE.then_n ((HK4 _ () _ H).pickP (ts := [29, 8, 9, 10]) (is := []) rfl rfl (by decide) rfl)
     ·
      refine AtL.yes rfl rfl rfl ?_
      refine AtL.pures hT 1 _ _ _ _ rfl ?_
      refine AtL.yes rfl rfl rfl ?_
      refine AtL.q rfl (Quiet1.loadP (i := 0) hT rfl rfl rfl rfl rfl rfl) ?_
      refine AtL.yes rfl rfl rfl ?_
      refine AtL.pures hT 1 _ _ _ _ rfl ?_
      refine AtL.yes rfl rfl rfl ?_
      refine AtL.pures hT 1 _ _ _ _ rfl ?_
      refine AtL.pures hT 2 _ _ _ _ rfl ?_
      refine AtL.splitB (t := 24) H rfl (fun H => ?_) (fun H => ?_)
      ·
       refine AtL.noF rfl rfl rfl (by decide) rfl ?_
       refine AtL.noF rfl rfl rfl (by decide) rfl ?_
       refine AtL.noF rfl rfl rfl (by decide) rfl ?_
       refine AtL.noF rfl rfl rfl (by decide) rfl ?_
       refine AtL.pures hT 1 _ _ _ _ rfl ?_
       refine AtL.nil ?_
       exact AtE.then_n ((HK4 _ () _ H).pickP (ts := [29, 8, 9, 10]) (is := []) rfl rfl (by decide) rfl)
      ·
       refine AtL.yes rfl rfl rfl ?_
       refine AtL.pures hT 1 _ _ _ _ rfl ?_
       refine AtL.yes rfl rfl rfl ?_
       refine AtL.q rfl (Quiet1.loadSP (i := 0) (l := [_, _, _, _, _, _]) hT rfl rfl rfl rfl rfl rfl rfl rfl) ?_
       refine AtL.yes rfl rfl rfl ?_
       refine AtLX.bs (hT := hT) (cs := [_, _, _, _, _, _]) H rfl rfl rfl rfl rfl rfl rfl rfl rfl (fun a_1 h0u3 H => ?_)
       refine AtL.yes rfl rfl rfl ?_
       refine AtL.e rfl (EffX.call (f := 26) (sh := fun h => law03uOdd _ h _) (H0 := H) rfl Tryd.call26 rfl (hl := fun w m hr hw => lift_law03uOdd _ w m hr _ hw)) ?_
       rintro _ _ ⟨v_2, h0u4, rfl, rfl, H⟩
       refine AtL.pures hT 1 _ _ _ _ rfl ?_
       refine AtL.nil ?_
       exact AtE.then_n ((HK4 _ () _ H).pickP (ts := [29, 8, 9, 10]) (is := []) rfl rfl (by decide) rfl)
   ·
    refine AtC.exit ?_
    refine AtE.then_x ?_
    refine AtE.then_x ?_
    refine AtE.blk_hit ?_
    refine AtE.then_n (AtE.go ?_)
    refine AtC.seqR ?_
    refine AtL.pures hT 1 _ _ _ _ rfl ?_
    refine AtL.nil ?_
    refine AtE.then_n (AtE.go ?_)
    refine AtC.ret ?_
    exact AtE.retN (rs := [.tmp 2]) rfl (ResAll.cons (ResAt.tmp rfl) ResAll.nil) rfl H

theorem lift_ref04uInt (out : Sl) (n : Int) (w : World) (m : Heap) (hr : Rel ⟨m, []⟩ w.heap) (S : Sl → Heap → Prop) (H : ref04uInt out n m S) :
    Calls Tryd.prog 42 #[Sl.toV out, Value.int .i64 n] w (Post ⟨w, m⟩ Sl.toV S) := by
  refine Calls.lift (args := [Sl.toV out, Value.int .i64 n]) Tryd.func42 rfl Tryd.ntmps42 (Nat.le_of_ble_eq_true rfl) hr (ref04uInt out n m S) H (fun H => ?_)
  refine AtC.pick (ts := [0, 1]) rfl ?_
  unfold ref04uInt at H
  refine AtC.seqR ?_
  refine AtL.pures hT 1 _ _ _ _ rfl ?_
  refine AtL.nil ?_
  refine AtE.then_n (AtE.go ?_)
  refine AtC.seqR ?_
  refine AtL.pures hT 3 _ _ _ _ rfl ?_
  replace H := H _ rfl
  refine AtL.nil ?_
  refine AtE.then_n (AtE.go ?_)
  refine AtC.seqR ?_
  refine AtL.q rfl (Quiet1.buildA (cs := [_, _, _, _, _, _, _, _]) hT rfl rfl rfl rfl rfl rfl) ?_
  refine AtL.e rfl (EffX.alloc hT rfl rfl H) ?_
  rintro _ _ ⟨b, h0, rfl, rfl, H⟩
  refine AtL.e rfl (EffX.storeS hT rfl rfl rfl rfl rfl rfl H) ?_
  rintro _ _ ⟨h0u1, rfl, H⟩
  refine AtL.nil ?_
  refine AtE.then_n (AtE.go ?_)
  refine AtC.seq ?_
  refine AtC.seqR ?_
  refine AtL.pures hT 1 _ _ _ _ rfl ?_
  refine AtL.nil ?_
  refine AtE.then_n (AtE.go ?_)
  refine AtC.block ?_
  refine AtC.loopM (fun (s0 : Int × Int) => [(5, Value.int .u64 s0.1), (7, Value.int .i64 s0.2)]) (fun (s0 : Int × Int) => []) [0, 6] [5, 7, 0, 6] [] [] H (by exact rfl) (by exact rfl) (by exact rfl) (by decide) (by exact rfl) (fun Kp1 s0 h0u2 H Q1 HK1 => ?_)
  refine AtC.seq ?_
  refine AtC.seqR ?_
  refine AtL.pures hT 2 _ _ _ _ rfl ?_
  refine AtL.nil ?_
  refine AtE.then_n (AtE.go ?_)
  refine AtC.condB H rfl (fun H => ?_) (fun H => ?_)
  ·
   refine AtC.skip ?_
   refine AtE.then_n (AtE.go ?_)
   refine AtC.seq ?_
   refine AtC.block ?_
   refine AtC.seqR ?_
   refine AtL.pures hT 4 _ _ _ _ rfl ?_
   obtain ⟨hd1, H⟩ := H
   refine AtL.q rfl (Quiet1.idxA hT rfl rfl rfl rfl rfl hd1) ?_
   refine AtL.e rfl (EffX.store hT rfl rfl rfl rfl rfl H) ?_
   rintro _ _ ⟨h0u3, rfl, H⟩
   refine AtL.nil ?_
   refine AtE.then_n (AtE.go ?_)
   refine AtC.region ?_
   refine AtL.pures hT 3 _ _ _ _ rfl ?_
   replace H := H _ rfl
   refine AtL.nil ?_
   refine AtE.blk_n ?_
   refine AtE.then_n (AtE.go ?_)
   refine AtC.region ?_
   refine AtL.pures hT 3 _ _ _ _ rfl ?_
   replace H := H _ rfl
   refine AtL.nil ?_
   exact AtE.then_n ((HK1 _ _ H).pickP (ts := [5, 7, 0, 6]) (is := []) rfl rfl (by decide) rfl)
  ·
   refine AtC.exit ?_
   refine AtE.then_x ?_
   refine AtE.then_x ?_
   refine AtE.blk_hit ?_
   refine AtE.then_n (AtE.go ?_)
   refine AtC.seqR ?_
   refine AtL.pures hT 1 _ _ _ _ rfl ?_
   refine AtL.q rfl (Quiet1.sliceArr hT rfl rfl rfl rfl) ?_
   refine AtL.e rfl (EffX.appendS (s := _) (u := _) hT rfl rfl rfl rfl rfl rfl rfl rfl rfl rfl (by decide) H) ?_
   rintro _ _ ⟨v_1, h0u4, rfl, rfl, H⟩
   refine AtL.pures hT 1 _ _ _ _ rfl ?_
   refine AtL.nil ?_
   refine AtE.then_n (AtE.go ?_)
   refine AtC.ret ?_
   exact AtE.retN (rs := [.tmp 4]) rfl (ResAll.cons (ResAt.tmp rfl) ResAll.nil) rfl H

theorem lift_pack_Out_Flag (o : (Option Addr)) (is : Bool) (w : World) (m : Heap) (hr : Rel ⟨m, []⟩ w.heap) (S : Unit → Heap → Prop) (H : pack_Out_Flag o is m S) :
    Calls Tryd.prog 43 #[Value.pointer o, Value.bool is] w (Post ⟨w, m⟩ (fun _ => Value.tuple #[]) S) := by
  refine Calls.lift (args := [Value.pointer o, Value.bool is]) Tryd.func43 rfl Tryd.ntmps43 (Nat.le_of_ble_eq_true rfl) hr (pack_Out_Flag o is m S) H (fun H => ?_)
  refine AtC.pick (ts := [0, 1]) rfl ?_
  unfold pack_Out_Flag at H
  refine AtC.seqR ?_
  refine AtL.pures hT 1 _ _ _ _ rfl ?_
  refine AtL.nil ?_
  refine AtE.then_n (AtE.go ?_)
  refine AtC.joinSeq (β := Unit) (fun (t0 : Int) (bb : Unit) => [(4, Value.int .u64 t0)]) (fun (t0 : Int) (bb : Unit) => []) [0] [] H (by exact rfl) (by exact rfl) (fun t0 bb h0 H => ?_) (fun J1 H HK1 => ?_)
  ·
   refine AtC.region ?_
   refine AtL.pures hT 2 _ _ _ _ rfl ?_
   refine AtL.e rfl (EffX.call (f := 61) (sh := fun h => pack_Out_number _ _ _ h _) (H0 := H) rfl Tryd.call61 rfl (hl := fun w m hr hw => lift_pack_Out_number _ _ _ w m hr _ hw)) ?_
   rintro _ _ ⟨v, h0u1, rfl, rfl, H⟩
   refine AtL.nil ?_
   exact AtE.endN rfl rfl H
  ·
   refine AtC.seqR ?_
   refine AtL.pures hT 1 _ _ _ _ rfl ?_
   refine AtL.nil ?_
   refine AtE.then_n (AtE.go ?_)
   refine AtC.condB H rfl (fun H => ?_) (fun H => ?_)
   ·
    refine AtC.region ?_
    refine AtL.pures hT 1 _ _ _ _ rfl ?_
    refine AtL.nil ?_
    exact AtE.then_n ((HK1 _ () _ H).pickP (ts := [4, 0]) (is := []) rfl rfl (by decide) rfl)
   ·
    refine AtC.skip ?_
    exact AtE.then_n ((HK1 _ () _ H).pickP (ts := [4, 0]) (is := []) rfl rfl (by decide) rfl)

theorem lift_ref04uFlag (out : Sl) (is : Bool) (w : World) (m : Heap) (hr : Rel ⟨m, []⟩ w.heap) (S : Sl → Heap → Prop) (H : ref04uFlag out is m S) :
    Calls Tryd.prog 44 #[Sl.toV out, Value.bool is] w (Post ⟨w, m⟩ Sl.toV S) := by
  refine Calls.lift (args := [Sl.toV out, Value.bool is]) Tryd.func44 rfl Tryd.ntmps44 (Nat.le_of_ble_eq_true rfl) hr (ref04uFlag out is m S) H (fun H => ?_)
  refine AtC.pick (ts := [0, 1]) rfl ?_
  unfold ref04uFlag at H
  refine AtC.seqR ?_
  refine AtL.pures hT 1 _ _ _ _ rfl ?_
  refine AtL.nil ?_
  refine AtE.then_n (AtE.go ?_)
  refine AtC.seq ?_
  refine AtC.seqR ?_
  refine AtL.pures hT 1 _ _ _ _ rfl ?_
  refine AtL.nil ?_
  refine AtE.then_n (AtE.go ?_)
  refine AtC.condB H rfl (fun H => ?_) (fun H => ?_)
  ·
   refine AtC.seqR ?_
   refine AtL.pures hT 1 _ _ _ _ rfl ?_
   refine AtLX.bs (hT := hT) (cs := [_]) H rfl rfl rfl rfl rfl rfl rfl rfl rfl (fun a h0 H => ?_)
   refine AtL.e rfl (EffX.appendS (s := _) (u := _) hT rfl rfl rfl rfl rfl rfl rfl rfl rfl rfl (by decide) H) ?_
   rintro _ _ ⟨v_1, h0u1, rfl, rfl, H⟩
   refine AtL.pures hT 1 _ _ _ _ rfl ?_
   refine AtL.nil ?_
   refine AtE.then_n (AtE.go ?_)
   refine AtC.ret ?_
   refine AtE.then_r ?_
   exact AtE.retN (rs := [.tmp 4]) rfl (ResAll.cons (ResAt.tmp rfl) ResAll.nil) rfl H
  ·
   refine AtC.skip ?_
   refine AtE.then_n (AtE.go ?_)
   refine AtC.seqR ?_
   refine AtL.pures hT 1 _ _ _ _ rfl ?_
   refine AtLX.bs (hT := hT) (cs := [_]) H rfl rfl rfl rfl rfl rfl rfl rfl rfl (fun a_1 h0u2 H => ?_)
   refine AtL.e rfl (EffX.appendS (s := _) (u := _) hT rfl rfl rfl rfl rfl rfl rfl rfl rfl rfl (by decide) H) ?_
   rintro _ _ ⟨v_3, h0u3, rfl, rfl, H⟩
   refine AtL.pures hT 1 _ _ _ _ rfl ?_
   refine AtL.nil ?_
   refine AtE.then_n (AtE.go ?_)
   refine AtC.ret ?_
   exact AtE.retN (rs := [.tmp 4]) rfl (ResAll.cons (ResAt.tmp rfl) ResAll.nil) rfl H

theorem lift_pack_Out_Bytes (o : (Option Addr)) (b : Sl) (w : World) (m : Heap) (hr : Rel ⟨m, []⟩ w.heap) (S : Unit → Heap → Prop) (H : pack_Out_Bytes o b m S) :
    Calls Tryd.prog 45 #[Value.pointer o, Sl.toV b] w (Post ⟨w, m⟩ (fun _ => Value.tuple #[]) S) := by
  refine Calls.lift (args := [Value.pointer o, Sl.toV b]) Tryd.func45 rfl Tryd.ntmps45 (Nat.le_of_ble_eq_true rfl) hr (pack_Out_Bytes o b m S) H (fun H => ?_)
  refine AtC.pick (ts := [0, 1]) rfl ?_
  unfold pack_Out_Bytes at H
  refine AtC.seqR ?_
  refine AtL.pures hT 3 _ _ _ _ rfl ?_
  refine AtL.e rfl (EffX.call (f := 25) (sh := fun h => pack_Out_Int _ _ h _) (H0 := H) rfl Tryd.call25 rfl (hl := fun w m hr hw => lift_pack_Out_Int _ _ w m hr _ hw)) ?_
  rintro _ _ ⟨v, h0, rfl, rfl, H⟩
  refine AtL.nil ?_
  refine AtE.then_n (AtE.go ?_)
  refine AtC.region ?_
  refine AtL.pures hT 2 _ _ _ _ rfl ?_
  obtain ⟨a, hc0, H⟩ := H
  refine AtL.q rfl (Quiet1.nilChk rfl rfl hc0) ?_
  refine AtL.pures hT 1 _ _ _ _ rfl ?_
  obtain ⟨v_1, hc1, H⟩ := H
  refine AtL.q rfl (Quiet1.load hT rfl rfl rfl hc1) ?_
  refine AtL.pures hT 1 _ _ _ _ rfl ?_
  refine AtL.e rfl (EffX.appendS (s := _) (u := _) hT rfl rfl rfl rfl rfl rfl rfl rfl rfl rfl (by decide) H) ?_
  rintro _ _ ⟨v_2, h0u1, rfl, rfl, H⟩
  obtain ⟨a_1, hc2, H⟩ := H
  refine AtL.q rfl (Quiet1.nilChk rfl rfl hc2) ?_
  refine AtL.pures hT 1 _ _ _ _ rfl ?_
  refine AtL.e rfl (EffX.store hT rfl rfl rfl rfl rfl H) ?_
  rintro _ _ ⟨h0u2, rfl, H⟩
  refine AtL.nil ?_
  exact AtE.endN rfl rfl H

theorem lift_ref04uBytes (out : Sl) (b : Sl) (w : World) (m : Heap) (hr : Rel ⟨m, []⟩ w.heap) (S : Sl → Heap → Prop) (H : ref04uBytes out b m S) :
    Calls Tryd.prog 46 #[Sl.toV out, Sl.toV b] w (Post ⟨w, m⟩ Sl.toV S) := by
  refine Calls.lift (args := [Sl.toV out, Sl.toV b]) Tryd.func46 rfl Tryd.ntmps46 (Nat.le_of_ble_eq_true rfl) hr (ref04uBytes out b m S) H (fun H => ?_)
  refine AtC.pick (ts := [0, 1]) rfl ?_
  unfold ref04uBytes at H
  refine AtC.seqR ?_
  refine AtL.pures hT 1 _ _ _ _ rfl ?_
  refine AtL.nil ?_
  refine AtE.then_n (AtE.go ?_)
  refine AtC.seqR ?_
  refine AtL.pures hT 3 _ _ _ _ rfl ?_
  refine AtL.e rfl (EffX.call (f := 42) (sh := fun h => ref04uInt _ _ h _) (H0 := H) rfl Tryd.call42 rfl (hl := fun w m hr hw => lift_ref04uInt _ _ w m hr _ hw)) ?_
  rintro _ _ ⟨v, h0, rfl, rfl, H⟩
  refine AtL.pures hT 1 _ _ _ _ rfl ?_
  refine AtL.e rfl (EffX.appendS (s := _) (u := _) hT rfl rfl rfl rfl rfl rfl rfl rfl rfl rfl (by decide) H) ?_
  rintro _ _ ⟨v_1, h0u1, rfl, rfl, H⟩
  refine AtL.pures hT 1 _ _ _ _ rfl ?_
  refine AtL.nil ?_
  refine AtE.then_n (AtE.go ?_)
  refine AtC.ret ?_
  exact AtE.retN (rs := [.tmp 4]) rfl (ResAll.cons (ResAt.tmp rfl) ResAll.nil) rfl H

theorem lift_pack_Out_limb (o : (Option Addr)) (n : Int) (w : World) (m : Heap) (hr : Rel ⟨m, []⟩ w.heap) (S : Unit → Heap → Prop) (H : pack_Out_limb o n m S) :
    Calls Tryd.prog 74 #[Value.pointer o, Value.int .u32 n] w (Post ⟨w, m⟩ (fun _ => Value.tuple #[]) S) := by
  refine Calls.lift (args := [Value.pointer o, Value.int .u32 n]) Tryd.func74 rfl Tryd.ntmps74 (Nat.le_of_ble_eq_true rfl) hr (pack_Out_limb o n m S) H (fun H => ?_)
  refine AtC.pick (ts := [0, 1]) rfl ?_
  unfold pack_Out_limb at H
  refine AtC.region ?_
  refine AtL.pures hT 3 _ _ _ _ rfl ?_
  refine AtL.e rfl (EffX.call (f := 61) (sh := fun h => pack_Out_number _ _ _ h _) (H0 := H) rfl Tryd.call61 rfl (hl := fun w m hr hw => lift_pack_Out_number _ _ _ w m hr _ hw)) ?_
  rintro _ _ ⟨v, h0, rfl, rfl, H⟩
  refine AtL.nil ?_
  exact AtE.endN rfl rfl H

theorem lift_pack_Put_uint32u_pack_Out_limb (o : (Option Addr)) (list : Sl) (put_b : (Option Addr)) (w : World) (m : Heap) (hr : Rel ⟨m, []⟩ w.heap) (S : Unit → Heap → Prop) (H : pack_Put_uint32u_pack_Out_limb o list put_b m S) :
    Calls Tryd.prog 73 #[Value.pointer o, Sl.toV list, Value.func (.func 74) #[Value.pointer put_b] #[]] w (Post ⟨w, m⟩ (fun _ => Value.tuple #[]) S) := by
  refine Calls.lift (args := [Value.pointer o, Sl.toV list, Value.func (.func 74) #[Value.pointer put_b] #[]]) Tryd.func73 rfl Tryd.ntmps73 (Nat.le_of_ble_eq_true rfl) hr (pack_Put_uint32u_pack_Out_limb o list put_b m S) H (fun H => ?_)
  refine AtC.pick (ts := [0, 1, 2]) rfl ?_
  unfold pack_Put_uint32u_pack_Out_limb at H
  refine AtC.seqR ?_
  refine AtL.pures hT 3 _ _ _ _ rfl ?_
  refine AtL.e rfl (EffX.call (f := 25) (sh := fun h => pack_Out_Int _ _ h _) (H0 := H) rfl Tryd.call25 rfl (hl := fun w m hr hw => lift_pack_Out_Int _ _ w m hr _ hw)) ?_
  rintro _ _ ⟨v, h0, rfl, rfl, H⟩
  refine AtL.nil ?_
  refine AtE.then_n (AtE.go ?_)
  refine AtC.seqR ?_
  refine AtL.pures hT 3 _ _ _ _ rfl ?_
  refine AtL.nil ?_
  refine AtE.then_n (AtE.go ?_)
  refine AtC.block ?_
  refine AtC.loopM (fun (s0 : Int) => [(14, Value.int .i64 s0)]) (fun (s0 : Int) => []) [2, 12, 13] [14, 2, 12, 13] [] [] H (by exact rfl) (by exact rfl) (by exact rfl) (by decide) (by exact rfl) (fun Kp1 s0 h0u1 H Q1 HK1 => ?_)
  refine AtC.seqR ?_
  refine AtL.pures hT 1 _ _ _ _ rfl ?_
  refine AtL.nil ?_
  refine AtE.then_n (AtE.go ?_)
  refine AtC.seq ?_
  refine AtC.condB H rfl (fun H => ?_) (fun H => ?_)
  ·
   refine AtC.skip ?_
   refine AtE.then_n (AtE.go ?_)
   refine AtC.seq ?_
   refine AtC.block ?_
   refine AtC.seqR ?_
   obtain ⟨a_, hc1, hd1, H⟩ := H
   refine AtL.q rfl (Quiet1.idxS (s := _) hT rfl rfl rfl rfl rfl hc1 hd1) ?_
   obtain ⟨v_1, hc2, H⟩ := H
   refine AtL.q rfl (Quiet1.load hT rfl rfl rfl hc2) ?_
   refine AtL.pures hT 1 _ _ _ _ rfl ?_
   refine AtL.nil ?_
   refine AtE.then_n (AtE.go ?_)
   refine AtC.region ?_
   refine AtL.pures hT 2 _ _ _ _ rfl ?_
   refine AtL.e rfl (EffX.callF (bs := [_]) (cs := []) (f := 74) (sh := fun h => pack_Out_limb _ _ h _) (H0 := H) rfl rfl Tryd.call74 rfl (hl := fun w m hr hw => lift_pack_Out_limb _ _ w m hr _ hw)) ?_
   rintro _ _ ⟨v_2, h0u2, rfl, rfl, H⟩
   refine AtL.nil ?_
   refine AtE.blk_n ?_
   refine AtE.then_n (AtE.go ?_)
   refine AtC.region ?_
   refine AtL.pures hT 2 _ _ _ _ rfl ?_
   refine AtL.nil ?_
   exact AtE.then_n ((HK1 _ _ H).pickP (ts := [14, 2, 12, 13]) (is := []) rfl rfl (by decide) rfl)
  ·
   refine AtC.exit ?_
   refine AtE.then_x ?_
   refine AtE.then_x ?_
   refine AtE.blk_hit ?_
   exact AtE.endN rfl rfl H

theorem lift_pack_Out_Ratio (o : (Option Addr)) (x0 : Bool × Sl × Sl) (w : World) (m : Heap) (hr : Rel ⟨m, []⟩ w.heap) (S : Unit → Heap → Prop) (H : pack_Out_Ratio o x0 m S) :
    Calls Tryd.prog 47 #[Value.pointer o, Value.agg (C_bool_sl_sl x0).toArray] w (Post ⟨w, m⟩ (fun _ => Value.tuple #[]) S) := by
  refine Calls.lift (args := [Value.pointer o, Value.agg (C_bool_sl_sl x0).toArray]) Tryd.func47 rfl Tryd.ntmps47 (Nat.le_of_ble_eq_true rfl) hr (pack_Out_Ratio o x0 m S) H (fun H => ?_)
  refine AtC.pick (ts := [0, 1]) rfl ?_
  unfold pack_Out_Ratio at H
  refine AtC.seqR ?_
  refine AtL.e rfl (EffX.boxP (cs := [_, _, _]) rfl rfl rfl H) ?_
  rintro _ _ ⟨b, _, rfl, rfl, _, H⟩
  refine AtL.nil ?_
  replace H := H.self
  refine AtE.then_n (AtE.go ?_)
  refine AtC.seqR ?_
  refine AtL.pures hT 3 _ _ _ _ rfl ?_
  refine AtL.q rfl (Quiet1.loadP (i := 0) hT rfl rfl rfl rfl rfl rfl) ?_
  refine AtL.e rfl (EffX.call (f := 43) (sh := fun h => pack_Out_Flag _ _ h _) (H0 := H) rfl Tryd.call43 rfl (hl := fun w m hr hw => lift_pack_Out_Flag _ _ w m hr _ hw)) ?_
  rintro _ _ ⟨v, h0u1, rfl, rfl, H⟩
  refine AtL.nil ?_
  refine AtE.then_n (AtE.go ?_)
  refine AtC.seqR ?_
  refine AtL.pures hT 3 _ _ _ _ rfl ?_
  refine AtL.q rfl (Quiet1.loadP (i := 0) hT rfl rfl rfl rfl rfl rfl) ?_
  refine AtL.pures hT 1 _ _ _ _ rfl ?_
  refine AtL.q rfl (Quiet1.makeFn (bs := [_]) (cs := []) rfl rfl rfl) ?_
  refine AtL.e rfl (EffX.call (f := 73) (sh := fun h => pack_Put_uint32u_pack_Out_limb _ _ _ h _) (H0 := H) rfl Tryd.call73 rfl (hl := fun w m hr hw => lift_pack_Put_uint32u_pack_Out_limb _ _ _ w m hr _ hw)) ?_
  rintro _ _ ⟨v_1, h0u2, rfl, rfl, H⟩
  refine AtL.nil ?_
  refine AtE.then_n (AtE.go ?_)
  refine AtC.region ?_
  refine AtL.pures hT 2 _ _ _ _ rfl ?_
  refine AtL.q rfl (Quiet1.loadP (i := 0) hT rfl rfl rfl rfl rfl rfl) ?_
  refine AtL.pures hT 1 _ _ _ _ rfl ?_
  refine AtL.q rfl (Quiet1.makeFn (bs := [_]) (cs := []) rfl rfl rfl) ?_
  refine AtL.e rfl (EffX.call (f := 73) (sh := fun h => pack_Put_uint32u_pack_Out_limb _ _ _ h _) (H0 := H) rfl Tryd.call73 rfl (hl := fun w m hr hw => lift_pack_Put_uint32u_pack_Out_limb _ _ _ w m hr _ hw)) ?_
  rintro _ _ ⟨v_2, h0u3, rfl, rfl, H⟩
  refine AtL.nil ?_
  exact AtE.endN rfl rfl H

theorem lift_ref04ulimbs (out : Sl) (l : Sl) (w : World) (m : Heap) (hr : Rel ⟨m, []⟩ w.heap) (S : Sl → Heap → Prop) (H : ref04ulimbs out l m S) :
    Calls Tryd.prog 75 #[Sl.toV out, Sl.toV l] w (Post ⟨w, m⟩ Sl.toV S) := by
  refine Calls.lift (args := [Sl.toV out, Sl.toV l]) Tryd.func75 rfl Tryd.ntmps75 (Nat.le_of_ble_eq_true rfl) hr (ref04ulimbs out l m S) H (fun H => ?_)
  refine AtC.pick (ts := [0, 1]) rfl ?_
  unfold ref04ulimbs at H
  refine AtC.seqR ?_
  refine AtL.pures hT 1 _ _ _ _ rfl ?_
  refine AtL.nil ?_
  refine AtE.then_n (AtE.go ?_)
  refine AtC.seqR ?_
  refine AtL.pures hT 3 _ _ _ _ rfl ?_
  refine AtL.e rfl (EffX.call (f := 42) (sh := fun h => ref04uInt _ _ h _) (H0 := H) rfl Tryd.call42 rfl (hl := fun w m hr hw => lift_ref04uInt _ _ w m hr _ hw)) ?_
  rintro _ _ ⟨v, h0, rfl, rfl, H⟩
  refine AtL.pures hT 1 _ _ _ _ rfl ?_
  refine AtL.nil ?_
  refine AtE.then_n (AtE.go ?_)
  refine AtC.seq ?_
  refine AtC.seqR ?_
  refine AtL.pures hT 1 _ _ _ _ rfl ?_
  refine AtL.nil ?_
  refine AtE.then_n (AtE.go ?_)
  refine AtC.block ?_
  refine AtC.loopM (fun (s0 : Sl × Int) => [(0, Sl.toV s0.1), (5, Value.int .i64 s0.2)]) (fun (s0 : Sl × Int) => []) [1] [0, 5, 1] [] [] H (by exact rfl) (by exact rfl) (by exact rfl) (by decide) (by exact rfl) (fun Kp1 s0 h0u1 H Q1 HK1 => ?_)
  refine AtC.seq ?_
  refine AtC.seqR ?_
  refine AtL.pures hT 4 _ _ _ _ rfl ?_
  refine AtL.nil ?_
  refine AtE.then_n (AtE.go ?_)
  refine AtC.condB H rfl (fun H => ?_) (fun H => ?_)
  ·
   refine AtC.skip ?_
   refine AtE.then_n (AtE.go ?_)
   refine AtC.seq ?_
   refine AtC.block ?_
   obtain ⟨a_, hc1, hd1, H⟩ := H
   obtain ⟨v_1, hc2, H⟩ := H
   obtain ⟨a_1_, hc3, hd3, H⟩ := H
   obtain ⟨v_2, hc4, H⟩ := H
   obtain ⟨a_2_, hc5, hd5, H⟩ := H
   obtain ⟨v_3, hc6, H⟩ := H
   obtain ⟨a_3_, hc7, hd7, H⟩ := H
   obtain ⟨v_4, hc8, H⟩ := H
   apply AtC.stages [27, 28, 29] [[], [], [], [], [], [], [], [], [], [], [], [], [], [], [], [], [], [], [], [], [], [], [], [], [], [], [], [], [27], [27, 28]] [[], [], [], [1, 2], [1, 2, 3], [1, 2, 3, 4], [1, 2, 3, 4, 5], [], [], [7, 8], [7, 8, 9], [7, 8, 9, 10], [7, 8, 9, 10, 11], [7, 8, 9, 10, 11, 12], [], [], [14, 15], [14, 15, 16], [14, 15, 16, 17], [14, 15, 16, 17, 18], [14, 15, 16, 17, 18, 19], [], [], [21, 22], [21, 22, 23], [21, 22, 23, 24], [21, 22, 23, 24, 25], [1, 2, 3, 4, 5, 6, 7, 8, 9, 10, 11, 12, 13, 14, 15, 16, 17, 18, 19, 20, 21, 22, 23, 24, 25, 26], [0, 1, 2, 3, 4, 5, 6, 7, 8, 9, 10, 11, 12, 13, 14, 15, 16, 17, 18, 19, 20, 21, 22, 23, 24, 25, 26, 27], [0, 1, 2, 3, 4, 5, 6, 7, 8, 9, 10, 11, 12, 13, 14, 15, 16, 17, 18, 19, 20, 21, 22, 23, 24, 25, 26, 27, 28]] hmix (by kernel_rfl) [(16, _), (17, _), (18, _), (19, _), (20, _), (21, _), (22, _), (23, _), (24, _), (25, _), (26, _), (27, _), (28, _), (29, _), (30, _), (31, _), (32, _), (33, _), (34, _), (35, _), (36, _), (37, _), (38, _), (39, _), (40, _), (41, _), (42, _)] rfl 3 rfl
   refine Stg.go [0, 1, 2, 3, 4, 5, 6, 7, 8, 9, 10, 11, 12, 13, 14, 15, 16, 17, 18, 19, 20, 21, 22, 23, 24, 25, 26] [27] rfl rfl (QAll.cons (QOp.p hT rfl rfl rfl rfl rfl) (QAll.cons (QOp.p hT rfl rfl rfl rfl rfl) (QAll.cons (QOp.p hT rfl rfl rfl rfl rfl) (QAll.cons (QOp.q rfl rfl (Quiet1.idxS (s := _) hT rfl rfl rfl rfl rfl hc1 hd1) rfl rfl) (QAll.cons (QOp.q rfl rfl (Quiet1.load hT rfl rfl rfl hc2) rfl rfl) (QAll.cons (QOp.p hT rfl rfl rfl rfl rfl) (QAll.cons (QOp.p hT rfl rfl rfl rfl rfl) (QAll.cons (QOp.p hT rfl rfl rfl rfl rfl) (QAll.cons (QOp.p hT rfl rfl rfl rfl rfl) (QAll.cons (QOp.q rfl rfl (Quiet1.idxS (s := _) hT rfl rfl rfl rfl rfl hc3 hd3) rfl rfl) (QAll.cons (QOp.q rfl rfl (Quiet1.load hT rfl rfl rfl hc4) rfl rfl) (QAll.cons (QOp.p hT rfl rfl rfl rfl rfl) (QAll.cons (QOp.p hT rfl rfl rfl rfl rfl) (QAll.cons (QOp.p hT rfl rfl rfl rfl rfl) (QAll.cons (QOp.p hT rfl rfl rfl rfl rfl) (QAll.cons (QOp.p hT rfl rfl rfl rfl rfl) (QAll.cons (QOp.q rfl rfl (Quiet1.idxS (s := _) hT rfl rfl rfl rfl rfl hc5 hd5) rfl rfl) (QAll.cons (QOp.q rfl rfl (Quiet1.load hT rfl rfl rfl hc6) rfl rfl) (QAll.cons (QOp.p hT rfl rfl rfl rfl rfl) (QAll.cons (QOp.p hT rfl rfl rfl rfl rfl) (QAll.cons (QOp.p hT rfl rfl rfl rfl rfl) (QAll.cons (QOp.p hT rfl rfl rfl rfl rfl) (QAll.cons (QOp.p hT rfl rfl rfl rfl rfl) (QAll.cons (QOp.q rfl rfl (Quiet1.idxS (s := _) hT rfl rfl rfl rfl rfl hc7 hd7) rfl rfl) (QAll.cons (QOp.q rfl rfl (Quiet1.load hT rfl rfl rfl hc8) rfl rfl) (QAll.cons (QOp.p hT rfl rfl rfl rfl rfl) (QAll.cons (QOp.p hT rfl rfl rfl rfl rfl) QAll.nil))))))))))))))))))))))))))) ?_
   refine EAll.cons ?_ EAll.nil
   refine EOp.e rfl rfl rfl (EffX.buildS2 (cs := [_, _, _, _]) hT rfl rfl rfl rfl rfl rfl rfl rfl H) ?_
   rintro _ _ ⟨a_4, h0u2, rfl, rfl, H⟩
   apply Stg.next [(43, _)] rfl rfl
   refine Stg.go [0] [28] rfl rfl (QAll.cons (QOp.p hT rfl rfl rfl rfl rfl) QAll.nil) ?_
   refine EAll.cons ?_ EAll.nil
   refine EOp.e rfl rfl rfl (EffX.appendS (s := _) (u := _) hT rfl rfl rfl rfl rfl rfl rfl rfl rfl rfl (by decide) H) ?_
   rintro _ _ ⟨v_6, h0u3, rfl, rfl, H⟩
   apply Stg.next [(44, _)] rfl rfl
   refine Stg.go [] [29] rfl rfl QAll.nil ?_
   refine EAll.cons ?_ EAll.nil
   refine EOp.e rfl rfl rfl (Eff.ofPure hT rfl) ?_
   rintro _ _ ⟨rfl, rfl⟩
   apply Stg.next [(0, _)] rfl rfl
   refine Stg.fin [] rfl rfl QAll.nil ?_
   refine AtE.blk_n ?_
   refine AtE.then_n (AtE.go ?_)
   refine AtC.region ?_
   refine AtL.pures hT 3 _ _ _ _ rfl ?_
   replace H := H _ rfl
   refine AtL.nil ?_
   exact AtE.then_n ((HK1 _ _ H).pickP (ts := [0, 5, 1]) (is := []) rfl rfl (by decide) rfl)
  ·
   refine AtC.exit ?_
   refine AtE.then_x ?_
   refine AtE.then_x ?_
   refine AtE.blk_hit ?_
   refine AtE.then_n (AtE.go ?_)
   refine AtC.seqR ?_
   refine AtL.pures hT 2 _ _ _ _ rfl ?_
   refine AtL.nil ?_
   refine AtE.then_n (AtE.go ?_)
   refine AtC.ret ?_
   exact AtE.retN (rs := [.tmp 4]) rfl (ResAll.cons (ResAt.tmp rfl) ResAll.nil) rfl H

theorem lift_ref04uRatio (out : Sl) (x0 : Bool × Sl × Sl) (w : World) (m : Heap) (hr : Rel ⟨m, []⟩ w.heap) (S : Sl → Heap → Prop) (H : ref04uRatio out x0 m S) :
    Calls Tryd.prog 48 #[Sl.toV out, Value.agg (C_bool_sl_sl x0).toArray] w (Post ⟨w, m⟩ Sl.toV S) := by
  refine Calls.lift (args := [Sl.toV out, Value.agg (C_bool_sl_sl x0).toArray]) Tryd.func48 rfl Tryd.ntmps48 (Nat.le_of_ble_eq_true rfl) hr (ref04uRatio out x0 m S) H (fun H => ?_)
  refine AtC.pick (ts := [0, 1]) rfl ?_
  unfold ref04uRatio at H
  refine AtC.seqR ?_
  refine AtL.e rfl (EffX.boxP (cs := [_, _, _]) rfl rfl rfl H) ?_
  rintro _ _ ⟨b, _, rfl, rfl, _, H⟩
  replace H := H.self
  refine AtL.pures hT 1 _ _ _ _ rfl ?_
  refine AtL.nil ?_
  refine AtE.then_n (AtE.go ?_)
  apply AtC.seqS [4, 8, 11] [[], [], [], [], [], [], [], [], [4], [], [], [4, 8], [4, 8, 11]] [[], [], [1], [1, 2], [0, 1, 2, 3], [], [5], [5, 6], [0, 1, 2, 3, 4, 5, 6, 7], [], [9], [0, 1, 2, 3, 4, 5, 6, 7, 8, 9, 10], [0, 1, 2, 3, 4, 5, 6, 7, 8, 9, 10, 11]] hmix (by kernel_rfl) [(5, _), (6, _), (7, _), (8, _), (10, _), (11, _), (12, _), (14, _), (15, _)] rfl 3 rfl
  refine Stg.go [0, 1, 2, 3, 5, 6, 7, 9, 10] [4] rfl rfl (QAll.cons (QOp.p hT rfl rfl rfl rfl rfl) (QAll.cons (QOp.p hT rfl rfl rfl rfl rfl) (QAll.cons (QOp.p hT rfl rfl rfl rfl rfl) (QAll.cons (QOp.q rfl rfl (Quiet1.loadP (i := 0) hT rfl rfl rfl rfl rfl rfl) rfl rfl) (QAll.cons (QOp.p hT rfl rfl rfl rfl rfl) (QAll.cons (QOp.p hT rfl rfl rfl rfl rfl) (QAll.cons (QOp.q rfl rfl (Quiet1.loadP (i := 0) hT rfl rfl rfl rfl rfl rfl) rfl rfl) (QAll.cons (QOp.p hT rfl rfl rfl rfl rfl) (QAll.cons (QOp.q rfl rfl (Quiet1.loadP (i := 0) hT rfl rfl rfl rfl rfl rfl) rfl rfl) QAll.nil))))))))) ?_
  refine EAll.cons ?_ EAll.nil
  refine EOp.e rfl rfl rfl (EffX.call (f := 44) (sh := fun h => ref04uFlag _ _ h _) (H0 := H) rfl Tryd.call44 rfl (hl := fun w m hr hw => lift_ref04uFlag _ _ w m hr _ hw)) ?_
  rintro _ _ ⟨v, h0u1, rfl, rfl, H⟩
  apply Stg.next [(9, _)] rfl rfl
  refine Stg.go [5, 6, 7, 9, 10] [8] rfl rfl (QAll.cons (QOp.p hT rfl rfl rfl rfl rfl) (QAll.cons (QOp.p hT rfl rfl rfl rfl rfl) (QAll.cons (QOp.q rfl rfl (Quiet1.loadP (i := 0) hT rfl rfl rfl rfl rfl rfl) rfl rfl) (QAll.cons (QOp.p hT rfl rfl rfl rfl rfl) (QAll.cons (QOp.q rfl rfl (Quiet1.loadP (i := 0) hT rfl rfl rfl rfl rfl rfl) rfl rfl) QAll.nil))))) ?_
  refine EAll.cons ?_ EAll.nil
  refine EOp.e rfl rfl rfl (EffX.call (f := 75) (sh := fun h => ref04ulimbs _ _ h _) (H0 := H) rfl Tryd.call75 rfl (hl := fun w m hr hw => lift_ref04ulimbs _ _ w m hr _ hw)) ?_
  rintro _ _ ⟨v_1, h0u2, rfl, rfl, H⟩
  apply Stg.next [(13, _)] rfl rfl
  refine Stg.go [9, 10] [11] rfl rfl (QAll.cons (QOp.p hT rfl rfl rfl rfl rfl) (QAll.cons (QOp.q rfl rfl (Quiet1.loadP (i := 0) hT rfl rfl rfl rfl rfl rfl) rfl rfl) QAll.nil)) ?_
  refine EAll.cons ?_ EAll.nil
  refine EOp.e rfl rfl rfl (EffX.call (f := 75) (sh := fun h => ref04ulimbs _ _ h _) (H0 := H) rfl Tryd.call75 rfl (hl := fun w m hr hw => lift_ref04ulimbs _ _ w m hr _ hw)) ?_
  rintro _ _ ⟨v_2, h0u3, rfl, rfl, H⟩
  apply Stg.next [(16, _), (4, _)] rfl rfl
  refine Stg.fin [12] rfl rfl (QAll.cons (QOp.p hT rfl rfl rfl rfl rfl) QAll.nil) ?_
  refine AtE.then_n (AtE.go ?_)
  refine AtC.ret ?_
  exact AtE.retN (rs := [.tmp 4]) rfl (ResAll.cons (ResAt.tmp rfl) ResAll.nil) rfl H

theorem lift_pack_Out_Delta (o : (Option Addr)) (x0 : Bool × Sl × Sl × Bool × Sl × Sl) (w : World) (m : Heap) (hr : Rel ⟨m, []⟩ w.heap) (S : Unit → Heap → Prop) (H : pack_Out_Delta o x0 m S) :
    Calls Tryd.prog 49 #[Value.pointer o, Value.agg (C_bool_sl_sl_bool_sl_sl x0).toArray] w (Post ⟨w, m⟩ (fun _ => Value.tuple #[]) S) := by
  refine Calls.lift (args := [Value.pointer o, Value.agg (C_bool_sl_sl_bool_sl_sl x0).toArray]) Tryd.func49 rfl Tryd.ntmps49 (Nat.le_of_ble_eq_true rfl) hr (pack_Out_Delta o x0 m S) H (fun H => ?_)
  refine AtC.pick (ts := [0, 1]) rfl ?_
  unfold pack_Out_Delta at H
  refine AtC.seqR ?_
  refine AtL.e rfl (EffX.boxP (cs := [_, _, _, _, _, _]) rfl rfl rfl H) ?_
  rintro _ _ ⟨b, _, rfl, rfl, _, H⟩
  refine AtL.nil ?_
  replace H := H.self
  refine AtE.then_n (AtE.go ?_)
  refine AtC.seqR ?_
  refine AtL.pures hT 2 _ _ _ _ rfl ?_
  refine AtL.q rfl (Quiet1.loadSP (i := 0) (l := [_, _, _]) hT rfl rfl rfl rfl rfl rfl rfl rfl) ?_
  refine AtL.e rfl (EffX.call (f := 47) (sh := fun h => pack_Out_Ratio _ _ h _) (H0 := H) rfl Tryd.call47 rfl (hl := fun w m hr hw => lift_pack_Out_Ratio _ _ w m hr _ hw)) ?_
  rintro _ _ ⟨v, h0u1, rfl, rfl, H⟩
  refine AtL.nil ?_
  refine AtE.then_n (AtE.go ?_)
  refine AtC.region ?_
  refine AtL.pures hT 2 _ _ _ _ rfl ?_
  refine AtL.q rfl (Quiet1.loadSP (i := 0) (l := [_, _, _]) hT rfl rfl rfl rfl rfl rfl rfl rfl) ?_
  refine AtL.e rfl (EffX.call (f := 47) (sh := fun h => pack_Out_Ratio _ _ h _) (H0 := H) rfl Tryd.call47 rfl (hl := fun w m hr hw => lift_pack_Out_Ratio _ _ w m hr _ hw)) ?_
  rintro _ _ ⟨v_1, h0u2, rfl, rfl, H⟩
  refine AtL.nil ?_
  exact AtE.endN rfl rfl H

theorem lift_ref04uDelta (out : Sl) (x0 : Bool × Sl × Sl × Bool × Sl × Sl) (w : World) (m : Heap) (hr : Rel ⟨m, []⟩ w.heap) (S : Sl → Heap → Prop) (H : ref04uDelta out x0 m S) :
    Calls Tryd.prog 50 #[Sl.toV out, Value.agg (C_bool_sl_sl_bool_sl_sl x0).toArray] w (Post ⟨w, m⟩ Sl.toV S) := by
  refine Calls.lift (args := [Sl.toV out, Value.agg (C_bool_sl_sl_bool_sl_sl x0).toArray]) Tryd.func50 rfl Tryd.ntmps50 (Nat.le_of_ble_eq_true rfl) hr (ref04uDelta out x0 m S) H (fun H => ?_)
  refine AtC.pick (ts := [0, 1]) rfl ?_
  unfold ref04uDelta at H
  refine AtC.seqR ?_
  refine AtL.e rfl (EffX.boxP (cs := [_, _, _, _, _, _]) rfl rfl rfl H) ?_
  rintro _ _ ⟨b, _, rfl, rfl, _, H⟩
  replace H := H.self
  refine AtL.pures hT 1 _ _ _ _ rfl ?_
  refine AtL.nil ?_
  refine AtE.then_n (AtE.go ?_)
  apply AtC.seqS [3, 6] [[], [], [], [], [], [], [3], [3, 6]] [[], [], [1], [0, 1, 2], [], [4], [0, 1, 2, 3, 4, 5], [0, 1, 2, 3, 4, 5, 6]] hmix (by kernel_rfl) [(5, _), (6, _), (7, _), (9, _), (10, _)] rfl 2 rfl
  refine Stg.go [0, 1, 2, 4, 5] [3] rfl rfl (QAll.cons (QOp.p hT rfl rfl rfl rfl rfl) (QAll.cons (QOp.p hT rfl rfl rfl rfl rfl) (QAll.cons (QOp.q rfl rfl (Quiet1.loadSP (i := 0) (l := [_, _, _]) hT rfl rfl rfl rfl rfl rfl rfl rfl) rfl rfl) (QAll.cons (QOp.p hT rfl rfl rfl rfl rfl) (QAll.cons (QOp.q rfl rfl (Quiet1.loadSP (i := 0) (l := [_, _, _]) hT rfl rfl rfl rfl rfl rfl rfl rfl) rfl rfl) QAll.nil))))) ?_
  refine EAll.cons ?_ EAll.nil
  refine EOp.e rfl rfl rfl (EffX.call (f := 48) (sh := fun h => ref04uRatio _ _ h _) (H0 := H) rfl Tryd.call48 rfl (hl := fun w m hr hw => lift_ref04uRatio _ _ w m hr _ hw)) ?_
  rintro _ _ ⟨v, h0u1, rfl, rfl, H⟩
  apply Stg.next [(8, _)] rfl rfl
  refine Stg.go [4, 5] [6] rfl rfl (QAll.cons (QOp.p hT rfl rfl rfl rfl rfl) (QAll.cons (QOp.q rfl rfl (Quiet1.loadSP (i := 0) (l := [_, _, _]) hT rfl rfl rfl rfl rfl rfl rfl rfl) rfl rfl) QAll.nil)) ?_
  refine EAll.cons ?_ EAll.nil
  refine EOp.e rfl rfl rfl (EffX.call (f := 48) (sh := fun h => ref04uRatio _ _ h _) (H0 := H) rfl Tryd.call48 rfl (hl := fun w m hr hw => lift_ref04uRatio _ _ w m hr _ hw)) ?_
  rintro _ _ ⟨v_1, h0u2, rfl, rfl, H⟩
  apply Stg.next [(11, _), (4, _)] rfl rfl
  refine Stg.fin [7] rfl rfl (QAll.cons (QOp.p hT rfl rfl rfl rfl rfl) QAll.nil) ?_
  refine AtE.then_n (AtE.go ?_)
  refine AtC.ret ?_
  exact AtE.retN (rs := [.tmp 4]) rfl (ResAll.cons (ResAt.tmp rfl) ResAll.nil) rfl H

theorem lift_pack_Put_int__pack_Out_Int (o : (Option Addr)) (list : Sl) (put_b : (Option Addr)) (w : World) (m : Heap) (hr : Rel ⟨m, []⟩ w.heap) (S : Unit → Heap → Prop) (H : pack_Put_int__pack_Out_Int o list put_b m S) :
    Calls Tryd.prog 51 #[Value.pointer o, Sl.toV list, Value.func (.func 25) #[Value.pointer put_b] #[]] w (Post ⟨w, m⟩ (fun _ => Value.tuple #[]) S) := by
  refine Calls.lift (args := [Value.pointer o, Sl.toV list, Value.func (.func 25) #[Value.pointer put_b] #[]]) Tryd.func51 rfl Tryd.ntmps51 (Nat.le_of_ble_eq_true rfl) hr (pack_Put_int__pack_Out_Int o list put_b m S) H (fun H => ?_)
  refine AtC.pick (ts := [0, 1, 2]) rfl ?_
  unfold pack_Put_int__pack_Out_Int at H
  refine AtC.seqR ?_
  refine AtL.pures hT 3 _ _ _ _ rfl ?_
  refine AtL.e rfl (EffX.call (f := 25) (sh := fun h => pack_Out_Int _ _ h _) (H0 := H) rfl Tryd.call25 rfl (hl := fun w m hr hw => lift_pack_Out_Int _ _ w m hr _ hw)) ?_
  rintro _ _ ⟨v, h0, rfl, rfl, H⟩
  refine AtL.nil ?_
  refine AtE.then_n (AtE.go ?_)
  refine AtC.seqR ?_
  refine AtL.pures hT 3 _ _ _ _ rfl ?_
  refine AtL.nil ?_
  refine AtE.then_n (AtE.go ?_)
  refine AtC.block ?_
  refine AtC.loopM (fun (s0 : Int) => [(14, Value.int .i64 s0)]) (fun (s0 : Int) => []) [2, 12, 13] [14, 2, 12, 13] [] [] H (by exact rfl) (by exact rfl) (by exact rfl) (by decide) (by exact rfl) (fun Kp1 s0 h0u1 H Q1 HK1 => ?_)
  refine AtC.seqR ?_
  refine AtL.pures hT 1 _ _ _ _ rfl ?_
  refine AtL.nil ?_
  refine AtE.then_n (AtE.go ?_)
  refine AtC.seq ?_
  refine AtC.condB H rfl (fun H => ?_) (fun H => ?_)
  ·
   refine AtC.skip ?_
   refine AtE.then_n (AtE.go ?_)
   refine AtC.seq ?_
   refine AtC.block ?_
   refine AtC.seqR ?_
   obtain ⟨a_, hc1, hd1, H⟩ := H
   refine AtL.q rfl (Quiet1.idxS (s := _) hT rfl rfl rfl rfl rfl hc1 hd1) ?_
   obtain ⟨v_1, hc2, H⟩ := H
   refine AtL.q rfl (Quiet1.load hT rfl rfl rfl hc2) ?_
   refine AtL.pures hT 1 _ _ _ _ rfl ?_
   refine AtL.nil ?_
   refine AtE.then_n (AtE.go ?_)
   refine AtC.region ?_
   refine AtL.pures hT 2 _ _ _ _ rfl ?_
   refine AtL.e rfl (EffX.callF (bs := [_]) (cs := []) (f := 25) (sh := fun h => pack_Out_Int _ _ h _) (H0 := H) rfl rfl Tryd.call25 rfl (hl := fun w m hr hw => lift_pack_Out_Int _ _ w m hr _ hw)) ?_
   rintro _ _ ⟨v_2, h0u2, rfl, rfl, H⟩
   refine AtL.nil ?_
   refine AtE.blk_n ?_
   refine AtE.then_n (AtE.go ?_)
   refine AtC.region ?_
   refine AtL.pures hT 2 _ _ _ _ rfl ?_
   refine AtL.nil ?_
   exact AtE.then_n ((HK1 _ _ H).pickP (ts := [14, 2, 12, 13]) (is := []) rfl rfl (by decide) rfl)
  ·
   refine AtC.exit ?_
   refine AtE.then_x ?_
   refine AtE.then_x ?_
   refine AtE.blk_hit ?_
   exact AtE.endN rfl rfl H

theorem lift_law04uput (o : (Option Addr)) (out : Sl) (t0 : Int × Int × Sl × Bool × Sl × Sl × Bool × Sl × Sl × Sl) (w : World) (m : Heap) (hr : Rel ⟨m, []⟩ w.heap) (S : Sl → Heap → Prop) (H : law04uput o out t0 m S) :
    Calls Tryd.prog 15 #[Value.pointer o, Sl.toV out, Value.agg (C_i64ui64usl_bool_sl_sl_bool_sl_sl_sl t0).toArray] w (Post ⟨w, m⟩ Sl.toV S) := by
  refine Calls.lift (args := [Value.pointer o, Sl.toV out, Value.agg (C_i64ui64usl_bool_sl_sl_bool_sl_sl_sl t0).toArray]) Tryd.func15 rfl Tryd.ntmps15 (Nat.le_of_ble_eq_true rfl) hr (law04uput o out t0 m S) H (fun H => ?_)
  refine AtC.pick (ts := [0, 1, 2]) rfl ?_
  unfold law04uput at H
  refine AtC.seqR ?_
  refine AtL.e rfl (EffX.boxP (cs := [_, _, _, _, _, _, _, _, _, _]) rfl rfl rfl H) ?_
  rintro _ _ ⟨b, _, rfl, rfl, _, H⟩
  replace H := H.self
  refine AtL.pures hT 1 _ _ _ _ rfl ?_
  refine AtL.nil ?_
  refine AtE.then_n (AtE.go ?_)
  refine AtC.joinSeq (β := Unit) (fun (t0u1 : Sl) (bb : Unit) => [(1, Sl.toV t0u1)]) (fun (t0u1 : Sl) (bb : Unit) => []) [] [] H (by exact rfl) (by exact rfl) (fun t0u1 bb h0u1 H => ?_) (fun J1 H HK1 => ?_)
  ·
   refine AtC.seqR ?_
   refine AtL.pures hT 2 _ _ _ _ rfl ?_
   refine AtL.nil ?_
   refine AtE.then_n (AtE.go ?_)
   refine AtC.ret ?_
   exact AtE.retN (rs := [.tmp 6]) rfl (ResAll.cons (ResAt.tmp rfl) ResAll.nil) rfl H
  ·
   refine AtC.seqR ?_
   refine AtL.pures hT 1 _ _ _ _ rfl ?_
   refine AtL.q rfl (Quiet1.loadP (i := 0) hT rfl rfl rfl rfl rfl rfl) ?_
   refine AtL.nil ?_
   refine AtE.then_n (AtE.go ?_)
   refine AtC.block ?_
   refine AtC.seqR ?_
   refine AtL.pures hT 2 _ _ _ _ rfl ?_
   refine AtL.nil ?_
   refine AtE.then_n (AtE.go ?_)
   refine AtC.condB H rfl (fun H => ?_) (fun H => ?_)
   ·
    refine AtC.seqR ?_
    refine AtL.pures hT 2 _ _ _ _ rfl ?_
    refine AtL.q rfl (Quiet1.loadP (i := 0) hT rfl rfl rfl rfl rfl rfl) ?_
    refine AtL.e rfl (EffX.call (f := 25) (sh := fun h => pack_Out_Int _ _ h _) (H0 := H) rfl Tryd.call25 rfl (hl := fun w m hr hw => lift_pack_Out_Int _ _ w m hr _ hw)) ?_
    rintro _ _ ⟨v, h0u2, rfl, rfl, H⟩
    refine AtL.nil ?_
    refine AtE.then_n (AtE.go ?_)
    refine AtC.seqR ?_
    refine AtL.pures hT 2 _ _ _ _ rfl ?_
    refine AtL.q rfl (Quiet1.loadP (i := 0) hT rfl rfl rfl rfl rfl rfl) ?_
    refine AtL.e rfl (EffX.call (f := 42) (sh := fun h => ref04uInt _ _ h _) (H0 := H) rfl Tryd.call42 rfl (hl := fun w m hr hw => lift_ref04uInt _ _ w m hr _ hw)) ?_
    rintro _ _ ⟨v_1, h0u3, rfl, rfl, H⟩
    refine AtL.pures hT 1 _ _ _ _ rfl ?_
    refine AtL.nil ?_
    refine AtE.then_n (AtE.go ?_)
    refine AtC.ret ?_
    refine AtE.blk_r ?_
    refine AtE.then_r ?_
    exact AtE.retN (rs := [.tmp 6]) rfl (ResAll.cons (ResAt.tmp rfl) ResAll.nil) rfl H
   ·
    refine AtC.seqR ?_
    refine AtL.pures hT 2 _ _ _ _ rfl ?_
    refine AtL.nil ?_
    refine AtE.then_n (AtE.go ?_)
    refine AtC.condB H rfl (fun H => ?_) (fun H => ?_)
    ·
     refine AtC.seqR ?_
     refine AtL.pures hT 2 _ _ _ _ rfl ?_
     refine AtL.q rfl (Quiet1.loadP (i := 0) hT rfl rfl rfl rfl rfl rfl) ?_
     refine AtL.pures hT 2 _ _ _ _ rfl ?_
     refine AtL.e rfl (EffX.call (f := 43) (sh := fun h => pack_Out_Flag _ _ h _) (H0 := H) rfl Tryd.call43 rfl (hl := fun w m hr hw => lift_pack_Out_Flag _ _ w m hr _ hw)) ?_
     rintro _ _ ⟨v_2, h0u4, rfl, rfl, H⟩
     refine AtL.nil ?_
     refine AtE.then_n (AtE.go ?_)
     refine AtC.seqR ?_
     refine AtL.pures hT 2 _ _ _ _ rfl ?_
     refine AtL.q rfl (Quiet1.loadP (i := 0) hT rfl rfl rfl rfl rfl rfl) ?_
     refine AtL.pures hT 2 _ _ _ _ rfl ?_
     refine AtL.e rfl (EffX.call (f := 44) (sh := fun h => ref04uFlag _ _ h _) (H0 := H) rfl Tryd.call44 rfl (hl := fun w m hr hw => lift_ref04uFlag _ _ w m hr _ hw)) ?_
     rintro _ _ ⟨v_3, h0u5, rfl, rfl, H⟩
     refine AtL.pures hT 1 _ _ _ _ rfl ?_
     refine AtL.nil ?_
     refine AtE.then_n (AtE.go ?_)
     refine AtC.ret ?_
     refine AtE.blk_r ?_
     refine AtE.then_r ?_
     exact AtE.retN (rs := [.tmp 6]) rfl (ResAll.cons (ResAt.tmp rfl) ResAll.nil) rfl H
    ·
     refine AtC.seqR ?_
     refine AtL.pures hT 2 _ _ _ _ rfl ?_
     refine AtL.nil ?_
     refine AtE.then_n (AtE.go ?_)
     refine AtC.condB H rfl (fun H => ?_) (fun H => ?_)
     ·
      refine AtC.seqR ?_
      refine AtL.pures hT 2 _ _ _ _ rfl ?_
      refine AtL.q rfl (Quiet1.loadP (i := 0) hT rfl rfl rfl rfl rfl rfl) ?_
      refine AtL.e rfl (EffX.call (f := 45) (sh := fun h => pack_Out_Bytes _ _ h _) (H0 := H) rfl Tryd.call45 rfl (hl := fun w m hr hw => lift_pack_Out_Bytes _ _ w m hr _ hw)) ?_
      rintro _ _ ⟨v_4, h0u6, rfl, rfl, H⟩
      refine AtL.nil ?_
      refine AtE.then_n (AtE.go ?_)
      refine AtC.seqR ?_
      refine AtL.pures hT 2 _ _ _ _ rfl ?_
      refine AtL.q rfl (Quiet1.loadP (i := 0) hT rfl rfl rfl rfl rfl rfl) ?_
      refine AtL.e rfl (EffX.call (f := 46) (sh := fun h => ref04uBytes _ _ h _) (H0 := H) rfl Tryd.call46 rfl (hl := fun w m hr hw => lift_ref04uBytes _ _ w m hr _ hw)) ?_
      rintro _ _ ⟨v_5, h0u7, rfl, rfl, H⟩
      refine AtL.pures hT 1 _ _ _ _ rfl ?_
      refine AtL.nil ?_
      refine AtE.then_n (AtE.go ?_)
      refine AtC.ret ?_
      refine AtE.blk_r ?_
      refine AtE.then_r ?_
      exact AtE.retN (rs := [.tmp 6]) rfl (ResAll.cons (ResAt.tmp rfl) ResAll.nil) rfl H
     ·
      refine AtC.seqR ?_
      refine AtL.pures hT 2 _ _ _ _ rfl ?_
      refine AtL.nil ?_
      refine AtE.then_n (AtE.go ?_)
      refine AtC.condB H rfl (fun H => ?_) (fun H => ?_)
      ·
       refine AtC.seqR ?_
       refine AtL.pures hT 3 _ _ _ _ rfl ?_
       refine AtL.q rfl (Quiet1.loadSP (i := 0) (l := [_, _, _]) hT rfl rfl rfl rfl rfl rfl rfl rfl) ?_
       refine AtL.e rfl (EffX.call (f := 47) (sh := fun h => pack_Out_Ratio _ _ h _) (H0 := H) rfl Tryd.call47 rfl (hl := fun w m hr hw => lift_pack_Out_Ratio _ _ w m hr _ hw)) ?_
       rintro _ _ ⟨v_6, h0u8, rfl, rfl, H⟩
       refine AtL.nil ?_
       refine AtE.then_n (AtE.go ?_)
       refine AtC.seqR ?_
       refine AtL.pures hT 3 _ _ _ _ rfl ?_
       refine AtL.q rfl (Quiet1.loadSP (i := 0) (l := [_, _, _]) hT rfl rfl rfl rfl rfl rfl rfl rfl) ?_
       refine AtL.e rfl (EffX.call (f := 48) (sh := fun h => ref04uRatio _ _ h _) (H0 := H) rfl Tryd.call48 rfl (hl := fun w m hr hw => lift_ref04uRatio _ _ w m hr _ hw)) ?_
       rintro _ _ ⟨v_7, h0u9, rfl, rfl, H⟩
       refine AtL.pures hT 1 _ _ _ _ rfl ?_
       refine AtL.nil ?_
       refine AtE.then_n (AtE.go ?_)
       refine AtC.ret ?_
       refine AtE.blk_r ?_
       refine AtE.then_r ?_
       exact AtE.retN (rs := [.tmp 6]) rfl (ResAll.cons (ResAt.tmp rfl) ResAll.nil) rfl H
      ·
       refine AtC.seqR ?_
       refine AtL.pures hT 2 _ _ _ _ rfl ?_
       refine AtL.nil ?_
       refine AtE.then_n (AtE.go ?_)
       refine AtC.condB H rfl (fun H => ?_) (fun H => ?_)
       ·
        refine AtC.seqR ?_
        refine AtL.pures hT 2 _ _ _ _ rfl ?_
        refine AtL.q rfl (Quiet1.loadSP (i := 0) (l := [_, _, _, _, _, _]) hT rfl rfl rfl rfl rfl rfl rfl rfl) ?_
        refine AtL.e rfl (EffX.call (f := 49) (sh := fun h => pack_Out_Delta _ _ h _) (H0 := H) rfl Tryd.call49 rfl (hl := fun w m hr hw => lift_pack_Out_Delta _ _ w m hr _ hw)) ?_
        rintro _ _ ⟨v_8, h0u10, rfl, rfl, H⟩
        refine AtL.nil ?_
        refine AtE.then_n (AtE.go ?_)
        refine AtC.seqR ?_
        refine AtL.pures hT 2 _ _ _ _ rfl ?_
        refine AtL.q rfl (Quiet1.loadSP (i := 0) (l := [_, _, _, _, _, _]) hT rfl rfl rfl rfl rfl rfl rfl rfl) ?_
        refine AtL.e rfl (EffX.call (f := 50) (sh := fun h => ref04uDelta _ _ h _) (H0 := H) rfl Tryd.call50 rfl (hl := fun w m hr hw => lift_ref04uDelta _ _ w m hr _ hw)) ?_
        rintro _ _ ⟨v_9, h0u11, rfl, rfl, H⟩
        refine AtL.pures hT 1 _ _ _ _ rfl ?_
        refine AtL.nil ?_
        refine AtE.then_n (AtE.go ?_)
        refine AtC.ret ?_
        refine AtE.blk_r ?_
        refine AtE.then_r ?_
        exact AtE.retN (rs := [.tmp 6]) rfl (ResAll.cons (ResAt.tmp rfl) ResAll.nil) rfl H
       ·
        refine AtC.seqR ?_
        refine AtL.pures hT 2 _ _ _ _ rfl ?_
        refine AtL.nil ?_
        refine AtE.then_n (AtE.go ?_)
        refine AtC.condB H rfl (fun H => ?_) (fun H => ?_)
        ·
         refine AtC.seqR ?_
         refine AtL.pures hT 2 _ _ _ _ rfl ?_
         refine AtL.q rfl (Quiet1.loadP (i := 0) hT rfl rfl rfl rfl rfl rfl) ?_
         refine AtL.pures hT 1 _ _ _ _ rfl ?_
         refine AtL.q rfl (Quiet1.makeFn (bs := [_]) (cs := []) rfl rfl rfl) ?_
         refine AtL.e rfl (EffX.call (f := 51) (sh := fun h => pack_Put_int__pack_Out_Int _ _ _ h _) (H0 := H) rfl Tryd.call51 rfl (hl := fun w m hr hw => lift_pack_Put_int__pack_Out_Int _ _ _ w m hr _ hw)) ?_
         rintro _ _ ⟨v_10, h0u12, rfl, rfl, H⟩
         refine AtL.nil ?_
         refine AtE.then_n (AtE.go ?_)
         refine AtC.seqR ?_
         refine AtL.pures hT 2 _ _ _ _ rfl ?_
         refine AtL.q rfl (Quiet1.loadP (i := 0) hT rfl rfl rfl rfl rfl rfl) ?_
         refine AtL.pures hT 1 _ _ _ _ rfl ?_
         refine AtL.e rfl (EffX.call (f := 42) (sh := fun h => ref04uInt _ _ h _) (H0 := H) rfl Tryd.call42 rfl (hl := fun w m hr hw => lift_ref04uInt _ _ w m hr _ hw)) ?_
         rintro _ _ ⟨v_11, h0u13, rfl, rfl, H⟩
         refine AtL.pures hT 1 _ _ _ _ rfl ?_
         refine AtL.nil ?_
         refine AtE.then_n (AtE.go ?_)
         refine AtC.seqR ?_
         refine AtL.pures hT 1 _ _ _ _ rfl ?_
         refine AtL.q rfl (Quiet1.loadP (i := 0) hT rfl rfl rfl rfl rfl rfl) ?_
         refine AtL.pures hT 2 _ _ _ _ rfl ?_
         refine AtL.nil ?_
         refine AtE.then_n (AtE.go ?_)
         refine AtC.block ?_
         refine AtC.loopM (fun (s0 : Sl × Int) => [(1, Sl.toV s0.1), (83, Value.int .i64 s0.2)]) (fun (s0 : Sl × Int) => []) [81, 82] [1, 83, 81, 82] [] [] H (by exact rfl) (by exact rfl) (by exact rfl) (by decide) (by exact rfl) (fun Kp2 s0 h0u14 H Q2 HK2 => ?_)
         refine AtC.seqR ?_
         refine AtL.pures hT 1 _ _ _ _ rfl ?_
         refine AtL.nil ?_
         refine AtE.then_n (AtE.go ?_)
         refine AtC.seq ?_
         refine AtC.condB H rfl (fun H => ?_) (fun H => ?_)
         ·
          refine AtC.skip ?_
          refine AtE.then_n (AtE.go ?_)
          refine AtC.seq ?_
          refine AtC.block ?_
          refine AtC.seqR ?_
          obtain ⟨a_, hc2, hd2, H⟩ := H
          refine AtL.q rfl (Quiet1.idxS (s := _) hT rfl rfl rfl rfl rfl hc2 hd2) ?_
          obtain ⟨v_12, hc3, H⟩ := H
          refine AtL.q rfl (Quiet1.load hT rfl rfl rfl hc3) ?_
          refine AtL.pures hT 1 _ _ _ _ rfl ?_
          refine AtL.nil ?_
          refine AtE.then_n (AtE.go ?_)
          refine AtC.region ?_
          refine AtL.pures hT 2 _ _ _ _ rfl ?_
          refine AtL.e rfl (EffX.call (f := 42) (sh := fun h => ref04uInt _ _ h _) (H0 := H) rfl Tryd.call42 rfl (hl := fun w m hr hw => lift_ref04uInt _ _ w m hr _ hw)) ?_
          rintro _ _ ⟨v_13, h0u15, rfl, rfl, H⟩
          refine AtL.pures hT 1 _ _ _ _ rfl ?_
          refine AtL.nil ?_
          refine AtE.blk_n ?_
          refine AtE.then_n (AtE.go ?_)
          refine AtC.region ?_
          refine AtL.pures hT 2 _ _ _ _ rfl ?_
          refine AtL.nil ?_
          exact AtE.then_n ((HK2 _ _ H).pickP (ts := [1, 83, 81, 82]) (is := []) rfl rfl (by decide) rfl)
         ·
          refine AtC.exit ?_
          refine AtE.then_x ?_
          refine AtE.then_x ?_
          refine AtE.blk_hit ?_
          refine AtE.blk_n ?_
          exact AtE.then_n ((HK1 _ () _ H).pickP (ts := [1]) (is := []) rfl rfl (by decide) rfl)
        ·
         refine AtC.skip ?_
         refine AtE.blk_n ?_
         exact AtE.then_n ((HK1 _ () _ H).pickP (ts := [1]) (is := []) rfl rfl (by decide) rfl)

theorem lift_pack_From (b : Sl) (w : World) (m : Heap) (hr : Rel ⟨m, []⟩ w.heap) (S : ((Option Addr)) → Heap → Prop) (H : pack_From b m S) :
    Calls Tryd.prog 10 #[Sl.toV b] w (Post ⟨w, m⟩ Value.pointer S) := by
  refine Calls.lift (args := [Sl.toV b]) Tryd.func10 rfl Tryd.ntmps10 (Nat.le_of_ble_eq_true rfl) hr (pack_From b m S) H (fun H => ?_)
  refine AtC.pick (ts := [0]) rfl ?_
  unfold pack_From at H
  refine AtC.seqR ?_
  refine AtL.pures hT 1 _ _ _ _ rfl ?_
  refine AtL.nil ?_
  refine AtE.then_n (AtE.go ?_)
  refine AtC.seqR ?_
  refine AtL.pures hT 1 _ _ _ _ rfl ?_
  refine AtL.e rfl (EffX.call (f := 27) (sh := fun h => slices_Clone_byte_byte _ h _) (H0 := H) rfl Tryd.call27 rfl (hl := fun w m hr hw => lift_slices_Clone_byte_byte _ w m hr _ hw)) ?_
  rintro _ _ ⟨v, h0, rfl, rfl, H⟩
  refine AtL.q rfl (Quiet1.build (cs := [_, _]) hT rfl rfl rfl rfl rfl rfl) ?_
  refine AtL.e rfl (EffX.box (cs := [_, _]) rfl rfl rfl H) ?_
  rintro _ _ ⟨a, h0u1, rfl, rfl, H⟩
  refine AtL.pures hT 1 _ _ _ _ rfl ?_
  refine AtL.nil ?_
  refine AtE.then_n (AtE.go ?_)
  refine AtC.ret ?_
  exact AtE.retN (rs := [.tmp 2]) rfl (ResAll.cons (ResAt.tmp rfl) ResAll.nil) rfl H

theorem lift_pack_In_fail (in0 : (Option Addr)) (w : World) (m : Heap) (hr : Rel ⟨m, []⟩ w.heap) (S : Unit → Heap → Prop) (H : pack_In_fail in0 m S) :
    Calls Tryd.prog 65 #[Value.pointer in0] w (Post ⟨w, m⟩ (fun _ => Value.tuple #[]) S) := by
  refine Calls.lift (args := [Value.pointer in0]) Tryd.func65 rfl Tryd.ntmps65 (Nat.le_of_ble_eq_true rfl) hr (pack_In_fail in0 m S) H (fun H => ?_)
  refine AtC.pick (ts := [0]) rfl ?_
  unfold pack_In_fail at H
  refine AtC.region ?_
  refine AtL.pures hT 1 _ _ _ _ rfl ?_
  refine AtL.q rfl (Quiet1.build (cs := [_, _]) hT rfl rfl rfl rfl rfl rfl) ?_
  obtain ⟨a, hc0, H⟩ := H
  refine AtL.q rfl (Quiet1.nilChk rfl rfl hc0) ?_
  refine AtL.e rfl (EffX.storeS hT rfl rfl rfl rfl rfl rfl H) ?_
  rintro _ _ ⟨h0, rfl, H⟩
  refine AtL.nil ?_
  exact AtE.endN rfl rfl H

theorem lift_pack_In_take (in0 : (Option Addr)) (n : Int) (w : World) (m : Heap) (hr : Rel ⟨m, []⟩ w.heap) (S : Sl → Heap → Prop) (H : pack_In_take in0 n m S) :
    Calls Tryd.prog 66 #[Value.pointer in0, Value.int .i64 n] w (Post ⟨w, m⟩ Sl.toV S) := by
  refine Calls.lift (args := [Value.pointer in0, Value.int .i64 n]) Tryd.func66 rfl Tryd.ntmps66 (Nat.le_of_ble_eq_true rfl) hr (pack_In_take in0 n m S) H (fun H => ?_)
  refine AtC.pick (ts := [0, 1]) rfl ?_
  unfold pack_In_take at H
  refine AtC.seqR ?_
  refine AtL.pures hT 1 _ _ _ _ rfl ?_
  refine AtL.nil ?_
  refine AtE.then_n (AtE.go ?_)
  refine AtC.seq ?_
  refine AtC.joinSeq (β := Unit) (fun (t0 : Bool) (bb : Unit) => [(21, Value.bool t0)]) (fun (t0 : Bool) (bb : Unit) => []) [0, 1] [] H (by exact rfl) (by exact rfl) (fun t0 bb h0 H => ?_) (fun J1 H HK1 => ?_)
  ·
   refine AtC.condB H rfl (fun H => ?_) (fun H => ?_)
   ·
    refine AtC.seqR ?_
    refine AtL.pures hT 1 _ _ _ _ rfl ?_
    refine AtL.e rfl (EffX.call (f := 65) (sh := fun h => pack_In_fail _ h _) (H0 := H) rfl Tryd.call65 rfl (hl := fun w m hr hw => lift_pack_In_fail _ w m hr _ hw)) ?_
    rintro _ _ ⟨v_2, h0u1, rfl, rfl, H⟩
    refine AtL.nil ?_
    refine AtE.then_n (AtE.go ?_)
    refine AtC.seqR ?_
    refine AtL.pures hT 1 _ _ _ _ rfl ?_
    refine AtL.nil ?_
    refine AtE.then_n (AtE.go ?_)
    refine AtC.ret ?_
    refine AtE.then_r ?_
    exact AtE.retN (rs := [.tmp 4]) rfl (ResAll.cons (ResAt.tmp rfl) ResAll.nil) rfl H
   ·
    refine AtC.skip ?_
    refine AtE.then_n (AtE.go ?_)
    obtain ⟨a_2, hc5, H⟩ := H
    obtain ⟨v_3, hc6, H⟩ := H
    obtain ⟨v_4, hs7, H⟩ := sliceOf.out H
    obtain ⟨a_3, hc8, H⟩ := H
    obtain ⟨v_5, hc9, H⟩ := H
    obtain ⟨v_6, hs10, H⟩ := sliceOf.out H
    obtain ⟨a_4, hc11, H⟩ := H
    apply AtC.seqS [17] [[], [], [], [], [], [], [], [], [], [], [], [], [], [], [], [], [], []] [[], [], [1], [1, 2], [1, 2, 3], [], [], [1, 2, 3, 4, 5, 6], [], [8], [8, 9], [8, 9, 10], [], [8, 9, 10, 11, 12], [1, 2, 3, 4, 5, 6, 7], [0, 1, 2, 3, 4, 5, 6, 7, 8, 9, 10, 11, 12, 13, 14], [0, 1, 2, 3, 4, 5, 6, 7, 8, 9, 10, 11, 12, 13, 14, 15], [0, 1, 2, 3, 4, 5, 6, 7, 8, 9, 10, 11, 12, 13, 14, 15, 16]] hmix (by kernel_rfl) [(24, _), (25, _), (26, _), (27, _), (28, _), (29, _), (30, _), (31, _), (32, _), (33, _), (34, _), (35, _), (36, _), (37, _), (4, _), (38, _), (39, _)] rfl 1 rfl
    refine Stg.go [0, 1, 2, 3, 4, 5, 6, 7, 8, 9, 10, 11, 12, 13, 14, 15, 16] [17] rfl rfl (QAll.cons (QOp.p hT rfl rfl rfl rfl rfl) (QAll.cons (QOp.p hT rfl rfl rfl rfl rfl) (QAll.cons (QOp.q rfl rfl (Quiet1.nilChk rfl rfl hc5) rfl rfl) (QAll.cons (QOp.p hT rfl rfl rfl rfl rfl) (QAll.cons (QOp.q rfl rfl (Quiet1.load hT rfl rfl rfl hc6) rfl rfl) (QAll.cons (QOp.p hT rfl rfl rfl rfl rfl) (QAll.cons (QOp.p hT rfl rfl rfl rfl rfl) (QAll.cons (QOp.q rfl rfl (Quiet1.sliceIs hT rfl rfl rfl rfl rfl rfl rfl (fun h => by cases h <;> rfl) hs7) rfl rfl) (QAll.cons (QOp.p hT rfl rfl rfl rfl rfl) (QAll.cons (QOp.q rfl rfl (Quiet1.nilChk rfl rfl hc8) rfl rfl) (QAll.cons (QOp.p hT rfl rfl rfl rfl rfl) (QAll.cons (QOp.q rfl rfl (Quiet1.load hT rfl rfl rfl hc9) rfl rfl) (QAll.cons (QOp.p hT rfl rfl rfl rfl rfl) (QAll.cons (QOp.q rfl rfl (Quiet1.sliceIs hT rfl rfl rfl rfl rfl rfl rfl (fun h => by cases h <;> rfl) hs10) rfl rfl) (QAll.cons (QOp.p hT rfl rfl rfl rfl rfl) (QAll.cons (QOp.q rfl rfl (Quiet1.nilChk rfl rfl hc11) rfl rfl) (QAll.cons (QOp.p hT rfl rfl rfl rfl rfl) QAll.nil))))))))))))))))) ?_
    refine EAll.cons ?_ EAll.nil
    refine EOp.e rfl rfl rfl (EffX.store hT rfl rfl rfl rfl rfl H) ?_
    rintro _ _ ⟨h0u2, rfl, H⟩
    apply Stg.next [] rfl rfl
    refine Stg.fin [] rfl rfl QAll.nil ?_
    refine AtE.then_n (AtE.go ?_)
    refine AtC.seqR ?_
    refine AtL.pures hT 2 _ _ _ _ rfl ?_
    refine AtL.nil ?_
    refine AtE.then_n (AtE.go ?_)
    refine AtC.ret ?_
    exact AtE.retN (rs := [.tmp 4]) rfl (ResAll.cons (ResAt.tmp rfl) ResAll.nil) rfl H
  ·
   refine AtC.region ?_
   refine AtL.pures hT 1 _ _ _ _ rfl ?_
   obtain ⟨a, hc1, H⟩ := H
   refine AtL.q rfl (Quiet1.nilChk rfl rfl hc1) ?_
   refine AtL.pures hT 1 _ _ _ _ rfl ?_
   obtain ⟨v, hc2, H⟩ := H
   refine AtL.q rfl (Quiet1.load hT rfl rfl rfl hc2) ?_
   refine AtL.pures hT 1 _ _ _ _ rfl ?_
   refine AtL.splitB (t := 9) H rfl (fun H => ?_) (fun H => ?_)
   ·
    refine AtL.noF rfl rfl rfl (by decide) rfl ?_
    refine AtL.noF rfl rfl rfl (by decide) rfl ?_
    refine AtL.pures hT 2 _ _ _ _ rfl ?_
    refine AtL.noF rfl rfl rfl (by decide) rfl ?_
    refine AtL.noF rfl rfl rfl (by decide) rfl ?_
    refine AtL.noF rfl rfl rfl (by decide) rfl ?_
    refine AtL.noF rfl rfl rfl (by decide) rfl ?_
    refine AtL.noF rfl rfl rfl (by decide) rfl ?_
    refine AtL.noF rfl rfl rfl (by decide) rfl ?_
    refine AtL.noF rfl rfl rfl (by decide) rfl ?_
    refine AtL.pures hT 1 _ _ _ _ rfl ?_
    refine AtL.nil ?_
    exact AtE.then_n ((HK1 _ () _ H).pickP (ts := [21, 0, 1]) (is := []) rfl rfl (by decide) rfl)
   ·
    refine AtL.yes rfl rfl rfl ?_
    refine AtL.pures hT 1 _ _ _ _ rfl ?_
    refine AtL.yes rfl rfl rfl ?_
    refine AtL.pures hT 1 _ _ _ _ rfl ?_
    refine AtL.pures hT 2 _ _ _ _ rfl ?_
    refine AtL.splitB (t := 13) H rfl (fun H => ?_) (fun H => ?_)
    ·
     refine AtL.noF rfl rfl rfl (by decide) rfl ?_
     refine AtL.noF rfl rfl rfl (by decide) rfl ?_
     refine AtL.noF rfl rfl rfl (by decide) rfl ?_
     refine AtL.noF rfl rfl rfl (by decide) rfl ?_
     refine AtL.noF rfl rfl rfl (by decide) rfl ?_
     refine AtL.noF rfl rfl rfl (by decide) rfl ?_
     refine AtL.noF rfl rfl rfl (by decide) rfl ?_
     refine AtL.pures hT 1 _ _ _ _ rfl ?_
     refine AtL.nil ?_
     exact AtE.then_n ((HK1 _ () _ H).pickP (ts := [21, 0, 1]) (is := []) rfl rfl (by decide) rfl)
    ·
     refine AtL.yes rfl rfl rfl ?_
     refine AtL.pures hT 1 _ _ _ _ rfl ?_
     refine AtL.yes rfl rfl rfl ?_
     refine AtL.pures hT 1 _ _ _ _ rfl ?_
     refine AtL.yes rfl rfl rfl ?_
     obtain ⟨a_1, hc3, H⟩ := H
     refine AtL.q rfl (Quiet1.nilChk rfl rfl hc3) ?_
     refine AtL.yes rfl rfl rfl ?_
     refine AtL.pures hT 1 _ _ _ _ rfl ?_
     refine AtL.yes rfl rfl rfl ?_
     obtain ⟨v_1, hc4, H⟩ := H
     refine AtL.q rfl (Quiet1.load hT rfl rfl rfl hc4) ?_
     refine AtL.yes rfl rfl rfl ?_
     refine AtL.pures hT 1 _ _ _ _ rfl ?_
     refine AtL.yes rfl rfl rfl ?_
     refine AtL.pures hT 1 _ _ _ _ rfl ?_
     refine AtL.pures hT 1 _ _ _ _ rfl ?_
     refine AtL.nil ?_
     exact AtE.then_n ((HK1 _ () _ H).pickP (ts := [21, 0, 1]) (is := []) rfl rfl (by decide) rfl)

theorem lift_pack_In_number (in0 : (Option Addr)) (size : Int) (w : World) (m : Heap) (hr : Rel ⟨m, []⟩ w.heap) (S : Int → Heap → Prop) (H : pack_In_number in0 size m S) :
    Calls Tryd.prog 63 #[Value.pointer in0, Value.int .i64 size] w (Post ⟨w, m⟩ (Value.int .u64) S) := by
  refine Calls.lift (args := [Value.pointer in0, Value.int .i64 size]) Tryd.func63 rfl Tryd.ntmps63 (Nat.le_of_ble_eq_true rfl) hr (pack_In_number in0 size m S) H (fun H => ?_)
  refine AtC.pick (ts := [0, 1]) rfl ?_
  unfold pack_In_number at H
  refine AtC.seqR ?_
  refine AtL.pures hT 1 _ _ _ _ rfl ?_
  refine AtL.nil ?_
  refine AtE.then_n (AtE.go ?_)
  refine AtC.seq ?_
  refine AtC.seqR ?_
  refine AtL.pures hT 2 _ _ _ _ rfl ?_
  refine AtL.e rfl (EffX.call (f := 66) (sh := fun h => pack_In_take _ _ h _) (H0 := H) rfl Tryd.call66 rfl (hl := fun w m hr hw => lift_pack_In_take _ _ w m hr _ hw)) ?_
  rintro _ _ ⟨v, h0, rfl, rfl, H⟩
  refine AtL.pures hT 2 _ _ _ _ rfl ?_
  refine AtL.nil ?_
  refine AtE.then_n (AtE.go ?_)
  refine AtC.block ?_
  refine AtC.loopM (fun (s0 : Int × Int) => [(4, Value.int .u64 s0.1), (11, Value.int .i64 s0.2)]) (fun (s0 : Int × Int) => []) [9, 10] [4, 11, 9, 10] [] [] H (by exact rfl) (by exact rfl) (by exact rfl) (by decide) (by exact rfl) (fun Kp1 s0 h0u1 H Q1 HK1 => ?_)
  refine AtC.seqR ?_
  refine AtL.pures hT 1 _ _ _ _ rfl ?_
  refine AtL.nil ?_
  refine AtE.then_n (AtE.go ?_)
  refine AtC.seq ?_
  refine AtC.condB H rfl (fun H => ?_) (fun H => ?_)
  ·
   refine AtC.skip ?_
   refine AtE.then_n (AtE.go ?_)
   refine AtC.seq ?_
   refine AtC.block ?_
   refine AtC.seqR ?_
   obtain ⟨a_, hc1, hd1, H⟩ := H
   refine AtL.q rfl (Quiet1.idxS (s := _) hT rfl rfl rfl rfl rfl hc1 hd1) ?_
   obtain ⟨v_1, hc2, H⟩ := H
   refine AtL.q rfl (Quiet1.load hT rfl rfl rfl hc2) ?_
   refine AtL.pures hT 1 _ _ _ _ rfl ?_
   refine AtL.nil ?_
   refine AtE.then_n (AtE.go ?_)
   refine AtC.region ?_
   refine AtL.pures hT 6 _ _ _ _ rfl ?_
   replace H := H _ rfl
   refine AtL.nil ?_
   refine AtE.blk_n ?_
   refine AtE.then_n (AtE.go ?_)
   refine AtC.region ?_
   refine AtL.pures hT 2 _ _ _ _ rfl ?_
   refine AtL.nil ?_
   exact AtE.then_n ((HK1 _ _ H).pickP (ts := [4, 11, 9, 10]) (is := []) rfl rfl (by decide) rfl)
  ·
   refine AtC.exit ?_
   refine AtE.then_x ?_
   refine AtE.then_x ?_
   refine AtE.blk_hit ?_
   refine AtE.then_n (AtE.go ?_)
   refine AtC.seqR ?_
   refine AtL.pures hT 2 _ _ _ _ rfl ?_
   refine AtL.nil ?_
   refine AtE.then_n (AtE.go ?_)
   refine AtC.ret ?_
   exact AtE.retN (rs := [.tmp 4]) rfl (ResAll.cons (ResAt.tmp rfl) ResAll.nil) rfl H

theorem lift_pack_In_Int (in0 : (Option Addr)) (w : World) (m : Heap) (hr : Rel ⟨m, []⟩ w.heap) (S : Int → Heap → Prop) (H : pack_In_Int in0 m S) :
    Calls Tryd.prog 28 #[Value.pointer in0] w (Post ⟨w, m⟩ (Value.int .i64) S) := by
  refine Calls.lift (args := [Value.pointer in0]) Tryd.func28 rfl Tryd.ntmps28 (Nat.le_of_ble_eq_true rfl) hr (pack_In_Int in0 m S) H (fun H => ?_)
  refine AtC.pick (ts := [0]) rfl ?_
  unfold pack_In_Int at H
  refine AtC.seqR ?_
  refine AtL.pures hT 1 _ _ _ _ rfl ?_
  refine AtL.nil ?_
  refine AtE.then_n (AtE.go ?_)
  refine AtC.seqR ?_
  refine AtL.pures hT 1 _ _ _ _ rfl ?_
  refine AtL.e rfl (EffX.call (f := 63) (sh := fun h => pack_In_number _ _ h _) (H0 := H) rfl Tryd.call63 rfl (hl := fun w m hr hw => lift_pack_In_number _ _ w m hr _ hw)) ?_
  rintro _ _ ⟨v, h0, rfl, rfl, H⟩
  refine AtL.pures hT 2 _ _ _ _ rfl ?_
  refine AtL.nil ?_
  refine AtE.then_n (AtE.go ?_)
  refine AtC.ret ?_
  exact AtE.retN (rs := [.tmp 2]) rfl (ResAll.cons (ResAt.tmp rfl) ResAll.nil) rfl H

theorem lift_ref04uIn_take (in0 : (Option Addr)) (n : Int) (w : World) (m : Heap) (hr : Rel ⟨m, []⟩ w.heap) (S : Sl → Heap → Prop) (H : ref04uIn_take in0 n m S) :
    Calls Tryd.prog 64 #[Value.pointer in0, Value.int .i64 n] w (Post ⟨w, m⟩ Sl.toV S) := by
  refine Calls.lift (args := [Value.pointer in0, Value.int .i64 n]) Tryd.func64 rfl Tryd.ntmps64 (Nat.le_of_ble_eq_true rfl) hr (ref04uIn_take in0 n m S) H (fun H => ?_)
  refine AtC.pick (ts := [0, 1]) rfl ?_
  unfold ref04uIn_take at H
  refine AtC.seqR ?_
  refine AtL.pures hT 1 _ _ _ _ rfl ?_
  refine AtL.nil ?_
  refine AtE.then_n (AtE.go ?_)
  refine AtC.seq ?_
  refine AtC.joinSeq (β := Unit) (fun (t0 : Bool) (bb : Unit) => [(27, Value.bool t0)]) (fun (t0 : Bool) (bb : Unit) => []) [0, 1] [] H (by exact rfl) (by exact rfl) (fun t0 bb h0 H => ?_) (fun J1 H HK1 => ?_)
  ·
   refine AtC.condB H rfl (fun H => ?_) (fun H => ?_)
   ·
    refine AtC.seqR ?_
    refine AtL.pures hT 1 _ _ _ _ rfl ?_
    obtain ⟨a_3, hc7, H⟩ := H
    refine AtL.q rfl (Quiet1.nilChk rfl rfl hc7) ?_
    refine AtL.pures hT 1 _ _ _ _ rfl ?_
    refine AtL.e rfl (EffX.store hT rfl rfl rfl rfl rfl H) ?_
    rintro _ _ ⟨h0u1, rfl, H⟩
    refine AtL.nil ?_
    refine AtE.then_n (AtE.go ?_)
    refine AtC.seqR ?_
    refine AtLX.bs (hT := hT) (cs := []) H rfl rfl rfl rfl rfl rfl rfl rfl rfl (fun a_4 h0u2 H => ?_)
    refine AtL.pures hT 1 _ _ _ _ rfl ?_
    refine AtL.nil ?_
    refine AtE.then_n (AtE.go ?_)
    refine AtC.ret ?_
    refine AtE.then_r ?_
    exact AtE.retN (rs := [.tmp 4]) rfl (ResAll.cons (ResAt.tmp rfl) ResAll.nil) rfl H
   ·
    refine AtC.skip ?_
    refine AtE.then_n (AtE.go ?_)
    obtain ⟨a_5, hc8, H⟩ := H
    obtain ⟨v_4, hc9, H⟩ := H
    obtain ⟨a_6, hc10, H⟩ := H
    obtain ⟨v_5, hc11, H⟩ := H
    obtain ⟨a_7, hc12, H⟩ := H
    obtain ⟨v_6, hc13, H⟩ := H
    obtain ⟨v_7, hs14, H⟩ := sliceOf.out H
    apply AtC.seqS [0, 16] [[], [], [], [], [], [], [], [], [], [], [], [], [], [], [], [], [0], [0, 16]] [[], [], [1], [1, 2], [1, 2, 3], [], [5], [5, 6], [5, 6, 7], [], [9], [9, 10], [9, 10, 11], [], [9, 10, 11, 12, 13], [1, 2, 3, 4, 5, 6, 7, 8, 9, 10, 11, 12, 13, 14], [0, 1, 2, 3, 4, 5, 6, 7, 8, 9, 10, 11, 12, 13, 14, 15], [0, 1, 2, 3, 4, 5, 6, 7, 8, 9, 10, 11, 12, 13, 14, 15, 16]] hmix (by kernel_rfl) [(33, _), (34, _), (35, _), (36, _), (37, _), (38, _), (39, _), (40, _), (41, _), (42, _), (43, _), (44, _), (45, _), (46, _), (47, _)] rfl 2 rfl
    refine Stg.go [1, 2, 3, 4, 5, 6, 7, 8, 9, 10, 11, 12, 13, 14, 15] [0] rfl rfl (QAll.cons (QOp.p hT rfl rfl rfl rfl rfl) (QAll.cons (QOp.q rfl rfl (Quiet1.nilChk rfl rfl hc8) rfl rfl) (QAll.cons (QOp.p hT rfl rfl rfl rfl rfl) (QAll.cons (QOp.q rfl rfl (Quiet1.load hT rfl rfl rfl hc9) rfl rfl) (QAll.cons (QOp.p hT rfl rfl rfl rfl rfl) (QAll.cons (QOp.q rfl rfl (Quiet1.nilChk rfl rfl hc10) rfl rfl) (QAll.cons (QOp.p hT rfl rfl rfl rfl rfl) (QAll.cons (QOp.q rfl rfl (Quiet1.load hT rfl rfl rfl hc11) rfl rfl) (QAll.cons (QOp.p hT rfl rfl rfl rfl rfl) (QAll.cons (QOp.q rfl rfl (Quiet1.nilChk rfl rfl hc12) rfl rfl) (QAll.cons (QOp.p hT rfl rfl rfl rfl rfl) (QAll.cons (QOp.q rfl rfl (Quiet1.load hT rfl rfl rfl hc13) rfl rfl) (QAll.cons (QOp.p hT rfl rfl rfl rfl rfl) (QAll.cons (QOp.p hT rfl rfl rfl rfl rfl) (QAll.cons (QOp.q rfl rfl (Quiet1.sliceIs hT rfl rfl rfl rfl rfl rfl rfl (fun h => by cases h <;> rfl) hs14) rfl rfl) QAll.nil))))))))))))))) ?_
    refine EAll.cons ?_ EAll.nil
    refine EOp.e rfl rfl rfl (EffX.buildS2 (cs := []) hT rfl rfl rfl rfl rfl rfl rfl rfl H) ?_
    rintro _ _ ⟨a_8, h0u3, rfl, rfl, H⟩
    obtain ⟨hc15, H⟩ := H
    obtain ⟨hc16, H⟩ := H
    obtain ⟨hc17, H⟩ := H
    apply Stg.next [(32, _)] rfl rfl
    refine Stg.go [1, 2, 3, 4, 5, 6, 7, 8, 9, 10, 11, 12, 13, 14, 15] [16] rfl rfl (QAll.cons (QOp.p hT rfl rfl rfl rfl rfl) (QAll.cons (QOp.q rfl rfl (Quiet1.nilChk rfl rfl hc8) rfl rfl) (QAll.cons (QOp.p hT rfl rfl rfl rfl rfl) (QAll.cons (QOp.q rfl rfl (Quiet1.load hT rfl rfl rfl hc15) rfl rfl) (QAll.cons (QOp.p hT rfl rfl rfl rfl rfl) (QAll.cons (QOp.q rfl rfl (Quiet1.nilChk rfl rfl hc10) rfl rfl) (QAll.cons (QOp.p hT rfl rfl rfl rfl rfl) (QAll.cons (QOp.q rfl rfl (Quiet1.load hT rfl rfl rfl hc16) rfl rfl) (QAll.cons (QOp.p hT rfl rfl rfl rfl rfl) (QAll.cons (QOp.q rfl rfl (Quiet1.nilChk rfl rfl hc12) rfl rfl) (QAll.cons (QOp.p hT rfl rfl rfl rfl rfl) (QAll.cons (QOp.q rfl rfl (Quiet1.load hT rfl rfl rfl hc17) rfl rfl) (QAll.cons (QOp.p hT rfl rfl rfl rfl rfl) (QAll.cons (QOp.p hT rfl rfl rfl rfl rfl) (QAll.cons (QOp.q rfl rfl (Quiet1.sliceIs hT rfl rfl rfl rfl rfl rfl rfl (fun h => by cases h <;> rfl) hs14) rfl rfl) QAll.nil))))))))))))))) ?_
    refine EAll.cons ?_ EAll.nil
    refine EOp.e rfl rfl rfl (EffX.appendS (s := _) (u := _) hT rfl rfl rfl rfl rfl rfl rfl rfl rfl rfl (by decide) H) ?_
    rintro _ _ ⟨v_9, h0u4, rfl, rfl, H⟩
    apply Stg.next [(48, _), (5, _)] rfl rfl
    refine Stg.fin [17] rfl rfl (QAll.cons (QOp.p hT rfl rfl rfl rfl rfl) QAll.nil) ?_
    refine AtE.then_n (AtE.go ?_)
    refine AtC.seqR ?_
    refine AtL.pures hT 1 _ _ _ _ rfl ?_
    obtain ⟨a_9, hc18, H⟩ := H
    refine AtL.q rfl (Quiet1.nilChk rfl rfl hc18) ?_
    refine AtL.pures hT 1 _ _ _ _ rfl ?_
    obtain ⟨v_10, hc19, H⟩ := H
    refine AtL.q rfl (Quiet1.load hT rfl rfl rfl hc19) ?_
    refine AtL.pures hT 2 _ _ _ _ rfl ?_
    obtain ⟨a_10, hc20, H⟩ := H
    refine AtL.q rfl (Quiet1.nilChk rfl rfl hc20) ?_
    refine AtL.pures hT 1 _ _ _ _ rfl ?_
    refine AtL.e rfl (EffX.store hT rfl rfl rfl rfl rfl H) ?_
    rintro _ _ ⟨h0u5, rfl, H⟩
    refine AtL.nil ?_
    refine AtE.then_n (AtE.go ?_)
    refine AtC.seqR ?_
    refine AtL.pures hT 2 _ _ _ _ rfl ?_
    refine AtL.nil ?_
    refine AtE.then_n (AtE.go ?_)
    refine AtC.ret ?_
    exact AtE.retN (rs := [.tmp 4]) rfl (ResAll.cons (ResAt.tmp rfl) ResAll.nil) rfl H
  ·
   refine AtC.draw hmix (by kernel_rfl) ?_
   refine AtD.pures hT 1 _ _ _ _ rfl ?_
   obtain ⟨a, hc1, H⟩ := H
   refine AtD.q rfl (Quiet1.nilChk rfl rfl hc1) ?_
   refine AtD.pures hT 1 _ _ _ _ rfl ?_
   obtain ⟨v, hc2, H⟩ := H
   refine AtD.q rfl (Quiet1.load hT rfl rfl rfl hc2) ?_
   refine AtD.pures hT 1 _ _ _ _ rfl ?_
   refine AtD.splitB (t := 10) H rfl (fun H => ?_) (fun H => ?_)
   ·
    refine AtD.noF rfl rfl rfl (by decide) rfl ?_
    refine AtD.noF rfl rfl rfl (by decide) rfl ?_
    refine AtD.pures hT 2 _ _ _ _ rfl ?_
    refine AtD.noF rfl rfl rfl (by decide) rfl ?_
    refine AtD.noF rfl rfl rfl (by decide) rfl ?_
    refine AtD.noF rfl rfl rfl (by decide) rfl ?_
    refine AtD.noF rfl rfl rfl (by decide) rfl ?_
    refine AtD.noF rfl rfl rfl (by decide) rfl ?_
    refine AtD.noF rfl rfl rfl (by decide) rfl ?_
    refine AtD.noF rfl rfl rfl (by decide) rfl ?_
    refine AtD.noF rfl rfl rfl (by decide) rfl ?_
    refine AtD.noF rfl rfl rfl (by decide) rfl ?_
    refine AtD.noF rfl rfl rfl (by decide) rfl ?_
    refine AtD.noF rfl rfl rfl (by decide) rfl ?_
    refine AtD.noF rfl rfl rfl (by decide) rfl ?_
    refine AtD.pures hT 1 _ _ _ _ rfl ?_
    refine AtD.nil ?_
    exact AtE.then_n ((HK1 _ () _ H).pickP (ts := [27, 0, 1]) (is := []) rfl rfl (by decide) rfl)
   ·
    refine AtD.yes rfl rfl rfl ?_
    refine AtD.pures hT 1 _ _ _ _ rfl ?_
    refine AtD.yes rfl rfl rfl ?_
    refine AtD.pures hT 1 _ _ _ _ rfl ?_
    refine AtD.pures hT 2 _ _ _ _ rfl ?_
    refine AtD.splitB (t := 14) H rfl (fun H => ?_) (fun H => ?_)
    ·
     refine AtD.noF rfl rfl rfl (by decide) rfl ?_
     refine AtD.noF rfl rfl rfl (by decide) rfl ?_
     refine AtD.noF rfl rfl rfl (by decide) rfl ?_
     refine AtD.noF rfl rfl rfl (by decide) rfl ?_
     refine AtD.noF rfl rfl rfl (by decide) rfl ?_
     refine AtD.noF rfl rfl rfl (by decide) rfl ?_
     refine AtD.noF rfl rfl rfl (by decide) rfl ?_
     refine AtD.noF rfl rfl rfl (by decide) rfl ?_
     refine AtD.noF rfl rfl rfl (by decide) rfl ?_
     refine AtD.noF rfl rfl rfl (by decide) rfl ?_
     refine AtD.noF rfl rfl rfl (by decide) rfl ?_
     refine AtD.noF rfl rfl rfl (by decide) rfl ?_
     refine AtD.pures hT 1 _ _ _ _ rfl ?_
     refine AtD.nil ?_
     exact AtE.then_n ((HK1 _ () _ H).pickP (ts := [27, 0, 1]) (is := []) rfl rfl (by decide) rfl)
    ·
     refine AtD.yes rfl rfl rfl ?_
     refine AtD.pures hT 1 _ _ _ _ rfl ?_
     refine AtD.yes rfl rfl rfl ?_
     refine AtD.pures hT 1 _ _ _ _ rfl ?_
     refine AtD.yes rfl rfl rfl ?_
     obtain ⟨a_1, hc3, H⟩ := H
     refine AtD.q rfl (Quiet1.nilChk rfl rfl hc3) ?_
     refine AtD.yes rfl rfl rfl ?_
     refine AtD.pures hT 1 _ _ _ _ rfl ?_
     refine AtD.yes rfl rfl rfl ?_
     obtain ⟨v_1, hc4, H⟩ := H
     refine AtD.q rfl (Quiet1.load hT rfl rfl rfl hc4) ?_
     refine AtD.yes rfl rfl rfl ?_
     refine AtD.pures hT 1 _ _ _ _ rfl ?_
     refine AtD.yes rfl rfl rfl ?_
     refine AtD.pures hT 1 _ _ _ _ rfl ?_
     refine AtD.yes rfl rfl rfl ?_
     obtain ⟨a_2, hc5, H⟩ := H
     refine AtD.q rfl (Quiet1.nilChk rfl rfl hc5) ?_
     refine AtD.yes rfl rfl rfl ?_
     refine AtD.pures hT 1 _ _ _ _ rfl ?_
     refine AtD.yes rfl rfl rfl ?_
     obtain ⟨v_2, hc6, H⟩ := H
     refine AtD.q rfl (Quiet1.load hT rfl rfl rfl hc6) ?_
     refine AtD.yes rfl rfl rfl ?_
     refine AtD.pures hT 1 _ _ _ _ rfl ?_
     refine AtD.yes rfl rfl rfl ?_
     refine AtD.pures hT 1 _ _ _ _ rfl ?_
     refine AtD.pures hT 1 _ _ _ _ rfl ?_
     refine AtD.nil ?_
     exact AtE.then_n ((HK1 _ () _ H).pickP (ts := [27, 0, 1]) (is := []) rfl rfl (by decide) rfl)

theorem lift_ref04uIn_Int (in0 : (Option Addr)) (w : World) (m : Heap) (hr : Rel ⟨m, []⟩ w.heap) (S : Int → Heap → Prop) (H : ref04uIn_Int in0 m S) :
    Calls Tryd.prog 29 #[Value.pointer in0] w (Post ⟨w, m⟩ (Value.int .i64) S) := by
  refine Calls.lift (args := [Value.pointer in0]) Tryd.func29 rfl Tryd.ntmps29 (Nat.le_of_ble_eq_true rfl) hr (ref04uIn_Int in0 m S) H (fun H => ?_)
  refine AtC.pick (ts := [0]) rfl ?_
  unfold ref04uIn_Int at H
  refine AtC.seqR ?_
  refine AtL.pures hT 1 _ _ _ _ rfl ?_
  refine AtL.nil ?_
  refine AtE.then_n (AtE.go ?_)
  refine AtC.seqR ?_
  refine AtL.pures hT 1 _ _ _ _ rfl ?_
  refine AtL.e rfl (EffX.call (f := 64) (sh := fun h => ref04uIn_take _ _ h _) (H0 := H) rfl Tryd.call64 rfl (hl := fun w m hr hw => lift_ref04uIn_take _ _ w m hr _ hw)) ?_
  rintro _ _ ⟨v, h0, rfl, rfl, H⟩
  refine AtL.pures hT 1 _ _ _ _ rfl ?_
  refine AtL.nil ?_
  refine AtE.then_n (AtE.go ?_)
  refine AtC.seqR ?_
  refine AtL.pures hT 1 _ _ _ _ rfl ?_
  refine AtL.nil ?_
  refine AtE.then_n (AtE.go ?_)
  refine AtC.seq ?_
  refine AtC.seqR ?_
  refine AtL.pures hT 1 _ _ _ _ rfl ?_
  refine AtL.nil ?_
  refine AtE.then_n (AtE.go ?_)
  refine AtC.block ?_
  refine AtC.loopM (fun (s0 : Int × Int) => [(4, Value.int .u64 s0.1), (5, Value.int .i64 s0.2)]) (fun (s0 : Int × Int) => []) [3] [4, 5, 3] [] [] H (by exact rfl) (by exact rfl) (by exact rfl) (by decide) (by exact rfl) (fun Kp1 s0 h0u1 H Q1 HK1 => ?_)
  refine AtC.seq ?_
  refine AtC.seqR ?_
  refine AtL.pures hT 4 _ _ _ _ rfl ?_
  refine AtL.nil ?_
  refine AtE.then_n (AtE.go ?_)
  refine AtC.condB H rfl (fun H => ?_) (fun H => ?_)
  ·
   refine AtC.skip ?_
   refine AtE.then_n (AtE.go ?_)
   refine AtC.seq ?_
   refine AtC.block ?_
   refine AtC.region ?_
   refine AtL.pures hT 4 _ _ _ _ rfl ?_
   obtain ⟨a_, hc1, hd1, H⟩ := H
   refine AtL.q rfl (Quiet1.idxS (s := _) hT rfl rfl rfl rfl rfl hc1 hd1) ?_
   obtain ⟨v_1, hc2, H⟩ := H
   refine AtL.q rfl (Quiet1.load hT rfl rfl rfl hc2) ?_
   refine AtL.pures hT 3 _ _ _ _ rfl ?_
   replace H := H _ rfl
   refine AtL.nil ?_
   refine AtE.blk_n ?_
   refine AtE.then_n (AtE.go ?_)
   refine AtC.region ?_
   refine AtL.pures hT 3 _ _ _ _ rfl ?_
   replace H := H _ rfl
   refine AtL.nil ?_
   exact AtE.then_n ((HK1 _ _ H).pickP (ts := [4, 5, 3]) (is := []) rfl rfl (by decide) rfl)
  ·
   refine AtC.exit ?_
   refine AtE.then_x ?_
   refine AtE.then_x ?_
   refine AtE.blk_hit ?_
   refine AtE.then_n (AtE.go ?_)
   refine AtC.seqR ?_
   refine AtL.pures hT 3 _ _ _ _ rfl ?_
   refine AtL.nil ?_
   refine AtE.then_n (AtE.go ?_)
   refine AtC.ret ?_
   exact AtE.retN (rs := [.tmp 2]) rfl (ResAll.cons (ResAt.tmp rfl) ResAll.nil) rfl H

theorem lift_pack_In_Flag (in0 : (Option Addr)) (w : World) (m : Heap) (hr : Rel ⟨m, []⟩ w.heap) (S : Bool → Heap → Prop) (H : pack_In_Flag in0 m S) :
    Calls Tryd.prog 30 #[Value.pointer in0] w (Post ⟨w, m⟩ Value.bool S) := by
  refine Calls.lift (args := [Value.pointer in0]) Tryd.func30 rfl Tryd.ntmps30 (Nat.le_of_ble_eq_true rfl) hr (pack_In_Flag in0 m S) H (fun H => ?_)
  refine AtC.pick (ts := [0]) rfl ?_
  unfold pack_In_Flag at H
  refine AtC.seqR ?_
  refine AtL.pures hT 1 _ _ _ _ rfl ?_
  refine AtL.nil ?_
  refine AtE.then_n (AtE.go ?_)
  refine AtC.seqR ?_
  refine AtL.pures hT 1 _ _ _ _ rfl ?_
  refine AtL.e rfl (EffX.call (f := 63) (sh := fun h => pack_In_number _ _ h _) (H0 := H) rfl Tryd.call63 rfl (hl := fun w m hr hw => lift_pack_In_number _ _ w m hr _ hw)) ?_
  rintro _ _ ⟨v, h0, rfl, rfl, H⟩
  refine AtL.pures hT 1 _ _ _ _ rfl ?_
  refine AtL.nil ?_
  refine AtE.then_n (AtE.go ?_)
  refine AtC.joinSeq (β := Unit) (fun (t0 : Unit) (bb : Unit) => []) (fun (t0 : Unit) (bb : Unit) => []) [3] [] H (by exact rfl) (by exact rfl) (fun t0 bb h0u1 H => ?_) (fun J1 H HK1 => ?_)
  ·
   refine AtC.seqR ?_
   refine AtL.pures hT 3 _ _ _ _ rfl ?_
   refine AtL.nil ?_
   refine AtE.then_n (AtE.go ?_)
   refine AtC.ret ?_
   exact AtE.retN (rs := [.tmp 2]) rfl (ResAll.cons (ResAt.tmp rfl) ResAll.nil) rfl H
  ·
   refine AtC.seqR ?_
   refine AtL.pures hT 2 _ _ _ _ rfl ?_
   refine AtL.nil ?_
   refine AtE.then_n (AtE.go ?_)
   refine AtC.condB H rfl (fun H => ?_) (fun H => ?_)
   ·
    refine AtC.region ?_
    refine AtL.pures hT 1 _ _ _ _ rfl ?_
    refine AtL.e rfl (EffX.call (f := 65) (sh := fun h => pack_In_fail _ h _) (H0 := H) rfl Tryd.call65 rfl (hl := fun w m hr hw => lift_pack_In_fail _ w m hr _ hw)) ?_
    rintro _ _ ⟨v_1, h0u2, rfl, rfl, H⟩
    refine AtL.nil ?_
    exact AtE.then_n ((HK1 _ () _ H).pickP (ts := [3]) (is := []) rfl rfl (by decide) rfl)
   ·
    refine AtC.skip ?_
    exact AtE.then_n ((HK1 _ () _ H).pickP (ts := [3]) (is := []) rfl rfl (by decide) rfl)

theorem lift_ref04uIn_Flag (in0 : (Option Addr)) (w : World) (m : Heap) (hr : Rel ⟨m, []⟩ w.heap) (S : Bool → Heap → Prop) (H : ref04uIn_Flag in0 m S) :
    Calls Tryd.prog 31 #[Value.pointer in0] w (Post ⟨w, m⟩ Value.bool S) := by
  refine Calls.lift (args := [Value.pointer in0]) Tryd.func31 rfl Tryd.ntmps31 (Nat.le_of_ble_eq_true rfl) hr (ref04uIn_Flag in0 m S) H (fun H => ?_)
  refine AtC.pick (ts := [0]) rfl ?_
  unfold ref04uIn_Flag at H
  refine AtC.seqR ?_
  refine AtL.pures hT 1 _ _ _ _ rfl ?_
  refine AtL.nil ?_
  refine AtE.then_n (AtE.go ?_)
  refine AtC.seqR ?_
  refine AtL.pures hT 1 _ _ _ _ rfl ?_
  refine AtL.e rfl (EffX.call (f := 64) (sh := fun h => ref04uIn_take _ _ h _) (H0 := H) rfl Tryd.call64 rfl (hl := fun w m hr hw => lift_ref04uIn_take _ _ w m hr _ hw)) ?_
  rintro _ _ ⟨v, h0, rfl, rfl, H⟩
  refine AtL.pures hT 1 _ _ _ _ rfl ?_
  refine AtL.nil ?_
  refine AtE.then_n (AtE.go ?_)
  refine AtC.joinSeq (β := Unit) (fun (t0 : Unit) (bb : Unit) => []) (fun (t0 : Unit) (bb : Unit) => []) [3] [] H (by exact rfl) (by exact rfl) (fun t0 bb h0u1 H => ?_) (fun J1 H HK1 => ?_)
  ·
   refine AtC.joinSeq (β := Unit) (fun (t0u2 : Bool) (bb_2 : Unit) => [(2, Value.bool t0u2)]) (fun (t0u2 : Bool) (bb_2 : Unit) => []) [] [] H (by exact rfl) (by exact rfl) (fun t0u2 bb_2 h0u4 H => ?_) (fun J6 H HK6 => ?_)
   ·
    refine AtC.ret ?_
    exact AtE.retN (rs := [.tmp 2]) rfl (ResAll.cons (ResAt.tmp rfl) ResAll.nil) rfl H
   ·
    refine AtC.region ?_
    refine AtL.pures hT 4 _ _ _ _ rfl ?_
    refine AtL.splitB (t := 21) H rfl (fun H => ?_) (fun H => ?_)
    ·
     refine AtL.yes rfl rfl rfl ?_
     refine AtL.pures hT 1 _ _ _ _ rfl ?_
     refine AtL.yes rfl rfl rfl ?_
     obtain ⟨a_2_, hc6, hd6, H⟩ := H
     refine AtL.q rfl (Quiet1.idxS (s := _) hT rfl rfl rfl rfl rfl hc6 hd6) ?_
     refine AtL.yes rfl rfl rfl ?_
     obtain ⟨v_2, hc7, H⟩ := H
     refine AtL.q rfl (Quiet1.load hT rfl rfl rfl hc7) ?_
     refine AtL.yes rfl rfl rfl ?_
     refine AtL.pures hT 1 _ _ _ _ rfl ?_
     refine AtL.pures hT 2 _ _ _ _ rfl ?_
     refine AtL.nil ?_
     exact AtE.then_n ((HK6 _ () _ H).pickP (ts := [2]) (is := []) rfl rfl (by decide) rfl)
    ·
     refine AtL.noF rfl rfl rfl (by decide) rfl ?_
     refine AtL.noF rfl rfl rfl (by decide) rfl ?_
     refine AtL.noF rfl rfl rfl (by decide) rfl ?_
     refine AtL.noF rfl rfl rfl (by decide) rfl ?_
     refine AtL.pures hT 2 _ _ _ _ rfl ?_
     refine AtL.nil ?_
     exact AtE.then_n ((HK6 _ () _ H).pickP (ts := [2]) (is := []) rfl rfl (by decide) rfl)
  ·
   refine AtC.joinSeq (β := Unit) (fun (t0u1 : Bool) (bb_1 : Unit) => [(14, Value.bool t0u1)]) (fun (t0u1 : Bool) (bb_1 : Unit) => []) [0, 3] [] H (by exact rfl) (by exact rfl) (fun t0u1 bb_1 h0u2 H => ?_) (fun J2 H HK2 => ?_)
   ·
    refine AtC.condB H rfl (fun H => ?_) (fun H => ?_)
    ·
     refine AtC.region ?_
     refine AtL.pures hT 1 _ _ _ _ rfl ?_
     obtain ⟨a_1, hc4, H⟩ := H
     refine AtL.q rfl (Quiet1.nilChk rfl rfl hc4) ?_
     refine AtL.pures hT 1 _ _ _ _ rfl ?_
     refine AtL.e rfl (EffX.store hT rfl rfl rfl rfl rfl H) ?_
     rintro _ _ ⟨h0u3, rfl, H⟩
     refine AtL.nil ?_
     exact AtE.then_n ((HK1 _ () _ H).pickP (ts := [3]) (is := []) rfl rfl (by decide) rfl)
    ·
     refine AtC.skip ?_
     exact AtE.then_n ((HK1 _ () _ H).pickP (ts := [3]) (is := []) rfl rfl (by decide) rfl)
   ·
    refine AtC.region ?_
    refine AtL.pures hT 4 _ _ _ _ rfl ?_
    refine AtL.splitB (t := 9) H rfl (fun H => ?_) (fun H => ?_)
    ·
     refine AtL.yes rfl rfl rfl ?_
     refine AtL.pures hT 1 _ _ _ _ rfl ?_
     refine AtL.yes rfl rfl rfl ?_
     obtain ⟨a_, hc2, hd2, H⟩ := H
     refine AtL.q rfl (Quiet1.idxS (s := _) hT rfl rfl rfl rfl rfl hc2 hd2) ?_
     refine AtL.yes rfl rfl rfl ?_
     obtain ⟨v_1, hc3, H⟩ := H
     refine AtL.q rfl (Quiet1.load hT rfl rfl rfl hc3) ?_
     refine AtL.yes rfl rfl rfl ?_
     refine AtL.pures hT 1 _ _ _ _ rfl ?_
     refine AtL.pures hT 1 _ _ _ _ rfl ?_
     refine AtL.nil ?_
     exact AtE.then_n ((HK2 _ () _ H).pickP (ts := [14, 0, 3]) (is := []) rfl rfl (by decide) rfl)
    ·
     refine AtL.noF rfl rfl rfl (by decide) rfl ?_
     refine AtL.noF rfl rfl rfl (by decide) rfl ?_
     refine AtL.noF rfl rfl rfl (by decide) rfl ?_
     refine AtL.noF rfl rfl rfl (by decide) rfl ?_
     refine AtL.pures hT 1 _ _ _ _ rfl ?_
     refine AtL.nil ?_
     exact AtE.then_n ((HK2 _ () _ H).pickP (ts := [14, 0, 3]) (is := []) rfl rfl (by decide) rfl)

theorem lift_pack_In_Count (in0 : (Option Addr)) (least : Int) (w : World) (m : Heap) (hr : Rel ⟨m, []⟩ w.heap) (S : Int → Heap → Prop) (H : pack_In_Count in0 least m S) :
    Calls Tryd.prog 41 #[Value.pointer in0, Value.int .i64 least] w (Post ⟨w, m⟩ (Value.int .i64) S) := by
  refine Calls.lift (args := [Value.pointer in0, Value.int .i64 least]) Tryd.func41 rfl Tryd.ntmps41 (Nat.le_of_ble_eq_true rfl) hr (pack_In_Count in0 least m S) H (fun H => ?_)
  refine AtC.pick (ts := [0, 1]) rfl ?_
  unfold pack_In_Count at H
  refine AtC.seqR ?_
  refine AtL.pures hT 1 _ _ _ _ rfl ?_
  refine AtL.nil ?_
  refine AtE.then_n (AtE.go ?_)
  refine AtC.seqR ?_
  refine AtL.pures hT 1 _ _ _ _ rfl ?_
  refine AtL.e rfl (EffX.call (f := 28) (sh := fun h => pack_In_Int _ h _) (H0 := H) rfl Tryd.call28 rfl (hl := fun w m hr hw => lift_pack_In_Int _ w m hr _ hw)) ?_
  rintro _ _ ⟨v, h0, rfl, rfl, H⟩
  refine AtL.pures hT 1 _ _ _ _ rfl ?_
  refine AtL.nil ?_
  refine AtE.then_n (AtE.go ?_)
  refine AtC.seq ?_
  refine AtC.joinSeq (β := Unit) (fun (t0 : Bool) (bb : Unit) => [(21, Value.bool t0)]) (fun (t0 : Bool) (bb : Unit) => []) [0, 5] [] H (by exact rfl) (by exact rfl) (fun t0 bb h0u1 H => ?_) (fun J1 H HK1 => ?_)
  ·
   refine AtC.condB H rfl (fun H => ?_) (fun H => ?_)
   ·
    refine AtC.seqR ?_
    refine AtL.pures hT 1 _ _ _ _ rfl ?_
    refine AtL.e rfl (EffX.call (f := 65) (sh := fun h => pack_In_fail _ h _) (H0 := H) rfl Tryd.call65 rfl (hl := fun w m hr hw => lift_pack_In_fail _ w m hr _ hw)) ?_
    rintro _ _ ⟨v_2, h0u2, rfl, rfl, H⟩
    refine AtL.nil ?_
    refine AtE.then_n (AtE.go ?_)
    refine AtC.seqR ?_
    refine AtL.pures hT 1 _ _ _ _ rfl ?_
    refine AtL.nil ?_
    refine AtE.then_n (AtE.go ?_)
    refine AtC.ret ?_
    refine AtE.then_r ?_
    exact AtE.retN (rs := [.tmp 4]) rfl (ResAll.cons (ResAt.tmp rfl) ResAll.nil) rfl H
   ·
    refine AtC.skip ?_
    refine AtE.then_n (AtE.go ?_)
    refine AtC.seqR ?_
    refine AtL.pures hT 2 _ _ _ _ rfl ?_
    refine AtL.nil ?_
    refine AtE.then_n (AtE.go ?_)
    refine AtC.ret ?_
    exact AtE.retN (rs := [.tmp 4]) rfl (ResAll.cons (ResAt.tmp rfl) ResAll.nil) rfl H
  ·
   refine AtC.region ?_
   refine AtL.pures hT 3 _ _ _ _ rfl ?_
   refine AtL.splitB (t := 10) H rfl (fun H => ?_) (fun H => ?_)
   ·
    refine AtL.noF rfl rfl rfl (by decide) rfl ?_
    refine AtL.noF rfl rfl rfl (by decide) rfl ?_
    refine AtL.noF rfl rfl rfl (by decide) rfl ?_
    refine AtL.noF rfl rfl rfl (by decide) rfl ?_
    refine AtL.noF rfl rfl rfl (by decide) rfl ?_
    refine AtL.noF rfl rfl rfl (by decide) rfl ?_
    refine AtL.noF rfl rfl rfl (by decide) rfl ?_
    refine AtL.noF rfl rfl rfl (by decide) rfl ?_
    refine AtL.noF rfl rfl rfl (by decide) rfl ?_
    refine AtL.noF rfl rfl rfl (by decide) rfl ?_
    refine AtL.pures hT 1 _ _ _ _ rfl ?_
    refine AtL.nil ?_
    exact AtE.then_n ((HK1 _ () _ H).pickP (ts := [21, 0, 5]) (is := []) rfl rfl (by decide) rfl)
   ·
    refine AtL.yes rfl rfl rfl ?_
    refine AtL.pures hT 1 _ _ _ _ rfl ?_
    refine AtL.yes rfl rfl rfl ?_
    refine AtL.pures hT 1 _ _ _ _ rfl ?_
    refine AtL.yes rfl rfl rfl ?_
    obtain ⟨a, hc1, H⟩ := H
    refine AtL.q rfl (Quiet1.nilChk rfl rfl hc1) ?_
    refine AtL.yes rfl rfl rfl ?_
    refine AtL.pures hT 1 _ _ _ _ rfl ?_
    refine AtL.yes rfl rfl rfl ?_
    obtain ⟨v_1, hc2, H⟩ := H
    refine AtL.q rfl (Quiet1.load hT rfl rfl rfl hc2) ?_
    refine AtL.yes rfl rfl rfl ?_
    refine AtL.pures hT 1 _ _ _ _ rfl ?_
    refine AtL.yes rfl rfl rfl ?_
    refine AtL.pures hT 1 _ _ _ _ rfl ?_
    refine AtL.yes rfl rfl rfl ?_
    refine AtL.pures hT 1 _ _ _ _ rfl ?_
    refine AtL.yes rfl rfl rfl ?_
    obtain ⟨hd3, H⟩ := H
    refine AtL.q rfl (Quiet1.quo rfl rfl rfl hd3) ?_
    refine AtL.yes rfl rfl rfl ?_
    refine AtL.pures hT 1 _ _ _ _ rfl ?_
    refine AtL.pures hT 1 _ _ _ _ rfl ?_
    refine AtL.nil ?_
    exact AtE.then_n ((HK1 _ () _ H).pickP (ts := [21, 0, 5]) (is := []) rfl rfl (by decide) rfl)

theorem lift_pack_In_Bytes (in0 : (Option Addr)) (w : World) (m : Heap) (hr : Rel ⟨m, []⟩ w.heap) (S : Sl → Heap → Prop) (H : pack_In_Bytes in0 m S) :
    Calls Tryd.prog 32 #[Value.pointer in0] w (Post ⟨w, m⟩ Sl.toV S) := by
  refine Calls.lift (args := [Value.pointer in0]) Tryd.func32 rfl Tryd.ntmps32 (Nat.le_of_ble_eq_true rfl) hr (pack_In_Bytes in0 m S) H (fun H => ?_)
  refine AtC.pick (ts := [0]) rfl ?_
  unfold pack_In_Bytes at H
  refine AtC.seqR ?_
  refine AtL.pures hT 1 _ _ _ _ rfl ?_
  refine AtL.nil ?_
  refine AtE.then_n (AtE.go ?_)
  refine AtC.seqR ?_
  refine AtL.pures hT 2 _ _ _ _ rfl ?_
  refine AtL.e rfl (EffX.call (f := 41) (sh := fun h => pack_In_Count _ _ h _) (H0 := H) rfl Tryd.call41 rfl (hl := fun w m hr hw => lift_pack_In_Count _ _ w m hr _ hw)) ?_
  rintro _ _ ⟨v, h0, rfl, rfl, H⟩
  refine AtL.e rfl (EffX.call (f := 66) (sh := fun h => pack_In_take _ _ h _) (H0 := H) rfl Tryd.call66 rfl (hl := fun w m hr hw => lift_pack_In_take _ _ w m hr _ hw)) ?_
  rintro _ _ ⟨v_1, h0u1, rfl, rfl, H⟩
  refine AtL.e rfl (EffX.call (f := 27) (sh := fun h => slices_Clone_byte_byte _ h _) (H0 := H) rfl Tryd.call27 rfl (hl := fun w m hr hw => lift_slices_Clone_byte_byte _ w m hr _ hw)) ?_
  rintro _ _ ⟨v_2, h0u2, rfl, rfl, H⟩
  refine AtL.pures hT 1 _ _ _ _ rfl ?_
  refine AtL.nil ?_
  refine AtE.then_n (AtE.go ?_)
  refine AtC.ret ?_
  exact AtE.retN (rs := [.tmp 2]) rfl (ResAll.cons (ResAt.tmp rfl) ResAll.nil) rfl H

theorem lift_ref04uIn_Count (in0 : (Option Addr)) (least : Int) (w : World) (m : Heap) (hr : Rel ⟨m, []⟩ w.heap) (S : Int → Heap → Prop) (H : ref04uIn_Count in0 least m S) :
    Calls Tryd.prog 40 #[Value.pointer in0, Value.int .i64 least] w (Post ⟨w, m⟩ (Value.int .i64) S) := by
  refine Calls.lift (args := [Value.pointer in0, Value.int .i64 least]) Tryd.func40 rfl Tryd.ntmps40 (Nat.le_of_ble_eq_true rfl) hr (ref04uIn_Count in0 least m S) H (fun H => ?_)
  refine AtC.pick (ts := [0, 1]) rfl ?_
  unfold ref04uIn_Count at H
  refine AtC.seqR ?_
  refine AtL.pures hT 1 _ _ _ _ rfl ?_
  refine AtL.nil ?_
  refine AtE.then_n (AtE.go ?_)
  refine AtC.seqR ?_
  refine AtL.pures hT 1 _ _ _ _ rfl ?_
  refine AtL.e rfl (EffX.call (f := 29) (sh := fun h => ref04uIn_Int _ h _) (H0 := H) rfl Tryd.call29 rfl (hl := fun w m hr hw => lift_ref04uIn_Int _ w m hr _ hw)) ?_
  rintro _ _ ⟨v, h0, rfl, rfl, H⟩
  refine AtL.pures hT 1 _ _ _ _ rfl ?_
  refine AtL.nil ?_
  refine AtE.then_n (AtE.go ?_)
  refine AtC.joinSeq (β := Unit) (fun (t0 : Int) (bb : Unit) => [(1, Value.int .i64 t0)]) (fun (t0 : Int) (bb : Unit) => []) [0, 5] [] H (by exact rfl) (by exact rfl) (fun t0 bb h0u1 H => ?_) (fun J1 H HK1 => ?_)
  ·
   refine AtC.seq ?_
   refine AtC.joinSeq (β := Unit) (fun (t0u1 : Bool) (bb_1 : Unit) => [(33, Value.bool t0u1)]) (fun (t0u1 : Bool) (bb_1 : Unit) => []) [0, 5] [] H (by exact rfl) (by exact rfl) (fun t0u1 bb_1 h0u2 H => ?_) (fun J2 H HK2 => ?_)
   ·
    refine AtC.condB H rfl (fun H => ?_) (fun H => ?_)
    ·
     refine AtC.seqR ?_
     refine AtL.pures hT 1 _ _ _ _ rfl ?_
     obtain ⟨a_3, hc9, H⟩ := H
     refine AtL.q rfl (Quiet1.nilChk rfl rfl hc9) ?_
     refine AtL.pures hT 1 _ _ _ _ rfl ?_
     refine AtL.e rfl (EffX.store hT rfl rfl rfl rfl rfl H) ?_
     rintro _ _ ⟨h0u3, rfl, H⟩
     refine AtL.nil ?_
     refine AtE.then_n (AtE.go ?_)
     refine AtC.seqR ?_
     refine AtL.pures hT 1 _ _ _ _ rfl ?_
     refine AtL.nil ?_
     refine AtE.then_n (AtE.go ?_)
     refine AtC.ret ?_
     refine AtE.then_r ?_
     exact AtE.retN (rs := [.tmp 4]) rfl (ResAll.cons (ResAt.tmp rfl) ResAll.nil) rfl H
    ·
     refine AtC.skip ?_
     refine AtE.then_n (AtE.go ?_)
     refine AtC.seqR ?_
     refine AtL.pures hT 2 _ _ _ _ rfl ?_
     refine AtL.nil ?_
     refine AtE.then_n (AtE.go ?_)
     refine AtC.ret ?_
     exact AtE.retN (rs := [.tmp 4]) rfl (ResAll.cons (ResAt.tmp rfl) ResAll.nil) rfl H
   ·
    refine AtC.draw hmix (by kernel_rfl) ?_
    refine AtD.pures hT 1 _ _ _ _ rfl ?_
    obtain ⟨a, hc2, H⟩ := H
    refine AtD.q rfl (Quiet1.nilChk rfl rfl hc2) ?_
    refine AtD.pures hT 1 _ _ _ _ rfl ?_
    obtain ⟨v_1, hc3, H⟩ := H
    refine AtD.q rfl (Quiet1.load hT rfl rfl rfl hc3) ?_
    refine AtD.pures hT 1 _ _ _ _ rfl ?_
    refine AtD.splitB (t := 14) H rfl (fun H => ?_) (fun H => ?_)
    ·
     refine AtD.noF rfl rfl rfl (by decide) rfl ?_
     refine AtD.noF rfl rfl rfl (by decide) rfl ?_
     refine AtD.pures hT 2 _ _ _ _ rfl ?_
     refine AtD.noF rfl rfl rfl (by decide) rfl ?_
     refine AtD.noF rfl rfl rfl (by decide) rfl ?_
     refine AtD.noF rfl rfl rfl (by decide) rfl ?_
     refine AtD.noF rfl rfl rfl (by decide) rfl ?_
     refine AtD.noF rfl rfl rfl (by decide) rfl ?_
     refine AtD.noF rfl rfl rfl (by decide) rfl ?_
     refine AtD.noF rfl rfl rfl (by decide) rfl ?_
     refine AtD.noF rfl rfl rfl (by decide) rfl ?_
     refine AtD.noF rfl rfl rfl (by decide) rfl ?_
     refine AtD.noF rfl rfl rfl (by decide) rfl ?_
     refine AtD.noF rfl rfl rfl (by decide) rfl ?_
     refine AtD.noF rfl rfl rfl (by decide) rfl ?_
     refine AtD.noF rfl rfl rfl (by decide) rfl ?_
     refine AtD.noF rfl rfl rfl (by decide) rfl ?_
     refine AtD.pures hT 1 _ _ _ _ rfl ?_
     refine AtD.nil ?_
     exact AtE.then_n ((HK2 _ () _ H).pickP (ts := [33, 0, 5]) (is := []) rfl rfl (by decide) rfl)
    ·
     refine AtD.yes rfl rfl rfl ?_
     refine AtD.pures hT 1 _ _ _ _ rfl ?_
     refine AtD.yes rfl rfl rfl ?_
     refine AtD.pures hT 1 _ _ _ _ rfl ?_
     refine AtD.pures hT 2 _ _ _ _ rfl ?_
     refine AtD.splitB (t := 18) H rfl (fun H => ?_) (fun H => ?_)
     ·
      refine AtD.noF rfl rfl rfl (by decide) rfl ?_
      refine AtD.noF rfl rfl rfl (by decide) rfl ?_
      refine AtD.noF rfl rfl rfl (by decide) rfl ?_
      refine AtD.noF rfl rfl rfl (by decide) rfl ?_
      refine AtD.noF rfl rfl rfl (by decide) rfl ?_
      refine AtD.noF rfl rfl rfl (by decide) rfl ?_
      refine AtD.noF rfl rfl rfl (by decide) rfl ?_
      refine AtD.noF rfl rfl rfl (by decide) rfl ?_
      refine AtD.noF rfl rfl rfl (by decide) rfl ?_
      refine AtD.noF rfl rfl rfl (by decide) rfl ?_
      refine AtD.noF rfl rfl rfl (by decide) rfl ?_
      refine AtD.noF rfl rfl rfl (by decide) rfl ?_
      refine AtD.noF rfl rfl rfl (by decide) rfl ?_
      refine AtD.noF rfl rfl rfl (by decide) rfl ?_
      refine AtD.pures hT 1 _ _ _ _ rfl ?_
      refine AtD.nil ?_
      exact AtE.then_n ((HK2 _ () _ H).pickP (ts := [33, 0, 5]) (is := []) rfl rfl (by decide) rfl)
     ·
      refine AtD.yes rfl rfl rfl ?_
      refine AtD.pures hT 1 _ _ _ _ rfl ?_
      refine AtD.yes rfl rfl rfl ?_
      refine AtD.pures hT 1 _ _ _ _ rfl ?_
      refine AtD.yes rfl rfl rfl ?_
      obtain ⟨a_1, hc4, H⟩ := H
      refine AtD.q rfl (Quiet1.nilChk rfl rfl hc4) ?_
      refine AtD.yes rfl rfl rfl ?_
      refine AtD.pures hT 1 _ _ _ _ rfl ?_
      refine AtD.yes rfl rfl rfl ?_
      obtain ⟨v_2, hc5, H⟩ := H
      refine AtD.q rfl (Quiet1.load hT rfl rfl rfl hc5) ?_
      refine AtD.yes rfl rfl rfl ?_
      refine AtD.pures hT 1 _ _ _ _ rfl ?_
      refine AtD.yes rfl rfl rfl ?_
      refine AtD.pures hT 1 _ _ _ _ rfl ?_
      refine AtD.yes rfl rfl rfl ?_
      obtain ⟨a_2, hc6, H⟩ := H
      refine AtD.q rfl (Quiet1.nilChk rfl rfl hc6) ?_
      refine AtD.yes rfl rfl rfl ?_
      refine AtD.pures hT 1 _ _ _ _ rfl ?_
      refine AtD.yes rfl rfl rfl ?_
      obtain ⟨v_3, hc7, H⟩ := H
      refine AtD.q rfl (Quiet1.load hT rfl rfl rfl hc7) ?_
      refine AtD.yes rfl rfl rfl ?_
      refine AtD.pures hT 1 _ _ _ _ rfl ?_
      refine AtD.yes rfl rfl rfl ?_
      refine AtD.pures hT 1 _ _ _ _ rfl ?_
      refine AtD.yes rfl rfl rfl ?_
      obtain ⟨hd8, H⟩ := H
      refine AtD.q rfl (Quiet1.quo rfl rfl rfl hd8) ?_
      refine AtD.yes rfl rfl rfl ?_
      refine AtD.pures hT 1 _ _ _ _ rfl ?_
      refine AtD.pures hT 1 _ _ _ _ rfl ?_
      refine AtD.nil ?_
      exact AtE.then_n ((HK2 _ () _ H).pickP (ts := [33, 0, 5]) (is := []) rfl rfl (by decide) rfl)
  ·
   refine AtC.seqR ?_
   refine AtL.pures hT 2 _ _ _ _ rfl ?_
   refine AtL.nil ?_
   refine AtE.then_n (AtE.go ?_)
   refine AtC.condB H rfl (fun H => ?_) (fun H => ?_)
   ·
    refine AtC.region ?_
    refine AtL.pures hT 1 _ _ _ _ rfl ?_
    refine AtL.nil ?_
    exact AtE.then_n ((HK1 _ () _ H).pickP (ts := [1, 0, 5]) (is := []) rfl rfl (by decide) rfl)
   ·
    refine AtC.skip ?_
    exact AtE.then_n ((HK1 _ () _ H).pickP (ts := [1, 0, 5]) (is := []) rfl rfl (by decide) rfl)

theorem lift_ref04uIn_Bytes (in0 : (Option Addr)) (w : World) (m : Heap) (hr : Rel ⟨m, []⟩ w.heap) (S : Sl → Heap → Prop) (H : ref04uIn_Bytes in0 m S) :
    Calls Tryd.prog 33 #[Value.pointer in0] w (Post ⟨w, m⟩ Sl.toV S) := by
  refine Calls.lift (args := [Value.pointer in0]) Tryd.func33 rfl Tryd.ntmps33 (Nat.le_of_ble_eq_true rfl) hr (ref04uIn_Bytes in0 m S) H (fun H => ?_)
  refine AtC.pick (ts := [0]) rfl ?_
  unfold ref04uIn_Bytes at H
  refine AtC.seqR ?_
  refine AtL.pures hT 1 _ _ _ _ rfl ?_
  refine AtL.nil ?_
  refine AtE.then_n (AtE.go ?_)
  refine AtC.seqR ?_
  refine AtL.pures hT 1 _ _ _ _ rfl ?_
  refine AtL.e rfl (EffX.call (f := 40) (sh := fun h => ref04uIn_Count _ _ h _) (H0 := H) rfl Tryd.call40 rfl (hl := fun w m hr hw => lift_ref04uIn_Count _ _ w m hr _ hw)) ?_
  rintro _ _ ⟨v, h0, rfl, rfl, H⟩
  refine AtL.pures hT 1 _ _ _ _ rfl ?_
  refine AtL.nil ?_
  refine AtE.then_n (AtE.go ?_)
  refine AtC.seqR ?_
  refine AtL.pures hT 2 _ _ _ _ rfl ?_
  refine AtL.e rfl (EffX.call (f := 64) (sh := fun h => ref04uIn_take _ _ h _) (H0 := H) rfl Tryd.call64 rfl (hl := fun w m hr hw => lift_ref04uIn_take _ _ w m hr _ hw)) ?_
  rintro _ _ ⟨v_1, h0u1, rfl, rfl, H⟩
  refine AtL.pures hT 1 _ _ _ _ rfl ?_
  refine AtL.nil ?_
  refine AtE.then_n (AtE.go ?_)
  refine AtC.ret ?_
  exact AtE.retN (rs := [.tmp 2]) rfl (ResAll.cons (ResAt.tmp rfl) ResAll.nil) rfl H

theorem lift_pack_In_limb (in0 : (Option Addr)) (w : World) (m : Heap) (hr : Rel ⟨m, []⟩ w.heap) (S : Int → Heap → Prop) (H : pack_In_limb in0 m S) :
    Calls Tryd.prog 69 #[Value.pointer in0] w (Post ⟨w, m⟩ (Value.int .u32) S) := by
  refine Calls.lift (args := [Value.pointer in0]) Tryd.func69 rfl Tryd.ntmps69 (Nat.le_of_ble_eq_true rfl) hr (pack_In_limb in0 m S) H (fun H => ?_)
  refine AtC.pick (ts := [0]) rfl ?_
  unfold pack_In_limb at H
  refine AtC.seqR ?_
  refine AtL.pures hT 1 _ _ _ _ rfl ?_
  refine AtL.nil ?_
  refine AtE.then_n (AtE.go ?_)
  refine AtC.seqR ?_
  refine AtL.pures hT 1 _ _ _ _ rfl ?_
  refine AtL.e rfl (EffX.call (f := 63) (sh := fun h => pack_In_number _ _ h _) (H0 := H) rfl Tryd.call63 rfl (hl := fun w m hr hw => lift_pack_In_number _ _ w m hr _ hw)) ?_
  rintro _ _ ⟨v, h0, rfl, rfl, H⟩
  refine AtL.pures hT 2 _ _ _ _ rfl ?_
  refine AtL.nil ?_
  refine AtE.then_n (AtE.go ?_)
  refine AtC.ret ?_
  exact AtE.retN (rs := [.tmp 2]) rfl (ResAll.cons (ResAt.tmp rfl) ResAll.nil) rfl H

theorem lift_nat_trim (x0 : Sl) (w : World) (m : Heap) (hr : Rel ⟨m, []⟩ w.heap) (S : Sl → Heap → Prop) (H : nat_trim x0 m S) :
    Calls Tryd.prog 86 #[Sl.toV x0] w (Post ⟨w, m⟩ Sl.toV S) := by
  refine Calls.lift (args := [Sl.toV x0]) Tryd.func86 rfl Tryd.ntmps86 (Nat.le_of_ble_eq_true rfl) hr (nat_trim x0 m S) H (fun H => ?_)
  refine AtC.pick (ts := [0]) rfl ?_
  unfold nat_trim at H
  refine AtC.seqR ?_
  refine AtL.pures hT 1 _ _ _ _ rfl ?_
  refine AtL.nil ?_
  refine AtE.then_n (AtE.go ?_)
  refine AtC.seq ?_
  refine AtC.block ?_
  refine AtC.loopM (fun (s0 : Sl) => [(0, Sl.toV s0)]) (fun (s0 : Sl) => []) [] [0] [] [] H (by exact rfl) (by exact rfl) (by exact rfl) (by decide) (by exact rfl) (fun Kp1 s0 h0 H Q1 HK1 => ?_)
  refine AtC.seq ?_
  refine AtC.joinSeq (β := Unit) (fun (t0 : Bool) (bb : Unit) => [(14, Value.bool t0)]) (fun (t0 : Bool) (bb : Unit) => []) [0] [] H (by exact rfl) (by exact rfl) (fun t0 bb h0u1 H => ?_) (fun J2 H HK2 => ?_)
  ·
   refine AtC.condB H rfl (fun H => ?_) (fun H => ?_)
   ·
    refine AtC.skip ?_
    refine AtE.then_n (AtE.go ?_)
    refine AtC.block ?_
    refine AtC.region ?_
    refine AtL.pures hT 4 _ _ _ _ rfl ?_
    refine AtL.sl (hT := hT) H rfl rfl rfl rfl rfl rfl rfl (fun h => by cases h <;> rfl) rfl (fun v_1 H => ?_)
    refine AtL.pures hT 1 _ _ _ _ rfl ?_
    refine AtL.nil ?_
    refine AtE.blk_n ?_
    exact AtE.then_n ((HK1 _ _ H).pickP (ts := [0]) (is := []) rfl rfl (by decide) rfl)
   ·
    refine AtC.exit ?_
    refine AtE.then_x ?_
    refine AtE.then_x ?_
    refine AtE.blk_hit ?_
    refine AtE.then_n (AtE.go ?_)
    refine AtC.seqR ?_
    refine AtL.pures hT 2 _ _ _ _ rfl ?_
    refine AtL.nil ?_
    refine AtE.then_n (AtE.go ?_)
    refine AtC.ret ?_
    exact AtE.retN (rs := [.tmp 2]) rfl (ResAll.cons (ResAt.tmp rfl) ResAll.nil) rfl H
  ·
   refine AtC.region ?_
   refine AtL.pures hT 4 _ _ _ _ rfl ?_
   refine AtL.splitB (t := 6) H rfl (fun H => ?_) (fun H => ?_)
   ·
    refine AtL.yes rfl rfl rfl ?_
    refine AtL.pures hT 1 _ _ _ _ rfl ?_
    refine AtL.yes rfl rfl rfl ?_
    refine AtL.pures hT 1 _ _ _ _ rfl ?_
    refine AtL.yes rfl rfl rfl ?_
    refine AtL.pures hT 1 _ _ _ _ rfl ?_
    refine AtL.yes rfl rfl rfl ?_
    refine AtL.pures hT 1 _ _ _ _ rfl ?_
    refine AtL.yes rfl rfl rfl ?_
    obtain ⟨a_, hc2, hd2, H⟩ := H
    refine AtL.q rfl (Quiet1.idxS (s := _) hT rfl rfl rfl rfl rfl hc2 hd2) ?_
    refine AtL.yes rfl rfl rfl ?_
    obtain ⟨v, hc3, H⟩ := H
    refine AtL.q rfl (Quiet1.load hT rfl rfl rfl hc3) ?_
    refine AtL.yes rfl rfl rfl ?_
    refine AtL.pures hT 1 _ _ _ _ rfl ?_
    refine AtL.pures hT 1 _ _ _ _ rfl ?_
    refine AtL.nil ?_
    exact AtE.then_n ((HK2 _ () _ H).pickP (ts := [14, 0]) (is := []) rfl rfl (by decide) rfl)
   ·
    refine AtL.noF rfl rfl rfl (by decide) rfl ?_
    refine AtL.noF rfl rfl rfl (by decide) rfl ?_
    refine AtL.noF rfl rfl rfl (by decide) rfl ?_
    refine AtL.noF rfl rfl rfl (by decide) rfl ?_
    refine AtL.noF rfl rfl rfl (by decide) rfl ?_
    refine AtL.noF rfl rfl rfl (by decide) rfl ?_
    refine AtL.noF rfl rfl rfl (by decide) rfl ?_
    refine AtL.pures hT 1 _ _ _ _ rfl ?_
    refine AtL.nil ?_
    exact AtE.then_n ((HK2 _ () _ H).pickP (ts := [14, 0]) (is := []) rfl rfl (by decide) rfl)

theorem lift_nat_Right (x0 : Sl) (w : World) (m : Heap) (hr : Rel ⟨m, []⟩ w.heap) (S : Bool → Heap → Prop) (H : nat_Right x0 m S) :
    Calls Tryd.prog 79 #[Sl.toV x0] w (Post ⟨w, m⟩ Value.bool S) := by
  refine Calls.lift (args := [Sl.toV x0]) Tryd.func79 rfl Tryd.ntmps79 (Nat.le_of_ble_eq_true rfl) hr (nat_Right x0 m S) H (fun H => ?_)
  refine AtC.pick (ts := [0]) rfl ?_
  unfold nat_Right at H
  refine AtC.seqR ?_
  refine AtL.pures hT 1 _ _ _ _ rfl ?_
  refine AtL.nil ?_
  refine AtE.then_n (AtE.go ?_)
  refine AtC.seqR ?_
  refine AtL.pures hT 1 _ _ _ _ rfl ?_
  refine AtL.e rfl (EffX.call (f := 86) (sh := fun h => nat_trim _ h _) (H0 := H) rfl Tryd.call86 rfl (hl := fun w m hr hw => lift_nat_trim _ w m hr _ hw)) ?_
  rintro _ _ ⟨v, h0, rfl, rfl, H⟩
  refine AtL.pures hT 5 _ _ _ _ rfl ?_
  refine AtL.nil ?_
  refine AtE.then_n (AtE.go ?_)
  refine AtC.ret ?_
  exact AtE.retN (rs := [.tmp 2]) rfl (ResAll.cons (ResAt.tmp rfl) ResAll.nil) rfl H

theorem lift_ratio_one (w : World) (m : Heap) (hr : Rel ⟨m, []⟩ w.heap) (S : Sl → Heap → Prop) (H : ratio_one m S) :
    Calls Tryd.prog 88 #[] w (Post ⟨w, m⟩ Sl.toV S) := by
  refine Calls.lift (args := []) Tryd.func88 rfl Tryd.ntmps88 (Nat.le_of_ble_eq_true rfl) hr (ratio_one m S) H (fun H => ?_)
  refine AtC.pick (ts := []) rfl ?_
  unfold ratio_one at H
  refine AtC.seqR ?_
  refine AtL.pures hT 1 _ _ _ _ rfl ?_
  refine AtL.nil ?_
  refine AtE.then_n (AtE.go ?_)
  refine AtC.seqR ?_
  refine AtLX.bs (hT := hT) (cs := [_]) H rfl rfl rfl rfl rfl rfl rfl rfl rfl (fun a h0 H => ?_)
  refine AtL.pures hT 1 _ _ _ _ rfl ?_
  refine AtL.nil ?_
  refine AtE.then_n (AtE.go ?_)
  refine AtC.ret ?_
  exact AtE.retN (rs := [.tmp 0]) rfl (ResAll.cons (ResAt.tmp rfl) ResAll.nil) rfl H

theorem lift_slices_Equal_api_Nat_uint32 (s1 : Sl) (s2 : Sl) (w : World) (m : Heap) (hr : Rel ⟨m, []⟩ w.heap) (S : Bool → Heap → Prop) (H : slices_Equal_api_Nat_uint32 s1 s2 m S) :
    Calls Tryd.prog 87 #[Sl.toV s1, Sl.toV s2] w (Post ⟨w, m⟩ Value.bool S) := by
  refine Calls.lift (args := [Sl.toV s1, Sl.toV s2]) Tryd.func87 rfl Tryd.ntmps87 (Nat.le_of_ble_eq_true rfl) hr (slices_Equal_api_Nat_uint32 s1 s2 m S) H (fun H => ?_)
  refine AtC.pick (ts := [0, 1]) rfl ?_
  unfold slices_Equal_api_Nat_uint32 at H
  refine AtC.seqR ?_
  refine AtL.pures hT 1 _ _ _ _ rfl ?_
  refine AtL.nil ?_
  refine AtE.then_n (AtE.go ?_)
  refine AtC.seq ?_
  refine AtC.seqR ?_
  refine AtL.pures hT 5 _ _ _ _ rfl ?_
  refine AtL.nil ?_
  refine AtE.then_n (AtE.go ?_)
  refine AtC.condB H rfl (fun H => ?_) (fun H => ?_)
  ·
   refine AtC.seqR ?_
   refine AtL.pures hT 1 _ _ _ _ rfl ?_
   refine AtL.nil ?_
   refine AtE.then_n (AtE.go ?_)
   refine AtC.ret ?_
   refine AtE.then_r ?_
   exact AtE.retN (rs := [.tmp 4]) rfl (ResAll.cons (ResAt.tmp rfl) ResAll.nil) rfl H
  ·
   refine AtC.skip ?_
   refine AtE.then_n (AtE.go ?_)
   refine AtC.seq ?_
   refine AtC.seqR ?_
   refine AtL.pures hT 3 _ _ _ _ rfl ?_
   refine AtL.nil ?_
   refine AtE.then_n (AtE.go ?_)
   refine AtC.block ?_
   refine AtC.loopM (fun (s0 : Int) => [(13, Value.int .i64 s0)]) (fun (s0 : Int) => []) [0, 1, 12] [13, 0, 1, 12] [] [] H (by exact rfl) (by exact rfl) (by exact rfl) (by decide) (by exact rfl) (fun Kp1 s0 h0 H Q1 HK1 => ?_)
   refine AtC.seqR ?_
   refine AtL.pures hT 1 _ _ _ _ rfl ?_
   refine AtL.nil ?_
   refine AtE.then_n (AtE.go ?_)
   refine AtC.seq ?_
   refine AtC.condB H rfl (fun H => ?_) (fun H => ?_)
   ·
    refine AtC.skip ?_
    refine AtE.then_n (AtE.go ?_)
    refine AtC.seq ?_
    refine AtC.block ?_
    refine AtC.seqR ?_
    refine AtL.pures hT 2 _ _ _ _ rfl ?_
    refine AtL.nil ?_
    refine AtE.then_n (AtE.go ?_)
    refine AtC.seqD hmix (by kernel_rfl) ?_
    refine AtD.pures hT 2 _ _ _ _ rfl ?_
    obtain ⟨a_, hc1, hd1, H⟩ := H
    refine AtD.q rfl (Quiet1.idxS (s := _) hT rfl rfl rfl rfl rfl hc1 hd1) ?_
    obtain ⟨v, hc2, H⟩ := H
    refine AtD.q rfl (Quiet1.load hT rfl rfl rfl hc2) ?_
    refine AtD.pures hT 2 _ _ _ _ rfl ?_
    obtain ⟨a_1_, hc3, hd3, H⟩ := H
    refine AtD.q rfl (Quiet1.idxS (s := _) hT rfl rfl rfl rfl rfl hc3 hd3) ?_
    obtain ⟨v_1, hc4, H⟩ := H
    refine AtD.q rfl (Quiet1.load hT rfl rfl rfl hc4) ?_
    refine AtD.pures hT 1 _ _ _ _ rfl ?_
    refine AtD.nil ?_
    refine AtE.then_n (AtE.go ?_)
    refine AtC.condB H rfl (fun H => ?_) (fun H => ?_)
    ·
     refine AtC.seqR ?_
     refine AtL.pures hT 1 _ _ _ _ rfl ?_
     refine AtL.nil ?_
     refine AtE.then_n (AtE.go ?_)
     refine AtC.ret ?_
     refine AtE.blk_r ?_
     refine AtE.then_r ?_
     refine AtE.then_r ?_
     refine AtE.blk_r ?_
     refine AtE.then_r ?_
     exact AtE.retN (rs := [.tmp 4]) rfl (ResAll.cons (ResAt.tmp rfl) ResAll.nil) rfl H
    ·
     refine AtC.skip ?_
     refine AtE.blk_n ?_
     refine AtE.then_n (AtE.go ?_)
     refine AtC.region ?_
     refine AtL.pures hT 2 _ _ _ _ rfl ?_
     refine AtL.nil ?_
     exact AtE.then_n ((HK1 _ _ H).pickP (ts := [13, 0, 1, 12]) (is := []) rfl rfl (by decide) rfl)
   ·
    refine AtC.exit ?_
    refine AtE.then_x ?_
    refine AtE.then_x ?_
    refine AtE.blk_hit ?_
    refine AtE.then_n (AtE.go ?_)
    refine AtC.seqR ?_
    refine AtL.pures hT 1 _ _ _ _ rfl ?_
    refine AtL.nil ?_
    refine AtE.then_n (AtE.go ?_)
    refine AtC.ret ?_
    exact AtE.retN (rs := [.tmp 4]) rfl (ResAll.cons (ResAt.tmp rfl) ResAll.nil) rfl H

theorem lift_ratio_isOne (x0 : Sl) (w : World) (m : Heap) (hr : Rel ⟨m, []⟩ w.heap) (S : Bool → Heap → Prop) (H : ratio_isOne x0 m S) :
    Calls Tryd.prog 80 #[Sl.toV x0] w (Post ⟨w, m⟩ Value.bool S) := by
  refine Calls.lift (args := [Sl.toV x0]) Tryd.func80 rfl Tryd.ntmps80 (Nat.le_of_ble_eq_true rfl) hr (ratio_isOne x0 m S) H (fun H => ?_)
  refine AtC.pick (ts := [0]) rfl ?_
  unfold ratio_isOne at H
  refine AtC.seqR ?_
  refine AtL.pures hT 1 _ _ _ _ rfl ?_
  refine AtL.nil ?_
  refine AtE.then_n (AtE.go ?_)
  refine AtC.seqR ?_
  refine AtL.pures hT 1 _ _ _ _ rfl ?_
  refine AtL.e rfl (EffX.call (f := 88) (sh := fun h => ratio_one h _) (H0 := H) rfl Tryd.call88 rfl (hl := fun w m hr hw => lift_ratio_one  w m hr _ hw)) ?_
  rintro _ _ ⟨v, h0, rfl, rfl, H⟩
  refine AtL.e rfl (EffX.call (f := 87) (sh := fun h => slices_Equal_api_Nat_uint32 _ _ h _) (H0 := H) rfl Tryd.call87 rfl (hl := fun w m hr hw => lift_slices_Equal_api_Nat_uint32 _ _ w m hr _ hw)) ?_
  rintro _ _ ⟨v_1, h0u1, rfl, rfl, H⟩
  refine AtL.pures hT 1 _ _ _ _ rfl ?_
  refine AtL.nil ?_
  refine AtE.then_n (AtE.go ?_)
  refine AtC.ret ?_
  exact AtE.retN (rs := [.tmp 2]) rfl (ResAll.cons (ResAt.tmp rfl) ResAll.nil) rfl H

theorem lift_nat_New (limbs : Int) (w : World) (m : Heap) (hr : Rel ⟨m, []⟩ w.heap) (S : ((Option Addr)) → Heap → Prop) (H : nat_New limbs m S) :
    Calls Tryd.prog 89 #[Value.int .i64 limbs] w (Post ⟨w, m⟩ Value.pointer S) := by
  refine Calls.lift (args := [Value.int .i64 limbs]) Tryd.func89 rfl Tryd.ntmps89 (Nat.le_of_ble_eq_true rfl) hr (nat_New limbs m S) H (fun H => ?_)
  refine AtC.pick (ts := [0]) rfl ?_
  unfold nat_New at H
  refine AtC.seqR ?_
  refine AtL.pures hT 1 _ _ _ _ rfl ?_
  refine AtL.nil ?_
  refine AtE.then_n (AtE.go ?_)
  refine AtC.seqR ?_
  refine AtL.pures hT 2 _ _ _ _ rfl ?_
  refine AtL.q rfl (Quiet1.build (cs := [_, _]) hT rfl rfl rfl rfl rfl rfl) ?_
  refine AtL.e rfl (EffX.box (cs := [_, _]) rfl rfl rfl H) ?_
  rintro _ _ ⟨a, h0, rfl, rfl, H⟩
  refine AtL.pures hT 1 _ _ _ _ rfl ?_
  refine AtL.nil ?_
  refine AtE.then_n (AtE.go ?_)
  refine AtC.ret ?_
  exact AtE.retN (rs := [.tmp 2]) rfl (ResAll.cons (ResAt.tmp rfl) ResAll.nil) rfl H

theorem lift_ratio_free (w : World) (m : Heap) (hr : Rel ⟨m, []⟩ w.heap) (S : ((Option Addr)) → Heap → Prop) (H : ratio_free m S) :
    Calls Tryd.prog 81 #[] w (Post ⟨w, m⟩ Value.pointer S) := by
  refine Calls.lift (args := []) Tryd.func81 rfl Tryd.ntmps81 (Nat.le_of_ble_eq_true rfl) hr (ratio_free m S) H (fun H => ?_)
  refine AtC.pick (ts := []) rfl ?_
  unfold ratio_free at H
  refine AtC.seqR ?_
  refine AtL.pures hT 1 _ _ _ _ rfl ?_
  refine AtL.nil ?_
  refine AtE.then_n (AtE.go ?_)
  refine AtC.seqR ?_
  refine AtL.e rfl (EffX.call (f := 89) (sh := fun h => nat_New _ h _) (H0 := H) rfl Tryd.call89 rfl (hl := fun w m hr hw => lift_nat_New _ w m hr _ hw)) ?_
  rintro _ _ ⟨v, h0, rfl, rfl, H⟩
  refine AtL.pures hT 1 _ _ _ _ rfl ?_
  refine AtL.nil ?_
  refine AtE.then_n (AtE.go ?_)
  refine AtC.ret ?_
  exact AtE.retN (rs := [.tmp 0]) rfl (ResAll.cons (ResAt.tmp rfl) ResAll.nil) rfl H

theorem lift_ratio_den (x0 : Bool × Sl × Sl) (w : World) (m : Heap) (hr : Rel ⟨m, []⟩ w.heap) (S : Sl → Heap → Prop) (H : ratio_den x0 m S) :
    Calls Tryd.prog 83 #[Value.agg (C_bool_sl_sl x0).toArray] w (Post ⟨w, m⟩ Sl.toV S) := by
  refine Calls.lift (args := [Value.agg (C_bool_sl_sl x0).toArray]) Tryd.func83 rfl Tryd.ntmps83 (Nat.le_of_ble_eq_true rfl) hr (ratio_den x0 m S) H (fun H => ?_)
  refine AtC.pick (ts := [0]) rfl ?_
  unfold ratio_den at H
  refine AtC.seqR ?_
  refine AtL.e rfl (EffX.boxP (cs := [_, _, _]) rfl rfl rfl H) ?_
  rintro _ _ ⟨b, _, rfl, rfl, _, H⟩
  replace H := H.self
  refine AtL.pures hT 1 _ _ _ _ rfl ?_
  refine AtL.nil ?_
  refine AtE.then_n (AtE.go ?_)
  refine AtC.seq ?_
  refine AtC.seqR ?_
  refine AtL.pures hT 1 _ _ _ _ rfl ?_
  refine AtL.q rfl (Quiet1.loadP (i := 0) hT rfl rfl rfl rfl rfl rfl) ?_
  refine AtL.pures hT 2 _ _ _ _ rfl ?_
  refine AtL.nil ?_
  refine AtE.then_n (AtE.go ?_)
  refine AtC.condB H rfl (fun H => ?_) (fun H => ?_)
  ·
   refine AtC.seqR ?_
   refine AtL.e rfl (EffX.call (f := 88) (sh := fun h => ratio_one h _) (H0 := H) rfl Tryd.call88 rfl (hl := fun w m hr hw => lift_ratio_one  w m hr _ hw)) ?_
   rintro _ _ ⟨v, h0u1, rfl, rfl, H⟩
   refine AtL.pures hT 1 _ _ _ _ rfl ?_
   refine AtL.nil ?_
   refine AtE.then_n (AtE.go ?_)
   refine AtC.ret ?_
   refine AtE.then_r ?_
   exact AtE.retN (rs := [.tmp 2]) rfl (ResAll.cons (ResAt.tmp rfl) ResAll.nil) rfl H
  ·
   refine AtC.skip ?_
   refine AtE.then_n (AtE.go ?_)
   refine AtC.seqR ?_
   refine AtL.pures hT 1 _ _ _ _ rfl ?_
   refine AtL.q rfl (Quiet1.loadP (i := 0) hT rfl rfl rfl rfl rfl rfl) ?_
   refine AtL.pures hT 1 _ _ _ _ rfl ?_
   refine AtL.nil ?_
   refine AtE.then_n (AtE.go ?_)
   refine AtC.ret ?_
   exact AtE.retN (rs := [.tmp 2]) rfl (ResAll.cons (ResAt.tmp rfl) ResAll.nil) rfl H

theorem lift_nat_small (x0 : Sl) (w : World) (m : Heap) (hr : Rel ⟨m, []⟩ w.heap) (S : (Int × Bool) → Heap → Prop) (H : nat_small x0 m S) :
    Calls Tryd.prog 96 #[Sl.toV x0] w (Post ⟨w, m⟩ (fun r => Value.tuple #[(Value.int .u64) r.1, Value.bool r.2]) S) := by
  refine Calls.lift (args := [Sl.toV x0]) Tryd.func96 rfl Tryd.ntmps96 (Nat.le_of_ble_eq_true rfl) hr (nat_small x0 m S) H (fun H => ?_)
  refine AtC.pick (ts := [0]) rfl ?_
  unfold nat_small at H
  refine AtC.seqR ?_
  refine AtL.pures hT 2 _ _ _ _ rfl ?_
  refine AtL.nil ?_
  refine AtE.then_n (AtE.go ?_)
  refine AtC.seqR ?_
  refine AtL.pures hT 1 _ _ _ _ rfl ?_
  refine AtL.e rfl (EffX.call (f := 86) (sh := fun h => nat_trim _ h _) (H0 := H) rfl Tryd.call86 rfl (hl := fun w m hr hw => lift_nat_trim _ w m hr _ hw)) ?_
  rintro _ _ ⟨v, h0, rfl, rfl, H⟩
  refine AtL.pures hT 1 _ _ _ _ rfl ?_
  refine AtL.nil ?_
  refine AtE.then_n (AtE.go ?_)
  refine AtC.seq ?_
  refine AtC.seqR ?_
  refine AtL.pures hT 4 _ _ _ _ rfl ?_
  replace H := H _ rfl
  refine AtL.nil ?_
  refine AtE.then_n (AtE.go ?_)
  refine AtC.block ?_
  refine AtC.loopM (fun (s0 : Int × Int) => [(2, Value.int .u64 s0.1), (4, Value.int .i64 s0.2)]) (fun (s0 : Int × Int) => []) [0] [2, 4, 0] [] [] H (by exact rfl) (by exact rfl) (by exact rfl) (by decide) (by exact rfl) (fun Kp1 s0 h0u1 H Q1 HK1 => ?_)
  refine AtC.seq ?_
  refine AtC.seqR ?_
  refine AtL.pures hT 2 _ _ _ _ rfl ?_
  refine AtL.nil ?_
  refine AtE.then_n (AtE.go ?_)
  refine AtC.condB H rfl (fun H => ?_) (fun H => ?_)
  ·
   refine AtC.skip ?_
   refine AtE.then_n (AtE.go ?_)
   refine AtC.seq ?_
   refine AtC.block ?_
   refine AtC.region ?_
   refine AtL.pures hT 4 _ _ _ _ rfl ?_
   obtain ⟨a_, hc1, hd1, H⟩ := H
   refine AtL.q rfl (Quiet1.idxS (s := _) hT rfl rfl rfl rfl rfl hc1 hd1) ?_
   obtain ⟨v_1, hc2, H⟩ := H
   refine AtL.q rfl (Quiet1.load hT rfl rfl rfl hc2) ?_
   refine AtL.pures hT 3 _ _ _ _ rfl ?_
   replace H := H _ rfl
   refine AtL.nil ?_
   refine AtE.blk_n ?_
   refine AtE.then_n (AtE.go ?_)
   refine AtC.region ?_
   refine AtL.pures hT 3 _ _ _ _ rfl ?_
   replace H := H _ rfl
   refine AtL.nil ?_
   exact AtE.then_n ((HK1 _ _ H).pickP (ts := [2, 4, 0]) (is := []) rfl rfl (by decide) rfl)
  ·
   refine AtC.exit ?_
   refine AtE.then_x ?_
   refine AtE.then_x ?_
   refine AtE.blk_hit ?_
   refine AtE.then_n (AtE.go ?_)
   refine AtC.seqR ?_
   refine AtL.pures hT 6 _ _ _ _ rfl ?_
   replace H := H _ rfl
   refine AtL.nil ?_
   refine AtE.then_n (AtE.go ?_)
   refine AtC.ret ?_
   exact AtE.retN (rs := [.tmp 2, .tmp 3]) rfl (ResAll.cons (ResAt.tmp rfl) (ResAll.cons (ResAt.tmp rfl) ResAll.nil)) rfl H

theorem lift_nat_Of (n : Int) (w : World) (m : Heap) (hr : Rel ⟨m, []⟩ w.heap) (S : Sl → Heap → Prop) (H : nat_Of n m S) :
    Calls Tryd.prog 97 #[Value.int .u64 n] w (Post ⟨w, m⟩ Sl.toV S) := by
  refine Calls.lift (args := [Value.int .u64 n]) Tryd.func97 rfl Tryd.ntmps97 (Nat.le_of_ble_eq_true rfl) hr (nat_Of n m S) H (fun H => ?_)
  refine AtC.pick (ts := [0]) rfl ?_
  unfold nat_Of at H
  refine AtC.seqR ?_
  refine AtL.pures hT 1 _ _ _ _ rfl ?_
  refine AtL.nil ?_
  refine AtE.then_n (AtE.go ?_)
  refine AtC.seqR ?_
  refine AtL.pures hT 5 _ _ _ _ rfl ?_
  refine AtLX.bs (hT := hT) (cs := [_, _]) H rfl rfl rfl rfl rfl rfl rfl rfl rfl (fun a h0 H => ?_)
  refine AtL.e rfl (EffX.call (f := 86) (sh := fun h => nat_trim _ h _) (H0 := H) rfl Tryd.call86 rfl (hl := fun w m hr hw => lift_nat_trim _ w m hr _ hw)) ?_
  rintro _ _ ⟨v_1, h0u1, rfl, rfl, H⟩
  refine AtL.pures hT 1 _ _ _ _ rfl ?_
  refine AtL.nil ?_
  refine AtE.then_n (AtE.go ?_)
  refine AtC.ret ?_
  exact AtE.retN (rs := [.tmp 2]) rfl (ResAll.cons (ResAt.tmp rfl) ResAll.nil) rfl H

theorem lift_math_bits_TrailingZeros32 (x0 : Int) (w : World) (m : Heap) (hr : Rel ⟨m, []⟩ w.heap) (S : Int → Heap → Prop) (H : math_bits_TrailingZeros32 x0 m S) :
    Calls Tryd.prog 106 #[Value.int .u32 x0] w (Post ⟨w, m⟩ (Value.int .i64) S) := by
  refine Calls.lift (args := [Value.int .u32 x0]) Tryd.func106 rfl Tryd.ntmps106 (Nat.le_of_ble_eq_true rfl) hr (math_bits_TrailingZeros32 x0 m S) H (fun H => ?_)
  refine AtC.pick (ts := [0]) rfl ?_
  unfold math_bits_TrailingZeros32 at H
  refine AtC.seqR ?_
  refine AtL.pures hT 1 _ _ _ _ rfl ?_
  refine AtL.nil ?_
  refine AtE.then_n (AtE.go ?_)
  refine AtC.seq ?_
  refine AtC.seqR ?_
  refine AtL.pures hT 2 _ _ _ _ rfl ?_
  refine AtL.nil ?_
  refine AtE.then_n (AtE.go ?_)
  refine AtC.condB H rfl (fun H => ?_) (fun H => ?_)
  ·
   refine AtC.seqR ?_
   refine AtL.pures hT 1 _ _ _ _ rfl ?_
   refine AtL.nil ?_
   refine AtE.then_n (AtE.go ?_)
   refine AtC.ret ?_
   refine AtE.then_r ?_
   exact AtE.retN (rs := [.tmp 2]) rfl (ResAll.cons (ResAt.tmp rfl) ResAll.nil) rfl H
  ·
   refine AtC.skip ?_
   refine AtE.then_n (AtE.go ?_)
   refine AtC.seqR ?_
   refine AtL.pures hT 6 _ _ _ _ rfl ?_
   obtain ⟨hd0, H⟩ := H
   refine AtL.q rfl (Quiet1.idxA hT rfl rfl rfl rfl rfl hd0) ?_
   obtain ⟨v, hc1, H⟩ := H
   refine AtL.q rfl (Quiet1.load hT rfl rfl rfl hc1) ?_
   refine AtL.pures hT 2 _ _ _ _ rfl ?_
   refine AtL.nil ?_
   refine AtE.then_n (AtE.go ?_)
   refine AtC.ret ?_
   exact AtE.retN (rs := [.tmp 2]) rfl (ResAll.cons (ResAt.tmp rfl) ResAll.nil) rfl H

theorem lift_slices_Clone_api_Nat_uint32 (s0 : Sl) (w : World) (m : Heap) (hr : Rel ⟨m, []⟩ w.heap) (S : Sl → Heap → Prop) (H : slices_Clone_api_Nat_uint32 s0 m S) :
    Calls Tryd.prog 95 #[Sl.toV s0] w (Post ⟨w, m⟩ Sl.toV S) := by
  refine Calls.lift (args := [Sl.toV s0]) Tryd.func95 rfl Tryd.ntmps95 (Nat.le_of_ble_eq_true rfl) hr (slices_Clone_api_Nat_uint32 s0 m S) H (fun H => ?_)
  refine AtC.pick (ts := [0]) rfl ?_
  unfold slices_Clone_api_Nat_uint32 at H
  refine AtC.seqR ?_
  refine AtL.pures hT 1 _ _ _ _ rfl ?_
  refine AtL.nil ?_
  refine AtE.then_n (AtE.go ?_)
  refine AtC.seq ?_
  refine AtC.seqR ?_
  refine AtL.pures hT 1 _ _ _ _ rfl ?_
  refine AtL.q rfl (Quiet1.eqNilS hT rfl rfl rfl rfl) ?_
  refine AtL.nil ?_
  refine AtE.then_n (AtE.go ?_)
  refine AtC.condB H rfl (fun H => ?_) (fun H => ?_)
  ·
   refine AtC.seqR ?_
   refine AtL.pures hT 1 _ _ _ _ rfl ?_
   refine AtL.nil ?_
   refine AtE.then_n (AtE.go ?_)
   refine AtC.ret ?_
   refine AtE.then_r ?_
   exact AtE.retN (rs := [.tmp 2]) rfl (ResAll.cons (ResAt.tmp rfl) ResAll.nil) rfl H
  ·
   refine AtC.skip ?_
   refine AtE.then_n (AtE.go ?_)
   refine AtC.seqR ?_
   refine AtLX.bs (hT := hT) (cs := []) H rfl rfl rfl rfl rfl rfl rfl rfl rfl (fun a h0 H => ?_)
   refine AtL.pures hT 1 _ _ _ _ rfl ?_
   refine AtL.e rfl (EffX.appendS (s := _) (u := _) hT rfl rfl rfl rfl rfl rfl rfl rfl rfl rfl (by decide) H) ?_
   rintro _ _ ⟨v_1, h0u1, rfl, rfl, H⟩
   refine AtL.pures hT 1 _ _ _ _ rfl ?_
   refine AtL.nil ?_
   refine AtE.then_n (AtE.go ?_)
   refine AtC.ret ?_
   exact AtE.retN (rs := [.tmp 2]) rfl (ResAll.cons (ResAt.tmp rfl) ResAll.nil) rfl H
end Go.Proofs.YtafkahjfbiamlaaDoor

/-
  The deep code does what the functions of the shallow text say: printed by lift.py.
-/
import Derived.Test.YtenofghlgiimeaaGreatDoorLfB
set_option linter.unusedVariables false
set_option linter.unusedSimpArgs false
namespace Go.Proofs.YtenofghlgiimeaaGreatDoor
open Go Go.Lift Go.Sh
set_option maxRecDepth 100000
set_option maxHeartbeats 40000000
attribute [local irreducible] Calls AtL AtC AtE AtD Eff Quiet1 Stg qAt QAll eAt EAll nextK Code.wp


theorem lift_simplex_Step (b : (Option Addr)) (t0 : (Option Addr)) (w : World) (m : Heap) (hr : Rel ⟨m, []⟩ w.heap) (S : (Int × Sl × Int) → Heap → Prop) (H : simplex_Step b t0 m S) :
    Calls Tryz.prog 105 #[Value.pointer b, Value.pointer t0] w (Post ⟨w, m⟩ (fun r => Value.tuple #[(Value.int .i64) r.1, Sl.toV r.2.1, (Value.int .i64) r.2.2]) S) := by
  refine Calls.lift (args := [Value.pointer b, Value.pointer t0]) Tryz.func105 rfl Tryz.ntmps105 (Nat.le_of_ble_eq_true rfl) hr (simplex_Step b t0 m S) H (fun H => ?_)
  refine AtC.pick (ts := [0, 1]) rfl ?_
  unfold simplex_Step at H
  refine AtC.seqR ?_
  refine AtL.e rfl (EffX.box (cs := [_]) rfl rfl rfl H) ?_
  rintro _ _ ⟨t0u1, h0, rfl, rfl, H⟩
  refine AtL.pures hT 3 _ _ _ _ rfl ?_
  refine AtL.nil ?_
  refine AtE.then_n (AtE.go ?_)
  refine AtC.seqR ?_
  obtain ⟨v, hc0, H⟩ := H
  refine AtL.q rfl (Quiet1.load hT rfl rfl rfl hc0) ?_
  refine AtL.e rfl (EffX.call (f := 136) (sh := fun h => simplex_worst _ h _) (H0 := H) rfl Tryz.call136 rfl (hl := fun w m hr hw => lift_simplex_worst _ w m hr _ hw)) ?_
  rintro _ _ ⟨v_1, h0u1, rfl, rfl, H⟩
  refine AtL.pures hT 3 _ _ _ _ rfl ?_
  refine AtL.e rfl (EffX.alloc hT rfl rfl H) ?_
  rintro _ _ ⟨upper, h0u2, rfl, rfl, H⟩
  refine AtL.pures hT 1 _ _ _ _ rfl ?_
  refine AtL.e rfl (EffX.store hT rfl rfl rfl rfl rfl H) ?_
  rintro _ _ ⟨h0u3, rfl, H⟩
  refine AtL.nil ?_
  refine AtE.then_n (AtE.go ?_)
  refine AtC.seq ?_
  refine AtC.seqR ?_
  refine AtL.pures hT 2 _ _ _ _ rfl ?_
  refine AtL.nil ?_
  refine AtE.then_n (AtE.go ?_)
  refine AtC.condB H rfl (fun H => ?_) (fun H => ?_)
  ·
   refine AtC.seqR ?_
   refine AtL.pures hT 3 _ _ _ _ rfl ?_
   refine AtL.nil ?_
   refine AtE.then_n (AtE.go ?_)
   refine AtC.ret ?_
   refine AtE.then_r ?_
   exact AtE.retN (rs := [.tmp 4, .tmp 5, .tmp 6]) rfl (ResAll.cons (ResAt.tmp rfl) (ResAll.cons (ResAt.tmp rfl) (ResAll.cons (ResAt.tmp rfl) ResAll.nil))) rfl H
  ·
   refine AtC.skip ?_
   refine AtE.then_n (AtE.go ?_)
   refine AtC.seqR ?_
   obtain ⟨v_2, hc1, H⟩ := H
   refine AtL.q rfl (Quiet1.load hT rfl rfl rfl hc1) ?_
   obtain ⟨a, hc2, H⟩ := H
   refine AtL.q rfl (Quiet1.nilChk rfl rfl hc2) ?_
   refine AtL.pures hT 1 _ _ _ _ rfl ?_
   obtain ⟨v_3, hc3, H⟩ := H
   refine AtL.q rfl (Quiet1.load hT rfl rfl rfl hc3) ?_
   refine AtL.pures hT 1 _ _ _ _ rfl ?_
   obtain ⟨a_1_, hc4, hd4, H⟩ := H
   refine AtL.q rfl (Quiet1.idxS (s := _) hT rfl rfl rfl rfl rfl hc4 hd4) ?_
   refine AtL.pures hT 1 _ _ _ _ rfl ?_
   obtain ⟨v_4, hc5, H⟩ := H
   refine AtL.q rfl (Quiet1.load hT rfl rfl rfl hc5) ?_
   refine AtL.pures hT 1 _ _ _ _ rfl ?_
   refine AtL.nil ?_
   refine AtE.then_n (AtE.go ?_)
   refine AtC.seqR ?_
   refine AtL.pures hT 1 _ _ _ _ rfl ?_
   refine AtL.q rfl (Quiet1.makeFn (bs := []) (cs := [_, _]) rfl rfl rfl) ?_
   refine AtL.e rfl (EffX.call (f := 137) (sh := fun h => slices_IndexFunc_api_Mono_api_Mono__simplex_Step_c1 _ _ _ h _) (H0 := H) rfl Tryz.call137 rfl (hl := fun w m hr hw => lift_slices_IndexFunc_api_Mono_api_Mono__simplex_Step_c1 _ _ _ w m hr _ hw)) ?_
   rintro _ _ ⟨v_5, h0u4, rfl, rfl, H⟩
   refine AtL.pures hT 1 _ _ _ _ rfl ?_
   refine AtL.nil ?_
   refine AtE.then_n (AtE.go ?_)
   refine AtC.seq ?_
   refine AtC.seqR ?_
   refine AtL.pures hT 2 _ _ _ _ rfl ?_
   refine AtL.nil ?_
   refine AtE.then_n (AtE.go ?_)
   refine AtC.condB H rfl (fun H => ?_) (fun H => ?_)
   ·
    refine AtC.seqR ?_
    obtain ⟨v_6, hc6, H⟩ := H
    refine AtL.q rfl (Quiet1.load hT rfl rfl rfl hc6) ?_
    refine AtL.pures hT 1 _ _ _ _ rfl ?_
    obtain ⟨v_7, hc7, H⟩ := H
    refine AtL.q rfl (Quiet1.load hT rfl rfl rfl hc7) ?_
    exact H.elim
   ·
    refine AtC.skip ?_
    refine AtE.then_n (AtE.go ?_)
    obtain ⟨a_2_, hc8, hd8, H⟩ := H
    obtain ⟨v_8, hc9, H⟩ := H
    obtain ⟨v_9, hc10, H⟩ := H
    obtain ⟨a_3, hc11, H⟩ := H
    obtain ⟨v_10, hc12, H⟩ := H
    obtain ⟨a_4_, hc13, hd13, H⟩ := H
    obtain ⟨v_11, hc14, H⟩ := H
    apply AtC.seqS [11, 12] [[], [], [], [], [], [], [], [], [], [], [], [], [11], [11, 12]] [[], [], [0, 1], [0, 1, 2], [], [4], [4, 5], [4, 5, 6], [], [4, 5, 6, 7, 8], [4, 5, 6, 7, 8, 9], [], [0, 1, 2, 3, 11], [0, 1, 2, 3, 4, 5, 6, 7, 8, 9, 10, 11, 12]] hmix (by kernel_rfl) [(39, _), (40, _), (41, _), (42, _), (43, _), (44, _), (45, _), (46, _), (47, _), (48, _), (49, _)] rfl 2 rfl
    refine Stg.go [0, 1, 2, 3, 4, 5, 6, 7, 8, 9, 10] [11] rfl rfl (QAll.cons (QOp.p hT rfl rfl rfl rfl rfl) (QAll.cons (QOp.p hT rfl rfl rfl rfl rfl) (QAll.cons (QOp.q rfl rfl (Quiet1.idxS (s := _) hT rfl rfl rfl rfl rfl hc8 hd8) rfl rfl) (QAll.cons (QOp.q rfl rfl (Quiet1.loadS hT rfl rfl rfl rfl hc9) rfl rfl) (QAll.cons (QOp.q rfl rfl (Quiet1.load hT rfl rfl rfl hc10) rfl rfl) (QAll.cons (QOp.q rfl rfl (Quiet1.nilChk rfl rfl hc11) rfl rfl) (QAll.cons (QOp.p hT rfl rfl rfl rfl rfl) (QAll.cons (QOp.q rfl rfl (Quiet1.load hT rfl rfl rfl hc12) rfl rfl) (QAll.cons (QOp.p hT rfl rfl rfl rfl rfl) (QAll.cons (QOp.q rfl rfl (Quiet1.idxS (s := _) hT rfl rfl rfl rfl rfl hc13 hd13) rfl rfl) (QAll.cons (QOp.q rfl rfl (Quiet1.load hT rfl rfl rfl hc14) rfl rfl) QAll.nil))))))))))) ?_
    refine EAll.cons ?_ EAll.nil
    refine EOp.e rfl rfl rfl (EffX.allocP (cs := [_, _, _, _]) hT rfl rfl H) ?_
    rintro _ _ ⟨b_1, _, rfl, rfl, he15, H⟩
    replace hc9 := he15.cells hc9
    replace hc10 := he15.cell hc10
    replace hc12 := he15.cell hc12
    replace hc14 := he15.cell hc14
    apply Stg.next [(11, _)] rfl rfl
    refine Stg.go [0, 1, 2, 3, 4, 5, 6, 7, 8, 9, 10] [12] rfl rfl (QAll.cons (QOp.p hT rfl rfl rfl rfl rfl) (QAll.cons (QOp.p hT rfl rfl rfl rfl rfl) (QAll.cons (QOp.q rfl rfl (Quiet1.idxS (s := _) hT rfl rfl rfl rfl rfl hc8 hd8) rfl rfl) (QAll.cons (QOp.q rfl rfl (Quiet1.loadS hT rfl rfl rfl rfl hc9) rfl rfl) (QAll.cons (QOp.q rfl rfl (Quiet1.load hT rfl rfl rfl hc10) rfl rfl) (QAll.cons (QOp.q rfl rfl (Quiet1.nilChk rfl rfl hc11) rfl rfl) (QAll.cons (QOp.p hT rfl rfl rfl rfl rfl) (QAll.cons (QOp.q rfl rfl (Quiet1.load hT rfl rfl rfl hc12) rfl rfl) (QAll.cons (QOp.p hT rfl rfl rfl rfl rfl) (QAll.cons (QOp.q rfl rfl (Quiet1.idxS (s := _) hT rfl rfl rfl rfl rfl hc13 hd13) rfl rfl) (QAll.cons (QOp.q rfl rfl (Quiet1.load hT rfl rfl rfl hc14) rfl rfl) QAll.nil))))))))))) ?_
    refine EAll.cons ?_ EAll.nil
    refine EOp.e rfl rfl rfl (EffX.storeSP (i := 0) (qv := [(_, [_, _, _, _])]) hT rfl rfl rfl rfl rfl rfl rfl rfl rfl rfl) ?_
    rintro _ _ rfl
    apply Stg.next [(12, _)] rfl rfl
    refine Stg.fin [4, 5, 6, 7, 8, 9, 10, 13] rfl rfl (QAll.cons (QOp.q rfl rfl (Quiet1.load hT rfl rfl rfl hc10) rfl rfl) (QAll.cons (QOp.q rfl rfl (Quiet1.nilChk rfl rfl hc11) rfl rfl) (QAll.cons (QOp.p hT rfl rfl rfl rfl rfl) (QAll.cons (QOp.q rfl rfl (Quiet1.load hT rfl rfl rfl hc12) rfl rfl) (QAll.cons (QOp.p hT rfl rfl rfl rfl rfl) (QAll.cons (QOp.q rfl rfl (Quiet1.idxS (s := _) hT rfl rfl rfl rfl rfl hc13 hd13) rfl rfl) (QAll.cons (QOp.q rfl rfl (Quiet1.load hT rfl rfl rfl hc14) rfl rfl) (QAll.cons (QOp.p hT rfl rfl rfl rfl rfl) QAll.nil)))))))) ?_
    replace H := H.self
    refine AtE.then_n (AtE.go ?_)
    refine AtC.joinSeq (β := Nat) (fun (t0u2 : Bool × Sl × Sl × Bool × Sl × Sl) (bb : Nat) => [(13, Value.pointer (some ⟨bb, 0, none⟩))]) (fun (t0u2 : Bool × Sl × Sl × Bool × Sl × Sl) (bb : Nat) => [(bb, [Value.bool t0u2.1, Sl.toV t0u2.2.1, Sl.toV t0u2.2.2.1, Value.bool t0u2.2.2.2.1, Sl.toV t0u2.2.2.2.2.1, Sl.toV t0u2.2.2.2.2.2])]) [0, 3, 7, 11] [0] H (by exact rfl) (by exact rfl) (fun t0u2 bb h0u6 H => ?_) (fun J17 H HK17 => ?_)
    ·
     refine AtC.joinSeq (β := Nat) (fun (t0u3 : Bool × Sl × Sl × Bool × Sl × Sl) (bb_1 : Nat) => [(14, Value.pointer (some ⟨bb_1, 0, none⟩))]) (fun (t0u3 : Bool × Sl × Sl × Bool × Sl × Sl) (bb_1 : Nat) => [(bb_1, [Value.bool t0u3.1, Sl.toV t0u3.2.1, Sl.toV t0u3.2.2.1, Value.bool t0u3.2.2.2.1, Sl.toV t0u3.2.2.2.2.1, Sl.toV t0u3.2.2.2.2.2])]) [0, 3, 7, 11] [1] H (by exact rfl) (by exact rfl) (fun t0u3 bb_1 h0u8 H => ?_) (fun J25 H HK25 => ?_)
     ·
      exact H.elim
     ·
      exact H.elim
    ·
     exact H.elim

theorem lift_simplex_Check (b : (Option Addr)) (t0 : (Option Addr)) (w : World) (m : Heap) (hr : Rel ⟨m, []⟩ w.heap) (S : (Sl × Int) → Heap → Prop) (H : simplex_Check b t0 m S) :
    Calls Tryz.prog 71 #[Value.pointer b, Value.pointer t0] w (Post ⟨w, m⟩ (fun r => Value.tuple #[Sl.toV r.1, (Value.int .i64) r.2]) S) := by
  refine Calls.lift (args := [Value.pointer b, Value.pointer t0]) Tryz.func71 rfl Tryz.ntmps71 (Nat.le_of_ble_eq_true rfl) hr (simplex_Check b t0 m S) H (fun H => ?_)
  refine AtC.pick (ts := [0, 1]) rfl ?_
  unfold simplex_Check at H
  refine AtC.seqR ?_
  refine AtL.pures hT 2 _ _ _ _ rfl ?_
  refine AtL.nil ?_
  refine AtE.then_n (AtE.go ?_)
  refine AtC.block ?_
  refine AtC.loopM (fun (s0 : Unit) => []) (fun (s0 : Unit) => []) [0, 1] [0, 1] [] [] H (by exact rfl) (by exact rfl) (by exact rfl) (by decide) (by exact rfl) (fun Kp1 s0 h0 H Q1 HK1 => ?_)
  refine AtC.block ?_
  refine AtC.seqR ?_
  refine AtL.pures hT 2 _ _ _ _ rfl ?_
  refine AtL.e rfl (EffX.call (f := 105) (sh := fun h => simplex_Step _ _ h _) (H0 := H) rfl Tryz.call105 rfl (hl := fun w m hr hw => lift_simplex_Step _ _ w m hr _ hw)) ?_
  rintro _ _ ⟨v, h0u1, rfl, rfl, H⟩
  refine AtL.pures hT 7 _ _ _ _ rfl ?_
  refine AtL.nil ?_
  refine AtE.then_n (AtE.go ?_)
  refine AtC.seqR ?_
  refine AtL.pures hT 2 _ _ _ _ rfl ?_
  refine AtL.nil ?_
  refine AtE.then_n (AtE.go ?_)
  refine AtC.condB H rfl (fun H => ?_) (fun H => ?_)
  ·
   refine AtC.seqR ?_
   refine AtL.pures hT 4 _ _ _ _ rfl ?_
   refine AtL.nil ?_
   refine AtE.then_n (AtE.go ?_)
   refine AtC.ret ?_
   refine AtE.blk_r ?_
   refine AtE.then_r ?_
   refine AtE.blk_r ?_
   exact AtE.retN (rs := [.tmp 4, .tmp 5]) rfl (ResAll.cons (ResAt.tmp rfl) (ResAll.cons (ResAt.tmp rfl) ResAll.nil)) rfl H
  ·
   refine AtC.skip ?_
   refine AtE.blk_n ?_
   exact AtE.then_n ((HK1 _ _ H).pickP (ts := [0, 1]) (is := []) rfl rfl (by decide) rfl)

theorem lift_engine_against (list : Sl) (w : World) (m : Heap) (hr : Rel ⟨m, []⟩ w.heap) (S : Sl → Heap → Prop) (H : engine_against list m S) :
    Calls Tryz.prog 72 #[Sl.toV list] w (Post ⟨w, m⟩ Sl.toV S) := by
  refine Calls.lift (args := [Sl.toV list]) Tryz.func72 rfl Tryz.ntmps72 (Nat.le_of_ble_eq_true rfl) hr (engine_against list m S) H (fun H => ?_)
  refine AtC.pick (ts := [0]) rfl ?_
  unfold engine_against at H
  refine AtC.seqR ?_
  refine AtL.pures hT 1 _ _ _ _ rfl ?_
  refine AtL.nil ?_
  refine AtE.then_n (AtE.go ?_)
  refine AtC.seq ?_
  refine AtC.seqR ?_
  refine AtL.pures hT 3 _ _ _ _ rfl ?_
  refine AtL.nil ?_
  refine AtE.then_n (AtE.go ?_)
  refine AtC.block ?_
  refine AtC.loopM (fun (s0 : Sl × Int) => [(2, Sl.toV s0.1), (7, Value.int .i64 s0.2)]) (fun (s0 : Sl × Int) => []) [5, 6] [2, 7, 5, 6] [] [] H (by exact rfl) (by exact rfl) (by exact rfl) (by decide) (by exact rfl) (fun Kp1 s0 h0 H Q1 HK1 => ?_)
  refine AtC.seqR ?_
  refine AtL.pures hT 1 _ _ _ _ rfl ?_
  refine AtL.nil ?_
  refine AtE.then_n (AtE.go ?_)
  refine AtC.seq ?_
  refine AtC.condB H rfl (fun H => ?_) (fun H => ?_)
  ·
   refine AtC.skip ?_
   refine AtE.then_n (AtE.go ?_)
   refine AtC.seq ?_
   refine AtC.block ?_
   refine AtC.seqR ?_
   obtain ⟨a_, hc1, hd1, H⟩ := H
   refine AtL.q rfl (Quiet1.idxS (s := _) hT rfl rfl rfl rfl rfl hc1 hd1) ?_
   obtain ⟨v, hc2, H⟩ := H
   refine AtL.q rfl (Quiet1.loadS hT rfl rfl rfl rfl hc2) ?_
   refine AtL.e rfl (EffX.allocP (cs := [_, _, _, _]) hT rfl rfl H) ?_
   rintro _ _ ⟨b, _, rfl, rfl, _, H⟩
   replace H := H.self
   refine AtL.e rfl (EffX.storeSP (i := 0) (qv := [(_, [_, _, _, _])]) hT rfl rfl rfl rfl rfl rfl rfl rfl rfl rfl) ?_
   rintro _ _ rfl
   refine AtL.nil ?_
   refine AtE.then_n (AtE.go ?_)
   refine AtC.region ?_
   refine AtL.pures hT 2 _ _ _ _ rfl ?_
   refine AtL.q rfl (Quiet1.loadP (i := 0) hT rfl rfl rfl rfl rfl rfl) ?_
   refine AtL.pures hT 1 _ _ _ _ rfl ?_
   refine AtLX.bs (hT := hT) (cs := [_]) H rfl rfl rfl rfl rfl rfl rfl rfl rfl (fun a_1 h0u2 H => ?_)
   refine AtL.e rfl (EffX.appendS (s := _) (u := _) hT rfl rfl rfl rfl rfl rfl rfl rfl rfl rfl (by decide) H) ?_
   rintro _ _ ⟨v_2, h0u3, rfl, rfl, H⟩
   refine AtL.pures hT 1 _ _ _ _ rfl ?_
   refine AtL.nil ?_
   refine AtE.blk_n ?_
   refine AtE.then_n (AtE.go ?_)
   refine AtC.region ?_
   refine AtL.pures hT 2 _ _ _ _ rfl ?_
   refine AtL.nil ?_
   exact AtE.then_n ((HK1 _ _ H).pickP (ts := [2, 7, 5, 6]) (is := []) rfl rfl (by decide) rfl)
  ·
   refine AtC.exit ?_
   refine AtE.then_x ?_
   refine AtE.then_x ?_
   refine AtE.blk_hit ?_
   refine AtE.then_n (AtE.go ?_)
   refine AtC.seqR ?_
   refine AtL.pures hT 2 _ _ _ _ rfl ?_
   refine AtL.nil ?_
   refine AtE.then_n (AtE.go ?_)
   refine AtC.ret ?_
   exact AtE.retN (rs := [.tmp 2]) rfl (ResAll.cons (ResAt.tmp rfl) ResAll.nil) rfl H

theorem lift_engine_numbers (b : (Option Addr)) (s0 : (Option Addr)) (w : World) (m : Heap) (hr : Rel ⟨m, []⟩ w.heap) (S : Sl → Heap → Prop) (H : engine_numbers b s0 m S) :
    Calls Tryz.prog 43 #[Value.pointer b, Value.pointer s0] w (Post ⟨w, m⟩ Sl.toV S) := by
  refine Calls.lift (args := [Value.pointer b, Value.pointer s0]) Tryz.func43 rfl Tryz.ntmps43 (Nat.le_of_ble_eq_true rfl) hr (engine_numbers b s0 m S) H (fun H => ?_)
  refine AtC.pick (ts := [0, 1]) rfl ?_
  unfold engine_numbers at H
  refine AtC.seqR ?_
  refine AtL.pures hT 1 _ _ _ _ rfl ?_
  refine AtL.nil ?_
  refine AtE.then_n (AtE.go ?_)
  refine AtC.seqR ?_
  refine AtL.pures hT 1 _ _ _ _ rfl ?_
  obtain ⟨a, hc0, H⟩ := H
  refine AtL.q rfl (Quiet1.nilChk rfl rfl hc0) ?_
  refine AtL.pures hT 1 _ _ _ _ rfl ?_
  obtain ⟨v, hc1, H⟩ := H
  refine AtL.q rfl (Quiet1.loadS hT rfl rfl rfl rfl hc1) ?_
  refine AtL.e rfl (EffX.call (f := 68) (sh := fun h => engine_atoms _ h _) (H0 := H) rfl Tryz.call68 rfl (hl := fun w m hr hw => lift_engine_atoms _ w m hr _ hw)) ?_
  rintro _ _ ⟨v_1, h0, rfl, rfl, H⟩
  refine AtL.pures hT 1 _ _ _ _ rfl ?_
  refine AtL.nil ?_
  refine AtE.then_n (AtE.go ?_)
  refine AtC.seq ?_
  refine AtC.block ?_
  refine AtC.loopM (fun (s0u1 : Unit) => []) (fun (s0u1 : Unit) => []) [0, 1, 5] [0, 1, 5] [] [] H (by exact rfl) (by exact rfl) (by exact rfl) (by decide) (by exact rfl) (fun Kp3 s0u1 h0u1 H Q3 HK3 => ?_)
  refine AtC.seq ?_
  refine AtC.seqD hmix (by kernel_rfl) ?_
  refine AtD.pures hT 1 _ _ _ _ rfl ?_
  obtain ⟨a_1, hc3, H⟩ := H
  refine AtD.q rfl (Quiet1.nilChk rfl rfl hc3) ?_
  refine AtD.pures hT 1 _ _ _ _ rfl ?_
  obtain ⟨v_2, hc4, H⟩ := H
  refine AtD.q rfl (Quiet1.load hT rfl rfl rfl hc4) ?_
  refine AtD.pures hT 1 _ _ _ _ rfl ?_
  obtain ⟨a_2, hc5, H⟩ := H
  refine AtD.q rfl (Quiet1.nilChk rfl rfl hc5) ?_
  refine AtD.pures hT 2 _ _ _ _ rfl ?_
  obtain ⟨v_3, hc6, H⟩ := H
  refine AtD.q rfl (Quiet1.load hT rfl rfl rfl hc6) ?_
  refine AtD.pures hT 2 _ _ _ _ rfl ?_
  refine AtD.nil ?_
  refine AtE.then_n (AtE.go ?_)
  refine AtC.condB H rfl (fun H => ?_) (fun H => ?_)
  ·
   refine AtC.skip ?_
   refine AtE.then_n (AtE.go ?_)
   refine AtC.block ?_
   refine AtC.joinSeq (β := Unit) (fun (t0 : Unit) (bb : Unit) => []) (fun (t0 : Unit) (bb : Unit) => []) [0, 1, 5] [] H (by exact rfl) (by exact rfl) (fun t0 bb h0u2 H => ?_) (fun J8 H HK8 => ?_)
   ·
    refine AtC.region ?_
    refine AtL.pures hT 1 _ _ _ _ rfl ?_
    obtain ⟨a_6, hc15, H⟩ := H
    refine AtL.q rfl (Quiet1.nilChk rfl rfl hc15) ?_
    refine AtL.pures hT 1 _ _ _ _ rfl ?_
    obtain ⟨v_7, hc16, H⟩ := H
    refine AtL.q rfl (Quiet1.load hT rfl rfl rfl hc16) ?_
    refine AtL.pures hT 1 _ _ _ _ rfl ?_
    obtain ⟨a_7, hc17, H⟩ := H
    refine AtL.q rfl (Quiet1.nilChk rfl rfl hc17) ?_
    refine AtL.pures hT 1 _ _ _ _ rfl ?_
    refine AtL.e rfl (EffX.store hT rfl rfl rfl rfl rfl H) ?_
    rintro _ _ ⟨h0u5, rfl, H⟩
    refine AtL.nil ?_
    refine AtE.blk_n ?_
    exact AtE.then_n ((HK3 _ _ H).pickP (ts := [0, 1, 5]) (is := []) rfl rfl (by decide) rfl)
   ·
    refine AtC.joinSeq (β := Nat) (fun (t0u1 : Bool × Int × Int × Int × Bool × Sl × Sl × Bool × Sl × Sl) (bb_1 : Nat) => [(7, Value.bool t0u1.1), (6, Value.pointer (some ⟨bb_1, 0, none⟩))]) (fun (t0u1 : Bool × Int × Int × Int × Bool × Sl × Sl × Bool × Sl × Sl) (bb_1 : Nat) => [(bb_1, [Value.int .i64 t0u1.2.1, Value.int .i64 t0u1.2.2.1, Value.int .i64 t0u1.2.2.2.1, Value.bool t0u1.2.2.2.2.1, Sl.toV t0u1.2.2.2.2.2.1, Sl.toV t0u1.2.2.2.2.2.2.1, Value.bool t0u1.2.2.2.2.2.2.2.1, Sl.toV t0u1.2.2.2.2.2.2.2.2.1, Sl.toV t0u1.2.2.2.2.2.2.2.2.2])]) [0, 1, 5] [] H (by exact rfl) (by exact rfl) (fun t0u1 bb_1 h0u3 H => ?_) (fun J9 H HK9 => ?_)
    ·
     refine AtC.seqR ?_
     refine AtL.pures hT 1 _ _ _ _ rfl ?_
     refine AtL.nil ?_
     refine AtE.then_n (AtE.go ?_)
     refine AtC.condB H rfl (fun H => ?_) (fun H => ?_)
     ·
      refine AtC.seqR ?_
      refine AtL.pures hT 2 _ _ _ _ rfl ?_
      refine AtL.q rfl (Quiet1.loadSP (i := 0) (l := [_, _, _, _, _, _, _, _, _]) hT rfl rfl rfl rfl rfl rfl rfl rfl) ?_
      exact H.elim
     ·
      refine AtC.skip ?_
      exact AtE.then_n ((HK8 _ () _ H).pickP (ts := [0, 1, 5]) (is := []) rfl rfl (by decide) rfl)
    ·
     exact H.elim
  ·
   refine AtC.exit ?_
   refine AtE.then_x ?_
   refine AtE.then_x ?_
   refine AtE.blk_hit ?_
   refine AtE.then_n (AtE.go ?_)
   refine AtC.seqR ?_
   refine AtL.pures hT 2 _ _ _ _ rfl ?_
   obtain ⟨a_8, hc18, H⟩ := H
   refine AtL.q rfl (Quiet1.nilChk rfl rfl hc18) ?_
   refine AtL.pures hT 1 _ _ _ _ rfl ?_
   refine AtL.e rfl (EffX.call (f := 71) (sh := fun h => simplex_Check _ _ h _) (H0 := H) rfl Tryz.call71 rfl (hl := fun w m hr hw => lift_simplex_Check _ _ w m hr _ hw)) ?_
   rintro _ _ ⟨v_8, h0u6, rfl, rfl, H⟩
   refine AtL.pures hT 5 _ _ _ _ rfl ?_
   refine AtL.nil ?_
   refine AtE.then_n (AtE.go ?_)
   refine AtC.seqR ?_
   refine AtL.pures hT 1 _ _ _ _ rfl ?_
   refine AtL.e rfl (EffX.call (f := 72) (sh := fun h => engine_against _ h _) (H0 := H) rfl Tryz.call72 rfl (hl := fun w m hr hw => lift_engine_against _ w m hr _ hw)) ?_
   rintro _ _ ⟨v_9, h0u7, rfl, rfl, H⟩
   refine AtL.pures hT 1 _ _ _ _ rfl ?_
   refine AtL.nil ?_
   refine AtE.then_n (AtE.go ?_)
   refine AtC.ret ?_
   exact AtE.retN (rs := [.tmp 4]) rfl (ResAll.cons (ResAt.tmp rfl) ResAll.nil) rfl H

theorem lift_engine_clashes (b : (Option Addr)) (s0 : (Option Addr)) (w : World) (m : Heap) (hr : Rel ⟨m, []⟩ w.heap) (S : Sl → Heap → Prop) (H : engine_clashes b s0 m S) :
    Calls Tryz.prog 18 #[Value.pointer b, Value.pointer s0] w (Post ⟨w, m⟩ Sl.toV S) := by
  refine Calls.lift (args := [Value.pointer b, Value.pointer s0]) Tryz.func18 rfl Tryz.ntmps18 (Nat.le_of_ble_eq_true rfl) hr (engine_clashes b s0 m S) H (fun H => ?_)
  refine AtC.pick (ts := [0, 1]) rfl ?_
  unfold engine_clashes at H
  refine AtC.seqR ?_
  refine AtL.pures hT 1 _ _ _ _ rfl ?_
  refine AtL.nil ?_
  refine AtE.then_n (AtE.go ?_)
  refine AtC.seq ?_
  refine AtC.seqR ?_
  refine AtL.pures hT 1 _ _ _ _ rfl ?_
  obtain ⟨a, hc0, H⟩ := H
  refine AtL.q rfl (Quiet1.nilChk rfl rfl hc0) ?_
  refine AtL.pures hT 1 _ _ _ _ rfl ?_
  refine AtL.e rfl (EffX.call (f := 42) (sh := fun h => clause_Run _ h _) (H0 := H) rfl Tryz.call42 rfl (hl := fun w m hr hw => lift_clause_Run _ w m hr _ hw)) ?_
  rintro _ _ ⟨v, h0, rfl, rfl, H⟩
  refine AtL.pures hT 1 _ _ _ _ rfl ?_
  refine AtL.nil ?_
  refine AtE.then_n (AtE.go ?_)
  refine AtC.seqR ?_
  refine AtL.pures hT 2 _ _ _ _ rfl ?_
  refine AtL.nil ?_
  refine AtE.then_n (AtE.go ?_)
  refine AtC.condB H rfl (fun H => ?_) (fun H => ?_)
  ·
   refine AtC.seqR ?_
   refine AtL.pures hT 1 _ _ _ _ rfl ?_
   obtain ⟨a_1, hc1, H⟩ := H
   refine AtL.q rfl (Quiet1.nilChk rfl rfl hc1) ?_
   refine AtL.pures hT 2 _ _ _ _ rfl ?_
   obtain ⟨v_1, hc2, H⟩ := H
   refine AtL.q rfl (Quiet1.load hT rfl rfl rfl hc2) ?_
   refine AtL.pures hT 1 _ _ _ _ rfl ?_
   obtain ⟨a_2_, hc3, hd3, H⟩ := H
   refine AtL.q rfl (Quiet1.idxS (s := _) hT rfl rfl rfl rfl rfl hc3 hd3) ?_
   refine AtL.pures hT 1 _ _ _ _ rfl ?_
   obtain ⟨v_2, hc4, H⟩ := H
   refine AtL.q rfl (Quiet1.load hT rfl rfl rfl hc4) ?_
   exact H.elim
  ·
   refine AtC.skip ?_
   refine AtE.then_n (AtE.go ?_)
   refine AtC.seqR ?_
   refine AtL.pures hT 2 _ _ _ _ rfl ?_
   refine AtL.e rfl (EffX.call (f := 43) (sh := fun h => engine_numbers _ _ h _) (H0 := H) rfl Tryz.call43 rfl (hl := fun w m hr hw => lift_engine_numbers _ _ w m hr _ hw)) ?_
   rintro _ _ ⟨v_3, h0u1, rfl, rfl, H⟩
   refine AtL.pures hT 1 _ _ _ _ rfl ?_
   refine AtL.nil ?_
   refine AtE.then_n (AtE.go ?_)
   refine AtC.ret ?_
   exact AtE.retN (rs := [.tmp 4]) rfl (ResAll.cons (ResAt.tmp rfl) ResAll.nil) rfl H

theorem lift_nat_Bench_Over (b : (Option Addr)) (w : World) (m : Heap) (hr : Rel ⟨m, []⟩ w.heap) (S : Bool → Heap → Prop) (H : nat_Bench_Over b m S) :
    Calls Tryz.prog 19 #[Value.pointer b] w (Post ⟨w, m⟩ Value.bool S) := by
  refine Calls.lift (args := [Value.pointer b]) Tryz.func19 rfl Tryz.ntmps19 (Nat.le_of_ble_eq_true rfl) hr (nat_Bench_Over b m S) H (fun H => ?_)
  refine AtC.pick (ts := [0]) rfl ?_
  unfold nat_Bench_Over at H
  refine AtC.seqR ?_
  refine AtL.pures hT 1 _ _ _ _ rfl ?_
  refine AtL.nil ?_
  refine AtE.then_n (AtE.go ?_)
  refine AtC.seqR ?_
  refine AtL.pures hT 1 _ _ _ _ rfl ?_
  obtain ⟨a, hc0, H⟩ := H
  refine AtL.q rfl (Quiet1.nilChk rfl rfl hc0) ?_
  refine AtL.pures hT 1 _ _ _ _ rfl ?_
  obtain ⟨v, hc1, H⟩ := H
  refine AtL.q rfl (Quiet1.load hT rfl rfl rfl hc1) ?_
  refine AtL.pures hT 1 _ _ _ _ rfl ?_
  refine AtL.nil ?_
  refine AtE.then_n (AtE.go ?_)
  refine AtC.ret ?_
  exact AtE.retN (rs := [.tmp 2]) rfl (ResAll.cons (ResAt.tmp rfl) ResAll.nil) rfl H

theorem lift_engine_Step (s0 : (Option Addr)) (w : World) (m : Heap) (hr : Rel ⟨m, []⟩ w.heap) (S : Unit → Heap → Prop) (H : engine_Step s0 m S) :
    Calls Tryz.prog 8 #[Value.pointer s0] w (Post ⟨w, m⟩ (fun _ => Value.tuple #[]) S) := by
  refine Calls.lift (args := [Value.pointer s0]) Tryz.func8 rfl Tryz.ntmps8 (Nat.le_of_ble_eq_true rfl) hr (engine_Step s0 m S) H (fun H => ?_)
  refine AtC.pick (ts := [0]) rfl ?_
  unfold engine_Step at H
  refine AtC.seq ?_
  refine AtC.seqR ?_
  refine AtL.pures hT 1 _ _ _ _ rfl ?_
  obtain ⟨a, hc0, H⟩ := H
  refine AtL.q rfl (Quiet1.nilChk rfl rfl hc0) ?_
  refine AtL.pures hT 1 _ _ _ _ rfl ?_
  obtain ⟨v, hc1, H⟩ := H
  refine AtL.q rfl (Quiet1.load hT rfl rfl rfl hc1) ?_
  refine AtL.pures hT 1 _ _ _ _ rfl ?_
  refine AtL.nil ?_
  refine AtE.then_n (AtE.go ?_)
  refine AtC.condB H rfl (fun H => ?_) (fun H => ?_)
  ·
   refine AtC.ret ?_
   refine AtE.then_r ?_
   exact AtE.ret0 rfl rfl H
  ·
   refine AtC.skip ?_
   refine AtE.then_n (AtE.go ?_)
   refine AtC.seqR ?_
   refine AtL.pures hT 1 _ _ _ _ rfl ?_
   obtain ⟨a_1, hc2, H⟩ := H
   refine AtL.q rfl (Quiet1.nilChk rfl rfl hc2) ?_
   refine AtL.pures hT 1 _ _ _ _ rfl ?_
   obtain ⟨v_1, hc3, H⟩ := H
   refine AtL.q rfl (Quiet1.load hT rfl rfl rfl hc3) ?_
   refine AtL.pures hT 1 _ _ _ _ rfl ?_
   obtain ⟨a_2, hc4, H⟩ := H
   refine AtL.q rfl (Quiet1.nilChk rfl rfl hc4) ?_
   refine AtL.pures hT 1 _ _ _ _ rfl ?_
   refine AtL.e rfl (EffX.store hT rfl rfl rfl rfl rfl H) ?_
   rintro _ _ ⟨h0, rfl, H⟩
   refine AtL.nil ?_
   refine AtE.then_n (AtE.go ?_)
   refine AtC.seqR ?_
   refine AtL.pures hT 1 _ _ _ _ rfl ?_
   obtain ⟨a_3, hc5, H⟩ := H
   refine AtL.q rfl (Quiet1.nilChk rfl rfl hc5) ?_
   refine AtL.pures hT 2 _ _ _ _ rfl ?_
   obtain ⟨v_2, hc6, H⟩ := H
   refine AtL.q rfl (Quiet1.load hT rfl rfl rfl hc6) ?_
   refine AtL.e rfl (EffX.call (f := 17) (sh := fun h => nat_New _ h _) (H0 := H) rfl Tryz.call17 rfl (hl := fun w m hr hw => lift_nat_New _ w m hr _ hw)) ?_
   rintro _ _ ⟨v_3, h0u1, rfl, rfl, H⟩
   refine AtL.pures hT 1 _ _ _ _ rfl ?_
   refine AtL.nil ?_
   refine AtE.then_n (AtE.go ?_)
   refine AtC.seqR ?_
   refine AtL.pures hT 2 _ _ _ _ rfl ?_
   refine AtL.e rfl (EffX.call (f := 18) (sh := fun h => engine_clashes _ _ h _) (H0 := H) rfl Tryz.call18 rfl (hl := fun w m hr hw => lift_engine_clashes _ _ w m hr _ hw)) ?_
   rintro _ _ ⟨v_4, h0u2, rfl, rfl, H⟩
   refine AtL.pures hT 1 _ _ _ _ rfl ?_
   refine AtL.nil ?_
   refine AtE.then_n (AtE.go ?_)
   refine AtC.block ?_
   refine AtC.seqR ?_
   refine AtL.pures hT 1 _ _ _ _ rfl ?_
   refine AtL.e rfl (EffX.call (f := 19) (sh := fun h => nat_Bench_Over _ h _) (H0 := H) rfl Tryz.call19 rfl (hl := fun w m hr hw => lift_nat_Bench_Over _ w m hr _ hw)) ?_
   rintro _ _ ⟨v_5, h0u3, rfl, rfl, H⟩
   refine AtL.pures hT 1 _ _ _ _ rfl ?_
   refine AtL.nil ?_
   refine AtE.then_n (AtE.go ?_)
   refine AtC.condB H rfl (fun H => ?_) (fun H => ?_)
   ·
    refine AtC.region ?_
    refine AtL.pures hT 1 _ _ _ _ rfl ?_
    obtain ⟨a_4, hc7, H⟩ := H
    refine AtL.q rfl (Quiet1.nilChk rfl rfl hc7) ?_
    refine AtL.pures hT 1 _ _ _ _ rfl ?_
    refine AtL.e rfl (EffX.store hT rfl rfl rfl rfl rfl H) ?_
    rintro _ _ ⟨h0u4, rfl, H⟩
    refine AtL.nil ?_
    refine AtE.blk_n ?_
    exact AtE.endN rfl rfl H
   ·
    refine AtC.seqR ?_
    refine AtL.pures hT 4 _ _ _ _ rfl ?_
    refine AtL.nil ?_
    refine AtE.then_n (AtE.go ?_)
    refine AtC.condB H rfl (fun H => ?_) (fun H => ?_)
    ·
     refine AtC.seqR ?_
     refine AtL.pures hT 1 _ _ _ _ rfl ?_
     obtain ⟨a_5, hc8, H⟩ := H
     refine AtL.q rfl (Quiet1.nilChk rfl rfl hc8) ?_
     refine AtL.pures hT 1 _ _ _ _ rfl ?_
     obtain ⟨v_6, hc9, H⟩ := H
     refine AtL.q rfl (Quiet1.load hT rfl rfl rfl hc9) ?_
     refine AtL.pures hT 1 _ _ _ _ rfl ?_
     obtain ⟨a_6, hc10, H⟩ := H
     refine AtL.q rfl (Quiet1.nilChk rfl rfl hc10) ?_
     refine AtL.pures hT 1 _ _ _ _ rfl ?_
     refine AtL.e rfl (EffX.store hT rfl rfl rfl rfl rfl H) ?_
     rintro _ _ ⟨h0u5, rfl, H⟩
     refine AtL.nil ?_
     refine AtE.then_n (AtE.go ?_)
     refine AtC.seqR ?_
     refine AtL.pures hT 1 _ _ _ _ rfl ?_
     obtain ⟨a_7, hc11, H⟩ := H
     refine AtL.q rfl (Quiet1.nilChk rfl rfl hc11) ?_
     refine AtL.pures hT 1 _ _ _ _ rfl ?_
     obtain ⟨v_7, hc12, H⟩ := H
     refine AtL.q rfl (Quiet1.load hT rfl rfl rfl hc12) ?_
     refine AtL.pures hT 1 _ _ _ _ rfl ?_
     obtain ⟨a_8, hc13, H⟩ := H
     refine AtL.q rfl (Quiet1.nilChk rfl rfl hc13) ?_
     refine AtL.pures hT 1 _ _ _ _ rfl ?_
     refine AtL.e rfl (EffX.store hT rfl rfl rfl rfl rfl H) ?_
     rintro _ _ ⟨h0u6, rfl, H⟩
     refine AtL.nil ?_
     refine AtE.then_n (AtE.go ?_)
     refine AtC.region ?_
     refine AtL.pures hT 2 _ _ _ _ rfl ?_
     exact H.elim
    ·
     refine AtC.seqD hmix (by kernel_rfl) ?_
     refine AtD.pures hT 1 _ _ _ _ rfl ?_
     obtain ⟨a_9, hc14, H⟩ := H
     refine AtD.q rfl (Quiet1.nilChk rfl rfl hc14) ?_
     refine AtD.pures hT 2 _ _ _ _ rfl ?_
     obtain ⟨v_8, hc15, H⟩ := H
     refine AtD.q rfl (Quiet1.load hT rfl rfl rfl hc15) ?_
     refine AtD.pures hT 2 _ _ _ _ rfl ?_
     obtain ⟨a_10, hc16, H⟩ := H
     refine AtD.q rfl (Quiet1.nilChk rfl rfl hc16) ?_
     refine AtD.pures hT 2 _ _ _ _ rfl ?_
     obtain ⟨v_9, hc17, H⟩ := H
     refine AtD.q rfl (Quiet1.load hT rfl rfl rfl hc17) ?_
     refine AtD.pures hT 3 _ _ _ _ rfl ?_
     refine AtD.nil ?_
     refine AtE.then_n (AtE.go ?_)
     refine AtC.condB H rfl (fun H => ?_) (fun H => ?_)
     ·
      refine AtC.region ?_
      refine AtL.pures hT 1 _ _ _ _ rfl ?_
      obtain ⟨a_11, hc18, H⟩ := H
      refine AtL.q rfl (Quiet1.nilChk rfl rfl hc18) ?_
      refine AtL.pures hT 1 _ _ _ _ rfl ?_
      refine AtL.e rfl (EffX.store hT rfl rfl rfl rfl rfl H) ?_
      rintro _ _ ⟨h0u7, rfl, H⟩
      refine AtL.nil ?_
      refine AtE.blk_n ?_
      exact AtE.endN rfl rfl H
     ·
      refine AtC.region ?_
      refine AtL.pures hT 1 _ _ _ _ rfl ?_
      exact H.elim

theorem lift_math_bits_Len64 (x0 : Int) (w : World) (m : Heap) (hr : Rel ⟨m, []⟩ w.heap) (S : Int → Heap → Prop) (H : math_bits_Len64 x0 m S) :
    Calls Tryz.prog 23 #[Value.int .u64 x0] w (Post ⟨w, m⟩ (Value.int .i64) S) := by
  refine Calls.lift (args := [Value.int .u64 x0]) Tryz.func23 rfl Tryz.ntmps23 (Nat.le_of_ble_eq_true rfl) hr (math_bits_Len64 x0 m S) H (fun H => ?_)
  refine AtC.pick (ts := [0]) rfl ?_
  unfold math_bits_Len64 at H
  refine AtC.seqR ?_
  refine AtL.pures hT 1 _ _ _ _ rfl ?_
  refine AtL.nil ?_
  refine AtE.then_n (AtE.go ?_)
  refine AtC.joinSeq (β := Unit) (fun (t0 : Int × Int) (bb : Unit) => [(0, Value.int .u64 t0.1), (2, Value.int .i64 t0.2)]) (fun (t0 : Int × Int) (bb : Unit) => []) [] [] H (by exact rfl) (by exact rfl) (fun t0 bb h0 H => ?_) (fun J1 H HK1 => ?_)
  ·
   refine AtC.joinSeq (β := Unit) (fun (t0u1 : Int × Int) (bb_1 : Unit) => [(0, Value.int .u64 t0u1.1), (2, Value.int .i64 t0u1.2)]) (fun (t0u1 : Int × Int) (bb_1 : Unit) => []) [] [] H (by exact rfl) (by exact rfl) (fun t0u1 bb_1 h0u1 H => ?_) (fun J2 H HK2 => ?_)
   ·
    refine AtC.joinSeq (β := Unit) (fun (t0u2 : Int × Int) (bb_2 : Unit) => [(0, Value.int .u64 t0u2.1), (2, Value.int .i64 t0u2.2)]) (fun (t0u2 : Int × Int) (bb_2 : Unit) => []) [] [] H (by exact rfl) (by exact rfl) (fun t0u2 bb_2 h0u2 H => ?_) (fun J3 H HK3 => ?_)
    ·
     refine AtC.seqR ?_
     refine AtL.pures hT 3 _ _ _ _ rfl ?_
     obtain ⟨hd3, v, hc3, H⟩ := H
     refine AtL.q rfl (Quiet1.idxStr hT rfl rfl rfl rfl hd3 hc3) ?_
     refine AtL.pures hT 3 _ _ _ _ rfl ?_
     replace H := H _ rfl
     refine AtL.nil ?_
     refine AtE.then_n (AtE.go ?_)
     refine AtC.ret ?_
     exact AtE.retN (rs := [.tmp 2]) rfl (ResAll.cons (ResAt.tmp rfl) ResAll.nil) rfl H
    ·
     refine AtC.seqR ?_
     refine AtL.pures hT 2 _ _ _ _ rfl ?_
     refine AtL.nil ?_
     refine AtE.then_n (AtE.go ?_)
     refine AtC.condB H rfl (fun H => ?_) (fun H => ?_)
     ·
      refine AtC.seqR ?_
      refine AtL.pures hT 3 _ _ _ _ rfl ?_
      replace H := H _ rfl
      refine AtL.nil ?_
      refine AtE.then_n (AtE.go ?_)
      refine AtC.region ?_
      refine AtL.pures hT 3 _ _ _ _ rfl ?_
      replace H := H _ rfl
      refine AtL.nil ?_
      exact AtE.then_n ((HK3 _ () _ H).pickP (ts := [0, 2]) (is := []) rfl rfl (by decide) rfl)
     ·
      refine AtC.skip ?_
      exact AtE.then_n ((HK3 _ () _ H).pickP (ts := [0, 2]) (is := []) rfl rfl (by decide) rfl)
   ·
    refine AtC.seqR ?_
    refine AtL.pures hT 2 _ _ _ _ rfl ?_
    refine AtL.nil ?_
    refine AtE.then_n (AtE.go ?_)
    refine AtC.condB H rfl (fun H => ?_) (fun H => ?_)
    ·
     refine AtC.seqR ?_
     refine AtL.pures hT 3 _ _ _ _ rfl ?_
     replace H := H _ rfl
     refine AtL.nil ?_
     refine AtE.then_n (AtE.go ?_)
     refine AtC.region ?_
     refine AtL.pures hT 3 _ _ _ _ rfl ?_
     replace H := H _ rfl
     refine AtL.nil ?_
     exact AtE.then_n ((HK2 _ () _ H).pickP (ts := [0, 2]) (is := []) rfl rfl (by decide) rfl)
    ·
     refine AtC.skip ?_
     exact AtE.then_n ((HK2 _ () _ H).pickP (ts := [0, 2]) (is := []) rfl rfl (by decide) rfl)
  ·
   refine AtC.seqR ?_
   refine AtL.pures hT 2 _ _ _ _ rfl ?_
   refine AtL.nil ?_
   refine AtE.then_n (AtE.go ?_)
   refine AtC.condB H rfl (fun H => ?_) (fun H => ?_)
   ·
    refine AtC.seqR ?_
    refine AtL.pures hT 3 _ _ _ _ rfl ?_
    replace H := H _ rfl
    refine AtL.nil ?_
    refine AtE.then_n (AtE.go ?_)
    refine AtC.region ?_
    refine AtL.pures hT 1 _ _ _ _ rfl ?_
    refine AtL.nil ?_
    exact AtE.then_n ((HK1 _ () _ H).pickP (ts := [0, 2]) (is := []) rfl rfl (by decide) rfl)
   ·
    refine AtC.skip ?_
    exact AtE.then_n ((HK1 _ () _ H).pickP (ts := [0, 2]) (is := []) rfl rfl (by decide) rfl)

theorem lift_math_bits_Len (x0 : Int) (w : World) (m : Heap) (hr : Rel ⟨m, []⟩ w.heap) (S : Int → Heap → Prop) (H : math_bits_Len x0 m S) :
    Calls Tryz.prog 9 #[Value.int .u64 x0] w (Post ⟨w, m⟩ (Value.int .i64) S) := by
  refine Calls.lift (args := [Value.int .u64 x0]) Tryz.func9 rfl Tryz.ntmps9 (Nat.le_of_ble_eq_true rfl) hr (math_bits_Len x0 m S) H (fun H => ?_)
  refine AtC.pick (ts := [0]) rfl ?_
  unfold math_bits_Len at H
  refine AtC.seqR ?_
  refine AtL.pures hT 1 _ _ _ _ rfl ?_
  refine AtL.nil ?_
  refine AtE.then_n (AtE.go ?_)
  refine AtC.seq ?_
  refine AtC.cond (b := false) rfl nofun (fun _ => ?_)
  refine AtC.skip ?_
  refine AtE.then_n (AtE.go ?_)
  refine AtC.seqR ?_
  refine AtL.pures hT 1 _ _ _ _ rfl ?_
  refine AtL.e rfl (EffX.call (f := 23) (sh := fun h => math_bits_Len64 _ h _) (H0 := H) rfl Tryz.call23 rfl (hl := fun w m hr hw => lift_math_bits_Len64 _ w m hr _ hw)) ?_
  rintro _ _ ⟨v, h0, rfl, rfl, H⟩
  refine AtL.pures hT 1 _ _ _ _ rfl ?_
  refine AtL.nil ?_
  refine AtE.then_n (AtE.go ?_)
  refine AtC.ret ?_
  exact AtE.retN (rs := [.tmp 2]) rfl (ResAll.cons (ResAt.tmp rfl) ResAll.nil) rfl H

theorem lift_engine_Luby (n : Int) (w : World) (m : Heap) (hr : Rel ⟨m, []⟩ w.heap) (S : Int → Heap → Prop) (H : engine_Luby n m S) :
    Calls Tryz.prog 5 #[Value.int .i64 n] w (Post ⟨w, m⟩ (Value.int .i64) S) := by
  refine Calls.lift (args := [Value.int .i64 n]) Tryz.func5 rfl Tryz.ntmps5 (Nat.le_of_ble_eq_true rfl) hr (engine_Luby n m S) H (fun H => ?_)
  refine AtC.pick (ts := [0]) rfl ?_
  unfold engine_Luby at H
  refine AtC.seqR ?_
  refine AtL.pures hT 1 _ _ _ _ rfl ?_
  refine AtL.nil ?_
  refine AtE.then_n (AtE.go ?_)
  refine AtC.seq ?_
  refine AtC.block ?_
  refine AtC.loopM (fun (s0 : Int) => [(0, Value.int .i64 s0)]) (fun (s0 : Int) => []) [] [0] [] [] H (by exact rfl) (by exact rfl) (by exact rfl) (by decide) (by exact rfl) (fun Kp1 s0 h0 H Q1 HK1 => ?_)
  refine AtC.seq ?_
  refine AtC.seqR ?_
  refine AtL.pures hT 2 _ _ _ _ rfl ?_
  refine AtL.nil ?_
  refine AtE.then_n (AtE.go ?_)
  refine AtC.condB H rfl (fun H => ?_) (fun H => ?_)
  ·
   refine AtC.skip ?_
   refine AtE.then_n (AtE.go ?_)
   refine AtC.block ?_
   refine AtC.seqR ?_
   refine AtL.pures hT 2 _ _ _ _ rfl ?_
   refine AtL.e rfl (EffX.call (f := 9) (sh := fun h => math_bits_Len _ h _) (H0 := H) rfl Tryz.call9 rfl (hl := fun w m hr hw => lift_math_bits_Len _ w m hr _ hw)) ?_
   rintro _ _ ⟨v, h0u1, rfl, rfl, H⟩
   refine AtL.pures hT 1 _ _ _ _ rfl ?_
   refine AtL.nil ?_
   refine AtE.then_n (AtE.go ?_)
   refine AtC.seq ?_
   refine AtC.seqR ?_
   refine AtL.pures hT 2 _ _ _ _ rfl ?_
   obtain ⟨hd1, H⟩ := H
   refine AtL.q rfl (Quiet1.shl rfl rfl rfl hd1) ?_
   refine AtL.pures hT 2 _ _ _ _ rfl ?_
   refine AtL.nil ?_
   refine AtE.then_n (AtE.go ?_)
   refine AtC.condB H rfl (fun H => ?_) (fun H => ?_)
   ·
    refine AtC.seqR ?_
    refine AtL.pures hT 2 _ _ _ _ rfl ?_
    obtain ⟨hd2, H⟩ := H
    refine AtL.q rfl (Quiet1.shl rfl rfl rfl hd2) ?_
    refine AtL.pures hT 1 _ _ _ _ rfl ?_
    refine AtL.nil ?_
    refine AtE.then_n (AtE.go ?_)
    refine AtC.ret ?_
    refine AtE.then_r ?_
    refine AtE.blk_r ?_
    refine AtE.then_r ?_
    refine AtE.blk_r ?_
    refine AtE.then_r ?_
    exact AtE.retN (rs := [.tmp 2]) rfl (ResAll.cons (ResAt.tmp rfl) ResAll.nil) rfl H
   ·
    refine AtC.skip ?_
    refine AtE.then_n (AtE.go ?_)
    refine AtC.region ?_
    refine AtL.pures hT 3 _ _ _ _ rfl ?_
    obtain ⟨hd3, H⟩ := H
    refine AtL.q rfl (Quiet1.shl rfl rfl rfl hd3) ?_
    refine AtL.pures hT 3 _ _ _ _ rfl ?_
    replace H := H _ rfl
    refine AtL.nil ?_
    refine AtE.blk_n ?_
    exact AtE.then_n ((HK1 _ _ H).pickP (ts := [0]) (is := []) rfl rfl (by decide) rfl)
  ·
   refine AtC.exit ?_
   refine AtE.then_x ?_
   refine AtE.then_x ?_
   refine AtE.blk_hit ?_
   refine AtE.then_n (AtE.go ?_)
   refine AtC.seqR ?_
   refine AtL.pures hT 1 _ _ _ _ rfl ?_
   refine AtL.nil ?_
   refine AtE.then_n (AtE.go ?_)
   refine AtC.ret ?_
   exact AtE.retN (rs := [.tmp 2]) rfl (ResAll.cons (ResAt.tmp rfl) ResAll.nil) rfl H

theorem lift_law20uspeaks (w : World) (m : Heap) (hr : Rel ⟨m, []⟩ w.heap) (S : Bool → Heap → Prop) (H : law20uspeaks m S) :
    Calls Tryz.prog 4 #[] w (Post ⟨w, m⟩ Value.bool S) := by
  refine Calls.lift (args := []) Tryz.func4 rfl Tryz.ntmps4 (Nat.le_of_ble_eq_true rfl) hr (law20uspeaks m S) H (fun H => ?_)
  refine AtC.pick (ts := []) rfl ?_
  unfold law20uspeaks at H
  refine AtC.seqR ?_
  refine AtL.pures hT 1 _ _ _ _ rfl ?_
  refine AtL.nil ?_
  refine AtE.then_n (AtE.go ?_)
  refine AtC.seqR ?_
  refine AtL.q rfl (Quiet1.build (cs := [_, _, _, _, _, _, _]) hT rfl rfl rfl rfl rfl rfl) ?_
  refine AtL.q rfl (Quiet1.build (cs := [_, _]) hT rfl rfl rfl rfl rfl rfl) ?_
  refine AtL.e rfl (EffX.call (f := 7) (sh := fun h => engine_New _ _ h _) (H0 := H) rfl Tryz.call7 rfl (hl := fun w m hr hw => lift_engine_New _ _ w m hr _ hw)) ?_
  rintro _ _ ⟨v, h0, rfl, rfl, H⟩
  refine AtL.pures hT 3 _ _ _ _ rfl ?_
  refine AtL.e rfl (EffX.alloc hT rfl rfl H) ?_
  rintro _ _ ⟨s0, h0u1, rfl, rfl, H⟩
  refine AtL.e rfl (EffX.storeS hT rfl rfl rfl rfl rfl rfl H) ?_
  rintro _ _ ⟨h0u2, rfl, H⟩
  refine AtL.pures hT 1 _ _ _ _ rfl ?_
  refine AtL.nil ?_
  refine AtE.then_n (AtE.go ?_)
  refine AtC.seqR ?_
  refine AtL.e rfl (EffX.call (f := 8) (sh := fun h => engine_Step _ h _) (H0 := H) rfl Tryz.call8 rfl (hl := fun w m hr hw => lift_engine_Step _ w m hr _ hw)) ?_
  rintro _ _ ⟨v_1, h0u3, rfl, rfl, H⟩
  refine AtL.nil ?_
  refine AtE.then_n (AtE.go ?_)
  refine AtC.joinSeq (β := Unit) (fun (t0 : Bool) (bb : Unit) => [(0, Value.bool t0)]) (fun (t0 : Bool) (bb : Unit) => []) [] [] H (by exact rfl) (by exact rfl) (fun t0 bb h0u4 H => ?_) (fun J1 H HK1 => ?_)
  ·
   refine AtC.ret ?_
   exact AtE.retN (rs := [.tmp 0]) rfl (ResAll.cons (ResAt.tmp rfl) ResAll.nil) rfl H
  ·
   refine AtC.region ?_
   refine AtL.pures hT 3 _ _ _ _ rfl ?_
   refine AtL.splitB (t := 12) H rfl (fun H => ?_) (fun H => ?_)
   ·
    refine AtL.yes rfl rfl rfl ?_
    refine AtL.pures hT 1 _ _ _ _ rfl ?_
    refine AtL.yes rfl rfl rfl ?_
    obtain ⟨v_2, hc1, H⟩ := H
    refine AtL.q rfl (Quiet1.load hT rfl rfl rfl hc1) ?_
    refine AtL.yes rfl rfl rfl ?_
    refine AtL.pures hT 1 _ _ _ _ rfl ?_
    refine AtL.pures hT 2 _ _ _ _ rfl ?_
    refine AtL.splitB (t := 17) H rfl (fun H => ?_) (fun H => ?_)
    ·
     refine AtL.yes rfl rfl rfl ?_
     refine AtL.pures hT 1 _ _ _ _ rfl ?_
     refine AtL.yes rfl rfl rfl ?_
     obtain ⟨v_3, hc2, H⟩ := H
     refine AtL.q rfl (Quiet1.load hT rfl rfl rfl hc2) ?_
     refine AtL.yes rfl rfl rfl ?_
     refine AtL.pures hT 1 _ _ _ _ rfl ?_
     refine AtL.pures hT 2 _ _ _ _ rfl ?_
     refine AtL.splitB (t := 22) H rfl (fun H => ?_) (fun H => ?_)
     ·
      refine AtL.yes rfl rfl rfl ?_
      refine AtL.e rfl (EffX.call (f := 5) (sh := fun h => engine_Luby _ h _) (H0 := H) rfl Tryz.call5 rfl (hl := fun w m hr hw => lift_engine_Luby _ w m hr _ hw)) ?_
      rintro _ _ ⟨v_4, h0u5, rfl, rfl, H⟩
      refine AtL.yes rfl rfl rfl ?_
      refine AtL.pures hT 1 _ _ _ _ rfl ?_
      refine AtL.pures hT 2 _ _ _ _ rfl ?_
      refine AtL.nil ?_
      exact AtE.then_n ((HK1 _ () _ H).pickP (ts := [0]) (is := []) rfl rfl (by decide) rfl)
     ·
      refine AtL.noF rfl rfl rfl (by decide) rfl ?_
      refine AtL.noF rfl rfl rfl (by decide) rfl ?_
      refine AtL.pures hT 2 _ _ _ _ rfl ?_
      refine AtL.nil ?_
      exact AtE.then_n ((HK1 _ () _ H).pickP (ts := [0]) (is := []) rfl rfl (by decide) rfl)
    ·
     refine AtL.noF rfl rfl rfl (by decide) rfl ?_
     refine AtL.noF rfl rfl rfl (by decide) rfl ?_
     refine AtL.noF rfl rfl rfl (by decide) rfl ?_
     refine AtL.pures hT 2 _ _ _ _ rfl ?_
     refine AtL.noF rfl rfl rfl (by decide) rfl ?_
     refine AtL.noF rfl rfl rfl (by decide) rfl ?_
     refine AtL.pures hT 2 _ _ _ _ rfl ?_
     refine AtL.nil ?_
     exact AtE.then_n ((HK1 _ () _ H).pickP (ts := [0]) (is := []) rfl rfl (by decide) rfl)
   ·
    refine AtL.noF rfl rfl rfl (by decide) rfl ?_
    refine AtL.noF rfl rfl rfl (by decide) rfl ?_
    refine AtL.noF rfl rfl rfl (by decide) rfl ?_
    refine AtL.pures hT 2 _ _ _ _ rfl ?_
    refine AtL.noF rfl rfl rfl (by decide) rfl ?_
    refine AtL.noF rfl rfl rfl (by decide) rfl ?_
    refine AtL.noF rfl rfl rfl (by decide) rfl ?_
    refine AtL.pures hT 2 _ _ _ _ rfl ?_
    refine AtL.noF rfl rfl rfl (by decide) rfl ?_
    refine AtL.noF rfl rfl rfl (by decide) rfl ?_
    refine AtL.pures hT 2 _ _ _ _ rfl ?_
    refine AtL.nil ?_
    exact AtE.then_n ((HK1 _ () _ H).pickP (ts := [0]) (is := []) rfl rfl (by decide) rfl)

theorem lift_ref20uLuby (n : Int) (w : World) (m : Heap) (hr : Rel ⟨m, []⟩ w.heap) (S : Int → Heap → Prop) (H : ref20uLuby n m S) :
    Calls Tryz.prog 6 #[Value.int .i64 n] w (Post ⟨w, m⟩ (Value.int .i64) S) := by
  refine Calls.lift (args := [Value.int .i64 n]) Tryz.func6 rfl Tryz.ntmps6 (Nat.le_of_ble_eq_true rfl) hr (ref20uLuby n m S) H (fun H => ?_)
  refine AtC.pick (ts := [0]) rfl ?_
  unfold ref20uLuby at H
  refine AtC.seqR ?_
  refine AtL.pures hT 1 _ _ _ _ rfl ?_
  refine AtL.nil ?_
  refine AtE.then_n (AtE.go ?_)
  refine AtC.seqR ?_
  refine AtLX.bs (hT := hT) (cs := [_]) H rfl rfl rfl rfl rfl rfl rfl rfl rfl (fun a h0 H => ?_)
  refine AtL.pures hT 1 _ _ _ _ rfl ?_
  replace H := H _ rfl
  refine AtL.nil ?_
  refine AtE.then_n (AtE.go ?_)
  refine AtC.seq ?_
  refine AtC.block ?_
  refine AtC.loopM (fun (s0 : Sl) => [(3, Sl.toV s0)]) (fun (s0 : Sl) => []) [0] [3, 0] [] [] H (by exact rfl) (by exact rfl) (by exact rfl) (by decide) (by exact rfl) (fun Kp1 s0 h0u1 H Q1 HK1 => ?_)
  refine AtC.seq ?_
  refine AtC.seqR ?_
  refine AtL.pures hT 4 _ _ _ _ rfl ?_
  refine AtL.nil ?_
  refine AtE.then_n (AtE.go ?_)
  refine AtC.condB H rfl (fun H => ?_) (fun H => ?_)
  ·
   refine AtC.skip ?_
   refine AtE.then_n (AtE.go ?_)
   refine AtC.block ?_
   obtain ⟨a_1_, hc1, hd1, H⟩ := H
   obtain ⟨v_1, hc2, H⟩ := H
   apply AtC.stages [2, 10, 11, 12] [[], [], [], [], [], [], [], [], [], [], [], [2, 10], [2, 10, 11]] [[], [], [0, 1], [], [], [4], [4, 5], [3, 4, 5, 6], [3, 4, 5, 6, 7], [3, 4, 5, 6, 7, 8], [3, 4, 5, 6, 7, 8, 9], [0, 1, 2, 3, 4, 5, 6, 7, 8, 9, 10], [0, 1, 2, 3, 4, 5, 6, 7, 8, 9, 10, 11]] hmix (by kernel_rfl) [(9, _), (10, _), (12, _), (13, _), (14, _), (15, _), (16, _), (17, _), (18, _)] rfl 4 rfl
   refine Stg.go [0, 1, 3, 4, 5, 6, 7, 8, 9] [2, 10] rfl rfl (QAll.cons (QOp.p hT rfl rfl rfl rfl rfl) (QAll.cons (QOp.p hT rfl rfl rfl rfl rfl) (QAll.cons (QOp.p hT rfl rfl rfl rfl rfl) (QAll.cons (QOp.p hT rfl rfl rfl rfl rfl) (QAll.cons (QOp.p hT rfl rfl rfl rfl rfl) (QAll.cons (QOp.p hT rfl rfl rfl rfl rfl) (QAll.cons (QOp.q rfl rfl (Quiet1.idxS (s := _) hT rfl rfl rfl rfl rfl hc1 hd1) rfl rfl) (QAll.cons (QOp.q rfl rfl (Quiet1.load hT rfl rfl rfl hc2) rfl rfl) (QAll.cons (QOp.p hT rfl rfl rfl rfl rfl) QAll.nil))))))))) ?_
   refine EAll.cons ?_ ?_
   ·
    replace H := H.1
    refine EOp.e rfl rfl rfl (EffX.appendS (s := _) (u := _) hT rfl rfl rfl rfl rfl rfl rfl rfl rfl rfl (by decide) H) ?_
    rintro _ _ ⟨v_2, h0u2, rfl, rfl, H⟩
    obtain ⟨hc3, H⟩ := H
    apply Stg.next [(11, _)] rfl rfl
    refine Stg.go [3, 4, 5, 6, 7, 8, 9] [10] rfl rfl (QAll.cons (QOp.p hT rfl rfl rfl rfl rfl) (QAll.cons (QOp.p hT rfl rfl rfl rfl rfl) (QAll.cons (QOp.p hT rfl rfl rfl rfl rfl) (QAll.cons (QOp.p hT rfl rfl rfl rfl rfl) (QAll.cons (QOp.q rfl rfl (Quiet1.idxS (s := _) hT rfl rfl rfl rfl rfl hc1 hd1) rfl rfl) (QAll.cons (QOp.q rfl rfl (Quiet1.load hT rfl rfl rfl hc3) rfl rfl) (QAll.cons (QOp.p hT rfl rfl rfl rfl rfl) QAll.nil))))))) ?_
    refine EAll.cons ?_ EAll.nil
    refine EOp.e rfl rfl rfl (EffX.buildS2 (cs := [_]) hT rfl rfl rfl rfl rfl rfl rfl rfl H) ?_
    rintro _ _ ⟨a_2, h0u3, rfl, rfl, H⟩
    apply Stg.next [(19, _)] rfl rfl
    refine Stg.go [] [11] rfl rfl QAll.nil ?_
    refine EAll.cons ?_ EAll.nil
    refine EOp.e rfl rfl rfl (EffX.appendS (s := _) (u := _) hT rfl rfl rfl rfl rfl rfl rfl rfl rfl rfl (by decide) H) ?_
    rintro _ _ ⟨v_4, h0u4, rfl, rfl, H⟩
    apply Stg.next [(20, _)] rfl rfl
    refine Stg.go [] [12] rfl rfl QAll.nil ?_
    refine EAll.cons ?_ EAll.nil
    refine EOp.e rfl rfl rfl (Eff.ofPure hT rfl) ?_
    rintro _ _ ⟨rfl, rfl⟩
    apply Stg.next [(3, _)] rfl rfl
    refine Stg.fin [] rfl rfl QAll.nil ?_
    refine AtE.blk_n ?_
    exact AtE.then_n ((HK1 _ _ H).pickP (ts := [3, 0]) (is := []) rfl rfl (by decide) rfl)
   refine EAll.cons ?_ EAll.nil
   replace H := H.2
   refine EOp.e rfl rfl rfl (EffX.buildS2 (cs := [_]) hT rfl rfl rfl rfl rfl rfl rfl rfl H) ?_
   rintro _ _ ⟨a_3, h0u5, rfl, rfl, H⟩
   apply Stg.next [(19, _)] rfl rfl
   refine Stg.go [0, 1] [2] rfl rfl (QAll.cons (QOp.p hT rfl rfl rfl rfl rfl) (QAll.cons (QOp.p hT rfl rfl rfl rfl rfl) QAll.nil)) ?_
   refine EAll.cons ?_ EAll.nil
   refine EOp.e rfl rfl rfl (EffX.appendS (s := _) (u := _) hT rfl rfl rfl rfl rfl rfl rfl rfl rfl rfl (by decide) H) ?_
   rintro _ _ ⟨v_6, h0u6, rfl, rfl, H⟩
   apply Stg.next [(11, _)] rfl rfl
   refine Stg.go [] [11] rfl rfl QAll.nil ?_
   refine EAll.cons ?_ EAll.nil
   refine EOp.e rfl rfl rfl (EffX.appendS (s := _) (u := _) hT rfl rfl rfl rfl rfl rfl rfl rfl rfl rfl (by decide) H) ?_
   rintro _ _ ⟨v_7, h0u7, rfl, rfl, H⟩
   apply Stg.next [(20, _)] rfl rfl
   refine Stg.go [] [12] rfl rfl QAll.nil ?_
   refine EAll.cons ?_ EAll.nil
   refine EOp.e rfl rfl rfl (Eff.ofPure hT rfl) ?_
   rintro _ _ ⟨rfl, rfl⟩
   apply Stg.next [(3, _)] rfl rfl
   refine Stg.fin [] rfl rfl QAll.nil ?_
   refine AtE.blk_n ?_
   exact AtE.then_n ((HK1 _ _ H).pickP (ts := [3, 0]) (is := []) rfl rfl (by decide) rfl)
  ·
   refine AtC.exit ?_
   refine AtE.then_x ?_
   refine AtE.then_x ?_
   refine AtE.blk_hit ?_
   refine AtE.then_n (AtE.go ?_)
   refine AtC.seqR ?_
   refine AtL.pures hT 3 _ _ _ _ rfl ?_
   obtain ⟨a_4_, hc4, hd4, H⟩ := H
   refine AtL.q rfl (Quiet1.idxS (s := _) hT rfl rfl rfl rfl rfl hc4 hd4) ?_
   obtain ⟨v_8, hc5, H⟩ := H
   refine AtL.q rfl (Quiet1.load hT rfl rfl rfl hc5) ?_
   refine AtL.pures hT 1 _ _ _ _ rfl ?_
   refine AtL.nil ?_
   refine AtE.then_n (AtE.go ?_)
   refine AtC.ret ?_
   exact AtE.retN (rs := [.tmp 2]) rfl (ResAll.cons (ResAt.tmp rfl) ResAll.nil) rfl H

theorem lift_law20uEngineLuby (n : Int) (w : World) (m : Heap) (hr : Rel ⟨m, []⟩ w.heap) (S : Bool → Heap → Prop) (H : law20uEngineLuby n m S) :
    Calls Tryz.prog 3 #[Value.int .i64 n] w (Post ⟨w, m⟩ Value.bool S) := by
  refine Calls.lift (args := [Value.int .i64 n]) Tryz.func3 rfl Tryz.ntmps3 (Nat.le_of_ble_eq_true rfl) hr (law20uEngineLuby n m S) H (fun H => ?_)
  refine AtC.pick (ts := [0]) rfl ?_
  unfold law20uEngineLuby at H
  refine AtC.seqR ?_
  refine AtL.pures hT 1 _ _ _ _ rfl ?_
  refine AtL.nil ?_
  refine AtE.then_n (AtE.go ?_)
  refine AtC.seq ?_
  refine AtC.seqR ?_
  refine AtL.e rfl (EffX.call (f := 4) (sh := fun h => law20uspeaks h _) (H0 := H) rfl Tryz.call4 rfl (hl := fun w m hr hw => lift_law20uspeaks  w m hr _ hw)) ?_
  rintro _ _ ⟨v, h0, rfl, rfl, H⟩
  refine AtL.pures hT 1 _ _ _ _ rfl ?_
  refine AtL.nil ?_
  refine AtE.then_n (AtE.go ?_)
  refine AtC.condB H rfl (fun H => ?_) (fun H => ?_)
  ·
   refine AtC.seqR ?_
   refine AtL.pures hT 1 _ _ _ _ rfl ?_
   refine AtL.nil ?_
   refine AtE.then_n (AtE.go ?_)
   refine AtC.ret ?_
   refine AtE.then_r ?_
   exact AtE.retN (rs := [.tmp 2]) rfl (ResAll.cons (ResAt.tmp rfl) ResAll.nil) rfl H
  ·
   refine AtC.skip ?_
   refine AtE.then_n (AtE.go ?_)
   refine AtC.seq ?_
   refine AtC.seqR ?_
   refine AtL.pures hT 2 _ _ _ _ rfl ?_
   refine AtL.nil ?_
   refine AtE.then_n (AtE.go ?_)
   refine AtC.condB H rfl (fun H => ?_) (fun H => ?_)
   ·
    refine AtC.seqR ?_
    refine AtL.pures hT 1 _ _ _ _ rfl ?_
    refine AtL.e rfl (EffX.call (f := 5) (sh := fun h => engine_Luby _ h _) (H0 := H) rfl Tryz.call5 rfl (hl := fun w m hr hw => lift_engine_Luby _ w m hr _ hw)) ?_
    rintro _ _ ⟨v_1, h0u1, rfl, rfl, H⟩
    refine AtL.pures hT 2 _ _ _ _ rfl ?_
    refine AtL.nil ?_
    refine AtE.then_n (AtE.go ?_)
    refine AtC.ret ?_
    refine AtE.then_r ?_
    exact AtE.retN (rs := [.tmp 2]) rfl (ResAll.cons (ResAt.tmp rfl) ResAll.nil) rfl H
   ·
    refine AtC.skip ?_
    refine AtE.then_n (AtE.go ?_)
    refine AtC.seqR ?_
    refine AtL.pures hT 3 _ _ _ _ rfl ?_
    replace H := H _ rfl
    refine AtL.nil ?_
    refine AtE.then_n (AtE.go ?_)
    refine AtC.joinSeq (β := Unit) (fun (t0 : Bool) (bb : Unit) => [(2, Value.bool t0)]) (fun (t0 : Bool) (bb : Unit) => []) [] [] H (by exact rfl) (by exact rfl) (fun t0 bb h0u2 H => ?_) (fun J1 H HK1 => ?_)
    ·
     refine AtC.ret ?_
     exact AtE.retN (rs := [.tmp 2]) rfl (ResAll.cons (ResAt.tmp rfl) ResAll.nil) rfl H
    ·
     refine AtC.region ?_
     refine AtL.pures hT 3 _ _ _ _ rfl ?_
     refine AtL.splitB (t := 15) H rfl (fun H => ?_) (fun H => ?_)
     ·
      refine AtL.noF rfl rfl rfl (by decide) rfl ?_
      refine AtL.noF rfl rfl rfl (by decide) rfl ?_
      refine AtL.noF rfl rfl rfl (by decide) rfl ?_
      refine AtL.noF rfl rfl rfl (by decide) rfl ?_
      refine AtL.noF rfl rfl rfl (by decide) rfl ?_
      refine AtL.pures hT 2 _ _ _ _ rfl ?_
      refine AtL.nil ?_
      exact AtE.then_n ((HK1 _ () _ H).pickP (ts := [2]) (is := []) rfl rfl (by decide) rfl)
     ·
      refine AtL.yes rfl rfl rfl ?_
      refine AtL.pures hT 1 _ _ _ _ rfl ?_
      refine AtL.yes rfl rfl rfl ?_
      refine AtL.e rfl (EffX.call (f := 5) (sh := fun h => engine_Luby _ h _) (H0 := H) rfl Tryz.call5 rfl (hl := fun w m hr hw => lift_engine_Luby _ w m hr _ hw)) ?_
      rintro _ _ ⟨v_2, h0u3, rfl, rfl, H⟩
      refine AtL.yes rfl rfl rfl ?_
      refine AtL.pures hT 1 _ _ _ _ rfl ?_
      refine AtL.yes rfl rfl rfl ?_
      refine AtL.e rfl (EffX.call (f := 6) (sh := fun h => ref20uLuby _ h _) (H0 := H) rfl Tryz.call6 rfl (hl := fun w m hr hw => lift_ref20uLuby _ w m hr _ hw)) ?_
      rintro _ _ ⟨v_3, h0u4, rfl, rfl, H⟩
      refine AtL.yes rfl rfl rfl ?_
      refine AtL.pures hT 1 _ _ _ _ rfl ?_
      refine AtL.pures hT 2 _ _ _ _ rfl ?_
      refine AtL.nil ?_
      exact AtE.then_n ((HK1 _ () _ H).pickP (ts := [2]) (is := []) rfl rfl (by decide) rfl)
end Go.Proofs.YtenofghlgiimeaaGreatDoor

/-
  The deep code does what the functions of the shallow text say: printed by lift.py.
-/
import Derived.Test.YtdcdidecehbplaaGreatDoorLfA2
set_option linter.unusedVariables false
set_option linter.unusedSimpArgs false
namespace Go.Proofs.YtdcdidecehbplaaGreatDoor
open Go Go.Lift Go.Sh
set_option maxRecDepth 100000
set_option maxHeartbeats 4000000
attribute [local irreducible] Calls AtL AtC AtE AtD Eff Quiet1 Stg qAt QAll eAt EAll nextK Code.wp


theorem lift_law02utold__law02uRatioTold_c1 (limbs : Int) (do_c : Addr) (do_c_1 : Addr) (want : Bool × Sl × Sl) (w : World) (m : Heap) (hr : Rel ⟨m, []⟩ w.heap) (S : Bool → Heap → Prop) (H : law02utold__law02uRatioTold_c1 limbs do_c do_c_1 want m S) :
    Calls Tryz.prog 8 #[Value.int .i64 limbs, Value.func (.func 9) #[] #[Value.pointer (some do_c), Value.pointer (some do_c_1)], Value.agg (C_bool_sl_sl want).toArray] w (Post ⟨w, m⟩ Value.bool S) := by
  refine Calls.lift (args := [Value.int .i64 limbs, Value.func (.func 9) #[] #[Value.pointer (some do_c), Value.pointer (some do_c_1)], Value.agg (C_bool_sl_sl want).toArray]) Tryz.func8 rfl Tryz.ntmps8 (Nat.le_of_ble_eq_true rfl) hr (law02utold__law02uRatioTold_c1 limbs do_c do_c_1 want m S) H (fun H => ?_)
  refine AtC.pick (ts := [0, 1, 2]) rfl ?_
  unfold law02utold__law02uRatioTold_c1 at H
  refine AtC.seqR ?_
  refine AtL.e rfl (EffX.boxP (cs := [_, _, _]) rfl rfl rfl H) ?_
  rintro _ _ ⟨b, _, rfl, rfl, _, H⟩
  replace H := H.self
  refine AtL.pures hT 1 _ _ _ _ rfl ?_
  refine AtL.nil ?_
  refine AtE.then_n (AtE.go ?_)
  refine AtC.seqR ?_
  refine AtL.pures hT 1 _ _ _ _ rfl ?_
  refine AtL.e rfl (EffX.call (f := 33) (sh := fun h => nat_New _ h _) (H0 := H) rfl Tryz.call33 rfl (hl := fun w m hr hw => lift_nat_New _ w m hr _ hw)) ?_
  rintro _ _ ⟨v, h0u1, rfl, rfl, H⟩
  refine AtL.pures hT 1 _ _ _ _ rfl ?_
  refine AtL.nil ?_
  refine AtE.then_n (AtE.go ?_)
  refine AtC.joinSeq (β := Nat × Nat) (fun (t0 : Bool × Sl × Sl × Bool × Sl × Sl) (bb : Nat × Nat) => [(8, Value.pointer (some ⟨bb.1, 0, none⟩)), (9, Value.pointer (some ⟨bb.2, 0, none⟩))]) (fun (t0 : Bool × Sl × Sl × Bool × Sl × Sl) (bb : Nat × Nat) => [(bb.1, [Value.bool t0.1, Sl.toV t0.2.1, Sl.toV t0.2.2.1]), (bb.2, [Value.bool t0.2.2.2.1, Sl.toV t0.2.2.2.2.1, Sl.toV t0.2.2.2.2.2])]) [0, 7] [] H (by exact rfl) (by exact rfl) (fun t0 bb h0u2 H => ?_) (fun J1 H HK1 => ?_)
  ·
   refine AtC.seq ?_
   refine AtC.seqR ?_
   refine AtL.q rfl (Quiet1.loadSP (i := 1) (l := [_, _, _]) hT rfl rfl rfl rfl rfl rfl rfl rfl) ?_
   refine AtL.pures hT 2 _ _ _ _ rfl ?_
   refine AtL.e rfl (EffX.call (f := 35) (sh := fun h => ref02uFits _ _ h _) (H0 := H) rfl Tryz.call35 rfl (hl := fun w m hr hw => lift_ref02uFits _ _ w m hr _ hw)) ?_
   rintro _ _ ⟨v_17, h0u36, rfl, rfl, H⟩
   refine AtL.pures hT 1 _ _ _ _ rfl ?_
   refine AtL.nil ?_
   refine AtE.then_n (AtE.go ?_)
   refine AtC.condB H rfl (fun H => ?_) (fun H => ?_)
   ·
    refine AtC.joinSeq (β := Unit) (fun (t0u1 : Bool) (bb_1 : Unit) => [(6, Value.bool t0u1)]) (fun (t0u1 : Bool) (bb_1 : Unit) => []) [] [] H (by exact rfl) (by exact rfl) (fun t0u1 bb_1 h0u37 H => ?_) (fun J20 H HK20 => ?_)
    ·
     refine AtC.ret ?_
     refine AtE.then_r ?_
     exact AtE.retN (rs := [.tmp 6]) rfl (ResAll.cons (ResAt.tmp rfl) ResAll.nil) rfl H
    ·
     refine AtC.region ?_
     refine AtL.pures hT 1 _ _ _ _ rfl ?_
     refine AtL.e rfl (EffX.call (f := 36) (sh := fun h => nat_Bench_Over _ h _) (H0 := H) rfl Tryz.call36 rfl (hl := fun w m hr hw => lift_nat_Bench_Over _ w m hr _ hw)) ?_
     rintro _ _ ⟨v_18, h0u38, rfl, rfl, H⟩
     refine AtL.pures hT 1 _ _ _ _ rfl ?_
     refine AtL.splitB (t := 24) H rfl (fun H => ?_) (fun H => ?_)
     ·
      refine AtL.yes rfl rfl rfl ?_
      refine AtL.q rfl (Quiet1.loadSP (i := 0) (l := [_, _, _]) hT rfl rfl rfl rfl rfl rfl rfl rfl) ?_
      refine AtL.yes rfl rfl rfl ?_
      refine AtL.q rfl (Quiet1.build (cs := [_, _, _]) hT rfl rfl rfl rfl rfl rfl) ?_
      refine AtL.yes rfl rfl rfl ?_
      refine AtL.e rfl (EffX.call (f := 25) (sh := fun h => ref02uSame _ _ h _) (H0 := H) rfl Tryz.call25 rfl (hl := fun w m hr hw => lift_ref02uSame _ _ w m hr _ hw)) ?_
      rintro _ _ ⟨v_19, h0u39, rfl, rfl, H⟩
      refine AtL.pures hT 2 _ _ _ _ rfl ?_
      refine AtL.nil ?_
      exact AtE.then_n ((HK20 _ () _ H).pickP (ts := [6]) (is := []) rfl rfl (by decide) rfl)
     ·
      refine AtL.noF rfl rfl rfl (by decide) rfl ?_
      refine AtL.noF rfl rfl rfl (by decide) rfl ?_
      refine AtL.noF rfl rfl rfl (by decide) rfl ?_
      refine AtL.pures hT 2 _ _ _ _ rfl ?_
      refine AtL.nil ?_
      exact AtE.then_n ((HK20 _ () _ H).pickP (ts := [6]) (is := []) rfl rfl (by decide) rfl)
   ·
    refine AtC.skip ?_
    refine AtE.then_n (AtE.go ?_)
    refine AtC.joinSeq (β := Unit) (fun (t0u2 : Bool) (bb_2 : Unit) => [(6, Value.bool t0u2)]) (fun (t0u2 : Bool) (bb_2 : Unit) => []) [] [] H (by exact rfl) (by exact rfl) (fun t0u2 bb_2 h0u40 H => ?_) (fun J21 H HK21 => ?_)
    ·
     refine AtC.ret ?_
     exact AtE.retN (rs := [.tmp 6]) rfl (ResAll.cons (ResAt.tmp rfl) ResAll.nil) rfl H
    ·
     refine AtC.region ?_
     refine AtL.pures hT 1 _ _ _ _ rfl ?_
     refine AtL.e rfl (EffX.call (f := 36) (sh := fun h => nat_Bench_Over _ h _) (H0 := H) rfl Tryz.call36 rfl (hl := fun w m hr hw => lift_nat_Bench_Over _ w m hr _ hw)) ?_
     rintro _ _ ⟨v_20, h0u41, rfl, rfl, H⟩
     refine AtL.pures hT 2 _ _ _ _ rfl ?_
     refine AtL.splitB (t := 32) H rfl (fun H => ?_) (fun H => ?_)
     ·
      refine AtL.yes rfl rfl rfl ?_
      refine AtL.q rfl (Quiet1.loadSP (i := 0) (l := [_, _, _]) hT rfl rfl rfl rfl rfl rfl rfl rfl) ?_
      refine AtL.yes rfl rfl rfl ?_
      refine AtL.q rfl (Quiet1.loadSP (i := 1) (l := [_, _, _]) hT rfl rfl rfl rfl rfl rfl rfl rfl) ?_
      refine AtL.yes rfl rfl rfl ?_
      refine AtL.e rfl (EffX.call (f := 25) (sh := fun h => ref02uSame _ _ h _) (H0 := H) rfl Tryz.call25 rfl (hl := fun w m hr hw => lift_ref02uSame _ _ w m hr _ hw)) ?_
      rintro _ _ ⟨v_21, h0u42, rfl, rfl, H⟩
      refine AtL.pures hT 2 _ _ _ _ rfl ?_
      refine AtL.nil ?_
      exact AtE.then_n ((HK21 _ () _ H).pickP (ts := [6]) (is := []) rfl rfl (by decide) rfl)
     ·
      refine AtL.noF rfl rfl rfl (by decide) rfl ?_
      refine AtL.noF rfl rfl rfl (by decide) rfl ?_
      refine AtL.noF rfl rfl rfl (by decide) rfl ?_
      refine AtL.pures hT 2 _ _ _ _ rfl ?_
      refine AtL.nil ?_
      exact AtE.then_n ((HK21 _ () _ H).pickP (ts := [6]) (is := []) rfl rfl (by decide) rfl)
  ·
   apply AtC.stages [2, 4, 5, 6, 7, 8] [[], [], [], [], [2], [], [], [2, 4, 5, 6], [2, 4, 5, 6, 7]] [[], [], [0, 1], [], [0, 1, 2, 3], [], [], [0, 1, 2, 3, 4, 5, 6], [0, 1, 2, 3, 4, 5, 6, 7]] hmix (by kernel_rfl) [(12, _), (13, _), (15, _)] rfl 6 rfl
   refine Stg.go [0, 1, 3] [2, 5, 6] rfl rfl (QAll.cons (QOp.p hT rfl rfl rfl rfl rfl) (QAll.cons (QOp.p hT rfl rfl rfl rfl rfl) (QAll.cons (QOp.q rfl rfl (Quiet1.loadSP (i := 0) (l := [_, _, _]) hT rfl rfl rfl rfl rfl rfl rfl rfl) rfl rfl) QAll.nil))) ?_
   refine EAll.cons ?_ ?_
   ·
    replace H := H.self
    refine EOp.e rfl rfl rfl (EffX.callF (bs := []) (cs := [_, _]) (f := 9) (sh := fun h => law02uRatioTold_c1 _ _ _ h _) (H0 := H) rfl rfl Tryz.call9 rfl (hl := fun w m hr hw => lift_law02uRatioTold_c1 _ _ _ w m hr _ hw)) ?_
    rintro _ _ ⟨v_1, h0u4, rfl, rfl, H⟩
    apply Stg.next [(14, _)] rfl rfl
    refine Stg.go [3] [4, 5, 6] rfl rfl (QAll.cons (QOp.q rfl rfl (Quiet1.loadSP (i := 0) (l := [_, _, _]) hT rfl rfl rfl rfl rfl rfl rfl rfl) rfl rfl) QAll.nil) ?_
    refine EAll.cons ?_ ?_
    ·
     replace H := H.self
     refine EOp.e rfl rfl rfl (EffX.call (f := 27) (sh := fun h => ref02uForm _ h _) (H0 := H) rfl Tryz.call27 rfl (hl := fun w m hr hw => lift_ref02uForm _ w m hr _ hw)) ?_
     rintro _ _ ⟨v_2, h0u6, rfl, rfl, H⟩
     apply Stg.next [(16, _)] rfl rfl
     refine Stg.go [] [5, 6] rfl rfl QAll.nil ?_
     refine EAll.cons ?_ ?_
     ·
      refine EOp.e rfl rfl rfl (EffX.allocP (cs := [_, _, _]) hT rfl rfl H) ?_
      rintro _ _ ⟨b_1, _, rfl, rfl, he1, H⟩
      apply Stg.next [(8, _)] rfl rfl
      refine Stg.go [] [6] rfl rfl QAll.nil ?_
      refine EAll.cons ?_ EAll.nil
      refine EOp.e rfl rfl rfl (EffX.allocP (cs := [_, _, _]) hT rfl rfl H) ?_
      rintro _ _ ⟨b_2, _, rfl, rfl, he2, H⟩
      apply Stg.next [(9, _)] rfl rfl
      refine Stg.go [] [7] rfl rfl QAll.nil ?_
      refine EAll.cons ?_ EAll.nil
      refine EOp.e rfl rfl rfl (EffX.storeSP (i := 1) (qv := [(_, [_, _, _]), (_, [_, _, _]), (_, [_, _, _])]) hT rfl rfl rfl rfl rfl rfl rfl rfl rfl rfl) ?_
      rintro _ _ rfl
      apply Stg.next [] rfl rfl
      refine Stg.go [] [8] rfl rfl QAll.nil ?_
      refine EAll.cons ?_ EAll.nil
      refine EOp.e rfl rfl rfl (EffX.storeSP (i := 0) (qv := [(_, [_, _, _]), (_, [_, _, _]), (_, [_, _, _])]) hT rfl rfl rfl rfl rfl rfl rfl rfl rfl rfl) ?_
      rintro _ _ rfl
      apply Stg.next [] rfl rfl
      refine Stg.fin [] rfl rfl QAll.nil ?_
      replace H := H.self
      exact AtE.then_n ((HK1 _ (b_1, b_2) _ H).pickP (ts := [8, 9, 0, 7]) (is := [1, 0]) rfl rfl (by decide) rfl)
     refine EAll.cons ?_ EAll.nil
     refine EOp.e rfl rfl rfl (EffX.allocP (cs := [_, _, _]) hT rfl rfl H) ?_
     rintro _ _ ⟨b_3, _, rfl, rfl, he3, H⟩
     apply Stg.next [(9, _)] rfl rfl
     refine Stg.go [] [5] rfl rfl QAll.nil ?_
     refine EAll.cons ?_ EAll.nil
     refine EOp.e rfl rfl rfl (EffX.allocP (cs := [_, _, _]) hT rfl rfl H) ?_
     rintro _ _ ⟨b_4, _, rfl, rfl, he4, H⟩
     apply Stg.next [(8, _)] rfl rfl
     refine Stg.go [] [7] rfl rfl QAll.nil ?_
     refine EAll.cons ?_ EAll.nil
     refine EOp.e rfl rfl rfl (EffX.storeSP (i := 0) (qv := [(_, [_, _, _]), (_, [_, _, _]), (_, [_, _, _])]) hT rfl rfl rfl rfl rfl rfl rfl rfl rfl rfl) ?_
     rintro _ _ rfl
     apply Stg.next [] rfl rfl
     refine Stg.go [] [8] rfl rfl QAll.nil ?_
     refine EAll.cons ?_ EAll.nil
     refine EOp.e rfl rfl rfl (EffX.storeSP (i := 1) (qv := [(_, [_, _, _]), (_, [_, _, _]), (_, [_, _, _])]) hT rfl rfl rfl rfl rfl rfl rfl rfl rfl rfl) ?_
     rintro _ _ rfl
     apply Stg.next [] rfl rfl
     refine Stg.fin [] rfl rfl QAll.nil ?_
     replace H := H.self
     exact AtE.then_n ((HK1 _ (b_4, b_3) _ H).pickP (ts := [8, 9, 0, 7]) (is := [0, 1]) rfl rfl (by decide) rfl)
    refine EAll.cons ?_ ?_
    ·
     refine EOp.e rfl rfl rfl (EffX.allocP (cs := [_, _, _]) hT rfl rfl H) ?_
     rintro _ _ ⟨b_5, _, rfl, rfl, he5, H⟩
     apply Stg.next [(8, _)] rfl rfl
     refine Stg.go [3] [4, 6] rfl rfl (QAll.cons (QOp.q rfl rfl (Quiet1.loadSP (i := 1) (l := [_, _, _]) hT rfl rfl rfl rfl rfl rfl rfl rfl) rfl rfl) QAll.nil) ?_
     refine EAll.cons ?_ ?_
     ·
      replace H := H.self
      refine EOp.e rfl rfl rfl (EffX.call (f := 27) (sh := fun h => ref02uForm _ h _) (H0 := H) rfl Tryz.call27 rfl (hl := fun w m hr hw => lift_ref02uForm _ w m hr _ hw)) ?_
      rintro _ _ ⟨v_3, h0u8, rfl, rfl, H⟩
      apply Stg.next [(16, _)] rfl rfl
      refine Stg.go [] [6] rfl rfl QAll.nil ?_
      refine EAll.cons ?_ EAll.nil
      refine EOp.e rfl rfl rfl (EffX.allocP (cs := [_, _, _]) hT rfl rfl H) ?_
      rintro _ _ ⟨b_6, _, rfl, rfl, he6, H⟩
      apply Stg.next [(9, _)] rfl rfl
      refine Stg.go [] [7] rfl rfl QAll.nil ?_
      refine EAll.cons ?_ EAll.nil
      refine EOp.e rfl rfl rfl (EffX.storeSP (i := 1) (qv := [(_, [_, _, _]), (_, [_, _, _]), (_, [_, _, _])]) hT rfl rfl rfl rfl rfl rfl rfl rfl rfl rfl) ?_
      rintro _ _ rfl
      apply Stg.next [] rfl rfl
      refine Stg.go [] [8] rfl rfl QAll.nil ?_
      refine EAll.cons ?_ EAll.nil
      refine EOp.e rfl rfl rfl (EffX.storeSP (i := 0) (qv := [(_, [_, _, _]), (_, [_, _, _]), (_, [_, _, _])]) hT rfl rfl rfl rfl rfl rfl rfl rfl rfl rfl) ?_
      rintro _ _ rfl
      apply Stg.next [] rfl rfl
      refine Stg.fin [] rfl rfl QAll.nil ?_
      replace H := H.self
      exact AtE.then_n ((HK1 _ (b_5, b_6) _ H).pickP (ts := [8, 9, 0, 7]) (is := [1, 0]) rfl rfl (by decide) rfl)
     refine EAll.cons ?_ EAll.nil
     refine EOp.e rfl rfl rfl (EffX.allocP (cs := [_, _, _]) hT rfl rfl H) ?_
     rintro _ _ ⟨b_7, _, rfl, rfl, he7, H⟩
     apply Stg.next [(9, _)] rfl rfl
     refine Stg.go [3] [4] rfl rfl (QAll.cons (QOp.q rfl rfl (Quiet1.loadSP (i := 2) (l := [_, _, _]) hT rfl rfl rfl rfl rfl rfl rfl rfl) rfl rfl) QAll.nil) ?_
     refine EAll.cons ?_ EAll.nil
     replace H := H.self
     refine EOp.e rfl rfl rfl (EffX.call (f := 27) (sh := fun h => ref02uForm _ h _) (H0 := H) rfl Tryz.call27 rfl (hl := fun w m hr hw => lift_ref02uForm _ w m hr _ hw)) ?_
     rintro _ _ ⟨v_4, h0u10, rfl, rfl, H⟩
     apply Stg.next [(16, _)] rfl rfl
     refine Stg.go [] [7] rfl rfl QAll.nil ?_
     refine EAll.cons ?_ EAll.nil
     refine EOp.e rfl rfl rfl (EffX.storeSP (i := 1) (qv := [(_, [_, _, _]), (_, [_, _, _]), (_, [_, _, _])]) hT rfl rfl rfl rfl rfl rfl rfl rfl rfl rfl) ?_
     rintro _ _ rfl
     apply Stg.next [] rfl rfl
     refine Stg.go [] [8] rfl rfl QAll.nil ?_
     refine EAll.cons ?_ EAll.nil
     refine EOp.e rfl rfl rfl (EffX.storeSP (i := 0) (qv := [(_, [_, _, _]), (_, [_, _, _]), (_, [_, _, _])]) hT rfl rfl rfl rfl rfl rfl rfl rfl rfl rfl) ?_
     rintro _ _ rfl
     apply Stg.next [] rfl rfl
     refine Stg.fin [] rfl rfl QAll.nil ?_
     replace H := H.self
     exact AtE.then_n ((HK1 _ (b_5, b_7) _ H).pickP (ts := [8, 9, 0, 7]) (is := [1, 0]) rfl rfl (by decide) rfl)
    refine EAll.cons ?_ EAll.nil
    refine EOp.e rfl rfl rfl (EffX.allocP (cs := [_, _, _]) hT rfl rfl H) ?_
    rintro _ _ ⟨b_8, _, rfl, rfl, he8, H⟩
    apply Stg.next [(9, _)] rfl rfl
    refine Stg.go [3] [4, 5] rfl rfl (QAll.cons (QOp.q rfl rfl (Quiet1.loadSP (i := 1) (l := [_, _, _]) hT rfl rfl rfl rfl rfl rfl rfl rfl) rfl rfl) QAll.nil) ?_
    refine EAll.cons ?_ ?_
    ·
     replace H := H.self
     refine EOp.e rfl rfl rfl (EffX.call (f := 27) (sh := fun h => ref02uForm _ h _) (H0 := H) rfl Tryz.call27 rfl (hl := fun w m hr hw => lift_ref02uForm _ w m hr _ hw)) ?_
     rintro _ _ ⟨v_5, h0u12, rfl, rfl, H⟩
     apply Stg.next [(16, _)] rfl rfl
     refine Stg.go [] [5] rfl rfl QAll.nil ?_
     refine EAll.cons ?_ EAll.nil
     refine EOp.e rfl rfl rfl (EffX.allocP (cs := [_, _, _]) hT rfl rfl H) ?_
     rintro _ _ ⟨b_9, _, rfl, rfl, he9, H⟩
     apply Stg.next [(8, _)] rfl rfl
     refine Stg.go [] [7] rfl rfl QAll.nil ?_
     refine EAll.cons ?_ EAll.nil
     refine EOp.e rfl rfl rfl (EffX.storeSP (i := 0) (qv := [(_, [_, _, _]), (_, [_, _, _]), (_, [_, _, _])]) hT rfl rfl rfl rfl rfl rfl rfl rfl rfl rfl) ?_
     rintro _ _ rfl
     apply Stg.next [] rfl rfl
     refine Stg.go [] [8] rfl rfl QAll.nil ?_
     refine EAll.cons ?_ EAll.nil
     refine EOp.e rfl rfl rfl (EffX.storeSP (i := 1) (qv := [(_, [_, _, _]), (_, [_, _, _]), (_, [_, _, _])]) hT rfl rfl rfl rfl rfl rfl rfl rfl rfl rfl) ?_
     rintro _ _ rfl
     apply Stg.next [] rfl rfl
     refine Stg.fin [] rfl rfl QAll.nil ?_
     replace H := H.self
     exact AtE.then_n ((HK1 _ (b_9, b_8) _ H).pickP (ts := [8, 9, 0, 7]) (is := [0, 1]) rfl rfl (by decide) rfl)
    refine EAll.cons ?_ EAll.nil
    refine EOp.e rfl rfl rfl (EffX.allocP (cs := [_, _, _]) hT rfl rfl H) ?_
    rintro _ _ ⟨b_10, _, rfl, rfl, he10, H⟩
    apply Stg.next [(8, _)] rfl rfl
    refine Stg.go [3] [4] rfl rfl (QAll.cons (QOp.q rfl rfl (Quiet1.loadSP (i := 2) (l := [_, _, _]) hT rfl rfl rfl rfl rfl rfl rfl rfl) rfl rfl) QAll.nil) ?_
    refine EAll.cons ?_ EAll.nil
    replace H := H.self
    refine EOp.e rfl rfl rfl (EffX.call (f := 27) (sh := fun h => ref02uForm _ h _) (H0 := H) rfl Tryz.call27 rfl (hl := fun w m hr hw => lift_ref02uForm _ w m hr _ hw)) ?_
    rintro _ _ ⟨v_6, h0u14, rfl, rfl, H⟩
    apply Stg.next [(16, _)] rfl rfl
    refine Stg.go [] [7] rfl rfl QAll.nil ?_
    refine EAll.cons ?_ EAll.nil
    refine EOp.e rfl rfl rfl (EffX.storeSP (i := 0) (qv := [(_, [_, _, _]), (_, [_, _, _]), (_, [_, _, _])]) hT rfl rfl rfl rfl rfl rfl rfl rfl rfl rfl) ?_
    rintro _ _ rfl
    apply Stg.next [] rfl rfl
    refine Stg.go [] [8] rfl rfl QAll.nil ?_
    refine EAll.cons ?_ EAll.nil
    refine EOp.e rfl rfl rfl (EffX.storeSP (i := 1) (qv := [(_, [_, _, _]), (_, [_, _, _]), (_, [_, _, _])]) hT rfl rfl rfl rfl rfl rfl rfl rfl rfl rfl) ?_
    rintro _ _ rfl
    apply Stg.next [] rfl rfl
    refine Stg.fin [] rfl rfl QAll.nil ?_
    replace H := H.self
    exact AtE.then_n ((HK1 _ (b_10, b_8) _ H).pickP (ts := [8, 9, 0, 7]) (is := [0, 1]) rfl rfl (by decide) rfl)
   refine EAll.cons ?_ ?_
   ·
    refine EOp.e rfl rfl rfl (EffX.allocP (cs := [_, _, _]) hT rfl rfl H) ?_
    rintro _ _ ⟨b_11, _, rfl, rfl, he11, H⟩
    apply Stg.next [(8, _)] rfl rfl
    refine Stg.go [0, 1, 3] [2, 6] rfl rfl (QAll.cons (QOp.p hT rfl rfl rfl rfl rfl) (QAll.cons (QOp.p hT rfl rfl rfl rfl rfl) (QAll.cons (QOp.q rfl rfl (Quiet1.loadSP (i := 1) (l := [_, _, _]) hT rfl rfl rfl rfl rfl rfl rfl rfl) rfl rfl) QAll.nil))) ?_
    refine EAll.cons ?_ ?_
    ·
     replace H := H.self
     refine EOp.e rfl rfl rfl (EffX.callF (bs := []) (cs := [_, _]) (f := 9) (sh := fun h => law02uRatioTold_c1 _ _ _ h _) (H0 := H) rfl rfl Tryz.call9 rfl (hl := fun w m hr hw => lift_law02uRatioTold_c1 _ _ _ w m hr _ hw)) ?_
     rintro _ _ ⟨v_7, h0u16, rfl, rfl, H⟩
     apply Stg.next [(14, _)] rfl rfl
     refine Stg.go [3] [4, 6] rfl rfl (QAll.cons (QOp.q rfl rfl (Quiet1.loadSP (i := 1) (l := [_, _, _]) hT rfl rfl rfl rfl rfl rfl rfl rfl) rfl rfl) QAll.nil) ?_
     refine EAll.cons ?_ ?_
     ·
      replace H := H.self
      refine EOp.e rfl rfl rfl (EffX.call (f := 27) (sh := fun h => ref02uForm _ h _) (H0 := H) rfl Tryz.call27 rfl (hl := fun w m hr hw => lift_ref02uForm _ w m hr _ hw)) ?_
      rintro _ _ ⟨v_8, h0u18, rfl, rfl, H⟩
      apply Stg.next [(16, _)] rfl rfl
      refine Stg.go [] [6] rfl rfl QAll.nil ?_
      refine EAll.cons ?_ EAll.nil
      refine EOp.e rfl rfl rfl (EffX.allocP (cs := [_, _, _]) hT rfl rfl H) ?_
      rintro _ _ ⟨b_12, _, rfl, rfl, he12, H⟩
      apply Stg.next [(9, _)] rfl rfl
      refine Stg.go [] [7] rfl rfl QAll.nil ?_
      refine EAll.cons ?_ EAll.nil
      refine EOp.e rfl rfl rfl (EffX.storeSP (i := 1) (qv := [(_, [_, _, _]), (_, [_, _, _]), (_, [_, _, _])]) hT rfl rfl rfl rfl rfl rfl rfl rfl rfl rfl) ?_
      rintro _ _ rfl
      apply Stg.next [] rfl rfl
      refine Stg.go [] [8] rfl rfl QAll.nil ?_
      refine EAll.cons ?_ EAll.nil
      refine EOp.e rfl rfl rfl (EffX.storeSP (i := 0) (qv := [(_, [_, _, _]), (_, [_, _, _]), (_, [_, _, _])]) hT rfl rfl rfl rfl rfl rfl rfl rfl rfl rfl) ?_
      rintro _ _ rfl
      apply Stg.next [] rfl rfl
      refine Stg.fin [] rfl rfl QAll.nil ?_
      replace H := H.self
      exact AtE.then_n ((HK1 _ (b_11, b_12) _ H).pickP (ts := [8, 9, 0, 7]) (is := [1, 0]) rfl rfl (by decide) rfl)
     refine EAll.cons ?_ EAll.nil
     refine EOp.e rfl rfl rfl (EffX.allocP (cs := [_, _, _]) hT rfl rfl H) ?_
     rintro _ _ ⟨b_13, _, rfl, rfl, he13, H⟩
     apply Stg.next [(9, _)] rfl rfl
     refine Stg.go [3] [4] rfl rfl (QAll.cons (QOp.q rfl rfl (Quiet1.loadSP (i := 2) (l := [_, _, _]) hT rfl rfl rfl rfl rfl rfl rfl rfl) rfl rfl) QAll.nil) ?_
     refine EAll.cons ?_ EAll.nil
     replace H := H.self
     refine EOp.e rfl rfl rfl (EffX.call (f := 27) (sh := fun h => ref02uForm _ h _) (H0 := H) rfl Tryz.call27 rfl (hl := fun w m hr hw => lift_ref02uForm _ w m hr _ hw)) ?_
     rintro _ _ ⟨v_9, h0u20, rfl, rfl, H⟩
     apply Stg.next [(16, _)] rfl rfl
     refine Stg.go [] [7] rfl rfl QAll.nil ?_
     refine EAll.cons ?_ EAll.nil
     refine EOp.e rfl rfl rfl (EffX.storeSP (i := 1) (qv := [(_, [_, _, _]), (_, [_, _, _]), (_, [_, _, _])]) hT rfl rfl rfl rfl rfl rfl rfl rfl rfl rfl) ?_
     rintro _ _ rfl
     apply Stg.next [] rfl rfl
     refine Stg.go [] [8] rfl rfl QAll.nil ?_
     refine EAll.cons ?_ EAll.nil
     refine EOp.e rfl rfl rfl (EffX.storeSP (i := 0) (qv := [(_, [_, _, _]), (_, [_, _, _]), (_, [_, _, _])]) hT rfl rfl rfl rfl rfl rfl rfl rfl rfl rfl) ?_
     rintro _ _ rfl
     apply Stg.next [] rfl rfl
     refine Stg.fin [] rfl rfl QAll.nil ?_
     replace H := H.self
     exact AtE.then_n ((HK1 _ (b_11, b_13) _ H).pickP (ts := [8, 9, 0, 7]) (is := [1, 0]) rfl rfl (by decide) rfl)
    refine EAll.cons ?_ EAll.nil
    refine EOp.e rfl rfl rfl (EffX.allocP (cs := [_, _, _]) hT rfl rfl H) ?_
    rintro _ _ ⟨b_14, _, rfl, rfl, he14, H⟩
    apply Stg.next [(9, _)] rfl rfl
    refine Stg.go [0, 1, 3] [2] rfl rfl (QAll.cons (QOp.p hT rfl rfl rfl rfl rfl) (QAll.cons (QOp.p hT rfl rfl rfl rfl rfl) (QAll.cons (QOp.q rfl rfl (Quiet1.loadSP (i := 2) (l := [_, _, _]) hT rfl rfl rfl rfl rfl rfl rfl rfl) rfl rfl) QAll.nil))) ?_
    refine EAll.cons ?_ EAll.nil
    replace H := H.self
    refine EOp.e rfl rfl rfl (EffX.callF (bs := []) (cs := [_, _]) (f := 9) (sh := fun h => law02uRatioTold_c1 _ _ _ h _) (H0 := H) rfl rfl Tryz.call9 rfl (hl := fun w m hr hw => lift_law02uRatioTold_c1 _ _ _ w m hr _ hw)) ?_
    rintro _ _ ⟨v_10, h0u22, rfl, rfl, H⟩
    apply Stg.next [(14, _)] rfl rfl
    refine Stg.go [3] [4] rfl rfl (QAll.cons (QOp.q rfl rfl (Quiet1.loadSP (i := 2) (l := [_, _, _]) hT rfl rfl rfl rfl rfl rfl rfl rfl) rfl rfl) QAll.nil) ?_
    refine EAll.cons ?_ EAll.nil
    replace H := H.self
    refine EOp.e rfl rfl rfl (EffX.call (f := 27) (sh := fun h => ref02uForm _ h _) (H0 := H) rfl Tryz.call27 rfl (hl := fun w m hr hw => lift_ref02uForm _ w m hr _ hw)) ?_
    rintro _ _ ⟨v_11, h0u24, rfl, rfl, H⟩
    apply Stg.next [(16, _)] rfl rfl
    refine Stg.go [] [7] rfl rfl QAll.nil ?_
    refine EAll.cons ?_ EAll.nil
    refine EOp.e rfl rfl rfl (EffX.storeSP (i := 1) (qv := [(_, [_, _, _]), (_, [_, _, _]), (_, [_, _, _])]) hT rfl rfl rfl rfl rfl rfl rfl rfl rfl rfl) ?_
    rintro _ _ rfl
    apply Stg.next [] rfl rfl
    refine Stg.go [] [8] rfl rfl QAll.nil ?_
    refine EAll.cons ?_ EAll.nil
    refine EOp.e rfl rfl rfl (EffX.storeSP (i := 0) (qv := [(_, [_, _, _]), (_, [_, _, _]), (_, [_, _, _])]) hT rfl rfl rfl rfl rfl rfl rfl rfl rfl rfl) ?_
    rintro _ _ rfl
    apply Stg.next [] rfl rfl
    refine Stg.fin [] rfl rfl QAll.nil ?_
    replace H := H.self
    exact AtE.then_n ((HK1 _ (b_11, b_14) _ H).pickP (ts := [8, 9, 0, 7]) (is := [1, 0]) rfl rfl (by decide) rfl)
   refine EAll.cons ?_ EAll.nil
   refine EOp.e rfl rfl rfl (EffX.allocP (cs := [_, _, _]) hT rfl rfl H) ?_
   rintro _ _ ⟨b_15, _, rfl, rfl, he15, H⟩
   apply Stg.next [(9, _)] rfl rfl
   refine Stg.go [0, 1, 3] [2, 5] rfl rfl (QAll.cons (QOp.p hT rfl rfl rfl rfl rfl) (QAll.cons (QOp.p hT rfl rfl rfl rfl rfl) (QAll.cons (QOp.q rfl rfl (Quiet1.loadSP (i := 1) (l := [_, _, _]) hT rfl rfl rfl rfl rfl rfl rfl rfl) rfl rfl) QAll.nil))) ?_
   refine EAll.cons ?_ ?_
   ·
    replace H := H.self
    refine EOp.e rfl rfl rfl (EffX.callF (bs := []) (cs := [_, _]) (f := 9) (sh := fun h => law02uRatioTold_c1 _ _ _ h _) (H0 := H) rfl rfl Tryz.call9 rfl (hl := fun w m hr hw => lift_law02uRatioTold_c1 _ _ _ w m hr _ hw)) ?_
    rintro _ _ ⟨v_12, h0u26, rfl, rfl, H⟩
    apply Stg.next [(14, _)] rfl rfl
    refine Stg.go [3] [4, 5] rfl rfl (QAll.cons (QOp.q rfl rfl (Quiet1.loadSP (i := 1) (l := [_, _, _]) hT rfl rfl rfl rfl rfl rfl rfl rfl) rfl rfl) QAll.nil) ?_
    refine EAll.cons ?_ ?_
    ·
     replace H := H.self
     refine EOp.e rfl rfl rfl (EffX.call (f := 27) (sh := fun h => ref02uForm _ h _) (H0 := H) rfl Tryz.call27 rfl (hl := fun w m hr hw => lift_ref02uForm _ w m hr _ hw)) ?_
     rintro _ _ ⟨v_13, h0u28, rfl, rfl, H⟩
     apply Stg.next [(16, _)] rfl rfl
     refine Stg.go [] [5] rfl rfl QAll.nil ?_
     refine EAll.cons ?_ EAll.nil
     refine EOp.e rfl rfl rfl (EffX.allocP (cs := [_, _, _]) hT rfl rfl H) ?_
     rintro _ _ ⟨b_16, _, rfl, rfl, he16, H⟩
     apply Stg.next [(8, _)] rfl rfl
     refine Stg.go [] [7] rfl rfl QAll.nil ?_
     refine EAll.cons ?_ EAll.nil
     refine EOp.e rfl rfl rfl (EffX.storeSP (i := 0) (qv := [(_, [_, _, _]), (_, [_, _, _]), (_, [_, _, _])]) hT rfl rfl rfl rfl rfl rfl rfl rfl rfl rfl) ?_
     rintro _ _ rfl
     apply Stg.next [] rfl rfl
     refine Stg.go [] [8] rfl rfl QAll.nil ?_
     refine EAll.cons ?_ EAll.nil
     refine EOp.e rfl rfl rfl (EffX.storeSP (i := 1) (qv := [(_, [_, _, _]), (_, [_, _, _]), (_, [_, _, _])]) hT rfl rfl rfl rfl rfl rfl rfl rfl rfl rfl) ?_
     rintro _ _ rfl
     apply Stg.next [] rfl rfl
     refine Stg.fin [] rfl rfl QAll.nil ?_
     replace H := H.self
     exact AtE.then_n ((HK1 _ (b_16, b_15) _ H).pickP (ts := [8, 9, 0, 7]) (is := [0, 1]) rfl rfl (by decide) rfl)
    refine EAll.cons ?_ EAll.nil
    refine EOp.e rfl rfl rfl (EffX.allocP (cs := [_, _, _]) hT rfl rfl H) ?_
    rintro _ _ ⟨b_17, _, rfl, rfl, he17, H⟩
    apply Stg.next [(8, _)] rfl rfl
    refine Stg.go [3] [4] rfl rfl (QAll.cons (QOp.q rfl rfl (Quiet1.loadSP (i := 2) (l := [_, _, _]) hT rfl rfl rfl rfl rfl rfl rfl rfl) rfl rfl) QAll.nil) ?_
    refine EAll.cons ?_ EAll.nil
    replace H := H.self
    refine EOp.e rfl rfl rfl (EffX.call (f := 27) (sh := fun h => ref02uForm _ h _) (H0 := H) rfl Tryz.call27 rfl (hl := fun w m hr hw => lift_ref02uForm _ w m hr _ hw)) ?_
    rintro _ _ ⟨v_14, h0u30, rfl, rfl, H⟩
    apply Stg.next [(16, _)] rfl rfl
    refine Stg.go [] [7] rfl rfl QAll.nil ?_
    refine EAll.cons ?_ EAll.nil
    refine EOp.e rfl rfl rfl (EffX.storeSP (i := 0) (qv := [(_, [_, _, _]), (_, [_, _, _]), (_, [_, _, _])]) hT rfl rfl rfl rfl rfl rfl rfl rfl rfl rfl) ?_
    rintro _ _ rfl
    apply Stg.next [] rfl rfl
    refine Stg.go [] [8] rfl rfl QAll.nil ?_
    refine EAll.cons ?_ EAll.nil
    refine EOp.e rfl rfl rfl (EffX.storeSP (i := 1) (qv := [(_, [_, _, _]), (_, [_, _, _]), (_, [_, _, _])]) hT rfl rfl rfl rfl rfl rfl rfl rfl rfl rfl) ?_
    rintro _ _ rfl
    apply Stg.next [] rfl rfl
    refine Stg.fin [] rfl rfl QAll.nil ?_
    replace H := H.self
    exact AtE.then_n ((HK1 _ (b_17, b_15) _ H).pickP (ts := [8, 9, 0, 7]) (is := [0, 1]) rfl rfl (by decide) rfl)
   refine EAll.cons ?_ EAll.nil
   refine EOp.e rfl rfl rfl (EffX.allocP (cs := [_, _, _]) hT rfl rfl H) ?_
   rintro _ _ ⟨b_18, _, rfl, rfl, he18, H⟩
   apply Stg.next [(8, _)] rfl rfl
   refine Stg.go [0, 1, 3] [2] rfl rfl (QAll.cons (QOp.p hT rfl rfl rfl rfl rfl) (QAll.cons (QOp.p hT rfl rfl rfl rfl rfl) (QAll.cons (QOp.q rfl rfl (Quiet1.loadSP (i := 2) (l := [_, _, _]) hT rfl rfl rfl rfl rfl rfl rfl rfl) rfl rfl) QAll.nil))) ?_
   refine EAll.cons ?_ EAll.nil
   replace H := H.self
   refine EOp.e rfl rfl rfl (EffX.callF (bs := []) (cs := [_, _]) (f := 9) (sh := fun h => law02uRatioTold_c1 _ _ _ h _) (H0 := H) rfl rfl Tryz.call9 rfl (hl := fun w m hr hw => lift_law02uRatioTold_c1 _ _ _ w m hr _ hw)) ?_
   rintro _ _ ⟨v_15, h0u32, rfl, rfl, H⟩
   apply Stg.next [(14, _)] rfl rfl
   refine Stg.go [3] [4] rfl rfl (QAll.cons (QOp.q rfl rfl (Quiet1.loadSP (i := 2) (l := [_, _, _]) hT rfl rfl rfl rfl rfl rfl rfl rfl) rfl rfl) QAll.nil) ?_
   refine EAll.cons ?_ EAll.nil
   replace H := H.self
   refine EOp.e rfl rfl rfl (EffX.call (f := 27) (sh := fun h => ref02uForm _ h _) (H0 := H) rfl Tryz.call27 rfl (hl := fun w m hr hw => lift_ref02uForm _ w m hr _ hw)) ?_
   rintro _ _ ⟨v_16, h0u34, rfl, rfl, H⟩
   apply Stg.next [(16, _)] rfl rfl
   refine Stg.go [] [7] rfl rfl QAll.nil ?_
   refine EAll.cons ?_ EAll.nil
   refine EOp.e rfl rfl rfl (EffX.storeSP (i := 0) (qv := [(_, [_, _, _]), (_, [_, _, _]), (_, [_, _, _])]) hT rfl rfl rfl rfl rfl rfl rfl rfl rfl rfl) ?_
   rintro _ _ rfl
   apply Stg.next [] rfl rfl
   refine Stg.go [] [8] rfl rfl QAll.nil ?_
   refine EAll.cons ?_ EAll.nil
   refine EOp.e rfl rfl rfl (EffX.storeSP (i := 1) (qv := [(_, [_, _, _]), (_, [_, _, _]), (_, [_, _, _])]) hT rfl rfl rfl rfl rfl rfl rfl rfl rfl rfl) ?_
   rintro _ _ rfl
   apply Stg.next [] rfl rfl
   refine Stg.fin [] rfl rfl QAll.nil ?_
   replace H := H.self
   exact AtE.then_n ((HK1 _ (b_18, b_15) _ H).pickP (ts := [8, 9, 0, 7]) (is := [0, 1]) rfl rfl (by decide) rfl)

theorem lift_law02utold__law02uRatioTold_c2 (limbs : Int) (do_c : Addr) (do_c_1 : Addr) (want : Bool × Sl × Sl) (w : World) (m : Heap) (hr : Rel ⟨m, []⟩ w.heap) (S : Bool → Heap → Prop) (H : law02utold__law02uRatioTold_c2 limbs do_c do_c_1 want m S) :
    Calls Tryz.prog 8 #[Value.int .i64 limbs, Value.func (.func 12) #[] #[Value.pointer (some do_c), Value.pointer (some do_c_1)], Value.agg (C_bool_sl_sl want).toArray] w (Post ⟨w, m⟩ Value.bool S) := by
  refine Calls.lift (args := [Value.int .i64 limbs, Value.func (.func 12) #[] #[Value.pointer (some do_c), Value.pointer (some do_c_1)], Value.agg (C_bool_sl_sl want).toArray]) Tryz.func8 rfl Tryz.ntmps8 (Nat.le_of_ble_eq_true rfl) hr (law02utold__law02uRatioTold_c2 limbs do_c do_c_1 want m S) H (fun H => ?_)
  refine AtC.pick (ts := [0, 1, 2]) rfl ?_
  unfold law02utold__law02uRatioTold_c2 at H
  refine AtC.seqR ?_
  refine AtL.e rfl (EffX.boxP (cs := [_, _, _]) rfl rfl rfl H) ?_
  rintro _ _ ⟨b, _, rfl, rfl, _, H⟩
  replace H := H.self
  refine AtL.pures hT 1 _ _ _ _ rfl ?_
  refine AtL.nil ?_
  refine AtE.then_n (AtE.go ?_)
  refine AtC.seqR ?_
  refine AtL.pures hT 1 _ _ _ _ rfl ?_
  refine AtL.e rfl (EffX.call (f := 33) (sh := fun h => nat_New _ h _) (H0 := H) rfl Tryz.call33 rfl (hl := fun w m hr hw => lift_nat_New _ w m hr _ hw)) ?_
  rintro _ _ ⟨v, h0u1, rfl, rfl, H⟩
  refine AtL.pures hT 1 _ _ _ _ rfl ?_
  refine AtL.nil ?_
  refine AtE.then_n (AtE.go ?_)
  refine AtC.joinSeq (β := Nat × Nat) (fun (t0 : Bool × Sl × Sl × Bool × Sl × Sl) (bb : Nat × Nat) => [(8, Value.pointer (some ⟨bb.1, 0, none⟩)), (9, Value.pointer (some ⟨bb.2, 0, none⟩))]) (fun (t0 : Bool × Sl × Sl × Bool × Sl × Sl) (bb : Nat × Nat) => [(bb.1, [Value.bool t0.1, Sl.toV t0.2.1, Sl.toV t0.2.2.1]), (bb.2, [Value.bool t0.2.2.2.1, Sl.toV t0.2.2.2.2.1, Sl.toV t0.2.2.2.2.2])]) [0, 7] [] H (by exact rfl) (by exact rfl) (fun t0 bb h0u2 H => ?_) (fun J1 H HK1 => ?_)
  ·
   refine AtC.seq ?_
   refine AtC.seqR ?_
   refine AtL.q rfl (Quiet1.loadSP (i := 1) (l := [_, _, _]) hT rfl rfl rfl rfl rfl rfl rfl rfl) ?_
   refine AtL.pures hT 2 _ _ _ _ rfl ?_
   refine AtL.e rfl (EffX.call (f := 35) (sh := fun h => ref02uFits _ _ h _) (H0 := H) rfl Tryz.call35 rfl (hl := fun w m hr hw => lift_ref02uFits _ _ w m hr _ hw)) ?_
   rintro _ _ ⟨v_17, h0u36, rfl, rfl, H⟩
   refine AtL.pures hT 1 _ _ _ _ rfl ?_
   refine AtL.nil ?_
   refine AtE.then_n (AtE.go ?_)
   refine AtC.condB H rfl (fun H => ?_) (fun H => ?_)
   ·
    refine AtC.joinSeq (β := Unit) (fun (t0u1 : Bool) (bb_1 : Unit) => [(6, Value.bool t0u1)]) (fun (t0u1 : Bool) (bb_1 : Unit) => []) [] [] H (by exact rfl) (by exact rfl) (fun t0u1 bb_1 h0u37 H => ?_) (fun J20 H HK20 => ?_)
    ·
     refine AtC.ret ?_
     refine AtE.then_r ?_
     exact AtE.retN (rs := [.tmp 6]) rfl (ResAll.cons (ResAt.tmp rfl) ResAll.nil) rfl H
    ·
     refine AtC.region ?_
     refine AtL.pures hT 1 _ _ _ _ rfl ?_
     refine AtL.e rfl (EffX.call (f := 36) (sh := fun h => nat_Bench_Over _ h _) (H0 := H) rfl Tryz.call36 rfl (hl := fun w m hr hw => lift_nat_Bench_Over _ w m hr _ hw)) ?_
     rintro _ _ ⟨v_18, h0u38, rfl, rfl, H⟩
     refine AtL.pures hT 1 _ _ _ _ rfl ?_
     refine AtL.splitB (t := 24) H rfl (fun H => ?_) (fun H => ?_)
     ·
      refine AtL.yes rfl rfl rfl ?_
      refine AtL.q rfl (Quiet1.loadSP (i := 0) (l := [_, _, _]) hT rfl rfl rfl rfl rfl rfl rfl rfl) ?_
      refine AtL.yes rfl rfl rfl ?_
      refine AtL.q rfl (Quiet1.build (cs := [_, _, _]) hT rfl rfl rfl rfl rfl rfl) ?_
      refine AtL.yes rfl rfl rfl ?_
      refine AtL.e rfl (EffX.call (f := 25) (sh := fun h => ref02uSame _ _ h _) (H0 := H) rfl Tryz.call25 rfl (hl := fun w m hr hw => lift_ref02uSame _ _ w m hr _ hw)) ?_
      rintro _ _ ⟨v_19, h0u39, rfl, rfl, H⟩
      refine AtL.pures hT 2 _ _ _ _ rfl ?_
      refine AtL.nil ?_
      exact AtE.then_n ((HK20 _ () _ H).pickP (ts := [6]) (is := []) rfl rfl (by decide) rfl)
     ·
      refine AtL.noF rfl rfl rfl (by decide) rfl ?_
      refine AtL.noF rfl rfl rfl (by decide) rfl ?_
      refine AtL.noF rfl rfl rfl (by decide) rfl ?_
      refine AtL.pures hT 2 _ _ _ _ rfl ?_
      refine AtL.nil ?_
      exact AtE.then_n ((HK20 _ () _ H).pickP (ts := [6]) (is := []) rfl rfl (by decide) rfl)
   ·
    refine AtC.skip ?_
    refine AtE.then_n (AtE.go ?_)
    refine AtC.joinSeq (β := Unit) (fun (t0u2 : Bool) (bb_2 : Unit) => [(6, Value.bool t0u2)]) (fun (t0u2 : Bool) (bb_2 : Unit) => []) [] [] H (by exact rfl) (by exact rfl) (fun t0u2 bb_2 h0u40 H => ?_) (fun J21 H HK21 => ?_)
    ·
     refine AtC.ret ?_
     exact AtE.retN (rs := [.tmp 6]) rfl (ResAll.cons (ResAt.tmp rfl) ResAll.nil) rfl H
    ·
     refine AtC.region ?_
     refine AtL.pures hT 1 _ _ _ _ rfl ?_
     refine AtL.e rfl (EffX.call (f := 36) (sh := fun h => nat_Bench_Over _ h _) (H0 := H) rfl Tryz.call36 rfl (hl := fun w m hr hw => lift_nat_Bench_Over _ w m hr _ hw)) ?_
     rintro _ _ ⟨v_20, h0u41, rfl, rfl, H⟩
     refine AtL.pures hT 2 _ _ _ _ rfl ?_
     refine AtL.splitB (t := 32) H rfl (fun H => ?_) (fun H => ?_)
     ·
      refine AtL.yes rfl rfl rfl ?_
      refine AtL.q rfl (Quiet1.loadSP (i := 0) (l := [_, _, _]) hT rfl rfl rfl rfl rfl rfl rfl rfl) ?_
      refine AtL.yes rfl rfl rfl ?_
      refine AtL.q rfl (Quiet1.loadSP (i := 1) (l := [_, _, _]) hT rfl rfl rfl rfl rfl rfl rfl rfl) ?_
      refine AtL.yes rfl rfl rfl ?_
      refine AtL.e rfl (EffX.call (f := 25) (sh := fun h => ref02uSame _ _ h _) (H0 := H) rfl Tryz.call25 rfl (hl := fun w m hr hw => lift_ref02uSame _ _ w m hr _ hw)) ?_
      rintro _ _ ⟨v_21, h0u42, rfl, rfl, H⟩
      refine AtL.pures hT 2 _ _ _ _ rfl ?_
      refine AtL.nil ?_
      exact AtE.then_n ((HK21 _ () _ H).pickP (ts := [6]) (is := []) rfl rfl (by decide) rfl)
     ·
      refine AtL.noF rfl rfl rfl (by decide) rfl ?_
      refine AtL.noF rfl rfl rfl (by decide) rfl ?_
      refine AtL.noF rfl rfl rfl (by decide) rfl ?_
      refine AtL.pures hT 2 _ _ _ _ rfl ?_
      refine AtL.nil ?_
      exact AtE.then_n ((HK21 _ () _ H).pickP (ts := [6]) (is := []) rfl rfl (by decide) rfl)
  ·
   apply AtC.stages [2, 4, 5, 6, 7, 8] [[], [], [], [], [2], [], [], [2, 4, 5, 6], [2, 4, 5, 6, 7]] [[], [], [0, 1], [], [0, 1, 2, 3], [], [], [0, 1, 2, 3, 4, 5, 6], [0, 1, 2, 3, 4, 5, 6, 7]] hmix (by kernel_rfl) [(12, _), (13, _), (15, _)] rfl 6 rfl
   refine Stg.go [0, 1, 3] [2, 5, 6] rfl rfl (QAll.cons (QOp.p hT rfl rfl rfl rfl rfl) (QAll.cons (QOp.p hT rfl rfl rfl rfl rfl) (QAll.cons (QOp.q rfl rfl (Quiet1.loadSP (i := 0) (l := [_, _, _]) hT rfl rfl rfl rfl rfl rfl rfl rfl) rfl rfl) QAll.nil))) ?_
   refine EAll.cons ?_ ?_
   ·
    replace H := H.self
    refine EOp.e rfl rfl rfl (EffX.callF (bs := []) (cs := [_, _]) (f := 12) (sh := fun h => law02uRatioTold_c2 _ _ _ h _) (H0 := H) rfl rfl Tryz.call12 rfl (hl := fun w m hr hw => lift_law02uRatioTold_c2 _ _ _ w m hr _ hw)) ?_
    rintro _ _ ⟨v_1, h0u4, rfl, rfl, H⟩
    apply Stg.next [(14, _)] rfl rfl
    refine Stg.go [3] [4, 5, 6] rfl rfl (QAll.cons (QOp.q rfl rfl (Quiet1.loadSP (i := 0) (l := [_, _, _]) hT rfl rfl rfl rfl rfl rfl rfl rfl) rfl rfl) QAll.nil) ?_
    refine EAll.cons ?_ ?_
    ·
     replace H := H.self
     refine EOp.e rfl rfl rfl (EffX.call (f := 27) (sh := fun h => ref02uForm _ h _) (H0 := H) rfl Tryz.call27 rfl (hl := fun w m hr hw => lift_ref02uForm _ w m hr _ hw)) ?_
     rintro _ _ ⟨v_2, h0u6, rfl, rfl, H⟩
     apply Stg.next [(16, _)] rfl rfl
     refine Stg.go [] [5, 6] rfl rfl QAll.nil ?_
     refine EAll.cons ?_ ?_
     ·
      refine EOp.e rfl rfl rfl (EffX.allocP (cs := [_, _, _]) hT rfl rfl H) ?_
      rintro _ _ ⟨b_1, _, rfl, rfl, he1, H⟩
      apply Stg.next [(8, _)] rfl rfl
      refine Stg.go [] [6] rfl rfl QAll.nil ?_
      refine EAll.cons ?_ EAll.nil
      refine EOp.e rfl rfl rfl (EffX.allocP (cs := [_, _, _]) hT rfl rfl H) ?_
      rintro _ _ ⟨b_2, _, rfl, rfl, he2, H⟩
      apply Stg.next [(9, _)] rfl rfl
      refine Stg.go [] [7] rfl rfl QAll.nil ?_
      refine EAll.cons ?_ EAll.nil
      refine EOp.e rfl rfl rfl (EffX.storeSP (i := 1) (qv := [(_, [_, _, _]), (_, [_, _, _]), (_, [_, _, _])]) hT rfl rfl rfl rfl rfl rfl rfl rfl rfl rfl) ?_
      rintro _ _ rfl
      apply Stg.next [] rfl rfl
      refine Stg.go [] [8] rfl rfl QAll.nil ?_
      refine EAll.cons ?_ EAll.nil
      refine EOp.e rfl rfl rfl (EffX.storeSP (i := 0) (qv := [(_, [_, _, _]), (_, [_, _, _]), (_, [_, _, _])]) hT rfl rfl rfl rfl rfl rfl rfl rfl rfl rfl) ?_
      rintro _ _ rfl
      apply Stg.next [] rfl rfl
      refine Stg.fin [] rfl rfl QAll.nil ?_
      replace H := H.self
      exact AtE.then_n ((HK1 _ (b_1, b_2) _ H).pickP (ts := [8, 9, 0, 7]) (is := [1, 0]) rfl rfl (by decide) rfl)
     refine EAll.cons ?_ EAll.nil
     refine EOp.e rfl rfl rfl (EffX.allocP (cs := [_, _, _]) hT rfl rfl H) ?_
     rintro _ _ ⟨b_3, _, rfl, rfl, he3, H⟩
     apply Stg.next [(9, _)] rfl rfl
     refine Stg.go [] [5] rfl rfl QAll.nil ?_
     refine EAll.cons ?_ EAll.nil
     refine EOp.e rfl rfl rfl (EffX.allocP (cs := [_, _, _]) hT rfl rfl H) ?_
     rintro _ _ ⟨b_4, _, rfl, rfl, he4, H⟩
     apply Stg.next [(8, _)] rfl rfl
     refine Stg.go [] [7] rfl rfl QAll.nil ?_
     refine EAll.cons ?_ EAll.nil
     refine EOp.e rfl rfl rfl (EffX.storeSP (i := 0) (qv := [(_, [_, _, _]), (_, [_, _, _]), (_, [_, _, _])]) hT rfl rfl rfl rfl rfl rfl rfl rfl rfl rfl) ?_
     rintro _ _ rfl
     apply Stg.next [] rfl rfl
     refine Stg.go [] [8] rfl rfl QAll.nil ?_
     refine EAll.cons ?_ EAll.nil
     refine EOp.e rfl rfl rfl (EffX.storeSP (i := 1) (qv := [(_, [_, _, _]), (_, [_, _, _]), (_, [_, _, _])]) hT rfl rfl rfl rfl rfl rfl rfl rfl rfl rfl) ?_
     rintro _ _ rfl
     apply Stg.next [] rfl rfl
     refine Stg.fin [] rfl rfl QAll.nil ?_
     replace H := H.self
     exact AtE.then_n ((HK1 _ (b_4, b_3) _ H).pickP (ts := [8, 9, 0, 7]) (is := [0, 1]) rfl rfl (by decide) rfl)
    refine EAll.cons ?_ ?_
    ·
     refine EOp.e rfl rfl rfl (EffX.allocP (cs := [_, _, _]) hT rfl rfl H) ?_
     rintro _ _ ⟨b_5, _, rfl, rfl, he5, H⟩
     apply Stg.next [(8, _)] rfl rfl
     refine Stg.go [3] [4, 6] rfl rfl (QAll.cons (QOp.q rfl rfl (Quiet1.loadSP (i := 1) (l := [_, _, _]) hT rfl rfl rfl rfl rfl rfl rfl rfl) rfl rfl) QAll.nil) ?_
     refine EAll.cons ?_ ?_
     ·
      replace H := H.self
      refine EOp.e rfl rfl rfl (EffX.call (f := 27) (sh := fun h => ref02uForm _ h _) (H0 := H) rfl Tryz.call27 rfl (hl := fun w m hr hw => lift_ref02uForm _ w m hr _ hw)) ?_
      rintro _ _ ⟨v_3, h0u8, rfl, rfl, H⟩
      apply Stg.next [(16, _)] rfl rfl
      refine Stg.go [] [6] rfl rfl QAll.nil ?_
      refine EAll.cons ?_ EAll.nil
      refine EOp.e rfl rfl rfl (EffX.allocP (cs := [_, _, _]) hT rfl rfl H) ?_
      rintro _ _ ⟨b_6, _, rfl, rfl, he6, H⟩
      apply Stg.next [(9, _)] rfl rfl
      refine Stg.go [] [7] rfl rfl QAll.nil ?_
      refine EAll.cons ?_ EAll.nil
      refine EOp.e rfl rfl rfl (EffX.storeSP (i := 1) (qv := [(_, [_, _, _]), (_, [_, _, _]), (_, [_, _, _])]) hT rfl rfl rfl rfl rfl rfl rfl rfl rfl rfl) ?_
      rintro _ _ rfl
      apply Stg.next [] rfl rfl
      refine Stg.go [] [8] rfl rfl QAll.nil ?_
      refine EAll.cons ?_ EAll.nil
      refine EOp.e rfl rfl rfl (EffX.storeSP (i := 0) (qv := [(_, [_, _, _]), (_, [_, _, _]), (_, [_, _, _])]) hT rfl rfl rfl rfl rfl rfl rfl rfl rfl rfl) ?_
      rintro _ _ rfl
      apply Stg.next [] rfl rfl
      refine Stg.fin [] rfl rfl QAll.nil ?_
      replace H := H.self
      exact AtE.then_n ((HK1 _ (b_5, b_6) _ H).pickP (ts := [8, 9, 0, 7]) (is := [1, 0]) rfl rfl (by decide) rfl)
     refine EAll.cons ?_ EAll.nil
     refine EOp.e rfl rfl rfl (EffX.allocP (cs := [_, _, _]) hT rfl rfl H) ?_
     rintro _ _ ⟨b_7, _, rfl, rfl, he7, H⟩
     apply Stg.next [(9, _)] rfl rfl
     refine Stg.go [3] [4] rfl rfl (QAll.cons (QOp.q rfl rfl (Quiet1.loadSP (i := 2) (l := [_, _, _]) hT rfl rfl rfl rfl rfl rfl rfl rfl) rfl rfl) QAll.nil) ?_
     refine EAll.cons ?_ EAll.nil
     replace H := H.self
     refine EOp.e rfl rfl rfl (EffX.call (f := 27) (sh := fun h => ref02uForm _ h _) (H0 := H) rfl Tryz.call27 rfl (hl := fun w m hr hw => lift_ref02uForm _ w m hr _ hw)) ?_
     rintro _ _ ⟨v_4, h0u10, rfl, rfl, H⟩
     apply Stg.next [(16, _)] rfl rfl
     refine Stg.go [] [7] rfl rfl QAll.nil ?_
     refine EAll.cons ?_ EAll.nil
     refine EOp.e rfl rfl rfl (EffX.storeSP (i := 1) (qv := [(_, [_, _, _]), (_, [_, _, _]), (_, [_, _, _])]) hT rfl rfl rfl rfl rfl rfl rfl rfl rfl rfl) ?_
     rintro _ _ rfl
     apply Stg.next [] rfl rfl
     refine Stg.go [] [8] rfl rfl QAll.nil ?_
     refine EAll.cons ?_ EAll.nil
     refine EOp.e rfl rfl rfl (EffX.storeSP (i := 0) (qv := [(_, [_, _, _]), (_, [_, _, _]), (_, [_, _, _])]) hT rfl rfl rfl rfl rfl rfl rfl rfl rfl rfl) ?_
     rintro _ _ rfl
     apply Stg.next [] rfl rfl
     refine Stg.fin [] rfl rfl QAll.nil ?_
     replace H := H.self
     exact AtE.then_n ((HK1 _ (b_5, b_7) _ H).pickP (ts := [8, 9, 0, 7]) (is := [1, 0]) rfl rfl (by decide) rfl)
    refine EAll.cons ?_ EAll.nil
    refine EOp.e rfl rfl rfl (EffX.allocP (cs := [_, _, _]) hT rfl rfl H) ?_
    rintro _ _ ⟨b_8, _, rfl, rfl, he8, H⟩
    apply Stg.next [(9, _)] rfl rfl
    refine Stg.go [3] [4, 5] rfl rfl (QAll.cons (QOp.q rfl rfl (Quiet1.loadSP (i := 1) (l := [_, _, _]) hT rfl rfl rfl rfl rfl rfl rfl rfl) rfl rfl) QAll.nil) ?_
    refine EAll.cons ?_ ?_
    ·
     replace H := H.self
     refine EOp.e rfl rfl rfl (EffX.call (f := 27) (sh := fun h => ref02uForm _ h _) (H0 := H) rfl Tryz.call27 rfl (hl := fun w m hr hw => lift_ref02uForm _ w m hr _ hw)) ?_
     rintro _ _ ⟨v_5, h0u12, rfl, rfl, H⟩
     apply Stg.next [(16, _)] rfl rfl
     refine Stg.go [] [5] rfl rfl QAll.nil ?_
     refine EAll.cons ?_ EAll.nil
     refine EOp.e rfl rfl rfl (EffX.allocP (cs := [_, _, _]) hT rfl rfl H) ?_
     rintro _ _ ⟨b_9, _, rfl, rfl, he9, H⟩
     apply Stg.next [(8, _)] rfl rfl
     refine Stg.go [] [7] rfl rfl QAll.nil ?_
     refine EAll.cons ?_ EAll.nil
     refine EOp.e rfl rfl rfl (EffX.storeSP (i := 0) (qv := [(_, [_, _, _]), (_, [_, _, _]), (_, [_, _, _])]) hT rfl rfl rfl rfl rfl rfl rfl rfl rfl rfl) ?_
     rintro _ _ rfl
     apply Stg.next [] rfl rfl
     refine Stg.go [] [8] rfl rfl QAll.nil ?_
     refine EAll.cons ?_ EAll.nil
     refine EOp.e rfl rfl rfl (EffX.storeSP (i := 1) (qv := [(_, [_, _, _]), (_, [_, _, _]), (_, [_, _, _])]) hT rfl rfl rfl rfl rfl rfl rfl rfl rfl rfl) ?_
     rintro _ _ rfl
     apply Stg.next [] rfl rfl
     refine Stg.fin [] rfl rfl QAll.nil ?_
     replace H := H.self
     exact AtE.then_n ((HK1 _ (b_9, b_8) _ H).pickP (ts := [8, 9, 0, 7]) (is := [0, 1]) rfl rfl (by decide) rfl)
    refine EAll.cons ?_ EAll.nil
    refine EOp.e rfl rfl rfl (EffX.allocP (cs := [_, _, _]) hT rfl rfl H) ?_
    rintro _ _ ⟨b_10, _, rfl, rfl, he10, H⟩
    apply Stg.next [(8, _)] rfl rfl
    refine Stg.go [3] [4] rfl rfl (QAll.cons (QOp.q rfl rfl (Quiet1.loadSP (i := 2) (l := [_, _, _]) hT rfl rfl rfl rfl rfl rfl rfl rfl) rfl rfl) QAll.nil) ?_
    refine EAll.cons ?_ EAll.nil
    replace H := H.self
    refine EOp.e rfl rfl rfl (EffX.call (f := 27) (sh := fun h => ref02uForm _ h _) (H0 := H) rfl Tryz.call27 rfl (hl := fun w m hr hw => lift_ref02uForm _ w m hr _ hw)) ?_
    rintro _ _ ⟨v_6, h0u14, rfl, rfl, H⟩
    apply Stg.next [(16, _)] rfl rfl
    refine Stg.go [] [7] rfl rfl QAll.nil ?_
    refine EAll.cons ?_ EAll.nil
    refine EOp.e rfl rfl rfl (EffX.storeSP (i := 0) (qv := [(_, [_, _, _]), (_, [_, _, _]), (_, [_, _, _])]) hT rfl rfl rfl rfl rfl rfl rfl rfl rfl rfl) ?_
    rintro _ _ rfl
    apply Stg.next [] rfl rfl
    refine Stg.go [] [8] rfl rfl QAll.nil ?_
    refine EAll.cons ?_ EAll.nil
    refine EOp.e rfl rfl rfl (EffX.storeSP (i := 1) (qv := [(_, [_, _, _]), (_, [_, _, _]), (_, [_, _, _])]) hT rfl rfl rfl rfl rfl rfl rfl rfl rfl rfl) ?_
    rintro _ _ rfl
    apply Stg.next [] rfl rfl
    refine Stg.fin [] rfl rfl QAll.nil ?_
    replace H := H.self
    exact AtE.then_n ((HK1 _ (b_10, b_8) _ H).pickP (ts := [8, 9, 0, 7]) (is := [0, 1]) rfl rfl (by decide) rfl)
   refine EAll.cons ?_ ?_
   ·
    refine EOp.e rfl rfl rfl (EffX.allocP (cs := [_, _, _]) hT rfl rfl H) ?_
    rintro _ _ ⟨b_11, _, rfl, rfl, he11, H⟩
    apply Stg.next [(8, _)] rfl rfl
    refine Stg.go [0, 1, 3] [2, 6] rfl rfl (QAll.cons (QOp.p hT rfl rfl rfl rfl rfl) (QAll.cons (QOp.p hT rfl rfl rfl rfl rfl) (QAll.cons (QOp.q rfl rfl (Quiet1.loadSP (i := 1) (l := [_, _, _]) hT rfl rfl rfl rfl rfl rfl rfl rfl) rfl rfl) QAll.nil))) ?_
    refine EAll.cons ?_ ?_
    ·
     replace H := H.self
     refine EOp.e rfl rfl rfl (EffX.callF (bs := []) (cs := [_, _]) (f := 12) (sh := fun h => law02uRatioTold_c2 _ _ _ h _) (H0 := H) rfl rfl Tryz.call12 rfl (hl := fun w m hr hw => lift_law02uRatioTold_c2 _ _ _ w m hr _ hw)) ?_
     rintro _ _ ⟨v_7, h0u16, rfl, rfl, H⟩
     apply Stg.next [(14, _)] rfl rfl
     refine Stg.go [3] [4, 6] rfl rfl (QAll.cons (QOp.q rfl rfl (Quiet1.loadSP (i := 1) (l := [_, _, _]) hT rfl rfl rfl rfl rfl rfl rfl rfl) rfl rfl) QAll.nil) ?_
     refine EAll.cons ?_ ?_
     ·
      replace H := H.self
      refine EOp.e rfl rfl rfl (EffX.call (f := 27) (sh := fun h => ref02uForm _ h _) (H0 := H) rfl Tryz.call27 rfl (hl := fun w m hr hw => lift_ref02uForm _ w m hr _ hw)) ?_
      rintro _ _ ⟨v_8, h0u18, rfl, rfl, H⟩
      apply Stg.next [(16, _)] rfl rfl
      refine Stg.go [] [6] rfl rfl QAll.nil ?_
      refine EAll.cons ?_ EAll.nil
      refine EOp.e rfl rfl rfl (EffX.allocP (cs := [_, _, _]) hT rfl rfl H) ?_
      rintro _ _ ⟨b_12, _, rfl, rfl, he12, H⟩
      apply Stg.next [(9, _)] rfl rfl
      refine Stg.go [] [7] rfl rfl QAll.nil ?_
      refine EAll.cons ?_ EAll.nil
      refine EOp.e rfl rfl rfl (EffX.storeSP (i := 1) (qv := [(_, [_, _, _]), (_, [_, _, _]), (_, [_, _, _])]) hT rfl rfl rfl rfl rfl rfl rfl rfl rfl rfl) ?_
      rintro _ _ rfl
      apply Stg.next [] rfl rfl
      refine Stg.go [] [8] rfl rfl QAll.nil ?_
      refine EAll.cons ?_ EAll.nil
      refine EOp.e rfl rfl rfl (EffX.storeSP (i := 0) (qv := [(_, [_, _, _]), (_, [_, _, _]), (_, [_, _, _])]) hT rfl rfl rfl rfl rfl rfl rfl rfl rfl rfl) ?_
      rintro _ _ rfl
      apply Stg.next [] rfl rfl
      refine Stg.fin [] rfl rfl QAll.nil ?_
      replace H := H.self
      exact AtE.then_n ((HK1 _ (b_11, b_12) _ H).pickP (ts := [8, 9, 0, 7]) (is := [1, 0]) rfl rfl (by decide) rfl)
     refine EAll.cons ?_ EAll.nil
     refine EOp.e rfl rfl rfl (EffX.allocP (cs := [_, _, _]) hT rfl rfl H) ?_
     rintro _ _ ⟨b_13, _, rfl, rfl, he13, H⟩
     apply Stg.next [(9, _)] rfl rfl
     refine Stg.go [3] [4] rfl rfl (QAll.cons (QOp.q rfl rfl (Quiet1.loadSP (i := 2) (l := [_, _, _]) hT rfl rfl rfl rfl rfl rfl rfl rfl) rfl rfl) QAll.nil) ?_
     refine EAll.cons ?_ EAll.nil
     replace H := H.self
     refine EOp.e rfl rfl rfl (EffX.call (f := 27) (sh := fun h => ref02uForm _ h _) (H0 := H) rfl Tryz.call27 rfl (hl := fun w m hr hw => lift_ref02uForm _ w m hr _ hw)) ?_
     rintro _ _ ⟨v_9, h0u20, rfl, rfl, H⟩
     apply Stg.next [(16, _)] rfl rfl
     refine Stg.go [] [7] rfl rfl QAll.nil ?_
     refine EAll.cons ?_ EAll.nil
     refine EOp.e rfl rfl rfl (EffX.storeSP (i := 1) (qv := [(_, [_, _, _]), (_, [_, _, _]), (_, [_, _, _])]) hT rfl rfl rfl rfl rfl rfl rfl rfl rfl rfl) ?_
     rintro _ _ rfl
     apply Stg.next [] rfl rfl
     refine Stg.go [] [8] rfl rfl QAll.nil ?_
     refine EAll.cons ?_ EAll.nil
     refine EOp.e rfl rfl rfl (EffX.storeSP (i := 0) (qv := [(_, [_, _, _]), (_, [_, _, _]), (_, [_, _, _])]) hT rfl rfl rfl rfl rfl rfl rfl rfl rfl rfl) ?_
     rintro _ _ rfl
     apply Stg.next [] rfl rfl
     refine Stg.fin [] rfl rfl QAll.nil ?_
     replace H := H.self
     exact AtE.then_n ((HK1 _ (b_11, b_13) _ H).pickP (ts := [8, 9, 0, 7]) (is := [1, 0]) rfl rfl (by decide) rfl)
    refine EAll.cons ?_ EAll.nil
    refine EOp.e rfl rfl rfl (EffX.allocP (cs := [_, _, _]) hT rfl rfl H) ?_
    rintro _ _ ⟨b_14, _, rfl, rfl, he14, H⟩
    apply Stg.next [(9, _)] rfl rfl
    refine Stg.go [0, 1, 3] [2] rfl rfl (QAll.cons (QOp.p hT rfl rfl rfl rfl rfl) (QAll.cons (QOp.p hT rfl rfl rfl rfl rfl) (QAll.cons (QOp.q rfl rfl (Quiet1.loadSP (i := 2) (l := [_, _, _]) hT rfl rfl rfl rfl rfl rfl rfl rfl) rfl rfl) QAll.nil))) ?_
    refine EAll.cons ?_ EAll.nil
    replace H := H.self
    refine EOp.e rfl rfl rfl (EffX.callF (bs := []) (cs := [_, _]) (f := 12) (sh := fun h => law02uRatioTold_c2 _ _ _ h _) (H0 := H) rfl rfl Tryz.call12 rfl (hl := fun w m hr hw => lift_law02uRatioTold_c2 _ _ _ w m hr _ hw)) ?_
    rintro _ _ ⟨v_10, h0u22, rfl, rfl, H⟩
    apply Stg.next [(14, _)] rfl rfl
    refine Stg.go [3] [4] rfl rfl (QAll.cons (QOp.q rfl rfl (Quiet1.loadSP (i := 2) (l := [_, _, _]) hT rfl rfl rfl rfl rfl rfl rfl rfl) rfl rfl) QAll.nil) ?_
    refine EAll.cons ?_ EAll.nil
    replace H := H.self
    refine EOp.e rfl rfl rfl (EffX.call (f := 27) (sh := fun h => ref02uForm _ h _) (H0 := H) rfl Tryz.call27 rfl (hl := fun w m hr hw => lift_ref02uForm _ w m hr _ hw)) ?_
    rintro _ _ ⟨v_11, h0u24, rfl, rfl, H⟩
    apply Stg.next [(16, _)] rfl rfl
    refine Stg.go [] [7] rfl rfl QAll.nil ?_
    refine EAll.cons ?_ EAll.nil
    refine EOp.e rfl rfl rfl (EffX.storeSP (i := 1) (qv := [(_, [_, _, _]), (_, [_, _, _]), (_, [_, _, _])]) hT rfl rfl rfl rfl rfl rfl rfl rfl rfl rfl) ?_
    rintro _ _ rfl
    apply Stg.next [] rfl rfl
    refine Stg.go [] [8] rfl rfl QAll.nil ?_
    refine EAll.cons ?_ EAll.nil
    refine EOp.e rfl rfl rfl (EffX.storeSP (i := 0) (qv := [(_, [_, _, _]), (_, [_, _, _]), (_, [_, _, _])]) hT rfl rfl rfl rfl rfl rfl rfl rfl rfl rfl) ?_
    rintro _ _ rfl
    apply Stg.next [] rfl rfl
    refine Stg.fin [] rfl rfl QAll.nil ?_
    replace H := H.self
    exact AtE.then_n ((HK1 _ (b_11, b_14) _ H).pickP (ts := [8, 9, 0, 7]) (is := [1, 0]) rfl rfl (by decide) rfl)
   refine EAll.cons ?_ EAll.nil
   refine EOp.e rfl rfl rfl (EffX.allocP (cs := [_, _, _]) hT rfl rfl H) ?_
   rintro _ _ ⟨b_15, _, rfl, rfl, he15, H⟩
   apply Stg.next [(9, _)] rfl rfl
   refine Stg.go [0, 1, 3] [2, 5] rfl rfl (QAll.cons (QOp.p hT rfl rfl rfl rfl rfl) (QAll.cons (QOp.p hT rfl rfl rfl rfl rfl) (QAll.cons (QOp.q rfl rfl (Quiet1.loadSP (i := 1) (l := [_, _, _]) hT rfl rfl rfl rfl rfl rfl rfl rfl) rfl rfl) QAll.nil))) ?_
   refine EAll.cons ?_ ?_
   ·
    replace H := H.self
    refine EOp.e rfl rfl rfl (EffX.callF (bs := []) (cs := [_, _]) (f := 12) (sh := fun h => law02uRatioTold_c2 _ _ _ h _) (H0 := H) rfl rfl Tryz.call12 rfl (hl := fun w m hr hw => lift_law02uRatioTold_c2 _ _ _ w m hr _ hw)) ?_
    rintro _ _ ⟨v_12, h0u26, rfl, rfl, H⟩
    apply Stg.next [(14, _)] rfl rfl
    refine Stg.go [3] [4, 5] rfl rfl (QAll.cons (QOp.q rfl rfl (Quiet1.loadSP (i := 1) (l := [_, _, _]) hT rfl rfl rfl rfl rfl rfl rfl rfl) rfl rfl) QAll.nil) ?_
    refine EAll.cons ?_ ?_
    ·
     replace H := H.self
     refine EOp.e rfl rfl rfl (EffX.call (f := 27) (sh := fun h => ref02uForm _ h _) (H0 := H) rfl Tryz.call27 rfl (hl := fun w m hr hw => lift_ref02uForm _ w m hr _ hw)) ?_
     rintro _ _ ⟨v_13, h0u28, rfl, rfl, H⟩
     apply Stg.next [(16, _)] rfl rfl
     refine Stg.go [] [5] rfl rfl QAll.nil ?_
     refine EAll.cons ?_ EAll.nil
     refine EOp.e rfl rfl rfl (EffX.allocP (cs := [_, _, _]) hT rfl rfl H) ?_
     rintro _ _ ⟨b_16, _, rfl, rfl, he16, H⟩
     apply Stg.next [(8, _)] rfl rfl
     refine Stg.go [] [7] rfl rfl QAll.nil ?_
     refine EAll.cons ?_ EAll.nil
     refine EOp.e rfl rfl rfl (EffX.storeSP (i := 0) (qv := [(_, [_, _, _]), (_, [_, _, _]), (_, [_, _, _])]) hT rfl rfl rfl rfl rfl rfl rfl rfl rfl rfl) ?_
     rintro _ _ rfl
     apply Stg.next [] rfl rfl
     refine Stg.go [] [8] rfl rfl QAll.nil ?_
     refine EAll.cons ?_ EAll.nil
     refine EOp.e rfl rfl rfl (EffX.storeSP (i := 1) (qv := [(_, [_, _, _]), (_, [_, _, _]), (_, [_, _, _])]) hT rfl rfl rfl rfl rfl rfl rfl rfl rfl rfl) ?_
     rintro _ _ rfl
     apply Stg.next [] rfl rfl
     refine Stg.fin [] rfl rfl QAll.nil ?_
     replace H := H.self
     exact AtE.then_n ((HK1 _ (b_16, b_15) _ H).pickP (ts := [8, 9, 0, 7]) (is := [0, 1]) rfl rfl (by decide) rfl)
    refine EAll.cons ?_ EAll.nil
    refine EOp.e rfl rfl rfl (EffX.allocP (cs := [_, _, _]) hT rfl rfl H) ?_
    rintro _ _ ⟨b_17, _, rfl, rfl, he17, H⟩
    apply Stg.next [(8, _)] rfl rfl
    refine Stg.go [3] [4] rfl rfl (QAll.cons (QOp.q rfl rfl (Quiet1.loadSP (i := 2) (l := [_, _, _]) hT rfl rfl rfl rfl rfl rfl rfl rfl) rfl rfl) QAll.nil) ?_
    refine EAll.cons ?_ EAll.nil
    replace H := H.self
    refine EOp.e rfl rfl rfl (EffX.call (f := 27) (sh := fun h => ref02uForm _ h _) (H0 := H) rfl Tryz.call27 rfl (hl := fun w m hr hw => lift_ref02uForm _ w m hr _ hw)) ?_
    rintro _ _ ⟨v_14, h0u30, rfl, rfl, H⟩
    apply Stg.next [(16, _)] rfl rfl
    refine Stg.go [] [7] rfl rfl QAll.nil ?_
    refine EAll.cons ?_ EAll.nil
    refine EOp.e rfl rfl rfl (EffX.storeSP (i := 0) (qv := [(_, [_, _, _]), (_, [_, _, _]), (_, [_, _, _])]) hT rfl rfl rfl rfl rfl rfl rfl rfl rfl rfl) ?_
    rintro _ _ rfl
    apply Stg.next [] rfl rfl
    refine Stg.go [] [8] rfl rfl QAll.nil ?_
    refine EAll.cons ?_ EAll.nil
    refine EOp.e rfl rfl rfl (EffX.storeSP (i := 1) (qv := [(_, [_, _, _]), (_, [_, _, _]), (_, [_, _, _])]) hT rfl rfl rfl rfl rfl rfl rfl rfl rfl rfl) ?_
    rintro _ _ rfl
    apply Stg.next [] rfl rfl
    refine Stg.fin [] rfl rfl QAll.nil ?_
    replace H := H.self
    exact AtE.then_n ((HK1 _ (b_17, b_15) _ H).pickP (ts := [8, 9, 0, 7]) (is := [0, 1]) rfl rfl (by decide) rfl)
   refine EAll.cons ?_ EAll.nil
   refine EOp.e rfl rfl rfl (EffX.allocP (cs := [_, _, _]) hT rfl rfl H) ?_
   rintro _ _ ⟨b_18, _, rfl, rfl, he18, H⟩
   apply Stg.next [(8, _)] rfl rfl
   refine Stg.go [0, 1, 3] [2] rfl rfl (QAll.cons (QOp.p hT rfl rfl rfl rfl rfl) (QAll.cons (QOp.p hT rfl rfl rfl rfl rfl) (QAll.cons (QOp.q rfl rfl (Quiet1.loadSP (i := 2) (l := [_, _, _]) hT rfl rfl rfl rfl rfl rfl rfl rfl) rfl rfl) QAll.nil))) ?_
   refine EAll.cons ?_ EAll.nil
   replace H := H.self
   refine EOp.e rfl rfl rfl (EffX.callF (bs := []) (cs := [_, _]) (f := 12) (sh := fun h => law02uRatioTold_c2 _ _ _ h _) (H0 := H) rfl rfl Tryz.call12 rfl (hl := fun w m hr hw => lift_law02uRatioTold_c2 _ _ _ w m hr _ hw)) ?_
   rintro _ _ ⟨v_15, h0u32, rfl, rfl, H⟩
   apply Stg.next [(14, _)] rfl rfl
   refine Stg.go [3] [4] rfl rfl (QAll.cons (QOp.q rfl rfl (Quiet1.loadSP (i := 2) (l := [_, _, _]) hT rfl rfl rfl rfl rfl rfl rfl rfl) rfl rfl) QAll.nil) ?_
   refine EAll.cons ?_ EAll.nil
   replace H := H.self
   refine EOp.e rfl rfl rfl (EffX.call (f := 27) (sh := fun h => ref02uForm _ h _) (H0 := H) rfl Tryz.call27 rfl (hl := fun w m hr hw => lift_ref02uForm _ w m hr _ hw)) ?_
   rintro _ _ ⟨v_16, h0u34, rfl, rfl, H⟩
   apply Stg.next [(16, _)] rfl rfl
   refine Stg.go [] [7] rfl rfl QAll.nil ?_
   refine EAll.cons ?_ EAll.nil
   refine EOp.e rfl rfl rfl (EffX.storeSP (i := 0) (qv := [(_, [_, _, _]), (_, [_, _, _]), (_, [_, _, _])]) hT rfl rfl rfl rfl rfl rfl rfl rfl rfl rfl) ?_
   rintro _ _ rfl
   apply Stg.next [] rfl rfl
   refine Stg.go [] [8] rfl rfl QAll.nil ?_
   refine EAll.cons ?_ EAll.nil
   refine EOp.e rfl rfl rfl (EffX.storeSP (i := 1) (qv := [(_, [_, _, _]), (_, [_, _, _]), (_, [_, _, _])]) hT rfl rfl rfl rfl rfl rfl rfl rfl rfl rfl) ?_
   rintro _ _ rfl
   apply Stg.next [] rfl rfl
   refine Stg.fin [] rfl rfl QAll.nil ?_
   replace H := H.self
   exact AtE.then_n ((HK1 _ (b_18, b_15) _ H).pickP (ts := [8, 9, 0, 7]) (is := [0, 1]) rfl rfl (by decide) rfl)

theorem lift_law02utold__law02uRatioTold_c3 (limbs : Int) (do_c : Addr) (do_c_1 : Addr) (want : Bool × Sl × Sl) (w : World) (m : Heap) (hr : Rel ⟨m, []⟩ w.heap) (S : Bool → Heap → Prop) (H : law02utold__law02uRatioTold_c3 limbs do_c do_c_1 want m S) :
    Calls Tryz.prog 8 #[Value.int .i64 limbs, Value.func (.func 15) #[] #[Value.pointer (some do_c), Value.pointer (some do_c_1)], Value.agg (C_bool_sl_sl want).toArray] w (Post ⟨w, m⟩ Value.bool S) := by
  refine Calls.lift (args := [Value.int .i64 limbs, Value.func (.func 15) #[] #[Value.pointer (some do_c), Value.pointer (some do_c_1)], Value.agg (C_bool_sl_sl want).toArray]) Tryz.func8 rfl Tryz.ntmps8 (Nat.le_of_ble_eq_true rfl) hr (law02utold__law02uRatioTold_c3 limbs do_c do_c_1 want m S) H (fun H => ?_)
  refine AtC.pick (ts := [0, 1, 2]) rfl ?_
  unfold law02utold__law02uRatioTold_c3 at H
  refine AtC.seqR ?_
  refine AtL.e rfl (EffX.boxP (cs := [_, _, _]) rfl rfl rfl H) ?_
  rintro _ _ ⟨b, _, rfl, rfl, _, H⟩
  replace H := H.self
  refine AtL.pures hT 1 _ _ _ _ rfl ?_
  refine AtL.nil ?_
  refine AtE.then_n (AtE.go ?_)
  refine AtC.seqR ?_
  refine AtL.pures hT 1 _ _ _ _ rfl ?_
  refine AtL.e rfl (EffX.call (f := 33) (sh := fun h => nat_New _ h _) (H0 := H) rfl Tryz.call33 rfl (hl := fun w m hr hw => lift_nat_New _ w m hr _ hw)) ?_
  rintro _ _ ⟨v, h0u1, rfl, rfl, H⟩
  refine AtL.pures hT 1 _ _ _ _ rfl ?_
  refine AtL.nil ?_
  refine AtE.then_n (AtE.go ?_)
  refine AtC.joinSeq (β := Nat × Nat) (fun (t0 : Bool × Sl × Sl × Bool × Sl × Sl) (bb : Nat × Nat) => [(8, Value.pointer (some ⟨bb.1, 0, none⟩)), (9, Value.pointer (some ⟨bb.2, 0, none⟩))]) (fun (t0 : Bool × Sl × Sl × Bool × Sl × Sl) (bb : Nat × Nat) => [(bb.1, [Value.bool t0.1, Sl.toV t0.2.1, Sl.toV t0.2.2.1]), (bb.2, [Value.bool t0.2.2.2.1, Sl.toV t0.2.2.2.2.1, Sl.toV t0.2.2.2.2.2])]) [0, 7] [] H (by exact rfl) (by exact rfl) (fun t0 bb h0u2 H => ?_) (fun J1 H HK1 => ?_)
  ·
   refine AtC.seq ?_
   refine AtC.seqR ?_
   refine AtL.q rfl (Quiet1.loadSP (i := 1) (l := [_, _, _]) hT rfl rfl rfl rfl rfl rfl rfl rfl) ?_
   refine AtL.pures hT 2 _ _ _ _ rfl ?_
   refine AtL.e rfl (EffX.call (f := 35) (sh := fun h => ref02uFits _ _ h _) (H0 := H) rfl Tryz.call35 rfl (hl := fun w m hr hw => lift_ref02uFits _ _ w m hr _ hw)) ?_
   rintro _ _ ⟨v_17, h0u36, rfl, rfl, H⟩
   refine AtL.pures hT 1 _ _ _ _ rfl ?_
   refine AtL.nil ?_
   refine AtE.then_n (AtE.go ?_)
   refine AtC.condB H rfl (fun H => ?_) (fun H => ?_)
   ·
    refine AtC.joinSeq (β := Unit) (fun (t0u1 : Bool) (bb_1 : Unit) => [(6, Value.bool t0u1)]) (fun (t0u1 : Bool) (bb_1 : Unit) => []) [] [] H (by exact rfl) (by exact rfl) (fun t0u1 bb_1 h0u37 H => ?_) (fun J20 H HK20 => ?_)
    ·
     refine AtC.ret ?_
     refine AtE.then_r ?_
     exact AtE.retN (rs := [.tmp 6]) rfl (ResAll.cons (ResAt.tmp rfl) ResAll.nil) rfl H
    ·
     refine AtC.region ?_
     refine AtL.pures hT 1 _ _ _ _ rfl ?_
     refine AtL.e rfl (EffX.call (f := 36) (sh := fun h => nat_Bench_Over _ h _) (H0 := H) rfl Tryz.call36 rfl (hl := fun w m hr hw => lift_nat_Bench_Over _ w m hr _ hw)) ?_
     rintro _ _ ⟨v_18, h0u38, rfl, rfl, H⟩
     refine AtL.pures hT 1 _ _ _ _ rfl ?_
     refine AtL.splitB (t := 24) H rfl (fun H => ?_) (fun H => ?_)
     ·
      refine AtL.yes rfl rfl rfl ?_
      refine AtL.q rfl (Quiet1.loadSP (i := 0) (l := [_, _, _]) hT rfl rfl rfl rfl rfl rfl rfl rfl) ?_
      refine AtL.yes rfl rfl rfl ?_
      refine AtL.q rfl (Quiet1.build (cs := [_, _, _]) hT rfl rfl rfl rfl rfl rfl) ?_
      refine AtL.yes rfl rfl rfl ?_
      refine AtL.e rfl (EffX.call (f := 25) (sh := fun h => ref02uSame _ _ h _) (H0 := H) rfl Tryz.call25 rfl (hl := fun w m hr hw => lift_ref02uSame _ _ w m hr _ hw)) ?_
      rintro _ _ ⟨v_19, h0u39, rfl, rfl, H⟩
      refine AtL.pures hT 2 _ _ _ _ rfl ?_
      refine AtL.nil ?_
      exact AtE.then_n ((HK20 _ () _ H).pickP (ts := [6]) (is := []) rfl rfl (by decide) rfl)
     ·
      refine AtL.noF rfl rfl rfl (by decide) rfl ?_
      refine AtL.noF rfl rfl rfl (by decide) rfl ?_
      refine AtL.noF rfl rfl rfl (by decide) rfl ?_
      refine AtL.pures hT 2 _ _ _ _ rfl ?_
      refine AtL.nil ?_
      exact AtE.then_n ((HK20 _ () _ H).pickP (ts := [6]) (is := []) rfl rfl (by decide) rfl)
   ·
    refine AtC.skip ?_
    refine AtE.then_n (AtE.go ?_)
    refine AtC.joinSeq (β := Unit) (fun (t0u2 : Bool) (bb_2 : Unit) => [(6, Value.bool t0u2)]) (fun (t0u2 : Bool) (bb_2 : Unit) => []) [] [] H (by exact rfl) (by exact rfl) (fun t0u2 bb_2 h0u40 H => ?_) (fun J21 H HK21 => ?_)
    ·
     refine AtC.ret ?_
     exact AtE.retN (rs := [.tmp 6]) rfl (ResAll.cons (ResAt.tmp rfl) ResAll.nil) rfl H
    ·
     refine AtC.region ?_
     refine AtL.pures hT 1 _ _ _ _ rfl ?_
     refine AtL.e rfl (EffX.call (f := 36) (sh := fun h => nat_Bench_Over _ h _) (H0 := H) rfl Tryz.call36 rfl (hl := fun w m hr hw => lift_nat_Bench_Over _ w m hr _ hw)) ?_
     rintro _ _ ⟨v_20, h0u41, rfl, rfl, H⟩
     refine AtL.pures hT 2 _ _ _ _ rfl ?_
     refine AtL.splitB (t := 32) H rfl (fun H => ?_) (fun H => ?_)
     ·
      refine AtL.yes rfl rfl rfl ?_
      refine AtL.q rfl (Quiet1.loadSP (i := 0) (l := [_, _, _]) hT rfl rfl rfl rfl rfl rfl rfl rfl) ?_
      refine AtL.yes rfl rfl rfl ?_
      refine AtL.q rfl (Quiet1.loadSP (i := 1) (l := [_, _, _]) hT rfl rfl rfl rfl rfl rfl rfl rfl) ?_
      refine AtL.yes rfl rfl rfl ?_
      refine AtL.e rfl (EffX.call (f := 25) (sh := fun h => ref02uSame _ _ h _) (H0 := H) rfl Tryz.call25 rfl (hl := fun w m hr hw => lift_ref02uSame _ _ w m hr _ hw)) ?_
      rintro _ _ ⟨v_21, h0u42, rfl, rfl, H⟩
      refine AtL.pures hT 2 _ _ _ _ rfl ?_
      refine AtL.nil ?_
      exact AtE.then_n ((HK21 _ () _ H).pickP (ts := [6]) (is := []) rfl rfl (by decide) rfl)
     ·
      refine AtL.noF rfl rfl rfl (by decide) rfl ?_
      refine AtL.noF rfl rfl rfl (by decide) rfl ?_
      refine AtL.noF rfl rfl rfl (by decide) rfl ?_
      refine AtL.pures hT 2 _ _ _ _ rfl ?_
      refine AtL.nil ?_
      exact AtE.then_n ((HK21 _ () _ H).pickP (ts := [6]) (is := []) rfl rfl (by decide) rfl)
  ·
   apply AtC.stages [2, 4, 5, 6, 7, 8] [[], [], [], [], [2], [], [], [2, 4, 5, 6], [2, 4, 5, 6, 7]] [[], [], [0, 1], [], [0, 1, 2, 3], [], [], [0, 1, 2, 3, 4, 5, 6], [0, 1, 2, 3, 4, 5, 6, 7]] hmix (by kernel_rfl) [(12, _), (13, _), (15, _)] rfl 6 rfl
   refine Stg.go [0, 1, 3] [2, 5, 6] rfl rfl (QAll.cons (QOp.p hT rfl rfl rfl rfl rfl) (QAll.cons (QOp.p hT rfl rfl rfl rfl rfl) (QAll.cons (QOp.q rfl rfl (Quiet1.loadSP (i := 0) (l := [_, _, _]) hT rfl rfl rfl rfl rfl rfl rfl rfl) rfl rfl) QAll.nil))) ?_
   refine EAll.cons ?_ ?_
   ·
    replace H := H.self
    refine EOp.e rfl rfl rfl (EffX.callF (bs := []) (cs := [_, _]) (f := 15) (sh := fun h => law02uRatioTold_c3 _ _ _ h _) (H0 := H) rfl rfl Tryz.call15 rfl (hl := fun w m hr hw => lift_law02uRatioTold_c3 _ _ _ w m hr _ hw)) ?_
    rintro _ _ ⟨v_1, h0u4, rfl, rfl, H⟩
    apply Stg.next [(14, _)] rfl rfl
    refine Stg.go [3] [4, 5, 6] rfl rfl (QAll.cons (QOp.q rfl rfl (Quiet1.loadSP (i := 0) (l := [_, _, _]) hT rfl rfl rfl rfl rfl rfl rfl rfl) rfl rfl) QAll.nil) ?_
    refine EAll.cons ?_ ?_
    ·
     replace H := H.self
     refine EOp.e rfl rfl rfl (EffX.call (f := 27) (sh := fun h => ref02uForm _ h _) (H0 := H) rfl Tryz.call27 rfl (hl := fun w m hr hw => lift_ref02uForm _ w m hr _ hw)) ?_
     rintro _ _ ⟨v_2, h0u6, rfl, rfl, H⟩
     apply Stg.next [(16, _)] rfl rfl
     refine Stg.go [] [5, 6] rfl rfl QAll.nil ?_
     refine EAll.cons ?_ ?_
     ·
      refine EOp.e rfl rfl rfl (EffX.allocP (cs := [_, _, _]) hT rfl rfl H) ?_
      rintro _ _ ⟨b_1, _, rfl, rfl, he1, H⟩
      apply Stg.next [(8, _)] rfl rfl
      refine Stg.go [] [6] rfl rfl QAll.nil ?_
      refine EAll.cons ?_ EAll.nil
      refine EOp.e rfl rfl rfl (EffX.allocP (cs := [_, _, _]) hT rfl rfl H) ?_
      rintro _ _ ⟨b_2, _, rfl, rfl, he2, H⟩
      apply Stg.next [(9, _)] rfl rfl
      refine Stg.go [] [7] rfl rfl QAll.nil ?_
      refine EAll.cons ?_ EAll.nil
      refine EOp.e rfl rfl rfl (EffX.storeSP (i := 1) (qv := [(_, [_, _, _]), (_, [_, _, _]), (_, [_, _, _])]) hT rfl rfl rfl rfl rfl rfl rfl rfl rfl rfl) ?_
      rintro _ _ rfl
      apply Stg.next [] rfl rfl
      refine Stg.go [] [8] rfl rfl QAll.nil ?_
      refine EAll.cons ?_ EAll.nil
      refine EOp.e rfl rfl rfl (EffX.storeSP (i := 0) (qv := [(_, [_, _, _]), (_, [_, _, _]), (_, [_, _, _])]) hT rfl rfl rfl rfl rfl rfl rfl rfl rfl rfl) ?_
      rintro _ _ rfl
      apply Stg.next [] rfl rfl
      refine Stg.fin [] rfl rfl QAll.nil ?_
      replace H := H.self
      exact AtE.then_n ((HK1 _ (b_1, b_2) _ H).pickP (ts := [8, 9, 0, 7]) (is := [1, 0]) rfl rfl (by decide) rfl)
     refine EAll.cons ?_ EAll.nil
     refine EOp.e rfl rfl rfl (EffX.allocP (cs := [_, _, _]) hT rfl rfl H) ?_
     rintro _ _ ⟨b_3, _, rfl, rfl, he3, H⟩
     apply Stg.next [(9, _)] rfl rfl
     refine Stg.go [] [5] rfl rfl QAll.nil ?_
     refine EAll.cons ?_ EAll.nil
     refine EOp.e rfl rfl rfl (EffX.allocP (cs := [_, _, _]) hT rfl rfl H) ?_
     rintro _ _ ⟨b_4, _, rfl, rfl, he4, H⟩
     apply Stg.next [(8, _)] rfl rfl
     refine Stg.go [] [7] rfl rfl QAll.nil ?_
     refine EAll.cons ?_ EAll.nil
     refine EOp.e rfl rfl rfl (EffX.storeSP (i := 0) (qv := [(_, [_, _, _]), (_, [_, _, _]), (_, [_, _, _])]) hT rfl rfl rfl rfl rfl rfl rfl rfl rfl rfl) ?_
     rintro _ _ rfl
     apply Stg.next [] rfl rfl
     refine Stg.go [] [8] rfl rfl QAll.nil ?_
     refine EAll.cons ?_ EAll.nil
     refine EOp.e rfl rfl rfl (EffX.storeSP (i := 1) (qv := [(_, [_, _, _]), (_, [_, _, _]), (_, [_, _, _])]) hT rfl rfl rfl rfl rfl rfl rfl rfl rfl rfl) ?_
     rintro _ _ rfl
     apply Stg.next [] rfl rfl
     refine Stg.fin [] rfl rfl QAll.nil ?_
     replace H := H.self
     exact AtE.then_n ((HK1 _ (b_4, b_3) _ H).pickP (ts := [8, 9, 0, 7]) (is := [0, 1]) rfl rfl (by decide) rfl)
    refine EAll.cons ?_ ?_
    ·
     refine EOp.e rfl rfl rfl (EffX.allocP (cs := [_, _, _]) hT rfl rfl H) ?_
     rintro _ _ ⟨b_5, _, rfl, rfl, he5, H⟩
     apply Stg.next [(8, _)] rfl rfl
     refine Stg.go [3] [4, 6] rfl rfl (QAll.cons (QOp.q rfl rfl (Quiet1.loadSP (i := 1) (l := [_, _, _]) hT rfl rfl rfl rfl rfl rfl rfl rfl) rfl rfl) QAll.nil) ?_
     refine EAll.cons ?_ ?_
     ·
      replace H := H.self
      refine EOp.e rfl rfl rfl (EffX.call (f := 27) (sh := fun h => ref02uForm _ h _) (H0 := H) rfl Tryz.call27 rfl (hl := fun w m hr hw => lift_ref02uForm _ w m hr _ hw)) ?_
      rintro _ _ ⟨v_3, h0u8, rfl, rfl, H⟩
      apply Stg.next [(16, _)] rfl rfl
      refine Stg.go [] [6] rfl rfl QAll.nil ?_
      refine EAll.cons ?_ EAll.nil
      refine EOp.e rfl rfl rfl (EffX.allocP (cs := [_, _, _]) hT rfl rfl H) ?_
      rintro _ _ ⟨b_6, _, rfl, rfl, he6, H⟩
      apply Stg.next [(9, _)] rfl rfl
      refine Stg.go [] [7] rfl rfl QAll.nil ?_
      refine EAll.cons ?_ EAll.nil
      refine EOp.e rfl rfl rfl (EffX.storeSP (i := 1) (qv := [(_, [_, _, _]), (_, [_, _, _]), (_, [_, _, _])]) hT rfl rfl rfl rfl rfl rfl rfl rfl rfl rfl) ?_
      rintro _ _ rfl
      apply Stg.next [] rfl rfl
      refine Stg.go [] [8] rfl rfl QAll.nil ?_
      refine EAll.cons ?_ EAll.nil
      refine EOp.e rfl rfl rfl (EffX.storeSP (i := 0) (qv := [(_, [_, _, _]), (_, [_, _, _]), (_, [_, _, _])]) hT rfl rfl rfl rfl rfl rfl rfl rfl rfl rfl) ?_
      rintro _ _ rfl
      apply Stg.next [] rfl rfl
      refine Stg.fin [] rfl rfl QAll.nil ?_
      replace H := H.self
      exact AtE.then_n ((HK1 _ (b_5, b_6) _ H).pickP (ts := [8, 9, 0, 7]) (is := [1, 0]) rfl rfl (by decide) rfl)
     refine EAll.cons ?_ EAll.nil
     refine EOp.e rfl rfl rfl (EffX.allocP (cs := [_, _, _]) hT rfl rfl H) ?_
     rintro _ _ ⟨b_7, _, rfl, rfl, he7, H⟩
     apply Stg.next [(9, _)] rfl rfl
     refine Stg.go [3] [4] rfl rfl (QAll.cons (QOp.q rfl rfl (Quiet1.loadSP (i := 2) (l := [_, _, _]) hT rfl rfl rfl rfl rfl rfl rfl rfl) rfl rfl) QAll.nil) ?_
     refine EAll.cons ?_ EAll.nil
     replace H := H.self
     refine EOp.e rfl rfl rfl (EffX.call (f := 27) (sh := fun h => ref02uForm _ h _) (H0 := H) rfl Tryz.call27 rfl (hl := fun w m hr hw => lift_ref02uForm _ w m hr _ hw)) ?_
     rintro _ _ ⟨v_4, h0u10, rfl, rfl, H⟩
     apply Stg.next [(16, _)] rfl rfl
     refine Stg.go [] [7] rfl rfl QAll.nil ?_
     refine EAll.cons ?_ EAll.nil
     refine EOp.e rfl rfl rfl (EffX.storeSP (i := 1) (qv := [(_, [_, _, _]), (_, [_, _, _]), (_, [_, _, _])]) hT rfl rfl rfl rfl rfl rfl rfl rfl rfl rfl) ?_
     rintro _ _ rfl
     apply Stg.next [] rfl rfl
     refine Stg.go [] [8] rfl rfl QAll.nil ?_
     refine EAll.cons ?_ EAll.nil
     refine EOp.e rfl rfl rfl (EffX.storeSP (i := 0) (qv := [(_, [_, _, _]), (_, [_, _, _]), (_, [_, _, _])]) hT rfl rfl rfl rfl rfl rfl rfl rfl rfl rfl) ?_
     rintro _ _ rfl
     apply Stg.next [] rfl rfl
     refine Stg.fin [] rfl rfl QAll.nil ?_
     replace H := H.self
     exact AtE.then_n ((HK1 _ (b_5, b_7) _ H).pickP (ts := [8, 9, 0, 7]) (is := [1, 0]) rfl rfl (by decide) rfl)
    refine EAll.cons ?_ EAll.nil
    refine EOp.e rfl rfl rfl (EffX.allocP (cs := [_, _, _]) hT rfl rfl H) ?_
    rintro _ _ ⟨b_8, _, rfl, rfl, he8, H⟩
    apply Stg.next [(9, _)] rfl rfl
    refine Stg.go [3] [4, 5] rfl rfl (QAll.cons (QOp.q rfl rfl (Quiet1.loadSP (i := 1) (l := [_, _, _]) hT rfl rfl rfl rfl rfl rfl rfl rfl) rfl rfl) QAll.nil) ?_
    refine EAll.cons ?_ ?_
    ·
     replace H := H.self
     refine EOp.e rfl rfl rfl (EffX.call (f := 27) (sh := fun h => ref02uForm _ h _) (H0 := H) rfl Tryz.call27 rfl (hl := fun w m hr hw => lift_ref02uForm _ w m hr _ hw)) ?_
     rintro _ _ ⟨v_5, h0u12, rfl, rfl, H⟩
     apply Stg.next [(16, _)] rfl rfl
     refine Stg.go [] [5] rfl rfl QAll.nil ?_
     refine EAll.cons ?_ EAll.nil
     refine EOp.e rfl rfl rfl (EffX.allocP (cs := [_, _, _]) hT rfl rfl H) ?_
     rintro _ _ ⟨b_9, _, rfl, rfl, he9, H⟩
     apply Stg.next [(8, _)] rfl rfl
     refine Stg.go [] [7] rfl rfl QAll.nil ?_
     refine EAll.cons ?_ EAll.nil
     refine EOp.e rfl rfl rfl (EffX.storeSP (i := 0) (qv := [(_, [_, _, _]), (_, [_, _, _]), (_, [_, _, _])]) hT rfl rfl rfl rfl rfl rfl rfl rfl rfl rfl) ?_
     rintro _ _ rfl
     apply Stg.next [] rfl rfl
     refine Stg.go [] [8] rfl rfl QAll.nil ?_
     refine EAll.cons ?_ EAll.nil
     refine EOp.e rfl rfl rfl (EffX.storeSP (i := 1) (qv := [(_, [_, _, _]), (_, [_, _, _]), (_, [_, _, _])]) hT rfl rfl rfl rfl rfl rfl rfl rfl rfl rfl) ?_
     rintro _ _ rfl
     apply Stg.next [] rfl rfl
     refine Stg.fin [] rfl rfl QAll.nil ?_
     replace H := H.self
     exact AtE.then_n ((HK1 _ (b_9, b_8) _ H).pickP (ts := [8, 9, 0, 7]) (is := [0, 1]) rfl rfl (by decide) rfl)
    refine EAll.cons ?_ EAll.nil
    refine EOp.e rfl rfl rfl (EffX.allocP (cs := [_, _, _]) hT rfl rfl H) ?_
    rintro _ _ ⟨b_10, _, rfl, rfl, he10, H⟩
    apply Stg.next [(8, _)] rfl rfl
    refine Stg.go [3] [4] rfl rfl (QAll.cons (QOp.q rfl rfl (Quiet1.loadSP (i := 2) (l := [_, _, _]) hT rfl rfl rfl rfl rfl rfl rfl rfl) rfl rfl) QAll.nil) ?_
    refine EAll.cons ?_ EAll.nil
    replace H := H.self
    refine EOp.e rfl rfl rfl (EffX.call (f := 27) (sh := fun h => ref02uForm _ h _) (H0 := H) rfl Tryz.call27 rfl (hl := fun w m hr hw => lift_ref02uForm _ w m hr _ hw)) ?_
    rintro _ _ ⟨v_6, h0u14, rfl, rfl, H⟩
    apply Stg.next [(16, _)] rfl rfl
    refine Stg.go [] [7] rfl rfl QAll.nil ?_
    refine EAll.cons ?_ EAll.nil
    refine EOp.e rfl rfl rfl (EffX.storeSP (i := 0) (qv := [(_, [_, _, _]), (_, [_, _, _]), (_, [_, _, _])]) hT rfl rfl rfl rfl rfl rfl rfl rfl rfl rfl) ?_
    rintro _ _ rfl
    apply Stg.next [] rfl rfl
    refine Stg.go [] [8] rfl rfl QAll.nil ?_
    refine EAll.cons ?_ EAll.nil
    refine EOp.e rfl rfl rfl (EffX.storeSP (i := 1) (qv := [(_, [_, _, _]), (_, [_, _, _]), (_, [_, _, _])]) hT rfl rfl rfl rfl rfl rfl rfl rfl rfl rfl) ?_
    rintro _ _ rfl
    apply Stg.next [] rfl rfl
    refine Stg.fin [] rfl rfl QAll.nil ?_
    replace H := H.self
    exact AtE.then_n ((HK1 _ (b_10, b_8) _ H).pickP (ts := [8, 9, 0, 7]) (is := [0, 1]) rfl rfl (by decide) rfl)
   refine EAll.cons ?_ ?_
   ·
    refine EOp.e rfl rfl rfl (EffX.allocP (cs := [_, _, _]) hT rfl rfl H) ?_
    rintro _ _ ⟨b_11, _, rfl, rfl, he11, H⟩
    apply Stg.next [(8, _)] rfl rfl
    refine Stg.go [0, 1, 3] [2, 6] rfl rfl (QAll.cons (QOp.p hT rfl rfl rfl rfl rfl) (QAll.cons (QOp.p hT rfl rfl rfl rfl rfl) (QAll.cons (QOp.q rfl rfl (Quiet1.loadSP (i := 1) (l := [_, _, _]) hT rfl rfl rfl rfl rfl rfl rfl rfl) rfl rfl) QAll.nil))) ?_
    refine EAll.cons ?_ ?_
    ·
     replace H := H.self
     refine EOp.e rfl rfl rfl (EffX.callF (bs := []) (cs := [_, _]) (f := 15) (sh := fun h => law02uRatioTold_c3 _ _ _ h _) (H0 := H) rfl rfl Tryz.call15 rfl (hl := fun w m hr hw => lift_law02uRatioTold_c3 _ _ _ w m hr _ hw)) ?_
     rintro _ _ ⟨v_7, h0u16, rfl, rfl, H⟩
     apply Stg.next [(14, _)] rfl rfl
     refine Stg.go [3] [4, 6] rfl rfl (QAll.cons (QOp.q rfl rfl (Quiet1.loadSP (i := 1) (l := [_, _, _]) hT rfl rfl rfl rfl rfl rfl rfl rfl) rfl rfl) QAll.nil) ?_
     refine EAll.cons ?_ ?_
     ·
      replace H := H.self
      refine EOp.e rfl rfl rfl (EffX.call (f := 27) (sh := fun h => ref02uForm _ h _) (H0 := H) rfl Tryz.call27 rfl (hl := fun w m hr hw => lift_ref02uForm _ w m hr _ hw)) ?_
      rintro _ _ ⟨v_8, h0u18, rfl, rfl, H⟩
      apply Stg.next [(16, _)] rfl rfl
      refine Stg.go [] [6] rfl rfl QAll.nil ?_
      refine EAll.cons ?_ EAll.nil
      refine EOp.e rfl rfl rfl (EffX.allocP (cs := [_, _, _]) hT rfl rfl H) ?_
      rintro _ _ ⟨b_12, _, rfl, rfl, he12, H⟩
      apply Stg.next [(9, _)] rfl rfl
      refine Stg.go [] [7] rfl rfl QAll.nil ?_
      refine EAll.cons ?_ EAll.nil
      refine EOp.e rfl rfl rfl (EffX.storeSP (i := 1) (qv := [(_, [_, _, _]), (_, [_, _, _]), (_, [_, _, _])]) hT rfl rfl rfl rfl rfl rfl rfl rfl rfl rfl) ?_
      rintro _ _ rfl
      apply Stg.next [] rfl rfl
      refine Stg.go [] [8] rfl rfl QAll.nil ?_
      refine EAll.cons ?_ EAll.nil
      refine EOp.e rfl rfl rfl (EffX.storeSP (i := 0) (qv := [(_, [_, _, _]), (_, [_, _, _]), (_, [_, _, _])]) hT rfl rfl rfl rfl rfl rfl rfl rfl rfl rfl) ?_
      rintro _ _ rfl
      apply Stg.next [] rfl rfl
      refine Stg.fin [] rfl rfl QAll.nil ?_
      replace H := H.self
      exact AtE.then_n ((HK1 _ (b_11, b_12) _ H).pickP (ts := [8, 9, 0, 7]) (is := [1, 0]) rfl rfl (by decide) rfl)
     refine EAll.cons ?_ EAll.nil
     refine EOp.e rfl rfl rfl (EffX.allocP (cs := [_, _, _]) hT rfl rfl H) ?_
     rintro _ _ ⟨b_13, _, rfl, rfl, he13, H⟩
     apply Stg.next [(9, _)] rfl rfl
     refine Stg.go [3] [4] rfl rfl (QAll.cons (QOp.q rfl rfl (Quiet1.loadSP (i := 2) (l := [_, _, _]) hT rfl rfl rfl rfl rfl rfl rfl rfl) rfl rfl) QAll.nil) ?_
     refine EAll.cons ?_ EAll.nil
     replace H := H.self
     refine EOp.e rfl rfl rfl (EffX.call (f := 27) (sh := fun h => ref02uForm _ h _) (H0 := H) rfl Tryz.call27 rfl (hl := fun w m hr hw => lift_ref02uForm _ w m hr _ hw)) ?_
     rintro _ _ ⟨v_9, h0u20, rfl, rfl, H⟩
     apply Stg.next [(16, _)] rfl rfl
     refine Stg.go [] [7] rfl rfl QAll.nil ?_
     refine EAll.cons ?_ EAll.nil
     refine EOp.e rfl rfl rfl (EffX.storeSP (i := 1) (qv := [(_, [_, _, _]), (_, [_, _, _]), (_, [_, _, _])]) hT rfl rfl rfl rfl rfl rfl rfl rfl rfl rfl) ?_
     rintro _ _ rfl
     apply Stg.next [] rfl rfl
     refine Stg.go [] [8] rfl rfl QAll.nil ?_
     refine EAll.cons ?_ EAll.nil
     refine EOp.e rfl rfl rfl (EffX.storeSP (i := 0) (qv := [(_, [_, _, _]), (_, [_, _, _]), (_, [_, _, _])]) hT rfl rfl rfl rfl rfl rfl rfl rfl rfl rfl) ?_
     rintro _ _ rfl
     apply Stg.next [] rfl rfl
     refine Stg.fin [] rfl rfl QAll.nil ?_
     replace H := H.self
     exact AtE.then_n ((HK1 _ (b_11, b_13) _ H).pickP (ts := [8, 9, 0, 7]) (is := [1, 0]) rfl rfl (by decide) rfl)
    refine EAll.cons ?_ EAll.nil
    refine EOp.e rfl rfl rfl (EffX.allocP (cs := [_, _, _]) hT rfl rfl H) ?_
    rintro _ _ ⟨b_14, _, rfl, rfl, he14, H⟩
    apply Stg.next [(9, _)] rfl rfl
    refine Stg.go [0, 1, 3] [2] rfl rfl (QAll.cons (QOp.p hT rfl rfl rfl rfl rfl) (QAll.cons (QOp.p hT rfl rfl rfl rfl rfl) (QAll.cons (QOp.q rfl rfl (Quiet1.loadSP (i := 2) (l := [_, _, _]) hT rfl rfl rfl rfl rfl rfl rfl rfl) rfl rfl) QAll.nil))) ?_
    refine EAll.cons ?_ EAll.nil
    replace H := H.self
    refine EOp.e rfl rfl rfl (EffX.callF (bs := []) (cs := [_, _]) (f := 15) (sh := fun h => law02uRatioTold_c3 _ _ _ h _) (H0 := H) rfl rfl Tryz.call15 rfl (hl := fun w m hr hw => lift_law02uRatioTold_c3 _ _ _ w m hr _ hw)) ?_
    rintro _ _ ⟨v_10, h0u22, rfl, rfl, H⟩
    apply Stg.next [(14, _)] rfl rfl
    refine Stg.go [3] [4] rfl rfl (QAll.cons (QOp.q rfl rfl (Quiet1.loadSP (i := 2) (l := [_, _, _]) hT rfl rfl rfl rfl rfl rfl rfl rfl) rfl rfl) QAll.nil) ?_
    refine EAll.cons ?_ EAll.nil
    replace H := H.self
    refine EOp.e rfl rfl rfl (EffX.call (f := 27) (sh := fun h => ref02uForm _ h _) (H0 := H) rfl Tryz.call27 rfl (hl := fun w m hr hw => lift_ref02uForm _ w m hr _ hw)) ?_
    rintro _ _ ⟨v_11, h0u24, rfl, rfl, H⟩
    apply Stg.next [(16, _)] rfl rfl
    refine Stg.go [] [7] rfl rfl QAll.nil ?_
    refine EAll.cons ?_ EAll.nil
    refine EOp.e rfl rfl rfl (EffX.storeSP (i := 1) (qv := [(_, [_, _, _]), (_, [_, _, _]), (_, [_, _, _])]) hT rfl rfl rfl rfl rfl rfl rfl rfl rfl rfl) ?_
    rintro _ _ rfl
    apply Stg.next [] rfl rfl
    refine Stg.go [] [8] rfl rfl QAll.nil ?_
    refine EAll.cons ?_ EAll.nil
    refine EOp.e rfl rfl rfl (EffX.storeSP (i := 0) (qv := [(_, [_, _, _]), (_, [_, _, _]), (_, [_, _, _])]) hT rfl rfl rfl rfl rfl rfl rfl rfl rfl rfl) ?_
    rintro _ _ rfl
    apply Stg.next [] rfl rfl
    refine Stg.fin [] rfl rfl QAll.nil ?_
    replace H := H.self
    exact AtE.then_n ((HK1 _ (b_11, b_14) _ H).pickP (ts := [8, 9, 0, 7]) (is := [1, 0]) rfl rfl (by decide) rfl)
   refine EAll.cons ?_ EAll.nil
   refine EOp.e rfl rfl rfl (EffX.allocP (cs := [_, _, _]) hT rfl rfl H) ?_
   rintro _ _ ⟨b_15, _, rfl, rfl, he15, H⟩
   apply Stg.next [(9, _)] rfl rfl
   refine Stg.go [0, 1, 3] [2, 5] rfl rfl (QAll.cons (QOp.p hT rfl rfl rfl rfl rfl) (QAll.cons (QOp.p hT rfl rfl rfl rfl rfl) (QAll.cons (QOp.q rfl rfl (Quiet1.loadSP (i := 1) (l := [_, _, _]) hT rfl rfl rfl rfl rfl rfl rfl rfl) rfl rfl) QAll.nil))) ?_
   refine EAll.cons ?_ ?_
   ·
    replace H := H.self
    refine EOp.e rfl rfl rfl (EffX.callF (bs := []) (cs := [_, _]) (f := 15) (sh := fun h => law02uRatioTold_c3 _ _ _ h _) (H0 := H) rfl rfl Tryz.call15 rfl (hl := fun w m hr hw => lift_law02uRatioTold_c3 _ _ _ w m hr _ hw)) ?_
    rintro _ _ ⟨v_12, h0u26, rfl, rfl, H⟩
    apply Stg.next [(14, _)] rfl rfl
    refine Stg.go [3] [4, 5] rfl rfl (QAll.cons (QOp.q rfl rfl (Quiet1.loadSP (i := 1) (l := [_, _, _]) hT rfl rfl rfl rfl rfl rfl rfl rfl) rfl rfl) QAll.nil) ?_
    refine EAll.cons ?_ ?_
    ·
     replace H := H.self
     refine EOp.e rfl rfl rfl (EffX.call (f := 27) (sh := fun h => ref02uForm _ h _) (H0 := H) rfl Tryz.call27 rfl (hl := fun w m hr hw => lift_ref02uForm _ w m hr _ hw)) ?_
     rintro _ _ ⟨v_13, h0u28, rfl, rfl, H⟩
     apply Stg.next [(16, _)] rfl rfl
     refine Stg.go [] [5] rfl rfl QAll.nil ?_
     refine EAll.cons ?_ EAll.nil
     refine EOp.e rfl rfl rfl (EffX.allocP (cs := [_, _, _]) hT rfl rfl H) ?_
     rintro _ _ ⟨b_16, _, rfl, rfl, he16, H⟩
     apply Stg.next [(8, _)] rfl rfl
     refine Stg.go [] [7] rfl rfl QAll.nil ?_
     refine EAll.cons ?_ EAll.nil
     refine EOp.e rfl rfl rfl (EffX.storeSP (i := 0) (qv := [(_, [_, _, _]), (_, [_, _, _]), (_, [_, _, _])]) hT rfl rfl rfl rfl rfl rfl rfl rfl rfl rfl) ?_
     rintro _ _ rfl
     apply Stg.next [] rfl rfl
     refine Stg.go [] [8] rfl rfl QAll.nil ?_
     refine EAll.cons ?_ EAll.nil
     refine EOp.e rfl rfl rfl (EffX.storeSP (i := 1) (qv := [(_, [_, _, _]), (_, [_, _, _]), (_, [_, _, _])]) hT rfl rfl rfl rfl rfl rfl rfl rfl rfl rfl) ?_
     rintro _ _ rfl
     apply Stg.next [] rfl rfl
     refine Stg.fin [] rfl rfl QAll.nil ?_
     replace H := H.self
     exact AtE.then_n ((HK1 _ (b_16, b_15) _ H).pickP (ts := [8, 9, 0, 7]) (is := [0, 1]) rfl rfl (by decide) rfl)
    refine EAll.cons ?_ EAll.nil
    refine EOp.e rfl rfl rfl (EffX.allocP (cs := [_, _, _]) hT rfl rfl H) ?_
    rintro _ _ ⟨b_17, _, rfl, rfl, he17, H⟩
    apply Stg.next [(8, _)] rfl rfl
    refine Stg.go [3] [4] rfl rfl (QAll.cons (QOp.q rfl rfl (Quiet1.loadSP (i := 2) (l := [_, _, _]) hT rfl rfl rfl rfl rfl rfl rfl rfl) rfl rfl) QAll.nil) ?_
    refine EAll.cons ?_ EAll.nil
    replace H := H.self
    refine EOp.e rfl rfl rfl (EffX.call (f := 27) (sh := fun h => ref02uForm _ h _) (H0 := H) rfl Tryz.call27 rfl (hl := fun w m hr hw => lift_ref02uForm _ w m hr _ hw)) ?_
    rintro _ _ ⟨v_14, h0u30, rfl, rfl, H⟩
    apply Stg.next [(16, _)] rfl rfl
    refine Stg.go [] [7] rfl rfl QAll.nil ?_
    refine EAll.cons ?_ EAll.nil
    refine EOp.e rfl rfl rfl (EffX.storeSP (i := 0) (qv := [(_, [_, _, _]), (_, [_, _, _]), (_, [_, _, _])]) hT rfl rfl rfl rfl rfl rfl rfl rfl rfl rfl) ?_
    rintro _ _ rfl
    apply Stg.next [] rfl rfl
    refine Stg.go [] [8] rfl rfl QAll.nil ?_
    refine EAll.cons ?_ EAll.nil
    refine EOp.e rfl rfl rfl (EffX.storeSP (i := 1) (qv := [(_, [_, _, _]), (_, [_, _, _]), (_, [_, _, _])]) hT rfl rfl rfl rfl rfl rfl rfl rfl rfl rfl) ?_
    rintro _ _ rfl
    apply Stg.next [] rfl rfl
    refine Stg.fin [] rfl rfl QAll.nil ?_
    replace H := H.self
    exact AtE.then_n ((HK1 _ (b_17, b_15) _ H).pickP (ts := [8, 9, 0, 7]) (is := [0, 1]) rfl rfl (by decide) rfl)
   refine EAll.cons ?_ EAll.nil
   refine EOp.e rfl rfl rfl (EffX.allocP (cs := [_, _, _]) hT rfl rfl H) ?_
   rintro _ _ ⟨b_18, _, rfl, rfl, he18, H⟩
   apply Stg.next [(8, _)] rfl rfl
   refine Stg.go [0, 1, 3] [2] rfl rfl (QAll.cons (QOp.p hT rfl rfl rfl rfl rfl) (QAll.cons (QOp.p hT rfl rfl rfl rfl rfl) (QAll.cons (QOp.q rfl rfl (Quiet1.loadSP (i := 2) (l := [_, _, _]) hT rfl rfl rfl rfl rfl rfl rfl rfl) rfl rfl) QAll.nil))) ?_
   refine EAll.cons ?_ EAll.nil
   replace H := H.self
   refine EOp.e rfl rfl rfl (EffX.callF (bs := []) (cs := [_, _]) (f := 15) (sh := fun h => law02uRatioTold_c3 _ _ _ h _) (H0 := H) rfl rfl Tryz.call15 rfl (hl := fun w m hr hw => lift_law02uRatioTold_c3 _ _ _ w m hr _ hw)) ?_
   rintro _ _ ⟨v_15, h0u32, rfl, rfl, H⟩
   apply Stg.next [(14, _)] rfl rfl
   refine Stg.go [3] [4] rfl rfl (QAll.cons (QOp.q rfl rfl (Quiet1.loadSP (i := 2) (l := [_, _, _]) hT rfl rfl rfl rfl rfl rfl rfl rfl) rfl rfl) QAll.nil) ?_
   refine EAll.cons ?_ EAll.nil
   replace H := H.self
   refine EOp.e rfl rfl rfl (EffX.call (f := 27) (sh := fun h => ref02uForm _ h _) (H0 := H) rfl Tryz.call27 rfl (hl := fun w m hr hw => lift_ref02uForm _ w m hr _ hw)) ?_
   rintro _ _ ⟨v_16, h0u34, rfl, rfl, H⟩
   apply Stg.next [(16, _)] rfl rfl
   refine Stg.go [] [7] rfl rfl QAll.nil ?_
   refine EAll.cons ?_ EAll.nil
   refine EOp.e rfl rfl rfl (EffX.storeSP (i := 0) (qv := [(_, [_, _, _]), (_, [_, _, _]), (_, [_, _, _])]) hT rfl rfl rfl rfl rfl rfl rfl rfl rfl rfl) ?_
   rintro _ _ rfl
   apply Stg.next [] rfl rfl
   refine Stg.go [] [8] rfl rfl QAll.nil ?_
   refine EAll.cons ?_ EAll.nil
   refine EOp.e rfl rfl rfl (EffX.storeSP (i := 1) (qv := [(_, [_, _, _]), (_, [_, _, _]), (_, [_, _, _])]) hT rfl rfl rfl rfl rfl rfl rfl rfl rfl rfl) ?_
   rintro _ _ rfl
   apply Stg.next [] rfl rfl
   refine Stg.fin [] rfl rfl QAll.nil ?_
   replace H := H.self
   exact AtE.then_n ((HK1 _ (b_18, b_15) _ H).pickP (ts := [8, 9, 0, 7]) (is := [0, 1]) rfl rfl (by decide) rfl)

theorem lift_law02utold__law02uRatioTold_c4 (limbs : Int) (do_c : Addr) (do_c_1 : Addr) (want : Bool × Sl × Sl) (w : World) (m : Heap) (hr : Rel ⟨m, []⟩ w.heap) (S : Bool → Heap → Prop) (H : law02utold__law02uRatioTold_c4 limbs do_c do_c_1 want m S) :
    Calls Tryz.prog 8 #[Value.int .i64 limbs, Value.func (.func 18) #[] #[Value.pointer (some do_c), Value.pointer (some do_c_1)], Value.agg (C_bool_sl_sl want).toArray] w (Post ⟨w, m⟩ Value.bool S) := by
  refine Calls.lift (args := [Value.int .i64 limbs, Value.func (.func 18) #[] #[Value.pointer (some do_c), Value.pointer (some do_c_1)], Value.agg (C_bool_sl_sl want).toArray]) Tryz.func8 rfl Tryz.ntmps8 (Nat.le_of_ble_eq_true rfl) hr (law02utold__law02uRatioTold_c4 limbs do_c do_c_1 want m S) H (fun H => ?_)
  refine AtC.pick (ts := [0, 1, 2]) rfl ?_
  unfold law02utold__law02uRatioTold_c4 at H
  refine AtC.seqR ?_
  refine AtL.e rfl (EffX.boxP (cs := [_, _, _]) rfl rfl rfl H) ?_
  rintro _ _ ⟨b, _, rfl, rfl, _, H⟩
  replace H := H.self
  refine AtL.pures hT 1 _ _ _ _ rfl ?_
  refine AtL.nil ?_
  refine AtE.then_n (AtE.go ?_)
  refine AtC.seqR ?_
  refine AtL.pures hT 1 _ _ _ _ rfl ?_
  refine AtL.e rfl (EffX.call (f := 33) (sh := fun h => nat_New _ h _) (H0 := H) rfl Tryz.call33 rfl (hl := fun w m hr hw => lift_nat_New _ w m hr _ hw)) ?_
  rintro _ _ ⟨v, h0u1, rfl, rfl, H⟩
  refine AtL.pures hT 1 _ _ _ _ rfl ?_
  refine AtL.nil ?_
  refine AtE.then_n (AtE.go ?_)
  refine AtC.joinSeq (β := Nat × Nat) (fun (t0 : Bool × Sl × Sl × Bool × Sl × Sl) (bb : Nat × Nat) => [(8, Value.pointer (some ⟨bb.1, 0, none⟩)), (9, Value.pointer (some ⟨bb.2, 0, none⟩))]) (fun (t0 : Bool × Sl × Sl × Bool × Sl × Sl) (bb : Nat × Nat) => [(bb.1, [Value.bool t0.1, Sl.toV t0.2.1, Sl.toV t0.2.2.1]), (bb.2, [Value.bool t0.2.2.2.1, Sl.toV t0.2.2.2.2.1, Sl.toV t0.2.2.2.2.2])]) [0, 7] [] H (by exact rfl) (by exact rfl) (fun t0 bb h0u2 H => ?_) (fun J1 H HK1 => ?_)
  ·
   refine AtC.seq ?_
   refine AtC.seqR ?_
   refine AtL.q rfl (Quiet1.loadSP (i := 1) (l := [_, _, _]) hT rfl rfl rfl rfl rfl rfl rfl rfl) ?_
   refine AtL.pures hT 2 _ _ _ _ rfl ?_
   refine AtL.e rfl (EffX.call (f := 35) (sh := fun h => ref02uFits _ _ h _) (H0 := H) rfl Tryz.call35 rfl (hl := fun w m hr hw => lift_ref02uFits _ _ w m hr _ hw)) ?_
   rintro _ _ ⟨v_17, h0u36, rfl, rfl, H⟩
   refine AtL.pures hT 1 _ _ _ _ rfl ?_
   refine AtL.nil ?_
   refine AtE.then_n (AtE.go ?_)
   refine AtC.condB H rfl (fun H => ?_) (fun H => ?_)
   ·
    refine AtC.joinSeq (β := Unit) (fun (t0u1 : Bool) (bb_1 : Unit) => [(6, Value.bool t0u1)]) (fun (t0u1 : Bool) (bb_1 : Unit) => []) [] [] H (by exact rfl) (by exact rfl) (fun t0u1 bb_1 h0u37 H => ?_) (fun J20 H HK20 => ?_)
    ·
     refine AtC.ret ?_
     refine AtE.then_r ?_
     exact AtE.retN (rs := [.tmp 6]) rfl (ResAll.cons (ResAt.tmp rfl) ResAll.nil) rfl H
    ·
     refine AtC.region ?_
     refine AtL.pures hT 1 _ _ _ _ rfl ?_
     refine AtL.e rfl (EffX.call (f := 36) (sh := fun h => nat_Bench_Over _ h _) (H0 := H) rfl Tryz.call36 rfl (hl := fun w m hr hw => lift_nat_Bench_Over _ w m hr _ hw)) ?_
     rintro _ _ ⟨v_18, h0u38, rfl, rfl, H⟩
     refine AtL.pures hT 1 _ _ _ _ rfl ?_
     refine AtL.splitB (t := 24) H rfl (fun H => ?_) (fun H => ?_)
     ·
      refine AtL.yes rfl rfl rfl ?_
      refine AtL.q rfl (Quiet1.loadSP (i := 0) (l := [_, _, _]) hT rfl rfl rfl rfl rfl rfl rfl rfl) ?_
      refine AtL.yes rfl rfl rfl ?_
      refine AtL.q rfl (Quiet1.build (cs := [_, _, _]) hT rfl rfl rfl rfl rfl rfl) ?_
      refine AtL.yes rfl rfl rfl ?_
      refine AtL.e rfl (EffX.call (f := 25) (sh := fun h => ref02uSame _ _ h _) (H0 := H) rfl Tryz.call25 rfl (hl := fun w m hr hw => lift_ref02uSame _ _ w m hr _ hw)) ?_
      rintro _ _ ⟨v_19, h0u39, rfl, rfl, H⟩
      refine AtL.pures hT 2 _ _ _ _ rfl ?_
      refine AtL.nil ?_
      exact AtE.then_n ((HK20 _ () _ H).pickP (ts := [6]) (is := []) rfl rfl (by decide) rfl)
     ·
      refine AtL.noF rfl rfl rfl (by decide) rfl ?_
      refine AtL.noF rfl rfl rfl (by decide) rfl ?_
      refine AtL.noF rfl rfl rfl (by decide) rfl ?_
      refine AtL.pures hT 2 _ _ _ _ rfl ?_
      refine AtL.nil ?_
      exact AtE.then_n ((HK20 _ () _ H).pickP (ts := [6]) (is := []) rfl rfl (by decide) rfl)
   ·
    refine AtC.skip ?_
    refine AtE.then_n (AtE.go ?_)
    refine AtC.joinSeq (β := Unit) (fun (t0u2 : Bool) (bb_2 : Unit) => [(6, Value.bool t0u2)]) (fun (t0u2 : Bool) (bb_2 : Unit) => []) [] [] H (by exact rfl) (by exact rfl) (fun t0u2 bb_2 h0u40 H => ?_) (fun J21 H HK21 => ?_)
    ·
     refine AtC.ret ?_
     exact AtE.retN (rs := [.tmp 6]) rfl (ResAll.cons (ResAt.tmp rfl) ResAll.nil) rfl H
    ·
     refine AtC.region ?_
     refine AtL.pures hT 1 _ _ _ _ rfl ?_
     refine AtL.e rfl (EffX.call (f := 36) (sh := fun h => nat_Bench_Over _ h _) (H0 := H) rfl Tryz.call36 rfl (hl := fun w m hr hw => lift_nat_Bench_Over _ w m hr _ hw)) ?_
     rintro _ _ ⟨v_20, h0u41, rfl, rfl, H⟩
     refine AtL.pures hT 2 _ _ _ _ rfl ?_
     refine AtL.splitB (t := 32) H rfl (fun H => ?_) (fun H => ?_)
     ·
      refine AtL.yes rfl rfl rfl ?_
      refine AtL.q rfl (Quiet1.loadSP (i := 0) (l := [_, _, _]) hT rfl rfl rfl rfl rfl rfl rfl rfl) ?_
      refine AtL.yes rfl rfl rfl ?_
      refine AtL.q rfl (Quiet1.loadSP (i := 1) (l := [_, _, _]) hT rfl rfl rfl rfl rfl rfl rfl rfl) ?_
      refine AtL.yes rfl rfl rfl ?_
      refine AtL.e rfl (EffX.call (f := 25) (sh := fun h => ref02uSame _ _ h _) (H0 := H) rfl Tryz.call25 rfl (hl := fun w m hr hw => lift_ref02uSame _ _ w m hr _ hw)) ?_
      rintro _ _ ⟨v_21, h0u42, rfl, rfl, H⟩
      refine AtL.pures hT 2 _ _ _ _ rfl ?_
      refine AtL.nil ?_
      exact AtE.then_n ((HK21 _ () _ H).pickP (ts := [6]) (is := []) rfl rfl (by decide) rfl)
     ·
      refine AtL.noF rfl rfl rfl (by decide) rfl ?_
      refine AtL.noF rfl rfl rfl (by decide) rfl ?_
      refine AtL.noF rfl rfl rfl (by decide) rfl ?_
      refine AtL.pures hT 2 _ _ _ _ rfl ?_
      refine AtL.nil ?_
      exact AtE.then_n ((HK21 _ () _ H).pickP (ts := [6]) (is := []) rfl rfl (by decide) rfl)
  ·
   apply AtC.stages [2, 4, 5, 6, 7, 8] [[], [], [], [], [2], [], [], [2, 4, 5, 6], [2, 4, 5, 6, 7]] [[], [], [0, 1], [], [0, 1, 2, 3], [], [], [0, 1, 2, 3, 4, 5, 6], [0, 1, 2, 3, 4, 5, 6, 7]] hmix (by kernel_rfl) [(12, _), (13, _), (15, _)] rfl 6 rfl
   refine Stg.go [0, 1, 3] [2, 5, 6] rfl rfl (QAll.cons (QOp.p hT rfl rfl rfl rfl rfl) (QAll.cons (QOp.p hT rfl rfl rfl rfl rfl) (QAll.cons (QOp.q rfl rfl (Quiet1.loadSP (i := 0) (l := [_, _, _]) hT rfl rfl rfl rfl rfl rfl rfl rfl) rfl rfl) QAll.nil))) ?_
   refine EAll.cons ?_ ?_
   ·
    replace H := H.self
    refine EOp.e rfl rfl rfl (EffX.callF (bs := []) (cs := [_, _]) (f := 18) (sh := fun h => law02uRatioTold_c4 _ _ _ h _) (H0 := H) rfl rfl Tryz.call18 rfl (hl := fun w m hr hw => lift_law02uRatioTold_c4 _ _ _ w m hr _ hw)) ?_
    rintro _ _ ⟨v_1, h0u4, rfl, rfl, H⟩
    apply Stg.next [(14, _)] rfl rfl
    refine Stg.go [3] [4, 5, 6] rfl rfl (QAll.cons (QOp.q rfl rfl (Quiet1.loadSP (i := 0) (l := [_, _, _]) hT rfl rfl rfl rfl rfl rfl rfl rfl) rfl rfl) QAll.nil) ?_
    refine EAll.cons ?_ ?_
    ·
     replace H := H.self
     refine EOp.e rfl rfl rfl (EffX.call (f := 27) (sh := fun h => ref02uForm _ h _) (H0 := H) rfl Tryz.call27 rfl (hl := fun w m hr hw => lift_ref02uForm _ w m hr _ hw)) ?_
     rintro _ _ ⟨v_2, h0u6, rfl, rfl, H⟩
     apply Stg.next [(16, _)] rfl rfl
     refine Stg.go [] [5, 6] rfl rfl QAll.nil ?_
     refine EAll.cons ?_ ?_
     ·
      refine EOp.e rfl rfl rfl (EffX.allocP (cs := [_, _, _]) hT rfl rfl H) ?_
      rintro _ _ ⟨b_1, _, rfl, rfl, he1, H⟩
      apply Stg.next [(8, _)] rfl rfl
      refine Stg.go [] [6] rfl rfl QAll.nil ?_
      refine EAll.cons ?_ EAll.nil
      refine EOp.e rfl rfl rfl (EffX.allocP (cs := [_, _, _]) hT rfl rfl H) ?_
      rintro _ _ ⟨b_2, _, rfl, rfl, he2, H⟩
      apply Stg.next [(9, _)] rfl rfl
      refine Stg.go [] [7] rfl rfl QAll.nil ?_
      refine EAll.cons ?_ EAll.nil
      refine EOp.e rfl rfl rfl (EffX.storeSP (i := 1) (qv := [(_, [_, _, _]), (_, [_, _, _]), (_, [_, _, _])]) hT rfl rfl rfl rfl rfl rfl rfl rfl rfl rfl) ?_
      rintro _ _ rfl
      apply Stg.next [] rfl rfl
      refine Stg.go [] [8] rfl rfl QAll.nil ?_
      refine EAll.cons ?_ EAll.nil
      refine EOp.e rfl rfl rfl (EffX.storeSP (i := 0) (qv := [(_, [_, _, _]), (_, [_, _, _]), (_, [_, _, _])]) hT rfl rfl rfl rfl rfl rfl rfl rfl rfl rfl) ?_
      rintro _ _ rfl
      apply Stg.next [] rfl rfl
      refine Stg.fin [] rfl rfl QAll.nil ?_
      replace H := H.self
      exact AtE.then_n ((HK1 _ (b_1, b_2) _ H).pickP (ts := [8, 9, 0, 7]) (is := [1, 0]) rfl rfl (by decide) rfl)
     refine EAll.cons ?_ EAll.nil
     refine EOp.e rfl rfl rfl (EffX.allocP (cs := [_, _, _]) hT rfl rfl H) ?_
     rintro _ _ ⟨b_3, _, rfl, rfl, he3, H⟩
     apply Stg.next [(9, _)] rfl rfl
     refine Stg.go [] [5] rfl rfl QAll.nil ?_
     refine EAll.cons ?_ EAll.nil
     refine EOp.e rfl rfl rfl (EffX.allocP (cs := [_, _, _]) hT rfl rfl H) ?_
     rintro _ _ ⟨b_4, _, rfl, rfl, he4, H⟩
     apply Stg.next [(8, _)] rfl rfl
     refine Stg.go [] [7] rfl rfl QAll.nil ?_
     refine EAll.cons ?_ EAll.nil
     refine EOp.e rfl rfl rfl (EffX.storeSP (i := 0) (qv := [(_, [_, _, _]), (_, [_, _, _]), (_, [_, _, _])]) hT rfl rfl rfl rfl rfl rfl rfl rfl rfl rfl) ?_
     rintro _ _ rfl
     apply Stg.next [] rfl rfl
     refine Stg.go [] [8] rfl rfl QAll.nil ?_
     refine EAll.cons ?_ EAll.nil
     refine EOp.e rfl rfl rfl (EffX.storeSP (i := 1) (qv := [(_, [_, _, _]), (_, [_, _, _]), (_, [_, _, _])]) hT rfl rfl rfl rfl rfl rfl rfl rfl rfl rfl) ?_
     rintro _ _ rfl
     apply Stg.next [] rfl rfl
     refine Stg.fin [] rfl rfl QAll.nil ?_
     replace H := H.self
     exact AtE.then_n ((HK1 _ (b_4, b_3) _ H).pickP (ts := [8, 9, 0, 7]) (is := [0, 1]) rfl rfl (by decide) rfl)
    refine EAll.cons ?_ ?_
    ·
     refine EOp.e rfl rfl rfl (EffX.allocP (cs := [_, _, _]) hT rfl rfl H) ?_
     rintro _ _ ⟨b_5, _, rfl, rfl, he5, H⟩
     apply Stg.next [(8, _)] rfl rfl
     refine Stg.go [3] [4, 6] rfl rfl (QAll.cons (QOp.q rfl rfl (Quiet1.loadSP (i := 1) (l := [_, _, _]) hT rfl rfl rfl rfl rfl rfl rfl rfl) rfl rfl) QAll.nil) ?_
     refine EAll.cons ?_ ?_
     ·
      replace H := H.self
      refine EOp.e rfl rfl rfl (EffX.call (f := 27) (sh := fun h => ref02uForm _ h _) (H0 := H) rfl Tryz.call27 rfl (hl := fun w m hr hw => lift_ref02uForm _ w m hr _ hw)) ?_
      rintro _ _ ⟨v_3, h0u8, rfl, rfl, H⟩
      apply Stg.next [(16, _)] rfl rfl
      refine Stg.go [] [6] rfl rfl QAll.nil ?_
      refine EAll.cons ?_ EAll.nil
      refine EOp.e rfl rfl rfl (EffX.allocP (cs := [_, _, _]) hT rfl rfl H) ?_
      rintro _ _ ⟨b_6, _, rfl, rfl, he6, H⟩
      apply Stg.next [(9, _)] rfl rfl
      refine Stg.go [] [7] rfl rfl QAll.nil ?_
      refine EAll.cons ?_ EAll.nil
      refine EOp.e rfl rfl rfl (EffX.storeSP (i := 1) (qv := [(_, [_, _, _]), (_, [_, _, _]), (_, [_, _, _])]) hT rfl rfl rfl rfl rfl rfl rfl rfl rfl rfl) ?_
      rintro _ _ rfl
      apply Stg.next [] rfl rfl
      refine Stg.go [] [8] rfl rfl QAll.nil ?_
      refine EAll.cons ?_ EAll.nil
      refine EOp.e rfl rfl rfl (EffX.storeSP (i := 0) (qv := [(_, [_, _, _]), (_, [_, _, _]), (_, [_, _, _])]) hT rfl rfl rfl rfl rfl rfl rfl rfl rfl rfl) ?_
      rintro _ _ rfl
      apply Stg.next [] rfl rfl
      refine Stg.fin [] rfl rfl QAll.nil ?_
      replace H := H.self
      exact AtE.then_n ((HK1 _ (b_5, b_6) _ H).pickP (ts := [8, 9, 0, 7]) (is := [1, 0]) rfl rfl (by decide) rfl)
     refine EAll.cons ?_ EAll.nil
     refine EOp.e rfl rfl rfl (EffX.allocP (cs := [_, _, _]) hT rfl rfl H) ?_
     rintro _ _ ⟨b_7, _, rfl, rfl, he7, H⟩
     apply Stg.next [(9, _)] rfl rfl
     refine Stg.go [3] [4] rfl rfl (QAll.cons (QOp.q rfl rfl (Quiet1.loadSP (i := 2) (l := [_, _, _]) hT rfl rfl rfl rfl rfl rfl rfl rfl) rfl rfl) QAll.nil) ?_
     refine EAll.cons ?_ EAll.nil
     replace H := H.self
     refine EOp.e rfl rfl rfl (EffX.call (f := 27) (sh := fun h => ref02uForm _ h _) (H0 := H) rfl Tryz.call27 rfl (hl := fun w m hr hw => lift_ref02uForm _ w m hr _ hw)) ?_
     rintro _ _ ⟨v_4, h0u10, rfl, rfl, H⟩
     apply Stg.next [(16, _)] rfl rfl
     refine Stg.go [] [7] rfl rfl QAll.nil ?_
     refine EAll.cons ?_ EAll.nil
     refine EOp.e rfl rfl rfl (EffX.storeSP (i := 1) (qv := [(_, [_, _, _]), (_, [_, _, _]), (_, [_, _, _])]) hT rfl rfl rfl rfl rfl rfl rfl rfl rfl rfl) ?_
     rintro _ _ rfl
     apply Stg.next [] rfl rfl
     refine Stg.go [] [8] rfl rfl QAll.nil ?_
     refine EAll.cons ?_ EAll.nil
     refine EOp.e rfl rfl rfl (EffX.storeSP (i := 0) (qv := [(_, [_, _, _]), (_, [_, _, _]), (_, [_, _, _])]) hT rfl rfl rfl rfl rfl rfl rfl rfl rfl rfl) ?_
     rintro _ _ rfl
     apply Stg.next [] rfl rfl
     refine Stg.fin [] rfl rfl QAll.nil ?_
     replace H := H.self
     exact AtE.then_n ((HK1 _ (b_5, b_7) _ H).pickP (ts := [8, 9, 0, 7]) (is := [1, 0]) rfl rfl (by decide) rfl)
    refine EAll.cons ?_ EAll.nil
    refine EOp.e rfl rfl rfl (EffX.allocP (cs := [_, _, _]) hT rfl rfl H) ?_
    rintro _ _ ⟨b_8, _, rfl, rfl, he8, H⟩
    apply Stg.next [(9, _)] rfl rfl
    refine Stg.go [3] [4, 5] rfl rfl (QAll.cons (QOp.q rfl rfl (Quiet1.loadSP (i := 1) (l := [_, _, _]) hT rfl rfl rfl rfl rfl rfl rfl rfl) rfl rfl) QAll.nil) ?_
    refine EAll.cons ?_ ?_
    ·
     replace H := H.self
     refine EOp.e rfl rfl rfl (EffX.call (f := 27) (sh := fun h => ref02uForm _ h _) (H0 := H) rfl Tryz.call27 rfl (hl := fun w m hr hw => lift_ref02uForm _ w m hr _ hw)) ?_
     rintro _ _ ⟨v_5, h0u12, rfl, rfl, H⟩
     apply Stg.next [(16, _)] rfl rfl
     refine Stg.go [] [5] rfl rfl QAll.nil ?_
     refine EAll.cons ?_ EAll.nil
     refine EOp.e rfl rfl rfl (EffX.allocP (cs := [_, _, _]) hT rfl rfl H) ?_
     rintro _ _ ⟨b_9, _, rfl, rfl, he9, H⟩
     apply Stg.next [(8, _)] rfl rfl
     refine Stg.go [] [7] rfl rfl QAll.nil ?_
     refine EAll.cons ?_ EAll.nil
     refine EOp.e rfl rfl rfl (EffX.storeSP (i := 0) (qv := [(_, [_, _, _]), (_, [_, _, _]), (_, [_, _, _])]) hT rfl rfl rfl rfl rfl rfl rfl rfl rfl rfl) ?_
     rintro _ _ rfl
     apply Stg.next [] rfl rfl
     refine Stg.go [] [8] rfl rfl QAll.nil ?_
     refine EAll.cons ?_ EAll.nil
     refine EOp.e rfl rfl rfl (EffX.storeSP (i := 1) (qv := [(_, [_, _, _]), (_, [_, _, _]), (_, [_, _, _])]) hT rfl rfl rfl rfl rfl rfl rfl rfl rfl rfl) ?_
     rintro _ _ rfl
     apply Stg.next [] rfl rfl
     refine Stg.fin [] rfl rfl QAll.nil ?_
     replace H := H.self
     exact AtE.then_n ((HK1 _ (b_9, b_8) _ H).pickP (ts := [8, 9, 0, 7]) (is := [0, 1]) rfl rfl (by decide) rfl)
    refine EAll.cons ?_ EAll.nil
    refine EOp.e rfl rfl rfl (EffX.allocP (cs := [_, _, _]) hT rfl rfl H) ?_
    rintro _ _ ⟨b_10, _, rfl, rfl, he10, H⟩
    apply Stg.next [(8, _)] rfl rfl
    refine Stg.go [3] [4] rfl rfl (QAll.cons (QOp.q rfl rfl (Quiet1.loadSP (i := 2) (l := [_, _, _]) hT rfl rfl rfl rfl rfl rfl rfl rfl) rfl rfl) QAll.nil) ?_
    refine EAll.cons ?_ EAll.nil
    replace H := H.self
    refine EOp.e rfl rfl rfl (EffX.call (f := 27) (sh := fun h => ref02uForm _ h _) (H0 := H) rfl Tryz.call27 rfl (hl := fun w m hr hw => lift_ref02uForm _ w m hr _ hw)) ?_
    rintro _ _ ⟨v_6, h0u14, rfl, rfl, H⟩
    apply Stg.next [(16, _)] rfl rfl
    refine Stg.go [] [7] rfl rfl QAll.nil ?_
    refine EAll.cons ?_ EAll.nil
    refine EOp.e rfl rfl rfl (EffX.storeSP (i := 0) (qv := [(_, [_, _, _]), (_, [_, _, _]), (_, [_, _, _])]) hT rfl rfl rfl rfl rfl rfl rfl rfl rfl rfl) ?_
    rintro _ _ rfl
    apply Stg.next [] rfl rfl
    refine Stg.go [] [8] rfl rfl QAll.nil ?_
    refine EAll.cons ?_ EAll.nil
    refine EOp.e rfl rfl rfl (EffX.storeSP (i := 1) (qv := [(_, [_, _, _]), (_, [_, _, _]), (_, [_, _, _])]) hT rfl rfl rfl rfl rfl rfl rfl rfl rfl rfl) ?_
    rintro _ _ rfl
    apply Stg.next [] rfl rfl
    refine Stg.fin [] rfl rfl QAll.nil ?_
    replace H := H.self
    exact AtE.then_n ((HK1 _ (b_10, b_8) _ H).pickP (ts := [8, 9, 0, 7]) (is := [0, 1]) rfl rfl (by decide) rfl)
   refine EAll.cons ?_ ?_
   ·
    refine EOp.e rfl rfl rfl (EffX.allocP (cs := [_, _, _]) hT rfl rfl H) ?_
    rintro _ _ ⟨b_11, _, rfl, rfl, he11, H⟩
    apply Stg.next [(8, _)] rfl rfl
    refine Stg.go [0, 1, 3] [2, 6] rfl rfl (QAll.cons (QOp.p hT rfl rfl rfl rfl rfl) (QAll.cons (QOp.p hT rfl rfl rfl rfl rfl) (QAll.cons (QOp.q rfl rfl (Quiet1.loadSP (i := 1) (l := [_, _, _]) hT rfl rfl rfl rfl rfl rfl rfl rfl) rfl rfl) QAll.nil))) ?_
    refine EAll.cons ?_ ?_
    ·
     replace H := H.self
     refine EOp.e rfl rfl rfl (EffX.callF (bs := []) (cs := [_, _]) (f := 18) (sh := fun h => law02uRatioTold_c4 _ _ _ h _) (H0 := H) rfl rfl Tryz.call18 rfl (hl := fun w m hr hw => lift_law02uRatioTold_c4 _ _ _ w m hr _ hw)) ?_
     rintro _ _ ⟨v_7, h0u16, rfl, rfl, H⟩
     apply Stg.next [(14, _)] rfl rfl
     refine Stg.go [3] [4, 6] rfl rfl (QAll.cons (QOp.q rfl rfl (Quiet1.loadSP (i := 1) (l := [_, _, _]) hT rfl rfl rfl rfl rfl rfl rfl rfl) rfl rfl) QAll.nil) ?_
     refine EAll.cons ?_ ?_
     ·
      replace H := H.self
      refine EOp.e rfl rfl rfl (EffX.call (f := 27) (sh := fun h => ref02uForm _ h _) (H0 := H) rfl Tryz.call27 rfl (hl := fun w m hr hw => lift_ref02uForm _ w m hr _ hw)) ?_
      rintro _ _ ⟨v_8, h0u18, rfl, rfl, H⟩
      apply Stg.next [(16, _)] rfl rfl
      refine Stg.go [] [6] rfl rfl QAll.nil ?_
      refine EAll.cons ?_ EAll.nil
      refine EOp.e rfl rfl rfl (EffX.allocP (cs := [_, _, _]) hT rfl rfl H) ?_
      rintro _ _ ⟨b_12, _, rfl, rfl, he12, H⟩
      apply Stg.next [(9, _)] rfl rfl
      refine Stg.go [] [7] rfl rfl QAll.nil ?_
      refine EAll.cons ?_ EAll.nil
      refine EOp.e rfl rfl rfl (EffX.storeSP (i := 1) (qv := [(_, [_, _, _]), (_, [_, _, _]), (_, [_, _, _])]) hT rfl rfl rfl rfl rfl rfl rfl rfl rfl rfl) ?_
      rintro _ _ rfl
      apply Stg.next [] rfl rfl
      refine Stg.go [] [8] rfl rfl QAll.nil ?_
      refine EAll.cons ?_ EAll.nil
      refine EOp.e rfl rfl rfl (EffX.storeSP (i := 0) (qv := [(_, [_, _, _]), (_, [_, _, _]), (_, [_, _, _])]) hT rfl rfl rfl rfl rfl rfl rfl rfl rfl rfl) ?_
      rintro _ _ rfl
      apply Stg.next [] rfl rfl
      refine Stg.fin [] rfl rfl QAll.nil ?_
      replace H := H.self
      exact AtE.then_n ((HK1 _ (b_11, b_12) _ H).pickP (ts := [8, 9, 0, 7]) (is := [1, 0]) rfl rfl (by decide) rfl)
     refine EAll.cons ?_ EAll.nil
     refine EOp.e rfl rfl rfl (EffX.allocP (cs := [_, _, _]) hT rfl rfl H) ?_
     rintro _ _ ⟨b_13, _, rfl, rfl, he13, H⟩
     apply Stg.next [(9, _)] rfl rfl
     refine Stg.go [3] [4] rfl rfl (QAll.cons (QOp.q rfl rfl (Quiet1.loadSP (i := 2) (l := [_, _, _]) hT rfl rfl rfl rfl rfl rfl rfl rfl) rfl rfl) QAll.nil) ?_
     refine EAll.cons ?_ EAll.nil
     replace H := H.self
     refine EOp.e rfl rfl rfl (EffX.call (f := 27) (sh := fun h => ref02uForm _ h _) (H0 := H) rfl Tryz.call27 rfl (hl := fun w m hr hw => lift_ref02uForm _ w m hr _ hw)) ?_
     rintro _ _ ⟨v_9, h0u20, rfl, rfl, H⟩
     apply Stg.next [(16, _)] rfl rfl
     refine Stg.go [] [7] rfl rfl QAll.nil ?_
     refine EAll.cons ?_ EAll.nil
     refine EOp.e rfl rfl rfl (EffX.storeSP (i := 1) (qv := [(_, [_, _, _]), (_, [_, _, _]), (_, [_, _, _])]) hT rfl rfl rfl rfl rfl rfl rfl rfl rfl rfl) ?_
     rintro _ _ rfl
     apply Stg.next [] rfl rfl
     refine Stg.go [] [8] rfl rfl QAll.nil ?_
     refine EAll.cons ?_ EAll.nil
     refine EOp.e rfl rfl rfl (EffX.storeSP (i := 0) (qv := [(_, [_, _, _]), (_, [_, _, _]), (_, [_, _, _])]) hT rfl rfl rfl rfl rfl rfl rfl rfl rfl rfl) ?_
     rintro _ _ rfl
     apply Stg.next [] rfl rfl
     refine Stg.fin [] rfl rfl QAll.nil ?_
     replace H := H.self
     exact AtE.then_n ((HK1 _ (b_11, b_13) _ H).pickP (ts := [8, 9, 0, 7]) (is := [1, 0]) rfl rfl (by decide) rfl)
    refine EAll.cons ?_ EAll.nil
    refine EOp.e rfl rfl rfl (EffX.allocP (cs := [_, _, _]) hT rfl rfl H) ?_
    rintro _ _ ⟨b_14, _, rfl, rfl, he14, H⟩
    apply Stg.next [(9, _)] rfl rfl
    refine Stg.go [0, 1, 3] [2] rfl rfl (QAll.cons (QOp.p hT rfl rfl rfl rfl rfl) (QAll.cons (QOp.p hT rfl rfl rfl rfl rfl) (QAll.cons (QOp.q rfl rfl (Quiet1.loadSP (i := 2) (l := [_, _, _]) hT rfl rfl rfl rfl rfl rfl rfl rfl) rfl rfl) QAll.nil))) ?_
    refine EAll.cons ?_ EAll.nil
    replace H := H.self
    refine EOp.e rfl rfl rfl (EffX.callF (bs := []) (cs := [_, _]) (f := 18) (sh := fun h => law02uRatioTold_c4 _ _ _ h _) (H0 := H) rfl rfl Tryz.call18 rfl (hl := fun w m hr hw => lift_law02uRatioTold_c4 _ _ _ w m hr _ hw)) ?_
    rintro _ _ ⟨v_10, h0u22, rfl, rfl, H⟩
    apply Stg.next [(14, _)] rfl rfl
    refine Stg.go [3] [4] rfl rfl (QAll.cons (QOp.q rfl rfl (Quiet1.loadSP (i := 2) (l := [_, _, _]) hT rfl rfl rfl rfl rfl rfl rfl rfl) rfl rfl) QAll.nil) ?_
    refine EAll.cons ?_ EAll.nil
    replace H := H.self
    refine EOp.e rfl rfl rfl (EffX.call (f := 27) (sh := fun h => ref02uForm _ h _) (H0 := H) rfl Tryz.call27 rfl (hl := fun w m hr hw => lift_ref02uForm _ w m hr _ hw)) ?_
    rintro _ _ ⟨v_11, h0u24, rfl, rfl, H⟩
    apply Stg.next [(16, _)] rfl rfl
    refine Stg.go [] [7] rfl rfl QAll.nil ?_
    refine EAll.cons ?_ EAll.nil
    refine EOp.e rfl rfl rfl (EffX.storeSP (i := 1) (qv := [(_, [_, _, _]), (_, [_, _, _]), (_, [_, _, _])]) hT rfl rfl rfl rfl rfl rfl rfl rfl rfl rfl) ?_
    rintro _ _ rfl
    apply Stg.next [] rfl rfl
    refine Stg.go [] [8] rfl rfl QAll.nil ?_
    refine EAll.cons ?_ EAll.nil
    refine EOp.e rfl rfl rfl (EffX.storeSP (i := 0) (qv := [(_, [_, _, _]), (_, [_, _, _]), (_, [_, _, _])]) hT rfl rfl rfl rfl rfl rfl rfl rfl rfl rfl) ?_
    rintro _ _ rfl
    apply Stg.next [] rfl rfl
    refine Stg.fin [] rfl rfl QAll.nil ?_
    replace H := H.self
    exact AtE.then_n ((HK1 _ (b_11, b_14) _ H).pickP (ts := [8, 9, 0, 7]) (is := [1, 0]) rfl rfl (by decide) rfl)
   refine EAll.cons ?_ EAll.nil
   refine EOp.e rfl rfl rfl (EffX.allocP (cs := [_, _, _]) hT rfl rfl H) ?_
   rintro _ _ ⟨b_15, _, rfl, rfl, he15, H⟩
   apply Stg.next [(9, _)] rfl rfl
   refine Stg.go [0, 1, 3] [2, 5] rfl rfl (QAll.cons (QOp.p hT rfl rfl rfl rfl rfl) (QAll.cons (QOp.p hT rfl rfl rfl rfl rfl) (QAll.cons (QOp.q rfl rfl (Quiet1.loadSP (i := 1) (l := [_, _, _]) hT rfl rfl rfl rfl rfl rfl rfl rfl) rfl rfl) QAll.nil))) ?_
   refine EAll.cons ?_ ?_
   ·
    replace H := H.self
    refine EOp.e rfl rfl rfl (EffX.callF (bs := []) (cs := [_, _]) (f := 18) (sh := fun h => law02uRatioTold_c4 _ _ _ h _) (H0 := H) rfl rfl Tryz.call18 rfl (hl := fun w m hr hw => lift_law02uRatioTold_c4 _ _ _ w m hr _ hw)) ?_
    rintro _ _ ⟨v_12, h0u26, rfl, rfl, H⟩
    apply Stg.next [(14, _)] rfl rfl
    refine Stg.go [3] [4, 5] rfl rfl (QAll.cons (QOp.q rfl rfl (Quiet1.loadSP (i := 1) (l := [_, _, _]) hT rfl rfl rfl rfl rfl rfl rfl rfl) rfl rfl) QAll.nil) ?_
    refine EAll.cons ?_ ?_
    ·
     replace H := H.self
     refine EOp.e rfl rfl rfl (EffX.call (f := 27) (sh := fun h => ref02uForm _ h _) (H0 := H) rfl Tryz.call27 rfl (hl := fun w m hr hw => lift_ref02uForm _ w m hr _ hw)) ?_
     rintro _ _ ⟨v_13, h0u28, rfl, rfl, H⟩
     apply Stg.next [(16, _)] rfl rfl
     refine Stg.go [] [5] rfl rfl QAll.nil ?_
     refine EAll.cons ?_ EAll.nil
     refine EOp.e rfl rfl rfl (EffX.allocP (cs := [_, _, _]) hT rfl rfl H) ?_
     rintro _ _ ⟨b_16, _, rfl, rfl, he16, H⟩
     apply Stg.next [(8, _)] rfl rfl
     refine Stg.go [] [7] rfl rfl QAll.nil ?_
     refine EAll.cons ?_ EAll.nil
     refine EOp.e rfl rfl rfl (EffX.storeSP (i := 0) (qv := [(_, [_, _, _]), (_, [_, _, _]), (_, [_, _, _])]) hT rfl rfl rfl rfl rfl rfl rfl rfl rfl rfl) ?_
     rintro _ _ rfl
     apply Stg.next [] rfl rfl
     refine Stg.go [] [8] rfl rfl QAll.nil ?_
     refine EAll.cons ?_ EAll.nil
     refine EOp.e rfl rfl rfl (EffX.storeSP (i := 1) (qv := [(_, [_, _, _]), (_, [_, _, _]), (_, [_, _, _])]) hT rfl rfl rfl rfl rfl rfl rfl rfl rfl rfl) ?_
     rintro _ _ rfl
     apply Stg.next [] rfl rfl
     refine Stg.fin [] rfl rfl QAll.nil ?_
     replace H := H.self
     exact AtE.then_n ((HK1 _ (b_16, b_15) _ H).pickP (ts := [8, 9, 0, 7]) (is := [0, 1]) rfl rfl (by decide) rfl)
    refine EAll.cons ?_ EAll.nil
    refine EOp.e rfl rfl rfl (EffX.allocP (cs := [_, _, _]) hT rfl rfl H) ?_
    rintro _ _ ⟨b_17, _, rfl, rfl, he17, H⟩
    apply Stg.next [(8, _)] rfl rfl
    refine Stg.go [3] [4] rfl rfl (QAll.cons (QOp.q rfl rfl (Quiet1.loadSP (i := 2) (l := [_, _, _]) hT rfl rfl rfl rfl rfl rfl rfl rfl) rfl rfl) QAll.nil) ?_
    refine EAll.cons ?_ EAll.nil
    replace H := H.self
    refine EOp.e rfl rfl rfl (EffX.call (f := 27) (sh := fun h => ref02uForm _ h _) (H0 := H) rfl Tryz.call27 rfl (hl := fun w m hr hw => lift_ref02uForm _ w m hr _ hw)) ?_
    rintro _ _ ⟨v_14, h0u30, rfl, rfl, H⟩
    apply Stg.next [(16, _)] rfl rfl
    refine Stg.go [] [7] rfl rfl QAll.nil ?_
    refine EAll.cons ?_ EAll.nil
    refine EOp.e rfl rfl rfl (EffX.storeSP (i := 0) (qv := [(_, [_, _, _]), (_, [_, _, _]), (_, [_, _, _])]) hT rfl rfl rfl rfl rfl rfl rfl rfl rfl rfl) ?_
    rintro _ _ rfl
    apply Stg.next [] rfl rfl
    refine Stg.go [] [8] rfl rfl QAll.nil ?_
    refine EAll.cons ?_ EAll.nil
    refine EOp.e rfl rfl rfl (EffX.storeSP (i := 1) (qv := [(_, [_, _, _]), (_, [_, _, _]), (_, [_, _, _])]) hT rfl rfl rfl rfl rfl rfl rfl rfl rfl rfl) ?_
    rintro _ _ rfl
    apply Stg.next [] rfl rfl
    refine Stg.fin [] rfl rfl QAll.nil ?_
    replace H := H.self
    exact AtE.then_n ((HK1 _ (b_17, b_15) _ H).pickP (ts := [8, 9, 0, 7]) (is := [0, 1]) rfl rfl (by decide) rfl)
   refine EAll.cons ?_ EAll.nil
   refine EOp.e rfl rfl rfl (EffX.allocP (cs := [_, _, _]) hT rfl rfl H) ?_
   rintro _ _ ⟨b_18, _, rfl, rfl, he18, H⟩
   apply Stg.next [(8, _)] rfl rfl
   refine Stg.go [0, 1, 3] [2] rfl rfl (QAll.cons (QOp.p hT rfl rfl rfl rfl rfl) (QAll.cons (QOp.p hT rfl rfl rfl rfl rfl) (QAll.cons (QOp.q rfl rfl (Quiet1.loadSP (i := 2) (l := [_, _, _]) hT rfl rfl rfl rfl rfl rfl rfl rfl) rfl rfl) QAll.nil))) ?_
   refine EAll.cons ?_ EAll.nil
   replace H := H.self
   refine EOp.e rfl rfl rfl (EffX.callF (bs := []) (cs := [_, _]) (f := 18) (sh := fun h => law02uRatioTold_c4 _ _ _ h _) (H0 := H) rfl rfl Tryz.call18 rfl (hl := fun w m hr hw => lift_law02uRatioTold_c4 _ _ _ w m hr _ hw)) ?_
   rintro _ _ ⟨v_15, h0u32, rfl, rfl, H⟩
   apply Stg.next [(14, _)] rfl rfl
   refine Stg.go [3] [4] rfl rfl (QAll.cons (QOp.q rfl rfl (Quiet1.loadSP (i := 2) (l := [_, _, _]) hT rfl rfl rfl rfl rfl rfl rfl rfl) rfl rfl) QAll.nil) ?_
   refine EAll.cons ?_ EAll.nil
   replace H := H.self
   refine EOp.e rfl rfl rfl (EffX.call (f := 27) (sh := fun h => ref02uForm _ h _) (H0 := H) rfl Tryz.call27 rfl (hl := fun w m hr hw => lift_ref02uForm _ w m hr _ hw)) ?_
   rintro _ _ ⟨v_16, h0u34, rfl, rfl, H⟩
   apply Stg.next [(16, _)] rfl rfl
   refine Stg.go [] [7] rfl rfl QAll.nil ?_
   refine EAll.cons ?_ EAll.nil
   refine EOp.e rfl rfl rfl (EffX.storeSP (i := 0) (qv := [(_, [_, _, _]), (_, [_, _, _]), (_, [_, _, _])]) hT rfl rfl rfl rfl rfl rfl rfl rfl rfl rfl) ?_
   rintro _ _ rfl
   apply Stg.next [] rfl rfl
   refine Stg.go [] [8] rfl rfl QAll.nil ?_
   refine EAll.cons ?_ EAll.nil
   refine EOp.e rfl rfl rfl (EffX.storeSP (i := 1) (qv := [(_, [_, _, _]), (_, [_, _, _]), (_, [_, _, _])]) hT rfl rfl rfl rfl rfl rfl rfl rfl rfl rfl) ?_
   rintro _ _ rfl
   apply Stg.next [] rfl rfl
   refine Stg.fin [] rfl rfl QAll.nil ?_
   replace H := H.self
   exact AtE.then_n ((HK1 _ (b_18, b_15) _ H).pickP (ts := [8, 9, 0, 7]) (is := [0, 1]) rfl rfl (by decide) rfl)

theorem lift_law02uRatioTold (limbs : Int) (x0 : Bool × Sl × Sl) (y : Bool × Sl × Sl) (w : World) (m : Heap) (hr : Rel ⟨m, []⟩ w.heap) (S : Bool → Heap → Prop) (H : law02uRatioTold limbs x0 y m S) :
    Calls Tryz.prog 3 #[Value.int .i64 limbs, Value.agg (C_bool_sl_sl x0).toArray, Value.agg (C_bool_sl_sl y).toArray] w (Post ⟨w, m⟩ Value.bool S) := by
  refine Calls.lift (args := [Value.int .i64 limbs, Value.agg (C_bool_sl_sl x0).toArray, Value.agg (C_bool_sl_sl y).toArray]) Tryz.func3 rfl Tryz.ntmps3 (Nat.le_of_ble_eq_true rfl) hr (law02uRatioTold limbs x0 y m S) H (fun H => ?_)
  refine AtC.pick (ts := [0, 1, 2]) rfl ?_
  unfold law02uRatioTold at H
  refine AtC.seqR ?_
  refine AtL.e rfl (EffX.box (cs := [_, _, _]) rfl rfl rfl H) ?_
  rintro _ _ ⟨x0u1, h0, rfl, rfl, H⟩
  refine AtL.e rfl (EffX.box (cs := [_, _, _]) rfl rfl rfl H) ?_
  rintro _ _ ⟨y_1, h0u1, rfl, rfl, H⟩
  refine AtL.pures hT 1 _ _ _ _ rfl ?_
  refine AtL.nil ?_
  refine AtE.then_n (AtE.go ?_)
  refine AtC.seq ?_
  refine AtC.seqR ?_
  refine AtL.e rfl (EffX.call (f := 4) (sh := fun h => law02uspeaks h _) (H0 := H) rfl Tryz.call4 rfl (hl := fun w m hr hw => lift_law02uspeaks  w m hr _ hw)) ?_
  rintro _ _ ⟨v, h0u2, rfl, rfl, H⟩
  refine AtL.pures hT 1 _ _ _ _ rfl ?_
  refine AtL.nil ?_
  refine AtE.then_n (AtE.go ?_)
  refine AtC.condB H rfl (fun H => ?_) (fun H => ?_)
  ·
   refine AtC.seqR ?_
   refine AtL.pures hT 1 _ _ _ _ rfl ?_
   refine AtL.nil ?_
   refine AtE.then_n (AtE.go ?_)
   refine AtC.ret ?_
   refine AtE.then_r ?_
   exact AtE.retN (rs := [.tmp 6]) rfl (ResAll.cons (ResAt.tmp rfl) ResAll.nil) rfl H
  ·
   refine AtC.skip ?_
   refine AtE.then_n (AtE.go ?_)
   refine AtC.seq ?_
   refine AtC.joinSeq (β := Unit) (fun (t0 : Bool) (bb : Unit) => [(25, Value.bool t0)]) (fun (t0 : Bool) (bb : Unit) => []) [0, 4, 5] [] H (by exact rfl) (by exact rfl) (fun t0 bb h0u3 H => ?_) (fun J1 H HK1 => ?_)
   ·
    refine AtC.condB H rfl (fun H => ?_) (fun H => ?_)
    ·
     refine AtC.seqR ?_
     refine AtL.pures hT 1 _ _ _ _ rfl ?_
     refine AtL.nil ?_
     refine AtE.then_n (AtE.go ?_)
     refine AtC.ret ?_
     refine AtE.then_r ?_
     exact AtE.retN (rs := [.tmp 6]) rfl (ResAll.cons (ResAt.tmp rfl) ResAll.nil) rfl H
    ·
     refine AtC.skip ?_
     refine AtE.then_n (AtE.go ?_)
     refine AtC.joinSeq (β := Nat × Nat) (fun (t0u1 : Bool × Sl × Sl × Bool × Sl × Sl) (bb_1 : Nat × Nat) => [(7, Value.pointer (some ⟨bb_1.1, 0, none⟩)), (8, Value.pointer (some ⟨bb_1.2, 0, none⟩))]) (fun (t0u1 : Bool × Sl × Sl × Bool × Sl × Sl) (bb_1 : Nat × Nat) => [(bb_1.1, [Value.bool t0u1.1, Sl.toV t0u1.2.1, Sl.toV t0u1.2.2.1]), (bb_1.2, [Value.bool t0u1.2.2.2.1, Sl.toV t0u1.2.2.2.2.1, Sl.toV t0u1.2.2.2.2.2])]) [0, 4, 5] [] H (by exact rfl) (by exact rfl) (fun t0u1 bb_1 h0u8 H => ?_) (fun J6 H HK6 => ?_)
     ·
      refine AtC.joinSeq (β := Unit) (fun (t0u2 : Bool) (bb_2 : Unit) => [(9, Value.bool t0u2)]) (fun (t0u2 : Bool) (bb_2 : Unit) => []) [4, 5, 7, 8] [0, 1] H (by exact rfl) (by exact rfl) (fun t0u2 bb_2 h0u42 H => ?_) (fun J32 H HK32 => ?_)
      ·
       refine AtC.joinSeq (β := Unit) (fun (t0u3 : Bool) (bb_3 : Unit) => [(6, Value.bool t0u3)]) (fun (t0u3 : Bool) (bb_3 : Unit) => []) [] [] H (by exact rfl) (by exact rfl) (fun t0u3 bb_3 h0u52 H => ?_) (fun J36 H HK36 => ?_)
       ·
        refine AtC.ret ?_
        exact AtE.retN (rs := [.tmp 6]) rfl (ResAll.cons (ResAt.tmp rfl) ResAll.nil) rfl H
       ·
        rcases iteB.cases H with ⟨hb36, H⟩ | ⟨hb36, H⟩
        ·
         obtain ⟨v_36, hc37, H⟩ := H
         obtain ⟨v_37, hc38, H⟩ := H
         apply AtC.stages [4, 7, 12, 14, 15, 20, 22, 23, 24, 28, 30, 35, 37] [[], [], [], [], [], [], [], [4], [4, 7], [4, 7], [4, 7], [4, 7], [4, 7], [4, 7], [4, 7, 12], [4, 7, 12, 14], [4, 7, 12, 14, 15], [4, 7, 12, 14, 15], [4, 7, 12, 14, 15], [4, 7, 12, 14, 15], [4, 7, 12, 14, 15], [4, 7, 12, 14, 15], [4, 7, 12, 14, 15, 20], [4, 7, 12, 14, 15, 20, 22], [4, 7, 12, 14, 15, 20, 22, 23], [4, 7, 12, 14, 15, 20, 22, 23, 24], [4, 7, 12, 14, 15, 20, 22, 23, 24], [4, 7, 12, 14, 15, 20, 22, 23, 24], [4, 7, 12, 14, 15, 20, 22, 23, 24], [4, 7, 12, 14, 15, 20, 22, 23, 24], [4, 7, 12, 14, 15, 20, 22, 23, 24, 28], [4, 7, 12, 14, 15, 20, 22, 23, 24, 28, 30], [4, 7, 12, 14, 15, 20, 22, 23, 24, 28, 30], [4, 7, 12, 14, 15, 20, 22, 23, 24, 28, 30], [4, 7, 12, 14, 15, 20, 22, 23, 24, 28, 30], [4, 7, 12, 14, 15, 20, 22, 23, 24, 28, 30], [4, 7, 12, 14, 15, 20, 22, 23, 24, 28, 30], [4, 7, 12, 14, 15, 20, 22, 23, 24, 28, 30, 35], [4, 7, 12, 14, 15, 20, 22, 23, 24, 28, 30, 35, 37], [4, 7, 12, 14, 15, 20, 22, 23, 24, 28, 30, 35, 37], [4, 7, 12, 14, 15, 20, 22, 23, 24, 28, 30, 35, 37]] [[], [0], [0, 1], [0, 1], [0, 1, 2, 3], [0, 1], [0, 1], [0, 1, 2, 3, 4, 5, 6], [0, 1, 2, 3, 4, 5, 6, 7], [0, 1, 2, 3, 4, 5, 6, 7, 8], [0, 1, 2, 3, 4, 5, 6, 7, 8, 9], [0, 1, 2, 3, 4, 5, 6, 7, 8, 9, 10], [0, 1, 2, 3, 4, 5, 6, 7, 8, 9, 10, 11], [0, 1, 2, 3, 4, 5, 6, 7, 8, 9, 10], [0, 1, 2, 3, 4, 5, 6, 7, 8, 9, 10, 11, 12], [0, 1, 2, 3, 4, 5, 6, 7, 8, 9, 10, 11, 12, 13, 14], [0, 1, 2, 3, 4, 5, 6, 7, 8, 9, 10, 11, 12, 13, 14, 15], [0, 1, 2, 3, 4, 5, 6, 7, 8, 9, 10, 11, 12, 13, 14, 15, 16], [0, 1, 2, 3, 4, 5, 6, 7, 8, 9, 10, 11, 12, 13, 14, 15, 16, 17], [0, 1, 2, 3, 4, 5, 6, 7, 8, 9, 10, 11, 12, 13, 14, 15, 16, 17, 18], [0, 1, 2, 3, 4, 5, 6, 7, 8, 9, 10, 11, 12, 13, 14, 15, 16, 17, 18, 19], [0, 1, 2, 3, 4, 5, 6, 7, 8, 9, 10, 11, 12, 13, 14, 15, 16, 17, 18], [0, 1, 2, 3, 4, 5, 6, 7, 8, 9, 10, 11, 12, 13, 14, 15, 16, 17, 18, 19, 20, 21], [0, 1, 2, 3, 4, 5, 6, 7, 8, 9, 10, 11, 12, 13, 14, 15, 16, 17, 18, 19, 20, 21, 22], [0, 1, 2, 3, 4, 5, 6, 7, 8, 9, 10, 11, 12, 13, 14, 15, 16, 17, 18, 19, 20, 21, 22, 23], [0, 1, 2, 3, 4, 5, 6, 7, 8, 9, 10, 11, 12, 13, 14, 15, 16, 17, 18, 19, 20, 21, 22, 23, 24], [0, 1, 2, 3, 4, 5, 6, 7, 8, 9, 10, 11, 12, 13, 14, 15, 16, 17, 18, 19, 20, 21, 22, 23, 24, 25], [0, 1, 2, 3, 4, 5, 6, 7, 8, 9, 10, 11, 12, 13, 14, 15, 16, 17, 18, 19, 20, 21, 22, 23, 24, 25, 26], [0, 1, 2, 3, 4, 5, 6, 7, 8, 9, 10, 11, 12, 13, 14, 15, 16, 17, 18, 19, 20, 21, 22, 23, 24, 25, 26, 27], [0, 1, 2, 3, 4, 5, 6, 7, 8, 9, 10, 11, 12, 13, 14, 15, 16, 17, 18, 19, 20, 21, 22, 23, 24, 25, 26], [0, 1, 2, 3, 4, 5, 6, 7, 8, 9, 10, 11, 12, 13, 14, 15, 16, 17, 18, 19, 20, 21, 22, 23, 24, 25, 26, 27, 28, 29], [0, 1, 2, 3, 4, 5, 6, 7, 8, 9, 10, 11, 12, 13, 14, 15, 16, 17, 18, 19, 20, 21, 22, 23, 24, 25, 26, 27, 28, 29, 30], [0, 1, 2, 3, 4, 5, 6, 7, 8, 9, 10, 11, 12, 13, 14, 15, 16, 17, 18, 19, 20, 21, 22, 23, 24, 25, 26, 27, 28, 29, 30, 31], [0, 1, 2, 3, 4, 5, 6, 7, 8, 9, 10, 11, 12, 13, 14, 15, 16, 17, 18, 19, 20, 21, 22, 23, 24, 25, 26, 27, 28, 29, 30, 31, 32], [0, 1, 2, 3, 4, 5, 6, 7, 8, 9, 10, 11, 12, 13, 14, 15, 16, 17, 18, 19, 20, 21, 22, 23, 24, 25, 26, 27, 28, 29, 30, 31, 32, 33], [0, 1, 2, 3, 4, 5, 6, 7, 8, 9, 10, 11, 12, 13, 14, 15, 16, 17, 18, 19, 20, 21, 22, 23, 24, 25, 26, 27, 28, 29, 30, 31, 32, 33, 34], [0, 1, 2, 3, 4, 5, 6, 7, 8, 9, 10, 11, 12, 13, 14, 15, 16, 17, 18, 19, 20, 21, 22, 23, 24, 25, 26, 27, 28, 29, 30, 31, 32, 33], [0, 1, 2, 3, 4, 5, 6, 7, 8, 9, 10, 11, 12, 13, 14, 15, 16, 17, 18, 19, 20, 21, 22, 23, 24, 25, 26, 27, 28, 29, 30, 31, 32, 33, 34, 35, 36], [0, 1, 2, 3, 4, 5, 6, 7, 8, 9, 10, 11, 12, 13, 14, 15, 16, 17, 18, 19, 20, 21, 22, 23, 24, 25, 26, 27, 28, 29, 30, 31, 32, 33, 34, 35, 36, 37], [0, 1, 2, 3, 4, 5, 6, 7, 8, 9, 10, 11, 12, 13, 14, 15, 16, 17, 18, 19, 20, 21, 22, 23, 24, 25, 26, 27, 28, 29, 30, 31, 32, 33, 34, 35, 36, 37, 38], [0, 1, 2, 3, 4, 5, 6, 7, 8, 9, 10, 11, 12, 13, 14, 15, 16, 17, 18, 19, 20, 21, 22, 23, 24, 25, 26, 27, 28, 29, 30, 31, 32, 33, 34, 35, 36, 37, 38, 39]] hmix (by kernel_rfl) [(61, _), (62, _), (63, _), (64, _), (66, _), (67, _)] rfl 13 rfl
         refine Stg.known (t := 62) rfl hb36 ?_
         refine Stg.go [0, 1, 2, 3, 5, 6] [4] rfl rfl (QAll.cons (QOp.p hT rfl rfl rfl rfl rfl) (QAll.cons (QOp.pk hT rfl rfl rfl rfl hb36 rfl) (QAll.cons (QOp.y rfl rfl rfl rfl (Quiet1.loadS hT rfl rfl rfl rfl hc37) rfl rfl) (QAll.cons (QOp.y rfl rfl rfl rfl (Quiet1.loadS hT rfl rfl rfl rfl hc38) rfl rfl) (QAll.cons (QOp.y rfl rfl rfl rfl (Quiet1.loadSP (i := 0) (l := [_, _, _]) hT rfl rfl rfl rfl rfl rfl rfl rfl) rfl rfl) (QAll.cons (QOp.y rfl rfl rfl rfl (Quiet1.loadSP (i := 1) (l := [_, _, _]) hT rfl rfl rfl rfl rfl rfl rfl rfl) rfl rfl) QAll.nil)))))) ?_
         refine EAll.cons ?_ EAll.nil
         refine EOp.y rfl rfl rfl rfl rfl (EffX.call (f := 21) (sh := fun h => ratio_Cmp _ _ h _) (H0 := H) rfl Tryz.call21 rfl (hl := fun w m hr hw => lift_ratio_Cmp _ _ w m hr _ hw)) ?_
         rintro _ _ ⟨v_38, h0u53, rfl, rfl, H⟩
         apply Stg.next [(65, _)] rfl rfl
         refine Stg.go [5, 6] [7] rfl rfl (QAll.cons (QOp.y rfl rfl rfl rfl (Quiet1.loadSP (i := 0) (l := [_, _, _]) hT rfl rfl rfl rfl rfl rfl rfl rfl) rfl rfl) (QAll.cons (QOp.y rfl rfl rfl rfl (Quiet1.loadSP (i := 1) (l := [_, _, _]) hT rfl rfl rfl rfl rfl rfl rfl rfl) rfl rfl) QAll.nil)) ?_
         refine EAll.cons ?_ EAll.nil
         refine EOp.y rfl rfl rfl rfl rfl (EffX.call (f := 22) (sh := fun h => ref02uCmp _ _ h _) (H0 := H) rfl Tryz.call22 rfl (hl := fun w m hr hw => lift_ref02uCmp _ _ w m hr _ hw)) ?_
         rintro _ _ ⟨v_39, h0u54, rfl, rfl, H⟩
         rcases iteB.cases H with ⟨hb39, H⟩ | ⟨hb39, H⟩
         ·
          obtain ⟨v_40, hc40, H⟩ := H
          apply Stg.next [(68, _), (69, _), (70, _), (71, _), (72, _), (74, _)] rfl rfl
          refine Stg.known (t := 71) rfl hb39 ?_
          refine Stg.go [8, 9, 10, 11, 13] [12] rfl rfl (QAll.cons (QOp.yp hT rfl rfl rfl rfl rfl rfl rfl) (QAll.cons (QOp.p hT rfl rfl rfl rfl rfl) (QAll.cons (QOp.pk hT rfl rfl rfl rfl hb39 rfl) (QAll.cons (QOp.y rfl rfl rfl rfl (Quiet1.loadS hT rfl rfl rfl rfl hc40) rfl rfl) (QAll.cons (QOp.y rfl rfl rfl rfl (Quiet1.loadSP (i := 0) (l := [_, _, _]) hT rfl rfl rfl rfl rfl rfl rfl rfl) rfl rfl) QAll.nil))))) ?_
          refine EAll.cons ?_ EAll.nil
          refine EOp.y rfl rfl rfl rfl rfl (EffX.call (f := 23) (sh := fun h => ratio_Sign _ h _) (H0 := H) rfl Tryz.call23 rfl (hl := fun w m hr hw => lift_ratio_Sign _ w m hr _ hw)) ?_
          rintro _ _ ⟨v_41, h0u55, rfl, rfl, H⟩
          apply Stg.next [(73, _)] rfl rfl
          refine Stg.go [13] [14] rfl rfl (QAll.cons (QOp.y rfl rfl rfl rfl (Quiet1.loadSP (i := 0) (l := [_, _, _]) hT rfl rfl rfl rfl rfl rfl rfl rfl) rfl rfl) QAll.nil) ?_
          refine EAll.cons ?_ EAll.nil
          refine EOp.y rfl rfl rfl rfl rfl (EffX.call (f := 24) (sh := fun h => ref02uInt _ h _) (H0 := H) rfl Tryz.call24 rfl (hl := fun w m hr hw => lift_ref02uInt _ w m hr _ hw)) ?_
          rintro _ _ ⟨v_42, h0u56, rfl, rfl, H⟩
          apply Stg.next [(75, _)] rfl rfl
          refine Stg.go [13] [15] rfl rfl (QAll.cons (QOp.y rfl rfl rfl rfl (Quiet1.loadSP (i := 0) (l := [_, _, _]) hT rfl rfl rfl rfl rfl rfl rfl rfl) rfl rfl) QAll.nil) ?_
          refine EAll.cons ?_ EAll.nil
          refine EOp.y rfl rfl rfl rfl rfl (EffX.call (f := 22) (sh := fun h => ref02uCmp _ _ h _) (H0 := H) rfl Tryz.call22 rfl (hl := fun w m hr hw => lift_ref02uCmp _ _ w m hr _ hw)) ?_
          rintro _ _ ⟨v_43, h0u57, rfl, rfl, H⟩
          rcases iteB.cases H with ⟨hb41, H⟩ | ⟨hb41, H⟩
          ·
           obtain ⟨v_44, hc42, H⟩ := H
           apply Stg.next [(76, _), (77, _), (78, _), (79, _), (80, _), (82, _)] rfl rfl
           refine Stg.known (t := 79) rfl hb41 ?_
           refine Stg.go [16, 17, 18, 19, 21] [20] rfl rfl (QAll.cons (QOp.yp hT rfl rfl rfl rfl rfl rfl rfl) (QAll.cons (QOp.p hT rfl rfl rfl rfl rfl) (QAll.cons (QOp.pk hT rfl rfl rfl rfl hb41 rfl) (QAll.cons (QOp.y rfl rfl rfl rfl (Quiet1.loadS hT rfl rfl rfl rfl hc42) rfl rfl) (QAll.cons (QOp.y rfl rfl rfl rfl (Quiet1.loadSP (i := 0) (l := [_, _, _]) hT rfl rfl rfl rfl rfl rfl rfl rfl) rfl rfl) QAll.nil))))) ?_
           refine EAll.cons ?_ EAll.nil
           refine EOp.y rfl rfl rfl rfl rfl (EffX.call (f := 26) (sh := fun h => ratio_Neg _ h _) (H0 := H) rfl Tryz.call26 rfl (hl := fun w m hr hw => lift_ratio_Neg _ w m hr _ hw)) ?_
           rintro _ _ ⟨v_45, h0u58, rfl, rfl, H⟩
           apply Stg.next [(81, _)] rfl rfl
           refine Stg.go [21] [22] rfl rfl (QAll.cons (QOp.y rfl rfl rfl rfl (Quiet1.loadSP (i := 0) (l := [_, _, _]) hT rfl rfl rfl rfl rfl rfl rfl rfl) rfl rfl) QAll.nil) ?_
           refine EAll.cons ?_ EAll.nil
           refine EOp.y rfl rfl rfl rfl rfl (EffX.call (f := 14) (sh := fun h => ref02uNeg _ h _) (H0 := H) rfl Tryz.call14 rfl (hl := fun w m hr hw => lift_ref02uNeg _ w m hr _ hw)) ?_
           rintro _ _ ⟨v_46, h0u59, rfl, rfl, H⟩
           apply Stg.next [(83, _)] rfl rfl
           refine Stg.go [] [23] rfl rfl QAll.nil ?_
           refine EAll.cons ?_ EAll.nil
           refine EOp.y rfl rfl rfl rfl rfl (EffX.call (f := 27) (sh := fun h => ref02uForm _ h _) (H0 := H) rfl Tryz.call27 rfl (hl := fun w m hr hw => lift_ref02uForm _ w m hr _ hw)) ?_
           rintro _ _ ⟨v_47, h0u60, rfl, rfl, H⟩
           apply Stg.next [(84, _)] rfl rfl
           refine Stg.go [] [24] rfl rfl QAll.nil ?_
           refine EAll.cons ?_ EAll.nil
           refine EOp.y rfl rfl rfl rfl rfl (EffX.call (f := 25) (sh := fun h => ref02uSame _ _ h _) (H0 := H) rfl Tryz.call25 rfl (hl := fun w m hr hw => lift_ref02uSame _ _ w m hr _ hw)) ?_
           rintro _ _ ⟨v_48, h0u61, rfl, rfl, H⟩
           rcases iteB.cases H with ⟨hb43, H⟩ | ⟨hb43, H⟩
           ·
            obtain ⟨v_49, hc44, H⟩ := H
            apply Stg.next [(85, _), (86, _), (87, _), (88, _), (90, _)] rfl rfl
            refine Stg.known (t := 87) rfl hb43 ?_
            refine Stg.go [25, 26, 27, 29] [28] rfl rfl (QAll.cons (QOp.p hT rfl rfl rfl rfl rfl) (QAll.cons (QOp.pk hT rfl rfl rfl rfl hb43 rfl) (QAll.cons (QOp.y rfl rfl rfl rfl (Quiet1.loadS hT rfl rfl rfl rfl hc44) rfl rfl) (QAll.cons (QOp.y rfl rfl rfl rfl (Quiet1.loadSP (i := 0) (l := [_, _, _]) hT rfl rfl rfl rfl rfl rfl rfl rfl) rfl rfl) QAll.nil)))) ?_
            refine EAll.cons ?_ EAll.nil
            refine EOp.y rfl rfl rfl rfl rfl (EffX.call (f := 28) (sh := fun h => ratio_Text _ h _) (H0 := H) rfl Tryz.call28 rfl (hl := fun w m hr hw => lift_ratio_Text _ w m hr _ hw)) ?_
            rintro _ _ ⟨v_50, h0u62, rfl, rfl, H⟩
            apply Stg.next [(89, _)] rfl rfl
            refine Stg.go [29] [30] rfl rfl (QAll.cons (QOp.y rfl rfl rfl rfl (Quiet1.loadSP (i := 0) (l := [_, _, _]) hT rfl rfl rfl rfl rfl rfl rfl rfl) rfl rfl) QAll.nil) ?_
            refine EAll.cons ?_ EAll.nil
            refine EOp.y rfl rfl rfl rfl rfl (EffX.call (f := 29) (sh := fun h => ref02uText _ h _) (H0 := H) rfl Tryz.call29 rfl (hl := fun w m hr hw => lift_ref02uText _ w m hr _ hw)) ?_
            rintro _ _ ⟨v_51, h0u63, rfl, rfl, H⟩
            rcases iteB.cases H with ⟨hb45, H⟩ | ⟨hb45, H⟩
            ·
             obtain ⟨v_52, hc46, H⟩ := H
             apply Stg.next [(91, _), (92, _), (93, _), (94, _), (95, _), (97, _)] rfl rfl
             refine Stg.known (t := 94) rfl hb45 ?_
             refine Stg.go [31, 32, 33, 34, 36] [35] rfl rfl (QAll.cons (QOp.yp hT rfl rfl rfl rfl rfl rfl rfl) (QAll.cons (QOp.p hT rfl rfl rfl rfl rfl) (QAll.cons (QOp.pk hT rfl rfl rfl rfl hb45 rfl) (QAll.cons (QOp.y rfl rfl rfl rfl (Quiet1.loadS hT rfl rfl rfl rfl hc46) rfl rfl) (QAll.cons (QOp.y rfl rfl rfl rfl (Quiet1.loadSP (i := 0) (l := [_, _, _]) hT rfl rfl rfl rfl rfl rfl rfl rfl) rfl rfl) QAll.nil))))) ?_
             refine EAll.cons ?_ EAll.nil
             refine EOp.y rfl rfl rfl rfl rfl (EffX.call (f := 30) (sh := fun h => ratio_Term _ h _) (H0 := H) rfl Tryz.call30 rfl (hl := fun w m hr hw => lift_ratio_Term _ w m hr _ hw)) ?_
             rintro _ _ ⟨v_53, h0u64, rfl, rfl, H⟩
             apply Stg.next [(96, _)] rfl rfl
             refine Stg.go [36] [37] rfl rfl (QAll.cons (QOp.y rfl rfl rfl rfl (Quiet1.loadSP (i := 0) (l := [_, _, _]) hT rfl rfl rfl rfl rfl rfl rfl rfl) rfl rfl) QAll.nil) ?_
             refine EAll.cons ?_ EAll.nil
             refine EOp.y rfl rfl rfl rfl rfl (EffX.call (f := 31) (sh := fun h => ref02uTerm _ h _) (H0 := H) rfl Tryz.call31 rfl (hl := fun w m hr hw => lift_ref02uTerm _ w m hr _ hw)) ?_
             rintro _ _ ⟨v_54, h0u65, rfl, rfl, H⟩
             apply Stg.next [(98, _), (99, _), (100, _), (6, _)] rfl rfl
             refine Stg.fin [38, 39, 40] rfl rfl (QAll.cons (QOp.yp hT rfl rfl rfl rfl rfl rfl rfl) (QAll.cons (QOp.p hT rfl rfl rfl rfl rfl) (QAll.cons (QOp.p hT rfl rfl rfl rfl rfl) QAll.nil))) ?_
             exact AtE.then_n ((HK36 _ () _ H).pickP (ts := [6]) (is := []) rfl rfl (by decide) rfl)
            ·
             apply Stg.next [(91, _), (92, _), (93, _), (94, _), (95, _), (97, _)] rfl rfl
             refine Stg.known (t := 94) rfl hb45 ?_
             refine Stg.go [31, 32, 33, 34, 36] [35] rfl rfl (QAll.cons (QOp.yp hT rfl rfl rfl rfl rfl rfl rfl) (QAll.cons (QOp.p hT rfl rfl rfl rfl rfl) (QAll.cons (QOp.pk hT rfl rfl rfl rfl hb45 rfl) (QAll.cons (QOp.no rfl rfl rfl rfl (by decide) rfl rfl) (QAll.cons (QOp.no rfl rfl rfl rfl (by decide) rfl rfl) QAll.nil))))) ?_
             refine EAll.cons ?_ EAll.nil
             refine EOp.no rfl rfl rfl rfl (by decide) rfl ?_
             apply Stg.next [(96, _)] rfl rfl
             refine Stg.go [36] [37] rfl rfl (QAll.cons (QOp.no rfl rfl rfl rfl (by decide) rfl rfl) QAll.nil) ?_
             refine EAll.cons ?_ EAll.nil
             refine EOp.no rfl rfl rfl rfl (by decide) rfl ?_
             apply Stg.next [(98, _), (99, _), (100, _), (6, _)] rfl rfl
             refine Stg.fin [38, 39, 40] rfl rfl (QAll.cons (QOp.no rfl rfl rfl rfl (by decide) rfl rfl) (QAll.cons (QOp.p hT rfl rfl rfl rfl rfl) (QAll.cons (QOp.p hT rfl rfl rfl rfl rfl) QAll.nil))) ?_
             exact AtE.then_n ((HK36 _ () _ H).pickP (ts := [6]) (is := []) rfl rfl (by decide) rfl)
           ·
            apply Stg.next [(85, _), (86, _), (87, _), (88, _), (90, _)] rfl rfl
            refine Stg.known (t := 87) rfl hb43 ?_
            refine Stg.go [25, 26, 27, 29] [28] rfl rfl (QAll.cons (QOp.p hT rfl rfl rfl rfl rfl) (QAll.cons (QOp.pk hT rfl rfl rfl rfl hb43 rfl) (QAll.cons (QOp.no rfl rfl rfl rfl (by decide) rfl rfl) (QAll.cons (QOp.no rfl rfl rfl rfl (by decide) rfl rfl) QAll.nil)))) ?_
            refine EAll.cons ?_ EAll.nil
            refine EOp.no rfl rfl rfl rfl (by decide) rfl ?_
            apply Stg.next [(89, _)] rfl rfl
            refine Stg.go [29] [30] rfl rfl (QAll.cons (QOp.no rfl rfl rfl rfl (by decide) rfl rfl) QAll.nil) ?_
            refine EAll.cons ?_ EAll.nil
            refine EOp.no rfl rfl rfl rfl (by decide) rfl ?_
            apply Stg.next [(91, _), (92, _), (93, _), (94, _), (95, _), (97, _)] rfl rfl
            refine Stg.go [31, 32, 33, 34, 36] [35] rfl rfl (QAll.cons (QOp.no rfl rfl rfl rfl (by decide) rfl rfl) (QAll.cons (QOp.p hT rfl rfl rfl rfl rfl) (QAll.cons (QOp.p hT rfl rfl rfl rfl rfl) (QAll.cons (QOp.no rfl rfl rfl rfl (by decide) rfl rfl) (QAll.cons (QOp.no rfl rfl rfl rfl (by decide) rfl rfl) QAll.nil))))) ?_
            refine EAll.cons ?_ EAll.nil
            refine EOp.no rfl rfl rfl rfl (by decide) rfl ?_
            apply Stg.next [(96, _)] rfl rfl
            refine Stg.go [36] [37] rfl rfl (QAll.cons (QOp.no rfl rfl rfl rfl (by decide) rfl rfl) QAll.nil) ?_
            refine EAll.cons ?_ EAll.nil
            refine EOp.no rfl rfl rfl rfl (by decide) rfl ?_
            apply Stg.next [(98, _), (99, _), (100, _), (6, _)] rfl rfl
            refine Stg.fin [38, 39, 40] rfl rfl (QAll.cons (QOp.no rfl rfl rfl rfl (by decide) rfl rfl) (QAll.cons (QOp.p hT rfl rfl rfl rfl rfl) (QAll.cons (QOp.p hT rfl rfl rfl rfl rfl) QAll.nil))) ?_
            exact AtE.then_n ((HK36 _ () _ H).pickP (ts := [6]) (is := []) rfl rfl (by decide) rfl)
          ·
           apply Stg.next [(76, _), (77, _), (78, _), (79, _), (80, _), (82, _)] rfl rfl
           refine Stg.known (t := 79) rfl hb41 ?_
           refine Stg.go [16, 17, 18, 19, 21] [20] rfl rfl (QAll.cons (QOp.yp hT rfl rfl rfl rfl rfl rfl rfl) (QAll.cons (QOp.p hT rfl rfl rfl rfl rfl) (QAll.cons (QOp.pk hT rfl rfl rfl rfl hb41 rfl) (QAll.cons (QOp.no rfl rfl rfl rfl (by decide) rfl rfl) (QAll.cons (QOp.no rfl rfl rfl rfl (by decide) rfl rfl) QAll.nil))))) ?_
           refine EAll.cons ?_ EAll.nil
           refine EOp.no rfl rfl rfl rfl (by decide) rfl ?_
           apply Stg.next [(81, _)] rfl rfl
           refine Stg.go [21] [22] rfl rfl (QAll.cons (QOp.no rfl rfl rfl rfl (by decide) rfl rfl) QAll.nil) ?_
           refine EAll.cons ?_ EAll.nil
           refine EOp.no rfl rfl rfl rfl (by decide) rfl ?_
           apply Stg.next [(83, _)] rfl rfl
           refine Stg.go [] [23] rfl rfl QAll.nil ?_
           refine EAll.cons ?_ EAll.nil
           refine EOp.no rfl rfl rfl rfl (by decide) rfl ?_
           apply Stg.next [(84, _)] rfl rfl
           refine Stg.go [] [24] rfl rfl QAll.nil ?_
           refine EAll.cons ?_ EAll.nil
           refine EOp.no rfl rfl rfl rfl (by decide) rfl ?_
           apply Stg.next [(85, _), (86, _), (87, _), (88, _), (90, _)] rfl rfl
           refine Stg.go [25, 26, 27, 29] [28] rfl rfl (QAll.cons (QOp.p hT rfl rfl rfl rfl rfl) (QAll.cons (QOp.p hT rfl rfl rfl rfl rfl) (QAll.cons (QOp.no rfl rfl rfl rfl (by decide) rfl rfl) (QAll.cons (QOp.no rfl rfl rfl rfl (by decide) rfl rfl) QAll.nil)))) ?_
           refine EAll.cons ?_ EAll.nil
           refine EOp.no rfl rfl rfl rfl (by decide) rfl ?_
           apply Stg.next [(89, _)] rfl rfl
           refine Stg.go [29] [30] rfl rfl (QAll.cons (QOp.no rfl rfl rfl rfl (by decide) rfl rfl) QAll.nil) ?_
           refine EAll.cons ?_ EAll.nil
           refine EOp.no rfl rfl rfl rfl (by decide) rfl ?_
           apply Stg.next [(91, _), (92, _), (93, _), (94, _), (95, _), (97, _)] rfl rfl
           refine Stg.go [31, 32, 33, 34, 36] [35] rfl rfl (QAll.cons (QOp.no rfl rfl rfl rfl (by decide) rfl rfl) (QAll.cons (QOp.p hT rfl rfl rfl rfl rfl) (QAll.cons (QOp.p hT rfl rfl rfl rfl rfl) (QAll.cons (QOp.no rfl rfl rfl rfl (by decide) rfl rfl) (QAll.cons (QOp.no rfl rfl rfl rfl (by decide) rfl rfl) QAll.nil))))) ?_
           refine EAll.cons ?_ EAll.nil
           refine EOp.no rfl rfl rfl rfl (by decide) rfl ?_
           apply Stg.next [(96, _)] rfl rfl
           refine Stg.go [36] [37] rfl rfl (QAll.cons (QOp.no rfl rfl rfl rfl (by decide) rfl rfl) QAll.nil) ?_
           refine EAll.cons ?_ EAll.nil
           refine EOp.no rfl rfl rfl rfl (by decide) rfl ?_
           apply Stg.next [(98, _), (99, _), (100, _), (6, _)] rfl rfl
           refine Stg.fin [38, 39, 40] rfl rfl (QAll.cons (QOp.no rfl rfl rfl rfl (by decide) rfl rfl) (QAll.cons (QOp.p hT rfl rfl rfl rfl rfl) (QAll.cons (QOp.p hT rfl rfl rfl rfl rfl) QAll.nil))) ?_
           exact AtE.then_n ((HK36 _ () _ H).pickP (ts := [6]) (is := []) rfl rfl (by decide) rfl)
         ·
          apply Stg.next [(68, _), (69, _), (70, _), (71, _), (72, _), (74, _)] rfl rfl
          refine Stg.known (t := 71) rfl hb39 ?_
          refine Stg.go [8, 9, 10, 11, 13] [12] rfl rfl (QAll.cons (QOp.yp hT rfl rfl rfl rfl rfl rfl rfl) (QAll.cons (QOp.p hT rfl rfl rfl rfl rfl) (QAll.cons (QOp.pk hT rfl rfl rfl rfl hb39 rfl) (QAll.cons (QOp.no rfl rfl rfl rfl (by decide) rfl rfl) (QAll.cons (QOp.no rfl rfl rfl rfl (by decide) rfl rfl) QAll.nil))))) ?_
          refine EAll.cons ?_ EAll.nil
          refine EOp.no rfl rfl rfl rfl (by decide) rfl ?_
          apply Stg.next [(73, _)] rfl rfl
          refine Stg.go [13] [14] rfl rfl (QAll.cons (QOp.no rfl rfl rfl rfl (by decide) rfl rfl) QAll.nil) ?_
          refine EAll.cons ?_ EAll.nil
          refine EOp.no rfl rfl rfl rfl (by decide) rfl ?_
          apply Stg.next [(75, _)] rfl rfl
          refine Stg.go [13] [15] rfl rfl (QAll.cons (QOp.no rfl rfl rfl rfl (by decide) rfl rfl) QAll.nil) ?_
          refine EAll.cons ?_ EAll.nil
          refine EOp.no rfl rfl rfl rfl (by decide) rfl ?_
          apply Stg.next [(76, _), (77, _), (78, _), (79, _), (80, _), (82, _)] rfl rfl
          refine Stg.go [16, 17, 18, 19, 21] [20] rfl rfl (QAll.cons (QOp.no rfl rfl rfl rfl (by decide) rfl rfl) (QAll.cons (QOp.p hT rfl rfl rfl rfl rfl) (QAll.cons (QOp.p hT rfl rfl rfl rfl rfl) (QAll.cons (QOp.no rfl rfl rfl rfl (by decide) rfl rfl) (QAll.cons (QOp.no rfl rfl rfl rfl (by decide) rfl rfl) QAll.nil))))) ?_
          refine EAll.cons ?_ EAll.nil
          refine EOp.no rfl rfl rfl rfl (by decide) rfl ?_
          apply Stg.next [(81, _)] rfl rfl
          refine Stg.go [21] [22] rfl rfl (QAll.cons (QOp.no rfl rfl rfl rfl (by decide) rfl rfl) QAll.nil) ?_
          refine EAll.cons ?_ EAll.nil
          refine EOp.no rfl rfl rfl rfl (by decide) rfl ?_
          apply Stg.next [(83, _)] rfl rfl
          refine Stg.go [] [23] rfl rfl QAll.nil ?_
          refine EAll.cons ?_ EAll.nil
          refine EOp.no rfl rfl rfl rfl (by decide) rfl ?_
          apply Stg.next [(84, _)] rfl rfl
          refine Stg.go [] [24] rfl rfl QAll.nil ?_
          refine EAll.cons ?_ EAll.nil
          refine EOp.no rfl rfl rfl rfl (by decide) rfl ?_
          apply Stg.next [(85, _), (86, _), (87, _), (88, _), (90, _)] rfl rfl
          refine Stg.go [25, 26, 27, 29] [28] rfl rfl (QAll.cons (QOp.p hT rfl rfl rfl rfl rfl) (QAll.cons (QOp.p hT rfl rfl rfl rfl rfl) (QAll.cons (QOp.no rfl rfl rfl rfl (by decide) rfl rfl) (QAll.cons (QOp.no rfl rfl rfl rfl (by decide) rfl rfl) QAll.nil)))) ?_
          refine EAll.cons ?_ EAll.nil
          refine EOp.no rfl rfl rfl rfl (by decide) rfl ?_
          apply Stg.next [(89, _)] rfl rfl
          refine Stg.go [29] [30] rfl rfl (QAll.cons (QOp.no rfl rfl rfl rfl (by decide) rfl rfl) QAll.nil) ?_
          refine EAll.cons ?_ EAll.nil
          refine EOp.no rfl rfl rfl rfl (by decide) rfl ?_
          apply Stg.next [(91, _), (92, _), (93, _), (94, _), (95, _), (97, _)] rfl rfl
          refine Stg.go [31, 32, 33, 34, 36] [35] rfl rfl (QAll.cons (QOp.no rfl rfl rfl rfl (by decide) rfl rfl) (QAll.cons (QOp.p hT rfl rfl rfl rfl rfl) (QAll.cons (QOp.p hT rfl rfl rfl rfl rfl) (QAll.cons (QOp.no rfl rfl rfl rfl (by decide) rfl rfl) (QAll.cons (QOp.no rfl rfl rfl rfl (by decide) rfl rfl) QAll.nil))))) ?_
          refine EAll.cons ?_ EAll.nil
          refine EOp.no rfl rfl rfl rfl (by decide) rfl ?_
          apply Stg.next [(96, _)] rfl rfl
          refine Stg.go [36] [37] rfl rfl (QAll.cons (QOp.no rfl rfl rfl rfl (by decide) rfl rfl) QAll.nil) ?_
          refine EAll.cons ?_ EAll.nil
          refine EOp.no rfl rfl rfl rfl (by decide) rfl ?_
          apply Stg.next [(98, _), (99, _), (100, _), (6, _)] rfl rfl
          refine Stg.fin [38, 39, 40] rfl rfl (QAll.cons (QOp.no rfl rfl rfl rfl (by decide) rfl rfl) (QAll.cons (QOp.p hT rfl rfl rfl rfl rfl) (QAll.cons (QOp.p hT rfl rfl rfl rfl rfl) QAll.nil))) ?_
          exact AtE.then_n ((HK36 _ () _ H).pickP (ts := [6]) (is := []) rfl rfl (by decide) rfl)
        ·
         apply AtC.stages [4, 7, 12, 14, 15, 20, 22, 23, 24, 28, 30, 35, 37] [[], [], [], [], [], [], [], [4], [4, 7], [4, 7], [4, 7], [4, 7], [4, 7], [4, 7], [4, 7, 12], [4, 7, 12, 14], [4, 7, 12, 14, 15], [4, 7, 12, 14, 15], [4, 7, 12, 14, 15], [4, 7, 12, 14, 15], [4, 7, 12, 14, 15], [4, 7, 12, 14, 15], [4, 7, 12, 14, 15, 20], [4, 7, 12, 14, 15, 20, 22], [4, 7, 12, 14, 15, 20, 22, 23], [4, 7, 12, 14, 15, 20, 22, 23, 24], [4, 7, 12, 14, 15, 20, 22, 23, 24], [4, 7, 12, 14, 15, 20, 22, 23, 24], [4, 7, 12, 14, 15, 20, 22, 23, 24], [4, 7, 12, 14, 15, 20, 22, 23, 24], [4, 7, 12, 14, 15, 20, 22, 23, 24, 28], [4, 7, 12, 14, 15, 20, 22, 23, 24, 28, 30], [4, 7, 12, 14, 15, 20, 22, 23, 24, 28, 30], [4, 7, 12, 14, 15, 20, 22, 23, 24, 28, 30], [4, 7, 12, 14, 15, 20, 22, 23, 24, 28, 30], [4, 7, 12, 14, 15, 20, 22, 23, 24, 28, 30], [4, 7, 12, 14, 15, 20, 22, 23, 24, 28, 30], [4, 7, 12, 14, 15, 20, 22, 23, 24, 28, 30, 35], [4, 7, 12, 14, 15, 20, 22, 23, 24, 28, 30, 35, 37], [4, 7, 12, 14, 15, 20, 22, 23, 24, 28, 30, 35, 37], [4, 7, 12, 14, 15, 20, 22, 23, 24, 28, 30, 35, 37]] [[], [0], [0, 1], [0, 1], [0, 1, 2, 3], [0, 1], [0, 1], [0, 1, 2, 3, 4, 5, 6], [0, 1, 2, 3, 4, 5, 6, 7], [0, 1, 2, 3, 4, 5, 6, 7, 8], [0, 1, 2, 3, 4, 5, 6, 7, 8, 9], [0, 1, 2, 3, 4, 5, 6, 7, 8, 9, 10], [0, 1, 2, 3, 4, 5, 6, 7, 8, 9, 10, 11], [0, 1, 2, 3, 4, 5, 6, 7, 8, 9, 10], [0, 1, 2, 3, 4, 5, 6, 7, 8, 9, 10, 11, 12], [0, 1, 2, 3, 4, 5, 6, 7, 8, 9, 10, 11, 12, 13, 14], [0, 1, 2, 3, 4, 5, 6, 7, 8, 9, 10, 11, 12, 13, 14, 15], [0, 1, 2, 3, 4, 5, 6, 7, 8, 9, 10, 11, 12, 13, 14, 15, 16], [0, 1, 2, 3, 4, 5, 6, 7, 8, 9, 10, 11, 12, 13, 14, 15, 16, 17], [0, 1, 2, 3, 4, 5, 6, 7, 8, 9, 10, 11, 12, 13, 14, 15, 16, 17, 18], [0, 1, 2, 3, 4, 5, 6, 7, 8, 9, 10, 11, 12, 13, 14, 15, 16, 17, 18, 19], [0, 1, 2, 3, 4, 5, 6, 7, 8, 9, 10, 11, 12, 13, 14, 15, 16, 17, 18], [0, 1, 2, 3, 4, 5, 6, 7, 8, 9, 10, 11, 12, 13, 14, 15, 16, 17, 18, 19, 20, 21], [0, 1, 2, 3, 4, 5, 6, 7, 8, 9, 10, 11, 12, 13, 14, 15, 16, 17, 18, 19, 20, 21, 22], [0, 1, 2, 3, 4, 5, 6, 7, 8, 9, 10, 11, 12, 13, 14, 15, 16, 17, 18, 19, 20, 21, 22, 23], [0, 1, 2, 3, 4, 5, 6, 7, 8, 9, 10, 11, 12, 13, 14, 15, 16, 17, 18, 19, 20, 21, 22, 23, 24], [0, 1, 2, 3, 4, 5, 6, 7, 8, 9, 10, 11, 12, 13, 14, 15, 16, 17, 18, 19, 20, 21, 22, 23, 24, 25], [0, 1, 2, 3, 4, 5, 6, 7, 8, 9, 10, 11, 12, 13, 14, 15, 16, 17, 18, 19, 20, 21, 22, 23, 24, 25, 26], [0, 1, 2, 3, 4, 5, 6, 7, 8, 9, 10, 11, 12, 13, 14, 15, 16, 17, 18, 19, 20, 21, 22, 23, 24, 25, 26, 27], [0, 1, 2, 3, 4, 5, 6, 7, 8, 9, 10, 11, 12, 13, 14, 15, 16, 17, 18, 19, 20, 21, 22, 23, 24, 25, 26], [0, 1, 2, 3, 4, 5, 6, 7, 8, 9, 10, 11, 12, 13, 14, 15, 16, 17, 18, 19, 20, 21, 22, 23, 24, 25, 26, 27, 28, 29], [0, 1, 2, 3, 4, 5, 6, 7, 8, 9, 10, 11, 12, 13, 14, 15, 16, 17, 18, 19, 20, 21, 22, 23, 24, 25, 26, 27, 28, 29, 30], [0, 1, 2, 3, 4, 5, 6, 7, 8, 9, 10, 11, 12, 13, 14, 15, 16, 17, 18, 19, 20, 21, 22, 23, 24, 25, 26, 27, 28, 29, 30, 31], [0, 1, 2, 3, 4, 5, 6, 7, 8, 9, 10, 11, 12, 13, 14, 15, 16, 17, 18, 19, 20, 21, 22, 23, 24, 25, 26, 27, 28, 29, 30, 31, 32], [0, 1, 2, 3, 4, 5, 6, 7, 8, 9, 10, 11, 12, 13, 14, 15, 16, 17, 18, 19, 20, 21, 22, 23, 24, 25, 26, 27, 28, 29, 30, 31, 32, 33], [0, 1, 2, 3, 4, 5, 6, 7, 8, 9, 10, 11, 12, 13, 14, 15, 16, 17, 18, 19, 20, 21, 22, 23, 24, 25, 26, 27, 28, 29, 30, 31, 32, 33, 34], [0, 1, 2, 3, 4, 5, 6, 7, 8, 9, 10, 11, 12, 13, 14, 15, 16, 17, 18, 19, 20, 21, 22, 23, 24, 25, 26, 27, 28, 29, 30, 31, 32, 33], [0, 1, 2, 3, 4, 5, 6, 7, 8, 9, 10, 11, 12, 13, 14, 15, 16, 17, 18, 19, 20, 21, 22, 23, 24, 25, 26, 27, 28, 29, 30, 31, 32, 33, 34, 35, 36], [0, 1, 2, 3, 4, 5, 6, 7, 8, 9, 10, 11, 12, 13, 14, 15, 16, 17, 18, 19, 20, 21, 22, 23, 24, 25, 26, 27, 28, 29, 30, 31, 32, 33, 34, 35, 36, 37], [0, 1, 2, 3, 4, 5, 6, 7, 8, 9, 10, 11, 12, 13, 14, 15, 16, 17, 18, 19, 20, 21, 22, 23, 24, 25, 26, 27, 28, 29, 30, 31, 32, 33, 34, 35, 36, 37, 38], [0, 1, 2, 3, 4, 5, 6, 7, 8, 9, 10, 11, 12, 13, 14, 15, 16, 17, 18, 19, 20, 21, 22, 23, 24, 25, 26, 27, 28, 29, 30, 31, 32, 33, 34, 35, 36, 37, 38, 39]] hmix (by kernel_rfl) [(61, _), (62, _), (63, _), (64, _), (66, _), (67, _)] rfl 13 rfl
         refine Stg.known (t := 62) rfl hb36 ?_
         refine Stg.go [0, 1, 2, 3, 5, 6] [4] rfl rfl (QAll.cons (QOp.p hT rfl rfl rfl rfl rfl) (QAll.cons (QOp.pk hT rfl rfl rfl rfl hb36 rfl) (QAll.cons (QOp.no rfl rfl rfl rfl (by decide) rfl rfl) (QAll.cons (QOp.no rfl rfl rfl rfl (by decide) rfl rfl) (QAll.cons (QOp.no rfl rfl rfl rfl (by decide) rfl rfl) (QAll.cons (QOp.no rfl rfl rfl rfl (by decide) rfl rfl) QAll.nil)))))) ?_
         refine EAll.cons ?_ EAll.nil
         refine EOp.no rfl rfl rfl rfl (by decide) rfl ?_
         apply Stg.next [(65, _)] rfl rfl
         refine Stg.go [5, 6] [7] rfl rfl (QAll.cons (QOp.no rfl rfl rfl rfl (by decide) rfl rfl) (QAll.cons (QOp.no rfl rfl rfl rfl (by decide) rfl rfl) QAll.nil)) ?_
         refine EAll.cons ?_ EAll.nil
         refine EOp.no rfl rfl rfl rfl (by decide) rfl ?_
         apply Stg.next [(68, _), (69, _), (70, _), (71, _), (72, _), (74, _)] rfl rfl
         refine Stg.go [8, 9, 10, 11, 13] [12] rfl rfl (QAll.cons (QOp.no rfl rfl rfl rfl (by decide) rfl rfl) (QAll.cons (QOp.p hT rfl rfl rfl rfl rfl) (QAll.cons (QOp.p hT rfl rfl rfl rfl rfl) (QAll.cons (QOp.no rfl rfl rfl rfl (by decide) rfl rfl) (QAll.cons (QOp.no rfl rfl rfl rfl (by decide) rfl rfl) QAll.nil))))) ?_
         refine EAll.cons ?_ EAll.nil
         refine EOp.no rfl rfl rfl rfl (by decide) rfl ?_
         apply Stg.next [(73, _)] rfl rfl
         refine Stg.go [13] [14] rfl rfl (QAll.cons (QOp.no rfl rfl rfl rfl (by decide) rfl rfl) QAll.nil) ?_
         refine EAll.cons ?_ EAll.nil
         refine EOp.no rfl rfl rfl rfl (by decide) rfl ?_
         apply Stg.next [(75, _)] rfl rfl
         refine Stg.go [13] [15] rfl rfl (QAll.cons (QOp.no rfl rfl rfl rfl (by decide) rfl rfl) QAll.nil) ?_
         refine EAll.cons ?_ EAll.nil
         refine EOp.no rfl rfl rfl rfl (by decide) rfl ?_
         apply Stg.next [(76, _), (77, _), (78, _), (79, _), (80, _), (82, _)] rfl rfl
         refine Stg.go [16, 17, 18, 19, 21] [20] rfl rfl (QAll.cons (QOp.no rfl rfl rfl rfl (by decide) rfl rfl) (QAll.cons (QOp.p hT rfl rfl rfl rfl rfl) (QAll.cons (QOp.p hT rfl rfl rfl rfl rfl) (QAll.cons (QOp.no rfl rfl rfl rfl (by decide) rfl rfl) (QAll.cons (QOp.no rfl rfl rfl rfl (by decide) rfl rfl) QAll.nil))))) ?_
         refine EAll.cons ?_ EAll.nil
         refine EOp.no rfl rfl rfl rfl (by decide) rfl ?_
         apply Stg.next [(81, _)] rfl rfl
         refine Stg.go [21] [22] rfl rfl (QAll.cons (QOp.no rfl rfl rfl rfl (by decide) rfl rfl) QAll.nil) ?_
         refine EAll.cons ?_ EAll.nil
         refine EOp.no rfl rfl rfl rfl (by decide) rfl ?_
         apply Stg.next [(83, _)] rfl rfl
         refine Stg.go [] [23] rfl rfl QAll.nil ?_
         refine EAll.cons ?_ EAll.nil
         refine EOp.no rfl rfl rfl rfl (by decide) rfl ?_
         apply Stg.next [(84, _)] rfl rfl
         refine Stg.go [] [24] rfl rfl QAll.nil ?_
         refine EAll.cons ?_ EAll.nil
         refine EOp.no rfl rfl rfl rfl (by decide) rfl ?_
         apply Stg.next [(85, _), (86, _), (87, _), (88, _), (90, _)] rfl rfl
         refine Stg.go [25, 26, 27, 29] [28] rfl rfl (QAll.cons (QOp.p hT rfl rfl rfl rfl rfl) (QAll.cons (QOp.p hT rfl rfl rfl rfl rfl) (QAll.cons (QOp.no rfl rfl rfl rfl (by decide) rfl rfl) (QAll.cons (QOp.no rfl rfl rfl rfl (by decide) rfl rfl) QAll.nil)))) ?_
         refine EAll.cons ?_ EAll.nil
         refine EOp.no rfl rfl rfl rfl (by decide) rfl ?_
         apply Stg.next [(89, _)] rfl rfl
         refine Stg.go [29] [30] rfl rfl (QAll.cons (QOp.no rfl rfl rfl rfl (by decide) rfl rfl) QAll.nil) ?_
         refine EAll.cons ?_ EAll.nil
         refine EOp.no rfl rfl rfl rfl (by decide) rfl ?_
         apply Stg.next [(91, _), (92, _), (93, _), (94, _), (95, _), (97, _)] rfl rfl
         refine Stg.go [31, 32, 33, 34, 36] [35] rfl rfl (QAll.cons (QOp.no rfl rfl rfl rfl (by decide) rfl rfl) (QAll.cons (QOp.p hT rfl rfl rfl rfl rfl) (QAll.cons (QOp.p hT rfl rfl rfl rfl rfl) (QAll.cons (QOp.no rfl rfl rfl rfl (by decide) rfl rfl) (QAll.cons (QOp.no rfl rfl rfl rfl (by decide) rfl rfl) QAll.nil))))) ?_
         refine EAll.cons ?_ EAll.nil
         refine EOp.no rfl rfl rfl rfl (by decide) rfl ?_
         apply Stg.next [(96, _)] rfl rfl
         refine Stg.go [36] [37] rfl rfl (QAll.cons (QOp.no rfl rfl rfl rfl (by decide) rfl rfl) QAll.nil) ?_
         refine EAll.cons ?_ EAll.nil
         refine EOp.no rfl rfl rfl rfl (by decide) rfl ?_
         apply Stg.next [(98, _), (99, _), (100, _), (6, _)] rfl rfl
         refine Stg.fin [38, 39, 40] rfl rfl (QAll.cons (QOp.no rfl rfl rfl rfl (by decide) rfl rfl) (QAll.cons (QOp.p hT rfl rfl rfl rfl rfl) (QAll.cons (QOp.p hT rfl rfl rfl rfl rfl) QAll.nil))) ?_
         exact AtE.then_n ((HK36 _ () _ H).pickP (ts := [6]) (is := []) rfl rfl (by decide) rfl)
      ·
       apply AtC.stages [4, 5, 11, 12, 13, 20, 21, 28, 29] [[], [], [], [], [], [4], [4, 5], [4, 5], [4, 5], [4, 5], [4, 5], [4, 5], [4, 5, 11], [4, 5, 11, 12], [4, 5, 11, 12, 13], [4, 5, 11, 12, 13], [4, 5, 11, 12, 13], [4, 5, 11, 12, 13], [4, 5, 11, 12, 13], [4, 5, 11, 12, 13], [4, 5, 11, 12, 13], [4, 5, 11, 12, 13, 20], [4, 5, 11, 12, 13, 20, 21], [4, 5, 11, 12, 13, 20, 21], [4, 5, 11, 12, 13, 20, 21], [4, 5, 11, 12, 13, 20, 21], [4, 5, 11, 12, 13, 20, 21], [4, 5, 11, 12, 13, 20, 21], [4, 5, 11, 12, 13, 20, 21], [4, 5, 11, 12, 13, 20, 21, 28], [4, 5, 11, 12, 13, 20, 21, 28, 29], [4, 5, 11, 12, 13, 20, 21, 28, 29]] [[], [], [], [], [2, 3], [0, 1, 2, 3, 4], [0, 1, 2, 3, 4, 5], [0, 1, 2, 3, 4, 5, 6], [0, 1, 2, 3, 4, 5, 6], [0, 1, 2, 3, 4, 5, 6], [0, 1, 2, 3, 4, 5, 6], [0, 1, 2, 3, 4, 5, 6, 10], [0, 1, 2, 3, 4, 5, 6, 9, 10, 11], [0, 1, 2, 3, 4, 5, 6, 7, 8, 9, 10, 11, 12], [0, 1, 2, 3, 4, 5, 6, 7, 8, 9, 10, 11, 12, 13], [0, 1, 2, 3, 4, 5, 6, 7, 8, 9, 10, 11, 12, 13, 14], [0, 1, 2, 3, 4, 5, 6, 7, 8, 9, 10, 11, 12, 13, 14, 15], [0, 1, 2, 3, 4, 5, 6, 7, 8, 9, 10, 11, 12, 13, 14, 15], [0, 1, 2, 3, 4, 5, 6, 7, 8, 9, 10, 11, 12, 13, 14, 15], [0, 1, 2, 3, 4, 5, 6, 7, 8, 9, 10, 11, 12, 13, 14, 15], [0, 1, 2, 3, 4, 5, 6, 7, 8, 9, 10, 11, 12, 13, 14, 15, 18, 19], [0, 1, 2, 3, 4, 5, 6, 7, 8, 9, 10, 11, 12, 13, 14, 15, 16, 17, 18, 19, 20], [0, 1, 2, 3, 4, 5, 6, 7, 8, 9, 10, 11, 12, 13, 14, 15, 16, 17, 18, 19, 20, 21], [0, 1, 2, 3, 4, 5, 6, 7, 8, 9, 10, 11, 12, 13, 14, 15, 16, 17, 18, 19, 20, 21, 22], [0, 1, 2, 3, 4, 5, 6, 7, 8, 9, 10, 11, 12, 13, 14, 15, 16, 17, 18, 19, 20, 21, 22, 23], [0, 1, 2, 3, 4, 5, 6, 7, 8, 9, 10, 11, 12, 13, 14, 15, 16, 17, 18, 19, 20, 21, 22, 23], [0, 1, 2, 3, 4, 5, 6, 7, 8, 9, 10, 11, 12, 13, 14, 15, 16, 17, 18, 19, 20, 21, 22, 23], [0, 1, 2, 3, 4, 5, 6, 7, 8, 9, 10, 11, 12, 13, 14, 15, 16, 17, 18, 19, 20, 21, 22, 23], [0, 1, 2, 3, 4, 5, 6, 7, 8, 9, 10, 11, 12, 13, 14, 15, 16, 17, 18, 19, 20, 21, 22, 23, 26, 27], [0, 1, 2, 3, 4, 5, 6, 7, 8, 9, 10, 11, 12, 13, 14, 15, 16, 17, 18, 19, 20, 21, 22, 23, 24, 25, 26, 27, 28], [0, 1, 2, 3, 4, 5, 6, 7, 8, 9, 10, 11, 12, 13, 14, 15, 16, 17, 18, 19, 20, 21, 22, 23, 24, 25, 26, 27, 28, 29], [0, 1, 2, 3, 4, 5, 6, 7, 8, 9, 10, 11, 12, 13, 14, 15, 16, 17, 18, 19, 20, 21, 22, 23, 24, 25, 26, 27, 28, 29, 30]] hmix (by kernel_rfl) [(30, _), (31, _), (32, _), (33, _)] rfl 9 rfl
       refine Stg.go [0, 1, 2, 3] [4] rfl rfl (QAll.cons (QOp.p hT rfl rfl rfl rfl rfl) (QAll.cons (QOp.q rfl rfl (Quiet1.makeFn (bs := []) (cs := [_, _]) rfl rfl rfl) rfl rfl) (QAll.cons (QOp.q rfl rfl (Quiet1.loadSP (i := 0) (l := [_, _, _]) hT rfl rfl rfl rfl rfl rfl rfl rfl) rfl rfl) (QAll.cons (QOp.q rfl rfl (Quiet1.loadSP (i := 1) (l := [_, _, _]) hT rfl rfl rfl rfl rfl rfl rfl rfl) rfl rfl) QAll.nil)))) ?_
       refine EAll.cons ?_ EAll.nil
       refine EOp.e rfl rfl rfl (EffX.call (f := 11) (sh := fun h => ref02uAdd _ _ h _) (H0 := H) rfl Tryz.call11 rfl (hl := fun w m hr hw => lift_ref02uAdd _ _ w m hr _ hw)) ?_
       rintro _ _ ⟨v_27, h0u43, rfl, rfl, H⟩
       apply Stg.next [(34, _)] rfl rfl
       refine Stg.go [0, 1] [5] rfl rfl (QAll.cons (QOp.p hT rfl rfl rfl rfl rfl) (QAll.cons (QOp.q rfl rfl (Quiet1.makeFn (bs := []) (cs := [_, _]) rfl rfl rfl) rfl rfl) QAll.nil)) ?_
       refine EAll.cons ?_ EAll.nil
       refine EOp.e rfl rfl rfl (EffX.call (f := 8) (sh := fun h => law02utold__law02uRatioTold_c1 _ _ _ _ h _) (H0 := H) rfl Tryz.call8 rfl (hl := fun w m hr hw => lift_law02utold__law02uRatioTold_c1 _ _ _ _ w m hr _ hw)) ?_
       rintro _ _ ⟨v_28, h0u44, rfl, rfl, H⟩
       rcases iteB.cases H with ⟨hb32, H⟩ | ⟨hb32, H⟩
       ·
        apply Stg.next [(35, _), (36, _), (37, _), (38, _), (39, _), (40, _)] rfl rfl
        refine Stg.known (t := 36) rfl hb32 ?_
        refine Stg.go [6, 7, 8, 9, 10] [11] rfl rfl (QAll.cons (QOp.pk hT rfl rfl rfl rfl hb32 rfl) (QAll.cons (QOp.yp hT rfl rfl rfl rfl rfl rfl rfl) (QAll.cons (QOp.y rfl rfl rfl rfl (Quiet1.makeFn (bs := []) (cs := [_, _]) rfl rfl rfl) rfl rfl) (QAll.cons (QOp.y rfl rfl rfl rfl (Quiet1.loadSP (i := 0) (l := [_, _, _]) hT rfl rfl rfl rfl rfl rfl rfl rfl) rfl rfl) (QAll.cons (QOp.y rfl rfl rfl rfl (Quiet1.loadSP (i := 1) (l := [_, _, _]) hT rfl rfl rfl rfl rfl rfl rfl rfl) rfl rfl) QAll.nil))))) ?_
        refine EAll.cons ?_ EAll.nil
        refine EOp.y rfl rfl rfl rfl rfl (EffX.call (f := 14) (sh := fun h => ref02uNeg _ h _) (H0 := H) rfl Tryz.call14 rfl (hl := fun w m hr hw => lift_ref02uNeg _ w m hr _ hw)) ?_
        rintro _ _ ⟨v_29, h0u45, rfl, rfl, H⟩
        apply Stg.next [(41, _)] rfl rfl
        refine Stg.go [7, 8, 9] [12] rfl rfl (QAll.cons (QOp.yp hT rfl rfl rfl rfl rfl rfl rfl) (QAll.cons (QOp.y rfl rfl rfl rfl (Quiet1.makeFn (bs := []) (cs := [_, _]) rfl rfl rfl) rfl rfl) (QAll.cons (QOp.y rfl rfl rfl rfl (Quiet1.loadSP (i := 0) (l := [_, _, _]) hT rfl rfl rfl rfl rfl rfl rfl rfl) rfl rfl) QAll.nil))) ?_
        refine EAll.cons ?_ EAll.nil
        refine EOp.y rfl rfl rfl rfl rfl (EffX.call (f := 11) (sh := fun h => ref02uAdd _ _ h _) (H0 := H) rfl Tryz.call11 rfl (hl := fun w m hr hw => lift_ref02uAdd _ _ w m hr _ hw)) ?_
        rintro _ _ ⟨v_30, h0u46, rfl, rfl, H⟩
        apply Stg.next [(42, _)] rfl rfl
        refine Stg.go [7, 8] [13] rfl rfl (QAll.cons (QOp.yp hT rfl rfl rfl rfl rfl rfl rfl) (QAll.cons (QOp.y rfl rfl rfl rfl (Quiet1.makeFn (bs := []) (cs := [_, _]) rfl rfl rfl) rfl rfl) QAll.nil)) ?_
        refine EAll.cons ?_ EAll.nil
        refine EOp.y rfl rfl rfl rfl rfl (EffX.call (f := 8) (sh := fun h => law02utold__law02uRatioTold_c2 _ _ _ _ h _) (H0 := H) rfl Tryz.call8 rfl (hl := fun w m hr hw => lift_law02utold__law02uRatioTold_c2 _ _ _ _ w m hr _ hw)) ?_
        rintro _ _ ⟨v_31, h0u47, rfl, rfl, H⟩
        rcases iteB.cases H with ⟨hb33, H⟩ | ⟨hb33, H⟩
        ·
         apply Stg.next [(43, _), (44, _), (45, _), (46, _), (47, _), (48, _), (49, _)] rfl rfl
         refine Stg.known (t := 45) rfl hb33 ?_
         refine Stg.go [14, 15, 16, 17, 18, 19] [20] rfl rfl (QAll.cons (QOp.p hT rfl rfl rfl rfl rfl) (QAll.cons (QOp.pk hT rfl rfl rfl rfl hb33 rfl) (QAll.cons (QOp.yp hT rfl rfl rfl rfl rfl rfl rfl) (QAll.cons (QOp.y rfl rfl rfl rfl (Quiet1.makeFn (bs := []) (cs := [_, _]) rfl rfl rfl) rfl rfl) (QAll.cons (QOp.y rfl rfl rfl rfl (Quiet1.loadSP (i := 0) (l := [_, _, _]) hT rfl rfl rfl rfl rfl rfl rfl rfl) rfl rfl) (QAll.cons (QOp.y rfl rfl rfl rfl (Quiet1.loadSP (i := 1) (l := [_, _, _]) hT rfl rfl rfl rfl rfl rfl rfl rfl) rfl rfl) QAll.nil)))))) ?_
         refine EAll.cons ?_ EAll.nil
         refine EOp.y rfl rfl rfl rfl rfl (EffX.call (f := 17) (sh := fun h => ref02uMul _ _ h _) (H0 := H) rfl Tryz.call17 rfl (hl := fun w m hr hw => lift_ref02uMul _ _ w m hr _ hw)) ?_
         rintro _ _ ⟨v_32, h0u48, rfl, rfl, H⟩
         apply Stg.next [(50, _)] rfl rfl
         refine Stg.go [16, 17] [21] rfl rfl (QAll.cons (QOp.yp hT rfl rfl rfl rfl rfl rfl rfl) (QAll.cons (QOp.y rfl rfl rfl rfl (Quiet1.makeFn (bs := []) (cs := [_, _]) rfl rfl rfl) rfl rfl) QAll.nil)) ?_
         refine EAll.cons ?_ EAll.nil
         refine EOp.y rfl rfl rfl rfl rfl (EffX.call (f := 8) (sh := fun h => law02utold__law02uRatioTold_c3 _ _ _ _ h _) (H0 := H) rfl Tryz.call8 rfl (hl := fun w m hr hw => lift_law02utold__law02uRatioTold_c3 _ _ _ _ w m hr _ hw)) ?_
         rintro _ _ ⟨v_33, h0u49, rfl, rfl, H⟩
         rcases iteB.cases H with ⟨hb34, H⟩ | ⟨hb34, H⟩
         ·
          apply Stg.next [(51, _), (52, _), (53, _), (54, _), (55, _), (56, _), (57, _)] rfl rfl
          refine Stg.known (t := 53) rfl hb34 ?_
          refine Stg.go [22, 23, 24, 25, 26, 27] [28] rfl rfl (QAll.cons (QOp.p hT rfl rfl rfl rfl rfl) (QAll.cons (QOp.pk hT rfl rfl rfl rfl hb34 rfl) (QAll.cons (QOp.yp hT rfl rfl rfl rfl rfl rfl rfl) (QAll.cons (QOp.y rfl rfl rfl rfl (Quiet1.makeFn (bs := []) (cs := [_, _]) rfl rfl rfl) rfl rfl) (QAll.cons (QOp.y rfl rfl rfl rfl (Quiet1.loadSP (i := 0) (l := [_, _, _]) hT rfl rfl rfl rfl rfl rfl rfl rfl) rfl rfl) (QAll.cons (QOp.y rfl rfl rfl rfl (Quiet1.loadSP (i := 1) (l := [_, _, _]) hT rfl rfl rfl rfl rfl rfl rfl rfl) rfl rfl) QAll.nil)))))) ?_
          refine EAll.cons ?_ EAll.nil
          refine EOp.y rfl rfl rfl rfl rfl (EffX.call (f := 20) (sh := fun h => ref02uDiv _ _ h _) (H0 := H) rfl Tryz.call20 rfl (hl := fun w m hr hw => lift_ref02uDiv _ _ w m hr _ hw)) ?_
          rintro _ _ ⟨v_34, h0u50, rfl, rfl, H⟩
          apply Stg.next [(58, _)] rfl rfl
          refine Stg.go [24, 25] [29] rfl rfl (QAll.cons (QOp.yp hT rfl rfl rfl rfl rfl rfl rfl) (QAll.cons (QOp.y rfl rfl rfl rfl (Quiet1.makeFn (bs := []) (cs := [_, _]) rfl rfl rfl) rfl rfl) QAll.nil)) ?_
          refine EAll.cons ?_ EAll.nil
          refine EOp.y rfl rfl rfl rfl rfl (EffX.call (f := 8) (sh := fun h => law02utold__law02uRatioTold_c4 _ _ _ _ h _) (H0 := H) rfl Tryz.call8 rfl (hl := fun w m hr hw => lift_law02utold__law02uRatioTold_c4 _ _ _ _ w m hr _ hw)) ?_
          rintro _ _ ⟨v_35, h0u51, rfl, rfl, H⟩
          apply Stg.next [(59, _), (60, _), (9, _)] rfl rfl
          refine Stg.fin [30, 31] rfl rfl (QAll.cons (QOp.p hT rfl rfl rfl rfl rfl) (QAll.cons (QOp.p hT rfl rfl rfl rfl rfl) QAll.nil)) ?_
          exact AtE.then_n ((HK32 _ () _ H).pickP (ts := [9, 4, 5, 7, 8]) (is := [0, 1]) rfl rfl (by decide) rfl)
         ·
          apply Stg.next [(51, _), (52, _), (53, _), (54, _), (55, _), (56, _), (57, _)] rfl rfl
          refine Stg.known (t := 53) rfl hb34 ?_
          refine Stg.go [22, 23, 24, 25, 26, 27] [28] rfl rfl (QAll.cons (QOp.p hT rfl rfl rfl rfl rfl) (QAll.cons (QOp.pk hT rfl rfl rfl rfl hb34 rfl) (QAll.cons (QOp.no rfl rfl rfl rfl (by decide) rfl rfl) (QAll.cons (QOp.no rfl rfl rfl rfl (by decide) rfl rfl) (QAll.cons (QOp.no rfl rfl rfl rfl (by decide) rfl rfl) (QAll.cons (QOp.no rfl rfl rfl rfl (by decide) rfl rfl) QAll.nil)))))) ?_
          refine EAll.cons ?_ EAll.nil
          refine EOp.no rfl rfl rfl rfl (by decide) rfl ?_
          apply Stg.next [(58, _)] rfl rfl
          refine Stg.go [24, 25] [29] rfl rfl (QAll.cons (QOp.no rfl rfl rfl rfl (by decide) rfl rfl) (QAll.cons (QOp.no rfl rfl rfl rfl (by decide) rfl rfl) QAll.nil)) ?_
          refine EAll.cons ?_ EAll.nil
          refine EOp.no rfl rfl rfl rfl (by decide) rfl ?_
          apply Stg.next [(59, _), (60, _), (9, _)] rfl rfl
          refine Stg.fin [30, 31] rfl rfl (QAll.cons (QOp.p hT rfl rfl rfl rfl rfl) (QAll.cons (QOp.p hT rfl rfl rfl rfl rfl) QAll.nil)) ?_
          exact AtE.then_n ((HK32 _ () _ H).pickP (ts := [9, 4, 5, 7, 8]) (is := [0, 1]) rfl rfl (by decide) rfl)
        ·
         apply Stg.next [(43, _), (44, _), (45, _), (46, _), (47, _), (48, _), (49, _)] rfl rfl
         refine Stg.known (t := 45) rfl hb33 ?_
         refine Stg.go [14, 15, 16, 17, 18, 19] [20] rfl rfl (QAll.cons (QOp.p hT rfl rfl rfl rfl rfl) (QAll.cons (QOp.pk hT rfl rfl rfl rfl hb33 rfl) (QAll.cons (QOp.no rfl rfl rfl rfl (by decide) rfl rfl) (QAll.cons (QOp.no rfl rfl rfl rfl (by decide) rfl rfl) (QAll.cons (QOp.no rfl rfl rfl rfl (by decide) rfl rfl) (QAll.cons (QOp.no rfl rfl rfl rfl (by decide) rfl rfl) QAll.nil)))))) ?_
         refine EAll.cons ?_ EAll.nil
         refine EOp.no rfl rfl rfl rfl (by decide) rfl ?_
         apply Stg.next [(50, _)] rfl rfl
         refine Stg.go [16, 17] [21] rfl rfl (QAll.cons (QOp.no rfl rfl rfl rfl (by decide) rfl rfl) (QAll.cons (QOp.no rfl rfl rfl rfl (by decide) rfl rfl) QAll.nil)) ?_
         refine EAll.cons ?_ EAll.nil
         refine EOp.no rfl rfl rfl rfl (by decide) rfl ?_
         apply Stg.next [(51, _), (52, _), (53, _), (54, _), (55, _), (56, _), (57, _)] rfl rfl
         refine Stg.go [22, 23, 24, 25, 26, 27] [28] rfl rfl (QAll.cons (QOp.p hT rfl rfl rfl rfl rfl) (QAll.cons (QOp.p hT rfl rfl rfl rfl rfl) (QAll.cons (QOp.no rfl rfl rfl rfl (by decide) rfl rfl) (QAll.cons (QOp.no rfl rfl rfl rfl (by decide) rfl rfl) (QAll.cons (QOp.no rfl rfl rfl rfl (by decide) rfl rfl) (QAll.cons (QOp.no rfl rfl rfl rfl (by decide) rfl rfl) QAll.nil)))))) ?_
         refine EAll.cons ?_ EAll.nil
         refine EOp.no rfl rfl rfl rfl (by decide) rfl ?_
         apply Stg.next [(58, _)] rfl rfl
         refine Stg.go [24, 25] [29] rfl rfl (QAll.cons (QOp.no rfl rfl rfl rfl (by decide) rfl rfl) (QAll.cons (QOp.no rfl rfl rfl rfl (by decide) rfl rfl) QAll.nil)) ?_
         refine EAll.cons ?_ EAll.nil
         refine EOp.no rfl rfl rfl rfl (by decide) rfl ?_
         apply Stg.next [(59, _), (60, _), (9, _)] rfl rfl
         refine Stg.fin [30, 31] rfl rfl (QAll.cons (QOp.p hT rfl rfl rfl rfl rfl) (QAll.cons (QOp.p hT rfl rfl rfl rfl rfl) QAll.nil)) ?_
         exact AtE.then_n ((HK32 _ () _ H).pickP (ts := [9, 4, 5, 7, 8]) (is := [0, 1]) rfl rfl (by decide) rfl)
       ·
        apply Stg.next [(35, _), (36, _), (37, _), (38, _), (39, _), (40, _)] rfl rfl
        refine Stg.known (t := 36) rfl hb32 ?_
        refine Stg.go [6, 7, 8, 9, 10] [11] rfl rfl (QAll.cons (QOp.pk hT rfl rfl rfl rfl hb32 rfl) (QAll.cons (QOp.no rfl rfl rfl rfl (by decide) rfl rfl) (QAll.cons (QOp.no rfl rfl rfl rfl (by decide) rfl rfl) (QAll.cons (QOp.no rfl rfl rfl rfl (by decide) rfl rfl) (QAll.cons (QOp.no rfl rfl rfl rfl (by decide) rfl rfl) QAll.nil))))) ?_
        refine EAll.cons ?_ EAll.nil
        refine EOp.no rfl rfl rfl rfl (by decide) rfl ?_
        apply Stg.next [(41, _)] rfl rfl
        refine Stg.go [7, 8, 9] [12] rfl rfl (QAll.cons (QOp.no rfl rfl rfl rfl (by decide) rfl rfl) (QAll.cons (QOp.no rfl rfl rfl rfl (by decide) rfl rfl) (QAll.cons (QOp.no rfl rfl rfl rfl (by decide) rfl rfl) QAll.nil))) ?_
        refine EAll.cons ?_ EAll.nil
        refine EOp.no rfl rfl rfl rfl (by decide) rfl ?_
        apply Stg.next [(42, _)] rfl rfl
        refine Stg.go [7, 8] [13] rfl rfl (QAll.cons (QOp.no rfl rfl rfl rfl (by decide) rfl rfl) (QAll.cons (QOp.no rfl rfl rfl rfl (by decide) rfl rfl) QAll.nil)) ?_
        refine EAll.cons ?_ EAll.nil
        refine EOp.no rfl rfl rfl rfl (by decide) rfl ?_
        apply Stg.next [(43, _), (44, _), (45, _), (46, _), (47, _), (48, _), (49, _)] rfl rfl
        refine Stg.go [14, 15, 16, 17, 18, 19] [20] rfl rfl (QAll.cons (QOp.p hT rfl rfl rfl rfl rfl) (QAll.cons (QOp.p hT rfl rfl rfl rfl rfl) (QAll.cons (QOp.no rfl rfl rfl rfl (by decide) rfl rfl) (QAll.cons (QOp.no rfl rfl rfl rfl (by decide) rfl rfl) (QAll.cons (QOp.no rfl rfl rfl rfl (by decide) rfl rfl) (QAll.cons (QOp.no rfl rfl rfl rfl (by decide) rfl rfl) QAll.nil)))))) ?_
        refine EAll.cons ?_ EAll.nil
        refine EOp.no rfl rfl rfl rfl (by decide) rfl ?_
        apply Stg.next [(50, _)] rfl rfl
        refine Stg.go [16, 17] [21] rfl rfl (QAll.cons (QOp.no rfl rfl rfl rfl (by decide) rfl rfl) (QAll.cons (QOp.no rfl rfl rfl rfl (by decide) rfl rfl) QAll.nil)) ?_
        refine EAll.cons ?_ EAll.nil
        refine EOp.no rfl rfl rfl rfl (by decide) rfl ?_
        apply Stg.next [(51, _), (52, _), (53, _), (54, _), (55, _), (56, _), (57, _)] rfl rfl
        refine Stg.go [22, 23, 24, 25, 26, 27] [28] rfl rfl (QAll.cons (QOp.p hT rfl rfl rfl rfl rfl) (QAll.cons (QOp.p hT rfl rfl rfl rfl rfl) (QAll.cons (QOp.no rfl rfl rfl rfl (by decide) rfl rfl) (QAll.cons (QOp.no rfl rfl rfl rfl (by decide) rfl rfl) (QAll.cons (QOp.no rfl rfl rfl rfl (by decide) rfl rfl) (QAll.cons (QOp.no rfl rfl rfl rfl (by decide) rfl rfl) QAll.nil)))))) ?_
        refine EAll.cons ?_ EAll.nil
        refine EOp.no rfl rfl rfl rfl (by decide) rfl ?_
        apply Stg.next [(58, _)] rfl rfl
        refine Stg.go [24, 25] [29] rfl rfl (QAll.cons (QOp.no rfl rfl rfl rfl (by decide) rfl rfl) (QAll.cons (QOp.no rfl rfl rfl rfl (by decide) rfl rfl) QAll.nil)) ?_
        refine EAll.cons ?_ EAll.nil
        refine EOp.no rfl rfl rfl rfl (by decide) rfl ?_
        apply Stg.next [(59, _), (60, _), (9, _)] rfl rfl
        refine Stg.fin [30, 31] rfl rfl (QAll.cons (QOp.p hT rfl rfl rfl rfl rfl) (QAll.cons (QOp.p hT rfl rfl rfl rfl rfl) QAll.nil)) ?_
        exact AtE.then_n ((HK32 _ () _ H).pickP (ts := [9, 4, 5, 7, 8]) (is := [0, 1]) rfl rfl (by decide) rfl)
     ·
      obtain ⟨v_9, hc6, H⟩ := H
      obtain ⟨v_10, hc7, H⟩ := H
      apply AtC.stages [1, 3, 4, 5, 6, 7] [[], [], [], [1], [], [], [1, 3, 4, 5], [1, 3, 4, 5, 6]] [[], [0], [], [0, 1, 2], [], [], [0, 1, 2, 3, 4, 5], [0, 1, 2, 3, 4, 5, 6]] hmix (by kernel_rfl) [(26, _), (28, _)] rfl 6 rfl
      refine Stg.go [0, 2] [1, 4, 5] rfl rfl (QAll.cons (QOp.q rfl rfl (Quiet1.loadS hT rfl rfl rfl rfl hc6) rfl rfl) (QAll.cons (QOp.q rfl rfl (Quiet1.loadS hT rfl rfl rfl rfl hc7) rfl rfl) QAll.nil)) ?_
      refine EAll.cons ?_ ?_
      ·
       replace H := H.self
       refine EOp.e rfl rfl rfl (EffX.call (f := 7) (sh := fun h => ref02uOf _ h _) (H0 := H) rfl Tryz.call7 rfl (hl := fun w m hr hw => lift_ref02uOf _ w m hr _ hw)) ?_
       rintro _ _ ⟨v_11, h0u10, rfl, rfl, H⟩
       obtain ⟨hc8, H⟩ := H
       apply Stg.next [(27, _)] rfl rfl
       refine Stg.go [2] [3, 4, 5] rfl rfl (QAll.cons (QOp.q rfl rfl (Quiet1.loadS hT rfl rfl rfl rfl hc8) rfl rfl) QAll.nil) ?_
       refine EAll.cons ?_ ?_
       ·
        replace H := H.self
        refine EOp.e rfl rfl rfl (EffX.call (f := 7) (sh := fun h => ref02uOf _ h _) (H0 := H) rfl Tryz.call7 rfl (hl := fun w m hr hw => lift_ref02uOf _ w m hr _ hw)) ?_
        rintro _ _ ⟨v_12, h0u12, rfl, rfl, H⟩
        apply Stg.next [(29, _)] rfl rfl
        refine Stg.go [] [4, 5] rfl rfl QAll.nil ?_
        refine EAll.cons ?_ ?_
        ·
         refine EOp.e rfl rfl rfl (EffX.allocP (cs := [_, _, _]) hT rfl rfl H) ?_
         rintro _ _ ⟨b, _, rfl, rfl, he9, H⟩
         apply Stg.next [(7, _)] rfl rfl
         refine Stg.go [] [5] rfl rfl QAll.nil ?_
         refine EAll.cons ?_ EAll.nil
         refine EOp.e rfl rfl rfl (EffX.allocP (cs := [_, _, _]) hT rfl rfl H) ?_
         rintro _ _ ⟨b_1, _, rfl, rfl, he10, H⟩
         apply Stg.next [(8, _)] rfl rfl
         refine Stg.go [] [6] rfl rfl QAll.nil ?_
         refine EAll.cons ?_ EAll.nil
         refine EOp.e rfl rfl rfl (EffX.storeSP (i := 1) (qv := [(_, [_, _, _]), (_, [_, _, _])]) hT rfl rfl rfl rfl rfl rfl rfl rfl rfl rfl) ?_
         rintro _ _ rfl
         apply Stg.next [] rfl rfl
         refine Stg.go [] [7] rfl rfl QAll.nil ?_
         refine EAll.cons ?_ EAll.nil
         refine EOp.e rfl rfl rfl (EffX.storeSP (i := 0) (qv := [(_, [_, _, _]), (_, [_, _, _])]) hT rfl rfl rfl rfl rfl rfl rfl rfl rfl rfl) ?_
         rintro _ _ rfl
         apply Stg.next [] rfl rfl
         refine Stg.fin [] rfl rfl QAll.nil ?_
         replace H := H.self
         exact AtE.then_n ((HK6 _ (b, b_1) _ H).pickP (ts := [7, 8, 0, 4, 5]) (is := [1, 0]) rfl rfl (by decide) rfl)
        refine EAll.cons ?_ EAll.nil
        refine EOp.e rfl rfl rfl (EffX.allocP (cs := [_, _, _]) hT rfl rfl H) ?_
        rintro _ _ ⟨b_2, _, rfl, rfl, he11, H⟩
        apply Stg.next [(8, _)] rfl rfl
        refine Stg.go [] [4] rfl rfl QAll.nil ?_
        refine EAll.cons ?_ EAll.nil
        refine EOp.e rfl rfl rfl (EffX.allocP (cs := [_, _, _]) hT rfl rfl H) ?_
        rintro _ _ ⟨b_3, _, rfl, rfl, he12, H⟩
        apply Stg.next [(7, _)] rfl rfl
        refine Stg.go [] [6] rfl rfl QAll.nil ?_
        refine EAll.cons ?_ EAll.nil
        refine EOp.e rfl rfl rfl (EffX.storeSP (i := 0) (qv := [(_, [_, _, _]), (_, [_, _, _])]) hT rfl rfl rfl rfl rfl rfl rfl rfl rfl rfl) ?_
        rintro _ _ rfl
        apply Stg.next [] rfl rfl
        refine Stg.go [] [7] rfl rfl QAll.nil ?_
        refine EAll.cons ?_ EAll.nil
        refine EOp.e rfl rfl rfl (EffX.storeSP (i := 1) (qv := [(_, [_, _, _]), (_, [_, _, _])]) hT rfl rfl rfl rfl rfl rfl rfl rfl rfl rfl) ?_
        rintro _ _ rfl
        apply Stg.next [] rfl rfl
        refine Stg.fin [] rfl rfl QAll.nil ?_
        replace H := H.self
        exact AtE.then_n ((HK6 _ (b_3, b_2) _ H).pickP (ts := [7, 8, 0, 4, 5]) (is := [0, 1]) rfl rfl (by decide) rfl)
       refine EAll.cons ?_ ?_
       ·
        refine EOp.e rfl rfl rfl (EffX.allocP (cs := [_, _, _]) hT rfl rfl H) ?_
        rintro _ _ ⟨b_4, _, rfl, rfl, he13, H⟩
        replace hc8 := he13.cells hc8
        apply Stg.next [(7, _)] rfl rfl
        refine Stg.go [2] [3, 5] rfl rfl (QAll.cons (QOp.q rfl rfl (Quiet1.loadS hT rfl rfl rfl rfl hc8) rfl rfl) QAll.nil) ?_
        refine EAll.cons ?_ ?_
        ·
         replace H := H.self
         refine EOp.e rfl rfl rfl (EffX.call (f := 7) (sh := fun h => ref02uOf _ h _) (H0 := H) rfl Tryz.call7 rfl (hl := fun w m hr hw => lift_ref02uOf _ w m hr _ hw)) ?_
         rintro _ _ ⟨v_13, h0u14, rfl, rfl, H⟩
         apply Stg.next [(29, _)] rfl rfl
         refine Stg.go [] [5] rfl rfl QAll.nil ?_
         refine EAll.cons ?_ EAll.nil
         refine EOp.e rfl rfl rfl (EffX.allocP (cs := [_, _, _]) hT rfl rfl H) ?_
         rintro _ _ ⟨b_5, _, rfl, rfl, he14, H⟩
         apply Stg.next [(8, _)] rfl rfl
         refine Stg.go [] [6] rfl rfl QAll.nil ?_
         refine EAll.cons ?_ EAll.nil
         refine EOp.e rfl rfl rfl (EffX.storeSP (i := 1) (qv := [(_, [_, _, _]), (_, [_, _, _])]) hT rfl rfl rfl rfl rfl rfl rfl rfl rfl rfl) ?_
         rintro _ _ rfl
         apply Stg.next [] rfl rfl
         refine Stg.go [] [7] rfl rfl QAll.nil ?_
         refine EAll.cons ?_ EAll.nil
         refine EOp.e rfl rfl rfl (EffX.storeSP (i := 0) (qv := [(_, [_, _, _]), (_, [_, _, _])]) hT rfl rfl rfl rfl rfl rfl rfl rfl rfl rfl) ?_
         rintro _ _ rfl
         apply Stg.next [] rfl rfl
         refine Stg.fin [] rfl rfl QAll.nil ?_
         replace H := H.self
         exact AtE.then_n ((HK6 _ (b_4, b_5) _ H).pickP (ts := [7, 8, 0, 4, 5]) (is := [1, 0]) rfl rfl (by decide) rfl)
        refine EAll.cons ?_ EAll.nil
        refine EOp.e rfl rfl rfl (EffX.allocP (cs := [_, _, _]) hT rfl rfl H) ?_
        rintro _ _ ⟨b_6, _, rfl, rfl, he15, H⟩
        replace hc8 := he15.cells hc8
        apply Stg.next [(8, _)] rfl rfl
        refine Stg.go [2] [3] rfl rfl (QAll.cons (QOp.q rfl rfl (Quiet1.loadS hT rfl rfl rfl rfl hc8) rfl rfl) QAll.nil) ?_
        refine EAll.cons ?_ EAll.nil
        replace H := H.self
        refine EOp.e rfl rfl rfl (EffX.call (f := 7) (sh := fun h => ref02uOf _ h _) (H0 := H) rfl Tryz.call7 rfl (hl := fun w m hr hw => lift_ref02uOf _ w m hr _ hw)) ?_
        rintro _ _ ⟨v_14, h0u16, rfl, rfl, H⟩
        apply Stg.next [(29, _)] rfl rfl
        refine Stg.go [] [6] rfl rfl QAll.nil ?_
        refine EAll.cons ?_ EAll.nil
        refine EOp.e rfl rfl rfl (EffX.storeSP (i := 1) (qv := [(_, [_, _, _]), (_, [_, _, _])]) hT rfl rfl rfl rfl rfl rfl rfl rfl rfl rfl) ?_
        rintro _ _ rfl
        apply Stg.next [] rfl rfl
        refine Stg.go [] [7] rfl rfl QAll.nil ?_
        refine EAll.cons ?_ EAll.nil
        refine EOp.e rfl rfl rfl (EffX.storeSP (i := 0) (qv := [(_, [_, _, _]), (_, [_, _, _])]) hT rfl rfl rfl rfl rfl rfl rfl rfl rfl rfl) ?_
        rintro _ _ rfl
        apply Stg.next [] rfl rfl
        refine Stg.fin [] rfl rfl QAll.nil ?_
        replace H := H.self
        exact AtE.then_n ((HK6 _ (b_4, b_6) _ H).pickP (ts := [7, 8, 0, 4, 5]) (is := [1, 0]) rfl rfl (by decide) rfl)
       refine EAll.cons ?_ EAll.nil
       refine EOp.e rfl rfl rfl (EffX.allocP (cs := [_, _, _]) hT rfl rfl H) ?_
       rintro _ _ ⟨b_7, _, rfl, rfl, he16, H⟩
       replace hc8 := he16.cells hc8
       apply Stg.next [(8, _)] rfl rfl
       refine Stg.go [2] [3, 4] rfl rfl (QAll.cons (QOp.q rfl rfl (Quiet1.loadS hT rfl rfl rfl rfl hc8) rfl rfl) QAll.nil) ?_
       refine EAll.cons ?_ ?_
       ·
        replace H := H.self
        refine EOp.e rfl rfl rfl (EffX.call (f := 7) (sh := fun h => ref02uOf _ h _) (H0 := H) rfl Tryz.call7 rfl (hl := fun w m hr hw => lift_ref02uOf _ w m hr _ hw)) ?_
        rintro _ _ ⟨v_15, h0u18, rfl, rfl, H⟩
        apply Stg.next [(29, _)] rfl rfl
        refine Stg.go [] [4] rfl rfl QAll.nil ?_
        refine EAll.cons ?_ EAll.nil
        refine EOp.e rfl rfl rfl (EffX.allocP (cs := [_, _, _]) hT rfl rfl H) ?_
        rintro _ _ ⟨b_8, _, rfl, rfl, he17, H⟩
        apply Stg.next [(7, _)] rfl rfl
        refine Stg.go [] [6] rfl rfl QAll.nil ?_
        refine EAll.cons ?_ EAll.nil
        refine EOp.e rfl rfl rfl (EffX.storeSP (i := 0) (qv := [(_, [_, _, _]), (_, [_, _, _])]) hT rfl rfl rfl rfl rfl rfl rfl rfl rfl rfl) ?_
        rintro _ _ rfl
        apply Stg.next [] rfl rfl
        refine Stg.go [] [7] rfl rfl QAll.nil ?_
        refine EAll.cons ?_ EAll.nil
        refine EOp.e rfl rfl rfl (EffX.storeSP (i := 1) (qv := [(_, [_, _, _]), (_, [_, _, _])]) hT rfl rfl rfl rfl rfl rfl rfl rfl rfl rfl) ?_
        rintro _ _ rfl
        apply Stg.next [] rfl rfl
        refine Stg.fin [] rfl rfl QAll.nil ?_
        replace H := H.self
        exact AtE.then_n ((HK6 _ (b_8, b_7) _ H).pickP (ts := [7, 8, 0, 4, 5]) (is := [0, 1]) rfl rfl (by decide) rfl)
       refine EAll.cons ?_ EAll.nil
       refine EOp.e rfl rfl rfl (EffX.allocP (cs := [_, _, _]) hT rfl rfl H) ?_
       rintro _ _ ⟨b_9, _, rfl, rfl, he18, H⟩
       replace hc8 := he18.cells hc8
       apply Stg.next [(7, _)] rfl rfl
       refine Stg.go [2] [3] rfl rfl (QAll.cons (QOp.q rfl rfl (Quiet1.loadS hT rfl rfl rfl rfl hc8) rfl rfl) QAll.nil) ?_
       refine EAll.cons ?_ EAll.nil
       replace H := H.self
       refine EOp.e rfl rfl rfl (EffX.call (f := 7) (sh := fun h => ref02uOf _ h _) (H0 := H) rfl Tryz.call7 rfl (hl := fun w m hr hw => lift_ref02uOf _ w m hr _ hw)) ?_
       rintro _ _ ⟨v_16, h0u20, rfl, rfl, H⟩
       apply Stg.next [(29, _)] rfl rfl
       refine Stg.go [] [6] rfl rfl QAll.nil ?_
       refine EAll.cons ?_ EAll.nil
       refine EOp.e rfl rfl rfl (EffX.storeSP (i := 0) (qv := [(_, [_, _, _]), (_, [_, _, _])]) hT rfl rfl rfl rfl rfl rfl rfl rfl rfl rfl) ?_
       rintro _ _ rfl
       apply Stg.next [] rfl rfl
       refine Stg.go [] [7] rfl rfl QAll.nil ?_
       refine EAll.cons ?_ EAll.nil
       refine EOp.e rfl rfl rfl (EffX.storeSP (i := 1) (qv := [(_, [_, _, _]), (_, [_, _, _])]) hT rfl rfl rfl rfl rfl rfl rfl rfl rfl rfl) ?_
       rintro _ _ rfl
       apply Stg.next [] rfl rfl
       refine Stg.fin [] rfl rfl QAll.nil ?_
       replace H := H.self
       exact AtE.then_n ((HK6 _ (b_9, b_7) _ H).pickP (ts := [7, 8, 0, 4, 5]) (is := [0, 1]) rfl rfl (by decide) rfl)
      refine EAll.cons ?_ ?_
      ·
       refine EOp.e rfl rfl rfl (EffX.allocP (cs := [_, _, _]) hT rfl rfl H) ?_
       rintro _ _ ⟨b_10, _, rfl, rfl, he19, H⟩
       replace hc6 := he19.cells hc6
       replace hc7 := he19.cells hc7
       apply Stg.next [(7, _)] rfl rfl
       refine Stg.go [0, 2] [1, 5] rfl rfl (QAll.cons (QOp.q rfl rfl (Quiet1.loadS hT rfl rfl rfl rfl hc6) rfl rfl) (QAll.cons (QOp.q rfl rfl (Quiet1.loadS hT rfl rfl rfl rfl hc7) rfl rfl) QAll.nil)) ?_
       refine EAll.cons ?_ ?_
       ·
        replace H := H.self
        refine EOp.e rfl rfl rfl (EffX.call (f := 7) (sh := fun h => ref02uOf _ h _) (H0 := H) rfl Tryz.call7 rfl (hl := fun w m hr hw => lift_ref02uOf _ w m hr _ hw)) ?_
        rintro _ _ ⟨v_17, h0u22, rfl, rfl, H⟩
        obtain ⟨hc20, H⟩ := H
        apply Stg.next [(27, _)] rfl rfl
        refine Stg.go [2] [3, 5] rfl rfl (QAll.cons (QOp.q rfl rfl (Quiet1.loadS hT rfl rfl rfl rfl hc20) rfl rfl) QAll.nil) ?_
        refine EAll.cons ?_ ?_
        ·
         replace H := H.self
         refine EOp.e rfl rfl rfl (EffX.call (f := 7) (sh := fun h => ref02uOf _ h _) (H0 := H) rfl Tryz.call7 rfl (hl := fun w m hr hw => lift_ref02uOf _ w m hr _ hw)) ?_
         rintro _ _ ⟨v_18, h0u24, rfl, rfl, H⟩
         apply Stg.next [(29, _)] rfl rfl
         refine Stg.go [] [5] rfl rfl QAll.nil ?_
         refine EAll.cons ?_ EAll.nil
         refine EOp.e rfl rfl rfl (EffX.allocP (cs := [_, _, _]) hT rfl rfl H) ?_
         rintro _ _ ⟨b_11, _, rfl, rfl, he21, H⟩
         apply Stg.next [(8, _)] rfl rfl
         refine Stg.go [] [6] rfl rfl QAll.nil ?_
         refine EAll.cons ?_ EAll.nil
         refine EOp.e rfl rfl rfl (EffX.storeSP (i := 1) (qv := [(_, [_, _, _]), (_, [_, _, _])]) hT rfl rfl rfl rfl rfl rfl rfl rfl rfl rfl) ?_
         rintro _ _ rfl
         apply Stg.next [] rfl rfl
         refine Stg.go [] [7] rfl rfl QAll.nil ?_
         refine EAll.cons ?_ EAll.nil
         refine EOp.e rfl rfl rfl (EffX.storeSP (i := 0) (qv := [(_, [_, _, _]), (_, [_, _, _])]) hT rfl rfl rfl rfl rfl rfl rfl rfl rfl rfl) ?_
         rintro _ _ rfl
         apply Stg.next [] rfl rfl
         refine Stg.fin [] rfl rfl QAll.nil ?_
         replace H := H.self
         exact AtE.then_n ((HK6 _ (b_10, b_11) _ H).pickP (ts := [7, 8, 0, 4, 5]) (is := [1, 0]) rfl rfl (by decide) rfl)
        refine EAll.cons ?_ EAll.nil
        refine EOp.e rfl rfl rfl (EffX.allocP (cs := [_, _, _]) hT rfl rfl H) ?_
        rintro _ _ ⟨b_12, _, rfl, rfl, he22, H⟩
        replace hc20 := he22.cells hc20
        apply Stg.next [(8, _)] rfl rfl
        refine Stg.go [2] [3] rfl rfl (QAll.cons (QOp.q rfl rfl (Quiet1.loadS hT rfl rfl rfl rfl hc20) rfl rfl) QAll.nil) ?_
        refine EAll.cons ?_ EAll.nil
        replace H := H.self
        refine EOp.e rfl rfl rfl (EffX.call (f := 7) (sh := fun h => ref02uOf _ h _) (H0 := H) rfl Tryz.call7 rfl (hl := fun w m hr hw => lift_ref02uOf _ w m hr _ hw)) ?_
        rintro _ _ ⟨v_19, h0u26, rfl, rfl, H⟩
        apply Stg.next [(29, _)] rfl rfl
        refine Stg.go [] [6] rfl rfl QAll.nil ?_
        refine EAll.cons ?_ EAll.nil
        refine EOp.e rfl rfl rfl (EffX.storeSP (i := 1) (qv := [(_, [_, _, _]), (_, [_, _, _])]) hT rfl rfl rfl rfl rfl rfl rfl rfl rfl rfl) ?_
        rintro _ _ rfl
        apply Stg.next [] rfl rfl
        refine Stg.go [] [7] rfl rfl QAll.nil ?_
        refine EAll.cons ?_ EAll.nil
        refine EOp.e rfl rfl rfl (EffX.storeSP (i := 0) (qv := [(_, [_, _, _]), (_, [_, _, _])]) hT rfl rfl rfl rfl rfl rfl rfl rfl rfl rfl) ?_
        rintro _ _ rfl
        apply Stg.next [] rfl rfl
        refine Stg.fin [] rfl rfl QAll.nil ?_
        replace H := H.self
        exact AtE.then_n ((HK6 _ (b_10, b_12) _ H).pickP (ts := [7, 8, 0, 4, 5]) (is := [1, 0]) rfl rfl (by decide) rfl)
       refine EAll.cons ?_ EAll.nil
       refine EOp.e rfl rfl rfl (EffX.allocP (cs := [_, _, _]) hT rfl rfl H) ?_
       rintro _ _ ⟨b_13, _, rfl, rfl, he23, H⟩
       replace hc6 := he23.cells hc6
       replace hc7 := he23.cells hc7
       apply Stg.next [(8, _)] rfl rfl
       refine Stg.go [0, 2] [1] rfl rfl (QAll.cons (QOp.q rfl rfl (Quiet1.loadS hT rfl rfl rfl rfl hc6) rfl rfl) (QAll.cons (QOp.q rfl rfl (Quiet1.loadS hT rfl rfl rfl rfl hc7) rfl rfl) QAll.nil)) ?_
       refine EAll.cons ?_ EAll.nil
       replace H := H.self
       refine EOp.e rfl rfl rfl (EffX.call (f := 7) (sh := fun h => ref02uOf _ h _) (H0 := H) rfl Tryz.call7 rfl (hl := fun w m hr hw => lift_ref02uOf _ w m hr _ hw)) ?_
       rintro _ _ ⟨v_20, h0u28, rfl, rfl, H⟩
       obtain ⟨hc24, H⟩ := H
       apply Stg.next [(27, _)] rfl rfl
       refine Stg.go [2] [3] rfl rfl (QAll.cons (QOp.q rfl rfl (Quiet1.loadS hT rfl rfl rfl rfl hc24) rfl rfl) QAll.nil) ?_
       refine EAll.cons ?_ EAll.nil
       replace H := H.self
       refine EOp.e rfl rfl rfl (EffX.call (f := 7) (sh := fun h => ref02uOf _ h _) (H0 := H) rfl Tryz.call7 rfl (hl := fun w m hr hw => lift_ref02uOf _ w m hr _ hw)) ?_
       rintro _ _ ⟨v_21, h0u30, rfl, rfl, H⟩
       apply Stg.next [(29, _)] rfl rfl
       refine Stg.go [] [6] rfl rfl QAll.nil ?_
       refine EAll.cons ?_ EAll.nil
       refine EOp.e rfl rfl rfl (EffX.storeSP (i := 1) (qv := [(_, [_, _, _]), (_, [_, _, _])]) hT rfl rfl rfl rfl rfl rfl rfl rfl rfl rfl) ?_
       rintro _ _ rfl
       apply Stg.next [] rfl rfl
       refine Stg.go [] [7] rfl rfl QAll.nil ?_
       refine EAll.cons ?_ EAll.nil
       refine EOp.e rfl rfl rfl (EffX.storeSP (i := 0) (qv := [(_, [_, _, _]), (_, [_, _, _])]) hT rfl rfl rfl rfl rfl rfl rfl rfl rfl rfl) ?_
       rintro _ _ rfl
       apply Stg.next [] rfl rfl
       refine Stg.fin [] rfl rfl QAll.nil ?_
       replace H := H.self
       exact AtE.then_n ((HK6 _ (b_10, b_13) _ H).pickP (ts := [7, 8, 0, 4, 5]) (is := [1, 0]) rfl rfl (by decide) rfl)
      refine EAll.cons ?_ EAll.nil
      refine EOp.e rfl rfl rfl (EffX.allocP (cs := [_, _, _]) hT rfl rfl H) ?_
      rintro _ _ ⟨b_14, _, rfl, rfl, he25, H⟩
      replace hc6 := he25.cells hc6
      replace hc7 := he25.cells hc7
      apply Stg.next [(8, _)] rfl rfl
      refine Stg.go [0, 2] [1, 4] rfl rfl (QAll.cons (QOp.q rfl rfl (Quiet1.loadS hT rfl rfl rfl rfl hc6) rfl rfl) (QAll.cons (QOp.q rfl rfl (Quiet1.loadS hT rfl rfl rfl rfl hc7) rfl rfl) QAll.nil)) ?_
      refine EAll.cons ?_ ?_
      ·
       replace H := H.self
       refine EOp.e rfl rfl rfl (EffX.call (f := 7) (sh := fun h => ref02uOf _ h _) (H0 := H) rfl Tryz.call7 rfl (hl := fun w m hr hw => lift_ref02uOf _ w m hr _ hw)) ?_
       rintro _ _ ⟨v_22, h0u32, rfl, rfl, H⟩
       obtain ⟨hc26, H⟩ := H
       apply Stg.next [(27, _)] rfl rfl
       refine Stg.go [2] [3, 4] rfl rfl (QAll.cons (QOp.q rfl rfl (Quiet1.loadS hT rfl rfl rfl rfl hc26) rfl rfl) QAll.nil) ?_
       refine EAll.cons ?_ ?_
       ·
        replace H := H.self
        refine EOp.e rfl rfl rfl (EffX.call (f := 7) (sh := fun h => ref02uOf _ h _) (H0 := H) rfl Tryz.call7 rfl (hl := fun w m hr hw => lift_ref02uOf _ w m hr _ hw)) ?_
        rintro _ _ ⟨v_23, h0u34, rfl, rfl, H⟩
        apply Stg.next [(29, _)] rfl rfl
        refine Stg.go [] [4] rfl rfl QAll.nil ?_
        refine EAll.cons ?_ EAll.nil
        refine EOp.e rfl rfl rfl (EffX.allocP (cs := [_, _, _]) hT rfl rfl H) ?_
        rintro _ _ ⟨b_15, _, rfl, rfl, he27, H⟩
        apply Stg.next [(7, _)] rfl rfl
        refine Stg.go [] [6] rfl rfl QAll.nil ?_
        refine EAll.cons ?_ EAll.nil
        refine EOp.e rfl rfl rfl (EffX.storeSP (i := 0) (qv := [(_, [_, _, _]), (_, [_, _, _])]) hT rfl rfl rfl rfl rfl rfl rfl rfl rfl rfl) ?_
        rintro _ _ rfl
        apply Stg.next [] rfl rfl
        refine Stg.go [] [7] rfl rfl QAll.nil ?_
        refine EAll.cons ?_ EAll.nil
        refine EOp.e rfl rfl rfl (EffX.storeSP (i := 1) (qv := [(_, [_, _, _]), (_, [_, _, _])]) hT rfl rfl rfl rfl rfl rfl rfl rfl rfl rfl) ?_
        rintro _ _ rfl
        apply Stg.next [] rfl rfl
        refine Stg.fin [] rfl rfl QAll.nil ?_
        replace H := H.self
        exact AtE.then_n ((HK6 _ (b_15, b_14) _ H).pickP (ts := [7, 8, 0, 4, 5]) (is := [0, 1]) rfl rfl (by decide) rfl)
       refine EAll.cons ?_ EAll.nil
       refine EOp.e rfl rfl rfl (EffX.allocP (cs := [_, _, _]) hT rfl rfl H) ?_
       rintro _ _ ⟨b_16, _, rfl, rfl, he28, H⟩
       replace hc26 := he28.cells hc26
       apply Stg.next [(7, _)] rfl rfl
       refine Stg.go [2] [3] rfl rfl (QAll.cons (QOp.q rfl rfl (Quiet1.loadS hT rfl rfl rfl rfl hc26) rfl rfl) QAll.nil) ?_
       refine EAll.cons ?_ EAll.nil
       replace H := H.self
       refine EOp.e rfl rfl rfl (EffX.call (f := 7) (sh := fun h => ref02uOf _ h _) (H0 := H) rfl Tryz.call7 rfl (hl := fun w m hr hw => lift_ref02uOf _ w m hr _ hw)) ?_
       rintro _ _ ⟨v_24, h0u36, rfl, rfl, H⟩
       apply Stg.next [(29, _)] rfl rfl
       refine Stg.go [] [6] rfl rfl QAll.nil ?_
       refine EAll.cons ?_ EAll.nil
       refine EOp.e rfl rfl rfl (EffX.storeSP (i := 0) (qv := [(_, [_, _, _]), (_, [_, _, _])]) hT rfl rfl rfl rfl rfl rfl rfl rfl rfl rfl) ?_
       rintro _ _ rfl
       apply Stg.next [] rfl rfl
       refine Stg.go [] [7] rfl rfl QAll.nil ?_
       refine EAll.cons ?_ EAll.nil
       refine EOp.e rfl rfl rfl (EffX.storeSP (i := 1) (qv := [(_, [_, _, _]), (_, [_, _, _])]) hT rfl rfl rfl rfl rfl rfl rfl rfl rfl rfl) ?_
       rintro _ _ rfl
       apply Stg.next [] rfl rfl
       refine Stg.fin [] rfl rfl QAll.nil ?_
       replace H := H.self
       exact AtE.then_n ((HK6 _ (b_16, b_14) _ H).pickP (ts := [7, 8, 0, 4, 5]) (is := [0, 1]) rfl rfl (by decide) rfl)
      refine EAll.cons ?_ EAll.nil
      refine EOp.e rfl rfl rfl (EffX.allocP (cs := [_, _, _]) hT rfl rfl H) ?_
      rintro _ _ ⟨b_17, _, rfl, rfl, he29, H⟩
      replace hc6 := he29.cells hc6
      replace hc7 := he29.cells hc7
      apply Stg.next [(7, _)] rfl rfl
      refine Stg.go [0, 2] [1] rfl rfl (QAll.cons (QOp.q rfl rfl (Quiet1.loadS hT rfl rfl rfl rfl hc6) rfl rfl) (QAll.cons (QOp.q rfl rfl (Quiet1.loadS hT rfl rfl rfl rfl hc7) rfl rfl) QAll.nil)) ?_
      refine EAll.cons ?_ EAll.nil
      replace H := H.self
      refine EOp.e rfl rfl rfl (EffX.call (f := 7) (sh := fun h => ref02uOf _ h _) (H0 := H) rfl Tryz.call7 rfl (hl := fun w m hr hw => lift_ref02uOf _ w m hr _ hw)) ?_
      rintro _ _ ⟨v_25, h0u38, rfl, rfl, H⟩
      obtain ⟨hc30, H⟩ := H
      apply Stg.next [(27, _)] rfl rfl
      refine Stg.go [2] [3] rfl rfl (QAll.cons (QOp.q rfl rfl (Quiet1.loadS hT rfl rfl rfl rfl hc30) rfl rfl) QAll.nil) ?_
      refine EAll.cons ?_ EAll.nil
      replace H := H.self
      refine EOp.e rfl rfl rfl (EffX.call (f := 7) (sh := fun h => ref02uOf _ h _) (H0 := H) rfl Tryz.call7 rfl (hl := fun w m hr hw => lift_ref02uOf _ w m hr _ hw)) ?_
      rintro _ _ ⟨v_26, h0u40, rfl, rfl, H⟩
      apply Stg.next [(29, _)] rfl rfl
      refine Stg.go [] [6] rfl rfl QAll.nil ?_
      refine EAll.cons ?_ EAll.nil
      refine EOp.e rfl rfl rfl (EffX.storeSP (i := 0) (qv := [(_, [_, _, _]), (_, [_, _, _])]) hT rfl rfl rfl rfl rfl rfl rfl rfl rfl rfl) ?_
      rintro _ _ rfl
      apply Stg.next [] rfl rfl
      refine Stg.go [] [7] rfl rfl QAll.nil ?_
      refine EAll.cons ?_ EAll.nil
      refine EOp.e rfl rfl rfl (EffX.storeSP (i := 1) (qv := [(_, [_, _, _]), (_, [_, _, _])]) hT rfl rfl rfl rfl rfl rfl rfl rfl rfl rfl) ?_
      rintro _ _ rfl
      apply Stg.next [] rfl rfl
      refine Stg.fin [] rfl rfl QAll.nil ?_
      replace H := H.self
      exact AtE.then_n ((HK6 _ (b_17, b_14) _ H).pickP (ts := [7, 8, 0, 4, 5]) (is := [0, 1]) rfl rfl (by decide) rfl)
   ·
    refine AtC.region ?_
    obtain ⟨v_1, hc1, H⟩ := H
    refine AtL.q rfl (Quiet1.loadS hT rfl rfl rfl rfl hc1) ?_
    obtain ⟨v_2, hc2, H⟩ := H
    refine AtL.q rfl (Quiet1.loadS hT rfl rfl rfl rfl hc2) ?_
    refine AtLX.bs (hT := hT) (cs := [_, _, _, _, _, _]) H rfl rfl rfl rfl rfl rfl rfl rfl rfl (fun a h0u4 H => ?_)
    refine AtL.e rfl (EffX.call (f := 5) (sh := fun h => law02uGreat _ h _) (H0 := H) rfl Tryz.call5 rfl (hl := fun w m hr hw => lift_law02uGreat _ w m hr _ hw)) ?_
    rintro _ _ ⟨v_4, h0u5, rfl, rfl, H⟩
    refine AtL.pures hT 1 _ _ _ _ rfl ?_
    refine AtL.splitB (t := 16) H rfl (fun H => ?_) (fun H => ?_)
    ·
     refine AtL.noF rfl rfl rfl (by decide) rfl ?_
     refine AtL.noF rfl rfl rfl (by decide) rfl ?_
     refine AtL.noF rfl rfl rfl (by decide) rfl ?_
     refine AtL.pures hT 2 _ _ _ _ rfl ?_
     refine AtL.noF rfl rfl rfl (by decide) rfl ?_
     refine AtL.noF rfl rfl rfl (by decide) rfl ?_
     refine AtL.noF rfl rfl rfl (by decide) rfl ?_
     refine AtL.pures hT 1 _ _ _ _ rfl ?_
     refine AtL.nil ?_
     exact AtE.then_n ((HK1 _ () _ H).pickP (ts := [25, 0, 4, 5]) (is := []) rfl rfl (by decide) rfl)
    ·
     refine AtL.yes rfl rfl rfl ?_
     obtain ⟨v_5, hc3, H⟩ := H
     refine AtL.q rfl (Quiet1.loadS hT rfl rfl rfl rfl hc3) ?_
     refine AtL.yes rfl rfl rfl ?_
     refine AtL.e rfl (EffX.call (f := 6) (sh := fun h => ref02uRight _ h _) (H0 := H) rfl Tryz.call6 rfl (hl := fun w m hr hw => lift_ref02uRight _ w m hr _ hw)) ?_
     rintro _ _ ⟨v_6, h0u6, rfl, rfl, H⟩
     refine AtL.yes rfl rfl rfl ?_
     refine AtL.pures hT 1 _ _ _ _ rfl ?_
     refine AtL.pures hT 2 _ _ _ _ rfl ?_
     refine AtL.splitB (t := 21) H rfl (fun H => ?_) (fun H => ?_)
     ·
      refine AtL.noF rfl rfl rfl (by decide) rfl ?_
      refine AtL.noF rfl rfl rfl (by decide) rfl ?_
      refine AtL.noF rfl rfl rfl (by decide) rfl ?_
      refine AtL.pures hT 1 _ _ _ _ rfl ?_
      refine AtL.nil ?_
      exact AtE.then_n ((HK1 _ () _ H).pickP (ts := [25, 0, 4, 5]) (is := []) rfl rfl (by decide) rfl)
     ·
      refine AtL.yes rfl rfl rfl ?_
      obtain ⟨v_7, hc4, H⟩ := H
      refine AtL.q rfl (Quiet1.loadS hT rfl rfl rfl rfl hc4) ?_
      refine AtL.yes rfl rfl rfl ?_
      refine AtL.e rfl (EffX.call (f := 6) (sh := fun h => ref02uRight _ h _) (H0 := H) rfl Tryz.call6 rfl (hl := fun w m hr hw => lift_ref02uRight _ w m hr _ hw)) ?_
      rintro _ _ ⟨v_8, h0u7, rfl, rfl, H⟩
      refine AtL.yes rfl rfl rfl ?_
      refine AtL.pures hT 1 _ _ _ _ rfl ?_
      refine AtL.pures hT 1 _ _ _ _ rfl ?_
      refine AtL.nil ?_
      exact AtE.then_n ((HK1 _ () _ H).pickP (ts := [25, 0, 4, 5]) (is := []) rfl rfl (by decide) rfl)
end Go.Proofs.YtdcdidecehbplaaGreatDoor

/-
  The deep code does what the functions of the shallow text say: printed by lift.py.
-/
import Derived.Test.YtdcdidecehbplaaDoorLfE2
set_option linter.unusedVariables false
set_option linter.unusedSimpArgs false
namespace Go.Proofs.YtdcdidecehbplaaDoor
open Go Go.Lift Go.Sh
set_option maxRecDepth 100000
set_option maxHeartbeats 4000000
attribute [local irreducible] Calls AtL AtC AtE AtD Eff Quiet1 Stg qAt QAll eAt EAll nextK Code.wp


theorem lift_law03utold__law03uDeltaTold_c2 (limbs : Int) (do_c : Addr) (do_c_1 : Addr) (want : Bool × Sl × Sl × Bool × Sl × Sl) (w : World) (m : Heap) (hr : Rel ⟨m, []⟩ w.heap) (S : Bool → Heap → Prop) (H : law03utold__law03uDeltaTold_c2 limbs do_c do_c_1 want m S) :
    Calls Tryd.prog 40 #[Value.int .i64 limbs, Value.func (.func 44) #[] #[Value.pointer (some do_c), Value.pointer (some do_c_1)], Value.agg (C_bool_sl_sl_bool_sl_sl want).toArray] w (Post ⟨w, m⟩ Value.bool S) := by
  refine Calls.lift (args := [Value.int .i64 limbs, Value.func (.func 44) #[] #[Value.pointer (some do_c), Value.pointer (some do_c_1)], Value.agg (C_bool_sl_sl_bool_sl_sl want).toArray]) Tryd.func40 rfl Tryd.ntmps40 (Nat.le_of_ble_eq_true rfl) hr (law03utold__law03uDeltaTold_c2 limbs do_c do_c_1 want m S) H (fun H => ?_)
  refine AtC.pick (ts := [0, 1, 2]) rfl ?_
  unfold law03utold__law03uDeltaTold_c2 at H
  refine AtC.seqR ?_
  refine AtL.e rfl (EffX.boxP (cs := [_, _, _, _, _, _]) rfl rfl rfl H) ?_
  rintro _ _ ⟨b, _, rfl, rfl, _, H⟩
  replace H := H.self
  refine AtL.pures hT 1 _ _ _ _ rfl ?_
  refine AtL.nil ?_
  refine AtE.then_n (AtE.go ?_)
  refine AtC.seqR ?_
  refine AtL.pures hT 1 _ _ _ _ rfl ?_
  refine AtL.e rfl (EffX.call (f := 15) (sh := fun h => nat_New _ h _) (H0 := H) rfl Tryd.call15 rfl (hl := fun w m hr hw => lift_nat_New _ w m hr _ hw)) ?_
  rintro _ _ ⟨v, h0u1, rfl, rfl, H⟩
  refine AtL.pures hT 1 _ _ _ _ rfl ?_
  refine AtL.nil ?_
  refine AtE.then_n (AtE.go ?_)
  refine AtC.joinSeq (β := Nat × Nat) (fun (t0 : Int × Bool × Sl × Sl × Bool × Sl × Sl × Bool × Sl × Sl × Bool × Sl × Sl) (bb : Nat × Nat) => [(10, Value.int .i64 t0.1), (8, Value.pointer (some ⟨bb.1, 0, none⟩)), (9, Value.pointer (some ⟨bb.2, 0, none⟩))]) (fun (t0 : Int × Bool × Sl × Sl × Bool × Sl × Sl × Bool × Sl × Sl × Bool × Sl × Sl) (bb : Nat × Nat) => [(bb.1, [Value.bool t0.2.1, Sl.toV t0.2.2.1, Sl.toV t0.2.2.2.1, Value.bool t0.2.2.2.2.1, Sl.toV t0.2.2.2.2.2.1, Sl.toV t0.2.2.2.2.2.2.1]), (bb.2, [Value.bool t0.2.2.2.2.2.2.2.1, Sl.toV t0.2.2.2.2.2.2.2.2.1, Sl.toV t0.2.2.2.2.2.2.2.2.2.1, Value.bool t0.2.2.2.2.2.2.2.2.2.2.1, Sl.toV t0.2.2.2.2.2.2.2.2.2.2.2.1, Sl.toV t0.2.2.2.2.2.2.2.2.2.2.2.2])]) [7] [] H (by exact rfl) (by exact rfl) (fun t0 bb h0u2 H => ?_) (fun J1 H HK1 => ?_)
  ·
   refine AtC.seq ?_
   refine AtC.joinSeq (β := Unit) (fun (t0u1 : Bool) (bb_1 : Unit) => [(31, Value.bool t0u1)]) (fun (t0u1 : Bool) (bb_1 : Unit) => []) [7, 8, 9] [0, 1] H (by exact rfl) (by exact rfl) (fun t0u1 bb_1 h0u36 H => ?_) (fun J20 H HK20 => ?_)
   ·
    refine AtC.condB H rfl (fun H => ?_) (fun H => ?_)
    ·
     refine AtC.joinSeq (β := Unit) (fun (t0u2 : Bool) (bb_2 : Unit) => [(6, Value.bool t0u2)]) (fun (t0u2 : Bool) (bb_2 : Unit) => []) [] [] H (by exact rfl) (by exact rfl) (fun t0u2 bb_2 h0u39 H => ?_) (fun J21 H HK21 => ?_)
     ·
      refine AtC.ret ?_
      refine AtE.then_r ?_
      exact AtE.retN (rs := [.tmp 6]) rfl (ResAll.cons (ResAt.tmp rfl) ResAll.nil) rfl H
     ·
      refine AtC.region ?_
      refine AtL.pures hT 1 _ _ _ _ rfl ?_
      refine AtL.e rfl (EffX.call (f := 24) (sh := fun h => nat_Bench_Over _ h _) (H0 := H) rfl Tryd.call24 rfl (hl := fun w m hr hw => lift_nat_Bench_Over _ w m hr _ hw)) ?_
      rintro _ _ ⟨v_19, h0u40, rfl, rfl, H⟩
      refine AtL.pures hT 1 _ _ _ _ rfl ?_
      refine AtL.splitB (t := 34) H rfl (fun H => ?_) (fun H => ?_)
      ·
       refine AtL.yes rfl rfl rfl ?_
       refine AtL.q rfl (Quiet1.loadSP (i := 0) (l := [_, _, _, _, _, _]) hT rfl rfl rfl rfl rfl rfl rfl rfl) ?_
       refine AtL.yes rfl rfl rfl ?_
       refine AtL.q rfl (Quiet1.build (cs := [_, _, _, _, _, _]) hT rfl rfl rfl rfl rfl rfl) ?_
       refine AtL.yes rfl rfl rfl ?_
       refine AtL.e rfl (EffX.call (f := 55) (sh := fun h => ref03uSame _ _ h _) (H0 := H) rfl Tryd.call55 rfl (hl := fun w m hr hw => lift_ref03uSame _ _ w m hr _ hw)) ?_
       rintro _ _ ⟨v_20, h0u41, rfl, rfl, H⟩
       refine AtL.pures hT 2 _ _ _ _ rfl ?_
       refine AtL.nil ?_
       exact AtE.then_n ((HK21 _ () _ H).pickP (ts := [6]) (is := []) rfl rfl (by decide) rfl)
      ·
       refine AtL.noF rfl rfl rfl (by decide) rfl ?_
       refine AtL.noF rfl rfl rfl (by decide) rfl ?_
       refine AtL.noF rfl rfl rfl (by decide) rfl ?_
       refine AtL.pures hT 2 _ _ _ _ rfl ?_
       refine AtL.nil ?_
       exact AtE.then_n ((HK21 _ () _ H).pickP (ts := [6]) (is := []) rfl rfl (by decide) rfl)
    ·
     refine AtC.skip ?_
     refine AtE.then_n (AtE.go ?_)
     refine AtC.joinSeq (β := Unit) (fun (t0u3 : Bool) (bb_3 : Unit) => [(6, Value.bool t0u3)]) (fun (t0u3 : Bool) (bb_3 : Unit) => []) [] [] H (by exact rfl) (by exact rfl) (fun t0u3 bb_3 h0u42 H => ?_) (fun J22 H HK22 => ?_)
     ·
      refine AtC.ret ?_
      exact AtE.retN (rs := [.tmp 6]) rfl (ResAll.cons (ResAt.tmp rfl) ResAll.nil) rfl H
     ·
      refine AtC.region ?_
      refine AtL.pures hT 1 _ _ _ _ rfl ?_
      refine AtL.e rfl (EffX.call (f := 24) (sh := fun h => nat_Bench_Over _ h _) (H0 := H) rfl Tryd.call24 rfl (hl := fun w m hr hw => lift_nat_Bench_Over _ w m hr _ hw)) ?_
      rintro _ _ ⟨v_21, h0u43, rfl, rfl, H⟩
      refine AtL.pures hT 2 _ _ _ _ rfl ?_
      refine AtL.splitB (t := 42) H rfl (fun H => ?_) (fun H => ?_)
      ·
       refine AtL.yes rfl rfl rfl ?_
       refine AtL.q rfl (Quiet1.loadSP (i := 0) (l := [_, _, _, _, _, _]) hT rfl rfl rfl rfl rfl rfl rfl rfl) ?_
       refine AtL.yes rfl rfl rfl ?_
       refine AtL.q rfl (Quiet1.loadSP (i := 1) (l := [_, _, _, _, _, _]) hT rfl rfl rfl rfl rfl rfl rfl rfl) ?_
       refine AtL.yes rfl rfl rfl ?_
       refine AtL.e rfl (EffX.call (f := 55) (sh := fun h => ref03uSame _ _ h _) (H0 := H) rfl Tryd.call55 rfl (hl := fun w m hr hw => lift_ref03uSame _ _ w m hr _ hw)) ?_
       rintro _ _ ⟨v_22, h0u44, rfl, rfl, H⟩
       refine AtL.pures hT 2 _ _ _ _ rfl ?_
       refine AtL.nil ?_
       exact AtE.then_n ((HK22 _ () _ H).pickP (ts := [6]) (is := []) rfl rfl (by decide) rfl)
      ·
       refine AtL.noF rfl rfl rfl (by decide) rfl ?_
       refine AtL.noF rfl rfl rfl (by decide) rfl ?_
       refine AtL.noF rfl rfl rfl (by decide) rfl ?_
       refine AtL.pures hT 2 _ _ _ _ rfl ?_
       refine AtL.nil ?_
       exact AtE.then_n ((HK22 _ () _ H).pickP (ts := [6]) (is := []) rfl rfl (by decide) rfl)
   ·
    refine AtC.region ?_
    refine AtL.pures hT 1 _ _ _ _ rfl ?_
    refine AtL.q rfl (Quiet1.loadSP (i := 1) (l := [_, _, _]) hT rfl rfl rfl rfl rfl rfl rfl rfl) ?_
    refine AtL.pures hT 1 _ _ _ _ rfl ?_
    refine AtL.e rfl (EffX.call (f := 71) (sh := fun h => ref02uFits _ _ h _) (H0 := H) rfl Tryd.call71 rfl (hl := fun w m hr hw => lift_ref02uFits _ _ w m hr _ hw)) ?_
    rintro _ _ ⟨v_17, h0u37, rfl, rfl, H⟩
    refine AtL.pures hT 2 _ _ _ _ rfl ?_
    refine AtL.splitB (t := 25) H rfl (fun H => ?_) (fun H => ?_)
    ·
     refine AtL.noF rfl rfl rfl (by decide) rfl ?_
     refine AtL.noF rfl rfl rfl (by decide) rfl ?_
     refine AtL.noF rfl rfl rfl (by decide) rfl ?_
     refine AtL.noF rfl rfl rfl (by decide) rfl ?_
     refine AtL.noF rfl rfl rfl (by decide) rfl ?_
     refine AtL.pures hT 1 _ _ _ _ rfl ?_
     refine AtL.nil ?_
     exact AtE.then_n ((HK20 _ () _ H).pickP (ts := [31, 7, 8, 9]) (is := [0, 1]) rfl rfl (by decide) rfl)
    ·
     refine AtL.yes rfl rfl rfl ?_
     refine AtL.pures hT 1 _ _ _ _ rfl ?_
     refine AtL.yes rfl rfl rfl ?_
     refine AtL.q rfl (Quiet1.loadSP (i := 1) (l := [_, _, _]) hT rfl rfl rfl rfl rfl rfl rfl rfl) ?_
     refine AtL.yes rfl rfl rfl ?_
     refine AtL.pures hT 1 _ _ _ _ rfl ?_
     refine AtL.yes rfl rfl rfl ?_
     refine AtL.e rfl (EffX.call (f := 71) (sh := fun h => ref02uFits _ _ h _) (H0 := H) rfl Tryd.call71 rfl (hl := fun w m hr hw => lift_ref02uFits _ _ w m hr _ hw)) ?_
     rintro _ _ ⟨v_18, h0u38, rfl, rfl, H⟩
     refine AtL.yes rfl rfl rfl ?_
     refine AtL.pures hT 1 _ _ _ _ rfl ?_
     refine AtL.pures hT 1 _ _ _ _ rfl ?_
     refine AtL.nil ?_
     exact AtE.then_n ((HK20 _ () _ H).pickP (ts := [31, 7, 8, 9]) (is := [0, 1]) rfl rfl (by decide) rfl)
  ·
   apply AtC.stages [2, 4, 7, 8, 9, 10] [[], [], [], [], [2], [], [], [], [], [2, 4, 7, 8], [2, 4, 7, 8, 9], [2, 4, 7, 8, 9, 10]] [[], [], [0, 1], [], [0, 1, 2, 3], [], [5], [], [], [0, 1, 2, 3, 4, 7, 8], [0, 1, 2, 3, 4, 7, 8, 9], [0, 1, 2, 3, 4, 5, 6, 7, 8, 9, 10]] hmix (by kernel_rfl) [(13, _), (14, _), (16, _), (18, _), (19, _)] rfl 6 rfl
   refine Stg.go [0, 1, 3, 5, 6] [2, 7, 8] rfl rfl (QAll.cons (QOp.p hT rfl rfl rfl rfl rfl) (QAll.cons (QOp.p hT rfl rfl rfl rfl rfl) (QAll.cons (QOp.q rfl rfl (Quiet1.loadSP (i := 0) (l := [_, _, _, _, _, _]) hT rfl rfl rfl rfl rfl rfl rfl rfl) rfl rfl) (QAll.cons (QOp.p hT rfl rfl rfl rfl rfl) (QAll.cons (QOp.p hT rfl rfl rfl rfl rfl) QAll.nil))))) ?_
   refine EAll.cons ?_ ?_
   ·
    replace H := H.self
    refine EOp.e rfl rfl rfl (EffX.callF (bs := []) (cs := [_, _]) (f := 44) (sh := fun h => law03uDeltaTold_c2 _ _ _ h _) (H0 := H) rfl rfl Tryd.call44 rfl (hl := fun w m hr hw => lift_law03uDeltaTold_c2 _ _ _ w m hr _ hw)) ?_
    rintro _ _ ⟨v_1, h0u4, rfl, rfl, H⟩
    apply Stg.next [(15, _)] rfl rfl
    refine Stg.go [3, 5, 6] [4, 7, 8] rfl rfl (QAll.cons (QOp.q rfl rfl (Quiet1.loadSP (i := 0) (l := [_, _, _, _, _, _]) hT rfl rfl rfl rfl rfl rfl rfl rfl) rfl rfl) (QAll.cons (QOp.p hT rfl rfl rfl rfl rfl) (QAll.cons (QOp.p hT rfl rfl rfl rfl rfl) QAll.nil))) ?_
    refine EAll.cons ?_ ?_
    ·
     replace H := H.self
     refine EOp.e rfl rfl rfl (EffX.call (f := 99) (sh := fun h => ref03uForm _ h _) (H0 := H) rfl Tryd.call99 rfl (hl := fun w m hr hw => lift_ref03uForm _ w m hr _ hw)) ?_
     rintro _ _ ⟨v_2, h0u6, rfl, rfl, H⟩
     apply Stg.next [(17, _)] rfl rfl
     refine Stg.go [5, 6] [7, 8] rfl rfl (QAll.cons (QOp.p hT rfl rfl rfl rfl rfl) (QAll.cons (QOp.p hT rfl rfl rfl rfl rfl) QAll.nil)) ?_
     refine EAll.cons ?_ ?_
     ·
      refine EOp.e rfl rfl rfl (EffX.allocP (cs := [_, _, _, _, _, _]) hT rfl rfl H) ?_
      rintro _ _ ⟨b_1, _, rfl, rfl, he1, H⟩
      apply Stg.next [(8, _)] rfl rfl
      refine Stg.go [5, 6] [8] rfl rfl (QAll.cons (QOp.p hT rfl rfl rfl rfl rfl) (QAll.cons (QOp.p hT rfl rfl rfl rfl rfl) QAll.nil)) ?_
      refine EAll.cons ?_ EAll.nil
      refine EOp.e rfl rfl rfl (EffX.allocP (cs := [_, _, _, _, _, _]) hT rfl rfl H) ?_
      rintro _ _ ⟨b_2, _, rfl, rfl, he2, H⟩
      apply Stg.next [(9, _)] rfl rfl
      refine Stg.go [5, 6] [9] rfl rfl (QAll.cons (QOp.p hT rfl rfl rfl rfl rfl) (QAll.cons (QOp.p hT rfl rfl rfl rfl rfl) QAll.nil)) ?_
      refine EAll.cons ?_ EAll.nil
      refine EOp.e rfl rfl rfl (EffX.storeSP (i := 1) (qv := [(_, [_, _, _, _, _, _]), (_, [_, _, _, _, _, _]), (_, [_, _, _, _, _, _])]) hT rfl rfl rfl rfl rfl rfl rfl rfl rfl rfl) ?_
      rintro _ _ rfl
      apply Stg.next [] rfl rfl
      refine Stg.go [5, 6] [10] rfl rfl (QAll.cons (QOp.p hT rfl rfl rfl rfl rfl) (QAll.cons (QOp.p hT rfl rfl rfl rfl rfl) QAll.nil)) ?_
      refine EAll.cons ?_ EAll.nil
      refine EOp.e rfl rfl rfl (EffX.storeSP (i := 0) (qv := [(_, [_, _, _, _, _, _]), (_, [_, _, _, _, _, _]), (_, [_, _, _, _, _, _])]) hT rfl rfl rfl rfl rfl rfl rfl rfl rfl rfl) ?_
      rintro _ _ rfl
      apply Stg.next [(10, _)] rfl rfl
      refine Stg.fin [5, 6, 11] rfl rfl (QAll.cons (QOp.p hT rfl rfl rfl rfl rfl) (QAll.cons (QOp.p hT rfl rfl rfl rfl rfl) (QAll.cons (QOp.p hT rfl rfl rfl rfl rfl) QAll.nil))) ?_
      replace H := H.self
      exact AtE.then_n ((HK1 _ (b_1, b_2) _ H).pickP (ts := [10, 8, 9, 7]) (is := [1, 0]) rfl rfl (by decide) rfl)
     refine EAll.cons ?_ EAll.nil
     refine EOp.e rfl rfl rfl (EffX.allocP (cs := [_, _, _, _, _, _]) hT rfl rfl H) ?_
     rintro _ _ ⟨b_3, _, rfl, rfl, he3, H⟩
     apply Stg.next [(9, _)] rfl rfl
     refine Stg.go [5, 6] [7] rfl rfl (QAll.cons (QOp.p hT rfl rfl rfl rfl rfl) (QAll.cons (QOp.p hT rfl rfl rfl rfl rfl) QAll.nil)) ?_
     refine EAll.cons ?_ EAll.nil
     refine EOp.e rfl rfl rfl (EffX.allocP (cs := [_, _, _, _, _, _]) hT rfl rfl H) ?_
     rintro _ _ ⟨b_4, _, rfl, rfl, he4, H⟩
     apply Stg.next [(8, _)] rfl rfl
     refine Stg.go [5, 6] [9] rfl rfl (QAll.cons (QOp.p hT rfl rfl rfl rfl rfl) (QAll.cons (QOp.p hT rfl rfl rfl rfl rfl) QAll.nil)) ?_
     refine EAll.cons ?_ EAll.nil
     refine EOp.e rfl rfl rfl (EffX.storeSP (i := 0) (qv := [(_, [_, _, _, _, _, _]), (_, [_, _, _, _, _, _]), (_, [_, _, _, _, _, _])]) hT rfl rfl rfl rfl rfl rfl rfl rfl rfl rfl) ?_
     rintro _ _ rfl
     apply Stg.next [] rfl rfl
     refine Stg.go [5, 6] [10] rfl rfl (QAll.cons (QOp.p hT rfl rfl rfl rfl rfl) (QAll.cons (QOp.p hT rfl rfl rfl rfl rfl) QAll.nil)) ?_
     refine EAll.cons ?_ EAll.nil
     refine EOp.e rfl rfl rfl (EffX.storeSP (i := 1) (qv := [(_, [_, _, _, _, _, _]), (_, [_, _, _, _, _, _]), (_, [_, _, _, _, _, _])]) hT rfl rfl rfl rfl rfl rfl rfl rfl rfl rfl) ?_
     rintro _ _ rfl
     apply Stg.next [(10, _)] rfl rfl
     refine Stg.fin [5, 6, 11] rfl rfl (QAll.cons (QOp.p hT rfl rfl rfl rfl rfl) (QAll.cons (QOp.p hT rfl rfl rfl rfl rfl) (QAll.cons (QOp.p hT rfl rfl rfl rfl rfl) QAll.nil))) ?_
     replace H := H.self
     exact AtE.then_n ((HK1 _ (b_4, b_3) _ H).pickP (ts := [10, 8, 9, 7]) (is := [0, 1]) rfl rfl (by decide) rfl)
    refine EAll.cons ?_ ?_
    ·
     refine EOp.e rfl rfl rfl (EffX.allocP (cs := [_, _, _, _, _, _]) hT rfl rfl H) ?_
     rintro _ _ ⟨b_5, _, rfl, rfl, he5, H⟩
     apply Stg.next [(8, _)] rfl rfl
     refine Stg.go [3, 5, 6] [4, 8] rfl rfl (QAll.cons (QOp.q rfl rfl (Quiet1.loadSP (i := 1) (l := [_, _, _, _, _, _]) hT rfl rfl rfl rfl rfl rfl rfl rfl) rfl rfl) (QAll.cons (QOp.p hT rfl rfl rfl rfl rfl) (QAll.cons (QOp.p hT rfl rfl rfl rfl rfl) QAll.nil))) ?_
     refine EAll.cons ?_ ?_
     ·
      replace H := H.self
      refine EOp.e rfl rfl rfl (EffX.call (f := 99) (sh := fun h => ref03uForm _ h _) (H0 := H) rfl Tryd.call99 rfl (hl := fun w m hr hw => lift_ref03uForm _ w m hr _ hw)) ?_
      rintro _ _ ⟨v_3, h0u8, rfl, rfl, H⟩
      apply Stg.next [(17, _)] rfl rfl
      refine Stg.go [5, 6] [8] rfl rfl (QAll.cons (QOp.p hT rfl rfl rfl rfl rfl) (QAll.cons (QOp.p hT rfl rfl rfl rfl rfl) QAll.nil)) ?_
      refine EAll.cons ?_ EAll.nil
      refine EOp.e rfl rfl rfl (EffX.allocP (cs := [_, _, _, _, _, _]) hT rfl rfl H) ?_
      rintro _ _ ⟨b_6, _, rfl, rfl, he6, H⟩
      apply Stg.next [(9, _)] rfl rfl
      refine Stg.go [5, 6] [9] rfl rfl (QAll.cons (QOp.p hT rfl rfl rfl rfl rfl) (QAll.cons (QOp.p hT rfl rfl rfl rfl rfl) QAll.nil)) ?_
      refine EAll.cons ?_ EAll.nil
      refine EOp.e rfl rfl rfl (EffX.storeSP (i := 1) (qv := [(_, [_, _, _, _, _, _]), (_, [_, _, _, _, _, _]), (_, [_, _, _, _, _, _])]) hT rfl rfl rfl rfl rfl rfl rfl rfl rfl rfl) ?_
      rintro _ _ rfl
      apply Stg.next [] rfl rfl
      refine Stg.go [5, 6] [10] rfl rfl (QAll.cons (QOp.p hT rfl rfl rfl rfl rfl) (QAll.cons (QOp.p hT rfl rfl rfl rfl rfl) QAll.nil)) ?_
      refine EAll.cons ?_ EAll.nil
      refine EOp.e rfl rfl rfl (EffX.storeSP (i := 0) (qv := [(_, [_, _, _, _, _, _]), (_, [_, _, _, _, _, _]), (_, [_, _, _, _, _, _])]) hT rfl rfl rfl rfl rfl rfl rfl rfl rfl rfl) ?_
      rintro _ _ rfl
      apply Stg.next [(10, _)] rfl rfl
      refine Stg.fin [5, 6, 11] rfl rfl (QAll.cons (QOp.p hT rfl rfl rfl rfl rfl) (QAll.cons (QOp.p hT rfl rfl rfl rfl rfl) (QAll.cons (QOp.p hT rfl rfl rfl rfl rfl) QAll.nil))) ?_
      replace H := H.self
      exact AtE.then_n ((HK1 _ (b_5, b_6) _ H).pickP (ts := [10, 8, 9, 7]) (is := [1, 0]) rfl rfl (by decide) rfl)
     refine EAll.cons ?_ EAll.nil
     refine EOp.e rfl rfl rfl (EffX.allocP (cs := [_, _, _, _, _, _]) hT rfl rfl H) ?_
     rintro _ _ ⟨b_7, _, rfl, rfl, he7, H⟩
     apply Stg.next [(9, _)] rfl rfl
     refine Stg.go [3, 5, 6] [4] rfl rfl (QAll.cons (QOp.q rfl rfl (Quiet1.loadSP (i := 2) (l := [_, _, _, _, _, _]) hT rfl rfl rfl rfl rfl rfl rfl rfl) rfl rfl) (QAll.cons (QOp.p hT rfl rfl rfl rfl rfl) (QAll.cons (QOp.p hT rfl rfl rfl rfl rfl) QAll.nil))) ?_
     refine EAll.cons ?_ EAll.nil
     replace H := H.self
     refine EOp.e rfl rfl rfl (EffX.call (f := 99) (sh := fun h => ref03uForm _ h _) (H0 := H) rfl Tryd.call99 rfl (hl := fun w m hr hw => lift_ref03uForm _ w m hr _ hw)) ?_
     rintro _ _ ⟨v_4, h0u10, rfl, rfl, H⟩
     apply Stg.next [(17, _)] rfl rfl
     refine Stg.go [5, 6] [9] rfl rfl (QAll.cons (QOp.p hT rfl rfl rfl rfl rfl) (QAll.cons (QOp.p hT rfl rfl rfl rfl rfl) QAll.nil)) ?_
     refine EAll.cons ?_ EAll.nil
     refine EOp.e rfl rfl rfl (EffX.storeSP (i := 1) (qv := [(_, [_, _, _, _, _, _]), (_, [_, _, _, _, _, _]), (_, [_, _, _, _, _, _])]) hT rfl rfl rfl rfl rfl rfl rfl rfl rfl rfl) ?_
     rintro _ _ rfl
     apply Stg.next [] rfl rfl
     refine Stg.go [5, 6] [10] rfl rfl (QAll.cons (QOp.p hT rfl rfl rfl rfl rfl) (QAll.cons (QOp.p hT rfl rfl rfl rfl rfl) QAll.nil)) ?_
     refine EAll.cons ?_ EAll.nil
     refine EOp.e rfl rfl rfl (EffX.storeSP (i := 0) (qv := [(_, [_, _, _, _, _, _]), (_, [_, _, _, _, _, _]), (_, [_, _, _, _, _, _])]) hT rfl rfl rfl rfl rfl rfl rfl rfl rfl rfl) ?_
     rintro _ _ rfl
     apply Stg.next [(10, _)] rfl rfl
     refine Stg.fin [5, 6, 11] rfl rfl (QAll.cons (QOp.p hT rfl rfl rfl rfl rfl) (QAll.cons (QOp.p hT rfl rfl rfl rfl rfl) (QAll.cons (QOp.p hT rfl rfl rfl rfl rfl) QAll.nil))) ?_
     replace H := H.self
     exact AtE.then_n ((HK1 _ (b_5, b_7) _ H).pickP (ts := [10, 8, 9, 7]) (is := [1, 0]) rfl rfl (by decide) rfl)
    refine EAll.cons ?_ EAll.nil
    refine EOp.e rfl rfl rfl (EffX.allocP (cs := [_, _, _, _, _, _]) hT rfl rfl H) ?_
    rintro _ _ ⟨b_8, _, rfl, rfl, he8, H⟩
    apply Stg.next [(9, _)] rfl rfl
    refine Stg.go [3, 5, 6] [4, 7] rfl rfl (QAll.cons (QOp.q rfl rfl (Quiet1.loadSP (i := 1) (l := [_, _, _, _, _, _]) hT rfl rfl rfl rfl rfl rfl rfl rfl) rfl rfl) (QAll.cons (QOp.p hT rfl rfl rfl rfl rfl) (QAll.cons (QOp.p hT rfl rfl rfl rfl rfl) QAll.nil))) ?_
    refine EAll.cons ?_ ?_
    ·
     replace H := H.self
     refine EOp.e rfl rfl rfl (EffX.call (f := 99) (sh := fun h => ref03uForm _ h _) (H0 := H) rfl Tryd.call99 rfl (hl := fun w m hr hw => lift_ref03uForm _ w m hr _ hw)) ?_
     rintro _ _ ⟨v_5, h0u12, rfl, rfl, H⟩
     apply Stg.next [(17, _)] rfl rfl
     refine Stg.go [5, 6] [7] rfl rfl (QAll.cons (QOp.p hT rfl rfl rfl rfl rfl) (QAll.cons (QOp.p hT rfl rfl rfl rfl rfl) QAll.nil)) ?_
     refine EAll.cons ?_ EAll.nil
     refine EOp.e rfl rfl rfl (EffX.allocP (cs := [_, _, _, _, _, _]) hT rfl rfl H) ?_
     rintro _ _ ⟨b_9, _, rfl, rfl, he9, H⟩
     apply Stg.next [(8, _)] rfl rfl
     refine Stg.go [5, 6] [9] rfl rfl (QAll.cons (QOp.p hT rfl rfl rfl rfl rfl) (QAll.cons (QOp.p hT rfl rfl rfl rfl rfl) QAll.nil)) ?_
     refine EAll.cons ?_ EAll.nil
     refine EOp.e rfl rfl rfl (EffX.storeSP (i := 0) (qv := [(_, [_, _, _, _, _, _]), (_, [_, _, _, _, _, _]), (_, [_, _, _, _, _, _])]) hT rfl rfl rfl rfl rfl rfl rfl rfl rfl rfl) ?_
     rintro _ _ rfl
     apply Stg.next [] rfl rfl
     refine Stg.go [5, 6] [10] rfl rfl (QAll.cons (QOp.p hT rfl rfl rfl rfl rfl) (QAll.cons (QOp.p hT rfl rfl rfl rfl rfl) QAll.nil)) ?_
     refine EAll.cons ?_ EAll.nil
     refine EOp.e rfl rfl rfl (EffX.storeSP (i := 1) (qv := [(_, [_, _, _, _, _, _]), (_, [_, _, _, _, _, _]), (_, [_, _, _, _, _, _])]) hT rfl rfl rfl rfl rfl rfl rfl rfl rfl rfl) ?_
     rintro _ _ rfl
     apply Stg.next [(10, _)] rfl rfl
     refine Stg.fin [5, 6, 11] rfl rfl (QAll.cons (QOp.p hT rfl rfl rfl rfl rfl) (QAll.cons (QOp.p hT rfl rfl rfl rfl rfl) (QAll.cons (QOp.p hT rfl rfl rfl rfl rfl) QAll.nil))) ?_
     replace H := H.self
     exact AtE.then_n ((HK1 _ (b_9, b_8) _ H).pickP (ts := [10, 8, 9, 7]) (is := [0, 1]) rfl rfl (by decide) rfl)
    refine EAll.cons ?_ EAll.nil
    refine EOp.e rfl rfl rfl (EffX.allocP (cs := [_, _, _, _, _, _]) hT rfl rfl H) ?_
    rintro _ _ ⟨b_10, _, rfl, rfl, he10, H⟩
    apply Stg.next [(8, _)] rfl rfl
    refine Stg.go [3, 5, 6] [4] rfl rfl (QAll.cons (QOp.q rfl rfl (Quiet1.loadSP (i := 2) (l := [_, _, _, _, _, _]) hT rfl rfl rfl rfl rfl rfl rfl rfl) rfl rfl) (QAll.cons (QOp.p hT rfl rfl rfl rfl rfl) (QAll.cons (QOp.p hT rfl rfl rfl rfl rfl) QAll.nil))) ?_
    refine EAll.cons ?_ EAll.nil
    replace H := H.self
    refine EOp.e rfl rfl rfl (EffX.call (f := 99) (sh := fun h => ref03uForm _ h _) (H0 := H) rfl Tryd.call99 rfl (hl := fun w m hr hw => lift_ref03uForm _ w m hr _ hw)) ?_
    rintro _ _ ⟨v_6, h0u14, rfl, rfl, H⟩
    apply Stg.next [(17, _)] rfl rfl
    refine Stg.go [5, 6] [9] rfl rfl (QAll.cons (QOp.p hT rfl rfl rfl rfl rfl) (QAll.cons (QOp.p hT rfl rfl rfl rfl rfl) QAll.nil)) ?_
    refine EAll.cons ?_ EAll.nil
    refine EOp.e rfl rfl rfl (EffX.storeSP (i := 0) (qv := [(_, [_, _, _, _, _, _]), (_, [_, _, _, _, _, _]), (_, [_, _, _, _, _, _])]) hT rfl rfl rfl rfl rfl rfl rfl rfl rfl rfl) ?_
    rintro _ _ rfl
    apply Stg.next [] rfl rfl
    refine Stg.go [5, 6] [10] rfl rfl (QAll.cons (QOp.p hT rfl rfl rfl rfl rfl) (QAll.cons (QOp.p hT rfl rfl rfl rfl rfl) QAll.nil)) ?_
    refine EAll.cons ?_ EAll.nil
    refine EOp.e rfl rfl rfl (EffX.storeSP (i := 1) (qv := [(_, [_, _, _, _, _, _]), (_, [_, _, _, _, _, _]), (_, [_, _, _, _, _, _])]) hT rfl rfl rfl rfl rfl rfl rfl rfl rfl rfl) ?_
    rintro _ _ rfl
    apply Stg.next [(10, _)] rfl rfl
    refine Stg.fin [5, 6, 11] rfl rfl (QAll.cons (QOp.p hT rfl rfl rfl rfl rfl) (QAll.cons (QOp.p hT rfl rfl rfl rfl rfl) (QAll.cons (QOp.p hT rfl rfl rfl rfl rfl) QAll.nil))) ?_
    replace H := H.self
    exact AtE.then_n ((HK1 _ (b_10, b_8) _ H).pickP (ts := [10, 8, 9, 7]) (is := [0, 1]) rfl rfl (by decide) rfl)
   refine EAll.cons ?_ ?_
   ·
    refine EOp.e rfl rfl rfl (EffX.allocP (cs := [_, _, _, _, _, _]) hT rfl rfl H) ?_
    rintro _ _ ⟨b_11, _, rfl, rfl, he11, H⟩
    apply Stg.next [(8, _)] rfl rfl
    refine Stg.go [0, 1, 3, 5, 6] [2, 8] rfl rfl (QAll.cons (QOp.p hT rfl rfl rfl rfl rfl) (QAll.cons (QOp.p hT rfl rfl rfl rfl rfl) (QAll.cons (QOp.q rfl rfl (Quiet1.loadSP (i := 1) (l := [_, _, _, _, _, _]) hT rfl rfl rfl rfl rfl rfl rfl rfl) rfl rfl) (QAll.cons (QOp.p hT rfl rfl rfl rfl rfl) (QAll.cons (QOp.p hT rfl rfl rfl rfl rfl) QAll.nil))))) ?_
    refine EAll.cons ?_ ?_
    ·
     replace H := H.self
     refine EOp.e rfl rfl rfl (EffX.callF (bs := []) (cs := [_, _]) (f := 44) (sh := fun h => law03uDeltaTold_c2 _ _ _ h _) (H0 := H) rfl rfl Tryd.call44 rfl (hl := fun w m hr hw => lift_law03uDeltaTold_c2 _ _ _ w m hr _ hw)) ?_
     rintro _ _ ⟨v_7, h0u16, rfl, rfl, H⟩
     apply Stg.next [(15, _)] rfl rfl
     refine Stg.go [3, 5, 6] [4, 8] rfl rfl (QAll.cons (QOp.q rfl rfl (Quiet1.loadSP (i := 1) (l := [_, _, _, _, _, _]) hT rfl rfl rfl rfl rfl rfl rfl rfl) rfl rfl) (QAll.cons (QOp.p hT rfl rfl rfl rfl rfl) (QAll.cons (QOp.p hT rfl rfl rfl rfl rfl) QAll.nil))) ?_
     refine EAll.cons ?_ ?_
     ·
      replace H := H.self
      refine EOp.e rfl rfl rfl (EffX.call (f := 99) (sh := fun h => ref03uForm _ h _) (H0 := H) rfl Tryd.call99 rfl (hl := fun w m hr hw => lift_ref03uForm _ w m hr _ hw)) ?_
      rintro _ _ ⟨v_8, h0u18, rfl, rfl, H⟩
      apply Stg.next [(17, _)] rfl rfl
      refine Stg.go [5, 6] [8] rfl rfl (QAll.cons (QOp.p hT rfl rfl rfl rfl rfl) (QAll.cons (QOp.p hT rfl rfl rfl rfl rfl) QAll.nil)) ?_
      refine EAll.cons ?_ EAll.nil
      refine EOp.e rfl rfl rfl (EffX.allocP (cs := [_, _, _, _, _, _]) hT rfl rfl H) ?_
      rintro _ _ ⟨b_12, _, rfl, rfl, he12, H⟩
      apply Stg.next [(9, _)] rfl rfl
      refine Stg.go [5, 6] [9] rfl rfl (QAll.cons (QOp.p hT rfl rfl rfl rfl rfl) (QAll.cons (QOp.p hT rfl rfl rfl rfl rfl) QAll.nil)) ?_
      refine EAll.cons ?_ EAll.nil
      refine EOp.e rfl rfl rfl (EffX.storeSP (i := 1) (qv := [(_, [_, _, _, _, _, _]), (_, [_, _, _, _, _, _]), (_, [_, _, _, _, _, _])]) hT rfl rfl rfl rfl rfl rfl rfl rfl rfl rfl) ?_
      rintro _ _ rfl
      apply Stg.next [] rfl rfl
      refine Stg.go [5, 6] [10] rfl rfl (QAll.cons (QOp.p hT rfl rfl rfl rfl rfl) (QAll.cons (QOp.p hT rfl rfl rfl rfl rfl) QAll.nil)) ?_
      refine EAll.cons ?_ EAll.nil
      refine EOp.e rfl rfl rfl (EffX.storeSP (i := 0) (qv := [(_, [_, _, _, _, _, _]), (_, [_, _, _, _, _, _]), (_, [_, _, _, _, _, _])]) hT rfl rfl rfl rfl rfl rfl rfl rfl rfl rfl) ?_
      rintro _ _ rfl
      apply Stg.next [(10, _)] rfl rfl
      refine Stg.fin [5, 6, 11] rfl rfl (QAll.cons (QOp.p hT rfl rfl rfl rfl rfl) (QAll.cons (QOp.p hT rfl rfl rfl rfl rfl) (QAll.cons (QOp.p hT rfl rfl rfl rfl rfl) QAll.nil))) ?_
      replace H := H.self
      exact AtE.then_n ((HK1 _ (b_11, b_12) _ H).pickP (ts := [10, 8, 9, 7]) (is := [1, 0]) rfl rfl (by decide) rfl)
     refine EAll.cons ?_ EAll.nil
     refine EOp.e rfl rfl rfl (EffX.allocP (cs := [_, _, _, _, _, _]) hT rfl rfl H) ?_
     rintro _ _ ⟨b_13, _, rfl, rfl, he13, H⟩
     apply Stg.next [(9, _)] rfl rfl
     refine Stg.go [3, 5, 6] [4] rfl rfl (QAll.cons (QOp.q rfl rfl (Quiet1.loadSP (i := 2) (l := [_, _, _, _, _, _]) hT rfl rfl rfl rfl rfl rfl rfl rfl) rfl rfl) (QAll.cons (QOp.p hT rfl rfl rfl rfl rfl) (QAll.cons (QOp.p hT rfl rfl rfl rfl rfl) QAll.nil))) ?_
     refine EAll.cons ?_ EAll.nil
     replace H := H.self
     refine EOp.e rfl rfl rfl (EffX.call (f := 99) (sh := fun h => ref03uForm _ h _) (H0 := H) rfl Tryd.call99 rfl (hl := fun w m hr hw => lift_ref03uForm _ w m hr _ hw)) ?_
     rintro _ _ ⟨v_9, h0u20, rfl, rfl, H⟩
     apply Stg.next [(17, _)] rfl rfl
     refine Stg.go [5, 6] [9] rfl rfl (QAll.cons (QOp.p hT rfl rfl rfl rfl rfl) (QAll.cons (QOp.p hT rfl rfl rfl rfl rfl) QAll.nil)) ?_
     refine EAll.cons ?_ EAll.nil
     refine EOp.e rfl rfl rfl (EffX.storeSP (i := 1) (qv := [(_, [_, _, _, _, _, _]), (_, [_, _, _, _, _, _]), (_, [_, _, _, _, _, _])]) hT rfl rfl rfl rfl rfl rfl rfl rfl rfl rfl) ?_
     rintro _ _ rfl
     apply Stg.next [] rfl rfl
     refine Stg.go [5, 6] [10] rfl rfl (QAll.cons (QOp.p hT rfl rfl rfl rfl rfl) (QAll.cons (QOp.p hT rfl rfl rfl rfl rfl) QAll.nil)) ?_
     refine EAll.cons ?_ EAll.nil
     refine EOp.e rfl rfl rfl (EffX.storeSP (i := 0) (qv := [(_, [_, _, _, _, _, _]), (_, [_, _, _, _, _, _]), (_, [_, _, _, _, _, _])]) hT rfl rfl rfl rfl rfl rfl rfl rfl rfl rfl) ?_
     rintro _ _ rfl
     apply Stg.next [(10, _)] rfl rfl
     refine Stg.fin [5, 6, 11] rfl rfl (QAll.cons (QOp.p hT rfl rfl rfl rfl rfl) (QAll.cons (QOp.p hT rfl rfl rfl rfl rfl) (QAll.cons (QOp.p hT rfl rfl rfl rfl rfl) QAll.nil))) ?_
     replace H := H.self
     exact AtE.then_n ((HK1 _ (b_11, b_13) _ H).pickP (ts := [10, 8, 9, 7]) (is := [1, 0]) rfl rfl (by decide) rfl)
    refine EAll.cons ?_ EAll.nil
    refine EOp.e rfl rfl rfl (EffX.allocP (cs := [_, _, _, _, _, _]) hT rfl rfl H) ?_
    rintro _ _ ⟨b_14, _, rfl, rfl, he14, H⟩
    apply Stg.next [(9, _)] rfl rfl
    refine Stg.go [0, 1, 3, 5, 6] [2] rfl rfl (QAll.cons (QOp.p hT rfl rfl rfl rfl rfl) (QAll.cons (QOp.p hT rfl rfl rfl rfl rfl) (QAll.cons (QOp.q rfl rfl (Quiet1.loadSP (i := 2) (l := [_, _, _, _, _, _]) hT rfl rfl rfl rfl rfl rfl rfl rfl) rfl rfl) (QAll.cons (QOp.p hT rfl rfl rfl rfl rfl) (QAll.cons (QOp.p hT rfl rfl rfl rfl rfl) QAll.nil))))) ?_
    refine EAll.cons ?_ EAll.nil
    replace H := H.self
    refine EOp.e rfl rfl rfl (EffX.callF (bs := []) (cs := [_, _]) (f := 44) (sh := fun h => law03uDeltaTold_c2 _ _ _ h _) (H0 := H) rfl rfl Tryd.call44 rfl (hl := fun w m hr hw => lift_law03uDeltaTold_c2 _ _ _ w m hr _ hw)) ?_
    rintro _ _ ⟨v_10, h0u22, rfl, rfl, H⟩
    apply Stg.next [(15, _)] rfl rfl
    refine Stg.go [3, 5, 6] [4] rfl rfl (QAll.cons (QOp.q rfl rfl (Quiet1.loadSP (i := 2) (l := [_, _, _, _, _, _]) hT rfl rfl rfl rfl rfl rfl rfl rfl) rfl rfl) (QAll.cons (QOp.p hT rfl rfl rfl rfl rfl) (QAll.cons (QOp.p hT rfl rfl rfl rfl rfl) QAll.nil))) ?_
    refine EAll.cons ?_ EAll.nil
    replace H := H.self
    refine EOp.e rfl rfl rfl (EffX.call (f := 99) (sh := fun h => ref03uForm _ h _) (H0 := H) rfl Tryd.call99 rfl (hl := fun w m hr hw => lift_ref03uForm _ w m hr _ hw)) ?_
    rintro _ _ ⟨v_11, h0u24, rfl, rfl, H⟩
    apply Stg.next [(17, _)] rfl rfl
    refine Stg.go [5, 6] [9] rfl rfl (QAll.cons (QOp.p hT rfl rfl rfl rfl rfl) (QAll.cons (QOp.p hT rfl rfl rfl rfl rfl) QAll.nil)) ?_
    refine EAll.cons ?_ EAll.nil
    refine EOp.e rfl rfl rfl (EffX.storeSP (i := 1) (qv := [(_, [_, _, _, _, _, _]), (_, [_, _, _, _, _, _]), (_, [_, _, _, _, _, _])]) hT rfl rfl rfl rfl rfl rfl rfl rfl rfl rfl) ?_
    rintro _ _ rfl
    apply Stg.next [] rfl rfl
    refine Stg.go [5, 6] [10] rfl rfl (QAll.cons (QOp.p hT rfl rfl rfl rfl rfl) (QAll.cons (QOp.p hT rfl rfl rfl rfl rfl) QAll.nil)) ?_
    refine EAll.cons ?_ EAll.nil
    refine EOp.e rfl rfl rfl (EffX.storeSP (i := 0) (qv := [(_, [_, _, _, _, _, _]), (_, [_, _, _, _, _, _]), (_, [_, _, _, _, _, _])]) hT rfl rfl rfl rfl rfl rfl rfl rfl rfl rfl) ?_
    rintro _ _ rfl
    apply Stg.next [(10, _)] rfl rfl
    refine Stg.fin [5, 6, 11] rfl rfl (QAll.cons (QOp.p hT rfl rfl rfl rfl rfl) (QAll.cons (QOp.p hT rfl rfl rfl rfl rfl) (QAll.cons (QOp.p hT rfl rfl rfl rfl rfl) QAll.nil))) ?_
    replace H := H.self
    exact AtE.then_n ((HK1 _ (b_11, b_14) _ H).pickP (ts := [10, 8, 9, 7]) (is := [1, 0]) rfl rfl (by decide) rfl)
   refine EAll.cons ?_ EAll.nil
   refine EOp.e rfl rfl rfl (EffX.allocP (cs := [_, _, _, _, _, _]) hT rfl rfl H) ?_
   rintro _ _ ⟨b_15, _, rfl, rfl, he15, H⟩
   apply Stg.next [(9, _)] rfl rfl
   refine Stg.go [0, 1, 3, 5, 6] [2, 7] rfl rfl (QAll.cons (QOp.p hT rfl rfl rfl rfl rfl) (QAll.cons (QOp.p hT rfl rfl rfl rfl rfl) (QAll.cons (QOp.q rfl rfl (Quiet1.loadSP (i := 1) (l := [_, _, _, _, _, _]) hT rfl rfl rfl rfl rfl rfl rfl rfl) rfl rfl) (QAll.cons (QOp.p hT rfl rfl rfl rfl rfl) (QAll.cons (QOp.p hT rfl rfl rfl rfl rfl) QAll.nil))))) ?_
   refine EAll.cons ?_ ?_
   ·
    replace H := H.self
    refine EOp.e rfl rfl rfl (EffX.callF (bs := []) (cs := [_, _]) (f := 44) (sh := fun h => law03uDeltaTold_c2 _ _ _ h _) (H0 := H) rfl rfl Tryd.call44 rfl (hl := fun w m hr hw => lift_law03uDeltaTold_c2 _ _ _ w m hr _ hw)) ?_
    rintro _ _ ⟨v_12, h0u26, rfl, rfl, H⟩
    apply Stg.next [(15, _)] rfl rfl
    refine Stg.go [3, 5, 6] [4, 7] rfl rfl (QAll.cons (QOp.q rfl rfl (Quiet1.loadSP (i := 1) (l := [_, _, _, _, _, _]) hT rfl rfl rfl rfl rfl rfl rfl rfl) rfl rfl) (QAll.cons (QOp.p hT rfl rfl rfl rfl rfl) (QAll.cons (QOp.p hT rfl rfl rfl rfl rfl) QAll.nil))) ?_
    refine EAll.cons ?_ ?_
    ·
     replace H := H.self
     refine EOp.e rfl rfl rfl (EffX.call (f := 99) (sh := fun h => ref03uForm _ h _) (H0 := H) rfl Tryd.call99 rfl (hl := fun w m hr hw => lift_ref03uForm _ w m hr _ hw)) ?_
     rintro _ _ ⟨v_13, h0u28, rfl, rfl, H⟩
     apply Stg.next [(17, _)] rfl rfl
     refine Stg.go [5, 6] [7] rfl rfl (QAll.cons (QOp.p hT rfl rfl rfl rfl rfl) (QAll.cons (QOp.p hT rfl rfl rfl rfl rfl) QAll.nil)) ?_
     refine EAll.cons ?_ EAll.nil
     refine EOp.e rfl rfl rfl (EffX.allocP (cs := [_, _, _, _, _, _]) hT rfl rfl H) ?_
     rintro _ _ ⟨b_16, _, rfl, rfl, he16, H⟩
     apply Stg.next [(8, _)] rfl rfl
     refine Stg.go [5, 6] [9] rfl rfl (QAll.cons (QOp.p hT rfl rfl rfl rfl rfl) (QAll.cons (QOp.p hT rfl rfl rfl rfl rfl) QAll.nil)) ?_
     refine EAll.cons ?_ EAll.nil
     refine EOp.e rfl rfl rfl (EffX.storeSP (i := 0) (qv := [(_, [_, _, _, _, _, _]), (_, [_, _, _, _, _, _]), (_, [_, _, _, _, _, _])]) hT rfl rfl rfl rfl rfl rfl rfl rfl rfl rfl) ?_
     rintro _ _ rfl
     apply Stg.next [] rfl rfl
     refine Stg.go [5, 6] [10] rfl rfl (QAll.cons (QOp.p hT rfl rfl rfl rfl rfl) (QAll.cons (QOp.p hT rfl rfl rfl rfl rfl) QAll.nil)) ?_
     refine EAll.cons ?_ EAll.nil
     refine EOp.e rfl rfl rfl (EffX.storeSP (i := 1) (qv := [(_, [_, _, _, _, _, _]), (_, [_, _, _, _, _, _]), (_, [_, _, _, _, _, _])]) hT rfl rfl rfl rfl rfl rfl rfl rfl rfl rfl) ?_
     rintro _ _ rfl
     apply Stg.next [(10, _)] rfl rfl
     refine Stg.fin [5, 6, 11] rfl rfl (QAll.cons (QOp.p hT rfl rfl rfl rfl rfl) (QAll.cons (QOp.p hT rfl rfl rfl rfl rfl) (QAll.cons (QOp.p hT rfl rfl rfl rfl rfl) QAll.nil))) ?_
     replace H := H.self
     exact AtE.then_n ((HK1 _ (b_16, b_15) _ H).pickP (ts := [10, 8, 9, 7]) (is := [0, 1]) rfl rfl (by decide) rfl)
    refine EAll.cons ?_ EAll.nil
    refine EOp.e rfl rfl rfl (EffX.allocP (cs := [_, _, _, _, _, _]) hT rfl rfl H) ?_
    rintro _ _ ⟨b_17, _, rfl, rfl, he17, H⟩
    apply Stg.next [(8, _)] rfl rfl
    refine Stg.go [3, 5, 6] [4] rfl rfl (QAll.cons (QOp.q rfl rfl (Quiet1.loadSP (i := 2) (l := [_, _, _, _, _, _]) hT rfl rfl rfl rfl rfl rfl rfl rfl) rfl rfl) (QAll.cons (QOp.p hT rfl rfl rfl rfl rfl) (QAll.cons (QOp.p hT rfl rfl rfl rfl rfl) QAll.nil))) ?_
    refine EAll.cons ?_ EAll.nil
    replace H := H.self
    refine EOp.e rfl rfl rfl (EffX.call (f := 99) (sh := fun h => ref03uForm _ h _) (H0 := H) rfl Tryd.call99 rfl (hl := fun w m hr hw => lift_ref03uForm _ w m hr _ hw)) ?_
    rintro _ _ ⟨v_14, h0u30, rfl, rfl, H⟩
    apply Stg.next [(17, _)] rfl rfl
    refine Stg.go [5, 6] [9] rfl rfl (QAll.cons (QOp.p hT rfl rfl rfl rfl rfl) (QAll.cons (QOp.p hT rfl rfl rfl rfl rfl) QAll.nil)) ?_
    refine EAll.cons ?_ EAll.nil
    refine EOp.e rfl rfl rfl (EffX.storeSP (i := 0) (qv := [(_, [_, _, _, _, _, _]), (_, [_, _, _, _, _, _]), (_, [_, _, _, _, _, _])]) hT rfl rfl rfl rfl rfl rfl rfl rfl rfl rfl) ?_
    rintro _ _ rfl
    apply Stg.next [] rfl rfl
    refine Stg.go [5, 6] [10] rfl rfl (QAll.cons (QOp.p hT rfl rfl rfl rfl rfl) (QAll.cons (QOp.p hT rfl rfl rfl rfl rfl) QAll.nil)) ?_
    refine EAll.cons ?_ EAll.nil
    refine EOp.e rfl rfl rfl (EffX.storeSP (i := 1) (qv := [(_, [_, _, _, _, _, _]), (_, [_, _, _, _, _, _]), (_, [_, _, _, _, _, _])]) hT rfl rfl rfl rfl rfl rfl rfl rfl rfl rfl) ?_
    rintro _ _ rfl
    apply Stg.next [(10, _)] rfl rfl
    refine Stg.fin [5, 6, 11] rfl rfl (QAll.cons (QOp.p hT rfl rfl rfl rfl rfl) (QAll.cons (QOp.p hT rfl rfl rfl rfl rfl) (QAll.cons (QOp.p hT rfl rfl rfl rfl rfl) QAll.nil))) ?_
    replace H := H.self
    exact AtE.then_n ((HK1 _ (b_17, b_15) _ H).pickP (ts := [10, 8, 9, 7]) (is := [0, 1]) rfl rfl (by decide) rfl)
   refine EAll.cons ?_ EAll.nil
   refine EOp.e rfl rfl rfl (EffX.allocP (cs := [_, _, _, _, _, _]) hT rfl rfl H) ?_
   rintro _ _ ⟨b_18, _, rfl, rfl, he18, H⟩
   apply Stg.next [(8, _)] rfl rfl
   refine Stg.go [0, 1, 3, 5, 6] [2] rfl rfl (QAll.cons (QOp.p hT rfl rfl rfl rfl rfl) (QAll.cons (QOp.p hT rfl rfl rfl rfl rfl) (QAll.cons (QOp.q rfl rfl (Quiet1.loadSP (i := 2) (l := [_, _, _, _, _, _]) hT rfl rfl rfl rfl rfl rfl rfl rfl) rfl rfl) (QAll.cons (QOp.p hT rfl rfl rfl rfl rfl) (QAll.cons (QOp.p hT rfl rfl rfl rfl rfl) QAll.nil))))) ?_
   refine EAll.cons ?_ EAll.nil
   replace H := H.self
   refine EOp.e rfl rfl rfl (EffX.callF (bs := []) (cs := [_, _]) (f := 44) (sh := fun h => law03uDeltaTold_c2 _ _ _ h _) (H0 := H) rfl rfl Tryd.call44 rfl (hl := fun w m hr hw => lift_law03uDeltaTold_c2 _ _ _ w m hr _ hw)) ?_
   rintro _ _ ⟨v_15, h0u32, rfl, rfl, H⟩
   apply Stg.next [(15, _)] rfl rfl
   refine Stg.go [3, 5, 6] [4] rfl rfl (QAll.cons (QOp.q rfl rfl (Quiet1.loadSP (i := 2) (l := [_, _, _, _, _, _]) hT rfl rfl rfl rfl rfl rfl rfl rfl) rfl rfl) (QAll.cons (QOp.p hT rfl rfl rfl rfl rfl) (QAll.cons (QOp.p hT rfl rfl rfl rfl rfl) QAll.nil))) ?_
   refine EAll.cons ?_ EAll.nil
   replace H := H.self
   refine EOp.e rfl rfl rfl (EffX.call (f := 99) (sh := fun h => ref03uForm _ h _) (H0 := H) rfl Tryd.call99 rfl (hl := fun w m hr hw => lift_ref03uForm _ w m hr _ hw)) ?_
   rintro _ _ ⟨v_16, h0u34, rfl, rfl, H⟩
   apply Stg.next [(17, _)] rfl rfl
   refine Stg.go [5, 6] [9] rfl rfl (QAll.cons (QOp.p hT rfl rfl rfl rfl rfl) (QAll.cons (QOp.p hT rfl rfl rfl rfl rfl) QAll.nil)) ?_
   refine EAll.cons ?_ EAll.nil
   refine EOp.e rfl rfl rfl (EffX.storeSP (i := 0) (qv := [(_, [_, _, _, _, _, _]), (_, [_, _, _, _, _, _]), (_, [_, _, _, _, _, _])]) hT rfl rfl rfl rfl rfl rfl rfl rfl rfl rfl) ?_
   rintro _ _ rfl
   apply Stg.next [] rfl rfl
   refine Stg.go [5, 6] [10] rfl rfl (QAll.cons (QOp.p hT rfl rfl rfl rfl rfl) (QAll.cons (QOp.p hT rfl rfl rfl rfl rfl) QAll.nil)) ?_
   refine EAll.cons ?_ EAll.nil
   refine EOp.e rfl rfl rfl (EffX.storeSP (i := 1) (qv := [(_, [_, _, _, _, _, _]), (_, [_, _, _, _, _, _]), (_, [_, _, _, _, _, _])]) hT rfl rfl rfl rfl rfl rfl rfl rfl rfl rfl) ?_
   rintro _ _ rfl
   apply Stg.next [(10, _)] rfl rfl
   refine Stg.fin [5, 6, 11] rfl rfl (QAll.cons (QOp.p hT rfl rfl rfl rfl rfl) (QAll.cons (QOp.p hT rfl rfl rfl rfl rfl) (QAll.cons (QOp.p hT rfl rfl rfl rfl rfl) QAll.nil))) ?_
   replace H := H.self
   exact AtE.then_n ((HK1 _ (b_18, b_15) _ H).pickP (ts := [10, 8, 9, 7]) (is := [0, 1]) rfl rfl (by decide) rfl)

theorem lift_law03utold__law03uDeltaTold_c3 (limbs : Int) (do_c : Addr) (do_c_1 : Addr) (want : Bool × Sl × Sl × Bool × Sl × Sl) (w : World) (m : Heap) (hr : Rel ⟨m, []⟩ w.heap) (S : Bool → Heap → Prop) (H : law03utold__law03uDeltaTold_c3 limbs do_c do_c_1 want m S) :
    Calls Tryd.prog 40 #[Value.int .i64 limbs, Value.func (.func 47) #[] #[Value.pointer (some do_c), Value.pointer (some do_c_1)], Value.agg (C_bool_sl_sl_bool_sl_sl want).toArray] w (Post ⟨w, m⟩ Value.bool S) := by
  refine Calls.lift (args := [Value.int .i64 limbs, Value.func (.func 47) #[] #[Value.pointer (some do_c), Value.pointer (some do_c_1)], Value.agg (C_bool_sl_sl_bool_sl_sl want).toArray]) Tryd.func40 rfl Tryd.ntmps40 (Nat.le_of_ble_eq_true rfl) hr (law03utold__law03uDeltaTold_c3 limbs do_c do_c_1 want m S) H (fun H => ?_)
  refine AtC.pick (ts := [0, 1, 2]) rfl ?_
  unfold law03utold__law03uDeltaTold_c3 at H
  refine AtC.seqR ?_
  refine AtL.e rfl (EffX.boxP (cs := [_, _, _, _, _, _]) rfl rfl rfl H) ?_
  rintro _ _ ⟨b, _, rfl, rfl, _, H⟩
  replace H := H.self
  refine AtL.pures hT 1 _ _ _ _ rfl ?_
  refine AtL.nil ?_
  refine AtE.then_n (AtE.go ?_)
  refine AtC.seqR ?_
  refine AtL.pures hT 1 _ _ _ _ rfl ?_
  refine AtL.e rfl (EffX.call (f := 15) (sh := fun h => nat_New _ h _) (H0 := H) rfl Tryd.call15 rfl (hl := fun w m hr hw => lift_nat_New _ w m hr _ hw)) ?_
  rintro _ _ ⟨v, h0u1, rfl, rfl, H⟩
  refine AtL.pures hT 1 _ _ _ _ rfl ?_
  refine AtL.nil ?_
  refine AtE.then_n (AtE.go ?_)
  refine AtC.joinSeq (β := Nat × Nat) (fun (t0 : Int × Bool × Sl × Sl × Bool × Sl × Sl × Bool × Sl × Sl × Bool × Sl × Sl) (bb : Nat × Nat) => [(10, Value.int .i64 t0.1), (8, Value.pointer (some ⟨bb.1, 0, none⟩)), (9, Value.pointer (some ⟨bb.2, 0, none⟩))]) (fun (t0 : Int × Bool × Sl × Sl × Bool × Sl × Sl × Bool × Sl × Sl × Bool × Sl × Sl) (bb : Nat × Nat) => [(bb.1, [Value.bool t0.2.1, Sl.toV t0.2.2.1, Sl.toV t0.2.2.2.1, Value.bool t0.2.2.2.2.1, Sl.toV t0.2.2.2.2.2.1, Sl.toV t0.2.2.2.2.2.2.1]), (bb.2, [Value.bool t0.2.2.2.2.2.2.2.1, Sl.toV t0.2.2.2.2.2.2.2.2.1, Sl.toV t0.2.2.2.2.2.2.2.2.2.1, Value.bool t0.2.2.2.2.2.2.2.2.2.2.1, Sl.toV t0.2.2.2.2.2.2.2.2.2.2.2.1, Sl.toV t0.2.2.2.2.2.2.2.2.2.2.2.2])]) [7] [] H (by exact rfl) (by exact rfl) (fun t0 bb h0u2 H => ?_) (fun J1 H HK1 => ?_)
  ·
   refine AtC.seq ?_
   refine AtC.joinSeq (β := Unit) (fun (t0u1 : Bool) (bb_1 : Unit) => [(31, Value.bool t0u1)]) (fun (t0u1 : Bool) (bb_1 : Unit) => []) [7, 8, 9] [0, 1] H (by exact rfl) (by exact rfl) (fun t0u1 bb_1 h0u36 H => ?_) (fun J20 H HK20 => ?_)
   ·
    refine AtC.condB H rfl (fun H => ?_) (fun H => ?_)
    ·
     refine AtC.joinSeq (β := Unit) (fun (t0u2 : Bool) (bb_2 : Unit) => [(6, Value.bool t0u2)]) (fun (t0u2 : Bool) (bb_2 : Unit) => []) [] [] H (by exact rfl) (by exact rfl) (fun t0u2 bb_2 h0u39 H => ?_) (fun J21 H HK21 => ?_)
     ·
      refine AtC.ret ?_
      refine AtE.then_r ?_
      exact AtE.retN (rs := [.tmp 6]) rfl (ResAll.cons (ResAt.tmp rfl) ResAll.nil) rfl H
     ·
      refine AtC.region ?_
      refine AtL.pures hT 1 _ _ _ _ rfl ?_
      refine AtL.e rfl (EffX.call (f := 24) (sh := fun h => nat_Bench_Over _ h _) (H0 := H) rfl Tryd.call24 rfl (hl := fun w m hr hw => lift_nat_Bench_Over _ w m hr _ hw)) ?_
      rintro _ _ ⟨v_19, h0u40, rfl, rfl, H⟩
      refine AtL.pures hT 1 _ _ _ _ rfl ?_
      refine AtL.splitB (t := 34) H rfl (fun H => ?_) (fun H => ?_)
      ·
       refine AtL.yes rfl rfl rfl ?_
       refine AtL.q rfl (Quiet1.loadSP (i := 0) (l := [_, _, _, _, _, _]) hT rfl rfl rfl rfl rfl rfl rfl rfl) ?_
       refine AtL.yes rfl rfl rfl ?_
       refine AtL.q rfl (Quiet1.build (cs := [_, _, _, _, _, _]) hT rfl rfl rfl rfl rfl rfl) ?_
       refine AtL.yes rfl rfl rfl ?_
       refine AtL.e rfl (EffX.call (f := 55) (sh := fun h => ref03uSame _ _ h _) (H0 := H) rfl Tryd.call55 rfl (hl := fun w m hr hw => lift_ref03uSame _ _ w m hr _ hw)) ?_
       rintro _ _ ⟨v_20, h0u41, rfl, rfl, H⟩
       refine AtL.pures hT 2 _ _ _ _ rfl ?_
       refine AtL.nil ?_
       exact AtE.then_n ((HK21 _ () _ H).pickP (ts := [6]) (is := []) rfl rfl (by decide) rfl)
      ·
       refine AtL.noF rfl rfl rfl (by decide) rfl ?_
       refine AtL.noF rfl rfl rfl (by decide) rfl ?_
       refine AtL.noF rfl rfl rfl (by decide) rfl ?_
       refine AtL.pures hT 2 _ _ _ _ rfl ?_
       refine AtL.nil ?_
       exact AtE.then_n ((HK21 _ () _ H).pickP (ts := [6]) (is := []) rfl rfl (by decide) rfl)
    ·
     refine AtC.skip ?_
     refine AtE.then_n (AtE.go ?_)
     refine AtC.joinSeq (β := Unit) (fun (t0u3 : Bool) (bb_3 : Unit) => [(6, Value.bool t0u3)]) (fun (t0u3 : Bool) (bb_3 : Unit) => []) [] [] H (by exact rfl) (by exact rfl) (fun t0u3 bb_3 h0u42 H => ?_) (fun J22 H HK22 => ?_)
     ·
      refine AtC.ret ?_
      exact AtE.retN (rs := [.tmp 6]) rfl (ResAll.cons (ResAt.tmp rfl) ResAll.nil) rfl H
     ·
      refine AtC.region ?_
      refine AtL.pures hT 1 _ _ _ _ rfl ?_
      refine AtL.e rfl (EffX.call (f := 24) (sh := fun h => nat_Bench_Over _ h _) (H0 := H) rfl Tryd.call24 rfl (hl := fun w m hr hw => lift_nat_Bench_Over _ w m hr _ hw)) ?_
      rintro _ _ ⟨v_21, h0u43, rfl, rfl, H⟩
      refine AtL.pures hT 2 _ _ _ _ rfl ?_
      refine AtL.splitB (t := 42) H rfl (fun H => ?_) (fun H => ?_)
      ·
       refine AtL.yes rfl rfl rfl ?_
       refine AtL.q rfl (Quiet1.loadSP (i := 0) (l := [_, _, _, _, _, _]) hT rfl rfl rfl rfl rfl rfl rfl rfl) ?_
       refine AtL.yes rfl rfl rfl ?_
       refine AtL.q rfl (Quiet1.loadSP (i := 1) (l := [_, _, _, _, _, _]) hT rfl rfl rfl rfl rfl rfl rfl rfl) ?_
       refine AtL.yes rfl rfl rfl ?_
       refine AtL.e rfl (EffX.call (f := 55) (sh := fun h => ref03uSame _ _ h _) (H0 := H) rfl Tryd.call55 rfl (hl := fun w m hr hw => lift_ref03uSame _ _ w m hr _ hw)) ?_
       rintro _ _ ⟨v_22, h0u44, rfl, rfl, H⟩
       refine AtL.pures hT 2 _ _ _ _ rfl ?_
       refine AtL.nil ?_
       exact AtE.then_n ((HK22 _ () _ H).pickP (ts := [6]) (is := []) rfl rfl (by decide) rfl)
      ·
       refine AtL.noF rfl rfl rfl (by decide) rfl ?_
       refine AtL.noF rfl rfl rfl (by decide) rfl ?_
       refine AtL.noF rfl rfl rfl (by decide) rfl ?_
       refine AtL.pures hT 2 _ _ _ _ rfl ?_
       refine AtL.nil ?_
       exact AtE.then_n ((HK22 _ () _ H).pickP (ts := [6]) (is := []) rfl rfl (by decide) rfl)
   ·
    refine AtC.region ?_
    refine AtL.pures hT 1 _ _ _ _ rfl ?_
    refine AtL.q rfl (Quiet1.loadSP (i := 1) (l := [_, _, _]) hT rfl rfl rfl rfl rfl rfl rfl rfl) ?_
    refine AtL.pures hT 1 _ _ _ _ rfl ?_
    refine AtL.e rfl (EffX.call (f := 71) (sh := fun h => ref02uFits _ _ h _) (H0 := H) rfl Tryd.call71 rfl (hl := fun w m hr hw => lift_ref02uFits _ _ w m hr _ hw)) ?_
    rintro _ _ ⟨v_17, h0u37, rfl, rfl, H⟩
    refine AtL.pures hT 2 _ _ _ _ rfl ?_
    refine AtL.splitB (t := 25) H rfl (fun H => ?_) (fun H => ?_)
    ·
     refine AtL.noF rfl rfl rfl (by decide) rfl ?_
     refine AtL.noF rfl rfl rfl (by decide) rfl ?_
     refine AtL.noF rfl rfl rfl (by decide) rfl ?_
     refine AtL.noF rfl rfl rfl (by decide) rfl ?_
     refine AtL.noF rfl rfl rfl (by decide) rfl ?_
     refine AtL.pures hT 1 _ _ _ _ rfl ?_
     refine AtL.nil ?_
     exact AtE.then_n ((HK20 _ () _ H).pickP (ts := [31, 7, 8, 9]) (is := [0, 1]) rfl rfl (by decide) rfl)
    ·
     refine AtL.yes rfl rfl rfl ?_
     refine AtL.pures hT 1 _ _ _ _ rfl ?_
     refine AtL.yes rfl rfl rfl ?_
     refine AtL.q rfl (Quiet1.loadSP (i := 1) (l := [_, _, _]) hT rfl rfl rfl rfl rfl rfl rfl rfl) ?_
     refine AtL.yes rfl rfl rfl ?_
     refine AtL.pures hT 1 _ _ _ _ rfl ?_
     refine AtL.yes rfl rfl rfl ?_
     refine AtL.e rfl (EffX.call (f := 71) (sh := fun h => ref02uFits _ _ h _) (H0 := H) rfl Tryd.call71 rfl (hl := fun w m hr hw => lift_ref02uFits _ _ w m hr _ hw)) ?_
     rintro _ _ ⟨v_18, h0u38, rfl, rfl, H⟩
     refine AtL.yes rfl rfl rfl ?_
     refine AtL.pures hT 1 _ _ _ _ rfl ?_
     refine AtL.pures hT 1 _ _ _ _ rfl ?_
     refine AtL.nil ?_
     exact AtE.then_n ((HK20 _ () _ H).pickP (ts := [31, 7, 8, 9]) (is := [0, 1]) rfl rfl (by decide) rfl)
  ·
   apply AtC.stages [2, 4, 7, 8, 9, 10] [[], [], [], [], [2], [], [], [], [], [2, 4, 7, 8], [2, 4, 7, 8, 9], [2, 4, 7, 8, 9, 10]] [[], [], [0, 1], [], [0, 1, 2, 3], [], [5], [], [], [0, 1, 2, 3, 4, 7, 8], [0, 1, 2, 3, 4, 7, 8, 9], [0, 1, 2, 3, 4, 5, 6, 7, 8, 9, 10]] hmix (by kernel_rfl) [(13, _), (14, _), (16, _), (18, _), (19, _)] rfl 6 rfl
   refine Stg.go [0, 1, 3, 5, 6] [2, 7, 8] rfl rfl (QAll.cons (QOp.p hT rfl rfl rfl rfl rfl) (QAll.cons (QOp.p hT rfl rfl rfl rfl rfl) (QAll.cons (QOp.q rfl rfl (Quiet1.loadSP (i := 0) (l := [_, _, _, _, _, _]) hT rfl rfl rfl rfl rfl rfl rfl rfl) rfl rfl) (QAll.cons (QOp.p hT rfl rfl rfl rfl rfl) (QAll.cons (QOp.p hT rfl rfl rfl rfl rfl) QAll.nil))))) ?_
   refine EAll.cons ?_ ?_
   ·
    replace H := H.self
    refine EOp.e rfl rfl rfl (EffX.callF (bs := []) (cs := [_, _]) (f := 47) (sh := fun h => law03uDeltaTold_c3 _ _ _ h _) (H0 := H) rfl rfl Tryd.call47 rfl (hl := fun w m hr hw => lift_law03uDeltaTold_c3 _ _ _ w m hr _ hw)) ?_
    rintro _ _ ⟨v_1, h0u4, rfl, rfl, H⟩
    apply Stg.next [(15, _)] rfl rfl
    refine Stg.go [3, 5, 6] [4, 7, 8] rfl rfl (QAll.cons (QOp.q rfl rfl (Quiet1.loadSP (i := 0) (l := [_, _, _, _, _, _]) hT rfl rfl rfl rfl rfl rfl rfl rfl) rfl rfl) (QAll.cons (QOp.p hT rfl rfl rfl rfl rfl) (QAll.cons (QOp.p hT rfl rfl rfl rfl rfl) QAll.nil))) ?_
    refine EAll.cons ?_ ?_
    ·
     replace H := H.self
     refine EOp.e rfl rfl rfl (EffX.call (f := 99) (sh := fun h => ref03uForm _ h _) (H0 := H) rfl Tryd.call99 rfl (hl := fun w m hr hw => lift_ref03uForm _ w m hr _ hw)) ?_
     rintro _ _ ⟨v_2, h0u6, rfl, rfl, H⟩
     apply Stg.next [(17, _)] rfl rfl
     refine Stg.go [5, 6] [7, 8] rfl rfl (QAll.cons (QOp.p hT rfl rfl rfl rfl rfl) (QAll.cons (QOp.p hT rfl rfl rfl rfl rfl) QAll.nil)) ?_
     refine EAll.cons ?_ ?_
     ·
      refine EOp.e rfl rfl rfl (EffX.allocP (cs := [_, _, _, _, _, _]) hT rfl rfl H) ?_
      rintro _ _ ⟨b_1, _, rfl, rfl, he1, H⟩
      apply Stg.next [(8, _)] rfl rfl
      refine Stg.go [5, 6] [8] rfl rfl (QAll.cons (QOp.p hT rfl rfl rfl rfl rfl) (QAll.cons (QOp.p hT rfl rfl rfl rfl rfl) QAll.nil)) ?_
      refine EAll.cons ?_ EAll.nil
      refine EOp.e rfl rfl rfl (EffX.allocP (cs := [_, _, _, _, _, _]) hT rfl rfl H) ?_
      rintro _ _ ⟨b_2, _, rfl, rfl, he2, H⟩
      apply Stg.next [(9, _)] rfl rfl
      refine Stg.go [5, 6] [9] rfl rfl (QAll.cons (QOp.p hT rfl rfl rfl rfl rfl) (QAll.cons (QOp.p hT rfl rfl rfl rfl rfl) QAll.nil)) ?_
      refine EAll.cons ?_ EAll.nil
      refine EOp.e rfl rfl rfl (EffX.storeSP (i := 1) (qv := [(_, [_, _, _, _, _, _]), (_, [_, _, _, _, _, _]), (_, [_, _, _, _, _, _])]) hT rfl rfl rfl rfl rfl rfl rfl rfl rfl rfl) ?_
      rintro _ _ rfl
      apply Stg.next [] rfl rfl
      refine Stg.go [5, 6] [10] rfl rfl (QAll.cons (QOp.p hT rfl rfl rfl rfl rfl) (QAll.cons (QOp.p hT rfl rfl rfl rfl rfl) QAll.nil)) ?_
      refine EAll.cons ?_ EAll.nil
      refine EOp.e rfl rfl rfl (EffX.storeSP (i := 0) (qv := [(_, [_, _, _, _, _, _]), (_, [_, _, _, _, _, _]), (_, [_, _, _, _, _, _])]) hT rfl rfl rfl rfl rfl rfl rfl rfl rfl rfl) ?_
      rintro _ _ rfl
      apply Stg.next [(10, _)] rfl rfl
      refine Stg.fin [5, 6, 11] rfl rfl (QAll.cons (QOp.p hT rfl rfl rfl rfl rfl) (QAll.cons (QOp.p hT rfl rfl rfl rfl rfl) (QAll.cons (QOp.p hT rfl rfl rfl rfl rfl) QAll.nil))) ?_
      replace H := H.self
      exact AtE.then_n ((HK1 _ (b_1, b_2) _ H).pickP (ts := [10, 8, 9, 7]) (is := [1, 0]) rfl rfl (by decide) rfl)
     refine EAll.cons ?_ EAll.nil
     refine EOp.e rfl rfl rfl (EffX.allocP (cs := [_, _, _, _, _, _]) hT rfl rfl H) ?_
     rintro _ _ ⟨b_3, _, rfl, rfl, he3, H⟩
     apply Stg.next [(9, _)] rfl rfl
     refine Stg.go [5, 6] [7] rfl rfl (QAll.cons (QOp.p hT rfl rfl rfl rfl rfl) (QAll.cons (QOp.p hT rfl rfl rfl rfl rfl) QAll.nil)) ?_
     refine EAll.cons ?_ EAll.nil
     refine EOp.e rfl rfl rfl (EffX.allocP (cs := [_, _, _, _, _, _]) hT rfl rfl H) ?_
     rintro _ _ ⟨b_4, _, rfl, rfl, he4, H⟩
     apply Stg.next [(8, _)] rfl rfl
     refine Stg.go [5, 6] [9] rfl rfl (QAll.cons (QOp.p hT rfl rfl rfl rfl rfl) (QAll.cons (QOp.p hT rfl rfl rfl rfl rfl) QAll.nil)) ?_
     refine EAll.cons ?_ EAll.nil
     refine EOp.e rfl rfl rfl (EffX.storeSP (i := 0) (qv := [(_, [_, _, _, _, _, _]), (_, [_, _, _, _, _, _]), (_, [_, _, _, _, _, _])]) hT rfl rfl rfl rfl rfl rfl rfl rfl rfl rfl) ?_
     rintro _ _ rfl
     apply Stg.next [] rfl rfl
     refine Stg.go [5, 6] [10] rfl rfl (QAll.cons (QOp.p hT rfl rfl rfl rfl rfl) (QAll.cons (QOp.p hT rfl rfl rfl rfl rfl) QAll.nil)) ?_
     refine EAll.cons ?_ EAll.nil
     refine EOp.e rfl rfl rfl (EffX.storeSP (i := 1) (qv := [(_, [_, _, _, _, _, _]), (_, [_, _, _, _, _, _]), (_, [_, _, _, _, _, _])]) hT rfl rfl rfl rfl rfl rfl rfl rfl rfl rfl) ?_
     rintro _ _ rfl
     apply Stg.next [(10, _)] rfl rfl
     refine Stg.fin [5, 6, 11] rfl rfl (QAll.cons (QOp.p hT rfl rfl rfl rfl rfl) (QAll.cons (QOp.p hT rfl rfl rfl rfl rfl) (QAll.cons (QOp.p hT rfl rfl rfl rfl rfl) QAll.nil))) ?_
     replace H := H.self
     exact AtE.then_n ((HK1 _ (b_4, b_3) _ H).pickP (ts := [10, 8, 9, 7]) (is := [0, 1]) rfl rfl (by decide) rfl)
    refine EAll.cons ?_ ?_
    ·
     refine EOp.e rfl rfl rfl (EffX.allocP (cs := [_, _, _, _, _, _]) hT rfl rfl H) ?_
     rintro _ _ ⟨b_5, _, rfl, rfl, he5, H⟩
     apply Stg.next [(8, _)] rfl rfl
     refine Stg.go [3, 5, 6] [4, 8] rfl rfl (QAll.cons (QOp.q rfl rfl (Quiet1.loadSP (i := 1) (l := [_, _, _, _, _, _]) hT rfl rfl rfl rfl rfl rfl rfl rfl) rfl rfl) (QAll.cons (QOp.p hT rfl rfl rfl rfl rfl) (QAll.cons (QOp.p hT rfl rfl rfl rfl rfl) QAll.nil))) ?_
     refine EAll.cons ?_ ?_
     ·
      replace H := H.self
      refine EOp.e rfl rfl rfl (EffX.call (f := 99) (sh := fun h => ref03uForm _ h _) (H0 := H) rfl Tryd.call99 rfl (hl := fun w m hr hw => lift_ref03uForm _ w m hr _ hw)) ?_
      rintro _ _ ⟨v_3, h0u8, rfl, rfl, H⟩
      apply Stg.next [(17, _)] rfl rfl
      refine Stg.go [5, 6] [8] rfl rfl (QAll.cons (QOp.p hT rfl rfl rfl rfl rfl) (QAll.cons (QOp.p hT rfl rfl rfl rfl rfl) QAll.nil)) ?_
      refine EAll.cons ?_ EAll.nil
      refine EOp.e rfl rfl rfl (EffX.allocP (cs := [_, _, _, _, _, _]) hT rfl rfl H) ?_
      rintro _ _ ⟨b_6, _, rfl, rfl, he6, H⟩
      apply Stg.next [(9, _)] rfl rfl
      refine Stg.go [5, 6] [9] rfl rfl (QAll.cons (QOp.p hT rfl rfl rfl rfl rfl) (QAll.cons (QOp.p hT rfl rfl rfl rfl rfl) QAll.nil)) ?_
      refine EAll.cons ?_ EAll.nil
      refine EOp.e rfl rfl rfl (EffX.storeSP (i := 1) (qv := [(_, [_, _, _, _, _, _]), (_, [_, _, _, _, _, _]), (_, [_, _, _, _, _, _])]) hT rfl rfl rfl rfl rfl rfl rfl rfl rfl rfl) ?_
      rintro _ _ rfl
      apply Stg.next [] rfl rfl
      refine Stg.go [5, 6] [10] rfl rfl (QAll.cons (QOp.p hT rfl rfl rfl rfl rfl) (QAll.cons (QOp.p hT rfl rfl rfl rfl rfl) QAll.nil)) ?_
      refine EAll.cons ?_ EAll.nil
      refine EOp.e rfl rfl rfl (EffX.storeSP (i := 0) (qv := [(_, [_, _, _, _, _, _]), (_, [_, _, _, _, _, _]), (_, [_, _, _, _, _, _])]) hT rfl rfl rfl rfl rfl rfl rfl rfl rfl rfl) ?_
      rintro _ _ rfl
      apply Stg.next [(10, _)] rfl rfl
      refine Stg.fin [5, 6, 11] rfl rfl (QAll.cons (QOp.p hT rfl rfl rfl rfl rfl) (QAll.cons (QOp.p hT rfl rfl rfl rfl rfl) (QAll.cons (QOp.p hT rfl rfl rfl rfl rfl) QAll.nil))) ?_
      replace H := H.self
      exact AtE.then_n ((HK1 _ (b_5, b_6) _ H).pickP (ts := [10, 8, 9, 7]) (is := [1, 0]) rfl rfl (by decide) rfl)
     refine EAll.cons ?_ EAll.nil
     refine EOp.e rfl rfl rfl (EffX.allocP (cs := [_, _, _, _, _, _]) hT rfl rfl H) ?_
     rintro _ _ ⟨b_7, _, rfl, rfl, he7, H⟩
     apply Stg.next [(9, _)] rfl rfl
     refine Stg.go [3, 5, 6] [4] rfl rfl (QAll.cons (QOp.q rfl rfl (Quiet1.loadSP (i := 2) (l := [_, _, _, _, _, _]) hT rfl rfl rfl rfl rfl rfl rfl rfl) rfl rfl) (QAll.cons (QOp.p hT rfl rfl rfl rfl rfl) (QAll.cons (QOp.p hT rfl rfl rfl rfl rfl) QAll.nil))) ?_
     refine EAll.cons ?_ EAll.nil
     replace H := H.self
     refine EOp.e rfl rfl rfl (EffX.call (f := 99) (sh := fun h => ref03uForm _ h _) (H0 := H) rfl Tryd.call99 rfl (hl := fun w m hr hw => lift_ref03uForm _ w m hr _ hw)) ?_
     rintro _ _ ⟨v_4, h0u10, rfl, rfl, H⟩
     apply Stg.next [(17, _)] rfl rfl
     refine Stg.go [5, 6] [9] rfl rfl (QAll.cons (QOp.p hT rfl rfl rfl rfl rfl) (QAll.cons (QOp.p hT rfl rfl rfl rfl rfl) QAll.nil)) ?_
     refine EAll.cons ?_ EAll.nil
     refine EOp.e rfl rfl rfl (EffX.storeSP (i := 1) (qv := [(_, [_, _, _, _, _, _]), (_, [_, _, _, _, _, _]), (_, [_, _, _, _, _, _])]) hT rfl rfl rfl rfl rfl rfl rfl rfl rfl rfl) ?_
     rintro _ _ rfl
     apply Stg.next [] rfl rfl
     refine Stg.go [5, 6] [10] rfl rfl (QAll.cons (QOp.p hT rfl rfl rfl rfl rfl) (QAll.cons (QOp.p hT rfl rfl rfl rfl rfl) QAll.nil)) ?_
     refine EAll.cons ?_ EAll.nil
     refine EOp.e rfl rfl rfl (EffX.storeSP (i := 0) (qv := [(_, [_, _, _, _, _, _]), (_, [_, _, _, _, _, _]), (_, [_, _, _, _, _, _])]) hT rfl rfl rfl rfl rfl rfl rfl rfl rfl rfl) ?_
     rintro _ _ rfl
     apply Stg.next [(10, _)] rfl rfl
     refine Stg.fin [5, 6, 11] rfl rfl (QAll.cons (QOp.p hT rfl rfl rfl rfl rfl) (QAll.cons (QOp.p hT rfl rfl rfl rfl rfl) (QAll.cons (QOp.p hT rfl rfl rfl rfl rfl) QAll.nil))) ?_
     replace H := H.self
     exact AtE.then_n ((HK1 _ (b_5, b_7) _ H).pickP (ts := [10, 8, 9, 7]) (is := [1, 0]) rfl rfl (by decide) rfl)
    refine EAll.cons ?_ EAll.nil
    refine EOp.e rfl rfl rfl (EffX.allocP (cs := [_, _, _, _, _, _]) hT rfl rfl H) ?_
    rintro _ _ ⟨b_8, _, rfl, rfl, he8, H⟩
    apply Stg.next [(9, _)] rfl rfl
    refine Stg.go [3, 5, 6] [4, 7] rfl rfl (QAll.cons (QOp.q rfl rfl (Quiet1.loadSP (i := 1) (l := [_, _, _, _, _, _]) hT rfl rfl rfl rfl rfl rfl rfl rfl) rfl rfl) (QAll.cons (QOp.p hT rfl rfl rfl rfl rfl) (QAll.cons (QOp.p hT rfl rfl rfl rfl rfl) QAll.nil))) ?_
    refine EAll.cons ?_ ?_
    ·
     replace H := H.self
     refine EOp.e rfl rfl rfl (EffX.call (f := 99) (sh := fun h => ref03uForm _ h _) (H0 := H) rfl Tryd.call99 rfl (hl := fun w m hr hw => lift_ref03uForm _ w m hr _ hw)) ?_
     rintro _ _ ⟨v_5, h0u12, rfl, rfl, H⟩
     apply Stg.next [(17, _)] rfl rfl
     refine Stg.go [5, 6] [7] rfl rfl (QAll.cons (QOp.p hT rfl rfl rfl rfl rfl) (QAll.cons (QOp.p hT rfl rfl rfl rfl rfl) QAll.nil)) ?_
     refine EAll.cons ?_ EAll.nil
     refine EOp.e rfl rfl rfl (EffX.allocP (cs := [_, _, _, _, _, _]) hT rfl rfl H) ?_
     rintro _ _ ⟨b_9, _, rfl, rfl, he9, H⟩
     apply Stg.next [(8, _)] rfl rfl
     refine Stg.go [5, 6] [9] rfl rfl (QAll.cons (QOp.p hT rfl rfl rfl rfl rfl) (QAll.cons (QOp.p hT rfl rfl rfl rfl rfl) QAll.nil)) ?_
     refine EAll.cons ?_ EAll.nil
     refine EOp.e rfl rfl rfl (EffX.storeSP (i := 0) (qv := [(_, [_, _, _, _, _, _]), (_, [_, _, _, _, _, _]), (_, [_, _, _, _, _, _])]) hT rfl rfl rfl rfl rfl rfl rfl rfl rfl rfl) ?_
     rintro _ _ rfl
     apply Stg.next [] rfl rfl
     refine Stg.go [5, 6] [10] rfl rfl (QAll.cons (QOp.p hT rfl rfl rfl rfl rfl) (QAll.cons (QOp.p hT rfl rfl rfl rfl rfl) QAll.nil)) ?_
     refine EAll.cons ?_ EAll.nil
     refine EOp.e rfl rfl rfl (EffX.storeSP (i := 1) (qv := [(_, [_, _, _, _, _, _]), (_, [_, _, _, _, _, _]), (_, [_, _, _, _, _, _])]) hT rfl rfl rfl rfl rfl rfl rfl rfl rfl rfl) ?_
     rintro _ _ rfl
     apply Stg.next [(10, _)] rfl rfl
     refine Stg.fin [5, 6, 11] rfl rfl (QAll.cons (QOp.p hT rfl rfl rfl rfl rfl) (QAll.cons (QOp.p hT rfl rfl rfl rfl rfl) (QAll.cons (QOp.p hT rfl rfl rfl rfl rfl) QAll.nil))) ?_
     replace H := H.self
     exact AtE.then_n ((HK1 _ (b_9, b_8) _ H).pickP (ts := [10, 8, 9, 7]) (is := [0, 1]) rfl rfl (by decide) rfl)
    refine EAll.cons ?_ EAll.nil
    refine EOp.e rfl rfl rfl (EffX.allocP (cs := [_, _, _, _, _, _]) hT rfl rfl H) ?_
    rintro _ _ ⟨b_10, _, rfl, rfl, he10, H⟩
    apply Stg.next [(8, _)] rfl rfl
    refine Stg.go [3, 5, 6] [4] rfl rfl (QAll.cons (QOp.q rfl rfl (Quiet1.loadSP (i := 2) (l := [_, _, _, _, _, _]) hT rfl rfl rfl rfl rfl rfl rfl rfl) rfl rfl) (QAll.cons (QOp.p hT rfl rfl rfl rfl rfl) (QAll.cons (QOp.p hT rfl rfl rfl rfl rfl) QAll.nil))) ?_
    refine EAll.cons ?_ EAll.nil
    replace H := H.self
    refine EOp.e rfl rfl rfl (EffX.call (f := 99) (sh := fun h => ref03uForm _ h _) (H0 := H) rfl Tryd.call99 rfl (hl := fun w m hr hw => lift_ref03uForm _ w m hr _ hw)) ?_
    rintro _ _ ⟨v_6, h0u14, rfl, rfl, H⟩
    apply Stg.next [(17, _)] rfl rfl
    refine Stg.go [5, 6] [9] rfl rfl (QAll.cons (QOp.p hT rfl rfl rfl rfl rfl) (QAll.cons (QOp.p hT rfl rfl rfl rfl rfl) QAll.nil)) ?_
    refine EAll.cons ?_ EAll.nil
    refine EOp.e rfl rfl rfl (EffX.storeSP (i := 0) (qv := [(_, [_, _, _, _, _, _]), (_, [_, _, _, _, _, _]), (_, [_, _, _, _, _, _])]) hT rfl rfl rfl rfl rfl rfl rfl rfl rfl rfl) ?_
    rintro _ _ rfl
    apply Stg.next [] rfl rfl
    refine Stg.go [5, 6] [10] rfl rfl (QAll.cons (QOp.p hT rfl rfl rfl rfl rfl) (QAll.cons (QOp.p hT rfl rfl rfl rfl rfl) QAll.nil)) ?_
    refine EAll.cons ?_ EAll.nil
    refine EOp.e rfl rfl rfl (EffX.storeSP (i := 1) (qv := [(_, [_, _, _, _, _, _]), (_, [_, _, _, _, _, _]), (_, [_, _, _, _, _, _])]) hT rfl rfl rfl rfl rfl rfl rfl rfl rfl rfl) ?_
    rintro _ _ rfl
    apply Stg.next [(10, _)] rfl rfl
    refine Stg.fin [5, 6, 11] rfl rfl (QAll.cons (QOp.p hT rfl rfl rfl rfl rfl) (QAll.cons (QOp.p hT rfl rfl rfl rfl rfl) (QAll.cons (QOp.p hT rfl rfl rfl rfl rfl) QAll.nil))) ?_
    replace H := H.self
    exact AtE.then_n ((HK1 _ (b_10, b_8) _ H).pickP (ts := [10, 8, 9, 7]) (is := [0, 1]) rfl rfl (by decide) rfl)
   refine EAll.cons ?_ ?_
   ·
    refine EOp.e rfl rfl rfl (EffX.allocP (cs := [_, _, _, _, _, _]) hT rfl rfl H) ?_
    rintro _ _ ⟨b_11, _, rfl, rfl, he11, H⟩
    apply Stg.next [(8, _)] rfl rfl
    refine Stg.go [0, 1, 3, 5, 6] [2, 8] rfl rfl (QAll.cons (QOp.p hT rfl rfl rfl rfl rfl) (QAll.cons (QOp.p hT rfl rfl rfl rfl rfl) (QAll.cons (QOp.q rfl rfl (Quiet1.loadSP (i := 1) (l := [_, _, _, _, _, _]) hT rfl rfl rfl rfl rfl rfl rfl rfl) rfl rfl) (QAll.cons (QOp.p hT rfl rfl rfl rfl rfl) (QAll.cons (QOp.p hT rfl rfl rfl rfl rfl) QAll.nil))))) ?_
    refine EAll.cons ?_ ?_
    ·
     replace H := H.self
     refine EOp.e rfl rfl rfl (EffX.callF (bs := []) (cs := [_, _]) (f := 47) (sh := fun h => law03uDeltaTold_c3 _ _ _ h _) (H0 := H) rfl rfl Tryd.call47 rfl (hl := fun w m hr hw => lift_law03uDeltaTold_c3 _ _ _ w m hr _ hw)) ?_
     rintro _ _ ⟨v_7, h0u16, rfl, rfl, H⟩
     apply Stg.next [(15, _)] rfl rfl
     refine Stg.go [3, 5, 6] [4, 8] rfl rfl (QAll.cons (QOp.q rfl rfl (Quiet1.loadSP (i := 1) (l := [_, _, _, _, _, _]) hT rfl rfl rfl rfl rfl rfl rfl rfl) rfl rfl) (QAll.cons (QOp.p hT rfl rfl rfl rfl rfl) (QAll.cons (QOp.p hT rfl rfl rfl rfl rfl) QAll.nil))) ?_
     refine EAll.cons ?_ ?_
     ·
      replace H := H.self
      refine EOp.e rfl rfl rfl (EffX.call (f := 99) (sh := fun h => ref03uForm _ h _) (H0 := H) rfl Tryd.call99 rfl (hl := fun w m hr hw => lift_ref03uForm _ w m hr _ hw)) ?_
      rintro _ _ ⟨v_8, h0u18, rfl, rfl, H⟩
      apply Stg.next [(17, _)] rfl rfl
      refine Stg.go [5, 6] [8] rfl rfl (QAll.cons (QOp.p hT rfl rfl rfl rfl rfl) (QAll.cons (QOp.p hT rfl rfl rfl rfl rfl) QAll.nil)) ?_
      refine EAll.cons ?_ EAll.nil
      refine EOp.e rfl rfl rfl (EffX.allocP (cs := [_, _, _, _, _, _]) hT rfl rfl H) ?_
      rintro _ _ ⟨b_12, _, rfl, rfl, he12, H⟩
      apply Stg.next [(9, _)] rfl rfl
      refine Stg.go [5, 6] [9] rfl rfl (QAll.cons (QOp.p hT rfl rfl rfl rfl rfl) (QAll.cons (QOp.p hT rfl rfl rfl rfl rfl) QAll.nil)) ?_
      refine EAll.cons ?_ EAll.nil
      refine EOp.e rfl rfl rfl (EffX.storeSP (i := 1) (qv := [(_, [_, _, _, _, _, _]), (_, [_, _, _, _, _, _]), (_, [_, _, _, _, _, _])]) hT rfl rfl rfl rfl rfl rfl rfl rfl rfl rfl) ?_
      rintro _ _ rfl
      apply Stg.next [] rfl rfl
      refine Stg.go [5, 6] [10] rfl rfl (QAll.cons (QOp.p hT rfl rfl rfl rfl rfl) (QAll.cons (QOp.p hT rfl rfl rfl rfl rfl) QAll.nil)) ?_
      refine EAll.cons ?_ EAll.nil
      refine EOp.e rfl rfl rfl (EffX.storeSP (i := 0) (qv := [(_, [_, _, _, _, _, _]), (_, [_, _, _, _, _, _]), (_, [_, _, _, _, _, _])]) hT rfl rfl rfl rfl rfl rfl rfl rfl rfl rfl) ?_
      rintro _ _ rfl
      apply Stg.next [(10, _)] rfl rfl
      refine Stg.fin [5, 6, 11] rfl rfl (QAll.cons (QOp.p hT rfl rfl rfl rfl rfl) (QAll.cons (QOp.p hT rfl rfl rfl rfl rfl) (QAll.cons (QOp.p hT rfl rfl rfl rfl rfl) QAll.nil))) ?_
      replace H := H.self
      exact AtE.then_n ((HK1 _ (b_11, b_12) _ H).pickP (ts := [10, 8, 9, 7]) (is := [1, 0]) rfl rfl (by decide) rfl)
     refine EAll.cons ?_ EAll.nil
     refine EOp.e rfl rfl rfl (EffX.allocP (cs := [_, _, _, _, _, _]) hT rfl rfl H) ?_
     rintro _ _ ⟨b_13, _, rfl, rfl, he13, H⟩
     apply Stg.next [(9, _)] rfl rfl
     refine Stg.go [3, 5, 6] [4] rfl rfl (QAll.cons (QOp.q rfl rfl (Quiet1.loadSP (i := 2) (l := [_, _, _, _, _, _]) hT rfl rfl rfl rfl rfl rfl rfl rfl) rfl rfl) (QAll.cons (QOp.p hT rfl rfl rfl rfl rfl) (QAll.cons (QOp.p hT rfl rfl rfl rfl rfl) QAll.nil))) ?_
     refine EAll.cons ?_ EAll.nil
     replace H := H.self
     refine EOp.e rfl rfl rfl (EffX.call (f := 99) (sh := fun h => ref03uForm _ h _) (H0 := H) rfl Tryd.call99 rfl (hl := fun w m hr hw => lift_ref03uForm _ w m hr _ hw)) ?_
     rintro _ _ ⟨v_9, h0u20, rfl, rfl, H⟩
     apply Stg.next [(17, _)] rfl rfl
     refine Stg.go [5, 6] [9] rfl rfl (QAll.cons (QOp.p hT rfl rfl rfl rfl rfl) (QAll.cons (QOp.p hT rfl rfl rfl rfl rfl) QAll.nil)) ?_
     refine EAll.cons ?_ EAll.nil
     refine EOp.e rfl rfl rfl (EffX.storeSP (i := 1) (qv := [(_, [_, _, _, _, _, _]), (_, [_, _, _, _, _, _]), (_, [_, _, _, _, _, _])]) hT rfl rfl rfl rfl rfl rfl rfl rfl rfl rfl) ?_
     rintro _ _ rfl
     apply Stg.next [] rfl rfl
     refine Stg.go [5, 6] [10] rfl rfl (QAll.cons (QOp.p hT rfl rfl rfl rfl rfl) (QAll.cons (QOp.p hT rfl rfl rfl rfl rfl) QAll.nil)) ?_
     refine EAll.cons ?_ EAll.nil
     refine EOp.e rfl rfl rfl (EffX.storeSP (i := 0) (qv := [(_, [_, _, _, _, _, _]), (_, [_, _, _, _, _, _]), (_, [_, _, _, _, _, _])]) hT rfl rfl rfl rfl rfl rfl rfl rfl rfl rfl) ?_
     rintro _ _ rfl
     apply Stg.next [(10, _)] rfl rfl
     refine Stg.fin [5, 6, 11] rfl rfl (QAll.cons (QOp.p hT rfl rfl rfl rfl rfl) (QAll.cons (QOp.p hT rfl rfl rfl rfl rfl) (QAll.cons (QOp.p hT rfl rfl rfl rfl rfl) QAll.nil))) ?_
     replace H := H.self
     exact AtE.then_n ((HK1 _ (b_11, b_13) _ H).pickP (ts := [10, 8, 9, 7]) (is := [1, 0]) rfl rfl (by decide) rfl)
    refine EAll.cons ?_ EAll.nil
    refine EOp.e rfl rfl rfl (EffX.allocP (cs := [_, _, _, _, _, _]) hT rfl rfl H) ?_
    rintro _ _ ⟨b_14, _, rfl, rfl, he14, H⟩
    apply Stg.next [(9, _)] rfl rfl
    refine Stg.go [0, 1, 3, 5, 6] [2] rfl rfl (QAll.cons (QOp.p hT rfl rfl rfl rfl rfl) (QAll.cons (QOp.p hT rfl rfl rfl rfl rfl) (QAll.cons (QOp.q rfl rfl (Quiet1.loadSP (i := 2) (l := [_, _, _, _, _, _]) hT rfl rfl rfl rfl rfl rfl rfl rfl) rfl rfl) (QAll.cons (QOp.p hT rfl rfl rfl rfl rfl) (QAll.cons (QOp.p hT rfl rfl rfl rfl rfl) QAll.nil))))) ?_
    refine EAll.cons ?_ EAll.nil
    replace H := H.self
    refine EOp.e rfl rfl rfl (EffX.callF (bs := []) (cs := [_, _]) (f := 47) (sh := fun h => law03uDeltaTold_c3 _ _ _ h _) (H0 := H) rfl rfl Tryd.call47 rfl (hl := fun w m hr hw => lift_law03uDeltaTold_c3 _ _ _ w m hr _ hw)) ?_
    rintro _ _ ⟨v_10, h0u22, rfl, rfl, H⟩
    apply Stg.next [(15, _)] rfl rfl
    refine Stg.go [3, 5, 6] [4] rfl rfl (QAll.cons (QOp.q rfl rfl (Quiet1.loadSP (i := 2) (l := [_, _, _, _, _, _]) hT rfl rfl rfl rfl rfl rfl rfl rfl) rfl rfl) (QAll.cons (QOp.p hT rfl rfl rfl rfl rfl) (QAll.cons (QOp.p hT rfl rfl rfl rfl rfl) QAll.nil))) ?_
    refine EAll.cons ?_ EAll.nil
    replace H := H.self
    refine EOp.e rfl rfl rfl (EffX.call (f := 99) (sh := fun h => ref03uForm _ h _) (H0 := H) rfl Tryd.call99 rfl (hl := fun w m hr hw => lift_ref03uForm _ w m hr _ hw)) ?_
    rintro _ _ ⟨v_11, h0u24, rfl, rfl, H⟩
    apply Stg.next [(17, _)] rfl rfl
    refine Stg.go [5, 6] [9] rfl rfl (QAll.cons (QOp.p hT rfl rfl rfl rfl rfl) (QAll.cons (QOp.p hT rfl rfl rfl rfl rfl) QAll.nil)) ?_
    refine EAll.cons ?_ EAll.nil
    refine EOp.e rfl rfl rfl (EffX.storeSP (i := 1) (qv := [(_, [_, _, _, _, _, _]), (_, [_, _, _, _, _, _]), (_, [_, _, _, _, _, _])]) hT rfl rfl rfl rfl rfl rfl rfl rfl rfl rfl) ?_
    rintro _ _ rfl
    apply Stg.next [] rfl rfl
    refine Stg.go [5, 6] [10] rfl rfl (QAll.cons (QOp.p hT rfl rfl rfl rfl rfl) (QAll.cons (QOp.p hT rfl rfl rfl rfl rfl) QAll.nil)) ?_
    refine EAll.cons ?_ EAll.nil
    refine EOp.e rfl rfl rfl (EffX.storeSP (i := 0) (qv := [(_, [_, _, _, _, _, _]), (_, [_, _, _, _, _, _]), (_, [_, _, _, _, _, _])]) hT rfl rfl rfl rfl rfl rfl rfl rfl rfl rfl) ?_
    rintro _ _ rfl
    apply Stg.next [(10, _)] rfl rfl
    refine Stg.fin [5, 6, 11] rfl rfl (QAll.cons (QOp.p hT rfl rfl rfl rfl rfl) (QAll.cons (QOp.p hT rfl rfl rfl rfl rfl) (QAll.cons (QOp.p hT rfl rfl rfl rfl rfl) QAll.nil))) ?_
    replace H := H.self
    exact AtE.then_n ((HK1 _ (b_11, b_14) _ H).pickP (ts := [10, 8, 9, 7]) (is := [1, 0]) rfl rfl (by decide) rfl)
   refine EAll.cons ?_ EAll.nil
   refine EOp.e rfl rfl rfl (EffX.allocP (cs := [_, _, _, _, _, _]) hT rfl rfl H) ?_
   rintro _ _ ⟨b_15, _, rfl, rfl, he15, H⟩
   apply Stg.next [(9, _)] rfl rfl
   refine Stg.go [0, 1, 3, 5, 6] [2, 7] rfl rfl (QAll.cons (QOp.p hT rfl rfl rfl rfl rfl) (QAll.cons (QOp.p hT rfl rfl rfl rfl rfl) (QAll.cons (QOp.q rfl rfl (Quiet1.loadSP (i := 1) (l := [_, _, _, _, _, _]) hT rfl rfl rfl rfl rfl rfl rfl rfl) rfl rfl) (QAll.cons (QOp.p hT rfl rfl rfl rfl rfl) (QAll.cons (QOp.p hT rfl rfl rfl rfl rfl) QAll.nil))))) ?_
   refine EAll.cons ?_ ?_
   ·
    replace H := H.self
    refine EOp.e rfl rfl rfl (EffX.callF (bs := []) (cs := [_, _]) (f := 47) (sh := fun h => law03uDeltaTold_c3 _ _ _ h _) (H0 := H) rfl rfl Tryd.call47 rfl (hl := fun w m hr hw => lift_law03uDeltaTold_c3 _ _ _ w m hr _ hw)) ?_
    rintro _ _ ⟨v_12, h0u26, rfl, rfl, H⟩
    apply Stg.next [(15, _)] rfl rfl
    refine Stg.go [3, 5, 6] [4, 7] rfl rfl (QAll.cons (QOp.q rfl rfl (Quiet1.loadSP (i := 1) (l := [_, _, _, _, _, _]) hT rfl rfl rfl rfl rfl rfl rfl rfl) rfl rfl) (QAll.cons (QOp.p hT rfl rfl rfl rfl rfl) (QAll.cons (QOp.p hT rfl rfl rfl rfl rfl) QAll.nil))) ?_
    refine EAll.cons ?_ ?_
    ·
     replace H := H.self
     refine EOp.e rfl rfl rfl (EffX.call (f := 99) (sh := fun h => ref03uForm _ h _) (H0 := H) rfl Tryd.call99 rfl (hl := fun w m hr hw => lift_ref03uForm _ w m hr _ hw)) ?_
     rintro _ _ ⟨v_13, h0u28, rfl, rfl, H⟩
     apply Stg.next [(17, _)] rfl rfl
     refine Stg.go [5, 6] [7] rfl rfl (QAll.cons (QOp.p hT rfl rfl rfl rfl rfl) (QAll.cons (QOp.p hT rfl rfl rfl rfl rfl) QAll.nil)) ?_
     refine EAll.cons ?_ EAll.nil
     refine EOp.e rfl rfl rfl (EffX.allocP (cs := [_, _, _, _, _, _]) hT rfl rfl H) ?_
     rintro _ _ ⟨b_16, _, rfl, rfl, he16, H⟩
     apply Stg.next [(8, _)] rfl rfl
     refine Stg.go [5, 6] [9] rfl rfl (QAll.cons (QOp.p hT rfl rfl rfl rfl rfl) (QAll.cons (QOp.p hT rfl rfl rfl rfl rfl) QAll.nil)) ?_
     refine EAll.cons ?_ EAll.nil
     refine EOp.e rfl rfl rfl (EffX.storeSP (i := 0) (qv := [(_, [_, _, _, _, _, _]), (_, [_, _, _, _, _, _]), (_, [_, _, _, _, _, _])]) hT rfl rfl rfl rfl rfl rfl rfl rfl rfl rfl) ?_
     rintro _ _ rfl
     apply Stg.next [] rfl rfl
     refine Stg.go [5, 6] [10] rfl rfl (QAll.cons (QOp.p hT rfl rfl rfl rfl rfl) (QAll.cons (QOp.p hT rfl rfl rfl rfl rfl) QAll.nil)) ?_
     refine EAll.cons ?_ EAll.nil
     refine EOp.e rfl rfl rfl (EffX.storeSP (i := 1) (qv := [(_, [_, _, _, _, _, _]), (_, [_, _, _, _, _, _]), (_, [_, _, _, _, _, _])]) hT rfl rfl rfl rfl rfl rfl rfl rfl rfl rfl) ?_
     rintro _ _ rfl
     apply Stg.next [(10, _)] rfl rfl
     refine Stg.fin [5, 6, 11] rfl rfl (QAll.cons (QOp.p hT rfl rfl rfl rfl rfl) (QAll.cons (QOp.p hT rfl rfl rfl rfl rfl) (QAll.cons (QOp.p hT rfl rfl rfl rfl rfl) QAll.nil))) ?_
     replace H := H.self
     exact AtE.then_n ((HK1 _ (b_16, b_15) _ H).pickP (ts := [10, 8, 9, 7]) (is := [0, 1]) rfl rfl (by decide) rfl)
    refine EAll.cons ?_ EAll.nil
    refine EOp.e rfl rfl rfl (EffX.allocP (cs := [_, _, _, _, _, _]) hT rfl rfl H) ?_
    rintro _ _ ⟨b_17, _, rfl, rfl, he17, H⟩
    apply Stg.next [(8, _)] rfl rfl
    refine Stg.go [3, 5, 6] [4] rfl rfl (QAll.cons (QOp.q rfl rfl (Quiet1.loadSP (i := 2) (l := [_, _, _, _, _, _]) hT rfl rfl rfl rfl rfl rfl rfl rfl) rfl rfl) (QAll.cons (QOp.p hT rfl rfl rfl rfl rfl) (QAll.cons (QOp.p hT rfl rfl rfl rfl rfl) QAll.nil))) ?_
    refine EAll.cons ?_ EAll.nil
    replace H := H.self
    refine EOp.e rfl rfl rfl (EffX.call (f := 99) (sh := fun h => ref03uForm _ h _) (H0 := H) rfl Tryd.call99 rfl (hl := fun w m hr hw => lift_ref03uForm _ w m hr _ hw)) ?_
    rintro _ _ ⟨v_14, h0u30, rfl, rfl, H⟩
    apply Stg.next [(17, _)] rfl rfl
    refine Stg.go [5, 6] [9] rfl rfl (QAll.cons (QOp.p hT rfl rfl rfl rfl rfl) (QAll.cons (QOp.p hT rfl rfl rfl rfl rfl) QAll.nil)) ?_
    refine EAll.cons ?_ EAll.nil
    refine EOp.e rfl rfl rfl (EffX.storeSP (i := 0) (qv := [(_, [_, _, _, _, _, _]), (_, [_, _, _, _, _, _]), (_, [_, _, _, _, _, _])]) hT rfl rfl rfl rfl rfl rfl rfl rfl rfl rfl) ?_
    rintro _ _ rfl
    apply Stg.next [] rfl rfl
    refine Stg.go [5, 6] [10] rfl rfl (QAll.cons (QOp.p hT rfl rfl rfl rfl rfl) (QAll.cons (QOp.p hT rfl rfl rfl rfl rfl) QAll.nil)) ?_
    refine EAll.cons ?_ EAll.nil
    refine EOp.e rfl rfl rfl (EffX.storeSP (i := 1) (qv := [(_, [_, _, _, _, _, _]), (_, [_, _, _, _, _, _]), (_, [_, _, _, _, _, _])]) hT rfl rfl rfl rfl rfl rfl rfl rfl rfl rfl) ?_
    rintro _ _ rfl
    apply Stg.next [(10, _)] rfl rfl
    refine Stg.fin [5, 6, 11] rfl rfl (QAll.cons (QOp.p hT rfl rfl rfl rfl rfl) (QAll.cons (QOp.p hT rfl rfl rfl rfl rfl) (QAll.cons (QOp.p hT rfl rfl rfl rfl rfl) QAll.nil))) ?_
    replace H := H.self
    exact AtE.then_n ((HK1 _ (b_17, b_15) _ H).pickP (ts := [10, 8, 9, 7]) (is := [0, 1]) rfl rfl (by decide) rfl)
   refine EAll.cons ?_ EAll.nil
   refine EOp.e rfl rfl rfl (EffX.allocP (cs := [_, _, _, _, _, _]) hT rfl rfl H) ?_
   rintro _ _ ⟨b_18, _, rfl, rfl, he18, H⟩
   apply Stg.next [(8, _)] rfl rfl
   refine Stg.go [0, 1, 3, 5, 6] [2] rfl rfl (QAll.cons (QOp.p hT rfl rfl rfl rfl rfl) (QAll.cons (QOp.p hT rfl rfl rfl rfl rfl) (QAll.cons (QOp.q rfl rfl (Quiet1.loadSP (i := 2) (l := [_, _, _, _, _, _]) hT rfl rfl rfl rfl rfl rfl rfl rfl) rfl rfl) (QAll.cons (QOp.p hT rfl rfl rfl rfl rfl) (QAll.cons (QOp.p hT rfl rfl rfl rfl rfl) QAll.nil))))) ?_
   refine EAll.cons ?_ EAll.nil
   replace H := H.self
   refine EOp.e rfl rfl rfl (EffX.callF (bs := []) (cs := [_, _]) (f := 47) (sh := fun h => law03uDeltaTold_c3 _ _ _ h _) (H0 := H) rfl rfl Tryd.call47 rfl (hl := fun w m hr hw => lift_law03uDeltaTold_c3 _ _ _ w m hr _ hw)) ?_
   rintro _ _ ⟨v_15, h0u32, rfl, rfl, H⟩
   apply Stg.next [(15, _)] rfl rfl
   refine Stg.go [3, 5, 6] [4] rfl rfl (QAll.cons (QOp.q rfl rfl (Quiet1.loadSP (i := 2) (l := [_, _, _, _, _, _]) hT rfl rfl rfl rfl rfl rfl rfl rfl) rfl rfl) (QAll.cons (QOp.p hT rfl rfl rfl rfl rfl) (QAll.cons (QOp.p hT rfl rfl rfl rfl rfl) QAll.nil))) ?_
   refine EAll.cons ?_ EAll.nil
   replace H := H.self
   refine EOp.e rfl rfl rfl (EffX.call (f := 99) (sh := fun h => ref03uForm _ h _) (H0 := H) rfl Tryd.call99 rfl (hl := fun w m hr hw => lift_ref03uForm _ w m hr _ hw)) ?_
   rintro _ _ ⟨v_16, h0u34, rfl, rfl, H⟩
   apply Stg.next [(17, _)] rfl rfl
   refine Stg.go [5, 6] [9] rfl rfl (QAll.cons (QOp.p hT rfl rfl rfl rfl rfl) (QAll.cons (QOp.p hT rfl rfl rfl rfl rfl) QAll.nil)) ?_
   refine EAll.cons ?_ EAll.nil
   refine EOp.e rfl rfl rfl (EffX.storeSP (i := 0) (qv := [(_, [_, _, _, _, _, _]), (_, [_, _, _, _, _, _]), (_, [_, _, _, _, _, _])]) hT rfl rfl rfl rfl rfl rfl rfl rfl rfl rfl) ?_
   rintro _ _ rfl
   apply Stg.next [] rfl rfl
   refine Stg.go [5, 6] [10] rfl rfl (QAll.cons (QOp.p hT rfl rfl rfl rfl rfl) (QAll.cons (QOp.p hT rfl rfl rfl rfl rfl) QAll.nil)) ?_
   refine EAll.cons ?_ EAll.nil
   refine EOp.e rfl rfl rfl (EffX.storeSP (i := 1) (qv := [(_, [_, _, _, _, _, _]), (_, [_, _, _, _, _, _]), (_, [_, _, _, _, _, _])]) hT rfl rfl rfl rfl rfl rfl rfl rfl rfl rfl) ?_
   rintro _ _ rfl
   apply Stg.next [(10, _)] rfl rfl
   refine Stg.fin [5, 6, 11] rfl rfl (QAll.cons (QOp.p hT rfl rfl rfl rfl rfl) (QAll.cons (QOp.p hT rfl rfl rfl rfl rfl) (QAll.cons (QOp.p hT rfl rfl rfl rfl rfl) QAll.nil))) ?_
   replace H := H.self
   exact AtE.then_n ((HK1 _ (b_18, b_15) _ H).pickP (ts := [10, 8, 9, 7]) (is := [0, 1]) rfl rfl (by decide) rfl)

theorem lift_law03uDeltaTold (limbs : Int) (x0 : Bool × Sl × Sl × Bool × Sl × Sl) (y : Bool × Sl × Sl × Bool × Sl × Sl) (k : Bool × Sl × Sl) (w : World) (m : Heap) (hr : Rel ⟨m, []⟩ w.heap) (S : Bool → Heap → Prop) (H : law03uDeltaTold limbs x0 y k m S) :
    Calls Tryd.prog 6 #[Value.int .i64 limbs, Value.agg (C_bool_sl_sl_bool_sl_sl x0).toArray, Value.agg (C_bool_sl_sl_bool_sl_sl y).toArray, Value.agg (C_bool_sl_sl k).toArray] w (Post ⟨w, m⟩ Value.bool S) := by
  refine Calls.lift (args := [Value.int .i64 limbs, Value.agg (C_bool_sl_sl_bool_sl_sl x0).toArray, Value.agg (C_bool_sl_sl_bool_sl_sl y).toArray, Value.agg (C_bool_sl_sl k).toArray]) Tryd.func6 rfl Tryd.ntmps6 (Nat.le_of_ble_eq_true rfl) hr (law03uDeltaTold limbs x0 y k m S) H (fun H => ?_)
  refine AtC.pick (ts := [0, 1, 2, 3]) rfl ?_
  unfold law03uDeltaTold at H
  refine AtC.seqR ?_
  refine AtL.e rfl (EffX.box (cs := [_, _, _, _, _, _]) rfl rfl rfl H) ?_
  rintro _ _ ⟨x0u1, h0, rfl, rfl, H⟩
  refine AtL.e rfl (EffX.box (cs := [_, _, _, _, _, _]) rfl rfl rfl H) ?_
  rintro _ _ ⟨y_1, h0u1, rfl, rfl, H⟩
  refine AtL.e rfl (EffX.box (cs := [_, _, _]) rfl rfl rfl H) ?_
  rintro _ _ ⟨k_1, h0u2, rfl, rfl, H⟩
  refine AtL.pures hT 1 _ _ _ _ rfl ?_
  refine AtL.nil ?_
  refine AtE.then_n (AtE.go ?_)
  refine AtC.seq ?_
  refine AtC.seqR ?_
  refine AtL.e rfl (EffX.call (f := 37) (sh := fun h => law03uspeaks h _) (H0 := H) rfl Tryd.call37 rfl (hl := fun w m hr hw => lift_law03uspeaks  w m hr _ hw)) ?_
  rintro _ _ ⟨v, h0u3, rfl, rfl, H⟩
  refine AtL.pures hT 1 _ _ _ _ rfl ?_
  refine AtL.nil ?_
  refine AtE.then_n (AtE.go ?_)
  refine AtC.condB H rfl (fun H => ?_) (fun H => ?_)
  ·
   refine AtC.seqR ?_
   refine AtL.pures hT 1 _ _ _ _ rfl ?_
   refine AtL.nil ?_
   refine AtE.then_n (AtE.go ?_)
   refine AtC.ret ?_
   refine AtE.then_r ?_
   exact AtE.retN (rs := [.tmp 8]) rfl (ResAll.cons (ResAt.tmp rfl) ResAll.nil) rfl H
  ·
   refine AtC.skip ?_
   refine AtE.then_n (AtE.go ?_)
   refine AtC.seq ?_
   refine AtC.seqR ?_
   obtain ⟨v_1, hc0, H⟩ := H
   refine AtL.q rfl (Quiet1.loadS hT rfl rfl rfl rfl hc0) ?_
   obtain ⟨v_2, hc1, H⟩ := H
   refine AtL.q rfl (Quiet1.loadS hT rfl rfl rfl rfl hc1) ?_
   obtain ⟨v_3, hc2, H⟩ := H
   refine AtL.q rfl (Quiet1.loadS hT rfl rfl rfl rfl hc2) ?_
   refine AtL.q rfl (Quiet1.build (cs := [_, _, _, _, _, _]) hT rfl rfl rfl rfl rfl rfl) ?_
   refine AtLX.bs (hT := hT) (cs := [Value.bool v_1.1, Sl.toV v_1.2.1, Sl.toV v_1.2.2.1, Value.bool v_1.2.2.2.1, Sl.toV v_1.2.2.2.2.1, Sl.toV v_1.2.2.2.2.2, Value.bool v_2.1, Sl.toV v_2.2.1, Sl.toV v_2.2.2.1, Value.bool v_2.2.2.2.1, Sl.toV v_2.2.2.2.2.1, Sl.toV v_2.2.2.2.2.2, Value.bool v_3.1, Sl.toV v_3.2.1, Sl.toV v_3.2.2, Value.bool false, Sl.toV Sl.nil, Sl.toV Sl.nil]) H rfl rfl rfl rfl rfl rfl rfl (by kernel_rfl) rfl (fun a h0u4 H => ?_)
   refine AtL.e rfl (EffX.call (f := 38) (sh := fun h => law03uOdd _ h _) (H0 := H) rfl Tryd.call38 rfl (hl := fun w m hr hw => lift_law03uOdd _ w m hr _ hw)) ?_
   rintro _ _ ⟨v_5, h0u5, rfl, rfl, H⟩
   refine AtL.nil ?_
   refine AtE.then_n (AtE.go ?_)
   refine AtC.condB H rfl (fun H => ?_) (fun H => ?_)
   ·
    refine AtC.seqR ?_
    refine AtL.pures hT 1 _ _ _ _ rfl ?_
    refine AtL.nil ?_
    refine AtE.then_n (AtE.go ?_)
    refine AtC.ret ?_
    refine AtE.then_r ?_
    exact AtE.retN (rs := [.tmp 8]) rfl (ResAll.cons (ResAt.tmp rfl) ResAll.nil) rfl H
   ·
    refine AtC.skip ?_
    refine AtE.then_n (AtE.go ?_)
    refine AtC.joinSeq (β := Nat × Nat) (fun (t0 : Bool × Sl × Sl × Bool × Sl × Sl × Bool × Sl × Sl × Bool × Sl × Sl) (bb : Nat × Nat) => [(9, Value.pointer (some ⟨bb.1, 0, none⟩)), (10, Value.pointer (some ⟨bb.2, 0, none⟩))]) (fun (t0 : Bool × Sl × Sl × Bool × Sl × Sl × Bool × Sl × Sl × Bool × Sl × Sl) (bb : Nat × Nat) => [(bb.1, [Value.bool t0.1, Sl.toV t0.2.1, Sl.toV t0.2.2.1, Value.bool t0.2.2.2.1, Sl.toV t0.2.2.2.2.1, Sl.toV t0.2.2.2.2.2.1]), (bb.2, [Value.bool t0.2.2.2.2.2.2.1, Sl.toV t0.2.2.2.2.2.2.2.1, Sl.toV t0.2.2.2.2.2.2.2.2.1, Value.bool t0.2.2.2.2.2.2.2.2.2.1, Sl.toV t0.2.2.2.2.2.2.2.2.2.2.1, Sl.toV t0.2.2.2.2.2.2.2.2.2.2.2])]) [0, 5, 6, 7] [] H (by exact rfl) (by exact rfl) (fun t0 bb h0u6 H => ?_) (fun J4 H HK4 => ?_)
    ·
     refine AtC.joinSeq (β := Unit) (fun (t0u1 : Bool) (bb_1 : Unit) => [(8, Value.bool t0u1)]) (fun (t0u1 : Bool) (bb_1 : Unit) => []) [] [] H (by exact rfl) (by exact rfl) (fun t0u1 bb_1 h0u40 H => ?_) (fun J30 H HK30 => ?_)
     ·
      refine AtC.ret ?_
      exact AtE.retN (rs := [.tmp 8]) rfl (ResAll.cons (ResAt.tmp rfl) ResAll.nil) rfl H
     ·
      apply AtC.stages [4, 5, 11, 12, 13, 19, 21, 22, 27, 30, 35, 37, 42, 45] [[], [], [], [], [], [4], [4, 5], [4, 5], [4, 5], [4, 5], [4, 5], [4, 5], [4, 5, 11], [4, 5, 11, 12], [4, 5, 11, 12, 13], [4, 5, 11, 12, 13], [4, 5, 11, 12, 13], [4, 5, 11, 12, 13], [4, 5, 11, 12, 13], [4, 5, 11, 12, 13], [4, 5, 11, 12, 13], [4, 5, 11, 12, 13, 19], [4, 5, 11, 12, 13, 19, 21], [4, 5, 11, 12, 13, 19, 21, 22], [4, 5, 11, 12, 13, 19, 21, 22], [4, 5, 11, 12, 13, 19, 21, 22], [4, 5, 11, 12, 13, 19, 21, 22], [4, 5, 11, 12, 13, 19, 21, 22], [4, 5, 11, 12, 13, 19, 21, 22], [4, 5, 11, 12, 13, 19, 21, 22], [4, 5, 11, 12, 13, 19, 21, 22, 27], [4, 5, 11, 12, 13, 19, 21, 22, 27, 30], [4, 5, 11, 12, 13, 19, 21, 22, 27, 30], [4, 5, 11, 12, 13, 19, 21, 22, 27, 30], [4, 5, 11, 12, 13, 19, 21, 22, 27, 30], [4, 5, 11, 12, 13, 19, 21, 22, 27, 30], [4, 5, 11, 12, 13, 19, 21, 22, 27, 30], [4, 5, 11, 12, 13, 19, 21, 22, 27, 30, 35], [4, 5, 11, 12, 13, 19, 21, 22, 27, 30, 35, 37], [4, 5, 11, 12, 13, 19, 21, 22, 27, 30, 35, 37], [4, 5, 11, 12, 13, 19, 21, 22, 27, 30, 35, 37], [4, 5, 11, 12, 13, 19, 21, 22, 27, 30, 35, 37], [4, 5, 11, 12, 13, 19, 21, 22, 27, 30, 35, 37], [4, 5, 11, 12, 13, 19, 21, 22, 27, 30, 35, 37], [4, 5, 11, 12, 13, 19, 21, 22, 27, 30, 35, 37], [4, 5, 11, 12, 13, 19, 21, 22, 27, 30, 35, 37, 42], [4, 5, 11, 12, 13, 19, 21, 22, 27, 30, 35, 37, 42, 45], [4, 5, 11, 12, 13, 19, 21, 22, 27, 30, 35, 37, 42, 45]] [[], [], [], [], [2, 3], [0, 1, 2, 3, 4], [0, 1, 2, 3, 4, 5], [0, 1, 2, 3, 4, 5, 6], [0, 1, 2, 3, 4, 5, 6], [0, 1, 2, 3, 4, 5, 6], [0, 1, 2, 3, 4, 5, 6], [0, 1, 2, 3, 4, 5, 6, 10], [0, 1, 2, 3, 4, 5, 6, 9, 10, 11], [0, 1, 2, 3, 4, 5, 6, 7, 8, 9, 10, 11, 12], [0, 1, 2, 3, 4, 5, 6, 7, 8, 9, 10, 11, 12, 13], [0, 1, 2, 3, 4, 5, 6, 7, 8, 9, 10, 11, 12, 13, 14], [0, 1, 2, 3, 4, 5, 6, 7, 8, 9, 10, 11, 12, 13, 14, 15], [0, 1, 2, 3, 4, 5, 6, 7, 8, 9, 10, 11, 12, 13, 14, 15], [0, 1, 2, 3, 4, 5, 6, 7, 8, 9, 10, 11, 12, 13, 14, 15], [0, 1, 2, 3, 4, 5, 6, 7, 8, 9, 10, 11, 12, 13, 14, 15, 18], [0, 1, 2, 3, 4, 5, 6, 7, 8, 9, 10, 11, 12, 13, 14, 15], [0, 1, 2, 3, 4, 5, 6, 7, 8, 9, 10, 11, 12, 13, 14, 15, 18, 19, 20], [0, 1, 2, 3, 4, 5, 6, 7, 8, 9, 10, 11, 12, 13, 14, 15, 16, 17, 18, 19, 20, 21], [0, 1, 2, 3, 4, 5, 6, 7, 8, 9, 10, 11, 12, 13, 14, 15, 16, 17, 18, 19, 20, 21, 22], [0, 1, 2, 3, 4, 5, 6, 7, 8, 9, 10, 11, 12, 13, 14, 15, 16, 17, 18, 19, 20, 21, 22, 23], [0, 1, 2, 3, 4, 5, 6, 7, 8, 9, 10, 11, 12, 13, 14, 15, 16, 17, 18, 19, 20, 21, 22, 23, 24], [0, 1, 2, 3, 4, 5, 6, 7, 8, 9, 10, 11, 12, 13, 14, 15, 16, 17, 18, 19, 20, 21, 22, 23, 24], [0, 1, 2, 3, 4, 5, 6, 7, 8, 9, 10, 11, 12, 13, 14, 15, 16, 17, 18, 19, 20, 21, 22, 23, 24, 25, 26], [0, 1, 2, 3, 4, 5, 6, 7, 8, 9, 10, 11, 12, 13, 14, 15, 16, 17, 18, 19, 20, 21, 22, 23, 24], [0, 1, 2, 3, 4, 5, 6, 7, 8, 9, 10, 11, 12, 13, 14, 15, 16, 17, 18, 19, 20, 21, 22, 23, 24], [0, 1, 2, 3, 4, 5, 6, 7, 8, 9, 10, 11, 12, 13, 14, 15, 16, 17, 18, 19, 20, 21, 22, 23, 24, 25, 26, 27, 28, 29], [0, 1, 2, 3, 4, 5, 6, 7, 8, 9, 10, 11, 12, 13, 14, 15, 16, 17, 18, 19, 20, 21, 22, 23, 24, 25, 26, 27, 28, 29, 30], [0, 1, 2, 3, 4, 5, 6, 7, 8, 9, 10, 11, 12, 13, 14, 15, 16, 17, 18, 19, 20, 21, 22, 23, 24, 25, 26, 27, 28, 29, 30, 31], [0, 1, 2, 3, 4, 5, 6, 7, 8, 9, 10, 11, 12, 13, 14, 15, 16, 17, 18, 19, 20, 21, 22, 23, 24, 25, 26, 27, 28, 29, 30, 31, 32], [0, 1, 2, 3, 4, 5, 6, 7, 8, 9, 10, 11, 12, 13, 14, 15, 16, 17, 18, 19, 20, 21, 22, 23, 24, 25, 26, 27, 28, 29, 30, 31, 32, 33], [0, 1, 2, 3, 4, 5, 6, 7, 8, 9, 10, 11, 12, 13, 14, 15, 16, 17, 18, 19, 20, 21, 22, 23, 24, 25, 26, 27, 28, 29, 30, 31, 32, 33, 34], [0, 1, 2, 3, 4, 5, 6, 7, 8, 9, 10, 11, 12, 13, 14, 15, 16, 17, 18, 19, 20, 21, 22, 23, 24, 25, 26, 27, 28, 29, 30, 31, 32, 33], [0, 1, 2, 3, 4, 5, 6, 7, 8, 9, 10, 11, 12, 13, 14, 15, 16, 17, 18, 19, 20, 21, 22, 23, 24, 25, 26, 27, 28, 29, 30, 31, 32, 33, 34, 35, 36], [0, 1, 2, 3, 4, 5, 6, 7, 8, 9, 10, 11, 12, 13, 14, 15, 16, 17, 18, 19, 20, 21, 22, 23, 24, 25, 26, 27, 28, 29, 30, 31, 32, 33, 34, 35, 36, 37], [0, 1, 2, 3, 4, 5, 6, 7, 8, 9, 10, 11, 12, 13, 14, 15, 16, 17, 18, 19, 20, 21, 22, 23, 24, 25, 26, 27, 28, 29, 30, 31, 32, 33, 34, 35, 36, 37, 38], [0, 1, 2, 3, 4, 5, 6, 7, 8, 9, 10, 11, 12, 13, 14, 15, 16, 17, 18, 19, 20, 21, 22, 23, 24, 25, 26, 27, 28, 29, 30, 31, 32, 33, 34, 35, 36, 37, 38, 39], [0, 1, 2, 3, 4, 5, 6, 7, 8, 9, 10, 11, 12, 13, 14, 15, 16, 17, 18, 19, 20, 21, 22, 23, 24, 25, 26, 27, 28, 29, 30, 31, 32, 33, 34, 35, 36, 37, 38, 39, 40], [0, 1, 2, 3, 4, 5, 6, 7, 8, 9, 10, 11, 12, 13, 14, 15, 16, 17, 18, 19, 20, 21, 22, 23, 24, 25, 26, 27, 28, 29, 30, 31, 32, 33, 34, 35, 36, 37, 38, 39, 40, 41], [0, 1, 2, 3, 4, 5, 6, 7, 8, 9, 10, 11, 12, 13, 14, 15, 16, 17, 18, 19, 20, 21, 22, 23, 24, 25, 26, 27, 28, 29, 30, 31, 32, 33, 34, 35, 36, 37, 38, 39, 40], [0, 1, 2, 3, 4, 5, 6, 7, 8, 9, 10, 11, 12, 13, 14, 15, 16, 17, 18, 19, 20, 21, 22, 23, 24, 25, 26, 27, 28, 29, 30, 31, 32, 33, 34, 35, 36, 37, 38, 39, 40, 43], [0, 1, 2, 3, 4, 5, 6, 7, 8, 9, 10, 11, 12, 13, 14, 15, 16, 17, 18, 19, 20, 21, 22, 23, 24, 25, 26, 27, 28, 29, 30, 31, 32, 33, 34, 35, 36, 37, 38, 39, 40, 41, 42, 43, 44], [0, 1, 2, 3, 4, 5, 6, 7, 8, 9, 10, 11, 12, 13, 14, 15, 16, 17, 18, 19, 20, 21, 22, 23, 24, 25, 26, 27, 28, 29, 30, 31, 32, 33, 34, 35, 36, 37, 38, 39, 40, 41, 42, 43, 44, 45], [0, 1, 2, 3, 4, 5, 6, 7, 8, 9, 10, 11, 12, 13, 14, 15, 16, 17, 18, 19, 20, 21, 22, 23, 24, 25, 26, 27, 28, 29, 30, 31, 32, 33, 34, 35, 36, 37, 38, 39, 40, 41, 42, 43, 44, 45, 46]] hmix (by kernel_rfl) [(23, _), (24, _), (25, _), (26, _)] rfl 14 rfl
      refine Stg.go [0, 1, 2, 3] [4] rfl rfl (QAll.cons (QOp.p hT rfl rfl rfl rfl rfl) (QAll.cons (QOp.q rfl rfl (Quiet1.makeFn (bs := []) (cs := [_, _]) rfl rfl rfl) rfl rfl) (QAll.cons (QOp.q rfl rfl (Quiet1.loadSP (i := 0) (l := [_, _, _, _, _, _]) hT rfl rfl rfl rfl rfl rfl rfl rfl) rfl rfl) (QAll.cons (QOp.q rfl rfl (Quiet1.loadSP (i := 1) (l := [_, _, _, _, _, _]) hT rfl rfl rfl rfl rfl rfl rfl rfl) rfl rfl) QAll.nil)))) ?_
      refine EAll.cons ?_ EAll.nil
      refine EOp.e rfl rfl rfl (EffX.call (f := 43) (sh := fun h => ref03uAdd _ _ h _) (H0 := H) rfl Tryd.call43 rfl (hl := fun w m hr hw => lift_ref03uAdd _ _ w m hr _ hw)) ?_
      rintro _ _ ⟨v_24, h0u41, rfl, rfl, H⟩
      apply Stg.next [(27, _)] rfl rfl
      refine Stg.go [0, 1] [5] rfl rfl (QAll.cons (QOp.p hT rfl rfl rfl rfl rfl) (QAll.cons (QOp.q rfl rfl (Quiet1.makeFn (bs := []) (cs := [_, _]) rfl rfl rfl) rfl rfl) QAll.nil)) ?_
      refine EAll.cons ?_ EAll.nil
      refine EOp.e rfl rfl rfl (EffX.call (f := 40) (sh := fun h => law03utold__law03uDeltaTold_c1 _ _ _ _ h _) (H0 := H) rfl Tryd.call40 rfl (hl := fun w m hr hw => lift_law03utold__law03uDeltaTold_c1 _ _ _ _ w m hr _ hw)) ?_
      rintro _ _ ⟨v_25, h0u42, rfl, rfl, H⟩
      rcases iteB.cases H with ⟨hb30, H⟩ | ⟨hb30, H⟩
      ·
       apply Stg.next [(28, _), (29, _), (30, _), (31, _), (32, _), (33, _)] rfl rfl
       refine Stg.known (t := 29) rfl hb30 ?_
       refine Stg.go [6, 7, 8, 9, 10] [11] rfl rfl (QAll.cons (QOp.pk hT rfl rfl rfl rfl hb30 rfl) (QAll.cons (QOp.yp hT rfl rfl rfl rfl rfl rfl rfl) (QAll.cons (QOp.y rfl rfl rfl rfl (Quiet1.makeFn (bs := []) (cs := [_, _]) rfl rfl rfl) rfl rfl) (QAll.cons (QOp.y rfl rfl rfl rfl (Quiet1.loadSP (i := 0) (l := [_, _, _, _, _, _]) hT rfl rfl rfl rfl rfl rfl rfl rfl) rfl rfl) (QAll.cons (QOp.y rfl rfl rfl rfl (Quiet1.loadSP (i := 1) (l := [_, _, _, _, _, _]) hT rfl rfl rfl rfl rfl rfl rfl rfl) rfl rfl) QAll.nil))))) ?_
       refine EAll.cons ?_ EAll.nil
       refine EOp.y rfl rfl rfl rfl rfl (EffX.call (f := 46) (sh := fun h => ref03uNeg _ h _) (H0 := H) rfl Tryd.call46 rfl (hl := fun w m hr hw => lift_ref03uNeg _ w m hr _ hw)) ?_
       rintro _ _ ⟨v_26, h0u43, rfl, rfl, H⟩
       apply Stg.next [(34, _)] rfl rfl
       refine Stg.go [7, 8, 9] [12] rfl rfl (QAll.cons (QOp.yp hT rfl rfl rfl rfl rfl rfl rfl) (QAll.cons (QOp.y rfl rfl rfl rfl (Quiet1.makeFn (bs := []) (cs := [_, _]) rfl rfl rfl) rfl rfl) (QAll.cons (QOp.y rfl rfl rfl rfl (Quiet1.loadSP (i := 0) (l := [_, _, _, _, _, _]) hT rfl rfl rfl rfl rfl rfl rfl rfl) rfl rfl) QAll.nil))) ?_
       refine EAll.cons ?_ EAll.nil
       refine EOp.y rfl rfl rfl rfl rfl (EffX.call (f := 43) (sh := fun h => ref03uAdd _ _ h _) (H0 := H) rfl Tryd.call43 rfl (hl := fun w m hr hw => lift_ref03uAdd _ _ w m hr _ hw)) ?_
       rintro _ _ ⟨v_27, h0u44, rfl, rfl, H⟩
       apply Stg.next [(35, _)] rfl rfl
       refine Stg.go [7, 8] [13] rfl rfl (QAll.cons (QOp.yp hT rfl rfl rfl rfl rfl rfl rfl) (QAll.cons (QOp.y rfl rfl rfl rfl (Quiet1.makeFn (bs := []) (cs := [_, _]) rfl rfl rfl) rfl rfl) QAll.nil)) ?_
       refine EAll.cons ?_ EAll.nil
       refine EOp.y rfl rfl rfl rfl rfl (EffX.call (f := 40) (sh := fun h => law03utold__law03uDeltaTold_c2 _ _ _ _ h _) (H0 := H) rfl Tryd.call40 rfl (hl := fun w m hr hw => lift_law03utold__law03uDeltaTold_c2 _ _ _ _ w m hr _ hw)) ?_
       rintro _ _ ⟨v_28, h0u45, rfl, rfl, H⟩
       rcases iteB.cases H with ⟨hb31, H⟩ | ⟨hb31, H⟩
       ·
        obtain ⟨v_29, hc32, H⟩ := H
        apply Stg.next [(36, _), (37, _), (38, _), (39, _), (40, _), (41, _), (43, _)] rfl rfl
        refine Stg.known (t := 38) rfl hb31 ?_
        refine Stg.go [14, 15, 16, 17, 18, 20] [19] rfl rfl (QAll.cons (QOp.p hT rfl rfl rfl rfl rfl) (QAll.cons (QOp.pk hT rfl rfl rfl rfl hb31 rfl) (QAll.cons (QOp.yp hT rfl rfl rfl rfl rfl rfl rfl) (QAll.cons (QOp.y rfl rfl rfl rfl (Quiet1.makeFn (bs := []) (cs := [_, _]) rfl rfl rfl) rfl rfl) (QAll.cons (QOp.y rfl rfl rfl rfl (Quiet1.loadS hT rfl rfl rfl rfl hc32) rfl rfl) (QAll.cons (QOp.y rfl rfl rfl rfl (Quiet1.loadSP (i := 0) (l := [_, _, _, _, _, _]) hT rfl rfl rfl rfl rfl rfl rfl rfl) rfl rfl) QAll.nil)))))) ?_
        refine EAll.cons ?_ EAll.nil
        refine EOp.y rfl rfl rfl rfl rfl (EffX.call (f := 50) (sh := fun h => ref02uOf _ h _) (H0 := H) rfl Tryd.call50 rfl (hl := fun w m hr hw => lift_ref02uOf _ w m hr _ hw)) ?_
        rintro _ _ ⟨v_30, h0u46, rfl, rfl, H⟩
        apply Stg.next [(42, _)] rfl rfl
        refine Stg.go [16, 17, 20] [21] rfl rfl (QAll.cons (QOp.yp hT rfl rfl rfl rfl rfl rfl rfl) (QAll.cons (QOp.y rfl rfl rfl rfl (Quiet1.makeFn (bs := []) (cs := [_, _]) rfl rfl rfl) rfl rfl) (QAll.cons (QOp.y rfl rfl rfl rfl (Quiet1.loadSP (i := 0) (l := [_, _, _, _, _, _]) hT rfl rfl rfl rfl rfl rfl rfl rfl) rfl rfl) QAll.nil))) ?_
        refine EAll.cons ?_ EAll.nil
        refine EOp.y rfl rfl rfl rfl rfl (EffX.call (f := 49) (sh := fun h => ref03uScale _ _ h _) (H0 := H) rfl Tryd.call49 rfl (hl := fun w m hr hw => lift_ref03uScale _ _ w m hr _ hw)) ?_
        rintro _ _ ⟨v_31, h0u47, rfl, rfl, H⟩
        apply Stg.next [(44, _)] rfl rfl
        refine Stg.go [16, 17] [22] rfl rfl (QAll.cons (QOp.yp hT rfl rfl rfl rfl rfl rfl rfl) (QAll.cons (QOp.y rfl rfl rfl rfl (Quiet1.makeFn (bs := []) (cs := [_, _]) rfl rfl rfl) rfl rfl) QAll.nil)) ?_
        refine EAll.cons ?_ EAll.nil
        refine EOp.y rfl rfl rfl rfl rfl (EffX.call (f := 40) (sh := fun h => law03utold__law03uDeltaTold_c3 _ _ _ _ h _) (H0 := H) rfl Tryd.call40 rfl (hl := fun w m hr hw => lift_law03utold__law03uDeltaTold_c3 _ _ _ _ w m hr _ hw)) ?_
        rintro _ _ ⟨v_32, h0u48, rfl, rfl, H⟩
        rcases iteB.cases H with ⟨hb33, H⟩ | ⟨hb33, H⟩
        ·
         obtain ⟨v_33, hc34, H⟩ := H
         obtain ⟨v_34, hc35, H⟩ := H
         apply Stg.next [(45, _), (46, _), (47, _), (48, _), (49, _), (51, _), (52, _)] rfl rfl
         refine Stg.known (t := 47) rfl hb33 ?_
         refine Stg.go [23, 24, 25, 26, 28, 29] [27] rfl rfl (QAll.cons (QOp.p hT rfl rfl rfl rfl rfl) (QAll.cons (QOp.pk hT rfl rfl rfl rfl hb33 rfl) (QAll.cons (QOp.y rfl rfl rfl rfl (Quiet1.loadS hT rfl rfl rfl rfl hc34) rfl rfl) (QAll.cons (QOp.y rfl rfl rfl rfl (Quiet1.loadS hT rfl rfl rfl rfl hc35) rfl rfl) (QAll.cons (QOp.y rfl rfl rfl rfl (Quiet1.loadSP (i := 0) (l := [_, _, _, _, _, _]) hT rfl rfl rfl rfl rfl rfl rfl rfl) rfl rfl) (QAll.cons (QOp.y rfl rfl rfl rfl (Quiet1.loadSP (i := 1) (l := [_, _, _, _, _, _]) hT rfl rfl rfl rfl rfl rfl rfl rfl) rfl rfl) QAll.nil)))))) ?_
         refine EAll.cons ?_ EAll.nil
         refine EOp.y rfl rfl rfl rfl rfl (EffX.call (f := 51) (sh := fun h => delta_Cmp _ _ h _) (H0 := H) rfl Tryd.call51 rfl (hl := fun w m hr hw => lift_delta_Cmp _ _ w m hr _ hw)) ?_
         rintro _ _ ⟨v_35, h0u49, rfl, rfl, H⟩
         apply Stg.next [(50, _)] rfl rfl
         refine Stg.go [28, 29] [30] rfl rfl (QAll.cons (QOp.y rfl rfl rfl rfl (Quiet1.loadSP (i := 0) (l := [_, _, _, _, _, _]) hT rfl rfl rfl rfl rfl rfl rfl rfl) rfl rfl) (QAll.cons (QOp.y rfl rfl rfl rfl (Quiet1.loadSP (i := 1) (l := [_, _, _, _, _, _]) hT rfl rfl rfl rfl rfl rfl rfl rfl) rfl rfl) QAll.nil)) ?_
         refine EAll.cons ?_ EAll.nil
         refine EOp.y rfl rfl rfl rfl rfl (EffX.call (f := 52) (sh := fun h => ref03uCmp _ _ h _) (H0 := H) rfl Tryd.call52 rfl (hl := fun w m hr hw => lift_ref03uCmp _ _ w m hr _ hw)) ?_
         rintro _ _ ⟨v_36, h0u50, rfl, rfl, H⟩
         rcases iteB.cases H with ⟨hb36, H⟩ | ⟨hb36, H⟩
         ·
          obtain ⟨v_37, hc37, H⟩ := H
          apply Stg.next [(53, _), (54, _), (55, _), (56, _), (57, _), (59, _)] rfl rfl
          refine Stg.known (t := 56) rfl hb36 ?_
          refine Stg.go [31, 32, 33, 34, 36] [35] rfl rfl (QAll.cons (QOp.yp hT rfl rfl rfl rfl rfl rfl rfl) (QAll.cons (QOp.p hT rfl rfl rfl rfl rfl) (QAll.cons (QOp.pk hT rfl rfl rfl rfl hb36 rfl) (QAll.cons (QOp.y rfl rfl rfl rfl (Quiet1.loadS hT rfl rfl rfl rfl hc37) rfl rfl) (QAll.cons (QOp.y rfl rfl rfl rfl (Quiet1.loadSP (i := 0) (l := [_, _, _, _, _, _]) hT rfl rfl rfl rfl rfl rfl rfl rfl) rfl rfl) QAll.nil))))) ?_
          refine EAll.cons ?_ EAll.nil
          refine EOp.y rfl rfl rfl rfl rfl (EffX.call (f := 53) (sh := fun h => delta_Text _ h _) (H0 := H) rfl Tryd.call53 rfl (hl := fun w m hr hw => lift_delta_Text _ w m hr _ hw)) ?_
          rintro _ _ ⟨v_38, h0u51, rfl, rfl, H⟩
          apply Stg.next [(58, _)] rfl rfl
          refine Stg.go [36] [37] rfl rfl (QAll.cons (QOp.y rfl rfl rfl rfl (Quiet1.loadSP (i := 0) (l := [_, _, _, _, _, _]) hT rfl rfl rfl rfl rfl rfl rfl rfl) rfl rfl) QAll.nil) ?_
          refine EAll.cons ?_ EAll.nil
          refine EOp.y rfl rfl rfl rfl rfl (EffX.call (f := 54) (sh := fun h => ref03uText _ h _) (H0 := H) rfl Tryd.call54 rfl (hl := fun w m hr hw => lift_ref03uText _ w m hr _ hw)) ?_
          rintro _ _ ⟨v_39, h0u52, rfl, rfl, H⟩
          rcases iteB.cases H with ⟨hb38, H⟩ | ⟨hb38, H⟩
          ·
           obtain ⟨v_40, hc39, H⟩ := H
           obtain ⟨v_41, hc40, H⟩ := H
           apply Stg.next [(60, _), (61, _), (62, _), (63, _), (64, _), (66, _), (67, _)] rfl rfl
           refine Stg.known (t := 63) rfl hb38 ?_
           refine Stg.go [38, 39, 40, 41, 43, 44] [42] rfl rfl (QAll.cons (QOp.yp hT rfl rfl rfl rfl rfl rfl rfl) (QAll.cons (QOp.p hT rfl rfl rfl rfl rfl) (QAll.cons (QOp.pk hT rfl rfl rfl rfl hb38 rfl) (QAll.cons (QOp.y rfl rfl rfl rfl (Quiet1.loadS hT rfl rfl rfl rfl hc39) rfl rfl) (QAll.cons (QOp.y rfl rfl rfl rfl (Quiet1.loadS hT rfl rfl rfl rfl hc40) rfl rfl) (QAll.cons (QOp.y rfl rfl rfl rfl (Quiet1.build (cs := [_, _, _, _, _, _]) hT rfl rfl rfl rfl rfl rfl) rfl rfl) QAll.nil)))))) ?_
           refine EAll.cons ?_ EAll.nil
           refine EOp.y rfl rfl rfl rfl rfl (EffX.call (f := 56) (sh := fun h => delta_Of _ h _) (H0 := H) rfl Tryd.call56 rfl (hl := fun w m hr hw => lift_delta_Of _ w m hr _ hw)) ?_
           rintro _ _ ⟨v_42, h0u53, rfl, rfl, H⟩
           obtain ⟨hc41, H⟩ := H
           apply Stg.next [(65, _)] rfl rfl
           refine Stg.go [43, 44] [45] rfl rfl (QAll.cons (QOp.y rfl rfl rfl rfl (Quiet1.loadS hT rfl rfl rfl rfl hc41) rfl rfl) (QAll.cons (QOp.y rfl rfl rfl rfl (Quiet1.build (cs := [_, _, _, _, _, _]) hT rfl rfl rfl rfl rfl rfl) rfl rfl) QAll.nil)) ?_
           refine EAll.cons ?_ EAll.nil
           refine EOp.y rfl rfl rfl rfl rfl (EffX.call (f := 55) (sh := fun h => ref03uSame _ _ h _) (H0 := H) rfl Tryd.call55 rfl (hl := fun w m hr hw => lift_ref03uSame _ _ w m hr _ hw)) ?_
           rintro _ _ ⟨v_43, h0u54, rfl, rfl, H⟩
           apply Stg.next [(68, _), (69, _), (8, _)] rfl rfl
           refine Stg.fin [46, 47] rfl rfl (QAll.cons (QOp.p hT rfl rfl rfl rfl rfl) (QAll.cons (QOp.p hT rfl rfl rfl rfl rfl) QAll.nil)) ?_
           exact AtE.then_n ((HK30 _ () _ H).pickP (ts := [8]) (is := []) rfl rfl (by decide) rfl)
          ·
           apply Stg.next [(60, _), (61, _), (62, _), (63, _), (64, _), (66, _), (67, _)] rfl rfl
           refine Stg.known (t := 63) rfl hb38 ?_
           refine Stg.go [38, 39, 40, 41, 43, 44] [42] rfl rfl (QAll.cons (QOp.yp hT rfl rfl rfl rfl rfl rfl rfl) (QAll.cons (QOp.p hT rfl rfl rfl rfl rfl) (QAll.cons (QOp.pk hT rfl rfl rfl rfl hb38 rfl) (QAll.cons (QOp.no rfl rfl rfl rfl (by decide) rfl rfl) (QAll.cons (QOp.no rfl rfl rfl rfl (by decide) rfl rfl) (QAll.cons (QOp.no rfl rfl rfl rfl (by decide) rfl rfl) QAll.nil)))))) ?_
           refine EAll.cons ?_ EAll.nil
           refine EOp.no rfl rfl rfl rfl (by decide) rfl ?_
           apply Stg.next [(65, _)] rfl rfl
           refine Stg.go [43, 44] [45] rfl rfl (QAll.cons (QOp.no rfl rfl rfl rfl (by decide) rfl rfl) (QAll.cons (QOp.no rfl rfl rfl rfl (by decide) rfl rfl) QAll.nil)) ?_
           refine EAll.cons ?_ EAll.nil
           refine EOp.no rfl rfl rfl rfl (by decide) rfl ?_
           apply Stg.next [(68, _), (69, _), (8, _)] rfl rfl
           refine Stg.fin [46, 47] rfl rfl (QAll.cons (QOp.p hT rfl rfl rfl rfl rfl) (QAll.cons (QOp.p hT rfl rfl rfl rfl rfl) QAll.nil)) ?_
           exact AtE.then_n ((HK30 _ () _ H).pickP (ts := [8]) (is := []) rfl rfl (by decide) rfl)
         ·
          apply Stg.next [(53, _), (54, _), (55, _), (56, _), (57, _), (59, _)] rfl rfl
          refine Stg.known (t := 56) rfl hb36 ?_
          refine Stg.go [31, 32, 33, 34, 36] [35] rfl rfl (QAll.cons (QOp.yp hT rfl rfl rfl rfl rfl rfl rfl) (QAll.cons (QOp.p hT rfl rfl rfl rfl rfl) (QAll.cons (QOp.pk hT rfl rfl rfl rfl hb36 rfl) (QAll.cons (QOp.no rfl rfl rfl rfl (by decide) rfl rfl) (QAll.cons (QOp.no rfl rfl rfl rfl (by decide) rfl rfl) QAll.nil))))) ?_
          refine EAll.cons ?_ EAll.nil
          refine EOp.no rfl rfl rfl rfl (by decide) rfl ?_
          apply Stg.next [(58, _)] rfl rfl
          refine Stg.go [36] [37] rfl rfl (QAll.cons (QOp.no rfl rfl rfl rfl (by decide) rfl rfl) QAll.nil) ?_
          refine EAll.cons ?_ EAll.nil
          refine EOp.no rfl rfl rfl rfl (by decide) rfl ?_
          apply Stg.next [(60, _), (61, _), (62, _), (63, _), (64, _), (66, _), (67, _)] rfl rfl
          refine Stg.go [38, 39, 40, 41, 43, 44] [42] rfl rfl (QAll.cons (QOp.no rfl rfl rfl rfl (by decide) rfl rfl) (QAll.cons (QOp.p hT rfl rfl rfl rfl rfl) (QAll.cons (QOp.p hT rfl rfl rfl rfl rfl) (QAll.cons (QOp.no rfl rfl rfl rfl (by decide) rfl rfl) (QAll.cons (QOp.no rfl rfl rfl rfl (by decide) rfl rfl) (QAll.cons (QOp.no rfl rfl rfl rfl (by decide) rfl rfl) QAll.nil)))))) ?_
          refine EAll.cons ?_ EAll.nil
          refine EOp.no rfl rfl rfl rfl (by decide) rfl ?_
          apply Stg.next [(65, _)] rfl rfl
          refine Stg.go [43, 44] [45] rfl rfl (QAll.cons (QOp.no rfl rfl rfl rfl (by decide) rfl rfl) (QAll.cons (QOp.no rfl rfl rfl rfl (by decide) rfl rfl) QAll.nil)) ?_
          refine EAll.cons ?_ EAll.nil
          refine EOp.no rfl rfl rfl rfl (by decide) rfl ?_
          apply Stg.next [(68, _), (69, _), (8, _)] rfl rfl
          refine Stg.fin [46, 47] rfl rfl (QAll.cons (QOp.p hT rfl rfl rfl rfl rfl) (QAll.cons (QOp.p hT rfl rfl rfl rfl rfl) QAll.nil)) ?_
          exact AtE.then_n ((HK30 _ () _ H).pickP (ts := [8]) (is := []) rfl rfl (by decide) rfl)
        ·
         apply Stg.next [(45, _), (46, _), (47, _), (48, _), (49, _), (51, _), (52, _)] rfl rfl
         refine Stg.known (t := 47) rfl hb33 ?_
         refine Stg.go [23, 24, 25, 26, 28, 29] [27] rfl rfl (QAll.cons (QOp.p hT rfl rfl rfl rfl rfl) (QAll.cons (QOp.pk hT rfl rfl rfl rfl hb33 rfl) (QAll.cons (QOp.no rfl rfl rfl rfl (by decide) rfl rfl) (QAll.cons (QOp.no rfl rfl rfl rfl (by decide) rfl rfl) (QAll.cons (QOp.no rfl rfl rfl rfl (by decide) rfl rfl) (QAll.cons (QOp.no rfl rfl rfl rfl (by decide) rfl rfl) QAll.nil)))))) ?_
         refine EAll.cons ?_ EAll.nil
         refine EOp.no rfl rfl rfl rfl (by decide) rfl ?_
         apply Stg.next [(50, _)] rfl rfl
         refine Stg.go [28, 29] [30] rfl rfl (QAll.cons (QOp.no rfl rfl rfl rfl (by decide) rfl rfl) (QAll.cons (QOp.no rfl rfl rfl rfl (by decide) rfl rfl) QAll.nil)) ?_
         refine EAll.cons ?_ EAll.nil
         refine EOp.no rfl rfl rfl rfl (by decide) rfl ?_
         apply Stg.next [(53, _), (54, _), (55, _), (56, _), (57, _), (59, _)] rfl rfl
         refine Stg.go [31, 32, 33, 34, 36] [35] rfl rfl (QAll.cons (QOp.no rfl rfl rfl rfl (by decide) rfl rfl) (QAll.cons (QOp.p hT rfl rfl rfl rfl rfl) (QAll.cons (QOp.p hT rfl rfl rfl rfl rfl) (QAll.cons (QOp.no rfl rfl rfl rfl (by decide) rfl rfl) (QAll.cons (QOp.no rfl rfl rfl rfl (by decide) rfl rfl) QAll.nil))))) ?_
         refine EAll.cons ?_ EAll.nil
         refine EOp.no rfl rfl rfl rfl (by decide) rfl ?_
         apply Stg.next [(58, _)] rfl rfl
         refine Stg.go [36] [37] rfl rfl (QAll.cons (QOp.no rfl rfl rfl rfl (by decide) rfl rfl) QAll.nil) ?_
         refine EAll.cons ?_ EAll.nil
         refine EOp.no rfl rfl rfl rfl (by decide) rfl ?_
         apply Stg.next [(60, _), (61, _), (62, _), (63, _), (64, _), (66, _), (67, _)] rfl rfl
         refine Stg.go [38, 39, 40, 41, 43, 44] [42] rfl rfl (QAll.cons (QOp.no rfl rfl rfl rfl (by decide) rfl rfl) (QAll.cons (QOp.p hT rfl rfl rfl rfl rfl) (QAll.cons (QOp.p hT rfl rfl rfl rfl rfl) (QAll.cons (QOp.no rfl rfl rfl rfl (by decide) rfl rfl) (QAll.cons (QOp.no rfl rfl rfl rfl (by decide) rfl rfl) (QAll.cons (QOp.no rfl rfl rfl rfl (by decide) rfl rfl) QAll.nil)))))) ?_
         refine EAll.cons ?_ EAll.nil
         refine EOp.no rfl rfl rfl rfl (by decide) rfl ?_
         apply Stg.next [(65, _)] rfl rfl
         refine Stg.go [43, 44] [45] rfl rfl (QAll.cons (QOp.no rfl rfl rfl rfl (by decide) rfl rfl) (QAll.cons (QOp.no rfl rfl rfl rfl (by decide) rfl rfl) QAll.nil)) ?_
         refine EAll.cons ?_ EAll.nil
         refine EOp.no rfl rfl rfl rfl (by decide) rfl ?_
         apply Stg.next [(68, _), (69, _), (8, _)] rfl rfl
         refine Stg.fin [46, 47] rfl rfl (QAll.cons (QOp.p hT rfl rfl rfl rfl rfl) (QAll.cons (QOp.p hT rfl rfl rfl rfl rfl) QAll.nil)) ?_
         exact AtE.then_n ((HK30 _ () _ H).pickP (ts := [8]) (is := []) rfl rfl (by decide) rfl)
       ·
        apply Stg.next [(36, _), (37, _), (38, _), (39, _), (40, _), (41, _), (43, _)] rfl rfl
        refine Stg.known (t := 38) rfl hb31 ?_
        refine Stg.go [14, 15, 16, 17, 18, 20] [19] rfl rfl (QAll.cons (QOp.p hT rfl rfl rfl rfl rfl) (QAll.cons (QOp.pk hT rfl rfl rfl rfl hb31 rfl) (QAll.cons (QOp.no rfl rfl rfl rfl (by decide) rfl rfl) (QAll.cons (QOp.no rfl rfl rfl rfl (by decide) rfl rfl) (QAll.cons (QOp.no rfl rfl rfl rfl (by decide) rfl rfl) (QAll.cons (QOp.no rfl rfl rfl rfl (by decide) rfl rfl) QAll.nil)))))) ?_
        refine EAll.cons ?_ EAll.nil
        refine EOp.no rfl rfl rfl rfl (by decide) rfl ?_
        apply Stg.next [(42, _)] rfl rfl
        refine Stg.go [16, 17, 20] [21] rfl rfl (QAll.cons (QOp.no rfl rfl rfl rfl (by decide) rfl rfl) (QAll.cons (QOp.no rfl rfl rfl rfl (by decide) rfl rfl) (QAll.cons (QOp.no rfl rfl rfl rfl (by decide) rfl rfl) QAll.nil))) ?_
        refine EAll.cons ?_ EAll.nil
        refine EOp.no rfl rfl rfl rfl (by decide) rfl ?_
        apply Stg.next [(44, _)] rfl rfl
        refine Stg.go [16, 17] [22] rfl rfl (QAll.cons (QOp.no rfl rfl rfl rfl (by decide) rfl rfl) (QAll.cons (QOp.no rfl rfl rfl rfl (by decide) rfl rfl) QAll.nil)) ?_
        refine EAll.cons ?_ EAll.nil
        refine EOp.no rfl rfl rfl rfl (by decide) rfl ?_
        apply Stg.next [(45, _), (46, _), (47, _), (48, _), (49, _), (51, _), (52, _)] rfl rfl
        refine Stg.go [23, 24, 25, 26, 28, 29] [27] rfl rfl (QAll.cons (QOp.p hT rfl rfl rfl rfl rfl) (QAll.cons (QOp.p hT rfl rfl rfl rfl rfl) (QAll.cons (QOp.no rfl rfl rfl rfl (by decide) rfl rfl) (QAll.cons (QOp.no rfl rfl rfl rfl (by decide) rfl rfl) (QAll.cons (QOp.no rfl rfl rfl rfl (by decide) rfl rfl) (QAll.cons (QOp.no rfl rfl rfl rfl (by decide) rfl rfl) QAll.nil)))))) ?_
        refine EAll.cons ?_ EAll.nil
        refine EOp.no rfl rfl rfl rfl (by decide) rfl ?_
        apply Stg.next [(50, _)] rfl rfl
        refine Stg.go [28, 29] [30] rfl rfl (QAll.cons (QOp.no rfl rfl rfl rfl (by decide) rfl rfl) (QAll.cons (QOp.no rfl rfl rfl rfl (by decide) rfl rfl) QAll.nil)) ?_
        refine EAll.cons ?_ EAll.nil
        refine EOp.no rfl rfl rfl rfl (by decide) rfl ?_
        apply Stg.next [(53, _), (54, _), (55, _), (56, _), (57, _), (59, _)] rfl rfl
        refine Stg.go [31, 32, 33, 34, 36] [35] rfl rfl (QAll.cons (QOp.no rfl rfl rfl rfl (by decide) rfl rfl) (QAll.cons (QOp.p hT rfl rfl rfl rfl rfl) (QAll.cons (QOp.p hT rfl rfl rfl rfl rfl) (QAll.cons (QOp.no rfl rfl rfl rfl (by decide) rfl rfl) (QAll.cons (QOp.no rfl rfl rfl rfl (by decide) rfl rfl) QAll.nil))))) ?_
        refine EAll.cons ?_ EAll.nil
        refine EOp.no rfl rfl rfl rfl (by decide) rfl ?_
        apply Stg.next [(58, _)] rfl rfl
        refine Stg.go [36] [37] rfl rfl (QAll.cons (QOp.no rfl rfl rfl rfl (by decide) rfl rfl) QAll.nil) ?_
        refine EAll.cons ?_ EAll.nil
        refine EOp.no rfl rfl rfl rfl (by decide) rfl ?_
        apply Stg.next [(60, _), (61, _), (62, _), (63, _), (64, _), (66, _), (67, _)] rfl rfl
        refine Stg.go [38, 39, 40, 41, 43, 44] [42] rfl rfl (QAll.cons (QOp.no rfl rfl rfl rfl (by decide) rfl rfl) (QAll.cons (QOp.p hT rfl rfl rfl rfl rfl) (QAll.cons (QOp.p hT rfl rfl rfl rfl rfl) (QAll.cons (QOp.no rfl rfl rfl rfl (by decide) rfl rfl) (QAll.cons (QOp.no rfl rfl rfl rfl (by decide) rfl rfl) (QAll.cons (QOp.no rfl rfl rfl rfl (by decide) rfl rfl) QAll.nil)))))) ?_
        refine EAll.cons ?_ EAll.nil
        refine EOp.no rfl rfl rfl rfl (by decide) rfl ?_
        apply Stg.next [(65, _)] rfl rfl
        refine Stg.go [43, 44] [45] rfl rfl (QAll.cons (QOp.no rfl rfl rfl rfl (by decide) rfl rfl) (QAll.cons (QOp.no rfl rfl rfl rfl (by decide) rfl rfl) QAll.nil)) ?_
        refine EAll.cons ?_ EAll.nil
        refine EOp.no rfl rfl rfl rfl (by decide) rfl ?_
        apply Stg.next [(68, _), (69, _), (8, _)] rfl rfl
        refine Stg.fin [46, 47] rfl rfl (QAll.cons (QOp.p hT rfl rfl rfl rfl rfl) (QAll.cons (QOp.p hT rfl rfl rfl rfl rfl) QAll.nil)) ?_
        exact AtE.then_n ((HK30 _ () _ H).pickP (ts := [8]) (is := []) rfl rfl (by decide) rfl)
      ·
       apply Stg.next [(28, _), (29, _), (30, _), (31, _), (32, _), (33, _)] rfl rfl
       refine Stg.known (t := 29) rfl hb30 ?_
       refine Stg.go [6, 7, 8, 9, 10] [11] rfl rfl (QAll.cons (QOp.pk hT rfl rfl rfl rfl hb30 rfl) (QAll.cons (QOp.no rfl rfl rfl rfl (by decide) rfl rfl) (QAll.cons (QOp.no rfl rfl rfl rfl (by decide) rfl rfl) (QAll.cons (QOp.no rfl rfl rfl rfl (by decide) rfl rfl) (QAll.cons (QOp.no rfl rfl rfl rfl (by decide) rfl rfl) QAll.nil))))) ?_
       refine EAll.cons ?_ EAll.nil
       refine EOp.no rfl rfl rfl rfl (by decide) rfl ?_
       apply Stg.next [(34, _)] rfl rfl
       refine Stg.go [7, 8, 9] [12] rfl rfl (QAll.cons (QOp.no rfl rfl rfl rfl (by decide) rfl rfl) (QAll.cons (QOp.no rfl rfl rfl rfl (by decide) rfl rfl) (QAll.cons (QOp.no rfl rfl rfl rfl (by decide) rfl rfl) QAll.nil))) ?_
       refine EAll.cons ?_ EAll.nil
       refine EOp.no rfl rfl rfl rfl (by decide) rfl ?_
       apply Stg.next [(35, _)] rfl rfl
       refine Stg.go [7, 8] [13] rfl rfl (QAll.cons (QOp.no rfl rfl rfl rfl (by decide) rfl rfl) (QAll.cons (QOp.no rfl rfl rfl rfl (by decide) rfl rfl) QAll.nil)) ?_
       refine EAll.cons ?_ EAll.nil
       refine EOp.no rfl rfl rfl rfl (by decide) rfl ?_
       apply Stg.next [(36, _), (37, _), (38, _), (39, _), (40, _), (41, _), (43, _)] rfl rfl
       refine Stg.go [14, 15, 16, 17, 18, 20] [19] rfl rfl (QAll.cons (QOp.p hT rfl rfl rfl rfl rfl) (QAll.cons (QOp.p hT rfl rfl rfl rfl rfl) (QAll.cons (QOp.no rfl rfl rfl rfl (by decide) rfl rfl) (QAll.cons (QOp.no rfl rfl rfl rfl (by decide) rfl rfl) (QAll.cons (QOp.no rfl rfl rfl rfl (by decide) rfl rfl) (QAll.cons (QOp.no rfl rfl rfl rfl (by decide) rfl rfl) QAll.nil)))))) ?_
       refine EAll.cons ?_ EAll.nil
       refine EOp.no rfl rfl rfl rfl (by decide) rfl ?_
       apply Stg.next [(42, _)] rfl rfl
       refine Stg.go [16, 17, 20] [21] rfl rfl (QAll.cons (QOp.no rfl rfl rfl rfl (by decide) rfl rfl) (QAll.cons (QOp.no rfl rfl rfl rfl (by decide) rfl rfl) (QAll.cons (QOp.no rfl rfl rfl rfl (by decide) rfl rfl) QAll.nil))) ?_
       refine EAll.cons ?_ EAll.nil
       refine EOp.no rfl rfl rfl rfl (by decide) rfl ?_
       apply Stg.next [(44, _)] rfl rfl
       refine Stg.go [16, 17] [22] rfl rfl (QAll.cons (QOp.no rfl rfl rfl rfl (by decide) rfl rfl) (QAll.cons (QOp.no rfl rfl rfl rfl (by decide) rfl rfl) QAll.nil)) ?_
       refine EAll.cons ?_ EAll.nil
       refine EOp.no rfl rfl rfl rfl (by decide) rfl ?_
       apply Stg.next [(45, _), (46, _), (47, _), (48, _), (49, _), (51, _), (52, _)] rfl rfl
       refine Stg.go [23, 24, 25, 26, 28, 29] [27] rfl rfl (QAll.cons (QOp.p hT rfl rfl rfl rfl rfl) (QAll.cons (QOp.p hT rfl rfl rfl rfl rfl) (QAll.cons (QOp.no rfl rfl rfl rfl (by decide) rfl rfl) (QAll.cons (QOp.no rfl rfl rfl rfl (by decide) rfl rfl) (QAll.cons (QOp.no rfl rfl rfl rfl (by decide) rfl rfl) (QAll.cons (QOp.no rfl rfl rfl rfl (by decide) rfl rfl) QAll.nil)))))) ?_
       refine EAll.cons ?_ EAll.nil
       refine EOp.no rfl rfl rfl rfl (by decide) rfl ?_
       apply Stg.next [(50, _)] rfl rfl
       refine Stg.go [28, 29] [30] rfl rfl (QAll.cons (QOp.no rfl rfl rfl rfl (by decide) rfl rfl) (QAll.cons (QOp.no rfl rfl rfl rfl (by decide) rfl rfl) QAll.nil)) ?_
       refine EAll.cons ?_ EAll.nil
       refine EOp.no rfl rfl rfl rfl (by decide) rfl ?_
       apply Stg.next [(53, _), (54, _), (55, _), (56, _), (57, _), (59, _)] rfl rfl
       refine Stg.go [31, 32, 33, 34, 36] [35] rfl rfl (QAll.cons (QOp.no rfl rfl rfl rfl (by decide) rfl rfl) (QAll.cons (QOp.p hT rfl rfl rfl rfl rfl) (QAll.cons (QOp.p hT rfl rfl rfl rfl rfl) (QAll.cons (QOp.no rfl rfl rfl rfl (by decide) rfl rfl) (QAll.cons (QOp.no rfl rfl rfl rfl (by decide) rfl rfl) QAll.nil))))) ?_
       refine EAll.cons ?_ EAll.nil
       refine EOp.no rfl rfl rfl rfl (by decide) rfl ?_
       apply Stg.next [(58, _)] rfl rfl
       refine Stg.go [36] [37] rfl rfl (QAll.cons (QOp.no rfl rfl rfl rfl (by decide) rfl rfl) QAll.nil) ?_
       refine EAll.cons ?_ EAll.nil
       refine EOp.no rfl rfl rfl rfl (by decide) rfl ?_
       apply Stg.next [(60, _), (61, _), (62, _), (63, _), (64, _), (66, _), (67, _)] rfl rfl
       refine Stg.go [38, 39, 40, 41, 43, 44] [42] rfl rfl (QAll.cons (QOp.no rfl rfl rfl rfl (by decide) rfl rfl) (QAll.cons (QOp.p hT rfl rfl rfl rfl rfl) (QAll.cons (QOp.p hT rfl rfl rfl rfl rfl) (QAll.cons (QOp.no rfl rfl rfl rfl (by decide) rfl rfl) (QAll.cons (QOp.no rfl rfl rfl rfl (by decide) rfl rfl) (QAll.cons (QOp.no rfl rfl rfl rfl (by decide) rfl rfl) QAll.nil)))))) ?_
       refine EAll.cons ?_ EAll.nil
       refine EOp.no rfl rfl rfl rfl (by decide) rfl ?_
       apply Stg.next [(65, _)] rfl rfl
       refine Stg.go [43, 44] [45] rfl rfl (QAll.cons (QOp.no rfl rfl rfl rfl (by decide) rfl rfl) (QAll.cons (QOp.no rfl rfl rfl rfl (by decide) rfl rfl) QAll.nil)) ?_
       refine EAll.cons ?_ EAll.nil
       refine EOp.no rfl rfl rfl rfl (by decide) rfl ?_
       apply Stg.next [(68, _), (69, _), (8, _)] rfl rfl
       refine Stg.fin [46, 47] rfl rfl (QAll.cons (QOp.p hT rfl rfl rfl rfl rfl) (QAll.cons (QOp.p hT rfl rfl rfl rfl rfl) QAll.nil)) ?_
       exact AtE.then_n ((HK30 _ () _ H).pickP (ts := [8]) (is := []) rfl rfl (by decide) rfl)
    ·
     obtain ⟨v_6, hc4, H⟩ := H
     obtain ⟨v_7, hc5, H⟩ := H
     apply AtC.stages [1, 3, 4, 5, 6, 7] [[], [], [], [1], [], [], [1, 3, 4, 5], [1, 3, 4, 5, 6]] [[], [0], [], [0, 1, 2], [], [], [0, 1, 2, 3, 4, 5], [0, 1, 2, 3, 4, 5, 6]] hmix (by kernel_rfl) [(19, _), (21, _)] rfl 6 rfl
     refine Stg.go [0, 2] [1, 4, 5] rfl rfl (QAll.cons (QOp.q rfl rfl (Quiet1.loadS hT rfl rfl rfl rfl hc4) rfl rfl) (QAll.cons (QOp.q rfl rfl (Quiet1.loadS hT rfl rfl rfl rfl hc5) rfl rfl) QAll.nil)) ?_
     refine EAll.cons ?_ ?_
     ·
      replace H := H.self
      refine EOp.e rfl rfl rfl (EffX.call (f := 39) (sh := fun h => ref03uOf _ h _) (H0 := H) rfl Tryd.call39 rfl (hl := fun w m hr hw => lift_ref03uOf _ w m hr _ hw)) ?_
      rintro _ _ ⟨v_8, h0u8, rfl, rfl, H⟩
      obtain ⟨hc6, H⟩ := H
      apply Stg.next [(20, _)] rfl rfl
      refine Stg.go [2] [3, 4, 5] rfl rfl (QAll.cons (QOp.q rfl rfl (Quiet1.loadS hT rfl rfl rfl rfl hc6) rfl rfl) QAll.nil) ?_
      refine EAll.cons ?_ ?_
      ·
       replace H := H.self
       refine EOp.e rfl rfl rfl (EffX.call (f := 39) (sh := fun h => ref03uOf _ h _) (H0 := H) rfl Tryd.call39 rfl (hl := fun w m hr hw => lift_ref03uOf _ w m hr _ hw)) ?_
       rintro _ _ ⟨v_9, h0u10, rfl, rfl, H⟩
       apply Stg.next [(22, _)] rfl rfl
       refine Stg.go [] [4, 5] rfl rfl QAll.nil ?_
       refine EAll.cons ?_ ?_
       ·
        refine EOp.e rfl rfl rfl (EffX.allocP (cs := [_, _, _, _, _, _]) hT rfl rfl H) ?_
        rintro _ _ ⟨b, _, rfl, rfl, he7, H⟩
        apply Stg.next [(9, _)] rfl rfl
        refine Stg.go [] [5] rfl rfl QAll.nil ?_
        refine EAll.cons ?_ EAll.nil
        refine EOp.e rfl rfl rfl (EffX.allocP (cs := [_, _, _, _, _, _]) hT rfl rfl H) ?_
        rintro _ _ ⟨b_1, _, rfl, rfl, he8, H⟩
        apply Stg.next [(10, _)] rfl rfl
        refine Stg.go [] [6] rfl rfl QAll.nil ?_
        refine EAll.cons ?_ EAll.nil
        refine EOp.e rfl rfl rfl (EffX.storeSP (i := 1) (qv := [(_, [_, _, _, _, _, _]), (_, [_, _, _, _, _, _])]) hT rfl rfl rfl rfl rfl rfl rfl rfl rfl rfl) ?_
        rintro _ _ rfl
        apply Stg.next [] rfl rfl
        refine Stg.go [] [7] rfl rfl QAll.nil ?_
        refine EAll.cons ?_ EAll.nil
        refine EOp.e rfl rfl rfl (EffX.storeSP (i := 0) (qv := [(_, [_, _, _, _, _, _]), (_, [_, _, _, _, _, _])]) hT rfl rfl rfl rfl rfl rfl rfl rfl rfl rfl) ?_
        rintro _ _ rfl
        apply Stg.next [] rfl rfl
        refine Stg.fin [] rfl rfl QAll.nil ?_
        replace H := H.self
        exact AtE.then_n ((HK4 _ (b, b_1) _ H).pickP (ts := [9, 10, 0, 5, 6, 7]) (is := [1, 0]) rfl rfl (by decide) rfl)
       refine EAll.cons ?_ EAll.nil
       refine EOp.e rfl rfl rfl (EffX.allocP (cs := [_, _, _, _, _, _]) hT rfl rfl H) ?_
       rintro _ _ ⟨b_2, _, rfl, rfl, he9, H⟩
       apply Stg.next [(10, _)] rfl rfl
       refine Stg.go [] [4] rfl rfl QAll.nil ?_
       refine EAll.cons ?_ EAll.nil
       refine EOp.e rfl rfl rfl (EffX.allocP (cs := [_, _, _, _, _, _]) hT rfl rfl H) ?_
       rintro _ _ ⟨b_3, _, rfl, rfl, he10, H⟩
       apply Stg.next [(9, _)] rfl rfl
       refine Stg.go [] [6] rfl rfl QAll.nil ?_
       refine EAll.cons ?_ EAll.nil
       refine EOp.e rfl rfl rfl (EffX.storeSP (i := 0) (qv := [(_, [_, _, _, _, _, _]), (_, [_, _, _, _, _, _])]) hT rfl rfl rfl rfl rfl rfl rfl rfl rfl rfl) ?_
       rintro _ _ rfl
       apply Stg.next [] rfl rfl
       refine Stg.go [] [7] rfl rfl QAll.nil ?_
       refine EAll.cons ?_ EAll.nil
       refine EOp.e rfl rfl rfl (EffX.storeSP (i := 1) (qv := [(_, [_, _, _, _, _, _]), (_, [_, _, _, _, _, _])]) hT rfl rfl rfl rfl rfl rfl rfl rfl rfl rfl) ?_
       rintro _ _ rfl
       apply Stg.next [] rfl rfl
       refine Stg.fin [] rfl rfl QAll.nil ?_
       replace H := H.self
       exact AtE.then_n ((HK4 _ (b_3, b_2) _ H).pickP (ts := [9, 10, 0, 5, 6, 7]) (is := [0, 1]) rfl rfl (by decide) rfl)
      refine EAll.cons ?_ ?_
      ·
       refine EOp.e rfl rfl rfl (EffX.allocP (cs := [_, _, _, _, _, _]) hT rfl rfl H) ?_
       rintro _ _ ⟨b_4, _, rfl, rfl, he11, H⟩
       replace hc6 := he11.cells hc6
       apply Stg.next [(9, _)] rfl rfl
       refine Stg.go [2] [3, 5] rfl rfl (QAll.cons (QOp.q rfl rfl (Quiet1.loadS hT rfl rfl rfl rfl hc6) rfl rfl) QAll.nil) ?_
       refine EAll.cons ?_ ?_
       ·
        replace H := H.self
        refine EOp.e rfl rfl rfl (EffX.call (f := 39) (sh := fun h => ref03uOf _ h _) (H0 := H) rfl Tryd.call39 rfl (hl := fun w m hr hw => lift_ref03uOf _ w m hr _ hw)) ?_
        rintro _ _ ⟨v_10, h0u12, rfl, rfl, H⟩
        apply Stg.next [(22, _)] rfl rfl
        refine Stg.go [] [5] rfl rfl QAll.nil ?_
        refine EAll.cons ?_ EAll.nil
        refine EOp.e rfl rfl rfl (EffX.allocP (cs := [_, _, _, _, _, _]) hT rfl rfl H) ?_
        rintro _ _ ⟨b_5, _, rfl, rfl, he12, H⟩
        apply Stg.next [(10, _)] rfl rfl
        refine Stg.go [] [6] rfl rfl QAll.nil ?_
        refine EAll.cons ?_ EAll.nil
        refine EOp.e rfl rfl rfl (EffX.storeSP (i := 1) (qv := [(_, [_, _, _, _, _, _]), (_, [_, _, _, _, _, _])]) hT rfl rfl rfl rfl rfl rfl rfl rfl rfl rfl) ?_
        rintro _ _ rfl
        apply Stg.next [] rfl rfl
        refine Stg.go [] [7] rfl rfl QAll.nil ?_
        refine EAll.cons ?_ EAll.nil
        refine EOp.e rfl rfl rfl (EffX.storeSP (i := 0) (qv := [(_, [_, _, _, _, _, _]), (_, [_, _, _, _, _, _])]) hT rfl rfl rfl rfl rfl rfl rfl rfl rfl rfl) ?_
        rintro _ _ rfl
        apply Stg.next [] rfl rfl
        refine Stg.fin [] rfl rfl QAll.nil ?_
        replace H := H.self
        exact AtE.then_n ((HK4 _ (b_4, b_5) _ H).pickP (ts := [9, 10, 0, 5, 6, 7]) (is := [1, 0]) rfl rfl (by decide) rfl)
       refine EAll.cons ?_ EAll.nil
       refine EOp.e rfl rfl rfl (EffX.allocP (cs := [_, _, _, _, _, _]) hT rfl rfl H) ?_
       rintro _ _ ⟨b_6, _, rfl, rfl, he13, H⟩
       replace hc6 := he13.cells hc6
       apply Stg.next [(10, _)] rfl rfl
       refine Stg.go [2] [3] rfl rfl (QAll.cons (QOp.q rfl rfl (Quiet1.loadS hT rfl rfl rfl rfl hc6) rfl rfl) QAll.nil) ?_
       refine EAll.cons ?_ EAll.nil
       replace H := H.self
       refine EOp.e rfl rfl rfl (EffX.call (f := 39) (sh := fun h => ref03uOf _ h _) (H0 := H) rfl Tryd.call39 rfl (hl := fun w m hr hw => lift_ref03uOf _ w m hr _ hw)) ?_
       rintro _ _ ⟨v_11, h0u14, rfl, rfl, H⟩
       apply Stg.next [(22, _)] rfl rfl
       refine Stg.go [] [6] rfl rfl QAll.nil ?_
       refine EAll.cons ?_ EAll.nil
       refine EOp.e rfl rfl rfl (EffX.storeSP (i := 1) (qv := [(_, [_, _, _, _, _, _]), (_, [_, _, _, _, _, _])]) hT rfl rfl rfl rfl rfl rfl rfl rfl rfl rfl) ?_
       rintro _ _ rfl
       apply Stg.next [] rfl rfl
       refine Stg.go [] [7] rfl rfl QAll.nil ?_
       refine EAll.cons ?_ EAll.nil
       refine EOp.e rfl rfl rfl (EffX.storeSP (i := 0) (qv := [(_, [_, _, _, _, _, _]), (_, [_, _, _, _, _, _])]) hT rfl rfl rfl rfl rfl rfl rfl rfl rfl rfl) ?_
       rintro _ _ rfl
       apply Stg.next [] rfl rfl
       refine Stg.fin [] rfl rfl QAll.nil ?_
       replace H := H.self
       exact AtE.then_n ((HK4 _ (b_4, b_6) _ H).pickP (ts := [9, 10, 0, 5, 6, 7]) (is := [1, 0]) rfl rfl (by decide) rfl)
      refine EAll.cons ?_ EAll.nil
      refine EOp.e rfl rfl rfl (EffX.allocP (cs := [_, _, _, _, _, _]) hT rfl rfl H) ?_
      rintro _ _ ⟨b_7, _, rfl, rfl, he14, H⟩
      replace hc6 := he14.cells hc6
      apply Stg.next [(10, _)] rfl rfl
      refine Stg.go [2] [3, 4] rfl rfl (QAll.cons (QOp.q rfl rfl (Quiet1.loadS hT rfl rfl rfl rfl hc6) rfl rfl) QAll.nil) ?_
      refine EAll.cons ?_ ?_
      ·
       replace H := H.self
       refine EOp.e rfl rfl rfl (EffX.call (f := 39) (sh := fun h => ref03uOf _ h _) (H0 := H) rfl Tryd.call39 rfl (hl := fun w m hr hw => lift_ref03uOf _ w m hr _ hw)) ?_
       rintro _ _ ⟨v_12, h0u16, rfl, rfl, H⟩
       apply Stg.next [(22, _)] rfl rfl
       refine Stg.go [] [4] rfl rfl QAll.nil ?_
       refine EAll.cons ?_ EAll.nil
       refine EOp.e rfl rfl rfl (EffX.allocP (cs := [_, _, _, _, _, _]) hT rfl rfl H) ?_
       rintro _ _ ⟨b_8, _, rfl, rfl, he15, H⟩
       apply Stg.next [(9, _)] rfl rfl
       refine Stg.go [] [6] rfl rfl QAll.nil ?_
       refine EAll.cons ?_ EAll.nil
       refine EOp.e rfl rfl rfl (EffX.storeSP (i := 0) (qv := [(_, [_, _, _, _, _, _]), (_, [_, _, _, _, _, _])]) hT rfl rfl rfl rfl rfl rfl rfl rfl rfl rfl) ?_
       rintro _ _ rfl
       apply Stg.next [] rfl rfl
       refine Stg.go [] [7] rfl rfl QAll.nil ?_
       refine EAll.cons ?_ EAll.nil
       refine EOp.e rfl rfl rfl (EffX.storeSP (i := 1) (qv := [(_, [_, _, _, _, _, _]), (_, [_, _, _, _, _, _])]) hT rfl rfl rfl rfl rfl rfl rfl rfl rfl rfl) ?_
       rintro _ _ rfl
       apply Stg.next [] rfl rfl
       refine Stg.fin [] rfl rfl QAll.nil ?_
       replace H := H.self
       exact AtE.then_n ((HK4 _ (b_8, b_7) _ H).pickP (ts := [9, 10, 0, 5, 6, 7]) (is := [0, 1]) rfl rfl (by decide) rfl)
      refine EAll.cons ?_ EAll.nil
      refine EOp.e rfl rfl rfl (EffX.allocP (cs := [_, _, _, _, _, _]) hT rfl rfl H) ?_
      rintro _ _ ⟨b_9, _, rfl, rfl, he16, H⟩
      replace hc6 := he16.cells hc6
      apply Stg.next [(9, _)] rfl rfl
      refine Stg.go [2] [3] rfl rfl (QAll.cons (QOp.q rfl rfl (Quiet1.loadS hT rfl rfl rfl rfl hc6) rfl rfl) QAll.nil) ?_
      refine EAll.cons ?_ EAll.nil
      replace H := H.self
      refine EOp.e rfl rfl rfl (EffX.call (f := 39) (sh := fun h => ref03uOf _ h _) (H0 := H) rfl Tryd.call39 rfl (hl := fun w m hr hw => lift_ref03uOf _ w m hr _ hw)) ?_
      rintro _ _ ⟨v_13, h0u18, rfl, rfl, H⟩
      apply Stg.next [(22, _)] rfl rfl
      refine Stg.go [] [6] rfl rfl QAll.nil ?_
      refine EAll.cons ?_ EAll.nil
      refine EOp.e rfl rfl rfl (EffX.storeSP (i := 0) (qv := [(_, [_, _, _, _, _, _]), (_, [_, _, _, _, _, _])]) hT rfl rfl rfl rfl rfl rfl rfl rfl rfl rfl) ?_
      rintro _ _ rfl
      apply Stg.next [] rfl rfl
      refine Stg.go [] [7] rfl rfl QAll.nil ?_
      refine EAll.cons ?_ EAll.nil
      refine EOp.e rfl rfl rfl (EffX.storeSP (i := 1) (qv := [(_, [_, _, _, _, _, _]), (_, [_, _, _, _, _, _])]) hT rfl rfl rfl rfl rfl rfl rfl rfl rfl rfl) ?_
      rintro _ _ rfl
      apply Stg.next [] rfl rfl
      refine Stg.fin [] rfl rfl QAll.nil ?_
      replace H := H.self
      exact AtE.then_n ((HK4 _ (b_9, b_7) _ H).pickP (ts := [9, 10, 0, 5, 6, 7]) (is := [0, 1]) rfl rfl (by decide) rfl)
     refine EAll.cons ?_ ?_
     ·
      refine EOp.e rfl rfl rfl (EffX.allocP (cs := [_, _, _, _, _, _]) hT rfl rfl H) ?_
      rintro _ _ ⟨b_10, _, rfl, rfl, he17, H⟩
      replace hc4 := he17.cells hc4
      replace hc5 := he17.cells hc5
      apply Stg.next [(9, _)] rfl rfl
      refine Stg.go [0, 2] [1, 5] rfl rfl (QAll.cons (QOp.q rfl rfl (Quiet1.loadS hT rfl rfl rfl rfl hc4) rfl rfl) (QAll.cons (QOp.q rfl rfl (Quiet1.loadS hT rfl rfl rfl rfl hc5) rfl rfl) QAll.nil)) ?_
      refine EAll.cons ?_ ?_
      ·
       replace H := H.self
       refine EOp.e rfl rfl rfl (EffX.call (f := 39) (sh := fun h => ref03uOf _ h _) (H0 := H) rfl Tryd.call39 rfl (hl := fun w m hr hw => lift_ref03uOf _ w m hr _ hw)) ?_
       rintro _ _ ⟨v_14, h0u20, rfl, rfl, H⟩
       obtain ⟨hc18, H⟩ := H
       apply Stg.next [(20, _)] rfl rfl
       refine Stg.go [2] [3, 5] rfl rfl (QAll.cons (QOp.q rfl rfl (Quiet1.loadS hT rfl rfl rfl rfl hc18) rfl rfl) QAll.nil) ?_
       refine EAll.cons ?_ ?_
       ·
        replace H := H.self
        refine EOp.e rfl rfl rfl (EffX.call (f := 39) (sh := fun h => ref03uOf _ h _) (H0 := H) rfl Tryd.call39 rfl (hl := fun w m hr hw => lift_ref03uOf _ w m hr _ hw)) ?_
        rintro _ _ ⟨v_15, h0u22, rfl, rfl, H⟩
        apply Stg.next [(22, _)] rfl rfl
        refine Stg.go [] [5] rfl rfl QAll.nil ?_
        refine EAll.cons ?_ EAll.nil
        refine EOp.e rfl rfl rfl (EffX.allocP (cs := [_, _, _, _, _, _]) hT rfl rfl H) ?_
        rintro _ _ ⟨b_11, _, rfl, rfl, he19, H⟩
        apply Stg.next [(10, _)] rfl rfl
        refine Stg.go [] [6] rfl rfl QAll.nil ?_
        refine EAll.cons ?_ EAll.nil
        refine EOp.e rfl rfl rfl (EffX.storeSP (i := 1) (qv := [(_, [_, _, _, _, _, _]), (_, [_, _, _, _, _, _])]) hT rfl rfl rfl rfl rfl rfl rfl rfl rfl rfl) ?_
        rintro _ _ rfl
        apply Stg.next [] rfl rfl
        refine Stg.go [] [7] rfl rfl QAll.nil ?_
        refine EAll.cons ?_ EAll.nil
        refine EOp.e rfl rfl rfl (EffX.storeSP (i := 0) (qv := [(_, [_, _, _, _, _, _]), (_, [_, _, _, _, _, _])]) hT rfl rfl rfl rfl rfl rfl rfl rfl rfl rfl) ?_
        rintro _ _ rfl
        apply Stg.next [] rfl rfl
        refine Stg.fin [] rfl rfl QAll.nil ?_
        replace H := H.self
        exact AtE.then_n ((HK4 _ (b_10, b_11) _ H).pickP (ts := [9, 10, 0, 5, 6, 7]) (is := [1, 0]) rfl rfl (by decide) rfl)
       refine EAll.cons ?_ EAll.nil
       refine EOp.e rfl rfl rfl (EffX.allocP (cs := [_, _, _, _, _, _]) hT rfl rfl H) ?_
       rintro _ _ ⟨b_12, _, rfl, rfl, he20, H⟩
       replace hc18 := he20.cells hc18
       apply Stg.next [(10, _)] rfl rfl
       refine Stg.go [2] [3] rfl rfl (QAll.cons (QOp.q rfl rfl (Quiet1.loadS hT rfl rfl rfl rfl hc18) rfl rfl) QAll.nil) ?_
       refine EAll.cons ?_ EAll.nil
       replace H := H.self
       refine EOp.e rfl rfl rfl (EffX.call (f := 39) (sh := fun h => ref03uOf _ h _) (H0 := H) rfl Tryd.call39 rfl (hl := fun w m hr hw => lift_ref03uOf _ w m hr _ hw)) ?_
       rintro _ _ ⟨v_16, h0u24, rfl, rfl, H⟩
       apply Stg.next [(22, _)] rfl rfl
       refine Stg.go [] [6] rfl rfl QAll.nil ?_
       refine EAll.cons ?_ EAll.nil
       refine EOp.e rfl rfl rfl (EffX.storeSP (i := 1) (qv := [(_, [_, _, _, _, _, _]), (_, [_, _, _, _, _, _])]) hT rfl rfl rfl rfl rfl rfl rfl rfl rfl rfl) ?_
       rintro _ _ rfl
       apply Stg.next [] rfl rfl
       refine Stg.go [] [7] rfl rfl QAll.nil ?_
       refine EAll.cons ?_ EAll.nil
       refine EOp.e rfl rfl rfl (EffX.storeSP (i := 0) (qv := [(_, [_, _, _, _, _, _]), (_, [_, _, _, _, _, _])]) hT rfl rfl rfl rfl rfl rfl rfl rfl rfl rfl) ?_
       rintro _ _ rfl
       apply Stg.next [] rfl rfl
       refine Stg.fin [] rfl rfl QAll.nil ?_
       replace H := H.self
       exact AtE.then_n ((HK4 _ (b_10, b_12) _ H).pickP (ts := [9, 10, 0, 5, 6, 7]) (is := [1, 0]) rfl rfl (by decide) rfl)
      refine EAll.cons ?_ EAll.nil
      refine EOp.e rfl rfl rfl (EffX.allocP (cs := [_, _, _, _, _, _]) hT rfl rfl H) ?_
      rintro _ _ ⟨b_13, _, rfl, rfl, he21, H⟩
      replace hc4 := he21.cells hc4
      replace hc5 := he21.cells hc5
      apply Stg.next [(10, _)] rfl rfl
      refine Stg.go [0, 2] [1] rfl rfl (QAll.cons (QOp.q rfl rfl (Quiet1.loadS hT rfl rfl rfl rfl hc4) rfl rfl) (QAll.cons (QOp.q rfl rfl (Quiet1.loadS hT rfl rfl rfl rfl hc5) rfl rfl) QAll.nil)) ?_
      refine EAll.cons ?_ EAll.nil
      replace H := H.self
      refine EOp.e rfl rfl rfl (EffX.call (f := 39) (sh := fun h => ref03uOf _ h _) (H0 := H) rfl Tryd.call39 rfl (hl := fun w m hr hw => lift_ref03uOf _ w m hr _ hw)) ?_
      rintro _ _ ⟨v_17, h0u26, rfl, rfl, H⟩
      obtain ⟨hc22, H⟩ := H
      apply Stg.next [(20, _)] rfl rfl
      refine Stg.go [2] [3] rfl rfl (QAll.cons (QOp.q rfl rfl (Quiet1.loadS hT rfl rfl rfl rfl hc22) rfl rfl) QAll.nil) ?_
      refine EAll.cons ?_ EAll.nil
      replace H := H.self
      refine EOp.e rfl rfl rfl (EffX.call (f := 39) (sh := fun h => ref03uOf _ h _) (H0 := H) rfl Tryd.call39 rfl (hl := fun w m hr hw => lift_ref03uOf _ w m hr _ hw)) ?_
      rintro _ _ ⟨v_18, h0u28, rfl, rfl, H⟩
      apply Stg.next [(22, _)] rfl rfl
      refine Stg.go [] [6] rfl rfl QAll.nil ?_
      refine EAll.cons ?_ EAll.nil
      refine EOp.e rfl rfl rfl (EffX.storeSP (i := 1) (qv := [(_, [_, _, _, _, _, _]), (_, [_, _, _, _, _, _])]) hT rfl rfl rfl rfl rfl rfl rfl rfl rfl rfl) ?_
      rintro _ _ rfl
      apply Stg.next [] rfl rfl
      refine Stg.go [] [7] rfl rfl QAll.nil ?_
      refine EAll.cons ?_ EAll.nil
      refine EOp.e rfl rfl rfl (EffX.storeSP (i := 0) (qv := [(_, [_, _, _, _, _, _]), (_, [_, _, _, _, _, _])]) hT rfl rfl rfl rfl rfl rfl rfl rfl rfl rfl) ?_
      rintro _ _ rfl
      apply Stg.next [] rfl rfl
      refine Stg.fin [] rfl rfl QAll.nil ?_
      replace H := H.self
      exact AtE.then_n ((HK4 _ (b_10, b_13) _ H).pickP (ts := [9, 10, 0, 5, 6, 7]) (is := [1, 0]) rfl rfl (by decide) rfl)
     refine EAll.cons ?_ EAll.nil
     refine EOp.e rfl rfl rfl (EffX.allocP (cs := [_, _, _, _, _, _]) hT rfl rfl H) ?_
     rintro _ _ ⟨b_14, _, rfl, rfl, he23, H⟩
     replace hc4 := he23.cells hc4
     replace hc5 := he23.cells hc5
     apply Stg.next [(10, _)] rfl rfl
     refine Stg.go [0, 2] [1, 4] rfl rfl (QAll.cons (QOp.q rfl rfl (Quiet1.loadS hT rfl rfl rfl rfl hc4) rfl rfl) (QAll.cons (QOp.q rfl rfl (Quiet1.loadS hT rfl rfl rfl rfl hc5) rfl rfl) QAll.nil)) ?_
     refine EAll.cons ?_ ?_
     ·
      replace H := H.self
      refine EOp.e rfl rfl rfl (EffX.call (f := 39) (sh := fun h => ref03uOf _ h _) (H0 := H) rfl Tryd.call39 rfl (hl := fun w m hr hw => lift_ref03uOf _ w m hr _ hw)) ?_
      rintro _ _ ⟨v_19, h0u30, rfl, rfl, H⟩
      obtain ⟨hc24, H⟩ := H
      apply Stg.next [(20, _)] rfl rfl
      refine Stg.go [2] [3, 4] rfl rfl (QAll.cons (QOp.q rfl rfl (Quiet1.loadS hT rfl rfl rfl rfl hc24) rfl rfl) QAll.nil) ?_
      refine EAll.cons ?_ ?_
      ·
       replace H := H.self
       refine EOp.e rfl rfl rfl (EffX.call (f := 39) (sh := fun h => ref03uOf _ h _) (H0 := H) rfl Tryd.call39 rfl (hl := fun w m hr hw => lift_ref03uOf _ w m hr _ hw)) ?_
       rintro _ _ ⟨v_20, h0u32, rfl, rfl, H⟩
       apply Stg.next [(22, _)] rfl rfl
       refine Stg.go [] [4] rfl rfl QAll.nil ?_
       refine EAll.cons ?_ EAll.nil
       refine EOp.e rfl rfl rfl (EffX.allocP (cs := [_, _, _, _, _, _]) hT rfl rfl H) ?_
       rintro _ _ ⟨b_15, _, rfl, rfl, he25, H⟩
       apply Stg.next [(9, _)] rfl rfl
       refine Stg.go [] [6] rfl rfl QAll.nil ?_
       refine EAll.cons ?_ EAll.nil
       refine EOp.e rfl rfl rfl (EffX.storeSP (i := 0) (qv := [(_, [_, _, _, _, _, _]), (_, [_, _, _, _, _, _])]) hT rfl rfl rfl rfl rfl rfl rfl rfl rfl rfl) ?_
       rintro _ _ rfl
       apply Stg.next [] rfl rfl
       refine Stg.go [] [7] rfl rfl QAll.nil ?_
       refine EAll.cons ?_ EAll.nil
       refine EOp.e rfl rfl rfl (EffX.storeSP (i := 1) (qv := [(_, [_, _, _, _, _, _]), (_, [_, _, _, _, _, _])]) hT rfl rfl rfl rfl rfl rfl rfl rfl rfl rfl) ?_
       rintro _ _ rfl
       apply Stg.next [] rfl rfl
       refine Stg.fin [] rfl rfl QAll.nil ?_
       replace H := H.self
       exact AtE.then_n ((HK4 _ (b_15, b_14) _ H).pickP (ts := [9, 10, 0, 5, 6, 7]) (is := [0, 1]) rfl rfl (by decide) rfl)
      refine EAll.cons ?_ EAll.nil
      refine EOp.e rfl rfl rfl (EffX.allocP (cs := [_, _, _, _, _, _]) hT rfl rfl H) ?_
      rintro _ _ ⟨b_16, _, rfl, rfl, he26, H⟩
      replace hc24 := he26.cells hc24
      apply Stg.next [(9, _)] rfl rfl
      refine Stg.go [2] [3] rfl rfl (QAll.cons (QOp.q rfl rfl (Quiet1.loadS hT rfl rfl rfl rfl hc24) rfl rfl) QAll.nil) ?_
      refine EAll.cons ?_ EAll.nil
      replace H := H.self
      refine EOp.e rfl rfl rfl (EffX.call (f := 39) (sh := fun h => ref03uOf _ h _) (H0 := H) rfl Tryd.call39 rfl (hl := fun w m hr hw => lift_ref03uOf _ w m hr _ hw)) ?_
      rintro _ _ ⟨v_21, h0u34, rfl, rfl, H⟩
      apply Stg.next [(22, _)] rfl rfl
      refine Stg.go [] [6] rfl rfl QAll.nil ?_
      refine EAll.cons ?_ EAll.nil
      refine EOp.e rfl rfl rfl (EffX.storeSP (i := 0) (qv := [(_, [_, _, _, _, _, _]), (_, [_, _, _, _, _, _])]) hT rfl rfl rfl rfl rfl rfl rfl rfl rfl rfl) ?_
      rintro _ _ rfl
      apply Stg.next [] rfl rfl
      refine Stg.go [] [7] rfl rfl QAll.nil ?_
      refine EAll.cons ?_ EAll.nil
      refine EOp.e rfl rfl rfl (EffX.storeSP (i := 1) (qv := [(_, [_, _, _, _, _, _]), (_, [_, _, _, _, _, _])]) hT rfl rfl rfl rfl rfl rfl rfl rfl rfl rfl) ?_
      rintro _ _ rfl
      apply Stg.next [] rfl rfl
      refine Stg.fin [] rfl rfl QAll.nil ?_
      replace H := H.self
      exact AtE.then_n ((HK4 _ (b_16, b_14) _ H).pickP (ts := [9, 10, 0, 5, 6, 7]) (is := [0, 1]) rfl rfl (by decide) rfl)
     refine EAll.cons ?_ EAll.nil
     refine EOp.e rfl rfl rfl (EffX.allocP (cs := [_, _, _, _, _, _]) hT rfl rfl H) ?_
     rintro _ _ ⟨b_17, _, rfl, rfl, he27, H⟩
     replace hc4 := he27.cells hc4
     replace hc5 := he27.cells hc5
     apply Stg.next [(9, _)] rfl rfl
     refine Stg.go [0, 2] [1] rfl rfl (QAll.cons (QOp.q rfl rfl (Quiet1.loadS hT rfl rfl rfl rfl hc4) rfl rfl) (QAll.cons (QOp.q rfl rfl (Quiet1.loadS hT rfl rfl rfl rfl hc5) rfl rfl) QAll.nil)) ?_
     refine EAll.cons ?_ EAll.nil
     replace H := H.self
     refine EOp.e rfl rfl rfl (EffX.call (f := 39) (sh := fun h => ref03uOf _ h _) (H0 := H) rfl Tryd.call39 rfl (hl := fun w m hr hw => lift_ref03uOf _ w m hr _ hw)) ?_
     rintro _ _ ⟨v_22, h0u36, rfl, rfl, H⟩
     obtain ⟨hc28, H⟩ := H
     apply Stg.next [(20, _)] rfl rfl
     refine Stg.go [2] [3] rfl rfl (QAll.cons (QOp.q rfl rfl (Quiet1.loadS hT rfl rfl rfl rfl hc28) rfl rfl) QAll.nil) ?_
     refine EAll.cons ?_ EAll.nil
     replace H := H.self
     refine EOp.e rfl rfl rfl (EffX.call (f := 39) (sh := fun h => ref03uOf _ h _) (H0 := H) rfl Tryd.call39 rfl (hl := fun w m hr hw => lift_ref03uOf _ w m hr _ hw)) ?_
     rintro _ _ ⟨v_23, h0u38, rfl, rfl, H⟩
     apply Stg.next [(22, _)] rfl rfl
     refine Stg.go [] [6] rfl rfl QAll.nil ?_
     refine EAll.cons ?_ EAll.nil
     refine EOp.e rfl rfl rfl (EffX.storeSP (i := 0) (qv := [(_, [_, _, _, _, _, _]), (_, [_, _, _, _, _, _])]) hT rfl rfl rfl rfl rfl rfl rfl rfl rfl rfl) ?_
     rintro _ _ rfl
     apply Stg.next [] rfl rfl
     refine Stg.go [] [7] rfl rfl QAll.nil ?_
     refine EAll.cons ?_ EAll.nil
     refine EOp.e rfl rfl rfl (EffX.storeSP (i := 1) (qv := [(_, [_, _, _, _, _, _]), (_, [_, _, _, _, _, _])]) hT rfl rfl rfl rfl rfl rfl rfl rfl rfl rfl) ?_
     rintro _ _ rfl
     apply Stg.next [] rfl rfl
     refine Stg.fin [] rfl rfl QAll.nil ?_
     replace H := H.self
     exact AtE.then_n ((HK4 _ (b_17, b_14) _ H).pickP (ts := [9, 10, 0, 5, 6, 7]) (is := [0, 1]) rfl rfl (by decide) rfl)
end Go.Proofs.YtdcdidecehbplaaDoor

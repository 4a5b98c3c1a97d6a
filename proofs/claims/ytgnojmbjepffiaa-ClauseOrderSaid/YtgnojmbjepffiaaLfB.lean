/-
  The deep code does what the functions of the shallow text say: printed by lift.py.
-/
import Derived.Test.YtgnojmbjepffiaaLfA
set_option linter.unusedVariables false
set_option linter.unusedSimpArgs false
namespace Go.Proofs.Ytgnojmbjepffiaa
open Go Go.Lift Go.Sh
set_option maxRecDepth 100000
set_option maxHeartbeats 40000000
attribute [local irreducible] Calls AtL AtC AtE AtD Eff Quiet1 Stg qAt QAll eAt EAll nextK Code.wp


theorem lift_clause_Tell (s0 : (Option Addr)) (lit : Int) (reason : Int) (w : World) (m : Heap) (hr : Rel ⟨m, []⟩ w.heap) (S : Bool → Heap → Prop) (H : clause_Tell s0 lit reason m S) :
    Calls Try.prog 12 #[Value.pointer s0, Value.int .i64 lit, Value.int .i64 reason] w (Post ⟨w, m⟩ Value.bool S) := by
  refine Calls.lift (args := [Value.pointer s0, Value.int .i64 lit, Value.int .i64 reason]) Try.func12 rfl Try.ntmps12 (Nat.le_of_ble_eq_true rfl) hr (clause_Tell s0 lit reason m S) H (fun H => ?_)
  refine AtC.pick (ts := [0, 1, 2]) rfl ?_
  unfold clause_Tell at H
  refine AtC.seqR ?_
  refine AtL.pures hT 1 _ _ _ _ rfl ?_
  refine AtL.nil ?_
  refine AtE.then_n (AtE.go ?_)
  refine AtC.joinSeq (β := Unit) (fun (t0 : Unit) (bb : Unit) => []) (fun (t0 : Unit) (bb : Unit) => []) [] [] H (by exact rfl) (by exact rfl) (fun t0 bb h0 H => ?_) (fun J1 H HK1 => ?_)
  ·
   refine AtC.seqR ?_
   refine AtL.pures hT 1 _ _ _ _ rfl ?_
   refine AtL.nil ?_
   refine AtE.then_n (AtE.go ?_)
   refine AtC.ret ?_
   exact AtE.retN (rs := [.tmp 6]) rfl (ResAll.cons (ResAt.tmp rfl) ResAll.nil) rfl H
  ·
   refine AtC.block ?_
   refine AtC.joinSeq (β := Unit) (fun (t0u1 : Bool) (bb_1 : Unit) => [(7, Value.bool t0u1)]) (fun (t0u1 : Bool) (bb_1 : Unit) => []) [0, 1, 2] [] H (by exact rfl) (by exact rfl) (fun t0u1 bb_1 h0u1 H => ?_) (fun J2 H HK2 => ?_)
   ·
    refine AtC.condB H rfl (fun H => ?_) (fun H => ?_)
    ·
     refine AtC.seqR ?_
     refine AtL.pures hT 1 _ _ _ _ rfl ?_
     refine AtL.nil ?_
     refine AtE.then_n (AtE.go ?_)
     refine AtC.ret ?_
     refine AtE.blk_r ?_
     refine AtE.then_r ?_
     exact AtE.retN (rs := [.tmp 6]) rfl (ResAll.cons (ResAt.tmp rfl) ResAll.nil) rfl H
    ·
     refine AtC.seqR ?_
     refine AtL.pures hT 1 _ _ _ _ rfl ?_
     obtain ⟨a_1, hc4, H⟩ := H
     refine AtL.q rfl (Quiet1.nilChk rfl rfl hc4) ?_
     obtain ⟨v_3, hc5, H⟩ := H
     refine AtL.q rfl (Quiet1.loadS hT rfl rfl rfl rfl hc5) ?_
     refine AtL.pures hT 1 _ _ _ _ rfl ?_
     refine AtL.e rfl (EffX.call (f := 31) (sh := fun h => clause_Value _ _ h _) (H0 := H) rfl Try.call31 rfl (hl := fun w m hr hw => lift_clause_Value _ _ w m hr _ hw)) ?_
     rintro _ _ ⟨v_4, h0u4, rfl, rfl, H⟩
     refine AtL.pures hT 2 _ _ _ _ rfl ?_
     refine AtL.nil ?_
     refine AtE.then_n (AtE.go ?_)
     refine AtC.condB H rfl (fun H => ?_) (fun H => ?_)
     ·
      refine AtC.region ?_
      refine AtL.pures hT 3 _ _ _ _ rfl ?_
      refine AtL.e rfl (EffX.call (f := 36) (sh := fun h => clause_put _ _ _ h _) (H0 := H) rfl Try.call36 rfl (hl := fun w m hr hw => lift_clause_put _ _ _ w m hr _ hw)) ?_
      rintro _ _ ⟨v_5, h0u5, rfl, rfl, H⟩
      refine AtL.nil ?_
      refine AtE.blk_n ?_
      exact AtE.then_n ((HK1 _ () _ H).pickP (ts := []) (is := []) rfl rfl (by decide) rfl)
     ·
      refine AtC.skip ?_
      refine AtE.blk_n ?_
      exact AtE.then_n ((HK1 _ () _ H).pickP (ts := []) (is := []) rfl rfl (by decide) rfl)
   ·
    refine AtC.region ?_
    refine AtL.pures hT 2 _ _ _ _ rfl ?_
    refine AtL.e rfl (EffX.call (f := 35) (sh := fun h => clause_there _ _ h _) (H0 := H) rfl Try.call35 rfl (hl := fun w m hr hw => lift_clause_there _ _ w m hr _ hw)) ?_
    rintro _ _ ⟨v, h0u2, rfl, rfl, H⟩
    refine AtL.pures hT 2 _ _ _ _ rfl ?_
    refine AtL.splitB (t := 12) H rfl (fun H => ?_) (fun H => ?_)
    ·
     refine AtL.noF rfl rfl rfl (by decide) rfl ?_
     refine AtL.noF rfl rfl rfl (by decide) rfl ?_
     refine AtL.noF rfl rfl rfl (by decide) rfl ?_
     refine AtL.noF rfl rfl rfl (by decide) rfl ?_
     refine AtL.noF rfl rfl rfl (by decide) rfl ?_
     refine AtL.noF rfl rfl rfl (by decide) rfl ?_
     refine AtL.pures hT 2 _ _ _ _ rfl ?_
     refine AtL.nil ?_
     exact AtE.then_n ((HK2 _ () _ H).pickP (ts := [7, 0, 1, 2]) (is := []) rfl rfl (by decide) rfl)
    ·
     refine AtL.yes rfl rfl rfl ?_
     refine AtL.pures hT 1 _ _ _ _ rfl ?_
     refine AtL.yes rfl rfl rfl ?_
     obtain ⟨a, hc2, H⟩ := H
     refine AtL.q rfl (Quiet1.nilChk rfl rfl hc2) ?_
     refine AtL.yes rfl rfl rfl ?_
     obtain ⟨v_1, hc3, H⟩ := H
     refine AtL.q rfl (Quiet1.loadS hT rfl rfl rfl rfl hc3) ?_
     refine AtL.yes rfl rfl rfl ?_
     refine AtL.pures hT 1 _ _ _ _ rfl ?_
     refine AtL.yes rfl rfl rfl ?_
     refine AtL.e rfl (EffX.call (f := 31) (sh := fun h => clause_Value _ _ h _) (H0 := H) rfl Try.call31 rfl (hl := fun w m hr hw => lift_clause_Value _ _ w m hr _ hw)) ?_
     rintro _ _ ⟨v_2, h0u3, rfl, rfl, H⟩
     refine AtL.yes rfl rfl rfl ?_
     refine AtL.pures hT 1 _ _ _ _ rfl ?_
     refine AtL.pures hT 2 _ _ _ _ rfl ?_
     refine AtL.nil ?_
     exact AtE.then_n ((HK2 _ () _ H).pickP (ts := [7, 0, 1, 2]) (is := []) rfl rfl (by decide) rfl)

theorem lift_clause_ask (s0 : (Option Addr)) (at0 : Int) (gone : Int) (w : World) (m : Heap) (hr : Rel ⟨m, []⟩ w.heap) (S : Int → Heap → Prop) (H : clause_ask s0 at0 gone m S) :
    Calls Try.prog 38 #[Value.pointer s0, Value.int .i64 at0, Value.int .i64 gone] w (Post ⟨w, m⟩ (Value.int .i64) S) := by
  refine Calls.lift (args := [Value.pointer s0, Value.int .i64 at0, Value.int .i64 gone]) Try.func38 rfl Try.ntmps38 (Nat.le_of_ble_eq_true rfl) hr (clause_ask s0 at0 gone m S) H (fun H => ?_)
  refine AtC.pick (ts := [0, 1, 2]) rfl ?_
  unfold clause_ask at H
  refine AtC.seqR ?_
  refine AtL.pures hT 1 _ _ _ _ rfl ?_
  refine AtL.nil ?_
  refine AtE.then_n (AtE.go ?_)
  refine AtC.seqR ?_
  refine AtL.pures hT 1 _ _ _ _ rfl ?_
  obtain ⟨a, hc0, H⟩ := H
  refine AtL.q rfl (Quiet1.nilChk rfl rfl hc0) ?_
  refine AtL.pures hT 1 _ _ _ _ rfl ?_
  obtain ⟨v, hc1, H⟩ := H
  refine AtL.q rfl (Quiet1.load hT rfl rfl rfl hc1) ?_
  refine AtL.pures hT 1 _ _ _ _ rfl ?_
  obtain ⟨a_1_, hc2, hd2, H⟩ := H
  refine AtL.q rfl (Quiet1.idxS (s := _) hT rfl rfl rfl rfl rfl hc2 hd2) ?_
  refine AtL.pures hT 1 _ _ _ _ rfl ?_
  obtain ⟨v_1, hc3, H⟩ := H
  refine AtL.q rfl (Quiet1.load hT rfl rfl rfl hc3) ?_
  refine AtL.pures hT 1 _ _ _ _ rfl ?_
  refine AtL.nil ?_
  refine AtE.then_n (AtE.go ?_)
  refine AtC.joinSeq (β := Unit) (fun (t0 : Unit) (bb : Unit) => []) (fun (t0 : Unit) (bb : Unit) => []) [0, 1, 7] [] H (by exact rfl) (by exact rfl) (fun t0 bb h0 H => ?_) (fun J5 H HK5 => ?_)
  ·
   refine AtC.seq ?_
   obtain ⟨a_7, hc13, H⟩ := H
   obtain ⟨v_5, hc14, H⟩ := H
   obtain ⟨a_8_, hc15, hd15, H⟩ := H
   obtain ⟨v_6, hc16, H⟩ := H
   apply AtC.seqS [6] [[], [], [], [], [], [], [], [6]] [[], [0], [0, 1], [], [3], [3, 4], [0, 1, 2, 3, 4, 5], [0, 1, 2, 3, 4, 5, 6]] hmix (by kernel_rfl) [(32, _), (33, _), (34, _), (35, _), (36, _), (37, _)] rfl 1 rfl
   refine Stg.go [0, 1, 2, 3, 4, 5] [6] rfl rfl (QAll.cons (QOp.p hT rfl rfl rfl rfl rfl) (QAll.cons (QOp.q rfl rfl (Quiet1.nilChk rfl rfl hc13) rfl rfl) (QAll.cons (QOp.q rfl rfl (Quiet1.loadS hT rfl rfl rfl rfl hc14) rfl rfl) (QAll.cons (QOp.p hT rfl rfl rfl rfl rfl) (QAll.cons (QOp.q rfl rfl (Quiet1.idxS (s := _) hT rfl rfl rfl rfl rfl hc15 hd15) rfl rfl) (QAll.cons (QOp.q rfl rfl (Quiet1.load hT rfl rfl rfl hc16) rfl rfl) QAll.nil)))))) ?_
   refine EAll.cons ?_ EAll.nil
   refine EOp.e rfl rfl rfl (EffX.call (f := 31) (sh := fun h => clause_Value _ _ h _) (H0 := H) rfl Try.call31 rfl (hl := fun w m hr hw => lift_clause_Value _ _ w m hr _ hw)) ?_
   rintro _ _ ⟨v_7, h0u3, rfl, rfl, H⟩
   apply Stg.next [(38, _), (39, _)] rfl rfl
   refine Stg.fin [7] rfl rfl (QAll.cons (QOp.p hT rfl rfl rfl rfl rfl) QAll.nil) ?_
   refine AtE.then_n (AtE.go ?_)
   refine AtC.condB H rfl (fun H => ?_) (fun H => ?_)
   ·
    refine AtC.seqR ?_
    refine AtL.pures hT 1 _ _ _ _ rfl ?_
    refine AtL.nil ?_
    refine AtE.then_n (AtE.go ?_)
    refine AtC.ret ?_
    refine AtE.then_r ?_
    exact AtE.retN (rs := [.tmp 6]) rfl (ResAll.cons (ResAt.tmp rfl) ResAll.nil) rfl H
   ·
    refine AtC.skip ?_
    refine AtE.then_n (AtE.go ?_)
    refine AtC.seq ?_
    refine AtC.seqR ?_
    refine AtL.pures hT 1 _ _ _ _ rfl ?_
    refine AtL.nil ?_
    refine AtE.then_n (AtE.go ?_)
    refine AtC.block ?_
    refine AtC.loopM (fun (s0u1 : Int) => [(8, Value.int .i64 s0u1)]) (fun (s0u1 : Int) => []) [0, 1, 7] [8, 0, 1, 7] [] [] H (by exact rfl) (by exact rfl) (by exact rfl) (by decide) (by exact rfl) (fun Kp18 s0u1 h0u4 H Q18 HK18 => ?_)
    refine AtC.seq ?_
    refine AtC.seqR ?_
    refine AtL.pures hT 4 _ _ _ _ rfl ?_
    refine AtL.nil ?_
    refine AtE.then_n (AtE.go ?_)
    refine AtC.condB H rfl (fun H => ?_) (fun H => ?_)
    ·
     refine AtC.skip ?_
     refine AtE.then_n (AtE.go ?_)
     refine AtC.seq ?_
     refine AtC.block ?_
     obtain ⟨a_9, hc18, H⟩ := H
     obtain ⟨v_8, hc19, H⟩ := H
     obtain ⟨a_10_, hc20, hd20, H⟩ := H
     obtain ⟨v_9, hc21, H⟩ := H
     apply AtC.seqS [7] [[], [], [], [], [], [], [], [], [7]] [[], [0], [0, 1], [], [], [3, 4], [3, 4, 5], [0, 1, 2, 3, 4, 5, 6], [0, 1, 2, 3, 4, 5, 6, 7]] hmix (by kernel_rfl) [(46, _), (47, _), (48, _), (49, _), (50, _), (51, _), (52, _)] rfl 1 rfl
     refine Stg.go [0, 1, 2, 3, 4, 5, 6] [7] rfl rfl (QAll.cons (QOp.p hT rfl rfl rfl rfl rfl) (QAll.cons (QOp.q rfl rfl (Quiet1.nilChk rfl rfl hc18) rfl rfl) (QAll.cons (QOp.q rfl rfl (Quiet1.loadS hT rfl rfl rfl rfl hc19) rfl rfl) (QAll.cons (QOp.p hT rfl rfl rfl rfl rfl) (QAll.cons (QOp.p hT rfl rfl rfl rfl rfl) (QAll.cons (QOp.q rfl rfl (Quiet1.idxS (s := _) hT rfl rfl rfl rfl rfl hc20 hd20) rfl rfl) (QAll.cons (QOp.q rfl rfl (Quiet1.load hT rfl rfl rfl hc21) rfl rfl) QAll.nil))))))) ?_
     refine EAll.cons ?_ EAll.nil
     refine EOp.e rfl rfl rfl (EffX.call (f := 31) (sh := fun h => clause_Value _ _ h _) (H0 := H) rfl Try.call31 rfl (hl := fun w m hr hw => lift_clause_Value _ _ w m hr _ hw)) ?_
     rintro _ _ ⟨v_10, h0u5, rfl, rfl, H⟩
     apply Stg.next [(53, _), (54, _)] rfl rfl
     refine Stg.fin [8] rfl rfl (QAll.cons (QOp.p hT rfl rfl rfl rfl rfl) QAll.nil) ?_
     refine AtE.then_n (AtE.go ?_)
     refine AtC.condB H rfl (fun H => ?_) (fun H => ?_)
     ·
      obtain ⟨a_11_, hc22, hd22, H⟩ := H
      obtain ⟨v_11, hc23, H⟩ := H
      obtain ⟨a_12_, hc24, hd24, H⟩ := H
      obtain ⟨v_12, hc25, H⟩ := H
      obtain ⟨a_13_, hc26, hd26, H⟩ := H
      apply AtC.seqS [11, 13] [[], [], [], [], [], [], [], [], [], [], [], [], [11], [11]] [[], [], [], [], [], [3, 4], [3, 4, 5], [], [7], [7, 8], [0, 3, 4, 5, 6, 7, 8, 9], [0, 3, 4, 5, 6, 7, 8, 9, 10], [0, 1, 2, 3, 4, 5, 6, 7, 8, 9, 10, 11], [0, 1, 2, 3, 4, 5, 6, 7, 8, 9, 10, 11, 12]] hmix (by kernel_rfl) [(55, _), (56, _), (57, _), (58, _), (59, _), (60, _), (61, _), (62, _), (63, _), (64, _), (65, _)] rfl 2 rfl
      refine Stg.go [0, 1, 2, 3, 4, 5, 6, 7, 8, 9, 10] [11] rfl rfl (QAll.cons (QOp.p hT rfl rfl rfl rfl rfl) (QAll.cons (QOp.p hT rfl rfl rfl rfl rfl) (QAll.cons (QOp.p hT rfl rfl rfl rfl rfl) (QAll.cons (QOp.p hT rfl rfl rfl rfl rfl) (QAll.cons (QOp.p hT rfl rfl rfl rfl rfl) (QAll.cons (QOp.q rfl rfl (Quiet1.idxS (s := _) hT rfl rfl rfl rfl rfl hc22 hd22) rfl rfl) (QAll.cons (QOp.q rfl rfl (Quiet1.load hT rfl rfl rfl hc23) rfl rfl) (QAll.cons (QOp.p hT rfl rfl rfl rfl rfl) (QAll.cons (QOp.q rfl rfl (Quiet1.idxS (s := _) hT rfl rfl rfl rfl rfl hc24 hd24) rfl rfl) (QAll.cons (QOp.q rfl rfl (Quiet1.load hT rfl rfl rfl hc25) rfl rfl) (QAll.cons (QOp.q rfl rfl (Quiet1.idxS (s := _) hT rfl rfl rfl rfl rfl hc26 hd26) rfl rfl) QAll.nil))))))))))) ?_
      refine EAll.cons ?_ EAll.nil
      refine EOp.e rfl rfl rfl (EffX.store hT rfl rfl rfl rfl rfl H) ?_
      rintro _ _ ⟨h0u6, rfl, H⟩
      obtain ⟨a_14_, hc27, hd27, H⟩ := H
      apply Stg.next [(66, _)] rfl rfl
      refine Stg.go [1, 2, 12] [13] rfl rfl (QAll.cons (QOp.p hT rfl rfl rfl rfl rfl) (QAll.cons (QOp.p hT rfl rfl rfl rfl rfl) (QAll.cons (QOp.q rfl rfl (Quiet1.idxS (s := _) hT rfl rfl rfl rfl rfl hc27 hd27) rfl rfl) QAll.nil))) ?_
      refine EAll.cons ?_ EAll.nil
      refine EOp.e rfl rfl rfl (EffX.store hT rfl rfl rfl rfl rfl H) ?_
      rintro _ _ ⟨h0u7, rfl, H⟩
      apply Stg.next [] rfl rfl
      refine Stg.fin [] rfl rfl QAll.nil ?_
      refine AtE.then_n (AtE.go ?_)
      refine AtC.joinSeq (β := Unit) (fun (t0u1 : Unit) (bb_1 : Unit) => []) (fun (t0u1 : Unit) (bb_1 : Unit) => []) [] [] H (by exact rfl) (by exact rfl) (fun t0u1 bb_1 h0u8 H => ?_) (fun J29 H HK29 => ?_)
      ·
       refine AtC.seqR ?_
       refine AtL.pures hT 1 _ _ _ _ rfl ?_
       refine AtL.nil ?_
       refine AtE.then_n (AtE.go ?_)
       refine AtC.ret ?_
       refine AtE.blk_r ?_
       refine AtE.then_r ?_
       refine AtE.then_r ?_
       refine AtE.blk_r ?_
       refine AtE.then_r ?_
       exact AtE.retN (rs := [.tmp 6]) rfl (ResAll.cons (ResAt.tmp rfl) ResAll.nil) rfl H
      ·
       obtain ⟨a_15, hc29, H⟩ := H
       obtain ⟨v_13, hc30, H⟩ := H
       obtain ⟨a_16_, hc31, hd31, H⟩ := H
       obtain ⟨v_14, hc32, H⟩ := H
       obtain ⟨a_17, hc33, H⟩ := H
       obtain ⟨v_15, hc34, H⟩ := H
       obtain ⟨a_18_, hc35, hd35, H⟩ := H
       obtain ⟨v_16, hc36, H⟩ := H
       apply AtC.stages [7, 15, 19, 20, 22] [[], [], [], [], [], [], [], [], [], [], [], [], [], [], [], [7], [7, 15], [7, 15], [], [], [7, 15, 19], [7, 15, 19, 20], [7, 15, 19, 20]] [[], [0], [0, 1], [0, 1, 2], [], [4], [4, 5], [4, 5, 6], [], [8], [8, 9], [8, 9, 10], [], [12], [12, 13], [4, 5, 6, 7, 12, 13, 14], [4, 5, 6, 7, 8, 9, 10, 11, 12, 13, 14, 15], [4, 5, 6, 7, 8, 9, 10, 11, 12, 13, 14, 15, 16], [], [18], [4, 5, 6, 7, 8, 9, 10, 11, 12, 13, 14, 15, 16, 17, 18, 19], [0, 1, 2, 3, 4, 5, 6, 7, 8, 9, 10, 11, 12, 13, 14, 15, 16, 17, 18, 19, 20], [0, 1, 2, 3, 4, 5, 6, 7, 8, 9, 10, 11, 12, 13, 14, 15, 16, 17, 18, 19, 20, 21]] hmix (by kernel_rfl) [(67, _), (68, _), (69, _), (70, _), (71, _), (72, _), (73, _), (75, _), (76, _), (77, _), (78, _), (79, _), (80, _), (81, _), (85, _)] rfl 5 rfl
       refine Stg.go [0, 1, 2, 3, 4, 5, 6, 8, 9, 10, 11, 12, 13, 14, 18] [7, 19] rfl rfl (QAll.cons (QOp.p hT rfl rfl rfl rfl rfl) (QAll.cons (QOp.q rfl rfl (Quiet1.nilChk rfl rfl hc29) rfl rfl) (QAll.cons (QOp.p hT rfl rfl rfl rfl rfl) (QAll.cons (QOp.q rfl rfl (Quiet1.load hT rfl rfl rfl hc30) rfl rfl) (QAll.cons (QOp.p hT rfl rfl rfl rfl rfl) (QAll.cons (QOp.q rfl rfl (Quiet1.idxS (s := _) hT rfl rfl rfl rfl rfl hc31 hd31) rfl rfl) (QAll.cons (QOp.q rfl rfl (Quiet1.load hT rfl rfl rfl hc32) rfl rfl) (QAll.cons (QOp.p hT rfl rfl rfl rfl rfl) (QAll.cons (QOp.q rfl rfl (Quiet1.nilChk rfl rfl hc33) rfl rfl) (QAll.cons (QOp.p hT rfl rfl rfl rfl rfl) (QAll.cons (QOp.q rfl rfl (Quiet1.load hT rfl rfl rfl hc34) rfl rfl) (QAll.cons (QOp.p hT rfl rfl rfl rfl rfl) (QAll.cons (QOp.q rfl rfl (Quiet1.idxS (s := _) hT rfl rfl rfl rfl rfl hc35 hd35) rfl rfl) (QAll.cons (QOp.q rfl rfl (Quiet1.load hT rfl rfl rfl hc36) rfl rfl) (QAll.cons (QOp.p hT rfl rfl rfl rfl rfl) QAll.nil))))))))))))))) ?_
       refine EAll.cons ?_ ?_
       ·
        replace H := H.1
        refine EOp.e rfl rfl rfl (EffX.call (f := 37) (sh := fun h => clause_watch _ h _) (H0 := H) rfl Try.call37 rfl (hl := fun w m hr hw => lift_clause_watch _ w m hr _ hw)) ?_
        rintro _ _ ⟨v_17, h0u9, rfl, rfl, H⟩
        obtain ⟨hc37, H⟩ := H
        obtain ⟨hc38, H⟩ := H
        obtain ⟨hc39, H⟩ := H
        apply Stg.next [(74, _)] rfl rfl
        refine Stg.go [0, 1, 2, 3, 8, 9, 10, 11, 12, 13, 14, 18] [15, 19] rfl rfl (QAll.cons (QOp.p hT rfl rfl rfl rfl rfl) (QAll.cons (QOp.q rfl rfl (Quiet1.nilChk rfl rfl hc29) rfl rfl) (QAll.cons (QOp.p hT rfl rfl rfl rfl rfl) (QAll.cons (QOp.q rfl rfl (Quiet1.load hT rfl rfl rfl hc37) rfl rfl) (QAll.cons (QOp.p hT rfl rfl rfl rfl rfl) (QAll.cons (QOp.q rfl rfl (Quiet1.nilChk rfl rfl hc33) rfl rfl) (QAll.cons (QOp.p hT rfl rfl rfl rfl rfl) (QAll.cons (QOp.q rfl rfl (Quiet1.load hT rfl rfl rfl hc38) rfl rfl) (QAll.cons (QOp.p hT rfl rfl rfl rfl rfl) (QAll.cons (QOp.q rfl rfl (Quiet1.idxS (s := _) hT rfl rfl rfl rfl rfl hc35 hd35) rfl rfl) (QAll.cons (QOp.q rfl rfl (Quiet1.load hT rfl rfl rfl hc39) rfl rfl) (QAll.cons (QOp.p hT rfl rfl rfl rfl rfl) QAll.nil)))))))))))) ?_
        refine EAll.cons ?_ ?_
        ·
         replace H := H.1
         refine EOp.e rfl rfl rfl (EffX.call (f := 37) (sh := fun h => clause_watch _ h _) (H0 := H) rfl Try.call37 rfl (hl := fun w m hr hw => lift_clause_watch _ w m hr _ hw)) ?_
         rintro _ _ ⟨v_18, h0u10, rfl, rfl, H⟩
         obtain ⟨hc40, H⟩ := H
         obtain ⟨hc41, H⟩ := H
         obtain ⟨a_19_, hc42, hd42, H⟩ := H
         obtain ⟨v_19, hc43, H⟩ := H
         apply Stg.next [(82, _), (83, _), (84, _)] rfl rfl
         refine Stg.go [0, 1, 2, 3, 8, 9, 10, 11, 16, 17, 18] [19] rfl rfl (QAll.cons (QOp.p hT rfl rfl rfl rfl rfl) (QAll.cons (QOp.q rfl rfl (Quiet1.nilChk rfl rfl hc29) rfl rfl) (QAll.cons (QOp.p hT rfl rfl rfl rfl rfl) (QAll.cons (QOp.q rfl rfl (Quiet1.load hT rfl rfl rfl hc40) rfl rfl) (QAll.cons (QOp.p hT rfl rfl rfl rfl rfl) (QAll.cons (QOp.q rfl rfl (Quiet1.nilChk rfl rfl hc33) rfl rfl) (QAll.cons (QOp.p hT rfl rfl rfl rfl rfl) (QAll.cons (QOp.q rfl rfl (Quiet1.load hT rfl rfl rfl hc41) rfl rfl) (QAll.cons (QOp.q rfl rfl (Quiet1.idxS (s := _) hT rfl rfl rfl rfl rfl hc42 hd42) rfl rfl) (QAll.cons (QOp.q rfl rfl (Quiet1.load hT rfl rfl rfl hc43) rfl rfl) (QAll.cons (QOp.p hT rfl rfl rfl rfl rfl) QAll.nil))))))))))) ?_
         refine EAll.cons ?_ EAll.nil
         refine EOp.e rfl rfl rfl (EffX.buildS2 (cs := [_]) hT rfl rfl rfl rfl rfl rfl rfl rfl H) ?_
         rintro _ _ ⟨a_20, h0u11, rfl, rfl, H⟩
         obtain ⟨hc44, H⟩ := H
         obtain ⟨hc45, H⟩ := H
         obtain ⟨hc46, H⟩ := H
         apply Stg.next [(86, _)] rfl rfl
         refine Stg.go [0, 1, 2, 3, 8, 9, 10, 11, 16, 17] [20] rfl rfl (QAll.cons (QOp.p hT rfl rfl rfl rfl rfl) (QAll.cons (QOp.q rfl rfl (Quiet1.nilChk rfl rfl hc29) rfl rfl) (QAll.cons (QOp.p hT rfl rfl rfl rfl rfl) (QAll.cons (QOp.q rfl rfl (Quiet1.load hT rfl rfl rfl hc44) rfl rfl) (QAll.cons (QOp.p hT rfl rfl rfl rfl rfl) (QAll.cons (QOp.q rfl rfl (Quiet1.nilChk rfl rfl hc33) rfl rfl) (QAll.cons (QOp.p hT rfl rfl rfl rfl rfl) (QAll.cons (QOp.q rfl rfl (Quiet1.load hT rfl rfl rfl hc45) rfl rfl) (QAll.cons (QOp.q rfl rfl (Quiet1.idxS (s := _) hT rfl rfl rfl rfl rfl hc42 hd42) rfl rfl) (QAll.cons (QOp.q rfl rfl (Quiet1.load hT rfl rfl rfl hc46) rfl rfl) QAll.nil)))))))))) ?_
         refine EAll.cons ?_ EAll.nil
         refine EOp.e rfl rfl rfl (EffX.appendS (s := _) (u := _) hT rfl rfl rfl rfl rfl rfl rfl rfl rfl rfl (by decide) H) ?_
         rintro _ _ ⟨v_21, h0u12, rfl, rfl, H⟩
         obtain ⟨hc47, H⟩ := H
         obtain ⟨a_21_, hc48, hd48, H⟩ := H
         apply Stg.next [(87, _), (88, _)] rfl rfl
         refine Stg.go [0, 1, 2, 3, 21] [22] rfl rfl (QAll.cons (QOp.p hT rfl rfl rfl rfl rfl) (QAll.cons (QOp.q rfl rfl (Quiet1.nilChk rfl rfl hc29) rfl rfl) (QAll.cons (QOp.p hT rfl rfl rfl rfl rfl) (QAll.cons (QOp.q rfl rfl (Quiet1.load hT rfl rfl rfl hc47) rfl rfl) (QAll.cons (QOp.q rfl rfl (Quiet1.idxS (s := _) hT rfl rfl rfl rfl rfl hc48 hd48) rfl rfl) QAll.nil))))) ?_
         refine EAll.cons ?_ EAll.nil
         refine EOp.e rfl rfl rfl (EffX.store hT rfl rfl rfl rfl rfl H) ?_
         rintro _ _ ⟨h0u13, rfl, H⟩
         apply Stg.next [] rfl rfl
         refine Stg.fin [] rfl rfl QAll.nil ?_
         exact AtE.then_n ((HK29 _ () _ H).pickP (ts := []) (is := []) rfl rfl (by decide) rfl)
        refine EAll.cons ?_ EAll.nil
        replace H := H.2
        refine EOp.e rfl rfl rfl (EffX.buildS2 (cs := [_]) hT rfl rfl rfl rfl rfl rfl rfl rfl H) ?_
        rintro _ _ ⟨a_22, h0u14, rfl, rfl, H⟩
        obtain ⟨hc49, H⟩ := H
        obtain ⟨hc50, H⟩ := H
        obtain ⟨hc51, H⟩ := H
        apply Stg.next [(86, _)] rfl rfl
        refine Stg.go [0, 1, 2, 3, 8, 9, 10, 11, 12, 13, 14] [15] rfl rfl (QAll.cons (QOp.p hT rfl rfl rfl rfl rfl) (QAll.cons (QOp.q rfl rfl (Quiet1.nilChk rfl rfl hc29) rfl rfl) (QAll.cons (QOp.p hT rfl rfl rfl rfl rfl) (QAll.cons (QOp.q rfl rfl (Quiet1.load hT rfl rfl rfl hc49) rfl rfl) (QAll.cons (QOp.p hT rfl rfl rfl rfl rfl) (QAll.cons (QOp.q rfl rfl (Quiet1.nilChk rfl rfl hc33) rfl rfl) (QAll.cons (QOp.p hT rfl rfl rfl rfl rfl) (QAll.cons (QOp.q rfl rfl (Quiet1.load hT rfl rfl rfl hc50) rfl rfl) (QAll.cons (QOp.p hT rfl rfl rfl rfl rfl) (QAll.cons (QOp.q rfl rfl (Quiet1.idxS (s := _) hT rfl rfl rfl rfl rfl hc35 hd35) rfl rfl) (QAll.cons (QOp.q rfl rfl (Quiet1.load hT rfl rfl rfl hc51) rfl rfl) QAll.nil))))))))))) ?_
        refine EAll.cons ?_ EAll.nil
        refine EOp.e rfl rfl rfl (EffX.call (f := 37) (sh := fun h => clause_watch _ h _) (H0 := H) rfl Try.call37 rfl (hl := fun w m hr hw => lift_clause_watch _ w m hr _ hw)) ?_
        rintro _ _ ⟨v_23, h0u15, rfl, rfl, H⟩
        obtain ⟨hc52, H⟩ := H
        obtain ⟨hc53, H⟩ := H
        obtain ⟨a_23_, hc54, hd54, H⟩ := H
        obtain ⟨v_24, hc55, H⟩ := H
        apply Stg.next [(82, _), (83, _), (84, _)] rfl rfl
        refine Stg.go [0, 1, 2, 3, 8, 9, 10, 11, 16, 17] [20] rfl rfl (QAll.cons (QOp.p hT rfl rfl rfl rfl rfl) (QAll.cons (QOp.q rfl rfl (Quiet1.nilChk rfl rfl hc29) rfl rfl) (QAll.cons (QOp.p hT rfl rfl rfl rfl rfl) (QAll.cons (QOp.q rfl rfl (Quiet1.load hT rfl rfl rfl hc52) rfl rfl) (QAll.cons (QOp.p hT rfl rfl rfl rfl rfl) (QAll.cons (QOp.q rfl rfl (Quiet1.nilChk rfl rfl hc33) rfl rfl) (QAll.cons (QOp.p hT rfl rfl rfl rfl rfl) (QAll.cons (QOp.q rfl rfl (Quiet1.load hT rfl rfl rfl hc53) rfl rfl) (QAll.cons (QOp.q rfl rfl (Quiet1.idxS (s := _) hT rfl rfl rfl rfl rfl hc54 hd54) rfl rfl) (QAll.cons (QOp.q rfl rfl (Quiet1.load hT rfl rfl rfl hc55) rfl rfl) QAll.nil)))))))))) ?_
        refine EAll.cons ?_ EAll.nil
        refine EOp.e rfl rfl rfl (EffX.appendS (s := _) (u := _) hT rfl rfl rfl rfl rfl rfl rfl rfl rfl rfl (by decide) H) ?_
        rintro _ _ ⟨v_25, h0u16, rfl, rfl, H⟩
        obtain ⟨hc56, H⟩ := H
        obtain ⟨a_24_, hc57, hd57, H⟩ := H
        apply Stg.next [(87, _), (88, _)] rfl rfl
        refine Stg.go [0, 1, 2, 3, 21] [22] rfl rfl (QAll.cons (QOp.p hT rfl rfl rfl rfl rfl) (QAll.cons (QOp.q rfl rfl (Quiet1.nilChk rfl rfl hc29) rfl rfl) (QAll.cons (QOp.p hT rfl rfl rfl rfl rfl) (QAll.cons (QOp.q rfl rfl (Quiet1.load hT rfl rfl rfl hc56) rfl rfl) (QAll.cons (QOp.q rfl rfl (Quiet1.idxS (s := _) hT rfl rfl rfl rfl rfl hc57 hd57) rfl rfl) QAll.nil))))) ?_
        refine EAll.cons ?_ EAll.nil
        refine EOp.e rfl rfl rfl (EffX.store hT rfl rfl rfl rfl rfl H) ?_
        rintro _ _ ⟨h0u17, rfl, H⟩
        apply Stg.next [] rfl rfl
        refine Stg.fin [] rfl rfl QAll.nil ?_
        exact AtE.then_n ((HK29 _ () _ H).pickP (ts := []) (is := []) rfl rfl (by decide) rfl)
       refine EAll.cons ?_ EAll.nil
       replace H := H.2
       refine EOp.e rfl rfl rfl (EffX.buildS2 (cs := [_]) hT rfl rfl rfl rfl rfl rfl rfl rfl H) ?_
       rintro _ _ ⟨a_25, h0u18, rfl, rfl, H⟩
       obtain ⟨hc58, H⟩ := H
       obtain ⟨hc59, H⟩ := H
       obtain ⟨hc60, H⟩ := H
       obtain ⟨hc61, H⟩ := H
       apply Stg.next [(86, _)] rfl rfl
       refine Stg.go [0, 1, 2, 3, 4, 5, 6, 8, 9, 10, 11, 12, 13, 14] [7] rfl rfl (QAll.cons (QOp.p hT rfl rfl rfl rfl rfl) (QAll.cons (QOp.q rfl rfl (Quiet1.nilChk rfl rfl hc29) rfl rfl) (QAll.cons (QOp.p hT rfl rfl rfl rfl rfl) (QAll.cons (QOp.q rfl rfl (Quiet1.load hT rfl rfl rfl hc58) rfl rfl) (QAll.cons (QOp.p hT rfl rfl rfl rfl rfl) (QAll.cons (QOp.q rfl rfl (Quiet1.idxS (s := _) hT rfl rfl rfl rfl rfl hc31 hd31) rfl rfl) (QAll.cons (QOp.q rfl rfl (Quiet1.load hT rfl rfl rfl hc59) rfl rfl) (QAll.cons (QOp.p hT rfl rfl rfl rfl rfl) (QAll.cons (QOp.q rfl rfl (Quiet1.nilChk rfl rfl hc33) rfl rfl) (QAll.cons (QOp.p hT rfl rfl rfl rfl rfl) (QAll.cons (QOp.q rfl rfl (Quiet1.load hT rfl rfl rfl hc60) rfl rfl) (QAll.cons (QOp.p hT rfl rfl rfl rfl rfl) (QAll.cons (QOp.q rfl rfl (Quiet1.idxS (s := _) hT rfl rfl rfl rfl rfl hc35 hd35) rfl rfl) (QAll.cons (QOp.q rfl rfl (Quiet1.load hT rfl rfl rfl hc61) rfl rfl) QAll.nil)))))))))))))) ?_
       refine EAll.cons ?_ EAll.nil
       refine EOp.e rfl rfl rfl (EffX.call (f := 37) (sh := fun h => clause_watch _ h _) (H0 := H) rfl Try.call37 rfl (hl := fun w m hr hw => lift_clause_watch _ w m hr _ hw)) ?_
       rintro _ _ ⟨v_27, h0u19, rfl, rfl, H⟩
       obtain ⟨hc62, H⟩ := H
       obtain ⟨hc63, H⟩ := H
       obtain ⟨hc64, H⟩ := H
       apply Stg.next [(74, _)] rfl rfl
       refine Stg.go [0, 1, 2, 3, 8, 9, 10, 11, 12, 13, 14] [15] rfl rfl (QAll.cons (QOp.p hT rfl rfl rfl rfl rfl) (QAll.cons (QOp.q rfl rfl (Quiet1.nilChk rfl rfl hc29) rfl rfl) (QAll.cons (QOp.p hT rfl rfl rfl rfl rfl) (QAll.cons (QOp.q rfl rfl (Quiet1.load hT rfl rfl rfl hc62) rfl rfl) (QAll.cons (QOp.p hT rfl rfl rfl rfl rfl) (QAll.cons (QOp.q rfl rfl (Quiet1.nilChk rfl rfl hc33) rfl rfl) (QAll.cons (QOp.p hT rfl rfl rfl rfl rfl) (QAll.cons (QOp.q rfl rfl (Quiet1.load hT rfl rfl rfl hc63) rfl rfl) (QAll.cons (QOp.p hT rfl rfl rfl rfl rfl) (QAll.cons (QOp.q rfl rfl (Quiet1.idxS (s := _) hT rfl rfl rfl rfl rfl hc35 hd35) rfl rfl) (QAll.cons (QOp.q rfl rfl (Quiet1.load hT rfl rfl rfl hc64) rfl rfl) QAll.nil))))))))))) ?_
       refine EAll.cons ?_ EAll.nil
       refine EOp.e rfl rfl rfl (EffX.call (f := 37) (sh := fun h => clause_watch _ h _) (H0 := H) rfl Try.call37 rfl (hl := fun w m hr hw => lift_clause_watch _ w m hr _ hw)) ?_
       rintro _ _ ⟨v_28, h0u20, rfl, rfl, H⟩
       obtain ⟨hc65, H⟩ := H
       obtain ⟨hc66, H⟩ := H
       obtain ⟨a_26_, hc67, hd67, H⟩ := H
       obtain ⟨v_29, hc68, H⟩ := H
       apply Stg.next [(82, _), (83, _), (84, _)] rfl rfl
       refine Stg.go [0, 1, 2, 3, 8, 9, 10, 11, 16, 17] [20] rfl rfl (QAll.cons (QOp.p hT rfl rfl rfl rfl rfl) (QAll.cons (QOp.q rfl rfl (Quiet1.nilChk rfl rfl hc29) rfl rfl) (QAll.cons (QOp.p hT rfl rfl rfl rfl rfl) (QAll.cons (QOp.q rfl rfl (Quiet1.load hT rfl rfl rfl hc65) rfl rfl) (QAll.cons (QOp.p hT rfl rfl rfl rfl rfl) (QAll.cons (QOp.q rfl rfl (Quiet1.nilChk rfl rfl hc33) rfl rfl) (QAll.cons (QOp.p hT rfl rfl rfl rfl rfl) (QAll.cons (QOp.q rfl rfl (Quiet1.load hT rfl rfl rfl hc66) rfl rfl) (QAll.cons (QOp.q rfl rfl (Quiet1.idxS (s := _) hT rfl rfl rfl rfl rfl hc67 hd67) rfl rfl) (QAll.cons (QOp.q rfl rfl (Quiet1.load hT rfl rfl rfl hc68) rfl rfl) QAll.nil)))))))))) ?_
       refine EAll.cons ?_ EAll.nil
       refine EOp.e rfl rfl rfl (EffX.appendS (s := _) (u := _) hT rfl rfl rfl rfl rfl rfl rfl rfl rfl rfl (by decide) H) ?_
       rintro _ _ ⟨v_30, h0u21, rfl, rfl, H⟩
       obtain ⟨hc69, H⟩ := H
       obtain ⟨a_27_, hc70, hd70, H⟩ := H
       apply Stg.next [(87, _), (88, _)] rfl rfl
       refine Stg.go [0, 1, 2, 3, 21] [22] rfl rfl (QAll.cons (QOp.p hT rfl rfl rfl rfl rfl) (QAll.cons (QOp.q rfl rfl (Quiet1.nilChk rfl rfl hc29) rfl rfl) (QAll.cons (QOp.p hT rfl rfl rfl rfl rfl) (QAll.cons (QOp.q rfl rfl (Quiet1.load hT rfl rfl rfl hc69) rfl rfl) (QAll.cons (QOp.q rfl rfl (Quiet1.idxS (s := _) hT rfl rfl rfl rfl rfl hc70 hd70) rfl rfl) QAll.nil))))) ?_
       refine EAll.cons ?_ EAll.nil
       refine EOp.e rfl rfl rfl (EffX.store hT rfl rfl rfl rfl rfl H) ?_
       rintro _ _ ⟨h0u22, rfl, H⟩
       apply Stg.next [] rfl rfl
       refine Stg.fin [] rfl rfl QAll.nil ?_
       exact AtE.then_n ((HK29 _ () _ H).pickP (ts := []) (is := []) rfl rfl (by decide) rfl)
     ·
      refine AtC.skip ?_
      refine AtE.blk_n ?_
      refine AtE.then_n (AtE.go ?_)
      refine AtC.region ?_
      refine AtL.pures hT 3 _ _ _ _ rfl ?_
      replace H := H _ rfl
      refine AtL.nil ?_
      exact AtE.then_n ((HK18 _ _ H).pickP (ts := [8, 0, 1, 7]) (is := []) rfl rfl (by decide) rfl)
    ·
     refine AtC.exit ?_
     refine AtE.then_x ?_
     refine AtE.then_x ?_
     refine AtE.blk_hit ?_
     refine AtE.then_n (AtE.go ?_)
     refine AtC.seq ?_
     refine AtC.seqR ?_
     refine AtL.pures hT 2 _ _ _ _ rfl ?_
     obtain ⟨a_28_, hc71, hd71, H⟩ := H
     refine AtL.q rfl (Quiet1.idxS (s := _) hT rfl rfl rfl rfl rfl hc71 hd71) ?_
     obtain ⟨v_31, hc72, H⟩ := H
     refine AtL.q rfl (Quiet1.load hT rfl rfl rfl hc72) ?_
     refine AtL.pures hT 1 _ _ _ _ rfl ?_
     refine AtL.e rfl (EffX.call (f := 12) (sh := fun h => clause_Tell _ _ _ h _) (H0 := H) rfl Try.call12 rfl (hl := fun w m hr hw => lift_clause_Tell _ _ _ w m hr _ hw)) ?_
     rintro _ _ ⟨v_32, h0u23, rfl, rfl, H⟩
     refine AtL.pures hT 1 _ _ _ _ rfl ?_
     refine AtL.nil ?_
     refine AtE.then_n (AtE.go ?_)
     refine AtC.condB H rfl (fun H => ?_) (fun H => ?_)
     ·
      refine AtC.seqR ?_
      refine AtL.pures hT 1 _ _ _ _ rfl ?_
      refine AtL.nil ?_
      refine AtE.then_n (AtE.go ?_)
      refine AtC.ret ?_
      refine AtE.then_r ?_
      exact AtE.retN (rs := [.tmp 6]) rfl (ResAll.cons (ResAt.tmp rfl) ResAll.nil) rfl H
     ·
      refine AtC.skip ?_
      refine AtE.then_n (AtE.go ?_)
      refine AtC.seqR ?_
      refine AtL.pures hT 1 _ _ _ _ rfl ?_
      refine AtL.nil ?_
      refine AtE.then_n (AtE.go ?_)
      refine AtC.ret ?_
      exact AtE.retN (rs := [.tmp 6]) rfl (ResAll.cons (ResAt.tmp rfl) ResAll.nil) rfl H
  ·
   refine AtC.seqR ?_
   refine AtL.pures hT 1 _ _ _ _ rfl ?_
   obtain ⟨a_2_, hc5, hd5, H⟩ := H
   refine AtL.q rfl (Quiet1.idxS (s := _) hT rfl rfl rfl rfl rfl hc5 hd5) ?_
   obtain ⟨v_2, hc6, H⟩ := H
   refine AtL.q rfl (Quiet1.load hT rfl rfl rfl hc6) ?_
   refine AtL.pures hT 2 _ _ _ _ rfl ?_
   refine AtL.nil ?_
   refine AtE.then_n (AtE.go ?_)
   refine AtC.condB H rfl (fun H => ?_) (fun H => ?_)
   ·
    obtain ⟨a_3_, hc7, hd7, H⟩ := H
    obtain ⟨v_3, hc8, H⟩ := H
    obtain ⟨a_4_, hc9, hd9, H⟩ := H
    obtain ⟨v_4, hc10, H⟩ := H
    obtain ⟨a_5_, hc11, hd11, H⟩ := H
    apply AtC.stages [9, 11] [[], [], [], [], [], [], [], [], [], [], [9], [9]] [[], [], [], [2], [2, 3], [], [5], [5, 6], [0, 2, 3, 4, 5, 6, 7], [0, 2, 3, 4, 5, 6, 7, 8], [0, 1, 2, 3, 4, 5, 6, 7, 8, 9], [0, 1, 2, 3, 4, 5, 6, 7, 8, 9, 10]] hmix (by kernel_rfl) [(22, _), (23, _), (24, _), (25, _), (26, _), (27, _), (28, _), (29, _), (30, _)] rfl 2 rfl
    refine Stg.go [0, 1, 2, 3, 4, 5, 6, 7, 8] [9] rfl rfl (QAll.cons (QOp.p hT rfl rfl rfl rfl rfl) (QAll.cons (QOp.p hT rfl rfl rfl rfl rfl) (QAll.cons (QOp.p hT rfl rfl rfl rfl rfl) (QAll.cons (QOp.q rfl rfl (Quiet1.idxS (s := _) hT rfl rfl rfl rfl rfl hc7 hd7) rfl rfl) (QAll.cons (QOp.q rfl rfl (Quiet1.load hT rfl rfl rfl hc8) rfl rfl) (QAll.cons (QOp.p hT rfl rfl rfl rfl rfl) (QAll.cons (QOp.q rfl rfl (Quiet1.idxS (s := _) hT rfl rfl rfl rfl rfl hc9 hd9) rfl rfl) (QAll.cons (QOp.q rfl rfl (Quiet1.load hT rfl rfl rfl hc10) rfl rfl) (QAll.cons (QOp.q rfl rfl (Quiet1.idxS (s := _) hT rfl rfl rfl rfl rfl hc11 hd11) rfl rfl) QAll.nil))))))))) ?_
    refine EAll.cons ?_ EAll.nil
    refine EOp.e rfl rfl rfl (EffX.store hT rfl rfl rfl rfl rfl H) ?_
    rintro _ _ ⟨h0u1, rfl, H⟩
    obtain ⟨a_6_, hc12, hd12, H⟩ := H
    apply Stg.next [(31, _)] rfl rfl
    refine Stg.go [1, 10] [11] rfl rfl (QAll.cons (QOp.p hT rfl rfl rfl rfl rfl) (QAll.cons (QOp.q rfl rfl (Quiet1.idxS (s := _) hT rfl rfl rfl rfl rfl hc12 hd12) rfl rfl) QAll.nil)) ?_
    refine EAll.cons ?_ EAll.nil
    refine EOp.e rfl rfl rfl (EffX.store hT rfl rfl rfl rfl rfl H) ?_
    rintro _ _ ⟨h0u2, rfl, H⟩
    apply Stg.next [] rfl rfl
    refine Stg.fin [] rfl rfl QAll.nil ?_
    exact AtE.then_n ((HK5 _ () _ H).pickP (ts := [0, 1, 7]) (is := []) rfl rfl (by decide) rfl)
   ·
    refine AtC.skip ?_
    exact AtE.then_n ((HK5 _ () _ H).pickP (ts := [0, 1, 7]) (is := []) rfl rfl (by decide) rfl)

theorem lift_slices_Grow_int_int (s0 : Sl) (n : Int) (w : World) (m : Heap) (hr : Rel ⟨m, []⟩ w.heap) (S : Sl → Heap → Prop) (H : slices_Grow_int_int s0 n m S) :
    Calls Try.prog 68 #[Sl.toV s0, Value.int .i64 n] w (Post ⟨w, m⟩ Sl.toV S) := by
  refine Calls.lift (args := [Sl.toV s0, Value.int .i64 n]) Try.func68 rfl Try.ntmps68 (Nat.le_of_ble_eq_true rfl) hr (slices_Grow_int_int s0 n m S) H (fun H => ?_)
  refine AtC.pick (ts := [0, 1]) rfl ?_
  unfold slices_Grow_int_int at H
  refine AtC.seqR ?_
  refine AtL.pures hT 1 _ _ _ _ rfl ?_
  refine AtL.nil ?_
  refine AtE.then_n (AtE.go ?_)
  refine AtC.joinSeq (β := Unit) (fun (t0 : Unit) (bb : Unit) => []) (fun (t0 : Unit) (bb : Unit) => []) [0, 1] [] H (by exact rfl) (by exact rfl) (fun t0 bb h0 H => ?_) (fun J1 H HK1 => ?_)
  ·
   refine AtC.joinSeq (β := Unit) (fun (t0u1 : Sl) (bb_1 : Unit) => [(0, Sl.toV t0u1)]) (fun (t0u1 : Sl) (bb_1 : Unit) => []) [] [] H (by exact rfl) (by exact rfl) (fun t0u1 bb_1 h0u1 H => ?_) (fun J2 H HK2 => ?_)
   ·
    refine AtC.seqR ?_
    refine AtL.pures hT 2 _ _ _ _ rfl ?_
    refine AtL.nil ?_
    refine AtE.then_n (AtE.go ?_)
    refine AtC.ret ?_
    exact AtE.retN (rs := [.tmp 4]) rfl (ResAll.cons (ResAt.tmp rfl) ResAll.nil) rfl H
   ·
    refine AtC.seqR ?_
    refine AtL.pures hT 8 _ _ _ _ rfl ?_
    replace H := H _ rfl
    refine AtL.nil ?_
    refine AtE.then_n (AtE.go ?_)
    refine AtC.seqR ?_
    refine AtL.pures hT 2 _ _ _ _ rfl ?_
    refine AtL.nil ?_
    refine AtE.then_n (AtE.go ?_)
    refine AtC.condB H rfl (fun H => ?_) (fun H => ?_)
    ·
     refine AtC.region ?_
     refine AtL.pures hT 3 _ _ _ _ rfl ?_
     refine AtL.sl (hT := hT) H rfl rfl rfl rfl rfl rfl rfl (fun h => by cases h <;> rfl) rfl (fun v H => ?_)
     refine AtL.pures hT 1 _ _ _ _ rfl ?_
     refine AtL.e rfl (EffX.appendZ (s := _) hT rfl rfl rfl rfl rfl rfl rfl rfl rfl (by decide) rfl rfl (by decide) H) ?_
     rintro _ _ ⟨v_1, h0u2, rfl, rfl, H⟩
     refine AtL.pures hT 2 _ _ _ _ rfl ?_
     refine AtL.sl (hT := hT) H rfl rfl rfl rfl rfl rfl rfl (fun h => by cases h <;> rfl) rfl (fun v_2 H => ?_)
     refine AtL.pures hT 1 _ _ _ _ rfl ?_
     refine AtL.nil ?_
     exact AtE.then_n ((HK2 _ () _ H).pickP (ts := [0]) (is := []) rfl rfl (by decide) rfl)
    ·
     refine AtC.skip ?_
     exact AtE.then_n ((HK2 _ () _ H).pickP (ts := [0]) (is := []) rfl rfl (by decide) rfl)
  ·
   refine AtC.seqR ?_
   refine AtL.pures hT 2 _ _ _ _ rfl ?_
   refine AtL.nil ?_
   refine AtE.then_n (AtE.go ?_)
   refine AtC.condB H rfl (fun H => ?_) (fun H => ?_)
   ·
    refine AtC.region ?_
    refine AtL.q rfl (Quiet1.makeI hT rfl rfl (by intro m; nofun) rfl) ?_
    exact H.elim
   ·
    refine AtC.skip ?_
    exact AtE.then_n ((HK1 _ () _ H).pickP (ts := [0, 1]) (is := []) rfl rfl (by decide) rfl)

theorem lift_slices_Concat_int_int (slices : Sl) (w : World) (m : Heap) (hr : Rel ⟨m, []⟩ w.heap) (S : Sl → Heap → Prop) (H : slices_Concat_int_int slices m S) :
    Calls Try.prog 39 #[Sl.toV slices] w (Post ⟨w, m⟩ Sl.toV S) := by
  refine Calls.lift (args := [Sl.toV slices]) Try.func39 rfl Try.ntmps39 (Nat.le_of_ble_eq_true rfl) hr (slices_Concat_int_int slices m S) H (fun H => ?_)
  refine AtC.pick (ts := [0]) rfl ?_
  unfold slices_Concat_int_int at H
  refine AtC.seqR ?_
  refine AtL.pures hT 1 _ _ _ _ rfl ?_
  refine AtL.nil ?_
  refine AtE.then_n (AtE.go ?_)
  refine AtC.seqR ?_
  refine AtL.pures hT 1 _ _ _ _ rfl ?_
  refine AtL.nil ?_
  refine AtE.then_n (AtE.go ?_)
  refine AtC.seq ?_
  refine AtC.seqR ?_
  refine AtL.pures hT 3 _ _ _ _ rfl ?_
  refine AtL.nil ?_
  refine AtE.then_n (AtE.go ?_)
  refine AtC.block ?_
  refine AtC.loopM (fun (s0 : Int × Int) => [(3, Value.int .i64 s0.1), (11, Value.int .i64 s0.2)]) (fun (s0 : Int × Int) => []) [0, 9, 10] [3, 11, 0, 9, 10] [] [] H (by exact rfl) (by exact rfl) (by exact rfl) (by decide) (by exact rfl) (fun Kp1 s0 h0 H Q1 HK1 => ?_)
  refine AtC.seqR ?_
  refine AtL.pures hT 1 _ _ _ _ rfl ?_
  refine AtL.nil ?_
  refine AtE.then_n (AtE.go ?_)
  refine AtC.seq ?_
  refine AtC.condB H rfl (fun H => ?_) (fun H => ?_)
  ·
   refine AtC.skip ?_
   refine AtE.then_n (AtE.go ?_)
   refine AtC.joinSeq (β := Unit) (fun (t0 : Int) (bb : Unit) => [(3, Value.int .i64 t0)]) (fun (t0 : Int) (bb : Unit) => []) [0, 9, 10, 11] [] H (by exact rfl) (by exact rfl) (fun t0 bb h0u1 H => ?_) (fun J2 H HK2 => ?_)
   ·
    refine AtC.region ?_
    refine AtL.pures hT 2 _ _ _ _ rfl ?_
    refine AtL.nil ?_
    exact AtE.then_n ((HK1 _ _ H).pickP (ts := [3, 11, 0, 9, 10]) (is := []) rfl rfl (by decide) rfl)
   ·
    refine AtC.block ?_
    refine AtC.seqR ?_
    obtain ⟨a_, hc2, hd2, H⟩ := H
    refine AtL.q rfl (Quiet1.idxS (s := _) hT rfl rfl rfl rfl rfl hc2 hd2) ?_
    obtain ⟨v, hc3, H⟩ := H
    refine AtL.q rfl (Quiet1.load hT rfl rfl rfl hc3) ?_
    refine AtL.pures hT 1 _ _ _ _ rfl ?_
    refine AtL.nil ?_
    refine AtE.then_n (AtE.go ?_)
    refine AtC.seqR ?_
    refine AtL.pures hT 5 _ _ _ _ rfl ?_
    replace H := H _ rfl
    refine AtL.nil ?_
    refine AtE.then_n (AtE.go ?_)
    refine AtC.seqR ?_
    refine AtL.pures hT 2 _ _ _ _ rfl ?_
    refine AtL.nil ?_
    refine AtE.then_n (AtE.go ?_)
    refine AtC.condB H rfl (fun H => ?_) (fun H => ?_)
    ·
     refine AtC.region ?_
     refine AtL.q rfl (Quiet1.makeI hT rfl rfl (by intro m; nofun) rfl) ?_
     exact H.elim
    ·
     refine AtC.skip ?_
     refine AtE.blk_n ?_
     exact AtE.then_n ((HK2 _ () _ H).pickP (ts := [3, 0, 9, 10, 11]) (is := []) rfl rfl (by decide) rfl)
  ·
   refine AtC.exit ?_
   refine AtE.then_x ?_
   refine AtE.then_x ?_
   refine AtE.blk_hit ?_
   refine AtE.then_n (AtE.go ?_)
   refine AtC.seqR ?_
   refine AtL.pures hT 1 _ _ _ _ rfl ?_
   refine AtL.e rfl (EffX.call (f := 68) (sh := fun h => slices_Grow_int_int _ _ h _) (H0 := H) rfl Try.call68 rfl (hl := fun w m hr hw => lift_slices_Grow_int_int _ _ w m hr _ hw)) ?_
   rintro _ _ ⟨v_1, h0u2, rfl, rfl, H⟩
   refine AtL.pures hT 1 _ _ _ _ rfl ?_
   refine AtL.nil ?_
   refine AtE.then_n (AtE.go ?_)
   refine AtC.seq ?_
   refine AtC.seqR ?_
   refine AtL.pures hT 3 _ _ _ _ rfl ?_
   refine AtL.nil ?_
   refine AtE.then_n (AtE.go ?_)
   refine AtC.block ?_
   refine AtC.loopM (fun (s0u1 : Sl × Int) => [(6, Sl.toV s0u1.1), (27, Value.int .i64 s0u1.2)]) (fun (s0u1 : Sl × Int) => []) [25, 26] [6, 27, 25, 26] [] [] H (by exact rfl) (by exact rfl) (by exact rfl) (by decide) (by exact rfl) (fun Kp5 s0u1 h0u3 H Q5 HK5 => ?_)
   refine AtC.seqR ?_
   refine AtL.pures hT 1 _ _ _ _ rfl ?_
   refine AtL.nil ?_
   refine AtE.then_n (AtE.go ?_)
   refine AtC.seq ?_
   refine AtC.condB H rfl (fun H => ?_) (fun H => ?_)
   ·
    refine AtC.skip ?_
    refine AtE.then_n (AtE.go ?_)
    refine AtC.seq ?_
    refine AtC.block ?_
    refine AtC.seqR ?_
    obtain ⟨a_1_, hc5, hd5, H⟩ := H
    refine AtL.q rfl (Quiet1.idxS (s := _) hT rfl rfl rfl rfl rfl hc5 hd5) ?_
    obtain ⟨v_2, hc6, H⟩ := H
    refine AtL.q rfl (Quiet1.load hT rfl rfl rfl hc6) ?_
    refine AtL.pures hT 1 _ _ _ _ rfl ?_
    refine AtL.nil ?_
    refine AtE.then_n (AtE.go ?_)
    refine AtC.region ?_
    refine AtL.pures hT 2 _ _ _ _ rfl ?_
    refine AtL.e rfl (EffX.appendS (s := _) (u := _) hT rfl rfl rfl rfl rfl rfl rfl rfl rfl rfl (by decide) H) ?_
    rintro _ _ ⟨v_3, h0u4, rfl, rfl, H⟩
    refine AtL.pures hT 1 _ _ _ _ rfl ?_
    refine AtL.nil ?_
    refine AtE.blk_n ?_
    refine AtE.then_n (AtE.go ?_)
    refine AtC.region ?_
    refine AtL.pures hT 2 _ _ _ _ rfl ?_
    refine AtL.nil ?_
    exact AtE.then_n ((HK5 _ _ H).pickP (ts := [6, 27, 25, 26]) (is := []) rfl rfl (by decide) rfl)
   ·
    refine AtC.exit ?_
    refine AtE.then_x ?_
    refine AtE.then_x ?_
    refine AtE.blk_hit ?_
    refine AtE.then_n (AtE.go ?_)
    refine AtC.seqR ?_
    refine AtL.pures hT 2 _ _ _ _ rfl ?_
    refine AtL.nil ?_
    refine AtE.then_n (AtE.go ?_)
    refine AtC.ret ?_
    exact AtE.retN (rs := [.tmp 2]) rfl (ResAll.cons (ResAt.tmp rfl) ResAll.nil) rfl H

theorem lift_clause_Run (s0 : (Option Addr)) (w : World) (m : Heap) (hr : Rel ⟨m, []⟩ w.heap) (S : Int → Heap → Prop) (H : clause_Run s0 m S) :
    Calls Try.prog 13 #[Value.pointer s0] w (Post ⟨w, m⟩ (Value.int .i64) S) := by
  refine Calls.lift (args := [Value.pointer s0]) Try.func13 rfl Try.ntmps13 (Nat.le_of_ble_eq_true rfl) hr (clause_Run s0 m S) H (fun H => ?_)
  refine AtC.pick (ts := [0]) rfl ?_
  unfold clause_Run at H
  refine AtC.seqR ?_
  refine AtL.pures hT 1 _ _ _ _ rfl ?_
  refine AtL.nil ?_
  refine AtE.then_n (AtE.go ?_)
  refine AtC.scope ?_
  refine AtC.seqR ?_
  refine AtL.pures hT 1 _ _ _ _ rfl ?_
  refine AtL.nil ?_
  refine AtE.then_n (AtE.go ?_)
  refine AtC.seq ?_
  refine AtC.label ?_
  refine AtE.then_n (AtE.go ?_)
  refine AtC.joinSeq (β := Unit) (fun (t0 : Int) (bb : Unit) => [(3, Value.int .i64 t0)]) (fun (t0 : Int) (bb : Unit) => []) [0] [] H (by exact rfl) (by exact rfl) (fun t0 bb h0 H => ?_) (fun J1 H HK1 => ?_)
  ·
   refine AtC.joinSeq (β := Unit) (fun (t0u2 : Unit) (bb_2 : Unit) => []) (fun (t0u2 : Unit) (bb_2 : Unit) => []) [3] [] H (by exact rfl) (by exact rfl) (fun t0u2 bb_2 h0u20 H => ?_) (fun J55 H HK55 => ?_)
   ·
    refine AtC.seqR ?_
    refine AtL.pures hT 2 _ _ _ _ rfl ?_
    refine AtL.nil ?_
    refine AtE.then_n (AtE.go ?_)
    refine AtC.ret ?_
    refine AtE.ng_r ?_
    exact AtE.retN (rs := [.tmp 2]) rfl (ResAll.cons (ResAt.tmp rfl) ResAll.nil) rfl H
   ·
    refine AtC.seqR ?_
    refine AtL.pures hT 2 _ _ _ _ rfl ?_
    refine AtL.nil ?_
    refine AtE.then_n (AtE.go ?_)
    refine AtC.condB H rfl (fun H => ?_) (fun H => ?_)
    ·
     refine AtC.region ?_
     refine AtL.pures hT 1 _ _ _ _ rfl ?_
     obtain ⟨a_22, hc55, H⟩ := H
     refine AtL.q rfl (Quiet1.nilChk rfl rfl hc55) ?_
     refine AtL.pures hT 1 _ _ _ _ rfl ?_
     obtain ⟨v_29, hc56, H⟩ := H
     refine AtL.q rfl (Quiet1.load hT rfl rfl rfl hc56) ?_
     refine AtL.pures hT 1 _ _ _ _ rfl ?_
     obtain ⟨a_23_, hc57, hd57, H⟩ := H
     refine AtL.q rfl (Quiet1.idxS (s := _) hT rfl rfl rfl rfl rfl hc57 hd57) ?_
     refine AtL.pures hT 1 _ _ _ _ rfl ?_
     obtain ⟨v_30, hc58, H⟩ := H
     refine AtL.q rfl (Quiet1.load hT rfl rfl rfl hc58) ?_
     refine AtL.pures hT 1 _ _ _ _ rfl ?_
     obtain ⟨a_24_, hc59, hd59, H⟩ := H
     refine AtL.q rfl (Quiet1.idxS (s := _) hT rfl rfl rfl rfl rfl hc59 hd59) ?_
     refine AtL.pures hT 1 _ _ _ _ rfl ?_
     refine AtL.e rfl (EffX.store hT rfl rfl rfl rfl rfl H) ?_
     rintro _ _ ⟨h0u21, rfl, H⟩
     refine AtL.nil ?_
     exact AtE.then_n ((HK55 _ () _ H).pickP (ts := [3]) (is := []) rfl rfl (by decide) rfl)
    ·
     refine AtC.skip ?_
     exact AtE.then_n ((HK55 _ () _ H).pickP (ts := [3]) (is := []) rfl rfl (by decide) rfl)
  ·
   refine AtC.block ?_
   refine AtC.loopM (fun (s0u1 : Int) => [(3, Value.int .i64 s0u1)]) (fun (s0u1 : Int) => []) [0] [3, 0] [] [] H (by exact rfl) (by exact rfl) (by exact rfl) (by decide) (by exact rfl) (fun Kp2 s0u1 h0u1 H Q2 HK2 => ?_)
   refine AtC.seq ?_
   refine AtC.seqD hmix (by kernel_rfl) ?_
   refine AtD.pures hT 1 _ _ _ _ rfl ?_
   obtain ⟨a, hc2, H⟩ := H
   refine AtD.q rfl (Quiet1.nilChk rfl rfl hc2) ?_
   refine AtD.pures hT 1 _ _ _ _ rfl ?_
   obtain ⟨v, hc3, H⟩ := H
   refine AtD.q rfl (Quiet1.load hT rfl rfl rfl hc3) ?_
   refine AtD.pures hT 1 _ _ _ _ rfl ?_
   obtain ⟨a_1, hc4, H⟩ := H
   refine AtD.q rfl (Quiet1.nilChk rfl rfl hc4) ?_
   refine AtD.pures hT 1 _ _ _ _ rfl ?_
   obtain ⟨v_1, hc5, H⟩ := H
   refine AtD.q rfl (Quiet1.load hT rfl rfl rfl hc5) ?_
   refine AtD.pures hT 2 _ _ _ _ rfl ?_
   refine AtD.nil ?_
   refine AtE.then_n (AtE.go ?_)
   refine AtC.condB H rfl (fun H => ?_) (fun H => ?_)
   ·
    refine AtC.skip ?_
    refine AtE.then_n (AtE.go ?_)
    refine AtC.block ?_
    refine AtC.seqD hmix (by kernel_rfl) ?_
    refine AtD.pures hT 1 _ _ _ _ rfl ?_
    obtain ⟨a_2, hc6, H⟩ := H
    refine AtD.q rfl (Quiet1.nilChk rfl rfl hc6) ?_
    refine AtD.pures hT 1 _ _ _ _ rfl ?_
    obtain ⟨v_2, hc7, H⟩ := H
    refine AtD.q rfl (Quiet1.load hT rfl rfl rfl hc7) ?_
    refine AtD.pures hT 1 _ _ _ _ rfl ?_
    obtain ⟨a_3, hc8, H⟩ := H
    refine AtD.q rfl (Quiet1.nilChk rfl rfl hc8) ?_
    refine AtD.pures hT 1 _ _ _ _ rfl ?_
    obtain ⟨v_3, hc9, H⟩ := H
    refine AtD.q rfl (Quiet1.load hT rfl rfl rfl hc9) ?_
    obtain ⟨a_4_, hc10, hd10, H⟩ := H
    refine AtD.q rfl (Quiet1.idxS (s := _) hT rfl rfl rfl rfl rfl hc10 hd10) ?_
    obtain ⟨v_4, hc11, H⟩ := H
    refine AtD.q rfl (Quiet1.load hT rfl rfl rfl hc11) ?_
    refine AtD.pures hT 2 _ _ _ _ rfl ?_
    replace H := H _ rfl
    refine AtD.nil ?_
    refine AtE.then_n (AtE.go ?_)
    refine AtC.seqR ?_
    refine AtL.pures hT 1 _ _ _ _ rfl ?_
    obtain ⟨a_5, hc12, H⟩ := H
    refine AtL.q rfl (Quiet1.nilChk rfl rfl hc12) ?_
    refine AtL.pures hT 1 _ _ _ _ rfl ?_
    obtain ⟨v_5, hc13, H⟩ := H
    refine AtL.q rfl (Quiet1.load hT rfl rfl rfl hc13) ?_
    refine AtL.pures hT 1 _ _ _ _ rfl ?_
    obtain ⟨a_6, hc14, H⟩ := H
    refine AtL.q rfl (Quiet1.nilChk rfl rfl hc14) ?_
    refine AtL.pures hT 1 _ _ _ _ rfl ?_
    refine AtL.e rfl (EffX.store hT rfl rfl rfl rfl rfl H) ?_
    rintro _ _ ⟨h0u2, rfl, H⟩
    refine AtL.nil ?_
    refine AtE.then_n (AtE.go ?_)
    obtain ⟨a_7, hc15, H⟩ := H
    obtain ⟨v_6, hc16, H⟩ := H
    apply AtC.seqS [5] [[], [], [], [], [], [], [5], [5], [5]] [[], [0], [0, 1], [0, 1, 2], [], [4], [0, 1, 2, 3, 4, 5], [0, 1, 2, 3, 4, 5, 6], [0, 1, 2, 3, 4, 5, 6, 7]] hmix (by kernel_rfl) [(38, _), (39, _), (40, _), (41, _), (42, _)] rfl 1 rfl
    refine Stg.go [0, 1, 2, 3, 4] [5] rfl rfl (QAll.cons (QOp.p hT rfl rfl rfl rfl rfl) (QAll.cons (QOp.q rfl rfl (Quiet1.nilChk rfl rfl hc15) rfl rfl) (QAll.cons (QOp.p hT rfl rfl rfl rfl rfl) (QAll.cons (QOp.q rfl rfl (Quiet1.load hT rfl rfl rfl hc16) rfl rfl) (QAll.cons (QOp.p hT rfl rfl rfl rfl rfl) QAll.nil))))) ?_
    refine EAll.cons ?_ EAll.nil
    refine EOp.e rfl rfl rfl (EffX.call (f := 37) (sh := fun h => clause_watch _ h _) (H0 := H) rfl Try.call37 rfl (hl := fun w m hr hw => lift_clause_watch _ w m hr _ hw)) ?_
    rintro _ _ ⟨v_7, h0u3, rfl, rfl, H⟩
    obtain ⟨hc17, H⟩ := H
    obtain ⟨a_8_, hc18, hd18, H⟩ := H
    obtain ⟨v_8, hc19, H⟩ := H
    apply Stg.next [(43, _), (44, _), (45, _), (5, _)] rfl rfl
    refine Stg.fin [0, 1, 2, 3, 6, 7, 8] rfl rfl (QAll.cons (QOp.p hT rfl rfl rfl rfl rfl) (QAll.cons (QOp.q rfl rfl (Quiet1.nilChk rfl rfl hc15) rfl rfl) (QAll.cons (QOp.p hT rfl rfl rfl rfl rfl) (QAll.cons (QOp.q rfl rfl (Quiet1.load hT rfl rfl rfl hc17) rfl rfl) (QAll.cons (QOp.q rfl rfl (Quiet1.idxS (s := _) hT rfl rfl rfl rfl rfl hc18 hd18) rfl rfl) (QAll.cons (QOp.q rfl rfl (Quiet1.load hT rfl rfl rfl hc19) rfl rfl) (QAll.cons (QOp.p hT rfl rfl rfl rfl rfl) QAll.nil))))))) ?_
    refine AtE.then_n (AtE.go ?_)
    obtain ⟨a_9, hc20, H⟩ := H
    obtain ⟨v_9, hc21, H⟩ := H
    apply AtC.seqS [5, 7] [[], [], [], [], [], [], [5], [5]] [[], [0], [0, 1], [0, 1, 2], [], [4], [0, 1, 2, 3, 4, 5], [0, 1, 2, 3, 4, 5, 6]] hmix (by kernel_rfl) [(46, _), (47, _), (48, _), (49, _), (50, _)] rfl 2 rfl
    refine Stg.go [0, 1, 2, 3, 4] [5] rfl rfl (QAll.cons (QOp.p hT rfl rfl rfl rfl rfl) (QAll.cons (QOp.q rfl rfl (Quiet1.nilChk rfl rfl hc20) rfl rfl) (QAll.cons (QOp.p hT rfl rfl rfl rfl rfl) (QAll.cons (QOp.q rfl rfl (Quiet1.load hT rfl rfl rfl hc21) rfl rfl) (QAll.cons (QOp.p hT rfl rfl rfl rfl rfl) QAll.nil))))) ?_
    refine EAll.cons ?_ EAll.nil
    refine EOp.e rfl rfl rfl (EffX.call (f := 37) (sh := fun h => clause_watch _ h _) (H0 := H) rfl Try.call37 rfl (hl := fun w m hr hw => lift_clause_watch _ w m hr _ hw)) ?_
    rintro _ _ ⟨v_10, h0u4, rfl, rfl, H⟩
    obtain ⟨hc22, H⟩ := H
    obtain ⟨a_10_, hc23, hd23, H⟩ := H
    apply Stg.next [(51, _), (52, _)] rfl rfl
    refine Stg.go [0, 1, 2, 3, 6] [7] rfl rfl (QAll.cons (QOp.p hT rfl rfl rfl rfl rfl) (QAll.cons (QOp.q rfl rfl (Quiet1.nilChk rfl rfl hc20) rfl rfl) (QAll.cons (QOp.p hT rfl rfl rfl rfl rfl) (QAll.cons (QOp.q rfl rfl (Quiet1.load hT rfl rfl rfl hc22) rfl rfl) (QAll.cons (QOp.q rfl rfl (Quiet1.idxS (s := _) hT rfl rfl rfl rfl rfl hc23 hd23) rfl rfl) QAll.nil))))) ?_
    refine EAll.cons ?_ EAll.nil
    refine EOp.e rfl rfl rfl (EffX.store hT rfl rfl rfl rfl rfl H) ?_
    rintro _ _ ⟨h0u5, rfl, H⟩
    apply Stg.next [] rfl rfl
    refine Stg.fin [] rfl rfl QAll.nil ?_
    refine AtE.then_n (AtE.go ?_)
    refine AtC.seqR ?_
    refine AtL.pures hT 1 _ _ _ _ rfl ?_
    refine AtL.nil ?_
    refine AtE.then_n (AtE.go ?_)
    refine AtC.seq ?_
    refine AtC.seqR ?_
    refine AtL.pures hT 3 _ _ _ _ rfl ?_
    refine AtL.nil ?_
    refine AtE.then_n (AtE.go ?_)
    refine AtC.block ?_
    refine AtC.loopM (fun (s0u2 : Int × Sl × Int) => [(3, Value.int .i64 s0u2.1), (6, Sl.toV s0u2.2.1), (55, Value.int .i64 s0u2.2.2)]) (fun (s0u2 : Int × Sl × Int) => []) [0, 4, 5, 53, 54] [3, 6, 55, 0, 4, 5, 53, 54] [] [] H (by exact rfl) (by exact rfl) (by exact rfl) (by decide) (by exact rfl) (fun Kp25 s0u2 h0u6 H Q25 HK25 => ?_)
    refine AtC.seqR ?_
    refine AtL.pures hT 1 _ _ _ _ rfl ?_
    refine AtL.nil ?_
    refine AtE.then_n (AtE.go ?_)
    refine AtC.seq ?_
    refine AtC.condB H rfl (fun H => ?_) (fun H => ?_)
    ·
     refine AtC.skip ?_
     refine AtE.then_n (AtE.go ?_)
     refine AtC.seq ?_
     refine AtC.block ?_
     refine AtC.seqR ?_
     refine AtL.pures hT 1 _ _ _ _ rfl ?_
     obtain ⟨a_11_, hc25, hd25, H⟩ := H
     refine AtL.q rfl (Quiet1.idxS (s := _) hT rfl rfl rfl rfl rfl hc25 hd25) ?_
     obtain ⟨v_11, hc26, H⟩ := H
     refine AtL.q rfl (Quiet1.load hT rfl rfl rfl hc26) ?_
     refine AtL.pures hT 2 _ _ _ _ rfl ?_
     refine AtL.nil ?_
     refine AtE.then_n (AtE.go ?_)
     refine AtC.seqR ?_
     refine AtL.pures hT 3 _ _ _ _ rfl ?_
     refine AtL.e rfl (EffX.call (f := 38) (sh := fun h => clause_ask _ _ _ h _) (H0 := H) rfl Try.call38 rfl (hl := fun w m hr hw => lift_clause_ask _ _ _ w m hr _ hw)) ?_
     rintro _ _ ⟨v_12, h0u7, rfl, rfl, H⟩
     refine AtL.pures hT 1 _ _ _ _ rfl ?_
     refine AtL.nil ?_
     refine AtE.then_n (AtE.go ?_)
     refine AtC.joinSeq (β := Unit) (fun (t0u1 : Sl) (bb_1 : Unit) => [(6, Sl.toV t0u1)]) (fun (t0u1 : Sl) (bb_1 : Unit) => []) [0, 3, 4, 5, 7, 8, 9, 53, 54, 55] [] H (by exact rfl) (by exact rfl) (fun t0u1 bb_1 h0u8 H => ?_) (fun J28 H HK28 => ?_)
     ·
      refine AtC.seqR ?_
      refine AtL.pures hT 2 _ _ _ _ rfl ?_
      refine AtL.nil ?_
      refine AtE.then_n (AtE.go ?_)
      refine AtC.condB H rfl (fun H => ?_) (fun H => ?_)
      ·
       refine AtC.seqR ?_
       refine AtL.pures hT 2 _ _ _ _ rfl ?_
       refine AtL.nil ?_
       refine AtE.then_n (AtE.go ?_)
       obtain ⟨a_13, hc28, H⟩ := H
       obtain ⟨v_15, hc29, H⟩ := H
       obtain ⟨v_16, hs30, H⟩ := sliceOf.out H
       obtain ⟨a_14, hc31, H⟩ := H
       obtain ⟨v_17, hc32, H⟩ := H
       apply AtC.seqS [5, 16, 19, 20, 22] [[], [], [], [], [], [], [], [], [], [], [], [], [], [], [], [], [5], [5, 16], [5, 16], [5, 16], [5, 16, 19], [5, 16, 19, 20], [5, 16, 19, 20]] [[], [0], [0, 1], [0, 1, 2], [], [4], [], [], [], [8], [7, 8, 9], [], [11], [11, 12], [11, 12, 13], [], [4, 5, 15], [4, 5, 11, 12, 13, 14, 15, 16], [4, 5, 11, 12, 13, 14, 15, 16, 17], [4, 5, 6, 7, 8, 9, 10, 11, 12, 13, 14, 15, 16, 17, 18], [4, 5, 6, 7, 8, 9, 10, 11, 12, 13, 14, 15, 16, 17, 18, 19], [0, 1, 2, 3, 4, 5, 6, 7, 8, 9, 10, 11, 12, 13, 14, 15, 16, 17, 18, 19, 20], [0, 1, 2, 3, 4, 5, 6, 7, 8, 9, 10, 11, 12, 13, 14, 15, 16, 17, 18, 19, 20, 21]] hmix (by kernel_rfl) [(73, _), (74, _), (75, _), (76, _), (77, _), (79, _), (80, _), (81, _), (82, _), (83, _), (84, _), (85, _), (86, _), (87, _), (88, _)] rfl 5 rfl
       refine Stg.go [0, 1, 2, 3, 4, 6, 7, 8, 9, 10, 11, 12, 13, 14, 15] [5] rfl rfl (QAll.cons (QOp.p hT rfl rfl rfl rfl rfl) (QAll.cons (QOp.q rfl rfl (Quiet1.nilChk rfl rfl hc28) rfl rfl) (QAll.cons (QOp.p hT rfl rfl rfl rfl rfl) (QAll.cons (QOp.q rfl rfl (Quiet1.load hT rfl rfl rfl hc29) rfl rfl) (QAll.cons (QOp.p hT rfl rfl rfl rfl rfl) (QAll.cons (QOp.p hT rfl rfl rfl rfl rfl) (QAll.cons (QOp.p hT rfl rfl rfl rfl rfl) (QAll.cons (QOp.p hT rfl rfl rfl rfl rfl) (QAll.cons (QOp.p hT rfl rfl rfl rfl rfl) (QAll.cons (QOp.q rfl rfl (Quiet1.sliceIs hT rfl rfl rfl rfl rfl rfl rfl (fun h => by cases h <;> rfl) hs30) rfl rfl) (QAll.cons (QOp.p hT rfl rfl rfl rfl rfl) (QAll.cons (QOp.q rfl rfl (Quiet1.nilChk rfl rfl hc31) rfl rfl) (QAll.cons (QOp.p hT rfl rfl rfl rfl rfl) (QAll.cons (QOp.q rfl rfl (Quiet1.load hT rfl rfl rfl hc32) rfl rfl) (QAll.cons (QOp.p hT rfl rfl rfl rfl rfl) QAll.nil))))))))))))))) ?_
       refine EAll.cons ?_ EAll.nil
       refine EOp.e rfl rfl rfl (EffX.call (f := 37) (sh := fun h => clause_watch _ h _) (H0 := H) rfl Try.call37 rfl (hl := fun w m hr hw => lift_clause_watch _ w m hr _ hw)) ?_
       rintro _ _ ⟨v_18, h0u11, rfl, rfl, H⟩
       obtain ⟨hc33, H⟩ := H
       obtain ⟨hc34, H⟩ := H
       apply Stg.next [(78, _)] rfl rfl
       refine Stg.go [0, 1, 2, 3, 6, 7, 8, 9, 10, 11, 12, 13, 14, 15] [16] rfl rfl (QAll.cons (QOp.p hT rfl rfl rfl rfl rfl) (QAll.cons (QOp.q rfl rfl (Quiet1.nilChk rfl rfl hc28) rfl rfl) (QAll.cons (QOp.p hT rfl rfl rfl rfl rfl) (QAll.cons (QOp.q rfl rfl (Quiet1.load hT rfl rfl rfl hc33) rfl rfl) (QAll.cons (QOp.p hT rfl rfl rfl rfl rfl) (QAll.cons (QOp.p hT rfl rfl rfl rfl rfl) (QAll.cons (QOp.p hT rfl rfl rfl rfl rfl) (QAll.cons (QOp.p hT rfl rfl rfl rfl rfl) (QAll.cons (QOp.q rfl rfl (Quiet1.sliceIs hT rfl rfl rfl rfl rfl rfl rfl (fun h => by cases h <;> rfl) hs30) rfl rfl) (QAll.cons (QOp.p hT rfl rfl rfl rfl rfl) (QAll.cons (QOp.q rfl rfl (Quiet1.nilChk rfl rfl hc31) rfl rfl) (QAll.cons (QOp.p hT rfl rfl rfl rfl rfl) (QAll.cons (QOp.q rfl rfl (Quiet1.load hT rfl rfl rfl hc34) rfl rfl) (QAll.cons (QOp.p hT rfl rfl rfl rfl rfl) QAll.nil)))))))))))))) ?_
       refine EAll.cons ?_ EAll.nil
       refine EOp.e rfl rfl rfl (EffX.call (f := 37) (sh := fun h => clause_watch _ h _) (H0 := H) rfl Try.call37 rfl (hl := fun w m hr hw => lift_clause_watch _ w m hr _ hw)) ?_
       rintro _ _ ⟨v_19, h0u12, rfl, rfl, H⟩
       obtain ⟨hc35, H⟩ := H
       obtain ⟨hc36, H⟩ := H
       obtain ⟨a_15_, hc37, hd37, H⟩ := H
       obtain ⟨v_20, hc38, H⟩ := H
       apply Stg.next [(89, _), (90, _), (91, _)] rfl rfl
       refine Stg.go [0, 1, 2, 3, 6, 7, 8, 9, 10, 11, 12, 13, 14, 17, 18] [19] rfl rfl (QAll.cons (QOp.p hT rfl rfl rfl rfl rfl) (QAll.cons (QOp.q rfl rfl (Quiet1.nilChk rfl rfl hc28) rfl rfl) (QAll.cons (QOp.p hT rfl rfl rfl rfl rfl) (QAll.cons (QOp.q rfl rfl (Quiet1.load hT rfl rfl rfl hc35) rfl rfl) (QAll.cons (QOp.p hT rfl rfl rfl rfl rfl) (QAll.cons (QOp.p hT rfl rfl rfl rfl rfl) (QAll.cons (QOp.p hT rfl rfl rfl rfl rfl) (QAll.cons (QOp.p hT rfl rfl rfl rfl rfl) (QAll.cons (QOp.q rfl rfl (Quiet1.sliceIs hT rfl rfl rfl rfl rfl rfl rfl (fun h => by cases h <;> rfl) hs30) rfl rfl) (QAll.cons (QOp.p hT rfl rfl rfl rfl rfl) (QAll.cons (QOp.q rfl rfl (Quiet1.nilChk rfl rfl hc31) rfl rfl) (QAll.cons (QOp.p hT rfl rfl rfl rfl rfl) (QAll.cons (QOp.q rfl rfl (Quiet1.load hT rfl rfl rfl hc36) rfl rfl) (QAll.cons (QOp.q rfl rfl (Quiet1.idxS (s := _) hT rfl rfl rfl rfl rfl hc37 hd37) rfl rfl) (QAll.cons (QOp.q rfl rfl (Quiet1.load hT rfl rfl rfl hc38) rfl rfl) QAll.nil))))))))))))))) ?_
       refine EAll.cons ?_ EAll.nil
       refine EOp.e rfl rfl rfl (EffX.buildS2 (cs := [_, _, _]) hT rfl rfl rfl rfl rfl rfl rfl rfl H) ?_
       rintro _ _ ⟨a_16, h0u13, rfl, rfl, H⟩
       obtain ⟨hc39, H⟩ := H
       apply Stg.next [(92, _)] rfl rfl
       refine Stg.go [0, 1, 2, 3] [20] rfl rfl (QAll.cons (QOp.p hT rfl rfl rfl rfl rfl) (QAll.cons (QOp.q rfl rfl (Quiet1.nilChk rfl rfl hc28) rfl rfl) (QAll.cons (QOp.p hT rfl rfl rfl rfl rfl) (QAll.cons (QOp.q rfl rfl (Quiet1.load hT rfl rfl rfl hc39) rfl rfl) QAll.nil)))) ?_
       refine EAll.cons ?_ EAll.nil
       refine EOp.e rfl rfl rfl (EffX.call (f := 39) (sh := fun h => slices_Concat_int_int _ h _) (H0 := H) rfl Try.call39 rfl (hl := fun w m hr hw => lift_slices_Concat_int_int _ w m hr _ hw)) ?_
       rintro _ _ ⟨v_22, h0u14, rfl, rfl, H⟩
       obtain ⟨hc40, H⟩ := H
       obtain ⟨a_17_, hc41, hd41, H⟩ := H
       apply Stg.next [(93, _), (94, _)] rfl rfl
       refine Stg.go [0, 1, 2, 3, 21] [22] rfl rfl (QAll.cons (QOp.p hT rfl rfl rfl rfl rfl) (QAll.cons (QOp.q rfl rfl (Quiet1.nilChk rfl rfl hc28) rfl rfl) (QAll.cons (QOp.p hT rfl rfl rfl rfl rfl) (QAll.cons (QOp.q rfl rfl (Quiet1.load hT rfl rfl rfl hc40) rfl rfl) (QAll.cons (QOp.q rfl rfl (Quiet1.idxS (s := _) hT rfl rfl rfl rfl rfl hc41 hd41) rfl rfl) QAll.nil))))) ?_
       refine EAll.cons ?_ EAll.nil
       refine EOp.e rfl rfl rfl (EffX.store hT rfl rfl rfl rfl rfl H) ?_
       rintro _ _ ⟨h0u15, rfl, H⟩
       apply Stg.next [] rfl rfl
       refine Stg.fin [] rfl rfl QAll.nil ?_
       refine AtE.then_n (AtE.go ?_)
       refine AtC.exit ?_
       refine AtE.blk_miss rfl ?_
       refine AtE.then_x ?_
       refine AtE.then_x ?_
       refine AtE.blk_miss rfl ?_
       refine AtE.then_x ?_
       refine AtE.blk_miss rfl ?_
       refine AtE.then_x ?_
       refine AtE.blk_hit ?_
       exact AtE.then_n ((HK1 _ () _ H).pickP (ts := [3, 0]) (is := []) rfl rfl (by decide) rfl)
      ·
       refine AtC.skip ?_
       refine AtE.blk_n ?_
       refine AtE.then_n (AtE.go ?_)
       refine AtC.region ?_
       refine AtL.pures hT 2 _ _ _ _ rfl ?_
       refine AtL.nil ?_
       exact AtE.then_n ((HK25 _ _ H).pickP (ts := [3, 6, 55, 0, 4, 5, 53, 54]) (is := []) rfl rfl (by decide) rfl)
     ·
      refine AtC.seqR ?_
      refine AtL.pures hT 2 _ _ _ _ rfl ?_
      refine AtL.nil ?_
      refine AtE.then_n (AtE.go ?_)
      refine AtC.condB H rfl (fun H => ?_) (fun H => ?_)
      ·
       refine AtC.region ?_
       refine AtL.pures hT 2 _ _ _ _ rfl ?_
       refine AtLX.bs (hT := hT) (cs := [_]) H rfl rfl rfl rfl rfl rfl rfl rfl rfl (fun a_12 h0u9 H => ?_)
       refine AtL.e rfl (EffX.appendS (s := _) (u := _) hT rfl rfl rfl rfl rfl rfl rfl rfl rfl rfl (by decide) H) ?_
       rintro _ _ ⟨v_14, h0u10, rfl, rfl, H⟩
       refine AtL.pures hT 1 _ _ _ _ rfl ?_
       refine AtL.nil ?_
       exact AtE.then_n ((HK28 _ () _ H).pickP (ts := [6, 0, 3, 4, 5, 7, 8, 9, 53, 54, 55]) (is := []) rfl rfl (by decide) rfl)
      ·
       refine AtC.skip ?_
       exact AtE.then_n ((HK28 _ () _ H).pickP (ts := [6, 0, 3, 4, 5, 7, 8, 9, 53, 54, 55]) (is := []) rfl rfl (by decide) rfl)
    ·
     refine AtC.exit ?_
     refine AtE.then_x ?_
     refine AtE.then_x ?_
     refine AtE.blk_hit ?_
     refine AtE.then_n (AtE.go ?_)
     obtain ⟨a_18, hc42, H⟩ := H
     obtain ⟨v_23, hc43, H⟩ := H
     obtain ⟨a_19, hc44, H⟩ := H
     obtain ⟨v_24, hc45, H⟩ := H
     apply AtC.stages [5, 12, 15, 17] [[], [], [], [], [], [], [], [], [], [], [], [], [5], [5, 12], [5, 12], [5, 12], [5, 12, 15], [5, 12, 15]] [[], [0], [0, 1], [0, 1, 2], [], [4], [], [], [7], [7, 8], [7, 8, 9], [], [4, 5, 11], [4, 5, 7, 8, 9, 10, 11, 12], [4, 5, 7, 8, 9, 10, 11, 12, 13], [4, 5, 6, 7, 8, 9, 10, 11, 12, 13, 14], [0, 1, 2, 3, 4, 5, 6, 7, 8, 9, 10, 11, 12, 13, 14, 15], [0, 1, 2, 3, 4, 5, 6, 7, 8, 9, 10, 11, 12, 13, 14, 15, 16]] hmix (by kernel_rfl) [(96, _), (97, _), (98, _), (99, _), (100, _), (102, _), (103, _), (104, _), (105, _), (106, _), (107, _)] rfl 4 rfl
     refine Stg.go [0, 1, 2, 3, 4, 6, 7, 8, 9, 10, 11] [5] rfl rfl (QAll.cons (QOp.p hT rfl rfl rfl rfl rfl) (QAll.cons (QOp.q rfl rfl (Quiet1.nilChk rfl rfl hc42) rfl rfl) (QAll.cons (QOp.p hT rfl rfl rfl rfl rfl) (QAll.cons (QOp.q rfl rfl (Quiet1.load hT rfl rfl rfl hc43) rfl rfl) (QAll.cons (QOp.p hT rfl rfl rfl rfl rfl) (QAll.cons (QOp.p hT rfl rfl rfl rfl rfl) (QAll.cons (QOp.p hT rfl rfl rfl rfl rfl) (QAll.cons (QOp.q rfl rfl (Quiet1.nilChk rfl rfl hc44) rfl rfl) (QAll.cons (QOp.p hT rfl rfl rfl rfl rfl) (QAll.cons (QOp.q rfl rfl (Quiet1.load hT rfl rfl rfl hc45) rfl rfl) (QAll.cons (QOp.p hT rfl rfl rfl rfl rfl) QAll.nil))))))))))) ?_
     refine EAll.cons ?_ EAll.nil
     refine EOp.e rfl rfl rfl (EffX.call (f := 37) (sh := fun h => clause_watch _ h _) (H0 := H) rfl Try.call37 rfl (hl := fun w m hr hw => lift_clause_watch _ w m hr _ hw)) ?_
     rintro _ _ ⟨v_25, h0u16, rfl, rfl, H⟩
     obtain ⟨hc46, H⟩ := H
     obtain ⟨hc47, H⟩ := H
     apply Stg.next [(101, _)] rfl rfl
     refine Stg.go [0, 1, 2, 3, 6, 7, 8, 9, 10, 11] [12] rfl rfl (QAll.cons (QOp.p hT rfl rfl rfl rfl rfl) (QAll.cons (QOp.q rfl rfl (Quiet1.nilChk rfl rfl hc42) rfl rfl) (QAll.cons (QOp.p hT rfl rfl rfl rfl rfl) (QAll.cons (QOp.q rfl rfl (Quiet1.load hT rfl rfl rfl hc46) rfl rfl) (QAll.cons (QOp.p hT rfl rfl rfl rfl rfl) (QAll.cons (QOp.p hT rfl rfl rfl rfl rfl) (QAll.cons (QOp.q rfl rfl (Quiet1.nilChk rfl rfl hc44) rfl rfl) (QAll.cons (QOp.p hT rfl rfl rfl rfl rfl) (QAll.cons (QOp.q rfl rfl (Quiet1.load hT rfl rfl rfl hc47) rfl rfl) (QAll.cons (QOp.p hT rfl rfl rfl rfl rfl) QAll.nil)))))))))) ?_
     refine EAll.cons ?_ EAll.nil
     refine EOp.e rfl rfl rfl (EffX.call (f := 37) (sh := fun h => clause_watch _ h _) (H0 := H) rfl Try.call37 rfl (hl := fun w m hr hw => lift_clause_watch _ w m hr _ hw)) ?_
     rintro _ _ ⟨v_26, h0u17, rfl, rfl, H⟩
     obtain ⟨hc48, H⟩ := H
     obtain ⟨hc49, H⟩ := H
     obtain ⟨a_20_, hc50, hd50, H⟩ := H
     obtain ⟨v_27, hc51, H⟩ := H
     apply Stg.next [(108, _), (109, _), (110, _)] rfl rfl
     refine Stg.go [0, 1, 2, 3, 6, 7, 8, 9, 10, 13, 14] [15] rfl rfl (QAll.cons (QOp.p hT rfl rfl rfl rfl rfl) (QAll.cons (QOp.q rfl rfl (Quiet1.nilChk rfl rfl hc42) rfl rfl) (QAll.cons (QOp.p hT rfl rfl rfl rfl rfl) (QAll.cons (QOp.q rfl rfl (Quiet1.load hT rfl rfl rfl hc48) rfl rfl) (QAll.cons (QOp.p hT rfl rfl rfl rfl rfl) (QAll.cons (QOp.p hT rfl rfl rfl rfl rfl) (QAll.cons (QOp.q rfl rfl (Quiet1.nilChk rfl rfl hc44) rfl rfl) (QAll.cons (QOp.p hT rfl rfl rfl rfl rfl) (QAll.cons (QOp.q rfl rfl (Quiet1.load hT rfl rfl rfl hc49) rfl rfl) (QAll.cons (QOp.q rfl rfl (Quiet1.idxS (s := _) hT rfl rfl rfl rfl rfl hc50 hd50) rfl rfl) (QAll.cons (QOp.q rfl rfl (Quiet1.load hT rfl rfl rfl hc51) rfl rfl) QAll.nil))))))))))) ?_
     refine EAll.cons ?_ EAll.nil
     refine EOp.e rfl rfl rfl (EffX.appendS (s := _) (u := _) hT rfl rfl rfl rfl rfl rfl rfl rfl rfl rfl (by decide) H) ?_
     rintro _ _ ⟨v_28, h0u18, rfl, rfl, H⟩
     obtain ⟨hc52, H⟩ := H
     obtain ⟨a_21_, hc53, hd53, H⟩ := H
     apply Stg.next [(111, _), (112, _)] rfl rfl
     refine Stg.go [0, 1, 2, 3, 16] [17] rfl rfl (QAll.cons (QOp.p hT rfl rfl rfl rfl rfl) (QAll.cons (QOp.q rfl rfl (Quiet1.nilChk rfl rfl hc42) rfl rfl) (QAll.cons (QOp.p hT rfl rfl rfl rfl rfl) (QAll.cons (QOp.q rfl rfl (Quiet1.load hT rfl rfl rfl hc52) rfl rfl) (QAll.cons (QOp.q rfl rfl (Quiet1.idxS (s := _) hT rfl rfl rfl rfl rfl hc53 hd53) rfl rfl) QAll.nil))))) ?_
     refine EAll.cons ?_ EAll.nil
     refine EOp.e rfl rfl rfl (EffX.store hT rfl rfl rfl rfl rfl H) ?_
     rintro _ _ ⟨h0u19, rfl, H⟩
     apply Stg.next [] rfl rfl
     refine Stg.fin [] rfl rfl QAll.nil ?_
     refine AtE.blk_n ?_
     exact AtE.then_n ((HK2 _ _ H).pickP (ts := [3, 0]) (is := []) rfl rfl (by decide) rfl)
   ·
    refine AtC.exit ?_
    refine AtE.then_x ?_
    refine AtE.then_x ?_
    refine AtE.blk_hit ?_
    exact AtE.then_n ((HK1 _ () _ H).pickP (ts := [3, 0]) (is := []) rfl rfl (by decide) rfl)

theorem lift_law18uspeaks (w : World) (m : Heap) (hr : Rel ⟨m, []⟩ w.heap) (S : Bool → Heap → Prop) (H : law18uspeaks m S) :
    Calls Try.prog 8 #[] w (Post ⟨w, m⟩ Value.bool S) := by
  refine Calls.lift (args := []) Try.func8 rfl Try.ntmps8 (Nat.le_of_ble_eq_true rfl) hr (law18uspeaks m S) H (fun H => ?_)
  refine AtC.pick (ts := []) rfl ?_
  unfold law18uspeaks at H
  refine AtC.seqR ?_
  refine AtL.pures hT 1 _ _ _ _ rfl ?_
  refine AtL.nil ?_
  refine AtE.then_n (AtE.go ?_)
  refine AtC.seqR ?_
  refine AtL.e rfl (EffX.call (f := 10) (sh := fun h => clause_New _ h _) (H0 := H) rfl Try.call10 rfl (hl := fun w m hr hw => lift_clause_New _ w m hr _ hw)) ?_
  rintro _ _ ⟨v, h0, rfl, rfl, H⟩
  refine AtL.e rfl (EffX.alloc hT rfl rfl H) ?_
  rintro _ _ ⟨s0, h0u1, rfl, rfl, H⟩
  refine AtL.e rfl (EffX.storeS hT rfl rfl rfl rfl rfl rfl H) ?_
  rintro _ _ ⟨h0u2, rfl, H⟩
  refine AtL.nil ?_
  refine AtE.then_n (AtE.go ?_)
  refine AtC.seqR ?_
  refine AtLX.bs (hT := hT) (cs := [_, _]) H rfl rfl rfl rfl rfl rfl rfl rfl rfl (fun a h0u3 H => ?_)
  refine AtL.e rfl (EffX.call (f := 11) (sh := fun h => clause_Add _ _ _ h _) (H0 := H) rfl Try.call11 rfl (hl := fun w m hr hw => lift_clause_Add _ _ _ w m hr _ hw)) ?_
  rintro _ _ ⟨v_2, h0u4, rfl, rfl, H⟩
  refine AtL.pures hT 5 _ _ _ _ rfl ?_
  refine AtL.nil ?_
  refine AtE.then_n (AtE.go ?_)
  refine AtC.seqR ?_
  refine AtL.e rfl (EffX.call (f := 12) (sh := fun h => clause_Tell _ _ _ h _) (H0 := H) rfl Try.call12 rfl (hl := fun w m hr hw => lift_clause_Tell _ _ _ w m hr _ hw)) ?_
  rintro _ _ ⟨v_3, h0u5, rfl, rfl, H⟩
  refine AtL.pures hT 1 _ _ _ _ rfl ?_
  refine AtL.nil ?_
  refine AtE.then_n (AtE.go ?_)
  refine AtC.joinSeq (β := Unit) (fun (t0 : Bool) (bb : Unit) => [(0, Value.bool t0)]) (fun (t0 : Bool) (bb : Unit) => []) [] [] H (by exact rfl) (by exact rfl) (fun t0 bb h0u6 H => ?_) (fun J1 H HK1 => ?_)
  ·
   refine AtC.ret ?_
   exact AtE.retN (rs := [.tmp 0]) rfl (ResAll.cons (ResAt.tmp rfl) ResAll.nil) rfl H
  ·
   refine AtC.region ?_
   refine AtL.pures hT 3 _ _ _ _ rfl ?_
   refine AtL.splitB (t := 14) H rfl (fun H => ?_) (fun H => ?_)
   ·
    refine AtL.yes rfl rfl rfl ?_
    refine AtL.pures hT 1 _ _ _ _ rfl ?_
    refine AtL.yes rfl rfl rfl ?_
    refine AtL.pures hT 1 _ _ _ _ rfl ?_
    refine AtL.pures hT 2 _ _ _ _ rfl ?_
    refine AtL.splitB (t := 18) H rfl (fun H => ?_) (fun H => ?_)
    ·
     refine AtL.yes rfl rfl rfl ?_
     refine AtL.pures hT 1 _ _ _ _ rfl ?_
     refine AtL.pures hT 2 _ _ _ _ rfl ?_
     refine AtL.splitB (t := 21) H rfl (fun H => ?_) (fun H => ?_)
     ·
      refine AtL.yes rfl rfl rfl ?_
      refine AtL.e rfl (EffX.call (f := 13) (sh := fun h => clause_Run _ h _) (H0 := H) rfl Try.call13 rfl (hl := fun w m hr hw => lift_clause_Run _ w m hr _ hw)) ?_
      rintro _ _ ⟨v_4, h0u7, rfl, rfl, H⟩
      refine AtL.yes rfl rfl rfl ?_
      refine AtL.pures hT 1 _ _ _ _ rfl ?_
      refine AtL.pures hT 2 _ _ _ _ rfl ?_
      refine AtL.splitB (t := 25) H rfl (fun H => ?_) (fun H => ?_)
      ·
       refine AtL.yes rfl rfl rfl ?_
       obtain ⟨v_5, hc1, H⟩ := H
       refine AtL.q rfl (Quiet1.loadS hT rfl rfl rfl rfl hc1) ?_
       refine AtL.yes rfl rfl rfl ?_
       refine AtL.e rfl (EffX.call (f := 31) (sh := fun h => clause_Value _ _ h _) (H0 := H) rfl Try.call31 rfl (hl := fun w m hr hw => lift_clause_Value _ _ w m hr _ hw)) ?_
       rintro _ _ ⟨v_6, h0u8, rfl, rfl, H⟩
       refine AtL.yes rfl rfl rfl ?_
       refine AtL.pures hT 1 _ _ _ _ rfl ?_
       refine AtL.pures hT 2 _ _ _ _ rfl ?_
       refine AtL.splitB (t := 30) H rfl (fun H => ?_) (fun H => ?_)
       ·
        refine AtL.yes rfl rfl rfl ?_
        refine AtL.pures hT 1 _ _ _ _ rfl ?_
        refine AtL.yes rfl rfl rfl ?_
        obtain ⟨v_7, hc2, H⟩ := H
        refine AtL.q rfl (Quiet1.load hT rfl rfl rfl hc2) ?_
        refine AtL.yes rfl rfl rfl ?_
        obtain ⟨a_1_, hc3, hd3, H⟩ := H
        refine AtL.q rfl (Quiet1.idxS (s := _) hT rfl rfl rfl rfl rfl hc3 hd3) ?_
        refine AtL.yes rfl rfl rfl ?_
        obtain ⟨v_8, hc4, H⟩ := H
        refine AtL.q rfl (Quiet1.load hT rfl rfl rfl hc4) ?_
        refine AtL.yes rfl rfl rfl ?_
        refine AtL.pures hT 1 _ _ _ _ rfl ?_
        refine AtL.pures hT 2 _ _ _ _ rfl ?_
        refine AtL.nil ?_
        exact AtE.then_n ((HK1 _ () _ H).pickP (ts := [0]) (is := []) rfl rfl (by decide) rfl)
       ·
        refine AtL.noF rfl rfl rfl (by decide) rfl ?_
        refine AtL.noF rfl rfl rfl (by decide) rfl ?_
        refine AtL.noF rfl rfl rfl (by decide) rfl ?_
        refine AtL.noF rfl rfl rfl (by decide) rfl ?_
        refine AtL.noF rfl rfl rfl (by decide) rfl ?_
        refine AtL.pures hT 2 _ _ _ _ rfl ?_
        refine AtL.nil ?_
        exact AtE.then_n ((HK1 _ () _ H).pickP (ts := [0]) (is := []) rfl rfl (by decide) rfl)
      ·
       refine AtL.noF rfl rfl rfl (by decide) rfl ?_
       refine AtL.noF rfl rfl rfl (by decide) rfl ?_
       refine AtL.noF rfl rfl rfl (by decide) rfl ?_
       refine AtL.pures hT 2 _ _ _ _ rfl ?_
       refine AtL.noF rfl rfl rfl (by decide) rfl ?_
       refine AtL.noF rfl rfl rfl (by decide) rfl ?_
       refine AtL.noF rfl rfl rfl (by decide) rfl ?_
       refine AtL.noF rfl rfl rfl (by decide) rfl ?_
       refine AtL.noF rfl rfl rfl (by decide) rfl ?_
       refine AtL.pures hT 2 _ _ _ _ rfl ?_
       refine AtL.nil ?_
       exact AtE.then_n ((HK1 _ () _ H).pickP (ts := [0]) (is := []) rfl rfl (by decide) rfl)
     ·
      refine AtL.noF rfl rfl rfl (by decide) rfl ?_
      refine AtL.noF rfl rfl rfl (by decide) rfl ?_
      refine AtL.pures hT 2 _ _ _ _ rfl ?_
      refine AtL.noF rfl rfl rfl (by decide) rfl ?_
      refine AtL.noF rfl rfl rfl (by decide) rfl ?_
      refine AtL.noF rfl rfl rfl (by decide) rfl ?_
      refine AtL.pures hT 2 _ _ _ _ rfl ?_
      refine AtL.noF rfl rfl rfl (by decide) rfl ?_
      refine AtL.noF rfl rfl rfl (by decide) rfl ?_
      refine AtL.noF rfl rfl rfl (by decide) rfl ?_
      refine AtL.noF rfl rfl rfl (by decide) rfl ?_
      refine AtL.noF rfl rfl rfl (by decide) rfl ?_
      refine AtL.pures hT 2 _ _ _ _ rfl ?_
      refine AtL.nil ?_
      exact AtE.then_n ((HK1 _ () _ H).pickP (ts := [0]) (is := []) rfl rfl (by decide) rfl)
    ·
     refine AtL.noF rfl rfl rfl (by decide) rfl ?_
     refine AtL.pures hT 2 _ _ _ _ rfl ?_
     refine AtL.noF rfl rfl rfl (by decide) rfl ?_
     refine AtL.noF rfl rfl rfl (by decide) rfl ?_
     refine AtL.pures hT 2 _ _ _ _ rfl ?_
     refine AtL.noF rfl rfl rfl (by decide) rfl ?_
     refine AtL.noF rfl rfl rfl (by decide) rfl ?_
     refine AtL.noF rfl rfl rfl (by decide) rfl ?_
     refine AtL.pures hT 2 _ _ _ _ rfl ?_
     refine AtL.noF rfl rfl rfl (by decide) rfl ?_
     refine AtL.noF rfl rfl rfl (by decide) rfl ?_
     refine AtL.noF rfl rfl rfl (by decide) rfl ?_
     refine AtL.noF rfl rfl rfl (by decide) rfl ?_
     refine AtL.noF rfl rfl rfl (by decide) rfl ?_
     refine AtL.pures hT 2 _ _ _ _ rfl ?_
     refine AtL.nil ?_
     exact AtE.then_n ((HK1 _ () _ H).pickP (ts := [0]) (is := []) rfl rfl (by decide) rfl)
   ·
    refine AtL.noF rfl rfl rfl (by decide) rfl ?_
    refine AtL.noF rfl rfl rfl (by decide) rfl ?_
    refine AtL.pures hT 2 _ _ _ _ rfl ?_
    refine AtL.noF rfl rfl rfl (by decide) rfl ?_
    refine AtL.pures hT 2 _ _ _ _ rfl ?_
    refine AtL.noF rfl rfl rfl (by decide) rfl ?_
    refine AtL.noF rfl rfl rfl (by decide) rfl ?_
    refine AtL.pures hT 2 _ _ _ _ rfl ?_
    refine AtL.noF rfl rfl rfl (by decide) rfl ?_
    refine AtL.noF rfl rfl rfl (by decide) rfl ?_
    refine AtL.noF rfl rfl rfl (by decide) rfl ?_
    refine AtL.pures hT 2 _ _ _ _ rfl ?_
    refine AtL.noF rfl rfl rfl (by decide) rfl ?_
    refine AtL.noF rfl rfl rfl (by decide) rfl ?_
    refine AtL.noF rfl rfl rfl (by decide) rfl ?_
    refine AtL.noF rfl rfl rfl (by decide) rfl ?_
    refine AtL.noF rfl rfl rfl (by decide) rfl ?_
    refine AtL.pures hT 2 _ _ _ _ rfl ?_
    refine AtL.nil ?_
    exact AtE.then_n ((HK1 _ () _ H).pickP (ts := [0]) (is := []) rfl rfl (by decide) rfl)

theorem lift_law18uGreat (list : Sl) (w : World) (m : Heap) (hr : Rel ⟨m, []⟩ w.heap) (S : Bool → Heap → Prop) (H : law18uGreat list m S) :
    Calls Try.prog 9 #[Sl.toV list] w (Post ⟨w, m⟩ Value.bool S) := by
  refine Calls.lift (args := [Sl.toV list]) Try.func9 rfl Try.ntmps9 (Nat.le_of_ble_eq_true rfl) hr (law18uGreat list m S) H (fun H => ?_)
  refine AtC.pick (ts := [0]) rfl ?_
  unfold law18uGreat at H
  refine AtC.seqR ?_
  refine AtL.pures hT 1 _ _ _ _ rfl ?_
  refine AtL.nil ?_
  refine AtE.then_n (AtE.go ?_)
  refine AtC.seq ?_
  refine AtC.seqR ?_
  refine AtL.pures hT 3 _ _ _ _ rfl ?_
  refine AtL.nil ?_
  refine AtE.then_n (AtE.go ?_)
  refine AtC.condB H rfl (fun H => ?_) (fun H => ?_)
  ·
   refine AtC.seqR ?_
   refine AtL.pures hT 1 _ _ _ _ rfl ?_
   refine AtL.nil ?_
   refine AtE.then_n (AtE.go ?_)
   refine AtC.ret ?_
   refine AtE.then_r ?_
   exact AtE.retN (rs := [.tmp 2]) rfl (ResAll.cons (ResAt.tmp rfl) ResAll.nil) rfl H
  ·
   refine AtC.skip ?_
   refine AtE.then_n (AtE.go ?_)
   refine AtC.seq ?_
   refine AtC.seqR ?_
   refine AtL.pures hT 3 _ _ _ _ rfl ?_
   refine AtL.nil ?_
   refine AtE.then_n (AtE.go ?_)
   refine AtC.block ?_
   refine AtC.loopM (fun (s0 : Int) => [(10, Value.int .i64 s0)]) (fun (s0 : Int) => []) [8, 9] [10, 8, 9] [] [] H (by exact rfl) (by exact rfl) (by exact rfl) (by decide) (by exact rfl) (fun Kp1 s0 h0 H Q1 HK1 => ?_)
   refine AtC.seqR ?_
   refine AtL.pures hT 1 _ _ _ _ rfl ?_
   refine AtL.nil ?_
   refine AtE.then_n (AtE.go ?_)
   refine AtC.seq ?_
   refine AtC.condB H rfl (fun H => ?_) (fun H => ?_)
   ·
    refine AtC.skip ?_
    refine AtE.then_n (AtE.go ?_)
    refine AtC.seq ?_
    refine AtC.block ?_
    refine AtC.seqR ?_
    obtain ⟨a_, hc1, hd1, H⟩ := H
    refine AtL.q rfl (Quiet1.idxS (s := _) hT rfl rfl rfl rfl rfl hc1 hd1) ?_
    obtain ⟨v, hc2, H⟩ := H
    refine AtL.q rfl (Quiet1.load hT rfl rfl rfl hc2) ?_
    refine AtL.pures hT 1 _ _ _ _ rfl ?_
    refine AtL.nil ?_
    refine AtE.then_n (AtE.go ?_)
    refine AtC.seqR ?_
    refine AtL.pures hT 3 _ _ _ _ rfl ?_
    refine AtL.nil ?_
    refine AtE.then_n (AtE.go ?_)
    refine AtC.condB H rfl (fun H => ?_) (fun H => ?_)
    ·
     refine AtC.seqR ?_
     refine AtL.pures hT 1 _ _ _ _ rfl ?_
     refine AtL.nil ?_
     refine AtE.then_n (AtE.go ?_)
     refine AtC.ret ?_
     refine AtE.blk_r ?_
     refine AtE.then_r ?_
     refine AtE.then_r ?_
     refine AtE.blk_r ?_
     refine AtE.then_r ?_
     exact AtE.retN (rs := [.tmp 2]) rfl (ResAll.cons (ResAt.tmp rfl) ResAll.nil) rfl H
    ·
     refine AtC.skip ?_
     refine AtE.blk_n ?_
     refine AtE.then_n (AtE.go ?_)
     refine AtC.region ?_
     refine AtL.pures hT 2 _ _ _ _ rfl ?_
     refine AtL.nil ?_
     exact AtE.then_n ((HK1 _ _ H).pickP (ts := [10, 8, 9]) (is := []) rfl rfl (by decide) rfl)
   ·
    refine AtC.exit ?_
    refine AtE.then_x ?_
    refine AtE.then_x ?_
    refine AtE.blk_hit ?_
    refine AtE.then_n (AtE.go ?_)
    refine AtC.seqR ?_
    refine AtL.pures hT 1 _ _ _ _ rfl ?_
    refine AtL.nil ?_
    refine AtE.then_n (AtE.go ?_)
    refine AtC.ret ?_
    exact AtE.retN (rs := [.tmp 2]) rfl (ResAll.cons (ResAt.tmp rfl) ResAll.nil) rfl H

theorem lift_ref18uSameInts (a : Sl) (b : Sl) (w : World) (m : Heap) (hr : Rel ⟨m, []⟩ w.heap) (S : Bool → Heap → Prop) (H : ref18uSameInts a b m S) :
    Calls Try.prog 14 #[Sl.toV a, Sl.toV b] w (Post ⟨w, m⟩ Value.bool S) := by
  refine Calls.lift (args := [Sl.toV a, Sl.toV b]) Try.func14 rfl Try.ntmps14 (Nat.le_of_ble_eq_true rfl) hr (ref18uSameInts a b m S) H (fun H => ?_)
  refine AtC.pick (ts := [0, 1]) rfl ?_
  unfold ref18uSameInts at H
  refine AtC.seqR ?_
  refine AtL.pures hT 1 _ _ _ _ rfl ?_
  refine AtL.nil ?_
  refine AtE.then_n (AtE.go ?_)
  refine AtC.seq ?_
  refine AtC.seqR ?_
  refine AtL.pures hT 5 _ _ _ _ rfl ?_
  refine AtL.nil ?_
  refine AtE.then_n (AtE.go ?_)
  refine AtC.condB H rfl (fun H => ?_) (fun H => ?_)
  ·
   refine AtC.seqR ?_
   refine AtL.pures hT 1 _ _ _ _ rfl ?_
   refine AtL.nil ?_
   refine AtE.then_n (AtE.go ?_)
   refine AtC.ret ?_
   refine AtE.then_r ?_
   exact AtE.retN (rs := [.tmp 4]) rfl (ResAll.cons (ResAt.tmp rfl) ResAll.nil) rfl H
  ·
   refine AtC.skip ?_
   refine AtE.then_n (AtE.go ?_)
   refine AtC.seq ?_
   refine AtC.seqR ?_
   refine AtL.pures hT 1 _ _ _ _ rfl ?_
   refine AtL.nil ?_
   refine AtE.then_n (AtE.go ?_)
   refine AtC.block ?_
   refine AtC.loopM (fun (s0 : Int) => [(5, Value.int .i64 s0)]) (fun (s0 : Int) => []) [0, 1] [5, 0, 1] [] [] H (by exact rfl) (by exact rfl) (by exact rfl) (by decide) (by exact rfl) (fun Kp1 s0 h0 H Q1 HK1 => ?_)
   refine AtC.seq ?_
   refine AtC.seqR ?_
   refine AtL.pures hT 4 _ _ _ _ rfl ?_
   refine AtL.nil ?_
   refine AtE.then_n (AtE.go ?_)
   refine AtC.condB H rfl (fun H => ?_) (fun H => ?_)
   ·
    refine AtC.skip ?_
    refine AtE.then_n (AtE.go ?_)
    refine AtC.seq ?_
    refine AtC.block ?_
    refine AtC.seqD hmix (by kernel_rfl) ?_
    refine AtD.pures hT 2 _ _ _ _ rfl ?_
    obtain ⟨a_1_, hc1, hd1, H⟩ := H
    refine AtD.q rfl (Quiet1.idxS (s := _) hT rfl rfl rfl rfl rfl hc1 hd1) ?_
    obtain ⟨v, hc2, H⟩ := H
    refine AtD.q rfl (Quiet1.load hT rfl rfl rfl hc2) ?_
    refine AtD.pures hT 2 _ _ _ _ rfl ?_
    obtain ⟨a_2_, hc3, hd3, H⟩ := H
    refine AtD.q rfl (Quiet1.idxS (s := _) hT rfl rfl rfl rfl rfl hc3 hd3) ?_
    obtain ⟨v_1, hc4, H⟩ := H
    refine AtD.q rfl (Quiet1.load hT rfl rfl rfl hc4) ?_
    refine AtD.pures hT 1 _ _ _ _ rfl ?_
    refine AtD.nil ?_
    refine AtE.then_n (AtE.go ?_)
    refine AtC.condB H rfl (fun H => ?_) (fun H => ?_)
    ·
     refine AtC.seqR ?_
     refine AtL.pures hT 1 _ _ _ _ rfl ?_
     refine AtL.nil ?_
     refine AtE.then_n (AtE.go ?_)
     refine AtC.ret ?_
     refine AtE.blk_r ?_
     refine AtE.then_r ?_
     refine AtE.then_r ?_
     refine AtE.blk_r ?_
     refine AtE.then_r ?_
     exact AtE.retN (rs := [.tmp 4]) rfl (ResAll.cons (ResAt.tmp rfl) ResAll.nil) rfl H
    ·
     refine AtC.skip ?_
     refine AtE.blk_n ?_
     refine AtE.then_n (AtE.go ?_)
     refine AtC.region ?_
     refine AtL.pures hT 3 _ _ _ _ rfl ?_
     replace H := H _ rfl
     refine AtL.nil ?_
     exact AtE.then_n ((HK1 _ _ H).pickP (ts := [5, 0, 1]) (is := []) rfl rfl (by decide) rfl)
   ·
    refine AtC.exit ?_
    refine AtE.then_x ?_
    refine AtE.then_x ?_
    refine AtE.blk_hit ?_
    refine AtE.then_n (AtE.go ?_)
    refine AtC.seqR ?_
    refine AtL.pures hT 1 _ _ _ _ rfl ?_
    refine AtL.nil ?_
    refine AtE.then_n (AtE.go ?_)
    refine AtC.ret ?_
    exact AtE.retN (rs := [.tmp 4]) rfl (ResAll.cons (ResAt.tmp rfl) ResAll.nil) rfl H

theorem lift_law18uClauseOrder (n : Int) (list : Sl) (told : Sl) (turn : Int) (w : World) (m : Heap) (hr : Rel ⟨m, []⟩ w.heap) (S : Bool → Heap → Prop) (H : law18uClauseOrder n list told turn m S) :
    Calls Try.prog 3 #[Value.int .i64 n, Sl.toV list, Sl.toV told, Value.int .i64 turn] w (Post ⟨w, m⟩ Value.bool S) := by
  refine Calls.lift (args := [Value.int .i64 n, Sl.toV list, Sl.toV told, Value.int .i64 turn]) Try.func3 rfl Try.ntmps3 (Nat.le_of_ble_eq_true rfl) hr (law18uClauseOrder n list told turn m S) H (fun H => ?_)
  refine AtC.pick (ts := [0, 1, 2, 3]) rfl ?_
  unfold law18uClauseOrder at H
  refine AtC.seqR ?_
  refine AtL.pures hT 1 _ _ _ _ rfl ?_
  refine AtL.nil ?_
  refine AtE.then_n (AtE.go ?_)
  refine AtC.seq ?_
  refine AtC.seqR ?_
  refine AtL.e rfl (EffX.call (f := 8) (sh := fun h => law18uspeaks h _) (H0 := H) rfl Try.call8 rfl (hl := fun w m hr hw => lift_law18uspeaks  w m hr _ hw)) ?_
  rintro _ _ ⟨v, h0, rfl, rfl, H⟩
  refine AtL.pures hT 1 _ _ _ _ rfl ?_
  refine AtL.nil ?_
  refine AtE.then_n (AtE.go ?_)
  refine AtC.condB H rfl (fun H => ?_) (fun H => ?_)
  ·
   refine AtC.seqR ?_
   refine AtL.pures hT 1 _ _ _ _ rfl ?_
   refine AtL.nil ?_
   refine AtE.then_n (AtE.go ?_)
   refine AtC.ret ?_
   refine AtE.then_r ?_
   exact AtE.retN (rs := [.tmp 8]) rfl (ResAll.cons (ResAt.tmp rfl) ResAll.nil) rfl H
  ·
   refine AtC.skip ?_
   refine AtE.then_n (AtE.go ?_)
   refine AtC.seq ?_
   refine AtC.joinSeq (β := Unit) (fun (t0 : Bool) (bb : Unit) => [(43, Value.bool t0)]) (fun (t0 : Bool) (bb : Unit) => []) [0, 1, 2, 3] [] H (by exact rfl) (by exact rfl) (fun t0 bb h0u1 H => ?_) (fun J1 H HK1 => ?_)
   ·
    refine AtC.condB H rfl (fun H => ?_) (fun H => ?_)
    ·
     refine AtC.seqR ?_
     refine AtL.pures hT 1 _ _ _ _ rfl ?_
     refine AtL.nil ?_
     refine AtE.then_n (AtE.go ?_)
     refine AtC.ret ?_
     refine AtE.then_r ?_
     exact AtE.retN (rs := [.tmp 8]) rfl (ResAll.cons (ResAt.tmp rfl) ResAll.nil) rfl H
    ·
     refine AtC.skip ?_
     refine AtE.then_n (AtE.go ?_)
     refine AtC.seqR ?_
     refine AtL.pures hT 4 _ _ _ _ rfl ?_
     obtain ⟨hd1, H⟩ := H
     refine AtL.q rfl (Quiet1.rem rfl rfl rfl hd1) ?_
     refine AtL.pures hT 1 _ _ _ _ rfl ?_
     replace H := H _ rfl
     refine AtL.nil ?_
     refine AtE.then_n (AtE.go ?_)
     refine AtC.seqR ?_
     refine AtLX.bs (hT := hT) (cs := []) H rfl rfl rfl rfl rfl rfl rfl rfl rfl (fun a h0u3 H => ?_)
     refine AtL.pures hT 1 _ _ _ _ rfl ?_
     replace H := H _ rfl
     refine AtL.nil ?_
     refine AtE.then_n (AtE.go ?_)
     refine AtC.seq ?_
     refine AtC.seqR ?_
     refine AtL.pures hT 3 _ _ _ _ rfl ?_
     refine AtL.nil ?_
     refine AtE.then_n (AtE.go ?_)
     refine AtC.block ?_
     refine AtC.loopM (fun (s0 : Sl × Int) => [(10, Sl.toV s0.1), (52, Value.int .i64 s0.2)]) (fun (s0 : Sl × Int) => []) [0, 1, 2, 9, 51] [10, 52, 0, 1, 2, 9, 51] [] [] H (by exact rfl) (by exact rfl) (by exact rfl) (by decide) (by exact rfl) (fun Kp3 s0 h0u4 H Q3 HK3 => ?_)
     refine AtC.seqR ?_
     refine AtL.pures hT 1 _ _ _ _ rfl ?_
     refine AtL.nil ?_
     refine AtE.then_n (AtE.go ?_)
     refine AtC.seq ?_
     refine AtC.condB H rfl (fun H => ?_) (fun H => ?_)
     ·
      refine AtC.skip ?_
      refine AtE.then_n (AtE.go ?_)
      refine AtC.seq ?_
      refine AtC.block ?_
      refine AtC.seqR ?_
      refine AtL.pures hT 2 _ _ _ _ rfl ?_
      refine AtL.nil ?_
      refine AtE.then_n (AtE.go ?_)
      refine AtC.seqR ?_
      refine AtLX.bs (hT := hT) (cs := []) H rfl rfl rfl rfl rfl rfl rfl rfl rfl (fun a_1 h0u5 H => ?_)
      refine AtL.pures hT 6 _ _ _ _ rfl ?_
      obtain ⟨hd3, H⟩ := H
      refine AtL.q rfl (Quiet1.rem rfl rfl rfl hd3) ?_
      obtain ⟨a_2_, hc4, hd4, H⟩ := H
      refine AtL.q rfl (Quiet1.idxS (s := _) hT rfl rfl rfl rfl rfl hc4 hd4) ?_
      obtain ⟨v_4, hc5, H⟩ := H
      refine AtL.q rfl (Quiet1.load hT rfl rfl rfl hc5) ?_
      refine AtL.e rfl (EffX.appendS (s := _) (u := _) hT rfl rfl rfl rfl rfl rfl rfl rfl rfl rfl (by decide) H) ?_
      rintro _ _ ⟨v_5, h0u6, rfl, rfl, H⟩
      refine AtL.pures hT 1 _ _ _ _ rfl ?_
      refine AtL.nil ?_
      refine AtE.then_n (AtE.go ?_)
      refine AtC.seq ?_
      refine AtC.seqR ?_
      refine AtL.pures hT 5 _ _ _ _ rfl ?_
      replace H := H _ rfl
      refine AtL.nil ?_
      refine AtE.then_n (AtE.go ?_)
      refine AtC.block ?_
      refine AtC.loopM (fun (s0u1 : Int × Int) => [(13, Value.int .i64 s0u1.1), (14, Value.int .i64 s0u1.2)]) (fun (s0u1 : Int × Int) => []) [0, 1, 2, 9, 10, 12, 51, 52] [13, 14, 0, 1, 2, 9, 10, 12, 51, 52] [] [] H (by exact rfl) (by exact rfl) (by exact rfl) (by decide) (by exact rfl) (fun Kp7 s0u1 h0u7 H Q7 HK7 => ?_)
      refine AtC.seq ?_
      refine AtC.seqR ?_
      refine AtL.pures hT 3 _ _ _ _ rfl ?_
      refine AtL.nil ?_
      refine AtE.then_n (AtE.go ?_)
      refine AtC.condB H rfl (fun H => ?_) (fun H => ?_)
      ·
       refine AtC.skip ?_
       refine AtE.then_n (AtE.go ?_)
       refine AtC.seq ?_
       refine AtC.block ?_
       obtain ⟨a_3_, hc7, hd7, H⟩ := H
       obtain ⟨v_6, hc8, H⟩ := H
       obtain ⟨a_4_, hc9, hd9, H⟩ := H
       obtain ⟨v_7, hc10, H⟩ := H
       obtain ⟨a_5_, hc11, hd11, H⟩ := H
       apply AtC.stages [13, 15] [[], [], [], [], [], [], [], [], [], [], [], [], [], [], [13], [13]] [[], [], [], [], [], [], [4, 5], [4, 5, 6], [], [], [8, 9], [8, 9, 10], [0, 1, 4, 5, 6, 7, 8, 9, 10, 11], [0, 1, 4, 5, 6, 7, 8, 9, 10, 11, 12], [0, 1, 2, 3, 4, 5, 6, 7, 8, 9, 10, 11, 12, 13], [0, 1, 2, 3, 4, 5, 6, 7, 8, 9, 10, 11, 12, 13, 14]] hmix (by kernel_rfl) [(76, _), (77, _), (78, _), (79, _), (80, _), (81, _), (82, _), (83, _), (84, _), (85, _), (86, _), (87, _), (88, _)] rfl 2 rfl
       refine Stg.go [0, 1, 2, 3, 4, 5, 6, 7, 8, 9, 10, 11, 12] [13] rfl rfl (QAll.cons (QOp.p hT rfl rfl rfl rfl rfl) (QAll.cons (QOp.p hT rfl rfl rfl rfl rfl) (QAll.cons (QOp.p hT rfl rfl rfl rfl rfl) (QAll.cons (QOp.p hT rfl rfl rfl rfl rfl) (QAll.cons (QOp.p hT rfl rfl rfl rfl rfl) (QAll.cons (QOp.p hT rfl rfl rfl rfl rfl) (QAll.cons (QOp.q rfl rfl (Quiet1.idxS (s := _) hT rfl rfl rfl rfl rfl hc7 hd7) rfl rfl) (QAll.cons (QOp.q rfl rfl (Quiet1.load hT rfl rfl rfl hc8) rfl rfl) (QAll.cons (QOp.p hT rfl rfl rfl rfl rfl) (QAll.cons (QOp.p hT rfl rfl rfl rfl rfl) (QAll.cons (QOp.q rfl rfl (Quiet1.idxS (s := _) hT rfl rfl rfl rfl rfl hc9 hd9) rfl rfl) (QAll.cons (QOp.q rfl rfl (Quiet1.load hT rfl rfl rfl hc10) rfl rfl) (QAll.cons (QOp.q rfl rfl (Quiet1.idxS (s := _) hT rfl rfl rfl rfl rfl hc11 hd11) rfl rfl) QAll.nil))))))))))))) ?_
       refine EAll.cons ?_ EAll.nil
       refine EOp.e rfl rfl rfl (EffX.store hT rfl rfl rfl rfl rfl H) ?_
       rintro _ _ ⟨h0u8, rfl, H⟩
       obtain ⟨a_6_, hc12, hd12, H⟩ := H
       apply Stg.next [(89, _)] rfl rfl
       refine Stg.go [2, 3, 14] [15] rfl rfl (QAll.cons (QOp.p hT rfl rfl rfl rfl rfl) (QAll.cons (QOp.p hT rfl rfl rfl rfl rfl) (QAll.cons (QOp.q rfl rfl (Quiet1.idxS (s := _) hT rfl rfl rfl rfl rfl hc12 hd12) rfl rfl) QAll.nil))) ?_
       refine EAll.cons ?_ EAll.nil
       refine EOp.e rfl rfl rfl (EffX.store hT rfl rfl rfl rfl rfl H) ?_
       rintro _ _ ⟨h0u9, rfl, H⟩
       apply Stg.next [] rfl rfl
       refine Stg.fin [] rfl rfl QAll.nil ?_
       refine AtE.blk_n ?_
       refine AtE.then_n (AtE.go ?_)
       refine AtC.region ?_
       refine AtL.pures hT 6 _ _ _ _ rfl ?_
       replace H := H _ rfl
       replace H := H _ rfl
       refine AtL.nil ?_
       exact AtE.then_n ((HK7 _ _ H).pickP (ts := [13, 14, 0, 1, 2, 9, 10, 12, 51, 52]) (is := []) rfl rfl (by decide) rfl)
      ·
       refine AtC.exit ?_
       refine AtE.then_x ?_
       refine AtE.then_x ?_
       refine AtE.blk_hit ?_
       refine AtE.then_n (AtE.go ?_)
       refine AtC.region ?_
       refine AtL.pures hT 2 _ _ _ _ rfl ?_
       refine AtLX.bs (hT := hT) (cs := [_]) H rfl rfl rfl rfl rfl rfl rfl rfl rfl (fun a_8 h0u10 H => ?_)
       refine AtL.e rfl (EffX.appendS (s := _) (u := _) hT rfl rfl rfl rfl rfl rfl rfl rfl rfl rfl (by decide) H) ?_
       rintro _ _ ⟨v_9, h0u11, rfl, rfl, H⟩
       refine AtL.pures hT 1 _ _ _ _ rfl ?_
       refine AtL.nil ?_
       refine AtE.blk_n ?_
       refine AtE.then_n (AtE.go ?_)
       refine AtC.region ?_
       refine AtL.pures hT 2 _ _ _ _ rfl ?_
       refine AtL.nil ?_
       exact AtE.then_n ((HK3 _ _ H).pickP (ts := [10, 52, 0, 1, 2, 9, 51]) (is := []) rfl rfl (by decide) rfl)
     ·
      refine AtC.exit ?_
      refine AtE.then_x ?_
      refine AtE.then_x ?_
      refine AtE.blk_hit ?_
      refine AtE.then_n (AtE.go ?_)
      refine AtC.seqR ?_
      refine AtL.pures hT 1 _ _ _ _ rfl ?_
      refine AtL.e rfl (EffX.call (f := 10) (sh := fun h => clause_New _ h _) (H0 := H) rfl Try.call10 rfl (hl := fun w m hr hw => lift_clause_New _ w m hr _ hw)) ?_
      rintro _ _ ⟨v_10, h0u12, rfl, rfl, H⟩
      refine AtL.pures hT 1 _ _ _ _ rfl ?_
      refine AtL.e rfl (EffX.call (f := 10) (sh := fun h => clause_New _ h _) (H0 := H) rfl Try.call10 rfl (hl := fun w m hr hw => lift_clause_New _ w m hr _ hw)) ?_
      rintro _ _ ⟨v_11, h0u13, rfl, rfl, H⟩
      refine AtL.e rfl (EffX.alloc hT rfl rfl H) ?_
      rintro _ _ ⟨s0u2, h0u14, rfl, rfl, H⟩
      refine AtL.e rfl (EffX.alloc hT rfl rfl H) ?_
      rintro _ _ ⟨t0u1, h0u15, rfl, rfl, H⟩
      refine AtL.e rfl (EffX.storeS hT rfl rfl rfl rfl rfl rfl H) ?_
      rintro _ _ ⟨h0u16, rfl, H⟩
      refine AtL.e rfl (EffX.storeS hT rfl rfl rfl rfl rfl rfl H) ?_
      rintro _ _ ⟨h0u17, rfl, H⟩
      refine AtL.nil ?_
      refine AtE.then_n (AtE.go ?_)
      refine AtC.seq ?_
      refine AtC.seqR ?_
      refine AtL.pures hT 3 _ _ _ _ rfl ?_
      refine AtL.nil ?_
      refine AtE.then_n (AtE.go ?_)
      refine AtC.block ?_
      refine AtC.loopM (fun (s0u3 : Int) => [(101, Value.int .i64 s0u3)]) (fun (s0u3 : Int) => []) [1, 2, 10, 15, 16, 100] [101, 1, 2, 10, 15, 16, 100] [] [] H (by exact rfl) (by exact rfl) (by exact rfl) (by decide) (by exact rfl) (fun Kp14 s0u3 h0u18 H Q14 HK14 => ?_)
      refine AtC.seqR ?_
      refine AtL.pures hT 1 _ _ _ _ rfl ?_
      refine AtL.nil ?_
      refine AtE.then_n (AtE.go ?_)
      refine AtC.seq ?_
      refine AtC.condB H rfl (fun H => ?_) (fun H => ?_)
      ·
       refine AtC.skip ?_
       refine AtE.then_n (AtE.go ?_)
       refine AtC.seq ?_
       refine AtC.block ?_
       refine AtC.seqR ?_
       refine AtL.pures hT 2 _ _ _ _ rfl ?_
       refine AtL.nil ?_
       refine AtE.then_n (AtE.go ?_)
       refine AtC.seqR ?_
       refine AtL.pures hT 2 _ _ _ _ rfl ?_
       obtain ⟨a_9_, hc14, hd14, H⟩ := H
       refine AtL.q rfl (Quiet1.idxS (s := _) hT rfl rfl rfl rfl rfl hc14 hd14) ?_
       obtain ⟨v_12, hc15, H⟩ := H
       refine AtL.q rfl (Quiet1.load hT rfl rfl rfl hc15) ?_
       refine AtL.e rfl (EffX.call (f := 11) (sh := fun h => clause_Add _ _ _ h _) (H0 := H) rfl Try.call11 rfl (hl := fun w m hr hw => lift_clause_Add _ _ _ w m hr _ hw)) ?_
       rintro _ _ ⟨v_13, h0u19, rfl, rfl, H⟩
       refine AtL.nil ?_
       refine AtE.then_n (AtE.go ?_)
       refine AtC.region ?_
       refine AtL.pures hT 2 _ _ _ _ rfl ?_
       obtain ⟨a_10_, hc16, hd16, H⟩ := H
       refine AtL.q rfl (Quiet1.idxS (s := _) hT rfl rfl rfl rfl rfl hc16 hd16) ?_
       obtain ⟨v_14, hc17, H⟩ := H
       refine AtL.q rfl (Quiet1.load hT rfl rfl rfl hc17) ?_
       refine AtL.e rfl (EffX.call (f := 11) (sh := fun h => clause_Add _ _ _ h _) (H0 := H) rfl Try.call11 rfl (hl := fun w m hr hw => lift_clause_Add _ _ _ w m hr _ hw)) ?_
       rintro _ _ ⟨v_15, h0u20, rfl, rfl, H⟩
       refine AtL.nil ?_
       refine AtE.blk_n ?_
       refine AtE.then_n (AtE.go ?_)
       refine AtC.region ?_
       refine AtL.pures hT 2 _ _ _ _ rfl ?_
       refine AtL.nil ?_
       exact AtE.then_n ((HK14 _ _ H).pickP (ts := [101, 1, 2, 10, 15, 16, 100]) (is := []) rfl rfl (by decide) rfl)
      ·
       refine AtC.exit ?_
       refine AtE.then_x ?_
       refine AtE.then_x ?_
       refine AtE.blk_hit ?_
       refine AtE.then_n (AtE.go ?_)
       refine AtC.seq ?_
       refine AtC.seqR ?_
       refine AtL.pures hT 3 _ _ _ _ rfl ?_
       refine AtL.nil ?_
       refine AtE.then_n (AtE.go ?_)
       refine AtC.block ?_
       refine AtC.loopM (fun (s0u4 : Int) => [(117, Value.int .i64 s0u4)]) (fun (s0u4 : Int) => []) [15, 16, 115, 116] [117, 15, 16, 115, 116] [] [] H (by exact rfl) (by exact rfl) (by exact rfl) (by decide) (by exact rfl) (fun Kp19 s0u4 h0u21 H Q19 HK19 => ?_)
       refine AtC.seqR ?_
       refine AtL.pures hT 1 _ _ _ _ rfl ?_
       refine AtL.nil ?_
       refine AtE.then_n (AtE.go ?_)
       refine AtC.seq ?_
       refine AtC.condB H rfl (fun H => ?_) (fun H => ?_)
       ·
        refine AtC.skip ?_
        refine AtE.then_n (AtE.go ?_)
        refine AtC.seq ?_
        refine AtC.block ?_
        refine AtC.seqR ?_
        obtain ⟨a_11_, hc19, hd19, H⟩ := H
        refine AtL.q rfl (Quiet1.idxS (s := _) hT rfl rfl rfl rfl rfl hc19 hd19) ?_
        obtain ⟨v_16, hc20, H⟩ := H
        refine AtL.q rfl (Quiet1.load hT rfl rfl rfl hc20) ?_
        refine AtL.pures hT 1 _ _ _ _ rfl ?_
        refine AtL.nil ?_
        refine AtE.then_n (AtE.go ?_)
        refine AtC.seqR ?_
        refine AtL.pures hT 1 _ _ _ _ rfl ?_
        refine AtL.e rfl (EffX.call (f := 12) (sh := fun h => clause_Tell _ _ _ h _) (H0 := H) rfl Try.call12 rfl (hl := fun w m hr hw => lift_clause_Tell _ _ _ w m hr _ hw)) ?_
        rintro _ _ ⟨v_17, h0u22, rfl, rfl, H⟩
        refine AtL.pures hT 1 _ _ _ _ rfl ?_
        refine AtL.e rfl (EffX.call (f := 12) (sh := fun h => clause_Tell _ _ _ h _) (H0 := H) rfl Try.call12 rfl (hl := fun w m hr hw => lift_clause_Tell _ _ _ w m hr _ hw)) ?_
        rintro _ _ ⟨v_18, h0u23, rfl, rfl, H⟩
        refine AtL.pures hT 1 _ _ _ _ rfl ?_
        refine AtL.nil ?_
        refine AtE.then_n (AtE.go ?_)
        refine AtC.condB H rfl (fun H => ?_) (fun H => ?_)
        ·
         refine AtC.seqR ?_
         refine AtL.pures hT 1 _ _ _ _ rfl ?_
         refine AtL.nil ?_
         refine AtE.then_n (AtE.go ?_)
         refine AtC.ret ?_
         refine AtE.blk_r ?_
         refine AtE.then_r ?_
         refine AtE.then_r ?_
         refine AtE.blk_r ?_
         refine AtE.then_r ?_
         exact AtE.retN (rs := [.tmp 8]) rfl (ResAll.cons (ResAt.tmp rfl) ResAll.nil) rfl H
        ·
         refine AtC.skip ?_
         refine AtE.blk_n ?_
         refine AtE.then_n (AtE.go ?_)
         refine AtC.region ?_
         refine AtL.pures hT 2 _ _ _ _ rfl ?_
         refine AtL.nil ?_
         exact AtE.then_n ((HK19 _ _ H).pickP (ts := [117, 15, 16, 115, 116]) (is := []) rfl rfl (by decide) rfl)
       ·
        refine AtC.exit ?_
        refine AtE.then_x ?_
        refine AtE.then_x ?_
        refine AtE.blk_hit ?_
        refine AtE.then_n (AtE.go ?_)
        refine AtC.seqR ?_
        refine AtL.e rfl (EffX.call (f := 13) (sh := fun h => clause_Run _ h _) (H0 := H) rfl Try.call13 rfl (hl := fun w m hr hw => lift_clause_Run _ w m hr _ hw)) ?_
        rintro _ _ ⟨v_19, h0u24, rfl, rfl, H⟩
        refine AtL.e rfl (EffX.call (f := 13) (sh := fun h => clause_Run _ h _) (H0 := H) rfl Try.call13 rfl (hl := fun w m hr hw => lift_clause_Run _ w m hr _ hw)) ?_
        rintro _ _ ⟨v_20, h0u25, rfl, rfl, H⟩
        refine AtL.pures hT 2 _ _ _ _ rfl ?_
        refine AtL.nil ?_
        refine AtE.then_n (AtE.go ?_)
        refine AtC.joinSeq (β := Unit) (fun (t0u2 : Bool) (bb_1 : Unit) => [(8, Value.bool t0u2)]) (fun (t0u2 : Bool) (bb_1 : Unit) => []) [] [] H (by exact rfl) (by exact rfl) (fun t0u2 bb_1 h0u26 H => ?_) (fun J22 H HK22 => ?_)
        ·
         refine AtC.ret ?_
         exact AtE.retN (rs := [.tmp 8]) rfl (ResAll.cons (ResAt.tmp rfl) ResAll.nil) rfl H
        ·
         refine AtC.region ?_
         refine AtL.pures hT 6 _ _ _ _ rfl ?_
         refine AtL.splitB (t := 134) H rfl (fun H => ?_) (fun H => ?_)
         ·
          refine AtL.yes rfl rfl rfl ?_
          refine AtL.pures hT 1 _ _ _ _ rfl ?_
          refine AtL.yes rfl rfl rfl ?_
          refine AtL.pures hT 1 _ _ _ _ rfl ?_
          refine AtL.yes rfl rfl rfl ?_
          refine AtL.pures hT 1 _ _ _ _ rfl ?_
          refine AtL.splitB (t := 137) H rfl (fun H => ?_) (fun H => ?_)
          ·
           refine AtL.noF rfl rfl rfl (by decide) rfl ?_
           refine AtL.noF rfl rfl rfl (by decide) rfl ?_
           refine AtL.noF rfl rfl rfl (by decide) rfl ?_
           refine AtL.noF rfl rfl rfl (by decide) rfl ?_
           refine AtL.noF rfl rfl rfl (by decide) rfl ?_
           refine AtL.yes rfl rfl rfl ?_
           refine AtL.pures hT 1 _ _ _ _ rfl ?_
           refine AtL.pures hT 2 _ _ _ _ rfl ?_
           refine AtL.nil ?_
           exact AtE.then_n ((HK22 _ () _ H).pickP (ts := [8]) (is := []) rfl rfl (by decide) rfl)
          ·
           refine AtL.yes rfl rfl rfl ?_
           refine AtL.pures hT 1 _ _ _ _ rfl ?_
           refine AtL.yes rfl rfl rfl ?_
           obtain ⟨v_21, hc22, H⟩ := H
           refine AtL.q rfl (Quiet1.load hT rfl rfl rfl hc22) ?_
           refine AtL.yes rfl rfl rfl ?_
           refine AtL.pures hT 1 _ _ _ _ rfl ?_
           refine AtL.yes rfl rfl rfl ?_
           obtain ⟨v_22, hc23, H⟩ := H
           refine AtL.q rfl (Quiet1.load hT rfl rfl rfl hc23) ?_
           refine AtL.yes rfl rfl rfl ?_
           refine AtL.e rfl (EffX.call (f := 14) (sh := fun h => ref18uSameInts _ _ h _) (H0 := H) rfl Try.call14 rfl (hl := fun w m hr hw => lift_ref18uSameInts _ _ w m hr _ hw)) ?_
           rintro _ _ ⟨v_23, h0u27, rfl, rfl, H⟩
           refine AtL.yes rfl rfl rfl ?_
           refine AtL.pures hT 1 _ _ _ _ rfl ?_
           refine AtL.pures hT 2 _ _ _ _ rfl ?_
           refine AtL.nil ?_
           exact AtE.then_n ((HK22 _ () _ H).pickP (ts := [8]) (is := []) rfl rfl (by decide) rfl)
         ·
          refine AtL.noF rfl rfl rfl (by decide) rfl ?_
          refine AtL.noF rfl rfl rfl (by decide) rfl ?_
          refine AtL.noF rfl rfl rfl (by decide) rfl ?_
          refine AtL.noU rfl rfl rfl rfl ?_
          refine AtL.noU rfl rfl rfl rfl ?_
          refine AtL.noU rfl rfl rfl rfl ?_
          refine AtL.noU rfl rfl rfl rfl ?_
          refine AtL.noU rfl rfl rfl rfl ?_
          refine AtL.noF rfl rfl rfl (by decide) rfl ?_
          refine AtL.pures hT 2 _ _ _ _ rfl ?_
          refine AtL.nil ?_
          exact AtE.then_n ((HK22 _ () _ H).pickP (ts := [8]) (is := []) rfl rfl (by decide) rfl)
   ·
    refine AtC.region ?_
    refine AtL.pures hT 3 _ _ _ _ rfl ?_
    refine AtL.splitB (t := 26) H rfl (fun H => ?_) (fun H => ?_)
    ·
     refine AtL.noF rfl rfl rfl (by decide) rfl ?_
     refine AtL.noF rfl rfl rfl (by decide) rfl ?_
     refine AtL.pures hT 2 _ _ _ _ rfl ?_
     refine AtL.noF rfl rfl rfl (by decide) rfl ?_
     refine AtL.noF rfl rfl rfl (by decide) rfl ?_
     refine AtL.pures hT 2 _ _ _ _ rfl ?_
     refine AtL.noF rfl rfl rfl (by decide) rfl ?_
     refine AtL.noF rfl rfl rfl (by decide) rfl ?_
     refine AtL.noF rfl rfl rfl (by decide) rfl ?_
     refine AtL.pures hT 2 _ _ _ _ rfl ?_
     refine AtL.noF rfl rfl rfl (by decide) rfl ?_
     refine AtL.noF rfl rfl rfl (by decide) rfl ?_
     refine AtL.noF rfl rfl rfl (by decide) rfl ?_
     refine AtL.pures hT 1 _ _ _ _ rfl ?_
     refine AtL.nil ?_
     exact AtE.then_n ((HK1 _ () _ H).pickP (ts := [43, 0, 1, 2, 3]) (is := []) rfl rfl (by decide) rfl)
    ·
     refine AtL.yes rfl rfl rfl ?_
     refine AtL.pures hT 1 _ _ _ _ rfl ?_
     refine AtL.yes rfl rfl rfl ?_
     refine AtL.pures hT 1 _ _ _ _ rfl ?_
     refine AtL.pures hT 2 _ _ _ _ rfl ?_
     refine AtL.splitB (t := 30) H rfl (fun H => ?_) (fun H => ?_)
     ·
      refine AtL.noF rfl rfl rfl (by decide) rfl ?_
      refine AtL.noF rfl rfl rfl (by decide) rfl ?_
      refine AtL.pures hT 2 _ _ _ _ rfl ?_
      refine AtL.noF rfl rfl rfl (by decide) rfl ?_
      refine AtL.noF rfl rfl rfl (by decide) rfl ?_
      refine AtL.noF rfl rfl rfl (by decide) rfl ?_
      refine AtL.pures hT 2 _ _ _ _ rfl ?_
      refine AtL.noF rfl rfl rfl (by decide) rfl ?_
      refine AtL.noF rfl rfl rfl (by decide) rfl ?_
      refine AtL.noF rfl rfl rfl (by decide) rfl ?_
      refine AtL.pures hT 1 _ _ _ _ rfl ?_
      refine AtL.nil ?_
      exact AtE.then_n ((HK1 _ () _ H).pickP (ts := [43, 0, 1, 2, 3]) (is := []) rfl rfl (by decide) rfl)
     ·
      refine AtL.yes rfl rfl rfl ?_
      refine AtL.pures hT 1 _ _ _ _ rfl ?_
      refine AtL.yes rfl rfl rfl ?_
      refine AtL.e rfl (EffX.call (f := 9) (sh := fun h => law18uGreat _ h _) (H0 := H) rfl Try.call9 rfl (hl := fun w m hr hw => lift_law18uGreat _ w m hr _ hw)) ?_
      rintro _ _ ⟨v_1, h0u2, rfl, rfl, H⟩
      refine AtL.pures hT 2 _ _ _ _ rfl ?_
      refine AtL.splitB (t := 34) H rfl (fun H => ?_) (fun H => ?_)
      ·
       refine AtL.noF rfl rfl rfl (by decide) rfl ?_
       refine AtL.noF rfl rfl rfl (by decide) rfl ?_
       refine AtL.noF rfl rfl rfl (by decide) rfl ?_
       refine AtL.pures hT 2 _ _ _ _ rfl ?_
       refine AtL.noF rfl rfl rfl (by decide) rfl ?_
       refine AtL.noF rfl rfl rfl (by decide) rfl ?_
       refine AtL.noF rfl rfl rfl (by decide) rfl ?_
       refine AtL.pures hT 1 _ _ _ _ rfl ?_
       refine AtL.nil ?_
       exact AtE.then_n ((HK1 _ () _ H).pickP (ts := [43, 0, 1, 2, 3]) (is := []) rfl rfl (by decide) rfl)
      ·
       refine AtL.yes rfl rfl rfl ?_
       refine AtL.pures hT 1 _ _ _ _ rfl ?_
       refine AtL.yes rfl rfl rfl ?_
       refine AtL.pures hT 1 _ _ _ _ rfl ?_
       refine AtL.yes rfl rfl rfl ?_
       refine AtL.pures hT 1 _ _ _ _ rfl ?_
       refine AtL.pures hT 2 _ _ _ _ rfl ?_
       refine AtL.splitB (t := 39) H rfl (fun H => ?_) (fun H => ?_)
       ·
        refine AtL.noF rfl rfl rfl (by decide) rfl ?_
        refine AtL.noF rfl rfl rfl (by decide) rfl ?_
        refine AtL.noF rfl rfl rfl (by decide) rfl ?_
        refine AtL.pures hT 1 _ _ _ _ rfl ?_
        refine AtL.nil ?_
        exact AtE.then_n ((HK1 _ () _ H).pickP (ts := [43, 0, 1, 2, 3]) (is := []) rfl rfl (by decide) rfl)
       ·
        refine AtL.yes rfl rfl rfl ?_
        refine AtL.pures hT 1 _ _ _ _ rfl ?_
        refine AtL.yes rfl rfl rfl ?_
        refine AtL.pures hT 1 _ _ _ _ rfl ?_
        refine AtL.yes rfl rfl rfl ?_
        refine AtL.pures hT 1 _ _ _ _ rfl ?_
        refine AtL.pures hT 1 _ _ _ _ rfl ?_
        refine AtL.nil ?_
        exact AtE.then_n ((HK1 _ () _ H).pickP (ts := [43, 0, 1, 2, 3]) (is := []) rfl rfl (by decide) rfl)
end Go.Proofs.Ytgnojmbjepffiaa

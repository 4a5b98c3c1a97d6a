/-
  Laws that the proof of this claim's statement leans on, each proved under the conditions that it states.
-/
import Derived.Test.YtkjcocjkcjmafaaLfA
set_option linter.unusedVariables false
set_option linter.unusedSimpArgs false
namespace Go.Proofs.Ytkjcocjkcjmafaa
open Go Go.Lift Go.Sh
set_option maxRecDepth 100000
set_option maxHeartbeats 40000000
attribute [local irreducible] Calls AtL AtC AtE AtD Eff Quiet1 Stg qAt QAll eAt EAll nextK Code.wp
theorem lift_clause_Tell (s0 : (Option Addr)) (lit : Int) (reason : Int) (w : World) (m : Heap) (hr : Rel ⟨m, []⟩ w.heap) (S : Bool → Heap → Prop) (H : clause_Tell s0 lit reason m S) :
    Calls Try.prog 28 #[Value.pointer s0, Value.int .i64 lit, Value.int .i64 reason] w (Post ⟨w, m⟩ Value.bool S) := by
  refine Calls.lift (args := [Value.pointer s0, Value.int .i64 lit, Value.int .i64 reason]) Try.func28 rfl Try.ntmps28 (Nat.le_of_ble_eq_true rfl) hr (clause_Tell s0 lit reason m S) H (fun H => ?_)
  refine AtC.pick (ts := [0, 1, 2]) rfl ?_
  unfold clause_Tell at H
  refine AtC.seqR ?_
  refine AtL.pures hT 1 _ _ _ _ rfl ?_
  refine AtL.nil ?_
  refine AtE.then_n (AtE.go ?_)
  refine AtC.joinSeq (β := Unit) (fun (t0 : Unit) (bb : Unit) => []) (fun (t0 : Unit) (bb : Unit) => []) [] [] H (by exact rfl) (by exact rfl) (fun t0 bb h0 H => ?_) (fun J1 H HK1 => ?_)
  ·
   refine AtC.seqR ?_
   refine AtL.pures hT 1 _ _ _ _ rfl ?_
   refine AtL.nil ?_
   refine AtE.then_n (AtE.go ?_)
   refine AtC.ret ?_
   exact AtE.retN (rs := [.tmp 6]) rfl (ResAll.cons (ResAt.tmp rfl) ResAll.nil) rfl H
  ·
   refine AtC.block ?_
   refine AtC.joinSeq (β := Unit) (fun (t0u1 : Bool) (bb_1 : Unit) => [(7, Value.bool t0u1)]) (fun (t0u1 : Bool) (bb_1 : Unit) => []) [0, 1, 2] [] H (by exact rfl) (by exact rfl) (fun t0u1 bb_1 h0u1 H => ?_) (fun J2 H HK2 => ?_)
   ·
    refine AtC.condB H rfl (fun H => ?_) (fun H => ?_)
    ·
     refine AtC.seqR ?_
     refine AtL.pures hT 1 _ _ _ _ rfl ?_
     refine AtL.nil ?_
     refine AtE.then_n (AtE.go ?_)
     refine AtC.ret ?_
     refine AtE.blk_r ?_
     refine AtE.then_r ?_
     exact AtE.retN (rs := [.tmp 6]) rfl (ResAll.cons (ResAt.tmp rfl) ResAll.nil) rfl H
    ·
     refine AtC.seqR ?_
     refine AtL.pures hT 1 _ _ _ _ rfl ?_
     obtain ⟨a_1, hc4, H⟩ := H
     refine AtL.q rfl (Quiet1.nilChk rfl rfl hc4) ?_
     obtain ⟨v_3, hc5, H⟩ := H
     refine AtL.q rfl (Quiet1.loadS hT rfl rfl rfl rfl hc5) ?_
     refine AtL.pures hT 1 _ _ _ _ rfl ?_
     refine AtL.e rfl (EffX.call (f := 27) (sh := fun h => clause_Value _ _ h _) (H0 := H) rfl Try.call27 rfl (hl := fun w m hr hw => lift_clause_Value _ _ w m hr _ hw)) ?_
     rintro _ _ ⟨v_4, h0u4, rfl, rfl, H⟩
     refine AtL.pures hT 2 _ _ _ _ rfl ?_
     refine AtL.nil ?_
     refine AtE.then_n (AtE.go ?_)
     refine AtC.condB H rfl (fun H => ?_) (fun H => ?_)
     ·
      refine AtC.region ?_
      refine AtL.pures hT 3 _ _ _ _ rfl ?_
      refine AtL.e rfl (EffX.call (f := 36) (sh := fun h => clause_put _ _ _ h _) (H0 := H) rfl Try.call36 rfl (hl := fun w m hr hw => lift_clause_put _ _ _ w m hr _ hw)) ?_
      rintro _ _ ⟨v_5, h0u5, rfl, rfl, H⟩
      refine AtL.nil ?_
      refine AtE.blk_n ?_
      exact AtE.then_n ((HK1 _ () _ H).pickP (ts := []) (is := []) rfl rfl (by decide) rfl)
     ·
      refine AtC.skip ?_
      refine AtE.blk_n ?_
      exact AtE.then_n ((HK1 _ () _ H).pickP (ts := []) (is := []) rfl rfl (by decide) rfl)
   ·
    refine AtC.region ?_
    refine AtL.pures hT 2 _ _ _ _ rfl ?_
    refine AtL.e rfl (EffX.call (f := 35) (sh := fun h => clause_there _ _ h _) (H0 := H) rfl Try.call35 rfl (hl := fun w m hr hw => lift_clause_there _ _ w m hr _ hw)) ?_
    rintro _ _ ⟨v, h0u2, rfl, rfl, H⟩
    refine AtL.pures hT 2 _ _ _ _ rfl ?_
    refine AtL.splitB (t := 12) H rfl (fun H => ?_) (fun H => ?_)
    ·
     refine AtL.noF rfl rfl rfl (by decide) rfl ?_
     refine AtL.noF rfl rfl rfl (by decide) rfl ?_
     refine AtL.noF rfl rfl rfl (by decide) rfl ?_
     refine AtL.noF rfl rfl rfl (by decide) rfl ?_
     refine AtL.noF rfl rfl rfl (by decide) rfl ?_
     refine AtL.noF rfl rfl rfl (by decide) rfl ?_
     refine AtL.pures hT 2 _ _ _ _ rfl ?_
     refine AtL.nil ?_
     exact AtE.then_n ((HK2 _ () _ H).pickP (ts := [7, 0, 1, 2]) (is := []) rfl rfl (by decide) rfl)
    ·
     refine AtL.yes rfl rfl rfl ?_
     refine AtL.pures hT 1 _ _ _ _ rfl ?_
     refine AtL.yes rfl rfl rfl ?_
     obtain ⟨a, hc2, H⟩ := H
     refine AtL.q rfl (Quiet1.nilChk rfl rfl hc2) ?_
     refine AtL.yes rfl rfl rfl ?_
     obtain ⟨v_1, hc3, H⟩ := H
     refine AtL.q rfl (Quiet1.loadS hT rfl rfl rfl rfl hc3) ?_
     refine AtL.yes rfl rfl rfl ?_
     refine AtL.pures hT 1 _ _ _ _ rfl ?_
     refine AtL.yes rfl rfl rfl ?_
     refine AtL.e rfl (EffX.call (f := 27) (sh := fun h => clause_Value _ _ h _) (H0 := H) rfl Try.call27 rfl (hl := fun w m hr hw => lift_clause_Value _ _ w m hr _ hw)) ?_
     rintro _ _ ⟨v_2, h0u3, rfl, rfl, H⟩
     refine AtL.yes rfl rfl rfl ?_
     refine AtL.pures hT 1 _ _ _ _ rfl ?_
     refine AtL.pures hT 2 _ _ _ _ rfl ?_
     refine AtL.nil ?_
     exact AtE.then_n ((HK2 _ () _ H).pickP (ts := [7, 0, 1, 2]) (is := []) rfl rfl (by decide) rfl)
theorem lift_clause_ask (s0 : (Option Addr)) (at0 : Int) (gone : Int) (w : World) (m : Heap) (hr : Rel ⟨m, []⟩ w.heap) (S : Int → Heap → Prop) (H : clause_ask s0 at0 gone m S) :
    Calls Try.prog 38 #[Value.pointer s0, Value.int .i64 at0, Value.int .i64 gone] w (Post ⟨w, m⟩ (Value.int .i64) S) := by
  refine Calls.lift (args := [Value.pointer s0, Value.int .i64 at0, Value.int .i64 gone]) Try.func38 rfl Try.ntmps38 (Nat.le_of_ble_eq_true rfl) hr (clause_ask s0 at0 gone m S) H (fun H => ?_)
  refine AtC.pick (ts := [0, 1, 2]) rfl ?_
  unfold clause_ask at H
  refine AtC.seqR ?_
  refine AtL.pures hT 1 _ _ _ _ rfl ?_
  refine AtL.nil ?_
  refine AtE.then_n (AtE.go ?_)
  refine AtC.seqR ?_
  refine AtL.pures hT 1 _ _ _ _ rfl ?_
  obtain ⟨a, hc0, H⟩ := H
  refine AtL.q rfl (Quiet1.nilChk rfl rfl hc0) ?_
  refine AtL.pures hT 1 _ _ _ _ rfl ?_
  obtain ⟨v, hc1, H⟩ := H
  refine AtL.q rfl (Quiet1.load hT rfl rfl rfl hc1) ?_
  refine AtL.pures hT 1 _ _ _ _ rfl ?_
  obtain ⟨a_1_, hc2, hd2, H⟩ := H
  refine AtL.q rfl (Quiet1.idxS (s := _) hT rfl rfl rfl rfl rfl hc2 hd2) ?_
  refine AtL.pures hT 1 _ _ _ _ rfl ?_
  obtain ⟨v_1, hc3, H⟩ := H
  refine AtL.q rfl (Quiet1.load hT rfl rfl rfl hc3) ?_
  refine AtL.pures hT 1 _ _ _ _ rfl ?_
  refine AtL.nil ?_
  refine AtE.then_n (AtE.go ?_)
  refine AtC.joinSeq (β := Unit) (fun (t0 : Unit) (bb : Unit) => []) (fun (t0 : Unit) (bb : Unit) => []) [0, 1, 7] [] H (by exact rfl) (by exact rfl) (fun t0 bb h0 H => ?_) (fun J5 H HK5 => ?_)
  ·
   refine AtC.seq ?_
   obtain ⟨a_7, hc13, H⟩ := H
   obtain ⟨v_5, hc14, H⟩ := H
   obtain ⟨a_8_, hc15, hd15, H⟩ := H
   obtain ⟨v_6, hc16, H⟩ := H
   apply AtC.seqS [6] [[], [], [], [], [], [], [], [6]] [[], [0], [0, 1], [], [3], [3, 4], [0, 1, 2, 3, 4, 5], [0, 1, 2, 3, 4, 5, 6]] hmix (by kernel_rfl) [(32, _), (33, _), (34, _), (35, _), (36, _), (37, _)] rfl 1 rfl
   refine Stg.go [0, 1, 2, 3, 4, 5] [6] rfl rfl (QAll.cons (QOp.p hT rfl rfl rfl rfl rfl) (QAll.cons (QOp.q rfl rfl (Quiet1.nilChk rfl rfl hc13) rfl rfl) (QAll.cons (QOp.q rfl rfl (Quiet1.loadS hT rfl rfl rfl rfl hc14) rfl rfl) (QAll.cons (QOp.p hT rfl rfl rfl rfl rfl) (QAll.cons (QOp.q rfl rfl (Quiet1.idxS (s := _) hT rfl rfl rfl rfl rfl hc15 hd15) rfl rfl) (QAll.cons (QOp.q rfl rfl (Quiet1.load hT rfl rfl rfl hc16) rfl rfl) QAll.nil)))))) ?_
   refine EAll.cons ?_ EAll.nil
   refine EOp.e rfl rfl rfl (EffX.call (f := 27) (sh := fun h => clause_Value _ _ h _) (H0 := H) rfl Try.call27 rfl (hl := fun w m hr hw => lift_clause_Value _ _ w m hr _ hw)) ?_
   rintro _ _ ⟨v_7, h0u3, rfl, rfl, H⟩
   apply Stg.next [(38, _), (39, _)] rfl rfl
   refine Stg.fin [7] rfl rfl (QAll.cons (QOp.p hT rfl rfl rfl rfl rfl) QAll.nil) ?_
   refine AtE.then_n (AtE.go ?_)
   refine AtC.condB H rfl (fun H => ?_) (fun H => ?_)
   ·
    refine AtC.seqR ?_
    refine AtL.pures hT 1 _ _ _ _ rfl ?_
    refine AtL.nil ?_
    refine AtE.then_n (AtE.go ?_)
    refine AtC.ret ?_
    refine AtE.then_r ?_
    exact AtE.retN (rs := [.tmp 6]) rfl (ResAll.cons (ResAt.tmp rfl) ResAll.nil) rfl H
   ·
    refine AtC.skip ?_
    refine AtE.then_n (AtE.go ?_)
    refine AtC.seq ?_
    refine AtC.seqR ?_
    refine AtL.pures hT 1 _ _ _ _ rfl ?_
    refine AtL.nil ?_
    refine AtE.then_n (AtE.go ?_)
    refine AtC.block ?_
    refine AtC.loopM (fun (s0u1 : Int) => [(8, Value.int .i64 s0u1)]) (fun (s0u1 : Int) => []) [0, 1, 7] [8, 0, 1, 7] [] [] H (by exact rfl) (by exact rfl) (by exact rfl) (by decide) (by exact rfl) (fun Kp18 s0u1 h0u4 H Q18 HK18 => ?_)
    refine AtC.seq ?_
    refine AtC.seqR ?_
    refine AtL.pures hT 4 _ _ _ _ rfl ?_
    refine AtL.nil ?_
    refine AtE.then_n (AtE.go ?_)
    refine AtC.condB H rfl (fun H => ?_) (fun H => ?_)
    ·
     refine AtC.skip ?_
     refine AtE.then_n (AtE.go ?_)
     refine AtC.seq ?_
     refine AtC.block ?_
     obtain ⟨a_9, hc18, H⟩ := H
     obtain ⟨v_8, hc19, H⟩ := H
     obtain ⟨a_10_, hc20, hd20, H⟩ := H
     obtain ⟨v_9, hc21, H⟩ := H
     apply AtC.seqS [7] [[], [], [], [], [], [], [], [], [7]] [[], [0], [0, 1], [], [], [3, 4], [3, 4, 5], [0, 1, 2, 3, 4, 5, 6], [0, 1, 2, 3, 4, 5, 6, 7]] hmix (by kernel_rfl) [(46, _), (47, _), (48, _), (49, _), (50, _), (51, _), (52, _)] rfl 1 rfl
     refine Stg.go [0, 1, 2, 3, 4, 5, 6] [7] rfl rfl (QAll.cons (QOp.p hT rfl rfl rfl rfl rfl) (QAll.cons (QOp.q rfl rfl (Quiet1.nilChk rfl rfl hc18) rfl rfl) (QAll.cons (QOp.q rfl rfl (Quiet1.loadS hT rfl rfl rfl rfl hc19) rfl rfl) (QAll.cons (QOp.p hT rfl rfl rfl rfl rfl) (QAll.cons (QOp.p hT rfl rfl rfl rfl rfl) (QAll.cons (QOp.q rfl rfl (Quiet1.idxS (s := _) hT rfl rfl rfl rfl rfl hc20 hd20) rfl rfl) (QAll.cons (QOp.q rfl rfl (Quiet1.load hT rfl rfl rfl hc21) rfl rfl) QAll.nil))))))) ?_
     refine EAll.cons ?_ EAll.nil
     refine EOp.e rfl rfl rfl (EffX.call (f := 27) (sh := fun h => clause_Value _ _ h _) (H0 := H) rfl Try.call27 rfl (hl := fun w m hr hw => lift_clause_Value _ _ w m hr _ hw)) ?_
     rintro _ _ ⟨v_10, h0u5, rfl, rfl, H⟩
     apply Stg.next [(53, _), (54, _)] rfl rfl
     refine Stg.fin [8] rfl rfl (QAll.cons (QOp.p hT rfl rfl rfl rfl rfl) QAll.nil) ?_
     refine AtE.then_n (AtE.go ?_)
     refine AtC.condB H rfl (fun H => ?_) (fun H => ?_)
     ·
      obtain ⟨a_11_, hc22, hd22, H⟩ := H
      obtain ⟨v_11, hc23, H⟩ := H
      obtain ⟨a_12_, hc24, hd24, H⟩ := H
      obtain ⟨v_12, hc25, H⟩ := H
      obtain ⟨a_13_, hc26, hd26, H⟩ := H
      apply AtC.seqS [11, 13] [[], [], [], [], [], [], [], [], [], [], [], [], [11], [11]] [[], [], [], [], [], [3, 4], [3, 4, 5], [], [7], [7, 8], [0, 3, 4, 5, 6, 7, 8, 9], [0, 3, 4, 5, 6, 7, 8, 9, 10], [0, 1, 2, 3, 4, 5, 6, 7, 8, 9, 10, 11], [0, 1, 2, 3, 4, 5, 6, 7, 8, 9, 10, 11, 12]] hmix (by kernel_rfl) [(55, _), (56, _), (57, _), (58, _), (59, _), (60, _), (61, _), (62, _), (63, _), (64, _), (65, _)] rfl 2 rfl
      refine Stg.go [0, 1, 2, 3, 4, 5, 6, 7, 8, 9, 10] [11] rfl rfl (QAll.cons (QOp.p hT rfl rfl rfl rfl rfl) (QAll.cons (QOp.p hT rfl rfl rfl rfl rfl) (QAll.cons (QOp.p hT rfl rfl rfl rfl rfl) (QAll.cons (QOp.p hT rfl rfl rfl rfl rfl) (QAll.cons (QOp.p hT rfl rfl rfl rfl rfl) (QAll.cons (QOp.q rfl rfl (Quiet1.idxS (s := _) hT rfl rfl rfl rfl rfl hc22 hd22) rfl rfl) (QAll.cons (QOp.q rfl rfl (Quiet1.load hT rfl rfl rfl hc23) rfl rfl) (QAll.cons (QOp.p hT rfl rfl rfl rfl rfl) (QAll.cons (QOp.q rfl rfl (Quiet1.idxS (s := _) hT rfl rfl rfl rfl rfl hc24 hd24) rfl rfl) (QAll.cons (QOp.q rfl rfl (Quiet1.load hT rfl rfl rfl hc25) rfl rfl) (QAll.cons (QOp.q rfl rfl (Quiet1.idxS (s := _) hT rfl rfl rfl rfl rfl hc26 hd26) rfl rfl) QAll.nil))))))))))) ?_
      refine EAll.cons ?_ EAll.nil
      refine EOp.e rfl rfl rfl (EffX.store hT rfl rfl rfl rfl rfl H) ?_
      rintro _ _ ⟨h0u6, rfl, H⟩
      obtain ⟨a_14_, hc27, hd27, H⟩ := H
      apply Stg.next [(66, _)] rfl rfl
      refine Stg.go [1, 2, 12] [13] rfl rfl (QAll.cons (QOp.p hT rfl rfl rfl rfl rfl) (QAll.cons (QOp.p hT rfl rfl rfl rfl rfl) (QAll.cons (QOp.q rfl rfl (Quiet1.idxS (s := _) hT rfl rfl rfl rfl rfl hc27 hd27) rfl rfl) QAll.nil))) ?_
      refine EAll.cons ?_ EAll.nil
      refine EOp.e rfl rfl rfl (EffX.store hT rfl rfl rfl rfl rfl H) ?_
      rintro _ _ ⟨h0u7, rfl, H⟩
      apply Stg.next [] rfl rfl
      refine Stg.fin [] rfl rfl QAll.nil ?_
      refine AtE.then_n (AtE.go ?_)
      refine AtC.joinSeq (β := Unit) (fun (t0u1 : Unit) (bb_1 : Unit) => []) (fun (t0u1 : Unit) (bb_1 : Unit) => []) [] [] H (by exact rfl) (by exact rfl) (fun t0u1 bb_1 h0u8 H => ?_) (fun J29 H HK29 => ?_)
      ·
       refine AtC.seqR ?_
       refine AtL.pures hT 1 _ _ _ _ rfl ?_
       refine AtL.nil ?_
       refine AtE.then_n (AtE.go ?_)
       refine AtC.ret ?_
       refine AtE.blk_r ?_
       refine AtE.then_r ?_
       refine AtE.then_r ?_
       refine AtE.blk_r ?_
       refine AtE.then_r ?_
       exact AtE.retN (rs := [.tmp 6]) rfl (ResAll.cons (ResAt.tmp rfl) ResAll.nil) rfl H
      ·
       obtain ⟨a_15, hc29, H⟩ := H
       obtain ⟨v_13, hc30, H⟩ := H
       obtain ⟨a_16_, hc31, hd31, H⟩ := H
       obtain ⟨v_14, hc32, H⟩ := H
       obtain ⟨a_17, hc33, H⟩ := H
       obtain ⟨v_15, hc34, H⟩ := H
       obtain ⟨a_18_, hc35, hd35, H⟩ := H
       obtain ⟨v_16, hc36, H⟩ := H
       apply AtC.stages [7, 15, 19, 20, 22] [[], [], [], [], [], [], [], [], [], [], [], [], [], [], [], [7], [7, 15], [7, 15], [], [], [7, 15, 19], [7, 15, 19, 20], [7, 15, 19, 20]] [[], [0], [0, 1], [0, 1, 2], [], [4], [4, 5], [4, 5, 6], [], [8], [8, 9], [8, 9, 10], [], [12], [12, 13], [4, 5, 6, 7, 12, 13, 14], [4, 5, 6, 7, 8, 9, 10, 11, 12, 13, 14, 15], [4, 5, 6, 7, 8, 9, 10, 11, 12, 13, 14, 15, 16], [], [18], [4, 5, 6, 7, 8, 9, 10, 11, 12, 13, 14, 15, 16, 17, 18, 19], [0, 1, 2, 3, 4, 5, 6, 7, 8, 9, 10, 11, 12, 13, 14, 15, 16, 17, 18, 19, 20], [0, 1, 2, 3, 4, 5, 6, 7, 8, 9, 10, 11, 12, 13, 14, 15, 16, 17, 18, 19, 20, 21]] hmix (by kernel_rfl) [(67, _), (68, _), (69, _), (70, _), (71, _), (72, _), (73, _), (75, _), (76, _), (77, _), (78, _), (79, _), (80, _), (81, _), (85, _)] rfl 5 rfl
       refine Stg.go [0, 1, 2, 3, 4, 5, 6, 8, 9, 10, 11, 12, 13, 14, 18] [7, 19] rfl rfl (QAll.cons (QOp.p hT rfl rfl rfl rfl rfl) (QAll.cons (QOp.q rfl rfl (Quiet1.nilChk rfl rfl hc29) rfl rfl) (QAll.cons (QOp.p hT rfl rfl rfl rfl rfl) (QAll.cons (QOp.q rfl rfl (Quiet1.load hT rfl rfl rfl hc30) rfl rfl) (QAll.cons (QOp.p hT rfl rfl rfl rfl rfl) (QAll.cons (QOp.q rfl rfl (Quiet1.idxS (s := _) hT rfl rfl rfl rfl rfl hc31 hd31) rfl rfl) (QAll.cons (QOp.q rfl rfl (Quiet1.load hT rfl rfl rfl hc32) rfl rfl) (QAll.cons (QOp.p hT rfl rfl rfl rfl rfl) (QAll.cons (QOp.q rfl rfl (Quiet1.nilChk rfl rfl hc33) rfl rfl) (QAll.cons (QOp.p hT rfl rfl rfl rfl rfl) (QAll.cons (QOp.q rfl rfl (Quiet1.load hT rfl rfl rfl hc34) rfl rfl) (QAll.cons (QOp.p hT rfl rfl rfl rfl rfl) (QAll.cons (QOp.q rfl rfl (Quiet1.idxS (s := _) hT rfl rfl rfl rfl rfl hc35 hd35) rfl rfl) (QAll.cons (QOp.q rfl rfl (Quiet1.load hT rfl rfl rfl hc36) rfl rfl) (QAll.cons (QOp.p hT rfl rfl rfl rfl rfl) QAll.nil))))))))))))))) ?_
       refine EAll.cons ?_ ?_
       ·
        replace H := H.1
        refine EOp.e rfl rfl rfl (EffX.call (f := 37) (sh := fun h => clause_watch _ h _) (H0 := H) rfl Try.call37 rfl (hl := fun w m hr hw => lift_clause_watch _ w m hr _ hw)) ?_
        rintro _ _ ⟨v_17, h0u9, rfl, rfl, H⟩
        obtain ⟨hc37, H⟩ := H
        obtain ⟨hc38, H⟩ := H
        obtain ⟨hc39, H⟩ := H
        apply Stg.next [(74, _)] rfl rfl
        refine Stg.go [0, 1, 2, 3, 8, 9, 10, 11, 12, 13, 14, 18] [15, 19] rfl rfl (QAll.cons (QOp.p hT rfl rfl rfl rfl rfl) (QAll.cons (QOp.q rfl rfl (Quiet1.nilChk rfl rfl hc29) rfl rfl) (QAll.cons (QOp.p hT rfl rfl rfl rfl rfl) (QAll.cons (QOp.q rfl rfl (Quiet1.load hT rfl rfl rfl hc37) rfl rfl) (QAll.cons (QOp.p hT rfl rfl rfl rfl rfl) (QAll.cons (QOp.q rfl rfl (Quiet1.nilChk rfl rfl hc33) rfl rfl) (QAll.cons (QOp.p hT rfl rfl rfl rfl rfl) (QAll.cons (QOp.q rfl rfl (Quiet1.load hT rfl rfl rfl hc38) rfl rfl) (QAll.cons (QOp.p hT rfl rfl rfl rfl rfl) (QAll.cons (QOp.q rfl rfl (Quiet1.idxS (s := _) hT rfl rfl rfl rfl rfl hc35 hd35) rfl rfl) (QAll.cons (QOp.q rfl rfl (Quiet1.load hT rfl rfl rfl hc39) rfl rfl) (QAll.cons (QOp.p hT rfl rfl rfl rfl rfl) QAll.nil)))))))))))) ?_
        refine EAll.cons ?_ ?_
        ·
         replace H := H.1
         refine EOp.e rfl rfl rfl (EffX.call (f := 37) (sh := fun h => clause_watch _ h _) (H0 := H) rfl Try.call37 rfl (hl := fun w m hr hw => lift_clause_watch _ w m hr _ hw)) ?_
         rintro _ _ ⟨v_18, h0u10, rfl, rfl, H⟩
         obtain ⟨hc40, H⟩ := H
         obtain ⟨hc41, H⟩ := H
         obtain ⟨a_19_, hc42, hd42, H⟩ := H
         obtain ⟨v_19, hc43, H⟩ := H
         apply Stg.next [(82, _), (83, _), (84, _)] rfl rfl
         refine Stg.go [0, 1, 2, 3, 8, 9, 10, 11, 16, 17, 18] [19] rfl rfl (QAll.cons (QOp.p hT rfl rfl rfl rfl rfl) (QAll.cons (QOp.q rfl rfl (Quiet1.nilChk rfl rfl hc29) rfl rfl) (QAll.cons (QOp.p hT rfl rfl rfl rfl rfl) (QAll.cons (QOp.q rfl rfl (Quiet1.load hT rfl rfl rfl hc40) rfl rfl) (QAll.cons (QOp.p hT rfl rfl rfl rfl rfl) (QAll.cons (QOp.q rfl rfl (Quiet1.nilChk rfl rfl hc33) rfl rfl) (QAll.cons (QOp.p hT rfl rfl rfl rfl rfl) (QAll.cons (QOp.q rfl rfl (Quiet1.load hT rfl rfl rfl hc41) rfl rfl) (QAll.cons (QOp.q rfl rfl (Quiet1.idxS (s := _) hT rfl rfl rfl rfl rfl hc42 hd42) rfl rfl) (QAll.cons (QOp.q rfl rfl (Quiet1.load hT rfl rfl rfl hc43) rfl rfl) (QAll.cons (QOp.p hT rfl rfl rfl rfl rfl) QAll.nil))))))))))) ?_
         refine EAll.cons ?_ EAll.nil
         refine EOp.e rfl rfl rfl (EffX.buildS2 (cs := [_]) hT rfl rfl rfl rfl rfl rfl rfl rfl H) ?_
         rintro _ _ ⟨a_20, h0u11, rfl, rfl, H⟩
         obtain ⟨hc44, H⟩ := H
         obtain ⟨hc45, H⟩ := H
         obtain ⟨hc46, H⟩ := H
         apply Stg.next [(86, _)] rfl rfl
         refine Stg.go [0, 1, 2, 3, 8, 9, 10, 11, 16, 17] [20] rfl rfl (QAll.cons (QOp.p hT rfl rfl rfl rfl rfl) (QAll.cons (QOp.q rfl rfl (Quiet1.nilChk rfl rfl hc29) rfl rfl) (QAll.cons (QOp.p hT rfl rfl rfl rfl rfl) (QAll.cons (QOp.q rfl rfl (Quiet1.load hT rfl rfl rfl hc44) rfl rfl) (QAll.cons (QOp.p hT rfl rfl rfl rfl rfl) (QAll.cons (QOp.q rfl rfl (Quiet1.nilChk rfl rfl hc33) rfl rfl) (QAll.cons (QOp.p hT rfl rfl rfl rfl rfl) (QAll.cons (QOp.q rfl rfl (Quiet1.load hT rfl rfl rfl hc45) rfl rfl) (QAll.cons (QOp.q rfl rfl (Quiet1.idxS (s := _) hT rfl rfl rfl rfl rfl hc42 hd42) rfl rfl) (QAll.cons (QOp.q rfl rfl (Quiet1.load hT rfl rfl rfl hc46) rfl rfl) QAll.nil)))))))))) ?_
         refine EAll.cons ?_ EAll.nil
         refine EOp.e rfl rfl rfl (EffX.appendS (s := _) (u := _) hT rfl rfl rfl rfl rfl rfl rfl rfl rfl rfl (by decide) H) ?_
         rintro _ _ ⟨v_21, h0u12, rfl, rfl, H⟩
         obtain ⟨hc47, H⟩ := H
         obtain ⟨a_21_, hc48, hd48, H⟩ := H
         apply Stg.next [(87, _), (88, _)] rfl rfl
         refine Stg.go [0, 1, 2, 3, 21] [22] rfl rfl (QAll.cons (QOp.p hT rfl rfl rfl rfl rfl) (QAll.cons (QOp.q rfl rfl (Quiet1.nilChk rfl rfl hc29) rfl rfl) (QAll.cons (QOp.p hT rfl rfl rfl rfl rfl) (QAll.cons (QOp.q rfl rfl (Quiet1.load hT rfl rfl rfl hc47) rfl rfl) (QAll.cons (QOp.q rfl rfl (Quiet1.idxS (s := _) hT rfl rfl rfl rfl rfl hc48 hd48) rfl rfl) QAll.nil))))) ?_
         refine EAll.cons ?_ EAll.nil
         refine EOp.e rfl rfl rfl (EffX.store hT rfl rfl rfl rfl rfl H) ?_
         rintro _ _ ⟨h0u13, rfl, H⟩
         apply Stg.next [] rfl rfl
         refine Stg.fin [] rfl rfl QAll.nil ?_
         exact AtE.then_n ((HK29 _ () _ H).pickP (ts := []) (is := []) rfl rfl (by decide) rfl)
        refine EAll.cons ?_ EAll.nil
        replace H := H.2
        refine EOp.e rfl rfl rfl (EffX.buildS2 (cs := [_]) hT rfl rfl rfl rfl rfl rfl rfl rfl H) ?_
        rintro _ _ ⟨a_22, h0u14, rfl, rfl, H⟩
        obtain ⟨hc49, H⟩ := H
        obtain ⟨hc50, H⟩ := H
        obtain ⟨hc51, H⟩ := H
        apply Stg.next [(86, _)] rfl rfl
        refine Stg.go [0, 1, 2, 3, 8, 9, 10, 11, 12, 13, 14] [15] rfl rfl (QAll.cons (QOp.p hT rfl rfl rfl rfl rfl) (QAll.cons (QOp.q rfl rfl (Quiet1.nilChk rfl rfl hc29) rfl rfl) (QAll.cons (QOp.p hT rfl rfl rfl rfl rfl) (QAll.cons (QOp.q rfl rfl (Quiet1.load hT rfl rfl rfl hc49) rfl rfl) (QAll.cons (QOp.p hT rfl rfl rfl rfl rfl) (QAll.cons (QOp.q rfl rfl (Quiet1.nilChk rfl rfl hc33) rfl rfl) (QAll.cons (QOp.p hT rfl rfl rfl rfl rfl) (QAll.cons (QOp.q rfl rfl (Quiet1.load hT rfl rfl rfl hc50) rfl rfl) (QAll.cons (QOp.p hT rfl rfl rfl rfl rfl) (QAll.cons (QOp.q rfl rfl (Quiet1.idxS (s := _) hT rfl rfl rfl rfl rfl hc35 hd35) rfl rfl) (QAll.cons (QOp.q rfl rfl (Quiet1.load hT rfl rfl rfl hc51) rfl rfl) QAll.nil))))))))))) ?_
        refine EAll.cons ?_ EAll.nil
        refine EOp.e rfl rfl rfl (EffX.call (f := 37) (sh := fun h => clause_watch _ h _) (H0 := H) rfl Try.call37 rfl (hl := fun w m hr hw => lift_clause_watch _ w m hr _ hw)) ?_
        rintro _ _ ⟨v_23, h0u15, rfl, rfl, H⟩
        obtain ⟨hc52, H⟩ := H
        obtain ⟨hc53, H⟩ := H
        obtain ⟨a_23_, hc54, hd54, H⟩ := H
        obtain ⟨v_24, hc55, H⟩ := H
        apply Stg.next [(82, _), (83, _), (84, _)] rfl rfl
        refine Stg.go [0, 1, 2, 3, 8, 9, 10, 11, 16, 17] [20] rfl rfl (QAll.cons (QOp.p hT rfl rfl rfl rfl rfl) (QAll.cons (QOp.q rfl rfl (Quiet1.nilChk rfl rfl hc29) rfl rfl) (QAll.cons (QOp.p hT rfl rfl rfl rfl rfl) (QAll.cons (QOp.q rfl rfl (Quiet1.load hT rfl rfl rfl hc52) rfl rfl) (QAll.cons (QOp.p hT rfl rfl rfl rfl rfl) (QAll.cons (QOp.q rfl rfl (Quiet1.nilChk rfl rfl hc33) rfl rfl) (QAll.cons (QOp.p hT rfl rfl rfl rfl rfl) (QAll.cons (QOp.q rfl rfl (Quiet1.load hT rfl rfl rfl hc53) rfl rfl) (QAll.cons (QOp.q rfl rfl (Quiet1.idxS (s := _) hT rfl rfl rfl rfl rfl hc54 hd54) rfl rfl) (QAll.cons (QOp.q rfl rfl (Quiet1.load hT rfl rfl rfl hc55) rfl rfl) QAll.nil)))))))))) ?_
        refine EAll.cons ?_ EAll.nil
        refine EOp.e rfl rfl rfl (EffX.appendS (s := _) (u := _) hT rfl rfl rfl rfl rfl rfl rfl rfl rfl rfl (by decide) H) ?_
        rintro _ _ ⟨v_25, h0u16, rfl, rfl, H⟩
        obtain ⟨hc56, H⟩ := H
        obtain ⟨a_24_, hc57, hd57, H⟩ := H
        apply Stg.next [(87, _), (88, _)] rfl rfl
        refine Stg.go [0, 1, 2, 3, 21] [22] rfl rfl (QAll.cons (QOp.p hT rfl rfl rfl rfl rfl) (QAll.cons (QOp.q rfl rfl (Quiet1.nilChk rfl rfl hc29) rfl rfl) (QAll.cons (QOp.p hT rfl rfl rfl rfl rfl) (QAll.cons (QOp.q rfl rfl (Quiet1.load hT rfl rfl rfl hc56) rfl rfl) (QAll.cons (QOp.q rfl rfl (Quiet1.idxS (s := _) hT rfl rfl rfl rfl rfl hc57 hd57) rfl rfl) QAll.nil))))) ?_
        refine EAll.cons ?_ EAll.nil
        refine EOp.e rfl rfl rfl (EffX.store hT rfl rfl rfl rfl rfl H) ?_
        rintro _ _ ⟨h0u17, rfl, H⟩
        apply Stg.next [] rfl rfl
        refine Stg.fin [] rfl rfl QAll.nil ?_
        exact AtE.then_n ((HK29 _ () _ H).pickP (ts := []) (is := []) rfl rfl (by decide) rfl)
       refine EAll.cons ?_ EAll.nil
       replace H := H.2
       refine EOp.e rfl rfl rfl (EffX.buildS2 (cs := [_]) hT rfl rfl rfl rfl rfl rfl rfl rfl H) ?_
       rintro _ _ ⟨a_25, h0u18, rfl, rfl, H⟩
       obtain ⟨hc58, H⟩ := H
       obtain ⟨hc59, H⟩ := H
       obtain ⟨hc60, H⟩ := H
       obtain ⟨hc61, H⟩ := H
       apply Stg.next [(86, _)] rfl rfl
       refine Stg.go [0, 1, 2, 3, 4, 5, 6, 8, 9, 10, 11, 12, 13, 14] [7] rfl rfl (QAll.cons (QOp.p hT rfl rfl rfl rfl rfl) (QAll.cons (QOp.q rfl rfl (Quiet1.nilChk rfl rfl hc29) rfl rfl) (QAll.cons (QOp.p hT rfl rfl rfl rfl rfl) (QAll.cons (QOp.q rfl rfl (Quiet1.load hT rfl rfl rfl hc58) rfl rfl) (QAll.cons (QOp.p hT rfl rfl rfl rfl rfl) (QAll.cons (QOp.q rfl rfl (Quiet1.idxS (s := _) hT rfl rfl rfl rfl rfl hc31 hd31) rfl rfl) (QAll.cons (QOp.q rfl rfl (Quiet1.load hT rfl rfl rfl hc59) rfl rfl) (QAll.cons (QOp.p hT rfl rfl rfl rfl rfl) (QAll.cons (QOp.q rfl rfl (Quiet1.nilChk rfl rfl hc33) rfl rfl) (QAll.cons (QOp.p hT rfl rfl rfl rfl rfl) (QAll.cons (QOp.q rfl rfl (Quiet1.load hT rfl rfl rfl hc60) rfl rfl) (QAll.cons (QOp.p hT rfl rfl rfl rfl rfl) (QAll.cons (QOp.q rfl rfl (Quiet1.idxS (s := _) hT rfl rfl rfl rfl rfl hc35 hd35) rfl rfl) (QAll.cons (QOp.q rfl rfl (Quiet1.load hT rfl rfl rfl hc61) rfl rfl) QAll.nil)))))))))))))) ?_
       refine EAll.cons ?_ EAll.nil
       refine EOp.e rfl rfl rfl (EffX.call (f := 37) (sh := fun h => clause_watch _ h _) (H0 := H) rfl Try.call37 rfl (hl := fun w m hr hw => lift_clause_watch _ w m hr _ hw)) ?_
       rintro _ _ ⟨v_27, h0u19, rfl, rfl, H⟩
       obtain ⟨hc62, H⟩ := H
       obtain ⟨hc63, H⟩ := H
       obtain ⟨hc64, H⟩ := H
       apply Stg.next [(74, _)] rfl rfl
       refine Stg.go [0, 1, 2, 3, 8, 9, 10, 11, 12, 13, 14] [15] rfl rfl (QAll.cons (QOp.p hT rfl rfl rfl rfl rfl) (QAll.cons (QOp.q rfl rfl (Quiet1.nilChk rfl rfl hc29) rfl rfl) (QAll.cons (QOp.p hT rfl rfl rfl rfl rfl) (QAll.cons (QOp.q rfl rfl (Quiet1.load hT rfl rfl rfl hc62) rfl rfl) (QAll.cons (QOp.p hT rfl rfl rfl rfl rfl) (QAll.cons (QOp.q rfl rfl (Quiet1.nilChk rfl rfl hc33) rfl rfl) (QAll.cons (QOp.p hT rfl rfl rfl rfl rfl) (QAll.cons (QOp.q rfl rfl (Quiet1.load hT rfl rfl rfl hc63) rfl rfl) (QAll.cons (QOp.p hT rfl rfl rfl rfl rfl) (QAll.cons (QOp.q rfl rfl (Quiet1.idxS (s := _) hT rfl rfl rfl rfl rfl hc35 hd35) rfl rfl) (QAll.cons (QOp.q rfl rfl (Quiet1.load hT rfl rfl rfl hc64) rfl rfl) QAll.nil))))))))))) ?_
       refine EAll.cons ?_ EAll.nil
       refine EOp.e rfl rfl rfl (EffX.call (f := 37) (sh := fun h => clause_watch _ h _) (H0 := H) rfl Try.call37 rfl (hl := fun w m hr hw => lift_clause_watch _ w m hr _ hw)) ?_
       rintro _ _ ⟨v_28, h0u20, rfl, rfl, H⟩
       obtain ⟨hc65, H⟩ := H
       obtain ⟨hc66, H⟩ := H
       obtain ⟨a_26_, hc67, hd67, H⟩ := H
       obtain ⟨v_29, hc68, H⟩ := H
       apply Stg.next [(82, _), (83, _), (84, _)] rfl rfl
       refine Stg.go [0, 1, 2, 3, 8, 9, 10, 11, 16, 17] [20] rfl rfl (QAll.cons (QOp.p hT rfl rfl rfl rfl rfl) (QAll.cons (QOp.q rfl rfl (Quiet1.nilChk rfl rfl hc29) rfl rfl) (QAll.cons (QOp.p hT rfl rfl rfl rfl rfl) (QAll.cons (QOp.q rfl rfl (Quiet1.load hT rfl rfl rfl hc65) rfl rfl) (QAll.cons (QOp.p hT rfl rfl rfl rfl rfl) (QAll.cons (QOp.q rfl rfl (Quiet1.nilChk rfl rfl hc33) rfl rfl) (QAll.cons (QOp.p hT rfl rfl rfl rfl rfl) (QAll.cons (QOp.q rfl rfl (Quiet1.load hT rfl rfl rfl hc66) rfl rfl) (QAll.cons (QOp.q rfl rfl (Quiet1.idxS (s := _) hT rfl rfl rfl rfl rfl hc67 hd67) rfl rfl) (QAll.cons (QOp.q rfl rfl (Quiet1.load hT rfl rfl rfl hc68) rfl rfl) QAll.nil)))))))))) ?_
       refine EAll.cons ?_ EAll.nil
       refine EOp.e rfl rfl rfl (EffX.appendS (s := _) (u := _) hT rfl rfl rfl rfl rfl rfl rfl rfl rfl rfl (by decide) H) ?_
       rintro _ _ ⟨v_30, h0u21, rfl, rfl, H⟩
       obtain ⟨hc69, H⟩ := H
       obtain ⟨a_27_, hc70, hd70, H⟩ := H
       apply Stg.next [(87, _), (88, _)] rfl rfl
       refine Stg.go [0, 1, 2, 3, 21] [22] rfl rfl (QAll.cons (QOp.p hT rfl rfl rfl rfl rfl) (QAll.cons (QOp.q rfl rfl (Quiet1.nilChk rfl rfl hc29) rfl rfl) (QAll.cons (QOp.p hT rfl rfl rfl rfl rfl) (QAll.cons (QOp.q rfl rfl (Quiet1.load hT rfl rfl rfl hc69) rfl rfl) (QAll.cons (QOp.q rfl rfl (Quiet1.idxS (s := _) hT rfl rfl rfl rfl rfl hc70 hd70) rfl rfl) QAll.nil))))) ?_
       refine EAll.cons ?_ EAll.nil
       refine EOp.e rfl rfl rfl (EffX.store hT rfl rfl rfl rfl rfl H) ?_
       rintro _ _ ⟨h0u22, rfl, H⟩
       apply Stg.next [] rfl rfl
       refine Stg.fin [] rfl rfl QAll.nil ?_
       exact AtE.then_n ((HK29 _ () _ H).pickP (ts := []) (is := []) rfl rfl (by decide) rfl)
     ·
      refine AtC.skip ?_
      refine AtE.blk_n ?_
      refine AtE.then_n (AtE.go ?_)
      refine AtC.region ?_
      refine AtL.pures hT 3 _ _ _ _ rfl ?_
      replace H := H _ rfl
      refine AtL.nil ?_
      exact AtE.then_n ((HK18 _ _ H).pickP (ts := [8, 0, 1, 7]) (is := []) rfl rfl (by decide) rfl)
    ·
     refine AtC.exit ?_
     refine AtE.then_x ?_
     refine AtE.then_x ?_
     refine AtE.blk_hit ?_
     refine AtE.then_n (AtE.go ?_)
     refine AtC.seq ?_
     refine AtC.seqR ?_
     refine AtL.pures hT 2 _ _ _ _ rfl ?_
     obtain ⟨a_28_, hc71, hd71, H⟩ := H
     refine AtL.q rfl (Quiet1.idxS (s := _) hT rfl rfl rfl rfl rfl hc71 hd71) ?_
     obtain ⟨v_31, hc72, H⟩ := H
     refine AtL.q rfl (Quiet1.load hT rfl rfl rfl hc72) ?_
     refine AtL.pures hT 1 _ _ _ _ rfl ?_
     refine AtL.e rfl (EffX.call (f := 28) (sh := fun h => clause_Tell _ _ _ h _) (H0 := H) rfl Try.call28 rfl (hl := fun w m hr hw => lift_clause_Tell _ _ _ w m hr _ hw)) ?_
     rintro _ _ ⟨v_32, h0u23, rfl, rfl, H⟩
     refine AtL.pures hT 1 _ _ _ _ rfl ?_
     refine AtL.nil ?_
     refine AtE.then_n (AtE.go ?_)
     refine AtC.condB H rfl (fun H => ?_) (fun H => ?_)
     ·
      refine AtC.seqR ?_
      refine AtL.pures hT 1 _ _ _ _ rfl ?_
      refine AtL.nil ?_
      refine AtE.then_n (AtE.go ?_)
      refine AtC.ret ?_
      refine AtE.then_r ?_
      exact AtE.retN (rs := [.tmp 6]) rfl (ResAll.cons (ResAt.tmp rfl) ResAll.nil) rfl H
     ·
      refine AtC.skip ?_
      refine AtE.then_n (AtE.go ?_)
      refine AtC.seqR ?_
      refine AtL.pures hT 1 _ _ _ _ rfl ?_
      refine AtL.nil ?_
      refine AtE.then_n (AtE.go ?_)
      refine AtC.ret ?_
      exact AtE.retN (rs := [.tmp 6]) rfl (ResAll.cons (ResAt.tmp rfl) ResAll.nil) rfl H
  ·
   refine AtC.seqR ?_
   refine AtL.pures hT 1 _ _ _ _ rfl ?_
   obtain ⟨a_2_, hc5, hd5, H⟩ := H
   refine AtL.q rfl (Quiet1.idxS (s := _) hT rfl rfl rfl rfl rfl hc5 hd5) ?_
   obtain ⟨v_2, hc6, H⟩ := H
   refine AtL.q rfl (Quiet1.load hT rfl rfl rfl hc6) ?_
   refine AtL.pures hT 2 _ _ _ _ rfl ?_
   refine AtL.nil ?_
   refine AtE.then_n (AtE.go ?_)
   refine AtC.condB H rfl (fun H => ?_) (fun H => ?_)
   ·
    obtain ⟨a_3_, hc7, hd7, H⟩ := H
    obtain ⟨v_3, hc8, H⟩ := H
    obtain ⟨a_4_, hc9, hd9, H⟩ := H
    obtain ⟨v_4, hc10, H⟩ := H
    obtain ⟨a_5_, hc11, hd11, H⟩ := H
    apply AtC.stages [9, 11] [[], [], [], [], [], [], [], [], [], [], [9], [9]] [[], [], [], [2], [2, 3], [], [5], [5, 6], [0, 2, 3, 4, 5, 6, 7], [0, 2, 3, 4, 5, 6, 7, 8], [0, 1, 2, 3, 4, 5, 6, 7, 8, 9], [0, 1, 2, 3, 4, 5, 6, 7, 8, 9, 10]] hmix (by kernel_rfl) [(22, _), (23, _), (24, _), (25, _), (26, _), (27, _), (28, _), (29, _), (30, _)] rfl 2 rfl
    refine Stg.go [0, 1, 2, 3, 4, 5, 6, 7, 8] [9] rfl rfl (QAll.cons (QOp.p hT rfl rfl rfl rfl rfl) (QAll.cons (QOp.p hT rfl rfl rfl rfl rfl) (QAll.cons (QOp.p hT rfl rfl rfl rfl rfl) (QAll.cons (QOp.q rfl rfl (Quiet1.idxS (s := _) hT rfl rfl rfl rfl rfl hc7 hd7) rfl rfl) (QAll.cons (QOp.q rfl rfl (Quiet1.load hT rfl rfl rfl hc8) rfl rfl) (QAll.cons (QOp.p hT rfl rfl rfl rfl rfl) (QAll.cons (QOp.q rfl rfl (Quiet1.idxS (s := _) hT rfl rfl rfl rfl rfl hc9 hd9) rfl rfl) (QAll.cons (QOp.q rfl rfl (Quiet1.load hT rfl rfl rfl hc10) rfl rfl) (QAll.cons (QOp.q rfl rfl (Quiet1.idxS (s := _) hT rfl rfl rfl rfl rfl hc11 hd11) rfl rfl) QAll.nil))))))))) ?_
    refine EAll.cons ?_ EAll.nil
    refine EOp.e rfl rfl rfl (EffX.store hT rfl rfl rfl rfl rfl H) ?_
    rintro _ _ ⟨h0u1, rfl, H⟩
    obtain ⟨a_6_, hc12, hd12, H⟩ := H
    apply Stg.next [(31, _)] rfl rfl
    refine Stg.go [1, 10] [11] rfl rfl (QAll.cons (QOp.p hT rfl rfl rfl rfl rfl) (QAll.cons (QOp.q rfl rfl (Quiet1.idxS (s := _) hT rfl rfl rfl rfl rfl hc12 hd12) rfl rfl) QAll.nil)) ?_
    refine EAll.cons ?_ EAll.nil
    refine EOp.e rfl rfl rfl (EffX.store hT rfl rfl rfl rfl rfl H) ?_
    rintro _ _ ⟨h0u2, rfl, H⟩
    apply Stg.next [] rfl rfl
    refine Stg.fin [] rfl rfl QAll.nil ?_
    exact AtE.then_n ((HK5 _ () _ H).pickP (ts := [0, 1, 7]) (is := []) rfl rfl (by decide) rfl)
   ·
    refine AtC.skip ?_
    exact AtE.then_n ((HK5 _ () _ H).pickP (ts := [0, 1, 7]) (is := []) rfl rfl (by decide) rfl)
theorem lift_slices_Grow_int_int (s0 : Sl) (n : Int) (w : World) (m : Heap) (hr : Rel ⟨m, []⟩ w.heap) (S : Sl → Heap → Prop) (H : slices_Grow_int_int s0 n m S) :
    Calls Try.prog 60 #[Sl.toV s0, Value.int .i64 n] w (Post ⟨w, m⟩ Sl.toV S) := by
  refine Calls.lift (args := [Sl.toV s0, Value.int .i64 n]) Try.func60 rfl Try.ntmps60 (Nat.le_of_ble_eq_true rfl) hr (slices_Grow_int_int s0 n m S) H (fun H => ?_)
  refine AtC.pick (ts := [0, 1]) rfl ?_
  unfold slices_Grow_int_int at H
  refine AtC.seqR ?_
  refine AtL.pures hT 1 _ _ _ _ rfl ?_
  refine AtL.nil ?_
  refine AtE.then_n (AtE.go ?_)
  refine AtC.joinSeq (β := Unit) (fun (t0 : Unit) (bb : Unit) => []) (fun (t0 : Unit) (bb : Unit) => []) [0, 1] [] H (by exact rfl) (by exact rfl) (fun t0 bb h0 H => ?_) (fun J1 H HK1 => ?_)
  ·
   refine AtC.joinSeq (β := Unit) (fun (t0u1 : Sl) (bb_1 : Unit) => [(0, Sl.toV t0u1)]) (fun (t0u1 : Sl) (bb_1 : Unit) => []) [] [] H (by exact rfl) (by exact rfl) (fun t0u1 bb_1 h0u1 H => ?_) (fun J2 H HK2 => ?_)
   ·
    refine AtC.seqR ?_
    refine AtL.pures hT 2 _ _ _ _ rfl ?_
    refine AtL.nil ?_
    refine AtE.then_n (AtE.go ?_)
    refine AtC.ret ?_
    exact AtE.retN (rs := [.tmp 4]) rfl (ResAll.cons (ResAt.tmp rfl) ResAll.nil) rfl H
   ·
    refine AtC.seqR ?_
    refine AtL.pures hT 8 _ _ _ _ rfl ?_
    replace H := H _ rfl
    refine AtL.nil ?_
    refine AtE.then_n (AtE.go ?_)
    refine AtC.seqR ?_
    refine AtL.pures hT 2 _ _ _ _ rfl ?_
    refine AtL.nil ?_
    refine AtE.then_n (AtE.go ?_)
    refine AtC.condB H rfl (fun H => ?_) (fun H => ?_)
    ·
     refine AtC.region ?_
     refine AtL.pures hT 3 _ _ _ _ rfl ?_
     refine AtL.sl (hT := hT) H rfl rfl rfl rfl rfl rfl rfl (fun h => by cases h <;> rfl) rfl (fun v H => ?_)
     refine AtL.pures hT 1 _ _ _ _ rfl ?_
     refine AtL.e rfl (EffX.appendZ (s := _) hT rfl rfl rfl rfl rfl rfl rfl rfl rfl (by decide) rfl rfl (by decide) H) ?_
     rintro _ _ ⟨v_1, h0u2, rfl, rfl, H⟩
     refine AtL.pures hT 2 _ _ _ _ rfl ?_
     refine AtL.sl (hT := hT) H rfl rfl rfl rfl rfl rfl rfl (fun h => by cases h <;> rfl) rfl (fun v_2 H => ?_)
     refine AtL.pures hT 1 _ _ _ _ rfl ?_
     refine AtL.nil ?_
     exact AtE.then_n ((HK2 _ () _ H).pickP (ts := [0]) (is := []) rfl rfl (by decide) rfl)
    ·
     refine AtC.skip ?_
     exact AtE.then_n ((HK2 _ () _ H).pickP (ts := [0]) (is := []) rfl rfl (by decide) rfl)
  ·
   refine AtC.seqR ?_
   refine AtL.pures hT 2 _ _ _ _ rfl ?_
   refine AtL.nil ?_
   refine AtE.then_n (AtE.go ?_)
   refine AtC.condB H rfl (fun H => ?_) (fun H => ?_)
   ·
    refine AtC.region ?_
    refine AtL.q rfl (Quiet1.makeI hT rfl rfl (by intro m; nofun) rfl) ?_
    exact H.elim
   ·
    refine AtC.skip ?_
    exact AtE.then_n ((HK1 _ () _ H).pickP (ts := [0, 1]) (is := []) rfl rfl (by decide) rfl)
theorem lift_slices_Concat_int_int (slices : Sl) (w : World) (m : Heap) (hr : Rel ⟨m, []⟩ w.heap) (S : Sl → Heap → Prop) (H : slices_Concat_int_int slices m S) :
    Calls Try.prog 39 #[Sl.toV slices] w (Post ⟨w, m⟩ Sl.toV S) := by
  refine Calls.lift (args := [Sl.toV slices]) Try.func39 rfl Try.ntmps39 (Nat.le_of_ble_eq_true rfl) hr (slices_Concat_int_int slices m S) H (fun H => ?_)
  refine AtC.pick (ts := [0]) rfl ?_
  unfold slices_Concat_int_int at H
  refine AtC.seqR ?_
  refine AtL.pures hT 1 _ _ _ _ rfl ?_
  refine AtL.nil ?_
  refine AtE.then_n (AtE.go ?_)
  refine AtC.seqR ?_
  refine AtL.pures hT 1 _ _ _ _ rfl ?_
  refine AtL.nil ?_
  refine AtE.then_n (AtE.go ?_)
  refine AtC.seq ?_
  refine AtC.seqR ?_
  refine AtL.pures hT 3 _ _ _ _ rfl ?_
  refine AtL.nil ?_
  refine AtE.then_n (AtE.go ?_)
  refine AtC.block ?_
  refine AtC.loopM (fun (s0 : Int × Int) => [(3, Value.int .i64 s0.1), (11, Value.int .i64 s0.2)]) (fun (s0 : Int × Int) => []) [0, 9, 10] [3, 11, 0, 9, 10] [] [] H (by exact rfl) (by exact rfl) (by exact rfl) (by decide) (by exact rfl) (fun Kp1 s0 h0 H Q1 HK1 => ?_)
  refine AtC.seqR ?_
  refine AtL.pures hT 1 _ _ _ _ rfl ?_
  refine AtL.nil ?_
  refine AtE.then_n (AtE.go ?_)
  refine AtC.seq ?_
  refine AtC.condB H rfl (fun H => ?_) (fun H => ?_)
  ·
   refine AtC.skip ?_
   refine AtE.then_n (AtE.go ?_)
   refine AtC.joinSeq (β := Unit) (fun (t0 : Int) (bb : Unit) => [(3, Value.int .i64 t0)]) (fun (t0 : Int) (bb : Unit) => []) [0, 9, 10, 11] [] H (by exact rfl) (by exact rfl) (fun t0 bb h0u1 H => ?_) (fun J2 H HK2 => ?_)
   ·
    refine AtC.region ?_
    refine AtL.pures hT 2 _ _ _ _ rfl ?_
    refine AtL.nil ?_
    exact AtE.then_n ((HK1 _ _ H).pickP (ts := [3, 11, 0, 9, 10]) (is := []) rfl rfl (by decide) rfl)
   ·
    refine AtC.block ?_
    refine AtC.seqR ?_
    obtain ⟨a_, hc2, hd2, H⟩ := H
    refine AtL.q rfl (Quiet1.idxS (s := _) hT rfl rfl rfl rfl rfl hc2 hd2) ?_
    obtain ⟨v, hc3, H⟩ := H
    refine AtL.q rfl (Quiet1.load hT rfl rfl rfl hc3) ?_
    refine AtL.pures hT 1 _ _ _ _ rfl ?_
    refine AtL.nil ?_
    refine AtE.then_n (AtE.go ?_)
    refine AtC.seqR ?_
    refine AtL.pures hT 5 _ _ _ _ rfl ?_
    replace H := H _ rfl
    refine AtL.nil ?_
    refine AtE.then_n (AtE.go ?_)
    refine AtC.seqR ?_
    refine AtL.pures hT 2 _ _ _ _ rfl ?_
    refine AtL.nil ?_
    refine AtE.then_n (AtE.go ?_)
    refine AtC.condB H rfl (fun H => ?_) (fun H => ?_)
    ·
     refine AtC.region ?_
     refine AtL.q rfl (Quiet1.makeI hT rfl rfl (by intro m; nofun) rfl) ?_
     exact H.elim
    ·
     refine AtC.skip ?_
     refine AtE.blk_n ?_
     exact AtE.then_n ((HK2 _ () _ H).pickP (ts := [3, 0, 9, 10, 11]) (is := []) rfl rfl (by decide) rfl)
  ·
   refine AtC.exit ?_
   refine AtE.then_x ?_
   refine AtE.then_x ?_
   refine AtE.blk_hit ?_
   refine AtE.then_n (AtE.go ?_)
   refine AtC.seqR ?_
   refine AtL.pures hT 1 _ _ _ _ rfl ?_
   refine AtL.e rfl (EffX.call (f := 60) (sh := fun h => slices_Grow_int_int _ _ h _) (H0 := H) rfl Try.call60 rfl (hl := fun w m hr hw => lift_slices_Grow_int_int _ _ w m hr _ hw)) ?_
   rintro _ _ ⟨v_1, h0u2, rfl, rfl, H⟩
   refine AtL.pures hT 1 _ _ _ _ rfl ?_
   refine AtL.nil ?_
   refine AtE.then_n (AtE.go ?_)
   refine AtC.seq ?_
   refine AtC.seqR ?_
   refine AtL.pures hT 3 _ _ _ _ rfl ?_
   refine AtL.nil ?_
   refine AtE.then_n (AtE.go ?_)
   refine AtC.block ?_
   refine AtC.loopM (fun (s0u1 : Sl × Int) => [(6, Sl.toV s0u1.1), (27, Value.int .i64 s0u1.2)]) (fun (s0u1 : Sl × Int) => []) [25, 26] [6, 27, 25, 26] [] [] H (by exact rfl) (by exact rfl) (by exact rfl) (by decide) (by exact rfl) (fun Kp5 s0u1 h0u3 H Q5 HK5 => ?_)
   refine AtC.seqR ?_
   refine AtL.pures hT 1 _ _ _ _ rfl ?_
   refine AtL.nil ?_
   refine AtE.then_n (AtE.go ?_)
   refine AtC.seq ?_
   refine AtC.condB H rfl (fun H => ?_) (fun H => ?_)
   ·
    refine AtC.skip ?_
    refine AtE.then_n (AtE.go ?_)
    refine AtC.seq ?_
    refine AtC.block ?_
    refine AtC.seqR ?_
    obtain ⟨a_1_, hc5, hd5, H⟩ := H
    refine AtL.q rfl (Quiet1.idxS (s := _) hT rfl rfl rfl rfl rfl hc5 hd5) ?_
    obtain ⟨v_2, hc6, H⟩ := H
    refine AtL.q rfl (Quiet1.load hT rfl rfl rfl hc6) ?_
    refine AtL.pures hT 1 _ _ _ _ rfl ?_
    refine AtL.nil ?_
    refine AtE.then_n (AtE.go ?_)
    refine AtC.region ?_
    refine AtL.pures hT 2 _ _ _ _ rfl ?_
    refine AtL.e rfl (EffX.appendS (s := _) (u := _) hT rfl rfl rfl rfl rfl rfl rfl rfl rfl rfl (by decide) H) ?_
    rintro _ _ ⟨v_3, h0u4, rfl, rfl, H⟩
    refine AtL.pures hT 1 _ _ _ _ rfl ?_
    refine AtL.nil ?_
    refine AtE.blk_n ?_
    refine AtE.then_n (AtE.go ?_)
    refine AtC.region ?_
    refine AtL.pures hT 2 _ _ _ _ rfl ?_
    refine AtL.nil ?_
    exact AtE.then_n ((HK5 _ _ H).pickP (ts := [6, 27, 25, 26]) (is := []) rfl rfl (by decide) rfl)
   ·
    refine AtC.exit ?_
    refine AtE.then_x ?_
    refine AtE.then_x ?_
    refine AtE.blk_hit ?_
    refine AtE.then_n (AtE.go ?_)
    refine AtC.seqR ?_
    refine AtL.pures hT 2 _ _ _ _ rfl ?_
    refine AtL.nil ?_
    refine AtE.then_n (AtE.go ?_)
    refine AtC.ret ?_
    exact AtE.retN (rs := [.tmp 2]) rfl (ResAll.cons (ResAt.tmp rfl) ResAll.nil) rfl H
theorem lift_clause_Run (s0 : (Option Addr)) (w : World) (m : Heap) (hr : Rel ⟨m, []⟩ w.heap) (S : Int → Heap → Prop) (H : clause_Run s0 m S) :
    Calls Try.prog 14 #[Value.pointer s0] w (Post ⟨w, m⟩ (Value.int .i64) S) := by
  refine Calls.lift (args := [Value.pointer s0]) Try.func14 rfl Try.ntmps14 (Nat.le_of_ble_eq_true rfl) hr (clause_Run s0 m S) H (fun H => ?_)
  refine AtC.pick (ts := [0]) rfl ?_
  unfold clause_Run at H
  refine AtC.seqR ?_
  refine AtL.pures hT 1 _ _ _ _ rfl ?_
  refine AtL.nil ?_
  refine AtE.then_n (AtE.go ?_)
  refine AtC.scope ?_
  refine AtC.seqR ?_
  refine AtL.pures hT 1 _ _ _ _ rfl ?_
  refine AtL.nil ?_
  refine AtE.then_n (AtE.go ?_)
  refine AtC.seq ?_
  refine AtC.label ?_
  refine AtE.then_n (AtE.go ?_)
  refine AtC.joinSeq (β := Unit) (fun (t0 : Int) (bb : Unit) => [(3, Value.int .i64 t0)]) (fun (t0 : Int) (bb : Unit) => []) [0] [] H (by exact rfl) (by exact rfl) (fun t0 bb h0 H => ?_) (fun J1 H HK1 => ?_)
  ·
   refine AtC.joinSeq (β := Unit) (fun (t0u2 : Unit) (bb_2 : Unit) => []) (fun (t0u2 : Unit) (bb_2 : Unit) => []) [3] [] H (by exact rfl) (by exact rfl) (fun t0u2 bb_2 h0u20 H => ?_) (fun J55 H HK55 => ?_)
   ·
    refine AtC.seqR ?_
    refine AtL.pures hT 2 _ _ _ _ rfl ?_
    refine AtL.nil ?_
    refine AtE.then_n (AtE.go ?_)
    refine AtC.ret ?_
    refine AtE.ng_r ?_
    exact AtE.retN (rs := [.tmp 2]) rfl (ResAll.cons (ResAt.tmp rfl) ResAll.nil) rfl H
   ·
    refine AtC.seqR ?_
    refine AtL.pures hT 2 _ _ _ _ rfl ?_
    refine AtL.nil ?_
    refine AtE.then_n (AtE.go ?_)
    refine AtC.condB H rfl (fun H => ?_) (fun H => ?_)
    ·
     refine AtC.region ?_
     refine AtL.pures hT 1 _ _ _ _ rfl ?_
     obtain ⟨a_22, hc55, H⟩ := H
     refine AtL.q rfl (Quiet1.nilChk rfl rfl hc55) ?_
     refine AtL.pures hT 1 _ _ _ _ rfl ?_
     obtain ⟨v_29, hc56, H⟩ := H
     refine AtL.q rfl (Quiet1.load hT rfl rfl rfl hc56) ?_
     refine AtL.pures hT 1 _ _ _ _ rfl ?_
     obtain ⟨a_23_, hc57, hd57, H⟩ := H
     refine AtL.q rfl (Quiet1.idxS (s := _) hT rfl rfl rfl rfl rfl hc57 hd57) ?_
     refine AtL.pures hT 1 _ _ _ _ rfl ?_
     obtain ⟨v_30, hc58, H⟩ := H
     refine AtL.q rfl (Quiet1.load hT rfl rfl rfl hc58) ?_
     refine AtL.pures hT 1 _ _ _ _ rfl ?_
     obtain ⟨a_24_, hc59, hd59, H⟩ := H
     refine AtL.q rfl (Quiet1.idxS (s := _) hT rfl rfl rfl rfl rfl hc59 hd59) ?_
     refine AtL.pures hT 1 _ _ _ _ rfl ?_
     refine AtL.e rfl (EffX.store hT rfl rfl rfl rfl rfl H) ?_
     rintro _ _ ⟨h0u21, rfl, H⟩
     refine AtL.nil ?_
     exact AtE.then_n ((HK55 _ () _ H).pickP (ts := [3]) (is := []) rfl rfl (by decide) rfl)
    ·
     refine AtC.skip ?_
     exact AtE.then_n ((HK55 _ () _ H).pickP (ts := [3]) (is := []) rfl rfl (by decide) rfl)
  ·
   refine AtC.block ?_
   refine AtC.loopM (fun (s0u1 : Int) => [(3, Value.int .i64 s0u1)]) (fun (s0u1 : Int) => []) [0] [3, 0] [] [] H (by exact rfl) (by exact rfl) (by exact rfl) (by decide) (by exact rfl) (fun Kp2 s0u1 h0u1 H Q2 HK2 => ?_)
   refine AtC.seq ?_
   refine AtC.seqD hmix (by kernel_rfl) ?_
   refine AtD.pures hT 1 _ _ _ _ rfl ?_
   obtain ⟨a, hc2, H⟩ := H
   refine AtD.q rfl (Quiet1.nilChk rfl rfl hc2) ?_
   refine AtD.pures hT 1 _ _ _ _ rfl ?_
   obtain ⟨v, hc3, H⟩ := H
   refine AtD.q rfl (Quiet1.load hT rfl rfl rfl hc3) ?_
   refine AtD.pures hT 1 _ _ _ _ rfl ?_
   obtain ⟨a_1, hc4, H⟩ := H
   refine AtD.q rfl (Quiet1.nilChk rfl rfl hc4) ?_
   refine AtD.pures hT 1 _ _ _ _ rfl ?_
   obtain ⟨v_1, hc5, H⟩ := H
   refine AtD.q rfl (Quiet1.load hT rfl rfl rfl hc5) ?_
   refine AtD.pures hT 2 _ _ _ _ rfl ?_
   refine AtD.nil ?_
   refine AtE.then_n (AtE.go ?_)
   refine AtC.condB H rfl (fun H => ?_) (fun H => ?_)
   ·
    refine AtC.skip ?_
    refine AtE.then_n (AtE.go ?_)
    refine AtC.block ?_
    refine AtC.seqD hmix (by kernel_rfl) ?_
    refine AtD.pures hT 1 _ _ _ _ rfl ?_
    obtain ⟨a_2, hc6, H⟩ := H
    refine AtD.q rfl (Quiet1.nilChk rfl rfl hc6) ?_
    refine AtD.pures hT 1 _ _ _ _ rfl ?_
    obtain ⟨v_2, hc7, H⟩ := H
    refine AtD.q rfl (Quiet1.load hT rfl rfl rfl hc7) ?_
    refine AtD.pures hT 1 _ _ _ _ rfl ?_
    obtain ⟨a_3, hc8, H⟩ := H
    refine AtD.q rfl (Quiet1.nilChk rfl rfl hc8) ?_
    refine AtD.pures hT 1 _ _ _ _ rfl ?_
    obtain ⟨v_3, hc9, H⟩ := H
    refine AtD.q rfl (Quiet1.load hT rfl rfl rfl hc9) ?_
    obtain ⟨a_4_, hc10, hd10, H⟩ := H
    refine AtD.q rfl (Quiet1.idxS (s := _) hT rfl rfl rfl rfl rfl hc10 hd10) ?_
    obtain ⟨v_4, hc11, H⟩ := H
    refine AtD.q rfl (Quiet1.load hT rfl rfl rfl hc11) ?_
    refine AtD.pures hT 2 _ _ _ _ rfl ?_
    replace H := H _ rfl
    refine AtD.nil ?_
    refine AtE.then_n (AtE.go ?_)
    refine AtC.seqR ?_
    refine AtL.pures hT 1 _ _ _ _ rfl ?_
    obtain ⟨a_5, hc12, H⟩ := H
    refine AtL.q rfl (Quiet1.nilChk rfl rfl hc12) ?_
    refine AtL.pures hT 1 _ _ _ _ rfl ?_
    obtain ⟨v_5, hc13, H⟩ := H
    refine AtL.q rfl (Quiet1.load hT rfl rfl rfl hc13) ?_
    refine AtL.pures hT 1 _ _ _ _ rfl ?_
    obtain ⟨a_6, hc14, H⟩ := H
    refine AtL.q rfl (Quiet1.nilChk rfl rfl hc14) ?_
    refine AtL.pures hT 1 _ _ _ _ rfl ?_
    refine AtL.e rfl (EffX.store hT rfl rfl rfl rfl rfl H) ?_
    rintro _ _ ⟨h0u2, rfl, H⟩
    refine AtL.nil ?_
    refine AtE.then_n (AtE.go ?_)
    obtain ⟨a_7, hc15, H⟩ := H
    obtain ⟨v_6, hc16, H⟩ := H
    apply AtC.seqS [5] [[], [], [], [], [], [], [5], [5], [5]] [[], [0], [0, 1], [0, 1, 2], [], [4], [0, 1, 2, 3, 4, 5], [0, 1, 2, 3, 4, 5, 6], [0, 1, 2, 3, 4, 5, 6, 7]] hmix (by kernel_rfl) [(38, _), (39, _), (40, _), (41, _), (42, _)] rfl 1 rfl
    refine Stg.go [0, 1, 2, 3, 4] [5] rfl rfl (QAll.cons (QOp.p hT rfl rfl rfl rfl rfl) (QAll.cons (QOp.q rfl rfl (Quiet1.nilChk rfl rfl hc15) rfl rfl) (QAll.cons (QOp.p hT rfl rfl rfl rfl rfl) (QAll.cons (QOp.q rfl rfl (Quiet1.load hT rfl rfl rfl hc16) rfl rfl) (QAll.cons (QOp.p hT rfl rfl rfl rfl rfl) QAll.nil))))) ?_
    refine EAll.cons ?_ EAll.nil
    refine EOp.e rfl rfl rfl (EffX.call (f := 37) (sh := fun h => clause_watch _ h _) (H0 := H) rfl Try.call37 rfl (hl := fun w m hr hw => lift_clause_watch _ w m hr _ hw)) ?_
    rintro _ _ ⟨v_7, h0u3, rfl, rfl, H⟩
    obtain ⟨hc17, H⟩ := H
    obtain ⟨a_8_, hc18, hd18, H⟩ := H
    obtain ⟨v_8, hc19, H⟩ := H
    apply Stg.next [(43, _), (44, _), (45, _), (5, _)] rfl rfl
    refine Stg.fin [0, 1, 2, 3, 6, 7, 8] rfl rfl (QAll.cons (QOp.p hT rfl rfl rfl rfl rfl) (QAll.cons (QOp.q rfl rfl (Quiet1.nilChk rfl rfl hc15) rfl rfl) (QAll.cons (QOp.p hT rfl rfl rfl rfl rfl) (QAll.cons (QOp.q rfl rfl (Quiet1.load hT rfl rfl rfl hc17) rfl rfl) (QAll.cons (QOp.q rfl rfl (Quiet1.idxS (s := _) hT rfl rfl rfl rfl rfl hc18 hd18) rfl rfl) (QAll.cons (QOp.q rfl rfl (Quiet1.load hT rfl rfl rfl hc19) rfl rfl) (QAll.cons (QOp.p hT rfl rfl rfl rfl rfl) QAll.nil))))))) ?_
    refine AtE.then_n (AtE.go ?_)
    obtain ⟨a_9, hc20, H⟩ := H
    obtain ⟨v_9, hc21, H⟩ := H
    apply AtC.seqS [5, 7] [[], [], [], [], [], [], [5], [5]] [[], [0], [0, 1], [0, 1, 2], [], [4], [0, 1, 2, 3, 4, 5], [0, 1, 2, 3, 4, 5, 6]] hmix (by kernel_rfl) [(46, _), (47, _), (48, _), (49, _), (50, _)] rfl 2 rfl
    refine Stg.go [0, 1, 2, 3, 4] [5] rfl rfl (QAll.cons (QOp.p hT rfl rfl rfl rfl rfl) (QAll.cons (QOp.q rfl rfl (Quiet1.nilChk rfl rfl hc20) rfl rfl) (QAll.cons (QOp.p hT rfl rfl rfl rfl rfl) (QAll.cons (QOp.q rfl rfl (Quiet1.load hT rfl rfl rfl hc21) rfl rfl) (QAll.cons (QOp.p hT rfl rfl rfl rfl rfl) QAll.nil))))) ?_
    refine EAll.cons ?_ EAll.nil
    refine EOp.e rfl rfl rfl (EffX.call (f := 37) (sh := fun h => clause_watch _ h _) (H0 := H) rfl Try.call37 rfl (hl := fun w m hr hw => lift_clause_watch _ w m hr _ hw)) ?_
    rintro _ _ ⟨v_10, h0u4, rfl, rfl, H⟩
    obtain ⟨hc22, H⟩ := H
    obtain ⟨a_10_, hc23, hd23, H⟩ := H
    apply Stg.next [(51, _), (52, _)] rfl rfl
    refine Stg.go [0, 1, 2, 3, 6] [7] rfl rfl (QAll.cons (QOp.p hT rfl rfl rfl rfl rfl) (QAll.cons (QOp.q rfl rfl (Quiet1.nilChk rfl rfl hc20) rfl rfl) (QAll.cons (QOp.p hT rfl rfl rfl rfl rfl) (QAll.cons (QOp.q rfl rfl (Quiet1.load hT rfl rfl rfl hc22) rfl rfl) (QAll.cons (QOp.q rfl rfl (Quiet1.idxS (s := _) hT rfl rfl rfl rfl rfl hc23 hd23) rfl rfl) QAll.nil))))) ?_
    refine EAll.cons ?_ EAll.nil
    refine EOp.e rfl rfl rfl (EffX.store hT rfl rfl rfl rfl rfl H) ?_
    rintro _ _ ⟨h0u5, rfl, H⟩
    apply Stg.next [] rfl rfl
    refine Stg.fin [] rfl rfl QAll.nil ?_
    refine AtE.then_n (AtE.go ?_)
    refine AtC.seqR ?_
    refine AtL.pures hT 1 _ _ _ _ rfl ?_
    refine AtL.nil ?_
    refine AtE.then_n (AtE.go ?_)
    refine AtC.seq ?_
    refine AtC.seqR ?_
    refine AtL.pures hT 3 _ _ _ _ rfl ?_
    refine AtL.nil ?_
    refine AtE.then_n (AtE.go ?_)
    refine AtC.block ?_
    refine AtC.loopM (fun (s0u2 : Int × Sl × Int) => [(3, Value.int .i64 s0u2.1), (6, Sl.toV s0u2.2.1), (55, Value.int .i64 s0u2.2.2)]) (fun (s0u2 : Int × Sl × Int) => []) [0, 4, 5, 53, 54] [3, 6, 55, 0, 4, 5, 53, 54] [] [] H (by exact rfl) (by exact rfl) (by exact rfl) (by decide) (by exact rfl) (fun Kp25 s0u2 h0u6 H Q25 HK25 => ?_)
    refine AtC.seqR ?_
    refine AtL.pures hT 1 _ _ _ _ rfl ?_
    refine AtL.nil ?_
    refine AtE.then_n (AtE.go ?_)
    refine AtC.seq ?_
    refine AtC.condB H rfl (fun H => ?_) (fun H => ?_)
    ·
     refine AtC.skip ?_
     refine AtE.then_n (AtE.go ?_)
     refine AtC.seq ?_
     refine AtC.block ?_
     refine AtC.seqR ?_
     refine AtL.pures hT 1 _ _ _ _ rfl ?_
     obtain ⟨a_11_, hc25, hd25, H⟩ := H
     refine AtL.q rfl (Quiet1.idxS (s := _) hT rfl rfl rfl rfl rfl hc25 hd25) ?_
     obtain ⟨v_11, hc26, H⟩ := H
     refine AtL.q rfl (Quiet1.load hT rfl rfl rfl hc26) ?_
     refine AtL.pures hT 2 _ _ _ _ rfl ?_
     refine AtL.nil ?_
     refine AtE.then_n (AtE.go ?_)
     refine AtC.seqR ?_
     refine AtL.pures hT 3 _ _ _ _ rfl ?_
     refine AtL.e rfl (EffX.call (f := 38) (sh := fun h => clause_ask _ _ _ h _) (H0 := H) rfl Try.call38 rfl (hl := fun w m hr hw => lift_clause_ask _ _ _ w m hr _ hw)) ?_
     rintro _ _ ⟨v_12, h0u7, rfl, rfl, H⟩
     refine AtL.pures hT 1 _ _ _ _ rfl ?_
     refine AtL.nil ?_
     refine AtE.then_n (AtE.go ?_)
     refine AtC.joinSeq (β := Unit) (fun (t0u1 : Sl) (bb_1 : Unit) => [(6, Sl.toV t0u1)]) (fun (t0u1 : Sl) (bb_1 : Unit) => []) [0, 3, 4, 5, 7, 8, 9, 53, 54, 55] [] H (by exact rfl) (by exact rfl) (fun t0u1 bb_1 h0u8 H => ?_) (fun J28 H HK28 => ?_)
     ·
      refine AtC.seqR ?_
      refine AtL.pures hT 2 _ _ _ _ rfl ?_
      refine AtL.nil ?_
      refine AtE.then_n (AtE.go ?_)
      refine AtC.condB H rfl (fun H => ?_) (fun H => ?_)
      ·
       refine AtC.seqR ?_
       refine AtL.pures hT 2 _ _ _ _ rfl ?_
       refine AtL.nil ?_
       refine AtE.then_n (AtE.go ?_)
       obtain ⟨a_13, hc28, H⟩ := H
       obtain ⟨v_15, hc29, H⟩ := H
       obtain ⟨v_16, hs30, H⟩ := sliceOf.out H
       obtain ⟨a_14, hc31, H⟩ := H
       obtain ⟨v_17, hc32, H⟩ := H
       apply AtC.seqS [5, 16, 19, 20, 22] [[], [], [], [], [], [], [], [], [], [], [], [], [], [], [], [], [5], [5, 16], [5, 16], [5, 16], [5, 16, 19], [5, 16, 19, 20], [5, 16, 19, 20]] [[], [0], [0, 1], [0, 1, 2], [], [4], [], [], [], [8], [7, 8, 9], [], [11], [11, 12], [11, 12, 13], [], [4, 5, 15], [4, 5, 11, 12, 13, 14, 15, 16], [4, 5, 11, 12, 13, 14, 15, 16, 17], [4, 5, 6, 7, 8, 9, 10, 11, 12, 13, 14, 15, 16, 17, 18], [4, 5, 6, 7, 8, 9, 10, 11, 12, 13, 14, 15, 16, 17, 18, 19], [0, 1, 2, 3, 4, 5, 6, 7, 8, 9, 10, 11, 12, 13, 14, 15, 16, 17, 18, 19, 20], [0, 1, 2, 3, 4, 5, 6, 7, 8, 9, 10, 11, 12, 13, 14, 15, 16, 17, 18, 19, 20, 21]] hmix (by kernel_rfl) [(73, _), (74, _), (75, _), (76, _), (77, _), (79, _), (80, _), (81, _), (82, _), (83, _), (84, _), (85, _), (86, _), (87, _), (88, _)] rfl 5 rfl
       refine Stg.go [0, 1, 2, 3, 4, 6, 7, 8, 9, 10, 11, 12, 13, 14, 15] [5] rfl rfl (QAll.cons (QOp.p hT rfl rfl rfl rfl rfl) (QAll.cons (QOp.q rfl rfl (Quiet1.nilChk rfl rfl hc28) rfl rfl) (QAll.cons (QOp.p hT rfl rfl rfl rfl rfl) (QAll.cons (QOp.q rfl rfl (Quiet1.load hT rfl rfl rfl hc29) rfl rfl) (QAll.cons (QOp.p hT rfl rfl rfl rfl rfl) (QAll.cons (QOp.p hT rfl rfl rfl rfl rfl) (QAll.cons (QOp.p hT rfl rfl rfl rfl rfl) (QAll.cons (QOp.p hT rfl rfl rfl rfl rfl) (QAll.cons (QOp.p hT rfl rfl rfl rfl rfl) (QAll.cons (QOp.q rfl rfl (Quiet1.sliceIs hT rfl rfl rfl rfl rfl rfl rfl (fun h => by cases h <;> rfl) hs30) rfl rfl) (QAll.cons (QOp.p hT rfl rfl rfl rfl rfl) (QAll.cons (QOp.q rfl rfl (Quiet1.nilChk rfl rfl hc31) rfl rfl) (QAll.cons (QOp.p hT rfl rfl rfl rfl rfl) (QAll.cons (QOp.q rfl rfl (Quiet1.load hT rfl rfl rfl hc32) rfl rfl) (QAll.cons (QOp.p hT rfl rfl rfl rfl rfl) QAll.nil))))))))))))))) ?_
       refine EAll.cons ?_ EAll.nil
       refine EOp.e rfl rfl rfl (EffX.call (f := 37) (sh := fun h => clause_watch _ h _) (H0 := H) rfl Try.call37 rfl (hl := fun w m hr hw => lift_clause_watch _ w m hr _ hw)) ?_
       rintro _ _ ⟨v_18, h0u11, rfl, rfl, H⟩
       obtain ⟨hc33, H⟩ := H
       obtain ⟨hc34, H⟩ := H
       apply Stg.next [(78, _)] rfl rfl
       refine Stg.go [0, 1, 2, 3, 6, 7, 8, 9, 10, 11, 12, 13, 14, 15] [16] rfl rfl (QAll.cons (QOp.p hT rfl rfl rfl rfl rfl) (QAll.cons (QOp.q rfl rfl (Quiet1.nilChk rfl rfl hc28) rfl rfl) (QAll.cons (QOp.p hT rfl rfl rfl rfl rfl) (QAll.cons (QOp.q rfl rfl (Quiet1.load hT rfl rfl rfl hc33) rfl rfl) (QAll.cons (QOp.p hT rfl rfl rfl rfl rfl) (QAll.cons (QOp.p hT rfl rfl rfl rfl rfl) (QAll.cons (QOp.p hT rfl rfl rfl rfl rfl) (QAll.cons (QOp.p hT rfl rfl rfl rfl rfl) (QAll.cons (QOp.q rfl rfl (Quiet1.sliceIs hT rfl rfl rfl rfl rfl rfl rfl (fun h => by cases h <;> rfl) hs30) rfl rfl) (QAll.cons (QOp.p hT rfl rfl rfl rfl rfl) (QAll.cons (QOp.q rfl rfl (Quiet1.nilChk rfl rfl hc31) rfl rfl) (QAll.cons (QOp.p hT rfl rfl rfl rfl rfl) (QAll.cons (QOp.q rfl rfl (Quiet1.load hT rfl rfl rfl hc34) rfl rfl) (QAll.cons (QOp.p hT rfl rfl rfl rfl rfl) QAll.nil)))))))))))))) ?_
       refine EAll.cons ?_ EAll.nil
       refine EOp.e rfl rfl rfl (EffX.call (f := 37) (sh := fun h => clause_watch _ h _) (H0 := H) rfl Try.call37 rfl (hl := fun w m hr hw => lift_clause_watch _ w m hr _ hw)) ?_
       rintro _ _ ⟨v_19, h0u12, rfl, rfl, H⟩
       obtain ⟨hc35, H⟩ := H
       obtain ⟨hc36, H⟩ := H
       obtain ⟨a_15_, hc37, hd37, H⟩ := H
       obtain ⟨v_20, hc38, H⟩ := H
       apply Stg.next [(89, _), (90, _), (91, _)] rfl rfl
       refine Stg.go [0, 1, 2, 3, 6, 7, 8, 9, 10, 11, 12, 13, 14, 17, 18] [19] rfl rfl (QAll.cons (QOp.p hT rfl rfl rfl rfl rfl) (QAll.cons (QOp.q rfl rfl (Quiet1.nilChk rfl rfl hc28) rfl rfl) (QAll.cons (QOp.p hT rfl rfl rfl rfl rfl) (QAll.cons (QOp.q rfl rfl (Quiet1.load hT rfl rfl rfl hc35) rfl rfl) (QAll.cons (QOp.p hT rfl rfl rfl rfl rfl) (QAll.cons (QOp.p hT rfl rfl rfl rfl rfl) (QAll.cons (QOp.p hT rfl rfl rfl rfl rfl) (QAll.cons (QOp.p hT rfl rfl rfl rfl rfl) (QAll.cons (QOp.q rfl rfl (Quiet1.sliceIs hT rfl rfl rfl rfl rfl rfl rfl (fun h => by cases h <;> rfl) hs30) rfl rfl) (QAll.cons (QOp.p hT rfl rfl rfl rfl rfl) (QAll.cons (QOp.q rfl rfl (Quiet1.nilChk rfl rfl hc31) rfl rfl) (QAll.cons (QOp.p hT rfl rfl rfl rfl rfl) (QAll.cons (QOp.q rfl rfl (Quiet1.load hT rfl rfl rfl hc36) rfl rfl) (QAll.cons (QOp.q rfl rfl (Quiet1.idxS (s := _) hT rfl rfl rfl rfl rfl hc37 hd37) rfl rfl) (QAll.cons (QOp.q rfl rfl (Quiet1.load hT rfl rfl rfl hc38) rfl rfl) QAll.nil))))))))))))))) ?_
       refine EAll.cons ?_ EAll.nil
       refine EOp.e rfl rfl rfl (EffX.buildS2 (cs := [_, _, _]) hT rfl rfl rfl rfl rfl rfl rfl rfl H) ?_
       rintro _ _ ⟨a_16, h0u13, rfl, rfl, H⟩
       obtain ⟨hc39, H⟩ := H
       apply Stg.next [(92, _)] rfl rfl
       refine Stg.go [0, 1, 2, 3] [20] rfl rfl (QAll.cons (QOp.p hT rfl rfl rfl rfl rfl) (QAll.cons (QOp.q rfl rfl (Quiet1.nilChk rfl rfl hc28) rfl rfl) (QAll.cons (QOp.p hT rfl rfl rfl rfl rfl) (QAll.cons (QOp.q rfl rfl (Quiet1.load hT rfl rfl rfl hc39) rfl rfl) QAll.nil)))) ?_
       refine EAll.cons ?_ EAll.nil
       refine EOp.e rfl rfl rfl (EffX.call (f := 39) (sh := fun h => slices_Concat_int_int _ h _) (H0 := H) rfl Try.call39 rfl (hl := fun w m hr hw => lift_slices_Concat_int_int _ w m hr _ hw)) ?_
       rintro _ _ ⟨v_22, h0u14, rfl, rfl, H⟩
       obtain ⟨hc40, H⟩ := H
       obtain ⟨a_17_, hc41, hd41, H⟩ := H
       apply Stg.next [(93, _), (94, _)] rfl rfl
       refine Stg.go [0, 1, 2, 3, 21] [22] rfl rfl (QAll.cons (QOp.p hT rfl rfl rfl rfl rfl) (QAll.cons (QOp.q rfl rfl (Quiet1.nilChk rfl rfl hc28) rfl rfl) (QAll.cons (QOp.p hT rfl rfl rfl rfl rfl) (QAll.cons (QOp.q rfl rfl (Quiet1.load hT rfl rfl rfl hc40) rfl rfl) (QAll.cons (QOp.q rfl rfl (Quiet1.idxS (s := _) hT rfl rfl rfl rfl rfl hc41 hd41) rfl rfl) QAll.nil))))) ?_
       refine EAll.cons ?_ EAll.nil
       refine EOp.e rfl rfl rfl (EffX.store hT rfl rfl rfl rfl rfl H) ?_
       rintro _ _ ⟨h0u15, rfl, H⟩
       apply Stg.next [] rfl rfl
       refine Stg.fin [] rfl rfl QAll.nil ?_
       refine AtE.then_n (AtE.go ?_)
       refine AtC.exit ?_
       refine AtE.blk_miss rfl ?_
       refine AtE.then_x ?_
       refine AtE.then_x ?_
       refine AtE.blk_miss rfl ?_
       refine AtE.then_x ?_
       refine AtE.blk_miss rfl ?_
       refine AtE.then_x ?_
       refine AtE.blk_hit ?_
       exact AtE.then_n ((HK1 _ () _ H).pickP (ts := [3, 0]) (is := []) rfl rfl (by decide) rfl)
      ·
       refine AtC.skip ?_
       refine AtE.blk_n ?_
       refine AtE.then_n (AtE.go ?_)
       refine AtC.region ?_
       refine AtL.pures hT 2 _ _ _ _ rfl ?_
       refine AtL.nil ?_
       exact AtE.then_n ((HK25 _ _ H).pickP (ts := [3, 6, 55, 0, 4, 5, 53, 54]) (is := []) rfl rfl (by decide) rfl)
     ·
      refine AtC.seqR ?_
      refine AtL.pures hT 2 _ _ _ _ rfl ?_
      refine AtL.nil ?_
      refine AtE.then_n (AtE.go ?_)
      refine AtC.condB H rfl (fun H => ?_) (fun H => ?_)
      ·
       refine AtC.region ?_
       refine AtL.pures hT 2 _ _ _ _ rfl ?_
       refine AtLX.bs (hT := hT) (cs := [_]) H rfl rfl rfl rfl rfl rfl rfl rfl rfl (fun a_12 h0u9 H => ?_)
       refine AtL.e rfl (EffX.appendS (s := _) (u := _) hT rfl rfl rfl rfl rfl rfl rfl rfl rfl rfl (by decide) H) ?_
       rintro _ _ ⟨v_14, h0u10, rfl, rfl, H⟩
       refine AtL.pures hT 1 _ _ _ _ rfl ?_
       refine AtL.nil ?_
       exact AtE.then_n ((HK28 _ () _ H).pickP (ts := [6, 0, 3, 4, 5, 7, 8, 9, 53, 54, 55]) (is := []) rfl rfl (by decide) rfl)
      ·
       refine AtC.skip ?_
       exact AtE.then_n ((HK28 _ () _ H).pickP (ts := [6, 0, 3, 4, 5, 7, 8, 9, 53, 54, 55]) (is := []) rfl rfl (by decide) rfl)
    ·
     refine AtC.exit ?_
     refine AtE.then_x ?_
     refine AtE.then_x ?_
     refine AtE.blk_hit ?_
     refine AtE.then_n (AtE.go ?_)
     obtain ⟨a_18, hc42, H⟩ := H
     obtain ⟨v_23, hc43, H⟩ := H
     obtain ⟨a_19, hc44, H⟩ := H
     obtain ⟨v_24, hc45, H⟩ := H
     apply AtC.stages [5, 12, 15, 17] [[], [], [], [], [], [], [], [], [], [], [], [], [5], [5, 12], [5, 12], [5, 12], [5, 12, 15], [5, 12, 15]] [[], [0], [0, 1], [0, 1, 2], [], [4], [], [], [7], [7, 8], [7, 8, 9], [], [4, 5, 11], [4, 5, 7, 8, 9, 10, 11, 12], [4, 5, 7, 8, 9, 10, 11, 12, 13], [4, 5, 6, 7, 8, 9, 10, 11, 12, 13, 14], [0, 1, 2, 3, 4, 5, 6, 7, 8, 9, 10, 11, 12, 13, 14, 15], [0, 1, 2, 3, 4, 5, 6, 7, 8, 9, 10, 11, 12, 13, 14, 15, 16]] hmix (by kernel_rfl) [(96, _), (97, _), (98, _), (99, _), (100, _), (102, _), (103, _), (104, _), (105, _), (106, _), (107, _)] rfl 4 rfl
     refine Stg.go [0, 1, 2, 3, 4, 6, 7, 8, 9, 10, 11] [5] rfl rfl (QAll.cons (QOp.p hT rfl rfl rfl rfl rfl) (QAll.cons (QOp.q rfl rfl (Quiet1.nilChk rfl rfl hc42) rfl rfl) (QAll.cons (QOp.p hT rfl rfl rfl rfl rfl) (QAll.cons (QOp.q rfl rfl (Quiet1.load hT rfl rfl rfl hc43) rfl rfl) (QAll.cons (QOp.p hT rfl rfl rfl rfl rfl) (QAll.cons (QOp.p hT rfl rfl rfl rfl rfl) (QAll.cons (QOp.p hT rfl rfl rfl rfl rfl) (QAll.cons (QOp.q rfl rfl (Quiet1.nilChk rfl rfl hc44) rfl rfl) (QAll.cons (QOp.p hT rfl rfl rfl rfl rfl) (QAll.cons (QOp.q rfl rfl (Quiet1.load hT rfl rfl rfl hc45) rfl rfl) (QAll.cons (QOp.p hT rfl rfl rfl rfl rfl) QAll.nil))))))))))) ?_
     refine EAll.cons ?_ EAll.nil
     refine EOp.e rfl rfl rfl (EffX.call (f := 37) (sh := fun h => clause_watch _ h _) (H0 := H) rfl Try.call37 rfl (hl := fun w m hr hw => lift_clause_watch _ w m hr _ hw)) ?_
     rintro _ _ ⟨v_25, h0u16, rfl, rfl, H⟩
     obtain ⟨hc46, H⟩ := H
     obtain ⟨hc47, H⟩ := H
     apply Stg.next [(101, _)] rfl rfl
     refine Stg.go [0, 1, 2, 3, 6, 7, 8, 9, 10, 11] [12] rfl rfl (QAll.cons (QOp.p hT rfl rfl rfl rfl rfl) (QAll.cons (QOp.q rfl rfl (Quiet1.nilChk rfl rfl hc42) rfl rfl) (QAll.cons (QOp.p hT rfl rfl rfl rfl rfl) (QAll.cons (QOp.q rfl rfl (Quiet1.load hT rfl rfl rfl hc46) rfl rfl) (QAll.cons (QOp.p hT rfl rfl rfl rfl rfl) (QAll.cons (QOp.p hT rfl rfl rfl rfl rfl) (QAll.cons (QOp.q rfl rfl (Quiet1.nilChk rfl rfl hc44) rfl rfl) (QAll.cons (QOp.p hT rfl rfl rfl rfl rfl) (QAll.cons (QOp.q rfl rfl (Quiet1.load hT rfl rfl rfl hc47) rfl rfl) (QAll.cons (QOp.p hT rfl rfl rfl rfl rfl) QAll.nil)))))))))) ?_
     refine EAll.cons ?_ EAll.nil
     refine EOp.e rfl rfl rfl (EffX.call (f := 37) (sh := fun h => clause_watch _ h _) (H0 := H) rfl Try.call37 rfl (hl := fun w m hr hw => lift_clause_watch _ w m hr _ hw)) ?_
     rintro _ _ ⟨v_26, h0u17, rfl, rfl, H⟩
     obtain ⟨hc48, H⟩ := H
     obtain ⟨hc49, H⟩ := H
     obtain ⟨a_20_, hc50, hd50, H⟩ := H
     obtain ⟨v_27, hc51, H⟩ := H
     apply Stg.next [(108, _), (109, _), (110, _)] rfl rfl
     refine Stg.go [0, 1, 2, 3, 6, 7, 8, 9, 10, 13, 14] [15] rfl rfl (QAll.cons (QOp.p hT rfl rfl rfl rfl rfl) (QAll.cons (QOp.q rfl rfl (Quiet1.nilChk rfl rfl hc42) rfl rfl) (QAll.cons (QOp.p hT rfl rfl rfl rfl rfl) (QAll.cons (QOp.q rfl rfl (Quiet1.load hT rfl rfl rfl hc48) rfl rfl) (QAll.cons (QOp.p hT rfl rfl rfl rfl rfl) (QAll.cons (QOp.p hT rfl rfl rfl rfl rfl) (QAll.cons (QOp.q rfl rfl (Quiet1.nilChk rfl rfl hc44) rfl rfl) (QAll.cons (QOp.p hT rfl rfl rfl rfl rfl) (QAll.cons (QOp.q rfl rfl (Quiet1.load hT rfl rfl rfl hc49) rfl rfl) (QAll.cons (QOp.q rfl rfl (Quiet1.idxS (s := _) hT rfl rfl rfl rfl rfl hc50 hd50) rfl rfl) (QAll.cons (QOp.q rfl rfl (Quiet1.load hT rfl rfl rfl hc51) rfl rfl) QAll.nil))))))))))) ?_
     refine EAll.cons ?_ EAll.nil
     refine EOp.e rfl rfl rfl (EffX.appendS (s := _) (u := _) hT rfl rfl rfl rfl rfl rfl rfl rfl rfl rfl (by decide) H) ?_
     rintro _ _ ⟨v_28, h0u18, rfl, rfl, H⟩
     obtain ⟨hc52, H⟩ := H
     obtain ⟨a_21_, hc53, hd53, H⟩ := H
     apply Stg.next [(111, _), (112, _)] rfl rfl
     refine Stg.go [0, 1, 2, 3, 16] [17] rfl rfl (QAll.cons (QOp.p hT rfl rfl rfl rfl rfl) (QAll.cons (QOp.q rfl rfl (Quiet1.nilChk rfl rfl hc42) rfl rfl) (QAll.cons (QOp.p hT rfl rfl rfl rfl rfl) (QAll.cons (QOp.q rfl rfl (Quiet1.load hT rfl rfl rfl hc52) rfl rfl) (QAll.cons (QOp.q rfl rfl (Quiet1.idxS (s := _) hT rfl rfl rfl rfl rfl hc53 hd53) rfl rfl) QAll.nil))))) ?_
     refine EAll.cons ?_ EAll.nil
     refine EOp.e rfl rfl rfl (EffX.store hT rfl rfl rfl rfl rfl H) ?_
     rintro _ _ ⟨h0u19, rfl, H⟩
     apply Stg.next [] rfl rfl
     refine Stg.fin [] rfl rfl QAll.nil ?_
     refine AtE.blk_n ?_
     exact AtE.then_n ((HK2 _ _ H).pickP (ts := [3, 0]) (is := []) rfl rfl (by decide) rfl)
   ·
    refine AtC.exit ?_
    refine AtE.then_x ?_
    refine AtE.then_x ?_
    refine AtE.blk_hit ?_
    exact AtE.then_n ((HK1 _ () _ H).pickP (ts := [3, 0]) (is := []) rfl rfl (by decide) rfl)
theorem lift_law18uspeaks (w : World) (m : Heap) (hr : Rel ⟨m, []⟩ w.heap) (S : Bool → Heap → Prop) (H : law18uspeaks m S) :
    Calls Try.prog 6 #[] w (Post ⟨w, m⟩ Value.bool S) := by
  refine Calls.lift (args := []) Try.func6 rfl Try.ntmps6 (Nat.le_of_ble_eq_true rfl) hr (law18uspeaks m S) H (fun H => ?_)
  refine AtC.pick (ts := []) rfl ?_
  unfold law18uspeaks at H
  refine AtC.seqR ?_
  refine AtL.pures hT 1 _ _ _ _ rfl ?_
  refine AtL.nil ?_
  refine AtE.then_n (AtE.go ?_)
  refine AtC.seqR ?_
  refine AtL.e rfl (EffX.call (f := 21) (sh := fun h => clause_New _ h _) (H0 := H) rfl Try.call21 rfl (hl := fun w m hr hw => lift_clause_New _ w m hr _ hw)) ?_
  rintro _ _ ⟨v, h0, rfl, rfl, H⟩
  refine AtL.e rfl (EffX.alloc hT rfl rfl H) ?_
  rintro _ _ ⟨s0, h0u1, rfl, rfl, H⟩
  refine AtL.e rfl (EffX.storeS hT rfl rfl rfl rfl rfl rfl H) ?_
  rintro _ _ ⟨h0u2, rfl, H⟩
  refine AtL.nil ?_
  refine AtE.then_n (AtE.go ?_)
  refine AtC.seqR ?_
  refine AtLX.bs (hT := hT) (cs := [_, _]) H rfl rfl rfl rfl rfl rfl rfl rfl rfl (fun a h0u3 H => ?_)
  refine AtL.e rfl (EffX.call (f := 22) (sh := fun h => clause_Add _ _ _ h _) (H0 := H) rfl Try.call22 rfl (hl := fun w m hr hw => lift_clause_Add _ _ _ w m hr _ hw)) ?_
  rintro _ _ ⟨v_2, h0u4, rfl, rfl, H⟩
  refine AtL.pures hT 5 _ _ _ _ rfl ?_
  refine AtL.nil ?_
  refine AtE.then_n (AtE.go ?_)
  refine AtC.seqR ?_
  refine AtL.e rfl (EffX.call (f := 28) (sh := fun h => clause_Tell _ _ _ h _) (H0 := H) rfl Try.call28 rfl (hl := fun w m hr hw => lift_clause_Tell _ _ _ w m hr _ hw)) ?_
  rintro _ _ ⟨v_3, h0u5, rfl, rfl, H⟩
  refine AtL.pures hT 1 _ _ _ _ rfl ?_
  refine AtL.nil ?_
  refine AtE.then_n (AtE.go ?_)
  refine AtC.joinSeq (β := Unit) (fun (t0 : Bool) (bb : Unit) => [(0, Value.bool t0)]) (fun (t0 : Bool) (bb : Unit) => []) [] [] H (by exact rfl) (by exact rfl) (fun t0 bb h0u6 H => ?_) (fun J1 H HK1 => ?_)
  ·
   refine AtC.ret ?_
   exact AtE.retN (rs := [.tmp 0]) rfl (ResAll.cons (ResAt.tmp rfl) ResAll.nil) rfl H
  ·
   refine AtC.region ?_
   refine AtL.pures hT 3 _ _ _ _ rfl ?_
   refine AtL.splitB (t := 14) H rfl (fun H => ?_) (fun H => ?_)
   ·
    refine AtL.yes rfl rfl rfl ?_
    refine AtL.pures hT 1 _ _ _ _ rfl ?_
    refine AtL.yes rfl rfl rfl ?_
    refine AtL.pures hT 1 _ _ _ _ rfl ?_
    refine AtL.pures hT 2 _ _ _ _ rfl ?_
    refine AtL.splitB (t := 18) H rfl (fun H => ?_) (fun H => ?_)
    ·
     refine AtL.yes rfl rfl rfl ?_
     refine AtL.pures hT 1 _ _ _ _ rfl ?_
     refine AtL.pures hT 2 _ _ _ _ rfl ?_
     refine AtL.splitB (t := 21) H rfl (fun H => ?_) (fun H => ?_)
     ·
      refine AtL.yes rfl rfl rfl ?_
      refine AtL.e rfl (EffX.call (f := 14) (sh := fun h => clause_Run _ h _) (H0 := H) rfl Try.call14 rfl (hl := fun w m hr hw => lift_clause_Run _ w m hr _ hw)) ?_
      rintro _ _ ⟨v_4, h0u7, rfl, rfl, H⟩
      refine AtL.yes rfl rfl rfl ?_
      refine AtL.pures hT 1 _ _ _ _ rfl ?_
      refine AtL.pures hT 2 _ _ _ _ rfl ?_
      refine AtL.splitB (t := 25) H rfl (fun H => ?_) (fun H => ?_)
      ·
       refine AtL.yes rfl rfl rfl ?_
       obtain ⟨v_5, hc1, H⟩ := H
       refine AtL.q rfl (Quiet1.loadS hT rfl rfl rfl rfl hc1) ?_
       refine AtL.yes rfl rfl rfl ?_
       refine AtL.e rfl (EffX.call (f := 27) (sh := fun h => clause_Value _ _ h _) (H0 := H) rfl Try.call27 rfl (hl := fun w m hr hw => lift_clause_Value _ _ w m hr _ hw)) ?_
       rintro _ _ ⟨v_6, h0u8, rfl, rfl, H⟩
       refine AtL.yes rfl rfl rfl ?_
       refine AtL.pures hT 1 _ _ _ _ rfl ?_
       refine AtL.pures hT 2 _ _ _ _ rfl ?_
       refine AtL.splitB (t := 30) H rfl (fun H => ?_) (fun H => ?_)
       ·
        refine AtL.yes rfl rfl rfl ?_
        refine AtL.pures hT 1 _ _ _ _ rfl ?_
        refine AtL.yes rfl rfl rfl ?_
        obtain ⟨v_7, hc2, H⟩ := H
        refine AtL.q rfl (Quiet1.load hT rfl rfl rfl hc2) ?_
        refine AtL.yes rfl rfl rfl ?_
        obtain ⟨a_1_, hc3, hd3, H⟩ := H
        refine AtL.q rfl (Quiet1.idxS (s := _) hT rfl rfl rfl rfl rfl hc3 hd3) ?_
        refine AtL.yes rfl rfl rfl ?_
        obtain ⟨v_8, hc4, H⟩ := H
        refine AtL.q rfl (Quiet1.load hT rfl rfl rfl hc4) ?_
        refine AtL.yes rfl rfl rfl ?_
        refine AtL.pures hT 1 _ _ _ _ rfl ?_
        refine AtL.pures hT 2 _ _ _ _ rfl ?_
        refine AtL.nil ?_
        exact AtE.then_n ((HK1 _ () _ H).pickP (ts := [0]) (is := []) rfl rfl (by decide) rfl)
       ·
        refine AtL.noF rfl rfl rfl (by decide) rfl ?_
        refine AtL.noF rfl rfl rfl (by decide) rfl ?_
        refine AtL.noF rfl rfl rfl (by decide) rfl ?_
        refine AtL.noF rfl rfl rfl (by decide) rfl ?_
        refine AtL.noF rfl rfl rfl (by decide) rfl ?_
        refine AtL.pures hT 2 _ _ _ _ rfl ?_
        refine AtL.nil ?_
        exact AtE.then_n ((HK1 _ () _ H).pickP (ts := [0]) (is := []) rfl rfl (by decide) rfl)
      ·
       refine AtL.noF rfl rfl rfl (by decide) rfl ?_
       refine AtL.noF rfl rfl rfl (by decide) rfl ?_
       refine AtL.noF rfl rfl rfl (by decide) rfl ?_
       refine AtL.pures hT 2 _ _ _ _ rfl ?_
       refine AtL.noF rfl rfl rfl (by decide) rfl ?_
       refine AtL.noF rfl rfl rfl (by decide) rfl ?_
       refine AtL.noF rfl rfl rfl (by decide) rfl ?_
       refine AtL.noF rfl rfl rfl (by decide) rfl ?_
       refine AtL.noF rfl rfl rfl (by decide) rfl ?_
       refine AtL.pures hT 2 _ _ _ _ rfl ?_
       refine AtL.nil ?_
       exact AtE.then_n ((HK1 _ () _ H).pickP (ts := [0]) (is := []) rfl rfl (by decide) rfl)
     ·
      refine AtL.noF rfl rfl rfl (by decide) rfl ?_
      refine AtL.noF rfl rfl rfl (by decide) rfl ?_
      refine AtL.pures hT 2 _ _ _ _ rfl ?_
      refine AtL.noF rfl rfl rfl (by decide) rfl ?_
      refine AtL.noF rfl rfl rfl (by decide) rfl ?_
      refine AtL.noF rfl rfl rfl (by decide) rfl ?_
      refine AtL.pures hT 2 _ _ _ _ rfl ?_
      refine AtL.noF rfl rfl rfl (by decide) rfl ?_
      refine AtL.noF rfl rfl rfl (by decide) rfl ?_
      refine AtL.noF rfl rfl rfl (by decide) rfl ?_
      refine AtL.noF rfl rfl rfl (by decide) rfl ?_
      refine AtL.noF rfl rfl rfl (by decide) rfl ?_
      refine AtL.pures hT 2 _ _ _ _ rfl ?_
      refine AtL.nil ?_
      exact AtE.then_n ((HK1 _ () _ H).pickP (ts := [0]) (is := []) rfl rfl (by decide) rfl)
    ·
     refine AtL.noF rfl rfl rfl (by decide) rfl ?_
     refine AtL.pures hT 2 _ _ _ _ rfl ?_
     refine AtL.noF rfl rfl rfl (by decide) rfl ?_
     refine AtL.noF rfl rfl rfl (by decide) rfl ?_
     refine AtL.pures hT 2 _ _ _ _ rfl ?_
     refine AtL.noF rfl rfl rfl (by decide) rfl ?_
     refine AtL.noF rfl rfl rfl (by decide) rfl ?_
     refine AtL.noF rfl rfl rfl (by decide) rfl ?_
     refine AtL.pures hT 2 _ _ _ _ rfl ?_
     refine AtL.noF rfl rfl rfl (by decide) rfl ?_
     refine AtL.noF rfl rfl rfl (by decide) rfl ?_
     refine AtL.noF rfl rfl rfl (by decide) rfl ?_
     refine AtL.noF rfl rfl rfl (by decide) rfl ?_
     refine AtL.noF rfl rfl rfl (by decide) rfl ?_
     refine AtL.pures hT 2 _ _ _ _ rfl ?_
     refine AtL.nil ?_
     exact AtE.then_n ((HK1 _ () _ H).pickP (ts := [0]) (is := []) rfl rfl (by decide) rfl)
   ·
    refine AtL.noF rfl rfl rfl (by decide) rfl ?_
    refine AtL.noF rfl rfl rfl (by decide) rfl ?_
    refine AtL.pures hT 2 _ _ _ _ rfl ?_
    refine AtL.noF rfl rfl rfl (by decide) rfl ?_
    refine AtL.pures hT 2 _ _ _ _ rfl ?_
    refine AtL.noF rfl rfl rfl (by decide) rfl ?_
    refine AtL.noF rfl rfl rfl (by decide) rfl ?_
    refine AtL.pures hT 2 _ _ _ _ rfl ?_
    refine AtL.noF rfl rfl rfl (by decide) rfl ?_
    refine AtL.noF rfl rfl rfl (by decide) rfl ?_
    refine AtL.noF rfl rfl rfl (by decide) rfl ?_
    refine AtL.pures hT 2 _ _ _ _ rfl ?_
    refine AtL.noF rfl rfl rfl (by decide) rfl ?_
    refine AtL.noF rfl rfl rfl (by decide) rfl ?_
    refine AtL.noF rfl rfl rfl (by decide) rfl ?_
    refine AtL.noF rfl rfl rfl (by decide) rfl ?_
    refine AtL.noF rfl rfl rfl (by decide) rfl ?_
    refine AtL.pures hT 2 _ _ _ _ rfl ?_
    refine AtL.nil ?_
    exact AtE.then_n ((HK1 _ () _ H).pickP (ts := [0]) (is := []) rfl rfl (by decide) rfl)
theorem lift_law18uGreat (list : Sl) (w : World) (m : Heap) (hr : Rel ⟨m, []⟩ w.heap) (S : Bool → Heap → Prop) (H : law18uGreat list m S) :
    Calls Try.prog 7 #[Sl.toV list] w (Post ⟨w, m⟩ Value.bool S) := by
  refine Calls.lift (args := [Sl.toV list]) Try.func7 rfl Try.ntmps7 (Nat.le_of_ble_eq_true rfl) hr (law18uGreat list m S) H (fun H => ?_)
  refine AtC.pick (ts := [0]) rfl ?_
  unfold law18uGreat at H
  refine AtC.seqR ?_
  refine AtL.pures hT 1 _ _ _ _ rfl ?_
  refine AtL.nil ?_
  refine AtE.then_n (AtE.go ?_)
  refine AtC.seq ?_
  refine AtC.seqR ?_
  refine AtL.pures hT 3 _ _ _ _ rfl ?_
  refine AtL.nil ?_
  refine AtE.then_n (AtE.go ?_)
  refine AtC.condB H rfl (fun H => ?_) (fun H => ?_)
  ·
   refine AtC.seqR ?_
   refine AtL.pures hT 1 _ _ _ _ rfl ?_
   refine AtL.nil ?_
   refine AtE.then_n (AtE.go ?_)
   refine AtC.ret ?_
   refine AtE.then_r ?_
   exact AtE.retN (rs := [.tmp 2]) rfl (ResAll.cons (ResAt.tmp rfl) ResAll.nil) rfl H
  ·
   refine AtC.skip ?_
   refine AtE.then_n (AtE.go ?_)
   refine AtC.seq ?_
   refine AtC.seqR ?_
   refine AtL.pures hT 3 _ _ _ _ rfl ?_
   refine AtL.nil ?_
   refine AtE.then_n (AtE.go ?_)
   refine AtC.block ?_
   refine AtC.loopM (fun (s0 : Int) => [(10, Value.int .i64 s0)]) (fun (s0 : Int) => []) [8, 9] [10, 8, 9] [] [] H (by exact rfl) (by exact rfl) (by exact rfl) (by decide) (by exact rfl) (fun Kp1 s0 h0 H Q1 HK1 => ?_)
   refine AtC.seqR ?_
   refine AtL.pures hT 1 _ _ _ _ rfl ?_
   refine AtL.nil ?_
   refine AtE.then_n (AtE.go ?_)
   refine AtC.seq ?_
   refine AtC.condB H rfl (fun H => ?_) (fun H => ?_)
   ·
    refine AtC.skip ?_
    refine AtE.then_n (AtE.go ?_)
    refine AtC.seq ?_
    refine AtC.block ?_
    refine AtC.seqR ?_
    obtain ⟨a_, hc1, hd1, H⟩ := H
    refine AtL.q rfl (Quiet1.idxS (s := _) hT rfl rfl rfl rfl rfl hc1 hd1) ?_
    obtain ⟨v, hc2, H⟩ := H
    refine AtL.q rfl (Quiet1.load hT rfl rfl rfl hc2) ?_
    refine AtL.pures hT 1 _ _ _ _ rfl ?_
    refine AtL.nil ?_
    refine AtE.then_n (AtE.go ?_)
    refine AtC.seqR ?_
    refine AtL.pures hT 3 _ _ _ _ rfl ?_
    refine AtL.nil ?_
    refine AtE.then_n (AtE.go ?_)
    refine AtC.condB H rfl (fun H => ?_) (fun H => ?_)
    ·
     refine AtC.seqR ?_
     refine AtL.pures hT 1 _ _ _ _ rfl ?_
     refine AtL.nil ?_
     refine AtE.then_n (AtE.go ?_)
     refine AtC.ret ?_
     refine AtE.blk_r ?_
     refine AtE.then_r ?_
     refine AtE.then_r ?_
     refine AtE.blk_r ?_
     refine AtE.then_r ?_
     exact AtE.retN (rs := [.tmp 2]) rfl (ResAll.cons (ResAt.tmp rfl) ResAll.nil) rfl H
    ·
     refine AtC.skip ?_
     refine AtE.blk_n ?_
     refine AtE.then_n (AtE.go ?_)
     refine AtC.region ?_
     refine AtL.pures hT 2 _ _ _ _ rfl ?_
     refine AtL.nil ?_
     exact AtE.then_n ((HK1 _ _ H).pickP (ts := [10, 8, 9]) (is := []) rfl rfl (by decide) rfl)
   ·
    refine AtC.exit ?_
    refine AtE.then_x ?_
    refine AtE.then_x ?_
    refine AtE.blk_hit ?_
    refine AtE.then_n (AtE.go ?_)
    refine AtC.seqR ?_
    refine AtL.pures hT 1 _ _ _ _ rfl ?_
    refine AtL.nil ?_
    refine AtE.then_n (AtE.go ?_)
    refine AtC.ret ?_
    exact AtE.retN (rs := [.tmp 2]) rfl (ResAll.cons (ResAt.tmp rfl) ResAll.nil) rfl H
theorem lift_ref18uThere (n : Int) (lit : Int) (w : World) (m : Heap) (hr : Rel ⟨m, []⟩ w.heap) (S : Bool → Heap → Prop) (H : ref18uThere n lit m S) :
    Calls Try.prog 33 #[Value.int .i64 n, Value.int .i64 lit] w (Post ⟨w, m⟩ Value.bool S) := by
  refine Calls.lift (args := [Value.int .i64 n, Value.int .i64 lit]) Try.func33 rfl Try.ntmps33 (Nat.le_of_ble_eq_true rfl) hr (ref18uThere n lit m S) H (fun H => ?_)
  refine AtC.pick (ts := [0, 1]) rfl ?_
  unfold ref18uThere at H
  refine AtC.seqR ?_
  refine AtL.pures hT 1 _ _ _ _ rfl ?_
  refine AtL.nil ?_
  refine AtE.then_n (AtE.go ?_)
  refine AtC.joinSeq (β := Unit) (fun (t0 : Bool) (bb : Unit) => [(4, Value.bool t0)]) (fun (t0 : Bool) (bb : Unit) => []) [] [] H (by exact rfl) (by exact rfl) (fun t0 bb h0 H => ?_) (fun J1 H HK1 => ?_)
  ·
   refine AtC.ret ?_
   exact AtE.retN (rs := [.tmp 4]) rfl (ResAll.cons (ResAt.tmp rfl) ResAll.nil) rfl H
  ·
   refine AtC.region ?_
   refine AtL.pures hT 3 _ _ _ _ rfl ?_
   refine AtL.splitB (t := 7) H rfl (fun H => ?_) (fun H => ?_)
   ·
    refine AtL.yes rfl rfl rfl ?_
    refine AtL.pures hT 1 _ _ _ _ rfl ?_
    refine AtL.yes rfl rfl rfl ?_
    refine AtL.pures hT 1 _ _ _ _ rfl ?_
    refine AtL.yes rfl rfl rfl ?_
    refine AtL.pures hT 1 _ _ _ _ rfl ?_
    refine AtL.pures hT 2 _ _ _ _ rfl ?_
    refine AtL.splitB (t := 12) H rfl (fun H => ?_) (fun H => ?_)
    ·
     refine AtL.noF rfl rfl rfl (by decide) rfl ?_
     refine AtL.noF rfl rfl rfl (by decide) rfl ?_
     refine AtL.noF rfl rfl rfl (by decide) rfl ?_
     refine AtL.noU rfl rfl rfl rfl ?_
     refine AtL.noU rfl rfl rfl rfl ?_
     refine AtL.noU rfl rfl rfl rfl ?_
     refine AtL.noU rfl rfl rfl rfl ?_
     refine AtL.noF rfl rfl rfl (by decide) rfl ?_
     refine AtL.pures hT 2 _ _ _ _ rfl ?_
     refine AtL.nil ?_
     exact AtE.then_n ((HK1 _ () _ H).pickP (ts := [4]) (is := []) rfl rfl (by decide) rfl)
    ·
     refine AtL.yes rfl rfl rfl ?_
     refine AtL.pures hT 1 _ _ _ _ rfl ?_
     refine AtL.yes rfl rfl rfl ?_
     refine AtL.pures hT 1 _ _ _ _ rfl ?_
     refine AtL.yes rfl rfl rfl ?_
     refine AtL.pures hT 1 _ _ _ _ rfl ?_
     refine AtL.splitB (t := 15) H rfl (fun H => ?_) (fun H => ?_)
     ·
      refine AtL.yes rfl rfl rfl ?_
      refine AtL.pures hT 1 _ _ _ _ rfl ?_
      refine AtL.yes rfl rfl rfl ?_
      refine AtL.pures hT 1 _ _ _ _ rfl ?_
      refine AtL.yes rfl rfl rfl ?_
      refine AtL.pures hT 1 _ _ _ _ rfl ?_
      refine AtL.yes rfl rfl rfl ?_
      refine AtL.pures hT 1 _ _ _ _ rfl ?_
      refine AtL.yes rfl rfl rfl ?_
      refine AtL.pures hT 1 _ _ _ _ rfl ?_
      refine AtL.pures hT 2 _ _ _ _ rfl ?_
      refine AtL.nil ?_
      exact AtE.then_n ((HK1 _ () _ H).pickP (ts := [4]) (is := []) rfl rfl (by decide) rfl)
     ·
      refine AtL.noF rfl rfl rfl (by decide) rfl ?_
      refine AtL.noF rfl rfl rfl (by decide) rfl ?_
      refine AtL.noF rfl rfl rfl (by decide) rfl ?_
      refine AtL.noF rfl rfl rfl (by decide) rfl ?_
      refine AtL.yes rfl rfl rfl ?_
      refine AtL.pures hT 1 _ _ _ _ rfl ?_
      refine AtL.pures hT 2 _ _ _ _ rfl ?_
      refine AtL.nil ?_
      exact AtE.then_n ((HK1 _ () _ H).pickP (ts := [4]) (is := []) rfl rfl (by decide) rfl)
   ·
    refine AtL.noF rfl rfl rfl (by decide) rfl ?_
    refine AtL.noF rfl rfl rfl (by decide) rfl ?_
    refine AtL.noF rfl rfl rfl (by decide) rfl ?_
    refine AtL.pures hT 2 _ _ _ _ rfl ?_
    refine AtL.yes rfl rfl rfl ?_
    refine AtL.pures hT 1 _ _ _ _ rfl ?_
    refine AtL.yes rfl rfl rfl ?_
    refine AtL.pures hT 1 _ _ _ _ rfl ?_
    refine AtL.yes rfl rfl rfl ?_
    refine AtL.pures hT 1 _ _ _ _ rfl ?_
    refine AtL.splitB (t := 15) H rfl (fun H => ?_) (fun H => ?_)
    ·
     refine AtL.yes rfl rfl rfl ?_
     refine AtL.pures hT 1 _ _ _ _ rfl ?_
     refine AtL.yes rfl rfl rfl ?_
     refine AtL.pures hT 1 _ _ _ _ rfl ?_
     refine AtL.yes rfl rfl rfl ?_
     refine AtL.pures hT 1 _ _ _ _ rfl ?_
     refine AtL.yes rfl rfl rfl ?_
     refine AtL.pures hT 1 _ _ _ _ rfl ?_
     refine AtL.yes rfl rfl rfl ?_
     refine AtL.pures hT 1 _ _ _ _ rfl ?_
     refine AtL.pures hT 2 _ _ _ _ rfl ?_
     refine AtL.nil ?_
     exact AtE.then_n ((HK1 _ () _ H).pickP (ts := [4]) (is := []) rfl rfl (by decide) rfl)
    ·
     refine AtL.noF rfl rfl rfl (by decide) rfl ?_
     refine AtL.noF rfl rfl rfl (by decide) rfl ?_
     refine AtL.noF rfl rfl rfl (by decide) rfl ?_
     refine AtL.noF rfl rfl rfl (by decide) rfl ?_
     refine AtL.yes rfl rfl rfl ?_
     refine AtL.pures hT 1 _ _ _ _ rfl ?_
     refine AtL.pures hT 2 _ _ _ _ rfl ?_
     refine AtL.nil ?_
     exact AtE.then_n ((HK1 _ () _ H).pickP (ts := [4]) (is := []) rfl rfl (by decide) rfl)
theorem lift_ref18uTruth (lit : Int) (w : World) (m : Heap) (hr : Rel ⟨m, []⟩ w.heap) (S : Int → Heap → Prop) (H : ref18uTruth lit m S) :
    Calls Try.prog 25 #[Value.int .i64 lit] w (Post ⟨w, m⟩ (Value.int .i64) S) := by
  refine Calls.lift (args := [Value.int .i64 lit]) Try.func25 rfl Try.ntmps25 (Nat.le_of_ble_eq_true rfl) hr (ref18uTruth lit m S) H (fun H => ?_)
  refine AtC.pick (ts := [0]) rfl ?_
  unfold ref18uTruth at H
  refine AtC.seqR ?_
  refine AtL.pures hT 1 _ _ _ _ rfl ?_
  refine AtL.nil ?_
  refine AtE.then_n (AtE.go ?_)
  refine AtC.seq ?_
  refine AtC.seqR ?_
  refine AtL.pures hT 2 _ _ _ _ rfl ?_
  refine AtL.nil ?_
  refine AtE.then_n (AtE.go ?_)
  refine AtC.condB H rfl (fun H => ?_) (fun H => ?_)
  ·
   refine AtC.seqR ?_
   refine AtL.pures hT 4 _ _ _ _ rfl ?_
   refine AtL.nil ?_
   refine AtE.then_n (AtE.go ?_)
   refine AtC.ret ?_
   refine AtE.then_r ?_
   exact AtE.retN (rs := [.tmp 2]) rfl (ResAll.cons (ResAt.tmp rfl) ResAll.nil) rfl H
  ·
   refine AtC.skip ?_
   refine AtE.then_n (AtE.go ?_)
   refine AtC.seqR ?_
   refine AtL.pures hT 3 _ _ _ _ rfl ?_
   refine AtL.nil ?_
   refine AtE.then_n (AtE.go ?_)
   refine AtC.ret ?_
   exact AtE.retN (rs := [.tmp 2]) rfl (ResAll.cons (ResAt.tmp rfl) ResAll.nil) rfl H
theorem lift_ref18uFits (n : Int) (lits : Sl) (w : World) (m : Heap) (hr : Rel ⟨m, []⟩ w.heap) (S : Bool → Heap → Prop) (H : ref18uFits n lits m S) :
    Calls Try.prog 29 #[Value.int .i64 n, Sl.toV lits] w (Post ⟨w, m⟩ Value.bool S) := by
  refine Calls.lift (args := [Value.int .i64 n, Sl.toV lits]) Try.func29 rfl Try.ntmps29 (Nat.le_of_ble_eq_true rfl) hr (ref18uFits n lits m S) H (fun H => ?_)
  refine AtC.pick (ts := [0, 1]) rfl ?_
  unfold ref18uFits at H
  refine AtC.seqR ?_
  refine AtL.pures hT 1 _ _ _ _ rfl ?_
  refine AtL.nil ?_
  refine AtE.then_n (AtE.go ?_)
  refine AtC.seq ?_
  refine AtC.seqR ?_
  refine AtL.pures hT 1 _ _ _ _ rfl ?_
  refine AtL.nil ?_
  refine AtE.then_n (AtE.go ?_)
  refine AtC.block ?_
  refine AtC.loopM (fun (s0 : Int) => [(5, Value.int .i64 s0)]) (fun (s0 : Int) => []) [0, 1] [5, 0, 1] [] [] H (by exact rfl) (by exact rfl) (by exact rfl) (by decide) (by exact rfl) (fun Kp1 s0 h0 H Q1 HK1 => ?_)
  refine AtC.seq ?_
  refine AtC.seqR ?_
  refine AtL.pures hT 4 _ _ _ _ rfl ?_
  refine AtL.nil ?_
  refine AtE.then_n (AtE.go ?_)
  refine AtC.condB H rfl (fun H => ?_) (fun H => ?_)
  ·
   refine AtC.skip ?_
   refine AtE.then_n (AtE.go ?_)
   refine AtC.seq ?_
   refine AtC.block ?_
   refine AtC.seq ?_
   refine AtC.seqR ?_
   refine AtL.pures hT 3 _ _ _ _ rfl ?_
   obtain ⟨a_, hc1, hd1, H⟩ := H
   refine AtL.q rfl (Quiet1.idxS (s := _) hT rfl rfl rfl rfl rfl hc1 hd1) ?_
   obtain ⟨v, hc2, H⟩ := H
   refine AtL.q rfl (Quiet1.load hT rfl rfl rfl hc2) ?_
   refine AtL.e rfl (EffX.call (f := 33) (sh := fun h => ref18uThere _ _ h _) (H0 := H) rfl Try.call33 rfl (hl := fun w m hr hw => lift_ref18uThere _ _ w m hr _ hw)) ?_
   rintro _ _ ⟨v_1, h0u1, rfl, rfl, H⟩
   refine AtL.pures hT 1 _ _ _ _ rfl ?_
   refine AtL.nil ?_
   refine AtE.then_n (AtE.go ?_)
   refine AtC.condB H rfl (fun H => ?_) (fun H => ?_)
   ·
    refine AtC.seqR ?_
    refine AtL.pures hT 1 _ _ _ _ rfl ?_
    refine AtL.nil ?_
    refine AtE.then_n (AtE.go ?_)
    refine AtC.ret ?_
    refine AtE.then_r ?_
    refine AtE.blk_r ?_
    refine AtE.then_r ?_
    refine AtE.then_r ?_
    refine AtE.blk_r ?_
    refine AtE.then_r ?_
    exact AtE.retN (rs := [.tmp 4]) rfl (ResAll.cons (ResAt.tmp rfl) ResAll.nil) rfl H
   ·
    refine AtC.skip ?_
    refine AtE.then_n (AtE.go ?_)
    refine AtC.seqR ?_
    refine AtL.pures hT 1 _ _ _ _ rfl ?_
    refine AtL.nil ?_
    refine AtE.then_n (AtE.go ?_)
    refine AtC.block ?_
    refine AtC.loopM (fun (s0u1 : Int) => [(6, Value.int .i64 s0u1)]) (fun (s0u1 : Int) => []) [0, 1, 5] [6, 0, 1, 5] [] [] H (by exact rfl) (by exact rfl) (by exact rfl) (by decide) (by exact rfl) (fun Kp4 s0u1 h0u2 H Q4 HK4 => ?_)
    refine AtC.seq ?_
    refine AtC.seqR ?_
    refine AtL.pures hT 3 _ _ _ _ rfl ?_
    refine AtL.nil ?_
    refine AtE.then_n (AtE.go ?_)
    refine AtC.condB H rfl (fun H => ?_) (fun H => ?_)
    ·
     refine AtC.skip ?_
     refine AtE.then_n (AtE.go ?_)
     refine AtC.seq ?_
     refine AtC.block ?_
     obtain ⟨a_1_, hc4, hd4, H⟩ := H
     obtain ⟨v_2, hc5, H⟩ := H
     obtain ⟨a_2_, hc6, hd6, H⟩ := H
     obtain ⟨v_3, hc7, H⟩ := H
     apply AtC.seqS [4, 9] [[], [], [], [], [], [], [], [], [], [4], [4, 9]] [[], [], [0, 1], [0, 1, 2], [0, 1, 2, 3], [], [], [5, 6], [5, 6, 7], [0, 1, 2, 3, 4, 5, 6, 7, 8], [0, 1, 2, 3, 4, 5, 6, 7, 8, 9]] hmix (by kernel_rfl) [(25, _), (26, _), (27, _), (28, _), (30, _), (31, _), (32, _), (33, _)] rfl 2 rfl
     refine Stg.go [0, 1, 2, 3, 5, 6, 7, 8] [4] rfl rfl (QAll.cons (QOp.p hT rfl rfl rfl rfl rfl) (QAll.cons (QOp.p hT rfl rfl rfl rfl rfl) (QAll.cons (QOp.q rfl rfl (Quiet1.idxS (s := _) hT rfl rfl rfl rfl rfl hc4 hd4) rfl rfl) (QAll.cons (QOp.q rfl rfl (Quiet1.load hT rfl rfl rfl hc5) rfl rfl) (QAll.cons (QOp.p hT rfl rfl rfl rfl rfl) (QAll.cons (QOp.p hT rfl rfl rfl rfl rfl) (QAll.cons (QOp.q rfl rfl (Quiet1.idxS (s := _) hT rfl rfl rfl rfl rfl hc6 hd6) rfl rfl) (QAll.cons (QOp.q rfl rfl (Quiet1.load hT rfl rfl rfl hc7) rfl rfl) QAll.nil)))))))) ?_
     refine EAll.cons ?_ EAll.nil
     refine EOp.e rfl rfl rfl (EffX.call (f := 25) (sh := fun h => ref18uTruth _ h _) (H0 := H) rfl Try.call25 rfl (hl := fun w m hr hw => lift_ref18uTruth _ w m hr _ hw)) ?_
     rintro _ _ ⟨v_4, h0u3, rfl, rfl, H⟩
     obtain ⟨hc8, H⟩ := H
     apply Stg.next [(29, _)] rfl rfl
     refine Stg.go [5, 6, 7, 8] [9] rfl rfl (QAll.cons (QOp.p hT rfl rfl rfl rfl rfl) (QAll.cons (QOp.p hT rfl rfl rfl rfl rfl) (QAll.cons (QOp.q rfl rfl (Quiet1.idxS (s := _) hT rfl rfl rfl rfl rfl hc6 hd6) rfl rfl) (QAll.cons (QOp.q rfl rfl (Quiet1.load hT rfl rfl rfl hc8) rfl rfl) QAll.nil)))) ?_
     refine EAll.cons ?_ EAll.nil
     refine EOp.e rfl rfl rfl (EffX.call (f := 25) (sh := fun h => ref18uTruth _ h _) (H0 := H) rfl Try.call25 rfl (hl := fun w m hr hw => lift_ref18uTruth _ w m hr _ hw)) ?_
     rintro _ _ ⟨v_5, h0u4, rfl, rfl, H⟩
     apply Stg.next [(34, _), (35, _)] rfl rfl
     refine Stg.fin [10] rfl rfl (QAll.cons (QOp.p hT rfl rfl rfl rfl rfl) QAll.nil) ?_
     refine AtE.then_n (AtE.go ?_)
     refine AtC.condB H rfl (fun H => ?_) (fun H => ?_)
     ·
      refine AtC.seqR ?_
      refine AtL.pures hT 1 _ _ _ _ rfl ?_
      refine AtL.nil ?_
      refine AtE.then_n (AtE.go ?_)
      refine AtC.ret ?_
      refine AtE.blk_r ?_
      refine AtE.then_r ?_
      refine AtE.then_r ?_
      refine AtE.blk_r ?_
      refine AtE.blk_r ?_
      refine AtE.then_r ?_
      refine AtE.then_r ?_
      refine AtE.blk_r ?_
      refine AtE.then_r ?_
      exact AtE.retN (rs := [.tmp 4]) rfl (ResAll.cons (ResAt.tmp rfl) ResAll.nil) rfl H
     ·
      refine AtC.skip ?_
      refine AtE.blk_n ?_
      refine AtE.then_n (AtE.go ?_)
      refine AtC.region ?_
      refine AtL.pures hT 3 _ _ _ _ rfl ?_
      replace H := H _ rfl
      refine AtL.nil ?_
      exact AtE.then_n ((HK4 _ _ H).pickP (ts := [6, 0, 1, 5]) (is := []) rfl rfl (by decide) rfl)
    ·
     refine AtC.exit ?_
     refine AtE.then_x ?_
     refine AtE.then_x ?_
     refine AtE.blk_hit ?_
     refine AtE.blk_n ?_
     refine AtE.then_n (AtE.go ?_)
     refine AtC.region ?_
     refine AtL.pures hT 3 _ _ _ _ rfl ?_
     replace H := H _ rfl
     refine AtL.nil ?_
     exact AtE.then_n ((HK1 _ _ H).pickP (ts := [5, 0, 1]) (is := []) rfl rfl (by decide) rfl)
  ·
   refine AtC.exit ?_
   refine AtE.then_x ?_
   refine AtE.then_x ?_
   refine AtE.blk_hit ?_
   refine AtE.then_n (AtE.go ?_)
   refine AtC.seqR ?_
   refine AtL.pures hT 4 _ _ _ _ rfl ?_
   refine AtL.nil ?_
   refine AtE.then_n (AtE.go ?_)
   refine AtC.ret ?_
   exact AtE.retN (rs := [.tmp 4]) rfl (ResAll.cons (ResAt.tmp rfl) ResAll.nil) rfl H
theorem lift_law18ulaid (n : Int) (list : Sl) (w : World) (m : Heap) (hr : Rel ⟨m, []⟩ w.heap) (S : ((Sl × Sl × Sl × Sl × Sl × Sl × Sl × Int) × Bool) → Heap → Prop) (H : law18ulaid n list m S) :
    Calls Try.prog 8 #[Value.int .i64 n, Sl.toV list] w (Post ⟨w, m⟩ (fun r => Value.tuple #[(fun r => Value.agg (C_sl_sl_sl_sl_sl_sl_sl_i64 r).toArray) r.1, Value.bool r.2]) S) := by
  refine Calls.lift (args := [Value.int .i64 n, Sl.toV list]) Try.func8 rfl Try.ntmps8 (Nat.le_of_ble_eq_true rfl) hr (law18ulaid n list m S) H (fun H => ?_)
  refine AtC.pick (ts := [0, 1]) rfl ?_
  unfold law18ulaid at H
  refine AtC.seqR ?_
  refine AtL.e rfl (EffX.allocP (cs := [_, _, _, _, _, _, _, _]) hT rfl rfl H) ?_
  rintro _ _ ⟨b, _, rfl, rfl, _, H⟩
  replace H := H.self
  refine AtL.pures hT 1 _ _ _ _ rfl ?_
  refine AtL.nil ?_
  refine AtE.then_n (AtE.go ?_)
  refine AtC.seqR ?_
  refine AtL.pures hT 1 _ _ _ _ rfl ?_
  refine AtL.e rfl (EffX.call (f := 21) (sh := fun h => clause_New _ h _) (H0 := H) rfl Try.call21 rfl (hl := fun w m hr hw => lift_clause_New _ w m hr _ hw)) ?_
  rintro _ _ ⟨v, h0u1, rfl, rfl, H⟩
  refine AtL.e rfl (EffX.alloc hT rfl rfl H) ?_
  rintro _ _ ⟨s0, h0u2, rfl, rfl, H⟩
  refine AtL.e rfl (EffX.storeS hT rfl rfl rfl rfl rfl rfl H) ?_
  rintro _ _ ⟨h0u3, rfl, H⟩
  refine AtL.nil ?_
  refine AtE.then_n (AtE.go ?_)
  refine AtC.seqR ?_
  refine AtL.pures hT 1 _ _ _ _ rfl ?_
  refine AtL.nil ?_
  refine AtE.then_n (AtE.go ?_)
  refine AtC.seq ?_
  refine AtC.seqR ?_
  refine AtL.pures hT 3 _ _ _ _ rfl ?_
  refine AtL.nil ?_
  refine AtE.then_n (AtE.go ?_)
  refine AtC.block ?_
  refine AtC.loopM (fun (s0u1 : Int × Int × Sl × Sl × Sl × Sl × Sl × Sl × Sl × Int) => [(7, Value.int .i64 s0u1.1), (16, Value.int .i64 s0u1.2.1)]) (fun (s0u1 : Int × Int × Sl × Sl × Sl × Sl × Sl × Sl × Sl × Int) => [(b, [Sl.toV s0u1.2.2.1, Sl.toV s0u1.2.2.2.1, Sl.toV s0u1.2.2.2.2.1, Sl.toV s0u1.2.2.2.2.2.1, Sl.toV s0u1.2.2.2.2.2.2.1, Sl.toV s0u1.2.2.2.2.2.2.2.1, Sl.toV s0u1.2.2.2.2.2.2.2.2.1, Value.int .i64 s0u1.2.2.2.2.2.2.2.2.2])]) [0, 4, 6, 14, 15] [7, 16, 0, 4, 6, 14, 15] [] [0] H (by exact rfl) (by exact rfl) (by exact rfl) (by decide) (by exact rfl) (fun Kp1 s0u1 h0u4 H Q1 HK1 => ?_)
  refine AtC.seqR ?_
  refine AtL.pures hT 1 _ _ _ _ rfl ?_
  refine AtL.nil ?_
  refine AtE.then_n (AtE.go ?_)
  refine AtC.seq ?_
  refine AtC.condB H rfl (fun H => ?_) (fun H => ?_)
  ·
   refine AtC.skip ?_
   refine AtE.then_n (AtE.go ?_)
   refine AtC.joinSeq (β := Unit) (fun (t0 : Int × Sl × Sl × Sl × Sl × Sl × Sl × Sl × Int) (bb : Unit) => [(7, Value.int .i64 t0.1)]) (fun (t0 : Int × Sl × Sl × Sl × Sl × Sl × Sl × Sl × Int) (bb : Unit) => [(b, [Sl.toV t0.2.1, Sl.toV t0.2.2.1, Sl.toV t0.2.2.2.1, Sl.toV t0.2.2.2.2.1, Sl.toV t0.2.2.2.2.2.1, Sl.toV t0.2.2.2.2.2.2.1, Sl.toV t0.2.2.2.2.2.2.2.1, Value.int .i64 t0.2.2.2.2.2.2.2.2])]) [0, 4, 6, 14, 15, 16] [] H (by exact rfl) (by exact rfl) (fun t0 bb h0u5 H => ?_) (fun J2 H HK2 => ?_)
   ·
    refine AtC.region ?_
    refine AtL.pures hT 2 _ _ _ _ rfl ?_
    refine AtL.nil ?_
    exact AtE.then_n ((HK1 _ _ H).pickP (ts := [7, 16, 0, 4, 6, 14, 15]) (is := [0]) rfl rfl (by decide) rfl)
   ·
    refine AtC.block ?_
    refine AtC.seqR ?_
    refine AtL.pures hT 1 _ _ _ _ rfl ?_
    obtain ⟨a_, hc2, hd2, H⟩ := H
    refine AtL.q rfl (Quiet1.idxS (s := _) hT rfl rfl rfl rfl rfl hc2 hd2) ?_
    obtain ⟨v_1, hc3, H⟩ := H
    refine AtL.q rfl (Quiet1.load hT rfl rfl rfl hc3) ?_
    refine AtL.pures hT 2 _ _ _ _ rfl ?_
    refine AtL.nil ?_
    refine AtE.then_n (AtE.go ?_)
    refine AtC.seqR ?_
    refine AtLX.bs (hT := hT) (cs := []) H rfl rfl rfl rfl rfl rfl rfl rfl rfl (fun a_1 h0u6 H => ?_)
    refine AtL.pures hT 1 _ _ _ _ rfl ?_
    refine AtL.e rfl (EffX.appendS (s := _) (u := _) hT rfl rfl rfl rfl rfl rfl rfl rfl rfl rfl (by decide) H) ?_
    rintro _ _ ⟨v_3, h0u7, rfl, rfl, H⟩
    refine AtL.pures hT 3 _ _ _ _ rfl ?_
    refine AtL.e rfl (EffX.call (f := 22) (sh := fun h => clause_Add _ _ _ h _) (H0 := H) rfl Try.call22 rfl (hl := fun w m hr hw => lift_clause_Add _ _ _ w m hr _ hw)) ?_
    rintro _ _ ⟨v_4, h0u8, rfl, rfl, H⟩
    refine AtL.pures hT 5 _ _ _ _ rfl ?_
    refine AtL.nil ?_
    refine AtE.then_n (AtE.go ?_)
    refine AtC.seq ?_
    refine AtC.joinSeq (β := Unit) (fun (t0u1 : Bool) (bb_1 : Unit) => [(57, Value.bool t0u1)]) (fun (t0u1 : Bool) (bb_1 : Unit) => []) [0, 4, 6, 7, 11, 14, 15, 16] [0] H (by exact rfl) (by exact rfl) (fun t0u1 bb_1 h0u9 H => ?_) (fun J5 H HK5 => ?_)
    ·
     refine AtC.condB H rfl (fun H => ?_) (fun H => ?_)
     ·
      refine AtC.seqR ?_
      obtain ⟨v_6, hc5, H⟩ := H
      refine AtL.q rfl (Quiet1.loadS hT rfl rfl rfl rfl hc5) ?_
      refine AtL.e rfl (EffX.storeSP (i := 0) (qv := [(_, [_, _, _, _, _, _, _, _])]) hT rfl rfl rfl rfl rfl rfl rfl rfl rfl rfl) ?_
      rintro _ _ rfl
      refine AtL.pures hT 1 _ _ _ _ rfl ?_
      refine AtL.nil ?_
      refine AtE.then_n (AtE.go ?_)
      refine AtC.ret ?_
      refine AtE.then_r ?_
      refine AtE.blk_r ?_
      refine AtE.then_r ?_
      refine AtE.then_r ?_
      refine AtE.blk_r ?_
      refine AtE.then_r ?_
      exact AtE.retN (rs := [.cell 4 28, .tmp 5]) rfl (ResAll.cons (ResAt.cellSP (i := 0) (l := [_, _, _, _, _, _, _, _]) hT rfl rfl rfl rfl rfl rfl rfl) (ResAll.cons (ResAt.tmp rfl) ResAll.nil)) rfl H
     ·
      refine AtC.skip ?_
      refine AtE.then_n (AtE.go ?_)
      refine AtC.seqR ?_
      refine AtL.pures hT 2 _ _ _ _ rfl ?_
      refine AtL.nil ?_
      refine AtE.then_n (AtE.go ?_)
      refine AtC.condB H rfl (fun H => ?_) (fun H => ?_)
      ·
       refine AtC.region ?_
       refine AtL.pures hT 3 _ _ _ _ rfl ?_
       replace H := H _ rfl
       refine AtL.nil ?_
       refine AtE.blk_n ?_
       exact AtE.then_n ((HK2 _ () _ H).pickP (ts := [7, 0, 4, 6, 14, 15, 16]) (is := [0]) rfl rfl (by decide) rfl)
      ·
       refine AtC.skip ?_
       refine AtE.blk_n ?_
       exact AtE.then_n ((HK2 _ () _ H).pickP (ts := [7, 0, 4, 6, 14, 15, 16]) (is := [0]) rfl rfl (by decide) rfl)
    ·
     refine AtC.region ?_
     refine AtL.pures hT 4 _ _ _ _ rfl ?_
     refine AtL.e rfl (EffX.call (f := 29) (sh := fun h => ref18uFits _ _ h _) (H0 := H) rfl Try.call29 rfl (hl := fun w m hr hw => lift_ref18uFits _ _ w m hr _ hw)) ?_
     rintro _ _ ⟨v_5, h0u10, rfl, rfl, H⟩
     refine AtL.pures hT 2 _ _ _ _ rfl ?_
     refine AtL.splitB (t := 37) H rfl (fun H => ?_) (fun H => ?_)
     ·
      refine AtL.noF rfl rfl rfl (by decide) rfl ?_
      refine AtL.noF rfl rfl rfl (by decide) rfl ?_
      refine AtL.noF rfl rfl rfl (by decide) rfl ?_
      refine AtL.noU rfl rfl rfl rfl ?_
      refine AtL.noU rfl rfl rfl rfl ?_
      refine AtL.noU rfl rfl rfl rfl ?_
      refine AtL.noF rfl rfl rfl (by decide) rfl ?_
      refine AtL.pures hT 2 _ _ _ _ rfl ?_
      refine AtL.noF rfl rfl rfl (by decide) rfl ?_
      refine AtL.noF rfl rfl rfl (by decide) rfl ?_
      refine AtL.noF rfl rfl rfl (by decide) rfl ?_
      refine AtL.noU rfl rfl rfl rfl ?_
      refine AtL.noU rfl rfl rfl rfl ?_
      refine AtL.noU rfl rfl rfl rfl ?_
      refine AtL.noU rfl rfl rfl rfl ?_
      refine AtL.noU rfl rfl rfl rfl ?_
      refine AtL.noU rfl rfl rfl rfl ?_
      refine AtL.noF rfl rfl rfl (by decide) rfl ?_
      refine AtL.pures hT 1 _ _ _ _ rfl ?_
      refine AtL.nil ?_
      exact AtE.then_n ((HK5 _ () _ H).pickP (ts := [57, 0, 4, 6, 7, 11, 14, 15, 16]) (is := [0]) rfl rfl (by decide) rfl)
     ·
      refine AtL.yes rfl rfl rfl ?_
      refine AtL.pures hT 1 _ _ _ _ rfl ?_
      refine AtL.yes rfl rfl rfl ?_
      refine AtL.pures hT 1 _ _ _ _ rfl ?_
      refine AtL.yes rfl rfl rfl ?_
      refine AtL.pures hT 1 _ _ _ _ rfl ?_
      refine AtL.splitB (t := 40) H rfl (fun H => ?_) (fun H => ?_)
      ·
       refine AtL.yes rfl rfl rfl ?_
       refine AtL.pures hT 1 _ _ _ _ rfl ?_
       refine AtL.yes rfl rfl rfl ?_
       refine AtL.pures hT 1 _ _ _ _ rfl ?_
       refine AtL.yes rfl rfl rfl ?_
       refine AtL.pures hT 1 _ _ _ _ rfl ?_
       refine AtL.yes rfl rfl rfl ?_
       refine AtL.pures hT 1 _ _ _ _ rfl ?_
       refine AtL.pures hT 2 _ _ _ _ rfl ?_
       refine AtL.splitB (t := 46) H rfl (fun H => ?_) (fun H => ?_)
       ·
        refine AtL.noF rfl rfl rfl (by decide) rfl ?_
        refine AtL.noF rfl rfl rfl (by decide) rfl ?_
        refine AtL.noF rfl rfl rfl (by decide) rfl ?_
        refine AtL.noU rfl rfl rfl rfl ?_
        refine AtL.noU rfl rfl rfl rfl ?_
        refine AtL.noU rfl rfl rfl rfl ?_
        refine AtL.noU rfl rfl rfl rfl ?_
        refine AtL.noU rfl rfl rfl rfl ?_
        refine AtL.noU rfl rfl rfl rfl ?_
        refine AtL.noF rfl rfl rfl (by decide) rfl ?_
        refine AtL.pures hT 1 _ _ _ _ rfl ?_
        refine AtL.nil ?_
        exact AtE.then_n ((HK5 _ () _ H).pickP (ts := [57, 0, 4, 6, 7, 11, 14, 15, 16]) (is := [0]) rfl rfl (by decide) rfl)
       ·
        refine AtL.yes rfl rfl rfl ?_
        refine AtL.pures hT 1 _ _ _ _ rfl ?_
        refine AtL.yes rfl rfl rfl ?_
        refine AtL.pures hT 1 _ _ _ _ rfl ?_
        refine AtL.yes rfl rfl rfl ?_
        refine AtL.pures hT 1 _ _ _ _ rfl ?_
        refine AtL.splitB (t := 49) H rfl (fun H => ?_) (fun H => ?_)
        ·
         refine AtL.yes rfl rfl rfl ?_
         refine AtL.pures hT 1 _ _ _ _ rfl ?_
         refine AtL.yes rfl rfl rfl ?_
         refine AtL.pures hT 1 _ _ _ _ rfl ?_
         refine AtL.yes rfl rfl rfl ?_
         refine AtL.pures hT 1 _ _ _ _ rfl ?_
         refine AtL.splitB (t := 52) H rfl (fun H => ?_) (fun H => ?_)
         ·
          refine AtL.noF rfl rfl rfl (by decide) rfl ?_
          refine AtL.noF rfl rfl rfl (by decide) rfl ?_
          refine AtL.yes rfl rfl rfl ?_
          refine AtL.pures hT 1 _ _ _ _ rfl ?_
          refine AtL.yes rfl rfl rfl ?_
          refine AtL.pures hT 1 _ _ _ _ rfl ?_
          refine AtL.pures hT 1 _ _ _ _ rfl ?_
          refine AtL.nil ?_
          exact AtE.then_n ((HK5 _ () _ H).pickP (ts := [57, 0, 4, 6, 7, 11, 14, 15, 16]) (is := [0]) rfl rfl (by decide) rfl)
         ·
          refine AtL.yes rfl rfl rfl ?_
          refine AtL.pures hT 1 _ _ _ _ rfl ?_
          refine AtL.yes rfl rfl rfl ?_
          refine AtL.pures hT 1 _ _ _ _ rfl ?_
          refine AtL.yes rfl rfl rfl ?_
          refine AtL.pures hT 1 _ _ _ _ rfl ?_
          refine AtL.yes rfl rfl rfl ?_
          refine AtL.pures hT 1 _ _ _ _ rfl ?_
          refine AtL.pures hT 1 _ _ _ _ rfl ?_
          refine AtL.nil ?_
          exact AtE.then_n ((HK5 _ () _ H).pickP (ts := [57, 0, 4, 6, 7, 11, 14, 15, 16]) (is := [0]) rfl rfl (by decide) rfl)
        ·
         refine AtL.noF rfl rfl rfl (by decide) rfl ?_
         refine AtL.noF rfl rfl rfl (by decide) rfl ?_
         refine AtL.noF rfl rfl rfl (by decide) rfl ?_
         refine AtL.noU rfl rfl rfl rfl ?_
         refine AtL.noU rfl rfl rfl rfl ?_
         refine AtL.noF rfl rfl rfl (by decide) rfl ?_
         refine AtL.yes rfl rfl rfl ?_
         refine AtL.pures hT 1 _ _ _ _ rfl ?_
         refine AtL.pures hT 1 _ _ _ _ rfl ?_
         refine AtL.nil ?_
         exact AtE.then_n ((HK5 _ () _ H).pickP (ts := [57, 0, 4, 6, 7, 11, 14, 15, 16]) (is := [0]) rfl rfl (by decide) rfl)
      ·
       refine AtL.noF rfl rfl rfl (by decide) rfl ?_
       refine AtL.noF rfl rfl rfl (by decide) rfl ?_
       refine AtL.noF rfl rfl rfl (by decide) rfl ?_
       refine AtL.yes rfl rfl rfl ?_
       refine AtL.pures hT 1 _ _ _ _ rfl ?_
       refine AtL.pures hT 2 _ _ _ _ rfl ?_
       refine AtL.yes rfl rfl rfl ?_
       refine AtL.pures hT 1 _ _ _ _ rfl ?_
       refine AtL.yes rfl rfl rfl ?_
       refine AtL.pures hT 1 _ _ _ _ rfl ?_
       refine AtL.yes rfl rfl rfl ?_
       refine AtL.pures hT 1 _ _ _ _ rfl ?_
       refine AtL.splitB (t := 49) H rfl (fun H => ?_) (fun H => ?_)
       ·
        refine AtL.yes rfl rfl rfl ?_
        refine AtL.pures hT 1 _ _ _ _ rfl ?_
        refine AtL.yes rfl rfl rfl ?_
        refine AtL.pures hT 1 _ _ _ _ rfl ?_
        refine AtL.yes rfl rfl rfl ?_
        refine AtL.pures hT 1 _ _ _ _ rfl ?_
        refine AtL.splitB (t := 52) H rfl (fun H => ?_) (fun H => ?_)
        ·
         refine AtL.noF rfl rfl rfl (by decide) rfl ?_
         refine AtL.noF rfl rfl rfl (by decide) rfl ?_
         refine AtL.yes rfl rfl rfl ?_
         refine AtL.pures hT 1 _ _ _ _ rfl ?_
         refine AtL.yes rfl rfl rfl ?_
         refine AtL.pures hT 1 _ _ _ _ rfl ?_
         refine AtL.pures hT 1 _ _ _ _ rfl ?_
         refine AtL.nil ?_
         exact AtE.then_n ((HK5 _ () _ H).pickP (ts := [57, 0, 4, 6, 7, 11, 14, 15, 16]) (is := [0]) rfl rfl (by decide) rfl)
        ·
         refine AtL.yes rfl rfl rfl ?_
         refine AtL.pures hT 1 _ _ _ _ rfl ?_
         refine AtL.yes rfl rfl rfl ?_
         refine AtL.pures hT 1 _ _ _ _ rfl ?_
         refine AtL.yes rfl rfl rfl ?_
         refine AtL.pures hT 1 _ _ _ _ rfl ?_
         refine AtL.yes rfl rfl rfl ?_
         refine AtL.pures hT 1 _ _ _ _ rfl ?_
         refine AtL.pures hT 1 _ _ _ _ rfl ?_
         refine AtL.nil ?_
         exact AtE.then_n ((HK5 _ () _ H).pickP (ts := [57, 0, 4, 6, 7, 11, 14, 15, 16]) (is := [0]) rfl rfl (by decide) rfl)
       ·
        refine AtL.noF rfl rfl rfl (by decide) rfl ?_
        refine AtL.noF rfl rfl rfl (by decide) rfl ?_
        refine AtL.noF rfl rfl rfl (by decide) rfl ?_
        refine AtL.noU rfl rfl rfl rfl ?_
        refine AtL.noU rfl rfl rfl rfl ?_
        refine AtL.noF rfl rfl rfl (by decide) rfl ?_
        refine AtL.yes rfl rfl rfl ?_
        refine AtL.pures hT 1 _ _ _ _ rfl ?_
        refine AtL.pures hT 1 _ _ _ _ rfl ?_
        refine AtL.nil ?_
        exact AtE.then_n ((HK5 _ () _ H).pickP (ts := [57, 0, 4, 6, 7, 11, 14, 15, 16]) (is := [0]) rfl rfl (by decide) rfl)
  ·
   refine AtC.exit ?_
   refine AtE.then_x ?_
   refine AtE.then_x ?_
   refine AtE.blk_hit ?_
   refine AtE.then_n (AtE.go ?_)
   refine AtC.joinSeq (β := Unit) (fun (t0u2 : Bool × Sl × Sl × Sl × Sl × Sl × Sl × Sl × Int) (bb_2 : Unit) => [(5, Value.bool t0u2.1)]) (fun (t0u2 : Bool × Sl × Sl × Sl × Sl × Sl × Sl × Sl × Int) (bb_2 : Unit) => [(b, [Sl.toV t0u2.2.1, Sl.toV t0u2.2.2.1, Sl.toV t0u2.2.2.2.1, Sl.toV t0u2.2.2.2.2.1, Sl.toV t0u2.2.2.2.2.2.1, Sl.toV t0u2.2.2.2.2.2.2.1, Sl.toV t0u2.2.2.2.2.2.2.2.1, Value.int .i64 t0u2.2.2.2.2.2.2.2.2])]) [4] [] H (by exact rfl) (by exact rfl) (fun t0u2 bb_2 h0u11 H => ?_) (fun J7 H HK7 => ?_)
   ·
    refine AtC.ret ?_
    exact AtE.retN (rs := [.cell 4 28, .tmp 5]) rfl (ResAll.cons (ResAt.cellSP (i := 0) (l := [_, _, _, _, _, _, _, _]) hT rfl rfl rfl rfl rfl rfl rfl) (ResAll.cons (ResAt.tmp rfl) ResAll.nil)) rfl H
   ·
    obtain ⟨v_7, hc7, H⟩ := H
    obtain ⟨v_8, hc8, H⟩ := H
    rcases iteB.cases H with ⟨hb9, H⟩ | ⟨hb9, H⟩
    ·
     obtain ⟨v_9, hc10, H⟩ := H
     apply AtC.stages [13] [[], [], [], [], [], [], [], [], [], [], [], [], [], [], [13]] [[], [], [1], [1, 2], [], [1, 2, 3, 4], [1, 2, 3, 4, 5], [1, 2, 3, 4, 5, 6], [1, 2, 3, 4, 5, 6, 7], [1, 2, 3, 4, 5, 6, 7, 8], [1, 2, 3, 4, 5, 6], [1, 2, 3, 4, 5, 6, 7, 8, 9, 10], [1, 2, 3, 4, 5, 6, 7, 8, 9, 10, 11], [0, 1, 2, 3, 4, 5, 6], [0, 1, 2, 3, 4, 5, 6, 7, 8, 9, 10, 11, 12, 13]] hmix (by kernel_rfl) [(64, _), (65, _), (66, _), (67, _), (68, _), (69, _), (70, _), (71, _), (72, _), (73, _), (74, _), (75, _), (76, _)] rfl 1 rfl
     refine Stg.known (t := 70) rfl hb9 ?_
     refine Stg.go [0, 1, 2, 3, 4, 5, 6, 7, 8, 9, 10, 11, 12] [13] rfl rfl (QAll.cons (QOp.q rfl rfl (Quiet1.loadS hT rfl rfl rfl rfl hc7) rfl rfl) (QAll.cons (QOp.p hT rfl rfl rfl rfl rfl) (QAll.cons (QOp.q rfl rfl (Quiet1.load hT rfl rfl rfl hc8) rfl rfl) (QAll.cons (QOp.p hT rfl rfl rfl rfl rfl) (QAll.cons (QOp.p hT rfl rfl rfl rfl rfl) (QAll.cons (QOp.p hT rfl rfl rfl rfl rfl) (QAll.cons (QOp.pk hT rfl rfl rfl rfl hb9 rfl) (QAll.cons (QOp.yp hT rfl rfl rfl rfl rfl rfl rfl) (QAll.cons (QOp.y rfl rfl rfl rfl (Quiet1.load hT rfl rfl rfl hc10) rfl rfl) (QAll.cons (QOp.yp hT rfl rfl rfl rfl rfl rfl rfl) (QAll.cons (QOp.yp hT rfl rfl rfl rfl rfl rfl rfl) (QAll.cons (QOp.yp hT rfl rfl rfl rfl rfl rfl rfl) (QAll.cons (QOp.p hT rfl rfl rfl rfl rfl) QAll.nil))))))))))))) ?_
     refine EAll.cons ?_ EAll.nil
     refine EOp.e rfl rfl rfl (EffX.storeSP (i := 0) (qv := [(_, [_, _, _, _, _, _, _, _])]) hT rfl rfl rfl rfl rfl rfl rfl rfl rfl rfl) ?_
     rintro _ _ rfl
     apply Stg.next [(5, _)] rfl rfl
     refine Stg.fin [7, 8, 9, 10, 11, 12, 14] rfl rfl (QAll.cons (QOp.yp hT rfl rfl rfl rfl rfl rfl rfl) (QAll.cons (QOp.y rfl rfl rfl rfl (Quiet1.load hT rfl rfl rfl hc10) rfl rfl) (QAll.cons (QOp.yp hT rfl rfl rfl rfl rfl rfl rfl) (QAll.cons (QOp.yp hT rfl rfl rfl rfl rfl rfl rfl) (QAll.cons (QOp.yp hT rfl rfl rfl rfl rfl rfl rfl) (QAll.cons (QOp.p hT rfl rfl rfl rfl rfl) (QAll.cons (QOp.p hT rfl rfl rfl rfl rfl) QAll.nil))))))) ?_
     exact AtE.then_n ((HK7 _ () _ H).pickP (ts := [5, 4]) (is := [0]) rfl rfl (by decide) rfl)
    ·
     apply AtC.stages [13] [[], [], [], [], [], [], [], [], [], [], [], [], [], [], [13]] [[], [], [1], [1, 2], [], [1, 2, 3, 4], [1, 2, 3, 4, 5], [1, 2, 3, 4, 5, 6], [1, 2, 3, 4, 5, 6, 7], [1, 2, 3, 4, 5, 6, 7, 8], [1, 2, 3, 4, 5, 6], [1, 2, 3, 4, 5, 6, 7, 8, 9, 10], [1, 2, 3, 4, 5, 6, 7, 8, 9, 10, 11], [0, 1, 2, 3, 4, 5, 6], [0, 1, 2, 3, 4, 5, 6, 7, 8, 9, 10, 11, 12, 13]] hmix (by kernel_rfl) [(64, _), (65, _), (66, _), (67, _), (68, _), (69, _), (70, _), (71, _), (72, _), (73, _), (74, _), (75, _), (76, _)] rfl 1 rfl
     refine Stg.known (t := 70) rfl hb9 ?_
     refine Stg.go [0, 1, 2, 3, 4, 5, 6, 7, 8, 9, 10, 11, 12] [13] rfl rfl (QAll.cons (QOp.q rfl rfl (Quiet1.loadS hT rfl rfl rfl rfl hc7) rfl rfl) (QAll.cons (QOp.p hT rfl rfl rfl rfl rfl) (QAll.cons (QOp.q rfl rfl (Quiet1.load hT rfl rfl rfl hc8) rfl rfl) (QAll.cons (QOp.p hT rfl rfl rfl rfl rfl) (QAll.cons (QOp.p hT rfl rfl rfl rfl rfl) (QAll.cons (QOp.p hT rfl rfl rfl rfl rfl) (QAll.cons (QOp.pk hT rfl rfl rfl rfl hb9 rfl) (QAll.cons (QOp.no rfl rfl rfl rfl (by decide) rfl rfl) (QAll.cons (QOp.no rfl rfl rfl rfl (by decide) rfl rfl) (QAll.cons (QOp.no rfl rfl rfl rfl (by decide) rfl rfl) (QAll.cons (QOp.no rfl rfl rfl rfl (by decide) rfl rfl) (QAll.cons (QOp.no rfl rfl rfl rfl (by decide) rfl rfl) (QAll.cons (QOp.p hT rfl rfl rfl rfl rfl) QAll.nil))))))))))))) ?_
     refine EAll.cons ?_ EAll.nil
     refine EOp.e rfl rfl rfl (EffX.storeSP (i := 0) (qv := [(_, [_, _, _, _, _, _, _, _])]) hT rfl rfl rfl rfl rfl rfl rfl rfl rfl rfl) ?_
     rintro _ _ rfl
     apply Stg.next [(5, _)] rfl rfl
     refine Stg.fin [7, 8, 9, 10, 11, 12, 14] rfl rfl (QAll.cons (QOp.no rfl rfl rfl rfl (by decide) rfl rfl) (QAll.cons (QOp.no rfl rfl rfl rfl (by decide) rfl rfl) (QAll.cons (QOp.no rfl rfl rfl rfl (by decide) rfl rfl) (QAll.cons (QOp.no rfl rfl rfl rfl (by decide) rfl rfl) (QAll.cons (QOp.no rfl rfl rfl rfl (by decide) rfl rfl) (QAll.cons (QOp.p hT rfl rfl rfl rfl rfl) (QAll.cons (QOp.p hT rfl rfl rfl rfl rfl) QAll.nil))))))) ?_
     exact AtE.then_n ((HK7 _ () _ H).pickP (ts := [5, 4]) (is := [0]) rfl rfl (by decide) rfl)
theorem lift_cmp_isNaN_int (x0 : Int) (w : World) (m : Heap) (hr : Rel ⟨m, []⟩ w.heap) (S : Bool → Heap → Prop) (H : cmp_isNaN_int x0 m S) :
    Calls Try.prog 68 #[Value.int .i64 x0] w (Post ⟨w, m⟩ Value.bool S) := by
  refine Calls.lift (args := [Value.int .i64 x0]) Try.func68 rfl Try.ntmps68 (Nat.le_of_ble_eq_true rfl) hr (cmp_isNaN_int x0 m S) H (fun H => ?_)
  refine AtC.pick (ts := [0]) rfl ?_
  unfold cmp_isNaN_int at H
  refine AtC.seqR ?_
  refine AtL.pures hT 1 _ _ _ _ rfl ?_
  refine AtL.nil ?_
  refine AtE.then_n (AtE.go ?_)
  refine AtC.seqR ?_
  refine AtL.pures hT 4 _ _ _ _ rfl ?_
  refine AtL.nil ?_
  refine AtE.then_n (AtE.go ?_)
  refine AtC.ret ?_
  exact AtE.retN (rs := [.tmp 2]) rfl (ResAll.cons (ResAt.tmp rfl) ResAll.nil) rfl H
theorem lift_cmp_Compare_int (x0 : Int) (y : Int) (w : World) (m : Heap) (hr : Rel ⟨m, []⟩ w.heap) (S : Int → Heap → Prop) (H : cmp_Compare_int x0 y m S) :
    Calls Try.prog 48 #[Value.int .i64 x0, Value.int .i64 y] w (Post ⟨w, m⟩ (Value.int .i64) S) := by
  refine Calls.lift (args := [Value.int .i64 x0, Value.int .i64 y]) Try.func48 rfl Try.ntmps48 (Nat.le_of_ble_eq_true rfl) hr (cmp_Compare_int x0 y m S) H (fun H => ?_)
  refine AtC.pick (ts := [0, 1]) rfl ?_
  unfold cmp_Compare_int at H
  refine AtC.seqR ?_
  refine AtL.pures hT 1 _ _ _ _ rfl ?_
  refine AtL.nil ?_
  refine AtE.then_n (AtE.go ?_)
  refine AtC.seqR ?_
  refine AtL.pures hT 1 _ _ _ _ rfl ?_
  refine AtL.e rfl (EffX.call (f := 68) (sh := fun h => cmp_isNaN_int _ h _) (H0 := H) rfl Try.call68 rfl (hl := fun w m hr hw => lift_cmp_isNaN_int _ w m hr _ hw)) ?_
  rintro _ _ ⟨v, h0, rfl, rfl, H⟩
  refine AtL.pures hT 1 _ _ _ _ rfl ?_
  refine AtL.nil ?_
  refine AtE.then_n (AtE.go ?_)
  refine AtC.seqR ?_
  refine AtL.pures hT 1 _ _ _ _ rfl ?_
  refine AtL.e rfl (EffX.call (f := 68) (sh := fun h => cmp_isNaN_int _ h _) (H0 := H) rfl Try.call68 rfl (hl := fun w m hr hw => lift_cmp_isNaN_int _ w m hr _ hw)) ?_
  rintro _ _ ⟨v_1, h0u1, rfl, rfl, H⟩
  refine AtL.pures hT 1 _ _ _ _ rfl ?_
  refine AtL.nil ?_
  refine AtE.then_n (AtE.go ?_)
  refine AtC.seq ?_
  refine AtC.seqR ?_
  refine AtL.pures hT 1 _ _ _ _ rfl ?_
  refine AtL.nil ?_
  refine AtE.then_n (AtE.go ?_)
  refine AtC.condB H rfl (fun H => ?_) (fun H => ?_)
  ·
   refine AtC.seq ?_
   refine AtC.seqR ?_
   refine AtL.pures hT 1 _ _ _ _ rfl ?_
   refine AtL.nil ?_
   refine AtE.then_n (AtE.go ?_)
   refine AtC.condB H rfl (fun H => ?_) (fun H => ?_)
   ·
    refine AtC.seqR ?_
    refine AtL.pures hT 1 _ _ _ _ rfl ?_
    refine AtL.nil ?_
    refine AtE.then_n (AtE.go ?_)
    refine AtC.ret ?_
    refine AtE.then_r ?_
    refine AtE.then_r ?_
    exact AtE.retN (rs := [.tmp 4]) rfl (ResAll.cons (ResAt.tmp rfl) ResAll.nil) rfl H
   ·
    refine AtC.skip ?_
    refine AtE.then_n (AtE.go ?_)
    refine AtC.seqR ?_
    refine AtL.pures hT 1 _ _ _ _ rfl ?_
    refine AtL.nil ?_
    refine AtE.then_n (AtE.go ?_)
    refine AtC.ret ?_
    refine AtE.then_r ?_
    exact AtE.retN (rs := [.tmp 4]) rfl (ResAll.cons (ResAt.tmp rfl) ResAll.nil) rfl H
  ·
   refine AtC.skip ?_
   refine AtE.then_n (AtE.go ?_)
   refine AtC.seq ?_
   refine AtC.seqR ?_
   refine AtL.pures hT 1 _ _ _ _ rfl ?_
   refine AtL.nil ?_
   refine AtE.then_n (AtE.go ?_)
   refine AtC.condB H rfl (fun H => ?_) (fun H => ?_)
   ·
    refine AtC.seqR ?_
    refine AtL.pures hT 1 _ _ _ _ rfl ?_
    refine AtL.nil ?_
    refine AtE.then_n (AtE.go ?_)
    refine AtC.ret ?_
    refine AtE.then_r ?_
    exact AtE.retN (rs := [.tmp 4]) rfl (ResAll.cons (ResAt.tmp rfl) ResAll.nil) rfl H
   ·
    refine AtC.skip ?_
    refine AtE.then_n (AtE.go ?_)
    refine AtC.seq ?_
    refine AtC.seqR ?_
    refine AtL.pures hT 3 _ _ _ _ rfl ?_
    refine AtL.nil ?_
    refine AtE.then_n (AtE.go ?_)
    refine AtC.condB H rfl (fun H => ?_) (fun H => ?_)
    ·
     refine AtC.seqR ?_
     refine AtL.pures hT 1 _ _ _ _ rfl ?_
     refine AtL.nil ?_
     refine AtE.then_n (AtE.go ?_)
     refine AtC.ret ?_
     refine AtE.then_r ?_
     exact AtE.retN (rs := [.tmp 4]) rfl (ResAll.cons (ResAt.tmp rfl) ResAll.nil) rfl H
    ·
     refine AtC.skip ?_
     refine AtE.then_n (AtE.go ?_)
     refine AtC.seq ?_
     refine AtC.seqR ?_
     refine AtL.pures hT 3 _ _ _ _ rfl ?_
     refine AtL.nil ?_
     refine AtE.then_n (AtE.go ?_)
     refine AtC.condB H rfl (fun H => ?_) (fun H => ?_)
     ·
      refine AtC.seqR ?_
      refine AtL.pures hT 1 _ _ _ _ rfl ?_
      refine AtL.nil ?_
      refine AtE.then_n (AtE.go ?_)
      refine AtC.ret ?_
      refine AtE.then_r ?_
      exact AtE.retN (rs := [.tmp 4]) rfl (ResAll.cons (ResAt.tmp rfl) ResAll.nil) rfl H
     ·
      refine AtC.skip ?_
      refine AtE.then_n (AtE.go ?_)
      refine AtC.seqR ?_
      refine AtL.pures hT 1 _ _ _ _ rfl ?_
      refine AtL.nil ?_
      refine AtE.then_n (AtE.go ?_)
      refine AtC.ret ?_
      exact AtE.retN (rs := [.tmp 4]) rfl (ResAll.cons (ResAt.tmp rfl) ResAll.nil) rfl H
theorem lift_clause_idle_c1 (a : Int) (b : Int) (c0 : Addr) (w : World) (m : Heap) (hr : Rel ⟨m, []⟩ w.heap) (S : Int → Heap → Prop) (H : clause_idle_c1 a b c0 m S) :
    Calls Try.prog 59 #[Value.int .i64 a, Value.int .i64 b, Value.pointer (some c0)] w (Post ⟨w, m⟩ (Value.int .i64) S) := by
  refine Calls.lift (args := [Value.int .i64 a, Value.int .i64 b, Value.pointer (some c0)]) Try.func59 rfl Try.ntmps59 (Nat.le_of_ble_eq_true rfl) hr (clause_idle_c1 a b c0 m S) H (fun H => ?_)
  refine AtC.pick (ts := [0, 1, 2]) rfl ?_
  unfold clause_idle_c1 at H
  refine AtC.seqR ?_
  refine AtL.pures hT 1 _ _ _ _ rfl ?_
  refine AtL.nil ?_
  refine AtE.then_n (AtE.go ?_)
  obtain ⟨v, hc0, H⟩ := H
  obtain ⟨a_1, hc1, H⟩ := H
  obtain ⟨v_1, hc2, H⟩ := H
  obtain ⟨a_2_, hc3, hd3, H⟩ := H
  obtain ⟨v_2, hc4, H⟩ := H
  obtain ⟨v_3, hc5, H⟩ := H
  obtain ⟨a_3, hc6, H⟩ := H
  obtain ⟨v_4, hc7, H⟩ := H
  obtain ⟨a_4_, hc8, hd8, H⟩ := H
  obtain ⟨v_5, hc9, H⟩ := H
  apply AtC.seqS [16] [[], [], [], [], [], [], [], [], [], [], [], [], [], [], [], [], [], [16]] [[], [0], [0, 1], [0, 1, 2], [], [0, 1, 2, 3, 4], [0, 1, 2, 3, 4, 5], [0, 1, 2, 3, 4, 5, 6], [], [8], [8, 9], [8, 9, 10], [], [8, 9, 10, 11, 12], [8, 9, 10, 11, 12, 13], [8, 9, 10, 11, 12, 13, 14], [0, 1, 2, 3, 4, 5, 6, 7, 8, 9, 10, 11, 12, 13, 14, 15], [0, 1, 2, 3, 4, 5, 6, 7, 8, 9, 10, 11, 12, 13, 14, 15, 16]] hmix (by kernel_rfl) [(6, _), (7, _), (8, _), (9, _), (10, _), (11, _), (12, _), (13, _), (14, _), (15, _), (16, _), (17, _), (18, _), (19, _), (20, _), (21, _)] rfl 1 rfl
  refine Stg.go [0, 1, 2, 3, 4, 5, 6, 7, 8, 9, 10, 11, 12, 13, 14, 15] [16] rfl rfl (QAll.cons (QOp.q rfl rfl (Quiet1.load hT rfl rfl rfl hc0) rfl rfl) (QAll.cons (QOp.q rfl rfl (Quiet1.nilChk rfl rfl hc1) rfl rfl) (QAll.cons (QOp.p hT rfl rfl rfl rfl rfl) (QAll.cons (QOp.q rfl rfl (Quiet1.load hT rfl rfl rfl hc2) rfl rfl) (QAll.cons (QOp.p hT rfl rfl rfl rfl rfl) (QAll.cons (QOp.q rfl rfl (Quiet1.idxS (s := _) hT rfl rfl rfl rfl rfl hc3 hd3) rfl rfl) (QAll.cons (QOp.p hT rfl rfl rfl rfl rfl) (QAll.cons (QOp.q rfl rfl (Quiet1.load hT rfl rfl rfl hc4) rfl rfl) (QAll.cons (QOp.q rfl rfl (Quiet1.load hT rfl rfl rfl hc5) rfl rfl) (QAll.cons (QOp.q rfl rfl (Quiet1.nilChk rfl rfl hc6) rfl rfl) (QAll.cons (QOp.p hT rfl rfl rfl rfl rfl) (QAll.cons (QOp.q rfl rfl (Quiet1.load hT rfl rfl rfl hc7) rfl rfl) (QAll.cons (QOp.p hT rfl rfl rfl rfl rfl) (QAll.cons (QOp.q rfl rfl (Quiet1.idxS (s := _) hT rfl rfl rfl rfl rfl hc8 hd8) rfl rfl) (QAll.cons (QOp.p hT rfl rfl rfl rfl rfl) (QAll.cons (QOp.q rfl rfl (Quiet1.load hT rfl rfl rfl hc9) rfl rfl) QAll.nil)))))))))))))))) ?_
  refine EAll.cons ?_ EAll.nil
  refine EOp.e rfl rfl rfl (EffX.call (f := 48) (sh := fun h => cmp_Compare_int _ _ h _) (H0 := H) rfl Try.call48 rfl (hl := fun w m hr hw => lift_cmp_Compare_int _ _ w m hr _ hw)) ?_
  rintro _ _ ⟨v_6, h0, rfl, rfl, H⟩
  apply Stg.next [(22, _), (5, _)] rfl rfl
  refine Stg.fin [17] rfl rfl (QAll.cons (QOp.p hT rfl rfl rfl rfl rfl) QAll.nil) ?_
  refine AtE.then_n (AtE.go ?_)
  refine AtC.ret ?_
  exact AtE.retN (rs := [.tmp 5]) rfl (ResAll.cons (ResAt.tmp rfl) ResAll.nil) rfl H
theorem lift_slices_insertionSortCmpFunc_int__clause_idle_c1 (data : Sl) (a : Int) (b : Int) (cmp_c : Addr) (w : World) (m : Heap) (hr : Rel ⟨m, []⟩ w.heap) (S : Unit → Heap → Prop) (H : slices_insertionSortCmpFunc_int__clause_idle_c1 data a b cmp_c m S) :
    Calls Try.prog 74 #[Sl.toV data, Value.int .i64 a, Value.int .i64 b, Value.func (.func 59) #[] #[Value.pointer (some cmp_c)]] w (Post ⟨w, m⟩ (fun _ => Value.tuple #[]) S) := by
  refine Calls.lift (args := [Sl.toV data, Value.int .i64 a, Value.int .i64 b, Value.func (.func 59) #[] #[Value.pointer (some cmp_c)]]) Try.func74 rfl Try.ntmps74 (Nat.le_of_ble_eq_true rfl) hr (slices_insertionSortCmpFunc_int__clause_idle_c1 data a b cmp_c m S) H (fun H => ?_)
  refine AtC.pick (ts := [0, 1, 2, 3]) rfl ?_
  unfold slices_insertionSortCmpFunc_int__clause_idle_c1 at H
  refine AtC.seqR ?_
  refine AtL.pures hT 3 _ _ _ _ rfl ?_
  replace H := H _ rfl
  refine AtL.nil ?_
  refine AtE.then_n (AtE.go ?_)
  refine AtC.block ?_
  refine AtC.loopM (fun (s0 : Int) => [(8, Value.int .i64 s0)]) (fun (s0 : Int) => []) [0, 1, 2, 3] [8, 0, 1, 2, 3] [] [] H (by exact rfl) (by exact rfl) (by exact rfl) (by decide) (by exact rfl) (fun Kp1 s0 h0 H Q1 HK1 => ?_)
  refine AtC.seq ?_
  refine AtC.seqR ?_
  refine AtL.pures hT 3 _ _ _ _ rfl ?_
  refine AtL.nil ?_
  refine AtE.then_n (AtE.go ?_)
  refine AtC.condB H rfl (fun H => ?_) (fun H => ?_)
  ·
   refine AtC.skip ?_
   refine AtE.then_n (AtE.go ?_)
   refine AtC.seq ?_
   refine AtC.block ?_
   refine AtC.seqR ?_
   refine AtL.pures hT 2 _ _ _ _ rfl ?_
   refine AtL.nil ?_
   refine AtE.then_n (AtE.go ?_)
   refine AtC.block ?_
   refine AtC.loopM (fun (s0u1 : Int) => [(9, Value.int .i64 s0u1)]) (fun (s0u1 : Int) => []) [0, 1, 2, 3, 8] [9, 0, 1, 2, 3, 8] [] [] H (by exact rfl) (by exact rfl) (by exact rfl) (by decide) (by exact rfl) (fun Kp2 s0u1 h0u1 H Q2 HK2 => ?_)
   refine AtC.seq ?_
   refine AtC.joinSeq (β := Unit) (fun (t0 : Bool) (bb : Unit) => [(34, Value.bool t0)]) (fun (t0 : Bool) (bb : Unit) => []) [0, 1, 2, 3, 8, 9] [] H (by exact rfl) (by exact rfl) (fun t0 bb h0u2 H => ?_) (fun J3 H HK3 => ?_)
   ·
    refine AtC.condB H rfl (fun H => ?_) (fun H => ?_)
    ·
     refine AtC.skip ?_
     refine AtE.then_n (AtE.go ?_)
     refine AtC.seq ?_
     refine AtC.block ?_
     obtain ⟨a_3_, hc8, hd8, H⟩ := H
     obtain ⟨v_3, hc9, H⟩ := H
     obtain ⟨a_4_, hc10, hd10, H⟩ := H
     obtain ⟨v_4, hc11, H⟩ := H
     obtain ⟨a_5_, hc12, hd12, H⟩ := H
     apply AtC.stages [15, 17] [[], [], [], [], [], [], [], [], [], [], [], [], [], [], [], [], [15], [15]] [[], [], [], [], [3], [], [], [6], [5, 6, 7], [5, 6, 7, 8], [], [], [10, 11], [10, 11, 12], [0, 1, 5, 6, 7, 8, 9, 10, 11, 12, 13], [0, 1, 5, 6, 7, 8, 9, 10, 11, 12, 13, 14], [0, 1, 2, 3, 4, 5, 6, 7, 8, 9, 10, 11, 12, 13, 14, 15], [0, 1, 2, 3, 4, 5, 6, 7, 8, 9, 10, 11, 12, 13, 14, 15, 16]] hmix (by kernel_rfl) [(37, _), (38, _), (39, _), (40, _), (41, _), (42, _), (43, _), (44, _), (45, _), (46, _), (47, _), (48, _), (49, _), (50, _), (51, _)] rfl 2 rfl
     refine Stg.go [0, 1, 2, 3, 4, 5, 6, 7, 8, 9, 10, 11, 12, 13, 14] [15] rfl rfl (QAll.cons (QOp.p hT rfl rfl rfl rfl rfl) (QAll.cons (QOp.p hT rfl rfl rfl rfl rfl) (QAll.cons (QOp.p hT rfl rfl rfl rfl rfl) (QAll.cons (QOp.p hT rfl rfl rfl rfl rfl) (QAll.cons (QOp.p hT rfl rfl rfl rfl rfl) (QAll.cons (QOp.p hT rfl rfl rfl rfl rfl) (QAll.cons (QOp.p hT rfl rfl rfl rfl rfl) (QAll.cons (QOp.p hT rfl rfl rfl rfl rfl) (QAll.cons (QOp.q rfl rfl (Quiet1.idxS (s := _) hT rfl rfl rfl rfl rfl hc8 hd8) rfl rfl) (QAll.cons (QOp.q rfl rfl (Quiet1.load hT rfl rfl rfl hc9) rfl rfl) (QAll.cons (QOp.p hT rfl rfl rfl rfl rfl) (QAll.cons (QOp.p hT rfl rfl rfl rfl rfl) (QAll.cons (QOp.q rfl rfl (Quiet1.idxS (s := _) hT rfl rfl rfl rfl rfl hc10 hd10) rfl rfl) (QAll.cons (QOp.q rfl rfl (Quiet1.load hT rfl rfl rfl hc11) rfl rfl) (QAll.cons (QOp.q rfl rfl (Quiet1.idxS (s := _) hT rfl rfl rfl rfl rfl hc12 hd12) rfl rfl) QAll.nil))))))))))))))) ?_
     refine EAll.cons ?_ EAll.nil
     refine EOp.e rfl rfl rfl (EffX.store hT rfl rfl rfl rfl rfl H) ?_
     rintro _ _ ⟨h0u4, rfl, H⟩
     obtain ⟨a_6_, hc13, hd13, H⟩ := H
     apply Stg.next [(52, _)] rfl rfl
     refine Stg.go [2, 3, 4, 16] [17] rfl rfl (QAll.cons (QOp.p hT rfl rfl rfl rfl rfl) (QAll.cons (QOp.p hT rfl rfl rfl rfl rfl) (QAll.cons (QOp.p hT rfl rfl rfl rfl rfl) (QAll.cons (QOp.q rfl rfl (Quiet1.idxS (s := _) hT rfl rfl rfl rfl rfl hc13 hd13) rfl rfl) QAll.nil)))) ?_
     refine EAll.cons ?_ EAll.nil
     refine EOp.e rfl rfl rfl (EffX.store hT rfl rfl rfl rfl rfl H) ?_
     rintro _ _ ⟨h0u5, rfl, H⟩
     apply Stg.next [] rfl rfl
     refine Stg.fin [] rfl rfl QAll.nil ?_
     refine AtE.blk_n ?_
     refine AtE.then_n (AtE.go ?_)
     refine AtC.region ?_
     refine AtL.pures hT 3 _ _ _ _ rfl ?_
     replace H := H _ rfl
     refine AtL.nil ?_
     exact AtE.then_n ((HK2 _ _ H).pickP (ts := [9, 0, 1, 2, 3, 8]) (is := []) rfl rfl (by decide) rfl)
    ·
     refine AtC.exit ?_
     refine AtE.then_x ?_
     refine AtE.then_x ?_
     refine AtE.blk_hit ?_
     refine AtE.blk_n ?_
     refine AtE.then_n (AtE.go ?_)
     refine AtC.region ?_
     refine AtL.pures hT 3 _ _ _ _ rfl ?_
     replace H := H _ rfl
     refine AtL.nil ?_
     exact AtE.then_n ((HK1 _ _ H).pickP (ts := [8, 0, 1, 2, 3]) (is := []) rfl rfl (by decide) rfl)
   ·
    rcases iteB.cases H with ⟨hb3, H⟩ | ⟨hb3, H⟩
    ·
     obtain ⟨a_1_, hc4, hd4, H⟩ := H
     obtain ⟨v, hc5, H⟩ := H
     obtain ⟨a_2_, hc6, hd6, H⟩ := H
     obtain ⟨v_1, hc7, H⟩ := H
     apply AtC.stages [14] [[], [], [], [], [], [], [], [], [], [], [], [], [], [], [], [14], [14]] [[], [], [0, 1], [0, 1, 2], [0, 1, 2, 3], [0, 1, 2, 3], [0, 1, 2, 3], [0, 1, 2, 3, 5, 6], [0, 1, 2, 3, 5, 6, 7], [0, 1, 2, 3], [0, 1, 2, 3], [0, 1, 2, 3, 10], [0, 1, 2, 3, 9, 10, 11], [0, 1, 2, 3, 9, 10, 11, 12], [0, 1, 2, 3, 4, 5, 6, 7, 8, 9, 10, 11, 12, 13], [0, 1, 2, 3, 4, 5, 6, 7, 8, 9, 10, 11, 12, 13, 14], [0, 1, 2, 3, 4, 5, 6, 7, 8, 9, 10, 11, 12, 13, 14, 15]] hmix (by kernel_rfl) [(18, _), (19, _), (20, _), (21, _), (22, _), (23, _), (24, _), (25, _), (26, _), (27, _), (28, _), (29, _), (30, _), (31, _)] rfl 1 rfl
     refine Stg.known (t := 21) rfl hb3 ?_
     refine Stg.go [0, 1, 2, 3, 4, 5, 6, 7, 8, 9, 10, 11, 12, 13] [14] rfl rfl (QAll.cons (QOp.p hT rfl rfl rfl rfl rfl) (QAll.cons (QOp.p hT rfl rfl rfl rfl rfl) (QAll.cons (QOp.p hT rfl rfl rfl rfl rfl) (QAll.cons (QOp.pk hT rfl rfl rfl rfl hb3 rfl) (QAll.cons (QOp.yp hT rfl rfl rfl rfl rfl rfl rfl) (QAll.cons (QOp.yp hT rfl rfl rfl rfl rfl rfl rfl) (QAll.cons (QOp.yp hT rfl rfl rfl rfl rfl rfl rfl) (QAll.cons (QOp.y rfl rfl rfl rfl (Quiet1.idxS (s := _) hT rfl rfl rfl rfl rfl hc4 hd4) rfl rfl) (QAll.cons (QOp.y rfl rfl rfl rfl (Quiet1.load hT rfl rfl rfl hc5) rfl rfl) (QAll.cons (QOp.yp hT rfl rfl rfl rfl rfl rfl rfl) (QAll.cons (QOp.yp hT rfl rfl rfl rfl rfl rfl rfl) (QAll.cons (QOp.yp hT rfl rfl rfl rfl rfl rfl rfl) (QAll.cons (QOp.y rfl rfl rfl rfl (Quiet1.idxS (s := _) hT rfl rfl rfl rfl rfl hc6 hd6) rfl rfl) (QAll.cons (QOp.y rfl rfl rfl rfl (Quiet1.load hT rfl rfl rfl hc7) rfl rfl) QAll.nil)))))))))))))) ?_
     refine EAll.cons ?_ EAll.nil
     refine EOp.y rfl rfl rfl rfl rfl (EffX.callF (bs := []) (cs := [_]) (f := 59) (sh := fun h => clause_idle_c1 _ _ _ h _) (H0 := H) rfl rfl Try.call59 rfl (hl := fun w m hr hw => lift_clause_idle_c1 _ _ _ w m hr _ hw)) ?_
     rintro _ _ ⟨v_2, h0u3, rfl, rfl, H⟩
     apply Stg.next [(32, _), (33, _), (34, _)] rfl rfl
     refine Stg.fin [15, 16] rfl rfl (QAll.cons (QOp.yp hT rfl rfl rfl rfl rfl rfl rfl) (QAll.cons (QOp.p hT rfl rfl rfl rfl rfl) QAll.nil)) ?_
     exact AtE.then_n ((HK3 _ () _ H).pickP (ts := [34, 0, 1, 2, 3, 8, 9]) (is := []) rfl rfl (by decide) rfl)
    ·
     apply AtC.stages [14] [[], [], [], [], [], [], [], [], [], [], [], [], [], [], [], [14], [14]] [[], [], [0, 1], [0, 1, 2], [0, 1, 2, 3], [0, 1, 2, 3], [0, 1, 2, 3], [0, 1, 2, 3, 5, 6], [0, 1, 2, 3, 5, 6, 7], [0, 1, 2, 3], [0, 1, 2, 3], [0, 1, 2, 3, 10], [0, 1, 2, 3, 9, 10, 11], [0, 1, 2, 3, 9, 10, 11, 12], [0, 1, 2, 3, 4, 5, 6, 7, 8, 9, 10, 11, 12, 13], [0, 1, 2, 3, 4, 5, 6, 7, 8, 9, 10, 11, 12, 13, 14], [0, 1, 2, 3, 4, 5, 6, 7, 8, 9, 10, 11, 12, 13, 14, 15]] hmix (by kernel_rfl) [(18, _), (19, _), (20, _), (21, _), (22, _), (23, _), (24, _), (25, _), (26, _), (27, _), (28, _), (29, _), (30, _), (31, _)] rfl 1 rfl
     refine Stg.known (t := 21) rfl hb3 ?_
     refine Stg.go [0, 1, 2, 3, 4, 5, 6, 7, 8, 9, 10, 11, 12, 13] [14] rfl rfl (QAll.cons (QOp.p hT rfl rfl rfl rfl rfl) (QAll.cons (QOp.p hT rfl rfl rfl rfl rfl) (QAll.cons (QOp.p hT rfl rfl rfl rfl rfl) (QAll.cons (QOp.pk hT rfl rfl rfl rfl hb3 rfl) (QAll.cons (QOp.no rfl rfl rfl rfl (by decide) rfl rfl) (QAll.cons (QOp.no rfl rfl rfl rfl (by decide) rfl rfl) (QAll.cons (QOp.no rfl rfl rfl rfl (by decide) rfl rfl) (QAll.cons (QOp.no rfl rfl rfl rfl (by decide) rfl rfl) (QAll.cons (QOp.no rfl rfl rfl rfl (by decide) rfl rfl) (QAll.cons (QOp.no rfl rfl rfl rfl (by decide) rfl rfl) (QAll.cons (QOp.no rfl rfl rfl rfl (by decide) rfl rfl) (QAll.cons (QOp.no rfl rfl rfl rfl (by decide) rfl rfl) (QAll.cons (QOp.no rfl rfl rfl rfl (by decide) rfl rfl) (QAll.cons (QOp.no rfl rfl rfl rfl (by decide) rfl rfl) QAll.nil)))))))))))))) ?_
     refine EAll.cons ?_ EAll.nil
     refine EOp.no rfl rfl rfl rfl (by decide) rfl ?_
     apply Stg.next [(32, _), (33, _), (34, _)] rfl rfl
     refine Stg.fin [15, 16] rfl rfl (QAll.cons (QOp.no rfl rfl rfl rfl (by decide) rfl rfl) (QAll.cons (QOp.p hT rfl rfl rfl rfl rfl) QAll.nil)) ?_
     exact AtE.then_n ((HK3 _ () _ H).pickP (ts := [34, 0, 1, 2, 3, 8, 9]) (is := []) rfl rfl (by decide) rfl)
  ·
   refine AtC.exit ?_
   refine AtE.then_x ?_
   refine AtE.then_x ?_
   refine AtE.blk_hit ?_
   exact AtE.endN rfl rfl H
theorem lift_slices_swapRangeCmpFunc_int__clause_idle_c1 (data : Sl) (a : Int) (b : Int) (n : Int) (cmp_c : Addr) (w : World) (m : Heap) (hr : Rel ⟨m, []⟩ w.heap) (S : Unit → Heap → Prop) (H : slices_swapRangeCmpFunc_int__clause_idle_c1 data a b n cmp_c m S) :
    Calls Try.prog 105 #[Sl.toV data, Value.int .i64 a, Value.int .i64 b, Value.int .i64 n, Value.func (.func 59) #[] #[Value.pointer (some cmp_c)]] w (Post ⟨w, m⟩ (fun _ => Value.tuple #[]) S) := by
  refine Calls.lift (args := [Sl.toV data, Value.int .i64 a, Value.int .i64 b, Value.int .i64 n, Value.func (.func 59) #[] #[Value.pointer (some cmp_c)]]) Try.func105 rfl Try.ntmps105 (Nat.le_of_ble_eq_true rfl) hr (slices_swapRangeCmpFunc_int__clause_idle_c1 data a b n cmp_c m S) H (fun H => ?_)
  refine AtC.pick (ts := [0, 1, 2, 3, 4]) rfl ?_
  unfold slices_swapRangeCmpFunc_int__clause_idle_c1 at H
  refine AtC.seqR ?_
  refine AtL.pures hT 1 _ _ _ _ rfl ?_
  refine AtL.nil ?_
  refine AtE.then_n (AtE.go ?_)
  refine AtC.block ?_
  refine AtC.loopM (fun (s0 : Int) => [(10, Value.int .i64 s0)]) (fun (s0 : Int) => []) [0, 1, 2, 3] [10, 0, 1, 2, 3] [] [] H (by exact rfl) (by exact rfl) (by exact rfl) (by decide) (by exact rfl) (fun Kp1 s0 h0 H Q1 HK1 => ?_)
  refine AtC.seq ?_
  refine AtC.seqR ?_
  refine AtL.pures hT 3 _ _ _ _ rfl ?_
  refine AtL.nil ?_
  refine AtE.then_n (AtE.go ?_)
  refine AtC.condB H rfl (fun H => ?_) (fun H => ?_)
  ·
   refine AtC.skip ?_
   refine AtE.then_n (AtE.go ?_)
   refine AtC.seq ?_
   refine AtC.block ?_
   obtain ⟨a_1_, hc1, hd1, H⟩ := H
   obtain ⟨v, hc2, H⟩ := H
   obtain ⟨a_2_, hc3, hd3, H⟩ := H
   obtain ⟨v_1, hc4, H⟩ := H
   obtain ⟨a_3_, hc5, hd5, H⟩ := H
   apply AtC.stages [21, 23] [[], [], [], [], [], [], [], [], [], [], [], [], [], [], [], [], [], [], [], [], [], [], [21], [21]] [[], [], [], [1, 2], [], [], [], [5, 6], [], [], [], [9, 10], [8, 9, 10, 11], [8, 9, 10, 11, 12], [], [], [], [15, 16], [14, 15, 16, 17], [14, 15, 16, 17, 18], [0, 1, 2, 3, 8, 9, 10, 11, 12, 13, 14, 15, 16, 17, 18, 19], [0, 1, 2, 3, 8, 9, 10, 11, 12, 13, 14, 15, 16, 17, 18, 19, 20], [0, 1, 2, 3, 4, 5, 6, 7, 8, 9, 10, 11, 12, 13, 14, 15, 16, 17, 18, 19, 20, 21], [0, 1, 2, 3, 4, 5, 6, 7, 8, 9, 10, 11, 12, 13, 14, 15, 16, 17, 18, 19, 20, 21, 22]] hmix (by kernel_rfl) [(16, _), (17, _), (18, _), (19, _), (20, _), (21, _), (22, _), (23, _), (24, _), (25, _), (26, _), (27, _), (28, _), (29, _), (30, _), (31, _), (32, _), (33, _), (34, _), (35, _), (36, _)] rfl 2 rfl
   refine Stg.go [0, 1, 2, 3, 4, 5, 6, 7, 8, 9, 10, 11, 12, 13, 14, 15, 16, 17, 18, 19, 20] [21] rfl rfl (QAll.cons (QOp.p hT rfl rfl rfl rfl rfl) (QAll.cons (QOp.p hT rfl rfl rfl rfl rfl) (QAll.cons (QOp.p hT rfl rfl rfl rfl rfl) (QAll.cons (QOp.p hT rfl rfl rfl rfl rfl) (QAll.cons (QOp.p hT rfl rfl rfl rfl rfl) (QAll.cons (QOp.p hT rfl rfl rfl rfl rfl) (QAll.cons (QOp.p hT rfl rfl rfl rfl rfl) (QAll.cons (QOp.p hT rfl rfl rfl rfl rfl) (QAll.cons (QOp.p hT rfl rfl rfl rfl rfl) (QAll.cons (QOp.p hT rfl rfl rfl rfl rfl) (QAll.cons (QOp.p hT rfl rfl rfl rfl rfl) (QAll.cons (QOp.p hT rfl rfl rfl rfl rfl) (QAll.cons (QOp.q rfl rfl (Quiet1.idxS (s := _) hT rfl rfl rfl rfl rfl hc1 hd1) rfl rfl) (QAll.cons (QOp.q rfl rfl (Quiet1.load hT rfl rfl rfl hc2) rfl rfl) (QAll.cons (QOp.p hT rfl rfl rfl rfl rfl) (QAll.cons (QOp.p hT rfl rfl rfl rfl rfl) (QAll.cons (QOp.p hT rfl rfl rfl rfl rfl) (QAll.cons (QOp.p hT rfl rfl rfl rfl rfl) (QAll.cons (QOp.q rfl rfl (Quiet1.idxS (s := _) hT rfl rfl rfl rfl rfl hc3 hd3) rfl rfl) (QAll.cons (QOp.q rfl rfl (Quiet1.load hT rfl rfl rfl hc4) rfl rfl) (QAll.cons (QOp.q rfl rfl (Quiet1.idxS (s := _) hT rfl rfl rfl rfl rfl hc5 hd5) rfl rfl) QAll.nil))))))))))))))))))))) ?_
   refine EAll.cons ?_ EAll.nil
   refine EOp.e rfl rfl rfl (EffX.store hT rfl rfl rfl rfl rfl H) ?_
   rintro _ _ ⟨h0u1, rfl, H⟩
   obtain ⟨a_4_, hc6, hd6, H⟩ := H
   apply Stg.next [(37, _)] rfl rfl
   refine Stg.go [4, 5, 6, 7, 22] [23] rfl rfl (QAll.cons (QOp.p hT rfl rfl rfl rfl rfl) (QAll.cons (QOp.p hT rfl rfl rfl rfl rfl) (QAll.cons (QOp.p hT rfl rfl rfl rfl rfl) (QAll.cons (QOp.p hT rfl rfl rfl rfl rfl) (QAll.cons (QOp.q rfl rfl (Quiet1.idxS (s := _) hT rfl rfl rfl rfl rfl hc6 hd6) rfl rfl) QAll.nil))))) ?_
   refine EAll.cons ?_ EAll.nil
   refine EOp.e rfl rfl rfl (EffX.store hT rfl rfl rfl rfl rfl H) ?_
   rintro _ _ ⟨h0u2, rfl, H⟩
   apply Stg.next [] rfl rfl
   refine Stg.fin [] rfl rfl QAll.nil ?_
   refine AtE.blk_n ?_
   refine AtE.then_n (AtE.go ?_)
   refine AtC.region ?_
   refine AtL.pures hT 3 _ _ _ _ rfl ?_
   replace H := H _ rfl
   refine AtL.nil ?_
   exact AtE.then_n ((HK1 _ _ H).pickP (ts := [10, 0, 1, 2, 3]) (is := []) rfl rfl (by decide) rfl)
  ·
   refine AtC.exit ?_
   refine AtE.then_x ?_
   refine AtE.then_x ?_
   refine AtE.blk_hit ?_
   exact AtE.endN rfl rfl H
theorem lift_slices_rotateCmpFunc_int__clause_idle_c1 (data : Sl) (a : Int) (m0 : Int) (b : Int) (cmp_c : Addr) (w : World) (m : Heap) (hr : Rel ⟨m, []⟩ w.heap) (S : Unit → Heap → Prop) (H : slices_rotateCmpFunc_int__clause_idle_c1 data a m0 b cmp_c m S) :
    Calls Try.prog 100 #[Sl.toV data, Value.int .i64 a, Value.int .i64 m0, Value.int .i64 b, Value.func (.func 59) #[] #[Value.pointer (some cmp_c)]] w (Post ⟨w, m⟩ (fun _ => Value.tuple #[]) S) := by
  refine Calls.lift (args := [Sl.toV data, Value.int .i64 a, Value.int .i64 m0, Value.int .i64 b, Value.func (.func 59) #[] #[Value.pointer (some cmp_c)]]) Try.func100 rfl Try.ntmps100 (Nat.le_of_ble_eq_true rfl) hr (slices_rotateCmpFunc_int__clause_idle_c1 data a m0 b cmp_c m S) H (fun H => ?_)
  refine AtC.pick (ts := [0, 1, 2, 3, 4]) rfl ?_
  unfold slices_rotateCmpFunc_int__clause_idle_c1 at H
  refine AtC.seqR ?_
  refine AtL.pures hT 4 _ _ _ _ rfl ?_
  replace H := H _ rfl
  refine AtL.nil ?_
  refine AtE.then_n (AtE.go ?_)
  refine AtC.seqR ?_
  refine AtL.pures hT 4 _ _ _ _ rfl ?_
  replace H := H _ rfl
  refine AtL.nil ?_
  refine AtE.then_n (AtE.go ?_)
  refine AtC.seq ?_
  refine AtC.block ?_
  refine AtC.loopM (fun (s0 : Int × Int) => [(10, Value.int .i64 s0.1), (11, Value.int .i64 s0.2)]) (fun (s0 : Int × Int) => []) [0, 2, 4] [10, 11, 0, 2, 4] [] [] H (by exact rfl) (by exact rfl) (by exact rfl) (by decide) (by exact rfl) (fun Kp1 s0 h0 H Q1 HK1 => ?_)
  refine AtC.seq ?_
  refine AtC.seqR ?_
  refine AtL.pures hT 3 _ _ _ _ rfl ?_
  refine AtL.nil ?_
  refine AtE.then_n (AtE.go ?_)
  refine AtC.condB H rfl (fun H => ?_) (fun H => ?_)
  ·
   refine AtC.skip ?_
   refine AtE.then_n (AtE.go ?_)
   refine AtC.block ?_
   refine AtC.seqR ?_
   refine AtL.pures hT 3 _ _ _ _ rfl ?_
   refine AtL.nil ?_
   refine AtE.then_n (AtE.go ?_)
   refine AtC.condB H rfl (fun H => ?_) (fun H => ?_)
   ·
    refine AtC.seqR ?_
    refine AtL.pures hT 7 _ _ _ _ rfl ?_
    refine AtL.e rfl (EffX.call (f := 105) (sh := fun h => slices_swapRangeCmpFunc_int__clause_idle_c1 _ _ _ _ _ h _) (H0 := H) rfl Try.call105 rfl (hl := fun w m hr hw => lift_slices_swapRangeCmpFunc_int__clause_idle_c1 _ _ _ _ _ w m hr _ hw)) ?_
    rintro _ _ ⟨v, h0u1, rfl, rfl, H⟩
    refine AtL.nil ?_
    refine AtE.then_n (AtE.go ?_)
    refine AtC.region ?_
    refine AtL.pures hT 4 _ _ _ _ rfl ?_
    replace H := H _ rfl
    refine AtL.nil ?_
    refine AtE.blk_n ?_
    exact AtE.then_n ((HK1 _ _ H).pickP (ts := [10, 11, 0, 2, 4]) (is := []) rfl rfl (by decide) rfl)
   ·
    refine AtC.seqR ?_
    refine AtL.pures hT 11 _ _ _ _ rfl ?_
    refine AtL.e rfl (EffX.call (f := 105) (sh := fun h => slices_swapRangeCmpFunc_int__clause_idle_c1 _ _ _ _ _ h _) (H0 := H) rfl Try.call105 rfl (hl := fun w m hr hw => lift_slices_swapRangeCmpFunc_int__clause_idle_c1 _ _ _ _ _ w m hr _ hw)) ?_
    rintro _ _ ⟨v_1, h0u2, rfl, rfl, H⟩
    refine AtL.nil ?_
    refine AtE.then_n (AtE.go ?_)
    refine AtC.region ?_
    refine AtL.pures hT 4 _ _ _ _ rfl ?_
    replace H := H _ rfl
    refine AtL.nil ?_
    refine AtE.blk_n ?_
    exact AtE.then_n ((HK1 _ _ H).pickP (ts := [10, 11, 0, 2, 4]) (is := []) rfl rfl (by decide) rfl)
  ·
   refine AtC.exit ?_
   refine AtE.then_x ?_
   refine AtE.then_x ?_
   refine AtE.blk_hit ?_
   refine AtE.then_n (AtE.go ?_)
   refine AtC.region ?_
   refine AtL.pures hT 7 _ _ _ _ rfl ?_
   refine AtL.e rfl (EffX.call (f := 105) (sh := fun h => slices_swapRangeCmpFunc_int__clause_idle_c1 _ _ _ _ _ h _) (H0 := H) rfl Try.call105 rfl (hl := fun w m hr hw => lift_slices_swapRangeCmpFunc_int__clause_idle_c1 _ _ _ _ _ w m hr _ hw)) ?_
   rintro _ _ ⟨v_2, h0u3, rfl, rfl, H⟩
   refine AtL.nil ?_
   exact AtE.endN rfl rfl H
theorem lift_slices_symMergeCmpFunc_int__clause_idle_c1uR : ∀ (rk : Nat) (data : Sl) (a : Int) (m0 : Int) (b : Int) (cmp_c : Addr) (w : World) (m : Heap) (hr : Rel ⟨m, []⟩ w.heap) (S : Unit → Heap → Prop) (H : slices_symMergeCmpFunc_int__clause_idle_c1uR rk data a m0 b cmp_c m S),
    Calls Try.prog 85 #[Sl.toV data, Value.int .i64 a, Value.int .i64 m0, Value.int .i64 b, Value.func (.func 59) #[] #[Value.pointer (some cmp_c)]] w (Post ⟨w, m⟩ (fun _ => Value.tuple #[]) S) := by
  intro rk
  induction rk with
  | zero =>
    intro data a m0 b cmp_c w m hr S H
    unfold slices_symMergeCmpFunc_int__clause_idle_c1uR at H
    exact H.elim
  | succ rk IH =>
    intro data a m0 b cmp_c w m hr S H
    refine Calls.lift (args := [Sl.toV data, Value.int .i64 a, Value.int .i64 m0, Value.int .i64 b, Value.func (.func 59) #[] #[Value.pointer (some cmp_c)]]) Try.func85 rfl Try.ntmps85 (Nat.le_of_ble_eq_true rfl) hr (slices_symMergeCmpFunc_int__clause_idle_c1uR (rk + 1) data a m0 b cmp_c m S) H (fun H => ?_)
    refine AtC.pick (ts := [0, 1, 2, 3, 4]) rfl ?_
    unfold slices_symMergeCmpFunc_int__clause_idle_c1uR at H
    refine AtC.seq ?_
    refine AtC.seqR ?_
    refine AtL.pures hT 4 _ _ _ _ rfl ?_
    refine AtL.nil ?_
    refine AtE.then_n (AtE.go ?_)
    refine AtC.condB H rfl (fun H => ?_) (fun H => ?_)
    ·
     refine AtC.seqR ?_
     refine AtL.pures hT 2 _ _ _ _ rfl ?_
     refine AtL.nil ?_
     refine AtE.then_n (AtE.go ?_)
     refine AtC.seqR ?_
     refine AtL.pures hT 2 _ _ _ _ rfl ?_
     refine AtL.nil ?_
     refine AtE.then_n (AtE.go ?_)
     refine AtC.seq ?_
     refine AtC.block ?_
     refine AtC.loopM (fun (s0 : Int × Int) => [(10, Value.int .i64 s0.1), (11, Value.int .i64 s0.2)]) (fun (s0 : Int × Int) => []) [0, 1, 4] [10, 11, 0, 1, 4] [] [] H (by exact rfl) (by exact rfl) (by exact rfl) (by decide) (by exact rfl) (fun Kp1 s0 h0 H Q1 HK1 => ?_)
     refine AtC.seq ?_
     refine AtC.seqR ?_
     refine AtL.pures hT 3 _ _ _ _ rfl ?_
     refine AtL.nil ?_
     refine AtE.then_n (AtE.go ?_)
     refine AtC.condB H rfl (fun H => ?_) (fun H => ?_)
     ·
      refine AtC.skip ?_
      refine AtE.then_n (AtE.go ?_)
      refine AtC.block ?_
      refine AtC.seqR ?_
      refine AtL.pures hT 7 _ _ _ _ rfl ?_
      replace H := H _ rfl
      refine AtL.nil ?_
      refine AtE.then_n (AtE.go ?_)
      obtain ⟨a_1_, hc1, hd1, H⟩ := H
      obtain ⟨v, hc2, H⟩ := H
      obtain ⟨a_2_, hc3, hd3, H⟩ := H
      obtain ⟨v_1, hc4, H⟩ := H
      apply AtC.seqS [9] [[], [], [], [], [], [], [], [], [], [], [9]] [[], [], [], [1, 2], [1, 2, 3], [], [], [5, 6], [5, 6, 7], [0, 1, 2, 3, 4, 5, 6, 7, 8], [0, 1, 2, 3, 4, 5, 6, 7, 8, 9]] hmix (by kernel_rfl) [(40, _), (41, _), (42, _), (43, _), (44, _), (45, _), (46, _), (47, _), (48, _)] rfl 1 rfl
      refine Stg.go [0, 1, 2, 3, 4, 5, 6, 7, 8] [9] rfl rfl (QAll.cons (QOp.p hT rfl rfl rfl rfl rfl) (QAll.cons (QOp.p hT rfl rfl rfl rfl rfl) (QAll.cons (QOp.p hT rfl rfl rfl rfl rfl) (QAll.cons (QOp.q rfl rfl (Quiet1.idxS (s := _) hT rfl rfl rfl rfl rfl hc1 hd1) rfl rfl) (QAll.cons (QOp.q rfl rfl (Quiet1.load hT rfl rfl rfl hc2) rfl rfl) (QAll.cons (QOp.p hT rfl rfl rfl rfl rfl) (QAll.cons (QOp.p hT rfl rfl rfl rfl rfl) (QAll.cons (QOp.q rfl rfl (Quiet1.idxS (s := _) hT rfl rfl rfl rfl rfl hc3 hd3) rfl rfl) (QAll.cons (QOp.q rfl rfl (Quiet1.load hT rfl rfl rfl hc4) rfl rfl) QAll.nil))))))))) ?_
      refine EAll.cons ?_ EAll.nil
      refine EOp.e rfl rfl rfl (EffX.callF (bs := []) (cs := [_]) (f := 59) (sh := fun h => clause_idle_c1 _ _ _ h _) (H0 := H) rfl rfl Try.call59 rfl (hl := fun w m hr hw => lift_clause_idle_c1 _ _ _ w m hr _ hw)) ?_
      rintro _ _ ⟨v_2, h0u2, rfl, rfl, H⟩
      apply Stg.next [(49, _), (50, _)] rfl rfl
      refine Stg.fin [10] rfl rfl (QAll.cons (QOp.p hT rfl rfl rfl rfl rfl) QAll.nil) ?_
      refine AtE.then_n (AtE.go ?_)
      refine AtC.condB H rfl (fun H => ?_) (fun H => ?_)
      ·
       refine AtC.region ?_
       refine AtL.pures hT 3 _ _ _ _ rfl ?_
       replace H := H _ rfl
       refine AtL.nil ?_
       refine AtE.blk_n ?_
       exact AtE.then_n ((HK1 _ _ H).pickP (ts := [10, 11, 0, 1, 4]) (is := []) rfl rfl (by decide) rfl)
      ·
       refine AtC.region ?_
       refine AtL.pures hT 2 _ _ _ _ rfl ?_
       refine AtL.nil ?_
       refine AtE.blk_n ?_
       exact AtE.then_n ((HK1 _ _ H).pickP (ts := [10, 11, 0, 1, 4]) (is := []) rfl rfl (by decide) rfl)
     ·
      refine AtC.exit ?_
      refine AtE.then_x ?_
      refine AtE.then_x ?_
      refine AtE.blk_hit ?_
      refine AtE.then_n (AtE.go ?_)
      refine AtC.seq ?_
      refine AtC.seqR ?_
      refine AtL.pures hT 2 _ _ _ _ rfl ?_
      refine AtL.nil ?_
      refine AtE.then_n (AtE.go ?_)
      refine AtC.block ?_
      refine AtC.loopM (fun (s0u1 : Int) => [(13, Value.int .i64 s0u1)]) (fun (s0u1 : Int) => []) [0, 10] [13, 0, 10] [] [] H (by exact rfl) (by exact rfl) (by exact rfl) (by decide) (by exact rfl) (fun Kp6 s0u1 h0u3 H Q6 HK6 => ?_)
      refine AtC.seq ?_
      refine AtC.seqR ?_
      refine AtL.pures hT 4 _ _ _ _ rfl ?_
      refine AtL.nil ?_
      refine AtE.then_n (AtE.go ?_)
      refine AtC.condB H rfl (fun H => ?_) (fun H => ?_)
      ·
       refine AtC.skip ?_
       refine AtE.then_n (AtE.go ?_)
       refine AtC.seq ?_
       refine AtC.block ?_
       obtain ⟨a_3_, hc6, hd6, H⟩ := H
       obtain ⟨v_3, hc7, H⟩ := H
       obtain ⟨a_4_, hc8, hd8, H⟩ := H
       obtain ⟨v_4, hc9, H⟩ := H
       obtain ⟨a_5_, hc10, hd10, H⟩ := H
       apply AtC.stages [15, 17] [[], [], [], [], [], [], [], [], [], [], [], [], [], [], [], [], [15], [15]] [[], [], [], [], [3], [], [], [6], [5, 6, 7], [5, 6, 7, 8], [], [], [10, 11], [10, 11, 12], [0, 1, 5, 6, 7, 8, 9, 10, 11, 12, 13], [0, 1, 5, 6, 7, 8, 9, 10, 11, 12, 13, 14], [0, 1, 2, 3, 4, 5, 6, 7, 8, 9, 10, 11, 12, 13, 14, 15], [0, 1, 2, 3, 4, 5, 6, 7, 8, 9, 10, 11, 12, 13, 14, 15, 16]] hmix (by kernel_rfl) [(61, _), (62, _), (63, _), (64, _), (65, _), (66, _), (67, _), (68, _), (69, _), (70, _), (71, _), (72, _), (73, _), (74, _), (75, _)] rfl 2 rfl
       refine Stg.go [0, 1, 2, 3, 4, 5, 6, 7, 8, 9, 10, 11, 12, 13, 14] [15] rfl rfl (QAll.cons (QOp.p hT rfl rfl rfl rfl rfl) (QAll.cons (QOp.p hT rfl rfl rfl rfl rfl) (QAll.cons (QOp.p hT rfl rfl rfl rfl rfl) (QAll.cons (QOp.p hT rfl rfl rfl rfl rfl) (QAll.cons (QOp.p hT rfl rfl rfl rfl rfl) (QAll.cons (QOp.p hT rfl rfl rfl rfl rfl) (QAll.cons (QOp.p hT rfl rfl rfl rfl rfl) (QAll.cons (QOp.p hT rfl rfl rfl rfl rfl) (QAll.cons (QOp.q rfl rfl (Quiet1.idxS (s := _) hT rfl rfl rfl rfl rfl hc6 hd6) rfl rfl) (QAll.cons (QOp.q rfl rfl (Quiet1.load hT rfl rfl rfl hc7) rfl rfl) (QAll.cons (QOp.p hT rfl rfl rfl rfl rfl) (QAll.cons (QOp.p hT rfl rfl rfl rfl rfl) (QAll.cons (QOp.q rfl rfl (Quiet1.idxS (s := _) hT rfl rfl rfl rfl rfl hc8 hd8) rfl rfl) (QAll.cons (QOp.q rfl rfl (Quiet1.load hT rfl rfl rfl hc9) rfl rfl) (QAll.cons (QOp.q rfl rfl (Quiet1.idxS (s := _) hT rfl rfl rfl rfl rfl hc10 hd10) rfl rfl) QAll.nil))))))))))))))) ?_
       refine EAll.cons ?_ EAll.nil
       refine EOp.e rfl rfl rfl (EffX.store hT rfl rfl rfl rfl rfl H) ?_
       rintro _ _ ⟨h0u4, rfl, H⟩
       obtain ⟨a_6_, hc11, hd11, H⟩ := H
       apply Stg.next [(76, _)] rfl rfl
       refine Stg.go [2, 3, 4, 16] [17] rfl rfl (QAll.cons (QOp.p hT rfl rfl rfl rfl rfl) (QAll.cons (QOp.p hT rfl rfl rfl rfl rfl) (QAll.cons (QOp.p hT rfl rfl rfl rfl rfl) (QAll.cons (QOp.q rfl rfl (Quiet1.idxS (s := _) hT rfl rfl rfl rfl rfl hc11 hd11) rfl rfl) QAll.nil)))) ?_
       refine EAll.cons ?_ EAll.nil
       refine EOp.e rfl rfl rfl (EffX.store hT rfl rfl rfl rfl rfl H) ?_
       rintro _ _ ⟨h0u5, rfl, H⟩
       apply Stg.next [] rfl rfl
       refine Stg.fin [] rfl rfl QAll.nil ?_
       refine AtE.blk_n ?_
       refine AtE.then_n (AtE.go ?_)
       refine AtC.region ?_
       refine AtL.pures hT 3 _ _ _ _ rfl ?_
       replace H := H _ rfl
       refine AtL.nil ?_
       exact AtE.then_n ((HK6 _ _ H).pickP (ts := [13, 0, 10]) (is := []) rfl rfl (by decide) rfl)
      ·
       refine AtC.exit ?_
       refine AtE.then_x ?_
       refine AtE.then_x ?_
       refine AtE.blk_hit ?_
       refine AtE.then_n (AtE.go ?_)
       refine AtC.ret ?_
       refine AtE.then_r ?_
       exact AtE.ret0 rfl rfl H
    ·
     refine AtC.skip ?_
     refine AtE.then_n (AtE.go ?_)
     refine AtC.seq ?_
     refine AtC.seqR ?_
     refine AtL.pures hT 4 _ _ _ _ rfl ?_
     refine AtL.nil ?_
     refine AtE.then_n (AtE.go ?_)
     refine AtC.condB H rfl (fun H => ?_) (fun H => ?_)
     ·
      refine AtC.seqR ?_
      refine AtL.pures hT 2 _ _ _ _ rfl ?_
      refine AtL.nil ?_
      refine AtE.then_n (AtE.go ?_)
      refine AtC.seqR ?_
      refine AtL.pures hT 2 _ _ _ _ rfl ?_
      refine AtL.nil ?_
      refine AtE.then_n (AtE.go ?_)
      refine AtC.seq ?_
      refine AtC.block ?_
      refine AtC.loopM (fun (s0u2 : Int × Int) => [(14, Value.int .i64 s0u2.1), (15, Value.int .i64 s0u2.2)]) (fun (s0u2 : Int × Int) => []) [0, 2, 4] [14, 15, 0, 2, 4] [] [] H (by exact rfl) (by exact rfl) (by exact rfl) (by decide) (by exact rfl) (fun Kp13 s0u2 h0u6 H Q13 HK13 => ?_)
      refine AtC.seq ?_
      refine AtC.seqR ?_
      refine AtL.pures hT 3 _ _ _ _ rfl ?_
      refine AtL.nil ?_
      refine AtE.then_n (AtE.go ?_)
      refine AtC.condB H rfl (fun H => ?_) (fun H => ?_)
      ·
       refine AtC.skip ?_
       refine AtE.then_n (AtE.go ?_)
       refine AtC.block ?_
       refine AtC.seqR ?_
       refine AtL.pures hT 7 _ _ _ _ rfl ?_
       replace H := H _ rfl
       refine AtL.nil ?_
       refine AtE.then_n (AtE.go ?_)
       obtain ⟨a_7_, hc13, hd13, H⟩ := H
       obtain ⟨v_5, hc14, H⟩ := H
       obtain ⟨a_8_, hc15, hd15, H⟩ := H
       obtain ⟨v_6, hc16, H⟩ := H
       apply AtC.seqS [9] [[], [], [], [], [], [], [], [], [], [], [9], [9]] [[], [], [], [1, 2], [1, 2, 3], [], [], [5, 6], [5, 6, 7], [0, 1, 2, 3, 4, 5, 6, 7, 8], [0, 1, 2, 3, 4, 5, 6, 7, 8, 9], [0, 1, 2, 3, 4, 5, 6, 7, 8, 9, 10]] hmix (by kernel_rfl) [(92, _), (93, _), (94, _), (95, _), (96, _), (97, _), (98, _), (99, _), (100, _)] rfl 1 rfl
       refine Stg.go [0, 1, 2, 3, 4, 5, 6, 7, 8] [9] rfl rfl (QAll.cons (QOp.p hT rfl rfl rfl rfl rfl) (QAll.cons (QOp.p hT rfl rfl rfl rfl rfl) (QAll.cons (QOp.p hT rfl rfl rfl rfl rfl) (QAll.cons (QOp.q rfl rfl (Quiet1.idxS (s := _) hT rfl rfl rfl rfl rfl hc13 hd13) rfl rfl) (QAll.cons (QOp.q rfl rfl (Quiet1.load hT rfl rfl rfl hc14) rfl rfl) (QAll.cons (QOp.p hT rfl rfl rfl rfl rfl) (QAll.cons (QOp.p hT rfl rfl rfl rfl rfl) (QAll.cons (QOp.q rfl rfl (Quiet1.idxS (s := _) hT rfl rfl rfl rfl rfl hc15 hd15) rfl rfl) (QAll.cons (QOp.q rfl rfl (Quiet1.load hT rfl rfl rfl hc16) rfl rfl) QAll.nil))))))))) ?_
       refine EAll.cons ?_ EAll.nil
       refine EOp.e rfl rfl rfl (EffX.callF (bs := []) (cs := [_]) (f := 59) (sh := fun h => clause_idle_c1 _ _ _ h _) (H0 := H) rfl rfl Try.call59 rfl (hl := fun w m hr hw => lift_clause_idle_c1 _ _ _ w m hr _ hw)) ?_
       rintro _ _ ⟨v_7, h0u8, rfl, rfl, H⟩
       apply Stg.next [(101, _), (102, _), (103, _)] rfl rfl
       refine Stg.fin [10, 11] rfl rfl (QAll.cons (QOp.p hT rfl rfl rfl rfl rfl) (QAll.cons (QOp.p hT rfl rfl rfl rfl rfl) QAll.nil)) ?_
       refine AtE.then_n (AtE.go ?_)
       refine AtC.condB H rfl (fun H => ?_) (fun H => ?_)
       ·
        refine AtC.region ?_
        refine AtL.pures hT 3 _ _ _ _ rfl ?_
        replace H := H _ rfl
        refine AtL.nil ?_
        refine AtE.blk_n ?_
        exact AtE.then_n ((HK13 _ _ H).pickP (ts := [14, 15, 0, 2, 4]) (is := []) rfl rfl (by decide) rfl)
       ·
        refine AtC.region ?_
        refine AtL.pures hT 2 _ _ _ _ rfl ?_
        refine AtL.nil ?_
        refine AtE.blk_n ?_
        exact AtE.then_n ((HK13 _ _ H).pickP (ts := [14, 15, 0, 2, 4]) (is := []) rfl rfl (by decide) rfl)
      ·
       refine AtC.exit ?_
       refine AtE.then_x ?_
       refine AtE.then_x ?_
       refine AtE.blk_hit ?_
       refine AtE.then_n (AtE.go ?_)
       refine AtC.seq ?_
       refine AtC.seqR ?_
       refine AtL.pures hT 2 _ _ _ _ rfl ?_
       refine AtL.nil ?_
       refine AtE.then_n (AtE.go ?_)
       refine AtC.block ?_
       refine AtC.loopM (fun (s0u3 : Int) => [(17, Value.int .i64 s0u3)]) (fun (s0u3 : Int) => []) [0, 14] [17, 0, 14] [] [] H (by exact rfl) (by exact rfl) (by exact rfl) (by decide) (by exact rfl) (fun Kp18 s0u3 h0u9 H Q18 HK18 => ?_)
       refine AtC.seq ?_
       refine AtC.seqR ?_
       refine AtL.pures hT 3 _ _ _ _ rfl ?_
       refine AtL.nil ?_
       refine AtE.then_n (AtE.go ?_)
       refine AtC.condB H rfl (fun H => ?_) (fun H => ?_)
       ·
        refine AtC.skip ?_
        refine AtE.then_n (AtE.go ?_)
        refine AtC.seq ?_
        refine AtC.block ?_
        obtain ⟨a_9_, hc18, hd18, H⟩ := H
        obtain ⟨v_8, hc19, H⟩ := H
        obtain ⟨a_10_, hc20, hd20, H⟩ := H
        obtain ⟨v_9, hc21, H⟩ := H
        obtain ⟨a_11_, hc22, hd22, H⟩ := H
        apply AtC.stages [15, 17] [[], [], [], [], [], [], [], [], [], [], [], [], [], [], [], [], [15], [15]] [[], [], [], [], [3], [], [], [6], [5, 6, 7], [5, 6, 7, 8], [], [], [10, 11], [10, 11, 12], [0, 1, 5, 6, 7, 8, 9, 10, 11, 12, 13], [0, 1, 5, 6, 7, 8, 9, 10, 11, 12, 13, 14], [0, 1, 2, 3, 4, 5, 6, 7, 8, 9, 10, 11, 12, 13, 14, 15], [0, 1, 2, 3, 4, 5, 6, 7, 8, 9, 10, 11, 12, 13, 14, 15, 16]] hmix (by kernel_rfl) [(113, _), (114, _), (115, _), (116, _), (117, _), (118, _), (119, _), (120, _), (121, _), (122, _), (123, _), (124, _), (125, _), (126, _), (127, _)] rfl 2 rfl
        refine Stg.go [0, 1, 2, 3, 4, 5, 6, 7, 8, 9, 10, 11, 12, 13, 14] [15] rfl rfl (QAll.cons (QOp.p hT rfl rfl rfl rfl rfl) (QAll.cons (QOp.p hT rfl rfl rfl rfl rfl) (QAll.cons (QOp.p hT rfl rfl rfl rfl rfl) (QAll.cons (QOp.p hT rfl rfl rfl rfl rfl) (QAll.cons (QOp.p hT rfl rfl rfl rfl rfl) (QAll.cons (QOp.p hT rfl rfl rfl rfl rfl) (QAll.cons (QOp.p hT rfl rfl rfl rfl rfl) (QAll.cons (QOp.p hT rfl rfl rfl rfl rfl) (QAll.cons (QOp.q rfl rfl (Quiet1.idxS (s := _) hT rfl rfl rfl rfl rfl hc18 hd18) rfl rfl) (QAll.cons (QOp.q rfl rfl (Quiet1.load hT rfl rfl rfl hc19) rfl rfl) (QAll.cons (QOp.p hT rfl rfl rfl rfl rfl) (QAll.cons (QOp.p hT rfl rfl rfl rfl rfl) (QAll.cons (QOp.q rfl rfl (Quiet1.idxS (s := _) hT rfl rfl rfl rfl rfl hc20 hd20) rfl rfl) (QAll.cons (QOp.q rfl rfl (Quiet1.load hT rfl rfl rfl hc21) rfl rfl) (QAll.cons (QOp.q rfl rfl (Quiet1.idxS (s := _) hT rfl rfl rfl rfl rfl hc22 hd22) rfl rfl) QAll.nil))))))))))))))) ?_
        refine EAll.cons ?_ EAll.nil
        refine EOp.e rfl rfl rfl (EffX.store hT rfl rfl rfl rfl rfl H) ?_
        rintro _ _ ⟨h0u10, rfl, H⟩
        obtain ⟨a_12_, hc23, hd23, H⟩ := H
        apply Stg.next [(128, _)] rfl rfl
        refine Stg.go [2, 3, 4, 16] [17] rfl rfl (QAll.cons (QOp.p hT rfl rfl rfl rfl rfl) (QAll.cons (QOp.p hT rfl rfl rfl rfl rfl) (QAll.cons (QOp.p hT rfl rfl rfl rfl rfl) (QAll.cons (QOp.q rfl rfl (Quiet1.idxS (s := _) hT rfl rfl rfl rfl rfl hc23 hd23) rfl rfl) QAll.nil)))) ?_
        refine EAll.cons ?_ EAll.nil
        refine EOp.e rfl rfl rfl (EffX.store hT rfl rfl rfl rfl rfl H) ?_
        rintro _ _ ⟨h0u11, rfl, H⟩
        apply Stg.next [] rfl rfl
        refine Stg.fin [] rfl rfl QAll.nil ?_
        refine AtE.blk_n ?_
        refine AtE.then_n (AtE.go ?_)
        refine AtC.region ?_
        refine AtL.pures hT 3 _ _ _ _ rfl ?_
        replace H := H _ rfl
        refine AtL.nil ?_
        exact AtE.then_n ((HK18 _ _ H).pickP (ts := [17, 0, 14]) (is := []) rfl rfl (by decide) rfl)
       ·
        refine AtC.exit ?_
        refine AtE.then_x ?_
        refine AtE.then_x ?_
        refine AtE.blk_hit ?_
        refine AtE.then_n (AtE.go ?_)
        refine AtC.ret ?_
        refine AtE.then_r ?_
        exact AtE.ret0 rfl rfl H
     ·
      refine AtC.skip ?_
      refine AtE.then_n (AtE.go ?_)
      refine AtC.seqR ?_
      refine AtL.pures hT 7 _ _ _ _ rfl ?_
      replace H := H _ rfl
      refine AtL.nil ?_
      refine AtE.then_n (AtE.go ?_)
      refine AtC.seqR ?_
      refine AtL.pures hT 4 _ _ _ _ rfl ?_
      replace H := H _ rfl
      refine AtL.nil ?_
      refine AtE.then_n (AtE.go ?_)
      refine AtC.seqR ?_
      refine AtL.pures hT 2 _ _ _ _ rfl ?_
      refine AtL.nil ?_
      refine AtE.then_n (AtE.go ?_)
      refine AtC.joinSeq (β := Unit) (fun (t0 : Int × Int) (bb : Unit) => [(20, Value.int .i64 t0.1), (21, Value.int .i64 t0.2)]) (fun (t0 : Int × Int) (bb : Unit) => []) [0, 1, 2, 3, 4, 18, 19] [] H (by exact rfl) (by exact rfl) (fun t0 bb h0u12 H => ?_) (fun J25 H HK25 => ?_)
      ·
       refine AtC.seqR ?_
       refine AtL.pures hT 3 _ _ _ _ rfl ?_
       replace H := H _ rfl
       refine AtL.nil ?_
       refine AtE.then_n (AtE.go ?_)
       refine AtC.seq ?_
       refine AtC.block ?_
       refine AtC.loopM (fun (s0u4 : Int × Int) => [(20, Value.int .i64 s0u4.1), (21, Value.int .i64 s0u4.2)]) (fun (s0u4 : Int × Int) => []) [0, 1, 2, 3, 4, 18, 19, 22] [20, 21, 0, 1, 2, 3, 4, 18, 19, 22] [] [] H (by exact rfl) (by exact rfl) (by exact rfl) (by decide) (by exact rfl) (fun Kp26 s0u4 h0u13 H Q26 HK26 => ?_)
       refine AtC.seq ?_
       refine AtC.seqR ?_
       refine AtL.pures hT 3 _ _ _ _ rfl ?_
       refine AtL.nil ?_
       refine AtE.then_n (AtE.go ?_)
       refine AtC.condB H rfl (fun H => ?_) (fun H => ?_)
       ·
        refine AtC.skip ?_
        refine AtE.then_n (AtE.go ?_)
        refine AtC.block ?_
        refine AtC.seqR ?_
        refine AtL.pures hT 7 _ _ _ _ rfl ?_
        replace H := H _ rfl
        refine AtL.nil ?_
        refine AtE.then_n (AtE.go ?_)
        obtain ⟨a_13_, hc26, hd26, H⟩ := H
        obtain ⟨v_10, hc27, H⟩ := H
        obtain ⟨a_14_, hc28, hd28, H⟩ := H
        obtain ⟨v_11, hc29, H⟩ := H
        apply AtC.seqS [11] [[], [], [], [], [], [], [], [], [], [], [], [], [11], [11]] [[], [], [], [], [2, 3], [1, 2, 3, 4], [1, 2, 3, 4, 5], [], [], [7, 8], [7, 8, 9], [0, 1, 2, 3, 4, 5, 6, 7, 8, 9, 10], [0, 1, 2, 3, 4, 5, 6, 7, 8, 9, 10, 11], [0, 1, 2, 3, 4, 5, 6, 7, 8, 9, 10, 11, 12]] hmix (by kernel_rfl) [(158, _), (159, _), (160, _), (161, _), (162, _), (163, _), (164, _), (165, _), (166, _), (167, _), (168, _)] rfl 1 rfl
        refine Stg.go [0, 1, 2, 3, 4, 5, 6, 7, 8, 9, 10] [11] rfl rfl (QAll.cons (QOp.p hT rfl rfl rfl rfl rfl) (QAll.cons (QOp.p hT rfl rfl rfl rfl rfl) (QAll.cons (QOp.p hT rfl rfl rfl rfl rfl) (QAll.cons (QOp.p hT rfl rfl rfl rfl rfl) (QAll.cons (QOp.p hT rfl rfl rfl rfl rfl) (QAll.cons (QOp.q rfl rfl (Quiet1.idxS (s := _) hT rfl rfl rfl rfl rfl hc26 hd26) rfl rfl) (QAll.cons (QOp.q rfl rfl (Quiet1.load hT rfl rfl rfl hc27) rfl rfl) (QAll.cons (QOp.p hT rfl rfl rfl rfl rfl) (QAll.cons (QOp.p hT rfl rfl rfl rfl rfl) (QAll.cons (QOp.q rfl rfl (Quiet1.idxS (s := _) hT rfl rfl rfl rfl rfl hc28 hd28) rfl rfl) (QAll.cons (QOp.q rfl rfl (Quiet1.load hT rfl rfl rfl hc29) rfl rfl) QAll.nil))))))))))) ?_
        refine EAll.cons ?_ EAll.nil
        refine EOp.e rfl rfl rfl (EffX.callF (bs := []) (cs := [_]) (f := 59) (sh := fun h => clause_idle_c1 _ _ _ h _) (H0 := H) rfl rfl Try.call59 rfl (hl := fun w m hr hw => lift_clause_idle_c1 _ _ _ w m hr _ hw)) ?_
        rintro _ _ ⟨v_12, h0u14, rfl, rfl, H⟩
        apply Stg.next [(169, _), (170, _), (171, _)] rfl rfl
        refine Stg.fin [12, 13] rfl rfl (QAll.cons (QOp.p hT rfl rfl rfl rfl rfl) (QAll.cons (QOp.p hT rfl rfl rfl rfl rfl) QAll.nil)) ?_
        refine AtE.then_n (AtE.go ?_)
        refine AtC.condB H rfl (fun H => ?_) (fun H => ?_)
        ·
         refine AtC.region ?_
         refine AtL.pures hT 3 _ _ _ _ rfl ?_
         replace H := H _ rfl
         refine AtL.nil ?_
         refine AtE.blk_n ?_
         exact AtE.then_n ((HK26 _ _ H).pickP (ts := [20, 21, 0, 1, 2, 3, 4, 18, 19, 22]) (is := []) rfl rfl (by decide) rfl)
        ·
         refine AtC.region ?_
         refine AtL.pures hT 2 _ _ _ _ rfl ?_
         refine AtL.nil ?_
         refine AtE.blk_n ?_
         exact AtE.then_n ((HK26 _ _ H).pickP (ts := [20, 21, 0, 1, 2, 3, 4, 18, 19, 22]) (is := []) rfl rfl (by decide) rfl)
       ·
        refine AtC.exit ?_
        refine AtE.then_x ?_
        refine AtE.then_x ?_
        refine AtE.blk_hit ?_
        refine AtE.then_n (AtE.go ?_)
        refine AtC.seqR ?_
        refine AtL.pures hT 4 _ _ _ _ rfl ?_
        replace H := H _ rfl
        refine AtL.nil ?_
        refine AtE.then_n (AtE.go ?_)
        refine AtC.joinSeq (β := Unit) (fun (t0u1 : Unit) (bb_1 : Unit) => []) (fun (t0u1 : Unit) (bb_1 : Unit) => []) [0, 1, 3, 4, 18, 20, 24] [] H (by exact rfl) (by exact rfl) (fun t0u1 bb_1 h0u15 H => ?_) (fun J31 H HK31 => ?_)
        ·
         refine AtC.joinSeq (β := Unit) (fun (t0u3 : Unit) (bb_3 : Unit) => []) (fun (t0u3 : Unit) (bb_3 : Unit) => []) [0, 3, 4, 18, 24] [] H (by exact rfl) (by exact rfl) (fun t0u3 bb_3 h0u18 H => ?_) (fun J33 H HK33 => ?_)
         ·
          refine AtC.joinSeq (β := Unit) (fun (t0u5 : Bool) (bb_5 : Unit) => [(213, Value.bool t0u5)]) (fun (t0u5 : Bool) (bb_5 : Unit) => []) [0, 3, 4, 18, 24] [] H (by exact rfl) (by exact rfl) (fun t0u5 bb_5 h0u21 H => ?_) (fun J35 H HK35 => ?_)
          ·
           refine AtC.condB H rfl (fun H => ?_) (fun H => ?_)
           ·
            refine AtC.region ?_
            refine AtL.pures hT 5 _ _ _ _ rfl ?_
            refine AtL.e rfl (EffX.call (f := 85) (sh := fun h => slices_symMergeCmpFunc_int__clause_idle_c1uR rk _ _ _ _ _ h _) (H0 := H) rfl Try.call85 rfl (hl := fun w m hr hw => IH _ _ _ _ _ w m hr _ hw)) ?_
            rintro _ _ ⟨v_15, h0u22, rfl, rfl, H⟩
            refine AtL.nil ?_
            exact AtE.endN rfl rfl H
           ·
            refine AtC.skip ?_
            exact AtE.endN rfl rfl H
          ·
           refine AtC.region ?_
           refine AtL.pures hT 4 _ _ _ _ rfl ?_
           refine AtL.splitB (t := 209) H rfl (fun H => ?_) (fun H => ?_)
           ·
            refine AtL.yes rfl rfl rfl ?_
            refine AtL.pures hT 1 _ _ _ _ rfl ?_
            refine AtL.yes rfl rfl rfl ?_
            refine AtL.pures hT 1 _ _ _ _ rfl ?_
            refine AtL.yes rfl rfl rfl ?_
            refine AtL.pures hT 1 _ _ _ _ rfl ?_
            refine AtL.pures hT 1 _ _ _ _ rfl ?_
            refine AtL.nil ?_
            exact AtE.then_n ((HK35 _ () _ H).pickP (ts := [213, 0, 3, 4, 18, 24]) (is := []) rfl rfl (by decide) rfl)
           ·
            refine AtL.noF rfl rfl rfl (by decide) rfl ?_
            refine AtL.noF rfl rfl rfl (by decide) rfl ?_
            refine AtL.noF rfl rfl rfl (by decide) rfl ?_
            refine AtL.pures hT 1 _ _ _ _ rfl ?_
            refine AtL.nil ?_
            exact AtE.then_n ((HK35 _ () _ H).pickP (ts := [213, 0, 3, 4, 18, 24]) (is := []) rfl rfl (by decide) rfl)
         ·
          refine AtC.joinSeq (β := Unit) (fun (t0u4 : Bool) (bb_4 : Unit) => [(199, Value.bool t0u4)]) (fun (t0u4 : Bool) (bb_4 : Unit) => []) [0, 1, 3, 4, 18, 20, 24] [] H (by exact rfl) (by exact rfl) (fun t0u4 bb_4 h0u19 H => ?_) (fun J34 H HK34 => ?_)
          ·
           refine AtC.condB H rfl (fun H => ?_) (fun H => ?_)
           ·
            refine AtC.region ?_
            refine AtL.pures hT 5 _ _ _ _ rfl ?_
            refine AtL.e rfl (EffX.call (f := 85) (sh := fun h => slices_symMergeCmpFunc_int__clause_idle_c1uR rk _ _ _ _ _ h _) (H0 := H) rfl Try.call85 rfl (hl := fun w m hr hw => IH _ _ _ _ _ w m hr _ hw)) ?_
            rintro _ _ ⟨v_14, h0u20, rfl, rfl, H⟩
            refine AtL.nil ?_
            exact AtE.then_n ((HK33 _ () _ H).pickP (ts := [0, 3, 4, 18, 24]) (is := []) rfl rfl (by decide) rfl)
           ·
            refine AtC.skip ?_
            exact AtE.then_n ((HK33 _ () _ H).pickP (ts := [0, 3, 4, 18, 24]) (is := []) rfl rfl (by decide) rfl)
          ·
           refine AtC.region ?_
           refine AtL.pures hT 4 _ _ _ _ rfl ?_
           refine AtL.splitB (t := 195) H rfl (fun H => ?_) (fun H => ?_)
           ·
            refine AtL.yes rfl rfl rfl ?_
            refine AtL.pures hT 1 _ _ _ _ rfl ?_
            refine AtL.yes rfl rfl rfl ?_
            refine AtL.pures hT 1 _ _ _ _ rfl ?_
            refine AtL.yes rfl rfl rfl ?_
            refine AtL.pures hT 1 _ _ _ _ rfl ?_
            refine AtL.pures hT 1 _ _ _ _ rfl ?_
            refine AtL.nil ?_
            exact AtE.then_n ((HK34 _ () _ H).pickP (ts := [199, 0, 1, 3, 4, 18, 20, 24]) (is := []) rfl rfl (by decide) rfl)
           ·
            refine AtL.noF rfl rfl rfl (by decide) rfl ?_
            refine AtL.noF rfl rfl rfl (by decide) rfl ?_
            refine AtL.noF rfl rfl rfl (by decide) rfl ?_
            refine AtL.pures hT 1 _ _ _ _ rfl ?_
            refine AtL.nil ?_
            exact AtE.then_n ((HK34 _ () _ H).pickP (ts := [199, 0, 1, 3, 4, 18, 20, 24]) (is := []) rfl rfl (by decide) rfl)
        ·
         refine AtC.joinSeq (β := Unit) (fun (t0u2 : Bool) (bb_2 : Unit) => [(185, Value.bool t0u2)]) (fun (t0u2 : Bool) (bb_2 : Unit) => []) [0, 1, 2, 3, 4, 18, 20, 24] [] H (by exact rfl) (by exact rfl) (fun t0u2 bb_2 h0u16 H => ?_) (fun J32 H HK32 => ?_)
         ·
          refine AtC.condB H rfl (fun H => ?_) (fun H => ?_)
          ·
           refine AtC.region ?_
           refine AtL.pures hT 5 _ _ _ _ rfl ?_
           refine AtL.e rfl (EffX.call (f := 100) (sh := fun h => slices_rotateCmpFunc_int__clause_idle_c1 _ _ _ _ _ h _) (H0 := H) rfl Try.call100 rfl (hl := fun w m hr hw => lift_slices_rotateCmpFunc_int__clause_idle_c1 _ _ _ _ _ w m hr _ hw)) ?_
           rintro _ _ ⟨v_13, h0u17, rfl, rfl, H⟩
           refine AtL.nil ?_
           exact AtE.then_n ((HK31 _ () _ H).pickP (ts := [0, 1, 3, 4, 18, 20, 24]) (is := []) rfl rfl (by decide) rfl)
          ·
           refine AtC.skip ?_
           exact AtE.then_n ((HK31 _ () _ H).pickP (ts := [0, 1, 3, 4, 18, 20, 24]) (is := []) rfl rfl (by decide) rfl)
         ·
          refine AtC.region ?_
          refine AtL.pures hT 4 _ _ _ _ rfl ?_
          refine AtL.splitB (t := 181) H rfl (fun H => ?_) (fun H => ?_)
          ·
           refine AtL.yes rfl rfl rfl ?_
           refine AtL.pures hT 1 _ _ _ _ rfl ?_
           refine AtL.yes rfl rfl rfl ?_
           refine AtL.pures hT 1 _ _ _ _ rfl ?_
           refine AtL.yes rfl rfl rfl ?_
           refine AtL.pures hT 1 _ _ _ _ rfl ?_
           refine AtL.pures hT 1 _ _ _ _ rfl ?_
           refine AtL.nil ?_
           exact AtE.then_n ((HK32 _ () _ H).pickP (ts := [185, 0, 1, 2, 3, 4, 18, 20, 24]) (is := []) rfl rfl (by decide) rfl)
          ·
           refine AtL.noF rfl rfl rfl (by decide) rfl ?_
           refine AtL.noF rfl rfl rfl (by decide) rfl ?_
           refine AtL.noF rfl rfl rfl (by decide) rfl ?_
           refine AtL.pures hT 1 _ _ _ _ rfl ?_
           refine AtL.nil ?_
           exact AtE.then_n ((HK32 _ () _ H).pickP (ts := [185, 0, 1, 2, 3, 4, 18, 20, 24]) (is := []) rfl rfl (by decide) rfl)
      ·
       refine AtC.seqR ?_
       refine AtL.pures hT 3 _ _ _ _ rfl ?_
       refine AtL.nil ?_
       refine AtE.then_n (AtE.go ?_)
       refine AtC.condB H rfl (fun H => ?_) (fun H => ?_)
       ·
        refine AtC.seqR ?_
        refine AtL.pures hT 4 _ _ _ _ rfl ?_
        replace H := H _ rfl
        refine AtL.nil ?_
        refine AtE.then_n (AtE.go ?_)
        refine AtC.region ?_
        refine AtL.pures hT 2 _ _ _ _ rfl ?_
        refine AtL.nil ?_
        exact AtE.then_n ((HK25 _ () _ H).pickP (ts := [20, 21, 0, 1, 2, 3, 4, 18, 19]) (is := []) rfl rfl (by decide) rfl)
       ·
        refine AtC.seqR ?_
        refine AtL.pures hT 2 _ _ _ _ rfl ?_
        refine AtL.nil ?_
        refine AtE.then_n (AtE.go ?_)
        refine AtC.region ?_
        refine AtL.pures hT 2 _ _ _ _ rfl ?_
        refine AtL.nil ?_
        exact AtE.then_n ((HK25 _ () _ H).pickP (ts := [20, 21, 0, 1, 2, 3, 4, 18, 19]) (is := []) rfl rfl (by decide) rfl)
theorem lift_slices_symMergeCmpFunc_int__clause_idle_c1 (data : Sl) (a : Int) (m0 : Int) (b : Int) (cmp_c : Addr) (w : World) (m : Heap) (hr : Rel ⟨m, []⟩ w.heap) (S : Unit → Heap → Prop) (H : slices_symMergeCmpFunc_int__clause_idle_c1 data a m0 b cmp_c m S) :
    Calls Try.prog 85 #[Sl.toV data, Value.int .i64 a, Value.int .i64 m0, Value.int .i64 b, Value.func (.func 59) #[] #[Value.pointer (some cmp_c)]] w (Post ⟨w, m⟩ (fun _ => Value.tuple #[]) S) := by
  obtain ⟨rk, H⟩ := H
  exact lift_slices_symMergeCmpFunc_int__clause_idle_c1uR rk data a m0 b cmp_c w m hr S H
theorem lift_slices_stableCmpFunc_int__clause_idle_c1 (data : Sl) (n : Int) (cmp_c : Addr) (w : World) (m : Heap) (hr : Rel ⟨m, []⟩ w.heap) (S : Unit → Heap → Prop) (H : slices_stableCmpFunc_int__clause_idle_c1 data n cmp_c m S) :
    Calls Try.prog 72 #[Sl.toV data, Value.int .i64 n, Value.func (.func 59) #[] #[Value.pointer (some cmp_c)]] w (Post ⟨w, m⟩ (fun _ => Value.tuple #[]) S) := by
  refine Calls.lift (args := [Sl.toV data, Value.int .i64 n, Value.func (.func 59) #[] #[Value.pointer (some cmp_c)]]) Try.func72 rfl Try.ntmps72 (Nat.le_of_ble_eq_true rfl) hr (slices_stableCmpFunc_int__clause_idle_c1 data n cmp_c m S) H (fun H => ?_)
  refine AtC.pick (ts := [0, 1, 2]) rfl ?_
  unfold slices_stableCmpFunc_int__clause_idle_c1 at H
  refine AtC.seqR ?_
  refine AtL.pures hT 1 _ _ _ _ rfl ?_
  refine AtL.nil ?_
  refine AtE.then_n (AtE.go ?_)
  refine AtC.seqR ?_
  refine AtL.pures hT 3 _ _ _ _ rfl ?_
  refine AtL.nil ?_
  refine AtE.then_n (AtE.go ?_)
  refine AtC.seq ?_
  refine AtC.block ?_
  refine AtC.loopM (fun (s0 : Int × Int) => [(7, Value.int .i64 s0.1), (8, Value.int .i64 s0.2)]) (fun (s0 : Int × Int) => []) [0, 1, 2, 6] [7, 8, 0, 1, 2, 6] [] [] H (by exact rfl) (by exact rfl) (by exact rfl) (by decide) (by exact rfl) (fun Kp1 s0 h0 H Q1 HK1 => ?_)
  refine AtC.seq ?_
  refine AtC.seqR ?_
  refine AtL.pures hT 3 _ _ _ _ rfl ?_
  refine AtL.nil ?_
  refine AtE.then_n (AtE.go ?_)
  refine AtC.condB H rfl (fun H => ?_) (fun H => ?_)
  ·
   refine AtC.skip ?_
   refine AtE.then_n (AtE.go ?_)
   refine AtC.block ?_
   refine AtC.seqR ?_
   refine AtL.pures hT 4 _ _ _ _ rfl ?_
   refine AtL.e rfl (EffX.call (f := 74) (sh := fun h => slices_insertionSortCmpFunc_int__clause_idle_c1 _ _ _ _ h _) (H0 := H) rfl Try.call74 rfl (hl := fun w m hr hw => lift_slices_insertionSortCmpFunc_int__clause_idle_c1 _ _ _ _ w m hr _ hw)) ?_
   rintro _ _ ⟨v, h0u1, rfl, rfl, H⟩
   refine AtL.nil ?_
   refine AtE.then_n (AtE.go ?_)
   refine AtC.seqR ?_
   refine AtL.pures hT 2 _ _ _ _ rfl ?_
   refine AtL.nil ?_
   refine AtE.then_n (AtE.go ?_)
   refine AtC.region ?_
   refine AtL.pures hT 4 _ _ _ _ rfl ?_
   replace H := H _ rfl
   refine AtL.nil ?_
   refine AtE.blk_n ?_
   exact AtE.then_n ((HK1 _ _ H).pickP (ts := [7, 8, 0, 1, 2, 6]) (is := []) rfl rfl (by decide) rfl)
  ·
   refine AtC.exit ?_
   refine AtE.then_x ?_
   refine AtE.then_x ?_
   refine AtE.blk_hit ?_
   refine AtE.then_n (AtE.go ?_)
   refine AtC.seqR ?_
   refine AtL.pures hT 4 _ _ _ _ rfl ?_
   refine AtL.e rfl (EffX.call (f := 74) (sh := fun h => slices_insertionSortCmpFunc_int__clause_idle_c1 _ _ _ _ h _) (H0 := H) rfl Try.call74 rfl (hl := fun w m hr hw => lift_slices_insertionSortCmpFunc_int__clause_idle_c1 _ _ _ _ w m hr _ hw)) ?_
   rintro _ _ ⟨v_1, h0u2, rfl, rfl, H⟩
   refine AtL.nil ?_
   refine AtE.then_n (AtE.go ?_)
   refine AtC.block ?_
   refine AtC.loopM (fun (s0u1 : Int) => [(6, Value.int .i64 s0u1)]) (fun (s0u1 : Int) => []) [0, 1, 2] [6, 0, 1, 2] [] [] H (by exact rfl) (by exact rfl) (by exact rfl) (by decide) (by exact rfl) (fun Kp2 s0u1 h0u3 H Q2 HK2 => ?_)
   refine AtC.seq ?_
   refine AtC.seqR ?_
   refine AtL.pures hT 3 _ _ _ _ rfl ?_
   refine AtL.nil ?_
   refine AtE.then_n (AtE.go ?_)
   refine AtC.condB H rfl (fun H => ?_) (fun H => ?_)
   ·
    refine AtC.skip ?_
    refine AtE.then_n (AtE.go ?_)
    refine AtC.block ?_
    refine AtC.seqR ?_
    refine AtL.pures hT 4 _ _ _ _ rfl ?_
    replace H := H _ rfl
    refine AtL.nil ?_
    refine AtE.then_n (AtE.go ?_)
    refine AtC.seq ?_
    refine AtC.block ?_
    refine AtC.loopM (fun (s0u2 : Int × Int) => [(7, Value.int .i64 s0u2.1), (8, Value.int .i64 s0u2.2)]) (fun (s0u2 : Int × Int) => []) [0, 1, 2, 6] [7, 8, 0, 1, 2, 6] [] [] H (by exact rfl) (by exact rfl) (by exact rfl) (by decide) (by exact rfl) (fun Kp3 s0u2 h0u4 H Q3 HK3 => ?_)
    refine AtC.seq ?_
    refine AtC.seqR ?_
    refine AtL.pures hT 3 _ _ _ _ rfl ?_
    refine AtL.nil ?_
    refine AtE.then_n (AtE.go ?_)
    refine AtC.condB H rfl (fun H => ?_) (fun H => ?_)
    ·
     refine AtC.skip ?_
     refine AtE.then_n (AtE.go ?_)
     refine AtC.block ?_
     refine AtC.seqR ?_
     refine AtL.pures hT 7 _ _ _ _ rfl ?_
     refine AtL.e rfl (EffX.call (f := 85) (sh := fun h => slices_symMergeCmpFunc_int__clause_idle_c1 _ _ _ _ _ h _) (H0 := H) rfl Try.call85 rfl (hl := fun w m hr hw => lift_slices_symMergeCmpFunc_int__clause_idle_c1 _ _ _ _ _ w m hr _ hw)) ?_
     rintro _ _ ⟨v_2, h0u5, rfl, rfl, H⟩
     refine AtL.nil ?_
     refine AtE.then_n (AtE.go ?_)
     refine AtC.seqR ?_
     refine AtL.pures hT 2 _ _ _ _ rfl ?_
     refine AtL.nil ?_
     refine AtE.then_n (AtE.go ?_)
     refine AtC.region ?_
     refine AtL.pures hT 5 _ _ _ _ rfl ?_
     replace H := H _ rfl
     refine AtL.nil ?_
     refine AtE.blk_n ?_
     exact AtE.then_n ((HK3 _ _ H).pickP (ts := [7, 8, 0, 1, 2, 6]) (is := []) rfl rfl (by decide) rfl)
    ·
     refine AtC.exit ?_
     refine AtE.then_x ?_
     refine AtE.then_x ?_
     refine AtE.blk_hit ?_
     refine AtE.then_n (AtE.go ?_)
     refine AtC.joinSeq (β := Unit) (fun (t0 : Unit) (bb : Unit) => []) (fun (t0 : Unit) (bb : Unit) => []) [0, 1, 2, 6] [] H (by exact rfl) (by exact rfl) (fun t0 bb h0u6 H => ?_) (fun J4 H HK4 => ?_)
     ·
      refine AtC.region ?_
      refine AtL.pures hT 3 _ _ _ _ rfl ?_
      replace H := H _ rfl
      refine AtL.nil ?_
      refine AtE.blk_n ?_
      exact AtE.then_n ((HK2 _ _ H).pickP (ts := [6, 0, 1, 2]) (is := []) rfl rfl (by decide) rfl)
     ·
      refine AtC.seqR ?_
      refine AtL.pures hT 4 _ _ _ _ rfl ?_
      replace H := H _ rfl
      refine AtL.nil ?_
      refine AtE.then_n (AtE.go ?_)
      refine AtC.seqR ?_
      refine AtL.pures hT 3 _ _ _ _ rfl ?_
      refine AtL.nil ?_
      refine AtE.then_n (AtE.go ?_)
      refine AtC.condB H rfl (fun H => ?_) (fun H => ?_)
      ·
       refine AtC.region ?_
       refine AtL.pures hT 5 _ _ _ _ rfl ?_
       refine AtL.e rfl (EffX.call (f := 85) (sh := fun h => slices_symMergeCmpFunc_int__clause_idle_c1 _ _ _ _ _ h _) (H0 := H) rfl Try.call85 rfl (hl := fun w m hr hw => lift_slices_symMergeCmpFunc_int__clause_idle_c1 _ _ _ _ _ w m hr _ hw)) ?_
       rintro _ _ ⟨v_3, h0u7, rfl, rfl, H⟩
       refine AtL.nil ?_
       exact AtE.then_n ((HK4 _ () _ H).pickP (ts := [0, 1, 2, 6]) (is := []) rfl rfl (by decide) rfl)
      ·
       refine AtC.skip ?_
       exact AtE.then_n ((HK4 _ () _ H).pickP (ts := [0, 1, 2, 6]) (is := []) rfl rfl (by decide) rfl)
   ·
    refine AtC.exit ?_
    refine AtE.then_x ?_
    refine AtE.then_x ?_
    refine AtE.blk_hit ?_
    exact AtE.endN rfl rfl H
theorem lift_slices_SortStableFunc_int_int__clause_idle_c1 (x0 : Sl) (cmp_c : Addr) (w : World) (m : Heap) (hr : Rel ⟨m, []⟩ w.heap) (S : Unit → Heap → Prop) (H : slices_SortStableFunc_int_int__clause_idle_c1 x0 cmp_c m S) :
    Calls Try.prog 58 #[Sl.toV x0, Value.func (.func 59) #[] #[Value.pointer (some cmp_c)]] w (Post ⟨w, m⟩ (fun _ => Value.tuple #[]) S) := by
  refine Calls.lift (args := [Sl.toV x0, Value.func (.func 59) #[] #[Value.pointer (some cmp_c)]]) Try.func58 rfl Try.ntmps58 (Nat.le_of_ble_eq_true rfl) hr (slices_SortStableFunc_int_int__clause_idle_c1 x0 cmp_c m S) H (fun H => ?_)
  refine AtC.pick (ts := [0, 1]) rfl ?_
  unfold slices_SortStableFunc_int_int__clause_idle_c1 at H
  refine AtC.region ?_
  refine AtL.pures hT 4 _ _ _ _ rfl ?_
  refine AtL.e rfl (EffX.call (f := 72) (sh := fun h => slices_stableCmpFunc_int__clause_idle_c1 _ _ _ h _) (H0 := H) rfl Try.call72 rfl (hl := fun w m hr hw => lift_slices_stableCmpFunc_int__clause_idle_c1 _ _ _ w m hr _ hw)) ?_
  rintro _ _ ⟨v, h0, rfl, rfl, H⟩
  refine AtL.nil ?_
  exact AtE.endN rfl rfl H
theorem lift_clause_idle (s0 : (Option Addr)) (most : Int) (w : World) (m : Heap) (hr : Rel ⟨m, []⟩ w.heap) (S : ((Option Nat)) → Heap → Prop) (H : clause_idle s0 most m S) :
    Calls Try.prog 30 #[Value.pointer s0, Value.int .i64 most] w (Post ⟨w, m⟩ Value.map S) := by
  refine Calls.lift (args := [Value.pointer s0, Value.int .i64 most]) Try.func30 rfl Try.ntmps30 (Nat.le_of_ble_eq_true rfl) hr (clause_idle s0 most m S) H (fun H => ?_)
  refine AtC.pick (ts := [0, 1]) rfl ?_
  unfold clause_idle at H
  refine AtC.seqR ?_
  refine AtL.e rfl (EffX.box (cs := [_]) rfl rfl rfl H) ?_
  rintro _ _ ⟨s0u1, h0, rfl, rfl, H⟩
  refine AtL.pures hT 1 _ _ _ _ rfl ?_
  refine AtL.nil ?_
  refine AtE.then_n (AtE.go ?_)
  refine AtC.seqR ?_
  refine AtL.pures hT 1 _ _ _ _ rfl ?_
  refine AtL.nil ?_
  refine AtE.then_n (AtE.go ?_)
  refine AtC.seq ?_
  refine AtC.seqR ?_
  obtain ⟨v, hc0, H⟩ := H
  refine AtL.q rfl (Quiet1.load hT rfl rfl rfl hc0) ?_
  obtain ⟨a, hc1, H⟩ := H
  refine AtL.q rfl (Quiet1.nilChk rfl rfl hc1) ?_
  refine AtL.pures hT 1 _ _ _ _ rfl ?_
  obtain ⟨v_1, hc2, H⟩ := H
  refine AtL.q rfl (Quiet1.load hT rfl rfl rfl hc2) ?_
  refine AtL.pures hT 2 _ _ _ _ rfl ?_
  refine AtL.nil ?_
  refine AtE.then_n (AtE.go ?_)
  refine AtC.block ?_
  refine AtC.loopM (fun (s0u2 : Sl × Int) => [(5, Sl.toV s0u2.1), (16, Value.int .i64 s0u2.2)]) (fun (s0u2 : Sl × Int) => []) [1, 2, 14, 15] [5, 16, 1, 2, 14, 15] [] [] H (by exact rfl) (by exact rfl) (by exact rfl) (by decide) (by exact rfl) (fun Kp4 s0u2 h0u1 H Q4 HK4 => ?_)
  refine AtC.seqR ?_
  refine AtL.pures hT 1 _ _ _ _ rfl ?_
  refine AtL.nil ?_
  refine AtE.then_n (AtE.go ?_)
  refine AtC.seq ?_
  refine AtC.condB H rfl (fun H => ?_) (fun H => ?_)
  ·
   refine AtC.skip ?_
   refine AtE.then_n (AtE.go ?_)
   refine AtC.joinSeq (β := Unit) (fun (t0 : Sl) (bb : Unit) => [(5, Sl.toV t0)]) (fun (t0 : Sl) (bb : Unit) => []) [1, 2, 14, 15, 16] [] H (by exact rfl) (by exact rfl) (fun t0 bb h0u2 H => ?_) (fun J5 H HK5 => ?_)
   ·
    refine AtC.region ?_
    refine AtL.pures hT 2 _ _ _ _ rfl ?_
    refine AtL.nil ?_
    exact AtE.then_n ((HK4 _ _ H).pickP (ts := [5, 16, 1, 2, 14, 15]) (is := []) rfl rfl (by decide) rfl)
   ·
    refine AtC.block ?_
    refine AtC.seqR ?_
    refine AtL.pures hT 1 _ _ _ _ rfl ?_
    obtain ⟨a_1_, hc5, hd5, H⟩ := H
    refine AtL.q rfl (Quiet1.idxS (s := _) hT rfl rfl rfl rfl rfl hc5 hd5) ?_
    obtain ⟨v_2, hc6, H⟩ := H
    refine AtL.q rfl (Quiet1.loadS hT rfl rfl rfl rfl hc6) ?_
    refine AtL.e rfl (EffX.allocP (cs := [_, _, _]) hT rfl rfl H) ?_
    rintro _ _ ⟨b, _, rfl, rfl, _, H⟩
    replace H := H.self
    refine AtL.pures hT 1 _ _ _ _ rfl ?_
    refine AtL.e rfl (EffX.storeSP (i := 0) (qv := [(_, [_, _, _])]) hT rfl rfl rfl rfl rfl rfl rfl rfl rfl rfl) ?_
    rintro _ _ rfl
    refine AtL.nil ?_
    refine AtE.then_n (AtE.go ?_)
    refine AtC.seqR ?_
    refine AtL.pures hT 1 _ _ _ _ rfl ?_
    refine AtL.q rfl (Quiet1.loadP (i := 0) hT rfl rfl rfl rfl rfl rfl) ?_
    refine AtL.nil ?_
    refine AtE.then_n (AtE.go ?_)
    refine AtC.condB H rfl (fun H => ?_) (fun H => ?_)
    ·
     refine AtC.region ?_
     refine AtL.pures hT 2 _ _ _ _ rfl ?_
     refine AtLX.bs (hT := hT) (cs := [_]) H rfl rfl rfl rfl rfl rfl rfl rfl rfl (fun a_2 h0u4 H => ?_)
     refine AtL.e rfl (EffX.appendS (s := _) (u := _) hT rfl rfl rfl rfl rfl rfl rfl rfl rfl rfl (by decide) H) ?_
     rintro _ _ ⟨v_4, h0u5, rfl, rfl, H⟩
     refine AtL.pures hT 1 _ _ _ _ rfl ?_
     refine AtL.nil ?_
     refine AtE.blk_n ?_
     exact AtE.then_n ((HK5 _ () _ H).pickP (ts := [5, 1, 2, 14, 15, 16]) (is := []) rfl rfl (by decide) rfl)
    ·
     refine AtC.skip ?_
     refine AtE.blk_n ?_
     exact AtE.then_n ((HK5 _ () _ H).pickP (ts := [5, 1, 2, 14, 15, 16]) (is := []) rfl rfl (by decide) rfl)
  ·
   refine AtC.exit ?_
   refine AtE.then_x ?_
   refine AtE.then_x ?_
   refine AtE.blk_hit ?_
   refine AtE.then_n (AtE.go ?_)
   refine AtC.seqR ?_
   refine AtL.e rfl (EffX.newM rfl H) ?_
   rintro _ _ ⟨v_5, h0u6, rfl, rfl, H⟩
   refine AtL.pures hT 1 _ _ _ _ rfl ?_
   refine AtL.nil ?_
   refine AtE.then_n (AtE.go ?_)
   refine AtC.seq ?_
   refine AtC.seqR ?_
   refine AtL.pures hT 3 _ _ _ _ rfl ?_
   replace H := H _ rfl
   refine AtL.nil ?_
   refine AtE.then_n (AtE.go ?_)
   refine AtC.seqR ?_
   refine AtL.pures hT 4 _ _ _ _ rfl ?_
   refine AtL.nil ?_
   refine AtE.then_n (AtE.go ?_)
   refine AtC.condB H rfl (fun H => ?_) (fun H => ?_)
   ·
    refine AtC.seqR ?_
    refine AtL.pures hT 2 _ _ _ _ rfl ?_
    refine AtL.nil ?_
    refine AtE.then_n (AtE.go ?_)
    refine AtC.ret ?_
    refine AtE.then_r ?_
    exact AtE.retN (rs := [.tmp 4]) rfl (ResAll.cons (ResAt.tmp rfl) ResAll.nil) rfl H
   ·
    refine AtC.skip ?_
    refine AtE.then_n (AtE.go ?_)
    refine AtC.seqR ?_
    refine AtL.pures hT 1 _ _ _ _ rfl ?_
    refine AtL.q rfl (Quiet1.makeFn (bs := []) (cs := [_]) rfl rfl rfl) ?_
    refine AtL.e rfl (EffX.call (f := 58) (sh := fun h => slices_SortStableFunc_int_int__clause_idle_c1 _ _ h _) (H0 := H) rfl Try.call58 rfl (hl := fun w m hr hw => lift_slices_SortStableFunc_int_int__clause_idle_c1 _ _ w m hr _ hw)) ?_
    rintro _ _ ⟨v_6, h0u7, rfl, rfl, H⟩
    refine AtL.nil ?_
    refine AtE.then_n (AtE.go ?_)
    refine AtC.seq ?_
    refine AtC.seqR ?_
    refine AtL.pures hT 6 _ _ _ _ rfl ?_
    refine AtL.sl (hT := hT) H rfl rfl rfl rfl rfl rfl rfl (fun h => by cases h <;> rfl) rfl (fun v_7 H => ?_)
    refine AtL.pures hT 2 _ _ _ _ rfl ?_
    refine AtL.nil ?_
    refine AtE.then_n (AtE.go ?_)
    refine AtC.block ?_
    refine AtC.loopM (fun (s0u3 : Int) => [(47, Value.int .i64 s0u3)]) (fun (s0u3 : Int) => []) [8, 45, 46] [47, 8, 45, 46] [] [] H (by exact rfl) (by exact rfl) (by exact rfl) (by decide) (by exact rfl) (fun Kp9 s0u3 h0u8 H Q9 HK9 => ?_)
    refine AtC.seqR ?_
    refine AtL.pures hT 1 _ _ _ _ rfl ?_
    refine AtL.nil ?_
    refine AtE.then_n (AtE.go ?_)
    refine AtC.seq ?_
    refine AtC.condB H rfl (fun H => ?_) (fun H => ?_)
    ·
     refine AtC.skip ?_
     refine AtE.then_n (AtE.go ?_)
     refine AtC.seq ?_
     refine AtC.block ?_
     refine AtC.seqR ?_
     obtain ⟨a_3_, hc9, hd9, H⟩ := H
     refine AtL.q rfl (Quiet1.idxS (s := _) hT rfl rfl rfl rfl rfl hc9 hd9) ?_
     obtain ⟨v_8, hc10, H⟩ := H
     refine AtL.q rfl (Quiet1.load hT rfl rfl rfl hc10) ?_
     refine AtL.pures hT 1 _ _ _ _ rfl ?_
     refine AtL.nil ?_
     refine AtE.then_n (AtE.go ?_)
     refine AtC.region ?_
     refine AtL.pures hT 2 _ _ _ _ rfl ?_
     refine AtL.e rfl (EffX.setM hT rfl rfl rfl rfl rfl rfl H) ?_
     rintro _ _ ⟨h0u9, rfl, H⟩
     refine AtL.nil ?_
     refine AtE.blk_n ?_
     refine AtE.then_n (AtE.go ?_)
     refine AtC.region ?_
     refine AtL.pures hT 2 _ _ _ _ rfl ?_
     refine AtL.nil ?_
     exact AtE.then_n ((HK9 _ _ H).pickP (ts := [47, 8, 45, 46]) (is := []) rfl rfl (by decide) rfl)
    ·
     refine AtC.exit ?_
     refine AtE.then_x ?_
     refine AtE.then_x ?_
     refine AtE.blk_hit ?_
     refine AtE.then_n (AtE.go ?_)
     refine AtC.seqR ?_
     refine AtL.pures hT 2 _ _ _ _ rfl ?_
     refine AtL.nil ?_
     refine AtE.then_n (AtE.go ?_)
     refine AtC.ret ?_
     exact AtE.retN (rs := [.tmp 4]) rfl (ResAll.cons (ResAt.tmp rfl) ResAll.nil) rfl H
theorem lift_clause_Reduce (s0 : (Option Addr)) (most : Int) (w : World) (m : Heap) (hr : Rel ⟨m, []⟩ w.heap) (S : Unit → Heap → Prop) (H : clause_Reduce s0 most m S) :
    Calls Try.prog 9 #[Value.pointer s0, Value.int .i64 most] w (Post ⟨w, m⟩ (fun _ => Value.tuple #[]) S) := by
  refine Calls.lift (args := [Value.pointer s0, Value.int .i64 most]) Try.func9 rfl Try.ntmps9 (Nat.le_of_ble_eq_true rfl) hr (clause_Reduce s0 most m S) H (fun H => ?_)
  refine AtC.pick (ts := [0, 1]) rfl ?_
  unfold clause_Reduce at H
  refine AtC.seqR ?_
  refine AtL.pures hT 2 _ _ _ _ rfl ?_
  refine AtL.e rfl (EffX.call (f := 30) (sh := fun h => clause_idle _ _ h _) (H0 := H) rfl Try.call30 rfl (hl := fun w m hr hw => lift_clause_idle _ _ w m hr _ hw)) ?_
  rintro _ _ ⟨v, h0, rfl, rfl, H⟩
  refine AtL.pures hT 1 _ _ _ _ rfl ?_
  refine AtL.nil ?_
  refine AtE.then_n (AtE.go ?_)
  refine AtC.seq ?_
  refine AtC.joinSeq (β := Unit) (fun (t0 : Bool) (bb : Unit) => [(23, Value.bool t0)]) (fun (t0 : Bool) (bb : Unit) => []) [0, 4] [] H (by exact rfl) (by exact rfl) (fun t0 bb h0u1 H => ?_) (fun J1 H HK1 => ?_)
  ·
   refine AtC.condB H rfl (fun H => ?_) (fun H => ?_)
   ·
    refine AtC.ret ?_
    refine AtE.then_r ?_
    exact AtE.ret0 rfl rfl H
   ·
    refine AtC.skip ?_
    refine AtE.then_n (AtE.go ?_)
    refine AtC.seqR ?_
    refine AtL.pures hT 1 _ _ _ _ rfl ?_
    refine AtL.nil ?_
    refine AtE.then_n (AtE.go ?_)
    refine AtC.seq ?_
    refine AtC.seqR ?_
    refine AtL.pures hT 1 _ _ _ _ rfl ?_
    obtain ⟨a_1, hc4, H⟩ := H
    refine AtL.q rfl (Quiet1.nilChk rfl rfl hc4) ?_
    refine AtL.pures hT 1 _ _ _ _ rfl ?_
    obtain ⟨v_3, hc5, H⟩ := H
    refine AtL.q rfl (Quiet1.load hT rfl rfl rfl hc5) ?_
    refine AtL.pures hT 2 _ _ _ _ rfl ?_
    refine AtL.nil ?_
    refine AtE.then_n (AtE.go ?_)
    refine AtC.block ?_
    refine AtC.loopM (fun (s0u1 : Sl × Int) => [(5, Sl.toV s0u1.1), (29, Value.int .i64 s0u1.2)]) (fun (s0u1 : Sl × Int) => []) [0, 4, 27, 28] [5, 29, 0, 4, 27, 28] [] [] H (by exact rfl) (by exact rfl) (by exact rfl) (by decide) (by exact rfl) (fun Kp7 s0u1 h0u2 H Q7 HK7 => ?_)
    refine AtC.seqR ?_
    refine AtL.pures hT 1 _ _ _ _ rfl ?_
    refine AtL.nil ?_
    refine AtE.then_n (AtE.go ?_)
    refine AtC.seq ?_
    refine AtC.condB H rfl (fun H => ?_) (fun H => ?_)
    ·
     refine AtC.skip ?_
     refine AtE.then_n (AtE.go ?_)
     refine AtC.joinSeq (β := Unit) (fun (t0u1 : Sl) (bb_1 : Unit) => [(5, Sl.toV t0u1)]) (fun (t0u1 : Sl) (bb_1 : Unit) => []) [0, 4, 27, 28, 29] [] H (by exact rfl) (by exact rfl) (fun t0u1 bb_1 h0u3 H => ?_) (fun J8 H HK8 => ?_)
     ·
      refine AtC.region ?_
      refine AtL.pures hT 2 _ _ _ _ rfl ?_
      refine AtL.nil ?_
      exact AtE.then_n ((HK7 _ _ H).pickP (ts := [5, 29, 0, 4, 27, 28]) (is := []) rfl rfl (by decide) rfl)
     ·
      refine AtC.block ?_
      refine AtC.seqR ?_
      refine AtL.pures hT 1 _ _ _ _ rfl ?_
      obtain ⟨a_2_, hc8, hd8, H⟩ := H
      refine AtL.q rfl (Quiet1.idxS (s := _) hT rfl rfl rfl rfl rfl hc8 hd8) ?_
      obtain ⟨v_4, hc9, H⟩ := H
      refine AtL.q rfl (Quiet1.loadS hT rfl rfl rfl rfl hc9) ?_
      refine AtL.e rfl (EffX.allocP (cs := [_, _, _]) hT rfl rfl H) ?_
      rintro _ _ ⟨b, _, rfl, rfl, _, H⟩
      replace H := H.self
      refine AtL.pures hT 1 _ _ _ _ rfl ?_
      refine AtL.e rfl (EffX.storeSP (i := 0) (qv := [(_, [_, _, _])]) hT rfl rfl rfl rfl rfl rfl rfl rfl rfl rfl) ?_
      rintro _ _ rfl
      refine AtL.nil ?_
      refine AtE.then_n (AtE.go ?_)
      refine AtC.seqR ?_
      refine AtL.pures hT 2 _ _ _ _ rfl ?_
      obtain ⟨fm10, v_5, hm10, hn10, H⟩ := H
      refine AtL.q rfl (Quiet1.lookM1 (key := s0u1.2) hT rfl rfl rfl (by kernel_rfl) rfl rfl hm10 hn10) ?_
      refine AtL.pures hT 1 _ _ _ _ rfl ?_
      refine AtL.nil ?_
      refine AtE.then_n (AtE.go ?_)
      refine AtC.condB H rfl (fun H => ?_) (fun H => ?_)
      ·
       refine AtC.region ?_
       refine AtL.pures hT 1 _ _ _ _ rfl ?_
       refine AtL.q rfl (Quiet1.loadSP (i := 0) (l := [_, _, _]) hT rfl rfl rfl rfl rfl rfl rfl rfl) ?_
       refine AtLX.bs (hT := hT) (cs := [_, _, _]) H rfl rfl rfl rfl rfl rfl rfl rfl rfl (fun a_3 h0u5 H => ?_)
       refine AtL.e rfl (EffX.appendS (s := _) (u := _) hT rfl rfl rfl rfl rfl rfl rfl rfl rfl rfl (by decide) H) ?_
       rintro _ _ ⟨v_7, h0u6, rfl, rfl, H⟩
       refine AtL.pures hT 1 _ _ _ _ rfl ?_
       refine AtL.nil ?_
       refine AtE.blk_n ?_
       exact AtE.then_n ((HK8 _ () _ H).pickP (ts := [5, 0, 4, 27, 28, 29]) (is := []) rfl rfl (by decide) rfl)
      ·
       refine AtC.skip ?_
       refine AtE.blk_n ?_
       exact AtE.then_n ((HK8 _ () _ H).pickP (ts := [5, 0, 4, 27, 28, 29]) (is := []) rfl rfl (by decide) rfl)
    ·
     refine AtC.exit ?_
     refine AtE.then_x ?_
     refine AtE.then_x ?_
     refine AtE.blk_hit ?_
     refine AtE.then_n (AtE.go ?_)
     refine AtC.seqR ?_
     refine AtL.pures hT 2 _ _ _ _ rfl ?_
     obtain ⟨a_4, hc11, H⟩ := H
     refine AtL.q rfl (Quiet1.nilChk rfl rfl hc11) ?_
     refine AtL.pures hT 1 _ _ _ _ rfl ?_
     refine AtL.e rfl (EffX.store hT rfl rfl rfl rfl rfl H) ?_
     rintro _ _ ⟨h0u7, rfl, H⟩
     refine AtL.nil ?_
     refine AtE.then_n (AtE.go ?_)
     refine AtC.seqR ?_
     refine AtL.pures hT 1 _ _ _ _ rfl ?_
     obtain ⟨a_5, hc12, H⟩ := H
     refine AtL.q rfl (Quiet1.nilChk rfl rfl hc12) ?_
     refine AtL.pures hT 1 _ _ _ _ rfl ?_
     obtain ⟨v_8, hc13, H⟩ := H
     refine AtL.q rfl (Quiet1.load hT rfl rfl rfl hc13) ?_
     refine AtL.e rfl (EffX.clrS (s := _) hT rfl rfl rfl rfl rfl rfl rfl H) ?_
     rintro _ _ ⟨h0u8, rfl, H⟩
     refine AtL.nil ?_
     refine AtE.then_n (AtE.go ?_)
     refine AtC.seq ?_
     refine AtC.seqR ?_
     refine AtL.pures hT 1 _ _ _ _ rfl ?_
     obtain ⟨a_6, hc14, H⟩ := H
     refine AtL.q rfl (Quiet1.nilChk rfl rfl hc14) ?_
     refine AtL.pures hT 1 _ _ _ _ rfl ?_
     obtain ⟨v_9, hc15, H⟩ := H
     refine AtL.q rfl (Quiet1.load hT rfl rfl rfl hc15) ?_
     refine AtL.pures hT 2 _ _ _ _ rfl ?_
     refine AtL.nil ?_
     refine AtE.then_n (AtE.go ?_)
     refine AtC.block ?_
     refine AtC.loopM (fun (s0u2 : Int) => [(56, Value.int .i64 s0u2)]) (fun (s0u2 : Int) => []) [0, 55] [56, 0, 55] [] [] H (by exact rfl) (by exact rfl) (by exact rfl) (by decide) (by exact rfl) (fun Kp17 s0u2 h0u9 H Q17 HK17 => ?_)
     refine AtC.seqR ?_
     refine AtL.pures hT 1 _ _ _ _ rfl ?_
     refine AtL.nil ?_
     refine AtE.then_n (AtE.go ?_)
     refine AtC.seq ?_
     refine AtC.condB H rfl (fun H => ?_) (fun H => ?_)
     ·
      refine AtC.skip ?_
      refine AtE.then_n (AtE.go ?_)
      refine AtC.seq ?_
      refine AtC.block ?_
      refine AtC.seqR ?_
      refine AtL.pures hT 2 _ _ _ _ rfl ?_
      refine AtL.nil ?_
      refine AtE.then_n (AtE.go ?_)
      refine AtC.region ?_
      refine AtL.pures hT 2 _ _ _ _ rfl ?_
      refine AtL.e rfl (EffX.call (f := 31) (sh := fun h => clause_link _ _ h _) (H0 := H) rfl Try.call31 rfl (hl := fun w m hr hw => lift_clause_link _ _ w m hr _ hw)) ?_
      rintro _ _ ⟨v_10, h0u10, rfl, rfl, H⟩
      refine AtL.nil ?_
      refine AtE.blk_n ?_
      refine AtE.then_n (AtE.go ?_)
      refine AtC.region ?_
      refine AtL.pures hT 2 _ _ _ _ rfl ?_
      refine AtL.nil ?_
      exact AtE.then_n ((HK17 _ _ H).pickP (ts := [56, 0, 55]) (is := []) rfl rfl (by decide) rfl)
     ·
      refine AtC.exit ?_
      refine AtE.then_x ?_
      refine AtE.then_x ?_
      refine AtE.blk_hit ?_
      refine AtE.then_n (AtE.go ?_)
      refine AtC.seqR ?_
      refine AtL.pures hT 1 _ _ _ _ rfl ?_
      obtain ⟨a_7, hc17, H⟩ := H
      refine AtL.q rfl (Quiet1.nilChk rfl rfl hc17) ?_
      refine AtL.pures hT 1 _ _ _ _ rfl ?_
      obtain ⟨v_11, hc18, H⟩ := H
      refine AtL.q rfl (Quiet1.load hT rfl rfl rfl hc18) ?_
      refine AtL.pures hT 2 _ _ _ _ rfl ?_
      refine AtL.nil ?_
      refine AtE.then_n (AtE.go ?_)
      refine AtC.block ?_
      refine AtC.loopM (fun (s0u3 : Int) => [(68, Value.int .i64 s0u3)]) (fun (s0u3 : Int) => []) [0, 67] [68, 0, 67] [] [] H (by exact rfl) (by exact rfl) (by exact rfl) (by decide) (by exact rfl) (fun Kp20 s0u3 h0u11 H Q20 HK20 => ?_)
      refine AtC.seqR ?_
      refine AtL.pures hT 1 _ _ _ _ rfl ?_
      refine AtL.nil ?_
      refine AtE.then_n (AtE.go ?_)
      refine AtC.seq ?_
      refine AtC.condB H rfl (fun H => ?_) (fun H => ?_)
      ·
       refine AtC.skip ?_
       refine AtE.then_n (AtE.go ?_)
       refine AtC.seq ?_
       refine AtC.block ?_
       refine AtC.seqR ?_
       refine AtL.pures hT 2 _ _ _ _ rfl ?_
       refine AtL.nil ?_
       refine AtE.then_n (AtE.go ?_)
       refine AtC.region ?_
       refine AtL.pures hT 1 _ _ _ _ rfl ?_
       obtain ⟨a_8, hc20, H⟩ := H
       refine AtL.q rfl (Quiet1.nilChk rfl rfl hc20) ?_
       refine AtL.pures hT 1 _ _ _ _ rfl ?_
       obtain ⟨v_12, hc21, H⟩ := H
       refine AtL.q rfl (Quiet1.load hT rfl rfl rfl hc21) ?_
       refine AtL.pures hT 1 _ _ _ _ rfl ?_
       obtain ⟨a_9_, hc22, hd22, H⟩ := H
       refine AtL.q rfl (Quiet1.idxS (s := _) hT rfl rfl rfl rfl rfl hc22 hd22) ?_
       refine AtL.e rfl (EffX.store hT rfl rfl rfl rfl rfl H) ?_
       rintro _ _ ⟨h0u12, rfl, H⟩
       refine AtL.nil ?_
       refine AtE.blk_n ?_
       refine AtE.then_n (AtE.go ?_)
       refine AtC.region ?_
       refine AtL.pures hT 2 _ _ _ _ rfl ?_
       refine AtL.nil ?_
       exact AtE.then_n ((HK20 _ _ H).pickP (ts := [68, 0, 67]) (is := []) rfl rfl (by decide) rfl)
      ·
       refine AtC.exit ?_
       refine AtE.then_x ?_
       refine AtE.then_x ?_
       refine AtE.blk_hit ?_
       exact AtE.endN rfl rfl H
  ·
   refine AtC.region ?_
   refine AtL.pures hT 1 _ _ _ _ rfl ?_
   obtain ⟨a, hc1, H⟩ := H
   refine AtL.q rfl (Quiet1.nilChk rfl rfl hc1) ?_
   refine AtL.pures hT 1 _ _ _ _ rfl ?_
   obtain ⟨v_1, hc2, H⟩ := H
   refine AtL.q rfl (Quiet1.load hT rfl rfl rfl hc2) ?_
   refine AtL.pures hT 3 _ _ _ _ rfl ?_
   refine AtL.splitB (t := 19) H rfl (fun H => ?_) (fun H => ?_)
   ·
    refine AtL.noF rfl rfl rfl (by decide) rfl ?_
    refine AtL.noF rfl rfl rfl (by decide) rfl ?_
    refine AtL.noF rfl rfl rfl (by decide) rfl ?_
    refine AtL.pures hT 1 _ _ _ _ rfl ?_
    refine AtL.nil ?_
    exact AtE.then_n ((HK1 _ () _ H).pickP (ts := [23, 0, 4]) (is := []) rfl rfl (by decide) rfl)
   ·
    refine AtL.yes rfl rfl rfl ?_
    refine AtL.pures hT 1 _ _ _ _ rfl ?_
    refine AtL.yes rfl rfl rfl ?_
    obtain ⟨fm3, v_2, hm3, hn3, H⟩ := H
    refine AtL.q rfl (Quiet1.sizeM hT rfl rfl rfl rfl rfl hm3 hn3) ?_
    refine AtL.yes rfl rfl rfl ?_
    refine AtL.pures hT 1 _ _ _ _ rfl ?_
    refine AtL.pures hT 1 _ _ _ _ rfl ?_
    refine AtL.nil ?_
    exact AtE.then_n ((HK1 _ () _ H).pickP (ts := [23, 0, 4]) (is := []) rfl rfl (by decide) rfl)
theorem lift_ref18uSameInts (a : Sl) (b : Sl) (w : World) (m : Heap) (hr : Rel ⟨m, []⟩ w.heap) (S : Bool → Heap → Prop) (H : ref18uSameInts a b m S) :
    Calls Try.prog 10 #[Sl.toV a, Sl.toV b] w (Post ⟨w, m⟩ Value.bool S) := by
  refine Calls.lift (args := [Sl.toV a, Sl.toV b]) Try.func10 rfl Try.ntmps10 (Nat.le_of_ble_eq_true rfl) hr (ref18uSameInts a b m S) H (fun H => ?_)
  refine AtC.pick (ts := [0, 1]) rfl ?_
  unfold ref18uSameInts at H
  refine AtC.seqR ?_
  refine AtL.pures hT 1 _ _ _ _ rfl ?_
  refine AtL.nil ?_
  refine AtE.then_n (AtE.go ?_)
  refine AtC.seq ?_
  refine AtC.seqR ?_
  refine AtL.pures hT 5 _ _ _ _ rfl ?_
  refine AtL.nil ?_
  refine AtE.then_n (AtE.go ?_)
  refine AtC.condB H rfl (fun H => ?_) (fun H => ?_)
  ·
   refine AtC.seqR ?_
   refine AtL.pures hT 1 _ _ _ _ rfl ?_
   refine AtL.nil ?_
   refine AtE.then_n (AtE.go ?_)
   refine AtC.ret ?_
   refine AtE.then_r ?_
   exact AtE.retN (rs := [.tmp 4]) rfl (ResAll.cons (ResAt.tmp rfl) ResAll.nil) rfl H
  ·
   refine AtC.skip ?_
   refine AtE.then_n (AtE.go ?_)
   refine AtC.seq ?_
   refine AtC.seqR ?_
   refine AtL.pures hT 1 _ _ _ _ rfl ?_
   refine AtL.nil ?_
   refine AtE.then_n (AtE.go ?_)
   refine AtC.block ?_
   refine AtC.loopM (fun (s0 : Int) => [(5, Value.int .i64 s0)]) (fun (s0 : Int) => []) [0, 1] [5, 0, 1] [] [] H (by exact rfl) (by exact rfl) (by exact rfl) (by decide) (by exact rfl) (fun Kp1 s0 h0 H Q1 HK1 => ?_)
   refine AtC.seq ?_
   refine AtC.seqR ?_
   refine AtL.pures hT 4 _ _ _ _ rfl ?_
   refine AtL.nil ?_
   refine AtE.then_n (AtE.go ?_)
   refine AtC.condB H rfl (fun H => ?_) (fun H => ?_)
   ·
    refine AtC.skip ?_
    refine AtE.then_n (AtE.go ?_)
    refine AtC.seq ?_
    refine AtC.block ?_
    refine AtC.seqD hmix (by kernel_rfl) ?_
    refine AtD.pures hT 2 _ _ _ _ rfl ?_
    obtain ⟨a_1_, hc1, hd1, H⟩ := H
    refine AtD.q rfl (Quiet1.idxS (s := _) hT rfl rfl rfl rfl rfl hc1 hd1) ?_
    obtain ⟨v, hc2, H⟩ := H
    refine AtD.q rfl (Quiet1.load hT rfl rfl rfl hc2) ?_
    refine AtD.pures hT 2 _ _ _ _ rfl ?_
    obtain ⟨a_2_, hc3, hd3, H⟩ := H
    refine AtD.q rfl (Quiet1.idxS (s := _) hT rfl rfl rfl rfl rfl hc3 hd3) ?_
    obtain ⟨v_1, hc4, H⟩ := H
    refine AtD.q rfl (Quiet1.load hT rfl rfl rfl hc4) ?_
    refine AtD.pures hT 1 _ _ _ _ rfl ?_
    refine AtD.nil ?_
    refine AtE.then_n (AtE.go ?_)
    refine AtC.condB H rfl (fun H => ?_) (fun H => ?_)
    ·
     refine AtC.seqR ?_
     refine AtL.pures hT 1 _ _ _ _ rfl ?_
     refine AtL.nil ?_
     refine AtE.then_n (AtE.go ?_)
     refine AtC.ret ?_
     refine AtE.blk_r ?_
     refine AtE.then_r ?_
     refine AtE.then_r ?_
     refine AtE.blk_r ?_
     refine AtE.then_r ?_
     exact AtE.retN (rs := [.tmp 4]) rfl (ResAll.cons (ResAt.tmp rfl) ResAll.nil) rfl H
    ·
     refine AtC.skip ?_
     refine AtE.blk_n ?_
     refine AtE.then_n (AtE.go ?_)
     refine AtC.region ?_
     refine AtL.pures hT 3 _ _ _ _ rfl ?_
     replace H := H _ rfl
     refine AtL.nil ?_
     exact AtE.then_n ((HK1 _ _ H).pickP (ts := [5, 0, 1]) (is := []) rfl rfl (by decide) rfl)
   ·
    refine AtC.exit ?_
    refine AtE.then_x ?_
    refine AtE.then_x ?_
    refine AtE.blk_hit ?_
    refine AtE.then_n (AtE.go ?_)
    refine AtC.seqR ?_
    refine AtL.pures hT 1 _ _ _ _ rfl ?_
    refine AtL.nil ?_
    refine AtE.then_n (AtE.go ?_)
    refine AtC.ret ?_
    exact AtE.retN (rs := [.tmp 4]) rfl (ResAll.cons (ResAt.tmp rfl) ResAll.nil) rfl H
theorem lift_ref18ucount (l : Sl) (x0 : Int) (w : World) (m : Heap) (hr : Rel ⟨m, []⟩ w.heap) (S : Int → Heap → Prop) (H : ref18ucount l x0 m S) :
    Calls Try.prog 32 #[Sl.toV l, Value.int .i64 x0] w (Post ⟨w, m⟩ (Value.int .i64) S) := by
  refine Calls.lift (args := [Sl.toV l, Value.int .i64 x0]) Try.func32 rfl Try.ntmps32 (Nat.le_of_ble_eq_true rfl) hr (ref18ucount l x0 m S) H (fun H => ?_)
  refine AtC.pick (ts := [0, 1]) rfl ?_
  unfold ref18ucount at H
  refine AtC.seqR ?_
  refine AtL.pures hT 1 _ _ _ _ rfl ?_
  refine AtL.nil ?_
  refine AtE.then_n (AtE.go ?_)
  refine AtC.seqR ?_
  refine AtL.pures hT 1 _ _ _ _ rfl ?_
  refine AtL.nil ?_
  refine AtE.then_n (AtE.go ?_)
  refine AtC.seq ?_
  refine AtC.seqR ?_
  refine AtL.pures hT 1 _ _ _ _ rfl ?_
  refine AtL.nil ?_
  refine AtE.then_n (AtE.go ?_)
  refine AtC.block ?_
  refine AtC.loopM (fun (s0 : Int × Int) => [(5, Value.int .i64 s0.1), (6, Value.int .i64 s0.2)]) (fun (s0 : Int × Int) => []) [0, 1] [5, 6, 0, 1] [] [] H (by exact rfl) (by exact rfl) (by exact rfl) (by decide) (by exact rfl) (fun Kp1 s0 h0 H Q1 HK1 => ?_)
  refine AtC.seq ?_
  refine AtC.seqR ?_
  refine AtL.pures hT 4 _ _ _ _ rfl ?_
  refine AtL.nil ?_
  refine AtE.then_n (AtE.go ?_)
  refine AtC.condB H rfl (fun H => ?_) (fun H => ?_)
  ·
   refine AtC.skip ?_
   refine AtE.then_n (AtE.go ?_)
   refine AtC.joinSeq (β := Unit) (fun (t0 : Int) (bb : Unit) => [(5, Value.int .i64 t0)]) (fun (t0 : Int) (bb : Unit) => []) [0, 1, 6] [] H (by exact rfl) (by exact rfl) (fun t0 bb h0u1 H => ?_) (fun J2 H HK2 => ?_)
   ·
    refine AtC.region ?_
    refine AtL.pures hT 3 _ _ _ _ rfl ?_
    replace H := H _ rfl
    refine AtL.nil ?_
    exact AtE.then_n ((HK1 _ _ H).pickP (ts := [5, 6, 0, 1]) (is := []) rfl rfl (by decide) rfl)
   ·
    refine AtC.block ?_
    refine AtC.seqR ?_
    refine AtL.pures hT 2 _ _ _ _ rfl ?_
    obtain ⟨a_, hc2, hd2, H⟩ := H
    refine AtL.q rfl (Quiet1.idxS (s := _) hT rfl rfl rfl rfl rfl hc2 hd2) ?_
    obtain ⟨v, hc3, H⟩ := H
    refine AtL.q rfl (Quiet1.load hT rfl rfl rfl hc3) ?_
    refine AtL.pures hT 2 _ _ _ _ rfl ?_
    refine AtL.nil ?_
    refine AtE.then_n (AtE.go ?_)
    refine AtC.condB H rfl (fun H => ?_) (fun H => ?_)
    ·
     refine AtC.region ?_
     refine AtL.pures hT 3 _ _ _ _ rfl ?_
     replace H := H _ rfl
     refine AtL.nil ?_
     refine AtE.blk_n ?_
     exact AtE.then_n ((HK2 _ () _ H).pickP (ts := [5, 0, 1, 6]) (is := []) rfl rfl (by decide) rfl)
    ·
     refine AtC.skip ?_
     refine AtE.blk_n ?_
     exact AtE.then_n ((HK2 _ () _ H).pickP (ts := [5, 0, 1, 6]) (is := []) rfl rfl (by decide) rfl)
  ·
   refine AtC.exit ?_
   refine AtE.then_x ?_
   refine AtE.then_x ?_
   refine AtE.blk_hit ?_
   refine AtE.then_n (AtE.go ?_)
   refine AtC.seqR ?_
   refine AtL.pures hT 2 _ _ _ _ rfl ?_
   refine AtL.nil ?_
   refine AtE.then_n (AtE.go ?_)
   refine AtC.ret ?_
   exact AtE.retN (rs := [.tmp 4]) rfl (ResAll.cons (ResAt.tmp rfl) ResAll.nil) rfl H
theorem lift_ref18uSign (lit : Int) (w : World) (m : Heap) (hr : Rel ⟨m, []⟩ w.heap) (S : Int → Heap → Prop) (H : ref18uSign lit m S) :
    Calls Try.prog 24 #[Value.int .i64 lit] w (Post ⟨w, m⟩ (Value.int .i64) S) := by
  refine Calls.lift (args := [Value.int .i64 lit]) Try.func24 rfl Try.ntmps24 (Nat.le_of_ble_eq_true rfl) hr (ref18uSign lit m S) H (fun H => ?_)
  refine AtC.pick (ts := [0]) rfl ?_
  unfold ref18uSign at H
  refine AtC.seqR ?_
  refine AtL.pures hT 1 _ _ _ _ rfl ?_
  refine AtL.nil ?_
  refine AtE.then_n (AtE.go ?_)
  refine AtC.seq ?_
  refine AtC.seqR ?_
  refine AtL.pures hT 2 _ _ _ _ rfl ?_
  refine AtL.nil ?_
  refine AtE.then_n (AtE.go ?_)
  refine AtC.condB H rfl (fun H => ?_) (fun H => ?_)
  ·
   refine AtC.seqR ?_
   refine AtL.pures hT 1 _ _ _ _ rfl ?_
   refine AtL.nil ?_
   refine AtE.then_n (AtE.go ?_)
   refine AtC.ret ?_
   refine AtE.then_r ?_
   exact AtE.retN (rs := [.tmp 2]) rfl (ResAll.cons (ResAt.tmp rfl) ResAll.nil) rfl H
  ·
   refine AtC.skip ?_
   refine AtE.then_n (AtE.go ?_)
   refine AtC.seqR ?_
   refine AtL.pures hT 1 _ _ _ _ rfl ?_
   refine AtL.nil ?_
   refine AtE.then_n (AtE.go ?_)
   refine AtC.ret ?_
   exact AtE.retN (rs := [.tmp 2]) rfl (ResAll.cons (ResAt.tmp rfl) ResAll.nil) rfl H
theorem lift_ref18uValue (value : Sl) (lit : Int) (w : World) (m : Heap) (hr : Rel ⟨m, []⟩ w.heap) (S : Int → Heap → Prop) (H : ref18uValue value lit m S) :
    Calls Try.prog 34 #[Sl.toV value, Value.int .i64 lit] w (Post ⟨w, m⟩ (Value.int .i64) S) := by
  refine Calls.lift (args := [Sl.toV value, Value.int .i64 lit]) Try.func34 rfl Try.ntmps34 (Nat.le_of_ble_eq_true rfl) hr (ref18uValue value lit m S) H (fun H => ?_)
  refine AtC.pick (ts := [0, 1]) rfl ?_
  unfold ref18uValue at H
  refine AtC.seqR ?_
  refine AtL.pures hT 1 _ _ _ _ rfl ?_
  refine AtL.nil ?_
  refine AtE.then_n (AtE.go ?_)
  refine AtC.seq ?_
  refine AtC.seqR ?_
  refine AtL.pures hT 3 _ _ _ _ rfl ?_
  refine AtL.e rfl (EffX.call (f := 33) (sh := fun h => ref18uThere _ _ h _) (H0 := H) rfl Try.call33 rfl (hl := fun w m hr hw => lift_ref18uThere _ _ w m hr _ hw)) ?_
  rintro _ _ ⟨v, h0, rfl, rfl, H⟩
  refine AtL.pures hT 1 _ _ _ _ rfl ?_
  refine AtL.nil ?_
  refine AtE.then_n (AtE.go ?_)
  refine AtC.condB H rfl (fun H => ?_) (fun H => ?_)
  ·
   refine AtC.seqR ?_
   refine AtL.pures hT 1 _ _ _ _ rfl ?_
   refine AtL.nil ?_
   refine AtE.then_n (AtE.go ?_)
   refine AtC.ret ?_
   refine AtE.then_r ?_
   exact AtE.retN (rs := [.tmp 4]) rfl (ResAll.cons (ResAt.tmp rfl) ResAll.nil) rfl H
  ·
   refine AtC.skip ?_
   refine AtE.then_n (AtE.go ?_)
   apply AtC.seqS [2, 6] [[], [], [], [2], [2], [], [2], [2, 6], [2, 6]] [[], [], [1], [0, 1, 2], [0, 1, 2, 3], [], [1, 2, 5], [0, 1, 2, 3, 4, 5, 6], [0, 1, 2, 3, 4, 5, 6, 7]] hmix (by kernel_rfl) [(10, _), (11, _), (15, _)] rfl 2 rfl
   refine Stg.go [0, 1, 5] [2] rfl rfl (QAll.cons (QOp.p hT rfl rfl rfl rfl rfl) (QAll.cons (QOp.p hT rfl rfl rfl rfl rfl) (QAll.cons (QOp.p hT rfl rfl rfl rfl rfl) QAll.nil))) ?_
   refine EAll.cons ?_ EAll.nil
   refine EOp.e rfl rfl rfl (EffX.call (f := 25) (sh := fun h => ref18uTruth _ h _) (H0 := H) rfl Try.call25 rfl (hl := fun w m hr hw => lift_ref18uTruth _ w m hr _ hw)) ?_
   rintro _ _ ⟨v_1, h0u1, rfl, rfl, H⟩
   obtain ⟨a_, hc0, hd0, H⟩ := H
   obtain ⟨v_2, hc1, H⟩ := H
   apply Stg.next [(12, _), (13, _), (14, _)] rfl rfl
   refine Stg.go [0, 3, 4, 5] [6] rfl rfl (QAll.cons (QOp.p hT rfl rfl rfl rfl rfl) (QAll.cons (QOp.q rfl rfl (Quiet1.idxS (s := _) hT rfl rfl rfl rfl rfl hc0 hd0) rfl rfl) (QAll.cons (QOp.q rfl rfl (Quiet1.load hT rfl rfl rfl hc1) rfl rfl) (QAll.cons (QOp.p hT rfl rfl rfl rfl rfl) QAll.nil)))) ?_
   refine EAll.cons ?_ EAll.nil
   refine EOp.e rfl rfl rfl (EffX.call (f := 24) (sh := fun h => ref18uSign _ h _) (H0 := H) rfl Try.call24 rfl (hl := fun w m hr hw => lift_ref18uSign _ w m hr _ hw)) ?_
   rintro _ _ ⟨v_3, h0u2, rfl, rfl, H⟩
   obtain ⟨hc2, H⟩ := H
   apply Stg.next [(16, _), (17, _), (4, _)] rfl rfl
   refine Stg.fin [0, 3, 4, 7, 8] rfl rfl (QAll.cons (QOp.p hT rfl rfl rfl rfl rfl) (QAll.cons (QOp.q rfl rfl (Quiet1.idxS (s := _) hT rfl rfl rfl rfl rfl hc0 hd0) rfl rfl) (QAll.cons (QOp.q rfl rfl (Quiet1.load hT rfl rfl rfl hc2) rfl rfl) (QAll.cons (QOp.p hT rfl rfl rfl rfl rfl) (QAll.cons (QOp.p hT rfl rfl rfl rfl rfl) QAll.nil))))) ?_
   refine AtE.then_n (AtE.go ?_)
   refine AtC.ret ?_
   exact AtE.retN (rs := [.tmp 4]) rfl (ResAll.cons (ResAt.tmp rfl) ResAll.nil) rfl H
end Go.Proofs.Ytkjcocjkcjmafaa

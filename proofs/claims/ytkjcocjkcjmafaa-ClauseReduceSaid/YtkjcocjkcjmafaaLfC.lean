/-
  Laws that the proof of this claim's statement leans on, each proved under the conditions that it states.
-/
import Derived.Test.YtkjcocjkcjmafaaLfB
set_option linter.unusedVariables false
set_option linter.unusedSimpArgs false
namespace Go.Proofs.Ytkjcocjkcjmafaa
open Go Go.Lift Go.Sh
set_option maxRecDepth 100000
set_option maxHeartbeats 40000000
attribute [local irreducible] Calls AtL AtC AtE AtD Eff Quiet1 Stg qAt QAll eAt EAll nextK Code.wp
theorem lift_ref18uRight (s0 : Sl × Sl × Sl × Sl × Sl × Sl × Sl × Int) (w : World) (m : Heap) (hr : Rel ⟨m, []⟩ w.heap) (S : Bool → Heap → Prop) (H : ref18uRight s0 m S) :
    Calls Try.prog 11 #[Value.agg (C_sl_sl_sl_sl_sl_sl_sl_i64 s0).toArray] w (Post ⟨w, m⟩ Value.bool S) := by
  refine Calls.lift (args := [Value.agg (C_sl_sl_sl_sl_sl_sl_sl_i64 s0).toArray]) Try.func11 rfl Try.ntmps11 (Nat.le_of_ble_eq_true rfl) hr (ref18uRight s0 m S) H (fun H => ?_)
  refine AtC.pick (ts := [0]) rfl ?_
  unfold ref18uRight at H
  refine AtC.seqR ?_
  refine AtL.e rfl (EffX.boxP (cs := [_, _, _, _, _, _, _, _]) rfl rfl rfl H) ?_
  rintro _ _ ⟨b, _, rfl, rfl, _, H⟩
  replace H := H.self
  refine AtL.pures hT 1 _ _ _ _ rfl ?_
  refine AtL.nil ?_
  refine AtE.then_n (AtE.go ?_)
  refine AtC.seqR ?_
  refine AtL.pures hT 1 _ _ _ _ rfl ?_
  refine AtL.q rfl (Quiet1.loadP (i := 0) hT rfl rfl rfl rfl rfl rfl) ?_
  refine AtL.pures hT 2 _ _ _ _ rfl ?_
  replace H := H _ rfl
  refine AtL.nil ?_
  refine AtE.then_n (AtE.go ?_)
  refine AtC.seq ?_
  refine AtC.joinSeq (β := Unit) (fun (t0 : Bool) (bb : Unit) => [(57, Value.bool t0)]) (fun (t0 : Bool) (bb : Unit) => []) [1, 3] [0] H (by exact rfl) (by exact rfl) (fun t0 bb h0u1 H => ?_) (fun J1 H HK1 => ?_)
  ·
   refine AtC.condB H rfl (fun H => ?_) (fun H => ?_)
   ·
    refine AtC.seqR ?_
    refine AtL.pures hT 1 _ _ _ _ rfl ?_
    refine AtL.nil ?_
    refine AtE.then_n (AtE.go ?_)
    refine AtC.ret ?_
    refine AtE.then_r ?_
    exact AtE.retN (rs := [.tmp 2]) rfl (ResAll.cons (ResAt.tmp rfl) ResAll.nil) rfl H
   ·
    refine AtC.skip ?_
    refine AtE.then_n (AtE.go ?_)
    refine AtC.seqR ?_
    refine AtL.pures hT 1 _ _ _ _ rfl ?_
    refine AtL.nil ?_
    refine AtE.then_n (AtE.go ?_)
    refine AtC.seq ?_
    refine AtC.seqR ?_
    refine AtL.pures hT 1 _ _ _ _ rfl ?_
    refine AtL.nil ?_
    refine AtE.then_n (AtE.go ?_)
    refine AtC.block ?_
    refine AtC.loopM (fun (s0u1 : Int × Int) => [(4, Value.int .i64 s0u1.1), (5, Value.int .i64 s0u1.2)]) (fun (s0u1 : Int × Int) => []) [1, 3] [4, 5, 1, 3] [0] [0] H (by exact rfl) (by exact rfl) (by exact rfl) (by decide) (by exact rfl) (fun Kp2 s0u1 h0u2 H Q2 HK2 => ?_)
    refine AtC.seq ?_
    refine AtC.seqR ?_
    refine AtL.pures hT 2 _ _ _ _ rfl ?_
    refine AtL.q rfl (Quiet1.loadP (i := 0) hT rfl rfl rfl rfl rfl rfl) ?_
    refine AtL.pures hT 2 _ _ _ _ rfl ?_
    refine AtL.nil ?_
    refine AtE.then_n (AtE.go ?_)
    refine AtC.condB H rfl (fun H => ?_) (fun H => ?_)
    ·
     refine AtC.skip ?_
     refine AtE.then_n (AtE.go ?_)
     refine AtC.seq ?_
     refine AtC.block ?_
     refine AtC.region ?_
     refine AtL.pures hT 2 _ _ _ _ rfl ?_
     refine AtL.q rfl (Quiet1.loadP (i := 0) hT rfl rfl rfl rfl rfl rfl) ?_
     refine AtL.pures hT 1 _ _ _ _ rfl ?_
     obtain ⟨a_, hc2, hd2, H⟩ := H
     refine AtL.q rfl (Quiet1.idxS (s := _) hT rfl rfl rfl rfl rfl hc2 hd2) ?_
     obtain ⟨v, hc3, H⟩ := H
     refine AtL.q rfl (Quiet1.load hT rfl rfl rfl hc3) ?_
     refine AtL.pures hT 3 _ _ _ _ rfl ?_
     replace H := H _ rfl
     refine AtL.nil ?_
     refine AtE.blk_n ?_
     refine AtE.then_n (AtE.go ?_)
     refine AtC.region ?_
     refine AtL.pures hT 3 _ _ _ _ rfl ?_
     replace H := H _ rfl
     refine AtL.nil ?_
     exact AtE.then_n ((HK2 _ _ H).pickP (ts := [4, 5, 1, 3]) (is := [0]) rfl rfl (by decide) rfl)
    ·
     refine AtC.exit ?_
     refine AtE.then_x ?_
     refine AtE.then_x ?_
     refine AtE.blk_hit ?_
     refine AtE.then_n (AtE.go ?_)
     refine AtC.seq ?_
     refine AtC.seqR ?_
     refine AtL.pures hT 2 _ _ _ _ rfl ?_
     refine AtL.q rfl (Quiet1.loadP (i := 0) hT rfl rfl rfl rfl rfl rfl) ?_
     refine AtL.pures hT 3 _ _ _ _ rfl ?_
     refine AtL.nil ?_
     refine AtE.then_n (AtE.go ?_)
     refine AtC.condB H rfl (fun H => ?_) (fun H => ?_)
     ·
      refine AtC.seqR ?_
      refine AtL.pures hT 1 _ _ _ _ rfl ?_
      refine AtL.nil ?_
      refine AtE.then_n (AtE.go ?_)
      refine AtC.ret ?_
      refine AtE.then_r ?_
      exact AtE.retN (rs := [.tmp 2]) rfl (ResAll.cons (ResAt.tmp rfl) ResAll.nil) rfl H
     ·
      refine AtC.skip ?_
      refine AtE.then_n (AtE.go ?_)
      refine AtC.seq ?_
      refine AtC.seqR ?_
      refine AtL.pures hT 1 _ _ _ _ rfl ?_
      refine AtL.nil ?_
      refine AtE.then_n (AtE.go ?_)
      refine AtC.block ?_
      refine AtC.loopM (fun (s0u2 : Int) => [(6, Value.int .i64 s0u2)]) (fun (s0u2 : Int) => []) [1, 3] [6, 1, 3] [0] [0] H (by exact rfl) (by exact rfl) (by exact rfl) (by decide) (by exact rfl) (fun Kp5 s0u2 h0u3 H Q5 HK5 => ?_)
      refine AtC.seq ?_
      refine AtC.seqR ?_
      refine AtL.pures hT 2 _ _ _ _ rfl ?_
      refine AtL.q rfl (Quiet1.loadP (i := 0) hT rfl rfl rfl rfl rfl rfl) ?_
      refine AtL.pures hT 2 _ _ _ _ rfl ?_
      refine AtL.nil ?_
      refine AtE.then_n (AtE.go ?_)
      refine AtC.condB H rfl (fun H => ?_) (fun H => ?_)
      ·
       refine AtC.skip ?_
       refine AtE.then_n (AtE.go ?_)
       refine AtC.seq ?_
       refine AtC.block ?_
       refine AtC.seqR ?_
       refine AtL.pures hT 1 _ _ _ _ rfl ?_
       refine AtL.q rfl (Quiet1.loadP (i := 0) hT rfl rfl rfl rfl rfl rfl) ?_
       refine AtL.pures hT 1 _ _ _ _ rfl ?_
       obtain ⟨a_1_, hc5, hd5, H⟩ := H
       refine AtL.q rfl (Quiet1.idxS (s := _) hT rfl rfl rfl rfl rfl hc5 hd5) ?_
       obtain ⟨v_1, hc6, H⟩ := H
       refine AtL.q rfl (Quiet1.loadS hT rfl rfl rfl rfl hc6) ?_
       refine AtL.e rfl (EffX.allocP (cs := [_, _, _]) hT rfl rfl H) ?_
       rintro _ _ ⟨b_1, _, rfl, rfl, _, H⟩
       replace H := H.self
       refine AtL.e rfl (EffX.storeSP (i := 0) (qv := [(_, [_, _, _]), (_, [_, _, _, _, _, _, _, _])]) hT rfl rfl rfl rfl rfl rfl rfl rfl rfl rfl) ?_
       rintro _ _ rfl
       refine AtL.nil ?_
       refine AtE.then_n (AtE.go ?_)
       refine AtC.seq ?_
       refine AtC.joinSeq (β := Unit) (fun (t0u1 : Bool) (bb_1 : Unit) => [(100, Value.bool t0u1)]) (fun (t0u1 : Bool) (bb_1 : Unit) => []) [1, 3, 6, 7] [0, 1] H (by exact rfl) (by exact rfl) (fun t0u1 bb_1 h0u5 H => ?_) (fun J8 H HK8 => ?_)
       ·
        refine AtC.condB H rfl (fun H => ?_) (fun H => ?_)
        ·
         refine AtC.seqR ?_
         refine AtL.pures hT 1 _ _ _ _ rfl ?_
         refine AtL.nil ?_
         refine AtE.then_n (AtE.go ?_)
         refine AtC.ret ?_
         refine AtE.then_r ?_
         refine AtE.blk_r ?_
         refine AtE.then_r ?_
         refine AtE.then_r ?_
         refine AtE.blk_r ?_
         refine AtE.then_r ?_
         exact AtE.retN (rs := [.tmp 2]) rfl (ResAll.cons (ResAt.tmp rfl) ResAll.nil) rfl H
        ·
         refine AtC.skip ?_
         refine AtE.then_n (AtE.go ?_)
         refine AtC.seqR ?_
         refine AtL.pures hT 1 _ _ _ _ rfl ?_
         refine AtL.nil ?_
         refine AtE.then_n (AtE.go ?_)
         refine AtC.block ?_
         refine AtC.loopM (fun (s0u3 : Int) => [(8, Value.int .i64 s0u3)]) (fun (s0u3 : Int) => []) [1, 3, 6, 7] [8, 1, 3, 6, 7] [0, 1] [0, 1] H (by exact rfl) (by exact rfl) (by exact rfl) (by decide) (by exact rfl) (fun Kp9 s0u3 h0u7 H Q9 HK9 => ?_)
         refine AtC.seq ?_
         refine AtC.seqR ?_
         refine AtL.pures hT 2 _ _ _ _ rfl ?_
         refine AtL.nil ?_
         refine AtE.then_n (AtE.go ?_)
         refine AtC.condB H rfl (fun H => ?_) (fun H => ?_)
         ·
          refine AtC.skip ?_
          refine AtE.then_n (AtE.go ?_)
          refine AtC.seq ?_
          refine AtC.block ?_
          refine AtC.seqR ?_
          refine AtL.pures hT 1 _ _ _ _ rfl ?_
          refine AtL.q rfl (Quiet1.loadP (i := 0) hT rfl rfl rfl rfl rfl rfl) ?_
          refine AtL.pures hT 1 _ _ _ _ rfl ?_
          obtain ⟨a_2_, hc9, hd9, H⟩ := H
          refine AtL.q rfl (Quiet1.idxS (s := _) hT rfl rfl rfl rfl rfl hc9 hd9) ?_
          obtain ⟨v_3, hc10, H⟩ := H
          refine AtL.q rfl (Quiet1.load hT rfl rfl rfl hc10) ?_
          refine AtL.e rfl (EffX.call (f := 25) (sh := fun h => ref18uTruth _ h _) (H0 := H) rfl Try.call25 rfl (hl := fun w m hr hw => lift_ref18uTruth _ w m hr _ hw)) ?_
          rintro _ _ ⟨v_4, h0u8, rfl, rfl, H⟩
          refine AtL.pures hT 2 _ _ _ _ rfl ?_
          replace H := H _ rfl
          refine AtL.nil ?_
          refine AtE.then_n (AtE.go ?_)
          refine AtC.joinSeq (β := Unit) (fun (t0u2 : Int) (bb_2 : Unit) => [(9, Value.int .i64 t0u2)]) (fun (t0u2 : Int) (bb_2 : Unit) => []) [1, 3, 6, 7, 8] [0, 1] H (by exact rfl) (by exact rfl) (fun t0u2 bb_2 h0u9 H => ?_) (fun J12 H HK12 => ?_)
          ·
           refine AtC.seqR ?_
           refine AtL.pures hT 1 _ _ _ _ rfl ?_
           refine AtL.q rfl (Quiet1.loadP (i := 1) hT rfl rfl rfl rfl rfl rfl) ?_
           refine AtL.pures hT 1 _ _ _ _ rfl ?_
           obtain ⟨a_4_, hc14, hd14, H⟩ := H
           refine AtL.q rfl (Quiet1.idxS (s := _) hT rfl rfl rfl rfl rfl hc14 hd14) ?_
           obtain ⟨v_6, hc15, H⟩ := H
           refine AtL.q rfl (Quiet1.load hT rfl rfl rfl hc15) ?_
           refine AtL.pures hT 1 _ _ _ _ rfl ?_
           refine AtL.e rfl (EffX.call (f := 32) (sh := fun h => ref18ucount _ _ h _) (H0 := H) rfl Try.call32 rfl (hl := fun w m hr hw => lift_ref18ucount _ _ w m hr _ hw)) ?_
           rintro _ _ ⟨v_7, h0u10, rfl, rfl, H⟩
           refine AtL.pures hT 1 _ _ _ _ rfl ?_
           refine AtL.nil ?_
           refine AtE.then_n (AtE.go ?_)
           refine AtC.condB H rfl (fun H => ?_) (fun H => ?_)
           ·
            refine AtC.seqR ?_
            refine AtL.pures hT 1 _ _ _ _ rfl ?_
            refine AtL.nil ?_
            refine AtE.then_n (AtE.go ?_)
            refine AtC.ret ?_
            refine AtE.blk_r ?_
            refine AtE.then_r ?_
            refine AtE.then_r ?_
            refine AtE.blk_r ?_
            refine AtE.blk_r ?_
            refine AtE.then_r ?_
            refine AtE.then_r ?_
            refine AtE.blk_r ?_
            refine AtE.then_r ?_
            exact AtE.retN (rs := [.tmp 2]) rfl (ResAll.cons (ResAt.tmp rfl) ResAll.nil) rfl H
           ·
            refine AtC.skip ?_
            refine AtE.blk_n ?_
            refine AtE.then_n (AtE.go ?_)
            refine AtC.region ?_
            refine AtL.pures hT 3 _ _ _ _ rfl ?_
            replace H := H _ rfl
            refine AtL.nil ?_
            exact AtE.then_n ((HK9 _ _ H).pickP (ts := [8, 1, 3, 6, 7]) (is := [0, 1]) rfl rfl (by decide) rfl)
          ·
           refine AtC.seqR ?_
           refine AtL.pures hT 1 _ _ _ _ rfl ?_
           refine AtL.q rfl (Quiet1.loadP (i := 0) hT rfl rfl rfl rfl rfl rfl) ?_
           refine AtL.pures hT 1 _ _ _ _ rfl ?_
           obtain ⟨a_3_, hc12, hd12, H⟩ := H
           refine AtL.q rfl (Quiet1.idxS (s := _) hT rfl rfl rfl rfl rfl hc12 hd12) ?_
           obtain ⟨v_5, hc13, H⟩ := H
           refine AtL.q rfl (Quiet1.load hT rfl rfl rfl hc13) ?_
           refine AtL.pures hT 1 _ _ _ _ rfl ?_
           refine AtL.nil ?_
           refine AtE.then_n (AtE.go ?_)
           refine AtC.condB H rfl (fun H => ?_) (fun H => ?_)
           ·
            refine AtC.region ?_
            refine AtL.pures hT 3 _ _ _ _ rfl ?_
            replace H := H _ rfl
            refine AtL.nil ?_
            exact AtE.then_n ((HK12 _ () _ H).pickP (ts := [9, 1, 3, 6, 7, 8]) (is := [0, 1]) rfl rfl (by decide) rfl)
           ·
            refine AtC.skip ?_
            exact AtE.then_n ((HK12 _ () _ H).pickP (ts := [9, 1, 3, 6, 7, 8]) (is := [0, 1]) rfl rfl (by decide) rfl)
         ·
          refine AtC.exit ?_
          refine AtE.then_x ?_
          refine AtE.then_x ?_
          refine AtE.blk_hit ?_
          refine AtE.blk_n ?_
          refine AtE.then_n (AtE.go ?_)
          refine AtC.region ?_
          refine AtL.pures hT 3 _ _ _ _ rfl ?_
          replace H := H _ rfl
          refine AtL.nil ?_
          exact AtE.then_n ((HK5 _ _ H).pickP (ts := [6, 1, 3]) (is := [1]) rfl rfl (by decide) rfl)
       ·
        refine AtC.region ?_
        refine AtL.pures hT 1 _ _ _ _ rfl ?_
        refine AtL.q rfl (Quiet1.loadP (i := 0) hT rfl rfl rfl rfl rfl rfl) ?_
        refine AtL.pures hT 2 _ _ _ _ rfl ?_
        refine AtL.splitB (t := 94) H rfl (fun H => ?_) (fun H => ?_)
        ·
         refine AtL.noF rfl rfl rfl (by decide) rfl ?_
         refine AtL.noF rfl rfl rfl (by decide) rfl ?_
         refine AtL.noF rfl rfl rfl (by decide) rfl ?_
         refine AtL.noF rfl rfl rfl (by decide) rfl ?_
         refine AtL.noF rfl rfl rfl (by decide) rfl ?_
         refine AtL.pures hT 1 _ _ _ _ rfl ?_
         refine AtL.nil ?_
         exact AtE.then_n ((HK8 _ () _ H).pickP (ts := [100, 1, 3, 6, 7]) (is := [0, 1]) rfl rfl (by decide) rfl)
        ·
         refine AtL.yes rfl rfl rfl ?_
         refine AtL.pures hT 1 _ _ _ _ rfl ?_
         refine AtL.yes rfl rfl rfl ?_
         refine AtL.pures hT 1 _ _ _ _ rfl ?_
         refine AtL.yes rfl rfl rfl ?_
         refine AtL.q rfl (Quiet1.loadP (i := 0) hT rfl rfl rfl rfl rfl rfl) ?_
         refine AtL.yes rfl rfl rfl ?_
         refine AtL.e rfl (EffX.call (f := 29) (sh := fun h => ref18uFits _ _ h _) (H0 := H) rfl Try.call29 rfl (hl := fun w m hr hw => lift_ref18uFits _ _ w m hr _ hw)) ?_
         rintro _ _ ⟨v_2, h0u6, rfl, rfl, H⟩
         refine AtL.yes rfl rfl rfl ?_
         refine AtL.pures hT 1 _ _ _ _ rfl ?_
         refine AtL.pures hT 1 _ _ _ _ rfl ?_
         refine AtL.nil ?_
         exact AtE.then_n ((HK8 _ () _ H).pickP (ts := [100, 1, 3, 6, 7]) (is := [0, 1]) rfl rfl (by decide) rfl)
      ·
       refine AtC.exit ?_
       refine AtE.then_x ?_
       refine AtE.then_x ?_
       refine AtE.blk_hit ?_
       refine AtE.then_n (AtE.go ?_)
       refine AtC.seqR ?_
       refine AtL.pures hT 1 _ _ _ _ rfl ?_
       refine AtL.e rfl (EffX.mkS hT rfl rfl rfl rfl rfl rfl rfl rfl (by decide) H) ?_
       rintro _ _ ⟨v_8, h0u11, rfl, rfl, H⟩
       refine AtL.pures hT 1 _ _ _ _ rfl ?_
       refine AtL.nil ?_
       refine AtE.then_n (AtE.go ?_)
       refine AtC.seq ?_
       refine AtC.seqR ?_
       refine AtL.pures hT 1 _ _ _ _ rfl ?_
       refine AtL.nil ?_
       refine AtE.then_n (AtE.go ?_)
       refine AtC.block ?_
       refine AtC.loopM (fun (s0u4 : Int) => [(11, Value.int .i64 s0u4)]) (fun (s0u4 : Int) => []) [1, 3, 10] [11, 1, 3, 10] [0] [0] H (by exact rfl) (by exact rfl) (by exact rfl) (by decide) (by exact rfl) (fun Kp17 s0u4 h0u12 H Q17 HK17 => ?_)
       refine AtC.seq ?_
       refine AtC.seqR ?_
       refine AtL.pures hT 3 _ _ _ _ rfl ?_
       refine AtL.nil ?_
       refine AtE.then_n (AtE.go ?_)
       refine AtC.condB H rfl (fun H => ?_) (fun H => ?_)
       ·
        refine AtC.skip ?_
        refine AtE.then_n (AtE.go ?_)
        refine AtC.seq ?_
        refine AtC.block ?_
        refine AtC.region ?_
        refine AtL.pures hT 2 _ _ _ _ rfl ?_
        obtain ⟨a_5_, hc17, hd17, H⟩ := H
        refine AtL.q rfl (Quiet1.idxS (s := _) hT rfl rfl rfl rfl rfl hc17 hd17) ?_
        refine AtL.e rfl (EffX.store hT rfl rfl rfl rfl rfl H) ?_
        rintro _ _ ⟨h0u13, rfl, H⟩
        refine AtL.nil ?_
        refine AtE.blk_n ?_
        refine AtE.then_n (AtE.go ?_)
        refine AtC.region ?_
        refine AtL.pures hT 3 _ _ _ _ rfl ?_
        replace H := H _ rfl
        refine AtL.nil ?_
        exact AtE.then_n ((HK17 _ _ H).pickP (ts := [11, 1, 3, 10]) (is := [0]) rfl rfl (by decide) rfl)
       ·
        refine AtC.exit ?_
        refine AtE.then_x ?_
        refine AtE.then_x ?_
        refine AtE.blk_hit ?_
        refine AtE.then_n (AtE.go ?_)
        refine AtC.seq ?_
        refine AtC.seqR ?_
        refine AtL.pures hT 1 _ _ _ _ rfl ?_
        refine AtL.nil ?_
        refine AtE.then_n (AtE.go ?_)
        refine AtC.block ?_
        refine AtC.loopM (fun (s0u5 : Int) => [(12, Value.int .i64 s0u5)]) (fun (s0u5 : Int) => []) [1, 3, 10] [12, 1, 3, 10] [0] [0] H (by exact rfl) (by exact rfl) (by exact rfl) (by decide) (by exact rfl) (fun Kp19 s0u5 h0u14 H Q19 HK19 => ?_)
        refine AtC.seq ?_
        refine AtC.seqR ?_
        refine AtL.pures hT 2 _ _ _ _ rfl ?_
        refine AtL.q rfl (Quiet1.loadP (i := 0) hT rfl rfl rfl rfl rfl rfl) ?_
        refine AtL.pures hT 2 _ _ _ _ rfl ?_
        refine AtL.nil ?_
        refine AtE.then_n (AtE.go ?_)
        refine AtC.condB H rfl (fun H => ?_) (fun H => ?_)
        ·
         refine AtC.skip ?_
         refine AtE.then_n (AtE.go ?_)
         refine AtC.seq ?_
         refine AtC.block ?_
         refine AtC.seqR ?_
         refine AtL.pures hT 1 _ _ _ _ rfl ?_
         refine AtL.q rfl (Quiet1.loadP (i := 0) hT rfl rfl rfl rfl rfl rfl) ?_
         refine AtL.pures hT 1 _ _ _ _ rfl ?_
         obtain ⟨a_6_, hc19, hd19, H⟩ := H
         refine AtL.q rfl (Quiet1.idxS (s := _) hT rfl rfl rfl rfl rfl hc19 hd19) ?_
         obtain ⟨v_10, hc20, H⟩ := H
         refine AtL.q rfl (Quiet1.load hT rfl rfl rfl hc20) ?_
         refine AtL.pures hT 1 _ _ _ _ rfl ?_
         refine AtL.nil ?_
         refine AtE.then_n (AtE.go ?_)
         refine AtC.seq ?_
         refine AtC.joinSeq (β := Unit) (fun (t0u3 : Bool) (bb_3 : Unit) => [(172, Value.bool t0u3)]) (fun (t0u3 : Bool) (bb_3 : Unit) => []) [1, 3, 10, 12, 13] [0] H (by exact rfl) (by exact rfl) (fun t0u3 bb_3 h0u15 H => ?_) (fun J22 H HK22 => ?_)
         ·
          refine AtC.condB H rfl (fun H => ?_) (fun H => ?_)
          ·
           refine AtC.seqR ?_
           refine AtL.pures hT 1 _ _ _ _ rfl ?_
           refine AtL.nil ?_
           refine AtE.then_n (AtE.go ?_)
           refine AtC.ret ?_
           refine AtE.then_r ?_
           refine AtE.blk_r ?_
           refine AtE.then_r ?_
           refine AtE.then_r ?_
           refine AtE.blk_r ?_
           refine AtE.then_r ?_
           exact AtE.retN (rs := [.tmp 2]) rfl (ResAll.cons (ResAt.tmp rfl) ResAll.nil) rfl H
          ·
           refine AtC.skip ?_
           refine AtE.then_n (AtE.go ?_)
           refine AtC.seqR ?_
           refine AtL.pures hT 2 _ _ _ _ rfl ?_
           refine AtL.e rfl (EffX.call (f := 25) (sh := fun h => ref18uTruth _ h _) (H0 := H) rfl Try.call25 rfl (hl := fun w m hr hw => lift_ref18uTruth _ w m hr _ hw)) ?_
           rintro _ _ ⟨v_17, h0u20, rfl, rfl, H⟩
           refine AtL.pures hT 1 _ _ _ _ rfl ?_
           obtain ⟨a_9_, hc29, hd29, H⟩ := H
           refine AtL.q rfl (Quiet1.idxS (s := _) hT rfl rfl rfl rfl rfl hc29 hd29) ?_
           refine AtL.e rfl (EffX.store hT rfl rfl rfl rfl rfl H) ?_
           rintro _ _ ⟨h0u21, rfl, H⟩
           refine AtL.nil ?_
           refine AtE.then_n (AtE.go ?_)
           refine AtC.seqR ?_
           refine AtL.pures hT 1 _ _ _ _ rfl ?_
           refine AtL.nil ?_
           refine AtE.then_n (AtE.go ?_)
           refine AtC.seq ?_
           refine AtC.block ?_
           refine AtC.loopM (fun (s0u6 : Int) => [(14, Value.int .i64 s0u6)]) (fun (s0u6 : Int) => []) [1, 3, 10, 12, 13] [14, 1, 3, 10, 12, 13] [0] [0] H (by exact rfl) (by exact rfl) (by exact rfl) (by decide) (by exact rfl) (fun Kp31 s0u6 h0u22 H Q31 HK31 => ?_)
           refine AtC.seq ?_
           refine AtC.joinSeq (β := Unit) (fun (t0u4 : Bool) (bb_4 : Unit) => [(191, Value.bool t0u4)]) (fun (t0u4 : Bool) (bb_4 : Unit) => []) [1, 3, 10, 12, 13, 14] [0] H (by exact rfl) (by exact rfl) (fun t0u4 bb_4 h0u23 H => ?_) (fun J32 H HK32 => ?_)
           ·
            refine AtC.condB H rfl (fun H => ?_) (fun H => ?_)
            ·
             refine AtC.skip ?_
             refine AtE.then_n (AtE.go ?_)
             refine AtC.block ?_
             refine AtC.region ?_
             refine AtL.pures hT 3 _ _ _ _ rfl ?_
             replace H := H _ rfl
             refine AtL.nil ?_
             refine AtE.blk_n ?_
             exact AtE.then_n ((HK31 _ _ H).pickP (ts := [14, 1, 3, 10, 12, 13]) (is := [0]) rfl rfl (by decide) rfl)
            ·
             refine AtC.exit ?_
             refine AtE.then_x ?_
             refine AtE.then_x ?_
             refine AtE.blk_hit ?_
             refine AtE.then_n (AtE.go ?_)
             apply AtC.seqS [3] [[], [], [], [], [3], [3], [], [3]] [[], [0], [], [2], [0, 1, 2, 3], [0, 1, 2, 3, 4], [], [0, 1, 2, 3, 4, 5, 6]] hmix (by kernel_rfl) [(194, _), (195, _), (196, _), (200, _)] rfl 1 rfl
             refine Stg.go [0, 1, 2, 6] [3] rfl rfl (QAll.cons (QOp.p hT rfl rfl rfl rfl rfl) (QAll.cons (QOp.q rfl rfl (Quiet1.loadP (i := 0) hT rfl rfl rfl rfl rfl rfl) rfl rfl) (QAll.cons (QOp.p hT rfl rfl rfl rfl rfl) (QAll.cons (QOp.p hT rfl rfl rfl rfl rfl) QAll.nil)))) ?_
             refine EAll.cons ?_ EAll.nil
             refine EOp.e rfl rfl rfl (EffX.call (f := 25) (sh := fun h => ref18uTruth _ h _) (H0 := H) rfl Try.call25 rfl (hl := fun w m hr hw => lift_ref18uTruth _ w m hr _ hw)) ?_
             rintro _ _ ⟨v_19, h0u24, rfl, rfl, H⟩
             obtain ⟨a_11_, hc34, hd34, H⟩ := H
             obtain ⟨v_20, hc35, H⟩ := H
             apply Stg.next [(197, _), (198, _), (199, _), (201, _)] rfl rfl
             refine Stg.fin [0, 1, 4, 5, 6, 7] rfl rfl (QAll.cons (QOp.p hT rfl rfl rfl rfl rfl) (QAll.cons (QOp.q rfl rfl (Quiet1.loadP (i := 0) hT rfl rfl rfl rfl rfl rfl) rfl rfl) (QAll.cons (QOp.q rfl rfl (Quiet1.idxS (s := _) hT rfl rfl rfl rfl rfl hc34 hd34) rfl rfl) (QAll.cons (QOp.q rfl rfl (Quiet1.load hT rfl rfl rfl hc35) rfl rfl) (QAll.cons (QOp.p hT rfl rfl rfl rfl rfl) (QAll.cons (QOp.p hT rfl rfl rfl rfl rfl) QAll.nil)))))) ?_
             refine AtE.then_n (AtE.go ?_)
             refine AtC.condB H rfl (fun H => ?_) (fun H => ?_)
             ·
              refine AtC.seqR ?_
              refine AtL.pures hT 1 _ _ _ _ rfl ?_
              refine AtL.nil ?_
              refine AtE.then_n (AtE.go ?_)
              refine AtC.ret ?_
              refine AtE.blk_r ?_
              refine AtE.then_r ?_
              refine AtE.then_r ?_
              refine AtE.blk_r ?_
              refine AtE.then_r ?_
              exact AtE.retN (rs := [.tmp 2]) rfl (ResAll.cons (ResAt.tmp rfl) ResAll.nil) rfl H
             ·
              refine AtC.skip ?_
              refine AtE.blk_n ?_
              refine AtE.then_n (AtE.go ?_)
              refine AtC.region ?_
              refine AtL.pures hT 3 _ _ _ _ rfl ?_
              replace H := H _ rfl
              refine AtL.nil ?_
              exact AtE.then_n ((HK19 _ _ H).pickP (ts := [12, 1, 3, 10]) (is := [0]) rfl rfl (by decide) rfl)
           ·
            refine AtC.region ?_
            refine AtL.pures hT 2 _ _ _ _ rfl ?_
            refine AtL.q rfl (Quiet1.loadP (i := 0) hT rfl rfl rfl rfl rfl rfl) ?_
            refine AtL.pures hT 3 _ _ _ _ rfl ?_
            refine AtL.splitB (t := 183) H rfl (fun H => ?_) (fun H => ?_)
            ·
             refine AtL.yes rfl rfl rfl ?_
             refine AtL.pures hT 1 _ _ _ _ rfl ?_
             refine AtL.yes rfl rfl rfl ?_
             refine AtL.q rfl (Quiet1.loadP (i := 0) hT rfl rfl rfl rfl rfl rfl) ?_
             refine AtL.yes rfl rfl rfl ?_
             refine AtL.pures hT 1 _ _ _ _ rfl ?_
             refine AtL.yes rfl rfl rfl ?_
             obtain ⟨a_10_, hc32, hd32, H⟩ := H
             refine AtL.q rfl (Quiet1.idxS (s := _) hT rfl rfl rfl rfl rfl hc32 hd32) ?_
             refine AtL.yes rfl rfl rfl ?_
             obtain ⟨v_18, hc33, H⟩ := H
             refine AtL.q rfl (Quiet1.load hT rfl rfl rfl hc33) ?_
             refine AtL.yes rfl rfl rfl ?_
             refine AtL.pures hT 1 _ _ _ _ rfl ?_
             refine AtL.yes rfl rfl rfl ?_
             refine AtL.pures hT 1 _ _ _ _ rfl ?_
             refine AtL.pures hT 1 _ _ _ _ rfl ?_
             refine AtL.nil ?_
             exact AtE.then_n ((HK32 _ () _ H).pickP (ts := [191, 1, 3, 10, 12, 13, 14]) (is := [0]) rfl rfl (by decide) rfl)
            ·
             refine AtL.noF rfl rfl rfl (by decide) rfl ?_
             refine AtL.noF rfl rfl rfl (by decide) rfl ?_
             refine AtL.noF rfl rfl rfl (by decide) rfl ?_
             refine AtL.noF rfl rfl rfl (by decide) rfl ?_
             refine AtL.noF rfl rfl rfl (by decide) rfl ?_
             refine AtL.noF rfl rfl rfl (by decide) rfl ?_
             refine AtL.noF rfl rfl rfl (by decide) rfl ?_
             refine AtL.pures hT 1 _ _ _ _ rfl ?_
             refine AtL.nil ?_
             exact AtE.then_n ((HK32 _ () _ H).pickP (ts := [191, 1, 3, 10, 12, 13, 14]) (is := [0]) rfl rfl (by decide) rfl)
         ·
          apply AtC.stages [2, 7, 16, 20] [[], [], [], [2], [2], [2], [2], [2], [2, 7], [2, 7], [2, 7], [2, 7], [2, 7], [2, 7], [2, 7], [2, 7], [2, 7], [2, 7, 16], [2, 7, 16], [2, 7], [2, 7, 16], [2, 7, 16, 20], [2, 7, 16, 20]] [[], [], [0, 1], [0, 1, 2], [0, 1, 2, 3], [0, 1, 2, 3, 4], [0, 1, 2, 3, 4], [0, 1, 2, 3, 4, 6], [0, 1, 2, 3, 4, 5, 6, 7], [0, 1, 2, 3, 4, 5, 6, 7, 8], [0, 1, 2, 3, 4, 5, 6, 7, 8, 9], [0, 1, 2, 3, 4, 5, 6, 7, 8, 9, 10], [0, 1, 2, 3, 4, 5, 6, 7, 8, 9, 10, 11], [0, 1, 2, 3, 4, 5, 6, 7, 8, 9, 10, 11, 12], [0, 1, 2, 3, 4, 5, 6, 7, 8, 9, 10, 11, 12, 13], [0, 1, 2, 3, 4, 5, 6, 7, 8, 9, 10, 11, 12], [0, 1, 2, 3, 4, 5, 6, 7, 8, 9, 10, 11, 12, 15], [0, 1, 2, 3, 4, 5, 6, 7, 8, 9, 10, 11, 12, 13, 14, 15, 16], [0, 1, 2, 3, 4, 5, 6, 7, 8, 9, 10, 11, 12, 13, 14, 15, 16, 17], [0, 1, 2, 3, 4, 5, 6, 7, 8, 9, 10, 11, 12], [0, 1, 2, 3, 4, 5, 6, 7, 8, 9, 10, 11, 12, 15, 16, 19], [0, 1, 2, 3, 4, 5, 6, 7, 8, 9, 10, 11, 12, 13, 14, 15, 16, 17, 18, 19, 20], [0, 1, 2, 3, 4, 5, 6, 7, 8, 9, 10, 11, 12, 13, 14, 15, 16, 17, 18, 19, 20, 21]] hmix (by kernel_rfl) [(150, _), (151, _)] rfl 4 rfl
          refine Stg.go [0, 1] [2] rfl rfl (QAll.cons (QOp.p hT rfl rfl rfl rfl rfl) (QAll.cons (QOp.p hT rfl rfl rfl rfl rfl) QAll.nil)) ?_
          refine EAll.cons ?_ EAll.nil
          refine EOp.e rfl rfl rfl (EffX.call (f := 33) (sh := fun h => ref18uThere _ _ h _) (H0 := H) rfl Try.call33 rfl (hl := fun w m hr hw => lift_ref18uThere _ _ w m hr _ hw)) ?_
          rintro _ _ ⟨v_11, h0u16, rfl, rfl, H⟩
          rcases iteB.cases H with ⟨hb22, H⟩ | ⟨hb22, H⟩
          ·
           apply Stg.next [(152, _), (153, _), (154, _), (155, _), (156, _)] rfl rfl
           refine Stg.known (t := 154) rfl hb22 ?_
           refine Stg.go [3, 4, 5, 6] [7] rfl rfl (QAll.cons (QOp.p hT rfl rfl rfl rfl rfl) (QAll.cons (QOp.pk hT rfl rfl rfl rfl hb22 rfl) (QAll.cons (QOp.no rfl rfl rfl rfl (by decide) rfl rfl) (QAll.cons (QOp.no rfl rfl rfl rfl (by decide) rfl rfl) QAll.nil)))) ?_
           refine EAll.cons ?_ EAll.nil
           refine EOp.no rfl rfl rfl rfl (by decide) rfl ?_
           apply Stg.next [(157, _), (158, _), (159, _), (160, _), (161, _), (162, _), (163, _), (164, _), (165, _), (169, _)] rfl rfl
           refine Stg.go [5, 8, 9, 10, 11, 12, 13, 14, 15, 19] [16] rfl rfl (QAll.cons (QOp.no rfl rfl rfl rfl (by decide) rfl rfl) (QAll.cons (QOp.no rfl rfl rfl rfl (by decide) rfl rfl) (QAll.cons (QOp.no rfl rfl rfl rfl (by decide) rfl rfl) (QAll.cons (QOp.no rfl rfl rfl rfl (by decide) rfl rfl) (QAll.cons (QOp.p hT rfl rfl rfl rfl rfl) (QAll.cons (QOp.p hT rfl rfl rfl rfl rfl) (QAll.cons (QOp.no rfl rfl rfl rfl (by decide) rfl rfl) (QAll.cons (QOp.no rfl rfl rfl rfl (by decide) rfl rfl) (QAll.cons (QOp.no rfl rfl rfl rfl (by decide) rfl rfl) (QAll.cons (QOp.no rfl rfl rfl rfl (by decide) rfl rfl) QAll.nil)))))))))) ?_
           refine EAll.cons ?_ EAll.nil
           refine EOp.no rfl rfl rfl rfl (by decide) rfl ?_
           apply Stg.next [(166, _), (167, _), (168, _)] rfl rfl
           refine Stg.go [13, 14, 17, 18, 19] [20] rfl rfl (QAll.cons (QOp.no rfl rfl rfl rfl (by decide) rfl rfl) (QAll.cons (QOp.no rfl rfl rfl rfl (by decide) rfl rfl) (QAll.cons (QOp.no rfl rfl rfl rfl (by decide) rfl rfl) (QAll.cons (QOp.no rfl rfl rfl rfl (by decide) rfl rfl) (QAll.cons (QOp.no rfl rfl rfl rfl (by decide) rfl rfl) QAll.nil))))) ?_
           refine EAll.cons ?_ EAll.nil
           refine EOp.no rfl rfl rfl rfl (by decide) rfl ?_
           apply Stg.next [(170, _), (171, _), (172, _)] rfl rfl
           refine Stg.fin [13, 14, 17, 18, 21, 22] rfl rfl (QAll.cons (QOp.no rfl rfl rfl rfl (by decide) rfl rfl) (QAll.cons (QOp.no rfl rfl rfl rfl (by decide) rfl rfl) (QAll.cons (QOp.no rfl rfl rfl rfl (by decide) rfl rfl) (QAll.cons (QOp.no rfl rfl rfl rfl (by decide) rfl rfl) (QAll.cons (QOp.no rfl rfl rfl rfl (by decide) rfl rfl) (QAll.cons (QOp.p hT rfl rfl rfl rfl rfl) QAll.nil)))))) ?_
           exact AtE.then_n ((HK22 _ () _ H).pickP (ts := [172, 1, 3, 10, 12, 13]) (is := [0]) rfl rfl (by decide) rfl)
          ·
           apply Stg.next [(152, _), (153, _), (154, _), (155, _), (156, _)] rfl rfl
           refine Stg.known (t := 154) rfl hb22 ?_
           refine Stg.go [3, 4, 5, 6] [7] rfl rfl (QAll.cons (QOp.p hT rfl rfl rfl rfl rfl) (QAll.cons (QOp.pk hT rfl rfl rfl rfl hb22 rfl) (QAll.cons (QOp.yp hT rfl rfl rfl rfl rfl rfl rfl) (QAll.cons (QOp.yp hT rfl rfl rfl rfl rfl rfl rfl) QAll.nil)))) ?_
           refine EAll.cons ?_ EAll.nil
           refine EOp.y rfl rfl rfl rfl rfl (EffX.call (f := 25) (sh := fun h => ref18uTruth _ h _) (H0 := H) rfl Try.call25 rfl (hl := fun w m hr hw => lift_ref18uTruth _ w m hr _ hw)) ?_
           rintro _ _ ⟨v_12, h0u17, rfl, rfl, H⟩
           obtain ⟨a_7_, hc23, hd23, H⟩ := H
           obtain ⟨v_13, hc24, H⟩ := H
           rcases iteB.cases H with ⟨hb25, H⟩ | ⟨hb25, H⟩
           ·
            apply Stg.next [(157, _), (158, _), (159, _), (160, _), (161, _), (162, _), (163, _), (164, _), (165, _), (169, _)] rfl rfl
            refine Stg.known (t := 162) rfl hb25 ?_
            refine Stg.go [5, 8, 9, 10, 11, 12, 13, 14, 15, 19] [16] rfl rfl (QAll.cons (QOp.yp hT rfl rfl rfl rfl rfl rfl rfl) (QAll.cons (QOp.y rfl rfl rfl rfl (Quiet1.idxS (s := _) hT rfl rfl rfl rfl rfl hc23 hd23) rfl rfl) (QAll.cons (QOp.y rfl rfl rfl rfl (Quiet1.load hT rfl rfl rfl hc24) rfl rfl) (QAll.cons (QOp.yp hT rfl rfl rfl rfl rfl rfl rfl) (QAll.cons (QOp.p hT rfl rfl rfl rfl rfl) (QAll.cons (QOp.pk hT rfl rfl rfl rfl hb25 rfl) (QAll.cons (QOp.no rfl rfl rfl rfl (by decide) rfl rfl) (QAll.cons (QOp.no rfl rfl rfl rfl (by decide) rfl rfl) (QAll.cons (QOp.no rfl rfl rfl rfl (by decide) rfl rfl) (QAll.cons (QOp.no rfl rfl rfl rfl (by decide) rfl rfl) QAll.nil)))))))))) ?_
            refine EAll.cons ?_ EAll.nil
            refine EOp.no rfl rfl rfl rfl (by decide) rfl ?_
            apply Stg.next [(166, _), (167, _), (168, _)] rfl rfl
            refine Stg.go [13, 14, 17, 18, 19] [20] rfl rfl (QAll.cons (QOp.no rfl rfl rfl rfl (by decide) rfl rfl) (QAll.cons (QOp.no rfl rfl rfl rfl (by decide) rfl rfl) (QAll.cons (QOp.no rfl rfl rfl rfl (by decide) rfl rfl) (QAll.cons (QOp.no rfl rfl rfl rfl (by decide) rfl rfl) (QAll.cons (QOp.no rfl rfl rfl rfl (by decide) rfl rfl) QAll.nil))))) ?_
            refine EAll.cons ?_ EAll.nil
            refine EOp.no rfl rfl rfl rfl (by decide) rfl ?_
            apply Stg.next [(170, _), (171, _), (172, _)] rfl rfl
            refine Stg.fin [13, 14, 17, 18, 21, 22] rfl rfl (QAll.cons (QOp.no rfl rfl rfl rfl (by decide) rfl rfl) (QAll.cons (QOp.no rfl rfl rfl rfl (by decide) rfl rfl) (QAll.cons (QOp.no rfl rfl rfl rfl (by decide) rfl rfl) (QAll.cons (QOp.no rfl rfl rfl rfl (by decide) rfl rfl) (QAll.cons (QOp.no rfl rfl rfl rfl (by decide) rfl rfl) (QAll.cons (QOp.p hT rfl rfl rfl rfl rfl) QAll.nil)))))) ?_
            exact AtE.then_n ((HK22 _ () _ H).pickP (ts := [172, 1, 3, 10, 12, 13]) (is := [0]) rfl rfl (by decide) rfl)
           ·
            apply Stg.next [(157, _), (158, _), (159, _), (160, _), (161, _), (162, _), (163, _), (164, _), (165, _), (169, _)] rfl rfl
            refine Stg.known (t := 162) rfl hb25 ?_
            refine Stg.go [5, 8, 9, 10, 11, 12, 13, 14, 15, 19] [16] rfl rfl (QAll.cons (QOp.yp hT rfl rfl rfl rfl rfl rfl rfl) (QAll.cons (QOp.y rfl rfl rfl rfl (Quiet1.idxS (s := _) hT rfl rfl rfl rfl rfl hc23 hd23) rfl rfl) (QAll.cons (QOp.y rfl rfl rfl rfl (Quiet1.load hT rfl rfl rfl hc24) rfl rfl) (QAll.cons (QOp.yp hT rfl rfl rfl rfl rfl rfl rfl) (QAll.cons (QOp.p hT rfl rfl rfl rfl rfl) (QAll.cons (QOp.pk hT rfl rfl rfl rfl hb25 rfl) (QAll.cons (QOp.yp hT rfl rfl rfl rfl rfl rfl rfl) (QAll.cons (QOp.y rfl rfl rfl rfl (Quiet1.loadP (i := 0) hT rfl rfl rfl rfl rfl rfl) rfl rfl) (QAll.cons (QOp.yp hT rfl rfl rfl rfl rfl rfl rfl) (QAll.cons (QOp.yp hT rfl rfl rfl rfl rfl rfl rfl) QAll.nil)))))))))) ?_
            refine EAll.cons ?_ EAll.nil
            refine EOp.y rfl rfl rfl rfl rfl (EffX.call (f := 25) (sh := fun h => ref18uTruth _ h _) (H0 := H) rfl Try.call25 rfl (hl := fun w m hr hw => lift_ref18uTruth _ w m hr _ hw)) ?_
            rintro _ _ ⟨v_14, h0u18, rfl, rfl, H⟩
            obtain ⟨a_8_, hc26, hd26, H⟩ := H
            obtain ⟨v_15, hc27, H⟩ := H
            apply Stg.next [(166, _), (167, _), (168, _)] rfl rfl
            refine Stg.go [13, 14, 17, 18, 19] [20] rfl rfl (QAll.cons (QOp.yp hT rfl rfl rfl rfl rfl rfl rfl) (QAll.cons (QOp.y rfl rfl rfl rfl (Quiet1.loadP (i := 0) hT rfl rfl rfl rfl rfl rfl) rfl rfl) (QAll.cons (QOp.y rfl rfl rfl rfl (Quiet1.idxS (s := _) hT rfl rfl rfl rfl rfl hc26 hd26) rfl rfl) (QAll.cons (QOp.y rfl rfl rfl rfl (Quiet1.load hT rfl rfl rfl hc27) rfl rfl) (QAll.cons (QOp.yp hT rfl rfl rfl rfl rfl rfl rfl) QAll.nil))))) ?_
            refine EAll.cons ?_ EAll.nil
            refine EOp.y rfl rfl rfl rfl rfl (EffX.call (f := 24) (sh := fun h => ref18uSign _ h _) (H0 := H) rfl Try.call24 rfl (hl := fun w m hr hw => lift_ref18uSign _ w m hr _ hw)) ?_
            rintro _ _ ⟨v_16, h0u19, rfl, rfl, H⟩
            obtain ⟨hc28, H⟩ := H
            apply Stg.next [(170, _), (171, _), (172, _)] rfl rfl
            refine Stg.fin [13, 14, 17, 18, 21, 22] rfl rfl (QAll.cons (QOp.yp hT rfl rfl rfl rfl rfl rfl rfl) (QAll.cons (QOp.y rfl rfl rfl rfl (Quiet1.loadP (i := 0) hT rfl rfl rfl rfl rfl rfl) rfl rfl) (QAll.cons (QOp.y rfl rfl rfl rfl (Quiet1.idxS (s := _) hT rfl rfl rfl rfl rfl hc26 hd26) rfl rfl) (QAll.cons (QOp.y rfl rfl rfl rfl (Quiet1.load hT rfl rfl rfl hc28) rfl rfl) (QAll.cons (QOp.yp hT rfl rfl rfl rfl rfl rfl rfl) (QAll.cons (QOp.p hT rfl rfl rfl rfl rfl) QAll.nil)))))) ?_
            exact AtE.then_n ((HK22 _ () _ H).pickP (ts := [172, 1, 3, 10, 12, 13]) (is := [0]) rfl rfl (by decide) rfl)
        ·
         refine AtC.exit ?_
         refine AtE.then_x ?_
         refine AtE.then_x ?_
         refine AtE.blk_hit ?_
         refine AtE.then_n (AtE.go ?_)
         refine AtC.seq ?_
         refine AtC.seqR ?_
         refine AtL.pures hT 1 _ _ _ _ rfl ?_
         refine AtL.nil ?_
         refine AtE.then_n (AtE.go ?_)
         refine AtC.block ?_
         refine AtC.loopM (fun (s0u7 : Int) => [(15, Value.int .i64 s0u7)]) (fun (s0u7 : Int) => []) [1, 3, 10] [15, 1, 3, 10] [0] [0] H (by exact rfl) (by exact rfl) (by exact rfl) (by decide) (by exact rfl) (fun Kp37 s0u7 h0u25 H Q37 HK37 => ?_)
         refine AtC.seq ?_
         refine AtC.seqR ?_
         refine AtL.pures hT 2 _ _ _ _ rfl ?_
         refine AtL.q rfl (Quiet1.loadP (i := 0) hT rfl rfl rfl rfl rfl rfl) ?_
         refine AtL.pures hT 2 _ _ _ _ rfl ?_
         refine AtL.nil ?_
         refine AtE.then_n (AtE.go ?_)
         refine AtC.condB H rfl (fun H => ?_) (fun H => ?_)
         ·
          refine AtC.skip ?_
          refine AtE.then_n (AtE.go ?_)
          refine AtC.seq ?_
          refine AtC.block ?_
          refine AtC.seqR ?_
          refine AtL.pures hT 1 _ _ _ _ rfl ?_
          refine AtL.q rfl (Quiet1.loadP (i := 0) hT rfl rfl rfl rfl rfl rfl) ?_
          refine AtL.pures hT 1 _ _ _ _ rfl ?_
          obtain ⟨a_12_, hc37, hd37, H⟩ := H
          refine AtL.q rfl (Quiet1.idxS (s := _) hT rfl rfl rfl rfl rfl hc37 hd37) ?_
          obtain ⟨v_21, hc38, H⟩ := H
          refine AtL.q rfl (Quiet1.load hT rfl rfl rfl hc38) ?_
          refine AtL.pures hT 1 _ _ _ _ rfl ?_
          refine AtL.nil ?_
          refine AtE.then_n (AtE.go ?_)
          refine AtC.joinSeq (β := Unit) (fun (t0u5 : Bool) (bb_5 : Unit) => [(249, Value.bool t0u5)]) (fun (t0u5 : Bool) (bb_5 : Unit) => []) [1, 3, 10, 15] [0] H (by exact rfl) (by exact rfl) (fun t0u5 bb_5 h0u26 H => ?_) (fun J40 H HK40 => ?_)
          ·
           refine AtC.condB H rfl (fun H => ?_) (fun H => ?_)
           ·
            refine AtC.seqR ?_
            refine AtL.pures hT 1 _ _ _ _ rfl ?_
            refine AtL.nil ?_
            refine AtE.then_n (AtE.go ?_)
            refine AtC.ret ?_
            refine AtE.blk_r ?_
            refine AtE.then_r ?_
            refine AtE.then_r ?_
            refine AtE.blk_r ?_
            refine AtE.then_r ?_
            exact AtE.retN (rs := [.tmp 2]) rfl (ResAll.cons (ResAt.tmp rfl) ResAll.nil) rfl H
           ·
            refine AtC.skip ?_
            refine AtE.blk_n ?_
            refine AtE.then_n (AtE.go ?_)
            refine AtC.region ?_
            refine AtL.pures hT 3 _ _ _ _ rfl ?_
            replace H := H _ rfl
            refine AtL.nil ?_
            exact AtE.then_n ((HK37 _ _ H).pickP (ts := [15, 1, 3, 10]) (is := [0]) rfl rfl (by decide) rfl)
          ·
           rcases iteB.cases H with ⟨hb40, H⟩ | ⟨hb40, H⟩
           ·
            apply AtC.stages [31] [[], [], [], [], [], [], [], [], [], [], [], [], [], [], [], [], [], [], [], [], [], [], [], [], [], [], [], [], [], [], [], [], [31], [31], [31], [31]] [[], [0], [0, 1], [0, 1, 2], [0, 1, 2], [0, 1, 2, 4], [0, 1, 2, 4, 5], [0, 1, 2, 3, 4, 5, 6], [0, 1, 2, 3, 4, 5, 6, 7], [0, 1, 2, 3, 4, 5, 6, 7, 8], [0, 1, 2, 3, 4, 5, 6, 7, 8, 9], [0, 1, 2, 3, 4, 5, 6, 7, 8, 9, 10], [0, 1, 2, 3, 4, 5, 6, 7, 8, 9, 10, 11], [0, 1, 2, 3, 4, 5, 6, 7, 8, 9, 10, 11, 12], [0, 1, 2, 3, 4, 5, 6, 7, 8, 9, 10, 11, 12], [0, 1, 2, 3, 4, 5, 6, 7, 8, 9, 10, 11, 12, 14], [0, 1, 2, 3, 4, 5, 6, 7, 8, 9, 10, 11, 12], [0, 1, 2, 3, 4, 5, 6, 7, 8, 9, 10, 11, 12, 16], [0, 1, 2, 3, 4, 5, 6, 7, 8, 9, 10, 11, 12, 14, 15, 16, 17], [0, 1, 2, 3, 4, 5, 6, 7, 8, 9, 10, 11, 12, 14, 15, 16, 17, 18], [0, 1, 2, 3, 4, 5, 6, 7, 8, 9, 10, 11, 12, 13, 14, 15, 16, 17, 18, 19], [0, 1, 2, 3, 4, 5, 6, 7, 8, 9, 10, 11, 12, 13, 14, 15, 16, 17, 18, 19, 20], [0, 1, 2, 3, 4, 5, 6, 7, 8, 9, 10, 11, 12, 13, 14, 15, 16, 17, 18, 19, 20, 21], [0, 1, 2, 3, 4, 5, 6, 7, 8, 9, 10, 11, 12, 13, 14, 15, 16, 17, 18, 19, 20, 21, 22], [0, 1, 2, 3, 4, 5, 6, 7, 8, 9, 10, 11, 12, 13, 14, 15, 16, 17, 18, 19, 20, 21, 22, 23], [0, 1, 2, 3, 4, 5, 6, 7, 8, 9, 10, 11, 12, 13, 14, 15, 16, 17, 18, 19, 20, 21, 22, 23, 24], [0, 1, 2, 3, 4, 5, 6, 7, 8, 9, 10, 11, 12, 13, 14, 15, 16, 17, 18, 19, 20, 21, 22, 23], [0, 1, 2, 3, 4, 5, 6, 7, 8, 9, 10, 11, 12, 13, 14, 15, 16, 17, 18, 19, 20, 21, 22, 23, 26], [0, 1, 2, 3, 4, 5, 6, 7, 8, 9, 10, 11, 12, 13, 14, 15, 16, 17, 18, 19, 20, 21, 22, 23], [0, 1, 2, 3, 4, 5, 6, 7, 8, 9, 10, 11, 12, 13, 14, 15, 16, 17, 18, 19, 20, 21, 22, 23, 26, 27, 28], [0, 1, 2, 3, 4, 5, 6, 7, 8, 9, 10, 11, 12, 13, 14, 15, 16, 17, 18, 19, 20, 21, 22, 23, 26, 27, 28, 29], [0, 1, 2, 3, 4, 5, 6, 7, 8, 9, 10, 11, 12, 13, 14, 15, 16, 17, 18, 19, 20, 21, 22, 23, 26, 27, 28, 29, 30], [0, 1, 2, 3, 4, 5, 6, 7, 8, 9, 10, 11, 12, 13, 14, 15, 16, 17, 18, 19, 20, 21, 22, 23, 24, 25, 26, 27, 28, 29, 30, 31], [0, 1, 2, 3, 4, 5, 6, 7, 8, 9, 10, 11, 12, 13, 14, 15, 16, 17, 18, 19, 20, 21, 22, 23, 24, 25, 26, 27, 28, 29, 30, 31, 32], [0, 1, 2, 3, 4, 5, 6, 7, 8, 9, 10, 11, 12, 13, 14, 15, 16, 17, 18, 19, 20, 21, 22, 23, 24, 25, 26, 27, 28, 29, 30, 31, 32, 33], [0, 1, 2, 3, 4, 5, 6, 7, 8, 9, 10, 11, 12, 13, 14, 15, 16, 17, 18, 19, 20, 21, 22, 23, 24, 25, 26, 27, 28, 29, 30, 31, 32, 33, 34]] hmix (by kernel_rfl) [(214, _), (215, _), (216, _), (217, _), (218, _), (219, _), (220, _), (221, _), (222, _), (223, _), (224, _), (225, _), (226, _), (227, _), (228, _), (229, _), (230, _), (231, _), (232, _), (233, _), (234, _), (235, _), (236, _), (237, _), (238, _), (239, _), (240, _), (241, _), (242, _), (243, _), (244, _)] rfl 1 rfl
            refine Stg.known (t := 216) rfl hb40 ?_
            refine Stg.go [0, 1, 2, 3, 4, 5, 6, 7, 8, 9, 10, 11, 12, 13, 14, 15, 16, 17, 18, 19, 20, 21, 22, 23, 24, 25, 26, 27, 28, 29, 30] [31] rfl rfl (QAll.cons (QOp.p hT rfl rfl rfl rfl rfl) (QAll.cons (QOp.p hT rfl rfl rfl rfl rfl) (QAll.cons (QOp.pk hT rfl rfl rfl rfl hb40 rfl) (QAll.cons (QOp.no rfl rfl rfl rfl (by decide) rfl rfl) (QAll.cons (QOp.no rfl rfl rfl rfl (by decide) rfl rfl) (QAll.cons (QOp.no rfl rfl rfl rfl (by decide) rfl rfl) (QAll.cons (QOp.no rfl rfl rfl rfl (by decide) rfl rfl) (QAll.cons (QOp.no rfl rfl rfl rfl (by decide) rfl rfl) (QAll.cons (QOp.p hT rfl rfl rfl rfl rfl) (QAll.cons (QOp.p hT rfl rfl rfl rfl rfl) (QAll.cons (QOp.no rfl rfl rfl rfl (by decide) rfl rfl) (QAll.cons (QOp.no rfl rfl rfl rfl (by decide) rfl rfl) (QAll.cons (QOp.no rfl rfl rfl rfl (by decide) rfl rfl) (QAll.cons (QOp.u rfl rfl rfl rfl rfl rfl) (QAll.cons (QOp.u rfl rfl rfl rfl rfl rfl) (QAll.cons (QOp.u rfl rfl rfl rfl rfl rfl) (QAll.cons (QOp.u rfl rfl rfl rfl rfl rfl) (QAll.cons (QOp.u rfl rfl rfl rfl rfl rfl) (QAll.cons (QOp.u rfl rfl rfl rfl rfl rfl) (QAll.cons (QOp.u rfl rfl rfl rfl rfl rfl) (QAll.cons (QOp.u rfl rfl rfl rfl rfl rfl) (QAll.cons (QOp.no rfl rfl rfl rfl (by decide) rfl rfl) (QAll.cons (QOp.p hT rfl rfl rfl rfl rfl) (QAll.cons (QOp.p hT rfl rfl rfl rfl rfl) (QAll.cons (QOp.no rfl rfl rfl rfl (by decide) rfl rfl) (QAll.cons (QOp.no rfl rfl rfl rfl (by decide) rfl rfl) (QAll.cons (QOp.no rfl rfl rfl rfl (by decide) rfl rfl) (QAll.cons (QOp.no rfl rfl rfl rfl (by decide) rfl rfl) (QAll.cons (QOp.no rfl rfl rfl rfl (by decide) rfl rfl) (QAll.cons (QOp.no rfl rfl rfl rfl (by decide) rfl rfl) (QAll.cons (QOp.no rfl rfl rfl rfl (by decide) rfl rfl) QAll.nil))))))))))))))))))))))))))))))) ?_
            refine EAll.cons ?_ EAll.nil
            refine EOp.no rfl rfl rfl rfl (by decide) rfl ?_
            apply Stg.next [(245, _), (246, _), (247, _), (248, _), (249, _)] rfl rfl
            refine Stg.fin [24, 25, 32, 33, 34, 35] rfl rfl (QAll.cons (QOp.no rfl rfl rfl rfl (by decide) rfl rfl) (QAll.cons (QOp.no rfl rfl rfl rfl (by decide) rfl rfl) (QAll.cons (QOp.no rfl rfl rfl rfl (by decide) rfl rfl) (QAll.cons (QOp.no rfl rfl rfl rfl (by decide) rfl rfl) (QAll.cons (QOp.no rfl rfl rfl rfl (by decide) rfl rfl) (QAll.cons (QOp.p hT rfl rfl rfl rfl rfl) QAll.nil)))))) ?_
            exact AtE.then_n ((HK40 _ () _ H).pickP (ts := [249, 1, 3, 10, 15]) (is := [0]) rfl rfl (by decide) rfl)
           ·
            rcases iteB.cases H with ⟨hb41, H⟩ | ⟨hb41, H⟩
            ·
             apply AtC.stages [31] [[], [], [], [], [], [], [], [], [], [], [], [], [], [], [], [], [], [], [], [], [], [], [], [], [], [], [], [], [], [], [], [], [31], [31], [31], [31]] [[], [0], [0, 1], [0, 1, 2], [0, 1, 2], [0, 1, 2, 4], [0, 1, 2, 4, 5], [0, 1, 2, 3, 4, 5, 6], [0, 1, 2, 3, 4, 5, 6, 7], [0, 1, 2, 3, 4, 5, 6, 7, 8], [0, 1, 2, 3, 4, 5, 6, 7, 8, 9], [0, 1, 2, 3, 4, 5, 6, 7, 8, 9, 10], [0, 1, 2, 3, 4, 5, 6, 7, 8, 9, 10, 11], [0, 1, 2, 3, 4, 5, 6, 7, 8, 9, 10, 11, 12], [0, 1, 2, 3, 4, 5, 6, 7, 8, 9, 10, 11, 12], [0, 1, 2, 3, 4, 5, 6, 7, 8, 9, 10, 11, 12, 14], [0, 1, 2, 3, 4, 5, 6, 7, 8, 9, 10, 11, 12], [0, 1, 2, 3, 4, 5, 6, 7, 8, 9, 10, 11, 12, 16], [0, 1, 2, 3, 4, 5, 6, 7, 8, 9, 10, 11, 12, 14, 15, 16, 17], [0, 1, 2, 3, 4, 5, 6, 7, 8, 9, 10, 11, 12, 14, 15, 16, 17, 18], [0, 1, 2, 3, 4, 5, 6, 7, 8, 9, 10, 11, 12, 13, 14, 15, 16, 17, 18, 19], [0, 1, 2, 3, 4, 5, 6, 7, 8, 9, 10, 11, 12, 13, 14, 15, 16, 17, 18, 19, 20], [0, 1, 2, 3, 4, 5, 6, 7, 8, 9, 10, 11, 12, 13, 14, 15, 16, 17, 18, 19, 20, 21], [0, 1, 2, 3, 4, 5, 6, 7, 8, 9, 10, 11, 12, 13, 14, 15, 16, 17, 18, 19, 20, 21, 22], [0, 1, 2, 3, 4, 5, 6, 7, 8, 9, 10, 11, 12, 13, 14, 15, 16, 17, 18, 19, 20, 21, 22, 23], [0, 1, 2, 3, 4, 5, 6, 7, 8, 9, 10, 11, 12, 13, 14, 15, 16, 17, 18, 19, 20, 21, 22, 23, 24], [0, 1, 2, 3, 4, 5, 6, 7, 8, 9, 10, 11, 12, 13, 14, 15, 16, 17, 18, 19, 20, 21, 22, 23], [0, 1, 2, 3, 4, 5, 6, 7, 8, 9, 10, 11, 12, 13, 14, 15, 16, 17, 18, 19, 20, 21, 22, 23, 26], [0, 1, 2, 3, 4, 5, 6, 7, 8, 9, 10, 11, 12, 13, 14, 15, 16, 17, 18, 19, 20, 21, 22, 23], [0, 1, 2, 3, 4, 5, 6, 7, 8, 9, 10, 11, 12, 13, 14, 15, 16, 17, 18, 19, 20, 21, 22, 23, 26, 27, 28], [0, 1, 2, 3, 4, 5, 6, 7, 8, 9, 10, 11, 12, 13, 14, 15, 16, 17, 18, 19, 20, 21, 22, 23, 26, 27, 28, 29], [0, 1, 2, 3, 4, 5, 6, 7, 8, 9, 10, 11, 12, 13, 14, 15, 16, 17, 18, 19, 20, 21, 22, 23, 26, 27, 28, 29, 30], [0, 1, 2, 3, 4, 5, 6, 7, 8, 9, 10, 11, 12, 13, 14, 15, 16, 17, 18, 19, 20, 21, 22, 23, 24, 25, 26, 27, 28, 29, 30, 31], [0, 1, 2, 3, 4, 5, 6, 7, 8, 9, 10, 11, 12, 13, 14, 15, 16, 17, 18, 19, 20, 21, 22, 23, 24, 25, 26, 27, 28, 29, 30, 31, 32], [0, 1, 2, 3, 4, 5, 6, 7, 8, 9, 10, 11, 12, 13, 14, 15, 16, 17, 18, 19, 20, 21, 22, 23, 24, 25, 26, 27, 28, 29, 30, 31, 32, 33], [0, 1, 2, 3, 4, 5, 6, 7, 8, 9, 10, 11, 12, 13, 14, 15, 16, 17, 18, 19, 20, 21, 22, 23, 24, 25, 26, 27, 28, 29, 30, 31, 32, 33, 34]] hmix (by kernel_rfl) [(214, _), (215, _), (216, _), (217, _), (218, _), (219, _), (220, _), (221, _), (222, _), (223, _), (224, _), (225, _), (226, _), (227, _), (228, _), (229, _), (230, _), (231, _), (232, _), (233, _), (234, _), (235, _), (236, _), (237, _), (238, _), (239, _), (240, _), (241, _), (242, _), (243, _), (244, _)] rfl 1 rfl
             refine Stg.known (t := 216) rfl hb40 ?_
             refine Stg.known (t := 223) rfl hb41 ?_
             refine Stg.go [0, 1, 2, 3, 4, 5, 6, 7, 8, 9, 10, 11, 12, 13, 14, 15, 16, 17, 18, 19, 20, 21, 22, 23, 24, 25, 26, 27, 28, 29, 30] [31] rfl rfl (QAll.cons (QOp.p hT rfl rfl rfl rfl rfl) (QAll.cons (QOp.p hT rfl rfl rfl rfl rfl) (QAll.cons (QOp.pk hT rfl rfl rfl rfl hb40 rfl) (QAll.cons (QOp.yp hT rfl rfl rfl rfl rfl rfl rfl) (QAll.cons (QOp.yp hT rfl rfl rfl rfl rfl rfl rfl) (QAll.cons (QOp.y rfl rfl rfl rfl (Quiet1.loadP (i := 0) hT rfl rfl rfl rfl rfl rfl) rfl rfl) (QAll.cons (QOp.yp hT rfl rfl rfl rfl rfl rfl rfl) (QAll.cons (QOp.yp hT rfl rfl rfl rfl rfl rfl rfl) (QAll.cons (QOp.p hT rfl rfl rfl rfl rfl) (QAll.cons (QOp.pk hT rfl rfl rfl rfl hb41 rfl) (QAll.cons (QOp.no rfl rfl rfl rfl (by decide) rfl rfl) (QAll.cons (QOp.no rfl rfl rfl rfl (by decide) rfl rfl) (QAll.cons (QOp.no rfl rfl rfl rfl (by decide) rfl rfl) (QAll.cons (QOp.u rfl rfl rfl rfl rfl rfl) (QAll.cons (QOp.u rfl rfl rfl rfl rfl rfl) (QAll.cons (QOp.u rfl rfl rfl rfl rfl rfl) (QAll.cons (QOp.u rfl rfl rfl rfl rfl rfl) (QAll.cons (QOp.u rfl rfl rfl rfl rfl rfl) (QAll.cons (QOp.u rfl rfl rfl rfl rfl rfl) (QAll.cons (QOp.u rfl rfl rfl rfl rfl rfl) (QAll.cons (QOp.u rfl rfl rfl rfl rfl rfl) (QAll.cons (QOp.no rfl rfl rfl rfl (by decide) rfl rfl) (QAll.cons (QOp.p hT rfl rfl rfl rfl rfl) (QAll.cons (QOp.p hT rfl rfl rfl rfl rfl) (QAll.cons (QOp.no rfl rfl rfl rfl (by decide) rfl rfl) (QAll.cons (QOp.no rfl rfl rfl rfl (by decide) rfl rfl) (QAll.cons (QOp.no rfl rfl rfl rfl (by decide) rfl rfl) (QAll.cons (QOp.no rfl rfl rfl rfl (by decide) rfl rfl) (QAll.cons (QOp.no rfl rfl rfl rfl (by decide) rfl rfl) (QAll.cons (QOp.no rfl rfl rfl rfl (by decide) rfl rfl) (QAll.cons (QOp.no rfl rfl rfl rfl (by decide) rfl rfl) QAll.nil))))))))))))))))))))))))))))))) ?_
             refine EAll.cons ?_ EAll.nil
             refine EOp.no rfl rfl rfl rfl (by decide) rfl ?_
             apply Stg.next [(245, _), (246, _), (247, _), (248, _), (249, _)] rfl rfl
             refine Stg.fin [24, 25, 32, 33, 34, 35] rfl rfl (QAll.cons (QOp.no rfl rfl rfl rfl (by decide) rfl rfl) (QAll.cons (QOp.no rfl rfl rfl rfl (by decide) rfl rfl) (QAll.cons (QOp.no rfl rfl rfl rfl (by decide) rfl rfl) (QAll.cons (QOp.no rfl rfl rfl rfl (by decide) rfl rfl) (QAll.cons (QOp.no rfl rfl rfl rfl (by decide) rfl rfl) (QAll.cons (QOp.p hT rfl rfl rfl rfl rfl) QAll.nil)))))) ?_
             exact AtE.then_n ((HK40 _ () _ H).pickP (ts := [249, 1, 3, 10, 15]) (is := [0]) rfl rfl (by decide) rfl)
            ·
             rcases iteB.cases H with ⟨hb42, H⟩ | ⟨hb42, H⟩
             ·
              obtain ⟨a_13_, hc43, hd43, H⟩ := H
              obtain ⟨v_22, hc44, H⟩ := H
              rcases iteB.cases H with ⟨hb45, H⟩ | ⟨hb45, H⟩
              ·
               apply AtC.stages [31] [[], [], [], [], [], [], [], [], [], [], [], [], [], [], [], [], [], [], [], [], [], [], [], [], [], [], [], [], [], [], [], [], [31], [31], [31], [31]] [[], [0], [0, 1], [0, 1, 2], [0, 1, 2], [0, 1, 2, 4], [0, 1, 2, 4, 5], [0, 1, 2, 3, 4, 5, 6], [0, 1, 2, 3, 4, 5, 6, 7], [0, 1, 2, 3, 4, 5, 6, 7, 8], [0, 1, 2, 3, 4, 5, 6, 7, 8, 9], [0, 1, 2, 3, 4, 5, 6, 7, 8, 9, 10], [0, 1, 2, 3, 4, 5, 6, 7, 8, 9, 10, 11], [0, 1, 2, 3, 4, 5, 6, 7, 8, 9, 10, 11, 12], [0, 1, 2, 3, 4, 5, 6, 7, 8, 9, 10, 11, 12], [0, 1, 2, 3, 4, 5, 6, 7, 8, 9, 10, 11, 12, 14], [0, 1, 2, 3, 4, 5, 6, 7, 8, 9, 10, 11, 12], [0, 1, 2, 3, 4, 5, 6, 7, 8, 9, 10, 11, 12, 16], [0, 1, 2, 3, 4, 5, 6, 7, 8, 9, 10, 11, 12, 14, 15, 16, 17], [0, 1, 2, 3, 4, 5, 6, 7, 8, 9, 10, 11, 12, 14, 15, 16, 17, 18], [0, 1, 2, 3, 4, 5, 6, 7, 8, 9, 10, 11, 12, 13, 14, 15, 16, 17, 18, 19], [0, 1, 2, 3, 4, 5, 6, 7, 8, 9, 10, 11, 12, 13, 14, 15, 16, 17, 18, 19, 20], [0, 1, 2, 3, 4, 5, 6, 7, 8, 9, 10, 11, 12, 13, 14, 15, 16, 17, 18, 19, 20, 21], [0, 1, 2, 3, 4, 5, 6, 7, 8, 9, 10, 11, 12, 13, 14, 15, 16, 17, 18, 19, 20, 21, 22], [0, 1, 2, 3, 4, 5, 6, 7, 8, 9, 10, 11, 12, 13, 14, 15, 16, 17, 18, 19, 20, 21, 22, 23], [0, 1, 2, 3, 4, 5, 6, 7, 8, 9, 10, 11, 12, 13, 14, 15, 16, 17, 18, 19, 20, 21, 22, 23, 24], [0, 1, 2, 3, 4, 5, 6, 7, 8, 9, 10, 11, 12, 13, 14, 15, 16, 17, 18, 19, 20, 21, 22, 23], [0, 1, 2, 3, 4, 5, 6, 7, 8, 9, 10, 11, 12, 13, 14, 15, 16, 17, 18, 19, 20, 21, 22, 23, 26], [0, 1, 2, 3, 4, 5, 6, 7, 8, 9, 10, 11, 12, 13, 14, 15, 16, 17, 18, 19, 20, 21, 22, 23], [0, 1, 2, 3, 4, 5, 6, 7, 8, 9, 10, 11, 12, 13, 14, 15, 16, 17, 18, 19, 20, 21, 22, 23, 26, 27, 28], [0, 1, 2, 3, 4, 5, 6, 7, 8, 9, 10, 11, 12, 13, 14, 15, 16, 17, 18, 19, 20, 21, 22, 23, 26, 27, 28, 29], [0, 1, 2, 3, 4, 5, 6, 7, 8, 9, 10, 11, 12, 13, 14, 15, 16, 17, 18, 19, 20, 21, 22, 23, 26, 27, 28, 29, 30], [0, 1, 2, 3, 4, 5, 6, 7, 8, 9, 10, 11, 12, 13, 14, 15, 16, 17, 18, 19, 20, 21, 22, 23, 24, 25, 26, 27, 28, 29, 30, 31], [0, 1, 2, 3, 4, 5, 6, 7, 8, 9, 10, 11, 12, 13, 14, 15, 16, 17, 18, 19, 20, 21, 22, 23, 24, 25, 26, 27, 28, 29, 30, 31, 32], [0, 1, 2, 3, 4, 5, 6, 7, 8, 9, 10, 11, 12, 13, 14, 15, 16, 17, 18, 19, 20, 21, 22, 23, 24, 25, 26, 27, 28, 29, 30, 31, 32, 33], [0, 1, 2, 3, 4, 5, 6, 7, 8, 9, 10, 11, 12, 13, 14, 15, 16, 17, 18, 19, 20, 21, 22, 23, 24, 25, 26, 27, 28, 29, 30, 31, 32, 33, 34]] hmix (by kernel_rfl) [(214, _), (215, _), (216, _), (217, _), (218, _), (219, _), (220, _), (221, _), (222, _), (223, _), (224, _), (225, _), (226, _), (227, _), (228, _), (229, _), (230, _), (231, _), (232, _), (233, _), (234, _), (235, _), (236, _), (237, _), (238, _), (239, _), (240, _), (241, _), (242, _), (243, _), (244, _)] rfl 1 rfl
               refine Stg.known (t := 216) rfl hb40 ?_
               refine Stg.known (t := 223) rfl hb41 ?_
               refine Stg.known (t := 226) rfl hb42 ?_
               refine Stg.known (t := 237) rfl hb45 ?_
               refine Stg.go [0, 1, 2, 3, 4, 5, 6, 7, 8, 9, 10, 11, 12, 13, 14, 15, 16, 17, 18, 19, 20, 21, 22, 23, 24, 25, 26, 27, 28, 29, 30] [31] rfl rfl (QAll.cons (QOp.p hT rfl rfl rfl rfl rfl) (QAll.cons (QOp.p hT rfl rfl rfl rfl rfl) (QAll.cons (QOp.pk hT rfl rfl rfl rfl hb40 rfl) (QAll.cons (QOp.yp hT rfl rfl rfl rfl rfl rfl rfl) (QAll.cons (QOp.yp hT rfl rfl rfl rfl rfl rfl rfl) (QAll.cons (QOp.y rfl rfl rfl rfl (Quiet1.loadP (i := 0) hT rfl rfl rfl rfl rfl rfl) rfl rfl) (QAll.cons (QOp.yp hT rfl rfl rfl rfl rfl rfl rfl) (QAll.cons (QOp.yp hT rfl rfl rfl rfl rfl rfl rfl) (QAll.cons (QOp.p hT rfl rfl rfl rfl rfl) (QAll.cons (QOp.pk hT rfl rfl rfl rfl hb41 rfl) (QAll.cons (QOp.yp hT rfl rfl rfl rfl rfl rfl rfl) (QAll.cons (QOp.yp hT rfl rfl rfl rfl rfl rfl rfl) (QAll.cons (QOp.ypk hT rfl rfl rfl rfl rfl rfl hb42 rfl) (QAll.cons (QOp.yp hT rfl rfl rfl rfl rfl rfl rfl) (QAll.cons (QOp.yp hT rfl rfl rfl rfl rfl rfl rfl) (QAll.cons (QOp.y rfl rfl rfl rfl (Quiet1.loadP (i := 0) hT rfl rfl rfl rfl rfl rfl) rfl rfl) (QAll.cons (QOp.yp hT rfl rfl rfl rfl rfl rfl rfl) (QAll.cons (QOp.yp hT rfl rfl rfl rfl rfl rfl rfl) (QAll.cons (QOp.y rfl rfl rfl rfl (Quiet1.idxS (s := _) hT rfl rfl rfl rfl rfl hc43 hd43) rfl rfl) (QAll.cons (QOp.y rfl rfl rfl rfl (Quiet1.load hT rfl rfl rfl hc44) rfl rfl) (QAll.cons (QOp.yp hT rfl rfl rfl rfl rfl rfl rfl) (QAll.cons (QOp.yp hT rfl rfl rfl rfl rfl rfl rfl) (QAll.cons (QOp.p hT rfl rfl rfl rfl rfl) (QAll.cons (QOp.pk hT rfl rfl rfl rfl hb45 rfl) (QAll.cons (QOp.no rfl rfl rfl rfl (by decide) rfl rfl) (QAll.cons (QOp.no rfl rfl rfl rfl (by decide) rfl rfl) (QAll.cons (QOp.no rfl rfl rfl rfl (by decide) rfl rfl) (QAll.cons (QOp.no rfl rfl rfl rfl (by decide) rfl rfl) (QAll.cons (QOp.no rfl rfl rfl rfl (by decide) rfl rfl) (QAll.cons (QOp.no rfl rfl rfl rfl (by decide) rfl rfl) (QAll.cons (QOp.no rfl rfl rfl rfl (by decide) rfl rfl) QAll.nil))))))))))))))))))))))))))))))) ?_
               refine EAll.cons ?_ EAll.nil
               refine EOp.no rfl rfl rfl rfl (by decide) rfl ?_
               apply Stg.next [(245, _), (246, _), (247, _), (248, _), (249, _)] rfl rfl
               refine Stg.fin [24, 25, 32, 33, 34, 35] rfl rfl (QAll.cons (QOp.no rfl rfl rfl rfl (by decide) rfl rfl) (QAll.cons (QOp.no rfl rfl rfl rfl (by decide) rfl rfl) (QAll.cons (QOp.no rfl rfl rfl rfl (by decide) rfl rfl) (QAll.cons (QOp.no rfl rfl rfl rfl (by decide) rfl rfl) (QAll.cons (QOp.no rfl rfl rfl rfl (by decide) rfl rfl) (QAll.cons (QOp.p hT rfl rfl rfl rfl rfl) QAll.nil)))))) ?_
               exact AtE.then_n ((HK40 _ () _ H).pickP (ts := [249, 1, 3, 10, 15]) (is := [0]) rfl rfl (by decide) rfl)
              ·
               obtain ⟨a_14_, hc46, hd46, H⟩ := H
               obtain ⟨v_23, hc47, H⟩ := H
               apply AtC.stages [31] [[], [], [], [], [], [], [], [], [], [], [], [], [], [], [], [], [], [], [], [], [], [], [], [], [], [], [], [], [], [], [], [], [31], [31], [31], [31]] [[], [0], [0, 1], [0, 1, 2], [0, 1, 2], [0, 1, 2, 4], [0, 1, 2, 4, 5], [0, 1, 2, 3, 4, 5, 6], [0, 1, 2, 3, 4, 5, 6, 7], [0, 1, 2, 3, 4, 5, 6, 7, 8], [0, 1, 2, 3, 4, 5, 6, 7, 8, 9], [0, 1, 2, 3, 4, 5, 6, 7, 8, 9, 10], [0, 1, 2, 3, 4, 5, 6, 7, 8, 9, 10, 11], [0, 1, 2, 3, 4, 5, 6, 7, 8, 9, 10, 11, 12], [0, 1, 2, 3, 4, 5, 6, 7, 8, 9, 10, 11, 12], [0, 1, 2, 3, 4, 5, 6, 7, 8, 9, 10, 11, 12, 14], [0, 1, 2, 3, 4, 5, 6, 7, 8, 9, 10, 11, 12], [0, 1, 2, 3, 4, 5, 6, 7, 8, 9, 10, 11, 12, 16], [0, 1, 2, 3, 4, 5, 6, 7, 8, 9, 10, 11, 12, 14, 15, 16, 17], [0, 1, 2, 3, 4, 5, 6, 7, 8, 9, 10, 11, 12, 14, 15, 16, 17, 18], [0, 1, 2, 3, 4, 5, 6, 7, 8, 9, 10, 11, 12, 13, 14, 15, 16, 17, 18, 19], [0, 1, 2, 3, 4, 5, 6, 7, 8, 9, 10, 11, 12, 13, 14, 15, 16, 17, 18, 19, 20], [0, 1, 2, 3, 4, 5, 6, 7, 8, 9, 10, 11, 12, 13, 14, 15, 16, 17, 18, 19, 20, 21], [0, 1, 2, 3, 4, 5, 6, 7, 8, 9, 10, 11, 12, 13, 14, 15, 16, 17, 18, 19, 20, 21, 22], [0, 1, 2, 3, 4, 5, 6, 7, 8, 9, 10, 11, 12, 13, 14, 15, 16, 17, 18, 19, 20, 21, 22, 23], [0, 1, 2, 3, 4, 5, 6, 7, 8, 9, 10, 11, 12, 13, 14, 15, 16, 17, 18, 19, 20, 21, 22, 23, 24], [0, 1, 2, 3, 4, 5, 6, 7, 8, 9, 10, 11, 12, 13, 14, 15, 16, 17, 18, 19, 20, 21, 22, 23], [0, 1, 2, 3, 4, 5, 6, 7, 8, 9, 10, 11, 12, 13, 14, 15, 16, 17, 18, 19, 20, 21, 22, 23, 26], [0, 1, 2, 3, 4, 5, 6, 7, 8, 9, 10, 11, 12, 13, 14, 15, 16, 17, 18, 19, 20, 21, 22, 23], [0, 1, 2, 3, 4, 5, 6, 7, 8, 9, 10, 11, 12, 13, 14, 15, 16, 17, 18, 19, 20, 21, 22, 23, 26, 27, 28], [0, 1, 2, 3, 4, 5, 6, 7, 8, 9, 10, 11, 12, 13, 14, 15, 16, 17, 18, 19, 20, 21, 22, 23, 26, 27, 28, 29], [0, 1, 2, 3, 4, 5, 6, 7, 8, 9, 10, 11, 12, 13, 14, 15, 16, 17, 18, 19, 20, 21, 22, 23, 26, 27, 28, 29, 30], [0, 1, 2, 3, 4, 5, 6, 7, 8, 9, 10, 11, 12, 13, 14, 15, 16, 17, 18, 19, 20, 21, 22, 23, 24, 25, 26, 27, 28, 29, 30, 31], [0, 1, 2, 3, 4, 5, 6, 7, 8, 9, 10, 11, 12, 13, 14, 15, 16, 17, 18, 19, 20, 21, 22, 23, 24, 25, 26, 27, 28, 29, 30, 31, 32], [0, 1, 2, 3, 4, 5, 6, 7, 8, 9, 10, 11, 12, 13, 14, 15, 16, 17, 18, 19, 20, 21, 22, 23, 24, 25, 26, 27, 28, 29, 30, 31, 32, 33], [0, 1, 2, 3, 4, 5, 6, 7, 8, 9, 10, 11, 12, 13, 14, 15, 16, 17, 18, 19, 20, 21, 22, 23, 24, 25, 26, 27, 28, 29, 30, 31, 32, 33, 34]] hmix (by kernel_rfl) [(214, _), (215, _), (216, _), (217, _), (218, _), (219, _), (220, _), (221, _), (222, _), (223, _), (224, _), (225, _), (226, _), (227, _), (228, _), (229, _), (230, _), (231, _), (232, _), (233, _), (234, _), (235, _), (236, _), (237, _), (238, _), (239, _), (240, _), (241, _), (242, _), (243, _), (244, _)] rfl 1 rfl
               refine Stg.known (t := 216) rfl hb40 ?_
               refine Stg.known (t := 223) rfl hb41 ?_
               refine Stg.known (t := 226) rfl hb42 ?_
               refine Stg.known (t := 237) rfl hb45 ?_
               refine Stg.go [0, 1, 2, 3, 4, 5, 6, 7, 8, 9, 10, 11, 12, 13, 14, 15, 16, 17, 18, 19, 20, 21, 22, 23, 24, 25, 26, 27, 28, 29, 30] [31] rfl rfl (QAll.cons (QOp.p hT rfl rfl rfl rfl rfl) (QAll.cons (QOp.p hT rfl rfl rfl rfl rfl) (QAll.cons (QOp.pk hT rfl rfl rfl rfl hb40 rfl) (QAll.cons (QOp.yp hT rfl rfl rfl rfl rfl rfl rfl) (QAll.cons (QOp.yp hT rfl rfl rfl rfl rfl rfl rfl) (QAll.cons (QOp.y rfl rfl rfl rfl (Quiet1.loadP (i := 0) hT rfl rfl rfl rfl rfl rfl) rfl rfl) (QAll.cons (QOp.yp hT rfl rfl rfl rfl rfl rfl rfl) (QAll.cons (QOp.yp hT rfl rfl rfl rfl rfl rfl rfl) (QAll.cons (QOp.p hT rfl rfl rfl rfl rfl) (QAll.cons (QOp.pk hT rfl rfl rfl rfl hb41 rfl) (QAll.cons (QOp.yp hT rfl rfl rfl rfl rfl rfl rfl) (QAll.cons (QOp.yp hT rfl rfl rfl rfl rfl rfl rfl) (QAll.cons (QOp.ypk hT rfl rfl rfl rfl rfl rfl hb42 rfl) (QAll.cons (QOp.yp hT rfl rfl rfl rfl rfl rfl rfl) (QAll.cons (QOp.yp hT rfl rfl rfl rfl rfl rfl rfl) (QAll.cons (QOp.y rfl rfl rfl rfl (Quiet1.loadP (i := 0) hT rfl rfl rfl rfl rfl rfl) rfl rfl) (QAll.cons (QOp.yp hT rfl rfl rfl rfl rfl rfl rfl) (QAll.cons (QOp.yp hT rfl rfl rfl rfl rfl rfl rfl) (QAll.cons (QOp.y rfl rfl rfl rfl (Quiet1.idxS (s := _) hT rfl rfl rfl rfl rfl hc43 hd43) rfl rfl) (QAll.cons (QOp.y rfl rfl rfl rfl (Quiet1.load hT rfl rfl rfl hc44) rfl rfl) (QAll.cons (QOp.yp hT rfl rfl rfl rfl rfl rfl rfl) (QAll.cons (QOp.yp hT rfl rfl rfl rfl rfl rfl rfl) (QAll.cons (QOp.p hT rfl rfl rfl rfl rfl) (QAll.cons (QOp.pk hT rfl rfl rfl rfl hb45 rfl) (QAll.cons (QOp.yp hT rfl rfl rfl rfl rfl rfl rfl) (QAll.cons (QOp.y rfl rfl rfl rfl (Quiet1.loadP (i := 0) hT rfl rfl rfl rfl rfl rfl) rfl rfl) (QAll.cons (QOp.yp hT rfl rfl rfl rfl rfl rfl rfl) (QAll.cons (QOp.y rfl rfl rfl rfl (Quiet1.loadP (i := 0) hT rfl rfl rfl rfl rfl rfl) rfl rfl) (QAll.cons (QOp.yp hT rfl rfl rfl rfl rfl rfl rfl) (QAll.cons (QOp.y rfl rfl rfl rfl (Quiet1.idxS (s := _) hT rfl rfl rfl rfl rfl hc46 hd46) rfl rfl) (QAll.cons (QOp.y rfl rfl rfl rfl (Quiet1.load hT rfl rfl rfl hc47) rfl rfl) QAll.nil))))))))))))))))))))))))))))))) ?_
               refine EAll.cons ?_ EAll.nil
               refine EOp.y rfl rfl rfl rfl rfl (EffX.call (f := 25) (sh := fun h => ref18uTruth _ h _) (H0 := H) rfl Try.call25 rfl (hl := fun w m hr hw => lift_ref18uTruth _ w m hr _ hw)) ?_
               rintro _ _ ⟨v_24, h0u27, rfl, rfl, H⟩
               obtain ⟨a_15_, hc48, hd48, H⟩ := H
               obtain ⟨v_25, hc49, H⟩ := H
               apply Stg.next [(245, _), (246, _), (247, _), (248, _), (249, _)] rfl rfl
               refine Stg.fin [24, 25, 32, 33, 34, 35] rfl rfl (QAll.cons (QOp.yp hT rfl rfl rfl rfl rfl rfl rfl) (QAll.cons (QOp.y rfl rfl rfl rfl (Quiet1.loadP (i := 0) hT rfl rfl rfl rfl rfl rfl) rfl rfl) (QAll.cons (QOp.y rfl rfl rfl rfl (Quiet1.idxS (s := _) hT rfl rfl rfl rfl rfl hc48 hd48) rfl rfl) (QAll.cons (QOp.y rfl rfl rfl rfl (Quiet1.load hT rfl rfl rfl hc49) rfl rfl) (QAll.cons (QOp.yp hT rfl rfl rfl rfl rfl rfl rfl) (QAll.cons (QOp.p hT rfl rfl rfl rfl rfl) QAll.nil)))))) ?_
               exact AtE.then_n ((HK40 _ () _ H).pickP (ts := [249, 1, 3, 10, 15]) (is := [0]) rfl rfl (by decide) rfl)
             ·
              obtain ⟨a_16_, hc50, hd50, H⟩ := H
              obtain ⟨v_26, hc51, H⟩ := H
              apply AtC.stages [31] [[], [], [], [], [], [], [], [], [], [], [], [], [], [], [], [], [], [], [], [], [], [], [], [], [], [], [], [], [], [], [], [], [31], [31], [31], [31]] [[], [0], [0, 1], [0, 1, 2], [0, 1, 2], [0, 1, 2, 4], [0, 1, 2, 4, 5], [0, 1, 2, 3, 4, 5, 6], [0, 1, 2, 3, 4, 5, 6, 7], [0, 1, 2, 3, 4, 5, 6, 7, 8], [0, 1, 2, 3, 4, 5, 6, 7, 8, 9], [0, 1, 2, 3, 4, 5, 6, 7, 8, 9, 10], [0, 1, 2, 3, 4, 5, 6, 7, 8, 9, 10, 11], [0, 1, 2, 3, 4, 5, 6, 7, 8, 9, 10, 11, 12], [0, 1, 2, 3, 4, 5, 6, 7, 8, 9, 10, 11, 12], [0, 1, 2, 3, 4, 5, 6, 7, 8, 9, 10, 11, 12, 14], [0, 1, 2, 3, 4, 5, 6, 7, 8, 9, 10, 11, 12], [0, 1, 2, 3, 4, 5, 6, 7, 8, 9, 10, 11, 12, 16], [0, 1, 2, 3, 4, 5, 6, 7, 8, 9, 10, 11, 12, 14, 15, 16, 17], [0, 1, 2, 3, 4, 5, 6, 7, 8, 9, 10, 11, 12, 14, 15, 16, 17, 18], [0, 1, 2, 3, 4, 5, 6, 7, 8, 9, 10, 11, 12, 13, 14, 15, 16, 17, 18, 19], [0, 1, 2, 3, 4, 5, 6, 7, 8, 9, 10, 11, 12, 13, 14, 15, 16, 17, 18, 19, 20], [0, 1, 2, 3, 4, 5, 6, 7, 8, 9, 10, 11, 12, 13, 14, 15, 16, 17, 18, 19, 20, 21], [0, 1, 2, 3, 4, 5, 6, 7, 8, 9, 10, 11, 12, 13, 14, 15, 16, 17, 18, 19, 20, 21, 22], [0, 1, 2, 3, 4, 5, 6, 7, 8, 9, 10, 11, 12, 13, 14, 15, 16, 17, 18, 19, 20, 21, 22, 23], [0, 1, 2, 3, 4, 5, 6, 7, 8, 9, 10, 11, 12, 13, 14, 15, 16, 17, 18, 19, 20, 21, 22, 23, 24], [0, 1, 2, 3, 4, 5, 6, 7, 8, 9, 10, 11, 12, 13, 14, 15, 16, 17, 18, 19, 20, 21, 22, 23], [0, 1, 2, 3, 4, 5, 6, 7, 8, 9, 10, 11, 12, 13, 14, 15, 16, 17, 18, 19, 20, 21, 22, 23, 26], [0, 1, 2, 3, 4, 5, 6, 7, 8, 9, 10, 11, 12, 13, 14, 15, 16, 17, 18, 19, 20, 21, 22, 23], [0, 1, 2, 3, 4, 5, 6, 7, 8, 9, 10, 11, 12, 13, 14, 15, 16, 17, 18, 19, 20, 21, 22, 23, 26, 27, 28], [0, 1, 2, 3, 4, 5, 6, 7, 8, 9, 10, 11, 12, 13, 14, 15, 16, 17, 18, 19, 20, 21, 22, 23, 26, 27, 28, 29], [0, 1, 2, 3, 4, 5, 6, 7, 8, 9, 10, 11, 12, 13, 14, 15, 16, 17, 18, 19, 20, 21, 22, 23, 26, 27, 28, 29, 30], [0, 1, 2, 3, 4, 5, 6, 7, 8, 9, 10, 11, 12, 13, 14, 15, 16, 17, 18, 19, 20, 21, 22, 23, 24, 25, 26, 27, 28, 29, 30, 31], [0, 1, 2, 3, 4, 5, 6, 7, 8, 9, 10, 11, 12, 13, 14, 15, 16, 17, 18, 19, 20, 21, 22, 23, 24, 25, 26, 27, 28, 29, 30, 31, 32], [0, 1, 2, 3, 4, 5, 6, 7, 8, 9, 10, 11, 12, 13, 14, 15, 16, 17, 18, 19, 20, 21, 22, 23, 24, 25, 26, 27, 28, 29, 30, 31, 32, 33], [0, 1, 2, 3, 4, 5, 6, 7, 8, 9, 10, 11, 12, 13, 14, 15, 16, 17, 18, 19, 20, 21, 22, 23, 24, 25, 26, 27, 28, 29, 30, 31, 32, 33, 34]] hmix (by kernel_rfl) [(214, _), (215, _), (216, _), (217, _), (218, _), (219, _), (220, _), (221, _), (222, _), (223, _), (224, _), (225, _), (226, _), (227, _), (228, _), (229, _), (230, _), (231, _), (232, _), (233, _), (234, _), (235, _), (236, _), (237, _), (238, _), (239, _), (240, _), (241, _), (242, _), (243, _), (244, _)] rfl 1 rfl
              refine Stg.known (t := 216) rfl hb40 ?_
              refine Stg.known (t := 223) rfl hb41 ?_
              refine Stg.known (t := 226) rfl hb42 ?_
              refine Stg.go [0, 1, 2, 3, 4, 5, 6, 7, 8, 9, 10, 11, 12, 13, 14, 15, 16, 17, 18, 19, 20, 21, 22, 23, 24, 25, 26, 27, 28, 29, 30] [31] rfl rfl (QAll.cons (QOp.p hT rfl rfl rfl rfl rfl) (QAll.cons (QOp.p hT rfl rfl rfl rfl rfl) (QAll.cons (QOp.pk hT rfl rfl rfl rfl hb40 rfl) (QAll.cons (QOp.yp hT rfl rfl rfl rfl rfl rfl rfl) (QAll.cons (QOp.yp hT rfl rfl rfl rfl rfl rfl rfl) (QAll.cons (QOp.y rfl rfl rfl rfl (Quiet1.loadP (i := 0) hT rfl rfl rfl rfl rfl rfl) rfl rfl) (QAll.cons (QOp.yp hT rfl rfl rfl rfl rfl rfl rfl) (QAll.cons (QOp.yp hT rfl rfl rfl rfl rfl rfl rfl) (QAll.cons (QOp.p hT rfl rfl rfl rfl rfl) (QAll.cons (QOp.pk hT rfl rfl rfl rfl hb41 rfl) (QAll.cons (QOp.yp hT rfl rfl rfl rfl rfl rfl rfl) (QAll.cons (QOp.yp hT rfl rfl rfl rfl rfl rfl rfl) (QAll.cons (QOp.ypk hT rfl rfl rfl rfl rfl rfl hb42 rfl) (QAll.cons (QOp.no rfl rfl rfl rfl (by decide) rfl rfl) (QAll.cons (QOp.no rfl rfl rfl rfl (by decide) rfl rfl) (QAll.cons (QOp.no rfl rfl rfl rfl (by decide) rfl rfl) (QAll.cons (QOp.no rfl rfl rfl rfl (by decide) rfl rfl) (QAll.cons (QOp.no rfl rfl rfl rfl (by decide) rfl rfl) (QAll.cons (QOp.no rfl rfl rfl rfl (by decide) rfl rfl) (QAll.cons (QOp.no rfl rfl rfl rfl (by decide) rfl rfl) (QAll.cons (QOp.no rfl rfl rfl rfl (by decide) rfl rfl) (QAll.cons (QOp.yp hT rfl rfl rfl rfl rfl rfl rfl) (QAll.cons (QOp.p hT rfl rfl rfl rfl rfl) (QAll.cons (QOp.p hT rfl rfl rfl rfl rfl) (QAll.cons (QOp.yp hT rfl rfl rfl rfl rfl rfl rfl) (QAll.cons (QOp.y rfl rfl rfl rfl (Quiet1.loadP (i := 0) hT rfl rfl rfl rfl rfl rfl) rfl rfl) (QAll.cons (QOp.yp hT rfl rfl rfl rfl rfl rfl rfl) (QAll.cons (QOp.y rfl rfl rfl rfl (Quiet1.loadP (i := 0) hT rfl rfl rfl rfl rfl rfl) rfl rfl) (QAll.cons (QOp.yp hT rfl rfl rfl rfl rfl rfl rfl) (QAll.cons (QOp.y rfl rfl rfl rfl (Quiet1.idxS (s := _) hT rfl rfl rfl rfl rfl hc50 hd50) rfl rfl) (QAll.cons (QOp.y rfl rfl rfl rfl (Quiet1.load hT rfl rfl rfl hc51) rfl rfl) QAll.nil))))))))))))))))))))))))))))))) ?_
              refine EAll.cons ?_ EAll.nil
              refine EOp.y rfl rfl rfl rfl rfl (EffX.call (f := 25) (sh := fun h => ref18uTruth _ h _) (H0 := H) rfl Try.call25 rfl (hl := fun w m hr hw => lift_ref18uTruth _ w m hr _ hw)) ?_
              rintro _ _ ⟨v_27, h0u28, rfl, rfl, H⟩
              obtain ⟨a_17_, hc52, hd52, H⟩ := H
              obtain ⟨v_28, hc53, H⟩ := H
              apply Stg.next [(245, _), (246, _), (247, _), (248, _), (249, _)] rfl rfl
              refine Stg.fin [24, 25, 32, 33, 34, 35] rfl rfl (QAll.cons (QOp.yp hT rfl rfl rfl rfl rfl rfl rfl) (QAll.cons (QOp.y rfl rfl rfl rfl (Quiet1.loadP (i := 0) hT rfl rfl rfl rfl rfl rfl) rfl rfl) (QAll.cons (QOp.y rfl rfl rfl rfl (Quiet1.idxS (s := _) hT rfl rfl rfl rfl rfl hc52 hd52) rfl rfl) (QAll.cons (QOp.y rfl rfl rfl rfl (Quiet1.load hT rfl rfl rfl hc53) rfl rfl) (QAll.cons (QOp.yp hT rfl rfl rfl rfl rfl rfl rfl) (QAll.cons (QOp.p hT rfl rfl rfl rfl rfl) QAll.nil)))))) ?_
              exact AtE.then_n ((HK40 _ () _ H).pickP (ts := [249, 1, 3, 10, 15]) (is := [0]) rfl rfl (by decide) rfl)
         ·
          refine AtC.exit ?_
          refine AtE.then_x ?_
          refine AtE.then_x ?_
          refine AtE.blk_hit ?_
          refine AtE.then_n (AtE.go ?_)
          refine AtC.seq ?_
          refine AtC.seqR ?_
          refine AtL.pures hT 1 _ _ _ _ rfl ?_
          refine AtL.nil ?_
          refine AtE.then_n (AtE.go ?_)
          refine AtC.block ?_
          refine AtC.loopM (fun (s0u8 : Int) => [(17, Value.int .i64 s0u8)]) (fun (s0u8 : Int) => []) [1, 3, 10] [17, 1, 3, 10] [0] [0] H (by exact rfl) (by exact rfl) (by exact rfl) (by decide) (by exact rfl) (fun Kp55 s0u8 h0u29 H Q55 HK55 => ?_)
          refine AtC.seq ?_
          refine AtC.seqR ?_
          refine AtL.pures hT 3 _ _ _ _ rfl ?_
          refine AtL.nil ?_
          refine AtE.then_n (AtE.go ?_)
          refine AtC.condB H rfl (fun H => ?_) (fun H => ?_)
          ·
           refine AtC.skip ?_
           refine AtE.then_n (AtE.go ?_)
           refine AtC.joinSeq (β := Unit) (fun (t0u6 : Unit) (bb_6 : Unit) => []) (fun (t0u6 : Unit) (bb_6 : Unit) => []) [1, 3, 10, 17] [0] H (by exact rfl) (by exact rfl) (fun t0u6 bb_6 h0u30 H => ?_) (fun J56 H HK56 => ?_)
           ·
            refine AtC.region ?_
            refine AtL.pures hT 3 _ _ _ _ rfl ?_
            replace H := H _ rfl
            refine AtL.nil ?_
            exact AtE.then_n ((HK55 _ _ H).pickP (ts := [17, 1, 3, 10]) (is := [0]) rfl rfl (by decide) rfl)
           ·
            refine AtC.block ?_
            refine AtC.seq ?_
            refine AtC.joinSeq (β := Unit) (fun (t0u7 : Bool) (bb_7 : Unit) => [(283, Value.bool t0u7)]) (fun (t0u7 : Bool) (bb_7 : Unit) => []) [1, 3, 10, 17] [0] H (by exact rfl) (by exact rfl) (fun t0u7 bb_7 h0u31 H => ?_) (fun J57 H HK57 => ?_)
            ·
             refine AtC.condB H rfl (fun H => ?_) (fun H => ?_)
             ·
              refine AtC.seqR ?_
              refine AtL.pures hT 1 _ _ _ _ rfl ?_
              refine AtL.nil ?_
              refine AtE.then_n (AtE.go ?_)
              refine AtC.ret ?_
              refine AtE.then_r ?_
              refine AtE.blk_r ?_
              refine AtE.then_r ?_
              refine AtE.then_r ?_
              refine AtE.blk_r ?_
              refine AtE.then_r ?_
              exact AtE.retN (rs := [.tmp 2]) rfl (ResAll.cons (ResAt.tmp rfl) ResAll.nil) rfl H
             ·
              refine AtC.skip ?_
              refine AtE.then_n (AtE.go ?_)
              refine AtC.seqR ?_
              refine AtL.pures hT 1 _ _ _ _ rfl ?_
              refine AtL.q rfl (Quiet1.loadP (i := 0) hT rfl rfl rfl rfl rfl rfl) ?_
              refine AtL.pures hT 1 _ _ _ _ rfl ?_
              obtain ⟨a_22_, hc65, hd65, H⟩ := H
              refine AtL.q rfl (Quiet1.idxS (s := _) hT rfl rfl rfl rfl rfl hc65 hd65) ?_
              obtain ⟨v_33, hc66, H⟩ := H
              refine AtL.q rfl (Quiet1.load hT rfl rfl rfl hc66) ?_
              refine AtL.pures hT 1 _ _ _ _ rfl ?_
              refine AtL.nil ?_
              refine AtE.then_n (AtE.go ?_)
              refine AtC.seq ?_
              refine AtC.seqR ?_
              refine AtL.pures hT 2 _ _ _ _ rfl ?_
              refine AtL.nil ?_
              refine AtE.then_n (AtE.go ?_)
              refine AtC.condB H rfl (fun H => ?_) (fun H => ?_)
              ·
               refine AtC.exit ?_
               refine AtE.then_x ?_
               refine AtE.blk_hit ?_
               exact AtE.then_n ((HK56 _ () _ H).pickP (ts := [1, 3, 10, 17]) (is := [0]) rfl rfl (by decide) rfl)
              ·
               refine AtC.skip ?_
               refine AtE.then_n (AtE.go ?_)
               refine AtC.seq ?_
               refine AtC.joinSeq (β := Unit) (fun (t0u8 : Bool) (bb_8 : Unit) => [(299, Value.bool t0u8)]) (fun (t0u8 : Bool) (bb_8 : Unit) => []) [1, 3, 10, 17, 18] [0] H (by exact rfl) (by exact rfl) (fun t0u8 bb_8 h0u32 H => ?_) (fun J68 H HK68 => ?_)
               ·
                refine AtC.condB H rfl (fun H => ?_) (fun H => ?_)
                ·
                 refine AtC.seqR ?_
                 refine AtL.pures hT 1 _ _ _ _ rfl ?_
                 refine AtL.nil ?_
                 refine AtE.then_n (AtE.go ?_)
                 refine AtC.ret ?_
                 refine AtE.then_r ?_
                 refine AtE.blk_r ?_
                 refine AtE.then_r ?_
                 refine AtE.then_r ?_
                 refine AtE.blk_r ?_
                 refine AtE.then_r ?_
                 exact AtE.retN (rs := [.tmp 2]) rfl (ResAll.cons (ResAt.tmp rfl) ResAll.nil) rfl H
                ·
                 refine AtC.skip ?_
                 refine AtE.then_n (AtE.go ?_)
                 refine AtC.seqR ?_
                 refine AtL.pures hT 1 _ _ _ _ rfl ?_
                 refine AtL.nil ?_
                 refine AtE.then_n (AtE.go ?_)
                 refine AtC.seq ?_
                 refine AtC.seqR ?_
                 refine AtL.pures hT 1 _ _ _ _ rfl ?_
                 refine AtL.nil ?_
                 refine AtE.then_n (AtE.go ?_)
                 refine AtC.block ?_
                 refine AtC.loopM (fun (s0u9 : Bool × Int) => [(19, Value.bool s0u9.1), (20, Value.int .i64 s0u9.2)]) (fun (s0u9 : Bool × Int) => []) [1, 3, 10, 17, 18] [19, 20, 1, 3, 10, 17, 18] [0] [0] H (by exact rfl) (by exact rfl) (by exact rfl) (by decide) (by exact rfl) (fun Kp69 s0u9 h0u33 H Q69 HK69 => ?_)
                 refine AtC.seq ?_
                 refine AtC.seqR ?_
                 refine AtL.pures hT 2 _ _ _ _ rfl ?_
                 refine AtL.q rfl (Quiet1.loadP (i := 0) hT rfl rfl rfl rfl rfl rfl) ?_
                 refine AtL.pures hT 1 _ _ _ _ rfl ?_
                 obtain ⟨a_23_, hc69, hd69, H⟩ := H
                 refine AtL.q rfl (Quiet1.idxS (s := _) hT rfl rfl rfl rfl rfl hc69 hd69) ?_
                 refine AtL.pures hT 1 _ _ _ _ rfl ?_
                 obtain ⟨v_34, hc70, H⟩ := H
                 refine AtL.q rfl (Quiet1.load hT rfl rfl rfl hc70) ?_
                 refine AtL.pures hT 2 _ _ _ _ rfl ?_
                 refine AtL.nil ?_
                 refine AtE.then_n (AtE.go ?_)
                 refine AtC.condB H rfl (fun H => ?_) (fun H => ?_)
                 ·
                  refine AtC.skip ?_
                  refine AtE.then_n (AtE.go ?_)
                  refine AtC.joinSeq (β := Unit) (fun (t0u9 : Bool) (bb_9 : Unit) => [(19, Value.bool t0u9)]) (fun (t0u9 : Bool) (bb_9 : Unit) => []) [1, 3, 10, 17, 18, 20] [0] H (by exact rfl) (by exact rfl) (fun t0u9 bb_9 h0u34 H => ?_) (fun J72 H HK72 => ?_)
                  ·
                   refine AtC.region ?_
                   refine AtL.pures hT 3 _ _ _ _ rfl ?_
                   replace H := H _ rfl
                   refine AtL.nil ?_
                   exact AtE.then_n ((HK69 _ _ H).pickP (ts := [19, 20, 1, 3, 10, 17, 18]) (is := [0]) rfl rfl (by decide) rfl)
                  ·
                   refine AtC.block ?_
                   refine AtC.seqR ?_
                   refine AtL.pures hT 1 _ _ _ _ rfl ?_
                   refine AtL.q rfl (Quiet1.loadP (i := 0) hT rfl rfl rfl rfl rfl rfl) ?_
                   refine AtL.pures hT 1 _ _ _ _ rfl ?_
                   obtain ⟨a_24_, hc72, hd72, H⟩ := H
                   refine AtL.q rfl (Quiet1.idxS (s := _) hT rfl rfl rfl rfl rfl hc72 hd72) ?_
                   refine AtL.pures hT 1 _ _ _ _ rfl ?_
                   obtain ⟨v_35, hc73, H⟩ := H
                   refine AtL.q rfl (Quiet1.load hT rfl rfl rfl hc73) ?_
                   refine AtL.pures hT 1 _ _ _ _ rfl ?_
                   obtain ⟨a_25_, hc74, hd74, H⟩ := H
                   refine AtL.q rfl (Quiet1.idxS (s := _) hT rfl rfl rfl rfl rfl hc74 hd74) ?_
                   obtain ⟨v_36, hc75, H⟩ := H
                   refine AtL.q rfl (Quiet1.load hT rfl rfl rfl hc75) ?_
                   refine AtL.pures hT 1 _ _ _ _ rfl ?_
                   refine AtL.nil ?_
                   refine AtE.then_n (AtE.go ?_)
                   refine AtC.seqR ?_
                   refine AtL.pures hT 1 _ _ _ _ rfl ?_
                   refine AtL.e rfl (EffX.call (f := 25) (sh := fun h => ref18uTruth _ h _) (H0 := H) rfl Try.call25 rfl (hl := fun w m hr hw => lift_ref18uTruth _ w m hr _ hw)) ?_
                   rintro _ _ ⟨v_37, h0u35, rfl, rfl, H⟩
                   refine AtL.pures hT 2 _ _ _ _ rfl ?_
                   refine AtL.nil ?_
                   refine AtE.then_n (AtE.go ?_)
                   refine AtC.condB H rfl (fun H => ?_) (fun H => ?_)
                   ·
                    obtain ⟨a_26_, hc76, hd76, H⟩ := H
                    obtain ⟨v_38, hc77, H⟩ := H
                    apply AtC.stages [1] [[], [], [], [], [], [], [], [1], [1]] [[], [0], [], [2], [], [2, 3, 4], [2, 3, 4, 5], [0, 1, 2, 3, 4, 5, 6], [0, 1, 2, 3, 4, 5, 6, 7]] hmix (by kernel_rfl) [(324, _), (326, _), (327, _), (328, _), (329, _), (330, _)] rfl 1 rfl
                    refine Stg.go [0, 2, 3, 4, 5, 6] [1] rfl rfl (QAll.cons (QOp.p hT rfl rfl rfl rfl rfl) (QAll.cons (QOp.p hT rfl rfl rfl rfl rfl) (QAll.cons (QOp.q rfl rfl (Quiet1.loadP (i := 0) hT rfl rfl rfl rfl rfl rfl) rfl rfl) (QAll.cons (QOp.p hT rfl rfl rfl rfl rfl) (QAll.cons (QOp.q rfl rfl (Quiet1.idxS (s := _) hT rfl rfl rfl rfl rfl hc76 hd76) rfl rfl) (QAll.cons (QOp.q rfl rfl (Quiet1.load hT rfl rfl rfl hc77) rfl rfl) QAll.nil)))))) ?_
                    refine EAll.cons ?_ EAll.nil
                    refine EOp.e rfl rfl rfl (EffX.call (f := 24) (sh := fun h => ref18uSign _ h _) (H0 := H) rfl Try.call24 rfl (hl := fun w m hr hw => lift_ref18uSign _ w m hr _ hw)) ?_
                    rintro _ _ ⟨v_39, h0u36, rfl, rfl, H⟩
                    obtain ⟨hc78, H⟩ := H
                    apply Stg.next [(325, _), (331, _), (19, _)] rfl rfl
                    refine Stg.fin [2, 3, 4, 5, 6, 7, 8] rfl rfl (QAll.cons (QOp.p hT rfl rfl rfl rfl rfl) (QAll.cons (QOp.q rfl rfl (Quiet1.loadP (i := 0) hT rfl rfl rfl rfl rfl rfl) rfl rfl) (QAll.cons (QOp.p hT rfl rfl rfl rfl rfl) (QAll.cons (QOp.q rfl rfl (Quiet1.idxS (s := _) hT rfl rfl rfl rfl rfl hc76 hd76) rfl rfl) (QAll.cons (QOp.q rfl rfl (Quiet1.load hT rfl rfl rfl hc78) rfl rfl) (QAll.cons (QOp.p hT rfl rfl rfl rfl rfl) (QAll.cons (QOp.p hT rfl rfl rfl rfl rfl) QAll.nil))))))) ?_
                    refine AtE.blk_n ?_
                    exact AtE.then_n ((HK72 _ () _ H).pickP (ts := [19, 1, 3, 10, 17, 18, 20]) (is := [0]) rfl rfl (by decide) rfl)
                   ·
                    refine AtC.joinSeq (β := Unit) (fun (t0u10 : Bool) (bb_10 : Unit) => [(356, Value.bool t0u10)]) (fun (t0u10 : Bool) (bb_10 : Unit) => []) [1, 3, 10, 17, 18, 19, 20] [0] H (by exact rfl) (by exact rfl) (fun t0u10 bb_10 h0u37 H => ?_) (fun J80 H HK80 => ?_)
                    ·
                     refine AtC.condB H rfl (fun H => ?_) (fun H => ?_)
                     ·
                      refine AtC.seqR ?_
                      refine AtL.pures hT 1 _ _ _ _ rfl ?_
                      refine AtL.nil ?_
                      refine AtE.then_n (AtE.go ?_)
                      refine AtC.ret ?_
                      refine AtE.blk_r ?_
                      refine AtE.then_r ?_
                      refine AtE.then_r ?_
                      refine AtE.blk_r ?_
                      refine AtE.then_r ?_
                      refine AtE.blk_r ?_
                      refine AtE.then_r ?_
                      refine AtE.then_r ?_
                      refine AtE.blk_r ?_
                      refine AtE.then_r ?_
                      exact AtE.retN (rs := [.tmp 2]) rfl (ResAll.cons (ResAt.tmp rfl) ResAll.nil) rfl H
                     ·
                      refine AtC.skip ?_
                      refine AtE.blk_n ?_
                      exact AtE.then_n ((HK72 _ () _ H).pickP (ts := [19, 1, 3, 10, 17, 18, 20]) (is := [0]) rfl rfl (by decide) rfl)
                    ·
                     apply AtC.stages [2, 9, 22] [[], [], [], [2], [2], [2], [2], [2], [2], [2], [2, 9], [2, 9], [2], [2], [2], [2], [2, 9], [2, 9], [2, 9], [2, 9], [2, 9], [2, 9], [2, 9], [2, 9, 22], [2, 9, 22]] [[], [], [1], [0, 1, 2], [0, 1, 2, 3], [0, 1, 2, 3, 4], [0, 1, 2, 3, 4, 5], [0, 1, 2, 3, 4, 5, 6], [0, 1, 2, 3, 4, 5, 6], [0, 1, 2, 3, 4, 5, 6, 8], [0, 1, 2, 3, 4, 5, 6, 7, 8, 9], [0, 1, 2, 3, 4, 5, 6, 7, 8, 9, 10], [0, 1, 2, 3, 4, 5, 6], [0, 1, 2, 3, 4, 5, 6], [0, 1, 2, 3, 4, 5, 6, 12, 13], [0, 1, 2, 3, 4, 5, 6, 12, 13, 14], [0, 1, 2, 3, 4, 5, 6, 7, 8, 9, 10, 11, 12, 13, 14, 15], [0, 1, 2, 3, 4, 5, 6, 7, 8, 9, 10, 11, 12, 13, 14, 15, 16], [0, 1, 2, 3, 4, 5, 6, 7, 8, 9, 10, 11, 12, 13, 14, 15, 16, 17], [0, 1, 2, 3, 4, 5, 6, 7, 8, 9, 10, 11, 12, 13, 14, 15, 16, 17, 18], [0, 1, 2, 3, 4, 5, 6, 7, 8, 9, 10, 11, 12, 13, 14, 15, 16, 17, 18, 19], [0, 1, 2, 3, 4, 5, 6, 7, 8, 9, 10, 11, 12, 13, 14, 15, 16, 17, 18], [0, 1, 2, 3, 4, 5, 6, 7, 8, 9, 10, 11, 12, 13, 14, 15, 16, 17, 18, 19, 20, 21], [0, 1, 2, 3, 4, 5, 6, 7, 8, 9, 10, 11, 12, 13, 14, 15, 16, 17, 18, 19, 20, 21, 22], [0, 1, 2, 3, 4, 5, 6, 7, 8, 9, 10, 11, 12, 13, 14, 15, 16, 17, 18, 19, 20, 21, 22, 23]] hmix (by kernel_rfl) [(332, _), (333, _)] rfl 3 rfl
                     refine Stg.go [0, 1] [2] rfl rfl (QAll.cons (QOp.p hT rfl rfl rfl rfl rfl) (QAll.cons (QOp.p hT rfl rfl rfl rfl rfl) QAll.nil)) ?_
                     refine EAll.cons ?_ EAll.nil
                     refine EOp.e rfl rfl rfl (EffX.call (f := 25) (sh := fun h => ref18uTruth _ h _) (H0 := H) rfl Try.call25 rfl (hl := fun w m hr hw => lift_ref18uTruth _ w m hr _ hw)) ?_
                     rintro _ _ ⟨v_40, h0u38, rfl, rfl, H⟩
                     obtain ⟨a_27_, hc80, hd80, H⟩ := H
                     obtain ⟨v_41, hc81, H⟩ := H
                     rcases iteB.cases H with ⟨hb82, H⟩ | ⟨hb82, H⟩
                     ·
                      apply Stg.next [(334, _), (335, _), (336, _), (337, _), (338, _), (339, _), (340, _), (344, _), (345, _), (346, _), (347, _)] rfl rfl
                      refine Stg.known (t := 338) rfl hb82 ?_
                      refine Stg.go [0, 3, 4, 5, 6, 7, 8, 12, 13, 14, 15] [9] rfl rfl (QAll.cons (QOp.p hT rfl rfl rfl rfl rfl) (QAll.cons (QOp.q rfl rfl (Quiet1.idxS (s := _) hT rfl rfl rfl rfl rfl hc80 hd80) rfl rfl) (QAll.cons (QOp.q rfl rfl (Quiet1.load hT rfl rfl rfl hc81) rfl rfl) (QAll.cons (QOp.p hT rfl rfl rfl rfl rfl) (QAll.cons (QOp.pk hT rfl rfl rfl rfl hb82 rfl) (QAll.cons (QOp.no rfl rfl rfl rfl (by decide) rfl rfl) (QAll.cons (QOp.no rfl rfl rfl rfl (by decide) rfl rfl) (QAll.cons (QOp.no rfl rfl rfl rfl (by decide) rfl rfl) (QAll.cons (QOp.no rfl rfl rfl rfl (by decide) rfl rfl) (QAll.cons (QOp.no rfl rfl rfl rfl (by decide) rfl rfl) (QAll.cons (QOp.no rfl rfl rfl rfl (by decide) rfl rfl) QAll.nil))))))))))) ?_
                      refine EAll.cons ?_ EAll.nil
                      refine EOp.no rfl rfl rfl rfl (by decide) rfl ?_
                      apply Stg.next [(341, _), (342, _), (343, _), (348, _), (349, _), (350, _), (351, _), (352, _), (353, _)] rfl rfl
                      refine Stg.go [7, 10, 11, 12, 13, 14, 15, 16, 17, 18, 19, 20, 21] [22] rfl rfl (QAll.cons (QOp.no rfl rfl rfl rfl (by decide) rfl rfl) (QAll.cons (QOp.no rfl rfl rfl rfl (by decide) rfl rfl) (QAll.cons (QOp.no rfl rfl rfl rfl (by decide) rfl rfl) (QAll.cons (QOp.no rfl rfl rfl rfl (by decide) rfl rfl) (QAll.cons (QOp.no rfl rfl rfl rfl (by decide) rfl rfl) (QAll.cons (QOp.no rfl rfl rfl rfl (by decide) rfl rfl) (QAll.cons (QOp.no rfl rfl rfl rfl (by decide) rfl rfl) (QAll.cons (QOp.no rfl rfl rfl rfl (by decide) rfl rfl) (QAll.cons (QOp.p hT rfl rfl rfl rfl rfl) (QAll.cons (QOp.p hT rfl rfl rfl rfl rfl) (QAll.cons (QOp.no rfl rfl rfl rfl (by decide) rfl rfl) (QAll.cons (QOp.no rfl rfl rfl rfl (by decide) rfl rfl) (QAll.cons (QOp.no rfl rfl rfl rfl (by decide) rfl rfl) QAll.nil))))))))))))) ?_
                      refine EAll.cons ?_ EAll.nil
                      refine EOp.no rfl rfl rfl rfl (by decide) rfl ?_
                      apply Stg.next [(354, _), (355, _), (356, _)] rfl rfl
                      refine Stg.fin [23, 24] rfl rfl (QAll.cons (QOp.no rfl rfl rfl rfl (by decide) rfl rfl) (QAll.cons (QOp.p hT rfl rfl rfl rfl rfl) QAll.nil)) ?_
                      exact AtE.then_n ((HK80 _ () _ H).pickP (ts := [356, 1, 3, 10, 17, 18, 19, 20]) (is := [0]) rfl rfl (by decide) rfl)
                     ·
                      obtain ⟨a_28_, hc83, hd83, H⟩ := H
                      obtain ⟨v_42, hc84, H⟩ := H
                      apply Stg.next [(334, _), (335, _), (336, _), (337, _), (338, _), (339, _), (340, _), (344, _), (345, _), (346, _), (347, _)] rfl rfl
                      refine Stg.known (t := 338) rfl hb82 ?_
                      refine Stg.go [0, 3, 4, 5, 6, 7, 8, 12, 13, 14, 15] [9] rfl rfl (QAll.cons (QOp.p hT rfl rfl rfl rfl rfl) (QAll.cons (QOp.q rfl rfl (Quiet1.idxS (s := _) hT rfl rfl rfl rfl rfl hc80 hd80) rfl rfl) (QAll.cons (QOp.q rfl rfl (Quiet1.load hT rfl rfl rfl hc81) rfl rfl) (QAll.cons (QOp.p hT rfl rfl rfl rfl rfl) (QAll.cons (QOp.pk hT rfl rfl rfl rfl hb82 rfl) (QAll.cons (QOp.yp hT rfl rfl rfl rfl rfl rfl rfl) (QAll.cons (QOp.yp hT rfl rfl rfl rfl rfl rfl rfl) (QAll.cons (QOp.yp hT rfl rfl rfl rfl rfl rfl rfl) (QAll.cons (QOp.yp hT rfl rfl rfl rfl rfl rfl rfl) (QAll.cons (QOp.y rfl rfl rfl rfl (Quiet1.idxS (s := _) hT rfl rfl rfl rfl rfl hc83 hd83) rfl rfl) (QAll.cons (QOp.y rfl rfl rfl rfl (Quiet1.load hT rfl rfl rfl hc84) rfl rfl) QAll.nil))))))))))) ?_
                      refine EAll.cons ?_ EAll.nil
                      refine EOp.y rfl rfl rfl rfl rfl (EffX.call (f := 25) (sh := fun h => ref18uTruth _ h _) (H0 := H) rfl Try.call25 rfl (hl := fun w m hr hw => lift_ref18uTruth _ w m hr _ hw)) ?_
                      rintro _ _ ⟨v_43, h0u39, rfl, rfl, H⟩
                      obtain ⟨hc85, H⟩ := H
                      obtain ⟨a_29_, hc86, hd86, H⟩ := H
                      obtain ⟨v_44, hc87, H⟩ := H
                      rcases iteB.cases H with ⟨hb88, H⟩ | ⟨hb88, H⟩
                      ·
                       apply Stg.next [(341, _), (342, _), (343, _), (348, _), (349, _), (350, _), (351, _), (352, _), (353, _)] rfl rfl
                       refine Stg.known (t := 350) rfl hb88 ?_
                       refine Stg.go [7, 10, 11, 12, 13, 14, 15, 16, 17, 18, 19, 20, 21] [22] rfl rfl (QAll.cons (QOp.yp hT rfl rfl rfl rfl rfl rfl rfl) (QAll.cons (QOp.y rfl rfl rfl rfl (Quiet1.idxS (s := _) hT rfl rfl rfl rfl rfl hc86 hd86) rfl rfl) (QAll.cons (QOp.y rfl rfl rfl rfl (Quiet1.load hT rfl rfl rfl hc87) rfl rfl) (QAll.cons (QOp.yp hT rfl rfl rfl rfl rfl rfl rfl) (QAll.cons (QOp.yp hT rfl rfl rfl rfl rfl rfl rfl) (QAll.cons (QOp.y rfl rfl rfl rfl (Quiet1.idxS (s := _) hT rfl rfl rfl rfl rfl hc83 hd83) rfl rfl) (QAll.cons (QOp.y rfl rfl rfl rfl (Quiet1.load hT rfl rfl rfl hc85) rfl rfl) (QAll.cons (QOp.yp hT rfl rfl rfl rfl rfl rfl rfl) (QAll.cons (QOp.p hT rfl rfl rfl rfl rfl) (QAll.cons (QOp.pk hT rfl rfl rfl rfl hb88 rfl) (QAll.cons (QOp.no rfl rfl rfl rfl (by decide) rfl rfl) (QAll.cons (QOp.no rfl rfl rfl rfl (by decide) rfl rfl) (QAll.cons (QOp.no rfl rfl rfl rfl (by decide) rfl rfl) QAll.nil))))))))))))) ?_
                       refine EAll.cons ?_ EAll.nil
                       refine EOp.no rfl rfl rfl rfl (by decide) rfl ?_
                       apply Stg.next [(354, _), (355, _), (356, _)] rfl rfl
                       refine Stg.fin [23, 24] rfl rfl (QAll.cons (QOp.no rfl rfl rfl rfl (by decide) rfl rfl) (QAll.cons (QOp.p hT rfl rfl rfl rfl rfl) QAll.nil)) ?_
                       exact AtE.then_n ((HK80 _ () _ H).pickP (ts := [356, 1, 3, 10, 17, 18, 19, 20]) (is := [0]) rfl rfl (by decide) rfl)
                      ·
                       apply Stg.next [(341, _), (342, _), (343, _), (348, _), (349, _), (350, _), (351, _), (352, _), (353, _)] rfl rfl
                       refine Stg.known (t := 350) rfl hb88 ?_
                       refine Stg.go [7, 10, 11, 12, 13, 14, 15, 16, 17, 18, 19, 20, 21] [22] rfl rfl (QAll.cons (QOp.yp hT rfl rfl rfl rfl rfl rfl rfl) (QAll.cons (QOp.y rfl rfl rfl rfl (Quiet1.idxS (s := _) hT rfl rfl rfl rfl rfl hc86 hd86) rfl rfl) (QAll.cons (QOp.y rfl rfl rfl rfl (Quiet1.load hT rfl rfl rfl hc87) rfl rfl) (QAll.cons (QOp.yp hT rfl rfl rfl rfl rfl rfl rfl) (QAll.cons (QOp.yp hT rfl rfl rfl rfl rfl rfl rfl) (QAll.cons (QOp.y rfl rfl rfl rfl (Quiet1.idxS (s := _) hT rfl rfl rfl rfl rfl hc83 hd83) rfl rfl) (QAll.cons (QOp.y rfl rfl rfl rfl (Quiet1.load hT rfl rfl rfl hc85) rfl rfl) (QAll.cons (QOp.yp hT rfl rfl rfl rfl rfl rfl rfl) (QAll.cons (QOp.p hT rfl rfl rfl rfl rfl) (QAll.cons (QOp.pk hT rfl rfl rfl rfl hb88 rfl) (QAll.cons (QOp.yp hT rfl rfl rfl rfl rfl rfl rfl) (QAll.cons (QOp.y rfl rfl rfl rfl (Quiet1.loadP (i := 0) hT rfl rfl rfl rfl rfl rfl) rfl rfl) (QAll.cons (QOp.yp hT rfl rfl rfl rfl rfl rfl rfl) QAll.nil))))))))))))) ?_
                       refine EAll.cons ?_ EAll.nil
                       refine EOp.y rfl rfl rfl rfl rfl (EffX.call (f := 34) (sh := fun h => ref18uValue _ _ h _) (H0 := H) rfl Try.call34 rfl (hl := fun w m hr hw => lift_ref18uValue _ _ w m hr _ hw)) ?_
                       rintro _ _ ⟨v_45, h0u40, rfl, rfl, H⟩
                       apply Stg.next [(354, _), (355, _), (356, _)] rfl rfl
                       refine Stg.fin [23, 24] rfl rfl (QAll.cons (QOp.yp hT rfl rfl rfl rfl rfl rfl rfl) (QAll.cons (QOp.p hT rfl rfl rfl rfl rfl) QAll.nil)) ?_
                       exact AtE.then_n ((HK80 _ () _ H).pickP (ts := [356, 1, 3, 10, 17, 18, 19, 20]) (is := [0]) rfl rfl (by decide) rfl)
                 ·
                  refine AtC.exit ?_
                  refine AtE.then_x ?_
                  refine AtE.then_x ?_
                  refine AtE.blk_hit ?_
                  refine AtE.then_n (AtE.go ?_)
                  refine AtC.seqR ?_
                  refine AtL.pures hT 2 _ _ _ _ rfl ?_
                  refine AtL.nil ?_
                  refine AtE.then_n (AtE.go ?_)
                  refine AtC.condB H rfl (fun H => ?_) (fun H => ?_)
                  ·
                   refine AtC.seqR ?_
                   refine AtL.pures hT 1 _ _ _ _ rfl ?_
                   refine AtL.nil ?_
                   refine AtE.then_n (AtE.go ?_)
                   refine AtC.ret ?_
                   refine AtE.blk_r ?_
                   refine AtE.then_r ?_
                   refine AtE.then_r ?_
                   refine AtE.blk_r ?_
                   refine AtE.then_r ?_
                   exact AtE.retN (rs := [.tmp 2]) rfl (ResAll.cons (ResAt.tmp rfl) ResAll.nil) rfl H
                  ·
                   refine AtC.skip ?_
                   refine AtE.blk_n ?_
                   exact AtE.then_n ((HK56 _ () _ H).pickP (ts := [1, 3, 10, 17]) (is := [0]) rfl rfl (by decide) rfl)
               ·
                refine AtC.region ?_
                refine AtL.pures hT 3 _ _ _ _ rfl ?_
                refine AtL.splitB (t := 293) H rfl (fun H => ?_) (fun H => ?_)
                ·
                 refine AtL.noF rfl rfl rfl (by decide) rfl ?_
                 refine AtL.noF rfl rfl rfl (by decide) rfl ?_
                 refine AtL.noF rfl rfl rfl (by decide) rfl ?_
                 refine AtL.noF rfl rfl rfl (by decide) rfl ?_
                 refine AtL.noF rfl rfl rfl (by decide) rfl ?_
                 refine AtL.pures hT 1 _ _ _ _ rfl ?_
                 refine AtL.nil ?_
                 exact AtE.then_n ((HK68 _ () _ H).pickP (ts := [299, 1, 3, 10, 17, 18]) (is := [0]) rfl rfl (by decide) rfl)
                ·
                 refine AtL.yes rfl rfl rfl ?_
                 refine AtL.pures hT 1 _ _ _ _ rfl ?_
                 refine AtL.yes rfl rfl rfl ?_
                 refine AtL.pures hT 1 _ _ _ _ rfl ?_
                 refine AtL.yes rfl rfl rfl ?_
                 refine AtL.q rfl (Quiet1.loadP (i := 0) hT rfl rfl rfl rfl rfl rfl) ?_
                 refine AtL.yes rfl rfl rfl ?_
                 refine AtL.pures hT 1 _ _ _ _ rfl ?_
                 refine AtL.yes rfl rfl rfl ?_
                 refine AtL.pures hT 1 _ _ _ _ rfl ?_
                 refine AtL.pures hT 1 _ _ _ _ rfl ?_
                 refine AtL.nil ?_
                 exact AtE.then_n ((HK68 _ () _ H).pickP (ts := [299, 1, 3, 10, 17, 18]) (is := [0]) rfl rfl (by decide) rfl)
            ·
             refine AtC.region ?_
             refine AtL.pures hT 2 _ _ _ _ rfl ?_
             obtain ⟨a_18_, hc57, hd57, H⟩ := H
             refine AtL.q rfl (Quiet1.idxS (s := _) hT rfl rfl rfl rfl rfl hc57 hd57) ?_
             obtain ⟨v_29, hc58, H⟩ := H
             refine AtL.q rfl (Quiet1.load hT rfl rfl rfl hc58) ?_
             refine AtL.pures hT 2 _ _ _ _ rfl ?_
             refine AtL.splitB (t := 260) H rfl (fun H => ?_) (fun H => ?_)
             ·
              refine AtL.yes rfl rfl rfl ?_
              refine AtL.pures hT 1 _ _ _ _ rfl ?_
              refine AtL.yes rfl rfl rfl ?_
              refine AtL.q rfl (Quiet1.loadP (i := 0) hT rfl rfl rfl rfl rfl rfl) ?_
              refine AtL.yes rfl rfl rfl ?_
              refine AtL.pures hT 1 _ _ _ _ rfl ?_
              refine AtL.yes rfl rfl rfl ?_
              obtain ⟨a_19_, hc59, hd59, H⟩ := H
              refine AtL.q rfl (Quiet1.idxS (s := _) hT rfl rfl rfl rfl rfl hc59 hd59) ?_
              refine AtL.yes rfl rfl rfl ?_
              obtain ⟨v_30, hc60, H⟩ := H
              refine AtL.q rfl (Quiet1.load hT rfl rfl rfl hc60) ?_
              refine AtL.yes rfl rfl rfl ?_
              refine AtL.pures hT 1 _ _ _ _ rfl ?_
              refine AtL.yes rfl rfl rfl ?_
              refine AtL.pures hT 1 _ _ _ _ rfl ?_
              refine AtL.splitB (t := 267) H rfl (fun H => ?_) (fun H => ?_)
              ·
               refine AtL.noF rfl rfl rfl (by decide) rfl ?_
               refine AtL.noF rfl rfl rfl (by decide) rfl ?_
               refine AtL.noF rfl rfl rfl (by decide) rfl ?_
               refine AtL.noF rfl rfl rfl (by decide) rfl ?_
               refine AtL.noF rfl rfl rfl (by decide) rfl ?_
               refine AtL.noF rfl rfl rfl (by decide) rfl ?_
               refine AtL.yes rfl rfl rfl ?_
               refine AtL.pures hT 1 _ _ _ _ rfl ?_
               refine AtL.yes rfl rfl rfl ?_
               refine AtL.pures hT 1 _ _ _ _ rfl ?_
               refine AtL.noF rfl rfl rfl (by decide) rfl ?_
               refine AtL.noF rfl rfl rfl (by decide) rfl ?_
               refine AtL.noF rfl rfl rfl (by decide) rfl ?_
               refine AtL.noF rfl rfl rfl (by decide) rfl ?_
               refine AtL.noF rfl rfl rfl (by decide) rfl ?_
               refine AtL.noF rfl rfl rfl (by decide) rfl ?_
               refine AtL.yes rfl rfl rfl ?_
               refine AtL.pures hT 1 _ _ _ _ rfl ?_
               refine AtL.pures hT 1 _ _ _ _ rfl ?_
               refine AtL.nil ?_
               exact AtE.then_n ((HK57 _ () _ H).pickP (ts := [283, 1, 3, 10, 17]) (is := [0]) rfl rfl (by decide) rfl)
              ·
               refine AtL.yes rfl rfl rfl ?_
               refine AtL.pures hT 1 _ _ _ _ rfl ?_
               refine AtL.yes rfl rfl rfl ?_
               refine AtL.q rfl (Quiet1.loadP (i := 0) hT rfl rfl rfl rfl rfl rfl) ?_
               refine AtL.yes rfl rfl rfl ?_
               refine AtL.pures hT 1 _ _ _ _ rfl ?_
               refine AtL.yes rfl rfl rfl ?_
               obtain ⟨a_20_, hc61, hd61, H⟩ := H
               refine AtL.q rfl (Quiet1.idxS (s := _) hT rfl rfl rfl rfl rfl hc61 hd61) ?_
               refine AtL.yes rfl rfl rfl ?_
               obtain ⟨v_31, hc62, H⟩ := H
               refine AtL.q rfl (Quiet1.load hT rfl rfl rfl hc62) ?_
               refine AtL.yes rfl rfl rfl ?_
               refine AtL.pures hT 1 _ _ _ _ rfl ?_
               refine AtL.yes rfl rfl rfl ?_
               refine AtL.pures hT 1 _ _ _ _ rfl ?_
               refine AtL.yes rfl rfl rfl ?_
               refine AtL.pures hT 1 _ _ _ _ rfl ?_
               refine AtL.splitB (t := 275) H rfl (fun H => ?_) (fun H => ?_)
               ·
                refine AtL.noF rfl rfl rfl (by decide) rfl ?_
                refine AtL.noF rfl rfl rfl (by decide) rfl ?_
                refine AtL.noF rfl rfl rfl (by decide) rfl ?_
                refine AtL.noF rfl rfl rfl (by decide) rfl ?_
                refine AtL.noF rfl rfl rfl (by decide) rfl ?_
                refine AtL.noF rfl rfl rfl (by decide) rfl ?_
                refine AtL.yes rfl rfl rfl ?_
                refine AtL.pures hT 1 _ _ _ _ rfl ?_
                refine AtL.pures hT 1 _ _ _ _ rfl ?_
                refine AtL.nil ?_
                exact AtE.then_n ((HK57 _ () _ H).pickP (ts := [283, 1, 3, 10, 17]) (is := [0]) rfl rfl (by decide) rfl)
               ·
                refine AtL.yes rfl rfl rfl ?_
                refine AtL.pures hT 1 _ _ _ _ rfl ?_
                refine AtL.yes rfl rfl rfl ?_
                refine AtL.q rfl (Quiet1.loadP (i := 0) hT rfl rfl rfl rfl rfl rfl) ?_
                refine AtL.yes rfl rfl rfl ?_
                refine AtL.pures hT 1 _ _ _ _ rfl ?_
                refine AtL.yes rfl rfl rfl ?_
                obtain ⟨a_21_, hc63, hd63, H⟩ := H
                refine AtL.q rfl (Quiet1.idxS (s := _) hT rfl rfl rfl rfl rfl hc63 hd63) ?_
                refine AtL.yes rfl rfl rfl ?_
                obtain ⟨v_32, hc64, H⟩ := H
                refine AtL.q rfl (Quiet1.load hT rfl rfl rfl hc64) ?_
                refine AtL.yes rfl rfl rfl ?_
                refine AtL.pures hT 1 _ _ _ _ rfl ?_
                refine AtL.yes rfl rfl rfl ?_
                refine AtL.pures hT 1 _ _ _ _ rfl ?_
                refine AtL.pures hT 1 _ _ _ _ rfl ?_
                refine AtL.nil ?_
                exact AtE.then_n ((HK57 _ () _ H).pickP (ts := [283, 1, 3, 10, 17]) (is := [0]) rfl rfl (by decide) rfl)
             ·
              refine AtL.noF rfl rfl rfl (by decide) rfl ?_
              refine AtL.noF rfl rfl rfl (by decide) rfl ?_
              refine AtL.noF rfl rfl rfl (by decide) rfl ?_
              refine AtL.noF rfl rfl rfl (by decide) rfl ?_
              refine AtL.noF rfl rfl rfl (by decide) rfl ?_
              refine AtL.noF rfl rfl rfl (by decide) rfl ?_
              refine AtL.noF rfl rfl rfl (by decide) rfl ?_
              refine AtL.noU rfl rfl rfl rfl ?_
              refine AtL.noU rfl rfl rfl rfl ?_
              refine AtL.noU rfl rfl rfl rfl ?_
              refine AtL.noU rfl rfl rfl rfl ?_
              refine AtL.noU rfl rfl rfl rfl ?_
              refine AtL.noU rfl rfl rfl rfl ?_
              refine AtL.noF rfl rfl rfl (by decide) rfl ?_
              refine AtL.noF rfl rfl rfl (by decide) rfl ?_
              refine AtL.noU rfl rfl rfl rfl ?_
              refine AtL.noU rfl rfl rfl rfl ?_
              refine AtL.noU rfl rfl rfl rfl ?_
              refine AtL.noU rfl rfl rfl rfl ?_
              refine AtL.noU rfl rfl rfl rfl ?_
              refine AtL.noU rfl rfl rfl rfl ?_
              refine AtL.noF rfl rfl rfl (by decide) rfl ?_
              refine AtL.pures hT 1 _ _ _ _ rfl ?_
              refine AtL.nil ?_
              exact AtE.then_n ((HK57 _ () _ H).pickP (ts := [283, 1, 3, 10, 17]) (is := [0]) rfl rfl (by decide) rfl)
          ·
           refine AtC.exit ?_
           refine AtE.then_x ?_
           refine AtE.then_x ?_
           refine AtE.blk_hit ?_
           refine AtE.then_n (AtE.go ?_)
           refine AtC.seqR ?_
           refine AtL.pures hT 1 _ _ _ _ rfl ?_
           refine AtL.nil ?_
           refine AtE.then_n (AtE.go ?_)
           refine AtC.ret ?_
           exact AtE.retN (rs := [.tmp 2]) rfl (ResAll.cons (ResAt.tmp rfl) ResAll.nil) rfl H
  ·
   refine AtC.region ?_
   refine AtL.pures hT 1 _ _ _ _ rfl ?_
   refine AtL.q rfl (Quiet1.loadP (i := 0) hT rfl rfl rfl rfl rfl rfl) ?_
   refine AtL.pures hT 5 _ _ _ _ rfl ?_
   refine AtL.splitB (t := 31) H rfl (fun H => ?_) (fun H => ?_)
   ·
    refine AtL.noF rfl rfl rfl (by decide) rfl ?_
    refine AtL.noF rfl rfl rfl (by decide) rfl ?_
    refine AtL.noF rfl rfl rfl (by decide) rfl ?_
    refine AtL.noF rfl rfl rfl (by decide) rfl ?_
    refine AtL.noF rfl rfl rfl (by decide) rfl ?_
    refine AtL.pures hT 2 _ _ _ _ rfl ?_
    refine AtL.noF rfl rfl rfl (by decide) rfl ?_
    refine AtL.noF rfl rfl rfl (by decide) rfl ?_
    refine AtL.noF rfl rfl rfl (by decide) rfl ?_
    refine AtL.noF rfl rfl rfl (by decide) rfl ?_
    refine AtL.noF rfl rfl rfl (by decide) rfl ?_
    refine AtL.pures hT 2 _ _ _ _ rfl ?_
    refine AtL.noF rfl rfl rfl (by decide) rfl ?_
    refine AtL.noF rfl rfl rfl (by decide) rfl ?_
    refine AtL.noF rfl rfl rfl (by decide) rfl ?_
    refine AtL.pures hT 2 _ _ _ _ rfl ?_
    refine AtL.noF rfl rfl rfl (by decide) rfl ?_
    refine AtL.noF rfl rfl rfl (by decide) rfl ?_
    refine AtL.noF rfl rfl rfl (by decide) rfl ?_
    refine AtL.noF rfl rfl rfl (by decide) rfl ?_
    refine AtL.noF rfl rfl rfl (by decide) rfl ?_
    refine AtL.noF rfl rfl rfl (by decide) rfl ?_
    refine AtL.pures hT 1 _ _ _ _ rfl ?_
    refine AtL.nil ?_
    exact AtE.then_n ((HK1 _ () _ H).pickP (ts := [57, 1, 3]) (is := [0]) rfl rfl (by decide) rfl)
   ·
    refine AtL.yes rfl rfl rfl ?_
    refine AtL.pures hT 1 _ _ _ _ rfl ?_
    refine AtL.yes rfl rfl rfl ?_
    refine AtL.q rfl (Quiet1.loadP (i := 0) hT rfl rfl rfl rfl rfl rfl) ?_
    refine AtL.yes rfl rfl rfl ?_
    refine AtL.pures hT 1 _ _ _ _ rfl ?_
    refine AtL.yes rfl rfl rfl ?_
    refine AtL.pures hT 1 _ _ _ _ rfl ?_
    refine AtL.yes rfl rfl rfl ?_
    refine AtL.pures hT 1 _ _ _ _ rfl ?_
    refine AtL.pures hT 2 _ _ _ _ rfl ?_
    refine AtL.splitB (t := 38) H rfl (fun H => ?_) (fun H => ?_)
    ·
     refine AtL.noF rfl rfl rfl (by decide) rfl ?_
     refine AtL.noF rfl rfl rfl (by decide) rfl ?_
     refine AtL.noF rfl rfl rfl (by decide) rfl ?_
     refine AtL.noF rfl rfl rfl (by decide) rfl ?_
     refine AtL.noF rfl rfl rfl (by decide) rfl ?_
     refine AtL.pures hT 2 _ _ _ _ rfl ?_
     refine AtL.noF rfl rfl rfl (by decide) rfl ?_
     refine AtL.noF rfl rfl rfl (by decide) rfl ?_
     refine AtL.noF rfl rfl rfl (by decide) rfl ?_
     refine AtL.pures hT 2 _ _ _ _ rfl ?_
     refine AtL.noF rfl rfl rfl (by decide) rfl ?_
     refine AtL.noF rfl rfl rfl (by decide) rfl ?_
     refine AtL.noF rfl rfl rfl (by decide) rfl ?_
     refine AtL.noF rfl rfl rfl (by decide) rfl ?_
     refine AtL.noF rfl rfl rfl (by decide) rfl ?_
     refine AtL.noF rfl rfl rfl (by decide) rfl ?_
     refine AtL.pures hT 1 _ _ _ _ rfl ?_
     refine AtL.nil ?_
     exact AtE.then_n ((HK1 _ () _ H).pickP (ts := [57, 1, 3]) (is := [0]) rfl rfl (by decide) rfl)
    ·
     refine AtL.yes rfl rfl rfl ?_
     refine AtL.pures hT 1 _ _ _ _ rfl ?_
     refine AtL.yes rfl rfl rfl ?_
     refine AtL.q rfl (Quiet1.loadP (i := 0) hT rfl rfl rfl rfl rfl rfl) ?_
     refine AtL.yes rfl rfl rfl ?_
     refine AtL.pures hT 1 _ _ _ _ rfl ?_
     refine AtL.yes rfl rfl rfl ?_
     refine AtL.pures hT 1 _ _ _ _ rfl ?_
     refine AtL.yes rfl rfl rfl ?_
     refine AtL.pures hT 1 _ _ _ _ rfl ?_
     refine AtL.pures hT 2 _ _ _ _ rfl ?_
     refine AtL.splitB (t := 45) H rfl (fun H => ?_) (fun H => ?_)
     ·
      refine AtL.noF rfl rfl rfl (by decide) rfl ?_
      refine AtL.noF rfl rfl rfl (by decide) rfl ?_
      refine AtL.noF rfl rfl rfl (by decide) rfl ?_
      refine AtL.pures hT 2 _ _ _ _ rfl ?_
      refine AtL.noF rfl rfl rfl (by decide) rfl ?_
      refine AtL.noF rfl rfl rfl (by decide) rfl ?_
      refine AtL.noF rfl rfl rfl (by decide) rfl ?_
      refine AtL.noF rfl rfl rfl (by decide) rfl ?_
      refine AtL.noF rfl rfl rfl (by decide) rfl ?_
      refine AtL.noF rfl rfl rfl (by decide) rfl ?_
      refine AtL.pures hT 1 _ _ _ _ rfl ?_
      refine AtL.nil ?_
      exact AtE.then_n ((HK1 _ () _ H).pickP (ts := [57, 1, 3]) (is := [0]) rfl rfl (by decide) rfl)
     ·
      refine AtL.yes rfl rfl rfl ?_
      refine AtL.pures hT 1 _ _ _ _ rfl ?_
      refine AtL.yes rfl rfl rfl ?_
      refine AtL.q rfl (Quiet1.loadP (i := 0) hT rfl rfl rfl rfl rfl rfl) ?_
      refine AtL.yes rfl rfl rfl ?_
      refine AtL.pures hT 1 _ _ _ _ rfl ?_
      refine AtL.pures hT 2 _ _ _ _ rfl ?_
      refine AtL.splitB (t := 50) H rfl (fun H => ?_) (fun H => ?_)
      ·
       refine AtL.noF rfl rfl rfl (by decide) rfl ?_
       refine AtL.noF rfl rfl rfl (by decide) rfl ?_
       refine AtL.noF rfl rfl rfl (by decide) rfl ?_
       refine AtL.noF rfl rfl rfl (by decide) rfl ?_
       refine AtL.noF rfl rfl rfl (by decide) rfl ?_
       refine AtL.noF rfl rfl rfl (by decide) rfl ?_
       refine AtL.pures hT 1 _ _ _ _ rfl ?_
       refine AtL.nil ?_
       exact AtE.then_n ((HK1 _ () _ H).pickP (ts := [57, 1, 3]) (is := [0]) rfl rfl (by decide) rfl)
      ·
       refine AtL.yes rfl rfl rfl ?_
       refine AtL.pures hT 1 _ _ _ _ rfl ?_
       refine AtL.yes rfl rfl rfl ?_
       refine AtL.q rfl (Quiet1.loadP (i := 0) hT rfl rfl rfl rfl rfl rfl) ?_
       refine AtL.yes rfl rfl rfl ?_
       refine AtL.pures hT 1 _ _ _ _ rfl ?_
       refine AtL.yes rfl rfl rfl ?_
       refine AtL.q rfl (Quiet1.loadP (i := 0) hT rfl rfl rfl rfl rfl rfl) ?_
       refine AtL.yes rfl rfl rfl ?_
       refine AtL.pures hT 1 _ _ _ _ rfl ?_
       refine AtL.yes rfl rfl rfl ?_
       refine AtL.pures hT 1 _ _ _ _ rfl ?_
       refine AtL.pures hT 1 _ _ _ _ rfl ?_
       refine AtL.nil ?_
       exact AtE.then_n ((HK1 _ () _ H).pickP (ts := [57, 1, 3]) (is := [0]) rfl rfl (by decide) rfl)
theorem lift_clause_Decide (s0 : (Option Addr)) (lit : Int) (w : World) (m : Heap) (hr : Rel ⟨m, []⟩ w.heap) (S : Bool → Heap → Prop) (H : clause_Decide s0 lit m S) :
    Calls Try.prog 12 #[Value.pointer s0, Value.int .i64 lit] w (Post ⟨w, m⟩ Value.bool S) := by
  refine Calls.lift (args := [Value.pointer s0, Value.int .i64 lit]) Try.func12 rfl Try.ntmps12 (Nat.le_of_ble_eq_true rfl) hr (clause_Decide s0 lit m S) H (fun H => ?_)
  refine AtC.pick (ts := [0, 1]) rfl ?_
  unfold clause_Decide at H
  refine AtC.seqR ?_
  refine AtL.pures hT 1 _ _ _ _ rfl ?_
  refine AtL.nil ?_
  refine AtE.then_n (AtE.go ?_)
  refine AtC.seq ?_
  refine AtC.joinSeq (β := Unit) (fun (t0 : Bool) (bb : Unit) => [(16, Value.bool t0)]) (fun (t0 : Bool) (bb : Unit) => []) [0, 1] [] H (by exact rfl) (by exact rfl) (fun t0 bb h0 H => ?_) (fun J1 H HK1 => ?_)
  ·
   refine AtC.condB H rfl (fun H => ?_) (fun H => ?_)
   ·
    refine AtC.seqR ?_
    refine AtL.pures hT 1 _ _ _ _ rfl ?_
    refine AtL.nil ?_
    refine AtE.then_n (AtE.go ?_)
    refine AtC.ret ?_
    refine AtE.then_r ?_
    exact AtE.retN (rs := [.tmp 4]) rfl (ResAll.cons (ResAt.tmp rfl) ResAll.nil) rfl H
   ·
    refine AtC.skip ?_
    refine AtE.then_n (AtE.go ?_)
    obtain ⟨a_1, hc3, H⟩ := H
    obtain ⟨v_3, hc4, H⟩ := H
    obtain ⟨a_2, hc5, H⟩ := H
    obtain ⟨v_4, hc6, H⟩ := H
    apply AtC.seqS [10, 11, 14] [[], [], [], [], [], [], [], [], [], [], [], [10], [10, 11], [10, 11], [10, 11]] [[], [], [1], [1, 2], [1, 2, 3], [], [5], [5, 6], [5, 6, 7], [5, 6, 7, 8], [5, 6, 7, 8, 9], [1, 2, 3, 4, 5, 6, 7, 8, 9, 10], [0, 1, 2, 3, 4, 5, 6, 7, 8, 9, 10, 11], [0, 1, 2, 3, 4, 5, 6, 7, 8, 9, 10, 11, 12], [0, 1, 2, 3, 4, 5, 6, 7, 8, 9, 10, 11, 12, 13]] hmix (by kernel_rfl) [(17, _), (18, _), (19, _), (20, _), (21, _), (22, _), (23, _), (24, _), (25, _), (26, _)] rfl 3 rfl
    refine Stg.go [0, 1, 2, 3, 4, 5, 6, 7, 8, 9] [10] rfl rfl (QAll.cons (QOp.p hT rfl rfl rfl rfl rfl) (QAll.cons (QOp.p hT rfl rfl rfl rfl rfl) (QAll.cons (QOp.q rfl rfl (Quiet1.nilChk rfl rfl hc3) rfl rfl) (QAll.cons (QOp.p hT rfl rfl rfl rfl rfl) (QAll.cons (QOp.q rfl rfl (Quiet1.load hT rfl rfl rfl hc4) rfl rfl) (QAll.cons (QOp.p hT rfl rfl rfl rfl rfl) (QAll.cons (QOp.q rfl rfl (Quiet1.nilChk rfl rfl hc5) rfl rfl) (QAll.cons (QOp.p hT rfl rfl rfl rfl rfl) (QAll.cons (QOp.q rfl rfl (Quiet1.load hT rfl rfl rfl hc6) rfl rfl) (QAll.cons (QOp.p hT rfl rfl rfl rfl rfl) QAll.nil)))))))))) ?_
    refine EAll.cons ?_ EAll.nil
    refine EOp.e rfl rfl rfl (EffX.buildS2 (cs := [_]) hT rfl rfl rfl rfl rfl rfl rfl rfl H) ?_
    rintro _ _ ⟨a_3, h0u3, rfl, rfl, H⟩
    obtain ⟨hc7, H⟩ := H
    apply Stg.next [(27, _)] rfl rfl
    refine Stg.go [0, 1, 2, 3, 4] [11] rfl rfl (QAll.cons (QOp.p hT rfl rfl rfl rfl rfl) (QAll.cons (QOp.p hT rfl rfl rfl rfl rfl) (QAll.cons (QOp.q rfl rfl (Quiet1.nilChk rfl rfl hc3) rfl rfl) (QAll.cons (QOp.p hT rfl rfl rfl rfl rfl) (QAll.cons (QOp.q rfl rfl (Quiet1.load hT rfl rfl rfl hc7) rfl rfl) QAll.nil))))) ?_
    refine EAll.cons ?_ EAll.nil
    refine EOp.e rfl rfl rfl (EffX.appendS (s := _) (u := _) hT rfl rfl rfl rfl rfl rfl rfl rfl rfl rfl (by decide) H) ?_
    rintro _ _ ⟨v_6, h0u4, rfl, rfl, H⟩
    obtain ⟨a_4, hc8, H⟩ := H
    apply Stg.next [(28, _), (29, _), (30, _)] rfl rfl
    refine Stg.go [0, 12, 13] [14] rfl rfl (QAll.cons (QOp.p hT rfl rfl rfl rfl rfl) (QAll.cons (QOp.q rfl rfl (Quiet1.nilChk rfl rfl hc8) rfl rfl) (QAll.cons (QOp.p hT rfl rfl rfl rfl rfl) QAll.nil))) ?_
    refine EAll.cons ?_ EAll.nil
    refine EOp.e rfl rfl rfl (EffX.store hT rfl rfl rfl rfl rfl H) ?_
    rintro _ _ ⟨h0u5, rfl, H⟩
    apply Stg.next [] rfl rfl
    refine Stg.fin [] rfl rfl QAll.nil ?_
    refine AtE.then_n (AtE.go ?_)
    refine AtC.seqR ?_
    refine AtL.pures hT 2 _ _ _ _ rfl ?_
    refine AtL.e rfl (EffX.call (f := 36) (sh := fun h => clause_put _ _ _ h _) (H0 := H) rfl Try.call36 rfl (hl := fun w m hr hw => lift_clause_put _ _ _ w m hr _ hw)) ?_
    rintro _ _ ⟨v_7, h0u6, rfl, rfl, H⟩
    refine AtL.nil ?_
    refine AtE.then_n (AtE.go ?_)
    refine AtC.seqR ?_
    refine AtL.pures hT 1 _ _ _ _ rfl ?_
    refine AtL.nil ?_
    refine AtE.then_n (AtE.go ?_)
    refine AtC.ret ?_
    exact AtE.retN (rs := [.tmp 4]) rfl (ResAll.cons (ResAt.tmp rfl) ResAll.nil) rfl H
  ·
   refine AtC.region ?_
   refine AtL.pures hT 2 _ _ _ _ rfl ?_
   refine AtL.e rfl (EffX.call (f := 35) (sh := fun h => clause_there _ _ h _) (H0 := H) rfl Try.call35 rfl (hl := fun w m hr hw => lift_clause_there _ _ w m hr _ hw)) ?_
   rintro _ _ ⟨v, h0u1, rfl, rfl, H⟩
   refine AtL.pures hT 2 _ _ _ _ rfl ?_
   refine AtL.splitB (t := 9) H rfl (fun H => ?_) (fun H => ?_)
   ·
    refine AtL.noF rfl rfl rfl (by decide) rfl ?_
    refine AtL.noF rfl rfl rfl (by decide) rfl ?_
    refine AtL.noF rfl rfl rfl (by decide) rfl ?_
    refine AtL.noF rfl rfl rfl (by decide) rfl ?_
    refine AtL.noF rfl rfl rfl (by decide) rfl ?_
    refine AtL.noF rfl rfl rfl (by decide) rfl ?_
    refine AtL.pures hT 1 _ _ _ _ rfl ?_
    refine AtL.nil ?_
    exact AtE.then_n ((HK1 _ () _ H).pickP (ts := [16, 0, 1]) (is := []) rfl rfl (by decide) rfl)
   ·
    refine AtL.yes rfl rfl rfl ?_
    refine AtL.pures hT 1 _ _ _ _ rfl ?_
    refine AtL.yes rfl rfl rfl ?_
    obtain ⟨a, hc1, H⟩ := H
    refine AtL.q rfl (Quiet1.nilChk rfl rfl hc1) ?_
    refine AtL.yes rfl rfl rfl ?_
    obtain ⟨v_1, hc2, H⟩ := H
    refine AtL.q rfl (Quiet1.loadS hT rfl rfl rfl rfl hc2) ?_
    refine AtL.yes rfl rfl rfl ?_
    refine AtL.pures hT 1 _ _ _ _ rfl ?_
    refine AtL.yes rfl rfl rfl ?_
    refine AtL.e rfl (EffX.call (f := 27) (sh := fun h => clause_Value _ _ h _) (H0 := H) rfl Try.call27 rfl (hl := fun w m hr hw => lift_clause_Value _ _ w m hr _ hw)) ?_
    rintro _ _ ⟨v_2, h0u2, rfl, rfl, H⟩
    refine AtL.yes rfl rfl rfl ?_
    refine AtL.pures hT 1 _ _ _ _ rfl ?_
    refine AtL.pures hT 1 _ _ _ _ rfl ?_
    refine AtL.nil ?_
    exact AtE.then_n ((HK1 _ () _ H).pickP (ts := [16, 0, 1]) (is := []) rfl rfl (by decide) rfl)
theorem lift_ref18uClose (value : Sl) (clauses : Sl) (w : World) (m : Heap) (hr : Rel ⟨m, []⟩ w.heap) (S : (Sl × Bool) → Heap → Prop) (H : ref18uClose value clauses m S) :
    Calls Try.prog 13 #[Sl.toV value, Sl.toV clauses] w (Post ⟨w, m⟩ (fun r => Value.tuple #[Sl.toV r.1, Value.bool r.2]) S) := by
  refine Calls.lift (args := [Sl.toV value, Sl.toV clauses]) Try.func13 rfl Try.ntmps13 (Nat.le_of_ble_eq_true rfl) hr (ref18uClose value clauses m S) H (fun H => ?_)
  refine AtC.pick (ts := [0, 1]) rfl ?_
  unfold ref18uClose at H
  refine AtC.seqR ?_
  refine AtL.pures hT 2 _ _ _ _ rfl ?_
  refine AtL.nil ?_
  refine AtE.then_n (AtE.go ?_)
  refine AtC.seqR ?_
  refine AtLX.bs (hT := hT) (cs := []) H rfl rfl rfl rfl rfl rfl rfl rfl rfl (fun a h0 H => ?_)
  refine AtL.pures hT 1 _ _ _ _ rfl ?_
  refine AtL.e rfl (EffX.appendS (s := _) (u := _) hT rfl rfl rfl rfl rfl rfl rfl rfl rfl rfl (by decide) H) ?_
  rintro _ _ ⟨v_1, h0u1, rfl, rfl, H⟩
  refine AtL.pures hT 1 _ _ _ _ rfl ?_
  refine AtL.nil ?_
  refine AtE.then_n (AtE.go ?_)
  refine AtC.seqR ?_
  refine AtL.pures hT 1 _ _ _ _ rfl ?_
  refine AtL.nil ?_
  refine AtE.then_n (AtE.go ?_)
  refine AtC.seq ?_
  refine AtC.block ?_
  refine AtC.loopM (fun (s0 : Bool) => [(7, Value.bool s0)]) (fun (s0 : Bool) => []) [1, 6] [7, 1, 6] [] [] H (by exact rfl) (by exact rfl) (by exact rfl) (by decide) (by exact rfl) (fun Kp1 s0 h0u2 H Q1 HK1 => ?_)
  refine AtC.seq ?_
  refine AtC.seqR ?_
  refine AtL.pures hT 1 _ _ _ _ rfl ?_
  refine AtL.nil ?_
  refine AtE.then_n (AtE.go ?_)
  refine AtC.condB H rfl (fun H => ?_) (fun H => ?_)
  ·
   refine AtC.skip ?_
   refine AtE.then_n (AtE.go ?_)
   refine AtC.block ?_
   refine AtC.seqR ?_
   refine AtL.pures hT 1 _ _ _ _ rfl ?_
   refine AtL.nil ?_
   refine AtE.then_n (AtE.go ?_)
   refine AtC.seqR ?_
   refine AtL.pures hT 1 _ _ _ _ rfl ?_
   refine AtL.nil ?_
   refine AtE.then_n (AtE.go ?_)
   refine AtC.block ?_
   refine AtC.loopM (fun (s0u1 : Bool × Int) => [(7, Value.bool s0u1.1), (8, Value.int .i64 s0u1.2)]) (fun (s0u1 : Bool × Int) => []) [1, 6] [7, 8, 1, 6] [] [] H (by exact rfl) (by exact rfl) (by exact rfl) (by decide) (by exact rfl) (fun Kp2 s0u1 h0u3 H Q2 HK2 => ?_)
   refine AtC.seq ?_
   refine AtC.seqR ?_
   refine AtL.pures hT 4 _ _ _ _ rfl ?_
   refine AtL.nil ?_
   refine AtE.then_n (AtE.go ?_)
   refine AtC.condB H rfl (fun H => ?_) (fun H => ?_)
   ·
    refine AtC.skip ?_
    refine AtE.then_n (AtE.go ?_)
    refine AtC.joinSeq (β := Unit) (fun (t0 : Bool) (bb : Unit) => [(7, Value.bool t0)]) (fun (t0 : Bool) (bb : Unit) => []) [1, 6, 8] [] H (by exact rfl) (by exact rfl) (fun t0 bb h0u4 H => ?_) (fun J3 H HK3 => ?_)
    ·
     refine AtC.region ?_
     refine AtL.pures hT 3 _ _ _ _ rfl ?_
     replace H := H _ rfl
     refine AtL.nil ?_
     exact AtE.then_n ((HK2 _ _ H).pickP (ts := [7, 8, 1, 6]) (is := []) rfl rfl (by decide) rfl)
    ·
     refine AtC.block ?_
     refine AtC.seqR ?_
     refine AtL.pures hT 3 _ _ _ _ rfl ?_
     refine AtL.nil ?_
     refine AtE.then_n (AtE.go ?_)
     refine AtC.seq ?_
     refine AtC.seqR ?_
     refine AtL.pures hT 1 _ _ _ _ rfl ?_
     refine AtL.nil ?_
     refine AtE.then_n (AtE.go ?_)
     refine AtC.block ?_
     refine AtC.loopM (fun (s0u2 : Int × Int × Bool × Int) => [(9, Value.int .i64 s0u2.1), (10, Value.int .i64 s0u2.2.1), (11, Value.bool s0u2.2.2.1), (12, Value.int .i64 s0u2.2.2.2)]) (fun (s0u2 : Int × Int × Bool × Int) => []) [1, 6, 7, 8] [9, 10, 11, 12, 1, 6, 7, 8] [] [] H (by exact rfl) (by exact rfl) (by exact rfl) (by decide) (by exact rfl) (fun Kp4 s0u2 h0u5 H Q4 HK4 => ?_)
     refine AtC.seq ?_
     refine AtC.seqR ?_
     refine AtL.pures hT 3 _ _ _ _ rfl ?_
     obtain ⟨a_1_, hc4, hd4, H⟩ := H
     refine AtL.q rfl (Quiet1.idxS (s := _) hT rfl rfl rfl rfl rfl hc4 hd4) ?_
     refine AtL.pures hT 1 _ _ _ _ rfl ?_
     obtain ⟨v_2, hc5, H⟩ := H
     refine AtL.q rfl (Quiet1.load hT rfl rfl rfl hc5) ?_
     refine AtL.pures hT 2 _ _ _ _ rfl ?_
     refine AtL.nil ?_
     refine AtE.then_n (AtE.go ?_)
     refine AtC.condB H rfl (fun H => ?_) (fun H => ?_)
     ·
      refine AtC.skip ?_
      refine AtE.then_n (AtE.go ?_)
      refine AtC.joinSeq (β := Unit) (fun (t0u1 : Int × Int × Bool) (bb_1 : Unit) => [(9, Value.int .i64 t0u1.1), (10, Value.int .i64 t0u1.2.1), (11, Value.bool t0u1.2.2)]) (fun (t0u1 : Int × Int × Bool) (bb_1 : Unit) => []) [1, 6, 7, 8, 12] [] H (by exact rfl) (by exact rfl) (fun t0u1 bb_1 h0u6 H => ?_) (fun J7 H HK7 => ?_)
      ·
       refine AtC.region ?_
       refine AtL.pures hT 3 _ _ _ _ rfl ?_
       replace H := H _ rfl
       refine AtL.nil ?_
       exact AtE.then_n ((HK4 _ _ H).pickP (ts := [9, 10, 11, 12, 1, 6, 7, 8]) (is := []) rfl rfl (by decide) rfl)
      ·
       refine AtC.block ?_
       refine AtC.seqR ?_
       refine AtL.pures hT 2 _ _ _ _ rfl ?_
       obtain ⟨a_2_, hc7, hd7, H⟩ := H
       refine AtL.q rfl (Quiet1.idxS (s := _) hT rfl rfl rfl rfl rfl hc7 hd7) ?_
       refine AtL.pures hT 1 _ _ _ _ rfl ?_
       obtain ⟨v_3, hc8, H⟩ := H
       refine AtL.q rfl (Quiet1.load hT rfl rfl rfl hc8) ?_
       refine AtL.pures hT 1 _ _ _ _ rfl ?_
       obtain ⟨a_3_, hc9, hd9, H⟩ := H
       refine AtL.q rfl (Quiet1.idxS (s := _) hT rfl rfl rfl rfl rfl hc9 hd9) ?_
       obtain ⟨v_4, hc10, H⟩ := H
       refine AtL.q rfl (Quiet1.load hT rfl rfl rfl hc10) ?_
       refine AtL.pures hT 1 _ _ _ _ rfl ?_
       refine AtL.nil ?_
       refine AtE.then_n (AtE.go ?_)
       refine AtC.seqR ?_
       refine AtL.pures hT 2 _ _ _ _ rfl ?_
       refine AtL.e rfl (EffX.call (f := 34) (sh := fun h => ref18uValue _ _ h _) (H0 := H) rfl Try.call34 rfl (hl := fun w m hr hw => lift_ref18uValue _ _ w m hr _ hw)) ?_
       rintro _ _ ⟨v_5, h0u7, rfl, rfl, H⟩
       refine AtL.pures hT 1 _ _ _ _ rfl ?_
       refine AtL.nil ?_
       refine AtE.then_n (AtE.go ?_)
       refine AtC.joinSeq (β := Unit) (fun (t0u2 : Bool) (bb_2 : Unit) => [(11, Value.bool t0u2)]) (fun (t0u2 : Bool) (bb_2 : Unit) => []) [1, 6, 7, 8, 9, 10, 12, 13, 14] [] H (by exact rfl) (by exact rfl) (fun t0u2 bb_2 h0u8 H => ?_) (fun J12 H HK12 => ?_)
       ·
        refine AtC.seqR ?_
        refine AtL.pures hT 2 _ _ _ _ rfl ?_
        refine AtL.nil ?_
        refine AtE.then_n (AtE.go ?_)
        refine AtC.condB H rfl (fun H => ?_) (fun H => ?_)
        ·
         refine AtC.seqR ?_
         refine AtL.pures hT 3 _ _ _ _ rfl ?_
         replace H := H _ rfl
         refine AtL.nil ?_
         refine AtE.then_n (AtE.go ?_)
         refine AtC.region ?_
         refine AtL.pures hT 2 _ _ _ _ rfl ?_
         refine AtL.nil ?_
         refine AtE.blk_n ?_
         exact AtE.then_n ((HK7 _ () _ H).pickP (ts := [9, 10, 11, 1, 6, 7, 8, 12]) (is := []) rfl rfl (by decide) rfl)
        ·
         refine AtC.skip ?_
         refine AtE.blk_n ?_
         exact AtE.then_n ((HK7 _ () _ H).pickP (ts := [9, 10, 11, 1, 6, 7, 8, 12]) (is := []) rfl rfl (by decide) rfl)
       ·
        refine AtC.seqR ?_
        refine AtL.pures hT 2 _ _ _ _ rfl ?_
        refine AtL.nil ?_
        refine AtE.then_n (AtE.go ?_)
        refine AtC.condB H rfl (fun H => ?_) (fun H => ?_)
        ·
         refine AtC.region ?_
         refine AtL.pures hT 1 _ _ _ _ rfl ?_
         refine AtL.nil ?_
         exact AtE.then_n ((HK12 _ () _ H).pickP (ts := [11, 1, 6, 7, 8, 9, 10, 12, 13, 14]) (is := []) rfl rfl (by decide) rfl)
        ·
         refine AtC.skip ?_
         exact AtE.then_n ((HK12 _ () _ H).pickP (ts := [11, 1, 6, 7, 8, 9, 10, 12, 13, 14]) (is := []) rfl rfl (by decide) rfl)
     ·
      refine AtC.exit ?_
      refine AtE.then_x ?_
      refine AtE.then_x ?_
      refine AtE.blk_hit ?_
      refine AtE.then_n (AtE.go ?_)
      refine AtC.seq ?_
      refine AtC.joinSeq (β := Unit) (fun (t0u3 : Bool) (bb_3 : Unit) => [(57, Value.bool t0u3)]) (fun (t0u3 : Bool) (bb_3 : Unit) => []) [1, 6, 7, 8, 9, 10] [] H (by exact rfl) (by exact rfl) (fun t0u3 bb_3 h0u9 H => ?_) (fun J13 H HK13 => ?_)
      ·
       refine AtC.condB H rfl (fun H => ?_) (fun H => ?_)
       ·
        refine AtC.exit ?_
        refine AtE.then_x ?_
        refine AtE.blk_hit ?_
        exact AtE.then_n ((HK3 _ () _ H).pickP (ts := [7, 1, 6, 8]) (is := []) rfl rfl (by decide) rfl)
       ·
        refine AtC.skip ?_
        refine AtE.then_n (AtE.go ?_)
        refine AtC.seq ?_
        refine AtC.seqR ?_
        refine AtL.pures hT 2 _ _ _ _ rfl ?_
        refine AtL.nil ?_
        refine AtE.then_n (AtE.go ?_)
        refine AtC.condB H rfl (fun H => ?_) (fun H => ?_)
        ·
         refine AtC.seqR ?_
         refine AtL.pures hT 3 _ _ _ _ rfl ?_
         refine AtL.nil ?_
         refine AtE.then_n (AtE.go ?_)
         refine AtC.ret ?_
         refine AtE.then_r ?_
         refine AtE.blk_r ?_
         refine AtE.then_r ?_
         refine AtE.then_r ?_
         refine AtE.blk_r ?_
         refine AtE.blk_r ?_
         refine AtE.then_r ?_
         refine AtE.blk_r ?_
         refine AtE.then_r ?_
         exact AtE.retN (rs := [.tmp 4, .tmp 5]) rfl (ResAll.cons (ResAt.tmp rfl) (ResAll.cons (ResAt.tmp rfl) ResAll.nil)) rfl H
        ·
         refine AtC.skip ?_
         refine AtE.then_n (AtE.go ?_)
         refine AtC.seqR ?_
         refine AtL.pures hT 2 _ _ _ _ rfl ?_
         refine AtL.e rfl (EffX.call (f := 25) (sh := fun h => ref18uTruth _ h _) (H0 := H) rfl Try.call25 rfl (hl := fun w m hr hw => lift_ref18uTruth _ w m hr _ hw)) ?_
         rintro _ _ ⟨v_6, h0u10, rfl, rfl, H⟩
         refine AtL.pures hT 1 _ _ _ _ rfl ?_
         refine AtL.e rfl (EffX.call (f := 24) (sh := fun h => ref18uSign _ h _) (H0 := H) rfl Try.call24 rfl (hl := fun w m hr hw => lift_ref18uSign _ w m hr _ hw)) ?_
         rintro _ _ ⟨v_7, h0u11, rfl, rfl, H⟩
         obtain ⟨a_4_, hc13, hd13, H⟩ := H
         refine AtL.q rfl (Quiet1.idxS (s := _) hT rfl rfl rfl rfl rfl hc13 hd13) ?_
         refine AtL.e rfl (EffX.store hT rfl rfl rfl rfl rfl H) ?_
         rintro _ _ ⟨h0u12, rfl, H⟩
         refine AtL.nil ?_
         refine AtE.then_n (AtE.go ?_)
         refine AtC.region ?_
         refine AtL.pures hT 1 _ _ _ _ rfl ?_
         refine AtL.nil ?_
         refine AtE.blk_n ?_
         exact AtE.then_n ((HK3 _ () _ H).pickP (ts := [7, 1, 6, 8]) (is := []) rfl rfl (by decide) rfl)
      ·
       refine AtC.region ?_
       refine AtL.pures hT 2 _ _ _ _ rfl ?_
       refine AtL.splitB (t := 54) H rfl (fun H => ?_) (fun H => ?_)
       ·
        refine AtL.noF rfl rfl rfl (by decide) rfl ?_
        refine AtL.noF rfl rfl rfl (by decide) rfl ?_
        refine AtL.pures hT 1 _ _ _ _ rfl ?_
        refine AtL.nil ?_
        exact AtE.then_n ((HK13 _ () _ H).pickP (ts := [57, 1, 6, 7, 8, 9, 10]) (is := []) rfl rfl (by decide) rfl)
       ·
        refine AtL.yes rfl rfl rfl ?_
        refine AtL.pures hT 1 _ _ _ _ rfl ?_
        refine AtL.yes rfl rfl rfl ?_
        refine AtL.pures hT 1 _ _ _ _ rfl ?_
        refine AtL.pures hT 1 _ _ _ _ rfl ?_
        refine AtL.nil ?_
        exact AtE.then_n ((HK13 _ () _ H).pickP (ts := [57, 1, 6, 7, 8, 9, 10]) (is := []) rfl rfl (by decide) rfl)
   ·
    refine AtC.exit ?_
    refine AtE.then_x ?_
    refine AtE.then_x ?_
    refine AtE.blk_hit ?_
    refine AtE.blk_n ?_
    exact AtE.then_n ((HK1 _ _ H).pickP (ts := [7, 1, 6]) (is := []) rfl rfl (by decide) rfl)
  ·
   refine AtC.exit ?_
   refine AtE.then_x ?_
   refine AtE.then_x ?_
   refine AtE.blk_hit ?_
   refine AtE.then_n (AtE.go ?_)
   refine AtC.seqR ?_
   refine AtL.pures hT 3 _ _ _ _ rfl ?_
   refine AtL.nil ?_
   refine AtE.then_n (AtE.go ?_)
   refine AtC.ret ?_
   exact AtE.retN (rs := [.tmp 4, .tmp 5]) rfl (ResAll.cons (ResAt.tmp rfl) (ResAll.cons (ResAt.tmp rfl) ResAll.nil)) rfl H
theorem lift_law18uClauseReduce (n : Int) (list : Sl) (uses : Sl) (most : Int) (lits : Sl) (w : World) (m : Heap) (hr : Rel ⟨m, []⟩ w.heap) (S : Bool → Heap → Prop) (H : law18uClauseReduce n list uses most lits m S) :
    Calls Try.prog 3 #[Value.int .i64 n, Sl.toV list, Sl.toV uses, Value.int .i64 most, Sl.toV lits] w (Post ⟨w, m⟩ Value.bool S) := by
  refine Calls.lift (args := [Value.int .i64 n, Sl.toV list, Sl.toV uses, Value.int .i64 most, Sl.toV lits]) Try.func3 rfl Try.ntmps3 (Nat.le_of_ble_eq_true rfl) hr (law18uClauseReduce n list uses most lits m S) H (fun H => ?_)
  refine AtC.pick (ts := [0, 1, 2, 3, 4]) rfl ?_
  unfold law18uClauseReduce at H
  refine AtC.seqR ?_
  refine AtL.pures hT 1 _ _ _ _ rfl ?_
  refine AtL.nil ?_
  refine AtE.then_n (AtE.go ?_)
  refine AtC.seq ?_
  refine AtC.seqR ?_
  refine AtL.e rfl (EffX.call (f := 6) (sh := fun h => law18uspeaks h _) (H0 := H) rfl Try.call6 rfl (hl := fun w m hr hw => lift_law18uspeaks  w m hr _ hw)) ?_
  rintro _ _ ⟨v, h0, rfl, rfl, H⟩
  refine AtL.pures hT 1 _ _ _ _ rfl ?_
  refine AtL.nil ?_
  refine AtE.then_n (AtE.go ?_)
  refine AtC.condB H rfl (fun H => ?_) (fun H => ?_)
  ·
   refine AtC.seqR ?_
   refine AtL.pures hT 1 _ _ _ _ rfl ?_
   refine AtL.nil ?_
   refine AtE.then_n (AtE.go ?_)
   refine AtC.ret ?_
   refine AtE.then_r ?_
   exact AtE.retN (rs := [.tmp 10]) rfl (ResAll.cons (ResAt.tmp rfl) ResAll.nil) rfl H
  ·
   refine AtC.skip ?_
   refine AtE.then_n (AtE.go ?_)
   refine AtC.seq ?_
   refine AtC.joinSeq (β := Unit) (fun (t0 : Bool) (bb : Unit) => [(54, Value.bool t0)]) (fun (t0 : Bool) (bb : Unit) => []) [0, 1, 2, 3, 4] [] H (by exact rfl) (by exact rfl) (fun t0 bb h0u1 H => ?_) (fun J1 H HK1 => ?_)
   ·
    refine AtC.condB H rfl (fun H => ?_) (fun H => ?_)
    ·
     refine AtC.seqR ?_
     refine AtL.pures hT 1 _ _ _ _ rfl ?_
     refine AtL.nil ?_
     refine AtE.then_n (AtE.go ?_)
     refine AtC.ret ?_
     refine AtE.then_r ?_
     exact AtE.retN (rs := [.tmp 10]) rfl (ResAll.cons (ResAt.tmp rfl) ResAll.nil) rfl H
    ·
     refine AtC.skip ?_
     refine AtE.then_n (AtE.go ?_)
     refine AtC.seqR ?_
     refine AtL.pures hT 2 _ _ _ _ rfl ?_
     refine AtL.e rfl (EffX.call (f := 8) (sh := fun h => law18ulaid _ _ h _) (H0 := H) rfl Try.call8 rfl (hl := fun w m hr hw => lift_law18ulaid _ _ w m hr _ hw)) ?_
     rintro _ _ ⟨v_2, h0u3, rfl, rfl, H⟩
     refine AtL.pures hT 3 _ _ _ _ rfl ?_
     refine AtL.e rfl (EffX.alloc hT rfl rfl H) ?_
     rintro _ _ ⟨s0, h0u4, rfl, rfl, H⟩
     refine AtL.e rfl (EffX.storeS hT rfl rfl rfl rfl rfl rfl H) ?_
     rintro _ _ ⟨h0u5, rfl, H⟩
     refine AtL.pures hT 1 _ _ _ _ rfl ?_
     refine AtL.nil ?_
     refine AtE.then_n (AtE.go ?_)
     refine AtC.seq ?_
     refine AtC.seqR ?_
     refine AtL.pures hT 2 _ _ _ _ rfl ?_
     refine AtL.nil ?_
     refine AtE.then_n (AtE.go ?_)
     refine AtC.condB H rfl (fun H => ?_) (fun H => ?_)
     ·
      refine AtC.seqR ?_
      refine AtL.pures hT 1 _ _ _ _ rfl ?_
      refine AtL.nil ?_
      refine AtE.then_n (AtE.go ?_)
      refine AtC.ret ?_
      refine AtE.then_r ?_
      exact AtE.retN (rs := [.tmp 10]) rfl (ResAll.cons (ResAt.tmp rfl) ResAll.nil) rfl H
     ·
      refine AtC.skip ?_
      refine AtE.then_n (AtE.go ?_)
      refine AtC.seq ?_
      refine AtC.seqR ?_
      refine AtL.pures hT 1 _ _ _ _ rfl ?_
      obtain ⟨v_3, hc1, H⟩ := H
      refine AtL.q rfl (Quiet1.load hT rfl rfl rfl hc1) ?_
      refine AtL.pures hT 2 _ _ _ _ rfl ?_
      refine AtL.nil ?_
      refine AtE.then_n (AtE.go ?_)
      refine AtC.block ?_
      refine AtC.loopM (fun (s0u1 : Int) => [(66, Value.int .i64 s0u1)]) (fun (s0u1 : Int) => []) [2, 3, 4, 11, 65] [66, 2, 3, 4, 11, 65] [] [] H (by exact rfl) (by exact rfl) (by exact rfl) (by decide) (by exact rfl) (fun Kp3 s0u1 h0u6 H Q3 HK3 => ?_)
      refine AtC.seqR ?_
      refine AtL.pures hT 1 _ _ _ _ rfl ?_
      refine AtL.nil ?_
      refine AtE.then_n (AtE.go ?_)
      refine AtC.seq ?_
      refine AtC.condB H rfl (fun H => ?_) (fun H => ?_)
      ·
       refine AtC.skip ?_
       refine AtE.then_n (AtE.go ?_)
       refine AtC.joinSeq (β := Unit) (fun (t0u1 : Unit) (bb_1 : Unit) => []) (fun (t0u1 : Unit) (bb_1 : Unit) => []) [2, 3, 4, 11, 65, 66] [] H (by exact rfl) (by exact rfl) (fun t0u1 bb_1 h0u7 H => ?_) (fun J4 H HK4 => ?_)
       ·
        refine AtC.region ?_
        refine AtL.pures hT 2 _ _ _ _ rfl ?_
        refine AtL.nil ?_
        exact AtE.then_n ((HK3 _ _ H).pickP (ts := [66, 2, 3, 4, 11, 65]) (is := []) rfl rfl (by decide) rfl)
       ·
        refine AtC.block ?_
        refine AtC.seqR ?_
        refine AtL.pures hT 2 _ _ _ _ rfl ?_
        refine AtL.nil ?_
        refine AtE.then_n (AtE.go ?_)
        refine AtC.seqR ?_
        refine AtL.pures hT 4 _ _ _ _ rfl ?_
        refine AtL.nil ?_
        refine AtE.then_n (AtE.go ?_)
        refine AtC.condB H rfl (fun H => ?_) (fun H => ?_)
        ·
         obtain ⟨v_4, hc4, H⟩ := H
         obtain ⟨a_, hc5, hd5, H⟩ := H
         obtain ⟨v_5, hc6, H⟩ := H
         obtain ⟨a_1_, hc7, hd7, H⟩ := H
         apply AtC.stages [10] [[], [], [], [], [], [], [], [], [], [], []] [[], [0], [], [], [], [3, 4], [3, 4, 5], [3, 4, 5, 6], [0, 1, 2, 3, 4, 5, 6, 7], [0, 1, 2, 3, 4, 5, 6, 7, 8], [0, 1, 2, 3, 4, 5, 6, 7, 8, 9]] hmix (by kernel_rfl) [(73, _), (74, _), (75, _), (76, _), (77, _), (78, _), (79, _), (80, _), (81, _), (82, _)] rfl 1 rfl
         refine Stg.go [0, 1, 2, 3, 4, 5, 6, 7, 8, 9] [10] rfl rfl (QAll.cons (QOp.p hT rfl rfl rfl rfl rfl) (QAll.cons (QOp.q rfl rfl (Quiet1.load hT rfl rfl rfl hc4) rfl rfl) (QAll.cons (QOp.p hT rfl rfl rfl rfl rfl) (QAll.cons (QOp.p hT rfl rfl rfl rfl rfl) (QAll.cons (QOp.p hT rfl rfl rfl rfl rfl) (QAll.cons (QOp.q rfl rfl (Quiet1.idxS (s := _) hT rfl rfl rfl rfl rfl hc5 hd5) rfl rfl) (QAll.cons (QOp.q rfl rfl (Quiet1.load hT rfl rfl rfl hc6) rfl rfl) (QAll.cons (QOp.p hT rfl rfl rfl rfl rfl) (QAll.cons (QOp.q rfl rfl (Quiet1.idxS (s := _) hT rfl rfl rfl rfl rfl hc7 hd7) rfl rfl) (QAll.cons (QOp.p hT rfl rfl rfl rfl rfl) QAll.nil)))))))))) ?_
         refine EAll.cons ?_ EAll.nil
         refine EOp.e rfl rfl rfl (EffX.store hT rfl rfl rfl rfl rfl H) ?_
         rintro _ _ ⟨h0u8, rfl, H⟩
         apply Stg.next [] rfl rfl
         refine Stg.fin [] rfl rfl QAll.nil ?_
         refine AtE.blk_n ?_
         exact AtE.then_n ((HK4 _ () _ H).pickP (ts := [2, 3, 4, 11, 65, 66]) (is := []) rfl rfl (by decide) rfl)
        ·
         refine AtC.skip ?_
         refine AtE.blk_n ?_
         exact AtE.then_n ((HK4 _ () _ H).pickP (ts := [2, 3, 4, 11, 65, 66]) (is := []) rfl rfl (by decide) rfl)
      ·
       refine AtC.exit ?_
       refine AtE.then_x ?_
       refine AtE.then_x ?_
       refine AtE.blk_hit ?_
       refine AtE.then_n (AtE.go ?_)
       refine AtC.seqR ?_
       refine AtLX.bs (hT := hT) (cs := []) H rfl rfl rfl rfl rfl rfl rfl rfl rfl (fun a_2 h0u9 H => ?_)
       refine AtL.pures hT 1 _ _ _ _ rfl ?_
       obtain ⟨v_7, hc8, H⟩ := H
       refine AtL.q rfl (Quiet1.load hT rfl rfl rfl hc8) ?_
       refine AtL.e rfl (EffX.appendS (s := _) (u := _) hT rfl rfl rfl rfl rfl rfl rfl rfl rfl rfl (by decide) H) ?_
       rintro _ _ ⟨v_8, h0u10, rfl, rfl, H⟩
       refine AtL.pures hT 1 _ _ _ _ rfl ?_
       refine AtL.nil ?_
       refine AtE.then_n (AtE.go ?_)
       refine AtC.seqR ?_
       refine AtL.pures hT 1 _ _ _ _ rfl ?_
       refine AtL.e rfl (EffX.call (f := 9) (sh := fun h => clause_Reduce _ _ h _) (H0 := H) rfl Try.call9 rfl (hl := fun w m hr hw => lift_clause_Reduce _ _ w m hr _ hw)) ?_
       rintro _ _ ⟨v_9, h0u11, rfl, rfl, H⟩
       refine AtL.nil ?_
       refine AtE.then_n (AtE.go ?_)
       refine AtC.seqR ?_
       refine AtL.pures hT 1 _ _ _ _ rfl ?_
       refine AtL.nil ?_
       refine AtE.then_n (AtE.go ?_)
       refine AtC.seq ?_
       refine AtC.seqR ?_
       refine AtL.pures hT 3 _ _ _ _ rfl ?_
       refine AtL.nil ?_
       refine AtE.then_n (AtE.go ?_)
       refine AtC.block ?_
       refine AtC.loopM (fun (s0u2 : Int × Int) => [(15, Value.int .i64 s0u2.1), (92, Value.int .i64 s0u2.2)]) (fun (s0u2 : Int × Int) => []) [3, 4, 11, 14, 90, 91] [15, 92, 3, 4, 11, 14, 90, 91] [] [] H (by exact rfl) (by exact rfl) (by exact rfl) (by decide) (by exact rfl) (fun Kp10 s0u2 h0u12 H Q10 HK10 => ?_)
       refine AtC.seqR ?_
       refine AtL.pures hT 1 _ _ _ _ rfl ?_
       refine AtL.nil ?_
       refine AtE.then_n (AtE.go ?_)
       refine AtC.seq ?_
       refine AtC.condB H rfl (fun H => ?_) (fun H => ?_)
       ·
        refine AtC.skip ?_
        refine AtE.then_n (AtE.go ?_)
        refine AtC.joinSeq (β := Unit) (fun (t0u2 : Int) (bb_2 : Unit) => [(15, Value.int .i64 t0u2)]) (fun (t0u2 : Int) (bb_2 : Unit) => []) [3, 4, 11, 14, 90, 91, 92] [] H (by exact rfl) (by exact rfl) (fun t0u2 bb_2 h0u13 H => ?_) (fun J11 H HK11 => ?_)
        ·
         refine AtC.region ?_
         refine AtL.pures hT 2 _ _ _ _ rfl ?_
         refine AtL.nil ?_
         exact AtE.then_n ((HK10 _ _ H).pickP (ts := [15, 92, 3, 4, 11, 14, 90, 91]) (is := []) rfl rfl (by decide) rfl)
        ·
         refine AtC.block ?_
         refine AtC.seqR ?_
         obtain ⟨a_3_, hc11, hd11, H⟩ := H
         refine AtL.q rfl (Quiet1.idxS (s := _) hT rfl rfl rfl rfl rfl hc11 hd11) ?_
         obtain ⟨v_10, hc12, H⟩ := H
         refine AtL.q rfl (Quiet1.loadS hT rfl rfl rfl rfl hc12) ?_
         refine AtL.e rfl (EffX.allocP (cs := [_, _, _]) hT rfl rfl H) ?_
         rintro _ _ ⟨b, _, rfl, rfl, _, H⟩
         replace H := H.self
         refine AtL.e rfl (EffX.storeSP (i := 0) (qv := [(_, [_, _, _])]) hT rfl rfl rfl rfl rfl rfl rfl rfl rfl rfl) ?_
         rintro _ _ rfl
         refine AtL.nil ?_
         refine AtE.then_n (AtE.go ?_)
         refine AtC.seqR ?_
         refine AtL.pures hT 1 _ _ _ _ rfl ?_
         refine AtL.q rfl (Quiet1.loadP (i := 0) hT rfl rfl rfl rfl rfl rfl) ?_
         refine AtL.nil ?_
         refine AtE.then_n (AtE.go ?_)
         refine AtC.condB H rfl (fun H => ?_) (fun H => ?_)
         ·
          refine AtC.region ?_
          refine AtL.pures hT 3 _ _ _ _ rfl ?_
          replace H := H _ rfl
          refine AtL.nil ?_
          refine AtE.blk_n ?_
          exact AtE.then_n ((HK11 _ () _ H).pickP (ts := [15, 3, 4, 11, 14, 90, 91, 92]) (is := []) rfl rfl (by decide) rfl)
         ·
          refine AtC.skip ?_
          refine AtE.blk_n ?_
          exact AtE.then_n ((HK11 _ () _ H).pickP (ts := [15, 3, 4, 11, 14, 90, 91, 92]) (is := []) rfl rfl (by decide) rfl)
       ·
        refine AtC.exit ?_
        refine AtE.then_x ?_
        refine AtE.then_x ?_
        refine AtE.blk_hit ?_
        refine AtE.then_n (AtE.go ?_)
        refine AtC.seqR ?_
        refine AtL.pures hT 2 _ _ _ _ rfl ?_
        refine AtL.nil ?_
        refine AtE.then_n (AtE.go ?_)
        refine AtC.joinSeq (β := Unit) (fun (t0u3 : Int) (bb_3 : Unit) => [(18, Value.int .i64 t0u3)]) (fun (t0u3 : Int) (bb_3 : Unit) => []) [4, 11, 14, 15] [] H (by exact rfl) (by exact rfl) (fun t0u3 bb_3 h0u15 H => ?_) (fun J14 H HK14 => ?_)
        ·
         refine AtC.seqR ?_
         refine AtL.pures hT 2 _ _ _ _ rfl ?_
         replace H := H _ rfl
         refine AtL.e rfl (EffX.mkS hT rfl rfl rfl rfl rfl rfl rfl rfl (by decide) H) ?_
         rintro _ _ ⟨v_11, h0u16, rfl, rfl, H⟩
         refine AtL.pures hT 1 _ _ _ _ rfl ?_
         refine AtL.nil ?_
         refine AtE.then_n (AtE.go ?_)
         refine AtC.seq ?_
         refine AtC.seqR ?_
         refine AtL.pures hT 2 _ _ _ _ rfl ?_
         refine AtL.nil ?_
         refine AtE.then_n (AtE.go ?_)
         refine AtC.block ?_
         refine AtC.loopM (fun (s0u3 : Int) => [(20, Value.int .i64 s0u3)]) (fun (s0u3 : Int) => []) [4, 11, 14, 18, 19] [20, 4, 11, 14, 18, 19] [] [] H (by exact rfl) (by exact rfl) (by exact rfl) (by decide) (by exact rfl) (fun Kp15 s0u3 h0u17 H Q15 HK15 => ?_)
         refine AtC.seq ?_
         refine AtC.seqR ?_
         refine AtL.pures hT 3 _ _ _ _ rfl ?_
         refine AtL.nil ?_
         refine AtE.then_n (AtE.go ?_)
         refine AtC.condB H rfl (fun H => ?_) (fun H => ?_)
         ·
          refine AtC.skip ?_
          refine AtE.then_n (AtE.go ?_)
          refine AtC.seq ?_
          refine AtC.block ?_
          refine AtC.seqR ?_
          refine AtL.pures hT 1 _ _ _ _ rfl ?_
          refine AtL.nil ?_
          refine AtE.then_n (AtE.go ?_)
          refine AtC.seq ?_
          refine AtC.seqR ?_
          refine AtL.pures hT 3 _ _ _ _ rfl ?_
          refine AtL.nil ?_
          refine AtE.then_n (AtE.go ?_)
          refine AtC.block ?_
          refine AtC.loopM (fun (s0u4 : Int × Int) => [(21, Value.int .i64 s0u4.1), (120, Value.int .i64 s0u4.2)]) (fun (s0u4 : Int × Int) => []) [4, 11, 14, 18, 19, 20, 118, 119] [21, 120, 4, 11, 14, 18, 19, 20, 118, 119] [] [] H (by exact rfl) (by exact rfl) (by exact rfl) (by decide) (by exact rfl) (fun Kp16 s0u4 h0u18 H Q16 HK16 => ?_)
          refine AtC.seqR ?_
          refine AtL.pures hT 1 _ _ _ _ rfl ?_
          refine AtL.nil ?_
          refine AtE.then_n (AtE.go ?_)
          refine AtC.seq ?_
          refine AtC.condB H rfl (fun H => ?_) (fun H => ?_)
          ·
           refine AtC.skip ?_
           refine AtE.then_n (AtE.go ?_)
           refine AtC.joinSeq (β := Unit) (fun (t0u4 : Int) (bb_4 : Unit) => [(21, Value.int .i64 t0u4)]) (fun (t0u4 : Int) (bb_4 : Unit) => []) [4, 11, 14, 18, 19, 20, 118, 119, 120] [] H (by exact rfl) (by exact rfl) (fun t0u4 bb_4 h0u19 H => ?_) (fun J17 H HK17 => ?_)
           ·
            refine AtC.region ?_
            refine AtL.pures hT 2 _ _ _ _ rfl ?_
            refine AtL.nil ?_
            exact AtE.then_n ((HK16 _ _ H).pickP (ts := [21, 120, 4, 11, 14, 18, 19, 20, 118, 119]) (is := []) rfl rfl (by decide) rfl)
           ·
            refine AtC.block ?_
            refine AtC.seqR ?_
            refine AtL.pures hT 1 _ _ _ _ rfl ?_
            obtain ⟨a_4_, hc17, hd17, H⟩ := H
            refine AtL.q rfl (Quiet1.idxS (s := _) hT rfl rfl rfl rfl rfl hc17 hd17) ?_
            obtain ⟨v_12, hc18, H⟩ := H
            refine AtL.q rfl (Quiet1.loadS hT rfl rfl rfl rfl hc18) ?_
            refine AtL.e rfl (EffX.allocP (cs := [_, _, _]) hT rfl rfl H) ?_
            rintro _ _ ⟨b_1, _, rfl, rfl, _, H⟩
            replace H := H.self
            refine AtL.pures hT 1 _ _ _ _ rfl ?_
            refine AtL.e rfl (EffX.storeSP (i := 0) (qv := [(_, [_, _, _])]) hT rfl rfl rfl rfl rfl rfl rfl rfl rfl rfl) ?_
            rintro _ _ rfl
            refine AtL.nil ?_
            refine AtE.then_n (AtE.go ?_)
            refine AtC.joinSeq (β := Unit) (fun (t0u5 : Bool) (bb_5 : Unit) => [(147, Value.bool t0u5)]) (fun (t0u5 : Bool) (bb_5 : Unit) => []) [4, 11, 14, 18, 19, 20, 21, 22, 118, 119, 120] [] H (by exact rfl) (by exact rfl) (fun t0u5 bb_5 h0u21 H => ?_) (fun J20 H HK20 => ?_)
            ·
             refine AtC.condB H rfl (fun H => ?_) (fun H => ?_)
             ·
              refine AtC.region ?_
              refine AtL.pures hT 2 _ _ _ _ rfl ?_
              refine AtL.nil ?_
              refine AtE.blk_n ?_
              exact AtE.then_n ((HK17 _ () _ H).pickP (ts := [21, 4, 11, 14, 18, 19, 20, 118, 119, 120]) (is := []) rfl rfl (by decide) rfl)
             ·
              refine AtC.skip ?_
              refine AtE.blk_n ?_
              exact AtE.then_n ((HK17 _ () _ H).pickP (ts := [21, 4, 11, 14, 18, 19, 20, 118, 119, 120]) (is := []) rfl rfl (by decide) rfl)
            ·
             refine AtC.draw hmix (by kernel_rfl) ?_
             refine AtD.pures hT 1 _ _ _ _ rfl ?_
             refine AtD.q rfl (Quiet1.loadP (i := 0) hT rfl rfl rfl rfl rfl rfl) ?_
             refine AtD.pures hT 1 _ _ _ _ rfl ?_
             refine AtD.splitB (t := 127) H rfl (fun H => ?_) (fun H => ?_)
             ·
              refine AtD.yes rfl rfl rfl ?_
              refine AtD.pures hT 1 _ _ _ _ rfl ?_
              refine AtD.yes rfl rfl rfl ?_
              refine AtD.pures hT 1 _ _ _ _ rfl ?_
              refine AtD.yes rfl rfl rfl ?_
              obtain ⟨a_5_, hc20, hd20, H⟩ := H
              refine AtD.q rfl (Quiet1.idxS (s := _) hT rfl rfl rfl rfl rfl hc20 hd20) ?_
              refine AtD.yes rfl rfl rfl ?_
              obtain ⟨v_13, hc21, H⟩ := H
              refine AtD.q rfl (Quiet1.load hT rfl rfl rfl hc21) ?_
              refine AtD.yes rfl rfl rfl ?_
              refine AtD.pures hT 1 _ _ _ _ rfl ?_
              refine AtD.pures hT 2 _ _ _ _ rfl ?_
              refine AtD.splitB (t := 134) H rfl (fun H => ?_) (fun H => ?_)
              ·
               refine AtD.yes rfl rfl rfl ?_
               refine AtD.pures hT 1 _ _ _ _ rfl ?_
               refine AtD.yes rfl rfl rfl ?_
               refine AtD.pures hT 1 _ _ _ _ rfl ?_
               refine AtD.yes rfl rfl rfl ?_
               refine AtD.pures hT 1 _ _ _ _ rfl ?_
               refine AtD.splitB (t := 137) H rfl (fun H => ?_) (fun H => ?_)
               ·
                refine AtD.noF rfl rfl rfl (by decide) rfl ?_
                refine AtD.noF rfl rfl rfl (by decide) rfl ?_
                refine AtD.noF rfl rfl rfl (by decide) rfl ?_
                refine AtD.noF rfl rfl rfl (by decide) rfl ?_
                refine AtD.noF rfl rfl rfl (by decide) rfl ?_
                refine AtD.noF rfl rfl rfl (by decide) rfl ?_
                refine AtD.noF rfl rfl rfl (by decide) rfl ?_
                refine AtD.noF rfl rfl rfl (by decide) rfl ?_
                refine AtD.yes rfl rfl rfl ?_
                refine AtD.pures hT 1 _ _ _ _ rfl ?_
                refine AtD.pures hT 1 _ _ _ _ rfl ?_
                refine AtD.nil ?_
                exact AtE.then_n ((HK20 _ () _ H).pickP (ts := [147, 4, 11, 14, 18, 19, 20, 21, 22, 118, 119, 120]) (is := []) rfl rfl (by decide) rfl)
               ·
                refine AtD.yes rfl rfl rfl ?_
                refine AtD.pures hT 1 _ _ _ _ rfl ?_
                refine AtD.yes rfl rfl rfl ?_
                refine AtD.q rfl (Quiet1.loadP (i := 0) hT rfl rfl rfl rfl rfl rfl) ?_
                refine AtD.yes rfl rfl rfl ?_
                refine AtD.pures hT 1 _ _ _ _ rfl ?_
                refine AtD.yes rfl rfl rfl ?_
                refine AtD.pures hT 1 _ _ _ _ rfl ?_
                refine AtD.yes rfl rfl rfl ?_
                obtain ⟨a_6_, hc22, hd22, H⟩ := H
                refine AtD.q rfl (Quiet1.idxS (s := _) hT rfl rfl rfl rfl rfl hc22 hd22) ?_
                refine AtD.yes rfl rfl rfl ?_
                refine AtD.pures hT 1 _ _ _ _ rfl ?_
                refine AtD.yes rfl rfl rfl ?_
                obtain ⟨v_14, hc23, H⟩ := H
                refine AtD.q rfl (Quiet1.load hT rfl rfl rfl hc23) ?_
                refine AtD.yes rfl rfl rfl ?_
                refine AtD.pures hT 1 _ _ _ _ rfl ?_
                refine AtD.yes rfl rfl rfl ?_
                refine AtD.pures hT 1 _ _ _ _ rfl ?_
                refine AtD.pures hT 1 _ _ _ _ rfl ?_
                refine AtD.nil ?_
                exact AtE.then_n ((HK20 _ () _ H).pickP (ts := [147, 4, 11, 14, 18, 19, 20, 21, 22, 118, 119, 120]) (is := []) rfl rfl (by decide) rfl)
              ·
               refine AtD.noF rfl rfl rfl (by decide) rfl ?_
               refine AtD.noF rfl rfl rfl (by decide) rfl ?_
               refine AtD.noF rfl rfl rfl (by decide) rfl ?_
               refine AtD.noU rfl rfl rfl rfl ?_
               refine AtD.noU rfl rfl rfl rfl ?_
               refine AtD.noU rfl rfl rfl rfl ?_
               refine AtD.noU rfl rfl rfl rfl ?_
               refine AtD.noU rfl rfl rfl rfl ?_
               refine AtD.noU rfl rfl rfl rfl ?_
               refine AtD.noU rfl rfl rfl rfl ?_
               refine AtD.noU rfl rfl rfl rfl ?_
               refine AtD.noF rfl rfl rfl (by decide) rfl ?_
               refine AtD.pures hT 1 _ _ _ _ rfl ?_
               refine AtD.nil ?_
               exact AtE.then_n ((HK20 _ () _ H).pickP (ts := [147, 4, 11, 14, 18, 19, 20, 21, 22, 118, 119, 120]) (is := []) rfl rfl (by decide) rfl)
             ·
              refine AtD.noF rfl rfl rfl (by decide) rfl ?_
              refine AtD.noF rfl rfl rfl (by decide) rfl ?_
              refine AtD.noF rfl rfl rfl (by decide) rfl ?_
              refine AtD.noF rfl rfl rfl (by decide) rfl ?_
              refine AtD.noF rfl rfl rfl (by decide) rfl ?_
              refine AtD.pures hT 2 _ _ _ _ rfl ?_
              refine AtD.noF rfl rfl rfl (by decide) rfl ?_
              refine AtD.noF rfl rfl rfl (by decide) rfl ?_
              refine AtD.noF rfl rfl rfl (by decide) rfl ?_
              refine AtD.noU rfl rfl rfl rfl ?_
              refine AtD.noU rfl rfl rfl rfl ?_
              refine AtD.noU rfl rfl rfl rfl ?_
              refine AtD.noU rfl rfl rfl rfl ?_
              refine AtD.noU rfl rfl rfl rfl ?_
              refine AtD.noU rfl rfl rfl rfl ?_
              refine AtD.noU rfl rfl rfl rfl ?_
              refine AtD.noU rfl rfl rfl rfl ?_
              refine AtD.noF rfl rfl rfl (by decide) rfl ?_
              refine AtD.pures hT 1 _ _ _ _ rfl ?_
              refine AtD.nil ?_
              exact AtE.then_n ((HK20 _ () _ H).pickP (ts := [147, 4, 11, 14, 18, 19, 20, 21, 22, 118, 119, 120]) (is := []) rfl rfl (by decide) rfl)
          ·
           refine AtC.exit ?_
           refine AtE.then_x ?_
           refine AtE.then_x ?_
           refine AtE.blk_hit ?_
           refine AtE.then_n (AtE.go ?_)
           refine AtC.region ?_
           refine AtL.pures hT 2 _ _ _ _ rfl ?_
           obtain ⟨a_7_, hc24, hd24, H⟩ := H
           refine AtL.q rfl (Quiet1.idxS (s := _) hT rfl rfl rfl rfl rfl hc24 hd24) ?_
           refine AtL.e rfl (EffX.store hT rfl rfl rfl rfl rfl H) ?_
           rintro _ _ ⟨h0u22, rfl, H⟩
           refine AtL.nil ?_
           refine AtE.blk_n ?_
           refine AtE.then_n (AtE.go ?_)
           refine AtC.region ?_
           refine AtL.pures hT 3 _ _ _ _ rfl ?_
           replace H := H _ rfl
           refine AtL.nil ?_
           exact AtE.then_n ((HK15 _ _ H).pickP (ts := [20, 4, 11, 14, 18, 19]) (is := []) rfl rfl (by decide) rfl)
         ·
          refine AtC.exit ?_
          refine AtE.then_x ?_
          refine AtE.then_x ?_
          refine AtE.blk_hit ?_
          refine AtE.then_n (AtE.go ?_)
          refine AtC.seqR ?_
          refine AtL.pures hT 1 _ _ _ _ rfl ?_
          refine AtL.nil ?_
          refine AtE.then_n (AtE.go ?_)
          refine AtC.seq ?_
          refine AtC.seqR ?_
          refine AtL.pures hT 3 _ _ _ _ rfl ?_
          refine AtL.nil ?_
          refine AtE.then_n (AtE.go ?_)
          refine AtC.block ?_
          refine AtC.loopM (fun (s0u5 : Int × Int) => [(24, Value.int .i64 s0u5.1), (155, Value.int .i64 s0u5.2)]) (fun (s0u5 : Int × Int) => []) [4, 11, 19, 153, 154] [24, 155, 4, 11, 19, 153, 154] [] [] H (by exact rfl) (by exact rfl) (by exact rfl) (by decide) (by exact rfl) (fun Kp26 s0u5 h0u23 H Q26 HK26 => ?_)
          refine AtC.seqR ?_
          refine AtL.pures hT 1 _ _ _ _ rfl ?_
          refine AtL.nil ?_
          refine AtE.then_n (AtE.go ?_)
          refine AtC.seq ?_
          refine AtC.condB H rfl (fun H => ?_) (fun H => ?_)
          ·
           refine AtC.skip ?_
           refine AtE.then_n (AtE.go ?_)
           refine AtC.joinSeq (β := Unit) (fun (t0u6 : Int) (bb_6 : Unit) => [(24, Value.int .i64 t0u6)]) (fun (t0u6 : Int) (bb_6 : Unit) => []) [4, 11, 19, 153, 154, 155] [] H (by exact rfl) (by exact rfl) (fun t0u6 bb_6 h0u24 H => ?_) (fun J27 H HK27 => ?_)
           ·
            refine AtC.region ?_
            refine AtL.pures hT 2 _ _ _ _ rfl ?_
            refine AtL.nil ?_
            exact AtE.then_n ((HK26 _ _ H).pickP (ts := [24, 155, 4, 11, 19, 153, 154]) (is := []) rfl rfl (by decide) rfl)
           ·
            refine AtC.block ?_
            refine AtC.seqR ?_
            refine AtL.pures hT 1 _ _ _ _ rfl ?_
            obtain ⟨a_8_, hc27, hd27, H⟩ := H
            refine AtL.q rfl (Quiet1.idxS (s := _) hT rfl rfl rfl rfl rfl hc27 hd27) ?_
            obtain ⟨v_15, hc28, H⟩ := H
            refine AtL.q rfl (Quiet1.loadS hT rfl rfl rfl rfl hc28) ?_
            refine AtL.e rfl (EffX.allocP (cs := [_, _, _]) hT rfl rfl H) ?_
            rintro _ _ ⟨b_2, _, rfl, rfl, _, H⟩
            replace H := H.self
            refine AtL.pures hT 1 _ _ _ _ rfl ?_
            refine AtL.e rfl (EffX.storeSP (i := 0) (qv := [(_, [_, _, _])]) hT rfl rfl rfl rfl rfl rfl rfl rfl rfl rfl) ?_
            rintro _ _ rfl
            refine AtL.nil ?_
            refine AtE.then_n (AtE.go ?_)
            refine AtC.seq ?_
            refine AtC.seqR ?_
            refine AtL.pures hT 2 _ _ _ _ rfl ?_
            obtain ⟨a_9_, hc29, hd29, H⟩ := H
            refine AtL.q rfl (Quiet1.idxS (s := _) hT rfl rfl rfl rfl rfl hc29 hd29) ?_
            obtain ⟨v_16, hc30, H⟩ := H
            refine AtL.q rfl (Quiet1.load hT rfl rfl rfl hc30) ?_
            refine AtL.nil ?_
            refine AtE.then_n (AtE.go ?_)
            refine AtC.condB H rfl (fun H => ?_) (fun H => ?_)
            ·
             refine AtC.exit ?_
             refine AtE.then_x ?_
             refine AtE.blk_hit ?_
             exact AtE.then_n ((HK27 _ () _ H).pickP (ts := [24, 4, 11, 19, 153, 154, 155]) (is := []) rfl rfl (by decide) rfl)
            ·
             refine AtC.skip ?_
             refine AtE.then_n (AtE.go ?_)
             refine AtC.seq ?_
             refine AtC.joinSeq (β := Unit) (fun (t0u7 : Bool) (bb_7 : Unit) => [(202, Value.bool t0u7)]) (fun (t0u7 : Bool) (bb_7 : Unit) => []) [4, 11, 19, 24, 153, 154, 155] [] H (by exact rfl) (by exact rfl) (fun t0u7 bb_7 h0u26 H => ?_) (fun J32 H HK32 => ?_)
             ·
              refine AtC.condB H rfl (fun H => ?_) (fun H => ?_)
              ·
               refine AtC.seqR ?_
               refine AtL.pures hT 1 _ _ _ _ rfl ?_
               refine AtL.nil ?_
               refine AtE.then_n (AtE.go ?_)
               refine AtC.ret ?_
               refine AtE.then_r ?_
               refine AtE.blk_r ?_
               refine AtE.then_r ?_
               refine AtE.then_r ?_
               refine AtE.blk_r ?_
               refine AtE.then_r ?_
               exact AtE.retN (rs := [.tmp 10]) rfl (ResAll.cons (ResAt.tmp rfl) ResAll.nil) rfl H
              ·
               refine AtC.skip ?_
               refine AtE.then_n (AtE.go ?_)
               refine AtC.region ?_
               refine AtL.pures hT 3 _ _ _ _ rfl ?_
               replace H := H _ rfl
               refine AtL.nil ?_
               refine AtE.blk_n ?_
               exact AtE.then_n ((HK27 _ () _ H).pickP (ts := [24, 4, 11, 19, 153, 154, 155]) (is := []) rfl rfl (by decide) rfl)
             ·
              obtain ⟨v_17, hc32, H⟩ := H
              rcases iteB.cases H with ⟨hb33, H⟩ | ⟨hb33, H⟩
              ·
               apply AtC.stages [36] [[], [], [], [], [], [], [], [], [], [], [], [], [], [], [], [], [], [], [], [], [], [], [], [], [], [], [], [], [], [], [], [], [], [], [], [], [], [36], [36]] [[], [], [1], [1, 2], [0, 1, 2, 3], [0, 1, 2, 3, 4], [0, 1, 2, 3, 4, 5], [0, 1, 2, 3, 4, 5, 6], [0, 1, 2, 3, 4, 5], [0, 1, 2, 3, 4, 5, 6, 7, 8], [0, 1, 2, 3, 4, 5, 6, 7, 8, 9], [0, 1, 2, 3, 4, 5, 6, 7, 8, 9, 10], [0, 1, 2, 3, 4, 5], [0, 1, 2, 3, 4, 5, 12], [0, 1, 2, 3, 4, 5, 6, 7, 8, 9, 10, 11, 12, 13], [0, 1, 2, 3, 4, 5, 6, 7, 8, 9, 10, 11, 12, 13, 14], [0, 1, 2, 3, 4, 5, 6, 7, 8, 9, 10, 11, 12, 13, 14, 15], [0, 1, 2, 3, 4, 5, 6, 7, 8, 9, 10, 11, 12, 13, 14, 15, 16], [0, 1, 2, 3, 4, 5, 6, 7, 8, 9, 10, 11, 12, 13, 14, 15, 16, 17], [0, 1, 2, 3, 4, 5, 6, 7, 8, 9, 10, 11, 12, 13, 14, 15, 16], [0, 1, 2, 3, 4, 5, 6, 7, 8, 9, 10, 11, 12, 13, 14, 15, 16, 17, 18, 19], [0, 1, 2, 3, 4, 5, 6, 7, 8, 9, 10, 11, 12, 13, 14, 15, 16, 17, 18, 19, 20], [0, 1, 2, 3, 4, 5, 6, 7, 8, 9, 10, 11, 12, 13, 14, 15, 16, 17, 18, 19, 20, 21], [0, 1, 2, 3, 4, 5, 6, 7, 8, 9, 10, 11, 12, 13, 14, 15, 16], [0, 1, 2, 3, 4, 5, 6, 7, 8, 9, 10, 11, 12, 13, 14, 15, 16, 23], [0, 1, 2, 3, 4, 5, 6, 7, 8, 9, 10, 11, 12, 13, 14, 15, 16, 17, 18, 19, 20, 21, 22, 23, 24], [0, 1, 2, 3, 4, 5, 6, 7, 8, 9, 10, 11, 12, 13, 14, 15, 16, 17, 18, 19, 20, 21, 22, 23, 24, 25], [0, 1, 2, 3, 4, 5, 6, 7, 8, 9, 10, 11, 12, 13, 14, 15, 16, 17, 18, 19, 20, 21, 22, 23, 24, 25, 26], [0, 1, 2, 3, 4, 5, 6, 7, 8, 9, 10, 11, 12, 13, 14, 15, 16, 17, 18, 19, 20, 21, 22, 23, 24, 25, 26, 27], [0, 1, 2, 3, 4, 5, 6, 7, 8, 9, 10, 11, 12, 13, 14, 15, 16, 17, 18, 19, 20, 21, 22, 23, 24, 25, 26, 27, 28], [0, 1, 2, 3, 4, 5, 6, 7, 8, 9, 10, 11, 12, 13, 14, 15, 16, 17, 18, 19, 20, 21, 22, 23, 24, 25, 26, 27], [0, 1, 2, 3, 4, 5, 6, 7, 8, 9, 10, 11, 12, 13, 14, 15, 16, 17, 18, 19, 20, 21, 22, 23, 24, 25, 26, 27, 28, 29, 30], [0, 1, 2, 3, 4, 5, 6, 7, 8, 9, 10, 11, 12, 13, 14, 15, 16, 17, 18, 19, 20, 21, 22, 23, 24, 25, 26, 27, 28, 29, 30, 31], [0, 1, 2, 3, 4, 5, 6, 7, 8, 9, 10, 11, 12, 13, 14, 15, 16, 17, 18, 19, 20, 21, 22, 23, 24, 25, 26, 27, 28, 29, 30, 31, 32], [0, 1, 2, 3, 4, 5, 6, 7, 8, 9, 10, 11, 12, 13, 14, 15, 16, 17, 18, 19, 20, 21, 22, 23, 24, 25, 26, 27], [0, 1, 2, 3, 4, 5, 6, 7, 8, 9, 10, 11, 12, 13, 14, 15, 16, 17, 18, 19, 20, 21, 22, 23, 24, 25, 26, 27, 34], [0, 1, 2, 3, 4, 5, 6, 7, 8, 9, 10, 11, 12, 13, 14, 15, 16, 17, 18, 19, 20, 21, 22, 23, 24, 25, 26, 27, 28, 29, 30, 31, 32, 33, 34, 35], [0, 1, 2, 3, 4, 5, 6, 7, 8, 9, 10, 11, 12, 13, 14, 15, 16, 17, 18, 19, 20, 21, 22, 23, 24, 25, 26, 27, 28, 29, 30, 31, 32, 33, 34, 35, 36], [0, 1, 2, 3, 4, 5, 6, 7, 8, 9, 10, 11, 12, 13, 14, 15, 16, 17, 18, 19, 20, 21, 22, 23, 24, 25, 26, 27, 28, 29, 30, 31, 32, 33, 34, 35, 36, 37]] hmix (by kernel_rfl) [(164, _), (165, _), (166, _), (167, _), (168, _), (169, _), (170, _), (171, _), (172, _), (173, _), (174, _), (175, _), (176, _), (177, _), (178, _), (179, _), (180, _), (181, _), (182, _), (183, _), (184, _), (185, _), (186, _), (187, _), (188, _), (189, _), (190, _), (191, _), (192, _), (193, _), (194, _), (195, _), (196, _), (197, _), (198, _), (199, _)] rfl 1 rfl
               refine Stg.known (t := 169) rfl hb33 ?_
               refine Stg.go [0, 1, 2, 3, 4, 5, 6, 7, 8, 9, 10, 11, 12, 13, 14, 15, 16, 17, 18, 19, 20, 21, 22, 23, 24, 25, 26, 27, 28, 29, 30, 31, 32, 33, 34, 35] [36] rfl rfl (QAll.cons (QOp.p hT rfl rfl rfl rfl rfl) (QAll.cons (QOp.p hT rfl rfl rfl rfl rfl) (QAll.cons (QOp.q rfl rfl (Quiet1.load hT rfl rfl rfl hc32) rfl rfl) (QAll.cons (QOp.p hT rfl rfl rfl rfl rfl) (QAll.cons (QOp.p hT rfl rfl rfl rfl rfl) (QAll.cons (QOp.pk hT rfl rfl rfl rfl hb33 rfl) (QAll.cons (QOp.no rfl rfl rfl rfl (by decide) rfl rfl) (QAll.cons (QOp.no rfl rfl rfl rfl (by decide) rfl rfl) (QAll.cons (QOp.no rfl rfl rfl rfl (by decide) rfl rfl) (QAll.cons (QOp.no rfl rfl rfl rfl (by decide) rfl rfl) (QAll.cons (QOp.no rfl rfl rfl rfl (by decide) rfl rfl) (QAll.cons (QOp.no rfl rfl rfl rfl (by decide) rfl rfl) (QAll.cons (QOp.no rfl rfl rfl rfl (by decide) rfl rfl) (QAll.cons (QOp.no rfl rfl rfl rfl (by decide) rfl rfl) (QAll.cons (QOp.no rfl rfl rfl rfl (by decide) rfl rfl) (QAll.cons (QOp.p hT rfl rfl rfl rfl rfl) (QAll.cons (QOp.p hT rfl rfl rfl rfl rfl) (QAll.cons (QOp.no rfl rfl rfl rfl (by decide) rfl rfl) (QAll.cons (QOp.no rfl rfl rfl rfl (by decide) rfl rfl) (QAll.cons (QOp.no rfl rfl rfl rfl (by decide) rfl rfl) (QAll.cons (QOp.no rfl rfl rfl rfl (by decide) rfl rfl) (QAll.cons (QOp.no rfl rfl rfl rfl (by decide) rfl rfl) (QAll.cons (QOp.no rfl rfl rfl rfl (by decide) rfl rfl) (QAll.cons (QOp.no rfl rfl rfl rfl (by decide) rfl rfl) (QAll.cons (QOp.no rfl rfl rfl rfl (by decide) rfl rfl) (QAll.cons (QOp.no rfl rfl rfl rfl (by decide) rfl rfl) (QAll.cons (QOp.p hT rfl rfl rfl rfl rfl) (QAll.cons (QOp.p hT rfl rfl rfl rfl rfl) (QAll.cons (QOp.no rfl rfl rfl rfl (by decide) rfl rfl) (QAll.cons (QOp.no rfl rfl rfl rfl (by decide) rfl rfl) (QAll.cons (QOp.no rfl rfl rfl rfl (by decide) rfl rfl) (QAll.cons (QOp.no rfl rfl rfl rfl (by decide) rfl rfl) (QAll.cons (QOp.no rfl rfl rfl rfl (by decide) rfl rfl) (QAll.cons (QOp.no rfl rfl rfl rfl (by decide) rfl rfl) (QAll.cons (QOp.no rfl rfl rfl rfl (by decide) rfl rfl) (QAll.cons (QOp.no rfl rfl rfl rfl (by decide) rfl rfl) QAll.nil)))))))))))))))))))))))))))))))))))) ?_
               refine EAll.cons ?_ EAll.nil
               refine EOp.no rfl rfl rfl rfl (by decide) rfl ?_
               apply Stg.next [(200, _), (201, _), (202, _)] rfl rfl
               refine Stg.fin [37, 38] rfl rfl (QAll.cons (QOp.no rfl rfl rfl rfl (by decide) rfl rfl) (QAll.cons (QOp.p hT rfl rfl rfl rfl rfl) QAll.nil)) ?_
               exact AtE.then_n ((HK32 _ () _ H).pickP (ts := [202, 4, 11, 19, 24, 153, 154, 155]) (is := []) rfl rfl (by decide) rfl)
              ·
               obtain ⟨v_18, hc34, H⟩ := H
               obtain ⟨a_10_, hc35, hd35, H⟩ := H
               obtain ⟨v_19, hc36, H⟩ := H
               rcases iteB.cases H with ⟨hb37, H⟩ | ⟨hb37, H⟩
               ·
                apply AtC.stages [36] [[], [], [], [], [], [], [], [], [], [], [], [], [], [], [], [], [], [], [], [], [], [], [], [], [], [], [], [], [], [], [], [], [], [], [], [], [], [36], [36]] [[], [], [1], [1, 2], [0, 1, 2, 3], [0, 1, 2, 3, 4], [0, 1, 2, 3, 4, 5], [0, 1, 2, 3, 4, 5, 6], [0, 1, 2, 3, 4, 5], [0, 1, 2, 3, 4, 5, 6, 7, 8], [0, 1, 2, 3, 4, 5, 6, 7, 8, 9], [0, 1, 2, 3, 4, 5, 6, 7, 8, 9, 10], [0, 1, 2, 3, 4, 5], [0, 1, 2, 3, 4, 5, 12], [0, 1, 2, 3, 4, 5, 6, 7, 8, 9, 10, 11, 12, 13], [0, 1, 2, 3, 4, 5, 6, 7, 8, 9, 10, 11, 12, 13, 14], [0, 1, 2, 3, 4, 5, 6, 7, 8, 9, 10, 11, 12, 13, 14, 15], [0, 1, 2, 3, 4, 5, 6, 7, 8, 9, 10, 11, 12, 13, 14, 15, 16], [0, 1, 2, 3, 4, 5, 6, 7, 8, 9, 10, 11, 12, 13, 14, 15, 16, 17], [0, 1, 2, 3, 4, 5, 6, 7, 8, 9, 10, 11, 12, 13, 14, 15, 16], [0, 1, 2, 3, 4, 5, 6, 7, 8, 9, 10, 11, 12, 13, 14, 15, 16, 17, 18, 19], [0, 1, 2, 3, 4, 5, 6, 7, 8, 9, 10, 11, 12, 13, 14, 15, 16, 17, 18, 19, 20], [0, 1, 2, 3, 4, 5, 6, 7, 8, 9, 10, 11, 12, 13, 14, 15, 16, 17, 18, 19, 20, 21], [0, 1, 2, 3, 4, 5, 6, 7, 8, 9, 10, 11, 12, 13, 14, 15, 16], [0, 1, 2, 3, 4, 5, 6, 7, 8, 9, 10, 11, 12, 13, 14, 15, 16, 23], [0, 1, 2, 3, 4, 5, 6, 7, 8, 9, 10, 11, 12, 13, 14, 15, 16, 17, 18, 19, 20, 21, 22, 23, 24], [0, 1, 2, 3, 4, 5, 6, 7, 8, 9, 10, 11, 12, 13, 14, 15, 16, 17, 18, 19, 20, 21, 22, 23, 24, 25], [0, 1, 2, 3, 4, 5, 6, 7, 8, 9, 10, 11, 12, 13, 14, 15, 16, 17, 18, 19, 20, 21, 22, 23, 24, 25, 26], [0, 1, 2, 3, 4, 5, 6, 7, 8, 9, 10, 11, 12, 13, 14, 15, 16, 17, 18, 19, 20, 21, 22, 23, 24, 25, 26, 27], [0, 1, 2, 3, 4, 5, 6, 7, 8, 9, 10, 11, 12, 13, 14, 15, 16, 17, 18, 19, 20, 21, 22, 23, 24, 25, 26, 27, 28], [0, 1, 2, 3, 4, 5, 6, 7, 8, 9, 10, 11, 12, 13, 14, 15, 16, 17, 18, 19, 20, 21, 22, 23, 24, 25, 26, 27], [0, 1, 2, 3, 4, 5, 6, 7, 8, 9, 10, 11, 12, 13, 14, 15, 16, 17, 18, 19, 20, 21, 22, 23, 24, 25, 26, 27, 28, 29, 30], [0, 1, 2, 3, 4, 5, 6, 7, 8, 9, 10, 11, 12, 13, 14, 15, 16, 17, 18, 19, 20, 21, 22, 23, 24, 25, 26, 27, 28, 29, 30, 31], [0, 1, 2, 3, 4, 5, 6, 7, 8, 9, 10, 11, 12, 13, 14, 15, 16, 17, 18, 19, 20, 21, 22, 23, 24, 25, 26, 27, 28, 29, 30, 31, 32], [0, 1, 2, 3, 4, 5, 6, 7, 8, 9, 10, 11, 12, 13, 14, 15, 16, 17, 18, 19, 20, 21, 22, 23, 24, 25, 26, 27], [0, 1, 2, 3, 4, 5, 6, 7, 8, 9, 10, 11, 12, 13, 14, 15, 16, 17, 18, 19, 20, 21, 22, 23, 24, 25, 26, 27, 34], [0, 1, 2, 3, 4, 5, 6, 7, 8, 9, 10, 11, 12, 13, 14, 15, 16, 17, 18, 19, 20, 21, 22, 23, 24, 25, 26, 27, 28, 29, 30, 31, 32, 33, 34, 35], [0, 1, 2, 3, 4, 5, 6, 7, 8, 9, 10, 11, 12, 13, 14, 15, 16, 17, 18, 19, 20, 21, 22, 23, 24, 25, 26, 27, 28, 29, 30, 31, 32, 33, 34, 35, 36], [0, 1, 2, 3, 4, 5, 6, 7, 8, 9, 10, 11, 12, 13, 14, 15, 16, 17, 18, 19, 20, 21, 22, 23, 24, 25, 26, 27, 28, 29, 30, 31, 32, 33, 34, 35, 36, 37]] hmix (by kernel_rfl) [(164, _), (165, _), (166, _), (167, _), (168, _), (169, _), (170, _), (171, _), (172, _), (173, _), (174, _), (175, _), (176, _), (177, _), (178, _), (179, _), (180, _), (181, _), (182, _), (183, _), (184, _), (185, _), (186, _), (187, _), (188, _), (189, _), (190, _), (191, _), (192, _), (193, _), (194, _), (195, _), (196, _), (197, _), (198, _), (199, _)] rfl 1 rfl
                refine Stg.known (t := 169) rfl hb33 ?_
                refine Stg.known (t := 180) rfl hb37 ?_
                refine Stg.go [0, 1, 2, 3, 4, 5, 6, 7, 8, 9, 10, 11, 12, 13, 14, 15, 16, 17, 18, 19, 20, 21, 22, 23, 24, 25, 26, 27, 28, 29, 30, 31, 32, 33, 34, 35] [36] rfl rfl (QAll.cons (QOp.p hT rfl rfl rfl rfl rfl) (QAll.cons (QOp.p hT rfl rfl rfl rfl rfl) (QAll.cons (QOp.q rfl rfl (Quiet1.load hT rfl rfl rfl hc32) rfl rfl) (QAll.cons (QOp.p hT rfl rfl rfl rfl rfl) (QAll.cons (QOp.p hT rfl rfl rfl rfl rfl) (QAll.cons (QOp.pk hT rfl rfl rfl rfl hb33 rfl) (QAll.cons (QOp.yp hT rfl rfl rfl rfl rfl rfl rfl) (QAll.cons (QOp.y rfl rfl rfl rfl (Quiet1.load hT rfl rfl rfl hc34) rfl rfl) (QAll.cons (QOp.yp hT rfl rfl rfl rfl rfl rfl rfl) (QAll.cons (QOp.y rfl rfl rfl rfl (Quiet1.idxS (s := _) hT rfl rfl rfl rfl rfl hc35 hd35) rfl rfl) (QAll.cons (QOp.yp hT rfl rfl rfl rfl rfl rfl rfl) (QAll.cons (QOp.y rfl rfl rfl rfl (Quiet1.load hT rfl rfl rfl hc36) rfl rfl) (QAll.cons (QOp.yp hT rfl rfl rfl rfl rfl rfl rfl) (QAll.cons (QOp.y rfl rfl rfl rfl (Quiet1.loadP (i := 0) hT rfl rfl rfl rfl rfl rfl) rfl rfl) (QAll.cons (QOp.yp hT rfl rfl rfl rfl rfl rfl rfl) (QAll.cons (QOp.p hT rfl rfl rfl rfl rfl) (QAll.cons (QOp.pk hT rfl rfl rfl rfl hb37 rfl) (QAll.cons (QOp.no rfl rfl rfl rfl (by decide) rfl rfl) (QAll.cons (QOp.no rfl rfl rfl rfl (by decide) rfl rfl) (QAll.cons (QOp.no rfl rfl rfl rfl (by decide) rfl rfl) (QAll.cons (QOp.no rfl rfl rfl rfl (by decide) rfl rfl) (QAll.cons (QOp.no rfl rfl rfl rfl (by decide) rfl rfl) (QAll.cons (QOp.no rfl rfl rfl rfl (by decide) rfl rfl) (QAll.cons (QOp.no rfl rfl rfl rfl (by decide) rfl rfl) (QAll.cons (QOp.no rfl rfl rfl rfl (by decide) rfl rfl) (QAll.cons (QOp.no rfl rfl rfl rfl (by decide) rfl rfl) (QAll.cons (QOp.p hT rfl rfl rfl rfl rfl) (QAll.cons (QOp.p hT rfl rfl rfl rfl rfl) (QAll.cons (QOp.no rfl rfl rfl rfl (by decide) rfl rfl) (QAll.cons (QOp.no rfl rfl rfl rfl (by decide) rfl rfl) (QAll.cons (QOp.no rfl rfl rfl rfl (by decide) rfl rfl) (QAll.cons (QOp.no rfl rfl rfl rfl (by decide) rfl rfl) (QAll.cons (QOp.no rfl rfl rfl rfl (by decide) rfl rfl) (QAll.cons (QOp.no rfl rfl rfl rfl (by decide) rfl rfl) (QAll.cons (QOp.no rfl rfl rfl rfl (by decide) rfl rfl) (QAll.cons (QOp.no rfl rfl rfl rfl (by decide) rfl rfl) QAll.nil)))))))))))))))))))))))))))))))))))) ?_
                refine EAll.cons ?_ EAll.nil
                refine EOp.no rfl rfl rfl rfl (by decide) rfl ?_
                apply Stg.next [(200, _), (201, _), (202, _)] rfl rfl
                refine Stg.fin [37, 38] rfl rfl (QAll.cons (QOp.no rfl rfl rfl rfl (by decide) rfl rfl) (QAll.cons (QOp.p hT rfl rfl rfl rfl rfl) QAll.nil)) ?_
                exact AtE.then_n ((HK32 _ () _ H).pickP (ts := [202, 4, 11, 19, 24, 153, 154, 155]) (is := []) rfl rfl (by decide) rfl)
               ·
                obtain ⟨v_20, hc38, H⟩ := H
                obtain ⟨a_11_, hc39, hd39, H⟩ := H
                obtain ⟨v_21, hc40, H⟩ := H
                rcases iteB.cases H with ⟨hb41, H⟩ | ⟨hb41, H⟩
                ·
                 apply AtC.stages [36] [[], [], [], [], [], [], [], [], [], [], [], [], [], [], [], [], [], [], [], [], [], [], [], [], [], [], [], [], [], [], [], [], [], [], [], [], [], [36], [36]] [[], [], [1], [1, 2], [0, 1, 2, 3], [0, 1, 2, 3, 4], [0, 1, 2, 3, 4, 5], [0, 1, 2, 3, 4, 5, 6], [0, 1, 2, 3, 4, 5], [0, 1, 2, 3, 4, 5, 6, 7, 8], [0, 1, 2, 3, 4, 5, 6, 7, 8, 9], [0, 1, 2, 3, 4, 5, 6, 7, 8, 9, 10], [0, 1, 2, 3, 4, 5], [0, 1, 2, 3, 4, 5, 12], [0, 1, 2, 3, 4, 5, 6, 7, 8, 9, 10, 11, 12, 13], [0, 1, 2, 3, 4, 5, 6, 7, 8, 9, 10, 11, 12, 13, 14], [0, 1, 2, 3, 4, 5, 6, 7, 8, 9, 10, 11, 12, 13, 14, 15], [0, 1, 2, 3, 4, 5, 6, 7, 8, 9, 10, 11, 12, 13, 14, 15, 16], [0, 1, 2, 3, 4, 5, 6, 7, 8, 9, 10, 11, 12, 13, 14, 15, 16, 17], [0, 1, 2, 3, 4, 5, 6, 7, 8, 9, 10, 11, 12, 13, 14, 15, 16], [0, 1, 2, 3, 4, 5, 6, 7, 8, 9, 10, 11, 12, 13, 14, 15, 16, 17, 18, 19], [0, 1, 2, 3, 4, 5, 6, 7, 8, 9, 10, 11, 12, 13, 14, 15, 16, 17, 18, 19, 20], [0, 1, 2, 3, 4, 5, 6, 7, 8, 9, 10, 11, 12, 13, 14, 15, 16, 17, 18, 19, 20, 21], [0, 1, 2, 3, 4, 5, 6, 7, 8, 9, 10, 11, 12, 13, 14, 15, 16], [0, 1, 2, 3, 4, 5, 6, 7, 8, 9, 10, 11, 12, 13, 14, 15, 16, 23], [0, 1, 2, 3, 4, 5, 6, 7, 8, 9, 10, 11, 12, 13, 14, 15, 16, 17, 18, 19, 20, 21, 22, 23, 24], [0, 1, 2, 3, 4, 5, 6, 7, 8, 9, 10, 11, 12, 13, 14, 15, 16, 17, 18, 19, 20, 21, 22, 23, 24, 25], [0, 1, 2, 3, 4, 5, 6, 7, 8, 9, 10, 11, 12, 13, 14, 15, 16, 17, 18, 19, 20, 21, 22, 23, 24, 25, 26], [0, 1, 2, 3, 4, 5, 6, 7, 8, 9, 10, 11, 12, 13, 14, 15, 16, 17, 18, 19, 20, 21, 22, 23, 24, 25, 26, 27], [0, 1, 2, 3, 4, 5, 6, 7, 8, 9, 10, 11, 12, 13, 14, 15, 16, 17, 18, 19, 20, 21, 22, 23, 24, 25, 26, 27, 28], [0, 1, 2, 3, 4, 5, 6, 7, 8, 9, 10, 11, 12, 13, 14, 15, 16, 17, 18, 19, 20, 21, 22, 23, 24, 25, 26, 27], [0, 1, 2, 3, 4, 5, 6, 7, 8, 9, 10, 11, 12, 13, 14, 15, 16, 17, 18, 19, 20, 21, 22, 23, 24, 25, 26, 27, 28, 29, 30], [0, 1, 2, 3, 4, 5, 6, 7, 8, 9, 10, 11, 12, 13, 14, 15, 16, 17, 18, 19, 20, 21, 22, 23, 24, 25, 26, 27, 28, 29, 30, 31], [0, 1, 2, 3, 4, 5, 6, 7, 8, 9, 10, 11, 12, 13, 14, 15, 16, 17, 18, 19, 20, 21, 22, 23, 24, 25, 26, 27, 28, 29, 30, 31, 32], [0, 1, 2, 3, 4, 5, 6, 7, 8, 9, 10, 11, 12, 13, 14, 15, 16, 17, 18, 19, 20, 21, 22, 23, 24, 25, 26, 27], [0, 1, 2, 3, 4, 5, 6, 7, 8, 9, 10, 11, 12, 13, 14, 15, 16, 17, 18, 19, 20, 21, 22, 23, 24, 25, 26, 27, 34], [0, 1, 2, 3, 4, 5, 6, 7, 8, 9, 10, 11, 12, 13, 14, 15, 16, 17, 18, 19, 20, 21, 22, 23, 24, 25, 26, 27, 28, 29, 30, 31, 32, 33, 34, 35], [0, 1, 2, 3, 4, 5, 6, 7, 8, 9, 10, 11, 12, 13, 14, 15, 16, 17, 18, 19, 20, 21, 22, 23, 24, 25, 26, 27, 28, 29, 30, 31, 32, 33, 34, 35, 36], [0, 1, 2, 3, 4, 5, 6, 7, 8, 9, 10, 11, 12, 13, 14, 15, 16, 17, 18, 19, 20, 21, 22, 23, 24, 25, 26, 27, 28, 29, 30, 31, 32, 33, 34, 35, 36, 37]] hmix (by kernel_rfl) [(164, _), (165, _), (166, _), (167, _), (168, _), (169, _), (170, _), (171, _), (172, _), (173, _), (174, _), (175, _), (176, _), (177, _), (178, _), (179, _), (180, _), (181, _), (182, _), (183, _), (184, _), (185, _), (186, _), (187, _), (188, _), (189, _), (190, _), (191, _), (192, _), (193, _), (194, _), (195, _), (196, _), (197, _), (198, _), (199, _)] rfl 1 rfl
                 refine Stg.known (t := 169) rfl hb33 ?_
                 refine Stg.known (t := 180) rfl hb37 ?_
                 refine Stg.known (t := 191) rfl hb41 ?_
                 refine Stg.go [0, 1, 2, 3, 4, 5, 6, 7, 8, 9, 10, 11, 12, 13, 14, 15, 16, 17, 18, 19, 20, 21, 22, 23, 24, 25, 26, 27, 28, 29, 30, 31, 32, 33, 34, 35] [36] rfl rfl (QAll.cons (QOp.p hT rfl rfl rfl rfl rfl) (QAll.cons (QOp.p hT rfl rfl rfl rfl rfl) (QAll.cons (QOp.q rfl rfl (Quiet1.load hT rfl rfl rfl hc32) rfl rfl) (QAll.cons (QOp.p hT rfl rfl rfl rfl rfl) (QAll.cons (QOp.p hT rfl rfl rfl rfl rfl) (QAll.cons (QOp.pk hT rfl rfl rfl rfl hb33 rfl) (QAll.cons (QOp.yp hT rfl rfl rfl rfl rfl rfl rfl) (QAll.cons (QOp.y rfl rfl rfl rfl (Quiet1.load hT rfl rfl rfl hc34) rfl rfl) (QAll.cons (QOp.yp hT rfl rfl rfl rfl rfl rfl rfl) (QAll.cons (QOp.y rfl rfl rfl rfl (Quiet1.idxS (s := _) hT rfl rfl rfl rfl rfl hc35 hd35) rfl rfl) (QAll.cons (QOp.yp hT rfl rfl rfl rfl rfl rfl rfl) (QAll.cons (QOp.y rfl rfl rfl rfl (Quiet1.load hT rfl rfl rfl hc36) rfl rfl) (QAll.cons (QOp.yp hT rfl rfl rfl rfl rfl rfl rfl) (QAll.cons (QOp.y rfl rfl rfl rfl (Quiet1.loadP (i := 0) hT rfl rfl rfl rfl rfl rfl) rfl rfl) (QAll.cons (QOp.yp hT rfl rfl rfl rfl rfl rfl rfl) (QAll.cons (QOp.p hT rfl rfl rfl rfl rfl) (QAll.cons (QOp.pk hT rfl rfl rfl rfl hb37 rfl) (QAll.cons (QOp.yp hT rfl rfl rfl rfl rfl rfl rfl) (QAll.cons (QOp.y rfl rfl rfl rfl (Quiet1.load hT rfl rfl rfl hc38) rfl rfl) (QAll.cons (QOp.yp hT rfl rfl rfl rfl rfl rfl rfl) (QAll.cons (QOp.y rfl rfl rfl rfl (Quiet1.idxS (s := _) hT rfl rfl rfl rfl rfl hc39 hd39) rfl rfl) (QAll.cons (QOp.yp hT rfl rfl rfl rfl rfl rfl rfl) (QAll.cons (QOp.y rfl rfl rfl rfl (Quiet1.load hT rfl rfl rfl hc40) rfl rfl) (QAll.cons (QOp.yp hT rfl rfl rfl rfl rfl rfl rfl) (QAll.cons (QOp.y rfl rfl rfl rfl (Quiet1.loadP (i := 0) hT rfl rfl rfl rfl rfl rfl) rfl rfl) (QAll.cons (QOp.yp hT rfl rfl rfl rfl rfl rfl rfl) (QAll.cons (QOp.p hT rfl rfl rfl rfl rfl) (QAll.cons (QOp.pk hT rfl rfl rfl rfl hb41 rfl) (QAll.cons (QOp.no rfl rfl rfl rfl (by decide) rfl rfl) (QAll.cons (QOp.no rfl rfl rfl rfl (by decide) rfl rfl) (QAll.cons (QOp.no rfl rfl rfl rfl (by decide) rfl rfl) (QAll.cons (QOp.no rfl rfl rfl rfl (by decide) rfl rfl) (QAll.cons (QOp.no rfl rfl rfl rfl (by decide) rfl rfl) (QAll.cons (QOp.no rfl rfl rfl rfl (by decide) rfl rfl) (QAll.cons (QOp.no rfl rfl rfl rfl (by decide) rfl rfl) (QAll.cons (QOp.no rfl rfl rfl rfl (by decide) rfl rfl) QAll.nil)))))))))))))))))))))))))))))))))))) ?_
                 refine EAll.cons ?_ EAll.nil
                 refine EOp.no rfl rfl rfl rfl (by decide) rfl ?_
                 apply Stg.next [(200, _), (201, _), (202, _)] rfl rfl
                 refine Stg.fin [37, 38] rfl rfl (QAll.cons (QOp.no rfl rfl rfl rfl (by decide) rfl rfl) (QAll.cons (QOp.p hT rfl rfl rfl rfl rfl) QAll.nil)) ?_
                 exact AtE.then_n ((HK32 _ () _ H).pickP (ts := [202, 4, 11, 19, 24, 153, 154, 155]) (is := []) rfl rfl (by decide) rfl)
                ·
                 obtain ⟨v_22, hc42, H⟩ := H
                 obtain ⟨a_12_, hc43, hd43, H⟩ := H
                 obtain ⟨v_23, hc44, H⟩ := H
                 apply AtC.stages [36] [[], [], [], [], [], [], [], [], [], [], [], [], [], [], [], [], [], [], [], [], [], [], [], [], [], [], [], [], [], [], [], [], [], [], [], [], [], [36], [36]] [[], [], [1], [1, 2], [0, 1, 2, 3], [0, 1, 2, 3, 4], [0, 1, 2, 3, 4, 5], [0, 1, 2, 3, 4, 5, 6], [0, 1, 2, 3, 4, 5], [0, 1, 2, 3, 4, 5, 6, 7, 8], [0, 1, 2, 3, 4, 5, 6, 7, 8, 9], [0, 1, 2, 3, 4, 5, 6, 7, 8, 9, 10], [0, 1, 2, 3, 4, 5], [0, 1, 2, 3, 4, 5, 12], [0, 1, 2, 3, 4, 5, 6, 7, 8, 9, 10, 11, 12, 13], [0, 1, 2, 3, 4, 5, 6, 7, 8, 9, 10, 11, 12, 13, 14], [0, 1, 2, 3, 4, 5, 6, 7, 8, 9, 10, 11, 12, 13, 14, 15], [0, 1, 2, 3, 4, 5, 6, 7, 8, 9, 10, 11, 12, 13, 14, 15, 16], [0, 1, 2, 3, 4, 5, 6, 7, 8, 9, 10, 11, 12, 13, 14, 15, 16, 17], [0, 1, 2, 3, 4, 5, 6, 7, 8, 9, 10, 11, 12, 13, 14, 15, 16], [0, 1, 2, 3, 4, 5, 6, 7, 8, 9, 10, 11, 12, 13, 14, 15, 16, 17, 18, 19], [0, 1, 2, 3, 4, 5, 6, 7, 8, 9, 10, 11, 12, 13, 14, 15, 16, 17, 18, 19, 20], [0, 1, 2, 3, 4, 5, 6, 7, 8, 9, 10, 11, 12, 13, 14, 15, 16, 17, 18, 19, 20, 21], [0, 1, 2, 3, 4, 5, 6, 7, 8, 9, 10, 11, 12, 13, 14, 15, 16], [0, 1, 2, 3, 4, 5, 6, 7, 8, 9, 10, 11, 12, 13, 14, 15, 16, 23], [0, 1, 2, 3, 4, 5, 6, 7, 8, 9, 10, 11, 12, 13, 14, 15, 16, 17, 18, 19, 20, 21, 22, 23, 24], [0, 1, 2, 3, 4, 5, 6, 7, 8, 9, 10, 11, 12, 13, 14, 15, 16, 17, 18, 19, 20, 21, 22, 23, 24, 25], [0, 1, 2, 3, 4, 5, 6, 7, 8, 9, 10, 11, 12, 13, 14, 15, 16, 17, 18, 19, 20, 21, 22, 23, 24, 25, 26], [0, 1, 2, 3, 4, 5, 6, 7, 8, 9, 10, 11, 12, 13, 14, 15, 16, 17, 18, 19, 20, 21, 22, 23, 24, 25, 26, 27], [0, 1, 2, 3, 4, 5, 6, 7, 8, 9, 10, 11, 12, 13, 14, 15, 16, 17, 18, 19, 20, 21, 22, 23, 24, 25, 26, 27, 28], [0, 1, 2, 3, 4, 5, 6, 7, 8, 9, 10, 11, 12, 13, 14, 15, 16, 17, 18, 19, 20, 21, 22, 23, 24, 25, 26, 27], [0, 1, 2, 3, 4, 5, 6, 7, 8, 9, 10, 11, 12, 13, 14, 15, 16, 17, 18, 19, 20, 21, 22, 23, 24, 25, 26, 27, 28, 29, 30], [0, 1, 2, 3, 4, 5, 6, 7, 8, 9, 10, 11, 12, 13, 14, 15, 16, 17, 18, 19, 20, 21, 22, 23, 24, 25, 26, 27, 28, 29, 30, 31], [0, 1, 2, 3, 4, 5, 6, 7, 8, 9, 10, 11, 12, 13, 14, 15, 16, 17, 18, 19, 20, 21, 22, 23, 24, 25, 26, 27, 28, 29, 30, 31, 32], [0, 1, 2, 3, 4, 5, 6, 7, 8, 9, 10, 11, 12, 13, 14, 15, 16, 17, 18, 19, 20, 21, 22, 23, 24, 25, 26, 27], [0, 1, 2, 3, 4, 5, 6, 7, 8, 9, 10, 11, 12, 13, 14, 15, 16, 17, 18, 19, 20, 21, 22, 23, 24, 25, 26, 27, 34], [0, 1, 2, 3, 4, 5, 6, 7, 8, 9, 10, 11, 12, 13, 14, 15, 16, 17, 18, 19, 20, 21, 22, 23, 24, 25, 26, 27, 28, 29, 30, 31, 32, 33, 34, 35], [0, 1, 2, 3, 4, 5, 6, 7, 8, 9, 10, 11, 12, 13, 14, 15, 16, 17, 18, 19, 20, 21, 22, 23, 24, 25, 26, 27, 28, 29, 30, 31, 32, 33, 34, 35, 36], [0, 1, 2, 3, 4, 5, 6, 7, 8, 9, 10, 11, 12, 13, 14, 15, 16, 17, 18, 19, 20, 21, 22, 23, 24, 25, 26, 27, 28, 29, 30, 31, 32, 33, 34, 35, 36, 37]] hmix (by kernel_rfl) [(164, _), (165, _), (166, _), (167, _), (168, _), (169, _), (170, _), (171, _), (172, _), (173, _), (174, _), (175, _), (176, _), (177, _), (178, _), (179, _), (180, _), (181, _), (182, _), (183, _), (184, _), (185, _), (186, _), (187, _), (188, _), (189, _), (190, _), (191, _), (192, _), (193, _), (194, _), (195, _), (196, _), (197, _), (198, _), (199, _)] rfl 1 rfl
                 refine Stg.known (t := 169) rfl hb33 ?_
                 refine Stg.known (t := 180) rfl hb37 ?_
                 refine Stg.known (t := 191) rfl hb41 ?_
                 refine Stg.go [0, 1, 2, 3, 4, 5, 6, 7, 8, 9, 10, 11, 12, 13, 14, 15, 16, 17, 18, 19, 20, 21, 22, 23, 24, 25, 26, 27, 28, 29, 30, 31, 32, 33, 34, 35] [36] rfl rfl (QAll.cons (QOp.p hT rfl rfl rfl rfl rfl) (QAll.cons (QOp.p hT rfl rfl rfl rfl rfl) (QAll.cons (QOp.q rfl rfl (Quiet1.load hT rfl rfl rfl hc32) rfl rfl) (QAll.cons (QOp.p hT rfl rfl rfl rfl rfl) (QAll.cons (QOp.p hT rfl rfl rfl rfl rfl) (QAll.cons (QOp.pk hT rfl rfl rfl rfl hb33 rfl) (QAll.cons (QOp.yp hT rfl rfl rfl rfl rfl rfl rfl) (QAll.cons (QOp.y rfl rfl rfl rfl (Quiet1.load hT rfl rfl rfl hc34) rfl rfl) (QAll.cons (QOp.yp hT rfl rfl rfl rfl rfl rfl rfl) (QAll.cons (QOp.y rfl rfl rfl rfl (Quiet1.idxS (s := _) hT rfl rfl rfl rfl rfl hc35 hd35) rfl rfl) (QAll.cons (QOp.yp hT rfl rfl rfl rfl rfl rfl rfl) (QAll.cons (QOp.y rfl rfl rfl rfl (Quiet1.load hT rfl rfl rfl hc36) rfl rfl) (QAll.cons (QOp.yp hT rfl rfl rfl rfl rfl rfl rfl) (QAll.cons (QOp.y rfl rfl rfl rfl (Quiet1.loadP (i := 0) hT rfl rfl rfl rfl rfl rfl) rfl rfl) (QAll.cons (QOp.yp hT rfl rfl rfl rfl rfl rfl rfl) (QAll.cons (QOp.p hT rfl rfl rfl rfl rfl) (QAll.cons (QOp.pk hT rfl rfl rfl rfl hb37 rfl) (QAll.cons (QOp.yp hT rfl rfl rfl rfl rfl rfl rfl) (QAll.cons (QOp.y rfl rfl rfl rfl (Quiet1.load hT rfl rfl rfl hc38) rfl rfl) (QAll.cons (QOp.yp hT rfl rfl rfl rfl rfl rfl rfl) (QAll.cons (QOp.y rfl rfl rfl rfl (Quiet1.idxS (s := _) hT rfl rfl rfl rfl rfl hc39 hd39) rfl rfl) (QAll.cons (QOp.yp hT rfl rfl rfl rfl rfl rfl rfl) (QAll.cons (QOp.y rfl rfl rfl rfl (Quiet1.load hT rfl rfl rfl hc40) rfl rfl) (QAll.cons (QOp.yp hT rfl rfl rfl rfl rfl rfl rfl) (QAll.cons (QOp.y rfl rfl rfl rfl (Quiet1.loadP (i := 0) hT rfl rfl rfl rfl rfl rfl) rfl rfl) (QAll.cons (QOp.yp hT rfl rfl rfl rfl rfl rfl rfl) (QAll.cons (QOp.p hT rfl rfl rfl rfl rfl) (QAll.cons (QOp.pk hT rfl rfl rfl rfl hb41 rfl) (QAll.cons (QOp.yp hT rfl rfl rfl rfl rfl rfl rfl) (QAll.cons (QOp.y rfl rfl rfl rfl (Quiet1.load hT rfl rfl rfl hc42) rfl rfl) (QAll.cons (QOp.yp hT rfl rfl rfl rfl rfl rfl rfl) (QAll.cons (QOp.y rfl rfl rfl rfl (Quiet1.idxS (s := _) hT rfl rfl rfl rfl rfl hc43 hd43) rfl rfl) (QAll.cons (QOp.yp hT rfl rfl rfl rfl rfl rfl rfl) (QAll.cons (QOp.y rfl rfl rfl rfl (Quiet1.load hT rfl rfl rfl hc44) rfl rfl) (QAll.cons (QOp.yp hT rfl rfl rfl rfl rfl rfl rfl) (QAll.cons (QOp.y rfl rfl rfl rfl (Quiet1.loadP (i := 0) hT rfl rfl rfl rfl rfl rfl) rfl rfl) QAll.nil)))))))))))))))))))))))))))))))))))) ?_
                 refine EAll.cons ?_ EAll.nil
                 refine EOp.y rfl rfl rfl rfl rfl (EffX.call (f := 10) (sh := fun h => ref18uSameInts _ _ h _) (H0 := H) rfl Try.call10 rfl (hl := fun w m hr hw => lift_ref18uSameInts _ _ w m hr _ hw)) ?_
                 rintro _ _ ⟨v_24, h0u27, rfl, rfl, H⟩
                 apply Stg.next [(200, _), (201, _), (202, _)] rfl rfl
                 refine Stg.fin [37, 38] rfl rfl (QAll.cons (QOp.yp hT rfl rfl rfl rfl rfl rfl rfl) (QAll.cons (QOp.p hT rfl rfl rfl rfl rfl) QAll.nil)) ?_
                 exact AtE.then_n ((HK32 _ () _ H).pickP (ts := [202, 4, 11, 19, 24, 153, 154, 155]) (is := []) rfl rfl (by decide) rfl)
          ·
           refine AtC.exit ?_
           refine AtE.then_x ?_
           refine AtE.then_x ?_
           refine AtE.blk_hit ?_
           refine AtE.then_n (AtE.go ?_)
           refine AtC.seq ?_
           refine AtC.joinSeq (β := Unit) (fun (t0u8 : Bool) (bb_8 : Unit) => [(215, Value.bool t0u8)]) (fun (t0u8 : Bool) (bb_8 : Unit) => []) [4, 11] [] H (by exact rfl) (by exact rfl) (fun t0u8 bb_8 h0u28 H => ?_) (fun J46 H HK46 => ?_)
           ·
            refine AtC.condB H rfl (fun H => ?_) (fun H => ?_)
            ·
             refine AtC.seqR ?_
             refine AtL.pures hT 1 _ _ _ _ rfl ?_
             refine AtL.nil ?_
             refine AtE.then_n (AtE.go ?_)
             refine AtC.ret ?_
             refine AtE.then_r ?_
             exact AtE.retN (rs := [.tmp 10]) rfl (ResAll.cons (ResAt.tmp rfl) ResAll.nil) rfl H
            ·
             refine AtC.skip ?_
             refine AtE.then_n (AtE.go ?_)
             refine AtC.seq ?_
             refine AtC.seqR ?_
             refine AtL.pures hT 3 _ _ _ _ rfl ?_
             refine AtL.nil ?_
             refine AtE.then_n (AtE.go ?_)
             refine AtC.block ?_
             refine AtC.loopM (fun (s0u6 : Int) => [(218, Value.int .i64 s0u6)]) (fun (s0u6 : Int) => []) [11, 216, 217] [218, 11, 216, 217] [] [] H (by exact rfl) (by exact rfl) (by exact rfl) (by decide) (by exact rfl) (fun Kp49 s0u6 h0u30 H Q49 HK49 => ?_)
             refine AtC.seqR ?_
             refine AtL.pures hT 1 _ _ _ _ rfl ?_
             refine AtL.nil ?_
             refine AtE.then_n (AtE.go ?_)
             refine AtC.seq ?_
             refine AtC.condB H rfl (fun H => ?_) (fun H => ?_)
             ·
              refine AtC.skip ?_
              refine AtE.then_n (AtE.go ?_)
              refine AtC.joinSeq (β := Unit) (fun (t0u9 : Unit) (bb_9 : Unit) => []) (fun (t0u9 : Unit) (bb_9 : Unit) => []) [11, 216, 217, 218] [] H (by exact rfl) (by exact rfl) (fun t0u9 bb_9 h0u31 H => ?_) (fun J50 H HK50 => ?_)
              ·
               refine AtC.region ?_
               refine AtL.pures hT 2 _ _ _ _ rfl ?_
               refine AtL.nil ?_
               exact AtE.then_n ((HK49 _ _ H).pickP (ts := [218, 11, 216, 217]) (is := []) rfl rfl (by decide) rfl)
              ·
               refine AtC.block ?_
               refine AtC.seqR ?_
               obtain ⟨a_13_, hc50, hd50, H⟩ := H
               refine AtL.q rfl (Quiet1.idxS (s := _) hT rfl rfl rfl rfl rfl hc50 hd50) ?_
               obtain ⟨v_28, hc51, H⟩ := H
               refine AtL.q rfl (Quiet1.load hT rfl rfl rfl hc51) ?_
               refine AtL.pures hT 1 _ _ _ _ rfl ?_
               refine AtL.nil ?_
               refine AtE.then_n (AtE.go ?_)
               refine AtC.seq ?_
               refine AtC.seqR ?_
               refine AtL.pures hT 1 _ _ _ _ rfl ?_
               refine AtL.e rfl (EffX.call (f := 12) (sh := fun h => clause_Decide _ _ h _) (H0 := H) rfl Try.call12 rfl (hl := fun w m hr hw => lift_clause_Decide _ _ w m hr _ hw)) ?_
               rintro _ _ ⟨v_29, h0u32, rfl, rfl, H⟩
               refine AtL.pures hT 1 _ _ _ _ rfl ?_
               refine AtL.nil ?_
               refine AtE.then_n (AtE.go ?_)
               refine AtC.condB H rfl (fun H => ?_) (fun H => ?_)
               ·
                refine AtC.exit ?_
                refine AtE.then_x ?_
                refine AtE.blk_hit ?_
                exact AtE.then_n ((HK50 _ () _ H).pickP (ts := [11, 216, 217, 218]) (is := []) rfl rfl (by decide) rfl)
               ·
                refine AtC.skip ?_
                refine AtE.then_n (AtE.go ?_)
                refine AtC.seqR ?_
                refine AtL.pures hT 1 _ _ _ _ rfl ?_
                obtain ⟨v_30, hc52, H⟩ := H
                refine AtL.q rfl (Quiet1.load hT rfl rfl rfl hc52) ?_
                refine AtL.pures hT 1 _ _ _ _ rfl ?_
                obtain ⟨v_31, hc53, H⟩ := H
                refine AtL.q rfl (Quiet1.load hT rfl rfl rfl hc53) ?_
                refine AtL.e rfl (EffX.call (f := 13) (sh := fun h => ref18uClose _ _ h _) (H0 := H) rfl Try.call13 rfl (hl := fun w m hr hw => lift_ref18uClose _ _ w m hr _ hw)) ?_
                rintro _ _ ⟨v_32, h0u33, rfl, rfl, H⟩
                refine AtL.pures hT 5 _ _ _ _ rfl ?_
                refine AtL.nil ?_
                refine AtE.then_n (AtE.go ?_)
                refine AtC.seq ?_
                refine AtC.seqR ?_
                refine AtL.e rfl (EffX.call (f := 14) (sh := fun h => clause_Run _ h _) (H0 := H) rfl Try.call14 rfl (hl := fun w m hr hw => lift_clause_Run _ w m hr _ hw)) ?_
                rintro _ _ ⟨v_33, h0u34, rfl, rfl, H⟩
                refine AtL.pures hT 1 _ _ _ _ rfl ?_
                refine AtL.nil ?_
                refine AtE.then_n (AtE.go ?_)
                refine AtC.seqR ?_
                refine AtL.pures hT 4 _ _ _ _ rfl ?_
                refine AtL.nil ?_
                refine AtE.then_n (AtE.go ?_)
                refine AtC.condB H rfl (fun H => ?_) (fun H => ?_)
                ·
                 refine AtC.seqR ?_
                 refine AtL.pures hT 1 _ _ _ _ rfl ?_
                 refine AtL.nil ?_
                 refine AtE.then_n (AtE.go ?_)
                 refine AtC.ret ?_
                 refine AtE.then_r ?_
                 refine AtE.blk_r ?_
                 refine AtE.then_r ?_
                 refine AtE.then_r ?_
                 refine AtE.blk_r ?_
                 refine AtE.then_r ?_
                 exact AtE.retN (rs := [.tmp 10]) rfl (ResAll.cons (ResAt.tmp rfl) ResAll.nil) rfl H
                ·
                 refine AtC.seqR ?_
                 refine AtL.pures hT 1 _ _ _ _ rfl ?_
                 refine AtL.nil ?_
                 refine AtE.then_n (AtE.go ?_)
                 refine AtC.condB H rfl (fun H => ?_) (fun H => ?_)
                 ·
                  refine AtC.seqR ?_
                  refine AtL.pures hT 1 _ _ _ _ rfl ?_
                  refine AtL.nil ?_
                  refine AtE.then_n (AtE.go ?_)
                  refine AtC.ret ?_
                  refine AtE.then_r ?_
                  refine AtE.blk_r ?_
                  refine AtE.then_r ?_
                  refine AtE.then_r ?_
                  refine AtE.blk_r ?_
                  refine AtE.then_r ?_
                  exact AtE.retN (rs := [.tmp 10]) rfl (ResAll.cons (ResAt.tmp rfl) ResAll.nil) rfl H
                 ·
                  refine AtC.skip ?_
                  refine AtE.then_n (AtE.go ?_)
                  refine AtC.seqR ?_
                  refine AtL.pures hT 1 _ _ _ _ rfl ?_
                  obtain ⟨v_34, hc54, H⟩ := H
                  refine AtL.q rfl (Quiet1.load hT rfl rfl rfl hc54) ?_
                  refine AtL.pures hT 1 _ _ _ _ rfl ?_
                  refine AtL.e rfl (EffX.call (f := 10) (sh := fun h => ref18uSameInts _ _ h _) (H0 := H) rfl Try.call10 rfl (hl := fun w m hr hw => lift_ref18uSameInts _ _ w m hr _ hw)) ?_
                  rintro _ _ ⟨v_35, h0u35, rfl, rfl, H⟩
                  refine AtL.pures hT 1 _ _ _ _ rfl ?_
                  refine AtL.nil ?_
                  refine AtE.then_n (AtE.go ?_)
                  refine AtC.condB H rfl (fun H => ?_) (fun H => ?_)
                  ·
                   refine AtC.seqR ?_
                   refine AtL.pures hT 1 _ _ _ _ rfl ?_
                   refine AtL.nil ?_
                   refine AtE.then_n (AtE.go ?_)
                   refine AtC.ret ?_
                   refine AtE.blk_r ?_
                   refine AtE.then_r ?_
                   refine AtE.then_r ?_
                   refine AtE.blk_r ?_
                   refine AtE.then_r ?_
                   exact AtE.retN (rs := [.tmp 10]) rfl (ResAll.cons (ResAt.tmp rfl) ResAll.nil) rfl H
                  ·
                   refine AtC.skip ?_
                   refine AtE.blk_n ?_
                   exact AtE.then_n ((HK50 _ () _ H).pickP (ts := [11, 216, 217, 218]) (is := []) rfl rfl (by decide) rfl)
             ·
              refine AtC.exit ?_
              refine AtE.then_x ?_
              refine AtE.then_x ?_
              refine AtE.blk_hit ?_
              refine AtE.then_n (AtE.go ?_)
              refine AtC.seq ?_
              refine AtC.seqR ?_
              refine AtL.pures hT 1 _ _ _ _ rfl ?_
              obtain ⟨v_36, hc55, H⟩ := H
              refine AtL.q rfl (Quiet1.load hT rfl rfl rfl hc55) ?_
              refine AtL.pures hT 2 _ _ _ _ rfl ?_
              refine AtL.nil ?_
              refine AtE.then_n (AtE.go ?_)
              refine AtC.condB H rfl (fun H => ?_) (fun H => ?_)
              ·
               refine AtC.seqR ?_
               refine AtL.pures hT 1 _ _ _ _ rfl ?_
               obtain ⟨v_37, hc56, H⟩ := H
               refine AtL.q rfl (Quiet1.load hT rfl rfl rfl hc56) ?_
               refine AtL.pures hT 2 _ _ _ _ rfl ?_
               replace H := H _ rfl
               refine AtL.nil ?_
               refine AtE.then_n (AtE.go ?_)
               refine AtC.seqR ?_
               refine AtL.e rfl (EffX.call (f := 9) (sh := fun h => clause_Reduce _ _ h _) (H0 := H) rfl Try.call9 rfl (hl := fun w m hr hw => lift_clause_Reduce _ _ w m hr _ hw)) ?_
               rintro _ _ ⟨v_38, h0u36, rfl, rfl, H⟩
               refine AtL.nil ?_
               refine AtE.then_n (AtE.go ?_)
               refine AtC.seqR ?_
               refine AtL.pures hT 1 _ _ _ _ rfl ?_
               obtain ⟨v_39, hc57, H⟩ := H
               refine AtL.q rfl (Quiet1.load hT rfl rfl rfl hc57) ?_
               refine AtL.pures hT 4 _ _ _ _ rfl ?_
               refine AtL.nil ?_
               refine AtE.then_n (AtE.go ?_)
               refine AtC.ret ?_
               refine AtE.then_r ?_
               exact AtE.retN (rs := [.tmp 10]) rfl (ResAll.cons (ResAt.tmp rfl) ResAll.nil) rfl H
              ·
               refine AtC.skip ?_
               refine AtE.then_n (AtE.go ?_)
               refine AtC.seqR ?_
               refine AtL.pures hT 1 _ _ _ _ rfl ?_
               refine AtL.nil ?_
               refine AtE.then_n (AtE.go ?_)
               refine AtC.ret ?_
               exact AtE.retN (rs := [.tmp 10]) rfl (ResAll.cons (ResAt.tmp rfl) ResAll.nil) rfl H
           ·
            refine AtC.region ?_
            refine AtL.pures hT 2 _ _ _ _ rfl ?_
            obtain ⟨v_25, hc46, H⟩ := H
            refine AtL.q rfl (Quiet1.load hT rfl rfl rfl hc46) ?_
            refine AtL.pures hT 3 _ _ _ _ rfl ?_
            refine AtL.splitB (t := 211) H rfl (fun H => ?_) (fun H => ?_)
            ·
             refine AtL.noF rfl rfl rfl (by decide) rfl ?_
             refine AtL.noF rfl rfl rfl (by decide) rfl ?_
             refine AtL.noF rfl rfl rfl (by decide) rfl ?_
             refine AtL.pures hT 1 _ _ _ _ rfl ?_
             refine AtL.nil ?_
             exact AtE.then_n ((HK46 _ () _ H).pickP (ts := [215, 4, 11]) (is := []) rfl rfl (by decide) rfl)
            ·
             refine AtL.yes rfl rfl rfl ?_
             obtain ⟨v_26, hc47, H⟩ := H
             refine AtL.q rfl (Quiet1.loadS hT rfl rfl rfl rfl hc47) ?_
             refine AtL.yes rfl rfl rfl ?_
             refine AtL.e rfl (EffX.call (f := 11) (sh := fun h => ref18uRight _ h _) (H0 := H) rfl Try.call11 rfl (hl := fun w m hr hw => lift_ref18uRight _ w m hr _ hw)) ?_
             rintro _ _ ⟨v_27, h0u29, rfl, rfl, H⟩
             refine AtL.yes rfl rfl rfl ?_
             refine AtL.pures hT 1 _ _ _ _ rfl ?_
             refine AtL.pures hT 1 _ _ _ _ rfl ?_
             refine AtL.nil ?_
             exact AtE.then_n ((HK46 _ () _ H).pickP (ts := [215, 4, 11]) (is := []) rfl rfl (by decide) rfl)
        ·
         refine AtC.seqR ?_
         refine AtL.pures hT 4 _ _ _ _ rfl ?_
         refine AtL.nil ?_
         refine AtE.then_n (AtE.go ?_)
         refine AtC.condB H rfl (fun H => ?_) (fun H => ?_)
         ·
          refine AtC.region ?_
          refine AtL.pures hT 4 _ _ _ _ rfl ?_
          replace H := H _ rfl
          refine AtL.nil ?_
          exact AtE.then_n ((HK14 _ () _ H).pickP (ts := [18, 4, 11, 14, 15]) (is := []) rfl rfl (by decide) rfl)
         ·
          refine AtC.skip ?_
          exact AtE.then_n ((HK14 _ () _ H).pickP (ts := [18, 4, 11, 14, 15]) (is := []) rfl rfl (by decide) rfl)
   ·
    refine AtC.region ?_
    refine AtL.pures hT 3 _ _ _ _ rfl ?_
    refine AtL.splitB (t := 37) H rfl (fun H => ?_) (fun H => ?_)
    ·
     refine AtL.noF rfl rfl rfl (by decide) rfl ?_
     refine AtL.noF rfl rfl rfl (by decide) rfl ?_
     refine AtL.pures hT 2 _ _ _ _ rfl ?_
     refine AtL.noF rfl rfl rfl (by decide) rfl ?_
     refine AtL.noF rfl rfl rfl (by decide) rfl ?_
     refine AtL.pures hT 2 _ _ _ _ rfl ?_
     refine AtL.noF rfl rfl rfl (by decide) rfl ?_
     refine AtL.noF rfl rfl rfl (by decide) rfl ?_
     refine AtL.noF rfl rfl rfl (by decide) rfl ?_
     refine AtL.pures hT 2 _ _ _ _ rfl ?_
     refine AtL.noF rfl rfl rfl (by decide) rfl ?_
     refine AtL.noF rfl rfl rfl (by decide) rfl ?_
     refine AtL.noF rfl rfl rfl (by decide) rfl ?_
     refine AtL.pures hT 1 _ _ _ _ rfl ?_
     refine AtL.nil ?_
     exact AtE.then_n ((HK1 _ () _ H).pickP (ts := [54, 0, 1, 2, 3, 4]) (is := []) rfl rfl (by decide) rfl)
    ·
     refine AtL.yes rfl rfl rfl ?_
     refine AtL.pures hT 1 _ _ _ _ rfl ?_
     refine AtL.yes rfl rfl rfl ?_
     refine AtL.pures hT 1 _ _ _ _ rfl ?_
     refine AtL.pures hT 2 _ _ _ _ rfl ?_
     refine AtL.splitB (t := 41) H rfl (fun H => ?_) (fun H => ?_)
     ·
      refine AtL.noF rfl rfl rfl (by decide) rfl ?_
      refine AtL.noF rfl rfl rfl (by decide) rfl ?_
      refine AtL.pures hT 2 _ _ _ _ rfl ?_
      refine AtL.noF rfl rfl rfl (by decide) rfl ?_
      refine AtL.noF rfl rfl rfl (by decide) rfl ?_
      refine AtL.noF rfl rfl rfl (by decide) rfl ?_
      refine AtL.pures hT 2 _ _ _ _ rfl ?_
      refine AtL.noF rfl rfl rfl (by decide) rfl ?_
      refine AtL.noF rfl rfl rfl (by decide) rfl ?_
      refine AtL.noF rfl rfl rfl (by decide) rfl ?_
      refine AtL.pures hT 1 _ _ _ _ rfl ?_
      refine AtL.nil ?_
      exact AtE.then_n ((HK1 _ () _ H).pickP (ts := [54, 0, 1, 2, 3, 4]) (is := []) rfl rfl (by decide) rfl)
     ·
      refine AtL.yes rfl rfl rfl ?_
      refine AtL.pures hT 1 _ _ _ _ rfl ?_
      refine AtL.yes rfl rfl rfl ?_
      refine AtL.e rfl (EffX.call (f := 7) (sh := fun h => law18uGreat _ h _) (H0 := H) rfl Try.call7 rfl (hl := fun w m hr hw => lift_law18uGreat _ w m hr _ hw)) ?_
      rintro _ _ ⟨v_1, h0u2, rfl, rfl, H⟩
      refine AtL.pures hT 2 _ _ _ _ rfl ?_
      refine AtL.splitB (t := 45) H rfl (fun H => ?_) (fun H => ?_)
      ·
       refine AtL.noF rfl rfl rfl (by decide) rfl ?_
       refine AtL.noF rfl rfl rfl (by decide) rfl ?_
       refine AtL.noF rfl rfl rfl (by decide) rfl ?_
       refine AtL.pures hT 2 _ _ _ _ rfl ?_
       refine AtL.noF rfl rfl rfl (by decide) rfl ?_
       refine AtL.noF rfl rfl rfl (by decide) rfl ?_
       refine AtL.noF rfl rfl rfl (by decide) rfl ?_
       refine AtL.pures hT 1 _ _ _ _ rfl ?_
       refine AtL.nil ?_
       exact AtE.then_n ((HK1 _ () _ H).pickP (ts := [54, 0, 1, 2, 3, 4]) (is := []) rfl rfl (by decide) rfl)
      ·
       refine AtL.yes rfl rfl rfl ?_
       refine AtL.pures hT 1 _ _ _ _ rfl ?_
       refine AtL.yes rfl rfl rfl ?_
       refine AtL.pures hT 1 _ _ _ _ rfl ?_
       refine AtL.yes rfl rfl rfl ?_
       refine AtL.pures hT 1 _ _ _ _ rfl ?_
       refine AtL.pures hT 2 _ _ _ _ rfl ?_
       refine AtL.splitB (t := 50) H rfl (fun H => ?_) (fun H => ?_)
       ·
        refine AtL.noF rfl rfl rfl (by decide) rfl ?_
        refine AtL.noF rfl rfl rfl (by decide) rfl ?_
        refine AtL.noF rfl rfl rfl (by decide) rfl ?_
        refine AtL.pures hT 1 _ _ _ _ rfl ?_
        refine AtL.nil ?_
        exact AtE.then_n ((HK1 _ () _ H).pickP (ts := [54, 0, 1, 2, 3, 4]) (is := []) rfl rfl (by decide) rfl)
       ·
        refine AtL.yes rfl rfl rfl ?_
        refine AtL.pures hT 1 _ _ _ _ rfl ?_
        refine AtL.yes rfl rfl rfl ?_
        refine AtL.pures hT 1 _ _ _ _ rfl ?_
        refine AtL.yes rfl rfl rfl ?_
        refine AtL.pures hT 1 _ _ _ _ rfl ?_
        refine AtL.pures hT 1 _ _ _ _ rfl ?_
        refine AtL.nil ?_
        exact AtE.then_n ((HK1 _ () _ H).pickP (ts := [54, 0, 1, 2, 3, 4]) (is := []) rfl rfl (by decide) rfl)
end Go.Proofs.Ytkjcocjkcjmafaa

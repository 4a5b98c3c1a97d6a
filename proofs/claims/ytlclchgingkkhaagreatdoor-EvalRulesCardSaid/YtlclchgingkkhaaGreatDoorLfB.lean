/-
  Laws that the proof of this claim's statement leans on, each proved under the conditions that it states.
-/
import Derived.Test.YtlclchgingkkhaaGreatDoorLfA
set_option linter.unusedVariables false
set_option linter.unusedSimpArgs false
namespace Go.Proofs.YtlclchgingkkhaaGreatDoor
open Go Go.Lift Go.Sh
set_option maxRecDepth 100000
set_option maxHeartbeats 40000000
attribute [local irreducible] Calls AtL AtC AtE AtD Eff Quiet1 Stg qAt QAll eAt EAll nextK Code.wp
theorem lift_term_Terms_Add (t0 : (Option Addr)) (n : Int × Int × Sl × Bool × Sl × Sl) (w : World) (m : Heap) (hr : Rel ⟨m, []⟩ w.heap) (S : (Int × Int) → Heap → Prop) (H : term_Terms_Add t0 n m S) :
    Calls Tryz.prog 52 #[Value.pointer t0, Value.agg (C_i64ui64usl_bool_sl_sl n).toArray] w (Post ⟨w, m⟩ (fun r => Value.tuple #[(Value.int .i64) r.1, (Value.int .i64) r.2]) S) := by
  refine Calls.lift (args := [Value.pointer t0, Value.agg (C_i64ui64usl_bool_sl_sl n).toArray]) Tryz.func52 rfl Tryz.ntmps52 (Nat.le_of_ble_eq_true rfl) hr (term_Terms_Add t0 n m S) H (fun H => ?_)
  refine AtC.pick (ts := [0, 1]) rfl ?_
  unfold term_Terms_Add at H
  refine AtC.seqR ?_
  refine AtL.e rfl (EffX.box (cs := [_]) rfl rfl rfl H) ?_
  rintro _ _ ⟨t0u1, h0, rfl, rfl, H⟩
  refine AtL.e rfl (EffX.boxP (cs := [_, _, _, _, _, _]) rfl rfl rfl H) ?_
  rintro _ _ ⟨b, _, rfl, rfl, _, H⟩
  replace H := H.self
  refine AtL.pures hT 2 _ _ _ _ rfl ?_
  refine AtL.nil ?_
  refine AtE.then_n (AtE.go ?_)
  refine AtC.seqR ?_
  refine AtL.pures hT 1 _ _ _ _ rfl ?_
  refine AtL.q rfl (Quiet1.loadP (i := 0) hT rfl rfl rfl rfl rfl rfl) ?_
  refine AtL.e rfl (EffX.call (f := 107) (sh := fun h => term_shapes _ h _) (H0 := H) rfl Tryz.call107 rfl (hl := fun w m hr hw => lift_term_shapes _ w m hr _ hw)) ?_
  rintro _ _ ⟨v, h0u2, rfl, rfl, H⟩
  refine AtL.pures hT 3 _ _ _ _ rfl ?_
  refine AtL.e rfl (EffX.allocP (cs := [_, _, _, _]) hT rfl rfl H) ?_
  rintro _ _ ⟨b_1, _, rfl, rfl, _, H⟩
  replace H := H.self
  refine AtL.e rfl (EffX.storeSP (i := 0) (qv := [(_, [_, _, _, _]), (_, [_, _, _, _, _, _])]) hT rfl rfl rfl rfl rfl rfl rfl rfl rfl rfl) ?_
  rintro _ _ rfl
  refine AtL.pures hT 1 _ _ _ _ rfl ?_
  refine AtL.nil ?_
  refine AtE.then_n (AtE.go ?_)
  refine AtC.seqR ?_
  refine AtL.q rfl (Quiet1.makeFn (bs := []) (cs := [_]) rfl rfl rfl) ?_
  refine AtL.pures hT 1 _ _ _ _ rfl ?_
  refine AtL.nil ?_
  refine AtE.then_n (AtE.go ?_)
  refine AtC.seq ?_
  refine AtC.block ?_
  refine AtC.joinSeq (β := Unit) (fun (t0u2 : Bool) (bb : Unit) => [(20, Value.bool t0u2)]) (fun (t0u2 : Bool) (bb : Unit) => []) [2, 3, 6, 8] [0, 1] H (by exact rfl) (by exact rfl) (fun t0u2 bb h0u4 H => ?_) (fun J1 H HK1 => ?_)
  ·
   refine AtC.condB H rfl (fun H => ?_) (fun H => ?_)
   ·
    refine AtC.seqR ?_
    refine AtL.pures hT 2 _ _ _ _ rfl ?_
    refine AtL.nil ?_
    refine AtE.then_n (AtE.go ?_)
    refine AtC.ret ?_
    refine AtE.blk_r ?_
    refine AtE.then_r ?_
    exact AtE.retN (rs := [.tmp 4, .tmp 5]) rfl (ResAll.cons (ResAt.tmp rfl) (ResAll.cons (ResAt.tmp rfl) ResAll.nil)) rfl H
   ·
    refine AtC.seqR ?_
    refine AtL.pures hT 1 _ _ _ _ rfl ?_
    refine AtL.q rfl (Quiet1.loadP (i := 1) hT rfl rfl rfl rfl rfl rfl) ?_
    refine AtL.pures hT 1 _ _ _ _ rfl ?_
    refine AtL.e rfl (EffX.call (f := 111) (sh := fun h => slices_ContainsFunc_int_int__term_Terms_Add_c1 _ _ h _) (H0 := H) rfl Tryz.call111 rfl (hl := fun w m hr hw => lift_slices_ContainsFunc_int_int__term_Terms_Add_c1 _ _ w m hr _ hw)) ?_
    rintro _ _ ⟨v_3, h0u6, rfl, rfl, H⟩
    refine AtL.pures hT 1 _ _ _ _ rfl ?_
    refine AtL.nil ?_
    refine AtE.then_n (AtE.go ?_)
    refine AtC.condB H rfl (fun H => ?_) (fun H => ?_)
    ·
     refine AtC.seqR ?_
     refine AtL.pures hT 2 _ _ _ _ rfl ?_
     refine AtL.nil ?_
     refine AtE.then_n (AtE.go ?_)
     refine AtC.ret ?_
     refine AtE.blk_r ?_
     refine AtE.then_r ?_
     exact AtE.retN (rs := [.tmp 4, .tmp 5]) rfl (ResAll.cons (ResAt.tmp rfl) (ResAll.cons (ResAt.tmp rfl) ResAll.nil)) rfl H
    ·
     refine AtC.joinSeq (β := Unit) (fun (t0u3 : Bool) (bb_1 : Unit) => [(34, Value.bool t0u3)]) (fun (t0u3 : Bool) (bb_1 : Unit) => []) [2, 3, 6] [0, 1] H (by exact rfl) (by exact rfl) (fun t0u3 bb_1 h0u7 H => ?_) (fun J3 H HK3 => ?_)
     ·
      refine AtC.condB H rfl (fun H => ?_) (fun H => ?_)
      ·
       refine AtC.seqR ?_
       refine AtL.pures hT 2 _ _ _ _ rfl ?_
       refine AtL.nil ?_
       refine AtE.then_n (AtE.go ?_)
       refine AtC.ret ?_
       refine AtE.blk_r ?_
       refine AtE.then_r ?_
       exact AtE.retN (rs := [.tmp 4, .tmp 5]) rfl (ResAll.cons (ResAt.tmp rfl) (ResAll.cons (ResAt.tmp rfl) ResAll.nil)) rfl H
      ·
       refine AtC.skip ?_
       refine AtE.blk_n ?_
       refine AtE.then_n (AtE.go ?_)
       refine AtC.seqR ?_
       obtain ⟨v_4, hc3, H⟩ := H
       refine AtL.q rfl (Quiet1.load hT rfl rfl rfl hc3) ?_
       refine AtL.q rfl (Quiet1.loadSP (i := 1) (l := [_, _, _, _, _, _]) hT rfl rfl rfl rfl rfl rfl rfl rfl) ?_
       refine AtL.q rfl (Quiet1.loadSP (i := 0) (l := [_, _, _, _]) hT rfl rfl rfl rfl rfl rfl rfl rfl) ?_
       refine AtL.e rfl (EffX.call (f := 112) (sh := fun h => term_Terms_sorted _ _ _ h _) (H0 := H) rfl Tryz.call112 rfl (hl := fun w m hr hw => lift_term_Terms_sorted _ _ _ w m hr _ hw)) ?_
       rintro _ _ ⟨v_5, h0u8, rfl, rfl, H⟩
       refine AtL.pures hT 1 _ _ _ _ rfl ?_
       refine AtL.nil ?_
       refine AtE.then_n (AtE.go ?_)
       refine AtC.seq ?_
       refine AtC.block ?_
       refine AtC.seqR ?_
       refine AtL.pures hT 3 _ _ _ _ rfl ?_
       refine AtL.nil ?_
       refine AtE.then_n (AtE.go ?_)
       refine AtC.condB H rfl (fun H => ?_) (fun H => ?_)
       ·
        refine AtC.seqR ?_
        refine AtL.pures hT 2 _ _ _ _ rfl ?_
        refine AtL.nil ?_
        refine AtE.then_n (AtE.go ?_)
        refine AtC.ret ?_
        refine AtE.blk_r ?_
        refine AtE.then_r ?_
        exact AtE.retN (rs := [.tmp 4, .tmp 5]) rfl (ResAll.cons (ResAt.tmp rfl) (ResAll.cons (ResAt.tmp rfl) ResAll.nil)) rfl H
       ·
        refine AtC.seqR ?_
        obtain ⟨v_6, hc4, H⟩ := H
        refine AtL.q rfl (Quiet1.load hT rfl rfl rfl hc4) ?_
        refine AtL.q rfl (Quiet1.loadSP (i := 1) (l := [_, _, _, _, _, _]) hT rfl rfl rfl rfl rfl rfl rfl rfl) ?_
        refine AtL.e rfl (EffX.call (f := 113) (sh := fun h => term_Terms_line _ _ h _) (H0 := H) rfl Tryz.call113 rfl (hl := fun w m hr hw => lift_term_Terms_line _ _ w m hr _ hw)) ?_
        rintro _ _ ⟨v_7, h0u9, rfl, rfl, H⟩
        refine AtL.pures hT 2 _ _ _ _ rfl ?_
        refine AtL.nil ?_
        refine AtE.then_n (AtE.go ?_)
        refine AtC.condB H rfl (fun H => ?_) (fun H => ?_)
        ·
         refine AtC.seqR ?_
         refine AtL.pures hT 2 _ _ _ _ rfl ?_
         refine AtL.nil ?_
         refine AtE.then_n (AtE.go ?_)
         refine AtC.ret ?_
         refine AtE.blk_r ?_
         refine AtE.then_r ?_
         exact AtE.retN (rs := [.tmp 4, .tmp 5]) rfl (ResAll.cons (ResAt.tmp rfl) (ResAll.cons (ResAt.tmp rfl) ResAll.nil)) rfl H
        ·
         refine AtC.seqR ?_
         obtain ⟨v_8, hc5, H⟩ := H
         refine AtL.q rfl (Quiet1.load hT rfl rfl rfl hc5) ?_
         obtain ⟨a, hc6, H⟩ := H
         refine AtL.q rfl (Quiet1.nilChk rfl rfl hc6) ?_
         refine AtL.pures hT 1 _ _ _ _ rfl ?_
         obtain ⟨v_9, hc7, H⟩ := H
         refine AtL.q rfl (Quiet1.load hT rfl rfl rfl hc7) ?_
         refine AtL.pures hT 3 _ _ _ _ rfl ?_
         refine AtL.nil ?_
         refine AtE.then_n (AtE.go ?_)
         refine AtC.condB H rfl (fun H => ?_) (fun H => ?_)
         ·
          refine AtC.seqR ?_
          refine AtL.pures hT 2 _ _ _ _ rfl ?_
          refine AtL.nil ?_
          refine AtE.then_n (AtE.go ?_)
          refine AtC.ret ?_
          refine AtE.blk_r ?_
          refine AtE.then_r ?_
          exact AtE.retN (rs := [.tmp 4, .tmp 5]) rfl (ResAll.cons (ResAt.tmp rfl) (ResAll.cons (ResAt.tmp rfl) ResAll.nil)) rfl H
         ·
          refine AtC.skip ?_
          refine AtE.blk_n ?_
          refine AtE.then_n (AtE.go ?_)
          refine AtC.seqR ?_
          refine AtL.pures hT 1 _ _ _ _ rfl ?_
          refine AtL.q rfl (Quiet1.loadP (i := 1) hT rfl rfl rfl rfl rfl rfl) ?_
          refine AtL.e rfl (EffX.call (f := 114) (sh := fun h => slices_Clone_int_int _ h _) (H0 := H) rfl Tryz.call114 rfl (hl := fun w m hr hw => lift_slices_Clone_int_int _ w m hr _ hw)) ?_
          rintro _ _ ⟨v_10, h0u10, rfl, rfl, H⟩
          refine AtL.pures hT 1 _ _ _ _ rfl ?_
          refine AtL.e rfl (EffX.storeP (i := 1) (qv := [(_, [_, _, _, _]), (_, [_, _, _, _, _, _])]) hT rfl rfl rfl rfl rfl rfl rfl rfl rfl) ?_
          rintro _ _ rfl
          refine AtL.nil ?_
          refine AtE.then_n (AtE.go ?_)
          refine AtC.joinSeq (β := Unit) (fun (t0u4 : Bool) (bb_2 : Unit) => [(10, Value.bool t0u4)]) (fun (t0u4 : Bool) (bb_2 : Unit) => []) [2, 3, 9] [1] H (by exact rfl) (by exact rfl) (fun t0u4 bb_2 h0u11 H => ?_) (fun J9 H HK9 => ?_)
          ·
           refine AtC.seq ?_
           refine AtC.seqR ?_
           refine AtL.pures hT 1 _ _ _ _ rfl ?_
           refine AtL.q rfl (Quiet1.loadP (i := 0) hT rfl rfl rfl rfl rfl rfl) ?_
           refine AtL.pures hT 2 _ _ _ _ rfl ?_
           refine AtL.nil ?_
           refine AtE.then_n (AtE.go ?_)
           refine AtC.block ?_
           refine AtC.loopM (fun (s0 : Bool × Int) => [(10, Value.bool s0.1), (83, Value.int .i64 s0.2)]) (fun (s0 : Bool × Int) => []) [2, 3, 9, 81, 82] [10, 83, 2, 3, 9, 81, 82] [0] [0] H (by exact rfl) (by exact rfl) (by exact rfl) (by decide) (by exact rfl) (fun Kp10 s0 h0u12 H Q10 HK10 => ?_)
           refine AtC.seqR ?_
           refine AtL.pures hT 1 _ _ _ _ rfl ?_
           refine AtL.nil ?_
           refine AtE.then_n (AtE.go ?_)
           refine AtC.seq ?_
           refine AtC.condB H rfl (fun H => ?_) (fun H => ?_)
           ·
            refine AtC.skip ?_
            refine AtE.then_n (AtE.go ?_)
            refine AtC.joinSeq (β := Unit) (fun (t0u5 : Bool) (bb_3 : Unit) => [(10, Value.bool t0u5)]) (fun (t0u5 : Bool) (bb_3 : Unit) => []) [2, 3, 9, 81, 82, 83] [0] H (by exact rfl) (by exact rfl) (fun t0u5 bb_3 h0u13 H => ?_) (fun J11 H HK11 => ?_)
            ·
             refine AtC.region ?_
             refine AtL.pures hT 2 _ _ _ _ rfl ?_
             refine AtL.nil ?_
             exact AtE.then_n ((HK10 _ _ H).pickP (ts := [10, 83, 2, 3, 9, 81, 82]) (is := [0]) rfl rfl (by decide) rfl)
            ·
             refine AtC.block ?_
             refine AtC.seqR ?_
             obtain ⟨a_1_, hc11, hd11, H⟩ := H
             refine AtL.q rfl (Quiet1.idxS (s := _) hT rfl rfl rfl rfl rfl hc11 hd11) ?_
             obtain ⟨v_11, hc12, H⟩ := H
             refine AtL.q rfl (Quiet1.load hT rfl rfl rfl hc12) ?_
             refine AtL.pures hT 1 _ _ _ _ rfl ?_
             refine AtL.nil ?_
             refine AtE.then_n (AtE.go ?_)
             refine AtC.region ?_
             refine AtL.pures hT 2 _ _ _ _ rfl ?_
             refine AtL.splitB (t := 88) H rfl (fun H => ?_) (fun H => ?_)
             ·
              refine AtL.yes rfl rfl rfl ?_
              obtain ⟨v_12, hc13, H⟩ := H
              refine AtL.q rfl (Quiet1.load hT rfl rfl rfl hc13) ?_
              refine AtL.yes rfl rfl rfl ?_
              obtain ⟨a_2, hc14, H⟩ := H
              refine AtL.q rfl (Quiet1.nilChk rfl rfl hc14) ?_
              refine AtL.yes rfl rfl rfl ?_
              refine AtL.pures hT 1 _ _ _ _ rfl ?_
              refine AtL.yes rfl rfl rfl ?_
              obtain ⟨v_13, hc15, H⟩ := H
              refine AtL.q rfl (Quiet1.load hT rfl rfl rfl hc15) ?_
              refine AtL.yes rfl rfl rfl ?_
              refine AtL.pures hT 1 _ _ _ _ rfl ?_
              refine AtL.yes rfl rfl rfl ?_
              obtain ⟨a_3_, hc16, hd16, H⟩ := H
              refine AtL.q rfl (Quiet1.idxS (s := _) hT rfl rfl rfl rfl rfl hc16 hd16) ?_
              refine AtL.yes rfl rfl rfl ?_
              obtain ⟨v_14, hc17, H⟩ := H
              refine AtL.q rfl (Quiet1.load hT rfl rfl rfl hc17) ?_
              refine AtL.pures hT 2 _ _ _ _ rfl ?_
              refine AtL.nil ?_
              refine AtE.blk_n ?_
              exact AtE.then_n ((HK11 _ () _ H).pickP (ts := [10, 2, 3, 9, 81, 82, 83]) (is := [0]) rfl rfl (by decide) rfl)
             ·
              refine AtL.noF rfl rfl rfl (by decide) rfl ?_
              refine AtL.noF rfl rfl rfl (by decide) rfl ?_
              refine AtL.noF rfl rfl rfl (by decide) rfl ?_
              refine AtL.noF rfl rfl rfl (by decide) rfl ?_
              refine AtL.noF rfl rfl rfl (by decide) rfl ?_
              refine AtL.noF rfl rfl rfl (by decide) rfl ?_
              refine AtL.noF rfl rfl rfl (by decide) rfl ?_
              refine AtL.pures hT 2 _ _ _ _ rfl ?_
              refine AtL.nil ?_
              refine AtE.blk_n ?_
              exact AtE.then_n ((HK11 _ () _ H).pickP (ts := [10, 2, 3, 9, 81, 82, 83]) (is := [0]) rfl rfl (by decide) rfl)
           ·
            refine AtC.exit ?_
            refine AtE.then_x ?_
            refine AtE.then_x ?_
            refine AtE.blk_hit ?_
            refine AtE.then_n (AtE.go ?_)
            refine AtC.joinSeq (β := Unit) (fun (t0u6 : Unit) (bb_4 : Unit) => []) (fun (t0u6 : Unit) (bb_4 : Unit) => []) [2] [] H (by exact rfl) (by exact rfl) (fun t0u6 bb_4 h0u14 H => ?_) (fun J19 H HK19 => ?_)
            ·
             refine AtC.seqR ?_
             obtain ⟨v_91, hc524, H⟩ := H
             refine AtL.q rfl (Quiet1.load hT rfl rfl rfl hc524) ?_
             obtain ⟨a_78, hc525, H⟩ := H
             refine AtL.q rfl (Quiet1.nilChk rfl rfl hc525) ?_
             refine AtL.pures hT 1 _ _ _ _ rfl ?_
             obtain ⟨v_92, hc526, H⟩ := H
             refine AtL.q rfl (Quiet1.load hT rfl rfl rfl hc526) ?_
             refine AtL.pures hT 4 _ _ _ _ rfl ?_
             refine AtL.nil ?_
             refine AtE.then_n (AtE.go ?_)
             refine AtC.ret ?_
             exact AtE.retN (rs := [.tmp 4, .tmp 5]) rfl (ResAll.cons (ResAt.tmp rfl) (ResAll.cons (ResAt.tmp rfl) ResAll.nil)) rfl H
            ·
             obtain ⟨v_15, hc19, H⟩ := H
             obtain ⟨v_16, hc20, H⟩ := H
             obtain ⟨v_17, hc21, H⟩ := H
             obtain ⟨v_18, hc22, H⟩ := H
             obtain ⟨a_4, hc23, H⟩ := H
             obtain ⟨v_19, hc24, H⟩ := H
             obtain ⟨v_20, hc25, H⟩ := H
             obtain ⟨a_5, hc26, H⟩ := H
             obtain ⟨v_21, hc27, H⟩ := H
             obtain ⟨v_22, hc28, H⟩ := H
             obtain ⟨a_6, hc29, H⟩ := H
             obtain ⟨v_23, hc30, H⟩ := H
             apply AtC.stages [8, 9, 15, 16, 22, 23, 26, 29, 32] [[], [], [], [], [], [], [], [], [], [8], [], [], [], [], [], [], [8, 9, 15], [], [], [], [], [], [], [8, 9, 15, 16, 22], [8, 9, 15, 16, 22, 23], [8, 9, 15, 16, 22, 23], [8, 9, 15, 16, 22, 23], [8, 9, 15, 16, 22, 23, 26], [8, 9, 15, 16, 22, 23, 26], [8, 9, 15, 16, 22, 23, 26], [8, 9, 15, 16, 22, 23, 26, 29], [8, 9, 15, 16, 22, 23, 26, 29], [8, 9, 15, 16, 22, 23, 26, 29]] [[], [], [], [], [3], [3, 4], [3, 4, 5], [], [7], [3, 4, 5, 6, 7, 8], [], [10], [10, 11], [10, 11, 12], [], [14], [3, 4, 5, 6, 7, 8, 9, 10, 11, 12, 13, 14, 15], [], [17], [17, 18], [17, 18, 19], [], [21], [3, 4, 5, 6, 7, 8, 9, 10, 11, 12, 13, 14, 15, 16, 17, 18, 19, 20, 21, 22], [0, 3, 4, 5, 6, 7, 8, 9, 10, 11, 12, 13, 14, 15, 16, 17, 18, 19, 20, 21, 22, 23], [0, 3, 4, 5, 6, 7, 8, 9, 10, 11, 12, 13, 14, 15, 16, 17, 18, 19, 20, 21, 22, 23, 24], [0, 3, 4, 5, 6, 7, 8, 9, 10, 11, 12, 13, 14, 15, 16, 17, 18, 19, 20, 21, 22, 23, 24, 25], [0, 1, 3, 4, 5, 6, 7, 8, 9, 10, 11, 12, 13, 14, 15, 16, 17, 18, 19, 20, 21, 22, 23, 24, 25, 26], [0, 1, 3, 4, 5, 6, 7, 8, 9, 10, 11, 12, 13, 14, 15, 16, 17, 18, 19, 20, 21, 22, 23, 24, 25, 26, 27], [0, 1, 3, 4, 5, 6, 7, 8, 9, 10, 11, 12, 13, 14, 15, 16, 17, 18, 19, 20, 21, 22, 23, 24, 25, 26, 27, 28], [0, 1, 2, 3, 4, 5, 6, 7, 8, 9, 10, 11, 12, 13, 14, 15, 16, 17, 18, 19, 20, 21, 22, 23, 24, 25, 26, 27, 28, 29], [0, 1, 2, 3, 4, 5, 6, 7, 8, 9, 10, 11, 12, 13, 14, 15, 16, 17, 18, 19, 20, 21, 22, 23, 24, 25, 26, 27, 28, 29, 30], [0, 1, 2, 3, 4, 5, 6, 7, 8, 9, 10, 11, 12, 13, 14, 15, 16, 17, 18, 19, 20, 21, 22, 23, 24, 25, 26, 27, 28, 29, 30, 31]] hmix (by kernel_rfl) [(98, _), (99, _), (100, _), (101, _), (102, _), (103, _), (104, _), (105, _), (108, _), (109, _), (110, _), (111, _), (112, _), (115, _), (116, _), (117, _), (118, _), (119, _)] rfl 9 rfl
             refine Stg.go [0, 1, 2, 3, 4, 5, 6, 7, 10, 11, 12, 13, 14, 17, 18, 19, 20, 21] [8, 15, 22] rfl rfl (QAll.cons (QOp.q rfl rfl (Quiet1.load hT rfl rfl rfl hc19) rfl rfl) (QAll.cons (QOp.q rfl rfl (Quiet1.load hT rfl rfl rfl hc20) rfl rfl) (QAll.cons (QOp.q rfl rfl (Quiet1.load hT rfl rfl rfl hc21) rfl rfl) (QAll.cons (QOp.q rfl rfl (Quiet1.load hT rfl rfl rfl hc22) rfl rfl) (QAll.cons (QOp.q rfl rfl (Quiet1.nilChk rfl rfl hc23) rfl rfl) (QAll.cons (QOp.p hT rfl rfl rfl rfl rfl) (QAll.cons (QOp.q rfl rfl (Quiet1.load hT rfl rfl rfl hc24) rfl rfl) (QAll.cons (QOp.q rfl rfl (Quiet1.loadSP (i := 0) (l := [_, _, _, _, _, _]) hT rfl rfl rfl rfl rfl rfl rfl rfl) rfl rfl) (QAll.cons (QOp.q rfl rfl (Quiet1.load hT rfl rfl rfl hc25) rfl rfl) (QAll.cons (QOp.q rfl rfl (Quiet1.nilChk rfl rfl hc26) rfl rfl) (QAll.cons (QOp.p hT rfl rfl rfl rfl rfl) (QAll.cons (QOp.q rfl rfl (Quiet1.load hT rfl rfl rfl hc27) rfl rfl) (QAll.cons (QOp.p hT rfl rfl rfl rfl rfl) (QAll.cons (QOp.q rfl rfl (Quiet1.load hT rfl rfl rfl hc28) rfl rfl) (QAll.cons (QOp.q rfl rfl (Quiet1.nilChk rfl rfl hc29) rfl rfl) (QAll.cons (QOp.p hT rfl rfl rfl rfl rfl) (QAll.cons (QOp.q rfl rfl (Quiet1.load hT rfl rfl rfl hc30) rfl rfl) (QAll.cons (QOp.p hT rfl rfl rfl rfl rfl) QAll.nil)))))))))))))))))) ?_
             refine EAll.cons ?_ ?_
             ·
              replace H := H.1
              refine EOp.e rfl rfl rfl (EffX.buildS2 (cs := [_, _, _, _, _, _]) hT rfl rfl rfl rfl rfl rfl rfl rfl H) ?_
              rintro _ _ ⟨a_7, h0u15, rfl, rfl, H⟩
              obtain ⟨hc31, H⟩ := H
              obtain ⟨hc32, H⟩ := H
              obtain ⟨hc33, H⟩ := H
              obtain ⟨hc34, H⟩ := H
              obtain ⟨hc35, H⟩ := H
              obtain ⟨hc36, H⟩ := H
              obtain ⟨hc37, H⟩ := H
              obtain ⟨hc38, H⟩ := H
              obtain ⟨hc39, H⟩ := H
              apply Stg.next [(106, _)] rfl rfl
              refine Stg.go [0, 1, 2, 3, 4, 5, 6, 10, 11, 12, 13, 14, 17, 18, 19, 20, 21] [9, 15, 22] rfl rfl (QAll.cons (QOp.q rfl rfl (Quiet1.load hT rfl rfl rfl hc31) rfl rfl) (QAll.cons (QOp.q rfl rfl (Quiet1.load hT rfl rfl rfl hc32) rfl rfl) (QAll.cons (QOp.q rfl rfl (Quiet1.load hT rfl rfl rfl hc33) rfl rfl) (QAll.cons (QOp.q rfl rfl (Quiet1.load hT rfl rfl rfl hc34) rfl rfl) (QAll.cons (QOp.q rfl rfl (Quiet1.nilChk rfl rfl hc23) rfl rfl) (QAll.cons (QOp.p hT rfl rfl rfl rfl rfl) (QAll.cons (QOp.q rfl rfl (Quiet1.load hT rfl rfl rfl hc35) rfl rfl) (QAll.cons (QOp.q rfl rfl (Quiet1.load hT rfl rfl rfl hc36) rfl rfl) (QAll.cons (QOp.q rfl rfl (Quiet1.nilChk rfl rfl hc26) rfl rfl) (QAll.cons (QOp.p hT rfl rfl rfl rfl rfl) (QAll.cons (QOp.q rfl rfl (Quiet1.load hT rfl rfl rfl hc37) rfl rfl) (QAll.cons (QOp.p hT rfl rfl rfl rfl rfl) (QAll.cons (QOp.q rfl rfl (Quiet1.load hT rfl rfl rfl hc38) rfl rfl) (QAll.cons (QOp.q rfl rfl (Quiet1.nilChk rfl rfl hc29) rfl rfl) (QAll.cons (QOp.p hT rfl rfl rfl rfl rfl) (QAll.cons (QOp.q rfl rfl (Quiet1.load hT rfl rfl rfl hc39) rfl rfl) (QAll.cons (QOp.p hT rfl rfl rfl rfl rfl) QAll.nil))))))))))))))))) ?_
              refine EAll.cons ?_ ?_
              ·
               replace H := H.1
               refine EOp.e rfl rfl rfl (EffX.appendS (s := _) (u := _) hT rfl rfl rfl rfl rfl rfl rfl rfl rfl rfl (by decide) H) ?_
               rintro _ _ ⟨v_25, h0u16, rfl, rfl, H⟩
               obtain ⟨hc40, H⟩ := H
               obtain ⟨hc41, H⟩ := H
               obtain ⟨hc42, H⟩ := H
               obtain ⟨hc43, H⟩ := H
               obtain ⟨hc44, H⟩ := H
               obtain ⟨hc45, H⟩ := H
               obtain ⟨hc46, H⟩ := H
               apply Stg.next [(107, _)] rfl rfl
               refine Stg.go [0, 1, 2, 10, 11, 12, 13, 14, 17, 18, 19, 20, 21] [15, 22] rfl rfl (QAll.cons (QOp.q rfl rfl (Quiet1.load hT rfl rfl rfl hc40) rfl rfl) (QAll.cons (QOp.q rfl rfl (Quiet1.load hT rfl rfl rfl hc41) rfl rfl) (QAll.cons (QOp.q rfl rfl (Quiet1.load hT rfl rfl rfl hc42) rfl rfl) (QAll.cons (QOp.q rfl rfl (Quiet1.load hT rfl rfl rfl hc43) rfl rfl) (QAll.cons (QOp.q rfl rfl (Quiet1.nilChk rfl rfl hc26) rfl rfl) (QAll.cons (QOp.p hT rfl rfl rfl rfl rfl) (QAll.cons (QOp.q rfl rfl (Quiet1.load hT rfl rfl rfl hc44) rfl rfl) (QAll.cons (QOp.p hT rfl rfl rfl rfl rfl) (QAll.cons (QOp.q rfl rfl (Quiet1.load hT rfl rfl rfl hc45) rfl rfl) (QAll.cons (QOp.q rfl rfl (Quiet1.nilChk rfl rfl hc29) rfl rfl) (QAll.cons (QOp.p hT rfl rfl rfl rfl rfl) (QAll.cons (QOp.q rfl rfl (Quiet1.load hT rfl rfl rfl hc46) rfl rfl) (QAll.cons (QOp.p hT rfl rfl rfl rfl rfl) QAll.nil))))))))))))) ?_
               refine EAll.cons ?_ ?_
               ·
                replace H := H.1
                refine EOp.e rfl rfl rfl (EffX.buildS2 (cs := [_]) hT rfl rfl rfl rfl rfl rfl rfl rfl H) ?_
                rintro _ _ ⟨a_8, h0u17, rfl, rfl, H⟩
                obtain ⟨hc47, H⟩ := H
                obtain ⟨hc48, H⟩ := H
                obtain ⟨hc49, H⟩ := H
                obtain ⟨hc50, H⟩ := H
                obtain ⟨hc51, H⟩ := H
                obtain ⟨hc52, H⟩ := H
                obtain ⟨hc53, H⟩ := H
                apply Stg.next [(113, _)] rfl rfl
                refine Stg.go [0, 1, 2, 10, 11, 12, 13, 17, 18, 19, 20, 21] [16, 22] rfl rfl (QAll.cons (QOp.q rfl rfl (Quiet1.load hT rfl rfl rfl hc47) rfl rfl) (QAll.cons (QOp.q rfl rfl (Quiet1.load hT rfl rfl rfl hc48) rfl rfl) (QAll.cons (QOp.q rfl rfl (Quiet1.load hT rfl rfl rfl hc49) rfl rfl) (QAll.cons (QOp.q rfl rfl (Quiet1.load hT rfl rfl rfl hc50) rfl rfl) (QAll.cons (QOp.q rfl rfl (Quiet1.nilChk rfl rfl hc26) rfl rfl) (QAll.cons (QOp.p hT rfl rfl rfl rfl rfl) (QAll.cons (QOp.q rfl rfl (Quiet1.load hT rfl rfl rfl hc51) rfl rfl) (QAll.cons (QOp.q rfl rfl (Quiet1.load hT rfl rfl rfl hc52) rfl rfl) (QAll.cons (QOp.q rfl rfl (Quiet1.nilChk rfl rfl hc29) rfl rfl) (QAll.cons (QOp.p hT rfl rfl rfl rfl rfl) (QAll.cons (QOp.q rfl rfl (Quiet1.load hT rfl rfl rfl hc53) rfl rfl) (QAll.cons (QOp.p hT rfl rfl rfl rfl rfl) QAll.nil)))))))))))) ?_
                refine EAll.cons ?_ ?_
                ·
                 replace H := H.1
                 refine EOp.e rfl rfl rfl (EffX.appendS (s := _) (u := _) hT rfl rfl rfl rfl rfl rfl rfl rfl rfl rfl (by decide) H) ?_
                 rintro _ _ ⟨v_27, h0u18, rfl, rfl, H⟩
                 obtain ⟨hc54, H⟩ := H
                 obtain ⟨hc55, H⟩ := H
                 obtain ⟨hc56, H⟩ := H
                 obtain ⟨hc57, H⟩ := H
                 obtain ⟨hc58, H⟩ := H
                 apply Stg.next [(114, _)] rfl rfl
                 refine Stg.go [0, 1, 2, 17, 18, 19, 20, 21] [22] rfl rfl (QAll.cons (QOp.q rfl rfl (Quiet1.load hT rfl rfl rfl hc54) rfl rfl) (QAll.cons (QOp.q rfl rfl (Quiet1.load hT rfl rfl rfl hc55) rfl rfl) (QAll.cons (QOp.q rfl rfl (Quiet1.load hT rfl rfl rfl hc56) rfl rfl) (QAll.cons (QOp.q rfl rfl (Quiet1.load hT rfl rfl rfl hc57) rfl rfl) (QAll.cons (QOp.q rfl rfl (Quiet1.nilChk rfl rfl hc29) rfl rfl) (QAll.cons (QOp.p hT rfl rfl rfl rfl rfl) (QAll.cons (QOp.q rfl rfl (Quiet1.load hT rfl rfl rfl hc58) rfl rfl) (QAll.cons (QOp.p hT rfl rfl rfl rfl rfl) QAll.nil)))))))) ?_
                 refine EAll.cons ?_ EAll.nil
                 refine EOp.e rfl rfl rfl (EffX.buildS2 (cs := [_]) hT rfl rfl rfl rfl rfl rfl rfl rfl H) ?_
                 rintro _ _ ⟨a_9, h0u19, rfl, rfl, H⟩
                 obtain ⟨hc59, H⟩ := H
                 obtain ⟨hc60, H⟩ := H
                 obtain ⟨hc61, H⟩ := H
                 obtain ⟨hc62, H⟩ := H
                 obtain ⟨hc63, H⟩ := H
                 apply Stg.next [(120, _)] rfl rfl
                 refine Stg.go [0, 1, 2, 17, 18, 19, 20] [23] rfl rfl (QAll.cons (QOp.q rfl rfl (Quiet1.load hT rfl rfl rfl hc59) rfl rfl) (QAll.cons (QOp.q rfl rfl (Quiet1.load hT rfl rfl rfl hc60) rfl rfl) (QAll.cons (QOp.q rfl rfl (Quiet1.load hT rfl rfl rfl hc61) rfl rfl) (QAll.cons (QOp.q rfl rfl (Quiet1.load hT rfl rfl rfl hc62) rfl rfl) (QAll.cons (QOp.q rfl rfl (Quiet1.nilChk rfl rfl hc29) rfl rfl) (QAll.cons (QOp.p hT rfl rfl rfl rfl rfl) (QAll.cons (QOp.q rfl rfl (Quiet1.load hT rfl rfl rfl hc63) rfl rfl) QAll.nil))))))) ?_
                 refine EAll.cons ?_ EAll.nil
                 refine EOp.e rfl rfl rfl (EffX.appendS (s := _) (u := _) hT rfl rfl rfl rfl rfl rfl rfl rfl rfl rfl (by decide) H) ?_
                 rintro _ _ ⟨v_29, h0u20, rfl, rfl, H⟩
                 obtain ⟨hc64, H⟩ := H
                 obtain ⟨hc65, H⟩ := H
                 obtain ⟨hc66, H⟩ := H
                 obtain ⟨a_10, hc67, H⟩ := H
                 apply Stg.next [(121, _), (122, _), (123, _)] rfl rfl
                 refine Stg.go [0, 1, 2, 24, 25] [26] rfl rfl (QAll.cons (QOp.q rfl rfl (Quiet1.load hT rfl rfl rfl hc64) rfl rfl) (QAll.cons (QOp.q rfl rfl (Quiet1.load hT rfl rfl rfl hc65) rfl rfl) (QAll.cons (QOp.q rfl rfl (Quiet1.load hT rfl rfl rfl hc66) rfl rfl) (QAll.cons (QOp.q rfl rfl (Quiet1.nilChk rfl rfl hc67) rfl rfl) (QAll.cons (QOp.p hT rfl rfl rfl rfl rfl) QAll.nil))))) ?_
                 refine EAll.cons ?_ EAll.nil
                 refine EOp.e rfl rfl rfl (EffX.store hT rfl rfl rfl rfl rfl H) ?_
                 rintro _ _ ⟨h0u21, rfl, H⟩
                 obtain ⟨hc68, H⟩ := H
                 obtain ⟨hc69, H⟩ := H
                 obtain ⟨a_11, hc70, H⟩ := H
                 apply Stg.next [(124, _), (125, _)] rfl rfl
                 refine Stg.go [1, 2, 27, 28] [29] rfl rfl (QAll.cons (QOp.q rfl rfl (Quiet1.load hT rfl rfl rfl hc68) rfl rfl) (QAll.cons (QOp.q rfl rfl (Quiet1.load hT rfl rfl rfl hc69) rfl rfl) (QAll.cons (QOp.q rfl rfl (Quiet1.nilChk rfl rfl hc70) rfl rfl) (QAll.cons (QOp.p hT rfl rfl rfl rfl rfl) QAll.nil)))) ?_
                 refine EAll.cons ?_ EAll.nil
                 refine EOp.e rfl rfl rfl (EffX.store hT rfl rfl rfl rfl rfl H) ?_
                 rintro _ _ ⟨h0u22, rfl, H⟩
                 obtain ⟨hc71, H⟩ := H
                 obtain ⟨a_12, hc72, H⟩ := H
                 apply Stg.next [(126, _), (127, _)] rfl rfl
                 refine Stg.go [2, 30, 31] [32] rfl rfl (QAll.cons (QOp.q rfl rfl (Quiet1.load hT rfl rfl rfl hc71) rfl rfl) (QAll.cons (QOp.q rfl rfl (Quiet1.nilChk rfl rfl hc72) rfl rfl) (QAll.cons (QOp.p hT rfl rfl rfl rfl rfl) QAll.nil))) ?_
                 refine EAll.cons ?_ EAll.nil
                 refine EOp.e rfl rfl rfl (EffX.store hT rfl rfl rfl rfl rfl H) ?_
                 rintro _ _ ⟨h0u23, rfl, H⟩
                 apply Stg.next [] rfl rfl
                 refine Stg.fin [] rfl rfl QAll.nil ?_
                 exact AtE.then_n ((HK19 _ () _ H).pickP (ts := [2]) (is := []) rfl rfl (by decide) rfl)
                refine EAll.cons ?_ EAll.nil
                replace H := H.2
                refine EOp.e rfl rfl rfl (EffX.buildS2 (cs := [_]) hT rfl rfl rfl rfl rfl rfl rfl rfl H) ?_
                rintro _ _ ⟨a_13, h0u24, rfl, rfl, H⟩
                obtain ⟨hc73, H⟩ := H
                obtain ⟨hc74, H⟩ := H
                obtain ⟨hc75, H⟩ := H
                obtain ⟨hc76, H⟩ := H
                obtain ⟨hc77, H⟩ := H
                obtain ⟨hc78, H⟩ := H
                obtain ⟨hc79, H⟩ := H
                apply Stg.next [(120, _)] rfl rfl
                refine Stg.go [0, 1, 2, 10, 11, 12, 13, 17, 18, 19, 20] [16] rfl rfl (QAll.cons (QOp.q rfl rfl (Quiet1.load hT rfl rfl rfl hc73) rfl rfl) (QAll.cons (QOp.q rfl rfl (Quiet1.load hT rfl rfl rfl hc74) rfl rfl) (QAll.cons (QOp.q rfl rfl (Quiet1.load hT rfl rfl rfl hc75) rfl rfl) (QAll.cons (QOp.q rfl rfl (Quiet1.load hT rfl rfl rfl hc76) rfl rfl) (QAll.cons (QOp.q rfl rfl (Quiet1.nilChk rfl rfl hc26) rfl rfl) (QAll.cons (QOp.p hT rfl rfl rfl rfl rfl) (QAll.cons (QOp.q rfl rfl (Quiet1.load hT rfl rfl rfl hc77) rfl rfl) (QAll.cons (QOp.q rfl rfl (Quiet1.load hT rfl rfl rfl hc78) rfl rfl) (QAll.cons (QOp.q rfl rfl (Quiet1.nilChk rfl rfl hc29) rfl rfl) (QAll.cons (QOp.p hT rfl rfl rfl rfl rfl) (QAll.cons (QOp.q rfl rfl (Quiet1.load hT rfl rfl rfl hc79) rfl rfl) QAll.nil))))))))))) ?_
                refine EAll.cons ?_ EAll.nil
                refine EOp.e rfl rfl rfl (EffX.appendS (s := _) (u := _) hT rfl rfl rfl rfl rfl rfl rfl rfl rfl rfl (by decide) H) ?_
                rintro _ _ ⟨v_31, h0u25, rfl, rfl, H⟩
                obtain ⟨hc80, H⟩ := H
                obtain ⟨hc81, H⟩ := H
                obtain ⟨hc82, H⟩ := H
                obtain ⟨hc83, H⟩ := H
                obtain ⟨hc84, H⟩ := H
                apply Stg.next [(114, _)] rfl rfl
                refine Stg.go [0, 1, 2, 17, 18, 19, 20] [23] rfl rfl (QAll.cons (QOp.q rfl rfl (Quiet1.load hT rfl rfl rfl hc80) rfl rfl) (QAll.cons (QOp.q rfl rfl (Quiet1.load hT rfl rfl rfl hc81) rfl rfl) (QAll.cons (QOp.q rfl rfl (Quiet1.load hT rfl rfl rfl hc82) rfl rfl) (QAll.cons (QOp.q rfl rfl (Quiet1.load hT rfl rfl rfl hc83) rfl rfl) (QAll.cons (QOp.q rfl rfl (Quiet1.nilChk rfl rfl hc29) rfl rfl) (QAll.cons (QOp.p hT rfl rfl rfl rfl rfl) (QAll.cons (QOp.q rfl rfl (Quiet1.load hT rfl rfl rfl hc84) rfl rfl) QAll.nil))))))) ?_
                refine EAll.cons ?_ EAll.nil
                refine EOp.e rfl rfl rfl (EffX.appendS (s := _) (u := _) hT rfl rfl rfl rfl rfl rfl rfl rfl rfl rfl (by decide) H) ?_
                rintro _ _ ⟨v_32, h0u26, rfl, rfl, H⟩
                obtain ⟨hc85, H⟩ := H
                obtain ⟨hc86, H⟩ := H
                obtain ⟨hc87, H⟩ := H
                obtain ⟨a_14, hc88, H⟩ := H
                apply Stg.next [(121, _), (122, _), (123, _)] rfl rfl
                refine Stg.go [0, 1, 2, 24, 25] [26] rfl rfl (QAll.cons (QOp.q rfl rfl (Quiet1.load hT rfl rfl rfl hc85) rfl rfl) (QAll.cons (QOp.q rfl rfl (Quiet1.load hT rfl rfl rfl hc86) rfl rfl) (QAll.cons (QOp.q rfl rfl (Quiet1.load hT rfl rfl rfl hc87) rfl rfl) (QAll.cons (QOp.q rfl rfl (Quiet1.nilChk rfl rfl hc88) rfl rfl) (QAll.cons (QOp.p hT rfl rfl rfl rfl rfl) QAll.nil))))) ?_
                refine EAll.cons ?_ EAll.nil
                refine EOp.e rfl rfl rfl (EffX.store hT rfl rfl rfl rfl rfl H) ?_
                rintro _ _ ⟨h0u27, rfl, H⟩
                obtain ⟨hc89, H⟩ := H
                obtain ⟨hc90, H⟩ := H
                obtain ⟨a_15, hc91, H⟩ := H
                apply Stg.next [(124, _), (125, _)] rfl rfl
                refine Stg.go [1, 2, 27, 28] [29] rfl rfl (QAll.cons (QOp.q rfl rfl (Quiet1.load hT rfl rfl rfl hc89) rfl rfl) (QAll.cons (QOp.q rfl rfl (Quiet1.load hT rfl rfl rfl hc90) rfl rfl) (QAll.cons (QOp.q rfl rfl (Quiet1.nilChk rfl rfl hc91) rfl rfl) (QAll.cons (QOp.p hT rfl rfl rfl rfl rfl) QAll.nil)))) ?_
                refine EAll.cons ?_ EAll.nil
                refine EOp.e rfl rfl rfl (EffX.store hT rfl rfl rfl rfl rfl H) ?_
                rintro _ _ ⟨h0u28, rfl, H⟩
                obtain ⟨hc92, H⟩ := H
                obtain ⟨a_16, hc93, H⟩ := H
                apply Stg.next [(126, _), (127, _)] rfl rfl
                refine Stg.go [2, 30, 31] [32] rfl rfl (QAll.cons (QOp.q rfl rfl (Quiet1.load hT rfl rfl rfl hc92) rfl rfl) (QAll.cons (QOp.q rfl rfl (Quiet1.nilChk rfl rfl hc93) rfl rfl) (QAll.cons (QOp.p hT rfl rfl rfl rfl rfl) QAll.nil))) ?_
                refine EAll.cons ?_ EAll.nil
                refine EOp.e rfl rfl rfl (EffX.store hT rfl rfl rfl rfl rfl H) ?_
                rintro _ _ ⟨h0u29, rfl, H⟩
                apply Stg.next [] rfl rfl
                refine Stg.fin [] rfl rfl QAll.nil ?_
                exact AtE.then_n ((HK19 _ () _ H).pickP (ts := [2]) (is := []) rfl rfl (by decide) rfl)
               refine EAll.cons ?_ EAll.nil
               replace H := H.2
               refine EOp.e rfl rfl rfl (EffX.buildS2 (cs := [_]) hT rfl rfl rfl rfl rfl rfl rfl rfl H) ?_
               rintro _ _ ⟨a_17, h0u30, rfl, rfl, H⟩
               obtain ⟨hc94, H⟩ := H
               obtain ⟨hc95, H⟩ := H
               obtain ⟨hc96, H⟩ := H
               obtain ⟨hc97, H⟩ := H
               obtain ⟨hc98, H⟩ := H
               obtain ⟨hc99, H⟩ := H
               obtain ⟨hc100, H⟩ := H
               apply Stg.next [(120, _)] rfl rfl
               refine Stg.go [0, 1, 2, 10, 11, 12, 13, 14, 17, 18, 19, 20] [15] rfl rfl (QAll.cons (QOp.q rfl rfl (Quiet1.load hT rfl rfl rfl hc94) rfl rfl) (QAll.cons (QOp.q rfl rfl (Quiet1.load hT rfl rfl rfl hc95) rfl rfl) (QAll.cons (QOp.q rfl rfl (Quiet1.load hT rfl rfl rfl hc96) rfl rfl) (QAll.cons (QOp.q rfl rfl (Quiet1.load hT rfl rfl rfl hc97) rfl rfl) (QAll.cons (QOp.q rfl rfl (Quiet1.nilChk rfl rfl hc26) rfl rfl) (QAll.cons (QOp.p hT rfl rfl rfl rfl rfl) (QAll.cons (QOp.q rfl rfl (Quiet1.load hT rfl rfl rfl hc98) rfl rfl) (QAll.cons (QOp.p hT rfl rfl rfl rfl rfl) (QAll.cons (QOp.q rfl rfl (Quiet1.load hT rfl rfl rfl hc99) rfl rfl) (QAll.cons (QOp.q rfl rfl (Quiet1.nilChk rfl rfl hc29) rfl rfl) (QAll.cons (QOp.p hT rfl rfl rfl rfl rfl) (QAll.cons (QOp.q rfl rfl (Quiet1.load hT rfl rfl rfl hc100) rfl rfl) QAll.nil)))))))))))) ?_
               refine EAll.cons ?_ EAll.nil
               refine EOp.e rfl rfl rfl (EffX.buildS2 (cs := [_]) hT rfl rfl rfl rfl rfl rfl rfl rfl H) ?_
               rintro _ _ ⟨a_18, h0u31, rfl, rfl, H⟩
               obtain ⟨hc101, H⟩ := H
               obtain ⟨hc102, H⟩ := H
               obtain ⟨hc103, H⟩ := H
               obtain ⟨hc104, H⟩ := H
               obtain ⟨hc105, H⟩ := H
               obtain ⟨hc106, H⟩ := H
               obtain ⟨hc107, H⟩ := H
               apply Stg.next [(113, _)] rfl rfl
               refine Stg.go [0, 1, 2, 10, 11, 12, 13, 17, 18, 19, 20] [16] rfl rfl (QAll.cons (QOp.q rfl rfl (Quiet1.load hT rfl rfl rfl hc101) rfl rfl) (QAll.cons (QOp.q rfl rfl (Quiet1.load hT rfl rfl rfl hc102) rfl rfl) (QAll.cons (QOp.q rfl rfl (Quiet1.load hT rfl rfl rfl hc103) rfl rfl) (QAll.cons (QOp.q rfl rfl (Quiet1.load hT rfl rfl rfl hc104) rfl rfl) (QAll.cons (QOp.q rfl rfl (Quiet1.nilChk rfl rfl hc26) rfl rfl) (QAll.cons (QOp.p hT rfl rfl rfl rfl rfl) (QAll.cons (QOp.q rfl rfl (Quiet1.load hT rfl rfl rfl hc105) rfl rfl) (QAll.cons (QOp.q rfl rfl (Quiet1.load hT rfl rfl rfl hc106) rfl rfl) (QAll.cons (QOp.q rfl rfl (Quiet1.nilChk rfl rfl hc29) rfl rfl) (QAll.cons (QOp.p hT rfl rfl rfl rfl rfl) (QAll.cons (QOp.q rfl rfl (Quiet1.load hT rfl rfl rfl hc107) rfl rfl) QAll.nil))))))))))) ?_
               refine EAll.cons ?_ EAll.nil
               refine EOp.e rfl rfl rfl (EffX.appendS (s := _) (u := _) hT rfl rfl rfl rfl rfl rfl rfl rfl rfl rfl (by decide) H) ?_
               rintro _ _ ⟨v_35, h0u32, rfl, rfl, H⟩
               obtain ⟨hc108, H⟩ := H
               obtain ⟨hc109, H⟩ := H
               obtain ⟨hc110, H⟩ := H
               obtain ⟨hc111, H⟩ := H
               obtain ⟨hc112, H⟩ := H
               apply Stg.next [(114, _)] rfl rfl
               refine Stg.go [0, 1, 2, 17, 18, 19, 20] [23] rfl rfl (QAll.cons (QOp.q rfl rfl (Quiet1.load hT rfl rfl rfl hc108) rfl rfl) (QAll.cons (QOp.q rfl rfl (Quiet1.load hT rfl rfl rfl hc109) rfl rfl) (QAll.cons (QOp.q rfl rfl (Quiet1.load hT rfl rfl rfl hc110) rfl rfl) (QAll.cons (QOp.q rfl rfl (Quiet1.load hT rfl rfl rfl hc111) rfl rfl) (QAll.cons (QOp.q rfl rfl (Quiet1.nilChk rfl rfl hc29) rfl rfl) (QAll.cons (QOp.p hT rfl rfl rfl rfl rfl) (QAll.cons (QOp.q rfl rfl (Quiet1.load hT rfl rfl rfl hc112) rfl rfl) QAll.nil))))))) ?_
               refine EAll.cons ?_ EAll.nil
               refine EOp.e rfl rfl rfl (EffX.appendS (s := _) (u := _) hT rfl rfl rfl rfl rfl rfl rfl rfl rfl rfl (by decide) H) ?_
               rintro _ _ ⟨v_36, h0u33, rfl, rfl, H⟩
               obtain ⟨hc113, H⟩ := H
               obtain ⟨hc114, H⟩ := H
               obtain ⟨hc115, H⟩ := H
               obtain ⟨a_19, hc116, H⟩ := H
               apply Stg.next [(121, _), (122, _), (123, _)] rfl rfl
               refine Stg.go [0, 1, 2, 24, 25] [26] rfl rfl (QAll.cons (QOp.q rfl rfl (Quiet1.load hT rfl rfl rfl hc113) rfl rfl) (QAll.cons (QOp.q rfl rfl (Quiet1.load hT rfl rfl rfl hc114) rfl rfl) (QAll.cons (QOp.q rfl rfl (Quiet1.load hT rfl rfl rfl hc115) rfl rfl) (QAll.cons (QOp.q rfl rfl (Quiet1.nilChk rfl rfl hc116) rfl rfl) (QAll.cons (QOp.p hT rfl rfl rfl rfl rfl) QAll.nil))))) ?_
               refine EAll.cons ?_ EAll.nil
               refine EOp.e rfl rfl rfl (EffX.store hT rfl rfl rfl rfl rfl H) ?_
               rintro _ _ ⟨h0u34, rfl, H⟩
               obtain ⟨hc117, H⟩ := H
               obtain ⟨hc118, H⟩ := H
               obtain ⟨a_20, hc119, H⟩ := H
               apply Stg.next [(124, _), (125, _)] rfl rfl
               refine Stg.go [1, 2, 27, 28] [29] rfl rfl (QAll.cons (QOp.q rfl rfl (Quiet1.load hT rfl rfl rfl hc117) rfl rfl) (QAll.cons (QOp.q rfl rfl (Quiet1.load hT rfl rfl rfl hc118) rfl rfl) (QAll.cons (QOp.q rfl rfl (Quiet1.nilChk rfl rfl hc119) rfl rfl) (QAll.cons (QOp.p hT rfl rfl rfl rfl rfl) QAll.nil)))) ?_
               refine EAll.cons ?_ EAll.nil
               refine EOp.e rfl rfl rfl (EffX.store hT rfl rfl rfl rfl rfl H) ?_
               rintro _ _ ⟨h0u35, rfl, H⟩
               obtain ⟨hc120, H⟩ := H
               obtain ⟨a_21, hc121, H⟩ := H
               apply Stg.next [(126, _), (127, _)] rfl rfl
               refine Stg.go [2, 30, 31] [32] rfl rfl (QAll.cons (QOp.q rfl rfl (Quiet1.load hT rfl rfl rfl hc120) rfl rfl) (QAll.cons (QOp.q rfl rfl (Quiet1.nilChk rfl rfl hc121) rfl rfl) (QAll.cons (QOp.p hT rfl rfl rfl rfl rfl) QAll.nil))) ?_
               refine EAll.cons ?_ EAll.nil
               refine EOp.e rfl rfl rfl (EffX.store hT rfl rfl rfl rfl rfl H) ?_
               rintro _ _ ⟨h0u36, rfl, H⟩
               apply Stg.next [] rfl rfl
               refine Stg.fin [] rfl rfl QAll.nil ?_
               exact AtE.then_n ((HK19 _ () _ H).pickP (ts := [2]) (is := []) rfl rfl (by decide) rfl)
              refine EAll.cons ?_ ?_
              ·
               replace H := H.2.1
               refine EOp.e rfl rfl rfl (EffX.buildS2 (cs := [_]) hT rfl rfl rfl rfl rfl rfl rfl rfl H) ?_
               rintro _ _ ⟨a_22, h0u37, rfl, rfl, H⟩
               obtain ⟨hc122, H⟩ := H
               obtain ⟨hc123, H⟩ := H
               obtain ⟨hc124, H⟩ := H
               obtain ⟨hc125, H⟩ := H
               obtain ⟨hc126, H⟩ := H
               obtain ⟨hc127, H⟩ := H
               obtain ⟨hc128, H⟩ := H
               obtain ⟨hc129, H⟩ := H
               obtain ⟨hc130, H⟩ := H
               apply Stg.next [(113, _)] rfl rfl
               refine Stg.go [0, 1, 2, 3, 4, 5, 6, 10, 11, 12, 13, 17, 18, 19, 20, 21] [9, 22] rfl rfl (QAll.cons (QOp.q rfl rfl (Quiet1.load hT rfl rfl rfl hc122) rfl rfl) (QAll.cons (QOp.q rfl rfl (Quiet1.load hT rfl rfl rfl hc123) rfl rfl) (QAll.cons (QOp.q rfl rfl (Quiet1.load hT rfl rfl rfl hc124) rfl rfl) (QAll.cons (QOp.q rfl rfl (Quiet1.load hT rfl rfl rfl hc125) rfl rfl) (QAll.cons (QOp.q rfl rfl (Quiet1.nilChk rfl rfl hc23) rfl rfl) (QAll.cons (QOp.p hT rfl rfl rfl rfl rfl) (QAll.cons (QOp.q rfl rfl (Quiet1.load hT rfl rfl rfl hc126) rfl rfl) (QAll.cons (QOp.q rfl rfl (Quiet1.load hT rfl rfl rfl hc127) rfl rfl) (QAll.cons (QOp.q rfl rfl (Quiet1.nilChk rfl rfl hc26) rfl rfl) (QAll.cons (QOp.p hT rfl rfl rfl rfl rfl) (QAll.cons (QOp.q rfl rfl (Quiet1.load hT rfl rfl rfl hc128) rfl rfl) (QAll.cons (QOp.q rfl rfl (Quiet1.load hT rfl rfl rfl hc129) rfl rfl) (QAll.cons (QOp.q rfl rfl (Quiet1.nilChk rfl rfl hc29) rfl rfl) (QAll.cons (QOp.p hT rfl rfl rfl rfl rfl) (QAll.cons (QOp.q rfl rfl (Quiet1.load hT rfl rfl rfl hc130) rfl rfl) (QAll.cons (QOp.p hT rfl rfl rfl rfl rfl) QAll.nil)))))))))))))))) ?_
               refine EAll.cons ?_ ?_
               ·
                replace H := H.1
                refine EOp.e rfl rfl rfl (EffX.appendS (s := _) (u := _) hT rfl rfl rfl rfl rfl rfl rfl rfl rfl rfl (by decide) H) ?_
                rintro _ _ ⟨v_38, h0u38, rfl, rfl, H⟩
                obtain ⟨hc131, H⟩ := H
                obtain ⟨hc132, H⟩ := H
                obtain ⟨hc133, H⟩ := H
                obtain ⟨hc134, H⟩ := H
                obtain ⟨hc135, H⟩ := H
                obtain ⟨hc136, H⟩ := H
                obtain ⟨hc137, H⟩ := H
                apply Stg.next [(107, _)] rfl rfl
                refine Stg.go [0, 1, 2, 10, 11, 12, 13, 17, 18, 19, 20, 21] [16, 22] rfl rfl (QAll.cons (QOp.q rfl rfl (Quiet1.load hT rfl rfl rfl hc131) rfl rfl) (QAll.cons (QOp.q rfl rfl (Quiet1.load hT rfl rfl rfl hc132) rfl rfl) (QAll.cons (QOp.q rfl rfl (Quiet1.load hT rfl rfl rfl hc133) rfl rfl) (QAll.cons (QOp.q rfl rfl (Quiet1.load hT rfl rfl rfl hc134) rfl rfl) (QAll.cons (QOp.q rfl rfl (Quiet1.nilChk rfl rfl hc26) rfl rfl) (QAll.cons (QOp.p hT rfl rfl rfl rfl rfl) (QAll.cons (QOp.q rfl rfl (Quiet1.load hT rfl rfl rfl hc135) rfl rfl) (QAll.cons (QOp.q rfl rfl (Quiet1.load hT rfl rfl rfl hc136) rfl rfl) (QAll.cons (QOp.q rfl rfl (Quiet1.nilChk rfl rfl hc29) rfl rfl) (QAll.cons (QOp.p hT rfl rfl rfl rfl rfl) (QAll.cons (QOp.q rfl rfl (Quiet1.load hT rfl rfl rfl hc137) rfl rfl) (QAll.cons (QOp.p hT rfl rfl rfl rfl rfl) QAll.nil)))))))))))) ?_
                refine EAll.cons ?_ ?_
                ·
                 replace H := H.1
                 refine EOp.e rfl rfl rfl (EffX.appendS (s := _) (u := _) hT rfl rfl rfl rfl rfl rfl rfl rfl rfl rfl (by decide) H) ?_
                 rintro _ _ ⟨v_39, h0u39, rfl, rfl, H⟩
                 obtain ⟨hc138, H⟩ := H
                 obtain ⟨hc139, H⟩ := H
                 obtain ⟨hc140, H⟩ := H
                 obtain ⟨hc141, H⟩ := H
                 obtain ⟨hc142, H⟩ := H
                 apply Stg.next [(114, _)] rfl rfl
                 refine Stg.go [0, 1, 2, 17, 18, 19, 20, 21] [22] rfl rfl (QAll.cons (QOp.q rfl rfl (Quiet1.load hT rfl rfl rfl hc138) rfl rfl) (QAll.cons (QOp.q rfl rfl (Quiet1.load hT rfl rfl rfl hc139) rfl rfl) (QAll.cons (QOp.q rfl rfl (Quiet1.load hT rfl rfl rfl hc140) rfl rfl) (QAll.cons (QOp.q rfl rfl (Quiet1.load hT rfl rfl rfl hc141) rfl rfl) (QAll.cons (QOp.q rfl rfl (Quiet1.nilChk rfl rfl hc29) rfl rfl) (QAll.cons (QOp.p hT rfl rfl rfl rfl rfl) (QAll.cons (QOp.q rfl rfl (Quiet1.load hT rfl rfl rfl hc142) rfl rfl) (QAll.cons (QOp.p hT rfl rfl rfl rfl rfl) QAll.nil)))))))) ?_
                 refine EAll.cons ?_ EAll.nil
                 refine EOp.e rfl rfl rfl (EffX.buildS2 (cs := [_]) hT rfl rfl rfl rfl rfl rfl rfl rfl H) ?_
                 rintro _ _ ⟨a_23, h0u40, rfl, rfl, H⟩
                 obtain ⟨hc143, H⟩ := H
                 obtain ⟨hc144, H⟩ := H
                 obtain ⟨hc145, H⟩ := H
                 obtain ⟨hc146, H⟩ := H
                 obtain ⟨hc147, H⟩ := H
                 apply Stg.next [(120, _)] rfl rfl
                 refine Stg.go [0, 1, 2, 17, 18, 19, 20] [23] rfl rfl (QAll.cons (QOp.q rfl rfl (Quiet1.load hT rfl rfl rfl hc143) rfl rfl) (QAll.cons (QOp.q rfl rfl (Quiet1.load hT rfl rfl rfl hc144) rfl rfl) (QAll.cons (QOp.q rfl rfl (Quiet1.load hT rfl rfl rfl hc145) rfl rfl) (QAll.cons (QOp.q rfl rfl (Quiet1.load hT rfl rfl rfl hc146) rfl rfl) (QAll.cons (QOp.q rfl rfl (Quiet1.nilChk rfl rfl hc29) rfl rfl) (QAll.cons (QOp.p hT rfl rfl rfl rfl rfl) (QAll.cons (QOp.q rfl rfl (Quiet1.load hT rfl rfl rfl hc147) rfl rfl) QAll.nil))))))) ?_
                 refine EAll.cons ?_ EAll.nil
                 refine EOp.e rfl rfl rfl (EffX.appendS (s := _) (u := _) hT rfl rfl rfl rfl rfl rfl rfl rfl rfl rfl (by decide) H) ?_
                 rintro _ _ ⟨v_41, h0u41, rfl, rfl, H⟩
                 obtain ⟨hc148, H⟩ := H
                 obtain ⟨hc149, H⟩ := H
                 obtain ⟨hc150, H⟩ := H
                 obtain ⟨a_24, hc151, H⟩ := H
                 apply Stg.next [(121, _), (122, _), (123, _)] rfl rfl
                 refine Stg.go [0, 1, 2, 24, 25] [26] rfl rfl (QAll.cons (QOp.q rfl rfl (Quiet1.load hT rfl rfl rfl hc148) rfl rfl) (QAll.cons (QOp.q rfl rfl (Quiet1.load hT rfl rfl rfl hc149) rfl rfl) (QAll.cons (QOp.q rfl rfl (Quiet1.load hT rfl rfl rfl hc150) rfl rfl) (QAll.cons (QOp.q rfl rfl (Quiet1.nilChk rfl rfl hc151) rfl rfl) (QAll.cons (QOp.p hT rfl rfl rfl rfl rfl) QAll.nil))))) ?_
                 refine EAll.cons ?_ EAll.nil
                 refine EOp.e rfl rfl rfl (EffX.store hT rfl rfl rfl rfl rfl H) ?_
                 rintro _ _ ⟨h0u42, rfl, H⟩
                 obtain ⟨hc152, H⟩ := H
                 obtain ⟨hc153, H⟩ := H
                 obtain ⟨a_25, hc154, H⟩ := H
                 apply Stg.next [(124, _), (125, _)] rfl rfl
                 refine Stg.go [1, 2, 27, 28] [29] rfl rfl (QAll.cons (QOp.q rfl rfl (Quiet1.load hT rfl rfl rfl hc152) rfl rfl) (QAll.cons (QOp.q rfl rfl (Quiet1.load hT rfl rfl rfl hc153) rfl rfl) (QAll.cons (QOp.q rfl rfl (Quiet1.nilChk rfl rfl hc154) rfl rfl) (QAll.cons (QOp.p hT rfl rfl rfl rfl rfl) QAll.nil)))) ?_
                 refine EAll.cons ?_ EAll.nil
                 refine EOp.e rfl rfl rfl (EffX.store hT rfl rfl rfl rfl rfl H) ?_
                 rintro _ _ ⟨h0u43, rfl, H⟩
                 obtain ⟨hc155, H⟩ := H
                 obtain ⟨a_26, hc156, H⟩ := H
                 apply Stg.next [(126, _), (127, _)] rfl rfl
                 refine Stg.go [2, 30, 31] [32] rfl rfl (QAll.cons (QOp.q rfl rfl (Quiet1.load hT rfl rfl rfl hc155) rfl rfl) (QAll.cons (QOp.q rfl rfl (Quiet1.nilChk rfl rfl hc156) rfl rfl) (QAll.cons (QOp.p hT rfl rfl rfl rfl rfl) QAll.nil))) ?_
                 refine EAll.cons ?_ EAll.nil
                 refine EOp.e rfl rfl rfl (EffX.store hT rfl rfl rfl rfl rfl H) ?_
                 rintro _ _ ⟨h0u44, rfl, H⟩
                 apply Stg.next [] rfl rfl
                 refine Stg.fin [] rfl rfl QAll.nil ?_
                 exact AtE.then_n ((HK19 _ () _ H).pickP (ts := [2]) (is := []) rfl rfl (by decide) rfl)
                refine EAll.cons ?_ EAll.nil
                replace H := H.2
                refine EOp.e rfl rfl rfl (EffX.buildS2 (cs := [_]) hT rfl rfl rfl rfl rfl rfl rfl rfl H) ?_
                rintro _ _ ⟨a_27, h0u45, rfl, rfl, H⟩
                obtain ⟨hc157, H⟩ := H
                obtain ⟨hc158, H⟩ := H
                obtain ⟨hc159, H⟩ := H
                obtain ⟨hc160, H⟩ := H
                obtain ⟨hc161, H⟩ := H
                obtain ⟨hc162, H⟩ := H
                obtain ⟨hc163, H⟩ := H
                apply Stg.next [(120, _)] rfl rfl
                refine Stg.go [0, 1, 2, 10, 11, 12, 13, 17, 18, 19, 20] [16] rfl rfl (QAll.cons (QOp.q rfl rfl (Quiet1.load hT rfl rfl rfl hc157) rfl rfl) (QAll.cons (QOp.q rfl rfl (Quiet1.load hT rfl rfl rfl hc158) rfl rfl) (QAll.cons (QOp.q rfl rfl (Quiet1.load hT rfl rfl rfl hc159) rfl rfl) (QAll.cons (QOp.q rfl rfl (Quiet1.load hT rfl rfl rfl hc160) rfl rfl) (QAll.cons (QOp.q rfl rfl (Quiet1.nilChk rfl rfl hc26) rfl rfl) (QAll.cons (QOp.p hT rfl rfl rfl rfl rfl) (QAll.cons (QOp.q rfl rfl (Quiet1.load hT rfl rfl rfl hc161) rfl rfl) (QAll.cons (QOp.q rfl rfl (Quiet1.load hT rfl rfl rfl hc162) rfl rfl) (QAll.cons (QOp.q rfl rfl (Quiet1.nilChk rfl rfl hc29) rfl rfl) (QAll.cons (QOp.p hT rfl rfl rfl rfl rfl) (QAll.cons (QOp.q rfl rfl (Quiet1.load hT rfl rfl rfl hc163) rfl rfl) QAll.nil))))))))))) ?_
                refine EAll.cons ?_ EAll.nil
                refine EOp.e rfl rfl rfl (EffX.appendS (s := _) (u := _) hT rfl rfl rfl rfl rfl rfl rfl rfl rfl rfl (by decide) H) ?_
                rintro _ _ ⟨v_43, h0u46, rfl, rfl, H⟩
                obtain ⟨hc164, H⟩ := H
                obtain ⟨hc165, H⟩ := H
                obtain ⟨hc166, H⟩ := H
                obtain ⟨hc167, H⟩ := H
                obtain ⟨hc168, H⟩ := H
                apply Stg.next [(114, _)] rfl rfl
                refine Stg.go [0, 1, 2, 17, 18, 19, 20] [23] rfl rfl (QAll.cons (QOp.q rfl rfl (Quiet1.load hT rfl rfl rfl hc164) rfl rfl) (QAll.cons (QOp.q rfl rfl (Quiet1.load hT rfl rfl rfl hc165) rfl rfl) (QAll.cons (QOp.q rfl rfl (Quiet1.load hT rfl rfl rfl hc166) rfl rfl) (QAll.cons (QOp.q rfl rfl (Quiet1.load hT rfl rfl rfl hc167) rfl rfl) (QAll.cons (QOp.q rfl rfl (Quiet1.nilChk rfl rfl hc29) rfl rfl) (QAll.cons (QOp.p hT rfl rfl rfl rfl rfl) (QAll.cons (QOp.q rfl rfl (Quiet1.load hT rfl rfl rfl hc168) rfl rfl) QAll.nil))))))) ?_
                refine EAll.cons ?_ EAll.nil
                refine EOp.e rfl rfl rfl (EffX.appendS (s := _) (u := _) hT rfl rfl rfl rfl rfl rfl rfl rfl rfl rfl (by decide) H) ?_
                rintro _ _ ⟨v_44, h0u47, rfl, rfl, H⟩
                obtain ⟨hc169, H⟩ := H
                obtain ⟨hc170, H⟩ := H
                obtain ⟨hc171, H⟩ := H
                obtain ⟨a_28, hc172, H⟩ := H
                apply Stg.next [(121, _), (122, _), (123, _)] rfl rfl
                refine Stg.go [0, 1, 2, 24, 25] [26] rfl rfl (QAll.cons (QOp.q rfl rfl (Quiet1.load hT rfl rfl rfl hc169) rfl rfl) (QAll.cons (QOp.q rfl rfl (Quiet1.load hT rfl rfl rfl hc170) rfl rfl) (QAll.cons (QOp.q rfl rfl (Quiet1.load hT rfl rfl rfl hc171) rfl rfl) (QAll.cons (QOp.q rfl rfl (Quiet1.nilChk rfl rfl hc172) rfl rfl) (QAll.cons (QOp.p hT rfl rfl rfl rfl rfl) QAll.nil))))) ?_
                refine EAll.cons ?_ EAll.nil
                refine EOp.e rfl rfl rfl (EffX.store hT rfl rfl rfl rfl rfl H) ?_
                rintro _ _ ⟨h0u48, rfl, H⟩
                obtain ⟨hc173, H⟩ := H
                obtain ⟨hc174, H⟩ := H
                obtain ⟨a_29, hc175, H⟩ := H
                apply Stg.next [(124, _), (125, _)] rfl rfl
                refine Stg.go [1, 2, 27, 28] [29] rfl rfl (QAll.cons (QOp.q rfl rfl (Quiet1.load hT rfl rfl rfl hc173) rfl rfl) (QAll.cons (QOp.q rfl rfl (Quiet1.load hT rfl rfl rfl hc174) rfl rfl) (QAll.cons (QOp.q rfl rfl (Quiet1.nilChk rfl rfl hc175) rfl rfl) (QAll.cons (QOp.p hT rfl rfl rfl rfl rfl) QAll.nil)))) ?_
                refine EAll.cons ?_ EAll.nil
                refine EOp.e rfl rfl rfl (EffX.store hT rfl rfl rfl rfl rfl H) ?_
                rintro _ _ ⟨h0u49, rfl, H⟩
                obtain ⟨hc176, H⟩ := H
                obtain ⟨a_30, hc177, H⟩ := H
                apply Stg.next [(126, _), (127, _)] rfl rfl
                refine Stg.go [2, 30, 31] [32] rfl rfl (QAll.cons (QOp.q rfl rfl (Quiet1.load hT rfl rfl rfl hc176) rfl rfl) (QAll.cons (QOp.q rfl rfl (Quiet1.nilChk rfl rfl hc177) rfl rfl) (QAll.cons (QOp.p hT rfl rfl rfl rfl rfl) QAll.nil))) ?_
                refine EAll.cons ?_ EAll.nil
                refine EOp.e rfl rfl rfl (EffX.store hT rfl rfl rfl rfl rfl H) ?_
                rintro _ _ ⟨h0u50, rfl, H⟩
                apply Stg.next [] rfl rfl
                refine Stg.fin [] rfl rfl QAll.nil ?_
                exact AtE.then_n ((HK19 _ () _ H).pickP (ts := [2]) (is := []) rfl rfl (by decide) rfl)
               refine EAll.cons ?_ EAll.nil
               replace H := H.2
               refine EOp.e rfl rfl rfl (EffX.buildS2 (cs := [_]) hT rfl rfl rfl rfl rfl rfl rfl rfl H) ?_
               rintro _ _ ⟨a_31, h0u51, rfl, rfl, H⟩
               obtain ⟨hc178, H⟩ := H
               obtain ⟨hc179, H⟩ := H
               obtain ⟨hc180, H⟩ := H
               obtain ⟨hc181, H⟩ := H
               obtain ⟨hc182, H⟩ := H
               obtain ⟨hc183, H⟩ := H
               obtain ⟨hc184, H⟩ := H
               obtain ⟨hc185, H⟩ := H
               obtain ⟨hc186, H⟩ := H
               apply Stg.next [(120, _)] rfl rfl
               refine Stg.go [0, 1, 2, 3, 4, 5, 6, 10, 11, 12, 13, 17, 18, 19, 20] [9] rfl rfl (QAll.cons (QOp.q rfl rfl (Quiet1.load hT rfl rfl rfl hc178) rfl rfl) (QAll.cons (QOp.q rfl rfl (Quiet1.load hT rfl rfl rfl hc179) rfl rfl) (QAll.cons (QOp.q rfl rfl (Quiet1.load hT rfl rfl rfl hc180) rfl rfl) (QAll.cons (QOp.q rfl rfl (Quiet1.load hT rfl rfl rfl hc181) rfl rfl) (QAll.cons (QOp.q rfl rfl (Quiet1.nilChk rfl rfl hc23) rfl rfl) (QAll.cons (QOp.p hT rfl rfl rfl rfl rfl) (QAll.cons (QOp.q rfl rfl (Quiet1.load hT rfl rfl rfl hc182) rfl rfl) (QAll.cons (QOp.q rfl rfl (Quiet1.load hT rfl rfl rfl hc183) rfl rfl) (QAll.cons (QOp.q rfl rfl (Quiet1.nilChk rfl rfl hc26) rfl rfl) (QAll.cons (QOp.p hT rfl rfl rfl rfl rfl) (QAll.cons (QOp.q rfl rfl (Quiet1.load hT rfl rfl rfl hc184) rfl rfl) (QAll.cons (QOp.q rfl rfl (Quiet1.load hT rfl rfl rfl hc185) rfl rfl) (QAll.cons (QOp.q rfl rfl (Quiet1.nilChk rfl rfl hc29) rfl rfl) (QAll.cons (QOp.p hT rfl rfl rfl rfl rfl) (QAll.cons (QOp.q rfl rfl (Quiet1.load hT rfl rfl rfl hc186) rfl rfl) QAll.nil))))))))))))))) ?_
               refine EAll.cons ?_ EAll.nil
               refine EOp.e rfl rfl rfl (EffX.appendS (s := _) (u := _) hT rfl rfl rfl rfl rfl rfl rfl rfl rfl rfl (by decide) H) ?_
               rintro _ _ ⟨v_46, h0u52, rfl, rfl, H⟩
               obtain ⟨hc187, H⟩ := H
               obtain ⟨hc188, H⟩ := H
               obtain ⟨hc189, H⟩ := H
               obtain ⟨hc190, H⟩ := H
               obtain ⟨hc191, H⟩ := H
               obtain ⟨hc192, H⟩ := H
               obtain ⟨hc193, H⟩ := H
               apply Stg.next [(107, _)] rfl rfl
               refine Stg.go [0, 1, 2, 10, 11, 12, 13, 17, 18, 19, 20] [16] rfl rfl (QAll.cons (QOp.q rfl rfl (Quiet1.load hT rfl rfl rfl hc187) rfl rfl) (QAll.cons (QOp.q rfl rfl (Quiet1.load hT rfl rfl rfl hc188) rfl rfl) (QAll.cons (QOp.q rfl rfl (Quiet1.load hT rfl rfl rfl hc189) rfl rfl) (QAll.cons (QOp.q rfl rfl (Quiet1.load hT rfl rfl rfl hc190) rfl rfl) (QAll.cons (QOp.q rfl rfl (Quiet1.nilChk rfl rfl hc26) rfl rfl) (QAll.cons (QOp.p hT rfl rfl rfl rfl rfl) (QAll.cons (QOp.q rfl rfl (Quiet1.load hT rfl rfl rfl hc191) rfl rfl) (QAll.cons (QOp.q rfl rfl (Quiet1.load hT rfl rfl rfl hc192) rfl rfl) (QAll.cons (QOp.q rfl rfl (Quiet1.nilChk rfl rfl hc29) rfl rfl) (QAll.cons (QOp.p hT rfl rfl rfl rfl rfl) (QAll.cons (QOp.q rfl rfl (Quiet1.load hT rfl rfl rfl hc193) rfl rfl) QAll.nil))))))))))) ?_
               refine EAll.cons ?_ EAll.nil
               refine EOp.e rfl rfl rfl (EffX.appendS (s := _) (u := _) hT rfl rfl rfl rfl rfl rfl rfl rfl rfl rfl (by decide) H) ?_
               rintro _ _ ⟨v_47, h0u53, rfl, rfl, H⟩
               obtain ⟨hc194, H⟩ := H
               obtain ⟨hc195, H⟩ := H
               obtain ⟨hc196, H⟩ := H
               obtain ⟨hc197, H⟩ := H
               obtain ⟨hc198, H⟩ := H
               apply Stg.next [(114, _)] rfl rfl
               refine Stg.go [0, 1, 2, 17, 18, 19, 20] [23] rfl rfl (QAll.cons (QOp.q rfl rfl (Quiet1.load hT rfl rfl rfl hc194) rfl rfl) (QAll.cons (QOp.q rfl rfl (Quiet1.load hT rfl rfl rfl hc195) rfl rfl) (QAll.cons (QOp.q rfl rfl (Quiet1.load hT rfl rfl rfl hc196) rfl rfl) (QAll.cons (QOp.q rfl rfl (Quiet1.load hT rfl rfl rfl hc197) rfl rfl) (QAll.cons (QOp.q rfl rfl (Quiet1.nilChk rfl rfl hc29) rfl rfl) (QAll.cons (QOp.p hT rfl rfl rfl rfl rfl) (QAll.cons (QOp.q rfl rfl (Quiet1.load hT rfl rfl rfl hc198) rfl rfl) QAll.nil))))))) ?_
               refine EAll.cons ?_ EAll.nil
               refine EOp.e rfl rfl rfl (EffX.appendS (s := _) (u := _) hT rfl rfl rfl rfl rfl rfl rfl rfl rfl rfl (by decide) H) ?_
               rintro _ _ ⟨v_48, h0u54, rfl, rfl, H⟩
               obtain ⟨hc199, H⟩ := H
               obtain ⟨hc200, H⟩ := H
               obtain ⟨hc201, H⟩ := H
               obtain ⟨a_32, hc202, H⟩ := H
               apply Stg.next [(121, _), (122, _), (123, _)] rfl rfl
               refine Stg.go [0, 1, 2, 24, 25] [26] rfl rfl (QAll.cons (QOp.q rfl rfl (Quiet1.load hT rfl rfl rfl hc199) rfl rfl) (QAll.cons (QOp.q rfl rfl (Quiet1.load hT rfl rfl rfl hc200) rfl rfl) (QAll.cons (QOp.q rfl rfl (Quiet1.load hT rfl rfl rfl hc201) rfl rfl) (QAll.cons (QOp.q rfl rfl (Quiet1.nilChk rfl rfl hc202) rfl rfl) (QAll.cons (QOp.p hT rfl rfl rfl rfl rfl) QAll.nil))))) ?_
               refine EAll.cons ?_ EAll.nil
               refine EOp.e rfl rfl rfl (EffX.store hT rfl rfl rfl rfl rfl H) ?_
               rintro _ _ ⟨h0u55, rfl, H⟩
               obtain ⟨hc203, H⟩ := H
               obtain ⟨hc204, H⟩ := H
               obtain ⟨a_33, hc205, H⟩ := H
               apply Stg.next [(124, _), (125, _)] rfl rfl
               refine Stg.go [1, 2, 27, 28] [29] rfl rfl (QAll.cons (QOp.q rfl rfl (Quiet1.load hT rfl rfl rfl hc203) rfl rfl) (QAll.cons (QOp.q rfl rfl (Quiet1.load hT rfl rfl rfl hc204) rfl rfl) (QAll.cons (QOp.q rfl rfl (Quiet1.nilChk rfl rfl hc205) rfl rfl) (QAll.cons (QOp.p hT rfl rfl rfl rfl rfl) QAll.nil)))) ?_
               refine EAll.cons ?_ EAll.nil
               refine EOp.e rfl rfl rfl (EffX.store hT rfl rfl rfl rfl rfl H) ?_
               rintro _ _ ⟨h0u56, rfl, H⟩
               obtain ⟨hc206, H⟩ := H
               obtain ⟨a_34, hc207, H⟩ := H
               apply Stg.next [(126, _), (127, _)] rfl rfl
               refine Stg.go [2, 30, 31] [32] rfl rfl (QAll.cons (QOp.q rfl rfl (Quiet1.load hT rfl rfl rfl hc206) rfl rfl) (QAll.cons (QOp.q rfl rfl (Quiet1.nilChk rfl rfl hc207) rfl rfl) (QAll.cons (QOp.p hT rfl rfl rfl rfl rfl) QAll.nil))) ?_
               refine EAll.cons ?_ EAll.nil
               refine EOp.e rfl rfl rfl (EffX.store hT rfl rfl rfl rfl rfl H) ?_
               rintro _ _ ⟨h0u57, rfl, H⟩
               apply Stg.next [] rfl rfl
               refine Stg.fin [] rfl rfl QAll.nil ?_
               exact AtE.then_n ((HK19 _ () _ H).pickP (ts := [2]) (is := []) rfl rfl (by decide) rfl)
              refine EAll.cons ?_ EAll.nil
              replace H := H.2.2
              refine EOp.e rfl rfl rfl (EffX.buildS2 (cs := [_]) hT rfl rfl rfl rfl rfl rfl rfl rfl H) ?_
              rintro _ _ ⟨a_35, h0u58, rfl, rfl, H⟩
              obtain ⟨hc208, H⟩ := H
              obtain ⟨hc209, H⟩ := H
              obtain ⟨hc210, H⟩ := H
              obtain ⟨hc211, H⟩ := H
              obtain ⟨hc212, H⟩ := H
              obtain ⟨hc213, H⟩ := H
              obtain ⟨hc214, H⟩ := H
              obtain ⟨hc215, H⟩ := H
              obtain ⟨hc216, H⟩ := H
              apply Stg.next [(120, _)] rfl rfl
              refine Stg.go [0, 1, 2, 3, 4, 5, 6, 10, 11, 12, 13, 14, 17, 18, 19, 20] [9, 15] rfl rfl (QAll.cons (QOp.q rfl rfl (Quiet1.load hT rfl rfl rfl hc208) rfl rfl) (QAll.cons (QOp.q rfl rfl (Quiet1.load hT rfl rfl rfl hc209) rfl rfl) (QAll.cons (QOp.q rfl rfl (Quiet1.load hT rfl rfl rfl hc210) rfl rfl) (QAll.cons (QOp.q rfl rfl (Quiet1.load hT rfl rfl rfl hc211) rfl rfl) (QAll.cons (QOp.q rfl rfl (Quiet1.nilChk rfl rfl hc23) rfl rfl) (QAll.cons (QOp.p hT rfl rfl rfl rfl rfl) (QAll.cons (QOp.q rfl rfl (Quiet1.load hT rfl rfl rfl hc212) rfl rfl) (QAll.cons (QOp.q rfl rfl (Quiet1.load hT rfl rfl rfl hc213) rfl rfl) (QAll.cons (QOp.q rfl rfl (Quiet1.nilChk rfl rfl hc26) rfl rfl) (QAll.cons (QOp.p hT rfl rfl rfl rfl rfl) (QAll.cons (QOp.q rfl rfl (Quiet1.load hT rfl rfl rfl hc214) rfl rfl) (QAll.cons (QOp.p hT rfl rfl rfl rfl rfl) (QAll.cons (QOp.q rfl rfl (Quiet1.load hT rfl rfl rfl hc215) rfl rfl) (QAll.cons (QOp.q rfl rfl (Quiet1.nilChk rfl rfl hc29) rfl rfl) (QAll.cons (QOp.p hT rfl rfl rfl rfl rfl) (QAll.cons (QOp.q rfl rfl (Quiet1.load hT rfl rfl rfl hc216) rfl rfl) QAll.nil)))))))))))))))) ?_
              refine EAll.cons ?_ ?_
              ·
               replace H := H.1
               refine EOp.e rfl rfl rfl (EffX.appendS (s := _) (u := _) hT rfl rfl rfl rfl rfl rfl rfl rfl rfl rfl (by decide) H) ?_
               rintro _ _ ⟨v_50, h0u59, rfl, rfl, H⟩
               obtain ⟨hc217, H⟩ := H
               obtain ⟨hc218, H⟩ := H
               obtain ⟨hc219, H⟩ := H
               obtain ⟨hc220, H⟩ := H
               obtain ⟨hc221, H⟩ := H
               obtain ⟨hc222, H⟩ := H
               obtain ⟨hc223, H⟩ := H
               apply Stg.next [(107, _)] rfl rfl
               refine Stg.go [0, 1, 2, 10, 11, 12, 13, 14, 17, 18, 19, 20] [15] rfl rfl (QAll.cons (QOp.q rfl rfl (Quiet1.load hT rfl rfl rfl hc217) rfl rfl) (QAll.cons (QOp.q rfl rfl (Quiet1.load hT rfl rfl rfl hc218) rfl rfl) (QAll.cons (QOp.q rfl rfl (Quiet1.load hT rfl rfl rfl hc219) rfl rfl) (QAll.cons (QOp.q rfl rfl (Quiet1.load hT rfl rfl rfl hc220) rfl rfl) (QAll.cons (QOp.q rfl rfl (Quiet1.nilChk rfl rfl hc26) rfl rfl) (QAll.cons (QOp.p hT rfl rfl rfl rfl rfl) (QAll.cons (QOp.q rfl rfl (Quiet1.load hT rfl rfl rfl hc221) rfl rfl) (QAll.cons (QOp.p hT rfl rfl rfl rfl rfl) (QAll.cons (QOp.q rfl rfl (Quiet1.load hT rfl rfl rfl hc222) rfl rfl) (QAll.cons (QOp.q rfl rfl (Quiet1.nilChk rfl rfl hc29) rfl rfl) (QAll.cons (QOp.p hT rfl rfl rfl rfl rfl) (QAll.cons (QOp.q rfl rfl (Quiet1.load hT rfl rfl rfl hc223) rfl rfl) QAll.nil)))))))))))) ?_
               refine EAll.cons ?_ EAll.nil
               refine EOp.e rfl rfl rfl (EffX.buildS2 (cs := [_]) hT rfl rfl rfl rfl rfl rfl rfl rfl H) ?_
               rintro _ _ ⟨a_36, h0u60, rfl, rfl, H⟩
               obtain ⟨hc224, H⟩ := H
               obtain ⟨hc225, H⟩ := H
               obtain ⟨hc226, H⟩ := H
               obtain ⟨hc227, H⟩ := H
               obtain ⟨hc228, H⟩ := H
               obtain ⟨hc229, H⟩ := H
               obtain ⟨hc230, H⟩ := H
               apply Stg.next [(113, _)] rfl rfl
               refine Stg.go [0, 1, 2, 10, 11, 12, 13, 17, 18, 19, 20] [16] rfl rfl (QAll.cons (QOp.q rfl rfl (Quiet1.load hT rfl rfl rfl hc224) rfl rfl) (QAll.cons (QOp.q rfl rfl (Quiet1.load hT rfl rfl rfl hc225) rfl rfl) (QAll.cons (QOp.q rfl rfl (Quiet1.load hT rfl rfl rfl hc226) rfl rfl) (QAll.cons (QOp.q rfl rfl (Quiet1.load hT rfl rfl rfl hc227) rfl rfl) (QAll.cons (QOp.q rfl rfl (Quiet1.nilChk rfl rfl hc26) rfl rfl) (QAll.cons (QOp.p hT rfl rfl rfl rfl rfl) (QAll.cons (QOp.q rfl rfl (Quiet1.load hT rfl rfl rfl hc228) rfl rfl) (QAll.cons (QOp.q rfl rfl (Quiet1.load hT rfl rfl rfl hc229) rfl rfl) (QAll.cons (QOp.q rfl rfl (Quiet1.nilChk rfl rfl hc29) rfl rfl) (QAll.cons (QOp.p hT rfl rfl rfl rfl rfl) (QAll.cons (QOp.q rfl rfl (Quiet1.load hT rfl rfl rfl hc230) rfl rfl) QAll.nil))))))))))) ?_
               refine EAll.cons ?_ EAll.nil
               refine EOp.e rfl rfl rfl (EffX.appendS (s := _) (u := _) hT rfl rfl rfl rfl rfl rfl rfl rfl rfl rfl (by decide) H) ?_
               rintro _ _ ⟨v_52, h0u61, rfl, rfl, H⟩
               obtain ⟨hc231, H⟩ := H
               obtain ⟨hc232, H⟩ := H
               obtain ⟨hc233, H⟩ := H
               obtain ⟨hc234, H⟩ := H
               obtain ⟨hc235, H⟩ := H
               apply Stg.next [(114, _)] rfl rfl
               refine Stg.go [0, 1, 2, 17, 18, 19, 20] [23] rfl rfl (QAll.cons (QOp.q rfl rfl (Quiet1.load hT rfl rfl rfl hc231) rfl rfl) (QAll.cons (QOp.q rfl rfl (Quiet1.load hT rfl rfl rfl hc232) rfl rfl) (QAll.cons (QOp.q rfl rfl (Quiet1.load hT rfl rfl rfl hc233) rfl rfl) (QAll.cons (QOp.q rfl rfl (Quiet1.load hT rfl rfl rfl hc234) rfl rfl) (QAll.cons (QOp.q rfl rfl (Quiet1.nilChk rfl rfl hc29) rfl rfl) (QAll.cons (QOp.p hT rfl rfl rfl rfl rfl) (QAll.cons (QOp.q rfl rfl (Quiet1.load hT rfl rfl rfl hc235) rfl rfl) QAll.nil))))))) ?_
               refine EAll.cons ?_ EAll.nil
               refine EOp.e rfl rfl rfl (EffX.appendS (s := _) (u := _) hT rfl rfl rfl rfl rfl rfl rfl rfl rfl rfl (by decide) H) ?_
               rintro _ _ ⟨v_53, h0u62, rfl, rfl, H⟩
               obtain ⟨hc236, H⟩ := H
               obtain ⟨hc237, H⟩ := H
               obtain ⟨hc238, H⟩ := H
               obtain ⟨a_37, hc239, H⟩ := H
               apply Stg.next [(121, _), (122, _), (123, _)] rfl rfl
               refine Stg.go [0, 1, 2, 24, 25] [26] rfl rfl (QAll.cons (QOp.q rfl rfl (Quiet1.load hT rfl rfl rfl hc236) rfl rfl) (QAll.cons (QOp.q rfl rfl (Quiet1.load hT rfl rfl rfl hc237) rfl rfl) (QAll.cons (QOp.q rfl rfl (Quiet1.load hT rfl rfl rfl hc238) rfl rfl) (QAll.cons (QOp.q rfl rfl (Quiet1.nilChk rfl rfl hc239) rfl rfl) (QAll.cons (QOp.p hT rfl rfl rfl rfl rfl) QAll.nil))))) ?_
               refine EAll.cons ?_ EAll.nil
               refine EOp.e rfl rfl rfl (EffX.store hT rfl rfl rfl rfl rfl H) ?_
               rintro _ _ ⟨h0u63, rfl, H⟩
               obtain ⟨hc240, H⟩ := H
               obtain ⟨hc241, H⟩ := H
               obtain ⟨a_38, hc242, H⟩ := H
               apply Stg.next [(124, _), (125, _)] rfl rfl
               refine Stg.go [1, 2, 27, 28] [29] rfl rfl (QAll.cons (QOp.q rfl rfl (Quiet1.load hT rfl rfl rfl hc240) rfl rfl) (QAll.cons (QOp.q rfl rfl (Quiet1.load hT rfl rfl rfl hc241) rfl rfl) (QAll.cons (QOp.q rfl rfl (Quiet1.nilChk rfl rfl hc242) rfl rfl) (QAll.cons (QOp.p hT rfl rfl rfl rfl rfl) QAll.nil)))) ?_
               refine EAll.cons ?_ EAll.nil
               refine EOp.e rfl rfl rfl (EffX.store hT rfl rfl rfl rfl rfl H) ?_
               rintro _ _ ⟨h0u64, rfl, H⟩
               obtain ⟨hc243, H⟩ := H
               obtain ⟨a_39, hc244, H⟩ := H
               apply Stg.next [(126, _), (127, _)] rfl rfl
               refine Stg.go [2, 30, 31] [32] rfl rfl (QAll.cons (QOp.q rfl rfl (Quiet1.load hT rfl rfl rfl hc243) rfl rfl) (QAll.cons (QOp.q rfl rfl (Quiet1.nilChk rfl rfl hc244) rfl rfl) (QAll.cons (QOp.p hT rfl rfl rfl rfl rfl) QAll.nil))) ?_
               refine EAll.cons ?_ EAll.nil
               refine EOp.e rfl rfl rfl (EffX.store hT rfl rfl rfl rfl rfl H) ?_
               rintro _ _ ⟨h0u65, rfl, H⟩
               apply Stg.next [] rfl rfl
               refine Stg.fin [] rfl rfl QAll.nil ?_
               exact AtE.then_n ((HK19 _ () _ H).pickP (ts := [2]) (is := []) rfl rfl (by decide) rfl)
              refine EAll.cons ?_ EAll.nil
              replace H := H.2
              refine EOp.e rfl rfl rfl (EffX.buildS2 (cs := [_]) hT rfl rfl rfl rfl rfl rfl rfl rfl H) ?_
              rintro _ _ ⟨a_40, h0u66, rfl, rfl, H⟩
              obtain ⟨hc245, H⟩ := H
              obtain ⟨hc246, H⟩ := H
              obtain ⟨hc247, H⟩ := H
              obtain ⟨hc248, H⟩ := H
              obtain ⟨hc249, H⟩ := H
              obtain ⟨hc250, H⟩ := H
              obtain ⟨hc251, H⟩ := H
              obtain ⟨hc252, H⟩ := H
              obtain ⟨hc253, H⟩ := H
              apply Stg.next [(113, _)] rfl rfl
              refine Stg.go [0, 1, 2, 3, 4, 5, 6, 10, 11, 12, 13, 17, 18, 19, 20] [9] rfl rfl (QAll.cons (QOp.q rfl rfl (Quiet1.load hT rfl rfl rfl hc245) rfl rfl) (QAll.cons (QOp.q rfl rfl (Quiet1.load hT rfl rfl rfl hc246) rfl rfl) (QAll.cons (QOp.q rfl rfl (Quiet1.load hT rfl rfl rfl hc247) rfl rfl) (QAll.cons (QOp.q rfl rfl (Quiet1.load hT rfl rfl rfl hc248) rfl rfl) (QAll.cons (QOp.q rfl rfl (Quiet1.nilChk rfl rfl hc23) rfl rfl) (QAll.cons (QOp.p hT rfl rfl rfl rfl rfl) (QAll.cons (QOp.q rfl rfl (Quiet1.load hT rfl rfl rfl hc249) rfl rfl) (QAll.cons (QOp.q rfl rfl (Quiet1.load hT rfl rfl rfl hc250) rfl rfl) (QAll.cons (QOp.q rfl rfl (Quiet1.nilChk rfl rfl hc26) rfl rfl) (QAll.cons (QOp.p hT rfl rfl rfl rfl rfl) (QAll.cons (QOp.q rfl rfl (Quiet1.load hT rfl rfl rfl hc251) rfl rfl) (QAll.cons (QOp.q rfl rfl (Quiet1.load hT rfl rfl rfl hc252) rfl rfl) (QAll.cons (QOp.q rfl rfl (Quiet1.nilChk rfl rfl hc29) rfl rfl) (QAll.cons (QOp.p hT rfl rfl rfl rfl rfl) (QAll.cons (QOp.q rfl rfl (Quiet1.load hT rfl rfl rfl hc253) rfl rfl) QAll.nil))))))))))))))) ?_
              refine EAll.cons ?_ EAll.nil
              refine EOp.e rfl rfl rfl (EffX.appendS (s := _) (u := _) hT rfl rfl rfl rfl rfl rfl rfl rfl rfl rfl (by decide) H) ?_
              rintro _ _ ⟨v_55, h0u67, rfl, rfl, H⟩
              obtain ⟨hc254, H⟩ := H
              obtain ⟨hc255, H⟩ := H
              obtain ⟨hc256, H⟩ := H
              obtain ⟨hc257, H⟩ := H
              obtain ⟨hc258, H⟩ := H
              obtain ⟨hc259, H⟩ := H
              obtain ⟨hc260, H⟩ := H
              apply Stg.next [(107, _)] rfl rfl
              refine Stg.go [0, 1, 2, 10, 11, 12, 13, 17, 18, 19, 20] [16] rfl rfl (QAll.cons (QOp.q rfl rfl (Quiet1.load hT rfl rfl rfl hc254) rfl rfl) (QAll.cons (QOp.q rfl rfl (Quiet1.load hT rfl rfl rfl hc255) rfl rfl) (QAll.cons (QOp.q rfl rfl (Quiet1.load hT rfl rfl rfl hc256) rfl rfl) (QAll.cons (QOp.q rfl rfl (Quiet1.load hT rfl rfl rfl hc257) rfl rfl) (QAll.cons (QOp.q rfl rfl (Quiet1.nilChk rfl rfl hc26) rfl rfl) (QAll.cons (QOp.p hT rfl rfl rfl rfl rfl) (QAll.cons (QOp.q rfl rfl (Quiet1.load hT rfl rfl rfl hc258) rfl rfl) (QAll.cons (QOp.q rfl rfl (Quiet1.load hT rfl rfl rfl hc259) rfl rfl) (QAll.cons (QOp.q rfl rfl (Quiet1.nilChk rfl rfl hc29) rfl rfl) (QAll.cons (QOp.p hT rfl rfl rfl rfl rfl) (QAll.cons (QOp.q rfl rfl (Quiet1.load hT rfl rfl rfl hc260) rfl rfl) QAll.nil))))))))))) ?_
              refine EAll.cons ?_ EAll.nil
              refine EOp.e rfl rfl rfl (EffX.appendS (s := _) (u := _) hT rfl rfl rfl rfl rfl rfl rfl rfl rfl rfl (by decide) H) ?_
              rintro _ _ ⟨v_56, h0u68, rfl, rfl, H⟩
              obtain ⟨hc261, H⟩ := H
              obtain ⟨hc262, H⟩ := H
              obtain ⟨hc263, H⟩ := H
              obtain ⟨hc264, H⟩ := H
              obtain ⟨hc265, H⟩ := H
              apply Stg.next [(114, _)] rfl rfl
              refine Stg.go [0, 1, 2, 17, 18, 19, 20] [23] rfl rfl (QAll.cons (QOp.q rfl rfl (Quiet1.load hT rfl rfl rfl hc261) rfl rfl) (QAll.cons (QOp.q rfl rfl (Quiet1.load hT rfl rfl rfl hc262) rfl rfl) (QAll.cons (QOp.q rfl rfl (Quiet1.load hT rfl rfl rfl hc263) rfl rfl) (QAll.cons (QOp.q rfl rfl (Quiet1.load hT rfl rfl rfl hc264) rfl rfl) (QAll.cons (QOp.q rfl rfl (Quiet1.nilChk rfl rfl hc29) rfl rfl) (QAll.cons (QOp.p hT rfl rfl rfl rfl rfl) (QAll.cons (QOp.q rfl rfl (Quiet1.load hT rfl rfl rfl hc265) rfl rfl) QAll.nil))))))) ?_
              refine EAll.cons ?_ EAll.nil
              refine EOp.e rfl rfl rfl (EffX.appendS (s := _) (u := _) hT rfl rfl rfl rfl rfl rfl rfl rfl rfl rfl (by decide) H) ?_
              rintro _ _ ⟨v_57, h0u69, rfl, rfl, H⟩
              obtain ⟨hc266, H⟩ := H
              obtain ⟨hc267, H⟩ := H
              obtain ⟨hc268, H⟩ := H
              obtain ⟨a_41, hc269, H⟩ := H
              apply Stg.next [(121, _), (122, _), (123, _)] rfl rfl
              refine Stg.go [0, 1, 2, 24, 25] [26] rfl rfl (QAll.cons (QOp.q rfl rfl (Quiet1.load hT rfl rfl rfl hc266) rfl rfl) (QAll.cons (QOp.q rfl rfl (Quiet1.load hT rfl rfl rfl hc267) rfl rfl) (QAll.cons (QOp.q rfl rfl (Quiet1.load hT rfl rfl rfl hc268) rfl rfl) (QAll.cons (QOp.q rfl rfl (Quiet1.nilChk rfl rfl hc269) rfl rfl) (QAll.cons (QOp.p hT rfl rfl rfl rfl rfl) QAll.nil))))) ?_
              refine EAll.cons ?_ EAll.nil
              refine EOp.e rfl rfl rfl (EffX.store hT rfl rfl rfl rfl rfl H) ?_
              rintro _ _ ⟨h0u70, rfl, H⟩
              obtain ⟨hc270, H⟩ := H
              obtain ⟨hc271, H⟩ := H
              obtain ⟨a_42, hc272, H⟩ := H
              apply Stg.next [(124, _), (125, _)] rfl rfl
              refine Stg.go [1, 2, 27, 28] [29] rfl rfl (QAll.cons (QOp.q rfl rfl (Quiet1.load hT rfl rfl rfl hc270) rfl rfl) (QAll.cons (QOp.q rfl rfl (Quiet1.load hT rfl rfl rfl hc271) rfl rfl) (QAll.cons (QOp.q rfl rfl (Quiet1.nilChk rfl rfl hc272) rfl rfl) (QAll.cons (QOp.p hT rfl rfl rfl rfl rfl) QAll.nil)))) ?_
              refine EAll.cons ?_ EAll.nil
              refine EOp.e rfl rfl rfl (EffX.store hT rfl rfl rfl rfl rfl H) ?_
              rintro _ _ ⟨h0u71, rfl, H⟩
              obtain ⟨hc273, H⟩ := H
              obtain ⟨a_43, hc274, H⟩ := H
              apply Stg.next [(126, _), (127, _)] rfl rfl
              refine Stg.go [2, 30, 31] [32] rfl rfl (QAll.cons (QOp.q rfl rfl (Quiet1.load hT rfl rfl rfl hc273) rfl rfl) (QAll.cons (QOp.q rfl rfl (Quiet1.nilChk rfl rfl hc274) rfl rfl) (QAll.cons (QOp.p hT rfl rfl rfl rfl rfl) QAll.nil))) ?_
              refine EAll.cons ?_ EAll.nil
              refine EOp.e rfl rfl rfl (EffX.store hT rfl rfl rfl rfl rfl H) ?_
              rintro _ _ ⟨h0u72, rfl, H⟩
              apply Stg.next [] rfl rfl
              refine Stg.fin [] rfl rfl QAll.nil ?_
              exact AtE.then_n ((HK19 _ () _ H).pickP (ts := [2]) (is := []) rfl rfl (by decide) rfl)
             refine EAll.cons ?_ ?_
             ·
              replace H := H.2.1
              refine EOp.e rfl rfl rfl (EffX.buildS2 (cs := [_]) hT rfl rfl rfl rfl rfl rfl rfl rfl H) ?_
              rintro _ _ ⟨a_44, h0u73, rfl, rfl, H⟩
              obtain ⟨hc275, H⟩ := H
              obtain ⟨hc276, H⟩ := H
              obtain ⟨hc277, H⟩ := H
              obtain ⟨hc278, H⟩ := H
              obtain ⟨hc279, H⟩ := H
              obtain ⟨hc280, H⟩ := H
              obtain ⟨hc281, H⟩ := H
              obtain ⟨hc282, H⟩ := H
              obtain ⟨hc283, H⟩ := H
              apply Stg.next [(113, _)] rfl rfl
              refine Stg.go [0, 1, 2, 3, 4, 5, 6, 7, 10, 11, 12, 13, 17, 18, 19, 20, 21] [8, 22] rfl rfl (QAll.cons (QOp.q rfl rfl (Quiet1.load hT rfl rfl rfl hc275) rfl rfl) (QAll.cons (QOp.q rfl rfl (Quiet1.load hT rfl rfl rfl hc276) rfl rfl) (QAll.cons (QOp.q rfl rfl (Quiet1.load hT rfl rfl rfl hc277) rfl rfl) (QAll.cons (QOp.q rfl rfl (Quiet1.load hT rfl rfl rfl hc278) rfl rfl) (QAll.cons (QOp.q rfl rfl (Quiet1.nilChk rfl rfl hc23) rfl rfl) (QAll.cons (QOp.p hT rfl rfl rfl rfl rfl) (QAll.cons (QOp.q rfl rfl (Quiet1.load hT rfl rfl rfl hc279) rfl rfl) (QAll.cons (QOp.q rfl rfl (Quiet1.loadSP (i := 0) (l := [_, _, _, _, _, _]) hT rfl rfl rfl rfl rfl rfl rfl rfl) rfl rfl) (QAll.cons (QOp.q rfl rfl (Quiet1.load hT rfl rfl rfl hc280) rfl rfl) (QAll.cons (QOp.q rfl rfl (Quiet1.nilChk rfl rfl hc26) rfl rfl) (QAll.cons (QOp.p hT rfl rfl rfl rfl rfl) (QAll.cons (QOp.q rfl rfl (Quiet1.load hT rfl rfl rfl hc281) rfl rfl) (QAll.cons (QOp.q rfl rfl (Quiet1.load hT rfl rfl rfl hc282) rfl rfl) (QAll.cons (QOp.q rfl rfl (Quiet1.nilChk rfl rfl hc29) rfl rfl) (QAll.cons (QOp.p hT rfl rfl rfl rfl rfl) (QAll.cons (QOp.q rfl rfl (Quiet1.load hT rfl rfl rfl hc283) rfl rfl) (QAll.cons (QOp.p hT rfl rfl rfl rfl rfl) QAll.nil))))))))))))))))) ?_
              refine EAll.cons ?_ ?_
              ·
               replace H := H.1
               refine EOp.e rfl rfl rfl (EffX.buildS2 (cs := [_, _, _, _, _, _]) hT rfl rfl rfl rfl rfl rfl rfl rfl H) ?_
               rintro _ _ ⟨a_45, h0u74, rfl, rfl, H⟩
               obtain ⟨hc284, H⟩ := H
               obtain ⟨hc285, H⟩ := H
               obtain ⟨hc286, H⟩ := H
               obtain ⟨hc287, H⟩ := H
               obtain ⟨hc288, H⟩ := H
               obtain ⟨hc289, H⟩ := H
               obtain ⟨hc290, H⟩ := H
               obtain ⟨hc291, H⟩ := H
               obtain ⟨hc292, H⟩ := H
               apply Stg.next [(106, _)] rfl rfl
               refine Stg.go [0, 1, 2, 3, 4, 5, 6, 10, 11, 12, 13, 17, 18, 19, 20, 21] [9, 22] rfl rfl (QAll.cons (QOp.q rfl rfl (Quiet1.load hT rfl rfl rfl hc284) rfl rfl) (QAll.cons (QOp.q rfl rfl (Quiet1.load hT rfl rfl rfl hc285) rfl rfl) (QAll.cons (QOp.q rfl rfl (Quiet1.load hT rfl rfl rfl hc286) rfl rfl) (QAll.cons (QOp.q rfl rfl (Quiet1.load hT rfl rfl rfl hc287) rfl rfl) (QAll.cons (QOp.q rfl rfl (Quiet1.nilChk rfl rfl hc23) rfl rfl) (QAll.cons (QOp.p hT rfl rfl rfl rfl rfl) (QAll.cons (QOp.q rfl rfl (Quiet1.load hT rfl rfl rfl hc288) rfl rfl) (QAll.cons (QOp.q rfl rfl (Quiet1.load hT rfl rfl rfl hc289) rfl rfl) (QAll.cons (QOp.q rfl rfl (Quiet1.nilChk rfl rfl hc26) rfl rfl) (QAll.cons (QOp.p hT rfl rfl rfl rfl rfl) (QAll.cons (QOp.q rfl rfl (Quiet1.load hT rfl rfl rfl hc290) rfl rfl) (QAll.cons (QOp.q rfl rfl (Quiet1.load hT rfl rfl rfl hc291) rfl rfl) (QAll.cons (QOp.q rfl rfl (Quiet1.nilChk rfl rfl hc29) rfl rfl) (QAll.cons (QOp.p hT rfl rfl rfl rfl rfl) (QAll.cons (QOp.q rfl rfl (Quiet1.load hT rfl rfl rfl hc292) rfl rfl) (QAll.cons (QOp.p hT rfl rfl rfl rfl rfl) QAll.nil)))))))))))))))) ?_
               refine EAll.cons ?_ ?_
               ·
                replace H := H.1
                refine EOp.e rfl rfl rfl (EffX.appendS (s := _) (u := _) hT rfl rfl rfl rfl rfl rfl rfl rfl rfl rfl (by decide) H) ?_
                rintro _ _ ⟨v_60, h0u75, rfl, rfl, H⟩
                obtain ⟨hc293, H⟩ := H
                obtain ⟨hc294, H⟩ := H
                obtain ⟨hc295, H⟩ := H
                obtain ⟨hc296, H⟩ := H
                obtain ⟨hc297, H⟩ := H
                obtain ⟨hc298, H⟩ := H
                obtain ⟨hc299, H⟩ := H
                apply Stg.next [(107, _)] rfl rfl
                refine Stg.go [0, 1, 2, 10, 11, 12, 13, 17, 18, 19, 20, 21] [16, 22] rfl rfl (QAll.cons (QOp.q rfl rfl (Quiet1.load hT rfl rfl rfl hc293) rfl rfl) (QAll.cons (QOp.q rfl rfl (Quiet1.load hT rfl rfl rfl hc294) rfl rfl) (QAll.cons (QOp.q rfl rfl (Quiet1.load hT rfl rfl rfl hc295) rfl rfl) (QAll.cons (QOp.q rfl rfl (Quiet1.load hT rfl rfl rfl hc296) rfl rfl) (QAll.cons (QOp.q rfl rfl (Quiet1.nilChk rfl rfl hc26) rfl rfl) (QAll.cons (QOp.p hT rfl rfl rfl rfl rfl) (QAll.cons (QOp.q rfl rfl (Quiet1.load hT rfl rfl rfl hc297) rfl rfl) (QAll.cons (QOp.q rfl rfl (Quiet1.load hT rfl rfl rfl hc298) rfl rfl) (QAll.cons (QOp.q rfl rfl (Quiet1.nilChk rfl rfl hc29) rfl rfl) (QAll.cons (QOp.p hT rfl rfl rfl rfl rfl) (QAll.cons (QOp.q rfl rfl (Quiet1.load hT rfl rfl rfl hc299) rfl rfl) (QAll.cons (QOp.p hT rfl rfl rfl rfl rfl) QAll.nil)))))))))))) ?_
                refine EAll.cons ?_ ?_
                ·
                 replace H := H.1
                 refine EOp.e rfl rfl rfl (EffX.appendS (s := _) (u := _) hT rfl rfl rfl rfl rfl rfl rfl rfl rfl rfl (by decide) H) ?_
                 rintro _ _ ⟨v_61, h0u76, rfl, rfl, H⟩
                 obtain ⟨hc300, H⟩ := H
                 obtain ⟨hc301, H⟩ := H
                 obtain ⟨hc302, H⟩ := H
                 obtain ⟨hc303, H⟩ := H
                 obtain ⟨hc304, H⟩ := H
                 apply Stg.next [(114, _)] rfl rfl
                 refine Stg.go [0, 1, 2, 17, 18, 19, 20, 21] [22] rfl rfl (QAll.cons (QOp.q rfl rfl (Quiet1.load hT rfl rfl rfl hc300) rfl rfl) (QAll.cons (QOp.q rfl rfl (Quiet1.load hT rfl rfl rfl hc301) rfl rfl) (QAll.cons (QOp.q rfl rfl (Quiet1.load hT rfl rfl rfl hc302) rfl rfl) (QAll.cons (QOp.q rfl rfl (Quiet1.load hT rfl rfl rfl hc303) rfl rfl) (QAll.cons (QOp.q rfl rfl (Quiet1.nilChk rfl rfl hc29) rfl rfl) (QAll.cons (QOp.p hT rfl rfl rfl rfl rfl) (QAll.cons (QOp.q rfl rfl (Quiet1.load hT rfl rfl rfl hc304) rfl rfl) (QAll.cons (QOp.p hT rfl rfl rfl rfl rfl) QAll.nil)))))))) ?_
                 refine EAll.cons ?_ EAll.nil
                 refine EOp.e rfl rfl rfl (EffX.buildS2 (cs := [_]) hT rfl rfl rfl rfl rfl rfl rfl rfl H) ?_
                 rintro _ _ ⟨a_46, h0u77, rfl, rfl, H⟩
                 obtain ⟨hc305, H⟩ := H
                 obtain ⟨hc306, H⟩ := H
                 obtain ⟨hc307, H⟩ := H
                 obtain ⟨hc308, H⟩ := H
                 obtain ⟨hc309, H⟩ := H
                 apply Stg.next [(120, _)] rfl rfl
                 refine Stg.go [0, 1, 2, 17, 18, 19, 20] [23] rfl rfl (QAll.cons (QOp.q rfl rfl (Quiet1.load hT rfl rfl rfl hc305) rfl rfl) (QAll.cons (QOp.q rfl rfl (Quiet1.load hT rfl rfl rfl hc306) rfl rfl) (QAll.cons (QOp.q rfl rfl (Quiet1.load hT rfl rfl rfl hc307) rfl rfl) (QAll.cons (QOp.q rfl rfl (Quiet1.load hT rfl rfl rfl hc308) rfl rfl) (QAll.cons (QOp.q rfl rfl (Quiet1.nilChk rfl rfl hc29) rfl rfl) (QAll.cons (QOp.p hT rfl rfl rfl rfl rfl) (QAll.cons (QOp.q rfl rfl (Quiet1.load hT rfl rfl rfl hc309) rfl rfl) QAll.nil))))))) ?_
                 refine EAll.cons ?_ EAll.nil
                 refine EOp.e rfl rfl rfl (EffX.appendS (s := _) (u := _) hT rfl rfl rfl rfl rfl rfl rfl rfl rfl rfl (by decide) H) ?_
                 rintro _ _ ⟨v_63, h0u78, rfl, rfl, H⟩
                 obtain ⟨hc310, H⟩ := H
                 obtain ⟨hc311, H⟩ := H
                 obtain ⟨hc312, H⟩ := H
                 obtain ⟨a_47, hc313, H⟩ := H
                 apply Stg.next [(121, _), (122, _), (123, _)] rfl rfl
                 refine Stg.go [0, 1, 2, 24, 25] [26] rfl rfl (QAll.cons (QOp.q rfl rfl (Quiet1.load hT rfl rfl rfl hc310) rfl rfl) (QAll.cons (QOp.q rfl rfl (Quiet1.load hT rfl rfl rfl hc311) rfl rfl) (QAll.cons (QOp.q rfl rfl (Quiet1.load hT rfl rfl rfl hc312) rfl rfl) (QAll.cons (QOp.q rfl rfl (Quiet1.nilChk rfl rfl hc313) rfl rfl) (QAll.cons (QOp.p hT rfl rfl rfl rfl rfl) QAll.nil))))) ?_
                 refine EAll.cons ?_ EAll.nil
                 refine EOp.e rfl rfl rfl (EffX.store hT rfl rfl rfl rfl rfl H) ?_
                 rintro _ _ ⟨h0u79, rfl, H⟩
                 obtain ⟨hc314, H⟩ := H
                 obtain ⟨hc315, H⟩ := H
                 obtain ⟨a_48, hc316, H⟩ := H
                 apply Stg.next [(124, _), (125, _)] rfl rfl
                 refine Stg.go [1, 2, 27, 28] [29] rfl rfl (QAll.cons (QOp.q rfl rfl (Quiet1.load hT rfl rfl rfl hc314) rfl rfl) (QAll.cons (QOp.q rfl rfl (Quiet1.load hT rfl rfl rfl hc315) rfl rfl) (QAll.cons (QOp.q rfl rfl (Quiet1.nilChk rfl rfl hc316) rfl rfl) (QAll.cons (QOp.p hT rfl rfl rfl rfl rfl) QAll.nil)))) ?_
                 refine EAll.cons ?_ EAll.nil
                 refine EOp.e rfl rfl rfl (EffX.store hT rfl rfl rfl rfl rfl H) ?_
                 rintro _ _ ⟨h0u80, rfl, H⟩
                 obtain ⟨hc317, H⟩ := H
                 obtain ⟨a_49, hc318, H⟩ := H
                 apply Stg.next [(126, _), (127, _)] rfl rfl
                 refine Stg.go [2, 30, 31] [32] rfl rfl (QAll.cons (QOp.q rfl rfl (Quiet1.load hT rfl rfl rfl hc317) rfl rfl) (QAll.cons (QOp.q rfl rfl (Quiet1.nilChk rfl rfl hc318) rfl rfl) (QAll.cons (QOp.p hT rfl rfl rfl rfl rfl) QAll.nil))) ?_
                 refine EAll.cons ?_ EAll.nil
                 refine EOp.e rfl rfl rfl (EffX.store hT rfl rfl rfl rfl rfl H) ?_
                 rintro _ _ ⟨h0u81, rfl, H⟩
                 apply Stg.next [] rfl rfl
                 refine Stg.fin [] rfl rfl QAll.nil ?_
                 exact AtE.then_n ((HK19 _ () _ H).pickP (ts := [2]) (is := []) rfl rfl (by decide) rfl)
                refine EAll.cons ?_ EAll.nil
                replace H := H.2
                refine EOp.e rfl rfl rfl (EffX.buildS2 (cs := [_]) hT rfl rfl rfl rfl rfl rfl rfl rfl H) ?_
                rintro _ _ ⟨a_50, h0u82, rfl, rfl, H⟩
                obtain ⟨hc319, H⟩ := H
                obtain ⟨hc320, H⟩ := H
                obtain ⟨hc321, H⟩ := H
                obtain ⟨hc322, H⟩ := H
                obtain ⟨hc323, H⟩ := H
                obtain ⟨hc324, H⟩ := H
                obtain ⟨hc325, H⟩ := H
                apply Stg.next [(120, _)] rfl rfl
                refine Stg.go [0, 1, 2, 10, 11, 12, 13, 17, 18, 19, 20] [16] rfl rfl (QAll.cons (QOp.q rfl rfl (Quiet1.load hT rfl rfl rfl hc319) rfl rfl) (QAll.cons (QOp.q rfl rfl (Quiet1.load hT rfl rfl rfl hc320) rfl rfl) (QAll.cons (QOp.q rfl rfl (Quiet1.load hT rfl rfl rfl hc321) rfl rfl) (QAll.cons (QOp.q rfl rfl (Quiet1.load hT rfl rfl rfl hc322) rfl rfl) (QAll.cons (QOp.q rfl rfl (Quiet1.nilChk rfl rfl hc26) rfl rfl) (QAll.cons (QOp.p hT rfl rfl rfl rfl rfl) (QAll.cons (QOp.q rfl rfl (Quiet1.load hT rfl rfl rfl hc323) rfl rfl) (QAll.cons (QOp.q rfl rfl (Quiet1.load hT rfl rfl rfl hc324) rfl rfl) (QAll.cons (QOp.q rfl rfl (Quiet1.nilChk rfl rfl hc29) rfl rfl) (QAll.cons (QOp.p hT rfl rfl rfl rfl rfl) (QAll.cons (QOp.q rfl rfl (Quiet1.load hT rfl rfl rfl hc325) rfl rfl) QAll.nil))))))))))) ?_
                refine EAll.cons ?_ EAll.nil
                refine EOp.e rfl rfl rfl (EffX.appendS (s := _) (u := _) hT rfl rfl rfl rfl rfl rfl rfl rfl rfl rfl (by decide) H) ?_
                rintro _ _ ⟨v_65, h0u83, rfl, rfl, H⟩
                obtain ⟨hc326, H⟩ := H
                obtain ⟨hc327, H⟩ := H
                obtain ⟨hc328, H⟩ := H
                obtain ⟨hc329, H⟩ := H
                obtain ⟨hc330, H⟩ := H
                apply Stg.next [(114, _)] rfl rfl
                refine Stg.go [0, 1, 2, 17, 18, 19, 20] [23] rfl rfl (QAll.cons (QOp.q rfl rfl (Quiet1.load hT rfl rfl rfl hc326) rfl rfl) (QAll.cons (QOp.q rfl rfl (Quiet1.load hT rfl rfl rfl hc327) rfl rfl) (QAll.cons (QOp.q rfl rfl (Quiet1.load hT rfl rfl rfl hc328) rfl rfl) (QAll.cons (QOp.q rfl rfl (Quiet1.load hT rfl rfl rfl hc329) rfl rfl) (QAll.cons (QOp.q rfl rfl (Quiet1.nilChk rfl rfl hc29) rfl rfl) (QAll.cons (QOp.p hT rfl rfl rfl rfl rfl) (QAll.cons (QOp.q rfl rfl (Quiet1.load hT rfl rfl rfl hc330) rfl rfl) QAll.nil))))))) ?_
                refine EAll.cons ?_ EAll.nil
                refine EOp.e rfl rfl rfl (EffX.appendS (s := _) (u := _) hT rfl rfl rfl rfl rfl rfl rfl rfl rfl rfl (by decide) H) ?_
                rintro _ _ ⟨v_66, h0u84, rfl, rfl, H⟩
                obtain ⟨hc331, H⟩ := H
                obtain ⟨hc332, H⟩ := H
                obtain ⟨hc333, H⟩ := H
                obtain ⟨a_51, hc334, H⟩ := H
                apply Stg.next [(121, _), (122, _), (123, _)] rfl rfl
                refine Stg.go [0, 1, 2, 24, 25] [26] rfl rfl (QAll.cons (QOp.q rfl rfl (Quiet1.load hT rfl rfl rfl hc331) rfl rfl) (QAll.cons (QOp.q rfl rfl (Quiet1.load hT rfl rfl rfl hc332) rfl rfl) (QAll.cons (QOp.q rfl rfl (Quiet1.load hT rfl rfl rfl hc333) rfl rfl) (QAll.cons (QOp.q rfl rfl (Quiet1.nilChk rfl rfl hc334) rfl rfl) (QAll.cons (QOp.p hT rfl rfl rfl rfl rfl) QAll.nil))))) ?_
                refine EAll.cons ?_ EAll.nil
                refine EOp.e rfl rfl rfl (EffX.store hT rfl rfl rfl rfl rfl H) ?_
                rintro _ _ ⟨h0u85, rfl, H⟩
                obtain ⟨hc335, H⟩ := H
                obtain ⟨hc336, H⟩ := H
                obtain ⟨a_52, hc337, H⟩ := H
                apply Stg.next [(124, _), (125, _)] rfl rfl
                refine Stg.go [1, 2, 27, 28] [29] rfl rfl (QAll.cons (QOp.q rfl rfl (Quiet1.load hT rfl rfl rfl hc335) rfl rfl) (QAll.cons (QOp.q rfl rfl (Quiet1.load hT rfl rfl rfl hc336) rfl rfl) (QAll.cons (QOp.q rfl rfl (Quiet1.nilChk rfl rfl hc337) rfl rfl) (QAll.cons (QOp.p hT rfl rfl rfl rfl rfl) QAll.nil)))) ?_
                refine EAll.cons ?_ EAll.nil
                refine EOp.e rfl rfl rfl (EffX.store hT rfl rfl rfl rfl rfl H) ?_
                rintro _ _ ⟨h0u86, rfl, H⟩
                obtain ⟨hc338, H⟩ := H
                obtain ⟨a_53, hc339, H⟩ := H
                apply Stg.next [(126, _), (127, _)] rfl rfl
                refine Stg.go [2, 30, 31] [32] rfl rfl (QAll.cons (QOp.q rfl rfl (Quiet1.load hT rfl rfl rfl hc338) rfl rfl) (QAll.cons (QOp.q rfl rfl (Quiet1.nilChk rfl rfl hc339) rfl rfl) (QAll.cons (QOp.p hT rfl rfl rfl rfl rfl) QAll.nil))) ?_
                refine EAll.cons ?_ EAll.nil
                refine EOp.e rfl rfl rfl (EffX.store hT rfl rfl rfl rfl rfl H) ?_
                rintro _ _ ⟨h0u87, rfl, H⟩
                apply Stg.next [] rfl rfl
                refine Stg.fin [] rfl rfl QAll.nil ?_
                exact AtE.then_n ((HK19 _ () _ H).pickP (ts := [2]) (is := []) rfl rfl (by decide) rfl)
               refine EAll.cons ?_ EAll.nil
               replace H := H.2
               refine EOp.e rfl rfl rfl (EffX.buildS2 (cs := [_]) hT rfl rfl rfl rfl rfl rfl rfl rfl H) ?_
               rintro _ _ ⟨a_54, h0u88, rfl, rfl, H⟩
               obtain ⟨hc340, H⟩ := H
               obtain ⟨hc341, H⟩ := H
               obtain ⟨hc342, H⟩ := H
               obtain ⟨hc343, H⟩ := H
               obtain ⟨hc344, H⟩ := H
               obtain ⟨hc345, H⟩ := H
               obtain ⟨hc346, H⟩ := H
               obtain ⟨hc347, H⟩ := H
               obtain ⟨hc348, H⟩ := H
               apply Stg.next [(120, _)] rfl rfl
               refine Stg.go [0, 1, 2, 3, 4, 5, 6, 10, 11, 12, 13, 17, 18, 19, 20] [9] rfl rfl (QAll.cons (QOp.q rfl rfl (Quiet1.load hT rfl rfl rfl hc340) rfl rfl) (QAll.cons (QOp.q rfl rfl (Quiet1.load hT rfl rfl rfl hc341) rfl rfl) (QAll.cons (QOp.q rfl rfl (Quiet1.load hT rfl rfl rfl hc342) rfl rfl) (QAll.cons (QOp.q rfl rfl (Quiet1.load hT rfl rfl rfl hc343) rfl rfl) (QAll.cons (QOp.q rfl rfl (Quiet1.nilChk rfl rfl hc23) rfl rfl) (QAll.cons (QOp.p hT rfl rfl rfl rfl rfl) (QAll.cons (QOp.q rfl rfl (Quiet1.load hT rfl rfl rfl hc344) rfl rfl) (QAll.cons (QOp.q rfl rfl (Quiet1.load hT rfl rfl rfl hc345) rfl rfl) (QAll.cons (QOp.q rfl rfl (Quiet1.nilChk rfl rfl hc26) rfl rfl) (QAll.cons (QOp.p hT rfl rfl rfl rfl rfl) (QAll.cons (QOp.q rfl rfl (Quiet1.load hT rfl rfl rfl hc346) rfl rfl) (QAll.cons (QOp.q rfl rfl (Quiet1.load hT rfl rfl rfl hc347) rfl rfl) (QAll.cons (QOp.q rfl rfl (Quiet1.nilChk rfl rfl hc29) rfl rfl) (QAll.cons (QOp.p hT rfl rfl rfl rfl rfl) (QAll.cons (QOp.q rfl rfl (Quiet1.load hT rfl rfl rfl hc348) rfl rfl) QAll.nil))))))))))))))) ?_
               refine EAll.cons ?_ EAll.nil
               refine EOp.e rfl rfl rfl (EffX.appendS (s := _) (u := _) hT rfl rfl rfl rfl rfl rfl rfl rfl rfl rfl (by decide) H) ?_
               rintro _ _ ⟨v_68, h0u89, rfl, rfl, H⟩
               obtain ⟨hc349, H⟩ := H
               obtain ⟨hc350, H⟩ := H
               obtain ⟨hc351, H⟩ := H
               obtain ⟨hc352, H⟩ := H
               obtain ⟨hc353, H⟩ := H
               obtain ⟨hc354, H⟩ := H
               obtain ⟨hc355, H⟩ := H
               apply Stg.next [(107, _)] rfl rfl
               refine Stg.go [0, 1, 2, 10, 11, 12, 13, 17, 18, 19, 20] [16] rfl rfl (QAll.cons (QOp.q rfl rfl (Quiet1.load hT rfl rfl rfl hc349) rfl rfl) (QAll.cons (QOp.q rfl rfl (Quiet1.load hT rfl rfl rfl hc350) rfl rfl) (QAll.cons (QOp.q rfl rfl (Quiet1.load hT rfl rfl rfl hc351) rfl rfl) (QAll.cons (QOp.q rfl rfl (Quiet1.load hT rfl rfl rfl hc352) rfl rfl) (QAll.cons (QOp.q rfl rfl (Quiet1.nilChk rfl rfl hc26) rfl rfl) (QAll.cons (QOp.p hT rfl rfl rfl rfl rfl) (QAll.cons (QOp.q rfl rfl (Quiet1.load hT rfl rfl rfl hc353) rfl rfl) (QAll.cons (QOp.q rfl rfl (Quiet1.load hT rfl rfl rfl hc354) rfl rfl) (QAll.cons (QOp.q rfl rfl (Quiet1.nilChk rfl rfl hc29) rfl rfl) (QAll.cons (QOp.p hT rfl rfl rfl rfl rfl) (QAll.cons (QOp.q rfl rfl (Quiet1.load hT rfl rfl rfl hc355) rfl rfl) QAll.nil))))))))))) ?_
               refine EAll.cons ?_ EAll.nil
               refine EOp.e rfl rfl rfl (EffX.appendS (s := _) (u := _) hT rfl rfl rfl rfl rfl rfl rfl rfl rfl rfl (by decide) H) ?_
               rintro _ _ ⟨v_69, h0u90, rfl, rfl, H⟩
               obtain ⟨hc356, H⟩ := H
               obtain ⟨hc357, H⟩ := H
               obtain ⟨hc358, H⟩ := H
               obtain ⟨hc359, H⟩ := H
               obtain ⟨hc360, H⟩ := H
               apply Stg.next [(114, _)] rfl rfl
               refine Stg.go [0, 1, 2, 17, 18, 19, 20] [23] rfl rfl (QAll.cons (QOp.q rfl rfl (Quiet1.load hT rfl rfl rfl hc356) rfl rfl) (QAll.cons (QOp.q rfl rfl (Quiet1.load hT rfl rfl rfl hc357) rfl rfl) (QAll.cons (QOp.q rfl rfl (Quiet1.load hT rfl rfl rfl hc358) rfl rfl) (QAll.cons (QOp.q rfl rfl (Quiet1.load hT rfl rfl rfl hc359) rfl rfl) (QAll.cons (QOp.q rfl rfl (Quiet1.nilChk rfl rfl hc29) rfl rfl) (QAll.cons (QOp.p hT rfl rfl rfl rfl rfl) (QAll.cons (QOp.q rfl rfl (Quiet1.load hT rfl rfl rfl hc360) rfl rfl) QAll.nil))))))) ?_
               refine EAll.cons ?_ EAll.nil
               refine EOp.e rfl rfl rfl (EffX.appendS (s := _) (u := _) hT rfl rfl rfl rfl rfl rfl rfl rfl rfl rfl (by decide) H) ?_
               rintro _ _ ⟨v_70, h0u91, rfl, rfl, H⟩
               obtain ⟨hc361, H⟩ := H
               obtain ⟨hc362, H⟩ := H
               obtain ⟨hc363, H⟩ := H
               obtain ⟨a_55, hc364, H⟩ := H
               apply Stg.next [(121, _), (122, _), (123, _)] rfl rfl
               refine Stg.go [0, 1, 2, 24, 25] [26] rfl rfl (QAll.cons (QOp.q rfl rfl (Quiet1.load hT rfl rfl rfl hc361) rfl rfl) (QAll.cons (QOp.q rfl rfl (Quiet1.load hT rfl rfl rfl hc362) rfl rfl) (QAll.cons (QOp.q rfl rfl (Quiet1.load hT rfl rfl rfl hc363) rfl rfl) (QAll.cons (QOp.q rfl rfl (Quiet1.nilChk rfl rfl hc364) rfl rfl) (QAll.cons (QOp.p hT rfl rfl rfl rfl rfl) QAll.nil))))) ?_
               refine EAll.cons ?_ EAll.nil
               refine EOp.e rfl rfl rfl (EffX.store hT rfl rfl rfl rfl rfl H) ?_
               rintro _ _ ⟨h0u92, rfl, H⟩
               obtain ⟨hc365, H⟩ := H
               obtain ⟨hc366, H⟩ := H
               obtain ⟨a_56, hc367, H⟩ := H
               apply Stg.next [(124, _), (125, _)] rfl rfl
               refine Stg.go [1, 2, 27, 28] [29] rfl rfl (QAll.cons (QOp.q rfl rfl (Quiet1.load hT rfl rfl rfl hc365) rfl rfl) (QAll.cons (QOp.q rfl rfl (Quiet1.load hT rfl rfl rfl hc366) rfl rfl) (QAll.cons (QOp.q rfl rfl (Quiet1.nilChk rfl rfl hc367) rfl rfl) (QAll.cons (QOp.p hT rfl rfl rfl rfl rfl) QAll.nil)))) ?_
               refine EAll.cons ?_ EAll.nil
               refine EOp.e rfl rfl rfl (EffX.store hT rfl rfl rfl rfl rfl H) ?_
               rintro _ _ ⟨h0u93, rfl, H⟩
               obtain ⟨hc368, H⟩ := H
               obtain ⟨a_57, hc369, H⟩ := H
               apply Stg.next [(126, _), (127, _)] rfl rfl
               refine Stg.go [2, 30, 31] [32] rfl rfl (QAll.cons (QOp.q rfl rfl (Quiet1.load hT rfl rfl rfl hc368) rfl rfl) (QAll.cons (QOp.q rfl rfl (Quiet1.nilChk rfl rfl hc369) rfl rfl) (QAll.cons (QOp.p hT rfl rfl rfl rfl rfl) QAll.nil))) ?_
               refine EAll.cons ?_ EAll.nil
               refine EOp.e rfl rfl rfl (EffX.store hT rfl rfl rfl rfl rfl H) ?_
               rintro _ _ ⟨h0u94, rfl, H⟩
               apply Stg.next [] rfl rfl
               refine Stg.fin [] rfl rfl QAll.nil ?_
               exact AtE.then_n ((HK19 _ () _ H).pickP (ts := [2]) (is := []) rfl rfl (by decide) rfl)
              refine EAll.cons ?_ EAll.nil
              replace H := H.2
              refine EOp.e rfl rfl rfl (EffX.buildS2 (cs := [_]) hT rfl rfl rfl rfl rfl rfl rfl rfl H) ?_
              rintro _ _ ⟨a_58, h0u95, rfl, rfl, H⟩
              obtain ⟨hc370, H⟩ := H
              obtain ⟨hc371, H⟩ := H
              obtain ⟨hc372, H⟩ := H
              obtain ⟨hc373, H⟩ := H
              obtain ⟨hc374, H⟩ := H
              obtain ⟨hc375, H⟩ := H
              obtain ⟨hc376, H⟩ := H
              obtain ⟨hc377, H⟩ := H
              obtain ⟨hc378, H⟩ := H
              apply Stg.next [(120, _)] rfl rfl
              refine Stg.go [0, 1, 2, 3, 4, 5, 6, 7, 10, 11, 12, 13, 17, 18, 19, 20] [8] rfl rfl (QAll.cons (QOp.q rfl rfl (Quiet1.load hT rfl rfl rfl hc370) rfl rfl) (QAll.cons (QOp.q rfl rfl (Quiet1.load hT rfl rfl rfl hc371) rfl rfl) (QAll.cons (QOp.q rfl rfl (Quiet1.load hT rfl rfl rfl hc372) rfl rfl) (QAll.cons (QOp.q rfl rfl (Quiet1.load hT rfl rfl rfl hc373) rfl rfl) (QAll.cons (QOp.q rfl rfl (Quiet1.nilChk rfl rfl hc23) rfl rfl) (QAll.cons (QOp.p hT rfl rfl rfl rfl rfl) (QAll.cons (QOp.q rfl rfl (Quiet1.load hT rfl rfl rfl hc374) rfl rfl) (QAll.cons (QOp.q rfl rfl (Quiet1.loadSP (i := 0) (l := [_, _, _, _, _, _]) hT rfl rfl rfl rfl rfl rfl rfl rfl) rfl rfl) (QAll.cons (QOp.q rfl rfl (Quiet1.load hT rfl rfl rfl hc375) rfl rfl) (QAll.cons (QOp.q rfl rfl (Quiet1.nilChk rfl rfl hc26) rfl rfl) (QAll.cons (QOp.p hT rfl rfl rfl rfl rfl) (QAll.cons (QOp.q rfl rfl (Quiet1.load hT rfl rfl rfl hc376) rfl rfl) (QAll.cons (QOp.q rfl rfl (Quiet1.load hT rfl rfl rfl hc377) rfl rfl) (QAll.cons (QOp.q rfl rfl (Quiet1.nilChk rfl rfl hc29) rfl rfl) (QAll.cons (QOp.p hT rfl rfl rfl rfl rfl) (QAll.cons (QOp.q rfl rfl (Quiet1.load hT rfl rfl rfl hc378) rfl rfl) QAll.nil)))))))))))))))) ?_
              refine EAll.cons ?_ EAll.nil
              refine EOp.e rfl rfl rfl (EffX.buildS2 (cs := [_, _, _, _, _, _]) hT rfl rfl rfl rfl rfl rfl rfl rfl H) ?_
              rintro _ _ ⟨a_59, h0u96, rfl, rfl, H⟩
              obtain ⟨hc379, H⟩ := H
              obtain ⟨hc380, H⟩ := H
              obtain ⟨hc381, H⟩ := H
              obtain ⟨hc382, H⟩ := H
              obtain ⟨hc383, H⟩ := H
              obtain ⟨hc384, H⟩ := H
              obtain ⟨hc385, H⟩ := H
              obtain ⟨hc386, H⟩ := H
              obtain ⟨hc387, H⟩ := H
              apply Stg.next [(106, _)] rfl rfl
              refine Stg.go [0, 1, 2, 3, 4, 5, 6, 10, 11, 12, 13, 17, 18, 19, 20] [9] rfl rfl (QAll.cons (QOp.q rfl rfl (Quiet1.load hT rfl rfl rfl hc379) rfl rfl) (QAll.cons (QOp.q rfl rfl (Quiet1.load hT rfl rfl rfl hc380) rfl rfl) (QAll.cons (QOp.q rfl rfl (Quiet1.load hT rfl rfl rfl hc381) rfl rfl) (QAll.cons (QOp.q rfl rfl (Quiet1.load hT rfl rfl rfl hc382) rfl rfl) (QAll.cons (QOp.q rfl rfl (Quiet1.nilChk rfl rfl hc23) rfl rfl) (QAll.cons (QOp.p hT rfl rfl rfl rfl rfl) (QAll.cons (QOp.q rfl rfl (Quiet1.load hT rfl rfl rfl hc383) rfl rfl) (QAll.cons (QOp.q rfl rfl (Quiet1.load hT rfl rfl rfl hc384) rfl rfl) (QAll.cons (QOp.q rfl rfl (Quiet1.nilChk rfl rfl hc26) rfl rfl) (QAll.cons (QOp.p hT rfl rfl rfl rfl rfl) (QAll.cons (QOp.q rfl rfl (Quiet1.load hT rfl rfl rfl hc385) rfl rfl) (QAll.cons (QOp.q rfl rfl (Quiet1.load hT rfl rfl rfl hc386) rfl rfl) (QAll.cons (QOp.q rfl rfl (Quiet1.nilChk rfl rfl hc29) rfl rfl) (QAll.cons (QOp.p hT rfl rfl rfl rfl rfl) (QAll.cons (QOp.q rfl rfl (Quiet1.load hT rfl rfl rfl hc387) rfl rfl) QAll.nil))))))))))))))) ?_
              refine EAll.cons ?_ EAll.nil
              refine EOp.e rfl rfl rfl (EffX.appendS (s := _) (u := _) hT rfl rfl rfl rfl rfl rfl rfl rfl rfl rfl (by decide) H) ?_
              rintro _ _ ⟨v_73, h0u97, rfl, rfl, H⟩
              obtain ⟨hc388, H⟩ := H
              obtain ⟨hc389, H⟩ := H
              obtain ⟨hc390, H⟩ := H
              obtain ⟨hc391, H⟩ := H
              obtain ⟨hc392, H⟩ := H
              obtain ⟨hc393, H⟩ := H
              obtain ⟨hc394, H⟩ := H
              apply Stg.next [(107, _)] rfl rfl
              refine Stg.go [0, 1, 2, 10, 11, 12, 13, 17, 18, 19, 20] [16] rfl rfl (QAll.cons (QOp.q rfl rfl (Quiet1.load hT rfl rfl rfl hc388) rfl rfl) (QAll.cons (QOp.q rfl rfl (Quiet1.load hT rfl rfl rfl hc389) rfl rfl) (QAll.cons (QOp.q rfl rfl (Quiet1.load hT rfl rfl rfl hc390) rfl rfl) (QAll.cons (QOp.q rfl rfl (Quiet1.load hT rfl rfl rfl hc391) rfl rfl) (QAll.cons (QOp.q rfl rfl (Quiet1.nilChk rfl rfl hc26) rfl rfl) (QAll.cons (QOp.p hT rfl rfl rfl rfl rfl) (QAll.cons (QOp.q rfl rfl (Quiet1.load hT rfl rfl rfl hc392) rfl rfl) (QAll.cons (QOp.q rfl rfl (Quiet1.load hT rfl rfl rfl hc393) rfl rfl) (QAll.cons (QOp.q rfl rfl (Quiet1.nilChk rfl rfl hc29) rfl rfl) (QAll.cons (QOp.p hT rfl rfl rfl rfl rfl) (QAll.cons (QOp.q rfl rfl (Quiet1.load hT rfl rfl rfl hc394) rfl rfl) QAll.nil))))))))))) ?_
              refine EAll.cons ?_ EAll.nil
              refine EOp.e rfl rfl rfl (EffX.appendS (s := _) (u := _) hT rfl rfl rfl rfl rfl rfl rfl rfl rfl rfl (by decide) H) ?_
              rintro _ _ ⟨v_74, h0u98, rfl, rfl, H⟩
              obtain ⟨hc395, H⟩ := H
              obtain ⟨hc396, H⟩ := H
              obtain ⟨hc397, H⟩ := H
              obtain ⟨hc398, H⟩ := H
              obtain ⟨hc399, H⟩ := H
              apply Stg.next [(114, _)] rfl rfl
              refine Stg.go [0, 1, 2, 17, 18, 19, 20] [23] rfl rfl (QAll.cons (QOp.q rfl rfl (Quiet1.load hT rfl rfl rfl hc395) rfl rfl) (QAll.cons (QOp.q rfl rfl (Quiet1.load hT rfl rfl rfl hc396) rfl rfl) (QAll.cons (QOp.q rfl rfl (Quiet1.load hT rfl rfl rfl hc397) rfl rfl) (QAll.cons (QOp.q rfl rfl (Quiet1.load hT rfl rfl rfl hc398) rfl rfl) (QAll.cons (QOp.q rfl rfl (Quiet1.nilChk rfl rfl hc29) rfl rfl) (QAll.cons (QOp.p hT rfl rfl rfl rfl rfl) (QAll.cons (QOp.q rfl rfl (Quiet1.load hT rfl rfl rfl hc399) rfl rfl) QAll.nil))))))) ?_
              refine EAll.cons ?_ EAll.nil
              refine EOp.e rfl rfl rfl (EffX.appendS (s := _) (u := _) hT rfl rfl rfl rfl rfl rfl rfl rfl rfl rfl (by decide) H) ?_
              rintro _ _ ⟨v_75, h0u99, rfl, rfl, H⟩
              obtain ⟨hc400, H⟩ := H
              obtain ⟨hc401, H⟩ := H
              obtain ⟨hc402, H⟩ := H
              obtain ⟨a_60, hc403, H⟩ := H
              apply Stg.next [(121, _), (122, _), (123, _)] rfl rfl
              refine Stg.go [0, 1, 2, 24, 25] [26] rfl rfl (QAll.cons (QOp.q rfl rfl (Quiet1.load hT rfl rfl rfl hc400) rfl rfl) (QAll.cons (QOp.q rfl rfl (Quiet1.load hT rfl rfl rfl hc401) rfl rfl) (QAll.cons (QOp.q rfl rfl (Quiet1.load hT rfl rfl rfl hc402) rfl rfl) (QAll.cons (QOp.q rfl rfl (Quiet1.nilChk rfl rfl hc403) rfl rfl) (QAll.cons (QOp.p hT rfl rfl rfl rfl rfl) QAll.nil))))) ?_
              refine EAll.cons ?_ EAll.nil
              refine EOp.e rfl rfl rfl (EffX.store hT rfl rfl rfl rfl rfl H) ?_
              rintro _ _ ⟨h0u100, rfl, H⟩
              obtain ⟨hc404, H⟩ := H
              obtain ⟨hc405, H⟩ := H
              obtain ⟨a_61, hc406, H⟩ := H
              apply Stg.next [(124, _), (125, _)] rfl rfl
              refine Stg.go [1, 2, 27, 28] [29] rfl rfl (QAll.cons (QOp.q rfl rfl (Quiet1.load hT rfl rfl rfl hc404) rfl rfl) (QAll.cons (QOp.q rfl rfl (Quiet1.load hT rfl rfl rfl hc405) rfl rfl) (QAll.cons (QOp.q rfl rfl (Quiet1.nilChk rfl rfl hc406) rfl rfl) (QAll.cons (QOp.p hT rfl rfl rfl rfl rfl) QAll.nil)))) ?_
              refine EAll.cons ?_ EAll.nil
              refine EOp.e rfl rfl rfl (EffX.store hT rfl rfl rfl rfl rfl H) ?_
              rintro _ _ ⟨h0u101, rfl, H⟩
              obtain ⟨hc407, H⟩ := H
              obtain ⟨a_62, hc408, H⟩ := H
              apply Stg.next [(126, _), (127, _)] rfl rfl
              refine Stg.go [2, 30, 31] [32] rfl rfl (QAll.cons (QOp.q rfl rfl (Quiet1.load hT rfl rfl rfl hc407) rfl rfl) (QAll.cons (QOp.q rfl rfl (Quiet1.nilChk rfl rfl hc408) rfl rfl) (QAll.cons (QOp.p hT rfl rfl rfl rfl rfl) QAll.nil))) ?_
              refine EAll.cons ?_ EAll.nil
              refine EOp.e rfl rfl rfl (EffX.store hT rfl rfl rfl rfl rfl H) ?_
              rintro _ _ ⟨h0u102, rfl, H⟩
              apply Stg.next [] rfl rfl
              refine Stg.fin [] rfl rfl QAll.nil ?_
              exact AtE.then_n ((HK19 _ () _ H).pickP (ts := [2]) (is := []) rfl rfl (by decide) rfl)
             refine EAll.cons ?_ EAll.nil
             replace H := H.2.2
             refine EOp.e rfl rfl rfl (EffX.buildS2 (cs := [_]) hT rfl rfl rfl rfl rfl rfl rfl rfl H) ?_
             rintro _ _ ⟨a_63, h0u103, rfl, rfl, H⟩
             obtain ⟨hc409, H⟩ := H
             obtain ⟨hc410, H⟩ := H
             obtain ⟨hc411, H⟩ := H
             obtain ⟨hc412, H⟩ := H
             obtain ⟨hc413, H⟩ := H
             obtain ⟨hc414, H⟩ := H
             obtain ⟨hc415, H⟩ := H
             obtain ⟨hc416, H⟩ := H
             obtain ⟨hc417, H⟩ := H
             apply Stg.next [(120, _)] rfl rfl
             refine Stg.go [0, 1, 2, 3, 4, 5, 6, 7, 10, 11, 12, 13, 14, 17, 18, 19, 20] [8, 15] rfl rfl (QAll.cons (QOp.q rfl rfl (Quiet1.load hT rfl rfl rfl hc409) rfl rfl) (QAll.cons (QOp.q rfl rfl (Quiet1.load hT rfl rfl rfl hc410) rfl rfl) (QAll.cons (QOp.q rfl rfl (Quiet1.load hT rfl rfl rfl hc411) rfl rfl) (QAll.cons (QOp.q rfl rfl (Quiet1.load hT rfl rfl rfl hc412) rfl rfl) (QAll.cons (QOp.q rfl rfl (Quiet1.nilChk rfl rfl hc23) rfl rfl) (QAll.cons (QOp.p hT rfl rfl rfl rfl rfl) (QAll.cons (QOp.q rfl rfl (Quiet1.load hT rfl rfl rfl hc413) rfl rfl) (QAll.cons (QOp.q rfl rfl (Quiet1.loadSP (i := 0) (l := [_, _, _, _, _, _]) hT rfl rfl rfl rfl rfl rfl rfl rfl) rfl rfl) (QAll.cons (QOp.q rfl rfl (Quiet1.load hT rfl rfl rfl hc414) rfl rfl) (QAll.cons (QOp.q rfl rfl (Quiet1.nilChk rfl rfl hc26) rfl rfl) (QAll.cons (QOp.p hT rfl rfl rfl rfl rfl) (QAll.cons (QOp.q rfl rfl (Quiet1.load hT rfl rfl rfl hc415) rfl rfl) (QAll.cons (QOp.p hT rfl rfl rfl rfl rfl) (QAll.cons (QOp.q rfl rfl (Quiet1.load hT rfl rfl rfl hc416) rfl rfl) (QAll.cons (QOp.q rfl rfl (Quiet1.nilChk rfl rfl hc29) rfl rfl) (QAll.cons (QOp.p hT rfl rfl rfl rfl rfl) (QAll.cons (QOp.q rfl rfl (Quiet1.load hT rfl rfl rfl hc417) rfl rfl) QAll.nil))))))))))))))))) ?_
             refine EAll.cons ?_ ?_
             ·
              replace H := H.1
              refine EOp.e rfl rfl rfl (EffX.buildS2 (cs := [_, _, _, _, _, _]) hT rfl rfl rfl rfl rfl rfl rfl rfl H) ?_
              rintro _ _ ⟨a_64, h0u104, rfl, rfl, H⟩
              obtain ⟨hc418, H⟩ := H
              obtain ⟨hc419, H⟩ := H
              obtain ⟨hc420, H⟩ := H
              obtain ⟨hc421, H⟩ := H
              obtain ⟨hc422, H⟩ := H
              obtain ⟨hc423, H⟩ := H
              obtain ⟨hc424, H⟩ := H
              obtain ⟨hc425, H⟩ := H
              obtain ⟨hc426, H⟩ := H
              apply Stg.next [(106, _)] rfl rfl
              refine Stg.go [0, 1, 2, 3, 4, 5, 6, 10, 11, 12, 13, 14, 17, 18, 19, 20] [9, 15] rfl rfl (QAll.cons (QOp.q rfl rfl (Quiet1.load hT rfl rfl rfl hc418) rfl rfl) (QAll.cons (QOp.q rfl rfl (Quiet1.load hT rfl rfl rfl hc419) rfl rfl) (QAll.cons (QOp.q rfl rfl (Quiet1.load hT rfl rfl rfl hc420) rfl rfl) (QAll.cons (QOp.q rfl rfl (Quiet1.load hT rfl rfl rfl hc421) rfl rfl) (QAll.cons (QOp.q rfl rfl (Quiet1.nilChk rfl rfl hc23) rfl rfl) (QAll.cons (QOp.p hT rfl rfl rfl rfl rfl) (QAll.cons (QOp.q rfl rfl (Quiet1.load hT rfl rfl rfl hc422) rfl rfl) (QAll.cons (QOp.q rfl rfl (Quiet1.load hT rfl rfl rfl hc423) rfl rfl) (QAll.cons (QOp.q rfl rfl (Quiet1.nilChk rfl rfl hc26) rfl rfl) (QAll.cons (QOp.p hT rfl rfl rfl rfl rfl) (QAll.cons (QOp.q rfl rfl (Quiet1.load hT rfl rfl rfl hc424) rfl rfl) (QAll.cons (QOp.p hT rfl rfl rfl rfl rfl) (QAll.cons (QOp.q rfl rfl (Quiet1.load hT rfl rfl rfl hc425) rfl rfl) (QAll.cons (QOp.q rfl rfl (Quiet1.nilChk rfl rfl hc29) rfl rfl) (QAll.cons (QOp.p hT rfl rfl rfl rfl rfl) (QAll.cons (QOp.q rfl rfl (Quiet1.load hT rfl rfl rfl hc426) rfl rfl) QAll.nil)))))))))))))))) ?_
              refine EAll.cons ?_ ?_
              ·
               replace H := H.1
               refine EOp.e rfl rfl rfl (EffX.appendS (s := _) (u := _) hT rfl rfl rfl rfl rfl rfl rfl rfl rfl rfl (by decide) H) ?_
               rintro _ _ ⟨v_78, h0u105, rfl, rfl, H⟩
               obtain ⟨hc427, H⟩ := H
               obtain ⟨hc428, H⟩ := H
               obtain ⟨hc429, H⟩ := H
               obtain ⟨hc430, H⟩ := H
               obtain ⟨hc431, H⟩ := H
               obtain ⟨hc432, H⟩ := H
               obtain ⟨hc433, H⟩ := H
               apply Stg.next [(107, _)] rfl rfl
               refine Stg.go [0, 1, 2, 10, 11, 12, 13, 14, 17, 18, 19, 20] [15] rfl rfl (QAll.cons (QOp.q rfl rfl (Quiet1.load hT rfl rfl rfl hc427) rfl rfl) (QAll.cons (QOp.q rfl rfl (Quiet1.load hT rfl rfl rfl hc428) rfl rfl) (QAll.cons (QOp.q rfl rfl (Quiet1.load hT rfl rfl rfl hc429) rfl rfl) (QAll.cons (QOp.q rfl rfl (Quiet1.load hT rfl rfl rfl hc430) rfl rfl) (QAll.cons (QOp.q rfl rfl (Quiet1.nilChk rfl rfl hc26) rfl rfl) (QAll.cons (QOp.p hT rfl rfl rfl rfl rfl) (QAll.cons (QOp.q rfl rfl (Quiet1.load hT rfl rfl rfl hc431) rfl rfl) (QAll.cons (QOp.p hT rfl rfl rfl rfl rfl) (QAll.cons (QOp.q rfl rfl (Quiet1.load hT rfl rfl rfl hc432) rfl rfl) (QAll.cons (QOp.q rfl rfl (Quiet1.nilChk rfl rfl hc29) rfl rfl) (QAll.cons (QOp.p hT rfl rfl rfl rfl rfl) (QAll.cons (QOp.q rfl rfl (Quiet1.load hT rfl rfl rfl hc433) rfl rfl) QAll.nil)))))))))))) ?_
               refine EAll.cons ?_ EAll.nil
               refine EOp.e rfl rfl rfl (EffX.buildS2 (cs := [_]) hT rfl rfl rfl rfl rfl rfl rfl rfl H) ?_
               rintro _ _ ⟨a_65, h0u106, rfl, rfl, H⟩
               obtain ⟨hc434, H⟩ := H
               obtain ⟨hc435, H⟩ := H
               obtain ⟨hc436, H⟩ := H
               obtain ⟨hc437, H⟩ := H
               obtain ⟨hc438, H⟩ := H
               obtain ⟨hc439, H⟩ := H
               obtain ⟨hc440, H⟩ := H
               apply Stg.next [(113, _)] rfl rfl
               refine Stg.go [0, 1, 2, 10, 11, 12, 13, 17, 18, 19, 20] [16] rfl rfl (QAll.cons (QOp.q rfl rfl (Quiet1.load hT rfl rfl rfl hc434) rfl rfl) (QAll.cons (QOp.q rfl rfl (Quiet1.load hT rfl rfl rfl hc435) rfl rfl) (QAll.cons (QOp.q rfl rfl (Quiet1.load hT rfl rfl rfl hc436) rfl rfl) (QAll.cons (QOp.q rfl rfl (Quiet1.load hT rfl rfl rfl hc437) rfl rfl) (QAll.cons (QOp.q rfl rfl (Quiet1.nilChk rfl rfl hc26) rfl rfl) (QAll.cons (QOp.p hT rfl rfl rfl rfl rfl) (QAll.cons (QOp.q rfl rfl (Quiet1.load hT rfl rfl rfl hc438) rfl rfl) (QAll.cons (QOp.q rfl rfl (Quiet1.load hT rfl rfl rfl hc439) rfl rfl) (QAll.cons (QOp.q rfl rfl (Quiet1.nilChk rfl rfl hc29) rfl rfl) (QAll.cons (QOp.p hT rfl rfl rfl rfl rfl) (QAll.cons (QOp.q rfl rfl (Quiet1.load hT rfl rfl rfl hc440) rfl rfl) QAll.nil))))))))))) ?_
               refine EAll.cons ?_ EAll.nil
               refine EOp.e rfl rfl rfl (EffX.appendS (s := _) (u := _) hT rfl rfl rfl rfl rfl rfl rfl rfl rfl rfl (by decide) H) ?_
               rintro _ _ ⟨v_80, h0u107, rfl, rfl, H⟩
               obtain ⟨hc441, H⟩ := H
               obtain ⟨hc442, H⟩ := H
               obtain ⟨hc443, H⟩ := H
               obtain ⟨hc444, H⟩ := H
               obtain ⟨hc445, H⟩ := H
               apply Stg.next [(114, _)] rfl rfl
               refine Stg.go [0, 1, 2, 17, 18, 19, 20] [23] rfl rfl (QAll.cons (QOp.q rfl rfl (Quiet1.load hT rfl rfl rfl hc441) rfl rfl) (QAll.cons (QOp.q rfl rfl (Quiet1.load hT rfl rfl rfl hc442) rfl rfl) (QAll.cons (QOp.q rfl rfl (Quiet1.load hT rfl rfl rfl hc443) rfl rfl) (QAll.cons (QOp.q rfl rfl (Quiet1.load hT rfl rfl rfl hc444) rfl rfl) (QAll.cons (QOp.q rfl rfl (Quiet1.nilChk rfl rfl hc29) rfl rfl) (QAll.cons (QOp.p hT rfl rfl rfl rfl rfl) (QAll.cons (QOp.q rfl rfl (Quiet1.load hT rfl rfl rfl hc445) rfl rfl) QAll.nil))))))) ?_
               refine EAll.cons ?_ EAll.nil
               refine EOp.e rfl rfl rfl (EffX.appendS (s := _) (u := _) hT rfl rfl rfl rfl rfl rfl rfl rfl rfl rfl (by decide) H) ?_
               rintro _ _ ⟨v_81, h0u108, rfl, rfl, H⟩
               obtain ⟨hc446, H⟩ := H
               obtain ⟨hc447, H⟩ := H
               obtain ⟨hc448, H⟩ := H
               obtain ⟨a_66, hc449, H⟩ := H
               apply Stg.next [(121, _), (122, _), (123, _)] rfl rfl
               refine Stg.go [0, 1, 2, 24, 25] [26] rfl rfl (QAll.cons (QOp.q rfl rfl (Quiet1.load hT rfl rfl rfl hc446) rfl rfl) (QAll.cons (QOp.q rfl rfl (Quiet1.load hT rfl rfl rfl hc447) rfl rfl) (QAll.cons (QOp.q rfl rfl (Quiet1.load hT rfl rfl rfl hc448) rfl rfl) (QAll.cons (QOp.q rfl rfl (Quiet1.nilChk rfl rfl hc449) rfl rfl) (QAll.cons (QOp.p hT rfl rfl rfl rfl rfl) QAll.nil))))) ?_
               refine EAll.cons ?_ EAll.nil
               refine EOp.e rfl rfl rfl (EffX.store hT rfl rfl rfl rfl rfl H) ?_
               rintro _ _ ⟨h0u109, rfl, H⟩
               obtain ⟨hc450, H⟩ := H
               obtain ⟨hc451, H⟩ := H
               obtain ⟨a_67, hc452, H⟩ := H
               apply Stg.next [(124, _), (125, _)] rfl rfl
               refine Stg.go [1, 2, 27, 28] [29] rfl rfl (QAll.cons (QOp.q rfl rfl (Quiet1.load hT rfl rfl rfl hc450) rfl rfl) (QAll.cons (QOp.q rfl rfl (Quiet1.load hT rfl rfl rfl hc451) rfl rfl) (QAll.cons (QOp.q rfl rfl (Quiet1.nilChk rfl rfl hc452) rfl rfl) (QAll.cons (QOp.p hT rfl rfl rfl rfl rfl) QAll.nil)))) ?_
               refine EAll.cons ?_ EAll.nil
               refine EOp.e rfl rfl rfl (EffX.store hT rfl rfl rfl rfl rfl H) ?_
               rintro _ _ ⟨h0u110, rfl, H⟩
               obtain ⟨hc453, H⟩ := H
               obtain ⟨a_68, hc454, H⟩ := H
               apply Stg.next [(126, _), (127, _)] rfl rfl
               refine Stg.go [2, 30, 31] [32] rfl rfl (QAll.cons (QOp.q rfl rfl (Quiet1.load hT rfl rfl rfl hc453) rfl rfl) (QAll.cons (QOp.q rfl rfl (Quiet1.nilChk rfl rfl hc454) rfl rfl) (QAll.cons (QOp.p hT rfl rfl rfl rfl rfl) QAll.nil))) ?_
               refine EAll.cons ?_ EAll.nil
               refine EOp.e rfl rfl rfl (EffX.store hT rfl rfl rfl rfl rfl H) ?_
               rintro _ _ ⟨h0u111, rfl, H⟩
               apply Stg.next [] rfl rfl
               refine Stg.fin [] rfl rfl QAll.nil ?_
               exact AtE.then_n ((HK19 _ () _ H).pickP (ts := [2]) (is := []) rfl rfl (by decide) rfl)
              refine EAll.cons ?_ EAll.nil
              replace H := H.2
              refine EOp.e rfl rfl rfl (EffX.buildS2 (cs := [_]) hT rfl rfl rfl rfl rfl rfl rfl rfl H) ?_
              rintro _ _ ⟨a_69, h0u112, rfl, rfl, H⟩
              obtain ⟨hc455, H⟩ := H
              obtain ⟨hc456, H⟩ := H
              obtain ⟨hc457, H⟩ := H
              obtain ⟨hc458, H⟩ := H
              obtain ⟨hc459, H⟩ := H
              obtain ⟨hc460, H⟩ := H
              obtain ⟨hc461, H⟩ := H
              obtain ⟨hc462, H⟩ := H
              obtain ⟨hc463, H⟩ := H
              apply Stg.next [(113, _)] rfl rfl
              refine Stg.go [0, 1, 2, 3, 4, 5, 6, 10, 11, 12, 13, 17, 18, 19, 20] [9] rfl rfl (QAll.cons (QOp.q rfl rfl (Quiet1.load hT rfl rfl rfl hc455) rfl rfl) (QAll.cons (QOp.q rfl rfl (Quiet1.load hT rfl rfl rfl hc456) rfl rfl) (QAll.cons (QOp.q rfl rfl (Quiet1.load hT rfl rfl rfl hc457) rfl rfl) (QAll.cons (QOp.q rfl rfl (Quiet1.load hT rfl rfl rfl hc458) rfl rfl) (QAll.cons (QOp.q rfl rfl (Quiet1.nilChk rfl rfl hc23) rfl rfl) (QAll.cons (QOp.p hT rfl rfl rfl rfl rfl) (QAll.cons (QOp.q rfl rfl (Quiet1.load hT rfl rfl rfl hc459) rfl rfl) (QAll.cons (QOp.q rfl rfl (Quiet1.load hT rfl rfl rfl hc460) rfl rfl) (QAll.cons (QOp.q rfl rfl (Quiet1.nilChk rfl rfl hc26) rfl rfl) (QAll.cons (QOp.p hT rfl rfl rfl rfl rfl) (QAll.cons (QOp.q rfl rfl (Quiet1.load hT rfl rfl rfl hc461) rfl rfl) (QAll.cons (QOp.q rfl rfl (Quiet1.load hT rfl rfl rfl hc462) rfl rfl) (QAll.cons (QOp.q rfl rfl (Quiet1.nilChk rfl rfl hc29) rfl rfl) (QAll.cons (QOp.p hT rfl rfl rfl rfl rfl) (QAll.cons (QOp.q rfl rfl (Quiet1.load hT rfl rfl rfl hc463) rfl rfl) QAll.nil))))))))))))))) ?_
              refine EAll.cons ?_ EAll.nil
              refine EOp.e rfl rfl rfl (EffX.appendS (s := _) (u := _) hT rfl rfl rfl rfl rfl rfl rfl rfl rfl rfl (by decide) H) ?_
              rintro _ _ ⟨v_83, h0u113, rfl, rfl, H⟩
              obtain ⟨hc464, H⟩ := H
              obtain ⟨hc465, H⟩ := H
              obtain ⟨hc466, H⟩ := H
              obtain ⟨hc467, H⟩ := H
              obtain ⟨hc468, H⟩ := H
              obtain ⟨hc469, H⟩ := H
              obtain ⟨hc470, H⟩ := H
              apply Stg.next [(107, _)] rfl rfl
              refine Stg.go [0, 1, 2, 10, 11, 12, 13, 17, 18, 19, 20] [16] rfl rfl (QAll.cons (QOp.q rfl rfl (Quiet1.load hT rfl rfl rfl hc464) rfl rfl) (QAll.cons (QOp.q rfl rfl (Quiet1.load hT rfl rfl rfl hc465) rfl rfl) (QAll.cons (QOp.q rfl rfl (Quiet1.load hT rfl rfl rfl hc466) rfl rfl) (QAll.cons (QOp.q rfl rfl (Quiet1.load hT rfl rfl rfl hc467) rfl rfl) (QAll.cons (QOp.q rfl rfl (Quiet1.nilChk rfl rfl hc26) rfl rfl) (QAll.cons (QOp.p hT rfl rfl rfl rfl rfl) (QAll.cons (QOp.q rfl rfl (Quiet1.load hT rfl rfl rfl hc468) rfl rfl) (QAll.cons (QOp.q rfl rfl (Quiet1.load hT rfl rfl rfl hc469) rfl rfl) (QAll.cons (QOp.q rfl rfl (Quiet1.nilChk rfl rfl hc29) rfl rfl) (QAll.cons (QOp.p hT rfl rfl rfl rfl rfl) (QAll.cons (QOp.q rfl rfl (Quiet1.load hT rfl rfl rfl hc470) rfl rfl) QAll.nil))))))))))) ?_
              refine EAll.cons ?_ EAll.nil
              refine EOp.e rfl rfl rfl (EffX.appendS (s := _) (u := _) hT rfl rfl rfl rfl rfl rfl rfl rfl rfl rfl (by decide) H) ?_
              rintro _ _ ⟨v_84, h0u114, rfl, rfl, H⟩
              obtain ⟨hc471, H⟩ := H
              obtain ⟨hc472, H⟩ := H
              obtain ⟨hc473, H⟩ := H
              obtain ⟨hc474, H⟩ := H
              obtain ⟨hc475, H⟩ := H
              apply Stg.next [(114, _)] rfl rfl
              refine Stg.go [0, 1, 2, 17, 18, 19, 20] [23] rfl rfl (QAll.cons (QOp.q rfl rfl (Quiet1.load hT rfl rfl rfl hc471) rfl rfl) (QAll.cons (QOp.q rfl rfl (Quiet1.load hT rfl rfl rfl hc472) rfl rfl) (QAll.cons (QOp.q rfl rfl (Quiet1.load hT rfl rfl rfl hc473) rfl rfl) (QAll.cons (QOp.q rfl rfl (Quiet1.load hT rfl rfl rfl hc474) rfl rfl) (QAll.cons (QOp.q rfl rfl (Quiet1.nilChk rfl rfl hc29) rfl rfl) (QAll.cons (QOp.p hT rfl rfl rfl rfl rfl) (QAll.cons (QOp.q rfl rfl (Quiet1.load hT rfl rfl rfl hc475) rfl rfl) QAll.nil))))))) ?_
              refine EAll.cons ?_ EAll.nil
              refine EOp.e rfl rfl rfl (EffX.appendS (s := _) (u := _) hT rfl rfl rfl rfl rfl rfl rfl rfl rfl rfl (by decide) H) ?_
              rintro _ _ ⟨v_85, h0u115, rfl, rfl, H⟩
              obtain ⟨hc476, H⟩ := H
              obtain ⟨hc477, H⟩ := H
              obtain ⟨hc478, H⟩ := H
              obtain ⟨a_70, hc479, H⟩ := H
              apply Stg.next [(121, _), (122, _), (123, _)] rfl rfl
              refine Stg.go [0, 1, 2, 24, 25] [26] rfl rfl (QAll.cons (QOp.q rfl rfl (Quiet1.load hT rfl rfl rfl hc476) rfl rfl) (QAll.cons (QOp.q rfl rfl (Quiet1.load hT rfl rfl rfl hc477) rfl rfl) (QAll.cons (QOp.q rfl rfl (Quiet1.load hT rfl rfl rfl hc478) rfl rfl) (QAll.cons (QOp.q rfl rfl (Quiet1.nilChk rfl rfl hc479) rfl rfl) (QAll.cons (QOp.p hT rfl rfl rfl rfl rfl) QAll.nil))))) ?_
              refine EAll.cons ?_ EAll.nil
              refine EOp.e rfl rfl rfl (EffX.store hT rfl rfl rfl rfl rfl H) ?_
              rintro _ _ ⟨h0u116, rfl, H⟩
              obtain ⟨hc480, H⟩ := H
              obtain ⟨hc481, H⟩ := H
              obtain ⟨a_71, hc482, H⟩ := H
              apply Stg.next [(124, _), (125, _)] rfl rfl
              refine Stg.go [1, 2, 27, 28] [29] rfl rfl (QAll.cons (QOp.q rfl rfl (Quiet1.load hT rfl rfl rfl hc480) rfl rfl) (QAll.cons (QOp.q rfl rfl (Quiet1.load hT rfl rfl rfl hc481) rfl rfl) (QAll.cons (QOp.q rfl rfl (Quiet1.nilChk rfl rfl hc482) rfl rfl) (QAll.cons (QOp.p hT rfl rfl rfl rfl rfl) QAll.nil)))) ?_
              refine EAll.cons ?_ EAll.nil
              refine EOp.e rfl rfl rfl (EffX.store hT rfl rfl rfl rfl rfl H) ?_
              rintro _ _ ⟨h0u117, rfl, H⟩
              obtain ⟨hc483, H⟩ := H
              obtain ⟨a_72, hc484, H⟩ := H
              apply Stg.next [(126, _), (127, _)] rfl rfl
              refine Stg.go [2, 30, 31] [32] rfl rfl (QAll.cons (QOp.q rfl rfl (Quiet1.load hT rfl rfl rfl hc483) rfl rfl) (QAll.cons (QOp.q rfl rfl (Quiet1.nilChk rfl rfl hc484) rfl rfl) (QAll.cons (QOp.p hT rfl rfl rfl rfl rfl) QAll.nil))) ?_
              refine EAll.cons ?_ EAll.nil
              refine EOp.e rfl rfl rfl (EffX.store hT rfl rfl rfl rfl rfl H) ?_
              rintro _ _ ⟨h0u118, rfl, H⟩
              apply Stg.next [] rfl rfl
              refine Stg.fin [] rfl rfl QAll.nil ?_
              exact AtE.then_n ((HK19 _ () _ H).pickP (ts := [2]) (is := []) rfl rfl (by decide) rfl)
             refine EAll.cons ?_ EAll.nil
             replace H := H.2
             refine EOp.e rfl rfl rfl (EffX.buildS2 (cs := [_]) hT rfl rfl rfl rfl rfl rfl rfl rfl H) ?_
             rintro _ _ ⟨a_73, h0u119, rfl, rfl, H⟩
             obtain ⟨hc485, H⟩ := H
             obtain ⟨hc486, H⟩ := H
             obtain ⟨hc487, H⟩ := H
             obtain ⟨hc488, H⟩ := H
             obtain ⟨hc489, H⟩ := H
             obtain ⟨hc490, H⟩ := H
             obtain ⟨hc491, H⟩ := H
             obtain ⟨hc492, H⟩ := H
             obtain ⟨hc493, H⟩ := H
             apply Stg.next [(113, _)] rfl rfl
             refine Stg.go [0, 1, 2, 3, 4, 5, 6, 7, 10, 11, 12, 13, 17, 18, 19, 20] [8] rfl rfl (QAll.cons (QOp.q rfl rfl (Quiet1.load hT rfl rfl rfl hc485) rfl rfl) (QAll.cons (QOp.q rfl rfl (Quiet1.load hT rfl rfl rfl hc486) rfl rfl) (QAll.cons (QOp.q rfl rfl (Quiet1.load hT rfl rfl rfl hc487) rfl rfl) (QAll.cons (QOp.q rfl rfl (Quiet1.load hT rfl rfl rfl hc488) rfl rfl) (QAll.cons (QOp.q rfl rfl (Quiet1.nilChk rfl rfl hc23) rfl rfl) (QAll.cons (QOp.p hT rfl rfl rfl rfl rfl) (QAll.cons (QOp.q rfl rfl (Quiet1.load hT rfl rfl rfl hc489) rfl rfl) (QAll.cons (QOp.q rfl rfl (Quiet1.loadSP (i := 0) (l := [_, _, _, _, _, _]) hT rfl rfl rfl rfl rfl rfl rfl rfl) rfl rfl) (QAll.cons (QOp.q rfl rfl (Quiet1.load hT rfl rfl rfl hc490) rfl rfl) (QAll.cons (QOp.q rfl rfl (Quiet1.nilChk rfl rfl hc26) rfl rfl) (QAll.cons (QOp.p hT rfl rfl rfl rfl rfl) (QAll.cons (QOp.q rfl rfl (Quiet1.load hT rfl rfl rfl hc491) rfl rfl) (QAll.cons (QOp.q rfl rfl (Quiet1.load hT rfl rfl rfl hc492) rfl rfl) (QAll.cons (QOp.q rfl rfl (Quiet1.nilChk rfl rfl hc29) rfl rfl) (QAll.cons (QOp.p hT rfl rfl rfl rfl rfl) (QAll.cons (QOp.q rfl rfl (Quiet1.load hT rfl rfl rfl hc493) rfl rfl) QAll.nil)))))))))))))))) ?_
             refine EAll.cons ?_ EAll.nil
             refine EOp.e rfl rfl rfl (EffX.buildS2 (cs := [_, _, _, _, _, _]) hT rfl rfl rfl rfl rfl rfl rfl rfl H) ?_
             rintro _ _ ⟨a_74, h0u120, rfl, rfl, H⟩
             obtain ⟨hc494, H⟩ := H
             obtain ⟨hc495, H⟩ := H
             obtain ⟨hc496, H⟩ := H
             obtain ⟨hc497, H⟩ := H
             obtain ⟨hc498, H⟩ := H
             obtain ⟨hc499, H⟩ := H
             obtain ⟨hc500, H⟩ := H
             obtain ⟨hc501, H⟩ := H
             obtain ⟨hc502, H⟩ := H
             apply Stg.next [(106, _)] rfl rfl
             refine Stg.go [0, 1, 2, 3, 4, 5, 6, 10, 11, 12, 13, 17, 18, 19, 20] [9] rfl rfl (QAll.cons (QOp.q rfl rfl (Quiet1.load hT rfl rfl rfl hc494) rfl rfl) (QAll.cons (QOp.q rfl rfl (Quiet1.load hT rfl rfl rfl hc495) rfl rfl) (QAll.cons (QOp.q rfl rfl (Quiet1.load hT rfl rfl rfl hc496) rfl rfl) (QAll.cons (QOp.q rfl rfl (Quiet1.load hT rfl rfl rfl hc497) rfl rfl) (QAll.cons (QOp.q rfl rfl (Quiet1.nilChk rfl rfl hc23) rfl rfl) (QAll.cons (QOp.p hT rfl rfl rfl rfl rfl) (QAll.cons (QOp.q rfl rfl (Quiet1.load hT rfl rfl rfl hc498) rfl rfl) (QAll.cons (QOp.q rfl rfl (Quiet1.load hT rfl rfl rfl hc499) rfl rfl) (QAll.cons (QOp.q rfl rfl (Quiet1.nilChk rfl rfl hc26) rfl rfl) (QAll.cons (QOp.p hT rfl rfl rfl rfl rfl) (QAll.cons (QOp.q rfl rfl (Quiet1.load hT rfl rfl rfl hc500) rfl rfl) (QAll.cons (QOp.q rfl rfl (Quiet1.load hT rfl rfl rfl hc501) rfl rfl) (QAll.cons (QOp.q rfl rfl (Quiet1.nilChk rfl rfl hc29) rfl rfl) (QAll.cons (QOp.p hT rfl rfl rfl rfl rfl) (QAll.cons (QOp.q rfl rfl (Quiet1.load hT rfl rfl rfl hc502) rfl rfl) QAll.nil))))))))))))))) ?_
             refine EAll.cons ?_ EAll.nil
             refine EOp.e rfl rfl rfl (EffX.appendS (s := _) (u := _) hT rfl rfl rfl rfl rfl rfl rfl rfl rfl rfl (by decide) H) ?_
             rintro _ _ ⟨v_88, h0u121, rfl, rfl, H⟩
             obtain ⟨hc503, H⟩ := H
             obtain ⟨hc504, H⟩ := H
             obtain ⟨hc505, H⟩ := H
             obtain ⟨hc506, H⟩ := H
             obtain ⟨hc507, H⟩ := H
             obtain ⟨hc508, H⟩ := H
             obtain ⟨hc509, H⟩ := H
             apply Stg.next [(107, _)] rfl rfl
             refine Stg.go [0, 1, 2, 10, 11, 12, 13, 17, 18, 19, 20] [16] rfl rfl (QAll.cons (QOp.q rfl rfl (Quiet1.load hT rfl rfl rfl hc503) rfl rfl) (QAll.cons (QOp.q rfl rfl (Quiet1.load hT rfl rfl rfl hc504) rfl rfl) (QAll.cons (QOp.q rfl rfl (Quiet1.load hT rfl rfl rfl hc505) rfl rfl) (QAll.cons (QOp.q rfl rfl (Quiet1.load hT rfl rfl rfl hc506) rfl rfl) (QAll.cons (QOp.q rfl rfl (Quiet1.nilChk rfl rfl hc26) rfl rfl) (QAll.cons (QOp.p hT rfl rfl rfl rfl rfl) (QAll.cons (QOp.q rfl rfl (Quiet1.load hT rfl rfl rfl hc507) rfl rfl) (QAll.cons (QOp.q rfl rfl (Quiet1.load hT rfl rfl rfl hc508) rfl rfl) (QAll.cons (QOp.q rfl rfl (Quiet1.nilChk rfl rfl hc29) rfl rfl) (QAll.cons (QOp.p hT rfl rfl rfl rfl rfl) (QAll.cons (QOp.q rfl rfl (Quiet1.load hT rfl rfl rfl hc509) rfl rfl) QAll.nil))))))))))) ?_
             refine EAll.cons ?_ EAll.nil
             refine EOp.e rfl rfl rfl (EffX.appendS (s := _) (u := _) hT rfl rfl rfl rfl rfl rfl rfl rfl rfl rfl (by decide) H) ?_
             rintro _ _ ⟨v_89, h0u122, rfl, rfl, H⟩
             obtain ⟨hc510, H⟩ := H
             obtain ⟨hc511, H⟩ := H
             obtain ⟨hc512, H⟩ := H
             obtain ⟨hc513, H⟩ := H
             obtain ⟨hc514, H⟩ := H
             apply Stg.next [(114, _)] rfl rfl
             refine Stg.go [0, 1, 2, 17, 18, 19, 20] [23] rfl rfl (QAll.cons (QOp.q rfl rfl (Quiet1.load hT rfl rfl rfl hc510) rfl rfl) (QAll.cons (QOp.q rfl rfl (Quiet1.load hT rfl rfl rfl hc511) rfl rfl) (QAll.cons (QOp.q rfl rfl (Quiet1.load hT rfl rfl rfl hc512) rfl rfl) (QAll.cons (QOp.q rfl rfl (Quiet1.load hT rfl rfl rfl hc513) rfl rfl) (QAll.cons (QOp.q rfl rfl (Quiet1.nilChk rfl rfl hc29) rfl rfl) (QAll.cons (QOp.p hT rfl rfl rfl rfl rfl) (QAll.cons (QOp.q rfl rfl (Quiet1.load hT rfl rfl rfl hc514) rfl rfl) QAll.nil))))))) ?_
             refine EAll.cons ?_ EAll.nil
             refine EOp.e rfl rfl rfl (EffX.appendS (s := _) (u := _) hT rfl rfl rfl rfl rfl rfl rfl rfl rfl rfl (by decide) H) ?_
             rintro _ _ ⟨v_90, h0u123, rfl, rfl, H⟩
             obtain ⟨hc515, H⟩ := H
             obtain ⟨hc516, H⟩ := H
             obtain ⟨hc517, H⟩ := H
             obtain ⟨a_75, hc518, H⟩ := H
             apply Stg.next [(121, _), (122, _), (123, _)] rfl rfl
             refine Stg.go [0, 1, 2, 24, 25] [26] rfl rfl (QAll.cons (QOp.q rfl rfl (Quiet1.load hT rfl rfl rfl hc515) rfl rfl) (QAll.cons (QOp.q rfl rfl (Quiet1.load hT rfl rfl rfl hc516) rfl rfl) (QAll.cons (QOp.q rfl rfl (Quiet1.load hT rfl rfl rfl hc517) rfl rfl) (QAll.cons (QOp.q rfl rfl (Quiet1.nilChk rfl rfl hc518) rfl rfl) (QAll.cons (QOp.p hT rfl rfl rfl rfl rfl) QAll.nil))))) ?_
             refine EAll.cons ?_ EAll.nil
             refine EOp.e rfl rfl rfl (EffX.store hT rfl rfl rfl rfl rfl H) ?_
             rintro _ _ ⟨h0u124, rfl, H⟩
             obtain ⟨hc519, H⟩ := H
             obtain ⟨hc520, H⟩ := H
             obtain ⟨a_76, hc521, H⟩ := H
             apply Stg.next [(124, _), (125, _)] rfl rfl
             refine Stg.go [1, 2, 27, 28] [29] rfl rfl (QAll.cons (QOp.q rfl rfl (Quiet1.load hT rfl rfl rfl hc519) rfl rfl) (QAll.cons (QOp.q rfl rfl (Quiet1.load hT rfl rfl rfl hc520) rfl rfl) (QAll.cons (QOp.q rfl rfl (Quiet1.nilChk rfl rfl hc521) rfl rfl) (QAll.cons (QOp.p hT rfl rfl rfl rfl rfl) QAll.nil)))) ?_
             refine EAll.cons ?_ EAll.nil
             refine EOp.e rfl rfl rfl (EffX.store hT rfl rfl rfl rfl rfl H) ?_
             rintro _ _ ⟨h0u125, rfl, H⟩
             obtain ⟨hc522, H⟩ := H
             obtain ⟨a_77, hc523, H⟩ := H
             apply Stg.next [(126, _), (127, _)] rfl rfl
             refine Stg.go [2, 30, 31] [32] rfl rfl (QAll.cons (QOp.q rfl rfl (Quiet1.load hT rfl rfl rfl hc522) rfl rfl) (QAll.cons (QOp.q rfl rfl (Quiet1.nilChk rfl rfl hc523) rfl rfl) (QAll.cons (QOp.p hT rfl rfl rfl rfl rfl) QAll.nil))) ?_
             refine EAll.cons ?_ EAll.nil
             refine EOp.e rfl rfl rfl (EffX.store hT rfl rfl rfl rfl rfl H) ?_
             rintro _ _ ⟨h0u126, rfl, H⟩
             apply Stg.next [] rfl rfl
             refine Stg.fin [] rfl rfl QAll.nil ?_
             exact AtE.then_n ((HK19 _ () _ H).pickP (ts := [2]) (is := []) rfl rfl (by decide) rfl)
          ·
           refine AtC.region ?_
           refine AtL.pures hT 1 _ _ _ _ rfl ?_
           refine AtL.q rfl (Quiet1.loadP (i := 1) hT rfl rfl rfl rfl rfl rfl) ?_
           refine AtL.pures hT 2 _ _ _ _ rfl ?_
           refine AtL.splitB (t := 75) H rfl (fun H => ?_) (fun H => ?_)
           ·
            refine AtL.noF rfl rfl rfl (by decide) rfl ?_
            refine AtL.noF rfl rfl rfl (by decide) rfl ?_
            refine AtL.noF rfl rfl rfl (by decide) rfl ?_
            refine AtL.pures hT 2 _ _ _ _ rfl ?_
            refine AtL.nil ?_
            exact AtE.then_n ((HK9 _ () _ H).pickP (ts := [10, 2, 3, 9]) (is := [1]) rfl rfl (by decide) rfl)
           ·
            refine AtL.yes rfl rfl rfl ?_
            refine AtL.pures hT 1 _ _ _ _ rfl ?_
            refine AtL.yes rfl rfl rfl ?_
            refine AtL.q rfl (Quiet1.loadP (i := 1) hT rfl rfl rfl rfl rfl rfl) ?_
            refine AtL.yes rfl rfl rfl ?_
            refine AtL.pures hT 1 _ _ _ _ rfl ?_
            refine AtL.pures hT 2 _ _ _ _ rfl ?_
            replace H := H _ rfl
            refine AtL.nil ?_
            exact AtE.then_n ((HK9 _ () _ H).pickP (ts := [10, 2, 3, 9]) (is := [1]) rfl rfl (by decide) rfl)
     ·
      refine AtC.region ?_
      refine AtL.pures hT 1 _ _ _ _ rfl ?_
      refine AtL.q rfl (Quiet1.loadP (i := 1) hT rfl rfl rfl rfl rfl rfl) ?_
      refine AtL.pures hT 2 _ _ _ _ rfl ?_
      refine AtL.q rfl (Quiet1.loadP (i := 0) hT rfl rfl rfl rfl rfl rfl) ?_
      refine AtL.pures hT 2 _ _ _ _ rfl ?_
      refine AtL.splitB (t := 41) H rfl (fun H => ?_) (fun H => ?_)
      ·
       refine AtL.noF rfl rfl rfl (by decide) rfl ?_
       refine AtL.noF rfl rfl rfl (by decide) rfl ?_
       refine AtL.noF rfl rfl rfl (by decide) rfl ?_
       refine AtL.noF rfl rfl rfl (by decide) rfl ?_
       refine AtL.noF rfl rfl rfl (by decide) rfl ?_
       refine AtL.noF rfl rfl rfl (by decide) rfl ?_
       refine AtL.pures hT 2 _ _ _ _ rfl ?_
       refine AtL.nil ?_
       exact AtE.then_n ((HK3 _ () _ H).pickP (ts := [34, 2, 3, 6]) (is := [0, 1]) rfl rfl (by decide) rfl)
      ·
       refine AtL.yes rfl rfl rfl ?_
       refine AtL.pures hT 1 _ _ _ _ rfl ?_
       refine AtL.yes rfl rfl rfl ?_
       refine AtL.q rfl (Quiet1.loadP (i := 1) hT rfl rfl rfl rfl rfl rfl) ?_
       refine AtL.yes rfl rfl rfl ?_
       refine AtL.pures hT 1 _ _ _ _ rfl ?_
       refine AtL.yes rfl rfl rfl ?_
       refine AtL.pures hT 1 _ _ _ _ rfl ?_
       refine AtL.yes rfl rfl rfl ?_
       refine AtL.q rfl (Quiet1.loadP (i := 0) hT rfl rfl rfl rfl rfl rfl) ?_
       refine AtL.yes rfl rfl rfl ?_
       refine AtL.pures hT 1 _ _ _ _ rfl ?_
       refine AtL.pures hT 2 _ _ _ _ rfl ?_
       refine AtL.nil ?_
       exact AtE.then_n ((HK3 _ () _ H).pickP (ts := [34, 2, 3, 6]) (is := [0, 1]) rfl rfl (by decide) rfl)
  ·
   refine AtC.region ?_
   refine AtL.pures hT 3 _ _ _ _ rfl ?_
   refine AtL.splitB (t := 23) H rfl (fun H => ?_) (fun H => ?_)
   ·
    refine AtL.noF rfl rfl rfl (by decide) rfl ?_
    refine AtL.noF rfl rfl rfl (by decide) rfl ?_
    refine AtL.noF rfl rfl rfl (by decide) rfl ?_
    refine AtL.noF rfl rfl rfl (by decide) rfl ?_
    refine AtL.pures hT 2 _ _ _ _ rfl ?_
    refine AtL.nil ?_
    exact AtE.then_n ((HK1 _ () _ H).pickP (ts := [20, 2, 3, 6, 8]) (is := [0, 1]) rfl rfl (by decide) rfl)
   ·
    refine AtL.yes rfl rfl rfl ?_
    obtain ⟨v_1, hc1, H⟩ := H
    refine AtL.q rfl (Quiet1.load hT rfl rfl rfl hc1) ?_
    refine AtL.yes rfl rfl rfl ?_
    refine AtL.q rfl (Quiet1.loadSP (i := 1) (l := [_, _, _, _, _, _]) hT rfl rfl rfl rfl rfl rfl rfl rfl) ?_
    refine AtL.yes rfl rfl rfl ?_
    refine AtL.e rfl (EffX.call (f := 110) (sh := fun h => term_Terms_leaf _ _ h _) (H0 := H) rfl Tryz.call110 rfl (hl := fun w m hr hw => lift_term_Terms_leaf _ _ w m hr _ hw)) ?_
    rintro _ _ ⟨v_2, h0u5, rfl, rfl, H⟩
    refine AtL.yes rfl rfl rfl ?_
    refine AtL.pures hT 1 _ _ _ _ rfl ?_
    refine AtL.pures hT 2 _ _ _ _ rfl ?_
    refine AtL.nil ?_
    exact AtE.then_n ((HK1 _ () _ H).pickP (ts := [20, 2, 3, 6, 8]) (is := [0, 1]) rfl rfl (by decide) rfl)
theorem lift_term_Right (nodes : Sl) (bools : Int) (reals : Int) (w : World) (m : Heap) (hr : Rel ⟨m, []⟩ w.heap) (S : Bool → Heap → Prop) (H : term_Right nodes bools reals m S) :
    Calls Tryz.prog 100 #[Sl.toV nodes, Value.int .i64 bools, Value.int .i64 reals] w (Post ⟨w, m⟩ Value.bool S) := by
  refine Calls.lift (args := [Sl.toV nodes, Value.int .i64 bools, Value.int .i64 reals]) Tryz.func100 rfl Tryz.ntmps100 (Nat.le_of_ble_eq_true rfl) hr (term_Right nodes bools reals m S) H (fun H => ?_)
  refine AtC.pick (ts := [0, 1, 2]) rfl ?_
  unfold term_Right at H
  refine AtC.seqR ?_
  refine AtL.pures hT 1 _ _ _ _ rfl ?_
  refine AtL.nil ?_
  refine AtE.then_n (AtE.go ?_)
  refine AtC.seqR ?_
  refine AtL.pures hT 2 _ _ _ _ rfl ?_
  refine AtL.e rfl (EffX.call (f := 51) (sh := fun h => term_New _ _ h _) (H0 := H) rfl Tryz.call51 rfl (hl := fun w m hr hw => lift_term_New _ _ w m hr _ hw)) ?_
  rintro _ _ ⟨v, h0, rfl, rfl, H⟩
  refine AtL.pures hT 1 _ _ _ _ rfl ?_
  refine AtL.nil ?_
  refine AtE.then_n (AtE.go ?_)
  refine AtC.seq ?_
  refine AtC.seqR ?_
  refine AtL.pures hT 3 _ _ _ _ rfl ?_
  refine AtL.nil ?_
  refine AtE.then_n (AtE.go ?_)
  refine AtC.block ?_
  refine AtC.loopM (fun (s0 : Int) => [(17, Value.int .i64 s0)]) (fun (s0 : Int) => []) [7, 15, 16] [17, 7, 15, 16] [] [] H (by exact rfl) (by exact rfl) (by exact rfl) (by decide) (by exact rfl) (fun Kp1 s0 h0u1 H Q1 HK1 => ?_)
  refine AtC.seqR ?_
  refine AtL.pures hT 1 _ _ _ _ rfl ?_
  refine AtL.nil ?_
  refine AtE.then_n (AtE.go ?_)
  refine AtC.seq ?_
  refine AtC.condB H rfl (fun H => ?_) (fun H => ?_)
  ·
   refine AtC.skip ?_
   refine AtE.then_n (AtE.go ?_)
   refine AtC.seq ?_
   refine AtC.block ?_
   refine AtC.seqR ?_
   obtain ⟨a_, hc1, hd1, H⟩ := H
   refine AtL.q rfl (Quiet1.idxS (s := _) hT rfl rfl rfl rfl rfl hc1 hd1) ?_
   obtain ⟨v_1, hc2, H⟩ := H
   refine AtL.q rfl (Quiet1.loadS hT rfl rfl rfl rfl hc2) ?_
   refine AtL.e rfl (EffX.allocP (cs := [_, _, _, _, _, _]) hT rfl rfl H) ?_
   rintro _ _ ⟨b, _, rfl, rfl, _, H⟩
   replace H := H.self
   refine AtL.e rfl (EffX.storeSP (i := 0) (qv := [(_, [_, _, _, _, _, _])]) hT rfl rfl rfl rfl rfl rfl rfl rfl rfl rfl) ?_
   rintro _ _ rfl
   refine AtL.nil ?_
   refine AtE.then_n (AtE.go ?_)
   refine AtC.seqR ?_
   refine AtL.pures hT 1 _ _ _ _ rfl ?_
   refine AtL.q rfl (Quiet1.loadSP (i := 0) (l := [_, _, _, _, _, _]) hT rfl rfl rfl rfl rfl rfl rfl rfl) ?_
   refine AtL.e rfl (EffX.call (f := 52) (sh := fun h => term_Terms_Add _ _ h _) (H0 := H) rfl Tryz.call52 rfl (hl := fun w m hr hw => lift_term_Terms_Add _ _ w m hr _ hw)) ?_
   rintro _ _ ⟨v_2, h0u3, rfl, rfl, H⟩
   refine AtL.pures hT 5 _ _ _ _ rfl ?_
   refine AtL.nil ?_
   refine AtE.then_n (AtE.go ?_)
   refine AtC.seqR ?_
   refine AtL.pures hT 2 _ _ _ _ rfl ?_
   refine AtL.nil ?_
   refine AtE.then_n (AtE.go ?_)
   refine AtC.condB H rfl (fun H => ?_) (fun H => ?_)
   ·
    refine AtC.seqR ?_
    refine AtL.pures hT 1 _ _ _ _ rfl ?_
    refine AtL.nil ?_
    refine AtE.then_n (AtE.go ?_)
    refine AtC.ret ?_
    refine AtE.blk_r ?_
    refine AtE.then_r ?_
    refine AtE.then_r ?_
    refine AtE.blk_r ?_
    refine AtE.then_r ?_
    exact AtE.retN (rs := [.tmp 6]) rfl (ResAll.cons (ResAt.tmp rfl) ResAll.nil) rfl H
   ·
    refine AtC.skip ?_
    refine AtE.blk_n ?_
    refine AtE.then_n (AtE.go ?_)
    refine AtC.region ?_
    refine AtL.pures hT 2 _ _ _ _ rfl ?_
    refine AtL.nil ?_
    exact AtE.then_n ((HK1 _ _ H).pickP (ts := [17, 7, 15, 16]) (is := []) rfl rfl (by decide) rfl)
  ·
   refine AtC.exit ?_
   refine AtE.then_x ?_
   refine AtE.then_x ?_
   refine AtE.blk_hit ?_
   refine AtE.then_n (AtE.go ?_)
   refine AtC.seqR ?_
   refine AtL.pures hT 1 _ _ _ _ rfl ?_
   refine AtL.nil ?_
   refine AtE.then_n (AtE.go ?_)
   refine AtC.ret ?_
   exact AtE.retN (rs := [.tmp 6]) rfl (ResAll.cons (ResAt.tmp rfl) ResAll.nil) rfl H
theorem lift_eval_All_c1 (x0 : Bool × Sl × Sl) (w : World) (m : Heap) (hr : Rel ⟨m, []⟩ w.heap) (S : Bool → Heap → Prop) (H : eval_All_c1 x0 m S) :
    Calls Tryz.prog 99 #[Value.agg (C_bool_sl_sl x0).toArray] w (Post ⟨w, m⟩ Value.bool S) := by
  refine Calls.lift (args := [Value.agg (C_bool_sl_sl x0).toArray]) Tryz.func99 rfl Tryz.ntmps99 (Nat.le_of_ble_eq_true rfl) hr (eval_All_c1 x0 m S) H (fun H => ?_)
  refine AtC.pick (ts := [0]) rfl ?_
  unfold eval_All_c1 at H
  refine AtC.seqR ?_
  refine AtL.e rfl (EffX.boxP (cs := [_, _, _]) rfl rfl rfl H) ?_
  rintro _ _ ⟨b, _, rfl, rfl, _, H⟩
  replace H := H.self
  refine AtL.pures hT 1 _ _ _ _ rfl ?_
  refine AtL.nil ?_
  refine AtE.then_n (AtE.go ?_)
  refine AtC.seqR ?_
  refine AtL.q rfl (Quiet1.loadSP (i := 0) (l := [_, _, _]) hT rfl rfl rfl rfl rfl rfl rfl rfl) ?_
  refine AtL.e rfl (EffX.call (f := 78) (sh := fun h => ratio_Right _ h _) (H0 := H) rfl Tryz.call78 rfl (hl := fun w m hr hw => lift_ratio_Right _ w m hr _ hw)) ?_
  rintro _ _ ⟨v, h0u1, rfl, rfl, H⟩
  refine AtL.pures hT 2 _ _ _ _ rfl ?_
  refine AtL.nil ?_
  refine AtE.then_n (AtE.go ?_)
  refine AtC.ret ?_
  exact AtE.retN (rs := [.tmp 2]) rfl (ResAll.cons (ResAt.tmp rfl) ResAll.nil) rfl H
theorem lift_slices_IndexFunc_api_Ratio_api_Ratio__eval_All_c1 (s0 : Sl) (w : World) (m : Heap) (hr : Rel ⟨m, []⟩ w.heap) (S : Int → Heap → Prop) (H : slices_IndexFunc_api_Ratio_api_Ratio__eval_All_c1 s0 m S) :
    Calls Tryz.prog 145 #[Sl.toV s0, Value.func (.func 99) #[] #[]] w (Post ⟨w, m⟩ (Value.int .i64) S) := by
  refine Calls.lift (args := [Sl.toV s0, Value.func (.func 99) #[] #[]]) Tryz.func145 rfl Tryz.ntmps145 (Nat.le_of_ble_eq_true rfl) hr (slices_IndexFunc_api_Ratio_api_Ratio__eval_All_c1 s0 m S) H (fun H => ?_)
  refine AtC.pick (ts := [0, 1]) rfl ?_
  unfold slices_IndexFunc_api_Ratio_api_Ratio__eval_All_c1 at H
  refine AtC.seqR ?_
  refine AtL.pures hT 1 _ _ _ _ rfl ?_
  refine AtL.nil ?_
  refine AtE.then_n (AtE.go ?_)
  refine AtC.seq ?_
  refine AtC.seqR ?_
  refine AtL.pures hT 3 _ _ _ _ rfl ?_
  refine AtL.nil ?_
  refine AtE.then_n (AtE.go ?_)
  refine AtC.block ?_
  refine AtC.loopM (fun (s0u1 : Int) => [(8, Value.int .i64 s0u1)]) (fun (s0u1 : Int) => []) [0, 1, 7] [8, 0, 1, 7] [] [] H (by exact rfl) (by exact rfl) (by exact rfl) (by decide) (by exact rfl) (fun Kp1 s0u1 h0 H Q1 HK1 => ?_)
  refine AtC.seqR ?_
  refine AtL.pures hT 1 _ _ _ _ rfl ?_
  refine AtL.nil ?_
  refine AtE.then_n (AtE.go ?_)
  refine AtC.seq ?_
  refine AtC.condB H rfl (fun H => ?_) (fun H => ?_)
  ·
   refine AtC.skip ?_
   refine AtE.then_n (AtE.go ?_)
   refine AtC.seq ?_
   refine AtC.block ?_
   refine AtC.seqR ?_
   refine AtL.pures hT 2 _ _ _ _ rfl ?_
   refine AtL.nil ?_
   refine AtE.then_n (AtE.go ?_)
   refine AtC.seqR ?_
   refine AtL.pures hT 3 _ _ _ _ rfl ?_
   obtain ⟨a_, hc1, hd1, H⟩ := H
   refine AtL.q rfl (Quiet1.idxS (s := _) hT rfl rfl rfl rfl rfl hc1 hd1) ?_
   obtain ⟨v, hc2, H⟩ := H
   refine AtL.q rfl (Quiet1.loadS hT rfl rfl rfl rfl hc2) ?_
   refine AtL.e rfl (EffX.callF (bs := []) (cs := []) (f := 99) (sh := fun h => eval_All_c1 _ h _) (H0 := H) rfl rfl Tryz.call99 rfl (hl := fun w m hr hw => lift_eval_All_c1 _ w m hr _ hw)) ?_
   rintro _ _ ⟨v_1, h0u1, rfl, rfl, H⟩
   refine AtL.nil ?_
   refine AtE.then_n (AtE.go ?_)
   refine AtC.condB H rfl (fun H => ?_) (fun H => ?_)
   ·
    refine AtC.seqR ?_
    refine AtL.pures hT 2 _ _ _ _ rfl ?_
    refine AtL.nil ?_
    refine AtE.then_n (AtE.go ?_)
    refine AtC.ret ?_
    refine AtE.blk_r ?_
    refine AtE.then_r ?_
    refine AtE.then_r ?_
    refine AtE.blk_r ?_
    refine AtE.then_r ?_
    exact AtE.retN (rs := [.tmp 4]) rfl (ResAll.cons (ResAt.tmp rfl) ResAll.nil) rfl H
   ·
    refine AtC.skip ?_
    refine AtE.blk_n ?_
    refine AtE.then_n (AtE.go ?_)
    refine AtC.region ?_
    refine AtL.pures hT 2 _ _ _ _ rfl ?_
    refine AtL.nil ?_
    exact AtE.then_n ((HK1 _ _ H).pickP (ts := [8, 0, 1, 7]) (is := []) rfl rfl (by decide) rfl)
  ·
   refine AtC.exit ?_
   refine AtE.then_x ?_
   refine AtE.then_x ?_
   refine AtE.blk_hit ?_
   refine AtE.then_n (AtE.go ?_)
   refine AtC.seqR ?_
   refine AtL.pures hT 1 _ _ _ _ rfl ?_
   refine AtL.nil ?_
   refine AtE.then_n (AtE.go ?_)
   refine AtC.ret ?_
   exact AtE.retN (rs := [.tmp 4]) rfl (ResAll.cons (ResAt.tmp rfl) ResAll.nil) rfl H
theorem lift_slices_ContainsFunc_api_Ratio_api_Ratio__eval_All_c1 (s0 : Sl) (w : World) (m : Heap) (hr : Rel ⟨m, []⟩ w.heap) (S : Bool → Heap → Prop) (H : slices_ContainsFunc_api_Ratio_api_Ratio__eval_All_c1 s0 m S) :
    Calls Tryz.prog 101 #[Sl.toV s0, Value.func (.func 99) #[] #[]] w (Post ⟨w, m⟩ Value.bool S) := by
  refine Calls.lift (args := [Sl.toV s0, Value.func (.func 99) #[] #[]]) Tryz.func101 rfl Tryz.ntmps101 (Nat.le_of_ble_eq_true rfl) hr (slices_ContainsFunc_api_Ratio_api_Ratio__eval_All_c1 s0 m S) H (fun H => ?_)
  refine AtC.pick (ts := [0, 1]) rfl ?_
  unfold slices_ContainsFunc_api_Ratio_api_Ratio__eval_All_c1 at H
  refine AtC.seqR ?_
  refine AtL.pures hT 1 _ _ _ _ rfl ?_
  refine AtL.nil ?_
  refine AtE.then_n (AtE.go ?_)
  refine AtC.seqR ?_
  refine AtL.pures hT 2 _ _ _ _ rfl ?_
  refine AtL.e rfl (EffX.call (f := 145) (sh := fun h => slices_IndexFunc_api_Ratio_api_Ratio__eval_All_c1 _ h _) (H0 := H) rfl Tryz.call145 rfl (hl := fun w m hr hw => lift_slices_IndexFunc_api_Ratio_api_Ratio__eval_All_c1 _ w m hr _ hw)) ?_
  rintro _ _ ⟨v, h0, rfl, rfl, H⟩
  refine AtL.pures hT 2 _ _ _ _ rfl ?_
  refine AtL.nil ?_
  refine AtE.then_n (AtE.go ?_)
  refine AtC.ret ?_
  exact AtE.retN (rs := [.tmp 4]) rfl (ResAll.cons (ResAt.tmp rfl) ResAll.nil) rfl H
theorem lift_eval_look_kids (l : (Option Addr)) (n : Int × Int × Sl × Bool × Sl × Sl) (w : World) (m : Heap) (hr : Rel ⟨m, []⟩ w.heap) (S : Sl → Heap → Prop) (H : eval_look_kids l n m S) :
    Calls Tryz.prog 146 #[Value.pointer l, Value.agg (C_i64ui64usl_bool_sl_sl n).toArray] w (Post ⟨w, m⟩ Sl.toV S) := by
  refine Calls.lift (args := [Value.pointer l, Value.agg (C_i64ui64usl_bool_sl_sl n).toArray]) Tryz.func146 rfl Tryz.ntmps146 (Nat.le_of_ble_eq_true rfl) hr (eval_look_kids l n m S) H (fun H => ?_)
  refine AtC.pick (ts := [0, 1]) rfl ?_
  unfold eval_look_kids at H
  refine AtC.seqR ?_
  refine AtL.e rfl (EffX.boxP (cs := [_, _, _, _, _, _]) rfl rfl rfl H) ?_
  rintro _ _ ⟨b, _, rfl, rfl, _, H⟩
  replace H := H.self
  refine AtL.pures hT 1 _ _ _ _ rfl ?_
  refine AtL.nil ?_
  refine AtE.then_n (AtE.go ?_)
  refine AtC.seq ?_
  refine AtC.seqR ?_
  refine AtL.pures hT 1 _ _ _ _ rfl ?_
  refine AtL.q rfl (Quiet1.loadP (i := 0) hT rfl rfl rfl rfl rfl rfl) ?_
  refine AtL.pures hT 2 _ _ _ _ rfl ?_
  refine AtL.nil ?_
  refine AtE.then_n (AtE.go ?_)
  refine AtC.block ?_
  refine AtC.loopM (fun (s0 : Sl × Int) => [(4, Sl.toV s0.1), (10, Value.int .i64 s0.2)]) (fun (s0 : Sl × Int) => []) [0, 8, 9] [4, 10, 0, 8, 9] [] [] H (by exact rfl) (by exact rfl) (by exact rfl) (by decide) (by exact rfl) (fun Kp1 s0 h0u1 H Q1 HK1 => ?_)
  refine AtC.seqR ?_
  refine AtL.pures hT 1 _ _ _ _ rfl ?_
  refine AtL.nil ?_
  refine AtE.then_n (AtE.go ?_)
  refine AtC.seq ?_
  refine AtC.condB H rfl (fun H => ?_) (fun H => ?_)
  ·
   refine AtC.skip ?_
   refine AtE.then_n (AtE.go ?_)
   refine AtC.seq ?_
   refine AtC.block ?_
   refine AtC.seqR ?_
   obtain ⟨a_, hc1, hd1, H⟩ := H
   refine AtL.q rfl (Quiet1.idxS (s := _) hT rfl rfl rfl rfl rfl hc1 hd1) ?_
   obtain ⟨v, hc2, H⟩ := H
   refine AtL.q rfl (Quiet1.load hT rfl rfl rfl hc2) ?_
   refine AtL.pures hT 1 _ _ _ _ rfl ?_
   refine AtL.nil ?_
   refine AtE.then_n (AtE.go ?_)
   refine AtC.region ?_
   refine AtL.pures hT 2 _ _ _ _ rfl ?_
   obtain ⟨a_1, hc3, H⟩ := H
   refine AtL.q rfl (Quiet1.nilChk rfl rfl hc3) ?_
   refine AtL.pures hT 1 _ _ _ _ rfl ?_
   obtain ⟨v_1, hc4, H⟩ := H
   refine AtL.q rfl (Quiet1.load hT rfl rfl rfl hc4) ?_
   refine AtL.pures hT 1 _ _ _ _ rfl ?_
   obtain ⟨a_2_, hc5, hd5, H⟩ := H
   refine AtL.q rfl (Quiet1.idxS (s := _) hT rfl rfl rfl rfl rfl hc5 hd5) ?_
   obtain ⟨v_2, hc6, H⟩ := H
   refine AtL.q rfl (Quiet1.loadS hT rfl rfl rfl rfl hc6) ?_
   refine AtLX.bs (hT := hT) (cs := [_, _, _, _]) H rfl rfl rfl rfl rfl rfl rfl rfl rfl (fun a_3 h0u2 H => ?_)
   refine AtL.e rfl (EffX.appendS (s := _) (u := _) hT rfl rfl rfl rfl rfl rfl rfl rfl rfl rfl (by decide) H) ?_
   rintro _ _ ⟨v_4, h0u3, rfl, rfl, H⟩
   refine AtL.pures hT 1 _ _ _ _ rfl ?_
   refine AtL.nil ?_
   refine AtE.blk_n ?_
   refine AtE.then_n (AtE.go ?_)
   refine AtC.region ?_
   refine AtL.pures hT 2 _ _ _ _ rfl ?_
   refine AtL.nil ?_
   exact AtE.then_n ((HK1 _ _ H).pickP (ts := [4, 10, 0, 8, 9]) (is := []) rfl rfl (by decide) rfl)
  ·
   refine AtC.exit ?_
   refine AtE.then_x ?_
   refine AtE.then_x ?_
   refine AtE.blk_hit ?_
   refine AtE.then_n (AtE.go ?_)
   refine AtC.seqR ?_
   refine AtL.pures hT 2 _ _ _ _ rfl ?_
   refine AtL.nil ?_
   refine AtE.then_n (AtE.go ?_)
   refine AtC.ret ?_
   exact AtE.retN (rs := [.tmp 4]) rfl (ResAll.cons (ResAt.tmp rfl) ResAll.nil) rfl H
theorem lift_ratio_Neg (x0 : Bool × Sl × Sl) (w : World) (m : Heap) (hr : Rel ⟨m, []⟩ w.heap) (S : (Bool × Sl × Sl) → Heap → Prop) (H : ratio_Neg x0 m S) :
    Calls Tryz.prog 115 #[Value.agg (C_bool_sl_sl x0).toArray] w (Post ⟨w, m⟩ (fun r => Value.agg (C_bool_sl_sl r).toArray) S) := by
  refine Calls.lift (args := [Value.agg (C_bool_sl_sl x0).toArray]) Tryz.func115 rfl Tryz.ntmps115 (Nat.le_of_ble_eq_true rfl) hr (ratio_Neg x0 m S) H (fun H => ?_)
  refine AtC.pick (ts := [0]) rfl ?_
  unfold ratio_Neg at H
  refine AtC.seqR ?_
  refine AtL.e rfl (EffX.boxP (cs := [_, _, _]) rfl rfl rfl H) ?_
  rintro _ _ ⟨b, _, rfl, rfl, _, H⟩
  refine AtL.e rfl (EffX.allocP (cs := [_, _, _]) hT rfl rfl H) ?_
  rintro _ _ ⟨b_1, _, rfl, rfl, _, H⟩
  refine AtL.nil ?_
  replace H := H.self
  refine AtE.then_n (AtE.go ?_)
  refine AtC.joinSeq (β := Unit) (fun (t0 : Bool) (bb : Unit) => [(3, Value.bool t0)]) (fun (t0 : Bool) (bb : Unit) => []) [1, 2] [0, 1] H (by exact rfl) (by exact rfl) (fun t0 bb h0u1 H => ?_) (fun J1 H HK1 => ?_)
  ·
   apply AtC.seqS [4, 8, 10] [[], [], [], [], [], [4], [], [], [4], [4, 8], [4, 8]] [[], [], [1], [1, 2], [1, 2, 3], [0, 1, 2, 3, 4], [], [6], [1, 2, 3, 4, 6, 7], [0, 1, 2, 3, 4, 5, 6, 7, 8], [0, 1, 2, 3, 4, 5, 6, 7, 8, 9]] hmix (by kernel_rfl) [(15, _), (16, _), (17, _), (18, _), (21, _), (22, _)] rfl 3 rfl
   refine Stg.go [0, 1, 2, 3, 6, 7] [4] rfl rfl (QAll.cons (QOp.p hT rfl rfl rfl rfl rfl) (QAll.cons (QOp.p hT rfl rfl rfl rfl rfl) (QAll.cons (QOp.p hT rfl rfl rfl rfl rfl) (QAll.cons (QOp.q rfl rfl (Quiet1.loadP (i := 1) hT rfl rfl rfl rfl rfl rfl) rfl rfl) (QAll.cons (QOp.p hT rfl rfl rfl rfl rfl) (QAll.cons (QOp.q rfl rfl (Quiet1.loadP (i := 1) hT rfl rfl rfl rfl rfl rfl) rfl rfl) QAll.nil)))))) ?_
   refine EAll.cons ?_ EAll.nil
   refine EOp.e rfl rfl rfl (EffX.call (f := 153) (sh := fun h => slices_Clone_api_Nat_uint32 _ h _) (H0 := H) rfl Tryz.call153 rfl (hl := fun w m hr hw => lift_slices_Clone_api_Nat_uint32 _ w m hr _ hw)) ?_
   rintro _ _ ⟨v, h0u2, rfl, rfl, H⟩
   apply Stg.next [(19, _), (20, _)] rfl rfl
   refine Stg.go [0, 5, 6, 7] [8] rfl rfl (QAll.cons (QOp.p hT rfl rfl rfl rfl rfl) (QAll.cons (QOp.q rfl rfl (Quiet1.build (cs := [_, _]) hT rfl rfl rfl rfl rfl rfl) rfl rfl) (QAll.cons (QOp.p hT rfl rfl rfl rfl rfl) (QAll.cons (QOp.q rfl rfl (Quiet1.loadP (i := 1) hT rfl rfl rfl rfl rfl rfl) rfl rfl) QAll.nil)))) ?_
   refine EAll.cons ?_ EAll.nil
   refine EOp.e rfl rfl rfl (EffX.call (f := 153) (sh := fun h => slices_Clone_api_Nat_uint32 _ h _) (H0 := H) rfl Tryz.call153 rfl (hl := fun w m hr hw => lift_slices_Clone_api_Nat_uint32 _ w m hr _ hw)) ?_
   rintro _ _ ⟨v_1, h0u3, rfl, rfl, H⟩
   apply Stg.next [(23, _), (24, _)] rfl rfl
   refine Stg.go [0, 5, 9] [10] rfl rfl (QAll.cons (QOp.p hT rfl rfl rfl rfl rfl) (QAll.cons (QOp.q rfl rfl (Quiet1.build (cs := [_, _]) hT rfl rfl rfl rfl rfl rfl) rfl rfl) (QAll.cons (QOp.q rfl rfl (Quiet1.build (cs := [_, _, _]) hT rfl rfl rfl rfl rfl rfl) rfl rfl) QAll.nil))) ?_
   refine EAll.cons ?_ EAll.nil
   refine EOp.e rfl rfl rfl (EffX.storeSP (i := 0) (qv := [(_, [_, _, _]), (_, [_, _, _])]) hT rfl rfl rfl rfl rfl rfl rfl rfl rfl rfl) ?_
   rintro _ _ rfl
   apply Stg.next [] rfl rfl
   refine Stg.fin [] rfl rfl QAll.nil ?_
   refine AtE.then_n (AtE.go ?_)
   refine AtC.ret ?_
   exact AtE.retN (rs := [.cell 2 43]) rfl (ResAll.cons (ResAt.cellSP (i := 0) (l := [_, _, _]) hT rfl rfl rfl rfl rfl rfl rfl) ResAll.nil) rfl H
  ·
   refine AtC.region ?_
   refine AtL.pures hT 2 _ _ _ _ rfl ?_
   refine AtL.q rfl (Quiet1.loadP (i := 1) hT rfl rfl rfl rfl rfl rfl) ?_
   refine AtL.pures hT 2 _ _ _ _ rfl ?_
   refine AtL.splitB (t := 8) H rfl (fun H => ?_) (fun H => ?_)
   ·
    refine AtL.yes rfl rfl rfl ?_
    refine AtL.pures hT 1 _ _ _ _ rfl ?_
    refine AtL.yes rfl rfl rfl ?_
    refine AtL.pures hT 1 _ _ _ _ rfl ?_
    refine AtL.yes rfl rfl rfl ?_
    refine AtL.q rfl (Quiet1.loadP (i := 1) hT rfl rfl rfl rfl rfl rfl) ?_
    refine AtL.yes rfl rfl rfl ?_
    refine AtL.pures hT 1 _ _ _ _ rfl ?_
    refine AtL.yes rfl rfl rfl ?_
    refine AtL.pures hT 1 _ _ _ _ rfl ?_
    refine AtL.pures hT 2 _ _ _ _ rfl ?_
    replace H := H _ rfl
    refine AtL.nil ?_
    exact AtE.then_n ((HK1 _ () _ H).pickP (ts := [3, 1, 2]) (is := [0, 1]) rfl rfl (by decide) rfl)
   ·
    refine AtL.noF rfl rfl rfl (by decide) rfl ?_
    refine AtL.noF rfl rfl rfl (by decide) rfl ?_
    refine AtL.noF rfl rfl rfl (by decide) rfl ?_
    refine AtL.noF rfl rfl rfl (by decide) rfl ?_
    refine AtL.noF rfl rfl rfl (by decide) rfl ?_
    refine AtL.pures hT 2 _ _ _ _ rfl ?_
    refine AtL.nil ?_
    exact AtE.then_n ((HK1 _ () _ H).pickP (ts := [3, 1, 2]) (is := [0, 1]) rfl rfl (by decide) rfl)
theorem lift_nat_Bench_Mul (b : (Option Addr)) (x0 : Sl) (y : Sl) (w : World) (m : Heap) (hr : Rel ⟨m, []⟩ w.heap) (S : Sl → Heap → Prop) (H : nat_Bench_Mul b x0 y m S) :
    Calls Tryz.prog 120 #[Value.pointer b, Sl.toV x0, Sl.toV y] w (Post ⟨w, m⟩ Sl.toV S) := by
  refine Calls.lift (args := [Value.pointer b, Sl.toV x0, Sl.toV y]) Tryz.func120 rfl Tryz.ntmps120 (Nat.le_of_ble_eq_true rfl) hr (nat_Bench_Mul b x0 y m S) H (fun H => ?_)
  refine AtC.pick (ts := [0, 1, 2]) rfl ?_
  unfold nat_Bench_Mul at H
  refine AtC.seqR ?_
  refine AtL.pures hT 1 _ _ _ _ rfl ?_
  refine AtL.nil ?_
  refine AtE.then_n (AtE.go ?_)
  refine AtC.seqR ?_
  refine AtL.pures hT 2 _ _ _ _ rfl ?_
  refine AtL.e rfl (EffX.call (f := 140) (sh := fun h => nat_trim _ h _) (H0 := H) rfl Tryz.call140 rfl (hl := fun w m hr hw => lift_nat_trim _ w m hr _ hw)) ?_
  rintro _ _ ⟨v, h0, rfl, rfl, H⟩
  refine AtL.pures hT 1 _ _ _ _ rfl ?_
  refine AtL.e rfl (EffX.call (f := 140) (sh := fun h => nat_trim _ h _) (H0 := H) rfl Tryz.call140 rfl (hl := fun w m hr hw => lift_nat_trim _ w m hr _ hw)) ?_
  rintro _ _ ⟨v_1, h0u1, rfl, rfl, H⟩
  refine AtL.e rfl (EffX.call (f := 155) (sh := fun h => nat_times _ _ h _) (H0 := H) rfl Tryz.call155 rfl (hl := fun w m hr hw => lift_nat_times _ _ w m hr _ hw)) ?_
  rintro _ _ ⟨v_2, h0u2, rfl, rfl, H⟩
  refine AtL.e rfl (EffX.call (f := 154) (sh := fun h => nat_Bench_fit _ _ h _) (H0 := H) rfl Tryz.call154 rfl (hl := fun w m hr hw => lift_nat_Bench_fit _ _ w m hr _ hw)) ?_
  rintro _ _ ⟨v_3, h0u3, rfl, rfl, H⟩
  refine AtL.pures hT 1 _ _ _ _ rfl ?_
  refine AtL.nil ?_
  refine AtE.then_n (AtE.go ?_)
  refine AtC.ret ?_
  exact AtE.retN (rs := [.tmp 6]) rfl (ResAll.cons (ResAt.tmp rfl) ResAll.nil) rfl H
theorem lift_nat_plus (x0 : Sl) (y : Sl) (w : World) (m : Heap) (hr : Rel ⟨m, []⟩ w.heap) (S : Sl → Heap → Prop) (H : nat_plus x0 y m S) :
    Calls Tryz.prog 177 #[Sl.toV x0, Sl.toV y] w (Post ⟨w, m⟩ Sl.toV S) := by
  refine Calls.lift (args := [Sl.toV x0, Sl.toV y]) Tryz.func177 rfl Tryz.ntmps177 (Nat.le_of_ble_eq_true rfl) hr (nat_plus x0 y m S) H (fun H => ?_)
  refine AtC.pick (ts := [0, 1]) rfl ?_
  unfold nat_plus at H
  refine AtC.seqR ?_
  refine AtL.pures hT 1 _ _ _ _ rfl ?_
  refine AtL.nil ?_
  refine AtE.then_n (AtE.go ?_)
  refine AtC.seqR ?_
  refine AtL.pures hT 1 _ _ _ _ rfl ?_
  refine AtL.nil ?_
  refine AtE.then_n (AtE.go ?_)
  refine AtC.seq ?_
  refine AtC.seqR ?_
  refine AtL.pures hT 6 _ _ _ _ rfl ?_
  refine AtL.nil ?_
  refine AtE.then_n (AtE.go ?_)
  refine AtC.block ?_
  refine AtC.loopM (fun (s0 : Sl × Int × Int) => [(4, Sl.toV s0.1), (5, Value.int .u64 s0.2.1), (14, Value.int .i64 s0.2.2)]) (fun (s0 : Sl × Int × Int) => []) [0, 1, 13] [4, 5, 14, 0, 1, 13] [] [] H (by exact rfl) (by exact rfl) (by exact rfl) (by decide) (by exact rfl) (fun Kp1 s0 h0 H Q1 HK1 => ?_)
  refine AtC.seqR ?_
  refine AtL.pures hT 1 _ _ _ _ rfl ?_
  refine AtL.nil ?_
  refine AtE.then_n (AtE.go ?_)
  refine AtC.seq ?_
  refine AtC.condB H rfl (fun H => ?_) (fun H => ?_)
  ·
   refine AtC.skip ?_
   refine AtE.then_n (AtE.go ?_)
   refine AtC.seq ?_
   refine AtC.block ?_
   refine AtC.seqR ?_
   refine AtL.pures hT 2 _ _ _ _ rfl ?_
   refine AtL.nil ?_
   refine AtE.then_n (AtE.go ?_)
   refine AtC.seq ?_
   refine AtC.seqR ?_
   refine AtL.pures hT 2 _ _ _ _ rfl ?_
   refine AtL.q rfl (Quiet1.buildA (cs := [_, _]) hT rfl rfl rfl rfl rfl rfl) ?_
   refine AtL.pures hT 1 _ _ _ _ rfl ?_
   refine AtL.nil ?_
   refine AtE.then_n (AtE.go ?_)
   refine AtC.block ?_
   refine AtC.loopM (fun (s0u1 : Int × Int) => [(5, Value.int .u64 s0u1.1), (20, Value.int .i64 s0u1.2)]) (fun (s0u1 : Int × Int) => []) [0, 1, 4, 6, 13, 14, 19] [5, 20, 0, 1, 4, 6, 13, 14, 19] [] [] H (by exact rfl) (by exact rfl) (by exact rfl) (by decide) (by exact rfl) (fun Kp2 s0u1 h0u1 H Q2 HK2 => ?_)
   refine AtC.seqR ?_
   refine AtL.pures hT 1 _ _ _ _ rfl ?_
   refine AtL.nil ?_
   refine AtE.then_n (AtE.go ?_)
   refine AtC.seq ?_
   refine AtC.condB H rfl (fun H => ?_) (fun H => ?_)
   ·
    refine AtC.skip ?_
    refine AtE.then_n (AtE.go ?_)
    refine AtC.joinSeq (β := Unit) (fun (t0 : Int) (bb : Unit) => [(5, Value.int .u64 t0)]) (fun (t0 : Int) (bb : Unit) => []) [0, 1, 4, 6, 13, 14, 19, 20] [] H (by exact rfl) (by exact rfl) (fun t0 bb h0u2 H => ?_) (fun J3 H HK3 => ?_)
    ·
     refine AtC.region ?_
     refine AtL.pures hT 2 _ _ _ _ rfl ?_
     refine AtL.nil ?_
     exact AtE.then_n ((HK2 _ _ H).pickP (ts := [5, 20, 0, 1, 4, 6, 13, 14, 19]) (is := []) rfl rfl (by decide) rfl)
    ·
     refine AtC.block ?_
     refine AtC.seqR ?_
     obtain ⟨hd3, v, hc3, H⟩ := H
     refine AtL.q rfl (Quiet1.idxV hT rfl rfl rfl rfl rfl rfl hd3 hc3) ?_
     refine AtL.pures hT 1 _ _ _ _ rfl ?_
     refine AtL.nil ?_
     refine AtE.then_n (AtE.go ?_)
     refine AtC.seqR ?_
     refine AtL.pures hT 4 _ _ _ _ rfl ?_
     refine AtL.nil ?_
     refine AtE.then_n (AtE.go ?_)
     refine AtC.condB H rfl (fun H => ?_) (fun H => ?_)
     ·
      refine AtC.region ?_
      refine AtL.pures hT 3 _ _ _ _ rfl ?_
      obtain ⟨a_, hc4, hd4, H⟩ := H
      refine AtL.q rfl (Quiet1.idxS (s := _) hT rfl rfl rfl rfl rfl hc4 hd4) ?_
      obtain ⟨v_1, hc5, H⟩ := H
      refine AtL.q rfl (Quiet1.load hT rfl rfl rfl hc5) ?_
      refine AtL.pures hT 3 _ _ _ _ rfl ?_
      replace H := H _ rfl
      refine AtL.nil ?_
      refine AtE.blk_n ?_
      exact AtE.then_n ((HK3 _ () _ H).pickP (ts := [5, 0, 1, 4, 6, 13, 14, 19, 20]) (is := []) rfl rfl (by decide) rfl)
     ·
      refine AtC.skip ?_
      refine AtE.blk_n ?_
      exact AtE.then_n ((HK3 _ () _ H).pickP (ts := [5, 0, 1, 4, 6, 13, 14, 19, 20]) (is := []) rfl rfl (by decide) rfl)
   ·
    refine AtC.exit ?_
    refine AtE.then_x ?_
    refine AtE.then_x ?_
    refine AtE.blk_hit ?_
    refine AtE.then_n (AtE.go ?_)
    refine AtC.seqR ?_
    refine AtL.pures hT 3 _ _ _ _ rfl ?_
    refine AtLX.bs (hT := hT) (cs := [_]) H rfl rfl rfl rfl rfl rfl rfl rfl rfl (fun a_1 h0u3 H => ?_)
    refine AtL.e rfl (EffX.appendS (s := _) (u := _) hT rfl rfl rfl rfl rfl rfl rfl rfl rfl rfl (by decide) H) ?_
    rintro _ _ ⟨v_3, h0u4, rfl, rfl, H⟩
    refine AtL.pures hT 1 _ _ _ _ rfl ?_
    refine AtL.nil ?_
    refine AtE.then_n (AtE.go ?_)
    refine AtC.region ?_
    refine AtL.pures hT 3 _ _ _ _ rfl ?_
    replace H := H _ rfl
    refine AtL.nil ?_
    refine AtE.blk_n ?_
    refine AtE.then_n (AtE.go ?_)
    refine AtC.region ?_
    refine AtL.pures hT 2 _ _ _ _ rfl ?_
    refine AtL.nil ?_
    exact AtE.then_n ((HK1 _ _ H).pickP (ts := [4, 5, 14, 0, 1, 13]) (is := []) rfl rfl (by decide) rfl)
  ·
   refine AtC.exit ?_
   refine AtE.then_x ?_
   refine AtE.then_x ?_
   refine AtE.blk_hit ?_
   refine AtE.then_n (AtE.go ?_)
   refine AtC.seqR ?_
   refine AtL.pures hT 3 _ _ _ _ rfl ?_
   refine AtLX.bs (hT := hT) (cs := [_]) H rfl rfl rfl rfl rfl rfl rfl rfl rfl (fun a_2 h0u5 H => ?_)
   refine AtL.e rfl (EffX.appendS (s := _) (u := _) hT rfl rfl rfl rfl rfl rfl rfl rfl rfl rfl (by decide) H) ?_
   rintro _ _ ⟨v_5, h0u6, rfl, rfl, H⟩
   refine AtL.pures hT 1 _ _ _ _ rfl ?_
   refine AtL.nil ?_
   refine AtE.then_n (AtE.go ?_)
   refine AtC.ret ?_
   exact AtE.retN (rs := [.tmp 4]) rfl (ResAll.cons (ResAt.tmp rfl) ResAll.nil) rfl H
theorem lift_nat_bit (x0 : Sl) (at0 : Int) (w : World) (m : Heap) (hr : Rel ⟨m, []⟩ w.heap) (S : Int → Heap → Prop) (H : nat_bit x0 at0 m S) :
    Calls Tryz.prog 192 #[Sl.toV x0, Value.int .i64 at0] w (Post ⟨w, m⟩ (Value.int .u32) S) := by
  refine Calls.lift (args := [Sl.toV x0, Value.int .i64 at0]) Tryz.func192 rfl Tryz.ntmps192 (Nat.le_of_ble_eq_true rfl) hr (nat_bit x0 at0 m S) H (fun H => ?_)
  refine AtC.pick (ts := [0, 1]) rfl ?_
  unfold nat_bit at H
  refine AtC.seqR ?_
  refine AtL.pures hT 1 _ _ _ _ rfl ?_
  refine AtL.nil ?_
  refine AtE.then_n (AtE.go ?_)
  refine AtC.seqR ?_
  refine AtL.pures hT 3 _ _ _ _ rfl ?_
  obtain ⟨a_, hc0, hd0, H⟩ := H
  refine AtL.q rfl (Quiet1.idxS (s := _) hT rfl rfl rfl rfl rfl hc0 hd0) ?_
  obtain ⟨v, hc1, H⟩ := H
  refine AtL.q rfl (Quiet1.load hT rfl rfl rfl hc1) ?_
  refine AtL.pures hT 2 _ _ _ _ rfl ?_
  obtain ⟨hd2, H⟩ := H
  refine AtL.q rfl (Quiet1.shr rfl rfl rfl hd2) ?_
  refine AtL.pures hT 2 _ _ _ _ rfl ?_
  refine AtL.nil ?_
  refine AtE.then_n (AtE.go ?_)
  refine AtC.ret ?_
  exact AtE.retN (rs := [.tmp 4]) rfl (ResAll.cons (ResAt.tmp rfl) ResAll.nil) rfl H
theorem lift_nat_divide (x0 : Sl) (y : Sl) (w : World) (m : Heap) (hr : Rel ⟨m, []⟩ w.heap) (S : (Sl × Sl) → Heap → Prop) (H : nat_divide x0 y m S) :
    Calls Tryz.prog 178 #[Sl.toV x0, Sl.toV y] w (Post ⟨w, m⟩ (fun r => Value.tuple #[Sl.toV r.1, Sl.toV r.2]) S) := by
  refine Calls.lift (args := [Sl.toV x0, Sl.toV y]) Tryz.func178 rfl Tryz.ntmps178 (Nat.le_of_ble_eq_true rfl) hr (nat_divide x0 y m S) H (fun H => ?_)
  refine AtC.pick (ts := [0, 1]) rfl ?_
  unfold nat_divide at H
  refine AtC.seqR ?_
  refine AtL.pures hT 2 _ _ _ _ rfl ?_
  refine AtL.nil ?_
  refine AtE.then_n (AtE.go ?_)
  refine AtC.seqR ?_
  refine AtL.pures hT 1 _ _ _ _ rfl ?_
  refine AtL.e rfl (EffX.call (f := 179) (sh := fun h => nat_small _ h _) (H0 := H) rfl Tryz.call179 rfl (hl := fun w m hr hw => lift_nat_small _ w m hr _ hw)) ?_
  rintro _ _ ⟨v, h0, rfl, rfl, H⟩
  refine AtL.pures hT 5 _ _ _ _ rfl ?_
  refine AtL.nil ?_
  refine AtE.then_n (AtE.go ?_)
  refine AtC.seqR ?_
  refine AtL.pures hT 1 _ _ _ _ rfl ?_
  refine AtL.e rfl (EffX.call (f := 179) (sh := fun h => nat_small _ h _) (H0 := H) rfl Tryz.call179 rfl (hl := fun w m hr hw => lift_nat_small _ w m hr _ hw)) ?_
  rintro _ _ ⟨v_1, h0u1, rfl, rfl, H⟩
  refine AtL.pures hT 5 _ _ _ _ rfl ?_
  refine AtL.nil ?_
  refine AtE.then_n (AtE.go ?_)
  refine AtC.seq ?_
  refine AtC.joinSeq (β := Unit) (fun (t0 : Bool) (bb : Unit) => [(24, Value.bool t0)]) (fun (t0 : Bool) (bb : Unit) => []) [0, 1, 5, 6, 8] [] H (by exact rfl) (by exact rfl) (fun t0 bb h0u2 H => ?_) (fun J1 H HK1 => ?_)
  ·
   refine AtC.condB H rfl (fun H => ?_) (fun H => ?_)
   ·
    obtain ⟨hd1, H⟩ := H
    obtain ⟨hd2, H⟩ := H
    apply AtC.seqS [3, 7] [[], [], [], [], [], [], [], [3], [3, 7], [3, 7]] [[], [], [0, 1], [0, 1, 2], [], [], [4, 5], [0, 1, 2, 3, 4, 5, 6], [0, 1, 2, 3, 4, 5, 6, 7], [0, 1, 2, 3, 4, 5, 6, 7, 8]] hmix (by kernel_rfl) [(25, _), (26, _), (27, _), (29, _), (30, _), (31, _)] rfl 2 rfl
    refine Stg.go [0, 1, 2, 4, 5, 6] [3] rfl rfl (QAll.cons (QOp.p hT rfl rfl rfl rfl rfl) (QAll.cons (QOp.p hT rfl rfl rfl rfl rfl) (QAll.cons (QOp.q rfl rfl (Quiet1.quo rfl rfl rfl hd1) rfl rfl) (QAll.cons (QOp.p hT rfl rfl rfl rfl rfl) (QAll.cons (QOp.p hT rfl rfl rfl rfl rfl) (QAll.cons (QOp.q rfl rfl (Quiet1.rem rfl rfl rfl hd2) rfl rfl) QAll.nil)))))) ?_
    refine EAll.cons ?_ EAll.nil
    refine EOp.e rfl rfl rfl (EffX.call (f := 91) (sh := fun h => nat_Of _ h _) (H0 := H) rfl Tryz.call91 rfl (hl := fun w m hr hw => lift_nat_Of _ w m hr _ hw)) ?_
    rintro _ _ ⟨v_2, h0u3, rfl, rfl, H⟩
    apply Stg.next [(28, _)] rfl rfl
    refine Stg.go [4, 5, 6] [7] rfl rfl (QAll.cons (QOp.p hT rfl rfl rfl rfl rfl) (QAll.cons (QOp.p hT rfl rfl rfl rfl rfl) (QAll.cons (QOp.q rfl rfl (Quiet1.rem rfl rfl rfl hd2) rfl rfl) QAll.nil))) ?_
    refine EAll.cons ?_ EAll.nil
    refine EOp.e rfl rfl rfl (EffX.call (f := 91) (sh := fun h => nat_Of _ h _) (H0 := H) rfl Tryz.call91 rfl (hl := fun w m hr hw => lift_nat_Of _ w m hr _ hw)) ?_
    rintro _ _ ⟨v_3, h0u4, rfl, rfl, H⟩
    apply Stg.next [(32, _), (4, _), (5, _)] rfl rfl
    refine Stg.fin [8, 9] rfl rfl (QAll.cons (QOp.p hT rfl rfl rfl rfl rfl) (QAll.cons (QOp.p hT rfl rfl rfl rfl rfl) QAll.nil)) ?_
    refine AtE.then_n (AtE.go ?_)
    refine AtC.ret ?_
    refine AtE.then_r ?_
    exact AtE.retN (rs := [.tmp 4, .tmp 5]) rfl (ResAll.cons (ResAt.tmp rfl) (ResAll.cons (ResAt.tmp rfl) ResAll.nil)) rfl H
   ·
    refine AtC.skip ?_
    refine AtE.then_n (AtE.go ?_)
    refine AtC.seqR ?_
    refine AtL.pures hT 1 _ _ _ _ rfl ?_
    refine AtL.e rfl (EffX.call (f := 140) (sh := fun h => nat_trim _ h _) (H0 := H) rfl Tryz.call140 rfl (hl := fun w m hr hw => lift_nat_trim _ w m hr _ hw)) ?_
    rintro _ _ ⟨v_4, h0u5, rfl, rfl, H⟩
    refine AtL.pures hT 1 _ _ _ _ rfl ?_
    refine AtL.e rfl (EffX.call (f := 140) (sh := fun h => nat_trim _ h _) (H0 := H) rfl Tryz.call140 rfl (hl := fun w m hr hw => lift_nat_trim _ w m hr _ hw)) ?_
    rintro _ _ ⟨v_5, h0u6, rfl, rfl, H⟩
    refine AtL.pures hT 2 _ _ _ _ rfl ?_
    refine AtL.nil ?_
    refine AtE.then_n (AtE.go ?_)
    refine AtC.seqR ?_
    refine AtL.pures hT 2 _ _ _ _ rfl ?_
    replace H := H _ rfl
    refine AtL.e rfl (EffX.mkS hT rfl rfl rfl rfl rfl rfl rfl rfl (by decide) H) ?_
    rintro _ _ ⟨v_6, h0u7, rfl, rfl, H⟩
    refine AtL.pures hT 1 _ _ _ _ rfl ?_
    refine AtL.nil ?_
    refine AtE.then_n (AtE.go ?_)
    refine AtC.seq ?_
    refine AtC.seqR ?_
    refine AtL.pures hT 5 _ _ _ _ rfl ?_
    replace H := H _ rfl
    refine AtL.nil ?_
    refine AtE.then_n (AtE.go ?_)
    refine AtC.block ?_
    refine AtC.loopM (fun (s0 : Sl × Int) => [(5, Sl.toV s0.1), (10, Value.int .i64 s0.2)]) (fun (s0 : Sl × Int) => []) [0, 1, 4] [5, 10, 0, 1, 4] [] [] H (by exact rfl) (by exact rfl) (by exact rfl) (by decide) (by exact rfl) (fun Kp4 s0 h0u8 H Q4 HK4 => ?_)
    refine AtC.seq ?_
    refine AtC.seqR ?_
    refine AtL.pures hT 2 _ _ _ _ rfl ?_
    refine AtL.nil ?_
    refine AtE.then_n (AtE.go ?_)
    refine AtC.condB H rfl (fun H => ?_) (fun H => ?_)
    ·
     refine AtC.skip ?_
     refine AtE.then_n (AtE.go ?_)
     refine AtC.joinSeq (β := Unit) (fun (t0u1 : Sl) (bb_1 : Unit) => [(5, Sl.toV t0u1)]) (fun (t0u1 : Sl) (bb_1 : Unit) => []) [0, 1, 4, 10] [] H (by exact rfl) (by exact rfl) (fun t0u1 bb_1 h0u9 H => ?_) (fun J5 H HK5 => ?_)
     ·
      refine AtC.region ?_
      refine AtL.pures hT 3 _ _ _ _ rfl ?_
      replace H := H _ rfl
      refine AtL.nil ?_
      exact AtE.then_n ((HK4 _ _ H).pickP (ts := [5, 10, 0, 1, 4]) (is := []) rfl rfl (by decide) rfl)
     ·
      refine AtC.block ?_
      refine AtC.seqR ?_
      refine AtL.pures hT 2 _ _ _ _ rfl ?_
      refine AtL.e rfl (EffX.call (f := 177) (sh := fun h => nat_plus _ _ h _) (H0 := H) rfl Tryz.call177 rfl (hl := fun w m hr hw => lift_nat_plus _ _ w m hr _ hw)) ?_
      rintro _ _ ⟨v_7, h0u10, rfl, rfl, H⟩
      refine AtL.pures hT 1 _ _ _ _ rfl ?_
      refine AtL.nil ?_
      refine AtE.then_n (AtE.go ?_)
      obtain ⟨a_, hc5, hd5, H⟩ := H
      obtain ⟨v_8, hc6, H⟩ := H
      apply AtC.seqS [5, 8] [[], [], [], [], [], [], [5], [5], [5]] [[], [0], [0, 1], [], [], [3, 4], [0, 1, 2, 3, 4, 5], [0, 1, 2, 3, 4, 5, 6], [0, 1, 2, 3, 4, 5, 6, 7]] hmix (by kernel_rfl) [(51, _), (52, _), (53, _), (54, _), (55, _)] rfl 2 rfl
      refine Stg.go [0, 1, 2, 3, 4] [5] rfl rfl (QAll.cons (QOp.p hT rfl rfl rfl rfl rfl) (QAll.cons (QOp.q rfl rfl (Quiet1.idxS (s := _) hT rfl rfl rfl rfl rfl hc5 hd5) rfl rfl) (QAll.cons (QOp.q rfl rfl (Quiet1.load hT rfl rfl rfl hc6) rfl rfl) (QAll.cons (QOp.p hT rfl rfl rfl rfl rfl) (QAll.cons (QOp.p hT rfl rfl rfl rfl rfl) QAll.nil))))) ?_
      refine EAll.cons ?_ EAll.nil
      refine EOp.e rfl rfl rfl (EffX.call (f := 192) (sh := fun h => nat_bit _ _ h _) (H0 := H) rfl Tryz.call192 rfl (hl := fun w m hr hw => lift_nat_bit _ _ w m hr _ hw)) ?_
      rintro _ _ ⟨v_9, h0u11, rfl, rfl, H⟩
      obtain ⟨hc7, H⟩ := H
      obtain ⟨a_1_, hc8, hd8, H⟩ := H
      apply Stg.next [(56, _), (57, _), (58, _)] rfl rfl
      refine Stg.go [0, 1, 2, 6, 7] [8] rfl rfl (QAll.cons (QOp.p hT rfl rfl rfl rfl rfl) (QAll.cons (QOp.q rfl rfl (Quiet1.idxS (s := _) hT rfl rfl rfl rfl rfl hc5 hd5) rfl rfl) (QAll.cons (QOp.q rfl rfl (Quiet1.load hT rfl rfl rfl hc7) rfl rfl) (QAll.cons (QOp.p hT rfl rfl rfl rfl rfl) (QAll.cons (QOp.q rfl rfl (Quiet1.idxS (s := _) hT rfl rfl rfl rfl rfl hc8 hd8) rfl rfl) QAll.nil))))) ?_
      refine EAll.cons ?_ EAll.nil
      refine EOp.e rfl rfl rfl (EffX.store hT rfl rfl rfl rfl rfl H) ?_
      rintro _ _ ⟨h0u12, rfl, H⟩
      apply Stg.next [] rfl rfl
      refine Stg.fin [] rfl rfl QAll.nil ?_
      refine AtE.then_n (AtE.go ?_)
      refine AtC.seqR ?_
      refine AtL.pures hT 1 _ _ _ _ rfl ?_
      refine AtL.e rfl (EffX.call (f := 140) (sh := fun h => nat_trim _ h _) (H0 := H) rfl Tryz.call140 rfl (hl := fun w m hr hw => lift_nat_trim _ w m hr _ hw)) ?_
      rintro _ _ ⟨v_10, h0u13, rfl, rfl, H⟩
      refine AtL.pures hT 1 _ _ _ _ rfl ?_
      refine AtL.nil ?_
      refine AtE.then_n (AtE.go ?_)
      refine AtC.seqR ?_
      refine AtL.pures hT 2 _ _ _ _ rfl ?_
      refine AtL.e rfl (EffX.call (f := 167) (sh := fun h => nat_Cmp _ _ h _) (H0 := H) rfl Tryz.call167 rfl (hl := fun w m hr hw => lift_nat_Cmp _ _ w m hr _ hw)) ?_
      rintro _ _ ⟨v_11, h0u14, rfl, rfl, H⟩
      refine AtL.pures hT 1 _ _ _ _ rfl ?_
      refine AtL.nil ?_
      refine AtE.then_n (AtE.go ?_)
      refine AtC.condB H rfl (fun H => ?_) (fun H => ?_)
      ·
       refine AtC.seqR ?_
       refine AtL.pures hT 2 _ _ _ _ rfl ?_
       refine AtL.e rfl (EffX.call (f := 181) (sh := fun h => nat_minus _ _ h _) (H0 := H) rfl Tryz.call181 rfl (hl := fun w m hr hw => lift_nat_minus _ _ w m hr _ hw)) ?_
       rintro _ _ ⟨v_12, h0u15, rfl, rfl, H⟩
       refine AtL.pures hT 1 _ _ _ _ rfl ?_
       refine AtL.nil ?_
       refine AtE.then_n (AtE.go ?_)
       obtain ⟨a_2_, hc9, hd9, H⟩ := H
       obtain ⟨v_13, hc10, H⟩ := H
       obtain ⟨hd11, H⟩ := H
       obtain ⟨a_3_, hc12, hd12, H⟩ := H
       apply AtC.stages [10] [[], [], [], [], [], [], [], [], [], [], []] [[], [], [1], [0, 1, 2], [0, 1, 2, 3], [], [5], [5, 6], [0, 1, 2, 3, 4, 5, 6, 7], [0, 1, 2, 3, 4, 5, 6, 7, 8], [0, 1, 2, 3, 4, 5, 6, 7, 8, 9]] hmix (by kernel_rfl) [(68, _), (69, _), (70, _), (71, _), (72, _), (73, _), (74, _), (75, _), (76, _), (77, _)] rfl 1 rfl
       refine Stg.go [0, 1, 2, 3, 4, 5, 6, 7, 8, 9] [10] rfl rfl (QAll.cons (QOp.p hT rfl rfl rfl rfl rfl) (QAll.cons (QOp.p hT rfl rfl rfl rfl rfl) (QAll.cons (QOp.p hT rfl rfl rfl rfl rfl) (QAll.cons (QOp.q rfl rfl (Quiet1.idxS (s := _) hT rfl rfl rfl rfl rfl hc9 hd9) rfl rfl) (QAll.cons (QOp.q rfl rfl (Quiet1.load hT rfl rfl rfl hc10) rfl rfl) (QAll.cons (QOp.p hT rfl rfl rfl rfl rfl) (QAll.cons (QOp.p hT rfl rfl rfl rfl rfl) (QAll.cons (QOp.q rfl rfl (Quiet1.shl rfl rfl rfl hd11) rfl rfl) (QAll.cons (QOp.p hT rfl rfl rfl rfl rfl) (QAll.cons (QOp.q rfl rfl (Quiet1.idxS (s := _) hT rfl rfl rfl rfl rfl hc12 hd12) rfl rfl) QAll.nil)))))))))) ?_
       refine EAll.cons ?_ EAll.nil
       refine EOp.e rfl rfl rfl (EffX.store hT rfl rfl rfl rfl rfl H) ?_
       rintro _ _ ⟨h0u16, rfl, H⟩
       apply Stg.next [] rfl rfl
       refine Stg.fin [] rfl rfl QAll.nil ?_
       refine AtE.blk_n ?_
       exact AtE.then_n ((HK5 _ () _ H).pickP (ts := [5, 0, 1, 4, 10]) (is := []) rfl rfl (by decide) rfl)
      ·
       refine AtC.skip ?_
       refine AtE.blk_n ?_
       exact AtE.then_n ((HK5 _ () _ H).pickP (ts := [5, 0, 1, 4, 10]) (is := []) rfl rfl (by decide) rfl)
    ·
     refine AtC.exit ?_
     refine AtE.then_x ?_
     refine AtE.then_x ?_
     refine AtE.blk_hit ?_
     refine AtE.then_n (AtE.go ?_)
     refine AtC.seqR ?_
     refine AtL.pures hT 1 _ _ _ _ rfl ?_
     refine AtL.e rfl (EffX.call (f := 140) (sh := fun h => nat_trim _ h _) (H0 := H) rfl Tryz.call140 rfl (hl := fun w m hr hw => lift_nat_trim _ w m hr _ hw)) ?_
     rintro _ _ ⟨v_14, h0u17, rfl, rfl, H⟩
     refine AtL.pures hT 3 _ _ _ _ rfl ?_
     refine AtL.nil ?_
     refine AtE.then_n (AtE.go ?_)
     refine AtC.ret ?_
     exact AtE.retN (rs := [.tmp 4, .tmp 5]) rfl (ResAll.cons (ResAt.tmp rfl) (ResAll.cons (ResAt.tmp rfl) ResAll.nil)) rfl H
  ·
   refine AtC.region ?_
   refine AtL.pures hT 2 _ _ _ _ rfl ?_
   refine AtL.splitB (t := 22) H rfl (fun H => ?_) (fun H => ?_)
   ·
    refine AtL.yes rfl rfl rfl ?_
    refine AtL.pures hT 1 _ _ _ _ rfl ?_
    refine AtL.pures hT 1 _ _ _ _ rfl ?_
    refine AtL.nil ?_
    exact AtE.then_n ((HK1 _ () _ H).pickP (ts := [24, 0, 1, 5, 6, 8]) (is := []) rfl rfl (by decide) rfl)
   ·
    refine AtL.noF rfl rfl rfl (by decide) rfl ?_
    refine AtL.pures hT 1 _ _ _ _ rfl ?_
    refine AtL.nil ?_
    exact AtE.then_n ((HK1 _ () _ H).pickP (ts := [24, 0, 1, 5, 6, 8]) (is := []) rfl rfl (by decide) rfl)
theorem lift_nat_Bench_Div (b : (Option Addr)) (x0 : Sl) (y : Sl) (w : World) (m : Heap) (hr : Rel ⟨m, []⟩ w.heap) (S : (Sl × Sl) → Heap → Prop) (H : nat_Bench_Div b x0 y m S) :
    Calls Tryz.prog 157 #[Value.pointer b, Sl.toV x0, Sl.toV y] w (Post ⟨w, m⟩ (fun r => Value.tuple #[Sl.toV r.1, Sl.toV r.2]) S) := by
  refine Calls.lift (args := [Value.pointer b, Sl.toV x0, Sl.toV y]) Tryz.func157 rfl Tryz.ntmps157 (Nat.le_of_ble_eq_true rfl) hr (nat_Bench_Div b x0 y m S) H (fun H => ?_)
  refine AtC.pick (ts := [0, 1, 2]) rfl ?_
  unfold nat_Bench_Div at H
  refine AtC.seqR ?_
  refine AtL.pures hT 2 _ _ _ _ rfl ?_
  refine AtL.nil ?_
  refine AtE.then_n (AtE.go ?_)
  refine AtC.seq ?_
  refine AtC.seqR ?_
  refine AtL.pures hT 1 _ _ _ _ rfl ?_
  refine AtL.e rfl (EffX.call (f := 140) (sh := fun h => nat_trim _ h _) (H0 := H) rfl Tryz.call140 rfl (hl := fun w m hr hw => lift_nat_trim _ w m hr _ hw)) ?_
  rintro _ _ ⟨v, h0, rfl, rfl, H⟩
  refine AtL.pures hT 2 _ _ _ _ rfl ?_
  refine AtL.nil ?_
  refine AtE.then_n (AtE.go ?_)
  refine AtC.condB H rfl (fun H => ?_) (fun H => ?_)
  ·
   refine AtC.seqR ?_
   refine AtL.pures hT 2 _ _ _ _ rfl ?_
   refine AtL.nil ?_
   refine AtE.then_n (AtE.go ?_)
   refine AtC.ret ?_
   refine AtE.then_r ?_
   exact AtE.retN (rs := [.tmp 6, .tmp 7]) rfl (ResAll.cons (ResAt.tmp rfl) (ResAll.cons (ResAt.tmp rfl) ResAll.nil)) rfl H
  ·
   refine AtC.skip ?_
   refine AtE.then_n (AtE.go ?_)
   refine AtC.seqR ?_
   refine AtL.pures hT 2 _ _ _ _ rfl ?_
   refine AtL.e rfl (EffX.call (f := 178) (sh := fun h => nat_divide _ _ h _) (H0 := H) rfl Tryz.call178 rfl (hl := fun w m hr hw => lift_nat_divide _ _ w m hr _ hw)) ?_
   rintro _ _ ⟨v_1, h0u1, rfl, rfl, H⟩
   refine AtL.pures hT 5 _ _ _ _ rfl ?_
   refine AtL.nil ?_
   refine AtE.then_n (AtE.go ?_)
   refine AtC.seqR ?_
   refine AtL.pures hT 2 _ _ _ _ rfl ?_
   refine AtL.e rfl (EffX.call (f := 154) (sh := fun h => nat_Bench_fit _ _ h _) (H0 := H) rfl Tryz.call154 rfl (hl := fun w m hr hw => lift_nat_Bench_fit _ _ w m hr _ hw)) ?_
   rintro _ _ ⟨v_2, h0u2, rfl, rfl, H⟩
   refine AtL.pures hT 2 _ _ _ _ rfl ?_
   refine AtL.e rfl (EffX.call (f := 154) (sh := fun h => nat_Bench_fit _ _ h _) (H0 := H) rfl Tryz.call154 rfl (hl := fun w m hr hw => lift_nat_Bench_fit _ _ w m hr _ hw)) ?_
   rintro _ _ ⟨v_3, h0u3, rfl, rfl, H⟩
   refine AtL.pures hT 2 _ _ _ _ rfl ?_
   refine AtL.nil ?_
   refine AtE.then_n (AtE.go ?_)
   refine AtC.seq ?_
   refine AtC.seqR ?_
   refine AtL.pures hT 1 _ _ _ _ rfl ?_
   obtain ⟨a, hc0, H⟩ := H
   refine AtL.q rfl (Quiet1.nilChk rfl rfl hc0) ?_
   refine AtL.pures hT 1 _ _ _ _ rfl ?_
   obtain ⟨v_4, hc1, H⟩ := H
   refine AtL.q rfl (Quiet1.load hT rfl rfl rfl hc1) ?_
   refine AtL.nil ?_
   refine AtE.then_n (AtE.go ?_)
   refine AtC.condB H rfl (fun H => ?_) (fun H => ?_)
   ·
    refine AtC.seqR ?_
    refine AtL.pures hT 2 _ _ _ _ rfl ?_
    refine AtL.nil ?_
    refine AtE.then_n (AtE.go ?_)
    refine AtC.ret ?_
    refine AtE.then_r ?_
    exact AtE.retN (rs := [.tmp 6, .tmp 7]) rfl (ResAll.cons (ResAt.tmp rfl) (ResAll.cons (ResAt.tmp rfl) ResAll.nil)) rfl H
   ·
    refine AtC.skip ?_
    refine AtE.then_n (AtE.go ?_)
    refine AtC.seqR ?_
    refine AtL.pures hT 4 _ _ _ _ rfl ?_
    refine AtL.nil ?_
    refine AtE.then_n (AtE.go ?_)
    refine AtC.ret ?_
    exact AtE.retN (rs := [.tmp 6, .tmp 7]) rfl (ResAll.cons (ResAt.tmp rfl) (ResAll.cons (ResAt.tmp rfl) ResAll.nil)) rfl H
theorem lift_ratio_form (neg : Bool) (num : Sl) (d : Sl) (w : World) (m : Heap) (hr : Rel ⟨m, []⟩ w.heap) (S : (Bool × Sl × Sl) → Heap → Prop) (H : ratio_form neg num d m S) :
    Calls Tryz.prog 122 #[Value.bool neg, Sl.toV num, Sl.toV d] w (Post ⟨w, m⟩ (fun r => Value.agg (C_bool_sl_sl r).toArray) S) := by
  refine Calls.lift (args := [Value.bool neg, Sl.toV num, Sl.toV d]) Tryz.func122 rfl Tryz.ntmps122 (Nat.le_of_ble_eq_true rfl) hr (ratio_form neg num d m S) H (fun H => ?_)
  refine AtC.pick (ts := [0, 1, 2]) rfl ?_
  unfold ratio_form at H
  refine AtC.seqR ?_
  refine AtL.e rfl (EffX.allocP (cs := [_, _, _]) hT rfl rfl H) ?_
  rintro _ _ ⟨b, _, rfl, rfl, _, H⟩
  refine AtL.nil ?_
  replace H := H.self
  refine AtE.then_n (AtE.go ?_)
  refine AtC.seqR ?_
  refine AtL.e rfl (EffX.call (f := 119) (sh := fun h => ratio_free h _) (H0 := H) rfl Tryz.call119 rfl (hl := fun w m hr hw => lift_ratio_free  w m hr _ hw)) ?_
  rintro _ _ ⟨v, h0u1, rfl, rfl, H⟩
  refine AtL.pures hT 1 _ _ _ _ rfl ?_
  refine AtL.nil ?_
  refine AtE.then_n (AtE.go ?_)
  refine AtC.seqR ?_
  refine AtL.pures hT 3 _ _ _ _ rfl ?_
  refine AtL.e rfl (EffX.call (f := 136) (sh := fun h => nat_Bench_Gcd _ _ _ h _) (H0 := H) rfl Tryz.call136 rfl (hl := fun w m hr hw => lift_nat_Bench_Gcd _ _ _ w m hr _ hw)) ?_
  rintro _ _ ⟨v_1, h0u2, rfl, rfl, H⟩
  refine AtL.pures hT 1 _ _ _ _ rfl ?_
  refine AtL.nil ?_
  refine AtE.then_n (AtE.go ?_)
  refine AtC.seqR ?_
  refine AtL.pures hT 3 _ _ _ _ rfl ?_
  refine AtL.e rfl (EffX.call (f := 157) (sh := fun h => nat_Bench_Div _ _ _ h _) (H0 := H) rfl Tryz.call157 rfl (hl := fun w m hr hw => lift_nat_Bench_Div _ _ _ w m hr _ hw)) ?_
  rintro _ _ ⟨v_2, h0u3, rfl, rfl, H⟩
  refine AtL.pures hT 4 _ _ _ _ rfl ?_
  refine AtL.nil ?_
  refine AtE.then_n (AtE.go ?_)
  refine AtC.seqR ?_
  refine AtL.pures hT 3 _ _ _ _ rfl ?_
  refine AtL.e rfl (EffX.call (f := 157) (sh := fun h => nat_Bench_Div _ _ _ h _) (H0 := H) rfl Tryz.call157 rfl (hl := fun w m hr hw => lift_nat_Bench_Div _ _ _ w m hr _ hw)) ?_
  rintro _ _ ⟨v_3, h0u4, rfl, rfl, H⟩
  refine AtL.pures hT 4 _ _ _ _ rfl ?_
  refine AtL.nil ?_
  refine AtE.then_n (AtE.go ?_)
  refine AtC.joinSeq (β := Unit) (fun (t0 : Sl) (bb : Unit) => [(2, Sl.toV t0)]) (fun (t0 : Sl) (bb : Unit) => []) [0, 1, 6] [0] H (by exact rfl) (by exact rfl) (fun t0 bb h0u5 H => ?_) (fun J1 H HK1 => ?_)
  ·
   refine AtC.seq ?_
   refine AtC.seqR ?_
   refine AtL.pures hT 3 _ _ _ _ rfl ?_
   refine AtL.nil ?_
   refine AtE.then_n (AtE.go ?_)
   refine AtC.condB H rfl (fun H => ?_) (fun H => ?_)
   ·
    refine AtC.seqR ?_
    refine AtL.q rfl (Quiet1.build (cs := [_, _, _]) hT rfl rfl rfl rfl rfl rfl) ?_
    refine AtL.e rfl (EffX.storeSP (i := 0) (qv := [(_, [_, _, _])]) hT rfl rfl rfl rfl rfl rfl rfl rfl rfl rfl) ?_
    rintro _ _ rfl
    refine AtL.nil ?_
    refine AtE.then_n (AtE.go ?_)
    refine AtC.ret ?_
    refine AtE.then_r ?_
    exact AtE.retN (rs := [.cell 6 43]) rfl (ResAll.cons (ResAt.cellSP (i := 0) (l := [_, _, _]) hT rfl rfl rfl rfl rfl rfl rfl) ResAll.nil) rfl H
   ·
    refine AtC.skip ?_
    refine AtE.then_n (AtE.go ?_)
    refine AtC.seqR ?_
    refine AtL.pures hT 2 _ _ _ _ rfl ?_
    refine AtL.q rfl (Quiet1.build (cs := [_, _]) hT rfl rfl rfl rfl rfl rfl) ?_
    refine AtL.pures hT 1 _ _ _ _ rfl ?_
    refine AtL.q rfl (Quiet1.build (cs := [_, _, _]) hT rfl rfl rfl rfl rfl rfl) ?_
    refine AtL.e rfl (EffX.storeSP (i := 0) (qv := [(_, [_, _, _])]) hT rfl rfl rfl rfl rfl rfl rfl rfl rfl rfl) ?_
    rintro _ _ rfl
    refine AtL.nil ?_
    refine AtE.then_n (AtE.go ?_)
    refine AtC.ret ?_
    exact AtE.retN (rs := [.cell 6 43]) rfl (ResAll.cons (ResAt.cellSP (i := 0) (l := [_, _, _]) hT rfl rfl rfl rfl rfl rfl rfl) ResAll.nil) rfl H
  ·
   refine AtC.seqR ?_
   refine AtL.pures hT 1 _ _ _ _ rfl ?_
   refine AtL.e rfl (EffX.call (f := 135) (sh := fun h => ratio_isOne _ h _) (H0 := H) rfl Tryz.call135 rfl (hl := fun w m hr hw => lift_ratio_isOne _ w m hr _ hw)) ?_
   rintro _ _ ⟨v_4, h0u6, rfl, rfl, H⟩
   refine AtL.nil ?_
   refine AtE.then_n (AtE.go ?_)
   refine AtC.condB H rfl (fun H => ?_) (fun H => ?_)
   ·
    refine AtC.region ?_
    refine AtL.pures hT 1 _ _ _ _ rfl ?_
    refine AtL.nil ?_
    exact AtE.then_n ((HK1 _ () _ H).pickP (ts := [2, 0, 1, 6]) (is := [0]) rfl rfl (by decide) rfl)
   ·
    refine AtC.skip ?_
    exact AtE.then_n ((HK1 _ () _ H).pickP (ts := [2, 0, 1, 6]) (is := [0]) rfl rfl (by decide) rfl)
theorem lift_nat_Bench_Add (b : (Option Addr)) (x0 : Sl) (y : Sl) (w : World) (m : Heap) (hr : Rel ⟨m, []⟩ w.heap) (S : Sl → Heap → Prop) (H : nat_Bench_Add b x0 y m S) :
    Calls Tryz.prog 156 #[Value.pointer b, Sl.toV x0, Sl.toV y] w (Post ⟨w, m⟩ Sl.toV S) := by
  refine Calls.lift (args := [Value.pointer b, Sl.toV x0, Sl.toV y]) Tryz.func156 rfl Tryz.ntmps156 (Nat.le_of_ble_eq_true rfl) hr (nat_Bench_Add b x0 y m S) H (fun H => ?_)
  refine AtC.pick (ts := [0, 1, 2]) rfl ?_
  unfold nat_Bench_Add at H
  refine AtC.seqR ?_
  refine AtL.pures hT 1 _ _ _ _ rfl ?_
  refine AtL.nil ?_
  refine AtE.then_n (AtE.go ?_)
  refine AtC.seqR ?_
  refine AtL.pures hT 3 _ _ _ _ rfl ?_
  refine AtL.e rfl (EffX.call (f := 177) (sh := fun h => nat_plus _ _ h _) (H0 := H) rfl Tryz.call177 rfl (hl := fun w m hr hw => lift_nat_plus _ _ w m hr _ hw)) ?_
  rintro _ _ ⟨v, h0, rfl, rfl, H⟩
  refine AtL.e rfl (EffX.call (f := 154) (sh := fun h => nat_Bench_fit _ _ h _) (H0 := H) rfl Tryz.call154 rfl (hl := fun w m hr hw => lift_nat_Bench_fit _ _ w m hr _ hw)) ?_
  rintro _ _ ⟨v_1, h0u1, rfl, rfl, H⟩
  refine AtL.pures hT 1 _ _ _ _ rfl ?_
  refine AtL.nil ?_
  refine AtE.then_n (AtE.go ?_)
  refine AtC.ret ?_
  exact AtE.retN (rs := [.tmp 6]) rfl (ResAll.cons (ResAt.tmp rfl) ResAll.nil) rfl H
theorem lift_nat_Bench_Over (b : (Option Addr)) (w : World) (m : Heap) (hr : Rel ⟨m, []⟩ w.heap) (S : Bool → Heap → Prop) (H : nat_Bench_Over b m S) :
    Calls Tryz.prog 12 #[Value.pointer b] w (Post ⟨w, m⟩ Value.bool S) := by
  refine Calls.lift (args := [Value.pointer b]) Tryz.func12 rfl Tryz.ntmps12 (Nat.le_of_ble_eq_true rfl) hr (nat_Bench_Over b m S) H (fun H => ?_)
  refine AtC.pick (ts := [0]) rfl ?_
  unfold nat_Bench_Over at H
  refine AtC.seqR ?_
  refine AtL.pures hT 1 _ _ _ _ rfl ?_
  refine AtL.nil ?_
  refine AtE.then_n (AtE.go ?_)
  refine AtC.seqR ?_
  refine AtL.pures hT 1 _ _ _ _ rfl ?_
  obtain ⟨a, hc0, H⟩ := H
  refine AtL.q rfl (Quiet1.nilChk rfl rfl hc0) ?_
  refine AtL.pures hT 1 _ _ _ _ rfl ?_
  obtain ⟨v, hc1, H⟩ := H
  refine AtL.q rfl (Quiet1.load hT rfl rfl rfl hc1) ?_
  refine AtL.pures hT 1 _ _ _ _ rfl ?_
  refine AtL.nil ?_
  refine AtE.then_n (AtE.go ?_)
  refine AtC.ret ?_
  exact AtE.retN (rs := [.tmp 2]) rfl (ResAll.cons (ResAt.tmp rfl) ResAll.nil) rfl H
theorem lift_ratio_fit (b : (Option Addr)) (x0 : Bool × Sl × Sl) (w : World) (m : Heap) (hr : Rel ⟨m, []⟩ w.heap) (S : (Bool × Sl × Sl) → Heap → Prop) (H : ratio_fit b x0 m S) :
    Calls Tryz.prog 121 #[Value.pointer b, Value.agg (C_bool_sl_sl x0).toArray] w (Post ⟨w, m⟩ (fun r => Value.agg (C_bool_sl_sl r).toArray) S) := by
  refine Calls.lift (args := [Value.pointer b, Value.agg (C_bool_sl_sl x0).toArray]) Tryz.func121 rfl Tryz.ntmps121 (Nat.le_of_ble_eq_true rfl) hr (ratio_fit b x0 m S) H (fun H => ?_)
  refine AtC.pick (ts := [0, 1]) rfl ?_
  unfold ratio_fit at H
  refine AtC.seqR ?_
  refine AtL.e rfl (EffX.boxP (cs := [_, _, _]) rfl rfl rfl H) ?_
  rintro _ _ ⟨b_1, _, rfl, rfl, _, H⟩
  refine AtL.e rfl (EffX.allocP (cs := [_, _, _]) hT rfl rfl H) ?_
  rintro _ _ ⟨b_2, _, rfl, rfl, _, H⟩
  refine AtL.nil ?_
  replace H := H.self
  refine AtE.then_n (AtE.go ?_)
  refine AtC.seqR ?_
  refine AtL.pures hT 3 _ _ _ _ rfl ?_
  refine AtL.q rfl (Quiet1.loadP (i := 1) hT rfl rfl rfl rfl rfl rfl) ?_
  refine AtL.e rfl (EffX.call (f := 156) (sh := fun h => nat_Bench_Add _ _ _ h _) (H0 := H) rfl Tryz.call156 rfl (hl := fun w m hr hw => lift_nat_Bench_Add _ _ _ w m hr _ hw)) ?_
  rintro _ _ ⟨v, h0u1, rfl, rfl, H⟩
  refine AtL.nil ?_
  refine AtE.then_n (AtE.go ?_)
  refine AtC.seqR ?_
  refine AtL.pures hT 2 _ _ _ _ rfl ?_
  refine AtL.q rfl (Quiet1.loadP (i := 1) hT rfl rfl rfl rfl rfl rfl) ?_
  refine AtL.e rfl (EffX.call (f := 156) (sh := fun h => nat_Bench_Add _ _ _ h _) (H0 := H) rfl Tryz.call156 rfl (hl := fun w m hr hw => lift_nat_Bench_Add _ _ _ w m hr _ hw)) ?_
  rintro _ _ ⟨v_1, h0u2, rfl, rfl, H⟩
  refine AtL.nil ?_
  refine AtE.then_n (AtE.go ?_)
  refine AtC.seq ?_
  refine AtC.seqR ?_
  refine AtL.pures hT 1 _ _ _ _ rfl ?_
  refine AtL.e rfl (EffX.call (f := 12) (sh := fun h => nat_Bench_Over _ h _) (H0 := H) rfl Tryz.call12 rfl (hl := fun w m hr hw => lift_nat_Bench_Over _ w m hr _ hw)) ?_
  rintro _ _ ⟨v_2, h0u3, rfl, rfl, H⟩
  refine AtL.nil ?_
  refine AtE.then_n (AtE.go ?_)
  refine AtC.condB H rfl (fun H => ?_) (fun H => ?_)
  ·
   refine AtC.seqR ?_
   refine AtL.q rfl (Quiet1.build (cs := [_, _, _]) hT rfl rfl rfl rfl rfl rfl) ?_
   refine AtL.e rfl (EffX.storeSP (i := 0) (qv := [(_, [_, _, _]), (_, [_, _, _])]) hT rfl rfl rfl rfl rfl rfl rfl rfl rfl rfl) ?_
   rintro _ _ rfl
   refine AtL.nil ?_
   refine AtE.then_n (AtE.go ?_)
   refine AtC.ret ?_
   refine AtE.then_r ?_
   exact AtE.retN (rs := [.cell 4 43]) rfl (ResAll.cons (ResAt.cellSP (i := 0) (l := [_, _, _]) hT rfl rfl rfl rfl rfl rfl rfl) ResAll.nil) rfl H
  ·
   refine AtC.skip ?_
   refine AtE.then_n (AtE.go ?_)
   refine AtC.seqR ?_
   refine AtL.q rfl (Quiet1.loadSP (i := 1) (l := [_, _, _]) hT rfl rfl rfl rfl rfl rfl rfl rfl) ?_
   refine AtL.e rfl (EffX.storeSP (i := 0) (qv := [(_, [_, _, _]), (_, [_, _, _])]) hT rfl rfl rfl rfl rfl rfl rfl rfl rfl rfl) ?_
   rintro _ _ rfl
   refine AtL.nil ?_
   refine AtE.then_n (AtE.go ?_)
   refine AtC.ret ?_
   exact AtE.retN (rs := [.cell 4 43]) rfl (ResAll.cons (ResAt.cellSP (i := 0) (l := [_, _, _]) hT rfl rfl rfl rfl rfl rfl rfl) ResAll.nil) rfl H
theorem lift_ratio_Div (b : (Option Addr)) (x0 : Bool × Sl × Sl) (y : Bool × Sl × Sl) (w : World) (m : Heap) (hr : Rel ⟨m, []⟩ w.heap) (S : (Bool × Sl × Sl) → Heap → Prop) (H : ratio_Div b x0 y m S) :
    Calls Tryz.prog 64 #[Value.pointer b, Value.agg (C_bool_sl_sl x0).toArray, Value.agg (C_bool_sl_sl y).toArray] w (Post ⟨w, m⟩ (fun r => Value.agg (C_bool_sl_sl r).toArray) S) := by
  refine Calls.lift (args := [Value.pointer b, Value.agg (C_bool_sl_sl x0).toArray, Value.agg (C_bool_sl_sl y).toArray]) Tryz.func64 rfl Tryz.ntmps64 (Nat.le_of_ble_eq_true rfl) hr (ratio_Div b x0 y m S) H (fun H => ?_)
  refine AtC.pick (ts := [0, 1, 2]) rfl ?_
  unfold ratio_Div at H
  refine AtC.seqR ?_
  refine AtL.e rfl (EffX.boxP (cs := [_, _, _]) rfl rfl rfl H) ?_
  rintro _ _ ⟨b_1, _, rfl, rfl, _, H⟩
  refine AtL.e rfl (EffX.boxP (cs := [_, _, _]) rfl rfl rfl H) ?_
  rintro _ _ ⟨b_2, _, rfl, rfl, _, H⟩
  refine AtL.e rfl (EffX.allocP (cs := [_, _, _]) hT rfl rfl H) ?_
  rintro _ _ ⟨b_3, _, rfl, rfl, _, H⟩
  refine AtL.nil ?_
  replace H := H.self
  refine AtE.then_n (AtE.go ?_)
  refine AtC.seq ?_
  refine AtC.seqR ?_
  refine AtL.q rfl (Quiet1.loadSP (i := 1) (l := [_, _, _]) hT rfl rfl rfl rfl rfl rfl rfl rfl) ?_
  refine AtL.e rfl (EffX.call (f := 87) (sh := fun h => ratio_Sign _ h _) (H0 := H) rfl Tryz.call87 rfl (hl := fun w m hr hw => lift_ratio_Sign _ w m hr _ hw)) ?_
  rintro _ _ ⟨v, h0u1, rfl, rfl, H⟩
  refine AtL.pures hT 1 _ _ _ _ rfl ?_
  refine AtL.nil ?_
  refine AtE.then_n (AtE.go ?_)
  refine AtC.condB H rfl (fun H => ?_) (fun H => ?_)
  ·
   refine AtC.seqR ?_
   refine AtL.q rfl (Quiet1.build (cs := [_, _, _]) hT rfl rfl rfl rfl rfl rfl) ?_
   refine AtL.e rfl (EffX.storeSP (i := 0) (qv := [(_, [_, _, _]), (_, [_, _, _]), (_, [_, _, _])]) hT rfl rfl rfl rfl rfl rfl rfl rfl rfl rfl) ?_
   rintro _ _ rfl
   refine AtL.nil ?_
   refine AtE.then_n (AtE.go ?_)
   refine AtC.ret ?_
   refine AtE.then_r ?_
   exact AtE.retN (rs := [.cell 6 43]) rfl (ResAll.cons (ResAt.cellSP (i := 0) (l := [_, _, _]) hT rfl rfl rfl rfl rfl rfl rfl) ResAll.nil) rfl H
  ·
   refine AtC.skip ?_
   refine AtE.then_n (AtE.go ?_)
   refine AtC.seqR ?_
   refine AtL.e rfl (EffX.call (f := 119) (sh := fun h => ratio_free h _) (H0 := H) rfl Tryz.call119 rfl (hl := fun w m hr hw => lift_ratio_free  w m hr _ hw)) ?_
   rintro _ _ ⟨v_1, h0u2, rfl, rfl, H⟩
   refine AtL.q rfl (Quiet1.makeFn (bs := [_]) (cs := []) rfl rfl rfl) ?_
   refine AtL.pures hT 1 _ _ _ _ rfl ?_
   refine AtL.nil ?_
   refine AtE.then_n (AtE.go ?_)
   apply AtC.seqS [13, 14, 17, 21, 22, 23, 24] [[], [], [], [], [], [], [], [], [], [], [], [], [], [], [13], [], [], [13, 14], [], [], [], [13, 14, 17], [13, 14, 17, 21], [13, 14, 17, 21, 22], [13, 14, 17, 21, 22, 23]] [[], [], [1], [1, 2], [], [4], [4, 5], [1, 2, 3, 4, 5, 6], [], [], [9], [9, 10], [], [12], [8, 9, 10, 11, 12, 13], [], [], [8, 9, 10, 11, 12, 13, 14, 16], [], [18], [18, 19], [8, 9, 10, 11, 12, 13, 14, 15, 16, 17, 18, 19, 20], [1, 2, 3, 4, 5, 6, 7, 8, 9, 10, 11, 12, 13, 14, 15, 16, 17, 18, 19, 20, 21], [0, 1, 2, 3, 4, 5, 6, 7, 8, 9, 10, 11, 12, 13, 14, 15, 16, 17, 18, 19, 20, 21, 22], [0, 1, 2, 3, 4, 5, 6, 7, 8, 9, 10, 11, 12, 13, 14, 15, 16, 17, 18, 19, 20, 21, 22, 23]] hmix (by kernel_rfl) [(14, _), (15, _), (16, _), (17, _), (18, _), (19, _), (20, _), (21, _), (22, _), (23, _), (24, _), (25, _), (26, _), (29, _), (30, _), (32, _), (33, _), (34, _)] rfl 7 rfl
   refine Stg.go [0, 1, 2, 3, 4, 5, 6, 7, 8, 9, 10, 11, 12, 15, 16, 18, 19, 20] [13] rfl rfl (QAll.cons (QOp.p hT rfl rfl rfl rfl rfl) (QAll.cons (QOp.p hT rfl rfl rfl rfl rfl) (QAll.cons (QOp.p hT rfl rfl rfl rfl rfl) (QAll.cons (QOp.q rfl rfl (Quiet1.loadP (i := 2) hT rfl rfl rfl rfl rfl rfl) rfl rfl) (QAll.cons (QOp.p hT rfl rfl rfl rfl rfl) (QAll.cons (QOp.p hT rfl rfl rfl rfl rfl) (QAll.cons (QOp.q rfl rfl (Quiet1.loadP (i := 1) hT rfl rfl rfl rfl rfl rfl) rfl rfl) (QAll.cons (QOp.p hT rfl rfl rfl rfl rfl) (QAll.cons (QOp.p hT rfl rfl rfl rfl rfl) (QAll.cons (QOp.p hT rfl rfl rfl rfl rfl) (QAll.cons (QOp.p hT rfl rfl rfl rfl rfl) (QAll.cons (QOp.q rfl rfl (Quiet1.loadP (i := 2) hT rfl rfl rfl rfl rfl rfl) rfl rfl) (QAll.cons (QOp.q rfl rfl (Quiet1.loadSP (i := 1) (l := [_, _, _]) hT rfl rfl rfl rfl rfl rfl rfl rfl) rfl rfl) (QAll.cons (QOp.p hT rfl rfl rfl rfl rfl) (QAll.cons (QOp.q rfl rfl (Quiet1.loadSP (i := 2) (l := [_, _, _]) hT rfl rfl rfl rfl rfl rfl rfl rfl) rfl rfl) (QAll.cons (QOp.p hT rfl rfl rfl rfl rfl) (QAll.cons (QOp.p hT rfl rfl rfl rfl rfl) (QAll.cons (QOp.q rfl rfl (Quiet1.loadP (i := 1) hT rfl rfl rfl rfl rfl rfl) rfl rfl) QAll.nil)))))))))))))))))) ?_
   refine EAll.cons ?_ EAll.nil
   refine EOp.e rfl rfl rfl (EffX.call (f := 123) (sh := fun h => ratio_den _ h _) (H0 := H) rfl Tryz.call123 rfl (hl := fun w m hr hw => lift_ratio_den _ w m hr _ hw)) ?_
   rintro _ _ ⟨v_2, h0u3, rfl, rfl, H⟩
   apply Stg.next [(27, _)] rfl rfl
   refine Stg.go [0, 1, 2, 3, 4, 5, 6, 7, 8, 9, 10, 11, 15, 16, 18, 19, 20] [14] rfl rfl (QAll.cons (QOp.p hT rfl rfl rfl rfl rfl) (QAll.cons (QOp.p hT rfl rfl rfl rfl rfl) (QAll.cons (QOp.p hT rfl rfl rfl rfl rfl) (QAll.cons (QOp.q rfl rfl (Quiet1.loadP (i := 2) hT rfl rfl rfl rfl rfl rfl) rfl rfl) (QAll.cons (QOp.p hT rfl rfl rfl rfl rfl) (QAll.cons (QOp.p hT rfl rfl rfl rfl rfl) (QAll.cons (QOp.q rfl rfl (Quiet1.loadP (i := 1) hT rfl rfl rfl rfl rfl rfl) rfl rfl) (QAll.cons (QOp.p hT rfl rfl rfl rfl rfl) (QAll.cons (QOp.p hT rfl rfl rfl rfl rfl) (QAll.cons (QOp.p hT rfl rfl rfl rfl rfl) (QAll.cons (QOp.p hT rfl rfl rfl rfl rfl) (QAll.cons (QOp.q rfl rfl (Quiet1.loadP (i := 2) hT rfl rfl rfl rfl rfl rfl) rfl rfl) (QAll.cons (QOp.p hT rfl rfl rfl rfl rfl) (QAll.cons (QOp.q rfl rfl (Quiet1.loadSP (i := 2) (l := [_, _, _]) hT rfl rfl rfl rfl rfl rfl rfl rfl) rfl rfl) (QAll.cons (QOp.p hT rfl rfl rfl rfl rfl) (QAll.cons (QOp.p hT rfl rfl rfl rfl rfl) (QAll.cons (QOp.q rfl rfl (Quiet1.loadP (i := 1) hT rfl rfl rfl rfl rfl rfl) rfl rfl) QAll.nil))))))))))))))))) ?_
   refine EAll.cons ?_ EAll.nil
   refine EOp.e rfl rfl rfl (EffX.callF (bs := [_]) (cs := []) (f := 120) (sh := fun h => nat_Bench_Mul _ _ _ h _) (H0 := H) rfl rfl Tryz.call120 rfl (hl := fun w m hr hw => lift_nat_Bench_Mul _ _ _ w m hr _ hw)) ?_
   rintro _ _ ⟨v_3, h0u4, rfl, rfl, H⟩
   apply Stg.next [(28, _)] rfl rfl
   refine Stg.go [0, 1, 2, 3, 4, 5, 6, 7, 15, 16, 18, 19, 20] [17] rfl rfl (QAll.cons (QOp.p hT rfl rfl rfl rfl rfl) (QAll.cons (QOp.p hT rfl rfl rfl rfl rfl) (QAll.cons (QOp.p hT rfl rfl rfl rfl rfl) (QAll.cons (QOp.q rfl rfl (Quiet1.loadP (i := 2) hT rfl rfl rfl rfl rfl rfl) rfl rfl) (QAll.cons (QOp.p hT rfl rfl rfl rfl rfl) (QAll.cons (QOp.p hT rfl rfl rfl rfl rfl) (QAll.cons (QOp.q rfl rfl (Quiet1.loadP (i := 1) hT rfl rfl rfl rfl rfl rfl) rfl rfl) (QAll.cons (QOp.p hT rfl rfl rfl rfl rfl) (QAll.cons (QOp.p hT rfl rfl rfl rfl rfl) (QAll.cons (QOp.q rfl rfl (Quiet1.loadSP (i := 2) (l := [_, _, _]) hT rfl rfl rfl rfl rfl rfl rfl rfl) rfl rfl) (QAll.cons (QOp.p hT rfl rfl rfl rfl rfl) (QAll.cons (QOp.p hT rfl rfl rfl rfl rfl) (QAll.cons (QOp.q rfl rfl (Quiet1.loadP (i := 1) hT rfl rfl rfl rfl rfl rfl) rfl rfl) QAll.nil))))))))))))) ?_
   refine EAll.cons ?_ EAll.nil
   refine EOp.e rfl rfl rfl (EffX.call (f := 123) (sh := fun h => ratio_den _ h _) (H0 := H) rfl Tryz.call123 rfl (hl := fun w m hr hw => lift_ratio_den _ w m hr _ hw)) ?_
   rintro _ _ ⟨v_4, h0u5, rfl, rfl, H⟩
   apply Stg.next [(31, _)] rfl rfl
   refine Stg.go [0, 1, 2, 3, 4, 5, 6, 7, 15, 18, 19, 20] [21] rfl rfl (QAll.cons (QOp.p hT rfl rfl rfl rfl rfl) (QAll.cons (QOp.p hT rfl rfl rfl rfl rfl) (QAll.cons (QOp.p hT rfl rfl rfl rfl rfl) (QAll.cons (QOp.q rfl rfl (Quiet1.loadP (i := 2) hT rfl rfl rfl rfl rfl rfl) rfl rfl) (QAll.cons (QOp.p hT rfl rfl rfl rfl rfl) (QAll.cons (QOp.p hT rfl rfl rfl rfl rfl) (QAll.cons (QOp.q rfl rfl (Quiet1.loadP (i := 1) hT rfl rfl rfl rfl rfl rfl) rfl rfl) (QAll.cons (QOp.p hT rfl rfl rfl rfl rfl) (QAll.cons (QOp.p hT rfl rfl rfl rfl rfl) (QAll.cons (QOp.p hT rfl rfl rfl rfl rfl) (QAll.cons (QOp.p hT rfl rfl rfl rfl rfl) (QAll.cons (QOp.q rfl rfl (Quiet1.loadP (i := 1) hT rfl rfl rfl rfl rfl rfl) rfl rfl) QAll.nil)))))))))))) ?_
   refine EAll.cons ?_ EAll.nil
   refine EOp.e rfl rfl rfl (EffX.callF (bs := [_]) (cs := []) (f := 120) (sh := fun h => nat_Bench_Mul _ _ _ h _) (H0 := H) rfl rfl Tryz.call120 rfl (hl := fun w m hr hw => lift_nat_Bench_Mul _ _ _ w m hr _ hw)) ?_
   rintro _ _ ⟨v_5, h0u6, rfl, rfl, H⟩
   apply Stg.next [(35, _)] rfl rfl
   refine Stg.go [0, 1, 2, 3, 4, 5, 6, 7] [22] rfl rfl (QAll.cons (QOp.p hT rfl rfl rfl rfl rfl) (QAll.cons (QOp.p hT rfl rfl rfl rfl rfl) (QAll.cons (QOp.p hT rfl rfl rfl rfl rfl) (QAll.cons (QOp.q rfl rfl (Quiet1.loadP (i := 2) hT rfl rfl rfl rfl rfl rfl) rfl rfl) (QAll.cons (QOp.p hT rfl rfl rfl rfl rfl) (QAll.cons (QOp.p hT rfl rfl rfl rfl rfl) (QAll.cons (QOp.q rfl rfl (Quiet1.loadP (i := 1) hT rfl rfl rfl rfl rfl rfl) rfl rfl) (QAll.cons (QOp.p hT rfl rfl rfl rfl rfl) QAll.nil)))))))) ?_
   refine EAll.cons ?_ EAll.nil
   refine EOp.e rfl rfl rfl (EffX.call (f := 122) (sh := fun h => ratio_form _ _ _ h _) (H0 := H) rfl Tryz.call122 rfl (hl := fun w m hr hw => lift_ratio_form _ _ _ w m hr _ hw)) ?_
   rintro _ _ ⟨v_6, h0u7, rfl, rfl, H⟩
   apply Stg.next [(36, _)] rfl rfl
   refine Stg.go [0] [23] rfl rfl (QAll.cons (QOp.p hT rfl rfl rfl rfl rfl) QAll.nil) ?_
   refine EAll.cons ?_ EAll.nil
   refine EOp.e rfl rfl rfl (EffX.call (f := 121) (sh := fun h => ratio_fit _ _ h _) (H0 := H) rfl Tryz.call121 rfl (hl := fun w m hr hw => lift_ratio_fit _ _ w m hr _ hw)) ?_
   rintro _ _ ⟨v_7, h0u8, rfl, rfl, H⟩
   apply Stg.next [(37, _)] rfl rfl
   refine Stg.go [] [24] rfl rfl QAll.nil ?_
   refine EAll.cons ?_ EAll.nil
   refine EOp.e rfl rfl rfl (EffX.storeSP (i := 0) (qv := [(_, [_, _, _]), (_, [_, _, _]), (_, [_, _, _])]) hT rfl rfl rfl rfl rfl rfl rfl rfl rfl rfl) ?_
   rintro _ _ rfl
   apply Stg.next [] rfl rfl
   refine Stg.fin [] rfl rfl QAll.nil ?_
   refine AtE.then_n (AtE.go ?_)
   refine AtC.ret ?_
   exact AtE.retN (rs := [.cell 6 43]) rfl (ResAll.cons (ResAt.cellSP (i := 0) (l := [_, _, _]) hT rfl rfl rfl rfl rfl rfl rfl) ResAll.nil) rfl H
theorem lift_ratio_over (x0 : Bool × Sl) (n : Sl) (w : World) (m : Heap) (hr : Rel ⟨m, []⟩ w.heap) (S : (Bool × Sl) → Heap → Prop) (H : ratio_over x0 n m S) :
    Calls Tryz.prog 166 #[Value.agg (C_bool_sl x0).toArray, Sl.toV n] w (Post ⟨w, m⟩ (fun r => Value.agg (C_bool_sl r).toArray) S) := by
  refine Calls.lift (args := [Value.agg (C_bool_sl x0).toArray, Sl.toV n]) Tryz.func166 rfl Tryz.ntmps166 (Nat.le_of_ble_eq_true rfl) hr (ratio_over x0 n m S) H (fun H => ?_)
  refine AtC.pick (ts := [0, 1]) rfl ?_
  unfold ratio_over at H
  refine AtC.seqR ?_
  refine AtL.e rfl (EffX.boxP (cs := [_, _]) rfl rfl rfl H) ?_
  rintro _ _ ⟨b, _, rfl, rfl, _, H⟩
  refine AtL.e rfl (EffX.allocP (cs := [_, _]) hT rfl rfl H) ?_
  rintro _ _ ⟨b_1, _, rfl, rfl, _, H⟩
  refine AtL.nil ?_
  replace H := H.self
  refine AtE.then_n (AtE.go ?_)
  apply AtC.seqS [2, 6, 8] [[], [], [], [], [], [], [2], [2, 6], [2, 6]] [[], [0], [], [], [3], [], [2, 3, 4, 5], [0, 1, 2, 3, 4, 5, 6], [0, 1, 2, 3, 4, 5, 6, 7]] hmix (by kernel_rfl) [(5, _), (6, _), (8, _), (9, _), (10, _)] rfl 3 rfl
  refine Stg.go [0, 1, 3, 4, 5] [2] rfl rfl (QAll.cons (QOp.p hT rfl rfl rfl rfl rfl) (QAll.cons (QOp.q rfl rfl (Quiet1.loadP (i := 1) hT rfl rfl rfl rfl rfl rfl) rfl rfl) (QAll.cons (QOp.p hT rfl rfl rfl rfl rfl) (QAll.cons (QOp.q rfl rfl (Quiet1.loadP (i := 1) hT rfl rfl rfl rfl rfl rfl) rfl rfl) (QAll.cons (QOp.p hT rfl rfl rfl rfl rfl) QAll.nil))))) ?_
  refine EAll.cons ?_ EAll.nil
  refine EOp.e rfl rfl rfl (EffX.call (f := 119) (sh := fun h => ratio_free h _) (H0 := H) rfl Tryz.call119 rfl (hl := fun w m hr hw => lift_ratio_free  w m hr _ hw)) ?_
  rintro _ _ ⟨v, h0u1, rfl, rfl, H⟩
  apply Stg.next [(7, _)] rfl rfl
  refine Stg.go [0, 1, 3, 4, 5] [6] rfl rfl (QAll.cons (QOp.p hT rfl rfl rfl rfl rfl) (QAll.cons (QOp.q rfl rfl (Quiet1.loadP (i := 1) hT rfl rfl rfl rfl rfl rfl) rfl rfl) (QAll.cons (QOp.p hT rfl rfl rfl rfl rfl) (QAll.cons (QOp.q rfl rfl (Quiet1.loadP (i := 1) hT rfl rfl rfl rfl rfl rfl) rfl rfl) (QAll.cons (QOp.p hT rfl rfl rfl rfl rfl) QAll.nil))))) ?_
  refine EAll.cons ?_ EAll.nil
  refine EOp.e rfl rfl rfl (EffX.call (f := 120) (sh := fun h => nat_Bench_Mul _ _ _ h _) (H0 := H) rfl Tryz.call120 rfl (hl := fun w m hr hw => lift_nat_Bench_Mul _ _ _ w m hr _ hw)) ?_
  rintro _ _ ⟨v_1, h0u2, rfl, rfl, H⟩
  apply Stg.next [(11, _), (12, _)] rfl rfl
  refine Stg.go [0, 1, 7] [8] rfl rfl (QAll.cons (QOp.p hT rfl rfl rfl rfl rfl) (QAll.cons (QOp.q rfl rfl (Quiet1.loadP (i := 1) hT rfl rfl rfl rfl rfl rfl) rfl rfl) (QAll.cons (QOp.q rfl rfl (Quiet1.build (cs := [_, _]) hT rfl rfl rfl rfl rfl rfl) rfl rfl) QAll.nil))) ?_
  refine EAll.cons ?_ EAll.nil
  refine EOp.e rfl rfl rfl (EffX.storeSP (i := 0) (qv := [(_, [_, _]), (_, [_, _])]) hT rfl rfl rfl rfl rfl rfl rfl rfl rfl rfl) ?_
  rintro _ _ rfl
  apply Stg.next [] rfl rfl
  refine Stg.fin [] rfl rfl QAll.nil ?_
  refine AtE.then_n (AtE.go ?_)
  refine AtC.ret ?_
  exact AtE.retN (rs := [.cell 4 41]) rfl (ResAll.cons (ResAt.cellSP (i := 0) (l := [_, _]) hT rfl rfl rfl rfl rfl rfl rfl) ResAll.nil) rfl H
theorem lift_ratio_cross (x0 : Bool × Sl × Sl) (y : Bool × Sl × Sl) (w : World) (m : Heap) (hr : Rel ⟨m, []⟩ w.heap) (S : ((Bool × Sl) × (Bool × Sl)) → Heap → Prop) (H : ratio_cross x0 y m S) :
    Calls Tryz.prog 141 #[Value.agg (C_bool_sl_sl x0).toArray, Value.agg (C_bool_sl_sl y).toArray] w (Post ⟨w, m⟩ (fun r => Value.tuple #[(fun r => Value.agg (C_bool_sl r).toArray) r.1, (fun r => Value.agg (C_bool_sl r).toArray) r.2]) S) := by
  refine Calls.lift (args := [Value.agg (C_bool_sl_sl x0).toArray, Value.agg (C_bool_sl_sl y).toArray]) Tryz.func141 rfl Tryz.ntmps141 (Nat.le_of_ble_eq_true rfl) hr (ratio_cross x0 y m S) H (fun H => ?_)
  refine AtC.pick (ts := [0, 1]) rfl ?_
  unfold ratio_cross at H
  refine AtC.seqR ?_
  refine AtL.e rfl (EffX.boxP (cs := [_, _, _]) rfl rfl rfl H) ?_
  rintro _ _ ⟨b, _, rfl, rfl, _, H⟩
  refine AtL.e rfl (EffX.boxP (cs := [_, _, _]) rfl rfl rfl H) ?_
  rintro _ _ ⟨b_1, _, rfl, rfl, _, H⟩
  refine AtL.e rfl (EffX.allocP (cs := [_, _]) hT rfl rfl H) ?_
  rintro _ _ ⟨b_2, _, rfl, rfl, _, H⟩
  refine AtL.e rfl (EffX.allocP (cs := [_, _]) hT rfl rfl H) ?_
  rintro _ _ ⟨b_3, _, rfl, rfl, _, H⟩
  refine AtL.nil ?_
  replace H := H.self
  refine AtE.then_n (AtE.go ?_)
  apply AtC.seqS [3, 4, 8, 9, 10, 11] [[], [], [], [], [3], [], [], [], [3, 4], [3, 4, 8], [3, 4, 8, 9], [3, 4, 8, 9, 10]] [[], [0], [], [2], [0, 1, 2, 3], [], [5], [], [0, 1, 2, 3, 4, 7], [0, 1, 2, 3, 4, 5, 6, 7, 8], [0, 1, 2, 3, 4, 5, 6, 7, 8, 9], [0, 1, 2, 3, 4, 5, 6, 7, 8, 9, 10]] hmix (by kernel_rfl) [(6, _), (7, _), (8, _), (11, _), (12, _), (13, _)] rfl 6 rfl
  refine Stg.go [0, 1, 2, 5, 6, 7] [3] rfl rfl (QAll.cons (QOp.p hT rfl rfl rfl rfl rfl) (QAll.cons (QOp.q rfl rfl (Quiet1.loadSP (i := 3) (l := [_, _]) hT rfl rfl rfl rfl rfl rfl rfl rfl) rfl rfl) (QAll.cons (QOp.q rfl rfl (Quiet1.loadSP (i := 2) (l := [_, _, _]) hT rfl rfl rfl rfl rfl rfl rfl rfl) rfl rfl) (QAll.cons (QOp.p hT rfl rfl rfl rfl rfl) (QAll.cons (QOp.q rfl rfl (Quiet1.loadSP (i := 2) (l := [_, _]) hT rfl rfl rfl rfl rfl rfl rfl rfl) rfl rfl) (QAll.cons (QOp.q rfl rfl (Quiet1.loadSP (i := 3) (l := [_, _, _]) hT rfl rfl rfl rfl rfl rfl rfl rfl) rfl rfl) QAll.nil)))))) ?_
  refine EAll.cons ?_ EAll.nil
  refine EOp.e rfl rfl rfl (EffX.call (f := 123) (sh := fun h => ratio_den _ h _) (H0 := H) rfl Tryz.call123 rfl (hl := fun w m hr hw => lift_ratio_den _ w m hr _ hw)) ?_
  rintro _ _ ⟨v, h0u1, rfl, rfl, H⟩
  apply Stg.next [(9, _)] rfl rfl
  refine Stg.go [0, 1, 5, 6, 7] [4] rfl rfl (QAll.cons (QOp.p hT rfl rfl rfl rfl rfl) (QAll.cons (QOp.q rfl rfl (Quiet1.loadSP (i := 3) (l := [_, _]) hT rfl rfl rfl rfl rfl rfl rfl rfl) rfl rfl) (QAll.cons (QOp.p hT rfl rfl rfl rfl rfl) (QAll.cons (QOp.q rfl rfl (Quiet1.loadSP (i := 2) (l := [_, _]) hT rfl rfl rfl rfl rfl rfl rfl rfl) rfl rfl) (QAll.cons (QOp.q rfl rfl (Quiet1.loadSP (i := 3) (l := [_, _, _]) hT rfl rfl rfl rfl rfl rfl rfl rfl) rfl rfl) QAll.nil))))) ?_
  refine EAll.cons ?_ EAll.nil
  refine EOp.e rfl rfl rfl (EffX.call (f := 166) (sh := fun h => ratio_over _ _ h _) (H0 := H) rfl Tryz.call166 rfl (hl := fun w m hr hw => lift_ratio_over _ _ w m hr _ hw)) ?_
  rintro _ _ ⟨v_1, h0u2, rfl, rfl, H⟩
  apply Stg.next [(10, _)] rfl rfl
  refine Stg.go [5, 6, 7] [8] rfl rfl (QAll.cons (QOp.p hT rfl rfl rfl rfl rfl) (QAll.cons (QOp.q rfl rfl (Quiet1.loadSP (i := 2) (l := [_, _]) hT rfl rfl rfl rfl rfl rfl rfl rfl) rfl rfl) (QAll.cons (QOp.q rfl rfl (Quiet1.loadSP (i := 3) (l := [_, _, _]) hT rfl rfl rfl rfl rfl rfl rfl rfl) rfl rfl) QAll.nil))) ?_
  refine EAll.cons ?_ EAll.nil
  refine EOp.e rfl rfl rfl (EffX.call (f := 123) (sh := fun h => ratio_den _ h _) (H0 := H) rfl Tryz.call123 rfl (hl := fun w m hr hw => lift_ratio_den _ w m hr _ hw)) ?_
  rintro _ _ ⟨v_2, h0u3, rfl, rfl, H⟩
  apply Stg.next [(14, _)] rfl rfl
  refine Stg.go [5, 6] [9] rfl rfl (QAll.cons (QOp.p hT rfl rfl rfl rfl rfl) (QAll.cons (QOp.q rfl rfl (Quiet1.loadSP (i := 2) (l := [_, _]) hT rfl rfl rfl rfl rfl rfl rfl rfl) rfl rfl) QAll.nil)) ?_
  refine EAll.cons ?_ EAll.nil
  refine EOp.e rfl rfl rfl (EffX.call (f := 166) (sh := fun h => ratio_over _ _ h _) (H0 := H) rfl Tryz.call166 rfl (hl := fun w m hr hw => lift_ratio_over _ _ w m hr _ hw)) ?_
  rintro _ _ ⟨v_3, h0u4, rfl, rfl, H⟩
  apply Stg.next [(15, _)] rfl rfl
  refine Stg.go [] [10] rfl rfl QAll.nil ?_
  refine EAll.cons ?_ EAll.nil
  refine EOp.e rfl rfl rfl (EffX.storeSP (i := 1) (qv := [(_, [_, _]), (_, [_, _]), (_, [_, _, _]), (_, [_, _, _])]) hT rfl rfl rfl rfl rfl rfl rfl rfl rfl rfl) ?_
  rintro _ _ rfl
  apply Stg.next [] rfl rfl
  refine Stg.go [] [11] rfl rfl QAll.nil ?_
  refine EAll.cons ?_ EAll.nil
  refine EOp.e rfl rfl rfl (EffX.storeSP (i := 0) (qv := [(_, [_, _]), (_, [_, _]), (_, [_, _, _]), (_, [_, _, _])]) hT rfl rfl rfl rfl rfl rfl rfl rfl rfl rfl) ?_
  rintro _ _ rfl
  apply Stg.next [] rfl rfl
  refine Stg.fin [] rfl rfl QAll.nil ?_
  refine AtE.then_n (AtE.go ?_)
  refine AtC.ret ?_
  exact AtE.retN (rs := [.cell 4 41, .cell 5 41]) rfl (ResAll.cons (ResAt.cellSP (i := 1) (l := [_, _]) hT rfl rfl rfl rfl rfl rfl rfl) (ResAll.cons (ResAt.cellSP (i := 0) (l := [_, _]) hT rfl rfl rfl rfl rfl rfl rfl) ResAll.nil)) rfl H
theorem lift_nat_Bench_Sub (b : (Option Addr)) (x0 : Sl) (y : Sl) (w : World) (m : Heap) (hr : Rel ⟨m, []⟩ w.heap) (S : Sl → Heap → Prop) (H : nat_Bench_Sub b x0 y m S) :
    Calls Tryz.prog 168 #[Value.pointer b, Sl.toV x0, Sl.toV y] w (Post ⟨w, m⟩ Sl.toV S) := by
  refine Calls.lift (args := [Value.pointer b, Sl.toV x0, Sl.toV y]) Tryz.func168 rfl Tryz.ntmps168 (Nat.le_of_ble_eq_true rfl) hr (nat_Bench_Sub b x0 y m S) H (fun H => ?_)
  refine AtC.pick (ts := [0, 1, 2]) rfl ?_
  unfold nat_Bench_Sub at H
  refine AtC.seqR ?_
  refine AtL.pures hT 1 _ _ _ _ rfl ?_
  refine AtL.nil ?_
  refine AtE.then_n (AtE.go ?_)
  refine AtC.seq ?_
  refine AtC.seqR ?_
  refine AtL.pures hT 2 _ _ _ _ rfl ?_
  refine AtL.e rfl (EffX.call (f := 167) (sh := fun h => nat_Cmp _ _ h _) (H0 := H) rfl Tryz.call167 rfl (hl := fun w m hr hw => lift_nat_Cmp _ _ w m hr _ hw)) ?_
  rintro _ _ ⟨v, h0, rfl, rfl, H⟩
  refine AtL.pures hT 1 _ _ _ _ rfl ?_
  refine AtL.nil ?_
  refine AtE.then_n (AtE.go ?_)
  refine AtC.condB H rfl (fun H => ?_) (fun H => ?_)
  ·
   refine AtC.seqR ?_
   refine AtL.pures hT 1 _ _ _ _ rfl ?_
   refine AtL.nil ?_
   refine AtE.then_n (AtE.go ?_)
   refine AtC.ret ?_
   refine AtE.then_r ?_
   exact AtE.retN (rs := [.tmp 6]) rfl (ResAll.cons (ResAt.tmp rfl) ResAll.nil) rfl H
  ·
   refine AtC.skip ?_
   refine AtE.then_n (AtE.go ?_)
   refine AtC.seqR ?_
   refine AtL.pures hT 3 _ _ _ _ rfl ?_
   refine AtL.e rfl (EffX.call (f := 140) (sh := fun h => nat_trim _ h _) (H0 := H) rfl Tryz.call140 rfl (hl := fun w m hr hw => lift_nat_trim _ w m hr _ hw)) ?_
   rintro _ _ ⟨v_1, h0u1, rfl, rfl, H⟩
   refine AtL.e rfl (EffX.call (f := 181) (sh := fun h => nat_minus _ _ h _) (H0 := H) rfl Tryz.call181 rfl (hl := fun w m hr hw => lift_nat_minus _ _ w m hr _ hw)) ?_
   rintro _ _ ⟨v_2, h0u2, rfl, rfl, H⟩
   refine AtL.e rfl (EffX.call (f := 154) (sh := fun h => nat_Bench_fit _ _ h _) (H0 := H) rfl Tryz.call154 rfl (hl := fun w m hr hw => lift_nat_Bench_fit _ _ w m hr _ hw)) ?_
   rintro _ _ ⟨v_3, h0u3, rfl, rfl, H⟩
   refine AtL.pures hT 1 _ _ _ _ rfl ?_
   refine AtL.nil ?_
   refine AtE.then_n (AtE.go ?_)
   refine AtC.ret ?_
   exact AtE.retN (rs := [.tmp 6]) rfl (ResAll.cons (ResAt.tmp rfl) ResAll.nil) rfl H
theorem lift_ratio_sum (x0 : Bool × Sl) (y : Bool × Sl) (w : World) (m : Heap) (hr : Rel ⟨m, []⟩ w.heap) (S : (Bool × Sl) → Heap → Prop) (H : ratio_sum x0 y m S) :
    Calls Tryz.prog 142 #[Value.agg (C_bool_sl x0).toArray, Value.agg (C_bool_sl y).toArray] w (Post ⟨w, m⟩ (fun r => Value.agg (C_bool_sl r).toArray) S) := by
  refine Calls.lift (args := [Value.agg (C_bool_sl x0).toArray, Value.agg (C_bool_sl y).toArray]) Tryz.func142 rfl Tryz.ntmps142 (Nat.le_of_ble_eq_true rfl) hr (ratio_sum x0 y m S) H (fun H => ?_)
  refine AtC.pick (ts := [0, 1]) rfl ?_
  unfold ratio_sum at H
  refine AtC.seqR ?_
  refine AtL.e rfl (EffX.boxP (cs := [_, _]) rfl rfl rfl H) ?_
  rintro _ _ ⟨b, _, rfl, rfl, _, H⟩
  refine AtL.e rfl (EffX.boxP (cs := [_, _]) rfl rfl rfl H) ?_
  rintro _ _ ⟨b_1, _, rfl, rfl, _, H⟩
  refine AtL.e rfl (EffX.allocP (cs := [_, _]) hT rfl rfl H) ?_
  rintro _ _ ⟨b_2, _, rfl, rfl, _, H⟩
  refine AtL.nil ?_
  replace H := H.self
  refine AtE.then_n (AtE.go ?_)
  refine AtC.seqR ?_
  refine AtL.e rfl (EffX.call (f := 119) (sh := fun h => ratio_free h _) (H0 := H) rfl Tryz.call119 rfl (hl := fun w m hr hw => lift_ratio_free  w m hr _ hw)) ?_
  rintro _ _ ⟨v, h0u1, rfl, rfl, H⟩
  refine AtL.pures hT 1 _ _ _ _ rfl ?_
  refine AtL.nil ?_
  refine AtE.then_n (AtE.go ?_)
  refine AtC.seq ?_
  refine AtC.block ?_
  refine AtC.seqR ?_
  refine AtL.pures hT 1 _ _ _ _ rfl ?_
  refine AtL.q rfl (Quiet1.loadP (i := 2) hT rfl rfl rfl rfl rfl rfl) ?_
  refine AtL.pures hT 1 _ _ _ _ rfl ?_
  refine AtL.q rfl (Quiet1.loadP (i := 1) hT rfl rfl rfl rfl rfl rfl) ?_
  refine AtL.pures hT 2 _ _ _ _ rfl ?_
  refine AtL.nil ?_
  refine AtE.then_n (AtE.go ?_)
  refine AtC.condB H rfl (fun H => ?_) (fun H => ?_)
  ·
   apply AtC.seqS [7, 9] [[], [], [], [], [], [], [], [], [7], [7]] [[], [0], [], [], [3], [], [5], [2, 3, 4, 5, 6], [0, 1, 2, 3, 4, 5, 6, 7], [0, 1, 2, 3, 4, 5, 6, 7, 8]] hmix (by kernel_rfl) [(13, _), (14, _), (15, _), (16, _), (17, _), (18, _), (19, _)] rfl 2 rfl
   refine Stg.go [0, 1, 2, 3, 4, 5, 6] [7] rfl rfl (QAll.cons (QOp.p hT rfl rfl rfl rfl rfl) (QAll.cons (QOp.q rfl rfl (Quiet1.loadP (i := 2) hT rfl rfl rfl rfl rfl rfl) rfl rfl) (QAll.cons (QOp.p hT rfl rfl rfl rfl rfl) (QAll.cons (QOp.p hT rfl rfl rfl rfl rfl) (QAll.cons (QOp.q rfl rfl (Quiet1.loadP (i := 2) hT rfl rfl rfl rfl rfl rfl) rfl rfl) (QAll.cons (QOp.p hT rfl rfl rfl rfl rfl) (QAll.cons (QOp.q rfl rfl (Quiet1.loadP (i := 1) hT rfl rfl rfl rfl rfl rfl) rfl rfl) QAll.nil))))))) ?_
   refine EAll.cons ?_ EAll.nil
   refine EOp.e rfl rfl rfl (EffX.call (f := 156) (sh := fun h => nat_Bench_Add _ _ _ h _) (H0 := H) rfl Tryz.call156 rfl (hl := fun w m hr hw => lift_nat_Bench_Add _ _ _ w m hr _ hw)) ?_
   rintro _ _ ⟨v_1, h0u2, rfl, rfl, H⟩
   apply Stg.next [(20, _), (21, _)] rfl rfl
   refine Stg.go [0, 1, 8] [9] rfl rfl (QAll.cons (QOp.p hT rfl rfl rfl rfl rfl) (QAll.cons (QOp.q rfl rfl (Quiet1.loadP (i := 2) hT rfl rfl rfl rfl rfl rfl) rfl rfl) (QAll.cons (QOp.q rfl rfl (Quiet1.build (cs := [_, _]) hT rfl rfl rfl rfl rfl rfl) rfl rfl) QAll.nil))) ?_
   refine EAll.cons ?_ EAll.nil
   refine EOp.e rfl rfl rfl (EffX.storeSP (i := 0) (qv := [(_, [_, _]), (_, [_, _]), (_, [_, _])]) hT rfl rfl rfl rfl rfl rfl rfl rfl rfl rfl) ?_
   rintro _ _ rfl
   apply Stg.next [] rfl rfl
   refine Stg.fin [] rfl rfl QAll.nil ?_
   refine AtE.then_n (AtE.go ?_)
   refine AtC.ret ?_
   refine AtE.blk_r ?_
   refine AtE.then_r ?_
   exact AtE.retN (rs := [.cell 4 41]) rfl (ResAll.cons (ResAt.cellSP (i := 0) (l := [_, _]) hT rfl rfl rfl rfl rfl rfl rfl) ResAll.nil) rfl H
  ·
   refine AtC.seqR ?_
   refine AtL.pures hT 1 _ _ _ _ rfl ?_
   refine AtL.q rfl (Quiet1.loadP (i := 2) hT rfl rfl rfl rfl rfl rfl) ?_
   refine AtL.pures hT 1 _ _ _ _ rfl ?_
   refine AtL.q rfl (Quiet1.loadP (i := 1) hT rfl rfl rfl rfl rfl rfl) ?_
   refine AtL.e rfl (EffX.call (f := 167) (sh := fun h => nat_Cmp _ _ h _) (H0 := H) rfl Tryz.call167 rfl (hl := fun w m hr hw => lift_nat_Cmp _ _ w m hr _ hw)) ?_
   rintro _ _ ⟨v_2, h0u3, rfl, rfl, H⟩
   refine AtL.pures hT 2 _ _ _ _ rfl ?_
   refine AtL.nil ?_
   refine AtE.then_n (AtE.go ?_)
   refine AtC.condB H rfl (fun H => ?_) (fun H => ?_)
   ·
    apply AtC.seqS [7, 9] [[], [], [], [], [], [], [], [], [7], [7]] [[], [0], [], [], [3], [], [5], [2, 3, 4, 5, 6], [0, 1, 2, 3, 4, 5, 6, 7], [0, 1, 2, 3, 4, 5, 6, 7, 8]] hmix (by kernel_rfl) [(29, _), (30, _), (31, _), (32, _), (33, _), (34, _), (35, _)] rfl 2 rfl
    refine Stg.go [0, 1, 2, 3, 4, 5, 6] [7] rfl rfl (QAll.cons (QOp.p hT rfl rfl rfl rfl rfl) (QAll.cons (QOp.q rfl rfl (Quiet1.loadP (i := 2) hT rfl rfl rfl rfl rfl rfl) rfl rfl) (QAll.cons (QOp.p hT rfl rfl rfl rfl rfl) (QAll.cons (QOp.p hT rfl rfl rfl rfl rfl) (QAll.cons (QOp.q rfl rfl (Quiet1.loadP (i := 2) hT rfl rfl rfl rfl rfl rfl) rfl rfl) (QAll.cons (QOp.p hT rfl rfl rfl rfl rfl) (QAll.cons (QOp.q rfl rfl (Quiet1.loadP (i := 1) hT rfl rfl rfl rfl rfl rfl) rfl rfl) QAll.nil))))))) ?_
    refine EAll.cons ?_ EAll.nil
    refine EOp.e rfl rfl rfl (EffX.call (f := 168) (sh := fun h => nat_Bench_Sub _ _ _ h _) (H0 := H) rfl Tryz.call168 rfl (hl := fun w m hr hw => lift_nat_Bench_Sub _ _ _ w m hr _ hw)) ?_
    rintro _ _ ⟨v_3, h0u4, rfl, rfl, H⟩
    apply Stg.next [(36, _), (37, _)] rfl rfl
    refine Stg.go [0, 1, 8] [9] rfl rfl (QAll.cons (QOp.p hT rfl rfl rfl rfl rfl) (QAll.cons (QOp.q rfl rfl (Quiet1.loadP (i := 2) hT rfl rfl rfl rfl rfl rfl) rfl rfl) (QAll.cons (QOp.q rfl rfl (Quiet1.build (cs := [_, _]) hT rfl rfl rfl rfl rfl rfl) rfl rfl) QAll.nil))) ?_
    refine EAll.cons ?_ EAll.nil
    refine EOp.e rfl rfl rfl (EffX.storeSP (i := 0) (qv := [(_, [_, _]), (_, [_, _]), (_, [_, _])]) hT rfl rfl rfl rfl rfl rfl rfl rfl rfl rfl) ?_
    rintro _ _ rfl
    apply Stg.next [] rfl rfl
    refine Stg.fin [] rfl rfl QAll.nil ?_
    refine AtE.then_n (AtE.go ?_)
    refine AtC.ret ?_
    refine AtE.blk_r ?_
    refine AtE.then_r ?_
    exact AtE.retN (rs := [.cell 4 41]) rfl (ResAll.cons (ResAt.cellSP (i := 0) (l := [_, _]) hT rfl rfl rfl rfl rfl rfl rfl) ResAll.nil) rfl H
   ·
    refine AtC.skip ?_
    refine AtE.blk_n ?_
    refine AtE.then_n (AtE.go ?_)
    apply AtC.seqS [7, 9] [[], [], [], [], [], [], [], [], [7], [7]] [[], [0], [], [], [3], [], [5], [2, 3, 4, 5, 6], [0, 1, 2, 3, 4, 5, 6, 7], [0, 1, 2, 3, 4, 5, 6, 7, 8]] hmix (by kernel_rfl) [(38, _), (39, _), (40, _), (41, _), (42, _), (43, _), (44, _)] rfl 2 rfl
    refine Stg.go [0, 1, 2, 3, 4, 5, 6] [7] rfl rfl (QAll.cons (QOp.p hT rfl rfl rfl rfl rfl) (QAll.cons (QOp.q rfl rfl (Quiet1.loadP (i := 1) hT rfl rfl rfl rfl rfl rfl) rfl rfl) (QAll.cons (QOp.p hT rfl rfl rfl rfl rfl) (QAll.cons (QOp.p hT rfl rfl rfl rfl rfl) (QAll.cons (QOp.q rfl rfl (Quiet1.loadP (i := 1) hT rfl rfl rfl rfl rfl rfl) rfl rfl) (QAll.cons (QOp.p hT rfl rfl rfl rfl rfl) (QAll.cons (QOp.q rfl rfl (Quiet1.loadP (i := 2) hT rfl rfl rfl rfl rfl rfl) rfl rfl) QAll.nil))))))) ?_
    refine EAll.cons ?_ EAll.nil
    refine EOp.e rfl rfl rfl (EffX.call (f := 168) (sh := fun h => nat_Bench_Sub _ _ _ h _) (H0 := H) rfl Tryz.call168 rfl (hl := fun w m hr hw => lift_nat_Bench_Sub _ _ _ w m hr _ hw)) ?_
    rintro _ _ ⟨v_4, h0u5, rfl, rfl, H⟩
    apply Stg.next [(45, _), (46, _)] rfl rfl
    refine Stg.go [0, 1, 8] [9] rfl rfl (QAll.cons (QOp.p hT rfl rfl rfl rfl rfl) (QAll.cons (QOp.q rfl rfl (Quiet1.loadP (i := 1) hT rfl rfl rfl rfl rfl rfl) rfl rfl) (QAll.cons (QOp.q rfl rfl (Quiet1.build (cs := [_, _]) hT rfl rfl rfl rfl rfl rfl) rfl rfl) QAll.nil))) ?_
    refine EAll.cons ?_ EAll.nil
    refine EOp.e rfl rfl rfl (EffX.storeSP (i := 0) (qv := [(_, [_, _]), (_, [_, _]), (_, [_, _])]) hT rfl rfl rfl rfl rfl rfl rfl rfl rfl rfl) ?_
    rintro _ _ rfl
    apply Stg.next [] rfl rfl
    refine Stg.fin [] rfl rfl QAll.nil ?_
    refine AtE.then_n (AtE.go ?_)
    refine AtC.ret ?_
    exact AtE.retN (rs := [.cell 4 41]) rfl (ResAll.cons (ResAt.cellSP (i := 0) (l := [_, _]) hT rfl rfl rfl rfl rfl rfl rfl) ResAll.nil) rfl H
theorem lift_ratio_Add (b : (Option Addr)) (x0 : Bool × Sl × Sl) (y : Bool × Sl × Sl) (w : World) (m : Heap) (hr : Rel ⟨m, []⟩ w.heap) (S : (Bool × Sl × Sl) → Heap → Prop) (H : ratio_Add b x0 y m S) :
    Calls Tryz.prog 124 #[Value.pointer b, Value.agg (C_bool_sl_sl x0).toArray, Value.agg (C_bool_sl_sl y).toArray] w (Post ⟨w, m⟩ (fun r => Value.agg (C_bool_sl_sl r).toArray) S) := by
  refine Calls.lift (args := [Value.pointer b, Value.agg (C_bool_sl_sl x0).toArray, Value.agg (C_bool_sl_sl y).toArray]) Tryz.func124 rfl Tryz.ntmps124 (Nat.le_of_ble_eq_true rfl) hr (ratio_Add b x0 y m S) H (fun H => ?_)
  refine AtC.pick (ts := [0, 1, 2]) rfl ?_
  unfold ratio_Add at H
  refine AtC.seqR ?_
  refine AtL.e rfl (EffX.boxP (cs := [_, _, _]) rfl rfl rfl H) ?_
  rintro _ _ ⟨b_1, _, rfl, rfl, _, H⟩
  refine AtL.e rfl (EffX.boxP (cs := [_, _, _]) rfl rfl rfl H) ?_
  rintro _ _ ⟨b_2, _, rfl, rfl, _, H⟩
  refine AtL.e rfl (EffX.allocP (cs := [_, _, _]) hT rfl rfl H) ?_
  rintro _ _ ⟨b_3, _, rfl, rfl, _, H⟩
  refine AtL.nil ?_
  replace H := H.self
  refine AtE.then_n (AtE.go ?_)
  refine AtC.seqR ?_
  refine AtL.q rfl (Quiet1.loadSP (i := 2) (l := [_, _, _]) hT rfl rfl rfl rfl rfl rfl rfl rfl) ?_
  refine AtL.q rfl (Quiet1.loadSP (i := 1) (l := [_, _, _]) hT rfl rfl rfl rfl rfl rfl rfl rfl) ?_
  refine AtL.e rfl (EffX.call (f := 141) (sh := fun h => ratio_cross _ _ h _) (H0 := H) rfl Tryz.call141 rfl (hl := fun w m hr hw => lift_ratio_cross _ _ w m hr _ hw)) ?_
  rintro _ _ ⟨v, h0u1, rfl, rfl, H⟩
  refine AtL.pures hT 2 _ _ _ _ rfl ?_
  refine AtL.e rfl (EffX.call (f := 142) (sh := fun h => ratio_sum _ _ h _) (H0 := H) rfl Tryz.call142 rfl (hl := fun w m hr hw => lift_ratio_sum _ _ w m hr _ hw)) ?_
  rintro _ _ ⟨v_1, h0u2, rfl, rfl, H⟩
  refine AtL.e rfl (EffX.allocP (cs := [_, _]) hT rfl rfl H) ?_
  rintro _ _ ⟨b_4, _, rfl, rfl, _, H⟩
  replace H := H.self
  refine AtL.e rfl (EffX.storeSP (i := 0) (qv := [(_, [_, _]), (_, [_, _, _]), (_, [_, _, _]), (_, [_, _, _])]) hT rfl rfl rfl rfl rfl rfl rfl rfl rfl rfl) ?_
  rintro _ _ rfl
  refine AtL.nil ?_
  refine AtE.then_n (AtE.go ?_)
  apply AtC.seqS [5, 7, 9, 10, 11, 12, 13] [[], [], [], [], [], [], [], [5], [], [5, 7], [5, 7, 9], [5, 7, 9, 10], [5, 7, 9, 10, 11], [5, 7, 9, 10, 11, 12]] [[], [], [1], [], [3], [], [], [5, 6], [], [5, 6, 7, 8], [5, 6, 7, 8, 9], [1, 2, 3, 4, 5, 6, 7, 8, 9, 10], [0, 1, 2, 3, 4, 5, 6, 7, 8, 9, 10, 11], [0, 1, 2, 3, 4, 5, 6, 7, 8, 9, 10, 11, 12]] hmix (by kernel_rfl) [(14, _), (15, _), (16, _), (17, _), (18, _), (20, _), (22, _)] rfl 7 rfl
  refine Stg.go [0, 1, 2, 3, 4, 6, 8] [5] rfl rfl (QAll.cons (QOp.p hT rfl rfl rfl rfl rfl) (QAll.cons (QOp.p hT rfl rfl rfl rfl rfl) (QAll.cons (QOp.q rfl rfl (Quiet1.loadP (i := 0) hT rfl rfl rfl rfl rfl rfl) rfl rfl) (QAll.cons (QOp.p hT rfl rfl rfl rfl rfl) (QAll.cons (QOp.q rfl rfl (Quiet1.loadP (i := 0) hT rfl rfl rfl rfl rfl rfl) rfl rfl) (QAll.cons (QOp.q rfl rfl (Quiet1.loadSP (i := 3) (l := [_, _, _]) hT rfl rfl rfl rfl rfl rfl rfl rfl) rfl rfl) (QAll.cons (QOp.q rfl rfl (Quiet1.loadSP (i := 2) (l := [_, _, _]) hT rfl rfl rfl rfl rfl rfl rfl rfl) rfl rfl) QAll.nil))))))) ?_
  refine EAll.cons ?_ EAll.nil
  refine EOp.e rfl rfl rfl (EffX.call (f := 119) (sh := fun h => ratio_free h _) (H0 := H) rfl Tryz.call119 rfl (hl := fun w m hr hw => lift_ratio_free  w m hr _ hw)) ?_
  rintro _ _ ⟨v_2, h0u4, rfl, rfl, H⟩
  apply Stg.next [(19, _)] rfl rfl
  refine Stg.go [0, 1, 2, 3, 4, 6, 8] [7] rfl rfl (QAll.cons (QOp.p hT rfl rfl rfl rfl rfl) (QAll.cons (QOp.p hT rfl rfl rfl rfl rfl) (QAll.cons (QOp.q rfl rfl (Quiet1.loadP (i := 0) hT rfl rfl rfl rfl rfl rfl) rfl rfl) (QAll.cons (QOp.p hT rfl rfl rfl rfl rfl) (QAll.cons (QOp.q rfl rfl (Quiet1.loadP (i := 0) hT rfl rfl rfl rfl rfl rfl) rfl rfl) (QAll.cons (QOp.q rfl rfl (Quiet1.loadSP (i := 3) (l := [_, _, _]) hT rfl rfl rfl rfl rfl rfl rfl rfl) rfl rfl) (QAll.cons (QOp.q rfl rfl (Quiet1.loadSP (i := 2) (l := [_, _, _]) hT rfl rfl rfl rfl rfl rfl rfl rfl) rfl rfl) QAll.nil))))))) ?_
  refine EAll.cons ?_ EAll.nil
  refine EOp.e rfl rfl rfl (EffX.call (f := 123) (sh := fun h => ratio_den _ h _) (H0 := H) rfl Tryz.call123 rfl (hl := fun w m hr hw => lift_ratio_den _ w m hr _ hw)) ?_
  rintro _ _ ⟨v_3, h0u5, rfl, rfl, H⟩
  apply Stg.next [(21, _)] rfl rfl
  refine Stg.go [0, 1, 2, 3, 4, 8] [9] rfl rfl (QAll.cons (QOp.p hT rfl rfl rfl rfl rfl) (QAll.cons (QOp.p hT rfl rfl rfl rfl rfl) (QAll.cons (QOp.q rfl rfl (Quiet1.loadP (i := 0) hT rfl rfl rfl rfl rfl rfl) rfl rfl) (QAll.cons (QOp.p hT rfl rfl rfl rfl rfl) (QAll.cons (QOp.q rfl rfl (Quiet1.loadP (i := 0) hT rfl rfl rfl rfl rfl rfl) rfl rfl) (QAll.cons (QOp.q rfl rfl (Quiet1.loadSP (i := 2) (l := [_, _, _]) hT rfl rfl rfl rfl rfl rfl rfl rfl) rfl rfl) QAll.nil)))))) ?_
  refine EAll.cons ?_ EAll.nil
  refine EOp.e rfl rfl rfl (EffX.call (f := 123) (sh := fun h => ratio_den _ h _) (H0 := H) rfl Tryz.call123 rfl (hl := fun w m hr hw => lift_ratio_den _ w m hr _ hw)) ?_
  rintro _ _ ⟨v_4, h0u6, rfl, rfl, H⟩
  apply Stg.next [(23, _)] rfl rfl
  refine Stg.go [0, 1, 2, 3, 4] [10] rfl rfl (QAll.cons (QOp.p hT rfl rfl rfl rfl rfl) (QAll.cons (QOp.p hT rfl rfl rfl rfl rfl) (QAll.cons (QOp.q rfl rfl (Quiet1.loadP (i := 0) hT rfl rfl rfl rfl rfl rfl) rfl rfl) (QAll.cons (QOp.p hT rfl rfl rfl rfl rfl) (QAll.cons (QOp.q rfl rfl (Quiet1.loadP (i := 0) hT rfl rfl rfl rfl rfl rfl) rfl rfl) QAll.nil))))) ?_
  refine EAll.cons ?_ EAll.nil
  refine EOp.e rfl rfl rfl (EffX.call (f := 120) (sh := fun h => nat_Bench_Mul _ _ _ h _) (H0 := H) rfl Tryz.call120 rfl (hl := fun w m hr hw => lift_nat_Bench_Mul _ _ _ w m hr _ hw)) ?_
  rintro _ _ ⟨v_5, h0u7, rfl, rfl, H⟩
  apply Stg.next [(24, _)] rfl rfl
  refine Stg.go [0, 1, 2, 3, 4] [11] rfl rfl (QAll.cons (QOp.p hT rfl rfl rfl rfl rfl) (QAll.cons (QOp.p hT rfl rfl rfl rfl rfl) (QAll.cons (QOp.q rfl rfl (Quiet1.loadP (i := 0) hT rfl rfl rfl rfl rfl rfl) rfl rfl) (QAll.cons (QOp.p hT rfl rfl rfl rfl rfl) (QAll.cons (QOp.q rfl rfl (Quiet1.loadP (i := 0) hT rfl rfl rfl rfl rfl rfl) rfl rfl) QAll.nil))))) ?_
  refine EAll.cons ?_ EAll.nil
  refine EOp.e rfl rfl rfl (EffX.call (f := 122) (sh := fun h => ratio_form _ _ _ h _) (H0 := H) rfl Tryz.call122 rfl (hl := fun w m hr hw => lift_ratio_form _ _ _ w m hr _ hw)) ?_
  rintro _ _ ⟨v_6, h0u8, rfl, rfl, H⟩
  apply Stg.next [(25, _)] rfl rfl
  refine Stg.go [0] [12] rfl rfl (QAll.cons (QOp.p hT rfl rfl rfl rfl rfl) QAll.nil) ?_
  refine EAll.cons ?_ EAll.nil
  refine EOp.e rfl rfl rfl (EffX.call (f := 121) (sh := fun h => ratio_fit _ _ h _) (H0 := H) rfl Tryz.call121 rfl (hl := fun w m hr hw => lift_ratio_fit _ _ w m hr _ hw)) ?_
  rintro _ _ ⟨v_7, h0u9, rfl, rfl, H⟩
  apply Stg.next [(26, _)] rfl rfl
  refine Stg.go [] [13] rfl rfl QAll.nil ?_
  refine EAll.cons ?_ EAll.nil
  refine EOp.e rfl rfl rfl (EffX.storeSP (i := 1) (qv := [(_, [_, _]), (_, [_, _, _]), (_, [_, _, _]), (_, [_, _, _])]) hT rfl rfl rfl rfl rfl rfl rfl rfl rfl rfl) ?_
  rintro _ _ rfl
  apply Stg.next [] rfl rfl
  refine Stg.fin [] rfl rfl QAll.nil ?_
  refine AtE.then_n (AtE.go ?_)
  refine AtC.ret ?_
  exact AtE.retN (rs := [.cell 6 43]) rfl (ResAll.cons (ResAt.cellSP (i := 1) (l := [_, _, _]) hT rfl rfl rfl rfl rfl rfl rfl) ResAll.nil) rfl H
theorem lift_ratio_Sub (b : (Option Addr)) (x0 : Bool × Sl × Sl) (y : Bool × Sl × Sl) (w : World) (m : Heap) (hr : Rel ⟨m, []⟩ w.heap) (S : (Bool × Sl × Sl) → Heap → Prop) (H : ratio_Sub b x0 y m S) :
    Calls Tryz.prog 117 #[Value.pointer b, Value.agg (C_bool_sl_sl x0).toArray, Value.agg (C_bool_sl_sl y).toArray] w (Post ⟨w, m⟩ (fun r => Value.agg (C_bool_sl_sl r).toArray) S) := by
  refine Calls.lift (args := [Value.pointer b, Value.agg (C_bool_sl_sl x0).toArray, Value.agg (C_bool_sl_sl y).toArray]) Tryz.func117 rfl Tryz.ntmps117 (Nat.le_of_ble_eq_true rfl) hr (ratio_Sub b x0 y m S) H (fun H => ?_)
  refine AtC.pick (ts := [0, 1, 2]) rfl ?_
  unfold ratio_Sub at H
  refine AtC.seqR ?_
  refine AtL.e rfl (EffX.boxP (cs := [_, _, _]) rfl rfl rfl H) ?_
  rintro _ _ ⟨b_1, _, rfl, rfl, _, H⟩
  refine AtL.e rfl (EffX.boxP (cs := [_, _, _]) rfl rfl rfl H) ?_
  rintro _ _ ⟨b_2, _, rfl, rfl, _, H⟩
  refine AtL.e rfl (EffX.allocP (cs := [_, _, _]) hT rfl rfl H) ?_
  rintro _ _ ⟨b_3, _, rfl, rfl, _, H⟩
  refine AtL.nil ?_
  replace H := H.self
  refine AtE.then_n (AtE.go ?_)
  apply AtC.seqS [3, 4, 5] [[], [], [], [], [3], [3, 4]] [[], [], [], [2], [0, 1, 2, 3], [0, 1, 2, 3, 4]] hmix (by kernel_rfl) [(7, _), (8, _), (9, _)] rfl 3 rfl
  refine Stg.go [0, 1, 2] [3] rfl rfl (QAll.cons (QOp.p hT rfl rfl rfl rfl rfl) (QAll.cons (QOp.q rfl rfl (Quiet1.loadSP (i := 2) (l := [_, _, _]) hT rfl rfl rfl rfl rfl rfl rfl rfl) rfl rfl) (QAll.cons (QOp.q rfl rfl (Quiet1.loadSP (i := 1) (l := [_, _, _]) hT rfl rfl rfl rfl rfl rfl rfl rfl) rfl rfl) QAll.nil))) ?_
  refine EAll.cons ?_ EAll.nil
  refine EOp.e rfl rfl rfl (EffX.call (f := 115) (sh := fun h => ratio_Neg _ h _) (H0 := H) rfl Tryz.call115 rfl (hl := fun w m hr hw => lift_ratio_Neg _ w m hr _ hw)) ?_
  rintro _ _ ⟨v, h0u1, rfl, rfl, H⟩
  apply Stg.next [(10, _)] rfl rfl
  refine Stg.go [0, 1] [4] rfl rfl (QAll.cons (QOp.p hT rfl rfl rfl rfl rfl) (QAll.cons (QOp.q rfl rfl (Quiet1.loadSP (i := 2) (l := [_, _, _]) hT rfl rfl rfl rfl rfl rfl rfl rfl) rfl rfl) QAll.nil)) ?_
  refine EAll.cons ?_ EAll.nil
  refine EOp.e rfl rfl rfl (EffX.call (f := 124) (sh := fun h => ratio_Add _ _ _ h _) (H0 := H) rfl Tryz.call124 rfl (hl := fun w m hr hw => lift_ratio_Add _ _ _ w m hr _ hw)) ?_
  rintro _ _ ⟨v_1, h0u2, rfl, rfl, H⟩
  apply Stg.next [(11, _)] rfl rfl
  refine Stg.go [] [5] rfl rfl QAll.nil ?_
  refine EAll.cons ?_ EAll.nil
  refine EOp.e rfl rfl rfl (EffX.storeSP (i := 0) (qv := [(_, [_, _, _]), (_, [_, _, _]), (_, [_, _, _])]) hT rfl rfl rfl rfl rfl rfl rfl rfl rfl rfl) ?_
  rintro _ _ rfl
  apply Stg.next [] rfl rfl
  refine Stg.fin [] rfl rfl QAll.nil ?_
  refine AtE.then_n (AtE.go ?_)
  refine AtC.ret ?_
  exact AtE.retN (rs := [.cell 6 43]) rfl (ResAll.cons (ResAt.cellSP (i := 0) (l := [_, _, _]) hT rfl rfl rfl rfl rfl rfl rfl) ResAll.nil) rfl H
theorem lift_ratio_Mul (b : (Option Addr)) (x0 : Bool × Sl × Sl) (y : Bool × Sl × Sl) (w : World) (m : Heap) (hr : Rel ⟨m, []⟩ w.heap) (S : (Bool × Sl × Sl) → Heap → Prop) (H : ratio_Mul b x0 y m S) :
    Calls Tryz.prog 118 #[Value.pointer b, Value.agg (C_bool_sl_sl x0).toArray, Value.agg (C_bool_sl_sl y).toArray] w (Post ⟨w, m⟩ (fun r => Value.agg (C_bool_sl_sl r).toArray) S) := by
  refine Calls.lift (args := [Value.pointer b, Value.agg (C_bool_sl_sl x0).toArray, Value.agg (C_bool_sl_sl y).toArray]) Tryz.func118 rfl Tryz.ntmps118 (Nat.le_of_ble_eq_true rfl) hr (ratio_Mul b x0 y m S) H (fun H => ?_)
  refine AtC.pick (ts := [0, 1, 2]) rfl ?_
  unfold ratio_Mul at H
  refine AtC.seqR ?_
  refine AtL.e rfl (EffX.boxP (cs := [_, _, _]) rfl rfl rfl H) ?_
  rintro _ _ ⟨b_1, _, rfl, rfl, _, H⟩
  refine AtL.e rfl (EffX.boxP (cs := [_, _, _]) rfl rfl rfl H) ?_
  rintro _ _ ⟨b_2, _, rfl, rfl, _, H⟩
  refine AtL.e rfl (EffX.allocP (cs := [_, _, _]) hT rfl rfl H) ?_
  rintro _ _ ⟨b_3, _, rfl, rfl, _, H⟩
  refine AtL.nil ?_
  replace H := H.self
  refine AtE.then_n (AtE.go ?_)
  refine AtC.seqR ?_
  refine AtL.e rfl (EffX.call (f := 119) (sh := fun h => ratio_free h _) (H0 := H) rfl Tryz.call119 rfl (hl := fun w m hr hw => lift_ratio_free  w m hr _ hw)) ?_
  rintro _ _ ⟨v, h0u1, rfl, rfl, H⟩
  refine AtL.q rfl (Quiet1.makeFn (bs := [_]) (cs := []) rfl rfl rfl) ?_
  refine AtL.pures hT 1 _ _ _ _ rfl ?_
  refine AtL.nil ?_
  refine AtE.then_n (AtE.go ?_)
  apply AtC.seqS [15, 18, 20, 21, 22, 23, 24] [[], [], [], [], [], [], [], [], [], [], [], [], [], [], [], [], [], [], [15], [], [15, 18], [15, 18, 20], [15, 18, 20, 21], [15, 18, 20, 21, 22], [15, 18, 20, 21, 22, 23]] [[], [], [1], [1, 2], [], [4], [4, 5], [1, 2, 3, 4, 5, 6], [], [], [9], [9, 10], [], [12], [12, 13], [8, 9, 10, 11, 12, 13, 14], [], [], [8, 9, 10, 11, 12, 13, 14, 15, 17], [], [8, 9, 10, 11, 12, 13, 14, 15, 17, 18, 19], [8, 9, 10, 11, 12, 13, 14, 15, 16, 17, 18, 19, 20], [1, 2, 3, 4, 5, 6, 7, 8, 9, 10, 11, 12, 13, 14, 15, 16, 17, 18, 19, 20, 21], [0, 1, 2, 3, 4, 5, 6, 7, 8, 9, 10, 11, 12, 13, 14, 15, 16, 17, 18, 19, 20, 21, 22], [0, 1, 2, 3, 4, 5, 6, 7, 8, 9, 10, 11, 12, 13, 14, 15, 16, 17, 18, 19, 20, 21, 22, 23]] hmix (by kernel_rfl) [(10, _), (11, _), (12, _), (13, _), (14, _), (15, _), (16, _), (17, _), (18, _), (19, _), (20, _), (21, _), (22, _), (23, _), (24, _), (26, _), (27, _), (29, _)] rfl 7 rfl
  refine Stg.go [0, 1, 2, 3, 4, 5, 6, 7, 8, 9, 10, 11, 12, 13, 14, 16, 17, 19] [15] rfl rfl (QAll.cons (QOp.p hT rfl rfl rfl rfl rfl) (QAll.cons (QOp.p hT rfl rfl rfl rfl rfl) (QAll.cons (QOp.p hT rfl rfl rfl rfl rfl) (QAll.cons (QOp.q rfl rfl (Quiet1.loadP (i := 2) hT rfl rfl rfl rfl rfl rfl) rfl rfl) (QAll.cons (QOp.p hT rfl rfl rfl rfl rfl) (QAll.cons (QOp.p hT rfl rfl rfl rfl rfl) (QAll.cons (QOp.q rfl rfl (Quiet1.loadP (i := 1) hT rfl rfl rfl rfl rfl rfl) rfl rfl) (QAll.cons (QOp.p hT rfl rfl rfl rfl rfl) (QAll.cons (QOp.p hT rfl rfl rfl rfl rfl) (QAll.cons (QOp.p hT rfl rfl rfl rfl rfl) (QAll.cons (QOp.p hT rfl rfl rfl rfl rfl) (QAll.cons (QOp.q rfl rfl (Quiet1.loadP (i := 2) hT rfl rfl rfl rfl rfl rfl) rfl rfl) (QAll.cons (QOp.p hT rfl rfl rfl rfl rfl) (QAll.cons (QOp.p hT rfl rfl rfl rfl rfl) (QAll.cons (QOp.q rfl rfl (Quiet1.loadP (i := 1) hT rfl rfl rfl rfl rfl rfl) rfl rfl) (QAll.cons (QOp.p hT rfl rfl rfl rfl rfl) (QAll.cons (QOp.q rfl rfl (Quiet1.loadSP (i := 2) (l := [_, _, _]) hT rfl rfl rfl rfl rfl rfl rfl rfl) rfl rfl) (QAll.cons (QOp.q rfl rfl (Quiet1.loadSP (i := 1) (l := [_, _, _]) hT rfl rfl rfl rfl rfl rfl rfl rfl) rfl rfl) QAll.nil)))))))))))))))))) ?_
  refine EAll.cons ?_ EAll.nil
  refine EOp.e rfl rfl rfl (EffX.callF (bs := [_]) (cs := []) (f := 120) (sh := fun h => nat_Bench_Mul _ _ _ h _) (H0 := H) rfl rfl Tryz.call120 rfl (hl := fun w m hr hw => lift_nat_Bench_Mul _ _ _ w m hr _ hw)) ?_
  rintro _ _ ⟨v_1, h0u2, rfl, rfl, H⟩
  apply Stg.next [(25, _)] rfl rfl
  refine Stg.go [0, 1, 2, 3, 4, 5, 6, 7, 16, 17, 19] [18] rfl rfl (QAll.cons (QOp.p hT rfl rfl rfl rfl rfl) (QAll.cons (QOp.p hT rfl rfl rfl rfl rfl) (QAll.cons (QOp.p hT rfl rfl rfl rfl rfl) (QAll.cons (QOp.q rfl rfl (Quiet1.loadP (i := 2) hT rfl rfl rfl rfl rfl rfl) rfl rfl) (QAll.cons (QOp.p hT rfl rfl rfl rfl rfl) (QAll.cons (QOp.p hT rfl rfl rfl rfl rfl) (QAll.cons (QOp.q rfl rfl (Quiet1.loadP (i := 1) hT rfl rfl rfl rfl rfl rfl) rfl rfl) (QAll.cons (QOp.p hT rfl rfl rfl rfl rfl) (QAll.cons (QOp.p hT rfl rfl rfl rfl rfl) (QAll.cons (QOp.q rfl rfl (Quiet1.loadSP (i := 2) (l := [_, _, _]) hT rfl rfl rfl rfl rfl rfl rfl rfl) rfl rfl) (QAll.cons (QOp.q rfl rfl (Quiet1.loadSP (i := 1) (l := [_, _, _]) hT rfl rfl rfl rfl rfl rfl rfl rfl) rfl rfl) QAll.nil))))))))))) ?_
  refine EAll.cons ?_ EAll.nil
  refine EOp.e rfl rfl rfl (EffX.call (f := 123) (sh := fun h => ratio_den _ h _) (H0 := H) rfl Tryz.call123 rfl (hl := fun w m hr hw => lift_ratio_den _ w m hr _ hw)) ?_
  rintro _ _ ⟨v_2, h0u3, rfl, rfl, H⟩
  apply Stg.next [(28, _)] rfl rfl
  refine Stg.go [0, 1, 2, 3, 4, 5, 6, 7, 16, 19] [20] rfl rfl (QAll.cons (QOp.p hT rfl rfl rfl rfl rfl) (QAll.cons (QOp.p hT rfl rfl rfl rfl rfl) (QAll.cons (QOp.p hT rfl rfl rfl rfl rfl) (QAll.cons (QOp.q rfl rfl (Quiet1.loadP (i := 2) hT rfl rfl rfl rfl rfl rfl) rfl rfl) (QAll.cons (QOp.p hT rfl rfl rfl rfl rfl) (QAll.cons (QOp.p hT rfl rfl rfl rfl rfl) (QAll.cons (QOp.q rfl rfl (Quiet1.loadP (i := 1) hT rfl rfl rfl rfl rfl rfl) rfl rfl) (QAll.cons (QOp.p hT rfl rfl rfl rfl rfl) (QAll.cons (QOp.p hT rfl rfl rfl rfl rfl) (QAll.cons (QOp.q rfl rfl (Quiet1.loadSP (i := 1) (l := [_, _, _]) hT rfl rfl rfl rfl rfl rfl rfl rfl) rfl rfl) QAll.nil)))))))))) ?_
  refine EAll.cons ?_ EAll.nil
  refine EOp.e rfl rfl rfl (EffX.call (f := 123) (sh := fun h => ratio_den _ h _) (H0 := H) rfl Tryz.call123 rfl (hl := fun w m hr hw => lift_ratio_den _ w m hr _ hw)) ?_
  rintro _ _ ⟨v_3, h0u4, rfl, rfl, H⟩
  apply Stg.next [(30, _)] rfl rfl
  refine Stg.go [0, 1, 2, 3, 4, 5, 6, 7, 16] [21] rfl rfl (QAll.cons (QOp.p hT rfl rfl rfl rfl rfl) (QAll.cons (QOp.p hT rfl rfl rfl rfl rfl) (QAll.cons (QOp.p hT rfl rfl rfl rfl rfl) (QAll.cons (QOp.q rfl rfl (Quiet1.loadP (i := 2) hT rfl rfl rfl rfl rfl rfl) rfl rfl) (QAll.cons (QOp.p hT rfl rfl rfl rfl rfl) (QAll.cons (QOp.p hT rfl rfl rfl rfl rfl) (QAll.cons (QOp.q rfl rfl (Quiet1.loadP (i := 1) hT rfl rfl rfl rfl rfl rfl) rfl rfl) (QAll.cons (QOp.p hT rfl rfl rfl rfl rfl) (QAll.cons (QOp.p hT rfl rfl rfl rfl rfl) QAll.nil))))))))) ?_
  refine EAll.cons ?_ EAll.nil
  refine EOp.e rfl rfl rfl (EffX.callF (bs := [_]) (cs := []) (f := 120) (sh := fun h => nat_Bench_Mul _ _ _ h _) (H0 := H) rfl rfl Tryz.call120 rfl (hl := fun w m hr hw => lift_nat_Bench_Mul _ _ _ w m hr _ hw)) ?_
  rintro _ _ ⟨v_4, h0u5, rfl, rfl, H⟩
  apply Stg.next [(31, _)] rfl rfl
  refine Stg.go [0, 1, 2, 3, 4, 5, 6, 7] [22] rfl rfl (QAll.cons (QOp.p hT rfl rfl rfl rfl rfl) (QAll.cons (QOp.p hT rfl rfl rfl rfl rfl) (QAll.cons (QOp.p hT rfl rfl rfl rfl rfl) (QAll.cons (QOp.q rfl rfl (Quiet1.loadP (i := 2) hT rfl rfl rfl rfl rfl rfl) rfl rfl) (QAll.cons (QOp.p hT rfl rfl rfl rfl rfl) (QAll.cons (QOp.p hT rfl rfl rfl rfl rfl) (QAll.cons (QOp.q rfl rfl (Quiet1.loadP (i := 1) hT rfl rfl rfl rfl rfl rfl) rfl rfl) (QAll.cons (QOp.p hT rfl rfl rfl rfl rfl) QAll.nil)))))))) ?_
  refine EAll.cons ?_ EAll.nil
  refine EOp.e rfl rfl rfl (EffX.call (f := 122) (sh := fun h => ratio_form _ _ _ h _) (H0 := H) rfl Tryz.call122 rfl (hl := fun w m hr hw => lift_ratio_form _ _ _ w m hr _ hw)) ?_
  rintro _ _ ⟨v_5, h0u6, rfl, rfl, H⟩
  apply Stg.next [(32, _)] rfl rfl
  refine Stg.go [0] [23] rfl rfl (QAll.cons (QOp.p hT rfl rfl rfl rfl rfl) QAll.nil) ?_
  refine EAll.cons ?_ EAll.nil
  refine EOp.e rfl rfl rfl (EffX.call (f := 121) (sh := fun h => ratio_fit _ _ h _) (H0 := H) rfl Tryz.call121 rfl (hl := fun w m hr hw => lift_ratio_fit _ _ w m hr _ hw)) ?_
  rintro _ _ ⟨v_6, h0u7, rfl, rfl, H⟩
  apply Stg.next [(33, _)] rfl rfl
  refine Stg.go [] [24] rfl rfl QAll.nil ?_
  refine EAll.cons ?_ EAll.nil
  refine EOp.e rfl rfl rfl (EffX.storeSP (i := 0) (qv := [(_, [_, _, _]), (_, [_, _, _]), (_, [_, _, _])]) hT rfl rfl rfl rfl rfl rfl rfl rfl rfl rfl) ?_
  rintro _ _ rfl
  apply Stg.next [] rfl rfl
  refine Stg.fin [] rfl rfl QAll.nil ?_
  refine AtE.then_n (AtE.go ?_)
  refine AtC.ret ?_
  exact AtE.retN (rs := [.cell 6 43]) rfl (ResAll.cons (ResAt.cellSP (i := 0) (l := [_, _, _]) hT rfl rfl rfl rfl rfl rfl rfl) ResAll.nil) rfl H
end Go.Proofs.YtlclchgingkkhaaGreatDoor

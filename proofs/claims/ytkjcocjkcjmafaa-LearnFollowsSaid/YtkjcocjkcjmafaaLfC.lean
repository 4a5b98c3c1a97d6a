/-
  Laws that the proof of this claim's statement leans on, each proved under the conditions that it states.
-/
import Derived.Test.YtkjcocjkcjmafaaLfB
set_option linter.unusedVariables false
set_option linter.unusedSimpArgs false
namespace Go.Proofs.Ytkjcocjkcjmafaa
open Go Go.Lift Go.Sh
set_option maxRecDepth 100000
set_option maxHeartbeats 40000000
attribute [local irreducible] Calls AtL AtC AtE AtD Eff Quiet1 Stg qAt QAll eAt EAll nextK Code.wp
def A0u0 : List (List Nat) := (rl [([], 32), ([31], 4)])
def G0u0 : List (List Nat) := [[], [0], [0, 1], [0, 1, 2], [0, 1, 2], [0, 1, 2, 4], [0, 1, 2, 4, 5], (ra 7), (ra 8), (ra 9), (ra 10), (ra 11), (ra 12), (ra 13), (ra 13), (ra 13 ++ [14]), (ra 13), (ra 13 ++ [16]), (ra 13 ++ [14, 15, 16, 17]), (ra 13 ++ [14, 15, 16, 17, 18]), (ra 20), (ra 21), (ra 22), (ra 23), (ra 24), (ra 25), (ra 24), (ra 24 ++ [26]), (ra 24), (ra 24 ++ [26, 27, 28]), (ra 24 ++ [26, 27, 28, 29]), (ra 24 ++ [26, 27, 28, 29, 30]), (ra 32), (ra 33), (ra 34), (ra 35)]
theorem lift_ref18uRight (s0 : Sl × Sl × Sl × Sl × Sl × Sl × Sl × Int) : Lf Try.prog 11 [Value.agg (C_sl_sl_sl_sl_sl_sl_sl_i64 s0).toArray] Value.bool (ref18uRight s0) := by
 refine Lf.go Try.func11 Try.ntmps11 Y Y [0] Y fun w m S H => ?_
 unfold ref18uRight at H
 refine sR (bx [_, _, _, _, _, _, _, _] H Y Y Y Y fun b _ H => p_ 1 Y (ng (sR (p_ 1 Y (zlq Y (l_ 0 Y) (p_ 2 Y ?_))))))
 replace H := H.self
 refine ng (zcs ?_)
 refine AtC.joinSeq (β := Unit) (fun (t0 : Bool) (bb : Unit) => [(57, Value.bool t0)]) (fun (t0 : Bool) (bb : Unit) => []) [1, 3] [0] (H _ rfl) Y Y (fun t0 bb h1 H => ?_) (fun J1 H HK1 => ?_)
 refine zcb H Y (fun H => ?_) (fun H => ?_)
 refine sR (p_ 1 Y (ng (zrt (ztr ?_))))
 exact r1 2 Y Y Y H
 refine zsk (tg (sR (p_ 1 Y (ng (zcs (sR (p_ 1 Y ?_)))))))
 refine ng (zck ?_)
 refine AtC.loopM (fun (s0u1 : Int × Int) => [(4, Value.int .i64 s0u1.1), (5, Value.int .i64 s0u1.2)]) (fun (s0u1 : Int × Int) => []) [1, 3] [4, 5, 1, 3] [0] [0] H Y Y Y (by decide) Y (fun Kp2 s0u1 h2 H Q2 HK2 => ?_)
 refine zcs (sR (p_ 2 Y (zlq Y (l_ 0 Y) (p_ 2 Y (ng ?_)))))
 refine zcb H Y (fun H => ?_) (fun H => ?_)
 refine zsk (tg (zcs (zck (zrg (p_ 2 Y (zlq Y (l_ 0 Y) (p_ 1 Y ?_)))))))
 refine ix hT H Y Y Y Y Y Y fun _ H => ld hT H Y Y Y Y fun _ H => p_ 3 Y (znl (zbn (tg (zrg (p_ 3 Y ?_)))))
 replace H := H _ rfl
 refine znl ?_
 exact pko (HK2 _ _ (H _ rfl)) [4, 5, 1, 3] [0] Y
 refine zxt (ztx (ztx (zbh (tg (zcs (sR (p_ 2 Y ?_)))))))
 refine zlq Y (l_ 0 Y) (p_ 3 Y (ng ?_))
 refine zcb H Y (fun H => ?_) (fun H => ?_)
 refine sR (p_ 1 Y (ng (zrt (ztr ?_))))
 exact r1 2 Y Y Y H
 refine zsk (tg (zcs (sR (p_ 1 Y (ng (zck ?_))))))
 refine AtC.loopM (fun (s0u2 : Int) => [(6, Value.int .i64 s0u2)]) (fun (s0u2 : Int) => []) [1, 3] [6, 1, 3] [0] [0] H Y Y Y (by decide) Y (fun Kp5 s0u2 h3 H Q5 HK5 => ?_)
 refine zcs (sR (p_ 2 Y (zlq Y (l_ 0 Y) (p_ 2 Y (ng ?_)))))
 refine zcb H Y (fun H => ?_) (fun H => ?_)
 refine zsk (tg (zcs (zck (sR (p_ 1 Y (zlq Y (l_ 0 Y) (p_ 1 Y ?_)))))))
 refine ix hT H Y Y Y Y Y Y fun _ H => lds hT H Y Y Y Y Y fun _ H => al hT [_, _, _] H Y Y Y fun b_1 _ H => sp hT 0 [(_, [_, _, _]), (_, [_, _, _, _, _, _, _, _])] Y Y Y Y Y Y Y Y Y Y Y fun _ => ng (zcs ?_)
 refine AtC.joinSeq (β := Unit) (fun (t0u1 : Bool) (bb_1 : Unit) => [(100, Value.bool t0u1)]) (fun (t0u1 : Bool) (bb_1 : Unit) => []) [1, 3, 6, 7] [0, 1] H.self Y Y (fun t0u1 bb_1 h5 H => ?_) (fun J8 H HK8 => ?_)
 refine zcb H Y (fun H => ?_) (fun H => ?_)
 refine sR (p_ 1 Y (ng (zrt (ztr (zbr (ztr (ztr ?_)))))))
 refine zbr (ztr ?_)
 exact r1 2 Y Y Y H
 refine zsk (tg (sR (p_ 1 Y (ng (zck ?_)))))
 refine AtC.loopM (fun (s0u3 : Int) => [(8, Value.int .i64 s0u3)]) (fun (s0u3 : Int) => []) [1, 3, 6, 7] [8, 1, 3, 6, 7] [0, 1] [0, 1] H Y Y Y (by decide) Y (fun Kp9 s0u3 h7 H Q9 HK9 => ?_)
 refine zcs (sR (p_ 2 Y (ng ?_)))
 refine zcb H Y (fun H => ?_) (fun H => ?_)
 refine zsk (tg (zcs (zck (sR (p_ 1 Y (zlq Y (l_ 0 Y) (p_ 1 Y ?_)))))))
 refine ix hT H Y Y Y Y Y Y fun _ H => ld hT H Y Y Y Y fun _ H => lc (lift_ref18uTruth _) H Try.call25 Y fun v_4 h8 H => p_ 2 Y (ng ?_)
 refine AtC.joinSeq (β := Unit) (fun (t0u2 : Int) (bb_2 : Unit) => [(9, Value.int .i64 t0u2)]) (fun (t0u2 : Int) (bb_2 : Unit) => []) [1, 3, 6, 7, 8] [0, 1] (H _ rfl) Y Y (fun t0u2 bb_2 h9 H => ?_) (fun J12 H HK12 => ?_)
 refine sR (p_ 1 Y (zlq Y (l_ 1 Y) (p_ 1 Y (ix hT H Y Y Y Y Y Y fun _ H => ld hT H Y Y Y Y fun _ H => p_ 1 Y (lc (lift_ref18ucount _ _) H Try.call32 Y fun v_7 h10 H => ?_)))))
 refine p_ 1 Y (ng ?_)
 refine zcb H Y (fun H => ?_) (fun H => ?_)
 refine sR (p_ 1 Y (ng (zrt (zbr (ztr (ztr (zbr ?_)))))))
 refine zbr (ztr (ztr (zbr (ztr ?_))))
 exact r1 2 Y Y Y H
 refine zsk (zbn (tg (zrg (p_ 3 Y (znl ?_)))))
 exact pko (HK9 _ _ (H _ rfl)) [8, 1, 3, 6, 7] [0, 1] Y
 refine sR (p_ 1 Y (zlq Y (l_ 0 Y) (p_ 1 Y (ix hT H Y Y Y Y Y Y fun _ H => ld hT H Y Y Y Y fun _ H => p_ 1 Y (ng ?_)))))
 refine zcb H Y (fun H => ?_) (fun H => ?_)
 refine zrg (p_ 3 Y (znl ?_))
 exact pko (HK12 _ () _ (H _ rfl)) [9, 1, 3, 6, 7, 8] [0, 1] Y
 refine zsk ?_
 exact pko (HK12 _ () _ H) [9, 1, 3, 6, 7, 8] [0, 1] Y
 refine zxt (ztx (ztx (zbh (zbn (tg (zrg (p_ 3 Y ?_)))))))
 refine znl ?_
 exact pko (HK5 _ _ (H _ rfl)) [6, 1, 3] [1] Y
 refine zrg (p_ 1 Y (zlq Y (l_ 0 Y) (p_ 2 Y ?_)))
 refine AtL.splitB (t := 94) H Y (fun H => ?_) (fun H => ?_)
 refine p_ 6 Y (znl ?_)
 exact pko (HK8 _ () _ H) [100, 1, 3, 6, 7] [0, 1] Y
 refine p_ 5 Y (zlq Y (l_ 0 Y) (p_ 1 Y (lc (lift_ref18uFits _ _) H Try.call29 Y fun v_2 h6 H => p_ 3 Y (znl ?_))))
 exact pko (HK8 _ () _ H) [100, 1, 3, 6, 7] [0, 1] Y
 refine zxt (ztx (ztx (zbh (tg (sR (p_ 1 Y (zle Y (EffX.mkS hT Y Y Y Y Y Y Y Y (by decide) H) ?_)))))))
 rintro _ _ ⟨v_8, h11, rfl, rfl, H⟩
 refine p_ 1 Y (ng (zcs (sR (p_ 1 Y (ng (zck ?_))))))
 refine AtC.loopM (fun (s0u4 : Int) => [(11, Value.int .i64 s0u4)]) (fun (s0u4 : Int) => []) [1, 3, 10] [11, 1, 3, 10] [0] [0] H Y Y Y (by decide) Y (fun Kp17 s0u4 h12 H Q17 HK17 => ?_)
 refine zcs (sR (p_ 3 Y (ng ?_)))
 refine zcb H Y (fun H => ?_) (fun H => ?_)
 refine zsk (tg (zcs (zck (zrg (p_ 2 Y (ix hT H Y Y Y Y Y Y fun _ H => zle Y (EffX.store hT Y Y Y Y Y H) ?_))))))
 rintro _ _ ⟨h13, rfl, H⟩
 refine znl (zbn (tg (zrg (p_ 3 Y (znl ?_)))))
 exact pko (HK17 _ _ (H _ rfl)) [11, 1, 3, 10] [0] Y
 refine zxt (ztx (ztx (zbh (tg (zcs (sR (p_ 1 Y ?_)))))))
 refine ng (zck ?_)
 refine AtC.loopM (fun (s0u5 : Int) => [(12, Value.int .i64 s0u5)]) (fun (s0u5 : Int) => []) [1, 3, 10] [12, 1, 3, 10] [0] [0] H Y Y Y (by decide) Y (fun Kp19 s0u5 h14 H Q19 HK19 => ?_)
 refine zcs (sR (p_ 2 Y (zlq Y (l_ 0 Y) (p_ 2 Y (ng ?_)))))
 refine zcb H Y (fun H => ?_) (fun H => ?_)
 refine zsk (tg (zcs (zck (sR (p_ 1 Y (zlq Y (l_ 0 Y) (p_ 1 Y ?_)))))))
 refine ix hT H Y Y Y Y Y Y fun _ H => ld hT H Y Y Y Y fun _ H => p_ 1 Y (ng (zcs ?_))
 refine AtC.joinSeq (β := Unit) (fun (t0u3 : Bool) (bb_3 : Unit) => [(172, Value.bool t0u3)]) (fun (t0u3 : Bool) (bb_3 : Unit) => []) [1, 3, 10, 12, 13] [0] H Y Y (fun t0u3 bb_3 h15 H => ?_) (fun J22 H HK22 => ?_)
 refine zcb H Y (fun H => ?_) (fun H => ?_)
 refine sR (p_ 1 Y (ng (zrt (ztr (zbr (ztr (ztr ?_)))))))
 refine zbr (ztr ?_)
 exact r1 2 Y Y Y H
 refine zsk (tg (sR (p_ 2 Y (lc (lift_ref18uTruth _) H Try.call25 Y fun v_17 h20 H => p_ 1 Y (ix hT H Y Y Y Y Y Y fun _ H => zle Y (EffX.store hT Y Y Y Y Y H) ?_)))))
 rintro _ _ ⟨h21, rfl, H⟩
 refine ng (sR (p_ 1 Y (ng (zcs (zck ?_)))))
 refine AtC.loopM (fun (s0u6 : Int) => [(14, Value.int .i64 s0u6)]) (fun (s0u6 : Int) => []) [1, 3, 10, 12, 13] [14, 1, 3, 10, 12, 13] [0] [0] H Y Y Y (by decide) Y (fun Kp31 s0u6 h22 H Q31 HK31 => ?_)
 refine zcs ?_
 refine AtC.joinSeq (β := Unit) (fun (t0u4 : Bool) (bb_4 : Unit) => [(191, Value.bool t0u4)]) (fun (t0u4 : Bool) (bb_4 : Unit) => []) [1, 3, 10, 12, 13, 14] [0] H Y Y (fun t0u4 bb_4 h23 H => ?_) (fun J32 H HK32 => ?_)
 refine zcb H Y (fun H => ?_) (fun H => ?_)
 refine zsk (tg (zck (zrg (p_ 3 Y (znl (zbn ?_))))))
 exact pko (HK31 _ _ (H _ rfl)) [14, 1, 3, 10, 12, 13] [0] Y
 refine zxt (ztx (ztx (zbh (tg ?_))))
 apply AtC.seqS [3] [[], [], [], [], [3], [3], [], [3]] [[], [0], [], [2], [0, 1, 2, 3], (ra 5), [], (ra 7)] hmix (by kernel_rfl) [(194, _), (195, _), (196, _), (200, _)] Y 1 Y
 refine Stg.go [0, 1, 2, 6] [3] Y Y (q_ Y (qq Y (l_ 0 Y) Y (q_ Y (q_ Y zqz)))) (ec (lift_ref18uTruth _) H Try.call25 Y fun v_19 h24 H => ?_)
 obtain ⟨a_11_, hc34, hd34, H⟩ := H
 obtain ⟨v_20, hc35, H⟩ := H
 apply Stg.next [(197, _), (198, _), (199, _), (201, _)] Y Y
 refine Stg.fin [0, 1, 4, 5, 6, 7] Y Y (q_ Y (qq Y (l_ 0 Y) Y (qq Y (zqi hT Y Y Y Y Y hc34 hd34) Y (qq Y (zql hT Y Y Y hc35) Y (q_ Y (q_ Y zqz)))))) (tg ?_)
 refine zcb H Y (fun H => ?_) (fun H => ?_)
 refine sR (p_ 1 Y (ng (zrt (zbr (ztr (ztr (zbr ?_)))))))
 refine ztr ?_
 exact r1 2 Y Y Y H
 refine zsk (zbn (tg (zrg (p_ 3 Y (znl ?_)))))
 exact pko (HK19 _ _ (H _ rfl)) [12, 1, 3, 10] [0] Y
 refine zrg (p_ 2 Y (zlq Y (l_ 0 Y) (p_ 3 Y ?_)))
 refine AtL.splitB (t := 183) H Y (fun H => ?_) (fun H => ?_)
 refine p_ 3 Y (zlq Y (l_ 0 Y) (p_ 3 Y (ix hT H Y Y Y Y Y Y fun _ H => p_ 1 Y (ld hT H Y Y Y Y fun _ H => p_ 5 Y (znl ?_)))))
 exact pko (HK32 _ () _ H) [191, 1, 3, 10, 12, 13, 14] [0] Y
 refine p_ 8 Y (znl ?_)
 exact pko (HK32 _ () _ H) [191, 1, 3, 10, 12, 13, 14] [0] Y
 apply AtC.stages [2, 7, 16, 20] (rl [([], 3), ([2], 5), ([2, 7], 9), ([2, 7, 16], 2), ([2, 7], 1), ([2, 7, 16], 1), ([2, 7, 16, 20], 2)]) [[], [], [0, 1], [0, 1, 2], [0, 1, 2, 3], (ra 5), (ra 5), [0, 1, 2, 3, 4, 6], (ra 8), (ra 9), (ra 10), (ra 11), (ra 12), (ra 13), (ra 14), (ra 13), (ra 13 ++ [15]), (ra 17), (ra 18), (ra 13), (ra 13 ++ [15, 16, 19]), (ra 21), (ra 22)] hmix (by kernel_rfl) [(150, _), (151, _)] Y 4 Y
 refine Stg.go [0, 1] [2] Y Y (q_ Y (q_ Y zqz)) (ec (lift_ref18uThere _ _) H Try.call33 Y fun v_11 h16 H => ?_)
 rcases iteB.cases H with ⟨hb22, H⟩ | ⟨hb22, H⟩
 apply Stg.next (nm 152 [_, _, _, _, _]) Y Y
 refine Stg.known (t := 154) Y hb22 (Stg.go [3, 4, 5, 6] [7] Y Y (q_ Y (QAll.cons (QOp.pk hT Y Y Y Y hb22 Y) (qn Y Y Y Y (by decide) Y Y (qn Y Y Y Y (by decide) Y Y zqz)))) ?_)
 refine EAll.cons ?_ EAll.nil
 refine EOp.no Y Y Y Y (by decide) Y ?_
 apply Stg.next (nm 157 [_, _, _, _, _, _, _, _, _] ++ [(169, _)]) Y Y
 refine Stg.go [5, 8, 9, 10, 11, 12, 13, 14, 15, 19] [16] Y Y (qn Y Y Y Y (by decide) Y Y (qn Y Y Y Y (by decide) Y Y (qn Y Y Y Y (by decide) Y Y (qn Y Y Y Y (by decide) Y Y (q_ Y (q_ Y (qn Y Y Y Y (by decide) Y Y (qn Y Y Y Y (by decide) Y Y (qn Y Y Y Y (by decide) Y Y (qn Y Y Y Y (by decide) Y Y zqz)))))))))) ?_
 refine EAll.cons ?_ EAll.nil
 refine EOp.no Y Y Y Y (by decide) Y ?_
 apply Stg.next (nm 166 [_, _, _]) Y Y
 refine Stg.go [13, 14, 17, 18, 19] [20] Y Y (qn Y Y Y Y (by decide) Y Y (qn Y Y Y Y (by decide) Y Y (qn Y Y Y Y (by decide) Y Y (qn Y Y Y Y (by decide) Y Y (qn Y Y Y Y (by decide) Y Y zqz))))) ?_
 refine EAll.cons ?_ EAll.nil
 refine EOp.no Y Y Y Y (by decide) Y ?_
 apply Stg.next (nm 170 [_, _, _]) Y Y
 refine Stg.fin [13, 14, 17, 18, 21, 22] Y Y (qn Y Y Y Y (by decide) Y Y (qn Y Y Y Y (by decide) Y Y (qn Y Y Y Y (by decide) Y Y (qn Y Y Y Y (by decide) Y Y (qn Y Y Y Y (by decide) Y Y (q_ Y zqz)))))) ?_
 exact pko (HK22 _ () _ H) [172, 1, 3, 10, 12, 13] [0] Y
 apply Stg.next (nm 152 [_, _, _, _, _]) Y Y
 refine Stg.known (t := 154) Y hb22 (Stg.go [3, 4, 5, 6] [7] Y Y (q_ Y (QAll.cons (QOp.pk hT Y Y Y Y hb22 Y) (QAll.cons (QOp.yp hT Y Y Y Y Y Y Y) (QAll.cons (QOp.yp hT Y Y Y Y Y Y Y) zqz)))) ?_)
 refine EAll.cons ?_ EAll.nil
 refine EOp.y Y Y Y Y Y (cl (fun h => ref18uTruth _ h _) H Y Try.call25 Y (fun w m hr hw => lift_ref18uTruth _ w m hr _ hw)) ?_
 rintro _ _ ⟨v_12, h17, rfl, rfl, H⟩
 obtain ⟨a_7_, hc23, hd23, H⟩ := H
 obtain ⟨v_13, hc24, H⟩ := H
 rcases iteB.cases H with ⟨hb25, H⟩ | ⟨hb25, H⟩
 apply Stg.next (nm 157 [_, _, _, _, _, _, _, _, _] ++ [(169, _)]) Y Y
 refine Stg.known (t := 162) Y hb25 (Stg.go [5, 8, 9, 10, 11, 12, 13, 14, 15, 19] [16] Y Y (QAll.cons (QOp.yp hT Y Y Y Y Y Y Y) (QAll.cons (QOp.y Y Y Y Y (zqi hT Y Y Y Y Y hc23 hd23) Y Y) (QAll.cons (QOp.y Y Y Y Y (zql hT Y Y Y hc24) Y Y) (QAll.cons (QOp.yp hT Y Y Y Y Y Y Y) (q_ Y (QAll.cons (QOp.pk hT Y Y Y Y hb25 Y) (qn Y Y Y Y (by decide) Y Y (qn Y Y Y Y (by decide) Y Y (qn Y Y Y Y (by decide) Y Y (qn Y Y Y Y (by decide) Y Y zqz)))))))))) ?_)
 refine EAll.cons ?_ EAll.nil
 refine EOp.no Y Y Y Y (by decide) Y ?_
 apply Stg.next (nm 166 [_, _, _]) Y Y
 refine Stg.go [13, 14, 17, 18, 19] [20] Y Y (qn Y Y Y Y (by decide) Y Y (qn Y Y Y Y (by decide) Y Y (qn Y Y Y Y (by decide) Y Y (qn Y Y Y Y (by decide) Y Y (qn Y Y Y Y (by decide) Y Y zqz))))) ?_
 refine EAll.cons ?_ EAll.nil
 refine EOp.no Y Y Y Y (by decide) Y ?_
 apply Stg.next (nm 170 [_, _, _]) Y Y
 refine Stg.fin [13, 14, 17, 18, 21, 22] Y Y (qn Y Y Y Y (by decide) Y Y (qn Y Y Y Y (by decide) Y Y (qn Y Y Y Y (by decide) Y Y (qn Y Y Y Y (by decide) Y Y (qn Y Y Y Y (by decide) Y Y (q_ Y zqz)))))) ?_
 exact pko (HK22 _ () _ H) [172, 1, 3, 10, 12, 13] [0] Y
 apply Stg.next (nm 157 [_, _, _, _, _, _, _, _, _] ++ [(169, _)]) Y Y
 refine Stg.known (t := 162) Y hb25 (Stg.go [5, 8, 9, 10, 11, 12, 13, 14, 15, 19] [16] Y Y (QAll.cons (QOp.yp hT Y Y Y Y Y Y Y) (QAll.cons (QOp.y Y Y Y Y (zqi hT Y Y Y Y Y hc23 hd23) Y Y) (QAll.cons (QOp.y Y Y Y Y (zql hT Y Y Y hc24) Y Y) (QAll.cons (QOp.yp hT Y Y Y Y Y Y Y) (q_ Y (QAll.cons (QOp.pk hT Y Y Y Y hb25 Y) (QAll.cons (QOp.yp hT Y Y Y Y Y Y Y) (QAll.cons (QOp.y Y Y Y Y (l_ 0 Y) Y Y) (QAll.cons (QOp.yp hT Y Y Y Y Y Y Y) (QAll.cons (QOp.yp hT Y Y Y Y Y Y Y) zqz)))))))))) ?_)
 refine EAll.cons ?_ EAll.nil
 refine EOp.y Y Y Y Y Y (cl (fun h => ref18uTruth _ h _) H Y Try.call25 Y (fun w m hr hw => lift_ref18uTruth _ w m hr _ hw)) ?_
 rintro _ _ ⟨v_14, h18, rfl, rfl, H⟩
 obtain ⟨a_8_, hc26, hd26, H⟩ := H
 obtain ⟨v_15, hc27, H⟩ := H
 apply Stg.next (nm 166 [_, _, _]) Y Y
 refine Stg.go [13, 14, 17, 18, 19] [20] Y Y (QAll.cons (QOp.yp hT Y Y Y Y Y Y Y) (QAll.cons (QOp.y Y Y Y Y (l_ 0 Y) Y Y) (QAll.cons (QOp.y Y Y Y Y (zqi hT Y Y Y Y Y hc26 hd26) Y Y) (QAll.cons (QOp.y Y Y Y Y (zql hT Y Y Y hc27) Y Y) (QAll.cons (QOp.yp hT Y Y Y Y Y Y Y) zqz))))) ?_
 refine EAll.cons ?_ EAll.nil
 refine EOp.y Y Y Y Y Y (cl (fun h => ref18uSign _ h _) H Y Try.call24 Y (fun w m hr hw => lift_ref18uSign _ w m hr _ hw)) ?_
 rintro _ _ ⟨v_16, h19, rfl, rfl, H⟩
 obtain ⟨hc28, H⟩ := H
 apply Stg.next (nm 170 [_, _, _]) Y Y
 refine Stg.fin [13, 14, 17, 18, 21, 22] Y Y (QAll.cons (QOp.yp hT Y Y Y Y Y Y Y) (QAll.cons (QOp.y Y Y Y Y (l_ 0 Y) Y Y) (QAll.cons (QOp.y Y Y Y Y (zqi hT Y Y Y Y Y hc26 hd26) Y Y) (QAll.cons (QOp.y Y Y Y Y (zql hT Y Y Y hc28) Y Y) (QAll.cons (QOp.yp hT Y Y Y Y Y Y Y) (q_ Y zqz)))))) ?_
 exact pko (HK22 _ () _ H) [172, 1, 3, 10, 12, 13] [0] Y
 refine zxt (ztx (ztx (zbh (tg (zcs (sR (p_ 1 Y ?_)))))))
 refine ng (zck ?_)
 refine AtC.loopM (fun (s0u7 : Int) => [(15, Value.int .i64 s0u7)]) (fun (s0u7 : Int) => []) [1, 3, 10] [15, 1, 3, 10] [0] [0] H Y Y Y (by decide) Y (fun Kp37 s0u7 h25 H Q37 HK37 => ?_)
 refine zcs (sR (p_ 2 Y (zlq Y (l_ 0 Y) (p_ 2 Y (ng ?_)))))
 refine zcb H Y (fun H => ?_) (fun H => ?_)
 refine zsk (tg (zcs (zck (sR (p_ 1 Y (zlq Y (l_ 0 Y) (p_ 1 Y ?_)))))))
 refine ix hT H Y Y Y Y Y Y fun _ H => ld hT H Y Y Y Y fun _ H => p_ 1 Y (ng ?_)
 refine AtC.joinSeq (β := Unit) (fun (t0u5 : Bool) (bb_5 : Unit) => [(249, Value.bool t0u5)]) (fun (t0u5 : Bool) (bb_5 : Unit) => []) [1, 3, 10, 15] [0] H Y Y (fun t0u5 bb_5 h26 H => ?_) (fun J40 H HK40 => ?_)
 refine zcb H Y (fun H => ?_) (fun H => ?_)
 refine sR (p_ 1 Y (ng (zrt (zbr (ztr (ztr (zbr ?_)))))))
 refine ztr ?_
 exact r1 2 Y Y Y H
 refine zsk (zbn (tg (zrg (p_ 3 Y (znl ?_)))))
 exact pko (HK37 _ _ (H _ rfl)) [15, 1, 3, 10] [0] Y
 rcases iteB.cases H with ⟨hb40, H⟩ | ⟨hb40, H⟩
 apply AtC.stages [31] A0u0 G0u0 hmix (by kernel_rfl) (nm 214 [_, _, _, _, _, _, _, _, _, _, _, _, _, _, _, _, _, _, _, _, _, _, _, _, _, _, _, _, _, _, _]) Y 1 Y
 refine Stg.known (t := 216) Y hb40 (Stg.go (ra 31) [31] Y Y (q_ Y (q_ Y (QAll.cons (QOp.pk hT Y Y Y Y hb40 Y) (qn Y Y Y Y (by decide) Y Y (qn Y Y Y Y (by decide) Y Y (qn Y Y Y Y (by decide) Y Y (qn Y Y Y Y (by decide) Y Y (qn Y Y Y Y (by decide) Y Y (q_ Y (q_ Y (qn Y Y Y Y (by decide) Y Y (qn Y Y Y Y (by decide) Y Y (qn Y Y Y Y (by decide) Y Y (QAll.cons (QOp.u Y Y Y Y Y Y) (QAll.cons (QOp.u Y Y Y Y Y Y) (QAll.cons (QOp.u Y Y Y Y Y Y) (QAll.cons (QOp.u Y Y Y Y Y Y) (QAll.cons (QOp.u Y Y Y Y Y Y) (QAll.cons (QOp.u Y Y Y Y Y Y) (QAll.cons (QOp.u Y Y Y Y Y Y) (QAll.cons (QOp.u Y Y Y Y Y Y) (qn Y Y Y Y (by decide) Y Y (q_ Y (q_ Y (qn Y Y Y Y (by decide) Y Y (qn Y Y Y Y (by decide) Y Y (qn Y Y Y Y (by decide) Y Y (qn Y Y Y Y (by decide) Y Y (qn Y Y Y Y (by decide) Y Y (qn Y Y Y Y (by decide) Y Y (qn Y Y Y Y (by decide) Y Y zqz))))))))))))))))))))))))))))))) ?_)
 refine EAll.cons ?_ EAll.nil
 refine EOp.no Y Y Y Y (by decide) Y ?_
 apply Stg.next (nm 245 [_, _, _, _, _]) Y Y
 refine Stg.fin [24, 25, 32, 33, 34, 35] Y Y (qn Y Y Y Y (by decide) Y Y (qn Y Y Y Y (by decide) Y Y (qn Y Y Y Y (by decide) Y Y (qn Y Y Y Y (by decide) Y Y (qn Y Y Y Y (by decide) Y Y (q_ Y zqz)))))) ?_
 exact pko (HK40 _ () _ H) [249, 1, 3, 10, 15] [0] Y
 rcases iteB.cases H with ⟨hb41, H⟩ | ⟨hb41, H⟩
 apply AtC.stages [31] A0u0 G0u0 hmix (by kernel_rfl) (nm 214 [_, _, _, _, _, _, _, _, _, _, _, _, _, _, _, _, _, _, _, _, _, _, _, _, _, _, _, _, _, _, _]) Y 1 Y
 refine Stg.known (t := 216) Y hb40 (Stg.known (t := 223) Y hb41 (Stg.go (ra 31) [31] Y Y (q_ Y (q_ Y (QAll.cons (QOp.pk hT Y Y Y Y hb40 Y) (QAll.cons (QOp.yp hT Y Y Y Y Y Y Y) (QAll.cons (QOp.yp hT Y Y Y Y Y Y Y) (QAll.cons (QOp.y Y Y Y Y (l_ 0 Y) Y Y) (QAll.cons (QOp.yp hT Y Y Y Y Y Y Y) (QAll.cons (QOp.yp hT Y Y Y Y Y Y Y) (q_ Y (QAll.cons (QOp.pk hT Y Y Y Y hb41 Y) (qn Y Y Y Y (by decide) Y Y (qn Y Y Y Y (by decide) Y Y (qn Y Y Y Y (by decide) Y Y (QAll.cons (QOp.u Y Y Y Y Y Y) (QAll.cons (QOp.u Y Y Y Y Y Y) (QAll.cons (QOp.u Y Y Y Y Y Y) (QAll.cons (QOp.u Y Y Y Y Y Y) (QAll.cons (QOp.u Y Y Y Y Y Y) (QAll.cons (QOp.u Y Y Y Y Y Y) (QAll.cons (QOp.u Y Y Y Y Y Y) (QAll.cons (QOp.u Y Y Y Y Y Y) (qn Y Y Y Y (by decide) Y Y (q_ Y (q_ Y (qn Y Y Y Y (by decide) Y Y (qn Y Y Y Y (by decide) Y Y (qn Y Y Y Y (by decide) Y Y (qn Y Y Y Y (by decide) Y Y (qn Y Y Y Y (by decide) Y Y (qn Y Y Y Y (by decide) Y Y (qn Y Y Y Y (by decide) Y Y zqz))))))))))))))))))))))))))))))) ?_))
 refine EAll.cons ?_ EAll.nil
 refine EOp.no Y Y Y Y (by decide) Y ?_
 apply Stg.next (nm 245 [_, _, _, _, _]) Y Y
 refine Stg.fin [24, 25, 32, 33, 34, 35] Y Y (qn Y Y Y Y (by decide) Y Y (qn Y Y Y Y (by decide) Y Y (qn Y Y Y Y (by decide) Y Y (qn Y Y Y Y (by decide) Y Y (qn Y Y Y Y (by decide) Y Y (q_ Y zqz)))))) ?_
 exact pko (HK40 _ () _ H) [249, 1, 3, 10, 15] [0] Y
 rcases iteB.cases H with ⟨hb42, H⟩ | ⟨hb42, H⟩
 obtain ⟨a_13_, hc43, hd43, H⟩ := H
 obtain ⟨v_22, hc44, H⟩ := H
 rcases iteB.cases H with ⟨hb45, H⟩ | ⟨hb45, H⟩
 apply AtC.stages [31] A0u0 G0u0 hmix (by kernel_rfl) (nm 214 [_, _, _, _, _, _, _, _, _, _, _, _, _, _, _, _, _, _, _, _, _, _, _, _, _, _, _, _, _, _, _]) Y 1 Y
 refine Stg.known (t := 216) Y hb40 (Stg.known (t := 223) Y hb41 (Stg.known (t := 226) Y hb42 (Stg.known (t := 237) Y hb45 (Stg.go (ra 31) [31] Y Y (q_ Y (q_ Y (QAll.cons (QOp.pk hT Y Y Y Y hb40 Y) (QAll.cons (QOp.yp hT Y Y Y Y Y Y Y) (QAll.cons (QOp.yp hT Y Y Y Y Y Y Y) (QAll.cons (QOp.y Y Y Y Y (l_ 0 Y) Y Y) (QAll.cons (QOp.yp hT Y Y Y Y Y Y Y) (QAll.cons (QOp.yp hT Y Y Y Y Y Y Y) (q_ Y (QAll.cons (QOp.pk hT Y Y Y Y hb41 Y) (QAll.cons (QOp.yp hT Y Y Y Y Y Y Y) (QAll.cons (QOp.yp hT Y Y Y Y Y Y Y) (QAll.cons (QOp.ypk hT Y Y Y Y Y Y hb42 Y) (QAll.cons (QOp.yp hT Y Y Y Y Y Y Y) (QAll.cons (QOp.yp hT Y Y Y Y Y Y Y) (QAll.cons (QOp.y Y Y Y Y (l_ 0 Y) Y Y) (QAll.cons (QOp.yp hT Y Y Y Y Y Y Y) (QAll.cons (QOp.yp hT Y Y Y Y Y Y Y) (QAll.cons (QOp.y Y Y Y Y (zqi hT Y Y Y Y Y hc43 hd43) Y Y) (QAll.cons (QOp.y Y Y Y Y (zql hT Y Y Y hc44) Y Y) (QAll.cons (QOp.yp hT Y Y Y Y Y Y Y) (QAll.cons (QOp.yp hT Y Y Y Y Y Y Y) (q_ Y (QAll.cons (QOp.pk hT Y Y Y Y hb45 Y) (qn Y Y Y Y (by decide) Y Y (qn Y Y Y Y (by decide) Y Y (qn Y Y Y Y (by decide) Y Y (qn Y Y Y Y (by decide) Y Y (qn Y Y Y Y (by decide) Y Y (qn Y Y Y Y (by decide) Y Y (qn Y Y Y Y (by decide) Y Y zqz))))))))))))))))))))))))))))))) ?_))))
 refine EAll.cons ?_ EAll.nil
 refine EOp.no Y Y Y Y (by decide) Y ?_
 apply Stg.next (nm 245 [_, _, _, _, _]) Y Y
 refine Stg.fin [24, 25, 32, 33, 34, 35] Y Y (qn Y Y Y Y (by decide) Y Y (qn Y Y Y Y (by decide) Y Y (qn Y Y Y Y (by decide) Y Y (qn Y Y Y Y (by decide) Y Y (qn Y Y Y Y (by decide) Y Y (q_ Y zqz)))))) ?_
 exact pko (HK40 _ () _ H) [249, 1, 3, 10, 15] [0] Y
 obtain ⟨a_14_, hc46, hd46, H⟩ := H
 obtain ⟨v_23, hc47, H⟩ := H
 apply AtC.stages [31] A0u0 G0u0 hmix (by kernel_rfl) (nm 214 [_, _, _, _, _, _, _, _, _, _, _, _, _, _, _, _, _, _, _, _, _, _, _, _, _, _, _, _, _, _, _]) Y 1 Y
 refine Stg.known (t := 216) Y hb40 (Stg.known (t := 223) Y hb41 (Stg.known (t := 226) Y hb42 (Stg.known (t := 237) Y hb45 (Stg.go (ra 31) [31] Y Y (q_ Y (q_ Y (QAll.cons (QOp.pk hT Y Y Y Y hb40 Y) (QAll.cons (QOp.yp hT Y Y Y Y Y Y Y) (QAll.cons (QOp.yp hT Y Y Y Y Y Y Y) (QAll.cons (QOp.y Y Y Y Y (l_ 0 Y) Y Y) (QAll.cons (QOp.yp hT Y Y Y Y Y Y Y) (QAll.cons (QOp.yp hT Y Y Y Y Y Y Y) (q_ Y (QAll.cons (QOp.pk hT Y Y Y Y hb41 Y) (QAll.cons (QOp.yp hT Y Y Y Y Y Y Y) (QAll.cons (QOp.yp hT Y Y Y Y Y Y Y) (QAll.cons (QOp.ypk hT Y Y Y Y Y Y hb42 Y) (QAll.cons (QOp.yp hT Y Y Y Y Y Y Y) (QAll.cons (QOp.yp hT Y Y Y Y Y Y Y) (QAll.cons (QOp.y Y Y Y Y (l_ 0 Y) Y Y) (QAll.cons (QOp.yp hT Y Y Y Y Y Y Y) (QAll.cons (QOp.yp hT Y Y Y Y Y Y Y) (QAll.cons (QOp.y Y Y Y Y (zqi hT Y Y Y Y Y hc43 hd43) Y Y) (QAll.cons (QOp.y Y Y Y Y (zql hT Y Y Y hc44) Y Y) (QAll.cons (QOp.yp hT Y Y Y Y Y Y Y) (QAll.cons (QOp.yp hT Y Y Y Y Y Y Y) (q_ Y (QAll.cons (QOp.pk hT Y Y Y Y hb45 Y) (QAll.cons (QOp.yp hT Y Y Y Y Y Y Y) (QAll.cons (QOp.y Y Y Y Y (l_ 0 Y) Y Y) (QAll.cons (QOp.yp hT Y Y Y Y Y Y Y) (QAll.cons (QOp.y Y Y Y Y (l_ 0 Y) Y Y) (QAll.cons (QOp.yp hT Y Y Y Y Y Y Y) (QAll.cons (QOp.y Y Y Y Y (zqi hT Y Y Y Y Y hc46 hd46) Y Y) (QAll.cons (QOp.y Y Y Y Y (zql hT Y Y Y hc47) Y Y) zqz))))))))))))))))))))))))))))))) ?_))))
 refine EAll.cons ?_ EAll.nil
 refine EOp.y Y Y Y Y Y (cl (fun h => ref18uTruth _ h _) H Y Try.call25 Y (fun w m hr hw => lift_ref18uTruth _ w m hr _ hw)) ?_
 rintro _ _ ⟨v_24, h27, rfl, rfl, H⟩
 obtain ⟨a_15_, hc48, hd48, H⟩ := H
 obtain ⟨v_25, hc49, H⟩ := H
 apply Stg.next (nm 245 [_, _, _, _, _]) Y Y
 refine Stg.fin [24, 25, 32, 33, 34, 35] Y Y (QAll.cons (QOp.yp hT Y Y Y Y Y Y Y) (QAll.cons (QOp.y Y Y Y Y (l_ 0 Y) Y Y) (QAll.cons (QOp.y Y Y Y Y (zqi hT Y Y Y Y Y hc48 hd48) Y Y) (QAll.cons (QOp.y Y Y Y Y (zql hT Y Y Y hc49) Y Y) (QAll.cons (QOp.yp hT Y Y Y Y Y Y Y) (q_ Y zqz)))))) ?_
 exact pko (HK40 _ () _ H) [249, 1, 3, 10, 15] [0] Y
 obtain ⟨a_16_, hc50, hd50, H⟩ := H
 obtain ⟨v_26, hc51, H⟩ := H
 apply AtC.stages [31] A0u0 G0u0 hmix (by kernel_rfl) (nm 214 [_, _, _, _, _, _, _, _, _, _, _, _, _, _, _, _, _, _, _, _, _, _, _, _, _, _, _, _, _, _, _]) Y 1 Y
 refine Stg.known (t := 216) Y hb40 (Stg.known (t := 223) Y hb41 (Stg.known (t := 226) Y hb42 (Stg.go (ra 31) [31] Y Y (q_ Y (q_ Y (QAll.cons (QOp.pk hT Y Y Y Y hb40 Y) (QAll.cons (QOp.yp hT Y Y Y Y Y Y Y) (QAll.cons (QOp.yp hT Y Y Y Y Y Y Y) (QAll.cons (QOp.y Y Y Y Y (l_ 0 Y) Y Y) (QAll.cons (QOp.yp hT Y Y Y Y Y Y Y) (QAll.cons (QOp.yp hT Y Y Y Y Y Y Y) (q_ Y (QAll.cons (QOp.pk hT Y Y Y Y hb41 Y) (QAll.cons (QOp.yp hT Y Y Y Y Y Y Y) (QAll.cons (QOp.yp hT Y Y Y Y Y Y Y) (QAll.cons (QOp.ypk hT Y Y Y Y Y Y hb42 Y) (qn Y Y Y Y (by decide) Y Y (qn Y Y Y Y (by decide) Y Y (qn Y Y Y Y (by decide) Y Y (qn Y Y Y Y (by decide) Y Y (qn Y Y Y Y (by decide) Y Y (qn Y Y Y Y (by decide) Y Y (qn Y Y Y Y (by decide) Y Y (qn Y Y Y Y (by decide) Y Y (QAll.cons (QOp.yp hT Y Y Y Y Y Y Y) (q_ Y (q_ Y (QAll.cons (QOp.yp hT Y Y Y Y Y Y Y) (QAll.cons (QOp.y Y Y Y Y (l_ 0 Y) Y Y) (QAll.cons (QOp.yp hT Y Y Y Y Y Y Y) (QAll.cons (QOp.y Y Y Y Y (l_ 0 Y) Y Y) (QAll.cons (QOp.yp hT Y Y Y Y Y Y Y) (QAll.cons (QOp.y Y Y Y Y (zqi hT Y Y Y Y Y hc50 hd50) Y Y) (QAll.cons (QOp.y Y Y Y Y (zql hT Y Y Y hc51) Y Y) zqz))))))))))))))))))))))))))))))) ?_)))
 refine EAll.cons ?_ EAll.nil
 refine EOp.y Y Y Y Y Y (cl (fun h => ref18uTruth _ h _) H Y Try.call25 Y (fun w m hr hw => lift_ref18uTruth _ w m hr _ hw)) ?_
 rintro _ _ ⟨v_27, h28, rfl, rfl, H⟩
 obtain ⟨a_17_, hc52, hd52, H⟩ := H
 obtain ⟨v_28, hc53, H⟩ := H
 apply Stg.next (nm 245 [_, _, _, _, _]) Y Y
 refine Stg.fin [24, 25, 32, 33, 34, 35] Y Y (QAll.cons (QOp.yp hT Y Y Y Y Y Y Y) (QAll.cons (QOp.y Y Y Y Y (l_ 0 Y) Y Y) (QAll.cons (QOp.y Y Y Y Y (zqi hT Y Y Y Y Y hc52 hd52) Y Y) (QAll.cons (QOp.y Y Y Y Y (zql hT Y Y Y hc53) Y Y) (QAll.cons (QOp.yp hT Y Y Y Y Y Y Y) (q_ Y zqz)))))) ?_
 exact pko (HK40 _ () _ H) [249, 1, 3, 10, 15] [0] Y
 refine zxt (ztx (ztx (zbh (tg (zcs (sR (p_ 1 Y ?_)))))))
 refine ng (zck ?_)
 refine AtC.loopM (fun (s0u8 : Int) => [(17, Value.int .i64 s0u8)]) (fun (s0u8 : Int) => []) [1, 3, 10] [17, 1, 3, 10] [0] [0] H Y Y Y (by decide) Y (fun Kp55 s0u8 h29 H Q55 HK55 => ?_)
 refine zcs (sR (p_ 3 Y (ng ?_)))
 refine zcb H Y (fun H => ?_) (fun H => ?_)
 refine zsk (tg ?_)
 refine AtC.joinSeq (β := Unit) (fun (t0u6 : Unit) (bb_6 : Unit) => []) (fun (t0u6 : Unit) (bb_6 : Unit) => []) [1, 3, 10, 17] [0] H Y Y (fun t0u6 bb_6 h30 H => ?_) (fun J56 H HK56 => ?_)
 refine zrg (p_ 3 Y (znl ?_))
 exact pko (HK55 _ _ (H _ rfl)) [17, 1, 3, 10] [0] Y
 refine zck (zcs ?_)
 refine AtC.joinSeq (β := Unit) (fun (t0u7 : Bool) (bb_7 : Unit) => [(283, Value.bool t0u7)]) (fun (t0u7 : Bool) (bb_7 : Unit) => []) [1, 3, 10, 17] [0] H Y Y (fun t0u7 bb_7 h31 H => ?_) (fun J57 H HK57 => ?_)
 refine zcb H Y (fun H => ?_) (fun H => ?_)
 refine sR (p_ 1 Y (ng (zrt (ztr (zbr (ztr (ztr ?_)))))))
 refine zbr (ztr ?_)
 exact r1 2 Y Y Y H
 refine zsk (tg (sR (p_ 1 Y (zlq Y (l_ 0 Y) (p_ 1 Y (ix hT H Y Y Y Y Y Y fun _ H => ld hT H Y Y Y Y fun _ H => ?_))))))
 refine p_ 1 Y (ng (zcs (sR (p_ 2 Y (ng ?_)))))
 refine zcb H Y (fun H => ?_) (fun H => ?_)
 refine zxt (ztx (zbh ?_))
 exact pko (HK56 _ () _ H) [1, 3, 10, 17] [0] Y
 refine zsk (tg (zcs ?_))
 refine AtC.joinSeq (β := Unit) (fun (t0u8 : Bool) (bb_8 : Unit) => [(299, Value.bool t0u8)]) (fun (t0u8 : Bool) (bb_8 : Unit) => []) [1, 3, 10, 17, 18] [0] H Y Y (fun t0u8 bb_8 h32 H => ?_) (fun J68 H HK68 => ?_)
 refine zcb H Y (fun H => ?_) (fun H => ?_)
 refine sR (p_ 1 Y (ng (zrt (ztr (zbr (ztr (ztr ?_)))))))
 refine zbr (ztr ?_)
 exact r1 2 Y Y Y H
 refine zsk (tg (sR (p_ 1 Y (ng (zcs (sR (p_ 1 Y ?_)))))))
 refine ng (zck ?_)
 refine AtC.loopM (fun (s0u9 : Bool × Int) => [(19, Value.bool s0u9.1), (20, Value.int .i64 s0u9.2)]) (fun (s0u9 : Bool × Int) => []) [1, 3, 10, 17, 18] [19, 20, 1, 3, 10, 17, 18] [0] [0] H Y Y Y (by decide) Y (fun Kp69 s0u9 h33 H Q69 HK69 => ?_)
 refine zcs (sR (p_ 2 Y (zlq Y (l_ 0 Y) (p_ 1 Y (ix hT H Y Y Y Y Y Y fun _ H => p_ 1 Y (ld hT H Y Y Y Y fun _ H => ?_))))))
 refine p_ 2 Y (ng ?_)
 refine zcb H Y (fun H => ?_) (fun H => ?_)
 refine zsk (tg ?_)
 refine AtC.joinSeq (β := Unit) (fun (t0u9 : Bool) (bb_9 : Unit) => [(19, Value.bool t0u9)]) (fun (t0u9 : Bool) (bb_9 : Unit) => []) [1, 3, 10, 17, 18, 20] [0] H Y Y (fun t0u9 bb_9 h34 H => ?_) (fun J72 H HK72 => ?_)
 refine zrg (p_ 3 Y (znl ?_))
 exact pko (HK69 _ _ (H _ rfl)) [19, 20, 1, 3, 10, 17, 18] [0] Y
 refine zck (sR (p_ 1 Y (zlq Y (l_ 0 Y) (p_ 1 Y (ix hT H Y Y Y Y Y Y fun _ H => p_ 1 Y (ld hT H Y Y Y Y fun _ H => ?_))))))
 refine p_ 1 Y (ix hT H Y Y Y Y Y Y fun _ H => ld hT H Y Y Y Y fun _ H => p_ 1 Y (ng (sR (p_ 1 Y (lc (lift_ref18uTruth _) H Try.call25 Y fun v_37 h35 H => ?_)))))
 refine p_ 2 Y (ng ?_)
 refine zcb H Y (fun H => ?_) (fun H => ?_)
 obtain ⟨a_26_, hc76, hd76, H⟩ := H
 obtain ⟨v_38, hc77, H⟩ := H
 apply AtC.stages [1] (rl [([], 7), ([1], 2)]) [[], [0], [], [2], [], [2, 3, 4], [2, 3, 4, 5], (ra 7), (ra 8)] hmix (by kernel_rfl) ([(324, _)] ++ nm 326 [_, _, _, _, _]) Y 1 Y
 refine Stg.go [0, 2, 3, 4, 5, 6] [1] Y Y (q_ Y (q_ Y (qq Y (l_ 0 Y) Y (q_ Y (qq Y (zqi hT Y Y Y Y Y hc76 hd76) Y (qq Y (zql hT Y Y Y hc77) Y zqz)))))) (ec (lift_ref18uSign _) H Try.call24 Y fun v_39 h36 H => ?_)
 obtain ⟨hc78, H⟩ := H
 apply Stg.next [(325, _), (331, _), (19, _)] Y Y
 refine Stg.fin [2, 3, 4, 5, 6, 7, 8] Y Y (q_ Y (qq Y (l_ 0 Y) Y (q_ Y (qq Y (zqi hT Y Y Y Y Y hc76 hd76) Y (qq Y (zql hT Y Y Y hc78) Y (q_ Y (q_ Y zqz))))))) (zbn ?_)
 exact pko (HK72 _ () _ H) [19, 1, 3, 10, 17, 18, 20] [0] Y
 refine AtC.joinSeq (β := Unit) (fun (t0u10 : Bool) (bb_10 : Unit) => [(356, Value.bool t0u10)]) (fun (t0u10 : Bool) (bb_10 : Unit) => []) [1, 3, 10, 17, 18, 19, 20] [0] H Y Y (fun t0u10 bb_10 h37 H => ?_) (fun J80 H HK80 => ?_)
 refine zcb H Y (fun H => ?_) (fun H => ?_)
 refine sR (p_ 1 Y (ng (zrt (zbr (ztr (ztr (zbr ?_)))))))
 refine ztr (zbr (ztr (ztr (zbr (ztr ?_)))))
 exact r1 2 Y Y Y H
 refine zsk (zbn ?_)
 exact pko (HK72 _ () _ H) [19, 1, 3, 10, 17, 18, 20] [0] Y
 apply AtC.stages [2, 9, 22] (rl [([], 3), ([2], 7), ([2, 9], 2), ([2], 4), ([2, 9], 7), ([2, 9, 22], 2)]) [[], [], [1], [0, 1, 2], [0, 1, 2, 3], (ra 5), (ra 6), (ra 7), (ra 7), (ra 7 ++ [8]), (ra 10), (ra 11), (ra 7), (ra 7), (ra 7 ++ [12, 13]), (ra 7 ++ [12, 13, 14]), (ra 16), (ra 17), (ra 18), (ra 19), (ra 20), (ra 19), (ra 22), (ra 23), (ra 24)] hmix (by kernel_rfl) [(332, _), (333, _)] Y 3 Y
 refine Stg.go [0, 1] [2] Y Y (q_ Y (q_ Y zqz)) (ec (lift_ref18uTruth _) H Try.call25 Y fun v_40 h38 H => ?_)
 obtain ⟨a_27_, hc80, hd80, H⟩ := H
 obtain ⟨v_41, hc81, H⟩ := H
 rcases iteB.cases H with ⟨hb82, H⟩ | ⟨hb82, H⟩
 apply Stg.next (nm 334 [_, _, _, _, _, _, _] ++ nm 344 [_, _, _, _]) Y Y
 refine Stg.known (t := 338) Y hb82 (Stg.go [0, 3, 4, 5, 6, 7, 8, 12, 13, 14, 15] [9] Y Y (q_ Y (qq Y (zqi hT Y Y Y Y Y hc80 hd80) Y (qq Y (zql hT Y Y Y hc81) Y (q_ Y (QAll.cons (QOp.pk hT Y Y Y Y hb82 Y) (qn Y Y Y Y (by decide) Y Y (qn Y Y Y Y (by decide) Y Y (qn Y Y Y Y (by decide) Y Y (qn Y Y Y Y (by decide) Y Y (qn Y Y Y Y (by decide) Y Y (qn Y Y Y Y (by decide) Y Y zqz))))))))))) ?_)
 refine EAll.cons ?_ EAll.nil
 refine EOp.no Y Y Y Y (by decide) Y ?_
 apply Stg.next (nm 341 [_, _, _] ++ nm 348 [_, _, _, _, _, _]) Y Y
 refine Stg.go [7, 10, 11, 12, 13, 14, 15, 16, 17, 18, 19, 20, 21] [22] Y Y (qn Y Y Y Y (by decide) Y Y (qn Y Y Y Y (by decide) Y Y (qn Y Y Y Y (by decide) Y Y (qn Y Y Y Y (by decide) Y Y (qn Y Y Y Y (by decide) Y Y (qn Y Y Y Y (by decide) Y Y (qn Y Y Y Y (by decide) Y Y (qn Y Y Y Y (by decide) Y Y (q_ Y (q_ Y (qn Y Y Y Y (by decide) Y Y (qn Y Y Y Y (by decide) Y Y (qn Y Y Y Y (by decide) Y Y zqz))))))))))))) ?_
 refine EAll.cons ?_ EAll.nil
 refine EOp.no Y Y Y Y (by decide) Y ?_
 apply Stg.next (nm 354 [_, _, _]) Y Y
 refine Stg.fin [23, 24] Y Y (qn Y Y Y Y (by decide) Y Y (q_ Y zqz)) ?_
 exact pko (HK80 _ () _ H) [356, 1, 3, 10, 17, 18, 19, 20] [0] Y
 obtain ⟨a_28_, hc83, hd83, H⟩ := H
 obtain ⟨v_42, hc84, H⟩ := H
 apply Stg.next (nm 334 [_, _, _, _, _, _, _] ++ nm 344 [_, _, _, _]) Y Y
 refine Stg.known (t := 338) Y hb82 (Stg.go [0, 3, 4, 5, 6, 7, 8, 12, 13, 14, 15] [9] Y Y (q_ Y (qq Y (zqi hT Y Y Y Y Y hc80 hd80) Y (qq Y (zql hT Y Y Y hc81) Y (q_ Y (QAll.cons (QOp.pk hT Y Y Y Y hb82 Y) (QAll.cons (QOp.yp hT Y Y Y Y Y Y Y) (QAll.cons (QOp.yp hT Y Y Y Y Y Y Y) (QAll.cons (QOp.yp hT Y Y Y Y Y Y Y) (QAll.cons (QOp.yp hT Y Y Y Y Y Y Y) (QAll.cons (QOp.y Y Y Y Y (zqi hT Y Y Y Y Y hc83 hd83) Y Y) (QAll.cons (QOp.y Y Y Y Y (zql hT Y Y Y hc84) Y Y) zqz))))))))))) ?_)
 refine EAll.cons ?_ EAll.nil
 refine EOp.y Y Y Y Y Y (cl (fun h => ref18uTruth _ h _) H Y Try.call25 Y (fun w m hr hw => lift_ref18uTruth _ w m hr _ hw)) ?_
 rintro _ _ ⟨v_43, h39, rfl, rfl, H⟩
 obtain ⟨hc85, H⟩ := H
 obtain ⟨a_29_, hc86, hd86, H⟩ := H
 obtain ⟨v_44, hc87, H⟩ := H
 rcases iteB.cases H with ⟨hb88, H⟩ | ⟨hb88, H⟩
 apply Stg.next (nm 341 [_, _, _] ++ nm 348 [_, _, _, _, _, _]) Y Y
 refine Stg.known (t := 350) Y hb88 (Stg.go [7, 10, 11, 12, 13, 14, 15, 16, 17, 18, 19, 20, 21] [22] Y Y (QAll.cons (QOp.yp hT Y Y Y Y Y Y Y) (QAll.cons (QOp.y Y Y Y Y (zqi hT Y Y Y Y Y hc86 hd86) Y Y) (QAll.cons (QOp.y Y Y Y Y (zql hT Y Y Y hc87) Y Y) (QAll.cons (QOp.yp hT Y Y Y Y Y Y Y) (QAll.cons (QOp.yp hT Y Y Y Y Y Y Y) (QAll.cons (QOp.y Y Y Y Y (zqi hT Y Y Y Y Y hc83 hd83) Y Y) (QAll.cons (QOp.y Y Y Y Y (zql hT Y Y Y hc85) Y Y) (QAll.cons (QOp.yp hT Y Y Y Y Y Y Y) (q_ Y (QAll.cons (QOp.pk hT Y Y Y Y hb88 Y) (qn Y Y Y Y (by decide) Y Y (qn Y Y Y Y (by decide) Y Y (qn Y Y Y Y (by decide) Y Y zqz))))))))))))) ?_)
 refine EAll.cons ?_ EAll.nil
 refine EOp.no Y Y Y Y (by decide) Y ?_
 apply Stg.next (nm 354 [_, _, _]) Y Y
 refine Stg.fin [23, 24] Y Y (qn Y Y Y Y (by decide) Y Y (q_ Y zqz)) ?_
 exact pko (HK80 _ () _ H) [356, 1, 3, 10, 17, 18, 19, 20] [0] Y
 apply Stg.next (nm 341 [_, _, _] ++ nm 348 [_, _, _, _, _, _]) Y Y
 refine Stg.known (t := 350) Y hb88 (Stg.go [7, 10, 11, 12, 13, 14, 15, 16, 17, 18, 19, 20, 21] [22] Y Y (QAll.cons (QOp.yp hT Y Y Y Y Y Y Y) (QAll.cons (QOp.y Y Y Y Y (zqi hT Y Y Y Y Y hc86 hd86) Y Y) (QAll.cons (QOp.y Y Y Y Y (zql hT Y Y Y hc87) Y Y) (QAll.cons (QOp.yp hT Y Y Y Y Y Y Y) (QAll.cons (QOp.yp hT Y Y Y Y Y Y Y) (QAll.cons (QOp.y Y Y Y Y (zqi hT Y Y Y Y Y hc83 hd83) Y Y) (QAll.cons (QOp.y Y Y Y Y (zql hT Y Y Y hc85) Y Y) (QAll.cons (QOp.yp hT Y Y Y Y Y Y Y) (q_ Y (QAll.cons (QOp.pk hT Y Y Y Y hb88 Y) (QAll.cons (QOp.yp hT Y Y Y Y Y Y Y) (QAll.cons (QOp.y Y Y Y Y (l_ 0 Y) Y Y) (QAll.cons (QOp.yp hT Y Y Y Y Y Y Y) zqz))))))))))))) ?_)
 refine EAll.cons ?_ EAll.nil
 refine EOp.y Y Y Y Y Y (cl (fun h => ref18uValue _ _ h _) H Y Try.call34 Y (fun w m hr hw => lift_ref18uValue _ _ w m hr _ hw)) ?_
 rintro _ _ ⟨v_45, h40, rfl, rfl, H⟩
 apply Stg.next (nm 354 [_, _, _]) Y Y
 refine Stg.fin [23, 24] Y Y (QAll.cons (QOp.yp hT Y Y Y Y Y Y Y) (q_ Y zqz)) ?_
 exact pko (HK80 _ () _ H) [356, 1, 3, 10, 17, 18, 19, 20] [0] Y
 refine zxt (ztx (ztx (zbh (tg (sR (p_ 2 Y (ng ?_)))))))
 refine zcb H Y (fun H => ?_) (fun H => ?_)
 refine sR (p_ 1 Y (ng (zrt (zbr (ztr (ztr (zbr ?_)))))))
 refine ztr ?_
 exact r1 2 Y Y Y H
 refine zsk (zbn ?_)
 exact pko (HK56 _ () _ H) [1, 3, 10, 17] [0] Y
 refine zrg (p_ 3 Y ?_)
 refine AtL.splitB (t := 293) H Y (fun H => ?_) (fun H => ?_)
 refine p_ 6 Y (znl ?_)
 exact pko (HK68 _ () _ H) [299, 1, 3, 10, 17, 18] [0] Y
 refine p_ 5 Y (zlq Y (l_ 0 Y) (p_ 5 Y (znl ?_)))
 exact pko (HK68 _ () _ H) [299, 1, 3, 10, 17, 18] [0] Y
 refine zrg (p_ 2 Y (ix hT H Y Y Y Y Y Y fun _ H => ld hT H Y Y Y Y fun _ H => p_ 2 Y ?_))
 refine AtL.splitB (t := 260) H Y (fun H => ?_) (fun H => ?_)
 refine p_ 3 Y (zlq Y (l_ 0 Y) (p_ 3 Y (ix hT H Y Y Y Y Y Y fun _ H => p_ 1 Y (ld hT H Y Y Y Y fun _ H => p_ 4 Y ?_))))
 refine AtL.splitB (t := 267) H Y (fun H => ?_) (fun H => ?_)
 refine p_ 19 Y (znl ?_)
 exact pko (HK57 _ () _ H) [283, 1, 3, 10, 17] [0] Y
 refine p_ 3 Y (zlq Y (l_ 0 Y) (p_ 3 Y (ix hT H Y Y Y Y Y Y fun _ H => p_ 1 Y (ld hT H Y Y Y Y fun _ H => p_ 6 Y ?_))))
 refine AtL.splitB (t := 275) H Y (fun H => ?_) (fun H => ?_)
 refine p_ 9 Y (znl ?_)
 exact pko (HK57 _ () _ H) [283, 1, 3, 10, 17] [0] Y
 refine p_ 3 Y (zlq Y (l_ 0 Y) (p_ 3 Y (ix hT H Y Y Y Y Y Y fun _ H => p_ 1 Y (ld hT H Y Y Y Y fun _ H => p_ 5 Y (znl ?_)))))
 exact pko (HK57 _ () _ H) [283, 1, 3, 10, 17] [0] Y
 refine p_ 7 Y (AtL.noU Y Y Y Y (AtL.noU Y Y Y Y (AtL.noU Y Y Y Y (AtL.noU Y Y Y Y (AtL.noU Y Y Y Y (AtL.noU Y Y Y Y (p_ 2 Y ?_)))))))
 refine AtL.noU Y Y Y Y (AtL.noU Y Y Y Y (AtL.noU Y Y Y Y (AtL.noU Y Y Y Y (AtL.noU Y Y Y Y (AtL.noU Y Y Y Y (p_ 2 Y (znl ?_)))))))
 exact pko (HK57 _ () _ H) [283, 1, 3, 10, 17] [0] Y
 refine zxt (ztx (ztx (zbh (tg (sR (p_ 1 Y (ng ?_)))))))
 refine zrt ?_
 exact r1 2 Y Y Y H
 refine zrg (p_ 1 Y (zlq Y (l_ 0 Y) (p_ 5 Y ?_)))
 refine AtL.splitB (t := 31) H Y (fun H => ?_) (fun H => ?_)
 refine p_ 26 Y (znl ?_)
 exact pko (HK1 _ () _ H) [57, 1, 3] [0] Y
 refine p_ 3 Y (zlq Y (l_ 0 Y) (p_ 8 Y ?_))
 refine AtL.splitB (t := 38) H Y (fun H => ?_) (fun H => ?_)
 refine p_ 19 Y (znl ?_)
 exact pko (HK1 _ () _ H) [57, 1, 3] [0] Y
 refine p_ 3 Y (zlq Y (l_ 0 Y) (p_ 8 Y ?_))
 refine AtL.splitB (t := 45) H Y (fun H => ?_) (fun H => ?_)
 refine p_ 12 Y (znl ?_)
 exact pko (HK1 _ () _ H) [57, 1, 3] [0] Y
 refine p_ 3 Y (zlq Y (l_ 0 Y) (p_ 4 Y ?_))
 refine AtL.splitB (t := 50) H Y (fun H => ?_) (fun H => ?_)
 refine p_ 7 Y (znl ?_)
 exact pko (HK1 _ () _ H) [57, 1, 3] [0] Y
 refine p_ 3 Y (zlq Y (l_ 0 Y) (p_ 3 Y (zlq Y (l_ 0 Y) (p_ 5 Y (znl ?_)))))
 exact pko (HK1 _ () _ H) [57, 1, 3] [0] Y
theorem lift_law19uLearnFollows (n : Int) (list : Sl) (decided : Sl) : Lf Try.prog 5 [Value.int .i64 n, Sl.toV list, Sl.toV decided] Value.bool (law19uLearnFollows n list decided) := by
 refine Lf.go Try.func5 Try.ntmps5 Y Y [0, 1, 2] Y fun w m S H => ?_
 unfold law19uLearnFollows at H
 refine sR (p_ 1 Y (ng (zcs (sR (zle Y (cl (fun h => law19uspeaks h _) H Y Try.call15 Y (fun w m hr hw => lift_law19uspeaks  w m hr _ hw)) ?_)))))
 rintro _ _ ⟨v, h0, rfl, rfl, H⟩
 refine p_ 1 Y (ng ?_)
 refine zcb H Y (fun H => ?_) (fun H => ?_)
 refine sR (p_ 1 Y (ng (zrt (ztr ?_))))
 exact r1 6 Y Y Y H
 refine zsk (tg (zcs ?_))
 refine AtC.joinSeq (β := Unit) (fun (t0 : Bool) (bb : Unit) => [(43, Value.bool t0)]) (fun (t0 : Bool) (bb : Unit) => []) [0, 1, 2] [] H Y Y (fun t0 bb h1 H => ?_) (fun J1 H HK1 => ?_)
 refine zcb H Y (fun H => ?_) (fun H => ?_)
 refine sR (p_ 1 Y (ng (zrt (ztr ?_))))
 exact r1 6 Y Y Y H
 refine zsk (tg (sR (p_ 1 Y (lc (lift_clause_New _) H Try.call21 Y fun v_2 h3 H => zle Y (EffX.alloc hT Y Y H) ?_))))
 rintro _ _ ⟨s0, h4, rfl, rfl, H⟩
 refine zle Y (EffX.storeS hT Y Y Y Y Y Y H) ?_
 rintro _ _ ⟨h5, rfl, H⟩
 refine ng (zcs (sR (p_ 3 Y (ng (zck ?_)))))
 refine AtC.loopM (fun (s0u1 : Int) => [(48, Value.int .i64 s0u1)]) (fun (s0u1 : Int) => []) [0, 2, 7, 46, 47] [48, 0, 2, 7, 46, 47] [] [] H Y Y Y (by decide) Y (fun Kp2 s0u1 h6 H Q2 HK2 => ?_)
 refine sR (p_ 1 Y (ng (zcs ?_)))
 refine zcb H Y (fun H => ?_) (fun H => ?_)
 refine zsk (tg (zcs (zck (sR (ix hT H Y Y Y Y Y Y fun _ H => ld hT H Y Y Y Y fun _ H => p_ 1 Y ?_)))))
 refine ng (zrg (p_ 1 Y (lc (lift_clause_Add _ _ _) H Try.call22 Y fun v_4 h7 H => znl (zbn (tg (zrg ?_))))))
 refine p_ 2 Y (znl ?_)
 exact pko (HK2 _ _ H) [48, 0, 2, 7, 46, 47] [] Y
 refine zxt (ztx (ztx (zbh (tg (zcs (sR (p_ 3 Y ?_)))))))
 refine ng (zck ?_)
 refine AtC.loopM (fun (s0u2 : Int) => [(57, Value.int .i64 s0u2)]) (fun (s0u2 : Int) => []) [0, 7, 55, 56] [57, 0, 7, 55, 56] [] [] H Y Y Y (by decide) Y (fun Kp5 s0u2 h8 H Q5 HK5 => ?_)
 refine sR (p_ 1 Y (ng (zcs ?_)))
 refine zcb H Y (fun H => ?_) (fun H => ?_)
 refine zsk (tg ?_)
 refine AtC.joinSeq (β := Unit) (fun (t0u1 : Unit) (bb_1 : Unit) => []) (fun (t0u1 : Unit) (bb_1 : Unit) => []) [0, 7, 55, 56, 57] [] H Y Y (fun t0u1 bb_1 h9 H => ?_) (fun J6 H HK6 => ?_)
 refine zrg (p_ 2 Y (znl ?_))
 exact pko (HK5 _ _ H) [57, 0, 7, 55, 56] [] Y
 refine zck (sR (ix hT H Y Y Y Y Y Y fun _ H => ld hT H Y Y Y Y fun _ H => p_ 1 Y (ng (zcs (sR ?_)))))
 refine p_ 1 Y (lc (lift_clause_Decide _ _) H Try.call12 Y fun v_6 h10 H => p_ 1 Y (ng ?_))
 refine zcb H Y (fun H => ?_) (fun H => ?_)
 refine zxt (ztx (zbh ?_))
 exact pko (HK6 _ () _ H) [0, 7, 55, 56, 57] [] Y
 refine zsk (tg (sR (lc (lift_clause_Run _) H Try.call14 Y fun v_7 h11 H => p_ 1 Y (ng (zcs (sR ?_))))))
 refine p_ 2 Y (ng ?_)
 refine zcb H Y (fun H => ?_) (fun H => ?_)
 refine zxt (ztx (zbh ?_))
 exact pko (HK6 _ () _ H) [0, 7, 55, 56, 57] [] Y
 refine zsk (tg (zcs (sR (p_ 2 Y (ld hT H Y Y Y Y fun _ H => p_ 2 Y (ng ?_))))))
 refine zcb H Y (fun H => ?_) (fun H => ?_)
 refine sR (p_ 1 Y (ng (zrt (ztr (zbr (ztr (ztr ?_)))))))
 refine zbr (ztr ?_)
 exact r1 6 Y Y Y H
 refine zsk (tg ?_)
 refine AtC.joinSeq (β := Nat) (fun (t0u2 : Int × Sl × Int × Sl) (bb_2 : Nat) => [(14, Value.int .i64 t0u2.1), (13, Value.pointer (some ⟨bb_2, 0, none⟩))]) (fun (t0u2 : Int × Sl × Int × Sl) (bb_2 : Nat) => [(bb_2, [Sl.toV t0u2.2.1, Value.int .i64 t0u2.2.2.1, Sl.toV t0u2.2.2.2])]) [0, 7] [] H Y Y (fun t0u2 bb_2 h12 H => ?_) (fun J10 H HK10 => ?_)
 refine zcs ?_
 refine AtC.joinSeq (β := Unit) (fun (t0u3 : Bool) (bb_3 : Unit) => [(98, Value.bool t0u3)]) (fun (t0u3 : Bool) (bb_3 : Unit) => []) [0, 7, 13] [0] H Y Y (fun t0u3 bb_3 h18 H => ?_) (fun J17 H HK17 => ?_)
 refine zcb H Y (fun H => ?_) (fun H => ?_)
 refine sR (p_ 1 Y (ng (zrt (ztr (zbr (ztr (ztr ?_)))))))
 refine zbr (ztr ?_)
 exact r1 6 Y Y Y H
 refine zsk (tg (sR (p_ 1 Y (zle Y (EffX.mkS hT Y Y Y Y Y Y Y Y (by decide) H) ?_))))
 rintro _ _ ⟨v_16, h20, rfl, rfl, H⟩
 refine p_ 1 Y (ng (zcs (sR (p_ 1 Y (zlq Y (l_ 0 Y) (p_ 2 Y (ng ?_)))))))
 refine zck ?_
 refine AtC.loopM (fun (s0u3 : Int) => [(104, Value.int .i64 s0u3)]) (fun (s0u3 : Int) => []) [7, 13, 15, 102, 103] [104, 7, 13, 15, 102, 103] [0] [0] H Y Y Y (by decide) Y (fun Kp19 s0u3 h21 H Q19 HK19 => ?_)
 refine sR (p_ 1 Y (ng (zcs ?_)))
 refine zcb H Y (fun H => ?_) (fun H => ?_)
 refine zsk (tg (zcs (zck (sR (ix hT H Y Y Y Y Y Y fun _ H => ld hT H Y Y Y Y fun _ H => p_ 1 Y ?_)))))
 refine ng (zrg (p_ 2 Y (lc (lift_ref18uTruth _) H Try.call25 Y fun v_18 h22 H => p_ 1 Y (lc (lift_ref18uSign _) H Try.call24 Y fun v_19 h23 H => p_ 1 Y (ix hT H Y Y Y Y Y Y fun _ H => ?_)))))
 refine zle Y (EffX.store hT Y Y Y Y Y H) ?_
 rintro _ _ ⟨h24, rfl, H⟩
 refine znl (zbn (tg (zrg (p_ 2 Y (znl ?_)))))
 exact pko (HK19 _ _ H) [104, 7, 13, 15, 102, 103] [0] Y
 refine zxt (ztx (ztx (zbh (tg (zcs (sR (p_ 1 Y ?_)))))))
 refine ld hT H Y Y Y Y fun _ H => p_ 2 Y (ng (zck ?_))
 refine AtC.loopM (fun (s0u4 : Int) => [(119, Value.int .i64 s0u4)]) (fun (s0u4 : Int) => []) [7, 13, 15, 117, 118] [119, 7, 13, 15, 117, 118] [0] [0] H Y Y Y (by decide) Y (fun Kp24 s0u4 h25 H Q24 HK24 => ?_)
 refine sR (p_ 1 Y (ng (zcs ?_)))
 refine zcb H Y (fun H => ?_) (fun H => ?_)
 refine zsk (tg ?_)
 refine AtC.joinSeq (β := Unit) (fun (t0u4 : Unit) (bb_4 : Unit) => []) (fun (t0u4 : Unit) (bb_4 : Unit) => []) [7, 13, 15, 117, 118, 119] [0] H Y Y (fun t0u4 bb_4 h26 H => ?_) (fun J25 H HK25 => ?_)
 refine zrg (p_ 2 Y (znl ?_))
 exact pko (HK24 _ _ H) [119, 7, 13, 15, 117, 118] [0] Y
 refine zck (sR (p_ 1 Y (ix hT H Y Y Y Y Y Y fun _ H => ld hT H Y Y Y Y fun _ H => p_ 2 Y (ng ?_))))
 refine AtC.joinSeq (β := Unit) (fun (t0u5 : Bool) (bb_5 : Unit) => [(135, Value.bool t0u5)]) (fun (t0u5 : Bool) (bb_5 : Unit) => []) [7, 13, 15, 19, 117, 118, 119] [0] H Y Y (fun t0u5 bb_5 h27 H => ?_) (fun J28 H HK28 => ?_)
 refine zcb H Y (fun H => ?_) (fun H => ?_)
 refine zrg (p_ 2 Y (lc (lift_ref18uTruth _) H Try.call25 Y fun v_25 h28 H => p_ 1 Y (lc (lift_ref18uSign _) H Try.call24 Y fun v_26 h29 H => ix hT H Y Y Y Y Y Y fun _ H => zle Y (EffX.store hT Y Y Y Y Y H) ?_)))
 rintro _ _ ⟨h30, rfl, H⟩
 refine znl (zbn ?_)
 exact pko (HK25 _ () _ H) [7, 13, 15, 117, 118, 119] [0] Y
 refine zsk (zbn ?_)
 exact pko (HK25 _ () _ H) [7, 13, 15, 117, 118, 119] [0] Y
 refine zrg (p_ 1 Y (ld hT H Y Y Y Y fun _ H => p_ 3 Y ?_))
 refine AtL.splitB (t := 128) H Y (fun H => ?_) (fun H => ?_)
 refine p_ 5 Y (ld hT H Y Y Y Y fun _ H => p_ 1 Y (ix hT H Y Y Y Y Y Y fun _ H => p_ 1 Y (ld hT H Y Y Y Y fun _ H => p_ 3 Y (znl ?_))))
 exact pko (HK28 _ () _ H) [135, 7, 13, 15, 19, 117, 118, 119] [0] Y
 refine p_ 7 Y (znl ?_)
 exact pko (HK28 _ () _ H) [135, 7, 13, 15, 19, 117, 118, 119] [0] Y
 refine zxt (ztx (ztx (zbh (tg (zcs (sR (p_ 2 Y ?_)))))))
 refine ld hT H Y Y Y Y fun _ H => lc (lift_ref18uClose _ _) H Try.call13 Y fun v_28 h31 H => p_ 5 Y (ng (sR (p_ 2 Y (ng ?_))))
 refine zcb H Y (fun H => ?_) (fun H => ?_)
 refine sR (p_ 1 Y (ng (zrt (ztr (zbr (ztr (ztr ?_)))))))
 refine zbr (ztr ?_)
 exact r1 6 Y Y Y H
 refine zsk (tg (sR (p_ 1 Y (zlq Y (l_ 0 Y) (lc (lift_clause_Back _ _) H Try.call26 Y fun v_29 h32 H => ng (zcs ?_))))))
 refine AtC.joinSeq (β := Unit) (fun (t0u6 : Bool) (bb_6 : Unit) => [(170, Value.bool t0u6)]) (fun (t0u6 : Bool) (bb_6 : Unit) => []) [7, 13] [0] H Y Y (fun t0u6 bb_6 h33 H => ?_) (fun J35 H HK35 => ?_)
 refine zcb H Y (fun H => ?_) (fun H => ?_)
 refine sR (p_ 1 Y (ng (zrt (ztr (zbr (ztr (ztr ?_)))))))
 refine zbr (ztr ?_)
 exact r1 6 Y Y Y H
 refine zsk (tg (zcs (sR (p_ 1 Y (zlq Y (l_ 0 Y) (p_ 2 Y (ng ?_)))))))
 refine zcb H Y (fun H => ?_) (fun H => ?_)
 refine sR (p_ 1 Y (zlq Y (l_ 0 Y) (p_ 2 Y (ng (zrt (ztr (zbr ?_)))))))
 refine ztr (ztr (zbr (ztr ?_)))
 exact r1 6 Y Y Y H
 refine zsk (tg (sR (p_ 1 Y (zlq Y (l_ 0 Y) (lc (lift_clause_Add _ _ _) H Try.call22 Y fun v_36 h36 H => p_ 5 Y (ng ?_))))))
 refine zcs ?_
 refine AtC.joinSeq (β := Unit) (fun (t0u7 : Bool) (bb_7 : Unit) => [(199, Value.bool t0u7)]) (fun (t0u7 : Bool) (bb_7 : Unit) => []) [7] [] H Y Y (fun t0u7 bb_7 h37 H => ?_) (fun J42 H HK42 => ?_)
 refine zcb H Y (fun H => ?_) (fun H => ?_)
 refine sR (p_ 1 Y (ng (zrt (ztr (zbr (ztr (ztr ?_)))))))
 refine zbr (ztr ?_)
 exact r1 6 Y Y Y H
 refine zsk (tg (sR ?_))
 refine AtLX.bs (hT := hT) (cs := []) H Y Y Y Y Y Y Y Y Y (fun a_10 h40 H => ?_)
 refine p_ 1 Y (ld hT H Y Y Y Y fun _ H => zle Y (EffX.appendS (s := _) (u := _) hT Y Y Y Y Y Y Y Y Y Y (by decide) H) ?_)
 rintro _ _ ⟨v_43, h41, rfl, rfl, H⟩
 refine p_ 1 Y (ng (sR (p_ 2 Y (ld hT H Y Y Y Y fun _ H => lc (lift_ref18uClose _ _) H Try.call13 Y fun v_45 h42 H => p_ 5 Y (ng ?_)))))
 refine zcs (sR (lc (lift_clause_Run _) H Try.call14 Y fun v_46 h43 H => p_ 3 Y (ng ?_)))
 refine zcb H Y (fun H => ?_) (fun H => ?_)
 refine sR (p_ 1 Y (ng (zrt (ztr (zbr (ztr (ztr ?_)))))))
 refine zbr (ztr ?_)
 exact r1 6 Y Y Y H
 refine zsk (tg ?_)
 refine AtC.joinSeq (β := Unit) (fun (t0u8 : Bool) (bb_8 : Unit) => [(6, Value.bool t0u8)]) (fun (t0u8 : Bool) (bb_8 : Unit) => []) [] [] H Y Y (fun t0u8 bb_8 h44 H => ?_) (fun J48 H HK48 => ?_)
 refine zrt (zbr (ztr (ztr (zbr (ztr ?_)))))
 exact r1 6 Y Y Y H
 refine zrg (p_ 2 Y ?_)
 refine AtL.splitB (t := 216) H Y (fun H => ?_) (fun H => ?_)
 refine p_ 6 Y (znl ?_)
 exact pko (HK48 _ () _ H) [6] [] Y
 refine p_ 3 Y (ld hT H Y Y Y Y fun _ H => p_ 3 Y (lc (lift_ref18uSameInts _ _) H Try.call10 Y fun v_48 h45 H => p_ 2 Y (znl ?_)))
 exact pko (HK48 _ () _ H) [6] [] Y
 refine zrg (p_ 3 Y ?_)
 refine AtL.splitB (t := 186) H Y (fun H => ?_) (fun H => ?_)
 refine p_ 13 Y (znl ?_)
 exact pko (HK42 _ () _ H) [199, 7] [] Y
 refine p_ 3 Y (zlq Y (l_ 0 Y) (p_ 1 Y (ix hT H Y Y Y Y Y Y fun _ H => p_ 1 Y (ld hT H Y Y Y Y fun _ H => p_ 3 Y (lc (lift_clause_Tell _ _ _) H Try.call28 Y fun v_38 h38 H => ?_)))))
 refine p_ 4 Y ?_
 refine AtL.splitB (t := 195) H Y (fun H => ?_) (fun H => ?_)
 refine p_ 4 Y (znl ?_)
 exact pko (HK42 _ () _ H) [199, 7] [] Y
 refine p_ 1 Y (lds hT H Y Y Y Y Y fun _ H => p_ 1 Y (lc (lift_ref18uRight _) H Try.call11 Y fun v_40 h39 H => p_ 3 Y (znl ?_)))
 exact pko (HK42 _ () _ H) [199, 7] [] Y
 obtain ⟨v_30, hc35, H⟩ := H
 obtain ⟨a_8_, hc36, hd36, H⟩ := H
 obtain ⟨v_31, hc37, H⟩ := H
 apply AtC.stages [5, 13] (rl [([], 6), ([5], 8), ([5, 13], 2)]) [[], [], [1], [1, 2], [1, 2, 3], (ra 5), (ra 6), (ra 7), (ra 8), (ra 9), (ra 8), (ra 8 ++ [10]), (ra 8 ++ [10, 11]), (ra 13), (ra 14), (ra 15)] hmix (by kernel_rfl) (nm 155 [_, _, _, _, _]) Y 2 Y
 refine Stg.go (ra 5) [5] Y Y (qq Y (zqs hT Y Y Y Y hc35) Y (q_ Y (qq Y (l_ 0 Y) Y (qq Y (zqi hT Y Y Y Y Y hc36 hd36) Y (qq Y (zql hT Y Y Y hc37) Y zqz))))) (ec (lift_clause_Value _ _) H Try.call27 Y fun v_32 h34 H => ?_)
 rcases iteB.cases H with ⟨hb38, H⟩ | ⟨hb38, H⟩
 apply Stg.next (nm 160 [_, _, _, _, _, _, _, _]) Y Y
 refine Stg.known (t := 162) Y hb38 (Stg.go [6, 7, 8, 9, 10, 11, 12] [13] Y Y (q_ Y (QAll.cons (QOp.pk hT Y Y Y Y hb38 Y) (qn Y Y Y Y (by decide) Y Y (qn Y Y Y Y (by decide) Y Y (qn Y Y Y Y (by decide) Y Y (qn Y Y Y Y (by decide) Y Y (qn Y Y Y Y (by decide) Y Y zqz))))))) ?_)
 refine EAll.cons ?_ EAll.nil
 refine EOp.no Y Y Y Y (by decide) Y ?_
 apply Stg.next (nm 168 [_, _, _]) Y Y
 refine Stg.fin [14, 15] Y Y (qn Y Y Y Y (by decide) Y Y (q_ Y zqz)) ?_
 exact pko (HK35 _ () _ H) [170, 7, 13] [0] Y
 obtain ⟨v_33, hc39, H⟩ := H
 obtain ⟨v_34, hs40, H⟩ := sliceOf.out H
 apply Stg.next (nm 160 [_, _, _, _, _, _, _, _]) Y Y
 refine Stg.known (t := 162) Y hb38 (Stg.go [6, 7, 8, 9, 10, 11, 12] [13] Y Y (q_ Y (QAll.cons (QOp.pk hT Y Y Y Y hb38 Y) (QAll.cons (QOp.yp hT Y Y Y Y Y Y Y) (QAll.cons (QOp.y Y Y Y Y (zql hT Y Y Y hc39) Y Y) (QAll.cons (QOp.yp hT Y Y Y Y Y Y Y) (QAll.cons (QOp.y Y Y Y Y (l_ 0 Y) Y Y) (QAll.cons (QOp.y Y Y Y Y (Quiet1.sliceIs hT Y Y Y Y Y Y Y (fun h => by cases h <;> rfl) hs40) Y Y) zqz))))))) ?_)
 refine EAll.cons ?_ EAll.nil
 refine EOp.y Y Y Y Y Y (cl (fun h => ref18uFalse _ _ h _) H Y Try.call23 Y (fun w m hr hw => lift_ref18uFalse _ _ w m hr _ hw)) ?_
 rintro _ _ ⟨v_35, h35, rfl, rfl, H⟩
 apply Stg.next (nm 168 [_, _, _]) Y Y
 refine Stg.fin [14, 15] Y Y (QAll.cons (QOp.yp hT Y Y Y Y Y Y Y) (q_ Y zqz)) ?_
 exact pko (HK35 _ () _ H) [170, 7, 13] [0] Y
 refine zrg (p_ 3 Y ?_)
 refine AtL.splitB (t := 85) H Y (fun H => ?_) (fun H => ?_)
 refine p_ 13 Y (znl ?_)
 exact pko (HK17 _ () _ H) [98, 0, 7, 13] [0] Y
 refine p_ 3 Y (zlq Y (l_ 0 Y) (p_ 6 Y ?_))
 refine AtL.splitB (t := 91) H Y (fun H => ?_) (fun H => ?_)
 refine p_ 7 Y (znl ?_)
 exact pko (HK17 _ () _ H) [98, 0, 7, 13] [0] Y
 refine p_ 3 Y (ld hT H Y Y Y Y fun _ H => p_ 3 Y (zlq Y (l_ 0 Y) (p_ 1 Y (lc (lift_ref18uFalse _ _) H Try.call23 Y fun v_15 h19 H => p_ 3 Y (znl ?_)))))
 exact pko (HK17 _ () _ H) [98, 0, 7, 13] [0] Y
 obtain ⟨v_9, hc10, H⟩ := H
 obtain ⟨v_10, hc11, H⟩ := H
 obtain ⟨a_2_, hc12, hd12, H⟩ := H
 obtain ⟨v_11, hc13, H⟩ := H
 apply AtC.stages [7, 11, 12] (rl [([], 8), ([7], 3), ([], 1), ([7, 11], 1), ([7, 11, 12], 1)]) [[], [], [1], [], [1, 2, 3], [1, 2, 3, 4], [1, 2, 3, 4, 5], (ra 7), (ra 8), (ra 9), (ra 9), [], (ra 10 ++ [11]), (ra 13)] hmix (by kernel_rfl) (nm 73 [_, _, _, _, _, _, _]) Y 3 Y
 refine Stg.go (ra 7) [7, 11] Y Y (qq Y (zqs hT Y Y Y Y hc10) Y (q_ Y (qq Y (zql hT Y Y Y hc11) Y (q_ Y (qq Y (zqi hT Y Y Y Y Y hc12 hd12) Y (q_ Y (qq Y (zql hT Y Y Y hc13) Y zqz))))))) ?_
 refine EAll.cons ?_ ?_
 refine EOp.e Y Y Y (cl (fun h => learn_From _ _ h _) H.self Y Try.call17 Y (fun w m hr hw => lift_learn_From _ _ w m hr _ hw)) ?_
 rintro _ _ ⟨v_12, h14, rfl, rfl, H⟩
 apply Stg.next [(80, _), (72, _), (81, _), (82, _)] Y Y
 refine Stg.go [8, 9, 10] [11] Y Y (q_ Y (q_ Y (q_ Y zqz))) (eo Y (zea (cs := [_, _, _]) hT Y Y H) ?_)
 rintro _ _ ⟨b, _, rfl, rfl, he14, H⟩
 apply Stg.next [(13, _)] Y Y
 refine Stg.go [8, 9, 10] [12] Y Y (q_ Y (q_ Y (q_ Y zqz))) (eo Y (zes (i := 0) (qv := [(_, [_, _, _])]) hT Y Y Y Y Y Y Y Y Y Y) ?_)
 rintro _ _ rfl
 apply Stg.next [(14, _)] Y Y
 refine Stg.fin [10, 13] Y Y (q_ Y (q_ Y zqz)) ?_
 exact pko (HK10 _ b _ H.self) [14, 13, 0, 7] [0] Y
 refine eo Y (zea (cs := [_, _, _]) hT Y Y H) ?_
 rintro _ _ ⟨b_1, _, rfl, rfl, he15, H⟩
 replace hc10 := he15.cells hc10
 replace hc11 := he15.cell hc11
 replace hc13 := he15.cell hc13
 apply Stg.next [(13, _)] Y Y
 refine Stg.go (ra 7) [7] Y Y (qq Y (zqs hT Y Y Y Y hc10) Y (q_ Y (qq Y (zql hT Y Y Y hc11) Y (q_ Y (qq Y (zqi hT Y Y Y Y Y hc12 hd12) Y (q_ Y (qq Y (zql hT Y Y Y hc13) Y zqz))))))) (ec (lift_learn_From _ _) H.self Try.call17 Y fun v_13 h16 H => ?_)
 apply Stg.next [(80, _), (72, _), (81, _), (82, _)] Y Y
 refine Stg.go [8, 9, 10] [12] Y Y (q_ Y (q_ Y (q_ Y zqz))) (eo Y (zes (i := 0) (qv := [(_, [_, _, _])]) hT Y Y Y Y Y Y Y Y Y Y) ?_)
 rintro _ _ rfl
 apply Stg.next [(14, _)] Y Y
 refine Stg.fin [10, 13] Y Y (q_ Y (q_ Y zqz)) ?_
 exact pko (HK10 _ b_1 _ H.self) [14, 13, 0, 7] [0] Y
 refine zxt (ztx (ztx (zbh (tg (sR (p_ 1 Y (ng ?_)))))))
 refine zrt ?_
 exact r1 6 Y Y Y H
 refine zrg (p_ 3 Y ?_)
 refine AtL.splitB (t := 31) H Y (fun H => ?_) (fun H => ?_)
 refine p_ 12 Y (znl ?_)
 exact pko (HK1 _ () _ H) [43, 0, 1, 2] [] Y
 refine p_ 6 Y ?_
 refine AtL.splitB (t := 35) H Y (fun H => ?_) (fun H => ?_)
 refine p_ 8 Y (znl ?_)
 exact pko (HK1 _ () _ H) [43, 0, 1, 2] [] Y
 refine p_ 3 Y (lc (lift_law18uGreat _) H Try.call7 Y fun v_1 h2 H => p_ 2 Y ?_)
 refine AtL.splitB (t := 39) H Y (fun H => ?_) (fun H => ?_)
 refine p_ 4 Y (znl ?_)
 exact pko (HK1 _ () _ H) [43, 0, 1, 2] [] Y
 refine p_ 7 Y (znl ?_)
 exact pko (HK1 _ () _ H) [43, 0, 1, 2] [] Y
end Go.Proofs.Ytkjcocjkcjmafaa

/-
  Laws that the proof of this claim's statement leans on, each proved under the conditions that it states.
-/
import Derived.Test.YtkjcocjkcjmafaaLfB
set_option linter.unusedVariables false
set_option linter.unusedSimpArgs false
namespace Go.Proofs.Ytkjcocjkcjmafaa
open Go Go.Lift Go.Sh
set_option maxRecDepth 100000
set_option maxHeartbeats 40000000
attribute [local irreducible] Calls AtL AtC AtE AtD Eff Quiet1 Stg qAt QAll eAt EAll nextK Code.wp
def A0u0 : List (List Nat) := (rl [([], 32), ([31], 4)])
def G0u0 : List (List Nat) := [[], [0], [0, 1], [0, 1, 2], [0, 1, 2], [0, 1, 2, 4], [0, 1, 2, 4, 5], (ra 7), (ra 8), (ra 9), (ra 10), (ra 11), (ra 12), (ra 13), (ra 13), (ra 13 ++ [14]), (ra 13), (ra 13 ++ [16]), (ra 13 ++ [14, 15, 16, 17]), (ra 13 ++ [14, 15, 16, 17, 18]), (ra 20), (ra 21), (ra 22), (ra 23), (ra 24), (ra 25), (ra 24), (ra 24 ++ [26]), (ra 24), (ra 24 ++ [26, 27, 28]), (ra 24 ++ [26, 27, 28, 29]), (ra 24 ++ [26, 27, 28, 29, 30]), (ra 32), (ra 33), (ra 34), (ra 35)]
def A0u1 : List (List Nat) := (rl [([], 7), ([6], 1), ([6, 7], 2)])
def G0u1 : List (List Nat) := [[], [0], [], [], [2, 3], [2, 3, 4], [2, 3, 4, 5], (ra 7), (ra 8), (ra 9)]
def A0u2 : List (List Nat) := (rl [([], 9), ([8], 14), ([8, 22], 7), ([8, 22, 27], 1), ([8, 22, 27, 30], 3)])
def G0u2 : List (List Nat) := [[], [], [0, 1], [0, 1, 2], [0, 1, 2, 3], (ra 5), [0, 1, 2, 3], [0, 1, 2, 3, 6], (ra 8), (ra 9), (ra 10), (ra 11), (ra 12), (ra 11), (ra 11 ++ [13]), (ra 15), (ra 16), (ra 17), (ra 18), (ra 19), (ra 18), (ra 18 ++ [20]), (ra 22), (ra 23), (ra 24), (ra 25), (ra 25), (ra 27), (ra 25), (ra 25), (ra 30), (ra 31), (ra 32), (ra 33)]
theorem lift_ref18uRight (s0 : Sl × Sl × Sl × Sl × Sl × Sl × Sl × Int) : Lf Try.prog 11 [Value.agg (C_sl_sl_sl_sl_sl_sl_sl_i64 s0).toArray] Value.bool (ref18uRight s0) := by
 refine Lf.go Try.func11 Try.ntmps11 Y Y [0] Y fun w m S H => ?_
 unfold ref18uRight at H
 refine sR (bx [_, _, _, _, _, _, _, _] H Y Y Y Y fun b _ H => p_ 1 Y (ng (sR (p_ 1 Y (zlq Y (l_ 0 Y) (p_ 2 Y ?_))))))
 replace H := H.self
 refine ng (zcs ?_)
 refine AtC.joinSeq (β := Unit) (fun (t0 : Bool) (bb : Unit) => [(57, Value.bool t0)]) (fun (t0 : Bool) (bb : Unit) => []) [1, 3] [0] (H _ rfl) Y Y (fun t0 bb h1 H => ?_) (fun J1 H HK1 => ?_)
 refine zcb H Y (fun H => ?_) (fun H => ?_)
 refine sR (p_ 1 Y (ng (zrt (ztr ?_))))
 exact r1 2 Y Y Y H
 refine zsk (tg (sR (p_ 1 Y (ng (zcs (sR (p_ 1 Y ?_)))))))
 refine ng (zck ?_)
 refine AtC.loopM (fun (s0u1 : Int × Int) => [(4, Value.int .i64 s0u1.1), (5, Value.int .i64 s0u1.2)]) (fun (s0u1 : Int × Int) => []) [1, 3] [4, 5, 1, 3] [0] [0] H Y Y Y (by decide) Y (fun Kp2 s0u1 h2 H Q2 HK2 => ?_)
 refine zcs (sR (p_ 2 Y (zlq Y (l_ 0 Y) (p_ 2 Y (ng ?_)))))
 refine zcb H Y (fun H => ?_) (fun H => ?_)
 refine zsk (tg (zcs (zck (zrg (p_ 2 Y (zlq Y (l_ 0 Y) (p_ 1 Y ?_)))))))
 refine ix hT H Y Y Y Y Y Y fun _ H => ld hT H Y Y Y Y fun _ H => p_ 3 Y (znl (zbn (tg (zrg (p_ 3 Y ?_)))))
 replace H := H _ rfl
 refine znl ?_
 exact pko (HK2 _ _ (H _ rfl)) [4, 5, 1, 3] [0] Y
 refine zxt (ztx (ztx (zbh (tg (zcs (sR (p_ 2 Y ?_)))))))
 refine zlq Y (l_ 0 Y) (p_ 3 Y (ng ?_))
 refine zcb H Y (fun H => ?_) (fun H => ?_)
 refine sR (p_ 1 Y (ng (zrt (ztr ?_))))
 exact r1 2 Y Y Y H
 refine zsk (tg (zcs (sR (p_ 1 Y (ng (zck ?_))))))
 refine AtC.loopM (fun (s0u2 : Int) => [(6, Value.int .i64 s0u2)]) (fun (s0u2 : Int) => []) [1, 3] [6, 1, 3] [0] [0] H Y Y Y (by decide) Y (fun Kp5 s0u2 h3 H Q5 HK5 => ?_)
 refine zcs (sR (p_ 2 Y (zlq Y (l_ 0 Y) (p_ 2 Y (ng ?_)))))
 refine zcb H Y (fun H => ?_) (fun H => ?_)
 refine zsk (tg (zcs (zck (sR (p_ 1 Y (zlq Y (l_ 0 Y) (p_ 1 Y ?_)))))))
 refine ix hT H Y Y Y Y Y Y fun _ H => lds hT H Y Y Y Y Y fun _ H => al hT [_, _, _] H Y Y Y fun b_1 _ H => sp hT 0 [(_, [_, _, _]), (_, [_, _, _, _, _, _, _, _])] Y Y Y Y Y Y Y Y Y Y Y fun _ => ng (zcs ?_)
 refine AtC.joinSeq (β := Unit) (fun (t0u1 : Bool) (bb_1 : Unit) => [(100, Value.bool t0u1)]) (fun (t0u1 : Bool) (bb_1 : Unit) => []) [1, 3, 6, 7] [0, 1] H.self Y Y (fun t0u1 bb_1 h5 H => ?_) (fun J8 H HK8 => ?_)
 refine zcb H Y (fun H => ?_) (fun H => ?_)
 refine sR (p_ 1 Y (ng (zrt (ztr (zbr (ztr (ztr ?_)))))))
 refine zbr (ztr ?_)
 exact r1 2 Y Y Y H
 refine zsk (tg (sR (p_ 1 Y (ng (zck ?_)))))
 refine AtC.loopM (fun (s0u3 : Int) => [(8, Value.int .i64 s0u3)]) (fun (s0u3 : Int) => []) [1, 3, 6, 7] [8, 1, 3, 6, 7] [0, 1] [0, 1] H Y Y Y (by decide) Y (fun Kp9 s0u3 h7 H Q9 HK9 => ?_)
 refine zcs (sR (p_ 2 Y (ng ?_)))
 refine zcb H Y (fun H => ?_) (fun H => ?_)
 refine zsk (tg (zcs (zck (sR (p_ 1 Y (zlq Y (l_ 0 Y) (p_ 1 Y ?_)))))))
 refine ix hT H Y Y Y Y Y Y fun _ H => ld hT H Y Y Y Y fun _ H => lc (lift_ref18uTruth _) H Try.call25 Y fun v_4 h8 H => p_ 2 Y (ng ?_)
 refine AtC.joinSeq (β := Unit) (fun (t0u2 : Int) (bb_2 : Unit) => [(9, Value.int .i64 t0u2)]) (fun (t0u2 : Int) (bb_2 : Unit) => []) [1, 3, 6, 7, 8] [0, 1] (H _ rfl) Y Y (fun t0u2 bb_2 h9 H => ?_) (fun J12 H HK12 => ?_)
 refine sR (p_ 1 Y (zlq Y (l_ 1 Y) (p_ 1 Y (ix hT H Y Y Y Y Y Y fun _ H => ld hT H Y Y Y Y fun _ H => p_ 1 Y (lc (lift_ref18ucount _ _) H Try.call32 Y fun v_7 h10 H => ?_)))))
 refine p_ 1 Y (ng ?_)
 refine zcb H Y (fun H => ?_) (fun H => ?_)
 refine sR (p_ 1 Y (ng (zrt (zbr (ztr (ztr (zbr ?_)))))))
 refine zbr (ztr (ztr (zbr (ztr ?_))))
 exact r1 2 Y Y Y H
 refine zsk (zbn (tg (zrg (p_ 3 Y (znl ?_)))))
 exact pko (HK9 _ _ (H _ rfl)) [8, 1, 3, 6, 7] [0, 1] Y
 refine sR (p_ 1 Y (zlq Y (l_ 0 Y) (p_ 1 Y (ix hT H Y Y Y Y Y Y fun _ H => ld hT H Y Y Y Y fun _ H => p_ 1 Y (ng ?_)))))
 refine zcb H Y (fun H => ?_) (fun H => ?_)
 refine zrg (p_ 3 Y (znl ?_))
 exact pko (HK12 _ () _ (H _ rfl)) [9, 1, 3, 6, 7, 8] [0, 1] Y
 refine zsk ?_
 exact pko (HK12 _ () _ H) [9, 1, 3, 6, 7, 8] [0, 1] Y
 refine zxt (ztx (ztx (zbh (zbn (tg (zrg (p_ 3 Y ?_)))))))
 refine znl ?_
 exact pko (HK5 _ _ (H _ rfl)) [6, 1, 3] [1] Y
 refine zrg (p_ 1 Y (zlq Y (l_ 0 Y) (p_ 2 Y ?_)))
 refine AtL.splitB (t := 94) H Y (fun H => ?_) (fun H => ?_)
 refine p_ 6 Y (znl ?_)
 exact pko (HK8 _ () _ H) [100, 1, 3, 6, 7] [0, 1] Y
 refine p_ 5 Y (zlq Y (l_ 0 Y) (p_ 1 Y (lc (lift_ref18uFits _ _) H Try.call29 Y fun v_2 h6 H => p_ 3 Y (znl ?_))))
 exact pko (HK8 _ () _ H) [100, 1, 3, 6, 7] [0, 1] Y
 refine zxt (ztx (ztx (zbh (tg (sR (p_ 1 Y (zle Y (EffX.mkS hT Y Y Y Y Y Y Y Y (by decide) H) ?_)))))))
 rintro _ _ ⟨v_8, h11, rfl, rfl, H⟩
 refine p_ 1 Y (ng (zcs (sR (p_ 1 Y (ng (zck ?_))))))
 refine AtC.loopM (fun (s0u4 : Int) => [(11, Value.int .i64 s0u4)]) (fun (s0u4 : Int) => []) [1, 3, 10] [11, 1, 3, 10] [0] [0] H Y Y Y (by decide) Y (fun Kp17 s0u4 h12 H Q17 HK17 => ?_)
 refine zcs (sR (p_ 3 Y (ng ?_)))
 refine zcb H Y (fun H => ?_) (fun H => ?_)
 refine zsk (tg (zcs (zck (zrg (p_ 2 Y (ix hT H Y Y Y Y Y Y fun _ H => zle Y (EffX.store hT Y Y Y Y Y H) ?_))))))
 rintro _ _ ⟨h13, rfl, H⟩
 refine znl (zbn (tg (zrg (p_ 3 Y (znl ?_)))))
 exact pko (HK17 _ _ (H _ rfl)) [11, 1, 3, 10] [0] Y
 refine zxt (ztx (ztx (zbh (tg (zcs (sR (p_ 1 Y ?_)))))))
 refine ng (zck ?_)
 refine AtC.loopM (fun (s0u5 : Int) => [(12, Value.int .i64 s0u5)]) (fun (s0u5 : Int) => []) [1, 3, 10] [12, 1, 3, 10] [0] [0] H Y Y Y (by decide) Y (fun Kp19 s0u5 h14 H Q19 HK19 => ?_)
 refine zcs (sR (p_ 2 Y (zlq Y (l_ 0 Y) (p_ 2 Y (ng ?_)))))
 refine zcb H Y (fun H => ?_) (fun H => ?_)
 refine zsk (tg (zcs (zck (sR (p_ 1 Y (zlq Y (l_ 0 Y) (p_ 1 Y ?_)))))))
 refine ix hT H Y Y Y Y Y Y fun _ H => ld hT H Y Y Y Y fun _ H => p_ 1 Y (ng (zcs ?_))
 refine AtC.joinSeq (β := Unit) (fun (t0u3 : Bool) (bb_3 : Unit) => [(172, Value.bool t0u3)]) (fun (t0u3 : Bool) (bb_3 : Unit) => []) [1, 3, 10, 12, 13] [0] H Y Y (fun t0u3 bb_3 h15 H => ?_) (fun J22 H HK22 => ?_)
 refine zcb H Y (fun H => ?_) (fun H => ?_)
 refine sR (p_ 1 Y (ng (zrt (ztr (zbr (ztr (ztr ?_)))))))
 refine zbr (ztr ?_)
 exact r1 2 Y Y Y H
 refine zsk (tg (sR (p_ 2 Y (lc (lift_ref18uTruth _) H Try.call25 Y fun v_17 h20 H => p_ 1 Y (ix hT H Y Y Y Y Y Y fun _ H => zle Y (EffX.store hT Y Y Y Y Y H) ?_)))))
 rintro _ _ ⟨h21, rfl, H⟩
 refine ng (sR (p_ 1 Y (ng (zcs (zck ?_)))))
 refine AtC.loopM (fun (s0u6 : Int) => [(14, Value.int .i64 s0u6)]) (fun (s0u6 : Int) => []) [1, 3, 10, 12, 13] [14, 1, 3, 10, 12, 13] [0] [0] H Y Y Y (by decide) Y (fun Kp31 s0u6 h22 H Q31 HK31 => ?_)
 refine zcs ?_
 refine AtC.joinSeq (β := Unit) (fun (t0u4 : Bool) (bb_4 : Unit) => [(191, Value.bool t0u4)]) (fun (t0u4 : Bool) (bb_4 : Unit) => []) [1, 3, 10, 12, 13, 14] [0] H Y Y (fun t0u4 bb_4 h23 H => ?_) (fun J32 H HK32 => ?_)
 refine zcb H Y (fun H => ?_) (fun H => ?_)
 refine zsk (tg (zck (zrg (p_ 3 Y (znl (zbn ?_))))))
 exact pko (HK31 _ _ (H _ rfl)) [14, 1, 3, 10, 12, 13] [0] Y
 refine zxt (ztx (ztx (zbh (tg ?_))))
 apply AtC.seqS [3] [[], [], [], [], [3], [3], [], [3]] [[], [0], [], [2], [0, 1, 2, 3], (ra 5), [], (ra 7)] hmix (by kernel_rfl) [(194, _), (195, _), (196, _), (200, _)] Y 1 Y
 refine Stg.go [0, 1, 2, 6] [3] Y Y (q_ Y (qq Y (l_ 0 Y) Y (q_ Y (q_ Y zqz)))) (ec (lift_ref18uTruth _) H Try.call25 Y fun v_19 h24 H => ?_)
 obtain ⟨a_11_, hc34, hd34, H⟩ := H
 obtain ⟨v_20, hc35, H⟩ := H
 apply Stg.next [(197, _), (198, _), (199, _), (201, _)] Y Y
 refine Stg.fin [0, 1, 4, 5, 6, 7] Y Y (q_ Y (qq Y (l_ 0 Y) Y (qq Y (zqi hT Y Y Y Y Y hc34 hd34) Y (qq Y (zql hT Y Y Y hc35) Y (q_ Y (q_ Y zqz)))))) (tg ?_)
 refine zcb H Y (fun H => ?_) (fun H => ?_)
 refine sR (p_ 1 Y (ng (zrt (zbr (ztr (ztr (zbr ?_)))))))
 refine ztr ?_
 exact r1 2 Y Y Y H
 refine zsk (zbn (tg (zrg (p_ 3 Y (znl ?_)))))
 exact pko (HK19 _ _ (H _ rfl)) [12, 1, 3, 10] [0] Y
 refine zrg (p_ 2 Y (zlq Y (l_ 0 Y) (p_ 3 Y ?_)))
 refine AtL.splitB (t := 183) H Y (fun H => ?_) (fun H => ?_)
 refine p_ 3 Y (zlq Y (l_ 0 Y) (p_ 3 Y (ix hT H Y Y Y Y Y Y fun _ H => p_ 1 Y (ld hT H Y Y Y Y fun _ H => p_ 5 Y (znl ?_)))))
 exact pko (HK32 _ () _ H) [191, 1, 3, 10, 12, 13, 14] [0] Y
 refine p_ 8 Y (znl ?_)
 exact pko (HK32 _ () _ H) [191, 1, 3, 10, 12, 13, 14] [0] Y
 apply AtC.stages [2, 7, 16, 20] (rl [([], 3), ([2], 5), ([2, 7], 9), ([2, 7, 16], 2), ([2, 7], 1), ([2, 7, 16], 1), ([2, 7, 16, 20], 2)]) [[], [], [0, 1], [0, 1, 2], [0, 1, 2, 3], (ra 5), (ra 5), [0, 1, 2, 3, 4, 6], (ra 8), (ra 9), (ra 10), (ra 11), (ra 12), (ra 13), (ra 14), (ra 13), (ra 13 ++ [15]), (ra 17), (ra 18), (ra 13), (ra 13 ++ [15, 16, 19]), (ra 21), (ra 22)] hmix (by kernel_rfl) [(150, _), (151, _)] Y 4 Y
 refine Stg.go [0, 1] [2] Y Y (q_ Y (q_ Y zqz)) (ec (lift_ref18uThere _ _) H Try.call33 Y fun v_11 h16 H => ?_)
 rcases iteB.cases H with ⟨hb22, H⟩ | ⟨hb22, H⟩
 apply Stg.next (nm 152 [_, _, _, _, _]) Y Y
 refine Stg.known (t := 154) Y hb22 (Stg.go [3, 4, 5, 6] [7] Y Y (q_ Y (QAll.cons (QOp.pk hT Y Y Y Y hb22 Y) (qn Y Y Y Y (by decide) Y Y (qn Y Y Y Y (by decide) Y Y zqz)))) ?_)
 refine EAll.cons ?_ EAll.nil
 refine EOp.no Y Y Y Y (by decide) Y ?_
 apply Stg.next (nm 157 [_, _, _, _, _, _, _, _, _] ++ [(169, _)]) Y Y
 refine Stg.go [5, 8, 9, 10, 11, 12, 13, 14, 15, 19] [16] Y Y (qn Y Y Y Y (by decide) Y Y (qn Y Y Y Y (by decide) Y Y (qn Y Y Y Y (by decide) Y Y (qn Y Y Y Y (by decide) Y Y (q_ Y (q_ Y (qn Y Y Y Y (by decide) Y Y (qn Y Y Y Y (by decide) Y Y (qn Y Y Y Y (by decide) Y Y (qn Y Y Y Y (by decide) Y Y zqz)))))))))) ?_
 refine EAll.cons ?_ EAll.nil
 refine EOp.no Y Y Y Y (by decide) Y ?_
 apply Stg.next (nm 166 [_, _, _]) Y Y
 refine Stg.go [13, 14, 17, 18, 19] [20] Y Y (qn Y Y Y Y (by decide) Y Y (qn Y Y Y Y (by decide) Y Y (qn Y Y Y Y (by decide) Y Y (qn Y Y Y Y (by decide) Y Y (qn Y Y Y Y (by decide) Y Y zqz))))) ?_
 refine EAll.cons ?_ EAll.nil
 refine EOp.no Y Y Y Y (by decide) Y ?_
 apply Stg.next (nm 170 [_, _, _]) Y Y
 refine Stg.fin [13, 14, 17, 18, 21, 22] Y Y (qn Y Y Y Y (by decide) Y Y (qn Y Y Y Y (by decide) Y Y (qn Y Y Y Y (by decide) Y Y (qn Y Y Y Y (by decide) Y Y (qn Y Y Y Y (by decide) Y Y (q_ Y zqz)))))) ?_
 exact pko (HK22 _ () _ H) [172, 1, 3, 10, 12, 13] [0] Y
 apply Stg.next (nm 152 [_, _, _, _, _]) Y Y
 refine Stg.known (t := 154) Y hb22 (Stg.go [3, 4, 5, 6] [7] Y Y (q_ Y (QAll.cons (QOp.pk hT Y Y Y Y hb22 Y) (QAll.cons (QOp.yp hT Y Y Y Y Y Y Y) (QAll.cons (QOp.yp hT Y Y Y Y Y Y Y) zqz)))) ?_)
 refine EAll.cons ?_ EAll.nil
 refine EOp.y Y Y Y Y Y (cl (fun h => ref18uTruth _ h _) H Y Try.call25 Y (fun w m hr hw => lift_ref18uTruth _ w m hr _ hw)) ?_
 rintro _ _ ⟨v_12, h17, rfl, rfl, H⟩
 obtain ⟨a_7_, hc23, hd23, H⟩ := H
 obtain ⟨v_13, hc24, H⟩ := H
 rcases iteB.cases H with ⟨hb25, H⟩ | ⟨hb25, H⟩
 apply Stg.next (nm 157 [_, _, _, _, _, _, _, _, _] ++ [(169, _)]) Y Y
 refine Stg.known (t := 162) Y hb25 (Stg.go [5, 8, 9, 10, 11, 12, 13, 14, 15, 19] [16] Y Y (QAll.cons (QOp.yp hT Y Y Y Y Y Y Y) (QAll.cons (QOp.y Y Y Y Y (zqi hT Y Y Y Y Y hc23 hd23) Y Y) (QAll.cons (QOp.y Y Y Y Y (zql hT Y Y Y hc24) Y Y) (QAll.cons (QOp.yp hT Y Y Y Y Y Y Y) (q_ Y (QAll.cons (QOp.pk hT Y Y Y Y hb25 Y) (qn Y Y Y Y (by decide) Y Y (qn Y Y Y Y (by decide) Y Y (qn Y Y Y Y (by decide) Y Y (qn Y Y Y Y (by decide) Y Y zqz)))))))))) ?_)
 refine EAll.cons ?_ EAll.nil
 refine EOp.no Y Y Y Y (by decide) Y ?_
 apply Stg.next (nm 166 [_, _, _]) Y Y
 refine Stg.go [13, 14, 17, 18, 19] [20] Y Y (qn Y Y Y Y (by decide) Y Y (qn Y Y Y Y (by decide) Y Y (qn Y Y Y Y (by decide) Y Y (qn Y Y Y Y (by decide) Y Y (qn Y Y Y Y (by decide) Y Y zqz))))) ?_
 refine EAll.cons ?_ EAll.nil
 refine EOp.no Y Y Y Y (by decide) Y ?_
 apply Stg.next (nm 170 [_, _, _]) Y Y
 refine Stg.fin [13, 14, 17, 18, 21, 22] Y Y (qn Y Y Y Y (by decide) Y Y (qn Y Y Y Y (by decide) Y Y (qn Y Y Y Y (by decide) Y Y (qn Y Y Y Y (by decide) Y Y (qn Y Y Y Y (by decide) Y Y (q_ Y zqz)))))) ?_
 exact pko (HK22 _ () _ H) [172, 1, 3, 10, 12, 13] [0] Y
 apply Stg.next (nm 157 [_, _, _, _, _, _, _, _, _] ++ [(169, _)]) Y Y
 refine Stg.known (t := 162) Y hb25 (Stg.go [5, 8, 9, 10, 11, 12, 13, 14, 15, 19] [16] Y Y (QAll.cons (QOp.yp hT Y Y Y Y Y Y Y) (QAll.cons (QOp.y Y Y Y Y (zqi hT Y Y Y Y Y hc23 hd23) Y Y) (QAll.cons (QOp.y Y Y Y Y (zql hT Y Y Y hc24) Y Y) (QAll.cons (QOp.yp hT Y Y Y Y Y Y Y) (q_ Y (QAll.cons (QOp.pk hT Y Y Y Y hb25 Y) (QAll.cons (QOp.yp hT Y Y Y Y Y Y Y) (QAll.cons (QOp.y Y Y Y Y (l_ 0 Y) Y Y) (QAll.cons (QOp.yp hT Y Y Y Y Y Y Y) (QAll.cons (QOp.yp hT Y Y Y Y Y Y Y) zqz)))))))))) ?_)
 refine EAll.cons ?_ EAll.nil
 refine EOp.y Y Y Y Y Y (cl (fun h => ref18uTruth _ h _) H Y Try.call25 Y (fun w m hr hw => lift_ref18uTruth _ w m hr _ hw)) ?_
 rintro _ _ ⟨v_14, h18, rfl, rfl, H⟩
 obtain ⟨a_8_, hc26, hd26, H⟩ := H
 obtain ⟨v_15, hc27, H⟩ := H
 apply Stg.next (nm 166 [_, _, _]) Y Y
 refine Stg.go [13, 14, 17, 18, 19] [20] Y Y (QAll.cons (QOp.yp hT Y Y Y Y Y Y Y) (QAll.cons (QOp.y Y Y Y Y (l_ 0 Y) Y Y) (QAll.cons (QOp.y Y Y Y Y (zqi hT Y Y Y Y Y hc26 hd26) Y Y) (QAll.cons (QOp.y Y Y Y Y (zql hT Y Y Y hc27) Y Y) (QAll.cons (QOp.yp hT Y Y Y Y Y Y Y) zqz))))) ?_
 refine EAll.cons ?_ EAll.nil
 refine EOp.y Y Y Y Y Y (cl (fun h => ref18uSign _ h _) H Y Try.call24 Y (fun w m hr hw => lift_ref18uSign _ w m hr _ hw)) ?_
 rintro _ _ ⟨v_16, h19, rfl, rfl, H⟩
 obtain ⟨hc28, H⟩ := H
 apply Stg.next (nm 170 [_, _, _]) Y Y
 refine Stg.fin [13, 14, 17, 18, 21, 22] Y Y (QAll.cons (QOp.yp hT Y Y Y Y Y Y Y) (QAll.cons (QOp.y Y Y Y Y (l_ 0 Y) Y Y) (QAll.cons (QOp.y Y Y Y Y (zqi hT Y Y Y Y Y hc26 hd26) Y Y) (QAll.cons (QOp.y Y Y Y Y (zql hT Y Y Y hc28) Y Y) (QAll.cons (QOp.yp hT Y Y Y Y Y Y Y) (q_ Y zqz)))))) ?_
 exact pko (HK22 _ () _ H) [172, 1, 3, 10, 12, 13] [0] Y
 refine zxt (ztx (ztx (zbh (tg (zcs (sR (p_ 1 Y ?_)))))))
 refine ng (zck ?_)
 refine AtC.loopM (fun (s0u7 : Int) => [(15, Value.int .i64 s0u7)]) (fun (s0u7 : Int) => []) [1, 3, 10] [15, 1, 3, 10] [0] [0] H Y Y Y (by decide) Y (fun Kp37 s0u7 h25 H Q37 HK37 => ?_)
 refine zcs (sR (p_ 2 Y (zlq Y (l_ 0 Y) (p_ 2 Y (ng ?_)))))
 refine zcb H Y (fun H => ?_) (fun H => ?_)
 refine zsk (tg (zcs (zck (sR (p_ 1 Y (zlq Y (l_ 0 Y) (p_ 1 Y ?_)))))))
 refine ix hT H Y Y Y Y Y Y fun _ H => ld hT H Y Y Y Y fun _ H => p_ 1 Y (ng ?_)
 refine AtC.joinSeq (β := Unit) (fun (t0u5 : Bool) (bb_5 : Unit) => [(249, Value.bool t0u5)]) (fun (t0u5 : Bool) (bb_5 : Unit) => []) [1, 3, 10, 15] [0] H Y Y (fun t0u5 bb_5 h26 H => ?_) (fun J40 H HK40 => ?_)
 refine zcb H Y (fun H => ?_) (fun H => ?_)
 refine sR (p_ 1 Y (ng (zrt (zbr (ztr (ztr (zbr ?_)))))))
 refine ztr ?_
 exact r1 2 Y Y Y H
 refine zsk (zbn (tg (zrg (p_ 3 Y (znl ?_)))))
 exact pko (HK37 _ _ (H _ rfl)) [15, 1, 3, 10] [0] Y
 rcases iteB.cases H with ⟨hb40, H⟩ | ⟨hb40, H⟩
 apply AtC.stages [31] A0u0 G0u0 hmix (by kernel_rfl) (nm 214 [_, _, _, _, _, _, _, _, _, _, _, _, _, _, _, _, _, _, _, _, _, _, _, _, _, _, _, _, _, _, _]) Y 1 Y
 refine Stg.known (t := 216) Y hb40 (Stg.go (ra 31) [31] Y Y (q_ Y (q_ Y (QAll.cons (QOp.pk hT Y Y Y Y hb40 Y) (qn Y Y Y Y (by decide) Y Y (qn Y Y Y Y (by decide) Y Y (qn Y Y Y Y (by decide) Y Y (qn Y Y Y Y (by decide) Y Y (qn Y Y Y Y (by decide) Y Y (q_ Y (q_ Y (qn Y Y Y Y (by decide) Y Y (qn Y Y Y Y (by decide) Y Y (qn Y Y Y Y (by decide) Y Y (QAll.cons (QOp.u Y Y Y Y Y Y) (QAll.cons (QOp.u Y Y Y Y Y Y) (QAll.cons (QOp.u Y Y Y Y Y Y) (QAll.cons (QOp.u Y Y Y Y Y Y) (QAll.cons (QOp.u Y Y Y Y Y Y) (QAll.cons (QOp.u Y Y Y Y Y Y) (QAll.cons (QOp.u Y Y Y Y Y Y) (QAll.cons (QOp.u Y Y Y Y Y Y) (qn Y Y Y Y (by decide) Y Y (q_ Y (q_ Y (qn Y Y Y Y (by decide) Y Y (qn Y Y Y Y (by decide) Y Y (qn Y Y Y Y (by decide) Y Y (qn Y Y Y Y (by decide) Y Y (qn Y Y Y Y (by decide) Y Y (qn Y Y Y Y (by decide) Y Y (qn Y Y Y Y (by decide) Y Y zqz))))))))))))))))))))))))))))))) ?_)
 refine EAll.cons ?_ EAll.nil
 refine EOp.no Y Y Y Y (by decide) Y ?_
 apply Stg.next (nm 245 [_, _, _, _, _]) Y Y
 refine Stg.fin [24, 25, 32, 33, 34, 35] Y Y (qn Y Y Y Y (by decide) Y Y (qn Y Y Y Y (by decide) Y Y (qn Y Y Y Y (by decide) Y Y (qn Y Y Y Y (by decide) Y Y (qn Y Y Y Y (by decide) Y Y (q_ Y zqz)))))) ?_
 exact pko (HK40 _ () _ H) [249, 1, 3, 10, 15] [0] Y
 rcases iteB.cases H with ⟨hb41, H⟩ | ⟨hb41, H⟩
 apply AtC.stages [31] A0u0 G0u0 hmix (by kernel_rfl) (nm 214 [_, _, _, _, _, _, _, _, _, _, _, _, _, _, _, _, _, _, _, _, _, _, _, _, _, _, _, _, _, _, _]) Y 1 Y
 refine Stg.known (t := 216) Y hb40 (Stg.known (t := 223) Y hb41 (Stg.go (ra 31) [31] Y Y (q_ Y (q_ Y (QAll.cons (QOp.pk hT Y Y Y Y hb40 Y) (QAll.cons (QOp.yp hT Y Y Y Y Y Y Y) (QAll.cons (QOp.yp hT Y Y Y Y Y Y Y) (QAll.cons (QOp.y Y Y Y Y (l_ 0 Y) Y Y) (QAll.cons (QOp.yp hT Y Y Y Y Y Y Y) (QAll.cons (QOp.yp hT Y Y Y Y Y Y Y) (q_ Y (QAll.cons (QOp.pk hT Y Y Y Y hb41 Y) (qn Y Y Y Y (by decide) Y Y (qn Y Y Y Y (by decide) Y Y (qn Y Y Y Y (by decide) Y Y (QAll.cons (QOp.u Y Y Y Y Y Y) (QAll.cons (QOp.u Y Y Y Y Y Y) (QAll.cons (QOp.u Y Y Y Y Y Y) (QAll.cons (QOp.u Y Y Y Y Y Y) (QAll.cons (QOp.u Y Y Y Y Y Y) (QAll.cons (QOp.u Y Y Y Y Y Y) (QAll.cons (QOp.u Y Y Y Y Y Y) (QAll.cons (QOp.u Y Y Y Y Y Y) (qn Y Y Y Y (by decide) Y Y (q_ Y (q_ Y (qn Y Y Y Y (by decide) Y Y (qn Y Y Y Y (by decide) Y Y (qn Y Y Y Y (by decide) Y Y (qn Y Y Y Y (by decide) Y Y (qn Y Y Y Y (by decide) Y Y (qn Y Y Y Y (by decide) Y Y (qn Y Y Y Y (by decide) Y Y zqz))))))))))))))))))))))))))))))) ?_))
 refine EAll.cons ?_ EAll.nil
 refine EOp.no Y Y Y Y (by decide) Y ?_
 apply Stg.next (nm 245 [_, _, _, _, _]) Y Y
 refine Stg.fin [24, 25, 32, 33, 34, 35] Y Y (qn Y Y Y Y (by decide) Y Y (qn Y Y Y Y (by decide) Y Y (qn Y Y Y Y (by decide) Y Y (qn Y Y Y Y (by decide) Y Y (qn Y Y Y Y (by decide) Y Y (q_ Y zqz)))))) ?_
 exact pko (HK40 _ () _ H) [249, 1, 3, 10, 15] [0] Y
 rcases iteB.cases H with ⟨hb42, H⟩ | ⟨hb42, H⟩
 obtain ⟨a_13_, hc43, hd43, H⟩ := H
 obtain ⟨v_22, hc44, H⟩ := H
 rcases iteB.cases H with ⟨hb45, H⟩ | ⟨hb45, H⟩
 apply AtC.stages [31] A0u0 G0u0 hmix (by kernel_rfl) (nm 214 [_, _, _, _, _, _, _, _, _, _, _, _, _, _, _, _, _, _, _, _, _, _, _, _, _, _, _, _, _, _, _]) Y 1 Y
 refine Stg.known (t := 216) Y hb40 (Stg.known (t := 223) Y hb41 (Stg.known (t := 226) Y hb42 (Stg.known (t := 237) Y hb45 (Stg.go (ra 31) [31] Y Y (q_ Y (q_ Y (QAll.cons (QOp.pk hT Y Y Y Y hb40 Y) (QAll.cons (QOp.yp hT Y Y Y Y Y Y Y) (QAll.cons (QOp.yp hT Y Y Y Y Y Y Y) (QAll.cons (QOp.y Y Y Y Y (l_ 0 Y) Y Y) (QAll.cons (QOp.yp hT Y Y Y Y Y Y Y) (QAll.cons (QOp.yp hT Y Y Y Y Y Y Y) (q_ Y (QAll.cons (QOp.pk hT Y Y Y Y hb41 Y) (QAll.cons (QOp.yp hT Y Y Y Y Y Y Y) (QAll.cons (QOp.yp hT Y Y Y Y Y Y Y) (QAll.cons (QOp.ypk hT Y Y Y Y Y Y hb42 Y) (QAll.cons (QOp.yp hT Y Y Y Y Y Y Y) (QAll.cons (QOp.yp hT Y Y Y Y Y Y Y) (QAll.cons (QOp.y Y Y Y Y (l_ 0 Y) Y Y) (QAll.cons (QOp.yp hT Y Y Y Y Y Y Y) (QAll.cons (QOp.yp hT Y Y Y Y Y Y Y) (QAll.cons (QOp.y Y Y Y Y (zqi hT Y Y Y Y Y hc43 hd43) Y Y) (QAll.cons (QOp.y Y Y Y Y (zql hT Y Y Y hc44) Y Y) (QAll.cons (QOp.yp hT Y Y Y Y Y Y Y) (QAll.cons (QOp.yp hT Y Y Y Y Y Y Y) (q_ Y (QAll.cons (QOp.pk hT Y Y Y Y hb45 Y) (qn Y Y Y Y (by decide) Y Y (qn Y Y Y Y (by decide) Y Y (qn Y Y Y Y (by decide) Y Y (qn Y Y Y Y (by decide) Y Y (qn Y Y Y Y (by decide) Y Y (qn Y Y Y Y (by decide) Y Y (qn Y Y Y Y (by decide) Y Y zqz))))))))))))))))))))))))))))))) ?_))))
 refine EAll.cons ?_ EAll.nil
 refine EOp.no Y Y Y Y (by decide) Y ?_
 apply Stg.next (nm 245 [_, _, _, _, _]) Y Y
 refine Stg.fin [24, 25, 32, 33, 34, 35] Y Y (qn Y Y Y Y (by decide) Y Y (qn Y Y Y Y (by decide) Y Y (qn Y Y Y Y (by decide) Y Y (qn Y Y Y Y (by decide) Y Y (qn Y Y Y Y (by decide) Y Y (q_ Y zqz)))))) ?_
 exact pko (HK40 _ () _ H) [249, 1, 3, 10, 15] [0] Y
 obtain ⟨a_14_, hc46, hd46, H⟩ := H
 obtain ⟨v_23, hc47, H⟩ := H
 apply AtC.stages [31] A0u0 G0u0 hmix (by kernel_rfl) (nm 214 [_, _, _, _, _, _, _, _, _, _, _, _, _, _, _, _, _, _, _, _, _, _, _, _, _, _, _, _, _, _, _]) Y 1 Y
 refine Stg.known (t := 216) Y hb40 (Stg.known (t := 223) Y hb41 (Stg.known (t := 226) Y hb42 (Stg.known (t := 237) Y hb45 (Stg.go (ra 31) [31] Y Y (q_ Y (q_ Y (QAll.cons (QOp.pk hT Y Y Y Y hb40 Y) (QAll.cons (QOp.yp hT Y Y Y Y Y Y Y) (QAll.cons (QOp.yp hT Y Y Y Y Y Y Y) (QAll.cons (QOp.y Y Y Y Y (l_ 0 Y) Y Y) (QAll.cons (QOp.yp hT Y Y Y Y Y Y Y) (QAll.cons (QOp.yp hT Y Y Y Y Y Y Y) (q_ Y (QAll.cons (QOp.pk hT Y Y Y Y hb41 Y) (QAll.cons (QOp.yp hT Y Y Y Y Y Y Y) (QAll.cons (QOp.yp hT Y Y Y Y Y Y Y) (QAll.cons (QOp.ypk hT Y Y Y Y Y Y hb42 Y) (QAll.cons (QOp.yp hT Y Y Y Y Y Y Y) (QAll.cons (QOp.yp hT Y Y Y Y Y Y Y) (QAll.cons (QOp.y Y Y Y Y (l_ 0 Y) Y Y) (QAll.cons (QOp.yp hT Y Y Y Y Y Y Y) (QAll.cons (QOp.yp hT Y Y Y Y Y Y Y) (QAll.cons (QOp.y Y Y Y Y (zqi hT Y Y Y Y Y hc43 hd43) Y Y) (QAll.cons (QOp.y Y Y Y Y (zql hT Y Y Y hc44) Y Y) (QAll.cons (QOp.yp hT Y Y Y Y Y Y Y) (QAll.cons (QOp.yp hT Y Y Y Y Y Y Y) (q_ Y (QAll.cons (QOp.pk hT Y Y Y Y hb45 Y) (QAll.cons (QOp.yp hT Y Y Y Y Y Y Y) (QAll.cons (QOp.y Y Y Y Y (l_ 0 Y) Y Y) (QAll.cons (QOp.yp hT Y Y Y Y Y Y Y) (QAll.cons (QOp.y Y Y Y Y (l_ 0 Y) Y Y) (QAll.cons (QOp.yp hT Y Y Y Y Y Y Y) (QAll.cons (QOp.y Y Y Y Y (zqi hT Y Y Y Y Y hc46 hd46) Y Y) (QAll.cons (QOp.y Y Y Y Y (zql hT Y Y Y hc47) Y Y) zqz))))))))))))))))))))))))))))))) ?_))))
 refine EAll.cons ?_ EAll.nil
 refine EOp.y Y Y Y Y Y (cl (fun h => ref18uTruth _ h _) H Y Try.call25 Y (fun w m hr hw => lift_ref18uTruth _ w m hr _ hw)) ?_
 rintro _ _ ⟨v_24, h27, rfl, rfl, H⟩
 obtain ⟨a_15_, hc48, hd48, H⟩ := H
 obtain ⟨v_25, hc49, H⟩ := H
 apply Stg.next (nm 245 [_, _, _, _, _]) Y Y
 refine Stg.fin [24, 25, 32, 33, 34, 35] Y Y (QAll.cons (QOp.yp hT Y Y Y Y Y Y Y) (QAll.cons (QOp.y Y Y Y Y (l_ 0 Y) Y Y) (QAll.cons (QOp.y Y Y Y Y (zqi hT Y Y Y Y Y hc48 hd48) Y Y) (QAll.cons (QOp.y Y Y Y Y (zql hT Y Y Y hc49) Y Y) (QAll.cons (QOp.yp hT Y Y Y Y Y Y Y) (q_ Y zqz)))))) ?_
 exact pko (HK40 _ () _ H) [249, 1, 3, 10, 15] [0] Y
 obtain ⟨a_16_, hc50, hd50, H⟩ := H
 obtain ⟨v_26, hc51, H⟩ := H
 apply AtC.stages [31] A0u0 G0u0 hmix (by kernel_rfl) (nm 214 [_, _, _, _, _, _, _, _, _, _, _, _, _, _, _, _, _, _, _, _, _, _, _, _, _, _, _, _, _, _, _]) Y 1 Y
 refine Stg.known (t := 216) Y hb40 (Stg.known (t := 223) Y hb41 (Stg.known (t := 226) Y hb42 (Stg.go (ra 31) [31] Y Y (q_ Y (q_ Y (QAll.cons (QOp.pk hT Y Y Y Y hb40 Y) (QAll.cons (QOp.yp hT Y Y Y Y Y Y Y) (QAll.cons (QOp.yp hT Y Y Y Y Y Y Y) (QAll.cons (QOp.y Y Y Y Y (l_ 0 Y) Y Y) (QAll.cons (QOp.yp hT Y Y Y Y Y Y Y) (QAll.cons (QOp.yp hT Y Y Y Y Y Y Y) (q_ Y (QAll.cons (QOp.pk hT Y Y Y Y hb41 Y) (QAll.cons (QOp.yp hT Y Y Y Y Y Y Y) (QAll.cons (QOp.yp hT Y Y Y Y Y Y Y) (QAll.cons (QOp.ypk hT Y Y Y Y Y Y hb42 Y) (qn Y Y Y Y (by decide) Y Y (qn Y Y Y Y (by decide) Y Y (qn Y Y Y Y (by decide) Y Y (qn Y Y Y Y (by decide) Y Y (qn Y Y Y Y (by decide) Y Y (qn Y Y Y Y (by decide) Y Y (qn Y Y Y Y (by decide) Y Y (qn Y Y Y Y (by decide) Y Y (QAll.cons (QOp.yp hT Y Y Y Y Y Y Y) (q_ Y (q_ Y (QAll.cons (QOp.yp hT Y Y Y Y Y Y Y) (QAll.cons (QOp.y Y Y Y Y (l_ 0 Y) Y Y) (QAll.cons (QOp.yp hT Y Y Y Y Y Y Y) (QAll.cons (QOp.y Y Y Y Y (l_ 0 Y) Y Y) (QAll.cons (QOp.yp hT Y Y Y Y Y Y Y) (QAll.cons (QOp.y Y Y Y Y (zqi hT Y Y Y Y Y hc50 hd50) Y Y) (QAll.cons (QOp.y Y Y Y Y (zql hT Y Y Y hc51) Y Y) zqz))))))))))))))))))))))))))))))) ?_)))
 refine EAll.cons ?_ EAll.nil
 refine EOp.y Y Y Y Y Y (cl (fun h => ref18uTruth _ h _) H Y Try.call25 Y (fun w m hr hw => lift_ref18uTruth _ w m hr _ hw)) ?_
 rintro _ _ ⟨v_27, h28, rfl, rfl, H⟩
 obtain ⟨a_17_, hc52, hd52, H⟩ := H
 obtain ⟨v_28, hc53, H⟩ := H
 apply Stg.next (nm 245 [_, _, _, _, _]) Y Y
 refine Stg.fin [24, 25, 32, 33, 34, 35] Y Y (QAll.cons (QOp.yp hT Y Y Y Y Y Y Y) (QAll.cons (QOp.y Y Y Y Y (l_ 0 Y) Y Y) (QAll.cons (QOp.y Y Y Y Y (zqi hT Y Y Y Y Y hc52 hd52) Y Y) (QAll.cons (QOp.y Y Y Y Y (zql hT Y Y Y hc53) Y Y) (QAll.cons (QOp.yp hT Y Y Y Y Y Y Y) (q_ Y zqz)))))) ?_
 exact pko (HK40 _ () _ H) [249, 1, 3, 10, 15] [0] Y
 refine zxt (ztx (ztx (zbh (tg (zcs (sR (p_ 1 Y ?_)))))))
 refine ng (zck ?_)
 refine AtC.loopM (fun (s0u8 : Int) => [(17, Value.int .i64 s0u8)]) (fun (s0u8 : Int) => []) [1, 3, 10] [17, 1, 3, 10] [0] [0] H Y Y Y (by decide) Y (fun Kp55 s0u8 h29 H Q55 HK55 => ?_)
 refine zcs (sR (p_ 3 Y (ng ?_)))
 refine zcb H Y (fun H => ?_) (fun H => ?_)
 refine zsk (tg ?_)
 refine AtC.joinSeq (β := Unit) (fun (t0u6 : Unit) (bb_6 : Unit) => []) (fun (t0u6 : Unit) (bb_6 : Unit) => []) [1, 3, 10, 17] [0] H Y Y (fun t0u6 bb_6 h30 H => ?_) (fun J56 H HK56 => ?_)
 refine zrg (p_ 3 Y (znl ?_))
 exact pko (HK55 _ _ (H _ rfl)) [17, 1, 3, 10] [0] Y
 refine zck (zcs ?_)
 refine AtC.joinSeq (β := Unit) (fun (t0u7 : Bool) (bb_7 : Unit) => [(283, Value.bool t0u7)]) (fun (t0u7 : Bool) (bb_7 : Unit) => []) [1, 3, 10, 17] [0] H Y Y (fun t0u7 bb_7 h31 H => ?_) (fun J57 H HK57 => ?_)
 refine zcb H Y (fun H => ?_) (fun H => ?_)
 refine sR (p_ 1 Y (ng (zrt (ztr (zbr (ztr (ztr ?_)))))))
 refine zbr (ztr ?_)
 exact r1 2 Y Y Y H
 refine zsk (tg (sR (p_ 1 Y (zlq Y (l_ 0 Y) (p_ 1 Y (ix hT H Y Y Y Y Y Y fun _ H => ld hT H Y Y Y Y fun _ H => ?_))))))
 refine p_ 1 Y (ng (zcs (sR (p_ 2 Y (ng ?_)))))
 refine zcb H Y (fun H => ?_) (fun H => ?_)
 refine zxt (ztx (zbh ?_))
 exact pko (HK56 _ () _ H) [1, 3, 10, 17] [0] Y
 refine zsk (tg (zcs ?_))
 refine AtC.joinSeq (β := Unit) (fun (t0u8 : Bool) (bb_8 : Unit) => [(299, Value.bool t0u8)]) (fun (t0u8 : Bool) (bb_8 : Unit) => []) [1, 3, 10, 17, 18] [0] H Y Y (fun t0u8 bb_8 h32 H => ?_) (fun J68 H HK68 => ?_)
 refine zcb H Y (fun H => ?_) (fun H => ?_)
 refine sR (p_ 1 Y (ng (zrt (ztr (zbr (ztr (ztr ?_)))))))
 refine zbr (ztr ?_)
 exact r1 2 Y Y Y H
 refine zsk (tg (sR (p_ 1 Y (ng (zcs (sR (p_ 1 Y ?_)))))))
 refine ng (zck ?_)
 refine AtC.loopM (fun (s0u9 : Bool × Int) => [(19, Value.bool s0u9.1), (20, Value.int .i64 s0u9.2)]) (fun (s0u9 : Bool × Int) => []) [1, 3, 10, 17, 18] [19, 20, 1, 3, 10, 17, 18] [0] [0] H Y Y Y (by decide) Y (fun Kp69 s0u9 h33 H Q69 HK69 => ?_)
 refine zcs (sR (p_ 2 Y (zlq Y (l_ 0 Y) (p_ 1 Y (ix hT H Y Y Y Y Y Y fun _ H => p_ 1 Y (ld hT H Y Y Y Y fun _ H => ?_))))))
 refine p_ 2 Y (ng ?_)
 refine zcb H Y (fun H => ?_) (fun H => ?_)
 refine zsk (tg ?_)
 refine AtC.joinSeq (β := Unit) (fun (t0u9 : Bool) (bb_9 : Unit) => [(19, Value.bool t0u9)]) (fun (t0u9 : Bool) (bb_9 : Unit) => []) [1, 3, 10, 17, 18, 20] [0] H Y Y (fun t0u9 bb_9 h34 H => ?_) (fun J72 H HK72 => ?_)
 refine zrg (p_ 3 Y (znl ?_))
 exact pko (HK69 _ _ (H _ rfl)) [19, 20, 1, 3, 10, 17, 18] [0] Y
 refine zck (sR (p_ 1 Y (zlq Y (l_ 0 Y) (p_ 1 Y (ix hT H Y Y Y Y Y Y fun _ H => p_ 1 Y (ld hT H Y Y Y Y fun _ H => ?_))))))
 refine p_ 1 Y (ix hT H Y Y Y Y Y Y fun _ H => ld hT H Y Y Y Y fun _ H => p_ 1 Y (ng (sR (p_ 1 Y (lc (lift_ref18uTruth _) H Try.call25 Y fun v_37 h35 H => ?_)))))
 refine p_ 2 Y (ng ?_)
 refine zcb H Y (fun H => ?_) (fun H => ?_)
 obtain ⟨a_26_, hc76, hd76, H⟩ := H
 obtain ⟨v_38, hc77, H⟩ := H
 apply AtC.stages [1] (rl [([], 7), ([1], 2)]) [[], [0], [], [2], [], [2, 3, 4], [2, 3, 4, 5], (ra 7), (ra 8)] hmix (by kernel_rfl) ([(324, _)] ++ nm 326 [_, _, _, _, _]) Y 1 Y
 refine Stg.go [0, 2, 3, 4, 5, 6] [1] Y Y (q_ Y (q_ Y (qq Y (l_ 0 Y) Y (q_ Y (qq Y (zqi hT Y Y Y Y Y hc76 hd76) Y (qq Y (zql hT Y Y Y hc77) Y zqz)))))) (ec (lift_ref18uSign _) H Try.call24 Y fun v_39 h36 H => ?_)
 obtain ⟨hc78, H⟩ := H
 apply Stg.next [(325, _), (331, _), (19, _)] Y Y
 refine Stg.fin [2, 3, 4, 5, 6, 7, 8] Y Y (q_ Y (qq Y (l_ 0 Y) Y (q_ Y (qq Y (zqi hT Y Y Y Y Y hc76 hd76) Y (qq Y (zql hT Y Y Y hc78) Y (q_ Y (q_ Y zqz))))))) (zbn ?_)
 exact pko (HK72 _ () _ H) [19, 1, 3, 10, 17, 18, 20] [0] Y
 refine AtC.joinSeq (β := Unit) (fun (t0u10 : Bool) (bb_10 : Unit) => [(356, Value.bool t0u10)]) (fun (t0u10 : Bool) (bb_10 : Unit) => []) [1, 3, 10, 17, 18, 19, 20] [0] H Y Y (fun t0u10 bb_10 h37 H => ?_) (fun J80 H HK80 => ?_)
 refine zcb H Y (fun H => ?_) (fun H => ?_)
 refine sR (p_ 1 Y (ng (zrt (zbr (ztr (ztr (zbr ?_)))))))
 refine ztr (zbr (ztr (ztr (zbr (ztr ?_)))))
 exact r1 2 Y Y Y H
 refine zsk (zbn ?_)
 exact pko (HK72 _ () _ H) [19, 1, 3, 10, 17, 18, 20] [0] Y
 apply AtC.stages [2, 9, 22] (rl [([], 3), ([2], 7), ([2, 9], 2), ([2], 4), ([2, 9], 7), ([2, 9, 22], 2)]) [[], [], [1], [0, 1, 2], [0, 1, 2, 3], (ra 5), (ra 6), (ra 7), (ra 7), (ra 7 ++ [8]), (ra 10), (ra 11), (ra 7), (ra 7), (ra 7 ++ [12, 13]), (ra 7 ++ [12, 13, 14]), (ra 16), (ra 17), (ra 18), (ra 19), (ra 20), (ra 19), (ra 22), (ra 23), (ra 24)] hmix (by kernel_rfl) [(332, _), (333, _)] Y 3 Y
 refine Stg.go [0, 1] [2] Y Y (q_ Y (q_ Y zqz)) (ec (lift_ref18uTruth _) H Try.call25 Y fun v_40 h38 H => ?_)
 obtain ⟨a_27_, hc80, hd80, H⟩ := H
 obtain ⟨v_41, hc81, H⟩ := H
 rcases iteB.cases H with ⟨hb82, H⟩ | ⟨hb82, H⟩
 apply Stg.next (nm 334 [_, _, _, _, _, _, _] ++ nm 344 [_, _, _, _]) Y Y
 refine Stg.known (t := 338) Y hb82 (Stg.go [0, 3, 4, 5, 6, 7, 8, 12, 13, 14, 15] [9] Y Y (q_ Y (qq Y (zqi hT Y Y Y Y Y hc80 hd80) Y (qq Y (zql hT Y Y Y hc81) Y (q_ Y (QAll.cons (QOp.pk hT Y Y Y Y hb82 Y) (qn Y Y Y Y (by decide) Y Y (qn Y Y Y Y (by decide) Y Y (qn Y Y Y Y (by decide) Y Y (qn Y Y Y Y (by decide) Y Y (qn Y Y Y Y (by decide) Y Y (qn Y Y Y Y (by decide) Y Y zqz))))))))))) ?_)
 refine EAll.cons ?_ EAll.nil
 refine EOp.no Y Y Y Y (by decide) Y ?_
 apply Stg.next (nm 341 [_, _, _] ++ nm 348 [_, _, _, _, _, _]) Y Y
 refine Stg.go [7, 10, 11, 12, 13, 14, 15, 16, 17, 18, 19, 20, 21] [22] Y Y (qn Y Y Y Y (by decide) Y Y (qn Y Y Y Y (by decide) Y Y (qn Y Y Y Y (by decide) Y Y (qn Y Y Y Y (by decide) Y Y (qn Y Y Y Y (by decide) Y Y (qn Y Y Y Y (by decide) Y Y (qn Y Y Y Y (by decide) Y Y (qn Y Y Y Y (by decide) Y Y (q_ Y (q_ Y (qn Y Y Y Y (by decide) Y Y (qn Y Y Y Y (by decide) Y Y (qn Y Y Y Y (by decide) Y Y zqz))))))))))))) ?_
 refine EAll.cons ?_ EAll.nil
 refine EOp.no Y Y Y Y (by decide) Y ?_
 apply Stg.next (nm 354 [_, _, _]) Y Y
 refine Stg.fin [23, 24] Y Y (qn Y Y Y Y (by decide) Y Y (q_ Y zqz)) ?_
 exact pko (HK80 _ () _ H) [356, 1, 3, 10, 17, 18, 19, 20] [0] Y
 obtain ⟨a_28_, hc83, hd83, H⟩ := H
 obtain ⟨v_42, hc84, H⟩ := H
 apply Stg.next (nm 334 [_, _, _, _, _, _, _] ++ nm 344 [_, _, _, _]) Y Y
 refine Stg.known (t := 338) Y hb82 (Stg.go [0, 3, 4, 5, 6, 7, 8, 12, 13, 14, 15] [9] Y Y (q_ Y (qq Y (zqi hT Y Y Y Y Y hc80 hd80) Y (qq Y (zql hT Y Y Y hc81) Y (q_ Y (QAll.cons (QOp.pk hT Y Y Y Y hb82 Y) (QAll.cons (QOp.yp hT Y Y Y Y Y Y Y) (QAll.cons (QOp.yp hT Y Y Y Y Y Y Y) (QAll.cons (QOp.yp hT Y Y Y Y Y Y Y) (QAll.cons (QOp.yp hT Y Y Y Y Y Y Y) (QAll.cons (QOp.y Y Y Y Y (zqi hT Y Y Y Y Y hc83 hd83) Y Y) (QAll.cons (QOp.y Y Y Y Y (zql hT Y Y Y hc84) Y Y) zqz))))))))))) ?_)
 refine EAll.cons ?_ EAll.nil
 refine EOp.y Y Y Y Y Y (cl (fun h => ref18uTruth _ h _) H Y Try.call25 Y (fun w m hr hw => lift_ref18uTruth _ w m hr _ hw)) ?_
 rintro _ _ ⟨v_43, h39, rfl, rfl, H⟩
 obtain ⟨hc85, H⟩ := H
 obtain ⟨a_29_, hc86, hd86, H⟩ := H
 obtain ⟨v_44, hc87, H⟩ := H
 rcases iteB.cases H with ⟨hb88, H⟩ | ⟨hb88, H⟩
 apply Stg.next (nm 341 [_, _, _] ++ nm 348 [_, _, _, _, _, _]) Y Y
 refine Stg.known (t := 350) Y hb88 (Stg.go [7, 10, 11, 12, 13, 14, 15, 16, 17, 18, 19, 20, 21] [22] Y Y (QAll.cons (QOp.yp hT Y Y Y Y Y Y Y) (QAll.cons (QOp.y Y Y Y Y (zqi hT Y Y Y Y Y hc86 hd86) Y Y) (QAll.cons (QOp.y Y Y Y Y (zql hT Y Y Y hc87) Y Y) (QAll.cons (QOp.yp hT Y Y Y Y Y Y Y) (QAll.cons (QOp.yp hT Y Y Y Y Y Y Y) (QAll.cons (QOp.y Y Y Y Y (zqi hT Y Y Y Y Y hc83 hd83) Y Y) (QAll.cons (QOp.y Y Y Y Y (zql hT Y Y Y hc85) Y Y) (QAll.cons (QOp.yp hT Y Y Y Y Y Y Y) (q_ Y (QAll.cons (QOp.pk hT Y Y Y Y hb88 Y) (qn Y Y Y Y (by decide) Y Y (qn Y Y Y Y (by decide) Y Y (qn Y Y Y Y (by decide) Y Y zqz))))))))))))) ?_)
 refine EAll.cons ?_ EAll.nil
 refine EOp.no Y Y Y Y (by decide) Y ?_
 apply Stg.next (nm 354 [_, _, _]) Y Y
 refine Stg.fin [23, 24] Y Y (qn Y Y Y Y (by decide) Y Y (q_ Y zqz)) ?_
 exact pko (HK80 _ () _ H) [356, 1, 3, 10, 17, 18, 19, 20] [0] Y
 apply Stg.next (nm 341 [_, _, _] ++ nm 348 [_, _, _, _, _, _]) Y Y
 refine Stg.known (t := 350) Y hb88 (Stg.go [7, 10, 11, 12, 13, 14, 15, 16, 17, 18, 19, 20, 21] [22] Y Y (QAll.cons (QOp.yp hT Y Y Y Y Y Y Y) (QAll.cons (QOp.y Y Y Y Y (zqi hT Y Y Y Y Y hc86 hd86) Y Y) (QAll.cons (QOp.y Y Y Y Y (zql hT Y Y Y hc87) Y Y) (QAll.cons (QOp.yp hT Y Y Y Y Y Y Y) (QAll.cons (QOp.yp hT Y Y Y Y Y Y Y) (QAll.cons (QOp.y Y Y Y Y (zqi hT Y Y Y Y Y hc83 hd83) Y Y) (QAll.cons (QOp.y Y Y Y Y (zql hT Y Y Y hc85) Y Y) (QAll.cons (QOp.yp hT Y Y Y Y Y Y Y) (q_ Y (QAll.cons (QOp.pk hT Y Y Y Y hb88 Y) (QAll.cons (QOp.yp hT Y Y Y Y Y Y Y) (QAll.cons (QOp.y Y Y Y Y (l_ 0 Y) Y Y) (QAll.cons (QOp.yp hT Y Y Y Y Y Y Y) zqz))))))))))))) ?_)
 refine EAll.cons ?_ EAll.nil
 refine EOp.y Y Y Y Y Y (cl (fun h => ref18uValue _ _ h _) H Y Try.call34 Y (fun w m hr hw => lift_ref18uValue _ _ w m hr _ hw)) ?_
 rintro _ _ ⟨v_45, h40, rfl, rfl, H⟩
 apply Stg.next (nm 354 [_, _, _]) Y Y
 refine Stg.fin [23, 24] Y Y (QAll.cons (QOp.yp hT Y Y Y Y Y Y Y) (q_ Y zqz)) ?_
 exact pko (HK80 _ () _ H) [356, 1, 3, 10, 17, 18, 19, 20] [0] Y
 refine zxt (ztx (ztx (zbh (tg (sR (p_ 2 Y (ng ?_)))))))
 refine zcb H Y (fun H => ?_) (fun H => ?_)
 refine sR (p_ 1 Y (ng (zrt (zbr (ztr (ztr (zbr ?_)))))))
 refine ztr ?_
 exact r1 2 Y Y Y H
 refine zsk (zbn ?_)
 exact pko (HK56 _ () _ H) [1, 3, 10, 17] [0] Y
 refine zrg (p_ 3 Y ?_)
 refine AtL.splitB (t := 293) H Y (fun H => ?_) (fun H => ?_)
 refine p_ 6 Y (znl ?_)
 exact pko (HK68 _ () _ H) [299, 1, 3, 10, 17, 18] [0] Y
 refine p_ 5 Y (zlq Y (l_ 0 Y) (p_ 5 Y (znl ?_)))
 exact pko (HK68 _ () _ H) [299, 1, 3, 10, 17, 18] [0] Y
 refine zrg (p_ 2 Y (ix hT H Y Y Y Y Y Y fun _ H => ld hT H Y Y Y Y fun _ H => p_ 2 Y ?_))
 refine AtL.splitB (t := 260) H Y (fun H => ?_) (fun H => ?_)
 refine p_ 3 Y (zlq Y (l_ 0 Y) (p_ 3 Y (ix hT H Y Y Y Y Y Y fun _ H => p_ 1 Y (ld hT H Y Y Y Y fun _ H => p_ 4 Y ?_))))
 refine AtL.splitB (t := 267) H Y (fun H => ?_) (fun H => ?_)
 refine p_ 19 Y (znl ?_)
 exact pko (HK57 _ () _ H) [283, 1, 3, 10, 17] [0] Y
 refine p_ 3 Y (zlq Y (l_ 0 Y) (p_ 3 Y (ix hT H Y Y Y Y Y Y fun _ H => p_ 1 Y (ld hT H Y Y Y Y fun _ H => p_ 6 Y ?_))))
 refine AtL.splitB (t := 275) H Y (fun H => ?_) (fun H => ?_)
 refine p_ 9 Y (znl ?_)
 exact pko (HK57 _ () _ H) [283, 1, 3, 10, 17] [0] Y
 refine p_ 3 Y (zlq Y (l_ 0 Y) (p_ 3 Y (ix hT H Y Y Y Y Y Y fun _ H => p_ 1 Y (ld hT H Y Y Y Y fun _ H => p_ 5 Y (znl ?_)))))
 exact pko (HK57 _ () _ H) [283, 1, 3, 10, 17] [0] Y
 refine p_ 7 Y (AtL.noU Y Y Y Y (AtL.noU Y Y Y Y (AtL.noU Y Y Y Y (AtL.noU Y Y Y Y (AtL.noU Y Y Y Y (AtL.noU Y Y Y Y (p_ 2 Y ?_)))))))
 refine AtL.noU Y Y Y Y (AtL.noU Y Y Y Y (AtL.noU Y Y Y Y (AtL.noU Y Y Y Y (AtL.noU Y Y Y Y (AtL.noU Y Y Y Y (p_ 2 Y (znl ?_)))))))
 exact pko (HK57 _ () _ H) [283, 1, 3, 10, 17] [0] Y
 refine zxt (ztx (ztx (zbh (tg (sR (p_ 1 Y (ng ?_)))))))
 refine zrt ?_
 exact r1 2 Y Y Y H
 refine zrg (p_ 1 Y (zlq Y (l_ 0 Y) (p_ 5 Y ?_)))
 refine AtL.splitB (t := 31) H Y (fun H => ?_) (fun H => ?_)
 refine p_ 26 Y (znl ?_)
 exact pko (HK1 _ () _ H) [57, 1, 3] [0] Y
 refine p_ 3 Y (zlq Y (l_ 0 Y) (p_ 8 Y ?_))
 refine AtL.splitB (t := 38) H Y (fun H => ?_) (fun H => ?_)
 refine p_ 19 Y (znl ?_)
 exact pko (HK1 _ () _ H) [57, 1, 3] [0] Y
 refine p_ 3 Y (zlq Y (l_ 0 Y) (p_ 8 Y ?_))
 refine AtL.splitB (t := 45) H Y (fun H => ?_) (fun H => ?_)
 refine p_ 12 Y (znl ?_)
 exact pko (HK1 _ () _ H) [57, 1, 3] [0] Y
 refine p_ 3 Y (zlq Y (l_ 0 Y) (p_ 4 Y ?_))
 refine AtL.splitB (t := 50) H Y (fun H => ?_) (fun H => ?_)
 refine p_ 7 Y (znl ?_)
 exact pko (HK1 _ () _ H) [57, 1, 3] [0] Y
 refine p_ 3 Y (zlq Y (l_ 0 Y) (p_ 3 Y (zlq Y (l_ 0 Y) (p_ 5 Y (znl ?_)))))
 exact pko (HK1 _ () _ H) [57, 1, 3] [0] Y
theorem lift_law19ugreat (s0 : Sl × Sl × Sl × Sl × Sl × Sl × Sl × Int) (lits : Sl) : Lf Try.prog 16 [Value.agg (C_sl_sl_sl_sl_sl_sl_sl_i64 s0).toArray, Sl.toV lits] Value.bool (law19ugreat s0 lits) := by
 refine Lf.go Try.func16 Try.ntmps16 Y Y [0, 1] Y fun w m S H => ?_
 unfold law19ugreat at H
 refine sR (bx [_, _, _, _, _, _, _, _] H Y Y Y Y fun b _ H => p_ 1 Y (ng (zcs ?_)))
 refine AtC.joinSeq (β := Unit) (fun (t0 : Bool) (bb : Unit) => [(41, Value.bool t0)]) (fun (t0 : Bool) (bb : Unit) => []) [2] [0] H.self Y Y (fun t0 bb h1 H => ?_) (fun J1 H HK1 => ?_)
 refine zcb H Y (fun H => ?_) (fun H => ?_)
 refine sR (p_ 1 Y (ng (zrt (ztr ?_))))
 exact r1 4 Y Y Y H
 refine zsk (tg (zcs (sR (p_ 1 Y (zlq Y (l_ 0 Y) (p_ 2 Y (ng ?_)))))))
 refine zck ?_
 refine AtC.loopM (fun (s0u1 : Int) => [(45, Value.int .i64 s0u1)]) (fun (s0u1 : Int) => []) [2, 43, 44] [45, 2, 43, 44] [0] [0] H Y Y Y (by decide) Y (fun Kp2 s0u1 h2 H Q2 HK2 => ?_)
 refine sR (p_ 1 Y (ng (zcs ?_)))
 refine zcb H Y (fun H => ?_) (fun H => ?_)
 refine zsk (tg (zcs (zck (sR (ix hT H Y Y Y Y Y Y fun _ H => lds hT H Y Y Y Y Y fun _ H => al hT [_, _, _] H Y Y Y fun b_1 _ H => ?_)))))
 refine sp hT 0 [(_, [_, _, _]), (_, [_, _, _, _, _, _, _, _])] Y Y Y Y Y Y Y Y Y Y Y fun _ => ng (sR (p_ 1 Y (zlq Y (l_ 0 Y) (p_ 2 Y (ng ?_)))))
 refine zcb H.self Y (fun H => ?_) (fun H => ?_)
 refine sR (p_ 1 Y (ng (zrt (zbr (ztr (ztr (zbr ?_)))))))
 refine ztr ?_
 exact r1 4 Y Y Y H
 refine zsk (zbn (tg (zrg (p_ 2 Y (znl ?_)))))
 exact pko (HK2 _ _ H) [45, 2, 43, 44] [1] Y
 refine zxt (ztx (ztx (zbh (tg (zcs (sR (p_ 1 Y ?_)))))))
 refine zlq Y (l_ 0 Y) (p_ 2 Y (ng (zck ?_)))
 refine AtC.loopM (fun (s0u2 : Int) => [(57, Value.int .i64 s0u2)]) (fun (s0u2 : Int) => []) [2, 55, 56] [57, 2, 55, 56] [0] [0] H Y Y Y (by decide) Y (fun Kp5 s0u2 h4 H Q5 HK5 => ?_)
 refine sR (p_ 1 Y (ng (zcs ?_)))
 refine zcb H Y (fun H => ?_) (fun H => ?_)
 refine zsk (tg (zcs (zck (sR (ix hT H Y Y Y Y Y Y fun _ H => ld hT H Y Y Y Y fun _ H => p_ 1 Y ?_)))))
 refine ng (sR (p_ 3 Y (ng ?_)))
 refine zcb H Y (fun H => ?_) (fun H => ?_)
 refine sR (p_ 1 Y (ng (zrt (zbr (ztr (ztr (zbr ?_)))))))
 refine ztr ?_
 exact r1 4 Y Y Y H
 refine zsk (zbn (tg (zrg (p_ 2 Y (znl ?_)))))
 exact pko (HK5 _ _ H) [57, 2, 55, 56] [0] Y
 refine zxt (ztx (ztx (zbh (tg (sR (zlq Y (s_ 0 [_, _, _, _, _, _, _, _] Y) (lc (lift_ref18uRight _) H Try.call11 Y fun v_2 h5 H => ?_)))))))
 refine p_ 2 Y (ng (zrt ?_))
 exact r1 4 Y Y Y H
 refine zrg (p_ 1 Y (zlq Y (l_ 0 Y) (p_ 3 Y ?_)))
 refine AtL.splitB (t := 13) H Y (fun H => ?_) (fun H => ?_)
 refine p_ 28 Y (znl ?_)
 exact pko (HK1 _ () _ H) [41, 2] [0] Y
 refine p_ 3 Y (zlq Y (l_ 0 Y) (p_ 6 Y ?_))
 refine AtL.splitB (t := 19) H Y (fun H => ?_) (fun H => ?_)
 refine p_ 22 Y (znl ?_)
 exact pko (HK1 _ () _ H) [41, 2] [0] Y
 refine p_ 3 Y (zlq Y (l_ 0 Y) (p_ 6 Y ?_))
 refine AtL.splitB (t := 25) H Y (fun H => ?_) (fun H => ?_)
 refine p_ 16 Y (znl ?_)
 exact pko (HK1 _ () _ H) [41, 2] [0] Y
 refine p_ 3 Y (zlq Y (l_ 0 Y) (p_ 6 Y ?_))
 refine AtL.splitB (t := 31) H Y (fun H => ?_) (fun H => ?_)
 refine p_ 10 Y (znl ?_)
 exact pko (HK1 _ () _ H) [41, 2] [0] Y
 refine p_ 3 Y (zlq Y (l_ 0 Y) (p_ 6 Y ?_))
 refine AtL.splitB (t := 37) H Y (fun H => ?_) (fun H => ?_)
 refine p_ 4 Y (znl ?_)
 exact pko (HK1 _ () _ H) [41, 2] [0] Y
 refine p_ 7 Y (znl ?_)
 exact pko (HK1 _ () _ H) [41, 2] [0] Y
theorem lift_ref19uLevel (s0 : Sl × Sl × Sl × Sl × Sl × Sl × Sl × Int) (lits : Sl) : Lf Try.prog 20 [Value.agg (C_sl_sl_sl_sl_sl_sl_sl_i64 s0).toArray, Sl.toV lits] (Value.int .i64) (ref19uLevel s0 lits) := by
 refine Lf.go Try.func20 Try.ntmps20 Y Y [0, 1] Y fun w m S H => ?_
 unfold ref19uLevel at H
 refine sR (bx [_, _, _, _, _, _, _, _] H Y Y Y Y fun b _ H => p_ 1 Y (ng (sR (p_ 1 Y (ng (zcs ?_))))))
 refine sR (p_ 1 Y (ng (zck ?_)))
 refine AtC.loopM (fun (s0u1 : Int × Int) => [(5, Value.int .i64 s0u1.1), (6, Value.int .i64 s0u1.2)]) (fun (s0u1 : Int × Int) => []) [1, 2] [5, 6, 1, 2] [0] [0] H.self Y Y Y (by decide) Y (fun Kp1 s0u1 h1 H Q1 HK1 => ?_)
 refine zcs (sR (p_ 4 Y (ng ?_)))
 refine zcb H Y (fun H => ?_) (fun H => ?_)
 refine zsk (tg ?_)
 refine AtC.joinSeq (β := Unit) (fun (t0 : Int) (bb : Unit) => [(5, Value.int .i64 t0)]) (fun (t0 : Int) (bb : Unit) => []) [1, 2, 6] [0] H Y Y (fun t0 bb h2 H => ?_) (fun J2 H HK2 => ?_)
 refine zrg (p_ 3 Y (znl ?_))
 exact pko (HK1 _ _ (H _ rfl)) [5, 6, 1, 2] [0] Y
 refine zck ?_
 obtain ⟨a_, hc2, hd2, H⟩ := H
 obtain ⟨v, hc3, H⟩ := H
 apply AtC.seqS [7] (rl [([], 8)]) [[], [0], [0, 1], [], [], [3, 4], [3, 4, 5], (ra 7)] hmix (by kernel_rfl) (nm 13 [_, _, _, _, _, _, _]) Y 1 Y
 refine Stg.go (ra 7) [7] Y Y (q_ Y (qq Y (l_ 0 Y) Y (q_ Y (q_ Y (q_ Y (qq Y (zqi hT Y Y Y Y Y hc2 hd2) Y (qq Y (zql hT Y Y Y hc3) Y zqz))))))) (ec (lift_ref18uThere _ _) H Try.call33 Y fun v_1 h3 H => ?_)
 apply Stg.next [(20, _)] Y Y
 refine Stg.fin [] Y Y zqz (tg ?_)
 refine zcb H Y (fun H => ?_) (fun H => ?_)
 obtain ⟨a_1_, hc4, hd4, H⟩ := H
 obtain ⟨v_2, hc5, H⟩ := H
 apply AtC.stages [7, 11] (rl [([], 8), ([7], 4)]) [[], [], [1], [], [], [3, 4], [3, 4, 5], [3, 4, 5, 6], [1, 2, 3, 4, 5, 6, 7], [1, 2, 3, 4, 5, 6, 7, 8], (ra 10), (ra 11)] hmix (by kernel_rfl) (nm 21 [_, _, _, _, _, _, _]) Y 2 Y
 refine Stg.go (ra 7) [7] Y Y (q_ Y (q_ Y (qq Y (l_ 0 Y) Y (q_ Y (q_ Y (qq Y (zqi hT Y Y Y Y Y hc4 hd4) Y (qq Y (zql hT Y Y Y hc5) Y zqz))))))) (ec (lift_ref18uTruth _) H Try.call25 Y fun v_3 h4 H => ?_)
 obtain ⟨a_2_, hc6, hd6, H⟩ := H
 obtain ⟨v_4, hc7, H⟩ := H
 apply Stg.next (nm 28 [_, _, _, _]) Y Y
 refine Stg.go [0, 1, 2, 8, 9, 10] [11] Y Y (q_ Y (q_ Y (qq Y (l_ 0 Y) Y (qq Y (zqi hT Y Y Y Y Y hc6 hd6) Y (qq Y (zql hT Y Y Y hc7) Y (q_ Y zqz)))))) (eo Y (Eff.ofPure hT Y) ?_)
 rintro _ _ ⟨rfl, rfl⟩
 apply Stg.next [(5, _)] Y Y
 refine Stg.fin [] Y Y zqz (zbn ?_)
 exact pko (HK2 _ () _ H) [5, 1, 2, 6] [0] Y
 refine zsk (zbn ?_)
 exact pko (HK2 _ () _ H) [5, 1, 2, 6] [0] Y
 refine zxt (ztx (ztx (zbh (tg (sR (p_ 2 Y (ng ?_)))))))
 refine zrt ?_
 exact r1 4 Y Y Y H
theorem lift_ref19uFrom (s0 : Sl × Sl × Sl × Sl × Sl × Sl × Sl × Int) (lits : Sl) : Lf Try.prog 18 [Value.agg (C_sl_sl_sl_sl_sl_sl_sl_i64 s0).toArray, Sl.toV lits] (fun r => Value.tuple #[(fun r => Value.agg (C_sl_i64usl r).toArray) r.1, (Value.int .i64) r.2]) (ref19uFrom s0 lits) := by
 refine Lf.go Try.func18 Try.ntmps18 Y Y [0, 1] Y fun w m S H => ?_
 unfold ref19uFrom at H
 refine sR (bx [_, _, _, _, _, _, _, _] H Y Y Y Y fun b _ H => al hT [_, _, _] H Y Y Y fun b_1 _ H => p_ 1 Y (ng (sR (p_ 1 Y (zlq Y (l_ 1 Y) ?_)))))
 refine p_ 2 Y ?_
 replace H := H.self
 refine ng (sR (p_ 1 Y (zlq Y (l_ 1 Y) (p_ 2 Y ?_))))
 replace H := H _ rfl
 refine ng (sR (p_ 1 Y (zle Y (EffX.mkS hT Y Y Y Y Y Y Y Y (by decide) (H _ rfl)) ?_)))
 rintro _ _ ⟨v, h1, rfl, rfl, H⟩
 refine p_ 1 Y (ng (sR (p_ 1 Y (zle Y (EffX.mkS hT Y Y Y Y Y Y Y Y (by decide) H) ?_))))
 rintro _ _ ⟨v_1, h2, rfl, rfl, H⟩
 refine p_ 1 Y (ng (zcs (sR (p_ 1 Y (ng (zck ?_))))))
 refine AtC.loopM (fun (s0u1 : Int × Sl × Int × Sl) => [(10, Value.int .i64 s0u1.1)]) (fun (s0u1 : Int × Sl × Int × Sl) => [(b_1, [Sl.toV s0u1.2.1, Value.int .i64 s0u1.2.2.1, Sl.toV s0u1.2.2.2])]) [1, 2, 4, 6, 7, 8, 9] [10, 1, 2, 4, 6, 7, 8, 9] [1] [0, 1] H Y Y Y (by decide) Y (fun Kp1 s0u1 h3 H Q1 HK1 => ?_)
 refine zcs (sR (p_ 4 Y (ng ?_)))
 refine zcb H Y (fun H => ?_) (fun H => ?_)
 refine zsk (tg (zcs (zck (zcs ?_))))
 refine AtC.joinSeq (β := Unit) (fun (t0 : Bool) (bb : Unit) => [(57, Value.bool t0)]) (fun (t0 : Bool) (bb : Unit) => []) [1, 2, 4, 6, 7, 8, 9, 10] [0, 1] H Y Y (fun t0 bb h4 H => ?_) (fun J2 H HK2 => ?_)
 refine zcb H Y (fun H => ?_) (fun H => ?_)
 refine sR (zlq Y (zqb (cs := [_, _, _]) hT Y Y Y Y Y Y) (sp hT 0 [(_, [_, _, _]), (_, [_, _, _, _, _, _, _, _])] Y Y Y Y Y Y Y Y Y Y Y fun _ => p_ 1 Y (ng (zrt (ztr (zbr ?_))))))
 refine ztr (ztr (zbr (ztr ?_)))
 exact AtE.retN (rs := [.cell 4 49, .tmp 5]) Y (ResAll.cons (ResAt.cellSP (i := 0) (l := [_, _, _]) hT Y Y Y Y Y Y Y) (ResAll.cons (ResAt.tmp Y) ResAll.nil)) Y H
 refine zsk (tg ?_)
 obtain ⟨a_3_, hc9, hd9, H⟩ := H
 obtain ⟨v_7, hc10, H⟩ := H
 obtain ⟨a_4_, hc11, hd11, H⟩ := H
 obtain ⟨v_8, hc12, H⟩ := H
 apply AtC.stages [5, 11] (rl [([], 10), ([5], 2)]) [[], [], [], [1, 2], [1, 2, 3], [1, 2, 3, 4], [], [], [6, 7], [6, 7, 8], (ra 10), (ra 11)] hmix (by kernel_rfl) (nm 59 [_, _, _, _, _] ++ nm 65 [_, _, _, _]) Y 2 Y
 refine Stg.go [0, 1, 2, 3, 4, 6, 7, 8, 9] [5] Y Y (q_ Y (q_ Y (q_ Y (qq Y (zqi hT Y Y Y Y Y hc9 hd9) Y (qq Y (zql hT Y Y Y hc10) Y (q_ Y (q_ Y (qq Y (zqi hT Y Y Y Y Y hc11 hd11) Y (qq Y (zql hT Y Y Y hc12) Y zqz))))))))) (ec (lift_ref18uTruth _) H Try.call25 Y fun v_9 h7 H => ?_)
 obtain ⟨hc13, H⟩ := H
 obtain ⟨a_5_, hc14, hd14, H⟩ := H
 apply Stg.next [(64, _), (69, _)] Y Y
 refine Stg.go [0, 6, 7, 8, 9, 10] [11] Y Y (q_ Y (q_ Y (q_ Y (qq Y (zqi hT Y Y Y Y Y hc11 hd11) Y (qq Y (zql hT Y Y Y hc13) Y (qq Y (zqi hT Y Y Y Y Y hc14 hd14) Y zqz)))))) (eo Y (EffX.store hT Y Y Y Y Y H) ?_)
 rintro _ _ ⟨h8, rfl, H⟩
 apply Stg.next [] Y Y
 refine Stg.fin [] Y Y zqz (zbn (tg (zrg (p_ 3 Y (znl ?_)))))
 exact pko (HK1 _ _ (H _ rfl)) [10, 1, 2, 4, 6, 7, 8, 9] [0, 1] Y
 obtain ⟨a_, hc2, hd2, H⟩ := H
 obtain ⟨v_2, hc3, H⟩ := H
 apply AtC.stages [6, 14] (rl [([], 7), ([6], 8), ([6, 14], 4)]) [[], [0], [], [], [2, 3], [2, 3, 4], (ra 6), (ra 7), (ra 8), (ra 9), (ra 9), (ra 9), (ra 9 ++ [10, 11]), (ra 9 ++ [10, 11, 12]), (ra 9 ++ [10, 11, 12, 13]), (ra 15), (ra 16), (ra 17), (ra 18)] hmix (by kernel_rfl) (nm 39 [_, _, _, _, _, _]) Y 2 Y
 refine Stg.go (ra 6) [6] Y Y (q_ Y (qq Y (l_ 1 Y) Y (q_ Y (q_ Y (qq Y (zqi hT Y Y Y Y Y hc2 hd2) Y (qq Y (zql hT Y Y Y hc3) Y zqz)))))) (ec (lift_ref18uValue _ _) H Try.call34 Y fun v_3 h5 H => ?_)
 rcases iteB.cases H with ⟨hb4, H⟩ | ⟨hb4, H⟩
 apply Stg.next (nm 45 [_, _, _, _, _, _, _, _]) Y Y
 refine Stg.known (t := 47) Y hb4 (Stg.go [7, 8, 9, 10, 11, 12, 13] [14] Y Y (q_ Y (QAll.cons (QOp.pk hT Y Y Y Y hb4 Y) (qn Y Y Y Y (by decide) Y Y (qn Y Y Y Y (by decide) Y Y (qn Y Y Y Y (by decide) Y Y (qn Y Y Y Y (by decide) Y Y (qn Y Y Y Y (by decide) Y Y zqz))))))) ?_)
 refine EAll.cons ?_ EAll.nil
 refine EOp.no Y Y Y Y (by decide) Y ?_
 apply Stg.next (nm 53 [_, _, _, _, _]) Y Y
 refine Stg.fin [9, 15, 16, 17, 18] Y Y (qn Y Y Y Y (by decide) Y Y (qn Y Y Y Y (by decide) Y Y (qn Y Y Y Y (by decide) Y Y (qn Y Y Y Y (by decide) Y Y (q_ Y zqz))))) ?_
 exact pko (HK2 _ () _ H) [57, 1, 2, 4, 6, 7, 8, 9, 10] [0, 1] Y
 obtain ⟨a_1_, hc5, hd5, H⟩ := H
 obtain ⟨v_4, hc6, H⟩ := H
 apply Stg.next (nm 45 [_, _, _, _, _, _, _, _]) Y Y
 refine Stg.known (t := 47) Y hb4 (Stg.go [7, 8, 9, 10, 11, 12, 13] [14] Y Y (q_ Y (QAll.cons (QOp.pk hT Y Y Y Y hb4 Y) (QAll.cons (QOp.yp hT Y Y Y Y Y Y Y) (QAll.cons (QOp.yp hT Y Y Y Y Y Y Y) (QAll.cons (QOp.yp hT Y Y Y Y Y Y Y) (QAll.cons (QOp.y Y Y Y Y (zqi hT Y Y Y Y Y hc5 hd5) Y Y) (QAll.cons (QOp.y Y Y Y Y (zql hT Y Y Y hc6) Y Y) zqz))))))) ?_)
 refine EAll.cons ?_ EAll.nil
 refine EOp.y Y Y Y Y Y (cl (fun h => ref18uTruth _ h _) H Y Try.call25 Y (fun w m hr hw => lift_ref18uTruth _ w m hr _ hw)) ?_
 rintro _ _ ⟨v_5, h6, rfl, rfl, H⟩
 obtain ⟨a_2_, hc7, hd7, H⟩ := H
 obtain ⟨v_6, hc8, H⟩ := H
 apply Stg.next (nm 53 [_, _, _, _, _]) Y Y
 refine Stg.fin [9, 15, 16, 17, 18] Y Y (QAll.cons (QOp.yp hT Y Y Y Y Y Y Y) (QAll.cons (QOp.y Y Y Y Y (zqi hT Y Y Y Y Y hc7 hd7) Y Y) (QAll.cons (QOp.y Y Y Y Y (zql hT Y Y Y hc8) Y Y) (QAll.cons (QOp.yp hT Y Y Y Y Y Y Y) (q_ Y zqz))))) ?_
 exact pko (HK2 _ () _ H) [57, 1, 2, 4, 6, 7, 8, 9, 10] [0, 1] Y
 refine zxt (ztx (ztx (zbh (tg (zcs ?_)))))
 refine AtC.joinSeq (β := Unit) (fun (t0u1 : Bool) (bb_1 : Unit) => [(78, Value.bool t0u1)]) (fun (t0u1 : Bool) (bb_1 : Unit) => []) [2, 4, 6, 7, 8, 9] [0, 1] H Y Y (fun t0u1 bb_1 h9 H => ?_) (fun J16 H HK16 => ?_)
 refine zcb H Y (fun H => ?_) (fun H => ?_)
 refine sR (zlq Y (zqb (cs := [_, _, _]) hT Y Y Y Y Y Y) (sp hT 0 [(_, [_, _, _]), (_, [_, _, _, _, _, _, _, _])] Y Y Y Y Y Y Y Y Y Y Y fun _ => p_ 1 Y (ng (zrt (ztr ?_)))))
 exact AtE.retN (rs := [.cell 4 49, .tmp 5]) Y (ResAll.cons (ResAt.cellSP (i := 0) (l := [_, _, _]) hT Y Y Y Y Y Y Y) (ResAll.cons (ResAt.tmp Y) ResAll.nil)) Y H
 refine zsk (tg (zcs (sR (p_ 1 Y (ng (zck ?_))))))
 refine AtC.loopM (fun (s0u2 : Int) => [(11, Value.int .i64 s0u2)]) (fun (s0u2 : Int) => []) [2, 4, 6, 7, 8, 9] [11, 2, 4, 6, 7, 8, 9] [0, 1] [0, 1] H Y Y Y (by decide) Y (fun Kp17 s0u2 h11 H Q17 HK17 => ?_)
 refine zcs (sR (p_ 3 Y (ng ?_)))
 refine zcb H Y (fun H => ?_) (fun H => ?_)
 refine zsk (tg (zcs (zck ?_)))
 refine AtC.joinSeq (β := Unit) (fun (t0u2 : Unit) (bb_2 : Unit) => []) (fun (t0u2 : Unit) (bb_2 : Unit) => []) [2, 4, 6, 7, 8, 9, 11] [0, 1] H Y Y (fun t0u2 bb_2 h12 H => ?_) (fun J18 H HK18 => ?_)
 refine zrg (p_ 4 Y (ix hT H Y Y Y Y Y Y fun _ H => ld hT H Y Y Y Y fun _ H => p_ 1 Y (ix hT H Y Y Y Y Y Y fun _ H => zle Y (EffX.store hT Y Y Y Y Y H) ?_)))
 rintro _ _ ⟨h14, rfl, H⟩
 refine znl (zbn (tg (zrg (p_ 3 Y (znl ?_)))))
 exact pko (HK17 _ _ (H _ rfl)) [11, 2, 4, 6, 7, 8, 9] [0, 1] Y
 refine sR (p_ 1 Y (zlq Y (l_ 1 Y) (p_ 1 Y (ix hT H Y Y Y Y Y Y fun _ H => ld hT H Y Y Y Y fun _ H => p_ 1 Y (ng ?_)))))
 refine zcb H Y (fun H => ?_) (fun H => ?_)
 refine zrg (p_ 2 Y (ix hT H Y Y Y Y Y Y fun _ H => zle Y (EffX.store hT Y Y Y Y Y H) ?_))
 rintro _ _ ⟨h13, rfl, H⟩
 refine znl ?_
 exact pko (HK18 _ () _ H) [2, 4, 6, 7, 8, 9, 11] [0, 1] Y
 refine zsk ?_
 exact pko (HK18 _ () _ H) [2, 4, 6, 7, 8, 9, 11] [0, 1] Y
 refine zxt (ztx (ztx (zbh (tg (zcs (zck ?_))))))
 refine AtC.loopM (fun (s0u3 : Sl × Int × Sl) => []) (fun (s0u3 : Sl × Int × Sl) => [(b_1, [Sl.toV s0u3.1, Value.int .i64 s0u3.2.1, Sl.toV s0u3.2.2])]) [2, 4, 6, 7, 8, 9] [2, 4, 6, 7, 8, 9] [1] [0, 1] H Y Y Y (by decide) Y (fun Kp25 s0u3 h15 H Q25 HK25 => ?_)
 refine zck (sR (p_ 1 Y (ng (sR (p_ 1 Y (ng (zcs ?_)))))))
 refine sR (p_ 1 Y (ng (zck ?_)))
 refine AtC.loopM (fun (s0u4 : Int × Int × Int) => [(12, Value.int .i64 s0u4.1), (13, Value.int .i64 s0u4.2.1), (14, Value.int .i64 s0u4.2.2)]) (fun (s0u4 : Int × Int × Int) => []) [2, 4, 6, 7, 8, 9] [12, 13, 14, 2, 4, 6, 7, 8, 9] [0, 1] [0, 1] H Y Y Y (by decide) Y (fun Kp26 s0u4 h16 H Q26 HK26 => ?_)
 refine zcs (sR (p_ 2 Y (zlq Y (l_ 1 Y) (p_ 2 Y (ng ?_)))))
 refine zcb H Y (fun H => ?_) (fun H => ?_)
 refine zsk (tg ?_)
 refine AtC.joinSeq (β := Unit) (fun (t0u3 : Int × Int) (bb_3 : Unit) => [(12, Value.int .i64 t0u3.1), (13, Value.int .i64 t0u3.2)]) (fun (t0u3 : Int × Int) (bb_3 : Unit) => []) [2, 4, 6, 7, 8, 9, 14] [0, 1] H Y Y (fun t0u3 bb_3 h17 H => ?_) (fun J27 H HK27 => ?_)
 refine zrg (p_ 3 Y (znl ?_))
 exact pko (HK26 _ _ (H _ rfl)) [12, 13, 14, 2, 4, 6, 7, 8, 9] [0, 1] Y
 refine zck (sR (p_ 1 Y (zlq Y (l_ 1 Y) (p_ 1 Y (ix hT H Y Y Y Y Y Y fun _ H => ld hT H Y Y Y Y fun _ H => lc (lift_ref18uTruth _) H Try.call25 Y fun v_15 h18 H => ?_)))))
 refine p_ 1 Y (ng ?_)
 refine AtC.joinSeq (β := Unit) (fun (t0u4 : Bool) (bb_4 : Unit) => [(128, Value.bool t0u4)]) (fun (t0u4 : Bool) (bb_4 : Unit) => []) [2, 4, 6, 7, 8, 9, 12, 13, 14, 15] [0, 1] H Y Y (fun t0u4 bb_4 h19 H => ?_) (fun J30 H HK30 => ?_)
 refine zcb H Y (fun H => ?_) (fun H => ?_)
 refine sR (p_ 3 Y (ng (zrg (p_ 2 Y (znl (zbn ?_))))))
 exact pko (HK27 _ () _ (H _ rfl)) [12, 13, 2, 4, 6, 7, 8, 9, 14] [0, 1] Y
 refine zsk (zbn ?_)
 exact pko (HK27 _ () _ H) [12, 13, 2, 4, 6, 7, 8, 9, 14] [0, 1] Y
 refine zrg (p_ 2 Y (ix hT H Y Y Y Y Y Y fun _ H => ld hT H Y Y Y Y fun _ H => p_ 2 Y ?_))
 refine AtL.splitB (t := 120) H Y (fun H => ?_) (fun H => ?_)
 refine p_ 3 Y (zlq Y (l_ 1 Y) (p_ 3 Y (ix hT H Y Y Y Y Y Y fun _ H => p_ 1 Y (ld hT H Y Y Y Y fun _ H => p_ 5 Y (znl ?_)))))
 exact pko (HK30 _ () _ H) [128, 2, 4, 6, 7, 8, 9, 12, 13, 14, 15] [0, 1] Y
 refine p_ 8 Y (znl ?_)
 exact pko (HK30 _ () _ H) [128, 2, 4, 6, 7, 8, 9, 12, 13, 14, 15] [0, 1] Y
 refine zxt (ztx (ztx (zbh (tg (zcs (sR (p_ 2 Y ?_)))))))
 refine ng ?_
 refine zcb H Y (fun H => ?_) (fun H => ?_)
 refine zxt (ztx (AtE.blk_miss Y (ztx (zbh (tg (sR ?_))))))
 refine AtLX.bs (hT := hT) (cs := []) H Y Y Y Y Y Y Y Y Y (fun a_13 h20 H => ?_)
 refine zlq Y (zqb (cs := [_, _, _]) hT Y Y Y Y Y Y) (al hT [_, _, _] H Y Y Y fun b_2 _ H => sp hT 0 [(_, [_, _, _]), (_, [_, _, _]), (_, [_, _, _, _, _, _, _, _])] Y Y Y Y Y Y Y Y Y Y Y fun _ => ng (sR (p_ 1 Y (ng (zcs ?_)))))
 refine sR (p_ 1 Y (ng (zck ?_)))
 refine AtC.loopM (fun (s0u5 : Int × Int × Sl × Int × Sl) => [(20, Value.int .i64 s0u5.1), (21, Value.int .i64 s0u5.2.1)]) (fun (s0u5 : Int × Int × Sl × Int × Sl) => [(b_2, [Sl.toV s0u5.2.2.1, Value.int .i64 s0u5.2.2.2.1, Sl.toV s0u5.2.2.2.2])]) [2, 4, 6, 7, 8, 9, 19] [20, 21, 2, 4, 6, 7, 8, 9, 19] [1, 2] [0, 1, 2] H.self Y Y Y (by decide) Y (fun Kp35 s0u5 h22 H Q35 HK35 => ?_)
 refine zcs (sR (p_ 3 Y (ng ?_)))
 refine zcb H Y (fun H => ?_) (fun H => ?_)
 refine zsk (tg ?_)
 refine AtC.joinSeq (β := Unit) (fun (t0u5 : Int × Sl × Int × Sl) (bb_5 : Unit) => [(20, Value.int .i64 t0u5.1)]) (fun (t0u5 : Int × Sl × Int × Sl) (bb_5 : Unit) => [(b_2, [Sl.toV t0u5.2.1, Value.int .i64 t0u5.2.2.1, Sl.toV t0u5.2.2.2])]) [2, 4, 6, 7, 8, 9, 19, 21] [1, 2] H Y Y (fun t0u5 bb_5 h23 H => ?_) (fun J36 H HK36 => ?_)
 refine zrg (p_ 3 Y (znl ?_))
 exact pko (HK35 _ _ (H _ rfl)) [20, 21, 2, 4, 6, 7, 8, 9, 19] [0, 1, 2] Y
 refine zck ?_
 refine AtC.joinSeq (β := Unit) (fun (t0u6 : Sl × Int × Sl) (bb_6 : Unit) => []) (fun (t0u6 : Sl × Int × Sl) (bb_6 : Unit) => [(b_2, [Sl.toV t0u6.1, Value.int .i64 t0u6.2.1, Sl.toV t0u6.2.2])]) [2, 4, 6, 7, 8, 9, 19, 20, 21] [1, 2] H Y Y (fun t0u6 bb_6 h24 H => ?_) (fun J37 H HK37 => ?_)
 refine AtC.joinSeq (β := Unit) (fun (t0u8 : Int) (bb_8 : Unit) => [(20, Value.int .i64 t0u8)]) (fun (t0u8 : Int) (bb_8 : Unit) => []) [2, 4, 6, 7, 8, 9, 19, 21] [0, 1, 2] H Y Y (fun t0u8 bb_8 h28 H => ?_) (fun J45 H HK45 => ?_)
 refine sR (p_ 2 Y (ix hT H Y Y Y Y Y Y fun _ H => ld hT H Y Y Y Y fun _ H => ng ?_))
 refine zcb H Y (fun H => ?_) (fun H => ?_)
 refine zrg (p_ 1 Y (zlq Y (l_ 0 Y) (p_ 1 Y ?_)))
 refine AtLX.bs (hT := hT) (cs := [_]) H Y Y Y Y Y Y Y Y Y (fun a_23 h30 H => ?_)
 refine zle Y (EffX.appendS (s := _) (u := _) hT Y Y Y Y Y Y Y Y Y Y (by decide) H) ?_
 rintro _ _ ⟨v_30, h31, rfl, rfl, H⟩
 refine p_ 1 Y (zle Y (zep (i := 0) (qv := [(_, [_, _, _]), (_, [_, _, _]), (_, [_, _, _, _, _, _, _, _])]) hT Y Y Y Y Y Y Y Y Y) ?_)
 rintro _ _ rfl
 refine znl (zbn ?_)
 exact pko (HK36 _ () _ H) [20, 2, 4, 6, 7, 8, 9, 19, 21] [0, 1, 2] Y
 refine zsk (zbn ?_)
 exact pko (HK36 _ () _ H) [20, 2, 4, 6, 7, 8, 9, 19, 21] [0, 1, 2] Y
 refine AtC.joinSeq (β := Unit) (fun (t0u9 : Bool) (bb_9 : Unit) => [(246, Value.bool t0u9)]) (fun (t0u9 : Bool) (bb_9 : Unit) => []) [2, 4, 6, 7, 8, 9, 19, 20, 21] [0, 1, 2] H Y Y (fun t0u9 bb_9 h29 H => ?_) (fun J46 H HK46 => ?_)
 refine zcb H Y (fun H => ?_) (fun H => ?_)
 refine zrg (p_ 2 Y (znl ?_))
 exact pko (HK45 _ () _ H) [20, 2, 4, 6, 7, 8, 9, 19, 21] [0, 1, 2] Y
 refine zsk ?_
 exact pko (HK45 _ () _ H) [20, 2, 4, 6, 7, 8, 9, 19, 21] [0, 1, 2] Y
 refine AtC.draw hmix (by kernel_rfl) (AtD.pures hT 2 _ _ _ _ Y ?_)
 obtain ⟨a_18_, hc46, hd46, H⟩ := H
 refine AtD.q Y (zqi hT Y Y Y Y Y hc46 hd46) ?_
 obtain ⟨v_24, hc47, H⟩ := H
 refine AtD.q Y (zql hT Y Y Y hc47) (AtD.pures hT 2 _ _ _ _ Y ?_)
 refine AtD.splitB (t := 221) H Y (fun H => ?_) (fun H => ?_)
 refine AtD.yes Y Y Y (AtD.pures hT 1 _ _ _ _ Y (AtD.yes Y Y Y (AtD.q Y (l_ 2 Y) (AtD.yes Y Y Y (AtD.pures hT 1 _ _ _ _ Y (AtD.yes Y Y Y ?_))))))
 obtain ⟨a_19_, hc48, hd48, H⟩ := H
 refine AtD.q Y (zqi hT Y Y Y Y Y hc48 hd48) (AtD.yes Y Y Y ?_)
 obtain ⟨v_25, hc49, H⟩ := H
 refine AtD.q Y (zql hT Y Y Y hc49) (AtD.yes Y Y Y (AtD.pures hT 1 _ _ _ _ Y (AtD.yes Y Y Y (AtD.pures hT 1 _ _ _ _ Y (AtD.pures hT 2 _ _ _ _ Y ?_)))))
 refine AtD.splitB (t := 230) H Y (fun H => ?_) (fun H => ?_)
 refine AtD.yes Y Y Y (AtD.pures hT 1 _ _ _ _ Y (AtD.yes Y Y Y (AtD.pures hT 1 _ _ _ _ Y (AtD.yes Y Y Y (AtD.pures hT 1 _ _ _ _ Y ?_)))))
 refine AtD.splitB (t := 233) H Y (fun H => ?_) (fun H => ?_)
 refine AtD.noF Y Y Y (by decide) Y (AtD.noF Y Y Y (by decide) Y (AtD.noF Y Y Y (by decide) Y (AtD.noF Y Y Y (by decide) Y (AtD.noF Y Y Y (by decide) Y (AtD.noF Y Y Y (by decide) Y (AtD.noF Y Y Y (by decide) Y (AtD.noF Y Y Y (by decide) Y ?_)))))))
 refine AtD.noF Y Y Y (by decide) Y (AtD.noF Y Y Y (by decide) Y (AtD.noF Y Y Y (by decide) Y (AtD.yes Y Y Y (AtD.pures hT 1 _ _ _ _ Y (AtD.pures hT 1 _ _ _ _ Y (AtD.nil ?_))))))
 exact pko (HK46 _ () _ H) [246, 2, 4, 6, 7, 8, 9, 19, 20, 21] [0, 1, 2] Y
 refine AtD.yes Y Y Y (AtD.pures hT 1 _ _ _ _ Y (AtD.yes Y Y Y (AtD.q Y (l_ 2 Y) (AtD.yes Y Y Y (AtD.pures hT 1 _ _ _ _ Y (AtD.yes Y Y Y ?_))))))
 obtain ⟨a_20_, hc50, hd50, H⟩ := H
 refine AtD.q Y (zqi hT Y Y Y Y Y hc50 hd50) (AtD.yes Y Y Y ?_)
 obtain ⟨v_26, hc51, H⟩ := H
 refine AtD.q Y (zql hT Y Y Y hc51) (AtD.yes Y Y Y (AtD.pures hT 1 _ _ _ _ Y (AtD.yes Y Y Y (AtD.q Y (l_ 2 Y) (AtD.yes Y Y Y (AtD.pures hT 1 _ _ _ _ Y (AtD.yes Y Y Y ?_)))))))
 obtain ⟨a_21_, hc52, hd52, H⟩ := H
 refine AtD.q Y (zqi hT Y Y Y Y Y hc52 hd52) (AtD.yes Y Y Y ?_)
 obtain ⟨v_27, hc53, H⟩ := H
 refine AtD.q Y (zql hT Y Y Y hc53) (AtD.yes Y Y Y (AtD.pures hT 1 _ _ _ _ Y (AtD.yes Y Y Y (AtD.pures hT 1 _ _ _ _ Y (AtD.pures hT 1 _ _ _ _ Y (AtD.nil ?_))))))
 exact pko (HK46 _ () _ H) [246, 2, 4, 6, 7, 8, 9, 19, 20, 21] [0, 1, 2] Y
 refine AtD.noF Y Y Y (by decide) Y (AtD.noF Y Y Y (by decide) Y (AtD.noF Y Y Y (by decide) Y (AtD.noU Y Y Y Y (AtD.noU Y Y Y Y (AtD.noU Y Y Y Y (AtD.noU Y Y Y Y (AtD.noU Y Y Y Y ?_)))))))
 refine AtD.noU Y Y Y Y (AtD.noU Y Y Y Y (AtD.noU Y Y Y Y (AtD.noU Y Y Y Y (AtD.noU Y Y Y Y (AtD.noU Y Y Y Y (AtD.noF Y Y Y (by decide) Y (AtD.pures hT 1 _ _ _ _ Y ?_)))))))
 refine AtD.nil ?_
 exact pko (HK46 _ () _ H) [246, 2, 4, 6, 7, 8, 9, 19, 20, 21] [0, 1, 2] Y
 refine AtD.noF Y Y Y (by decide) Y (AtD.noF Y Y Y (by decide) Y (AtD.noF Y Y Y (by decide) Y (AtD.noF Y Y Y (by decide) Y (AtD.noF Y Y Y (by decide) Y (AtD.noF Y Y Y (by decide) Y (AtD.noF Y Y Y (by decide) Y (AtD.pures hT 2 _ _ _ _ Y ?_)))))))
 refine AtD.noF Y Y Y (by decide) Y (AtD.noF Y Y Y (by decide) Y (AtD.noF Y Y Y (by decide) Y (AtD.noU Y Y Y Y (AtD.noU Y Y Y Y (AtD.noU Y Y Y Y (AtD.noU Y Y Y Y (AtD.noU Y Y Y Y ?_)))))))
 refine AtD.noU Y Y Y Y (AtD.noU Y Y Y Y (AtD.noU Y Y Y Y (AtD.noU Y Y Y Y (AtD.noU Y Y Y Y (AtD.noU Y Y Y Y (AtD.noF Y Y Y (by decide) Y (AtD.pures hT 1 _ _ _ _ Y ?_)))))))
 refine AtD.nil ?_
 exact pko (HK46 _ () _ H) [246, 2, 4, 6, 7, 8, 9, 19, 20, 21] [0, 1, 2] Y
 refine AtC.joinSeq (β := Unit) (fun (t0u7 : Bool) (bb_7 : Unit) => [(206, Value.bool t0u7)]) (fun (t0u7 : Bool) (bb_7 : Unit) => []) [2, 4, 6, 7, 8, 9, 19, 20, 21] [0, 1, 2] H Y Y (fun t0u7 bb_7 h25 H => ?_) (fun J38 H HK38 => ?_)
 refine zcb H Y (fun H => ?_) (fun H => ?_)
 obtain ⟨a_16_, hc42, hd42, H⟩ := H
 obtain ⟨v_21, hc43, H⟩ := H
 apply AtC.stages [6, 7, 9] A0u1 G0u1 hmix (by kernel_rfl) (nm 207 [_, _, _, _, _, _]) Y 3 Y
 refine Stg.go (ra 6) [6] Y Y (q_ Y (qq Y (l_ 0 Y) Y (q_ Y (q_ Y (qq Y (zqi hT Y Y Y Y Y hc42 hd42) Y (qq Y (zql hT Y Y Y hc43) Y zqz)))))) (eo Y (EffX.buildS2 (cs := [_]) hT Y Y Y Y Y Y Y Y H) ?_)
 rintro _ _ ⟨a_17, h26, rfl, rfl, H⟩
 apply Stg.next [(213, _)] Y Y
 refine Stg.go [0, 1] [7] Y Y (q_ Y (qq Y (l_ 0 Y) Y zqz)) (eo Y (EffX.appendS (s := _) (u := _) hT Y Y Y Y Y Y Y Y Y Y (by decide) H) ?_)
 rintro _ _ ⟨v_23, h27, rfl, rfl, H⟩
 apply Stg.next [(214, _), (215, _)] Y Y
 refine Stg.go [8] [9] Y Y (q_ Y zqz) (eo Y (zep (i := 0) (qv := [(_, [_, _, _]), (_, [_, _, _]), (_, [_, _, _, _, _, _, _, _])]) hT Y Y Y Y Y Y Y Y Y) ?_)
 rintro _ _ rfl
 apply Stg.next [] Y Y
 refine Stg.fin [] Y Y zqz ?_
 exact pko (HK37 _ () _ H) [2, 4, 6, 7, 8, 9, 19, 20, 21] [0, 1, 2] Y
 refine zsk ?_
 exact pko (HK37 _ () _ H) [2, 4, 6, 7, 8, 9, 19, 20, 21] [0, 1, 2] Y
 refine zrg (p_ 2 Y (ix hT H Y Y Y Y Y Y fun _ H => ld hT H Y Y Y Y fun _ H => p_ 2 Y ?_))
 refine AtL.splitB (t := 198) H Y (fun H => ?_) (fun H => ?_)
 refine p_ 3 Y (zlq Y (l_ 2 Y) (p_ 3 Y (ix hT H Y Y Y Y Y Y fun _ H => p_ 1 Y (ld hT H Y Y Y Y fun _ H => p_ 5 Y (znl ?_)))))
 exact pko (HK38 _ () _ H) [206, 2, 4, 6, 7, 8, 9, 19, 20, 21] [0, 1, 2] Y
 refine p_ 8 Y (znl ?_)
 exact pko (HK38 _ () _ H) [206, 2, 4, 6, 7, 8, 9, 19, 20, 21] [0, 1, 2] Y
 refine zxt (ztx (ztx (zbh (tg ?_))))
 refine AtC.joinSeq (β := Unit) (fun (t0u10 : Sl × Int × Sl) (bb_10 : Unit) => []) (fun (t0u10 : Sl × Int × Sl) (bb_10 : Unit) => [(b_2, [Sl.toV t0u10.1, Value.int .i64 t0u10.2.1, Sl.toV t0u10.2.2])]) [2, 4, 6, 7, 8, 19, 20] [1, 2] H Y Y (fun t0u10 bb_10 h32 H => ?_) (fun J57 H HK57 => ?_)
 refine zcs (sR (p_ 1 Y (ng (zck ?_))))
 refine AtC.loopM (fun (s0u6 : Int × Sl × Int × Sl) => [(22, Value.int .i64 s0u6.1)]) (fun (s0u6 : Int × Sl × Int × Sl) => [(b_2, [Sl.toV s0u6.2.1, Value.int .i64 s0u6.2.2.1, Sl.toV s0u6.2.2.2])]) [2, 4, 6, 7, 8, 19, 20] [22, 2, 4, 6, 7, 8, 19, 20] [1, 2] [0, 1, 2] H Y Y Y (by decide) Y (fun Kp62 s0u6 h35 H Q62 HK62 => ?_)
 refine zcs (sR (p_ 3 Y (ng ?_)))
 refine zcb H Y (fun H => ?_) (fun H => ?_)
 refine zsk (tg ?_)
 refine AtC.joinSeq (β := Unit) (fun (t0u11 : Sl × Int × Sl) (bb_11 : Unit) => []) (fun (t0u11 : Sl × Int × Sl) (bb_11 : Unit) => [(b_2, [Sl.toV t0u11.1, Value.int .i64 t0u11.2.1, Sl.toV t0u11.2.2])]) [2, 4, 6, 7, 8, 19, 20, 22] [1, 2] H Y Y (fun t0u11 bb_11 h36 H => ?_) (fun J63 H HK63 => ?_)
 refine zrg (p_ 3 Y (znl ?_))
 exact pko (HK62 _ _ (H _ rfl)) [22, 2, 4, 6, 7, 8, 19, 20] [0, 1, 2] Y
 refine zck ?_
 refine AtC.joinSeq (β := Unit) (fun (t0u12 : Bool) (bb_12 : Unit) => [(298, Value.bool t0u12)]) (fun (t0u12 : Bool) (bb_12 : Unit) => []) [2, 4, 6, 7, 8, 19, 20, 22] [0, 1, 2] H Y Y (fun t0u12 bb_12 h37 H => ?_) (fun J64 H HK64 => ?_)
 refine zcb H Y (fun H => ?_) (fun H => ?_)
 obtain ⟨a_29_, hc68, hd68, H⟩ := H
 obtain ⟨v_38, hc69, H⟩ := H
 apply AtC.stages [6, 7, 9] A0u1 G0u1 hmix (by kernel_rfl) (nm 299 [_, _, _, _, _, _]) Y 3 Y
 refine Stg.go (ra 6) [6] Y Y (q_ Y (qq Y (l_ 0 Y) Y (q_ Y (q_ Y (qq Y (zqi hT Y Y Y Y Y hc68 hd68) Y (qq Y (zql hT Y Y Y hc69) Y zqz)))))) (eo Y (EffX.buildS2 (cs := [_]) hT Y Y Y Y Y Y Y Y H) ?_)
 rintro _ _ ⟨a_30, h38, rfl, rfl, H⟩
 apply Stg.next [(305, _)] Y Y
 refine Stg.go [0, 1] [7] Y Y (q_ Y (qq Y (l_ 0 Y) Y zqz)) (eo Y (EffX.appendS (s := _) (u := _) hT Y Y Y Y Y Y Y Y Y Y (by decide) H) ?_)
 rintro _ _ ⟨v_40, h39, rfl, rfl, H⟩
 apply Stg.next [(306, _), (307, _)] Y Y
 refine Stg.go [8] [9] Y Y (q_ Y zqz) (eo Y (zep (i := 0) (qv := [(_, [_, _, _]), (_, [_, _, _]), (_, [_, _, _, _, _, _, _, _])]) hT Y Y Y Y Y Y Y Y Y) ?_)
 rintro _ _ rfl
 apply Stg.next [] Y Y
 refine Stg.fin [] Y Y zqz (zbn ?_)
 exact pko (HK63 _ () _ H) [2, 4, 6, 7, 8, 19, 20, 22] [0, 1, 2] Y
 refine zsk (zbn ?_)
 exact pko (HK63 _ () _ H) [2, 4, 6, 7, 8, 19, 20, 22] [0, 1, 2] Y
 refine zrg (p_ 2 Y (ix hT H Y Y Y Y Y Y fun _ H => ld hT H Y Y Y Y fun _ H => p_ 2 Y ?_))
 refine AtL.splitB (t := 285) H Y (fun H => ?_) (fun H => ?_)
 refine p_ 3 Y (zlq Y (l_ 2 Y) (p_ 3 Y (ix hT H Y Y Y Y Y Y fun _ H => p_ 1 Y (ld hT H Y Y Y Y fun _ H => p_ 6 Y ?_))))
 refine AtL.splitB (t := 294) H Y (fun H => ?_) (fun H => ?_)
 refine p_ 7 Y (znl ?_)
 exact pko (HK64 _ () _ H) [298, 2, 4, 6, 7, 8, 19, 20, 22] [0, 1, 2] Y
 refine p_ 4 Y (znl ?_)
 exact pko (HK64 _ () _ H) [298, 2, 4, 6, 7, 8, 19, 20, 22] [0, 1, 2] Y
 refine p_ 13 Y (znl ?_)
 exact pko (HK64 _ () _ H) [298, 2, 4, 6, 7, 8, 19, 20, 22] [0, 1, 2] Y
 refine zxt (ztx (ztx (zbh (tg (sR (zlq Y (s_ 0 [_, _, _] Y) (sp hT 1 [(_, [_, _, _]), (_, [_, _, _]), (_, [_, _, _, _, _, _, _, _])] Y Y Y Y Y Y Y Y Y Y Y fun _ => ?_)))))))
 refine p_ 1 Y (ng (zrt ?_))
 exact AtE.retN (rs := [.cell 4 49, .tmp 5]) Y (ResAll.cons (ResAt.cellSP (i := 1) (l := [_, _, _]) hT Y Y Y Y Y Y Y) (ResAll.cons (ResAt.tmp Y) ResAll.nil)) Y H
 refine sR (p_ 2 Y (ng ?_))
 refine zcb H Y (fun H => ?_) (fun H => ?_)
 obtain ⟨a_24_, hc57, hd57, H⟩ := H
 obtain ⟨v_32, hc58, H⟩ := H
 apply AtC.seqS [6, 7, 9] A0u1 G0u1 hmix (by kernel_rfl) (nm 260 [_, _, _, _, _, _]) Y 3 Y
 refine Stg.go (ra 6) [6] Y Y (q_ Y (qq Y (l_ 0 Y) Y (q_ Y (q_ Y (qq Y (zqi hT Y Y Y Y Y hc57 hd57) Y (qq Y (zql hT Y Y Y hc58) Y zqz)))))) (eo Y (EffX.buildS2 (cs := [_]) hT Y Y Y Y Y Y Y Y H) ?_)
 rintro _ _ ⟨a_25, h33, rfl, rfl, H⟩
 apply Stg.next [(266, _)] Y Y
 refine Stg.go [0, 1] [7] Y Y (q_ Y (qq Y (l_ 0 Y) Y zqz)) (eo Y (EffX.appendS (s := _) (u := _) hT Y Y Y Y Y Y Y Y Y Y (by decide) H) ?_)
 rintro _ _ ⟨v_34, h34, rfl, rfl, H⟩
 apply Stg.next [(267, _), (268, _)] Y Y
 refine Stg.go [8] [9] Y Y (q_ Y zqz) (eo Y (zep (i := 0) (qv := [(_, [_, _, _]), (_, [_, _, _]), (_, [_, _, _, _, _, _, _, _])]) hT Y Y Y Y Y Y Y Y Y) ?_)
 rintro _ _ rfl
 apply Stg.next [] Y Y
 refine Stg.fin [] Y Y zqz (tg (zrg (p_ 1 Y (zlq Y (l_ 2 Y) (p_ 1 Y (ix hT H Y Y Y Y Y Y fun _ H => ld hT H Y Y Y Y fun _ H => ?_))))))
 refine p_ 1 Y (zle Y (zep (i := 0) (qv := [(_, [_, _, _]), (_, [_, _, _]), (_, [_, _, _, _, _, _, _, _])]) hT Y Y Y Y Y Y Y Y Y) ?_)
 rintro _ _ rfl
 refine znl ?_
 exact pko (HK57 _ () _ H) [2, 4, 6, 7, 8, 19, 20] [0, 1, 2] Y
 refine zsk ?_
 exact pko (HK57 _ () _ H) [2, 4, 6, 7, 8, 19, 20] [0, 1, 2] Y
 refine zsk (tg (zcs (sR (p_ 1 Y (zlq Y (l_ 1 Y) (p_ 1 Y (ix hT H Y Y Y Y Y Y fun _ H => ?_)))))))
 refine ld hT H Y Y Y Y fun _ H => p_ 1 Y (ng ?_)
 refine zcb H Y (fun H => ?_) (fun H => ?_)
 refine sR (zlq Y (zqb (cs := [_, _, _]) hT Y Y Y Y Y Y) (sp hT 0 [(_, [_, _, _]), (_, [_, _, _, _, _, _, _, _])] Y Y Y Y Y Y Y Y Y Y Y fun _ => p_ 1 Y (ng (zrt (ztr (zbr ?_))))))
 refine ztr (zbr (ztr ?_))
 exact AtE.retN (rs := [.cell 4 49, .tmp 5]) Y (ResAll.cons (ResAt.cellSP (i := 0) (l := [_, _, _]) hT Y Y Y Y Y Y Y) (ResAll.cons (ResAt.tmp Y) ResAll.nil)) Y H
 refine zsk (tg (sR (p_ 2 Y (ix hT H Y Y Y Y Y Y fun _ H => zle Y (EffX.store hT Y Y Y Y Y H) ?_))))
 rintro _ _ ⟨h40, rfl, H⟩
 refine ng (AtC.seqD hmix (by kernel_rfl) (AtD.pures hT 1 _ _ _ _ Y (AtD.q Y (l_ 1 Y) (AtD.pures hT 1 _ _ _ _ Y (AtD.q Y (l_ 1 Y) (AtD.pures hT 1 _ _ _ _ Y ?_))))))
 obtain ⟨a_33_, hc73, hd73, H⟩ := H
 refine AtD.q Y (zqi hT Y Y Y Y Y hc73 hd73) ?_
 obtain ⟨v_43, hc74, H⟩ := H
 refine AtD.q Y (zql hT Y Y Y hc74) ?_
 obtain ⟨a_34_, hc75, hd75, H⟩ := H
 refine AtD.q Y (zqi hT Y Y Y Y Y hc75 hd75) (AtD.pures hT 1 _ _ _ _ Y ?_)
 obtain ⟨v_44, hc76, H⟩ := H
 refine AtD.q Y (zql hT Y Y Y hc76) (AtD.pures hT 1 _ _ _ _ Y (AtD.nil (tg (sR (p_ 1 Y (ng (zck ?_)))))))
 refine AtC.loopM (fun (s0u7 : Int) => [(17, Value.int .i64 s0u7)]) (fun (s0u7 : Int) => []) [2, 4, 6, 7, 8, 9, 13, 16] [17, 2, 4, 6, 7, 8, 9, 13, 16] [0, 1] [0, 1] H Y Y Y (by decide) Y (fun Kp78 s0u7 h41 H Q78 HK78 => ?_)
 refine zcs (sR (p_ 4 Y (ng ?_)))
 refine zcb H Y (fun H => ?_) (fun H => ?_)
 refine zsk (tg ?_)
 refine AtC.joinSeq (β := Unit) (fun (t0u13 : Unit) (bb_13 : Unit) => []) (fun (t0u13 : Unit) (bb_13 : Unit) => []) [2, 4, 6, 7, 8, 9, 13, 16, 17] [0, 1] H Y Y (fun t0u13 bb_13 h42 H => ?_) (fun J79 H HK79 => ?_)
 refine zrg (p_ 3 Y (znl ?_))
 exact pko (HK78 _ _ (H _ rfl)) [17, 2, 4, 6, 7, 8, 9, 13, 16] [0, 1] Y
 refine zck (sR (p_ 2 Y (ix hT H Y Y Y Y Y Y fun _ H => ld hT H Y Y Y Y fun _ H => lc (lift_ref18uTruth _) H Try.call25 Y fun v_46 h43 H => p_ 1 Y (ng ?_))))
 refine AtC.joinSeq (β := Unit) (fun (t0u14 : Bool) (bb_14 : Unit) => [(175, Value.bool t0u14)]) (fun (t0u14 : Bool) (bb_14 : Unit) => []) [2, 4, 6, 7, 8, 9, 13, 16, 17, 18] [0, 1] H Y Y (fun t0u14 bb_14 h44 H => ?_) (fun J82 H HK82 => ?_)
 refine zcb H Y (fun H => ?_) (fun H => ?_)
 refine sR (p_ 4 Y (ix hT H Y Y Y Y Y Y fun _ H => ld hT H Y Y Y Y fun _ H => ix hT H Y Y Y Y Y Y fun _ H => zle Y (EffX.store hT Y Y Y Y Y H) ?_))
 rintro _ _ ⟨h45, rfl, H⟩
 refine ng (zrg (p_ 2 Y (ix hT H Y Y Y Y Y Y fun _ H => zle Y (EffX.store hT Y Y Y Y Y H) ?_)))
 rintro _ _ ⟨h46, rfl, H⟩
 refine znl (zbn ?_)
 exact pko (HK79 _ () _ H) [2, 4, 6, 7, 8, 9, 13, 16, 17] [0, 1] Y
 refine zsk (zbn ?_)
 exact pko (HK79 _ () _ H) [2, 4, 6, 7, 8, 9, 13, 16, 17] [0, 1] Y
 refine zrg (p_ 4 Y ?_)
 refine AtL.splitB (t := 168) H Y (fun H => ?_) (fun H => ?_)
 refine p_ 3 Y (zlq Y (l_ 1 Y) (p_ 3 Y (ix hT H Y Y Y Y Y Y fun _ H => p_ 1 Y (ld hT H Y Y Y Y fun _ H => p_ 3 Y (znl ?_)))))
 exact pko (HK82 _ () _ H) [175, 2, 4, 6, 7, 8, 9, 13, 16, 17, 18] [0, 1] Y
 refine p_ 7 Y (znl ?_)
 exact pko (HK82 _ () _ H) [175, 2, 4, 6, 7, 8, 9, 13, 16, 17, 18] [0, 1] Y
 refine zxt (ztx (ztx (zbh (zbn ?_))))
 exact pko (HK25 _ _ H) [2, 4, 6, 7, 8, 9] [0, 1] Y
 refine zrg (p_ 3 Y ?_)
 refine AtL.splitB (t := 72) H Y (fun H => ?_) (fun H => ?_)
 refine p_ 6 Y (znl ?_)
 exact pko (HK16 _ () _ H) [78, 2, 4, 6, 7, 8, 9] [0, 1] Y
 refine p_ 1 Y (zlq Y (s_ 1 [_, _, _, _, _, _, _, _] Y) (p_ 3 Y (lc (lift_ref19uLevel _ _) H Try.call20 Y fun v_10 h10 H => p_ 5 Y (znl ?_))))
 exact pko (HK16 _ () _ H) [78, 2, 4, 6, 7, 8, 9] [0, 1] Y
theorem lift_law19uLearnTold (s0 : Sl × Sl × Sl × Sl × Sl × Sl × Sl × Int) (lits : Sl) : Lf Try.prog 4 [Value.agg (C_sl_sl_sl_sl_sl_sl_sl_i64 s0).toArray, Sl.toV lits] Value.bool (law19uLearnTold s0 lits) := by
 refine Lf.go Try.func4 Try.ntmps4 Y Y [0, 1] Y fun w m S H => ?_
 unfold law19uLearnTold at H
 refine sR (bx [_, _, _, _, _, _, _, _] H Y Y Y Y fun b _ H => p_ 1 Y (ng (zcs (sR (zle Y (cl (fun h => law19uspeaks h _) H.self Y Try.call15 Y (fun w m hr hw => lift_law19uspeaks  w m hr _ hw)) ?_)))))
 rintro _ _ ⟨v, h1, rfl, rfl, H⟩
 refine p_ 1 Y (ng ?_)
 refine zcb H Y (fun H => ?_) (fun H => ?_)
 refine sR (p_ 1 Y (ng (zrt (ztr ?_))))
 exact r1 4 Y Y Y H
 refine zsk (tg (zcs (sR (zlq Y (s_ 0 [_, _, _, _, _, _, _, _] Y) (p_ 1 Y (lc (lift_law19ugreat _ _) H Try.call16 Y fun v_1 h2 H => ng ?_))))))
 refine zcb H Y (fun H => ?_) (fun H => ?_)
 refine sR (p_ 1 Y (ng (zrt (ztr ?_))))
 exact r1 4 Y Y Y H
 refine zsk (tg ?_)
 refine AtC.joinSeq (β := Nat) (fun (t0 : Int × Sl × Int × Sl) (bb : Nat) => [(6, Value.int .i64 t0.1), (5, Value.pointer (some ⟨bb, 0, none⟩))]) (fun (t0 : Int × Sl × Int × Sl) (bb : Nat) => [(bb, [Sl.toV t0.2.1, Value.int .i64 t0.2.2.1, Sl.toV t0.2.2.2])]) [1, 2] [0] H Y Y (fun t0 bb h3 H => ?_) (fun J1 H HK1 => ?_)
 refine sR (zlq Y (s_ 1 [_, _, _, _, _, _, _, _] Y) (p_ 1 Y (lc (lift_ref19uFrom _ _) H Try.call18 Y fun v_11 h23 H => p_ 3 Y (al hT [_, _, _] H Y Y Y fun b_5 _ H => sp hT 0 [(_, [_, _, _]), (_, [_, _, _]), (_, [_, _, _, _, _, _, _, _])] Y Y Y Y Y Y Y Y Y Y Y fun _ => p_ 1 Y ?_))))
 refine ng ?_
 refine AtC.joinSeq (β := Unit) (fun (t0u1 : Bool) (bb_1 : Unit) => [(4, Value.bool t0u1)]) (fun (t0u1 : Bool) (bb_1 : Unit) => []) [] [] H.self Y Y (fun t0u1 bb_1 h25 H => ?_) (fun J6 H HK6 => ?_)
 refine zrt ?_
 exact r1 4 Y Y Y H
 rcases iteB.cases H with ⟨hb6, H⟩ | ⟨hb6, H⟩
 apply AtC.stages [8, 22, 27, 30] A0u2 G0u2 hmix (by kernel_rfl) (nm 28 [_, _, _, _, _, _, _, _]) Y 4 Y
 refine Stg.known (t := 31) Y hb6 (Stg.go (ra 8) [8] Y Y (q_ Y (q_ Y (q_ Y (QAll.cons (QOp.pk hT Y Y Y Y hb6 Y) (QAll.cons (QOp.yp hT Y Y Y Y Y Y Y) (QAll.cons (QOp.y Y Y Y Y (l_ 1 Y) Y Y) (QAll.cons (QOp.yp hT Y Y Y Y Y Y Y) (QAll.cons (QOp.y Y Y Y Y (l_ 0 Y) Y Y) zqz)))))))) ?_)
 refine EAll.cons ?_ EAll.nil
 refine EOp.y Y Y Y Y Y (cl (fun h => ref18uSameInts _ _ h _) H Y Try.call10 Y (fun w m hr hw => lift_ref18uSameInts _ _ w m hr _ hw)) ?_
 rintro _ _ ⟨v_12, h26, rfl, rfl, H⟩
 rcases iteB.cases H with ⟨hb7, H⟩ | ⟨hb7, H⟩
 rcases iteB.cases H with ⟨hb8, H⟩ | ⟨hb8, H⟩
 apply Stg.next (nm 36 [_, _, _, _, _, _, _, _, _, _, _, _, _, _]) Y Y
 refine Stg.known (t := 38) Y hb7 (Stg.known (t := 45) Y hb8 (Stg.go [9, 10, 11, 12, 13, 14, 15, 16, 17, 18, 19, 20, 21] [22] Y Y (q_ Y (QAll.cons (QOp.pk hT Y Y Y Y hb7 Y) (QAll.cons (QOp.yp hT Y Y Y Y Y Y Y) (QAll.cons (QOp.y Y Y Y Y (l_ 1 Y) Y Y) (QAll.cons (QOp.yp hT Y Y Y Y Y Y Y) (QAll.cons (QOp.y Y Y Y Y (l_ 0 Y) Y Y) (QAll.cons (QOp.yp hT Y Y Y Y Y Y Y) (q_ Y (QAll.cons (QOp.pk hT Y Y Y Y hb8 Y) (QAll.cons (QOp.yp hT Y Y Y Y Y Y Y) (QAll.cons (QOp.y Y Y Y Y (l_ 1 Y) Y Y) (QAll.cons (QOp.yp hT Y Y Y Y Y Y Y) (QAll.cons (QOp.y Y Y Y Y (l_ 0 Y) Y Y) zqz))))))))))))) ?_))
 refine EAll.cons ?_ EAll.nil
 refine EOp.y Y Y Y Y Y (cl (fun h => ref18uSameInts _ _ h _) H Y Try.call10 Y (fun w m hr hw => lift_ref18uSameInts _ _ w m hr _ hw)) ?_
 rintro _ _ ⟨v_13, h27, rfl, rfl, H⟩
 rcases iteB.cases H with ⟨hb9, H⟩ | ⟨hb9, H⟩
 apply Stg.next (nm 50 [_, _, _, _, _] ++ [(56, _), (57, _)]) Y Y
 refine Stg.known (t := 52) Y hb9 (Stg.go [23, 24, 25, 26, 28, 29] [27] Y Y (q_ Y (QAll.cons (QOp.pk hT Y Y Y Y hb9 Y) (QAll.cons (QOp.y Y Y Y Y (s_ 2 [_, _, _, _, _, _, _, _] Y) Y Y) (QAll.cons (QOp.yp hT Y Y Y Y Y Y Y) (QAll.cons (QOp.y Y Y Y Y (s_ 2 [_, _, _, _, _, _, _, _] Y) Y Y) (QAll.cons (QOp.yp hT Y Y Y Y Y Y Y) zqz)))))) ?_)
 refine EAll.cons ?_ EAll.nil
 refine EOp.y Y Y Y Y Y (cl (fun h => learn_Level _ _ h _) H Y Try.call19 Y (fun w m hr hw => lift_learn_Level _ _ w m hr _ hw)) ?_
 rintro _ _ ⟨v_14, h28, rfl, rfl, H⟩
 apply Stg.next [(55, _)] Y Y
 refine Stg.go [28, 29] [30] Y Y (QAll.cons (QOp.y Y Y Y Y (s_ 2 [_, _, _, _, _, _, _, _] Y) Y Y) (QAll.cons (QOp.yp hT Y Y Y Y Y Y Y) zqz)) ?_
 refine EAll.cons ?_ EAll.nil
 refine EOp.y Y Y Y Y Y (cl (fun h => ref19uLevel _ _ h _) H Y Try.call20 Y (fun w m hr hw => lift_ref19uLevel _ _ w m hr _ hw)) ?_
 rintro _ _ ⟨v_15, h29, rfl, rfl, H⟩
 apply Stg.next [(58, _), (59, _), (60, _), (4, _)] Y Y
 refine Stg.fin [31, 32, 33] Y Y (QAll.cons (QOp.yp hT Y Y Y Y Y Y Y) (q_ Y (q_ Y zqz))) ?_
 exact pko (HK6 _ () _ H) [4] [] Y
 apply Stg.next (nm 50 [_, _, _, _, _] ++ [(56, _), (57, _)]) Y Y
 refine Stg.known (t := 52) Y hb9 (Stg.go [23, 24, 25, 26, 28, 29] [27] Y Y (q_ Y (QAll.cons (QOp.pk hT Y Y Y Y hb9 Y) (qn Y Y Y Y (by decide) Y Y (qn Y Y Y Y (by decide) Y Y (qn Y Y Y Y (by decide) Y Y (qn Y Y Y Y (by decide) Y Y zqz)))))) ?_)
 refine EAll.cons ?_ EAll.nil
 refine EOp.no Y Y Y Y (by decide) Y ?_
 apply Stg.next [(55, _)] Y Y
 refine Stg.go [28, 29] [30] Y Y (qn Y Y Y Y (by decide) Y Y (qn Y Y Y Y (by decide) Y Y zqz)) ?_
 refine EAll.cons ?_ EAll.nil
 refine EOp.no Y Y Y Y (by decide) Y ?_
 apply Stg.next [(58, _), (59, _), (60, _), (4, _)] Y Y
 refine Stg.fin [31, 32, 33] Y Y (qn Y Y Y Y (by decide) Y Y (q_ Y (q_ Y zqz))) ?_
 exact pko (HK6 _ () _ H) [4] [] Y
 apply Stg.next (nm 36 [_, _, _, _, _, _, _, _, _, _, _, _, _, _]) Y Y
 refine Stg.known (t := 38) Y hb7 (Stg.known (t := 45) Y hb8 (Stg.go [9, 10, 11, 12, 13, 14, 15, 16, 17, 18, 19, 20, 21] [22] Y Y (q_ Y (QAll.cons (QOp.pk hT Y Y Y Y hb7 Y) (QAll.cons (QOp.yp hT Y Y Y Y Y Y Y) (QAll.cons (QOp.y Y Y Y Y (l_ 1 Y) Y Y) (QAll.cons (QOp.yp hT Y Y Y Y Y Y Y) (QAll.cons (QOp.y Y Y Y Y (l_ 0 Y) Y Y) (QAll.cons (QOp.yp hT Y Y Y Y Y Y Y) (q_ Y (QAll.cons (QOp.pk hT Y Y Y Y hb8 Y) (qn Y Y Y Y (by decide) Y Y (qn Y Y Y Y (by decide) Y Y (qn Y Y Y Y (by decide) Y Y (qn Y Y Y Y (by decide) Y Y zqz))))))))))))) ?_))
 refine EAll.cons ?_ EAll.nil
 refine EOp.no Y Y Y Y (by decide) Y ?_
 apply Stg.next (nm 50 [_, _, _, _, _] ++ [(56, _), (57, _)]) Y Y
 refine Stg.go [23, 24, 25, 26, 28, 29] [27] Y Y (q_ Y (q_ Y (qn Y Y Y Y (by decide) Y Y (qn Y Y Y Y (by decide) Y Y (qn Y Y Y Y (by decide) Y Y (qn Y Y Y Y (by decide) Y Y zqz)))))) ?_
 refine EAll.cons ?_ EAll.nil
 refine EOp.no Y Y Y Y (by decide) Y ?_
 apply Stg.next [(55, _)] Y Y
 refine Stg.go [28, 29] [30] Y Y (qn Y Y Y Y (by decide) Y Y (qn Y Y Y Y (by decide) Y Y zqz)) ?_
 refine EAll.cons ?_ EAll.nil
 refine EOp.no Y Y Y Y (by decide) Y ?_
 apply Stg.next [(58, _), (59, _), (60, _), (4, _)] Y Y
 refine Stg.fin [31, 32, 33] Y Y (qn Y Y Y Y (by decide) Y Y (q_ Y (q_ Y zqz))) ?_
 exact pko (HK6 _ () _ H) [4] [] Y
 apply Stg.next (nm 36 [_, _, _, _, _, _, _, _, _, _, _, _, _, _]) Y Y
 refine Stg.known (t := 38) Y hb7 (Stg.go [9, 10, 11, 12, 13, 14, 15, 16, 17, 18, 19, 20, 21] [22] Y Y (q_ Y (QAll.cons (QOp.pk hT Y Y Y Y hb7 Y) (qn Y Y Y Y (by decide) Y Y (qn Y Y Y Y (by decide) Y Y (qn Y Y Y Y (by decide) Y Y (qn Y Y Y Y (by decide) Y Y (qn Y Y Y Y (by decide) Y Y (q_ Y (q_ Y (qn Y Y Y Y (by decide) Y Y (qn Y Y Y Y (by decide) Y Y (qn Y Y Y Y (by decide) Y Y (qn Y Y Y Y (by decide) Y Y zqz))))))))))))) ?_)
 refine EAll.cons ?_ EAll.nil
 refine EOp.no Y Y Y Y (by decide) Y ?_
 apply Stg.next (nm 50 [_, _, _, _, _] ++ [(56, _), (57, _)]) Y Y
 refine Stg.go [23, 24, 25, 26, 28, 29] [27] Y Y (q_ Y (q_ Y (qn Y Y Y Y (by decide) Y Y (qn Y Y Y Y (by decide) Y Y (qn Y Y Y Y (by decide) Y Y (qn Y Y Y Y (by decide) Y Y zqz)))))) ?_
 refine EAll.cons ?_ EAll.nil
 refine EOp.no Y Y Y Y (by decide) Y ?_
 apply Stg.next [(55, _)] Y Y
 refine Stg.go [28, 29] [30] Y Y (qn Y Y Y Y (by decide) Y Y (qn Y Y Y Y (by decide) Y Y zqz)) ?_
 refine EAll.cons ?_ EAll.nil
 refine EOp.no Y Y Y Y (by decide) Y ?_
 apply Stg.next [(58, _), (59, _), (60, _), (4, _)] Y Y
 refine Stg.fin [31, 32, 33] Y Y (qn Y Y Y Y (by decide) Y Y (q_ Y (q_ Y zqz))) ?_
 exact pko (HK6 _ () _ H) [4] [] Y
 apply AtC.stages [8, 22, 27, 30] A0u2 G0u2 hmix (by kernel_rfl) (nm 28 [_, _, _, _, _, _, _, _]) Y 4 Y
 refine Stg.known (t := 31) Y hb6 (Stg.go (ra 8) [8] Y Y (q_ Y (q_ Y (q_ Y (QAll.cons (QOp.pk hT Y Y Y Y hb6 Y) (qn Y Y Y Y (by decide) Y Y (qn Y Y Y Y (by decide) Y Y (qn Y Y Y Y (by decide) Y Y (qn Y Y Y Y (by decide) Y Y zqz)))))))) ?_)
 refine EAll.cons ?_ EAll.nil
 refine EOp.no Y Y Y Y (by decide) Y ?_
 apply Stg.next (nm 36 [_, _, _, _, _, _, _, _, _, _, _, _, _, _]) Y Y
 refine Stg.go [9, 10, 11, 12, 13, 14, 15, 16, 17, 18, 19, 20, 21] [22] Y Y (q_ Y (q_ Y (qn Y Y Y Y (by decide) Y Y (qn Y Y Y Y (by decide) Y Y (qn Y Y Y Y (by decide) Y Y (qn Y Y Y Y (by decide) Y Y (qn Y Y Y Y (by decide) Y Y (q_ Y (q_ Y (qn Y Y Y Y (by decide) Y Y (qn Y Y Y Y (by decide) Y Y (qn Y Y Y Y (by decide) Y Y (qn Y Y Y Y (by decide) Y Y zqz))))))))))))) ?_
 refine EAll.cons ?_ EAll.nil
 refine EOp.no Y Y Y Y (by decide) Y ?_
 apply Stg.next (nm 50 [_, _, _, _, _] ++ [(56, _), (57, _)]) Y Y
 refine Stg.go [23, 24, 25, 26, 28, 29] [27] Y Y (q_ Y (q_ Y (qn Y Y Y Y (by decide) Y Y (qn Y Y Y Y (by decide) Y Y (qn Y Y Y Y (by decide) Y Y (qn Y Y Y Y (by decide) Y Y zqz)))))) ?_
 refine EAll.cons ?_ EAll.nil
 refine EOp.no Y Y Y Y (by decide) Y ?_
 apply Stg.next [(55, _)] Y Y
 refine Stg.go [28, 29] [30] Y Y (qn Y Y Y Y (by decide) Y Y (qn Y Y Y Y (by decide) Y Y zqz)) ?_
 refine EAll.cons ?_ EAll.nil
 refine EOp.no Y Y Y Y (by decide) Y ?_
 apply Stg.next [(58, _), (59, _), (60, _), (4, _)] Y Y
 refine Stg.fin [31, 32, 33] Y Y (qn Y Y Y Y (by decide) Y Y (q_ Y (q_ Y zqz))) ?_
 exact pko (HK6 _ () _ H) [4] [] Y
 apply AtC.stages [1, 3, 4, 8, 9] [[], [], [], [1], [1, 3], [1, 3, 4], [1, 3, 4], [1, 3, 4], [], [1, 3, 4, 8], [1, 3, 4, 8, 9]] [[], [], [], [1, 2], [0, 1, 2, 3], (ra 5), (ra 6), (ra 6), [], (ra 7 ++ [8]), (ra 10)] hmix (by kernel_rfl) [(15, _), (17, _)] Y 5 Y
 refine Stg.go [0, 2] [1, 8] Y Y (qq Y (s_ 0 [_, _, _, _, _, _, _, _] Y) Y (q_ Y zqz)) ?_
 refine EAll.cons ?_ ?_
 refine EOp.e Y Y Y (EffX.buildS2 (cs := []) hT Y Y Y Y Y Y Y Y H.self) ?_
 rintro _ _ ⟨a, h5, rfl, rfl, H⟩
 apply Stg.next [(16, _)] Y Y
 refine Stg.go [0, 2] [3, 8] Y Y (qq Y (s_ 0 [_, _, _, _, _, _, _, _] Y) Y (q_ Y zqz)) ?_
 refine EAll.cons ?_ ?_
 refine EOp.e Y Y Y (EffX.appendS (s := _) (u := _) hT Y Y Y Y Y Y Y Y Y Y (by decide) H.self) ?_
 rintro _ _ ⟨v_3, h7, rfl, rfl, H⟩
 apply Stg.next [(18, _)] Y Y
 refine Stg.go [0] [4, 8] Y Y (qq Y (s_ 0 [_, _, _, _, _, _, _, _] Y) Y zqz) ?_
 refine EAll.cons ?_ ?_
 refine EOp.e Y Y Y (cl (fun h => learn_From _ _ h _) H.self Y Try.call17 Y (fun w m hr hw => lift_learn_From _ _ w m hr _ hw)) ?_
 rintro _ _ ⟨v_4, h9, rfl, rfl, H⟩
 apply Stg.next [(19, _), (14, _), (20, _), (21, _)] Y Y
 refine Stg.go [5, 6, 7] [8] Y Y (q_ Y (q_ Y (q_ Y zqz))) (eo Y (zea (cs := [_, _, _]) hT Y Y H) ?_)
 rintro _ _ ⟨b_1, _, rfl, rfl, he1, H⟩
 apply Stg.next [(5, _)] Y Y
 refine Stg.go [5, 6, 7] [9] Y Y (q_ Y (q_ Y (q_ Y zqz))) (eo Y (zes (i := 0) (qv := [(_, [_, _, _]), (_, [_, _, _, _, _, _, _, _])]) hT Y Y Y Y Y Y Y Y Y Y) ?_)
 rintro _ _ rfl
 apply Stg.next [(6, _)] Y Y
 refine Stg.fin [7, 10] Y Y (q_ Y (q_ Y zqz)) ?_
 exact pko (HK1 _ b_1 _ H.self) [6, 5, 1, 2] [0, 1] Y
 refine eo Y (zea (cs := [_, _, _]) hT Y Y H) ?_
 rintro _ _ ⟨b_2, _, rfl, rfl, he2, H⟩
 apply Stg.next [(5, _)] Y Y
 refine Stg.go [0] [4] Y Y (qq Y (s_ 1 [_, _, _, _, _, _, _, _] Y) Y zqz) (ec (lift_learn_From _ _) H.self Try.call17 Y fun v_5 h11 H => ?_)
 apply Stg.next [(19, _), (14, _), (20, _), (21, _)] Y Y
 refine Stg.go [5, 6, 7] [9] Y Y (q_ Y (q_ Y (q_ Y zqz))) (eo Y (zes (i := 0) (qv := [(_, [_, _, _]), (_, [_, _, _, _, _, _, _, _])]) hT Y Y Y Y Y Y Y Y Y Y) ?_)
 rintro _ _ rfl
 apply Stg.next [(6, _)] Y Y
 refine Stg.fin [7, 10] Y Y (q_ Y (q_ Y zqz)) ?_
 exact pko (HK1 _ b_2 _ H.self) [6, 5, 1, 2] [0, 1] Y
 refine eo Y (zea (cs := [_, _, _]) hT Y Y H) ?_
 rintro _ _ ⟨b_3, _, rfl, rfl, he3, H⟩
 apply Stg.next [(5, _)] Y Y
 refine Stg.go [0, 2] [3] Y Y (qq Y (s_ 1 [_, _, _, _, _, _, _, _] Y) Y (q_ Y zqz)) (eo Y (EffX.appendS (s := _) (u := _) hT Y Y Y Y Y Y Y Y Y Y (by decide) H.self) ?_)
 rintro _ _ ⟨v_6, h13, rfl, rfl, H⟩
 apply Stg.next [(18, _)] Y Y
 refine Stg.go [0] [4] Y Y (qq Y (s_ 1 [_, _, _, _, _, _, _, _] Y) Y zqz) (ec (lift_learn_From _ _) H.self Try.call17 Y fun v_7 h15 H => ?_)
 apply Stg.next [(19, _), (14, _), (20, _), (21, _)] Y Y
 refine Stg.go [5, 6, 7] [9] Y Y (q_ Y (q_ Y (q_ Y zqz))) (eo Y (zes (i := 0) (qv := [(_, [_, _, _]), (_, [_, _, _, _, _, _, _, _])]) hT Y Y Y Y Y Y Y Y Y Y) ?_)
 rintro _ _ rfl
 apply Stg.next [(6, _)] Y Y
 refine Stg.fin [7, 10] Y Y (q_ Y (q_ Y zqz)) ?_
 exact pko (HK1 _ b_3 _ H.self) [6, 5, 1, 2] [0, 1] Y
 refine eo Y (zea (cs := [_, _, _]) hT Y Y H) ?_
 rintro _ _ ⟨b_4, _, rfl, rfl, he4, H⟩
 apply Stg.next [(5, _)] Y Y
 refine Stg.go [0, 2] [1] Y Y (qq Y (s_ 1 [_, _, _, _, _, _, _, _] Y) Y (q_ Y zqz)) (eo Y (EffX.buildS2 (cs := []) hT Y Y Y Y Y Y Y Y H.self) ?_)
 rintro _ _ ⟨a_1, h17, rfl, rfl, H⟩
 apply Stg.next [(16, _)] Y Y
 refine Stg.go [0, 2] [3] Y Y (qq Y (s_ 1 [_, _, _, _, _, _, _, _] Y) Y (q_ Y zqz)) (eo Y (EffX.appendS (s := _) (u := _) hT Y Y Y Y Y Y Y Y Y Y (by decide) H.self) ?_)
 rintro _ _ ⟨v_9, h19, rfl, rfl, H⟩
 apply Stg.next [(18, _)] Y Y
 refine Stg.go [0] [4] Y Y (qq Y (s_ 1 [_, _, _, _, _, _, _, _] Y) Y zqz) (ec (lift_learn_From _ _) H.self Try.call17 Y fun v_10 h21 H => ?_)
 apply Stg.next [(19, _), (14, _), (20, _), (21, _)] Y Y
 refine Stg.go [5, 6, 7] [9] Y Y (q_ Y (q_ Y (q_ Y zqz))) (eo Y (zes (i := 0) (qv := [(_, [_, _, _]), (_, [_, _, _, _, _, _, _, _])]) hT Y Y Y Y Y Y Y Y Y Y) ?_)
 rintro _ _ rfl
 apply Stg.next [(6, _)] Y Y
 refine Stg.fin [7, 10] Y Y (q_ Y (q_ Y zqz)) ?_
 exact pko (HK1 _ b_4 _ H.self) [6, 5, 1, 2] [0, 1] Y
end Go.Proofs.Ytkjcocjkcjmafaa

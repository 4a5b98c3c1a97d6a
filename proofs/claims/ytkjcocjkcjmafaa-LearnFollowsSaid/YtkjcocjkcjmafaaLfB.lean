/-
  Laws that the proof of this claim's statement leans on, each proved under the conditions that it states.
-/
import Derived.Test.YtkjcocjkcjmafaaLfA
set_option linter.unusedVariables false
set_option linter.unusedSimpArgs false
namespace Go.Proofs.Ytkjcocjkcjmafaa
open Go Go.Lift Go.Sh
set_option maxRecDepth 100000
set_option maxHeartbeats 40000000
attribute [local irreducible] Calls AtL AtC AtE AtD Eff Quiet1 Stg qAt QAll eAt EAll nextK Code.wp
def A2u0 : List (List Nat) := (rl [([], 11), ([7], 3)])
def G2u0 : List (List Nat) := [[], [0], [0, 1], [0, 1, 2], [0, 1, 2, 3], (ra 5), (ra 5), (ra 7), (ra 5), [0, 1, 2, 3, 4, 8], [0, 1, 2, 3, 4, 8, 9], (ra 11), (ra 12), (ra 13)]
def A2u1 : List (List Nat) := (rl [([], 5), ([4], 1), ([4, 5], 2)])
def G2u1 : List (List Nat) := [[], [0], [0, 1], [0, 1], [0, 1, 3], (ra 5), (ra 6), (ra 7)]
theorem lift_clause_Decide (s0 : (Option Addr)) (lit : Int) : Lf Try.prog 12 [Value.pointer s0, Value.int .i64 lit] Value.bool (clause_Decide s0 lit) := by
 refine Lf.go Try.func12 Try.ntmps12 Y Y [0, 1] Y fun w m S H => ?_
 unfold clause_Decide at H
 refine sR (p_ 1 Y (ng (zcs ?_)))
 refine AtC.joinSeq (β := Unit) (fun (t0 : Bool) (bb : Unit) => [(16, Value.bool t0)]) (fun (t0 : Bool) (bb : Unit) => []) [0, 1] [] H Y Y (fun t0 bb h0 H => ?_) (fun J1 H HK1 => ?_)
 refine zcb H Y (fun H => ?_) (fun H => ?_)
 refine sR (p_ 1 Y (ng (zrt (ztr ?_))))
 exact r1 4 Y Y Y H
 refine zsk (tg ?_)
 obtain ⟨a_1, hc3, H⟩ := H
 obtain ⟨v_3, hc4, H⟩ := H
 obtain ⟨a_2, hc5, H⟩ := H
 obtain ⟨v_4, hc6, H⟩ := H
 apply AtC.seqS [10, 11, 14] (rl [([], 11), ([10], 1), ([10, 11], 3)]) [[], [], [1], [1, 2], [1, 2, 3], [], [5], [5, 6], [5, 6, 7], [5, 6, 7, 8], [5, 6, 7, 8, 9], [1, 2, 3, 4, 5, 6, 7, 8, 9, 10], (ra 12), (ra 13), (ra 14)] hmix (by kernel_rfl) (nm 17 [_, _, _, _, _, _, _, _, _, _]) Y 3 Y
 refine Stg.go (ra 10) [10] Y Y (q_ Y (q_ Y (qq Y (zqc Y Y hc3) Y (q_ Y (qq Y (zql hT Y Y Y hc4) Y (q_ Y (qq Y (zqc Y Y hc5) Y (q_ Y (qq Y (zql hT Y Y Y hc6) Y (q_ Y zqz)))))))))) (eo Y (EffX.buildS2 (cs := [_]) hT Y Y Y Y Y Y Y Y H) ?_)
 rintro _ _ ⟨a_3, h3, rfl, rfl, H⟩
 obtain ⟨hc7, H⟩ := H
 apply Stg.next [(27, _)] Y Y
 refine Stg.go (ra 5) [11] Y Y (q_ Y (q_ Y (qq Y (zqc Y Y hc3) Y (q_ Y (qq Y (zql hT Y Y Y hc7) Y zqz))))) (eo Y (EffX.appendS (s := _) (u := _) hT Y Y Y Y Y Y Y Y Y Y (by decide) H) ?_)
 rintro _ _ ⟨v_6, h4, rfl, rfl, H⟩
 obtain ⟨a_4, hc8, H⟩ := H
 apply Stg.next (nm 28 [_, _, _]) Y Y
 refine Stg.go [0, 12, 13] [14] Y Y (q_ Y (qq Y (zqc Y Y hc8) Y (q_ Y zqz))) (eo Y (EffX.store hT Y Y Y Y Y H) ?_)
 rintro _ _ ⟨h5, rfl, H⟩
 apply Stg.next [] Y Y
 refine Stg.fin [] Y Y zqz (tg (sR (p_ 2 Y (lc (lift_clause_put _ _ _) H Try.call36 Y fun v_7 h6 H => ng (sR (p_ 1 Y ?_))))))
 refine ng (zrt ?_)
 exact r1 4 Y Y Y H
 refine zrg (p_ 2 Y (lc (lift_clause_there _ _) H Try.call35 Y fun v h1 H => p_ 2 Y ?_))
 refine AtL.splitB (t := 9) H Y (fun H => ?_) (fun H => ?_)
 refine p_ 7 Y (znl ?_)
 exact pko (HK1 _ () _ H) [16, 0, 1] [] Y
 refine p_ 3 Y (nk H Y Y Y fun _ H => p_ 1 Y (lds hT H Y Y Y Y Y fun _ H => p_ 3 Y (lc (lift_clause_Value _ _) H Try.call27 Y fun v_2 h2 H => p_ 3 Y (znl ?_))))
 exact pko (HK1 _ () _ H) [16, 0, 1] [] Y
theorem lift_clause_Tell (s0 : (Option Addr)) (lit : Int) (reason : Int) : Lf Try.prog 28 [Value.pointer s0, Value.int .i64 lit, Value.int .i64 reason] Value.bool (clause_Tell s0 lit reason) := by
 refine Lf.go Try.func28 Try.ntmps28 Y Y [0, 1, 2] Y fun w m S H => ?_
 unfold clause_Tell at H
 refine sR (p_ 1 Y (ng ?_))
 refine AtC.joinSeq (β := Unit) (fun (t0 : Unit) (bb : Unit) => []) (fun (t0 : Unit) (bb : Unit) => []) [] [] H Y Y (fun t0 bb h0 H => ?_) (fun J1 H HK1 => ?_)
 refine sR (p_ 1 Y (ng (zrt ?_)))
 exact r1 6 Y Y Y H
 refine zck ?_
 refine AtC.joinSeq (β := Unit) (fun (t0u1 : Bool) (bb_1 : Unit) => [(7, Value.bool t0u1)]) (fun (t0u1 : Bool) (bb_1 : Unit) => []) [0, 1, 2] [] H Y Y (fun t0u1 bb_1 h1 H => ?_) (fun J2 H HK2 => ?_)
 refine zcb H Y (fun H => ?_) (fun H => ?_)
 refine sR (p_ 1 Y (ng (zrt (zbr (ztr ?_)))))
 exact r1 6 Y Y Y H
 refine sR (p_ 1 Y (nk H Y Y Y fun _ H => lds hT H Y Y Y Y Y fun _ H => p_ 1 Y (lc (lift_clause_Value _ _) H Try.call27 Y fun v_4 h4 H => p_ 2 Y (ng ?_))))
 refine zcb H Y (fun H => ?_) (fun H => ?_)
 refine zrg (p_ 3 Y (lc (lift_clause_put _ _ _) H Try.call36 Y fun v_5 h5 H => znl (zbn ?_)))
 exact pko (HK1 _ () _ H) [] [] Y
 refine zsk (zbn ?_)
 exact pko (HK1 _ () _ H) [] [] Y
 refine zrg (p_ 2 Y (lc (lift_clause_there _ _) H Try.call35 Y fun v h2 H => p_ 2 Y ?_))
 refine AtL.splitB (t := 12) H Y (fun H => ?_) (fun H => ?_)
 refine p_ 8 Y (znl ?_)
 exact pko (HK2 _ () _ H) [7, 0, 1, 2] [] Y
 refine p_ 3 Y (nk H Y Y Y fun _ H => p_ 1 Y (lds hT H Y Y Y Y Y fun _ H => p_ 3 Y (lc (lift_clause_Value _ _) H Try.call27 Y fun v_2 h3 H => p_ 4 Y (znl ?_))))
 exact pko (HK2 _ () _ H) [7, 0, 1, 2] [] Y
theorem lift_clause_ask (s0 : (Option Addr)) (at0 : Int) (gone : Int) : Lf Try.prog 38 [Value.pointer s0, Value.int .i64 at0, Value.int .i64 gone] (Value.int .i64) (clause_ask s0 at0 gone) := by
 refine Lf.go Try.func38 Try.ntmps38 Y Y [0, 1, 2] Y fun w m S H => ?_
 unfold clause_ask at H
 refine sR (p_ 1 Y (ng (sR (p_ 1 Y (nk H Y Y Y fun _ H => p_ 1 Y (ld hT H Y Y Y Y fun _ H => ?_))))))
 refine p_ 1 Y (ix hT H Y Y Y Y Y Y fun _ H => p_ 1 Y (ld hT H Y Y Y Y fun _ H => p_ 1 Y (ng ?_)))
 refine AtC.joinSeq (β := Unit) (fun (t0 : Unit) (bb : Unit) => []) (fun (t0 : Unit) (bb : Unit) => []) [0, 1, 7] [] H Y Y (fun t0 bb h0 H => ?_) (fun J5 H HK5 => ?_)
 refine zcs ?_
 obtain ⟨a_7, hc13, H⟩ := H
 obtain ⟨v_5, hc14, H⟩ := H
 obtain ⟨a_8_, hc15, hd15, H⟩ := H
 obtain ⟨v_6, hc16, H⟩ := H
 apply AtC.seqS [6] (rl [([], 7), ([6], 1)]) [[], [0], [0, 1], [], [3], [3, 4], (ra 6), (ra 7)] hmix (by kernel_rfl) (nm 32 [_, _, _, _, _, _]) Y 1 Y
 refine Stg.go (ra 6) [6] Y Y (q_ Y (qq Y (zqc Y Y hc13) Y (qq Y (zqs hT Y Y Y Y hc14) Y (q_ Y (qq Y (zqi hT Y Y Y Y Y hc15 hd15) Y (qq Y (zql hT Y Y Y hc16) Y zqz)))))) (ec (lift_clause_Value _ _) H Try.call27 Y fun v_7 h3 H => ?_)
 apply Stg.next [(38, _), (39, _)] Y Y
 refine Stg.fin [7] Y Y (q_ Y zqz) (tg ?_)
 refine zcb H Y (fun H => ?_) (fun H => ?_)
 refine sR (p_ 1 Y (ng (zrt (ztr ?_))))
 exact r1 6 Y Y Y H
 refine zsk (tg (zcs (sR (p_ 1 Y (ng (zck ?_))))))
 refine AtC.loopM (fun (s0u1 : Int) => [(8, Value.int .i64 s0u1)]) (fun (s0u1 : Int) => []) [0, 1, 7] [8, 0, 1, 7] [] [] H Y Y Y (by decide) Y (fun Kp18 s0u1 h4 H Q18 HK18 => ?_)
 refine zcs (sR (p_ 4 Y (ng ?_)))
 refine zcb H Y (fun H => ?_) (fun H => ?_)
 refine zsk (tg (zcs (zck ?_)))
 obtain ⟨a_9, hc18, H⟩ := H
 obtain ⟨v_8, hc19, H⟩ := H
 obtain ⟨a_10_, hc20, hd20, H⟩ := H
 obtain ⟨v_9, hc21, H⟩ := H
 apply AtC.seqS [7] (rl [([], 8), ([7], 1)]) [[], [0], [0, 1], [], [], [3, 4], [3, 4, 5], (ra 7), (ra 8)] hmix (by kernel_rfl) (nm 46 [_, _, _, _, _, _, _]) Y 1 Y
 refine Stg.go (ra 7) [7] Y Y (q_ Y (qq Y (zqc Y Y hc18) Y (qq Y (zqs hT Y Y Y Y hc19) Y (q_ Y (q_ Y (qq Y (zqi hT Y Y Y Y Y hc20 hd20) Y (qq Y (zql hT Y Y Y hc21) Y zqz))))))) (ec (lift_clause_Value _ _) H Try.call27 Y fun v_10 h5 H => ?_)
 apply Stg.next [(53, _), (54, _)] Y Y
 refine Stg.fin [8] Y Y (q_ Y zqz) (tg ?_)
 refine zcb H Y (fun H => ?_) (fun H => ?_)
 obtain ⟨a_11_, hc22, hd22, H⟩ := H
 obtain ⟨v_11, hc23, H⟩ := H
 obtain ⟨a_12_, hc24, hd24, H⟩ := H
 obtain ⟨v_12, hc25, H⟩ := H
 obtain ⟨a_13_, hc26, hd26, H⟩ := H
 apply AtC.seqS [11, 13] (rl [([], 12), ([11], 2)]) [[], [], [], [], [], [3, 4], [3, 4, 5], [], [7], [7, 8], [0, 3, 4, 5, 6, 7, 8, 9], [0, 3, 4, 5, 6, 7, 8, 9, 10], (ra 12), (ra 13)] hmix (by kernel_rfl) (nm 55 [_, _, _, _, _, _, _, _, _, _, _]) Y 2 Y
 refine Stg.go (ra 11) [11] Y Y (q_ Y (q_ Y (q_ Y (q_ Y (q_ Y (qq Y (zqi hT Y Y Y Y Y hc22 hd22) Y (qq Y (zql hT Y Y Y hc23) Y (q_ Y (qq Y (zqi hT Y Y Y Y Y hc24 hd24) Y (qq Y (zql hT Y Y Y hc25) Y (qq Y (zqi hT Y Y Y Y Y hc26 hd26) Y zqz))))))))))) (eo Y (EffX.store hT Y Y Y Y Y H) ?_)
 rintro _ _ ⟨h6, rfl, H⟩
 obtain ⟨a_14_, hc27, hd27, H⟩ := H
 apply Stg.next [(66, _)] Y Y
 refine Stg.go [1, 2, 12] [13] Y Y (q_ Y (q_ Y (qq Y (zqi hT Y Y Y Y Y hc27 hd27) Y zqz))) (eo Y (EffX.store hT Y Y Y Y Y H) ?_)
 rintro _ _ ⟨h7, rfl, H⟩
 apply Stg.next [] Y Y
 refine Stg.fin [] Y Y zqz (tg ?_)
 refine AtC.joinSeq (β := Unit) (fun (t0u1 : Unit) (bb_1 : Unit) => []) (fun (t0u1 : Unit) (bb_1 : Unit) => []) [] [] H Y Y (fun t0u1 bb_1 h8 H => ?_) (fun J29 H HK29 => ?_)
 refine sR (p_ 1 Y (ng (zrt (zbr (ztr (ztr (zbr ?_)))))))
 refine ztr ?_
 exact r1 6 Y Y Y H
 obtain ⟨a_15, hc29, H⟩ := H
 obtain ⟨v_13, hc30, H⟩ := H
 obtain ⟨a_16_, hc31, hd31, H⟩ := H
 obtain ⟨v_14, hc32, H⟩ := H
 obtain ⟨a_17, hc33, H⟩ := H
 obtain ⟨v_15, hc34, H⟩ := H
 obtain ⟨a_18_, hc35, hd35, H⟩ := H
 obtain ⟨v_16, hc36, H⟩ := H
 apply AtC.stages [7, 15, 19, 20, 22] (rl [([], 15), ([7], 1), ([7, 15], 2), ([], 2), ([7, 15, 19], 1), ([7, 15, 19, 20], 2)]) [[], [0], [0, 1], [0, 1, 2], [], [4], [4, 5], [4, 5, 6], [], [8], [8, 9], [8, 9, 10], [], [12], [12, 13], [4, 5, 6, 7, 12, 13, 14], [4, 5, 6, 7, 8, 9, 10, 11, 12, 13, 14, 15], [4, 5, 6, 7, 8, 9, 10, 11, 12, 13, 14, 15, 16], [], [18], [4, 5, 6, 7, 8, 9, 10, 11, 12, 13, 14, 15, 16, 17, 18, 19], (ra 21), (ra 22)] hmix (by kernel_rfl) (nm 67 [_, _, _, _, _, _, _] ++ nm 75 [_, _, _, _, _, _, _] ++ [(85, _)]) Y 5 Y
 refine Stg.go (ra 7 ++ [8, 9, 10, 11, 12, 13, 14, 18]) [7, 19] Y Y (q_ Y (qq Y (zqc Y Y hc29) Y (q_ Y (qq Y (zql hT Y Y Y hc30) Y (q_ Y (qq Y (zqi hT Y Y Y Y Y hc31 hd31) Y (qq Y (zql hT Y Y Y hc32) Y (q_ Y (qq Y (zqc Y Y hc33) Y (q_ Y (qq Y (zql hT Y Y Y hc34) Y (q_ Y (qq Y (zqi hT Y Y Y Y Y hc35 hd35) Y (qq Y (zql hT Y Y Y hc36) Y (q_ Y zqz))))))))))))))) ?_
 refine EAll.cons ?_ ?_
 replace H := H.1
 refine EOp.e Y Y Y (cl (fun h => clause_watch _ h _) H Y Try.call37 Y (fun w m hr hw => lift_clause_watch _ w m hr _ hw)) ?_
 rintro _ _ ⟨v_17, h9, rfl, rfl, H⟩
 obtain ⟨hc37, H⟩ := H
 obtain ⟨hc38, H⟩ := H
 obtain ⟨hc39, H⟩ := H
 apply Stg.next [(74, _)] Y Y
 refine Stg.go [0, 1, 2, 3, 8, 9, 10, 11, 12, 13, 14, 18] [15, 19] Y Y (q_ Y (qq Y (zqc Y Y hc29) Y (q_ Y (qq Y (zql hT Y Y Y hc37) Y (q_ Y (qq Y (zqc Y Y hc33) Y (q_ Y (qq Y (zql hT Y Y Y hc38) Y (q_ Y (qq Y (zqi hT Y Y Y Y Y hc35 hd35) Y (qq Y (zql hT Y Y Y hc39) Y (q_ Y zqz)))))))))))) ?_
 refine EAll.cons ?_ ?_
 replace H := H.1
 refine EOp.e Y Y Y (cl (fun h => clause_watch _ h _) H Y Try.call37 Y (fun w m hr hw => lift_clause_watch _ w m hr _ hw)) ?_
 rintro _ _ ⟨v_18, h10, rfl, rfl, H⟩
 obtain ⟨hc40, H⟩ := H
 obtain ⟨hc41, H⟩ := H
 obtain ⟨a_19_, hc42, hd42, H⟩ := H
 obtain ⟨v_19, hc43, H⟩ := H
 apply Stg.next (nm 82 [_, _, _]) Y Y
 refine Stg.go [0, 1, 2, 3, 8, 9, 10, 11, 16, 17, 18] [19] Y Y (q_ Y (qq Y (zqc Y Y hc29) Y (q_ Y (qq Y (zql hT Y Y Y hc40) Y (q_ Y (qq Y (zqc Y Y hc33) Y (q_ Y (qq Y (zql hT Y Y Y hc41) Y (qq Y (zqi hT Y Y Y Y Y hc42 hd42) Y (qq Y (zql hT Y Y Y hc43) Y (q_ Y zqz))))))))))) (eo Y (EffX.buildS2 (cs := [_]) hT Y Y Y Y Y Y Y Y H) ?_)
 rintro _ _ ⟨a_20, h11, rfl, rfl, H⟩
 obtain ⟨hc44, H⟩ := H
 obtain ⟨hc45, H⟩ := H
 obtain ⟨hc46, H⟩ := H
 apply Stg.next [(86, _)] Y Y
 refine Stg.go [0, 1, 2, 3, 8, 9, 10, 11, 16, 17] [20] Y Y (q_ Y (qq Y (zqc Y Y hc29) Y (q_ Y (qq Y (zql hT Y Y Y hc44) Y (q_ Y (qq Y (zqc Y Y hc33) Y (q_ Y (qq Y (zql hT Y Y Y hc45) Y (qq Y (zqi hT Y Y Y Y Y hc42 hd42) Y (qq Y (zql hT Y Y Y hc46) Y zqz)))))))))) (eo Y (EffX.appendS (s := _) (u := _) hT Y Y Y Y Y Y Y Y Y Y (by decide) H) ?_)
 rintro _ _ ⟨v_21, h12, rfl, rfl, H⟩
 obtain ⟨hc47, H⟩ := H
 obtain ⟨a_21_, hc48, hd48, H⟩ := H
 apply Stg.next [(87, _), (88, _)] Y Y
 refine Stg.go [0, 1, 2, 3, 21] [22] Y Y (q_ Y (qq Y (zqc Y Y hc29) Y (q_ Y (qq Y (zql hT Y Y Y hc47) Y (qq Y (zqi hT Y Y Y Y Y hc48 hd48) Y zqz))))) (eo Y (EffX.store hT Y Y Y Y Y H) ?_)
 rintro _ _ ⟨h13, rfl, H⟩
 apply Stg.next [] Y Y
 refine Stg.fin [] Y Y zqz ?_
 exact pko (HK29 _ () _ H) [] [] Y
 refine EAll.cons ?_ EAll.nil
 replace H := H.2
 refine EOp.e Y Y Y (EffX.buildS2 (cs := [_]) hT Y Y Y Y Y Y Y Y H) ?_
 rintro _ _ ⟨a_22, h14, rfl, rfl, H⟩
 obtain ⟨hc49, H⟩ := H
 obtain ⟨hc50, H⟩ := H
 obtain ⟨hc51, H⟩ := H
 apply Stg.next [(86, _)] Y Y
 refine Stg.go [0, 1, 2, 3, 8, 9, 10, 11, 12, 13, 14] [15] Y Y (q_ Y (qq Y (zqc Y Y hc29) Y (q_ Y (qq Y (zql hT Y Y Y hc49) Y (q_ Y (qq Y (zqc Y Y hc33) Y (q_ Y (qq Y (zql hT Y Y Y hc50) Y (q_ Y (qq Y (zqi hT Y Y Y Y Y hc35 hd35) Y (qq Y (zql hT Y Y Y hc51) Y zqz))))))))))) (ec (lift_clause_watch _) H Try.call37 Y fun v_23 h15 H => ?_)
 obtain ⟨hc52, H⟩ := H
 obtain ⟨hc53, H⟩ := H
 obtain ⟨a_23_, hc54, hd54, H⟩ := H
 obtain ⟨v_24, hc55, H⟩ := H
 apply Stg.next (nm 82 [_, _, _]) Y Y
 refine Stg.go [0, 1, 2, 3, 8, 9, 10, 11, 16, 17] [20] Y Y (q_ Y (qq Y (zqc Y Y hc29) Y (q_ Y (qq Y (zql hT Y Y Y hc52) Y (q_ Y (qq Y (zqc Y Y hc33) Y (q_ Y (qq Y (zql hT Y Y Y hc53) Y (qq Y (zqi hT Y Y Y Y Y hc54 hd54) Y (qq Y (zql hT Y Y Y hc55) Y zqz)))))))))) (eo Y (EffX.appendS (s := _) (u := _) hT Y Y Y Y Y Y Y Y Y Y (by decide) H) ?_)
 rintro _ _ ⟨v_25, h16, rfl, rfl, H⟩
 obtain ⟨hc56, H⟩ := H
 obtain ⟨a_24_, hc57, hd57, H⟩ := H
 apply Stg.next [(87, _), (88, _)] Y Y
 refine Stg.go [0, 1, 2, 3, 21] [22] Y Y (q_ Y (qq Y (zqc Y Y hc29) Y (q_ Y (qq Y (zql hT Y Y Y hc56) Y (qq Y (zqi hT Y Y Y Y Y hc57 hd57) Y zqz))))) (eo Y (EffX.store hT Y Y Y Y Y H) ?_)
 rintro _ _ ⟨h17, rfl, H⟩
 apply Stg.next [] Y Y
 refine Stg.fin [] Y Y zqz ?_
 exact pko (HK29 _ () _ H) [] [] Y
 refine EAll.cons ?_ EAll.nil
 replace H := H.2
 refine EOp.e Y Y Y (EffX.buildS2 (cs := [_]) hT Y Y Y Y Y Y Y Y H) ?_
 rintro _ _ ⟨a_25, h18, rfl, rfl, H⟩
 obtain ⟨hc58, H⟩ := H
 obtain ⟨hc59, H⟩ := H
 obtain ⟨hc60, H⟩ := H
 obtain ⟨hc61, H⟩ := H
 apply Stg.next [(86, _)] Y Y
 refine Stg.go (ra 7 ++ [8, 9, 10, 11, 12, 13, 14]) [7] Y Y (q_ Y (qq Y (zqc Y Y hc29) Y (q_ Y (qq Y (zql hT Y Y Y hc58) Y (q_ Y (qq Y (zqi hT Y Y Y Y Y hc31 hd31) Y (qq Y (zql hT Y Y Y hc59) Y (q_ Y (qq Y (zqc Y Y hc33) Y (q_ Y (qq Y (zql hT Y Y Y hc60) Y (q_ Y (qq Y (zqi hT Y Y Y Y Y hc35 hd35) Y (qq Y (zql hT Y Y Y hc61) Y zqz)))))))))))))) (ec (lift_clause_watch _) H Try.call37 Y fun v_27 h19 H => ?_)
 obtain ⟨hc62, H⟩ := H
 obtain ⟨hc63, H⟩ := H
 obtain ⟨hc64, H⟩ := H
 apply Stg.next [(74, _)] Y Y
 refine Stg.go [0, 1, 2, 3, 8, 9, 10, 11, 12, 13, 14] [15] Y Y (q_ Y (qq Y (zqc Y Y hc29) Y (q_ Y (qq Y (zql hT Y Y Y hc62) Y (q_ Y (qq Y (zqc Y Y hc33) Y (q_ Y (qq Y (zql hT Y Y Y hc63) Y (q_ Y (qq Y (zqi hT Y Y Y Y Y hc35 hd35) Y (qq Y (zql hT Y Y Y hc64) Y zqz))))))))))) (ec (lift_clause_watch _) H Try.call37 Y fun v_28 h20 H => ?_)
 obtain ⟨hc65, H⟩ := H
 obtain ⟨hc66, H⟩ := H
 obtain ⟨a_26_, hc67, hd67, H⟩ := H
 obtain ⟨v_29, hc68, H⟩ := H
 apply Stg.next (nm 82 [_, _, _]) Y Y
 refine Stg.go [0, 1, 2, 3, 8, 9, 10, 11, 16, 17] [20] Y Y (q_ Y (qq Y (zqc Y Y hc29) Y (q_ Y (qq Y (zql hT Y Y Y hc65) Y (q_ Y (qq Y (zqc Y Y hc33) Y (q_ Y (qq Y (zql hT Y Y Y hc66) Y (qq Y (zqi hT Y Y Y Y Y hc67 hd67) Y (qq Y (zql hT Y Y Y hc68) Y zqz)))))))))) (eo Y (EffX.appendS (s := _) (u := _) hT Y Y Y Y Y Y Y Y Y Y (by decide) H) ?_)
 rintro _ _ ⟨v_30, h21, rfl, rfl, H⟩
 obtain ⟨hc69, H⟩ := H
 obtain ⟨a_27_, hc70, hd70, H⟩ := H
 apply Stg.next [(87, _), (88, _)] Y Y
 refine Stg.go [0, 1, 2, 3, 21] [22] Y Y (q_ Y (qq Y (zqc Y Y hc29) Y (q_ Y (qq Y (zql hT Y Y Y hc69) Y (qq Y (zqi hT Y Y Y Y Y hc70 hd70) Y zqz))))) (eo Y (EffX.store hT Y Y Y Y Y H) ?_)
 rintro _ _ ⟨h22, rfl, H⟩
 apply Stg.next [] Y Y
 refine Stg.fin [] Y Y zqz ?_
 exact pko (HK29 _ () _ H) [] [] Y
 refine zsk (zbn (tg (zrg (p_ 3 Y (znl ?_)))))
 exact pko (HK18 _ _ (H _ rfl)) [8, 0, 1, 7] [] Y
 refine zxt (ztx (ztx (zbh (tg (zcs (sR (p_ 2 Y ?_)))))))
 refine ix hT H Y Y Y Y Y Y fun _ H => ld hT H Y Y Y Y fun _ H => p_ 1 Y (lc (lift_clause_Tell _ _ _) H Try.call28 Y fun v_32 h23 H => p_ 1 Y (ng ?_))
 refine zcb H Y (fun H => ?_) (fun H => ?_)
 refine sR (p_ 1 Y (ng (zrt (ztr ?_))))
 exact r1 6 Y Y Y H
 refine zsk (tg (sR (p_ 1 Y (ng (zrt ?_)))))
 exact r1 6 Y Y Y H
 refine sR (p_ 1 Y (ix hT H Y Y Y Y Y Y fun _ H => ld hT H Y Y Y Y fun _ H => p_ 2 Y (ng ?_)))
 refine zcb H Y (fun H => ?_) (fun H => ?_)
 obtain ⟨a_3_, hc7, hd7, H⟩ := H
 obtain ⟨v_3, hc8, H⟩ := H
 obtain ⟨a_4_, hc9, hd9, H⟩ := H
 obtain ⟨v_4, hc10, H⟩ := H
 obtain ⟨a_5_, hc11, hd11, H⟩ := H
 apply AtC.stages [9, 11] (rl [([], 10), ([9], 2)]) [[], [], [], [2], [2, 3], [], [5], [5, 6], [0, 2, 3, 4, 5, 6, 7], [0, 2, 3, 4, 5, 6, 7, 8], (ra 10), (ra 11)] hmix (by kernel_rfl) (nm 22 [_, _, _, _, _, _, _, _, _]) Y 2 Y
 refine Stg.go (ra 9) [9] Y Y (q_ Y (q_ Y (q_ Y (qq Y (zqi hT Y Y Y Y Y hc7 hd7) Y (qq Y (zql hT Y Y Y hc8) Y (q_ Y (qq Y (zqi hT Y Y Y Y Y hc9 hd9) Y (qq Y (zql hT Y Y Y hc10) Y (qq Y (zqi hT Y Y Y Y Y hc11 hd11) Y zqz))))))))) (eo Y (EffX.store hT Y Y Y Y Y H) ?_)
 rintro _ _ ⟨h1, rfl, H⟩
 obtain ⟨a_6_, hc12, hd12, H⟩ := H
 apply Stg.next [(31, _)] Y Y
 refine Stg.go [1, 10] [11] Y Y (q_ Y (qq Y (zqi hT Y Y Y Y Y hc12 hd12) Y zqz)) (eo Y (EffX.store hT Y Y Y Y Y H) ?_)
 rintro _ _ ⟨h2, rfl, H⟩
 apply Stg.next [] Y Y
 refine Stg.fin [] Y Y zqz ?_
 exact pko (HK5 _ () _ H) [0, 1, 7] [] Y
 refine zsk ?_
 exact pko (HK5 _ () _ H) [0, 1, 7] [] Y
theorem lift_slices_Grow_int_int (s0 : Sl) (n : Int) : Lf Try.prog 60 [Sl.toV s0, Value.int .i64 n] Sl.toV (slices_Grow_int_int s0 n) := by
 refine Lf.go Try.func60 Try.ntmps60 Y Y [0, 1] Y fun w m S H => ?_
 unfold slices_Grow_int_int at H
 refine sR (p_ 1 Y (ng ?_))
 refine AtC.joinSeq (β := Unit) (fun (t0 : Unit) (bb : Unit) => []) (fun (t0 : Unit) (bb : Unit) => []) [0, 1] [] H Y Y (fun t0 bb h0 H => ?_) (fun J1 H HK1 => ?_)
 refine AtC.joinSeq (β := Unit) (fun (t0u1 : Sl) (bb_1 : Unit) => [(0, Sl.toV t0u1)]) (fun (t0u1 : Sl) (bb_1 : Unit) => []) [] [] H Y Y (fun t0u1 bb_1 h1 H => ?_) (fun J2 H HK2 => ?_)
 refine sR (p_ 2 Y (ng (zrt ?_)))
 exact r1 4 Y Y Y H
 refine sR (p_ 8 Y (ng (sR (p_ 2 Y (ng ?_)))))
 refine zcb (H _ rfl) Y (fun H => ?_) (fun H => ?_)
 refine zrg (p_ 3 Y ?_)
 refine AtL.sl (hT := hT) H Y Y Y Y Y Y Y (fun h => by cases h <;> rfl) Y (fun v H => ?_)
 refine p_ 1 Y (zle Y (EffX.appendZ (s := _) hT Y Y Y Y Y Y Y Y Y (by decide) Y Y (by decide) H) ?_)
 rintro _ _ ⟨v_1, h2, rfl, rfl, H⟩
 refine p_ 2 Y ?_
 refine AtL.sl (hT := hT) H Y Y Y Y Y Y Y (fun h => by cases h <;> rfl) Y (fun v_2 H => ?_)
 refine p_ 1 Y (znl ?_)
 exact pko (HK2 _ () _ H) [0] [] Y
 refine zsk ?_
 exact pko (HK2 _ () _ H) [0] [] Y
 refine sR (p_ 2 Y (ng ?_))
 refine zcb H Y (fun H => ?_) (fun H => ?_)
 refine zrg (zlq Y (Quiet1.makeI hT Y Y (by intro m; nofun) Y) ?_)
 exact H.elim
 refine zsk ?_
 exact pko (HK1 _ () _ H) [0, 1] [] Y
theorem lift_slices_Concat_int_int (slices : Sl) : Lf Try.prog 39 [Sl.toV slices] Sl.toV (slices_Concat_int_int slices) := by
 refine Lf.go Try.func39 Try.ntmps39 Y Y [0] Y fun w m S H => ?_
 unfold slices_Concat_int_int at H
 refine sR (p_ 1 Y (ng (sR (p_ 1 Y (ng (zcs (sR ?_)))))))
 refine p_ 3 Y (ng (zck ?_))
 refine AtC.loopM (fun (s0 : Int × Int) => [(3, Value.int .i64 s0.1), (11, Value.int .i64 s0.2)]) (fun (s0 : Int × Int) => []) [0, 9, 10] [3, 11, 0, 9, 10] [] [] H Y Y Y (by decide) Y (fun Kp1 s0 h0 H Q1 HK1 => ?_)
 refine sR (p_ 1 Y (ng (zcs ?_)))
 refine zcb H Y (fun H => ?_) (fun H => ?_)
 refine zsk (tg ?_)
 refine AtC.joinSeq (β := Unit) (fun (t0 : Int) (bb : Unit) => [(3, Value.int .i64 t0)]) (fun (t0 : Int) (bb : Unit) => []) [0, 9, 10, 11] [] H Y Y (fun t0 bb h1 H => ?_) (fun J2 H HK2 => ?_)
 refine zrg (p_ 2 Y (znl ?_))
 exact pko (HK1 _ _ H) [3, 11, 0, 9, 10] [] Y
 refine zck (sR (ix hT H Y Y Y Y Y Y fun _ H => ld hT H Y Y Y Y fun _ H => p_ 1 Y (ng (sR (p_ 5 Y ?_)))))
 refine ng (sR (p_ 2 Y (ng ?_)))
 refine zcb (H _ rfl) Y (fun H => ?_) (fun H => ?_)
 refine zrg (zlq Y (Quiet1.makeI hT Y Y (by intro m; nofun) Y) ?_)
 exact H.elim
 refine zsk (zbn ?_)
 exact pko (HK2 _ () _ H) [3, 0, 9, 10, 11] [] Y
 refine zxt (ztx (ztx (zbh (tg (sR (p_ 1 Y (lc (lift_slices_Grow_int_int _ _) H Try.call60 Y fun v_1 h2 H => ?_)))))))
 refine p_ 1 Y (ng (zcs (sR (p_ 3 Y (ng (zck ?_))))))
 refine AtC.loopM (fun (s0u1 : Sl × Int) => [(6, Sl.toV s0u1.1), (27, Value.int .i64 s0u1.2)]) (fun (s0u1 : Sl × Int) => []) [25, 26] [6, 27, 25, 26] [] [] H Y Y Y (by decide) Y (fun Kp5 s0u1 h3 H Q5 HK5 => ?_)
 refine sR (p_ 1 Y (ng (zcs ?_)))
 refine zcb H Y (fun H => ?_) (fun H => ?_)
 refine zsk (tg (zcs (zck (sR (ix hT H Y Y Y Y Y Y fun _ H => ld hT H Y Y Y Y fun _ H => p_ 1 Y ?_)))))
 refine ng (zrg (p_ 2 Y (zle Y (EffX.appendS (s := _) (u := _) hT Y Y Y Y Y Y Y Y Y Y (by decide) H) ?_)))
 rintro _ _ ⟨v_3, h4, rfl, rfl, H⟩
 refine p_ 1 Y (znl (zbn (tg (zrg (p_ 2 Y (znl ?_))))))
 exact pko (HK5 _ _ H) [6, 27, 25, 26] [] Y
 refine zxt (ztx (ztx (zbh (tg (sR (p_ 2 Y (ng ?_)))))))
 refine zrt ?_
 exact r1 2 Y Y Y H
theorem lift_clause_Run (s0 : (Option Addr)) : Lf Try.prog 14 [Value.pointer s0] (Value.int .i64) (clause_Run s0) := by
 refine Lf.go Try.func14 Try.ntmps14 Y Y [0] Y fun w m S H => ?_
 unfold clause_Run at H
 refine sR (p_ 1 Y (ng (AtC.scope (sR (p_ 1 Y (ng (zcs ?_)))))))
 refine AtC.label (tg ?_)
 refine AtC.joinSeq (β := Unit) (fun (t0 : Int) (bb : Unit) => [(3, Value.int .i64 t0)]) (fun (t0 : Int) (bb : Unit) => []) [0] [] H Y Y (fun t0 bb h0 H => ?_) (fun J1 H HK1 => ?_)
 refine AtC.joinSeq (β := Unit) (fun (t0u2 : Unit) (bb_2 : Unit) => []) (fun (t0u2 : Unit) (bb_2 : Unit) => []) [3] [] H Y Y (fun t0u2 bb_2 h20 H => ?_) (fun J55 H HK55 => ?_)
 refine sR (p_ 2 Y (ng (zrt (AtE.ng_r ?_))))
 exact r1 2 Y Y Y H
 refine sR (p_ 2 Y (ng ?_))
 refine zcb H Y (fun H => ?_) (fun H => ?_)
 refine zrg (p_ 1 Y (nk H Y Y Y fun _ H => p_ 1 Y (ld hT H Y Y Y Y fun _ H => p_ 1 Y (ix hT H Y Y Y Y Y Y fun _ H => p_ 1 Y ?_))))
 refine ld hT H Y Y Y Y fun _ H => p_ 1 Y (ix hT H Y Y Y Y Y Y fun _ H => p_ 1 Y (zle Y (EffX.store hT Y Y Y Y Y H) ?_))
 rintro _ _ ⟨h21, rfl, H⟩
 refine znl ?_
 exact pko (HK55 _ () _ H) [3] [] Y
 refine zsk ?_
 exact pko (HK55 _ () _ H) [3] [] Y
 refine zck ?_
 refine AtC.loopM (fun (s0u1 : Int) => [(3, Value.int .i64 s0u1)]) (fun (s0u1 : Int) => []) [0] [3, 0] [] [] H Y Y Y (by decide) Y (fun Kp2 s0u1 h1 H Q2 HK2 => ?_)
 refine zcs (AtC.seqD hmix (by kernel_rfl) (AtD.pures hT 1 _ _ _ _ Y ?_))
 obtain ⟨a, hc2, H⟩ := H
 refine AtD.q Y (zqc Y Y hc2) (AtD.pures hT 1 _ _ _ _ Y ?_)
 obtain ⟨v, hc3, H⟩ := H
 refine AtD.q Y (zql hT Y Y Y hc3) (AtD.pures hT 1 _ _ _ _ Y ?_)
 obtain ⟨a_1, hc4, H⟩ := H
 refine AtD.q Y (zqc Y Y hc4) (AtD.pures hT 1 _ _ _ _ Y ?_)
 obtain ⟨v_1, hc5, H⟩ := H
 refine AtD.q Y (zql hT Y Y Y hc5) (AtD.pures hT 2 _ _ _ _ Y (AtD.nil (tg ?_)))
 refine zcb H Y (fun H => ?_) (fun H => ?_)
 refine zsk (tg (zck (AtC.seqD hmix (by kernel_rfl) (AtD.pures hT 1 _ _ _ _ Y ?_))))
 obtain ⟨a_2, hc6, H⟩ := H
 refine AtD.q Y (zqc Y Y hc6) (AtD.pures hT 1 _ _ _ _ Y ?_)
 obtain ⟨v_2, hc7, H⟩ := H
 refine AtD.q Y (zql hT Y Y Y hc7) (AtD.pures hT 1 _ _ _ _ Y ?_)
 obtain ⟨a_3, hc8, H⟩ := H
 refine AtD.q Y (zqc Y Y hc8) (AtD.pures hT 1 _ _ _ _ Y ?_)
 obtain ⟨v_3, hc9, H⟩ := H
 refine AtD.q Y (zql hT Y Y Y hc9) ?_
 obtain ⟨a_4_, hc10, hd10, H⟩ := H
 refine AtD.q Y (zqi hT Y Y Y Y Y hc10 hd10) ?_
 obtain ⟨v_4, hc11, H⟩ := H
 refine AtD.q Y (zql hT Y Y Y hc11) (AtD.pures hT 2 _ _ _ _ Y (AtD.nil (tg (sR (p_ 1 Y (nk (H _ rfl) Y Y Y fun _ H => p_ 1 Y ?_))))))
 refine ld hT H Y Y Y Y fun _ H => p_ 1 Y (nk H Y Y Y fun _ H => p_ 1 Y (zle Y (EffX.store hT Y Y Y Y Y H) ?_))
 rintro _ _ ⟨h2, rfl, H⟩
 refine ng ?_
 obtain ⟨a_7, hc15, H⟩ := H
 obtain ⟨v_6, hc16, H⟩ := H
 apply AtC.seqS [5] (rl [([], 6), ([5], 3)]) [[], [0], [0, 1], [0, 1, 2], [], [4], (ra 6), (ra 7), (ra 8)] hmix (by kernel_rfl) (nm 38 [_, _, _, _, _]) Y 1 Y
 refine Stg.go (ra 5) [5] Y Y (q_ Y (qq Y (zqc Y Y hc15) Y (q_ Y (qq Y (zql hT Y Y Y hc16) Y (q_ Y zqz))))) (ec (lift_clause_watch _) H Try.call37 Y fun v_7 h3 H => ?_)
 obtain ⟨hc17, H⟩ := H
 obtain ⟨a_8_, hc18, hd18, H⟩ := H
 obtain ⟨v_8, hc19, H⟩ := H
 apply Stg.next [(43, _), (44, _), (45, _), (5, _)] Y Y
 refine Stg.fin [0, 1, 2, 3, 6, 7, 8] Y Y (q_ Y (qq Y (zqc Y Y hc15) Y (q_ Y (qq Y (zql hT Y Y Y hc17) Y (qq Y (zqi hT Y Y Y Y Y hc18 hd18) Y (qq Y (zql hT Y Y Y hc19) Y (q_ Y zqz))))))) (tg ?_)
 obtain ⟨a_9, hc20, H⟩ := H
 obtain ⟨v_9, hc21, H⟩ := H
 apply AtC.seqS [5, 7] (rl [([], 6), ([5], 2)]) [[], [0], [0, 1], [0, 1, 2], [], [4], (ra 6), (ra 7)] hmix (by kernel_rfl) (nm 46 [_, _, _, _, _]) Y 2 Y
 refine Stg.go (ra 5) [5] Y Y (q_ Y (qq Y (zqc Y Y hc20) Y (q_ Y (qq Y (zql hT Y Y Y hc21) Y (q_ Y zqz))))) (ec (lift_clause_watch _) H Try.call37 Y fun v_10 h4 H => ?_)
 obtain ⟨hc22, H⟩ := H
 obtain ⟨a_10_, hc23, hd23, H⟩ := H
 apply Stg.next [(51, _), (52, _)] Y Y
 refine Stg.go [0, 1, 2, 3, 6] [7] Y Y (q_ Y (qq Y (zqc Y Y hc20) Y (q_ Y (qq Y (zql hT Y Y Y hc22) Y (qq Y (zqi hT Y Y Y Y Y hc23 hd23) Y zqz))))) (eo Y (EffX.store hT Y Y Y Y Y H) ?_)
 rintro _ _ ⟨h5, rfl, H⟩
 apply Stg.next [] Y Y
 refine Stg.fin [] Y Y zqz (tg (sR (p_ 1 Y (ng (zcs (sR (p_ 3 Y ?_)))))))
 refine ng (zck ?_)
 refine AtC.loopM (fun (s0u2 : Int × Sl × Int) => [(3, Value.int .i64 s0u2.1), (6, Sl.toV s0u2.2.1), (55, Value.int .i64 s0u2.2.2)]) (fun (s0u2 : Int × Sl × Int) => []) [0, 4, 5, 53, 54] [3, 6, 55, 0, 4, 5, 53, 54] [] [] H Y Y Y (by decide) Y (fun Kp25 s0u2 h6 H Q25 HK25 => ?_)
 refine sR (p_ 1 Y (ng (zcs ?_)))
 refine zcb H Y (fun H => ?_) (fun H => ?_)
 refine zsk (tg (zcs (zck (sR (p_ 1 Y (ix hT H Y Y Y Y Y Y fun _ H => ld hT H Y Y Y Y fun _ H => ?_))))))
 refine p_ 2 Y (ng (sR (p_ 3 Y (lc (lift_clause_ask _ _ _) H Try.call38 Y fun v_12 h7 H => p_ 1 Y (ng ?_)))))
 refine AtC.joinSeq (β := Unit) (fun (t0u1 : Sl) (bb_1 : Unit) => [(6, Sl.toV t0u1)]) (fun (t0u1 : Sl) (bb_1 : Unit) => []) [0, 3, 4, 5, 7, 8, 9, 53, 54, 55] [] H Y Y (fun t0u1 bb_1 h8 H => ?_) (fun J28 H HK28 => ?_)
 refine sR (p_ 2 Y (ng ?_))
 refine zcb H Y (fun H => ?_) (fun H => ?_)
 refine sR (p_ 2 Y (ng ?_))
 obtain ⟨a_13, hc28, H⟩ := H
 obtain ⟨v_15, hc29, H⟩ := H
 obtain ⟨v_16, hs30, H⟩ := sliceOf.out H
 obtain ⟨a_14, hc31, H⟩ := H
 obtain ⟨v_17, hc32, H⟩ := H
 apply AtC.seqS [5, 16, 19, 20, 22] (rl [([], 16), ([5], 1), ([5, 16], 3), ([5, 16, 19], 1), ([5, 16, 19, 20], 2)]) [[], [0], [0, 1], [0, 1, 2], [], [4], [], [], [], [8], [7, 8, 9], [], [11], [11, 12], [11, 12, 13], [], [4, 5, 15], [4, 5, 11, 12, 13, 14, 15, 16], [4, 5, 11, 12, 13, 14, 15, 16, 17], [4, 5, 6, 7, 8, 9, 10, 11, 12, 13, 14, 15, 16, 17, 18], [4, 5, 6, 7, 8, 9, 10, 11, 12, 13, 14, 15, 16, 17, 18, 19], (ra 21), (ra 22)] hmix (by kernel_rfl) (nm 73 [_, _, _, _, _] ++ nm 79 [_, _, _, _, _, _, _, _, _, _]) Y 5 Y
 refine Stg.go [0, 1, 2, 3, 4, 6, 7, 8, 9, 10, 11, 12, 13, 14, 15] [5] Y Y (q_ Y (qq Y (zqc Y Y hc28) Y (q_ Y (qq Y (zql hT Y Y Y hc29) Y (q_ Y (q_ Y (q_ Y (q_ Y (q_ Y (qq Y (Quiet1.sliceIs hT Y Y Y Y Y Y Y (fun h => by cases h <;> rfl) hs30) Y (q_ Y (qq Y (zqc Y Y hc31) Y (q_ Y (qq Y (zql hT Y Y Y hc32) Y (q_ Y zqz))))))))))))))) (ec (lift_clause_watch _) H Try.call37 Y fun v_18 h11 H => ?_)
 obtain ⟨hc33, H⟩ := H
 obtain ⟨hc34, H⟩ := H
 apply Stg.next [(78, _)] Y Y
 refine Stg.go [0, 1, 2, 3, 6, 7, 8, 9, 10, 11, 12, 13, 14, 15] [16] Y Y (q_ Y (qq Y (zqc Y Y hc28) Y (q_ Y (qq Y (zql hT Y Y Y hc33) Y (q_ Y (q_ Y (q_ Y (q_ Y (qq Y (Quiet1.sliceIs hT Y Y Y Y Y Y Y (fun h => by cases h <;> rfl) hs30) Y (q_ Y (qq Y (zqc Y Y hc31) Y (q_ Y (qq Y (zql hT Y Y Y hc34) Y (q_ Y zqz)))))))))))))) (ec (lift_clause_watch _) H Try.call37 Y fun v_19 h12 H => ?_)
 obtain ⟨hc35, H⟩ := H
 obtain ⟨hc36, H⟩ := H
 obtain ⟨a_15_, hc37, hd37, H⟩ := H
 obtain ⟨v_20, hc38, H⟩ := H
 apply Stg.next (nm 89 [_, _, _]) Y Y
 refine Stg.go [0, 1, 2, 3, 6, 7, 8, 9, 10, 11, 12, 13, 14, 17, 18] [19] Y Y (q_ Y (qq Y (zqc Y Y hc28) Y (q_ Y (qq Y (zql hT Y Y Y hc35) Y (q_ Y (q_ Y (q_ Y (q_ Y (qq Y (Quiet1.sliceIs hT Y Y Y Y Y Y Y (fun h => by cases h <;> rfl) hs30) Y (q_ Y (qq Y (zqc Y Y hc31) Y (q_ Y (qq Y (zql hT Y Y Y hc36) Y (qq Y (zqi hT Y Y Y Y Y hc37 hd37) Y (qq Y (zql hT Y Y Y hc38) Y zqz))))))))))))))) (eo Y (EffX.buildS2 (cs := [_, _, _]) hT Y Y Y Y Y Y Y Y H) ?_)
 rintro _ _ ⟨a_16, h13, rfl, rfl, H⟩
 obtain ⟨hc39, H⟩ := H
 apply Stg.next [(92, _)] Y Y
 refine Stg.go [0, 1, 2, 3] [20] Y Y (q_ Y (qq Y (zqc Y Y hc28) Y (q_ Y (qq Y (zql hT Y Y Y hc39) Y zqz)))) (ec (lift_slices_Concat_int_int _) H Try.call39 Y fun v_22 h14 H => ?_)
 obtain ⟨hc40, H⟩ := H
 obtain ⟨a_17_, hc41, hd41, H⟩ := H
 apply Stg.next [(93, _), (94, _)] Y Y
 refine Stg.go [0, 1, 2, 3, 21] [22] Y Y (q_ Y (qq Y (zqc Y Y hc28) Y (q_ Y (qq Y (zql hT Y Y Y hc40) Y (qq Y (zqi hT Y Y Y Y Y hc41 hd41) Y zqz))))) (eo Y (EffX.store hT Y Y Y Y Y H) ?_)
 rintro _ _ ⟨h15, rfl, H⟩
 apply Stg.next [] Y Y
 refine Stg.fin [] Y Y zqz (tg (zxt (AtE.blk_miss Y (ztx (ztx (AtE.blk_miss Y (ztx ?_)))))))
 refine AtE.blk_miss Y (ztx (zbh ?_))
 exact pko (HK1 _ () _ H) [3, 0] [] Y
 refine zsk (zbn (tg (zrg (p_ 2 Y (znl ?_)))))
 exact pko (HK25 _ _ H) [3, 6, 55, 0, 4, 5, 53, 54] [] Y
 refine sR (p_ 2 Y (ng ?_))
 refine zcb H Y (fun H => ?_) (fun H => ?_)
 refine zrg (p_ 2 Y ?_)
 refine AtLX.bs (hT := hT) (cs := [_]) H Y Y Y Y Y Y Y Y Y (fun a_12 h9 H => ?_)
 refine zle Y (EffX.appendS (s := _) (u := _) hT Y Y Y Y Y Y Y Y Y Y (by decide) H) ?_
 rintro _ _ ⟨v_14, h10, rfl, rfl, H⟩
 refine p_ 1 Y (znl ?_)
 exact pko (HK28 _ () _ H) [6, 0, 3, 4, 5, 7, 8, 9, 53, 54, 55] [] Y
 refine zsk ?_
 exact pko (HK28 _ () _ H) [6, 0, 3, 4, 5, 7, 8, 9, 53, 54, 55] [] Y
 refine zxt (ztx (ztx (zbh (tg ?_))))
 obtain ⟨a_18, hc42, H⟩ := H
 obtain ⟨v_23, hc43, H⟩ := H
 obtain ⟨a_19, hc44, H⟩ := H
 obtain ⟨v_24, hc45, H⟩ := H
 apply AtC.stages [5, 12, 15, 17] (rl [([], 12), ([5], 1), ([5, 12], 3), ([5, 12, 15], 2)]) [[], [0], [0, 1], [0, 1, 2], [], [4], [], [], [7], [7, 8], [7, 8, 9], [], [4, 5, 11], [4, 5, 7, 8, 9, 10, 11, 12], [4, 5, 7, 8, 9, 10, 11, 12, 13], [4, 5, 6, 7, 8, 9, 10, 11, 12, 13, 14], (ra 16), (ra 17)] hmix (by kernel_rfl) (nm 96 [_, _, _, _, _] ++ nm 102 [_, _, _, _, _, _]) Y 4 Y
 refine Stg.go [0, 1, 2, 3, 4, 6, 7, 8, 9, 10, 11] [5] Y Y (q_ Y (qq Y (zqc Y Y hc42) Y (q_ Y (qq Y (zql hT Y Y Y hc43) Y (q_ Y (q_ Y (q_ Y (qq Y (zqc Y Y hc44) Y (q_ Y (qq Y (zql hT Y Y Y hc45) Y (q_ Y zqz))))))))))) (ec (lift_clause_watch _) H Try.call37 Y fun v_25 h16 H => ?_)
 obtain ⟨hc46, H⟩ := H
 obtain ⟨hc47, H⟩ := H
 apply Stg.next [(101, _)] Y Y
 refine Stg.go [0, 1, 2, 3, 6, 7, 8, 9, 10, 11] [12] Y Y (q_ Y (qq Y (zqc Y Y hc42) Y (q_ Y (qq Y (zql hT Y Y Y hc46) Y (q_ Y (q_ Y (qq Y (zqc Y Y hc44) Y (q_ Y (qq Y (zql hT Y Y Y hc47) Y (q_ Y zqz)))))))))) (ec (lift_clause_watch _) H Try.call37 Y fun v_26 h17 H => ?_)
 obtain ⟨hc48, H⟩ := H
 obtain ⟨hc49, H⟩ := H
 obtain ⟨a_20_, hc50, hd50, H⟩ := H
 obtain ⟨v_27, hc51, H⟩ := H
 apply Stg.next (nm 108 [_, _, _]) Y Y
 refine Stg.go [0, 1, 2, 3, 6, 7, 8, 9, 10, 13, 14] [15] Y Y (q_ Y (qq Y (zqc Y Y hc42) Y (q_ Y (qq Y (zql hT Y Y Y hc48) Y (q_ Y (q_ Y (qq Y (zqc Y Y hc44) Y (q_ Y (qq Y (zql hT Y Y Y hc49) Y (qq Y (zqi hT Y Y Y Y Y hc50 hd50) Y (qq Y (zql hT Y Y Y hc51) Y zqz))))))))))) (eo Y (EffX.appendS (s := _) (u := _) hT Y Y Y Y Y Y Y Y Y Y (by decide) H) ?_)
 rintro _ _ ⟨v_28, h18, rfl, rfl, H⟩
 obtain ⟨hc52, H⟩ := H
 obtain ⟨a_21_, hc53, hd53, H⟩ := H
 apply Stg.next [(111, _), (112, _)] Y Y
 refine Stg.go [0, 1, 2, 3, 16] [17] Y Y (q_ Y (qq Y (zqc Y Y hc42) Y (q_ Y (qq Y (zql hT Y Y Y hc52) Y (qq Y (zqi hT Y Y Y Y Y hc53 hd53) Y zqz))))) (eo Y (EffX.store hT Y Y Y Y Y H) ?_)
 rintro _ _ ⟨h19, rfl, H⟩
 apply Stg.next [] Y Y
 refine Stg.fin [] Y Y zqz (zbn ?_)
 exact pko (HK2 _ _ H) [3, 0] [] Y
 refine zxt (ztx (ztx (zbh ?_)))
 exact pko (HK1 _ () _ H) [3, 0] [] Y
theorem lift_learn_truth (lit : Int) : Lf Try.prog 49 [Value.int .i64 lit] (Value.int .i64) (learn_truth lit) := by
 refine Lf.go Try.func49 Try.ntmps49 Y Y [0] Y fun w m S H => ?_
 unfold learn_truth at H
 refine sR (p_ 1 Y (ng (sR (p_ 6 Y (ng (zrt ?_))))))
 exact r1 2 Y Y Y H
theorem lift_learn_at (s0 : Sl × Sl × Sl × Sl × Sl × Sl × Sl × Int) (lit : Int) : Lf Try.prog 52 [Value.agg (C_sl_sl_sl_sl_sl_sl_sl_i64 s0).toArray, Value.int .i64 lit] (Value.int .i64) (learn_at s0 lit) := by
 refine Lf.go Try.func52 Try.ntmps52 Y Y [0, 1] Y fun w m S H => ?_
 unfold learn_at at H
 refine sR (bx [_, _, _, _, _, _, _, _] H Y Y Y Y fun b _ H => p_ 1 Y (ng (zcs (sR (p_ 1 Y (lc (lift_learn_truth _) H.self Try.call49 Y fun v h1 H => ?_))))))
 refine p_ 1 Y (ng ?_)
 refine AtC.joinSeq (β := Unit) (fun (t0 : Bool) (bb : Unit) => [(20, Value.bool t0)]) (fun (t0 : Bool) (bb : Unit) => []) [2, 5] [0] H Y Y (fun t0 bb h2 H => ?_) (fun J1 H HK1 => ?_)
 refine zcb H Y (fun H => ?_) (fun H => ?_)
 refine sR (p_ 1 Y (zlq Y (l_ 0 Y) (p_ 1 Y (ix hT H Y Y Y Y Y Y fun _ H => ld hT H Y Y Y Y fun _ H => p_ 1 Y (ng ?_)))))
 refine zrt (ztr ?_)
 exact r1 4 Y Y Y H
 refine zsk (tg (sR (p_ 1 Y (ng (zrt ?_)))))
 exact r1 4 Y Y Y H
 refine zrg (p_ 3 Y ?_)
 refine AtL.splitB (t := 10) H Y (fun H => ?_) (fun H => ?_)
 refine p_ 6 Y ?_
 refine AtL.splitB (t := 14) H Y (fun H => ?_) (fun H => ?_)
 refine p_ 5 Y (zlq Y (l_ 0 Y) (p_ 5 Y (znl ?_)))
 exact pko (HK1 _ () _ H) [20, 2, 5] [0] Y
 refine p_ 6 Y (znl ?_)
 exact pko (HK1 _ () _ H) [20, 2, 5] [0] Y
 refine p_ 10 Y (znl ?_)
 exact pko (HK1 _ () _ H) [20, 2, 5] [0] Y
theorem lift_learn_Level (s0 : Sl × Sl × Sl × Sl × Sl × Sl × Sl × Int) (lits : Sl) : Lf Try.prog 19 [Value.agg (C_sl_sl_sl_sl_sl_sl_sl_i64 s0).toArray, Sl.toV lits] (Value.int .i64) (learn_Level s0 lits) := by
 refine Lf.go Try.func19 Try.ntmps19 Y Y [0, 1] Y fun w m S H => ?_
 unfold learn_Level at H
 refine sR (bx [_, _, _, _, _, _, _, _] H Y Y Y Y fun b _ H => p_ 1 Y (ng (zcs (sR (p_ 3 Y (ng ?_))))))
 refine zck ?_
 refine AtC.loopM (fun (s0u1 : Int × Int) => [(4, Value.int .i64 s0u1.1), (9, Value.int .i64 s0u1.2)]) (fun (s0u1 : Int × Int) => []) [2, 7, 8] [4, 9, 2, 7, 8] [0] [0] H.self Y Y Y (by decide) Y (fun Kp1 s0u1 h1 H Q1 HK1 => ?_)
 refine sR (p_ 1 Y (ng (zcs ?_)))
 refine zcb H Y (fun H => ?_) (fun H => ?_)
 refine zsk (tg (zcs (zck (sR (ix hT H Y Y Y Y Y Y fun _ H => ld hT H Y Y Y Y fun _ H => p_ 1 Y ?_)))))
 refine ng (zrg (p_ 1 Y (zlq Y (s_ 0 [_, _, _, _, _, _, _, _] Y) (p_ 1 Y (lc (lift_learn_at _ _) H Try.call52 Y fun v_1 h2 H => p_ 2 Y (znl ?_))))))
 refine zbn (tg (zrg (p_ 2 Y (znl ?_))))
 exact pko (HK1 _ _ (H _ rfl)) [4, 9, 2, 7, 8] [0] Y
 refine zxt (ztx (ztx (zbh (tg (sR (p_ 2 Y (ng ?_)))))))
 refine zrt ?_
 exact r1 4 Y Y Y H
theorem lift_learn_ready (s0 : Sl × Sl × Sl × Sl × Sl × Sl × Sl × Int) (lits : Sl) : Lf Try.prog 40 [Value.agg (C_sl_sl_sl_sl_sl_sl_sl_i64 s0).toArray, Sl.toV lits] Value.bool (learn_ready s0 lits) := by
 refine Lf.go Try.func40 Try.ntmps40 Y Y [0, 1] Y fun w m S H => ?_
 unfold learn_ready at H
 refine sR (bx [_, _, _, _, _, _, _, _] H Y Y Y Y fun b _ H => p_ 1 Y (ng (sR (zle Y (EffX.newM Y H.self) ?_))))
 rintro _ _ ⟨v, h1, rfl, rfl, H⟩
 refine p_ 1 Y (ng (zcs (sR (p_ 3 Y (ng (zck ?_))))))
 refine AtC.loopM (fun (s0u1 : Int) => [(11, Value.int .i64 s0u1)]) (fun (s0u1 : Int) => []) [1, 2, 5, 9, 10] [11, 1, 2, 5, 9, 10] [0] [0] H Y Y Y (by decide) Y (fun Kp1 s0u1 h2 H Q1 HK1 => ?_)
 refine sR (p_ 1 Y (ng (zcs ?_)))
 refine zcb H Y (fun H => ?_) (fun H => ?_)
 refine zsk (tg (zcs (zck (sR (ix hT H Y Y Y Y Y Y fun _ H => ld hT H Y Y Y Y fun _ H => p_ 1 Y ?_)))))
 refine ng (zcs ?_)
 refine AtC.joinSeq (β := Unit) (fun (t0 : Bool) (bb : Unit) => [(24, Value.bool t0)]) (fun (t0 : Bool) (bb : Unit) => []) [1, 2, 5, 7, 9, 10, 11] [0] H Y Y (fun t0 bb h3 H => ?_) (fun J4 H HK4 => ?_)
 refine zcb H Y (fun H => ?_) (fun H => ?_)
 refine sR (p_ 1 Y (ng (zrt (ztr (zbr (ztr (ztr ?_)))))))
 refine zbr (ztr ?_)
 exact r1 4 Y Y Y H
 refine zsk (tg (zrg (p_ 2 Y (lc (lift_learn_truth _) H Try.call49 Y fun v_5 h6 H => zle Y (EffX.setM hT Y Y Y Y Y Y H) ?_))))
 rintro _ _ ⟨h7, rfl, H⟩
 refine znl (zbn (tg (zrg (p_ 2 Y (znl ?_)))))
 exact pko (HK1 _ _ H) [11, 1, 2, 5, 9, 10] [0] Y
 refine zrg (zlq Y (s_ 0 [_, _, _, _, _, _, _, _] Y) (p_ 1 Y (lc (lift_clause_Value _ _) H Try.call27 Y fun v_2 h4 H => p_ 2 Y ?_)))
 refine AtL.splitB (t := 19) H Y (fun H => ?_) (fun H => ?_)
 refine p_ 5 Y (znl ?_)
 exact pko (HK4 _ () _ H) [24, 1, 2, 5, 7, 9, 10, 11] [0] Y
 refine p_ 5 Y (lc (lift_learn_truth _) H Try.call49 Y fun v_3 h5 H => p_ 1 Y ?_)
 obtain ⟨fm4, v_4, hm4, hn4, H⟩ := H
 refine zlq Y (Quiet1.lookM1 (key := v_3) hT Y Y Y (by kernel_rfl) Y Y hm4 hn4) (p_ 1 Y (znl ?_))
 exact pko (HK4 _ () _ H) [24, 1, 2, 5, 7, 9, 10, 11] [0] Y
 refine zxt (ztx (ztx (zbh (tg ?_))))
 refine AtC.joinSeq (β := Unit) (fun (t0u1 : Bool) (bb_1 : Unit) => [(4, Value.bool t0u1)]) (fun (t0u1 : Bool) (bb_1 : Unit) => []) [] [] H Y Y (fun t0u1 bb_1 h8 H => ?_) (fun J6 H HK6 => ?_)
 refine zrt ?_
 exact r1 4 Y Y Y H
 rcases iteB.cases H with ⟨hb6, H⟩ | ⟨hb6, H⟩
 apply AtC.stages [7] A2u0 G2u0 hmix (by kernel_rfl) (nm 29 [_, _, _, _, _, _, _] ++ nm 37 [_, _, _]) Y 1 Y
 refine Stg.known (t := 33) Y hb6 (Stg.go (ra 7 ++ [8, 9, 10]) [7] Y Y (q_ Y (qq Y (l_ 0 Y) Y (q_ Y (q_ Y (QAll.cons (QOp.pk hT Y Y Y Y hb6 Y) (QAll.cons (QOp.y Y Y Y Y (s_ 0 [_, _, _, _, _, _, _, _] Y) Y Y) (QAll.cons (QOp.yp hT Y Y Y Y Y Y Y) (QAll.cons (QOp.yp hT Y Y Y Y Y Y Y) (QAll.cons (QOp.y Y Y Y Y (l_ 0 Y) Y Y) (QAll.cons (QOp.yp hT Y Y Y Y Y Y Y) zqz)))))))))) ?_)
 refine EAll.cons ?_ EAll.nil
 refine EOp.y Y Y Y Y Y (cl (fun h => learn_Level _ _ h _) H Y Try.call19 Y (fun w m hr hw => lift_learn_Level _ _ w m hr _ hw)) ?_
 rintro _ _ ⟨v_6, h9, rfl, rfl, H⟩
 apply Stg.next [(36, _), (40, _), (41, _), (4, _)] Y Y
 refine Stg.fin [8, 9, 10, 11, 12, 13] Y Y (QAll.cons (QOp.yp hT Y Y Y Y Y Y Y) (QAll.cons (QOp.y Y Y Y Y (l_ 0 Y) Y Y) (QAll.cons (QOp.yp hT Y Y Y Y Y Y Y) (QAll.cons (QOp.yp hT Y Y Y Y Y Y Y) (q_ Y (q_ Y zqz)))))) ?_
 exact pko (HK6 _ () _ H) [4] [] Y
 apply AtC.stages [7] A2u0 G2u0 hmix (by kernel_rfl) (nm 29 [_, _, _, _, _, _, _] ++ nm 37 [_, _, _]) Y 1 Y
 refine Stg.known (t := 33) Y hb6 (Stg.go (ra 7 ++ [8, 9, 10]) [7] Y Y (q_ Y (qq Y (l_ 0 Y) Y (q_ Y (q_ Y (QAll.cons (QOp.pk hT Y Y Y Y hb6 Y) (qn Y Y Y Y (by decide) Y Y (qn Y Y Y Y (by decide) Y Y (qn Y Y Y Y (by decide) Y Y (qn Y Y Y Y (by decide) Y Y (qn Y Y Y Y (by decide) Y Y zqz)))))))))) ?_)
 refine EAll.cons ?_ EAll.nil
 refine EOp.no Y Y Y Y (by decide) Y ?_
 apply Stg.next [(36, _), (40, _), (41, _), (4, _)] Y Y
 refine Stg.fin [8, 9, 10, 11, 12, 13] Y Y (qn Y Y Y Y (by decide) Y Y (qn Y Y Y Y (by decide) Y Y (qn Y Y Y Y (by decide) Y Y (qn Y Y Y Y (by decide) Y Y (q_ Y (q_ Y zqz)))))) ?_
 exact pko (HK6 _ () _ H) [4] [] Y
theorem lift_learn_work_put (w0 : (Option Addr)) (lit : Int) : Lf Try.prog 41 [Value.pointer w0, Value.int .i64 lit] (fun _ => Value.tuple #[]) (learn_work_put w0 lit) := by
 refine Lf.go Try.func41 Try.ntmps41 Y Y [0, 1] Y fun w m S H => ?_
 unfold learn_work_put at H
 refine sR (p_ 1 Y (lc (lift_learn_truth _) H Try.call49 Y fun v h0 H => p_ 1 Y (ng (zcs ?_))))
 refine AtC.joinSeq (β := Unit) (fun (t0 : Bool) (bb : Unit) => [(21, Value.bool t0)]) (fun (t0 : Bool) (bb : Unit) => []) [0, 1, 4] [] H Y Y (fun t0 bb h1 H => ?_) (fun J1 H HK1 => ?_)
 refine zcb H Y (fun H => ?_) (fun H => ?_)
 refine zrt (ztr ?_)
 exact AtE.ret0 Y Y H
 refine zsk (tg ?_)
 obtain ⟨a_2, hc6, H⟩ := H
 obtain ⟨v_5, hc7, H⟩ := H
 obtain ⟨a_3, hc8, H⟩ := H
 obtain ⟨v_6, hc9, H⟩ := H
 apply AtC.seqS [11, 13, 14, 16] (rl [([], 12), ([11], 2), ([11, 13], 1), ([11, 13, 14], 2)]) [[], [0], [0, 1], [0, 1, 2], [], [], [5], [5, 6], [5, 6, 7], [], [], (ra 9), (ra 9 ++ [11]), (ra 9 ++ [10, 11, 12]), (ra 14), (ra 15), (ra 16)] hmix (by kernel_rfl) (nm 22 [_, _, _, _, _, _, _, _, _, _, _]) Y 4 Y
 refine Stg.go (ra 11) [11] Y Y (q_ Y (qq Y (zqc Y Y hc6) Y (q_ Y (qq Y (zql hT Y Y Y hc7) Y (q_ Y (q_ Y (qq Y (zqc Y Y hc8) Y (q_ Y (qq Y (zql hT Y Y Y hc9) Y (q_ Y (q_ Y zqz))))))))))) (eo Y (EffX.entryM hT Y Y Y (by kernel_rfl) Y Y H) ?_)
 rintro _ _ ⟨en, h3, rfl, rfl, H⟩
 apply Stg.next [(33, _), (34, _)] Y Y
 refine Stg.go [9, 10, 12] [13] Y Y (q_ Y (q_ Y (q_ Y zqz))) (eo Y (EffX.entryS Y Y Y Y H) ?_)
 rintro _ _ ⟨h4, rfl, H⟩
 apply Stg.next [] Y Y
 refine Stg.go [9] [14] Y Y (q_ Y zqz) (eo Y (EffX.entryM hT Y Y Y (by kernel_rfl) Y Y H) ?_)
 rintro _ _ ⟨en_1, h5, rfl, rfl, H⟩
 apply Stg.next [(35, _), (36, _)] Y Y
 refine Stg.go [15] [16] Y Y (q_ Y zqz) (eo Y (EffX.entryS Y Y Y Y H) ?_)
 rintro _ _ ⟨h6, rfl, H⟩
 apply Stg.next [] Y Y
 refine Stg.fin [] Y Y zqz (tg ?_)
 obtain ⟨a_4, hc10, H⟩ := H
 obtain ⟨v_7, hc11, H⟩ := H
 obtain ⟨a_5, hc12, H⟩ := H
 obtain ⟨v_8, hc13, H⟩ := H
 apply AtC.seqS [5] (rl [([], 12), ([5], 1)]) [[], [0], [0, 1], [0, 1, 2], [], (ra 5), [], [6], [6, 7], [6, 7, 8], [6, 7, 8, 9], [6, 7, 8, 9, 10], (ra 12)] hmix (by kernel_rfl) (nm 37 [_, _, _, _, _] ++ nm 43 [_, _, _, _, _, _]) Y 1 Y
 refine Stg.go [0, 1, 2, 3, 4, 6, 7, 8, 9, 10, 11] [5] Y Y (q_ Y (qq Y (zqc Y Y hc10) Y (q_ Y (qq Y (zqs hT Y Y Y Y hc11) Y (q_ Y (q_ Y (qq Y (zqc Y Y hc12) Y (q_ Y (q_ Y (qq Y (zql hT Y Y Y hc13) Y (q_ Y zqz))))))))))) (ec (lift_learn_at _ _) H Try.call52 Y fun v_9 h7 H => ?_)
 obtain ⟨hc14, H⟩ := H
 apply Stg.next [(42, _), (49, _)] Y Y
 refine Stg.fin [6, 7, 8, 9, 10, 11, 12] Y Y (q_ Y (qq Y (zqc Y Y hc12) Y (q_ Y (q_ Y (qq Y (zql hT Y Y Y hc14) Y (q_ Y (q_ Y zqz))))))) (tg ?_)
 refine zcb H Y (fun H => ?_) (fun H => ?_)
 refine zrg (p_ 1 Y (nk H Y Y Y fun _ H => p_ 1 Y (ld hT H Y Y Y Y fun _ H => p_ 1 Y (nk H Y Y Y fun _ H => p_ 1 Y ?_))))
 refine zle Y (EffX.store hT Y Y Y Y Y H) ?_
 rintro _ _ ⟨h8, rfl, H⟩
 refine znl ?_
 exact AtE.endN Y Y H
 refine zsk ?_
 exact AtE.endN Y Y H
 refine zrg (p_ 1 Y (nk H Y Y Y fun _ H => p_ 1 Y (ld hT H Y Y Y Y fun _ H => p_ 1 Y ?_)))
 obtain ⟨fm3, v_2, hm3, hn3, H⟩ := H
 refine zlq Y (Quiet1.lookM1 (key := v) hT Y Y Y (by kernel_rfl) Y Y hm3 hn3) (p_ 1 Y ?_)
 refine AtL.splitB (t := 13) H Y (fun H => ?_) (fun H => ?_)
 refine p_ 8 Y (znl ?_)
 exact pko (HK1 _ () _ H) [21, 0, 1, 4] [] Y
 refine p_ 3 Y (nk H Y Y Y fun _ H => p_ 3 Y (lds hT H Y Y Y Y Y fun _ H => p_ 3 Y (lc (lift_learn_at _ _) H Try.call52 Y fun v_4 h2 H => p_ 3 Y (znl ?_))))
 exact pko (HK1 _ () _ H) [21, 0, 1, 4] [] Y
theorem lift_slices_Backward_int_int (s0 : Sl) : Lf Try.prog 55 [Sl.toV s0] FnV.toV (slices_Backward_int_int s0) := by
 refine Lf.go Try.func55 Try.ntmps55 Y Y [0] Y fun w m S H => ?_
 unfold slices_Backward_int_int at H
 refine sR (zle Y (EffX.box (cs := [_]) Y Y Y H) ?_)
 rintro _ _ ⟨s0u1, h0, rfl, rfl, H⟩
 refine p_ 1 Y (ng (sR (zlq Y (Quiet1.makeFn (bs := []) (cs := [_]) Y Y Y) (p_ 1 Y (ng (zrt ?_))))))
 exact r1 2 Y Y Y H
theorem lift_learn_work_take (w0 : (Option Addr)) (v : Int) : Lf Try.prog 61 [Value.pointer w0, Value.int .i64 v] Value.bool (learn_work_take w0 v) := by
 refine Lf.go Try.func61 Try.ntmps61 Y Y [0, 1] Y fun w m S H => ?_
 unfold learn_work_take at H
 refine sR (p_ 1 Y (ng (sR (p_ 1 Y (nk H Y Y Y fun _ H => p_ 2 Y (ld hT H Y Y Y Y fun _ H => ?_))))))
 refine p_ 1 Y (ix hT H Y Y Y Y Y Y fun _ H => ld hT H Y Y Y Y fun _ H => p_ 1 Y (ng (zcs (sR (p_ 2 Y ?_)))))
 refine ng ?_
 refine zcb H Y (fun H => ?_) (fun H => ?_)
 refine sR (p_ 1 Y (ng (zrt (ztr ?_))))
 exact r1 4 Y Y Y H
 refine zsk (tg (sR (p_ 1 Y (nk H Y Y Y fun _ H => p_ 1 Y (ld hT H Y Y Y Y fun _ H => p_ 1 Y ?_)))))
 refine zle Y (EffX.delM hT Y Y Y Y Y Y Y H) ?_
 rintro _ _ ⟨h0, rfl, H⟩
 refine ng (sR (p_ 1 Y (nk H Y Y Y fun _ H => p_ 1 Y (ld hT H Y Y Y Y fun _ H => p_ 1 Y (nk H Y Y Y fun _ H => ?_)))))
 refine p_ 1 Y (zle Y (EffX.store hT Y Y Y Y Y H) ?_)
 rintro _ _ ⟨h1, rfl, H⟩
 refine ng (zcs (sR (p_ 1 Y (nk H Y Y Y fun _ H => p_ 2 Y (ld hT H Y Y Y Y fun _ H => p_ 1 Y ?_)))))
 refine ix hT H Y Y Y Y Y Y fun _ H => p_ 1 Y (ld hT H Y Y Y Y fun _ H => p_ 2 Y (ng (zck ?_)))
 refine AtC.loopM (fun (s0 : Int) => [(40, Value.int .i64 s0)]) (fun (s0 : Int) => []) [0, 1, 38, 39] [40, 0, 1, 38, 39] [] [] H Y Y Y (by decide) Y (fun Kp14 s0 h2 H Q14 HK14 => ?_)
 refine sR (p_ 1 Y (ng (zcs ?_)))
 refine zcb H Y (fun H => ?_) (fun H => ?_)
 refine zsk (tg ?_)
 refine AtC.joinSeq (β := Unit) (fun (t0 : Unit) (bb : Unit) => []) (fun (t0 : Unit) (bb : Unit) => []) [0, 1, 38, 39, 40] [] H Y Y (fun t0 bb h3 H => ?_) (fun J15 H HK15 => ?_)
 refine zrg (p_ 2 Y (znl ?_))
 exact pko (HK14 _ _ H) [40, 0, 1, 38, 39] [] Y
 refine zck (sR (ix hT H Y Y Y Y Y Y fun _ H => ld hT H Y Y Y Y fun _ H => p_ 1 Y (ng (sR (p_ 1 Y ?_)))))
 refine lc (lift_learn_truth _) H Try.call49 Y fun v_8 h4 H => p_ 2 Y (ng ?_)
 refine zcb H Y (fun H => ?_) (fun H => ?_)
 refine zrg (p_ 2 Y (lc (lift_learn_work_put _ _) H Try.call41 Y fun v_9 h5 H => znl (zbn ?_)))
 exact pko (HK15 _ () _ H) [0, 1, 38, 39, 40] [] Y
 refine zsk (zbn ?_)
 exact pko (HK15 _ () _ H) [0, 1, 38, 39, 40] [] Y
 refine zxt (ztx (ztx (zbh (tg (sR (p_ 1 Y (ng ?_)))))))
 refine zrt ?_
 exact r1 4 Y Y Y H
theorem back_71 : BackOK Try.prog 71 1 (fun a h k => Lift.load (Value.int .i64) a h k) (Value.int .i64) := by
 intro B m w l c0 Yf R Rx hw H hst hY
 refine callsIn_of_wp (F := FW none) Try.func71 Y trivial ?_
 obtain ⟨s, hc, H⟩ := H
 refine AtC.at' (n := ⟨19, [], none⟩) (B := B) (L := [(0, .func (.yield l) #[] #[]), (1, .pointer (some c0))]) (h := ⟨m, []⟩) ?_ ⟨Y, Y, fun t v h => ?_⟩ hw
 refine sR (zlq Y (zql hT Y Y Y hc) (p_ 3 Y (ng (zck ?_))))
 refine AtC.loop (fun (i : Int) => [(0, .func (.yield l) #[] #[]), (1, .pointer (some c0)), (3, .int .i64 i)]) (fun _ => []) (is := []) H ⟨Y, Y, Y, trivial⟩ (by decide) Y (fun Kp i m H Q1 HK => ?_)
 refine zcs (sR (p_ 2 Y (ng ?_)))
 refine zcb H Y (fun H => ?_) (fun H => ?_)
 refine zsk (tg (zcs (zck (sR (p_ 2 Y ?_)))))
 obtain ⟨s, hc, H⟩ := H
 refine zlq Y (zql hT Y Y Y hc) (p_ 1 Y ?_)
 obtain ⟨a, hc1, hd1, H⟩ := H
 refine zlq Y (zqi (s := s) hT Y Y Y Y Y hc1 hd1) (ld hT H Y Y Y Y fun _ H => ?_)
 refine AtL.yield Y Y Y Y Y (fun w hw => ?_)
 obtain ⟨r, e1, e2, e3⟩ := hY _ _ _ _ _ hw H
 refine ⟨r, e1, e2, e3.mono ?_⟩
 rintro e W' (⟨rfl, m', hi, hk⟩ | ⟨rfl, m', hr, hx⟩)
 refine ⟨_, Y, B, ⟨m', []⟩, hi, ?_⟩
 refine p_ 1 Y (ng ?_)
 refine AtC.cond (b := false) Y nofun (fun _ => ?_)
 refine zsk (zbn (tg (zrg (p_ 3 Y (znl ?_)))))
 exact ztn ((HK _ _ hk).weaken ⟨Y, Y, Y, trivial⟩)
 refine ⟨_, Y, ⟨W', m'⟩, ⟨m', []⟩, InW.start hr, ?_⟩
 refine p_ 1 Y (ng ?_)
 refine AtC.cond (b := true) Y (fun _ => ?_) nofun
 refine zrt (AtE.mk fun a w ha hw => ?_)
 exact ⟨ha.2.1, _, results_none Y _ _ _, ⟨_, Y⟩, .inr ⟨m', hst _ _ _ hx hw⟩⟩
 refine zxt ?_
 refine ztx (ztx (zbh ?_))
 refine AtE.mk fun a w ha hw => ?_
 exact ⟨ha.2.1, _, results_none Y _ _ _, ⟨_, Y⟩, .inl ⟨_, hw, H⟩⟩
 simp only [Frm.get_cons] at h
 split at h
 rename_i e; subst e; cases h; rfl
 split at h
 rename_i e; subst e; cases h; rfl
 cases h
theorem lift_learn_work_resolve (w0 : (Option Addr)) : Lf Try.prog 42 [Value.pointer w0] Value.bool (learn_work_resolve w0) := by
 refine Lf.goM Try.func42 Try.ntmps42 Y Y [0] Y fun w m S H => ?_
 unfold learn_work_resolve at H
 refine sR (zle Y (EffX.box (cs := [_]) Y Y Y H) ?_)
 rintro _ _ ⟨w0u1, h0, rfl, rfl, H⟩
 refine zle Y (EffX.alloc hT Y Y H) ?_
 rintro _ _ ⟨a, h1, rfl, rfl, H⟩
 refine ng (zcs (sR ?_))
 obtain ⟨v, hc0, H⟩ := H
 refine zlq Y (zql hT Y Y Y hc0) (nk H Y Y Y fun _ H => p_ 2 Y (ld hT H Y Y Y Y fun _ H => lc (lift_slices_Backward_int_int _) H Try.call55 Y fun v_2 h2 H => ng (zck ?_)))
 obtain ⟨c0, hv4, H⟩ := H
 subst hv4
 refine AtC.range back_71 (c0 := c0) Y Try.call71 H (by decide) (by decide) (fun l4 i x0 h4 K0 H B2u4 => ?_) (fun h5 H B4 D0 hlnk => ?_)
 refine zrg (p_ 1 Y (znl ?_))
 refine mid (fun B3u4 Q3u4 hn4 hq4 hx4 => ?_)
 refine zck (zcs (sR (ld hT H Y Y Y Y fun _ H => nk H Y Y Y fun _ H => p_ 1 Y (ld hT H Y Y Y Y fun _ H => p_ 1 Y ?_))))
 refine ng ?_
 refine zcb H Y (fun H => ?_) (fun H => ?_)
 refine sR (zle Y (EffX.store hT Y Y Y Y Y H) ?_)
 rintro _ _ ⟨h6, rfl, H⟩
 refine ng (zrt (ztr (zbr ?_)))
 refine AtE.weaken (hq4 _ (fun B4 D0 hlnk => ?_)) trivial
 refine zbr (ztr ?_)
 obtain ⟨r, hc0, H⟩ := H
 exact AtE.retM hlnk (rs := [.cell 2 4]) Y (ResAll.cons (ResAt.cell hT Y Y hc0) ResAll.nil) Y H
 refine zsk (tg ?_)
 obtain ⟨v_5, hc7, H⟩ := H
 obtain ⟨a_3, hc8, H⟩ := H
 obtain ⟨v_6, hc9, H⟩ := H
 apply AtC.seqS [5] (rl [([], 6), ([5], 6)]) [[], [0], [0, 1], [0, 1, 2], [], [4], (ra 6), (ra 7), (ra 8), (ra 8), (ra 9), (ra 11)] hmix (by kernel_rfl) (nm 21 [_, _, _, _, _]) Y 1 Y
 refine Stg.go (ra 5) [5] Y Y (qq Y (zql hT Y Y Y hc7) Y (qq Y (zqc Y Y hc8) Y (q_ Y (qq Y (zql hT Y Y Y hc9) Y (q_ Y zqz))))) (ec (lift_learn_truth _) H Try.call49 Y fun v_7 h7 H => ?_)
 obtain ⟨hc10, H⟩ := H
 obtain ⟨hc11, H⟩ := H
 obtain ⟨fm12, v_8, hm12, hn12, H⟩ := H
 apply Stg.next [(26, _), (27, _), (20, _), (28, _), (29, _), (5, _), (6, _)] Y Y
 refine Stg.fin [0, 1, 2, 3, 6, 7, 8, 9, 10, 11] Y Y (qq Y (zql hT Y Y Y hc10) Y (qq Y (zqc Y Y hc8) Y (q_ Y (qq Y (zql hT Y Y Y hc11) Y (qq Y (Quiet1.lookM (key := v_7) hT Y Y Y (by kernel_rfl) Y Y hm12 hn12) Y (q_ Y (q_ Y (q_ Y (q_ Y (q_ Y zqz)))))))))) (tg ?_)
 refine AtC.joinSeq (β := Unit) (fun (t0 : Bool) (bb : Unit) => [(37, Value.bool t0)]) (fun (t0 : Bool) (bb : Unit) => []) [2] [] H Y Y (fun t0 bb h8 H => ?_) (fun J14 H HK14 => ?_)
 refine zcb H Y (fun H => ?_) (fun H => ?_)
 refine sR (zle Y (EffX.store hT Y Y Y Y Y H) ?_)
 rintro _ _ ⟨h11, rfl, H⟩
 refine ng (zrt (zbr ?_))
 refine AtE.weaken (hq4 _ (fun B4 D0 hlnk => ?_)) trivial
 refine zbr (ztr ?_)
 obtain ⟨r_1, hc0, H⟩ := H
 exact AtE.retM hlnk (rs := [.cell 2 4]) Y (ResAll.cons (ResAt.cell hT Y Y hc0) ResAll.nil) Y H
 refine zsk (zbn ?_)
 exact AtE.weaken (hn4 _ H) trivial
 rcases iteB.cases H with ⟨hb14, H⟩ | ⟨hb14, H⟩
 obtain ⟨v_9, hc15, H⟩ := H
 apply AtC.stages [4, 5] A2u1 G2u1 hmix (by kernel_rfl) (nm 30 [_, _, _, _]) Y 2 Y
 refine Stg.known (t := 31) Y hb14 (Stg.go [0, 1, 2, 3] [4] Y Y (q_ Y (QAll.cons (QOp.pk hT Y Y Y Y hb14 Y) (QAll.cons (QOp.y Y Y Y Y (zql hT Y Y Y hc15) Y Y) (QAll.cons (QOp.yp hT Y Y Y Y Y Y Y) zqz)))) ?_)
 refine EAll.cons ?_ EAll.nil
 refine EOp.y Y Y Y Y Y (cl (fun h => learn_truth _ h _) H Y Try.call49 Y (fun w m hr hw => lift_learn_truth _ w m hr _ hw)) ?_
 rintro _ _ ⟨v_10, h9, rfl, rfl, H⟩
 obtain ⟨hc16, H⟩ := H
 apply Stg.next [(34, _)] Y Y
 refine Stg.go [2] [5] Y Y (QAll.cons (QOp.y Y Y Y Y (zql hT Y Y Y hc16) Y Y) zqz) ?_
 refine EAll.cons ?_ EAll.nil
 refine EOp.y Y Y Y Y Y (cl (fun h => learn_work_take _ _ h _) H Y Try.call61 Y (fun w m hr hw => lift_learn_work_take _ _ w m hr _ hw)) ?_
 rintro _ _ ⟨v_11, h10, rfl, rfl, H⟩
 apply Stg.next (nm 35 [_, _, _]) Y Y
 refine Stg.fin [6, 7] Y Y (QAll.cons (QOp.yp hT Y Y Y Y Y Y Y) (q_ Y zqz)) ?_
 exact pko (HK14 _ () _ H) [37, 2] [] Y
 apply AtC.stages [4, 5] A2u1 G2u1 hmix (by kernel_rfl) (nm 30 [_, _, _, _]) Y 2 Y
 refine Stg.known (t := 31) Y hb14 (Stg.go [0, 1, 2, 3] [4] Y Y (q_ Y (QAll.cons (QOp.pk hT Y Y Y Y hb14 Y) (qn Y Y Y Y (by decide) Y Y (qn Y Y Y Y (by decide) Y Y zqz)))) ?_)
 refine EAll.cons ?_ EAll.nil
 refine EOp.no Y Y Y Y (by decide) Y ?_
 apply Stg.next [(34, _)] Y Y
 refine Stg.go [2] [5] Y Y (qn Y Y Y Y (by decide) Y Y zqz) ?_
 refine EAll.cons ?_ EAll.nil
 refine EOp.no Y Y Y Y (by decide) Y ?_
 apply Stg.next (nm 35 [_, _, _]) Y Y
 refine Stg.fin [6, 7] Y Y (qn Y Y Y Y (by decide) Y Y (q_ Y zqz)) ?_
 exact pko (HK14 _ () _ H) [37, 2] [] Y
 refine zbn (tg (sR (ld hT H Y Y Y Y fun _ H => nk H Y Y Y fun _ H => p_ 1 Y (ld hT H Y Y Y Y fun _ H => p_ 1 Y ?_))))
 refine zle Y (EffX.store hT Y Y Y Y Y H) ?_
 rintro _ _ ⟨h12, rfl, H⟩
 refine ng (zrt ?_)
 obtain ⟨r_2, hc0, H⟩ := H
 exact AtE.retM hlnk (rs := [.cell 2 4]) Y (ResAll.cons (ResAt.cell hT Y Y hc0) ResAll.nil) Y H
theorem lift_maps_Values_map_int_int_int_int (m0 : (Option Nat)) : Lf Try.prog 44 [Value.map m0] FnV.toV (maps_Values_map_int_int_int_int m0) := by
 refine Lf.go Try.func44 Try.ntmps44 Y Y [0] Y fun w m S H => ?_
 unfold maps_Values_map_int_int_int_int at H
 refine sR (zle Y (EffX.box (cs := [_]) Y Y Y H) ?_)
 rintro _ _ ⟨m0u1, h0, rfl, rfl, H⟩
 refine p_ 1 Y (ng (sR (zlq Y (Quiet1.makeFn (bs := []) (cs := [_]) Y Y Y) (p_ 1 Y (ng (zrt ?_))))))
 exact r1 2 Y Y Y H
theorem lift_learn_order (s0 : Sl × Sl × Sl × Sl × Sl × Sl × Sl × Int) : Lf Try.prog 45 [Value.agg (C_sl_sl_sl_sl_sl_sl_sl_i64 s0).toArray] FnV.toV (learn_order s0) := by
 refine Lf.go Try.func45 Try.ntmps45 Y Y [0] Y fun w m S H => ?_
 unfold learn_order at H
 refine sR (zle Y (EffX.box (cs := [_, _, _, _, _, _, _, _]) Y Y Y H) ?_)
 rintro _ _ ⟨s0u1, h0, rfl, rfl, H⟩
 refine p_ 1 Y (ng (sR (zlq Y (Quiet1.makeFn (bs := []) (cs := [_]) Y Y Y) (p_ 1 Y (ng (zrt ?_))))))
 exact r1 2 Y Y Y H
theorem it_63 {c0 : Addr} : IterOK Try.prog 63 (.pointer (some c0)) (fun x => [(Value.int .i64) x]) (mapV (Value.int .i64) .i64 c0) := by
 intro W1 m1 l Yf R Rx hr1 H hst hY
 refine callsIn_of_wp (F := FW none) Try.func63 Y trivial ?_
 obtain ⟨x, hc, b, f, rfl, ⟨es, c, hb, he⟩, H⟩ := H
 refine AtC.at' (n := ⟨15, [], none⟩) (B := ⟨W1, m1⟩) (L := [(0, .func (.yield l) #[] #[]), (1, .pointer (some c0))]) (h := ⟨m1, []⟩) ?_ ⟨Y, Y, fun t v h => ?_⟩ (InW.start hr1)
 refine sR (zlq Y (zql hT Y Y Y hc) (AtL.rangeM hT Y Y Y Y hb fun w hw => ng (zck (AtC.loopW (ItI (Value.int .i64) .i64 W1 m1 b es c (fun p => Yf p.2) R) [(0, .func (.yield l) #[] #[]), (1, .pointer (some c0)), (6, .pointer (some ⟨m1.size, 0, none⟩))] (k := f.length) (fun w' hw' => ItI.start hr1 he hb hw H hw') ⟨Y, Y, Y, trivial⟩ (fun k w m hI => hI.inw.rel) ?_))))
 intro k w m hI Q1 HK
 refine sR ?_
 refine AtL.nextI he hI Y Y Y (fun hR => ?_) (fun p k' B2 K hk hN => ?_)
 refine p_ 1 Y (ng (zcs ?_))
 refine AtC.cond (b := false) Y nofun (fun _ => ?_)
 refine zxt ?_
 refine ztx (ztx (zbh ?_))
 refine AtE.mk fun a w' ha hw' => ?_
 exact ⟨ha.2.1, _, results_none Y _ _ _, ⟨_, Y⟩, .inl ⟨m, hI.inw.call hw', hR⟩⟩
 refine p_ 1 Y (ng (zcs ?_))
 refine AtC.cond (b := true) Y (fun _ => ?_) nofun
 refine zsk (tg (zck (sR (hN.ent Y Y Y (p_ 2 Y (ng (sR ?_)))))))
 refine p_ 2 Y ?_
 refine AtL.yield Y Y Y Y Y (fun W hW => ?_)
 obtain ⟨r, e1, e2, e3⟩ := hY _ _ _ _ (hN.up W hW) hN.y
 refine ⟨r, e1, e2, e3.mono ?_⟩
 rintro e W' (⟨rfl, m', hi, hk2⟩ | ⟨rfl, m', hr2, hx⟩)
 refine ⟨_, Y, ⟨W', m'⟩, ⟨m', []⟩, InW.start hi.rel, ?_⟩
 refine p_ 1 Y (ng ?_)
 refine AtC.cond (b := false) Y nofun (fun _ => ?_)
 refine zsk (zbn ?_)
 exact ztn ((HK k' m' _ (by omega) fun w' hw' => hN.nxt W m' w' hW (hi.call hw') hk2).weaken ⟨Y, Y, Y, trivial⟩)
 refine ⟨_, Y, ⟨W', m'⟩, ⟨m', []⟩, InW.start hr2, ?_⟩
 refine p_ 1 Y (ng ?_)
 refine AtC.cond (b := true) Y (fun _ => ?_) nofun
 refine zrt (AtE.mk fun a w ha hw => ?_)
 exact ⟨ha.2.1, _, results_none Y _ _ _, ⟨_, Y⟩, .inr ⟨m', hst _ _ _ hx hw⟩⟩
 simp only [Frm.get_cons] at h
 split at h
 rename_i e; subst e; cases h; rfl
 split at h
 rename_i e; subst e; cases h; rfl
 cases h
theorem it_70 {c0 : Addr} : IterOK Try.prog 70 (.pointer (some c0)) (fun x => [(Value.int .i64) x]) (mapK Value.bool .i64 c0) := by
 intro W1 m1 l Yf R Rx hr1 H hst hY
 refine callsIn_of_wp (F := FW none) Try.func70 Y trivial ?_
 obtain ⟨x, hc, b, f, rfl, ⟨es, c, hb, he⟩, H⟩ := H
 refine AtC.at' (n := ⟨14, [], none⟩) (B := ⟨W1, m1⟩) (L := [(0, .func (.yield l) #[] #[]), (1, .pointer (some c0))]) (h := ⟨m1, []⟩) ?_ ⟨Y, Y, fun t v h => ?_⟩ (InW.start hr1)
 refine sR (zlq Y (zql hT Y Y Y hc) (AtL.rangeM hT Y Y Y Y hb fun w hw => ng (zck (AtC.loopW (ItI Value.bool .i64 W1 m1 b es c (fun p => Yf p.1) R) [(0, .func (.yield l) #[] #[]), (1, .pointer (some c0)), (5, .pointer (some ⟨m1.size, 0, none⟩))] (k := f.length) (fun w' hw' => ItI.start hr1 he hb hw H hw') ⟨Y, Y, Y, trivial⟩ (fun k w m hI => hI.inw.rel) ?_))))
 intro k w m hI Q1 HK
 refine sR ?_
 refine AtL.nextI he hI Y Y Y (fun hR => ?_) (fun p k' B2 K hk hN => ?_)
 refine p_ 1 Y (ng (zcs ?_))
 refine AtC.cond (b := false) Y nofun (fun _ => ?_)
 refine zxt ?_
 refine ztx (ztx (zbh ?_))
 refine AtE.mk fun a w' ha hw' => ?_
 exact ⟨ha.2.1, _, results_none Y _ _ _, ⟨_, Y⟩, .inl ⟨m, hI.inw.call hw', hR⟩⟩
 refine p_ 1 Y (ng (zcs ?_))
 refine AtC.cond (b := true) Y (fun _ => ?_) nofun
 refine zsk (tg (zck (sR (hN.ent Y Y Y (p_ 2 Y (ng (sR ?_)))))))
 refine p_ 2 Y ?_
 refine AtL.yield Y Y Y Y Y (fun W hW => ?_)
 obtain ⟨r, e1, e2, e3⟩ := hY _ _ _ _ (hN.up W hW) hN.y
 refine ⟨r, e1, e2, e3.mono ?_⟩
 rintro e W' (⟨rfl, m', hi, hk2⟩ | ⟨rfl, m', hr2, hx⟩)
 refine ⟨_, Y, ⟨W', m'⟩, ⟨m', []⟩, InW.start hi.rel, ?_⟩
 refine p_ 1 Y (ng ?_)
 refine AtC.cond (b := false) Y nofun (fun _ => ?_)
 refine zsk (zbn ?_)
 exact ztn ((HK k' m' _ (by omega) fun w' hw' => hN.nxt W m' w' hW (hi.call hw') hk2).weaken ⟨Y, Y, Y, trivial⟩)
 refine ⟨_, Y, ⟨W', m'⟩, ⟨m', []⟩, InW.start hr2, ?_⟩
 refine p_ 1 Y (ng ?_)
 refine AtC.cond (b := true) Y (fun _ => ?_) nofun
 refine zrt (AtE.mk fun a w ha hw => ?_)
 exact ⟨ha.2.1, _, results_none Y _ _ _, ⟨_, Y⟩, .inr ⟨m', hst _ _ _ hx hw⟩⟩
 simp only [Frm.get_cons] at h
 split at h
 rename_i e; subst e; cases h; rfl
 split at h
 rename_i e; subst e; cases h; rfl
 cases h
theorem lift_slices_AppendSeq_int_int (s0 : Sl) (seq : FnV) : Lf Try.prog 73 [Sl.toV s0, FnV.toV seq] Sl.toV (slices_AppendSeq_int_int s0 seq) := by
 refine Lf.goM Try.func73 Try.ntmps73 Y Y [0, 1] Y fun w m S H => ?_
 unfold slices_AppendSeq_int_int at H
 refine sR (zle Y (EffX.box (cs := [_]) Y Y Y H) ?_)
 rintro _ _ ⟨s0u1, h0, rfl, rfl, H⟩
 refine p_ 1 Y (ng (zcs (sR (p_ 1 Y (ng (zck ?_))))))
 rcases H with H | H
 obtain ⟨c0, hv1, Hq1⟩ := H
 subst hv1
 refine AtC.range1 (it_63 (c0 := c0)) Y Try.call63 Hq1 (by decide) (fun l1 x0 h2 K0 H B2u1 => ?_) (fun h3 H B4 D0 hlnk => ?_)
 refine zrg (p_ 1 Y (znl ?_))
 refine mid (fun B3u1 Q3u1 hn1 hq1 hx1 => ?_)
 refine zck (zrg (ld hT H Y Y Y Y fun _ H => p_ 1 Y ?_))
 refine AtLX.bs (hT := hT) (cs := [_]) H Y Y Y Y Y Y Y Y Y (fun a h4 H => ?_)
 refine zle Y (EffX.appendS (s := _) (u := _) hT Y Y Y Y Y Y Y Y Y Y (by decide) H) ?_
 rintro _ _ ⟨v_2, h5, rfl, rfl, H⟩
 refine zle Y (EffX.store hT Y Y Y Y Y H) ?_
 rintro _ _ ⟨h6, rfl, H⟩
 refine znl (zbn ?_)
 exact AtE.weaken (hn1 _ H) trivial
 refine zbn (tg (sR (ld hT H Y Y Y Y fun _ H => p_ 1 Y (ng (zrt ?_)))))
 exact AtE.retM hlnk (rs := [.tmp 4]) Y (ResAll.cons (ResAt.tmp Y) ResAll.nil) Y H
 obtain ⟨c0u1, hv4, Hq4⟩ := H
 subst hv4
 refine AtC.range1 (it_70 (c0 := c0u1)) Y Try.call70 Hq4 (by decide) (fun l4 x0u1 h8 K0u1 H B2u4 => ?_) (fun h9 H B4 D0 hlnk => ?_)
 refine zrg (p_ 1 Y (znl ?_))
 refine mid (fun B3u4 Q3u4 hn4 hq4 hx4 => ?_)
 refine zck (zrg (ld hT H Y Y Y Y fun _ H => p_ 1 Y ?_))
 refine AtLX.bs (hT := hT) (cs := [_]) H Y Y Y Y Y Y Y Y Y (fun a_1 h10 H => ?_)
 refine zle Y (EffX.appendS (s := _) (u := _) hT Y Y Y Y Y Y Y Y Y Y (by decide) H) ?_
 rintro _ _ ⟨v_6, h11, rfl, rfl, H⟩
 refine zle Y (EffX.store hT Y Y Y Y Y H) ?_
 rintro _ _ ⟨h12, rfl, H⟩
 refine znl (zbn ?_)
 exact AtE.weaken (hn4 _ H) trivial
 refine zbn (tg (sR (ld hT H Y Y Y Y fun _ H => p_ 1 Y (ng (zrt ?_)))))
 exact AtE.retM hlnk (rs := [.tmp 4]) Y (ResAll.cons (ResAt.tmp Y) ResAll.nil) Y H
theorem lift_slices_Collect_int (seq : FnV) : Lf Try.prog 62 [FnV.toV seq] Sl.toV (slices_Collect_int seq) := by
 refine Lf.go Try.func62 Try.ntmps62 Y Y [0] Y fun w m S H => ?_
 unfold slices_Collect_int at H
 refine sR (p_ 1 Y (ng (sR (p_ 1 Y (lc (lift_slices_AppendSeq_int_int _ _) H Try.call73 Y fun v h0 H => p_ 1 Y (ng ?_))))))
 refine zrt ?_
 exact r1 2 Y Y Y H
theorem lift_cmp_isNaN_int (x0 : Int) : Lf Try.prog 68 [Value.int .i64 x0] Value.bool (cmp_isNaN_int x0) := by
 refine Lf.go Try.func68 Try.ntmps68 Y Y [0] Y fun w m S H => ?_
 unfold cmp_isNaN_int at H
 refine sR (p_ 1 Y (ng (sR (p_ 4 Y (ng (zrt ?_))))))
 exact r1 2 Y Y Y H
theorem lift_cmp_Compare_int (x0 : Int) (y : Int) : Lf Try.prog 48 [Value.int .i64 x0, Value.int .i64 y] (Value.int .i64) (cmp_Compare_int x0 y) := by
 refine Lf.go Try.func48 Try.ntmps48 Y Y [0, 1] Y fun w m S H => ?_
 unfold cmp_Compare_int at H
 refine sR (p_ 1 Y (ng (sR (p_ 1 Y (lc (lift_cmp_isNaN_int _) H Try.call68 Y fun v h0 H => p_ 1 Y (ng ?_))))))
 refine sR (p_ 1 Y (lc (lift_cmp_isNaN_int _) H Try.call68 Y fun v_1 h1 H => p_ 1 Y (ng (zcs (sR (p_ 1 Y ?_))))))
 refine ng ?_
 refine zcb H Y (fun H => ?_) (fun H => ?_)
 refine zcs (sR (p_ 1 Y (ng ?_)))
 refine zcb H Y (fun H => ?_) (fun H => ?_)
 refine sR (p_ 1 Y (ng (zrt (ztr (ztr ?_)))))
 exact r1 4 Y Y Y H
 refine zsk (tg (sR (p_ 1 Y (ng (zrt (ztr ?_))))))
 exact r1 4 Y Y Y H
 refine zsk (tg (zcs (sR (p_ 1 Y (ng ?_)))))
 refine zcb H Y (fun H => ?_) (fun H => ?_)
 refine sR (p_ 1 Y (ng (zrt (ztr ?_))))
 exact r1 4 Y Y Y H
 refine zsk (tg (zcs (sR (p_ 3 Y (ng ?_)))))
 refine zcb H Y (fun H => ?_) (fun H => ?_)
 refine sR (p_ 1 Y (ng (zrt (ztr ?_))))
 exact r1 4 Y Y Y H
 refine zsk (tg (zcs (sR (p_ 3 Y (ng ?_)))))
 refine zcb H Y (fun H => ?_) (fun H => ?_)
 refine sR (p_ 1 Y (ng (zrt (ztr ?_))))
 exact r1 4 Y Y Y H
 refine zsk (tg (sR (p_ 1 Y (ng (zrt ?_)))))
 exact r1 4 Y Y Y H
theorem lift_cmp_Or_int (vals : Sl) : Lf Try.prog 65 [Sl.toV vals] (Value.int .i64) (cmp_Or_int vals) := by
 refine Lf.go Try.func65 Try.ntmps65 Y Y [0] Y fun w m S H => ?_
 unfold cmp_Or_int at H
 refine sR (p_ 1 Y (ng (sR (p_ 1 Y (ng (zcs (sR ?_)))))))
 refine p_ 3 Y (ng (zck ?_))
 refine AtC.loopM (fun (s0 : Int) => [(8, Value.int .i64 s0)]) (fun (s0 : Int) => []) [3, 6, 7] [8, 3, 6, 7] [] [] H Y Y Y (by decide) Y (fun Kp1 s0 h0 H Q1 HK1 => ?_)
 refine sR (p_ 1 Y (ng (zcs ?_)))
 refine zcb H Y (fun H => ?_) (fun H => ?_)
 refine zsk (tg (zcs (zck (sR (ix hT H Y Y Y Y Y Y fun _ H => ld hT H Y Y Y Y fun _ H => p_ 1 Y ?_)))))
 refine ng (sR (p_ 3 Y (ng ?_)))
 refine zcb H Y (fun H => ?_) (fun H => ?_)
 refine sR (p_ 2 Y (ng (zrt (zbr (ztr (ztr (zbr ?_)))))))
 refine ztr ?_
 exact r1 2 Y Y Y H
 refine zsk (zbn (tg (zrg (p_ 2 Y (znl ?_)))))
 exact pko (HK1 _ _ H) [8, 3, 6, 7] [] Y
 refine zxt (ztx (ztx (zbh (tg (sR (p_ 2 Y (ng ?_)))))))
 refine zrt ?_
 exact r1 2 Y Y Y H
theorem lift_learn_order_c1 (a : Int) (b : Int) (c0 : Addr) : Lf Try.prog 64 [Value.int .i64 a, Value.int .i64 b, Value.pointer (some c0)] (Value.int .i64) (learn_order_c1 a b c0) := by
 refine Lf.go Try.func64 Try.ntmps64 Y Y [0, 1, 2] Y fun w m S H => ?_
 unfold learn_order_c1 at H
 refine sR (p_ 1 Y (ng ?_))
 obtain ⟨v, hc0, H⟩ := H
 obtain ⟨v_1, hc1, H⟩ := H
 apply AtC.seqS [2, 5, 6, 8, 10, 11, 12, 13] [[], [], [], [], [], [2], [2, 5], [], [2, 5, 6], [], [2, 5, 6, 8], [2, 5, 6, 8, 10], [2, 5, 6, 8, 10, 11], [2, 5, 6, 8, 10, 11, 12], [2, 5, 6, 8, 10, 11, 12, 13]] [[], [], [0, 1], [], [], (ra 5), (ra 6), [], (ra 8), [], (ra 10), (ra 11), (ra 12), (ra 13), (ra 14)] hmix (by kernel_rfl) [(6, _), (7, _), (9, _), (10, _), (13, _), (15, _)] Y 8 Y
 refine Stg.go [0, 1, 3, 4, 7, 9] [2] Y Y (qq Y (zqs hT Y Y Y Y hc0) Y (q_ Y (qq Y (zqs hT Y Y Y Y hc1) Y (q_ Y (q_ Y (q_ Y zqz)))))) (ec (lift_learn_at _ _) H Try.call52 Y fun v_2 h0 H => ?_)
 obtain ⟨hc2, H⟩ := H
 apply Stg.next [(8, _)] Y Y
 refine Stg.go [3, 4, 7, 9] [5] Y Y (qq Y (zqs hT Y Y Y Y hc2) Y (q_ Y (q_ Y (q_ Y zqz)))) (ec (lift_learn_at _ _) H Try.call52 Y fun v_3 h1 H => ?_)
 apply Stg.next [(11, _)] Y Y
 refine Stg.go [7, 9] [6] Y Y (q_ Y (q_ Y zqz)) (ec (lift_cmp_Compare_int _ _) H Try.call48 Y fun v_4 h2 H => ?_)
 apply Stg.next [(12, _)] Y Y
 refine Stg.go [7, 9] [8] Y Y (q_ Y (q_ Y zqz)) (ec (lift_learn_truth _) H Try.call49 Y fun v_5 h3 H => ?_)
 apply Stg.next [(14, _)] Y Y
 refine Stg.go [9] [10] Y Y (q_ Y zqz) (ec (lift_learn_truth _) H Try.call49 Y fun v_6 h4 H => ?_)
 apply Stg.next [(16, _)] Y Y
 refine Stg.go [] [11] Y Y zqz (ec (lift_cmp_Compare_int _ _) H Try.call48 Y fun v_7 h5 H => ?_)
 apply Stg.next [(17, _)] Y Y
 refine Stg.go [] [12] Y Y zqz (eo Y (EffX.buildS2 (cs := [_, _]) hT Y Y Y Y Y Y Y Y H) ?_)
 rintro _ _ ⟨a_1, h6, rfl, rfl, H⟩
 apply Stg.next [(18, _)] Y Y
 refine Stg.go [] [13] Y Y zqz (ec (lift_cmp_Or_int _) H Try.call65 Y fun v_9 h7 H => ?_)
 apply Stg.next [(19, _), (5, _)] Y Y
 refine Stg.fin [14] Y Y (q_ Y zqz) (tg (zrt ?_))
 exact r1 5 Y Y Y H
theorem lift_slices_SortFunc_int_int (x : Sl) (cmp : FnV) : Lf Try.prog 46 [Sl.toV x, FnV.toV cmp] (fun _ => Value.tuple #[]) (slices_SortFunc_int_int x cmp) := by
 intro w m hr S H
 obtain ⟨c0, rfl, H⟩ := H
 exact lift_sortP (fun cf hO => sortC46 Try.call64 hO) (fun a b w m hr S h => lift_learn_order_c1 a b c0 w m hr S h) hr H
theorem lift_slices_SortedFunc_int (seq : FnV) (cmp : FnV) : Lf Try.prog 43 [FnV.toV seq, FnV.toV cmp] Sl.toV (slices_SortedFunc_int seq cmp) := by
 refine Lf.go Try.func43 Try.ntmps43 Y Y [0, 1] Y fun w m S H => ?_
 unfold slices_SortedFunc_int at H
 refine sR (p_ 1 Y (ng (sR (p_ 1 Y (lc (lift_slices_Collect_int _) H Try.call62 Y fun v h0 H => p_ 1 Y (ng ?_))))))
 refine sR (p_ 2 Y (lc (lift_slices_SortFunc_int_int _ _) H Try.call46 Y fun v_1 h1 H => ng (sR (p_ 2 Y (ng (zrt ?_))))))
 exact r1 4 Y Y Y H
theorem lift_learn_From_c1 (a : Int) (b : Int) : Lf Try.prog 47 [Value.int .i64 a, Value.int .i64 b] (Value.int .i64) (learn_From_c1 a b) := by
 refine Lf.go Try.func47 Try.ntmps47 Y Y [0, 1] Y fun w m S H => ?_
 unfold learn_From_c1 at H
 refine sR (p_ 1 Y (ng (sR (p_ 1 Y (lc (lift_learn_truth _) H Try.call49 Y fun v h0 H => p_ 1 Y (lc (lift_learn_truth _) H Try.call49 Y fun v_1 h1 H => ?_))))))
 refine lc (lift_cmp_Compare_int _ _) H Try.call48 Y fun v_2 h2 H => p_ 1 Y (ng (zrt ?_))
 exact r1 4 Y Y Y H
theorem lift_slices_SortFunc_int_int__learn_From_c1 (x : Sl) : Lf Try.prog 46 [Sl.toV x, Value.func (.func 47) #[] #[]] (fun _ => Value.tuple #[]) (slices_SortFunc_int_int__learn_From_c1 x) :=
 fun w m hr S H => lift_sortP (fun cf hO => sortC46 Try.call47 hO) (fun a b w m hr S h => lift_learn_From_c1 a b w m hr S h) hr H
theorem lift_maps_Keys_map_int_bool_int_bool (m0 : (Option Nat)) : Lf Try.prog 51 [Value.map m0] FnV.toV (maps_Keys_map_int_bool_int_bool m0) := by
 refine Lf.go Try.func51 Try.ntmps51 Y Y [0] Y fun w m S H => ?_
 unfold maps_Keys_map_int_bool_int_bool at H
 refine sR (zle Y (EffX.box (cs := [_]) Y Y Y H) ?_)
 rintro _ _ ⟨m0u1, h0, rfl, rfl, H⟩
 refine p_ 1 Y (ng (sR (zlq Y (Quiet1.makeFn (bs := []) (cs := [_]) Y Y Y) (p_ 1 Y (ng (zrt ?_))))))
 exact r1 2 Y Y Y H
theorem lift_slices_Sort_int_int (x : Sl) : Lf Try.prog 69 [Sl.toV x] (fun _ => Value.tuple #[]) (slices_Sort_int_int x) := fun w m hr S H => lift_sortI sortI69 hr H
theorem lift_slices_Sorted_int (seq : FnV) : Lf Try.prog 50 [FnV.toV seq] Sl.toV (slices_Sorted_int seq) := by
 refine Lf.go Try.func50 Try.ntmps50 Y Y [0] Y fun w m S H => ?_
 unfold slices_Sorted_int at H
 refine sR (p_ 1 Y (ng (sR (p_ 1 Y (lc (lift_slices_Collect_int _) H Try.call62 Y fun v h0 H => p_ 1 Y (ng ?_))))))
 refine sR (p_ 1 Y (lc (lift_slices_Sort_int_int _) H Try.call69 Y fun v_1 h1 H => ng (sR (p_ 2 Y (ng (zrt ?_))))))
 exact r1 2 Y Y Y H
theorem lift_learn_From (s0 : Sl × Sl × Sl × Sl × Sl × Sl × Sl × Int) (lits : Sl) : Lf Try.prog 17 [Value.agg (C_sl_sl_sl_sl_sl_sl_sl_i64 s0).toArray, Sl.toV lits] (fun r => Value.tuple #[(fun r => Value.agg (C_sl_i64usl r).toArray) r.1, (Value.int .i64) r.2]) (learn_From s0 lits) := by
 refine Lf.go Try.func17 Try.ntmps17 Y Y [0, 1] Y fun w m S H => ?_
 unfold learn_From at H
 refine sR (bx [_, _, _, _, _, _, _, _] H Y Y Y Y fun b _ H => al hT [_, _, _] H Y Y Y fun b_1 _ H => p_ 1 Y (ng (zcs (sR (zlq Y (s_ 1 [_, _, _, _, _, _, _, _] Y) ?_)))))
 refine p_ 1 Y (lc (lift_learn_ready _ _) H.self Try.call40 Y fun v h1 H => p_ 1 Y (ng ?_))
 refine zcb H Y (fun H => ?_) (fun H => ?_)
 refine sR (zlq Y (zqb (cs := [_, _, _]) hT Y Y Y Y Y Y) (sp hT 0 [(_, [_, _, _]), (_, [_, _, _, _, _, _, _, _])] Y Y Y Y Y Y Y Y Y Y Y fun _ => p_ 1 Y (ng (zrt (ztr ?_)))))
 exact AtE.retN (rs := [.cell 4 45, .tmp 5]) Y (ResAll.cons (ResAt.cellSP (i := 0) (l := [_, _, _]) hT Y Y Y Y Y Y Y) (ResAll.cons (ResAt.tmp Y) ResAll.nil)) Y H
 refine zsk (tg (sR (zlq Y (s_ 1 [_, _, _, _, _, _, _, _] Y) (zle Y (EffX.newM Y H) ?_))))
 rintro _ _ ⟨v_1, h2, rfl, rfl, H⟩
 refine zle Y (EffX.newM Y H) ?_
 rintro _ _ ⟨v_2, h3, rfl, rfl, H⟩
 refine zlq Y (zqb (cs := [Sl.toV s0.1, Sl.toV s0.2.1, Sl.toV s0.2.2.1, Sl.toV s0.2.2.2.1, Sl.toV s0.2.2.2.2.1, Sl.toV s0.2.2.2.2.2.1, Sl.toV s0.2.2.2.2.2.2.1, Value.int .i64 s0.2.2.2.2.2.2.2, Value.map v_1, Value.map v_2, Value.int .i64 0]) hT Y Y Y Y Y (by kernel_rfl)) (zle Y (EffX.box (cs := [_, _, _, _, _, _, _, _, _, _, _]) Y Y Y H) ?_)
 rintro _ _ ⟨a, h4, rfl, rfl, H⟩
 refine p_ 1 Y (ng (zcs (sR (p_ 3 Y (ng (zck ?_))))))
 refine AtC.loopM (fun (s0u1 : Int) => [(22, Value.int .i64 s0u1)]) (fun (s0u1 : Int) => []) [2, 4, 6, 20, 21] [22, 2, 4, 6, 20, 21] [0, 1] [0, 1] H Y Y Y (by decide) Y (fun Kp1 s0u1 h5 H Q1 HK1 => ?_)
 refine sR (p_ 1 Y (ng (zcs ?_)))
 refine zcb H Y (fun H => ?_) (fun H => ?_)
 refine zsk (tg (zcs (zck (sR (ix hT H Y Y Y Y Y Y fun _ H => ld hT H Y Y Y Y fun _ H => p_ 1 Y ?_)))))
 refine ng (zrg (p_ 2 Y (lc (lift_learn_work_put _ _) H Try.call41 Y fun v_4 h6 H => znl (zbn (tg (zrg ?_))))))
 refine p_ 2 Y (znl ?_)
 exact pko (HK1 _ _ H) [22, 2, 4, 6, 20, 21] [0, 1] Y
 refine zxt (ztx (ztx (zbh (tg (zcs (sR (p_ 1 Y ?_)))))))
 refine lc (lift_learn_work_resolve _) H Try.call42 Y fun v_5 h7 H => p_ 1 Y (ng ?_)
 refine zcb H Y (fun H => ?_) (fun H => ?_)
 refine sR (zlq Y (zqb (cs := [_, _, _]) hT Y Y Y Y Y Y) (sp hT 0 [(_, [_, _, _]), (_, [_, _, _, _, _, _, _, _])] Y Y Y Y Y Y Y Y Y Y Y fun _ => p_ 1 Y (ng (zrt (ztr ?_)))))
 exact AtE.retN (rs := [.cell 4 45, .tmp 5]) Y (ResAll.cons (ResAt.cellSP (i := 0) (l := [_, _, _]) hT Y Y Y Y Y Y Y) (ResAll.cons (ResAt.tmp Y) ResAll.nil)) Y H
 refine zsk (tg ?_)
 obtain ⟨v_6, hc3, H⟩ := H
 apply AtC.seqS [4, 6, 7] [[], [], [], [], [], [], [4], [4, 6], [4, 6, 7]] [[], [0], [0, 1], [0, 1, 2], [0, 1, 2, 3], [], (ra 6), (ra 7), (ra 8)] hmix (by kernel_rfl) (nm 34 [_, _, _, _] ++ [(39, _)]) Y 3 Y
 refine Stg.go [0, 1, 2, 3, 5] [4] Y Y (q_ Y (qq Y (zqc Y Y Y) Y (q_ Y (qq Y (zql hT Y Y Y hc3) Y (qq Y (s_ 1 [_, _, _, _, _, _, _, _] Y) Y zqz))))) (ec (lift_maps_Values_map_int_int_int_int _) H Try.call44 Y fun v_7 h8 H => ?_)
 apply Stg.next [(38, _)] Y Y
 refine Stg.go [5] [6] Y Y (qq Y (s_ 1 [_, _, _, _, _, _, _, _] Y) Y zqz) (ec (lift_learn_order _) H Try.call45 Y fun v_8 h9 H => ?_)
 apply Stg.next [(40, _)] Y Y
 refine Stg.go [] [7] Y Y zqz (ec (lift_slices_SortedFunc_int _ _) H Try.call43 Y fun v_9 h10 H => ?_)
 apply Stg.next [(41, _), (9, _)] Y Y
 refine Stg.fin [8] Y Y (q_ Y zqz) (tg ?_)
 refine AtC.joinSeq (β := Unit) (fun (t0 : Unit) (bb : Unit) => []) (fun (t0 : Unit) (bb : Unit) => []) [2, 4, 6, 9] [0, 1] H Y Y (fun t0 bb h11 H => ?_) (fun J5 H HK5 => ?_)
 obtain ⟨v_12, hs6, H⟩ := sliceOf.out H
 obtain ⟨v_13, hc7, H⟩ := H
 apply AtC.seqS [4, 9, 10, 12] (rl [([], 9), ([4], 1), ([4, 9], 1), ([4, 9, 10], 2), ([4, 9, 10, 12], 1)]) [[], [], [], [2], [1, 2, 3], [], [5], [5, 6], [5, 6, 7], [1, 2, 3, 4, 5, 6, 7, 8], [1, 2, 3, 4, 5, 6, 7, 8, 9], (ra 11), (ra 12), (ra 13)] hmix (by kernel_rfl) (nm 48 [_, _, _, _] ++ nm 53 [_, _, _, _]) Y 4 Y
 refine Stg.go [0, 1, 2, 3, 5, 6, 7, 8] [4] Y Y (q_ Y (qq Y (s_ 1 [_, _, _, _, _, _, _, _] Y) Y (q_ Y (qq Y (Quiet1.sliceIs hT Y Y Y Y Y Y Y (fun h => by cases h <;> rfl) hs6) Y (q_ Y (qq Y (zqc Y Y Y) Y (q_ Y (qq Y (zql hT Y Y Y hc7) Y zqz)))))))) (ec (lift_learn_Level _ _) H Try.call19 Y fun v_14 h13 H => ?_)
 obtain ⟨hc8, H⟩ := H
 apply Stg.next [(52, _)] Y Y
 refine Stg.go [0, 5, 6, 7, 8] [9] Y Y (q_ Y (q_ Y (qq Y (zqc Y Y Y) Y (q_ Y (qq Y (zql hT Y Y Y hc8) Y zqz))))) (ec (lift_maps_Keys_map_int_bool_int_bool _) H Try.call51 Y fun v_15 h14 H => ?_)
 apply Stg.next [(57, _)] Y Y
 refine Stg.go [0] [10] Y Y (q_ Y zqz) (ec (lift_slices_Sorted_int _) H Try.call50 Y fun v_16 h15 H => ?_)
 apply Stg.next [(58, _), (59, _)] Y Y
 refine Stg.go [0, 11] [12] Y Y (q_ Y (qq Y (zqb (cs := [_, _, _]) hT Y Y Y Y Y Y) Y zqz)) (eo Y (zes (i := 0) (qv := [(_, [_, _, _]), (_, [_, _, _, _, _, _, _, _])]) hT Y Y Y Y Y Y Y Y Y Y) ?_)
 rintro _ _ rfl
 apply Stg.next [(5, _)] Y Y
 refine Stg.fin [13] Y Y (q_ Y zqz) (tg (zrt ?_))
 exact AtE.retN (rs := [.cell 4 45, .tmp 5]) Y (ResAll.cons (ResAt.cellSP (i := 0) (l := [_, _, _]) hT Y Y Y Y Y Y Y) (ResAll.cons (ResAt.tmp Y) ResAll.nil)) Y H
 refine sR (p_ 3 Y (ng ?_))
 refine zcb H Y (fun H => ?_) (fun H => ?_)
 refine zrg (p_ 1 Y ?_)
 refine AtL.sl (hT := hT) H Y Y Y Y Y Y Y (fun h => by cases h <;> rfl) Y (fun v_10 H => ?_)
 refine lc (lift_slices_SortFunc_int_int__learn_From_c1 _) H Try.call46 Y fun v_11 h12 H => znl ?_
 exact pko (HK5 _ () _ H) [2, 4, 6, 9] [0, 1] Y
 refine zsk ?_
 exact pko (HK5 _ () _ H) [2, 4, 6, 9] [0, 1] Y
theorem lift_ref18uSameInts (a : Sl) (b : Sl) : Lf Try.prog 10 [Sl.toV a, Sl.toV b] Value.bool (ref18uSameInts a b) := by
 refine Lf.go Try.func10 Try.ntmps10 Y Y [0, 1] Y fun w m S H => ?_
 unfold ref18uSameInts at H
 refine sR (p_ 1 Y (ng (zcs (sR (p_ 5 Y (ng ?_))))))
 refine zcb H Y (fun H => ?_) (fun H => ?_)
 refine sR (p_ 1 Y (ng (zrt (ztr ?_))))
 exact r1 4 Y Y Y H
 refine zsk (tg (zcs (sR (p_ 1 Y (ng (zck ?_))))))
 refine AtC.loopM (fun (s0 : Int) => [(5, Value.int .i64 s0)]) (fun (s0 : Int) => []) [0, 1] [5, 0, 1] [] [] H Y Y Y (by decide) Y (fun Kp1 s0 h0 H Q1 HK1 => ?_)
 refine zcs (sR (p_ 4 Y (ng ?_)))
 refine zcb H Y (fun H => ?_) (fun H => ?_)
 refine zsk (tg (zcs (zck (AtC.seqD hmix (by kernel_rfl) (AtD.pures hT 2 _ _ _ _ Y ?_)))))
 obtain ⟨a_1_, hc1, hd1, H⟩ := H
 refine AtD.q Y (zqi hT Y Y Y Y Y hc1 hd1) ?_
 obtain ⟨v, hc2, H⟩ := H
 refine AtD.q Y (zql hT Y Y Y hc2) (AtD.pures hT 2 _ _ _ _ Y ?_)
 obtain ⟨a_2_, hc3, hd3, H⟩ := H
 refine AtD.q Y (zqi hT Y Y Y Y Y hc3 hd3) ?_
 obtain ⟨v_1, hc4, H⟩ := H
 refine AtD.q Y (zql hT Y Y Y hc4) (AtD.pures hT 1 _ _ _ _ Y (AtD.nil (tg ?_)))
 refine zcb H Y (fun H => ?_) (fun H => ?_)
 refine sR (p_ 1 Y (ng (zrt (zbr (ztr (ztr (zbr ?_)))))))
 refine ztr ?_
 exact r1 4 Y Y Y H
 refine zsk (zbn (tg (zrg (p_ 3 Y (znl ?_)))))
 exact pko (HK1 _ _ (H _ rfl)) [5, 0, 1] [] Y
 refine zxt (ztx (ztx (zbh (tg (sR (p_ 1 Y (ng ?_)))))))
 refine zrt ?_
 exact r1 4 Y Y Y H
theorem lift_law19uspeaks : Lf Try.prog 15 [] Value.bool (law19uspeaks) := by
 refine Lf.go Try.func15 Try.ntmps15 Y Y [] Y fun w m S H => ?_
 unfold law19uspeaks at H
 refine sR (p_ 1 Y (ng (sR (lc (lift_clause_New _) H Try.call21 Y fun v h0 H => zle Y (EffX.alloc hT Y Y H) ?_))))
 rintro _ _ ⟨s0, h1, rfl, rfl, H⟩
 refine zle Y (EffX.storeS hT Y Y Y Y Y Y H) ?_
 rintro _ _ ⟨h2, rfl, H⟩
 refine ng (sR ?_)
 refine AtLX.bs (hT := hT) (cs := [_, _]) H Y Y Y Y Y Y Y Y Y (fun a h3 H => ?_)
 refine lc (lift_clause_Add _ _ _) H Try.call22 Y fun v_2 h4 H => ng (sR (lc (lift_clause_Decide _ _) H Try.call12 Y fun v_3 h5 H => ng (sR (lc (lift_clause_Run _) H Try.call14 Y fun v_4 h6 H => ng ?_))))
 refine sR (lc (lift_clause_Decide _ _) H Try.call12 Y fun v_5 h7 H => ng (sR (lc (lift_clause_Run _) H Try.call14 Y fun v_6 h8 H => ng (sR (lds hT H Y Y Y Y Y fun _ H => ?_)))))
 refine AtLX.bs (hT := hT) (cs := [_, _, _]) H Y Y Y Y Y Y Y Y Y (fun a_1 h9 H => ?_)
 refine lc (lift_learn_From _ _) H Try.call17 Y fun v_9 h10 H => p_ 3 Y (al hT [_, _, _] H Y Y Y fun b _ H => sp hT 0 [(_, [_, _, _])] Y Y Y Y Y Y Y Y Y Y Y fun _ => p_ 1 Y (ng (sR (lds hT H.self Y Y Y Y Y fun _ H => ?_))))
 refine lc (lift_learn_From _ _) H Try.call17 Y fun v_11 h12 H => p_ 3 Y (al hT [_, _, _] H Y Y Y fun b_1 _ H => sp hT 0 [(_, [_, _, _]), (_, [_, _, _])] Y Y Y Y Y Y Y Y Y Y Y fun _ => p_ 1 Y (ng ?_))
 refine AtC.joinSeq (β := Unit) (fun (t0 : Bool) (bb : Unit) => [(0, Value.bool t0)]) (fun (t0 : Bool) (bb : Unit) => []) [] [] H.self Y Y (fun t0 bb h14 H => ?_) (fun J3 H HK3 => ?_)
 refine zrt ?_
 exact r1 0 Y Y Y H
 refine zrg (p_ 3 Y ?_)
 refine AtL.splitB (t := 26) H Y (fun H => ?_) (fun H => ?_)
 refine p_ 3 Y (zlq Y (l_ 1 Y) (p_ 1 Y ?_))
 refine AtLX.bs (hT := hT) (cs := [_, _]) H Y Y Y Y Y Y Y Y Y (fun a_2 h15 H => ?_)
 refine p_ 1 Y (lc (lift_ref18uSameInts _ _) H Try.call10 Y fun v_13 h16 H => p_ 2 Y ?_)
 refine AtL.splitB (t := 32) H Y (fun H => ?_) (fun H => ?_)
 refine p_ 3 Y (zlq Y (l_ 1 Y) (p_ 4 Y ?_))
 refine AtL.splitB (t := 37) H Y (fun H => ?_) (fun H => ?_)
 refine p_ 6 Y (znl ?_)
 exact pko (HK3 _ () _ H) [0] [] Y
 refine p_ 4 Y (znl ?_)
 exact pko (HK3 _ () _ H) [0] [] Y
 refine p_ 9 Y (znl ?_)
 exact pko (HK3 _ () _ H) [0] [] Y
 refine p_ 15 Y (znl ?_)
 exact pko (HK3 _ () _ H) [0] [] Y
theorem lift_law18uGreat (list : Sl) : Lf Try.prog 7 [Sl.toV list] Value.bool (law18uGreat list) := by
 refine Lf.go Try.func7 Try.ntmps7 Y Y [0] Y fun w m S H => ?_
 unfold law18uGreat at H
 refine sR (p_ 1 Y (ng (zcs (sR (p_ 3 Y (ng ?_))))))
 refine zcb H Y (fun H => ?_) (fun H => ?_)
 refine sR (p_ 1 Y (ng (zrt (ztr ?_))))
 exact r1 2 Y Y Y H
 refine zsk (tg (zcs (sR (p_ 3 Y (ng (zck ?_))))))
 refine AtC.loopM (fun (s0 : Int) => [(10, Value.int .i64 s0)]) (fun (s0 : Int) => []) [8, 9] [10, 8, 9] [] [] H Y Y Y (by decide) Y (fun Kp1 s0 h0 H Q1 HK1 => ?_)
 refine sR (p_ 1 Y (ng (zcs ?_)))
 refine zcb H Y (fun H => ?_) (fun H => ?_)
 refine zsk (tg (zcs (zck (sR (ix hT H Y Y Y Y Y Y fun _ H => ld hT H Y Y Y Y fun _ H => p_ 1 Y ?_)))))
 refine ng (sR (p_ 3 Y (ng ?_)))
 refine zcb H Y (fun H => ?_) (fun H => ?_)
 refine sR (p_ 1 Y (ng (zrt (zbr (ztr (ztr (zbr ?_)))))))
 refine ztr ?_
 exact r1 2 Y Y Y H
 refine zsk (zbn (tg (zrg (p_ 2 Y (znl ?_)))))
 exact pko (HK1 _ _ H) [10, 8, 9] [] Y
 refine zxt (ztx (ztx (zbh (tg (sR (p_ 1 Y (ng ?_)))))))
 refine zrt ?_
 exact r1 2 Y Y Y H
theorem lift_ref18uThere (n : Int) (lit : Int) : Lf Try.prog 33 [Value.int .i64 n, Value.int .i64 lit] Value.bool (ref18uThere n lit) := by
 refine Lf.go Try.func33 Try.ntmps33 Y Y [0, 1] Y fun w m S H => ?_
 unfold ref18uThere at H
 refine sR (p_ 1 Y (ng ?_))
 refine AtC.joinSeq (β := Unit) (fun (t0 : Bool) (bb : Unit) => [(4, Value.bool t0)]) (fun (t0 : Bool) (bb : Unit) => []) [] [] H Y Y (fun t0 bb h0 H => ?_) (fun J1 H HK1 => ?_)
 refine zrt ?_
 exact r1 4 Y Y Y H
 refine zrg (p_ 3 Y ?_)
 refine AtL.splitB (t := 7) H Y (fun H => ?_) (fun H => ?_)
 refine p_ 8 Y ?_
 refine AtL.splitB (t := 12) H Y (fun H => ?_) (fun H => ?_)
 refine p_ 3 Y (AtL.noU Y Y Y Y (AtL.noU Y Y Y Y (AtL.noU Y Y Y Y (AtL.noU Y Y Y Y (p_ 3 Y (znl ?_))))))
 exact pko (HK1 _ () _ H) [4] [] Y
 refine p_ 6 Y ?_
 refine AtL.splitB (t := 15) H Y (fun H => ?_) (fun H => ?_)
 refine p_ 12 Y (znl ?_)
 exact pko (HK1 _ () _ H) [4] [] Y
 refine p_ 8 Y (znl ?_)
 exact pko (HK1 _ () _ H) [4] [] Y
 refine p_ 11 Y ?_
 refine AtL.splitB (t := 15) H Y (fun H => ?_) (fun H => ?_)
 refine p_ 12 Y (znl ?_)
 exact pko (HK1 _ () _ H) [4] [] Y
 refine p_ 8 Y (znl ?_)
 exact pko (HK1 _ () _ H) [4] [] Y
theorem lift_ref18uTruth (lit : Int) : Lf Try.prog 25 [Value.int .i64 lit] (Value.int .i64) (ref18uTruth lit) := by
 refine Lf.go Try.func25 Try.ntmps25 Y Y [0] Y fun w m S H => ?_
 unfold ref18uTruth at H
 refine sR (p_ 1 Y (ng (zcs (sR (p_ 2 Y (ng ?_))))))
 refine zcb H Y (fun H => ?_) (fun H => ?_)
 refine sR (p_ 4 Y (ng (zrt (ztr ?_))))
 exact r1 2 Y Y Y H
 refine zsk (tg (sR (p_ 3 Y (ng (zrt ?_)))))
 exact r1 2 Y Y Y H
theorem lift_ref18uSign (lit : Int) : Lf Try.prog 24 [Value.int .i64 lit] (Value.int .i64) (ref18uSign lit) := by
 refine Lf.go Try.func24 Try.ntmps24 Y Y [0] Y fun w m S H => ?_
 unfold ref18uSign at H
 refine sR (p_ 1 Y (ng (zcs (sR (p_ 2 Y (ng ?_))))))
 refine zcb H Y (fun H => ?_) (fun H => ?_)
 refine sR (p_ 1 Y (ng (zrt (ztr ?_))))
 exact r1 2 Y Y Y H
 refine zsk (tg (sR (p_ 1 Y (ng (zrt ?_)))))
 exact r1 2 Y Y Y H
theorem lift_ref18uValue (value : Sl) (lit : Int) : Lf Try.prog 34 [Sl.toV value, Value.int .i64 lit] (Value.int .i64) (ref18uValue value lit) := by
 refine Lf.go Try.func34 Try.ntmps34 Y Y [0, 1] Y fun w m S H => ?_
 unfold ref18uValue at H
 refine sR (p_ 1 Y (ng (zcs (sR (p_ 3 Y (lc (lift_ref18uThere _ _) H Try.call33 Y fun v h0 H => p_ 1 Y ?_))))))
 refine ng ?_
 refine zcb H Y (fun H => ?_) (fun H => ?_)
 refine sR (p_ 1 Y (ng (zrt (ztr ?_))))
 exact r1 4 Y Y Y H
 refine zsk (tg ?_)
 apply AtC.seqS [2, 6] [[], [], [], [2], [2], [], [2], [2, 6], [2, 6]] [[], [], [1], [0, 1, 2], [0, 1, 2, 3], [], [1, 2, 5], (ra 7), (ra 8)] hmix (by kernel_rfl) [(10, _), (11, _), (15, _)] Y 2 Y
 refine Stg.go [0, 1, 5] [2] Y Y (q_ Y (q_ Y (q_ Y zqz))) (ec (lift_ref18uTruth _) H Try.call25 Y fun v_1 h1 H => ?_)
 obtain ⟨a_, hc0, hd0, H⟩ := H
 obtain ⟨v_2, hc1, H⟩ := H
 apply Stg.next (nm 12 [_, _, _]) Y Y
 refine Stg.go [0, 3, 4, 5] [6] Y Y (q_ Y (qq Y (zqi hT Y Y Y Y Y hc0 hd0) Y (qq Y (zql hT Y Y Y hc1) Y (q_ Y zqz)))) (ec (lift_ref18uSign _) H Try.call24 Y fun v_3 h2 H => ?_)
 obtain ⟨hc2, H⟩ := H
 apply Stg.next [(16, _), (17, _), (4, _)] Y Y
 refine Stg.fin [0, 3, 4, 7, 8] Y Y (q_ Y (qq Y (zqi hT Y Y Y Y Y hc0 hd0) Y (qq Y (zql hT Y Y Y hc2) Y (q_ Y (q_ Y zqz))))) (tg (zrt ?_))
 exact r1 4 Y Y Y H
theorem lift_ref18uFalse (value : Sl) (lits : Sl) : Lf Try.prog 23 [Sl.toV value, Sl.toV lits] Value.bool (ref18uFalse value lits) := by
 refine Lf.go Try.func23 Try.ntmps23 Y Y [0, 1] Y fun w m S H => ?_
 unfold ref18uFalse at H
 refine sR (p_ 1 Y (ng (zcs (sR (p_ 1 Y (ng (zck ?_)))))))
 refine AtC.loopM (fun (s0 : Int) => [(5, Value.int .i64 s0)]) (fun (s0 : Int) => []) [0, 1] [5, 0, 1] [] [] H Y Y Y (by decide) Y (fun Kp1 s0 h0 H Q1 HK1 => ?_)
 refine zcs (sR (p_ 4 Y (ng ?_)))
 refine zcb H Y (fun H => ?_) (fun H => ?_)
 refine zsk (tg (zcs (zck (sR (p_ 3 Y (ix hT H Y Y Y Y Y Y fun _ H => ld hT H Y Y Y Y fun _ H => ?_))))))
 refine lc (lift_ref18uValue _ _) H Try.call34 Y fun v_1 h1 H => p_ 1 Y (ng ?_)
 refine zcb H Y (fun H => ?_) (fun H => ?_)
 refine sR (p_ 1 Y (ng (zrt (zbr (ztr (ztr (zbr ?_)))))))
 refine ztr ?_
 exact r1 4 Y Y Y H
 refine zsk (zbn (tg (zrg (p_ 3 Y (znl ?_)))))
 exact pko (HK1 _ _ (H _ rfl)) [5, 0, 1] [] Y
 refine zxt (ztx (ztx (zbh (tg (sR (p_ 1 Y (ng ?_)))))))
 refine zrt ?_
 exact r1 4 Y Y Y H
theorem lift_ref18uClose (value : Sl) (clauses : Sl) : Lf Try.prog 13 [Sl.toV value, Sl.toV clauses] (fun r => Value.tuple #[Sl.toV r.1, Value.bool r.2]) (ref18uClose value clauses) := by
 refine Lf.go Try.func13 Try.ntmps13 Y Y [0, 1] Y fun w m S H => ?_
 unfold ref18uClose at H
 refine sR (p_ 2 Y (ng (sR ?_)))
 refine AtLX.bs (hT := hT) (cs := []) H Y Y Y Y Y Y Y Y Y (fun a h0 H => ?_)
 refine p_ 1 Y (zle Y (EffX.appendS (s := _) (u := _) hT Y Y Y Y Y Y Y Y Y Y (by decide) H) ?_)
 rintro _ _ ⟨v_1, h1, rfl, rfl, H⟩
 refine p_ 1 Y (ng (sR (p_ 1 Y (ng (zcs (zck ?_))))))
 refine AtC.loopM (fun (s0 : Bool) => [(7, Value.bool s0)]) (fun (s0 : Bool) => []) [1, 6] [7, 1, 6] [] [] H Y Y Y (by decide) Y (fun Kp1 s0 h2 H Q1 HK1 => ?_)
 refine zcs (sR (p_ 1 Y (ng ?_)))
 refine zcb H Y (fun H => ?_) (fun H => ?_)
 refine zsk (tg (zck (sR (p_ 1 Y (ng (sR (p_ 1 Y ?_)))))))
 refine ng (zck ?_)
 refine AtC.loopM (fun (s0u1 : Bool × Int) => [(7, Value.bool s0u1.1), (8, Value.int .i64 s0u1.2)]) (fun (s0u1 : Bool × Int) => []) [1, 6] [7, 8, 1, 6] [] [] H Y Y Y (by decide) Y (fun Kp2 s0u1 h3 H Q2 HK2 => ?_)
 refine zcs (sR (p_ 4 Y (ng ?_)))
 refine zcb H Y (fun H => ?_) (fun H => ?_)
 refine zsk (tg ?_)
 refine AtC.joinSeq (β := Unit) (fun (t0 : Bool) (bb : Unit) => [(7, Value.bool t0)]) (fun (t0 : Bool) (bb : Unit) => []) [1, 6, 8] [] H Y Y (fun t0 bb h4 H => ?_) (fun J3 H HK3 => ?_)
 refine zrg (p_ 3 Y (znl ?_))
 exact pko (HK2 _ _ (H _ rfl)) [7, 8, 1, 6] [] Y
 refine zck (sR (p_ 3 Y (ng (zcs (sR (p_ 1 Y (ng ?_)))))))
 refine zck ?_
 refine AtC.loopM (fun (s0u2 : Int × Int × Bool × Int) => [(9, Value.int .i64 s0u2.1), (10, Value.int .i64 s0u2.2.1), (11, Value.bool s0u2.2.2.1), (12, Value.int .i64 s0u2.2.2.2)]) (fun (s0u2 : Int × Int × Bool × Int) => []) [1, 6, 7, 8] [9, 10, 11, 12, 1, 6, 7, 8] [] [] H Y Y Y (by decide) Y (fun Kp4 s0u2 h5 H Q4 HK4 => ?_)
 refine zcs (sR (p_ 3 Y (ix hT H Y Y Y Y Y Y fun _ H => p_ 1 Y (ld hT H Y Y Y Y fun _ H => p_ 2 Y (ng ?_)))))
 refine zcb H Y (fun H => ?_) (fun H => ?_)
 refine zsk (tg ?_)
 refine AtC.joinSeq (β := Unit) (fun (t0u1 : Int × Int × Bool) (bb_1 : Unit) => [(9, Value.int .i64 t0u1.1), (10, Value.int .i64 t0u1.2.1), (11, Value.bool t0u1.2.2)]) (fun (t0u1 : Int × Int × Bool) (bb_1 : Unit) => []) [1, 6, 7, 8, 12] [] H Y Y (fun t0u1 bb_1 h6 H => ?_) (fun J7 H HK7 => ?_)
 refine zrg (p_ 3 Y (znl ?_))
 exact pko (HK4 _ _ (H _ rfl)) [9, 10, 11, 12, 1, 6, 7, 8] [] Y
 refine zck (sR (p_ 2 Y (ix hT H Y Y Y Y Y Y fun _ H => p_ 1 Y (ld hT H Y Y Y Y fun _ H => p_ 1 Y (ix hT H Y Y Y Y Y Y fun _ H => ?_)))))
 refine ld hT H Y Y Y Y fun _ H => p_ 1 Y (ng (sR (p_ 2 Y (lc (lift_ref18uValue _ _) H Try.call34 Y fun v_5 h7 H => p_ 1 Y (ng ?_)))))
 refine AtC.joinSeq (β := Unit) (fun (t0u2 : Bool) (bb_2 : Unit) => [(11, Value.bool t0u2)]) (fun (t0u2 : Bool) (bb_2 : Unit) => []) [1, 6, 7, 8, 9, 10, 12, 13, 14] [] H Y Y (fun t0u2 bb_2 h8 H => ?_) (fun J12 H HK12 => ?_)
 refine sR (p_ 2 Y (ng ?_))
 refine zcb H Y (fun H => ?_) (fun H => ?_)
 refine sR (p_ 3 Y (ng (zrg (p_ 2 Y (znl (zbn ?_))))))
 exact pko (HK7 _ () _ (H _ rfl)) [9, 10, 11, 1, 6, 7, 8, 12] [] Y
 refine zsk (zbn ?_)
 exact pko (HK7 _ () _ H) [9, 10, 11, 1, 6, 7, 8, 12] [] Y
 refine sR (p_ 2 Y (ng ?_))
 refine zcb H Y (fun H => ?_) (fun H => ?_)
 refine zrg (p_ 1 Y (znl ?_))
 exact pko (HK12 _ () _ H) [11, 1, 6, 7, 8, 9, 10, 12, 13, 14] [] Y
 refine zsk ?_
 exact pko (HK12 _ () _ H) [11, 1, 6, 7, 8, 9, 10, 12, 13, 14] [] Y
 refine zxt (ztx (ztx (zbh (tg (zcs ?_)))))
 refine AtC.joinSeq (β := Unit) (fun (t0u3 : Bool) (bb_3 : Unit) => [(57, Value.bool t0u3)]) (fun (t0u3 : Bool) (bb_3 : Unit) => []) [1, 6, 7, 8, 9, 10] [] H Y Y (fun t0u3 bb_3 h9 H => ?_) (fun J13 H HK13 => ?_)
 refine zcb H Y (fun H => ?_) (fun H => ?_)
 refine zxt (ztx (zbh ?_))
 exact pko (HK3 _ () _ H) [7, 1, 6, 8] [] Y
 refine zsk (tg (zcs (sR (p_ 2 Y (ng ?_)))))
 refine zcb H Y (fun H => ?_) (fun H => ?_)
 refine sR (p_ 3 Y (ng (zrt (ztr (zbr (ztr (ztr ?_)))))))
 refine zbr (zbr (ztr (zbr (ztr ?_))))
 exact AtE.retN (rs := [.tmp 4, .tmp 5]) Y (ResAll.cons (ResAt.tmp Y) (ResAll.cons (ResAt.tmp Y) ResAll.nil)) Y H
 refine zsk (tg (sR (p_ 2 Y (lc (lift_ref18uTruth _) H Try.call25 Y fun v_6 h10 H => p_ 1 Y (lc (lift_ref18uSign _) H Try.call24 Y fun v_7 h11 H => ix hT H Y Y Y Y Y Y fun _ H => ?_)))))
 refine zle Y (EffX.store hT Y Y Y Y Y H) ?_
 rintro _ _ ⟨h12, rfl, H⟩
 refine ng (zrg (p_ 1 Y (znl (zbn ?_))))
 exact pko (HK3 _ () _ H) [7, 1, 6, 8] [] Y
 refine zrg (p_ 2 Y ?_)
 refine AtL.splitB (t := 54) H Y (fun H => ?_) (fun H => ?_)
 refine p_ 3 Y (znl ?_)
 exact pko (HK13 _ () _ H) [57, 1, 6, 7, 8, 9, 10] [] Y
 refine p_ 5 Y (znl ?_)
 exact pko (HK13 _ () _ H) [57, 1, 6, 7, 8, 9, 10] [] Y
 refine zxt (ztx (ztx (zbh (zbn ?_))))
 exact pko (HK1 _ _ H) [7, 1, 6] [] Y
 refine zxt (ztx (ztx (zbh (tg (sR (p_ 3 Y (ng ?_)))))))
 refine zrt ?_
 exact AtE.retN (rs := [.tmp 4, .tmp 5]) Y (ResAll.cons (ResAt.tmp Y) (ResAll.cons (ResAt.tmp Y) ResAll.nil)) Y H
theorem lift_clause_Back (s0 : (Option Addr)) (level : Int) : Lf Try.prog 26 [Value.pointer s0, Value.int .i64 level] Sl.toV (clause_Back s0 level) := by
 refine Lf.goM Try.func26 Try.ntmps26 Y Y [0, 1] Y fun w m S H => ?_
 unfold clause_Back at H
 refine sR (zle Y (EffX.box (cs := [_]) Y Y Y H) ?_)
 rintro _ _ ⟨s0u1, h0, rfl, rfl, H⟩
 refine zle Y (EffX.alloc hT Y Y H) ?_
 rintro _ _ ⟨out, h1, rfl, rfl, H⟩
 refine ng (sR (p_ 3 Y (ng (zcs (sR (p_ 1 Y ?_))))))
 obtain ⟨v, hc0, H⟩ := (H _ rfl)
 refine zlq Y (zql hT Y Y Y hc0) (nk H Y Y Y fun _ H => p_ 1 Y (ld hT H Y Y Y Y fun _ H => p_ 2 Y (ng ?_)))
 refine zcb H Y (fun H => ?_) (fun H => ?_)
 refine sR (zle Y (EffX.store hT Y Y Y Y Y H) ?_)
 rintro _ _ ⟨h2, rfl, H⟩
 refine ng (zrt (ztr ?_))
 obtain ⟨r, hc0, H⟩ := H
 exact AtE.retP (rs := [.cell 4 23]) Y (ResAll.cons (ResAt.cell hT Y Y hc0) ResAll.nil) Y H
 refine zsk (tg (sR (ld hT H Y Y Y Y fun _ H => nk H Y Y Y fun _ H => p_ 1 Y (ld hT H Y Y Y Y fun _ H => p_ 1 Y ?_))))
 refine ix hT H Y Y Y Y Y Y fun _ H => ld hT H Y Y Y Y fun _ H => p_ 1 Y (ng (zcs (sR (ld hT H Y Y Y Y fun _ H => nk H Y Y Y fun _ H => ?_))))
 refine p_ 1 Y (ld hT H Y Y Y Y fun _ H => p_ 1 Y ?_)
 refine AtL.sl (hT := hT) H Y Y Y Y Y Y Y (fun h => by cases h <;> rfl) Y (fun v_7 H => ?_)
 refine lc (lift_slices_Backward_int_int _) H Try.call55 Y fun v_8 h3 H => ng (zck ?_)
 obtain ⟨c0, hv13, H⟩ := H
 subst hv13
 refine AtC.range back_71 (c0 := c0) Y Try.call71 H (by decide) (by decide) (fun l13 i x0 h5 K0 H B2u13 => ?_) (fun h6 H B4 D0 hlnk => ?_)
 refine zrg (p_ 1 Y (znl ?_))
 refine mid (fun B3u13 Q3u13 hn13 hq13 hx13 => ?_)
 refine zck (sR (p_ 1 Y (lc (lift_clause_truth _) H Try.call56 Y fun v_9 h7 H => p_ 1 Y (ng ?_))))
 obtain ⟨v_10, hc13, H⟩ := H
 obtain ⟨a_4, hc14, H⟩ := H
 obtain ⟨v_11, hc15, H⟩ := H
 obtain ⟨v_12, hc16, H⟩ := H
 obtain ⟨a_5, hc17, H⟩ := H
 obtain ⟨v_13, hc18, H⟩ := H
 obtain ⟨v_14, hc19, H⟩ := H
 obtain ⟨a_6, hc20, H⟩ := H
 obtain ⟨v_15, hc21, H⟩ := H
 obtain ⟨a_7_, hc22, hd22, H⟩ := H
 apply AtC.seqS [16, 18, 20] (rl [([], 17), ([16], 2), ([16, 18], 2)]) [[], [0], [0, 1], [0, 1, 2], [], [], [5], [5, 6], [5, 6, 7], [], [], [10], [10, 11], [10, 11, 12], [], (ra 9 ++ [10, 11, 12, 13]), (ra 9 ++ [10, 11, 12, 13, 15]), (ra 14 ++ [15, 16]), (ra 14 ++ [15, 16, 17]), (ra 19), (ra 20)] hmix (by kernel_rfl) (nm 36 [_, _, _, _, _, _, _, _, _, _, _, _, _, _, _, _]) Y 3 Y
 refine Stg.go (ra 16) [16] Y Y (qq Y (zql hT Y Y Y hc13) Y (qq Y (zqc Y Y hc14) Y (q_ Y (qq Y (zql hT Y Y Y hc15) Y (q_ Y (qq Y (zql hT Y Y Y hc16) Y (qq Y (zqc Y Y hc17) Y (q_ Y (qq Y (zql hT Y Y Y hc18) Y (q_ Y (qq Y (zql hT Y Y Y hc19) Y (qq Y (zqc Y Y hc20) Y (q_ Y (qq Y (zql hT Y Y Y hc21) Y (q_ Y (qq Y (zqi hT Y Y Y Y Y hc22 hd22) Y zqz)))))))))))))))) (eo Y (EffX.store hT Y Y Y Y Y H) ?_)
 rintro _ _ ⟨h8, rfl, H⟩
 obtain ⟨a_8_, hc23, hd23, H⟩ := H
 apply Stg.next [(52, _)] Y Y
 refine Stg.go [9, 14, 17] [18] Y Y (q_ Y (q_ Y (qq Y (zqi hT Y Y Y Y Y hc23 hd23) Y zqz))) (eo Y (EffX.store hT Y Y Y Y Y H) ?_)
 rintro _ _ ⟨h9, rfl, H⟩
 obtain ⟨a_9_, hc24, hd24, H⟩ := H
 apply Stg.next [(53, _)] Y Y
 refine Stg.go [14, 19] [20] Y Y (q_ Y (qq Y (zqi hT Y Y Y Y Y hc24 hd24) Y zqz)) (eo Y (EffX.store hT Y Y Y Y Y H) ?_)
 rintro _ _ ⟨h10, rfl, H⟩
 apply Stg.next [] Y Y
 refine Stg.fin [] Y Y zqz (tg (zrg (ld hT H Y Y Y Y fun _ H => p_ 1 Y ?_)))
 refine AtLX.bs (hT := hT) (cs := [_]) H Y Y Y Y Y Y Y Y Y (fun a_10 h11 H => ?_)
 refine zle Y (EffX.appendS (s := _) (u := _) hT Y Y Y Y Y Y Y Y Y Y (by decide) H) ?_
 rintro _ _ ⟨v_18, h12, rfl, rfl, H⟩
 refine zle Y (EffX.store hT Y Y Y Y Y H) ?_
 rintro _ _ ⟨h13, rfl, H⟩
 refine znl (zbn ?_)
 exact AtE.weaken (hn13 _ H) trivial
 refine zbn (tg ?_)
 obtain ⟨v_19, hc26, H⟩ := H
 obtain ⟨v_20, hc27, H⟩ := H
 obtain ⟨v_21, hc28, H⟩ := H
 obtain ⟨a_11, hc29, H⟩ := H
 obtain ⟨v_22, hc30, H⟩ := H
 obtain ⟨v_23, hs31, H⟩ := sliceOf.out H
 obtain ⟨v_24, hc32, H⟩ := H
 obtain ⟨a_12, hc33, H⟩ := H
 obtain ⟨v_25, hc34, H⟩ := H
 obtain ⟨v_26, hs35, H⟩ := sliceOf.out H
 obtain ⟨a_13, hc36, H⟩ := H
 apply AtC.seqS [16, 19] (rl [([], 17), ([16], 3)]) [[], [], [], [2], [2, 3], [2, 3, 4], [], [2, 3, 4, 5, 6], [], [8], [8, 9], [8, 9, 10], [], [8, 9, 10, 11, 12], [0, 2, 3, 4, 5, 6, 7, 8, 9, 10, 11], [0, 2, 3, 4, 5, 6, 7, 8, 9, 10, 11, 14], [0, 2, 3, 4, 5, 6, 7, 8, 9, 10, 11, 14, 15], (ra 17), (ra 18), (ra 19)] hmix (by kernel_rfl) (nm 58 [_, _, _, _, _, _, _, _, _, _, _, _, _, _, _, _]) Y 2 Y
 refine Stg.go (ra 16) [16] Y Y (qq Y (zql hT Y Y Y hc26) Y (qq Y (zql hT Y Y Y hc27) Y (qq Y (zql hT Y Y Y hc28) Y (qq Y (zqc Y Y hc29) Y (q_ Y (qq Y (zql hT Y Y Y hc30) Y (q_ Y (qq Y (Quiet1.sliceIs hT Y Y Y Y Y Y Y (fun h => by cases h <;> rfl) hs31) Y (qq Y (zql hT Y Y Y hc32) Y (qq Y (zqc Y Y hc33) Y (q_ Y (qq Y (zql hT Y Y Y hc34) Y (q_ Y (qq Y (Quiet1.sliceIs hT Y Y Y Y Y Y Y (fun h => by cases h <;> rfl) hs35) Y (qq Y (zqc Y Y hc36) Y (q_ Y zqz)))))))))))))))) (eo Y (EffX.store hT Y Y Y Y Y H) ?_)
 rintro _ _ ⟨h14, rfl, H⟩
 obtain ⟨hc37, H⟩ := H
 obtain ⟨a_14, hc38, H⟩ := H
 apply Stg.next [(74, _), (75, _)] Y Y
 refine Stg.go [1, 12, 13, 17, 18] [19] Y Y (qq Y (zql hT Y Y Y hc37) Y (q_ Y (qq Y (Quiet1.sliceIs hT Y Y Y Y Y Y Y (fun h => by cases h <;> rfl) hs35) Y (qq Y (zqc Y Y hc38) Y (q_ Y zqz))))) (eo Y (EffX.store hT Y Y Y Y Y H) ?_)
 rintro _ _ ⟨h15, rfl, H⟩
 apply Stg.next [] Y Y
 refine Stg.fin [] Y Y zqz (tg ?_)
 obtain ⟨v_27, hc39, H⟩ := H
 obtain ⟨v_28, hc40, H⟩ := H
 obtain ⟨a_15, hc41, H⟩ := H
 obtain ⟨v_29, hc42, H⟩ := H
 obtain ⟨a_16, hc43, H⟩ := H
 apply AtC.seqS [9] (rl [([], 10)]) [[], [], [1], [1, 2], [1, 2, 3], [], [1, 2, 3, 4, 5], (ra 7), (ra 8), (ra 9)] hmix (by kernel_rfl) (nm 76 [_, _, _, _, _, _, _, _, _]) Y 1 Y
 refine Stg.go (ra 9) [9] Y Y (qq Y (zql hT Y Y Y hc39) Y (qq Y (zql hT Y Y Y hc40) Y (qq Y (zqc Y Y hc41) Y (q_ Y (qq Y (zql hT Y Y Y hc42) Y (q_ Y (q_ Y (qq Y (zqc Y Y hc43) Y (q_ Y zqz))))))))) (eo Y (EffX.store hT Y Y Y Y Y H) ?_)
 rintro _ _ ⟨h16, rfl, H⟩
 apply Stg.next [] Y Y
 refine Stg.fin [] Y Y zqz (tg (sR (ld hT H Y Y Y Y fun _ H => zle Y (EffX.store hT Y Y Y Y Y H) ?_)))
 rintro _ _ ⟨h17, rfl, H⟩
 refine ng (zrt ?_)
 obtain ⟨r_1, hc0, H⟩ := H
 exact AtE.retM hlnk (rs := [.cell 4 23]) Y (ResAll.cons (ResAt.cell hT Y Y hc0) ResAll.nil) Y H
theorem lift_ref18uFits (n : Int) (lits : Sl) : Lf Try.prog 29 [Value.int .i64 n, Sl.toV lits] Value.bool (ref18uFits n lits) := by
 refine Lf.go Try.func29 Try.ntmps29 Y Y [0, 1] Y fun w m S H => ?_
 unfold ref18uFits at H
 refine sR (p_ 1 Y (ng (zcs (sR (p_ 1 Y (ng (zck ?_)))))))
 refine AtC.loopM (fun (s0 : Int) => [(5, Value.int .i64 s0)]) (fun (s0 : Int) => []) [0, 1] [5, 0, 1] [] [] H Y Y Y (by decide) Y (fun Kp1 s0 h0 H Q1 HK1 => ?_)
 refine zcs (sR (p_ 4 Y (ng ?_)))
 refine zcb H Y (fun H => ?_) (fun H => ?_)
 refine zsk (tg (zcs (zck (zcs (sR (p_ 3 Y (ix hT H Y Y Y Y Y Y fun _ H => ?_)))))))
 refine ld hT H Y Y Y Y fun _ H => lc (lift_ref18uThere _ _) H Try.call33 Y fun v_1 h1 H => p_ 1 Y (ng ?_)
 refine zcb H Y (fun H => ?_) (fun H => ?_)
 refine sR (p_ 1 Y (ng (zrt (ztr (zbr (ztr (ztr ?_)))))))
 refine zbr (ztr ?_)
 exact r1 4 Y Y Y H
 refine zsk (tg (sR (p_ 1 Y (ng (zck ?_)))))
 refine AtC.loopM (fun (s0u1 : Int) => [(6, Value.int .i64 s0u1)]) (fun (s0u1 : Int) => []) [0, 1, 5] [6, 0, 1, 5] [] [] H Y Y Y (by decide) Y (fun Kp4 s0u1 h2 H Q4 HK4 => ?_)
 refine zcs (sR (p_ 3 Y (ng ?_)))
 refine zcb H Y (fun H => ?_) (fun H => ?_)
 refine zsk (tg (zcs (zck ?_)))
 obtain ⟨a_1_, hc4, hd4, H⟩ := H
 obtain ⟨v_2, hc5, H⟩ := H
 obtain ⟨a_2_, hc6, hd6, H⟩ := H
 obtain ⟨v_3, hc7, H⟩ := H
 apply AtC.seqS [4, 9] (rl [([], 9), ([4], 1), ([4, 9], 1)]) [[], [], [0, 1], [0, 1, 2], [0, 1, 2, 3], [], [], [5, 6], [5, 6, 7], (ra 9), (ra 10)] hmix (by kernel_rfl) (nm 25 [_, _, _, _] ++ nm 30 [_, _, _, _]) Y 2 Y
 refine Stg.go [0, 1, 2, 3, 5, 6, 7, 8] [4] Y Y (q_ Y (q_ Y (qq Y (zqi hT Y Y Y Y Y hc4 hd4) Y (qq Y (zql hT Y Y Y hc5) Y (q_ Y (q_ Y (qq Y (zqi hT Y Y Y Y Y hc6 hd6) Y (qq Y (zql hT Y Y Y hc7) Y zqz)))))))) (ec (lift_ref18uTruth _) H Try.call25 Y fun v_4 h3 H => ?_)
 obtain ⟨hc8, H⟩ := H
 apply Stg.next [(29, _)] Y Y
 refine Stg.go [5, 6, 7, 8] [9] Y Y (q_ Y (q_ Y (qq Y (zqi hT Y Y Y Y Y hc6 hd6) Y (qq Y (zql hT Y Y Y hc8) Y zqz)))) (ec (lift_ref18uTruth _) H Try.call25 Y fun v_5 h4 H => ?_)
 apply Stg.next [(34, _), (35, _)] Y Y
 refine Stg.fin [10] Y Y (q_ Y zqz) (tg ?_)
 refine zcb H Y (fun H => ?_) (fun H => ?_)
 refine sR (p_ 1 Y (ng (zrt (zbr (ztr (ztr (zbr ?_)))))))
 refine zbr (ztr (ztr (zbr (ztr ?_))))
 exact r1 4 Y Y Y H
 refine zsk (zbn (tg (zrg (p_ 3 Y (znl ?_)))))
 exact pko (HK4 _ _ (H _ rfl)) [6, 0, 1, 5] [] Y
 refine zxt (ztx (ztx (zbh (zbn (tg (zrg (p_ 3 Y ?_)))))))
 refine znl ?_
 exact pko (HK1 _ _ (H _ rfl)) [5, 0, 1] [] Y
 refine zxt (ztx (ztx (zbh (tg (sR (p_ 4 Y (ng ?_)))))))
 refine zrt ?_
 exact r1 4 Y Y Y H
theorem lift_ref18ucount (l : Sl) (x0 : Int) : Lf Try.prog 32 [Sl.toV l, Value.int .i64 x0] (Value.int .i64) (ref18ucount l x0) := by
 refine Lf.go Try.func32 Try.ntmps32 Y Y [0, 1] Y fun w m S H => ?_
 unfold ref18ucount at H
 refine sR (p_ 1 Y (ng (sR (p_ 1 Y (ng (zcs (sR ?_)))))))
 refine p_ 1 Y (ng (zck ?_))
 refine AtC.loopM (fun (s0 : Int × Int) => [(5, Value.int .i64 s0.1), (6, Value.int .i64 s0.2)]) (fun (s0 : Int × Int) => []) [0, 1] [5, 6, 0, 1] [] [] H Y Y Y (by decide) Y (fun Kp1 s0 h0 H Q1 HK1 => ?_)
 refine zcs (sR (p_ 4 Y (ng ?_)))
 refine zcb H Y (fun H => ?_) (fun H => ?_)
 refine zsk (tg ?_)
 refine AtC.joinSeq (β := Unit) (fun (t0 : Int) (bb : Unit) => [(5, Value.int .i64 t0)]) (fun (t0 : Int) (bb : Unit) => []) [0, 1, 6] [] H Y Y (fun t0 bb h1 H => ?_) (fun J2 H HK2 => ?_)
 refine zrg (p_ 3 Y (znl ?_))
 exact pko (HK1 _ _ (H _ rfl)) [5, 6, 0, 1] [] Y
 refine zck (sR (p_ 2 Y (ix hT H Y Y Y Y Y Y fun _ H => ld hT H Y Y Y Y fun _ H => p_ 2 Y (ng ?_))))
 refine zcb H Y (fun H => ?_) (fun H => ?_)
 refine zrg (p_ 3 Y (znl (zbn ?_)))
 exact pko (HK2 _ () _ (H _ rfl)) [5, 0, 1, 6] [] Y
 refine zsk (zbn ?_)
 exact pko (HK2 _ () _ H) [5, 0, 1, 6] [] Y
 refine zxt (ztx (ztx (zbh (tg (sR (p_ 2 Y (ng ?_)))))))
 refine zrt ?_
 exact r1 4 Y Y Y H
end Go.Proofs.Ytkjcocjkcjmafaa

/-
  Laws that the proof of this claim's statement leans on, each proved under the conditions that it states.
-/
import Derived.Test.YtjppcjbmepcneaaGreatDoorLfC
set_option linter.unusedVariables false
set_option linter.unusedSimpArgs false
namespace Go.Proofs.YtjppcjbmepcneaaGreatDoor
open Go Go.Lift Go.Sh
set_option maxRecDepth 100000
set_option maxHeartbeats 40000000
attribute [local irreducible] Calls AtL AtC AtE AtD Eff Quiet1 Stg qAt QAll eAt EAll nextK Code.wp
def A4u0 : List (List Nat) := (rl [([], 27), ([26], 2)])
def G4u0 : List (List Nat) := [[], [0], [], [0, 1, 2], [0, 1, 2, 3], (ra 5), [], [6], [], [6, 7, 8], [6, 7, 8, 9], [6, 7, 8, 9, 10], (ra 12), (ra 13), (ra 14), (ra 15), (ra 14), (ra 17), (ra 18), (ra 19), (ra 14), (ra 14 ++ [20]), (ra 14), (ra 14 ++ [20, 21, 22]), (ra 14 ++ [20, 21, 22, 23]), (ra 14 ++ [20, 21, 22, 23, 24]), (ra 26), (ra 27), (ra 28)]
def A4u1 : List (List Nat) := (rl [([], 11), ([10], 1)])
def G4u1 : List (List Nat) := [[], [0], [], [0, 1, 2], [0, 1, 2, 3], [], [5], [], [5, 6, 7], [5, 6, 7, 8], (ra 10), (ra 11)]
theorem lift_ref14uPivot (t0 : Sl × Sl × Sl × Sl × Sl) (row : Int) (v : Int) : Lf Tryz.prog 32 [Value.agg (C_sl_sl_sl_sl_sl t0).toArray, Value.int .i64 row, Value.int .i64 v] (fun r => Value.tuple #[(fun r => Value.agg (C_sl_sl_sl_sl_sl r).toArray) r.1, (Value.int .i64) r.2]) (ref14uPivot t0 row v) := by
 refine Lf.go Tryz.func32 Tryz.ntmps32 Y Y [0, 1, 2] Y fun w m S H => ?_
 unfold ref14uPivot at H
 refine sR (bx [_, _, _, _, _] H Y Y Y Y fun b _ H => al hT [_, _, _, _, _] H Y Y Y fun b_1 _ H => p_ 1 Y (ng (cs ?_)))
 refine AtC.joinSeq (β := Unit) (fun (t0u1 : Bool) (bb : Unit) => [(26, Value.bool t0u1)]) (fun (t0u1 : Bool) (bb : Unit) => []) [1, 2, 3, 6] [0, 1] H.self Y Y (fun t0u1 bb h1 H => ?_) (fun J1 H HK1 => ?_)
 refine cb H Y (fun H => ?_) (fun H => ?_)
 refine sR (lq Y (s_ 1 [_, _, _, _, _] Y) (sp hT 0 [(_, [_, _, _, _, _]), (_, [_, _, _, _, _])] Y Y Y Y Y Y Y Y Y Y Y fun _ => p_ 1 Y (ng (rt (tr ?_)))))
 exact AtE.retN (rs := [.cell 6 66, .tmp 7]) Y (ResAll.cons (ResAt.cellSP (i := 0) (l := [_, _, _, _, _]) hT Y Y Y Y Y Y Y) (ResAll.cons (ResAt.tmp Y) ResAll.nil)) Y H
 refine sk (tg (sR (p_ 1 Y (lq Y (l_ 1 Y) (p_ 1 Y (ix hT H Y Y Y Y Y Y fun _ H => lds hT H Y Y Y Y Y fun _ H => ?_))))))
 refine p_ 1 Y (lc (lift_ref12uCoef _ _) H Tryz.call91 Y fun v_2 h2 H => al hT [_, _, _] H Y Y Y fun b_2 _ H => sp hT 0 [(_, [_, _, _]), (_, [_, _, _, _, _]), (_, [_, _, _, _, _])] Y Y Y Y Y Y Y Y Y Y Y fun _ => ng (cs (sR (p_ 1 Y ?_))))
 refine lq Y (l_ 0 Y) (p_ 2 Y (ng ?_))
 refine cb H.self Y (fun H => ?_) (fun H => ?_)
 refine sR (lq Y (s_ 2 [_, _, _, _, _] Y) (sp hT 1 [(_, [_, _, _]), (_, [_, _, _, _, _]), (_, [_, _, _, _, _])] Y Y Y Y Y Y Y Y Y Y Y fun _ => p_ 1 Y (ng (rt (tr ?_)))))
 exact AtE.retN (rs := [.cell 6 66, .tmp 7]) Y (ResAll.cons (ResAt.cellSP (i := 1) (l := [_, _, _, _, _]) hT Y Y Y Y Y Y Y) (ResAll.cons (ResAt.tmp Y) ResAll.nil)) Y H
 refine sk (tg (sR (p_ 1 Y (lq Y (l_ 2 Y) (p_ 1 Y (ix hT H Y Y Y Y Y Y fun _ H => ld hT H Y Y Y Y fun _ H => ?_))))))
 refine p_ 1 Y (ng (sR (lc (lift_ref02uInt _) H Tryz.call14 Y fun v_4 h4 H => al hT [_, _, _] H Y Y Y fun b_3 _ H => sp hT 0 [(_, [_, _, _]), (_, [_, _, _]), (_, [_, _, _, _, _]), (_, [_, _, _, _, _])] Y Y Y Y Y Y Y Y Y Y Y fun _ => ng ?_)))
 refine AtC.joinSeq (β := Nat) (fun (t0u2 : Bool × Sl × Sl × Sl) (bb_1 : Nat) => [(11, Value.pointer (some ⟨bb_1, 0, none⟩))]) (fun (t0u2 : Bool × Sl × Sl × Sl) (bb_1 : Nat) => [(bb_1, [Value.bool t0u2.1, Sl.toV t0u2.2.1, Sl.toV t0u2.2.2.1, Sl.toV t0u2.2.2.2])]) [1, 2, 3, 6, 8, 10] [0, 1, 2, 3] H.self Y Y (fun t0u2 bb_1 h6 H => ?_) (fun J6 H HK6 => ?_)
 refine sR (lq Y (s_ 1 [_, _, _] Y) (lq Y (s_ 2 [_, _, _] Y) (lc (lift_ref02uDiv _ _) H Tryz.call94 Y fun v_20 h36 H => lc (lift_ref02uNeg _) H Tryz.call93 Y fun v_21 h37 H => al hT [_, _, _] H Y Y Y fun b_9 _ H => sp hT 0 [(_, [_, _, _]), (_, [_, _, _, _]), (_, [_, _, _]), (_, [_, _, _]), (_, [_, _, _, _, _]), (_, [_, _, _, _, _])] Y Y Y Y Y Y Y Y Y Y Y fun _ => ng ?_)))
 refine AtC.joinSeq (β := Nat) (fun (t0u3 : Bool × Sl × Sl × Sl) (bb_2 : Nat) => [(13, Value.pointer (some ⟨bb_2, 0, none⟩))]) (fun (t0u3 : Bool × Sl × Sl × Sl) (bb_2 : Nat) => [(bb_2, [Value.bool t0u3.1, Sl.toV t0u3.2.1, Sl.toV t0u3.2.2.1, Sl.toV t0u3.2.2.2])]) [1, 2, 3, 6, 10] [2, 4, 5] H.self Y Y (fun t0u3 bb_2 h39 H => ?_) (fun J23 H HK23 => ?_)
 refine sR ?_
 refine AtLX.bs (hT := hT) (cs := []) H Y Y Y Y Y Y Y Y Y (fun a_10 h59 H => ?_)
 refine p_ 1 Y (ng (cs (sR (p_ 1 Y (ng (ck ?_))))))
 refine AtC.loopM (fun (s0 : Sl × Int) => [(14, Sl.toV s0.1), (15, Value.int .i64 s0.2)]) (fun (s0 : Sl × Int) => []) [1, 2, 3, 6, 10, 13] [14, 15, 1, 2, 3, 6, 10, 13] [0, 1, 2, 3] [0, 1, 2, 3] (H _ rfl) Y Y Y (by decide) Y (fun Kp28 s0 h60 H Q28 HK28 => ?_)
 refine cs (sR (p_ 2 Y (lq Y (l_ 3 Y) (p_ 2 Y (ng ?_)))))
 refine cb H Y (fun H => ?_) (fun H => ?_)
 refine sk (tg ?_)
 refine AtC.joinSeq (β := Unit) (fun (t0u4 : Sl) (bb_3 : Unit) => [(14, Sl.toV t0u4)]) (fun (t0u4 : Sl) (bb_3 : Unit) => []) [1, 2, 3, 6, 10, 13, 15] [0, 1, 2, 3] H Y Y (fun t0u4 bb_3 h61 H => ?_) (fun J29 H HK29 => ?_)
 refine rg (p_ 3 Y (nl ?_))
 exact pk (HK28 _ _ (H _ rfl)) [14, 15, 1, 2, 3, 6, 10, 13] [0, 1, 2, 3] Y
 refine ck (cs (sR (p_ 3 Y (ng ?_))))
 refine cb H Y (fun H => ?_) (fun H => ?_)
 refine sR (p_ 1 Y (lq Y (s_ 0 [_, _, _, _] Y) ?_))
 refine AtLX.bs (hT := hT) (cs := [_, _, _, _]) H Y Y Y Y Y Y Y Y Y (fun a_11 h62 H => ?_)
 refine le Y (EffX.appendS (s := _) (u := _) hT Y Y Y Y Y Y Y Y Y Y (by decide) H) ?_
 rintro _ _ ⟨v_33, h63, rfl, rfl, H⟩
 refine p_ 1 Y (ng (xt (tx (bh ?_))))
 exact pk (HK29 _ () _ H) [14, 1, 2, 3, 6, 10, 13, 15] [0, 1, 2, 3] Y
 refine sk (tg (sR (p_ 1 Y (lq Y (l_ 3 Y) (p_ 1 Y (ix hT H Y Y Y Y Y Y fun _ H => lds hT H Y Y Y Y Y fun _ H => ?_))))))
 refine p_ 1 Y (lc (lift_ref12uCoef _ _) H Tryz.call91 Y fun v_35 h64 H => al hT [_, _, _] H Y Y Y fun b_14 _ H => sp hT 0 [(_, [_, _, _]), (_, [_, _, _, _]), (_, [_, _, _]), (_, [_, _, _, _, _]), (_, [_, _, _, _, _])] Y Y Y Y Y Y Y Y Y Y Y fun _ => ng ?_)
 refine AtC.joinSeq (β := Nat) (fun (t0u5 : Bool × Sl × Sl × Sl) (bb_4 : Nat) => [(17, Value.pointer (some ⟨bb_4, 0, none⟩))]) (fun (t0u5 : Bool × Sl × Sl × Sl) (bb_4 : Nat) => [(bb_4, [Value.bool t0u5.1, Sl.toV t0u5.2.1, Sl.toV t0u5.2.2.1, Sl.toV t0u5.2.2.2])]) [1, 2, 3, 6, 10, 13, 14, 15, 16] [0, 1, 2, 3, 4] H.self Y Y (fun t0u5 bb_4 h66 H => ?_) (fun J32 H HK32 => ?_)
 refine rg (p_ 1 Y (lq Y (s_ 0 [_, _, _, _] Y) (lq Y (s_ 1 [_, _, _] Y) (lq Y (s_ 2 [_, _, _, _] Y) (lc (lift_ref12uAdd _ _ _) H Tryz.call92 Y fun v_51 h96 H => ?_)))))
 refine AtLX.bs (hT := hT) (cs := [_, _, _, _]) H Y Y Y Y Y Y Y Y Y (fun a_18 h97 H => ?_)
 refine le Y (EffX.appendS (s := _) (u := _) hT Y Y Y Y Y Y Y Y Y Y (by decide) H) ?_
 rintro _ _ ⟨v_53, h98, rfl, rfl, H⟩
 refine p_ 1 Y (nl (bn ?_))
 exact pk (HK29 _ () _ H) [14, 1, 2, 3, 6, 10, 13, 15] [2, 3, 4, 5] Y
 obtain ⟨a_13_, hc32, hd32, H⟩ := H
 obtain ⟨v_36, hc33, H⟩ := H
 apply AtC.stages [6, 9, 11, 13, 14, 15] (rl [([], 9), ([6], 1), ([6, 9], 2), ([6, 9, 11], 2), ([], 1), ([6, 9, 11, 13, 14], 1)]) [[], [0], [], [0, 1, 2], [0, 1, 2, 3], [], [5], [], [], [5, 6, 8], [5, 6, 7, 8, 9], [5, 6, 7, 8, 9, 10], [5, 6, 7, 8, 9, 10, 11], (ra 13), [], (ra 15)] hmix (by kernel_rfl) (nm 94 [_, _, _, _, _, _] ++ [(101, _), (102, _)]) Y 6 Y
 refine Stg.go (ra 6 ++ [7, 8]) [6, 14] Y Y (q_ Y (qq Y (l_ 4 Y) Y (q_ Y (qq Y (qi hT Y Y Y Y Y hc32 hd32) Y (qq Y (qs hT Y Y Y Y hc33) Y (qq Y (s_ 0 [_, _, _] Y) Y (q_ Y (qq Y (s_ 2 [_, _, _] Y) Y qz)))))))) ?_
 refine EAll.cons ?_ ?_
 refine EOp.e Y Y Y (cl (fun h => ref02uNeg _ h _) H.self Y Tryz.call93 Y (fun w m hr hw => lift_ref02uNeg _ w m hr _ hw)) ?_
 rintro _ _ ⟨v_37, h68, rfl, rfl, H⟩
 obtain ⟨hc34, H⟩ := H
 apply Stg.next [(100, _)] Y Y
 refine Stg.go [0, 1, 2, 3, 4, 7, 8] [9, 14] Y Y (q_ Y (qq Y (l_ 4 Y) Y (q_ Y (qq Y (qi hT Y Y Y Y Y hc32 hd32) Y (qq Y (qs hT Y Y Y Y hc34) Y (q_ Y (qq Y (s_ 2 [_, _, _] Y) Y qz))))))) ?_
 refine EAll.cons ?_ ?_
 refine EOp.e Y Y Y (cl (fun h => ref02uForm _ h _) H.self Y Tryz.call48 Y (fun w m hr hw => lift_ref02uForm _ w m hr _ hw)) ?_
 rintro _ _ ⟨v_38, h70, rfl, rfl, H⟩
 obtain ⟨hc35, H⟩ := H
 apply Stg.next [(103, _), (104, _)] Y Y
 refine Stg.go [0, 1, 2, 3, 4, 7, 10] [11, 14] Y Y (q_ Y (qq Y (l_ 4 Y) Y (q_ Y (qq Y (qi hT Y Y Y Y Y hc32 hd32) Y (qq Y (qs hT Y Y Y Y hc35) Y (q_ Y (qq Y (qb (cs := [_, _, _, _]) hT Y Y Y Y Y Y) Y qz))))))) ?_
 refine EAll.cons ?_ ?_
 refine EOp.e Y Y Y (EffX.buildS2 (cs := [_, _, _, _]) hT Y Y Y Y Y Y Y Y H.self) ?_
 rintro _ _ ⟨a_14, h72, rfl, rfl, H⟩
 obtain ⟨hc36, H⟩ := H
 apply Stg.next [(105, _), (106, _)] Y Y
 refine Stg.go [0, 1, 2, 3, 4, 12] [13, 14] Y Y (q_ Y (qq Y (l_ 4 Y) Y (q_ Y (qq Y (qi hT Y Y Y Y Y hc32 hd32) Y (qq Y (qs hT Y Y Y Y hc36) Y (qq Y (qb (cs := [_, _, _, _]) hT Y Y Y Y Y Y) Y qz)))))) ?_
 refine EAll.cons ?_ ?_
 refine EOp.e Y Y Y (cl (fun h => ref12uAdd _ _ _ h _) H.self Y Tryz.call92 Y (fun w m hr hw => lift_ref12uAdd _ _ _ w m hr _ hw)) ?_
 rintro _ _ ⟨v_40, h74, rfl, rfl, H⟩
 apply Stg.next [(107, _)] Y Y
 refine Stg.go [] [14] Y Y qz (eo Y (ea (cs := [_, _, _, _]) hT Y Y H) ?_)
 rintro _ _ ⟨b_15, _, rfl, rfl, he37, H⟩
 apply Stg.next [(17, _)] Y Y
 refine Stg.go [] [15] Y Y qz (eo Y (es (i := 0) (qv := [(_, [_, _, _, _]), (_, [_, _, _]), (_, [_, _, _, _]), (_, [_, _, _]), (_, [_, _, _, _, _]), (_, [_, _, _, _, _])]) hT Y Y Y Y Y Y Y Y Y Y) ?_)
 rintro _ _ rfl
 apply Stg.next [] Y Y
 refine Stg.fin [] Y Y qz ?_
 exact pk (HK32 _ b_15 _ H.self) [17, 1, 2, 3, 6, 10, 13, 14, 15, 16] [0, 1, 2, 3, 4, 5] Y
 refine eo Y (ea (cs := [_, _, _, _]) hT Y Y H) ?_
 rintro _ _ ⟨b_16, _, rfl, rfl, he38, H⟩
 replace hc36 := he38.cells hc36
 apply Stg.next [(17, _)] Y Y
 refine Stg.go [0, 1, 2, 3, 4, 12] [13] Y Y (q_ Y (qq Y (l_ 5 Y) Y (q_ Y (qq Y (qi hT Y Y Y Y Y hc32 hd32) Y (qq Y (qs hT Y Y Y Y hc36) Y (qq Y (qb (cs := [_, _, _, _]) hT Y Y Y Y Y Y) Y qz)))))) (ec (lift_ref12uAdd _ _ _) H.self Tryz.call92 Y fun v_41 h76 H => ?_)
 apply Stg.next [(107, _)] Y Y
 refine Stg.go [] [15] Y Y qz (eo Y (es (i := 0) (qv := [(_, [_, _, _, _]), (_, [_, _, _]), (_, [_, _, _, _]), (_, [_, _, _]), (_, [_, _, _, _, _]), (_, [_, _, _, _, _])]) hT Y Y Y Y Y Y Y Y Y Y) ?_)
 rintro _ _ rfl
 apply Stg.next [] Y Y
 refine Stg.fin [] Y Y qz ?_
 exact pk (HK32 _ b_16 _ H.self) [17, 1, 2, 3, 6, 10, 13, 14, 15, 16] [0, 1, 2, 3, 4, 5] Y
 refine eo Y (ea (cs := [_, _, _, _]) hT Y Y H) ?_
 rintro _ _ ⟨b_17, _, rfl, rfl, he39, H⟩
 replace hc35 := he39.cells hc35
 apply Stg.next [(17, _)] Y Y
 refine Stg.go [0, 1, 2, 3, 4, 7, 10] [11] Y Y (q_ Y (qq Y (l_ 5 Y) Y (q_ Y (qq Y (qi hT Y Y Y Y Y hc32 hd32) Y (qq Y (qs hT Y Y Y Y hc35) Y (q_ Y (qq Y (qb (cs := [_, _, _, _]) hT Y Y Y Y Y Y) Y qz))))))) (eo Y (EffX.buildS2 (cs := [_, _, _, _]) hT Y Y Y Y Y Y Y Y H.self) ?_)
 rintro _ _ ⟨a_15, h78, rfl, rfl, H⟩
 obtain ⟨hc40, H⟩ := H
 apply Stg.next [(105, _), (106, _)] Y Y
 refine Stg.go [0, 1, 2, 3, 4, 12] [13] Y Y (q_ Y (qq Y (l_ 5 Y) Y (q_ Y (qq Y (qi hT Y Y Y Y Y hc32 hd32) Y (qq Y (qs hT Y Y Y Y hc40) Y (qq Y (qb (cs := [_, _, _, _]) hT Y Y Y Y Y Y) Y qz)))))) (ec (lift_ref12uAdd _ _ _) H.self Tryz.call92 Y fun v_43 h80 H => ?_)
 apply Stg.next [(107, _)] Y Y
 refine Stg.go [] [15] Y Y qz (eo Y (es (i := 0) (qv := [(_, [_, _, _, _]), (_, [_, _, _]), (_, [_, _, _, _]), (_, [_, _, _]), (_, [_, _, _, _, _]), (_, [_, _, _, _, _])]) hT Y Y Y Y Y Y Y Y Y Y) ?_)
 rintro _ _ rfl
 apply Stg.next [] Y Y
 refine Stg.fin [] Y Y qz ?_
 exact pk (HK32 _ b_17 _ H.self) [17, 1, 2, 3, 6, 10, 13, 14, 15, 16] [0, 1, 2, 3, 4, 5] Y
 refine eo Y (ea (cs := [_, _, _, _]) hT Y Y H) ?_
 rintro _ _ ⟨b_18, _, rfl, rfl, he41, H⟩
 replace hc34 := he41.cells hc34
 apply Stg.next [(17, _)] Y Y
 refine Stg.go [0, 1, 2, 3, 4, 7, 8] [9] Y Y (q_ Y (qq Y (l_ 5 Y) Y (q_ Y (qq Y (qi hT Y Y Y Y Y hc32 hd32) Y (qq Y (qs hT Y Y Y Y hc34) Y (q_ Y (qq Y (s_ 3 [_, _, _] Y) Y qz))))))) (ec (lift_ref02uForm _) H.self Tryz.call48 Y fun v_44 h82 H => ?_)
 obtain ⟨hc42, H⟩ := H
 apply Stg.next [(103, _), (104, _)] Y Y
 refine Stg.go [0, 1, 2, 3, 4, 7, 10] [11] Y Y (q_ Y (qq Y (l_ 5 Y) Y (q_ Y (qq Y (qi hT Y Y Y Y Y hc32 hd32) Y (qq Y (qs hT Y Y Y Y hc42) Y (q_ Y (qq Y (qb (cs := [_, _, _, _]) hT Y Y Y Y Y Y) Y qz))))))) (eo Y (EffX.buildS2 (cs := [_, _, _, _]) hT Y Y Y Y Y Y Y Y H.self) ?_)
 rintro _ _ ⟨a_16, h84, rfl, rfl, H⟩
 obtain ⟨hc43, H⟩ := H
 apply Stg.next [(105, _), (106, _)] Y Y
 refine Stg.go [0, 1, 2, 3, 4, 12] [13] Y Y (q_ Y (qq Y (l_ 5 Y) Y (q_ Y (qq Y (qi hT Y Y Y Y Y hc32 hd32) Y (qq Y (qs hT Y Y Y Y hc43) Y (qq Y (qb (cs := [_, _, _, _]) hT Y Y Y Y Y Y) Y qz)))))) (ec (lift_ref12uAdd _ _ _) H.self Tryz.call92 Y fun v_46 h86 H => ?_)
 apply Stg.next [(107, _)] Y Y
 refine Stg.go [] [15] Y Y qz (eo Y (es (i := 0) (qv := [(_, [_, _, _, _]), (_, [_, _, _]), (_, [_, _, _, _]), (_, [_, _, _]), (_, [_, _, _, _, _]), (_, [_, _, _, _, _])]) hT Y Y Y Y Y Y Y Y Y Y) ?_)
 rintro _ _ rfl
 apply Stg.next [] Y Y
 refine Stg.fin [] Y Y qz ?_
 exact pk (HK32 _ b_18 _ H.self) [17, 1, 2, 3, 6, 10, 13, 14, 15, 16] [0, 1, 2, 3, 4, 5] Y
 refine eo Y (ea (cs := [_, _, _, _]) hT Y Y H) ?_
 rintro _ _ ⟨b_19, _, rfl, rfl, he44, H⟩
 replace hc33 := he44.cells hc33
 apply Stg.next [(17, _)] Y Y
 refine Stg.go (ra 6 ++ [7, 8]) [6] Y Y (q_ Y (qq Y (l_ 5 Y) Y (q_ Y (qq Y (qi hT Y Y Y Y Y hc32 hd32) Y (qq Y (qs hT Y Y Y Y hc33) Y (qq Y (s_ 1 [_, _, _] Y) Y (q_ Y (qq Y (s_ 3 [_, _, _] Y) Y qz)))))))) (ec (lift_ref02uNeg _) H.self Tryz.call93 Y fun v_47 h88 H => ?_)
 obtain ⟨hc45, H⟩ := H
 apply Stg.next [(100, _)] Y Y
 refine Stg.go [0, 1, 2, 3, 4, 7, 8] [9] Y Y (q_ Y (qq Y (l_ 5 Y) Y (q_ Y (qq Y (qi hT Y Y Y Y Y hc32 hd32) Y (qq Y (qs hT Y Y Y Y hc45) Y (q_ Y (qq Y (s_ 3 [_, _, _] Y) Y qz))))))) (ec (lift_ref02uForm _) H.self Tryz.call48 Y fun v_48 h90 H => ?_)
 obtain ⟨hc46, H⟩ := H
 apply Stg.next [(103, _), (104, _)] Y Y
 refine Stg.go [0, 1, 2, 3, 4, 7, 10] [11] Y Y (q_ Y (qq Y (l_ 5 Y) Y (q_ Y (qq Y (qi hT Y Y Y Y Y hc32 hd32) Y (qq Y (qs hT Y Y Y Y hc46) Y (q_ Y (qq Y (qb (cs := [_, _, _, _]) hT Y Y Y Y Y Y) Y qz))))))) (eo Y (EffX.buildS2 (cs := [_, _, _, _]) hT Y Y Y Y Y Y Y Y H.self) ?_)
 rintro _ _ ⟨a_17, h92, rfl, rfl, H⟩
 obtain ⟨hc47, H⟩ := H
 apply Stg.next [(105, _), (106, _)] Y Y
 refine Stg.go [0, 1, 2, 3, 4, 12] [13] Y Y (q_ Y (qq Y (l_ 5 Y) Y (q_ Y (qq Y (qi hT Y Y Y Y Y hc32 hd32) Y (qq Y (qs hT Y Y Y Y hc47) Y (qq Y (qb (cs := [_, _, _, _]) hT Y Y Y Y Y Y) Y qz)))))) (ec (lift_ref12uAdd _ _ _) H.self Tryz.call92 Y fun v_50 h94 H => ?_)
 apply Stg.next [(107, _)] Y Y
 refine Stg.go [] [15] Y Y qz (eo Y (es (i := 0) (qv := [(_, [_, _, _, _]), (_, [_, _, _]), (_, [_, _, _, _]), (_, [_, _, _]), (_, [_, _, _, _, _]), (_, [_, _, _, _, _])]) hT Y Y Y Y Y Y Y Y Y Y) ?_)
 rintro _ _ rfl
 apply Stg.next [] Y Y
 refine Stg.fin [] Y Y qz ?_
 exact pk (HK32 _ b_19 _ H.self) [17, 1, 2, 3, 6, 10, 13, 14, 15, 16] [0, 1, 2, 3, 4, 5] Y
 refine xt (tx (tx (bh (tg (sR (p_ 2 Y (le Y (ep (i := 3) (qv := [(_, [_, _, _, _]), (_, [_, _, _]), (_, [_, _, _, _, _]), (_, [_, _, _, _, _])]) hT Y Y Y Y Y Y Y Y Y) ?_)))))))
 rintro _ _ rfl
 refine ng (sR ?_)
 refine AtLX.bs (hT := hT) (cs := []) H Y Y Y Y Y Y Y Y Y (fun a_19 h99 H => ?_)
 refine p_ 1 Y (lq Y (l_ 3 Y) (le Y (EffX.appendS (s := _) (u := _) hT Y Y Y Y Y Y Y Y Y Y (by decide) H) ?_))
 rintro _ _ ⟨v_55, h100, rfl, rfl, H⟩
 refine p_ 1 Y (le Y (ep (i := 3) (qv := [(_, [_, _, _, _]), (_, [_, _, _]), (_, [_, _, _, _, _]), (_, [_, _, _, _, _])]) hT Y Y Y Y Y Y Y Y Y) ?_)
 rintro _ _ rfl
 refine ng (sR (p_ 1 Y (lq Y (l_ 3 Y) (p_ 2 Y (ix hT H Y Y Y Y Y Y fun _ H => le Y (EffX.store hT Y Y Y Y Y H) ?_)))))
 rintro _ _ ⟨h101, rfl, H⟩
 refine ng (sR (lq Y (s_ 3 [_, _, _, _, _] Y) (sp hT 2 [(_, [_, _, _, _]), (_, [_, _, _]), (_, [_, _, _, _, _]), (_, [_, _, _, _, _])] Y Y Y Y Y Y Y Y Y Y Y fun _ => p_ 1 Y (ng (rt ?_)))))
 exact AtE.retN (rs := [.cell 6 66, .tmp 7]) Y (ResAll.cons (ResAt.cellSP (i := 2) (l := [_, _, _, _, _]) hT Y Y Y Y Y Y Y) (ResAll.cons (ResAt.tmp Y) ResAll.nil)) Y H
 apply AtC.stages [2, 4, 8, 9, 10] [[], [], [], [2], [2], [2, 4], [], [], [2, 4], [], [2, 4, 8, 9]] [[], [], [1], [0, 1, 2], [0, 1, 2, 3], (ra 5), [], [], (ra 8), [], (ra 10)] hmix (by kernel_rfl) [(63, _), (64, _), (69, _), (70, _)] Y 5 Y
 refine Stg.go [0, 1, 6, 7] [2, 9] Y Y (q_ Y (qq Y (s_ 2 [_, _, _] Y) Y (qq Y (s_ 0 [_, _, _] Y) Y (qq Y (s_ 1 [_, _, _, _] Y) Y qz)))) ?_
 refine EAll.cons ?_ ?_
 refine EOp.e Y Y Y (cl (fun h => ref02uForm _ h _) H.self Y Tryz.call48 Y (fun w m hr hw => lift_ref02uForm _ w m hr _ hw)) ?_
 rintro _ _ ⟨v_22, h41, rfl, rfl, H⟩
 apply Stg.next [(65, _), (66, _)] Y Y
 refine Stg.go [0, 3, 6, 7] [4, 9] Y Y (q_ Y (qq Y (qb (cs := [_, _, _, _]) hT Y Y Y Y Y Y) Y (qq Y (s_ 0 [_, _, _] Y) Y (qq Y (s_ 1 [_, _, _, _] Y) Y qz)))) ?_
 refine EAll.cons ?_ ?_
 refine EOp.e Y Y Y (EffX.buildS2 (cs := [_, _, _, _]) hT Y Y Y Y Y Y Y Y H.self) ?_
 rintro _ _ ⟨a_7, h43, rfl, rfl, H⟩
 apply Stg.next [(67, _), (68, _)] Y Y
 refine Stg.go [5, 6, 7] [8, 9] Y Y (qq Y (qb (cs := [_, _, _, _]) hT Y Y Y Y Y Y) Y (qq Y (s_ 0 [_, _, _] Y) Y (qq Y (s_ 1 [_, _, _, _] Y) Y qz))) ?_
 refine EAll.cons ?_ ?_
 refine EOp.e Y Y Y (cl (fun h => ref12uAdd _ _ _ h _) H.self Y Tryz.call92 Y (fun w m hr hw => lift_ref12uAdd _ _ _ w m hr _ hw)) ?_
 rintro _ _ ⟨v_24, h45, rfl, rfl, H⟩
 apply Stg.next [(71, _)] Y Y
 refine Stg.go [] [9] Y Y qz (eo Y (ea (cs := [_, _, _, _]) hT Y Y H) ?_)
 rintro _ _ ⟨b_10, _, rfl, rfl, he23, H⟩
 apply Stg.next [(13, _)] Y Y
 refine Stg.go [] [10] Y Y qz (eo Y (es (i := 0) (qv := [(_, [_, _, _, _]), (_, [_, _, _]), (_, [_, _, _, _]), (_, [_, _, _]), (_, [_, _, _]), (_, [_, _, _, _, _]), (_, [_, _, _, _, _])]) hT Y Y Y Y Y Y Y Y Y Y) ?_)
 rintro _ _ rfl
 apply Stg.next [] Y Y
 refine Stg.fin [] Y Y qz ?_
 exact pk (HK23 _ b_10 _ H.self) [13, 1, 2, 3, 6, 10] [0, 3, 5, 6] Y
 refine eo Y (ea (cs := [_, _, _, _]) hT Y Y H) ?_
 rintro _ _ ⟨b_11, _, rfl, rfl, he24, H⟩
 apply Stg.next [(13, _)] Y Y
 refine Stg.go [5, 6, 7] [8] Y Y (qq Y (qb (cs := [_, _, _, _]) hT Y Y Y Y Y Y) Y (qq Y (s_ 1 [_, _, _] Y) Y (qq Y (s_ 2 [_, _, _, _] Y) Y qz))) (ec (lift_ref12uAdd _ _ _) H.self Tryz.call92 Y fun v_25 h47 H => ?_)
 apply Stg.next [(71, _)] Y Y
 refine Stg.go [] [10] Y Y qz (eo Y (es (i := 0) (qv := [(_, [_, _, _, _]), (_, [_, _, _]), (_, [_, _, _, _]), (_, [_, _, _]), (_, [_, _, _]), (_, [_, _, _, _, _]), (_, [_, _, _, _, _])]) hT Y Y Y Y Y Y Y Y Y Y) ?_)
 rintro _ _ rfl
 apply Stg.next [] Y Y
 refine Stg.fin [] Y Y qz ?_
 exact pk (HK23 _ b_11 _ H.self) [13, 1, 2, 3, 6, 10] [0, 3, 5, 6] Y
 refine eo Y (ea (cs := [_, _, _, _]) hT Y Y H) ?_
 rintro _ _ ⟨b_12, _, rfl, rfl, he25, H⟩
 apply Stg.next [(13, _)] Y Y
 refine Stg.go [0, 3, 6, 7] [4] Y Y (q_ Y (qq Y (qb (cs := [_, _, _, _]) hT Y Y Y Y Y Y) Y (qq Y (s_ 1 [_, _, _] Y) Y (qq Y (s_ 2 [_, _, _, _] Y) Y qz)))) (eo Y (EffX.buildS2 (cs := [_, _, _, _]) hT Y Y Y Y Y Y Y Y H.self) ?_)
 rintro _ _ ⟨a_8, h49, rfl, rfl, H⟩
 apply Stg.next [(67, _), (68, _)] Y Y
 refine Stg.go [5, 6, 7] [8] Y Y (qq Y (qb (cs := [_, _, _, _]) hT Y Y Y Y Y Y) Y (qq Y (s_ 1 [_, _, _] Y) Y (qq Y (s_ 2 [_, _, _, _] Y) Y qz))) (ec (lift_ref12uAdd _ _ _) H.self Tryz.call92 Y fun v_27 h51 H => ?_)
 apply Stg.next [(71, _)] Y Y
 refine Stg.go [] [10] Y Y qz (eo Y (es (i := 0) (qv := [(_, [_, _, _, _]), (_, [_, _, _]), (_, [_, _, _, _]), (_, [_, _, _]), (_, [_, _, _]), (_, [_, _, _, _, _]), (_, [_, _, _, _, _])]) hT Y Y Y Y Y Y Y Y Y Y) ?_)
 rintro _ _ rfl
 apply Stg.next [] Y Y
 refine Stg.fin [] Y Y qz ?_
 exact pk (HK23 _ b_12 _ H.self) [13, 1, 2, 3, 6, 10] [0, 3, 5, 6] Y
 refine eo Y (ea (cs := [_, _, _, _]) hT Y Y H) ?_
 rintro _ _ ⟨b_13, _, rfl, rfl, he26, H⟩
 apply Stg.next [(13, _)] Y Y
 refine Stg.go [0, 1, 6, 7] [2] Y Y (q_ Y (qq Y (s_ 3 [_, _, _] Y) Y (qq Y (s_ 1 [_, _, _] Y) Y (qq Y (s_ 2 [_, _, _, _] Y) Y qz)))) (ec (lift_ref02uForm _) H.self Tryz.call48 Y fun v_28 h53 H => ?_)
 apply Stg.next [(65, _), (66, _)] Y Y
 refine Stg.go [0, 3, 6, 7] [4] Y Y (q_ Y (qq Y (qb (cs := [_, _, _, _]) hT Y Y Y Y Y Y) Y (qq Y (s_ 1 [_, _, _] Y) Y (qq Y (s_ 2 [_, _, _, _] Y) Y qz)))) (eo Y (EffX.buildS2 (cs := [_, _, _, _]) hT Y Y Y Y Y Y Y Y H.self) ?_)
 rintro _ _ ⟨a_9, h55, rfl, rfl, H⟩
 apply Stg.next [(67, _), (68, _)] Y Y
 refine Stg.go [5, 6, 7] [8] Y Y (qq Y (qb (cs := [_, _, _, _]) hT Y Y Y Y Y Y) Y (qq Y (s_ 1 [_, _, _] Y) Y (qq Y (s_ 2 [_, _, _, _] Y) Y qz))) (ec (lift_ref12uAdd _ _ _) H.self Tryz.call92 Y fun v_30 h57 H => ?_)
 apply Stg.next [(71, _)] Y Y
 refine Stg.go [] [10] Y Y qz (eo Y (es (i := 0) (qv := [(_, [_, _, _, _]), (_, [_, _, _]), (_, [_, _, _, _]), (_, [_, _, _]), (_, [_, _, _]), (_, [_, _, _, _, _]), (_, [_, _, _, _, _])]) hT Y Y Y Y Y Y Y Y Y Y) ?_)
 rintro _ _ rfl
 apply Stg.next [] Y Y
 refine Stg.fin [] Y Y qz ?_
 exact pk (HK23 _ b_13 _ H.self) [13, 1, 2, 3, 6, 10] [0, 3, 5, 6] Y
 obtain ⟨a_2_, hc6, hd6, H⟩ := H
 obtain ⟨v_5, hc7, H⟩ := H
 apply AtC.stages [5, 8, 10, 12, 13, 14] (rl [([], 8), ([5], 1), ([5, 8], 2), ([5, 8, 10], 2), ([], 1), ([5, 8, 10, 12, 13], 1)]) [[], [0], [], [0, 1, 2], [0, 1, 2, 3], [], [], [], [5, 7], [5, 6, 7, 8], [5, 6, 7, 8, 9], [5, 6, 7, 8, 9, 10], (ra 12), [], (ra 14)] hmix (by kernel_rfl) (nm 46 [_, _, _, _, _] ++ [(52, _), (53, _)]) Y 6 Y
 refine Stg.go [0, 1, 2, 3, 4, 6, 7] [5, 13] Y Y (q_ Y (qq Y (l_ 3 Y) Y (q_ Y (qq Y (qi hT Y Y Y Y Y hc6 hd6) Y (qq Y (qs hT Y Y Y Y hc7) Y (q_ Y (qq Y (s_ 0 [_, _, _] Y) Y qz))))))) ?_
 refine EAll.cons ?_ ?_
 refine EOp.e Y Y Y (cl (fun h => ref02uInt _ h _) H.self Y Tryz.call14 Y (fun w m hr hw => lift_ref02uInt _ w m hr _ hw)) ?_
 rintro _ _ ⟨v_6, h8, rfl, rfl, H⟩
 obtain ⟨hc8, H⟩ := H
 apply Stg.next [(51, _)] Y Y
 refine Stg.go [0, 1, 2, 3, 4, 6, 7] [8, 13] Y Y (q_ Y (qq Y (l_ 3 Y) Y (q_ Y (qq Y (qi hT Y Y Y Y Y hc6 hd6) Y (qq Y (qs hT Y Y Y Y hc8) Y (q_ Y (qq Y (s_ 0 [_, _, _] Y) Y qz))))))) ?_
 refine EAll.cons ?_ ?_
 refine EOp.e Y Y Y (cl (fun h => ref02uForm _ h _) H.self Y Tryz.call48 Y (fun w m hr hw => lift_ref02uForm _ w m hr _ hw)) ?_
 rintro _ _ ⟨v_7, h10, rfl, rfl, H⟩
 obtain ⟨hc9, H⟩ := H
 apply Stg.next [(54, _), (55, _)] Y Y
 refine Stg.go [0, 1, 2, 3, 4, 6, 9] [10, 13] Y Y (q_ Y (qq Y (l_ 3 Y) Y (q_ Y (qq Y (qi hT Y Y Y Y Y hc6 hd6) Y (qq Y (qs hT Y Y Y Y hc9) Y (q_ Y (qq Y (qb (cs := [_, _, _, _]) hT Y Y Y Y Y Y) Y qz))))))) ?_
 refine EAll.cons ?_ ?_
 refine EOp.e Y Y Y (EffX.buildS2 (cs := [_, _, _, _]) hT Y Y Y Y Y Y Y Y H.self) ?_
 rintro _ _ ⟨a_3, h12, rfl, rfl, H⟩
 obtain ⟨hc10, H⟩ := H
 apply Stg.next [(56, _), (57, _)] Y Y
 refine Stg.go [0, 1, 2, 3, 4, 11] [12, 13] Y Y (q_ Y (qq Y (l_ 3 Y) Y (q_ Y (qq Y (qi hT Y Y Y Y Y hc6 hd6) Y (qq Y (qs hT Y Y Y Y hc10) Y (qq Y (qb (cs := [_, _, _, _]) hT Y Y Y Y Y Y) Y qz)))))) ?_
 refine EAll.cons ?_ ?_
 refine EOp.e Y Y Y (cl (fun h => ref12uAdd _ _ _ h _) H.self Y Tryz.call92 Y (fun w m hr hw => lift_ref12uAdd _ _ _ w m hr _ hw)) ?_
 rintro _ _ ⟨v_9, h14, rfl, rfl, H⟩
 apply Stg.next [(58, _)] Y Y
 refine Stg.go [] [13] Y Y qz (eo Y (ea (cs := [_, _, _, _]) hT Y Y H) ?_)
 rintro _ _ ⟨b_4, _, rfl, rfl, he11, H⟩
 apply Stg.next [(11, _)] Y Y
 refine Stg.go [] [14] Y Y qz (eo Y (es (i := 0) (qv := [(_, [_, _, _, _]), (_, [_, _, _]), (_, [_, _, _]), (_, [_, _, _, _, _]), (_, [_, _, _, _, _])]) hT Y Y Y Y Y Y Y Y Y Y) ?_)
 rintro _ _ rfl
 apply Stg.next [] Y Y
 refine Stg.fin [] Y Y qz ?_
 exact pk (HK6 _ b_4 _ H.self) [11, 1, 2, 3, 6, 8, 10] [0, 1, 2, 3, 4] Y
 refine eo Y (ea (cs := [_, _, _, _]) hT Y Y H) ?_
 rintro _ _ ⟨b_5, _, rfl, rfl, he12, H⟩
 replace hc10 := he12.cells hc10
 apply Stg.next [(11, _)] Y Y
 refine Stg.go [0, 1, 2, 3, 4, 11] [12] Y Y (q_ Y (qq Y (l_ 4 Y) Y (q_ Y (qq Y (qi hT Y Y Y Y Y hc6 hd6) Y (qq Y (qs hT Y Y Y Y hc10) Y (qq Y (qb (cs := [_, _, _, _]) hT Y Y Y Y Y Y) Y qz)))))) (ec (lift_ref12uAdd _ _ _) H.self Tryz.call92 Y fun v_10 h16 H => ?_)
 apply Stg.next [(58, _)] Y Y
 refine Stg.go [] [14] Y Y qz (eo Y (es (i := 0) (qv := [(_, [_, _, _, _]), (_, [_, _, _]), (_, [_, _, _]), (_, [_, _, _, _, _]), (_, [_, _, _, _, _])]) hT Y Y Y Y Y Y Y Y Y Y) ?_)
 rintro _ _ rfl
 apply Stg.next [] Y Y
 refine Stg.fin [] Y Y qz ?_
 exact pk (HK6 _ b_5 _ H.self) [11, 1, 2, 3, 6, 8, 10] [0, 1, 2, 3, 4] Y
 refine eo Y (ea (cs := [_, _, _, _]) hT Y Y H) ?_
 rintro _ _ ⟨b_6, _, rfl, rfl, he13, H⟩
 replace hc9 := he13.cells hc9
 apply Stg.next [(11, _)] Y Y
 refine Stg.go [0, 1, 2, 3, 4, 6, 9] [10] Y Y (q_ Y (qq Y (l_ 4 Y) Y (q_ Y (qq Y (qi hT Y Y Y Y Y hc6 hd6) Y (qq Y (qs hT Y Y Y Y hc9) Y (q_ Y (qq Y (qb (cs := [_, _, _, _]) hT Y Y Y Y Y Y) Y qz))))))) (eo Y (EffX.buildS2 (cs := [_, _, _, _]) hT Y Y Y Y Y Y Y Y H.self) ?_)
 rintro _ _ ⟨a_4, h18, rfl, rfl, H⟩
 obtain ⟨hc14, H⟩ := H
 apply Stg.next [(56, _), (57, _)] Y Y
 refine Stg.go [0, 1, 2, 3, 4, 11] [12] Y Y (q_ Y (qq Y (l_ 4 Y) Y (q_ Y (qq Y (qi hT Y Y Y Y Y hc6 hd6) Y (qq Y (qs hT Y Y Y Y hc14) Y (qq Y (qb (cs := [_, _, _, _]) hT Y Y Y Y Y Y) Y qz)))))) (ec (lift_ref12uAdd _ _ _) H.self Tryz.call92 Y fun v_12 h20 H => ?_)
 apply Stg.next [(58, _)] Y Y
 refine Stg.go [] [14] Y Y qz (eo Y (es (i := 0) (qv := [(_, [_, _, _, _]), (_, [_, _, _]), (_, [_, _, _]), (_, [_, _, _, _, _]), (_, [_, _, _, _, _])]) hT Y Y Y Y Y Y Y Y Y Y) ?_)
 rintro _ _ rfl
 apply Stg.next [] Y Y
 refine Stg.fin [] Y Y qz ?_
 exact pk (HK6 _ b_6 _ H.self) [11, 1, 2, 3, 6, 8, 10] [0, 1, 2, 3, 4] Y
 refine eo Y (ea (cs := [_, _, _, _]) hT Y Y H) ?_
 rintro _ _ ⟨b_7, _, rfl, rfl, he15, H⟩
 replace hc8 := he15.cells hc8
 apply Stg.next [(11, _)] Y Y
 refine Stg.go [0, 1, 2, 3, 4, 6, 7] [8] Y Y (q_ Y (qq Y (l_ 4 Y) Y (q_ Y (qq Y (qi hT Y Y Y Y Y hc6 hd6) Y (qq Y (qs hT Y Y Y Y hc8) Y (q_ Y (qq Y (s_ 1 [_, _, _] Y) Y qz))))))) (ec (lift_ref02uForm _) H.self Tryz.call48 Y fun v_13 h22 H => ?_)
 obtain ⟨hc16, H⟩ := H
 apply Stg.next [(54, _), (55, _)] Y Y
 refine Stg.go [0, 1, 2, 3, 4, 6, 9] [10] Y Y (q_ Y (qq Y (l_ 4 Y) Y (q_ Y (qq Y (qi hT Y Y Y Y Y hc6 hd6) Y (qq Y (qs hT Y Y Y Y hc16) Y (q_ Y (qq Y (qb (cs := [_, _, _, _]) hT Y Y Y Y Y Y) Y qz))))))) (eo Y (EffX.buildS2 (cs := [_, _, _, _]) hT Y Y Y Y Y Y Y Y H.self) ?_)
 rintro _ _ ⟨a_5, h24, rfl, rfl, H⟩
 obtain ⟨hc17, H⟩ := H
 apply Stg.next [(56, _), (57, _)] Y Y
 refine Stg.go [0, 1, 2, 3, 4, 11] [12] Y Y (q_ Y (qq Y (l_ 4 Y) Y (q_ Y (qq Y (qi hT Y Y Y Y Y hc6 hd6) Y (qq Y (qs hT Y Y Y Y hc17) Y (qq Y (qb (cs := [_, _, _, _]) hT Y Y Y Y Y Y) Y qz)))))) (ec (lift_ref12uAdd _ _ _) H.self Tryz.call92 Y fun v_15 h26 H => ?_)
 apply Stg.next [(58, _)] Y Y
 refine Stg.go [] [14] Y Y qz (eo Y (es (i := 0) (qv := [(_, [_, _, _, _]), (_, [_, _, _]), (_, [_, _, _]), (_, [_, _, _, _, _]), (_, [_, _, _, _, _])]) hT Y Y Y Y Y Y Y Y Y Y) ?_)
 rintro _ _ rfl
 apply Stg.next [] Y Y
 refine Stg.fin [] Y Y qz ?_
 exact pk (HK6 _ b_7 _ H.self) [11, 1, 2, 3, 6, 8, 10] [0, 1, 2, 3, 4] Y
 refine eo Y (ea (cs := [_, _, _, _]) hT Y Y H) ?_
 rintro _ _ ⟨b_8, _, rfl, rfl, he18, H⟩
 replace hc7 := he18.cells hc7
 apply Stg.next [(11, _)] Y Y
 refine Stg.go [0, 1, 2, 3, 4, 6, 7] [5] Y Y (q_ Y (qq Y (l_ 4 Y) Y (q_ Y (qq Y (qi hT Y Y Y Y Y hc6 hd6) Y (qq Y (qs hT Y Y Y Y hc7) Y (q_ Y (qq Y (s_ 1 [_, _, _] Y) Y qz))))))) (ec (lift_ref02uInt _) H.self Tryz.call14 Y fun v_16 h28 H => ?_)
 obtain ⟨hc19, H⟩ := H
 apply Stg.next [(51, _)] Y Y
 refine Stg.go [0, 1, 2, 3, 4, 6, 7] [8] Y Y (q_ Y (qq Y (l_ 4 Y) Y (q_ Y (qq Y (qi hT Y Y Y Y Y hc6 hd6) Y (qq Y (qs hT Y Y Y Y hc19) Y (q_ Y (qq Y (s_ 1 [_, _, _] Y) Y qz))))))) (ec (lift_ref02uForm _) H.self Tryz.call48 Y fun v_17 h30 H => ?_)
 obtain ⟨hc20, H⟩ := H
 apply Stg.next [(54, _), (55, _)] Y Y
 refine Stg.go [0, 1, 2, 3, 4, 6, 9] [10] Y Y (q_ Y (qq Y (l_ 4 Y) Y (q_ Y (qq Y (qi hT Y Y Y Y Y hc6 hd6) Y (qq Y (qs hT Y Y Y Y hc20) Y (q_ Y (qq Y (qb (cs := [_, _, _, _]) hT Y Y Y Y Y Y) Y qz))))))) (eo Y (EffX.buildS2 (cs := [_, _, _, _]) hT Y Y Y Y Y Y Y Y H.self) ?_)
 rintro _ _ ⟨a_6, h32, rfl, rfl, H⟩
 obtain ⟨hc21, H⟩ := H
 apply Stg.next [(56, _), (57, _)] Y Y
 refine Stg.go [0, 1, 2, 3, 4, 11] [12] Y Y (q_ Y (qq Y (l_ 4 Y) Y (q_ Y (qq Y (qi hT Y Y Y Y Y hc6 hd6) Y (qq Y (qs hT Y Y Y Y hc21) Y (qq Y (qb (cs := [_, _, _, _]) hT Y Y Y Y Y Y) Y qz)))))) (ec (lift_ref12uAdd _ _ _) H.self Tryz.call92 Y fun v_19 h34 H => ?_)
 apply Stg.next [(58, _)] Y Y
 refine Stg.go [] [14] Y Y qz (eo Y (es (i := 0) (qv := [(_, [_, _, _, _]), (_, [_, _, _]), (_, [_, _, _]), (_, [_, _, _, _, _]), (_, [_, _, _, _, _])]) hT Y Y Y Y Y Y Y Y Y Y) ?_)
 rintro _ _ rfl
 apply Stg.next [] Y Y
 refine Stg.fin [] Y Y qz ?_
 exact pk (HK6 _ b_8 _ H.self) [11, 1, 2, 3, 6, 8, 10] [0, 1, 2, 3, 4] Y
 refine rg (p_ 3 Y ?_)
 refine AtL.splitB (t := 20) H Y (fun H => ?_) (fun H => ?_)
 refine p_ 6 Y (nl ?_)
 exact pk (HK1 _ () _ H) [26, 1, 2, 3, 6] [0, 1] Y
 refine p_ 5 Y (lq Y (l_ 1 Y) (p_ 5 Y (nl ?_)))
 exact pk (HK1 _ () _ H) [26, 1, 2, 3, 6] [0, 1] Y
theorem lift_ref12uSame (p : Bool × Sl × Sl × Sl) (q : Bool × Sl × Sl × Sl) : Lf Tryz.prog 76 [Value.agg (C_bool_sl_sl_sl p).toArray, Value.agg (C_bool_sl_sl_sl q).toArray] Value.bool (ref12uSame p q) := by
 refine Lf.go Tryz.func76 Tryz.ntmps76 Y Y [0, 1] Y fun w m S H => ?_
 unfold ref12uSame at H
 refine sR (bx [_, _, _, _] H Y Y Y Y fun b _ H => bx [_, _, _, _] H Y Y Y Y fun b_1 _ H => p_ 1 Y (ng (cs ?_)))
 refine AtC.joinSeq (β := Unit) (fun (t0 : Bool) (bb : Unit) => [(20, Value.bool t0)]) (fun (t0 : Bool) (bb : Unit) => []) [2, 3] [0, 1] H.self Y Y (fun t0 bb h1 H => ?_) (fun J1 H HK1 => ?_)
 refine cb H Y (fun H => ?_) (fun H => ?_)
 refine sR (p_ 1 Y (ng (rt (tr ?_))))
 exact r1 4 Y Y Y H
 refine sk (tg (cs (sR (p_ 1 Y (ng (ck ?_))))))
 refine AtC.loopM (fun (s0 : Int) => [(5, Value.int .i64 s0)]) (fun (s0 : Int) => []) [2, 3] [5, 2, 3] [0, 1] [0, 1] H Y Y Y (by decide) Y (fun Kp2 s0 h3 H Q2 HK2 => ?_)
 refine cs (sR (p_ 2 Y (lq Y (l_ 1 Y) (p_ 2 Y (ng ?_)))))
 refine cb H Y (fun H => ?_) (fun H => ?_)
 refine sk (tg (cs (ck ?_)))
 refine AtC.joinSeq (β := Unit) (fun (t0u1 : Bool) (bb_1 : Unit) => [(56, Value.bool t0u1)]) (fun (t0u1 : Bool) (bb_1 : Unit) => []) [2, 3, 5] [0, 1] H Y Y (fun t0u1 bb_1 h4 H => ?_) (fun J3 H HK3 => ?_)
 refine cb H Y (fun H => ?_) (fun H => ?_)
 refine sR (p_ 1 Y (ng (rt (br (tr (tr (br ?_)))))))
 refine tr ?_
 exact r1 4 Y Y Y H
 refine sk (bn (tg (rg (p_ 3 Y (nl ?_)))))
 exact pk (HK2 _ _ (H _ rfl)) [5, 2, 3] [0, 1] Y
 obtain ⟨a_, hc3, hd3, H⟩ := H
 obtain ⟨v_1, hc4, H⟩ := H
 obtain ⟨a_1_, hc5, hd5, H⟩ := H
 obtain ⟨v_2, hc6, H⟩ := H
 rcases iteB.cases H with ⟨hb7, H⟩ | ⟨hb7, H⟩
 apply AtC.stages [26] A4u0 G4u0 hmix (by kernel_rfl) (nm 28 [_, _, _, _, _, _, _, _, _, _, _, _, _, _, _, _, _, _, _, _, _, _, _, _, _, _]) Y 1 Y
 refine Stg.known (t := 41) Y hb7 (Stg.go (ra 26) [26] Y Y (q_ Y (qq Y (l_ 1 Y) Y (q_ Y (qq Y (qi hT Y Y Y Y Y hc3 hd3) Y (q_ Y (qq Y (ql hT Y Y Y hc4) Y (q_ Y (qq Y (l_ 0 Y) Y (q_ Y (qq Y (qi hT Y Y Y Y Y hc5 hd5) Y (q_ Y (qq Y (ql hT Y Y Y hc6) Y (q_ Y (QAll.cons (QOp.pk hT Y Y Y Y hb7 Y) (qn Y Y Y Y (by decide) Y Y (qn Y Y Y Y (by decide) Y Y (qn Y Y Y Y (by decide) Y Y (qn Y Y Y Y (by decide) Y Y (qn Y Y Y Y (by decide) Y Y (qn Y Y Y Y (by decide) Y Y (qn Y Y Y Y (by decide) Y Y (qn Y Y Y Y (by decide) Y Y (qn Y Y Y Y (by decide) Y Y (qn Y Y Y Y (by decide) Y Y (qn Y Y Y Y (by decide) Y Y (qn Y Y Y Y (by decide) Y Y qz)))))))))))))))))))))))))) ?_)
 refine EAll.cons ?_ EAll.nil
 refine EOp.no Y Y Y Y (by decide) Y ?_
 apply Stg.next (nm 54 [_, _, _]) Y Y
 refine Stg.fin [27, 28] Y Y (qn Y Y Y Y (by decide) Y Y (q_ Y qz)) ?_
 exact pk (HK3 _ () _ H) [56, 2, 3, 5] [0, 1] Y
 obtain ⟨a_2_, hc8, hd8, H⟩ := H
 obtain ⟨v_3, hc9, H⟩ := H
 obtain ⟨a_3_, hc10, hd10, H⟩ := H
 obtain ⟨v_4, hc11, H⟩ := H
 apply AtC.stages [26] A4u0 G4u0 hmix (by kernel_rfl) (nm 28 [_, _, _, _, _, _, _, _, _, _, _, _, _, _, _, _, _, _, _, _, _, _, _, _, _, _]) Y 1 Y
 refine Stg.known (t := 41) Y hb7 (Stg.go (ra 26) [26] Y Y (q_ Y (qq Y (l_ 1 Y) Y (q_ Y (qq Y (qi hT Y Y Y Y Y hc3 hd3) Y (q_ Y (qq Y (ql hT Y Y Y hc4) Y (q_ Y (qq Y (l_ 0 Y) Y (q_ Y (qq Y (qi hT Y Y Y Y Y hc5 hd5) Y (q_ Y (qq Y (ql hT Y Y Y hc6) Y (q_ Y (QAll.cons (QOp.pk hT Y Y Y Y hb7 Y) (QAll.cons (QOp.yp hT Y Y Y Y Y Y Y) (QAll.cons (QOp.y Y Y Y Y (l_ 1 Y) Y Y) (QAll.cons (QOp.yp hT Y Y Y Y Y Y Y) (QAll.cons (QOp.y Y Y Y Y (qi hT Y Y Y Y Y hc8 hd8) Y Y) (QAll.cons (QOp.yp hT Y Y Y Y Y Y Y) (QAll.cons (QOp.y Y Y Y Y (qs hT Y Y Y Y hc9) Y Y) (QAll.cons (QOp.yp hT Y Y Y Y Y Y Y) (QAll.cons (QOp.y Y Y Y Y (l_ 0 Y) Y Y) (QAll.cons (QOp.yp hT Y Y Y Y Y Y Y) (QAll.cons (QOp.y Y Y Y Y (qi hT Y Y Y Y Y hc10 hd10) Y Y) (QAll.cons (QOp.yp hT Y Y Y Y Y Y Y) (QAll.cons (QOp.y Y Y Y Y (qs hT Y Y Y Y hc11) Y Y) qz)))))))))))))))))))))))))) ?_)
 refine EAll.cons ?_ EAll.nil
 refine EOp.y Y Y Y Y Y (cl (fun h => ref02uSame _ _ h _) H Y Tryz.call47 Y (fun w m hr hw => lift_ref02uSame _ _ w m hr _ hw)) ?_
 rintro _ _ ⟨v_5, h5, rfl, rfl, H⟩
 apply Stg.next (nm 54 [_, _, _]) Y Y
 refine Stg.fin [27, 28] Y Y (QAll.cons (QOp.yp hT Y Y Y Y Y Y Y) (q_ Y qz)) ?_
 exact pk (HK3 _ () _ H) [56, 2, 3, 5] [0, 1] Y
 refine xt (tx (tx (bh (tg (sR (p_ 1 Y (ng ?_)))))))
 refine rt ?_
 exact r1 4 Y Y Y H
 refine rg (p_ 1 Y (lq Y (s_ 1 [_, _, _] Y) (p_ 1 Y (lq Y (s_ 0 [_, _, _] Y) (lc (lift_ref02uSame _ _) H Tryz.call47 Y fun v h2 H => p_ 2 Y ?_)))))
 refine AtL.splitB (t := 12) H Y (fun H => ?_) (fun H => ?_)
 refine p_ 8 Y (nl ?_)
 exact pk (HK1 _ () _ H) [20, 2, 3] [0, 1] Y
 refine p_ 3 Y (lq Y (l_ 1 Y) (p_ 5 Y (lq Y (l_ 0 Y) (p_ 5 Y (nl ?_)))))
 exact pk (HK1 _ () _ H) [20, 2, 3] [0, 1] Y
theorem lift_ref03uSame (x0 : Bool × Sl × Sl × Bool × Sl × Sl) (y : Bool × Sl × Sl × Bool × Sl × Sl) : Lf Tryz.prog 68 [Value.agg (C_bool_sl_sl_bool_sl_sl x0).toArray, Value.agg (C_bool_sl_sl_bool_sl_sl y).toArray] Value.bool (ref03uSame x0 y) := by
 refine Lf.go Tryz.func68 Tryz.ntmps68 Y Y [0, 1] Y fun w m S H => ?_
 unfold ref03uSame at H
 refine sR (bx [_, _, _, _, _, _] H Y Y Y Y fun b _ H => bx [_, _, _, _, _, _] H Y Y Y Y fun b_1 _ H => p_ 1 Y (ng ?_))
 refine AtC.joinSeq (β := Unit) (fun (t0 : Bool) (bb : Unit) => [(4, Value.bool t0)]) (fun (t0 : Bool) (bb : Unit) => []) [] [] H.self Y Y (fun t0 bb h1 H => ?_) (fun J1 H HK1 => ?_)
 refine rt ?_
 exact r1 4 Y Y Y H
 refine rg (p_ 1 Y (lq Y (s_ 1 [_, _, _] Y) (p_ 1 Y (lq Y (s_ 0 [_, _, _] Y) (lc (lift_ref02uSame _ _) H Tryz.call47 Y fun v h2 H => p_ 1 Y ?_)))))
 refine AtL.splitB (t := 10) H Y (fun H => ?_) (fun H => ?_)
 refine p_ 3 Y (lq Y (s_ 1 [_, _, _] Y) (p_ 3 Y (lq Y (s_ 0 [_, _, _] Y) (p_ 1 Y (lc (lift_ref02uSame _ _) H Tryz.call47 Y fun v_1 h3 H => p_ 2 Y (nl ?_))))))
 exact pk (HK1 _ () _ H) [4] [] Y
 refine p_ 7 Y (nl ?_)
 exact pk (HK1 _ () _ H) [4] [] Y
theorem lift_ref14uSame (s0 : Sl × Sl × Sl × Sl × Sl) (t0 : Sl × Sl × Sl × Sl × Sl) : Lf Tryz.prog 23 [Value.agg (C_sl_sl_sl_sl_sl s0).toArray, Value.agg (C_sl_sl_sl_sl_sl t0).toArray] Value.bool (ref14uSame s0 t0) := by
 refine Lf.go Tryz.func23 Tryz.ntmps23 Y Y [0, 1] Y fun w m S H => ?_
 unfold ref14uSame at H
 refine sR (bx [_, _, _, _, _] H Y Y Y Y fun b _ H => bx [_, _, _, _, _] H Y Y Y Y fun b_1 _ H => p_ 1 Y (ng (cs ?_)))
 refine AtC.joinSeq (β := Unit) (fun (t0u1 : Bool) (bb : Unit) => [(52, Value.bool t0u1)]) (fun (t0u1 : Bool) (bb : Unit) => []) [2, 3] [0, 1] H.self Y Y (fun t0u1 bb h1 H => ?_) (fun J1 H HK1 => ?_)
 refine cb H Y (fun H => ?_) (fun H => ?_)
 refine sR (p_ 1 Y (ng (rt (tr ?_))))
 exact r1 4 Y Y Y H
 refine sk (tg (cs (sR (p_ 1 Y (ng (ck ?_))))))
 refine AtC.loopM (fun (s0u1 : Int) => [(5, Value.int .i64 s0u1)]) (fun (s0u1 : Int) => []) [2, 3] [5, 2, 3] [0, 1] [0, 1] H Y Y Y (by decide) Y (fun Kp2 s0u1 h2 H Q2 HK2 => ?_)
 refine cs (sR (p_ 2 Y (lq Y (l_ 1 Y) (p_ 2 Y (ng ?_)))))
 refine cb H Y (fun H => ?_) (fun H => ?_)
 refine sk (tg (cs (ck (AtC.seqD hmix (by kernel_rfl) (AtD.pures hT 1 _ _ _ _ Y (AtD.q Y (l_ 1 Y) (AtD.pures hT 1 _ _ _ _ Y ?_)))))))
 obtain ⟨a_, hc2, hd2, H⟩ := H
 refine AtD.q Y (qi hT Y Y Y Y Y hc2 hd2) ?_
 obtain ⟨v, hc3, H⟩ := H
 refine AtD.q Y (ql hT Y Y Y hc3) (AtD.pures hT 1 _ _ _ _ Y (AtD.q Y (l_ 0 Y) (AtD.pures hT 1 _ _ _ _ Y ?_)))
 obtain ⟨a_1_, hc4, hd4, H⟩ := H
 refine AtD.q Y (qi hT Y Y Y Y Y hc4 hd4) ?_
 obtain ⟨v_1, hc5, H⟩ := H
 refine AtD.q Y (ql hT Y Y Y hc5) (AtD.pures hT 1 _ _ _ _ Y (AtD.nil (tg ?_)))
 refine cb H Y (fun H => ?_) (fun H => ?_)
 refine sR (p_ 1 Y (ng (rt (br (tr (tr (br ?_)))))))
 refine tr ?_
 exact r1 4 Y Y Y H
 refine sk (bn (tg (rg (p_ 3 Y (nl ?_)))))
 exact pk (HK2 _ _ (H _ rfl)) [5, 2, 3] [0, 1] Y
 refine xt (tx (tx (bh (tg (cs (sR (p_ 1 Y ?_)))))))
 refine ng (ck ?_)
 refine AtC.loopM (fun (s0u2 : Int) => [(6, Value.int .i64 s0u2)]) (fun (s0u2 : Int) => []) [2, 3] [6, 2, 3] [0, 1] [0, 1] H Y Y Y (by decide) Y (fun Kp7 s0u2 h3 H Q7 HK7 => ?_)
 refine cs (sR (p_ 2 Y (lq Y (l_ 1 Y) (p_ 2 Y (ng ?_)))))
 refine cb H Y (fun H => ?_) (fun H => ?_)
 refine sk (tg (cs (ck ?_)))
 obtain ⟨a_2_, hc7, hd7, H⟩ := H
 obtain ⟨v_2, hc8, H⟩ := H
 obtain ⟨a_3_, hc9, hd9, H⟩ := H
 obtain ⟨v_3, hc10, H⟩ := H
 apply AtC.seqS [10] A4u1 G4u1 hmix (by kernel_rfl) (nm 78 [_, _, _, _, _, _, _, _, _, _]) Y 1 Y
 refine Stg.go (ra 10) [10] Y Y (q_ Y (qq Y (l_ 1 Y) Y (q_ Y (qq Y (qi hT Y Y Y Y Y hc7 hd7) Y (qq Y (qs hT Y Y Y Y hc8) Y (q_ Y (qq Y (l_ 0 Y) Y (q_ Y (qq Y (qi hT Y Y Y Y Y hc9 hd9) Y (qq Y (qs hT Y Y Y Y hc10) Y qz)))))))))) (ec (lift_ref12uSame _ _) H Tryz.call76 Y fun v_4 h4 H => ?_)
 apply Stg.next [(88, _), (89, _)] Y Y
 refine Stg.fin [11] Y Y (q_ Y qz) (tg ?_)
 refine cb H Y (fun H => ?_) (fun H => ?_)
 refine sR (p_ 1 Y (ng (rt (br (tr (tr (br ?_)))))))
 refine tr ?_
 exact r1 4 Y Y Y H
 refine sk (bn (tg (rg (p_ 3 Y (nl ?_)))))
 exact pk (HK7 _ _ (H _ rfl)) [6, 2, 3] [0, 1] Y
 refine xt (tx (tx (bh (tg (cs (sR (p_ 1 Y ?_)))))))
 refine ng (ck ?_)
 refine AtC.loopM (fun (s0u3 : Int) => [(7, Value.int .i64 s0u3)]) (fun (s0u3 : Int) => []) [2, 3] [7, 2, 3] [0, 1] [0, 1] H Y Y Y (by decide) Y (fun Kp12 s0u3 h5 H Q12 HK12 => ?_)
 refine cs (sR (p_ 2 Y (lq Y (l_ 1 Y) (p_ 2 Y (ng ?_)))))
 refine cb H Y (fun H => ?_) (fun H => ?_)
 refine sk (tg (cs (ck ?_)))
 obtain ⟨a_4_, hc12, hd12, H⟩ := H
 obtain ⟨v_5, hc13, H⟩ := H
 obtain ⟨a_5_, hc14, hd14, H⟩ := H
 obtain ⟨v_6, hc15, H⟩ := H
 apply AtC.seqS [10] A4u1 G4u1 hmix (by kernel_rfl) (nm 97 [_, _, _, _, _, _, _, _, _, _]) Y 1 Y
 refine Stg.go (ra 10) [10] Y Y (q_ Y (qq Y (l_ 1 Y) Y (q_ Y (qq Y (qi hT Y Y Y Y Y hc12 hd12) Y (qq Y (qs hT Y Y Y Y hc13) Y (q_ Y (qq Y (l_ 0 Y) Y (q_ Y (qq Y (qi hT Y Y Y Y Y hc14 hd14) Y (qq Y (qs hT Y Y Y Y hc15) Y qz)))))))))) (ec (lift_ref03uSame _ _) H Tryz.call68 Y fun v_7 h6 H => ?_)
 apply Stg.next [(107, _), (108, _)] Y Y
 refine Stg.fin [11] Y Y (q_ Y qz) (tg ?_)
 refine cb H Y (fun H => ?_) (fun H => ?_)
 refine sR (p_ 1 Y (ng (rt (br (tr (tr (br ?_)))))))
 refine tr ?_
 exact r1 4 Y Y Y H
 refine sk (bn (tg (rg (p_ 3 Y (nl ?_)))))
 exact pk (HK12 _ _ (H _ rfl)) [7, 2, 3] [0, 1] Y
 refine xt (tx (tx (bh (tg (cs (sR (p_ 1 Y ?_)))))))
 refine ng (ck ?_)
 refine AtC.loopM (fun (s0u4 : Int) => [(8, Value.int .i64 s0u4)]) (fun (s0u4 : Int) => []) [2, 3] [8, 2, 3] [0, 1] [0, 1] H Y Y Y (by decide) Y (fun Kp17 s0u4 h7 H Q17 HK17 => ?_)
 refine cs (sR (p_ 2 Y (lq Y (l_ 1 Y) (p_ 2 Y (ng ?_)))))
 refine cb H Y (fun H => ?_) (fun H => ?_)
 refine sk (tg (cs (ck ?_)))
 refine AtC.joinSeq (β := Unit) (fun (t0u2 : Bool) (bb_1 : Unit) => [(144, Value.bool t0u2)]) (fun (t0u2 : Bool) (bb_1 : Unit) => []) [2, 3, 8] [0, 1] H Y Y (fun t0u2 bb_1 h8 H => ?_) (fun J18 H HK18 => ?_)
 refine cb H Y (fun H => ?_) (fun H => ?_)
 refine sR (p_ 1 Y (ng (rt (br (tr (tr (br ?_)))))))
 refine tr ?_
 exact r1 4 Y Y Y H
 refine sk (bn (tg (rg (p_ 3 Y (nl ?_)))))
 exact pk (HK17 _ _ (H _ rfl)) [8, 2, 3] [0, 1] Y
 obtain ⟨a_6_, hc18, hd18, H⟩ := H
 obtain ⟨v_8, hc19, H⟩ := H
 obtain ⟨a_7_, hc20, hd20, H⟩ := H
 obtain ⟨v_9, hc21, H⟩ := H
 rcases iteB.cases H with ⟨hb22, H⟩ | ⟨hb22, H⟩
 apply AtC.stages [26] A4u0 G4u0 hmix (by kernel_rfl) (nm 116 [_, _, _, _, _, _, _, _, _, _, _, _, _, _, _, _, _, _, _, _, _, _, _, _, _, _]) Y 1 Y
 refine Stg.known (t := 129) Y hb22 (Stg.go (ra 26) [26] Y Y (q_ Y (qq Y (l_ 1 Y) Y (q_ Y (qq Y (qi hT Y Y Y Y Y hc18 hd18) Y (q_ Y (qq Y (ql hT Y Y Y hc19) Y (q_ Y (qq Y (l_ 0 Y) Y (q_ Y (qq Y (qi hT Y Y Y Y Y hc20 hd20) Y (q_ Y (qq Y (ql hT Y Y Y hc21) Y (q_ Y (QAll.cons (QOp.pk hT Y Y Y Y hb22 Y) (qn Y Y Y Y (by decide) Y Y (qn Y Y Y Y (by decide) Y Y (qn Y Y Y Y (by decide) Y Y (qn Y Y Y Y (by decide) Y Y (qn Y Y Y Y (by decide) Y Y (qn Y Y Y Y (by decide) Y Y (qn Y Y Y Y (by decide) Y Y (qn Y Y Y Y (by decide) Y Y (qn Y Y Y Y (by decide) Y Y (qn Y Y Y Y (by decide) Y Y (qn Y Y Y Y (by decide) Y Y (qn Y Y Y Y (by decide) Y Y qz)))))))))))))))))))))))))) ?_)
 refine EAll.cons ?_ EAll.nil
 refine EOp.no Y Y Y Y (by decide) Y ?_
 apply Stg.next (nm 142 [_, _, _]) Y Y
 refine Stg.fin [27, 28] Y Y (qn Y Y Y Y (by decide) Y Y (q_ Y qz)) ?_
 exact pk (HK18 _ () _ H) [144, 2, 3, 8] [0, 1] Y
 obtain ⟨a_8_, hc23, hd23, H⟩ := H
 obtain ⟨v_10, hc24, H⟩ := H
 obtain ⟨a_9_, hc25, hd25, H⟩ := H
 obtain ⟨v_11, hc26, H⟩ := H
 apply AtC.stages [26] A4u0 G4u0 hmix (by kernel_rfl) (nm 116 [_, _, _, _, _, _, _, _, _, _, _, _, _, _, _, _, _, _, _, _, _, _, _, _, _, _]) Y 1 Y
 refine Stg.known (t := 129) Y hb22 (Stg.go (ra 26) [26] Y Y (q_ Y (qq Y (l_ 1 Y) Y (q_ Y (qq Y (qi hT Y Y Y Y Y hc18 hd18) Y (q_ Y (qq Y (ql hT Y Y Y hc19) Y (q_ Y (qq Y (l_ 0 Y) Y (q_ Y (qq Y (qi hT Y Y Y Y Y hc20 hd20) Y (q_ Y (qq Y (ql hT Y Y Y hc21) Y (q_ Y (QAll.cons (QOp.pk hT Y Y Y Y hb22 Y) (QAll.cons (QOp.yp hT Y Y Y Y Y Y Y) (QAll.cons (QOp.y Y Y Y Y (l_ 1 Y) Y Y) (QAll.cons (QOp.yp hT Y Y Y Y Y Y Y) (QAll.cons (QOp.y Y Y Y Y (qi hT Y Y Y Y Y hc23 hd23) Y Y) (QAll.cons (QOp.yp hT Y Y Y Y Y Y Y) (QAll.cons (QOp.y Y Y Y Y (qs hT Y Y Y Y hc24) Y Y) (QAll.cons (QOp.yp hT Y Y Y Y Y Y Y) (QAll.cons (QOp.y Y Y Y Y (l_ 0 Y) Y Y) (QAll.cons (QOp.yp hT Y Y Y Y Y Y Y) (QAll.cons (QOp.y Y Y Y Y (qi hT Y Y Y Y Y hc25 hd25) Y Y) (QAll.cons (QOp.yp hT Y Y Y Y Y Y Y) (QAll.cons (QOp.y Y Y Y Y (qs hT Y Y Y Y hc26) Y Y) qz)))))))))))))))))))))))))) ?_)
 refine EAll.cons ?_ EAll.nil
 refine EOp.y Y Y Y Y Y (cl (fun h => ref03uSame _ _ h _) H Y Tryz.call68 Y (fun w m hr hw => lift_ref03uSame _ _ w m hr _ hw)) ?_
 rintro _ _ ⟨v_12, h9, rfl, rfl, H⟩
 apply Stg.next (nm 142 [_, _, _]) Y Y
 refine Stg.fin [27, 28] Y Y (QAll.cons (QOp.yp hT Y Y Y Y Y Y Y) (q_ Y qz)) ?_
 exact pk (HK18 _ () _ H) [144, 2, 3, 8] [0, 1] Y
 refine xt (tx (tx (bh (tg (cs (sR (p_ 1 Y ?_)))))))
 refine ng (ck ?_)
 refine AtC.loopM (fun (s0u5 : Int) => [(9, Value.int .i64 s0u5)]) (fun (s0u5 : Int) => []) [2, 3] [9, 2, 3] [0, 1] [0, 1] H Y Y Y (by decide) Y (fun Kp28 s0u5 h10 H Q28 HK28 => ?_)
 refine cs (sR (p_ 2 Y (lq Y (l_ 1 Y) (p_ 2 Y (ng ?_)))))
 refine cb H Y (fun H => ?_) (fun H => ?_)
 refine sk (tg (cs (ck ?_)))
 refine AtC.joinSeq (β := Unit) (fun (t0u3 : Bool) (bb_2 : Unit) => [(180, Value.bool t0u3)]) (fun (t0u3 : Bool) (bb_2 : Unit) => []) [2, 3, 9] [0, 1] H Y Y (fun t0u3 bb_2 h11 H => ?_) (fun J29 H HK29 => ?_)
 refine cb H Y (fun H => ?_) (fun H => ?_)
 refine sR (p_ 1 Y (ng (rt (br (tr (tr (br ?_)))))))
 refine tr ?_
 exact r1 4 Y Y Y H
 refine sk (bn (tg (rg (p_ 3 Y (nl ?_)))))
 exact pk (HK28 _ _ (H _ rfl)) [9, 2, 3] [0, 1] Y
 obtain ⟨a_10_, hc29, hd29, H⟩ := H
 obtain ⟨v_13, hc30, H⟩ := H
 obtain ⟨a_11_, hc31, hd31, H⟩ := H
 obtain ⟨v_14, hc32, H⟩ := H
 rcases iteB.cases H with ⟨hb33, H⟩ | ⟨hb33, H⟩
 apply AtC.stages [26] A4u0 G4u0 hmix (by kernel_rfl) (nm 152 [_, _, _, _, _, _, _, _, _, _, _, _, _, _, _, _, _, _, _, _, _, _, _, _, _, _]) Y 1 Y
 refine Stg.known (t := 165) Y hb33 (Stg.go (ra 26) [26] Y Y (q_ Y (qq Y (l_ 1 Y) Y (q_ Y (qq Y (qi hT Y Y Y Y Y hc29 hd29) Y (q_ Y (qq Y (ql hT Y Y Y hc30) Y (q_ Y (qq Y (l_ 0 Y) Y (q_ Y (qq Y (qi hT Y Y Y Y Y hc31 hd31) Y (q_ Y (qq Y (ql hT Y Y Y hc32) Y (q_ Y (QAll.cons (QOp.pk hT Y Y Y Y hb33 Y) (qn Y Y Y Y (by decide) Y Y (qn Y Y Y Y (by decide) Y Y (qn Y Y Y Y (by decide) Y Y (qn Y Y Y Y (by decide) Y Y (qn Y Y Y Y (by decide) Y Y (qn Y Y Y Y (by decide) Y Y (qn Y Y Y Y (by decide) Y Y (qn Y Y Y Y (by decide) Y Y (qn Y Y Y Y (by decide) Y Y (qn Y Y Y Y (by decide) Y Y (qn Y Y Y Y (by decide) Y Y (qn Y Y Y Y (by decide) Y Y qz)))))))))))))))))))))))))) ?_)
 refine EAll.cons ?_ EAll.nil
 refine EOp.no Y Y Y Y (by decide) Y ?_
 apply Stg.next (nm 178 [_, _, _]) Y Y
 refine Stg.fin [27, 28] Y Y (qn Y Y Y Y (by decide) Y Y (q_ Y qz)) ?_
 exact pk (HK29 _ () _ H) [180, 2, 3, 9] [0, 1] Y
 obtain ⟨a_12_, hc34, hd34, H⟩ := H
 obtain ⟨v_15, hc35, H⟩ := H
 obtain ⟨a_13_, hc36, hd36, H⟩ := H
 obtain ⟨v_16, hc37, H⟩ := H
 apply AtC.stages [26] A4u0 G4u0 hmix (by kernel_rfl) (nm 152 [_, _, _, _, _, _, _, _, _, _, _, _, _, _, _, _, _, _, _, _, _, _, _, _, _, _]) Y 1 Y
 refine Stg.known (t := 165) Y hb33 (Stg.go (ra 26) [26] Y Y (q_ Y (qq Y (l_ 1 Y) Y (q_ Y (qq Y (qi hT Y Y Y Y Y hc29 hd29) Y (q_ Y (qq Y (ql hT Y Y Y hc30) Y (q_ Y (qq Y (l_ 0 Y) Y (q_ Y (qq Y (qi hT Y Y Y Y Y hc31 hd31) Y (q_ Y (qq Y (ql hT Y Y Y hc32) Y (q_ Y (QAll.cons (QOp.pk hT Y Y Y Y hb33 Y) (QAll.cons (QOp.yp hT Y Y Y Y Y Y Y) (QAll.cons (QOp.y Y Y Y Y (l_ 1 Y) Y Y) (QAll.cons (QOp.yp hT Y Y Y Y Y Y Y) (QAll.cons (QOp.y Y Y Y Y (qi hT Y Y Y Y Y hc34 hd34) Y Y) (QAll.cons (QOp.yp hT Y Y Y Y Y Y Y) (QAll.cons (QOp.y Y Y Y Y (qs hT Y Y Y Y hc35) Y Y) (QAll.cons (QOp.yp hT Y Y Y Y Y Y Y) (QAll.cons (QOp.y Y Y Y Y (l_ 0 Y) Y Y) (QAll.cons (QOp.yp hT Y Y Y Y Y Y Y) (QAll.cons (QOp.y Y Y Y Y (qi hT Y Y Y Y Y hc36 hd36) Y Y) (QAll.cons (QOp.yp hT Y Y Y Y Y Y Y) (QAll.cons (QOp.y Y Y Y Y (qs hT Y Y Y Y hc37) Y Y) qz)))))))))))))))))))))))))) ?_)
 refine EAll.cons ?_ EAll.nil
 refine EOp.y Y Y Y Y Y (cl (fun h => ref03uSame _ _ h _) H Y Tryz.call68 Y (fun w m hr hw => lift_ref03uSame _ _ w m hr _ hw)) ?_
 rintro _ _ ⟨v_17, h12, rfl, rfl, H⟩
 apply Stg.next (nm 178 [_, _, _]) Y Y
 refine Stg.fin [27, 28] Y Y (QAll.cons (QOp.yp hT Y Y Y Y Y Y Y) (q_ Y qz)) ?_
 exact pk (HK29 _ () _ H) [180, 2, 3, 9] [0, 1] Y
 refine xt (tx (tx (bh (tg (sR (p_ 1 Y (ng ?_)))))))
 refine rt ?_
 exact r1 4 Y Y Y H
 refine rg (p_ 1 Y (lq Y (l_ 1 Y) (p_ 2 Y (lq Y (l_ 0 Y) (p_ 3 Y ?_)))))
 refine AtL.splitB (t := 17) H Y (fun H => ?_) (fun H => ?_)
 refine p_ 35 Y (nl ?_)
 exact pk (HK1 _ () _ H) [52, 2, 3] [0, 1] Y
 refine p_ 3 Y (lq Y (l_ 1 Y) (p_ 5 Y (lq Y (l_ 0 Y) (p_ 6 Y ?_))))
 refine AtL.splitB (t := 26) H Y (fun H => ?_) (fun H => ?_)
 refine p_ 26 Y (nl ?_)
 exact pk (HK1 _ () _ H) [52, 2, 3] [0, 1] Y
 refine p_ 3 Y (lq Y (l_ 1 Y) (p_ 5 Y (lq Y (l_ 0 Y) (p_ 6 Y ?_))))
 refine AtL.splitB (t := 35) H Y (fun H => ?_) (fun H => ?_)
 refine p_ 17 Y (nl ?_)
 exact pk (HK1 _ () _ H) [52, 2, 3] [0, 1] Y
 refine p_ 3 Y (lq Y (l_ 1 Y) (p_ 5 Y (lq Y (l_ 0 Y) (p_ 6 Y ?_))))
 refine AtL.splitB (t := 44) H Y (fun H => ?_) (fun H => ?_)
 refine p_ 8 Y (nl ?_)
 exact pk (HK1 _ () _ H) [52, 2, 3] [0, 1] Y
 refine p_ 3 Y (lq Y (l_ 1 Y) (p_ 5 Y (lq Y (l_ 0 Y) (p_ 5 Y (nl ?_)))))
 exact pk (HK1 _ () _ H) [52, 2, 3] [0, 1] Y
theorem lift_nat_Right (x0 : Sl) : Lf Tryz.prog 107 [Sl.toV x0] Value.bool (nat_Right x0) := by
 refine Lf.go Tryz.func107 Tryz.ntmps107 Y Y [0] Y fun w m S H => ?_
 unfold nat_Right at H
 refine sR (p_ 1 Y (ng (sR (p_ 1 Y (lc (lift_nat_trim _) H Tryz.call116 Y fun v h0 H => p_ 5 Y (ng ?_))))))
 refine rt ?_
 exact r1 2 Y Y Y H
theorem lift_ratio_Right (x0 : Bool × Sl × Sl) : Lf Tryz.prog 42 [Value.agg (C_bool_sl_sl x0).toArray] Value.bool (ratio_Right x0) := by
 refine Lf.go Tryz.func42 Tryz.ntmps42 Y Y [0] Y fun w m S H => ?_
 unfold ratio_Right at H
 refine sR (bx [_, _, _] H Y Y Y Y fun b _ H => p_ 1 Y (ng (cs (ck ?_))))
 refine AtC.joinSeq (β := Unit) (fun (t0 : Bool) (bb : Unit) => [(3, Value.bool t0)]) (fun (t0 : Bool) (bb : Unit) => []) [1] [0] H.self Y Y (fun t0 bb h1 H => ?_) (fun J1 H HK1 => ?_)
 refine cb H Y (fun H => ?_) (fun H => ?_)
 refine sR (p_ 1 Y (ng (rt (br (tr ?_)))))
 exact r1 2 Y Y Y H
 refine sR (p_ 2 Y (lq Y (l_ 0 Y) (p_ 3 Y (ng ?_))))
 refine cb H Y (fun H => ?_) (fun H => ?_)
 refine AtC.joinSeq (β := Unit) (fun (t0u1 : Bool) (bb_1 : Unit) => [(2, Value.bool t0u1)]) (fun (t0u1 : Bool) (bb_1 : Unit) => []) [] [] H Y Y (fun t0u1 bb_1 h5 H => ?_) (fun J2 H HK2 => ?_)
 refine rt (br (tr ?_))
 exact r1 2 Y Y Y H
 refine rg (p_ 2 Y (lq Y (l_ 0 Y) (p_ 2 Y ?_)))
 refine AtL.splitB (t := 30) H Y (fun H => ?_) (fun H => ?_)
 refine p_ 3 Y (lq Y (l_ 0 Y) (p_ 6 Y (nl ?_)))
 exact pk (HK2 _ () _ H) [2] [] Y
 refine p_ 6 Y (nl ?_)
 exact pk (HK2 _ () _ H) [2] [] Y
 refine sk (bn (tg ?_))
 apply AtC.seqS [0, 5, 6, 7] [[], [], [], [], [], [0], [0, 5], [0, 5, 6], [0, 5, 6, 7]] [[], [], [1], [1, 2], [], [0, 4], (ra 6), (ra 7), (ra 8)] hmix (by kernel_rfl) (nm 37 [_, _, _, _]) Y 4 Y
 refine Stg.go [1, 2, 3, 4] [0] Y Y (q_ Y (q_ Y (qq Y (l_ 0 Y) Y (qq Y (s_ 0 [_, _, _] Y) Y qz)))) (eo Y (cl (fun h => ratio_free h _) H Y Tryz.call109 Y (fun w m hr hw => lift_ratio_free  w m hr _ hw)) ?_)
 rintro _ _ ⟨v_3, h6, rfl, rfl, H⟩
 apply Stg.next [(36, _)] Y Y
 refine Stg.go [1, 2, 3, 4] [5] Y Y (q_ Y (q_ Y (qq Y (l_ 0 Y) Y (qq Y (s_ 0 [_, _, _] Y) Y qz)))) (ec (lift_ratio_den _) H Tryz.call111 Y fun v_4 h7 H => ?_)
 apply Stg.next [(41, _)] Y Y
 refine Stg.go [1, 2, 3] [6] Y Y (q_ Y (q_ Y (qq Y (l_ 0 Y) Y qz))) (ec (lift_nat_Bench_Gcd _ _ _) H Tryz.call110 Y fun v_5 h8 H => ?_)
 apply Stg.next [(42, _)] Y Y
 refine Stg.go [] [7] Y Y qz (ec (lift_ratio_isOne _) H Tryz.call108 Y fun v_6 h9 H => ?_)
 apply Stg.next [(43, _), (2, _)] Y Y
 refine Stg.fin [8] Y Y (q_ Y qz) (tg (rt ?_))
 exact r1 2 Y Y Y H
 refine rg (p_ 2 Y (lq Y (l_ 0 Y) (lc (lift_nat_Right _) H Tryz.call107 Y fun v h2 H => p_ 2 Y ?_)))
 refine AtL.splitB (t := 9) H Y (fun H => ?_) (fun H => ?_)
 refine p_ 11 Y (nl ?_)
 exact pk (HK1 _ () _ H) [3, 1] [0] Y
 refine p_ 3 Y (lq Y (l_ 0 Y) (p_ 1 Y (lc (lift_nat_Right _) H Tryz.call107 Y fun v_1 h3 H => p_ 4 Y ?_)))
 refine AtL.splitB (t := 15) H Y (fun H => ?_) (fun H => ?_)
 refine p_ 5 Y (nl ?_)
 exact pk (HK1 _ () _ H) [3, 1] [0] Y
 refine p_ 3 Y (lq Y (l_ 0 Y) (p_ 1 Y (lc (lift_ratio_isOne _) H Tryz.call108 Y fun v_2 h4 H => p_ 2 Y (nl ?_))))
 exact pk (HK1 _ () _ H) [3, 1] [0] Y
theorem lift_tableau_Right_c1 (x0 : Bool × Sl × Sl × Bool × Sl × Sl) : Lf Tryz.prog 55 [Value.agg (C_bool_sl_sl_bool_sl_sl x0).toArray] Value.bool (tableau_Right_c1 x0) := by
 refine Lf.go Tryz.func55 Tryz.ntmps55 Y Y [0] Y fun w m S H => ?_
 unfold tableau_Right_c1 at H
 refine sR (bx [_, _, _, _, _, _] H Y Y Y Y fun b _ H => p_ 1 Y (ng ?_))
 refine AtC.joinSeq (β := Unit) (fun (t0 : Bool) (bb : Unit) => [(2, Value.bool t0)]) (fun (t0 : Bool) (bb : Unit) => []) [] [] H.self Y Y (fun t0 bb h1 H => ?_) (fun J1 H HK1 => ?_)
 refine rt ?_
 exact r1 2 Y Y Y H
 refine rg (p_ 1 Y (lq Y (s_ 0 [_, _, _] Y) (lc (lift_ratio_Right _) H Tryz.call42 Y fun v h2 H => p_ 1 Y ?_)))
 refine AtL.splitB (t := 6) H Y (fun H => ?_) (fun H => ?_)
 refine p_ 3 Y (lq Y (s_ 0 [_, _, _] Y) (p_ 1 Y (lc (lift_ratio_Right _) H Tryz.call42 Y fun v_1 h3 H => p_ 2 Y (nl ?_))))
 exact pk (HK1 _ () _ H) [2] [] Y
 refine p_ 5 Y (nl ?_)
 exact pk (HK1 _ () _ H) [2] [] Y
theorem lift_tableau_Right_c2 (x0 : Bool × Sl × Sl × Bool × Sl × Sl) (c0 : Addr) : Lf Tryz.prog 57 [Value.agg (C_bool_sl_sl_bool_sl_sl x0).toArray, Value.pointer (some c0)] Value.bool (tableau_Right_c2 x0 c0) := by
 refine Lf.go Tryz.func57 Tryz.ntmps57 Y Y [0, 1] Y fun w m S H => ?_
 unfold tableau_Right_c2 at H
 refine sR (bx [_, _, _, _, _, _] H Y Y Y Y fun b _ H => p_ 1 Y (ng (sR (ld hT H.self Y Y Y Y fun _ H => lq Y (s_ 0 [_, _, _, _, _, _] Y) ?_))))
 obtain ⟨he1, H⟩ := H
 refine le Y (EffX.callFd (bs := []) (cs := []) (f := 55) (sh := fun h => tableau_Right_c1 _ h _) (H0 := H) Y Y he1 Tryz.call55 Y (hl := fun w m hr hw => lift_tableau_Right_c1 _ w m hr _ hw)) ?_
 rintro _ _ ⟨v_1, h1, rfl, rfl, H⟩
 refine p_ 2 Y (ng (rt ?_))
 exact r1 3 Y Y Y H
theorem lift_slices_IndexFunc_api_Delta_api_Delta__tableau_Right_c2 (s0 : Sl) (f_c : Addr) : Lf Tryz.prog 122 [Sl.toV s0, Value.func (.func 57) #[] #[Value.pointer (some f_c)]] (Value.int .i64) (slices_IndexFunc_api_Delta_api_Delta__tableau_Right_c2 s0 f_c) := by
 refine Lf.go Tryz.func122 Tryz.ntmps122 Y Y [0, 1] Y fun w m S H => ?_
 unfold slices_IndexFunc_api_Delta_api_Delta__tableau_Right_c2 at H
 refine sR (p_ 1 Y (ng (cs (sR (p_ 3 Y (ng (ck ?_)))))))
 refine AtC.loopM (fun (s0u1 : Int) => [(8, Value.int .i64 s0u1)]) (fun (s0u1 : Int) => []) [0, 1, 7] [8, 0, 1, 7] [] [] H Y Y Y (by decide) Y (fun Kp1 s0u1 h0 H Q1 HK1 => ?_)
 refine sR (p_ 1 Y (ng (cs ?_)))
 refine cb H Y (fun H => ?_) (fun H => ?_)
 refine sk (tg (cs (ck (sR (p_ 2 Y (ng (sR ?_)))))))
 refine p_ 3 Y (ix hT H Y Y Y Y Y Y fun _ H => lds hT H Y Y Y Y Y fun _ H => lcF (lift_tableau_Right_c2 _ _) H [] [_] Tryz.call57 Y Y Y Y Y fun v_1 h1 H => ng ?_)
 refine cb H Y (fun H => ?_) (fun H => ?_)
 refine sR (p_ 2 Y (ng (rt (br (tr (tr (br ?_)))))))
 refine tr ?_
 exact r1 4 Y Y Y H
 refine sk (bn (tg (rg (p_ 2 Y (nl ?_)))))
 exact pk (HK1 _ _ H) [8, 0, 1, 7] [] Y
 refine xt (tx (tx (bh (tg (sR (p_ 1 Y (ng ?_)))))))
 refine rt ?_
 exact r1 4 Y Y Y H
theorem lift_slices_ContainsFunc_api_Delta_api_Delta__tableau_Right_c2 (s0 : Sl) (f_c : Addr) : Lf Tryz.prog 56 [Sl.toV s0, Value.func (.func 57) #[] #[Value.pointer (some f_c)]] Value.bool (slices_ContainsFunc_api_Delta_api_Delta__tableau_Right_c2 s0 f_c) := by
 refine Lf.go Tryz.func56 Tryz.ntmps56 Y Y [0, 1] Y fun w m S H => ?_
 unfold slices_ContainsFunc_api_Delta_api_Delta__tableau_Right_c2 at H
 refine sR (p_ 1 Y (ng (sR (p_ 2 Y (lc (lift_slices_IndexFunc_api_Delta_api_Delta__tableau_Right_c2 _ _) H Tryz.call122 Y fun v h0 H => p_ 2 Y (ng ?_))))))
 refine rt ?_
 exact r1 4 Y Y Y H
theorem lift_slices_Grow_api_Edge_api_Edge (s0 : Sl) (n : Int) : Lf Tryz.prog 124 [Sl.toV s0, Value.int .i64 n] Sl.toV (slices_Grow_api_Edge_api_Edge s0 n) := by
 refine Lf.go Tryz.func124 Tryz.ntmps124 Y Y [0, 1] Y fun w m S H => ?_
 unfold slices_Grow_api_Edge_api_Edge at H
 refine sR (p_ 1 Y (ng ?_))
 refine AtC.joinSeq (β := Unit) (fun (t0 : Unit) (bb : Unit) => []) (fun (t0 : Unit) (bb : Unit) => []) [0, 1] [] H Y Y (fun t0 bb h0 H => ?_) (fun J1 H HK1 => ?_)
 refine AtC.joinSeq (β := Unit) (fun (t0u1 : Sl) (bb_1 : Unit) => [(0, Sl.toV t0u1)]) (fun (t0u1 : Sl) (bb_1 : Unit) => []) [] [] H Y Y (fun t0u1 bb_1 h1 H => ?_) (fun J2 H HK2 => ?_)
 refine sR (p_ 2 Y (ng (rt ?_)))
 exact r1 4 Y Y Y H
 refine sR (p_ 8 Y (ng (sR (p_ 2 Y (ng ?_)))))
 refine cb (H _ rfl) Y (fun H => ?_) (fun H => ?_)
 refine rg (p_ 3 Y ?_)
 refine AtL.sl (hT := hT) H Y Y Y Y Y Y Y (fun h => by cases h <;> rfl) Y (fun v H => ?_)
 refine p_ 1 Y (le Y (EffX.appendZ (s := _) hT Y Y Y Y Y Y Y Y Y (by decide) Y Y (by decide) H) ?_)
 rintro _ _ ⟨v_1, h2, rfl, rfl, H⟩
 refine p_ 2 Y ?_
 refine AtL.sl (hT := hT) H Y Y Y Y Y Y Y (fun h => by cases h <;> rfl) Y (fun v_2 H => ?_)
 refine p_ 1 Y (nl ?_)
 exact pk (HK2 _ () _ H) [0] [] Y
 refine sk ?_
 exact pk (HK2 _ () _ H) [0] [] Y
 refine sR (p_ 2 Y (ng ?_))
 refine cb H Y (fun H => ?_) (fun H => ?_)
 refine rg (lq Y (Quiet1.makeI hT Y Y (by intro m; nofun) Y) ?_)
 exact H.elim
 refine sk ?_
 exact pk (HK1 _ () _ H) [0, 1] [] Y
theorem lift_slices_Concat_api_Edge_api_Edge (slices : Sl) : Lf Tryz.prog 59 [Sl.toV slices] Sl.toV (slices_Concat_api_Edge_api_Edge slices) := by
 refine Lf.go Tryz.func59 Tryz.ntmps59 Y Y [0] Y fun w m S H => ?_
 unfold slices_Concat_api_Edge_api_Edge at H
 refine sR (p_ 1 Y (ng (sR (p_ 1 Y (ng (cs (sR ?_)))))))
 refine p_ 3 Y (ng (ck ?_))
 refine AtC.loopM (fun (s0 : Int × Int) => [(3, Value.int .i64 s0.1), (11, Value.int .i64 s0.2)]) (fun (s0 : Int × Int) => []) [0, 9, 10] [3, 11, 0, 9, 10] [] [] H Y Y Y (by decide) Y (fun Kp1 s0 h0 H Q1 HK1 => ?_)
 refine sR (p_ 1 Y (ng (cs ?_)))
 refine cb H Y (fun H => ?_) (fun H => ?_)
 refine sk (tg ?_)
 refine AtC.joinSeq (β := Unit) (fun (t0 : Int) (bb : Unit) => [(3, Value.int .i64 t0)]) (fun (t0 : Int) (bb : Unit) => []) [0, 9, 10, 11] [] H Y Y (fun t0 bb h1 H => ?_) (fun J2 H HK2 => ?_)
 refine rg (p_ 2 Y (nl ?_))
 exact pk (HK1 _ _ H) [3, 11, 0, 9, 10] [] Y
 refine ck (sR (ix hT H Y Y Y Y Y Y fun _ H => ld hT H Y Y Y Y fun _ H => p_ 1 Y (ng (sR (p_ 5 Y ?_)))))
 refine ng (sR (p_ 2 Y (ng ?_)))
 refine cb (H _ rfl) Y (fun H => ?_) (fun H => ?_)
 refine rg (lq Y (Quiet1.makeI hT Y Y (by intro m; nofun) Y) ?_)
 exact H.elim
 refine sk (bn ?_)
 exact pk (HK2 _ () _ H) [3, 0, 9, 10, 11] [] Y
 refine xt (tx (tx (bh (tg (sR (p_ 1 Y (lc (lift_slices_Grow_api_Edge_api_Edge _ _) H Tryz.call124 Y fun v_1 h2 H => ?_)))))))
 refine p_ 1 Y (ng (cs (sR (p_ 3 Y (ng (ck ?_))))))
 refine AtC.loopM (fun (s0u1 : Sl × Int) => [(6, Sl.toV s0u1.1), (27, Value.int .i64 s0u1.2)]) (fun (s0u1 : Sl × Int) => []) [25, 26] [6, 27, 25, 26] [] [] H Y Y Y (by decide) Y (fun Kp5 s0u1 h3 H Q5 HK5 => ?_)
 refine sR (p_ 1 Y (ng (cs ?_)))
 refine cb H Y (fun H => ?_) (fun H => ?_)
 refine sk (tg (cs (ck (sR (ix hT H Y Y Y Y Y Y fun _ H => ld hT H Y Y Y Y fun _ H => p_ 1 Y ?_)))))
 refine ng (rg (p_ 2 Y (le Y (EffX.appendS (s := _) (u := _) hT Y Y Y Y Y Y Y Y Y Y (by decide) H) ?_)))
 rintro _ _ ⟨v_3, h4, rfl, rfl, H⟩
 refine p_ 1 Y (nl (bn (tg (rg (p_ 2 Y (nl ?_))))))
 exact pk (HK5 _ _ H) [6, 27, 25, 26] [] Y
 refine xt (tx (tx (bh (tg (sR (p_ 2 Y (ng ?_)))))))
 refine rt ?_
 exact r1 2 Y Y Y H
theorem lift_ratio_Cmp (x0 : Bool × Sl × Sl) (y : Bool × Sl × Sl) : Lf Tryz.prog 112 [Value.agg (C_bool_sl_sl x0).toArray, Value.agg (C_bool_sl_sl y).toArray] (Value.int .i64) (ratio_Cmp x0 y) := by
 refine Lf.go Tryz.func112 Tryz.ntmps112 Y Y [0, 1] Y fun w m S H => ?_
 unfold ratio_Cmp at H
 refine sR (bx [_, _, _] H Y Y Y Y fun b _ H => bx [_, _, _] H Y Y Y Y fun b_1 _ H => p_ 1 Y (ng (sR (lq Y (s_ 1 [_, _, _] Y) (lq Y (s_ 0 [_, _, _] Y) ?_)))))
 refine lc (lift_ratio_cross _ _) H.self Tryz.call152 Y fun v h1 H => p_ 3 Y (al hT [_, _] H Y Y Y fun b_2 _ H => al hT [_, _] H Y Y Y fun b_3 _ H => sp hT 1 [(_, [_, _]), (_, [_, _]), (_, [_, _, _]), (_, [_, _, _])] Y Y Y Y Y Y Y Y Y Y Y fun _ => sp hT 0 [(_, [_, _]), (_, [_, _]), (_, [_, _, _]), (_, [_, _, _])] Y Y Y Y Y Y Y Y Y Y Y fun _ => ng (sR ?_))
 refine p_ 1 Y (lq Y (l_ 0 Y) (p_ 2 Y (le Y (ep (i := 0) (qv := [(_, [_, _]), (_, [_, _]), (_, [_, _, _]), (_, [_, _, _])]) hT Y Y Y Y Y Y Y Y Y) ?_)))
 rintro _ _ rfl
 refine ng (sR (lq Y (s_ 1 [_, _] Y) (lq Y (s_ 0 [_, _] Y) (lc (lift_ratio_sum _ _) H.self Tryz.call153 Y fun v_1 h3 H => al hT [_, _] H Y Y Y fun b_4 _ H => sp hT 0 [(_, [_, _]), (_, [_, _]), (_, [_, _]), (_, [_, _, _]), (_, [_, _, _])] Y Y Y Y Y Y Y Y Y Y Y fun _ => ng ?_))))
 refine cs (ck (sR (p_ 1 Y (lq Y (l_ 0 Y) (p_ 3 Y (ng ?_))))))
 refine cb H.self Y (fun H => ?_) (fun H => ?_)
 refine sR (p_ 1 Y (ng (rt (br (tr ?_)))))
 exact r1 4 Y Y Y H
 refine sR (p_ 1 Y (lq Y (l_ 0 Y) (p_ 1 Y (ng ?_))))
 refine cb H Y (fun H => ?_) (fun H => ?_)
 refine sR (p_ 1 Y (ng (rt (br (tr ?_)))))
 exact r1 4 Y Y Y H
 refine sk (bn (tg (sR (p_ 1 Y (ng (rt ?_))))))
 exact r1 4 Y Y Y H
theorem lift_delta_Cmp (x0 : Bool × Sl × Sl × Bool × Sl × Sl) (y : Bool × Sl × Sl × Bool × Sl × Sl) : Lf Tryz.prog 46 [Value.agg (C_bool_sl_sl_bool_sl_sl x0).toArray, Value.agg (C_bool_sl_sl_bool_sl_sl y).toArray] (Value.int .i64) (delta_Cmp x0 y) := by
 refine Lf.go Tryz.func46 Tryz.ntmps46 Y Y [0, 1] Y fun w m S H => ?_
 unfold delta_Cmp at H
 refine sR (bx [_, _, _, _, _, _] H Y Y Y Y fun b _ H => bx [_, _, _, _, _, _] H Y Y Y Y fun b_1 _ H => p_ 1 Y (ng (cs (sR (p_ 1 Y ?_)))))
 refine lq Y (s_ 1 [_, _, _] Y) (p_ 1 Y (lq Y (s_ 0 [_, _, _] Y) (lc (lift_ratio_Cmp _ _) H.self Tryz.call112 Y fun v h1 H => p_ 1 Y (ng (sR (p_ 2 Y ?_))))))
 refine ng ?_
 refine cb H Y (fun H => ?_) (fun H => ?_)
 refine sR (p_ 2 Y (ng (rt (tr ?_))))
 exact r1 4 Y Y Y H
 refine sk (tg (sR (p_ 1 Y (lq Y (s_ 1 [_, _, _] Y) (p_ 1 Y (lq Y (s_ 0 [_, _, _] Y) (lc (lift_ratio_Cmp _ _) H Tryz.call112 Y fun v_1 h2 H => ?_)))))))
 refine p_ 1 Y (ng (rt ?_))
 exact r1 4 Y Y Y H
theorem lift_tableau_same (x0 : Bool × Sl × Sl × Bool × Sl × Sl) (y : Bool × Sl × Sl × Bool × Sl × Sl) : Lf Tryz.prog 65 [Value.agg (C_bool_sl_sl_bool_sl_sl x0).toArray, Value.agg (C_bool_sl_sl_bool_sl_sl y).toArray] Value.bool (tableau_same x0 y) := by
 refine Lf.go Tryz.func65 Tryz.ntmps65 Y Y [0, 1] Y fun w m S H => ?_
 unfold tableau_same at H
 refine sR (bx [_, _, _, _, _, _] H Y Y Y Y fun b _ H => bx [_, _, _, _, _, _] H Y Y Y Y fun b_1 _ H => p_ 1 Y (ng (sR (lq Y (s_ 1 [_, _, _, _, _, _] Y) (lq Y (s_ 0 [_, _, _, _, _, _] Y) ?_)))))
 refine lc (lift_delta_Cmp _ _) H.self Tryz.call46 Y fun v h1 H => p_ 2 Y (ng (rt ?_))
 exact r1 4 Y Y Y H
theorem lift_tableau_edge (e : Int × Bool × Sl × Sl × Bool × Sl × Sl) : Lf Tryz.prog 61 [Value.agg (C_i64ubool_sl_sl_bool_sl_sl e).toArray] Value.bool (tableau_edge e) := by
 refine Lf.go Tryz.func61 Tryz.ntmps61 Y Y [0] Y fun w m S H => ?_
 unfold tableau_edge at H
 refine sR (bx [_, _, _, _, _, _, _] H Y Y Y Y fun b _ H => p_ 1 Y (ng (cs (sR (p_ 1 Y (lq Y (l_ 0 Y) ?_))))))
 refine p_ 1 Y (ng ?_)
 refine cb H.self Y (fun H => ?_) (fun H => ?_)
 refine AtC.joinSeq (β := Unit) (fun (t0 : Bool) (bb : Unit) => [(2, Value.bool t0)]) (fun (t0 : Bool) (bb : Unit) => []) [] [] H Y Y (fun t0 bb h1 H => ?_) (fun J1 H HK1 => ?_)
 refine rt (tr ?_)
 exact r1 2 Y Y Y H
 refine rg (p_ 1 Y (lq Y (s_ 0 [_, _, _, _, _, _] Y) (lq Y (qb (cs := [_, _, _, _, _, _]) hT Y Y Y Y Y Y) (lc (lift_tableau_same _ _) H Tryz.call65 Y fun v h2 H => p_ 1 Y ?_))))
 refine AtL.splitB (t := 10) H Y (fun H => ?_) (fun H => ?_)
 refine p_ 7 Y (lq Y (l_ 0 Y) (p_ 9 Y (lq Y (l_ 0 Y) (p_ 8 Y (nl ?_)))))
 exact pk (HK1 _ () _ H) [2] [] Y
 refine p_ 14 Y (nl ?_)
 exact pk (HK1 _ () _ H) [2] [] Y
 refine sk (tg ?_)
 refine AtC.joinSeq (β := Unit) (fun (t0u1 : Bool) (bb_1 : Unit) => [(2, Value.bool t0u1)]) (fun (t0u1 : Bool) (bb_1 : Unit) => []) [] [] H Y Y (fun t0u1 bb_1 h3 H => ?_) (fun J2 H HK2 => ?_)
 refine rt ?_
 exact r1 2 Y Y Y H
 refine rg (p_ 2 Y (lq Y (s_ 0 [_, _, _] Y) (lc (lift_ratio_Right _) H Tryz.call42 Y fun v_1 h4 H => p_ 1 Y ?_)))
 refine AtL.splitB (t := 28) H Y (fun H => ?_) (fun H => ?_)
 refine p_ 5 Y (lq Y (s_ 0 [_, _, _] Y) (p_ 1 Y (lc (lift_ratio_Right _) H Tryz.call42 Y fun v_2 h5 H => p_ 2 Y (nl ?_))))
 exact pk (HK2 _ () _ H) [2] [] Y
 refine p_ 6 Y (nl ?_)
 exact pk (HK2 _ () _ H) [2] [] Y
theorem lift_tableau_Right_c3 (e : Int × Bool × Sl × Sl × Bool × Sl × Sl) : Lf Tryz.prog 60 [Value.agg (C_i64ubool_sl_sl_bool_sl_sl e).toArray] Value.bool (tableau_Right_c3 e) := by
 refine Lf.go Tryz.func60 Tryz.ntmps60 Y Y [0] Y fun w m S H => ?_
 unfold tableau_Right_c3 at H
 refine sR (bx [_, _, _, _, _, _, _] H Y Y Y Y fun b _ H => p_ 1 Y (ng (sR (lq Y (s_ 0 [_, _, _, _, _, _, _] Y) (lc (lift_tableau_edge _) H.self Tryz.call61 Y fun v h1 H => p_ 2 Y ?_)))))
 refine ng (rt ?_)
 exact r1 2 Y Y Y H
theorem lift_slices_IndexFunc_api_Edge_api_Edge__tableau_Right_c3 (s0 : Sl) : Lf Tryz.prog 123 [Sl.toV s0, Value.func (.func 60) #[] #[]] (Value.int .i64) (slices_IndexFunc_api_Edge_api_Edge__tableau_Right_c3 s0) := by
 refine Lf.go Tryz.func123 Tryz.ntmps123 Y Y [0, 1] Y fun w m S H => ?_
 unfold slices_IndexFunc_api_Edge_api_Edge__tableau_Right_c3 at H
 refine sR (p_ 1 Y (ng (cs (sR (p_ 3 Y (ng (ck ?_)))))))
 refine AtC.loopM (fun (s0u1 : Int) => [(8, Value.int .i64 s0u1)]) (fun (s0u1 : Int) => []) [0, 1, 7] [8, 0, 1, 7] [] [] H Y Y Y (by decide) Y (fun Kp1 s0u1 h0 H Q1 HK1 => ?_)
 refine sR (p_ 1 Y (ng (cs ?_)))
 refine cb H Y (fun H => ?_) (fun H => ?_)
 refine sk (tg (cs (ck (sR (p_ 2 Y (ng (sR ?_)))))))
 refine p_ 3 Y (ix hT H Y Y Y Y Y Y fun _ H => lds hT H Y Y Y Y Y fun _ H => lcF (lift_tableau_Right_c3 _) H [] [] Tryz.call60 Y Y Y Y Y fun v_1 h1 H => ng ?_)
 refine cb H Y (fun H => ?_) (fun H => ?_)
 refine sR (p_ 2 Y (ng (rt (br (tr (tr (br ?_)))))))
 refine tr ?_
 exact r1 4 Y Y Y H
 refine sk (bn (tg (rg (p_ 2 Y (nl ?_)))))
 exact pk (HK1 _ _ H) [8, 0, 1, 7] [] Y
 refine xt (tx (tx (bh (tg (sR (p_ 1 Y (ng ?_)))))))
 refine rt ?_
 exact r1 4 Y Y Y H
theorem lift_slices_ContainsFunc_api_Edge_api_Edge__tableau_Right_c3 (s0 : Sl) : Lf Tryz.prog 58 [Sl.toV s0, Value.func (.func 60) #[] #[]] Value.bool (slices_ContainsFunc_api_Edge_api_Edge__tableau_Right_c3 s0) := by
 refine Lf.go Tryz.func58 Tryz.ntmps58 Y Y [0, 1] Y fun w m S H => ?_
 unfold slices_ContainsFunc_api_Edge_api_Edge__tableau_Right_c3 at H
 refine sR (p_ 1 Y (ng (sR (p_ 2 Y (lc (lift_slices_IndexFunc_api_Edge_api_Edge__tableau_Right_c3 _) H Tryz.call123 Y fun v h0 H => p_ 2 Y (ng ?_))))))
 refine rt ?_
 exact r1 4 Y Y Y H
theorem lift_linear_Right (p : Bool × Sl × Sl × Sl) : Lf Tryz.prog 63 [Value.agg (C_bool_sl_sl_sl p).toArray] Value.bool (linear_Right p) := by
 refine Lf.go Tryz.func63 Tryz.ntmps63 Y Y [0] Y fun w m S H => ?_
 unfold linear_Right at H
 refine sR (bx [_, _, _, _] H Y Y Y Y fun b _ H => p_ 1 Y (ng (sR (p_ 1 Y (ng (cs ?_))))))
 refine sR (p_ 1 Y (lq Y (l_ 0 Y) (p_ 2 Y (ng (ck ?_)))))
 refine AtC.loopM (fun (s0 : Int × Int) => [(3, Value.int .i64 s0.1), (9, Value.int .i64 s0.2)]) (fun (s0 : Int × Int) => []) [1, 7, 8] [3, 9, 1, 7, 8] [0] [0] H.self Y Y Y (by decide) Y (fun Kp1 s0 h1 H Q1 HK1 => ?_)
 refine sR (p_ 1 Y (ng (cs ?_)))
 refine cb H Y (fun H => ?_) (fun H => ?_)
 refine sk (tg (cs (ck (sR (ix hT H Y Y Y Y Y Y fun _ H => lds hT H Y Y Y Y Y fun _ H => al hT [_, _, _, _] H Y Y Y fun b_1 _ H => ?_)))))
 refine sp hT 0 [(_, [_, _, _, _]), (_, [_, _, _, _])] Y Y Y Y Y Y Y Y Y Y Y fun _ => ng (cs ?_)
 refine AtC.joinSeq (β := Unit) (fun (t0 : Bool) (bb : Unit) => [(28, Value.bool t0)]) (fun (t0 : Bool) (bb : Unit) => []) [1, 5, 7, 8, 9] [0, 1] H.self Y Y (fun t0 bb h3 H => ?_) (fun J4 H HK4 => ?_)
 refine cb H Y (fun H => ?_) (fun H => ?_)
 refine sR (p_ 1 Y (ng (rt (tr (br (tr (tr ?_)))))))
 refine br (tr ?_)
 exact r1 2 Y Y Y H
 refine sk (tg (rg (p_ 1 Y (lq Y (l_ 0 Y) (p_ 1 Y (nl (bn ?_)))))))
 refine tg (rg (p_ 2 Y (nl ?_)))
 exact pk (HK1 _ _ H) [3, 9, 1, 7, 8] [1] Y
 refine rg (p_ 1 Y (lq Y (l_ 0 Y) (p_ 3 Y ?_)))
 refine AtL.splitB (t := 17) H Y (fun H => ?_) (fun H => ?_)
 refine p_ 11 Y (nl ?_)
 exact pk (HK4 _ () _ H) [28, 1, 5, 7, 8, 9] [0, 1] Y
 refine p_ 3 Y (lq Y (s_ 0 [_, _, _] Y) (p_ 1 Y (lc (lift_ratio_Sign _) H Tryz.call43 Y fun v_1 h4 H => p_ 4 Y ?_)))
 refine AtL.splitB (t := 23) H Y (fun H => ?_) (fun H => ?_)
 refine p_ 5 Y (nl ?_)
 exact pk (HK4 _ () _ H) [28, 1, 5, 7, 8, 9] [0, 1] Y
 refine p_ 3 Y (lq Y (s_ 0 [_, _, _] Y) (p_ 1 Y (lc (lift_ratio_Right _) H Tryz.call42 Y fun v_2 h5 H => p_ 3 Y (nl ?_))))
 exact pk (HK4 _ () _ H) [28, 1, 5, 7, 8, 9] [0, 1] Y
 refine xt (tx (tx (bh (tg (sR (p_ 1 Y (lq Y (s_ 0 [_, _, _] Y) ?_)))))))
 refine lc (lift_ratio_Right _) H Tryz.call42 Y fun v_3 h6 H => p_ 1 Y (ng (rt ?_))
 exact r1 2 Y Y Y H
theorem lift_tableau_Right_c4 (m0 : Int × Bool × Sl × Sl) (c0 : Addr) (c1 : Addr) : Lf Tryz.prog 62 [Value.agg (C_i64ubool_sl_sl m0).toArray, Value.pointer (some c0), Value.pointer (some c1)] Value.bool (tableau_Right_c4 m0 c0 c1) := by
 refine Lf.go Tryz.func62 Tryz.ntmps62 Y Y [0, 1, 2] Y fun w m S H => ?_
 unfold tableau_Right_c4 at H
 refine sR (bx [_, _, _, _] H Y Y Y Y fun b _ H => p_ 1 Y (ng ?_))
 refine AtC.joinSeq (β := Unit) (fun (t0 : Bool) (bb : Unit) => [(4, Value.bool t0)]) (fun (t0 : Bool) (bb : Unit) => []) [] [] H.self Y Y (fun t0 bb h1 H => ?_) (fun J1 H HK1 => ?_)
 refine rt ?_
 exact r1 4 Y Y Y H
 refine rg (p_ 1 Y (lq Y (l_ 0 Y) (ld hT H Y Y Y Y fun _ H => p_ 2 Y ?_)))
 refine AtL.splitB (t := 9) H Y (fun H => ?_) (fun H => ?_)
 refine p_ 7 Y (nl ?_)
 exact pk (HK1 _ () _ H) [4] [] Y
 refine p_ 1 Y (lds hT H Y Y Y Y Y fun _ H => p_ 3 Y (lq Y (l_ 0 Y) (p_ 1 Y (lc (lift_tableau_Row _ _) H Tryz.call33 Y fun v_2 h2 H => p_ 4 Y (nl ?_)))))
 exact pk (HK1 _ () _ H) [4] [] Y
theorem lift_slices_IndexFunc_api_Mono_api_Mono__tableau_Right_c4 (s0 : Sl) (f_c : Addr) (f_c_1 : Addr) : Lf Tryz.prog 125 [Sl.toV s0, Value.func (.func 62) #[] #[Value.pointer (some f_c), Value.pointer (some f_c_1)]] (Value.int .i64) (slices_IndexFunc_api_Mono_api_Mono__tableau_Right_c4 s0 f_c f_c_1) := by
 refine Lf.go Tryz.func125 Tryz.ntmps125 Y Y [0, 1] Y fun w m S H => ?_
 unfold slices_IndexFunc_api_Mono_api_Mono__tableau_Right_c4 at H
 refine sR (p_ 1 Y (ng (cs (sR (p_ 3 Y (ng (ck ?_)))))))
 refine AtC.loopM (fun (s0u1 : Int) => [(8, Value.int .i64 s0u1)]) (fun (s0u1 : Int) => []) [0, 1, 7] [8, 0, 1, 7] [] [] H Y Y Y (by decide) Y (fun Kp1 s0u1 h0 H Q1 HK1 => ?_)
 refine sR (p_ 1 Y (ng (cs ?_)))
 refine cb H Y (fun H => ?_) (fun H => ?_)
 refine sk (tg (cs (ck (sR (p_ 2 Y (ng (sR ?_)))))))
 refine p_ 3 Y (ix hT H Y Y Y Y Y Y fun _ H => lds hT H Y Y Y Y Y fun _ H => lcF (lift_tableau_Right_c4 _ _ _) H [] [_, _] Tryz.call62 Y Y Y Y Y fun v_1 h1 H => ng ?_)
 refine cb H Y (fun H => ?_) (fun H => ?_)
 refine sR (p_ 2 Y (ng (rt (br (tr (tr (br ?_)))))))
 refine tr ?_
 exact r1 4 Y Y Y H
 refine sk (bn (tg (rg (p_ 2 Y (nl ?_)))))
 exact pk (HK1 _ _ H) [8, 0, 1, 7] [] Y
 refine xt (tx (tx (bh (tg (sR (p_ 1 Y (ng ?_)))))))
 refine rt ?_
 exact r1 4 Y Y Y H
theorem lift_slices_ContainsFunc_api_Mono_api_Mono__tableau_Right_c4 (s0 : Sl) (f_c : Addr) (f_c_1 : Addr) : Lf Tryz.prog 64 [Sl.toV s0, Value.func (.func 62) #[] #[Value.pointer (some f_c), Value.pointer (some f_c_1)]] Value.bool (slices_ContainsFunc_api_Mono_api_Mono__tableau_Right_c4 s0 f_c f_c_1) := by
 refine Lf.go Tryz.func64 Tryz.ntmps64 Y Y [0, 1] Y fun w m S H => ?_
 unfold slices_ContainsFunc_api_Mono_api_Mono__tableau_Right_c4 at H
 refine sR (p_ 1 Y (ng (sR (p_ 2 Y (lc (lift_slices_IndexFunc_api_Mono_api_Mono__tableau_Right_c4 _ _ _) H Tryz.call125 Y fun v h0 H => p_ 2 Y (ng ?_))))))
 refine rt ?_
 exact r1 4 Y Y Y H
theorem lift_tableau_value (b : (Option Addr)) (p : Bool × Sl × Sl × Sl) (values : Sl) : Lf Tryz.prog 66 [Value.pointer b, Value.agg (C_bool_sl_sl_sl p).toArray, Sl.toV values] (fun r => Value.agg (C_bool_sl_sl_bool_sl_sl r).toArray) (tableau_value b p values) := by
 refine Lf.go Tryz.func66 Tryz.ntmps66 Y Y [0, 1, 2] Y fun w m S H => ?_
 unfold tableau_value at H
 refine sR (bx [_, _, _, _] H Y Y Y Y fun b_1 _ H => al hT [_, _, _, _, _, _] H Y Y Y fun b_2 _ H => nl (tg (cs (sR (p_ 1 Y ?_)))))
 refine lq Y (l_ 1 Y) (p_ 2 Y (ng (ck ?_)))
 refine AtC.loopM (fun (s0 : Int × Bool × Sl × Sl × Bool × Sl × Sl) => [(12, Value.int .i64 s0.1)]) (fun (s0 : Int × Bool × Sl × Sl × Bool × Sl × Sl) => [(b_2, [Value.bool s0.2.1, Sl.toV s0.2.2.1, Sl.toV s0.2.2.2.1, Value.bool s0.2.2.2.2.1, Sl.toV s0.2.2.2.2.2.1, Sl.toV s0.2.2.2.2.2.2])]) [0, 2, 6, 10, 11] [12, 0, 2, 6, 10, 11] [] [0] H.self Y Y Y (by decide) Y (fun Kp1 s0 h1 H Q1 HK1 => ?_)
 refine sR (p_ 1 Y (ng (cs ?_)))
 refine cb H Y (fun H => ?_) (fun H => ?_)
 refine sk (tg (cs (ck (sR (ix hT H Y Y Y Y Y Y fun _ H => lds hT H Y Y Y Y Y fun _ H => al hT [_, _, _, _] H Y Y Y fun b_3 _ H => ?_)))))
 refine sp hT 0 [(_, [_, _, _, _]), (_, [_, _, _, _, _, _])] Y Y Y Y Y Y Y Y Y Y Y fun _ => ng ?_
 obtain ⟨a_1_, hc3, hd3, H⟩ := H.self
 obtain ⟨v_1, hc4, H⟩ := H
 apply AtC.stages [10, 11, 12] (rl [([], 11), ([10], 1), ([10, 11], 1)]) [[], [], [], [], [3], [], [], [6], [5, 6, 7], [5, 6, 7, 8], [2, 3, 4, 5, 6, 7, 8, 9], (ra 11), (ra 12)] hmix (by kernel_rfl) (nm 16 [_, _, _, _, _, _, _, _, _, _]) Y 3 Y
 refine Stg.go (ra 10) [10] Y Y (q_ Y (qq Y (s_ 1 [_, _, _, _, _, _] Y) Y (q_ Y (q_ Y (qq Y (s_ 0 [_, _, _] Y) Y (q_ Y (q_ Y (qq Y (l_ 0 Y) Y (qq Y (qi hT Y Y Y Y Y hc3 hd3) Y (qq Y (qs hT Y Y Y Y hc4) Y qz)))))))))) (ec (lift_delta_Scale _ _ _) H Tryz.call81 Y fun v_2 h3 H => ?_)
 apply Stg.next [(26, _)] Y Y
 refine Stg.go [0, 1] [11] Y Y (q_ Y (qq Y (s_ 1 [_, _, _, _, _, _] Y) Y qz)) (ec (lift_delta_Add _ _ _) H Tryz.call80 Y fun v_3 h4 H => ?_)
 apply Stg.next [(27, _)] Y Y
 refine Stg.go [] [12] Y Y qz (eo Y (es (i := 1) (qv := [(_, [_, _, _, _]), (_, [_, _, _, _, _, _])]) hT Y Y Y Y Y Y Y Y Y Y) ?_)
 rintro _ _ rfl
 apply Stg.next [] Y Y
 refine Stg.fin [] Y Y qz (bn (tg (rg (p_ 2 Y (nl ?_)))))
 exact pk (HK1 _ _ H) [12, 0, 2, 6, 10, 11] [1] Y
 refine xt (tx (tx (bh (tg (sR (lq Y (s_ 0 [_, _, _, _, _, _] Y) (sp hT 0 [(_, [_, _, _, _, _, _])] Y Y Y Y Y Y Y Y Y Y Y fun _ => ?_)))))))
 refine ng (rt ?_)
 exact rc (i := 0) hT [_, _, _, _, _, _] Y Y Y Y Y Y Y Y Y H
theorem lift_tableau_Right (t0 : Sl × Sl × Sl × Sl × Sl) : Lf Tryz.prog 20 [Value.agg (C_sl_sl_sl_sl_sl t0).toArray] Value.bool (tableau_Right t0) := by
 refine Lf.go Tryz.func20 Tryz.ntmps20 Y Y [0] Y fun w m S H => ?_
 unfold tableau_Right at H
 refine sR (le Y (EffX.box (cs := [_, _, _, _, _]) Y Y Y H) ?_)
 rintro _ _ ⟨t0u1, h0, rfl, rfl, H⟩
 refine p_ 1 Y (ng (sR (p_ 1 Y (ld hT H Y Y Y Y fun _ H => p_ 1 Y (le Y (EffX.alloc hT Y Y H) ?_)))))
 rintro _ _ ⟨n, h1, rfl, rfl, H⟩
 refine le Y (EffX.store hT Y Y Y Y Y H) ?_
 rintro _ _ ⟨h2, rfl, H⟩
 refine ng (cs ?_)
 refine AtC.joinSeq (β := Unit) (fun (t0u2 : Bool) (bb : Unit) => [(34, Value.bool t0u2)]) (fun (t0u2 : Bool) (bb : Unit) => []) [1, 3] [] H Y Y (fun t0u2 bb h3 H => ?_) (fun J2 H HK2 => ?_)
 refine cb H Y (fun H => ?_) (fun H => ?_)
 refine sR (p_ 1 Y (ng (rt (tr ?_))))
 exact r1 2 Y Y Y H
 refine sk (tg (cs (sR (p_ 1 Y (ld hT H Y Y Y Y fun _ H => p_ 2 Y (ng ?_))))))
 refine ck ?_
 refine AtC.loopM (fun (s0 : Int) => [(38, Value.int .i64 s0)]) (fun (s0 : Int) => []) [1, 3, 36, 37] [38, 1, 3, 36, 37] [] [] H Y Y Y (by decide) Y (fun Kp10 s0 h4 H Q10 HK10 => ?_)
 refine sR (p_ 1 Y (ng (cs ?_)))
 refine cb H Y (fun H => ?_) (fun H => ?_)
 refine sk (tg (cs (ck (sR (p_ 1 Y (ix hT H Y Y Y Y Y Y fun _ H => ld hT H Y Y Y Y fun _ H => ?_))))))
 refine p_ 2 Y (ng ?_)
 refine AtC.joinSeq (β := Unit) (fun (t0u3 : Bool) (bb_1 : Unit) => [(56, Value.bool t0u3)]) (fun (t0u3 : Bool) (bb_1 : Unit) => []) [1, 3, 36, 37, 38] [] H Y Y (fun t0u3 bb_1 h5 H => ?_) (fun J13 H HK13 => ?_)
 refine cb H Y (fun H => ?_) (fun H => ?_)
 refine sR (p_ 1 Y (ng (rt (br (tr (tr (br ?_)))))))
 refine tr ?_
 exact r1 2 Y Y Y H
 refine sk (bn (tg (rg (p_ 2 Y (nl ?_)))))
 exact pk (HK10 _ _ H) [38, 1, 3, 36, 37] [] Y
 refine rg (p_ 3 Y ?_)
 refine AtL.splitB (t := 45) H Y (fun H => ?_) (fun H => ?_)
 refine p_ 11 Y (nl ?_)
 exact pk (HK13 _ () _ H) [56, 1, 3, 36, 37, 38] [] Y
 refine p_ 3 Y (ld hT H Y Y Y Y fun _ H => p_ 4 Y ?_)
 refine AtL.splitB (t := 50) H Y (fun H => ?_) (fun H => ?_)
 refine p_ 6 Y (nl ?_)
 exact pk (HK13 _ () _ H) [56, 1, 3, 36, 37, 38] [] Y
 refine p_ 1 Y (lds hT H Y Y Y Y Y fun _ H => p_ 3 Y (lc (lift_tableau_Row _ _) H Tryz.call33 Y fun v_11 h6 H => p_ 5 Y (nl ?_)))
 exact pk (HK13 _ () _ H) [56, 1, 3, 36, 37, 38] [] Y
 refine xt (tx (tx (bh (tg (sR (le Y (EffX.alloc hT Y Y H) ?_))))))
 rintro _ _ ⟨number, h7, rfl, rfl, H⟩
 refine le Y (EffX.store hT Y Y Y Y Y H) ?_
 rintro _ _ ⟨h8, rfl, H⟩
 refine ng (cs ?_)
 refine AtC.joinSeq (β := Unit) (fun (t0u4 : Bool) (bb_2 : Unit) => [(70, Value.bool t0u4)]) (fun (t0u4 : Bool) (bb_2 : Unit) => []) [1, 3] [] H Y Y (fun t0u4 bb_2 h9 H => ?_) (fun J16 H HK16 => ?_)
 refine cb H Y (fun H => ?_) (fun H => ?_)
 refine sR (p_ 1 Y (ng (rt (tr ?_))))
 exact r1 2 Y Y Y H
 refine sk (tg (sR (lc (lift_nat_New _) H Tryz.call25 Y fun v_19 h14 H => p_ 1 Y (ng (cs (sR ?_))))))
 refine p_ 1 Y (ld hT H Y Y Y Y fun _ H => p_ 2 Y (ng (ck ?_)))
 refine AtC.loopM (fun (s0u1 : Int) => [(75, Value.int .i64 s0u1)]) (fun (s0u1 : Int) => []) [1, 3, 7, 73, 74] [75, 1, 3, 7, 73, 74] [] [] H Y Y Y (by decide) Y (fun Kp21 s0u1 h15 H Q21 HK21 => ?_)
 refine sR (p_ 1 Y (ng (cs ?_)))
 refine cb H Y (fun H => ?_) (fun H => ?_)
 refine sk (tg (cs (ck (sR (p_ 1 Y (ix hT H Y Y Y Y Y Y fun _ H => lds hT H Y Y Y Y Y fun _ H => ?_))))))
 refine al hT [_, _, _, _] H Y Y Y fun b _ H => p_ 1 Y (sp hT 0 [(_, [_, _, _, _])] Y Y Y Y Y Y Y Y Y Y Y fun _ => ng (sR (lq Y (Quiet1.makeFn (bs := []) (cs := [_, _]) Y Y Y) (p_ 1 Y (ng ?_)))))
 refine AtC.joinSeq (β := Unit) (fun (t0u5 : Bool) (bb_3 : Unit) => [(113, Value.bool t0u5)]) (fun (t0u5 : Bool) (bb_3 : Unit) => []) [1, 3, 7, 73, 74, 75] [] H.self Y Y (fun t0u5 bb_3 h17 H => ?_) (fun J24 H HK24 => ?_)
 refine cb H Y (fun H => ?_) (fun H => ?_)
 refine sR (p_ 1 Y (ng (rt (br (tr (tr (br ?_)))))))
 refine tr ?_
 exact r1 2 Y Y Y H
 refine sk (bn (tg (rg (p_ 2 Y (nl ?_)))))
 exact pk (HK21 _ _ H) [75, 1, 3, 7, 73, 74] [] Y
 apply AtC.stages [1, 6, 13, 20, 30] (rl [([], 2), ([1], 5), ([1, 6], 7), ([1, 6, 13], 16), ([1, 6, 13, 20], 1), ([1, 6, 13, 20, 30], 2)]) [[], [0], [0, 1], [0, 1, 2], [0, 1, 2, 3], (ra 5), (ra 6), (ra 7), (ra 8), (ra 9), (ra 10), (ra 11), (ra 10), (ra 13), (ra 14), (ra 15), (ra 16), (ra 16), (ra 16), (ra 16 ++ [18]), (ra 20), (ra 16), (ra 16 ++ [21]), (ra 16), (ra 16 ++ [23]), (ra 16), (ra 16 ++ [23, 24, 25]), (ra 16 ++ [23, 24, 25, 26]), (ra 16 ++ [21, 22, 23, 24, 25, 26, 27]), (ra 16 ++ [21, 22, 23, 24, 25, 26, 27, 28]), (ra 30), (ra 31), (ra 32)] hmix (by kernel_rfl) [(81, _)] Y 5 Y
 refine Stg.go [0] [1] Y Y (qq Y (s_ 0 [_, _, _, _] Y) Y qz) (ec (lift_linear_Right _) H Tryz.call63 Y fun v_22 h18 H => ?_)
 rcases iteB.cases H with ⟨hb24, H⟩ | ⟨hb24, H⟩
 apply Stg.next (nm 82 [_, _, _, _, _]) Y Y
 refine Stg.known (t := 84) Y hb24 (Stg.go [2, 3, 4, 5] [6] Y Y (q_ Y (QAll.cons (QOp.pk hT Y Y Y Y hb24 Y) (qn Y Y Y Y (by decide) Y Y (qn Y Y Y Y (by decide) Y Y qz)))) ?_)
 refine EAll.cons ?_ EAll.nil
 refine EOp.no Y Y Y Y (by decide) Y ?_
 apply Stg.next (nm 87 [_, _, _, _, _, _, _]) Y Y
 refine Stg.go [7, 8, 9, 10, 11, 12] [13] Y Y (qn Y Y Y Y (by decide) Y Y (q_ Y (q_ Y (qn Y Y Y Y (by decide) Y Y (qn Y Y Y Y (by decide) Y Y (qn Y Y Y Y (by decide) Y Y qz)))))) ?_
 refine EAll.cons ?_ EAll.nil
 refine EOp.no Y Y Y Y (by decide) Y ?_
 apply Stg.next (nm 94 [_, _, _, _, _, _, _] ++ nm 102 [_, _, _, _, _, _, _, _, _]) Y Y
 refine Stg.go [14, 15, 16, 17, 18, 19, 21, 22, 23, 24, 25, 26, 27, 28, 29] [20] Y Y (q_ Y (q_ Y (qn Y Y Y Y (by decide) Y Y (qn Y Y Y Y (by decide) Y Y (qn Y Y Y Y (by decide) Y Y (qn Y Y Y Y (by decide) Y Y (qn Y Y Y Y (by decide) Y Y (qn Y Y Y Y (by decide) Y Y (qn Y Y Y Y (by decide) Y Y (qn Y Y Y Y (by decide) Y Y (qn Y Y Y Y (by decide) Y Y (qn Y Y Y Y (by decide) Y Y (qn Y Y Y Y (by decide) Y Y (qn Y Y Y Y (by decide) Y Y (qn Y Y Y Y (by decide) Y Y qz))))))))))))))) ?_
 refine EAll.cons ?_ EAll.nil
 refine EOp.no Y Y Y Y (by decide) Y ?_
 apply Stg.next [(101, _)] Y Y
 refine Stg.go [21, 22, 23, 24, 25, 26, 27, 28, 29] [30] Y Y (qn Y Y Y Y (by decide) Y Y (qn Y Y Y Y (by decide) Y Y (qn Y Y Y Y (by decide) Y Y (qn Y Y Y Y (by decide) Y Y (qn Y Y Y Y (by decide) Y Y (qn Y Y Y Y (by decide) Y Y (qn Y Y Y Y (by decide) Y Y (qn Y Y Y Y (by decide) Y Y (qn Y Y Y Y (by decide) Y Y qz))))))))) ?_
 refine EAll.cons ?_ EAll.nil
 refine EOp.no Y Y Y Y (by decide) Y ?_
 apply Stg.next (nm 111 [_, _, _]) Y Y
 refine Stg.fin [31, 32] Y Y (qn Y Y Y Y (by decide) Y Y (q_ Y qz)) ?_
 exact pk (HK24 _ () _ H) [113, 1, 3, 7, 73, 74, 75] [] Y
 apply Stg.next (nm 82 [_, _, _, _, _]) Y Y
 refine Stg.known (t := 84) Y hb24 (Stg.go [2, 3, 4, 5] [6] Y Y (q_ Y (QAll.cons (QOp.pk hT Y Y Y Y hb24 Y) (QAll.cons (QOp.yp hT Y Y Y Y Y Y Y) (QAll.cons (QOp.y Y Y Y Y (s_ 0 [_, _, _] Y) Y Y) qz)))) ?_)
 refine EAll.cons ?_ EAll.nil
 refine EOp.y Y Y Y Y Y (cl (fun h => ratio_Sign _ h _) H Y Tryz.call43 Y (fun w m hr hw => lift_ratio_Sign _ w m hr _ hw)) ?_
 rintro _ _ ⟨v_23, h19, rfl, rfl, H⟩
 rcases iteB.cases H with ⟨hb25, H⟩ | ⟨hb25, H⟩
 apply Stg.next (nm 87 [_, _, _, _, _, _, _]) Y Y
 refine Stg.known (t := 90) Y hb25 (Stg.go [7, 8, 9, 10, 11, 12] [13] Y Y (QAll.cons (QOp.yp hT Y Y Y Y Y Y Y) (q_ Y (QAll.cons (QOp.pk hT Y Y Y Y hb25 Y) (qn Y Y Y Y (by decide) Y Y (qn Y Y Y Y (by decide) Y Y (qn Y Y Y Y (by decide) Y Y qz)))))) ?_)
 refine EAll.cons ?_ EAll.nil
 refine EOp.no Y Y Y Y (by decide) Y ?_
 apply Stg.next (nm 94 [_, _, _, _, _, _, _] ++ nm 102 [_, _, _, _, _, _, _, _, _]) Y Y
 refine Stg.go [14, 15, 16, 17, 18, 19, 21, 22, 23, 24, 25, 26, 27, 28, 29] [20] Y Y (q_ Y (q_ Y (qn Y Y Y Y (by decide) Y Y (qn Y Y Y Y (by decide) Y Y (qn Y Y Y Y (by decide) Y Y (qn Y Y Y Y (by decide) Y Y (qn Y Y Y Y (by decide) Y Y (qn Y Y Y Y (by decide) Y Y (qn Y Y Y Y (by decide) Y Y (qn Y Y Y Y (by decide) Y Y (qn Y Y Y Y (by decide) Y Y (qn Y Y Y Y (by decide) Y Y (qn Y Y Y Y (by decide) Y Y (qn Y Y Y Y (by decide) Y Y (qn Y Y Y Y (by decide) Y Y qz))))))))))))))) ?_
 refine EAll.cons ?_ EAll.nil
 refine EOp.no Y Y Y Y (by decide) Y ?_
 apply Stg.next [(101, _)] Y Y
 refine Stg.go [21, 22, 23, 24, 25, 26, 27, 28, 29] [30] Y Y (qn Y Y Y Y (by decide) Y Y (qn Y Y Y Y (by decide) Y Y (qn Y Y Y Y (by decide) Y Y (qn Y Y Y Y (by decide) Y Y (qn Y Y Y Y (by decide) Y Y (qn Y Y Y Y (by decide) Y Y (qn Y Y Y Y (by decide) Y Y (qn Y Y Y Y (by decide) Y Y (qn Y Y Y Y (by decide) Y Y qz))))))))) ?_
 refine EAll.cons ?_ EAll.nil
 refine EOp.no Y Y Y Y (by decide) Y ?_
 apply Stg.next (nm 111 [_, _, _]) Y Y
 refine Stg.fin [31, 32] Y Y (qn Y Y Y Y (by decide) Y Y (q_ Y qz)) ?_
 exact pk (HK24 _ () _ H) [113, 1, 3, 7, 73, 74, 75] [] Y
 apply Stg.next (nm 87 [_, _, _, _, _, _, _]) Y Y
 refine Stg.known (t := 90) Y hb25 (Stg.go [7, 8, 9, 10, 11, 12] [13] Y Y (QAll.cons (QOp.yp hT Y Y Y Y Y Y Y) (q_ Y (QAll.cons (QOp.pk hT Y Y Y Y hb25 Y) (QAll.cons (QOp.yp hT Y Y Y Y Y Y Y) (QAll.cons (QOp.y Y Y Y Y (l_ 0 Y) Y Y) (QAll.cons (QOp.yp hT Y Y Y Y Y Y Y) qz)))))) ?_)
 refine EAll.cons ?_ EAll.nil
 refine EOp.y Y Y Y Y Y (cl (fun h => slices_ContainsFunc_api_Mono_api_Mono__tableau_Right_c4 _ _ _ h _) H Y Tryz.call64 Y (fun w m hr hw => lift_slices_ContainsFunc_api_Mono_api_Mono__tableau_Right_c4 _ _ _ w m hr _ hw)) ?_
 rintro _ _ ⟨v_24, h20, rfl, rfl, H⟩
 rcases iteB.cases H with ⟨hb26, H⟩ | ⟨hb26, H⟩
 apply Stg.next (nm 94 [_, _, _, _, _, _, _] ++ nm 102 [_, _, _, _, _, _, _, _, _]) Y Y
 refine Stg.known (t := 96) Y hb26 (Stg.go [14, 15, 16, 17, 18, 19, 21, 22, 23, 24, 25, 26, 27, 28, 29] [20] Y Y (q_ Y (QAll.cons (QOp.pk hT Y Y Y Y hb26 Y) (qn Y Y Y Y (by decide) Y Y (qn Y Y Y Y (by decide) Y Y (qn Y Y Y Y (by decide) Y Y (qn Y Y Y Y (by decide) Y Y (qn Y Y Y Y (by decide) Y Y (qn Y Y Y Y (by decide) Y Y (qn Y Y Y Y (by decide) Y Y (qn Y Y Y Y (by decide) Y Y (qn Y Y Y Y (by decide) Y Y (qn Y Y Y Y (by decide) Y Y (qn Y Y Y Y (by decide) Y Y (qn Y Y Y Y (by decide) Y Y (qn Y Y Y Y (by decide) Y Y qz))))))))))))))) ?_)
 refine EAll.cons ?_ EAll.nil
 refine EOp.no Y Y Y Y (by decide) Y ?_
 apply Stg.next [(101, _)] Y Y
 refine Stg.go [21, 22, 23, 24, 25, 26, 27, 28, 29] [30] Y Y (qn Y Y Y Y (by decide) Y Y (qn Y Y Y Y (by decide) Y Y (qn Y Y Y Y (by decide) Y Y (qn Y Y Y Y (by decide) Y Y (qn Y Y Y Y (by decide) Y Y (qn Y Y Y Y (by decide) Y Y (qn Y Y Y Y (by decide) Y Y (qn Y Y Y Y (by decide) Y Y (qn Y Y Y Y (by decide) Y Y qz))))))))) ?_
 refine EAll.cons ?_ EAll.nil
 refine EOp.no Y Y Y Y (by decide) Y ?_
 apply Stg.next (nm 111 [_, _, _]) Y Y
 refine Stg.fin [31, 32] Y Y (qn Y Y Y Y (by decide) Y Y (q_ Y qz)) ?_
 exact pk (HK24 _ () _ H) [113, 1, 3, 7, 73, 74, 75] [] Y
 obtain ⟨v_25, hc27, H⟩ := H
 obtain ⟨v_26, hc28, H⟩ := H
 obtain ⟨v_27, hc29, H⟩ := H
 obtain ⟨a_3_, hc30, hd30, H⟩ := H
 obtain ⟨v_28, hc31, H⟩ := H
 obtain ⟨a_4_, hc32, hd32, H⟩ := H
 obtain ⟨v_29, hc33, H⟩ := H
 apply Stg.next (nm 94 [_, _, _, _, _, _, _] ++ nm 102 [_, _, _, _, _, _, _, _, _]) Y Y
 refine Stg.known (t := 96) Y hb26 (Stg.go [14, 15, 16, 17, 18, 19, 21, 22, 23, 24, 25, 26, 27, 28, 29] [20] Y Y (q_ Y (QAll.cons (QOp.pk hT Y Y Y Y hb26 Y) (QAll.cons (QOp.yp hT Y Y Y Y Y Y Y) (QAll.cons (QOp.y Y Y Y Y (s_ 0 [_, _, _, _] Y) Y Y) (QAll.cons (QOp.yp hT Y Y Y Y Y Y Y) (QAll.cons (QOp.y Y Y Y Y (ql hT Y Y Y hc27) Y Y) (QAll.cons (QOp.yp hT Y Y Y Y Y Y Y) (QAll.cons (QOp.y Y Y Y Y (ql hT Y Y Y hc28) Y Y) (QAll.cons (QOp.yp hT Y Y Y Y Y Y Y) (QAll.cons (QOp.y Y Y Y Y (ql hT Y Y Y hc29) Y Y) (QAll.cons (QOp.yp hT Y Y Y Y Y Y Y) (QAll.cons (QOp.y Y Y Y Y (qi hT Y Y Y Y Y hc30 hd30) Y Y) (QAll.cons (QOp.y Y Y Y Y (ql hT Y Y Y hc31) Y Y) (QAll.cons (QOp.y Y Y Y Y (qi hT Y Y Y Y Y hc32 hd32) Y Y) (QAll.cons (QOp.y Y Y Y Y (qs hT Y Y Y Y hc33) Y Y) qz))))))))))))))) ?_)
 refine EAll.cons ?_ EAll.nil
 refine EOp.y Y Y Y Y Y (cl (fun h => tableau_value _ _ _ h _) H Y Tryz.call66 Y (fun w m hr hw => lift_tableau_value _ _ _ w m hr _ hw)) ?_
 rintro _ _ ⟨v_30, h21, rfl, rfl, H⟩
 obtain ⟨hc34, H⟩ := H
 obtain ⟨hc35, H⟩ := H
 obtain ⟨hc36, H⟩ := H
 obtain ⟨hc37, H⟩ := H
 apply Stg.next [(101, _)] Y Y
 refine Stg.go [21, 22, 23, 24, 25, 26, 27, 28, 29] [30] Y Y (QAll.cons (QOp.yp hT Y Y Y Y Y Y Y) (QAll.cons (QOp.y Y Y Y Y (ql hT Y Y Y hc34) Y Y) (QAll.cons (QOp.yp hT Y Y Y Y Y Y Y) (QAll.cons (QOp.y Y Y Y Y (ql hT Y Y Y hc35) Y Y) (QAll.cons (QOp.yp hT Y Y Y Y Y Y Y) (QAll.cons (QOp.y Y Y Y Y (qi hT Y Y Y Y Y hc30 hd30) Y Y) (QAll.cons (QOp.y Y Y Y Y (ql hT Y Y Y hc36) Y Y) (QAll.cons (QOp.y Y Y Y Y (qi hT Y Y Y Y Y hc32 hd32) Y Y) (QAll.cons (QOp.y Y Y Y Y (qs hT Y Y Y Y hc37) Y Y) qz))))))))) ?_
 refine EAll.cons ?_ EAll.nil
 refine EOp.y Y Y Y Y Y (cl (fun h => tableau_same _ _ h _) H Y Tryz.call65 Y (fun w m hr hw => lift_tableau_same _ _ w m hr _ hw)) ?_
 rintro _ _ ⟨v_31, h22, rfl, rfl, H⟩
 apply Stg.next (nm 111 [_, _, _]) Y Y
 refine Stg.fin [31, 32] Y Y (QAll.cons (QOp.yp hT Y Y Y Y Y Y Y) (q_ Y qz)) ?_
 exact pk (HK24 _ () _ H) [113, 1, 3, 7, 73, 74, 75] [] Y
 refine xt (tx (tx (bh (tg (sR (p_ 1 Y (ng ?_)))))))
 refine rt ?_
 exact r1 2 Y Y Y H
 refine rg (p_ 1 Y (ld hT H Y Y Y Y fun _ H => lq Y (Quiet1.makeFn (bs := []) (cs := [_]) Y Y Y) (lc (lift_slices_ContainsFunc_api_Delta_api_Delta__tableau_Right_c2 _ _) H Tryz.call56 Y fun v_13 h10 H => p_ 1 Y ?_)))
 refine AtL.splitB (t := 62) H Y (fun H => ?_) (fun H => ?_)
 refine p_ 8 Y (nl ?_)
 exact pk (HK16 _ () _ H) [70, 1, 3] [] Y
 refine p_ 3 Y (ld hT H Y Y Y Y fun _ H => p_ 3 Y (ld hT H Y Y Y Y fun _ H => p_ 1 Y ?_))
 refine AtLX.bs (hT := hT) (cs := [_, _]) H Y Y Y Y Y Y Y Y Y (fun a_1 h11 H => ?_)
 refine p_ 1 Y (lc (lift_slices_Concat_api_Edge_api_Edge _) H Tryz.call59 Y fun v_17 h12 H => p_ 1 Y (lc (lift_slices_ContainsFunc_api_Edge_api_Edge__tableau_Right_c3 _) H Tryz.call58 Y fun v_18 h13 H => p_ 1 Y (nl ?_)))
 exact pk (HK16 _ () _ H) [70, 1, 3] [] Y
 refine rg (p_ 1 Y (ld hT H Y Y Y Y fun _ H => p_ 2 Y (ld hT H Y Y Y Y fun _ H => p_ 3 Y ?_)))
 refine AtL.splitB (t := 21) H Y (fun H => ?_) (fun H => ?_)
 refine p_ 13 Y (nl ?_)
 exact pk (HK2 _ () _ H) [34, 1, 3] [] Y
 refine p_ 3 Y (ld hT H Y Y Y Y fun _ H => p_ 3 Y (ld hT H Y Y Y Y fun _ H => p_ 4 Y ?_))
 refine AtL.splitB (t := 28) H Y (fun H => ?_) (fun H => ?_)
 refine p_ 6 Y (nl ?_)
 exact pk (HK2 _ () _ H) [34, 1, 3] [] Y
 refine p_ 3 Y (ld hT H Y Y Y Y fun _ H => p_ 3 Y (ld hT H Y Y Y Y fun _ H => p_ 3 Y (nl ?_)))
 exact pk (HK2 _ () _ H) [34, 1, 3] [] Y
theorem lift_slices_Equal_int_int (s1 : Sl) (s2 : Sl) : Lf Tryz.prog 71 [Sl.toV s1, Sl.toV s2] Value.bool (slices_Equal_int_int s1 s2) := by
 refine Lf.go Tryz.func71 Tryz.ntmps71 Y Y [0, 1] Y fun w m S H => ?_
 unfold slices_Equal_int_int at H
 refine sR (p_ 1 Y (ng (cs (sR (p_ 5 Y (ng ?_))))))
 refine cb H Y (fun H => ?_) (fun H => ?_)
 refine sR (p_ 1 Y (ng (rt (tr ?_))))
 exact r1 4 Y Y Y H
 refine sk (tg (cs (sR (p_ 3 Y (ng (ck ?_))))))
 refine AtC.loopM (fun (s0 : Int) => [(13, Value.int .i64 s0)]) (fun (s0 : Int) => []) [0, 1, 12] [13, 0, 1, 12] [] [] H Y Y Y (by decide) Y (fun Kp1 s0 h0 H Q1 HK1 => ?_)
 refine sR (p_ 1 Y (ng (cs ?_)))
 refine cb H Y (fun H => ?_) (fun H => ?_)
 refine sk (tg (cs (ck (sR (p_ 2 Y (ng (AtC.seqD hmix (by kernel_rfl) ?_)))))))
 refine AtD.pures hT 2 _ _ _ _ Y ?_
 obtain ⟨a_, hc1, hd1, H⟩ := H
 refine AtD.q Y (qi hT Y Y Y Y Y hc1 hd1) ?_
 obtain ⟨v, hc2, H⟩ := H
 refine AtD.q Y (ql hT Y Y Y hc2) (AtD.pures hT 2 _ _ _ _ Y ?_)
 obtain ⟨a_1_, hc3, hd3, H⟩ := H
 refine AtD.q Y (qi hT Y Y Y Y Y hc3 hd3) ?_
 obtain ⟨v_1, hc4, H⟩ := H
 refine AtD.q Y (ql hT Y Y Y hc4) (AtD.pures hT 1 _ _ _ _ Y (AtD.nil (tg ?_)))
 refine cb H Y (fun H => ?_) (fun H => ?_)
 refine sR (p_ 1 Y (ng (rt (br (tr (tr (br ?_)))))))
 refine tr ?_
 exact r1 4 Y Y Y H
 refine sk (bn (tg (rg (p_ 2 Y (nl ?_)))))
 exact pk (HK1 _ _ H) [13, 0, 1, 12] [] Y
 refine xt (tx (tx (bh (tg (sR (p_ 1 Y (ng ?_)))))))
 refine rt ?_
 exact r1 4 Y Y Y H
theorem lift_linear_Same_c1 (x0 : Int × Bool × Sl × Sl) (y : Int × Bool × Sl × Sl) : Lf Tryz.prog 128 [Value.agg (C_i64ubool_sl_sl x0).toArray, Value.agg (C_i64ubool_sl_sl y).toArray] Value.bool (linear_Same_c1 x0 y) := by
 refine Lf.go Tryz.func128 Tryz.ntmps128 Y Y [0, 1] Y fun w m S H => ?_
 unfold linear_Same_c1 at H
 refine sR (bx [_, _, _, _] H Y Y Y Y fun b _ H => bx [_, _, _, _] H Y Y Y Y fun b_1 _ H => p_ 1 Y (ng ?_))
 refine AtC.joinSeq (β := Unit) (fun (t0 : Bool) (bb : Unit) => [(4, Value.bool t0)]) (fun (t0 : Bool) (bb : Unit) => []) [] [] H.self Y Y (fun t0 bb h1 H => ?_) (fun J1 H HK1 => ?_)
 refine rt ?_
 exact r1 4 Y Y Y H
 refine rg (p_ 1 Y (lq Y (l_ 1 Y) (p_ 1 Y (lq Y (l_ 0 Y) (p_ 2 Y ?_)))))
 refine AtL.splitB (t := 10) H Y (fun H => ?_) (fun H => ?_)
 refine p_ 3 Y (lq Y (s_ 1 [_, _, _] Y) (p_ 3 Y (lq Y (s_ 0 [_, _, _] Y) (p_ 1 Y (lc (lift_ratio_Cmp _ _) H Tryz.call112 Y fun v h2 H => p_ 4 Y (nl ?_))))))
 exact pk (HK1 _ () _ H) [4] [] Y
 refine p_ 8 Y (nl ?_)
 exact pk (HK1 _ () _ H) [4] [] Y
end Go.Proofs.YtjppcjbmepcneaaGreatDoor

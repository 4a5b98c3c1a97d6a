/-
  Laws that the proof of this claim's statement leans on, each proved under the conditions that it states.
-/
import Derived.Test.YtjppcjbmepcneaaGreatDoorLfA
set_option linter.unusedVariables false
set_option linter.unusedSimpArgs false
namespace Go.Proofs.YtjppcjbmepcneaaGreatDoor
open Go Go.Lift Go.Sh
set_option maxRecDepth 100000
set_option maxHeartbeats 40000000
attribute [local irreducible] Calls AtL AtC AtE AtD Eff Quiet1 Stg qAt QAll eAt EAll nextK Code.wp
def A2u0 : List (List Nat) := (rl [([], 6), ([5], 1)])
def G2u0 : List (List Nat) := [[], [0], [0, 1], [], [3], [0, 1, 2], (ra 6)]
def A2u1 : List (List Nat) := (rl [([], 23), ([22], 10)])
def G2u1 : List (List Nat) := [[], [0], [0, 1], [0, 1, 2], [0, 1, 2, 3], (ra 5), (ra 6), (ra 7), (ra 8), (ra 7), (ra 7 ++ [9]), (ra 7), (ra 7 ++ [11]), (ra 7 ++ [9, 10, 11, 12]), (ra 7 ++ [9, 10, 11, 12, 13]), (ra 7 ++ [9, 10, 11, 12, 13, 14]), (ra 16), (ra 17), (ra 18), (ra 19), (ra 20), (ra 21), (ra 22), (ra 23), (ra 24), (ra 25), (ra 26), (ra 27), (ra 28), (ra 29), (ra 30), (ra 31), (ra 32)]
theorem lift_linear_Add (b : (Option Addr)) (p : Bool × Sl × Sl × Sl) (k : Bool × Sl × Sl) (q : Bool × Sl × Sl × Sl) : Lf Tryz.prog 84 [Value.pointer b, Value.agg (C_bool_sl_sl_sl p).toArray, Value.agg (C_bool_sl_sl k).toArray, Value.agg (C_bool_sl_sl_sl q).toArray] (fun r => Value.agg (C_bool_sl_sl_sl r).toArray) (linear_Add b p k q) := by
 refine Lf.go Tryz.func84 Tryz.ntmps84 Y Y [0, 1, 2, 3] Y fun w m S H => ?_
 unfold linear_Add at H
 refine sR (bx [_, _, _, _] H Y Y Y Y fun b_1 _ H => bx [_, _, _] H Y Y Y Y fun b_2 _ H => bx [_, _, _, _] H Y Y Y Y fun b_3 _ H => al hT [_, _, _, _] H Y Y Y fun b_4 _ H => nl (tg (sR ?_)))
 refine p_ 1 Y (lq Y (s_ 2 [_, _, _] Y) (lq Y (s_ 1 [_, _, _, _] Y) (lc (lift_linear_Scale _ _ _) H.self Tryz.call85 Y fun v h1 H => sp hT 1 [(_, [_, _, _, _]), (_, [_, _, _, _]), (_, [_, _, _]), (_, [_, _, _, _])] Y Y Y Y Y Y Y Y Y Y Y fun _ => ng (sR (p_ 2 Y ?_)))))
 refine lq Y (s_ 3 [_, _, _] Y) (p_ 1 Y (lq Y (s_ 1 [_, _, _] Y) (lc (lift_ratio_Add _ _ _) H Tryz.call134 Y fun v_1 h2 H => lq Y (qb (cs := [_, _, _, _]) hT Y Y Y Y Y Y) (al hT [_, _, _, _] H Y Y Y fun b_5 _ H => sp hT 0 [(_, [_, _, _, _]), (_, [_, _, _, _]), (_, [_, _, _, _]), (_, [_, _, _]), (_, [_, _, _, _])] Y Y Y Y Y Y Y Y Y Y Y fun _ => ng ?_))))
 refine AtC.seqD hmix (by kernel_rfl) (AtD.pures hT 1 _ _ _ _ Y (AtD.q Y (l_ 4 Y) (AtD.pures hT 1 _ _ _ _ Y (AtD.q Y (l_ 2 Y) (AtD.pures hT 2 _ _ _ _ Y (AtD.nil (tg ?_)))))))
 refine cs (ck ?_)
 refine AtC.loopM (fun (s0 : Sl × Sl × Bool × Sl × Sl × Sl) => [(10, Sl.toV s0.1), (11, Sl.toV s0.2.1)]) (fun (s0 : Sl × Sl × Bool × Sl × Sl × Sl) => [(b_5, [Value.bool s0.2.2.1, Sl.toV s0.2.2.2.1, Sl.toV s0.2.2.2.2.1, Sl.toV s0.2.2.2.2.2])]) [0, 8, 9] [10, 11, 0, 8, 9] [1] [0, 1] H.self Y Y Y (by decide) Y (fun Kp1 s0 h4 H Q1 HK1 => ?_)
 refine cs ?_
 refine AtC.joinSeq (β := Unit) (fun (t0 : Bool) (bb : Unit) => [(35, Value.bool t0)]) (fun (t0 : Bool) (bb : Unit) => []) [0, 8, 9, 10, 11] [0, 1] H Y Y (fun t0 bb h5 H => ?_) (fun J2 H HK2 => ?_)
 refine cb H Y (fun H => ?_) (fun H => ?_)
 refine sk (tg (ck (sR (al hT [_, _, _, _] H Y Y Y fun b_6 _ H => nl (tg ?_)))))
 refine AtC.joinSeq (β := Unit) (fun (t0u1 : Sl × Sl × Int × Bool × Sl × Sl) (bb_1 : Unit) => [(10, Sl.toV t0u1.1), (11, Sl.toV t0u1.2.1)]) (fun (t0u1 : Sl × Sl × Int × Bool × Sl × Sl) (bb_1 : Unit) => [(b_6, [Value.int .i64 t0u1.2.2.1, Value.bool t0u1.2.2.2.1, Sl.toV t0u1.2.2.2.2.1, Sl.toV t0u1.2.2.2.2.2])]) [0, 8, 9, 12] [1, 2] H.self Y Y (fun t0u1 bb_1 h7 H => ?_) (fun J3 H HK3 => ?_)
 refine sR (p_ 1 Y (lq Y (s_ 0 [_, _, _] Y) (lc (lift_ratio_Sign _) H Tryz.call43 Y fun v_16 h11 H => p_ 1 Y (ng ?_))))
 refine cb H Y (fun H => ?_) (fun H => ?_)
 refine rg (p_ 1 Y (lq Y (l_ 1 Y) (lq Y (s_ 0 [_, _, _, _] Y) ?_)))
 refine AtLX.bs (hT := hT) (cs := [_, _, _, _]) H Y Y Y Y Y Y Y Y Y (fun a_9 h12 H => ?_)
 refine le Y (EffX.appendS (s := _) (u := _) hT Y Y Y Y Y Y Y Y Y Y (by decide) H) ?_
 rintro _ _ ⟨v_18, h13, rfl, rfl, H⟩
 refine p_ 1 Y (le Y (ep (i := 1) (qv := [(_, [_, _, _, _]), (_, [_, _, _, _]), (_, [_, _, _, _])]) hT Y Y Y Y Y Y Y Y Y) ?_)
 rintro _ _ rfl
 refine nl (bn ?_)
 exact pk (HK1 _ _ H) [10, 11, 0, 8, 9] [1, 2] Y
 refine sk (bn ?_)
 exact pk (HK1 _ _ H) [10, 11, 0, 8, 9] [1, 2] Y
 refine ck ?_
 refine AtC.joinSeq (β := Unit) (fun (t0u2 : Bool) (bb_2 : Unit) => [(55, Value.bool t0u2)]) (fun (t0u2 : Bool) (bb_2 : Unit) => []) [0, 8, 9, 10, 11, 12] [0, 1, 2] H Y Y (fun t0u2 bb_2 h8 H => ?_) (fun J4 H HK4 => ?_)
 refine cb H Y (fun H => ?_) (fun H => ?_)
 obtain ⟨a_2_, hc8, hd8, H⟩ := H
 obtain ⟨v_4, hc9, H⟩ := H
 obtain ⟨v_5, hs10, H⟩ := sliceOf.out H
 apply AtC.stages [5, 6] A2u0 G2u0 hmix (by kernel_rfl) (nm 75 [_, _, _, _, _]) Y 2 Y
 refine Stg.go (ra 5) [5] Y Y (q_ Y (qq Y (qi hT Y Y Y Y Y hc8 hd8) Y (qq Y (qs hT Y Y Y Y hc9) Y (q_ Y (qq Y (Quiet1.sliceIs hT Y Y Y Y Y Y Y (fun h => by cases h <;> rfl) hs10) Y qz))))) (eo Y (es (i := 0) (qv := [(_, [_, _, _, _]), (_, [_, _, _, _]), (_, [_, _, _, _])]) hT Y Y Y Y Y Y Y Y Y Y) ?_)
 rintro _ _ rfl
 apply Stg.next [] Y Y
 refine Stg.go [3, 4] [6] Y Y (q_ Y (qq Y (Quiet1.sliceIs hT Y Y Y Y Y Y Y (fun h => by cases h <;> rfl) hs10) Y qz)) (eo Y (Eff.ofPure hT Y) ?_)
 rintro _ _ ⟨rfl, rfl⟩
 apply Stg.next [(10, _)] Y Y
 refine Stg.fin [] Y Y qz (bn ?_)
 exact pk (HK3 _ () _ H) [10, 11, 0, 8, 9, 12] [0, 1, 2] Y
 refine AtC.joinSeq (β := Unit) (fun (t0u3 : Bool) (bb_3 : Unit) => [(80, Value.bool t0u3)]) (fun (t0u3 : Bool) (bb_3 : Unit) => []) [0, 8, 9, 10, 11, 12] [0, 1, 2] H Y Y (fun t0u3 bb_3 h9 H => ?_) (fun J12 H HK12 => ?_)
 refine cb H Y (fun H => ?_) (fun H => ?_)
 obtain ⟨a_5_, hc16, hd16, H⟩ := H
 obtain ⟨v_8, hc17, H⟩ := H
 obtain ⟨v_9, hs18, H⟩ := sliceOf.out H
 apply AtC.stages [5, 6] A2u0 G2u0 hmix (by kernel_rfl) (nm 95 [_, _, _, _, _]) Y 2 Y
 refine Stg.go (ra 5) [5] Y Y (q_ Y (qq Y (qi hT Y Y Y Y Y hc16 hd16) Y (qq Y (qs hT Y Y Y Y hc17) Y (q_ Y (qq Y (Quiet1.sliceIs hT Y Y Y Y Y Y Y (fun h => by cases h <;> rfl) hs18) Y qz))))) (eo Y (es (i := 0) (qv := [(_, [_, _, _, _]), (_, [_, _, _, _]), (_, [_, _, _, _])]) hT Y Y Y Y Y Y Y Y Y Y) ?_)
 rintro _ _ rfl
 apply Stg.next [] Y Y
 refine Stg.go [3, 4] [6] Y Y (q_ Y (qq Y (Quiet1.sliceIs hT Y Y Y Y Y Y Y (fun h => by cases h <;> rfl) hs18) Y qz)) (eo Y (Eff.ofPure hT Y) ?_)
 rintro _ _ ⟨rfl, rfl⟩
 apply Stg.next [(11, _)] Y Y
 refine Stg.fin [] Y Y qz (bn ?_)
 exact pk (HK3 _ () _ H) [10, 11, 0, 8, 9, 12] [0, 1, 2] Y
 obtain ⟨a_6_, hc19, hd19, H⟩ := H
 obtain ⟨v_10, hc20, H⟩ := H
 obtain ⟨a_7_, hc21, hd21, H⟩ := H
 obtain ⟨v_11, hc22, H⟩ := H
 obtain ⟨a_8_, hc23, hd23, H⟩ := H
 obtain ⟨v_12, hc24, H⟩ := H
 apply AtC.seqS [13, 15] (rl [([], 14), ([13], 2)]) [[], [0], [0, 1], [0, 1, 2], [], [], [5], [5, 6], [5, 6, 7], [], [9], [9, 10], [9, 10, 11], [4, 5, 6, 7, 8, 9, 10, 11, 12], (ra 14), (ra 15)] hmix (by kernel_rfl) (nm 36 [_, _, _, _, _, _, _, _, _, _, _, _, _]) Y 2 Y
 refine Stg.go (ra 13) [13] Y Y (q_ Y (qq Y (qi hT Y Y Y Y Y hc19 hd19) Y (q_ Y (qq Y (ql hT Y Y Y hc20) Y (q_ Y (q_ Y (qq Y (qi hT Y Y Y Y Y hc21 hd21) Y (q_ Y (qq Y (qs hT Y Y Y Y hc22) Y (q_ Y (qq Y (qi hT Y Y Y Y Y hc23 hd23) Y (q_ Y (qq Y (qs hT Y Y Y Y hc24) Y qz))))))))))))) (ec (lift_ratio_Add _ _ _) H Tryz.call134 Y fun v_13 h10 H => ?_)
 obtain ⟨hc25, H⟩ := H
 apply Stg.next [(49, _), (50, _)] Y Y
 refine Stg.go [0, 1, 2, 3, 14] [15] Y Y (q_ Y (qq Y (qi hT Y Y Y Y Y hc19 hd19) Y (q_ Y (qq Y (ql hT Y Y Y hc25) Y (qq Y (qb (cs := [_, _, _, _]) hT Y Y Y Y Y Y) Y qz))))) (eo Y (es (i := 0) (qv := [(_, [_, _, _, _]), (_, [_, _, _, _]), (_, [_, _, _, _])]) hT Y Y Y Y Y Y Y Y Y Y) ?_)
 rintro _ _ rfl
 apply Stg.next [] Y Y
 refine Stg.fin [] Y Y qz (tg (AtC.draw hmix (by kernel_rfl) (AtD.pures hT 1 _ _ _ _ Y ?_)))
 refine AtD.sl (hT := hT) H Y Y Y Y Y Y Y (fun h => by cases h <;> rfl) Y (fun v_14 H => ?_)
 refine AtD.pures hT 1 _ _ _ _ Y ?_
 refine AtD.sl (hT := hT) H Y Y Y Y Y Y Y (fun h => by cases h <;> rfl) Y (fun v_15 H => ?_)
 refine AtD.pures hT 2 _ _ _ _ Y (AtD.nil (bn ?_))
 exact pk (HK3 _ () _ H) [10, 11, 0, 8, 9, 12] [0, 1, 2] Y
 refine AtC.draw hmix (by kernel_rfl) (AtD.pures hT 4 _ _ _ _ Y ?_)
 refine AtD.splitB (t := 84) H Y (fun H => ?_) (fun H => ?_)
 refine AtD.noF Y Y Y (by decide) Y (AtD.noF Y Y Y (by decide) Y (AtD.noF Y Y Y (by decide) Y (AtD.noF Y Y Y (by decide) Y (AtD.noF Y Y Y (by decide) Y (AtD.noF Y Y Y (by decide) Y (AtD.noF Y Y Y (by decide) Y (AtD.noF Y Y Y (by decide) Y ?_)))))))
 refine AtD.noF Y Y Y (by decide) Y (AtD.pures hT 2 _ _ _ _ Y (AtD.nil ?_))
 exact pk (HK12 _ () _ H) [80, 0, 8, 9, 10, 11, 12] [0, 1, 2] Y
 refine AtD.yes Y Y Y (AtD.pures hT 1 _ _ _ _ Y (AtD.yes Y Y Y ?_))
 obtain ⟨a_3_, hc12, hd12, H⟩ := H
 refine AtD.q Y (qi hT Y Y Y Y Y hc12 hd12) (AtD.yes Y Y Y (AtD.pures hT 1 _ _ _ _ Y (AtD.yes Y Y Y ?_)))
 obtain ⟨v_6, hc13, H⟩ := H
 refine AtD.q Y (ql hT Y Y Y hc13) (AtD.yes Y Y Y (AtD.pures hT 1 _ _ _ _ Y (AtD.yes Y Y Y ?_)))
 obtain ⟨a_4_, hc14, hd14, H⟩ := H
 refine AtD.q Y (qi hT Y Y Y Y Y hc14 hd14) (AtD.yes Y Y Y (AtD.pures hT 1 _ _ _ _ Y (AtD.yes Y Y Y ?_)))
 obtain ⟨v_7, hc15, H⟩ := H
 refine AtD.q Y (ql hT Y Y Y hc15) (AtD.yes Y Y Y (AtD.pures hT 1 _ _ _ _ Y (AtD.pures hT 2 _ _ _ _ Y (AtD.nil ?_))))
 exact pk (HK12 _ () _ H) [80, 0, 8, 9, 10, 11, 12] [0, 1, 2] Y
 refine AtC.draw hmix (by kernel_rfl) (AtD.pures hT 4 _ _ _ _ Y ?_)
 refine AtD.splitB (t := 59) H Y (fun H => ?_) (fun H => ?_)
 refine AtD.noF Y Y Y (by decide) Y (AtD.noF Y Y Y (by decide) Y (AtD.noF Y Y Y (by decide) Y (AtD.noF Y Y Y (by decide) Y (AtD.noU Y Y Y Y (AtD.noU Y Y Y Y (AtD.noU Y Y Y Y (AtD.noU Y Y Y Y ?_)))))))
 refine AtD.noU Y Y Y Y (AtD.noU Y Y Y Y (AtD.noU Y Y Y Y (AtD.noU Y Y Y Y (AtD.noU Y Y Y Y (AtD.noF Y Y Y (by decide) Y (AtD.pures hT 2 _ _ _ _ Y (AtD.nil ?_)))))))
 exact pk (HK4 _ () _ H) [55, 0, 8, 9, 10, 11, 12] [0, 1, 2] Y
 refine AtD.yes Y Y Y (AtD.pures hT 1 _ _ _ _ Y (AtD.yes Y Y Y (AtD.pures hT 1 _ _ _ _ Y (AtD.yes Y Y Y (AtD.pures hT 1 _ _ _ _ Y (AtD.yes Y Y Y (AtD.pures hT 1 _ _ _ _ Y ?_)))))))
 refine AtD.splitB (t := 63) H Y (fun H => ?_) (fun H => ?_)
 refine AtD.yes Y Y Y (AtD.pures hT 1 _ _ _ _ Y (AtD.yes Y Y Y ?_))
 obtain ⟨a_, hc4, hd4, H⟩ := H
 refine AtD.q Y (qi hT Y Y Y Y Y hc4 hd4) (AtD.yes Y Y Y (AtD.pures hT 1 _ _ _ _ Y (AtD.yes Y Y Y ?_)))
 obtain ⟨v_2, hc5, H⟩ := H
 refine AtD.q Y (ql hT Y Y Y hc5) (AtD.yes Y Y Y (AtD.pures hT 1 _ _ _ _ Y (AtD.yes Y Y Y ?_)))
 obtain ⟨a_1_, hc6, hd6, H⟩ := H
 refine AtD.q Y (qi hT Y Y Y Y Y hc6 hd6) (AtD.yes Y Y Y (AtD.pures hT 1 _ _ _ _ Y (AtD.yes Y Y Y ?_)))
 obtain ⟨v_3, hc7, H⟩ := H
 refine AtD.q Y (ql hT Y Y Y hc7) (AtD.yes Y Y Y (AtD.pures hT 1 _ _ _ _ Y (AtD.yes Y Y Y (AtD.pures hT 1 _ _ _ _ Y (AtD.pures hT 2 _ _ _ _ Y (AtD.nil ?_))))))
 exact pk (HK4 _ () _ H) [55, 0, 8, 9, 10, 11, 12] [0, 1, 2] Y
 refine AtD.noF Y Y Y (by decide) Y (AtD.noF Y Y Y (by decide) Y (AtD.noF Y Y Y (by decide) Y (AtD.noF Y Y Y (by decide) Y (AtD.noF Y Y Y (by decide) Y (AtD.noF Y Y Y (by decide) Y (AtD.noF Y Y Y (by decide) Y (AtD.noF Y Y Y (by decide) Y ?_)))))))
 refine AtD.noF Y Y Y (by decide) Y (AtD.yes Y Y Y (AtD.pures hT 1 _ _ _ _ Y (AtD.pures hT 2 _ _ _ _ Y (AtD.nil ?_))))
 exact pk (HK4 _ () _ H) [55, 0, 8, 9, 10, 11, 12] [0, 1, 2] Y
 refine xt (tx (tx (bh (tg (sR (p_ 1 Y (lq Y (s_ 0 [_, _, _, _] Y) ?_)))))))
 refine lc (lift_linear_kept _ _) H Tryz.call139 Y fun v_19 h14 H => sp hT 1 [(_, [_, _, _, _]), (_, [_, _, _, _])] Y Y Y Y Y Y Y Y Y Y Y fun _ => ng (rt ?_)
 exact rc (i := 1) hT [_, _, _, _] Y Y Y Y Y Y Y Y Y H
 refine rg (p_ 4 Y ?_)
 refine AtL.splitB (t := 31) H Y (fun H => ?_) (fun H => ?_)
 refine p_ 4 Y (nl ?_)
 exact pk (HK2 _ () _ H) [35, 0, 8, 9, 10, 11] [0, 1] Y
 refine p_ 7 Y (nl ?_)
 exact pk (HK2 _ () _ H) [35, 0, 8, 9, 10, 11] [0, 1] Y
theorem lift_slices_Clone_int_int (s0 : Sl) : Lf Tryz.prog 89 [Sl.toV s0] Sl.toV (slices_Clone_int_int s0) := by
 refine Lf.go Tryz.func89 Tryz.ntmps89 Y Y [0] Y fun w m S H => ?_
 unfold slices_Clone_int_int at H
 refine sR (p_ 1 Y (ng (cs (sR (p_ 1 Y (lq Y (Quiet1.eqNilS hT Y Y Y Y) (ng ?_)))))))
 refine cb H Y (fun H => ?_) (fun H => ?_)
 refine sR (p_ 1 Y (ng (rt (tr ?_))))
 exact r1 2 Y Y Y H
 refine sk (tg (sR ?_))
 refine AtLX.bs (hT := hT) (cs := []) H Y Y Y Y Y Y Y Y Y (fun a h0 H => ?_)
 refine p_ 1 Y (le Y (EffX.appendS (s := _) (u := _) hT Y Y Y Y Y Y Y Y Y Y (by decide) H) ?_)
 rintro _ _ ⟨v_1, h1, rfl, rfl, H⟩
 refine p_ 1 Y (ng (rt ?_))
 exact r1 2 Y Y Y H
theorem lift_tableau_over (b : (Option Addr)) : Lf Tryz.prog 82 [Value.pointer b] (Value.int .i64) (tableau_over b) := by
 refine Lf.go Tryz.func82 Tryz.ntmps82 Y Y [0] Y fun w m S H => ?_
 unfold tableau_over at H
 refine sR (p_ 1 Y (ng (cs (sR (p_ 1 Y (lc (lift_nat_Bench_Over _) H Tryz.call30 Y fun v h0 H => ng ?_))))))
 refine cb H Y (fun H => ?_) (fun H => ?_)
 refine sR (p_ 1 Y (ng (rt (tr ?_))))
 exact r1 2 Y Y Y H
 refine sk (tg (sR (p_ 1 Y (ng (rt ?_)))))
 exact r1 2 Y Y Y H
theorem lift_tableau_Pivot (b : (Option Addr)) (t0 : (Option Addr)) (row : Int) (v : Int) : Lf Tryz.prog 29 [Value.pointer b, Value.pointer t0, Value.int .i64 row, Value.int .i64 v] (Value.int .i64) (tableau_Pivot b t0 row v) := by
 refine Lf.go Tryz.func29 Tryz.ntmps29 Y Y [0, 1, 2, 3] Y fun w m S H => ?_
 unfold tableau_Pivot at H
 refine sR (p_ 1 Y (ng (cs ?_)))
 refine AtC.joinSeq (β := Unit) (fun (t0u1 : Bool) (bb : Unit) => [(27, Value.bool t0u1)]) (fun (t0u1 : Bool) (bb : Unit) => []) [0, 1, 2, 3] [] H Y Y (fun t0u1 bb h0 H => ?_) (fun J1 H HK1 => ?_)
 refine cb H Y (fun H => ?_) (fun H => ?_)
 refine sR (p_ 1 Y (ng (rt (tr ?_))))
 exact r1 8 Y Y Y H
 refine sk (tg (sR (p_ 1 Y (nk H Y Y Y fun _ H => p_ 1 Y (ld hT H Y Y Y Y fun _ H => p_ 1 Y ?_)))))
 refine ix hT H Y Y Y Y Y Y fun _ H => lds hT H Y Y Y Y Y fun _ H => p_ 1 Y (lc (lift_tableau_coef _ _) H Tryz.call79 Y fun v_4 h1 H => al hT [_, _, _] H Y Y Y fun b_1 _ H => sp hT 0 [(_, [_, _, _])] Y Y Y Y Y Y Y Y Y Y Y fun _ => ng (cs ?_))
 refine sR (lq Y (s_ 0 [_, _, _] Y) (lc (lift_ratio_Sign _) H.self Tryz.call43 Y fun v_5 h3 H => p_ 1 Y (ng ?_)))
 refine cb H Y (fun H => ?_) (fun H => ?_)
 refine sR (p_ 1 Y (ng (rt (tr ?_))))
 exact r1 8 Y Y Y H
 refine sk (tg (sR (p_ 1 Y (nk H Y Y Y fun _ H => p_ 1 Y (ld hT H Y Y Y Y fun _ H => p_ 1 Y ?_)))))
 refine ix hT H Y Y Y Y Y Y fun _ H => ld hT H Y Y Y Y fun _ H => p_ 1 Y (ng ?_)
 refine AtC.joinSeq (β := Nat) (fun (t0u2 : Bool × Sl × Sl) (bb_1 : Nat) => [(11, Value.pointer (some ⟨bb_1, 0, none⟩))]) (fun (t0u2 : Bool × Sl × Sl) (bb_1 : Nat) => [(bb_1, [Value.bool t0u2.1, Sl.toV t0u2.2.1, Sl.toV t0u2.2.2])]) [0, 1, 2, 3, 10] [] H Y Y (fun t0u2 bb_1 h4 H => ?_) (fun J12 H HK12 => ?_)
 refine AtC.joinSeq (β := Nat) (fun (t0u3 : Bool × Sl × Sl × Sl) (bb_2 : Nat) => [(12, Value.pointer (some ⟨bb_2, 0, none⟩))]) (fun (t0u3 : Bool × Sl × Sl × Sl) (bb_2 : Nat) => [(bb_2, [Value.bool t0u3.1, Sl.toV t0u3.2.1, Sl.toV t0u3.2.2.1, Sl.toV t0u3.2.2.2])]) [0, 1, 2, 3] [] H Y Y (fun t0u3 bb_2 h16 H => ?_) (fun J16 H HK16 => ?_)
 refine sR (p_ 1 Y (nk H Y Y Y fun _ H => p_ 1 Y (ld hT H Y Y Y Y fun _ H => lc (lift_slices_Clone_api_Poly_api_Poly _) H Tryz.call77 Y fun v_36 h58 H => p_ 1 Y (ng ?_))))
 refine cs (sR (p_ 1 Y (nk H Y Y Y fun _ H => p_ 1 Y (ld hT H Y Y Y Y fun _ H => p_ 2 Y (ng ?_)))))
 refine ck ?_
 refine AtC.loopM (fun (s0 : Int) => [(79, Value.int .i64 s0)]) (fun (s0 : Int) => []) [0, 1, 2, 3, 12, 13, 77, 78] [79, 0, 1, 2, 3, 12, 13, 77, 78] [0] [0] H Y Y Y (by decide) Y (fun Kp49 s0 h59 H Q49 HK49 => ?_)
 refine sR (p_ 1 Y (ng (cs ?_)))
 refine cb H Y (fun H => ?_) (fun H => ?_)
 refine sk (tg ?_)
 refine AtC.joinSeq (β := Unit) (fun (t0u4 : Unit) (bb_3 : Unit) => []) (fun (t0u4 : Unit) (bb_3 : Unit) => []) [0, 1, 2, 3, 12, 13, 77, 78, 79] [0] H Y Y (fun t0u4 bb_3 h60 H => ?_) (fun J50 H HK50 => ?_)
 refine rg (p_ 2 Y (nl ?_))
 exact pk (HK49 _ _ H) [79, 0, 1, 2, 3, 12, 13, 77, 78] [0] Y
 refine ck (sR (p_ 1 Y (ix hT H Y Y Y Y Y Y fun _ H => lds hT H Y Y Y Y Y fun _ H => al hT [_, _, _, _] H Y Y Y fun b_11 _ H => p_ 1 Y (sp hT 0 [(_, [_, _, _, _]), (_, [_, _, _, _])] Y Y Y Y Y Y Y Y Y Y Y fun _ => ?_))))
 refine ng (sR (lq Y (s_ 0 [_, _, _, _] Y) (p_ 1 Y (lc (lift_tableau_coef _ _) H.self Tryz.call79 Y fun v_39 h62 H => al hT [_, _, _] H Y Y Y fun b_12 _ H => sp hT 0 [(_, [_, _, _]), (_, [_, _, _, _]), (_, [_, _, _, _])] Y Y Y Y Y Y Y Y Y Y Y fun _ => ng ?_))))
 refine sR (lq Y (s_ 0 [_, _, _] Y) (lc (lift_ratio_Sign _) H.self Tryz.call43 Y fun v_40 h64 H => p_ 1 Y (ng ?_)))
 refine cb H Y (fun H => ?_) (fun H => ?_)
 apply AtC.stages [5, 8, 10] (rl [([], 8), ([5], 1), ([5, 8], 2)]) [[], [], [], [], [], [3, 4], [], [], [2, 3, 4, 5, 6, 7], (ra 9), (ra 10)] hmix (by kernel_rfl) (nm 90 [_, _, _, _, _] ++ [(96, _), (97, _)]) Y 3 Y
 refine Stg.go [0, 1, 2, 3, 4, 6, 7] [5] Y Y (q_ Y (q_ Y (q_ Y (qq Y (s_ 1 [_, _, _, _] Y) Y (q_ Y (qq Y (s_ 0 [_, _, _] Y) Y (qq Y (s_ 2 [_, _, _, _] Y) Y qz))))))) (ec (lift_tableau_without _ _) H Tryz.call88 Y fun v_41 h65 H => ?_)
 apply Stg.next [(95, _)] Y Y
 refine Stg.go [0, 1, 2, 6, 7] [8] Y Y (q_ Y (q_ Y (q_ Y (qq Y (s_ 0 [_, _, _] Y) Y (qq Y (s_ 2 [_, _, _, _] Y) Y qz))))) (ec (lift_linear_Add _ _ _ _) H Tryz.call84 Y fun v_42 h66 H => ?_)
 obtain ⟨a_10_, hc52, hd52, H⟩ := H
 apply Stg.next [(98, _), (99, _)] Y Y
 refine Stg.go [0, 1, 9] [10] Y Y (q_ Y (q_ Y (qq Y (qi hT Y Y Y Y Y hc52 hd52) Y qz))) (eo Y (EffX.storeS hT Y Y Y Y Y Y H) ?_)
 rintro _ _ ⟨h67, rfl, H⟩
 apply Stg.next [] Y Y
 refine Stg.fin [] Y Y qz (bn ?_)
 exact pk (HK50 _ () _ H) [0, 1, 2, 3, 12, 13, 77, 78, 79] [2] Y
 refine sk (bn ?_)
 exact pk (HK50 _ () _ H) [0, 1, 2, 3, 12, 13, 77, 78, 79] [2] Y
 refine xt (tx (tx (bh (tg (sR (p_ 2 Y (lq Y (s_ 0 [_, _, _, _] Y) ?_)))))))
 refine ix hT H Y Y Y Y Y Y fun _ H => le Y (EffX.storeS hT Y Y Y Y Y Y H) ?_
 rintro _ _ ⟨h68, rfl, H⟩
 refine ng (sR (p_ 4 Y (nk H Y Y Y fun _ H => p_ 1 Y (ld hT H Y Y Y Y fun _ H => lc (lift_slices_Clone_int_int _) H Tryz.call89 Y fun v_44 h69 H => nk H Y Y Y fun _ H => ?_))))
 refine p_ 1 Y (le Y (EffX.store hT Y Y Y Y Y H) ?_)
 rintro _ _ ⟨h70, rfl, H⟩
 refine nk H Y Y Y fun _ H => p_ 1 Y (le Y (EffX.store hT Y Y Y Y Y H) ?_)
 rintro _ _ ⟨h71, rfl, H⟩
 refine ng (sR (p_ 1 Y (nk H Y Y Y fun _ H => p_ 1 Y (ld hT H Y Y Y Y fun _ H => p_ 2 Y (ix hT H Y Y Y Y Y Y fun _ H => ?_)))))
 refine le Y (EffX.store hT Y Y Y Y Y H) ?_
 rintro _ _ ⟨h72, rfl, H⟩
 refine ng (sR (p_ 1 Y (lc (lift_tableau_over _) H Tryz.call82 Y fun v_46 h73 H => p_ 1 Y (ng (rt ?_)))))
 exact r1 8 Y Y Y H
 obtain ⟨a_5, hc16, H⟩ := H
 obtain ⟨v_13, hc17, H⟩ := H
 obtain ⟨a_6_, hc18, hd18, H⟩ := H
 obtain ⟨v_14, hc19, H⟩ := H
 apply AtC.stages [4, 5, 7, 16, 17, 18, 19] [[], [], [], [], [], [4], [], [4, 5], [], [], [], [], [], [], [], [], [4, 5, 7], [4, 5, 7, 16], [], [4, 5, 7, 16, 17, 18]] [[], [], [], [], [3], [1, 2, 3, 4], [], [1, 2, 3, 4, 5, 6], [], [8], [8, 9], [8, 9, 10], [], [8, 9, 10, 11, 12], [8, 9, 10, 11, 12, 13], [], [1, 2, 3, 4, 5, 6, 7, 8, 9, 10, 11, 12, 13, 14, 15], (ra 17), [], (ra 19)] hmix (by kernel_rfl) (nm 51 [_, _, _, _] ++ [(57, _)] ++ nm 59 [_, _, _, _, _, _, _, _]) Y 7 Y
 refine Stg.go [0, 1, 2, 3, 6, 8, 9, 10, 11, 12, 13, 14, 15] [4, 18] Y Y (q_ Y (q_ Y (qq Y (s_ 0 [_, _, _] Y) Y (q_ Y (qq Y (s_ 0 [_, _, _] Y) Y (q_ Y (qq Y (qc Y Y hc16) Y (q_ Y (qq Y (ql hT Y Y Y hc17) Y (q_ Y (qq Y (qi hT Y Y Y Y Y hc18 hd18) Y (qq Y (qs hT Y Y Y Y hc19) Y (q_ Y qz))))))))))))) ?_
 refine EAll.cons ?_ ?_
 refine EOp.e Y Y Y (cl (fun h => linear_Of _ h _) H.self Y Tryz.call86 Y (fun w m hr hw => lift_linear_Of _ w m hr _ hw)) ?_
 rintro _ _ ⟨v_15, h18, rfl, rfl, H⟩
 obtain ⟨hc20, H⟩ := H
 obtain ⟨hc21, H⟩ := H
 apply Stg.next [(55, _)] Y Y
 refine Stg.go [0, 1, 2, 6, 8, 9, 10, 11, 12, 13, 14, 15] [5, 18] Y Y (q_ Y (q_ Y (qq Y (s_ 0 [_, _, _] Y) Y (qq Y (s_ 0 [_, _, _] Y) Y (q_ Y (qq Y (qc Y Y hc16) Y (q_ Y (qq Y (ql hT Y Y Y hc20) Y (q_ Y (qq Y (qi hT Y Y Y Y Y hc18 hd18) Y (qq Y (qs hT Y Y Y Y hc21) Y (q_ Y qz)))))))))))) ?_
 refine EAll.cons ?_ ?_
 refine EOp.e Y Y Y (cl (fun h => linear_Scale _ _ _ h _) H.self Y Tryz.call85 Y (fun w m hr hw => lift_linear_Scale _ _ _ w m hr _ hw)) ?_
 rintro _ _ ⟨v_16, h20, rfl, rfl, H⟩
 obtain ⟨hc22, H⟩ := H
 obtain ⟨hc23, H⟩ := H
 apply Stg.next [(56, _)] Y Y
 refine Stg.go [0, 6, 8, 9, 10, 11, 12, 13, 14, 15] [7, 18] Y Y (q_ Y (qq Y (s_ 0 [_, _, _] Y) Y (q_ Y (qq Y (qc Y Y hc16) Y (q_ Y (qq Y (ql hT Y Y Y hc22) Y (q_ Y (qq Y (qi hT Y Y Y Y Y hc18 hd18) Y (qq Y (qs hT Y Y Y Y hc23) Y (q_ Y qz)))))))))) ?_
 refine EAll.cons ?_ ?_
 refine EOp.e Y Y Y (cl (fun h => ratio_Neg _ h _) H.self Y Tryz.call87 Y (fun w m hr hw => lift_ratio_Neg _ w m hr _ hw)) ?_
 rintro _ _ ⟨v_17, h22, rfl, rfl, H⟩
 obtain ⟨hc24, H⟩ := H
 obtain ⟨hc25, H⟩ := H
 apply Stg.next [(58, _)] Y Y
 refine Stg.go [0, 8, 9, 10, 11, 12, 13, 14, 15] [16, 18] Y Y (q_ Y (q_ Y (qq Y (qc Y Y hc16) Y (q_ Y (qq Y (ql hT Y Y Y hc24) Y (q_ Y (qq Y (qi hT Y Y Y Y Y hc18 hd18) Y (qq Y (qs hT Y Y Y Y hc25) Y (q_ Y qz))))))))) ?_
 refine EAll.cons ?_ ?_
 refine EOp.e Y Y Y (cl (fun h => tableau_without _ _ h _) H.self Y Tryz.call88 Y (fun w m hr hw => lift_tableau_without _ _ w m hr _ hw)) ?_
 rintro _ _ ⟨v_18, h24, rfl, rfl, H⟩
 apply Stg.next [(67, _)] Y Y
 refine Stg.go [0] [17, 18] Y Y (q_ Y qz) ?_
 refine EAll.cons ?_ ?_
 refine EOp.e Y Y Y (cl (fun h => linear_Add _ _ _ _ h _) H.self Y Tryz.call84 Y (fun w m hr hw => lift_linear_Add _ _ _ _ w m hr _ hw)) ?_
 rintro _ _ ⟨v_19, h26, rfl, rfl, H⟩
 apply Stg.next [(68, _)] Y Y
 refine Stg.go [] [18] Y Y qz (eo Y (ea (cs := [_, _, _, _]) hT Y Y H) ?_)
 rintro _ _ ⟨b_5, _, rfl, rfl, he26, H⟩
 apply Stg.next [(12, _)] Y Y
 refine Stg.go [] [19] Y Y qz (eo Y (es (i := 0) (qv := [(_, [_, _, _, _]), (_, [_, _, _])]) hT Y Y Y Y Y Y Y Y Y Y) ?_)
 rintro _ _ rfl
 apply Stg.next [] Y Y
 refine Stg.fin [] Y Y qz ?_
 exact pk (HK16 _ b_5 _ H.self) [12, 0, 1, 2, 3] [0] Y
 refine eo Y (ea (cs := [_, _, _, _]) hT Y Y H) ?_
 rintro _ _ ⟨b_6, _, rfl, rfl, he27, H⟩
 apply Stg.next [(12, _)] Y Y
 refine Stg.go [0] [17] Y Y (q_ Y qz) (ec (lift_linear_Add _ _ _ _) H.self Tryz.call84 Y fun v_20 h28 H => ?_)
 apply Stg.next [(68, _)] Y Y
 refine Stg.go [] [19] Y Y qz (eo Y (es (i := 0) (qv := [(_, [_, _, _, _]), (_, [_, _, _])]) hT Y Y Y Y Y Y Y Y Y Y) ?_)
 rintro _ _ rfl
 apply Stg.next [] Y Y
 refine Stg.fin [] Y Y qz ?_
 exact pk (HK16 _ b_6 _ H.self) [12, 0, 1, 2, 3] [0] Y
 refine eo Y (ea (cs := [_, _, _, _]) hT Y Y H) ?_
 rintro _ _ ⟨b_7, _, rfl, rfl, he28, H⟩
 replace hc24 := he28.cell hc24
 replace hc25 := he28.cells hc25
 apply Stg.next [(12, _)] Y Y
 refine Stg.go [0, 8, 9, 10, 11, 12, 13, 14, 15] [16] Y Y (q_ Y (q_ Y (qq Y (qc Y Y hc16) Y (q_ Y (qq Y (ql hT Y Y Y hc24) Y (q_ Y (qq Y (qi hT Y Y Y Y Y hc18 hd18) Y (qq Y (qs hT Y Y Y Y hc25) Y (q_ Y qz))))))))) (ec (lift_tableau_without _ _) H.self Tryz.call88 Y fun v_21 h30 H => ?_)
 apply Stg.next [(67, _)] Y Y
 refine Stg.go [0] [17] Y Y (q_ Y qz) (ec (lift_linear_Add _ _ _ _) H.self Tryz.call84 Y fun v_22 h32 H => ?_)
 apply Stg.next [(68, _)] Y Y
 refine Stg.go [] [19] Y Y qz (eo Y (es (i := 0) (qv := [(_, [_, _, _, _]), (_, [_, _, _])]) hT Y Y Y Y Y Y Y Y Y Y) ?_)
 rintro _ _ rfl
 apply Stg.next [] Y Y
 refine Stg.fin [] Y Y qz ?_
 exact pk (HK16 _ b_7 _ H.self) [12, 0, 1, 2, 3] [0] Y
 refine eo Y (ea (cs := [_, _, _, _]) hT Y Y H) ?_
 rintro _ _ ⟨b_8, _, rfl, rfl, he29, H⟩
 replace hc22 := he29.cell hc22
 replace hc23 := he29.cells hc23
 apply Stg.next [(12, _)] Y Y
 refine Stg.go [0, 6, 8, 9, 10, 11, 12, 13, 14, 15] [7] Y Y (q_ Y (qq Y (s_ 1 [_, _, _] Y) Y (q_ Y (qq Y (qc Y Y hc16) Y (q_ Y (qq Y (ql hT Y Y Y hc22) Y (q_ Y (qq Y (qi hT Y Y Y Y Y hc18 hd18) Y (qq Y (qs hT Y Y Y Y hc23) Y (q_ Y qz)))))))))) (ec (lift_ratio_Neg _) H.self Tryz.call87 Y fun v_23 h34 H => ?_)
 obtain ⟨hc30, H⟩ := H
 obtain ⟨hc31, H⟩ := H
 apply Stg.next [(58, _)] Y Y
 refine Stg.go [0, 8, 9, 10, 11, 12, 13, 14, 15] [16] Y Y (q_ Y (q_ Y (qq Y (qc Y Y hc16) Y (q_ Y (qq Y (ql hT Y Y Y hc30) Y (q_ Y (qq Y (qi hT Y Y Y Y Y hc18 hd18) Y (qq Y (qs hT Y Y Y Y hc31) Y (q_ Y qz))))))))) (ec (lift_tableau_without _ _) H.self Tryz.call88 Y fun v_24 h36 H => ?_)
 apply Stg.next [(67, _)] Y Y
 refine Stg.go [0] [17] Y Y (q_ Y qz) (ec (lift_linear_Add _ _ _ _) H.self Tryz.call84 Y fun v_25 h38 H => ?_)
 apply Stg.next [(68, _)] Y Y
 refine Stg.go [] [19] Y Y qz (eo Y (es (i := 0) (qv := [(_, [_, _, _, _]), (_, [_, _, _])]) hT Y Y Y Y Y Y Y Y Y Y) ?_)
 rintro _ _ rfl
 apply Stg.next [] Y Y
 refine Stg.fin [] Y Y qz ?_
 exact pk (HK16 _ b_8 _ H.self) [12, 0, 1, 2, 3] [0] Y
 refine eo Y (ea (cs := [_, _, _, _]) hT Y Y H) ?_
 rintro _ _ ⟨b_9, _, rfl, rfl, he32, H⟩
 replace hc20 := he32.cell hc20
 replace hc21 := he32.cells hc21
 apply Stg.next [(12, _)] Y Y
 refine Stg.go [0, 1, 2, 6, 8, 9, 10, 11, 12, 13, 14, 15] [5] Y Y (q_ Y (q_ Y (qq Y (s_ 1 [_, _, _] Y) Y (qq Y (s_ 1 [_, _, _] Y) Y (q_ Y (qq Y (qc Y Y hc16) Y (q_ Y (qq Y (ql hT Y Y Y hc20) Y (q_ Y (qq Y (qi hT Y Y Y Y Y hc18 hd18) Y (qq Y (qs hT Y Y Y Y hc21) Y (q_ Y qz)))))))))))) (ec (lift_linear_Scale _ _ _) H.self Tryz.call85 Y fun v_26 h40 H => ?_)
 obtain ⟨hc33, H⟩ := H
 obtain ⟨hc34, H⟩ := H
 apply Stg.next [(56, _)] Y Y
 refine Stg.go [0, 6, 8, 9, 10, 11, 12, 13, 14, 15] [7] Y Y (q_ Y (qq Y (s_ 1 [_, _, _] Y) Y (q_ Y (qq Y (qc Y Y hc16) Y (q_ Y (qq Y (ql hT Y Y Y hc33) Y (q_ Y (qq Y (qi hT Y Y Y Y Y hc18 hd18) Y (qq Y (qs hT Y Y Y Y hc34) Y (q_ Y qz)))))))))) (ec (lift_ratio_Neg _) H.self Tryz.call87 Y fun v_27 h42 H => ?_)
 obtain ⟨hc35, H⟩ := H
 obtain ⟨hc36, H⟩ := H
 apply Stg.next [(58, _)] Y Y
 refine Stg.go [0, 8, 9, 10, 11, 12, 13, 14, 15] [16] Y Y (q_ Y (q_ Y (qq Y (qc Y Y hc16) Y (q_ Y (qq Y (ql hT Y Y Y hc35) Y (q_ Y (qq Y (qi hT Y Y Y Y Y hc18 hd18) Y (qq Y (qs hT Y Y Y Y hc36) Y (q_ Y qz))))))))) (ec (lift_tableau_without _ _) H.self Tryz.call88 Y fun v_28 h44 H => ?_)
 apply Stg.next [(67, _)] Y Y
 refine Stg.go [0] [17] Y Y (q_ Y qz) (ec (lift_linear_Add _ _ _ _) H.self Tryz.call84 Y fun v_29 h46 H => ?_)
 apply Stg.next [(68, _)] Y Y
 refine Stg.go [] [19] Y Y qz (eo Y (es (i := 0) (qv := [(_, [_, _, _, _]), (_, [_, _, _])]) hT Y Y Y Y Y Y Y Y Y Y) ?_)
 rintro _ _ rfl
 apply Stg.next [] Y Y
 refine Stg.fin [] Y Y qz ?_
 exact pk (HK16 _ b_9 _ H.self) [12, 0, 1, 2, 3] [0] Y
 refine eo Y (ea (cs := [_, _, _, _]) hT Y Y H) ?_
 rintro _ _ ⟨b_10, _, rfl, rfl, he37, H⟩
 replace hc17 := he37.cell hc17
 replace hc19 := he37.cells hc19
 apply Stg.next [(12, _)] Y Y
 refine Stg.go [0, 1, 2, 3, 6, 8, 9, 10, 11, 12, 13, 14, 15] [4] Y Y (q_ Y (q_ Y (qq Y (s_ 1 [_, _, _] Y) Y (q_ Y (qq Y (s_ 1 [_, _, _] Y) Y (q_ Y (qq Y (qc Y Y hc16) Y (q_ Y (qq Y (ql hT Y Y Y hc17) Y (q_ Y (qq Y (qi hT Y Y Y Y Y hc18 hd18) Y (qq Y (qs hT Y Y Y Y hc19) Y (q_ Y qz))))))))))))) (ec (lift_linear_Of _) H.self Tryz.call86 Y fun v_30 h48 H => ?_)
 obtain ⟨hc38, H⟩ := H
 obtain ⟨hc39, H⟩ := H
 apply Stg.next [(55, _)] Y Y
 refine Stg.go [0, 1, 2, 6, 8, 9, 10, 11, 12, 13, 14, 15] [5] Y Y (q_ Y (q_ Y (qq Y (s_ 1 [_, _, _] Y) Y (qq Y (s_ 1 [_, _, _] Y) Y (q_ Y (qq Y (qc Y Y hc16) Y (q_ Y (qq Y (ql hT Y Y Y hc38) Y (q_ Y (qq Y (qi hT Y Y Y Y Y hc18 hd18) Y (qq Y (qs hT Y Y Y Y hc39) Y (q_ Y qz)))))))))))) (ec (lift_linear_Scale _ _ _) H.self Tryz.call85 Y fun v_31 h50 H => ?_)
 obtain ⟨hc40, H⟩ := H
 obtain ⟨hc41, H⟩ := H
 apply Stg.next [(56, _)] Y Y
 refine Stg.go [0, 6, 8, 9, 10, 11, 12, 13, 14, 15] [7] Y Y (q_ Y (qq Y (s_ 1 [_, _, _] Y) Y (q_ Y (qq Y (qc Y Y hc16) Y (q_ Y (qq Y (ql hT Y Y Y hc40) Y (q_ Y (qq Y (qi hT Y Y Y Y Y hc18 hd18) Y (qq Y (qs hT Y Y Y Y hc41) Y (q_ Y qz)))))))))) (ec (lift_ratio_Neg _) H.self Tryz.call87 Y fun v_32 h52 H => ?_)
 obtain ⟨hc42, H⟩ := H
 obtain ⟨hc43, H⟩ := H
 apply Stg.next [(58, _)] Y Y
 refine Stg.go [0, 8, 9, 10, 11, 12, 13, 14, 15] [16] Y Y (q_ Y (q_ Y (qq Y (qc Y Y hc16) Y (q_ Y (qq Y (ql hT Y Y Y hc42) Y (q_ Y (qq Y (qi hT Y Y Y Y Y hc18 hd18) Y (qq Y (qs hT Y Y Y Y hc43) Y (q_ Y qz))))))))) (ec (lift_tableau_without _ _) H.self Tryz.call88 Y fun v_33 h54 H => ?_)
 apply Stg.next [(67, _)] Y Y
 refine Stg.go [0] [17] Y Y (q_ Y qz) (ec (lift_linear_Add _ _ _ _) H.self Tryz.call84 Y fun v_34 h56 H => ?_)
 apply Stg.next [(68, _)] Y Y
 refine Stg.go [] [19] Y Y qz (eo Y (es (i := 0) (qv := [(_, [_, _, _, _]), (_, [_, _, _])]) hT Y Y Y Y Y Y Y Y Y Y) ?_)
 rintro _ _ rfl
 apply Stg.next [] Y Y
 refine Stg.fin [] Y Y qz ?_
 exact pk (HK16 _ b_10 _ H.self) [12, 0, 1, 2, 3] [0] Y
 apply AtC.stages [1, 3, 4, 5] [[], [], [], [1], [], [1, 3, 4]] [[], [], [], [0, 1, 2], [], (ra 5)] hmix (by kernel_rfl) [(47, _), (49, _)] Y 4 Y
 refine Stg.go [0, 2] [1, 4] Y Y (q_ Y (qq Y (s_ 0 [_, _, _] Y) Y qz)) ?_
 refine EAll.cons ?_ ?_
 refine EOp.e Y Y Y (cl (fun h => ratio_Of _ h _) H.self Y Tryz.call12 Y (fun w m hr hw => lift_ratio_Of _ w m hr _ hw)) ?_
 rintro _ _ ⟨v_8, h6, rfl, rfl, H⟩
 apply Stg.next [(48, _)] Y Y
 refine Stg.go [0, 2] [3, 4] Y Y (q_ Y (qq Y (s_ 0 [_, _, _] Y) Y qz)) ?_
 refine EAll.cons ?_ ?_
 refine EOp.e Y Y Y (cl (fun h => ratio_Div _ _ _ h _) H.self Y Tryz.call83 Y (fun w m hr hw => lift_ratio_Div _ _ _ w m hr _ hw)) ?_
 rintro _ _ ⟨v_9, h8, rfl, rfl, H⟩
 apply Stg.next [(50, _)] Y Y
 refine Stg.go [] [4] Y Y qz (eo Y (ea (cs := [_, _, _]) hT Y Y H) ?_)
 rintro _ _ ⟨b_2, _, rfl, rfl, he12, H⟩
 apply Stg.next [(11, _)] Y Y
 refine Stg.go [] [5] Y Y qz (eo Y (es (i := 0) (qv := [(_, [_, _, _]), (_, [_, _, _])]) hT Y Y Y Y Y Y Y Y Y Y) ?_)
 rintro _ _ rfl
 apply Stg.next [] Y Y
 refine Stg.fin [] Y Y qz ?_
 exact pk (HK12 _ b_2 _ H.self) [11, 0, 1, 2, 3, 10] [0] Y
 refine eo Y (ea (cs := [_, _, _]) hT Y Y H) ?_
 rintro _ _ ⟨b_3, _, rfl, rfl, he13, H⟩
 apply Stg.next [(11, _)] Y Y
 refine Stg.go [0, 2] [3] Y Y (q_ Y (qq Y (s_ 1 [_, _, _] Y) Y qz)) (ec (lift_ratio_Div _ _ _) H.self Tryz.call83 Y fun v_10 h10 H => ?_)
 apply Stg.next [(50, _)] Y Y
 refine Stg.go [] [5] Y Y qz (eo Y (es (i := 0) (qv := [(_, [_, _, _]), (_, [_, _, _])]) hT Y Y Y Y Y Y Y Y Y Y) ?_)
 rintro _ _ rfl
 apply Stg.next [] Y Y
 refine Stg.fin [] Y Y qz ?_
 exact pk (HK12 _ b_3 _ H.self) [11, 0, 1, 2, 3, 10] [0] Y
 refine eo Y (ea (cs := [_, _, _]) hT Y Y H) ?_
 rintro _ _ ⟨b_4, _, rfl, rfl, he14, H⟩
 apply Stg.next [(11, _)] Y Y
 refine Stg.go [0, 2] [1] Y Y (q_ Y (qq Y (s_ 1 [_, _, _] Y) Y qz)) (ec (lift_ratio_Of _) H.self Tryz.call12 Y fun v_11 h12 H => ?_)
 apply Stg.next [(48, _)] Y Y
 refine Stg.go [0, 2] [3] Y Y (q_ Y (qq Y (s_ 1 [_, _, _] Y) Y qz)) (ec (lift_ratio_Div _ _ _) H.self Tryz.call83 Y fun v_12 h14 H => ?_)
 apply Stg.next [(50, _)] Y Y
 refine Stg.go [] [5] Y Y qz (eo Y (es (i := 0) (qv := [(_, [_, _, _]), (_, [_, _, _])]) hT Y Y Y Y Y Y Y Y Y Y) ?_)
 rintro _ _ rfl
 apply Stg.next [] Y Y
 refine Stg.fin [] Y Y qz ?_
 exact pk (HK12 _ b_4 _ H.self) [11, 0, 1, 2, 3, 10] [0] Y
 refine rg (p_ 3 Y ?_)
 refine AtL.splitB (t := 19) H Y (fun H => ?_) (fun H => ?_)
 refine p_ 8 Y (nl ?_)
 exact pk (HK1 _ () _ H) [27, 0, 1, 2, 3] [] Y
 refine p_ 5 Y (nk H Y Y Y fun _ H => p_ 3 Y (ld hT H Y Y Y Y fun _ H => p_ 5 Y (nl ?_)))
 exact pk (HK1 _ () _ H) [27, 0, 1, 2, 3] [] Y
theorem lift_slices_Reverse_byte_byte (s0 : Sl) : Lf Tryz.prog 158 [Sl.toV s0] (fun _ => Value.tuple #[]) (slices_Reverse_byte_byte s0) := by
 refine Lf.go Tryz.func158 Tryz.ntmps158 Y Y [0] Y fun w m S H => ?_
 unfold slices_Reverse_byte_byte at H
 refine sR (p_ 5 Y (ng (ck ?_)))
 refine AtC.loopM (fun (s0u1 : Int × Int) => [(2, Value.int .i64 s0u1.1), (3, Value.int .i64 s0u1.2)]) (fun (s0u1 : Int × Int) => []) [0] [2, 3, 0] [] [] (H _ rfl) Y Y Y (by decide) Y (fun Kp1 s0u1 h0 H Q1 HK1 => ?_)
 refine cs (sR (p_ 3 Y (ng ?_)))
 refine cb H Y (fun H => ?_) (fun H => ?_)
 refine sk (tg (cs (ck ?_)))
 obtain ⟨a_, hc1, hd1, H⟩ := H
 obtain ⟨v, hc2, H⟩ := H
 obtain ⟨a_1_, hc3, hd3, H⟩ := H
 obtain ⟨v_1, hc4, H⟩ := H
 obtain ⟨a_2_, hc5, hd5, H⟩ := H
 apply AtC.stages [13, 15] (rl [([], 14), ([13], 2)]) [[], [], [], [], [], [], [4, 5], [4, 5, 6], [], [], [8, 9], [8, 9, 10], [0, 1, 4, 5, 6, 7, 8, 9, 10, 11], [0, 1, 4, 5, 6, 7, 8, 9, 10, 11, 12], (ra 14), (ra 15)] hmix (by kernel_rfl) (nm 14 [_, _, _, _, _, _, _, _, _, _, _, _, _]) Y 2 Y
 refine Stg.go (ra 13) [13] Y Y (q_ Y (q_ Y (q_ Y (q_ Y (q_ Y (q_ Y (qq Y (qi hT Y Y Y Y Y hc1 hd1) Y (qq Y (ql hT Y Y Y hc2) Y (q_ Y (q_ Y (qq Y (qi hT Y Y Y Y Y hc3 hd3) Y (qq Y (ql hT Y Y Y hc4) Y (qq Y (qi hT Y Y Y Y Y hc5 hd5) Y qz))))))))))))) (eo Y (EffX.store hT Y Y Y Y Y H) ?_)
 rintro _ _ ⟨h1, rfl, H⟩
 obtain ⟨a_3_, hc6, hd6, H⟩ := H
 apply Stg.next [(27, _)] Y Y
 refine Stg.go [2, 3, 14] [15] Y Y (q_ Y (q_ Y (qq Y (qi hT Y Y Y Y Y hc6 hd6) Y qz))) (eo Y (EffX.store hT Y Y Y Y Y H) ?_)
 rintro _ _ ⟨h2, rfl, H⟩
 apply Stg.next [] Y Y
 refine Stg.fin [] Y Y qz (bn (tg (rg (p_ 6 Y ?_))))
 replace H := H _ rfl
 refine nl ?_
 exact pk (HK1 _ _ (H _ rfl)) [2, 3, 0] [] Y
 refine xt (tx (tx (bh ?_)))
 exact AtE.endN Y Y H
theorem lift_nat_Text (x0 : Sl) : Lf Tryz.prog 121 [Sl.toV x0] Value.string (nat_Text x0) := by
 refine Lf.go Tryz.func121 Tryz.ntmps121 Y Y [0] Y fun w m S H => ?_
 unfold nat_Text at H
 refine sR (p_ 1 Y (ng (sR (p_ 1 Y (ng (cs (sR ?_)))))))
 refine p_ 1 Y (lc (lift_nat_trim _) H Tryz.call116 Y fun v h0 H => p_ 1 Y (ng (ck ?_)))
 refine AtC.loopM (fun (s0 : Sl × Sl) => [(0, Sl.toV s0.1), (3, Sl.toV s0.2)]) (fun (s0 : Sl × Sl) => []) [] [0, 3] [] [] H Y Y Y (by decide) Y (fun Kp1 s0 h1 H Q1 HK1 => ?_)
 refine cs (sR (p_ 3 Y (ng ?_)))
 refine cb H Y (fun H => ?_) (fun H => ?_)
 refine sk (tg (ck (sR (p_ 1 Y ?_))))
 refine AtLX.bs (hT := hT) (cs := [_]) H Y Y Y Y Y Y Y Y Y (fun a h2 H => ?_)
 refine lc (lift_nat_divide _ _) H Tryz.call156 Y fun v_2 h3 H => p_ 5 Y (ng (sR (p_ 1 Y (lc (lift_nat_small _) H Tryz.call157 Y fun v_3 h4 H => p_ 5 Y (ng ?_)))))
 refine cs (sR (p_ 1 Y (ng (ck ?_))))
 refine AtC.loopM (fun (s0u1 : Sl × Int × Int) => [(3, Sl.toV s0u1.1), (6, Value.int .u64 s0u1.2.1), (8, Value.int .i64 s0u1.2.2)]) (fun (s0u1 : Sl × Int × Int) => []) [4] [3, 6, 8, 4] [] [] H Y Y Y (by decide) Y (fun Kp2 s0u1 h5 H Q2 HK2 => ?_)
 refine cs ?_
 refine AtC.joinSeq (β := Unit) (fun (t0 : Bool) (bb : Unit) => [(35, Value.bool t0)]) (fun (t0 : Bool) (bb : Unit) => []) [3, 4, 6, 8] [] H Y Y (fun t0 bb h6 H => ?_) (fun J3 H HK3 => ?_)
 refine cb H Y (fun H => ?_) (fun H => ?_)
 refine sk (tg (cs (ck (sR (p_ 5 Y ?_)))))
 refine AtLX.bs (hT := hT) (cs := [_]) H Y Y Y Y Y Y Y Y Y (fun a_1 h7 H => ?_)
 refine le Y (EffX.appendS (s := _) (u := _) hT Y Y Y Y Y Y Y Y Y Y (by decide) H) ?_
 rintro _ _ ⟨v_5, h8, rfl, rfl, H⟩
 refine p_ 1 Y (ng (rg (p_ 3 Y (nl (bn (tg (rg ?_)))))))
 refine p_ 3 Y ?_
 replace H := H _ rfl
 refine nl ?_
 exact pk (HK2 _ _ (H _ rfl)) [3, 6, 8, 4] [] Y
 refine xt (tx (tx (bh (tg (rg (p_ 2 Y (nl ?_)))))))
 refine bn ?_
 exact pk (HK1 _ _ H) [0, 3] [] Y
 refine rg (p_ 3 Y ?_)
 refine AtL.splitB (t := 27) H Y (fun H => ?_) (fun H => ?_)
 refine p_ 8 Y ?_
 refine AtL.splitB (t := 31) H Y (fun H => ?_) (fun H => ?_)
 refine p_ 5 Y (nl ?_)
 exact pk (HK3 _ () _ H) [35, 3, 4, 6, 8] [] Y
 refine p_ 7 Y (nl ?_)
 exact pk (HK3 _ () _ H) [35, 3, 4, 6, 8] [] Y
 refine p_ 4 Y (AtL.noU Y Y Y Y (AtL.noU Y Y Y Y (p_ 2 Y (nl ?_))))
 exact pk (HK3 _ () _ H) [35, 3, 4, 6, 8] [] Y
 refine xt (tx (tx (bh (tg (cs (sR (p_ 3 Y ?_)))))))
 refine ng ?_
 refine cb H Y (fun H => ?_) (fun H => ?_)
 refine sR (p_ 1 Y (ng (rt (tr ?_))))
 exact r1 2 Y Y Y H
 refine sk (tg (sR (p_ 1 Y (lc (lift_slices_Reverse_byte_byte _) H Tryz.call158 Y fun v_6 h9 H => ng (sR (p_ 1 Y ?_))))))
 obtain ⟨v_7_, hc3, H⟩ := H
 refine lq Y (Quiet1.strOf (s := _) hT Y Y Y Y Y hc3) (p_ 1 Y (ng (rt ?_)))
 exact r1 2 Y Y Y H
theorem lift_ratio_Text (x0 : Bool × Sl × Sl) : Lf Tryz.prog 53 [Value.agg (C_bool_sl_sl x0).toArray] Value.string (ratio_Text x0) := by
 refine Lf.go Tryz.func53 Tryz.ntmps53 Y Y [0] Y fun w m S H => ?_
 unfold ratio_Text at H
 refine sR (bx [_, _, _] H Y Y Y Y fun b _ H => p_ 1 Y (ng (sR (p_ 2 Y (lq Y (l_ 0 Y) (lc (lift_nat_Text _) H.self Tryz.call121 Y fun v h1 H => ?_))))))
 refine p_ 1 Y (ng ?_)
 refine AtC.joinSeq (β := Unit) (fun (t0 : ByteArray) (bb : Unit) => [(3, Value.string t0)]) (fun (t0 : ByteArray) (bb : Unit) => []) [1] [0] H Y Y (fun t0 bb h2 H => ?_) (fun J1 H HK1 => ?_)
 refine AtC.joinSeq (β := Unit) (fun (t0u1 : ByteArray) (bb_1 : Unit) => [(3, Value.string t0u1)]) (fun (t0u1 : ByteArray) (bb_1 : Unit) => []) [] [] H Y Y (fun t0u1 bb_1 h3 H => ?_) (fun J3 H HK3 => ?_)
 refine sR (p_ 2 Y (ng (rt ?_)))
 exact r1 2 Y Y Y H
 refine sR (p_ 1 Y (lq Y (l_ 0 Y) (p_ 2 Y (ng ?_))))
 refine cb H Y (fun H => ?_) (fun H => ?_)
 refine rg (p_ 2 Y (lq Y (l_ 0 Y) (lc (lift_nat_Text _) H Tryz.call121 Y fun v_1 h4 H => ?_)))
 obtain ⟨hd3, H⟩ := H
 refine lq Y (Quiet1.concat Y Y Y hd3) ?_
 obtain ⟨hd4, H⟩ := H
 refine lq Y (Quiet1.concat Y Y Y hd4) (p_ 1 Y (nl ?_))
 exact pk (HK3 _ () _ (H _ rfl)) [3] [] Y
 refine sk ?_
 exact pk (HK3 _ () _ H) [3] [] Y
 refine sR (p_ 2 Y (lq Y (l_ 0 Y) (ng ?_)))
 refine cb H Y (fun H => ?_) (fun H => ?_)
 refine rg (p_ 1 Y ?_)
 obtain ⟨hd1, H⟩ := H
 refine lq Y (Quiet1.concat Y Y Y hd1) (p_ 1 Y (nl ?_))
 exact pk (HK1 _ () _ (H _ rfl)) [3, 1] [0] Y
 refine sk ?_
 exact pk (HK1 _ () _ H) [3, 1] [0] Y
theorem lift_law14uspeaks : Lf Tryz.prog 17 [] Value.bool (law14uspeaks) := by
 refine Lf.go Tryz.func17 Tryz.ntmps17 Y Y [] Y fun w m S H => ?_
 unfold law14uspeaks at H
 refine sR (p_ 1 Y (ng (sR (le Y (cl (fun h => law14uone h _) H Y Tryz.call52 Y (fun w m hr hw => lift_law14uone  w m hr _ hw)) ?_))))
 rintro _ _ ⟨v, h0, rfl, rfl, H⟩
 refine lc (lift_tableau_New _) H Tryz.call26 Y fun v_1 h1 H => le Y (EffX.alloc hT Y Y H) ?_
 rintro _ _ ⟨t0, h2, rfl, rfl, H⟩
 refine le Y (EffX.storeS hT Y Y Y Y Y Y H) ?_
 rintro _ _ ⟨h3, rfl, H⟩
 refine ng (sR (lc (lift_nat_New _) H Tryz.call25 Y fun v_2 h4 H => lc (lift_tableau_Pivot _ _ _ _) H Tryz.call29 Y fun v_3 h5 H => p_ 1 Y (ng ?_)))
 refine AtC.joinSeq (β := Unit) (fun (t0u1 : Bool) (bb : Unit) => [(0, Value.bool t0u1)]) (fun (t0u1 : Bool) (bb : Unit) => []) [] [] H Y Y (fun t0u1 bb h6 H => ?_) (fun J1 H HK1 => ?_)
 refine rt ?_
 exact r1 0 Y Y Y H
 refine rg (p_ 3 Y ?_)
 refine AtL.splitB (t := 9) H Y (fun H => ?_) (fun H => ?_)
 refine p_ 3 Y (ld hT H Y Y Y Y fun _ H => p_ 6 Y ?_)
 refine AtL.splitB (t := 15) H Y (fun H => ?_) (fun H => ?_)
 refine p_ 3 Y (ld hT H Y Y Y Y fun _ H => p_ 1 Y (ix hT H Y Y Y Y Y Y fun _ H => p_ 3 Y (ld hT H Y Y Y Y fun _ H => p_ 6 Y ?_)))
 refine AtL.splitB (t := 24) H Y (fun H => ?_) (fun H => ?_)
 refine p_ 3 Y (ld hT H Y Y Y Y fun _ H => p_ 1 Y (ix hT H Y Y Y Y Y Y fun _ H => p_ 3 Y (ld hT H Y Y Y Y fun _ H => p_ 1 Y (ix hT H Y Y Y Y Y Y fun _ H => ?_))))
 refine p_ 3 Y (lds hT H Y Y Y Y Y fun _ H => p_ 1 Y (lc (lift_ratio_Text _) H Tryz.call53 Y fun v_10 h7 H => p_ 4 Y ?_))
 refine AtL.splitB (t := 36) H Y (fun H => ?_) (fun H => ?_)
 refine p_ 3 Y (ld hT H Y Y Y Y fun _ H => p_ 1 Y (ix hT H Y Y Y Y Y Y fun _ H => p_ 1 Y (ld hT H Y Y Y Y fun _ H => p_ 4 Y (nl ?_))))
 exact pk (HK1 _ () _ H) [0] [] Y
 refine p_ 7 Y (nl ?_)
 exact pk (HK1 _ () _ H) [0] [] Y
 refine p_ 19 Y (nl ?_)
 exact pk (HK1 _ () _ H) [0] [] Y
 refine p_ 28 Y (nl ?_)
 exact pk (HK1 _ () _ H) [0] [] Y
 refine p_ 34 Y (nl ?_)
 exact pk (HK1 _ () _ H) [0] [] Y
theorem lift_law02uGreat (l : Sl) : Lf Tryz.prog 10 [Sl.toV l] Value.bool (law02uGreat l) := by
 refine Lf.go Tryz.func10 Tryz.ntmps10 Y Y [0] Y fun w m S H => ?_
 unfold law02uGreat at H
 refine sR (p_ 1 Y (ng (cs (sR (p_ 3 Y (ng (ck ?_)))))))
 refine AtC.loopM (fun (s0 : Int) => [(7, Value.int .i64 s0)]) (fun (s0 : Int) => []) [5, 6] [7, 5, 6] [] [] H Y Y Y (by decide) Y (fun Kp1 s0 h0 H Q1 HK1 => ?_)
 refine sR (p_ 1 Y (ng (cs ?_)))
 refine cb H Y (fun H => ?_) (fun H => ?_)
 refine sk (tg (cs (ck (sR (ix hT H Y Y Y Y Y Y fun _ H => lds hT H Y Y Y Y Y fun _ H => al hT [_, _, _] H Y Y Y fun b _ H => ?_)))))
 refine sp hT 0 [(_, [_, _, _])] Y Y Y Y Y Y Y Y Y Y Y fun _ => ng ?_
 refine AtC.joinSeq (β := Unit) (fun (t0 : Bool) (bb : Unit) => [(21, Value.bool t0)]) (fun (t0 : Bool) (bb : Unit) => []) [5, 6, 7] [] H.self Y Y (fun t0 bb h2 H => ?_) (fun J4 H HK4 => ?_)
 refine cb H Y (fun H => ?_) (fun H => ?_)
 refine sR (p_ 1 Y (ng (rt (br (tr (tr (br ?_)))))))
 refine tr ?_
 exact r1 2 Y Y Y H
 refine sk (bn (tg (rg (p_ 2 Y (nl ?_)))))
 exact pk (HK1 _ _ H) [7, 5, 6] [] Y
 refine rg (p_ 2 Y (lq Y (l_ 0 Y) (p_ 3 Y ?_)))
 refine AtL.splitB (t := 16) H Y (fun H => ?_) (fun H => ?_)
 refine p_ 5 Y (nl ?_)
 exact pk (HK4 _ () _ H) [21, 5, 6, 7] [] Y
 refine p_ 3 Y (lq Y (l_ 0 Y) (p_ 5 Y (nl ?_)))
 exact pk (HK4 _ () _ H) [21, 5, 6, 7] [] Y
 refine xt (tx (tx (bh (tg (sR (p_ 1 Y (ng ?_)))))))
 refine rt ?_
 exact r1 2 Y Y Y H
theorem lift_ref01uCut (x0 : Sl) : Lf Tryz.prog 142 [Sl.toV x0] Sl.toV (ref01uCut x0) := by
 refine Lf.go Tryz.func142 Tryz.ntmps142 Y Y [0] Y fun w m S H => ?_
 unfold ref01uCut at H
 refine sR (p_ 1 Y (ng (sR (p_ 3 Y (ng (cs (ck ?_)))))))
 refine AtC.loopM (fun (s0 : Int) => [(3, Value.int .i64 s0)]) (fun (s0 : Int) => []) [0] [3, 0] [] [] (H _ rfl) Y Y Y (by decide) Y (fun Kp1 s0 h0 H Q1 HK1 => ?_)
 refine cs ?_
 refine AtC.joinSeq (β := Unit) (fun (t0 : Bool) (bb : Unit) => [(15, Value.bool t0)]) (fun (t0 : Bool) (bb : Unit) => []) [0, 3] [] H Y Y (fun t0 bb h1 H => ?_) (fun J2 H HK2 => ?_)
 refine cb H Y (fun H => ?_) (fun H => ?_)
 refine sk (tg (ck (rg (p_ 3 Y (nl (bn ?_))))))
 exact pk (HK1 _ _ (H _ rfl)) [3, 0] [] Y
 refine xt (tx (tx (bh (tg (sR (p_ 2 Y ?_))))))
 refine AtL.sl (hT := hT) H Y Y Y Y Y Y Y (fun h => by cases h <;> rfl) Y (fun v_1 H => ?_)
 refine p_ 1 Y (ng (rt ?_))
 exact r1 2 Y Y Y H
 refine rg (p_ 3 Y ?_)
 refine AtL.splitB (t := 8) H Y (fun H => ?_) (fun H => ?_)
 refine p_ 7 Y (ix hT H Y Y Y Y Y Y fun _ H => p_ 1 Y (ld hT H Y Y Y Y fun _ H => p_ 3 Y (nl ?_)))
 exact pk (HK2 _ () _ H) [15, 0, 3] [] Y
 refine p_ 7 Y (nl ?_)
 exact pk (HK2 _ () _ H) [15, 0, 3] [] Y
theorem lift_ref01uOf (x0 : Sl) : Lf Tryz.prog 96 [Sl.toV x0] Sl.toV (ref01uOf x0) := by
 refine Lf.go Tryz.func96 Tryz.ntmps96 Y Y [0] Y fun w m S H => ?_
 unfold ref01uOf at H
 refine sR (p_ 1 Y (ng (sR ?_)))
 refine AtLX.bs (hT := hT) (cs := []) H Y Y Y Y Y Y Y Y Y (fun a h0 H => ?_)
 refine p_ 1 Y (ng (cs (sR (p_ 4 Y ?_))))
 replace H := H _ rfl
 refine ng (ck ?_)
 refine AtC.loopM (fun (s0 : Sl × Int) => [(3, Sl.toV s0.1), (4, Value.int .i64 s0.2)]) (fun (s0 : Sl × Int) => []) [0] [3, 4, 0] [] [] (H _ rfl) Y Y Y (by decide) Y (fun Kp1 s0 h1 H Q1 HK1 => ?_)
 refine cs (sR (p_ 2 Y (ng ?_)))
 refine cb H Y (fun H => ?_) (fun H => ?_)
 refine sk (tg (cs (ck (sR (p_ 2 Y (ix hT H Y Y Y Y Y Y fun _ H => ld hT H Y Y Y Y fun _ H => ?_))))))
 refine p_ 2 Y (ng (cs (sR (p_ 1 Y (ng (ck ?_))))))
 refine AtC.loopM (fun (s0u1 : Int × Int) => [(5, Value.int .i64 s0u1.1), (6, Value.int .i64 s0u1.2)]) (fun (s0u1 : Int × Int) => []) [0, 3, 4] [5, 6, 0, 3, 4] [] [] (H _ rfl) Y Y Y (by decide) Y (fun Kp4 s0u1 h2 H Q4 HK4 => ?_)
 refine cs (sR (p_ 4 Y (ng ?_)))
 refine cb H Y (fun H => ?_) (fun H => ?_)
 refine sk (tg (cs (ck (sR (p_ 2 Y (ix hT H Y Y Y Y Y Y fun _ H => ld hT H Y Y Y Y fun _ H => ?_))))))
 refine p_ 4 Y (ng (sR (p_ 4 Y (ix hT (H _ rfl) Y Y Y Y Y Y fun _ H => le Y (EffX.store hT Y Y Y Y Y H) ?_))))
 rintro _ _ ⟨h3, rfl, H⟩
 refine ng (rg (p_ 3 Y (nl (bn (tg (rg (p_ 3 Y ?_)))))))
 replace H := H _ rfl
 refine nl ?_
 exact pk (HK4 _ _ (H _ rfl)) [5, 6, 0, 3, 4] [] Y
 refine xt (tx (tx (bh (tg (ck ?_)))))
 refine AtC.loopM (fun (s0u2 : Sl × Int) => [(3, Sl.toV s0u2.1), (5, Value.int .i64 s0u2.2)]) (fun (s0u2 : Sl × Int) => []) [0, 4] [3, 5, 0, 4] [] [] H Y Y Y (by decide) Y (fun Kp8 s0u2 h4 H Q8 HK8 => ?_)
 refine cs (sR (p_ 2 Y (ng ?_)))
 refine cb H Y (fun H => ?_) (fun H => ?_)
 refine sk (tg (ck (sR (p_ 3 Y ?_))))
 refine AtLX.bs (hT := hT) (cs := [_]) H Y Y Y Y Y Y Y Y Y (fun a_4 h5 H => ?_)
 refine le Y (EffX.appendS (s := _) (u := _) hT Y Y Y Y Y Y Y Y Y Y (by decide) H) ?_
 rintro _ _ ⟨v_4, h6, rfl, rfl, H⟩
 refine p_ 1 Y (ng (rg (p_ 3 Y (nl (bn ?_)))))
 exact pk (HK8 _ _ (H _ rfl)) [3, 5, 0, 4] [] Y
 refine xt (tx (tx (bh (bn (tg (rg (p_ 3 Y ?_)))))))
 refine nl ?_
 exact pk (HK1 _ _ (H _ rfl)) [3, 4, 0] [] Y
 refine xt (tx (tx (bh (tg (sR (p_ 1 Y (lc (lift_ref01uCut _) H Tryz.call142 Y fun v_5 h7 H => ?_)))))))
 refine p_ 1 Y (ng (rt ?_))
 exact r1 2 Y Y Y H
theorem lift_ref02uOf (x0 : Bool × Sl × Sl) : Lf Tryz.prog 36 [Value.agg (C_bool_sl_sl x0).toArray] (fun r => Value.agg (C_bool_sl_sl r).toArray) (ref02uOf x0) := by
 refine Lf.go Tryz.func36 Tryz.ntmps36 Y Y [0] Y fun w m S H => ?_
 unfold ref02uOf at H
 refine sR (bx [_, _, _] H Y Y Y Y fun b _ H => al hT [_, _, _] H Y Y Y fun b_1 _ H => nl (tg ?_))
 refine AtC.joinSeq (β := Nat) (fun (t0 : Bool × Sl × Sl) (bb : Nat) => [(3, Value.pointer (some ⟨bb, 0, none⟩))]) (fun (t0 : Bool × Sl × Sl) (bb : Nat) => [(bb, [Value.bool t0.1, Sl.toV t0.2.1, Sl.toV t0.2.2])]) [2] [0] H.self Y Y (fun t0 bb h1 H => ?_) (fun J1 H HK1 => ?_)
 refine AtC.joinSeq (β := Unit) (fun (t0u1 : Bool × Sl × Sl) (bb_1 : Unit) => []) (fun (t0u1 : Bool × Sl × Sl) (bb_1 : Unit) => [(bb, [Value.bool t0u1.1, Sl.toV t0u1.2.1, Sl.toV t0u1.2.2])]) [2, 3] [1] H Y Y (fun t0u1 bb_1 h13 H => ?_) (fun J5 H HK5 => ?_)
 refine sR (lq Y (s_ 0 [_, _, _] Y) (sp hT 1 [(_, [_, _, _]), (_, [_, _, _])] Y Y Y Y Y Y Y Y Y Y Y fun _ => ng (rt ?_)))
 exact rc (i := 1) hT [_, _, _] Y Y Y Y Y Y Y Y Y H
 refine sR (p_ 1 Y (lq Y (l_ 0 Y) (p_ 2 Y (ng ?_))))
 refine cb H Y (fun H => ?_) (fun H => ?_)
 refine rg ?_
 refine AtLX.bs (hT := hT) (cs := [_]) H Y Y Y Y Y Y Y Y Y (fun a h14 H => ?_)
 refine p_ 1 Y (le Y (ep (i := 0) (qv := [(_, [_, _, _]), (_, [_, _, _])]) hT Y Y Y Y Y Y Y Y Y) ?_)
 rintro _ _ rfl
 refine nl ?_
 exact pk (HK5 _ () _ H) [2, 3] [0, 1] Y
 refine sk ?_
 exact pk (HK5 _ () _ H) [2, 3] [0, 1] Y
 apply AtC.stages [6, 9, 11, 12] (rl [([], 9), ([6], 1), ([6, 9], 1), ([], 1), ([6, 9, 11], 1)]) [[], [0], [0, 1], [], [3], [3, 4], [3, 4, 5], [], [7], [3, 4, 5, 6, 7, 8], (ra 10), [], (ra 12)] hmix (by kernel_rfl) (nm 4 [_, _, _, _, _, _] ++ [(11, _), (12, _)]) Y 4 Y
 refine Stg.go (ra 6 ++ [7, 8]) [6, 11] Y Y (q_ Y (q_ Y (qq Y (l_ 1 Y) Y (q_ Y (q_ Y (qq Y (l_ 1 Y) Y (q_ Y (qq Y (l_ 1 Y) Y qz)))))))) ?_
 refine EAll.cons ?_ ?_
 refine EOp.e Y Y Y (cl (fun h => ref01uOf _ h _) H.self Y Tryz.call96 Y (fun w m hr hw => lift_ref01uOf _ w m hr _ hw)) ?_
 rintro _ _ ⟨v, h3, rfl, rfl, H⟩
 apply Stg.next [(10, _)] Y Y
 refine Stg.go [0, 1, 2, 7, 8] [9, 11] Y Y (q_ Y (q_ Y (qq Y (l_ 1 Y) Y (q_ Y (qq Y (l_ 1 Y) Y qz))))) ?_
 refine EAll.cons ?_ ?_
 refine EOp.e Y Y Y (cl (fun h => ref01uOf _ h _) H.self Y Tryz.call96 Y (fun w m hr hw => lift_ref01uOf _ w m hr _ hw)) ?_
 rintro _ _ ⟨v_1, h5, rfl, rfl, H⟩
 apply Stg.next [(13, _), (14, _)] Y Y
 refine Stg.go [0, 1, 2, 10] [11] Y Y (q_ Y (q_ Y (qq Y (l_ 1 Y) Y (qq Y (qb (cs := [_, _, _]) hT Y Y Y Y Y Y) Y qz)))) (eo Y (ea (cs := [_, _, _]) hT Y Y H) ?_)
 rintro _ _ ⟨b_2, _, rfl, rfl, he1, H⟩
 apply Stg.next [(3, _)] Y Y
 refine Stg.go [0, 1, 2, 10] [12] Y Y (q_ Y (q_ Y (qq Y (l_ 2 Y) Y (qq Y (qb (cs := [_, _, _]) hT Y Y Y Y Y Y) Y qz)))) (eo Y (es (i := 0) (qv := [(_, [_, _, _]), (_, [_, _, _]), (_, [_, _, _])]) hT Y Y Y Y Y Y Y Y Y Y) ?_)
 rintro _ _ rfl
 apply Stg.next [] Y Y
 refine Stg.fin [] Y Y qz ?_
 exact pk (HK1 _ b_2 _ H.self) [3, 2] [0, 1] Y
 refine eo Y (ea (cs := [_, _, _]) hT Y Y H) ?_
 rintro _ _ ⟨b_3, _, rfl, rfl, he2, H⟩
 apply Stg.next [(3, _)] Y Y
 refine Stg.go [0, 1, 2, 7, 8] [9] Y Y (q_ Y (q_ Y (qq Y (l_ 2 Y) Y (q_ Y (qq Y (l_ 2 Y) Y qz))))) (ec (lift_ref01uOf _) H.self Tryz.call96 Y fun v_2 h7 H => ?_)
 apply Stg.next [(13, _), (14, _)] Y Y
 refine Stg.go [0, 1, 2, 10] [12] Y Y (q_ Y (q_ Y (qq Y (l_ 2 Y) Y (qq Y (qb (cs := [_, _, _]) hT Y Y Y Y Y Y) Y qz)))) (eo Y (es (i := 0) (qv := [(_, [_, _, _]), (_, [_, _, _]), (_, [_, _, _])]) hT Y Y Y Y Y Y Y Y Y Y) ?_)
 rintro _ _ rfl
 apply Stg.next [] Y Y
 refine Stg.fin [] Y Y qz ?_
 exact pk (HK1 _ b_3 _ H.self) [3, 2] [0, 1] Y
 refine eo Y (ea (cs := [_, _, _]) hT Y Y H) ?_
 rintro _ _ ⟨b_4, _, rfl, rfl, he3, H⟩
 apply Stg.next [(3, _)] Y Y
 refine Stg.go (ra 6 ++ [7, 8]) [6] Y Y (q_ Y (q_ Y (qq Y (l_ 2 Y) Y (q_ Y (q_ Y (qq Y (l_ 2 Y) Y (q_ Y (qq Y (l_ 2 Y) Y qz)))))))) (ec (lift_ref01uOf _) H.self Tryz.call96 Y fun v_3 h9 H => ?_)
 apply Stg.next [(10, _)] Y Y
 refine Stg.go [0, 1, 2, 7, 8] [9] Y Y (q_ Y (q_ Y (qq Y (l_ 2 Y) Y (q_ Y (qq Y (l_ 2 Y) Y qz))))) (ec (lift_ref01uOf _) H.self Tryz.call96 Y fun v_4 h11 H => ?_)
 apply Stg.next [(13, _), (14, _)] Y Y
 refine Stg.go [0, 1, 2, 10] [12] Y Y (q_ Y (q_ Y (qq Y (l_ 2 Y) Y (qq Y (qb (cs := [_, _, _]) hT Y Y Y Y Y Y) Y qz)))) (eo Y (es (i := 0) (qv := [(_, [_, _, _]), (_, [_, _, _]), (_, [_, _, _])]) hT Y Y Y Y Y Y Y Y Y Y) ?_)
 rintro _ _ rfl
 apply Stg.next [] Y Y
 refine Stg.fin [] Y Y qz ?_
 exact pk (HK1 _ b_4 _ H.self) [3, 2] [0, 1] Y
theorem lift_ref02uInt (n : Int) : Lf Tryz.prog 14 [Value.int .i64 n] (fun r => Value.agg (C_bool_sl_sl r).toArray) (ref02uInt n) := by
 refine Lf.go Tryz.func14 Tryz.ntmps14 Y Y [0] Y fun w m S H => ?_
 unfold ref02uInt at H
 refine sR (al hT [_, _, _] H Y Y Y fun b _ H => nl (tg (sR (p_ 2 Y ?_))))
 refine AtLX.bs (hT := hT) (cs := []) H.self Y Y Y Y Y Y Y Y Y (fun a h1 H => ?_)
 refine AtLX.bs (hT := hT) (cs := [_]) H Y Y Y Y Y Y Y Y Y (fun a_1 h2 H => ?_)
 refine lq Y (qb (cs := [_, _, _]) hT Y Y Y Y Y Y) (al hT [_, _, _] H Y Y Y fun b_1 _ H => sp hT 0 [(_, [_, _, _]), (_, [_, _, _])] Y Y Y Y Y Y Y Y Y Y Y fun _ => ng ?_)
 refine AtC.joinSeq (β := Unit) (fun (t0 : Int) (bb : Unit) => [(0, Value.int .i64 t0)]) (fun (t0 : Int) (bb : Unit) => []) [2, 3] [0, 1] H.self Y Y (fun t0 bb h4 H => ?_) (fun J1 H HK1 => ?_)
 refine cs (ck ?_)
 refine AtC.loopM (fun (s0 : Int × Bool × Sl × Sl) => [(0, Value.int .i64 s0.1)]) (fun (s0 : Int × Bool × Sl × Sl) => [(b_1, [Value.bool s0.2.1, Sl.toV s0.2.2.1, Sl.toV s0.2.2.2])]) [2, 3] [0, 2, 3] [1] [0, 1] H Y Y Y (by decide) Y (fun Kp2 s0 h5 H Q2 HK2 => ?_)
 refine cs (sR (p_ 2 Y (ng ?_)))
 refine cb H Y (fun H => ?_) (fun H => ?_)
 refine sk (tg (ck (sR (p_ 1 Y (lq Y (l_ 0 Y) (p_ 2 Y ?_))))))
 refine AtLX.bs (hT := hT) (cs := [_]) H Y Y Y Y Y Y Y Y Y (fun a_2 h6 H => ?_)
 refine le Y (EffX.appendS (s := _) (u := _) hT Y Y Y Y Y Y Y Y Y Y (by decide) H) ?_
 rintro _ _ ⟨v_3, h7, rfl, rfl, H⟩
 refine p_ 1 Y (le Y (ep (i := 0) (qv := [(_, [_, _, _]), (_, [_, _, _])]) hT Y Y Y Y Y Y Y Y Y) ?_)
 rintro _ _ rfl
 refine ng (rg (p_ 3 Y (nl (bn ?_))))
 exact pk (HK2 _ _ (H _ rfl)) [0, 2, 3] [0, 1] Y
 refine xt (tx (tx (bh (tg (sR (lq Y (s_ 0 [_, _, _] Y) (sp hT 1 [(_, [_, _, _]), (_, [_, _, _])] Y Y Y Y Y Y Y Y Y Y Y fun _ => ?_)))))))
 refine ng (rt ?_)
 exact rc (i := 1) hT [_, _, _] Y Y Y Y Y Y Y Y Y H
 refine sR (p_ 2 Y (ng ?_))
 refine cb H Y (fun H => ?_) (fun H => ?_)
 refine rg (p_ 3 Y (nl ?_))
 exact pk (HK1 _ () _ (H _ rfl)) [0, 2, 3] [0, 1] Y
 refine sk ?_
 exact pk (HK1 _ () _ H) [0, 2, 3] [0, 1] Y
theorem lift_ref01uCmp (x0 : Sl) (y : Sl) : Lf Tryz.prog 119 [Sl.toV x0, Sl.toV y] (Value.int .i64) (ref01uCmp x0 y) := by
 refine Lf.go Tryz.func119 Tryz.ntmps119 Y Y [0, 1] Y fun w m S H => ?_
 unfold ref01uCmp at H
 refine sR (p_ 1 Y (ng (cs (sR (p_ 5 Y (ng ?_))))))
 refine cb H Y (fun H => ?_) (fun H => ?_)
 refine cs (sR (p_ 5 Y (ng ?_)))
 refine cb H Y (fun H => ?_) (fun H => ?_)
 refine sR (p_ 1 Y (ng (rt (tr (tr ?_)))))
 exact r1 4 Y Y Y H
 refine sk (tg (sR (p_ 1 Y (ng (rt (tr ?_))))))
 exact r1 4 Y Y Y H
 refine sk (tg (cs (sR (p_ 4 Y (ng (ck ?_))))))
 refine AtC.loopM (fun (s0 : Int) => [(5, Value.int .i64 s0)]) (fun (s0 : Int) => []) [0, 1] [5, 0, 1] [] [] (H _ rfl) Y Y Y (by decide) Y (fun Kp1 s0 h0 H Q1 HK1 => ?_)
 refine cs (sR (p_ 2 Y (ng ?_)))
 refine cb H Y (fun H => ?_) (fun H => ?_)
 refine sk (tg (cs (ck (cs (AtC.seqD hmix (by kernel_rfl) (AtD.pures hT 2 _ _ _ _ Y ?_))))))
 obtain ⟨a_, hc1, hd1, H⟩ := H
 refine AtD.q Y (qi hT Y Y Y Y Y hc1 hd1) ?_
 obtain ⟨v, hc2, H⟩ := H
 refine AtD.q Y (ql hT Y Y Y hc2) (AtD.pures hT 2 _ _ _ _ Y ?_)
 obtain ⟨a_1_, hc3, hd3, H⟩ := H
 refine AtD.q Y (qi hT Y Y Y Y Y hc3 hd3) ?_
 obtain ⟨v_1, hc4, H⟩ := H
 refine AtD.q Y (ql hT Y Y Y hc4) (AtD.pures hT 1 _ _ _ _ Y (AtD.nil (tg ?_)))
 refine cb H Y (fun H => ?_) (fun H => ?_)
 refine sR (p_ 1 Y (ng (rt (tr (br (tr (tr ?_)))))))
 refine br (tr ?_)
 exact r1 4 Y Y Y H
 refine sk (tg (AtC.seqD hmix (by kernel_rfl) (AtD.pures hT 2 _ _ _ _ Y ?_)))
 obtain ⟨a_2_, hc5, hd5, H⟩ := H
 refine AtD.q Y (qi hT Y Y Y Y Y hc5 hd5) ?_
 obtain ⟨v_2, hc6, H⟩ := H
 refine AtD.q Y (ql hT Y Y Y hc6) (AtD.pures hT 2 _ _ _ _ Y ?_)
 obtain ⟨a_3_, hc7, hd7, H⟩ := H
 refine AtD.q Y (qi hT Y Y Y Y Y hc7 hd7) ?_
 obtain ⟨v_3, hc8, H⟩ := H
 refine AtD.q Y (ql hT Y Y Y hc8) (AtD.pures hT 1 _ _ _ _ Y (AtD.nil (tg ?_)))
 refine cb H Y (fun H => ?_) (fun H => ?_)
 refine sR (p_ 1 Y (ng (rt (br (tr (tr (br ?_)))))))
 refine tr ?_
 exact r1 4 Y Y Y H
 refine sk (bn (tg (rg (p_ 3 Y (nl ?_)))))
 exact pk (HK1 _ _ (H _ rfl)) [5, 0, 1] [] Y
 refine xt (tx (tx (bh (tg (sR (p_ 1 Y (ng ?_)))))))
 refine rt ?_
 exact r1 4 Y Y Y H
theorem lift_ref01uSub (x0 : Sl) (y : Sl) : Lf Tryz.prog 120 [Sl.toV x0, Sl.toV y] Sl.toV (ref01uSub x0 y) := by
 refine Lf.go Tryz.func120 Tryz.ntmps120 Y Y [0, 1] Y fun w m S H => ?_
 unfold ref01uSub at H
 refine sR (p_ 1 Y (ng (cs (sR (p_ 2 Y (lc (lift_ref01uCmp _ _) H Tryz.call119 Y fun v h0 H => p_ 1 Y ?_))))))
 refine ng ?_
 refine cb H Y (fun H => ?_) (fun H => ?_)
 refine sR ?_
 refine AtLX.bs (hT := hT) (cs := []) H Y Y Y Y Y Y Y Y Y (fun a h1 H => ?_)
 refine p_ 1 Y (ng (rt (tr ?_)))
 exact r1 4 Y Y Y H
 refine sk (tg (sR ?_))
 refine AtLX.bs (hT := hT) (cs := []) H Y Y Y Y Y Y Y Y Y (fun a_1 h2 H => ?_)
 refine p_ 1 Y (ng (sR (p_ 1 Y (ng (cs (sR (p_ 1 Y ?_)))))))
 refine ng (ck ?_)
 refine AtC.loopM (fun (s0 : Sl × Int × Int) => [(5, Sl.toV s0.1), (6, Value.int .i64 s0.2.1), (7, Value.int .i64 s0.2.2)]) (fun (s0 : Sl × Int × Int) => []) [0, 1] [5, 6, 7, 0, 1] [] [] (H _ rfl) Y Y Y (by decide) Y (fun Kp1 s0 h3 H Q1 HK1 => ?_)
 refine cs (sR (p_ 4 Y (ng ?_)))
 refine cb H Y (fun H => ?_) (fun H => ?_)
 refine sk (tg (cs (ck (sR (p_ 2 Y (ix hT H Y Y Y Y Y Y fun _ H => ld hT H Y Y Y Y fun _ H => ?_))))))
 refine p_ 3 Y (ng ?_)
 refine AtC.joinSeq (β := Unit) (fun (t0 : Int) (bb : Unit) => [(8, Value.int .i64 t0)]) (fun (t0 : Int) (bb : Unit) => []) [0, 1, 5, 7] [] (H _ rfl) Y Y (fun t0 bb h4 H => ?_) (fun J4 H HK4 => ?_)
 refine sR (p_ 1 Y (ng ?_))
 refine AtC.joinSeq (β := Unit) (fun (t0u1 : Int × Int) (bb_1 : Unit) => [(6, Value.int .i64 t0u1.1), (8, Value.int .i64 t0u1.2)]) (fun (t0u1 : Int × Int) (bb_1 : Unit) => []) [0, 1, 5, 7] [] H Y Y (fun t0u1 bb_1 h5 H => ?_) (fun J7 H HK7 => ?_)
 refine rg (p_ 2 Y ?_)
 refine AtLX.bs (hT := hT) (cs := [_]) H Y Y Y Y Y Y Y Y Y (fun a_4 h6 H => ?_)
 refine le Y (EffX.appendS (s := _) (u := _) hT Y Y Y Y Y Y Y Y Y Y (by decide) H) ?_
 rintro _ _ ⟨v_6, h7, rfl, rfl, H⟩
 refine p_ 1 Y (nl (bn (tg (rg (p_ 3 Y (nl ?_))))))
 exact pk (HK1 _ _ (H _ rfl)) [5, 6, 7, 0, 1] [] Y
 refine sR (p_ 2 Y (ng ?_))
 refine cb H Y (fun H => ?_) (fun H => ?_)
 refine sR (p_ 3 Y (ng (rg (p_ 1 Y (nl ?_)))))
 exact pk (HK7 _ () _ (H _ rfl)) [6, 8, 0, 1, 5, 7] [] Y
 refine sk ?_
 exact pk (HK7 _ () _ H) [6, 8, 0, 1, 5, 7] [] Y
 refine sR (p_ 4 Y (ng ?_))
 refine cb H Y (fun H => ?_) (fun H => ?_)
 refine rg (p_ 3 Y (ix hT H Y Y Y Y Y Y fun _ H => ld hT H Y Y Y Y fun _ H => p_ 2 Y (nl ?_)))
 exact pk (HK4 _ () _ (H _ rfl)) [8, 0, 1, 5, 7] [] Y
 refine sk ?_
 exact pk (HK4 _ () _ H) [8, 0, 1, 5, 7] [] Y
 refine xt (tx (tx (bh (tg (sR (p_ 1 Y (lc (lift_ref01uCut _) H Tryz.call142 Y fun v_7 h8 H => ?_)))))))
 refine p_ 1 Y (ng (rt ?_))
 exact r1 4 Y Y Y H
theorem lift_ref01uDiv (x0 : Sl) (y : Sl) : Lf Tryz.prog 155 [Sl.toV x0, Sl.toV y] (fun r => Value.tuple #[Sl.toV r.1, Sl.toV r.2]) (ref01uDiv x0 y) := by
 refine Lf.go Tryz.func155 Tryz.ntmps155 Y Y [0, 1] Y fun w m S H => ?_
 unfold ref01uDiv at H
 refine sR (p_ 2 Y (ng (cs (sR (p_ 3 Y (ng ?_))))))
 refine cb H Y (fun H => ?_) (fun H => ?_)
 refine sR ?_
 refine AtLX.bs (hT := hT) (cs := []) H Y Y Y Y Y Y Y Y Y (fun a h0 H => ?_)
 refine AtLX.bs (hT := hT) (cs := []) H Y Y Y Y Y Y Y Y Y (fun a_1 h1 H => ?_)
 refine p_ 2 Y (ng (rt (tr ?_)))
 exact AtE.retN (rs := [.tmp 4, .tmp 5]) Y (ResAll.cons (ResAt.tmp Y) (ResAll.cons (ResAt.tmp Y) ResAll.nil)) Y H
 refine sk (tg (sR (p_ 2 Y (le Y (EffX.mkS hT Y Y Y Y Y Y Y Y (by decide) (H _ rfl)) ?_))))
 rintro _ _ ⟨v_2, h2, rfl, rfl, H⟩
 refine p_ 1 Y (ng (sR ?_))
 refine AtLX.bs (hT := hT) (cs := []) H Y Y Y Y Y Y Y Y Y (fun a_2 h3 H => ?_)
 refine p_ 1 Y (ng (cs (sR (p_ 4 Y ?_))))
 replace H := H _ rfl
 refine ng (ck ?_)
 refine AtC.loopM (fun (s0 : Sl × Int) => [(7, Sl.toV s0.1), (8, Value.int .i64 s0.2)]) (fun (s0 : Sl × Int) => []) [0, 1, 6] [7, 8, 0, 1, 6] [] [] (H _ rfl) Y Y Y (by decide) Y (fun Kp1 s0 h4 H Q1 HK1 => ?_)
 refine cs (sR (p_ 2 Y (ng ?_)))
 refine cb H Y (fun H => ?_) (fun H => ?_)
 refine sk (tg (cs (ck (sR (p_ 2 Y (ix hT H Y Y Y Y Y Y fun _ H => ld hT H Y Y Y Y fun _ H => ?_))))))
 refine AtLX.bs (hT := hT) (cs := [_]) H Y Y Y Y Y Y Y Y Y (fun a_4 h5 H => ?_)
 refine p_ 1 Y (le Y (EffX.appendS (s := _) (u := _) hT Y Y Y Y Y Y Y Y Y Y (by decide) H) ?_)
 rintro _ _ ⟨v_6, h6, rfl, rfl, H⟩
 refine lc (lift_ref01uCut _) H Tryz.call142 Y fun v_7 h7 H => p_ 1 Y (ng (ck ?_))
 refine AtC.loopM (fun (s0u1 : Sl) => [(7, Sl.toV s0u1)]) (fun (s0u1 : Sl) => []) [0, 1, 6, 8] [7, 0, 1, 6, 8] [] [] H Y Y Y (by decide) Y (fun Kp4 s0u1 h8 H Q4 HK4 => ?_)
 refine cs (sR (p_ 2 Y (lc (lift_ref01uCmp _ _) H Tryz.call119 Y fun v_8 h9 H => p_ 1 Y (ng ?_))))
 refine cb H Y (fun H => ?_) (fun H => ?_)
 refine sk (tg (ck (sR (p_ 2 Y (lc (lift_ref01uSub _ _) H Tryz.call120 Y fun v_9 h10 H => p_ 1 Y (ng ?_))))))
 refine rg (p_ 2 Y (ix hT H Y Y Y Y Y Y fun _ H => ld hT H Y Y Y Y fun _ H => p_ 1 Y (ix hT H Y Y Y Y Y Y fun _ H => le Y (EffX.store hT Y Y Y Y Y H) ?_)))
 rintro _ _ ⟨h11, rfl, H⟩
 refine nl (bn ?_)
 exact pk (HK4 _ _ H) [7, 0, 1, 6, 8] [] Y
 refine xt (tx (tx (bh (bn (tg (rg (p_ 3 Y ?_)))))))
 refine nl ?_
 exact pk (HK1 _ _ (H _ rfl)) [7, 8, 0, 1, 6] [] Y
 refine xt (tx (tx (bh (tg (sR (p_ 1 Y (lc (lift_ref01uCut _) H Tryz.call142 Y fun v_11 h12 H => ?_)))))))
 refine p_ 3 Y (ng (rt ?_))
 exact AtE.retN (rs := [.tmp 4, .tmp 5]) Y (ResAll.cons (ResAt.tmp Y) (ResAll.cons (ResAt.tmp Y) ResAll.nil)) Y H
theorem lift_ref01uGcd (x0 : Sl) (y : Sl) : Lf Tryz.prog 154 [Sl.toV x0, Sl.toV y] Sl.toV (ref01uGcd x0 y) := by
 refine Lf.go Tryz.func154 Tryz.ntmps154 Y Y [0, 1] Y fun w m S H => ?_
 unfold ref01uGcd at H
 refine sR (p_ 1 Y (ng (cs (ck ?_))))
 refine AtC.loopM (fun (s0 : Sl × Sl) => [(0, Sl.toV s0.1), (1, Sl.toV s0.2)]) (fun (s0 : Sl × Sl) => []) [] [0, 1] [] [] H Y Y Y (by decide) Y (fun Kp1 s0 h0 H Q1 HK1 => ?_)
 refine cs (sR (p_ 3 Y (ng ?_)))
 refine cb H Y (fun H => ?_) (fun H => ?_)
 refine sk (tg (ck (sR (p_ 2 Y (lc (lift_ref01uDiv _ _) H Tryz.call155 Y fun v h1 H => p_ 5 Y (ng ?_))))))
 refine rg (p_ 4 Y (nl (bn ?_)))
 exact pk (HK1 _ _ H) [0, 1] [] Y
 refine xt (tx (tx (bh (tg (sR (p_ 2 Y (ng ?_)))))))
 refine rt ?_
 exact r1 4 Y Y Y H
theorem lift_ref02uLow (r : Bool × Sl × Sl) : Lf Tryz.prog 114 [Value.agg (C_bool_sl_sl r).toArray] (fun r => Value.agg (C_bool_sl_sl r).toArray) (ref02uLow r) := by
 refine Lf.go Tryz.func114 Tryz.ntmps114 Y Y [0] Y fun w m S H => ?_
 unfold ref02uLow at H
 refine sR (bx [_, _, _] H Y Y Y Y fun b _ H => al hT [_, _, _] H Y Y Y fun b_1 _ H => nl (tg (cs (sR (p_ 1 Y ?_)))))
 refine lq Y (l_ 1 Y) (p_ 2 Y (ng ?_))
 refine cb H.self Y (fun H => ?_) (fun H => ?_)
 refine sR (lc (lift_ref02uInt _) H Tryz.call14 Y fun v h1 H => sp hT 0 [(_, [_, _, _]), (_, [_, _, _])] Y Y Y Y Y Y Y Y Y Y Y fun _ => ng (rt (tr ?_)))
 exact rc (i := 0) hT [_, _, _] Y Y Y Y Y Y Y Y Y H
 refine sk (tg (sR (p_ 1 Y (lq Y (l_ 1 Y) (p_ 1 Y (lq Y (l_ 1 Y) (lc (lift_ref01uGcd _ _) H Tryz.call154 Y fun v_1 h2 H => ?_)))))))
 refine p_ 1 Y (ng (sR (p_ 1 Y (lq Y (l_ 1 Y) (p_ 1 Y (lc (lift_ref01uDiv _ _) H Tryz.call155 Y fun v_2 h3 H => p_ 5 Y ?_))))))
 refine ng (sR (p_ 1 Y (lq Y (l_ 1 Y) (p_ 1 Y (lc (lift_ref01uDiv _ _) H Tryz.call155 Y fun v_3 h4 H => p_ 5 Y (ng ?_))))))
 refine sR (p_ 1 Y (lq Y (l_ 1 Y) (p_ 2 Y (lq Y (qb (cs := [_, _, _]) hT Y Y Y Y Y Y) (sp hT 0 [(_, [_, _, _]), (_, [_, _, _])] Y Y Y Y Y Y Y Y Y Y Y fun _ => ng (rt ?_))))))
 exact rc (i := 0) hT [_, _, _] Y Y Y Y Y Y Y Y Y H
theorem lift_ref01uLimbs (x0 : Sl) : Lf Tryz.prog 115 [Sl.toV x0] Sl.toV (ref01uLimbs x0) := by
 refine Lf.go Tryz.func115 Tryz.ntmps115 Y Y [0] Y fun w m S H => ?_
 unfold ref01uLimbs at H
 refine sR (p_ 1 Y (ng (sR ?_)))
 refine AtLX.bs (hT := hT) (cs := []) H Y Y Y Y Y Y Y Y Y (fun a h0 H => ?_)
 refine p_ 1 Y (ng (cs (sR (p_ 4 Y ?_))))
 replace H := H _ rfl
 refine ng (ck ?_)
 refine AtC.loopM (fun (s0 : Sl × Int) => [(3, Sl.toV s0.1), (4, Value.int .i64 s0.2)]) (fun (s0 : Sl × Int) => []) [0] [3, 4, 0] [] [] (H _ rfl) Y Y Y (by decide) Y (fun Kp1 s0 h1 H Q1 HK1 => ?_)
 refine cs (sR (p_ 2 Y (ng ?_)))
 refine cb H Y (fun H => ?_) (fun H => ?_)
 refine sk (tg ?_)
 refine AtC.joinSeq (β := Unit) (fun (t0 : Sl) (bb : Unit) => [(3, Sl.toV t0)]) (fun (t0 : Sl) (bb : Unit) => []) [0, 4] [] H Y Y (fun t0 bb h2 H => ?_) (fun J2 H HK2 => ?_)
 refine rg (p_ 3 Y (nl ?_))
 exact pk (HK1 _ _ (H _ rfl)) [3, 4, 0] [] Y
 refine ck (sR (p_ 2 Y (ix hT H Y Y Y Y Y Y fun _ H => ld hT H Y Y Y Y fun _ H => p_ 2 Y (ng (cs ?_)))))
 refine sR (p_ 1 Y (ng (ck ?_)))
 refine AtC.loopM (fun (s0u1 : Int × Int) => [(5, Value.int .u64 s0u1.1), (6, Value.int .i64 s0u1.2)]) (fun (s0u1 : Int × Int) => []) [0, 3, 4] [5, 6, 0, 3, 4] [] [] (H _ rfl) Y Y Y (by decide) Y (fun Kp5 s0u1 h3 H Q5 HK5 => ?_)
 refine cs (sR (p_ 4 Y (ng ?_)))
 refine cb H Y (fun H => ?_) (fun H => ?_)
 refine sk (tg (cs (ck (sR (p_ 2 Y (ix hT H Y Y Y Y Y Y fun _ H => ld hT H Y Y Y Y fun _ H => ?_))))))
 refine p_ 5 Y (ng (sR (p_ 5 Y (ix hT (H _ rfl) Y Y Y Y Y Y fun _ H => le Y (EffX.store hT Y Y Y Y Y H) ?_))))
 rintro _ _ ⟨h4, rfl, H⟩
 refine ng (rg (p_ 3 Y (nl (bn (tg (rg (p_ 3 Y ?_)))))))
 replace H := H _ rfl
 refine nl ?_
 exact pk (HK5 _ _ (H _ rfl)) [5, 6, 0, 3, 4] [] Y
 refine xt (tx (tx (bh (tg (sR (p_ 2 Y (ng ?_)))))))
 refine cb H Y (fun H => ?_) (fun H => ?_)
 refine rg (p_ 3 Y ?_)
 refine AtLX.bs (hT := hT) (cs := [_]) H Y Y Y Y Y Y Y Y Y (fun a_4 h5 H => ?_)
 refine le Y (EffX.appendS (s := _) (u := _) hT Y Y Y Y Y Y Y Y Y Y (by decide) H) ?_
 rintro _ _ ⟨v_4, h6, rfl, rfl, H⟩
 refine p_ 1 Y (nl (bn ?_))
 exact pk (HK2 _ () _ H) [3, 0, 4] [] Y
 refine sk (bn ?_)
 exact pk (HK2 _ () _ H) [3, 0, 4] [] Y
 refine xt (tx (tx (bh (tg (sR (p_ 2 Y (ng ?_)))))))
 refine rt ?_
 exact r1 2 Y Y Y H
theorem lift_ref02uForm (r : Bool × Sl × Sl) : Lf Tryz.prog 48 [Value.agg (C_bool_sl_sl r).toArray] (fun r => Value.agg (C_bool_sl_sl r).toArray) (ref02uForm r) := by
 refine Lf.go Tryz.func48 Tryz.ntmps48 Y Y [0] Y fun w m S H => ?_
 unfold ref02uForm at H
 refine sR (bx [_, _, _] H Y Y Y Y fun b _ H => al hT [_, _, _] H Y Y Y fun b_1 _ H => nl (tg (sR (lq Y (s_ 1 [_, _, _] Y) (lc (lift_ref02uLow _) H.self Tryz.call114 Y fun v h1 H => ?_)))))
 refine sp hT 1 [(_, [_, _, _]), (_, [_, _, _])] Y Y Y Y Y Y Y Y Y Y Y fun _ => ng ?_
 refine AtC.joinSeq (β := Nat) (fun (t0 : Bool × Sl × Sl) (bb : Nat) => [(3, Value.pointer (some ⟨bb, 0, none⟩))]) (fun (t0 : Bool × Sl × Sl) (bb : Nat) => [(bb, [Value.bool t0.1, Sl.toV t0.2.1, Sl.toV t0.2.2])]) [1, 2] [0, 1] H Y Y (fun t0 bb h2 H => ?_) (fun J1 H HK1 => ?_)
 refine AtC.joinSeq (β := Unit) (fun (t0u1 : Bool × Sl × Sl) (bb_1 : Unit) => []) (fun (t0u1 : Bool × Sl × Sl) (bb_1 : Unit) => [(bb, [Value.bool t0u1.1, Sl.toV t0u1.2.1, Sl.toV t0u1.2.2])]) [2, 3] [1] H Y Y (fun t0u1 bb_1 h8 H => ?_) (fun J4 H HK4 => ?_)
 refine sR (lq Y (s_ 0 [_, _, _] Y) (sp hT 1 [(_, [_, _, _]), (_, [_, _, _])] Y Y Y Y Y Y Y Y Y Y Y fun _ => ng (rt ?_)))
 exact rc (i := 1) hT [_, _, _] Y Y Y Y Y Y Y Y Y H
 refine AtC.joinSeq (β := Unit) (fun (t0u2 : Bool) (bb_2 : Unit) => [(23, Value.bool t0u2)]) (fun (t0u2 : Bool) (bb_2 : Unit) => []) [1, 2, 3] [0, 1, 2] H Y Y (fun t0u2 bb_2 h9 H => ?_) (fun J5 H HK5 => ?_)
 refine cb H Y (fun H => ?_) (fun H => ?_)
 refine rg (p_ 1 Y (lq Y (l_ 2 Y) (lc (lift_ref01uLimbs _) H Tryz.call115 Y fun v_4 h10 H => p_ 1 Y (le Y (ep (i := 0) (qv := [(_, [_, _, _]), (_, [_, _, _]), (_, [_, _, _])]) hT Y Y Y Y Y Y Y Y Y) ?_))))
 rintro _ _ rfl
 refine nl ?_
 exact pk (HK4 _ () _ H) [2, 3] [0, 1] Y
 refine sk ?_
 exact pk (HK4 _ () _ H) [2, 3] [0, 1] Y
 refine rg (p_ 1 Y (lq Y (l_ 2 Y) (p_ 3 Y ?_)))
 refine AtL.splitB (t := 17) H Y (fun H => ?_) (fun H => ?_)
 refine p_ 6 Y (nl ?_)
 exact pk (HK5 _ () _ H) [23, 1, 2, 3] [0, 1, 2] Y
 refine p_ 3 Y (lq Y (l_ 2 Y) (p_ 1 Y (ix hT H Y Y Y Y Y Y fun _ H => p_ 1 Y (ld hT H Y Y Y Y fun _ H => p_ 3 Y (nl ?_)))))
 exact pk (HK5 _ () _ H) [23, 1, 2, 3] [0, 1, 2] Y
 apply AtC.stages [4, 7, 8] [[], [], [], [], [], [4], [4], [], [4, 7]] [[], [0], [], [2], [2, 3], (ra 5), (ra 6), [], (ra 8)] hmix (by kernel_rfl) (nm 6 [_, _, _, _]) Y 3 Y
 refine Stg.go [0, 1, 2, 3] [4, 7] Y Y (q_ Y (qq Y (l_ 1 Y) Y (q_ Y (qq Y (l_ 1 Y) Y qz)))) ?_
 refine EAll.cons ?_ ?_
 refine EOp.e Y Y Y (cl (fun h => ref01uLimbs _ h _) H.self Y Tryz.call115 Y (fun w m hr hw => lift_ref01uLimbs _ w m hr _ hw)) ?_
 rintro _ _ ⟨v_1, h4, rfl, rfl, H⟩
 apply Stg.next (nm 10 [_, _, _]) Y Y
 refine Stg.go [0, 1, 5, 6] [7] Y Y (q_ Y (qq Y (l_ 1 Y) Y (qq Y (qb (cs := [_, _]) hT Y Y Y Y Y Y) Y (qq Y (qb (cs := [_, _, _]) hT Y Y Y Y Y Y) Y qz)))) (eo Y (ea (cs := [_, _, _]) hT Y Y H) ?_)
 rintro _ _ ⟨b_2, _, rfl, rfl, he1, H⟩
 apply Stg.next [(3, _)] Y Y
 refine Stg.go [0, 1, 5, 6] [8] Y Y (q_ Y (qq Y (l_ 2 Y) Y (qq Y (qb (cs := [_, _]) hT Y Y Y Y Y Y) Y (qq Y (qb (cs := [_, _, _]) hT Y Y Y Y Y Y) Y qz)))) (eo Y (es (i := 0) (qv := [(_, [_, _, _]), (_, [_, _, _]), (_, [_, _, _])]) hT Y Y Y Y Y Y Y Y Y Y) ?_)
 rintro _ _ rfl
 apply Stg.next [] Y Y
 refine Stg.fin [] Y Y qz ?_
 exact pk (HK1 _ b_2 _ H.self) [3, 1, 2] [0, 1, 2] Y
 refine eo Y (ea (cs := [_, _, _]) hT Y Y H) ?_
 rintro _ _ ⟨b_3, _, rfl, rfl, he2, H⟩
 apply Stg.next [(3, _)] Y Y
 refine Stg.go [0, 1, 2, 3] [4] Y Y (q_ Y (qq Y (l_ 2 Y) Y (q_ Y (qq Y (l_ 2 Y) Y qz)))) (ec (lift_ref01uLimbs _) H.self Tryz.call115 Y fun v_2 h6 H => ?_)
 apply Stg.next (nm 10 [_, _, _]) Y Y
 refine Stg.go [0, 1, 5, 6] [8] Y Y (q_ Y (qq Y (l_ 2 Y) Y (qq Y (qb (cs := [_, _]) hT Y Y Y Y Y Y) Y (qq Y (qb (cs := [_, _, _]) hT Y Y Y Y Y Y) Y qz)))) (eo Y (es (i := 0) (qv := [(_, [_, _, _]), (_, [_, _, _]), (_, [_, _, _])]) hT Y Y Y Y Y Y Y Y Y Y) ?_)
 rintro _ _ rfl
 apply Stg.next [] Y Y
 refine Stg.fin [] Y Y qz ?_
 exact pk (HK1 _ b_3 _ H.self) [3, 1, 2] [0, 1, 2] Y
theorem lift_ref01uSame (a : Sl) (b : Sl) : Lf Tryz.prog 113 [Sl.toV a, Sl.toV b] Value.bool (ref01uSame a b) := by
 refine Lf.go Tryz.func113 Tryz.ntmps113 Y Y [0, 1] Y fun w m S H => ?_
 unfold ref01uSame at H
 refine sR (p_ 1 Y (ng (cs (sR (p_ 5 Y (ng ?_))))))
 refine cb H Y (fun H => ?_) (fun H => ?_)
 refine sR (p_ 1 Y (ng (rt (tr ?_))))
 exact r1 4 Y Y Y H
 refine sk (tg (cs (sR (p_ 1 Y (ng (ck ?_))))))
 refine AtC.loopM (fun (s0 : Int) => [(5, Value.int .i64 s0)]) (fun (s0 : Int) => []) [0, 1] [5, 0, 1] [] [] H Y Y Y (by decide) Y (fun Kp1 s0 h0 H Q1 HK1 => ?_)
 refine cs (sR (p_ 4 Y (ng ?_)))
 refine cb H Y (fun H => ?_) (fun H => ?_)
 refine sk (tg (cs (ck (AtC.seqD hmix (by kernel_rfl) (AtD.pures hT 2 _ _ _ _ Y ?_)))))
 obtain ⟨a_1_, hc1, hd1, H⟩ := H
 refine AtD.q Y (qi hT Y Y Y Y Y hc1 hd1) ?_
 obtain ⟨v, hc2, H⟩ := H
 refine AtD.q Y (ql hT Y Y Y hc2) (AtD.pures hT 2 _ _ _ _ Y ?_)
 obtain ⟨a_2_, hc3, hd3, H⟩ := H
 refine AtD.q Y (qi hT Y Y Y Y Y hc3 hd3) ?_
 obtain ⟨v_1, hc4, H⟩ := H
 refine AtD.q Y (ql hT Y Y Y hc4) (AtD.pures hT 1 _ _ _ _ Y (AtD.nil (tg ?_)))
 refine cb H Y (fun H => ?_) (fun H => ?_)
 refine sR (p_ 1 Y (ng (rt (br (tr (tr (br ?_)))))))
 refine tr ?_
 exact r1 4 Y Y Y H
 refine sk (bn (tg (rg (p_ 3 Y (nl ?_)))))
 exact pk (HK1 _ _ (H _ rfl)) [5, 0, 1] [] Y
 refine xt (tx (tx (bh (tg (sR (p_ 1 Y (ng ?_)))))))
 refine rt ?_
 exact r1 4 Y Y Y H
theorem lift_ref02uSame (x0 : Bool × Sl × Sl) (y : Bool × Sl × Sl) : Lf Tryz.prog 47 [Value.agg (C_bool_sl_sl x0).toArray, Value.agg (C_bool_sl_sl y).toArray] Value.bool (ref02uSame x0 y) := by
 refine Lf.go Tryz.func47 Tryz.ntmps47 Y Y [0, 1] Y fun w m S H => ?_
 unfold ref02uSame at H
 refine sR (bx [_, _, _] H Y Y Y Y fun b _ H => bx [_, _, _] H Y Y Y Y fun b_1 _ H => p_ 1 Y (ng ?_))
 refine AtC.joinSeq (β := Unit) (fun (t0 : Bool) (bb : Unit) => [(4, Value.bool t0)]) (fun (t0 : Bool) (bb : Unit) => []) [] [] H.self Y Y (fun t0 bb h1 H => ?_) (fun J1 H HK1 => ?_)
 refine rt ?_
 exact r1 4 Y Y Y H
 refine rg (p_ 2 Y (lq Y (l_ 1 Y) (p_ 2 Y (lq Y (l_ 0 Y) (p_ 2 Y ?_)))))
 refine AtL.splitB (t := 12) H Y (fun H => ?_) (fun H => ?_)
 refine p_ 5 Y (lq Y (l_ 1 Y) (p_ 5 Y (lq Y (l_ 0 Y) (p_ 1 Y (lc (lift_ref01uSame _ _) H Tryz.call113 Y fun v h2 H => p_ 2 Y ?_)))))
 refine AtL.splitB (t := 21) H Y (fun H => ?_) (fun H => ?_)
 refine p_ 3 Y (lq Y (l_ 1 Y) (p_ 3 Y (lq Y (l_ 0 Y) (p_ 1 Y (lc (lift_ref01uSame _ _) H Tryz.call113 Y fun v_1 h3 H => p_ 2 Y (nl ?_))))))
 exact pk (HK1 _ () _ H) [4] [] Y
 refine p_ 7 Y (nl ?_)
 exact pk (HK1 _ () _ H) [4] [] Y
 refine p_ 16 Y (nl ?_)
 exact pk (HK1 _ () _ H) [4] [] Y
theorem lift_ref02uRight (x0 : Bool × Sl × Sl) : Lf Tryz.prog 11 [Value.agg (C_bool_sl_sl x0).toArray] Value.bool (ref02uRight x0) := by
 refine Lf.go Tryz.func11 Tryz.ntmps11 Y Y [0] Y fun w m S H => ?_
 unfold ref02uRight at H
 refine sR (bx [_, _, _] H Y Y Y Y fun b _ H => p_ 1 Y (ng (cs ?_)))
 refine AtC.joinSeq (β := Unit) (fun (t0 : Bool) (bb : Unit) => [(49, Value.bool t0)]) (fun (t0 : Bool) (bb : Unit) => []) [1] [0] H.self Y Y (fun t0 bb h1 H => ?_) (fun J1 H HK1 => ?_)
 refine cb H Y (fun H => ?_) (fun H => ?_)
 refine sR (p_ 1 Y (ng (rt (tr ?_))))
 exact r1 2 Y Y Y H
 refine sk (tg ?_)
 apply AtC.seqS [2, 3, 4] [[], [], [], [2], [2, 3], [2, 3, 4]] [[], [], [1], [1, 2], [0, 1, 2, 3], (ra 5)] hmix (by kernel_rfl) [(50, _), (51, _)] Y 3 Y
 refine Stg.go [0, 1] [2] Y Y (qq Y (s_ 0 [_, _, _] Y) Y (qq Y (s_ 0 [_, _, _] Y) Y qz)) (ec (lift_ref02uOf _) H Tryz.call36 Y fun v_3 h2 H => ?_)
 apply Stg.next [(52, _)] Y Y
 refine Stg.go [0] [3] Y Y (qq Y (s_ 0 [_, _, _] Y) Y qz) (ec (lift_ref02uForm _) H Tryz.call48 Y fun v_4 h3 H => ?_)
 apply Stg.next [(53, _)] Y Y
 refine Stg.go [0] [4] Y Y (qq Y (s_ 0 [_, _, _] Y) Y qz) (ec (lift_ref02uSame _ _) H Tryz.call47 Y fun v_5 h4 H => ?_)
 apply Stg.next [(54, _), (2, _)] Y Y
 refine Stg.fin [5] Y Y (q_ Y qz) (tg (rt ?_))
 exact r1 2 Y Y Y H
 refine rg (p_ 2 Y (lq Y (l_ 0 Y) (p_ 3 Y ?_)))
 refine AtL.splitB (t := 8) H Y (fun H => ?_) (fun H => ?_)
 refine p_ 5 Y (lq Y (l_ 0 Y) (p_ 5 Y (lq Y (l_ 0 Y) (p_ 5 Y (ix hT H Y Y Y Y Y Y fun _ H => p_ 1 Y (ld hT H Y Y Y Y fun _ H => ?_))))))
 refine p_ 4 Y ?_
 refine AtL.splitB (t := 21) H Y (fun H => ?_) (fun H => ?_)
 refine p_ 5 Y (AtL.noU Y Y Y Y (AtL.noU Y Y Y Y (AtL.noU Y Y Y Y (AtL.noU Y Y Y Y (AtL.noU Y Y Y Y (AtL.noU Y Y Y Y (AtL.noU Y Y Y Y ?_)))))))
 refine AtL.noU Y Y Y Y (AtL.noU Y Y Y Y (p_ 9 Y (AtL.noU Y Y Y Y (AtL.noU Y Y Y Y (AtL.noU Y Y Y Y (p_ 2 Y (nl ?_)))))))
 exact pk (HK1 _ () _ H) [49, 1] [0] Y
 refine p_ 3 Y (lq Y (l_ 0 Y) (p_ 6 Y ?_))
 refine AtL.splitB (t := 26) H Y (fun H => ?_) (fun H => ?_)
 refine p_ 3 Y (lq Y (l_ 0 Y) (p_ 3 Y (lq Y (l_ 0 Y) (p_ 5 Y (ix hT H Y Y Y Y Y Y fun _ H => p_ 1 Y (ld hT H Y Y Y Y fun _ H => ?_))))))
 refine p_ 6 Y ?_
 refine AtL.splitB (t := 38) H Y (fun H => ?_) (fun H => ?_)
 refine p_ 6 Y (AtL.noU Y Y Y Y (AtL.noU Y Y Y Y (AtL.noU Y Y Y Y (p_ 2 Y (nl ?_)))))
 exact pk (HK1 _ () _ H) [49, 1] [0] Y
 refine p_ 5 Y (lq Y (l_ 0 Y) (p_ 6 Y ?_))
 refine AtL.splitB (t := 44) H Y (fun H => ?_) (fun H => ?_)
 refine p_ 5 Y (lq Y (l_ 0 Y) (p_ 3 Y (nl ?_)))
 exact pk (HK1 _ () _ H) [49, 1] [0] Y
 refine p_ 6 Y (nl ?_)
 exact pk (HK1 _ () _ H) [49, 1] [0] Y
 refine p_ 18 Y (lq Y (l_ 0 Y) (p_ 6 Y ?_))
 refine AtL.splitB (t := 44) H Y (fun H => ?_) (fun H => ?_)
 refine p_ 5 Y (lq Y (l_ 0 Y) (p_ 3 Y (nl ?_)))
 exact pk (HK1 _ () _ H) [49, 1] [0] Y
 refine p_ 6 Y (nl ?_)
 exact pk (HK1 _ () _ H) [49, 1] [0] Y
 refine p_ 16 Y (lq Y (l_ 0 Y) (p_ 6 Y ?_))
 refine AtL.splitB (t := 26) H Y (fun H => ?_) (fun H => ?_)
 refine p_ 3 Y (lq Y (l_ 0 Y) (p_ 3 Y (lq Y (l_ 0 Y) (p_ 5 Y (ix hT H Y Y Y Y Y Y fun _ H => p_ 1 Y (ld hT H Y Y Y Y fun _ H => ?_))))))
 refine p_ 6 Y ?_
 refine AtL.splitB (t := 38) H Y (fun H => ?_) (fun H => ?_)
 refine p_ 6 Y (AtL.noU Y Y Y Y (AtL.noU Y Y Y Y (AtL.noU Y Y Y Y (p_ 2 Y (nl ?_)))))
 exact pk (HK1 _ () _ H) [49, 1] [0] Y
 refine p_ 5 Y (lq Y (l_ 0 Y) (p_ 6 Y ?_))
 refine AtL.splitB (t := 44) H Y (fun H => ?_) (fun H => ?_)
 refine p_ 5 Y (lq Y (l_ 0 Y) (p_ 3 Y (nl ?_)))
 exact pk (HK1 _ () _ H) [49, 1] [0] Y
 refine p_ 6 Y (nl ?_)
 exact pk (HK1 _ () _ H) [49, 1] [0] Y
 refine p_ 18 Y (lq Y (l_ 0 Y) (p_ 6 Y ?_))
 refine AtL.splitB (t := 44) H Y (fun H => ?_) (fun H => ?_)
 refine p_ 5 Y (lq Y (l_ 0 Y) (p_ 3 Y (nl ?_)))
 exact pk (HK1 _ () _ H) [49, 1] [0] Y
 refine p_ 6 Y (nl ?_)
 exact pk (HK1 _ () _ H) [49, 1] [0] Y
theorem lift_ref12uRight (p : Bool × Sl × Sl × Sl) : Lf Tryz.prog 35 [Value.agg (C_bool_sl_sl_sl p).toArray] Value.bool (ref12uRight p) := by
 refine Lf.go Tryz.func35 Tryz.ntmps35 Y Y [0] Y fun w m S H => ?_
 unfold ref12uRight at H
 refine sR (bx [_, _, _, _] H Y Y Y Y fun b _ H => p_ 1 Y (ng (cs (sR (p_ 1 Y (lq Y (s_ 0 [_, _, _] Y) ?_))))))
 refine lc (lift_ref02uRight _) H.self Tryz.call11 Y fun v h1 H => p_ 1 Y (ng ?_)
 refine cb H Y (fun H => ?_) (fun H => ?_)
 refine sR (p_ 1 Y (ng (rt (tr ?_))))
 exact r1 2 Y Y Y H
 refine sk (tg (cs (sR (p_ 1 Y (ng (ck ?_))))))
 refine AtC.loopM (fun (s0 : Int) => [(3, Value.int .i64 s0)]) (fun (s0 : Int) => []) [1] [3, 1] [0] [0] H Y Y Y (by decide) Y (fun Kp1 s0 h2 H Q1 HK1 => ?_)
 refine cs (sR (p_ 2 Y (lq Y (l_ 0 Y) (p_ 2 Y (ng ?_)))))
 refine cb H Y (fun H => ?_) (fun H => ?_)
 refine sk (tg (cs (ck (sR (p_ 1 Y (lq Y (l_ 0 Y) (p_ 1 Y ?_)))))))
 refine ix hT H Y Y Y Y Y Y fun _ H => lds hT H Y Y Y Y Y fun _ H => al hT [_, _, _, _] H Y Y Y fun b_1 _ H => sp hT 0 [(_, [_, _, _, _]), (_, [_, _, _, _])] Y Y Y Y Y Y Y Y Y Y Y fun _ => ng ?_
 refine AtC.joinSeq (β := Unit) (fun (t0 : Bool) (bb : Unit) => [(53, Value.bool t0)]) (fun (t0 : Bool) (bb : Unit) => []) [1, 3] [1] H.self Y Y (fun t0 bb h4 H => ?_) (fun J4 H HK4 => ?_)
 refine cb H Y (fun H => ?_) (fun H => ?_)
 refine sR (p_ 1 Y (ng (rt (br (tr (tr (br ?_)))))))
 refine tr ?_
 exact r1 2 Y Y Y H
 refine sk (bn (tg (rg (p_ 3 Y (nl ?_)))))
 exact pk (HK1 _ _ (H _ rfl)) [3, 1] [0] Y
 rcases iteB.cases H with ⟨hb4, H⟩ | ⟨hb4, H⟩
 apply AtC.stages [22] A2u1 G2u1 hmix (by kernel_rfl) (nm 21 [_, _, _, _, _, _, _, _, _, _, _, _, _, _, _, _, _, _, _, _, _, _]) Y 1 Y
 refine Stg.known (t := 24) Y hb4 (Stg.go (ra 22) [22] Y Y (q_ Y (qq Y (l_ 0 Y) Y (q_ Y (QAll.cons (QOp.pk hT Y Y Y Y hb4 Y) (qn Y Y Y Y (by decide) Y Y (qn Y Y Y Y (by decide) Y Y (qn Y Y Y Y (by decide) Y Y (QAll.cons (QOp.u Y Y Y Y Y Y) (QAll.cons (QOp.u Y Y Y Y Y Y) (QAll.cons (QOp.u Y Y Y Y Y Y) (QAll.cons (QOp.u Y Y Y Y Y Y) (QAll.cons (QOp.u Y Y Y Y Y Y) (QAll.cons (QOp.u Y Y Y Y Y Y) (QAll.cons (QOp.u Y Y Y Y Y Y) (QAll.cons (QOp.u Y Y Y Y Y Y) (QAll.cons (QOp.u Y Y Y Y Y Y) (QAll.cons (QOp.u Y Y Y Y Y Y) (qn Y Y Y Y (by decide) Y Y (q_ Y (q_ Y (qn Y Y Y Y (by decide) Y Y (qn Y Y Y Y (by decide) Y Y qz)))))))))))))))))))))) ?_)
 refine EAll.cons ?_ EAll.nil
 refine EOp.no Y Y Y Y (by decide) Y ?_
 apply Stg.next (nm 43 [_, _, _, _, _, _, _, _, _, _, _]) Y Y
 refine Stg.fin [23, 24, 25, 26, 27, 28, 29, 30, 31, 32] Y Y (qn Y Y Y Y (by decide) Y Y (q_ Y (q_ Y (qn Y Y Y Y (by decide) Y Y (qn Y Y Y Y (by decide) Y Y (qn Y Y Y Y (by decide) Y Y (qn Y Y Y Y (by decide) Y Y (qn Y Y Y Y (by decide) Y Y (qn Y Y Y Y (by decide) Y Y (q_ Y qz)))))))))) ?_
 exact pk (HK4 _ () _ H) [53, 1, 3] [1] Y
 rcases iteB.cases H with ⟨hb5, H⟩ | ⟨hb5, H⟩
 obtain ⟨a_1_, hc6, hd6, H⟩ := H
 obtain ⟨v_2, hc7, H⟩ := H
 rcases iteB.cases H with ⟨hb8, H⟩ | ⟨hb8, H⟩
 apply AtC.stages [22] A2u1 G2u1 hmix (by kernel_rfl) (nm 21 [_, _, _, _, _, _, _, _, _, _, _, _, _, _, _, _, _, _, _, _, _, _]) Y 1 Y
 refine Stg.known (t := 24) Y hb4 (Stg.known (t := 27) Y hb5 (Stg.known (t := 40) Y hb8 (Stg.go (ra 22) [22] Y Y (q_ Y (qq Y (l_ 0 Y) Y (q_ Y (QAll.cons (QOp.pk hT Y Y Y Y hb4 Y) (QAll.cons (QOp.yp hT Y Y Y Y Y Y Y) (QAll.cons (QOp.yp hT Y Y Y Y Y Y Y) (QAll.cons (QOp.ypk hT Y Y Y Y Y Y hb5 Y) (QAll.cons (QOp.yp hT Y Y Y Y Y Y Y) (QAll.cons (QOp.y Y Y Y Y (l_ 0 Y) Y Y) (QAll.cons (QOp.yp hT Y Y Y Y Y Y Y) (QAll.cons (QOp.y Y Y Y Y (l_ 1 Y) Y Y) (QAll.cons (QOp.yp hT Y Y Y Y Y Y Y) (QAll.cons (QOp.yp hT Y Y Y Y Y Y Y) (QAll.cons (QOp.y Y Y Y Y (qi hT Y Y Y Y Y hc6 hd6) Y Y) (QAll.cons (QOp.yp hT Y Y Y Y Y Y Y) (QAll.cons (QOp.y Y Y Y Y (ql hT Y Y Y hc7) Y Y) (QAll.cons (QOp.yp hT Y Y Y Y Y Y Y) (QAll.cons (QOp.yp hT Y Y Y Y Y Y Y) (q_ Y (QAll.cons (QOp.pk hT Y Y Y Y hb8 Y) (qn Y Y Y Y (by decide) Y Y (qn Y Y Y Y (by decide) Y Y qz)))))))))))))))))))))) ?_)))
 refine EAll.cons ?_ EAll.nil
 refine EOp.no Y Y Y Y (by decide) Y ?_
 apply Stg.next (nm 43 [_, _, _, _, _, _, _, _, _, _, _]) Y Y
 refine Stg.fin [23, 24, 25, 26, 27, 28, 29, 30, 31, 32] Y Y (qn Y Y Y Y (by decide) Y Y (q_ Y (q_ Y (qn Y Y Y Y (by decide) Y Y (qn Y Y Y Y (by decide) Y Y (qn Y Y Y Y (by decide) Y Y (qn Y Y Y Y (by decide) Y Y (qn Y Y Y Y (by decide) Y Y (qn Y Y Y Y (by decide) Y Y (q_ Y qz)))))))))) ?_
 exact pk (HK4 _ () _ H) [53, 1, 3] [1] Y
 apply AtC.stages [22] A2u1 G2u1 hmix (by kernel_rfl) (nm 21 [_, _, _, _, _, _, _, _, _, _, _, _, _, _, _, _, _, _, _, _, _, _]) Y 1 Y
 refine Stg.known (t := 24) Y hb4 (Stg.known (t := 27) Y hb5 (Stg.known (t := 40) Y hb8 (Stg.go (ra 22) [22] Y Y (q_ Y (qq Y (l_ 0 Y) Y (q_ Y (QAll.cons (QOp.pk hT Y Y Y Y hb4 Y) (QAll.cons (QOp.yp hT Y Y Y Y Y Y Y) (QAll.cons (QOp.yp hT Y Y Y Y Y Y Y) (QAll.cons (QOp.ypk hT Y Y Y Y Y Y hb5 Y) (QAll.cons (QOp.yp hT Y Y Y Y Y Y Y) (QAll.cons (QOp.y Y Y Y Y (l_ 0 Y) Y Y) (QAll.cons (QOp.yp hT Y Y Y Y Y Y Y) (QAll.cons (QOp.y Y Y Y Y (l_ 1 Y) Y Y) (QAll.cons (QOp.yp hT Y Y Y Y Y Y Y) (QAll.cons (QOp.yp hT Y Y Y Y Y Y Y) (QAll.cons (QOp.y Y Y Y Y (qi hT Y Y Y Y Y hc6 hd6) Y Y) (QAll.cons (QOp.yp hT Y Y Y Y Y Y Y) (QAll.cons (QOp.y Y Y Y Y (ql hT Y Y Y hc7) Y Y) (QAll.cons (QOp.yp hT Y Y Y Y Y Y Y) (QAll.cons (QOp.yp hT Y Y Y Y Y Y Y) (q_ Y (QAll.cons (QOp.pk hT Y Y Y Y hb8 Y) (QAll.cons (QOp.yp hT Y Y Y Y Y Y Y) (QAll.cons (QOp.y Y Y Y Y (s_ 0 [_, _, _] Y) Y Y) qz)))))))))))))))))))))) ?_)))
 refine EAll.cons ?_ EAll.nil
 refine EOp.y Y Y Y Y Y (cl (fun h => ref02uRight _ h _) H Y Tryz.call11 Y (fun w m hr hw => lift_ref02uRight _ w m hr _ hw)) ?_
 rintro _ _ ⟨v_3, h5, rfl, rfl, H⟩
 rcases iteB.cases H with ⟨hb9, H⟩ | ⟨hb9, H⟩
 apply Stg.next (nm 43 [_, _, _, _, _, _, _, _, _, _, _]) Y Y
 refine Stg.known (t := 46) Y hb9 (Stg.fin [23, 24, 25, 26, 27, 28, 29, 30, 31, 32] Y Y (QAll.cons (QOp.yp hT Y Y Y Y Y Y Y) (q_ Y (QAll.cons (QOp.pk hT Y Y Y Y hb9 Y) (qn Y Y Y Y (by decide) Y Y (qn Y Y Y Y (by decide) Y Y (qn Y Y Y Y (by decide) Y Y (qn Y Y Y Y (by decide) Y Y (qn Y Y Y Y (by decide) Y Y (qn Y Y Y Y (by decide) Y Y (q_ Y qz)))))))))) ?_)
 exact pk (HK4 _ () _ H) [53, 1, 3] [1] Y
 apply Stg.next (nm 43 [_, _, _, _, _, _, _, _, _, _, _]) Y Y
 refine Stg.known (t := 46) Y hb9 (Stg.fin [23, 24, 25, 26, 27, 28, 29, 30, 31, 32] Y Y (QAll.cons (QOp.yp hT Y Y Y Y Y Y Y) (q_ Y (QAll.cons (QOp.pk hT Y Y Y Y hb9 Y) (QAll.cons (QOp.yp hT Y Y Y Y Y Y Y) (QAll.cons (QOp.yp hT Y Y Y Y Y Y Y) (QAll.cons (QOp.yp hT Y Y Y Y Y Y Y) (QAll.cons (QOp.y Y Y Y Y (l_ 0 Y) Y Y) (QAll.cons (QOp.yp hT Y Y Y Y Y Y Y) (QAll.cons (QOp.yp hT Y Y Y Y Y Y Y) (q_ Y qz)))))))))) ?_)
 exact pk (HK4 _ () _ H) [53, 1, 3] [1] Y
 apply AtC.stages [22] A2u1 G2u1 hmix (by kernel_rfl) (nm 21 [_, _, _, _, _, _, _, _, _, _, _, _, _, _, _, _, _, _, _, _, _, _]) Y 1 Y
 refine Stg.known (t := 24) Y hb4 (Stg.known (t := 27) Y hb5 (Stg.go (ra 22) [22] Y Y (q_ Y (qq Y (l_ 0 Y) Y (q_ Y (QAll.cons (QOp.pk hT Y Y Y Y hb4 Y) (QAll.cons (QOp.yp hT Y Y Y Y Y Y Y) (QAll.cons (QOp.yp hT Y Y Y Y Y Y Y) (QAll.cons (QOp.ypk hT Y Y Y Y Y Y hb5 Y) (qn Y Y Y Y (by decide) Y Y (qn Y Y Y Y (by decide) Y Y (qn Y Y Y Y (by decide) Y Y (qn Y Y Y Y (by decide) Y Y (qn Y Y Y Y (by decide) Y Y (qn Y Y Y Y (by decide) Y Y (qn Y Y Y Y (by decide) Y Y (qn Y Y Y Y (by decide) Y Y (qn Y Y Y Y (by decide) Y Y (qn Y Y Y Y (by decide) Y Y (QAll.cons (QOp.yp hT Y Y Y Y Y Y Y) (q_ Y (q_ Y (QAll.cons (QOp.yp hT Y Y Y Y Y Y Y) (QAll.cons (QOp.y Y Y Y Y (s_ 0 [_, _, _] Y) Y Y) qz)))))))))))))))))))))) ?_))
 refine EAll.cons ?_ EAll.nil
 refine EOp.y Y Y Y Y Y (cl (fun h => ref02uRight _ h _) H Y Tryz.call11 Y (fun w m hr hw => lift_ref02uRight _ w m hr _ hw)) ?_
 rintro _ _ ⟨v_4, h6, rfl, rfl, H⟩
 rcases iteB.cases H with ⟨hb10, H⟩ | ⟨hb10, H⟩
 apply Stg.next (nm 43 [_, _, _, _, _, _, _, _, _, _, _]) Y Y
 refine Stg.known (t := 46) Y hb10 (Stg.fin [23, 24, 25, 26, 27, 28, 29, 30, 31, 32] Y Y (QAll.cons (QOp.yp hT Y Y Y Y Y Y Y) (q_ Y (QAll.cons (QOp.pk hT Y Y Y Y hb10 Y) (qn Y Y Y Y (by decide) Y Y (qn Y Y Y Y (by decide) Y Y (qn Y Y Y Y (by decide) Y Y (qn Y Y Y Y (by decide) Y Y (qn Y Y Y Y (by decide) Y Y (qn Y Y Y Y (by decide) Y Y (q_ Y qz)))))))))) ?_)
 exact pk (HK4 _ () _ H) [53, 1, 3] [1] Y
 apply Stg.next (nm 43 [_, _, _, _, _, _, _, _, _, _, _]) Y Y
 refine Stg.known (t := 46) Y hb10 (Stg.fin [23, 24, 25, 26, 27, 28, 29, 30, 31, 32] Y Y (QAll.cons (QOp.yp hT Y Y Y Y Y Y Y) (q_ Y (QAll.cons (QOp.pk hT Y Y Y Y hb10 Y) (QAll.cons (QOp.yp hT Y Y Y Y Y Y Y) (QAll.cons (QOp.yp hT Y Y Y Y Y Y Y) (QAll.cons (QOp.yp hT Y Y Y Y Y Y Y) (QAll.cons (QOp.y Y Y Y Y (l_ 0 Y) Y Y) (QAll.cons (QOp.yp hT Y Y Y Y Y Y Y) (QAll.cons (QOp.yp hT Y Y Y Y Y Y Y) (q_ Y qz)))))))))) ?_)
 exact pk (HK4 _ () _ H) [53, 1, 3] [1] Y
 refine xt (tx (tx (bh (tg (sR (p_ 1 Y (ng ?_)))))))
 refine rt ?_
 exact r1 2 Y Y Y H
theorem lift_law12uOdd (l : Sl) : Lf Tryz.prog 18 [Sl.toV l] Value.bool (law12uOdd l) := by
 refine Lf.go Tryz.func18 Tryz.ntmps18 Y Y [0] Y fun w m S H => ?_
 unfold law12uOdd at H
 refine sR (p_ 1 Y (ng (cs (sR (p_ 3 Y (ng (ck ?_)))))))
 refine AtC.loopM (fun (s0 : Int) => [(9, Value.int .i64 s0)]) (fun (s0 : Int) => []) [7, 8] [9, 7, 8] [] [] H Y Y Y (by decide) Y (fun Kp1 s0 h0 H Q1 HK1 => ?_)
 refine sR (p_ 1 Y (ng (cs ?_)))
 refine cb H Y (fun H => ?_) (fun H => ?_)
 refine sk (tg (cs (ck (sR (ix hT H Y Y Y Y Y Y fun _ H => lds hT H Y Y Y Y Y fun _ H => al hT [_, _, _, _] H Y Y Y fun b _ H => ?_)))))
 refine sp hT 0 [(_, [_, _, _, _])] Y Y Y Y Y Y Y Y Y Y Y fun _ => ng (cs ?_)
 refine AtC.joinSeq (β := Unit) (fun (t0 : Bool) (bb : Unit) => [(27, Value.bool t0)]) (fun (t0 : Bool) (bb : Unit) => []) [4, 7, 8, 9] [0] H.self Y Y (fun t0 bb h2 H => ?_) (fun J4 H HK4 => ?_)
 refine cb H Y (fun H => ?_) (fun H => ?_)
 refine sR (p_ 1 Y (ng (rt (tr (br (tr (tr ?_)))))))
 refine br (tr ?_)
 exact r1 2 Y Y Y H
 refine sk (tg (sR (p_ 1 Y (lq Y (l_ 0 Y) (p_ 2 Y (ng (ck ?_)))))))
 refine AtC.loopM (fun (s0u1 : Int) => [(31, Value.int .i64 s0u1)]) (fun (s0u1 : Int) => []) [7, 8, 9, 29, 30] [31, 7, 8, 9, 29, 30] [] [] H Y Y Y (by decide) Y (fun Kp5 s0u1 h6 H Q5 HK5 => ?_)
 refine sR (p_ 1 Y (ng (cs ?_)))
 refine cb H Y (fun H => ?_) (fun H => ?_)
 refine sk (tg (cs (ck (sR (ix hT H Y Y Y Y Y Y fun _ H => lds hT H Y Y Y Y Y fun _ H => al hT [_, _, _, _] H Y Y Y fun b_1 _ H => ?_)))))
 refine sp hT 0 [(_, [_, _, _, _])] Y Y Y Y Y Y Y Y Y Y Y fun _ => ng (sR (p_ 1 Y (lq Y (s_ 0 [_, _, _] Y) ?_)))
 refine AtLX.bs (hT := hT) (cs := [_, _, _]) H.self Y Y Y Y Y Y Y Y Y (fun a_3 h8 H => ?_)
 refine lc (lift_law02uGreat _) H Tryz.call10 Y fun v_6 h9 H => ng ?_
 refine cb H Y (fun H => ?_) (fun H => ?_)
 refine sR (p_ 1 Y (ng (rt (br (tr (tr (br ?_)))))))
 refine br (tr (tr (br (tr ?_))))
 exact r1 2 Y Y Y H
 refine sk (bn (tg (rg (p_ 2 Y (nl ?_)))))
 exact pk (HK5 _ _ H) [31, 7, 8, 9, 29, 30] [] Y
 refine xt (tx (tx (bh (bn (tg (rg (p_ 2 Y ?_)))))))
 refine nl ?_
 exact pk (HK1 _ _ H) [9, 7, 8] [] Y
 refine rg (p_ 1 Y (lq Y (l_ 0 Y) (p_ 3 Y ?_)))
 refine AtL.splitB (t := 17) H Y (fun H => ?_) (fun H => ?_)
 refine p_ 10 Y (nl ?_)
 exact pk (HK4 _ () _ H) [27, 4, 7, 8, 9] [0] Y
 refine p_ 3 Y (lq Y (s_ 0 [_, _, _] Y) (p_ 1 Y ?_))
 refine AtLX.bs (hT := hT) (cs := [_, _, _]) H Y Y Y Y Y Y Y Y Y (fun a_1 h3 H => ?_)
 refine p_ 1 Y (lc (lift_law02uGreat _) H Tryz.call10 Y fun v_2 h4 H => p_ 2 Y ?_)
 refine AtL.splitB (t := 23) H Y (fun H => ?_) (fun H => ?_)
 refine p_ 4 Y (nl ?_)
 exact pk (HK4 _ () _ H) [27, 4, 7, 8, 9] [0] Y
 refine p_ 1 Y (lq Y (s_ 0 [_, _, _, _] Y) (p_ 1 Y (lc (lift_ref12uRight _) H Tryz.call35 Y fun v_3 h5 H => p_ 3 Y (nl ?_))))
 exact pk (HK4 _ () _ H) [27, 4, 7, 8, 9] [0] Y
 refine xt (tx (tx (bh (tg (sR (p_ 1 Y (ng ?_)))))))
 refine rt ?_
 exact r1 2 Y Y Y H
theorem lift_law14uGreat (rows : Sl) (n : Int) : Lf Tryz.prog 24 [Sl.toV rows, Value.int .i64 n] Value.bool (law14uGreat rows n) := by
 refine Lf.go Tryz.func24 Tryz.ntmps24 Y Y [0, 1] Y fun w m S H => ?_
 unfold law14uGreat at H
 refine sR (p_ 1 Y (ng ?_))
 refine AtC.joinSeq (β := Unit) (fun (t0 : Bool) (bb : Unit) => [(4, Value.bool t0)]) (fun (t0 : Bool) (bb : Unit) => []) [] [] H Y Y (fun t0 bb h0 H => ?_) (fun J1 H HK1 => ?_)
 refine rt ?_
 exact r1 4 Y Y Y H
 refine rg (p_ 4 Y ?_)
 refine AtL.splitB (t := 8) H Y (fun H => ?_) (fun H => ?_)
 refine p_ 8 Y (nl ?_)
 exact pk (HK1 _ () _ H) [4] [] Y
 refine p_ 6 Y ?_
 refine AtL.splitB (t := 12) H Y (fun H => ?_) (fun H => ?_)
 refine p_ 4 Y (nl ?_)
 exact pk (HK1 _ () _ H) [4] [] Y
 refine p_ 3 Y (lc (lift_law12uOdd _) H Tryz.call18 Y fun v h1 H => p_ 2 Y (nl ?_))
 exact pk (HK1 _ () _ H) [4] [] Y
end Go.Proofs.YtjppcjbmepcneaaGreatDoor

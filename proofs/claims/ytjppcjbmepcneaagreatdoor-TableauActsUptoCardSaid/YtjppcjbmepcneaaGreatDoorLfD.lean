/-
  Laws that the proof of this claim's statement leans on, each proved under the conditions that it states.
-/
import Derived.Test.YtjppcjbmepcneaaGreatDoorLfE
set_option linter.unusedVariables false
set_option linter.unusedSimpArgs false
namespace Go.Proofs.YtjppcjbmepcneaaGreatDoor
open Go Go.Lift Go.Sh
set_option maxRecDepth 100000
set_option maxHeartbeats 40000000
attribute [local irreducible] Calls AtL AtC AtE AtD Eff Quiet1 Stg qAt QAll eAt EAll nextK Code.wp
def A0u0 : List (List Nat) := (rl [([], 7), ([6], 5), ([6, 11], 6), ([6, 11, 17], 10), ([6, 11, 17, 24], 1), ([6, 11, 17, 24, 28], 2)])
def G0u0 : List (List Nat) := [[], [], [0, 1], [0, 1, 2], [0, 1, 2, 3], [0, 1, 2, 3], (ra 6), (ra 7), (ra 8), (ra 9), (ra 10), (ra 11), (ra 12), (ra 13), (ra 14), (ra 15), (ra 15), (ra 17), (ra 18), (ra 19), (ra 20), (ra 21), (ra 21), (ra 21 ++ [22]), (ra 24), (ra 21), (ra 21), (ra 21 ++ [26]), (ra 28), (ra 29), (ra 30)]
theorem lift_slices_EqualFunc_api_Mono_api_Mono_api_Mono_api_Mono__linear_Same_c1 (s1 : Sl) (s2 : Sl) : Lf Tryz.prog 129 [Sl.toV s1, Sl.toV s2, Value.func (.func 128) #[] #[]] Value.bool (slices_EqualFunc_api_Mono_api_Mono_api_Mono_api_Mono__linear_Same_c1 s1 s2) := by
 refine Lf.go Tryz.func129 Tryz.ntmps129 Y Y [0, 1, 2] Y fun w m S H => ?_
 unfold slices_EqualFunc_api_Mono_api_Mono_api_Mono_api_Mono__linear_Same_c1 at H
 refine sR (p_ 1 Y (ng (cs (sR (p_ 5 Y (ng ?_))))))
 refine cb H Y (fun H => ?_) (fun H => ?_)
 refine sR (p_ 1 Y (ng (rt (tr ?_))))
 exact r1 6 Y Y Y H
 refine sk (tg (cs (sR (p_ 3 Y (ng (ck ?_))))))
 refine AtC.loopM (fun (s0 : Int) => [(17, Value.int .i64 s0)]) (fun (s0 : Int) => []) [1, 2, 15, 16] [17, 1, 2, 15, 16] [] [] H Y Y Y (by decide) Y (fun Kp1 s0 h0 H Q1 HK1 => ?_)
 refine sR (p_ 1 Y (ng (cs ?_)))
 refine cb H Y (fun H => ?_) (fun H => ?_)
 refine sk (tg (cs (ck (sR (p_ 1 Y (ix hT H Y Y Y Y Y Y fun _ H => lds hT H Y Y Y Y Y fun _ H => ?_))))))
 refine al hT [_, _, _, _] H Y Y Y fun b _ H => p_ 1 Y (sp hT 0 [(_, [_, _, _, _])] Y Y Y Y Y Y Y Y Y Y Y fun _ => ng (sR (p_ 2 Y (ix hT H.self Y Y Y Y Y Y fun _ H => lds hT H Y Y Y Y Y fun _ H => ?_))))
 refine al hT [_, _, _, _] H Y Y Y fun b_1 _ H => sp hT 0 [(_, [_, _, _, _]), (_, [_, _, _, _])] Y Y Y Y Y Y Y Y Y Y Y fun _ => ng (sR (p_ 1 Y (lq Y (s_ 1 [_, _, _, _] Y) (lq Y (s_ 0 [_, _, _, _] Y) (lcF (lift_linear_Same_c1 _ _) H.self [] [] Tryz.call128 Y Y Y Y Y fun v_2 h3 H => ?_)))))
 refine p_ 1 Y (ng ?_)
 refine cb H Y (fun H => ?_) (fun H => ?_)
 refine sR (p_ 1 Y (ng (rt (br (tr (tr (br ?_)))))))
 refine tr ?_
 exact r1 6 Y Y Y H
 refine sk (bn (tg (rg (p_ 2 Y (nl ?_)))))
 exact pk (HK1 _ _ H) [17, 1, 2, 15, 16] [] Y
 refine xt (tx (tx (bh (tg (sR (p_ 1 Y (ng ?_)))))))
 refine rt ?_
 exact r1 6 Y Y Y H
theorem lift_linear_Same (p : Bool × Sl × Sl × Sl) (q : Bool × Sl × Sl × Sl) : Lf Tryz.prog 73 [Value.agg (C_bool_sl_sl_sl p).toArray, Value.agg (C_bool_sl_sl_sl q).toArray] Value.bool (linear_Same p q) := by
 refine Lf.go Tryz.func73 Tryz.ntmps73 Y Y [0, 1] Y fun w m S H => ?_
 unfold linear_Same at H
 refine sR (bx [_, _, _, _] H Y Y Y Y fun b _ H => bx [_, _, _, _] H Y Y Y Y fun b_1 _ H => p_ 1 Y (ng (sR (p_ 1 Y (ng ?_)))))
 refine AtC.joinSeq (β := Unit) (fun (t0 : Bool) (bb : Unit) => [(4, Value.bool t0)]) (fun (t0 : Bool) (bb : Unit) => []) [] [] H.self Y Y (fun t0 bb h1 H => ?_) (fun J1 H HK1 => ?_)
 refine rt ?_
 exact r1 4 Y Y Y H
 refine rg (p_ 1 Y (lq Y (s_ 1 [_, _, _] Y) (p_ 1 Y (lq Y (s_ 0 [_, _, _] Y) (lc (lift_ratio_Cmp _ _) H Tryz.call112 Y fun v h2 H => p_ 2 Y ?_)))))
 refine AtL.splitB (t := 12) H Y (fun H => ?_) (fun H => ?_)
 refine p_ 3 Y (lq Y (l_ 1 Y) (p_ 3 Y (lq Y (l_ 0 Y) (p_ 3 Y (lc (lift_slices_EqualFunc_api_Mono_api_Mono_api_Mono_api_Mono__linear_Same_c1 _ _) H Tryz.call129 Y fun v_1 h3 H => p_ 2 Y (nl ?_))))))
 exact pk (HK1 _ () _ H) [4] [] Y
 refine p_ 8 Y (nl ?_)
 exact pk (HK1 _ () _ H) [4] [] Y
theorem lift_slices_EqualFunc_api_Poly_api_Poly_api_Poly_api_Poly__linear_Same (s1 : Sl) (s2 : Sl) : Lf Tryz.prog 72 [Sl.toV s1, Sl.toV s2, Value.func (.func 73) #[] #[]] Value.bool (slices_EqualFunc_api_Poly_api_Poly_api_Poly_api_Poly__linear_Same s1 s2) := by
 refine Lf.go Tryz.func72 Tryz.ntmps72 Y Y [0, 1, 2] Y fun w m S H => ?_
 unfold slices_EqualFunc_api_Poly_api_Poly_api_Poly_api_Poly__linear_Same at H
 refine sR (p_ 1 Y (ng (cs (sR (p_ 5 Y (ng ?_))))))
 refine cb H Y (fun H => ?_) (fun H => ?_)
 refine sR (p_ 1 Y (ng (rt (tr ?_))))
 exact r1 6 Y Y Y H
 refine sk (tg (cs (sR (p_ 3 Y (ng (ck ?_))))))
 refine AtC.loopM (fun (s0 : Int) => [(17, Value.int .i64 s0)]) (fun (s0 : Int) => []) [1, 2, 15, 16] [17, 1, 2, 15, 16] [] [] H Y Y Y (by decide) Y (fun Kp1 s0 h0 H Q1 HK1 => ?_)
 refine sR (p_ 1 Y (ng (cs ?_)))
 refine cb H Y (fun H => ?_) (fun H => ?_)
 refine sk (tg (cs (ck (sR (p_ 1 Y (ix hT H Y Y Y Y Y Y fun _ H => lds hT H Y Y Y Y Y fun _ H => ?_))))))
 refine al hT [_, _, _, _] H Y Y Y fun b _ H => p_ 1 Y (sp hT 0 [(_, [_, _, _, _])] Y Y Y Y Y Y Y Y Y Y Y fun _ => ng (sR (p_ 2 Y (ix hT H.self Y Y Y Y Y Y fun _ H => lds hT H Y Y Y Y Y fun _ H => ?_))))
 refine al hT [_, _, _, _] H Y Y Y fun b_1 _ H => sp hT 0 [(_, [_, _, _, _]), (_, [_, _, _, _])] Y Y Y Y Y Y Y Y Y Y Y fun _ => ng (sR (p_ 1 Y (lq Y (s_ 1 [_, _, _, _] Y) (lq Y (s_ 0 [_, _, _, _] Y) (lcF (lift_linear_Same _ _) H.self [] [] Tryz.call73 Y Y Y Y Y fun v_2 h3 H => ?_)))))
 refine p_ 1 Y (ng ?_)
 refine cb H Y (fun H => ?_) (fun H => ?_)
 refine sR (p_ 1 Y (ng (rt (br (tr (tr (br ?_)))))))
 refine tr ?_
 exact r1 6 Y Y Y H
 refine sk (bn (tg (rg (p_ 2 Y (nl ?_)))))
 exact pk (HK1 _ _ H) [17, 1, 2, 15, 16] [] Y
 refine xt (tx (tx (bh (tg (sR (p_ 1 Y (ng ?_)))))))
 refine rt ?_
 exact r1 6 Y Y Y H
theorem lift_slices_EqualFunc_api_Delta_api_Delta_api_Delta_api_Delta__tableau_same (s1 : Sl) (s2 : Sl) : Lf Tryz.prog 74 [Sl.toV s1, Sl.toV s2, Value.func (.func 65) #[] #[]] Value.bool (slices_EqualFunc_api_Delta_api_Delta_api_Delta_api_Delta__tableau_same s1 s2) := by
 refine Lf.go Tryz.func74 Tryz.ntmps74 Y Y [0, 1, 2] Y fun w m S H => ?_
 unfold slices_EqualFunc_api_Delta_api_Delta_api_Delta_api_Delta__tableau_same at H
 refine sR (p_ 1 Y (ng (cs (sR (p_ 5 Y (ng ?_))))))
 refine cb H Y (fun H => ?_) (fun H => ?_)
 refine sR (p_ 1 Y (ng (rt (tr ?_))))
 exact r1 6 Y Y Y H
 refine sk (tg (cs (sR (p_ 3 Y (ng (ck ?_))))))
 refine AtC.loopM (fun (s0 : Int) => [(17, Value.int .i64 s0)]) (fun (s0 : Int) => []) [1, 2, 15, 16] [17, 1, 2, 15, 16] [] [] H Y Y Y (by decide) Y (fun Kp1 s0 h0 H Q1 HK1 => ?_)
 refine sR (p_ 1 Y (ng (cs ?_)))
 refine cb H Y (fun H => ?_) (fun H => ?_)
 refine sk (tg (cs (ck (sR (p_ 1 Y (ix hT H Y Y Y Y Y Y fun _ H => lds hT H Y Y Y Y Y fun _ H => ?_))))))
 refine al hT [_, _, _, _, _, _] H Y Y Y fun b _ H => p_ 1 Y (sp hT 0 [(_, [_, _, _, _, _, _])] Y Y Y Y Y Y Y Y Y Y Y fun _ => ng (sR (p_ 2 Y (ix hT H.self Y Y Y Y Y Y fun _ H => lds hT H Y Y Y Y Y fun _ H => ?_))))
 refine al hT [_, _, _, _, _, _] H Y Y Y fun b_1 _ H => sp hT 0 [(_, [_, _, _, _, _, _]), (_, [_, _, _, _, _, _])] Y Y Y Y Y Y Y Y Y Y Y fun _ => ng (sR (p_ 1 Y (lq Y (s_ 1 [_, _, _, _, _, _] Y) (lq Y (s_ 0 [_, _, _, _, _, _] Y) (lcF (lift_tableau_same _ _) H.self [] [] Tryz.call65 Y Y Y Y Y fun v_2 h3 H => ?_)))))
 refine p_ 1 Y (ng ?_)
 refine cb H Y (fun H => ?_) (fun H => ?_)
 refine sR (p_ 1 Y (ng (rt (br (tr (tr (br ?_)))))))
 refine tr ?_
 exact r1 6 Y Y Y H
 refine sk (bn (tg (rg (p_ 2 Y (nl ?_)))))
 exact pk (HK1 _ _ H) [17, 1, 2, 15, 16] [] Y
 refine xt (tx (tx (bh (tg (sR (p_ 1 Y (ng ?_)))))))
 refine rt ?_
 exact r1 6 Y Y Y H
theorem lift_tableau_Same_c1 (x0 : Int × Bool × Sl × Sl × Bool × Sl × Sl) (y : Int × Bool × Sl × Sl × Bool × Sl × Sl) : Lf Tryz.prog 70 [Value.agg (C_i64ubool_sl_sl_bool_sl_sl x0).toArray, Value.agg (C_i64ubool_sl_sl_bool_sl_sl y).toArray] Value.bool (tableau_Same_c1 x0 y) := by
 refine Lf.go Tryz.func70 Tryz.ntmps70 Y Y [0, 1] Y fun w m S H => ?_
 unfold tableau_Same_c1 at H
 refine sR (bx [_, _, _, _, _, _, _] H Y Y Y Y fun b _ H => bx [_, _, _, _, _, _, _] H Y Y Y Y fun b_1 _ H => p_ 1 Y (ng ?_))
 refine AtC.joinSeq (β := Unit) (fun (t0 : Bool) (bb : Unit) => [(4, Value.bool t0)]) (fun (t0 : Bool) (bb : Unit) => []) [] [] H.self Y Y (fun t0 bb h1 H => ?_) (fun J1 H HK1 => ?_)
 refine rt ?_
 exact r1 4 Y Y Y H
 refine rg (p_ 1 Y (lq Y (l_ 1 Y) (p_ 1 Y (lq Y (l_ 0 Y) (p_ 2 Y ?_)))))
 refine AtL.splitB (t := 10) H Y (fun H => ?_) (fun H => ?_)
 refine p_ 3 Y (lq Y (s_ 1 [_, _, _, _, _, _] Y) (p_ 3 Y (lq Y (s_ 0 [_, _, _, _, _, _] Y) (p_ 1 Y (lc (lift_tableau_same _ _) H Tryz.call65 Y fun v h2 H => p_ 2 Y (nl ?_))))))
 exact pk (HK1 _ () _ H) [4] [] Y
 refine p_ 7 Y (nl ?_)
 exact pk (HK1 _ () _ H) [4] [] Y
theorem lift_slices_EqualFunc_api_Edge_api_Edge_api_Edge_api_Edge__tableau_Same_c1 (s1 : Sl) (s2 : Sl) : Lf Tryz.prog 75 [Sl.toV s1, Sl.toV s2, Value.func (.func 70) #[] #[]] Value.bool (slices_EqualFunc_api_Edge_api_Edge_api_Edge_api_Edge__tableau_Same_c1 s1 s2) := by
 refine Lf.go Tryz.func75 Tryz.ntmps75 Y Y [0, 1, 2] Y fun w m S H => ?_
 unfold slices_EqualFunc_api_Edge_api_Edge_api_Edge_api_Edge__tableau_Same_c1 at H
 refine sR (p_ 1 Y (ng (cs (sR (p_ 5 Y (ng ?_))))))
 refine cb H Y (fun H => ?_) (fun H => ?_)
 refine sR (p_ 1 Y (ng (rt (tr ?_))))
 exact r1 6 Y Y Y H
 refine sk (tg (cs (sR (p_ 3 Y (ng (ck ?_))))))
 refine AtC.loopM (fun (s0 : Int) => [(17, Value.int .i64 s0)]) (fun (s0 : Int) => []) [1, 2, 15, 16] [17, 1, 2, 15, 16] [] [] H Y Y Y (by decide) Y (fun Kp1 s0 h0 H Q1 HK1 => ?_)
 refine sR (p_ 1 Y (ng (cs ?_)))
 refine cb H Y (fun H => ?_) (fun H => ?_)
 refine sk (tg (cs (ck (sR (p_ 1 Y (ix hT H Y Y Y Y Y Y fun _ H => lds hT H Y Y Y Y Y fun _ H => ?_))))))
 refine al hT [_, _, _, _, _, _, _] H Y Y Y fun b _ H => p_ 1 Y (sp hT 0 [(_, [_, _, _, _, _, _, _])] Y Y Y Y Y Y Y Y Y Y Y fun _ => ng (sR (p_ 2 Y (ix hT H.self Y Y Y Y Y Y fun _ H => lds hT H Y Y Y Y Y fun _ H => ?_))))
 refine al hT [_, _, _, _, _, _, _] H Y Y Y fun b_1 _ H => sp hT 0 [(_, [_, _, _, _, _, _, _]), (_, [_, _, _, _, _, _, _])] Y Y Y Y Y Y Y Y Y Y Y fun _ => ng (sR (p_ 1 Y (lq Y (s_ 1 [_, _, _, _, _, _, _] Y) (lq Y (s_ 0 [_, _, _, _, _, _, _] Y) (lcF (lift_tableau_Same_c1 _ _) H.self [] [] Tryz.call70 Y Y Y Y Y fun v_2 h3 H => ?_)))))
 refine p_ 1 Y (ng ?_)
 refine cb H Y (fun H => ?_) (fun H => ?_)
 refine sR (p_ 1 Y (ng (rt (br (tr (tr (br ?_)))))))
 refine tr ?_
 exact r1 6 Y Y Y H
 refine sk (bn (tg (rg (p_ 2 Y (nl ?_)))))
 exact pk (HK1 _ _ H) [17, 1, 2, 15, 16] [] Y
 refine xt (tx (tx (bh (tg (sR (p_ 1 Y (ng ?_)))))))
 refine rt ?_
 exact r1 6 Y Y Y H
theorem lift_tableau_Same (s0 : Sl × Sl × Sl × Sl × Sl) (t0 : Sl × Sl × Sl × Sl × Sl) : Lf Tryz.prog 22 [Value.agg (C_sl_sl_sl_sl_sl s0).toArray, Value.agg (C_sl_sl_sl_sl_sl t0).toArray] Value.bool (tableau_Same s0 t0) := by
 refine Lf.go Tryz.func22 Tryz.ntmps22 Y Y [0, 1] Y fun w m S H => ?_
 unfold tableau_Same at H
 refine sR (bx [_, _, _, _, _] H Y Y Y Y fun b _ H => bx [_, _, _, _, _] H Y Y Y Y fun b_1 _ H => p_ 1 Y (ng (sR (p_ 1 Y (ng ?_)))))
 refine AtC.joinSeq (β := Unit) (fun (t0u1 : Bool) (bb : Unit) => [(4, Value.bool t0u1)]) (fun (t0u1 : Bool) (bb : Unit) => []) [] [] H.self Y Y (fun t0u1 bb h1 H => ?_) (fun J1 H HK1 => ?_)
 refine rt ?_
 exact r1 4 Y Y Y H
 refine rg (p_ 1 Y (lq Y (l_ 1 Y) (p_ 1 Y (lq Y (l_ 0 Y) (lc (lift_slices_Equal_int_int _ _) H Tryz.call71 Y fun v h2 H => p_ 1 Y ?_)))))
 refine AtL.splitB (t := 11) H Y (fun H => ?_) (fun H => ?_)
 refine p_ 3 Y (lq Y (l_ 1 Y) (p_ 3 Y (lq Y (l_ 0 Y) (p_ 1 Y (lc (lift_slices_EqualFunc_api_Poly_api_Poly_api_Poly_api_Poly__linear_Same _ _) H Tryz.call72 Y fun v_1 h3 H => p_ 2 Y ?_)))))
 refine AtL.splitB (t := 18) H Y (fun H => ?_) (fun H => ?_)
 refine p_ 3 Y (lq Y (l_ 1 Y) (p_ 3 Y (lq Y (l_ 0 Y) (p_ 1 Y (lc (lift_slices_EqualFunc_api_Delta_api_Delta_api_Delta_api_Delta__tableau_same _ _) H Tryz.call74 Y fun v_2 h4 H => p_ 2 Y ?_)))))
 refine AtL.splitB (t := 25) H Y (fun H => ?_) (fun H => ?_)
 refine p_ 3 Y (lq Y (l_ 1 Y) (p_ 3 Y (lq Y (l_ 0 Y) (p_ 3 Y (lc (lift_slices_EqualFunc_api_Edge_api_Edge_api_Edge_api_Edge__tableau_Same_c1 _ _) H Tryz.call75 Y fun v_3 h5 H => p_ 2 Y ?_)))))
 refine AtL.splitB (t := 33) H Y (fun H => ?_) (fun H => ?_)
 refine p_ 3 Y (lq Y (l_ 1 Y) (p_ 3 Y (lq Y (l_ 0 Y) (p_ 3 Y (lc (lift_slices_EqualFunc_api_Edge_api_Edge_api_Edge_api_Edge__tableau_Same_c1 _ _) H Tryz.call75 Y fun v_4 h6 H => p_ 2 Y (nl ?_))))))
 exact pk (HK1 _ () _ H) [4] [] Y
 refine p_ 8 Y (nl ?_)
 exact pk (HK1 _ () _ H) [4] [] Y
 refine p_ 16 Y (nl ?_)
 exact pk (HK1 _ () _ H) [4] [] Y
 refine p_ 23 Y (nl ?_)
 exact pk (HK1 _ () _ H) [4] [] Y
 refine p_ 30 Y (nl ?_)
 exact pk (HK1 _ () _ H) [4] [] Y
theorem lift_law14uTableauActs (reals : Int) (rows : Sl) (acts : Sl) : Lf Tryz.prog 5 [Value.int .i64 reals, Sl.toV rows, Sl.toV acts] Value.bool (law14uTableauActs reals rows acts) := by
 refine Lf.go Tryz.func5 Tryz.ntmps5 Y Y [0, 1, 2] Y fun w m S H => ?_
 unfold law14uTableauActs at H
 refine sR (p_ 1 Y (ng (cs (sR (le Y (cl (fun h => law14uspeaks h _) H Y Tryz.call17 Y (fun w m hr hw => lift_law14uspeaks  w m hr _ hw)) ?_)))))
 rintro _ _ ⟨v, h0, rfl, rfl, H⟩
 refine p_ 1 Y (ng ?_)
 refine cb H Y (fun H => ?_) (fun H => ?_)
 refine sR (p_ 1 Y (ng (rt (tr ?_))))
 exact r1 6 Y Y Y H
 refine sk (tg (cs ?_))
 refine AtC.joinSeq (β := Unit) (fun (t0 : Bool) (bb : Unit) => [(30, Value.bool t0)]) (fun (t0 : Bool) (bb : Unit) => []) [0, 1, 2] [] H Y Y (fun t0 bb h1 H => ?_) (fun J1 H HK1 => ?_)
 refine cb H Y (fun H => ?_) (fun H => ?_)
 refine sR (p_ 1 Y (ng (rt (tr ?_))))
 exact r1 6 Y Y Y H
 refine sk (tg (cs (sR (p_ 3 Y (ng (ck ?_))))))
 refine AtC.loopM (fun (s0 : Int) => [(33, Value.int .i64 s0)]) (fun (s0 : Int) => []) [0, 1, 2, 31, 32] [33, 0, 1, 2, 31, 32] [] [] H Y Y Y (by decide) Y (fun Kp2 s0 h3 H Q2 HK2 => ?_)
 refine sR (p_ 1 Y (ng (cs ?_)))
 refine cb H Y (fun H => ?_) (fun H => ?_)
 refine sk (tg (cs (ck (sR (ix hT H Y Y Y Y Y Y fun _ H => lds hT H Y Y Y Y Y fun _ H => al hT [_, _, _, _] H Y Y Y fun b _ H => ?_)))))
 refine sp hT 0 [(_, [_, _, _, _])] Y Y Y Y Y Y Y Y Y Y Y fun _ => ng ?_
 refine AtC.joinSeq (β := Unit) (fun (t0u1 : Bool) (bb_1 : Unit) => [(61, Value.bool t0u1)]) (fun (t0u1 : Bool) (bb_1 : Unit) => []) [0, 1, 2, 31, 32, 33] [] H.self Y Y (fun t0u1 bb_1 h5 H => ?_) (fun J5 H HK5 => ?_)
 refine cb H Y (fun H => ?_) (fun H => ?_)
 refine sR (p_ 1 Y (ng (rt (br (tr (tr (br ?_)))))))
 refine tr ?_
 exact r1 6 Y Y Y H
 refine sk (bn (tg (rg (p_ 2 Y (nl ?_)))))
 exact pk (HK2 _ _ H) [33, 0, 1, 2, 31, 32] [] Y
 refine rg (p_ 1 Y (lq Y (l_ 0 Y) (p_ 3 Y ?_)))
 refine AtL.splitB (t := 41) H Y (fun H => ?_) (fun H => ?_)
 refine p_ 20 Y (nl ?_)
 exact pk (HK5 _ () _ H) [61, 0, 1, 2, 31, 32, 33] [] Y
 refine p_ 7 Y (lq Y (l_ 0 Y) (p_ 6 Y ?_))
 refine AtL.splitB (t := 49) H Y (fun H => ?_) (fun H => ?_)
 refine p_ 12 Y (nl ?_)
 exact pk (HK5 _ () _ H) [61, 0, 1, 2, 31, 32, 33] [] Y
 refine p_ 3 Y (lq Y (l_ 0 Y) (p_ 3 Y (lq Y (l_ 0 Y) (p_ 5 Y (ix hT H Y Y Y Y Y Y fun _ H => p_ 3 Y (ld hT H Y Y Y Y fun _ H => ?_))))))
 refine p_ 5 Y (nl ?_)
 exact pk (HK5 _ () _ H) [61, 0, 1, 2, 31, 32, 33] [] Y
 refine xt (tx (tx (bh (tg (sR (p_ 2 Y (lq Y (qb (cs := [_, _, _, _, _, _, _]) hT Y Y Y Y Y Y) ?_)))))))
 refine al hT [_, _, _, _, _, _, _] H Y Y Y fun b_1 _ H => sp hT 0 [(_, [_, _, _, _, _, _, _])] Y Y Y Y Y Y Y Y Y Y Y fun _ => ng (sR (lc (lift_nat_New _) H.self Tryz.call25 Y fun v_4 h7 H => p_ 1 Y (ng ?_)))
 refine AtC.joinSeq (β := Nat) (fun (t0u2 : Addr × Sl × Sl × Sl × Sl × Sl) (bb_2 : Nat) => [(11, Value.pointer (some t0u2.1)), (12, Value.pointer (some ⟨bb_2, 0, none⟩))]) (fun (t0u2 : Addr × Sl × Sl × Sl × Sl × Sl) (bb_2 : Nat) => [(bb_2, [Sl.toV t0u2.2.1, Sl.toV t0u2.2.2.1, Sl.toV t0u2.2.2.2.1, Sl.toV t0u2.2.2.2.2.1, Sl.toV t0u2.2.2.2.2.2])]) [2, 10] [] H Y Y (fun t0u2 bb_2 h8 H => ?_) (fun J8 H HK8 => ?_)
 refine cs (sR (p_ 3 Y (ng (ck ?_))))
 refine AtC.loopM (fun (s0u1 : Int × Sl × Sl × Sl × Sl × Sl) => [(73, Value.int .i64 s0u1.1)]) (fun (s0u1 : Int × Sl × Sl × Sl × Sl × Sl) => [(bb_2, [Sl.toV s0u1.2.1, Sl.toV s0u1.2.2.1, Sl.toV s0u1.2.2.2.1, Sl.toV s0u1.2.2.2.2.1, Sl.toV s0u1.2.2.2.2.2])]) [10, 11, 12, 71, 72] [73, 10, 11, 12, 71, 72] [] [0] H Y Y Y (by decide) Y (fun Kp18 s0u1 h72 H Q18 HK18 => ?_)
 refine sR (p_ 1 Y (ng (cs ?_)))
 refine cb H Y (fun H => ?_) (fun H => ?_)
 refine sk (tg (cs (ck (sR (ix hT H Y Y Y Y Y Y fun _ H => lds hT H Y Y Y Y Y fun _ H => al hT [_, _, _, _, _, _, _, _, _] H Y Y Y fun b_11 _ H => ?_)))))
 refine sp hT 0 [(_, [_, _, _, _, _, _, _, _, _]), (_, [_, _, _, _, _])] Y Y Y Y Y Y Y Y Y Y Y fun _ => ng (cs (sR (p_ 1 Y (lq Y (s_ 0 [_, _, _, _, _, _] Y) ?_))))
 refine AtLX.bs (hT := hT) (cs := [_, _, _, _, _, _]) H.self Y Y Y Y Y Y Y Y Y (fun a_3 h74 H => ?_)
 refine lc (lift_law03uOdd _) H Tryz.call19 Y fun v_23 h75 H => ng ?_
 refine cb H Y (fun H => ?_) (fun H => ?_)
 refine sR (p_ 1 Y (ng (rt (tr (br (tr (tr ?_)))))))
 refine br (tr ?_)
 exact r1 6 Y Y Y H
 refine sk (tg (sR (p_ 2 Y (ng ?_))))
 refine AtC.joinSeq (β := Unit) (fun (t0u12 : Int) (bb_3 : Unit) => [(15, Value.int .i64 t0u12)]) (fun (t0u12 : Int) (bb_3 : Unit) => []) [10, 11, 12, 14, 71, 72, 73] [0, 1] H Y Y (fun t0u12 bb_3 h76 H => ?_) (fun J21 H HK21 => ?_)
 refine cs (sR (p_ 1 Y (lc (lift_nat_Bench_Over _) H Tryz.call30 Y fun v_26 h79 H => ng ?_)))
 refine cb H Y (fun H => ?_) (fun H => ?_)
 refine sR (p_ 3 Y (ng (rt (tr (br (tr (tr ?_)))))))
 refine br (tr ?_)
 exact r1 6 Y Y Y H
 refine sk (tg ?_)
 refine AtC.joinSeq (β := Unit) (fun (t0u13 : Int × Sl × Sl × Sl × Sl × Sl) (bb_4 : Unit) => [(16, Value.int .i64 t0u13.1)]) (fun (t0u13 : Int × Sl × Sl × Sl × Sl × Sl) (bb_4 : Unit) => [(bb_2, [Sl.toV t0u13.2.1, Sl.toV t0u13.2.2.1, Sl.toV t0u13.2.2.2.1, Sl.toV t0u13.2.2.2.2.1, Sl.toV t0u13.2.2.2.2.2])]) [10, 11, 12, 14, 15, 71, 72, 73] [0] H Y Y (fun t0u13 bb_4 h80 H => ?_) (fun J22 H HK22 => ?_)
 refine AtC.joinSeq (β := Unit) (fun (t0u14 : Bool) (bb_5 : Unit) => [(149, Value.bool t0u14)]) (fun (t0u14 : Bool) (bb_5 : Unit) => []) [10, 11, 12, 71, 72, 73] [0] H Y Y (fun t0u14 bb_5 h83 H => ?_) (fun J23 H HK23 => ?_)
 refine cb H Y (fun H => ?_) (fun H => ?_)
 refine sR (p_ 1 Y (ng (rt (br (tr (tr (br ?_)))))))
 refine tr ?_
 exact r1 6 Y Y Y H
 refine sk (bn (tg (rg (p_ 2 Y (nl ?_)))))
 exact pk (HK18 _ _ H) [73, 10, 11, 12, 71, 72] [0] Y
 rcases iteB.cases H with ⟨hb23, H⟩ | ⟨hb23, H⟩
 apply AtC.stages [6, 11, 17, 24, 28] A0u0 G0u0 hmix (by kernel_rfl) (nm 119 [_, _, _, _, _, _]) Y 5 Y
 refine Stg.known (t := 122) Y hb23 (Stg.go (ra 6) [6] Y Y (q_ Y (q_ Y (q_ Y (QAll.cons (QOp.pk hT Y Y Y Y hb23 Y) (qn Y Y Y Y (by decide) Y Y (qn Y Y Y Y (by decide) Y Y qz)))))) ?_)
 refine EAll.cons ?_ EAll.nil
 refine EOp.no Y Y Y Y (by decide) Y ?_
 apply Stg.next (nm 125 [_, _, _, _, _]) Y Y
 refine Stg.go [7, 8, 9, 10] [11] Y Y (qn Y Y Y Y (by decide) Y Y (q_ Y (q_ Y (qn Y Y Y Y (by decide) Y Y qz)))) ?_
 refine EAll.cons ?_ EAll.nil
 refine EOp.no Y Y Y Y (by decide) Y ?_
 apply Stg.next (nm 130 [_, _, _, _, _, _]) Y Y
 refine Stg.go [12, 13, 14, 15, 16] [17] Y Y (qn Y Y Y Y (by decide) Y Y (q_ Y (q_ Y (qn Y Y Y Y (by decide) Y Y (qn Y Y Y Y (by decide) Y Y qz))))) ?_
 refine EAll.cons ?_ EAll.nil
 refine EOp.no Y Y Y Y (by decide) Y ?_
 apply Stg.next (nm 136 [_, _, _, _, _, _, _] ++ nm 144 [_, _, _]) Y Y
 refine Stg.go [18, 19, 20, 21, 22, 23, 25, 26, 27] [24] Y Y (qn Y Y Y Y (by decide) Y Y (q_ Y (q_ Y (qn Y Y Y Y (by decide) Y Y (qn Y Y Y Y (by decide) Y Y (qn Y Y Y Y (by decide) Y Y (qn Y Y Y Y (by decide) Y Y (qn Y Y Y Y (by decide) Y Y (qn Y Y Y Y (by decide) Y Y qz))))))))) ?_
 refine EAll.cons ?_ EAll.nil
 refine EOp.no Y Y Y Y (by decide) Y ?_
 apply Stg.next [(143, _)] Y Y
 refine Stg.go [25, 26, 27] [28] Y Y (qn Y Y Y Y (by decide) Y Y (qn Y Y Y Y (by decide) Y Y (qn Y Y Y Y (by decide) Y Y qz))) ?_
 refine EAll.cons ?_ EAll.nil
 refine EOp.no Y Y Y Y (by decide) Y ?_
 apply Stg.next (nm 147 [_, _, _]) Y Y
 refine Stg.fin [29, 30] Y Y (qn Y Y Y Y (by decide) Y Y (q_ Y qz)) ?_
 exact pk (HK23 _ () _ H) [149, 10, 11, 12, 71, 72, 73] [0] Y
 obtain ⟨v_29, hc24, H⟩ := H
 apply AtC.stages [6, 11, 17, 24, 28] A0u0 G0u0 hmix (by kernel_rfl) (nm 119 [_, _, _, _, _, _]) Y 5 Y
 refine Stg.known (t := 122) Y hb23 (Stg.go (ra 6) [6] Y Y (q_ Y (q_ Y (q_ Y (QAll.cons (QOp.pk hT Y Y Y Y hb23 Y) (QAll.cons (QOp.y Y Y Y Y (qs hT Y Y Y Y hc24) Y Y) (QAll.cons (QOp.y Y Y Y Y (s_ 0 [_, _, _, _, _] Y) Y Y) qz)))))) ?_)
 refine EAll.cons ?_ EAll.nil
 refine EOp.y Y Y Y Y Y (cl (fun h => ref14uSame _ _ h _) H Y Tryz.call23 Y (fun w m hr hw => lift_ref14uSame _ _ w m hr _ hw)) ?_
 rintro _ _ ⟨v_30, h84, rfl, rfl, H⟩
 rcases iteB.cases H with ⟨hb25, H⟩ | ⟨hb25, H⟩
 apply Stg.next (nm 125 [_, _, _, _, _]) Y Y
 refine Stg.known (t := 128) Y hb25 (Stg.go [7, 8, 9, 10] [11] Y Y (QAll.cons (QOp.yp hT Y Y Y Y Y Y Y) (q_ Y (QAll.cons (QOp.pk hT Y Y Y Y hb25 Y) (qn Y Y Y Y (by decide) Y Y qz)))) ?_)
 refine EAll.cons ?_ EAll.nil
 refine EOp.no Y Y Y Y (by decide) Y ?_
 apply Stg.next (nm 130 [_, _, _, _, _, _]) Y Y
 refine Stg.go [12, 13, 14, 15, 16] [17] Y Y (qn Y Y Y Y (by decide) Y Y (q_ Y (q_ Y (qn Y Y Y Y (by decide) Y Y (qn Y Y Y Y (by decide) Y Y qz))))) ?_
 refine EAll.cons ?_ EAll.nil
 refine EOp.no Y Y Y Y (by decide) Y ?_
 apply Stg.next (nm 136 [_, _, _, _, _, _, _] ++ nm 144 [_, _, _]) Y Y
 refine Stg.go [18, 19, 20, 21, 22, 23, 25, 26, 27] [24] Y Y (qn Y Y Y Y (by decide) Y Y (q_ Y (q_ Y (qn Y Y Y Y (by decide) Y Y (qn Y Y Y Y (by decide) Y Y (qn Y Y Y Y (by decide) Y Y (qn Y Y Y Y (by decide) Y Y (qn Y Y Y Y (by decide) Y Y (qn Y Y Y Y (by decide) Y Y qz))))))))) ?_
 refine EAll.cons ?_ EAll.nil
 refine EOp.no Y Y Y Y (by decide) Y ?_
 apply Stg.next [(143, _)] Y Y
 refine Stg.go [25, 26, 27] [28] Y Y (qn Y Y Y Y (by decide) Y Y (qn Y Y Y Y (by decide) Y Y (qn Y Y Y Y (by decide) Y Y qz))) ?_
 refine EAll.cons ?_ EAll.nil
 refine EOp.no Y Y Y Y (by decide) Y ?_
 apply Stg.next (nm 147 [_, _, _]) Y Y
 refine Stg.fin [29, 30] Y Y (qn Y Y Y Y (by decide) Y Y (q_ Y qz)) ?_
 exact pk (HK23 _ () _ H) [149, 10, 11, 12, 71, 72, 73] [0] Y
 obtain ⟨v_31, hc26, H⟩ := H
 apply Stg.next (nm 125 [_, _, _, _, _]) Y Y
 refine Stg.known (t := 128) Y hb25 (Stg.go [7, 8, 9, 10] [11] Y Y (QAll.cons (QOp.yp hT Y Y Y Y Y Y Y) (q_ Y (QAll.cons (QOp.pk hT Y Y Y Y hb25 Y) (QAll.cons (QOp.y Y Y Y Y (qs hT Y Y Y Y hc26) Y Y) qz)))) ?_)
 refine EAll.cons ?_ EAll.nil
 refine EOp.y Y Y Y Y Y (cl (fun h => tableau_Right _ h _) H Y Tryz.call20 Y (fun w m hr hw => lift_tableau_Right _ w m hr _ hw)) ?_
 rintro _ _ ⟨v_32, h85, rfl, rfl, H⟩
 rcases iteB.cases H with ⟨hb27, H⟩ | ⟨hb27, H⟩
 apply Stg.next (nm 130 [_, _, _, _, _, _]) Y Y
 refine Stg.known (t := 133) Y hb27 (Stg.go [12, 13, 14, 15, 16] [17] Y Y (QAll.cons (QOp.yp hT Y Y Y Y Y Y Y) (q_ Y (QAll.cons (QOp.pk hT Y Y Y Y hb27 Y) (qn Y Y Y Y (by decide) Y Y (qn Y Y Y Y (by decide) Y Y qz))))) ?_)
 refine EAll.cons ?_ EAll.nil
 refine EOp.no Y Y Y Y (by decide) Y ?_
 apply Stg.next (nm 136 [_, _, _, _, _, _, _] ++ nm 144 [_, _, _]) Y Y
 refine Stg.go [18, 19, 20, 21, 22, 23, 25, 26, 27] [24] Y Y (qn Y Y Y Y (by decide) Y Y (q_ Y (q_ Y (qn Y Y Y Y (by decide) Y Y (qn Y Y Y Y (by decide) Y Y (qn Y Y Y Y (by decide) Y Y (qn Y Y Y Y (by decide) Y Y (qn Y Y Y Y (by decide) Y Y (qn Y Y Y Y (by decide) Y Y qz))))))))) ?_
 refine EAll.cons ?_ EAll.nil
 refine EOp.no Y Y Y Y (by decide) Y ?_
 apply Stg.next [(143, _)] Y Y
 refine Stg.go [25, 26, 27] [28] Y Y (qn Y Y Y Y (by decide) Y Y (qn Y Y Y Y (by decide) Y Y (qn Y Y Y Y (by decide) Y Y qz))) ?_
 refine EAll.cons ?_ EAll.nil
 refine EOp.no Y Y Y Y (by decide) Y ?_
 apply Stg.next (nm 147 [_, _, _]) Y Y
 refine Stg.fin [29, 30] Y Y (qn Y Y Y Y (by decide) Y Y (q_ Y qz)) ?_
 exact pk (HK23 _ () _ H) [149, 10, 11, 12, 71, 72, 73] [0] Y
 obtain ⟨v_33, hc28, H⟩ := H
 apply Stg.next (nm 130 [_, _, _, _, _, _]) Y Y
 refine Stg.known (t := 133) Y hb27 (Stg.go [12, 13, 14, 15, 16] [17] Y Y (QAll.cons (QOp.yp hT Y Y Y Y Y Y Y) (q_ Y (QAll.cons (QOp.pk hT Y Y Y Y hb27 Y) (QAll.cons (QOp.y Y Y Y Y (qs hT Y Y Y Y hc28) Y Y) (QAll.cons (QOp.y Y Y Y Y (s_ 0 [_, _, _, _, _] Y) Y Y) qz))))) ?_)
 refine EAll.cons ?_ EAll.nil
 refine EOp.y Y Y Y Y Y (cl (fun h => tableau_Same _ _ h _) H Y Tryz.call22 Y (fun w m hr hw => lift_tableau_Same _ _ w m hr _ hw)) ?_
 rintro _ _ ⟨v_34, h86, rfl, rfl, H⟩
 rcases iteB.cases H with ⟨hb29, H⟩ | ⟨hb29, H⟩
 apply Stg.next (nm 136 [_, _, _, _, _, _, _] ++ nm 144 [_, _, _]) Y Y
 refine Stg.known (t := 139) Y hb29 (Stg.go [18, 19, 20, 21, 22, 23, 25, 26, 27] [24] Y Y (QAll.cons (QOp.yp hT Y Y Y Y Y Y Y) (q_ Y (QAll.cons (QOp.pk hT Y Y Y Y hb29 Y) (qn Y Y Y Y (by decide) Y Y (qn Y Y Y Y (by decide) Y Y (qn Y Y Y Y (by decide) Y Y (qn Y Y Y Y (by decide) Y Y (qn Y Y Y Y (by decide) Y Y (qn Y Y Y Y (by decide) Y Y qz))))))))) ?_)
 refine EAll.cons ?_ EAll.nil
 refine EOp.no Y Y Y Y (by decide) Y ?_
 apply Stg.next [(143, _)] Y Y
 refine Stg.go [25, 26, 27] [28] Y Y (qn Y Y Y Y (by decide) Y Y (qn Y Y Y Y (by decide) Y Y (qn Y Y Y Y (by decide) Y Y qz))) ?_
 refine EAll.cons ?_ EAll.nil
 refine EOp.no Y Y Y Y (by decide) Y ?_
 apply Stg.next (nm 147 [_, _, _]) Y Y
 refine Stg.fin [29, 30] Y Y (qn Y Y Y Y (by decide) Y Y (q_ Y qz)) ?_
 exact pk (HK23 _ () _ H) [149, 10, 11, 12, 71, 72, 73] [0] Y
 obtain ⟨v_35, hc30, H⟩ := H
 apply Stg.next (nm 136 [_, _, _, _, _, _, _] ++ nm 144 [_, _, _]) Y Y
 refine Stg.known (t := 139) Y hb29 (Stg.go [18, 19, 20, 21, 22, 23, 25, 26, 27] [24] Y Y (QAll.cons (QOp.yp hT Y Y Y Y Y Y Y) (q_ Y (QAll.cons (QOp.pk hT Y Y Y Y hb29 Y) (QAll.cons (QOp.y Y Y Y Y (qs hT Y Y Y Y hc30) Y Y) (QAll.cons (QOp.yp hT Y Y Y Y Y Y Y) (QAll.cons (QOp.y Y Y Y Y (l_ 1 Y) Y Y) (QAll.cons (QOp.y Y Y Y Y (s_ 0 [_, _, _, _, _] Y) Y Y) (QAll.cons (QOp.yp hT Y Y Y Y Y Y Y) (QAll.cons (QOp.y Y Y Y Y (l_ 1 Y) Y Y) qz))))))))) ?_)
 refine EAll.cons ?_ EAll.nil
 refine EOp.y Y Y Y Y Y (cl (fun h => tableau_Row _ _ h _) H Y Tryz.call33 Y (fun w m hr hw => lift_tableau_Row _ _ w m hr _ hw)) ?_
 rintro _ _ ⟨v_36, h87, rfl, rfl, H⟩
 apply Stg.next [(143, _)] Y Y
 refine Stg.go [25, 26, 27] [28] Y Y (QAll.cons (QOp.y Y Y Y Y (s_ 0 [_, _, _, _, _] Y) Y Y) (QAll.cons (QOp.yp hT Y Y Y Y Y Y Y) (QAll.cons (QOp.y Y Y Y Y (l_ 1 Y) Y Y) qz))) ?_
 refine EAll.cons ?_ EAll.nil
 refine EOp.y Y Y Y Y Y (cl (fun h => ref14uRow _ _ h _) H Y Tryz.call34 Y (fun w m hr hw => lift_ref14uRow _ _ w m hr _ hw)) ?_
 rintro _ _ ⟨v_37, h88, rfl, rfl, H⟩
 apply Stg.next (nm 147 [_, _, _]) Y Y
 refine Stg.fin [29, 30] Y Y (QAll.cons (QOp.yp hT Y Y Y Y Y Y Y) (q_ Y qz)) ?_
 exact pk (HK23 _ () _ H) [149, 10, 11, 12, 71, 72, 73] [0] Y
 refine sR (p_ 1 Y (lq Y (l_ 0 Y) (ng ?_)))
 refine cb H Y (fun H => ?_) (fun H => ?_)
 refine rg (lq Y (s_ 1 [_, _, _, _, _] Y) (p_ 1 Y (lq Y (l_ 0 Y) (p_ 1 Y (lq Y (s_ 0 [_, _, _, _, _, _] Y) (lc (lift_ref14uUpdate _ _ _) H Tryz.call31 Y fun v_27 h81 H => p_ 3 Y ?_))))))
 refine sp hT 1 [(_, [_, _, _, _, _, _, _, _, _]), (_, [_, _, _, _, _])] Y Y Y Y Y Y Y Y Y Y Y fun _ => p_ 1 Y (nl ?_)
 exact pk (HK22 _ () _ H) [16, 10, 11, 12, 14, 15, 71, 72, 73] [1, 0] Y
 refine rg (lq Y (s_ 1 [_, _, _, _, _] Y) (p_ 1 Y (lq Y (l_ 0 Y) (p_ 1 Y (lq Y (l_ 0 Y) (lc (lift_ref14uPivot _ _ _) H Tryz.call32 Y fun v_28 h82 H => p_ 3 Y ?_))))))
 refine sp hT 1 [(_, [_, _, _, _, _, _, _, _, _]), (_, [_, _, _, _, _])] Y Y Y Y Y Y Y Y Y Y Y fun _ => p_ 1 Y (nl ?_)
 exact pk (HK22 _ () _ H) [16, 10, 11, 12, 14, 15, 71, 72, 73] [1, 0] Y
 refine sR (p_ 1 Y (lq Y (l_ 0 Y) (ng ?_)))
 refine cb H Y (fun H => ?_) (fun H => ?_)
 refine rg (p_ 2 Y (lq Y (l_ 0 Y) (p_ 1 Y (lq Y (s_ 0 [_, _, _, _, _, _] Y) (lc (lift_tableau_Update _ _ _ _) H Tryz.call28 Y fun v_24 h77 H => p_ 1 Y (nl ?_))))))
 exact pk (HK21 _ () _ H) [15, 10, 11, 12, 14, 71, 72, 73] [0, 1] Y
 refine rg (p_ 2 Y (lq Y (l_ 0 Y) (p_ 1 Y (lq Y (l_ 0 Y) (lc (lift_tableau_Pivot _ _ _ _) H Tryz.call29 Y fun v_25 h78 H => p_ 1 Y (nl ?_))))))
 exact pk (HK21 _ () _ H) [15, 10, 11, 12, 14, 71, 72, 73] [0, 1] Y
 refine xt (tx (tx (bh (tg (sR (lds hT H Y Y Y Y Y fun _ H => lq Y (s_ 0 [_, _, _, _, _] Y) ?_))))))
 refine lc (lift_ref14uSame _ _) H Tryz.call23 Y fun v_39 h89 H => p_ 1 Y (ng (rt ?_))
 exact r1 6 Y Y Y H
 apply AtC.stages [1, 3, 4, 5, 6, 7] [[], [], [], [1], [], [], [1, 3, 4, 5], [1, 3, 4, 5, 6]] [[], [0], [], [0, 1, 2], [], [], (ra 6), (ra 7)] hmix (by kernel_rfl) [(67, _), (69, _)] Y 6 Y
 refine Stg.go [0, 2] [1, 4, 5] Y Y (qq Y (s_ 0 [_, _, _, _, _, _, _] Y) Y (qq Y (s_ 0 [_, _, _, _, _, _, _] Y) Y qz)) ?_
 refine EAll.cons ?_ ?_
 replace H := H.self
 replace H := H.1
 refine EOp.e Y Y Y (cl (fun h => tableau_New _ h _) H Y Tryz.call26 Y (fun w m hr hw => lift_tableau_New _ w m hr _ hw)) ?_
 rintro _ _ ⟨v_5, h10, rfl, rfl, H⟩
 apply Stg.next [(68, _)] Y Y
 refine Stg.go [2] [3, 4, 5] Y Y (qq Y (s_ 0 [_, _, _, _, _, _, _] Y) Y qz) ?_
 refine EAll.cons ?_ ?_
 replace H := H.self
 replace H := H.1
 refine EOp.e Y Y Y (cl (fun h => ref14uNew _ h _) H Y Tryz.call27 Y (fun w m hr hw => lift_ref14uNew _ w m hr _ hw)) ?_
 rintro _ _ ⟨v_6, h12, rfl, rfl, H⟩
 apply Stg.next [(70, _)] Y Y
 refine Stg.go [] [4, 5] Y Y qz ?_
 refine EAll.cons ?_ ?_
 refine EOp.e Y Y Y (EffX.alloc hT Y Y H.self) ?_
 rintro _ _ ⟨t0u3, h14, rfl, rfl, H⟩
 apply Stg.next [(11, _)] Y Y
 refine Stg.go [] [5] Y Y qz (eo Y (ea (cs := [_, _, _, _, _]) hT Y Y H) ?_)
 rintro _ _ ⟨b_2, _, rfl, rfl, he8, H⟩
 apply Stg.next [(12, _)] Y Y
 refine Stg.go [] [6] Y Y qz (eo Y (EffX.storeS hT Y Y Y Y Y Y H.self) ?_)
 rintro _ _ ⟨h16, rfl, H⟩
 apply Stg.next [] Y Y
 refine Stg.go [] [7] Y Y qz (eo Y (es (i := 0) (qv := [(_, [_, _, _, _, _]), (_, [_, _, _, _, _, _, _])]) hT Y Y Y Y Y Y Y Y Y Y) ?_)
 rintro _ _ rfl
 apply Stg.next [] Y Y
 refine Stg.fin [] Y Y qz ?_
 exact pk (HK8 _ b_2 _ H) [11, 12, 2, 10] [0] Y
 refine eo Y (ea (cs := [_, _, _, _, _]) hT Y Y H) ?_
 rintro _ _ ⟨b_3, _, rfl, rfl, he9, H⟩
 apply Stg.next [(12, _)] Y Y
 refine Stg.go [] [4] Y Y qz (eo Y (EffX.alloc hT Y Y H.self) ?_)
 rintro _ _ ⟨t0u4, h17, rfl, rfl, H⟩
 apply Stg.next [(11, _)] Y Y
 refine Stg.go [] [6] Y Y qz (eo Y (EffX.storeS hT Y Y Y Y Y Y H.self) ?_)
 rintro _ _ ⟨h19, rfl, H⟩
 apply Stg.next [] Y Y
 refine Stg.go [] [7] Y Y qz (eo Y (es (i := 0) (qv := [(_, [_, _, _, _, _]), (_, [_, _, _, _, _, _, _])]) hT Y Y Y Y Y Y Y Y Y Y) ?_)
 rintro _ _ rfl
 apply Stg.next [] Y Y
 refine Stg.fin [] Y Y qz ?_
 exact pk (HK8 _ b_3 _ H) [11, 12, 2, 10] [0] Y
 refine EAll.cons ?_ ?_
 replace H := H.self
 replace H := H.2
 refine EOp.e Y Y Y (EffX.alloc hT Y Y H) ?_
 rintro _ _ ⟨t0u5, h20, rfl, rfl, H⟩
 apply Stg.next [(11, _)] Y Y
 refine Stg.go [2] [3, 5] Y Y (qq Y (s_ 0 [_, _, _, _, _, _, _] Y) Y qz) ?_
 refine EAll.cons ?_ ?_
 refine EOp.e Y Y Y (cl (fun h => ref14uNew _ h _) H.self Y Tryz.call27 Y (fun w m hr hw => lift_ref14uNew _ w m hr _ hw)) ?_
 rintro _ _ ⟨v_7, h22, rfl, rfl, H⟩
 apply Stg.next [(70, _)] Y Y
 refine Stg.go [] [5] Y Y qz (eo Y (ea (cs := [_, _, _, _, _]) hT Y Y H) ?_)
 rintro _ _ ⟨b_4, _, rfl, rfl, he10, H⟩
 apply Stg.next [(12, _)] Y Y
 refine Stg.go [] [6] Y Y qz (eo Y (EffX.storeS hT Y Y Y Y Y Y H.self) ?_)
 rintro _ _ ⟨h24, rfl, H⟩
 apply Stg.next [] Y Y
 refine Stg.go [] [7] Y Y qz (eo Y (es (i := 0) (qv := [(_, [_, _, _, _, _]), (_, [_, _, _, _, _, _, _])]) hT Y Y Y Y Y Y Y Y Y Y) ?_)
 rintro _ _ rfl
 apply Stg.next [] Y Y
 refine Stg.fin [] Y Y qz ?_
 exact pk (HK8 _ b_4 _ H) [11, 12, 2, 10] [0] Y
 refine eo Y (ea (cs := [_, _, _, _, _]) hT Y Y H) ?_
 rintro _ _ ⟨b_5, _, rfl, rfl, he11, H⟩
 apply Stg.next [(12, _)] Y Y
 refine Stg.go [2] [3] Y Y (qq Y (s_ 1 [_, _, _, _, _, _, _] Y) Y qz) (ec (lift_ref14uNew _) H.self Tryz.call27 Y fun v_8 h25 H => ?_)
 apply Stg.next [(70, _)] Y Y
 refine Stg.go [] [6] Y Y qz (eo Y (EffX.storeS hT Y Y Y Y Y Y H.self) ?_)
 rintro _ _ ⟨h27, rfl, H⟩
 apply Stg.next [] Y Y
 refine Stg.go [] [7] Y Y qz (eo Y (es (i := 0) (qv := [(_, [_, _, _, _, _]), (_, [_, _, _, _, _, _, _])]) hT Y Y Y Y Y Y Y Y Y Y) ?_)
 rintro _ _ rfl
 apply Stg.next [] Y Y
 refine Stg.fin [] Y Y qz ?_
 exact pk (HK8 _ b_5 _ H) [11, 12, 2, 10] [0] Y
 refine eo Y (ea (cs := [_, _, _, _, _]) hT Y Y H) ?_
 rintro _ _ ⟨b_6, _, rfl, rfl, he12, H⟩
 apply Stg.next [(12, _)] Y Y
 refine Stg.go [2] [3, 4] Y Y (qq Y (s_ 1 [_, _, _, _, _, _, _] Y) Y qz) ?_
 refine EAll.cons ?_ ?_
 replace H := H.self
 replace H := H.1
 refine EOp.e Y Y Y (cl (fun h => ref14uNew _ h _) H Y Tryz.call27 Y (fun w m hr hw => lift_ref14uNew _ w m hr _ hw)) ?_
 rintro _ _ ⟨v_9, h28, rfl, rfl, H⟩
 apply Stg.next [(70, _)] Y Y
 refine Stg.go [] [4] Y Y qz (eo Y (EffX.alloc hT Y Y H.self) ?_)
 rintro _ _ ⟨t0u6, h30, rfl, rfl, H⟩
 apply Stg.next [(11, _)] Y Y
 refine Stg.go [] [6] Y Y qz (eo Y (EffX.storeS hT Y Y Y Y Y Y H.self) ?_)
 rintro _ _ ⟨h32, rfl, H⟩
 apply Stg.next [] Y Y
 refine Stg.go [] [7] Y Y qz (eo Y (es (i := 0) (qv := [(_, [_, _, _, _, _]), (_, [_, _, _, _, _, _, _])]) hT Y Y Y Y Y Y Y Y Y Y) ?_)
 rintro _ _ rfl
 apply Stg.next [] Y Y
 refine Stg.fin [] Y Y qz ?_
 exact pk (HK8 _ b_6 _ H) [11, 12, 2, 10] [0] Y
 refine EAll.cons ?_ EAll.nil
 replace H := H.self
 replace H := H.2
 refine EOp.e Y Y Y (EffX.alloc hT Y Y H) ?_
 rintro _ _ ⟨t0u7, h33, rfl, rfl, H⟩
 apply Stg.next [(11, _)] Y Y
 refine Stg.go [2] [3] Y Y (qq Y (s_ 1 [_, _, _, _, _, _, _] Y) Y qz) (ec (lift_ref14uNew _) H.self Tryz.call27 Y fun v_10 h35 H => ?_)
 apply Stg.next [(70, _)] Y Y
 refine Stg.go [] [6] Y Y qz (eo Y (EffX.storeS hT Y Y Y Y Y Y H.self) ?_)
 rintro _ _ ⟨h37, rfl, H⟩
 apply Stg.next [] Y Y
 refine Stg.go [] [7] Y Y qz (eo Y (es (i := 0) (qv := [(_, [_, _, _, _, _]), (_, [_, _, _, _, _, _, _])]) hT Y Y Y Y Y Y Y Y Y Y) ?_)
 rintro _ _ rfl
 apply Stg.next [] Y Y
 refine Stg.fin [] Y Y qz ?_
 exact pk (HK8 _ b_6 _ H) [11, 12, 2, 10] [0] Y
 refine EAll.cons ?_ ?_
 replace H := H.self
 replace H := H.2
 refine EOp.e Y Y Y (EffX.alloc hT Y Y H) ?_
 rintro _ _ ⟨t0u8, h38, rfl, rfl, H⟩
 apply Stg.next [(11, _)] Y Y
 refine Stg.go [0, 2] [1, 5] Y Y (qq Y (s_ 0 [_, _, _, _, _, _, _] Y) Y (qq Y (s_ 0 [_, _, _, _, _, _, _] Y) Y qz)) ?_
 refine EAll.cons ?_ ?_
 refine EOp.e Y Y Y (cl (fun h => tableau_New _ h _) H.self Y Tryz.call26 Y (fun w m hr hw => lift_tableau_New _ w m hr _ hw)) ?_
 rintro _ _ ⟨v_11, h40, rfl, rfl, H⟩
 apply Stg.next [(68, _)] Y Y
 refine Stg.go [2] [3, 5] Y Y (qq Y (s_ 0 [_, _, _, _, _, _, _] Y) Y qz) ?_
 refine EAll.cons ?_ ?_
 refine EOp.e Y Y Y (cl (fun h => ref14uNew _ h _) H.self Y Tryz.call27 Y (fun w m hr hw => lift_ref14uNew _ w m hr _ hw)) ?_
 rintro _ _ ⟨v_12, h42, rfl, rfl, H⟩
 apply Stg.next [(70, _)] Y Y
 refine Stg.go [] [5] Y Y qz (eo Y (ea (cs := [_, _, _, _, _]) hT Y Y H) ?_)
 rintro _ _ ⟨b_7, _, rfl, rfl, he13, H⟩
 apply Stg.next [(12, _)] Y Y
 refine Stg.go [] [6] Y Y qz (eo Y (EffX.storeS hT Y Y Y Y Y Y H.self) ?_)
 rintro _ _ ⟨h44, rfl, H⟩
 apply Stg.next [] Y Y
 refine Stg.go [] [7] Y Y qz (eo Y (es (i := 0) (qv := [(_, [_, _, _, _, _]), (_, [_, _, _, _, _, _, _])]) hT Y Y Y Y Y Y Y Y Y Y) ?_)
 rintro _ _ rfl
 apply Stg.next [] Y Y
 refine Stg.fin [] Y Y qz ?_
 exact pk (HK8 _ b_7 _ H) [11, 12, 2, 10] [0] Y
 refine eo Y (ea (cs := [_, _, _, _, _]) hT Y Y H) ?_
 rintro _ _ ⟨b_8, _, rfl, rfl, he14, H⟩
 apply Stg.next [(12, _)] Y Y
 refine Stg.go [2] [3] Y Y (qq Y (s_ 1 [_, _, _, _, _, _, _] Y) Y qz) (ec (lift_ref14uNew _) H.self Tryz.call27 Y fun v_13 h45 H => ?_)
 apply Stg.next [(70, _)] Y Y
 refine Stg.go [] [6] Y Y qz (eo Y (EffX.storeS hT Y Y Y Y Y Y H.self) ?_)
 rintro _ _ ⟨h47, rfl, H⟩
 apply Stg.next [] Y Y
 refine Stg.go [] [7] Y Y qz (eo Y (es (i := 0) (qv := [(_, [_, _, _, _, _]), (_, [_, _, _, _, _, _, _])]) hT Y Y Y Y Y Y Y Y Y Y) ?_)
 rintro _ _ rfl
 apply Stg.next [] Y Y
 refine Stg.fin [] Y Y qz ?_
 exact pk (HK8 _ b_8 _ H) [11, 12, 2, 10] [0] Y
 refine eo Y (ea (cs := [_, _, _, _, _]) hT Y Y H) ?_
 rintro _ _ ⟨b_9, _, rfl, rfl, he15, H⟩
 apply Stg.next [(12, _)] Y Y
 refine Stg.go [0, 2] [1] Y Y (qq Y (s_ 1 [_, _, _, _, _, _, _] Y) Y (qq Y (s_ 1 [_, _, _, _, _, _, _] Y) Y qz)) (ec (lift_tableau_New _) H.self Tryz.call26 Y fun v_14 h48 H => ?_)
 apply Stg.next [(68, _)] Y Y
 refine Stg.go [2] [3] Y Y (qq Y (s_ 1 [_, _, _, _, _, _, _] Y) Y qz) (ec (lift_ref14uNew _) H.self Tryz.call27 Y fun v_15 h50 H => ?_)
 apply Stg.next [(70, _)] Y Y
 refine Stg.go [] [6] Y Y qz (eo Y (EffX.storeS hT Y Y Y Y Y Y H.self) ?_)
 rintro _ _ ⟨h52, rfl, H⟩
 apply Stg.next [] Y Y
 refine Stg.go [] [7] Y Y qz (eo Y (es (i := 0) (qv := [(_, [_, _, _, _, _]), (_, [_, _, _, _, _, _, _])]) hT Y Y Y Y Y Y Y Y Y Y) ?_)
 rintro _ _ rfl
 apply Stg.next [] Y Y
 refine Stg.fin [] Y Y qz ?_
 exact pk (HK8 _ b_9 _ H) [11, 12, 2, 10] [0] Y
 refine eo Y (ea (cs := [_, _, _, _, _]) hT Y Y H) ?_
 rintro _ _ ⟨b_10, _, rfl, rfl, he16, H⟩
 apply Stg.next [(12, _)] Y Y
 refine Stg.go [0, 2] [1, 4] Y Y (qq Y (s_ 1 [_, _, _, _, _, _, _] Y) Y (qq Y (s_ 1 [_, _, _, _, _, _, _] Y) Y qz)) ?_
 refine EAll.cons ?_ ?_
 replace H := H.self
 replace H := H.1
 refine EOp.e Y Y Y (cl (fun h => tableau_New _ h _) H Y Tryz.call26 Y (fun w m hr hw => lift_tableau_New _ w m hr _ hw)) ?_
 rintro _ _ ⟨v_16, h53, rfl, rfl, H⟩
 apply Stg.next [(68, _)] Y Y
 refine Stg.go [2] [3, 4] Y Y (qq Y (s_ 1 [_, _, _, _, _, _, _] Y) Y qz) ?_
 refine EAll.cons ?_ ?_
 replace H := H.self
 replace H := H.1
 refine EOp.e Y Y Y (cl (fun h => ref14uNew _ h _) H Y Tryz.call27 Y (fun w m hr hw => lift_ref14uNew _ w m hr _ hw)) ?_
 rintro _ _ ⟨v_17, h55, rfl, rfl, H⟩
 apply Stg.next [(70, _)] Y Y
 refine Stg.go [] [4] Y Y qz (eo Y (EffX.alloc hT Y Y H.self) ?_)
 rintro _ _ ⟨t0u9, h57, rfl, rfl, H⟩
 apply Stg.next [(11, _)] Y Y
 refine Stg.go [] [6] Y Y qz (eo Y (EffX.storeS hT Y Y Y Y Y Y H.self) ?_)
 rintro _ _ ⟨h59, rfl, H⟩
 apply Stg.next [] Y Y
 refine Stg.go [] [7] Y Y qz (eo Y (es (i := 0) (qv := [(_, [_, _, _, _, _]), (_, [_, _, _, _, _, _, _])]) hT Y Y Y Y Y Y Y Y Y Y) ?_)
 rintro _ _ rfl
 apply Stg.next [] Y Y
 refine Stg.fin [] Y Y qz ?_
 exact pk (HK8 _ b_10 _ H) [11, 12, 2, 10] [0] Y
 refine EAll.cons ?_ EAll.nil
 replace H := H.self
 replace H := H.2
 refine EOp.e Y Y Y (EffX.alloc hT Y Y H) ?_
 rintro _ _ ⟨t0u10, h60, rfl, rfl, H⟩
 apply Stg.next [(11, _)] Y Y
 refine Stg.go [2] [3] Y Y (qq Y (s_ 1 [_, _, _, _, _, _, _] Y) Y qz) (ec (lift_ref14uNew _) H.self Tryz.call27 Y fun v_18 h62 H => ?_)
 apply Stg.next [(70, _)] Y Y
 refine Stg.go [] [6] Y Y qz (eo Y (EffX.storeS hT Y Y Y Y Y Y H.self) ?_)
 rintro _ _ ⟨h64, rfl, H⟩
 apply Stg.next [] Y Y
 refine Stg.go [] [7] Y Y qz (eo Y (es (i := 0) (qv := [(_, [_, _, _, _, _]), (_, [_, _, _, _, _, _, _])]) hT Y Y Y Y Y Y Y Y Y Y) ?_)
 rintro _ _ rfl
 apply Stg.next [] Y Y
 refine Stg.fin [] Y Y qz ?_
 exact pk (HK8 _ b_10 _ H) [11, 12, 2, 10] [0] Y
 refine EAll.cons ?_ EAll.nil
 replace H := H.self
 replace H := H.2
 refine EOp.e Y Y Y (EffX.alloc hT Y Y H) ?_
 rintro _ _ ⟨t0u11, h65, rfl, rfl, H⟩
 apply Stg.next [(11, _)] Y Y
 refine Stg.go [0, 2] [1] Y Y (qq Y (s_ 1 [_, _, _, _, _, _, _] Y) Y (qq Y (s_ 1 [_, _, _, _, _, _, _] Y) Y qz)) (ec (lift_tableau_New _) H.self Tryz.call26 Y fun v_19 h67 H => ?_)
 apply Stg.next [(68, _)] Y Y
 refine Stg.go [2] [3] Y Y (qq Y (s_ 1 [_, _, _, _, _, _, _] Y) Y qz) (ec (lift_ref14uNew _) H.self Tryz.call27 Y fun v_20 h69 H => ?_)
 apply Stg.next [(70, _)] Y Y
 refine Stg.go [] [6] Y Y qz (eo Y (EffX.storeS hT Y Y Y Y Y Y H.self) ?_)
 rintro _ _ ⟨h71, rfl, H⟩
 apply Stg.next [] Y Y
 refine Stg.go [] [7] Y Y qz (eo Y (es (i := 0) (qv := [(_, [_, _, _, _, _]), (_, [_, _, _, _, _, _, _])]) hT Y Y Y Y Y Y Y Y Y Y) ?_)
 rintro _ _ rfl
 apply Stg.next [] Y Y
 refine Stg.fin [] Y Y qz ?_
 exact pk (HK8 _ b_10 _ H) [11, 12, 2, 10] [0] Y
 refine rg (p_ 3 Y ?_)
 refine AtL.splitB (t := 21) H Y (fun H => ?_) (fun H => ?_)
 refine p_ 9 Y (nl ?_)
 exact pk (HK1 _ () _ H) [30, 0, 1, 2] [] Y
 refine p_ 5 Y (lc (lift_law14uGreat _ _) H Tryz.call24 Y fun v_1 h2 H => p_ 2 Y ?_)
 refine AtL.splitB (t := 26) H Y (fun H => ?_) (fun H => ?_)
 refine p_ 4 Y (nl ?_)
 exact pk (HK1 _ () _ H) [30, 0, 1, 2] [] Y
 refine p_ 7 Y (nl ?_)
 exact pk (HK1 _ () _ H) [30, 0, 1, 2] [] Y
end Go.Proofs.YtjppcjbmepcneaaGreatDoor

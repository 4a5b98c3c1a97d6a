/-
  Laws that the proof of this claim's statement leans on, each proved under the conditions that it states.
-/
import Derived.Test.YtjppcjbmepcneaaGreatDoorLfB
set_option linter.unusedVariables false
set_option linter.unusedSimpArgs false
namespace Go.Proofs.YtjppcjbmepcneaaGreatDoor
open Go Go.Lift Go.Sh
set_option maxRecDepth 100000
set_option maxHeartbeats 40000000
attribute [local irreducible] Calls AtL AtC AtE AtD Eff Quiet1 Stg qAt QAll eAt EAll nextK Code.wp
def A3u0 : List (List Nat) := (rl [([], 13), ([6], 1), ([6, 13], 1), ([], 1), ([6, 13, 15], 1)])
def G3u0 : List (List Nat) := [[], [], [], [2], [], [4], (ra 6), [], [], [], [9], [], [11], (ra 13), (ra 14), [], (ra 16)]
def A3u1 : List (List Nat) := (rl [([], 5), ([2], 1), ([2, 5], 2)])
def G3u1 : List (List Nat) := [[], [0], [0, 1], [], [3], (ra 5), (ra 6), (ra 7)]
def A3u2 : List (List Nat) := (rl [([], 14), ([9], 1), ([9, 14], 2), ([9, 14, 16], 1)])
def G3u2 : List (List Nat) := [[], [0], [], [2], [0, 1, 2, 3], [], [5], [], [7], [5, 6, 7, 8], [], [10], [], [12], [5, 6, 7, 8, 9, 10, 11, 12, 13], (ra 15), (ra 16), (ra 17)]
def A3u3 : List (List Nat) := (rl [([], 6), ([4], 2), ([4, 7], 1)])
def G3u3 : List (List Nat) := [[], [0], [], [], [2, 3], [], (ra 6), (ra 7), (ra 8)]
theorem lift_ref14uNew (p : Int × Int × Sl × Sl × Sl × Sl × Sl) : Lf Tryz.prog 27 [Value.agg (C_i64ui64usl_sl_sl_sl_sl p).toArray] (fun r => Value.agg (C_sl_sl_sl_sl_sl r).toArray) (ref14uNew p) := by
 refine Lf.go Tryz.func27 Tryz.ntmps27 Y Y [0] Y fun w m S H => ?_
 unfold ref14uNew at H
 refine sR (bx [_, _, _, _, _, _, _] H Y Y Y Y fun b _ H => al hT [_, _, _, _, _] H Y Y Y fun b_1 _ H => nl (tg (sR (p_ 1 Y (lq Y (l_ 1 Y) ?_)))))
 refine lq Y (qb (cs := [_, _, _, _, _]) hT Y Y Y Y Y Y) (al hT [_, _, _, _, _] H.self Y Y Y fun b_2 _ H => sp hT 0 [(_, [_, _, _, _, _]), (_, [_, _, _, _, _]), (_, [_, _, _, _, _, _, _])] Y Y Y Y Y Y Y Y Y Y Y fun _ => ng (sR (p_ 1 Y (lq Y (l_ 2 Y) (p_ 1 Y ?_)))))
 refine lq Y (l_ 2 Y) (p_ 3 Y ?_)
 replace H := H.self
 refine ng (cs (sR (p_ 1 Y (ng (ck ?_)))))
 refine AtC.loopM (fun (s0 : Int × Sl × Sl × Sl × Sl × Sl) => [(5, Value.int .i64 s0.1)]) (fun (s0 : Int × Sl × Sl × Sl × Sl × Sl) => [(b_2, [Sl.toV s0.2.1, Sl.toV s0.2.2.1, Sl.toV s0.2.2.2.1, Sl.toV s0.2.2.2.2.1, Sl.toV s0.2.2.2.2.2])]) [1, 2, 3, 4] [5, 1, 2, 3, 4] [1, 2] [0, 1, 2] (H _ rfl) Y Y Y (by decide) Y (fun Kp1 s0 h2 H Q1 HK1 => ?_)
 refine cs (sR (p_ 2 Y (lq Y (l_ 2 Y) (p_ 2 Y (ng ?_)))))
 refine cb H Y (fun H => ?_) (fun H => ?_)
 refine sk (tg (cs (ck (rg (p_ 1 Y (lq Y (l_ 0 Y) (p_ 1 Y ?_)))))))
 refine lq Y (l_ 2 Y) (p_ 2 Y ?_)
 refine AtLX.bs (hT := hT) (cs := [_]) H Y Y Y Y Y Y Y Y Y (fun a h3 H => ?_)
 refine le Y (EffX.appendS (s := _) (u := _) hT Y Y Y Y Y Y Y Y Y Y (by decide) H) ?_
 rintro _ _ ⟨v_1, h4, rfl, rfl, H⟩
 refine p_ 1 Y (le Y (ep (i := 0) (qv := [(_, [_, _, _, _, _]), (_, [_, _, _, _, _]), (_, [_, _, _, _, _, _, _])]) hT Y Y Y Y Y Y Y Y Y) ?_)
 rintro _ _ rfl
 refine nl (bn (tg (rg (p_ 3 Y (nl ?_)))))
 exact pk (HK1 _ _ (H _ rfl)) [5, 1, 2, 3, 4] [0, 1, 2] Y
 refine xt (tx (tx (bh (tg (cs (sR (p_ 1 Y ?_)))))))
 refine ng (ck ?_)
 refine AtC.loopM (fun (s0u1 : Int × Sl × Sl × Sl × Sl × Sl) => [(6, Value.int .i64 s0u1.1)]) (fun (s0u1 : Int × Sl × Sl × Sl × Sl × Sl) => [(b_2, [Sl.toV s0u1.2.1, Sl.toV s0u1.2.2.1, Sl.toV s0u1.2.2.2.1, Sl.toV s0u1.2.2.2.2.1, Sl.toV s0u1.2.2.2.2.2])]) [2, 3, 4] [6, 2, 3, 4] [1] [0, 1] H Y Y Y (by decide) Y (fun Kp2 s0u1 h5 H Q2 HK2 => ?_)
 refine cs (sR (p_ 3 Y (ng ?_)))
 refine cb H Y (fun H => ?_) (fun H => ?_)
 refine sk (tg (cs (ck (sR (p_ 1 Y (lq Y (l_ 0 Y) (lq Y (qb (cs := [_, _, _, _, _, _]) hT Y Y Y Y Y Y) ?_)))))))
 refine AtLX.bs (hT := hT) (cs := [_, _, _, _, _, _]) H Y Y Y Y Y Y Y Y Y (fun a_1 h6 H => ?_)
 refine le Y (EffX.appendS (s := _) (u := _) hT Y Y Y Y Y Y Y Y Y Y (by decide) H) ?_
 rintro _ _ ⟨v_3, h7, rfl, rfl, H⟩
 refine p_ 1 Y (le Y (ep (i := 0) (qv := [(_, [_, _, _, _, _]), (_, [_, _, _, _, _])]) hT Y Y Y Y Y Y Y Y Y) ?_)
 rintro _ _ rfl
 refine ng (sR (p_ 1 Y (lq Y (l_ 0 Y) (lq Y (qb (cs := [_, _, _, _, _, _, _]) hT Y Y Y Y Y Y) ?_))))
 refine AtLX.bs (hT := hT) (cs := [_, _, _, _, _, _, _]) H Y Y Y Y Y Y Y Y Y (fun a_2 h8 H => ?_)
 refine le Y (EffX.appendS (s := _) (u := _) hT Y Y Y Y Y Y Y Y Y Y (by decide) H) ?_
 rintro _ _ ⟨v_5, h9, rfl, rfl, H⟩
 refine p_ 1 Y (le Y (ep (i := 0) (qv := [(_, [_, _, _, _, _]), (_, [_, _, _, _, _])]) hT Y Y Y Y Y Y Y Y Y) ?_)
 rintro _ _ rfl
 refine ng (rg (p_ 1 Y (lq Y (l_ 0 Y) (lq Y (qb (cs := [_, _, _, _, _, _, _]) hT Y Y Y Y Y Y) ?_))))
 refine AtLX.bs (hT := hT) (cs := [_, _, _, _, _, _, _]) H Y Y Y Y Y Y Y Y Y (fun a_3 h10 H => ?_)
 refine le Y (EffX.appendS (s := _) (u := _) hT Y Y Y Y Y Y Y Y Y Y (by decide) H) ?_
 rintro _ _ ⟨v_7, h11, rfl, rfl, H⟩
 refine p_ 1 Y (le Y (ep (i := 0) (qv := [(_, [_, _, _, _, _]), (_, [_, _, _, _, _])]) hT Y Y Y Y Y Y Y Y Y) ?_)
 rintro _ _ rfl
 refine nl (bn (tg (rg (p_ 3 Y (nl ?_)))))
 exact pk (HK2 _ _ (H _ rfl)) [6, 2, 3, 4] [0, 1] Y
 refine xt (tx (tx (bh (tg (sR (lq Y (s_ 0 [_, _, _, _, _] Y) (sp hT 1 [(_, [_, _, _, _, _]), (_, [_, _, _, _, _])] Y Y Y Y Y Y Y Y Y Y Y fun _ => ?_)))))))
 refine ng (rt ?_)
 exact rc (i := 1) hT [_, _, _, _, _] Y Y Y Y Y Y Y Y Y H
theorem lift_ref03uRight (x0 : Bool × Sl × Sl × Bool × Sl × Sl) : Lf Tryz.prog 54 [Value.agg (C_bool_sl_sl_bool_sl_sl x0).toArray] Value.bool (ref03uRight x0) := by
 refine Lf.go Tryz.func54 Tryz.ntmps54 Y Y [0] Y fun w m S H => ?_
 unfold ref03uRight at H
 refine sR (bx [_, _, _, _, _, _] H Y Y Y Y fun b _ H => p_ 1 Y (ng ?_))
 refine AtC.joinSeq (β := Unit) (fun (t0 : Bool) (bb : Unit) => [(2, Value.bool t0)]) (fun (t0 : Bool) (bb : Unit) => []) [] [] H.self Y Y (fun t0 bb h1 H => ?_) (fun J1 H HK1 => ?_)
 refine rt ?_
 exact r1 2 Y Y Y H
 refine rg (p_ 1 Y (lq Y (s_ 0 [_, _, _] Y) (lc (lift_ref02uRight _) H Tryz.call11 Y fun v h2 H => p_ 1 Y ?_)))
 refine AtL.splitB (t := 6) H Y (fun H => ?_) (fun H => ?_)
 refine p_ 3 Y (lq Y (s_ 0 [_, _, _] Y) (p_ 1 Y (lc (lift_ref02uRight _) H Tryz.call11 Y fun v_1 h3 H => p_ 2 Y (nl ?_))))
 exact pk (HK1 _ () _ H) [2] [] Y
 refine p_ 5 Y (nl ?_)
 exact pk (HK1 _ () _ H) [2] [] Y
theorem lift_law03uOdd (l : Sl) : Lf Tryz.prog 19 [Sl.toV l] Value.bool (law03uOdd l) := by
 refine Lf.go Tryz.func19 Tryz.ntmps19 Y Y [0] Y fun w m S H => ?_
 unfold law03uOdd at H
 refine sR (p_ 1 Y (ng (cs (sR (p_ 3 Y (ng (ck ?_)))))))
 refine AtC.loopM (fun (s0 : Int) => [(7, Value.int .i64 s0)]) (fun (s0 : Int) => []) [5, 6] [7, 5, 6] [] [] H Y Y Y (by decide) Y (fun Kp1 s0 h0 H Q1 HK1 => ?_)
 refine sR (p_ 1 Y (ng (cs ?_)))
 refine cb H Y (fun H => ?_) (fun H => ?_)
 refine sk (tg (cs (ck (sR (ix hT H Y Y Y Y Y Y fun _ H => lds hT H Y Y Y Y Y fun _ H => al hT [_, _, _, _, _, _] H Y Y Y fun b _ H => ?_)))))
 refine sp hT 0 [(_, [_, _, _, _, _, _])] Y Y Y Y Y Y Y Y Y Y Y fun _ => ng ?_
 refine AtC.joinSeq (β := Unit) (fun (t0 : Bool) (bb : Unit) => [(21, Value.bool t0)]) (fun (t0 : Bool) (bb : Unit) => []) [5, 6, 7] [] H.self Y Y (fun t0 bb h2 H => ?_) (fun J4 H HK4 => ?_)
 refine cb H Y (fun H => ?_) (fun H => ?_)
 refine sR (p_ 1 Y (ng (rt (br (tr (tr (br ?_)))))))
 refine tr ?_
 exact r1 2 Y Y Y H
 refine sk (bn (tg (rg (p_ 2 Y (nl ?_)))))
 exact pk (HK1 _ _ H) [7, 5, 6] [] Y
 refine rg (p_ 1 Y (lq Y (s_ 0 [_, _, _] Y) (p_ 1 Y (lq Y (s_ 0 [_, _, _] Y) ?_))))
 refine AtLX.bs (hT := hT) (cs := [_, _, _, _, _, _]) H Y Y Y Y Y Y Y Y Y (fun a_1 h3 H => ?_)
 refine lc (lift_law02uGreat _) H Tryz.call10 Y fun v_2 h4 H => p_ 1 Y ?_
 refine AtL.splitB (t := 17) H Y (fun H => ?_) (fun H => ?_)
 refine p_ 4 Y (nl ?_)
 exact pk (HK4 _ () _ H) [21, 5, 6, 7] [] Y
 refine p_ 1 Y (lq Y (s_ 0 [_, _, _, _, _, _] Y) (p_ 1 Y (lc (lift_ref03uRight _) H Tryz.call54 Y fun v_3 h5 H => p_ 3 Y (nl ?_))))
 exact pk (HK4 _ () _ H) [21, 5, 6, 7] [] Y
 refine xt (tx (tx (bh (tg (sR (p_ 1 Y (ng ?_)))))))
 refine rt ?_
 exact r1 2 Y Y Y H
theorem lift_slices_Index_int_int (s0 : Sl) (v : Int) : Lf Tryz.prog 95 [Sl.toV s0, Value.int .i64 v] (Value.int .i64) (slices_Index_int_int s0 v) := by
 refine Lf.go Tryz.func95 Tryz.ntmps95 Y Y [0, 1] Y fun w m S H => ?_
 unfold slices_Index_int_int at H
 refine sR (p_ 1 Y (ng (cs (sR (p_ 3 Y (ng (ck ?_)))))))
 refine AtC.loopM (fun (s0u1 : Int) => [(8, Value.int .i64 s0u1)]) (fun (s0u1 : Int) => []) [0, 1, 7] [8, 0, 1, 7] [] [] H Y Y Y (by decide) Y (fun Kp1 s0u1 h0 H Q1 HK1 => ?_)
 refine sR (p_ 1 Y (ng (cs ?_)))
 refine cb H Y (fun H => ?_) (fun H => ?_)
 refine sk (tg (cs (ck (sR (p_ 2 Y (ng (sR ?_)))))))
 refine p_ 3 Y (ix hT H Y Y Y Y Y Y fun _ H => ld hT H Y Y Y Y fun _ H => p_ 1 Y (ng ?_))
 refine cb H Y (fun H => ?_) (fun H => ?_)
 refine sR (p_ 2 Y (ng (rt (br (tr (tr (br ?_)))))))
 refine tr ?_
 exact r1 4 Y Y Y H
 refine sk (bn (tg (rg (p_ 2 Y (nl ?_)))))
 exact pk (HK1 _ _ H) [8, 0, 1, 7] [] Y
 refine xt (tx (tx (bh (tg (sR (p_ 1 Y (ng ?_)))))))
 refine rt ?_
 exact r1 4 Y Y Y H
theorem lift_tableau_Row (t0 : Sl × Sl × Sl × Sl × Sl) (v : Int) : Lf Tryz.prog 33 [Value.agg (C_sl_sl_sl_sl_sl t0).toArray, Value.int .i64 v] (Value.int .i64) (tableau_Row t0 v) := by
 refine Lf.go Tryz.func33 Tryz.ntmps33 Y Y [0, 1] Y fun w m S H => ?_
 unfold tableau_Row at H
 refine sR (bx [_, _, _, _, _] H Y Y Y Y fun b _ H => p_ 1 Y (ng (sR (p_ 1 Y (lq Y (l_ 0 Y) (p_ 1 Y ?_))))))
 refine lc (lift_slices_Index_int_int _ _) H.self Tryz.call95 Y fun v_1 h1 H => p_ 1 Y (ng (rt ?_))
 exact r1 4 Y Y Y H
theorem lift_ratio_Sub (b : (Option Addr)) (x0 : Bool × Sl × Sl) (y : Bool × Sl × Sl) : Lf Tryz.prog 131 [Value.pointer b, Value.agg (C_bool_sl_sl x0).toArray, Value.agg (C_bool_sl_sl y).toArray] (fun r => Value.agg (C_bool_sl_sl r).toArray) (ratio_Sub b x0 y) := by
 refine Lf.go Tryz.func131 Tryz.ntmps131 Y Y [0, 1, 2] Y fun w m S H => ?_
 unfold ratio_Sub at H
 refine sR (bx [_, _, _] H Y Y Y Y fun b_1 _ H => bx [_, _, _] H Y Y Y Y fun b_2 _ H => al hT [_, _, _] H Y Y Y fun b_3 _ H => nl (tg ?_))
 replace H := H.self
 apply AtC.seqS [3, 4, 5] [[], [], [], [], [3], [3, 4]] [[], [], [], [2], [0, 1, 2, 3], (ra 5)] hmix (by kernel_rfl) (nm 7 [_, _, _]) Y 3 Y
 refine Stg.go [0, 1, 2] [3] Y Y (q_ Y (qq Y (s_ 2 [_, _, _] Y) Y (qq Y (s_ 1 [_, _, _] Y) Y qz))) (ec (lift_ratio_Neg _) H Tryz.call87 Y fun v h1 H => ?_)
 apply Stg.next [(10, _)] Y Y
 refine Stg.go [0, 1] [4] Y Y (q_ Y (qq Y (s_ 2 [_, _, _] Y) Y qz)) (ec (lift_ratio_Add _ _ _) H Tryz.call134 Y fun v_1 h2 H => ?_)
 apply Stg.next [(11, _)] Y Y
 refine Stg.go [] [5] Y Y qz (eo Y (es (i := 0) (qv := [(_, [_, _, _]), (_, [_, _, _]), (_, [_, _, _])]) hT Y Y Y Y Y Y Y Y Y Y) ?_)
 rintro _ _ rfl
 apply Stg.next [] Y Y
 refine Stg.fin [] Y Y qz (tg (rt ?_))
 exact rc (i := 0) hT [_, _, _] Y Y Y Y Y Y Y Y Y H
theorem lift_delta_both__ratio_Sub (b : (Option Addr)) (x0 : Bool × Sl × Sl × Bool × Sl × Sl) (y : Bool × Sl × Sl × Bool × Sl × Sl) : Lf Tryz.prog 130 [Value.pointer b, Value.func (.func 131) #[] #[], Value.agg (C_bool_sl_sl_bool_sl_sl x0).toArray, Value.agg (C_bool_sl_sl_bool_sl_sl y).toArray] (fun r => Value.agg (C_bool_sl_sl_bool_sl_sl r).toArray) (delta_both__ratio_Sub b x0 y) := by
 refine Lf.go Tryz.func130 Tryz.ntmps130 Y Y [0, 1, 2, 3] Y fun w m S H => ?_
 unfold delta_both__ratio_Sub at H
 refine sR (bx [_, _, _, _, _, _] H Y Y Y Y fun b_1 _ H => bx [_, _, _, _, _, _] H Y Y Y Y fun b_2 _ H => al hT [_, _, _, _, _, _] H Y Y Y fun b_3 _ H => nl (tg ?_))
 refine AtC.joinSeq (β := Nat) (fun (t0 : Bool × Sl × Sl × Bool × Sl × Sl) (bb : Nat) => [(9, Value.pointer (some ⟨bb, 0, none⟩))]) (fun (t0 : Bool × Sl × Sl × Bool × Sl × Sl) (bb : Nat) => [(bb, [Value.bool t0.1, Sl.toV t0.2.1, Sl.toV t0.2.2.1, Value.bool t0.2.2.2.1, Sl.toV t0.2.2.2.2.1, Sl.toV t0.2.2.2.2.2])]) [0, 8] [0] H.self Y Y (fun t0 bb h1 H => ?_) (fun J1 H HK1 => ?_)
 refine cs (sR (p_ 1 Y (lc (lift_nat_Bench_Over _) H Tryz.call30 Y fun v_5 h13 H => ng ?_)))
 refine cb H Y (fun H => ?_) (fun H => ?_)
 refine sR (lq Y (qb (cs := [_, _, _, _, _, _]) hT Y Y Y Y Y Y) (sp hT 1 [(_, [_, _, _, _, _, _]), (_, [_, _, _, _, _, _])] Y Y Y Y Y Y Y Y Y Y Y fun _ => ng (rt (tr ?_))))
 exact rc (i := 1) hT [_, _, _, _, _, _] Y Y Y Y Y Y Y Y Y H
 refine sk (tg (sR (lq Y (s_ 0 [_, _, _, _, _, _] Y) (sp hT 1 [(_, [_, _, _, _, _, _]), (_, [_, _, _, _, _, _])] Y Y Y Y Y Y Y Y Y Y Y fun _ => ng (rt ?_)))))
 exact rc (i := 1) hT [_, _, _, _, _, _] Y Y Y Y Y Y Y Y Y H
 apply AtC.stages [6, 13, 15, 16] A3u0 G3u0 hmix (by kernel_rfl) (nm 10 [_, _, _, _, _, _] ++ nm 17 [_, _, _, _, _, _]) Y 4 Y
 refine Stg.go (ra 6 ++ [7, 8, 9, 10, 11, 12]) [6, 15] Y Y (q_ Y (q_ Y (q_ Y (qq Y (s_ 2 [_, _, _] Y) Y (q_ Y (qq Y (s_ 1 [_, _, _] Y) Y (q_ Y (q_ Y (q_ Y (qq Y (s_ 2 [_, _, _] Y) Y (q_ Y (qq Y (s_ 1 [_, _, _] Y) Y qz)))))))))))) ?_
 refine EAll.cons ?_ ?_
 refine EOp.e Y Y Y (EffX.callF (bs := []) (cs := []) (f := 131) (sh := fun h => ratio_Sub _ _ _ h _) (H0 := H.self) Y Y Tryz.call131 Y (hl := fun w m hr hw => lift_ratio_Sub _ _ _ w m hr _ hw)) ?_
 rintro _ _ ⟨v, h3, rfl, rfl, H⟩
 apply Stg.next [(16, _)] Y Y
 refine Stg.go [7, 8, 9, 10, 11, 12] [13, 15] Y Y (q_ Y (q_ Y (q_ Y (qq Y (s_ 2 [_, _, _] Y) Y (q_ Y (qq Y (s_ 1 [_, _, _] Y) Y qz)))))) ?_
 refine EAll.cons ?_ ?_
 refine EOp.e Y Y Y (EffX.callF (bs := []) (cs := []) (f := 131) (sh := fun h => ratio_Sub _ _ _ h _) (H0 := H.self) Y Y Tryz.call131 Y (hl := fun w m hr hw => lift_ratio_Sub _ _ _ w m hr _ hw)) ?_
 rintro _ _ ⟨v_1, h5, rfl, rfl, H⟩
 apply Stg.next [(23, _), (24, _)] Y Y
 refine Stg.go [14] [15] Y Y (qq Y (qb (cs := [_, _, _, _, _, _]) hT Y Y Y Y Y Y) Y qz) (eo Y (ea (cs := [_, _, _, _, _, _]) hT Y Y H) ?_)
 rintro _ _ ⟨b_4, _, rfl, rfl, he1, H⟩
 apply Stg.next [(9, _)] Y Y
 refine Stg.go [14] [16] Y Y (qq Y (qb (cs := [_, _, _, _, _, _]) hT Y Y Y Y Y Y) Y qz) (eo Y (es (i := 0) (qv := [(_, [_, _, _, _, _, _]), (_, [_, _, _, _, _, _]), (_, [_, _, _, _, _, _]), (_, [_, _, _, _, _, _])]) hT Y Y Y Y Y Y Y Y Y Y) ?_)
 rintro _ _ rfl
 apply Stg.next [] Y Y
 refine Stg.fin [] Y Y qz ?_
 exact pk (HK1 _ b_4 _ H.self) [9, 0, 8] [0, 1] Y
 refine eo Y (ea (cs := [_, _, _, _, _, _]) hT Y Y H) ?_
 rintro _ _ ⟨b_5, _, rfl, rfl, he2, H⟩
 apply Stg.next [(9, _)] Y Y
 refine Stg.go [7, 8, 9, 10, 11, 12] [13] Y Y (q_ Y (q_ Y (q_ Y (qq Y (s_ 3 [_, _, _] Y) Y (q_ Y (qq Y (s_ 2 [_, _, _] Y) Y qz)))))) (eo Y (EffX.callF (bs := []) (cs := []) (f := 131) (sh := fun h => ratio_Sub _ _ _ h _) (H0 := H.self) Y Y Tryz.call131 Y (hl := fun w m hr hw => lift_ratio_Sub _ _ _ w m hr _ hw)) ?_)
 rintro _ _ ⟨v_2, h7, rfl, rfl, H⟩
 apply Stg.next [(23, _), (24, _)] Y Y
 refine Stg.go [14] [16] Y Y (qq Y (qb (cs := [_, _, _, _, _, _]) hT Y Y Y Y Y Y) Y qz) (eo Y (es (i := 0) (qv := [(_, [_, _, _, _, _, _]), (_, [_, _, _, _, _, _]), (_, [_, _, _, _, _, _]), (_, [_, _, _, _, _, _])]) hT Y Y Y Y Y Y Y Y Y Y) ?_)
 rintro _ _ rfl
 apply Stg.next [] Y Y
 refine Stg.fin [] Y Y qz ?_
 exact pk (HK1 _ b_5 _ H.self) [9, 0, 8] [0, 1] Y
 refine eo Y (ea (cs := [_, _, _, _, _, _]) hT Y Y H) ?_
 rintro _ _ ⟨b_6, _, rfl, rfl, he3, H⟩
 apply Stg.next [(9, _)] Y Y
 refine Stg.go (ra 6 ++ [7, 8, 9, 10, 11, 12]) [6] Y Y (q_ Y (q_ Y (q_ Y (qq Y (s_ 3 [_, _, _] Y) Y (q_ Y (qq Y (s_ 2 [_, _, _] Y) Y (q_ Y (q_ Y (q_ Y (qq Y (s_ 3 [_, _, _] Y) Y (q_ Y (qq Y (s_ 2 [_, _, _] Y) Y qz)))))))))))) (eo Y (EffX.callF (bs := []) (cs := []) (f := 131) (sh := fun h => ratio_Sub _ _ _ h _) (H0 := H.self) Y Y Tryz.call131 Y (hl := fun w m hr hw => lift_ratio_Sub _ _ _ w m hr _ hw)) ?_)
 rintro _ _ ⟨v_3, h9, rfl, rfl, H⟩
 apply Stg.next [(16, _)] Y Y
 refine Stg.go [7, 8, 9, 10, 11, 12] [13] Y Y (q_ Y (q_ Y (q_ Y (qq Y (s_ 3 [_, _, _] Y) Y (q_ Y (qq Y (s_ 2 [_, _, _] Y) Y qz)))))) (eo Y (EffX.callF (bs := []) (cs := []) (f := 131) (sh := fun h => ratio_Sub _ _ _ h _) (H0 := H.self) Y Y Tryz.call131 Y (hl := fun w m hr hw => lift_ratio_Sub _ _ _ w m hr _ hw)) ?_)
 rintro _ _ ⟨v_4, h11, rfl, rfl, H⟩
 apply Stg.next [(23, _), (24, _)] Y Y
 refine Stg.go [14] [16] Y Y (qq Y (qb (cs := [_, _, _, _, _, _]) hT Y Y Y Y Y Y) Y qz) (eo Y (es (i := 0) (qv := [(_, [_, _, _, _, _, _]), (_, [_, _, _, _, _, _]), (_, [_, _, _, _, _, _]), (_, [_, _, _, _, _, _])]) hT Y Y Y Y Y Y Y Y Y Y) ?_)
 rintro _ _ rfl
 apply Stg.next [] Y Y
 refine Stg.fin [] Y Y qz ?_
 exact pk (HK1 _ b_6 _ H.self) [9, 0, 8] [0, 1] Y
theorem lift_delta_Sub (b : (Option Addr)) (x0 : Bool × Sl × Sl × Bool × Sl × Sl) (y : Bool × Sl × Sl × Bool × Sl × Sl) : Lf Tryz.prog 78 [Value.pointer b, Value.agg (C_bool_sl_sl_bool_sl_sl x0).toArray, Value.agg (C_bool_sl_sl_bool_sl_sl y).toArray] (fun r => Value.agg (C_bool_sl_sl_bool_sl_sl r).toArray) (delta_Sub b x0 y) := by
 refine Lf.go Tryz.func78 Tryz.ntmps78 Y Y [0, 1, 2] Y fun w m S H => ?_
 unfold delta_Sub at H
 refine sR (bx [_, _, _, _, _, _] H Y Y Y Y fun b_1 _ H => bx [_, _, _, _, _, _] H Y Y Y Y fun b_2 _ H => al hT [_, _, _, _, _, _] H Y Y Y fun b_3 _ H => nl (tg (sR (p_ 1 Y ?_))))
 refine lq Y (s_ 2 [_, _, _, _, _, _] Y) (lq Y (s_ 1 [_, _, _, _, _, _] Y) (lc (lift_delta_both__ratio_Sub _ _ _) H.self Tryz.call130 Y fun v h1 H => sp hT 0 [(_, [_, _, _, _, _, _]), (_, [_, _, _, _, _, _]), (_, [_, _, _, _, _, _])] Y Y Y Y Y Y Y Y Y Y Y fun _ => ng (rt ?_)))
 exact rc (i := 0) hT [_, _, _, _, _, _] Y Y Y Y Y Y Y Y Y H
theorem lift_delta_both__ratio_Mul (b : (Option Addr)) (x0 : Bool × Sl × Sl × Bool × Sl × Sl) (y : Bool × Sl × Sl × Bool × Sl × Sl) : Lf Tryz.prog 130 [Value.pointer b, Value.func (.func 135) #[] #[], Value.agg (C_bool_sl_sl_bool_sl_sl x0).toArray, Value.agg (C_bool_sl_sl_bool_sl_sl y).toArray] (fun r => Value.agg (C_bool_sl_sl_bool_sl_sl r).toArray) (delta_both__ratio_Mul b x0 y) := by
 refine Lf.go Tryz.func130 Tryz.ntmps130 Y Y [0, 1, 2, 3] Y fun w m S H => ?_
 unfold delta_both__ratio_Mul at H
 refine sR (bx [_, _, _, _, _, _] H Y Y Y Y fun b_1 _ H => bx [_, _, _, _, _, _] H Y Y Y Y fun b_2 _ H => al hT [_, _, _, _, _, _] H Y Y Y fun b_3 _ H => nl (tg ?_))
 refine AtC.joinSeq (β := Nat) (fun (t0 : Bool × Sl × Sl × Bool × Sl × Sl) (bb : Nat) => [(9, Value.pointer (some ⟨bb, 0, none⟩))]) (fun (t0 : Bool × Sl × Sl × Bool × Sl × Sl) (bb : Nat) => [(bb, [Value.bool t0.1, Sl.toV t0.2.1, Sl.toV t0.2.2.1, Value.bool t0.2.2.2.1, Sl.toV t0.2.2.2.2.1, Sl.toV t0.2.2.2.2.2])]) [0, 8] [0] H.self Y Y (fun t0 bb h1 H => ?_) (fun J1 H HK1 => ?_)
 refine cs (sR (p_ 1 Y (lc (lift_nat_Bench_Over _) H Tryz.call30 Y fun v_5 h13 H => ng ?_)))
 refine cb H Y (fun H => ?_) (fun H => ?_)
 refine sR (lq Y (qb (cs := [_, _, _, _, _, _]) hT Y Y Y Y Y Y) (sp hT 1 [(_, [_, _, _, _, _, _]), (_, [_, _, _, _, _, _])] Y Y Y Y Y Y Y Y Y Y Y fun _ => ng (rt (tr ?_))))
 exact rc (i := 1) hT [_, _, _, _, _, _] Y Y Y Y Y Y Y Y Y H
 refine sk (tg (sR (lq Y (s_ 0 [_, _, _, _, _, _] Y) (sp hT 1 [(_, [_, _, _, _, _, _]), (_, [_, _, _, _, _, _])] Y Y Y Y Y Y Y Y Y Y Y fun _ => ng (rt ?_)))))
 exact rc (i := 1) hT [_, _, _, _, _, _] Y Y Y Y Y Y Y Y Y H
 apply AtC.stages [6, 13, 15, 16] A3u0 G3u0 hmix (by kernel_rfl) (nm 10 [_, _, _, _, _, _] ++ nm 17 [_, _, _, _, _, _]) Y 4 Y
 refine Stg.go (ra 6 ++ [7, 8, 9, 10, 11, 12]) [6, 15] Y Y (q_ Y (q_ Y (q_ Y (qq Y (s_ 2 [_, _, _] Y) Y (q_ Y (qq Y (s_ 1 [_, _, _] Y) Y (q_ Y (q_ Y (q_ Y (qq Y (s_ 2 [_, _, _] Y) Y (q_ Y (qq Y (s_ 1 [_, _, _] Y) Y qz)))))))))))) ?_
 refine EAll.cons ?_ ?_
 refine EOp.e Y Y Y (EffX.callF (bs := []) (cs := []) (f := 135) (sh := fun h => ratio_Mul _ _ _ h _) (H0 := H.self) Y Y Tryz.call135 Y (hl := fun w m hr hw => lift_ratio_Mul _ _ _ w m hr _ hw)) ?_
 rintro _ _ ⟨v, h3, rfl, rfl, H⟩
 apply Stg.next [(16, _)] Y Y
 refine Stg.go [7, 8, 9, 10, 11, 12] [13, 15] Y Y (q_ Y (q_ Y (q_ Y (qq Y (s_ 2 [_, _, _] Y) Y (q_ Y (qq Y (s_ 1 [_, _, _] Y) Y qz)))))) ?_
 refine EAll.cons ?_ ?_
 refine EOp.e Y Y Y (EffX.callF (bs := []) (cs := []) (f := 135) (sh := fun h => ratio_Mul _ _ _ h _) (H0 := H.self) Y Y Tryz.call135 Y (hl := fun w m hr hw => lift_ratio_Mul _ _ _ w m hr _ hw)) ?_
 rintro _ _ ⟨v_1, h5, rfl, rfl, H⟩
 apply Stg.next [(23, _), (24, _)] Y Y
 refine Stg.go [14] [15] Y Y (qq Y (qb (cs := [_, _, _, _, _, _]) hT Y Y Y Y Y Y) Y qz) (eo Y (ea (cs := [_, _, _, _, _, _]) hT Y Y H) ?_)
 rintro _ _ ⟨b_4, _, rfl, rfl, he1, H⟩
 apply Stg.next [(9, _)] Y Y
 refine Stg.go [14] [16] Y Y (qq Y (qb (cs := [_, _, _, _, _, _]) hT Y Y Y Y Y Y) Y qz) (eo Y (es (i := 0) (qv := [(_, [_, _, _, _, _, _]), (_, [_, _, _, _, _, _]), (_, [_, _, _, _, _, _]), (_, [_, _, _, _, _, _])]) hT Y Y Y Y Y Y Y Y Y Y) ?_)
 rintro _ _ rfl
 apply Stg.next [] Y Y
 refine Stg.fin [] Y Y qz ?_
 exact pk (HK1 _ b_4 _ H.self) [9, 0, 8] [0, 1] Y
 refine eo Y (ea (cs := [_, _, _, _, _, _]) hT Y Y H) ?_
 rintro _ _ ⟨b_5, _, rfl, rfl, he2, H⟩
 apply Stg.next [(9, _)] Y Y
 refine Stg.go [7, 8, 9, 10, 11, 12] [13] Y Y (q_ Y (q_ Y (q_ Y (qq Y (s_ 3 [_, _, _] Y) Y (q_ Y (qq Y (s_ 2 [_, _, _] Y) Y qz)))))) (eo Y (EffX.callF (bs := []) (cs := []) (f := 135) (sh := fun h => ratio_Mul _ _ _ h _) (H0 := H.self) Y Y Tryz.call135 Y (hl := fun w m hr hw => lift_ratio_Mul _ _ _ w m hr _ hw)) ?_)
 rintro _ _ ⟨v_2, h7, rfl, rfl, H⟩
 apply Stg.next [(23, _), (24, _)] Y Y
 refine Stg.go [14] [16] Y Y (qq Y (qb (cs := [_, _, _, _, _, _]) hT Y Y Y Y Y Y) Y qz) (eo Y (es (i := 0) (qv := [(_, [_, _, _, _, _, _]), (_, [_, _, _, _, _, _]), (_, [_, _, _, _, _, _]), (_, [_, _, _, _, _, _])]) hT Y Y Y Y Y Y Y Y Y Y) ?_)
 rintro _ _ rfl
 apply Stg.next [] Y Y
 refine Stg.fin [] Y Y qz ?_
 exact pk (HK1 _ b_5 _ H.self) [9, 0, 8] [0, 1] Y
 refine eo Y (ea (cs := [_, _, _, _, _, _]) hT Y Y H) ?_
 rintro _ _ ⟨b_6, _, rfl, rfl, he3, H⟩
 apply Stg.next [(9, _)] Y Y
 refine Stg.go (ra 6 ++ [7, 8, 9, 10, 11, 12]) [6] Y Y (q_ Y (q_ Y (q_ Y (qq Y (s_ 3 [_, _, _] Y) Y (q_ Y (qq Y (s_ 2 [_, _, _] Y) Y (q_ Y (q_ Y (q_ Y (qq Y (s_ 3 [_, _, _] Y) Y (q_ Y (qq Y (s_ 2 [_, _, _] Y) Y qz)))))))))))) (eo Y (EffX.callF (bs := []) (cs := []) (f := 135) (sh := fun h => ratio_Mul _ _ _ h _) (H0 := H.self) Y Y Tryz.call135 Y (hl := fun w m hr hw => lift_ratio_Mul _ _ _ w m hr _ hw)) ?_)
 rintro _ _ ⟨v_3, h9, rfl, rfl, H⟩
 apply Stg.next [(16, _)] Y Y
 refine Stg.go [7, 8, 9, 10, 11, 12] [13] Y Y (q_ Y (q_ Y (q_ Y (qq Y (s_ 3 [_, _, _] Y) Y (q_ Y (qq Y (s_ 2 [_, _, _] Y) Y qz)))))) (eo Y (EffX.callF (bs := []) (cs := []) (f := 135) (sh := fun h => ratio_Mul _ _ _ h _) (H0 := H.self) Y Y Tryz.call135 Y (hl := fun w m hr hw => lift_ratio_Mul _ _ _ w m hr _ hw)) ?_)
 rintro _ _ ⟨v_4, h11, rfl, rfl, H⟩
 apply Stg.next [(23, _), (24, _)] Y Y
 refine Stg.go [14] [16] Y Y (qq Y (qb (cs := [_, _, _, _, _, _]) hT Y Y Y Y Y Y) Y qz) (eo Y (es (i := 0) (qv := [(_, [_, _, _, _, _, _]), (_, [_, _, _, _, _, _]), (_, [_, _, _, _, _, _]), (_, [_, _, _, _, _, _])]) hT Y Y Y Y Y Y Y Y Y Y) ?_)
 rintro _ _ rfl
 apply Stg.next [] Y Y
 refine Stg.fin [] Y Y qz ?_
 exact pk (HK1 _ b_6 _ H.self) [9, 0, 8] [0, 1] Y
theorem lift_delta_Scale (b : (Option Addr)) (k : Bool × Sl × Sl) (x0 : Bool × Sl × Sl × Bool × Sl × Sl) : Lf Tryz.prog 81 [Value.pointer b, Value.agg (C_bool_sl_sl k).toArray, Value.agg (C_bool_sl_sl_bool_sl_sl x0).toArray] (fun r => Value.agg (C_bool_sl_sl_bool_sl_sl r).toArray) (delta_Scale b k x0) := by
 refine Lf.go Tryz.func81 Tryz.ntmps81 Y Y [0, 1, 2] Y fun w m S H => ?_
 unfold delta_Scale at H
 refine sR (bx [_, _, _] H Y Y Y Y fun b_1 _ H => bx [_, _, _, _, _, _] H Y Y Y Y fun b_2 _ H => al hT [_, _, _, _, _, _] H Y Y Y fun b_3 _ H => nl (tg (sR (p_ 1 Y ?_))))
 refine lq Y (s_ 2 [_, _, _] Y) (lq Y (s_ 2 [_, _, _] Y) (lq Y (qb (cs := [_, _, _, _, _, _]) hT Y Y Y Y Y Y) (lq Y (s_ 1 [_, _, _, _, _, _] Y) (lc (lift_delta_both__ratio_Mul _ _ _) H.self Tryz.call130 Y fun v h1 H => sp hT 0 [(_, [_, _, _, _, _, _]), (_, [_, _, _, _, _, _]), (_, [_, _, _])] Y Y Y Y Y Y Y Y Y Y Y fun _ => ng (rt ?_)))))
 exact rc (i := 0) hT [_, _, _, _, _, _] Y Y Y Y Y Y Y Y Y H
theorem lift_delta_both__ratio_Add (b : (Option Addr)) (x0 : Bool × Sl × Sl × Bool × Sl × Sl) (y : Bool × Sl × Sl × Bool × Sl × Sl) : Lf Tryz.prog 130 [Value.pointer b, Value.func (.func 134) #[] #[], Value.agg (C_bool_sl_sl_bool_sl_sl x0).toArray, Value.agg (C_bool_sl_sl_bool_sl_sl y).toArray] (fun r => Value.agg (C_bool_sl_sl_bool_sl_sl r).toArray) (delta_both__ratio_Add b x0 y) := by
 refine Lf.go Tryz.func130 Tryz.ntmps130 Y Y [0, 1, 2, 3] Y fun w m S H => ?_
 unfold delta_both__ratio_Add at H
 refine sR (bx [_, _, _, _, _, _] H Y Y Y Y fun b_1 _ H => bx [_, _, _, _, _, _] H Y Y Y Y fun b_2 _ H => al hT [_, _, _, _, _, _] H Y Y Y fun b_3 _ H => nl (tg ?_))
 refine AtC.joinSeq (β := Nat) (fun (t0 : Bool × Sl × Sl × Bool × Sl × Sl) (bb : Nat) => [(9, Value.pointer (some ⟨bb, 0, none⟩))]) (fun (t0 : Bool × Sl × Sl × Bool × Sl × Sl) (bb : Nat) => [(bb, [Value.bool t0.1, Sl.toV t0.2.1, Sl.toV t0.2.2.1, Value.bool t0.2.2.2.1, Sl.toV t0.2.2.2.2.1, Sl.toV t0.2.2.2.2.2])]) [0, 8] [0] H.self Y Y (fun t0 bb h1 H => ?_) (fun J1 H HK1 => ?_)
 refine cs (sR (p_ 1 Y (lc (lift_nat_Bench_Over _) H Tryz.call30 Y fun v_5 h13 H => ng ?_)))
 refine cb H Y (fun H => ?_) (fun H => ?_)
 refine sR (lq Y (qb (cs := [_, _, _, _, _, _]) hT Y Y Y Y Y Y) (sp hT 1 [(_, [_, _, _, _, _, _]), (_, [_, _, _, _, _, _])] Y Y Y Y Y Y Y Y Y Y Y fun _ => ng (rt (tr ?_))))
 exact rc (i := 1) hT [_, _, _, _, _, _] Y Y Y Y Y Y Y Y Y H
 refine sk (tg (sR (lq Y (s_ 0 [_, _, _, _, _, _] Y) (sp hT 1 [(_, [_, _, _, _, _, _]), (_, [_, _, _, _, _, _])] Y Y Y Y Y Y Y Y Y Y Y fun _ => ng (rt ?_)))))
 exact rc (i := 1) hT [_, _, _, _, _, _] Y Y Y Y Y Y Y Y Y H
 apply AtC.stages [6, 13, 15, 16] A3u0 G3u0 hmix (by kernel_rfl) (nm 10 [_, _, _, _, _, _] ++ nm 17 [_, _, _, _, _, _]) Y 4 Y
 refine Stg.go (ra 6 ++ [7, 8, 9, 10, 11, 12]) [6, 15] Y Y (q_ Y (q_ Y (q_ Y (qq Y (s_ 2 [_, _, _] Y) Y (q_ Y (qq Y (s_ 1 [_, _, _] Y) Y (q_ Y (q_ Y (q_ Y (qq Y (s_ 2 [_, _, _] Y) Y (q_ Y (qq Y (s_ 1 [_, _, _] Y) Y qz)))))))))))) ?_
 refine EAll.cons ?_ ?_
 refine EOp.e Y Y Y (EffX.callF (bs := []) (cs := []) (f := 134) (sh := fun h => ratio_Add _ _ _ h _) (H0 := H.self) Y Y Tryz.call134 Y (hl := fun w m hr hw => lift_ratio_Add _ _ _ w m hr _ hw)) ?_
 rintro _ _ ⟨v, h3, rfl, rfl, H⟩
 apply Stg.next [(16, _)] Y Y
 refine Stg.go [7, 8, 9, 10, 11, 12] [13, 15] Y Y (q_ Y (q_ Y (q_ Y (qq Y (s_ 2 [_, _, _] Y) Y (q_ Y (qq Y (s_ 1 [_, _, _] Y) Y qz)))))) ?_
 refine EAll.cons ?_ ?_
 refine EOp.e Y Y Y (EffX.callF (bs := []) (cs := []) (f := 134) (sh := fun h => ratio_Add _ _ _ h _) (H0 := H.self) Y Y Tryz.call134 Y (hl := fun w m hr hw => lift_ratio_Add _ _ _ w m hr _ hw)) ?_
 rintro _ _ ⟨v_1, h5, rfl, rfl, H⟩
 apply Stg.next [(23, _), (24, _)] Y Y
 refine Stg.go [14] [15] Y Y (qq Y (qb (cs := [_, _, _, _, _, _]) hT Y Y Y Y Y Y) Y qz) (eo Y (ea (cs := [_, _, _, _, _, _]) hT Y Y H) ?_)
 rintro _ _ ⟨b_4, _, rfl, rfl, he1, H⟩
 apply Stg.next [(9, _)] Y Y
 refine Stg.go [14] [16] Y Y (qq Y (qb (cs := [_, _, _, _, _, _]) hT Y Y Y Y Y Y) Y qz) (eo Y (es (i := 0) (qv := [(_, [_, _, _, _, _, _]), (_, [_, _, _, _, _, _]), (_, [_, _, _, _, _, _]), (_, [_, _, _, _, _, _])]) hT Y Y Y Y Y Y Y Y Y Y) ?_)
 rintro _ _ rfl
 apply Stg.next [] Y Y
 refine Stg.fin [] Y Y qz ?_
 exact pk (HK1 _ b_4 _ H.self) [9, 0, 8] [0, 1] Y
 refine eo Y (ea (cs := [_, _, _, _, _, _]) hT Y Y H) ?_
 rintro _ _ ⟨b_5, _, rfl, rfl, he2, H⟩
 apply Stg.next [(9, _)] Y Y
 refine Stg.go [7, 8, 9, 10, 11, 12] [13] Y Y (q_ Y (q_ Y (q_ Y (qq Y (s_ 3 [_, _, _] Y) Y (q_ Y (qq Y (s_ 2 [_, _, _] Y) Y qz)))))) (eo Y (EffX.callF (bs := []) (cs := []) (f := 134) (sh := fun h => ratio_Add _ _ _ h _) (H0 := H.self) Y Y Tryz.call134 Y (hl := fun w m hr hw => lift_ratio_Add _ _ _ w m hr _ hw)) ?_)
 rintro _ _ ⟨v_2, h7, rfl, rfl, H⟩
 apply Stg.next [(23, _), (24, _)] Y Y
 refine Stg.go [14] [16] Y Y (qq Y (qb (cs := [_, _, _, _, _, _]) hT Y Y Y Y Y Y) Y qz) (eo Y (es (i := 0) (qv := [(_, [_, _, _, _, _, _]), (_, [_, _, _, _, _, _]), (_, [_, _, _, _, _, _]), (_, [_, _, _, _, _, _])]) hT Y Y Y Y Y Y Y Y Y Y) ?_)
 rintro _ _ rfl
 apply Stg.next [] Y Y
 refine Stg.fin [] Y Y qz ?_
 exact pk (HK1 _ b_5 _ H.self) [9, 0, 8] [0, 1] Y
 refine eo Y (ea (cs := [_, _, _, _, _, _]) hT Y Y H) ?_
 rintro _ _ ⟨b_6, _, rfl, rfl, he3, H⟩
 apply Stg.next [(9, _)] Y Y
 refine Stg.go (ra 6 ++ [7, 8, 9, 10, 11, 12]) [6] Y Y (q_ Y (q_ Y (q_ Y (qq Y (s_ 3 [_, _, _] Y) Y (q_ Y (qq Y (s_ 2 [_, _, _] Y) Y (q_ Y (q_ Y (q_ Y (qq Y (s_ 3 [_, _, _] Y) Y (q_ Y (qq Y (s_ 2 [_, _, _] Y) Y qz)))))))))))) (eo Y (EffX.callF (bs := []) (cs := []) (f := 134) (sh := fun h => ratio_Add _ _ _ h _) (H0 := H.self) Y Y Tryz.call134 Y (hl := fun w m hr hw => lift_ratio_Add _ _ _ w m hr _ hw)) ?_)
 rintro _ _ ⟨v_3, h9, rfl, rfl, H⟩
 apply Stg.next [(16, _)] Y Y
 refine Stg.go [7, 8, 9, 10, 11, 12] [13] Y Y (q_ Y (q_ Y (q_ Y (qq Y (s_ 3 [_, _, _] Y) Y (q_ Y (qq Y (s_ 2 [_, _, _] Y) Y qz)))))) (eo Y (EffX.callF (bs := []) (cs := []) (f := 134) (sh := fun h => ratio_Add _ _ _ h _) (H0 := H.self) Y Y Tryz.call134 Y (hl := fun w m hr hw => lift_ratio_Add _ _ _ w m hr _ hw)) ?_)
 rintro _ _ ⟨v_4, h11, rfl, rfl, H⟩
 apply Stg.next [(23, _), (24, _)] Y Y
 refine Stg.go [14] [16] Y Y (qq Y (qb (cs := [_, _, _, _, _, _]) hT Y Y Y Y Y Y) Y qz) (eo Y (es (i := 0) (qv := [(_, [_, _, _, _, _, _]), (_, [_, _, _, _, _, _]), (_, [_, _, _, _, _, _]), (_, [_, _, _, _, _, _])]) hT Y Y Y Y Y Y Y Y Y Y) ?_)
 rintro _ _ rfl
 apply Stg.next [] Y Y
 refine Stg.fin [] Y Y qz ?_
 exact pk (HK1 _ b_6 _ H.self) [9, 0, 8] [0, 1] Y
theorem lift_delta_Add (b : (Option Addr)) (x0 : Bool × Sl × Sl × Bool × Sl × Sl) (y : Bool × Sl × Sl × Bool × Sl × Sl) : Lf Tryz.prog 80 [Value.pointer b, Value.agg (C_bool_sl_sl_bool_sl_sl x0).toArray, Value.agg (C_bool_sl_sl_bool_sl_sl y).toArray] (fun r => Value.agg (C_bool_sl_sl_bool_sl_sl r).toArray) (delta_Add b x0 y) := by
 refine Lf.go Tryz.func80 Tryz.ntmps80 Y Y [0, 1, 2] Y fun w m S H => ?_
 unfold delta_Add at H
 refine sR (bx [_, _, _, _, _, _] H Y Y Y Y fun b_1 _ H => bx [_, _, _, _, _, _] H Y Y Y Y fun b_2 _ H => al hT [_, _, _, _, _, _] H Y Y Y fun b_3 _ H => nl (tg (sR (p_ 1 Y ?_))))
 refine lq Y (s_ 2 [_, _, _, _, _, _] Y) (lq Y (s_ 1 [_, _, _, _, _, _] Y) (lc (lift_delta_both__ratio_Add _ _ _) H.self Tryz.call130 Y fun v h1 H => sp hT 0 [(_, [_, _, _, _, _, _]), (_, [_, _, _, _, _, _]), (_, [_, _, _, _, _, _])] Y Y Y Y Y Y Y Y Y Y Y fun _ => ng (rt ?_)))
 exact rc (i := 0) hT [_, _, _, _, _, _] Y Y Y Y Y Y Y Y Y H
theorem lift_tableau_Update (b : (Option Addr)) (t0 : (Option Addr)) (v : Int) (x0 : Bool × Sl × Sl × Bool × Sl × Sl) : Lf Tryz.prog 28 [Value.pointer b, Value.pointer t0, Value.int .i64 v, Value.agg (C_bool_sl_sl_bool_sl_sl x0).toArray] (Value.int .i64) (tableau_Update b t0 v x0) := by
 refine Lf.go Tryz.func28 Tryz.ntmps28 Y Y [0, 1, 2, 3] Y fun w m S H => ?_
 unfold tableau_Update at H
 refine sR (bx [_, _, _, _, _, _] H Y Y Y Y fun b_1 _ H => p_ 1 Y (ng (cs ?_)))
 refine AtC.joinSeq (β := Unit) (fun (t0u1 : Bool) (bb : Unit) => [(32, Value.bool t0u1)]) (fun (t0u1 : Bool) (bb : Unit) => []) [0, 1, 2, 7] [0] H.self Y Y (fun t0u1 bb h1 H => ?_) (fun J1 H HK1 => ?_)
 refine cb H Y (fun H => ?_) (fun H => ?_)
 refine sR (p_ 1 Y (ng (rt (tr ?_))))
 exact r1 8 Y Y Y H
 refine sk (tg ?_)
 refine AtC.joinSeq (β := Nat) (fun (t0u2 : Bool × Sl × Sl × Bool × Sl × Sl) (bb_1 : Nat) => [(9, Value.pointer (some ⟨bb_1, 0, none⟩))]) (fun (t0u2 : Bool × Sl × Sl × Bool × Sl × Sl) (bb_1 : Nat) => [(bb_1, [Value.bool t0u2.1, Sl.toV t0u2.2.1, Sl.toV t0u2.2.2.1, Value.bool t0u2.2.2.2.1, Sl.toV t0u2.2.2.2.2.1, Sl.toV t0u2.2.2.2.2.2])]) [0, 1, 2, 7] [0] H Y Y (fun t0u2 bb_1 h3 H => ?_) (fun J6 H HK6 => ?_)
 obtain ⟨a_4, hc12, H⟩ := H
 obtain ⟨v_8, hc13, H⟩ := H
 obtain ⟨a_5_, hc14, hd14, H⟩ := H
 apply AtC.seqS [7] (rl [([], 8)]) [[], [0], [0, 1], [0, 1, 2], [], [], (ra 6), (ra 7)] hmix (by kernel_rfl) (nm 43 [_, _, _, _, _, _, _]) Y 1 Y
 refine Stg.go (ra 7) [7] Y Y (q_ Y (qq Y (qc Y Y hc12) Y (q_ Y (qq Y (ql hT Y Y Y hc13) Y (q_ Y (qq Y (s_ 1 [_, _, _, _, _, _] Y) Y (qq Y (qi hT Y Y Y Y Y hc14 hd14) Y qz))))))) (eo Y (EffX.storeS hT Y Y Y Y Y Y H) ?_)
 rintro _ _ ⟨h9, rfl, H⟩
 apply Stg.next [] Y Y
 refine Stg.fin [] Y Y qz (tg (cs (sR (p_ 1 Y (nk H Y Y Y fun _ H => p_ 1 Y (ld hT H Y Y Y Y fun _ H => ?_))))))
 refine p_ 2 Y (ng (ck ?_))
 refine AtC.loopM (fun (s0 : Int) => [(55, Value.int .i64 s0)]) (fun (s0 : Int) => []) [0, 1, 2, 9, 53, 54] [55, 0, 1, 2, 9, 53, 54] [0] [0] H Y Y Y (by decide) Y (fun Kp18 s0 h10 H Q18 HK18 => ?_)
 refine sR (p_ 1 Y (ng (cs ?_)))
 refine cb H Y (fun H => ?_) (fun H => ?_)
 refine sk (tg ?_)
 refine AtC.joinSeq (β := Unit) (fun (t0u3 : Unit) (bb_2 : Unit) => []) (fun (t0u3 : Unit) (bb_2 : Unit) => []) [0, 1, 2, 9, 53, 54, 55] [0] H Y Y (fun t0u3 bb_2 h11 H => ?_) (fun J19 H HK19 => ?_)
 refine rg (p_ 2 Y (nl ?_))
 exact pk (HK18 _ _ H) [55, 0, 1, 2, 9, 53, 54] [0] Y
 refine ck (sR (p_ 1 Y (ix hT H Y Y Y Y Y Y fun _ H => lds hT H Y Y Y Y Y fun _ H => al hT [_, _, _, _] H Y Y Y fun b_4 _ H => p_ 1 Y (sp hT 0 [(_, [_, _, _, _]), (_, [_, _, _, _, _, _])] Y Y Y Y Y Y Y Y Y Y Y fun _ => ?_))))
 refine ng (sR (lq Y (s_ 0 [_, _, _, _] Y) (p_ 1 Y (lc (lift_tableau_coef _ _) H.self Tryz.call79 Y fun v_11 h13 H => al hT [_, _, _] H Y Y Y fun b_5 _ H => sp hT 0 [(_, [_, _, _]), (_, [_, _, _, _]), (_, [_, _, _, _, _, _])] Y Y Y Y Y Y Y Y Y Y Y fun _ => ng ?_))))
 refine sR (lq Y (s_ 0 [_, _, _] Y) (lc (lift_ratio_Sign _) H.self Tryz.call43 Y fun v_12 h15 H => p_ 1 Y (ng ?_)))
 refine cb H Y (fun H => ?_) (fun H => ?_)
 refine sR (p_ 1 Y (nk H Y Y Y fun _ H => p_ 1 Y (ld hT H Y Y Y Y fun _ H => p_ 1 Y (ix hT H Y Y Y Y Y Y fun _ H => ld hT H Y Y Y Y fun _ H => ?_))))
 refine p_ 1 Y (ng ?_)
 obtain ⟨a_10, hc25, H⟩ := H
 obtain ⟨v_15, hc26, H⟩ := H
 obtain ⟨a_11, hc27, H⟩ := H
 obtain ⟨v_16, hc28, H⟩ := H
 obtain ⟨a_12_, hc29, hd29, H⟩ := H
 obtain ⟨v_17, hc30, H⟩ := H
 apply AtC.stages [16, 17, 19] (rl [([], 17), ([16], 1), ([16, 17], 2)]) [[], [0], [0, 1], [0, 1, 2], [], [], [], [6], [6, 7], [6, 7, 8], [], [6, 7, 8, 9, 10], [6, 7, 8, 9, 10, 11], [], [], [], [13, 14, 15], [5, 6, 7, 8, 9, 10, 11, 12, 13, 14, 15, 16], (ra 18), (ra 19)] hmix (by kernel_rfl) (nm 73 [_, _, _, _, _, _, _, _, _, _, _, _, _, _, _, _]) Y 3 Y
 refine Stg.go (ra 16) [16] Y Y (q_ Y (qq Y (qc Y Y hc25) Y (q_ Y (qq Y (ql hT Y Y Y hc26) Y (q_ Y (q_ Y (q_ Y (qq Y (qc Y Y hc27) Y (q_ Y (qq Y (ql hT Y Y Y hc28) Y (q_ Y (qq Y (qi hT Y Y Y Y Y hc29 hd29) Y (qq Y (qs hT Y Y Y Y hc30) Y (q_ Y (qq Y (s_ 0 [_, _, _] Y) Y (qq Y (s_ 2 [_, _, _, _, _, _] Y) Y qz)))))))))))))))) (ec (lift_delta_Scale _ _ _) H Tryz.call81 Y fun v_18 h16 H => ?_)
 obtain ⟨hc31, H⟩ := H
 obtain ⟨hc32, H⟩ := H
 obtain ⟨hc33, H⟩ := H
 apply Stg.next [(89, _)] Y Y
 refine Stg.go (ra 13) [17] Y Y (q_ Y (qq Y (qc Y Y hc25) Y (q_ Y (qq Y (ql hT Y Y Y hc31) Y (q_ Y (q_ Y (q_ Y (qq Y (qc Y Y hc27) Y (q_ Y (qq Y (ql hT Y Y Y hc32) Y (q_ Y (qq Y (qi hT Y Y Y Y Y hc29 hd29) Y (qq Y (qs hT Y Y Y Y hc33) Y qz))))))))))))) (ec (lift_delta_Add _ _ _) H Tryz.call80 Y fun v_19 h17 H => ?_)
 obtain ⟨hc34, H⟩ := H
 obtain ⟨a_13_, hc35, hd35, H⟩ := H
 apply Stg.next [(90, _), (91, _)] Y Y
 refine Stg.go [0, 1, 2, 3, 4, 18] [19] Y Y (q_ Y (qq Y (qc Y Y hc25) Y (q_ Y (qq Y (ql hT Y Y Y hc34) Y (q_ Y (qq Y (qi hT Y Y Y Y Y hc35 hd35) Y qz)))))) (eo Y (EffX.storeS hT Y Y Y Y Y Y H) ?_)
 rintro _ _ ⟨h18, rfl, H⟩
 apply Stg.next [] Y Y
 refine Stg.fin [] Y Y qz (bn ?_)
 exact pk (HK19 _ () _ H) [0, 1, 2, 9, 53, 54, 55] [2] Y
 refine sk (bn ?_)
 exact pk (HK19 _ () _ H) [0, 1, 2, 9, 53, 54, 55] [2] Y
 refine xt (tx (tx (bh (tg (sR (p_ 1 Y (lc (lift_tableau_over _) H Tryz.call82 Y fun v_20 h19 H => ?_)))))))
 refine p_ 1 Y (ng (rt ?_))
 exact r1 8 Y Y Y H
 obtain ⟨a_2, hc6, H⟩ := H
 obtain ⟨v_4, hc7, H⟩ := H
 obtain ⟨a_3_, hc8, hd8, H⟩ := H
 obtain ⟨v_5, hc9, H⟩ := H
 apply AtC.stages [9, 10, 11] (rl [([], 11), ([9, 10], 1)]) [[], [], [], [2], [2, 3], [2, 3, 4], [], [2, 3, 4, 5, 6], [2, 3, 4, 5, 6, 7], (ra 9), [], (ra 11)] hmix (by kernel_rfl) (nm 33 [_, _, _, _, _, _, _, _, _]) Y 3 Y
 refine Stg.go (ra 9) [9, 10] Y Y (q_ Y (qq Y (s_ 0 [_, _, _, _, _, _] Y) Y (q_ Y (qq Y (qc Y Y hc6) Y (q_ Y (qq Y (ql hT Y Y Y hc7) Y (q_ Y (qq Y (qi hT Y Y Y Y Y hc8 hd8) Y (qq Y (qs hT Y Y Y Y hc9) Y qz))))))))) ?_
 refine EAll.cons ?_ ?_
 refine EOp.e Y Y Y (cl (fun h => delta_Sub _ _ _ h _) H.self Y Tryz.call78 Y (fun w m hr hw => lift_delta_Sub _ _ _ w m hr _ hw)) ?_
 rintro _ _ ⟨v_6, h5, rfl, rfl, H⟩
 apply Stg.next [(42, _)] Y Y
 refine Stg.go [] [10] Y Y qz (eo Y (ea (cs := [_, _, _, _, _, _]) hT Y Y H) ?_)
 rintro _ _ ⟨b_2, _, rfl, rfl, he10, H⟩
 apply Stg.next [(9, _)] Y Y
 refine Stg.go [] [11] Y Y qz (eo Y (es (i := 0) (qv := [(_, [_, _, _, _, _, _]), (_, [_, _, _, _, _, _])]) hT Y Y Y Y Y Y Y Y Y Y) ?_)
 rintro _ _ rfl
 apply Stg.next [] Y Y
 refine Stg.fin [] Y Y qz ?_
 exact pk (HK6 _ b_2 _ H.self) [9, 0, 1, 2, 7] [0, 1] Y
 refine eo Y (ea (cs := [_, _, _, _, _, _]) hT Y Y H) ?_
 rintro _ _ ⟨b_3, _, rfl, rfl, he11, H⟩
 replace hc7 := he11.cell hc7
 replace hc9 := he11.cells hc9
 apply Stg.next [(9, _)] Y Y
 refine Stg.go (ra 9) [9] Y Y (q_ Y (qq Y (s_ 1 [_, _, _, _, _, _] Y) Y (q_ Y (qq Y (qc Y Y hc6) Y (q_ Y (qq Y (ql hT Y Y Y hc7) Y (q_ Y (qq Y (qi hT Y Y Y Y Y hc8 hd8) Y (qq Y (qs hT Y Y Y Y hc9) Y qz))))))))) (ec (lift_delta_Sub _ _ _) H.self Tryz.call78 Y fun v_7 h7 H => ?_)
 apply Stg.next [(42, _)] Y Y
 refine Stg.go [] [11] Y Y qz (eo Y (es (i := 0) (qv := [(_, [_, _, _, _, _, _]), (_, [_, _, _, _, _, _])]) hT Y Y Y Y Y Y Y Y Y Y) ?_)
 rintro _ _ rfl
 apply Stg.next [] Y Y
 refine Stg.fin [] Y Y qz ?_
 exact pk (HK6 _ b_3 _ H.self) [9, 0, 1, 2, 7] [0, 1] Y
 refine rg (p_ 3 Y ?_)
 refine AtL.splitB (t := 16) H Y (fun H => ?_) (fun H => ?_)
 refine p_ 16 Y (nl ?_)
 exact pk (HK1 _ () _ H) [32, 0, 1, 2, 7] [0] Y
 refine p_ 5 Y (nk H Y Y Y fun _ H => p_ 3 Y (ld hT H Y Y Y Y fun _ H => p_ 6 Y ?_))
 refine AtL.splitB (t := 25) H Y (fun H => ?_) (fun H => ?_)
 refine p_ 7 Y (nl ?_)
 exact pk (HK1 _ () _ H) [32, 0, 1, 2, 7] [0] Y
 refine p_ 3 Y (nk H Y Y Y fun _ H => p_ 1 Y (lds hT H Y Y Y Y Y fun _ H => p_ 3 Y (lc (lift_tableau_Row _ _) H Tryz.call33 Y fun v_3 h2 H => p_ 3 Y (nl ?_))))
 exact pk (HK1 _ () _ H) [32, 0, 1, 2, 7] [0] Y
theorem lift_ref14uRow (t0 : Sl × Sl × Sl × Sl × Sl) (v : Int) : Lf Tryz.prog 34 [Value.agg (C_sl_sl_sl_sl_sl t0).toArray, Value.int .i64 v] (Value.int .i64) (ref14uRow t0 v) := by
 refine Lf.go Tryz.func34 Tryz.ntmps34 Y Y [0, 1] Y fun w m S H => ?_
 unfold ref14uRow at H
 refine sR (bx [_, _, _, _, _] H Y Y Y Y fun b _ H => p_ 1 Y (ng (cs (sR (p_ 1 Y (ng ?_))))))
 refine ck ?_
 refine AtC.loopM (fun (s0 : Int) => [(5, Value.int .i64 s0)]) (fun (s0 : Int) => []) [1, 2] [5, 1, 2] [0] [0] H.self Y Y Y (by decide) Y (fun Kp1 s0 h1 H Q1 HK1 => ?_)
 refine cs (sR (p_ 2 Y (lq Y (l_ 0 Y) (p_ 2 Y (ng ?_)))))
 refine cb H Y (fun H => ?_) (fun H => ?_)
 refine sk (tg (cs (ck (sR (p_ 1 Y (lq Y (l_ 0 Y) (p_ 1 Y ?_)))))))
 refine ix hT H Y Y Y Y Y Y fun _ H => ld hT H Y Y Y Y fun _ H => p_ 2 Y (ng ?_)
 refine cb H Y (fun H => ?_) (fun H => ?_)
 refine sR (p_ 2 Y (ng (rt (br (tr (tr (br ?_)))))))
 refine tr ?_
 exact r1 4 Y Y Y H
 refine sk (bn (tg (rg (p_ 3 Y (nl ?_)))))
 exact pk (HK1 _ _ (H _ rfl)) [5, 1, 2] [0] Y
 refine xt (tx (tx (bh (tg (sR (p_ 1 Y (ng ?_)))))))
 refine rt ?_
 exact r1 4 Y Y Y H
theorem lift_ref03uOf (x0 : Bool × Sl × Sl × Bool × Sl × Sl) : Lf Tryz.prog 16 [Value.agg (C_bool_sl_sl_bool_sl_sl x0).toArray] (fun r => Value.agg (C_bool_sl_sl_bool_sl_sl r).toArray) (ref03uOf x0) := by
 refine Lf.go Tryz.func16 Tryz.ntmps16 Y Y [0] Y fun w m S H => ?_
 unfold ref03uOf at H
 refine sR (bx [_, _, _, _, _, _] H Y Y Y Y fun b _ H => al hT [_, _, _, _, _, _] H Y Y Y fun b_1 _ H => nl (tg ?_))
 replace H := H.self
 apply AtC.seqS [2, 5, 7] A3u1 G3u1 hmix (by kernel_rfl) [(3, _), (4, _), (6, _), (7, _)] Y 3 Y
 refine Stg.go [0, 1, 3, 4] [2] Y Y (q_ Y (qq Y (s_ 1 [_, _, _] Y) Y (q_ Y (qq Y (s_ 1 [_, _, _] Y) Y qz)))) (ec (lift_ref02uOf _) H Tryz.call36 Y fun v h1 H => ?_)
 apply Stg.next [(5, _)] Y Y
 refine Stg.go [3, 4] [5] Y Y (q_ Y (qq Y (s_ 1 [_, _, _] Y) Y qz)) (ec (lift_ref02uOf _) H Tryz.call36 Y fun v_1 h2 H => ?_)
 apply Stg.next [(8, _), (9, _)] Y Y
 refine Stg.go [6] [7] Y Y (qq Y (qb (cs := [_, _, _, _, _, _]) hT Y Y Y Y Y Y) Y qz) (eo Y (es (i := 0) (qv := [(_, [_, _, _, _, _, _]), (_, [_, _, _, _, _, _])]) hT Y Y Y Y Y Y Y Y Y Y) ?_)
 rintro _ _ rfl
 apply Stg.next [] Y Y
 refine Stg.fin [] Y Y qz (tg (rt ?_))
 exact rc (i := 0) hT [_, _, _, _, _, _] Y Y Y Y Y Y Y Y Y H
theorem lift_ref01uMul (x0 : Sl) (y : Sl) : Lf Tryz.prog 117 [Sl.toV x0, Sl.toV y] Sl.toV (ref01uMul x0 y) := by
 refine Lf.go Tryz.func117 Tryz.ntmps117 Y Y [0, 1] Y fun w m S H => ?_
 unfold ref01uMul at H
 refine sR (p_ 1 Y (ng (sR (p_ 6 Y (le Y (EffX.mkS hT Y Y Y Y Y Y Y Y (by decide) (H _ rfl)) ?_)))))
 rintro _ _ ⟨v, h0, rfl, rfl, H⟩
 refine p_ 1 Y (ng (cs (sR (p_ 1 Y (ng (ck ?_))))))
 refine AtC.loopM (fun (s0 : Int) => [(6, Value.int .i64 s0)]) (fun (s0 : Int) => []) [0, 1, 5] [6, 0, 1, 5] [] [] H Y Y Y (by decide) Y (fun Kp1 s0 h1 H Q1 HK1 => ?_)
 refine cs (sR (p_ 4 Y (ng ?_)))
 refine cb H Y (fun H => ?_) (fun H => ?_)
 refine sk (tg (cs (ck (sR (p_ 1 Y (ng (sR ?_)))))))
 refine p_ 1 Y (ng (ck ?_))
 refine AtC.loopM (fun (s0u1 : Int × Int) => [(7, Value.int .i64 s0u1.1), (8, Value.int .i64 s0u1.2)]) (fun (s0u1 : Int × Int) => []) [0, 1, 5, 6] [7, 8, 0, 1, 5, 6] [] [] H Y Y Y (by decide) Y (fun Kp2 s0u1 h2 H Q2 HK2 => ?_)
 refine cs ?_
 refine AtC.joinSeq (β := Unit) (fun (t0 : Bool) (bb : Unit) => [(30, Value.bool t0)]) (fun (t0 : Bool) (bb : Unit) => []) [0, 1, 5, 6, 7, 8] [] H Y Y (fun t0 bb h3 H => ?_) (fun J3 H HK3 => ?_)
 refine cb H Y (fun H => ?_) (fun H => ?_)
 refine sk (tg (cs (ck (sR (p_ 4 Y (ix hT H Y Y Y Y Y Y fun _ H => ld hT H Y Y Y Y fun _ H => ?_))))))
 refine p_ 3 Y (ng ?_)
 refine AtC.joinSeq (β := Unit) (fun (t0u1 : Int) (bb_1 : Unit) => [(9, Value.int .i64 t0u1)]) (fun (t0u1 : Int) (bb_1 : Unit) => []) [0, 1, 5, 6, 8] [] (H _ rfl) Y Y (fun t0u1 bb_1 h4 H => ?_) (fun J6 H HK6 => ?_)
 refine sR (p_ 6 Y (ix hT H Y Y Y Y Y Y fun _ H => le Y (EffX.store hT Y Y Y Y Y H) ?_))
 rintro _ _ ⟨h5, rfl, H⟩
 refine ng (rg (p_ 3 Y (nl (bn (tg (rg (p_ 3 Y ?_)))))))
 replace H := H _ rfl
 refine nl ?_
 exact pk (HK2 _ _ (H _ rfl)) [7, 8, 0, 1, 5, 6] [] Y
 refine sR (p_ 4 Y (ng ?_))
 refine cb H Y (fun H => ?_) (fun H => ?_)
 refine AtC.draw hmix (by kernel_rfl) (AtD.pures hT 3 _ _ _ _ Y ?_)
 obtain ⟨a_1_, hc6, hd6, H⟩ := H
 refine AtD.q Y (qi hT Y Y Y Y Y hc6 hd6) ?_
 obtain ⟨v_2, hc7, H⟩ := H
 refine AtD.q Y (ql hT Y Y Y hc7) (AtD.pures hT 2 _ _ _ _ Y ?_)
 obtain ⟨a_2_, hc8, hd8, H⟩ := H
 refine AtD.q Y (qi hT Y Y Y Y Y hc8 hd8) ?_
 obtain ⟨v_3, hc9, H⟩ := H
 refine AtD.q Y (ql hT Y Y Y hc9) (AtD.pures hT 3 _ _ _ _ Y (AtD.nil ?_))
 exact pk (HK6 _ () _ (H _ rfl)) [9, 0, 1, 5, 6, 8] [] Y
 refine sk ?_
 exact pk (HK6 _ () _ H) [9, 0, 1, 5, 6, 8] [] Y
 refine xt (tx (tx (bh (bn (tg (rg (p_ 3 Y ?_)))))))
 refine nl ?_
 exact pk (HK1 _ _ (H _ rfl)) [6, 0, 1, 5] [] Y
 refine rg (p_ 5 Y ?_)
 refine AtL.splitB (t := 27) H Y (fun H => ?_) (fun H => ?_)
 refine p_ 3 Y (nl ?_)
 exact pk (HK3 _ () _ H) [30, 0, 1, 5, 6, 7, 8] [] Y
 refine p_ 5 Y (nl ?_)
 exact pk (HK3 _ () _ H) [30, 0, 1, 5, 6, 7, 8] [] Y
 refine xt (tx (tx (bh (tg (sR (p_ 1 Y (lc (lift_ref01uCut _) H Tryz.call142 Y fun v_4 h6 H => ?_)))))))
 refine p_ 1 Y (ng (rt ?_))
 exact r1 4 Y Y Y H
theorem lift_ref02uMul (x0 : Bool × Sl × Sl) (y : Bool × Sl × Sl) : Lf Tryz.prog 51 [Value.agg (C_bool_sl_sl x0).toArray, Value.agg (C_bool_sl_sl y).toArray] (fun r => Value.agg (C_bool_sl_sl r).toArray) (ref02uMul x0 y) := by
 refine Lf.go Tryz.func51 Tryz.ntmps51 Y Y [0, 1] Y fun w m S H => ?_
 unfold ref02uMul at H
 refine sR (bx [_, _, _] H Y Y Y Y fun b _ H => bx [_, _, _] H Y Y Y Y fun b_1 _ H => al hT [_, _, _] H Y Y Y fun b_2 _ H => nl (tg ?_))
 replace H := H.self
 apply AtC.seqS [9, 14, 16, 17] A3u2 G3u2 hmix (by kernel_rfl) (nm 5 [_, _, _, _, _, _, _, _, _] ++ nm 15 [_, _, _, _]) Y 4 Y
 refine Stg.go (ra 9 ++ [10, 11, 12, 13]) [9] Y Y (q_ Y (qq Y (l_ 2 Y) Y (q_ Y (qq Y (l_ 1 Y) Y (q_ Y (q_ Y (qq Y (l_ 2 Y) Y (q_ Y (qq Y (l_ 1 Y) Y (q_ Y (qq Y (l_ 2 Y) Y (q_ Y (qq Y (l_ 1 Y) Y qz))))))))))))) (ec (lift_ref01uMul _ _) H Tryz.call117 Y fun v h1 H => ?_)
 apply Stg.next [(14, _)] Y Y
 refine Stg.go [0, 1, 2, 3, 4, 10, 11, 12, 13] [14] Y Y (q_ Y (qq Y (l_ 2 Y) Y (q_ Y (qq Y (l_ 1 Y) Y (q_ Y (q_ Y (qq Y (l_ 2 Y) Y (q_ Y (qq Y (l_ 1 Y) Y qz))))))))) (ec (lift_ref01uMul _ _) H Tryz.call117 Y fun v_1 h2 H => ?_)
 apply Stg.next [(19, _), (20, _)] Y Y
 refine Stg.go [0, 1, 2, 3, 4, 15] [16] Y Y (q_ Y (qq Y (l_ 2 Y) Y (q_ Y (qq Y (l_ 1 Y) Y (q_ Y (qq Y (qb (cs := [_, _, _]) hT Y Y Y Y Y Y) Y qz)))))) (ec (lift_ref02uLow _) H Tryz.call114 Y fun v_2 h3 H => ?_)
 apply Stg.next [(21, _)] Y Y
 refine Stg.go [] [17] Y Y qz (eo Y (es (i := 0) (qv := [(_, [_, _, _]), (_, [_, _, _]), (_, [_, _, _])]) hT Y Y Y Y Y Y Y Y Y Y) ?_)
 rintro _ _ rfl
 apply Stg.next [] Y Y
 refine Stg.fin [] Y Y qz (tg (rt ?_))
 exact rc (i := 0) hT [_, _, _] Y Y Y Y Y Y Y Y Y H
theorem lift_ref03uScale (k : Bool × Sl × Sl) (x0 : Bool × Sl × Sl × Bool × Sl × Sl) : Lf Tryz.prog 127 [Value.agg (C_bool_sl_sl k).toArray, Value.agg (C_bool_sl_sl_bool_sl_sl x0).toArray] (fun r => Value.agg (C_bool_sl_sl_bool_sl_sl r).toArray) (ref03uScale k x0) := by
 refine Lf.go Tryz.func127 Tryz.ntmps127 Y Y [0, 1] Y fun w m S H => ?_
 unfold ref03uScale at H
 refine sR (bx [_, _, _] H Y Y Y Y fun b _ H => bx [_, _, _, _, _, _] H Y Y Y Y fun b_1 _ H => al hT [_, _, _, _, _, _] H Y Y Y fun b_2 _ H => nl (tg ?_))
 replace H := H.self
 apply AtC.seqS [3, 7, 9] (rl [([], 7), ([3], 1), ([3, 7], 2)]) [[], [], [1], [0, 1, 2], [], [], [5], (ra 7), (ra 8), (ra 9)] hmix (by kernel_rfl) [(5, _), (6, _), (7, _), (9, _), (10, _), (11, _)] Y 3 Y
 refine Stg.go [0, 1, 2, 4, 5, 6] [3] Y Y (qq Y (s_ 2 [_, _, _] Y) Y (q_ Y (qq Y (s_ 1 [_, _, _] Y) Y (qq Y (s_ 2 [_, _, _] Y) Y (q_ Y (qq Y (s_ 1 [_, _, _] Y) Y qz)))))) (ec (lift_ref02uMul _ _) H Tryz.call51 Y fun v h1 H => ?_)
 apply Stg.next [(8, _)] Y Y
 refine Stg.go [4, 5, 6] [7] Y Y (qq Y (s_ 2 [_, _, _] Y) Y (q_ Y (qq Y (s_ 1 [_, _, _] Y) Y qz))) (ec (lift_ref02uMul _ _) H Tryz.call51 Y fun v_1 h2 H => ?_)
 apply Stg.next [(12, _), (13, _)] Y Y
 refine Stg.go [8] [9] Y Y (qq Y (qb (cs := [_, _, _, _, _, _]) hT Y Y Y Y Y Y) Y qz) (eo Y (es (i := 0) (qv := [(_, [_, _, _, _, _, _]), (_, [_, _, _, _, _, _]), (_, [_, _, _])]) hT Y Y Y Y Y Y Y Y Y Y) ?_)
 rintro _ _ rfl
 apply Stg.next [] Y Y
 refine Stg.fin [] Y Y qz (tg (rt ?_))
 exact rc (i := 0) hT [_, _, _, _, _, _] Y Y Y Y Y Y Y Y Y H
theorem lift_ref01uAdd (x0 : Sl) (y : Sl) : Lf Tryz.prog 118 [Sl.toV x0, Sl.toV y] Sl.toV (ref01uAdd x0 y) := by
 refine Lf.go Tryz.func118 Tryz.ntmps118 Y Y [0, 1] Y fun w m S H => ?_
 unfold ref01uAdd at H
 refine sR (p_ 1 Y (ng (sR ?_)))
 refine AtLX.bs (hT := hT) (cs := []) H Y Y Y Y Y Y Y Y Y (fun a h0 H => ?_)
 refine p_ 1 Y (ng (sR (p_ 1 Y (ng (cs (sR (p_ 1 Y ?_)))))))
 refine ng (ck ?_)
 refine AtC.loopM (fun (s0 : Sl × Int × Int) => [(5, Sl.toV s0.1), (6, Value.int .i64 s0.2.1), (7, Value.int .i64 s0.2.2)]) (fun (s0 : Sl × Int × Int) => []) [0, 1] [5, 6, 7, 0, 1] [] [] (H _ rfl) Y Y Y (by decide) Y (fun Kp1 s0 h1 H Q1 HK1 => ?_)
 refine cs ?_
 refine AtC.joinSeq (β := Unit) (fun (t0 : Bool) (bb : Unit) => [(23, Value.bool t0)]) (fun (t0 : Bool) (bb : Unit) => []) [0, 1, 5, 6, 7] [] H Y Y (fun t0 bb h2 H => ?_) (fun J2 H HK2 => ?_)
 refine cb H Y (fun H => ?_) (fun H => ?_)
 refine sk (tg (cs (ck (sR (p_ 2 Y (ng ?_))))))
 refine AtC.joinSeq (β := Unit) (fun (t0u1 : Int) (bb_1 : Unit) => [(8, Value.int .i64 t0u1)]) (fun (t0u1 : Int) (bb_1 : Unit) => []) [0, 1, 5, 7] [] H Y Y (fun t0u1 bb_1 h3 H => ?_) (fun J3 H HK3 => ?_)
 refine AtC.joinSeq (β := Unit) (fun (t0u2 : Int) (bb_2 : Unit) => [(8, Value.int .i64 t0u2)]) (fun (t0u2 : Int) (bb_2 : Unit) => []) [0, 1, 5, 7] [] H Y Y (fun t0u2 bb_2 h4 H => ?_) (fun J6 H HK6 => ?_)
 refine sR (p_ 3 Y ?_)
 refine AtLX.bs (hT := hT) (cs := [_]) H Y Y Y Y Y Y Y Y Y (fun a_3 h5 H => ?_)
 refine le Y (EffX.appendS (s := _) (u := _) hT Y Y Y Y Y Y Y Y Y Y (by decide) H) ?_
 rintro _ _ ⟨v_4, h6, rfl, rfl, H⟩
 refine p_ 1 Y (ng (rg (p_ 3 Y (nl (bn (tg (rg ?_)))))))
 refine p_ 3 Y ?_
 replace H := H _ rfl
 refine nl ?_
 exact pk (HK1 _ _ (H _ rfl)) [5, 6, 7, 0, 1] [] Y
 refine sR (p_ 4 Y (ng ?_))
 refine cb H Y (fun H => ?_) (fun H => ?_)
 refine rg (p_ 3 Y (ix hT H Y Y Y Y Y Y fun _ H => ld hT H Y Y Y Y fun _ H => p_ 2 Y (nl ?_)))
 exact pk (HK6 _ () _ (H _ rfl)) [8, 0, 1, 5, 7] [] Y
 refine sk ?_
 exact pk (HK6 _ () _ H) [8, 0, 1, 5, 7] [] Y
 refine sR (p_ 4 Y (ng ?_))
 refine cb H Y (fun H => ?_) (fun H => ?_)
 refine rg (p_ 3 Y (ix hT H Y Y Y Y Y Y fun _ H => ld hT H Y Y Y Y fun _ H => p_ 2 Y (nl ?_)))
 exact pk (HK3 _ () _ (H _ rfl)) [8, 0, 1, 5, 7] [] Y
 refine sk ?_
 exact pk (HK3 _ () _ H) [8, 0, 1, 5, 7] [] Y
 refine xt (tx (tx (bh (tg (sR (p_ 1 Y (lc (lift_ref01uCut _) H Tryz.call142 Y fun v_5 h7 H => ?_)))))))
 refine p_ 1 Y (ng (rt ?_))
 exact r1 4 Y Y Y H
 refine rg (p_ 5 Y ?_)
 refine AtL.splitB (t := 14) H Y (fun H => ?_) (fun H => ?_)
 refine p_ 9 Y (nl ?_)
 exact pk (HK2 _ () _ H) [23, 0, 1, 5, 6, 7] [] Y
 refine p_ 10 Y ?_
 refine AtL.splitB (t := 20) H Y (fun H => ?_) (fun H => ?_)
 refine p_ 3 Y (nl ?_)
 exact pk (HK2 _ () _ H) [23, 0, 1, 5, 6, 7] [] Y
 refine p_ 5 Y (nl ?_)
 exact pk (HK2 _ () _ H) [23, 0, 1, 5, 6, 7] [] Y
theorem lift_ref02uAdd (x0 : Bool × Sl × Sl) (y : Bool × Sl × Sl) : Lf Tryz.prog 50 [Value.agg (C_bool_sl_sl x0).toArray, Value.agg (C_bool_sl_sl y).toArray] (fun r => Value.agg (C_bool_sl_sl r).toArray) (ref02uAdd x0 y) := by
 refine Lf.go Tryz.func50 Tryz.ntmps50 Y Y [0, 1] Y fun w m S H => ?_
 unfold ref02uAdd at H
 refine sR (bx [_, _, _] H Y Y Y Y fun b _ H => bx [_, _, _] H Y Y Y Y fun b_1 _ H => al hT [_, _, _] H Y Y Y fun b_2 _ H => nl (tg (sR (p_ 1 Y ?_))))
 refine lq Y (l_ 2 Y) (p_ 1 Y (lq Y (l_ 1 Y) (lc (lift_ref01uMul _ _) H.self Tryz.call117 Y fun v h1 H => p_ 1 Y (ng (sR (p_ 1 Y ?_))))))
 refine lq Y (l_ 1 Y) (p_ 1 Y (lq Y (l_ 2 Y) (lc (lift_ref01uMul _ _) H Tryz.call117 Y fun v_1 h2 H => p_ 1 Y (ng (sR (p_ 1 Y ?_))))))
 refine lq Y (l_ 2 Y) (p_ 1 Y (lq Y (l_ 1 Y) (lc (lift_ref01uMul _ _) H Tryz.call117 Y fun v_2 h3 H => p_ 1 Y (ng (cs (sR ?_))))))
 refine p_ 1 Y (lq Y (l_ 2 Y) (p_ 1 Y (lq Y (l_ 1 Y) (p_ 1 Y (ng ?_)))))
 refine cb H Y (fun H => ?_) (fun H => ?_)
 apply AtC.seqS [4, 7, 8] A3u3 G3u3 hmix (by kernel_rfl) (nm 28 [_, _, _, _] ++ [(33, _)]) Y 3 Y
 refine Stg.go [0, 1, 2, 3, 5] [4] Y Y (q_ Y (qq Y (l_ 2 Y) Y (q_ Y (q_ Y (q_ Y qz))))) (ec (lift_ref01uAdd _ _) H Tryz.call118 Y fun v_3 h4 H => ?_)
 apply Stg.next [(32, _), (34, _)] Y Y
 refine Stg.go [0, 1, 5, 6] [7] Y Y (q_ Y (qq Y (l_ 2 Y) Y (q_ Y (qq Y (qb (cs := [_, _, _]) hT Y Y Y Y Y Y) Y qz)))) (ec (lift_ref02uLow _) H Tryz.call114 Y fun v_4 h5 H => ?_)
 apply Stg.next [(35, _)] Y Y
 refine Stg.go [] [8] Y Y qz (eo Y (es (i := 0) (qv := [(_, [_, _, _]), (_, [_, _, _]), (_, [_, _, _])]) hT Y Y Y Y Y Y Y Y Y Y) ?_)
 rintro _ _ rfl
 apply Stg.next [] Y Y
 refine Stg.fin [] Y Y qz (tg (rt (tr ?_)))
 exact rc (i := 0) hT [_, _, _] Y Y Y Y Y Y Y Y Y H
 refine sk (tg (cs (sR (p_ 2 Y (lc (lift_ref01uCmp _ _) H Tryz.call119 Y fun v_5 h6 H => p_ 1 Y (ng ?_))))))
 refine cb H Y (fun H => ?_) (fun H => ?_)
 apply AtC.seqS [4, 7, 8] A3u3 G3u3 hmix (by kernel_rfl) (nm 40 [_, _, _, _] ++ [(45, _)]) Y 3 Y
 refine Stg.go [0, 1, 2, 3, 5] [4] Y Y (q_ Y (qq Y (l_ 2 Y) Y (q_ Y (q_ Y (q_ Y qz))))) (ec (lift_ref01uSub _ _) H Tryz.call120 Y fun v_6 h7 H => ?_)
 apply Stg.next [(44, _), (46, _)] Y Y
 refine Stg.go [0, 1, 5, 6] [7] Y Y (q_ Y (qq Y (l_ 2 Y) Y (q_ Y (qq Y (qb (cs := [_, _, _]) hT Y Y Y Y Y Y) Y qz)))) (ec (lift_ref02uLow _) H Tryz.call114 Y fun v_7 h8 H => ?_)
 apply Stg.next [(47, _)] Y Y
 refine Stg.go [] [8] Y Y qz (eo Y (es (i := 0) (qv := [(_, [_, _, _]), (_, [_, _, _]), (_, [_, _, _])]) hT Y Y Y Y Y Y Y Y Y Y) ?_)
 rintro _ _ rfl
 apply Stg.next [] Y Y
 refine Stg.fin [] Y Y qz (tg (rt (tr ?_)))
 exact rc (i := 0) hT [_, _, _] Y Y Y Y Y Y Y Y Y H
 refine sk (tg ?_)
 apply AtC.seqS [4, 7, 8] A3u3 G3u3 hmix (by kernel_rfl) (nm 48 [_, _, _, _] ++ [(53, _)]) Y 3 Y
 refine Stg.go [0, 1, 2, 3, 5] [4] Y Y (q_ Y (qq Y (l_ 1 Y) Y (q_ Y (q_ Y (q_ Y qz))))) (ec (lift_ref01uSub _ _) H Tryz.call120 Y fun v_8 h9 H => ?_)
 apply Stg.next [(52, _), (54, _)] Y Y
 refine Stg.go [0, 1, 5, 6] [7] Y Y (q_ Y (qq Y (l_ 1 Y) Y (q_ Y (qq Y (qb (cs := [_, _, _]) hT Y Y Y Y Y Y) Y qz)))) (ec (lift_ref02uLow _) H Tryz.call114 Y fun v_9 h10 H => ?_)
 apply Stg.next [(55, _)] Y Y
 refine Stg.go [] [8] Y Y qz (eo Y (es (i := 0) (qv := [(_, [_, _, _]), (_, [_, _, _]), (_, [_, _, _])]) hT Y Y Y Y Y Y Y Y Y Y) ?_)
 rintro _ _ rfl
 apply Stg.next [] Y Y
 refine Stg.fin [] Y Y qz (tg (rt ?_))
 exact rc (i := 0) hT [_, _, _] Y Y Y Y Y Y Y Y Y H
theorem lift_ref03uAdd (x0 : Bool × Sl × Sl × Bool × Sl × Sl) (y : Bool × Sl × Sl × Bool × Sl × Sl) : Lf Tryz.prog 126 [Value.agg (C_bool_sl_sl_bool_sl_sl x0).toArray, Value.agg (C_bool_sl_sl_bool_sl_sl y).toArray] (fun r => Value.agg (C_bool_sl_sl_bool_sl_sl r).toArray) (ref03uAdd x0 y) := by
 refine Lf.go Tryz.func126 Tryz.ntmps126 Y Y [0, 1] Y fun w m S H => ?_
 unfold ref03uAdd at H
 refine sR (bx [_, _, _, _, _, _] H Y Y Y Y fun b _ H => bx [_, _, _, _, _, _] H Y Y Y Y fun b_1 _ H => al hT [_, _, _, _, _, _] H Y Y Y fun b_2 _ H => nl (tg ?_))
 replace H := H.self
 apply AtC.seqS [4, 9, 11] (rl [([], 9), ([4], 1), ([4, 9], 2)]) [[], [0], [], [2], [0, 1, 2, 3], [], [5], [], [7], (ra 9), (ra 10), (ra 11)] hmix (by kernel_rfl) (nm 5 [_, _, _, _] ++ nm 10 [_, _, _, _]) Y 3 Y
 refine Stg.go [0, 1, 2, 3, 5, 6, 7, 8] [4] Y Y (q_ Y (qq Y (s_ 2 [_, _, _] Y) Y (q_ Y (qq Y (s_ 1 [_, _, _] Y) Y (q_ Y (qq Y (s_ 2 [_, _, _] Y) Y (q_ Y (qq Y (s_ 1 [_, _, _] Y) Y qz)))))))) (ec (lift_ref02uAdd _ _) H Tryz.call50 Y fun v h1 H => ?_)
 apply Stg.next [(9, _)] Y Y
 refine Stg.go [5, 6, 7, 8] [9] Y Y (q_ Y (qq Y (s_ 2 [_, _, _] Y) Y (q_ Y (qq Y (s_ 1 [_, _, _] Y) Y qz)))) (ec (lift_ref02uAdd _ _) H Tryz.call50 Y fun v_1 h2 H => ?_)
 apply Stg.next [(14, _), (15, _)] Y Y
 refine Stg.go [10] [11] Y Y (qq Y (qb (cs := [_, _, _, _, _, _]) hT Y Y Y Y Y Y) Y qz) (eo Y (es (i := 0) (qv := [(_, [_, _, _, _, _, _]), (_, [_, _, _, _, _, _]), (_, [_, _, _, _, _, _])]) hT Y Y Y Y Y Y Y Y Y Y) ?_)
 rintro _ _ rfl
 apply Stg.next [] Y Y
 refine Stg.fin [] Y Y qz (tg (rt ?_))
 exact rc (i := 0) hT [_, _, _, _, _, _] Y Y Y Y Y Y Y Y Y H
theorem lift_ref14uValue (p : Bool × Sl × Sl × Sl) (l : Sl) : Lf Tryz.prog 69 [Value.agg (C_bool_sl_sl_sl p).toArray, Sl.toV l] (fun r => Value.agg (C_bool_sl_sl_bool_sl_sl r).toArray) (ref14uValue p l) := by
 refine Lf.go Tryz.func69 Tryz.ntmps69 Y Y [0, 1] Y fun w m S H => ?_
 unfold ref14uValue at H
 refine sR (bx [_, _, _, _] H Y Y Y Y fun b _ H => al hT [_, _, _, _, _, _] H Y Y Y fun b_1 _ H => nl (tg (sR (lq Y (qb (cs := [_, _, _, _, _, _]) hT Y Y Y Y Y Y) (lc (lift_ref03uOf _) H.self Tryz.call16 Y fun v h1 H => ?_)))))
 refine al hT [_, _, _, _, _, _] H Y Y Y fun b_2 _ H => sp hT 0 [(_, [_, _, _, _, _, _]), (_, [_, _, _, _, _, _]), (_, [_, _, _, _])] Y Y Y Y Y Y Y Y Y Y Y fun _ => ng (cs (sR (p_ 1 Y (ng (ck ?_)))))
 refine AtC.loopM (fun (s0 : Int × Bool × Sl × Sl × Bool × Sl × Sl) => [(6, Value.int .i64 s0.1)]) (fun (s0 : Int × Bool × Sl × Sl × Bool × Sl × Sl) => [(b_2, [Value.bool s0.2.1, Sl.toV s0.2.2.1, Sl.toV s0.2.2.2.1, Value.bool s0.2.2.2.2.1, Sl.toV s0.2.2.2.2.2.1, Sl.toV s0.2.2.2.2.2.2])]) [1, 2, 4, 5] [6, 1, 2, 4, 5] [1, 2] [0, 1, 2] H.self Y Y Y (by decide) Y (fun Kp1 s0 h3 H Q1 HK1 => ?_)
 refine cs (sR (p_ 2 Y (lq Y (l_ 2 Y) (p_ 2 Y (ng ?_)))))
 refine cb H Y (fun H => ?_) (fun H => ?_)
 refine sk (tg (cs (ck ?_)))
 obtain ⟨a_, hc1, hd1, H⟩ := H
 obtain ⟨v_1, hc2, H⟩ := H
 obtain ⟨a_1_, hc3, hd3, H⟩ := H
 obtain ⟨v_2, hc4, H⟩ := H
 obtain ⟨a_2_, hc5, hd5, H⟩ := H
 obtain ⟨v_3, hc6, H⟩ := H
 apply AtC.stages [7, 17, 18, 19, 20] (rl [([], 17), ([7], 1), ([7, 17], 1), ([7, 17, 18], 1), ([7, 17, 18, 19], 1)]) [[], [], [1], [], [1, 2, 3], [1, 2, 3, 4], [1, 2, 3, 4, 5], [1, 2, 3, 4, 5, 6], [], [], [9], [], [9, 10, 11], [9, 10, 11, 12], [9, 10, 11, 12, 13], [8, 9, 10, 11, 12, 13, 14], [8, 9, 10, 11, 12, 13, 14, 15], [1, 2, 3, 4, 5, 6, 7, 8, 9, 10, 11, 12, 13, 14, 15, 16], [1, 2, 3, 4, 5, 6, 7, 8, 9, 10, 11, 12, 13, 14, 15, 16, 17], (ra 19), (ra 20)] hmix (by kernel_rfl) (nm 16 [_, _, _, _, _, _, _] ++ nm 24 [_, _, _, _, _, _, _, _, _]) Y 5 Y
 refine Stg.go (ra 7 ++ [8, 9, 10, 11, 12, 13, 14, 15, 16]) [7] Y Y (qq Y (s_ 0 [_, _, _, _, _, _] Y) Y (q_ Y (qq Y (l_ 2 Y) Y (q_ Y (qq Y (qi hT Y Y Y Y Y hc1 hd1) Y (q_ Y (qq Y (qs hT Y Y Y Y hc2) Y (q_ Y (q_ Y (qq Y (l_ 2 Y) Y (q_ Y (qq Y (qi hT Y Y Y Y Y hc3 hd3) Y (q_ Y (qq Y (ql hT Y Y Y hc4) Y (qq Y (qi hT Y Y Y Y Y hc5 hd5) Y (qq Y (qs hT Y Y Y Y hc6) Y qz)))))))))))))))) (ec (lift_ref02uOf _) H Tryz.call36 Y fun v_4 h4 H => ?_)
 obtain ⟨hc7, H⟩ := H
 obtain ⟨hc8, H⟩ := H
 apply Stg.next [(23, _)] Y Y
 refine Stg.go [0, 8, 9, 10, 11, 12, 13, 14, 15, 16] [17] Y Y (qq Y (s_ 0 [_, _, _, _, _, _] Y) Y (q_ Y (q_ Y (qq Y (l_ 2 Y) Y (q_ Y (qq Y (qi hT Y Y Y Y Y hc3 hd3) Y (q_ Y (qq Y (ql hT Y Y Y hc7) Y (qq Y (qi hT Y Y Y Y Y hc5 hd5) Y (qq Y (qs hT Y Y Y Y hc8) Y qz)))))))))) (ec (lift_ref03uOf _) H Tryz.call16 Y fun v_5 h5 H => ?_)
 apply Stg.next [(33, _)] Y Y
 refine Stg.go [0] [18] Y Y (qq Y (s_ 0 [_, _, _, _, _, _] Y) Y qz) (ec (lift_ref03uScale _ _) H Tryz.call127 Y fun v_6 h6 H => ?_)
 apply Stg.next [(34, _)] Y Y
 refine Stg.go [0] [19] Y Y (qq Y (s_ 0 [_, _, _, _, _, _] Y) Y qz) (ec (lift_ref03uAdd _ _) H Tryz.call126 Y fun v_7 h7 H => ?_)
 apply Stg.next [(35, _)] Y Y
 refine Stg.go [] [20] Y Y qz (eo Y (es (i := 0) (qv := [(_, [_, _, _, _, _, _]), (_, [_, _, _, _, _, _]), (_, [_, _, _, _])]) hT Y Y Y Y Y Y Y Y Y Y) ?_)
 rintro _ _ rfl
 apply Stg.next [] Y Y
 refine Stg.fin [] Y Y qz (bn (tg (rg (p_ 3 Y (nl ?_)))))
 exact pk (HK1 _ _ (H _ rfl)) [6, 1, 2, 4, 5] [0, 1, 2] Y
 refine xt (tx (tx (bh (tg (sR (lq Y (s_ 0 [_, _, _, _, _, _] Y) (sp hT 1 [(_, [_, _, _, _, _, _]), (_, [_, _, _, _, _, _]), (_, [_, _, _, _])] Y Y Y Y Y Y Y Y Y Y Y fun _ => ?_)))))))
 refine ng (rt ?_)
 exact rc (i := 1) hT [_, _, _, _, _, _] Y Y Y Y Y Y Y Y Y H
theorem lift_ref03uForm (x0 : Bool × Sl × Sl × Bool × Sl × Sl) : Lf Tryz.prog 90 [Value.agg (C_bool_sl_sl_bool_sl_sl x0).toArray] (fun r => Value.agg (C_bool_sl_sl_bool_sl_sl r).toArray) (ref03uForm x0) := by
 refine Lf.go Tryz.func90 Tryz.ntmps90 Y Y [0] Y fun w m S H => ?_
 unfold ref03uForm at H
 refine sR (bx [_, _, _, _, _, _] H Y Y Y Y fun b _ H => al hT [_, _, _, _, _, _] H Y Y Y fun b_1 _ H => nl (tg ?_))
 replace H := H.self
 apply AtC.seqS [2, 5, 7] A3u1 G3u1 hmix (by kernel_rfl) [(3, _), (4, _), (6, _), (7, _)] Y 3 Y
 refine Stg.go [0, 1, 3, 4] [2] Y Y (q_ Y (qq Y (s_ 1 [_, _, _] Y) Y (q_ Y (qq Y (s_ 1 [_, _, _] Y) Y qz)))) (ec (lift_ref02uForm _) H Tryz.call48 Y fun v h1 H => ?_)
 apply Stg.next [(5, _)] Y Y
 refine Stg.go [3, 4] [5] Y Y (q_ Y (qq Y (s_ 1 [_, _, _] Y) Y qz)) (ec (lift_ref02uForm _) H Tryz.call48 Y fun v_1 h2 H => ?_)
 apply Stg.next [(8, _), (9, _)] Y Y
 refine Stg.go [6] [7] Y Y (qq Y (qb (cs := [_, _, _, _, _, _]) hT Y Y Y Y Y Y) Y qz) (eo Y (es (i := 0) (qv := [(_, [_, _, _, _, _, _]), (_, [_, _, _, _, _, _])]) hT Y Y Y Y Y Y Y Y Y Y) ?_)
 rintro _ _ rfl
 apply Stg.next [] Y Y
 refine Stg.fin [] Y Y qz (tg (rt ?_))
 exact rc (i := 0) hT [_, _, _, _, _, _] Y Y Y Y Y Y Y Y Y H
theorem lift_ref14uUpdate (t0 : Sl × Sl × Sl × Sl × Sl) (v : Int) (x0 : Bool × Sl × Sl × Bool × Sl × Sl) : Lf Tryz.prog 31 [Value.agg (C_sl_sl_sl_sl_sl t0).toArray, Value.int .i64 v, Value.agg (C_bool_sl_sl_bool_sl_sl x0).toArray] (fun r => Value.tuple #[(fun r => Value.agg (C_sl_sl_sl_sl_sl r).toArray) r.1, (Value.int .i64) r.2]) (ref14uUpdate t0 v x0) := by
 refine Lf.go Tryz.func31 Tryz.ntmps31 Y Y [0, 1, 2] Y fun w m S H => ?_
 unfold ref14uUpdate at H
 refine sR (bx [_, _, _, _, _] H Y Y Y Y fun b _ H => bx [_, _, _, _, _, _] H Y Y Y Y fun b_1 _ H => al hT [_, _, _, _, _] H Y Y Y fun b_2 _ H => p_ 1 Y (ng (cs ?_)))
 refine AtC.joinSeq (β := Unit) (fun (t0u1 : Bool) (bb : Unit) => [(23, Value.bool t0u1)]) (fun (t0u1 : Bool) (bb : Unit) => []) [1, 3, 5, 6] [0, 1, 2] H.self Y Y (fun t0u1 bb h1 H => ?_) (fun J1 H HK1 => ?_)
 refine cb H Y (fun H => ?_) (fun H => ?_)
 refine sR (lq Y (s_ 2 [_, _, _, _, _] Y) (sp hT 0 [(_, [_, _, _, _, _]), (_, [_, _, _, _, _, _]), (_, [_, _, _, _, _])] Y Y Y Y Y Y Y Y Y Y Y fun _ => p_ 1 Y (ng (rt (tr ?_)))))
 exact AtE.retN (rs := [.cell 6 66, .tmp 7]) Y (ResAll.cons (ResAt.cellSP (i := 0) (l := [_, _, _, _, _]) hT Y Y Y Y Y Y Y) (ResAll.cons (ResAt.tmp Y) ResAll.nil)) Y H
 refine sk (tg (sR ?_))
 refine AtLX.bs (hT := hT) (cs := []) H Y Y Y Y Y Y Y Y Y (fun a h3 H => ?_)
 refine p_ 1 Y (lq Y (l_ 2 Y) (le Y (EffX.appendS (s := _) (u := _) hT Y Y Y Y Y Y Y Y Y Y (by decide) H) ?_))
 rintro _ _ ⟨v_3, h4, rfl, rfl, H⟩
 refine p_ 1 Y (le Y (ep (i := 2) (qv := [(_, [_, _, _, _, _]), (_, [_, _, _, _, _, _]), (_, [_, _, _, _, _])]) hT Y Y Y Y Y Y Y Y Y) ?_)
 rintro _ _ rfl
 refine ng (sR (p_ 1 Y (lq Y (l_ 2 Y) (p_ 1 Y (lq Y (s_ 1 [_, _, _, _, _, _] Y) (ix hT H Y Y Y Y Y Y fun _ H => le Y (EffX.storeS hT Y Y Y Y Y Y H) ?_))))))
 rintro _ _ ⟨h5, rfl, H⟩
 refine ng (cs (sR (p_ 1 Y (ng (ck ?_)))))
 refine AtC.loopM (fun (s0 : Int) => [(8, Value.int .i64 s0)]) (fun (s0 : Int) => []) [3, 6] [8, 3, 6] [0, 2] [0, 2] H Y Y Y (by decide) Y (fun Kp3 s0 h6 H Q3 HK3 => ?_)
 refine cs (sR (p_ 2 Y (lq Y (l_ 1 Y) (p_ 2 Y (ng ?_)))))
 refine cb H Y (fun H => ?_) (fun H => ?_)
 refine sk (tg (cs (ck ?_)))
 obtain ⟨a_2_, hc3, hd3, H⟩ := H
 obtain ⟨v_4, hc4, H⟩ := H
 obtain ⟨a_3_, hc5, hd5, H⟩ := H
 obtain ⟨v_5, hc6, H⟩ := H
 apply AtC.stages [14, 15, 17] (rl [([], 15), ([14], 1), ([14, 15], 2)]) [[], [0], [], [2], [], [2, 3, 4], [2, 3, 4, 5], [], [7], [], [7, 8, 9], [7, 8, 9, 10], [], [12], [7, 8, 9, 10, 11, 12, 13], [7, 8, 9, 10, 11, 12, 13, 14], (ra 16), (ra 17)] hmix (by kernel_rfl) (nm 42 [_, _, _, _, _, _, _, _, _, _, _, _, _, _]) Y 3 Y
 refine Stg.go (ra 14) [14] Y Y (q_ Y (qq Y (l_ 1 Y) Y (q_ Y (qq Y (l_ 1 Y) Y (q_ Y (qq Y (qi hT Y Y Y Y Y hc3 hd3) Y (qq Y (ql hT Y Y Y hc4) Y (q_ Y (qq Y (l_ 1 Y) Y (q_ Y (qq Y (qi hT Y Y Y Y Y hc5 hd5) Y (qq Y (qs hT Y Y Y Y hc6) Y (q_ Y (qq Y (l_ 1 Y) Y qz)))))))))))))) (ec (lift_ref14uValue _ _) H Tryz.call69 Y fun v_6 h7 H => ?_)
 obtain ⟨hc7, H⟩ := H
 apply Stg.next [(56, _)] Y Y
 refine Stg.go (ra 7) [15] Y Y (q_ Y (qq Y (l_ 1 Y) Y (q_ Y (qq Y (l_ 1 Y) Y (q_ Y (qq Y (qi hT Y Y Y Y Y hc3 hd3) Y (qq Y (ql hT Y Y Y hc7) Y qz))))))) (ec (lift_ref03uForm _) H Tryz.call90 Y fun v_7 h8 H => ?_)
 obtain ⟨hc8, H⟩ := H
 obtain ⟨a_4_, hc9, hd9, H⟩ := H
 apply Stg.next [(57, _), (58, _)] Y Y
 refine Stg.go (ra 7 ++ [16]) [17] Y Y (q_ Y (qq Y (l_ 1 Y) Y (q_ Y (qq Y (l_ 1 Y) Y (q_ Y (qq Y (qi hT Y Y Y Y Y hc3 hd3) Y (qq Y (ql hT Y Y Y hc8) Y (qq Y (qi hT Y Y Y Y Y hc9 hd9) Y qz)))))))) (eo Y (EffX.storeS hT Y Y Y Y Y Y H) ?_)
 rintro _ _ ⟨h9, rfl, H⟩
 apply Stg.next [] Y Y
 refine Stg.fin [] Y Y qz (bn (tg (rg (p_ 3 Y (nl ?_)))))
 exact pk (HK3 _ _ (H _ rfl)) [8, 3, 6] [0, 1] Y
 refine xt (tx (tx (bh (tg (sR (lq Y (s_ 1 [_, _, _, _, _] Y) (sp hT 0 [(_, [_, _, _, _, _]), (_, [_, _, _, _, _])] Y Y Y Y Y Y Y Y Y Y Y fun _ => ?_)))))))
 refine p_ 1 Y (ng (rt ?_))
 exact AtE.retN (rs := [.cell 6 66, .tmp 7]) Y (ResAll.cons (ResAt.cellSP (i := 0) (l := [_, _, _, _, _]) hT Y Y Y Y Y Y Y) (ResAll.cons (ResAt.tmp Y) ResAll.nil)) Y H
 refine rg (p_ 3 Y ?_)
 refine AtL.splitB (t := 11) H Y (fun H => ?_) (fun H => ?_)
 refine p_ 12 Y (nl ?_)
 exact pk (HK1 _ () _ H) [23, 1, 3, 5, 6] [0, 1, 2] Y
 refine p_ 5 Y (lq Y (l_ 2 Y) (p_ 6 Y ?_))
 refine AtL.splitB (t := 18) H Y (fun H => ?_) (fun H => ?_)
 refine p_ 5 Y (nl ?_)
 exact pk (HK1 _ () _ H) [23, 1, 3, 5, 6] [0, 1, 2] Y
 refine p_ 1 Y (lq Y (s_ 2 [_, _, _, _, _] Y) (p_ 3 Y (lc (lift_ref14uRow _ _) H Tryz.call34 Y fun v_1 h2 H => p_ 3 Y (nl ?_))))
 exact pk (HK1 _ () _ H) [23, 1, 3, 5, 6] [0, 1, 2] Y
theorem lift_ref12uCoef (p : Bool × Sl × Sl × Sl) (v : Int) : Lf Tryz.prog 91 [Value.agg (C_bool_sl_sl_sl p).toArray, Value.int .i64 v] (fun r => Value.agg (C_bool_sl_sl r).toArray) (ref12uCoef p v) := by
 refine Lf.go Tryz.func91 Tryz.ntmps91 Y Y [0, 1] Y fun w m S H => ?_
 unfold ref12uCoef at H
 refine sR (bx [_, _, _, _] H Y Y Y Y fun b _ H => al hT [_, _, _] H Y Y Y fun b_1 _ H => nl (tg (cs (sR (p_ 1 Y ?_)))))
 refine ng (ck ?_)
 refine AtC.loopM (fun (s0 : Int × Bool × Sl × Sl) => [(5, Value.int .i64 s0.1)]) (fun (s0 : Int × Bool × Sl × Sl) => [(b_1, [Value.bool s0.2.1, Sl.toV s0.2.2.1, Sl.toV s0.2.2.2])]) [1, 2, 4] [5, 1, 2, 4] [1] [0, 1] H.self Y Y Y (by decide) Y (fun Kp1 s0 h1 H Q1 HK1 => ?_)
 refine cs (sR (p_ 2 Y (lq Y (l_ 1 Y) (p_ 2 Y (ng ?_)))))
 refine cb H Y (fun H => ?_) (fun H => ?_)
 refine sk (tg (cs (ck (sR (p_ 1 Y (lq Y (l_ 1 Y) (p_ 1 Y ?_)))))))
 refine ix hT H Y Y Y Y Y Y fun _ H => p_ 1 Y (ld hT H Y Y Y Y fun _ H => p_ 2 Y (ng ?_))
 refine cb H Y (fun H => ?_) (fun H => ?_)
 refine sR (p_ 1 Y (lq Y (l_ 1 Y) (p_ 1 Y (ix hT H Y Y Y Y Y Y fun _ H => p_ 1 Y (lds hT H Y Y Y Y Y fun _ H => lc (lift_ref02uOf _) H Tryz.call36 Y fun v_3 h2 H => ?_)))))
 refine sp hT 0 [(_, [_, _, _]), (_, [_, _, _, _])] Y Y Y Y Y Y Y Y Y Y Y fun _ => ng (rt (br (tr (tr (br (tr ?_))))))
 exact rc (i := 0) hT [_, _, _] Y Y Y Y Y Y Y Y Y H
 refine sk (bn (tg (rg (p_ 3 Y (nl ?_)))))
 exact pk (HK1 _ _ (H _ rfl)) [5, 1, 2, 4] [0, 1] Y
 refine xt (tx (tx (bh (tg (sR (lc (lift_ref02uInt _) H Tryz.call14 Y fun v_4 h3 H => sp hT 0 [(_, [_, _, _]), (_, [_, _, _, _])] Y Y Y Y Y Y Y Y Y Y Y fun _ => ?_))))))
 refine ng (rt ?_)
 exact rc (i := 0) hT [_, _, _] Y Y Y Y Y Y Y Y Y H
theorem lift_ref12uAdd (p : Bool × Sl × Sl × Sl) (k : Bool × Sl × Sl) (q : Bool × Sl × Sl × Sl) : Lf Tryz.prog 92 [Value.agg (C_bool_sl_sl_sl p).toArray, Value.agg (C_bool_sl_sl k).toArray, Value.agg (C_bool_sl_sl_sl q).toArray] (fun r => Value.agg (C_bool_sl_sl_sl r).toArray) (ref12uAdd p k q) := by
 refine Lf.go Tryz.func92 Tryz.ntmps92 Y Y [0, 1, 2] Y fun w m S H => ?_
 unfold ref12uAdd at H
 refine sR (bx [_, _, _, _] H Y Y Y Y fun b _ H => bx [_, _, _] H Y Y Y Y fun b_1 _ H => bx [_, _, _, _] H Y Y Y Y fun b_2 _ H => al hT [_, _, _, _] H Y Y Y fun b_3 _ H => nl (tg ?_))
 refine AtC.joinSeq (β := Nat) (fun (t0 : Bool × Sl × Sl × Sl) (bb : Nat) => [(7, Value.pointer (some ⟨bb, 0, none⟩))]) (fun (t0 : Bool × Sl × Sl × Sl) (bb : Nat) => [(bb, [Value.bool t0.1, Sl.toV t0.2.1, Sl.toV t0.2.2.1, Sl.toV t0.2.2.2])]) [3, 4, 5, 6] [0, 1, 2, 3] H.self Y Y (fun t0 bb h1 H => ?_) (fun J1 H HK1 => ?_)
 refine sR ?_
 refine AtLX.bs (hT := hT) (cs := []) H Y Y Y Y Y Y Y Y Y (fun a h43 H => ?_)
 refine p_ 1 Y (ng (sR (p_ 2 Y (ng (cs (ck ?_))))))
 refine AtC.loopM (fun (s0 : Sl × Int × Int) => [(8, Sl.toV s0.1), (9, Value.int .i64 s0.2.1), (10, Value.int .i64 s0.2.2)]) (fun (s0 : Sl × Int × Int) => []) [3, 4, 5, 6, 7] [8, 9, 10, 3, 4, 5, 6, 7] [0, 1, 2, 3, 4] [0, 1, 2, 3, 4] (H _ rfl) Y Y Y (by decide) Y (fun Kp8 s0 h44 H Q8 HK8 => ?_)
 refine cs ?_
 refine AtC.joinSeq (β := Unit) (fun (t0u1 : Bool) (bb_1 : Unit) => [(36, Value.bool t0u1)]) (fun (t0u1 : Bool) (bb_1 : Unit) => []) [3, 4, 5, 6, 7, 8, 9, 10] [0, 1, 2, 3, 4] H Y Y (fun t0u1 bb_1 h45 H => ?_) (fun J9 H HK9 => ?_)
 refine cb H Y (fun H => ?_) (fun H => ?_)
 refine sk (tg (ck ?_))
 refine AtC.joinSeq (β := Unit) (fun (t0u2 : Bool) (bb_2 : Unit) => [(63, Value.bool t0u2)]) (fun (t0u2 : Bool) (bb_2 : Unit) => []) [3, 4, 5, 6, 7, 8, 9, 10] [0, 1, 2, 3, 4] H Y Y (fun t0u2 bb_2 h46 H => ?_) (fun J10 H HK10 => ?_)
 refine cb H Y (fun H => ?_) (fun H => ?_)
 refine sR (p_ 2 Y (lq Y (l_ 4 Y) (p_ 1 Y (ix hT H Y Y Y Y Y Y fun _ H => p_ 1 Y (ld hT H Y Y Y Y fun _ H => ?_)))))
 refine AtLX.bs (hT := hT) (cs := [_]) H Y Y Y Y Y Y Y Y Y (fun a_4 h47 H => ?_)
 refine le Y (EffX.appendS (s := _) (u := _) hT Y Y Y Y Y Y Y Y Y Y (by decide) H) ?_
 rintro _ _ ⟨v_25, h48, rfl, rfl, H⟩
 refine p_ 1 Y (ng ?_)
 refine AtC.joinSeq (β := Unit) (fun (t0u3 : Int) (bb_3 : Unit) => [(10, Value.int .i64 t0u3)]) (fun (t0u3 : Int) (bb_3 : Unit) => []) [3, 4, 5, 6, 7, 8, 9] [0, 1, 2, 3, 4] H Y Y (fun t0u3 bb_3 h49 H => ?_) (fun J17 H HK17 => ?_)
 refine rg (p_ 3 Y (nl (bn ?_)))
 exact pk (HK8 _ _ (H _ rfl)) [8, 9, 10, 3, 4, 5, 6, 7] [0, 1, 2, 3, 4] Y
 refine AtC.joinSeq (β := Unit) (fun (t0u4 : Bool) (bb_4 : Unit) => [(92, Value.bool t0u4)]) (fun (t0u4 : Bool) (bb_4 : Unit) => []) [3, 4, 5, 6, 7, 8, 9, 10] [0, 1, 2, 3, 4] H Y Y (fun t0u4 bb_4 h50 H => ?_) (fun J18 H HK18 => ?_)
 refine cb H Y (fun H => ?_) (fun H => ?_)
 refine rg (p_ 3 Y (nl ?_))
 exact pk (HK17 _ () _ (H _ rfl)) [10, 3, 4, 5, 6, 7, 8, 9] [0, 1, 2, 3, 4] Y
 refine sk ?_
 exact pk (HK17 _ () _ H) [10, 3, 4, 5, 6, 7, 8, 9] [0, 1, 2, 3, 4] Y
 refine AtC.draw hmix (by kernel_rfl) (AtD.pures hT 2 _ _ _ _ Y (AtD.q Y (l_ 2 Y) (AtD.pures hT 3 _ _ _ _ Y ?_)))
 refine AtD.splitB (t := 78) H Y (fun H => ?_) (fun H => ?_)
 refine AtD.yes Y Y Y (AtD.pures hT 1 _ _ _ _ Y (AtD.yes Y Y Y (AtD.q Y (l_ 4 Y) (AtD.yes Y Y Y (AtD.pures hT 1 _ _ _ _ Y (AtD.yes Y Y Y ?_))))))
 obtain ⟨a_5_, hc18, hd18, H⟩ := H
 refine AtD.q Y (qi hT Y Y Y Y Y hc18 hd18) (AtD.yes Y Y Y (AtD.pures hT 1 _ _ _ _ Y (AtD.yes Y Y Y ?_)))
 obtain ⟨v_26, hc19, H⟩ := H
 refine AtD.q Y (ql hT Y Y Y hc19) (AtD.yes Y Y Y (AtD.pures hT 1 _ _ _ _ Y (AtD.yes Y Y Y (AtD.q Y (l_ 2 Y) (AtD.yes Y Y Y (AtD.pures hT 1 _ _ _ _ Y (AtD.yes Y Y Y ?_)))))))
 obtain ⟨a_6_, hc20, hd20, H⟩ := H
 refine AtD.q Y (qi hT Y Y Y Y Y hc20 hd20) (AtD.yes Y Y Y (AtD.pures hT 1 _ _ _ _ Y (AtD.yes Y Y Y ?_)))
 obtain ⟨v_27, hc21, H⟩ := H
 refine AtD.q Y (ql hT Y Y Y hc21) (AtD.yes Y Y Y (AtD.pures hT 1 _ _ _ _ Y (AtD.pures hT 1 _ _ _ _ Y (AtD.nil ?_))))
 exact pk (HK18 _ () _ H) [92, 3, 4, 5, 6, 7, 8, 9, 10] [0, 1, 2, 3, 4] Y
 refine AtD.noF Y Y Y (by decide) Y (AtD.noF Y Y Y (by decide) Y (AtD.noF Y Y Y (by decide) Y (AtD.noF Y Y Y (by decide) Y (AtD.noF Y Y Y (by decide) Y (AtD.noF Y Y Y (by decide) Y (AtD.noF Y Y Y (by decide) Y (AtD.noF Y Y Y (by decide) Y ?_)))))))
 refine AtD.noF Y Y Y (by decide) Y (AtD.noF Y Y Y (by decide) Y (AtD.noF Y Y Y (by decide) Y (AtD.noF Y Y Y (by decide) Y (AtD.noF Y Y Y (by decide) Y (AtD.pures hT 1 _ _ _ _ Y (AtD.nil ?_))))))
 exact pk (HK18 _ () _ H) [92, 3, 4, 5, 6, 7, 8, 9, 10] [0, 1, 2, 3, 4] Y
 refine sR (p_ 2 Y (lq Y (l_ 2 Y) (p_ 1 Y (ix hT H Y Y Y Y Y Y fun _ H => p_ 1 Y (ld hT H Y Y Y Y fun _ H => ?_)))))
 refine AtLX.bs (hT := hT) (cs := [_]) H Y Y Y Y Y Y Y Y Y (fun a_8 h51 H => ?_)
 refine le Y (EffX.appendS (s := _) (u := _) hT Y Y Y Y Y Y Y Y Y Y (by decide) H) ?_
 rintro _ _ ⟨v_30, h52, rfl, rfl, H⟩
 refine p_ 1 Y (ng (rg (p_ 3 Y (nl (bn ?_)))))
 exact pk (HK8 _ _ (H _ rfl)) [8, 9, 10, 3, 4, 5, 6, 7] [0, 1, 2, 3, 4] Y
 refine AtC.draw hmix (by kernel_rfl) (AtD.pures hT 2 _ _ _ _ Y (AtD.q Y (l_ 2 Y) (AtD.pures hT 3 _ _ _ _ Y ?_)))
 refine AtD.splitB (t := 42) H Y (fun H => ?_) (fun H => ?_)
 refine AtD.noF Y Y Y (by decide) Y (AtD.noF Y Y Y (by decide) Y (AtD.noF Y Y Y (by decide) Y (AtD.noF Y Y Y (by decide) Y (AtD.noF Y Y Y (by decide) Y (AtD.noF Y Y Y (by decide) Y (AtD.noU Y Y Y Y (AtD.noU Y Y Y Y ?_)))))))
 refine AtD.noU Y Y Y Y (AtD.noU Y Y Y Y (AtD.noU Y Y Y Y (AtD.noU Y Y Y Y (AtD.noU Y Y Y Y (AtD.noU Y Y Y Y (AtD.noU Y Y Y Y (AtD.noU Y Y Y Y ?_)))))))
 refine AtD.noU Y Y Y Y (AtD.noU Y Y Y Y (AtD.noU Y Y Y Y (AtD.noF Y Y Y (by decide) Y (AtD.pures hT 1 _ _ _ _ Y (AtD.nil ?_)))))
 exact pk (HK10 _ () _ H) [63, 3, 4, 5, 6, 7, 8, 9, 10] [0, 1, 2, 3, 4] Y
 refine AtD.yes Y Y Y (AtD.pures hT 1 _ _ _ _ Y (AtD.yes Y Y Y (AtD.pures hT 1 _ _ _ _ Y (AtD.yes Y Y Y (AtD.q Y (l_ 4 Y) (AtD.yes Y Y Y (AtD.pures hT 1 _ _ _ _ Y ?_)))))))
 refine AtD.yes Y Y Y (AtD.pures hT 1 _ _ _ _ Y (AtD.yes Y Y Y (AtD.pures hT 1 _ _ _ _ Y ?_)))
 refine AtD.splitB (t := 48) H Y (fun H => ?_) (fun H => ?_)
 refine AtD.yes Y Y Y (AtD.pures hT 1 _ _ _ _ Y (AtD.yes Y Y Y (AtD.q Y (l_ 4 Y) (AtD.yes Y Y Y (AtD.pures hT 1 _ _ _ _ Y (AtD.yes Y Y Y ?_))))))
 obtain ⟨a_1_, hc10, hd10, H⟩ := H
 refine AtD.q Y (qi hT Y Y Y Y Y hc10 hd10) (AtD.yes Y Y Y (AtD.pures hT 1 _ _ _ _ Y (AtD.yes Y Y Y ?_)))
 obtain ⟨v_21, hc11, H⟩ := H
 refine AtD.q Y (ql hT Y Y Y hc11) (AtD.yes Y Y Y (AtD.pures hT 1 _ _ _ _ Y (AtD.yes Y Y Y (AtD.q Y (l_ 2 Y) (AtD.yes Y Y Y (AtD.pures hT 1 _ _ _ _ Y (AtD.yes Y Y Y ?_)))))))
 obtain ⟨a_2_, hc12, hd12, H⟩ := H
 refine AtD.q Y (qi hT Y Y Y Y Y hc12 hd12) (AtD.yes Y Y Y (AtD.pures hT 1 _ _ _ _ Y (AtD.yes Y Y Y ?_)))
 obtain ⟨v_22, hc13, H⟩ := H
 refine AtD.q Y (ql hT Y Y Y hc13) (AtD.yes Y Y Y (AtD.pures hT 1 _ _ _ _ Y (AtD.yes Y Y Y (AtD.pures hT 1 _ _ _ _ Y (AtD.pures hT 1 _ _ _ _ Y (AtD.nil ?_))))))
 exact pk (HK10 _ () _ H) [63, 3, 4, 5, 6, 7, 8, 9, 10] [0, 1, 2, 3, 4] Y
 refine AtD.noF Y Y Y (by decide) Y (AtD.noF Y Y Y (by decide) Y (AtD.noF Y Y Y (by decide) Y (AtD.noF Y Y Y (by decide) Y (AtD.noF Y Y Y (by decide) Y (AtD.noF Y Y Y (by decide) Y (AtD.noF Y Y Y (by decide) Y (AtD.noF Y Y Y (by decide) Y ?_)))))))
 refine AtD.noF Y Y Y (by decide) Y (AtD.noF Y Y Y (by decide) Y (AtD.noF Y Y Y (by decide) Y (AtD.noF Y Y Y (by decide) Y (AtD.noF Y Y Y (by decide) Y (AtD.yes Y Y Y (AtD.pures hT 1 _ _ _ _ Y (AtD.pures hT 1 _ _ _ _ Y ?_)))))))
 refine AtD.nil ?_
 exact pk (HK10 _ () _ H) [63, 3, 4, 5, 6, 7, 8, 9, 10] [0, 1, 2, 3, 4] Y
 refine xt (tx (tx (bh (tg (cs (sR (p_ 1 Y ?_)))))))
 refine ng (ck ?_)
 refine AtC.loopM (fun (s0u1 : Int × Bool × Sl × Sl × Sl) => [(11, Value.int .i64 s0u1.1)]) (fun (s0u1 : Int × Bool × Sl × Sl × Sl) => [(bb, [Value.bool s0u1.2.1, Sl.toV s0u1.2.2.1, Sl.toV s0u1.2.2.2.1, Sl.toV s0u1.2.2.2.2])]) [3, 4, 5, 6, 7, 8] [11, 3, 4, 5, 6, 7, 8] [1, 2, 3, 4] [0, 1, 2, 3, 4] H Y Y Y (by decide) Y (fun Kp25 s0u1 h53 H Q25 HK25 => ?_)
 refine cs (sR (p_ 4 Y (ng ?_)))
 refine cb H Y (fun H => ?_) (fun H => ?_)
 refine sk (tg ?_)
 refine AtC.joinSeq (β := Unit) (fun (t0u5 : Bool × Sl × Sl × Sl) (bb_5 : Unit) => []) (fun (t0u5 : Bool × Sl × Sl × Sl) (bb_5 : Unit) => [(bb, [Value.bool t0u5.1, Sl.toV t0u5.2.1, Sl.toV t0u5.2.2.1, Sl.toV t0u5.2.2.2])]) [3, 4, 5, 6, 7, 8, 11] [1, 2, 3, 4] H Y Y (fun t0u5 bb_5 h54 H => ?_) (fun J26 H HK26 => ?_)
 refine rg (p_ 3 Y (nl ?_))
 exact pk (HK25 _ _ (H _ rfl)) [11, 3, 4, 5, 6, 7, 8] [0, 1, 2, 3, 4] Y
 refine ck ?_
 refine AtC.joinSeq (β := Nat) (fun (t0u6 : Bool × Sl × Sl) (bb_6 : Nat) => [(12, Value.pointer (some ⟨bb_6, 0, none⟩))]) (fun (t0u6 : Bool × Sl × Sl) (bb_6 : Nat) => [(bb_6, [Value.bool t0u6.1, Sl.toV t0u6.2.1, Sl.toV t0u6.2.2])]) [3, 4, 5, 6, 7, 8, 11] [0, 1, 2, 3, 4] H Y Y (fun t0u6 bb_6 h55 H => ?_) (fun J27 H HK27 => ?_)
 refine sR (p_ 1 Y (lq Y (l_ 0 Y) (p_ 2 Y (ng ?_))))
 refine cb H Y (fun H => ?_) (fun H => ?_)
 obtain ⟨a_11_, hc38, hd38, H⟩ := H
 obtain ⟨v_47, hc39, H⟩ := H
 apply AtC.stages [7, 9, 10, 12] (rl [([], 8), ([7], 2), ([7, 9], 1), ([7, 9, 10], 2)]) [[], [0], [], [], [2, 3], [2, 3, 4], [], [6], [2, 3, 4, 5, 6, 7], [2, 3, 4, 5, 6, 7, 8], (ra 10), (ra 11), (ra 12)] hmix (by kernel_rfl) (nm 133 [_, _, _, _, _, _, _]) Y 4 Y
 refine Stg.go (ra 7) [7] Y Y (q_ Y (qq Y (l_ 1 Y) Y (q_ Y (q_ Y (qq Y (qi hT Y Y Y Y Y hc38 hd38) Y (qq Y (ql hT Y Y Y hc39) Y (qq Y (s_ 0 [_, _, _] Y) Y qz))))))) (ec (lift_ref02uForm _) H Tryz.call48 Y fun v_48 h85 H => ?_)
 obtain ⟨hc40, H⟩ := H
 apply Stg.next [(140, _), (141, _)] Y Y
 refine Stg.go (ra 6 ++ [8]) [9] Y Y (q_ Y (qq Y (l_ 1 Y) Y (q_ Y (q_ Y (qq Y (qi hT Y Y Y Y Y hc38 hd38) Y (qq Y (ql hT Y Y Y hc40) Y (qq Y (qb (cs := [_, _, _, _]) hT Y Y Y Y Y Y) Y qz))))))) (eo Y (EffX.buildS2 (cs := [_, _, _, _]) hT Y Y Y Y Y Y Y Y H) ?_)
 rintro _ _ ⟨a_12, h86, rfl, rfl, H⟩
 apply Stg.next [(142, _)] Y Y
 refine Stg.go [0, 1] [10] Y Y (q_ Y (qq Y (l_ 1 Y) Y qz)) (eo Y (EffX.appendS (s := _) (u := _) hT Y Y Y Y Y Y Y Y Y Y (by decide) H) ?_)
 rintro _ _ ⟨v_50, h87, rfl, rfl, H⟩
 apply Stg.next [(143, _), (144, _)] Y Y
 refine Stg.go [11] [12] Y Y (q_ Y qz) (eo Y (ep (i := 1) (qv := [(_, [_, _, _]), (_, [_, _, _, _]), (_, [_, _, _, _]), (_, [_, _, _, _]), (_, [_, _, _]), (_, [_, _, _, _])]) hT Y Y Y Y Y Y Y Y Y) ?_)
 rintro _ _ rfl
 apply Stg.next [] Y Y
 refine Stg.fin [] Y Y qz (bn ?_)
 exact pk (HK26 _ () _ H) [3, 4, 5, 6, 7, 8, 11] [1, 2, 3, 4, 5] Y
 refine sk (bn ?_)
 exact pk (HK26 _ () _ H) [3, 4, 5, 6, 7, 8, 11] [1, 2, 3, 4, 5] Y
 obtain ⟨a_9_, hc27, hd27, H⟩ := H
 obtain ⟨v_31, hc28, H⟩ := H
 obtain ⟨a_10_, hc29, hd29, H⟩ := H
 obtain ⟨v_32, hc30, H⟩ := H
 apply AtC.stages [5, 12, 13, 14, 15, 16] (rl [([], 12), ([5], 1), ([5, 12], 1), ([5, 12, 13], 1), ([], 1), ([5, 12, 13, 14, 15], 1)]) [[], [], [], [1, 2], [1, 2, 3], (ra 5), [], [], [], [], [8, 9], [8, 9, 10], (ra 6 ++ [7, 8, 9, 10, 11]), (ra 13), (ra 14), [], (ra 16)] hmix (by kernel_rfl) (nm 114 [_, _, _, _, _] ++ nm 120 [_, _, _, _, _, _]) Y 6 Y
 refine Stg.go [0, 1, 2, 3, 4, 6, 7, 8, 9, 10, 11] [5, 15] Y Y (qq Y (s_ 4 [_, _, _, _] Y) Y (q_ Y (q_ Y (qq Y (qi hT Y Y Y Y Y hc27 hd27) Y (qq Y (ql hT Y Y Y hc28) Y (qq Y (s_ 3 [_, _, _] Y) Y (qq Y (s_ 2 [_, _, _, _] Y) Y (q_ Y (q_ Y (qq Y (qi hT Y Y Y Y Y hc29 hd29) Y (qq Y (ql hT Y Y Y hc30) Y qz))))))))))) ?_
 refine EAll.cons ?_ ?_
 refine EOp.e Y Y Y (cl (fun h => ref12uCoef _ _ h _) H.self Y Tryz.call91 Y (fun w m hr hw => lift_ref12uCoef _ _ w m hr _ hw)) ?_
 rintro _ _ ⟨v_33, h57, rfl, rfl, H⟩
 obtain ⟨hc31, H⟩ := H
 apply Stg.next [(119, _)] Y Y
 refine Stg.go [6, 7, 8, 9, 10, 11] [12, 15] Y Y (qq Y (s_ 3 [_, _, _] Y) Y (qq Y (s_ 2 [_, _, _, _] Y) Y (q_ Y (q_ Y (qq Y (qi hT Y Y Y Y Y hc29 hd29) Y (qq Y (ql hT Y Y Y hc31) Y qz)))))) ?_
 refine EAll.cons ?_ ?_
 refine EOp.e Y Y Y (cl (fun h => ref12uCoef _ _ h _) H.self Y Tryz.call91 Y (fun w m hr hw => lift_ref12uCoef _ _ w m hr _ hw)) ?_
 rintro _ _ ⟨v_34, h59, rfl, rfl, H⟩
 apply Stg.next [(126, _)] Y Y
 refine Stg.go [6] [13, 15] Y Y (qq Y (s_ 3 [_, _, _] Y) Y qz) ?_
 refine EAll.cons ?_ ?_
 refine EOp.e Y Y Y (cl (fun h => ref02uMul _ _ h _) H.self Y Tryz.call51 Y (fun w m hr hw => lift_ref02uMul _ _ w m hr _ hw)) ?_
 rintro _ _ ⟨v_35, h61, rfl, rfl, H⟩
 apply Stg.next [(127, _)] Y Y
 refine Stg.go [] [14, 15] Y Y qz ?_
 refine EAll.cons ?_ ?_
 refine EOp.e Y Y Y (cl (fun h => ref02uAdd _ _ h _) H.self Y Tryz.call50 Y (fun w m hr hw => lift_ref02uAdd _ _ w m hr _ hw)) ?_
 rintro _ _ ⟨v_36, h63, rfl, rfl, H⟩
 apply Stg.next [(128, _)] Y Y
 refine Stg.go [] [15] Y Y qz (eo Y (ea (cs := [_, _, _]) hT Y Y H) ?_)
 rintro _ _ ⟨b_10, _, rfl, rfl, he32, H⟩
 apply Stg.next [(12, _)] Y Y
 refine Stg.go [] [16] Y Y qz (eo Y (es (i := 0) (qv := [(_, [_, _, _]), (_, [_, _, _, _]), (_, [_, _, _, _]), (_, [_, _, _, _]), (_, [_, _, _]), (_, [_, _, _, _])]) hT Y Y Y Y Y Y Y Y Y Y) ?_)
 rintro _ _ rfl
 apply Stg.next [] Y Y
 refine Stg.fin [] Y Y qz ?_
 exact pk (HK27 _ b_10 _ H.self) [12, 3, 4, 5, 6, 7, 8, 11] [0, 1, 2, 3, 4, 5] Y
 refine eo Y (ea (cs := [_, _, _]) hT Y Y H) ?_
 rintro _ _ ⟨b_11, _, rfl, rfl, he33, H⟩
 apply Stg.next [(12, _)] Y Y
 refine Stg.go [] [14] Y Y qz (ec (lift_ref02uAdd _ _) H.self Tryz.call50 Y fun v_37 h65 H => ?_)
 apply Stg.next [(128, _)] Y Y
 refine Stg.go [] [16] Y Y qz (eo Y (es (i := 0) (qv := [(_, [_, _, _]), (_, [_, _, _, _]), (_, [_, _, _, _]), (_, [_, _, _, _]), (_, [_, _, _]), (_, [_, _, _, _])]) hT Y Y Y Y Y Y Y Y Y Y) ?_)
 rintro _ _ rfl
 apply Stg.next [] Y Y
 refine Stg.fin [] Y Y qz ?_
 exact pk (HK27 _ b_11 _ H.self) [12, 3, 4, 5, 6, 7, 8, 11] [0, 1, 2, 3, 4, 5] Y
 refine eo Y (ea (cs := [_, _, _]) hT Y Y H) ?_
 rintro _ _ ⟨b_12, _, rfl, rfl, he34, H⟩
 apply Stg.next [(12, _)] Y Y
 refine Stg.go [6] [13] Y Y (qq Y (s_ 4 [_, _, _] Y) Y qz) (ec (lift_ref02uMul _ _) H.self Tryz.call51 Y fun v_38 h67 H => ?_)
 apply Stg.next [(127, _)] Y Y
 refine Stg.go [] [14] Y Y qz (ec (lift_ref02uAdd _ _) H.self Tryz.call50 Y fun v_39 h69 H => ?_)
 apply Stg.next [(128, _)] Y Y
 refine Stg.go [] [16] Y Y qz (eo Y (es (i := 0) (qv := [(_, [_, _, _]), (_, [_, _, _, _]), (_, [_, _, _, _]), (_, [_, _, _, _]), (_, [_, _, _]), (_, [_, _, _, _])]) hT Y Y Y Y Y Y Y Y Y Y) ?_)
 rintro _ _ rfl
 apply Stg.next [] Y Y
 refine Stg.fin [] Y Y qz ?_
 exact pk (HK27 _ b_12 _ H.self) [12, 3, 4, 5, 6, 7, 8, 11] [0, 1, 2, 3, 4, 5] Y
 refine eo Y (ea (cs := [_, _, _]) hT Y Y H) ?_
 rintro _ _ ⟨b_13, _, rfl, rfl, he35, H⟩
 replace hc31 := he35.cell hc31
 apply Stg.next [(12, _)] Y Y
 refine Stg.go [6, 7, 8, 9, 10, 11] [12] Y Y (qq Y (s_ 4 [_, _, _] Y) Y (qq Y (s_ 3 [_, _, _, _] Y) Y (q_ Y (q_ Y (qq Y (qi hT Y Y Y Y Y hc29 hd29) Y (qq Y (ql hT Y Y Y hc31) Y qz)))))) (ec (lift_ref12uCoef _ _) H.self Tryz.call91 Y fun v_40 h71 H => ?_)
 apply Stg.next [(126, _)] Y Y
 refine Stg.go [6] [13] Y Y (qq Y (s_ 4 [_, _, _] Y) Y qz) (ec (lift_ref02uMul _ _) H.self Tryz.call51 Y fun v_41 h73 H => ?_)
 apply Stg.next [(127, _)] Y Y
 refine Stg.go [] [14] Y Y qz (ec (lift_ref02uAdd _ _) H.self Tryz.call50 Y fun v_42 h75 H => ?_)
 apply Stg.next [(128, _)] Y Y
 refine Stg.go [] [16] Y Y qz (eo Y (es (i := 0) (qv := [(_, [_, _, _]), (_, [_, _, _, _]), (_, [_, _, _, _]), (_, [_, _, _, _]), (_, [_, _, _]), (_, [_, _, _, _])]) hT Y Y Y Y Y Y Y Y Y Y) ?_)
 rintro _ _ rfl
 apply Stg.next [] Y Y
 refine Stg.fin [] Y Y qz ?_
 exact pk (HK27 _ b_13 _ H.self) [12, 3, 4, 5, 6, 7, 8, 11] [0, 1, 2, 3, 4, 5] Y
 refine eo Y (ea (cs := [_, _, _]) hT Y Y H) ?_
 rintro _ _ ⟨b_14, _, rfl, rfl, he36, H⟩
 replace hc28 := he36.cell hc28
 replace hc30 := he36.cell hc30
 apply Stg.next [(12, _)] Y Y
 refine Stg.go [0, 1, 2, 3, 4, 6, 7, 8, 9, 10, 11] [5] Y Y (qq Y (s_ 5 [_, _, _, _] Y) Y (q_ Y (q_ Y (qq Y (qi hT Y Y Y Y Y hc27 hd27) Y (qq Y (ql hT Y Y Y hc28) Y (qq Y (s_ 4 [_, _, _] Y) Y (qq Y (s_ 3 [_, _, _, _] Y) Y (q_ Y (q_ Y (qq Y (qi hT Y Y Y Y Y hc29 hd29) Y (qq Y (ql hT Y Y Y hc30) Y qz))))))))))) (ec (lift_ref12uCoef _ _) H.self Tryz.call91 Y fun v_43 h77 H => ?_)
 obtain ⟨hc37, H⟩ := H
 apply Stg.next [(119, _)] Y Y
 refine Stg.go [6, 7, 8, 9, 10, 11] [12] Y Y (qq Y (s_ 4 [_, _, _] Y) Y (qq Y (s_ 3 [_, _, _, _] Y) Y (q_ Y (q_ Y (qq Y (qi hT Y Y Y Y Y hc29 hd29) Y (qq Y (ql hT Y Y Y hc37) Y qz)))))) (ec (lift_ref12uCoef _ _) H.self Tryz.call91 Y fun v_44 h79 H => ?_)
 apply Stg.next [(126, _)] Y Y
 refine Stg.go [6] [13] Y Y (qq Y (s_ 4 [_, _, _] Y) Y qz) (ec (lift_ref02uMul _ _) H.self Tryz.call51 Y fun v_45 h81 H => ?_)
 apply Stg.next [(127, _)] Y Y
 refine Stg.go [] [14] Y Y qz (ec (lift_ref02uAdd _ _) H.self Tryz.call50 Y fun v_46 h83 H => ?_)
 apply Stg.next [(128, _)] Y Y
 refine Stg.go [] [16] Y Y qz (eo Y (es (i := 0) (qv := [(_, [_, _, _]), (_, [_, _, _, _]), (_, [_, _, _, _]), (_, [_, _, _, _]), (_, [_, _, _]), (_, [_, _, _, _])]) hT Y Y Y Y Y Y Y Y Y Y) ?_)
 rintro _ _ rfl
 apply Stg.next [] Y Y
 refine Stg.fin [] Y Y qz ?_
 exact pk (HK27 _ b_14 _ H.self) [12, 3, 4, 5, 6, 7, 8, 11] [0, 1, 2, 3, 4, 5] Y
 refine xt (tx (tx (bh (tg (sR (lq Y (s_ 0 [_, _, _, _] Y) (sp hT 1 [(_, [_, _, _, _]), (_, [_, _, _, _]), (_, [_, _, _, _]), (_, [_, _, _]), (_, [_, _, _, _])] Y Y Y Y Y Y Y Y Y Y Y fun _ => ?_)))))))
 refine ng (rt ?_)
 exact rc (i := 1) hT [_, _, _, _] Y Y Y Y Y Y Y Y Y H
 refine rg (p_ 2 Y (lq Y (l_ 4 Y) (p_ 3 Y ?_)))
 refine AtL.splitB (t := 30) H Y (fun H => ?_) (fun H => ?_)
 refine p_ 6 Y (nl ?_)
 exact pk (HK9 _ () _ H) [36, 3, 4, 5, 6, 7, 8, 9, 10] [0, 1, 2, 3, 4] Y
 refine p_ 5 Y (lq Y (l_ 2 Y) (p_ 5 Y (nl ?_)))
 exact pk (HK9 _ () _ H) [36, 3, 4, 5, 6, 7, 8, 9, 10] [0, 1, 2, 3, 4] Y
 apply AtC.stages [2, 6, 7, 8, 9, 11, 12] [[], [], [], [], [], [], [2], [2, 6], [2, 6, 7], [2, 6, 7, 8], [2, 6, 7, 8, 9], [], [2, 6, 7, 8, 9, 11]] [[], [0], [0, 1], [], [], [4], [0, 1, 2, 4, 5], (ra 7), (ra 8), (ra 9), (ra 10), [], (ra 12)] hmix (by kernel_rfl) [(13, _), (14, _), (16, _), (17, _), (18, _)] Y 7 Y
 refine Stg.go [0, 1, 3, 4, 5] [2, 11] Y Y (q_ Y (qq Y (s_ 3 [_, _, _] Y) Y (qq Y (s_ 2 [_, _, _] Y) Y (q_ Y (qq Y (s_ 1 [_, _, _] Y) Y qz))))) ?_
 refine EAll.cons ?_ ?_
 refine EOp.e Y Y Y (cl (fun h => ref02uOf _ h _) H.self Y Tryz.call36 Y (fun w m hr hw => lift_ref02uOf _ w m hr _ hw)) ?_
 rintro _ _ ⟨v, h3, rfl, rfl, H⟩
 apply Stg.next [(15, _)] Y Y
 refine Stg.go [3, 4, 5] [6, 11] Y Y (qq Y (s_ 2 [_, _, _] Y) Y (q_ Y (qq Y (s_ 1 [_, _, _] Y) Y qz))) ?_
 refine EAll.cons ?_ ?_
 refine EOp.e Y Y Y (cl (fun h => ref02uOf _ h _) H.self Y Tryz.call36 Y (fun w m hr hw => lift_ref02uOf _ w m hr _ hw)) ?_
 rintro _ _ ⟨v_1, h5, rfl, rfl, H⟩
 apply Stg.next [(19, _)] Y Y
 refine Stg.go [3] [7, 11] Y Y (qq Y (s_ 2 [_, _, _] Y) Y qz) ?_
 refine EAll.cons ?_ ?_
 refine EOp.e Y Y Y (cl (fun h => ref02uMul _ _ h _) H.self Y Tryz.call51 Y (fun w m hr hw => lift_ref02uMul _ _ w m hr _ hw)) ?_
 rintro _ _ ⟨v_2, h7, rfl, rfl, H⟩
 apply Stg.next [(20, _)] Y Y
 refine Stg.go [] [8, 11] Y Y qz ?_
 refine EAll.cons ?_ ?_
 refine EOp.e Y Y Y (cl (fun h => ref02uAdd _ _ h _) H.self Y Tryz.call50 Y (fun w m hr hw => lift_ref02uAdd _ _ w m hr _ hw)) ?_
 rintro _ _ ⟨v_3, h9, rfl, rfl, H⟩
 apply Stg.next [(21, _)] Y Y
 refine Stg.go [] [9, 11] Y Y qz ?_
 refine EAll.cons ?_ ?_
 refine EOp.e Y Y Y (cl (fun h => ref02uForm _ h _) H.self Y Tryz.call48 Y (fun w m hr hw => lift_ref02uForm _ w m hr _ hw)) ?_
 rintro _ _ ⟨v_4, h11, rfl, rfl, H⟩
 apply Stg.next [(22, _), (23, _)] Y Y
 refine Stg.go [10] [11] Y Y (qq Y (qb (cs := [_, _, _, _]) hT Y Y Y Y Y Y) Y qz) (eo Y (ea (cs := [_, _, _, _]) hT Y Y H) ?_)
 rintro _ _ ⟨b_4, _, rfl, rfl, he1, H⟩
 apply Stg.next [(7, _)] Y Y
 refine Stg.go [10] [12] Y Y (qq Y (qb (cs := [_, _, _, _]) hT Y Y Y Y Y Y) Y qz) (eo Y (es (i := 0) (qv := [(_, [_, _, _, _]), (_, [_, _, _, _]), (_, [_, _, _, _]), (_, [_, _, _]), (_, [_, _, _, _])]) hT Y Y Y Y Y Y Y Y Y Y) ?_)
 rintro _ _ rfl
 apply Stg.next [] Y Y
 refine Stg.fin [] Y Y qz ?_
 exact pk (HK1 _ b_4 _ H.self) [7, 3, 4, 5, 6] [0, 1, 2, 3, 4] Y
 refine eo Y (ea (cs := [_, _, _, _]) hT Y Y H) ?_
 rintro _ _ ⟨b_5, _, rfl, rfl, he2, H⟩
 apply Stg.next [(7, _)] Y Y
 refine Stg.go [] [9] Y Y qz (ec (lift_ref02uForm _) H.self Tryz.call48 Y fun v_5 h13 H => ?_)
 apply Stg.next [(22, _), (23, _)] Y Y
 refine Stg.go [10] [12] Y Y (qq Y (qb (cs := [_, _, _, _]) hT Y Y Y Y Y Y) Y qz) (eo Y (es (i := 0) (qv := [(_, [_, _, _, _]), (_, [_, _, _, _]), (_, [_, _, _, _]), (_, [_, _, _]), (_, [_, _, _, _])]) hT Y Y Y Y Y Y Y Y Y Y) ?_)
 rintro _ _ rfl
 apply Stg.next [] Y Y
 refine Stg.fin [] Y Y qz ?_
 exact pk (HK1 _ b_5 _ H.self) [7, 3, 4, 5, 6] [0, 1, 2, 3, 4] Y
 refine eo Y (ea (cs := [_, _, _, _]) hT Y Y H) ?_
 rintro _ _ ⟨b_6, _, rfl, rfl, he3, H⟩
 apply Stg.next [(7, _)] Y Y
 refine Stg.go [] [8] Y Y qz (ec (lift_ref02uAdd _ _) H.self Tryz.call50 Y fun v_6 h15 H => ?_)
 apply Stg.next [(21, _)] Y Y
 refine Stg.go [] [9] Y Y qz (ec (lift_ref02uForm _) H.self Tryz.call48 Y fun v_7 h17 H => ?_)
 apply Stg.next [(22, _), (23, _)] Y Y
 refine Stg.go [10] [12] Y Y (qq Y (qb (cs := [_, _, _, _]) hT Y Y Y Y Y Y) Y qz) (eo Y (es (i := 0) (qv := [(_, [_, _, _, _]), (_, [_, _, _, _]), (_, [_, _, _, _]), (_, [_, _, _]), (_, [_, _, _, _])]) hT Y Y Y Y Y Y Y Y Y Y) ?_)
 rintro _ _ rfl
 apply Stg.next [] Y Y
 refine Stg.fin [] Y Y qz ?_
 exact pk (HK1 _ b_6 _ H.self) [7, 3, 4, 5, 6] [0, 1, 2, 3, 4] Y
 refine eo Y (ea (cs := [_, _, _, _]) hT Y Y H) ?_
 rintro _ _ ⟨b_7, _, rfl, rfl, he4, H⟩
 apply Stg.next [(7, _)] Y Y
 refine Stg.go [3] [7] Y Y (qq Y (s_ 3 [_, _, _] Y) Y qz) (ec (lift_ref02uMul _ _) H.self Tryz.call51 Y fun v_8 h19 H => ?_)
 apply Stg.next [(20, _)] Y Y
 refine Stg.go [] [8] Y Y qz (ec (lift_ref02uAdd _ _) H.self Tryz.call50 Y fun v_9 h21 H => ?_)
 apply Stg.next [(21, _)] Y Y
 refine Stg.go [] [9] Y Y qz (ec (lift_ref02uForm _) H.self Tryz.call48 Y fun v_10 h23 H => ?_)
 apply Stg.next [(22, _), (23, _)] Y Y
 refine Stg.go [10] [12] Y Y (qq Y (qb (cs := [_, _, _, _]) hT Y Y Y Y Y Y) Y qz) (eo Y (es (i := 0) (qv := [(_, [_, _, _, _]), (_, [_, _, _, _]), (_, [_, _, _, _]), (_, [_, _, _]), (_, [_, _, _, _])]) hT Y Y Y Y Y Y Y Y Y Y) ?_)
 rintro _ _ rfl
 apply Stg.next [] Y Y
 refine Stg.fin [] Y Y qz ?_
 exact pk (HK1 _ b_7 _ H.self) [7, 3, 4, 5, 6] [0, 1, 2, 3, 4] Y
 refine eo Y (ea (cs := [_, _, _, _]) hT Y Y H) ?_
 rintro _ _ ⟨b_8, _, rfl, rfl, he5, H⟩
 apply Stg.next [(7, _)] Y Y
 refine Stg.go [3, 4, 5] [6] Y Y (qq Y (s_ 3 [_, _, _] Y) Y (q_ Y (qq Y (s_ 2 [_, _, _] Y) Y qz))) (ec (lift_ref02uOf _) H.self Tryz.call36 Y fun v_11 h25 H => ?_)
 apply Stg.next [(19, _)] Y Y
 refine Stg.go [3] [7] Y Y (qq Y (s_ 3 [_, _, _] Y) Y qz) (ec (lift_ref02uMul _ _) H.self Tryz.call51 Y fun v_12 h27 H => ?_)
 apply Stg.next [(20, _)] Y Y
 refine Stg.go [] [8] Y Y qz (ec (lift_ref02uAdd _ _) H.self Tryz.call50 Y fun v_13 h29 H => ?_)
 apply Stg.next [(21, _)] Y Y
 refine Stg.go [] [9] Y Y qz (ec (lift_ref02uForm _) H.self Tryz.call48 Y fun v_14 h31 H => ?_)
 apply Stg.next [(22, _), (23, _)] Y Y
 refine Stg.go [10] [12] Y Y (qq Y (qb (cs := [_, _, _, _]) hT Y Y Y Y Y Y) Y qz) (eo Y (es (i := 0) (qv := [(_, [_, _, _, _]), (_, [_, _, _, _]), (_, [_, _, _, _]), (_, [_, _, _]), (_, [_, _, _, _])]) hT Y Y Y Y Y Y Y Y Y Y) ?_)
 rintro _ _ rfl
 apply Stg.next [] Y Y
 refine Stg.fin [] Y Y qz ?_
 exact pk (HK1 _ b_8 _ H.self) [7, 3, 4, 5, 6] [0, 1, 2, 3, 4] Y
 refine eo Y (ea (cs := [_, _, _, _]) hT Y Y H) ?_
 rintro _ _ ⟨b_9, _, rfl, rfl, he6, H⟩
 apply Stg.next [(7, _)] Y Y
 refine Stg.go [0, 1, 3, 4, 5] [2] Y Y (q_ Y (qq Y (s_ 4 [_, _, _] Y) Y (qq Y (s_ 3 [_, _, _] Y) Y (q_ Y (qq Y (s_ 2 [_, _, _] Y) Y qz))))) (ec (lift_ref02uOf _) H.self Tryz.call36 Y fun v_15 h33 H => ?_)
 apply Stg.next [(15, _)] Y Y
 refine Stg.go [3, 4, 5] [6] Y Y (qq Y (s_ 3 [_, _, _] Y) Y (q_ Y (qq Y (s_ 2 [_, _, _] Y) Y qz))) (ec (lift_ref02uOf _) H.self Tryz.call36 Y fun v_16 h35 H => ?_)
 apply Stg.next [(19, _)] Y Y
 refine Stg.go [3] [7] Y Y (qq Y (s_ 3 [_, _, _] Y) Y qz) (ec (lift_ref02uMul _ _) H.self Tryz.call51 Y fun v_17 h37 H => ?_)
 apply Stg.next [(20, _)] Y Y
 refine Stg.go [] [8] Y Y qz (ec (lift_ref02uAdd _ _) H.self Tryz.call50 Y fun v_18 h39 H => ?_)
 apply Stg.next [(21, _)] Y Y
 refine Stg.go [] [9] Y Y qz (ec (lift_ref02uForm _) H.self Tryz.call48 Y fun v_19 h41 H => ?_)
 apply Stg.next [(22, _), (23, _)] Y Y
 refine Stg.go [10] [12] Y Y (qq Y (qb (cs := [_, _, _, _]) hT Y Y Y Y Y Y) Y qz) (eo Y (es (i := 0) (qv := [(_, [_, _, _, _]), (_, [_, _, _, _]), (_, [_, _, _, _]), (_, [_, _, _]), (_, [_, _, _, _])]) hT Y Y Y Y Y Y Y Y Y Y) ?_)
 rintro _ _ rfl
 apply Stg.next [] Y Y
 refine Stg.fin [] Y Y qz ?_
 exact pk (HK1 _ b_9 _ H.self) [7, 3, 4, 5, 6] [0, 1, 2, 3, 4] Y
theorem lift_ref02uDiv (x0 : Bool × Sl × Sl) (y : Bool × Sl × Sl) : Lf Tryz.prog 94 [Value.agg (C_bool_sl_sl x0).toArray, Value.agg (C_bool_sl_sl y).toArray] (fun r => Value.agg (C_bool_sl_sl r).toArray) (ref02uDiv x0 y) := by
 refine Lf.go Tryz.func94 Tryz.ntmps94 Y Y [0, 1] Y fun w m S H => ?_
 unfold ref02uDiv at H
 refine sR (bx [_, _, _] H Y Y Y Y fun b _ H => bx [_, _, _] H Y Y Y Y fun b_1 _ H => al hT [_, _, _] H Y Y Y fun b_2 _ H => nl (tg (cs (sR ?_))))
 refine p_ 1 Y (lq Y (l_ 1 Y) (p_ 2 Y (ng ?_)))
 refine cb H.self Y (fun H => ?_) (fun H => ?_)
 refine sR (lc (lift_ref02uInt _) H Tryz.call14 Y fun v h1 H => sp hT 0 [(_, [_, _, _]), (_, [_, _, _]), (_, [_, _, _])] Y Y Y Y Y Y Y Y Y Y Y fun _ => ng (rt (tr ?_)))
 exact rc (i := 0) hT [_, _, _] Y Y Y Y Y Y Y Y Y H
 refine sk (tg ?_)
 apply AtC.seqS [9, 14, 16, 17] A3u2 G3u2 hmix (by kernel_rfl) (nm 10 [_, _, _, _, _, _, _, _, _] ++ nm 20 [_, _, _, _]) Y 4 Y
 refine Stg.go (ra 9 ++ [10, 11, 12, 13]) [9] Y Y (q_ Y (qq Y (l_ 2 Y) Y (q_ Y (qq Y (l_ 1 Y) Y (q_ Y (q_ Y (qq Y (l_ 2 Y) Y (q_ Y (qq Y (l_ 1 Y) Y (q_ Y (qq Y (l_ 2 Y) Y (q_ Y (qq Y (l_ 1 Y) Y qz))))))))))))) (ec (lift_ref01uMul _ _) H Tryz.call117 Y fun v_1 h2 H => ?_)
 apply Stg.next [(19, _)] Y Y
 refine Stg.go [0, 1, 2, 3, 4, 10, 11, 12, 13] [14] Y Y (q_ Y (qq Y (l_ 2 Y) Y (q_ Y (qq Y (l_ 1 Y) Y (q_ Y (q_ Y (qq Y (l_ 2 Y) Y (q_ Y (qq Y (l_ 1 Y) Y qz))))))))) (ec (lift_ref01uMul _ _) H Tryz.call117 Y fun v_2 h3 H => ?_)
 apply Stg.next [(24, _), (25, _)] Y Y
 refine Stg.go [0, 1, 2, 3, 4, 15] [16] Y Y (q_ Y (qq Y (l_ 2 Y) Y (q_ Y (qq Y (l_ 1 Y) Y (q_ Y (qq Y (qb (cs := [_, _, _]) hT Y Y Y Y Y Y) Y qz)))))) (ec (lift_ref02uLow _) H Tryz.call114 Y fun v_3 h4 H => ?_)
 apply Stg.next [(26, _)] Y Y
 refine Stg.go [] [17] Y Y qz (eo Y (es (i := 0) (qv := [(_, [_, _, _]), (_, [_, _, _]), (_, [_, _, _])]) hT Y Y Y Y Y Y Y Y Y Y) ?_)
 rintro _ _ rfl
 apply Stg.next [] Y Y
 refine Stg.fin [] Y Y qz (tg (rt ?_))
 exact rc (i := 0) hT [_, _, _] Y Y Y Y Y Y Y Y Y H
theorem lift_ref02uNeg (x0 : Bool × Sl × Sl) : Lf Tryz.prog 93 [Value.agg (C_bool_sl_sl x0).toArray] (fun r => Value.agg (C_bool_sl_sl r).toArray) (ref02uNeg x0) := by
 refine Lf.go Tryz.func93 Tryz.ntmps93 Y Y [0] Y fun w m S H => ?_
 unfold ref02uNeg at H
 refine sR (bx [_, _, _] H Y Y Y Y fun b _ H => al hT [_, _, _] H Y Y Y fun b_1 _ H => nl (tg ?_))
 refine AtC.joinSeq (β := Unit) (fun (t0 : Bool × Sl × Sl) (bb : Unit) => []) (fun (t0 : Bool × Sl × Sl) (bb : Unit) => [(b_1, [Value.bool t0.1, Sl.toV t0.2.1, Sl.toV t0.2.2])]) [2] [] H.self Y Y (fun t0 bb h1 H => ?_) (fun J1 H HK1 => ?_)
 refine rt ?_
 exact rc (i := 0) hT [_, _, _] Y Y Y Y Y Y Y Y Y H
 refine rg (p_ 1 Y (lq Y (l_ 1 Y) (p_ 2 Y ?_)))
 refine AtL.splitB (t := 6) H Y (fun H => ?_) (fun H => ?_)
 refine p_ 3 Y (lq Y (l_ 1 Y) (p_ 6 Y (lq Y (l_ 1 Y) (p_ 1 Y (lq Y (l_ 1 Y) (lq Y (qb (cs := [_, _, _]) hT Y Y Y Y Y Y) (sp hT 0 [(_, [_, _, _]), (_, [_, _, _])] Y Y Y Y Y Y Y Y Y Y Y fun _ => ?_)))))))
 refine nl ?_
 exact pk (HK1 _ () _ H) [2] [0] Y
 refine p_ 6 Y (lq Y (l_ 1 Y) (p_ 1 Y (lq Y (l_ 1 Y) (lq Y (qb (cs := [_, _, _]) hT Y Y Y Y Y Y) (sp hT 0 [(_, [_, _, _]), (_, [_, _, _])] Y Y Y Y Y Y Y Y Y Y Y fun _ => nl ?_)))))
 exact pk (HK1 _ () _ H) [2] [0] Y
end Go.Proofs.YtjppcjbmepcneaaGreatDoor

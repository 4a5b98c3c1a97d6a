/-
  Laws that the proof of this claim's statement leans on, each proved under the conditions that it states.
-/
import Derived.Test.YtjppcjbmepcneaaGreatDoorProg
import Derived.Test.YtjppcjbmepcneaaGreatDoorSh
import Derived.Test.YtjppcjbmepcneaaGreatDoorFwC
set_option linter.unusedVariables false
set_option linter.unusedSimpArgs false
namespace Go.Proofs.YtjppcjbmepcneaaGreatDoor
open Go Go.Lift Go.Sh
set_option maxRecDepth 100000
set_option maxHeartbeats 40000000
attribute [local irreducible] Calls AtL AtC AtE AtD Eff Quiet1 Stg qAt QAll eAt EAll nextK Code.wp
def T : TTab := [(2, .int .i64, 1, 8, [Value.int .i64 0]), (3, .int .i64, 1, 8, [Value.int .i64 0]), (4, .bool, 1, 1, [Value.bool false]), (5, .int .u8, 1, 1, [Value.int .u8 0]), (9, .string, 1, 16, [Value.string (ByteArray.mk #[])]), (22, .slice 52, 1, 24, [Sl.toV Sl.nil]), (23, .slice 46, 1, 24, [Sl.toV Sl.nil]), (24, .slice 25, 1, 24, [Sl.toV Sl.nil]), (25, .slice 3, 1, 24, [Sl.toV Sl.nil]), (27, .struct #[⟨ "Bools", 3, 0, false, "", "", 0⟩, ⟨ "Reals", 3, 1, false, "", "", 8⟩, ⟨ "Rows", 22, 2, false, "", "", 16⟩, ⟨ "Atoms", 23, 3, false, "", "", 40⟩, ⟨ "Clauses", 24, 4, false, "", "", 64⟩, ⟨ "Lits", 25, 5, false, "", "", 88⟩, ⟨ "Polys", 22, 6, false, "", "", 112⟩], 7, 136, [Value.int .i64 0, Value.int .i64 0, Sl.toV Sl.nil, Sl.toV Sl.nil, Sl.toV Sl.nil, Sl.toV Sl.nil, Sl.toV Sl.nil]), (29, .slice 38, 1, 24, [Sl.toV Sl.nil]), (34, .slice 102, 1, 24, [Sl.toV Sl.nil]), (36, .struct #[⟨ "Neg", 4, 0, false, "", "", 0⟩, ⟨ "Mag", 34, 1, false, "", "", 8⟩], 2, 32, [Value.bool false, Sl.toV Sl.nil]), (38, .struct #[⟨ "Num", 36, 0, false, "", "", 0⟩, ⟨ "Den", 34, 2, false, "", "", 32⟩], 3, 56, [Value.bool false, Sl.toV Sl.nil, Sl.toV Sl.nil]), (44, .struct #[⟨ "A", 38, 0, false, "", "", 0⟩, ⟨ "B", 38, 3, false, "", "", 56⟩], 6, 112, [Value.bool false, Sl.toV Sl.nil, Sl.toV Sl.nil, Value.bool false, Sl.toV Sl.nil, Sl.toV Sl.nil]), (49, .struct #[⟨ "Var", 3, 0, false, "", "", 0⟩, ⟨ "Coef", 38, 1, false, "", "", 8⟩], 4, 64, [Value.int .i64 0, Value.bool false, Sl.toV Sl.nil, Sl.toV Sl.nil]), (50, .slice 49, 1, 24, [Sl.toV Sl.nil]), (52, .struct #[⟨ "Const", 38, 0, false, "", "", 0⟩, ⟨ "Monos", 50, 3, false, "", "", 56⟩], 4, 80, [Value.bool false, Sl.toV Sl.nil, Sl.toV Sl.nil, Sl.toV Sl.nil]), (53, .slice 3, 1, 24, [Sl.toV Sl.nil]), (55, .struct #[⟨ "Neg", 4, 0, false, "", "", 0⟩, ⟨ "Num", 53, 1, false, "", "", 8⟩, ⟨ "Den", 53, 2, false, "", "", 32⟩], 3, 56, [Value.bool false, Sl.toV Sl.nil, Sl.toV Sl.nil]), (59, .struct #[⟨ "A", 55, 0, false, "", "", 0⟩, ⟨ "B", 55, 3, false, "", "", 56⟩], 6, 112, [Value.bool false, Sl.toV Sl.nil, Sl.toV Sl.nil, Value.bool false, Sl.toV Sl.nil, Sl.toV Sl.nil]), (63, .slice 44, 1, 24, [Sl.toV Sl.nil]), (64, .slice 71, 1, 24, [Sl.toV Sl.nil]), (66, .struct #[⟨ "Basic", 25, 0, false, "", "", 0⟩, ⟨ "Rows", 22, 1, false, "", "", 24⟩, ⟨ "Values", 63, 2, false, "", "", 48⟩, ⟨ "Lower", 64, 3, false, "", "", 72⟩, ⟨ "Upper", 64, 4, false, "", "", 96⟩], 5, 120, [Sl.toV Sl.nil, Sl.toV Sl.nil, Sl.toV Sl.nil, Sl.toV Sl.nil, Sl.toV Sl.nil]), (71, .struct #[⟨ "Lit", 3, 0, false, "", "", 0⟩, ⟨ "At", 44, 1, false, "", "", 8⟩], 7, 120, [Value.int .i64 0, Value.bool false, Sl.toV Sl.nil, Sl.toV Sl.nil, Value.bool false, Sl.toV Sl.nil, Sl.toV Sl.nil]), (74, .slice 80, 1, 24, [Sl.toV Sl.nil]), (76, .pointer 127, 1, 8, [Value.pointer none]), (80, .struct #[⟨ "Update", 4, 0, false, "", "", 0⟩, ⟨ "Row", 3, 1, false, "", "", 8⟩, ⟨ "V", 3, 2, false, "", "", 16⟩, ⟨ "X", 44, 3, false, "", "", 24⟩], 9, 136, [Value.bool false, Value.int .i64 0, Value.int .i64 0, Value.bool false, Sl.toV Sl.nil, Sl.toV Sl.nil, Value.bool false, Sl.toV Sl.nil, Sl.toV Sl.nil]), (102, .int .u32, 1, 4, [Value.int .u32 0]), (105, .int .u64, 1, 8, [Value.int .u64 0]), (110, .func #[44] #[4] false, 1, 8, [Value.nilFunc]), (127, .struct #[⟨ "limbs", 3, 0, false, "", "steelyard/nat", 0⟩, ⟨ "over", 4, 1, false, "", "steelyard/nat", 8⟩], 2, 16, [Value.int .i64 0, Value.bool false]), (162, .int .u64, 1, 8, [Value.int .u64 0]), (168, .slice 64, 1, 24, [Sl.toV Sl.nil]), (193, .slice 5, 1, 24, [Sl.toV Sl.nil]), (206, .array 2 34, 2, 48, [Sl.toV Sl.nil, Sl.toV Sl.nil]), (207, .array 32 5, 32, 32, [Value.int .u8 0, Value.int .u8 0, Value.int .u8 0, Value.int .u8 0, Value.int .u8 0, Value.int .u8 0, Value.int .u8 0, Value.int .u8 0, Value.int .u8 0, Value.int .u8 0, Value.int .u8 0, Value.int .u8 0, Value.int .u8 0, Value.int .u8 0, Value.int .u8 0, Value.int .u8 0, Value.int .u8 0, Value.int .u8 0, Value.int .u8 0, Value.int .u8 0, Value.int .u8 0, Value.int .u8 0, Value.int .u8 0, Value.int .u8 0, Value.int .u8 0, Value.int .u8 0, Value.int .u8 0, Value.int .u8 0, Value.int .u8 0, Value.int .u8 0, Value.int .u8 0, Value.int .u8 0])]
theorem hT : TTab.Ok Tryz.prog T := TTab.ok_cons (by kernel_rfl) (by kernel_rfl) (TTab.ok_cons (by kernel_rfl) (by kernel_rfl) (TTab.ok_cons (by kernel_rfl) (by kernel_rfl) (TTab.ok_cons (by kernel_rfl) (by kernel_rfl) (TTab.ok_cons (by kernel_rfl) (by kernel_rfl) (TTab.ok_cons (by kernel_rfl) (by kernel_rfl) (TTab.ok_cons (by kernel_rfl) (by kernel_rfl) (TTab.ok_cons (by kernel_rfl) (by kernel_rfl) (TTab.ok_cons (by kernel_rfl) (by kernel_rfl) (TTab.ok_cons (by kernel_rfl) (by kernel_rfl) (TTab.ok_cons (by kernel_rfl) (by kernel_rfl) (TTab.ok_cons (by kernel_rfl) (by kernel_rfl) (TTab.ok_cons (by kernel_rfl) (by kernel_rfl) (TTab.ok_cons (by kernel_rfl) (by kernel_rfl) (TTab.ok_cons (by kernel_rfl) (by kernel_rfl) (TTab.ok_cons (by kernel_rfl) (by kernel_rfl) (TTab.ok_cons (by kernel_rfl) (by kernel_rfl) (TTab.ok_cons (by kernel_rfl) (by kernel_rfl) (TTab.ok_cons (by kernel_rfl) (by kernel_rfl) (TTab.ok_cons (by kernel_rfl) (by kernel_rfl) (TTab.ok_cons (by kernel_rfl) (by kernel_rfl) (TTab.ok_cons (by kernel_rfl) (by kernel_rfl) (TTab.ok_cons (by kernel_rfl) (by kernel_rfl) (TTab.ok_cons (by kernel_rfl) (by kernel_rfl) (TTab.ok_cons (by kernel_rfl) (by kernel_rfl) (TTab.ok_cons (by kernel_rfl) (by kernel_rfl) (TTab.ok_cons (by kernel_rfl) (by kernel_rfl) (TTab.ok_cons (by kernel_rfl) (by kernel_rfl) (TTab.ok_cons (by kernel_rfl) (by kernel_rfl) (TTab.ok_cons (by kernel_rfl) (by kernel_rfl) (TTab.ok_cons (by kernel_rfl) (by kernel_rfl) (TTab.ok_cons (by kernel_rfl) (by kernel_rfl) (TTab.ok_cons (by kernel_rfl) (by kernel_rfl) (TTab.ok_cons (by kernel_rfl) (by kernel_rfl) (TTab.ok_cons (by kernel_rfl) (by kernel_rfl) (TTab.ok_cons (by kernel_rfl) (by kernel_rfl) (TTab.ok_cons (by kernel_rfl) (by kernel_rfl) (TTab.ok_nil _)))))))))))))))))))))))))))))))))))))
theorem p_ {n : Nat} {B : Base} {ops : Array Oper} {Q : Exit → Act → World → Prop} {h : Hp} (k : Nat) {L L' : Frm} {l l' : List Oper} (hr : runPG T n ops k L l = some (L', l')) (H : AtL Tryz.prog n B ops Q L' h l') : AtL Tryz.prog n B ops Q L h l := pg hT k hr H
theorem q_ {n : Nat} {h : Hp} {ops : List Oper} {V : Frm} {i : Nat} {r : List Nat} {v : Value} (hb : qpB T n ops V i = some (v, v)) (h2 : QAll Tryz.prog n ops V h r) : QAll Tryz.prog n ops V h (i :: r) := qp hT hb h2
theorem l_ {n : Nat} {L : Frm} {h : Hp} {o : Oper} (i : Nat) {v : Value} {b : Nat} (hb : lPf T L h o i = some (v, b, b)) : Quiet1 Tryz.prog n L h o v := lP hT i hb
theorem s_ {n : Nat} {L : Frm} {h : Hp} {o : Oper} (i : Nat) (l : List Value) {b : Nat} (hb : lSf T L h o i = some (l, b, b)) : Quiet1 Tryz.prog n L h o (.agg l.toArray) := lS2 hT i l hb
theorem hmix : Tryz.prog.follows .mixedOrders = true := by kernel_rfl
def A1u0 : List (List Nat) := (rl [([], 8), ([7], 2)])
def G1u0 : List (List Nat) := [[], [0], [], [], [3], [], [5], [2, 3, 4, 5, 6], (ra 8), (ra 9)]
theorem lift_nat_trim (x0 : Sl) : Lf Tryz.prog 116 [Sl.toV x0] Sl.toV (nat_trim x0) := by
 refine Lf.go Tryz.func116 Tryz.ntmps116 Y Y [0] Y fun w m S H => ?_
 unfold nat_trim at H
 refine sR (p_ 1 Y (ng (cs (ck ?_))))
 refine AtC.loopM (fun (s0 : Sl) => [(0, Sl.toV s0)]) (fun (s0 : Sl) => []) [] [0] [] [] H Y Y Y (by decide) Y (fun Kp1 s0 h0 H Q1 HK1 => ?_)
 refine cs ?_
 refine AtC.joinSeq (β := Unit) (fun (t0 : Bool) (bb : Unit) => [(14, Value.bool t0)]) (fun (t0 : Bool) (bb : Unit) => []) [0] [] H Y Y (fun t0 bb h1 H => ?_) (fun J2 H HK2 => ?_)
 refine cb H Y (fun H => ?_) (fun H => ?_)
 refine sk (tg (ck (rg (p_ 4 Y ?_))))
 refine AtL.sl (hT := hT) H Y Y Y Y Y Y Y (fun h => by cases h <;> rfl) Y (fun v_1 H => ?_)
 refine p_ 1 Y (nl (bn ?_))
 exact pk (HK1 _ _ H) [0] [] Y
 refine xt (tx (tx (bh (tg (sR (p_ 2 Y (ng ?_)))))))
 refine rt ?_
 exact r1 2 Y Y Y H
 refine rg (p_ 4 Y ?_)
 refine AtL.splitB (t := 6) H Y (fun H => ?_) (fun H => ?_)
 refine p_ 9 Y (ix hT H Y Y Y Y Y Y fun _ H => p_ 1 Y (ld hT H Y Y Y Y fun _ H => p_ 3 Y (nl ?_)))
 exact pk (HK2 _ () _ H) [14, 0] [] Y
 refine p_ 8 Y (nl ?_)
 exact pk (HK2 _ () _ H) [14, 0] [] Y
theorem lift_nat_Of (n : Int) : Lf Tryz.prog 49 [Value.int .u64 n] Sl.toV (nat_Of n) := by
 refine Lf.go Tryz.func49 Tryz.ntmps49 Y Y [0] Y fun w m S H => ?_
 unfold nat_Of at H
 refine sR (p_ 1 Y (ng (sR (p_ 5 Y ?_))))
 refine AtLX.bs (hT := hT) (cs := [_, _]) H Y Y Y Y Y Y Y Y Y (fun a h0 H => ?_)
 refine lc (lift_nat_trim _) H Tryz.call116 Y fun v_1 h1 H => p_ 1 Y (ng (rt ?_))
 exact r1 2 Y Y Y H
theorem lift_ratio_Of (n : Int) : Lf Tryz.prog 12 [Value.int .i64 n] (fun r => Value.agg (C_bool_sl_sl r).toArray) (ratio_Of n) := by
 refine Lf.go Tryz.func12 Tryz.ntmps12 Y Y [0] Y fun w m S H => ?_
 unfold ratio_Of at H
 refine sR (al hT [_, _, _] H Y Y Y fun b _ H => nl (tg (sR (p_ 3 Y ?_))))
 replace H := H.self
 refine ng ?_
 refine AtC.joinSeq (β := Unit) (fun (t0 : Int) (bb : Unit) => [(3, Value.int .u64 t0)]) (fun (t0 : Int) (bb : Unit) => []) [0, 2] [0] (H _ rfl) Y Y (fun t0 bb h1 H => ?_) (fun J1 H HK1 => ?_)
 refine sR (p_ 3 Y (lc (lift_nat_Of _) H Tryz.call49 Y fun v h2 H => lq Y (qb (cs := [_, _]) hT Y Y Y Y Y Y) (lq Y (qb (cs := [_, _, _]) hT Y Y Y Y Y Y) (sp hT 0 [(_, [_, _, _])] Y Y Y Y Y Y Y Y Y Y Y fun _ => ng (rt ?_)))))
 exact rc (i := 0) hT [_, _, _] Y Y Y Y Y Y Y Y Y H
 refine sR (p_ 2 Y (ng ?_))
 refine cb H Y (fun H => ?_) (fun H => ?_)
 refine rg (p_ 3 Y (nl ?_))
 exact pk (HK1 _ () _ (H _ rfl)) [3, 0, 2] [0] Y
 refine sk ?_
 exact pk (HK1 _ () _ H) [3, 0, 2] [0] Y
theorem lift_law14uone : Lf Tryz.prog 52 [] (fun r => Value.agg (C_i64ui64usl_sl_sl_sl_sl r).toArray) (law14uone) := by
 refine Lf.go Tryz.func52 Tryz.ntmps52 Y Y [] Y fun w m S H => ?_
 unfold law14uone at H
 refine sR (al hT [_, _, _, _, _, _, _] H Y Y Y fun b _ H => nl (tg (sR (lc (lift_ratio_Of _) H.self Tryz.call12 Y fun v h1 H => lq Y (qb (cs := [_, _, _, _]) hT Y Y Y Y Y Y) (lc (lift_ratio_Of _) H Tryz.call12 Y fun v_1 h2 H => ?_)))))
 refine lq Y (qb (cs := [_, _, _, _]) hT Y Y Y Y Y Y) ?_
 refine AtLX.bs (hT := hT) (cs := [_, _, _, _, _, _, _, _]) H Y Y Y Y Y Y Y Y Y (fun a h3 H => ?_)
 refine lq Y (qb (cs := [_, _, _, _]) hT Y Y Y Y Y Y) ?_
 refine AtLX.bs (hT := hT) (cs := [_, _, _, _]) H Y Y Y Y Y Y Y Y Y (fun a_1 h4 H => ?_)
 refine lq Y (qb (cs := [_, _, _, _, _, _, _]) hT Y Y Y Y Y Y) (sp hT 0 [(_, [_, _, _, _, _, _, _])] Y Y Y Y Y Y Y Y Y Y Y fun _ => ng (rt ?_))
 exact rc (i := 0) hT [_, _, _, _, _, _, _] Y Y Y Y Y Y Y Y Y H
theorem lift_slices_Clone_api_Poly_api_Poly (s0 : Sl) : Lf Tryz.prog 77 [Sl.toV s0] Sl.toV (slices_Clone_api_Poly_api_Poly s0) := by
 refine Lf.go Tryz.func77 Tryz.ntmps77 Y Y [0] Y fun w m S H => ?_
 unfold slices_Clone_api_Poly_api_Poly at H
 refine sR (p_ 1 Y (ng (cs (sR (p_ 1 Y (lq Y (Quiet1.eqNilS hT Y Y Y Y) (ng ?_)))))))
 refine cb H Y (fun H => ?_) (fun H => ?_)
 refine sR (p_ 1 Y (ng (rt (tr ?_))))
 exact r1 2 Y Y Y H
 refine sk (tg (sR ?_))
 refine AtLX.bs (hT := hT) (cs := []) H Y Y Y Y Y Y Y Y Y (fun a h0 H => ?_)
 refine p_ 1 Y (le Y (EffX.appendS (s := _) (u := _) hT Y Y Y Y Y Y Y Y Y Y (by decide) H) ?_)
 rintro _ _ ⟨v_1, h1, rfl, rfl, H⟩
 refine p_ 1 Y (ng (rt ?_))
 exact r1 2 Y Y Y H
theorem lift_tableau_New (p : Int × Int × Sl × Sl × Sl × Sl × Sl) : Lf Tryz.prog 26 [Value.agg (C_i64ui64usl_sl_sl_sl_sl p).toArray] (fun r => Value.agg (C_sl_sl_sl_sl_sl r).toArray) (tableau_New p) := by
 refine Lf.go Tryz.func26 Tryz.ntmps26 Y Y [0] Y fun w m S H => ?_
 unfold tableau_New at H
 refine sR (bx [_, _, _, _, _, _, _] H Y Y Y Y fun b _ H => al hT [_, _, _, _, _] H Y Y Y fun b_1 _ H => nl (tg (sR (p_ 1 Y (lq Y (l_ 1 Y) ?_)))))
 refine p_ 1 Y (lq Y (l_ 1 Y) (p_ 3 Y ?_))
 replace H := H.self
 refine ng (cs (sR (p_ 1 Y (lq Y (l_ 1 Y) (p_ 2 Y (ng (ck ?_)))))))
 refine AtC.loopM (fun (s0 : Int × Sl × Sl × Sl × Sl × Sl) => [(14, Value.int .i64 s0.1)]) (fun (s0 : Int × Sl × Sl × Sl × Sl × Sl) => [(b_1, [Sl.toV s0.2.1, Sl.toV s0.2.2.1, Sl.toV s0.2.2.2.1, Sl.toV s0.2.2.2.2.1, Sl.toV s0.2.2.2.2.2])]) [1, 2, 3, 13] [14, 1, 2, 3, 13] [1] [0, 1] (H _ rfl) Y Y Y (by decide) Y (fun Kp1 s0 h1 H Q1 HK1 => ?_)
 refine sR (p_ 1 Y (ng (cs ?_)))
 refine cb H Y (fun H => ?_) (fun H => ?_)
 refine sk (tg (cs (ck (sR (p_ 2 Y (ng (rg ?_)))))))
 refine p_ 1 Y (lq Y (l_ 0 Y) (p_ 1 Y (lq Y (l_ 1 Y) (p_ 2 Y ?_))))
 refine AtLX.bs (hT := hT) (cs := [_]) H Y Y Y Y Y Y Y Y Y (fun a h2 H => ?_)
 refine le Y (EffX.appendS (s := _) (u := _) hT Y Y Y Y Y Y Y Y Y Y (by decide) H) ?_
 rintro _ _ ⟨v_1, h3, rfl, rfl, H⟩
 refine p_ 1 Y (le Y (ep (i := 0) (qv := [(_, [_, _, _, _, _]), (_, [_, _, _, _, _, _, _])]) hT Y Y Y Y Y Y Y Y Y) ?_)
 rintro _ _ rfl
 refine nl (bn (tg (rg (p_ 2 Y (nl ?_)))))
 exact pk (HK1 _ _ H) [14, 1, 2, 3, 13] [0, 1] Y
 refine xt (tx (tx (bh (tg (sR (p_ 1 Y (lq Y (l_ 1 Y) ?_)))))))
 refine lc (lift_slices_Clone_api_Poly_api_Poly _) H Tryz.call77 Y fun v_2 h4 H => p_ 1 Y (le Y (ep (i := 0) (qv := [(_, [_, _, _, _, _]), (_, [_, _, _, _, _, _, _])]) hT Y Y Y Y Y Y Y Y Y) ?_)
 rintro _ _ rfl
 refine ng ?_
 refine AtC.joinSeq (β := Unit) (fun (t0 : Sl × Sl × Sl × Sl × Sl) (bb : Unit) => []) (fun (t0 : Sl × Sl × Sl × Sl × Sl) (bb : Unit) => [(b_1, [Sl.toV t0.1, Sl.toV t0.2.1, Sl.toV t0.2.2.1, Sl.toV t0.2.2.2.1, Sl.toV t0.2.2.2.2])]) [2] [] H Y Y (fun t0 bb h5 H => ?_) (fun J2 H HK2 => ?_)
 refine sR (lq Y (s_ 0 [_, _, _, _, _] Y) (sp hT 0 [(_, [_, _, _, _, _])] Y Y Y Y Y Y Y Y Y Y Y fun _ => ng (rt ?_)))
 exact rc (i := 0) hT [_, _, _, _, _] Y Y Y Y Y Y Y Y Y H
 apply AtC.stages [1, 3, 5, 7, 9, 11] (rl [([], 6), ([1], 2), ([1, 3, 7], 2), ([1, 3, 5, 7, 9], 2)]) [[], [0], [], [2], [], [4], [0, 1], [0, 1, 6], [0, 1, 2, 3, 6, 7], [0, 1, 2, 3, 6, 7, 8], (ra 10), (ra 11)] hmix (by kernel_rfl) [(31, _), (33, _), (35, _)] Y 6 Y
 refine Stg.go [0, 2, 4] [1, 3, 5] Y Y (q_ Y (q_ Y (q_ Y qz))) ?_
 refine EAll.cons ?_ ?_
 replace H := H.1
 refine EOp.e Y Y Y (EffX.mkS hT Y Y Y Y Y Y Y Y (by decide) H) ?_
 rintro _ _ ⟨v_3, h6, rfl, rfl, H⟩
 apply Stg.next [(32, _), (37, _)] Y Y
 refine Stg.go [2, 4, 6] [3, 5, 7] Y Y (q_ Y (q_ Y (q_ Y qz))) ?_
 refine EAll.cons ?_ ?_
 replace H := H.1
 refine EOp.e Y Y Y (EffX.mkS hT Y Y Y Y Y Y Y Y (by decide) H) ?_
 rintro _ _ ⟨v_4, h7, rfl, rfl, H⟩
 apply Stg.next [(34, _)] Y Y
 refine Stg.go [4, 6] [5, 7] Y Y (q_ Y (q_ Y qz)) ?_
 refine EAll.cons ?_ ?_
 refine EOp.e Y Y Y (EffX.mkS hT Y Y Y Y Y Y Y Y (by decide) H) ?_
 rintro _ _ ⟨v_5, h8, rfl, rfl, H⟩
 apply Stg.next [(36, _)] Y Y
 refine Stg.go [6] [7] Y Y (q_ Y qz) (eo Y (ep (i := 0) (qv := [(_, [_, _, _, _, _]), (_, [_, _, _, _, _, _, _])]) hT Y Y Y Y Y Y Y Y Y) ?_)
 rintro _ _ rfl
 apply Stg.next [(38, _)] Y Y
 refine Stg.go [8] [9] Y Y (q_ Y qz) (eo Y (ep (i := 0) (qv := [(_, [_, _, _, _, _]), (_, [_, _, _, _, _, _, _])]) hT Y Y Y Y Y Y Y Y Y) ?_)
 rintro _ _ rfl
 apply Stg.next [(39, _)] Y Y
 refine Stg.go [10] [11] Y Y (q_ Y qz) (eo Y (ep (i := 0) (qv := [(_, [_, _, _, _, _]), (_, [_, _, _, _, _, _, _])]) hT Y Y Y Y Y Y Y Y Y) ?_)
 rintro _ _ rfl
 apply Stg.next [] Y Y
 refine Stg.fin [] Y Y qz ?_
 exact pk (HK2 _ () _ H) [2] [0] Y
 refine eo Y (ep (i := 0) (qv := [(_, [_, _, _, _, _]), (_, [_, _, _, _, _, _, _])]) hT Y Y Y Y Y Y Y Y Y) ?_
 rintro _ _ rfl
 apply Stg.next [(38, _)] Y Y
 refine Stg.go [4, 8] [5, 9] Y Y (q_ Y (q_ Y qz)) ?_
 refine EAll.cons ?_ ?_
 refine EOp.e Y Y Y (EffX.mkS hT Y Y Y Y Y Y Y Y (by decide) H) ?_
 rintro _ _ ⟨v_6, h9, rfl, rfl, H⟩
 apply Stg.next [(36, _)] Y Y
 refine Stg.go [8] [9] Y Y (q_ Y qz) (eo Y (ep (i := 0) (qv := [(_, [_, _, _, _, _]), (_, [_, _, _, _, _, _, _])]) hT Y Y Y Y Y Y Y Y Y) ?_)
 rintro _ _ rfl
 apply Stg.next [(39, _)] Y Y
 refine Stg.go [10] [11] Y Y (q_ Y qz) (eo Y (ep (i := 0) (qv := [(_, [_, _, _, _, _]), (_, [_, _, _, _, _, _, _])]) hT Y Y Y Y Y Y Y Y Y) ?_)
 rintro _ _ rfl
 apply Stg.next [] Y Y
 refine Stg.fin [] Y Y qz ?_
 exact pk (HK2 _ () _ H) [2] [0] Y
 refine eo Y (ep (i := 0) (qv := [(_, [_, _, _, _, _]), (_, [_, _, _, _, _, _, _])]) hT Y Y Y Y Y Y Y Y Y) ?_
 rintro _ _ rfl
 apply Stg.next [] Y Y
 refine Stg.go [4] [5] Y Y (q_ Y qz) (eo Y (EffX.mkS hT Y Y Y Y Y Y Y Y (by decide) H) ?_)
 rintro _ _ ⟨v_7, h10, rfl, rfl, H⟩
 apply Stg.next [(36, _), (39, _)] Y Y
 refine Stg.go [10] [11] Y Y (q_ Y qz) (eo Y (ep (i := 0) (qv := [(_, [_, _, _, _, _]), (_, [_, _, _, _, _, _, _])]) hT Y Y Y Y Y Y Y Y Y) ?_)
 rintro _ _ rfl
 apply Stg.next [] Y Y
 refine Stg.fin [] Y Y qz ?_
 exact pk (HK2 _ () _ H) [2] [0] Y
 refine EAll.cons ?_ ?_
 replace H := H.2
 refine EOp.e Y Y Y (EffX.mkS hT Y Y Y Y Y Y Y Y (by decide) H) ?_
 rintro _ _ ⟨v_8, h11, rfl, rfl, H⟩
 apply Stg.next [(36, _)] Y Y
 refine Stg.go [2, 6] [3, 7] Y Y (q_ Y (q_ Y qz)) ?_
 refine EAll.cons ?_ ?_
 refine EOp.e Y Y Y (EffX.mkS hT Y Y Y Y Y Y Y Y (by decide) H) ?_
 rintro _ _ ⟨v_9, h12, rfl, rfl, H⟩
 apply Stg.next [(34, _)] Y Y
 refine Stg.go [6] [7] Y Y (q_ Y qz) (eo Y (ep (i := 0) (qv := [(_, [_, _, _, _, _]), (_, [_, _, _, _, _, _, _])]) hT Y Y Y Y Y Y Y Y Y) ?_)
 rintro _ _ rfl
 apply Stg.next [(38, _)] Y Y
 refine Stg.go [8] [9] Y Y (q_ Y qz) (eo Y (ep (i := 0) (qv := [(_, [_, _, _, _, _]), (_, [_, _, _, _, _, _, _])]) hT Y Y Y Y Y Y Y Y Y) ?_)
 rintro _ _ rfl
 apply Stg.next [(39, _)] Y Y
 refine Stg.go [10] [11] Y Y (q_ Y qz) (eo Y (ep (i := 0) (qv := [(_, [_, _, _, _, _]), (_, [_, _, _, _, _, _, _])]) hT Y Y Y Y Y Y Y Y Y) ?_)
 rintro _ _ rfl
 apply Stg.next [] Y Y
 refine Stg.fin [] Y Y qz ?_
 exact pk (HK2 _ () _ H) [2] [0] Y
 refine eo Y (ep (i := 0) (qv := [(_, [_, _, _, _, _]), (_, [_, _, _, _, _, _, _])]) hT Y Y Y Y Y Y Y Y Y) ?_
 rintro _ _ rfl
 apply Stg.next [] Y Y
 refine Stg.go [2] [3] Y Y (q_ Y qz) (eo Y (EffX.mkS hT Y Y Y Y Y Y Y Y (by decide) H) ?_)
 rintro _ _ ⟨v_10, h13, rfl, rfl, H⟩
 apply Stg.next [(34, _), (38, _)] Y Y
 refine Stg.go [8] [9] Y Y (q_ Y qz) (eo Y (ep (i := 0) (qv := [(_, [_, _, _, _, _]), (_, [_, _, _, _, _, _, _])]) hT Y Y Y Y Y Y Y Y Y) ?_)
 rintro _ _ rfl
 apply Stg.next [(39, _)] Y Y
 refine Stg.go [10] [11] Y Y (q_ Y qz) (eo Y (ep (i := 0) (qv := [(_, [_, _, _, _, _]), (_, [_, _, _, _, _, _, _])]) hT Y Y Y Y Y Y Y Y Y) ?_)
 rintro _ _ rfl
 apply Stg.next [] Y Y
 refine Stg.fin [] Y Y qz ?_
 exact pk (HK2 _ () _ H) [2] [0] Y
 refine eo Y (ep (i := 0) (qv := [(_, [_, _, _, _, _]), (_, [_, _, _, _, _, _, _])]) hT Y Y Y Y Y Y Y Y Y) ?_
 rintro _ _ rfl
 apply Stg.next [] Y Y
 refine Stg.go [2, 4] [3, 5] Y Y (q_ Y (q_ Y qz)) ?_
 refine EAll.cons ?_ ?_
 replace H := H.1
 refine EOp.e Y Y Y (EffX.mkS hT Y Y Y Y Y Y Y Y (by decide) H) ?_
 rintro _ _ ⟨v_11, h14, rfl, rfl, H⟩
 apply Stg.next [(34, _), (38, _)] Y Y
 refine Stg.go [4, 8] [5, 9] Y Y (q_ Y (q_ Y qz)) ?_
 refine EAll.cons ?_ ?_
 refine EOp.e Y Y Y (EffX.mkS hT Y Y Y Y Y Y Y Y (by decide) H) ?_
 rintro _ _ ⟨v_12, h15, rfl, rfl, H⟩
 apply Stg.next [(36, _)] Y Y
 refine Stg.go [8] [9] Y Y (q_ Y qz) (eo Y (ep (i := 0) (qv := [(_, [_, _, _, _, _]), (_, [_, _, _, _, _, _, _])]) hT Y Y Y Y Y Y Y Y Y) ?_)
 rintro _ _ rfl
 apply Stg.next [(39, _)] Y Y
 refine Stg.go [10] [11] Y Y (q_ Y qz) (eo Y (ep (i := 0) (qv := [(_, [_, _, _, _, _]), (_, [_, _, _, _, _, _, _])]) hT Y Y Y Y Y Y Y Y Y) ?_)
 rintro _ _ rfl
 apply Stg.next [] Y Y
 refine Stg.fin [] Y Y qz ?_
 exact pk (HK2 _ () _ H) [2] [0] Y
 refine eo Y (ep (i := 0) (qv := [(_, [_, _, _, _, _]), (_, [_, _, _, _, _, _, _])]) hT Y Y Y Y Y Y Y Y Y) ?_
 rintro _ _ rfl
 apply Stg.next [] Y Y
 refine Stg.go [4] [5] Y Y (q_ Y qz) (eo Y (EffX.mkS hT Y Y Y Y Y Y Y Y (by decide) H) ?_)
 rintro _ _ ⟨v_13, h16, rfl, rfl, H⟩
 apply Stg.next [(36, _), (39, _)] Y Y
 refine Stg.go [10] [11] Y Y (q_ Y qz) (eo Y (ep (i := 0) (qv := [(_, [_, _, _, _, _]), (_, [_, _, _, _, _, _, _])]) hT Y Y Y Y Y Y Y Y Y) ?_)
 rintro _ _ rfl
 apply Stg.next [] Y Y
 refine Stg.fin [] Y Y qz ?_
 exact pk (HK2 _ () _ H) [2] [0] Y
 refine EAll.cons ?_ EAll.nil
 replace H := H.2
 refine EOp.e Y Y Y (EffX.mkS hT Y Y Y Y Y Y Y Y (by decide) H) ?_
 rintro _ _ ⟨v_14, h17, rfl, rfl, H⟩
 apply Stg.next [(36, _)] Y Y
 refine Stg.go [2] [3] Y Y (q_ Y qz) (eo Y (EffX.mkS hT Y Y Y Y Y Y Y Y (by decide) H) ?_)
 rintro _ _ ⟨v_15, h18, rfl, rfl, H⟩
 apply Stg.next [(34, _), (38, _)] Y Y
 refine Stg.go [8] [9] Y Y (q_ Y qz) (eo Y (ep (i := 0) (qv := [(_, [_, _, _, _, _]), (_, [_, _, _, _, _, _, _])]) hT Y Y Y Y Y Y Y Y Y) ?_)
 rintro _ _ rfl
 apply Stg.next [(39, _)] Y Y
 refine Stg.go [10] [11] Y Y (q_ Y qz) (eo Y (ep (i := 0) (qv := [(_, [_, _, _, _, _]), (_, [_, _, _, _, _, _, _])]) hT Y Y Y Y Y Y Y Y Y) ?_)
 rintro _ _ rfl
 apply Stg.next [] Y Y
 refine Stg.fin [] Y Y qz ?_
 exact pk (HK2 _ () _ H) [2] [0] Y
 refine EAll.cons ?_ ?_
 replace H := H.2.1
 refine EOp.e Y Y Y (EffX.mkS hT Y Y Y Y Y Y Y Y (by decide) H) ?_
 rintro _ _ ⟨v_16, h19, rfl, rfl, H⟩
 apply Stg.next [(34, _)] Y Y
 refine Stg.go [0, 4] [1, 5] Y Y (q_ Y (q_ Y qz)) ?_
 refine EAll.cons ?_ ?_
 replace H := H.1
 refine EOp.e Y Y Y (EffX.mkS hT Y Y Y Y Y Y Y Y (by decide) H) ?_
 rintro _ _ ⟨v_17, h20, rfl, rfl, H⟩
 apply Stg.next [(32, _), (37, _)] Y Y
 refine Stg.go [4, 6] [5, 7] Y Y (q_ Y (q_ Y qz)) ?_
 refine EAll.cons ?_ ?_
 refine EOp.e Y Y Y (EffX.mkS hT Y Y Y Y Y Y Y Y (by decide) H) ?_
 rintro _ _ ⟨v_18, h21, rfl, rfl, H⟩
 apply Stg.next [(36, _)] Y Y
 refine Stg.go [6] [7] Y Y (q_ Y qz) (eo Y (ep (i := 0) (qv := [(_, [_, _, _, _, _]), (_, [_, _, _, _, _, _, _])]) hT Y Y Y Y Y Y Y Y Y) ?_)
 rintro _ _ rfl
 apply Stg.next [(38, _)] Y Y
 refine Stg.go [8] [9] Y Y (q_ Y qz) (eo Y (ep (i := 0) (qv := [(_, [_, _, _, _, _]), (_, [_, _, _, _, _, _, _])]) hT Y Y Y Y Y Y Y Y Y) ?_)
 rintro _ _ rfl
 apply Stg.next [(39, _)] Y Y
 refine Stg.go [10] [11] Y Y (q_ Y qz) (eo Y (ep (i := 0) (qv := [(_, [_, _, _, _, _]), (_, [_, _, _, _, _, _, _])]) hT Y Y Y Y Y Y Y Y Y) ?_)
 rintro _ _ rfl
 apply Stg.next [] Y Y
 refine Stg.fin [] Y Y qz ?_
 exact pk (HK2 _ () _ H) [2] [0] Y
 refine eo Y (ep (i := 0) (qv := [(_, [_, _, _, _, _]), (_, [_, _, _, _, _, _, _])]) hT Y Y Y Y Y Y Y Y Y) ?_
 rintro _ _ rfl
 apply Stg.next [(38, _)] Y Y
 refine Stg.go [4, 8] [5, 9] Y Y (q_ Y (q_ Y qz)) ?_
 refine EAll.cons ?_ ?_
 refine EOp.e Y Y Y (EffX.mkS hT Y Y Y Y Y Y Y Y (by decide) H) ?_
 rintro _ _ ⟨v_19, h22, rfl, rfl, H⟩
 apply Stg.next [(36, _)] Y Y
 refine Stg.go [8] [9] Y Y (q_ Y qz) (eo Y (ep (i := 0) (qv := [(_, [_, _, _, _, _]), (_, [_, _, _, _, _, _, _])]) hT Y Y Y Y Y Y Y Y Y) ?_)
 rintro _ _ rfl
 apply Stg.next [(39, _)] Y Y
 refine Stg.go [10] [11] Y Y (q_ Y qz) (eo Y (ep (i := 0) (qv := [(_, [_, _, _, _, _]), (_, [_, _, _, _, _, _, _])]) hT Y Y Y Y Y Y Y Y Y) ?_)
 rintro _ _ rfl
 apply Stg.next [] Y Y
 refine Stg.fin [] Y Y qz ?_
 exact pk (HK2 _ () _ H) [2] [0] Y
 refine eo Y (ep (i := 0) (qv := [(_, [_, _, _, _, _]), (_, [_, _, _, _, _, _, _])]) hT Y Y Y Y Y Y Y Y Y) ?_
 rintro _ _ rfl
 apply Stg.next [] Y Y
 refine Stg.go [4] [5] Y Y (q_ Y qz) (eo Y (EffX.mkS hT Y Y Y Y Y Y Y Y (by decide) H) ?_)
 rintro _ _ ⟨v_20, h23, rfl, rfl, H⟩
 apply Stg.next [(36, _), (39, _)] Y Y
 refine Stg.go [10] [11] Y Y (q_ Y qz) (eo Y (ep (i := 0) (qv := [(_, [_, _, _, _, _]), (_, [_, _, _, _, _, _, _])]) hT Y Y Y Y Y Y Y Y Y) ?_)
 rintro _ _ rfl
 apply Stg.next [] Y Y
 refine Stg.fin [] Y Y qz ?_
 exact pk (HK2 _ () _ H) [2] [0] Y
 refine EAll.cons ?_ EAll.nil
 replace H := H.2
 refine EOp.e Y Y Y (EffX.mkS hT Y Y Y Y Y Y Y Y (by decide) H) ?_
 rintro _ _ ⟨v_21, h24, rfl, rfl, H⟩
 apply Stg.next [(36, _)] Y Y
 refine Stg.go [0] [1] Y Y (q_ Y qz) (eo Y (EffX.mkS hT Y Y Y Y Y Y Y Y (by decide) H) ?_)
 rintro _ _ ⟨v_22, h25, rfl, rfl, H⟩
 apply Stg.next [(32, _), (37, _)] Y Y
 refine Stg.go [6] [7] Y Y (q_ Y qz) (eo Y (ep (i := 0) (qv := [(_, [_, _, _, _, _]), (_, [_, _, _, _, _, _, _])]) hT Y Y Y Y Y Y Y Y Y) ?_)
 rintro _ _ rfl
 apply Stg.next [(38, _)] Y Y
 refine Stg.go [8] [9] Y Y (q_ Y qz) (eo Y (ep (i := 0) (qv := [(_, [_, _, _, _, _]), (_, [_, _, _, _, _, _, _])]) hT Y Y Y Y Y Y Y Y Y) ?_)
 rintro _ _ rfl
 apply Stg.next [(39, _)] Y Y
 refine Stg.go [10] [11] Y Y (q_ Y qz) (eo Y (ep (i := 0) (qv := [(_, [_, _, _, _, _]), (_, [_, _, _, _, _, _, _])]) hT Y Y Y Y Y Y Y Y Y) ?_)
 rintro _ _ rfl
 apply Stg.next [] Y Y
 refine Stg.fin [] Y Y qz ?_
 exact pk (HK2 _ () _ H) [2] [0] Y
 refine EAll.cons ?_ EAll.nil
 replace H := H.2.2
 refine EOp.e Y Y Y (EffX.mkS hT Y Y Y Y Y Y Y Y (by decide) H) ?_
 rintro _ _ ⟨v_23, h26, rfl, rfl, H⟩
 apply Stg.next [(36, _)] Y Y
 refine Stg.go [0, 2] [1, 3] Y Y (q_ Y (q_ Y qz)) ?_
 refine EAll.cons ?_ ?_
 replace H := H.1
 refine EOp.e Y Y Y (EffX.mkS hT Y Y Y Y Y Y Y Y (by decide) H) ?_
 rintro _ _ ⟨v_24, h27, rfl, rfl, H⟩
 apply Stg.next [(32, _), (37, _)] Y Y
 refine Stg.go [2, 6] [3, 7] Y Y (q_ Y (q_ Y qz)) ?_
 refine EAll.cons ?_ ?_
 refine EOp.e Y Y Y (EffX.mkS hT Y Y Y Y Y Y Y Y (by decide) H) ?_
 rintro _ _ ⟨v_25, h28, rfl, rfl, H⟩
 apply Stg.next [(34, _)] Y Y
 refine Stg.go [6] [7] Y Y (q_ Y qz) (eo Y (ep (i := 0) (qv := [(_, [_, _, _, _, _]), (_, [_, _, _, _, _, _, _])]) hT Y Y Y Y Y Y Y Y Y) ?_)
 rintro _ _ rfl
 apply Stg.next [(38, _)] Y Y
 refine Stg.go [8] [9] Y Y (q_ Y qz) (eo Y (ep (i := 0) (qv := [(_, [_, _, _, _, _]), (_, [_, _, _, _, _, _, _])]) hT Y Y Y Y Y Y Y Y Y) ?_)
 rintro _ _ rfl
 apply Stg.next [(39, _)] Y Y
 refine Stg.go [10] [11] Y Y (q_ Y qz) (eo Y (ep (i := 0) (qv := [(_, [_, _, _, _, _]), (_, [_, _, _, _, _, _, _])]) hT Y Y Y Y Y Y Y Y Y) ?_)
 rintro _ _ rfl
 apply Stg.next [] Y Y
 refine Stg.fin [] Y Y qz ?_
 exact pk (HK2 _ () _ H) [2] [0] Y
 refine eo Y (ep (i := 0) (qv := [(_, [_, _, _, _, _]), (_, [_, _, _, _, _, _, _])]) hT Y Y Y Y Y Y Y Y Y) ?_
 rintro _ _ rfl
 apply Stg.next [] Y Y
 refine Stg.go [2] [3] Y Y (q_ Y qz) (eo Y (EffX.mkS hT Y Y Y Y Y Y Y Y (by decide) H) ?_)
 rintro _ _ ⟨v_26, h29, rfl, rfl, H⟩
 apply Stg.next [(34, _), (38, _)] Y Y
 refine Stg.go [8] [9] Y Y (q_ Y qz) (eo Y (ep (i := 0) (qv := [(_, [_, _, _, _, _]), (_, [_, _, _, _, _, _, _])]) hT Y Y Y Y Y Y Y Y Y) ?_)
 rintro _ _ rfl
 apply Stg.next [(39, _)] Y Y
 refine Stg.go [10] [11] Y Y (q_ Y qz) (eo Y (ep (i := 0) (qv := [(_, [_, _, _, _, _]), (_, [_, _, _, _, _, _, _])]) hT Y Y Y Y Y Y Y Y Y) ?_)
 rintro _ _ rfl
 apply Stg.next [] Y Y
 refine Stg.fin [] Y Y qz ?_
 exact pk (HK2 _ () _ H) [2] [0] Y
 refine EAll.cons ?_ EAll.nil
 replace H := H.2
 refine EOp.e Y Y Y (EffX.mkS hT Y Y Y Y Y Y Y Y (by decide) H) ?_
 rintro _ _ ⟨v_27, h30, rfl, rfl, H⟩
 apply Stg.next [(34, _)] Y Y
 refine Stg.go [0] [1] Y Y (q_ Y qz) (eo Y (EffX.mkS hT Y Y Y Y Y Y Y Y (by decide) H) ?_)
 rintro _ _ ⟨v_28, h31, rfl, rfl, H⟩
 apply Stg.next [(32, _), (37, _)] Y Y
 refine Stg.go [6] [7] Y Y (q_ Y qz) (eo Y (ep (i := 0) (qv := [(_, [_, _, _, _, _]), (_, [_, _, _, _, _, _, _])]) hT Y Y Y Y Y Y Y Y Y) ?_)
 rintro _ _ rfl
 apply Stg.next [(38, _)] Y Y
 refine Stg.go [8] [9] Y Y (q_ Y qz) (eo Y (ep (i := 0) (qv := [(_, [_, _, _, _, _]), (_, [_, _, _, _, _, _, _])]) hT Y Y Y Y Y Y Y Y Y) ?_)
 rintro _ _ rfl
 apply Stg.next [(39, _)] Y Y
 refine Stg.go [10] [11] Y Y (q_ Y qz) (eo Y (ep (i := 0) (qv := [(_, [_, _, _, _, _]), (_, [_, _, _, _, _, _, _])]) hT Y Y Y Y Y Y Y Y Y) ?_)
 rintro _ _ rfl
 apply Stg.next [] Y Y
 refine Stg.fin [] Y Y qz ?_
 exact pk (HK2 _ () _ H) [2] [0] Y
theorem lift_nat_New (limbs : Int) : Lf Tryz.prog 25 [Value.int .i64 limbs] Value.pointer (nat_New limbs) := by
 refine Lf.go Tryz.func25 Tryz.ntmps25 Y Y [0] Y fun w m S H => ?_
 unfold nat_New at H
 refine sR (p_ 1 Y (ng (sR (p_ 2 Y (lq Y (qb (cs := [_, _]) hT Y Y Y Y Y Y) (le Y (EffX.box (cs := [_, _]) Y Y Y H) ?_))))))
 rintro _ _ ⟨a, h0, rfl, rfl, H⟩
 refine p_ 1 Y (ng (rt ?_))
 exact r1 2 Y Y Y H
theorem lift_tableau_coef_c1 (m0 : Int × Bool × Sl × Sl) (v : Int) : Lf Tryz.prog 133 [Value.agg (C_i64ubool_sl_sl m0).toArray, Value.int .i64 v] (Value.int .i64) (tableau_coef_c1 m0 v) := by
 refine Lf.go Tryz.func133 Tryz.ntmps133 Y Y [0, 1] Y fun w m S H => ?_
 unfold tableau_coef_c1 at H
 refine sR (bx [_, _, _, _] H Y Y Y Y fun b _ H => p_ 1 Y (ng (sR (p_ 1 Y (lq Y (l_ 0 Y) (p_ 3 Y ?_))))))
 refine ng (rt ?_)
 exact r1 4 Y Y Y H.self
theorem lift_slices_BinarySearchFunc_api_Mono_api_Mono_int__tableau_coef_c1 (x0 : Sl) (target : Int) : Lf Tryz.prog 132 [Sl.toV x0, Value.int .i64 target, Value.func (.func 133) #[] #[]] (fun r => Value.tuple #[(Value.int .i64) r.1, Value.bool r.2]) (slices_BinarySearchFunc_api_Mono_api_Mono_int__tableau_coef_c1 x0 target) := by
 refine Lf.go Tryz.func132 Tryz.ntmps132 Y Y [0, 1, 2] Y fun w m S H => ?_
 unfold slices_BinarySearchFunc_api_Mono_api_Mono_int__tableau_coef_c1 at H
 refine sR (p_ 2 Y (ng (sR (p_ 3 Y (ng (sR (p_ 3 Y ?_)))))))
 refine ng (cs (ck ?_))
 refine AtC.loopM (fun (s0 : Int × Int) => [(9, Value.int .i64 s0.1), (10, Value.int .i64 s0.2)]) (fun (s0 : Int × Int) => []) [0, 1, 2, 8] [9, 10, 0, 1, 2, 8] [] [] (H _ rfl) Y Y Y (by decide) Y (fun Kp1 s0 h0 H Q1 HK1 => ?_)
 refine cs (sR (p_ 3 Y (ng ?_)))
 refine cb H Y (fun H => ?_) (fun H => ?_)
 refine sk (tg (ck (sR (p_ 7 Y (ng (sR (p_ 3 Y ?_)))))))
 refine ix hT (H _ rfl) Y Y Y Y Y Y fun _ H => lds hT H Y Y Y Y Y fun _ H => p_ 1 Y (lcF (lift_tableau_coef_c1 _ _) H [] [] Tryz.call133 Y Y Y Y Y fun v_1 h2 H => p_ 1 Y (ng ?_))
 refine cb H Y (fun H => ?_) (fun H => ?_)
 refine rg (p_ 3 Y (nl (bn ?_)))
 exact pk (HK1 _ _ (H _ rfl)) [9, 10, 0, 1, 2, 8] [] Y
 refine rg (p_ 2 Y (nl (bn ?_)))
 exact pk (HK1 _ _ H) [9, 10, 0, 1, 2, 8] [] Y
 refine xt (tx (tx (bh (tg ?_))))
 refine AtC.joinSeq (β := Unit) (fun (t0 : Int × Bool) (bb : Unit) => [(6, Value.int .i64 t0.1), (7, Value.bool t0.2)]) (fun (t0 : Int × Bool) (bb : Unit) => []) [] [] H Y Y (fun t0 bb h3 H => ?_) (fun J4 H HK4 => ?_)
 refine rt ?_
 exact AtE.retN (rs := [.tmp 6, .tmp 7]) Y (ResAll.cons (ResAt.tmp Y) (ResAll.cons (ResAt.tmp Y) ResAll.nil)) Y H
 refine rg (p_ 5 Y ?_)
 refine AtL.splitB (t := 39) H Y (fun H => ?_) (fun H => ?_)
 refine p_ 7 Y (ix hT H Y Y Y Y Y Y fun _ H => p_ 1 Y (lds hT H Y Y Y Y Y fun _ H => p_ 3 Y (lcF (lift_tableau_coef_c1 _ _) H [] [] Tryz.call133 Y Y Y Y Y fun v_3 h4 H => p_ 5 Y (nl ?_))))
 exact pk (HK4 _ () _ H) [6, 7] [] Y
 refine p_ 11 Y (nl ?_)
 exact pk (HK4 _ () _ H) [6, 7] [] Y
theorem lift_tableau_coef (p : Bool × Sl × Sl × Sl) (v : Int) : Lf Tryz.prog 79 [Value.agg (C_bool_sl_sl_sl p).toArray, Value.int .i64 v] (fun r => Value.agg (C_bool_sl_sl r).toArray) (tableau_coef p v) := by
 refine Lf.go Tryz.func79 Tryz.ntmps79 Y Y [0, 1] Y fun w m S H => ?_
 unfold tableau_coef at H
 refine sR (bx [_, _, _, _] H Y Y Y Y fun b _ H => al hT [_, _, _] H Y Y Y fun b_1 _ H => nl (tg (sR (p_ 1 Y (lq Y (l_ 1 Y) ?_)))))
 refine p_ 1 Y (lc (lift_slices_BinarySearchFunc_api_Mono_api_Mono_int__tableau_coef_c1 _ _) H.self Tryz.call132 Y fun v_1 h1 H => p_ 5 Y (ng (cs (sR (p_ 2 Y (ng ?_))))))
 refine cb H Y (fun H => ?_) (fun H => ?_)
 refine sR (lq Y (qb (cs := [_, _, _]) hT Y Y Y Y Y Y) (sp hT 0 [(_, [_, _, _]), (_, [_, _, _, _])] Y Y Y Y Y Y Y Y Y Y Y fun _ => ng (rt (tr ?_))))
 exact rc (i := 0) hT [_, _, _] Y Y Y Y Y Y Y Y Y H
 refine sk (tg (sR (p_ 1 Y (lq Y (l_ 1 Y) (p_ 1 Y (ix hT H Y Y Y Y Y Y fun _ H => p_ 1 Y ?_))))))
 refine lds hT H Y Y Y Y Y fun _ H => sp hT 0 [(_, [_, _, _]), (_, [_, _, _, _])] Y Y Y Y Y Y Y Y Y Y Y fun _ => ng (rt ?_)
 exact rc (i := 0) hT [_, _, _] Y Y Y Y Y Y Y Y Y H
theorem lift_ratio_Sign (x0 : Bool × Sl × Sl) : Lf Tryz.prog 43 [Value.agg (C_bool_sl_sl x0).toArray] (Value.int .i64) (ratio_Sign x0) := by
 refine Lf.go Tryz.func43 Tryz.ntmps43 Y Y [0] Y fun w m S H => ?_
 unfold ratio_Sign at H
 refine sR (bx [_, _, _] H Y Y Y Y fun b _ H => p_ 1 Y (ng (cs (ck (sR (p_ 2 Y ?_))))))
 refine lq Y (l_ 0 Y) (p_ 3 Y (ng ?_))
 refine cb H.self Y (fun H => ?_) (fun H => ?_)
 refine sR (p_ 1 Y (ng (rt (br (tr ?_)))))
 exact r1 2 Y Y Y H
 refine sR (p_ 2 Y (lq Y (l_ 0 Y) (p_ 1 Y (ng ?_))))
 refine cb H Y (fun H => ?_) (fun H => ?_)
 refine sR (p_ 1 Y (ng (rt (br (tr ?_)))))
 exact r1 2 Y Y Y H
 refine sk (bn (tg (sR (p_ 1 Y (ng (rt ?_))))))
 exact r1 2 Y Y Y H
theorem lift_ratio_free : Lf Tryz.prog 109 [] Value.pointer (ratio_free) := by
 refine Lf.go Tryz.func109 Tryz.ntmps109 Y Y [] Y fun w m S H => ?_
 unfold ratio_free at H
 refine sR (p_ 1 Y (ng (sR (lc (lift_nat_New _) H Tryz.call25 Y fun v h0 H => p_ 1 Y (ng (rt ?_))))))
 exact r1 0 Y Y Y H
theorem lift_ratio_one : Lf Tryz.prog 149 [] Sl.toV (ratio_one) := by
 refine Lf.go Tryz.func149 Tryz.ntmps149 Y Y [] Y fun w m S H => ?_
 unfold ratio_one at H
 refine sR (p_ 1 Y (ng (sR ?_)))
 refine AtLX.bs (hT := hT) (cs := [_]) H Y Y Y Y Y Y Y Y Y (fun a h0 H => ?_)
 refine p_ 1 Y (ng (rt ?_))
 exact r1 0 Y Y Y H
theorem lift_ratio_den (x0 : Bool × Sl × Sl) : Lf Tryz.prog 111 [Value.agg (C_bool_sl_sl x0).toArray] Sl.toV (ratio_den x0) := by
 refine Lf.go Tryz.func111 Tryz.ntmps111 Y Y [0] Y fun w m S H => ?_
 unfold ratio_den at H
 refine sR (bx [_, _, _] H Y Y Y Y fun b _ H => p_ 1 Y (ng (cs (sR (p_ 1 Y (lq Y (l_ 0 Y) ?_))))))
 refine p_ 2 Y (ng ?_)
 refine cb H.self Y (fun H => ?_) (fun H => ?_)
 refine sR (le Y (cl (fun h => ratio_one h _) H Y Tryz.call149 Y (fun w m hr hw => lift_ratio_one  w m hr _ hw)) ?_)
 rintro _ _ ⟨v, h1, rfl, rfl, H⟩
 refine p_ 1 Y (ng (rt (tr ?_)))
 exact r1 2 Y Y Y H
 refine sk (tg (sR (p_ 1 Y (lq Y (l_ 0 Y) (p_ 1 Y (ng (rt ?_)))))))
 exact r1 2 Y Y Y H
theorem lift_nat_times (x0 : Sl) (y : Sl) : Lf Tryz.prog 159 [Sl.toV x0, Sl.toV y] Sl.toV (nat_times x0 y) := by
 refine Lf.go Tryz.func159 Tryz.ntmps159 Y Y [0, 1] Y fun w m S H => ?_
 unfold nat_times at H
 refine sR (p_ 1 Y (ng (sR (p_ 5 Y (le Y (EffX.mkS hT Y Y Y Y Y Y Y Y (by decide) (H _ rfl)) ?_)))))
 rintro _ _ ⟨v, h0, rfl, rfl, H⟩
 refine p_ 1 Y (ng (cs (sR (p_ 3 Y (ng (ck ?_))))))
 refine AtC.loopM (fun (s0 : Int) => [(19, Value.int .i64 s0)]) (fun (s0 : Int) => []) [1, 5, 17, 18] [19, 1, 5, 17, 18] [] [] H Y Y Y (by decide) Y (fun Kp1 s0 h1 H Q1 HK1 => ?_)
 refine sR (p_ 1 Y (ng (cs ?_)))
 refine cb H Y (fun H => ?_) (fun H => ?_)
 refine sk (tg (cs (ck (sR (p_ 1 Y (ix hT H Y Y Y Y Y Y fun _ H => ld hT H Y Y Y Y fun _ H => ?_))))))
 refine p_ 2 Y (ng (sR (p_ 1 Y (ng (cs (sR (p_ 3 Y ?_)))))))
 refine ng (ck ?_)
 refine AtC.loopM (fun (s0u1 : Int × Int) => [(8, Value.int .u64 s0u1.1), (26, Value.int .i64 s0u1.2)]) (fun (s0u1 : Int × Int) => []) [1, 5, 6, 7, 17, 18, 19, 24, 25] [8, 26, 1, 5, 6, 7, 17, 18, 19, 24, 25] [] [] H Y Y Y (by decide) Y (fun Kp4 s0u1 h2 H Q4 HK4 => ?_)
 refine sR (p_ 1 Y (ng (cs ?_)))
 refine cb H Y (fun H => ?_) (fun H => ?_)
 refine sk (tg (cs (ck (sR (p_ 1 Y (ix hT H Y Y Y Y Y Y fun _ H => ld hT H Y Y Y Y fun _ H => ?_))))))
 refine p_ 2 Y (ng (sR (p_ 10 Y (ix hT H Y Y Y Y Y Y fun _ H => ld hT H Y Y Y Y fun _ H => p_ 4 Y (ng ?_)))))
 refine sR (p_ 6 Y (ix hT (H _ rfl) Y Y Y Y Y Y fun _ H => le Y (EffX.store hT Y Y Y Y Y H) ?_))
 rintro _ _ ⟨h3, rfl, H⟩
 refine ng (rg (p_ 3 Y (nl (bn (tg (rg (p_ 2 Y ?_)))))))
 refine nl ?_
 exact pk (HK4 _ _ (H _ rfl)) [8, 26, 1, 5, 6, 7, 17, 18, 19, 24, 25] [] Y
 refine xt (tx (tx (bh (tg (rg (p_ 7 Y (ix hT H Y Y Y Y Y Y fun _ H => ?_)))))))
 refine le Y (EffX.store hT Y Y Y Y Y H) ?_
 rintro _ _ ⟨h4, rfl, H⟩
 refine nl (bn (tg (rg (p_ 2 Y (nl ?_)))))
 exact pk (HK1 _ _ H) [19, 1, 5, 17, 18] [] Y
 refine xt (tx (tx (bh (tg (sR (p_ 2 Y (ng ?_)))))))
 refine rt ?_
 exact r1 4 Y Y Y H
theorem lift_slices_Clone_api_Nat_uint32 (s0 : Sl) : Lf Tryz.prog 141 [Sl.toV s0] Sl.toV (slices_Clone_api_Nat_uint32 s0) := by
 refine Lf.go Tryz.func141 Tryz.ntmps141 Y Y [0] Y fun w m S H => ?_
 unfold slices_Clone_api_Nat_uint32 at H
 refine sR (p_ 1 Y (ng (cs (sR (p_ 1 Y (lq Y (Quiet1.eqNilS hT Y Y Y Y) (ng ?_)))))))
 refine cb H Y (fun H => ?_) (fun H => ?_)
 refine sR (p_ 1 Y (ng (rt (tr ?_))))
 exact r1 2 Y Y Y H
 refine sk (tg (sR ?_))
 refine AtLX.bs (hT := hT) (cs := []) H Y Y Y Y Y Y Y Y Y (fun a h0 H => ?_)
 refine p_ 1 Y (le Y (EffX.appendS (s := _) (u := _) hT Y Y Y Y Y Y Y Y Y Y (by decide) H) ?_)
 rintro _ _ ⟨v_1, h1, rfl, rfl, H⟩
 refine p_ 1 Y (ng (rt ?_))
 exact r1 2 Y Y Y H
theorem lift_nat_Bench_fit (b : (Option Addr)) (x0 : Sl) : Lf Tryz.prog 150 [Value.pointer b, Sl.toV x0] Sl.toV (nat_Bench_fit b x0) := by
 refine Lf.go Tryz.func150 Tryz.ntmps150 Y Y [0, 1] Y fun w m S H => ?_
 unfold nat_Bench_fit at H
 refine sR (p_ 1 Y (ng (sR (p_ 1 Y (lc (lift_nat_trim _) H Tryz.call116 Y fun v h0 H => p_ 1 Y (ng ?_))))))
 refine AtC.joinSeq (β := Unit) (fun (t0 : Unit) (bb : Unit) => []) (fun (t0 : Unit) (bb : Unit) => []) [0, 1] [] H Y Y (fun t0 bb h1 H => ?_) (fun J1 H HK1 => ?_)
 refine cs (sR (p_ 1 Y (nk H Y Y Y fun _ H => p_ 1 Y (ld hT H Y Y Y Y fun _ H => ng ?_))))
 refine cb H Y (fun H => ?_) (fun H => ?_)
 refine sR (p_ 1 Y (ng (rt (tr ?_))))
 exact r1 4 Y Y Y H
 refine sk (tg (sR (p_ 1 Y (lc (lift_slices_Clone_api_Nat_uint32 _) H Tryz.call141 Y fun v_4 h4 H => p_ 1 Y (ng (rt ?_))))))
 exact r1 4 Y Y Y H
 refine rg (p_ 2 Y (nk H Y Y Y fun _ H => p_ 1 Y (ld hT H Y Y Y Y fun _ H => p_ 1 Y ?_)))
 refine AtL.splitB (t := 12) H Y (fun H => ?_) (fun H => ?_)
 refine p_ 8 Y (nk H Y Y Y fun _ H => p_ 1 Y (le Y (EffX.store hT Y Y Y Y Y H) ?_))
 rintro _ _ ⟨h2, rfl, H⟩
 refine nl ?_
 exact pk (HK1 _ () _ H) [0, 1] [] Y
 refine p_ 7 Y (nk H Y Y Y fun _ H => p_ 3 Y (ld hT H Y Y Y Y fun _ H => p_ 3 Y (nk H Y Y Y fun _ H => p_ 1 Y (le Y (EffX.store hT Y Y Y Y Y H) ?_))))
 rintro _ _ ⟨h3, rfl, H⟩
 refine nl ?_
 exact pk (HK1 _ () _ H) [0, 1] [] Y
theorem lift_nat_Bench_Mul (b : (Option Addr)) (x0 : Sl) (y : Sl) : Lf Tryz.prog 136 [Value.pointer b, Sl.toV x0, Sl.toV y] Sl.toV (nat_Bench_Mul b x0 y) := by
 refine Lf.go Tryz.func136 Tryz.ntmps136 Y Y [0, 1, 2] Y fun w m S H => ?_
 unfold nat_Bench_Mul at H
 refine sR (p_ 1 Y (ng (sR (p_ 2 Y (lc (lift_nat_trim _) H Tryz.call116 Y fun v h0 H => p_ 1 Y (lc (lift_nat_trim _) H Tryz.call116 Y fun v_1 h1 H => ?_))))))
 refine lc (lift_nat_times _ _) H Tryz.call159 Y fun v_2 h2 H => lc (lift_nat_Bench_fit _ _) H Tryz.call150 Y fun v_3 h3 H => p_ 1 Y (ng (rt ?_))
 exact r1 6 Y Y Y H
theorem lift_nat_small (x0 : Sl) : Lf Tryz.prog 157 [Sl.toV x0] (fun r => Value.tuple #[(Value.int .u64) r.1, Value.bool r.2]) (nat_small x0) := by
 refine Lf.go Tryz.func157 Tryz.ntmps157 Y Y [0] Y fun w m S H => ?_
 unfold nat_small at H
 refine sR (p_ 2 Y (ng (sR (p_ 1 Y (lc (lift_nat_trim _) H Tryz.call116 Y fun v h0 H => p_ 1 Y (ng ?_))))))
 refine cs (sR (p_ 4 Y (ng (ck ?_))))
 refine AtC.loopM (fun (s0 : Int × Int) => [(2, Value.int .u64 s0.1), (4, Value.int .i64 s0.2)]) (fun (s0 : Int × Int) => []) [0] [2, 4, 0] [] [] (H _ rfl) Y Y Y (by decide) Y (fun Kp1 s0 h1 H Q1 HK1 => ?_)
 refine cs (sR (p_ 2 Y (ng ?_)))
 refine cb H Y (fun H => ?_) (fun H => ?_)
 refine sk (tg (cs (ck (rg (p_ 4 Y (ix hT H Y Y Y Y Y Y fun _ H => ld hT H Y Y Y Y fun _ H => ?_))))))
 refine p_ 3 Y (nl (bn (tg (rg (p_ 3 Y ?_)))))
 replace H := H _ rfl
 refine nl ?_
 exact pk (HK1 _ _ (H _ rfl)) [2, 4, 0] [] Y
 refine xt (tx (tx (bh (tg (sR (p_ 6 Y (ng ?_)))))))
 refine rt ?_
 exact AtE.retN (rs := [.tmp 2, .tmp 3]) Y (ResAll.cons (ResAt.tmp Y) (ResAll.cons (ResAt.tmp Y) ResAll.nil)) Y (H _ rfl)
theorem lift_math_bits_TrailingZeros32 (x0 : Int) : Lf Tryz.prog 170 [Value.int .u32 x0] (Value.int .i64) (math_bits_TrailingZeros32 x0) := by
 refine Lf.go Tryz.func170 Tryz.ntmps170 Y Y [0] Y fun w m S H => ?_
 unfold math_bits_TrailingZeros32 at H
 refine sR (p_ 1 Y (ng (cs (sR (p_ 2 Y (ng ?_))))))
 refine cb H Y (fun H => ?_) (fun H => ?_)
 refine sR (p_ 1 Y (ng (rt (tr ?_))))
 exact r1 2 Y Y Y H
 refine sk (tg (sR (p_ 6 Y ?_)))
 obtain ⟨hd0, H⟩ := H
 refine lq Y (Quiet1.idxA hT Y Y Y Y Y hd0) (ld hT H Y Y Y Y fun _ H => p_ 2 Y (ng (rt ?_)))
 exact r1 2 Y Y Y H
theorem lift_nat_halve (x0 : Sl) : Lf Tryz.prog 162 [Sl.toV x0] (fun r => Value.tuple #[Sl.toV r.1, (Value.int .i64) r.2]) (nat_halve x0) := by
 refine Lf.go Tryz.func162 Tryz.ntmps162 Y Y [0] Y fun w m S H => ?_
 unfold nat_halve at H
 refine sR (p_ 2 Y (ng (sR (p_ 1 Y (ng (cs (ck ?_)))))))
 refine AtC.loopM (fun (s0 : Int) => [(4, Value.int .i64 s0)]) (fun (s0 : Int) => []) [0] [4, 0] [] [] H Y Y Y (by decide) Y (fun Kp1 s0 h0 H Q1 HK1 => ?_)
 refine cs (sR (p_ 3 Y (ix hT H Y Y Y Y Y Y fun _ H => ld hT H Y Y Y Y fun _ H => p_ 1 Y (ng ?_))))
 refine cb H Y (fun H => ?_) (fun H => ?_)
 refine sk (tg (ck (rg (p_ 3 Y (nl (bn ?_))))))
 exact pk (HK1 _ _ (H _ rfl)) [4, 0] [] Y
 refine xt (tx (tx (bh (tg (sR (p_ 4 Y (ix hT H Y Y Y Y Y Y fun _ H => ?_)))))))
 refine ld hT H Y Y Y Y fun _ H => lc (lift_math_bits_TrailingZeros32 _) H Tryz.call170 Y fun v_2 h1 H => p_ 2 Y (ng (sR (p_ 3 Y ?_)))
 refine AtL.sl (hT := hT) (H _ rfl) Y Y Y Y Y Y Y (fun h => by cases h <;> rfl) Y (fun v_3 H => ?_)
 refine lc (lift_slices_Clone_api_Nat_uint32 _) H Tryz.call141 Y fun v_4 h2 H => p_ 1 Y (ng ?_)
 refine AtC.joinSeq (β := Unit) (fun (t0 : Unit) (bb : Unit) => []) (fun (t0 : Unit) (bb : Unit) => []) [4, 5] [] H Y Y (fun t0 bb h3 H => ?_) (fun J7 H HK7 => ?_)
 refine sR (p_ 1 Y (lc (lift_nat_trim _) H Tryz.call116 Y fun v_8 h8 H => p_ 3 Y (ng (rt ?_))))
 exact AtE.retN (rs := [.tmp 2, .tmp 3]) Y (ResAll.cons (ResAt.tmp Y) (ResAll.cons (ResAt.tmp Y) ResAll.nil)) Y H
 refine sR (p_ 3 Y (ng (sR (p_ 2 Y (ng ?_)))))
 refine cb (H _ rfl) Y (fun H => ?_) (fun H => ?_)
 refine sR (p_ 3 Y (ng (ck ?_)))
 refine AtC.loopM (fun (s0u2 : Int) => [(35, Value.int .i64 s0u2)]) (fun (s0u2 : Int) => []) [4, 5, 6, 34] [35, 4, 5, 6, 34] [] [] H Y Y Y (by decide) Y (fun Kp8 s0u2 h4 H Q8 HK8 => ?_)
 refine sR (p_ 1 Y (ng (cs ?_)))
 refine cb H Y (fun H => ?_) (fun H => ?_)
 refine sk (tg ?_)
 refine AtC.joinSeq (β := Unit) (fun (t0u1 : Unit) (bb_1 : Unit) => []) (fun (t0u1 : Unit) (bb_1 : Unit) => []) [4, 5, 6, 34, 35] [] H Y Y (fun t0u1 bb_1 h5 H => ?_) (fun J9 H HK9 => ?_)
 refine rg (p_ 2 Y (nl ?_))
 exact pk (HK8 _ _ H) [35, 4, 5, 6, 34] [] Y
 refine ck (sR (p_ 2 Y (ng (sR (p_ 2 Y (ix hT H Y Y Y Y Y Y fun _ H => ld hT H Y Y Y Y fun _ H => ?_))))))
 refine p_ 1 Y ?_
 obtain ⟨hd11, H⟩ := H
 refine lq Y (Quiet1.shr Y Y Y hd11) (ix hT H Y Y Y Y Y Y fun _ H => le Y (EffX.store hT Y Y Y Y Y H) ?_)
 rintro _ _ ⟨h6, rfl, H⟩
 refine ng (sR (p_ 5 Y (ng ?_)))
 refine cb H Y (fun H => ?_) (fun H => ?_)
 obtain ⟨a_4_, hc13, hd13, H⟩ := H
 obtain ⟨v_6, hc14, H⟩ := H
 obtain ⟨a_5_, hc15, hd15, H⟩ := H
 obtain ⟨v_7, hc16, H⟩ := H
 obtain ⟨hd17, H⟩ := H
 obtain ⟨a_6_, hc18, hd18, H⟩ := H
 apply AtC.stages [14] (rl [([], 15)]) [[], [], [0, 1], [0, 1, 2], [], [], [5], [4, 5, 6], [4, 5, 6, 7], [], [9], [4, 5, 6, 7, 8, 9, 10], (ra 12), (ra 13), (ra 14)] hmix (by kernel_rfl) (nm 50 [_, _, _, _, _, _, _, _, _, _, _, _, _, _]) Y 1 Y
 refine Stg.go (ra 14) [14] Y Y (q_ Y (q_ Y (qq Y (qi hT Y Y Y Y Y hc13 hd13) Y (qq Y (ql hT Y Y Y hc14) Y (q_ Y (q_ Y (q_ Y (qq Y (qi hT Y Y Y Y Y hc15 hd15) Y (qq Y (ql hT Y Y Y hc16) Y (q_ Y (q_ Y (qq Y (Quiet1.shl Y Y Y hd17) Y (q_ Y (qq Y (qi hT Y Y Y Y Y hc18 hd18) Y qz)))))))))))))) (eo Y (EffX.store hT Y Y Y Y Y H) ?_)
 rintro _ _ ⟨h7, rfl, H⟩
 apply Stg.next [] Y Y
 refine Stg.fin [] Y Y qz (bn ?_)
 exact pk (HK9 _ () _ H) [4, 5, 6, 34, 35] [] Y
 refine sk (bn ?_)
 exact pk (HK9 _ () _ H) [4, 5, 6, 34, 35] [] Y
 refine xt (tx (tx (bh ?_)))
 exact pk (HK7 _ () _ H) [4, 5] [] Y
 refine sk ?_
 exact pk (HK7 _ () _ H) [4, 5] [] Y
theorem lift_nat_sign (n : Int) : Lf Tryz.prog 171 [Value.int .i64 n] (Value.int .i64) (nat_sign n) := by
 refine Lf.go Tryz.func171 Tryz.ntmps171 Y Y [0] Y fun w m S H => ?_
 unfold nat_sign at H
 refine sR (p_ 1 Y (ng (sR (p_ 4 Y (ng (rt ?_))))))
 exact r1 2 Y Y Y H
theorem lift_nat_Cmp (x0 : Sl) (y : Sl) : Lf Tryz.prog 163 [Sl.toV x0, Sl.toV y] (Value.int .i64) (nat_Cmp x0 y) := by
 refine Lf.go Tryz.func163 Tryz.ntmps163 Y Y [0, 1] Y fun w m S H => ?_
 unfold nat_Cmp at H
 refine sR (p_ 1 Y (ng (sR (p_ 1 Y (lc (lift_nat_trim _) H Tryz.call116 Y fun v h0 H => p_ 1 Y (lc (lift_nat_trim _) H Tryz.call116 Y fun v_1 h1 H => ?_))))))
 refine p_ 2 Y (ng (cs (sR (p_ 5 Y (ng ?_)))))
 refine cb H Y (fun H => ?_) (fun H => ?_)
 refine sR (p_ 5 Y (lc (lift_nat_sign _) H Tryz.call171 Y fun v_2 h2 H => p_ 1 Y (ng (rt (tr ?_)))))
 exact r1 4 Y Y Y H
 refine sk (tg (cs (sR (p_ 4 Y (ng (ck ?_))))))
 refine AtC.loopM (fun (s0 : Int) => [(5, Value.int .i64 s0)]) (fun (s0 : Int) => []) [0, 1] [5, 0, 1] [] [] (H _ rfl) Y Y Y (by decide) Y (fun Kp1 s0 h3 H Q1 HK1 => ?_)
 refine cs (sR (p_ 2 Y (ng ?_)))
 refine cb H Y (fun H => ?_) (fun H => ?_)
 refine sk (tg (cs (ck (AtC.seqD hmix (by kernel_rfl) (AtD.pures hT 2 _ _ _ _ Y ?_)))))
 obtain ⟨a_, hc1, hd1, H⟩ := H
 refine AtD.q Y (qi hT Y Y Y Y Y hc1 hd1) ?_
 obtain ⟨v_3, hc2, H⟩ := H
 refine AtD.q Y (ql hT Y Y Y hc2) (AtD.pures hT 2 _ _ _ _ Y ?_)
 obtain ⟨a_1_, hc3, hd3, H⟩ := H
 refine AtD.q Y (qi hT Y Y Y Y Y hc3 hd3) ?_
 obtain ⟨v_4, hc4, H⟩ := H
 refine AtD.q Y (ql hT Y Y Y hc4) (AtD.pures hT 1 _ _ _ _ Y (AtD.nil (tg ?_)))
 refine cb H Y (fun H => ?_) (fun H => ?_)
 obtain ⟨a_2_, hc5, hd5, H⟩ := H
 obtain ⟨v_5, hc6, H⟩ := H
 obtain ⟨a_3_, hc7, hd7, H⟩ := H
 obtain ⟨v_6, hc8, H⟩ := H
 apply AtC.seqS [11] (rl [([], 12), ([11], 1)]) [[], [], [0, 1], [0, 1, 2], [0, 1, 2, 3], [], [], [5, 6], [5, 6, 7], [5, 6, 7, 8], (ra 10), (ra 11), (ra 12)] hmix (by kernel_rfl) (nm 37 [_, _, _, _, _, _, _, _, _, _, _]) Y 1 Y
 refine Stg.go (ra 11) [11] Y Y (q_ Y (q_ Y (qq Y (qi hT Y Y Y Y Y hc5 hd5) Y (qq Y (ql hT Y Y Y hc6) Y (q_ Y (q_ Y (q_ Y (qq Y (qi hT Y Y Y Y Y hc7 hd7) Y (qq Y (ql hT Y Y Y hc8) Y (q_ Y (q_ Y qz))))))))))) (ec (lift_nat_sign _) H Tryz.call171 Y fun v_7 h4 H => ?_)
 apply Stg.next [(48, _), (4, _)] Y Y
 refine Stg.fin [12] Y Y (q_ Y qz) (tg (rt (br (tr (tr (br (tr ?_)))))))
 exact r1 4 Y Y Y H
 refine sk (bn (tg (rg (p_ 3 Y (nl ?_)))))
 exact pk (HK1 _ _ (H _ rfl)) [5, 0, 1] [] Y
 refine xt (tx (tx (bh (tg (sR (p_ 1 Y (ng ?_)))))))
 refine rt ?_
 exact r1 4 Y Y Y H
theorem lift_nat_minus (x0 : Sl) (y : Sl) : Lf Tryz.prog 164 [Sl.toV x0, Sl.toV y] Sl.toV (nat_minus x0 y) := by
 refine Lf.go Tryz.func164 Tryz.ntmps164 Y Y [0, 1] Y fun w m S H => ?_
 unfold nat_minus at H
 refine sR (p_ 1 Y (ng (sR (p_ 1 Y (ng (cs (sR ?_)))))))
 refine p_ 3 Y (ng (ck ?_))
 refine AtC.loopM (fun (s0 : Sl × Int × Int) => [(4, Sl.toV s0.1), (5, Value.int .u64 s0.2.1), (11, Value.int .i64 s0.2.2)]) (fun (s0 : Sl × Int × Int) => []) [1, 9, 10] [4, 5, 11, 1, 9, 10] [] [] H Y Y Y (by decide) Y (fun Kp1 s0 h0 H Q1 HK1 => ?_)
 refine sR (p_ 1 Y (ng (cs ?_)))
 refine cb H Y (fun H => ?_) (fun H => ?_)
 refine sk (tg (cs (ck (sR (p_ 1 Y (ix hT H Y Y Y Y Y Y fun _ H => ld hT H Y Y Y Y fun _ H => ?_))))))
 refine p_ 2 Y (ng (sR (p_ 5 Y (ng ?_))))
 refine AtC.joinSeq (β := Unit) (fun (t0 : Int) (bb : Unit) => [(8, Value.int .u64 t0)]) (fun (t0 : Int) (bb : Unit) => []) [1, 4, 9, 10, 11] [] (H _ rfl) Y Y (fun t0 bb h1 H => ?_) (fun J4 H HK4 => ?_)
 refine sR (p_ 3 Y ?_)
 refine AtLX.bs (hT := hT) (cs := [_]) H Y Y Y Y Y Y Y Y Y (fun a_2 h2 H => ?_)
 refine le Y (EffX.appendS (s := _) (u := _) hT Y Y Y Y Y Y Y Y Y Y (by decide) H) ?_
 rintro _ _ ⟨v_3, h3, rfl, rfl, H⟩
 refine p_ 1 Y (ng (rg (p_ 3 Y (nl (bn (tg (rg ?_)))))))
 refine p_ 2 Y (nl ?_)
 exact pk (HK1 _ _ (H _ rfl)) [4, 5, 11, 1, 9, 10] [] Y
 refine sR (p_ 4 Y (ng ?_))
 refine cb H Y (fun H => ?_) (fun H => ?_)
 refine rg (p_ 3 Y (ix hT H Y Y Y Y Y Y fun _ H => ld hT H Y Y Y Y fun _ H => p_ 3 Y (nl ?_)))
 exact pk (HK4 _ () _ (H _ rfl)) [8, 1, 4, 9, 10, 11] [] Y
 refine sk ?_
 exact pk (HK4 _ () _ H) [8, 1, 4, 9, 10, 11] [] Y
 refine xt (tx (tx (bh (tg (sR (p_ 1 Y (lc (lift_nat_trim _) H Tryz.call116 Y fun v_4 h4 H => ?_)))))))
 refine p_ 1 Y (ng (rt ?_))
 exact r1 4 Y Y Y H
theorem lift_nat_double (x0 : Sl) (k : Int) : Lf Tryz.prog 165 [Sl.toV x0, Value.int .i64 k] Sl.toV (nat_double x0 k) := by
 refine Lf.go Tryz.func165 Tryz.ntmps165 Y Y [0, 1] Y fun w m S H => ?_
 unfold nat_double at H
 refine sR (p_ 1 Y (ng (sR (p_ 3 Y (le Y (EffX.mkS hT Y Y Y Y Y Y Y Y (by decide) (H _ rfl)) ?_)))))
 rintro _ _ ⟨v, h0, rfl, rfl, H⟩
 refine p_ 1 Y (ng (sR (p_ 5 Y ?_)))
 obtain ⟨hd0, H⟩ := H
 refine lq Y (Quiet1.shl Y Y Y hd0) (ix hT H Y Y Y Y Y Y fun _ H => le Y (EffX.store hT Y Y Y Y Y H) ?_)
 rintro _ _ ⟨h1, rfl, H⟩
 refine ng (sR (p_ 2 Y (lc (lift_nat_times _ _) H Tryz.call159 Y fun v_1 h2 H => lc (lift_nat_trim _) H Tryz.call116 Y fun v_2 h3 H => p_ 1 Y (ng (rt ?_)))))
 exact r1 4 Y Y Y H
theorem lift_nat_common (x0 : Sl) (y : Sl) : Lf Tryz.prog 151 [Sl.toV x0, Sl.toV y] Sl.toV (nat_common x0 y) := by
 refine Lf.go Tryz.func151 Tryz.ntmps151 Y Y [0, 1] Y fun w m S H => ?_
 unfold nat_common at H
 refine sR (p_ 1 Y (ng (sR (p_ 1 Y (lc (lift_nat_trim _) H Tryz.call116 Y fun v h0 H => p_ 1 Y (lc (lift_nat_trim _) H Tryz.call116 Y fun v_1 h1 H => ?_))))))
 refine p_ 2 Y (ng (cs (sR (p_ 3 Y (ng ?_)))))
 refine cb H Y (fun H => ?_) (fun H => ?_)
 refine sR (p_ 2 Y (ng (rt (tr ?_))))
 exact r1 4 Y Y Y H
 refine sk (tg (cs (sR (p_ 3 Y (ng ?_)))))
 refine cb H Y (fun H => ?_) (fun H => ?_)
 refine sR (p_ 2 Y (ng (rt (tr ?_))))
 exact r1 4 Y Y Y H
 refine sk (tg ?_)
 refine AtC.joinSeq (β := Unit) (fun (t0 : Unit) (bb : Unit) => []) (fun (t0 : Unit) (bb : Unit) => []) [0, 1] [] H Y Y (fun t0 bb h2 H => ?_) (fun J1 H HK1 => ?_)
 refine sR (p_ 1 Y (lc (lift_nat_halve _) H Tryz.call162 Y fun v_5 h7 H => p_ 5 Y (ng (sR (p_ 1 Y (lc (lift_nat_halve _) H Tryz.call162 Y fun v_6 h8 H => ?_))))))
 refine p_ 5 Y (ng (cs (ck ?_)))
 refine AtC.loopM (fun (s0u1 : Sl × Sl) => [(0, Sl.toV s0u1.1), (1, Sl.toV s0u1.2)]) (fun (s0u1 : Sl × Sl) => []) [9, 10] [0, 1, 9, 10] [] [] H Y Y Y (by decide) Y (fun Kp4 s0u1 h9 H Q4 HK4 => ?_)
 refine cs (sR (p_ 2 Y (lc (lift_nat_Cmp _ _) H Tryz.call163 Y fun v_7 h10 H => p_ 1 Y (ng ?_))))
 refine cb H Y (fun H => ?_) (fun H => ?_)
 refine sk (tg (ck ?_))
 refine AtC.joinSeq (β := Unit) (fun (t0u1 : Sl × Sl) (bb_1 : Unit) => [(0, Sl.toV t0u1.1), (1, Sl.toV t0u1.2)]) (fun (t0u1 : Sl × Sl) (bb_1 : Unit) => []) [9, 10] [] H Y Y (fun t0u1 bb_1 h11 H => ?_) (fun J5 H HK5 => ?_)
 refine rg (p_ 2 Y (lc (lift_nat_minus _ _) H Tryz.call164 Y fun v_9 h13 H => lc (lift_nat_halve _) H Tryz.call162 Y fun v_10 h14 H => p_ 4 Y (nl (bn ?_))))
 exact pk (HK4 _ _ H) [0, 1, 9, 10] [] Y
 refine sR (p_ 2 Y (lc (lift_nat_Cmp _ _) H Tryz.call163 Y fun v_8 h12 H => p_ 1 Y (ng ?_)))
 refine cb H Y (fun H => ?_) (fun H => ?_)
 refine rg (p_ 4 Y (nl ?_))
 exact pk (HK5 _ () _ H) [0, 1, 9, 10] [] Y
 refine sk ?_
 exact pk (HK5 _ () _ H) [0, 1, 9, 10] [] Y
 refine xt (tx (tx (bh (tg (sR (p_ 4 Y (lc (lift_nat_double _ _) H Tryz.call165 Y fun v_11 h15 H => ?_)))))))
 refine p_ 1 Y (ng (rt ?_))
 exact r1 4 Y Y Y H
 refine sR (p_ 1 Y (lc (lift_nat_small _) H Tryz.call157 Y fun v_2 h3 H => p_ 5 Y (ng (sR (p_ 1 Y (ng ?_))))))
 refine cb H Y (fun H => ?_) (fun H => ?_)
 refine sR (p_ 1 Y (lc (lift_nat_small _) H Tryz.call157 Y fun v_3 h4 H => p_ 5 Y (ng (sR (p_ 1 Y (ng ?_))))))
 refine cb H Y (fun H => ?_) (fun H => ?_)
 refine cs (ck ?_)
 refine AtC.loopM (fun (s0 : Int × Int) => [(5, Value.int .u64 s0.1), (7, Value.int .u64 s0.2)]) (fun (s0 : Int × Int) => []) [] [5, 7] [] [] H Y Y Y (by decide) Y (fun Kp2 s0 h5 H Q2 HK2 => ?_)
 refine cs (sR (p_ 2 Y (ng ?_)))
 refine cb H Y (fun H => ?_) (fun H => ?_)
 refine sk (tg (ck (AtC.draw hmix (by kernel_rfl) (AtD.pures hT 3 _ _ _ _ Y ?_))))
 obtain ⟨hd2, H⟩ := H
 refine AtD.q Y (Quiet1.rem Y Y Y hd2) (AtD.pures hT 2 _ _ _ _ Y (AtD.nil (bn ?_)))
 exact pk (HK2 _ _ (H _ rfl)) [5, 7] [] Y
 refine xt (tx (tx (bh (tg (sR (p_ 1 Y (lc (lift_nat_Of _) H Tryz.call49 Y fun v_4 h6 H => ?_)))))))
 refine p_ 1 Y (ng (rt (tr ?_)))
 exact r1 4 Y Y Y H
 refine sk ?_
 exact pk (HK1 _ () _ H) [0, 1] [] Y
 refine sk ?_
 exact pk (HK1 _ () _ H) [0, 1] [] Y
theorem lift_nat_Bench_Gcd (b : (Option Addr)) (x0 : Sl) (y : Sl) : Lf Tryz.prog 110 [Value.pointer b, Sl.toV x0, Sl.toV y] Sl.toV (nat_Bench_Gcd b x0 y) := by
 refine Lf.go Tryz.func110 Tryz.ntmps110 Y Y [0, 1, 2] Y fun w m S H => ?_
 unfold nat_Bench_Gcd at H
 refine sR (p_ 1 Y (ng (sR (p_ 3 Y (lc (lift_nat_common _ _) H Tryz.call151 Y fun v h0 H => lc (lift_nat_Bench_fit _ _) H Tryz.call150 Y fun v_1 h1 H => p_ 1 Y ?_)))))
 refine ng (rt ?_)
 exact r1 6 Y Y Y H
theorem lift_nat_plus (x0 : Sl) (y : Sl) : Lf Tryz.prog 168 [Sl.toV x0, Sl.toV y] Sl.toV (nat_plus x0 y) := by
 refine Lf.go Tryz.func168 Tryz.ntmps168 Y Y [0, 1] Y fun w m S H => ?_
 unfold nat_plus at H
 refine sR (p_ 1 Y (ng (sR (p_ 1 Y (ng (cs (sR ?_)))))))
 refine p_ 6 Y (ng (ck ?_))
 refine AtC.loopM (fun (s0 : Sl × Int × Int) => [(4, Sl.toV s0.1), (5, Value.int .u64 s0.2.1), (14, Value.int .i64 s0.2.2)]) (fun (s0 : Sl × Int × Int) => []) [0, 1, 13] [4, 5, 14, 0, 1, 13] [] [] H Y Y Y (by decide) Y (fun Kp1 s0 h0 H Q1 HK1 => ?_)
 refine sR (p_ 1 Y (ng (cs ?_)))
 refine cb H Y (fun H => ?_) (fun H => ?_)
 refine sk (tg (cs (ck (sR (p_ 2 Y (ng (cs ?_)))))))
 refine sR (p_ 2 Y (lq Y (Quiet1.buildA (cs := [_, _]) hT Y Y Y Y Y Y) (p_ 1 Y (ng (ck ?_)))))
 refine AtC.loopM (fun (s0u1 : Int × Int) => [(5, Value.int .u64 s0u1.1), (20, Value.int .i64 s0u1.2)]) (fun (s0u1 : Int × Int) => []) [0, 1, 4, 6, 13, 14, 19] [5, 20, 0, 1, 4, 6, 13, 14, 19] [] [] H Y Y Y (by decide) Y (fun Kp2 s0u1 h1 H Q2 HK2 => ?_)
 refine sR (p_ 1 Y (ng (cs ?_)))
 refine cb H Y (fun H => ?_) (fun H => ?_)
 refine sk (tg ?_)
 refine AtC.joinSeq (β := Unit) (fun (t0 : Int) (bb : Unit) => [(5, Value.int .u64 t0)]) (fun (t0 : Int) (bb : Unit) => []) [0, 1, 4, 6, 13, 14, 19, 20] [] H Y Y (fun t0 bb h2 H => ?_) (fun J3 H HK3 => ?_)
 refine rg (p_ 2 Y (nl ?_))
 exact pk (HK2 _ _ H) [5, 20, 0, 1, 4, 6, 13, 14, 19] [] Y
 refine ck (sR ?_)
 obtain ⟨hd3, v, hc3, H⟩ := H
 refine lq Y (Quiet1.idxV hT Y Y Y Y Y Y hd3 hc3) (p_ 1 Y (ng (sR (p_ 4 Y (ng ?_)))))
 refine cb H Y (fun H => ?_) (fun H => ?_)
 refine rg (p_ 3 Y (ix hT H Y Y Y Y Y Y fun _ H => ld hT H Y Y Y Y fun _ H => p_ 3 Y (nl (bn ?_))))
 exact pk (HK3 _ () _ (H _ rfl)) [5, 0, 1, 4, 6, 13, 14, 19, 20] [] Y
 refine sk (bn ?_)
 exact pk (HK3 _ () _ H) [5, 0, 1, 4, 6, 13, 14, 19, 20] [] Y
 refine xt (tx (tx (bh (tg (sR (p_ 3 Y ?_))))))
 refine AtLX.bs (hT := hT) (cs := [_]) H Y Y Y Y Y Y Y Y Y (fun a_1 h3 H => ?_)
 refine le Y (EffX.appendS (s := _) (u := _) hT Y Y Y Y Y Y Y Y Y Y (by decide) H) ?_
 rintro _ _ ⟨v_3, h4, rfl, rfl, H⟩
 refine p_ 1 Y (ng (rg (p_ 3 Y (nl (bn (tg (rg ?_)))))))
 refine p_ 2 Y (nl ?_)
 exact pk (HK1 _ _ (H _ rfl)) [4, 5, 14, 0, 1, 13] [] Y
 refine xt (tx (tx (bh (tg (sR (p_ 3 Y ?_))))))
 refine AtLX.bs (hT := hT) (cs := [_]) H Y Y Y Y Y Y Y Y Y (fun a_2 h5 H => ?_)
 refine le Y (EffX.appendS (s := _) (u := _) hT Y Y Y Y Y Y Y Y Y Y (by decide) H) ?_
 rintro _ _ ⟨v_5, h6, rfl, rfl, H⟩
 refine p_ 1 Y (ng (rt ?_))
 exact r1 4 Y Y Y H
theorem lift_nat_bit (x0 : Sl) (at0 : Int) : Lf Tryz.prog 169 [Sl.toV x0, Value.int .i64 at0] (Value.int .u32) (nat_bit x0 at0) := by
 refine Lf.go Tryz.func169 Tryz.ntmps169 Y Y [0, 1] Y fun w m S H => ?_
 unfold nat_bit at H
 refine sR (p_ 1 Y (ng (sR (p_ 3 Y (ix hT H Y Y Y Y Y Y fun _ H => ld hT H Y Y Y Y fun _ H => p_ 2 Y ?_)))))
 obtain ⟨hd2, H⟩ := H
 refine lq Y (Quiet1.shr Y Y Y hd2) (p_ 2 Y (ng (rt ?_)))
 exact r1 4 Y Y Y H
theorem lift_nat_divide (x0 : Sl) (y : Sl) : Lf Tryz.prog 156 [Sl.toV x0, Sl.toV y] (fun r => Value.tuple #[Sl.toV r.1, Sl.toV r.2]) (nat_divide x0 y) := by
 refine Lf.go Tryz.func156 Tryz.ntmps156 Y Y [0, 1] Y fun w m S H => ?_
 unfold nat_divide at H
 refine sR (p_ 2 Y (ng (sR (p_ 1 Y (lc (lift_nat_small _) H Tryz.call157 Y fun v h0 H => p_ 5 Y (ng ?_))))))
 refine sR (p_ 1 Y (lc (lift_nat_small _) H Tryz.call157 Y fun v_1 h1 H => p_ 5 Y (ng (cs ?_))))
 refine AtC.joinSeq (β := Unit) (fun (t0 : Bool) (bb : Unit) => [(24, Value.bool t0)]) (fun (t0 : Bool) (bb : Unit) => []) [0, 1, 5, 6, 8] [] H Y Y (fun t0 bb h2 H => ?_) (fun J1 H HK1 => ?_)
 refine cb H Y (fun H => ?_) (fun H => ?_)
 obtain ⟨hd1, H⟩ := H
 obtain ⟨hd2, H⟩ := H
 apply AtC.seqS [3, 7] (rl [([], 7), ([3], 1), ([3, 7], 2)]) [[], [], [0, 1], [0, 1, 2], [], [], [4, 5], (ra 7), (ra 8), (ra 9)] hmix (by kernel_rfl) [(25, _), (26, _), (27, _), (29, _), (30, _), (31, _)] Y 2 Y
 refine Stg.go [0, 1, 2, 4, 5, 6] [3] Y Y (q_ Y (q_ Y (qq Y (Quiet1.quo Y Y Y hd1) Y (q_ Y (q_ Y (qq Y (Quiet1.rem Y Y Y hd2) Y qz)))))) (ec (lift_nat_Of _) H Tryz.call49 Y fun v_2 h3 H => ?_)
 apply Stg.next [(28, _)] Y Y
 refine Stg.go [4, 5, 6] [7] Y Y (q_ Y (q_ Y (qq Y (Quiet1.rem Y Y Y hd2) Y qz))) (ec (lift_nat_Of _) H Tryz.call49 Y fun v_3 h4 H => ?_)
 apply Stg.next [(32, _), (4, _), (5, _)] Y Y
 refine Stg.fin [8, 9] Y Y (q_ Y (q_ Y qz)) (tg (rt (tr ?_)))
 exact AtE.retN (rs := [.tmp 4, .tmp 5]) Y (ResAll.cons (ResAt.tmp Y) (ResAll.cons (ResAt.tmp Y) ResAll.nil)) Y H
 refine sk (tg (sR (p_ 1 Y (lc (lift_nat_trim _) H Tryz.call116 Y fun v_4 h5 H => p_ 1 Y (lc (lift_nat_trim _) H Tryz.call116 Y fun v_5 h6 H => p_ 2 Y ?_)))))
 refine ng (sR (p_ 2 Y (le Y (EffX.mkS hT Y Y Y Y Y Y Y Y (by decide) (H _ rfl)) ?_)))
 rintro _ _ ⟨v_6, h7, rfl, rfl, H⟩
 refine p_ 1 Y (ng (cs (sR (p_ 5 Y (ng (ck ?_))))))
 refine AtC.loopM (fun (s0 : Sl × Int) => [(5, Sl.toV s0.1), (10, Value.int .i64 s0.2)]) (fun (s0 : Sl × Int) => []) [0, 1, 4] [5, 10, 0, 1, 4] [] [] (H _ rfl) Y Y Y (by decide) Y (fun Kp4 s0 h8 H Q4 HK4 => ?_)
 refine cs (sR (p_ 2 Y (ng ?_)))
 refine cb H Y (fun H => ?_) (fun H => ?_)
 refine sk (tg ?_)
 refine AtC.joinSeq (β := Unit) (fun (t0u1 : Sl) (bb_1 : Unit) => [(5, Sl.toV t0u1)]) (fun (t0u1 : Sl) (bb_1 : Unit) => []) [0, 1, 4, 10] [] H Y Y (fun t0u1 bb_1 h9 H => ?_) (fun J5 H HK5 => ?_)
 refine rg (p_ 3 Y (nl ?_))
 exact pk (HK4 _ _ (H _ rfl)) [5, 10, 0, 1, 4] [] Y
 refine ck (sR (p_ 2 Y (lc (lift_nat_plus _ _) H Tryz.call168 Y fun v_7 h10 H => p_ 1 Y (ng ?_))))
 obtain ⟨a_, hc5, hd5, H⟩ := H
 obtain ⟨v_8, hc6, H⟩ := H
 apply AtC.seqS [5, 8] (rl [([], 6), ([5], 3)]) [[], [0], [0, 1], [], [], [3, 4], (ra 6), (ra 7), (ra 8)] hmix (by kernel_rfl) (nm 51 [_, _, _, _, _]) Y 2 Y
 refine Stg.go (ra 5) [5] Y Y (q_ Y (qq Y (qi hT Y Y Y Y Y hc5 hd5) Y (qq Y (ql hT Y Y Y hc6) Y (q_ Y (q_ Y qz))))) (ec (lift_nat_bit _ _) H Tryz.call169 Y fun v_9 h11 H => ?_)
 obtain ⟨hc7, H⟩ := H
 obtain ⟨a_1_, hc8, hd8, H⟩ := H
 apply Stg.next (nm 56 [_, _, _]) Y Y
 refine Stg.go [0, 1, 2, 6, 7] [8] Y Y (q_ Y (qq Y (qi hT Y Y Y Y Y hc5 hd5) Y (qq Y (ql hT Y Y Y hc7) Y (q_ Y (qq Y (qi hT Y Y Y Y Y hc8 hd8) Y qz))))) (eo Y (EffX.store hT Y Y Y Y Y H) ?_)
 rintro _ _ ⟨h12, rfl, H⟩
 apply Stg.next [] Y Y
 refine Stg.fin [] Y Y qz (tg (sR (p_ 1 Y (lc (lift_nat_trim _) H Tryz.call116 Y fun v_10 h13 H => p_ 1 Y (ng (sR ?_))))))
 refine p_ 2 Y (lc (lift_nat_Cmp _ _) H Tryz.call163 Y fun v_11 h14 H => p_ 1 Y (ng ?_))
 refine cb H Y (fun H => ?_) (fun H => ?_)
 refine sR (p_ 2 Y (lc (lift_nat_minus _ _) H Tryz.call164 Y fun v_12 h15 H => p_ 1 Y (ng ?_)))
 obtain ⟨a_2_, hc9, hd9, H⟩ := H
 obtain ⟨v_13, hc10, H⟩ := H
 obtain ⟨hd11, H⟩ := H
 obtain ⟨a_3_, hc12, hd12, H⟩ := H
 apply AtC.stages [10] (rl [([], 11)]) [[], [], [1], [0, 1, 2], [0, 1, 2, 3], [], [5], [5, 6], (ra 8), (ra 9), (ra 10)] hmix (by kernel_rfl) (nm 68 [_, _, _, _, _, _, _, _, _, _]) Y 1 Y
 refine Stg.go (ra 10) [10] Y Y (q_ Y (q_ Y (q_ Y (qq Y (qi hT Y Y Y Y Y hc9 hd9) Y (qq Y (ql hT Y Y Y hc10) Y (q_ Y (q_ Y (qq Y (Quiet1.shl Y Y Y hd11) Y (q_ Y (qq Y (qi hT Y Y Y Y Y hc12 hd12) Y qz)))))))))) (eo Y (EffX.store hT Y Y Y Y Y H) ?_)
 rintro _ _ ⟨h16, rfl, H⟩
 apply Stg.next [] Y Y
 refine Stg.fin [] Y Y qz (bn ?_)
 exact pk (HK5 _ () _ H) [5, 0, 1, 4, 10] [] Y
 refine sk (bn ?_)
 exact pk (HK5 _ () _ H) [5, 0, 1, 4, 10] [] Y
 refine xt (tx (tx (bh (tg (sR (p_ 1 Y (lc (lift_nat_trim _) H Tryz.call116 Y fun v_14 h17 H => ?_)))))))
 refine p_ 3 Y (ng (rt ?_))
 exact AtE.retN (rs := [.tmp 4, .tmp 5]) Y (ResAll.cons (ResAt.tmp Y) (ResAll.cons (ResAt.tmp Y) ResAll.nil)) Y H
 refine rg (p_ 2 Y ?_)
 refine AtL.splitB (t := 22) H Y (fun H => ?_) (fun H => ?_)
 refine p_ 3 Y (nl ?_)
 exact pk (HK1 _ () _ H) [24, 0, 1, 5, 6, 8] [] Y
 refine p_ 2 Y (nl ?_)
 exact pk (HK1 _ () _ H) [24, 0, 1, 5, 6, 8] [] Y
theorem lift_nat_Bench_Div (b : (Option Addr)) (x0 : Sl) (y : Sl) : Lf Tryz.prog 161 [Value.pointer b, Sl.toV x0, Sl.toV y] (fun r => Value.tuple #[Sl.toV r.1, Sl.toV r.2]) (nat_Bench_Div b x0 y) := by
 refine Lf.go Tryz.func161 Tryz.ntmps161 Y Y [0, 1, 2] Y fun w m S H => ?_
 unfold nat_Bench_Div at H
 refine sR (p_ 2 Y (ng (cs (sR (p_ 1 Y (lc (lift_nat_trim _) H Tryz.call116 Y fun v h0 H => p_ 2 Y ?_))))))
 refine ng ?_
 refine cb H Y (fun H => ?_) (fun H => ?_)
 refine sR (p_ 2 Y (ng (rt (tr ?_))))
 exact AtE.retN (rs := [.tmp 6, .tmp 7]) Y (ResAll.cons (ResAt.tmp Y) (ResAll.cons (ResAt.tmp Y) ResAll.nil)) Y H
 refine sk (tg (sR (p_ 2 Y (lc (lift_nat_divide _ _) H Tryz.call156 Y fun v_1 h1 H => p_ 5 Y (ng (sR ?_))))))
 refine p_ 2 Y (lc (lift_nat_Bench_fit _ _) H Tryz.call150 Y fun v_2 h2 H => p_ 2 Y (lc (lift_nat_Bench_fit _ _) H Tryz.call150 Y fun v_3 h3 H => p_ 2 Y (ng (cs (sR ?_)))))
 refine p_ 1 Y (nk H Y Y Y fun _ H => p_ 1 Y (ld hT H Y Y Y Y fun _ H => ng ?_))
 refine cb H Y (fun H => ?_) (fun H => ?_)
 refine sR (p_ 2 Y (ng (rt (tr ?_))))
 exact AtE.retN (rs := [.tmp 6, .tmp 7]) Y (ResAll.cons (ResAt.tmp Y) (ResAll.cons (ResAt.tmp Y) ResAll.nil)) Y H
 refine sk (tg (sR (p_ 4 Y (ng (rt ?_)))))
 exact AtE.retN (rs := [.tmp 6, .tmp 7]) Y (ResAll.cons (ResAt.tmp Y) (ResAll.cons (ResAt.tmp Y) ResAll.nil)) Y H
theorem lift_slices_Equal_api_Nat_uint32 (s1 : Sl) (s2 : Sl) : Lf Tryz.prog 148 [Sl.toV s1, Sl.toV s2] Value.bool (slices_Equal_api_Nat_uint32 s1 s2) := by
 refine Lf.go Tryz.func148 Tryz.ntmps148 Y Y [0, 1] Y fun w m S H => ?_
 unfold slices_Equal_api_Nat_uint32 at H
 refine sR (p_ 1 Y (ng (cs (sR (p_ 5 Y (ng ?_))))))
 refine cb H Y (fun H => ?_) (fun H => ?_)
 refine sR (p_ 1 Y (ng (rt (tr ?_))))
 exact r1 4 Y Y Y H
 refine sk (tg (cs (sR (p_ 3 Y (ng (ck ?_))))))
 refine AtC.loopM (fun (s0 : Int) => [(13, Value.int .i64 s0)]) (fun (s0 : Int) => []) [0, 1, 12] [13, 0, 1, 12] [] [] H Y Y Y (by decide) Y (fun Kp1 s0 h0 H Q1 HK1 => ?_)
 refine sR (p_ 1 Y (ng (cs ?_)))
 refine cb H Y (fun H => ?_) (fun H => ?_)
 refine sk (tg (cs (ck (sR (p_ 2 Y (ng (AtC.seqD hmix (by kernel_rfl) ?_)))))))
 refine AtD.pures hT 2 _ _ _ _ Y ?_
 obtain ⟨a_, hc1, hd1, H⟩ := H
 refine AtD.q Y (qi hT Y Y Y Y Y hc1 hd1) ?_
 obtain ⟨v, hc2, H⟩ := H
 refine AtD.q Y (ql hT Y Y Y hc2) (AtD.pures hT 2 _ _ _ _ Y ?_)
 obtain ⟨a_1_, hc3, hd3, H⟩ := H
 refine AtD.q Y (qi hT Y Y Y Y Y hc3 hd3) ?_
 obtain ⟨v_1, hc4, H⟩ := H
 refine AtD.q Y (ql hT Y Y Y hc4) (AtD.pures hT 1 _ _ _ _ Y (AtD.nil (tg ?_)))
 refine cb H Y (fun H => ?_) (fun H => ?_)
 refine sR (p_ 1 Y (ng (rt (br (tr (tr (br ?_)))))))
 refine tr ?_
 exact r1 4 Y Y Y H
 refine sk (bn (tg (rg (p_ 2 Y (nl ?_)))))
 exact pk (HK1 _ _ H) [13, 0, 1, 12] [] Y
 refine xt (tx (tx (bh (tg (sR (p_ 1 Y (ng ?_)))))))
 refine rt ?_
 exact r1 4 Y Y Y H
theorem lift_ratio_isOne (x0 : Sl) : Lf Tryz.prog 108 [Sl.toV x0] Value.bool (ratio_isOne x0) := by
 refine Lf.go Tryz.func108 Tryz.ntmps108 Y Y [0] Y fun w m S H => ?_
 unfold ratio_isOne at H
 refine sR (p_ 1 Y (ng (sR (p_ 1 Y (le Y (cl (fun h => ratio_one h _) H Y Tryz.call149 Y (fun w m hr hw => lift_ratio_one  w m hr _ hw)) ?_)))))
 rintro _ _ ⟨v, h0, rfl, rfl, H⟩
 refine lc (lift_slices_Equal_api_Nat_uint32 _ _) H Tryz.call148 Y fun v_1 h1 H => p_ 1 Y (ng (rt ?_))
 exact r1 2 Y Y Y H
theorem lift_ratio_form (neg : Bool) (num : Sl) (d : Sl) : Lf Tryz.prog 138 [Value.bool neg, Sl.toV num, Sl.toV d] (fun r => Value.agg (C_bool_sl_sl r).toArray) (ratio_form neg num d) := by
 refine Lf.go Tryz.func138 Tryz.ntmps138 Y Y [0, 1, 2] Y fun w m S H => ?_
 unfold ratio_form at H
 refine sR (al hT [_, _, _] H Y Y Y fun b _ H => nl (tg (sR (le Y (cl (fun h => ratio_free h _) H.self Y Tryz.call109 Y (fun w m hr hw => lift_ratio_free  w m hr _ hw)) ?_))))
 rintro _ _ ⟨v, h1, rfl, rfl, H⟩
 refine p_ 1 Y (ng (sR (p_ 3 Y (lc (lift_nat_Bench_Gcd _ _ _) H Tryz.call110 Y fun v_1 h2 H => p_ 1 Y (ng (sR ?_))))))
 refine p_ 3 Y (lc (lift_nat_Bench_Div _ _ _) H Tryz.call161 Y fun v_2 h3 H => p_ 4 Y (ng (sR (p_ 3 Y (lc (lift_nat_Bench_Div _ _ _) H Tryz.call161 Y fun v_3 h4 H => p_ 4 Y ?_)))))
 refine ng ?_
 refine AtC.joinSeq (β := Unit) (fun (t0 : Sl) (bb : Unit) => [(2, Sl.toV t0)]) (fun (t0 : Sl) (bb : Unit) => []) [0, 1, 6] [0] H Y Y (fun t0 bb h5 H => ?_) (fun J1 H HK1 => ?_)
 refine cs (sR (p_ 3 Y (ng ?_)))
 refine cb H Y (fun H => ?_) (fun H => ?_)
 refine sR (lq Y (qb (cs := [_, _, _]) hT Y Y Y Y Y Y) (sp hT 0 [(_, [_, _, _])] Y Y Y Y Y Y Y Y Y Y Y fun _ => ng (rt (tr ?_))))
 exact rc (i := 0) hT [_, _, _] Y Y Y Y Y Y Y Y Y H
 refine sk (tg (sR (p_ 2 Y (lq Y (qb (cs := [_, _]) hT Y Y Y Y Y Y) (p_ 1 Y (lq Y (qb (cs := [_, _, _]) hT Y Y Y Y Y Y) (sp hT 0 [(_, [_, _, _])] Y Y Y Y Y Y Y Y Y Y Y fun _ => ?_)))))))
 refine ng (rt ?_)
 exact rc (i := 0) hT [_, _, _] Y Y Y Y Y Y Y Y Y H
 refine sR (p_ 1 Y (lc (lift_ratio_isOne _) H Tryz.call108 Y fun v_4 h6 H => ng ?_))
 refine cb H Y (fun H => ?_) (fun H => ?_)
 refine rg (p_ 1 Y (nl ?_))
 exact pk (HK1 _ () _ H) [2, 0, 1, 6] [0] Y
 refine sk ?_
 exact pk (HK1 _ () _ H) [2, 0, 1, 6] [0] Y
theorem lift_nat_Bench_Add (b : (Option Addr)) (x0 : Sl) (y : Sl) : Lf Tryz.prog 160 [Value.pointer b, Sl.toV x0, Sl.toV y] Sl.toV (nat_Bench_Add b x0 y) := by
 refine Lf.go Tryz.func160 Tryz.ntmps160 Y Y [0, 1, 2] Y fun w m S H => ?_
 unfold nat_Bench_Add at H
 refine sR (p_ 1 Y (ng (sR (p_ 3 Y (lc (lift_nat_plus _ _) H Tryz.call168 Y fun v h0 H => lc (lift_nat_Bench_fit _ _) H Tryz.call150 Y fun v_1 h1 H => p_ 1 Y ?_)))))
 refine ng (rt ?_)
 exact r1 6 Y Y Y H
theorem lift_nat_Bench_Over (b : (Option Addr)) : Lf Tryz.prog 30 [Value.pointer b] Value.bool (nat_Bench_Over b) := by
 refine Lf.go Tryz.func30 Tryz.ntmps30 Y Y [0] Y fun w m S H => ?_
 unfold nat_Bench_Over at H
 refine sR (p_ 1 Y (ng (sR (p_ 1 Y (nk H Y Y Y fun _ H => p_ 1 Y (ld hT H Y Y Y Y fun _ H => ?_))))))
 refine p_ 1 Y (ng (rt ?_))
 exact r1 2 Y Y Y H
theorem lift_ratio_fit (b : (Option Addr)) (x0 : Bool × Sl × Sl) : Lf Tryz.prog 137 [Value.pointer b, Value.agg (C_bool_sl_sl x0).toArray] (fun r => Value.agg (C_bool_sl_sl r).toArray) (ratio_fit b x0) := by
 refine Lf.go Tryz.func137 Tryz.ntmps137 Y Y [0, 1] Y fun w m S H => ?_
 unfold ratio_fit at H
 refine sR (bx [_, _, _] H Y Y Y Y fun b_1 _ H => al hT [_, _, _] H Y Y Y fun b_2 _ H => nl (tg (sR (p_ 3 Y (lq Y (l_ 1 Y) ?_)))))
 refine lc (lift_nat_Bench_Add _ _ _) H.self Tryz.call160 Y fun v h1 H => ng (sR (p_ 2 Y (lq Y (l_ 1 Y) (lc (lift_nat_Bench_Add _ _ _) H Tryz.call160 Y fun v_1 h2 H => ng (cs ?_)))))
 refine sR (p_ 1 Y (lc (lift_nat_Bench_Over _) H Tryz.call30 Y fun v_2 h3 H => ng ?_))
 refine cb H Y (fun H => ?_) (fun H => ?_)
 refine sR (lq Y (qb (cs := [_, _, _]) hT Y Y Y Y Y Y) (sp hT 0 [(_, [_, _, _]), (_, [_, _, _])] Y Y Y Y Y Y Y Y Y Y Y fun _ => ng (rt (tr ?_))))
 exact rc (i := 0) hT [_, _, _] Y Y Y Y Y Y Y Y Y H
 refine sk (tg (sR (lq Y (s_ 1 [_, _, _] Y) (sp hT 0 [(_, [_, _, _]), (_, [_, _, _])] Y Y Y Y Y Y Y Y Y Y Y fun _ => ng (rt ?_)))))
 exact rc (i := 0) hT [_, _, _] Y Y Y Y Y Y Y Y Y H
theorem lift_ratio_Div (b : (Option Addr)) (x0 : Bool × Sl × Sl) (y : Bool × Sl × Sl) : Lf Tryz.prog 83 [Value.pointer b, Value.agg (C_bool_sl_sl x0).toArray, Value.agg (C_bool_sl_sl y).toArray] (fun r => Value.agg (C_bool_sl_sl r).toArray) (ratio_Div b x0 y) := by
 refine Lf.go Tryz.func83 Tryz.ntmps83 Y Y [0, 1, 2] Y fun w m S H => ?_
 unfold ratio_Div at H
 refine sR (bx [_, _, _] H Y Y Y Y fun b_1 _ H => bx [_, _, _] H Y Y Y Y fun b_2 _ H => al hT [_, _, _] H Y Y Y fun b_3 _ H => nl (tg (cs (sR ?_))))
 refine lq Y (s_ 1 [_, _, _] Y) (lc (lift_ratio_Sign _) H.self Tryz.call43 Y fun v h1 H => p_ 1 Y (ng ?_))
 refine cb H Y (fun H => ?_) (fun H => ?_)
 refine sR (lq Y (qb (cs := [_, _, _]) hT Y Y Y Y Y Y) (sp hT 0 [(_, [_, _, _]), (_, [_, _, _]), (_, [_, _, _])] Y Y Y Y Y Y Y Y Y Y Y fun _ => ng (rt (tr ?_))))
 exact rc (i := 0) hT [_, _, _] Y Y Y Y Y Y Y Y Y H
 refine sk (tg (sR (le Y (cl (fun h => ratio_free h _) H Y Tryz.call109 Y (fun w m hr hw => lift_ratio_free  w m hr _ hw)) ?_)))
 rintro _ _ ⟨v_1, h2, rfl, rfl, H⟩
 refine lq Y (Quiet1.makeFn (bs := [_]) (cs := []) Y Y Y) (p_ 1 Y (ng ?_))
 apply AtC.seqS [13, 14, 17, 21, 22, 23, 24] (rl [([], 14), ([13], 1), ([], 2), ([13, 14], 1), ([], 3), ([13, 14, 17], 1), ([13, 14, 17, 21], 1), ([13, 14, 17, 21, 22], 1), ([13, 14, 17, 21, 22, 23], 1)]) [[], [], [1], [1, 2], [], [4], [4, 5], [1, 2, 3, 4, 5, 6], [], [], [9], [9, 10], [], [12], [8, 9, 10, 11, 12, 13], [], [], [8, 9, 10, 11, 12, 13, 14, 16], [], [18], [18, 19], [8, 9, 10, 11, 12, 13, 14, 15, 16, 17, 18, 19, 20], [1, 2, 3, 4, 5, 6, 7, 8, 9, 10, 11, 12, 13, 14, 15, 16, 17, 18, 19, 20, 21], (ra 23), (ra 24)] hmix (by kernel_rfl) (nm 14 [_, _, _, _, _, _, _, _, _, _, _, _, _] ++ [(29, _), (30, _)] ++ nm 32 [_, _, _]) Y 7 Y
 refine Stg.go (ra 13 ++ [15, 16, 18, 19, 20]) [13] Y Y (q_ Y (q_ Y (q_ Y (qq Y (l_ 2 Y) Y (q_ Y (q_ Y (qq Y (l_ 1 Y) Y (q_ Y (q_ Y (q_ Y (q_ Y (qq Y (l_ 2 Y) Y (qq Y (s_ 1 [_, _, _] Y) Y (q_ Y (qq Y (s_ 2 [_, _, _] Y) Y (q_ Y (q_ Y (qq Y (l_ 1 Y) Y qz)))))))))))))))))) (ec (lift_ratio_den _) H Tryz.call111 Y fun v_2 h3 H => ?_)
 apply Stg.next [(27, _)] Y Y
 refine Stg.go (ra 12 ++ [15, 16, 18, 19, 20]) [14] Y Y (q_ Y (q_ Y (q_ Y (qq Y (l_ 2 Y) Y (q_ Y (q_ Y (qq Y (l_ 1 Y) Y (q_ Y (q_ Y (q_ Y (q_ Y (qq Y (l_ 2 Y) Y (q_ Y (qq Y (s_ 2 [_, _, _] Y) Y (q_ Y (q_ Y (qq Y (l_ 1 Y) Y qz))))))))))))))))) (eo Y (EffX.callF (bs := [_]) (cs := []) (f := 136) (sh := fun h => nat_Bench_Mul _ _ _ h _) (H0 := H) Y Y Tryz.call136 Y (hl := fun w m hr hw => lift_nat_Bench_Mul _ _ _ w m hr _ hw)) ?_)
 rintro _ _ ⟨v_3, h4, rfl, rfl, H⟩
 apply Stg.next [(28, _)] Y Y
 refine Stg.go (ra 8 ++ [15, 16, 18, 19, 20]) [17] Y Y (q_ Y (q_ Y (q_ Y (qq Y (l_ 2 Y) Y (q_ Y (q_ Y (qq Y (l_ 1 Y) Y (q_ Y (q_ Y (qq Y (s_ 2 [_, _, _] Y) Y (q_ Y (q_ Y (qq Y (l_ 1 Y) Y qz))))))))))))) (ec (lift_ratio_den _) H Tryz.call111 Y fun v_4 h5 H => ?_)
 apply Stg.next [(31, _)] Y Y
 refine Stg.go (ra 8 ++ [15, 18, 19, 20]) [21] Y Y (q_ Y (q_ Y (q_ Y (qq Y (l_ 2 Y) Y (q_ Y (q_ Y (qq Y (l_ 1 Y) Y (q_ Y (q_ Y (q_ Y (q_ Y (qq Y (l_ 1 Y) Y qz)))))))))))) (eo Y (EffX.callF (bs := [_]) (cs := []) (f := 136) (sh := fun h => nat_Bench_Mul _ _ _ h _) (H0 := H) Y Y Tryz.call136 Y (hl := fun w m hr hw => lift_nat_Bench_Mul _ _ _ w m hr _ hw)) ?_)
 rintro _ _ ⟨v_5, h6, rfl, rfl, H⟩
 apply Stg.next [(35, _)] Y Y
 refine Stg.go (ra 8) [22] Y Y (q_ Y (q_ Y (q_ Y (qq Y (l_ 2 Y) Y (q_ Y (q_ Y (qq Y (l_ 1 Y) Y (q_ Y qz)))))))) (ec (lift_ratio_form _ _ _) H Tryz.call138 Y fun v_6 h7 H => ?_)
 apply Stg.next [(36, _)] Y Y
 refine Stg.go [0] [23] Y Y (q_ Y qz) (ec (lift_ratio_fit _ _) H Tryz.call137 Y fun v_7 h8 H => ?_)
 apply Stg.next [(37, _)] Y Y
 refine Stg.go [] [24] Y Y qz (eo Y (es (i := 0) (qv := [(_, [_, _, _]), (_, [_, _, _]), (_, [_, _, _])]) hT Y Y Y Y Y Y Y Y Y Y) ?_)
 rintro _ _ rfl
 apply Stg.next [] Y Y
 refine Stg.fin [] Y Y qz (tg (rt ?_))
 exact rc (i := 0) hT [_, _, _] Y Y Y Y Y Y Y Y Y H
theorem lift_linear_Of (v : Int) : Lf Tryz.prog 86 [Value.int .i64 v] (fun r => Value.agg (C_bool_sl_sl_sl r).toArray) (linear_Of v) := by
 refine Lf.go Tryz.func86 Tryz.ntmps86 Y Y [0] Y fun w m S H => ?_
 unfold linear_Of at H
 refine sR (al hT [_, _, _, _] H Y Y Y fun b _ H => nl (tg (sR (p_ 1 Y (lc (lift_ratio_Of _) H.self Tryz.call12 Y fun v_1 h1 H => lq Y (qb (cs := [_, _, _, _]) hT Y Y Y Y Y Y) ?_)))))
 refine AtLX.bs (hT := hT) (cs := [_, _, _, _]) H Y Y Y Y Y Y Y Y Y (fun a h2 H => ?_)
 refine lq Y (qb (cs := [_, _, _, _]) hT Y Y Y Y Y Y) (sp hT 0 [(_, [_, _, _, _])] Y Y Y Y Y Y Y Y Y Y Y fun _ => ng (rt ?_))
 exact rc (i := 0) hT [_, _, _, _] Y Y Y Y Y Y Y Y Y H
theorem lift_ratio_Mul (b : (Option Addr)) (x0 : Bool × Sl × Sl) (y : Bool × Sl × Sl) : Lf Tryz.prog 135 [Value.pointer b, Value.agg (C_bool_sl_sl x0).toArray, Value.agg (C_bool_sl_sl y).toArray] (fun r => Value.agg (C_bool_sl_sl r).toArray) (ratio_Mul b x0 y) := by
 refine Lf.go Tryz.func135 Tryz.ntmps135 Y Y [0, 1, 2] Y fun w m S H => ?_
 unfold ratio_Mul at H
 refine sR (bx [_, _, _] H Y Y Y Y fun b_1 _ H => bx [_, _, _] H Y Y Y Y fun b_2 _ H => al hT [_, _, _] H Y Y Y fun b_3 _ H => nl (tg (sR (le Y (cl (fun h => ratio_free h _) H.self Y Tryz.call109 Y (fun w m hr hw => lift_ratio_free  w m hr _ hw)) ?_))))
 rintro _ _ ⟨v, h1, rfl, rfl, H⟩
 refine lq Y (Quiet1.makeFn (bs := [_]) (cs := []) Y Y Y) (p_ 1 Y (ng ?_))
 apply AtC.seqS [15, 18, 20, 21, 22, 23, 24] (rl [([], 18), ([15], 1), ([], 1), ([15, 18], 1), ([15, 18, 20], 1), ([15, 18, 20, 21], 1), ([15, 18, 20, 21, 22], 1), ([15, 18, 20, 21, 22, 23], 1)]) [[], [], [1], [1, 2], [], [4], [4, 5], [1, 2, 3, 4, 5, 6], [], [], [9], [9, 10], [], [12], [12, 13], [8, 9, 10, 11, 12, 13, 14], [], [], [8, 9, 10, 11, 12, 13, 14, 15, 17], [], [8, 9, 10, 11, 12, 13, 14, 15, 17, 18, 19], [8, 9, 10, 11, 12, 13, 14, 15, 16, 17, 18, 19, 20], [1, 2, 3, 4, 5, 6, 7, 8, 9, 10, 11, 12, 13, 14, 15, 16, 17, 18, 19, 20, 21], (ra 23), (ra 24)] hmix (by kernel_rfl) (nm 10 [_, _, _, _, _, _, _, _, _, _, _, _, _, _, _] ++ [(26, _), (27, _)] ++ [(29, _)]) Y 7 Y
 refine Stg.go (ra 15 ++ [16, 17, 19]) [15] Y Y (q_ Y (q_ Y (q_ Y (qq Y (l_ 2 Y) Y (q_ Y (q_ Y (qq Y (l_ 1 Y) Y (q_ Y (q_ Y (q_ Y (q_ Y (qq Y (l_ 2 Y) Y (q_ Y (q_ Y (qq Y (l_ 1 Y) Y (q_ Y (qq Y (s_ 2 [_, _, _] Y) Y (qq Y (s_ 1 [_, _, _] Y) Y qz)))))))))))))))))) (eo Y (EffX.callF (bs := [_]) (cs := []) (f := 136) (sh := fun h => nat_Bench_Mul _ _ _ h _) (H0 := H) Y Y Tryz.call136 Y (hl := fun w m hr hw => lift_nat_Bench_Mul _ _ _ w m hr _ hw)) ?_)
 rintro _ _ ⟨v_1, h2, rfl, rfl, H⟩
 apply Stg.next [(25, _)] Y Y
 refine Stg.go (ra 8 ++ [16, 17, 19]) [18] Y Y (q_ Y (q_ Y (q_ Y (qq Y (l_ 2 Y) Y (q_ Y (q_ Y (qq Y (l_ 1 Y) Y (q_ Y (q_ Y (qq Y (s_ 2 [_, _, _] Y) Y (qq Y (s_ 1 [_, _, _] Y) Y qz))))))))))) (ec (lift_ratio_den _) H Tryz.call111 Y fun v_2 h3 H => ?_)
 apply Stg.next [(28, _)] Y Y
 refine Stg.go (ra 8 ++ [16, 19]) [20] Y Y (q_ Y (q_ Y (q_ Y (qq Y (l_ 2 Y) Y (q_ Y (q_ Y (qq Y (l_ 1 Y) Y (q_ Y (q_ Y (qq Y (s_ 1 [_, _, _] Y) Y qz)))))))))) (ec (lift_ratio_den _) H Tryz.call111 Y fun v_3 h4 H => ?_)
 apply Stg.next [(30, _)] Y Y
 refine Stg.go (ra 8 ++ [16]) [21] Y Y (q_ Y (q_ Y (q_ Y (qq Y (l_ 2 Y) Y (q_ Y (q_ Y (qq Y (l_ 1 Y) Y (q_ Y (q_ Y qz))))))))) (eo Y (EffX.callF (bs := [_]) (cs := []) (f := 136) (sh := fun h => nat_Bench_Mul _ _ _ h _) (H0 := H) Y Y Tryz.call136 Y (hl := fun w m hr hw => lift_nat_Bench_Mul _ _ _ w m hr _ hw)) ?_)
 rintro _ _ ⟨v_4, h5, rfl, rfl, H⟩
 apply Stg.next [(31, _)] Y Y
 refine Stg.go (ra 8) [22] Y Y (q_ Y (q_ Y (q_ Y (qq Y (l_ 2 Y) Y (q_ Y (q_ Y (qq Y (l_ 1 Y) Y (q_ Y qz)))))))) (ec (lift_ratio_form _ _ _) H Tryz.call138 Y fun v_5 h6 H => ?_)
 apply Stg.next [(32, _)] Y Y
 refine Stg.go [0] [23] Y Y (q_ Y qz) (ec (lift_ratio_fit _ _) H Tryz.call137 Y fun v_6 h7 H => ?_)
 apply Stg.next [(33, _)] Y Y
 refine Stg.go [] [24] Y Y qz (eo Y (es (i := 0) (qv := [(_, [_, _, _]), (_, [_, _, _]), (_, [_, _, _])]) hT Y Y Y Y Y Y Y Y Y Y) ?_)
 rintro _ _ rfl
 apply Stg.next [] Y Y
 refine Stg.fin [] Y Y qz (tg (rt ?_))
 exact rc (i := 0) hT [_, _, _] Y Y Y Y Y Y Y Y Y H
theorem lift_linear_Scale_c1 (x0 : Bool × Sl × Sl) (c0 : Addr) (c1 : Addr) : Lf Tryz.prog 140 [Value.agg (C_bool_sl_sl x0).toArray, Value.pointer (some c0), Value.pointer (some c1)] (fun r => Value.agg (C_bool_sl_sl r).toArray) (linear_Scale_c1 x0 c0 c1) := by
 refine Lf.go Tryz.func140 Tryz.ntmps140 Y Y [0, 1, 2] Y fun w m S H => ?_
 unfold linear_Scale_c1 at H
 refine sR (bx [_, _, _] H Y Y Y Y fun b _ H => al hT [_, _, _] H Y Y Y fun b_1 _ H => nl (tg (sR (ld hT H.self Y Y Y Y fun _ H => lds hT H Y Y Y Y Y fun _ H => ?_))))
 refine lq Y (s_ 1 [_, _, _] Y) (lc (lift_ratio_Mul _ _ _) H Tryz.call135 Y fun v_2 h1 H => sp hT 0 [(_, [_, _, _]), (_, [_, _, _])] Y Y Y Y Y Y Y Y Y Y Y fun _ => ng (rt ?_))
 exact rc (i := 0) hT [_, _, _] Y Y Y Y Y Y Y Y Y H
theorem lift_linear_kept (b : (Option Addr)) (p : Bool × Sl × Sl × Sl) : Lf Tryz.prog 139 [Value.pointer b, Value.agg (C_bool_sl_sl_sl p).toArray] (fun r => Value.agg (C_bool_sl_sl_sl r).toArray) (linear_kept b p) := by
 refine Lf.go Tryz.func139 Tryz.ntmps139 Y Y [0, 1] Y fun w m S H => ?_
 unfold linear_kept at H
 refine sR (bx [_, _, _, _] H Y Y Y Y fun b_1 _ H => al hT [_, _, _, _] H Y Y Y fun b_2 _ H => nl (tg (cs (sR (p_ 1 Y ?_)))))
 refine lc (lift_nat_Bench_Over _) H.self Tryz.call30 Y fun v h1 H => ng ?_
 refine cb H Y (fun H => ?_) (fun H => ?_)
 refine sR (lq Y (qb (cs := [_, _, _, _]) hT Y Y Y Y Y Y) (sp hT 0 [(_, [_, _, _, _]), (_, [_, _, _, _])] Y Y Y Y Y Y Y Y Y Y Y fun _ => ng (rt (tr ?_))))
 exact rc (i := 0) hT [_, _, _, _] Y Y Y Y Y Y Y Y Y H
 refine sk (tg (sR (lq Y (s_ 1 [_, _, _, _] Y) (sp hT 0 [(_, [_, _, _, _]), (_, [_, _, _, _])] Y Y Y Y Y Y Y Y Y Y Y fun _ => ng (rt ?_)))))
 exact rc (i := 0) hT [_, _, _, _] Y Y Y Y Y Y Y Y Y H
theorem lift_linear_Scale (b : (Option Addr)) (k : Bool × Sl × Sl) (p : Bool × Sl × Sl × Sl) : Lf Tryz.prog 85 [Value.pointer b, Value.agg (C_bool_sl_sl k).toArray, Value.agg (C_bool_sl_sl_sl p).toArray] (fun r => Value.agg (C_bool_sl_sl_sl r).toArray) (linear_Scale b k p) := by
 refine Lf.go Tryz.func85 Tryz.ntmps85 Y Y [0, 1, 2] Y fun w m S H => ?_
 unfold linear_Scale at H
 refine sR (le Y (EffX.box (cs := [_]) Y Y Y H) ?_)
 rintro _ _ ⟨b_1, h0, rfl, rfl, H⟩
 refine le Y (EffX.box (cs := [_, _, _]) Y Y Y H) ?_
 rintro _ _ ⟨k_1, h1, rfl, rfl, H⟩
 refine bx [_, _, _, _] H Y Y Y Y fun b_2 _ H => al hT [_, _, _, _] H Y Y Y fun b_3 _ H => nl (tg (cs (sR (lds hT H.self Y Y Y Y Y fun _ H => lc (lift_ratio_Sign _) H Tryz.call43 Y fun v_1 h3 H => ?_))))
 refine p_ 1 Y (ng ?_)
 refine cb H Y (fun H => ?_) (fun H => ?_)
 refine sR (lq Y (qb (cs := [_, _, _, _]) hT Y Y Y Y Y Y) (sp hT 0 [(_, [_, _, _, _]), (_, [_, _, _, _])] Y Y Y Y Y Y Y Y Y Y Y fun _ => ng (rt (tr ?_))))
 exact rc (i := 0) hT [_, _, _, _] Y Y Y Y Y Y Y Y Y H
 refine sk (tg (sR (lq Y (Quiet1.makeFn (bs := []) (cs := [_, _]) Y Y Y) (p_ 1 Y (ng (sR (p_ 2 Y ?_)))))))
 refine lq Y (s_ 1 [_, _, _] Y) (lcF (lift_linear_Scale_c1 _ _ _) H [] [_, _] Tryz.call140 Y Y Y Y Y fun v_2 h4 H => lq Y (qb (cs := [_, _, _, _]) hT Y Y Y Y Y Y) (al hT [_, _, _, _] H Y Y Y fun b_4 _ H => sp hT 0 [(_, [_, _, _, _]), (_, [_, _, _, _]), (_, [_, _, _, _])] Y Y Y Y Y Y Y Y Y Y Y fun _ => ng (cs (sR ?_))))
 refine p_ 1 Y (lq Y (l_ 2 Y) (p_ 2 Y (ng (ck ?_))))
 refine AtC.loopM (fun (s0 : Int × Bool × Sl × Sl × Sl) => [(24, Value.int .i64 s0.1)]) (fun (s0 : Int × Bool × Sl × Sl × Sl) => [(b_4, [Value.bool s0.2.1, Sl.toV s0.2.2.1, Sl.toV s0.2.2.2.1, Sl.toV s0.2.2.2.2])]) [3, 6, 7, 8, 22, 23] [24, 3, 6, 7, 8, 22, 23] [1] [0, 1] H.self Y Y Y (by decide) Y (fun Kp2 s0 h6 H Q2 HK2 => ?_)
 refine sR (p_ 1 Y (ng (cs ?_)))
 refine cb H Y (fun H => ?_) (fun H => ?_)
 refine sk (tg (cs (ck (sR (ix hT H Y Y Y Y Y Y fun _ H => lds hT H Y Y Y Y Y fun _ H => al hT [_, _, _, _] H Y Y Y fun b_5 _ H => ?_)))))
 refine sp hT 0 [(_, [_, _, _, _]), (_, [_, _, _, _]), (_, [_, _, _, _])] Y Y Y Y Y Y Y Y Y Y Y fun _ => ng ?_
 replace H := H.self
 apply AtC.stages [7, 9, 10, 12] (rl [([], 8), ([7], 2), ([7, 9], 1), ([7, 9, 10], 2)]) [[], [0], [], [2], [], [], [5], [4, 5, 6], [2, 3, 4, 5, 6, 7], [2, 3, 4, 5, 6, 7, 8], (ra 10), (ra 11), (ra 12)] hmix (by kernel_rfl) (nm 28 [_, _, _, _, _, _, _]) Y 4 Y
 refine Stg.go (ra 7) [7] Y Y (q_ Y (qq Y (l_ 1 Y) Y (q_ Y (qq Y (l_ 0 Y) Y (q_ Y (q_ Y (qq Y (s_ 0 [_, _, _] Y) Y qz))))))) (eo Y (EffX.callF (bs := []) (cs := [_, _]) (f := 140) (sh := fun h => linear_Scale_c1 _ _ _ h _) (H0 := H) Y Y Tryz.call140 Y (hl := fun w m hr hw => lift_linear_Scale_c1 _ _ _ w m hr _ hw)) ?_)
 rintro _ _ ⟨v_4, h8, rfl, rfl, H⟩
 apply Stg.next [(35, _), (36, _)] Y Y
 refine Stg.go [0, 1, 2, 3, 8] [9] Y Y (q_ Y (qq Y (l_ 1 Y) Y (q_ Y (qq Y (l_ 0 Y) Y (qq Y (qb (cs := [_, _, _, _]) hT Y Y Y Y Y Y) Y qz))))) (eo Y (EffX.buildS2 (cs := [_, _, _, _]) hT Y Y Y Y Y Y Y Y H) ?_)
 rintro _ _ ⟨a_1, h9, rfl, rfl, H⟩
 apply Stg.next [(37, _)] Y Y
 refine Stg.go [0, 1] [10] Y Y (q_ Y (qq Y (l_ 1 Y) Y qz)) (eo Y (EffX.appendS (s := _) (u := _) hT Y Y Y Y Y Y Y Y Y Y (by decide) H) ?_)
 rintro _ _ ⟨v_6, h10, rfl, rfl, H⟩
 apply Stg.next [(38, _), (39, _)] Y Y
 refine Stg.go [11] [12] Y Y (q_ Y qz) (eo Y (ep (i := 1) (qv := [(_, [_, _, _, _]), (_, [_, _, _, _]), (_, [_, _, _, _])]) hT Y Y Y Y Y Y Y Y Y) ?_)
 rintro _ _ rfl
 apply Stg.next [] Y Y
 refine Stg.fin [] Y Y qz (bn (tg (rg (p_ 2 Y (nl ?_)))))
 exact pk (HK2 _ _ H) [24, 3, 6, 7, 8, 22, 23] [1, 2] Y
 refine xt (tx (tx (bh (tg (sR (ld hT H Y Y Y Y fun _ H => lq Y (s_ 0 [_, _, _, _] Y) ?_))))))
 refine lc (lift_linear_kept _ _) H Tryz.call139 Y fun v_8 h11 H => sp hT 1 [(_, [_, _, _, _]), (_, [_, _, _, _])] Y Y Y Y Y Y Y Y Y Y Y fun _ => ng (rt ?_)
 exact rc (i := 1) hT [_, _, _, _] Y Y Y Y Y Y Y Y Y H
theorem lift_ratio_Neg (x0 : Bool × Sl × Sl) : Lf Tryz.prog 87 [Value.agg (C_bool_sl_sl x0).toArray] (fun r => Value.agg (C_bool_sl_sl r).toArray) (ratio_Neg x0) := by
 refine Lf.go Tryz.func87 Tryz.ntmps87 Y Y [0] Y fun w m S H => ?_
 unfold ratio_Neg at H
 refine sR (bx [_, _, _] H Y Y Y Y fun b _ H => al hT [_, _, _] H Y Y Y fun b_1 _ H => nl (tg ?_))
 refine AtC.joinSeq (β := Unit) (fun (t0 : Bool) (bb : Unit) => [(3, Value.bool t0)]) (fun (t0 : Bool) (bb : Unit) => []) [1, 2] [0, 1] H.self Y Y (fun t0 bb h1 H => ?_) (fun J1 H HK1 => ?_)
 apply AtC.seqS [4, 8, 10] [[], [], [], [], [], [4], [], [], [4], [4, 8], [4, 8]] [[], [], [1], [1, 2], [1, 2, 3], (ra 5), [], [6], [1, 2, 3, 4, 6, 7], (ra 9), (ra 10)] hmix (by kernel_rfl) (nm 15 [_, _, _, _] ++ [(21, _), (22, _)]) Y 3 Y
 refine Stg.go [0, 1, 2, 3, 6, 7] [4] Y Y (q_ Y (q_ Y (q_ Y (qq Y (l_ 1 Y) Y (q_ Y (qq Y (l_ 1 Y) Y qz)))))) (ec (lift_slices_Clone_api_Nat_uint32 _) H Tryz.call141 Y fun v h2 H => ?_)
 apply Stg.next [(19, _), (20, _)] Y Y
 refine Stg.go [0, 5, 6, 7] [8] Y Y (q_ Y (qq Y (qb (cs := [_, _]) hT Y Y Y Y Y Y) Y (q_ Y (qq Y (l_ 1 Y) Y qz)))) (ec (lift_slices_Clone_api_Nat_uint32 _) H Tryz.call141 Y fun v_1 h3 H => ?_)
 apply Stg.next [(23, _), (24, _)] Y Y
 refine Stg.go [0, 5, 9] [10] Y Y (q_ Y (qq Y (qb (cs := [_, _]) hT Y Y Y Y Y Y) Y (qq Y (qb (cs := [_, _, _]) hT Y Y Y Y Y Y) Y qz))) (eo Y (es (i := 0) (qv := [(_, [_, _, _]), (_, [_, _, _])]) hT Y Y Y Y Y Y Y Y Y Y) ?_)
 rintro _ _ rfl
 apply Stg.next [] Y Y
 refine Stg.fin [] Y Y qz (tg (rt ?_))
 exact rc (i := 0) hT [_, _, _] Y Y Y Y Y Y Y Y Y H
 refine rg (p_ 2 Y (lq Y (l_ 1 Y) (p_ 2 Y ?_)))
 refine AtL.splitB (t := 8) H Y (fun H => ?_) (fun H => ?_)
 refine p_ 5 Y (lq Y (l_ 1 Y) (p_ 6 Y (nl ?_)))
 exact pk (HK1 _ () _ (H _ rfl)) [3, 1, 2] [0, 1] Y
 refine p_ 7 Y (nl ?_)
 exact pk (HK1 _ () _ H) [3, 1, 2] [0, 1] Y
theorem lift_tableau_without (p : Bool × Sl × Sl × Sl) (v : Int) : Lf Tryz.prog 88 [Value.agg (C_bool_sl_sl_sl p).toArray, Value.int .i64 v] (fun r => Value.agg (C_bool_sl_sl_sl r).toArray) (tableau_without p v) := by
 refine Lf.go Tryz.func88 Tryz.ntmps88 Y Y [0, 1] Y fun w m S H => ?_
 unfold tableau_without at H
 refine sR (bx [_, _, _, _] H Y Y Y Y fun b _ H => al hT [_, _, _, _] H Y Y Y fun b_1 _ H => nl (tg (sR (p_ 1 Y (lq Y (s_ 1 [_, _, _] Y) ?_)))))
 refine lq Y (qb (cs := [_, _, _, _]) hT Y Y Y Y Y Y) (al hT [_, _, _, _] H.self Y Y Y fun b_2 _ H => sp hT 0 [(_, [_, _, _, _]), (_, [_, _, _, _]), (_, [_, _, _, _])] Y Y Y Y Y Y Y Y Y Y Y fun _ => ng (cs (sR (p_ 1 Y (lq Y (l_ 2 Y) ?_)))))
 refine p_ 2 Y (ng (ck ?_))
 refine AtC.loopM (fun (s0 : Int × Bool × Sl × Sl × Sl) => [(14, Value.int .i64 s0.1)]) (fun (s0 : Int × Bool × Sl × Sl × Sl) => [(b_2, [Value.bool s0.2.1, Sl.toV s0.2.2.1, Sl.toV s0.2.2.2.1, Sl.toV s0.2.2.2.2])]) [1, 4, 5, 12, 13] [14, 1, 4, 5, 12, 13] [1] [0, 1] H.self Y Y Y (by decide) Y (fun Kp1 s0 h2 H Q1 HK1 => ?_)
 refine sR (p_ 1 Y (ng (cs ?_)))
 refine cb H Y (fun H => ?_) (fun H => ?_)
 refine sk (tg ?_)
 refine AtC.joinSeq (β := Unit) (fun (t0 : Bool × Sl × Sl × Sl) (bb : Unit) => []) (fun (t0 : Bool × Sl × Sl × Sl) (bb : Unit) => [(b_2, [Value.bool t0.1, Sl.toV t0.2.1, Sl.toV t0.2.2.1, Sl.toV t0.2.2.2])]) [1, 4, 5, 12, 13, 14] [1] H Y Y (fun t0 bb h3 H => ?_) (fun J2 H HK2 => ?_)
 refine rg (p_ 2 Y (nl ?_))
 exact pk (HK1 _ _ H) [14, 1, 4, 5, 12, 13] [0, 1] Y
 refine ck (sR (ix hT H Y Y Y Y Y Y fun _ H => lds hT H Y Y Y Y Y fun _ H => al hT [_, _, _, _] H Y Y Y fun b_3 _ H => sp hT 0 [(_, [_, _, _, _]), (_, [_, _, _, _]), (_, [_, _, _, _])] Y Y Y Y Y Y Y Y Y Y Y fun _ => ng (sR ?_)))
 refine p_ 1 Y (lq Y (l_ 0 Y) (p_ 2 Y (ng ?_)))
 refine cb H.self Y (fun H => ?_) (fun H => ?_)
 refine rg (p_ 1 Y (lq Y (l_ 1 Y) (lq Y (s_ 0 [_, _, _, _] Y) ?_)))
 refine AtLX.bs (hT := hT) (cs := [_, _, _, _]) H Y Y Y Y Y Y Y Y Y (fun a_1 h5 H => ?_)
 refine le Y (EffX.appendS (s := _) (u := _) hT Y Y Y Y Y Y Y Y Y Y (by decide) H) ?_
 rintro _ _ ⟨v_3, h6, rfl, rfl, H⟩
 refine p_ 1 Y (le Y (ep (i := 1) (qv := [(_, [_, _, _, _]), (_, [_, _, _, _]), (_, [_, _, _, _])]) hT Y Y Y Y Y Y Y Y Y) ?_)
 rintro _ _ rfl
 refine nl (bn ?_)
 exact pk (HK2 _ () _ H) [1, 4, 5, 12, 13, 14] [1, 2] Y
 refine sk (bn ?_)
 exact pk (HK2 _ () _ H) [1, 4, 5, 12, 13, 14] [1, 2] Y
 refine xt (tx (tx (bh (tg (sR (lq Y (s_ 0 [_, _, _, _] Y) (sp hT 1 [(_, [_, _, _, _]), (_, [_, _, _, _])] Y Y Y Y Y Y Y Y Y Y Y fun _ => ?_)))))))
 refine ng (rt ?_)
 exact rc (i := 1) hT [_, _, _, _] Y Y Y Y Y Y Y Y Y H
theorem lift_ratio_over (x0 : Bool × Sl) (n : Sl) : Lf Tryz.prog 166 [Value.agg (C_bool_sl x0).toArray, Sl.toV n] (fun r => Value.agg (C_bool_sl r).toArray) (ratio_over x0 n) := by
 refine Lf.go Tryz.func166 Tryz.ntmps166 Y Y [0, 1] Y fun w m S H => ?_
 unfold ratio_over at H
 refine sR (bx [_, _] H Y Y Y Y fun b _ H => al hT [_, _] H Y Y Y fun b_1 _ H => nl (tg ?_))
 replace H := H.self
 apply AtC.seqS [2, 6, 8] (rl [([], 6), ([2], 1), ([2, 6], 2)]) [[], [0], [], [], [3], [], [2, 3, 4, 5], (ra 7), (ra 8)] hmix (by kernel_rfl) [(5, _), (6, _), (8, _), (9, _), (10, _)] Y 3 Y
 refine Stg.go [0, 1, 3, 4, 5] [2] Y Y (q_ Y (qq Y (l_ 1 Y) Y (q_ Y (qq Y (l_ 1 Y) Y (q_ Y qz))))) (eo Y (cl (fun h => ratio_free h _) H Y Tryz.call109 Y (fun w m hr hw => lift_ratio_free  w m hr _ hw)) ?_)
 rintro _ _ ⟨v, h1, rfl, rfl, H⟩
 apply Stg.next [(7, _)] Y Y
 refine Stg.go [0, 1, 3, 4, 5] [6] Y Y (q_ Y (qq Y (l_ 1 Y) Y (q_ Y (qq Y (l_ 1 Y) Y (q_ Y qz))))) (ec (lift_nat_Bench_Mul _ _ _) H Tryz.call136 Y fun v_1 h2 H => ?_)
 apply Stg.next [(11, _), (12, _)] Y Y
 refine Stg.go [0, 1, 7] [8] Y Y (q_ Y (qq Y (l_ 1 Y) Y (qq Y (qb (cs := [_, _]) hT Y Y Y Y Y Y) Y qz))) (eo Y (es (i := 0) (qv := [(_, [_, _]), (_, [_, _])]) hT Y Y Y Y Y Y Y Y Y Y) ?_)
 rintro _ _ rfl
 apply Stg.next [] Y Y
 refine Stg.fin [] Y Y qz (tg (rt ?_))
 exact rc (i := 0) hT [_, _] Y Y Y Y Y Y Y Y Y H
theorem lift_ratio_cross (x0 : Bool × Sl × Sl) (y : Bool × Sl × Sl) : Lf Tryz.prog 152 [Value.agg (C_bool_sl_sl x0).toArray, Value.agg (C_bool_sl_sl y).toArray] (fun r => Value.tuple #[(fun r => Value.agg (C_bool_sl r).toArray) r.1, (fun r => Value.agg (C_bool_sl r).toArray) r.2]) (ratio_cross x0 y) := by
 refine Lf.go Tryz.func152 Tryz.ntmps152 Y Y [0, 1] Y fun w m S H => ?_
 unfold ratio_cross at H
 refine sR (bx [_, _, _] H Y Y Y Y fun b _ H => bx [_, _, _] H Y Y Y Y fun b_1 _ H => al hT [_, _] H Y Y Y fun b_2 _ H => al hT [_, _] H Y Y Y fun b_3 _ H => nl (tg ?_))
 replace H := H.self
 apply AtC.seqS [3, 4, 8, 9, 10, 11] [[], [], [], [], [3], [], [], [], [3, 4], [3, 4, 8], [3, 4, 8, 9], [3, 4, 8, 9, 10]] [[], [0], [], [2], [0, 1, 2, 3], [], [5], [], [0, 1, 2, 3, 4, 7], (ra 9), (ra 10), (ra 11)] hmix (by kernel_rfl) [(6, _), (7, _), (8, _), (11, _), (12, _), (13, _)] Y 6 Y
 refine Stg.go [0, 1, 2, 5, 6, 7] [3] Y Y (q_ Y (qq Y (s_ 3 [_, _] Y) Y (qq Y (s_ 2 [_, _, _] Y) Y (q_ Y (qq Y (s_ 2 [_, _] Y) Y (qq Y (s_ 3 [_, _, _] Y) Y qz)))))) (ec (lift_ratio_den _) H Tryz.call111 Y fun v h1 H => ?_)
 apply Stg.next [(9, _)] Y Y
 refine Stg.go [0, 1, 5, 6, 7] [4] Y Y (q_ Y (qq Y (s_ 3 [_, _] Y) Y (q_ Y (qq Y (s_ 2 [_, _] Y) Y (qq Y (s_ 3 [_, _, _] Y) Y qz))))) (ec (lift_ratio_over _ _) H Tryz.call166 Y fun v_1 h2 H => ?_)
 apply Stg.next [(10, _)] Y Y
 refine Stg.go [5, 6, 7] [8] Y Y (q_ Y (qq Y (s_ 2 [_, _] Y) Y (qq Y (s_ 3 [_, _, _] Y) Y qz))) (ec (lift_ratio_den _) H Tryz.call111 Y fun v_2 h3 H => ?_)
 apply Stg.next [(14, _)] Y Y
 refine Stg.go [5, 6] [9] Y Y (q_ Y (qq Y (s_ 2 [_, _] Y) Y qz)) (ec (lift_ratio_over _ _) H Tryz.call166 Y fun v_3 h4 H => ?_)
 apply Stg.next [(15, _)] Y Y
 refine Stg.go [] [10] Y Y qz (eo Y (es (i := 1) (qv := [(_, [_, _]), (_, [_, _]), (_, [_, _, _]), (_, [_, _, _])]) hT Y Y Y Y Y Y Y Y Y Y) ?_)
 rintro _ _ rfl
 apply Stg.next [] Y Y
 refine Stg.go [] [11] Y Y qz (eo Y (es (i := 0) (qv := [(_, [_, _]), (_, [_, _]), (_, [_, _, _]), (_, [_, _, _])]) hT Y Y Y Y Y Y Y Y Y Y) ?_)
 rintro _ _ rfl
 apply Stg.next [] Y Y
 refine Stg.fin [] Y Y qz (tg (rt ?_))
 exact AtE.retN (rs := [.cell 4 36, .cell 5 36]) Y (ResAll.cons (ResAt.cellSP (i := 1) (l := [_, _]) hT Y Y Y Y Y Y Y) (ResAll.cons (ResAt.cellSP (i := 0) (l := [_, _]) hT Y Y Y Y Y Y Y) ResAll.nil)) Y H
theorem lift_nat_Bench_Sub (b : (Option Addr)) (x0 : Sl) (y : Sl) : Lf Tryz.prog 167 [Value.pointer b, Sl.toV x0, Sl.toV y] Sl.toV (nat_Bench_Sub b x0 y) := by
 refine Lf.go Tryz.func167 Tryz.ntmps167 Y Y [0, 1, 2] Y fun w m S H => ?_
 unfold nat_Bench_Sub at H
 refine sR (p_ 1 Y (ng (cs (sR (p_ 2 Y (lc (lift_nat_Cmp _ _) H Tryz.call163 Y fun v h0 H => p_ 1 Y ?_))))))
 refine ng ?_
 refine cb H Y (fun H => ?_) (fun H => ?_)
 refine sR (p_ 1 Y (ng (rt (tr ?_))))
 exact r1 6 Y Y Y H
 refine sk (tg (sR (p_ 3 Y (lc (lift_nat_trim _) H Tryz.call116 Y fun v_1 h1 H => lc (lift_nat_minus _ _) H Tryz.call164 Y fun v_2 h2 H => lc (lift_nat_Bench_fit _ _) H Tryz.call150 Y fun v_3 h3 H => p_ 1 Y ?_))))
 refine ng (rt ?_)
 exact r1 6 Y Y Y H
theorem lift_ratio_sum (x0 : Bool × Sl) (y : Bool × Sl) : Lf Tryz.prog 153 [Value.agg (C_bool_sl x0).toArray, Value.agg (C_bool_sl y).toArray] (fun r => Value.agg (C_bool_sl r).toArray) (ratio_sum x0 y) := by
 refine Lf.go Tryz.func153 Tryz.ntmps153 Y Y [0, 1] Y fun w m S H => ?_
 unfold ratio_sum at H
 refine sR (bx [_, _] H Y Y Y Y fun b _ H => bx [_, _] H Y Y Y Y fun b_1 _ H => al hT [_, _] H Y Y Y fun b_2 _ H => nl (tg (sR (le Y (cl (fun h => ratio_free h _) H.self Y Tryz.call109 Y (fun w m hr hw => lift_ratio_free  w m hr _ hw)) ?_))))
 rintro _ _ ⟨v, h1, rfl, rfl, H⟩
 refine p_ 1 Y (ng (cs (ck (sR (p_ 1 Y (lq Y (l_ 2 Y) (p_ 1 Y ?_)))))))
 refine lq Y (l_ 1 Y) (p_ 2 Y (ng ?_))
 refine cb H Y (fun H => ?_) (fun H => ?_)
 apply AtC.seqS [7, 9] A1u0 G1u0 hmix (by kernel_rfl) (nm 13 [_, _, _, _, _, _, _]) Y 2 Y
 refine Stg.go (ra 7) [7] Y Y (q_ Y (qq Y (l_ 2 Y) Y (q_ Y (q_ Y (qq Y (l_ 2 Y) Y (q_ Y (qq Y (l_ 1 Y) Y qz))))))) (ec (lift_nat_Bench_Add _ _ _) H Tryz.call160 Y fun v_1 h2 H => ?_)
 apply Stg.next [(20, _), (21, _)] Y Y
 refine Stg.go [0, 1, 8] [9] Y Y (q_ Y (qq Y (l_ 2 Y) Y (qq Y (qb (cs := [_, _]) hT Y Y Y Y Y Y) Y qz))) (eo Y (es (i := 0) (qv := [(_, [_, _]), (_, [_, _]), (_, [_, _])]) hT Y Y Y Y Y Y Y Y Y Y) ?_)
 rintro _ _ rfl
 apply Stg.next [] Y Y
 refine Stg.fin [] Y Y qz (tg (rt (br (tr ?_))))
 exact rc (i := 0) hT [_, _] Y Y Y Y Y Y Y Y Y H
 refine sR (p_ 1 Y (lq Y (l_ 2 Y) (p_ 1 Y (lq Y (l_ 1 Y) (lc (lift_nat_Cmp _ _) H Tryz.call163 Y fun v_2 h3 H => p_ 2 Y (ng ?_))))))
 refine cb H Y (fun H => ?_) (fun H => ?_)
 apply AtC.seqS [7, 9] A1u0 G1u0 hmix (by kernel_rfl) (nm 29 [_, _, _, _, _, _, _]) Y 2 Y
 refine Stg.go (ra 7) [7] Y Y (q_ Y (qq Y (l_ 2 Y) Y (q_ Y (q_ Y (qq Y (l_ 2 Y) Y (q_ Y (qq Y (l_ 1 Y) Y qz))))))) (ec (lift_nat_Bench_Sub _ _ _) H Tryz.call167 Y fun v_3 h4 H => ?_)
 apply Stg.next [(36, _), (37, _)] Y Y
 refine Stg.go [0, 1, 8] [9] Y Y (q_ Y (qq Y (l_ 2 Y) Y (qq Y (qb (cs := [_, _]) hT Y Y Y Y Y Y) Y qz))) (eo Y (es (i := 0) (qv := [(_, [_, _]), (_, [_, _]), (_, [_, _])]) hT Y Y Y Y Y Y Y Y Y Y) ?_)
 rintro _ _ rfl
 apply Stg.next [] Y Y
 refine Stg.fin [] Y Y qz (tg (rt (br (tr ?_))))
 exact rc (i := 0) hT [_, _] Y Y Y Y Y Y Y Y Y H
 refine sk (bn (tg ?_))
 apply AtC.seqS [7, 9] A1u0 G1u0 hmix (by kernel_rfl) (nm 38 [_, _, _, _, _, _, _]) Y 2 Y
 refine Stg.go (ra 7) [7] Y Y (q_ Y (qq Y (l_ 1 Y) Y (q_ Y (q_ Y (qq Y (l_ 1 Y) Y (q_ Y (qq Y (l_ 2 Y) Y qz))))))) (ec (lift_nat_Bench_Sub _ _ _) H Tryz.call167 Y fun v_4 h5 H => ?_)
 apply Stg.next [(45, _), (46, _)] Y Y
 refine Stg.go [0, 1, 8] [9] Y Y (q_ Y (qq Y (l_ 1 Y) Y (qq Y (qb (cs := [_, _]) hT Y Y Y Y Y Y) Y qz))) (eo Y (es (i := 0) (qv := [(_, [_, _]), (_, [_, _]), (_, [_, _])]) hT Y Y Y Y Y Y Y Y Y Y) ?_)
 rintro _ _ rfl
 apply Stg.next [] Y Y
 refine Stg.fin [] Y Y qz (tg (rt ?_))
 exact rc (i := 0) hT [_, _] Y Y Y Y Y Y Y Y Y H
theorem lift_ratio_Add (b : (Option Addr)) (x0 : Bool × Sl × Sl) (y : Bool × Sl × Sl) : Lf Tryz.prog 134 [Value.pointer b, Value.agg (C_bool_sl_sl x0).toArray, Value.agg (C_bool_sl_sl y).toArray] (fun r => Value.agg (C_bool_sl_sl r).toArray) (ratio_Add b x0 y) := by
 refine Lf.go Tryz.func134 Tryz.ntmps134 Y Y [0, 1, 2] Y fun w m S H => ?_
 unfold ratio_Add at H
 refine sR (bx [_, _, _] H Y Y Y Y fun b_1 _ H => bx [_, _, _] H Y Y Y Y fun b_2 _ H => al hT [_, _, _] H Y Y Y fun b_3 _ H => nl (tg (sR (lq Y (s_ 2 [_, _, _] Y) ?_))))
 refine lq Y (s_ 1 [_, _, _] Y) (lc (lift_ratio_cross _ _) H.self Tryz.call152 Y fun v h1 H => p_ 2 Y (lc (lift_ratio_sum _ _) H Tryz.call153 Y fun v_1 h2 H => al hT [_, _] H Y Y Y fun b_4 _ H => sp hT 0 [(_, [_, _]), (_, [_, _, _]), (_, [_, _, _]), (_, [_, _, _])] Y Y Y Y Y Y Y Y Y Y Y fun _ => ng ?_))
 replace H := H.self
 apply AtC.seqS [5, 7, 9, 10, 11, 12, 13] [[], [], [], [], [], [], [], [5], [], [5, 7], [5, 7, 9], [5, 7, 9, 10], [5, 7, 9, 10, 11], [5, 7, 9, 10, 11, 12]] [[], [], [1], [], [3], [], [], [5, 6], [], [5, 6, 7, 8], [5, 6, 7, 8, 9], [1, 2, 3, 4, 5, 6, 7, 8, 9, 10], (ra 12), (ra 13)] hmix (by kernel_rfl) (nm 14 [_, _, _, _, _] ++ [(20, _)] ++ [(22, _)]) Y 7 Y
 refine Stg.go [0, 1, 2, 3, 4, 6, 8] [5] Y Y (q_ Y (q_ Y (qq Y (l_ 0 Y) Y (q_ Y (qq Y (l_ 0 Y) Y (qq Y (s_ 3 [_, _, _] Y) Y (qq Y (s_ 2 [_, _, _] Y) Y qz))))))) (eo Y (cl (fun h => ratio_free h _) H Y Tryz.call109 Y (fun w m hr hw => lift_ratio_free  w m hr _ hw)) ?_)
 rintro _ _ ⟨v_2, h4, rfl, rfl, H⟩
 apply Stg.next [(19, _)] Y Y
 refine Stg.go [0, 1, 2, 3, 4, 6, 8] [7] Y Y (q_ Y (q_ Y (qq Y (l_ 0 Y) Y (q_ Y (qq Y (l_ 0 Y) Y (qq Y (s_ 3 [_, _, _] Y) Y (qq Y (s_ 2 [_, _, _] Y) Y qz))))))) (ec (lift_ratio_den _) H Tryz.call111 Y fun v_3 h5 H => ?_)
 apply Stg.next [(21, _)] Y Y
 refine Stg.go [0, 1, 2, 3, 4, 8] [9] Y Y (q_ Y (q_ Y (qq Y (l_ 0 Y) Y (q_ Y (qq Y (l_ 0 Y) Y (qq Y (s_ 2 [_, _, _] Y) Y qz)))))) (ec (lift_ratio_den _) H Tryz.call111 Y fun v_4 h6 H => ?_)
 apply Stg.next [(23, _)] Y Y
 refine Stg.go (ra 5) [10] Y Y (q_ Y (q_ Y (qq Y (l_ 0 Y) Y (q_ Y (qq Y (l_ 0 Y) Y qz))))) (ec (lift_nat_Bench_Mul _ _ _) H Tryz.call136 Y fun v_5 h7 H => ?_)
 apply Stg.next [(24, _)] Y Y
 refine Stg.go (ra 5) [11] Y Y (q_ Y (q_ Y (qq Y (l_ 0 Y) Y (q_ Y (qq Y (l_ 0 Y) Y qz))))) (ec (lift_ratio_form _ _ _) H Tryz.call138 Y fun v_6 h8 H => ?_)
 apply Stg.next [(25, _)] Y Y
 refine Stg.go [0] [12] Y Y (q_ Y qz) (ec (lift_ratio_fit _ _) H Tryz.call137 Y fun v_7 h9 H => ?_)
 apply Stg.next [(26, _)] Y Y
 refine Stg.go [] [13] Y Y qz (eo Y (es (i := 1) (qv := [(_, [_, _]), (_, [_, _, _]), (_, [_, _, _]), (_, [_, _, _])]) hT Y Y Y Y Y Y Y Y Y Y) ?_)
 rintro _ _ rfl
 apply Stg.next [] Y Y
 refine Stg.fin [] Y Y qz (tg (rt ?_))
 exact rc (i := 1) hT [_, _, _] Y Y Y Y Y Y Y Y Y H
end Go.Proofs.YtjppcjbmepcneaaGreatDoor

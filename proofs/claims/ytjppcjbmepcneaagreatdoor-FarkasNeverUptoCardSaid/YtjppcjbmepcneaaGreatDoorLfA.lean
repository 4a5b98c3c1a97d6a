/-
  Laws that the proof of this claim's statement leans on, each proved under the conditions that it states.
-/
import Derived.Test.YtjppcjbmepcneaaGreatDoorProg
import Derived.Test.YtjppcjbmepcneaaGreatDoorSh
import Derived.Test.YtjppcjbmepcneaaGreatDoorFwC
set_option linter.unusedVariables false
set_option linter.unusedSimpArgs false
namespace Go.Proofs.YtjppcjbmepcneaaGreatDoor
open Go Go.Lift Go.Sh
set_option maxRecDepth 100000
set_option maxHeartbeats 40000000
attribute [local irreducible] Calls AtL AtC AtE AtD Eff Quiet1 Stg qAt QAll eAt EAll nextK Code.wp
def T : TTab := [(2, .int .i64, 1, 8, [Value.int .i64 0]), (3, .int .i64, 1, 8, [Value.int .i64 0]), (4, .bool, 1, 1, [Value.bool false]), (5, .int .u8, 1, 1, [Value.int .u8 0]), (22, .slice 52, 1, 24, [Sl.toV Sl.nil]), (23, .slice 46, 1, 24, [Sl.toV Sl.nil]), (24, .slice 25, 1, 24, [Sl.toV Sl.nil]), (25, .slice 3, 1, 24, [Sl.toV Sl.nil]), (27, .struct #[⟨ "Bools", 3, 0, false, "", "", 0⟩, ⟨ "Reals", 3, 1, false, "", "", 8⟩, ⟨ "Rows", 22, 2, false, "", "", 16⟩, ⟨ "Atoms", 23, 3, false, "", "", 40⟩, ⟨ "Clauses", 24, 4, false, "", "", 64⟩, ⟨ "Lits", 25, 5, false, "", "", 88⟩, ⟨ "Polys", 22, 6, false, "", "", 112⟩], 7, 136, [Value.int .i64 0, Value.int .i64 0, Sl.toV Sl.nil, Sl.toV Sl.nil, Sl.toV Sl.nil, Sl.toV Sl.nil, Sl.toV Sl.nil]), (28, .slice 42, 1, 24, [Sl.toV Sl.nil]), (29, .slice 38, 1, 24, [Sl.toV Sl.nil]), (34, .slice 102, 1, 24, [Sl.toV Sl.nil]), (36, .struct #[⟨ "Neg", 4, 0, false, "", "", 0⟩, ⟨ "Mag", 34, 1, false, "", "", 8⟩], 2, 32, [Value.bool false, Sl.toV Sl.nil]), (38, .struct #[⟨ "Num", 36, 0, false, "", "", 0⟩, ⟨ "Den", 34, 2, false, "", "", 32⟩], 3, 56, [Value.bool false, Sl.toV Sl.nil, Sl.toV Sl.nil]), (42, .struct #[⟨ "Lit", 3, 0, false, "", "", 0⟩, ⟨ "Coef", 38, 1, false, "", "", 8⟩], 4, 64, [Value.int .i64 0, Value.bool false, Sl.toV Sl.nil, Sl.toV Sl.nil]), (44, .struct #[⟨ "A", 38, 0, false, "", "", 0⟩, ⟨ "B", 38, 3, false, "", "", 56⟩], 6, 112, [Value.bool false, Sl.toV Sl.nil, Sl.toV Sl.nil, Value.bool false, Sl.toV Sl.nil, Sl.toV Sl.nil]), (46, .struct #[⟨ "Bool", 3, 0, false, "", "", 0⟩, ⟨ "Var", 3, 1, false, "", "", 8⟩, ⟨ "Row", 3, 2, false, "", "", 16⟩, ⟨ "Bound", 44, 3, false, "", "", 24⟩], 9, 136, [Value.int .i64 0, Value.int .i64 0, Value.int .i64 0, Value.bool false, Sl.toV Sl.nil, Sl.toV Sl.nil, Value.bool false, Sl.toV Sl.nil, Sl.toV Sl.nil]), (49, .struct #[⟨ "Var", 3, 0, false, "", "", 0⟩, ⟨ "Coef", 38, 1, false, "", "", 8⟩], 4, 64, [Value.int .i64 0, Value.bool false, Sl.toV Sl.nil, Sl.toV Sl.nil]), (50, .slice 49, 1, 24, [Sl.toV Sl.nil]), (52, .struct #[⟨ "Const", 38, 0, false, "", "", 0⟩, ⟨ "Monos", 50, 3, false, "", "", 56⟩], 4, 80, [Value.bool false, Sl.toV Sl.nil, Sl.toV Sl.nil, Sl.toV Sl.nil]), (53, .slice 3, 1, 24, [Sl.toV Sl.nil]), (55, .struct #[⟨ "Neg", 4, 0, false, "", "", 0⟩, ⟨ "Num", 53, 1, false, "", "", 8⟩, ⟨ "Den", 53, 2, false, "", "", 32⟩], 3, 56, [Value.bool false, Sl.toV Sl.nil, Sl.toV Sl.nil]), (59, .struct #[⟨ "A", 55, 0, false, "", "", 0⟩, ⟨ "B", 55, 3, false, "", "", 56⟩], 6, 112, [Value.bool false, Sl.toV Sl.nil, Sl.toV Sl.nil, Value.bool false, Sl.toV Sl.nil, Sl.toV Sl.nil]), (63, .slice 44, 1, 24, [Sl.toV Sl.nil]), (76, .pointer 127, 1, 8, [Value.pointer none]), (90, .func #[52] #[4] false, 1, 8, [Value.nilFunc]), (94, .struct #[⟨ "sum", 52, 0, false, "", "steelyard/farkas", 0⟩, ⟨ "most", 44, 4, false, "", "steelyard/farkas", 80⟩], 10, 192, [Value.bool false, Sl.toV Sl.nil, Sl.toV Sl.nil, Sl.toV Sl.nil, Value.bool false, Sl.toV Sl.nil, Sl.toV Sl.nil, Value.bool false, Sl.toV Sl.nil, Sl.toV Sl.nil]), (97, .func #[46] #[4] false, 1, 8, [Value.nilFunc]), (102, .int .u32, 1, 4, [Value.int .u32 0]), (105, .int .u64, 1, 8, [Value.int .u64 0]), (127, .struct #[⟨ "limbs", 3, 0, false, "", "steelyard/nat", 0⟩, ⟨ "over", 4, 1, false, "", "steelyard/nat", 8⟩], 2, 16, [Value.int .i64 0, Value.bool false]), (146, .func #[3] #[4] false, 1, 8, [Value.nilFunc]), (185, .map 3 4, 1, 8, [Value.map none]), (206, .array 2 34, 2, 48, [Sl.toV Sl.nil, Sl.toV Sl.nil]), (207, .array 32 5, 32, 32, [Value.int .u8 0, Value.int .u8 0, Value.int .u8 0, Value.int .u8 0, Value.int .u8 0, Value.int .u8 0, Value.int .u8 0, Value.int .u8 0, Value.int .u8 0, Value.int .u8 0, Value.int .u8 0, Value.int .u8 0, Value.int .u8 0, Value.int .u8 0, Value.int .u8 0, Value.int .u8 0, Value.int .u8 0, Value.int .u8 0, Value.int .u8 0, Value.int .u8 0, Value.int .u8 0, Value.int .u8 0, Value.int .u8 0, Value.int .u8 0, Value.int .u8 0, Value.int .u8 0, Value.int .u8 0, Value.int .u8 0, Value.int .u8 0, Value.int .u8 0, Value.int .u8 0, Value.int .u8 0])]
theorem hT : TTab.Ok Tryz.prog T := TTab.ok_cons (by kernel_rfl) (by kernel_rfl) (TTab.ok_cons (by kernel_rfl) (by kernel_rfl) (TTab.ok_cons (by kernel_rfl) (by kernel_rfl) (TTab.ok_cons (by kernel_rfl) (by kernel_rfl) (TTab.ok_cons (by kernel_rfl) (by kernel_rfl) (TTab.ok_cons (by kernel_rfl) (by kernel_rfl) (TTab.ok_cons (by kernel_rfl) (by kernel_rfl) (TTab.ok_cons (by kernel_rfl) (by kernel_rfl) (TTab.ok_cons (by kernel_rfl) (by kernel_rfl) (TTab.ok_cons (by kernel_rfl) (by kernel_rfl) (TTab.ok_cons (by kernel_rfl) (by kernel_rfl) (TTab.ok_cons (by kernel_rfl) (by kernel_rfl) (TTab.ok_cons (by kernel_rfl) (by kernel_rfl) (TTab.ok_cons (by kernel_rfl) (by kernel_rfl) (TTab.ok_cons (by kernel_rfl) (by kernel_rfl) (TTab.ok_cons (by kernel_rfl) (by kernel_rfl) (TTab.ok_cons (by kernel_rfl) (by kernel_rfl) (TTab.ok_cons (by kernel_rfl) (by kernel_rfl) (TTab.ok_cons (by kernel_rfl) (by kernel_rfl) (TTab.ok_cons (by kernel_rfl) (by kernel_rfl) (TTab.ok_cons (by kernel_rfl) (by kernel_rfl) (TTab.ok_cons (by kernel_rfl) (by kernel_rfl) (TTab.ok_cons (by kernel_rfl) (by kernel_rfl) (TTab.ok_cons (by kernel_rfl) (by kernel_rfl) (TTab.ok_cons (by kernel_rfl) (by kernel_rfl) (TTab.ok_cons (by kernel_rfl) (by kernel_rfl) (TTab.ok_cons (by kernel_rfl) (by kernel_rfl) (TTab.ok_cons (by kernel_rfl) (by kernel_rfl) (TTab.ok_cons (by kernel_rfl) (by kernel_rfl) (TTab.ok_cons (by kernel_rfl) (by kernel_rfl) (TTab.ok_cons (by kernel_rfl) (by kernel_rfl) (TTab.ok_cons (by kernel_rfl) (by kernel_rfl) (TTab.ok_cons (by kernel_rfl) (by kernel_rfl) (TTab.ok_cons (by kernel_rfl) (by kernel_rfl) (TTab.ok_cons (by kernel_rfl) (by kernel_rfl) (TTab.ok_nil _)))))))))))))))))))))))))))))))))))
theorem hmix : Tryz.prog.follows .mixedOrders = true := by kernel_rfl
theorem lift_nat_trim (x0 : Sl) (w : World) (m : Heap) (hr : Rel ⟨m, []⟩ w.heap) (S : Sl → Heap → Prop) (H : nat_trim x0 m S) :
 Calls Tryz.prog 116 #[Sl.toV x0] w (Post ⟨w, m⟩ Sl.toV S) := by
 refine Calls.lift (args := [Sl.toV x0]) Tryz.func116 Y Tryz.ntmps116 (Nat.le_of_ble_eq_true Y) hr (nat_trim x0 m S) H (fun H => ?_)
 refine AtC.pick (ts := [0]) Y ?_
 unfold nat_trim at H
 refine sR (pu hT 1 Y (ng (AtC.seq (AtC.block ?_))))
 refine AtC.loopM (fun (s0 : Sl) => [(0, Sl.toV s0)]) (fun (s0 : Sl) => []) [] [0] [] [] H Y Y Y (by decide) Y (fun Kp1 s0 h0 H Q1 HK1 => ?_)
 refine AtC.seq ?_
 refine AtC.joinSeq (β := Unit) (fun (t0 : Bool) (bb : Unit) => [(14, Value.bool t0)]) (fun (t0 : Bool) (bb : Unit) => []) [0] [] H Y Y (fun t0 bb h0u1 H => ?_) (fun J2 H HK2 => ?_)
 refine AtC.condB H Y (fun H => ?_) (fun H => ?_)
 refine AtC.skip (tg (AtC.block (AtC.region (pu hT 4 Y ?_))))
 refine AtL.sl (hT := hT) H Y Y Y Y Y Y Y (fun h => by cases h <;> rfl) Y (fun v_1 H => ?_)
 refine pu hT 1 Y (AtL.nil (AtE.blk_n ?_))
 exact AtE.then_n ((HK1 _ _ H).pickP (ts := [0]) (is := []) Y Y (by decide) Y)
 refine AtC.exit (AtE.then_x (AtE.then_x (AtE.blk_hit (tg (sR ?_)))))
 refine pu hT 2 Y (ng (AtC.ret ?_))
 exact r1 2 Y Y Y H
 refine AtC.region (pu hT 4 Y ?_)
 refine AtL.splitB (t := 6) H Y (fun H => ?_) (fun H => ?_)
 refine ys Y (pu hT 1 Y (ys Y (pu hT 1 Y (ys Y (pu hT 1 Y ?_)))))
 refine ys Y (pu hT 1 Y (ys Y ?_))
 obtain ⟨a_, hc2, hd2, H⟩ := H
 refine AtL.q Y (Quiet1.idxS hT Y Y Y Y Y hc2 hd2) (ys Y ?_)
 obtain ⟨v, hc3, H⟩ := H
 refine AtL.q Y (Quiet1.load hT Y Y Y hc3) (ys Y (pu hT 1 Y (pu hT 1 Y (AtL.nil ?_))))
 exact AtE.then_n ((HK2 _ () _ H).pickP (ts := [14, 0]) (is := []) Y Y (by decide) Y)
 refine nf Y (nf Y (nf Y (nf Y (nf Y (nf Y ?_)))))
 refine nf Y (pu hT 1 Y (AtL.nil ?_))
 exact AtE.then_n ((HK2 _ () _ H).pickP (ts := [14, 0]) (is := []) Y Y (by decide) Y)
theorem lift_nat_Of (n : Int) (w : World) (m : Heap) (hr : Rel ⟨m, []⟩ w.heap) (S : Sl → Heap → Prop) (H : nat_Of n m S) :
 Calls Tryz.prog 49 #[Value.int .u64 n] w (Post ⟨w, m⟩ Sl.toV S) := by
 refine Calls.lift (args := [Value.int .u64 n]) Tryz.func49 Y Tryz.ntmps49 (Nat.le_of_ble_eq_true Y) hr (nat_Of n m S) H (fun H => ?_)
 refine AtC.pick (ts := [0]) Y ?_
 unfold nat_Of at H
 refine sR (pu hT 1 Y (ng (sR (pu hT 5 Y ?_))))
 refine AtLX.bs (hT := hT) (cs := [_, _]) H Y Y Y Y Y Y Y Y Y (fun a h0 H => ?_)
 refine AtL.e Y (cl (fun h => nat_trim _ h _) H Y Tryz.call116 Y (fun w m hr hw => lift_nat_trim _ w m hr _ hw)) ?_
 rintro _ _ ⟨v_1, h0u1, rfl, rfl, H⟩
 refine pu hT 1 Y (ng (AtC.ret ?_))
 exact r1 2 Y Y Y H
theorem lift_ratio_Of (n : Int) (w : World) (m : Heap) (hr : Rel ⟨m, []⟩ w.heap) (S : (Bool × Sl × Sl) → Heap → Prop) (H : ratio_Of n m S) :
 Calls Tryz.prog 12 #[Value.int .i64 n] w (Post ⟨w, m⟩ (fun r => Value.agg (C_bool_sl_sl r).toArray) S) := by
 refine Calls.lift (args := [Value.int .i64 n]) Tryz.func12 Y Tryz.ntmps12 (Nat.le_of_ble_eq_true Y) hr (ratio_Of n m S) H (fun H => ?_)
 refine AtC.pick (ts := [0]) Y ?_
 unfold ratio_Of at H
 refine sR (AtL.e Y (EffX.allocP (cs := [_, _, _]) hT Y Y H) ?_)
 rintro _ _ ⟨b, _, rfl, rfl, _, H⟩
 refine AtL.nil ?_
 replace H := H.self
 refine tg (sR (pu hT 3 Y ?_))
 replace H := H _ rfl
 refine ng ?_
 refine AtC.joinSeq (β := Unit) (fun (t0 : Int) (bb : Unit) => [(3, Value.int .u64 t0)]) (fun (t0 : Int) (bb : Unit) => []) [0, 2] [0] H Y Y (fun t0 bb h0u1 H => ?_) (fun J1 H HK1 => ?_)
 refine sR (pu hT 3 Y (AtL.e Y (cl (fun h => nat_Of _ h _) H Y Tryz.call49 Y (fun w m hr hw => lift_nat_Of _ w m hr _ hw)) ?_))
 rintro _ _ ⟨v, h0u2, rfl, rfl, H⟩
 refine AtL.q Y (Quiet1.build (cs := [_, _]) hT Y Y Y Y Y Y) (AtL.q Y (Quiet1.build (cs := [_, _, _]) hT Y Y Y Y Y Y) (AtL.e Y (EffX.storeSP (i := 0) (qv := [(_, [_, _, _])]) hT Y Y Y Y Y Y Y Y Y Y) ?_))
 rintro _ _ rfl
 refine ng (AtC.ret ?_)
 exact AtE.retN (rs := [.cell 2 38]) Y (ResAll.cons (ResAt.cellSP (i := 0) (l := [_, _, _]) hT Y Y Y Y Y Y Y) ResAll.nil) Y H
 refine sR (pu hT 2 Y (ng ?_))
 refine AtC.condB H Y (fun H => ?_) (fun H => ?_)
 refine AtC.region (pu hT 3 Y ?_)
 replace H := H _ rfl
 refine AtL.nil ?_
 exact AtE.then_n ((HK1 _ () _ H).pickP (ts := [3, 0, 2]) (is := [0]) Y Y (by decide) Y)
 refine AtC.skip ?_
 exact AtE.then_n ((HK1 _ () _ H).pickP (ts := [3, 0, 2]) (is := [0]) Y Y (by decide) Y)
theorem lift_cnf_Right_c1 (l : Int) (c0 : Addr) (w : World) (m : Heap) (hr : Rel ⟨m, []⟩ w.heap) (S : Bool → Heap → Prop) (H : cnf_Right_c1 l c0 m S) :
 Calls Tryz.prog 97 #[Value.int .i64 l, Value.pointer (some c0)] w (Post ⟨w, m⟩ Value.bool S) := by
 refine Calls.lift (args := [Value.int .i64 l, Value.pointer (some c0)]) Tryz.func97 Y Tryz.ntmps97 (Nat.le_of_ble_eq_true Y) hr (cnf_Right_c1 l c0 m S) H (fun H => ?_)
 refine AtC.pick (ts := [0, 1]) Y ?_
 unfold cnf_Right_c1 at H
 refine sR (pu hT 1 Y (ng ?_))
 refine AtC.joinSeq (β := Unit) (fun (t0 : Bool) (bb : Unit) => [(3, Value.bool t0)]) (fun (t0 : Bool) (bb : Unit) => []) [] [] H Y Y (fun t0 bb h0 H => ?_) (fun J1 H HK1 => ?_)
 refine AtC.ret ?_
 exact r1 3 Y Y Y H
 refine AtC.region (pu hT 3 Y ?_)
 refine AtL.splitB (t := 6) H Y (fun H => ?_) (fun H => ?_)
 refine nf Y (nf Y (nf Y (nf Y (pu hT 2 Y (nf Y ?_)))))
 refine nf Y (nf Y (nf Y (nf Y (pu hT 2 Y (AtL.nil ?_)))))
 exact AtE.then_n ((HK1 _ () _ H).pickP (ts := [3]) (is := []) Y Y (by decide) Y)
 refine ys Y (pu hT 1 Y (ys Y (pu hT 1 Y (ys Y ?_))))
 obtain ⟨v, hc1, H⟩ := H
 refine AtL.q Y (Quiet1.load hT Y Y Y hc1) (ys Y (pu hT 1 Y (pu hT 2 Y ?_)))
 refine AtL.splitB (t := 12) H Y (fun H => ?_) (fun H => ?_)
 refine nf Y (nf Y (nf Y (nf Y (nf Y (pu hT 2 Y ?_)))))
 refine AtL.nil ?_
 exact AtE.then_n ((HK1 _ () _ H).pickP (ts := [3]) (is := []) Y Y (by decide) Y)
 refine ys Y (pu hT 1 Y (ys Y (pu hT 1 Y (ys Y ?_))))
 obtain ⟨v_1, hc2, H⟩ := H
 refine AtL.q Y (Quiet1.load hT Y Y Y hc2) (ys Y (pu hT 1 Y (ys Y (pu hT 1 Y (pu hT 2 Y ?_)))))
 refine AtL.nil ?_
 exact AtE.then_n ((HK1 _ () _ H).pickP (ts := [3]) (is := []) Y Y (by decide) Y)
theorem lift_slices_IndexFunc_int_int (s0 : Sl) (f : FnV) (w : World) (m : Heap) (hr : Rel ⟨m, []⟩ w.heap) (S : Int → Heap → Prop) (H : slices_IndexFunc_int_int s0 f m S) :
 Calls Tryz.prog 144 #[Sl.toV s0, FnV.toV f] w (Post ⟨w, m⟩ (Value.int .i64) S) := by
 refine Calls.lift (args := [Sl.toV s0, FnV.toV f]) Tryz.func144 Y Tryz.ntmps144 (Nat.le_of_ble_eq_true Y) hr (slices_IndexFunc_int_int s0 f m S) H (fun H => ?_)
 refine AtC.pick (ts := [0, 1]) Y ?_
 unfold slices_IndexFunc_int_int at H
 refine sR (pu hT 1 Y (ng (AtC.seq (sR (pu hT 3 Y ?_)))))
 refine ng (AtC.block ?_)
 refine AtC.loopM (fun (s0u1 : Int) => [(8, Value.int .i64 s0u1)]) (fun (s0u1 : Int) => []) [0, 1, 7] [8, 0, 1, 7] [] [] H Y Y Y (by decide) Y (fun Kp1 s0u1 h0 H Q1 HK1 => ?_)
 refine sR (pu hT 1 Y (ng (AtC.seq ?_)))
 refine AtC.condB H Y (fun H => ?_) (fun H => ?_)
 refine AtC.skip (tg (AtC.seq (AtC.block (sR (pu hT 2 Y ?_)))))
 refine ng (sR (pu hT 3 Y ?_))
 obtain ⟨a_, hc1, hd1, H⟩ := H
 refine AtL.q Y (Quiet1.idxS hT Y Y Y Y Y hc1 hd1) ?_
 obtain ⟨v, hc2, H⟩ := H
 refine AtL.q Y (Quiet1.load hT Y Y Y hc2) ?_
 obtain ⟨dc3u0, he3, H⟩ := H
 refine AtL.e Y (EffX.callFd (bs := []) (cs := [_]) (f := 97) (sh := fun h => cnf_Right_c1 _ _ h _) (H0 := H) Y Y he3 Tryz.call97 Y (hl := fun w m hr hw => lift_cnf_Right_c1 _ _ w m hr _ hw)) ?_
 rintro _ _ ⟨v_1, h0u1, rfl, rfl, H⟩
 refine ng ?_
 refine AtC.condB H Y (fun H => ?_) (fun H => ?_)
 refine sR (pu hT 2 Y (ng (AtC.ret (AtE.blk_r (AtE.then_r ?_)))))
 refine AtE.then_r (AtE.blk_r (AtE.then_r ?_))
 exact r1 4 Y Y Y H
 refine AtC.skip (AtE.blk_n (tg (AtC.region (pu hT 2 Y (AtL.nil ?_)))))
 exact AtE.then_n ((HK1 _ _ H).pickP (ts := [8, 0, 1, 7]) (is := []) Y Y (by decide) Y)
 refine AtC.exit (AtE.then_x (AtE.then_x (AtE.blk_hit (tg (sR ?_)))))
 refine pu hT 1 Y (ng (AtC.ret ?_))
 exact r1 4 Y Y Y H
theorem lift_slices_ContainsFunc_int_int (s0 : Sl) (f : FnV) (w : World) (m : Heap) (hr : Rel ⟨m, []⟩ w.heap) (S : Bool → Heap → Prop) (H : slices_ContainsFunc_int_int s0 f m S) :
 Calls Tryz.prog 100 #[Sl.toV s0, FnV.toV f] w (Post ⟨w, m⟩ Value.bool S) := by
 refine Calls.lift (args := [Sl.toV s0, FnV.toV f]) Tryz.func100 Y Tryz.ntmps100 (Nat.le_of_ble_eq_true Y) hr (slices_ContainsFunc_int_int s0 f m S) H (fun H => ?_)
 refine AtC.pick (ts := [0, 1]) Y ?_
 unfold slices_ContainsFunc_int_int at H
 refine sR (pu hT 1 Y (ng (sR (pu hT 2 Y (AtL.e Y (cl (fun h => slices_IndexFunc_int_int _ _ h _) H Y Tryz.call144 Y (fun w m hr hw => lift_slices_IndexFunc_int_int _ _ w m hr _ hw)) ?_)))))
 rintro _ _ ⟨v, h0, rfl, rfl, H⟩
 refine pu hT 2 Y (ng (AtC.ret ?_))
 exact r1 4 Y Y Y H
theorem lift_cnf_Right_c2 (c : Sl) (c0 : Addr) (w : World) (m : Heap) (hr : Rel ⟨m, []⟩ w.heap) (S : Bool → Heap → Prop) (H : cnf_Right_c2 c c0 m S) :
 Calls Tryz.prog 99 #[Sl.toV c, Value.pointer (some c0)] w (Post ⟨w, m⟩ Value.bool S) := by
 refine Calls.lift (args := [Sl.toV c, Value.pointer (some c0)]) Tryz.func99 Y Tryz.ntmps99 (Nat.le_of_ble_eq_true Y) hr (cnf_Right_c2 c c0 m S) H (fun H => ?_)
 refine AtC.pick (ts := [0, 1]) Y ?_
 unfold cnf_Right_c2 at H
 refine sR (pu hT 1 Y (ng (sR (pu hT 1 Y ?_))))
 obtain ⟨v, hc0, H⟩ := H
 refine AtL.q Y (Quiet1.load hT Y Y Y hc0) (AtL.e Y (cl (fun h => slices_ContainsFunc_int_int _ _ h _) H Y Tryz.call100 Y (fun w m hr hw => lift_slices_ContainsFunc_int_int _ _ w m hr _ hw)) ?_)
 rintro _ _ ⟨v_1, h0, rfl, rfl, H⟩
 refine pu hT 1 Y (ng (AtC.ret ?_))
 exact r1 3 Y Y Y H
theorem lift_slices_IndexFunc_int_int__cnf_Right_c2 (s0 : Sl) (f_c : Addr) (w : World) (m : Heap) (hr : Rel ⟨m, []⟩ w.heap) (S : Int → Heap → Prop) (H : slices_IndexFunc_int_int__cnf_Right_c2 s0 f_c m S) :
 Calls Tryz.prog 143 #[Sl.toV s0, Value.func (.func 99) #[] #[Value.pointer (some f_c)]] w (Post ⟨w, m⟩ (Value.int .i64) S) := by
 refine Calls.lift (args := [Sl.toV s0, Value.func (.func 99) #[] #[Value.pointer (some f_c)]]) Tryz.func143 Y Tryz.ntmps143 (Nat.le_of_ble_eq_true Y) hr (slices_IndexFunc_int_int__cnf_Right_c2 s0 f_c m S) H (fun H => ?_)
 refine AtC.pick (ts := [0, 1]) Y ?_
 unfold slices_IndexFunc_int_int__cnf_Right_c2 at H
 refine sR (pu hT 1 Y (ng (AtC.seq (sR (pu hT 3 Y ?_)))))
 refine ng (AtC.block ?_)
 refine AtC.loopM (fun (s0u1 : Int) => [(8, Value.int .i64 s0u1)]) (fun (s0u1 : Int) => []) [0, 1, 7] [8, 0, 1, 7] [] [] H Y Y Y (by decide) Y (fun Kp1 s0u1 h0 H Q1 HK1 => ?_)
 refine sR (pu hT 1 Y (ng (AtC.seq ?_)))
 refine AtC.condB H Y (fun H => ?_) (fun H => ?_)
 refine AtC.skip (tg (AtC.seq (AtC.block (sR (pu hT 2 Y ?_)))))
 refine ng (sR (pu hT 3 Y ?_))
 obtain ⟨a_, hc1, hd1, H⟩ := H
 refine AtL.q Y (Quiet1.idxS hT Y Y Y Y Y hc1 hd1) ?_
 obtain ⟨v, hc2, H⟩ := H
 refine AtL.q Y (Quiet1.load hT Y Y Y hc2) (AtL.e Y (EffX.callF (bs := []) (cs := [_]) (f := 99) (sh := fun h => cnf_Right_c2 _ _ h _) (H0 := H) Y Y Tryz.call99 Y (hl := fun w m hr hw => lift_cnf_Right_c2 _ _ w m hr _ hw)) ?_)
 rintro _ _ ⟨v_1, h0u1, rfl, rfl, H⟩
 refine ng ?_
 refine AtC.condB H Y (fun H => ?_) (fun H => ?_)
 refine sR (pu hT 2 Y (ng (AtC.ret (AtE.blk_r (AtE.then_r ?_)))))
 refine AtE.then_r (AtE.blk_r (AtE.then_r ?_))
 exact r1 4 Y Y Y H
 refine AtC.skip (AtE.blk_n (tg (AtC.region (pu hT 2 Y (AtL.nil ?_)))))
 exact AtE.then_n ((HK1 _ _ H).pickP (ts := [8, 0, 1, 7]) (is := []) Y Y (by decide) Y)
 refine AtC.exit (AtE.then_x (AtE.then_x (AtE.blk_hit (tg (sR ?_)))))
 refine pu hT 1 Y (ng (AtC.ret ?_))
 exact r1 4 Y Y Y H
theorem lift_slices_ContainsFunc_int_int__cnf_Right_c2 (s0 : Sl) (f_c : Addr) (w : World) (m : Heap) (hr : Rel ⟨m, []⟩ w.heap) (S : Bool → Heap → Prop) (H : slices_ContainsFunc_int_int__cnf_Right_c2 s0 f_c m S) :
 Calls Tryz.prog 98 #[Sl.toV s0, Value.func (.func 99) #[] #[Value.pointer (some f_c)]] w (Post ⟨w, m⟩ Value.bool S) := by
 refine Calls.lift (args := [Sl.toV s0, Value.func (.func 99) #[] #[Value.pointer (some f_c)]]) Tryz.func98 Y Tryz.ntmps98 (Nat.le_of_ble_eq_true Y) hr (slices_ContainsFunc_int_int__cnf_Right_c2 s0 f_c m S) H (fun H => ?_)
 refine AtC.pick (ts := [0, 1]) Y ?_
 unfold slices_ContainsFunc_int_int__cnf_Right_c2 at H
 refine sR (pu hT 1 Y (ng (sR (pu hT 2 Y (AtL.e Y (cl (fun h => slices_IndexFunc_int_int__cnf_Right_c2 _ _ h _) H Y Tryz.call143 Y (fun w m hr hw => lift_slices_IndexFunc_int_int__cnf_Right_c2 _ _ w m hr _ hw)) ?_)))))
 rintro _ _ ⟨v, h0, rfl, rfl, H⟩
 refine pu hT 2 Y (ng (AtC.ret ?_))
 exact r1 4 Y Y Y H
theorem lift_cnf_rowed (p : Int × Int × Sl × Sl × Sl × Sl × Sl) (w : World) (m : Heap) (hr : Rel ⟨m, []⟩ w.heap) (S : FnV → Heap → Prop) (H : cnf_rowed p m S) :
 Calls Tryz.prog 101 #[Value.agg (C_i64ui64usl_sl_sl_sl_sl p).toArray] w (Post ⟨w, m⟩ FnV.toV S) := by
 refine Calls.lift (args := [Value.agg (C_i64ui64usl_sl_sl_sl_sl p).toArray]) Tryz.func101 Y Tryz.ntmps101 (Nat.le_of_ble_eq_true Y) hr (cnf_rowed p m S) H (fun H => ?_)
 refine AtC.pick (ts := [0]) Y ?_
 unfold cnf_rowed at H
 refine sR (AtL.e Y (EffX.box (cs := [_, _, _, _, _, _, _]) Y Y Y H) ?_)
 rintro _ _ ⟨p_1, h0, rfl, rfl, H⟩
 refine pu hT 1 Y (ng (sR (AtL.q Y (Quiet1.makeFn (bs := []) (cs := [_]) Y Y Y) (pu hT 1 Y (ng ?_)))))
 refine AtC.ret ?_
 exact r1 2 Y Y Y H
theorem lift_cnf_atomic (p : Int × Int × Sl × Sl × Sl × Sl × Sl) (w : World) (m : Heap) (hr : Rel ⟨m, []⟩ w.heap) (S : FnV → Heap → Prop) (H : cnf_atomic p m S) :
 Calls Tryz.prog 102 #[Value.agg (C_i64ui64usl_sl_sl_sl_sl p).toArray] w (Post ⟨w, m⟩ FnV.toV S) := by
 refine Calls.lift (args := [Value.agg (C_i64ui64usl_sl_sl_sl_sl p).toArray]) Tryz.func102 Y Tryz.ntmps102 (Nat.le_of_ble_eq_true Y) hr (cnf_atomic p m S) H (fun H => ?_)
 refine AtC.pick (ts := [0]) Y ?_
 unfold cnf_atomic at H
 refine sR (AtL.e Y (EffX.box (cs := [_, _, _, _, _, _, _]) Y Y Y H) ?_)
 rintro _ _ ⟨p_1, h0, rfl, rfl, H⟩
 refine pu hT 1 Y (ng (sR (AtL.e Y (EffX.newM Y H) ?_)))
 rintro _ _ ⟨v, h0u1, rfl, rfl, H⟩
 refine AtL.e Y (EffX.alloc hT Y Y H) ?_
 rintro _ _ ⟨seen, h0u2, rfl, rfl, H⟩
 refine AtL.e Y (EffX.store hT Y Y Y Y Y H) ?_
 rintro _ _ ⟨h0u3, rfl, H⟩
 refine ng (sR (AtL.q Y (Quiet1.makeFn (bs := []) (cs := [_, _]) Y Y Y) (pu hT 1 Y (ng (AtC.ret ?_)))))
 exact r1 2 Y Y Y H
theorem lift_ratio_Sign (x0 : Bool × Sl × Sl) (w : World) (m : Heap) (hr : Rel ⟨m, []⟩ w.heap) (S : Int → Heap → Prop) (H : ratio_Sign x0 m S) :
 Calls Tryz.prog 43 #[Value.agg (C_bool_sl_sl x0).toArray] w (Post ⟨w, m⟩ (Value.int .i64) S) := by
 refine Calls.lift (args := [Value.agg (C_bool_sl_sl x0).toArray]) Tryz.func43 Y Tryz.ntmps43 (Nat.le_of_ble_eq_true Y) hr (ratio_Sign x0 m S) H (fun H => ?_)
 refine AtC.pick (ts := [0]) Y ?_
 unfold ratio_Sign at H
 refine sR (AtL.e Y (EffX.boxP (cs := [_, _, _]) Y Y Y H) ?_)
 rintro _ _ ⟨b, _, rfl, rfl, _, H⟩
 replace H := H.self
 refine pu hT 1 Y (ng (AtC.seq (AtC.block (sR (pu hT 2 Y ?_)))))
 refine AtL.q Y (lP hT 0 Y) (pu hT 3 Y (ng ?_))
 refine AtC.condB H Y (fun H => ?_) (fun H => ?_)
 refine sR (pu hT 1 Y (ng (AtC.ret (AtE.blk_r (AtE.then_r ?_)))))
 exact r1 2 Y Y Y H
 refine sR (pu hT 2 Y (AtL.q Y (lP hT 0 Y) (pu hT 1 Y (ng ?_))))
 refine AtC.condB H Y (fun H => ?_) (fun H => ?_)
 refine sR (pu hT 1 Y (ng (AtC.ret (AtE.blk_r (AtE.then_r ?_)))))
 exact r1 2 Y Y Y H
 refine AtC.skip (AtE.blk_n (tg (sR (pu hT 1 Y (ng ?_)))))
 refine AtC.ret ?_
 exact r1 2 Y Y Y H
theorem lift_nat_Right (x0 : Sl) (w : World) (m : Heap) (hr : Rel ⟨m, []⟩ w.heap) (S : Bool → Heap → Prop) (H : nat_Right x0 m S) :
 Calls Tryz.prog 107 #[Sl.toV x0] w (Post ⟨w, m⟩ Value.bool S) := by
 refine Calls.lift (args := [Sl.toV x0]) Tryz.func107 Y Tryz.ntmps107 (Nat.le_of_ble_eq_true Y) hr (nat_Right x0 m S) H (fun H => ?_)
 refine AtC.pick (ts := [0]) Y ?_
 unfold nat_Right at H
 refine sR (pu hT 1 Y (ng (sR (pu hT 1 Y (AtL.e Y (cl (fun h => nat_trim _ h _) H Y Tryz.call116 Y (fun w m hr hw => lift_nat_trim _ w m hr _ hw)) ?_)))))
 rintro _ _ ⟨v, h0, rfl, rfl, H⟩
 refine pu hT 5 Y (ng (AtC.ret ?_))
 exact r1 2 Y Y Y H
theorem lift_ratio_one (w : World) (m : Heap) (hr : Rel ⟨m, []⟩ w.heap) (S : Sl → Heap → Prop) (H : ratio_one m S) :
 Calls Tryz.prog 149 #[] w (Post ⟨w, m⟩ Sl.toV S) := by
 refine Calls.lift (args := []) Tryz.func149 Y Tryz.ntmps149 (Nat.le_of_ble_eq_true Y) hr (ratio_one m S) H (fun H => ?_)
 refine AtC.pick (ts := []) Y ?_
 unfold ratio_one at H
 refine sR (pu hT 1 Y (ng (sR ?_)))
 refine AtLX.bs (hT := hT) (cs := [_]) H Y Y Y Y Y Y Y Y Y (fun a h0 H => ?_)
 refine pu hT 1 Y (ng (AtC.ret ?_))
 exact r1 0 Y Y Y H
theorem lift_slices_Equal_api_Nat_uint32 (s1 : Sl) (s2 : Sl) (w : World) (m : Heap) (hr : Rel ⟨m, []⟩ w.heap) (S : Bool → Heap → Prop) (H : slices_Equal_api_Nat_uint32 s1 s2 m S) :
 Calls Tryz.prog 148 #[Sl.toV s1, Sl.toV s2] w (Post ⟨w, m⟩ Value.bool S) := by
 refine Calls.lift (args := [Sl.toV s1, Sl.toV s2]) Tryz.func148 Y Tryz.ntmps148 (Nat.le_of_ble_eq_true Y) hr (slices_Equal_api_Nat_uint32 s1 s2 m S) H (fun H => ?_)
 refine AtC.pick (ts := [0, 1]) Y ?_
 unfold slices_Equal_api_Nat_uint32 at H
 refine sR (pu hT 1 Y (ng (AtC.seq (sR (pu hT 5 Y ?_)))))
 refine ng ?_
 refine AtC.condB H Y (fun H => ?_) (fun H => ?_)
 refine sR (pu hT 1 Y (ng (AtC.ret (AtE.then_r ?_))))
 exact r1 4 Y Y Y H
 refine AtC.skip (tg (AtC.seq (sR (pu hT 3 Y (ng ?_)))))
 refine AtC.block ?_
 refine AtC.loopM (fun (s0 : Int) => [(13, Value.int .i64 s0)]) (fun (s0 : Int) => []) [0, 1, 12] [13, 0, 1, 12] [] [] H Y Y Y (by decide) Y (fun Kp1 s0 h0 H Q1 HK1 => ?_)
 refine sR (pu hT 1 Y (ng (AtC.seq ?_)))
 refine AtC.condB H Y (fun H => ?_) (fun H => ?_)
 refine AtC.skip (tg (AtC.seq (AtC.block (sR (pu hT 2 Y ?_)))))
 refine ng (AtC.seqD hmix (by kernel_rfl) (AtD.pures hT 2 _ _ _ _ Y ?_))
 obtain ⟨a_, hc1, hd1, H⟩ := H
 refine AtD.q Y (Quiet1.idxS hT Y Y Y Y Y hc1 hd1) ?_
 obtain ⟨v, hc2, H⟩ := H
 refine AtD.q Y (Quiet1.load hT Y Y Y hc2) (AtD.pures hT 2 _ _ _ _ Y ?_)
 obtain ⟨a_1_, hc3, hd3, H⟩ := H
 refine AtD.q Y (Quiet1.idxS hT Y Y Y Y Y hc3 hd3) ?_
 obtain ⟨v_1, hc4, H⟩ := H
 refine AtD.q Y (Quiet1.load hT Y Y Y hc4) (AtD.pures hT 1 _ _ _ _ Y (AtD.nil (tg ?_)))
 refine AtC.condB H Y (fun H => ?_) (fun H => ?_)
 refine sR (pu hT 1 Y (ng (AtC.ret (AtE.blk_r (AtE.then_r ?_)))))
 refine AtE.then_r (AtE.blk_r (AtE.then_r ?_))
 exact r1 4 Y Y Y H
 refine AtC.skip (AtE.blk_n (tg (AtC.region (pu hT 2 Y (AtL.nil ?_)))))
 exact AtE.then_n ((HK1 _ _ H).pickP (ts := [13, 0, 1, 12]) (is := []) Y Y (by decide) Y)
 refine AtC.exit (AtE.then_x (AtE.then_x (AtE.blk_hit (tg (sR ?_)))))
 refine pu hT 1 Y (ng (AtC.ret ?_))
 exact r1 4 Y Y Y H
theorem lift_ratio_isOne (x0 : Sl) (w : World) (m : Heap) (hr : Rel ⟨m, []⟩ w.heap) (S : Bool → Heap → Prop) (H : ratio_isOne x0 m S) :
 Calls Tryz.prog 108 #[Sl.toV x0] w (Post ⟨w, m⟩ Value.bool S) := by
 refine Calls.lift (args := [Sl.toV x0]) Tryz.func108 Y Tryz.ntmps108 (Nat.le_of_ble_eq_true Y) hr (ratio_isOne x0 m S) H (fun H => ?_)
 refine AtC.pick (ts := [0]) Y ?_
 unfold ratio_isOne at H
 refine sR (pu hT 1 Y (ng (sR (pu hT 1 Y (AtL.e Y (cl (fun h => ratio_one h _) H Y Tryz.call149 Y (fun w m hr hw => lift_ratio_one  w m hr _ hw)) ?_)))))
 rintro _ _ ⟨v, h0, rfl, rfl, H⟩
 refine AtL.e Y (cl (fun h => slices_Equal_api_Nat_uint32 _ _ h _) H Y Tryz.call148 Y (fun w m hr hw => lift_slices_Equal_api_Nat_uint32 _ _ w m hr _ hw)) ?_
 rintro _ _ ⟨v_1, h0u1, rfl, rfl, H⟩
 refine pu hT 1 Y (ng (AtC.ret ?_))
 exact r1 2 Y Y Y H
theorem lift_nat_New (limbs : Int) (w : World) (m : Heap) (hr : Rel ⟨m, []⟩ w.heap) (S : ((Option Addr)) → Heap → Prop) (H : nat_New limbs m S) :
 Calls Tryz.prog 25 #[Value.int .i64 limbs] w (Post ⟨w, m⟩ Value.pointer S) := by
 refine Calls.lift (args := [Value.int .i64 limbs]) Tryz.func25 Y Tryz.ntmps25 (Nat.le_of_ble_eq_true Y) hr (nat_New limbs m S) H (fun H => ?_)
 refine AtC.pick (ts := [0]) Y ?_
 unfold nat_New at H
 refine sR (pu hT 1 Y (ng (sR (pu hT 2 Y (AtL.q Y (Quiet1.build (cs := [_, _]) hT Y Y Y Y Y Y) ?_)))))
 refine AtL.e Y (EffX.box (cs := [_, _]) Y Y Y H) ?_
 rintro _ _ ⟨a, h0, rfl, rfl, H⟩
 refine pu hT 1 Y (ng (AtC.ret ?_))
 exact r1 2 Y Y Y H
theorem lift_ratio_free (w : World) (m : Heap) (hr : Rel ⟨m, []⟩ w.heap) (S : ((Option Addr)) → Heap → Prop) (H : ratio_free m S) :
 Calls Tryz.prog 109 #[] w (Post ⟨w, m⟩ Value.pointer S) := by
 refine Calls.lift (args := []) Tryz.func109 Y Tryz.ntmps109 (Nat.le_of_ble_eq_true Y) hr (ratio_free m S) H (fun H => ?_)
 refine AtC.pick (ts := []) Y ?_
 unfold ratio_free at H
 refine sR (pu hT 1 Y (ng (sR (AtL.e Y (cl (fun h => nat_New _ h _) H Y Tryz.call25 Y (fun w m hr hw => lift_nat_New _ w m hr _ hw)) ?_))))
 rintro _ _ ⟨v, h0, rfl, rfl, H⟩
 refine pu hT 1 Y (ng (AtC.ret ?_))
 exact r1 0 Y Y Y H
theorem lift_ratio_den (x0 : Bool × Sl × Sl) (w : World) (m : Heap) (hr : Rel ⟨m, []⟩ w.heap) (S : Sl → Heap → Prop) (H : ratio_den x0 m S) :
 Calls Tryz.prog 111 #[Value.agg (C_bool_sl_sl x0).toArray] w (Post ⟨w, m⟩ Sl.toV S) := by
 refine Calls.lift (args := [Value.agg (C_bool_sl_sl x0).toArray]) Tryz.func111 Y Tryz.ntmps111 (Nat.le_of_ble_eq_true Y) hr (ratio_den x0 m S) H (fun H => ?_)
 refine AtC.pick (ts := [0]) Y ?_
 unfold ratio_den at H
 refine sR (AtL.e Y (EffX.boxP (cs := [_, _, _]) Y Y Y H) ?_)
 rintro _ _ ⟨b, _, rfl, rfl, _, H⟩
 replace H := H.self
 refine pu hT 1 Y (ng (AtC.seq (sR (pu hT 1 Y (AtL.q Y (lP hT 0 Y) ?_)))))
 refine pu hT 2 Y (ng ?_)
 refine AtC.condB H Y (fun H => ?_) (fun H => ?_)
 refine sR (AtL.e Y (cl (fun h => ratio_one h _) H Y Tryz.call149 Y (fun w m hr hw => lift_ratio_one  w m hr _ hw)) ?_)
 rintro _ _ ⟨v, h0u1, rfl, rfl, H⟩
 refine pu hT 1 Y (ng (AtC.ret (AtE.then_r ?_)))
 exact r1 2 Y Y Y H
 refine AtC.skip (tg (sR (pu hT 1 Y (AtL.q Y (lP hT 0 Y) (pu hT 1 Y ?_)))))
 refine ng (AtC.ret ?_)
 exact r1 2 Y Y Y H
theorem lift_nat_small (x0 : Sl) (w : World) (m : Heap) (hr : Rel ⟨m, []⟩ w.heap) (S : (Int × Bool) → Heap → Prop) (H : nat_small x0 m S) :
 Calls Tryz.prog 157 #[Sl.toV x0] w (Post ⟨w, m⟩ (fun r => Value.tuple #[(Value.int .u64) r.1, Value.bool r.2]) S) := by
 refine Calls.lift (args := [Sl.toV x0]) Tryz.func157 Y Tryz.ntmps157 (Nat.le_of_ble_eq_true Y) hr (nat_small x0 m S) H (fun H => ?_)
 refine AtC.pick (ts := [0]) Y ?_
 unfold nat_small at H
 refine sR (pu hT 2 Y (ng (sR (pu hT 1 Y (AtL.e Y (cl (fun h => nat_trim _ h _) H Y Tryz.call116 Y (fun w m hr hw => lift_nat_trim _ w m hr _ hw)) ?_)))))
 rintro _ _ ⟨v, h0, rfl, rfl, H⟩
 refine pu hT 1 Y (ng (AtC.seq (sR (pu hT 4 Y ?_))))
 replace H := H _ rfl
 refine ng (AtC.block ?_)
 refine AtC.loopM (fun (s0 : Int × Int) => [(2, Value.int .u64 s0.1), (4, Value.int .i64 s0.2)]) (fun (s0 : Int × Int) => []) [0] [2, 4, 0] [] [] H Y Y Y (by decide) Y (fun Kp1 s0 h0u1 H Q1 HK1 => ?_)
 refine AtC.seq (sR (pu hT 2 Y (ng ?_)))
 refine AtC.condB H Y (fun H => ?_) (fun H => ?_)
 refine AtC.skip (tg (AtC.seq (AtC.block (AtC.region (pu hT 4 Y ?_)))))
 obtain ⟨a_, hc1, hd1, H⟩ := H
 refine AtL.q Y (Quiet1.idxS hT Y Y Y Y Y hc1 hd1) ?_
 obtain ⟨v_1, hc2, H⟩ := H
 refine AtL.q Y (Quiet1.load hT Y Y Y hc2) (pu hT 3 Y ?_)
 replace H := H _ rfl
 refine AtL.nil (AtE.blk_n (tg (AtC.region (pu hT 3 Y ?_))))
 replace H := H _ rfl
 refine AtL.nil ?_
 exact AtE.then_n ((HK1 _ _ H).pickP (ts := [2, 4, 0]) (is := []) Y Y (by decide) Y)
 refine AtC.exit (AtE.then_x (AtE.then_x (AtE.blk_hit (tg (sR ?_)))))
 refine pu hT 6 Y ?_
 replace H := H _ rfl
 refine ng (AtC.ret ?_)
 exact AtE.retN (rs := [.tmp 2, .tmp 3]) Y (ResAll.cons (ResAt.tmp Y) (ResAll.cons (ResAt.tmp Y) ResAll.nil)) Y H
theorem lift_math_bits_TrailingZeros32 (x0 : Int) (w : World) (m : Heap) (hr : Rel ⟨m, []⟩ w.heap) (S : Int → Heap → Prop) (H : math_bits_TrailingZeros32 x0 m S) :
 Calls Tryz.prog 170 #[Value.int .u32 x0] w (Post ⟨w, m⟩ (Value.int .i64) S) := by
 refine Calls.lift (args := [Value.int .u32 x0]) Tryz.func170 Y Tryz.ntmps170 (Nat.le_of_ble_eq_true Y) hr (math_bits_TrailingZeros32 x0 m S) H (fun H => ?_)
 refine AtC.pick (ts := [0]) Y ?_
 unfold math_bits_TrailingZeros32 at H
 refine sR (pu hT 1 Y (ng (AtC.seq (sR (pu hT 2 Y ?_)))))
 refine ng ?_
 refine AtC.condB H Y (fun H => ?_) (fun H => ?_)
 refine sR (pu hT 1 Y (ng (AtC.ret (AtE.then_r ?_))))
 exact r1 2 Y Y Y H
 refine AtC.skip (tg (sR (pu hT 6 Y ?_)))
 obtain ⟨hd0, H⟩ := H
 refine AtL.q Y (Quiet1.idxA hT Y Y Y Y Y hd0) ?_
 obtain ⟨v, hc1, H⟩ := H
 refine AtL.q Y (Quiet1.load hT Y Y Y hc1) (pu hT 2 Y (ng (AtC.ret ?_)))
 exact r1 2 Y Y Y H
theorem lift_slices_Clone_api_Nat_uint32 (s0 : Sl) (w : World) (m : Heap) (hr : Rel ⟨m, []⟩ w.heap) (S : Sl → Heap → Prop) (H : slices_Clone_api_Nat_uint32 s0 m S) :
 Calls Tryz.prog 141 #[Sl.toV s0] w (Post ⟨w, m⟩ Sl.toV S) := by
 refine Calls.lift (args := [Sl.toV s0]) Tryz.func141 Y Tryz.ntmps141 (Nat.le_of_ble_eq_true Y) hr (slices_Clone_api_Nat_uint32 s0 m S) H (fun H => ?_)
 refine AtC.pick (ts := [0]) Y ?_
 unfold slices_Clone_api_Nat_uint32 at H
 refine sR (pu hT 1 Y (ng (AtC.seq (sR (pu hT 1 Y ?_)))))
 refine AtL.q Y (Quiet1.eqNilS hT Y Y Y Y) (ng ?_)
 refine AtC.condB H Y (fun H => ?_) (fun H => ?_)
 refine sR (pu hT 1 Y (ng (AtC.ret (AtE.then_r ?_))))
 exact r1 2 Y Y Y H
 refine AtC.skip (tg (sR ?_))
 refine AtLX.bs (hT := hT) (cs := []) H Y Y Y Y Y Y Y Y Y (fun a h0 H => ?_)
 refine pu hT 1 Y (AtL.e Y (EffX.appendS (s := _) (u := _) hT Y Y Y Y Y Y Y Y Y Y (by decide) H) ?_)
 rintro _ _ ⟨v_1, h0u1, rfl, rfl, H⟩
 refine pu hT 1 Y (ng (AtC.ret ?_))
 exact r1 2 Y Y Y H
theorem lift_nat_halve (x0 : Sl) (w : World) (m : Heap) (hr : Rel ⟨m, []⟩ w.heap) (S : (Sl × Int) → Heap → Prop) (H : nat_halve x0 m S) :
 Calls Tryz.prog 162 #[Sl.toV x0] w (Post ⟨w, m⟩ (fun r => Value.tuple #[Sl.toV r.1, (Value.int .i64) r.2]) S) := by
 refine Calls.lift (args := [Sl.toV x0]) Tryz.func162 Y Tryz.ntmps162 (Nat.le_of_ble_eq_true Y) hr (nat_halve x0 m S) H (fun H => ?_)
 refine AtC.pick (ts := [0]) Y ?_
 unfold nat_halve at H
 refine sR (pu hT 2 Y (ng (sR (pu hT 1 Y (ng ?_)))))
 refine AtC.seq (AtC.block ?_)
 refine AtC.loopM (fun (s0 : Int) => [(4, Value.int .i64 s0)]) (fun (s0 : Int) => []) [0] [4, 0] [] [] H Y Y Y (by decide) Y (fun Kp1 s0 h0 H Q1 HK1 => ?_)
 refine AtC.seq (sR (pu hT 3 Y ?_))
 obtain ⟨a_, hc1, hd1, H⟩ := H
 refine AtL.q Y (Quiet1.idxS hT Y Y Y Y Y hc1 hd1) ?_
 obtain ⟨v, hc2, H⟩ := H
 refine AtL.q Y (Quiet1.load hT Y Y Y hc2) (pu hT 1 Y (ng ?_))
 refine AtC.condB H Y (fun H => ?_) (fun H => ?_)
 refine AtC.skip (tg (AtC.block (AtC.region (pu hT 3 Y ?_))))
 replace H := H _ rfl
 refine AtL.nil (AtE.blk_n ?_)
 exact AtE.then_n ((HK1 _ _ H).pickP (ts := [4, 0]) (is := []) Y Y (by decide) Y)
 refine AtC.exit (AtE.then_x (AtE.then_x (AtE.blk_hit (tg (sR ?_)))))
 refine pu hT 4 Y ?_
 obtain ⟨a_1_, hc3, hd3, H⟩ := H
 refine AtL.q Y (Quiet1.idxS hT Y Y Y Y Y hc3 hd3) ?_
 obtain ⟨v_1, hc4, H⟩ := H
 refine AtL.q Y (Quiet1.load hT Y Y Y hc4) (AtL.e Y (cl (fun h => math_bits_TrailingZeros32 _ h _) H Y Tryz.call170 Y (fun w m hr hw => lift_math_bits_TrailingZeros32 _ w m hr _ hw)) ?_)
 rintro _ _ ⟨v_2, h0u1, rfl, rfl, H⟩
 refine pu hT 2 Y ?_
 replace H := H _ rfl
 refine ng (sR (pu hT 3 Y ?_))
 refine AtL.sl (hT := hT) H Y Y Y Y Y Y Y (fun h => by cases h <;> rfl) Y (fun v_3 H => ?_)
 refine AtL.e Y (cl (fun h => slices_Clone_api_Nat_uint32 _ h _) H Y Tryz.call141 Y (fun w m hr hw => lift_slices_Clone_api_Nat_uint32 _ w m hr _ hw)) ?_
 rintro _ _ ⟨v_4, h0u2, rfl, rfl, H⟩
 refine pu hT 1 Y (ng ?_)
 refine AtC.joinSeq (β := Unit) (fun (t0 : Unit) (bb : Unit) => []) (fun (t0 : Unit) (bb : Unit) => []) [4, 5] [] H Y Y (fun t0 bb h0u3 H => ?_) (fun J7 H HK7 => ?_)
 refine sR (pu hT 1 Y (AtL.e Y (cl (fun h => nat_trim _ h _) H Y Tryz.call116 Y (fun w m hr hw => lift_nat_trim _ w m hr _ hw)) ?_))
 rintro _ _ ⟨v_8, h0u8, rfl, rfl, H⟩
 refine pu hT 3 Y (ng (AtC.ret ?_))
 exact AtE.retN (rs := [.tmp 2, .tmp 3]) Y (ResAll.cons (ResAt.tmp Y) (ResAll.cons (ResAt.tmp Y) ResAll.nil)) Y H
 refine sR (pu hT 3 Y ?_)
 replace H := H _ rfl
 refine ng (sR (pu hT 2 Y (ng ?_)))
 refine AtC.condB H Y (fun H => ?_) (fun H => ?_)
 refine sR (pu hT 3 Y (ng (AtC.block ?_)))
 refine AtC.loopM (fun (s0u2 : Int) => [(35, Value.int .i64 s0u2)]) (fun (s0u2 : Int) => []) [4, 5, 6, 34] [35, 4, 5, 6, 34] [] [] H Y Y Y (by decide) Y (fun Kp8 s0u2 h0u4 H Q8 HK8 => ?_)
 refine sR (pu hT 1 Y (ng (AtC.seq ?_)))
 refine AtC.condB H Y (fun H => ?_) (fun H => ?_)
 refine AtC.skip (tg ?_)
 refine AtC.joinSeq (β := Unit) (fun (t0u1 : Unit) (bb_1 : Unit) => []) (fun (t0u1 : Unit) (bb_1 : Unit) => []) [4, 5, 6, 34, 35] [] H Y Y (fun t0u1 bb_1 h0u5 H => ?_) (fun J9 H HK9 => ?_)
 refine AtC.region (pu hT 2 Y (AtL.nil ?_))
 exact AtE.then_n ((HK8 _ _ H).pickP (ts := [35, 4, 5, 6, 34]) (is := []) Y Y (by decide) Y)
 refine AtC.block (sR (pu hT 2 Y (ng (sR (pu hT 2 Y ?_)))))
 obtain ⟨a_2_, hc9, hd9, H⟩ := H
 refine AtL.q Y (Quiet1.idxS hT Y Y Y Y Y hc9 hd9) ?_
 obtain ⟨v_5, hc10, H⟩ := H
 refine AtL.q Y (Quiet1.load hT Y Y Y hc10) (pu hT 1 Y ?_)
 obtain ⟨hd11, H⟩ := H
 refine AtL.q Y (Quiet1.shr Y Y Y hd11) ?_
 obtain ⟨a_3_, hc12, hd12, H⟩ := H
 refine AtL.q Y (Quiet1.idxS hT Y Y Y Y Y hc12 hd12) (AtL.e Y (EffX.store hT Y Y Y Y Y H) ?_)
 rintro _ _ ⟨h0u6, rfl, H⟩
 refine ng (sR (pu hT 5 Y (ng ?_)))
 refine AtC.condB H Y (fun H => ?_) (fun H => ?_)
 obtain ⟨a_4_, hc13, hd13, H⟩ := H
 obtain ⟨v_6, hc14, H⟩ := H
 obtain ⟨a_5_, hc15, hd15, H⟩ := H
 obtain ⟨v_7, hc16, H⟩ := H
 obtain ⟨hd17, H⟩ := H
 obtain ⟨a_6_, hc18, hd18, H⟩ := H
 apply AtC.stages [14] [[], [], [], [], [], [], [], [], [], [], [], [], [], [], []] [[], [], [0, 1], [0, 1, 2], [], [], [5], [4, 5, 6], [4, 5, 6, 7], [], [9], [4, 5, 6, 7, 8, 9, 10], [0, 1, 2, 3, 4, 5, 6, 7, 8, 9, 10, 11], [0, 1, 2, 3, 4, 5, 6, 7, 8, 9, 10, 11, 12], [0, 1, 2, 3, 4, 5, 6, 7, 8, 9, 10, 11, 12, 13]] hmix (by kernel_rfl) [(50, _), (51, _), (52, _), (53, _), (54, _), (55, _), (56, _), (57, _), (58, _), (59, _), (60, _), (61, _), (62, _), (63, _)] Y 1 Y
 refine Stg.go [0, 1, 2, 3, 4, 5, 6, 7, 8, 9, 10, 11, 12, 13] [14] Y Y (qp hT Y (qp hT Y (qq Y (Quiet1.idxS hT Y Y Y Y Y hc13 hd13) Y (qq Y (Quiet1.load hT Y Y Y hc14) Y (qp hT Y (qp hT Y (qp hT Y (qq Y (Quiet1.idxS hT Y Y Y Y Y hc15 hd15) Y (qq Y (Quiet1.load hT Y Y Y hc16) Y (qp hT Y (qp hT Y (qq Y (Quiet1.shl Y Y Y hd17) Y (qp hT Y (qq Y (Quiet1.idxS hT Y Y Y Y Y hc18 hd18) Y QAll.nil)))))))))))))) ?_
 refine EAll.cons ?_ EAll.nil
 refine EOp.e Y Y Y (EffX.store hT Y Y Y Y Y H) ?_
 rintro _ _ ⟨h0u7, rfl, H⟩
 apply Stg.next [] Y Y
 refine Stg.fin [] Y Y QAll.nil (AtE.blk_n ?_)
 exact AtE.then_n ((HK9 _ () _ H).pickP (ts := [4, 5, 6, 34, 35]) (is := []) Y Y (by decide) Y)
 refine AtC.skip (AtE.blk_n ?_)
 exact AtE.then_n ((HK9 _ () _ H).pickP (ts := [4, 5, 6, 34, 35]) (is := []) Y Y (by decide) Y)
 refine AtC.exit (AtE.then_x (AtE.then_x (AtE.blk_hit ?_)))
 exact AtE.then_n ((HK7 _ () _ H).pickP (ts := [4, 5]) (is := []) Y Y (by decide) Y)
 refine AtC.skip ?_
 exact AtE.then_n ((HK7 _ () _ H).pickP (ts := [4, 5]) (is := []) Y Y (by decide) Y)
theorem lift_nat_sign (n : Int) (w : World) (m : Heap) (hr : Rel ⟨m, []⟩ w.heap) (S : Int → Heap → Prop) (H : nat_sign n m S) :
 Calls Tryz.prog 171 #[Value.int .i64 n] w (Post ⟨w, m⟩ (Value.int .i64) S) := by
 refine Calls.lift (args := [Value.int .i64 n]) Tryz.func171 Y Tryz.ntmps171 (Nat.le_of_ble_eq_true Y) hr (nat_sign n m S) H (fun H => ?_)
 refine AtC.pick (ts := [0]) Y ?_
 unfold nat_sign at H
 refine sR (pu hT 1 Y (ng (sR (pu hT 4 Y (ng ?_)))))
 refine AtC.ret ?_
 exact r1 2 Y Y Y H
theorem lift_nat_Cmp (x0 : Sl) (y : Sl) (w : World) (m : Heap) (hr : Rel ⟨m, []⟩ w.heap) (S : Int → Heap → Prop) (H : nat_Cmp x0 y m S) :
 Calls Tryz.prog 163 #[Sl.toV x0, Sl.toV y] w (Post ⟨w, m⟩ (Value.int .i64) S) := by
 refine Calls.lift (args := [Sl.toV x0, Sl.toV y]) Tryz.func163 Y Tryz.ntmps163 (Nat.le_of_ble_eq_true Y) hr (nat_Cmp x0 y m S) H (fun H => ?_)
 refine AtC.pick (ts := [0, 1]) Y ?_
 unfold nat_Cmp at H
 refine sR (pu hT 1 Y (ng (sR (pu hT 1 Y (AtL.e Y (cl (fun h => nat_trim _ h _) H Y Tryz.call116 Y (fun w m hr hw => lift_nat_trim _ w m hr _ hw)) ?_)))))
 rintro _ _ ⟨v, h0, rfl, rfl, H⟩
 refine pu hT 1 Y (AtL.e Y (cl (fun h => nat_trim _ h _) H Y Tryz.call116 Y (fun w m hr hw => lift_nat_trim _ w m hr _ hw)) ?_)
 rintro _ _ ⟨v_1, h0u1, rfl, rfl, H⟩
 refine pu hT 2 Y (ng (AtC.seq (sR (pu hT 5 Y (ng ?_)))))
 refine AtC.condB H Y (fun H => ?_) (fun H => ?_)
 refine sR (pu hT 5 Y (AtL.e Y (cl (fun h => nat_sign _ h _) H Y Tryz.call171 Y (fun w m hr hw => lift_nat_sign _ w m hr _ hw)) ?_))
 rintro _ _ ⟨v_2, h0u2, rfl, rfl, H⟩
 refine pu hT 1 Y (ng (AtC.ret (AtE.then_r ?_)))
 exact r1 4 Y Y Y H
 refine AtC.skip (tg (AtC.seq (sR (pu hT 4 Y ?_))))
 replace H := H _ rfl
 refine ng (AtC.block ?_)
 refine AtC.loopM (fun (s0 : Int) => [(5, Value.int .i64 s0)]) (fun (s0 : Int) => []) [0, 1] [5, 0, 1] [] [] H Y Y Y (by decide) Y (fun Kp1 s0 h0u3 H Q1 HK1 => ?_)
 refine AtC.seq (sR (pu hT 2 Y (ng ?_)))
 refine AtC.condB H Y (fun H => ?_) (fun H => ?_)
 refine AtC.skip (tg (AtC.seq (AtC.block (AtC.seqD hmix (by kernel_rfl) (AtD.pures hT 2 _ _ _ _ Y ?_)))))
 obtain ⟨a_, hc1, hd1, H⟩ := H
 refine AtD.q Y (Quiet1.idxS hT Y Y Y Y Y hc1 hd1) ?_
 obtain ⟨v_3, hc2, H⟩ := H
 refine AtD.q Y (Quiet1.load hT Y Y Y hc2) (AtD.pures hT 2 _ _ _ _ Y ?_)
 obtain ⟨a_1_, hc3, hd3, H⟩ := H
 refine AtD.q Y (Quiet1.idxS hT Y Y Y Y Y hc3 hd3) ?_
 obtain ⟨v_4, hc4, H⟩ := H
 refine AtD.q Y (Quiet1.load hT Y Y Y hc4) (AtD.pures hT 1 _ _ _ _ Y (AtD.nil (tg ?_)))
 refine AtC.condB H Y (fun H => ?_) (fun H => ?_)
 obtain ⟨a_2_, hc5, hd5, H⟩ := H
 obtain ⟨v_5, hc6, H⟩ := H
 obtain ⟨a_3_, hc7, hd7, H⟩ := H
 obtain ⟨v_6, hc8, H⟩ := H
 apply AtC.seqS [11] [[], [], [], [], [], [], [], [], [], [], [], [], [11]] [[], [], [0, 1], [0, 1, 2], [0, 1, 2, 3], [], [], [5, 6], [5, 6, 7], [5, 6, 7, 8], [0, 1, 2, 3, 4, 5, 6, 7, 8, 9], [0, 1, 2, 3, 4, 5, 6, 7, 8, 9, 10], [0, 1, 2, 3, 4, 5, 6, 7, 8, 9, 10, 11]] hmix (by kernel_rfl) [(37, _), (38, _), (39, _), (40, _), (41, _), (42, _), (43, _), (44, _), (45, _), (46, _), (47, _)] Y 1 Y
 refine Stg.go [0, 1, 2, 3, 4, 5, 6, 7, 8, 9, 10] [11] Y Y (qp hT Y (qp hT Y (qq Y (Quiet1.idxS hT Y Y Y Y Y hc5 hd5) Y (qq Y (Quiet1.load hT Y Y Y hc6) Y (qp hT Y (qp hT Y (qp hT Y (qq Y (Quiet1.idxS hT Y Y Y Y Y hc7 hd7) Y (qq Y (Quiet1.load hT Y Y Y hc8) Y (qp hT Y (qp hT Y QAll.nil))))))))))) ?_
 refine EAll.cons ?_ EAll.nil
 refine EOp.e Y Y Y (cl (fun h => nat_sign _ h _) H Y Tryz.call171 Y (fun w m hr hw => lift_nat_sign _ w m hr _ hw)) ?_
 rintro _ _ ⟨v_7, h0u4, rfl, rfl, H⟩
 apply Stg.next [(48, _), (4, _)] Y Y
 refine Stg.fin [12] Y Y (qp hT Y QAll.nil) (tg (AtC.ret (AtE.blk_r (AtE.then_r (AtE.then_r ?_)))))
 refine AtE.blk_r (AtE.then_r ?_)
 exact r1 4 Y Y Y H
 refine AtC.skip (AtE.blk_n (tg (AtC.region (pu hT 3 Y ?_))))
 replace H := H _ rfl
 refine AtL.nil ?_
 exact AtE.then_n ((HK1 _ _ H).pickP (ts := [5, 0, 1]) (is := []) Y Y (by decide) Y)
 refine AtC.exit (AtE.then_x (AtE.then_x (AtE.blk_hit (tg (sR ?_)))))
 refine pu hT 1 Y (ng (AtC.ret ?_))
 exact r1 4 Y Y Y H
theorem lift_nat_minus (x0 : Sl) (y : Sl) (w : World) (m : Heap) (hr : Rel ⟨m, []⟩ w.heap) (S : Sl → Heap → Prop) (H : nat_minus x0 y m S) :
 Calls Tryz.prog 164 #[Sl.toV x0, Sl.toV y] w (Post ⟨w, m⟩ Sl.toV S) := by
 refine Calls.lift (args := [Sl.toV x0, Sl.toV y]) Tryz.func164 Y Tryz.ntmps164 (Nat.le_of_ble_eq_true Y) hr (nat_minus x0 y m S) H (fun H => ?_)
 refine AtC.pick (ts := [0, 1]) Y ?_
 unfold nat_minus at H
 refine sR (pu hT 1 Y (ng (sR (pu hT 1 Y (ng ?_)))))
 refine AtC.seq (sR (pu hT 3 Y (ng (AtC.block ?_))))
 refine AtC.loopM (fun (s0 : Sl × Int × Int) => [(4, Sl.toV s0.1), (5, Value.int .u64 s0.2.1), (11, Value.int .i64 s0.2.2)]) (fun (s0 : Sl × Int × Int) => []) [1, 9, 10] [4, 5, 11, 1, 9, 10] [] [] H Y Y Y (by decide) Y (fun Kp1 s0 h0 H Q1 HK1 => ?_)
 refine sR (pu hT 1 Y (ng (AtC.seq ?_)))
 refine AtC.condB H Y (fun H => ?_) (fun H => ?_)
 refine AtC.skip (tg (AtC.seq (AtC.block (sR (pu hT 1 Y ?_)))))
 obtain ⟨a_, hc1, hd1, H⟩ := H
 refine AtL.q Y (Quiet1.idxS hT Y Y Y Y Y hc1 hd1) ?_
 obtain ⟨v, hc2, H⟩ := H
 refine AtL.q Y (Quiet1.load hT Y Y Y hc2) (pu hT 2 Y (ng (sR (pu hT 5 Y ?_))))
 replace H := H _ rfl
 refine ng ?_
 refine AtC.joinSeq (β := Unit) (fun (t0 : Int) (bb : Unit) => [(8, Value.int .u64 t0)]) (fun (t0 : Int) (bb : Unit) => []) [1, 4, 9, 10, 11] [] H Y Y (fun t0 bb h0u1 H => ?_) (fun J4 H HK4 => ?_)
 refine sR (pu hT 3 Y ?_)
 refine AtLX.bs (hT := hT) (cs := [_]) H Y Y Y Y Y Y Y Y Y (fun a_2 h0u2 H => ?_)
 refine AtL.e Y (EffX.appendS (s := _) (u := _) hT Y Y Y Y Y Y Y Y Y Y (by decide) H) ?_
 rintro _ _ ⟨v_3, h0u3, rfl, rfl, H⟩
 refine pu hT 1 Y (ng (AtC.region (pu hT 3 Y ?_)))
 replace H := H _ rfl
 refine AtL.nil (AtE.blk_n (tg (AtC.region (pu hT 2 Y (AtL.nil ?_)))))
 exact AtE.then_n ((HK1 _ _ H).pickP (ts := [4, 5, 11, 1, 9, 10]) (is := []) Y Y (by decide) Y)
 refine sR (pu hT 4 Y (ng ?_))
 refine AtC.condB H Y (fun H => ?_) (fun H => ?_)
 refine AtC.region (pu hT 3 Y ?_)
 obtain ⟨a_1_, hc4, hd4, H⟩ := H
 refine AtL.q Y (Quiet1.idxS hT Y Y Y Y Y hc4 hd4) ?_
 obtain ⟨v_1, hc5, H⟩ := H
 refine AtL.q Y (Quiet1.load hT Y Y Y hc5) (pu hT 3 Y ?_)
 replace H := H _ rfl
 refine AtL.nil ?_
 exact AtE.then_n ((HK4 _ () _ H).pickP (ts := [8, 1, 4, 9, 10, 11]) (is := []) Y Y (by decide) Y)
 refine AtC.skip ?_
 exact AtE.then_n ((HK4 _ () _ H).pickP (ts := [8, 1, 4, 9, 10, 11]) (is := []) Y Y (by decide) Y)
 refine AtC.exit (AtE.then_x (AtE.then_x (AtE.blk_hit (tg (sR ?_)))))
 refine pu hT 1 Y (AtL.e Y (cl (fun h => nat_trim _ h _) H Y Tryz.call116 Y (fun w m hr hw => lift_nat_trim _ w m hr _ hw)) ?_)
 rintro _ _ ⟨v_4, h0u4, rfl, rfl, H⟩
 refine pu hT 1 Y (ng (AtC.ret ?_))
 exact r1 4 Y Y Y H
theorem lift_nat_times (x0 : Sl) (y : Sl) (w : World) (m : Heap) (hr : Rel ⟨m, []⟩ w.heap) (S : Sl → Heap → Prop) (H : nat_times x0 y m S) :
 Calls Tryz.prog 159 #[Sl.toV x0, Sl.toV y] w (Post ⟨w, m⟩ Sl.toV S) := by
 refine Calls.lift (args := [Sl.toV x0, Sl.toV y]) Tryz.func159 Y Tryz.ntmps159 (Nat.le_of_ble_eq_true Y) hr (nat_times x0 y m S) H (fun H => ?_)
 refine AtC.pick (ts := [0, 1]) Y ?_
 unfold nat_times at H
 refine sR (pu hT 1 Y (ng (sR (pu hT 5 Y ?_))))
 replace H := H _ rfl
 refine AtL.e Y (EffX.mkS hT Y Y Y Y Y Y Y Y (by decide) H) ?_
 rintro _ _ ⟨v, h0, rfl, rfl, H⟩
 refine pu hT 1 Y (ng (AtC.seq (sR (pu hT 3 Y (ng ?_)))))
 refine AtC.block ?_
 refine AtC.loopM (fun (s0 : Int) => [(19, Value.int .i64 s0)]) (fun (s0 : Int) => []) [1, 5, 17, 18] [19, 1, 5, 17, 18] [] [] H Y Y Y (by decide) Y (fun Kp1 s0 h0u1 H Q1 HK1 => ?_)
 refine sR (pu hT 1 Y (ng (AtC.seq ?_)))
 refine AtC.condB H Y (fun H => ?_) (fun H => ?_)
 refine AtC.skip (tg (AtC.seq (AtC.block (sR (pu hT 1 Y ?_)))))
 obtain ⟨a_, hc1, hd1, H⟩ := H
 refine AtL.q Y (Quiet1.idxS hT Y Y Y Y Y hc1 hd1) ?_
 obtain ⟨v_1, hc2, H⟩ := H
 refine AtL.q Y (Quiet1.load hT Y Y Y hc2) (pu hT 2 Y (ng (sR (pu hT 1 Y (ng ?_)))))
 refine AtC.seq (sR (pu hT 3 Y (ng (AtC.block ?_))))
 refine AtC.loopM (fun (s0u1 : Int × Int) => [(8, Value.int .u64 s0u1.1), (26, Value.int .i64 s0u1.2)]) (fun (s0u1 : Int × Int) => []) [1, 5, 6, 7, 17, 18, 19, 24, 25] [8, 26, 1, 5, 6, 7, 17, 18, 19, 24, 25] [] [] H Y Y Y (by decide) Y (fun Kp4 s0u1 h0u2 H Q4 HK4 => ?_)
 refine sR (pu hT 1 Y (ng (AtC.seq ?_)))
 refine AtC.condB H Y (fun H => ?_) (fun H => ?_)
 refine AtC.skip (tg (AtC.seq (AtC.block (sR (pu hT 1 Y ?_)))))
 obtain ⟨a_1_, hc4, hd4, H⟩ := H
 refine AtL.q Y (Quiet1.idxS hT Y Y Y Y Y hc4 hd4) ?_
 obtain ⟨v_2, hc5, H⟩ := H
 refine AtL.q Y (Quiet1.load hT Y Y Y hc5) (pu hT 2 Y (ng (sR (pu hT 10 Y ?_))))
 obtain ⟨a_2_, hc6, hd6, H⟩ := H
 refine AtL.q Y (Quiet1.idxS hT Y Y Y Y Y hc6 hd6) ?_
 obtain ⟨v_3, hc7, H⟩ := H
 refine AtL.q Y (Quiet1.load hT Y Y Y hc7) (pu hT 4 Y ?_)
 replace H := H _ rfl
 refine ng (sR (pu hT 6 Y ?_))
 obtain ⟨a_3_, hc8, hd8, H⟩ := H
 refine AtL.q Y (Quiet1.idxS hT Y Y Y Y Y hc8 hd8) (AtL.e Y (EffX.store hT Y Y Y Y Y H) ?_)
 rintro _ _ ⟨h0u3, rfl, H⟩
 refine ng (AtC.region (pu hT 3 Y ?_))
 replace H := H _ rfl
 refine AtL.nil (AtE.blk_n (tg (AtC.region (pu hT 2 Y (AtL.nil ?_)))))
 exact AtE.then_n ((HK4 _ _ H).pickP (ts := [8, 26, 1, 5, 6, 7, 17, 18, 19, 24, 25]) (is := []) Y Y (by decide) Y)
 refine AtC.exit (AtE.then_x (AtE.then_x (AtE.blk_hit (tg (AtC.region ?_)))))
 refine pu hT 7 Y ?_
 obtain ⟨a_4_, hc9, hd9, H⟩ := H
 refine AtL.q Y (Quiet1.idxS hT Y Y Y Y Y hc9 hd9) (AtL.e Y (EffX.store hT Y Y Y Y Y H) ?_)
 rintro _ _ ⟨h0u4, rfl, H⟩
 refine AtL.nil (AtE.blk_n (tg (AtC.region (pu hT 2 Y (AtL.nil ?_)))))
 exact AtE.then_n ((HK1 _ _ H).pickP (ts := [19, 1, 5, 17, 18]) (is := []) Y Y (by decide) Y)
 refine AtC.exit (AtE.then_x (AtE.then_x (AtE.blk_hit (tg (sR ?_)))))
 refine pu hT 2 Y (ng (AtC.ret ?_))
 exact r1 4 Y Y Y H
theorem lift_nat_double (x0 : Sl) (k : Int) (w : World) (m : Heap) (hr : Rel ⟨m, []⟩ w.heap) (S : Sl → Heap → Prop) (H : nat_double x0 k m S) :
 Calls Tryz.prog 165 #[Sl.toV x0, Value.int .i64 k] w (Post ⟨w, m⟩ Sl.toV S) := by
 refine Calls.lift (args := [Sl.toV x0, Value.int .i64 k]) Tryz.func165 Y Tryz.ntmps165 (Nat.le_of_ble_eq_true Y) hr (nat_double x0 k m S) H (fun H => ?_)
 refine AtC.pick (ts := [0, 1]) Y ?_
 unfold nat_double at H
 refine sR (pu hT 1 Y (ng (sR (pu hT 3 Y ?_))))
 replace H := H _ rfl
 refine AtL.e Y (EffX.mkS hT Y Y Y Y Y Y Y Y (by decide) H) ?_
 rintro _ _ ⟨v, h0, rfl, rfl, H⟩
 refine pu hT 1 Y (ng (sR (pu hT 5 Y ?_)))
 obtain ⟨hd0, H⟩ := H
 refine AtL.q Y (Quiet1.shl Y Y Y hd0) ?_
 obtain ⟨a_, hc1, hd1, H⟩ := H
 refine AtL.q Y (Quiet1.idxS hT Y Y Y Y Y hc1 hd1) (AtL.e Y (EffX.store hT Y Y Y Y Y H) ?_)
 rintro _ _ ⟨h0u1, rfl, H⟩
 refine ng (sR (pu hT 2 Y (AtL.e Y (cl (fun h => nat_times _ _ h _) H Y Tryz.call159 Y (fun w m hr hw => lift_nat_times _ _ w m hr _ hw)) ?_)))
 rintro _ _ ⟨v_1, h0u2, rfl, rfl, H⟩
 refine AtL.e Y (cl (fun h => nat_trim _ h _) H Y Tryz.call116 Y (fun w m hr hw => lift_nat_trim _ w m hr _ hw)) ?_
 rintro _ _ ⟨v_2, h0u3, rfl, rfl, H⟩
 refine pu hT 1 Y (ng (AtC.ret ?_))
 exact r1 4 Y Y Y H
theorem lift_nat_common (x0 : Sl) (y : Sl) (w : World) (m : Heap) (hr : Rel ⟨m, []⟩ w.heap) (S : Sl → Heap → Prop) (H : nat_common x0 y m S) :
 Calls Tryz.prog 151 #[Sl.toV x0, Sl.toV y] w (Post ⟨w, m⟩ Sl.toV S) := by
 refine Calls.lift (args := [Sl.toV x0, Sl.toV y]) Tryz.func151 Y Tryz.ntmps151 (Nat.le_of_ble_eq_true Y) hr (nat_common x0 y m S) H (fun H => ?_)
 refine AtC.pick (ts := [0, 1]) Y ?_
 unfold nat_common at H
 refine sR (pu hT 1 Y (ng (sR (pu hT 1 Y (AtL.e Y (cl (fun h => nat_trim _ h _) H Y Tryz.call116 Y (fun w m hr hw => lift_nat_trim _ w m hr _ hw)) ?_)))))
 rintro _ _ ⟨v, h0, rfl, rfl, H⟩
 refine pu hT 1 Y (AtL.e Y (cl (fun h => nat_trim _ h _) H Y Tryz.call116 Y (fun w m hr hw => lift_nat_trim _ w m hr _ hw)) ?_)
 rintro _ _ ⟨v_1, h0u1, rfl, rfl, H⟩
 refine pu hT 2 Y (ng (AtC.seq (sR (pu hT 3 Y (ng ?_)))))
 refine AtC.condB H Y (fun H => ?_) (fun H => ?_)
 refine sR (pu hT 2 Y (ng (AtC.ret (AtE.then_r ?_))))
 exact r1 4 Y Y Y H
 refine AtC.skip (tg (AtC.seq (sR (pu hT 3 Y (ng ?_)))))
 refine AtC.condB H Y (fun H => ?_) (fun H => ?_)
 refine sR (pu hT 2 Y (ng (AtC.ret (AtE.then_r ?_))))
 exact r1 4 Y Y Y H
 refine AtC.skip (tg ?_)
 refine AtC.joinSeq (β := Unit) (fun (t0 : Unit) (bb : Unit) => []) (fun (t0 : Unit) (bb : Unit) => []) [0, 1] [] H Y Y (fun t0 bb h0u2 H => ?_) (fun J1 H HK1 => ?_)
 refine sR (pu hT 1 Y (AtL.e Y (cl (fun h => nat_halve _ h _) H Y Tryz.call162 Y (fun w m hr hw => lift_nat_halve _ w m hr _ hw)) ?_))
 rintro _ _ ⟨v_5, h0u7, rfl, rfl, H⟩
 refine pu hT 5 Y (ng (sR (pu hT 1 Y (AtL.e Y (cl (fun h => nat_halve _ h _) H Y Tryz.call162 Y (fun w m hr hw => lift_nat_halve _ w m hr _ hw)) ?_))))
 rintro _ _ ⟨v_6, h0u8, rfl, rfl, H⟩
 refine pu hT 5 Y (ng (AtC.seq (AtC.block ?_)))
 refine AtC.loopM (fun (s0u1 : Sl × Sl) => [(0, Sl.toV s0u1.1), (1, Sl.toV s0u1.2)]) (fun (s0u1 : Sl × Sl) => []) [9, 10] [0, 1, 9, 10] [] [] H Y Y Y (by decide) Y (fun Kp4 s0u1 h0u9 H Q4 HK4 => ?_)
 refine AtC.seq (sR (pu hT 2 Y (AtL.e Y (cl (fun h => nat_Cmp _ _ h _) H Y Tryz.call163 Y (fun w m hr hw => lift_nat_Cmp _ _ w m hr _ hw)) ?_)))
 rintro _ _ ⟨v_7, h0u10, rfl, rfl, H⟩
 refine pu hT 1 Y (ng ?_)
 refine AtC.condB H Y (fun H => ?_) (fun H => ?_)
 refine AtC.skip (tg (AtC.block ?_))
 refine AtC.joinSeq (β := Unit) (fun (t0u1 : Sl × Sl) (bb_1 : Unit) => [(0, Sl.toV t0u1.1), (1, Sl.toV t0u1.2)]) (fun (t0u1 : Sl × Sl) (bb_1 : Unit) => []) [9, 10] [] H Y Y (fun t0u1 bb_1 h0u11 H => ?_) (fun J5 H HK5 => ?_)
 refine AtC.region (pu hT 2 Y (AtL.e Y (cl (fun h => nat_minus _ _ h _) H Y Tryz.call164 Y (fun w m hr hw => lift_nat_minus _ _ w m hr _ hw)) ?_))
 rintro _ _ ⟨v_9, h0u13, rfl, rfl, H⟩
 refine AtL.e Y (cl (fun h => nat_halve _ h _) H Y Tryz.call162 Y (fun w m hr hw => lift_nat_halve _ w m hr _ hw)) ?_
 rintro _ _ ⟨v_10, h0u14, rfl, rfl, H⟩
 refine pu hT 4 Y (AtL.nil (AtE.blk_n ?_))
 exact AtE.then_n ((HK4 _ _ H).pickP (ts := [0, 1, 9, 10]) (is := []) Y Y (by decide) Y)
 refine sR (pu hT 2 Y (AtL.e Y (cl (fun h => nat_Cmp _ _ h _) H Y Tryz.call163 Y (fun w m hr hw => lift_nat_Cmp _ _ w m hr _ hw)) ?_))
 rintro _ _ ⟨v_8, h0u12, rfl, rfl, H⟩
 refine pu hT 1 Y (ng ?_)
 refine AtC.condB H Y (fun H => ?_) (fun H => ?_)
 refine AtC.region (pu hT 4 Y (AtL.nil ?_))
 exact AtE.then_n ((HK5 _ () _ H).pickP (ts := [0, 1, 9, 10]) (is := []) Y Y (by decide) Y)
 refine AtC.skip ?_
 exact AtE.then_n ((HK5 _ () _ H).pickP (ts := [0, 1, 9, 10]) (is := []) Y Y (by decide) Y)
 refine AtC.exit (AtE.then_x (AtE.then_x (AtE.blk_hit (tg (sR ?_)))))
 refine pu hT 4 Y (AtL.e Y (cl (fun h => nat_double _ _ h _) H Y Tryz.call165 Y (fun w m hr hw => lift_nat_double _ _ w m hr _ hw)) ?_)
 rintro _ _ ⟨v_11, h0u15, rfl, rfl, H⟩
 refine pu hT 1 Y (ng (AtC.ret ?_))
 exact r1 4 Y Y Y H
 refine sR (pu hT 1 Y (AtL.e Y (cl (fun h => nat_small _ h _) H Y Tryz.call157 Y (fun w m hr hw => lift_nat_small _ w m hr _ hw)) ?_))
 rintro _ _ ⟨v_2, h0u3, rfl, rfl, H⟩
 refine pu hT 5 Y (ng (sR (pu hT 1 Y (ng ?_))))
 refine AtC.condB H Y (fun H => ?_) (fun H => ?_)
 refine sR (pu hT 1 Y (AtL.e Y (cl (fun h => nat_small _ h _) H Y Tryz.call157 Y (fun w m hr hw => lift_nat_small _ w m hr _ hw)) ?_))
 rintro _ _ ⟨v_3, h0u4, rfl, rfl, H⟩
 refine pu hT 5 Y (ng (sR (pu hT 1 Y (ng ?_))))
 refine AtC.condB H Y (fun H => ?_) (fun H => ?_)
 refine AtC.seq (AtC.block ?_)
 refine AtC.loopM (fun (s0 : Int × Int) => [(5, Value.int .u64 s0.1), (7, Value.int .u64 s0.2)]) (fun (s0 : Int × Int) => []) [] [5, 7] [] [] H Y Y Y (by decide) Y (fun Kp2 s0 h0u5 H Q2 HK2 => ?_)
 refine AtC.seq (sR (pu hT 2 Y (ng ?_)))
 refine AtC.condB H Y (fun H => ?_) (fun H => ?_)
 refine AtC.skip (tg (AtC.block (AtC.draw hmix (by kernel_rfl) (AtD.pures hT 3 _ _ _ _ Y ?_))))
 obtain ⟨hd2, H⟩ := H
 refine AtD.q Y (Quiet1.rem Y Y Y hd2) (AtD.pures hT 2 _ _ _ _ Y ?_)
 replace H := H _ rfl
 refine AtD.nil (AtE.blk_n ?_)
 exact AtE.then_n ((HK2 _ _ H).pickP (ts := [5, 7]) (is := []) Y Y (by decide) Y)
 refine AtC.exit (AtE.then_x (AtE.then_x (AtE.blk_hit (tg (sR ?_)))))
 refine pu hT 1 Y (AtL.e Y (cl (fun h => nat_Of _ h _) H Y Tryz.call49 Y (fun w m hr hw => lift_nat_Of _ w m hr _ hw)) ?_)
 rintro _ _ ⟨v_4, h0u6, rfl, rfl, H⟩
 refine pu hT 1 Y (ng (AtC.ret (AtE.then_r ?_)))
 exact r1 4 Y Y Y H
 refine AtC.skip ?_
 exact AtE.then_n ((HK1 _ () _ H).pickP (ts := [0, 1]) (is := []) Y Y (by decide) Y)
 refine AtC.skip ?_
 exact AtE.then_n ((HK1 _ () _ H).pickP (ts := [0, 1]) (is := []) Y Y (by decide) Y)
theorem lift_nat_Bench_fit (b : (Option Addr)) (x0 : Sl) (w : World) (m : Heap) (hr : Rel ⟨m, []⟩ w.heap) (S : Sl → Heap → Prop) (H : nat_Bench_fit b x0 m S) :
 Calls Tryz.prog 150 #[Value.pointer b, Sl.toV x0] w (Post ⟨w, m⟩ Sl.toV S) := by
 refine Calls.lift (args := [Value.pointer b, Sl.toV x0]) Tryz.func150 Y Tryz.ntmps150 (Nat.le_of_ble_eq_true Y) hr (nat_Bench_fit b x0 m S) H (fun H => ?_)
 refine AtC.pick (ts := [0, 1]) Y ?_
 unfold nat_Bench_fit at H
 refine sR (pu hT 1 Y (ng (sR (pu hT 1 Y (AtL.e Y (cl (fun h => nat_trim _ h _) H Y Tryz.call116 Y (fun w m hr hw => lift_nat_trim _ w m hr _ hw)) ?_)))))
 rintro _ _ ⟨v, h0, rfl, rfl, H⟩
 refine pu hT 1 Y (ng ?_)
 refine AtC.joinSeq (β := Unit) (fun (t0 : Unit) (bb : Unit) => []) (fun (t0 : Unit) (bb : Unit) => []) [0, 1] [] H Y Y (fun t0 bb h0u1 H => ?_) (fun J1 H HK1 => ?_)
 refine AtC.seq (sR (pu hT 1 Y ?_))
 obtain ⟨a_4, hc7, H⟩ := H
 refine AtL.q Y (Quiet1.nilChk Y Y hc7) (pu hT 1 Y ?_)
 obtain ⟨v_3, hc8, H⟩ := H
 refine AtL.q Y (Quiet1.load hT Y Y Y hc8) (ng ?_)
 refine AtC.condB H Y (fun H => ?_) (fun H => ?_)
 refine sR (pu hT 1 Y (ng (AtC.ret (AtE.then_r ?_))))
 exact r1 4 Y Y Y H
 refine AtC.skip (tg (sR (pu hT 1 Y (AtL.e Y (cl (fun h => slices_Clone_api_Nat_uint32 _ h _) H Y Tryz.call141 Y (fun w m hr hw => lift_slices_Clone_api_Nat_uint32 _ w m hr _ hw)) ?_))))
 rintro _ _ ⟨v_4, h0u4, rfl, rfl, H⟩
 refine pu hT 1 Y (ng (AtC.ret ?_))
 exact r1 4 Y Y Y H
 refine AtC.region (pu hT 2 Y ?_)
 obtain ⟨a, hc1, H⟩ := H
 refine AtL.q Y (Quiet1.nilChk Y Y hc1) (pu hT 1 Y ?_)
 obtain ⟨v_1, hc2, H⟩ := H
 refine AtL.q Y (Quiet1.load hT Y Y Y hc2) (pu hT 1 Y ?_)
 refine AtL.splitB (t := 12) H Y (fun H => ?_) (fun H => ?_)
 refine nf Y (nf Y (nf Y (nf Y (nf Y (nf Y ?_)))))
 refine nf Y (pu hT 1 Y ?_)
 obtain ⟨a_1, hc3, H⟩ := H
 refine AtL.q Y (Quiet1.nilChk Y Y hc3) (pu hT 1 Y (AtL.e Y (EffX.store hT Y Y Y Y Y H) ?_))
 rintro _ _ ⟨h0u2, rfl, H⟩
 refine AtL.nil ?_
 exact AtE.then_n ((HK1 _ () _ H).pickP (ts := [0, 1]) (is := []) Y Y (by decide) Y)
 refine ys Y (pu hT 1 Y (ys Y (pu hT 1 Y (ys Y (pu hT 1 Y ?_)))))
 refine ys Y ?_
 obtain ⟨a_2, hc4, H⟩ := H
 refine AtL.q Y (Quiet1.nilChk Y Y hc4) (ys Y (pu hT 1 Y (ys Y ?_)))
 obtain ⟨v_2, hc5, H⟩ := H
 refine AtL.q Y (Quiet1.load hT Y Y Y hc5) (ys Y (pu hT 1 Y (pu hT 1 Y ?_)))
 obtain ⟨a_3, hc6, H⟩ := H
 refine AtL.q Y (Quiet1.nilChk Y Y hc6) (pu hT 1 Y (AtL.e Y (EffX.store hT Y Y Y Y Y H) ?_))
 rintro _ _ ⟨h0u3, rfl, H⟩
 refine AtL.nil ?_
 exact AtE.then_n ((HK1 _ () _ H).pickP (ts := [0, 1]) (is := []) Y Y (by decide) Y)
theorem lift_nat_Bench_Gcd (b : (Option Addr)) (x0 : Sl) (y : Sl) (w : World) (m : Heap) (hr : Rel ⟨m, []⟩ w.heap) (S : Sl → Heap → Prop) (H : nat_Bench_Gcd b x0 y m S) :
 Calls Tryz.prog 110 #[Value.pointer b, Sl.toV x0, Sl.toV y] w (Post ⟨w, m⟩ Sl.toV S) := by
 refine Calls.lift (args := [Value.pointer b, Sl.toV x0, Sl.toV y]) Tryz.func110 Y Tryz.ntmps110 (Nat.le_of_ble_eq_true Y) hr (nat_Bench_Gcd b x0 y m S) H (fun H => ?_)
 refine AtC.pick (ts := [0, 1, 2]) Y ?_
 unfold nat_Bench_Gcd at H
 refine sR (pu hT 1 Y (ng (sR (pu hT 3 Y (AtL.e Y (cl (fun h => nat_common _ _ h _) H Y Tryz.call151 Y (fun w m hr hw => lift_nat_common _ _ w m hr _ hw)) ?_)))))
 rintro _ _ ⟨v, h0, rfl, rfl, H⟩
 refine AtL.e Y (cl (fun h => nat_Bench_fit _ _ h _) H Y Tryz.call150 Y (fun w m hr hw => lift_nat_Bench_fit _ _ w m hr _ hw)) ?_
 rintro _ _ ⟨v_1, h0u1, rfl, rfl, H⟩
 refine pu hT 1 Y (ng (AtC.ret ?_))
 exact r1 6 Y Y Y H
theorem lift_ratio_Right (x0 : Bool × Sl × Sl) (w : World) (m : Heap) (hr : Rel ⟨m, []⟩ w.heap) (S : Bool → Heap → Prop) (H : ratio_Right x0 m S) :
 Calls Tryz.prog 42 #[Value.agg (C_bool_sl_sl x0).toArray] w (Post ⟨w, m⟩ Value.bool S) := by
 refine Calls.lift (args := [Value.agg (C_bool_sl_sl x0).toArray]) Tryz.func42 Y Tryz.ntmps42 (Nat.le_of_ble_eq_true Y) hr (ratio_Right x0 m S) H (fun H => ?_)
 refine AtC.pick (ts := [0]) Y ?_
 unfold ratio_Right at H
 refine sR (AtL.e Y (EffX.boxP (cs := [_, _, _]) Y Y Y H) ?_)
 rintro _ _ ⟨b, _, rfl, rfl, _, H⟩
 replace H := H.self
 refine pu hT 1 Y (ng (AtC.seq (AtC.block ?_)))
 refine AtC.joinSeq (β := Unit) (fun (t0 : Bool) (bb : Unit) => [(3, Value.bool t0)]) (fun (t0 : Bool) (bb : Unit) => []) [1] [0] H Y Y (fun t0 bb h0u1 H => ?_) (fun J1 H HK1 => ?_)
 refine AtC.condB H Y (fun H => ?_) (fun H => ?_)
 refine sR (pu hT 1 Y (ng (AtC.ret (AtE.blk_r (AtE.then_r ?_)))))
 exact r1 2 Y Y Y H
 refine sR (pu hT 2 Y (AtL.q Y (lP hT 0 Y) (pu hT 3 Y (ng ?_))))
 refine AtC.condB H Y (fun H => ?_) (fun H => ?_)
 refine AtC.joinSeq (β := Unit) (fun (t0u1 : Bool) (bb_1 : Unit) => [(2, Value.bool t0u1)]) (fun (t0u1 : Bool) (bb_1 : Unit) => []) [] [] H Y Y (fun t0u1 bb_1 h0u5 H => ?_) (fun J2 H HK2 => ?_)
 refine AtC.ret (AtE.blk_r (AtE.then_r ?_))
 exact r1 2 Y Y Y H
 refine AtC.region (pu hT 2 Y (AtL.q Y (lP hT 0 Y) (pu hT 2 Y ?_)))
 refine AtL.splitB (t := 30) H Y (fun H => ?_) (fun H => ?_)
 refine ys Y (pu hT 1 Y (ys Y (AtL.q Y (lP hT 0 Y) (ys Y (pu hT 1 Y ?_)))))
 refine ys Y (pu hT 1 Y (pu hT 2 Y (AtL.nil ?_)))
 exact AtE.then_n ((HK2 _ () _ H).pickP (ts := [2]) (is := []) Y Y (by decide) Y)
 refine nf Y (nf Y (nf Y (nf Y (pu hT 2 Y (AtL.nil ?_)))))
 exact AtE.then_n ((HK2 _ () _ H).pickP (ts := [2]) (is := []) Y Y (by decide) Y)
 refine AtC.skip (AtE.blk_n (tg ?_))
 apply AtC.seqS [0, 5, 6, 7] [[], [], [], [], [], [0], [0, 5], [0, 5, 6], [0, 5, 6, 7]] [[], [], [1], [1, 2], [], [0, 4], [0, 1, 2, 3, 4, 5], [0, 1, 2, 3, 4, 5, 6], [0, 1, 2, 3, 4, 5, 6, 7]] hmix (by kernel_rfl) [(37, _), (38, _), (39, _), (40, _)] Y 4 Y
 refine Stg.go [1, 2, 3, 4] [0] Y Y (qp hT Y (qp hT Y (qq Y (lP hT 0 Y) Y (qq Y (lS hT 0 [_, _, _] Y Y Y Y Y Y Y Y) Y QAll.nil)))) ?_
 refine EAll.cons ?_ EAll.nil
 refine EOp.e Y Y Y (cl (fun h => ratio_free h _) H Y Tryz.call109 Y (fun w m hr hw => lift_ratio_free  w m hr _ hw)) ?_
 rintro _ _ ⟨v_3, h0u6, rfl, rfl, H⟩
 apply Stg.next [(36, _)] Y Y
 refine Stg.go [1, 2, 3, 4] [5] Y Y (qp hT Y (qp hT Y (qq Y (lP hT 0 Y) Y (qq Y (lS hT 0 [_, _, _] Y Y Y Y Y Y Y Y) Y QAll.nil)))) ?_
 refine EAll.cons ?_ EAll.nil
 refine EOp.e Y Y Y (cl (fun h => ratio_den _ h _) H Y Tryz.call111 Y (fun w m hr hw => lift_ratio_den _ w m hr _ hw)) ?_
 rintro _ _ ⟨v_4, h0u7, rfl, rfl, H⟩
 apply Stg.next [(41, _)] Y Y
 refine Stg.go [1, 2, 3] [6] Y Y (qp hT Y (qp hT Y (qq Y (lP hT 0 Y) Y QAll.nil))) ?_
 refine EAll.cons ?_ EAll.nil
 refine EOp.e Y Y Y (cl (fun h => nat_Bench_Gcd _ _ _ h _) H Y Tryz.call110 Y (fun w m hr hw => lift_nat_Bench_Gcd _ _ _ w m hr _ hw)) ?_
 rintro _ _ ⟨v_5, h0u8, rfl, rfl, H⟩
 apply Stg.next [(42, _)] Y Y
 refine Stg.go [] [7] Y Y QAll.nil ?_
 refine EAll.cons ?_ EAll.nil
 refine EOp.e Y Y Y (cl (fun h => ratio_isOne _ h _) H Y Tryz.call108 Y (fun w m hr hw => lift_ratio_isOne _ w m hr _ hw)) ?_
 rintro _ _ ⟨v_6, h0u9, rfl, rfl, H⟩
 apply Stg.next [(43, _), (2, _)] Y Y
 refine Stg.fin [8] Y Y (qp hT Y QAll.nil) (tg (AtC.ret ?_))
 exact r1 2 Y Y Y H
 refine AtC.region (pu hT 2 Y (AtL.q Y (lP hT 0 Y) (AtL.e Y (cl (fun h => nat_Right _ h _) H Y Tryz.call107 Y (fun w m hr hw => lift_nat_Right _ w m hr _ hw)) ?_)))
 rintro _ _ ⟨v, h0u2, rfl, rfl, H⟩
 refine pu hT 2 Y ?_
 refine AtL.splitB (t := 9) H Y (fun H => ?_) (fun H => ?_)
 refine nf Y (nf Y (nf Y (nf Y (pu hT 2 Y (nf Y ?_)))))
 refine nf Y (nf Y (pu hT 2 Y (AtL.nil ?_)))
 exact AtE.then_n ((HK1 _ () _ H).pickP (ts := [3, 1]) (is := [0]) Y Y (by decide) Y)
 refine ys Y (pu hT 1 Y (ys Y (AtL.q Y (lP hT 0 Y) (ys Y (AtL.e Y (cl (fun h => nat_Right _ h _) H Y Tryz.call107 Y (fun w m hr hw => lift_nat_Right _ w m hr _ hw)) ?_)))))
 rintro _ _ ⟨v_1, h0u3, rfl, rfl, H⟩
 refine ys Y (pu hT 1 Y (pu hT 2 Y ?_))
 refine AtL.splitB (t := 15) H Y (fun H => ?_) (fun H => ?_)
 refine nf Y (nf Y (nf Y (pu hT 2 Y (AtL.nil ?_))))
 exact AtE.then_n ((HK1 _ () _ H).pickP (ts := [3, 1]) (is := [0]) Y Y (by decide) Y)
 refine ys Y (pu hT 1 Y (ys Y (AtL.q Y (lP hT 0 Y) (ys Y (AtL.e Y (cl (fun h => ratio_isOne _ h _) H Y Tryz.call108 Y (fun w m hr hw => lift_ratio_isOne _ w m hr _ hw)) ?_)))))
 rintro _ _ ⟨v_2, h0u4, rfl, rfl, H⟩
 refine pu hT 2 Y (AtL.nil ?_)
 exact AtE.then_n ((HK1 _ () _ H).pickP (ts := [3, 1]) (is := [0]) Y Y (by decide) Y)
theorem lift_linear_Right (p : Bool × Sl × Sl × Sl) (w : World) (m : Heap) (hr : Rel ⟨m, []⟩ w.heap) (S : Bool → Heap → Prop) (H : linear_Right p m S) :
 Calls Tryz.prog 63 #[Value.agg (C_bool_sl_sl_sl p).toArray] w (Post ⟨w, m⟩ Value.bool S) := by
 refine Calls.lift (args := [Value.agg (C_bool_sl_sl_sl p).toArray]) Tryz.func63 Y Tryz.ntmps63 (Nat.le_of_ble_eq_true Y) hr (linear_Right p m S) H (fun H => ?_)
 refine AtC.pick (ts := [0]) Y ?_
 unfold linear_Right at H
 refine sR (AtL.e Y (EffX.boxP (cs := [_, _, _, _]) Y Y Y H) ?_)
 rintro _ _ ⟨b, _, rfl, rfl, _, H⟩
 replace H := H.self
 refine pu hT 1 Y (ng (sR (pu hT 1 Y (ng (AtC.seq ?_)))))
 refine sR (pu hT 1 Y (AtL.q Y (lP hT 0 Y) (pu hT 2 Y (ng (AtC.block ?_)))))
 refine AtC.loopM (fun (s0 : Int × Int) => [(3, Value.int .i64 s0.1), (9, Value.int .i64 s0.2)]) (fun (s0 : Int × Int) => []) [1, 7, 8] [3, 9, 1, 7, 8] [0] [0] H Y Y Y (by decide) Y (fun Kp1 s0 h0u1 H Q1 HK1 => ?_)
 refine sR (pu hT 1 Y (ng (AtC.seq ?_)))
 refine AtC.condB H Y (fun H => ?_) (fun H => ?_)
 refine AtC.skip (tg (AtC.seq (AtC.block (sR ?_))))
 obtain ⟨a_, hc1, hd1, H⟩ := H
 refine AtL.q Y (Quiet1.idxS hT Y Y Y Y Y hc1 hd1) ?_
 obtain ⟨v, hc2, H⟩ := H
 refine AtL.q Y (Quiet1.loadS hT Y Y Y Y hc2) (AtL.e Y (EffX.allocP (cs := [_, _, _, _]) hT Y Y H) ?_)
 rintro _ _ ⟨b_1, _, rfl, rfl, _, H⟩
 replace H := H.self
 refine AtL.e Y (EffX.storeSP (i := 0) (qv := [(_, [_, _, _, _]), (_, [_, _, _, _])]) hT Y Y Y Y Y Y Y Y Y Y) ?_
 rintro _ _ rfl
 refine ng (AtC.seq ?_)
 refine AtC.joinSeq (β := Unit) (fun (t0 : Bool) (bb : Unit) => [(28, Value.bool t0)]) (fun (t0 : Bool) (bb : Unit) => []) [1, 5, 7, 8, 9] [0, 1] H Y Y (fun t0 bb h0u3 H => ?_) (fun J4 H HK4 => ?_)
 refine AtC.condB H Y (fun H => ?_) (fun H => ?_)
 refine sR (pu hT 1 Y (ng (AtC.ret (AtE.then_r (AtE.blk_r ?_)))))
 refine AtE.then_r (AtE.then_r (AtE.blk_r (AtE.then_r ?_)))
 exact r1 2 Y Y Y H
 refine AtC.skip (tg (AtC.region (pu hT 1 Y (AtL.q Y (lP hT 0 Y) (pu hT 1 Y ?_)))))
 refine AtL.nil (AtE.blk_n (tg (AtC.region (pu hT 2 Y (AtL.nil ?_)))))
 exact AtE.then_n ((HK1 _ _ H).pickP (ts := [3, 9, 1, 7, 8]) (is := [1]) Y Y (by decide) Y)
 refine AtC.region (pu hT 1 Y (AtL.q Y (lP hT 0 Y) (pu hT 3 Y ?_)))
 refine AtL.splitB (t := 17) H Y (fun H => ?_) (fun H => ?_)
 refine nf Y (nf Y (nf Y (nf Y (pu hT 2 Y (nf Y ?_)))))
 refine nf Y (nf Y (nf Y (pu hT 1 Y (AtL.nil ?_))))
 exact AtE.then_n ((HK4 _ () _ H).pickP (ts := [28, 1, 5, 7, 8, 9]) (is := [0, 1]) Y Y (by decide) Y)
 refine ys Y (pu hT 1 Y (ys Y (AtL.q Y (lS hT 0 [_, _, _] Y Y Y Y Y Y Y Y) (ys Y (AtL.e Y (cl (fun h => ratio_Sign _ h _) H Y Tryz.call43 Y (fun w m hr hw => lift_ratio_Sign _ w m hr _ hw)) ?_)))))
 rintro _ _ ⟨v_1, h0u4, rfl, rfl, H⟩
 refine ys Y (pu hT 1 Y (pu hT 2 Y ?_))
 refine AtL.splitB (t := 23) H Y (fun H => ?_) (fun H => ?_)
 refine nf Y (nf Y (nf Y (nf Y (pu hT 1 Y (AtL.nil ?_)))))
 exact AtE.then_n ((HK4 _ () _ H).pickP (ts := [28, 1, 5, 7, 8, 9]) (is := [0, 1]) Y Y (by decide) Y)
 refine ys Y (pu hT 1 Y (ys Y (AtL.q Y (lS hT 0 [_, _, _] Y Y Y Y Y Y Y Y) (ys Y (AtL.e Y (cl (fun h => ratio_Right _ h _) H Y Tryz.call42 Y (fun w m hr hw => lift_ratio_Right _ w m hr _ hw)) ?_)))))
 rintro _ _ ⟨v_2, h0u5, rfl, rfl, H⟩
 refine ys Y (pu hT 1 Y (pu hT 1 Y (AtL.nil ?_)))
 exact AtE.then_n ((HK4 _ () _ H).pickP (ts := [28, 1, 5, 7, 8, 9]) (is := [0, 1]) Y Y (by decide) Y)
 refine AtC.exit (AtE.then_x (AtE.then_x (AtE.blk_hit (tg (sR ?_)))))
 refine pu hT 1 Y (AtL.q Y (lS hT 0 [_, _, _] Y Y Y Y Y Y Y Y) (AtL.e Y (cl (fun h => ratio_Right _ h _) H Y Tryz.call42 Y (fun w m hr hw => lift_ratio_Right _ w m hr _ hw)) ?_))
 rintro _ _ ⟨v_3, h0u6, rfl, rfl, H⟩
 refine pu hT 1 Y (ng (AtC.ret ?_))
 exact r1 2 Y Y Y H
theorem lift_cnf_rowed_c1 (q : Bool × Sl × Sl × Sl) (c0 : Addr) (w : World) (m : Heap) (hr : Rel ⟨m, []⟩ w.heap) (S : Bool → Heap → Prop) (H : cnf_rowed_c1 q c0 m S) :
 Calls Tryz.prog 145 #[Value.agg (C_bool_sl_sl_sl q).toArray, Value.pointer (some c0)] w (Post ⟨w, m⟩ Value.bool S) := by
 refine Calls.lift (args := [Value.agg (C_bool_sl_sl_sl q).toArray, Value.pointer (some c0)]) Tryz.func145 Y Tryz.ntmps145 (Nat.le_of_ble_eq_true Y) hr (cnf_rowed_c1 q c0 m S) H (fun H => ?_)
 refine AtC.pick (ts := [0, 1]) Y ?_
 unfold cnf_rowed_c1 at H
 refine sR (AtL.e Y (EffX.boxP (cs := [_, _, _, _]) Y Y Y H) ?_)
 rintro _ _ ⟨b, _, rfl, rfl, _, H⟩
 replace H := H.self
 refine pu hT 1 Y (ng ?_)
 refine AtC.joinSeq (β := Unit) (fun (t0 : Bool) (bb : Unit) => [(3, Value.bool t0)]) (fun (t0 : Bool) (bb : Unit) => []) [] [] H Y Y (fun t0 bb h0u1 H => ?_) (fun J1 H HK1 => ?_)
 refine AtC.ret ?_
 exact r1 3 Y Y Y H
 apply AtC.stages [1, 11] [[], [], [1], [1], [1], [1], [1], [1], [1], [1], [1], [1], [1, 11], [1, 11], [1, 11], [1, 11], [1, 11], [1, 11], [1, 11], [1, 11], [1, 11], [1, 11], [1, 11], [1, 11], [1, 11], [1, 11], [1, 11], [1, 11], [1, 11]] [[], [0], [0, 1], [0, 1, 2], [0, 1, 2, 3], [0, 1, 2, 3, 4], [0, 1, 2, 3, 4, 5], [0, 1, 2, 3, 4, 5, 6], [0, 1, 2, 3, 4, 5, 6, 7], [0, 1, 2, 3, 4, 5, 6, 7, 8], [0, 1, 2, 3, 4, 5, 6, 7, 8, 9], [0, 1, 2, 3, 4, 5, 6, 7, 8, 9, 10], [0, 1, 2, 3, 4, 5, 6, 7, 8, 9, 10, 11], [0, 1, 2, 3, 4, 5, 6, 7, 8, 9, 10, 11, 12], [0, 1, 2, 3, 4, 5, 6, 7, 8, 9, 10, 11, 12, 13], [0, 1, 2, 3, 4, 5, 6, 7, 8, 9, 10, 11, 12, 13, 14], [0, 1, 2, 3, 4, 5, 6, 7, 8, 9, 10, 11, 12, 13, 14, 15], [0, 1, 2, 3, 4, 5, 6, 7, 8, 9, 10, 11, 12, 13, 14], [0, 1, 2, 3, 4, 5, 6, 7, 8, 9, 10, 11, 12, 13, 14, 17], [0, 1, 2, 3, 4, 5, 6, 7, 8, 9, 10, 11, 12, 13, 14, 17, 18], [0, 1, 2, 3, 4, 5, 6, 7, 8, 9, 10, 11, 12, 13, 14, 17, 18, 19], [0, 1, 2, 3, 4, 5, 6, 7, 8, 9, 10, 11, 12, 13, 14, 15, 16, 17, 18, 19, 20], [0, 1, 2, 3, 4, 5, 6, 7, 8, 9, 10, 11, 12, 13, 14, 15, 16, 17, 18, 19, 20, 21], [0, 1, 2, 3, 4, 5, 6, 7, 8, 9, 10, 11, 12, 13, 14, 15, 16, 17, 18, 19, 20, 21, 22], [0, 1, 2, 3, 4, 5, 6, 7, 8, 9, 10, 11, 12, 13, 14], [0, 1, 2, 3, 4, 5, 6, 7, 8, 9, 10, 11, 12, 13, 14, 24], [0, 1, 2, 3, 4, 5, 6, 7, 8, 9, 10, 11, 12, 13, 14, 15, 16, 17, 18, 19, 20, 21, 22, 23, 24, 25], [0, 1, 2, 3, 4, 5, 6, 7, 8, 9, 10, 11, 12, 13, 14, 15, 16, 17, 18, 19, 20, 21, 22, 23, 24, 25, 26], [0, 1, 2, 3, 4, 5, 6, 7, 8, 9, 10, 11, 12, 13, 14, 15, 16, 17, 18, 19, 20, 21, 22, 23, 24, 25, 26, 27]] hmix (by kernel_rfl) [(4, _)] Y 2 Y
 refine Stg.go [0] [1] Y Y (qq Y (lS hT 0 [_, _, _, _] Y Y Y Y Y Y Y Y) Y QAll.nil) ?_
 refine EAll.cons ?_ EAll.nil
 refine EOp.e Y Y Y (cl (fun h => linear_Right _ h _) H Y Tryz.call63 Y (fun w m hr hw => lift_linear_Right _ w m hr _ hw)) ?_
 rintro _ _ ⟨v, h0u2, rfl, rfl, H⟩
 rcases iteB.cases H with ⟨hb1, H⟩ | ⟨hb1, H⟩
 rcases iteB.cases H with ⟨hb2, H⟩ | ⟨hb2, H⟩
 apply Stg.next [(5, _), (6, _), (7, _), (8, _), (9, _), (10, _), (11, _), (12, _), (13, _), (14, _)] Y Y
 refine Stg.known (t := 6) Y hb1 (Stg.known (t := 12) Y hb2 (Stg.go [2, 3, 4, 5, 6, 7, 8, 9, 10] [11] Y Y (QAll.cons (QOp.pk hT Y Y Y Y hb1 Y) (QAll.cons (QOp.yp hT Y Y Y Y Y Y Y) (QAll.cons (QOp.y Y Y Y Y (lP hT 0 Y) Y Y) (QAll.cons (QOp.yp hT Y Y Y Y Y Y Y) (QAll.cons (QOp.yp hT Y Y Y Y Y Y Y) (qp hT Y (QAll.cons (QOp.pk hT Y Y Y Y hb2 Y) (QAll.cons (QOp.yp hT Y Y Y Y Y Y Y) (QAll.cons (QOp.y Y Y Y Y (lS hT 0 [_, _, _] Y Y Y Y Y Y Y Y) Y Y) QAll.nil))))))))) ?_))
 refine EAll.cons ?_ EAll.nil
 refine EOp.y Y Y Y Y Y (cl (fun h => ratio_Sign _ h _) H Y Tryz.call43 Y (fun w m hr hw => lift_ratio_Sign _ w m hr _ hw)) ?_
 rintro _ _ ⟨v_1, h0u3, rfl, rfl, H⟩
 rcases iteB.cases H with ⟨hb3, H⟩ | ⟨hb3, H⟩
 obtain ⟨a_, hc4, hd4, H⟩ := H
 obtain ⟨v_2, hc5, H⟩ := H
 obtain ⟨v_3, hc6, H⟩ := H
 apply Stg.next [(15, _), (16, _), (17, _), (18, _), (19, _), (20, _), (21, _), (22, _), (23, _), (24, _), (25, _), (26, _), (27, _), (28, _), (29, _), (30, _), (31, _), (3, _)] Y Y
 refine Stg.known (t := 18) Y hb3 (Stg.fin [12, 13, 14, 15, 16, 17, 18, 19, 20, 21, 22, 23, 24, 25, 26, 27, 28] Y Y (QAll.cons (QOp.yp hT Y Y Y Y Y Y Y) (qp hT Y (QAll.cons (QOp.pk hT Y Y Y Y hb3 Y) (QAll.cons (QOp.yp hT Y Y Y Y Y Y Y) (QAll.cons (QOp.y Y Y Y Y (lP hT 0 Y) Y Y) (QAll.cons (QOp.yp hT Y Y Y Y Y Y Y) (QAll.cons (QOp.y Y Y Y Y (lP hT 0 Y) Y Y) (QAll.cons (QOp.yp hT Y Y Y Y Y Y Y) (QAll.cons (QOp.yp hT Y Y Y Y Y Y Y) (QAll.cons (QOp.y Y Y Y Y (Quiet1.idxS hT Y Y Y Y Y hc4 hd4) Y Y) (QAll.cons (QOp.yp hT Y Y Y Y Y Y Y) (QAll.cons (QOp.y Y Y Y Y (Quiet1.load hT Y Y Y hc5) Y Y) (QAll.cons (QOp.yp hT Y Y Y Y Y Y Y) (QAll.cons (QOp.y Y Y Y Y (Quiet1.load hT Y Y Y hc6) Y Y) (QAll.cons (QOp.yp hT Y Y Y Y Y Y Y) (qp hT Y (qp hT Y QAll.nil))))))))))))))))) ?_)
 exact AtE.then_n ((HK1 _ () _ H).pickP (ts := [3]) (is := []) Y Y (by decide) Y)
 apply Stg.next [(15, _), (16, _), (17, _), (18, _), (19, _), (20, _), (21, _), (22, _), (23, _), (24, _), (25, _), (26, _), (27, _), (28, _), (29, _), (30, _), (31, _), (3, _)] Y Y
 refine Stg.known (t := 18) Y hb3 (Stg.fin [12, 13, 14, 15, 16, 17, 18, 19, 20, 21, 22, 23, 24, 25, 26, 27, 28] Y Y (QAll.cons (QOp.yp hT Y Y Y Y Y Y Y) (qp hT Y (QAll.cons (QOp.pk hT Y Y Y Y hb3 Y) (qn Y Y Y Y (by decide) Y Y (qn Y Y Y Y (by decide) Y Y (qn Y Y Y Y (by decide) Y Y (qn Y Y Y Y (by decide) Y Y (qn Y Y Y Y (by decide) Y Y (qn Y Y Y Y (by decide) Y Y (qn Y Y Y Y (by decide) Y Y (qn Y Y Y Y (by decide) Y Y (qn Y Y Y Y (by decide) Y Y (qn Y Y Y Y (by decide) Y Y (qn Y Y Y Y (by decide) Y Y (qn Y Y Y Y (by decide) Y Y (qp hT Y (qp hT Y QAll.nil))))))))))))))))) ?_)
 exact AtE.then_n ((HK1 _ () _ H).pickP (ts := [3]) (is := []) Y Y (by decide) Y)
 apply Stg.next [(5, _), (6, _), (7, _), (8, _), (9, _), (10, _), (11, _), (12, _), (13, _), (14, _)] Y Y
 refine Stg.known (t := 6) Y hb1 (Stg.known (t := 12) Y hb2 (Stg.go [2, 3, 4, 5, 6, 7, 8, 9, 10] [11] Y Y (QAll.cons (QOp.pk hT Y Y Y Y hb1 Y) (QAll.cons (QOp.yp hT Y Y Y Y Y Y Y) (QAll.cons (QOp.y Y Y Y Y (lP hT 0 Y) Y Y) (QAll.cons (QOp.yp hT Y Y Y Y Y Y Y) (QAll.cons (QOp.yp hT Y Y Y Y Y Y Y) (qp hT Y (QAll.cons (QOp.pk hT Y Y Y Y hb2 Y) (qn Y Y Y Y (by decide) Y Y (qn Y Y Y Y (by decide) Y Y QAll.nil))))))))) ?_))
 refine EAll.cons ?_ EAll.nil
 refine EOp.no Y Y Y Y (by decide) Y ?_
 apply Stg.next [(15, _), (16, _), (17, _), (18, _), (19, _), (20, _), (21, _), (22, _), (23, _), (24, _), (25, _), (26, _), (27, _), (28, _), (29, _), (30, _), (31, _), (3, _)] Y Y
 refine Stg.fin [12, 13, 14, 15, 16, 17, 18, 19, 20, 21, 22, 23, 24, 25, 26, 27, 28] Y Y (qn Y Y Y Y (by decide) Y Y (qp hT Y (qp hT Y (qn Y Y Y Y (by decide) Y Y (qn Y Y Y Y (by decide) Y Y (qn Y Y Y Y (by decide) Y Y (qn Y Y Y Y (by decide) Y Y (qn Y Y Y Y (by decide) Y Y (qn Y Y Y Y (by decide) Y Y (qn Y Y Y Y (by decide) Y Y (qn Y Y Y Y (by decide) Y Y (qn Y Y Y Y (by decide) Y Y (qn Y Y Y Y (by decide) Y Y (qn Y Y Y Y (by decide) Y Y (qn Y Y Y Y (by decide) Y Y (qp hT Y (qp hT Y QAll.nil))))))))))))))))) ?_
 exact AtE.then_n ((HK1 _ () _ H).pickP (ts := [3]) (is := []) Y Y (by decide) Y)
 apply Stg.next [(5, _), (6, _), (7, _), (8, _), (9, _), (10, _), (11, _), (12, _), (13, _), (14, _)] Y Y
 refine Stg.known (t := 6) Y hb1 (Stg.go [2, 3, 4, 5, 6, 7, 8, 9, 10] [11] Y Y (QAll.cons (QOp.pk hT Y Y Y Y hb1 Y) (qn Y Y Y Y (by decide) Y Y (qn Y Y Y Y (by decide) Y Y (qn Y Y Y Y (by decide) Y Y (qn Y Y Y Y (by decide) Y Y (qp hT Y (qp hT Y (qn Y Y Y Y (by decide) Y Y (qn Y Y Y Y (by decide) Y Y QAll.nil))))))))) ?_)
 refine EAll.cons ?_ EAll.nil
 refine EOp.no Y Y Y Y (by decide) Y ?_
 apply Stg.next [(15, _), (16, _), (17, _), (18, _), (19, _), (20, _), (21, _), (22, _), (23, _), (24, _), (25, _), (26, _), (27, _), (28, _), (29, _), (30, _), (31, _), (3, _)] Y Y
 refine Stg.fin [12, 13, 14, 15, 16, 17, 18, 19, 20, 21, 22, 23, 24, 25, 26, 27, 28] Y Y (qn Y Y Y Y (by decide) Y Y (qp hT Y (qp hT Y (qn Y Y Y Y (by decide) Y Y (qn Y Y Y Y (by decide) Y Y (qn Y Y Y Y (by decide) Y Y (qn Y Y Y Y (by decide) Y Y (qn Y Y Y Y (by decide) Y Y (qn Y Y Y Y (by decide) Y Y (qn Y Y Y Y (by decide) Y Y (qn Y Y Y Y (by decide) Y Y (qn Y Y Y Y (by decide) Y Y (qn Y Y Y Y (by decide) Y Y (qn Y Y Y Y (by decide) Y Y (qn Y Y Y Y (by decide) Y Y (qp hT Y (qp hT Y QAll.nil))))))))))))))))) ?_
 exact AtE.then_n ((HK1 _ () _ H).pickP (ts := [3]) (is := []) Y Y (by decide) Y)
theorem lift_cnf_Right_c3 (q : Bool × Sl × Sl × Sl) (c0 : Addr) (w : World) (m : Heap) (hr : Rel ⟨m, []⟩ w.heap) (S : Bool → Heap → Prop) (H : cnf_Right_c3 q c0 m S) :
 Calls Tryz.prog 104 #[Value.agg (C_bool_sl_sl_sl q).toArray, Value.pointer (some c0)] w (Post ⟨w, m⟩ Value.bool S) := by
 refine Calls.lift (args := [Value.agg (C_bool_sl_sl_sl q).toArray, Value.pointer (some c0)]) Tryz.func104 Y Tryz.ntmps104 (Nat.le_of_ble_eq_true Y) hr (cnf_Right_c3 q c0 m S) H (fun H => ?_)
 refine AtC.pick (ts := [0, 1]) Y ?_
 unfold cnf_Right_c3 at H
 refine sR (AtL.e Y (EffX.boxP (cs := [_, _, _, _]) Y Y Y H) ?_)
 rintro _ _ ⟨b, _, rfl, rfl, _, H⟩
 replace H := H.self
 refine pu hT 1 Y (ng (sR ?_))
 obtain ⟨v, hc0, H⟩ := H
 refine AtL.q Y (Quiet1.load hT Y Y Y hc0) (AtL.q Y (lS hT 0 [_, _, _, _] Y Y Y Y Y Y Y Y) ?_)
 obtain ⟨dc1u0, he1, H⟩ := H
 refine AtL.e Y (EffX.callFd (bs := []) (cs := [_]) (f := 145) (sh := fun h => cnf_rowed_c1 _ _ h _) (H0 := H) Y Y he1 Tryz.call145 Y (hl := fun w m hr hw => lift_cnf_rowed_c1 _ _ w m hr _ hw)) ?_
 rintro _ _ ⟨v_1, h0u1, rfl, rfl, H⟩
 refine pu hT 2 Y (ng (AtC.ret ?_))
 exact r1 3 Y Y Y H
theorem lift_slices_IndexFunc_api_Poly_api_Poly__cnf_Right_c3 (s0 : Sl) (f_c : Addr) (w : World) (m : Heap) (hr : Rel ⟨m, []⟩ w.heap) (S : Int → Heap → Prop) (H : slices_IndexFunc_api_Poly_api_Poly__cnf_Right_c3 s0 f_c m S) :
 Calls Tryz.prog 147 #[Sl.toV s0, Value.func (.func 104) #[] #[Value.pointer (some f_c)]] w (Post ⟨w, m⟩ (Value.int .i64) S) := by
 refine Calls.lift (args := [Sl.toV s0, Value.func (.func 104) #[] #[Value.pointer (some f_c)]]) Tryz.func147 Y Tryz.ntmps147 (Nat.le_of_ble_eq_true Y) hr (slices_IndexFunc_api_Poly_api_Poly__cnf_Right_c3 s0 f_c m S) H (fun H => ?_)
 refine AtC.pick (ts := [0, 1]) Y ?_
 unfold slices_IndexFunc_api_Poly_api_Poly__cnf_Right_c3 at H
 refine sR (pu hT 1 Y (ng (AtC.seq (sR (pu hT 3 Y ?_)))))
 refine ng (AtC.block ?_)
 refine AtC.loopM (fun (s0u1 : Int) => [(8, Value.int .i64 s0u1)]) (fun (s0u1 : Int) => []) [0, 1, 7] [8, 0, 1, 7] [] [] H Y Y Y (by decide) Y (fun Kp1 s0u1 h0 H Q1 HK1 => ?_)
 refine sR (pu hT 1 Y (ng (AtC.seq ?_)))
 refine AtC.condB H Y (fun H => ?_) (fun H => ?_)
 refine AtC.skip (tg (AtC.seq (AtC.block (sR (pu hT 2 Y ?_)))))
 refine ng (sR (pu hT 3 Y ?_))
 obtain ⟨a_, hc1, hd1, H⟩ := H
 refine AtL.q Y (Quiet1.idxS hT Y Y Y Y Y hc1 hd1) ?_
 obtain ⟨v, hc2, H⟩ := H
 refine AtL.q Y (Quiet1.loadS hT Y Y Y Y hc2) (AtL.e Y (EffX.callF (bs := []) (cs := [_]) (f := 104) (sh := fun h => cnf_Right_c3 _ _ h _) (H0 := H) Y Y Tryz.call104 Y (hl := fun w m hr hw => lift_cnf_Right_c3 _ _ w m hr _ hw)) ?_)
 rintro _ _ ⟨v_1, h0u1, rfl, rfl, H⟩
 refine ng ?_
 refine AtC.condB H Y (fun H => ?_) (fun H => ?_)
 refine sR (pu hT 2 Y (ng (AtC.ret (AtE.blk_r (AtE.then_r ?_)))))
 refine AtE.then_r (AtE.blk_r (AtE.then_r ?_))
 exact r1 4 Y Y Y H
 refine AtC.skip (AtE.blk_n (tg (AtC.region (pu hT 2 Y (AtL.nil ?_)))))
 exact AtE.then_n ((HK1 _ _ H).pickP (ts := [8, 0, 1, 7]) (is := []) Y Y (by decide) Y)
 refine AtC.exit (AtE.then_x (AtE.then_x (AtE.blk_hit (tg (sR ?_)))))
 refine pu hT 1 Y (ng (AtC.ret ?_))
 exact r1 4 Y Y Y H
theorem lift_slices_ContainsFunc_api_Poly_api_Poly__cnf_Right_c3 (s0 : Sl) (f_c : Addr) (w : World) (m : Heap) (hr : Rel ⟨m, []⟩ w.heap) (S : Bool → Heap → Prop) (H : slices_ContainsFunc_api_Poly_api_Poly__cnf_Right_c3 s0 f_c m S) :
 Calls Tryz.prog 103 #[Sl.toV s0, Value.func (.func 104) #[] #[Value.pointer (some f_c)]] w (Post ⟨w, m⟩ Value.bool S) := by
 refine Calls.lift (args := [Sl.toV s0, Value.func (.func 104) #[] #[Value.pointer (some f_c)]]) Tryz.func103 Y Tryz.ntmps103 (Nat.le_of_ble_eq_true Y) hr (slices_ContainsFunc_api_Poly_api_Poly__cnf_Right_c3 s0 f_c m S) H (fun H => ?_)
 refine AtC.pick (ts := [0, 1]) Y ?_
 unfold slices_ContainsFunc_api_Poly_api_Poly__cnf_Right_c3 at H
 refine sR (pu hT 1 Y (ng (sR (pu hT 2 Y (AtL.e Y (cl (fun h => slices_IndexFunc_api_Poly_api_Poly__cnf_Right_c3 _ _ h _) H Y Tryz.call147 Y (fun w m hr hw => lift_slices_IndexFunc_api_Poly_api_Poly__cnf_Right_c3 _ _ w m hr _ hw)) ?_)))))
 rintro _ _ ⟨v, h0, rfl, rfl, H⟩
 refine pu hT 2 Y (ng (AtC.ret ?_))
 exact r1 4 Y Y Y H
theorem lift_nat_Bench_Mul (b : (Option Addr)) (x0 : Sl) (y : Sl) (w : World) (m : Heap) (hr : Rel ⟨m, []⟩ w.heap) (S : Sl → Heap → Prop) (H : nat_Bench_Mul b x0 y m S) :
 Calls Tryz.prog 136 #[Value.pointer b, Sl.toV x0, Sl.toV y] w (Post ⟨w, m⟩ Sl.toV S) := by
 refine Calls.lift (args := [Value.pointer b, Sl.toV x0, Sl.toV y]) Tryz.func136 Y Tryz.ntmps136 (Nat.le_of_ble_eq_true Y) hr (nat_Bench_Mul b x0 y m S) H (fun H => ?_)
 refine AtC.pick (ts := [0, 1, 2]) Y ?_
 unfold nat_Bench_Mul at H
 refine sR (pu hT 1 Y (ng (sR (pu hT 2 Y (AtL.e Y (cl (fun h => nat_trim _ h _) H Y Tryz.call116 Y (fun w m hr hw => lift_nat_trim _ w m hr _ hw)) ?_)))))
 rintro _ _ ⟨v, h0, rfl, rfl, H⟩
 refine pu hT 1 Y (AtL.e Y (cl (fun h => nat_trim _ h _) H Y Tryz.call116 Y (fun w m hr hw => lift_nat_trim _ w m hr _ hw)) ?_)
 rintro _ _ ⟨v_1, h0u1, rfl, rfl, H⟩
 refine AtL.e Y (cl (fun h => nat_times _ _ h _) H Y Tryz.call159 Y (fun w m hr hw => lift_nat_times _ _ w m hr _ hw)) ?_
 rintro _ _ ⟨v_2, h0u2, rfl, rfl, H⟩
 refine AtL.e Y (cl (fun h => nat_Bench_fit _ _ h _) H Y Tryz.call150 Y (fun w m hr hw => lift_nat_Bench_fit _ _ w m hr _ hw)) ?_
 rintro _ _ ⟨v_3, h0u3, rfl, rfl, H⟩
 refine pu hT 1 Y (ng (AtC.ret ?_))
 exact r1 6 Y Y Y H
theorem lift_ratio_over (x0 : Bool × Sl) (n : Sl) (w : World) (m : Heap) (hr : Rel ⟨m, []⟩ w.heap) (S : (Bool × Sl) → Heap → Prop) (H : ratio_over x0 n m S) :
 Calls Tryz.prog 166 #[Value.agg (C_bool_sl x0).toArray, Sl.toV n] w (Post ⟨w, m⟩ (fun r => Value.agg (C_bool_sl r).toArray) S) := by
 refine Calls.lift (args := [Value.agg (C_bool_sl x0).toArray, Sl.toV n]) Tryz.func166 Y Tryz.ntmps166 (Nat.le_of_ble_eq_true Y) hr (ratio_over x0 n m S) H (fun H => ?_)
 refine AtC.pick (ts := [0, 1]) Y ?_
 unfold ratio_over at H
 refine sR (AtL.e Y (EffX.boxP (cs := [_, _]) Y Y Y H) ?_)
 rintro _ _ ⟨b, _, rfl, rfl, _, H⟩
 refine AtL.e Y (EffX.allocP (cs := [_, _]) hT Y Y H) ?_
 rintro _ _ ⟨b_1, _, rfl, rfl, _, H⟩
 refine AtL.nil ?_
 replace H := H.self
 refine tg ?_
 apply AtC.seqS [2, 6, 8] [[], [], [], [], [], [], [2], [2, 6], [2, 6]] [[], [0], [], [], [3], [], [2, 3, 4, 5], [0, 1, 2, 3, 4, 5, 6], [0, 1, 2, 3, 4, 5, 6, 7]] hmix (by kernel_rfl) [(5, _), (6, _), (8, _), (9, _), (10, _)] Y 3 Y
 refine Stg.go [0, 1, 3, 4, 5] [2] Y Y (qp hT Y (qq Y (lP hT 1 Y) Y (qp hT Y (qq Y (lP hT 1 Y) Y (qp hT Y QAll.nil))))) ?_
 refine EAll.cons ?_ EAll.nil
 refine EOp.e Y Y Y (cl (fun h => ratio_free h _) H Y Tryz.call109 Y (fun w m hr hw => lift_ratio_free  w m hr _ hw)) ?_
 rintro _ _ ⟨v, h0u1, rfl, rfl, H⟩
 apply Stg.next [(7, _)] Y Y
 refine Stg.go [0, 1, 3, 4, 5] [6] Y Y (qp hT Y (qq Y (lP hT 1 Y) Y (qp hT Y (qq Y (lP hT 1 Y) Y (qp hT Y QAll.nil))))) ?_
 refine EAll.cons ?_ EAll.nil
 refine EOp.e Y Y Y (cl (fun h => nat_Bench_Mul _ _ _ h _) H Y Tryz.call136 Y (fun w m hr hw => lift_nat_Bench_Mul _ _ _ w m hr _ hw)) ?_
 rintro _ _ ⟨v_1, h0u2, rfl, rfl, H⟩
 apply Stg.next [(11, _), (12, _)] Y Y
 refine Stg.go [0, 1, 7] [8] Y Y (qp hT Y (qq Y (lP hT 1 Y) Y (qq Y (Quiet1.build (cs := [_, _]) hT Y Y Y Y Y Y) Y QAll.nil))) ?_
 refine EAll.cons ?_ EAll.nil
 refine EOp.e Y Y Y (EffX.storeSP (i := 0) (qv := [(_, [_, _]), (_, [_, _])]) hT Y Y Y Y Y Y Y Y Y Y) ?_
 rintro _ _ rfl
 apply Stg.next [] Y Y
 refine Stg.fin [] Y Y QAll.nil (tg (AtC.ret ?_))
 exact AtE.retN (rs := [.cell 4 36]) Y (ResAll.cons (ResAt.cellSP (i := 0) (l := [_, _]) hT Y Y Y Y Y Y Y) ResAll.nil) Y H
theorem lift_ratio_cross (x0 : Bool × Sl × Sl) (y : Bool × Sl × Sl) (w : World) (m : Heap) (hr : Rel ⟨m, []⟩ w.heap) (S : ((Bool × Sl) × (Bool × Sl)) → Heap → Prop) (H : ratio_cross x0 y m S) :
 Calls Tryz.prog 152 #[Value.agg (C_bool_sl_sl x0).toArray, Value.agg (C_bool_sl_sl y).toArray] w (Post ⟨w, m⟩ (fun r => Value.tuple #[(fun r => Value.agg (C_bool_sl r).toArray) r.1, (fun r => Value.agg (C_bool_sl r).toArray) r.2]) S) := by
 refine Calls.lift (args := [Value.agg (C_bool_sl_sl x0).toArray, Value.agg (C_bool_sl_sl y).toArray]) Tryz.func152 Y Tryz.ntmps152 (Nat.le_of_ble_eq_true Y) hr (ratio_cross x0 y m S) H (fun H => ?_)
 refine AtC.pick (ts := [0, 1]) Y ?_
 unfold ratio_cross at H
 refine sR (AtL.e Y (EffX.boxP (cs := [_, _, _]) Y Y Y H) ?_)
 rintro _ _ ⟨b, _, rfl, rfl, _, H⟩
 refine AtL.e Y (EffX.boxP (cs := [_, _, _]) Y Y Y H) ?_
 rintro _ _ ⟨b_1, _, rfl, rfl, _, H⟩
 refine AtL.e Y (EffX.allocP (cs := [_, _]) hT Y Y H) ?_
 rintro _ _ ⟨b_2, _, rfl, rfl, _, H⟩
 refine AtL.e Y (EffX.allocP (cs := [_, _]) hT Y Y H) ?_
 rintro _ _ ⟨b_3, _, rfl, rfl, _, H⟩
 refine AtL.nil ?_
 replace H := H.self
 refine tg ?_
 apply AtC.seqS [3, 4, 8, 9, 10, 11] [[], [], [], [], [3], [], [], [], [3, 4], [3, 4, 8], [3, 4, 8, 9], [3, 4, 8, 9, 10]] [[], [0], [], [2], [0, 1, 2, 3], [], [5], [], [0, 1, 2, 3, 4, 7], [0, 1, 2, 3, 4, 5, 6, 7, 8], [0, 1, 2, 3, 4, 5, 6, 7, 8, 9], [0, 1, 2, 3, 4, 5, 6, 7, 8, 9, 10]] hmix (by kernel_rfl) [(6, _), (7, _), (8, _), (11, _), (12, _), (13, _)] Y 6 Y
 refine Stg.go [0, 1, 2, 5, 6, 7] [3] Y Y (qp hT Y (qq Y (lS hT 3 [_, _] Y Y Y Y Y Y Y Y) Y (qq Y (lS hT 2 [_, _, _] Y Y Y Y Y Y Y Y) Y (qp hT Y (qq Y (lS hT 2 [_, _] Y Y Y Y Y Y Y Y) Y (qq Y (lS hT 3 [_, _, _] Y Y Y Y Y Y Y Y) Y QAll.nil)))))) ?_
 refine EAll.cons ?_ EAll.nil
 refine EOp.e Y Y Y (cl (fun h => ratio_den _ h _) H Y Tryz.call111 Y (fun w m hr hw => lift_ratio_den _ w m hr _ hw)) ?_
 rintro _ _ ⟨v, h0u1, rfl, rfl, H⟩
 apply Stg.next [(9, _)] Y Y
 refine Stg.go [0, 1, 5, 6, 7] [4] Y Y (qp hT Y (qq Y (lS hT 3 [_, _] Y Y Y Y Y Y Y Y) Y (qp hT Y (qq Y (lS hT 2 [_, _] Y Y Y Y Y Y Y Y) Y (qq Y (lS hT 3 [_, _, _] Y Y Y Y Y Y Y Y) Y QAll.nil))))) ?_
 refine EAll.cons ?_ EAll.nil
 refine EOp.e Y Y Y (cl (fun h => ratio_over _ _ h _) H Y Tryz.call166 Y (fun w m hr hw => lift_ratio_over _ _ w m hr _ hw)) ?_
 rintro _ _ ⟨v_1, h0u2, rfl, rfl, H⟩
 apply Stg.next [(10, _)] Y Y
 refine Stg.go [5, 6, 7] [8] Y Y (qp hT Y (qq Y (lS hT 2 [_, _] Y Y Y Y Y Y Y Y) Y (qq Y (lS hT 3 [_, _, _] Y Y Y Y Y Y Y Y) Y QAll.nil))) ?_
 refine EAll.cons ?_ EAll.nil
 refine EOp.e Y Y Y (cl (fun h => ratio_den _ h _) H Y Tryz.call111 Y (fun w m hr hw => lift_ratio_den _ w m hr _ hw)) ?_
 rintro _ _ ⟨v_2, h0u3, rfl, rfl, H⟩
 apply Stg.next [(14, _)] Y Y
 refine Stg.go [5, 6] [9] Y Y (qp hT Y (qq Y (lS hT 2 [_, _] Y Y Y Y Y Y Y Y) Y QAll.nil)) ?_
 refine EAll.cons ?_ EAll.nil
 refine EOp.e Y Y Y (cl (fun h => ratio_over _ _ h _) H Y Tryz.call166 Y (fun w m hr hw => lift_ratio_over _ _ w m hr _ hw)) ?_
 rintro _ _ ⟨v_3, h0u4, rfl, rfl, H⟩
 apply Stg.next [(15, _)] Y Y
 refine Stg.go [] [10] Y Y QAll.nil ?_
 refine EAll.cons ?_ EAll.nil
 refine EOp.e Y Y Y (EffX.storeSP (i := 1) (qv := [(_, [_, _]), (_, [_, _]), (_, [_, _, _]), (_, [_, _, _])]) hT Y Y Y Y Y Y Y Y Y Y) ?_
 rintro _ _ rfl
 apply Stg.next [] Y Y
 refine Stg.go [] [11] Y Y QAll.nil ?_
 refine EAll.cons ?_ EAll.nil
 refine EOp.e Y Y Y (EffX.storeSP (i := 0) (qv := [(_, [_, _]), (_, [_, _]), (_, [_, _, _]), (_, [_, _, _])]) hT Y Y Y Y Y Y Y Y Y Y) ?_
 rintro _ _ rfl
 apply Stg.next [] Y Y
 refine Stg.fin [] Y Y QAll.nil (tg (AtC.ret ?_))
 exact AtE.retN (rs := [.cell 4 36, .cell 5 36]) Y (ResAll.cons (ResAt.cellSP (i := 1) (l := [_, _]) hT Y Y Y Y Y Y Y) (ResAll.cons (ResAt.cellSP (i := 0) (l := [_, _]) hT Y Y Y Y Y Y Y) ResAll.nil)) Y H
theorem lift_nat_plus (x0 : Sl) (y : Sl) (w : World) (m : Heap) (hr : Rel ⟨m, []⟩ w.heap) (S : Sl → Heap → Prop) (H : nat_plus x0 y m S) :
 Calls Tryz.prog 168 #[Sl.toV x0, Sl.toV y] w (Post ⟨w, m⟩ Sl.toV S) := by
 refine Calls.lift (args := [Sl.toV x0, Sl.toV y]) Tryz.func168 Y Tryz.ntmps168 (Nat.le_of_ble_eq_true Y) hr (nat_plus x0 y m S) H (fun H => ?_)
 refine AtC.pick (ts := [0, 1]) Y ?_
 unfold nat_plus at H
 refine sR (pu hT 1 Y (ng (sR (pu hT 1 Y (ng ?_)))))
 refine AtC.seq (sR (pu hT 6 Y (ng (AtC.block ?_))))
 refine AtC.loopM (fun (s0 : Sl × Int × Int) => [(4, Sl.toV s0.1), (5, Value.int .u64 s0.2.1), (14, Value.int .i64 s0.2.2)]) (fun (s0 : Sl × Int × Int) => []) [0, 1, 13] [4, 5, 14, 0, 1, 13] [] [] H Y Y Y (by decide) Y (fun Kp1 s0 h0 H Q1 HK1 => ?_)
 refine sR (pu hT 1 Y (ng (AtC.seq ?_)))
 refine AtC.condB H Y (fun H => ?_) (fun H => ?_)
 refine AtC.skip (tg (AtC.seq (AtC.block (sR (pu hT 2 Y ?_)))))
 refine ng (AtC.seq (sR (pu hT 2 Y (AtL.q Y (Quiet1.buildA (cs := [_, _]) hT Y Y Y Y Y Y) (pu hT 1 Y ?_)))))
 refine ng (AtC.block ?_)
 refine AtC.loopM (fun (s0u1 : Int × Int) => [(5, Value.int .u64 s0u1.1), (20, Value.int .i64 s0u1.2)]) (fun (s0u1 : Int × Int) => []) [0, 1, 4, 6, 13, 14, 19] [5, 20, 0, 1, 4, 6, 13, 14, 19] [] [] H Y Y Y (by decide) Y (fun Kp2 s0u1 h0u1 H Q2 HK2 => ?_)
 refine sR (pu hT 1 Y (ng (AtC.seq ?_)))
 refine AtC.condB H Y (fun H => ?_) (fun H => ?_)
 refine AtC.skip (tg ?_)
 refine AtC.joinSeq (β := Unit) (fun (t0 : Int) (bb : Unit) => [(5, Value.int .u64 t0)]) (fun (t0 : Int) (bb : Unit) => []) [0, 1, 4, 6, 13, 14, 19, 20] [] H Y Y (fun t0 bb h0u2 H => ?_) (fun J3 H HK3 => ?_)
 refine AtC.region (pu hT 2 Y (AtL.nil ?_))
 exact AtE.then_n ((HK2 _ _ H).pickP (ts := [5, 20, 0, 1, 4, 6, 13, 14, 19]) (is := []) Y Y (by decide) Y)
 refine AtC.block (sR ?_)
 obtain ⟨hd3, v, hc3, H⟩ := H
 refine AtL.q Y (Quiet1.idxV hT Y Y Y Y Y Y hd3 hc3) (pu hT 1 Y (ng (sR (pu hT 4 Y (ng ?_)))))
 refine AtC.condB H Y (fun H => ?_) (fun H => ?_)
 refine AtC.region (pu hT 3 Y ?_)
 obtain ⟨a_, hc4, hd4, H⟩ := H
 refine AtL.q Y (Quiet1.idxS hT Y Y Y Y Y hc4 hd4) ?_
 obtain ⟨v_1, hc5, H⟩ := H
 refine AtL.q Y (Quiet1.load hT Y Y Y hc5) (pu hT 3 Y ?_)
 replace H := H _ rfl
 refine AtL.nil (AtE.blk_n ?_)
 exact AtE.then_n ((HK3 _ () _ H).pickP (ts := [5, 0, 1, 4, 6, 13, 14, 19, 20]) (is := []) Y Y (by decide) Y)
 refine AtC.skip (AtE.blk_n ?_)
 exact AtE.then_n ((HK3 _ () _ H).pickP (ts := [5, 0, 1, 4, 6, 13, 14, 19, 20]) (is := []) Y Y (by decide) Y)
 refine AtC.exit (AtE.then_x (AtE.then_x (AtE.blk_hit (tg (sR ?_)))))
 refine pu hT 3 Y ?_
 refine AtLX.bs (hT := hT) (cs := [_]) H Y Y Y Y Y Y Y Y Y (fun a_1 h0u3 H => ?_)
 refine AtL.e Y (EffX.appendS (s := _) (u := _) hT Y Y Y Y Y Y Y Y Y Y (by decide) H) ?_
 rintro _ _ ⟨v_3, h0u4, rfl, rfl, H⟩
 refine pu hT 1 Y (ng (AtC.region (pu hT 3 Y ?_)))
 replace H := H _ rfl
 refine AtL.nil (AtE.blk_n (tg (AtC.region (pu hT 2 Y (AtL.nil ?_)))))
 exact AtE.then_n ((HK1 _ _ H).pickP (ts := [4, 5, 14, 0, 1, 13]) (is := []) Y Y (by decide) Y)
 refine AtC.exit (AtE.then_x (AtE.then_x (AtE.blk_hit (tg (sR ?_)))))
 refine pu hT 3 Y ?_
 refine AtLX.bs (hT := hT) (cs := [_]) H Y Y Y Y Y Y Y Y Y (fun a_2 h0u5 H => ?_)
 refine AtL.e Y (EffX.appendS (s := _) (u := _) hT Y Y Y Y Y Y Y Y Y Y (by decide) H) ?_
 rintro _ _ ⟨v_5, h0u6, rfl, rfl, H⟩
 refine pu hT 1 Y (ng (AtC.ret ?_))
 exact r1 4 Y Y Y H
theorem lift_nat_Bench_Add (b : (Option Addr)) (x0 : Sl) (y : Sl) (w : World) (m : Heap) (hr : Rel ⟨m, []⟩ w.heap) (S : Sl → Heap → Prop) (H : nat_Bench_Add b x0 y m S) :
 Calls Tryz.prog 160 #[Value.pointer b, Sl.toV x0, Sl.toV y] w (Post ⟨w, m⟩ Sl.toV S) := by
 refine Calls.lift (args := [Value.pointer b, Sl.toV x0, Sl.toV y]) Tryz.func160 Y Tryz.ntmps160 (Nat.le_of_ble_eq_true Y) hr (nat_Bench_Add b x0 y m S) H (fun H => ?_)
 refine AtC.pick (ts := [0, 1, 2]) Y ?_
 unfold nat_Bench_Add at H
 refine sR (pu hT 1 Y (ng (sR (pu hT 3 Y (AtL.e Y (cl (fun h => nat_plus _ _ h _) H Y Tryz.call168 Y (fun w m hr hw => lift_nat_plus _ _ w m hr _ hw)) ?_)))))
 rintro _ _ ⟨v, h0, rfl, rfl, H⟩
 refine AtL.e Y (cl (fun h => nat_Bench_fit _ _ h _) H Y Tryz.call150 Y (fun w m hr hw => lift_nat_Bench_fit _ _ w m hr _ hw)) ?_
 rintro _ _ ⟨v_1, h0u1, rfl, rfl, H⟩
 refine pu hT 1 Y (ng (AtC.ret ?_))
 exact r1 6 Y Y Y H
theorem lift_nat_Bench_Sub (b : (Option Addr)) (x0 : Sl) (y : Sl) (w : World) (m : Heap) (hr : Rel ⟨m, []⟩ w.heap) (S : Sl → Heap → Prop) (H : nat_Bench_Sub b x0 y m S) :
 Calls Tryz.prog 167 #[Value.pointer b, Sl.toV x0, Sl.toV y] w (Post ⟨w, m⟩ Sl.toV S) := by
 refine Calls.lift (args := [Value.pointer b, Sl.toV x0, Sl.toV y]) Tryz.func167 Y Tryz.ntmps167 (Nat.le_of_ble_eq_true Y) hr (nat_Bench_Sub b x0 y m S) H (fun H => ?_)
 refine AtC.pick (ts := [0, 1, 2]) Y ?_
 unfold nat_Bench_Sub at H
 refine sR (pu hT 1 Y (ng (AtC.seq (sR (pu hT 2 Y ?_)))))
 refine AtL.e Y (cl (fun h => nat_Cmp _ _ h _) H Y Tryz.call163 Y (fun w m hr hw => lift_nat_Cmp _ _ w m hr _ hw)) ?_
 rintro _ _ ⟨v, h0, rfl, rfl, H⟩
 refine pu hT 1 Y (ng ?_)
 refine AtC.condB H Y (fun H => ?_) (fun H => ?_)
 refine sR (pu hT 1 Y (ng (AtC.ret (AtE.then_r ?_))))
 exact r1 6 Y Y Y H
 refine AtC.skip (tg (sR (pu hT 3 Y (AtL.e Y (cl (fun h => nat_trim _ h _) H Y Tryz.call116 Y (fun w m hr hw => lift_nat_trim _ w m hr _ hw)) ?_))))
 rintro _ _ ⟨v_1, h0u1, rfl, rfl, H⟩
 refine AtL.e Y (cl (fun h => nat_minus _ _ h _) H Y Tryz.call164 Y (fun w m hr hw => lift_nat_minus _ _ w m hr _ hw)) ?_
 rintro _ _ ⟨v_2, h0u2, rfl, rfl, H⟩
 refine AtL.e Y (cl (fun h => nat_Bench_fit _ _ h _) H Y Tryz.call150 Y (fun w m hr hw => lift_nat_Bench_fit _ _ w m hr _ hw)) ?_
 rintro _ _ ⟨v_3, h0u3, rfl, rfl, H⟩
 refine pu hT 1 Y (ng (AtC.ret ?_))
 exact r1 6 Y Y Y H
theorem lift_ratio_sum (x0 : Bool × Sl) (y : Bool × Sl) (w : World) (m : Heap) (hr : Rel ⟨m, []⟩ w.heap) (S : (Bool × Sl) → Heap → Prop) (H : ratio_sum x0 y m S) :
 Calls Tryz.prog 153 #[Value.agg (C_bool_sl x0).toArray, Value.agg (C_bool_sl y).toArray] w (Post ⟨w, m⟩ (fun r => Value.agg (C_bool_sl r).toArray) S) := by
 refine Calls.lift (args := [Value.agg (C_bool_sl x0).toArray, Value.agg (C_bool_sl y).toArray]) Tryz.func153 Y Tryz.ntmps153 (Nat.le_of_ble_eq_true Y) hr (ratio_sum x0 y m S) H (fun H => ?_)
 refine AtC.pick (ts := [0, 1]) Y ?_
 unfold ratio_sum at H
 refine sR (AtL.e Y (EffX.boxP (cs := [_, _]) Y Y Y H) ?_)
 rintro _ _ ⟨b, _, rfl, rfl, _, H⟩
 refine AtL.e Y (EffX.boxP (cs := [_, _]) Y Y Y H) ?_
 rintro _ _ ⟨b_1, _, rfl, rfl, _, H⟩
 refine AtL.e Y (EffX.allocP (cs := [_, _]) hT Y Y H) ?_
 rintro _ _ ⟨b_2, _, rfl, rfl, _, H⟩
 refine AtL.nil ?_
 replace H := H.self
 refine tg (sR (AtL.e Y (cl (fun h => ratio_free h _) H Y Tryz.call109 Y (fun w m hr hw => lift_ratio_free  w m hr _ hw)) ?_))
 rintro _ _ ⟨v, h0u1, rfl, rfl, H⟩
 refine pu hT 1 Y (ng (AtC.seq (AtC.block (sR (pu hT 1 Y ?_)))))
 refine AtL.q Y (lP hT 2 Y) (pu hT 1 Y (AtL.q Y (lP hT 1 Y) (pu hT 2 Y (ng ?_))))
 refine AtC.condB H Y (fun H => ?_) (fun H => ?_)
 apply AtC.seqS [7, 9] [[], [], [], [], [], [], [], [], [7], [7]] [[], [0], [], [], [3], [], [5], [2, 3, 4, 5, 6], [0, 1, 2, 3, 4, 5, 6, 7], [0, 1, 2, 3, 4, 5, 6, 7, 8]] hmix (by kernel_rfl) [(13, _), (14, _), (15, _), (16, _), (17, _), (18, _), (19, _)] Y 2 Y
 refine Stg.go [0, 1, 2, 3, 4, 5, 6] [7] Y Y (qp hT Y (qq Y (lP hT 2 Y) Y (qp hT Y (qp hT Y (qq Y (lP hT 2 Y) Y (qp hT Y (qq Y (lP hT 1 Y) Y QAll.nil))))))) ?_
 refine EAll.cons ?_ EAll.nil
 refine EOp.e Y Y Y (cl (fun h => nat_Bench_Add _ _ _ h _) H Y Tryz.call160 Y (fun w m hr hw => lift_nat_Bench_Add _ _ _ w m hr _ hw)) ?_
 rintro _ _ ⟨v_1, h0u2, rfl, rfl, H⟩
 apply Stg.next [(20, _), (21, _)] Y Y
 refine Stg.go [0, 1, 8] [9] Y Y (qp hT Y (qq Y (lP hT 2 Y) Y (qq Y (Quiet1.build (cs := [_, _]) hT Y Y Y Y Y Y) Y QAll.nil))) ?_
 refine EAll.cons ?_ EAll.nil
 refine EOp.e Y Y Y (EffX.storeSP (i := 0) (qv := [(_, [_, _]), (_, [_, _]), (_, [_, _])]) hT Y Y Y Y Y Y Y Y Y Y) ?_
 rintro _ _ rfl
 apply Stg.next [] Y Y
 refine Stg.fin [] Y Y QAll.nil (tg (AtC.ret (AtE.blk_r (AtE.then_r ?_))))
 exact AtE.retN (rs := [.cell 4 36]) Y (ResAll.cons (ResAt.cellSP (i := 0) (l := [_, _]) hT Y Y Y Y Y Y Y) ResAll.nil) Y H
 refine sR (pu hT 1 Y (AtL.q Y (lP hT 2 Y) (pu hT 1 Y (AtL.q Y (lP hT 1 Y) (AtL.e Y (cl (fun h => nat_Cmp _ _ h _) H Y Tryz.call163 Y (fun w m hr hw => lift_nat_Cmp _ _ w m hr _ hw)) ?_)))))
 rintro _ _ ⟨v_2, h0u3, rfl, rfl, H⟩
 refine pu hT 2 Y (ng ?_)
 refine AtC.condB H Y (fun H => ?_) (fun H => ?_)
 apply AtC.seqS [7, 9] [[], [], [], [], [], [], [], [], [7], [7]] [[], [0], [], [], [3], [], [5], [2, 3, 4, 5, 6], [0, 1, 2, 3, 4, 5, 6, 7], [0, 1, 2, 3, 4, 5, 6, 7, 8]] hmix (by kernel_rfl) [(29, _), (30, _), (31, _), (32, _), (33, _), (34, _), (35, _)] Y 2 Y
 refine Stg.go [0, 1, 2, 3, 4, 5, 6] [7] Y Y (qp hT Y (qq Y (lP hT 2 Y) Y (qp hT Y (qp hT Y (qq Y (lP hT 2 Y) Y (qp hT Y (qq Y (lP hT 1 Y) Y QAll.nil))))))) ?_
 refine EAll.cons ?_ EAll.nil
 refine EOp.e Y Y Y (cl (fun h => nat_Bench_Sub _ _ _ h _) H Y Tryz.call167 Y (fun w m hr hw => lift_nat_Bench_Sub _ _ _ w m hr _ hw)) ?_
 rintro _ _ ⟨v_3, h0u4, rfl, rfl, H⟩
 apply Stg.next [(36, _), (37, _)] Y Y
 refine Stg.go [0, 1, 8] [9] Y Y (qp hT Y (qq Y (lP hT 2 Y) Y (qq Y (Quiet1.build (cs := [_, _]) hT Y Y Y Y Y Y) Y QAll.nil))) ?_
 refine EAll.cons ?_ EAll.nil
 refine EOp.e Y Y Y (EffX.storeSP (i := 0) (qv := [(_, [_, _]), (_, [_, _]), (_, [_, _])]) hT Y Y Y Y Y Y Y Y Y Y) ?_
 rintro _ _ rfl
 apply Stg.next [] Y Y
 refine Stg.fin [] Y Y QAll.nil (tg (AtC.ret (AtE.blk_r (AtE.then_r ?_))))
 exact AtE.retN (rs := [.cell 4 36]) Y (ResAll.cons (ResAt.cellSP (i := 0) (l := [_, _]) hT Y Y Y Y Y Y Y) ResAll.nil) Y H
 refine AtC.skip (AtE.blk_n (tg ?_))
 apply AtC.seqS [7, 9] [[], [], [], [], [], [], [], [], [7], [7]] [[], [0], [], [], [3], [], [5], [2, 3, 4, 5, 6], [0, 1, 2, 3, 4, 5, 6, 7], [0, 1, 2, 3, 4, 5, 6, 7, 8]] hmix (by kernel_rfl) [(38, _), (39, _), (40, _), (41, _), (42, _), (43, _), (44, _)] Y 2 Y
 refine Stg.go [0, 1, 2, 3, 4, 5, 6] [7] Y Y (qp hT Y (qq Y (lP hT 1 Y) Y (qp hT Y (qp hT Y (qq Y (lP hT 1 Y) Y (qp hT Y (qq Y (lP hT 2 Y) Y QAll.nil))))))) ?_
 refine EAll.cons ?_ EAll.nil
 refine EOp.e Y Y Y (cl (fun h => nat_Bench_Sub _ _ _ h _) H Y Tryz.call167 Y (fun w m hr hw => lift_nat_Bench_Sub _ _ _ w m hr _ hw)) ?_
 rintro _ _ ⟨v_4, h0u5, rfl, rfl, H⟩
 apply Stg.next [(45, _), (46, _)] Y Y
 refine Stg.go [0, 1, 8] [9] Y Y (qp hT Y (qq Y (lP hT 1 Y) Y (qq Y (Quiet1.build (cs := [_, _]) hT Y Y Y Y Y Y) Y QAll.nil))) ?_
 refine EAll.cons ?_ EAll.nil
 refine EOp.e Y Y Y (EffX.storeSP (i := 0) (qv := [(_, [_, _]), (_, [_, _]), (_, [_, _])]) hT Y Y Y Y Y Y Y Y Y Y) ?_
 rintro _ _ rfl
 apply Stg.next [] Y Y
 refine Stg.fin [] Y Y QAll.nil (tg (AtC.ret ?_))
 exact AtE.retN (rs := [.cell 4 36]) Y (ResAll.cons (ResAt.cellSP (i := 0) (l := [_, _]) hT Y Y Y Y Y Y Y) ResAll.nil) Y H
theorem lift_ratio_Cmp (x0 : Bool × Sl × Sl) (y : Bool × Sl × Sl) (w : World) (m : Heap) (hr : Rel ⟨m, []⟩ w.heap) (S : Int → Heap → Prop) (H : ratio_Cmp x0 y m S) :
 Calls Tryz.prog 112 #[Value.agg (C_bool_sl_sl x0).toArray, Value.agg (C_bool_sl_sl y).toArray] w (Post ⟨w, m⟩ (Value.int .i64) S) := by
 refine Calls.lift (args := [Value.agg (C_bool_sl_sl x0).toArray, Value.agg (C_bool_sl_sl y).toArray]) Tryz.func112 Y Tryz.ntmps112 (Nat.le_of_ble_eq_true Y) hr (ratio_Cmp x0 y m S) H (fun H => ?_)
 refine AtC.pick (ts := [0, 1]) Y ?_
 unfold ratio_Cmp at H
 refine sR (AtL.e Y (EffX.boxP (cs := [_, _, _]) Y Y Y H) ?_)
 rintro _ _ ⟨b, _, rfl, rfl, _, H⟩
 refine AtL.e Y (EffX.boxP (cs := [_, _, _]) Y Y Y H) ?_
 rintro _ _ ⟨b_1, _, rfl, rfl, _, H⟩
 replace H := H.self
 refine pu hT 1 Y (ng (sR (AtL.q Y (lS hT 1 [_, _, _] Y Y Y Y Y Y Y Y) (AtL.q Y (lS hT 0 [_, _, _] Y Y Y Y Y Y Y Y) (AtL.e Y (cl (fun h => ratio_cross _ _ h _) H Y Tryz.call152 Y (fun w m hr hw => lift_ratio_cross _ _ w m hr _ hw)) ?_)))))
 rintro _ _ ⟨v, h0u1, rfl, rfl, H⟩
 refine pu hT 3 Y (AtL.e Y (EffX.allocP (cs := [_, _]) hT Y Y H) ?_)
 rintro _ _ ⟨b_2, _, rfl, rfl, _, H⟩
 refine AtL.e Y (EffX.allocP (cs := [_, _]) hT Y Y H) ?_
 rintro _ _ ⟨b_3, _, rfl, rfl, _, H⟩
 replace H := H.self
 refine AtL.e Y (EffX.storeSP (i := 1) (qv := [(_, [_, _]), (_, [_, _]), (_, [_, _, _]), (_, [_, _, _])]) hT Y Y Y Y Y Y Y Y Y Y) ?_
 rintro _ _ rfl
 refine AtL.e Y (EffX.storeSP (i := 0) (qv := [(_, [_, _]), (_, [_, _]), (_, [_, _, _]), (_, [_, _, _])]) hT Y Y Y Y Y Y Y Y Y Y) ?_
 rintro _ _ rfl
 refine ng (sR (pu hT 1 Y (AtL.q Y (lP hT 0 Y) (pu hT 2 Y (AtL.e Y (EffX.storeP (i := 0) (qv := [(_, [_, _]), (_, [_, _]), (_, [_, _, _]), (_, [_, _, _])]) hT Y Y Y Y Y Y Y Y Y) ?_)))))
 rintro _ _ rfl
 refine ng (sR (AtL.q Y (lS hT 1 [_, _] Y Y Y Y Y Y Y Y) (AtL.q Y (lS hT 0 [_, _] Y Y Y Y Y Y Y Y) (AtL.e Y (cl (fun h => ratio_sum _ _ h _) H Y Tryz.call153 Y (fun w m hr hw => lift_ratio_sum _ _ w m hr _ hw)) ?_))))
 rintro _ _ ⟨v_1, h0u3, rfl, rfl, H⟩
 refine AtL.e Y (EffX.allocP (cs := [_, _]) hT Y Y H) ?_
 rintro _ _ ⟨b_4, _, rfl, rfl, _, H⟩
 replace H := H.self
 refine AtL.e Y (EffX.storeSP (i := 0) (qv := [(_, [_, _]), (_, [_, _]), (_, [_, _]), (_, [_, _, _]), (_, [_, _, _])]) hT Y Y Y Y Y Y Y Y Y Y) ?_
 rintro _ _ rfl
 refine ng (AtC.seq (AtC.block (sR (pu hT 1 Y (AtL.q Y (lP hT 0 Y) ?_)))))
 refine pu hT 3 Y (ng ?_)
 refine AtC.condB H Y (fun H => ?_) (fun H => ?_)
 refine sR (pu hT 1 Y (ng (AtC.ret (AtE.blk_r (AtE.then_r ?_)))))
 exact r1 4 Y Y Y H
 refine sR (pu hT 1 Y (AtL.q Y (lP hT 0 Y) (pu hT 1 Y (ng ?_))))
 refine AtC.condB H Y (fun H => ?_) (fun H => ?_)
 refine sR (pu hT 1 Y (ng (AtC.ret (AtE.blk_r (AtE.then_r ?_)))))
 exact r1 4 Y Y Y H
 refine AtC.skip (AtE.blk_n (tg (sR (pu hT 1 Y (ng ?_)))))
 refine AtC.ret ?_
 exact r1 4 Y Y Y H
theorem lift_cnf_atomic_c1 (a : Int × Int × Int × Bool × Sl × Sl × Bool × Sl × Sl) (c0 : Addr) (c1 : Addr) (w : World) (m : Heap) (hr : Rel ⟨m, []⟩ w.heap) (S : Bool → Heap → Prop) (H : cnf_atomic_c1 a c0 c1 m S) :
 Calls Tryz.prog 146 #[Value.agg (C_i64ui64ui64ubool_sl_sl_bool_sl_sl a).toArray, Value.pointer (some c0), Value.pointer (some c1)] w (Post ⟨w, m⟩ Value.bool S) := by
 refine Calls.lift (args := [Value.agg (C_i64ui64ui64ubool_sl_sl_bool_sl_sl a).toArray, Value.pointer (some c0), Value.pointer (some c1)]) Tryz.func146 Y Tryz.ntmps146 (Nat.le_of_ble_eq_true Y) hr (cnf_atomic_c1 a c0 c1 m S) H (fun H => ?_)
 refine AtC.pick (ts := [0, 1, 2]) Y ?_
 unfold cnf_atomic_c1 at H
 refine sR (AtL.e Y (EffX.boxP (cs := [_, _, _, _, _, _, _, _, _]) Y Y Y H) ?_)
 rintro _ _ ⟨b, _, rfl, rfl, _, H⟩
 replace H := H.self
 refine pu hT 1 Y (ng ?_)
 refine AtC.joinSeq (β := Unit) (fun (t0 : Bool) (bb : Unit) => [(5, Value.bool t0)]) (fun (t0 : Bool) (bb : Unit) => []) [1, 2, 3] [0] H Y Y (fun t0 bb h0u1 H => ?_) (fun J1 H HK1 => ?_)
 refine AtC.joinSeq (β := Unit) (fun (t0u1 : Bool) (bb_1 : Unit) => [(6, Value.bool t0u1)]) (fun (t0u1 : Bool) (bb_1 : Unit) => []) [1, 2, 3, 5] [0] H Y Y (fun t0u1 bb_1 h0u2 H => ?_) (fun J6 H HK6 => ?_)
 refine AtC.joinSeq (β := Unit) (fun (t0u2 : Bool) (bb_2 : Unit) => [(7, Value.bool t0u2)]) (fun (t0u2 : Bool) (bb_2 : Unit) => []) [2, 3] [0] H Y Y (fun t0u2 bb_2 h0u6 H => ?_) (fun J8 H HK8 => ?_)
 refine sR ?_
 obtain ⟨v_12, hc11, H⟩ := H
 refine AtL.q Y (Quiet1.load hT Y Y Y hc11) (pu hT 1 Y (AtL.q Y (lP hT 0 Y) (AtL.e Y (EffX.setM hT Y Y Y Y Y Y H) ?_)))
 rintro _ _ ⟨h0u9, rfl, H⟩
 refine ng (sR (pu hT 2 Y (ng (AtC.ret ?_))))
 exact r1 4 Y Y Y H
 refine AtC.region (pu hT 2 Y ?_)
 refine AtL.splitB (t := 55) H Y (fun H => ?_) (fun H => ?_)
 refine ys Y (pu hT 1 Y (pu hT 2 Y ?_))
 refine AtL.splitB (t := 58) H Y (fun H => ?_) (fun H => ?_)
 refine ys Y (pu hT 1 Y (ys Y (AtL.q Y (lP hT 0 Y) (ys Y (pu hT 1 Y ?_)))))
 refine pu hT 2 Y ?_
 refine AtL.splitB (t := 63) H Y (fun H => ?_) (fun H => ?_)
 refine ys Y (pu hT 1 Y (ys Y (AtL.q Y (lP hT 0 Y) (ys Y (pu hT 1 Y ?_)))))
 refine ys Y ?_
 obtain ⟨v_7, hc8, H⟩ := H
 refine AtL.q Y (Quiet1.load hT Y Y Y hc8) (ys Y (pu hT 1 Y (pu hT 2 Y ?_)))
 refine AtL.splitB (t := 70) H Y (fun H => ?_) (fun H => ?_)
 refine ys Y ?_
 obtain ⟨v_8, hc9, H⟩ := H
 refine AtL.q Y (Quiet1.load hT Y Y Y hc9) (ys Y (pu hT 1 Y (ys Y (AtL.q Y (lP hT 0 Y) (ys Y ?_)))))
 obtain ⟨fm10, v_9, hm10, hn10, H⟩ := H
 refine AtL.q Y (Quiet1.lookM1 (key := a.1) hT Y Y Y (by kernel_rfl) Y Y hm10 hn10) (ys Y (pu hT 1 Y (pu hT 2 Y ?_)))
 refine AtL.splitB (t := 77) H Y (fun H => ?_) (fun H => ?_)
 refine ys Y (pu hT 1 Y (ys Y (pu hT 1 Y (ys Y (AtL.q Y (lS hT 0 [_, _, _] Y Y Y Y Y Y Y Y) ?_)))))
 refine ys Y (AtL.e Y (cl (fun h => ratio_Right _ h _) H Y Tryz.call42 Y (fun w m hr hw => lift_ratio_Right _ w m hr _ hw)) ?_)
 rintro _ _ ⟨v_10, h0u7, rfl, rfl, H⟩
 refine pu hT 2 Y ?_
 refine AtL.splitB (t := 83) H Y (fun H => ?_) (fun H => ?_)
 refine ys Y (pu hT 1 Y (ys Y (pu hT 1 Y (ys Y (AtL.q Y (lS hT 0 [_, _, _] Y Y Y Y Y Y Y Y) ?_)))))
 refine ys Y (AtL.e Y (cl (fun h => ratio_Right _ h _) H Y Tryz.call42 Y (fun w m hr hw => lift_ratio_Right _ w m hr _ hw)) ?_)
 rintro _ _ ⟨v_11, h0u8, rfl, rfl, H⟩
 refine pu hT 2 Y (AtL.nil ?_)
 exact AtE.then_n ((HK8 _ () _ H).pickP (ts := [7, 2, 3]) (is := [0]) Y Y (by decide) Y)
 refine nf Y (nf Y (nf Y (nf Y (pu hT 2 Y (AtL.nil ?_)))))
 exact AtE.then_n ((HK8 _ () _ H).pickP (ts := [7, 2, 3]) (is := [0]) Y Y (by decide) Y)
 refine nf Y (nf Y (nf Y (nf Y (pu hT 2 Y (nf Y ?_)))))
 refine nf Y (nf Y (nf Y (pu hT 2 Y (AtL.nil ?_))))
 exact AtE.then_n ((HK8 _ () _ H).pickP (ts := [7, 2, 3]) (is := [0]) Y Y (by decide) Y)
 refine nf Y (nf Y (nf Y (nf Y (nf Y (pu hT 2 Y ?_)))))
 refine nf Y (nf Y (nf Y (nf Y (pu hT 2 Y (nf Y ?_)))))
 refine nf Y (nf Y (nf Y (pu hT 2 Y (AtL.nil ?_))))
 exact AtE.then_n ((HK8 _ () _ H).pickP (ts := [7, 2, 3]) (is := [0]) Y Y (by decide) Y)
 refine nf Y (nf Y (nf Y (nf Y (nf Y (pu hT 2 Y ?_)))))
 refine nf Y (nf Y (nf Y (nf Y (nf Y (pu hT 2 Y ?_)))))
 refine nf Y (nf Y (nf Y (nf Y (pu hT 2 Y (nf Y ?_)))))
 refine nf Y (nf Y (nf Y (pu hT 2 Y (AtL.nil ?_))))
 exact AtE.then_n ((HK8 _ () _ H).pickP (ts := [7, 2, 3]) (is := [0]) Y Y (by decide) Y)
 refine nf Y (nf Y (nf Y (pu hT 2 Y (nf Y (nf Y ?_)))))
 refine nf Y (nf Y (nf Y (pu hT 2 Y (nf Y (nf Y ?_)))))
 refine nf Y (nf Y (nf Y (pu hT 2 Y (nf Y (nf Y ?_)))))
 refine nf Y (nf Y (pu hT 2 Y (nf Y (nf Y (nf Y ?_)))))
 refine nf Y (pu hT 2 Y (AtL.nil ?_))
 exact AtE.then_n ((HK8 _ () _ H).pickP (ts := [7, 2, 3]) (is := [0]) Y Y (by decide) Y)
 refine nf Y (pu hT 2 Y (nf Y (nf Y (nf Y (pu hT 2 Y ?_)))))
 refine nf Y (nf Y (nf Y (nf Y (nf Y (pu hT 2 Y ?_)))))
 refine nf Y (nf Y (nf Y (nf Y (nf Y (pu hT 2 Y ?_)))))
 refine nf Y (nf Y (nf Y (nf Y (pu hT 2 Y (nf Y ?_)))))
 refine nf Y (nf Y (nf Y (pu hT 2 Y (AtL.nil ?_))))
 exact AtE.then_n ((HK8 _ () _ H).pickP (ts := [7, 2, 3]) (is := [0]) Y Y (by decide) Y)
 apply AtC.stages [3, 9, 10] [[], [], [], [], [3], [3], [3], [3], [3], [3], [3, 9], [3, 9, 10], [3, 9, 10], [3, 9, 10]] [[], [0], [0, 1], [0, 1, 2], [0, 1, 2, 3], [0, 1, 2, 3, 4], [0, 1, 2, 3, 4, 5], [0, 1, 2, 3, 4, 5, 6], [0, 1, 2, 3, 4, 5, 6, 7], [0, 1, 2, 3, 4, 5], [0, 1, 2, 3, 4, 5, 6, 7, 8, 9], [0, 1, 2, 3, 4, 5, 6, 7, 8, 9, 10], [0, 1, 2, 3, 4, 5, 6, 7, 8, 9, 10, 11], [0, 1, 2, 3, 4, 5, 6, 7, 8, 9, 10, 11, 12]] hmix (by kernel_rfl) [(41, _), (42, _), (43, _)] Y 3 Y
 refine Stg.go [0, 1, 2] [3] Y Y (qp hT Y (qp hT Y (qq Y (lS hT 0 [_, _, _] Y Y Y Y Y Y Y Y) Y QAll.nil))) ?_
 refine EAll.cons ?_ EAll.nil
 refine EOp.e Y Y Y (cl (fun h => ratio_Sign _ h _) H Y Tryz.call43 Y (fun w m hr hw => lift_ratio_Sign _ w m hr _ hw)) ?_
 rintro _ _ ⟨v_4, h0u3, rfl, rfl, H⟩
 rcases iteB.cases H with ⟨hb6, H⟩ | ⟨hb6, H⟩
 apply Stg.next [(44, _), (45, _), (46, _), (47, _), (48, _), (49, _)] Y Y
 refine Stg.known (t := 46) Y hb6 (Stg.go [4, 5, 6, 7, 8] [9] Y Y (qp hT Y (QAll.cons (QOp.pk hT Y Y Y Y hb6 Y) (qn Y Y Y Y (by decide) Y Y (qn Y Y Y Y (by decide) Y Y (qn Y Y Y Y (by decide) Y Y QAll.nil))))) ?_)
 refine EAll.cons ?_ EAll.nil
 refine EOp.no Y Y Y Y (by decide) Y ?_
 apply Stg.next [(50, _)] Y Y
 refine Stg.go [6, 7, 8] [10] Y Y (qn Y Y Y Y (by decide) Y Y (qn Y Y Y Y (by decide) Y Y (qn Y Y Y Y (by decide) Y Y QAll.nil))) ?_
 refine EAll.cons ?_ EAll.nil
 refine EOp.no Y Y Y Y (by decide) Y ?_
 apply Stg.next [(51, _), (52, _), (53, _), (6, _)] Y Y
 refine Stg.fin [11, 12, 13] Y Y (qn Y Y Y Y (by decide) Y Y (qp hT Y (qp hT Y QAll.nil))) ?_
 exact AtE.then_n ((HK6 _ () _ H).pickP (ts := [6, 1, 2, 3, 5]) (is := [0]) Y Y (by decide) Y)
 apply Stg.next [(44, _), (45, _), (46, _), (47, _), (48, _), (49, _)] Y Y
 refine Stg.known (t := 46) Y hb6 (Stg.go [4, 5, 6, 7, 8] [9] Y Y (qp hT Y (QAll.cons (QOp.pk hT Y Y Y Y hb6 Y) (QAll.cons (QOp.yp hT Y Y Y Y Y Y Y) (QAll.cons (QOp.yp hT Y Y Y Y Y Y Y) (QAll.cons (QOp.y Y Y Y Y (lS hT 0 [_, _, _] Y Y Y Y Y Y Y Y) Y Y) QAll.nil))))) ?_)
 refine EAll.cons ?_ EAll.nil
 refine EOp.y Y Y Y Y Y (cl (fun h => ratio_Of _ h _) H Y Tryz.call12 Y (fun w m hr hw => lift_ratio_Of _ w m hr _ hw)) ?_
 rintro _ _ ⟨v_5, h0u4, rfl, rfl, H⟩
 apply Stg.next [(50, _)] Y Y
 refine Stg.go [6, 7, 8] [10] Y Y (QAll.cons (QOp.yp hT Y Y Y Y Y Y Y) (QAll.cons (QOp.yp hT Y Y Y Y Y Y Y) (QAll.cons (QOp.y Y Y Y Y (lS hT 0 [_, _, _] Y Y Y Y Y Y Y Y) Y Y) QAll.nil))) ?_
 refine EAll.cons ?_ EAll.nil
 refine EOp.y Y Y Y Y Y (cl (fun h => ratio_Cmp _ _ h _) H Y Tryz.call112 Y (fun w m hr hw => lift_ratio_Cmp _ _ w m hr _ hw)) ?_
 rintro _ _ ⟨v_6, h0u5, rfl, rfl, H⟩
 apply Stg.next [(51, _), (52, _), (53, _), (6, _)] Y Y
 refine Stg.fin [11, 12, 13] Y Y (QAll.cons (QOp.yp hT Y Y Y Y Y Y Y) (qp hT Y (qp hT Y QAll.nil))) ?_
 exact AtE.then_n ((HK6 _ () _ H).pickP (ts := [6, 1, 2, 3, 5]) (is := [0]) Y Y (by decide) Y)
 refine AtC.region (pu hT 1 Y (AtL.q Y (lP hT 0 Y) (pu hT 2 Y ?_)))
 refine AtL.splitB (t := 11) H Y (fun H => ?_) (fun H => ?_)
 refine ys Y (pu hT 1 Y (ys Y (AtL.q Y (lP hT 0 Y) (ys Y (pu hT 1 Y ?_)))))
 refine pu hT 2 Y ?_
 refine AtL.splitB (t := 16) H Y (fun H => ?_) (fun H => ?_)
 refine ys Y (pu hT 1 Y (ys Y (AtL.q Y (lP hT 0 Y) (ys Y (pu hT 1 Y ?_)))))
 refine ys Y ?_
 obtain ⟨v, hc1, H⟩ := H
 refine AtL.q Y (Quiet1.load hT Y Y Y hc1) (ys Y (pu hT 1 Y (pu hT 2 Y ?_)))
 refine AtL.splitB (t := 23) H Y (fun H => ?_) (fun H => ?_)
 refine nf Y (nf Y (nf Y (nf Y (AtL.noU Y Y Y Y (AtL.noU Y Y Y Y ?_)))))
 refine AtL.noU Y Y Y Y (AtL.noU Y Y Y Y (AtL.noU Y Y Y Y (AtL.noU Y Y Y Y (nf Y (nf Y ?_)))))
 refine AtL.noU Y Y Y Y (AtL.noU Y Y Y Y (AtL.noU Y Y Y Y (nf Y (pu hT 2 Y (AtL.nil ?_)))))
 exact AtE.then_n ((HK1 _ () _ H).pickP (ts := [5, 1, 2, 3]) (is := [0]) Y Y (by decide) Y)
 refine ys Y (pu hT 1 Y (ys Y (AtL.q Y (lP hT 0 Y) (ys Y (pu hT 1 Y ?_)))))
 refine ys Y (pu hT 1 Y ?_)
 refine AtL.splitB (t := 27) H Y (fun H => ?_) (fun H => ?_)
 refine ys Y (pu hT 1 Y (ys Y (AtL.q Y (lP hT 0 Y) (ys Y (pu hT 1 Y ?_)))))
 refine ys Y ?_
 obtain ⟨v_1, hc2, H⟩ := H
 refine AtL.q Y (Quiet1.load hT Y Y Y hc2) (ys Y (pu hT 1 Y (ys Y (pu hT 1 Y (ys Y ?_)))))
 refine pu hT 1 Y (ys Y (pu hT 1 Y ?_))
 refine AtL.splitB (t := 35) H Y (fun H => ?_) (fun H => ?_)
 refine ys Y (pu hT 1 Y (ys Y (AtL.q Y (lP hT 0 Y) (ys Y (pu hT 1 Y ?_)))))
 refine ys Y (pu hT 1 Y (pu hT 2 Y ?_))
 replace H := H _ rfl
 refine AtL.nil ?_
 exact AtE.then_n ((HK1 _ () _ H).pickP (ts := [5, 1, 2, 3]) (is := [0]) Y Y (by decide) Y)
 refine nf Y (nf Y (nf Y (ys Y (pu hT 1 Y (pu hT 2 Y ?_)))))
 refine AtL.nil ?_
 exact AtE.then_n ((HK1 _ () _ H).pickP (ts := [5, 1, 2, 3]) (is := [0]) Y Y (by decide) Y)
 refine nf Y (nf Y (nf Y (nf Y (nf Y (nf Y ?_)))))
 refine ys Y (pu hT 1 Y (ys Y (pu hT 1 Y (nf Y (nf Y ?_)))))
 refine nf Y (ys Y (pu hT 1 Y (pu hT 2 Y (AtL.nil ?_))))
 exact AtE.then_n ((HK1 _ () _ H).pickP (ts := [5, 1, 2, 3]) (is := [0]) Y Y (by decide) Y)
 refine nf Y (nf Y (nf Y (nf Y (nf Y (pu hT 2 Y ?_)))))
 refine ys Y (pu hT 1 Y (ys Y (AtL.q Y (lP hT 0 Y) (ys Y (pu hT 1 Y ?_)))))
 refine ys Y (pu hT 1 Y ?_)
 refine AtL.splitB (t := 27) H Y (fun H => ?_) (fun H => ?_)
 refine ys Y (pu hT 1 Y (ys Y (AtL.q Y (lP hT 0 Y) (ys Y (pu hT 1 Y ?_)))))
 refine ys Y ?_
 obtain ⟨v_2, hc3, H⟩ := H
 refine AtL.q Y (Quiet1.load hT Y Y Y hc3) (ys Y (pu hT 1 Y (ys Y (pu hT 1 Y (ys Y ?_)))))
 refine pu hT 1 Y (ys Y (pu hT 1 Y ?_))
 refine AtL.splitB (t := 35) H Y (fun H => ?_) (fun H => ?_)
 refine ys Y (pu hT 1 Y (ys Y (AtL.q Y (lP hT 0 Y) (ys Y (pu hT 1 Y ?_)))))
 refine ys Y (pu hT 1 Y (pu hT 2 Y ?_))
 replace H := H _ rfl
 refine AtL.nil ?_
 exact AtE.then_n ((HK1 _ () _ H).pickP (ts := [5, 1, 2, 3]) (is := [0]) Y Y (by decide) Y)
 refine nf Y (nf Y (nf Y (ys Y (pu hT 1 Y (pu hT 2 Y ?_)))))
 refine AtL.nil ?_
 exact AtE.then_n ((HK1 _ () _ H).pickP (ts := [5, 1, 2, 3]) (is := [0]) Y Y (by decide) Y)
 refine nf Y (nf Y (nf Y (nf Y (nf Y (nf Y ?_)))))
 refine ys Y (pu hT 1 Y (ys Y (pu hT 1 Y (nf Y (nf Y ?_)))))
 refine nf Y (ys Y (pu hT 1 Y (pu hT 2 Y (AtL.nil ?_))))
 exact AtE.then_n ((HK1 _ () _ H).pickP (ts := [5, 1, 2, 3]) (is := [0]) Y Y (by decide) Y)
 refine nf Y (nf Y (nf Y (pu hT 2 Y (nf Y (nf Y ?_)))))
 refine nf Y (nf Y (nf Y (pu hT 2 Y (ys Y (pu hT 1 Y ?_)))))
 refine ys Y (AtL.q Y (lP hT 0 Y) (ys Y (pu hT 1 Y (ys Y (pu hT 1 Y ?_)))))
 refine AtL.splitB (t := 27) H Y (fun H => ?_) (fun H => ?_)
 refine ys Y (pu hT 1 Y (ys Y (AtL.q Y (lP hT 0 Y) (ys Y (pu hT 1 Y ?_)))))
 refine ys Y ?_
 obtain ⟨v_3, hc4, H⟩ := H
 refine AtL.q Y (Quiet1.load hT Y Y Y hc4) (ys Y (pu hT 1 Y (ys Y (pu hT 1 Y (ys Y ?_)))))
 refine pu hT 1 Y (ys Y (pu hT 1 Y ?_))
 refine AtL.splitB (t := 35) H Y (fun H => ?_) (fun H => ?_)
 refine ys Y (pu hT 1 Y (ys Y (AtL.q Y (lP hT 0 Y) (ys Y (pu hT 1 Y ?_)))))
 refine ys Y (pu hT 1 Y (pu hT 2 Y ?_))
 replace H := H _ rfl
 refine AtL.nil ?_
 exact AtE.then_n ((HK1 _ () _ H).pickP (ts := [5, 1, 2, 3]) (is := [0]) Y Y (by decide) Y)
 refine nf Y (nf Y (nf Y (ys Y (pu hT 1 Y (pu hT 2 Y ?_)))))
 refine AtL.nil ?_
 exact AtE.then_n ((HK1 _ () _ H).pickP (ts := [5, 1, 2, 3]) (is := [0]) Y Y (by decide) Y)
 refine nf Y (nf Y (nf Y (nf Y (nf Y (nf Y ?_)))))
 refine ys Y (pu hT 1 Y (ys Y (pu hT 1 Y (nf Y (nf Y ?_)))))
 refine nf Y (ys Y (pu hT 1 Y (pu hT 2 Y (AtL.nil ?_))))
 exact AtE.then_n ((HK1 _ () _ H).pickP (ts := [5, 1, 2, 3]) (is := [0]) Y Y (by decide) Y)
theorem lift_cnf_Right_c4 (a : Int × Int × Int × Bool × Sl × Sl × Bool × Sl × Sl) (c0 : Addr) (w : World) (m : Heap) (hr : Rel ⟨m, []⟩ w.heap) (S : Bool → Heap → Prop) (H : cnf_Right_c4 a c0 m S) :
 Calls Tryz.prog 106 #[Value.agg (C_i64ui64ui64ubool_sl_sl_bool_sl_sl a).toArray, Value.pointer (some c0)] w (Post ⟨w, m⟩ Value.bool S) := by
 refine Calls.lift (args := [Value.agg (C_i64ui64ui64ubool_sl_sl_bool_sl_sl a).toArray, Value.pointer (some c0)]) Tryz.func106 Y Tryz.ntmps106 (Nat.le_of_ble_eq_true Y) hr (cnf_Right_c4 a c0 m S) H (fun H => ?_)
 refine AtC.pick (ts := [0, 1]) Y ?_
 unfold cnf_Right_c4 at H
 refine sR (AtL.e Y (EffX.boxP (cs := [_, _, _, _, _, _, _, _, _]) Y Y Y H) ?_)
 rintro _ _ ⟨b, _, rfl, rfl, _, H⟩
 replace H := H.self
 refine pu hT 1 Y (ng (sR ?_))
 obtain ⟨v, hc0, H⟩ := H
 refine AtL.q Y (Quiet1.load hT Y Y Y hc0) (AtL.q Y (lS hT 0 [_, _, _, _, _, _, _, _, _] Y Y Y Y Y Y Y Y) ?_)
 obtain ⟨dc1u0, dc1u1, he1, H⟩ := H
 refine AtL.e Y (EffX.callFd (bs := []) (cs := [_, _]) (f := 146) (sh := fun h => cnf_atomic_c1 _ _ _ h _) (H0 := H) Y Y he1 Tryz.call146 Y (hl := fun w m hr hw => lift_cnf_atomic_c1 _ _ _ w m hr _ hw)) ?_
 rintro _ _ ⟨v_1, h0u1, rfl, rfl, H⟩
 refine pu hT 2 Y (ng (AtC.ret ?_))
 exact r1 3 Y Y Y H
theorem lift_slices_IndexFunc_api_Atom_api_Atom__cnf_Right_c4 (s0 : Sl) (f_c : Addr) (w : World) (m : Heap) (hr : Rel ⟨m, []⟩ w.heap) (S : Int → Heap → Prop) (H : slices_IndexFunc_api_Atom_api_Atom__cnf_Right_c4 s0 f_c m S) :
 Calls Tryz.prog 39 #[Sl.toV s0, Value.func (.func 106) #[] #[Value.pointer (some f_c)]] w (Post ⟨w, m⟩ (Value.int .i64) S) := by
 refine Calls.lift (args := [Sl.toV s0, Value.func (.func 106) #[] #[Value.pointer (some f_c)]]) Tryz.func39 Y Tryz.ntmps39 (Nat.le_of_ble_eq_true Y) hr (slices_IndexFunc_api_Atom_api_Atom__cnf_Right_c4 s0 f_c m S) H (fun H => ?_)
 refine AtC.pick (ts := [0, 1]) Y ?_
 unfold slices_IndexFunc_api_Atom_api_Atom__cnf_Right_c4 at H
 refine sR (pu hT 1 Y (ng (AtC.seq (sR (pu hT 3 Y ?_)))))
 refine ng (AtC.block ?_)
 refine AtC.loopM (fun (s0u1 : Int) => [(8, Value.int .i64 s0u1)]) (fun (s0u1 : Int) => []) [0, 1, 7] [8, 0, 1, 7] [] [] H Y Y Y (by decide) Y (fun Kp1 s0u1 h0 H Q1 HK1 => ?_)
 refine sR (pu hT 1 Y (ng (AtC.seq ?_)))
 refine AtC.condB H Y (fun H => ?_) (fun H => ?_)
 refine AtC.skip (tg (AtC.seq (AtC.block (sR (pu hT 2 Y ?_)))))
 refine ng (sR (pu hT 3 Y ?_))
 obtain ⟨a_, hc1, hd1, H⟩ := H
 refine AtL.q Y (Quiet1.idxS hT Y Y Y Y Y hc1 hd1) ?_
 obtain ⟨v, hc2, H⟩ := H
 refine AtL.q Y (Quiet1.loadS hT Y Y Y Y hc2) (AtL.e Y (EffX.callF (bs := []) (cs := [_]) (f := 106) (sh := fun h => cnf_Right_c4 _ _ h _) (H0 := H) Y Y Tryz.call106 Y (hl := fun w m hr hw => lift_cnf_Right_c4 _ _ w m hr _ hw)) ?_)
 rintro _ _ ⟨v_1, h0u1, rfl, rfl, H⟩
 refine ng ?_
 refine AtC.condB H Y (fun H => ?_) (fun H => ?_)
 refine sR (pu hT 2 Y (ng (AtC.ret (AtE.blk_r (AtE.then_r ?_)))))
 refine AtE.then_r (AtE.blk_r (AtE.then_r ?_))
 exact r1 4 Y Y Y H
 refine AtC.skip (AtE.blk_n (tg (AtC.region (pu hT 2 Y (AtL.nil ?_)))))
 exact AtE.then_n ((HK1 _ _ H).pickP (ts := [8, 0, 1, 7]) (is := []) Y Y (by decide) Y)
 refine AtC.exit (AtE.then_x (AtE.then_x (AtE.blk_hit (tg (sR ?_)))))
 refine pu hT 1 Y (ng (AtC.ret ?_))
 exact r1 4 Y Y Y H
theorem lift_slices_ContainsFunc_api_Atom_api_Atom__cnf_Right_c4 (s0 : Sl) (f_c : Addr) (w : World) (m : Heap) (hr : Rel ⟨m, []⟩ w.heap) (S : Bool → Heap → Prop) (H : slices_ContainsFunc_api_Atom_api_Atom__cnf_Right_c4 s0 f_c m S) :
 Calls Tryz.prog 105 #[Sl.toV s0, Value.func (.func 106) #[] #[Value.pointer (some f_c)]] w (Post ⟨w, m⟩ Value.bool S) := by
 refine Calls.lift (args := [Sl.toV s0, Value.func (.func 106) #[] #[Value.pointer (some f_c)]]) Tryz.func105 Y Tryz.ntmps105 (Nat.le_of_ble_eq_true Y) hr (slices_ContainsFunc_api_Atom_api_Atom__cnf_Right_c4 s0 f_c m S) H (fun H => ?_)
 refine AtC.pick (ts := [0, 1]) Y ?_
 unfold slices_ContainsFunc_api_Atom_api_Atom__cnf_Right_c4 at H
 refine sR (pu hT 1 Y (ng (sR (pu hT 2 Y (AtL.e Y (cl (fun h => slices_IndexFunc_api_Atom_api_Atom__cnf_Right_c4 _ _ h _) H Y Tryz.call39 Y (fun w m hr hw => lift_slices_IndexFunc_api_Atom_api_Atom__cnf_Right_c4 _ _ w m hr _ hw)) ?_)))))
 rintro _ _ ⟨v, h0, rfl, rfl, H⟩
 refine pu hT 2 Y (ng (AtC.ret ?_))
 exact r1 4 Y Y Y H
theorem lift_cnf_Right (p : Int × Int × Sl × Sl × Sl × Sl × Sl) (w : World) (m : Heap) (hr : Rel ⟨m, []⟩ w.heap) (S : Bool → Heap → Prop) (H : cnf_Right p m S) :
 Calls Tryz.prog 38 #[Value.agg (C_i64ui64usl_sl_sl_sl_sl p).toArray] w (Post ⟨w, m⟩ Value.bool S) := by
 refine Calls.lift (args := [Value.agg (C_i64ui64usl_sl_sl_sl_sl p).toArray]) Tryz.func38 Y Tryz.ntmps38 (Nat.le_of_ble_eq_true Y) hr (cnf_Right p m S) H (fun H => ?_)
 refine AtC.pick (ts := [0]) Y ?_
 unfold cnf_Right at H
 refine sR (AtL.e Y (EffX.box (cs := [_, _, _, _, _, _, _]) Y Y Y H) ?_)
 rintro _ _ ⟨p_1, h0, rfl, rfl, H⟩
 refine pu hT 1 Y (ng (sR (AtL.q Y (Quiet1.makeFn (bs := []) (cs := [_]) Y Y Y) (AtL.e Y (EffX.alloc hT Y Y H) ?_))))
 rintro _ _ ⟨lost, h0u1, rfl, rfl, H⟩
 refine AtL.e Y (EffX.store hT Y Y Y Y Y H) ?_
 rintro _ _ ⟨h0u2, rfl, H⟩
 refine ng (AtC.seq (AtC.block ?_))
 refine AtC.joinSeq (β := Unit) (fun (t0 : Bool) (bb : Unit) => [(7, Value.bool t0)]) (fun (t0 : Bool) (bb : Unit) => []) [1] [] H Y Y (fun t0 bb h0u3 H => ?_) (fun J1 H HK1 => ?_)
 refine AtC.condB H Y (fun H => ?_) (fun H => ?_)
 refine sR (pu hT 1 Y (ng (AtC.ret (AtE.blk_r (AtE.then_r ?_)))))
 exact r1 2 Y Y Y H
 refine AtC.skip (AtE.blk_n (tg ?_))
 refine AtC.joinSeq (β := Unit) (fun (t0u1 : Addr × Addr) (bb_1 : Unit) => [(4, Value.pointer (some t0u1.1)), (5, Value.pointer (some t0u1.2))]) (fun (t0u1 : Addr × Addr) (bb_1 : Unit) => []) [1] [] H Y Y (fun t0u1 bb_1 h0u5 H => ?_) (fun J5 H HK5 => ?_)
 refine AtC.joinSeq (β := Unit) (fun (t0u2 : Bool) (bb_2 : Unit) => [(2, Value.bool t0u2)]) (fun (t0u2 : Bool) (bb_2 : Unit) => []) [] [] H Y Y (fun t0u2 bb_2 h0u64 H => ?_) (fun J27 H HK27 => ?_)
 refine AtC.ret ?_
 exact r1 2 Y Y Y H
 refine AtC.region (pu hT 1 Y ?_)
 obtain ⟨v_22, hc27, H⟩ := H
 refine AtL.q Y (Quiet1.load hT Y Y Y hc27) (AtL.q Y (Quiet1.makeFn (bs := []) (cs := [_]) Y Y Y) (AtL.e Y (cl (fun h => slices_ContainsFunc_api_Poly_api_Poly__cnf_Right_c3 _ _ h _) H Y Tryz.call103 Y (fun w m hr hw => lift_slices_ContainsFunc_api_Poly_api_Poly__cnf_Right_c3 _ _ w m hr _ hw)) ?_))
 rintro _ _ ⟨v_23, h0u65, rfl, rfl, H⟩
 refine pu hT 2 Y ?_
 refine AtL.splitB (t := 31) H Y (fun H => ?_) (fun H => ?_)
 refine ys Y (pu hT 1 Y (ys Y ?_))
 obtain ⟨v_24, hc28, H⟩ := H
 refine AtL.q Y (Quiet1.load hT Y Y Y hc28) (ys Y (AtL.q Y (Quiet1.makeFn (bs := []) (cs := [_]) Y Y Y) (ys Y (AtL.e Y (cl (fun h => slices_ContainsFunc_api_Atom_api_Atom__cnf_Right_c4 _ _ h _) H Y Tryz.call105 Y (fun w m hr hw => lift_slices_ContainsFunc_api_Atom_api_Atom__cnf_Right_c4 _ _ w m hr _ hw)) ?_))))
 rintro _ _ ⟨v_25, h0u66, rfl, rfl, H⟩
 refine ys Y (pu hT 1 Y (pu hT 2 Y (AtL.nil ?_)))
 exact AtE.then_n ((HK27 _ () _ H).pickP (ts := [2]) (is := []) Y Y (by decide) Y)
 refine nf Y (nf Y (nf Y (nf Y (nf Y (pu hT 2 Y ?_)))))
 refine AtL.nil ?_
 exact AtE.then_n ((HK27 _ () _ H).pickP (ts := [2]) (is := []) Y Y (by decide) Y)
 obtain ⟨v_4, hc5, H⟩ := H
 obtain ⟨v_5, hc6, H⟩ := H
 apply AtC.stages [1, 3, 4, 5, 6, 7] [[], [], [], [1], [], [], [1, 3, 4, 5], [1, 3, 4, 5, 6]] [[], [0], [], [0, 1, 2], [], [], [0, 1, 2, 3, 4, 5], [0, 1, 2, 3, 4, 5, 6]] hmix (by kernel_rfl) [(22, _), (24, _)] Y 6 Y
 refine Stg.go [0, 2] [1, 4, 5] Y Y (qq Y (Quiet1.loadS hT Y Y Y Y hc5) Y (qq Y (Quiet1.loadS hT Y Y Y Y hc6) Y QAll.nil)) ?_
 refine EAll.cons ?_ ?_
 replace H := H.1
 refine EOp.e Y Y Y (cl (fun h => cnf_rowed _ h _) H Y Tryz.call101 Y (fun w m hr hw => lift_cnf_rowed _ w m hr _ hw)) ?_
 rintro _ _ ⟨v_6, h0u6, rfl, rfl, H⟩
 obtain ⟨hc7, H⟩ := H
 apply Stg.next [(23, _)] Y Y
 refine Stg.go [2] [3, 4, 5] Y Y (qq Y (Quiet1.loadS hT Y Y Y Y hc7) Y QAll.nil) ?_
 refine EAll.cons ?_ ?_
 replace H := H.1
 refine EOp.e Y Y Y (cl (fun h => cnf_atomic _ h _) H Y Tryz.call102 Y (fun w m hr hw => lift_cnf_atomic _ w m hr _ hw)) ?_
 rintro _ _ ⟨v_7, h0u7, rfl, rfl, H⟩
 apply Stg.next [(25, _)] Y Y
 refine Stg.go [] [4, 5] Y Y QAll.nil ?_
 refine EAll.cons ?_ ?_
 replace H := H.1
 refine EOp.e Y Y Y (EffX.alloc hT Y Y H) ?_
 rintro _ _ ⟨row, h0u8, rfl, rfl, H⟩
 apply Stg.next [(4, _)] Y Y
 refine Stg.go [] [5] Y Y QAll.nil ?_
 refine EAll.cons ?_ EAll.nil
 refine EOp.e Y Y Y (EffX.alloc hT Y Y H) ?_
 rintro _ _ ⟨atom, h0u9, rfl, rfl, H⟩
 apply Stg.next [(5, _)] Y Y
 refine Stg.go [] [6] Y Y QAll.nil ?_
 refine EAll.cons ?_ EAll.nil
 refine EOp.e Y Y Y (EffX.store hT Y Y Y Y (by first | rfl | exact FnV.one_toV _) H) ?_
 rintro _ _ ⟨h0u10, rfl, H⟩
 apply Stg.next [] Y Y
 refine Stg.go [] [7] Y Y QAll.nil ?_
 refine EAll.cons ?_ EAll.nil
 refine EOp.e Y Y Y (EffX.store hT Y Y Y Y (by first | rfl | exact FnV.one_toV _) H) ?_
 rintro _ _ ⟨h0u11, rfl, H⟩
 apply Stg.next [] Y Y
 refine Stg.fin [] Y Y QAll.nil ?_
 exact AtE.then_n ((HK5 _ () _ H).pickP (ts := [4, 5, 1]) (is := []) Y Y (by decide) Y)
 refine EAll.cons ?_ EAll.nil
 replace H := H.2
 refine EOp.e Y Y Y (EffX.alloc hT Y Y H) ?_
 rintro _ _ ⟨atom_1, h0u12, rfl, rfl, H⟩
 apply Stg.next [(5, _)] Y Y
 refine Stg.go [] [4] Y Y QAll.nil ?_
 refine EAll.cons ?_ EAll.nil
 refine EOp.e Y Y Y (EffX.alloc hT Y Y H) ?_
 rintro _ _ ⟨row_1, h0u13, rfl, rfl, H⟩
 apply Stg.next [(4, _)] Y Y
 refine Stg.go [] [6] Y Y QAll.nil ?_
 refine EAll.cons ?_ EAll.nil
 refine EOp.e Y Y Y (EffX.store hT Y Y Y Y (by first | rfl | exact FnV.one_toV _) H) ?_
 rintro _ _ ⟨h0u14, rfl, H⟩
 apply Stg.next [] Y Y
 refine Stg.go [] [7] Y Y QAll.nil ?_
 refine EAll.cons ?_ EAll.nil
 refine EOp.e Y Y Y (EffX.store hT Y Y Y Y (by first | rfl | exact FnV.one_toV _) H) ?_
 rintro _ _ ⟨h0u15, rfl, H⟩
 apply Stg.next [] Y Y
 refine Stg.fin [] Y Y QAll.nil ?_
 exact AtE.then_n ((HK5 _ () _ H).pickP (ts := [4, 5, 1]) (is := []) Y Y (by decide) Y)
 refine EAll.cons ?_ ?_
 replace H := H.2.1
 refine EOp.e Y Y Y (EffX.alloc hT Y Y H) ?_
 rintro _ _ ⟨row_2, h0u16, rfl, rfl, H⟩
 obtain ⟨hc8, H⟩ := H
 apply Stg.next [(4, _)] Y Y
 refine Stg.go [2] [3, 5] Y Y (qq Y (Quiet1.loadS hT Y Y Y Y hc8) Y QAll.nil) ?_
 refine EAll.cons ?_ ?_
 replace H := H.1
 refine EOp.e Y Y Y (cl (fun h => cnf_atomic _ h _) H Y Tryz.call102 Y (fun w m hr hw => lift_cnf_atomic _ w m hr _ hw)) ?_
 rintro _ _ ⟨v_8, h0u17, rfl, rfl, H⟩
 apply Stg.next [(25, _)] Y Y
 refine Stg.go [] [5] Y Y QAll.nil ?_
 refine EAll.cons ?_ EAll.nil
 refine EOp.e Y Y Y (EffX.alloc hT Y Y H) ?_
 rintro _ _ ⟨atom_2, h0u18, rfl, rfl, H⟩
 apply Stg.next [(5, _)] Y Y
 refine Stg.go [] [6] Y Y QAll.nil ?_
 refine EAll.cons ?_ EAll.nil
 refine EOp.e Y Y Y (EffX.store hT Y Y Y Y (by first | rfl | exact FnV.one_toV _) H) ?_
 rintro _ _ ⟨h0u19, rfl, H⟩
 apply Stg.next [] Y Y
 refine Stg.go [] [7] Y Y QAll.nil ?_
 refine EAll.cons ?_ EAll.nil
 refine EOp.e Y Y Y (EffX.store hT Y Y Y Y (by first | rfl | exact FnV.one_toV _) H) ?_
 rintro _ _ ⟨h0u20, rfl, H⟩
 apply Stg.next [] Y Y
 refine Stg.fin [] Y Y QAll.nil ?_
 exact AtE.then_n ((HK5 _ () _ H).pickP (ts := [4, 5, 1]) (is := []) Y Y (by decide) Y)
 refine EAll.cons ?_ EAll.nil
 replace H := H.2
 refine EOp.e Y Y Y (EffX.alloc hT Y Y H) ?_
 rintro _ _ ⟨atom_3, h0u21, rfl, rfl, H⟩
 obtain ⟨hc9, H⟩ := H
 apply Stg.next [(5, _)] Y Y
 refine Stg.go [2] [3] Y Y (qq Y (Quiet1.loadS hT Y Y Y Y hc9) Y QAll.nil) ?_
 refine EAll.cons ?_ EAll.nil
 refine EOp.e Y Y Y (cl (fun h => cnf_atomic _ h _) H Y Tryz.call102 Y (fun w m hr hw => lift_cnf_atomic _ w m hr _ hw)) ?_
 rintro _ _ ⟨v_9, h0u22, rfl, rfl, H⟩
 apply Stg.next [(25, _)] Y Y
 refine Stg.go [] [6] Y Y QAll.nil ?_
 refine EAll.cons ?_ EAll.nil
 refine EOp.e Y Y Y (EffX.store hT Y Y Y Y (by first | rfl | exact FnV.one_toV _) H) ?_
 rintro _ _ ⟨h0u23, rfl, H⟩
 apply Stg.next [] Y Y
 refine Stg.go [] [7] Y Y QAll.nil ?_
 refine EAll.cons ?_ EAll.nil
 refine EOp.e Y Y Y (EffX.store hT Y Y Y Y (by first | rfl | exact FnV.one_toV _) H) ?_
 rintro _ _ ⟨h0u24, rfl, H⟩
 apply Stg.next [] Y Y
 refine Stg.fin [] Y Y QAll.nil ?_
 exact AtE.then_n ((HK5 _ () _ H).pickP (ts := [4, 5, 1]) (is := []) Y Y (by decide) Y)
 refine EAll.cons ?_ EAll.nil
 replace H := H.2.2
 refine EOp.e Y Y Y (EffX.alloc hT Y Y H) ?_
 rintro _ _ ⟨atom_4, h0u25, rfl, rfl, H⟩
 obtain ⟨hc10, H⟩ := H
 apply Stg.next [(5, _)] Y Y
 refine Stg.go [2] [3, 4] Y Y (qq Y (Quiet1.loadS hT Y Y Y Y hc10) Y QAll.nil) ?_
 refine EAll.cons ?_ ?_
 replace H := H.1
 refine EOp.e Y Y Y (cl (fun h => cnf_atomic _ h _) H Y Tryz.call102 Y (fun w m hr hw => lift_cnf_atomic _ w m hr _ hw)) ?_
 rintro _ _ ⟨v_10, h0u26, rfl, rfl, H⟩
 apply Stg.next [(25, _)] Y Y
 refine Stg.go [] [4] Y Y QAll.nil ?_
 refine EAll.cons ?_ EAll.nil
 refine EOp.e Y Y Y (EffX.alloc hT Y Y H) ?_
 rintro _ _ ⟨row_3, h0u27, rfl, rfl, H⟩
 apply Stg.next [(4, _)] Y Y
 refine Stg.go [] [6] Y Y QAll.nil ?_
 refine EAll.cons ?_ EAll.nil
 refine EOp.e Y Y Y (EffX.store hT Y Y Y Y (by first | rfl | exact FnV.one_toV _) H) ?_
 rintro _ _ ⟨h0u28, rfl, H⟩
 apply Stg.next [] Y Y
 refine Stg.go [] [7] Y Y QAll.nil ?_
 refine EAll.cons ?_ EAll.nil
 refine EOp.e Y Y Y (EffX.store hT Y Y Y Y (by first | rfl | exact FnV.one_toV _) H) ?_
 rintro _ _ ⟨h0u29, rfl, H⟩
 apply Stg.next [] Y Y
 refine Stg.fin [] Y Y QAll.nil ?_
 exact AtE.then_n ((HK5 _ () _ H).pickP (ts := [4, 5, 1]) (is := []) Y Y (by decide) Y)
 refine EAll.cons ?_ EAll.nil
 replace H := H.2
 refine EOp.e Y Y Y (EffX.alloc hT Y Y H) ?_
 rintro _ _ ⟨row_4, h0u30, rfl, rfl, H⟩
 obtain ⟨hc11, H⟩ := H
 apply Stg.next [(4, _)] Y Y
 refine Stg.go [2] [3] Y Y (qq Y (Quiet1.loadS hT Y Y Y Y hc11) Y QAll.nil) ?_
 refine EAll.cons ?_ EAll.nil
 refine EOp.e Y Y Y (cl (fun h => cnf_atomic _ h _) H Y Tryz.call102 Y (fun w m hr hw => lift_cnf_atomic _ w m hr _ hw)) ?_
 rintro _ _ ⟨v_11, h0u31, rfl, rfl, H⟩
 apply Stg.next [(25, _)] Y Y
 refine Stg.go [] [6] Y Y QAll.nil ?_
 refine EAll.cons ?_ EAll.nil
 refine EOp.e Y Y Y (EffX.store hT Y Y Y Y (by first | rfl | exact FnV.one_toV _) H) ?_
 rintro _ _ ⟨h0u32, rfl, H⟩
 apply Stg.next [] Y Y
 refine Stg.go [] [7] Y Y QAll.nil ?_
 refine EAll.cons ?_ EAll.nil
 refine EOp.e Y Y Y (EffX.store hT Y Y Y Y (by first | rfl | exact FnV.one_toV _) H) ?_
 rintro _ _ ⟨h0u33, rfl, H⟩
 apply Stg.next [] Y Y
 refine Stg.fin [] Y Y QAll.nil ?_
 exact AtE.then_n ((HK5 _ () _ H).pickP (ts := [4, 5, 1]) (is := []) Y Y (by decide) Y)
 refine EAll.cons ?_ ?_
 replace H := H.2.1
 refine EOp.e Y Y Y (EffX.alloc hT Y Y H) ?_
 rintro _ _ ⟨row_5, h0u34, rfl, rfl, H⟩
 obtain ⟨hc12, H⟩ := H
 obtain ⟨hc13, H⟩ := H
 apply Stg.next [(4, _)] Y Y
 refine Stg.go [0, 2] [1, 5] Y Y (qq Y (Quiet1.loadS hT Y Y Y Y hc12) Y (qq Y (Quiet1.loadS hT Y Y Y Y hc13) Y QAll.nil)) ?_
 refine EAll.cons ?_ ?_
 replace H := H.1
 refine EOp.e Y Y Y (cl (fun h => cnf_rowed _ h _) H Y Tryz.call101 Y (fun w m hr hw => lift_cnf_rowed _ w m hr _ hw)) ?_
 rintro _ _ ⟨v_12, h0u35, rfl, rfl, H⟩
 obtain ⟨hc14, H⟩ := H
 apply Stg.next [(23, _)] Y Y
 refine Stg.go [2] [3, 5] Y Y (qq Y (Quiet1.loadS hT Y Y Y Y hc14) Y QAll.nil) ?_
 refine EAll.cons ?_ ?_
 replace H := H.1
 refine EOp.e Y Y Y (cl (fun h => cnf_atomic _ h _) H Y Tryz.call102 Y (fun w m hr hw => lift_cnf_atomic _ w m hr _ hw)) ?_
 rintro _ _ ⟨v_13, h0u36, rfl, rfl, H⟩
 apply Stg.next [(25, _)] Y Y
 refine Stg.go [] [5] Y Y QAll.nil ?_
 refine EAll.cons ?_ EAll.nil
 refine EOp.e Y Y Y (EffX.alloc hT Y Y H) ?_
 rintro _ _ ⟨atom_5, h0u37, rfl, rfl, H⟩
 apply Stg.next [(5, _)] Y Y
 refine Stg.go [] [6] Y Y QAll.nil ?_
 refine EAll.cons ?_ EAll.nil
 refine EOp.e Y Y Y (EffX.store hT Y Y Y Y (by first | rfl | exact FnV.one_toV _) H) ?_
 rintro _ _ ⟨h0u38, rfl, H⟩
 apply Stg.next [] Y Y
 refine Stg.go [] [7] Y Y QAll.nil ?_
 refine EAll.cons ?_ EAll.nil
 refine EOp.e Y Y Y (EffX.store hT Y Y Y Y (by first | rfl | exact FnV.one_toV _) H) ?_
 rintro _ _ ⟨h0u39, rfl, H⟩
 apply Stg.next [] Y Y
 refine Stg.fin [] Y Y QAll.nil ?_
 exact AtE.then_n ((HK5 _ () _ H).pickP (ts := [4, 5, 1]) (is := []) Y Y (by decide) Y)
 refine EAll.cons ?_ EAll.nil
 replace H := H.2
 refine EOp.e Y Y Y (EffX.alloc hT Y Y H) ?_
 rintro _ _ ⟨atom_6, h0u40, rfl, rfl, H⟩
 obtain ⟨hc15, H⟩ := H
 apply Stg.next [(5, _)] Y Y
 refine Stg.go [2] [3] Y Y (qq Y (Quiet1.loadS hT Y Y Y Y hc15) Y QAll.nil) ?_
 refine EAll.cons ?_ EAll.nil
 refine EOp.e Y Y Y (cl (fun h => cnf_atomic _ h _) H Y Tryz.call102 Y (fun w m hr hw => lift_cnf_atomic _ w m hr _ hw)) ?_
 rintro _ _ ⟨v_14, h0u41, rfl, rfl, H⟩
 apply Stg.next [(25, _)] Y Y
 refine Stg.go [] [6] Y Y QAll.nil ?_
 refine EAll.cons ?_ EAll.nil
 refine EOp.e Y Y Y (EffX.store hT Y Y Y Y (by first | rfl | exact FnV.one_toV _) H) ?_
 rintro _ _ ⟨h0u42, rfl, H⟩
 apply Stg.next [] Y Y
 refine Stg.go [] [7] Y Y QAll.nil ?_
 refine EAll.cons ?_ EAll.nil
 refine EOp.e Y Y Y (EffX.store hT Y Y Y Y (by first | rfl | exact FnV.one_toV _) H) ?_
 rintro _ _ ⟨h0u43, rfl, H⟩
 apply Stg.next [] Y Y
 refine Stg.fin [] Y Y QAll.nil ?_
 exact AtE.then_n ((HK5 _ () _ H).pickP (ts := [4, 5, 1]) (is := []) Y Y (by decide) Y)
 refine EAll.cons ?_ EAll.nil
 replace H := H.2
 refine EOp.e Y Y Y (EffX.alloc hT Y Y H) ?_
 rintro _ _ ⟨atom_7, h0u44, rfl, rfl, H⟩
 obtain ⟨hc16, H⟩ := H
 obtain ⟨hc17, H⟩ := H
 apply Stg.next [(5, _)] Y Y
 refine Stg.go [0, 2] [1] Y Y (qq Y (Quiet1.loadS hT Y Y Y Y hc16) Y (qq Y (Quiet1.loadS hT Y Y Y Y hc17) Y QAll.nil)) ?_
 refine EAll.cons ?_ EAll.nil
 refine EOp.e Y Y Y (cl (fun h => cnf_rowed _ h _) H Y Tryz.call101 Y (fun w m hr hw => lift_cnf_rowed _ w m hr _ hw)) ?_
 rintro _ _ ⟨v_15, h0u45, rfl, rfl, H⟩
 obtain ⟨hc18, H⟩ := H
 apply Stg.next [(23, _)] Y Y
 refine Stg.go [2] [3] Y Y (qq Y (Quiet1.loadS hT Y Y Y Y hc18) Y QAll.nil) ?_
 refine EAll.cons ?_ EAll.nil
 refine EOp.e Y Y Y (cl (fun h => cnf_atomic _ h _) H Y Tryz.call102 Y (fun w m hr hw => lift_cnf_atomic _ w m hr _ hw)) ?_
 rintro _ _ ⟨v_16, h0u46, rfl, rfl, H⟩
 apply Stg.next [(25, _)] Y Y
 refine Stg.go [] [6] Y Y QAll.nil ?_
 refine EAll.cons ?_ EAll.nil
 refine EOp.e Y Y Y (EffX.store hT Y Y Y Y (by first | rfl | exact FnV.one_toV _) H) ?_
 rintro _ _ ⟨h0u47, rfl, H⟩
 apply Stg.next [] Y Y
 refine Stg.go [] [7] Y Y QAll.nil ?_
 refine EAll.cons ?_ EAll.nil
 refine EOp.e Y Y Y (EffX.store hT Y Y Y Y (by first | rfl | exact FnV.one_toV _) H) ?_
 rintro _ _ ⟨h0u48, rfl, H⟩
 apply Stg.next [] Y Y
 refine Stg.fin [] Y Y QAll.nil ?_
 exact AtE.then_n ((HK5 _ () _ H).pickP (ts := [4, 5, 1]) (is := []) Y Y (by decide) Y)
 refine EAll.cons ?_ EAll.nil
 replace H := H.2.2
 refine EOp.e Y Y Y (EffX.alloc hT Y Y H) ?_
 rintro _ _ ⟨atom_8, h0u49, rfl, rfl, H⟩
 obtain ⟨hc19, H⟩ := H
 obtain ⟨hc20, H⟩ := H
 apply Stg.next [(5, _)] Y Y
 refine Stg.go [0, 2] [1, 4] Y Y (qq Y (Quiet1.loadS hT Y Y Y Y hc19) Y (qq Y (Quiet1.loadS hT Y Y Y Y hc20) Y QAll.nil)) ?_
 refine EAll.cons ?_ ?_
 replace H := H.1
 refine EOp.e Y Y Y (cl (fun h => cnf_rowed _ h _) H Y Tryz.call101 Y (fun w m hr hw => lift_cnf_rowed _ w m hr _ hw)) ?_
 rintro _ _ ⟨v_17, h0u50, rfl, rfl, H⟩
 obtain ⟨hc21, H⟩ := H
 apply Stg.next [(23, _)] Y Y
 refine Stg.go [2] [3, 4] Y Y (qq Y (Quiet1.loadS hT Y Y Y Y hc21) Y QAll.nil) ?_
 refine EAll.cons ?_ ?_
 replace H := H.1
 refine EOp.e Y Y Y (cl (fun h => cnf_atomic _ h _) H Y Tryz.call102 Y (fun w m hr hw => lift_cnf_atomic _ w m hr _ hw)) ?_
 rintro _ _ ⟨v_18, h0u51, rfl, rfl, H⟩
 apply Stg.next [(25, _)] Y Y
 refine Stg.go [] [4] Y Y QAll.nil ?_
 refine EAll.cons ?_ EAll.nil
 refine EOp.e Y Y Y (EffX.alloc hT Y Y H) ?_
 rintro _ _ ⟨row_6, h0u52, rfl, rfl, H⟩
 apply Stg.next [(4, _)] Y Y
 refine Stg.go [] [6] Y Y QAll.nil ?_
 refine EAll.cons ?_ EAll.nil
 refine EOp.e Y Y Y (EffX.store hT Y Y Y Y (by first | rfl | exact FnV.one_toV _) H) ?_
 rintro _ _ ⟨h0u53, rfl, H⟩
 apply Stg.next [] Y Y
 refine Stg.go [] [7] Y Y QAll.nil ?_
 refine EAll.cons ?_ EAll.nil
 refine EOp.e Y Y Y (EffX.store hT Y Y Y Y (by first | rfl | exact FnV.one_toV _) H) ?_
 rintro _ _ ⟨h0u54, rfl, H⟩
 apply Stg.next [] Y Y
 refine Stg.fin [] Y Y QAll.nil ?_
 exact AtE.then_n ((HK5 _ () _ H).pickP (ts := [4, 5, 1]) (is := []) Y Y (by decide) Y)
 refine EAll.cons ?_ EAll.nil
 replace H := H.2
 refine EOp.e Y Y Y (EffX.alloc hT Y Y H) ?_
 rintro _ _ ⟨row_7, h0u55, rfl, rfl, H⟩
 obtain ⟨hc22, H⟩ := H
 apply Stg.next [(4, _)] Y Y
 refine Stg.go [2] [3] Y Y (qq Y (Quiet1.loadS hT Y Y Y Y hc22) Y QAll.nil) ?_
 refine EAll.cons ?_ EAll.nil
 refine EOp.e Y Y Y (cl (fun h => cnf_atomic _ h _) H Y Tryz.call102 Y (fun w m hr hw => lift_cnf_atomic _ w m hr _ hw)) ?_
 rintro _ _ ⟨v_19, h0u56, rfl, rfl, H⟩
 apply Stg.next [(25, _)] Y Y
 refine Stg.go [] [6] Y Y QAll.nil ?_
 refine EAll.cons ?_ EAll.nil
 refine EOp.e Y Y Y (EffX.store hT Y Y Y Y (by first | rfl | exact FnV.one_toV _) H) ?_
 rintro _ _ ⟨h0u57, rfl, H⟩
 apply Stg.next [] Y Y
 refine Stg.go [] [7] Y Y QAll.nil ?_
 refine EAll.cons ?_ EAll.nil
 refine EOp.e Y Y Y (EffX.store hT Y Y Y Y (by first | rfl | exact FnV.one_toV _) H) ?_
 rintro _ _ ⟨h0u58, rfl, H⟩
 apply Stg.next [] Y Y
 refine Stg.fin [] Y Y QAll.nil ?_
 exact AtE.then_n ((HK5 _ () _ H).pickP (ts := [4, 5, 1]) (is := []) Y Y (by decide) Y)
 refine EAll.cons ?_ EAll.nil
 replace H := H.2
 refine EOp.e Y Y Y (EffX.alloc hT Y Y H) ?_
 rintro _ _ ⟨row_8, h0u59, rfl, rfl, H⟩
 obtain ⟨hc23, H⟩ := H
 obtain ⟨hc24, H⟩ := H
 apply Stg.next [(4, _)] Y Y
 refine Stg.go [0, 2] [1] Y Y (qq Y (Quiet1.loadS hT Y Y Y Y hc23) Y (qq Y (Quiet1.loadS hT Y Y Y Y hc24) Y QAll.nil)) ?_
 refine EAll.cons ?_ EAll.nil
 refine EOp.e Y Y Y (cl (fun h => cnf_rowed _ h _) H Y Tryz.call101 Y (fun w m hr hw => lift_cnf_rowed _ w m hr _ hw)) ?_
 rintro _ _ ⟨v_20, h0u60, rfl, rfl, H⟩
 obtain ⟨hc25, H⟩ := H
 apply Stg.next [(23, _)] Y Y
 refine Stg.go [2] [3] Y Y (qq Y (Quiet1.loadS hT Y Y Y Y hc25) Y QAll.nil) ?_
 refine EAll.cons ?_ EAll.nil
 refine EOp.e Y Y Y (cl (fun h => cnf_atomic _ h _) H Y Tryz.call102 Y (fun w m hr hw => lift_cnf_atomic _ w m hr _ hw)) ?_
 rintro _ _ ⟨v_21, h0u61, rfl, rfl, H⟩
 apply Stg.next [(25, _)] Y Y
 refine Stg.go [] [6] Y Y QAll.nil ?_
 refine EAll.cons ?_ EAll.nil
 refine EOp.e Y Y Y (EffX.store hT Y Y Y Y (by first | rfl | exact FnV.one_toV _) H) ?_
 rintro _ _ ⟨h0u62, rfl, H⟩
 apply Stg.next [] Y Y
 refine Stg.go [] [7] Y Y QAll.nil ?_
 refine EAll.cons ?_ EAll.nil
 refine EOp.e Y Y Y (EffX.store hT Y Y Y Y (by first | rfl | exact FnV.one_toV _) H) ?_
 rintro _ _ ⟨h0u63, rfl, H⟩
 apply Stg.next [] Y Y
 refine Stg.fin [] Y Y QAll.nil ?_
 exact AtE.then_n ((HK5 _ () _ H).pickP (ts := [4, 5, 1]) (is := []) Y Y (by decide) Y)
 refine AtC.region (pu hT 1 Y ?_)
 obtain ⟨v, hc1, H⟩ := H
 refine AtL.q Y (Quiet1.load hT Y Y Y hc1) (pu hT 2 Y ?_)
 refine AtL.splitB (t := 11) H Y (fun H => ?_) (fun H => ?_)
 refine nf Y (nf Y (nf Y (pu hT 2 Y (nf Y (nf Y ?_)))))
 refine nf Y (nf Y (pu hT 2 Y (AtL.nil ?_)))
 exact AtE.then_n ((HK1 _ () _ H).pickP (ts := [7, 1]) (is := []) Y Y (by decide) Y)
 refine ys Y (pu hT 1 Y (ys Y ?_))
 obtain ⟨v_1, hc2, H⟩ := H
 refine AtL.q Y (Quiet1.load hT Y Y Y hc2) (ys Y (pu hT 1 Y (pu hT 2 Y ?_)))
 refine AtL.splitB (t := 16) H Y (fun H => ?_) (fun H => ?_)
 refine nf Y (nf Y (nf Y (nf Y (pu hT 2 Y (AtL.nil ?_)))))
 exact AtE.then_n ((HK1 _ () _ H).pickP (ts := [7, 1]) (is := []) Y Y (by decide) Y)
 refine ys Y (pu hT 1 Y (ys Y ?_))
 obtain ⟨v_2, hc3, H⟩ := H
 refine AtL.q Y (Quiet1.load hT Y Y Y hc3) (ys Y (AtL.q Y (Quiet1.makeFn (bs := []) (cs := [_]) Y Y Y) (ys Y (AtL.e Y (cl (fun h => slices_ContainsFunc_int_int__cnf_Right_c2 _ _ h _) H Y Tryz.call98 Y (fun w m hr hw => lift_slices_ContainsFunc_int_int__cnf_Right_c2 _ _ w m hr _ hw)) ?_))))
 rintro _ _ ⟨v_3, h0u4, rfl, rfl, H⟩
 refine pu hT 2 Y (AtL.nil ?_)
 exact AtE.then_n ((HK1 _ () _ H).pickP (ts := [7, 1]) (is := []) Y Y (by decide) Y)
theorem lift_farkas_size (lit : Int) (w : World) (m : Heap) (hr : Rel ⟨m, []⟩ w.heap) (S : Int → Heap → Prop) (H : farkas_size lit m S) :
 Calls Tryz.prog 41 #[Value.int .i64 lit] w (Post ⟨w, m⟩ (Value.int .i64) S) := by
 refine Calls.lift (args := [Value.int .i64 lit]) Tryz.func41 Y Tryz.ntmps41 (Nat.le_of_ble_eq_true Y) hr (farkas_size lit m S) H (fun H => ?_)
 refine AtC.pick (ts := [0]) Y ?_
 unfold farkas_size at H
 refine sR (pu hT 1 Y (ng (sR (pu hT 6 Y (ng ?_)))))
 refine AtC.ret ?_
 exact r1 2 Y Y Y H
theorem lift_farkas_Holds_c1 (a : Int × Int × Int × Bool × Sl × Sl × Bool × Sl × Sl) (c0 : Addr) (w : World) (m : Heap) (hr : Rel ⟨m, []⟩ w.heap) (S : Bool → Heap → Prop) (H : farkas_Holds_c1 a c0 m S) :
 Calls Tryz.prog 40 #[Value.agg (C_i64ui64ui64ubool_sl_sl_bool_sl_sl a).toArray, Value.pointer (some c0)] w (Post ⟨w, m⟩ Value.bool S) := by
 refine Calls.lift (args := [Value.agg (C_i64ui64ui64ubool_sl_sl_bool_sl_sl a).toArray, Value.pointer (some c0)]) Tryz.func40 Y Tryz.ntmps40 (Nat.le_of_ble_eq_true Y) hr (farkas_Holds_c1 a c0 m S) H (fun H => ?_)
 refine AtC.pick (ts := [0, 1]) Y ?_
 unfold farkas_Holds_c1 at H
 refine sR (AtL.e Y (EffX.boxP (cs := [_, _, _, _, _, _, _, _, _]) Y Y Y H) ?_)
 rintro _ _ ⟨b, _, rfl, rfl, _, H⟩
 replace H := H.self
 refine pu hT 1 Y (ng ?_)
 refine AtC.joinSeq (β := Unit) (fun (t0 : Bool) (bb : Unit) => [(3, Value.bool t0)]) (fun (t0 : Bool) (bb : Unit) => []) [] [] H Y Y (fun t0 bb h0u1 H => ?_) (fun J1 H HK1 => ?_)
 refine AtC.ret ?_
 exact r1 3 Y Y Y H
 obtain ⟨v, hc1, H⟩ := H
 rcases iteB.cases H with ⟨hb2, H⟩ | ⟨hb2, H⟩
 obtain ⟨v_1, hc3, H⟩ := H
 apply AtC.stages [8] [[], [], [], [], [], [], [], [], [], [8], [8], [8]] [[], [0], [0, 1], [0, 1, 2], [0, 1, 2, 3], [0, 1, 2, 3, 4], [0, 1, 2, 3], [0, 1, 2, 3, 6], [0, 1, 2, 3, 6, 7], [0, 1, 2, 3, 4, 5, 6, 7, 8], [0, 1, 2, 3, 4, 5, 6, 7, 8, 9], [0, 1, 2, 3, 4, 5, 6, 7, 8, 9, 10]] hmix (by kernel_rfl) [(4, _), (5, _), (6, _), (7, _), (8, _), (9, _), (10, _), (11, _)] Y 1 Y
 refine Stg.known (t := 7) Y hb2 (Stg.go [0, 1, 2, 3, 4, 5, 6, 7] [8] Y Y (qp hT Y (qq Y (Quiet1.load hT Y Y Y hc1) Y (qp hT Y (QAll.cons (QOp.pk hT Y Y Y Y hb2 Y) (QAll.cons (QOp.yp hT Y Y Y Y Y Y Y) (QAll.cons (QOp.y Y Y Y Y (lP hT 0 Y) Y Y) (QAll.cons (QOp.yp hT Y Y Y Y Y Y Y) (QAll.cons (QOp.y Y Y Y Y (Quiet1.load hT Y Y Y hc3) Y Y) QAll.nil)))))))) ?_)
 refine EAll.cons ?_ EAll.nil
 refine EOp.y Y Y Y Y Y (cl (fun h => farkas_size _ h _) H Y Tryz.call41 Y (fun w m hr hw => lift_farkas_size _ w m hr _ hw)) ?_
 rintro _ _ ⟨v_2, h0u2, rfl, rfl, H⟩
 apply Stg.next [(12, _), (13, _), (14, _), (3, _)] Y Y
 refine Stg.fin [4, 5, 9, 10, 11] Y Y (QAll.cons (QOp.yp hT Y Y Y Y Y Y Y) (QAll.cons (QOp.y Y Y Y Y (lP hT 0 Y) Y Y) (QAll.cons (QOp.yp hT Y Y Y Y Y Y Y) (qp hT Y (qp hT Y QAll.nil))))) ?_
 exact AtE.then_n ((HK1 _ () _ H).pickP (ts := [3]) (is := []) Y Y (by decide) Y)
 apply AtC.stages [8] [[], [], [], [], [], [], [], [], [], [8], [8], [8]] [[], [0], [0, 1], [0, 1, 2], [0, 1, 2, 3], [0, 1, 2, 3, 4], [0, 1, 2, 3], [0, 1, 2, 3, 6], [0, 1, 2, 3, 6, 7], [0, 1, 2, 3, 4, 5, 6, 7, 8], [0, 1, 2, 3, 4, 5, 6, 7, 8, 9], [0, 1, 2, 3, 4, 5, 6, 7, 8, 9, 10]] hmix (by kernel_rfl) [(4, _), (5, _), (6, _), (7, _), (8, _), (9, _), (10, _), (11, _)] Y 1 Y
 refine Stg.known (t := 7) Y hb2 (Stg.go [0, 1, 2, 3, 4, 5, 6, 7] [8] Y Y (qp hT Y (qq Y (Quiet1.load hT Y Y Y hc1) Y (qp hT Y (QAll.cons (QOp.pk hT Y Y Y Y hb2 Y) (qn Y Y Y Y (by decide) Y Y (qn Y Y Y Y (by decide) Y Y (qn Y Y Y Y (by decide) Y Y (qn Y Y Y Y (by decide) Y Y QAll.nil)))))))) ?_)
 refine EAll.cons ?_ EAll.nil
 refine EOp.no Y Y Y Y (by decide) Y ?_
 apply Stg.next [(12, _), (13, _), (14, _), (3, _)] Y Y
 refine Stg.fin [4, 5, 9, 10, 11] Y Y (qn Y Y Y Y (by decide) Y Y (qn Y Y Y Y (by decide) Y Y (qn Y Y Y Y (by decide) Y Y (qp hT Y (qp hT Y QAll.nil))))) ?_
 exact AtE.then_n ((HK1 _ () _ H).pickP (ts := [3]) (is := []) Y Y (by decide) Y)
theorem lift_slices_IndexFunc_api_Atom_api_Atom__farkas_Holds_c1 (s0 : Sl) (f_c : Addr) (w : World) (m : Heap) (hr : Rel ⟨m, []⟩ w.heap) (S : Int → Heap → Prop) (H : slices_IndexFunc_api_Atom_api_Atom__farkas_Holds_c1 s0 f_c m S) :
 Calls Tryz.prog 39 #[Sl.toV s0, Value.func (.func 40) #[] #[Value.pointer (some f_c)]] w (Post ⟨w, m⟩ (Value.int .i64) S) := by
 refine Calls.lift (args := [Sl.toV s0, Value.func (.func 40) #[] #[Value.pointer (some f_c)]]) Tryz.func39 Y Tryz.ntmps39 (Nat.le_of_ble_eq_true Y) hr (slices_IndexFunc_api_Atom_api_Atom__farkas_Holds_c1 s0 f_c m S) H (fun H => ?_)
 refine AtC.pick (ts := [0, 1]) Y ?_
 unfold slices_IndexFunc_api_Atom_api_Atom__farkas_Holds_c1 at H
 refine sR (pu hT 1 Y (ng (AtC.seq (sR (pu hT 3 Y ?_)))))
 refine ng (AtC.block ?_)
 refine AtC.loopM (fun (s0u1 : Int) => [(8, Value.int .i64 s0u1)]) (fun (s0u1 : Int) => []) [0, 1, 7] [8, 0, 1, 7] [] [] H Y Y Y (by decide) Y (fun Kp1 s0u1 h0 H Q1 HK1 => ?_)
 refine sR (pu hT 1 Y (ng (AtC.seq ?_)))
 refine AtC.condB H Y (fun H => ?_) (fun H => ?_)
 refine AtC.skip (tg (AtC.seq (AtC.block (sR (pu hT 2 Y ?_)))))
 refine ng (sR (pu hT 3 Y ?_))
 obtain ⟨a_, hc1, hd1, H⟩ := H
 refine AtL.q Y (Quiet1.idxS hT Y Y Y Y Y hc1 hd1) ?_
 obtain ⟨v, hc2, H⟩ := H
 refine AtL.q Y (Quiet1.loadS hT Y Y Y Y hc2) (AtL.e Y (EffX.callF (bs := []) (cs := [_]) (f := 40) (sh := fun h => farkas_Holds_c1 _ _ h _) (H0 := H) Y Y Tryz.call40 Y (hl := fun w m hr hw => lift_farkas_Holds_c1 _ _ w m hr _ hw)) ?_)
 rintro _ _ ⟨v_1, h0u1, rfl, rfl, H⟩
 refine ng ?_
 refine AtC.condB H Y (fun H => ?_) (fun H => ?_)
 refine sR (pu hT 2 Y (ng (AtC.ret (AtE.blk_r (AtE.then_r ?_)))))
 refine AtE.then_r (AtE.blk_r (AtE.then_r ?_))
 exact r1 4 Y Y Y H
 refine AtC.skip (AtE.blk_n (tg (AtC.region (pu hT 2 Y (AtL.nil ?_)))))
 exact AtE.then_n ((HK1 _ _ H).pickP (ts := [8, 0, 1, 7]) (is := []) Y Y (by decide) Y)
 refine AtC.exit (AtE.then_x (AtE.then_x (AtE.blk_hit (tg (sR ?_)))))
 refine pu hT 1 Y (ng (AtC.ret ?_))
 exact r1 4 Y Y Y H
theorem lift_linear_Of (v : Int) (w : World) (m : Heap) (hr : Rel ⟨m, []⟩ w.heap) (S : (Bool × Sl × Sl × Sl) → Heap → Prop) (H : linear_Of v m S) :
 Calls Tryz.prog 86 #[Value.int .i64 v] w (Post ⟨w, m⟩ (fun r => Value.agg (C_bool_sl_sl_sl r).toArray) S) := by
 refine Calls.lift (args := [Value.int .i64 v]) Tryz.func86 Y Tryz.ntmps86 (Nat.le_of_ble_eq_true Y) hr (linear_Of v m S) H (fun H => ?_)
 refine AtC.pick (ts := [0]) Y ?_
 unfold linear_Of at H
 refine sR (AtL.e Y (EffX.allocP (cs := [_, _, _, _]) hT Y Y H) ?_)
 rintro _ _ ⟨b, _, rfl, rfl, _, H⟩
 refine AtL.nil ?_
 replace H := H.self
 refine tg (sR (pu hT 1 Y (AtL.e Y (cl (fun h => ratio_Of _ h _) H Y Tryz.call12 Y (fun w m hr hw => lift_ratio_Of _ w m hr _ hw)) ?_)))
 rintro _ _ ⟨v_1, h0u1, rfl, rfl, H⟩
 refine AtL.q Y (Quiet1.build (cs := [_, _, _, _]) hT Y Y Y Y Y Y) ?_
 refine AtLX.bs (hT := hT) (cs := [_, _, _, _]) H Y Y Y Y Y Y Y Y Y (fun a h0u2 H => ?_)
 refine AtL.q Y (Quiet1.build (cs := [_, _, _, _]) hT Y Y Y Y Y Y) (AtL.e Y (EffX.storeSP (i := 0) (qv := [(_, [_, _, _, _])]) hT Y Y Y Y Y Y Y Y Y Y) ?_)
 rintro _ _ rfl
 refine ng (AtC.ret ?_)
 exact AtE.retN (rs := [.cell 2 52]) Y (ResAll.cons (ResAt.cellSP (i := 0) (l := [_, _, _, _]) hT Y Y Y Y Y Y Y) ResAll.nil) Y H
theorem lift_nat_bit (x0 : Sl) (at0 : Int) (w : World) (m : Heap) (hr : Rel ⟨m, []⟩ w.heap) (S : Int → Heap → Prop) (H : nat_bit x0 at0 m S) :
 Calls Tryz.prog 169 #[Sl.toV x0, Value.int .i64 at0] w (Post ⟨w, m⟩ (Value.int .u32) S) := by
 refine Calls.lift (args := [Sl.toV x0, Value.int .i64 at0]) Tryz.func169 Y Tryz.ntmps169 (Nat.le_of_ble_eq_true Y) hr (nat_bit x0 at0 m S) H (fun H => ?_)
 refine AtC.pick (ts := [0, 1]) Y ?_
 unfold nat_bit at H
 refine sR (pu hT 1 Y (ng (sR (pu hT 3 Y ?_))))
 obtain ⟨a_, hc0, hd0, H⟩ := H
 refine AtL.q Y (Quiet1.idxS hT Y Y Y Y Y hc0 hd0) ?_
 obtain ⟨v, hc1, H⟩ := H
 refine AtL.q Y (Quiet1.load hT Y Y Y hc1) (pu hT 2 Y ?_)
 obtain ⟨hd2, H⟩ := H
 refine AtL.q Y (Quiet1.shr Y Y Y hd2) (pu hT 2 Y (ng (AtC.ret ?_)))
 exact r1 4 Y Y Y H
end Go.Proofs.YtjppcjbmepcneaaGreatDoor

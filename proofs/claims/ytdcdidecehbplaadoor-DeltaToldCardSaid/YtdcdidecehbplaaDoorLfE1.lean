/-
  The deep code does what the functions of the shallow text say: printed by lift.py.
-/
import Derived.Test.YtdcdidecehbplaaDoorProg
import Derived.Test.YtdcdidecehbplaaDoorSh
set_option linter.unusedVariables false
set_option linter.unusedSimpArgs false
namespace Go.Proofs.YtdcdidecehbplaaDoor
open Go Go.Lift Go.Sh
set_option maxRecDepth 100000
set_option maxHeartbeats 4000000
attribute [local irreducible] Calls AtL AtC AtE AtD Eff Quiet1 Stg qAt QAll eAt EAll nextK Code.wp

def T : TTab := [(2, .int .i64, 1, 8, [Value.int .i64 0]), (3, .int .i64, 1, 8, [Value.int .i64 0]), (4, .bool, 1, 1, [Value.bool false]), (5, .int .u8, 1, 1, [Value.int .u8 0]), (9, .string, 1, 16, [Value.string (ByteArray.mk #[])]), (23, .slice 47, 1, 24, [Sl.toV Sl.nil]), (31, .slice 3, 1, 24, [Sl.toV Sl.nil]), (47, .int .u32, 1, 4, [Value.int .u32 0]), (52, .struct #[⟨ "Neg", 4, 0, false, "", "", 0⟩, ⟨ "Mag", 23, 1, false, "", "", 8⟩], 2, 32, [Value.bool false, Sl.toV Sl.nil]), (54, .struct #[⟨ "Num", 52, 0, false, "", "", 0⟩, ⟨ "Den", 23, 2, false, "", "", 32⟩], 3, 56, [Value.bool false, Sl.toV Sl.nil, Sl.toV Sl.nil]), (56, .struct #[⟨ "A", 54, 0, false, "", "", 0⟩, ⟨ "B", 54, 3, false, "", "", 56⟩], 6, 112, [Value.bool false, Sl.toV Sl.nil, Sl.toV Sl.nil, Value.bool false, Sl.toV Sl.nil, Sl.toV Sl.nil]), (59, .struct #[⟨ "Neg", 4, 0, false, "", "", 0⟩, ⟨ "Num", 31, 1, false, "", "", 8⟩, ⟨ "Den", 31, 2, false, "", "", 32⟩], 3, 56, [Value.bool false, Sl.toV Sl.nil, Sl.toV Sl.nil]), (61, .struct #[⟨ "A", 59, 0, false, "", "", 0⟩, ⟨ "B", 59, 3, false, "", "", 56⟩], 6, 112, [Value.bool false, Sl.toV Sl.nil, Sl.toV Sl.nil, Value.bool false, Sl.toV Sl.nil, Sl.toV Sl.nil]), (91, .slice 54, 1, 24, [Sl.toV Sl.nil]), (114, .int .u64, 1, 8, [Value.int .u64 0]), (117, .struct #[⟨ "limbs", 3, 0, false, "", "steelyard/nat", 0⟩, ⟨ "over", 4, 1, false, "", "steelyard/nat", 8⟩], 2, 16, [Value.int .i64 0, Value.bool false]), (122, .slice 5, 1, 24, [Sl.toV Sl.nil]), (126, .slice 56, 1, 24, [Sl.toV Sl.nil]), (145, .array 2 23, 2, 48, [Sl.toV Sl.nil, Sl.toV Sl.nil]), (171, .array 32 5, 32, 32, [Value.int .u8 0, Value.int .u8 0, Value.int .u8 0, Value.int .u8 0, Value.int .u8 0, Value.int .u8 0, Value.int .u8 0, Value.int .u8 0, Value.int .u8 0, Value.int .u8 0, Value.int .u8 0, Value.int .u8 0, Value.int .u8 0, Value.int .u8 0, Value.int .u8 0, Value.int .u8 0, Value.int .u8 0, Value.int .u8 0, Value.int .u8 0, Value.int .u8 0, Value.int .u8 0, Value.int .u8 0, Value.int .u8 0, Value.int .u8 0, Value.int .u8 0, Value.int .u8 0, Value.int .u8 0, Value.int .u8 0, Value.int .u8 0, Value.int .u8 0, Value.int .u8 0, Value.int .u8 0])]
theorem hT : TTab.Ok Tryd.prog T := TTab.ok_cons (by kernel_rfl) (by kernel_rfl) (TTab.ok_cons (by kernel_rfl) (by kernel_rfl) (TTab.ok_cons (by kernel_rfl) (by kernel_rfl) (TTab.ok_cons (by kernel_rfl) (by kernel_rfl) (TTab.ok_cons (by kernel_rfl) (by kernel_rfl) (TTab.ok_cons (by kernel_rfl) (by kernel_rfl) (TTab.ok_cons (by kernel_rfl) (by kernel_rfl) (TTab.ok_cons (by kernel_rfl) (by kernel_rfl) (TTab.ok_cons (by kernel_rfl) (by kernel_rfl) (TTab.ok_cons (by kernel_rfl) (by kernel_rfl) (TTab.ok_cons (by kernel_rfl) (by kernel_rfl) (TTab.ok_cons (by kernel_rfl) (by kernel_rfl) (TTab.ok_cons (by kernel_rfl) (by kernel_rfl) (TTab.ok_cons (by kernel_rfl) (by kernel_rfl) (TTab.ok_cons (by kernel_rfl) (by kernel_rfl) (TTab.ok_cons (by kernel_rfl) (by kernel_rfl) (TTab.ok_cons (by kernel_rfl) (by kernel_rfl) (TTab.ok_cons (by kernel_rfl) (by kernel_rfl) (TTab.ok_cons (by kernel_rfl) (by kernel_rfl) (TTab.ok_cons (by kernel_rfl) (by kernel_rfl) (TTab.ok_nil _))))))))))))))))))))
theorem hmix : Tryd.prog.follows .mixedOrders = true := by kernel_rfl

theorem lift_nat_trim (x0 : Sl) (w : World) (m : Heap) (hr : Rel ⟨m, []⟩ w.heap) (S : Sl → Heap → Prop) (H : nat_trim x0 m S) :
    Calls Tryd.prog 89 #[Sl.toV x0] w (Post ⟨w, m⟩ Sl.toV S) := by
  refine Calls.lift (args := [Sl.toV x0]) Tryd.func89 rfl Tryd.ntmps89 (Nat.le_of_ble_eq_true rfl) hr (nat_trim x0 m S) H (fun H => ?_)
  refine AtC.pick (ts := [0]) rfl ?_
  unfold nat_trim at H
  refine AtC.seqR ?_
  refine AtL.pures hT 1 _ _ _ _ rfl ?_
  refine AtL.nil ?_
  refine AtE.then_n (AtE.go ?_)
  refine AtC.seq ?_
  refine AtC.block ?_
  refine AtC.loopM (fun (s0 : Sl) => [(0, Sl.toV s0)]) (fun (s0 : Sl) => []) [] [0] [] [] H (by exact rfl) (by exact rfl) (by exact rfl) (by decide) (by exact rfl) (fun Kp1 s0 h0 H Q1 HK1 => ?_)
  refine AtC.seq ?_
  refine AtC.joinSeq (β := Unit) (fun (t0 : Bool) (bb : Unit) => [(14, Value.bool t0)]) (fun (t0 : Bool) (bb : Unit) => []) [0] [] H (by exact rfl) (by exact rfl) (fun t0 bb h0u1 H => ?_) (fun J2 H HK2 => ?_)
  ·
   refine AtC.condB H rfl (fun H => ?_) (fun H => ?_)
   ·
    refine AtC.skip ?_
    refine AtE.then_n (AtE.go ?_)
    refine AtC.block ?_
    refine AtC.region ?_
    refine AtL.pures hT 4 _ _ _ _ rfl ?_
    refine AtL.sl (hT := hT) H rfl rfl rfl rfl rfl rfl rfl (fun h => by cases h <;> rfl) rfl (fun v_1 H => ?_)
    refine AtL.pures hT 1 _ _ _ _ rfl ?_
    refine AtL.nil ?_
    refine AtE.blk_n ?_
    exact AtE.then_n ((HK1 _ _ H).pickP (ts := [0]) (is := []) rfl rfl (by decide) rfl)
   ·
    refine AtC.exit ?_
    refine AtE.then_x ?_
    refine AtE.then_x ?_
    refine AtE.blk_hit ?_
    refine AtE.then_n (AtE.go ?_)
    refine AtC.seqR ?_
    refine AtL.pures hT 2 _ _ _ _ rfl ?_
    refine AtL.nil ?_
    refine AtE.then_n (AtE.go ?_)
    refine AtC.ret ?_
    exact AtE.retN (rs := [.tmp 2]) rfl (ResAll.cons (ResAt.tmp rfl) ResAll.nil) rfl H
  ·
   refine AtC.region ?_
   refine AtL.pures hT 4 _ _ _ _ rfl ?_
   refine AtL.splitB (t := 6) H rfl (fun H => ?_) (fun H => ?_)
   ·
    refine AtL.yes rfl rfl rfl ?_
    refine AtL.pures hT 1 _ _ _ _ rfl ?_
    refine AtL.yes rfl rfl rfl ?_
    refine AtL.pures hT 1 _ _ _ _ rfl ?_
    refine AtL.yes rfl rfl rfl ?_
    refine AtL.pures hT 1 _ _ _ _ rfl ?_
    refine AtL.yes rfl rfl rfl ?_
    refine AtL.pures hT 1 _ _ _ _ rfl ?_
    refine AtL.yes rfl rfl rfl ?_
    obtain ⟨a_, hc2, hd2, H⟩ := H
    refine AtL.q rfl (Quiet1.idxS (s := _) hT rfl rfl rfl rfl rfl hc2 hd2) ?_
    refine AtL.yes rfl rfl rfl ?_
    obtain ⟨v, hc3, H⟩ := H
    refine AtL.q rfl (Quiet1.load hT rfl rfl rfl hc3) ?_
    refine AtL.yes rfl rfl rfl ?_
    refine AtL.pures hT 1 _ _ _ _ rfl ?_
    refine AtL.pures hT 1 _ _ _ _ rfl ?_
    refine AtL.nil ?_
    exact AtE.then_n ((HK2 _ () _ H).pickP (ts := [14, 0]) (is := []) rfl rfl (by decide) rfl)
   ·
    refine AtL.noF rfl rfl rfl (by decide) rfl ?_
    refine AtL.noF rfl rfl rfl (by decide) rfl ?_
    refine AtL.noF rfl rfl rfl (by decide) rfl ?_
    refine AtL.noF rfl rfl rfl (by decide) rfl ?_
    refine AtL.noF rfl rfl rfl (by decide) rfl ?_
    refine AtL.noF rfl rfl rfl (by decide) rfl ?_
    refine AtL.noF rfl rfl rfl (by decide) rfl ?_
    refine AtL.pures hT 1 _ _ _ _ rfl ?_
    refine AtL.nil ?_
    exact AtE.then_n ((HK2 _ () _ H).pickP (ts := [14, 0]) (is := []) rfl rfl (by decide) rfl)

theorem lift_nat_Of (n : Int) (w : World) (m : Heap) (hr : Rel ⟨m, []⟩ w.heap) (S : Sl → Heap → Prop) (H : nat_Of n m S) :
    Calls Tryd.prog 85 #[Value.int .u64 n] w (Post ⟨w, m⟩ Sl.toV S) := by
  refine Calls.lift (args := [Value.int .u64 n]) Tryd.func85 rfl Tryd.ntmps85 (Nat.le_of_ble_eq_true rfl) hr (nat_Of n m S) H (fun H => ?_)
  refine AtC.pick (ts := [0]) rfl ?_
  unfold nat_Of at H
  refine AtC.seqR ?_
  refine AtL.pures hT 1 _ _ _ _ rfl ?_
  refine AtL.nil ?_
  refine AtE.then_n (AtE.go ?_)
  refine AtC.seqR ?_
  refine AtL.pures hT 5 _ _ _ _ rfl ?_
  refine AtLX.bs (hT := hT) (cs := [_, _]) H rfl rfl rfl rfl rfl rfl rfl rfl rfl (fun a h0 H => ?_)
  refine AtL.e rfl (EffX.call (f := 89) (sh := fun h => nat_trim _ h _) (H0 := H) rfl Tryd.call89 rfl (hl := fun w m hr hw => lift_nat_trim _ w m hr _ hw)) ?_
  rintro _ _ ⟨v_1, h0u1, rfl, rfl, H⟩
  refine AtL.pures hT 1 _ _ _ _ rfl ?_
  refine AtL.nil ?_
  refine AtE.then_n (AtE.go ?_)
  refine AtC.ret ?_
  exact AtE.retN (rs := [.tmp 2]) rfl (ResAll.cons (ResAt.tmp rfl) ResAll.nil) rfl H

theorem lift_ratio_Of (n : Int) (w : World) (m : Heap) (hr : Rel ⟨m, []⟩ w.heap) (S : (Bool × Sl × Sl) → Heap → Prop) (H : ratio_Of n m S) :
    Calls Tryd.prog 64 #[Value.int .i64 n] w (Post ⟨w, m⟩ (fun r => Value.agg (C_bool_sl_sl r).toArray) S) := by
  refine Calls.lift (args := [Value.int .i64 n]) Tryd.func64 rfl Tryd.ntmps64 (Nat.le_of_ble_eq_true rfl) hr (ratio_Of n m S) H (fun H => ?_)
  refine AtC.pick (ts := [0]) rfl ?_
  unfold ratio_Of at H
  refine AtC.seqR ?_
  refine AtL.e rfl (EffX.allocP (cs := [_, _, _]) hT rfl rfl H) ?_
  rintro _ _ ⟨b, _, rfl, rfl, _, H⟩
  refine AtL.nil ?_
  replace H := H.self
  refine AtE.then_n (AtE.go ?_)
  refine AtC.seqR ?_
  refine AtL.pures hT 3 _ _ _ _ rfl ?_
  replace H := H _ rfl
  refine AtL.nil ?_
  refine AtE.then_n (AtE.go ?_)
  refine AtC.joinSeq (β := Unit) (fun (t0 : Int) (bb : Unit) => [(3, Value.int .u64 t0)]) (fun (t0 : Int) (bb : Unit) => []) [0, 2] [0] H (by exact rfl) (by exact rfl) (fun t0 bb h0u1 H => ?_) (fun J1 H HK1 => ?_)
  ·
   refine AtC.seqR ?_
   refine AtL.pures hT 3 _ _ _ _ rfl ?_
   refine AtL.e rfl (EffX.call (f := 85) (sh := fun h => nat_Of _ h _) (H0 := H) rfl Tryd.call85 rfl (hl := fun w m hr hw => lift_nat_Of _ w m hr _ hw)) ?_
   rintro _ _ ⟨v, h0u2, rfl, rfl, H⟩
   refine AtL.q rfl (Quiet1.build (cs := [_, _]) hT rfl rfl rfl rfl rfl rfl) ?_
   refine AtL.q rfl (Quiet1.build (cs := [_, _, _]) hT rfl rfl rfl rfl rfl rfl) ?_
   refine AtL.e rfl (EffX.storeSP (i := 0) (qv := [(_, [_, _, _])]) hT rfl rfl rfl rfl rfl rfl rfl rfl rfl rfl) ?_
   rintro _ _ rfl
   refine AtL.nil ?_
   refine AtE.then_n (AtE.go ?_)
   refine AtC.ret ?_
   exact AtE.retN (rs := [.cell 2 54]) rfl (ResAll.cons (ResAt.cellSP (i := 0) (l := [_, _, _]) hT rfl rfl rfl rfl rfl rfl rfl) ResAll.nil) rfl H
  ·
   refine AtC.seqR ?_
   refine AtL.pures hT 2 _ _ _ _ rfl ?_
   refine AtL.nil ?_
   refine AtE.then_n (AtE.go ?_)
   refine AtC.condB H rfl (fun H => ?_) (fun H => ?_)
   ·
    refine AtC.region ?_
    refine AtL.pures hT 3 _ _ _ _ rfl ?_
    replace H := H _ rfl
    refine AtL.nil ?_
    exact AtE.then_n ((HK1 _ () _ H).pickP (ts := [3, 0, 2]) (is := [0]) rfl rfl (by decide) rfl)
   ·
    refine AtC.skip ?_
    exact AtE.then_n ((HK1 _ () _ H).pickP (ts := [3, 0, 2]) (is := [0]) rfl rfl (by decide) rfl)

theorem lift_delta_Of (x0 : Bool × Sl × Sl) (w : World) (m : Heap) (hr : Rel ⟨m, []⟩ w.heap) (S : (Bool × Sl × Sl × Bool × Sl × Sl) → Heap → Prop) (H : delta_Of x0 m S) :
    Calls Tryd.prog 56 #[Value.agg (C_bool_sl_sl x0).toArray] w (Post ⟨w, m⟩ (fun r => Value.agg (C_bool_sl_sl_bool_sl_sl r).toArray) S) := by
  refine Calls.lift (args := [Value.agg (C_bool_sl_sl x0).toArray]) Tryd.func56 rfl Tryd.ntmps56 (Nat.le_of_ble_eq_true rfl) hr (delta_Of x0 m S) H (fun H => ?_)
  refine AtC.pick (ts := [0]) rfl ?_
  unfold delta_Of at H
  refine AtC.seqR ?_
  refine AtL.e rfl (EffX.boxP (cs := [_, _, _]) rfl rfl rfl H) ?_
  rintro _ _ ⟨b, _, rfl, rfl, _, H⟩
  refine AtL.e rfl (EffX.allocP (cs := [_, _, _, _, _, _]) hT rfl rfl H) ?_
  rintro _ _ ⟨b_1, _, rfl, rfl, _, H⟩
  refine AtL.nil ?_
  replace H := H.self
  refine AtE.then_n (AtE.go ?_)
  refine AtC.seqR ?_
  refine AtL.q rfl (Quiet1.loadSP (i := 1) (l := [_, _, _]) hT rfl rfl rfl rfl rfl rfl rfl rfl) ?_
  refine AtL.q rfl (Quiet1.build (cs := [_, _, _, _, _, _]) hT rfl rfl rfl rfl rfl rfl) ?_
  refine AtL.e rfl (EffX.storeSP (i := 0) (qv := [(_, [_, _, _, _, _, _]), (_, [_, _, _])]) hT rfl rfl rfl rfl rfl rfl rfl rfl rfl rfl) ?_
  rintro _ _ rfl
  refine AtL.nil ?_
  refine AtE.then_n (AtE.go ?_)
  refine AtC.ret ?_
  exact AtE.retN (rs := [.cell 2 56]) rfl (ResAll.cons (ResAt.cellSP (i := 0) (l := [_, _, _, _, _, _]) hT rfl rfl rfl rfl rfl rfl rfl) ResAll.nil) rfl H

theorem lift_ratio_one (w : World) (m : Heap) (hr : Rel ⟨m, []⟩ w.heap) (S : Sl → Heap → Prop) (H : ratio_one m S) :
    Calls Tryd.prog 123 #[] w (Post ⟨w, m⟩ Sl.toV S) := by
  refine Calls.lift (args := []) Tryd.func123 rfl Tryd.ntmps123 (Nat.le_of_ble_eq_true rfl) hr (ratio_one m S) H (fun H => ?_)
  refine AtC.pick (ts := []) rfl ?_
  unfold ratio_one at H
  refine AtC.seqR ?_
  refine AtL.pures hT 1 _ _ _ _ rfl ?_
  refine AtL.nil ?_
  refine AtE.then_n (AtE.go ?_)
  refine AtC.seqR ?_
  refine AtLX.bs (hT := hT) (cs := [_]) H rfl rfl rfl rfl rfl rfl rfl rfl rfl (fun a h0 H => ?_)
  refine AtL.pures hT 1 _ _ _ _ rfl ?_
  refine AtL.nil ?_
  refine AtE.then_n (AtE.go ?_)
  refine AtC.ret ?_
  exact AtE.retN (rs := [.tmp 0]) rfl (ResAll.cons (ResAt.tmp rfl) ResAll.nil) rfl H

theorem lift_ratio_den (x0 : Bool × Sl × Sl) (w : World) (m : Heap) (hr : Rel ⟨m, []⟩ w.heap) (S : Sl → Heap → Prop) (H : ratio_den x0 m S) :
    Calls Tryd.prog 113 #[Value.agg (C_bool_sl_sl x0).toArray] w (Post ⟨w, m⟩ Sl.toV S) := by
  refine Calls.lift (args := [Value.agg (C_bool_sl_sl x0).toArray]) Tryd.func113 rfl Tryd.ntmps113 (Nat.le_of_ble_eq_true rfl) hr (ratio_den x0 m S) H (fun H => ?_)
  refine AtC.pick (ts := [0]) rfl ?_
  unfold ratio_den at H
  refine AtC.seqR ?_
  refine AtL.e rfl (EffX.boxP (cs := [_, _, _]) rfl rfl rfl H) ?_
  rintro _ _ ⟨b, _, rfl, rfl, _, H⟩
  replace H := H.self
  refine AtL.pures hT 1 _ _ _ _ rfl ?_
  refine AtL.nil ?_
  refine AtE.then_n (AtE.go ?_)
  refine AtC.seq ?_
  refine AtC.seqR ?_
  refine AtL.pures hT 1 _ _ _ _ rfl ?_
  refine AtL.q rfl (Quiet1.loadP (i := 0) hT rfl rfl rfl rfl rfl rfl) ?_
  refine AtL.pures hT 2 _ _ _ _ rfl ?_
  refine AtL.nil ?_
  refine AtE.then_n (AtE.go ?_)
  refine AtC.condB H rfl (fun H => ?_) (fun H => ?_)
  ·
   refine AtC.seqR ?_
   refine AtL.e rfl (EffX.call (f := 123) (sh := fun h => ratio_one h _) (H0 := H) rfl Tryd.call123 rfl (hl := fun w m hr hw => lift_ratio_one  w m hr _ hw)) ?_
   rintro _ _ ⟨v, h0u1, rfl, rfl, H⟩
   refine AtL.pures hT 1 _ _ _ _ rfl ?_
   refine AtL.nil ?_
   refine AtE.then_n (AtE.go ?_)
   refine AtC.ret ?_
   refine AtE.then_r ?_
   exact AtE.retN (rs := [.tmp 2]) rfl (ResAll.cons (ResAt.tmp rfl) ResAll.nil) rfl H
  ·
   refine AtC.skip ?_
   refine AtE.then_n (AtE.go ?_)
   refine AtC.seqR ?_
   refine AtL.pures hT 1 _ _ _ _ rfl ?_
   refine AtL.q rfl (Quiet1.loadP (i := 0) hT rfl rfl rfl rfl rfl rfl) ?_
   refine AtL.pures hT 1 _ _ _ _ rfl ?_
   refine AtL.nil ?_
   refine AtE.then_n (AtE.go ?_)
   refine AtC.ret ?_
   exact AtE.retN (rs := [.tmp 2]) rfl (ResAll.cons (ResAt.tmp rfl) ResAll.nil) rfl H

theorem lift_nat_New (limbs : Int) (w : World) (m : Heap) (hr : Rel ⟨m, []⟩ w.heap) (S : ((Option Addr)) → Heap → Prop) (H : nat_New limbs m S) :
    Calls Tryd.prog 15 #[Value.int .i64 limbs] w (Post ⟨w, m⟩ Value.pointer S) := by
  refine Calls.lift (args := [Value.int .i64 limbs]) Tryd.func15 rfl Tryd.ntmps15 (Nat.le_of_ble_eq_true rfl) hr (nat_New limbs m S) H (fun H => ?_)
  refine AtC.pick (ts := [0]) rfl ?_
  unfold nat_New at H
  refine AtC.seqR ?_
  refine AtL.pures hT 1 _ _ _ _ rfl ?_
  refine AtL.nil ?_
  refine AtE.then_n (AtE.go ?_)
  refine AtC.seqR ?_
  refine AtL.pures hT 2 _ _ _ _ rfl ?_
  refine AtL.q rfl (Quiet1.build (cs := [_, _]) hT rfl rfl rfl rfl rfl rfl) ?_
  refine AtL.e rfl (EffX.box (cs := [_, _]) rfl rfl rfl H) ?_
  rintro _ _ ⟨a, h0, rfl, rfl, H⟩
  refine AtL.pures hT 1 _ _ _ _ rfl ?_
  refine AtL.nil ?_
  refine AtE.then_n (AtE.go ?_)
  refine AtC.ret ?_
  exact AtE.retN (rs := [.tmp 2]) rfl (ResAll.cons (ResAt.tmp rfl) ResAll.nil) rfl H

theorem lift_ratio_free (w : World) (m : Heap) (hr : Rel ⟨m, []⟩ w.heap) (S : ((Option Addr)) → Heap → Prop) (H : ratio_free m S) :
    Calls Tryd.prog 110 #[] w (Post ⟨w, m⟩ Value.pointer S) := by
  refine Calls.lift (args := []) Tryd.func110 rfl Tryd.ntmps110 (Nat.le_of_ble_eq_true rfl) hr (ratio_free m S) H (fun H => ?_)
  refine AtC.pick (ts := []) rfl ?_
  unfold ratio_free at H
  refine AtC.seqR ?_
  refine AtL.pures hT 1 _ _ _ _ rfl ?_
  refine AtL.nil ?_
  refine AtE.then_n (AtE.go ?_)
  refine AtC.seqR ?_
  refine AtL.e rfl (EffX.call (f := 15) (sh := fun h => nat_New _ h _) (H0 := H) rfl Tryd.call15 rfl (hl := fun w m hr hw => lift_nat_New _ w m hr _ hw)) ?_
  rintro _ _ ⟨v, h0, rfl, rfl, H⟩
  refine AtL.pures hT 1 _ _ _ _ rfl ?_
  refine AtL.nil ?_
  refine AtE.then_n (AtE.go ?_)
  refine AtC.ret ?_
  exact AtE.retN (rs := [.tmp 0]) rfl (ResAll.cons (ResAt.tmp rfl) ResAll.nil) rfl H

theorem lift_nat_times (x0 : Sl) (y : Sl) (w : World) (m : Heap) (hr : Rel ⟨m, []⟩ w.heap) (S : Sl → Heap → Prop) (H : nat_times x0 y m S) :
    Calls Tryd.prog 88 #[Sl.toV x0, Sl.toV y] w (Post ⟨w, m⟩ Sl.toV S) := by
  refine Calls.lift (args := [Sl.toV x0, Sl.toV y]) Tryd.func88 rfl Tryd.ntmps88 (Nat.le_of_ble_eq_true rfl) hr (nat_times x0 y m S) H (fun H => ?_)
  refine AtC.pick (ts := [0, 1]) rfl ?_
  unfold nat_times at H
  refine AtC.seqR ?_
  refine AtL.pures hT 1 _ _ _ _ rfl ?_
  refine AtL.nil ?_
  refine AtE.then_n (AtE.go ?_)
  refine AtC.seqR ?_
  refine AtL.pures hT 5 _ _ _ _ rfl ?_
  replace H := H _ rfl
  refine AtL.e rfl (EffX.mkS hT rfl rfl rfl rfl rfl rfl rfl rfl (by decide) H) ?_
  rintro _ _ ⟨v, h0, rfl, rfl, H⟩
  refine AtL.pures hT 1 _ _ _ _ rfl ?_
  refine AtL.nil ?_
  refine AtE.then_n (AtE.go ?_)
  refine AtC.seq ?_
  refine AtC.seqR ?_
  refine AtL.pures hT 3 _ _ _ _ rfl ?_
  refine AtL.nil ?_
  refine AtE.then_n (AtE.go ?_)
  refine AtC.block ?_
  refine AtC.loopM (fun (s0 : Int) => [(19, Value.int .i64 s0)]) (fun (s0 : Int) => []) [1, 5, 17, 18] [19, 1, 5, 17, 18] [] [] H (by exact rfl) (by exact rfl) (by exact rfl) (by decide) (by exact rfl) (fun Kp1 s0 h0u1 H Q1 HK1 => ?_)
  refine AtC.seqR ?_
  refine AtL.pures hT 1 _ _ _ _ rfl ?_
  refine AtL.nil ?_
  refine AtE.then_n (AtE.go ?_)
  refine AtC.seq ?_
  refine AtC.condB H rfl (fun H => ?_) (fun H => ?_)
  ·
   refine AtC.skip ?_
   refine AtE.then_n (AtE.go ?_)
   refine AtC.seq ?_
   refine AtC.block ?_
   refine AtC.seqR ?_
   refine AtL.pures hT 1 _ _ _ _ rfl ?_
   obtain ⟨a_, hc1, hd1, H⟩ := H
   refine AtL.q rfl (Quiet1.idxS (s := _) hT rfl rfl rfl rfl rfl hc1 hd1) ?_
   obtain ⟨v_1, hc2, H⟩ := H
   refine AtL.q rfl (Quiet1.load hT rfl rfl rfl hc2) ?_
   refine AtL.pures hT 2 _ _ _ _ rfl ?_
   refine AtL.nil ?_
   refine AtE.then_n (AtE.go ?_)
   refine AtC.seqR ?_
   refine AtL.pures hT 1 _ _ _ _ rfl ?_
   refine AtL.nil ?_
   refine AtE.then_n (AtE.go ?_)
   refine AtC.seq ?_
   refine AtC.seqR ?_
   refine AtL.pures hT 3 _ _ _ _ rfl ?_
   refine AtL.nil ?_
   refine AtE.then_n (AtE.go ?_)
   refine AtC.block ?_
   refine AtC.loopM (fun (s0u1 : Int × Int) => [(8, Value.int .u64 s0u1.1), (26, Value.int .i64 s0u1.2)]) (fun (s0u1 : Int × Int) => []) [1, 5, 6, 7, 17, 18, 19, 24, 25] [8, 26, 1, 5, 6, 7, 17, 18, 19, 24, 25] [] [] H (by exact rfl) (by exact rfl) (by exact rfl) (by decide) (by exact rfl) (fun Kp4 s0u1 h0u2 H Q4 HK4 => ?_)
   refine AtC.seqR ?_
   refine AtL.pures hT 1 _ _ _ _ rfl ?_
   refine AtL.nil ?_
   refine AtE.then_n (AtE.go ?_)
   refine AtC.seq ?_
   refine AtC.condB H rfl (fun H => ?_) (fun H => ?_)
   ·
    refine AtC.skip ?_
    refine AtE.then_n (AtE.go ?_)
    refine AtC.seq ?_
    refine AtC.block ?_
    refine AtC.seqR ?_
    refine AtL.pures hT 1 _ _ _ _ rfl ?_
    obtain ⟨a_1_, hc4, hd4, H⟩ := H
    refine AtL.q rfl (Quiet1.idxS (s := _) hT rfl rfl rfl rfl rfl hc4 hd4) ?_
    obtain ⟨v_2, hc5, H⟩ := H
    refine AtL.q rfl (Quiet1.load hT rfl rfl rfl hc5) ?_
    refine AtL.pures hT 2 _ _ _ _ rfl ?_
    refine AtL.nil ?_
    refine AtE.then_n (AtE.go ?_)
    refine AtC.seqR ?_
    refine AtL.pures hT 10 _ _ _ _ rfl ?_
    obtain ⟨a_2_, hc6, hd6, H⟩ := H
    refine AtL.q rfl (Quiet1.idxS (s := _) hT rfl rfl rfl rfl rfl hc6 hd6) ?_
    obtain ⟨v_3, hc7, H⟩ := H
    refine AtL.q rfl (Quiet1.load hT rfl rfl rfl hc7) ?_
    refine AtL.pures hT 4 _ _ _ _ rfl ?_
    replace H := H _ rfl
    refine AtL.nil ?_
    refine AtE.then_n (AtE.go ?_)
    refine AtC.seqR ?_
    refine AtL.pures hT 6 _ _ _ _ rfl ?_
    obtain ⟨a_3_, hc8, hd8, H⟩ := H
    refine AtL.q rfl (Quiet1.idxS (s := _) hT rfl rfl rfl rfl rfl hc8 hd8) ?_
    refine AtL.e rfl (EffX.store hT rfl rfl rfl rfl rfl H) ?_
    rintro _ _ ⟨h0u3, rfl, H⟩
    refine AtL.nil ?_
    refine AtE.then_n (AtE.go ?_)
    refine AtC.region ?_
    refine AtL.pures hT 3 _ _ _ _ rfl ?_
    replace H := H _ rfl
    refine AtL.nil ?_
    refine AtE.blk_n ?_
    refine AtE.then_n (AtE.go ?_)
    refine AtC.region ?_
    refine AtL.pures hT 2 _ _ _ _ rfl ?_
    refine AtL.nil ?_
    exact AtE.then_n ((HK4 _ _ H).pickP (ts := [8, 26, 1, 5, 6, 7, 17, 18, 19, 24, 25]) (is := []) rfl rfl (by decide) rfl)
   ·
    refine AtC.exit ?_
    refine AtE.then_x ?_
    refine AtE.then_x ?_
    refine AtE.blk_hit ?_
    refine AtE.then_n (AtE.go ?_)
    refine AtC.region ?_
    refine AtL.pures hT 7 _ _ _ _ rfl ?_
    obtain ⟨a_4_, hc9, hd9, H⟩ := H
    refine AtL.q rfl (Quiet1.idxS (s := _) hT rfl rfl rfl rfl rfl hc9 hd9) ?_
    refine AtL.e rfl (EffX.store hT rfl rfl rfl rfl rfl H) ?_
    rintro _ _ ⟨h0u4, rfl, H⟩
    refine AtL.nil ?_
    refine AtE.blk_n ?_
    refine AtE.then_n (AtE.go ?_)
    refine AtC.region ?_
    refine AtL.pures hT 2 _ _ _ _ rfl ?_
    refine AtL.nil ?_
    exact AtE.then_n ((HK1 _ _ H).pickP (ts := [19, 1, 5, 17, 18]) (is := []) rfl rfl (by decide) rfl)
  ·
   refine AtC.exit ?_
   refine AtE.then_x ?_
   refine AtE.then_x ?_
   refine AtE.blk_hit ?_
   refine AtE.then_n (AtE.go ?_)
   refine AtC.seqR ?_
   refine AtL.pures hT 2 _ _ _ _ rfl ?_
   refine AtL.nil ?_
   refine AtE.then_n (AtE.go ?_)
   refine AtC.ret ?_
   exact AtE.retN (rs := [.tmp 4]) rfl (ResAll.cons (ResAt.tmp rfl) ResAll.nil) rfl H

theorem lift_slices_Clone_api_Nat_uint32 (s0 : Sl) (w : World) (m : Heap) (hr : Rel ⟨m, []⟩ w.heap) (S : Sl → Heap → Prop) (H : slices_Clone_api_Nat_uint32 s0 m S) :
    Calls Tryd.prog 118 #[Sl.toV s0] w (Post ⟨w, m⟩ Sl.toV S) := by
  refine Calls.lift (args := [Sl.toV s0]) Tryd.func118 rfl Tryd.ntmps118 (Nat.le_of_ble_eq_true rfl) hr (slices_Clone_api_Nat_uint32 s0 m S) H (fun H => ?_)
  refine AtC.pick (ts := [0]) rfl ?_
  unfold slices_Clone_api_Nat_uint32 at H
  refine AtC.seqR ?_
  refine AtL.pures hT 1 _ _ _ _ rfl ?_
  refine AtL.nil ?_
  refine AtE.then_n (AtE.go ?_)
  refine AtC.seq ?_
  refine AtC.seqR ?_
  refine AtL.pures hT 1 _ _ _ _ rfl ?_
  refine AtL.q rfl (Quiet1.eqNilS hT rfl rfl rfl rfl) ?_
  refine AtL.nil ?_
  refine AtE.then_n (AtE.go ?_)
  refine AtC.condB H rfl (fun H => ?_) (fun H => ?_)
  ·
   refine AtC.seqR ?_
   refine AtL.pures hT 1 _ _ _ _ rfl ?_
   refine AtL.nil ?_
   refine AtE.then_n (AtE.go ?_)
   refine AtC.ret ?_
   refine AtE.then_r ?_
   exact AtE.retN (rs := [.tmp 2]) rfl (ResAll.cons (ResAt.tmp rfl) ResAll.nil) rfl H
  ·
   refine AtC.skip ?_
   refine AtE.then_n (AtE.go ?_)
   refine AtC.seqR ?_
   refine AtLX.bs (hT := hT) (cs := []) H rfl rfl rfl rfl rfl rfl rfl rfl rfl (fun a h0 H => ?_)
   refine AtL.pures hT 1 _ _ _ _ rfl ?_
   refine AtL.e rfl (EffX.appendS (s := _) (u := _) hT rfl rfl rfl rfl rfl rfl rfl rfl rfl rfl (by decide) H) ?_
   rintro _ _ ⟨v_1, h0u1, rfl, rfl, H⟩
   refine AtL.pures hT 1 _ _ _ _ rfl ?_
   refine AtL.nil ?_
   refine AtE.then_n (AtE.go ?_)
   refine AtC.ret ?_
   exact AtE.retN (rs := [.tmp 2]) rfl (ResAll.cons (ResAt.tmp rfl) ResAll.nil) rfl H

theorem lift_nat_Bench_fit (b : (Option Addr)) (x0 : Sl) (w : World) (m : Heap) (hr : Rel ⟨m, []⟩ w.heap) (S : Sl → Heap → Prop) (H : nat_Bench_fit b x0 m S) :
    Calls Tryd.prog 86 #[Value.pointer b, Sl.toV x0] w (Post ⟨w, m⟩ Sl.toV S) := by
  refine Calls.lift (args := [Value.pointer b, Sl.toV x0]) Tryd.func86 rfl Tryd.ntmps86 (Nat.le_of_ble_eq_true rfl) hr (nat_Bench_fit b x0 m S) H (fun H => ?_)
  refine AtC.pick (ts := [0, 1]) rfl ?_
  unfold nat_Bench_fit at H
  refine AtC.seqR ?_
  refine AtL.pures hT 1 _ _ _ _ rfl ?_
  refine AtL.nil ?_
  refine AtE.then_n (AtE.go ?_)
  refine AtC.seqR ?_
  refine AtL.pures hT 1 _ _ _ _ rfl ?_
  refine AtL.e rfl (EffX.call (f := 89) (sh := fun h => nat_trim _ h _) (H0 := H) rfl Tryd.call89 rfl (hl := fun w m hr hw => lift_nat_trim _ w m hr _ hw)) ?_
  rintro _ _ ⟨v, h0, rfl, rfl, H⟩
  refine AtL.pures hT 1 _ _ _ _ rfl ?_
  refine AtL.nil ?_
  refine AtE.then_n (AtE.go ?_)
  refine AtC.joinSeq (β := Unit) (fun (t0 : Unit) (bb : Unit) => []) (fun (t0 : Unit) (bb : Unit) => []) [0, 1] [] H (by exact rfl) (by exact rfl) (fun t0 bb h0u1 H => ?_) (fun J1 H HK1 => ?_)
  ·
   refine AtC.seq ?_
   refine AtC.seqR ?_
   refine AtL.pures hT 1 _ _ _ _ rfl ?_
   obtain ⟨a_4, hc7, H⟩ := H
   refine AtL.q rfl (Quiet1.nilChk rfl rfl hc7) ?_
   refine AtL.pures hT 1 _ _ _ _ rfl ?_
   obtain ⟨v_3, hc8, H⟩ := H
   refine AtL.q rfl (Quiet1.load hT rfl rfl rfl hc8) ?_
   refine AtL.nil ?_
   refine AtE.then_n (AtE.go ?_)
   refine AtC.condB H rfl (fun H => ?_) (fun H => ?_)
   ·
    refine AtC.seqR ?_
    refine AtL.pures hT 1 _ _ _ _ rfl ?_
    refine AtL.nil ?_
    refine AtE.then_n (AtE.go ?_)
    refine AtC.ret ?_
    refine AtE.then_r ?_
    exact AtE.retN (rs := [.tmp 4]) rfl (ResAll.cons (ResAt.tmp rfl) ResAll.nil) rfl H
   ·
    refine AtC.skip ?_
    refine AtE.then_n (AtE.go ?_)
    refine AtC.seqR ?_
    refine AtL.pures hT 1 _ _ _ _ rfl ?_
    refine AtL.e rfl (EffX.call (f := 118) (sh := fun h => slices_Clone_api_Nat_uint32 _ h _) (H0 := H) rfl Tryd.call118 rfl (hl := fun w m hr hw => lift_slices_Clone_api_Nat_uint32 _ w m hr _ hw)) ?_
    rintro _ _ ⟨v_4, h0u4, rfl, rfl, H⟩
    refine AtL.pures hT 1 _ _ _ _ rfl ?_
    refine AtL.nil ?_
    refine AtE.then_n (AtE.go ?_)
    refine AtC.ret ?_
    exact AtE.retN (rs := [.tmp 4]) rfl (ResAll.cons (ResAt.tmp rfl) ResAll.nil) rfl H
  ·
   refine AtC.region ?_
   refine AtL.pures hT 2 _ _ _ _ rfl ?_
   obtain ⟨a, hc1, H⟩ := H
   refine AtL.q rfl (Quiet1.nilChk rfl rfl hc1) ?_
   refine AtL.pures hT 1 _ _ _ _ rfl ?_
   obtain ⟨v_1, hc2, H⟩ := H
   refine AtL.q rfl (Quiet1.load hT rfl rfl rfl hc2) ?_
   refine AtL.pures hT 1 _ _ _ _ rfl ?_
   refine AtL.splitB (t := 12) H rfl (fun H => ?_) (fun H => ?_)
   ·
    refine AtL.noF rfl rfl rfl (by decide) rfl ?_
    refine AtL.noF rfl rfl rfl (by decide) rfl ?_
    refine AtL.noF rfl rfl rfl (by decide) rfl ?_
    refine AtL.noF rfl rfl rfl (by decide) rfl ?_
    refine AtL.noF rfl rfl rfl (by decide) rfl ?_
    refine AtL.noF rfl rfl rfl (by decide) rfl ?_
    refine AtL.noF rfl rfl rfl (by decide) rfl ?_
    refine AtL.pures hT 1 _ _ _ _ rfl ?_
    obtain ⟨a_1, hc3, H⟩ := H
    refine AtL.q rfl (Quiet1.nilChk rfl rfl hc3) ?_
    refine AtL.pures hT 1 _ _ _ _ rfl ?_
    refine AtL.e rfl (EffX.store hT rfl rfl rfl rfl rfl H) ?_
    rintro _ _ ⟨h0u2, rfl, H⟩
    refine AtL.nil ?_
    exact AtE.then_n ((HK1 _ () _ H).pickP (ts := [0, 1]) (is := []) rfl rfl (by decide) rfl)
   ·
    refine AtL.yes rfl rfl rfl ?_
    refine AtL.pures hT 1 _ _ _ _ rfl ?_
    refine AtL.yes rfl rfl rfl ?_
    refine AtL.pures hT 1 _ _ _ _ rfl ?_
    refine AtL.yes rfl rfl rfl ?_
    refine AtL.pures hT 1 _ _ _ _ rfl ?_
    refine AtL.yes rfl rfl rfl ?_
    obtain ⟨a_2, hc4, H⟩ := H
    refine AtL.q rfl (Quiet1.nilChk rfl rfl hc4) ?_
    refine AtL.yes rfl rfl rfl ?_
    refine AtL.pures hT 1 _ _ _ _ rfl ?_
    refine AtL.yes rfl rfl rfl ?_
    obtain ⟨v_2, hc5, H⟩ := H
    refine AtL.q rfl (Quiet1.load hT rfl rfl rfl hc5) ?_
    refine AtL.yes rfl rfl rfl ?_
    refine AtL.pures hT 1 _ _ _ _ rfl ?_
    refine AtL.pures hT 1 _ _ _ _ rfl ?_
    obtain ⟨a_3, hc6, H⟩ := H
    refine AtL.q rfl (Quiet1.nilChk rfl rfl hc6) ?_
    refine AtL.pures hT 1 _ _ _ _ rfl ?_
    refine AtL.e rfl (EffX.store hT rfl rfl rfl rfl rfl H) ?_
    rintro _ _ ⟨h0u3, rfl, H⟩
    refine AtL.nil ?_
    exact AtE.then_n ((HK1 _ () _ H).pickP (ts := [0, 1]) (is := []) rfl rfl (by decide) rfl)

theorem lift_nat_Bench_Mul (b : (Option Addr)) (x0 : Sl) (y : Sl) (w : World) (m : Heap) (hr : Rel ⟨m, []⟩ w.heap) (S : Sl → Heap → Prop) (H : nat_Bench_Mul b x0 y m S) :
    Calls Tryd.prog 18 #[Value.pointer b, Sl.toV x0, Sl.toV y] w (Post ⟨w, m⟩ Sl.toV S) := by
  refine Calls.lift (args := [Value.pointer b, Sl.toV x0, Sl.toV y]) Tryd.func18 rfl Tryd.ntmps18 (Nat.le_of_ble_eq_true rfl) hr (nat_Bench_Mul b x0 y m S) H (fun H => ?_)
  refine AtC.pick (ts := [0, 1, 2]) rfl ?_
  unfold nat_Bench_Mul at H
  refine AtC.seqR ?_
  refine AtL.pures hT 1 _ _ _ _ rfl ?_
  refine AtL.nil ?_
  refine AtE.then_n (AtE.go ?_)
  refine AtC.seqR ?_
  refine AtL.pures hT 2 _ _ _ _ rfl ?_
  refine AtL.e rfl (EffX.call (f := 89) (sh := fun h => nat_trim _ h _) (H0 := H) rfl Tryd.call89 rfl (hl := fun w m hr hw => lift_nat_trim _ w m hr _ hw)) ?_
  rintro _ _ ⟨v, h0, rfl, rfl, H⟩
  refine AtL.pures hT 1 _ _ _ _ rfl ?_
  refine AtL.e rfl (EffX.call (f := 89) (sh := fun h => nat_trim _ h _) (H0 := H) rfl Tryd.call89 rfl (hl := fun w m hr hw => lift_nat_trim _ w m hr _ hw)) ?_
  rintro _ _ ⟨v_1, h0u1, rfl, rfl, H⟩
  refine AtL.e rfl (EffX.call (f := 88) (sh := fun h => nat_times _ _ h _) (H0 := H) rfl Tryd.call88 rfl (hl := fun w m hr hw => lift_nat_times _ _ w m hr _ hw)) ?_
  rintro _ _ ⟨v_2, h0u2, rfl, rfl, H⟩
  refine AtL.e rfl (EffX.call (f := 86) (sh := fun h => nat_Bench_fit _ _ h _) (H0 := H) rfl Tryd.call86 rfl (hl := fun w m hr hw => lift_nat_Bench_fit _ _ w m hr _ hw)) ?_
  rintro _ _ ⟨v_3, h0u3, rfl, rfl, H⟩
  refine AtL.pures hT 1 _ _ _ _ rfl ?_
  refine AtL.nil ?_
  refine AtE.then_n (AtE.go ?_)
  refine AtC.ret ?_
  exact AtE.retN (rs := [.tmp 6]) rfl (ResAll.cons (ResAt.tmp rfl) ResAll.nil) rfl H

theorem lift_ratio_over (x0 : Bool × Sl) (n : Sl) (w : World) (m : Heap) (hr : Rel ⟨m, []⟩ w.heap) (S : (Bool × Sl) → Heap → Prop) (H : ratio_over x0 n m S) :
    Calls Tryd.prog 122 #[Value.agg (C_bool_sl x0).toArray, Sl.toV n] w (Post ⟨w, m⟩ (fun r => Value.agg (C_bool_sl r).toArray) S) := by
  refine Calls.lift (args := [Value.agg (C_bool_sl x0).toArray, Sl.toV n]) Tryd.func122 rfl Tryd.ntmps122 (Nat.le_of_ble_eq_true rfl) hr (ratio_over x0 n m S) H (fun H => ?_)
  refine AtC.pick (ts := [0, 1]) rfl ?_
  unfold ratio_over at H
  refine AtC.seqR ?_
  refine AtL.e rfl (EffX.boxP (cs := [_, _]) rfl rfl rfl H) ?_
  rintro _ _ ⟨b, _, rfl, rfl, _, H⟩
  refine AtL.e rfl (EffX.allocP (cs := [_, _]) hT rfl rfl H) ?_
  rintro _ _ ⟨b_1, _, rfl, rfl, _, H⟩
  refine AtL.nil ?_
  replace H := H.self
  refine AtE.then_n (AtE.go ?_)
  apply AtC.seqS [2, 6, 8] [[], [], [], [], [], [], [2], [2, 6], [2, 6]] [[], [0], [], [], [3], [], [2, 3, 4, 5], [0, 1, 2, 3, 4, 5, 6], [0, 1, 2, 3, 4, 5, 6, 7]] hmix (by kernel_rfl) [(5, _), (6, _), (8, _), (9, _), (10, _)] rfl 3 rfl
  refine Stg.go [0, 1, 3, 4, 5] [2] rfl rfl (QAll.cons (QOp.p hT rfl rfl rfl rfl rfl) (QAll.cons (QOp.q rfl rfl (Quiet1.loadP (i := 1) hT rfl rfl rfl rfl rfl rfl) rfl rfl) (QAll.cons (QOp.p hT rfl rfl rfl rfl rfl) (QAll.cons (QOp.q rfl rfl (Quiet1.loadP (i := 1) hT rfl rfl rfl rfl rfl rfl) rfl rfl) (QAll.cons (QOp.p hT rfl rfl rfl rfl rfl) QAll.nil))))) ?_
  refine EAll.cons ?_ EAll.nil
  refine EOp.e rfl rfl rfl (EffX.call (f := 110) (sh := fun h => ratio_free h _) (H0 := H) rfl Tryd.call110 rfl (hl := fun w m hr hw => lift_ratio_free  w m hr _ hw)) ?_
  rintro _ _ ⟨v, h0u1, rfl, rfl, H⟩
  apply Stg.next [(7, _)] rfl rfl
  refine Stg.go [0, 1, 3, 4, 5] [6] rfl rfl (QAll.cons (QOp.p hT rfl rfl rfl rfl rfl) (QAll.cons (QOp.q rfl rfl (Quiet1.loadP (i := 1) hT rfl rfl rfl rfl rfl rfl) rfl rfl) (QAll.cons (QOp.p hT rfl rfl rfl rfl rfl) (QAll.cons (QOp.q rfl rfl (Quiet1.loadP (i := 1) hT rfl rfl rfl rfl rfl rfl) rfl rfl) (QAll.cons (QOp.p hT rfl rfl rfl rfl rfl) QAll.nil))))) ?_
  refine EAll.cons ?_ EAll.nil
  refine EOp.e rfl rfl rfl (EffX.call (f := 18) (sh := fun h => nat_Bench_Mul _ _ _ h _) (H0 := H) rfl Tryd.call18 rfl (hl := fun w m hr hw => lift_nat_Bench_Mul _ _ _ w m hr _ hw)) ?_
  rintro _ _ ⟨v_1, h0u2, rfl, rfl, H⟩
  apply Stg.next [(11, _), (12, _)] rfl rfl
  refine Stg.go [0, 1, 7] [8] rfl rfl (QAll.cons (QOp.p hT rfl rfl rfl rfl rfl) (QAll.cons (QOp.q rfl rfl (Quiet1.loadP (i := 1) hT rfl rfl rfl rfl rfl rfl) rfl rfl) (QAll.cons (QOp.q rfl rfl (Quiet1.build (cs := [_, _]) hT rfl rfl rfl rfl rfl rfl) rfl rfl) QAll.nil))) ?_
  refine EAll.cons ?_ EAll.nil
  refine EOp.e rfl rfl rfl (EffX.storeSP (i := 0) (qv := [(_, [_, _]), (_, [_, _])]) hT rfl rfl rfl rfl rfl rfl rfl rfl rfl rfl) ?_
  rintro _ _ rfl
  apply Stg.next [] rfl rfl
  refine Stg.fin [] rfl rfl QAll.nil ?_
  refine AtE.then_n (AtE.go ?_)
  refine AtC.ret ?_
  exact AtE.retN (rs := [.cell 4 52]) rfl (ResAll.cons (ResAt.cellSP (i := 0) (l := [_, _]) hT rfl rfl rfl rfl rfl rfl rfl) ResAll.nil) rfl H

theorem lift_ratio_cross (x0 : Bool × Sl × Sl) (y : Bool × Sl × Sl) (w : World) (m : Heap) (hr : Rel ⟨m, []⟩ w.heap) (S : ((Bool × Sl) × (Bool × Sl)) → Heap → Prop) (H : ratio_cross x0 y m S) :
    Calls Tryd.prog 107 #[Value.agg (C_bool_sl_sl x0).toArray, Value.agg (C_bool_sl_sl y).toArray] w (Post ⟨w, m⟩ (fun r => Value.tuple #[(fun r => Value.agg (C_bool_sl r).toArray) r.1, (fun r => Value.agg (C_bool_sl r).toArray) r.2]) S) := by
  refine Calls.lift (args := [Value.agg (C_bool_sl_sl x0).toArray, Value.agg (C_bool_sl_sl y).toArray]) Tryd.func107 rfl Tryd.ntmps107 (Nat.le_of_ble_eq_true rfl) hr (ratio_cross x0 y m S) H (fun H => ?_)
  refine AtC.pick (ts := [0, 1]) rfl ?_
  unfold ratio_cross at H
  refine AtC.seqR ?_
  refine AtL.e rfl (EffX.boxP (cs := [_, _, _]) rfl rfl rfl H) ?_
  rintro _ _ ⟨b, _, rfl, rfl, _, H⟩
  refine AtL.e rfl (EffX.boxP (cs := [_, _, _]) rfl rfl rfl H) ?_
  rintro _ _ ⟨b_1, _, rfl, rfl, _, H⟩
  refine AtL.e rfl (EffX.allocP (cs := [_, _]) hT rfl rfl H) ?_
  rintro _ _ ⟨b_2, _, rfl, rfl, _, H⟩
  refine AtL.e rfl (EffX.allocP (cs := [_, _]) hT rfl rfl H) ?_
  rintro _ _ ⟨b_3, _, rfl, rfl, _, H⟩
  refine AtL.nil ?_
  replace H := H.self
  refine AtE.then_n (AtE.go ?_)
  apply AtC.seqS [3, 4, 8, 9, 10, 11] [[], [], [], [], [3], [], [], [], [3, 4], [3, 4, 8], [3, 4, 8, 9], [3, 4, 8, 9, 10]] [[], [0], [], [2], [0, 1, 2, 3], [], [5], [], [0, 1, 2, 3, 4, 7], [0, 1, 2, 3, 4, 5, 6, 7, 8], [0, 1, 2, 3, 4, 5, 6, 7, 8, 9], [0, 1, 2, 3, 4, 5, 6, 7, 8, 9, 10]] hmix (by kernel_rfl) [(6, _), (7, _), (8, _), (11, _), (12, _), (13, _)] rfl 6 rfl
  refine Stg.go [0, 1, 2, 5, 6, 7] [3] rfl rfl (QAll.cons (QOp.p hT rfl rfl rfl rfl rfl) (QAll.cons (QOp.q rfl rfl (Quiet1.loadSP (i := 3) (l := [_, _]) hT rfl rfl rfl rfl rfl rfl rfl rfl) rfl rfl) (QAll.cons (QOp.q rfl rfl (Quiet1.loadSP (i := 2) (l := [_, _, _]) hT rfl rfl rfl rfl rfl rfl rfl rfl) rfl rfl) (QAll.cons (QOp.p hT rfl rfl rfl rfl rfl) (QAll.cons (QOp.q rfl rfl (Quiet1.loadSP (i := 2) (l := [_, _]) hT rfl rfl rfl rfl rfl rfl rfl rfl) rfl rfl) (QAll.cons (QOp.q rfl rfl (Quiet1.loadSP (i := 3) (l := [_, _, _]) hT rfl rfl rfl rfl rfl rfl rfl rfl) rfl rfl) QAll.nil)))))) ?_
  refine EAll.cons ?_ EAll.nil
  refine EOp.e rfl rfl rfl (EffX.call (f := 113) (sh := fun h => ratio_den _ h _) (H0 := H) rfl Tryd.call113 rfl (hl := fun w m hr hw => lift_ratio_den _ w m hr _ hw)) ?_
  rintro _ _ ⟨v, h0u1, rfl, rfl, H⟩
  apply Stg.next [(9, _)] rfl rfl
  refine Stg.go [0, 1, 5, 6, 7] [4] rfl rfl (QAll.cons (QOp.p hT rfl rfl rfl rfl rfl) (QAll.cons (QOp.q rfl rfl (Quiet1.loadSP (i := 3) (l := [_, _]) hT rfl rfl rfl rfl rfl rfl rfl rfl) rfl rfl) (QAll.cons (QOp.p hT rfl rfl rfl rfl rfl) (QAll.cons (QOp.q rfl rfl (Quiet1.loadSP (i := 2) (l := [_, _]) hT rfl rfl rfl rfl rfl rfl rfl rfl) rfl rfl) (QAll.cons (QOp.q rfl rfl (Quiet1.loadSP (i := 3) (l := [_, _, _]) hT rfl rfl rfl rfl rfl rfl rfl rfl) rfl rfl) QAll.nil))))) ?_
  refine EAll.cons ?_ EAll.nil
  refine EOp.e rfl rfl rfl (EffX.call (f := 122) (sh := fun h => ratio_over _ _ h _) (H0 := H) rfl Tryd.call122 rfl (hl := fun w m hr hw => lift_ratio_over _ _ w m hr _ hw)) ?_
  rintro _ _ ⟨v_1, h0u2, rfl, rfl, H⟩
  apply Stg.next [(10, _)] rfl rfl
  refine Stg.go [5, 6, 7] [8] rfl rfl (QAll.cons (QOp.p hT rfl rfl rfl rfl rfl) (QAll.cons (QOp.q rfl rfl (Quiet1.loadSP (i := 2) (l := [_, _]) hT rfl rfl rfl rfl rfl rfl rfl rfl) rfl rfl) (QAll.cons (QOp.q rfl rfl (Quiet1.loadSP (i := 3) (l := [_, _, _]) hT rfl rfl rfl rfl rfl rfl rfl rfl) rfl rfl) QAll.nil))) ?_
  refine EAll.cons ?_ EAll.nil
  refine EOp.e rfl rfl rfl (EffX.call (f := 113) (sh := fun h => ratio_den _ h _) (H0 := H) rfl Tryd.call113 rfl (hl := fun w m hr hw => lift_ratio_den _ w m hr _ hw)) ?_
  rintro _ _ ⟨v_2, h0u3, rfl, rfl, H⟩
  apply Stg.next [(14, _)] rfl rfl
  refine Stg.go [5, 6] [9] rfl rfl (QAll.cons (QOp.p hT rfl rfl rfl rfl rfl) (QAll.cons (QOp.q rfl rfl (Quiet1.loadSP (i := 2) (l := [_, _]) hT rfl rfl rfl rfl rfl rfl rfl rfl) rfl rfl) QAll.nil)) ?_
  refine EAll.cons ?_ EAll.nil
  refine EOp.e rfl rfl rfl (EffX.call (f := 122) (sh := fun h => ratio_over _ _ h _) (H0 := H) rfl Tryd.call122 rfl (hl := fun w m hr hw => lift_ratio_over _ _ w m hr _ hw)) ?_
  rintro _ _ ⟨v_3, h0u4, rfl, rfl, H⟩
  apply Stg.next [(15, _)] rfl rfl
  refine Stg.go [] [10] rfl rfl QAll.nil ?_
  refine EAll.cons ?_ EAll.nil
  refine EOp.e rfl rfl rfl (EffX.storeSP (i := 1) (qv := [(_, [_, _]), (_, [_, _]), (_, [_, _, _]), (_, [_, _, _])]) hT rfl rfl rfl rfl rfl rfl rfl rfl rfl rfl) ?_
  rintro _ _ rfl
  apply Stg.next [] rfl rfl
  refine Stg.go [] [11] rfl rfl QAll.nil ?_
  refine EAll.cons ?_ EAll.nil
  refine EOp.e rfl rfl rfl (EffX.storeSP (i := 0) (qv := [(_, [_, _]), (_, [_, _]), (_, [_, _, _]), (_, [_, _, _])]) hT rfl rfl rfl rfl rfl rfl rfl rfl rfl rfl) ?_
  rintro _ _ rfl
  apply Stg.next [] rfl rfl
  refine Stg.fin [] rfl rfl QAll.nil ?_
  refine AtE.then_n (AtE.go ?_)
  refine AtC.ret ?_
  exact AtE.retN (rs := [.cell 4 52, .cell 5 52]) rfl (ResAll.cons (ResAt.cellSP (i := 1) (l := [_, _]) hT rfl rfl rfl rfl rfl rfl rfl) (ResAll.cons (ResAt.cellSP (i := 0) (l := [_, _]) hT rfl rfl rfl rfl rfl rfl rfl) ResAll.nil)) rfl H

theorem lift_nat_plus (x0 : Sl) (y : Sl) (w : World) (m : Heap) (hr : Rel ⟨m, []⟩ w.heap) (S : Sl → Heap → Prop) (H : nat_plus x0 y m S) :
    Calls Tryd.prog 87 #[Sl.toV x0, Sl.toV y] w (Post ⟨w, m⟩ Sl.toV S) := by
  refine Calls.lift (args := [Sl.toV x0, Sl.toV y]) Tryd.func87 rfl Tryd.ntmps87 (Nat.le_of_ble_eq_true rfl) hr (nat_plus x0 y m S) H (fun H => ?_)
  refine AtC.pick (ts := [0, 1]) rfl ?_
  unfold nat_plus at H
  refine AtC.seqR ?_
  refine AtL.pures hT 1 _ _ _ _ rfl ?_
  refine AtL.nil ?_
  refine AtE.then_n (AtE.go ?_)
  refine AtC.seqR ?_
  refine AtL.pures hT 1 _ _ _ _ rfl ?_
  refine AtL.nil ?_
  refine AtE.then_n (AtE.go ?_)
  refine AtC.seq ?_
  refine AtC.seqR ?_
  refine AtL.pures hT 6 _ _ _ _ rfl ?_
  refine AtL.nil ?_
  refine AtE.then_n (AtE.go ?_)
  refine AtC.block ?_
  refine AtC.loopM (fun (s0 : Sl × Int × Int) => [(4, Sl.toV s0.1), (5, Value.int .u64 s0.2.1), (14, Value.int .i64 s0.2.2)]) (fun (s0 : Sl × Int × Int) => []) [0, 1, 13] [4, 5, 14, 0, 1, 13] [] [] H (by exact rfl) (by exact rfl) (by exact rfl) (by decide) (by exact rfl) (fun Kp1 s0 h0 H Q1 HK1 => ?_)
  refine AtC.seqR ?_
  refine AtL.pures hT 1 _ _ _ _ rfl ?_
  refine AtL.nil ?_
  refine AtE.then_n (AtE.go ?_)
  refine AtC.seq ?_
  refine AtC.condB H rfl (fun H => ?_) (fun H => ?_)
  ·
   refine AtC.skip ?_
   refine AtE.then_n (AtE.go ?_)
   refine AtC.seq ?_
   refine AtC.block ?_
   refine AtC.seqR ?_
   refine AtL.pures hT 2 _ _ _ _ rfl ?_
   refine AtL.nil ?_
   refine AtE.then_n (AtE.go ?_)
   refine AtC.seq ?_
   refine AtC.seqR ?_
   refine AtL.pures hT 2 _ _ _ _ rfl ?_
   refine AtL.q rfl (Quiet1.buildA (cs := [_, _]) hT rfl rfl rfl rfl rfl rfl) ?_
   refine AtL.pures hT 1 _ _ _ _ rfl ?_
   refine AtL.nil ?_
   refine AtE.then_n (AtE.go ?_)
   refine AtC.block ?_
   refine AtC.loopM (fun (s0u1 : Int × Int) => [(5, Value.int .u64 s0u1.1), (20, Value.int .i64 s0u1.2)]) (fun (s0u1 : Int × Int) => []) [0, 1, 4, 6, 13, 14, 19] [5, 20, 0, 1, 4, 6, 13, 14, 19] [] [] H (by exact rfl) (by exact rfl) (by exact rfl) (by decide) (by exact rfl) (fun Kp2 s0u1 h0u1 H Q2 HK2 => ?_)
   refine AtC.seqR ?_
   refine AtL.pures hT 1 _ _ _ _ rfl ?_
   refine AtL.nil ?_
   refine AtE.then_n (AtE.go ?_)
   refine AtC.seq ?_
   refine AtC.condB H rfl (fun H => ?_) (fun H => ?_)
   ·
    refine AtC.skip ?_
    refine AtE.then_n (AtE.go ?_)
    refine AtC.joinSeq (β := Unit) (fun (t0 : Int) (bb : Unit) => [(5, Value.int .u64 t0)]) (fun (t0 : Int) (bb : Unit) => []) [0, 1, 4, 6, 13, 14, 19, 20] [] H (by exact rfl) (by exact rfl) (fun t0 bb h0u2 H => ?_) (fun J3 H HK3 => ?_)
    ·
     refine AtC.region ?_
     refine AtL.pures hT 2 _ _ _ _ rfl ?_
     refine AtL.nil ?_
     exact AtE.then_n ((HK2 _ _ H).pickP (ts := [5, 20, 0, 1, 4, 6, 13, 14, 19]) (is := []) rfl rfl (by decide) rfl)
    ·
     refine AtC.block ?_
     refine AtC.seqR ?_
     obtain ⟨hd3, v, hc3, H⟩ := H
     refine AtL.q rfl (Quiet1.idxV hT rfl rfl rfl rfl rfl rfl hd3 hc3) ?_
     refine AtL.pures hT 1 _ _ _ _ rfl ?_
     refine AtL.nil ?_
     refine AtE.then_n (AtE.go ?_)
     refine AtC.seqR ?_
     refine AtL.pures hT 4 _ _ _ _ rfl ?_
     refine AtL.nil ?_
     refine AtE.then_n (AtE.go ?_)
     refine AtC.condB H rfl (fun H => ?_) (fun H => ?_)
     ·
      refine AtC.region ?_
      refine AtL.pures hT 3 _ _ _ _ rfl ?_
      obtain ⟨a_, hc4, hd4, H⟩ := H
      refine AtL.q rfl (Quiet1.idxS (s := _) hT rfl rfl rfl rfl rfl hc4 hd4) ?_
      obtain ⟨v_1, hc5, H⟩ := H
      refine AtL.q rfl (Quiet1.load hT rfl rfl rfl hc5) ?_
      refine AtL.pures hT 3 _ _ _ _ rfl ?_
      replace H := H _ rfl
      refine AtL.nil ?_
      refine AtE.blk_n ?_
      exact AtE.then_n ((HK3 _ () _ H).pickP (ts := [5, 0, 1, 4, 6, 13, 14, 19, 20]) (is := []) rfl rfl (by decide) rfl)
     ·
      refine AtC.skip ?_
      refine AtE.blk_n ?_
      exact AtE.then_n ((HK3 _ () _ H).pickP (ts := [5, 0, 1, 4, 6, 13, 14, 19, 20]) (is := []) rfl rfl (by decide) rfl)
   ·
    refine AtC.exit ?_
    refine AtE.then_x ?_
    refine AtE.then_x ?_
    refine AtE.blk_hit ?_
    refine AtE.then_n (AtE.go ?_)
    refine AtC.seqR ?_
    refine AtL.pures hT 3 _ _ _ _ rfl ?_
    refine AtLX.bs (hT := hT) (cs := [_]) H rfl rfl rfl rfl rfl rfl rfl rfl rfl (fun a_1 h0u3 H => ?_)
    refine AtL.e rfl (EffX.appendS (s := _) (u := _) hT rfl rfl rfl rfl rfl rfl rfl rfl rfl rfl (by decide) H) ?_
    rintro _ _ ⟨v_3, h0u4, rfl, rfl, H⟩
    refine AtL.pures hT 1 _ _ _ _ rfl ?_
    refine AtL.nil ?_
    refine AtE.then_n (AtE.go ?_)
    refine AtC.region ?_
    refine AtL.pures hT 3 _ _ _ _ rfl ?_
    replace H := H _ rfl
    refine AtL.nil ?_
    refine AtE.blk_n ?_
    refine AtE.then_n (AtE.go ?_)
    refine AtC.region ?_
    refine AtL.pures hT 2 _ _ _ _ rfl ?_
    refine AtL.nil ?_
    exact AtE.then_n ((HK1 _ _ H).pickP (ts := [4, 5, 14, 0, 1, 13]) (is := []) rfl rfl (by decide) rfl)
  ·
   refine AtC.exit ?_
   refine AtE.then_x ?_
   refine AtE.then_x ?_
   refine AtE.blk_hit ?_
   refine AtE.then_n (AtE.go ?_)
   refine AtC.seqR ?_
   refine AtL.pures hT 3 _ _ _ _ rfl ?_
   refine AtLX.bs (hT := hT) (cs := [_]) H rfl rfl rfl rfl rfl rfl rfl rfl rfl (fun a_2 h0u5 H => ?_)
   refine AtL.e rfl (EffX.appendS (s := _) (u := _) hT rfl rfl rfl rfl rfl rfl rfl rfl rfl rfl (by decide) H) ?_
   rintro _ _ ⟨v_5, h0u6, rfl, rfl, H⟩
   refine AtL.pures hT 1 _ _ _ _ rfl ?_
   refine AtL.nil ?_
   refine AtE.then_n (AtE.go ?_)
   refine AtC.ret ?_
   exact AtE.retN (rs := [.tmp 4]) rfl (ResAll.cons (ResAt.tmp rfl) ResAll.nil) rfl H

theorem lift_nat_Bench_Add (b : (Option Addr)) (x0 : Sl) (y : Sl) (w : World) (m : Heap) (hr : Rel ⟨m, []⟩ w.heap) (S : Sl → Heap → Prop) (H : nat_Bench_Add b x0 y m S) :
    Calls Tryd.prog 17 #[Value.pointer b, Sl.toV x0, Sl.toV y] w (Post ⟨w, m⟩ Sl.toV S) := by
  refine Calls.lift (args := [Value.pointer b, Sl.toV x0, Sl.toV y]) Tryd.func17 rfl Tryd.ntmps17 (Nat.le_of_ble_eq_true rfl) hr (nat_Bench_Add b x0 y m S) H (fun H => ?_)
  refine AtC.pick (ts := [0, 1, 2]) rfl ?_
  unfold nat_Bench_Add at H
  refine AtC.seqR ?_
  refine AtL.pures hT 1 _ _ _ _ rfl ?_
  refine AtL.nil ?_
  refine AtE.then_n (AtE.go ?_)
  refine AtC.seqR ?_
  refine AtL.pures hT 3 _ _ _ _ rfl ?_
  refine AtL.e rfl (EffX.call (f := 87) (sh := fun h => nat_plus _ _ h _) (H0 := H) rfl Tryd.call87 rfl (hl := fun w m hr hw => lift_nat_plus _ _ w m hr _ hw)) ?_
  rintro _ _ ⟨v, h0, rfl, rfl, H⟩
  refine AtL.e rfl (EffX.call (f := 86) (sh := fun h => nat_Bench_fit _ _ h _) (H0 := H) rfl Tryd.call86 rfl (hl := fun w m hr hw => lift_nat_Bench_fit _ _ w m hr _ hw)) ?_
  rintro _ _ ⟨v_1, h0u1, rfl, rfl, H⟩
  refine AtL.pures hT 1 _ _ _ _ rfl ?_
  refine AtL.nil ?_
  refine AtE.then_n (AtE.go ?_)
  refine AtC.ret ?_
  exact AtE.retN (rs := [.tmp 6]) rfl (ResAll.cons (ResAt.tmp rfl) ResAll.nil) rfl H

theorem lift_nat_sign (n : Int) (w : World) (m : Heap) (hr : Rel ⟨m, []⟩ w.heap) (S : Int → Heap → Prop) (H : nat_sign n m S) :
    Calls Tryd.prog 94 #[Value.int .i64 n] w (Post ⟨w, m⟩ (Value.int .i64) S) := by
  refine Calls.lift (args := [Value.int .i64 n]) Tryd.func94 rfl Tryd.ntmps94 (Nat.le_of_ble_eq_true rfl) hr (nat_sign n m S) H (fun H => ?_)
  refine AtC.pick (ts := [0]) rfl ?_
  unfold nat_sign at H
  refine AtC.seqR ?_
  refine AtL.pures hT 1 _ _ _ _ rfl ?_
  refine AtL.nil ?_
  refine AtE.then_n (AtE.go ?_)
  refine AtC.seqR ?_
  refine AtL.pures hT 4 _ _ _ _ rfl ?_
  refine AtL.nil ?_
  refine AtE.then_n (AtE.go ?_)
  refine AtC.ret ?_
  exact AtE.retN (rs := [.tmp 2]) rfl (ResAll.cons (ResAt.tmp rfl) ResAll.nil) rfl H

theorem lift_nat_Cmp (x0 : Sl) (y : Sl) (w : World) (m : Heap) (hr : Rel ⟨m, []⟩ w.heap) (S : Int → Heap → Prop) (H : nat_Cmp x0 y m S) :
    Calls Tryd.prog 23 #[Sl.toV x0, Sl.toV y] w (Post ⟨w, m⟩ (Value.int .i64) S) := by
  refine Calls.lift (args := [Sl.toV x0, Sl.toV y]) Tryd.func23 rfl Tryd.ntmps23 (Nat.le_of_ble_eq_true rfl) hr (nat_Cmp x0 y m S) H (fun H => ?_)
  refine AtC.pick (ts := [0, 1]) rfl ?_
  unfold nat_Cmp at H
  refine AtC.seqR ?_
  refine AtL.pures hT 1 _ _ _ _ rfl ?_
  refine AtL.nil ?_
  refine AtE.then_n (AtE.go ?_)
  refine AtC.seqR ?_
  refine AtL.pures hT 1 _ _ _ _ rfl ?_
  refine AtL.e rfl (EffX.call (f := 89) (sh := fun h => nat_trim _ h _) (H0 := H) rfl Tryd.call89 rfl (hl := fun w m hr hw => lift_nat_trim _ w m hr _ hw)) ?_
  rintro _ _ ⟨v, h0, rfl, rfl, H⟩
  refine AtL.pures hT 1 _ _ _ _ rfl ?_
  refine AtL.e rfl (EffX.call (f := 89) (sh := fun h => nat_trim _ h _) (H0 := H) rfl Tryd.call89 rfl (hl := fun w m hr hw => lift_nat_trim _ w m hr _ hw)) ?_
  rintro _ _ ⟨v_1, h0u1, rfl, rfl, H⟩
  refine AtL.pures hT 2 _ _ _ _ rfl ?_
  refine AtL.nil ?_
  refine AtE.then_n (AtE.go ?_)
  refine AtC.seq ?_
  refine AtC.seqR ?_
  refine AtL.pures hT 5 _ _ _ _ rfl ?_
  refine AtL.nil ?_
  refine AtE.then_n (AtE.go ?_)
  refine AtC.condB H rfl (fun H => ?_) (fun H => ?_)
  ·
   refine AtC.seqR ?_
   refine AtL.pures hT 5 _ _ _ _ rfl ?_
   refine AtL.e rfl (EffX.call (f := 94) (sh := fun h => nat_sign _ h _) (H0 := H) rfl Tryd.call94 rfl (hl := fun w m hr hw => lift_nat_sign _ w m hr _ hw)) ?_
   rintro _ _ ⟨v_2, h0u2, rfl, rfl, H⟩
   refine AtL.pures hT 1 _ _ _ _ rfl ?_
   refine AtL.nil ?_
   refine AtE.then_n (AtE.go ?_)
   refine AtC.ret ?_
   refine AtE.then_r ?_
   exact AtE.retN (rs := [.tmp 4]) rfl (ResAll.cons (ResAt.tmp rfl) ResAll.nil) rfl H
  ·
   refine AtC.skip ?_
   refine AtE.then_n (AtE.go ?_)
   refine AtC.seq ?_
   refine AtC.seqR ?_
   refine AtL.pures hT 4 _ _ _ _ rfl ?_
   replace H := H _ rfl
   refine AtL.nil ?_
   refine AtE.then_n (AtE.go ?_)
   refine AtC.block ?_
   refine AtC.loopM (fun (s0 : Int) => [(5, Value.int .i64 s0)]) (fun (s0 : Int) => []) [0, 1] [5, 0, 1] [] [] H (by exact rfl) (by exact rfl) (by exact rfl) (by decide) (by exact rfl) (fun Kp1 s0 h0u3 H Q1 HK1 => ?_)
   refine AtC.seq ?_
   refine AtC.seqR ?_
   refine AtL.pures hT 2 _ _ _ _ rfl ?_
   refine AtL.nil ?_
   refine AtE.then_n (AtE.go ?_)
   refine AtC.condB H rfl (fun H => ?_) (fun H => ?_)
   ·
    refine AtC.skip ?_
    refine AtE.then_n (AtE.go ?_)
    refine AtC.seq ?_
    refine AtC.block ?_
    refine AtC.seqD hmix (by kernel_rfl) ?_
    refine AtD.pures hT 2 _ _ _ _ rfl ?_
    obtain ⟨a_, hc1, hd1, H⟩ := H
    refine AtD.q rfl (Quiet1.idxS (s := _) hT rfl rfl rfl rfl rfl hc1 hd1) ?_
    obtain ⟨v_3, hc2, H⟩ := H
    refine AtD.q rfl (Quiet1.load hT rfl rfl rfl hc2) ?_
    refine AtD.pures hT 2 _ _ _ _ rfl ?_
    obtain ⟨a_1_, hc3, hd3, H⟩ := H
    refine AtD.q rfl (Quiet1.idxS (s := _) hT rfl rfl rfl rfl rfl hc3 hd3) ?_
    obtain ⟨v_4, hc4, H⟩ := H
    refine AtD.q rfl (Quiet1.load hT rfl rfl rfl hc4) ?_
    refine AtD.pures hT 1 _ _ _ _ rfl ?_
    refine AtD.nil ?_
    refine AtE.then_n (AtE.go ?_)
    refine AtC.condB H rfl (fun H => ?_) (fun H => ?_)
    ·
     obtain ⟨a_2_, hc5, hd5, H⟩ := H
     obtain ⟨v_5, hc6, H⟩ := H
     obtain ⟨a_3_, hc7, hd7, H⟩ := H
     obtain ⟨v_6, hc8, H⟩ := H
     apply AtC.seqS [11] [[], [], [], [], [], [], [], [], [], [], [], [], [11]] [[], [], [0, 1], [0, 1, 2], [0, 1, 2, 3], [], [], [5, 6], [5, 6, 7], [5, 6, 7, 8], [0, 1, 2, 3, 4, 5, 6, 7, 8, 9], [0, 1, 2, 3, 4, 5, 6, 7, 8, 9, 10], [0, 1, 2, 3, 4, 5, 6, 7, 8, 9, 10, 11]] hmix (by kernel_rfl) [(37, _), (38, _), (39, _), (40, _), (41, _), (42, _), (43, _), (44, _), (45, _), (46, _), (47, _)] rfl 1 rfl
     refine Stg.go [0, 1, 2, 3, 4, 5, 6, 7, 8, 9, 10] [11] rfl rfl (QAll.cons (QOp.p hT rfl rfl rfl rfl rfl) (QAll.cons (QOp.p hT rfl rfl rfl rfl rfl) (QAll.cons (QOp.q rfl rfl (Quiet1.idxS (s := _) hT rfl rfl rfl rfl rfl hc5 hd5) rfl rfl) (QAll.cons (QOp.q rfl rfl (Quiet1.load hT rfl rfl rfl hc6) rfl rfl) (QAll.cons (QOp.p hT rfl rfl rfl rfl rfl) (QAll.cons (QOp.p hT rfl rfl rfl rfl rfl) (QAll.cons (QOp.p hT rfl rfl rfl rfl rfl) (QAll.cons (QOp.q rfl rfl (Quiet1.idxS (s := _) hT rfl rfl rfl rfl rfl hc7 hd7) rfl rfl) (QAll.cons (QOp.q rfl rfl (Quiet1.load hT rfl rfl rfl hc8) rfl rfl) (QAll.cons (QOp.p hT rfl rfl rfl rfl rfl) (QAll.cons (QOp.p hT rfl rfl rfl rfl rfl) QAll.nil))))))))))) ?_
     refine EAll.cons ?_ EAll.nil
     refine EOp.e rfl rfl rfl (EffX.call (f := 94) (sh := fun h => nat_sign _ h _) (H0 := H) rfl Tryd.call94 rfl (hl := fun w m hr hw => lift_nat_sign _ w m hr _ hw)) ?_
     rintro _ _ ⟨v_7, h0u4, rfl, rfl, H⟩
     apply Stg.next [(48, _), (4, _)] rfl rfl
     refine Stg.fin [12] rfl rfl (QAll.cons (QOp.p hT rfl rfl rfl rfl rfl) QAll.nil) ?_
     refine AtE.then_n (AtE.go ?_)
     refine AtC.ret ?_
     refine AtE.blk_r ?_
     refine AtE.then_r ?_
     refine AtE.then_r ?_
     refine AtE.blk_r ?_
     refine AtE.then_r ?_
     exact AtE.retN (rs := [.tmp 4]) rfl (ResAll.cons (ResAt.tmp rfl) ResAll.nil) rfl H
    ·
     refine AtC.skip ?_
     refine AtE.blk_n ?_
     refine AtE.then_n (AtE.go ?_)
     refine AtC.region ?_
     refine AtL.pures hT 3 _ _ _ _ rfl ?_
     replace H := H _ rfl
     refine AtL.nil ?_
     exact AtE.then_n ((HK1 _ _ H).pickP (ts := [5, 0, 1]) (is := []) rfl rfl (by decide) rfl)
   ·
    refine AtC.exit ?_
    refine AtE.then_x ?_
    refine AtE.then_x ?_
    refine AtE.blk_hit ?_
    refine AtE.then_n (AtE.go ?_)
    refine AtC.seqR ?_
    refine AtL.pures hT 1 _ _ _ _ rfl ?_
    refine AtL.nil ?_
    refine AtE.then_n (AtE.go ?_)
    refine AtC.ret ?_
    exact AtE.retN (rs := [.tmp 4]) rfl (ResAll.cons (ResAt.tmp rfl) ResAll.nil) rfl H

theorem lift_nat_minus (x0 : Sl) (y : Sl) (w : World) (m : Heap) (hr : Rel ⟨m, []⟩ w.heap) (S : Sl → Heap → Prop) (H : nat_minus x0 y m S) :
    Calls Tryd.prog 90 #[Sl.toV x0, Sl.toV y] w (Post ⟨w, m⟩ Sl.toV S) := by
  refine Calls.lift (args := [Sl.toV x0, Sl.toV y]) Tryd.func90 rfl Tryd.ntmps90 (Nat.le_of_ble_eq_true rfl) hr (nat_minus x0 y m S) H (fun H => ?_)
  refine AtC.pick (ts := [0, 1]) rfl ?_
  unfold nat_minus at H
  refine AtC.seqR ?_
  refine AtL.pures hT 1 _ _ _ _ rfl ?_
  refine AtL.nil ?_
  refine AtE.then_n (AtE.go ?_)
  refine AtC.seqR ?_
  refine AtL.pures hT 1 _ _ _ _ rfl ?_
  refine AtL.nil ?_
  refine AtE.then_n (AtE.go ?_)
  refine AtC.seq ?_
  refine AtC.seqR ?_
  refine AtL.pures hT 3 _ _ _ _ rfl ?_
  refine AtL.nil ?_
  refine AtE.then_n (AtE.go ?_)
  refine AtC.block ?_
  refine AtC.loopM (fun (s0 : Sl × Int × Int) => [(4, Sl.toV s0.1), (5, Value.int .u64 s0.2.1), (11, Value.int .i64 s0.2.2)]) (fun (s0 : Sl × Int × Int) => []) [1, 9, 10] [4, 5, 11, 1, 9, 10] [] [] H (by exact rfl) (by exact rfl) (by exact rfl) (by decide) (by exact rfl) (fun Kp1 s0 h0 H Q1 HK1 => ?_)
  refine AtC.seqR ?_
  refine AtL.pures hT 1 _ _ _ _ rfl ?_
  refine AtL.nil ?_
  refine AtE.then_n (AtE.go ?_)
  refine AtC.seq ?_
  refine AtC.condB H rfl (fun H => ?_) (fun H => ?_)
  ·
   refine AtC.skip ?_
   refine AtE.then_n (AtE.go ?_)
   refine AtC.seq ?_
   refine AtC.block ?_
   refine AtC.seqR ?_
   refine AtL.pures hT 1 _ _ _ _ rfl ?_
   obtain ⟨a_, hc1, hd1, H⟩ := H
   refine AtL.q rfl (Quiet1.idxS (s := _) hT rfl rfl rfl rfl rfl hc1 hd1) ?_
   obtain ⟨v, hc2, H⟩ := H
   refine AtL.q rfl (Quiet1.load hT rfl rfl rfl hc2) ?_
   refine AtL.pures hT 2 _ _ _ _ rfl ?_
   refine AtL.nil ?_
   refine AtE.then_n (AtE.go ?_)
   refine AtC.seqR ?_
   refine AtL.pures hT 5 _ _ _ _ rfl ?_
   replace H := H _ rfl
   refine AtL.nil ?_
   refine AtE.then_n (AtE.go ?_)
   refine AtC.joinSeq (β := Unit) (fun (t0 : Int) (bb : Unit) => [(8, Value.int .u64 t0)]) (fun (t0 : Int) (bb : Unit) => []) [1, 4, 9, 10, 11] [] H (by exact rfl) (by exact rfl) (fun t0 bb h0u1 H => ?_) (fun J4 H HK4 => ?_)
   ·
    refine AtC.seqR ?_
    refine AtL.pures hT 3 _ _ _ _ rfl ?_
    refine AtLX.bs (hT := hT) (cs := [_]) H rfl rfl rfl rfl rfl rfl rfl rfl rfl (fun a_2 h0u2 H => ?_)
    refine AtL.e rfl (EffX.appendS (s := _) (u := _) hT rfl rfl rfl rfl rfl rfl rfl rfl rfl rfl (by decide) H) ?_
    rintro _ _ ⟨v_3, h0u3, rfl, rfl, H⟩
    refine AtL.pures hT 1 _ _ _ _ rfl ?_
    refine AtL.nil ?_
    refine AtE.then_n (AtE.go ?_)
    refine AtC.region ?_
    refine AtL.pures hT 3 _ _ _ _ rfl ?_
    replace H := H _ rfl
    refine AtL.nil ?_
    refine AtE.blk_n ?_
    refine AtE.then_n (AtE.go ?_)
    refine AtC.region ?_
    refine AtL.pures hT 2 _ _ _ _ rfl ?_
    refine AtL.nil ?_
    exact AtE.then_n ((HK1 _ _ H).pickP (ts := [4, 5, 11, 1, 9, 10]) (is := []) rfl rfl (by decide) rfl)
   ·
    refine AtC.seqR ?_
    refine AtL.pures hT 4 _ _ _ _ rfl ?_
    refine AtL.nil ?_
    refine AtE.then_n (AtE.go ?_)
    refine AtC.condB H rfl (fun H => ?_) (fun H => ?_)
    ·
     refine AtC.region ?_
     refine AtL.pures hT 3 _ _ _ _ rfl ?_
     obtain ⟨a_1_, hc4, hd4, H⟩ := H
     refine AtL.q rfl (Quiet1.idxS (s := _) hT rfl rfl rfl rfl rfl hc4 hd4) ?_
     obtain ⟨v_1, hc5, H⟩ := H
     refine AtL.q rfl (Quiet1.load hT rfl rfl rfl hc5) ?_
     refine AtL.pures hT 3 _ _ _ _ rfl ?_
     replace H := H _ rfl
     refine AtL.nil ?_
     exact AtE.then_n ((HK4 _ () _ H).pickP (ts := [8, 1, 4, 9, 10, 11]) (is := []) rfl rfl (by decide) rfl)
    ·
     refine AtC.skip ?_
     exact AtE.then_n ((HK4 _ () _ H).pickP (ts := [8, 1, 4, 9, 10, 11]) (is := []) rfl rfl (by decide) rfl)
  ·
   refine AtC.exit ?_
   refine AtE.then_x ?_
   refine AtE.then_x ?_
   refine AtE.blk_hit ?_
   refine AtE.then_n (AtE.go ?_)
   refine AtC.seqR ?_
   refine AtL.pures hT 1 _ _ _ _ rfl ?_
   refine AtL.e rfl (EffX.call (f := 89) (sh := fun h => nat_trim _ h _) (H0 := H) rfl Tryd.call89 rfl (hl := fun w m hr hw => lift_nat_trim _ w m hr _ hw)) ?_
   rintro _ _ ⟨v_4, h0u4, rfl, rfl, H⟩
   refine AtL.pures hT 1 _ _ _ _ rfl ?_
   refine AtL.nil ?_
   refine AtE.then_n (AtE.go ?_)
   refine AtC.ret ?_
   exact AtE.retN (rs := [.tmp 4]) rfl (ResAll.cons (ResAt.tmp rfl) ResAll.nil) rfl H

theorem lift_nat_Bench_Sub (b : (Option Addr)) (x0 : Sl) (y : Sl) (w : World) (m : Heap) (hr : Rel ⟨m, []⟩ w.heap) (S : Sl → Heap → Prop) (H : nat_Bench_Sub b x0 y m S) :
    Calls Tryd.prog 19 #[Value.pointer b, Sl.toV x0, Sl.toV y] w (Post ⟨w, m⟩ Sl.toV S) := by
  refine Calls.lift (args := [Value.pointer b, Sl.toV x0, Sl.toV y]) Tryd.func19 rfl Tryd.ntmps19 (Nat.le_of_ble_eq_true rfl) hr (nat_Bench_Sub b x0 y m S) H (fun H => ?_)
  refine AtC.pick (ts := [0, 1, 2]) rfl ?_
  unfold nat_Bench_Sub at H
  refine AtC.seqR ?_
  refine AtL.pures hT 1 _ _ _ _ rfl ?_
  refine AtL.nil ?_
  refine AtE.then_n (AtE.go ?_)
  refine AtC.seq ?_
  refine AtC.seqR ?_
  refine AtL.pures hT 2 _ _ _ _ rfl ?_
  refine AtL.e rfl (EffX.call (f := 23) (sh := fun h => nat_Cmp _ _ h _) (H0 := H) rfl Tryd.call23 rfl (hl := fun w m hr hw => lift_nat_Cmp _ _ w m hr _ hw)) ?_
  rintro _ _ ⟨v, h0, rfl, rfl, H⟩
  refine AtL.pures hT 1 _ _ _ _ rfl ?_
  refine AtL.nil ?_
  refine AtE.then_n (AtE.go ?_)
  refine AtC.condB H rfl (fun H => ?_) (fun H => ?_)
  ·
   refine AtC.seqR ?_
   refine AtL.pures hT 1 _ _ _ _ rfl ?_
   refine AtL.nil ?_
   refine AtE.then_n (AtE.go ?_)
   refine AtC.ret ?_
   refine AtE.then_r ?_
   exact AtE.retN (rs := [.tmp 6]) rfl (ResAll.cons (ResAt.tmp rfl) ResAll.nil) rfl H
  ·
   refine AtC.skip ?_
   refine AtE.then_n (AtE.go ?_)
   refine AtC.seqR ?_
   refine AtL.pures hT 3 _ _ _ _ rfl ?_
   refine AtL.e rfl (EffX.call (f := 89) (sh := fun h => nat_trim _ h _) (H0 := H) rfl Tryd.call89 rfl (hl := fun w m hr hw => lift_nat_trim _ w m hr _ hw)) ?_
   rintro _ _ ⟨v_1, h0u1, rfl, rfl, H⟩
   refine AtL.e rfl (EffX.call (f := 90) (sh := fun h => nat_minus _ _ h _) (H0 := H) rfl Tryd.call90 rfl (hl := fun w m hr hw => lift_nat_minus _ _ w m hr _ hw)) ?_
   rintro _ _ ⟨v_2, h0u2, rfl, rfl, H⟩
   refine AtL.e rfl (EffX.call (f := 86) (sh := fun h => nat_Bench_fit _ _ h _) (H0 := H) rfl Tryd.call86 rfl (hl := fun w m hr hw => lift_nat_Bench_fit _ _ w m hr _ hw)) ?_
   rintro _ _ ⟨v_3, h0u3, rfl, rfl, H⟩
   refine AtL.pures hT 1 _ _ _ _ rfl ?_
   refine AtL.nil ?_
   refine AtE.then_n (AtE.go ?_)
   refine AtC.ret ?_
   exact AtE.retN (rs := [.tmp 6]) rfl (ResAll.cons (ResAt.tmp rfl) ResAll.nil) rfl H

theorem lift_ratio_sum (x0 : Bool × Sl) (y : Bool × Sl) (w : World) (m : Heap) (hr : Rel ⟨m, []⟩ w.heap) (S : (Bool × Sl) → Heap → Prop) (H : ratio_sum x0 y m S) :
    Calls Tryd.prog 108 #[Value.agg (C_bool_sl x0).toArray, Value.agg (C_bool_sl y).toArray] w (Post ⟨w, m⟩ (fun r => Value.agg (C_bool_sl r).toArray) S) := by
  refine Calls.lift (args := [Value.agg (C_bool_sl x0).toArray, Value.agg (C_bool_sl y).toArray]) Tryd.func108 rfl Tryd.ntmps108 (Nat.le_of_ble_eq_true rfl) hr (ratio_sum x0 y m S) H (fun H => ?_)
  refine AtC.pick (ts := [0, 1]) rfl ?_
  unfold ratio_sum at H
  refine AtC.seqR ?_
  refine AtL.e rfl (EffX.boxP (cs := [_, _]) rfl rfl rfl H) ?_
  rintro _ _ ⟨b, _, rfl, rfl, _, H⟩
  refine AtL.e rfl (EffX.boxP (cs := [_, _]) rfl rfl rfl H) ?_
  rintro _ _ ⟨b_1, _, rfl, rfl, _, H⟩
  refine AtL.e rfl (EffX.allocP (cs := [_, _]) hT rfl rfl H) ?_
  rintro _ _ ⟨b_2, _, rfl, rfl, _, H⟩
  refine AtL.nil ?_
  replace H := H.self
  refine AtE.then_n (AtE.go ?_)
  refine AtC.seqR ?_
  refine AtL.e rfl (EffX.call (f := 110) (sh := fun h => ratio_free h _) (H0 := H) rfl Tryd.call110 rfl (hl := fun w m hr hw => lift_ratio_free  w m hr _ hw)) ?_
  rintro _ _ ⟨v, h0u1, rfl, rfl, H⟩
  refine AtL.pures hT 1 _ _ _ _ rfl ?_
  refine AtL.nil ?_
  refine AtE.then_n (AtE.go ?_)
  refine AtC.seq ?_
  refine AtC.block ?_
  refine AtC.seqR ?_
  refine AtL.pures hT 1 _ _ _ _ rfl ?_
  refine AtL.q rfl (Quiet1.loadP (i := 2) hT rfl rfl rfl rfl rfl rfl) ?_
  refine AtL.pures hT 1 _ _ _ _ rfl ?_
  refine AtL.q rfl (Quiet1.loadP (i := 1) hT rfl rfl rfl rfl rfl rfl) ?_
  refine AtL.pures hT 2 _ _ _ _ rfl ?_
  refine AtL.nil ?_
  refine AtE.then_n (AtE.go ?_)
  refine AtC.condB H rfl (fun H => ?_) (fun H => ?_)
  ·
   apply AtC.seqS [7, 9] [[], [], [], [], [], [], [], [], [7], [7]] [[], [0], [], [], [3], [], [5], [2, 3, 4, 5, 6], [0, 1, 2, 3, 4, 5, 6, 7], [0, 1, 2, 3, 4, 5, 6, 7, 8]] hmix (by kernel_rfl) [(13, _), (14, _), (15, _), (16, _), (17, _), (18, _), (19, _)] rfl 2 rfl
   refine Stg.go [0, 1, 2, 3, 4, 5, 6] [7] rfl rfl (QAll.cons (QOp.p hT rfl rfl rfl rfl rfl) (QAll.cons (QOp.q rfl rfl (Quiet1.loadP (i := 2) hT rfl rfl rfl rfl rfl rfl) rfl rfl) (QAll.cons (QOp.p hT rfl rfl rfl rfl rfl) (QAll.cons (QOp.p hT rfl rfl rfl rfl rfl) (QAll.cons (QOp.q rfl rfl (Quiet1.loadP (i := 2) hT rfl rfl rfl rfl rfl rfl) rfl rfl) (QAll.cons (QOp.p hT rfl rfl rfl rfl rfl) (QAll.cons (QOp.q rfl rfl (Quiet1.loadP (i := 1) hT rfl rfl rfl rfl rfl rfl) rfl rfl) QAll.nil))))))) ?_
   refine EAll.cons ?_ EAll.nil
   refine EOp.e rfl rfl rfl (EffX.call (f := 17) (sh := fun h => nat_Bench_Add _ _ _ h _) (H0 := H) rfl Tryd.call17 rfl (hl := fun w m hr hw => lift_nat_Bench_Add _ _ _ w m hr _ hw)) ?_
   rintro _ _ ⟨v_1, h0u2, rfl, rfl, H⟩
   apply Stg.next [(20, _), (21, _)] rfl rfl
   refine Stg.go [0, 1, 8] [9] rfl rfl (QAll.cons (QOp.p hT rfl rfl rfl rfl rfl) (QAll.cons (QOp.q rfl rfl (Quiet1.loadP (i := 2) hT rfl rfl rfl rfl rfl rfl) rfl rfl) (QAll.cons (QOp.q rfl rfl (Quiet1.build (cs := [_, _]) hT rfl rfl rfl rfl rfl rfl) rfl rfl) QAll.nil))) ?_
   refine EAll.cons ?_ EAll.nil
   refine EOp.e rfl rfl rfl (EffX.storeSP (i := 0) (qv := [(_, [_, _]), (_, [_, _]), (_, [_, _])]) hT rfl rfl rfl rfl rfl rfl rfl rfl rfl rfl) ?_
   rintro _ _ rfl
   apply Stg.next [] rfl rfl
   refine Stg.fin [] rfl rfl QAll.nil ?_
   refine AtE.then_n (AtE.go ?_)
   refine AtC.ret ?_
   refine AtE.blk_r ?_
   refine AtE.then_r ?_
   exact AtE.retN (rs := [.cell 4 52]) rfl (ResAll.cons (ResAt.cellSP (i := 0) (l := [_, _]) hT rfl rfl rfl rfl rfl rfl rfl) ResAll.nil) rfl H
  ·
   refine AtC.seqR ?_
   refine AtL.pures hT 1 _ _ _ _ rfl ?_
   refine AtL.q rfl (Quiet1.loadP (i := 2) hT rfl rfl rfl rfl rfl rfl) ?_
   refine AtL.pures hT 1 _ _ _ _ rfl ?_
   refine AtL.q rfl (Quiet1.loadP (i := 1) hT rfl rfl rfl rfl rfl rfl) ?_
   refine AtL.e rfl (EffX.call (f := 23) (sh := fun h => nat_Cmp _ _ h _) (H0 := H) rfl Tryd.call23 rfl (hl := fun w m hr hw => lift_nat_Cmp _ _ w m hr _ hw)) ?_
   rintro _ _ ⟨v_2, h0u3, rfl, rfl, H⟩
   refine AtL.pures hT 2 _ _ _ _ rfl ?_
   refine AtL.nil ?_
   refine AtE.then_n (AtE.go ?_)
   refine AtC.condB H rfl (fun H => ?_) (fun H => ?_)
   ·
    apply AtC.seqS [7, 9] [[], [], [], [], [], [], [], [], [7], [7]] [[], [0], [], [], [3], [], [5], [2, 3, 4, 5, 6], [0, 1, 2, 3, 4, 5, 6, 7], [0, 1, 2, 3, 4, 5, 6, 7, 8]] hmix (by kernel_rfl) [(29, _), (30, _), (31, _), (32, _), (33, _), (34, _), (35, _)] rfl 2 rfl
    refine Stg.go [0, 1, 2, 3, 4, 5, 6] [7] rfl rfl (QAll.cons (QOp.p hT rfl rfl rfl rfl rfl) (QAll.cons (QOp.q rfl rfl (Quiet1.loadP (i := 2) hT rfl rfl rfl rfl rfl rfl) rfl rfl) (QAll.cons (QOp.p hT rfl rfl rfl rfl rfl) (QAll.cons (QOp.p hT rfl rfl rfl rfl rfl) (QAll.cons (QOp.q rfl rfl (Quiet1.loadP (i := 2) hT rfl rfl rfl rfl rfl rfl) rfl rfl) (QAll.cons (QOp.p hT rfl rfl rfl rfl rfl) (QAll.cons (QOp.q rfl rfl (Quiet1.loadP (i := 1) hT rfl rfl rfl rfl rfl rfl) rfl rfl) QAll.nil))))))) ?_
    refine EAll.cons ?_ EAll.nil
    refine EOp.e rfl rfl rfl (EffX.call (f := 19) (sh := fun h => nat_Bench_Sub _ _ _ h _) (H0 := H) rfl Tryd.call19 rfl (hl := fun w m hr hw => lift_nat_Bench_Sub _ _ _ w m hr _ hw)) ?_
    rintro _ _ ⟨v_3, h0u4, rfl, rfl, H⟩
    apply Stg.next [(36, _), (37, _)] rfl rfl
    refine Stg.go [0, 1, 8] [9] rfl rfl (QAll.cons (QOp.p hT rfl rfl rfl rfl rfl) (QAll.cons (QOp.q rfl rfl (Quiet1.loadP (i := 2) hT rfl rfl rfl rfl rfl rfl) rfl rfl) (QAll.cons (QOp.q rfl rfl (Quiet1.build (cs := [_, _]) hT rfl rfl rfl rfl rfl rfl) rfl rfl) QAll.nil))) ?_
    refine EAll.cons ?_ EAll.nil
    refine EOp.e rfl rfl rfl (EffX.storeSP (i := 0) (qv := [(_, [_, _]), (_, [_, _]), (_, [_, _])]) hT rfl rfl rfl rfl rfl rfl rfl rfl rfl rfl) ?_
    rintro _ _ rfl
    apply Stg.next [] rfl rfl
    refine Stg.fin [] rfl rfl QAll.nil ?_
    refine AtE.then_n (AtE.go ?_)
    refine AtC.ret ?_
    refine AtE.blk_r ?_
    refine AtE.then_r ?_
    exact AtE.retN (rs := [.cell 4 52]) rfl (ResAll.cons (ResAt.cellSP (i := 0) (l := [_, _]) hT rfl rfl rfl rfl rfl rfl rfl) ResAll.nil) rfl H
   ·
    refine AtC.skip ?_
    refine AtE.blk_n ?_
    refine AtE.then_n (AtE.go ?_)
    apply AtC.seqS [7, 9] [[], [], [], [], [], [], [], [], [7], [7]] [[], [0], [], [], [3], [], [5], [2, 3, 4, 5, 6], [0, 1, 2, 3, 4, 5, 6, 7], [0, 1, 2, 3, 4, 5, 6, 7, 8]] hmix (by kernel_rfl) [(38, _), (39, _), (40, _), (41, _), (42, _), (43, _), (44, _)] rfl 2 rfl
    refine Stg.go [0, 1, 2, 3, 4, 5, 6] [7] rfl rfl (QAll.cons (QOp.p hT rfl rfl rfl rfl rfl) (QAll.cons (QOp.q rfl rfl (Quiet1.loadP (i := 1) hT rfl rfl rfl rfl rfl rfl) rfl rfl) (QAll.cons (QOp.p hT rfl rfl rfl rfl rfl) (QAll.cons (QOp.p hT rfl rfl rfl rfl rfl) (QAll.cons (QOp.q rfl rfl (Quiet1.loadP (i := 1) hT rfl rfl rfl rfl rfl rfl) rfl rfl) (QAll.cons (QOp.p hT rfl rfl rfl rfl rfl) (QAll.cons (QOp.q rfl rfl (Quiet1.loadP (i := 2) hT rfl rfl rfl rfl rfl rfl) rfl rfl) QAll.nil))))))) ?_
    refine EAll.cons ?_ EAll.nil
    refine EOp.e rfl rfl rfl (EffX.call (f := 19) (sh := fun h => nat_Bench_Sub _ _ _ h _) (H0 := H) rfl Tryd.call19 rfl (hl := fun w m hr hw => lift_nat_Bench_Sub _ _ _ w m hr _ hw)) ?_
    rintro _ _ ⟨v_4, h0u5, rfl, rfl, H⟩
    apply Stg.next [(45, _), (46, _)] rfl rfl
    refine Stg.go [0, 1, 8] [9] rfl rfl (QAll.cons (QOp.p hT rfl rfl rfl rfl rfl) (QAll.cons (QOp.q rfl rfl (Quiet1.loadP (i := 1) hT rfl rfl rfl rfl rfl rfl) rfl rfl) (QAll.cons (QOp.q rfl rfl (Quiet1.build (cs := [_, _]) hT rfl rfl rfl rfl rfl rfl) rfl rfl) QAll.nil))) ?_
    refine EAll.cons ?_ EAll.nil
    refine EOp.e rfl rfl rfl (EffX.storeSP (i := 0) (qv := [(_, [_, _]), (_, [_, _]), (_, [_, _])]) hT rfl rfl rfl rfl rfl rfl rfl rfl rfl rfl) ?_
    rintro _ _ rfl
    apply Stg.next [] rfl rfl
    refine Stg.fin [] rfl rfl QAll.nil ?_
    refine AtE.then_n (AtE.go ?_)
    refine AtC.ret ?_
    exact AtE.retN (rs := [.cell 4 52]) rfl (ResAll.cons (ResAt.cellSP (i := 0) (l := [_, _]) hT rfl rfl rfl rfl rfl rfl rfl) ResAll.nil) rfl H

theorem lift_ratio_Cmp (x0 : Bool × Sl × Sl) (y : Bool × Sl × Sl) (w : World) (m : Heap) (hr : Rel ⟨m, []⟩ w.heap) (S : Int → Heap → Prop) (H : ratio_Cmp x0 y m S) :
    Calls Tryd.prog 58 #[Value.agg (C_bool_sl_sl x0).toArray, Value.agg (C_bool_sl_sl y).toArray] w (Post ⟨w, m⟩ (Value.int .i64) S) := by
  refine Calls.lift (args := [Value.agg (C_bool_sl_sl x0).toArray, Value.agg (C_bool_sl_sl y).toArray]) Tryd.func58 rfl Tryd.ntmps58 (Nat.le_of_ble_eq_true rfl) hr (ratio_Cmp x0 y m S) H (fun H => ?_)
  refine AtC.pick (ts := [0, 1]) rfl ?_
  unfold ratio_Cmp at H
  refine AtC.seqR ?_
  refine AtL.e rfl (EffX.boxP (cs := [_, _, _]) rfl rfl rfl H) ?_
  rintro _ _ ⟨b, _, rfl, rfl, _, H⟩
  refine AtL.e rfl (EffX.boxP (cs := [_, _, _]) rfl rfl rfl H) ?_
  rintro _ _ ⟨b_1, _, rfl, rfl, _, H⟩
  replace H := H.self
  refine AtL.pures hT 1 _ _ _ _ rfl ?_
  refine AtL.nil ?_
  refine AtE.then_n (AtE.go ?_)
  refine AtC.seqR ?_
  refine AtL.q rfl (Quiet1.loadSP (i := 1) (l := [_, _, _]) hT rfl rfl rfl rfl rfl rfl rfl rfl) ?_
  refine AtL.q rfl (Quiet1.loadSP (i := 0) (l := [_, _, _]) hT rfl rfl rfl rfl rfl rfl rfl rfl) ?_
  refine AtL.e rfl (EffX.call (f := 107) (sh := fun h => ratio_cross _ _ h _) (H0 := H) rfl Tryd.call107 rfl (hl := fun w m hr hw => lift_ratio_cross _ _ w m hr _ hw)) ?_
  rintro _ _ ⟨v, h0u1, rfl, rfl, H⟩
  refine AtL.pures hT 3 _ _ _ _ rfl ?_
  refine AtL.e rfl (EffX.allocP (cs := [_, _]) hT rfl rfl H) ?_
  rintro _ _ ⟨b_2, _, rfl, rfl, _, H⟩
  refine AtL.e rfl (EffX.allocP (cs := [_, _]) hT rfl rfl H) ?_
  rintro _ _ ⟨b_3, _, rfl, rfl, _, H⟩
  replace H := H.self
  refine AtL.e rfl (EffX.storeSP (i := 1) (qv := [(_, [_, _]), (_, [_, _]), (_, [_, _, _]), (_, [_, _, _])]) hT rfl rfl rfl rfl rfl rfl rfl rfl rfl rfl) ?_
  rintro _ _ rfl
  refine AtL.e rfl (EffX.storeSP (i := 0) (qv := [(_, [_, _]), (_, [_, _]), (_, [_, _, _]), (_, [_, _, _])]) hT rfl rfl rfl rfl rfl rfl rfl rfl rfl rfl) ?_
  rintro _ _ rfl
  refine AtL.nil ?_
  refine AtE.then_n (AtE.go ?_)
  refine AtC.seqR ?_
  refine AtL.pures hT 1 _ _ _ _ rfl ?_
  refine AtL.q rfl (Quiet1.loadP (i := 0) hT rfl rfl rfl rfl rfl rfl) ?_
  refine AtL.pures hT 2 _ _ _ _ rfl ?_
  refine AtL.e rfl (EffX.storeP (i := 0) (qv := [(_, [_, _]), (_, [_, _]), (_, [_, _, _]), (_, [_, _, _])]) hT rfl rfl rfl rfl rfl rfl rfl rfl rfl) ?_
  rintro _ _ rfl
  refine AtL.nil ?_
  refine AtE.then_n (AtE.go ?_)
  refine AtC.seqR ?_
  refine AtL.q rfl (Quiet1.loadSP (i := 1) (l := [_, _]) hT rfl rfl rfl rfl rfl rfl rfl rfl) ?_
  refine AtL.q rfl (Quiet1.loadSP (i := 0) (l := [_, _]) hT rfl rfl rfl rfl rfl rfl rfl rfl) ?_
  refine AtL.e rfl (EffX.call (f := 108) (sh := fun h => ratio_sum _ _ h _) (H0 := H) rfl Tryd.call108 rfl (hl := fun w m hr hw => lift_ratio_sum _ _ w m hr _ hw)) ?_
  rintro _ _ ⟨v_1, h0u3, rfl, rfl, H⟩
  refine AtL.e rfl (EffX.allocP (cs := [_, _]) hT rfl rfl H) ?_
  rintro _ _ ⟨b_4, _, rfl, rfl, _, H⟩
  replace H := H.self
  refine AtL.e rfl (EffX.storeSP (i := 0) (qv := [(_, [_, _]), (_, [_, _]), (_, [_, _]), (_, [_, _, _]), (_, [_, _, _])]) hT rfl rfl rfl rfl rfl rfl rfl rfl rfl rfl) ?_
  rintro _ _ rfl
  refine AtL.nil ?_
  refine AtE.then_n (AtE.go ?_)
  refine AtC.seq ?_
  refine AtC.block ?_
  refine AtC.seqR ?_
  refine AtL.pures hT 1 _ _ _ _ rfl ?_
  refine AtL.q rfl (Quiet1.loadP (i := 0) hT rfl rfl rfl rfl rfl rfl) ?_
  refine AtL.pures hT 3 _ _ _ _ rfl ?_
  refine AtL.nil ?_
  refine AtE.then_n (AtE.go ?_)
  refine AtC.condB H rfl (fun H => ?_) (fun H => ?_)
  ·
   refine AtC.seqR ?_
   refine AtL.pures hT 1 _ _ _ _ rfl ?_
   refine AtL.nil ?_
   refine AtE.then_n (AtE.go ?_)
   refine AtC.ret ?_
   refine AtE.blk_r ?_
   refine AtE.then_r ?_
   exact AtE.retN (rs := [.tmp 4]) rfl (ResAll.cons (ResAt.tmp rfl) ResAll.nil) rfl H
  ·
   refine AtC.seqR ?_
   refine AtL.pures hT 1 _ _ _ _ rfl ?_
   refine AtL.q rfl (Quiet1.loadP (i := 0) hT rfl rfl rfl rfl rfl rfl) ?_
   refine AtL.pures hT 1 _ _ _ _ rfl ?_
   refine AtL.nil ?_
   refine AtE.then_n (AtE.go ?_)
   refine AtC.condB H rfl (fun H => ?_) (fun H => ?_)
   ·
    refine AtC.seqR ?_
    refine AtL.pures hT 1 _ _ _ _ rfl ?_
    refine AtL.nil ?_
    refine AtE.then_n (AtE.go ?_)
    refine AtC.ret ?_
    refine AtE.blk_r ?_
    refine AtE.then_r ?_
    exact AtE.retN (rs := [.tmp 4]) rfl (ResAll.cons (ResAt.tmp rfl) ResAll.nil) rfl H
   ·
    refine AtC.skip ?_
    refine AtE.blk_n ?_
    refine AtE.then_n (AtE.go ?_)
    refine AtC.seqR ?_
    refine AtL.pures hT 1 _ _ _ _ rfl ?_
    refine AtL.nil ?_
    refine AtE.then_n (AtE.go ?_)
    refine AtC.ret ?_
    exact AtE.retN (rs := [.tmp 4]) rfl (ResAll.cons (ResAt.tmp rfl) ResAll.nil) rfl H

theorem lift_delta_Cmp (x0 : Bool × Sl × Sl × Bool × Sl × Sl) (y : Bool × Sl × Sl × Bool × Sl × Sl) (w : World) (m : Heap) (hr : Rel ⟨m, []⟩ w.heap) (S : Int → Heap → Prop) (H : delta_Cmp x0 y m S) :
    Calls Tryd.prog 51 #[Value.agg (C_bool_sl_sl_bool_sl_sl x0).toArray, Value.agg (C_bool_sl_sl_bool_sl_sl y).toArray] w (Post ⟨w, m⟩ (Value.int .i64) S) := by
  refine Calls.lift (args := [Value.agg (C_bool_sl_sl_bool_sl_sl x0).toArray, Value.agg (C_bool_sl_sl_bool_sl_sl y).toArray]) Tryd.func51 rfl Tryd.ntmps51 (Nat.le_of_ble_eq_true rfl) hr (delta_Cmp x0 y m S) H (fun H => ?_)
  refine AtC.pick (ts := [0, 1]) rfl ?_
  unfold delta_Cmp at H
  refine AtC.seqR ?_
  refine AtL.e rfl (EffX.boxP (cs := [_, _, _, _, _, _]) rfl rfl rfl H) ?_
  rintro _ _ ⟨b, _, rfl, rfl, _, H⟩
  refine AtL.e rfl (EffX.boxP (cs := [_, _, _, _, _, _]) rfl rfl rfl H) ?_
  rintro _ _ ⟨b_1, _, rfl, rfl, _, H⟩
  replace H := H.self
  refine AtL.pures hT 1 _ _ _ _ rfl ?_
  refine AtL.nil ?_
  refine AtE.then_n (AtE.go ?_)
  refine AtC.seq ?_
  refine AtC.seqR ?_
  refine AtL.pures hT 1 _ _ _ _ rfl ?_
  refine AtL.q rfl (Quiet1.loadSP (i := 1) (l := [_, _, _]) hT rfl rfl rfl rfl rfl rfl rfl rfl) ?_
  refine AtL.pures hT 1 _ _ _ _ rfl ?_
  refine AtL.q rfl (Quiet1.loadSP (i := 0) (l := [_, _, _]) hT rfl rfl rfl rfl rfl rfl rfl rfl) ?_
  refine AtL.e rfl (EffX.call (f := 58) (sh := fun h => ratio_Cmp _ _ h _) (H0 := H) rfl Tryd.call58 rfl (hl := fun w m hr hw => lift_ratio_Cmp _ _ w m hr _ hw)) ?_
  rintro _ _ ⟨v, h0u1, rfl, rfl, H⟩
  refine AtL.pures hT 1 _ _ _ _ rfl ?_
  refine AtL.nil ?_
  refine AtE.then_n (AtE.go ?_)
  refine AtC.seqR ?_
  refine AtL.pures hT 2 _ _ _ _ rfl ?_
  refine AtL.nil ?_
  refine AtE.then_n (AtE.go ?_)
  refine AtC.condB H rfl (fun H => ?_) (fun H => ?_)
  ·
   refine AtC.seqR ?_
   refine AtL.pures hT 2 _ _ _ _ rfl ?_
   refine AtL.nil ?_
   refine AtE.then_n (AtE.go ?_)
   refine AtC.ret ?_
   refine AtE.then_r ?_
   exact AtE.retN (rs := [.tmp 4]) rfl (ResAll.cons (ResAt.tmp rfl) ResAll.nil) rfl H
  ·
   refine AtC.skip ?_
   refine AtE.then_n (AtE.go ?_)
   refine AtC.seqR ?_
   refine AtL.pures hT 1 _ _ _ _ rfl ?_
   refine AtL.q rfl (Quiet1.loadSP (i := 1) (l := [_, _, _]) hT rfl rfl rfl rfl rfl rfl rfl rfl) ?_
   refine AtL.pures hT 1 _ _ _ _ rfl ?_
   refine AtL.q rfl (Quiet1.loadSP (i := 0) (l := [_, _, _]) hT rfl rfl rfl rfl rfl rfl rfl rfl) ?_
   refine AtL.e rfl (EffX.call (f := 58) (sh := fun h => ratio_Cmp _ _ h _) (H0 := H) rfl Tryd.call58 rfl (hl := fun w m hr hw => lift_ratio_Cmp _ _ w m hr _ hw)) ?_
   rintro _ _ ⟨v_1, h0u2, rfl, rfl, H⟩
   refine AtL.pures hT 1 _ _ _ _ rfl ?_
   refine AtL.nil ?_
   refine AtE.then_n (AtE.go ?_)
   refine AtC.ret ?_
   exact AtE.retN (rs := [.tmp 4]) rfl (ResAll.cons (ResAt.tmp rfl) ResAll.nil) rfl H

theorem lift_ratio_Sign (x0 : Bool × Sl × Sl) (w : World) (m : Heap) (hr : Rel ⟨m, []⟩ w.heap) (S : Int → Heap → Prop) (H : ratio_Sign x0 m S) :
    Calls Tryd.prog 57 #[Value.agg (C_bool_sl_sl x0).toArray] w (Post ⟨w, m⟩ (Value.int .i64) S) := by
  refine Calls.lift (args := [Value.agg (C_bool_sl_sl x0).toArray]) Tryd.func57 rfl Tryd.ntmps57 (Nat.le_of_ble_eq_true rfl) hr (ratio_Sign x0 m S) H (fun H => ?_)
  refine AtC.pick (ts := [0]) rfl ?_
  unfold ratio_Sign at H
  refine AtC.seqR ?_
  refine AtL.e rfl (EffX.boxP (cs := [_, _, _]) rfl rfl rfl H) ?_
  rintro _ _ ⟨b, _, rfl, rfl, _, H⟩
  replace H := H.self
  refine AtL.pures hT 1 _ _ _ _ rfl ?_
  refine AtL.nil ?_
  refine AtE.then_n (AtE.go ?_)
  refine AtC.seq ?_
  refine AtC.block ?_
  refine AtC.seqR ?_
  refine AtL.pures hT 2 _ _ _ _ rfl ?_
  refine AtL.q rfl (Quiet1.loadP (i := 0) hT rfl rfl rfl rfl rfl rfl) ?_
  refine AtL.pures hT 3 _ _ _ _ rfl ?_
  refine AtL.nil ?_
  refine AtE.then_n (AtE.go ?_)
  refine AtC.condB H rfl (fun H => ?_) (fun H => ?_)
  ·
   refine AtC.seqR ?_
   refine AtL.pures hT 1 _ _ _ _ rfl ?_
   refine AtL.nil ?_
   refine AtE.then_n (AtE.go ?_)
   refine AtC.ret ?_
   refine AtE.blk_r ?_
   refine AtE.then_r ?_
   exact AtE.retN (rs := [.tmp 2]) rfl (ResAll.cons (ResAt.tmp rfl) ResAll.nil) rfl H
  ·
   refine AtC.seqR ?_
   refine AtL.pures hT 2 _ _ _ _ rfl ?_
   refine AtL.q rfl (Quiet1.loadP (i := 0) hT rfl rfl rfl rfl rfl rfl) ?_
   refine AtL.pures hT 1 _ _ _ _ rfl ?_
   refine AtL.nil ?_
   refine AtE.then_n (AtE.go ?_)
   refine AtC.condB H rfl (fun H => ?_) (fun H => ?_)
   ·
    refine AtC.seqR ?_
    refine AtL.pures hT 1 _ _ _ _ rfl ?_
    refine AtL.nil ?_
    refine AtE.then_n (AtE.go ?_)
    refine AtC.ret ?_
    refine AtE.blk_r ?_
    refine AtE.then_r ?_
    exact AtE.retN (rs := [.tmp 2]) rfl (ResAll.cons (ResAt.tmp rfl) ResAll.nil) rfl H
   ·
    refine AtC.skip ?_
    refine AtE.blk_n ?_
    refine AtE.then_n (AtE.go ?_)
    refine AtC.seqR ?_
    refine AtL.pures hT 1 _ _ _ _ rfl ?_
    refine AtL.nil ?_
    refine AtE.then_n (AtE.go ?_)
    refine AtC.ret ?_
    exact AtE.retN (rs := [.tmp 2]) rfl (ResAll.cons (ResAt.tmp rfl) ResAll.nil) rfl H

theorem lift_nat_small (x0 : Sl) (w : World) (m : Heap) (hr : Rel ⟨m, []⟩ w.heap) (S : (Int × Bool) → Heap → Prop) (H : nat_small x0 m S) :
    Calls Tryd.prog 96 #[Sl.toV x0] w (Post ⟨w, m⟩ (fun r => Value.tuple #[(Value.int .u64) r.1, Value.bool r.2]) S) := by
  refine Calls.lift (args := [Sl.toV x0]) Tryd.func96 rfl Tryd.ntmps96 (Nat.le_of_ble_eq_true rfl) hr (nat_small x0 m S) H (fun H => ?_)
  refine AtC.pick (ts := [0]) rfl ?_
  unfold nat_small at H
  refine AtC.seqR ?_
  refine AtL.pures hT 2 _ _ _ _ rfl ?_
  refine AtL.nil ?_
  refine AtE.then_n (AtE.go ?_)
  refine AtC.seqR ?_
  refine AtL.pures hT 1 _ _ _ _ rfl ?_
  refine AtL.e rfl (EffX.call (f := 89) (sh := fun h => nat_trim _ h _) (H0 := H) rfl Tryd.call89 rfl (hl := fun w m hr hw => lift_nat_trim _ w m hr _ hw)) ?_
  rintro _ _ ⟨v, h0, rfl, rfl, H⟩
  refine AtL.pures hT 1 _ _ _ _ rfl ?_
  refine AtL.nil ?_
  refine AtE.then_n (AtE.go ?_)
  refine AtC.seq ?_
  refine AtC.seqR ?_
  refine AtL.pures hT 4 _ _ _ _ rfl ?_
  replace H := H _ rfl
  refine AtL.nil ?_
  refine AtE.then_n (AtE.go ?_)
  refine AtC.block ?_
  refine AtC.loopM (fun (s0 : Int × Int) => [(2, Value.int .u64 s0.1), (4, Value.int .i64 s0.2)]) (fun (s0 : Int × Int) => []) [0] [2, 4, 0] [] [] H (by exact rfl) (by exact rfl) (by exact rfl) (by decide) (by exact rfl) (fun Kp1 s0 h0u1 H Q1 HK1 => ?_)
  refine AtC.seq ?_
  refine AtC.seqR ?_
  refine AtL.pures hT 2 _ _ _ _ rfl ?_
  refine AtL.nil ?_
  refine AtE.then_n (AtE.go ?_)
  refine AtC.condB H rfl (fun H => ?_) (fun H => ?_)
  ·
   refine AtC.skip ?_
   refine AtE.then_n (AtE.go ?_)
   refine AtC.seq ?_
   refine AtC.block ?_
   refine AtC.region ?_
   refine AtL.pures hT 4 _ _ _ _ rfl ?_
   obtain ⟨a_, hc1, hd1, H⟩ := H
   refine AtL.q rfl (Quiet1.idxS (s := _) hT rfl rfl rfl rfl rfl hc1 hd1) ?_
   obtain ⟨v_1, hc2, H⟩ := H
   refine AtL.q rfl (Quiet1.load hT rfl rfl rfl hc2) ?_
   refine AtL.pures hT 3 _ _ _ _ rfl ?_
   replace H := H _ rfl
   refine AtL.nil ?_
   refine AtE.blk_n ?_
   refine AtE.then_n (AtE.go ?_)
   refine AtC.region ?_
   refine AtL.pures hT 3 _ _ _ _ rfl ?_
   replace H := H _ rfl
   refine AtL.nil ?_
   exact AtE.then_n ((HK1 _ _ H).pickP (ts := [2, 4, 0]) (is := []) rfl rfl (by decide) rfl)
  ·
   refine AtC.exit ?_
   refine AtE.then_x ?_
   refine AtE.then_x ?_
   refine AtE.blk_hit ?_
   refine AtE.then_n (AtE.go ?_)
   refine AtC.seqR ?_
   refine AtL.pures hT 6 _ _ _ _ rfl ?_
   replace H := H _ rfl
   refine AtL.nil ?_
   refine AtE.then_n (AtE.go ?_)
   refine AtC.ret ?_
   exact AtE.retN (rs := [.tmp 2, .tmp 3]) rfl (ResAll.cons (ResAt.tmp rfl) (ResAll.cons (ResAt.tmp rfl) ResAll.nil)) rfl H

theorem lift_nat_bit (x0 : Sl) (at0 : Int) (w : World) (m : Heap) (hr : Rel ⟨m, []⟩ w.heap) (S : Int → Heap → Prop) (H : nat_bit x0 at0 m S) :
    Calls Tryd.prog 121 #[Sl.toV x0, Value.int .i64 at0] w (Post ⟨w, m⟩ (Value.int .u32) S) := by
  refine Calls.lift (args := [Sl.toV x0, Value.int .i64 at0]) Tryd.func121 rfl Tryd.ntmps121 (Nat.le_of_ble_eq_true rfl) hr (nat_bit x0 at0 m S) H (fun H => ?_)
  refine AtC.pick (ts := [0, 1]) rfl ?_
  unfold nat_bit at H
  refine AtC.seqR ?_
  refine AtL.pures hT 1 _ _ _ _ rfl ?_
  refine AtL.nil ?_
  refine AtE.then_n (AtE.go ?_)
  refine AtC.seqR ?_
  refine AtL.pures hT 3 _ _ _ _ rfl ?_
  obtain ⟨a_, hc0, hd0, H⟩ := H
  refine AtL.q rfl (Quiet1.idxS (s := _) hT rfl rfl rfl rfl rfl hc0 hd0) ?_
  obtain ⟨v, hc1, H⟩ := H
  refine AtL.q rfl (Quiet1.load hT rfl rfl rfl hc1) ?_
  refine AtL.pures hT 2 _ _ _ _ rfl ?_
  obtain ⟨hd2, H⟩ := H
  refine AtL.q rfl (Quiet1.shr rfl rfl rfl hd2) ?_
  refine AtL.pures hT 2 _ _ _ _ rfl ?_
  refine AtL.nil ?_
  refine AtE.then_n (AtE.go ?_)
  refine AtC.ret ?_
  exact AtE.retN (rs := [.tmp 4]) rfl (ResAll.cons (ResAt.tmp rfl) ResAll.nil) rfl H

theorem lift_nat_divide (x0 : Sl) (y : Sl) (w : World) (m : Heap) (hr : Rel ⟨m, []⟩ w.heap) (S : (Sl × Sl) → Heap → Prop) (H : nat_divide x0 y m S) :
    Calls Tryd.prog 93 #[Sl.toV x0, Sl.toV y] w (Post ⟨w, m⟩ (fun r => Value.tuple #[Sl.toV r.1, Sl.toV r.2]) S) := by
  refine Calls.lift (args := [Sl.toV x0, Sl.toV y]) Tryd.func93 rfl Tryd.ntmps93 (Nat.le_of_ble_eq_true rfl) hr (nat_divide x0 y m S) H (fun H => ?_)
  refine AtC.pick (ts := [0, 1]) rfl ?_
  unfold nat_divide at H
  refine AtC.seqR ?_
  refine AtL.pures hT 2 _ _ _ _ rfl ?_
  refine AtL.nil ?_
  refine AtE.then_n (AtE.go ?_)
  refine AtC.seqR ?_
  refine AtL.pures hT 1 _ _ _ _ rfl ?_
  refine AtL.e rfl (EffX.call (f := 96) (sh := fun h => nat_small _ h _) (H0 := H) rfl Tryd.call96 rfl (hl := fun w m hr hw => lift_nat_small _ w m hr _ hw)) ?_
  rintro _ _ ⟨v, h0, rfl, rfl, H⟩
  refine AtL.pures hT 5 _ _ _ _ rfl ?_
  refine AtL.nil ?_
  refine AtE.then_n (AtE.go ?_)
  refine AtC.seqR ?_
  refine AtL.pures hT 1 _ _ _ _ rfl ?_
  refine AtL.e rfl (EffX.call (f := 96) (sh := fun h => nat_small _ h _) (H0 := H) rfl Tryd.call96 rfl (hl := fun w m hr hw => lift_nat_small _ w m hr _ hw)) ?_
  rintro _ _ ⟨v_1, h0u1, rfl, rfl, H⟩
  refine AtL.pures hT 5 _ _ _ _ rfl ?_
  refine AtL.nil ?_
  refine AtE.then_n (AtE.go ?_)
  refine AtC.seq ?_
  refine AtC.joinSeq (β := Unit) (fun (t0 : Bool) (bb : Unit) => [(24, Value.bool t0)]) (fun (t0 : Bool) (bb : Unit) => []) [0, 1, 5, 6, 8] [] H (by exact rfl) (by exact rfl) (fun t0 bb h0u2 H => ?_) (fun J1 H HK1 => ?_)
  ·
   refine AtC.condB H rfl (fun H => ?_) (fun H => ?_)
   ·
    obtain ⟨hd1, H⟩ := H
    obtain ⟨hd2, H⟩ := H
    apply AtC.seqS [3, 7] [[], [], [], [], [], [], [], [3], [3, 7], [3, 7]] [[], [], [0, 1], [0, 1, 2], [], [], [4, 5], [0, 1, 2, 3, 4, 5, 6], [0, 1, 2, 3, 4, 5, 6, 7], [0, 1, 2, 3, 4, 5, 6, 7, 8]] hmix (by kernel_rfl) [(25, _), (26, _), (27, _), (29, _), (30, _), (31, _)] rfl 2 rfl
    refine Stg.go [0, 1, 2, 4, 5, 6] [3] rfl rfl (QAll.cons (QOp.p hT rfl rfl rfl rfl rfl) (QAll.cons (QOp.p hT rfl rfl rfl rfl rfl) (QAll.cons (QOp.q rfl rfl (Quiet1.quo rfl rfl rfl hd1) rfl rfl) (QAll.cons (QOp.p hT rfl rfl rfl rfl rfl) (QAll.cons (QOp.p hT rfl rfl rfl rfl rfl) (QAll.cons (QOp.q rfl rfl (Quiet1.rem rfl rfl rfl hd2) rfl rfl) QAll.nil)))))) ?_
    refine EAll.cons ?_ EAll.nil
    refine EOp.e rfl rfl rfl (EffX.call (f := 85) (sh := fun h => nat_Of _ h _) (H0 := H) rfl Tryd.call85 rfl (hl := fun w m hr hw => lift_nat_Of _ w m hr _ hw)) ?_
    rintro _ _ ⟨v_2, h0u3, rfl, rfl, H⟩
    apply Stg.next [(28, _)] rfl rfl
    refine Stg.go [4, 5, 6] [7] rfl rfl (QAll.cons (QOp.p hT rfl rfl rfl rfl rfl) (QAll.cons (QOp.p hT rfl rfl rfl rfl rfl) (QAll.cons (QOp.q rfl rfl (Quiet1.rem rfl rfl rfl hd2) rfl rfl) QAll.nil))) ?_
    refine EAll.cons ?_ EAll.nil
    refine EOp.e rfl rfl rfl (EffX.call (f := 85) (sh := fun h => nat_Of _ h _) (H0 := H) rfl Tryd.call85 rfl (hl := fun w m hr hw => lift_nat_Of _ w m hr _ hw)) ?_
    rintro _ _ ⟨v_3, h0u4, rfl, rfl, H⟩
    apply Stg.next [(32, _), (4, _), (5, _)] rfl rfl
    refine Stg.fin [8, 9] rfl rfl (QAll.cons (QOp.p hT rfl rfl rfl rfl rfl) (QAll.cons (QOp.p hT rfl rfl rfl rfl rfl) QAll.nil)) ?_
    refine AtE.then_n (AtE.go ?_)
    refine AtC.ret ?_
    refine AtE.then_r ?_
    exact AtE.retN (rs := [.tmp 4, .tmp 5]) rfl (ResAll.cons (ResAt.tmp rfl) (ResAll.cons (ResAt.tmp rfl) ResAll.nil)) rfl H
   ·
    refine AtC.skip ?_
    refine AtE.then_n (AtE.go ?_)
    refine AtC.seqR ?_
    refine AtL.pures hT 1 _ _ _ _ rfl ?_
    refine AtL.e rfl (EffX.call (f := 89) (sh := fun h => nat_trim _ h _) (H0 := H) rfl Tryd.call89 rfl (hl := fun w m hr hw => lift_nat_trim _ w m hr _ hw)) ?_
    rintro _ _ ⟨v_4, h0u5, rfl, rfl, H⟩
    refine AtL.pures hT 1 _ _ _ _ rfl ?_
    refine AtL.e rfl (EffX.call (f := 89) (sh := fun h => nat_trim _ h _) (H0 := H) rfl Tryd.call89 rfl (hl := fun w m hr hw => lift_nat_trim _ w m hr _ hw)) ?_
    rintro _ _ ⟨v_5, h0u6, rfl, rfl, H⟩
    refine AtL.pures hT 2 _ _ _ _ rfl ?_
    refine AtL.nil ?_
    refine AtE.then_n (AtE.go ?_)
    refine AtC.seqR ?_
    refine AtL.pures hT 2 _ _ _ _ rfl ?_
    replace H := H _ rfl
    refine AtL.e rfl (EffX.mkS hT rfl rfl rfl rfl rfl rfl rfl rfl (by decide) H) ?_
    rintro _ _ ⟨v_6, h0u7, rfl, rfl, H⟩
    refine AtL.pures hT 1 _ _ _ _ rfl ?_
    refine AtL.nil ?_
    refine AtE.then_n (AtE.go ?_)
    refine AtC.seq ?_
    refine AtC.seqR ?_
    refine AtL.pures hT 5 _ _ _ _ rfl ?_
    replace H := H _ rfl
    refine AtL.nil ?_
    refine AtE.then_n (AtE.go ?_)
    refine AtC.block ?_
    refine AtC.loopM (fun (s0 : Sl × Int) => [(5, Sl.toV s0.1), (10, Value.int .i64 s0.2)]) (fun (s0 : Sl × Int) => []) [0, 1, 4] [5, 10, 0, 1, 4] [] [] H (by exact rfl) (by exact rfl) (by exact rfl) (by decide) (by exact rfl) (fun Kp4 s0 h0u8 H Q4 HK4 => ?_)
    refine AtC.seq ?_
    refine AtC.seqR ?_
    refine AtL.pures hT 2 _ _ _ _ rfl ?_
    refine AtL.nil ?_
    refine AtE.then_n (AtE.go ?_)
    refine AtC.condB H rfl (fun H => ?_) (fun H => ?_)
    ·
     refine AtC.skip ?_
     refine AtE.then_n (AtE.go ?_)
     refine AtC.joinSeq (β := Unit) (fun (t0u1 : Sl) (bb_1 : Unit) => [(5, Sl.toV t0u1)]) (fun (t0u1 : Sl) (bb_1 : Unit) => []) [0, 1, 4, 10] [] H (by exact rfl) (by exact rfl) (fun t0u1 bb_1 h0u9 H => ?_) (fun J5 H HK5 => ?_)
     ·
      refine AtC.region ?_
      refine AtL.pures hT 3 _ _ _ _ rfl ?_
      replace H := H _ rfl
      refine AtL.nil ?_
      exact AtE.then_n ((HK4 _ _ H).pickP (ts := [5, 10, 0, 1, 4]) (is := []) rfl rfl (by decide) rfl)
     ·
      refine AtC.block ?_
      refine AtC.seqR ?_
      refine AtL.pures hT 2 _ _ _ _ rfl ?_
      refine AtL.e rfl (EffX.call (f := 87) (sh := fun h => nat_plus _ _ h _) (H0 := H) rfl Tryd.call87 rfl (hl := fun w m hr hw => lift_nat_plus _ _ w m hr _ hw)) ?_
      rintro _ _ ⟨v_7, h0u10, rfl, rfl, H⟩
      refine AtL.pures hT 1 _ _ _ _ rfl ?_
      refine AtL.nil ?_
      refine AtE.then_n (AtE.go ?_)
      obtain ⟨a_, hc5, hd5, H⟩ := H
      obtain ⟨v_8, hc6, H⟩ := H
      apply AtC.seqS [5, 8] [[], [], [], [], [], [], [5], [5], [5]] [[], [0], [0, 1], [], [], [3, 4], [0, 1, 2, 3, 4, 5], [0, 1, 2, 3, 4, 5, 6], [0, 1, 2, 3, 4, 5, 6, 7]] hmix (by kernel_rfl) [(51, _), (52, _), (53, _), (54, _), (55, _)] rfl 2 rfl
      refine Stg.go [0, 1, 2, 3, 4] [5] rfl rfl (QAll.cons (QOp.p hT rfl rfl rfl rfl rfl) (QAll.cons (QOp.q rfl rfl (Quiet1.idxS (s := _) hT rfl rfl rfl rfl rfl hc5 hd5) rfl rfl) (QAll.cons (QOp.q rfl rfl (Quiet1.load hT rfl rfl rfl hc6) rfl rfl) (QAll.cons (QOp.p hT rfl rfl rfl rfl rfl) (QAll.cons (QOp.p hT rfl rfl rfl rfl rfl) QAll.nil))))) ?_
      refine EAll.cons ?_ EAll.nil
      refine EOp.e rfl rfl rfl (EffX.call (f := 121) (sh := fun h => nat_bit _ _ h _) (H0 := H) rfl Tryd.call121 rfl (hl := fun w m hr hw => lift_nat_bit _ _ w m hr _ hw)) ?_
      rintro _ _ ⟨v_9, h0u11, rfl, rfl, H⟩
      obtain ⟨hc7, H⟩ := H
      obtain ⟨a_1_, hc8, hd8, H⟩ := H
      apply Stg.next [(56, _), (57, _), (58, _)] rfl rfl
      refine Stg.go [0, 1, 2, 6, 7] [8] rfl rfl (QAll.cons (QOp.p hT rfl rfl rfl rfl rfl) (QAll.cons (QOp.q rfl rfl (Quiet1.idxS (s := _) hT rfl rfl rfl rfl rfl hc5 hd5) rfl rfl) (QAll.cons (QOp.q rfl rfl (Quiet1.load hT rfl rfl rfl hc7) rfl rfl) (QAll.cons (QOp.p hT rfl rfl rfl rfl rfl) (QAll.cons (QOp.q rfl rfl (Quiet1.idxS (s := _) hT rfl rfl rfl rfl rfl hc8 hd8) rfl rfl) QAll.nil))))) ?_
      refine EAll.cons ?_ EAll.nil
      refine EOp.e rfl rfl rfl (EffX.store hT rfl rfl rfl rfl rfl H) ?_
      rintro _ _ ⟨h0u12, rfl, H⟩
      apply Stg.next [] rfl rfl
      refine Stg.fin [] rfl rfl QAll.nil ?_
      refine AtE.then_n (AtE.go ?_)
      refine AtC.seqR ?_
      refine AtL.pures hT 1 _ _ _ _ rfl ?_
      refine AtL.e rfl (EffX.call (f := 89) (sh := fun h => nat_trim _ h _) (H0 := H) rfl Tryd.call89 rfl (hl := fun w m hr hw => lift_nat_trim _ w m hr _ hw)) ?_
      rintro _ _ ⟨v_10, h0u13, rfl, rfl, H⟩
      refine AtL.pures hT 1 _ _ _ _ rfl ?_
      refine AtL.nil ?_
      refine AtE.then_n (AtE.go ?_)
      refine AtC.seqR ?_
      refine AtL.pures hT 2 _ _ _ _ rfl ?_
      refine AtL.e rfl (EffX.call (f := 23) (sh := fun h => nat_Cmp _ _ h _) (H0 := H) rfl Tryd.call23 rfl (hl := fun w m hr hw => lift_nat_Cmp _ _ w m hr _ hw)) ?_
      rintro _ _ ⟨v_11, h0u14, rfl, rfl, H⟩
      refine AtL.pures hT 1 _ _ _ _ rfl ?_
      refine AtL.nil ?_
      refine AtE.then_n (AtE.go ?_)
      refine AtC.condB H rfl (fun H => ?_) (fun H => ?_)
      ·
       refine AtC.seqR ?_
       refine AtL.pures hT 2 _ _ _ _ rfl ?_
       refine AtL.e rfl (EffX.call (f := 90) (sh := fun h => nat_minus _ _ h _) (H0 := H) rfl Tryd.call90 rfl (hl := fun w m hr hw => lift_nat_minus _ _ w m hr _ hw)) ?_
       rintro _ _ ⟨v_12, h0u15, rfl, rfl, H⟩
       refine AtL.pures hT 1 _ _ _ _ rfl ?_
       refine AtL.nil ?_
       refine AtE.then_n (AtE.go ?_)
       obtain ⟨a_2_, hc9, hd9, H⟩ := H
       obtain ⟨v_13, hc10, H⟩ := H
       obtain ⟨hd11, H⟩ := H
       obtain ⟨a_3_, hc12, hd12, H⟩ := H
       apply AtC.stages [10] [[], [], [], [], [], [], [], [], [], [], []] [[], [], [1], [0, 1, 2], [0, 1, 2, 3], [], [5], [5, 6], [0, 1, 2, 3, 4, 5, 6, 7], [0, 1, 2, 3, 4, 5, 6, 7, 8], [0, 1, 2, 3, 4, 5, 6, 7, 8, 9]] hmix (by kernel_rfl) [(68, _), (69, _), (70, _), (71, _), (72, _), (73, _), (74, _), (75, _), (76, _), (77, _)] rfl 1 rfl
       refine Stg.go [0, 1, 2, 3, 4, 5, 6, 7, 8, 9] [10] rfl rfl (QAll.cons (QOp.p hT rfl rfl rfl rfl rfl) (QAll.cons (QOp.p hT rfl rfl rfl rfl rfl) (QAll.cons (QOp.p hT rfl rfl rfl rfl rfl) (QAll.cons (QOp.q rfl rfl (Quiet1.idxS (s := _) hT rfl rfl rfl rfl rfl hc9 hd9) rfl rfl) (QAll.cons (QOp.q rfl rfl (Quiet1.load hT rfl rfl rfl hc10) rfl rfl) (QAll.cons (QOp.p hT rfl rfl rfl rfl rfl) (QAll.cons (QOp.p hT rfl rfl rfl rfl rfl) (QAll.cons (QOp.q rfl rfl (Quiet1.shl rfl rfl rfl hd11) rfl rfl) (QAll.cons (QOp.p hT rfl rfl rfl rfl rfl) (QAll.cons (QOp.q rfl rfl (Quiet1.idxS (s := _) hT rfl rfl rfl rfl rfl hc12 hd12) rfl rfl) QAll.nil)))))))))) ?_
       refine EAll.cons ?_ EAll.nil
       refine EOp.e rfl rfl rfl (EffX.store hT rfl rfl rfl rfl rfl H) ?_
       rintro _ _ ⟨h0u16, rfl, H⟩
       apply Stg.next [] rfl rfl
       refine Stg.fin [] rfl rfl QAll.nil ?_
       refine AtE.blk_n ?_
       exact AtE.then_n ((HK5 _ () _ H).pickP (ts := [5, 0, 1, 4, 10]) (is := []) rfl rfl (by decide) rfl)
      ·
       refine AtC.skip ?_
       refine AtE.blk_n ?_
       exact AtE.then_n ((HK5 _ () _ H).pickP (ts := [5, 0, 1, 4, 10]) (is := []) rfl rfl (by decide) rfl)
    ·
     refine AtC.exit ?_
     refine AtE.then_x ?_
     refine AtE.then_x ?_
     refine AtE.blk_hit ?_
     refine AtE.then_n (AtE.go ?_)
     refine AtC.seqR ?_
     refine AtL.pures hT 1 _ _ _ _ rfl ?_
     refine AtL.e rfl (EffX.call (f := 89) (sh := fun h => nat_trim _ h _) (H0 := H) rfl Tryd.call89 rfl (hl := fun w m hr hw => lift_nat_trim _ w m hr _ hw)) ?_
     rintro _ _ ⟨v_14, h0u17, rfl, rfl, H⟩
     refine AtL.pures hT 3 _ _ _ _ rfl ?_
     refine AtL.nil ?_
     refine AtE.then_n (AtE.go ?_)
     refine AtC.ret ?_
     exact AtE.retN (rs := [.tmp 4, .tmp 5]) rfl (ResAll.cons (ResAt.tmp rfl) (ResAll.cons (ResAt.tmp rfl) ResAll.nil)) rfl H
  ·
   refine AtC.region ?_
   refine AtL.pures hT 2 _ _ _ _ rfl ?_
   refine AtL.splitB (t := 22) H rfl (fun H => ?_) (fun H => ?_)
   ·
    refine AtL.yes rfl rfl rfl ?_
    refine AtL.pures hT 1 _ _ _ _ rfl ?_
    refine AtL.pures hT 1 _ _ _ _ rfl ?_
    refine AtL.nil ?_
    exact AtE.then_n ((HK1 _ () _ H).pickP (ts := [24, 0, 1, 5, 6, 8]) (is := []) rfl rfl (by decide) rfl)
   ·
    refine AtL.noF rfl rfl rfl (by decide) rfl ?_
    refine AtL.pures hT 1 _ _ _ _ rfl ?_
    refine AtL.nil ?_
    exact AtE.then_n ((HK1 _ () _ H).pickP (ts := [24, 0, 1, 5, 6, 8]) (is := []) rfl rfl (by decide) rfl)

theorem lift_slices_Reverse_byte_byte (s0 : Sl) (w : World) (m : Heap) (hr : Rel ⟨m, []⟩ w.heap) (S : Unit → Heap → Prop) (H : slices_Reverse_byte_byte s0 m S) :
    Calls Tryd.prog 97 #[Sl.toV s0] w (Post ⟨w, m⟩ (fun _ => Value.tuple #[]) S) := by
  refine Calls.lift (args := [Sl.toV s0]) Tryd.func97 rfl Tryd.ntmps97 (Nat.le_of_ble_eq_true rfl) hr (slices_Reverse_byte_byte s0 m S) H (fun H => ?_)
  refine AtC.pick (ts := [0]) rfl ?_
  unfold slices_Reverse_byte_byte at H
  refine AtC.seqR ?_
  refine AtL.pures hT 5 _ _ _ _ rfl ?_
  replace H := H _ rfl
  refine AtL.nil ?_
  refine AtE.then_n (AtE.go ?_)
  refine AtC.block ?_
  refine AtC.loopM (fun (s0u1 : Int × Int) => [(2, Value.int .i64 s0u1.1), (3, Value.int .i64 s0u1.2)]) (fun (s0u1 : Int × Int) => []) [0] [2, 3, 0] [] [] H (by exact rfl) (by exact rfl) (by exact rfl) (by decide) (by exact rfl) (fun Kp1 s0u1 h0 H Q1 HK1 => ?_)
  refine AtC.seq ?_
  refine AtC.seqR ?_
  refine AtL.pures hT 3 _ _ _ _ rfl ?_
  refine AtL.nil ?_
  refine AtE.then_n (AtE.go ?_)
  refine AtC.condB H rfl (fun H => ?_) (fun H => ?_)
  ·
   refine AtC.skip ?_
   refine AtE.then_n (AtE.go ?_)
   refine AtC.seq ?_
   refine AtC.block ?_
   obtain ⟨a_, hc1, hd1, H⟩ := H
   obtain ⟨v, hc2, H⟩ := H
   obtain ⟨a_1_, hc3, hd3, H⟩ := H
   obtain ⟨v_1, hc4, H⟩ := H
   obtain ⟨a_2_, hc5, hd5, H⟩ := H
   apply AtC.stages [13, 15] [[], [], [], [], [], [], [], [], [], [], [], [], [], [], [13], [13]] [[], [], [], [], [], [], [4, 5], [4, 5, 6], [], [], [8, 9], [8, 9, 10], [0, 1, 4, 5, 6, 7, 8, 9, 10, 11], [0, 1, 4, 5, 6, 7, 8, 9, 10, 11, 12], [0, 1, 2, 3, 4, 5, 6, 7, 8, 9, 10, 11, 12, 13], [0, 1, 2, 3, 4, 5, 6, 7, 8, 9, 10, 11, 12, 13, 14]] hmix (by kernel_rfl) [(14, _), (15, _), (16, _), (17, _), (18, _), (19, _), (20, _), (21, _), (22, _), (23, _), (24, _), (25, _), (26, _)] rfl 2 rfl
   refine Stg.go [0, 1, 2, 3, 4, 5, 6, 7, 8, 9, 10, 11, 12] [13] rfl rfl (QAll.cons (QOp.p hT rfl rfl rfl rfl rfl) (QAll.cons (QOp.p hT rfl rfl rfl rfl rfl) (QAll.cons (QOp.p hT rfl rfl rfl rfl rfl) (QAll.cons (QOp.p hT rfl rfl rfl rfl rfl) (QAll.cons (QOp.p hT rfl rfl rfl rfl rfl) (QAll.cons (QOp.p hT rfl rfl rfl rfl rfl) (QAll.cons (QOp.q rfl rfl (Quiet1.idxS (s := _) hT rfl rfl rfl rfl rfl hc1 hd1) rfl rfl) (QAll.cons (QOp.q rfl rfl (Quiet1.load hT rfl rfl rfl hc2) rfl rfl) (QAll.cons (QOp.p hT rfl rfl rfl rfl rfl) (QAll.cons (QOp.p hT rfl rfl rfl rfl rfl) (QAll.cons (QOp.q rfl rfl (Quiet1.idxS (s := _) hT rfl rfl rfl rfl rfl hc3 hd3) rfl rfl) (QAll.cons (QOp.q rfl rfl (Quiet1.load hT rfl rfl rfl hc4) rfl rfl) (QAll.cons (QOp.q rfl rfl (Quiet1.idxS (s := _) hT rfl rfl rfl rfl rfl hc5 hd5) rfl rfl) QAll.nil))))))))))))) ?_
   refine EAll.cons ?_ EAll.nil
   refine EOp.e rfl rfl rfl (EffX.store hT rfl rfl rfl rfl rfl H) ?_
   rintro _ _ ⟨h0u1, rfl, H⟩
   obtain ⟨a_3_, hc6, hd6, H⟩ := H
   apply Stg.next [(27, _)] rfl rfl
   refine Stg.go [2, 3, 14] [15] rfl rfl (QAll.cons (QOp.p hT rfl rfl rfl rfl rfl) (QAll.cons (QOp.p hT rfl rfl rfl rfl rfl) (QAll.cons (QOp.q rfl rfl (Quiet1.idxS (s := _) hT rfl rfl rfl rfl rfl hc6 hd6) rfl rfl) QAll.nil))) ?_
   refine EAll.cons ?_ EAll.nil
   refine EOp.e rfl rfl rfl (EffX.store hT rfl rfl rfl rfl rfl H) ?_
   rintro _ _ ⟨h0u2, rfl, H⟩
   apply Stg.next [] rfl rfl
   refine Stg.fin [] rfl rfl QAll.nil ?_
   refine AtE.blk_n ?_
   refine AtE.then_n (AtE.go ?_)
   refine AtC.region ?_
   refine AtL.pures hT 6 _ _ _ _ rfl ?_
   replace H := H _ rfl
   replace H := H _ rfl
   refine AtL.nil ?_
   exact AtE.then_n ((HK1 _ _ H).pickP (ts := [2, 3, 0]) (is := []) rfl rfl (by decide) rfl)
  ·
   refine AtC.exit ?_
   refine AtE.then_x ?_
   refine AtE.then_x ?_
   refine AtE.blk_hit ?_
   exact AtE.endN rfl rfl H

theorem lift_nat_Text (x0 : Sl) (w : World) (m : Heap) (hr : Rel ⟨m, []⟩ w.heap) (S : ByteArray → Heap → Prop) (H : nat_Text x0 m S) :
    Calls Tryd.prog 34 #[Sl.toV x0] w (Post ⟨w, m⟩ Value.string S) := by
  refine Calls.lift (args := [Sl.toV x0]) Tryd.func34 rfl Tryd.ntmps34 (Nat.le_of_ble_eq_true rfl) hr (nat_Text x0 m S) H (fun H => ?_)
  refine AtC.pick (ts := [0]) rfl ?_
  unfold nat_Text at H
  refine AtC.seqR ?_
  refine AtL.pures hT 1 _ _ _ _ rfl ?_
  refine AtL.nil ?_
  refine AtE.then_n (AtE.go ?_)
  refine AtC.seqR ?_
  refine AtL.pures hT 1 _ _ _ _ rfl ?_
  refine AtL.nil ?_
  refine AtE.then_n (AtE.go ?_)
  refine AtC.seq ?_
  refine AtC.seqR ?_
  refine AtL.pures hT 1 _ _ _ _ rfl ?_
  refine AtL.e rfl (EffX.call (f := 89) (sh := fun h => nat_trim _ h _) (H0 := H) rfl Tryd.call89 rfl (hl := fun w m hr hw => lift_nat_trim _ w m hr _ hw)) ?_
  rintro _ _ ⟨v, h0, rfl, rfl, H⟩
  refine AtL.pures hT 1 _ _ _ _ rfl ?_
  refine AtL.nil ?_
  refine AtE.then_n (AtE.go ?_)
  refine AtC.block ?_
  refine AtC.loopM (fun (s0 : Sl × Sl) => [(0, Sl.toV s0.1), (3, Sl.toV s0.2)]) (fun (s0 : Sl × Sl) => []) [] [0, 3] [] [] H (by exact rfl) (by exact rfl) (by exact rfl) (by decide) (by exact rfl) (fun Kp1 s0 h0u1 H Q1 HK1 => ?_)
  refine AtC.seq ?_
  refine AtC.seqR ?_
  refine AtL.pures hT 3 _ _ _ _ rfl ?_
  refine AtL.nil ?_
  refine AtE.then_n (AtE.go ?_)
  refine AtC.condB H rfl (fun H => ?_) (fun H => ?_)
  ·
   refine AtC.skip ?_
   refine AtE.then_n (AtE.go ?_)
   refine AtC.block ?_
   refine AtC.seqR ?_
   refine AtL.pures hT 1 _ _ _ _ rfl ?_
   refine AtLX.bs (hT := hT) (cs := [_]) H rfl rfl rfl rfl rfl rfl rfl rfl rfl (fun a h0u2 H => ?_)
   refine AtL.e rfl (EffX.call (f := 93) (sh := fun h => nat_divide _ _ h _) (H0 := H) rfl Tryd.call93 rfl (hl := fun w m hr hw => lift_nat_divide _ _ w m hr _ hw)) ?_
   rintro _ _ ⟨v_2, h0u3, rfl, rfl, H⟩
   refine AtL.pures hT 5 _ _ _ _ rfl ?_
   refine AtL.nil ?_
   refine AtE.then_n (AtE.go ?_)
   refine AtC.seqR ?_
   refine AtL.pures hT 1 _ _ _ _ rfl ?_
   refine AtL.e rfl (EffX.call (f := 96) (sh := fun h => nat_small _ h _) (H0 := H) rfl Tryd.call96 rfl (hl := fun w m hr hw => lift_nat_small _ w m hr _ hw)) ?_
   rintro _ _ ⟨v_3, h0u4, rfl, rfl, H⟩
   refine AtL.pures hT 5 _ _ _ _ rfl ?_
   refine AtL.nil ?_
   refine AtE.then_n (AtE.go ?_)
   refine AtC.seq ?_
   refine AtC.seqR ?_
   refine AtL.pures hT 1 _ _ _ _ rfl ?_
   refine AtL.nil ?_
   refine AtE.then_n (AtE.go ?_)
   refine AtC.block ?_
   refine AtC.loopM (fun (s0u1 : Sl × Int × Int) => [(3, Sl.toV s0u1.1), (6, Value.int .u64 s0u1.2.1), (8, Value.int .i64 s0u1.2.2)]) (fun (s0u1 : Sl × Int × Int) => []) [4] [3, 6, 8, 4] [] [] H (by exact rfl) (by exact rfl) (by exact rfl) (by decide) (by exact rfl) (fun Kp2 s0u1 h0u5 H Q2 HK2 => ?_)
   refine AtC.seq ?_
   refine AtC.joinSeq (β := Unit) (fun (t0 : Bool) (bb : Unit) => [(35, Value.bool t0)]) (fun (t0 : Bool) (bb : Unit) => []) [3, 4, 6, 8] [] H (by exact rfl) (by exact rfl) (fun t0 bb h0u6 H => ?_) (fun J3 H HK3 => ?_)
   ·
    refine AtC.condB H rfl (fun H => ?_) (fun H => ?_)
    ·
     refine AtC.skip ?_
     refine AtE.then_n (AtE.go ?_)
     refine AtC.seq ?_
     refine AtC.block ?_
     refine AtC.seqR ?_
     refine AtL.pures hT 5 _ _ _ _ rfl ?_
     refine AtLX.bs (hT := hT) (cs := [_]) H rfl rfl rfl rfl rfl rfl rfl rfl rfl (fun a_1 h0u7 H => ?_)
     refine AtL.e rfl (EffX.appendS (s := _) (u := _) hT rfl rfl rfl rfl rfl rfl rfl rfl rfl rfl (by decide) H) ?_
     rintro _ _ ⟨v_5, h0u8, rfl, rfl, H⟩
     refine AtL.pures hT 1 _ _ _ _ rfl ?_
     refine AtL.nil ?_
     refine AtE.then_n (AtE.go ?_)
     refine AtC.region ?_
     refine AtL.pures hT 3 _ _ _ _ rfl ?_
     replace H := H _ rfl
     refine AtL.nil ?_
     refine AtE.blk_n ?_
     refine AtE.then_n (AtE.go ?_)
     refine AtC.region ?_
     refine AtL.pures hT 3 _ _ _ _ rfl ?_
     replace H := H _ rfl
     refine AtL.nil ?_
     exact AtE.then_n ((HK2 _ _ H).pickP (ts := [3, 6, 8, 4]) (is := []) rfl rfl (by decide) rfl)
    ·
     refine AtC.exit ?_
     refine AtE.then_x ?_
     refine AtE.then_x ?_
     refine AtE.blk_hit ?_
     refine AtE.then_n (AtE.go ?_)
     refine AtC.region ?_
     refine AtL.pures hT 2 _ _ _ _ rfl ?_
     refine AtL.nil ?_
     refine AtE.blk_n ?_
     exact AtE.then_n ((HK1 _ _ H).pickP (ts := [0, 3]) (is := []) rfl rfl (by decide) rfl)
   ·
    refine AtC.region ?_
    refine AtL.pures hT 3 _ _ _ _ rfl ?_
    refine AtL.splitB (t := 27) H rfl (fun H => ?_) (fun H => ?_)
    ·
     refine AtL.yes rfl rfl rfl ?_
     refine AtL.pures hT 1 _ _ _ _ rfl ?_
     refine AtL.yes rfl rfl rfl ?_
     refine AtL.pures hT 1 _ _ _ _ rfl ?_
     refine AtL.yes rfl rfl rfl ?_
     refine AtL.pures hT 1 _ _ _ _ rfl ?_
     refine AtL.yes rfl rfl rfl ?_
     refine AtL.pures hT 1 _ _ _ _ rfl ?_
     refine AtL.splitB (t := 31) H rfl (fun H => ?_) (fun H => ?_)
     ·
      refine AtL.noF rfl rfl rfl (by decide) rfl ?_
      refine AtL.noF rfl rfl rfl (by decide) rfl ?_
      refine AtL.yes rfl rfl rfl ?_
      refine AtL.pures hT 1 _ _ _ _ rfl ?_
      refine AtL.pures hT 1 _ _ _ _ rfl ?_
      refine AtL.nil ?_
      exact AtE.then_n ((HK3 _ () _ H).pickP (ts := [35, 3, 4, 6, 8]) (is := []) rfl rfl (by decide) rfl)
     ·
      refine AtL.yes rfl rfl rfl ?_
      refine AtL.pures hT 1 _ _ _ _ rfl ?_
      refine AtL.yes rfl rfl rfl ?_
      refine AtL.pures hT 1 _ _ _ _ rfl ?_
      refine AtL.yes rfl rfl rfl ?_
      refine AtL.pures hT 1 _ _ _ _ rfl ?_
      refine AtL.pures hT 1 _ _ _ _ rfl ?_
      refine AtL.nil ?_
      exact AtE.then_n ((HK3 _ () _ H).pickP (ts := [35, 3, 4, 6, 8]) (is := []) rfl rfl (by decide) rfl)
    ·
     refine AtL.noF rfl rfl rfl (by decide) rfl ?_
     refine AtL.noF rfl rfl rfl (by decide) rfl ?_
     refine AtL.noF rfl rfl rfl (by decide) rfl ?_
     refine AtL.noF rfl rfl rfl (by decide) rfl ?_
     refine AtL.noU rfl rfl rfl rfl ?_
     refine AtL.noU rfl rfl rfl rfl ?_
     refine AtL.noF rfl rfl rfl (by decide) rfl ?_
     refine AtL.pures hT 1 _ _ _ _ rfl ?_
     refine AtL.nil ?_
     exact AtE.then_n ((HK3 _ () _ H).pickP (ts := [35, 3, 4, 6, 8]) (is := []) rfl rfl (by decide) rfl)
  ·
   refine AtC.exit ?_
   refine AtE.then_x ?_
   refine AtE.then_x ?_
   refine AtE.blk_hit ?_
   refine AtE.then_n (AtE.go ?_)
   refine AtC.seq ?_
   refine AtC.seqR ?_
   refine AtL.pures hT 3 _ _ _ _ rfl ?_
   refine AtL.nil ?_
   refine AtE.then_n (AtE.go ?_)
   refine AtC.condB H rfl (fun H => ?_) (fun H => ?_)
   ·
    refine AtC.seqR ?_
    refine AtL.pures hT 1 _ _ _ _ rfl ?_
    refine AtL.nil ?_
    refine AtE.then_n (AtE.go ?_)
    refine AtC.ret ?_
    refine AtE.then_r ?_
    exact AtE.retN (rs := [.tmp 2]) rfl (ResAll.cons (ResAt.tmp rfl) ResAll.nil) rfl H
   ·
    refine AtC.skip ?_
    refine AtE.then_n (AtE.go ?_)
    refine AtC.seqR ?_
    refine AtL.pures hT 1 _ _ _ _ rfl ?_
    refine AtL.e rfl (EffX.call (f := 97) (sh := fun h => slices_Reverse_byte_byte _ h _) (H0 := H) rfl Tryd.call97 rfl (hl := fun w m hr hw => lift_slices_Reverse_byte_byte _ w m hr _ hw)) ?_
    rintro _ _ ⟨v_6, h0u9, rfl, rfl, H⟩
    refine AtL.nil ?_
    refine AtE.then_n (AtE.go ?_)
    refine AtC.seqR ?_
    refine AtL.pures hT 1 _ _ _ _ rfl ?_
    obtain ⟨v_7_, hc3, H⟩ := H
    refine AtL.q rfl (Quiet1.strOf (s := _) hT rfl rfl rfl rfl rfl hc3) ?_
    refine AtL.pures hT 1 _ _ _ _ rfl ?_
    refine AtL.nil ?_
    refine AtE.then_n (AtE.go ?_)
    refine AtC.ret ?_
    exact AtE.retN (rs := [.tmp 2]) rfl (ResAll.cons (ResAt.tmp rfl) ResAll.nil) rfl H

theorem lift_ratio_Text (x0 : Bool × Sl × Sl) (w : World) (m : Heap) (hr : Rel ⟨m, []⟩ w.heap) (S : ByteArray → Heap → Prop) (H : ratio_Text x0 m S) :
    Calls Tryd.prog 104 #[Value.agg (C_bool_sl_sl x0).toArray] w (Post ⟨w, m⟩ Value.string S) := by
  refine Calls.lift (args := [Value.agg (C_bool_sl_sl x0).toArray]) Tryd.func104 rfl Tryd.ntmps104 (Nat.le_of_ble_eq_true rfl) hr (ratio_Text x0 m S) H (fun H => ?_)
  refine AtC.pick (ts := [0]) rfl ?_
  unfold ratio_Text at H
  refine AtC.seqR ?_
  refine AtL.e rfl (EffX.boxP (cs := [_, _, _]) rfl rfl rfl H) ?_
  rintro _ _ ⟨b, _, rfl, rfl, _, H⟩
  replace H := H.self
  refine AtL.pures hT 1 _ _ _ _ rfl ?_
  refine AtL.nil ?_
  refine AtE.then_n (AtE.go ?_)
  refine AtC.seqR ?_
  refine AtL.pures hT 2 _ _ _ _ rfl ?_
  refine AtL.q rfl (Quiet1.loadP (i := 0) hT rfl rfl rfl rfl rfl rfl) ?_
  refine AtL.e rfl (EffX.call (f := 34) (sh := fun h => nat_Text _ h _) (H0 := H) rfl Tryd.call34 rfl (hl := fun w m hr hw => lift_nat_Text _ w m hr _ hw)) ?_
  rintro _ _ ⟨v, h0u1, rfl, rfl, H⟩
  refine AtL.pures hT 1 _ _ _ _ rfl ?_
  refine AtL.nil ?_
  refine AtE.then_n (AtE.go ?_)
  refine AtC.joinSeq (β := Unit) (fun (t0 : ByteArray) (bb : Unit) => [(3, Value.string t0)]) (fun (t0 : ByteArray) (bb : Unit) => []) [1] [0] H (by exact rfl) (by exact rfl) (fun t0 bb h0u2 H => ?_) (fun J1 H HK1 => ?_)
  ·
   refine AtC.joinSeq (β := Unit) (fun (t0u1 : ByteArray) (bb_1 : Unit) => [(3, Value.string t0u1)]) (fun (t0u1 : ByteArray) (bb_1 : Unit) => []) [] [] H (by exact rfl) (by exact rfl) (fun t0u1 bb_1 h0u3 H => ?_) (fun J3 H HK3 => ?_)
   ·
    refine AtC.seqR ?_
    refine AtL.pures hT 2 _ _ _ _ rfl ?_
    refine AtL.nil ?_
    refine AtE.then_n (AtE.go ?_)
    refine AtC.ret ?_
    exact AtE.retN (rs := [.tmp 2]) rfl (ResAll.cons (ResAt.tmp rfl) ResAll.nil) rfl H
   ·
    refine AtC.seqR ?_
    refine AtL.pures hT 1 _ _ _ _ rfl ?_
    refine AtL.q rfl (Quiet1.loadP (i := 0) hT rfl rfl rfl rfl rfl rfl) ?_
    refine AtL.pures hT 2 _ _ _ _ rfl ?_
    refine AtL.nil ?_
    refine AtE.then_n (AtE.go ?_)
    refine AtC.condB H rfl (fun H => ?_) (fun H => ?_)
    ·
     refine AtC.region ?_
     refine AtL.pures hT 2 _ _ _ _ rfl ?_
     refine AtL.q rfl (Quiet1.loadP (i := 0) hT rfl rfl rfl rfl rfl rfl) ?_
     refine AtL.e rfl (EffX.call (f := 34) (sh := fun h => nat_Text _ h _) (H0 := H) rfl Tryd.call34 rfl (hl := fun w m hr hw => lift_nat_Text _ w m hr _ hw)) ?_
     rintro _ _ ⟨v_1, h0u4, rfl, rfl, H⟩
     obtain ⟨hd3, H⟩ := H
     refine AtL.q rfl (Quiet1.concat rfl rfl rfl hd3) ?_
     obtain ⟨hd4, H⟩ := H
     refine AtL.q rfl (Quiet1.concat rfl rfl rfl hd4) ?_
     refine AtL.pures hT 1 _ _ _ _ rfl ?_
     replace H := H _ rfl
     refine AtL.nil ?_
     exact AtE.then_n ((HK3 _ () _ H).pickP (ts := [3]) (is := []) rfl rfl (by decide) rfl)
    ·
     refine AtC.skip ?_
     exact AtE.then_n ((HK3 _ () _ H).pickP (ts := [3]) (is := []) rfl rfl (by decide) rfl)
  ·
   refine AtC.seqR ?_
   refine AtL.pures hT 2 _ _ _ _ rfl ?_
   refine AtL.q rfl (Quiet1.loadP (i := 0) hT rfl rfl rfl rfl rfl rfl) ?_
   refine AtL.nil ?_
   refine AtE.then_n (AtE.go ?_)
   refine AtC.condB H rfl (fun H => ?_) (fun H => ?_)
   ·
    refine AtC.region ?_
    refine AtL.pures hT 1 _ _ _ _ rfl ?_
    obtain ⟨hd1, H⟩ := H
    refine AtL.q rfl (Quiet1.concat rfl rfl rfl hd1) ?_
    refine AtL.pures hT 1 _ _ _ _ rfl ?_
    replace H := H _ rfl
    refine AtL.nil ?_
    exact AtE.then_n ((HK1 _ () _ H).pickP (ts := [3, 1]) (is := [0]) rfl rfl (by decide) rfl)
   ·
    refine AtC.skip ?_
    exact AtE.then_n ((HK1 _ () _ H).pickP (ts := [3, 1]) (is := [0]) rfl rfl (by decide) rfl)

theorem lift_ratio_Neg (x0 : Bool × Sl × Sl) (w : World) (m : Heap) (hr : Rel ⟨m, []⟩ w.heap) (S : (Bool × Sl × Sl) → Heap → Prop) (H : ratio_Neg x0 m S) :
    Calls Tryd.prog 105 #[Value.agg (C_bool_sl_sl x0).toArray] w (Post ⟨w, m⟩ (fun r => Value.agg (C_bool_sl_sl r).toArray) S) := by
  refine Calls.lift (args := [Value.agg (C_bool_sl_sl x0).toArray]) Tryd.func105 rfl Tryd.ntmps105 (Nat.le_of_ble_eq_true rfl) hr (ratio_Neg x0 m S) H (fun H => ?_)
  refine AtC.pick (ts := [0]) rfl ?_
  unfold ratio_Neg at H
  refine AtC.seqR ?_
  refine AtL.e rfl (EffX.boxP (cs := [_, _, _]) rfl rfl rfl H) ?_
  rintro _ _ ⟨b, _, rfl, rfl, _, H⟩
  refine AtL.e rfl (EffX.allocP (cs := [_, _, _]) hT rfl rfl H) ?_
  rintro _ _ ⟨b_1, _, rfl, rfl, _, H⟩
  refine AtL.nil ?_
  replace H := H.self
  refine AtE.then_n (AtE.go ?_)
  refine AtC.joinSeq (β := Unit) (fun (t0 : Bool) (bb : Unit) => [(3, Value.bool t0)]) (fun (t0 : Bool) (bb : Unit) => []) [1, 2] [0, 1] H (by exact rfl) (by exact rfl) (fun t0 bb h0u1 H => ?_) (fun J1 H HK1 => ?_)
  ·
   apply AtC.seqS [4, 8, 10] [[], [], [], [], [], [4], [], [], [4], [4, 8], [4, 8]] [[], [], [1], [1, 2], [1, 2, 3], [0, 1, 2, 3, 4], [], [6], [1, 2, 3, 4, 6, 7], [0, 1, 2, 3, 4, 5, 6, 7, 8], [0, 1, 2, 3, 4, 5, 6, 7, 8, 9]] hmix (by kernel_rfl) [(15, _), (16, _), (17, _), (18, _), (21, _), (22, _)] rfl 3 rfl
   refine Stg.go [0, 1, 2, 3, 6, 7] [4] rfl rfl (QAll.cons (QOp.p hT rfl rfl rfl rfl rfl) (QAll.cons (QOp.p hT rfl rfl rfl rfl rfl) (QAll.cons (QOp.p hT rfl rfl rfl rfl rfl) (QAll.cons (QOp.q rfl rfl (Quiet1.loadP (i := 1) hT rfl rfl rfl rfl rfl rfl) rfl rfl) (QAll.cons (QOp.p hT rfl rfl rfl rfl rfl) (QAll.cons (QOp.q rfl rfl (Quiet1.loadP (i := 1) hT rfl rfl rfl rfl rfl rfl) rfl rfl) QAll.nil)))))) ?_
   refine EAll.cons ?_ EAll.nil
   refine EOp.e rfl rfl rfl (EffX.call (f := 118) (sh := fun h => slices_Clone_api_Nat_uint32 _ h _) (H0 := H) rfl Tryd.call118 rfl (hl := fun w m hr hw => lift_slices_Clone_api_Nat_uint32 _ w m hr _ hw)) ?_
   rintro _ _ ⟨v, h0u2, rfl, rfl, H⟩
   apply Stg.next [(19, _), (20, _)] rfl rfl
   refine Stg.go [0, 5, 6, 7] [8] rfl rfl (QAll.cons (QOp.p hT rfl rfl rfl rfl rfl) (QAll.cons (QOp.q rfl rfl (Quiet1.build (cs := [_, _]) hT rfl rfl rfl rfl rfl rfl) rfl rfl) (QAll.cons (QOp.p hT rfl rfl rfl rfl rfl) (QAll.cons (QOp.q rfl rfl (Quiet1.loadP (i := 1) hT rfl rfl rfl rfl rfl rfl) rfl rfl) QAll.nil)))) ?_
   refine EAll.cons ?_ EAll.nil
   refine EOp.e rfl rfl rfl (EffX.call (f := 118) (sh := fun h => slices_Clone_api_Nat_uint32 _ h _) (H0 := H) rfl Tryd.call118 rfl (hl := fun w m hr hw => lift_slices_Clone_api_Nat_uint32 _ w m hr _ hw)) ?_
   rintro _ _ ⟨v_1, h0u3, rfl, rfl, H⟩
   apply Stg.next [(23, _), (24, _)] rfl rfl
   refine Stg.go [0, 5, 9] [10] rfl rfl (QAll.cons (QOp.p hT rfl rfl rfl rfl rfl) (QAll.cons (QOp.q rfl rfl (Quiet1.build (cs := [_, _]) hT rfl rfl rfl rfl rfl rfl) rfl rfl) (QAll.cons (QOp.q rfl rfl (Quiet1.build (cs := [_, _, _]) hT rfl rfl rfl rfl rfl rfl) rfl rfl) QAll.nil))) ?_
   refine EAll.cons ?_ EAll.nil
   refine EOp.e rfl rfl rfl (EffX.storeSP (i := 0) (qv := [(_, [_, _, _]), (_, [_, _, _])]) hT rfl rfl rfl rfl rfl rfl rfl rfl rfl rfl) ?_
   rintro _ _ rfl
   apply Stg.next [] rfl rfl
   refine Stg.fin [] rfl rfl QAll.nil ?_
   refine AtE.then_n (AtE.go ?_)
   refine AtC.ret ?_
   exact AtE.retN (rs := [.cell 2 54]) rfl (ResAll.cons (ResAt.cellSP (i := 0) (l := [_, _, _]) hT rfl rfl rfl rfl rfl rfl rfl) ResAll.nil) rfl H
  ·
   refine AtC.region ?_
   refine AtL.pures hT 2 _ _ _ _ rfl ?_
   refine AtL.q rfl (Quiet1.loadP (i := 1) hT rfl rfl rfl rfl rfl rfl) ?_
   refine AtL.pures hT 2 _ _ _ _ rfl ?_
   refine AtL.splitB (t := 8) H rfl (fun H => ?_) (fun H => ?_)
   ·
    refine AtL.yes rfl rfl rfl ?_
    refine AtL.pures hT 1 _ _ _ _ rfl ?_
    refine AtL.yes rfl rfl rfl ?_
    refine AtL.pures hT 1 _ _ _ _ rfl ?_
    refine AtL.yes rfl rfl rfl ?_
    refine AtL.q rfl (Quiet1.loadP (i := 1) hT rfl rfl rfl rfl rfl rfl) ?_
    refine AtL.yes rfl rfl rfl ?_
    refine AtL.pures hT 1 _ _ _ _ rfl ?_
    refine AtL.yes rfl rfl rfl ?_
    refine AtL.pures hT 1 _ _ _ _ rfl ?_
    refine AtL.pures hT 2 _ _ _ _ rfl ?_
    replace H := H _ rfl
    refine AtL.nil ?_
    exact AtE.then_n ((HK1 _ () _ H).pickP (ts := [3, 1, 2]) (is := [0, 1]) rfl rfl (by decide) rfl)
   ·
    refine AtL.noF rfl rfl rfl (by decide) rfl ?_
    refine AtL.noF rfl rfl rfl (by decide) rfl ?_
    refine AtL.noF rfl rfl rfl (by decide) rfl ?_
    refine AtL.noF rfl rfl rfl (by decide) rfl ?_
    refine AtL.noF rfl rfl rfl (by decide) rfl ?_
    refine AtL.pures hT 2 _ _ _ _ rfl ?_
    refine AtL.nil ?_
    exact AtE.then_n ((HK1 _ () _ H).pickP (ts := [3, 1, 2]) (is := [0, 1]) rfl rfl (by decide) rfl)

theorem lift_delta_Text (x0 : Bool × Sl × Sl × Bool × Sl × Sl) (w : World) (m : Heap) (hr : Rel ⟨m, []⟩ w.heap) (S : ByteArray → Heap → Prop) (H : delta_Text x0 m S) :
    Calls Tryd.prog 53 #[Value.agg (C_bool_sl_sl_bool_sl_sl x0).toArray] w (Post ⟨w, m⟩ Value.string S) := by
  refine Calls.lift (args := [Value.agg (C_bool_sl_sl_bool_sl_sl x0).toArray]) Tryd.func53 rfl Tryd.ntmps53 (Nat.le_of_ble_eq_true rfl) hr (delta_Text x0 m S) H (fun H => ?_)
  refine AtC.pick (ts := [0]) rfl ?_
  unfold delta_Text at H
  refine AtC.seqR ?_
  refine AtL.e rfl (EffX.boxP (cs := [_, _, _, _, _, _]) rfl rfl rfl H) ?_
  rintro _ _ ⟨b, _, rfl, rfl, _, H⟩
  replace H := H.self
  refine AtL.pures hT 1 _ _ _ _ rfl ?_
  refine AtL.nil ?_
  refine AtE.then_n (AtE.go ?_)
  refine AtC.seq ?_
  refine AtC.seqR ?_
  refine AtL.pures hT 1 _ _ _ _ rfl ?_
  refine AtL.q rfl (Quiet1.loadSP (i := 0) (l := [_, _, _]) hT rfl rfl rfl rfl rfl rfl rfl rfl) ?_
  refine AtL.e rfl (EffX.call (f := 57) (sh := fun h => ratio_Sign _ h _) (H0 := H) rfl Tryd.call57 rfl (hl := fun w m hr hw => lift_ratio_Sign _ w m hr _ hw)) ?_
  rintro _ _ ⟨v, h0u1, rfl, rfl, H⟩
  refine AtL.nil ?_
  refine AtE.then_n (AtE.go ?_)
  refine AtC.block ?_
  refine AtC.seqR ?_
  refine AtL.pures hT 2 _ _ _ _ rfl ?_
  refine AtL.nil ?_
  refine AtE.then_n (AtE.go ?_)
  refine AtC.condB H rfl (fun H => ?_) (fun H => ?_)
  ·
   apply AtC.seqS [2, 6] [[], [], [], [2], [], [], [2], [2, 6], [2, 6], [2, 6]] [[], [0], [0, 1], [0, 1, 2], [], [4], [0, 1, 2, 4, 5], [0, 1, 2, 3, 4, 5, 6], [0, 1, 2, 3, 4, 5, 6, 7], [0, 1, 2, 3, 4, 5, 6, 7, 8]] hmix (by kernel_rfl) [(8, _), (9, _), (12, _), (13, _)] rfl 2 rfl
   refine Stg.go [0, 1, 4, 5] [2] rfl rfl (QAll.cons (QOp.p hT rfl rfl rfl rfl rfl) (QAll.cons (QOp.q rfl rfl (Quiet1.loadSP (i := 0) (l := [_, _, _]) hT rfl rfl rfl rfl rfl rfl rfl rfl) rfl rfl) (QAll.cons (QOp.p hT rfl rfl rfl rfl rfl) (QAll.cons (QOp.q rfl rfl (Quiet1.loadSP (i := 0) (l := [_, _, _]) hT rfl rfl rfl rfl rfl rfl rfl rfl) rfl rfl) QAll.nil)))) ?_
   refine EAll.cons ?_ EAll.nil
   refine EOp.e rfl rfl rfl (EffX.call (f := 104) (sh := fun h => ratio_Text _ h _) (H0 := H) rfl Tryd.call104 rfl (hl := fun w m hr hw => lift_ratio_Text _ w m hr _ hw)) ?_
   rintro _ _ ⟨v_1, h0u2, rfl, rfl, H⟩
   obtain ⟨hd0, H⟩ := H
   apply Stg.next [(10, _), (11, _)] rfl rfl
   refine Stg.go [3, 4, 5] [6] rfl rfl (QAll.cons (QOp.q rfl rfl (Quiet1.concat rfl rfl rfl hd0) rfl rfl) (QAll.cons (QOp.p hT rfl rfl rfl rfl rfl) (QAll.cons (QOp.q rfl rfl (Quiet1.loadSP (i := 0) (l := [_, _, _]) hT rfl rfl rfl rfl rfl rfl rfl rfl) rfl rfl) QAll.nil))) ?_
   refine EAll.cons ?_ EAll.nil
   refine EOp.e rfl rfl rfl (EffX.call (f := 104) (sh := fun h => ratio_Text _ h _) (H0 := H) rfl Tryd.call104 rfl (hl := fun w m hr hw => lift_ratio_Text _ w m hr _ hw)) ?_
   rintro _ _ ⟨v_2, h0u3, rfl, rfl, H⟩
   obtain ⟨hd1, H⟩ := H
   obtain ⟨hd2, H⟩ := H
   apply Stg.next [(14, _), (15, _), (16, _), (2, _)] rfl rfl
   refine Stg.fin [3, 7, 8, 9] rfl rfl (QAll.cons (QOp.q rfl rfl (Quiet1.concat rfl rfl rfl hd0) rfl rfl) (QAll.cons (QOp.q rfl rfl (Quiet1.concat rfl rfl rfl hd1) rfl rfl) (QAll.cons (QOp.q rfl rfl (Quiet1.concat rfl rfl rfl hd2) rfl rfl) (QAll.cons (QOp.p hT rfl rfl rfl rfl rfl) QAll.nil)))) ?_
   refine AtE.then_n (AtE.go ?_)
   refine AtC.ret ?_
   refine AtE.blk_r ?_
   refine AtE.then_r ?_
   exact AtE.retN (rs := [.tmp 2]) rfl (ResAll.cons (ResAt.tmp rfl) ResAll.nil) rfl H
  ·
   refine AtC.seqR ?_
   refine AtL.pures hT 2 _ _ _ _ rfl ?_
   refine AtL.nil ?_
   refine AtE.then_n (AtE.go ?_)
   refine AtC.condB H rfl (fun H => ?_) (fun H => ?_)
   ·
    apply AtC.seqS [2, 6, 7] [[], [], [], [2], [], [], [2], [2, 6], [2, 6, 7], [2, 6, 7], [2, 6, 7]] [[], [0], [0, 1], [0, 1, 2], [], [4], [0, 1, 2, 4, 5], [0, 1, 2, 4, 5, 6], [0, 1, 2, 3, 4, 5, 6, 7], [0, 1, 2, 3, 4, 5, 6, 7, 8], [0, 1, 2, 3, 4, 5, 6, 7, 8, 9]] hmix (by kernel_rfl) [(19, _), (20, _), (23, _), (24, _)] rfl 3 rfl
    refine Stg.go [0, 1, 4, 5] [2] rfl rfl (QAll.cons (QOp.p hT rfl rfl rfl rfl rfl) (QAll.cons (QOp.q rfl rfl (Quiet1.loadSP (i := 0) (l := [_, _, _]) hT rfl rfl rfl rfl rfl rfl rfl rfl) rfl rfl) (QAll.cons (QOp.p hT rfl rfl rfl rfl rfl) (QAll.cons (QOp.q rfl rfl (Quiet1.loadSP (i := 0) (l := [_, _, _]) hT rfl rfl rfl rfl rfl rfl rfl rfl) rfl rfl) QAll.nil)))) ?_
    refine EAll.cons ?_ EAll.nil
    refine EOp.e rfl rfl rfl (EffX.call (f := 104) (sh := fun h => ratio_Text _ h _) (H0 := H) rfl Tryd.call104 rfl (hl := fun w m hr hw => lift_ratio_Text _ w m hr _ hw)) ?_
    rintro _ _ ⟨v_3, h0u4, rfl, rfl, H⟩
    obtain ⟨hd3, H⟩ := H
    apply Stg.next [(21, _), (22, _)] rfl rfl
    refine Stg.go [3, 4, 5] [6] rfl rfl (QAll.cons (QOp.q rfl rfl (Quiet1.concat rfl rfl rfl hd3) rfl rfl) (QAll.cons (QOp.p hT rfl rfl rfl rfl rfl) (QAll.cons (QOp.q rfl rfl (Quiet1.loadSP (i := 0) (l := [_, _, _]) hT rfl rfl rfl rfl rfl rfl rfl rfl) rfl rfl) QAll.nil))) ?_
    refine EAll.cons ?_ EAll.nil
    refine EOp.e rfl rfl rfl (EffX.call (f := 105) (sh := fun h => ratio_Neg _ h _) (H0 := H) rfl Tryd.call105 rfl (hl := fun w m hr hw => lift_ratio_Neg _ w m hr _ hw)) ?_
    rintro _ _ ⟨v_4, h0u5, rfl, rfl, H⟩
    apply Stg.next [(25, _)] rfl rfl
    refine Stg.go [3] [7] rfl rfl (QAll.cons (QOp.q rfl rfl (Quiet1.concat rfl rfl rfl hd3) rfl rfl) QAll.nil) ?_
    refine EAll.cons ?_ EAll.nil
    refine EOp.e rfl rfl rfl (EffX.call (f := 104) (sh := fun h => ratio_Text _ h _) (H0 := H) rfl Tryd.call104 rfl (hl := fun w m hr hw => lift_ratio_Text _ w m hr _ hw)) ?_
    rintro _ _ ⟨v_5, h0u6, rfl, rfl, H⟩
    obtain ⟨hd4, H⟩ := H
    obtain ⟨hd5, H⟩ := H
    apply Stg.next [(26, _), (27, _), (28, _), (2, _)] rfl rfl
    refine Stg.fin [3, 8, 9, 10] rfl rfl (QAll.cons (QOp.q rfl rfl (Quiet1.concat rfl rfl rfl hd3) rfl rfl) (QAll.cons (QOp.q rfl rfl (Quiet1.concat rfl rfl rfl hd4) rfl rfl) (QAll.cons (QOp.q rfl rfl (Quiet1.concat rfl rfl rfl hd5) rfl rfl) (QAll.cons (QOp.p hT rfl rfl rfl rfl rfl) QAll.nil)))) ?_
    refine AtE.then_n (AtE.go ?_)
    refine AtC.ret ?_
    refine AtE.blk_r ?_
    refine AtE.then_r ?_
    exact AtE.retN (rs := [.tmp 2]) rfl (ResAll.cons (ResAt.tmp rfl) ResAll.nil) rfl H
   ·
    refine AtC.skip ?_
    refine AtE.blk_n ?_
    refine AtE.then_n (AtE.go ?_)
    refine AtC.seqR ?_
    refine AtL.pures hT 1 _ _ _ _ rfl ?_
    refine AtL.q rfl (Quiet1.loadSP (i := 0) (l := [_, _, _]) hT rfl rfl rfl rfl rfl rfl rfl rfl) ?_
    refine AtL.e rfl (EffX.call (f := 104) (sh := fun h => ratio_Text _ h _) (H0 := H) rfl Tryd.call104 rfl (hl := fun w m hr hw => lift_ratio_Text _ w m hr _ hw)) ?_
    rintro _ _ ⟨v_6, h0u7, rfl, rfl, H⟩
    refine AtL.pures hT 1 _ _ _ _ rfl ?_
    refine AtL.nil ?_
    refine AtE.then_n (AtE.go ?_)
    refine AtC.ret ?_
    exact AtE.retN (rs := [.tmp 2]) rfl (ResAll.cons (ResAt.tmp rfl) ResAll.nil) rfl H

theorem lift_law03uspeaks (w : World) (m : Heap) (hr : Rel ⟨m, []⟩ w.heap) (S : Bool → Heap → Prop) (H : law03uspeaks m S) :
    Calls Tryd.prog 37 #[] w (Post ⟨w, m⟩ Value.bool S) := by
  refine Calls.lift (args := []) Tryd.func37 rfl Tryd.ntmps37 (Nat.le_of_ble_eq_true rfl) hr (law03uspeaks m S) H (fun H => ?_)
  refine AtC.pick (ts := []) rfl ?_
  unfold law03uspeaks at H
  refine AtC.seqR ?_
  refine AtL.pures hT 1 _ _ _ _ rfl ?_
  refine AtL.nil ?_
  refine AtE.then_n (AtE.go ?_)
  refine AtC.seqR ?_
  refine AtL.e rfl (EffX.call (f := 64) (sh := fun h => ratio_Of _ h _) (H0 := H) rfl Tryd.call64 rfl (hl := fun w m hr hw => lift_ratio_Of _ w m hr _ hw)) ?_
  rintro _ _ ⟨v, h0, rfl, rfl, H⟩
  refine AtL.e rfl (EffX.call (f := 64) (sh := fun h => ratio_Of _ h _) (H0 := H) rfl Tryd.call64 rfl (hl := fun w m hr hw => lift_ratio_Of _ w m hr _ hw)) ?_
  rintro _ _ ⟨v_1, h0u1, rfl, rfl, H⟩
  refine AtL.q rfl (Quiet1.build (cs := [_, _, _, _, _, _]) hT rfl rfl rfl rfl rfl rfl) ?_
  refine AtL.e rfl (EffX.allocP (cs := [_, _, _, _, _, _]) hT rfl rfl H) ?_
  rintro _ _ ⟨b, _, rfl, rfl, _, H⟩
  replace H := H.self
  refine AtL.e rfl (EffX.storeSP (i := 0) (qv := [(_, [_, _, _, _, _, _])]) hT rfl rfl rfl rfl rfl rfl rfl rfl rfl rfl) ?_
  rintro _ _ rfl
  refine AtL.nil ?_
  refine AtE.then_n (AtE.go ?_)
  refine AtC.joinSeq (β := Unit) (fun (t0 : Bool) (bb : Unit) => [(0, Value.bool t0)]) (fun (t0 : Bool) (bb : Unit) => []) [] [] H (by exact rfl) (by exact rfl) (fun t0 bb h0u3 H => ?_) (fun J1 H HK1 => ?_)
  ·
   refine AtC.ret ?_
   exact AtE.retN (rs := [.tmp 0]) rfl (ResAll.cons (ResAt.tmp rfl) ResAll.nil) rfl H
  ·
   apply AtC.stages [1, 2, 3, 7] [[], [], [1], [1, 2], [1, 2, 3], [1, 2, 3], [1, 2, 3], [1, 2, 3], [1, 2, 3, 7], [1, 2, 3, 7], [1, 2, 3, 7]] [[], [], [1], [0, 1, 2], [0, 1, 2, 3], [0, 1, 2, 3, 4], [0, 1, 2, 3, 4, 5], [0, 1, 2, 3, 4, 5, 6], [0, 1, 2, 3, 4, 5, 6, 7], [0, 1, 2, 3, 4, 5, 6, 7, 8], [0, 1, 2, 3, 4, 5, 6, 7, 8, 9]] hmix (by kernel_rfl) [(5, _)] rfl 4 rfl
   refine Stg.go [0] [1] rfl rfl (QAll.cons (QOp.q rfl rfl (Quiet1.loadSP (i := 0) (l := [_, _, _, _, _, _]) hT rfl rfl rfl rfl rfl rfl rfl rfl) rfl rfl) QAll.nil) ?_
   refine EAll.cons ?_ EAll.nil
   refine EOp.e rfl rfl rfl (EffX.call (f := 64) (sh := fun h => ratio_Of _ h _) (H0 := H) rfl Tryd.call64 rfl (hl := fun w m hr hw => lift_ratio_Of _ w m hr _ hw)) ?_
   rintro _ _ ⟨v_2, h0u4, rfl, rfl, H⟩
   apply Stg.next [(6, _)] rfl rfl
   refine Stg.go [0] [2] rfl rfl (QAll.cons (QOp.q rfl rfl (Quiet1.loadSP (i := 0) (l := [_, _, _, _, _, _]) hT rfl rfl rfl rfl rfl rfl rfl rfl) rfl rfl) QAll.nil) ?_
   refine EAll.cons ?_ EAll.nil
   refine EOp.e rfl rfl rfl (EffX.call (f := 56) (sh := fun h => delta_Of _ h _) (H0 := H) rfl Tryd.call56 rfl (hl := fun w m hr hw => lift_delta_Of _ w m hr _ hw)) ?_
   rintro _ _ ⟨v_3, h0u5, rfl, rfl, H⟩
   apply Stg.next [(7, _)] rfl rfl
   refine Stg.go [0] [3] rfl rfl (QAll.cons (QOp.q rfl rfl (Quiet1.loadSP (i := 0) (l := [_, _, _, _, _, _]) hT rfl rfl rfl rfl rfl rfl rfl rfl) rfl rfl) QAll.nil) ?_
   refine EAll.cons ?_ EAll.nil
   refine EOp.e rfl rfl rfl (EffX.call (f := 51) (sh := fun h => delta_Cmp _ _ h _) (H0 := H) rfl Tryd.call51 rfl (hl := fun w m hr hw => lift_delta_Cmp _ _ w m hr _ hw)) ?_
   rintro _ _ ⟨v_4, h0u6, rfl, rfl, H⟩
   rcases iteB.cases H with ⟨hb1, H⟩ | ⟨hb1, H⟩
   ·
    apply Stg.next [(8, _), (9, _), (10, _), (11, _)] rfl rfl
    refine Stg.known (t := 10) rfl hb1 ?_
    refine Stg.go [4, 5, 6] [7] rfl rfl (QAll.cons (QOp.p hT rfl rfl rfl rfl rfl) (QAll.cons (QOp.pk hT rfl rfl rfl rfl hb1 rfl) (QAll.cons (QOp.y rfl rfl rfl rfl (Quiet1.loadSP (i := 0) (l := [_, _, _, _, _, _]) hT rfl rfl rfl rfl rfl rfl rfl rfl) rfl rfl) QAll.nil))) ?_
    refine EAll.cons ?_ EAll.nil
    refine EOp.y rfl rfl rfl rfl rfl (EffX.call (f := 53) (sh := fun h => delta_Text _ h _) (H0 := H) rfl Tryd.call53 rfl (hl := fun w m hr hw => lift_delta_Text _ w m hr _ hw)) ?_
    rintro _ _ ⟨v_5, h0u7, rfl, rfl, H⟩
    apply Stg.next [(12, _), (13, _), (14, _), (0, _)] rfl rfl
    refine Stg.fin [8, 9, 10] rfl rfl (QAll.cons (QOp.yp hT rfl rfl rfl rfl rfl rfl rfl) (QAll.cons (QOp.p hT rfl rfl rfl rfl rfl) (QAll.cons (QOp.p hT rfl rfl rfl rfl rfl) QAll.nil))) ?_
    exact AtE.then_n ((HK1 _ () _ H).pickP (ts := [0]) (is := []) rfl rfl (by decide) rfl)
   ·
    apply Stg.next [(8, _), (9, _), (10, _), (11, _)] rfl rfl
    refine Stg.known (t := 10) rfl hb1 ?_
    refine Stg.go [4, 5, 6] [7] rfl rfl (QAll.cons (QOp.p hT rfl rfl rfl rfl rfl) (QAll.cons (QOp.pk hT rfl rfl rfl rfl hb1 rfl) (QAll.cons (QOp.no rfl rfl rfl rfl (by decide) rfl rfl) QAll.nil))) ?_
    refine EAll.cons ?_ EAll.nil
    refine EOp.no rfl rfl rfl rfl (by decide) rfl ?_
    apply Stg.next [(12, _), (13, _), (14, _), (0, _)] rfl rfl
    refine Stg.fin [8, 9, 10] rfl rfl (QAll.cons (QOp.no rfl rfl rfl rfl (by decide) rfl rfl) (QAll.cons (QOp.p hT rfl rfl rfl rfl rfl) (QAll.cons (QOp.p hT rfl rfl rfl rfl rfl) QAll.nil))) ?_
    exact AtE.then_n ((HK1 _ () _ H).pickP (ts := [0]) (is := []) rfl rfl (by decide) rfl)

theorem lift_law02uGreat (l : Sl) (w : World) (m : Heap) (hr : Rel ⟨m, []⟩ w.heap) (S : Bool → Heap → Prop) (H : law02uGreat l m S) :
    Calls Tryd.prog 72 #[Sl.toV l] w (Post ⟨w, m⟩ Value.bool S) := by
  refine Calls.lift (args := [Sl.toV l]) Tryd.func72 rfl Tryd.ntmps72 (Nat.le_of_ble_eq_true rfl) hr (law02uGreat l m S) H (fun H => ?_)
  refine AtC.pick (ts := [0]) rfl ?_
  unfold law02uGreat at H
  refine AtC.seqR ?_
  refine AtL.pures hT 1 _ _ _ _ rfl ?_
  refine AtL.nil ?_
  refine AtE.then_n (AtE.go ?_)
  refine AtC.seq ?_
  refine AtC.seqR ?_
  refine AtL.pures hT 3 _ _ _ _ rfl ?_
  refine AtL.nil ?_
  refine AtE.then_n (AtE.go ?_)
  refine AtC.block ?_
  refine AtC.loopM (fun (s0 : Int) => [(7, Value.int .i64 s0)]) (fun (s0 : Int) => []) [5, 6] [7, 5, 6] [] [] H (by exact rfl) (by exact rfl) (by exact rfl) (by decide) (by exact rfl) (fun Kp1 s0 h0 H Q1 HK1 => ?_)
  refine AtC.seqR ?_
  refine AtL.pures hT 1 _ _ _ _ rfl ?_
  refine AtL.nil ?_
  refine AtE.then_n (AtE.go ?_)
  refine AtC.seq ?_
  refine AtC.condB H rfl (fun H => ?_) (fun H => ?_)
  ·
   refine AtC.skip ?_
   refine AtE.then_n (AtE.go ?_)
   refine AtC.seq ?_
   refine AtC.block ?_
   refine AtC.seqR ?_
   obtain ⟨a_, hc1, hd1, H⟩ := H
   refine AtL.q rfl (Quiet1.idxS (s := _) hT rfl rfl rfl rfl rfl hc1 hd1) ?_
   obtain ⟨v, hc2, H⟩ := H
   refine AtL.q rfl (Quiet1.loadS hT rfl rfl rfl rfl hc2) ?_
   refine AtL.e rfl (EffX.allocP (cs := [_, _, _]) hT rfl rfl H) ?_
   rintro _ _ ⟨b, _, rfl, rfl, _, H⟩
   replace H := H.self
   refine AtL.e rfl (EffX.storeSP (i := 0) (qv := [(_, [_, _, _])]) hT rfl rfl rfl rfl rfl rfl rfl rfl rfl rfl) ?_
   rintro _ _ rfl
   refine AtL.nil ?_
   refine AtE.then_n (AtE.go ?_)
   refine AtC.joinSeq (β := Unit) (fun (t0 : Bool) (bb : Unit) => [(21, Value.bool t0)]) (fun (t0 : Bool) (bb : Unit) => []) [5, 6, 7] [] H (by exact rfl) (by exact rfl) (fun t0 bb h0u2 H => ?_) (fun J4 H HK4 => ?_)
   ·
    refine AtC.condB H rfl (fun H => ?_) (fun H => ?_)
    ·
     refine AtC.seqR ?_
     refine AtL.pures hT 1 _ _ _ _ rfl ?_
     refine AtL.nil ?_
     refine AtE.then_n (AtE.go ?_)
     refine AtC.ret ?_
     refine AtE.blk_r ?_
     refine AtE.then_r ?_
     refine AtE.then_r ?_
     refine AtE.blk_r ?_
     refine AtE.then_r ?_
     exact AtE.retN (rs := [.tmp 2]) rfl (ResAll.cons (ResAt.tmp rfl) ResAll.nil) rfl H
    ·
     refine AtC.skip ?_
     refine AtE.blk_n ?_
     refine AtE.then_n (AtE.go ?_)
     refine AtC.region ?_
     refine AtL.pures hT 2 _ _ _ _ rfl ?_
     refine AtL.nil ?_
     exact AtE.then_n ((HK1 _ _ H).pickP (ts := [7, 5, 6]) (is := []) rfl rfl (by decide) rfl)
   ·
    refine AtC.region ?_
    refine AtL.pures hT 2 _ _ _ _ rfl ?_
    refine AtL.q rfl (Quiet1.loadP (i := 0) hT rfl rfl rfl rfl rfl rfl) ?_
    refine AtL.pures hT 3 _ _ _ _ rfl ?_
    refine AtL.splitB (t := 16) H rfl (fun H => ?_) (fun H => ?_)
    ·
     refine AtL.noF rfl rfl rfl (by decide) rfl ?_
     refine AtL.noF rfl rfl rfl (by decide) rfl ?_
     refine AtL.noF rfl rfl rfl (by decide) rfl ?_
     refine AtL.noF rfl rfl rfl (by decide) rfl ?_
     refine AtL.pures hT 1 _ _ _ _ rfl ?_
     refine AtL.nil ?_
     exact AtE.then_n ((HK4 _ () _ H).pickP (ts := [21, 5, 6, 7]) (is := []) rfl rfl (by decide) rfl)
    ·
     refine AtL.yes rfl rfl rfl ?_
     refine AtL.pures hT 1 _ _ _ _ rfl ?_
     refine AtL.yes rfl rfl rfl ?_
     refine AtL.q rfl (Quiet1.loadP (i := 0) hT rfl rfl rfl rfl rfl rfl) ?_
     refine AtL.yes rfl rfl rfl ?_
     refine AtL.pures hT 1 _ _ _ _ rfl ?_
     refine AtL.yes rfl rfl rfl ?_
     refine AtL.pures hT 1 _ _ _ _ rfl ?_
     refine AtL.pures hT 1 _ _ _ _ rfl ?_
     refine AtL.nil ?_
     exact AtE.then_n ((HK4 _ () _ H).pickP (ts := [21, 5, 6, 7]) (is := []) rfl rfl (by decide) rfl)
  ·
   refine AtC.exit ?_
   refine AtE.then_x ?_
   refine AtE.then_x ?_
   refine AtE.blk_hit ?_
   refine AtE.then_n (AtE.go ?_)
   refine AtC.seqR ?_
   refine AtL.pures hT 1 _ _ _ _ rfl ?_
   refine AtL.nil ?_
   refine AtE.then_n (AtE.go ?_)
   refine AtC.ret ?_
   exact AtE.retN (rs := [.tmp 2]) rfl (ResAll.cons (ResAt.tmp rfl) ResAll.nil) rfl H

theorem lift_ref01uCut (x0 : Sl) (w : World) (m : Heap) (hr : Rel ⟨m, []⟩ w.heap) (S : Sl → Heap → Prop) (H : ref01uCut x0 m S) :
    Calls Tryd.prog 91 #[Sl.toV x0] w (Post ⟨w, m⟩ Sl.toV S) := by
  refine Calls.lift (args := [Sl.toV x0]) Tryd.func91 rfl Tryd.ntmps91 (Nat.le_of_ble_eq_true rfl) hr (ref01uCut x0 m S) H (fun H => ?_)
  refine AtC.pick (ts := [0]) rfl ?_
  unfold ref01uCut at H
  refine AtC.seqR ?_
  refine AtL.pures hT 1 _ _ _ _ rfl ?_
  refine AtL.nil ?_
  refine AtE.then_n (AtE.go ?_)
  refine AtC.seqR ?_
  refine AtL.pures hT 3 _ _ _ _ rfl ?_
  replace H := H _ rfl
  refine AtL.nil ?_
  refine AtE.then_n (AtE.go ?_)
  refine AtC.seq ?_
  refine AtC.block ?_
  refine AtC.loopM (fun (s0 : Int) => [(3, Value.int .i64 s0)]) (fun (s0 : Int) => []) [0] [3, 0] [] [] H (by exact rfl) (by exact rfl) (by exact rfl) (by decide) (by exact rfl) (fun Kp1 s0 h0 H Q1 HK1 => ?_)
  refine AtC.seq ?_
  refine AtC.joinSeq (β := Unit) (fun (t0 : Bool) (bb : Unit) => [(15, Value.bool t0)]) (fun (t0 : Bool) (bb : Unit) => []) [0, 3] [] H (by exact rfl) (by exact rfl) (fun t0 bb h0u1 H => ?_) (fun J2 H HK2 => ?_)
  ·
   refine AtC.condB H rfl (fun H => ?_) (fun H => ?_)
   ·
    refine AtC.skip ?_
    refine AtE.then_n (AtE.go ?_)
    refine AtC.block ?_
    refine AtC.region ?_
    refine AtL.pures hT 3 _ _ _ _ rfl ?_
    replace H := H _ rfl
    refine AtL.nil ?_
    refine AtE.blk_n ?_
    exact AtE.then_n ((HK1 _ _ H).pickP (ts := [3, 0]) (is := []) rfl rfl (by decide) rfl)
   ·
    refine AtC.exit ?_
    refine AtE.then_x ?_
    refine AtE.then_x ?_
    refine AtE.blk_hit ?_
    refine AtE.then_n (AtE.go ?_)
    refine AtC.seqR ?_
    refine AtL.pures hT 2 _ _ _ _ rfl ?_
    refine AtL.sl (hT := hT) H rfl rfl rfl rfl rfl rfl rfl (fun h => by cases h <;> rfl) rfl (fun v_1 H => ?_)
    refine AtL.pures hT 1 _ _ _ _ rfl ?_
    refine AtL.nil ?_
    refine AtE.then_n (AtE.go ?_)
    refine AtC.ret ?_
    exact AtE.retN (rs := [.tmp 2]) rfl (ResAll.cons (ResAt.tmp rfl) ResAll.nil) rfl H
  ·
   refine AtC.region ?_
   refine AtL.pures hT 3 _ _ _ _ rfl ?_
   refine AtL.splitB (t := 8) H rfl (fun H => ?_) (fun H => ?_)
   ·
    refine AtL.yes rfl rfl rfl ?_
    refine AtL.pures hT 1 _ _ _ _ rfl ?_
    refine AtL.yes rfl rfl rfl ?_
    refine AtL.pures hT 1 _ _ _ _ rfl ?_
    refine AtL.yes rfl rfl rfl ?_
    refine AtL.pures hT 1 _ _ _ _ rfl ?_
    refine AtL.yes rfl rfl rfl ?_
    obtain ⟨a_, hc2, hd2, H⟩ := H
    refine AtL.q rfl (Quiet1.idxS (s := _) hT rfl rfl rfl rfl rfl hc2 hd2) ?_
    refine AtL.yes rfl rfl rfl ?_
    obtain ⟨v, hc3, H⟩ := H
    refine AtL.q rfl (Quiet1.load hT rfl rfl rfl hc3) ?_
    refine AtL.yes rfl rfl rfl ?_
    refine AtL.pures hT 1 _ _ _ _ rfl ?_
    refine AtL.pures hT 1 _ _ _ _ rfl ?_
    refine AtL.nil ?_
    exact AtE.then_n ((HK2 _ () _ H).pickP (ts := [15, 0, 3]) (is := []) rfl rfl (by decide) rfl)
   ·
    refine AtL.noF rfl rfl rfl (by decide) rfl ?_
    refine AtL.noF rfl rfl rfl (by decide) rfl ?_
    refine AtL.noF rfl rfl rfl (by decide) rfl ?_
    refine AtL.noF rfl rfl rfl (by decide) rfl ?_
    refine AtL.noF rfl rfl rfl (by decide) rfl ?_
    refine AtL.noF rfl rfl rfl (by decide) rfl ?_
    refine AtL.pures hT 1 _ _ _ _ rfl ?_
    refine AtL.nil ?_
    exact AtE.then_n ((HK2 _ () _ H).pickP (ts := [15, 0, 3]) (is := []) rfl rfl (by decide) rfl)

theorem lift_ref01uOf (x0 : Sl) (w : World) (m : Heap) (hr : Rel ⟨m, []⟩ w.heap) (S : Sl → Heap → Prop) (H : ref01uOf x0 m S) :
    Calls Tryd.prog 20 #[Sl.toV x0] w (Post ⟨w, m⟩ Sl.toV S) := by
  refine Calls.lift (args := [Sl.toV x0]) Tryd.func20 rfl Tryd.ntmps20 (Nat.le_of_ble_eq_true rfl) hr (ref01uOf x0 m S) H (fun H => ?_)
  refine AtC.pick (ts := [0]) rfl ?_
  unfold ref01uOf at H
  refine AtC.seqR ?_
  refine AtL.pures hT 1 _ _ _ _ rfl ?_
  refine AtL.nil ?_
  refine AtE.then_n (AtE.go ?_)
  refine AtC.seqR ?_
  refine AtLX.bs (hT := hT) (cs := []) H rfl rfl rfl rfl rfl rfl rfl rfl rfl (fun a h0 H => ?_)
  refine AtL.pures hT 1 _ _ _ _ rfl ?_
  replace H := H _ rfl
  refine AtL.nil ?_
  refine AtE.then_n (AtE.go ?_)
  refine AtC.seq ?_
  refine AtC.seqR ?_
  refine AtL.pures hT 4 _ _ _ _ rfl ?_
  replace H := H _ rfl
  refine AtL.nil ?_
  refine AtE.then_n (AtE.go ?_)
  refine AtC.block ?_
  refine AtC.loopM (fun (s0 : Sl × Int) => [(3, Sl.toV s0.1), (4, Value.int .i64 s0.2)]) (fun (s0 : Sl × Int) => []) [0] [3, 4, 0] [] [] H (by exact rfl) (by exact rfl) (by exact rfl) (by decide) (by exact rfl) (fun Kp1 s0 h0u1 H Q1 HK1 => ?_)
  refine AtC.seq ?_
  refine AtC.seqR ?_
  refine AtL.pures hT 2 _ _ _ _ rfl ?_
  refine AtL.nil ?_
  refine AtE.then_n (AtE.go ?_)
  refine AtC.condB H rfl (fun H => ?_) (fun H => ?_)
  ·
   refine AtC.skip ?_
   refine AtE.then_n (AtE.go ?_)
   refine AtC.seq ?_
   refine AtC.block ?_
   refine AtC.seqR ?_
   refine AtL.pures hT 2 _ _ _ _ rfl ?_
   obtain ⟨a_1_, hc1, hd1, H⟩ := H
   refine AtL.q rfl (Quiet1.idxS (s := _) hT rfl rfl rfl rfl rfl hc1 hd1) ?_
   obtain ⟨v_1, hc2, H⟩ := H
   refine AtL.q rfl (Quiet1.load hT rfl rfl rfl hc2) ?_
   refine AtL.pures hT 2 _ _ _ _ rfl ?_
   replace H := H _ rfl
   refine AtL.nil ?_
   refine AtE.then_n (AtE.go ?_)
   refine AtC.seq ?_
   refine AtC.seqR ?_
   refine AtL.pures hT 1 _ _ _ _ rfl ?_
   refine AtL.nil ?_
   refine AtE.then_n (AtE.go ?_)
   refine AtC.block ?_
   refine AtC.loopM (fun (s0u1 : Int × Int) => [(5, Value.int .i64 s0u1.1), (6, Value.int .i64 s0u1.2)]) (fun (s0u1 : Int × Int) => []) [0, 3, 4] [5, 6, 0, 3, 4] [] [] H (by exact rfl) (by exact rfl) (by exact rfl) (by decide) (by exact rfl) (fun Kp4 s0u1 h0u2 H Q4 HK4 => ?_)
   refine AtC.seq ?_
   refine AtC.seqR ?_
   refine AtL.pures hT 4 _ _ _ _ rfl ?_
   refine AtL.nil ?_
   refine AtE.then_n (AtE.go ?_)
   refine AtC.condB H rfl (fun H => ?_) (fun H => ?_)
   ·
    refine AtC.skip ?_
    refine AtE.then_n (AtE.go ?_)
    refine AtC.seq ?_
    refine AtC.block ?_
    refine AtC.seqR ?_
    refine AtL.pures hT 2 _ _ _ _ rfl ?_
    obtain ⟨a_2_, hc4, hd4, H⟩ := H
    refine AtL.q rfl (Quiet1.idxS (s := _) hT rfl rfl rfl rfl rfl hc4 hd4) ?_
    obtain ⟨v_2, hc5, H⟩ := H
    refine AtL.q rfl (Quiet1.load hT rfl rfl rfl hc5) ?_
    refine AtL.pures hT 4 _ _ _ _ rfl ?_
    replace H := H _ rfl
    refine AtL.nil ?_
    refine AtE.then_n (AtE.go ?_)
    refine AtC.seqR ?_
    refine AtL.pures hT 4 _ _ _ _ rfl ?_
    obtain ⟨a_3_, hc6, hd6, H⟩ := H
    refine AtL.q rfl (Quiet1.idxS (s := _) hT rfl rfl rfl rfl rfl hc6 hd6) ?_
    refine AtL.e rfl (EffX.store hT rfl rfl rfl rfl rfl H) ?_
    rintro _ _ ⟨h0u3, rfl, H⟩
    refine AtL.nil ?_
    refine AtE.then_n (AtE.go ?_)
    refine AtC.region ?_
    refine AtL.pures hT 3 _ _ _ _ rfl ?_
    replace H := H _ rfl
    refine AtL.nil ?_
    refine AtE.blk_n ?_
    refine AtE.then_n (AtE.go ?_)
    refine AtC.region ?_
    refine AtL.pures hT 3 _ _ _ _ rfl ?_
    replace H := H _ rfl
    refine AtL.nil ?_
    exact AtE.then_n ((HK4 _ _ H).pickP (ts := [5, 6, 0, 3, 4]) (is := []) rfl rfl (by decide) rfl)
   ·
    refine AtC.exit ?_
    refine AtE.then_x ?_
    refine AtE.then_x ?_
    refine AtE.blk_hit ?_
    refine AtE.then_n (AtE.go ?_)
    refine AtC.block ?_
    refine AtC.loopM (fun (s0u2 : Sl × Int) => [(3, Sl.toV s0u2.1), (5, Value.int .i64 s0u2.2)]) (fun (s0u2 : Sl × Int) => []) [0, 4] [3, 5, 0, 4] [] [] H (by exact rfl) (by exact rfl) (by exact rfl) (by decide) (by exact rfl) (fun Kp8 s0u2 h0u4 H Q8 HK8 => ?_)
    refine AtC.seq ?_
    refine AtC.seqR ?_
    refine AtL.pures hT 2 _ _ _ _ rfl ?_
    refine AtL.nil ?_
    refine AtE.then_n (AtE.go ?_)
    refine AtC.condB H rfl (fun H => ?_) (fun H => ?_)
    ·
     refine AtC.skip ?_
     refine AtE.then_n (AtE.go ?_)
     refine AtC.block ?_
     refine AtC.seqR ?_
     refine AtL.pures hT 3 _ _ _ _ rfl ?_
     refine AtLX.bs (hT := hT) (cs := [_]) H rfl rfl rfl rfl rfl rfl rfl rfl rfl (fun a_4 h0u5 H => ?_)
     refine AtL.e rfl (EffX.appendS (s := _) (u := _) hT rfl rfl rfl rfl rfl rfl rfl rfl rfl rfl (by decide) H) ?_
     rintro _ _ ⟨v_4, h0u6, rfl, rfl, H⟩
     refine AtL.pures hT 1 _ _ _ _ rfl ?_
     refine AtL.nil ?_
     refine AtE.then_n (AtE.go ?_)
     refine AtC.region ?_
     refine AtL.pures hT 3 _ _ _ _ rfl ?_
     replace H := H _ rfl
     refine AtL.nil ?_
     refine AtE.blk_n ?_
     exact AtE.then_n ((HK8 _ _ H).pickP (ts := [3, 5, 0, 4]) (is := []) rfl rfl (by decide) rfl)
    ·
     refine AtC.exit ?_
     refine AtE.then_x ?_
     refine AtE.then_x ?_
     refine AtE.blk_hit ?_
     refine AtE.blk_n ?_
     refine AtE.then_n (AtE.go ?_)
     refine AtC.region ?_
     refine AtL.pures hT 3 _ _ _ _ rfl ?_
     replace H := H _ rfl
     refine AtL.nil ?_
     exact AtE.then_n ((HK1 _ _ H).pickP (ts := [3, 4, 0]) (is := []) rfl rfl (by decide) rfl)
  ·
   refine AtC.exit ?_
   refine AtE.then_x ?_
   refine AtE.then_x ?_
   refine AtE.blk_hit ?_
   refine AtE.then_n (AtE.go ?_)
   refine AtC.seqR ?_
   refine AtL.pures hT 1 _ _ _ _ rfl ?_
   refine AtL.e rfl (EffX.call (f := 91) (sh := fun h => ref01uCut _ h _) (H0 := H) rfl Tryd.call91 rfl (hl := fun w m hr hw => lift_ref01uCut _ w m hr _ hw)) ?_
   rintro _ _ ⟨v_5, h0u7, rfl, rfl, H⟩
   refine AtL.pures hT 1 _ _ _ _ rfl ?_
   refine AtL.nil ?_
   refine AtE.then_n (AtE.go ?_)
   refine AtC.ret ?_
   exact AtE.retN (rs := [.tmp 2]) rfl (ResAll.cons (ResAt.tmp rfl) ResAll.nil) rfl H

theorem lift_ref02uOf (x0 : Bool × Sl × Sl) (w : World) (m : Heap) (hr : Rel ⟨m, []⟩ w.heap) (S : (Bool × Sl × Sl) → Heap → Prop) (H : ref02uOf x0 m S) :
    Calls Tryd.prog 50 #[Value.agg (C_bool_sl_sl x0).toArray] w (Post ⟨w, m⟩ (fun r => Value.agg (C_bool_sl_sl r).toArray) S) := by
  refine Calls.lift (args := [Value.agg (C_bool_sl_sl x0).toArray]) Tryd.func50 rfl Tryd.ntmps50 (Nat.le_of_ble_eq_true rfl) hr (ref02uOf x0 m S) H (fun H => ?_)
  refine AtC.pick (ts := [0]) rfl ?_
  unfold ref02uOf at H
  refine AtC.seqR ?_
  refine AtL.e rfl (EffX.boxP (cs := [_, _, _]) rfl rfl rfl H) ?_
  rintro _ _ ⟨b, _, rfl, rfl, _, H⟩
  refine AtL.e rfl (EffX.allocP (cs := [_, _, _]) hT rfl rfl H) ?_
  rintro _ _ ⟨b_1, _, rfl, rfl, _, H⟩
  refine AtL.nil ?_
  replace H := H.self
  refine AtE.then_n (AtE.go ?_)
  refine AtC.joinSeq (β := Nat) (fun (t0 : Bool × Sl × Sl) (bb : Nat) => [(3, Value.pointer (some ⟨bb, 0, none⟩))]) (fun (t0 : Bool × Sl × Sl) (bb : Nat) => [(bb, [Value.bool t0.1, Sl.toV t0.2.1, Sl.toV t0.2.2])]) [2] [0] H (by exact rfl) (by exact rfl) (fun t0 bb h0u1 H => ?_) (fun J1 H HK1 => ?_)
  ·
   refine AtC.joinSeq (β := Unit) (fun (t0u1 : Bool × Sl × Sl) (bb_1 : Unit) => []) (fun (t0u1 : Bool × Sl × Sl) (bb_1 : Unit) => [(bb, [Value.bool t0u1.1, Sl.toV t0u1.2.1, Sl.toV t0u1.2.2])]) [2, 3] [1] H (by exact rfl) (by exact rfl) (fun t0u1 bb_1 h0u13 H => ?_) (fun J5 H HK5 => ?_)
   ·
    refine AtC.seqR ?_
    refine AtL.q rfl (Quiet1.loadSP (i := 0) (l := [_, _, _]) hT rfl rfl rfl rfl rfl rfl rfl rfl) ?_
    refine AtL.e rfl (EffX.storeSP (i := 1) (qv := [(_, [_, _, _]), (_, [_, _, _])]) hT rfl rfl rfl rfl rfl rfl rfl rfl rfl rfl) ?_
    rintro _ _ rfl
    refine AtL.nil ?_
    refine AtE.then_n (AtE.go ?_)
    refine AtC.ret ?_
    exact AtE.retN (rs := [.cell 2 59]) rfl (ResAll.cons (ResAt.cellSP (i := 1) (l := [_, _, _]) hT rfl rfl rfl rfl rfl rfl rfl) ResAll.nil) rfl H
   ·
    refine AtC.seqR ?_
    refine AtL.pures hT 1 _ _ _ _ rfl ?_
    refine AtL.q rfl (Quiet1.loadP (i := 0) hT rfl rfl rfl rfl rfl rfl) ?_
    refine AtL.pures hT 2 _ _ _ _ rfl ?_
    refine AtL.nil ?_
    refine AtE.then_n (AtE.go ?_)
    refine AtC.condB H rfl (fun H => ?_) (fun H => ?_)
    ·
     refine AtC.region ?_
     refine AtLX.bs (hT := hT) (cs := [_]) H rfl rfl rfl rfl rfl rfl rfl rfl rfl (fun a h0u14 H => ?_)
     refine AtL.pures hT 1 _ _ _ _ rfl ?_
     refine AtL.e rfl (EffX.storeP (i := 0) (qv := [(_, [_, _, _]), (_, [_, _, _])]) hT rfl rfl rfl rfl rfl rfl rfl rfl rfl) ?_
     rintro _ _ rfl
     refine AtL.nil ?_
     exact AtE.then_n ((HK5 _ () _ H).pickP (ts := [2, 3]) (is := [0, 1]) rfl rfl (by decide) rfl)
    ·
     refine AtC.skip ?_
     exact AtE.then_n ((HK5 _ () _ H).pickP (ts := [2, 3]) (is := [0, 1]) rfl rfl (by decide) rfl)
  ·
   apply AtC.stages [6, 9, 11, 12] [[], [], [], [], [], [], [], [], [], [6], [6, 9], [], [6, 9, 11]] [[], [0], [0, 1], [], [3], [3, 4], [3, 4, 5], [], [7], [3, 4, 5, 6, 7, 8], [0, 1, 2, 3, 4, 5, 6, 7, 8, 9], [], [0, 1, 2, 3, 4, 5, 6, 7, 8, 9, 10, 11]] hmix (by kernel_rfl) [(4, _), (5, _), (6, _), (7, _), (8, _), (9, _), (11, _), (12, _)] rfl 4 rfl
   refine Stg.go [0, 1, 2, 3, 4, 5, 7, 8] [6, 11] rfl rfl (QAll.cons (QOp.p hT rfl rfl rfl rfl rfl) (QAll.cons (QOp.p hT rfl rfl rfl rfl rfl) (QAll.cons (QOp.q rfl rfl (Quiet1.loadP (i := 1) hT rfl rfl rfl rfl rfl rfl) rfl rfl) (QAll.cons (QOp.p hT rfl rfl rfl rfl rfl) (QAll.cons (QOp.p hT rfl rfl rfl rfl rfl) (QAll.cons (QOp.q rfl rfl (Quiet1.loadP (i := 1) hT rfl rfl rfl rfl rfl rfl) rfl rfl) (QAll.cons (QOp.p hT rfl rfl rfl rfl rfl) (QAll.cons (QOp.q rfl rfl (Quiet1.loadP (i := 1) hT rfl rfl rfl rfl rfl rfl) rfl rfl) QAll.nil)))))))) ?_
   refine EAll.cons ?_ ?_
   ·
    replace H := H.self
    refine EOp.e rfl rfl rfl (EffX.call (f := 20) (sh := fun h => ref01uOf _ h _) (H0 := H) rfl Tryd.call20 rfl (hl := fun w m hr hw => lift_ref01uOf _ w m hr _ hw)) ?_
    rintro _ _ ⟨v, h0u3, rfl, rfl, H⟩
    apply Stg.next [(10, _)] rfl rfl
    refine Stg.go [0, 1, 2, 7, 8] [9, 11] rfl rfl (QAll.cons (QOp.p hT rfl rfl rfl rfl rfl) (QAll.cons (QOp.p hT rfl rfl rfl rfl rfl) (QAll.cons (QOp.q rfl rfl (Quiet1.loadP (i := 1) hT rfl rfl rfl rfl rfl rfl) rfl rfl) (QAll.cons (QOp.p hT rfl rfl rfl rfl rfl) (QAll.cons (QOp.q rfl rfl (Quiet1.loadP (i := 1) hT rfl rfl rfl rfl rfl rfl) rfl rfl) QAll.nil))))) ?_
    refine EAll.cons ?_ ?_
    ·
     replace H := H.self
     refine EOp.e rfl rfl rfl (EffX.call (f := 20) (sh := fun h => ref01uOf _ h _) (H0 := H) rfl Tryd.call20 rfl (hl := fun w m hr hw => lift_ref01uOf _ w m hr _ hw)) ?_
     rintro _ _ ⟨v_1, h0u5, rfl, rfl, H⟩
     apply Stg.next [(13, _), (14, _)] rfl rfl
     refine Stg.go [0, 1, 2, 10] [11] rfl rfl (QAll.cons (QOp.p hT rfl rfl rfl rfl rfl) (QAll.cons (QOp.p hT rfl rfl rfl rfl rfl) (QAll.cons (QOp.q rfl rfl (Quiet1.loadP (i := 1) hT rfl rfl rfl rfl rfl rfl) rfl rfl) (QAll.cons (QOp.q rfl rfl (Quiet1.build (cs := [_, _, _]) hT rfl rfl rfl rfl rfl rfl) rfl rfl) QAll.nil)))) ?_
     refine EAll.cons ?_ EAll.nil
     refine EOp.e rfl rfl rfl (EffX.allocP (cs := [_, _, _]) hT rfl rfl H) ?_
     rintro _ _ ⟨b_2, _, rfl, rfl, he1, H⟩
     apply Stg.next [(3, _)] rfl rfl
     refine Stg.go [0, 1, 2, 10] [12] rfl rfl (QAll.cons (QOp.p hT rfl rfl rfl rfl rfl) (QAll.cons (QOp.p hT rfl rfl rfl rfl rfl) (QAll.cons (QOp.q rfl rfl (Quiet1.loadP (i := 2) hT rfl rfl rfl rfl rfl rfl) rfl rfl) (QAll.cons (QOp.q rfl rfl (Quiet1.build (cs := [_, _, _]) hT rfl rfl rfl rfl rfl rfl) rfl rfl) QAll.nil)))) ?_
     refine EAll.cons ?_ EAll.nil
     refine EOp.e rfl rfl rfl (EffX.storeSP (i := 0) (qv := [(_, [_, _, _]), (_, [_, _, _]), (_, [_, _, _])]) hT rfl rfl rfl rfl rfl rfl rfl rfl rfl rfl) ?_
     rintro _ _ rfl
     apply Stg.next [] rfl rfl
     refine Stg.fin [] rfl rfl QAll.nil ?_
     replace H := H.self
     exact AtE.then_n ((HK1 _ b_2 _ H).pickP (ts := [3, 2]) (is := [0, 1]) rfl rfl (by decide) rfl)
    refine EAll.cons ?_ EAll.nil
    refine EOp.e rfl rfl rfl (EffX.allocP (cs := [_, _, _]) hT rfl rfl H) ?_
    rintro _ _ ⟨b_3, _, rfl, rfl, he2, H⟩
    apply Stg.next [(3, _)] rfl rfl
    refine Stg.go [0, 1, 2, 7, 8] [9] rfl rfl (QAll.cons (QOp.p hT rfl rfl rfl rfl rfl) (QAll.cons (QOp.p hT rfl rfl rfl rfl rfl) (QAll.cons (QOp.q rfl rfl (Quiet1.loadP (i := 2) hT rfl rfl rfl rfl rfl rfl) rfl rfl) (QAll.cons (QOp.p hT rfl rfl rfl rfl rfl) (QAll.cons (QOp.q rfl rfl (Quiet1.loadP (i := 2) hT rfl rfl rfl rfl rfl rfl) rfl rfl) QAll.nil))))) ?_
    refine EAll.cons ?_ EAll.nil
    replace H := H.self
    refine EOp.e rfl rfl rfl (EffX.call (f := 20) (sh := fun h => ref01uOf _ h _) (H0 := H) rfl Tryd.call20 rfl (hl := fun w m hr hw => lift_ref01uOf _ w m hr _ hw)) ?_
    rintro _ _ ⟨v_2, h0u7, rfl, rfl, H⟩
    apply Stg.next [(13, _), (14, _)] rfl rfl
    refine Stg.go [0, 1, 2, 10] [12] rfl rfl (QAll.cons (QOp.p hT rfl rfl rfl rfl rfl) (QAll.cons (QOp.p hT rfl rfl rfl rfl rfl) (QAll.cons (QOp.q rfl rfl (Quiet1.loadP (i := 2) hT rfl rfl rfl rfl rfl rfl) rfl rfl) (QAll.cons (QOp.q rfl rfl (Quiet1.build (cs := [_, _, _]) hT rfl rfl rfl rfl rfl rfl) rfl rfl) QAll.nil)))) ?_
    refine EAll.cons ?_ EAll.nil
    refine EOp.e rfl rfl rfl (EffX.storeSP (i := 0) (qv := [(_, [_, _, _]), (_, [_, _, _]), (_, [_, _, _])]) hT rfl rfl rfl rfl rfl rfl rfl rfl rfl rfl) ?_
    rintro _ _ rfl
    apply Stg.next [] rfl rfl
    refine Stg.fin [] rfl rfl QAll.nil ?_
    replace H := H.self
    exact AtE.then_n ((HK1 _ b_3 _ H).pickP (ts := [3, 2]) (is := [0, 1]) rfl rfl (by decide) rfl)
   refine EAll.cons ?_ EAll.nil
   refine EOp.e rfl rfl rfl (EffX.allocP (cs := [_, _, _]) hT rfl rfl H) ?_
   rintro _ _ ⟨b_4, _, rfl, rfl, he3, H⟩
   apply Stg.next [(3, _)] rfl rfl
   refine Stg.go [0, 1, 2, 3, 4, 5, 7, 8] [6] rfl rfl (QAll.cons (QOp.p hT rfl rfl rfl rfl rfl) (QAll.cons (QOp.p hT rfl rfl rfl rfl rfl) (QAll.cons (QOp.q rfl rfl (Quiet1.loadP (i := 2) hT rfl rfl rfl rfl rfl rfl) rfl rfl) (QAll.cons (QOp.p hT rfl rfl rfl rfl rfl) (QAll.cons (QOp.p hT rfl rfl rfl rfl rfl) (QAll.cons (QOp.q rfl rfl (Quiet1.loadP (i := 2) hT rfl rfl rfl rfl rfl rfl) rfl rfl) (QAll.cons (QOp.p hT rfl rfl rfl rfl rfl) (QAll.cons (QOp.q rfl rfl (Quiet1.loadP (i := 2) hT rfl rfl rfl rfl rfl rfl) rfl rfl) QAll.nil)))))))) ?_
   refine EAll.cons ?_ EAll.nil
   replace H := H.self
   refine EOp.e rfl rfl rfl (EffX.call (f := 20) (sh := fun h => ref01uOf _ h _) (H0 := H) rfl Tryd.call20 rfl (hl := fun w m hr hw => lift_ref01uOf _ w m hr _ hw)) ?_
   rintro _ _ ⟨v_3, h0u9, rfl, rfl, H⟩
   apply Stg.next [(10, _)] rfl rfl
   refine Stg.go [0, 1, 2, 7, 8] [9] rfl rfl (QAll.cons (QOp.p hT rfl rfl rfl rfl rfl) (QAll.cons (QOp.p hT rfl rfl rfl rfl rfl) (QAll.cons (QOp.q rfl rfl (Quiet1.loadP (i := 2) hT rfl rfl rfl rfl rfl rfl) rfl rfl) (QAll.cons (QOp.p hT rfl rfl rfl rfl rfl) (QAll.cons (QOp.q rfl rfl (Quiet1.loadP (i := 2) hT rfl rfl rfl rfl rfl rfl) rfl rfl) QAll.nil))))) ?_
   refine EAll.cons ?_ EAll.nil
   replace H := H.self
   refine EOp.e rfl rfl rfl (EffX.call (f := 20) (sh := fun h => ref01uOf _ h _) (H0 := H) rfl Tryd.call20 rfl (hl := fun w m hr hw => lift_ref01uOf _ w m hr _ hw)) ?_
   rintro _ _ ⟨v_4, h0u11, rfl, rfl, H⟩
   apply Stg.next [(13, _), (14, _)] rfl rfl
   refine Stg.go [0, 1, 2, 10] [12] rfl rfl (QAll.cons (QOp.p hT rfl rfl rfl rfl rfl) (QAll.cons (QOp.p hT rfl rfl rfl rfl rfl) (QAll.cons (QOp.q rfl rfl (Quiet1.loadP (i := 2) hT rfl rfl rfl rfl rfl rfl) rfl rfl) (QAll.cons (QOp.q rfl rfl (Quiet1.build (cs := [_, _, _]) hT rfl rfl rfl rfl rfl rfl) rfl rfl) QAll.nil)))) ?_
   refine EAll.cons ?_ EAll.nil
   refine EOp.e rfl rfl rfl (EffX.storeSP (i := 0) (qv := [(_, [_, _, _]), (_, [_, _, _]), (_, [_, _, _])]) hT rfl rfl rfl rfl rfl rfl rfl rfl rfl rfl) ?_
   rintro _ _ rfl
   apply Stg.next [] rfl rfl
   refine Stg.fin [] rfl rfl QAll.nil ?_
   replace H := H.self
   exact AtE.then_n ((HK1 _ b_4 _ H).pickP (ts := [3, 2]) (is := [0, 1]) rfl rfl (by decide) rfl)

theorem lift_ref02uInt (n : Int) (w : World) (m : Heap) (hr : Rel ⟨m, []⟩ w.heap) (S : (Bool × Sl × Sl) → Heap → Prop) (H : ref02uInt n m S) :
    Calls Tryd.prog 75 #[Value.int .i64 n] w (Post ⟨w, m⟩ (fun r => Value.agg (C_bool_sl_sl r).toArray) S) := by
  refine Calls.lift (args := [Value.int .i64 n]) Tryd.func75 rfl Tryd.ntmps75 (Nat.le_of_ble_eq_true rfl) hr (ref02uInt n m S) H (fun H => ?_)
  refine AtC.pick (ts := [0]) rfl ?_
  unfold ref02uInt at H
  refine AtC.seqR ?_
  refine AtL.e rfl (EffX.allocP (cs := [_, _, _]) hT rfl rfl H) ?_
  rintro _ _ ⟨b, _, rfl, rfl, _, H⟩
  refine AtL.nil ?_
  replace H := H.self
  refine AtE.then_n (AtE.go ?_)
  refine AtC.seqR ?_
  refine AtL.pures hT 2 _ _ _ _ rfl ?_
  refine AtLX.bs (hT := hT) (cs := []) H rfl rfl rfl rfl rfl rfl rfl rfl rfl (fun a h0u1 H => ?_)
  refine AtLX.bs (hT := hT) (cs := [_]) H rfl rfl rfl rfl rfl rfl rfl rfl rfl (fun a_1 h0u2 H => ?_)
  refine AtL.q rfl (Quiet1.build (cs := [_, _, _]) hT rfl rfl rfl rfl rfl rfl) ?_
  refine AtL.e rfl (EffX.allocP (cs := [_, _, _]) hT rfl rfl H) ?_
  rintro _ _ ⟨b_1, _, rfl, rfl, _, H⟩
  replace H := H.self
  refine AtL.e rfl (EffX.storeSP (i := 0) (qv := [(_, [_, _, _]), (_, [_, _, _])]) hT rfl rfl rfl rfl rfl rfl rfl rfl rfl rfl) ?_
  rintro _ _ rfl
  refine AtL.nil ?_
  refine AtE.then_n (AtE.go ?_)
  refine AtC.joinSeq (β := Unit) (fun (t0 : Int) (bb : Unit) => [(0, Value.int .i64 t0)]) (fun (t0 : Int) (bb : Unit) => []) [2, 3] [0, 1] H (by exact rfl) (by exact rfl) (fun t0 bb h0u4 H => ?_) (fun J1 H HK1 => ?_)
  ·
   refine AtC.seq ?_
   refine AtC.block ?_
   refine AtC.loopM (fun (s0 : Int × Bool × Sl × Sl) => [(0, Value.int .i64 s0.1)]) (fun (s0 : Int × Bool × Sl × Sl) => [(b_1, [Value.bool s0.2.1, Sl.toV s0.2.2.1, Sl.toV s0.2.2.2])]) [2, 3] [0, 2, 3] [1] [0, 1] H (by exact rfl) (by exact rfl) (by exact rfl) (by decide) (by exact rfl) (fun Kp2 s0 h0u5 H Q2 HK2 => ?_)
   refine AtC.seq ?_
   refine AtC.seqR ?_
   refine AtL.pures hT 2 _ _ _ _ rfl ?_
   refine AtL.nil ?_
   refine AtE.then_n (AtE.go ?_)
   refine AtC.condB H rfl (fun H => ?_) (fun H => ?_)
   ·
    refine AtC.skip ?_
    refine AtE.then_n (AtE.go ?_)
    refine AtC.block ?_
    refine AtC.seqR ?_
    refine AtL.pures hT 1 _ _ _ _ rfl ?_
    refine AtL.q rfl (Quiet1.loadP (i := 0) hT rfl rfl rfl rfl rfl rfl) ?_
    refine AtL.pures hT 2 _ _ _ _ rfl ?_
    refine AtLX.bs (hT := hT) (cs := [_]) H rfl rfl rfl rfl rfl rfl rfl rfl rfl (fun a_2 h0u6 H => ?_)
    refine AtL.e rfl (EffX.appendS (s := _) (u := _) hT rfl rfl rfl rfl rfl rfl rfl rfl rfl rfl (by decide) H) ?_
    rintro _ _ ⟨v_3, h0u7, rfl, rfl, H⟩
    refine AtL.pures hT 1 _ _ _ _ rfl ?_
    refine AtL.e rfl (EffX.storeP (i := 0) (qv := [(_, [_, _, _]), (_, [_, _, _])]) hT rfl rfl rfl rfl rfl rfl rfl rfl rfl) ?_
    rintro _ _ rfl
    refine AtL.nil ?_
    refine AtE.then_n (AtE.go ?_)
    refine AtC.region ?_
    refine AtL.pures hT 3 _ _ _ _ rfl ?_
    replace H := H _ rfl
    refine AtL.nil ?_
    refine AtE.blk_n ?_
    exact AtE.then_n ((HK2 _ _ H).pickP (ts := [0, 2, 3]) (is := [0, 1]) rfl rfl (by decide) rfl)
   ·
    refine AtC.exit ?_
    refine AtE.then_x ?_
    refine AtE.then_x ?_
    refine AtE.blk_hit ?_
    refine AtE.then_n (AtE.go ?_)
    refine AtC.seqR ?_
    refine AtL.q rfl (Quiet1.loadSP (i := 0) (l := [_, _, _]) hT rfl rfl rfl rfl rfl rfl rfl rfl) ?_
    refine AtL.e rfl (EffX.storeSP (i := 1) (qv := [(_, [_, _, _]), (_, [_, _, _])]) hT rfl rfl rfl rfl rfl rfl rfl rfl rfl rfl) ?_
    rintro _ _ rfl
    refine AtL.nil ?_
    refine AtE.then_n (AtE.go ?_)
    refine AtC.ret ?_
    exact AtE.retN (rs := [.cell 2 59]) rfl (ResAll.cons (ResAt.cellSP (i := 1) (l := [_, _, _]) hT rfl rfl rfl rfl rfl rfl rfl) ResAll.nil) rfl H
  ·
   refine AtC.seqR ?_
   refine AtL.pures hT 2 _ _ _ _ rfl ?_
   refine AtL.nil ?_
   refine AtE.then_n (AtE.go ?_)
   refine AtC.condB H rfl (fun H => ?_) (fun H => ?_)
   ·
    refine AtC.region ?_
    refine AtL.pures hT 3 _ _ _ _ rfl ?_
    replace H := H _ rfl
    refine AtL.nil ?_
    exact AtE.then_n ((HK1 _ () _ H).pickP (ts := [0, 2, 3]) (is := [0, 1]) rfl rfl (by decide) rfl)
   ·
    refine AtC.skip ?_
    exact AtE.then_n ((HK1 _ () _ H).pickP (ts := [0, 2, 3]) (is := [0, 1]) rfl rfl (by decide) rfl)

theorem lift_ref01uCmp (x0 : Sl) (y : Sl) (w : World) (m : Heap) (hr : Rel ⟨m, []⟩ w.heap) (S : Int → Heap → Prop) (H : ref01uCmp x0 y m S) :
    Calls Tryd.prog 33 #[Sl.toV x0, Sl.toV y] w (Post ⟨w, m⟩ (Value.int .i64) S) := by
  refine Calls.lift (args := [Sl.toV x0, Sl.toV y]) Tryd.func33 rfl Tryd.ntmps33 (Nat.le_of_ble_eq_true rfl) hr (ref01uCmp x0 y m S) H (fun H => ?_)
  refine AtC.pick (ts := [0, 1]) rfl ?_
  unfold ref01uCmp at H
  refine AtC.seqR ?_
  refine AtL.pures hT 1 _ _ _ _ rfl ?_
  refine AtL.nil ?_
  refine AtE.then_n (AtE.go ?_)
  refine AtC.seq ?_
  refine AtC.seqR ?_
  refine AtL.pures hT 5 _ _ _ _ rfl ?_
  refine AtL.nil ?_
  refine AtE.then_n (AtE.go ?_)
  refine AtC.condB H rfl (fun H => ?_) (fun H => ?_)
  ·
   refine AtC.seq ?_
   refine AtC.seqR ?_
   refine AtL.pures hT 5 _ _ _ _ rfl ?_
   refine AtL.nil ?_
   refine AtE.then_n (AtE.go ?_)
   refine AtC.condB H rfl (fun H => ?_) (fun H => ?_)
   ·
    refine AtC.seqR ?_
    refine AtL.pures hT 1 _ _ _ _ rfl ?_
    refine AtL.nil ?_
    refine AtE.then_n (AtE.go ?_)
    refine AtC.ret ?_
    refine AtE.then_r ?_
    refine AtE.then_r ?_
    exact AtE.retN (rs := [.tmp 4]) rfl (ResAll.cons (ResAt.tmp rfl) ResAll.nil) rfl H
   ·
    refine AtC.skip ?_
    refine AtE.then_n (AtE.go ?_)
    refine AtC.seqR ?_
    refine AtL.pures hT 1 _ _ _ _ rfl ?_
    refine AtL.nil ?_
    refine AtE.then_n (AtE.go ?_)
    refine AtC.ret ?_
    refine AtE.then_r ?_
    exact AtE.retN (rs := [.tmp 4]) rfl (ResAll.cons (ResAt.tmp rfl) ResAll.nil) rfl H
  ·
   refine AtC.skip ?_
   refine AtE.then_n (AtE.go ?_)
   refine AtC.seq ?_
   refine AtC.seqR ?_
   refine AtL.pures hT 4 _ _ _ _ rfl ?_
   replace H := H _ rfl
   refine AtL.nil ?_
   refine AtE.then_n (AtE.go ?_)
   refine AtC.block ?_
   refine AtC.loopM (fun (s0 : Int) => [(5, Value.int .i64 s0)]) (fun (s0 : Int) => []) [0, 1] [5, 0, 1] [] [] H (by exact rfl) (by exact rfl) (by exact rfl) (by decide) (by exact rfl) (fun Kp1 s0 h0 H Q1 HK1 => ?_)
   refine AtC.seq ?_
   refine AtC.seqR ?_
   refine AtL.pures hT 2 _ _ _ _ rfl ?_
   refine AtL.nil ?_
   refine AtE.then_n (AtE.go ?_)
   refine AtC.condB H rfl (fun H => ?_) (fun H => ?_)
   ·
    refine AtC.skip ?_
    refine AtE.then_n (AtE.go ?_)
    refine AtC.seq ?_
    refine AtC.block ?_
    refine AtC.seq ?_
    refine AtC.seqD hmix (by kernel_rfl) ?_
    refine AtD.pures hT 2 _ _ _ _ rfl ?_
    obtain ⟨a_, hc1, hd1, H⟩ := H
    refine AtD.q rfl (Quiet1.idxS (s := _) hT rfl rfl rfl rfl rfl hc1 hd1) ?_
    obtain ⟨v, hc2, H⟩ := H
    refine AtD.q rfl (Quiet1.load hT rfl rfl rfl hc2) ?_
    refine AtD.pures hT 2 _ _ _ _ rfl ?_
    obtain ⟨a_1_, hc3, hd3, H⟩ := H
    refine AtD.q rfl (Quiet1.idxS (s := _) hT rfl rfl rfl rfl rfl hc3 hd3) ?_
    obtain ⟨v_1, hc4, H⟩ := H
    refine AtD.q rfl (Quiet1.load hT rfl rfl rfl hc4) ?_
    refine AtD.pures hT 1 _ _ _ _ rfl ?_
    refine AtD.nil ?_
    refine AtE.then_n (AtE.go ?_)
    refine AtC.condB H rfl (fun H => ?_) (fun H => ?_)
    ·
     refine AtC.seqR ?_
     refine AtL.pures hT 1 _ _ _ _ rfl ?_
     refine AtL.nil ?_
     refine AtE.then_n (AtE.go ?_)
     refine AtC.ret ?_
     refine AtE.then_r ?_
     refine AtE.blk_r ?_
     refine AtE.then_r ?_
     refine AtE.then_r ?_
     refine AtE.blk_r ?_
     refine AtE.then_r ?_
     exact AtE.retN (rs := [.tmp 4]) rfl (ResAll.cons (ResAt.tmp rfl) ResAll.nil) rfl H
    ·
     refine AtC.skip ?_
     refine AtE.then_n (AtE.go ?_)
     refine AtC.seqD hmix (by kernel_rfl) ?_
     refine AtD.pures hT 2 _ _ _ _ rfl ?_
     obtain ⟨a_2_, hc5, hd5, H⟩ := H
     refine AtD.q rfl (Quiet1.idxS (s := _) hT rfl rfl rfl rfl rfl hc5 hd5) ?_
     obtain ⟨v_2, hc6, H⟩ := H
     refine AtD.q rfl (Quiet1.load hT rfl rfl rfl hc6) ?_
     refine AtD.pures hT 2 _ _ _ _ rfl ?_
     obtain ⟨a_3_, hc7, hd7, H⟩ := H
     refine AtD.q rfl (Quiet1.idxS (s := _) hT rfl rfl rfl rfl rfl hc7 hd7) ?_
     obtain ⟨v_3, hc8, H⟩ := H
     refine AtD.q rfl (Quiet1.load hT rfl rfl rfl hc8) ?_
     refine AtD.pures hT 1 _ _ _ _ rfl ?_
     refine AtD.nil ?_
     refine AtE.then_n (AtE.go ?_)
     refine AtC.condB H rfl (fun H => ?_) (fun H => ?_)
     ·
      refine AtC.seqR ?_
      refine AtL.pures hT 1 _ _ _ _ rfl ?_
      refine AtL.nil ?_
      refine AtE.then_n (AtE.go ?_)
      refine AtC.ret ?_
      refine AtE.blk_r ?_
      refine AtE.then_r ?_
      refine AtE.then_r ?_
      refine AtE.blk_r ?_
      refine AtE.then_r ?_
      exact AtE.retN (rs := [.tmp 4]) rfl (ResAll.cons (ResAt.tmp rfl) ResAll.nil) rfl H
     ·
      refine AtC.skip ?_
      refine AtE.blk_n ?_
      refine AtE.then_n (AtE.go ?_)
      refine AtC.region ?_
      refine AtL.pures hT 3 _ _ _ _ rfl ?_
      replace H := H _ rfl
      refine AtL.nil ?_
      exact AtE.then_n ((HK1 _ _ H).pickP (ts := [5, 0, 1]) (is := []) rfl rfl (by decide) rfl)
   ·
    refine AtC.exit ?_
    refine AtE.then_x ?_
    refine AtE.then_x ?_
    refine AtE.blk_hit ?_
    refine AtE.then_n (AtE.go ?_)
    refine AtC.seqR ?_
    refine AtL.pures hT 1 _ _ _ _ rfl ?_
    refine AtL.nil ?_
    refine AtE.then_n (AtE.go ?_)
    refine AtC.ret ?_
    exact AtE.retN (rs := [.tmp 4]) rfl (ResAll.cons (ResAt.tmp rfl) ResAll.nil) rfl H

theorem lift_ref01uSub (x0 : Sl) (y : Sl) (w : World) (m : Heap) (hr : Rel ⟨m, []⟩ w.heap) (S : Sl → Heap → Prop) (H : ref01uSub x0 y m S) :
    Calls Tryd.prog 28 #[Sl.toV x0, Sl.toV y] w (Post ⟨w, m⟩ Sl.toV S) := by
  refine Calls.lift (args := [Sl.toV x0, Sl.toV y]) Tryd.func28 rfl Tryd.ntmps28 (Nat.le_of_ble_eq_true rfl) hr (ref01uSub x0 y m S) H (fun H => ?_)
  refine AtC.pick (ts := [0, 1]) rfl ?_
  unfold ref01uSub at H
  refine AtC.seqR ?_
  refine AtL.pures hT 1 _ _ _ _ rfl ?_
  refine AtL.nil ?_
  refine AtE.then_n (AtE.go ?_)
  refine AtC.seq ?_
  refine AtC.seqR ?_
  refine AtL.pures hT 2 _ _ _ _ rfl ?_
  refine AtL.e rfl (EffX.call (f := 33) (sh := fun h => ref01uCmp _ _ h _) (H0 := H) rfl Tryd.call33 rfl (hl := fun w m hr hw => lift_ref01uCmp _ _ w m hr _ hw)) ?_
  rintro _ _ ⟨v, h0, rfl, rfl, H⟩
  refine AtL.pures hT 1 _ _ _ _ rfl ?_
  refine AtL.nil ?_
  refine AtE.then_n (AtE.go ?_)
  refine AtC.condB H rfl (fun H => ?_) (fun H => ?_)
  ·
   refine AtC.seqR ?_
   refine AtLX.bs (hT := hT) (cs := []) H rfl rfl rfl rfl rfl rfl rfl rfl rfl (fun a h0u1 H => ?_)
   refine AtL.pures hT 1 _ _ _ _ rfl ?_
   refine AtL.nil ?_
   refine AtE.then_n (AtE.go ?_)
   refine AtC.ret ?_
   refine AtE.then_r ?_
   exact AtE.retN (rs := [.tmp 4]) rfl (ResAll.cons (ResAt.tmp rfl) ResAll.nil) rfl H
  ·
   refine AtC.skip ?_
   refine AtE.then_n (AtE.go ?_)
   refine AtC.seqR ?_
   refine AtLX.bs (hT := hT) (cs := []) H rfl rfl rfl rfl rfl rfl rfl rfl rfl (fun a_1 h0u2 H => ?_)
   refine AtL.pures hT 1 _ _ _ _ rfl ?_
   replace H := H _ rfl
   refine AtL.nil ?_
   refine AtE.then_n (AtE.go ?_)
   refine AtC.seqR ?_
   refine AtL.pures hT 1 _ _ _ _ rfl ?_
   refine AtL.nil ?_
   refine AtE.then_n (AtE.go ?_)
   refine AtC.seq ?_
   refine AtC.seqR ?_
   refine AtL.pures hT 1 _ _ _ _ rfl ?_
   refine AtL.nil ?_
   refine AtE.then_n (AtE.go ?_)
   refine AtC.block ?_
   refine AtC.loopM (fun (s0 : Sl × Int × Int) => [(5, Sl.toV s0.1), (6, Value.int .i64 s0.2.1), (7, Value.int .i64 s0.2.2)]) (fun (s0 : Sl × Int × Int) => []) [0, 1] [5, 6, 7, 0, 1] [] [] H (by exact rfl) (by exact rfl) (by exact rfl) (by decide) (by exact rfl) (fun Kp1 s0 h0u3 H Q1 HK1 => ?_)
   refine AtC.seq ?_
   refine AtC.seqR ?_
   refine AtL.pures hT 4 _ _ _ _ rfl ?_
   refine AtL.nil ?_
   refine AtE.then_n (AtE.go ?_)
   refine AtC.condB H rfl (fun H => ?_) (fun H => ?_)
   ·
    refine AtC.skip ?_
    refine AtE.then_n (AtE.go ?_)
    refine AtC.seq ?_
    refine AtC.block ?_
    refine AtC.seqR ?_
    refine AtL.pures hT 2 _ _ _ _ rfl ?_
    obtain ⟨a_2_, hc1, hd1, H⟩ := H
    refine AtL.q rfl (Quiet1.idxS (s := _) hT rfl rfl rfl rfl rfl hc1 hd1) ?_
    obtain ⟨v_3, hc2, H⟩ := H
    refine AtL.q rfl (Quiet1.load hT rfl rfl rfl hc2) ?_
    refine AtL.pures hT 3 _ _ _ _ rfl ?_
    replace H := H _ rfl
    refine AtL.nil ?_
    refine AtE.then_n (AtE.go ?_)
    refine AtC.joinSeq (β := Unit) (fun (t0 : Int) (bb : Unit) => [(8, Value.int .i64 t0)]) (fun (t0 : Int) (bb : Unit) => []) [0, 1, 5, 7] [] H (by exact rfl) (by exact rfl) (fun t0 bb h0u4 H => ?_) (fun J4 H HK4 => ?_)
    ·
     refine AtC.seqR ?_
     refine AtL.pures hT 1 _ _ _ _ rfl ?_
     refine AtL.nil ?_
     refine AtE.then_n (AtE.go ?_)
     refine AtC.joinSeq (β := Unit) (fun (t0u1 : Int × Int) (bb_1 : Unit) => [(6, Value.int .i64 t0u1.1), (8, Value.int .i64 t0u1.2)]) (fun (t0u1 : Int × Int) (bb_1 : Unit) => []) [0, 1, 5, 7] [] H (by exact rfl) (by exact rfl) (fun t0u1 bb_1 h0u5 H => ?_) (fun J7 H HK7 => ?_)
     ·
      refine AtC.region ?_
      refine AtL.pures hT 2 _ _ _ _ rfl ?_
      refine AtLX.bs (hT := hT) (cs := [_]) H rfl rfl rfl rfl rfl rfl rfl rfl rfl (fun a_4 h0u6 H => ?_)
      refine AtL.e rfl (EffX.appendS (s := _) (u := _) hT rfl rfl rfl rfl rfl rfl rfl rfl rfl rfl (by decide) H) ?_
      rintro _ _ ⟨v_6, h0u7, rfl, rfl, H⟩
      refine AtL.pures hT 1 _ _ _ _ rfl ?_
      refine AtL.nil ?_
      refine AtE.blk_n ?_
      refine AtE.then_n (AtE.go ?_)
      refine AtC.region ?_
      refine AtL.pures hT 3 _ _ _ _ rfl ?_
      replace H := H _ rfl
      refine AtL.nil ?_
      exact AtE.then_n ((HK1 _ _ H).pickP (ts := [5, 6, 7, 0, 1]) (is := []) rfl rfl (by decide) rfl)
     ·
      refine AtC.seqR ?_
      refine AtL.pures hT 2 _ _ _ _ rfl ?_
      refine AtL.nil ?_
      refine AtE.then_n (AtE.go ?_)
      refine AtC.condB H rfl (fun H => ?_) (fun H => ?_)
      ·
       refine AtC.seqR ?_
       refine AtL.pures hT 3 _ _ _ _ rfl ?_
       replace H := H _ rfl
       refine AtL.nil ?_
       refine AtE.then_n (AtE.go ?_)
       refine AtC.region ?_
       refine AtL.pures hT 1 _ _ _ _ rfl ?_
       refine AtL.nil ?_
       exact AtE.then_n ((HK7 _ () _ H).pickP (ts := [6, 8, 0, 1, 5, 7]) (is := []) rfl rfl (by decide) rfl)
      ·
       refine AtC.skip ?_
       exact AtE.then_n ((HK7 _ () _ H).pickP (ts := [6, 8, 0, 1, 5, 7]) (is := []) rfl rfl (by decide) rfl)
    ·
     refine AtC.seqR ?_
     refine AtL.pures hT 4 _ _ _ _ rfl ?_
     refine AtL.nil ?_
     refine AtE.then_n (AtE.go ?_)
     refine AtC.condB H rfl (fun H => ?_) (fun H => ?_)
     ·
      refine AtC.region ?_
      refine AtL.pures hT 3 _ _ _ _ rfl ?_
      obtain ⟨a_3_, hc4, hd4, H⟩ := H
      refine AtL.q rfl (Quiet1.idxS (s := _) hT rfl rfl rfl rfl rfl hc4 hd4) ?_
      obtain ⟨v_4, hc5, H⟩ := H
      refine AtL.q rfl (Quiet1.load hT rfl rfl rfl hc5) ?_
      refine AtL.pures hT 2 _ _ _ _ rfl ?_
      replace H := H _ rfl
      refine AtL.nil ?_
      exact AtE.then_n ((HK4 _ () _ H).pickP (ts := [8, 0, 1, 5, 7]) (is := []) rfl rfl (by decide) rfl)
     ·
      refine AtC.skip ?_
      exact AtE.then_n ((HK4 _ () _ H).pickP (ts := [8, 0, 1, 5, 7]) (is := []) rfl rfl (by decide) rfl)
   ·
    refine AtC.exit ?_
    refine AtE.then_x ?_
    refine AtE.then_x ?_
    refine AtE.blk_hit ?_
    refine AtE.then_n (AtE.go ?_)
    refine AtC.seqR ?_
    refine AtL.pures hT 1 _ _ _ _ rfl ?_
    refine AtL.e rfl (EffX.call (f := 91) (sh := fun h => ref01uCut _ h _) (H0 := H) rfl Tryd.call91 rfl (hl := fun w m hr hw => lift_ref01uCut _ w m hr _ hw)) ?_
    rintro _ _ ⟨v_7, h0u8, rfl, rfl, H⟩
    refine AtL.pures hT 1 _ _ _ _ rfl ?_
    refine AtL.nil ?_
    refine AtE.then_n (AtE.go ?_)
    refine AtC.ret ?_
    exact AtE.retN (rs := [.tmp 4]) rfl (ResAll.cons (ResAt.tmp rfl) ResAll.nil) rfl H

theorem lift_ref01uDiv (x0 : Sl) (y : Sl) (w : World) (m : Heap) (hr : Rel ⟨m, []⟩ w.heap) (S : (Sl × Sl) → Heap → Prop) (H : ref01uDiv x0 y m S) :
    Calls Tryd.prog 31 #[Sl.toV x0, Sl.toV y] w (Post ⟨w, m⟩ (fun r => Value.tuple #[Sl.toV r.1, Sl.toV r.2]) S) := by
  refine Calls.lift (args := [Sl.toV x0, Sl.toV y]) Tryd.func31 rfl Tryd.ntmps31 (Nat.le_of_ble_eq_true rfl) hr (ref01uDiv x0 y m S) H (fun H => ?_)
  refine AtC.pick (ts := [0, 1]) rfl ?_
  unfold ref01uDiv at H
  refine AtC.seqR ?_
  refine AtL.pures hT 2 _ _ _ _ rfl ?_
  refine AtL.nil ?_
  refine AtE.then_n (AtE.go ?_)
  refine AtC.seq ?_
  refine AtC.seqR ?_
  refine AtL.pures hT 3 _ _ _ _ rfl ?_
  refine AtL.nil ?_
  refine AtE.then_n (AtE.go ?_)
  refine AtC.condB H rfl (fun H => ?_) (fun H => ?_)
  ·
   refine AtC.seqR ?_
   refine AtLX.bs (hT := hT) (cs := []) H rfl rfl rfl rfl rfl rfl rfl rfl rfl (fun a h0 H => ?_)
   refine AtLX.bs (hT := hT) (cs := []) H rfl rfl rfl rfl rfl rfl rfl rfl rfl (fun a_1 h0u1 H => ?_)
   refine AtL.pures hT 2 _ _ _ _ rfl ?_
   refine AtL.nil ?_
   refine AtE.then_n (AtE.go ?_)
   refine AtC.ret ?_
   refine AtE.then_r ?_
   exact AtE.retN (rs := [.tmp 4, .tmp 5]) rfl (ResAll.cons (ResAt.tmp rfl) (ResAll.cons (ResAt.tmp rfl) ResAll.nil)) rfl H
  ·
   refine AtC.skip ?_
   refine AtE.then_n (AtE.go ?_)
   refine AtC.seqR ?_
   refine AtL.pures hT 2 _ _ _ _ rfl ?_
   replace H := H _ rfl
   refine AtL.e rfl (EffX.mkS hT rfl rfl rfl rfl rfl rfl rfl rfl (by decide) H) ?_
   rintro _ _ ⟨v_2, h0u2, rfl, rfl, H⟩
   refine AtL.pures hT 1 _ _ _ _ rfl ?_
   refine AtL.nil ?_
   refine AtE.then_n (AtE.go ?_)
   refine AtC.seqR ?_
   refine AtLX.bs (hT := hT) (cs := []) H rfl rfl rfl rfl rfl rfl rfl rfl rfl (fun a_2 h0u3 H => ?_)
   refine AtL.pures hT 1 _ _ _ _ rfl ?_
   replace H := H _ rfl
   refine AtL.nil ?_
   refine AtE.then_n (AtE.go ?_)
   refine AtC.seq ?_
   refine AtC.seqR ?_
   refine AtL.pures hT 4 _ _ _ _ rfl ?_
   replace H := H _ rfl
   refine AtL.nil ?_
   refine AtE.then_n (AtE.go ?_)
   refine AtC.block ?_
   refine AtC.loopM (fun (s0 : Sl × Int) => [(7, Sl.toV s0.1), (8, Value.int .i64 s0.2)]) (fun (s0 : Sl × Int) => []) [0, 1, 6] [7, 8, 0, 1, 6] [] [] H (by exact rfl) (by exact rfl) (by exact rfl) (by decide) (by exact rfl) (fun Kp1 s0 h0u4 H Q1 HK1 => ?_)
   refine AtC.seq ?_
   refine AtC.seqR ?_
   refine AtL.pures hT 2 _ _ _ _ rfl ?_
   refine AtL.nil ?_
   refine AtE.then_n (AtE.go ?_)
   refine AtC.condB H rfl (fun H => ?_) (fun H => ?_)
   ·
    refine AtC.skip ?_
    refine AtE.then_n (AtE.go ?_)
    refine AtC.seq ?_
    refine AtC.block ?_
    refine AtC.seqR ?_
    refine AtL.pures hT 2 _ _ _ _ rfl ?_
    obtain ⟨a_3_, hc1, hd1, H⟩ := H
    refine AtL.q rfl (Quiet1.idxS (s := _) hT rfl rfl rfl rfl rfl hc1 hd1) ?_
    obtain ⟨v_4, hc2, H⟩ := H
    refine AtL.q rfl (Quiet1.load hT rfl rfl rfl hc2) ?_
    refine AtLX.bs (hT := hT) (cs := [_]) H rfl rfl rfl rfl rfl rfl rfl rfl rfl (fun a_4 h0u5 H => ?_)
    refine AtL.pures hT 1 _ _ _ _ rfl ?_
    refine AtL.e rfl (EffX.appendS (s := _) (u := _) hT rfl rfl rfl rfl rfl rfl rfl rfl rfl rfl (by decide) H) ?_
    rintro _ _ ⟨v_6, h0u6, rfl, rfl, H⟩
    refine AtL.e rfl (EffX.call (f := 91) (sh := fun h => ref01uCut _ h _) (H0 := H) rfl Tryd.call91 rfl (hl := fun w m hr hw => lift_ref01uCut _ w m hr _ hw)) ?_
    rintro _ _ ⟨v_7, h0u7, rfl, rfl, H⟩
    refine AtL.pures hT 1 _ _ _ _ rfl ?_
    refine AtL.nil ?_
    refine AtE.then_n (AtE.go ?_)
    refine AtC.block ?_
    refine AtC.loopM (fun (s0u1 : Sl) => [(7, Sl.toV s0u1)]) (fun (s0u1 : Sl) => []) [0, 1, 6, 8] [7, 0, 1, 6, 8] [] [] H (by exact rfl) (by exact rfl) (by exact rfl) (by decide) (by exact rfl) (fun Kp4 s0u1 h0u8 H Q4 HK4 => ?_)
    refine AtC.seq ?_
    refine AtC.seqR ?_
    refine AtL.pures hT 2 _ _ _ _ rfl ?_
    refine AtL.e rfl (EffX.call (f := 33) (sh := fun h => ref01uCmp _ _ h _) (H0 := H) rfl Tryd.call33 rfl (hl := fun w m hr hw => lift_ref01uCmp _ _ w m hr _ hw)) ?_
    rintro _ _ ⟨v_8, h0u9, rfl, rfl, H⟩
    refine AtL.pures hT 1 _ _ _ _ rfl ?_
    refine AtL.nil ?_
    refine AtE.then_n (AtE.go ?_)
    refine AtC.condB H rfl (fun H => ?_) (fun H => ?_)
    ·
     refine AtC.skip ?_
     refine AtE.then_n (AtE.go ?_)
     refine AtC.block ?_
     refine AtC.seqR ?_
     refine AtL.pures hT 2 _ _ _ _ rfl ?_
     refine AtL.e rfl (EffX.call (f := 28) (sh := fun h => ref01uSub _ _ h _) (H0 := H) rfl Tryd.call28 rfl (hl := fun w m hr hw => lift_ref01uSub _ _ w m hr _ hw)) ?_
     rintro _ _ ⟨v_9, h0u10, rfl, rfl, H⟩
     refine AtL.pures hT 1 _ _ _ _ rfl ?_
     refine AtL.nil ?_
     refine AtE.then_n (AtE.go ?_)
     refine AtC.region ?_
     refine AtL.pures hT 2 _ _ _ _ rfl ?_
     obtain ⟨a_5_, hc4, hd4, H⟩ := H
     refine AtL.q rfl (Quiet1.idxS (s := _) hT rfl rfl rfl rfl rfl hc4 hd4) ?_
     obtain ⟨v_10, hc5, H⟩ := H
     refine AtL.q rfl (Quiet1.load hT rfl rfl rfl hc5) ?_
     refine AtL.pures hT 1 _ _ _ _ rfl ?_
     obtain ⟨a_6_, hc6, hd6, H⟩ := H
     refine AtL.q rfl (Quiet1.idxS (s := _) hT rfl rfl rfl rfl rfl hc6 hd6) ?_
     refine AtL.e rfl (EffX.store hT rfl rfl rfl rfl rfl H) ?_
     rintro _ _ ⟨h0u11, rfl, H⟩
     refine AtL.nil ?_
     refine AtE.blk_n ?_
     exact AtE.then_n ((HK4 _ _ H).pickP (ts := [7, 0, 1, 6, 8]) (is := []) rfl rfl (by decide) rfl)
    ·
     refine AtC.exit ?_
     refine AtE.then_x ?_
     refine AtE.then_x ?_
     refine AtE.blk_hit ?_
     refine AtE.blk_n ?_
     refine AtE.then_n (AtE.go ?_)
     refine AtC.region ?_
     refine AtL.pures hT 3 _ _ _ _ rfl ?_
     replace H := H _ rfl
     refine AtL.nil ?_
     exact AtE.then_n ((HK1 _ _ H).pickP (ts := [7, 8, 0, 1, 6]) (is := []) rfl rfl (by decide) rfl)
   ·
    refine AtC.exit ?_
    refine AtE.then_x ?_
    refine AtE.then_x ?_
    refine AtE.blk_hit ?_
    refine AtE.then_n (AtE.go ?_)
    refine AtC.seqR ?_
    refine AtL.pures hT 1 _ _ _ _ rfl ?_
    refine AtL.e rfl (EffX.call (f := 91) (sh := fun h => ref01uCut _ h _) (H0 := H) rfl Tryd.call91 rfl (hl := fun w m hr hw => lift_ref01uCut _ w m hr _ hw)) ?_
    rintro _ _ ⟨v_11, h0u12, rfl, rfl, H⟩
    refine AtL.pures hT 3 _ _ _ _ rfl ?_
    refine AtL.nil ?_
    refine AtE.then_n (AtE.go ?_)
    refine AtC.ret ?_
    exact AtE.retN (rs := [.tmp 4, .tmp 5]) rfl (ResAll.cons (ResAt.tmp rfl) (ResAll.cons (ResAt.tmp rfl) ResAll.nil)) rfl H

theorem lift_ref01uGcd (x0 : Sl) (y : Sl) (w : World) (m : Heap) (hr : Rel ⟨m, []⟩ w.heap) (S : Sl → Heap → Prop) (H : ref01uGcd x0 y m S) :
    Calls Tryd.prog 30 #[Sl.toV x0, Sl.toV y] w (Post ⟨w, m⟩ Sl.toV S) := by
  refine Calls.lift (args := [Sl.toV x0, Sl.toV y]) Tryd.func30 rfl Tryd.ntmps30 (Nat.le_of_ble_eq_true rfl) hr (ref01uGcd x0 y m S) H (fun H => ?_)
  refine AtC.pick (ts := [0, 1]) rfl ?_
  unfold ref01uGcd at H
  refine AtC.seqR ?_
  refine AtL.pures hT 1 _ _ _ _ rfl ?_
  refine AtL.nil ?_
  refine AtE.then_n (AtE.go ?_)
  refine AtC.seq ?_
  refine AtC.block ?_
  refine AtC.loopM (fun (s0 : Sl × Sl) => [(0, Sl.toV s0.1), (1, Sl.toV s0.2)]) (fun (s0 : Sl × Sl) => []) [] [0, 1] [] [] H (by exact rfl) (by exact rfl) (by exact rfl) (by decide) (by exact rfl) (fun Kp1 s0 h0 H Q1 HK1 => ?_)
  refine AtC.seq ?_
  refine AtC.seqR ?_
  refine AtL.pures hT 3 _ _ _ _ rfl ?_
  refine AtL.nil ?_
  refine AtE.then_n (AtE.go ?_)
  refine AtC.condB H rfl (fun H => ?_) (fun H => ?_)
  ·
   refine AtC.skip ?_
   refine AtE.then_n (AtE.go ?_)
   refine AtC.block ?_
   refine AtC.seqR ?_
   refine AtL.pures hT 2 _ _ _ _ rfl ?_
   refine AtL.e rfl (EffX.call (f := 31) (sh := fun h => ref01uDiv _ _ h _) (H0 := H) rfl Tryd.call31 rfl (hl := fun w m hr hw => lift_ref01uDiv _ _ w m hr _ hw)) ?_
   rintro _ _ ⟨v, h0u1, rfl, rfl, H⟩
   refine AtL.pures hT 5 _ _ _ _ rfl ?_
   refine AtL.nil ?_
   refine AtE.then_n (AtE.go ?_)
   refine AtC.region ?_
   refine AtL.pures hT 4 _ _ _ _ rfl ?_
   refine AtL.nil ?_
   refine AtE.blk_n ?_
   exact AtE.then_n ((HK1 _ _ H).pickP (ts := [0, 1]) (is := []) rfl rfl (by decide) rfl)
  ·
   refine AtC.exit ?_
   refine AtE.then_x ?_
   refine AtE.then_x ?_
   refine AtE.blk_hit ?_
   refine AtE.then_n (AtE.go ?_)
   refine AtC.seqR ?_
   refine AtL.pures hT 2 _ _ _ _ rfl ?_
   refine AtL.nil ?_
   refine AtE.then_n (AtE.go ?_)
   refine AtC.ret ?_
   exact AtE.retN (rs := [.tmp 4]) rfl (ResAll.cons (ResAt.tmp rfl) ResAll.nil) rfl H

theorem lift_ref02uLow (r : Bool × Sl × Sl) (w : World) (m : Heap) (hr : Rel ⟨m, []⟩ w.heap) (S : (Bool × Sl × Sl) → Heap → Prop) (H : ref02uLow r m S) :
    Calls Tryd.prog 79 #[Value.agg (C_bool_sl_sl r).toArray] w (Post ⟨w, m⟩ (fun r => Value.agg (C_bool_sl_sl r).toArray) S) := by
  refine Calls.lift (args := [Value.agg (C_bool_sl_sl r).toArray]) Tryd.func79 rfl Tryd.ntmps79 (Nat.le_of_ble_eq_true rfl) hr (ref02uLow r m S) H (fun H => ?_)
  refine AtC.pick (ts := [0]) rfl ?_
  unfold ref02uLow at H
  refine AtC.seqR ?_
  refine AtL.e rfl (EffX.boxP (cs := [_, _, _]) rfl rfl rfl H) ?_
  rintro _ _ ⟨b, _, rfl, rfl, _, H⟩
  refine AtL.e rfl (EffX.allocP (cs := [_, _, _]) hT rfl rfl H) ?_
  rintro _ _ ⟨b_1, _, rfl, rfl, _, H⟩
  refine AtL.nil ?_
  replace H := H.self
  refine AtE.then_n (AtE.go ?_)
  refine AtC.seq ?_
  refine AtC.seqR ?_
  refine AtL.pures hT 1 _ _ _ _ rfl ?_
  refine AtL.q rfl (Quiet1.loadP (i := 1) hT rfl rfl rfl rfl rfl rfl) ?_
  refine AtL.pures hT 2 _ _ _ _ rfl ?_
  refine AtL.nil ?_
  refine AtE.then_n (AtE.go ?_)
  refine AtC.condB H rfl (fun H => ?_) (fun H => ?_)
  ·
   refine AtC.seqR ?_
   refine AtL.e rfl (EffX.call (f := 75) (sh := fun h => ref02uInt _ h _) (H0 := H) rfl Tryd.call75 rfl (hl := fun w m hr hw => lift_ref02uInt _ w m hr _ hw)) ?_
   rintro _ _ ⟨v, h0u1, rfl, rfl, H⟩
   refine AtL.e rfl (EffX.storeSP (i := 0) (qv := [(_, [_, _, _]), (_, [_, _, _])]) hT rfl rfl rfl rfl rfl rfl rfl rfl rfl rfl) ?_
   rintro _ _ rfl
   refine AtL.nil ?_
   refine AtE.then_n (AtE.go ?_)
   refine AtC.ret ?_
   refine AtE.then_r ?_
   exact AtE.retN (rs := [.cell 2 59]) rfl (ResAll.cons (ResAt.cellSP (i := 0) (l := [_, _, _]) hT rfl rfl rfl rfl rfl rfl rfl) ResAll.nil) rfl H
  ·
   refine AtC.skip ?_
   refine AtE.then_n (AtE.go ?_)
   refine AtC.seqR ?_
   refine AtL.pures hT 1 _ _ _ _ rfl ?_
   refine AtL.q rfl (Quiet1.loadP (i := 1) hT rfl rfl rfl rfl rfl rfl) ?_
   refine AtL.pures hT 1 _ _ _ _ rfl ?_
   refine AtL.q rfl (Quiet1.loadP (i := 1) hT rfl rfl rfl rfl rfl rfl) ?_
   refine AtL.e rfl (EffX.call (f := 30) (sh := fun h => ref01uGcd _ _ h _) (H0 := H) rfl Tryd.call30 rfl (hl := fun w m hr hw => lift_ref01uGcd _ _ w m hr _ hw)) ?_
   rintro _ _ ⟨v_1, h0u2, rfl, rfl, H⟩
   refine AtL.pures hT 1 _ _ _ _ rfl ?_
   refine AtL.nil ?_
   refine AtE.then_n (AtE.go ?_)
   refine AtC.seqR ?_
   refine AtL.pures hT 1 _ _ _ _ rfl ?_
   refine AtL.q rfl (Quiet1.loadP (i := 1) hT rfl rfl rfl rfl rfl rfl) ?_
   refine AtL.pures hT 1 _ _ _ _ rfl ?_
   refine AtL.e rfl (EffX.call (f := 31) (sh := fun h => ref01uDiv _ _ h _) (H0 := H) rfl Tryd.call31 rfl (hl := fun w m hr hw => lift_ref01uDiv _ _ w m hr _ hw)) ?_
   rintro _ _ ⟨v_2, h0u3, rfl, rfl, H⟩
   refine AtL.pures hT 5 _ _ _ _ rfl ?_
   refine AtL.nil ?_
   refine AtE.then_n (AtE.go ?_)
   refine AtC.seqR ?_
   refine AtL.pures hT 1 _ _ _ _ rfl ?_
   refine AtL.q rfl (Quiet1.loadP (i := 1) hT rfl rfl rfl rfl rfl rfl) ?_
   refine AtL.pures hT 1 _ _ _ _ rfl ?_
   refine AtL.e rfl (EffX.call (f := 31) (sh := fun h => ref01uDiv _ _ h _) (H0 := H) rfl Tryd.call31 rfl (hl := fun w m hr hw => lift_ref01uDiv _ _ w m hr _ hw)) ?_
   rintro _ _ ⟨v_3, h0u4, rfl, rfl, H⟩
   refine AtL.pures hT 5 _ _ _ _ rfl ?_
   refine AtL.nil ?_
   refine AtE.then_n (AtE.go ?_)
   refine AtC.seqR ?_
   refine AtL.pures hT 1 _ _ _ _ rfl ?_
   refine AtL.q rfl (Quiet1.loadP (i := 1) hT rfl rfl rfl rfl rfl rfl) ?_
   refine AtL.pures hT 2 _ _ _ _ rfl ?_
   refine AtL.q rfl (Quiet1.build (cs := [_, _, _]) hT rfl rfl rfl rfl rfl rfl) ?_
   refine AtL.e rfl (EffX.storeSP (i := 0) (qv := [(_, [_, _, _]), (_, [_, _, _])]) hT rfl rfl rfl rfl rfl rfl rfl rfl rfl rfl) ?_
   rintro _ _ rfl
   refine AtL.nil ?_
   refine AtE.then_n (AtE.go ?_)
   refine AtC.ret ?_
   exact AtE.retN (rs := [.cell 2 59]) rfl (ResAll.cons (ResAt.cellSP (i := 0) (l := [_, _, _]) hT rfl rfl rfl rfl rfl rfl rfl) ResAll.nil) rfl H

theorem lift_ref01uLimbs (x0 : Sl) (w : World) (m : Heap) (hr : Rel ⟨m, []⟩ w.heap) (S : Sl → Heap → Prop) (H : ref01uLimbs x0 m S) :
    Calls Tryd.prog 32 #[Sl.toV x0] w (Post ⟨w, m⟩ Sl.toV S) := by
  refine Calls.lift (args := [Sl.toV x0]) Tryd.func32 rfl Tryd.ntmps32 (Nat.le_of_ble_eq_true rfl) hr (ref01uLimbs x0 m S) H (fun H => ?_)
  refine AtC.pick (ts := [0]) rfl ?_
  unfold ref01uLimbs at H
  refine AtC.seqR ?_
  refine AtL.pures hT 1 _ _ _ _ rfl ?_
  refine AtL.nil ?_
  refine AtE.then_n (AtE.go ?_)
  refine AtC.seqR ?_
  refine AtLX.bs (hT := hT) (cs := []) H rfl rfl rfl rfl rfl rfl rfl rfl rfl (fun a h0 H => ?_)
  refine AtL.pures hT 1 _ _ _ _ rfl ?_
  replace H := H _ rfl
  refine AtL.nil ?_
  refine AtE.then_n (AtE.go ?_)
  refine AtC.seq ?_
  refine AtC.seqR ?_
  refine AtL.pures hT 4 _ _ _ _ rfl ?_
  replace H := H _ rfl
  refine AtL.nil ?_
  refine AtE.then_n (AtE.go ?_)
  refine AtC.block ?_
  refine AtC.loopM (fun (s0 : Sl × Int) => [(3, Sl.toV s0.1), (4, Value.int .i64 s0.2)]) (fun (s0 : Sl × Int) => []) [0] [3, 4, 0] [] [] H (by exact rfl) (by exact rfl) (by exact rfl) (by decide) (by exact rfl) (fun Kp1 s0 h0u1 H Q1 HK1 => ?_)
  refine AtC.seq ?_
  refine AtC.seqR ?_
  refine AtL.pures hT 2 _ _ _ _ rfl ?_
  refine AtL.nil ?_
  refine AtE.then_n (AtE.go ?_)
  refine AtC.condB H rfl (fun H => ?_) (fun H => ?_)
  ·
   refine AtC.skip ?_
   refine AtE.then_n (AtE.go ?_)
   refine AtC.joinSeq (β := Unit) (fun (t0 : Sl) (bb : Unit) => [(3, Sl.toV t0)]) (fun (t0 : Sl) (bb : Unit) => []) [0, 4] [] H (by exact rfl) (by exact rfl) (fun t0 bb h0u2 H => ?_) (fun J2 H HK2 => ?_)
   ·
    refine AtC.region ?_
    refine AtL.pures hT 3 _ _ _ _ rfl ?_
    replace H := H _ rfl
    refine AtL.nil ?_
    exact AtE.then_n ((HK1 _ _ H).pickP (ts := [3, 4, 0]) (is := []) rfl rfl (by decide) rfl)
   ·
    refine AtC.block ?_
    refine AtC.seqR ?_
    refine AtL.pures hT 2 _ _ _ _ rfl ?_
    obtain ⟨a_1_, hc2, hd2, H⟩ := H
    refine AtL.q rfl (Quiet1.idxS (s := _) hT rfl rfl rfl rfl rfl hc2 hd2) ?_
    obtain ⟨v_1, hc3, H⟩ := H
    refine AtL.q rfl (Quiet1.load hT rfl rfl rfl hc3) ?_
    refine AtL.pures hT 2 _ _ _ _ rfl ?_
    replace H := H _ rfl
    refine AtL.nil ?_
    refine AtE.then_n (AtE.go ?_)
    refine AtC.seq ?_
    refine AtC.seqR ?_
    refine AtL.pures hT 1 _ _ _ _ rfl ?_
    refine AtL.nil ?_
    refine AtE.then_n (AtE.go ?_)
    refine AtC.block ?_
    refine AtC.loopM (fun (s0u1 : Int × Int) => [(5, Value.int .u64 s0u1.1), (6, Value.int .i64 s0u1.2)]) (fun (s0u1 : Int × Int) => []) [0, 3, 4] [5, 6, 0, 3, 4] [] [] H (by exact rfl) (by exact rfl) (by exact rfl) (by decide) (by exact rfl) (fun Kp5 s0u1 h0u3 H Q5 HK5 => ?_)
    refine AtC.seq ?_
    refine AtC.seqR ?_
    refine AtL.pures hT 4 _ _ _ _ rfl ?_
    refine AtL.nil ?_
    refine AtE.then_n (AtE.go ?_)
    refine AtC.condB H rfl (fun H => ?_) (fun H => ?_)
    ·
     refine AtC.skip ?_
     refine AtE.then_n (AtE.go ?_)
     refine AtC.seq ?_
     refine AtC.block ?_
     refine AtC.seqR ?_
     refine AtL.pures hT 2 _ _ _ _ rfl ?_
     obtain ⟨a_2_, hc5, hd5, H⟩ := H
     refine AtL.q rfl (Quiet1.idxS (s := _) hT rfl rfl rfl rfl rfl hc5 hd5) ?_
     obtain ⟨v_2, hc6, H⟩ := H
     refine AtL.q rfl (Quiet1.load hT rfl rfl rfl hc6) ?_
     refine AtL.pures hT 5 _ _ _ _ rfl ?_
     replace H := H _ rfl
     refine AtL.nil ?_
     refine AtE.then_n (AtE.go ?_)
     refine AtC.seqR ?_
     refine AtL.pures hT 5 _ _ _ _ rfl ?_
     obtain ⟨a_3_, hc7, hd7, H⟩ := H
     refine AtL.q rfl (Quiet1.idxS (s := _) hT rfl rfl rfl rfl rfl hc7 hd7) ?_
     refine AtL.e rfl (EffX.store hT rfl rfl rfl rfl rfl H) ?_
     rintro _ _ ⟨h0u4, rfl, H⟩
     refine AtL.nil ?_
     refine AtE.then_n (AtE.go ?_)
     refine AtC.region ?_
     refine AtL.pures hT 3 _ _ _ _ rfl ?_
     replace H := H _ rfl
     refine AtL.nil ?_
     refine AtE.blk_n ?_
     refine AtE.then_n (AtE.go ?_)
     refine AtC.region ?_
     refine AtL.pures hT 3 _ _ _ _ rfl ?_
     replace H := H _ rfl
     refine AtL.nil ?_
     exact AtE.then_n ((HK5 _ _ H).pickP (ts := [5, 6, 0, 3, 4]) (is := []) rfl rfl (by decide) rfl)
    ·
     refine AtC.exit ?_
     refine AtE.then_x ?_
     refine AtE.then_x ?_
     refine AtE.blk_hit ?_
     refine AtE.then_n (AtE.go ?_)
     refine AtC.seqR ?_
     refine AtL.pures hT 2 _ _ _ _ rfl ?_
     refine AtL.nil ?_
     refine AtE.then_n (AtE.go ?_)
     refine AtC.condB H rfl (fun H => ?_) (fun H => ?_)
     ·
      refine AtC.region ?_
      refine AtL.pures hT 3 _ _ _ _ rfl ?_
      refine AtLX.bs (hT := hT) (cs := [_]) H rfl rfl rfl rfl rfl rfl rfl rfl rfl (fun a_4 h0u5 H => ?_)
      refine AtL.e rfl (EffX.appendS (s := _) (u := _) hT rfl rfl rfl rfl rfl rfl rfl rfl rfl rfl (by decide) H) ?_
      rintro _ _ ⟨v_4, h0u6, rfl, rfl, H⟩
      refine AtL.pures hT 1 _ _ _ _ rfl ?_
      refine AtL.nil ?_
      refine AtE.blk_n ?_
      exact AtE.then_n ((HK2 _ () _ H).pickP (ts := [3, 0, 4]) (is := []) rfl rfl (by decide) rfl)
     ·
      refine AtC.skip ?_
      refine AtE.blk_n ?_
      exact AtE.then_n ((HK2 _ () _ H).pickP (ts := [3, 0, 4]) (is := []) rfl rfl (by decide) rfl)
  ·
   refine AtC.exit ?_
   refine AtE.then_x ?_
   refine AtE.then_x ?_
   refine AtE.blk_hit ?_
   refine AtE.then_n (AtE.go ?_)
   refine AtC.seqR ?_
   refine AtL.pures hT 2 _ _ _ _ rfl ?_
   refine AtL.nil ?_
   refine AtE.then_n (AtE.go ?_)
   refine AtC.ret ?_
   exact AtE.retN (rs := [.tmp 2]) rfl (ResAll.cons (ResAt.tmp rfl) ResAll.nil) rfl H

theorem lift_ref02uForm (r : Bool × Sl × Sl) (w : World) (m : Heap) (hr : Rel ⟨m, []⟩ w.heap) (S : (Bool × Sl × Sl) → Heap → Prop) (H : ref02uForm r m S) :
    Calls Tryd.prog 61 #[Value.agg (C_bool_sl_sl r).toArray] w (Post ⟨w, m⟩ (fun r => Value.agg (C_bool_sl_sl r).toArray) S) := by
  refine Calls.lift (args := [Value.agg (C_bool_sl_sl r).toArray]) Tryd.func61 rfl Tryd.ntmps61 (Nat.le_of_ble_eq_true rfl) hr (ref02uForm r m S) H (fun H => ?_)
  refine AtC.pick (ts := [0]) rfl ?_
  unfold ref02uForm at H
  refine AtC.seqR ?_
  refine AtL.e rfl (EffX.boxP (cs := [_, _, _]) rfl rfl rfl H) ?_
  rintro _ _ ⟨b, _, rfl, rfl, _, H⟩
  refine AtL.e rfl (EffX.allocP (cs := [_, _, _]) hT rfl rfl H) ?_
  rintro _ _ ⟨b_1, _, rfl, rfl, _, H⟩
  refine AtL.nil ?_
  replace H := H.self
  refine AtE.then_n (AtE.go ?_)
  refine AtC.seqR ?_
  refine AtL.q rfl (Quiet1.loadSP (i := 1) (l := [_, _, _]) hT rfl rfl rfl rfl rfl rfl rfl rfl) ?_
  refine AtL.e rfl (EffX.call (f := 79) (sh := fun h => ref02uLow _ h _) (H0 := H) rfl Tryd.call79 rfl (hl := fun w m hr hw => lift_ref02uLow _ w m hr _ hw)) ?_
  rintro _ _ ⟨v, h0u1, rfl, rfl, H⟩
  refine AtL.e rfl (EffX.storeSP (i := 1) (qv := [(_, [_, _, _]), (_, [_, _, _])]) hT rfl rfl rfl rfl rfl rfl rfl rfl rfl rfl) ?_
  rintro _ _ rfl
  refine AtL.nil ?_
  refine AtE.then_n (AtE.go ?_)
  refine AtC.joinSeq (β := Nat) (fun (t0 : Bool × Sl × Sl) (bb : Nat) => [(3, Value.pointer (some ⟨bb, 0, none⟩))]) (fun (t0 : Bool × Sl × Sl) (bb : Nat) => [(bb, [Value.bool t0.1, Sl.toV t0.2.1, Sl.toV t0.2.2])]) [1, 2] [0, 1] H (by exact rfl) (by exact rfl) (fun t0 bb h0u2 H => ?_) (fun J1 H HK1 => ?_)
  ·
   refine AtC.joinSeq (β := Unit) (fun (t0u1 : Bool × Sl × Sl) (bb_1 : Unit) => []) (fun (t0u1 : Bool × Sl × Sl) (bb_1 : Unit) => [(bb, [Value.bool t0u1.1, Sl.toV t0u1.2.1, Sl.toV t0u1.2.2])]) [2, 3] [1] H (by exact rfl) (by exact rfl) (fun t0u1 bb_1 h0u8 H => ?_) (fun J4 H HK4 => ?_)
   ·
    refine AtC.seqR ?_
    refine AtL.q rfl (Quiet1.loadSP (i := 0) (l := [_, _, _]) hT rfl rfl rfl rfl rfl rfl rfl rfl) ?_
    refine AtL.e rfl (EffX.storeSP (i := 1) (qv := [(_, [_, _, _]), (_, [_, _, _])]) hT rfl rfl rfl rfl rfl rfl rfl rfl rfl rfl) ?_
    rintro _ _ rfl
    refine AtL.nil ?_
    refine AtE.then_n (AtE.go ?_)
    refine AtC.ret ?_
    exact AtE.retN (rs := [.cell 2 54]) rfl (ResAll.cons (ResAt.cellSP (i := 1) (l := [_, _, _]) hT rfl rfl rfl rfl rfl rfl rfl) ResAll.nil) rfl H
   ·
    refine AtC.joinSeq (β := Unit) (fun (t0u2 : Bool) (bb_2 : Unit) => [(23, Value.bool t0u2)]) (fun (t0u2 : Bool) (bb_2 : Unit) => []) [1, 2, 3] [0, 1, 2] H (by exact rfl) (by exact rfl) (fun t0u2 bb_2 h0u9 H => ?_) (fun J5 H HK5 => ?_)
    ·
     refine AtC.condB H rfl (fun H => ?_) (fun H => ?_)
     ·
      refine AtC.region ?_
      refine AtL.pures hT 1 _ _ _ _ rfl ?_
      refine AtL.q rfl (Quiet1.loadP (i := 2) hT rfl rfl rfl rfl rfl rfl) ?_
      refine AtL.e rfl (EffX.call (f := 32) (sh := fun h => ref01uLimbs _ h _) (H0 := H) rfl Tryd.call32 rfl (hl := fun w m hr hw => lift_ref01uLimbs _ w m hr _ hw)) ?_
      rintro _ _ ⟨v_4, h0u10, rfl, rfl, H⟩
      refine AtL.pures hT 1 _ _ _ _ rfl ?_
      refine AtL.e rfl (EffX.storeP (i := 0) (qv := [(_, [_, _, _]), (_, [_, _, _]), (_, [_, _, _])]) hT rfl rfl rfl rfl rfl rfl rfl rfl rfl) ?_
      rintro _ _ rfl
      refine AtL.nil ?_
      exact AtE.then_n ((HK4 _ () _ H).pickP (ts := [2, 3]) (is := [0, 1]) rfl rfl (by decide) rfl)
     ·
      refine AtC.skip ?_
      exact AtE.then_n ((HK4 _ () _ H).pickP (ts := [2, 3]) (is := [0, 1]) rfl rfl (by decide) rfl)
    ·
     refine AtC.region ?_
     refine AtL.pures hT 1 _ _ _ _ rfl ?_
     refine AtL.q rfl (Quiet1.loadP (i := 2) hT rfl rfl rfl rfl rfl rfl) ?_
     refine AtL.pures hT 3 _ _ _ _ rfl ?_
     refine AtL.splitB (t := 17) H rfl (fun H => ?_) (fun H => ?_)
     ·
      refine AtL.noF rfl rfl rfl (by decide) rfl ?_
      refine AtL.noF rfl rfl rfl (by decide) rfl ?_
      refine AtL.noF rfl rfl rfl (by decide) rfl ?_
      refine AtL.noF rfl rfl rfl (by decide) rfl ?_
      refine AtL.noF rfl rfl rfl (by decide) rfl ?_
      refine AtL.pures hT 1 _ _ _ _ rfl ?_
      refine AtL.nil ?_
      exact AtE.then_n ((HK5 _ () _ H).pickP (ts := [23, 1, 2, 3]) (is := [0, 1, 2]) rfl rfl (by decide) rfl)
     ·
      refine AtL.yes rfl rfl rfl ?_
      refine AtL.pures hT 1 _ _ _ _ rfl ?_
      refine AtL.yes rfl rfl rfl ?_
      refine AtL.q rfl (Quiet1.loadP (i := 2) hT rfl rfl rfl rfl rfl rfl) ?_
      refine AtL.yes rfl rfl rfl ?_
      obtain ⟨a_, hc5, hd5, H⟩ := H
      refine AtL.q rfl (Quiet1.idxS (s := _) hT rfl rfl rfl rfl rfl hc5 hd5) ?_
      refine AtL.yes rfl rfl rfl ?_
      obtain ⟨v_3, hc6, H⟩ := H
      refine AtL.q rfl (Quiet1.load hT rfl rfl rfl hc6) ?_
      refine AtL.yes rfl rfl rfl ?_
      refine AtL.pures hT 1 _ _ _ _ rfl ?_
      refine AtL.pures hT 1 _ _ _ _ rfl ?_
      refine AtL.nil ?_
      exact AtE.then_n ((HK5 _ () _ H).pickP (ts := [23, 1, 2, 3]) (is := [0, 1, 2]) rfl rfl (by decide) rfl)
  ·
   apply AtC.stages [4, 7, 8] [[], [], [], [], [], [4], [4], [], [4, 7]] [[], [0], [], [2], [2, 3], [0, 1, 2, 3, 4], [0, 1, 2, 3, 4, 5], [], [0, 1, 2, 3, 4, 5, 6, 7]] hmix (by kernel_rfl) [(6, _), (7, _), (8, _), (9, _)] rfl 3 rfl
   refine Stg.go [0, 1, 2, 3] [4, 7] rfl rfl (QAll.cons (QOp.p hT rfl rfl rfl rfl rfl) (QAll.cons (QOp.q rfl rfl (Quiet1.loadP (i := 1) hT rfl rfl rfl rfl rfl rfl) rfl rfl) (QAll.cons (QOp.p hT rfl rfl rfl rfl rfl) (QAll.cons (QOp.q rfl rfl (Quiet1.loadP (i := 1) hT rfl rfl rfl rfl rfl rfl) rfl rfl) QAll.nil)))) ?_
   refine EAll.cons ?_ ?_
   ·
    replace H := H.self
    refine EOp.e rfl rfl rfl (EffX.call (f := 32) (sh := fun h => ref01uLimbs _ h _) (H0 := H) rfl Tryd.call32 rfl (hl := fun w m hr hw => lift_ref01uLimbs _ w m hr _ hw)) ?_
    rintro _ _ ⟨v_1, h0u4, rfl, rfl, H⟩
    apply Stg.next [(10, _), (11, _), (12, _)] rfl rfl
    refine Stg.go [0, 1, 5, 6] [7] rfl rfl (QAll.cons (QOp.p hT rfl rfl rfl rfl rfl) (QAll.cons (QOp.q rfl rfl (Quiet1.loadP (i := 1) hT rfl rfl rfl rfl rfl rfl) rfl rfl) (QAll.cons (QOp.q rfl rfl (Quiet1.build (cs := [_, _]) hT rfl rfl rfl rfl rfl rfl) rfl rfl) (QAll.cons (QOp.q rfl rfl (Quiet1.build (cs := [_, _, _]) hT rfl rfl rfl rfl rfl rfl) rfl rfl) QAll.nil)))) ?_
    refine EAll.cons ?_ EAll.nil
    refine EOp.e rfl rfl rfl (EffX.allocP (cs := [_, _, _]) hT rfl rfl H) ?_
    rintro _ _ ⟨b_2, _, rfl, rfl, he1, H⟩
    apply Stg.next [(3, _)] rfl rfl
    refine Stg.go [0, 1, 5, 6] [8] rfl rfl (QAll.cons (QOp.p hT rfl rfl rfl rfl rfl) (QAll.cons (QOp.q rfl rfl (Quiet1.loadP (i := 2) hT rfl rfl rfl rfl rfl rfl) rfl rfl) (QAll.cons (QOp.q rfl rfl (Quiet1.build (cs := [_, _]) hT rfl rfl rfl rfl rfl rfl) rfl rfl) (QAll.cons (QOp.q rfl rfl (Quiet1.build (cs := [_, _, _]) hT rfl rfl rfl rfl rfl rfl) rfl rfl) QAll.nil)))) ?_
    refine EAll.cons ?_ EAll.nil
    refine EOp.e rfl rfl rfl (EffX.storeSP (i := 0) (qv := [(_, [_, _, _]), (_, [_, _, _]), (_, [_, _, _])]) hT rfl rfl rfl rfl rfl rfl rfl rfl rfl rfl) ?_
    rintro _ _ rfl
    apply Stg.next [] rfl rfl
    refine Stg.fin [] rfl rfl QAll.nil ?_
    replace H := H.self
    exact AtE.then_n ((HK1 _ b_2 _ H).pickP (ts := [3, 1, 2]) (is := [0, 1, 2]) rfl rfl (by decide) rfl)
   refine EAll.cons ?_ EAll.nil
   refine EOp.e rfl rfl rfl (EffX.allocP (cs := [_, _, _]) hT rfl rfl H) ?_
   rintro _ _ ⟨b_3, _, rfl, rfl, he2, H⟩
   apply Stg.next [(3, _)] rfl rfl
   refine Stg.go [0, 1, 2, 3] [4] rfl rfl (QAll.cons (QOp.p hT rfl rfl rfl rfl rfl) (QAll.cons (QOp.q rfl rfl (Quiet1.loadP (i := 2) hT rfl rfl rfl rfl rfl rfl) rfl rfl) (QAll.cons (QOp.p hT rfl rfl rfl rfl rfl) (QAll.cons (QOp.q rfl rfl (Quiet1.loadP (i := 2) hT rfl rfl rfl rfl rfl rfl) rfl rfl) QAll.nil)))) ?_
   refine EAll.cons ?_ EAll.nil
   replace H := H.self
   refine EOp.e rfl rfl rfl (EffX.call (f := 32) (sh := fun h => ref01uLimbs _ h _) (H0 := H) rfl Tryd.call32 rfl (hl := fun w m hr hw => lift_ref01uLimbs _ w m hr _ hw)) ?_
   rintro _ _ ⟨v_2, h0u6, rfl, rfl, H⟩
   apply Stg.next [(10, _), (11, _), (12, _)] rfl rfl
   refine Stg.go [0, 1, 5, 6] [8] rfl rfl (QAll.cons (QOp.p hT rfl rfl rfl rfl rfl) (QAll.cons (QOp.q rfl rfl (Quiet1.loadP (i := 2) hT rfl rfl rfl rfl rfl rfl) rfl rfl) (QAll.cons (QOp.q rfl rfl (Quiet1.build (cs := [_, _]) hT rfl rfl rfl rfl rfl rfl) rfl rfl) (QAll.cons (QOp.q rfl rfl (Quiet1.build (cs := [_, _, _]) hT rfl rfl rfl rfl rfl rfl) rfl rfl) QAll.nil)))) ?_
   refine EAll.cons ?_ EAll.nil
   refine EOp.e rfl rfl rfl (EffX.storeSP (i := 0) (qv := [(_, [_, _, _]), (_, [_, _, _]), (_, [_, _, _])]) hT rfl rfl rfl rfl rfl rfl rfl rfl rfl rfl) ?_
   rintro _ _ rfl
   apply Stg.next [] rfl rfl
   refine Stg.fin [] rfl rfl QAll.nil ?_
   replace H := H.self
   exact AtE.then_n ((HK1 _ b_3 _ H).pickP (ts := [3, 1, 2]) (is := [0, 1, 2]) rfl rfl (by decide) rfl)

theorem lift_ref01uSame (a : Sl) (b : Sl) (w : World) (m : Heap) (hr : Rel ⟨m, []⟩ w.heap) (S : Bool → Heap → Prop) (H : ref01uSame a b m S) :
    Calls Tryd.prog 16 #[Sl.toV a, Sl.toV b] w (Post ⟨w, m⟩ Value.bool S) := by
  refine Calls.lift (args := [Sl.toV a, Sl.toV b]) Tryd.func16 rfl Tryd.ntmps16 (Nat.le_of_ble_eq_true rfl) hr (ref01uSame a b m S) H (fun H => ?_)
  refine AtC.pick (ts := [0, 1]) rfl ?_
  unfold ref01uSame at H
  refine AtC.seqR ?_
  refine AtL.pures hT 1 _ _ _ _ rfl ?_
  refine AtL.nil ?_
  refine AtE.then_n (AtE.go ?_)
  refine AtC.seq ?_
  refine AtC.seqR ?_
  refine AtL.pures hT 5 _ _ _ _ rfl ?_
  refine AtL.nil ?_
  refine AtE.then_n (AtE.go ?_)
  refine AtC.condB H rfl (fun H => ?_) (fun H => ?_)
  ·
   refine AtC.seqR ?_
   refine AtL.pures hT 1 _ _ _ _ rfl ?_
   refine AtL.nil ?_
   refine AtE.then_n (AtE.go ?_)
   refine AtC.ret ?_
   refine AtE.then_r ?_
   exact AtE.retN (rs := [.tmp 4]) rfl (ResAll.cons (ResAt.tmp rfl) ResAll.nil) rfl H
  ·
   refine AtC.skip ?_
   refine AtE.then_n (AtE.go ?_)
   refine AtC.seq ?_
   refine AtC.seqR ?_
   refine AtL.pures hT 1 _ _ _ _ rfl ?_
   refine AtL.nil ?_
   refine AtE.then_n (AtE.go ?_)
   refine AtC.block ?_
   refine AtC.loopM (fun (s0 : Int) => [(5, Value.int .i64 s0)]) (fun (s0 : Int) => []) [0, 1] [5, 0, 1] [] [] H (by exact rfl) (by exact rfl) (by exact rfl) (by decide) (by exact rfl) (fun Kp1 s0 h0 H Q1 HK1 => ?_)
   refine AtC.seq ?_
   refine AtC.seqR ?_
   refine AtL.pures hT 4 _ _ _ _ rfl ?_
   refine AtL.nil ?_
   refine AtE.then_n (AtE.go ?_)
   refine AtC.condB H rfl (fun H => ?_) (fun H => ?_)
   ·
    refine AtC.skip ?_
    refine AtE.then_n (AtE.go ?_)
    refine AtC.seq ?_
    refine AtC.block ?_
    refine AtC.seqD hmix (by kernel_rfl) ?_
    refine AtD.pures hT 2 _ _ _ _ rfl ?_
    obtain ⟨a_1_, hc1, hd1, H⟩ := H
    refine AtD.q rfl (Quiet1.idxS (s := _) hT rfl rfl rfl rfl rfl hc1 hd1) ?_
    obtain ⟨v, hc2, H⟩ := H
    refine AtD.q rfl (Quiet1.load hT rfl rfl rfl hc2) ?_
    refine AtD.pures hT 2 _ _ _ _ rfl ?_
    obtain ⟨a_2_, hc3, hd3, H⟩ := H
    refine AtD.q rfl (Quiet1.idxS (s := _) hT rfl rfl rfl rfl rfl hc3 hd3) ?_
    obtain ⟨v_1, hc4, H⟩ := H
    refine AtD.q rfl (Quiet1.load hT rfl rfl rfl hc4) ?_
    refine AtD.pures hT 1 _ _ _ _ rfl ?_
    refine AtD.nil ?_
    refine AtE.then_n (AtE.go ?_)
    refine AtC.condB H rfl (fun H => ?_) (fun H => ?_)
    ·
     refine AtC.seqR ?_
     refine AtL.pures hT 1 _ _ _ _ rfl ?_
     refine AtL.nil ?_
     refine AtE.then_n (AtE.go ?_)
     refine AtC.ret ?_
     refine AtE.blk_r ?_
     refine AtE.then_r ?_
     refine AtE.then_r ?_
     refine AtE.blk_r ?_
     refine AtE.then_r ?_
     exact AtE.retN (rs := [.tmp 4]) rfl (ResAll.cons (ResAt.tmp rfl) ResAll.nil) rfl H
    ·
     refine AtC.skip ?_
     refine AtE.blk_n ?_
     refine AtE.then_n (AtE.go ?_)
     refine AtC.region ?_
     refine AtL.pures hT 3 _ _ _ _ rfl ?_
     replace H := H _ rfl
     refine AtL.nil ?_
     exact AtE.then_n ((HK1 _ _ H).pickP (ts := [5, 0, 1]) (is := []) rfl rfl (by decide) rfl)
   ·
    refine AtC.exit ?_
    refine AtE.then_x ?_
    refine AtE.then_x ?_
    refine AtE.blk_hit ?_
    refine AtE.then_n (AtE.go ?_)
    refine AtC.seqR ?_
    refine AtL.pures hT 1 _ _ _ _ rfl ?_
    refine AtL.nil ?_
    refine AtE.then_n (AtE.go ?_)
    refine AtC.ret ?_
    exact AtE.retN (rs := [.tmp 4]) rfl (ResAll.cons (ResAt.tmp rfl) ResAll.nil) rfl H

theorem lift_ref02uSame (x0 : Bool × Sl × Sl) (y : Bool × Sl × Sl) (w : World) (m : Heap) (hr : Rel ⟨m, []⟩ w.heap) (S : Bool → Heap → Prop) (H : ref02uSame x0 y m S) :
    Calls Tryd.prog 60 #[Value.agg (C_bool_sl_sl x0).toArray, Value.agg (C_bool_sl_sl y).toArray] w (Post ⟨w, m⟩ Value.bool S) := by
  refine Calls.lift (args := [Value.agg (C_bool_sl_sl x0).toArray, Value.agg (C_bool_sl_sl y).toArray]) Tryd.func60 rfl Tryd.ntmps60 (Nat.le_of_ble_eq_true rfl) hr (ref02uSame x0 y m S) H (fun H => ?_)
  refine AtC.pick (ts := [0, 1]) rfl ?_
  unfold ref02uSame at H
  refine AtC.seqR ?_
  refine AtL.e rfl (EffX.boxP (cs := [_, _, _]) rfl rfl rfl H) ?_
  rintro _ _ ⟨b, _, rfl, rfl, _, H⟩
  refine AtL.e rfl (EffX.boxP (cs := [_, _, _]) rfl rfl rfl H) ?_
  rintro _ _ ⟨b_1, _, rfl, rfl, _, H⟩
  replace H := H.self
  refine AtL.pures hT 1 _ _ _ _ rfl ?_
  refine AtL.nil ?_
  refine AtE.then_n (AtE.go ?_)
  refine AtC.joinSeq (β := Unit) (fun (t0 : Bool) (bb : Unit) => [(4, Value.bool t0)]) (fun (t0 : Bool) (bb : Unit) => []) [] [] H (by exact rfl) (by exact rfl) (fun t0 bb h0u1 H => ?_) (fun J1 H HK1 => ?_)
  ·
   refine AtC.ret ?_
   exact AtE.retN (rs := [.tmp 4]) rfl (ResAll.cons (ResAt.tmp rfl) ResAll.nil) rfl H
  ·
   refine AtC.region ?_
   refine AtL.pures hT 2 _ _ _ _ rfl ?_
   refine AtL.q rfl (Quiet1.loadP (i := 1) hT rfl rfl rfl rfl rfl rfl) ?_
   refine AtL.pures hT 2 _ _ _ _ rfl ?_
   refine AtL.q rfl (Quiet1.loadP (i := 0) hT rfl rfl rfl rfl rfl rfl) ?_
   refine AtL.pures hT 2 _ _ _ _ rfl ?_
   refine AtL.splitB (t := 12) H rfl (fun H => ?_) (fun H => ?_)
   ·
    refine AtL.yes rfl rfl rfl ?_
    refine AtL.pures hT 1 _ _ _ _ rfl ?_
    refine AtL.yes rfl rfl rfl ?_
    refine AtL.pures hT 1 _ _ _ _ rfl ?_
    refine AtL.yes rfl rfl rfl ?_
    refine AtL.q rfl (Quiet1.loadP (i := 1) hT rfl rfl rfl rfl rfl rfl) ?_
    refine AtL.yes rfl rfl rfl ?_
    refine AtL.pures hT 1 _ _ _ _ rfl ?_
    refine AtL.yes rfl rfl rfl ?_
    refine AtL.pures hT 1 _ _ _ _ rfl ?_
    refine AtL.yes rfl rfl rfl ?_
    refine AtL.q rfl (Quiet1.loadP (i := 0) hT rfl rfl rfl rfl rfl rfl) ?_
    refine AtL.yes rfl rfl rfl ?_
    refine AtL.e rfl (EffX.call (f := 16) (sh := fun h => ref01uSame _ _ h _) (H0 := H) rfl Tryd.call16 rfl (hl := fun w m hr hw => lift_ref01uSame _ _ w m hr _ hw)) ?_
    rintro _ _ ⟨v, h0u2, rfl, rfl, H⟩
    refine AtL.pures hT 2 _ _ _ _ rfl ?_
    refine AtL.splitB (t := 21) H rfl (fun H => ?_) (fun H => ?_)
    ·
     refine AtL.yes rfl rfl rfl ?_
     refine AtL.pures hT 1 _ _ _ _ rfl ?_
     refine AtL.yes rfl rfl rfl ?_
     refine AtL.q rfl (Quiet1.loadP (i := 1) hT rfl rfl rfl rfl rfl rfl) ?_
     refine AtL.yes rfl rfl rfl ?_
     refine AtL.pures hT 1 _ _ _ _ rfl ?_
     refine AtL.yes rfl rfl rfl ?_
     refine AtL.q rfl (Quiet1.loadP (i := 0) hT rfl rfl rfl rfl rfl rfl) ?_
     refine AtL.yes rfl rfl rfl ?_
     refine AtL.e rfl (EffX.call (f := 16) (sh := fun h => ref01uSame _ _ h _) (H0 := H) rfl Tryd.call16 rfl (hl := fun w m hr hw => lift_ref01uSame _ _ w m hr _ hw)) ?_
     rintro _ _ ⟨v_1, h0u3, rfl, rfl, H⟩
     refine AtL.pures hT 2 _ _ _ _ rfl ?_
     refine AtL.nil ?_
     exact AtE.then_n ((HK1 _ () _ H).pickP (ts := [4]) (is := []) rfl rfl (by decide) rfl)
    ·
     refine AtL.noF rfl rfl rfl (by decide) rfl ?_
     refine AtL.noF rfl rfl rfl (by decide) rfl ?_
     refine AtL.noF rfl rfl rfl (by decide) rfl ?_
     refine AtL.noF rfl rfl rfl (by decide) rfl ?_
     refine AtL.noF rfl rfl rfl (by decide) rfl ?_
     refine AtL.pures hT 2 _ _ _ _ rfl ?_
     refine AtL.nil ?_
     exact AtE.then_n ((HK1 _ () _ H).pickP (ts := [4]) (is := []) rfl rfl (by decide) rfl)
   ·
    refine AtL.noF rfl rfl rfl (by decide) rfl ?_
    refine AtL.noF rfl rfl rfl (by decide) rfl ?_
    refine AtL.noF rfl rfl rfl (by decide) rfl ?_
    refine AtL.noF rfl rfl rfl (by decide) rfl ?_
    refine AtL.noF rfl rfl rfl (by decide) rfl ?_
    refine AtL.noF rfl rfl rfl (by decide) rfl ?_
    refine AtL.noF rfl rfl rfl (by decide) rfl ?_
    refine AtL.pures hT 2 _ _ _ _ rfl ?_
    refine AtL.noF rfl rfl rfl (by decide) rfl ?_
    refine AtL.noF rfl rfl rfl (by decide) rfl ?_
    refine AtL.noF rfl rfl rfl (by decide) rfl ?_
    refine AtL.noF rfl rfl rfl (by decide) rfl ?_
    refine AtL.noF rfl rfl rfl (by decide) rfl ?_
    refine AtL.pures hT 2 _ _ _ _ rfl ?_
    refine AtL.nil ?_
    exact AtE.then_n ((HK1 _ () _ H).pickP (ts := [4]) (is := []) rfl rfl (by decide) rfl)

theorem lift_ref02uRight (x0 : Bool × Sl × Sl) (w : World) (m : Heap) (hr : Rel ⟨m, []⟩ w.heap) (S : Bool → Heap → Prop) (H : ref02uRight x0 m S) :
    Calls Tryd.prog 74 #[Value.agg (C_bool_sl_sl x0).toArray] w (Post ⟨w, m⟩ Value.bool S) := by
  refine Calls.lift (args := [Value.agg (C_bool_sl_sl x0).toArray]) Tryd.func74 rfl Tryd.ntmps74 (Nat.le_of_ble_eq_true rfl) hr (ref02uRight x0 m S) H (fun H => ?_)
  refine AtC.pick (ts := [0]) rfl ?_
  unfold ref02uRight at H
  refine AtC.seqR ?_
  refine AtL.e rfl (EffX.boxP (cs := [_, _, _]) rfl rfl rfl H) ?_
  rintro _ _ ⟨b, _, rfl, rfl, _, H⟩
  replace H := H.self
  refine AtL.pures hT 1 _ _ _ _ rfl ?_
  refine AtL.nil ?_
  refine AtE.then_n (AtE.go ?_)
  refine AtC.seq ?_
  refine AtC.joinSeq (β := Unit) (fun (t0 : Bool) (bb : Unit) => [(49, Value.bool t0)]) (fun (t0 : Bool) (bb : Unit) => []) [1] [0] H (by exact rfl) (by exact rfl) (fun t0 bb h0u1 H => ?_) (fun J1 H HK1 => ?_)
  ·
   refine AtC.condB H rfl (fun H => ?_) (fun H => ?_)
   ·
    refine AtC.seqR ?_
    refine AtL.pures hT 1 _ _ _ _ rfl ?_
    refine AtL.nil ?_
    refine AtE.then_n (AtE.go ?_)
    refine AtC.ret ?_
    refine AtE.then_r ?_
    exact AtE.retN (rs := [.tmp 2]) rfl (ResAll.cons (ResAt.tmp rfl) ResAll.nil) rfl H
   ·
    refine AtC.skip ?_
    refine AtE.then_n (AtE.go ?_)
    apply AtC.seqS [2, 3, 4] [[], [], [], [2], [2, 3], [2, 3, 4]] [[], [], [1], [1, 2], [0, 1, 2, 3], [0, 1, 2, 3, 4]] hmix (by kernel_rfl) [(50, _), (51, _)] rfl 3 rfl
    refine Stg.go [0, 1] [2] rfl rfl (QAll.cons (QOp.q rfl rfl (Quiet1.loadSP (i := 0) (l := [_, _, _]) hT rfl rfl rfl rfl rfl rfl rfl rfl) rfl rfl) (QAll.cons (QOp.q rfl rfl (Quiet1.loadSP (i := 0) (l := [_, _, _]) hT rfl rfl rfl rfl rfl rfl rfl rfl) rfl rfl) QAll.nil)) ?_
    refine EAll.cons ?_ EAll.nil
    refine EOp.e rfl rfl rfl (EffX.call (f := 50) (sh := fun h => ref02uOf _ h _) (H0 := H) rfl Tryd.call50 rfl (hl := fun w m hr hw => lift_ref02uOf _ w m hr _ hw)) ?_
    rintro _ _ ⟨v_3, h0u2, rfl, rfl, H⟩
    apply Stg.next [(52, _)] rfl rfl
    refine Stg.go [0] [3] rfl rfl (QAll.cons (QOp.q rfl rfl (Quiet1.loadSP (i := 0) (l := [_, _, _]) hT rfl rfl rfl rfl rfl rfl rfl rfl) rfl rfl) QAll.nil) ?_
    refine EAll.cons ?_ EAll.nil
    refine EOp.e rfl rfl rfl (EffX.call (f := 61) (sh := fun h => ref02uForm _ h _) (H0 := H) rfl Tryd.call61 rfl (hl := fun w m hr hw => lift_ref02uForm _ w m hr _ hw)) ?_
    rintro _ _ ⟨v_4, h0u3, rfl, rfl, H⟩
    apply Stg.next [(53, _)] rfl rfl
    refine Stg.go [0] [4] rfl rfl (QAll.cons (QOp.q rfl rfl (Quiet1.loadSP (i := 0) (l := [_, _, _]) hT rfl rfl rfl rfl rfl rfl rfl rfl) rfl rfl) QAll.nil) ?_
    refine EAll.cons ?_ EAll.nil
    refine EOp.e rfl rfl rfl (EffX.call (f := 60) (sh := fun h => ref02uSame _ _ h _) (H0 := H) rfl Tryd.call60 rfl (hl := fun w m hr hw => lift_ref02uSame _ _ w m hr _ hw)) ?_
    rintro _ _ ⟨v_5, h0u4, rfl, rfl, H⟩
    apply Stg.next [(54, _), (2, _)] rfl rfl
    refine Stg.fin [5] rfl rfl (QAll.cons (QOp.p hT rfl rfl rfl rfl rfl) QAll.nil) ?_
    refine AtE.then_n (AtE.go ?_)
    refine AtC.ret ?_
    exact AtE.retN (rs := [.tmp 2]) rfl (ResAll.cons (ResAt.tmp rfl) ResAll.nil) rfl H
  ·
   refine AtC.region ?_
   refine AtL.pures hT 2 _ _ _ _ rfl ?_
   refine AtL.q rfl (Quiet1.loadP (i := 0) hT rfl rfl rfl rfl rfl rfl) ?_
   refine AtL.pures hT 3 _ _ _ _ rfl ?_
   refine AtL.splitB (t := 8) H rfl (fun H => ?_) (fun H => ?_)
   ·
    refine AtL.yes rfl rfl rfl ?_
    refine AtL.pures hT 1 _ _ _ _ rfl ?_
    refine AtL.yes rfl rfl rfl ?_
    refine AtL.pures hT 1 _ _ _ _ rfl ?_
    refine AtL.yes rfl rfl rfl ?_
    refine AtL.q rfl (Quiet1.loadP (i := 0) hT rfl rfl rfl rfl rfl rfl) ?_
    refine AtL.yes rfl rfl rfl ?_
    refine AtL.pures hT 1 _ _ _ _ rfl ?_
    refine AtL.yes rfl rfl rfl ?_
    refine AtL.pures hT 1 _ _ _ _ rfl ?_
    refine AtL.yes rfl rfl rfl ?_
    refine AtL.q rfl (Quiet1.loadP (i := 0) hT rfl rfl rfl rfl rfl rfl) ?_
    refine AtL.yes rfl rfl rfl ?_
    refine AtL.pures hT 1 _ _ _ _ rfl ?_
    refine AtL.yes rfl rfl rfl ?_
    refine AtL.pures hT 1 _ _ _ _ rfl ?_
    refine AtL.yes rfl rfl rfl ?_
    obtain ⟨a_, hc1, hd1, H⟩ := H
    refine AtL.q rfl (Quiet1.idxS (s := _) hT rfl rfl rfl rfl rfl hc1 hd1) ?_
    refine AtL.yes rfl rfl rfl ?_
    obtain ⟨v, hc2, H⟩ := H
    refine AtL.q rfl (Quiet1.load hT rfl rfl rfl hc2) ?_
    refine AtL.yes rfl rfl rfl ?_
    refine AtL.pures hT 1 _ _ _ _ rfl ?_
    refine AtL.pures hT 2 _ _ _ _ rfl ?_
    refine AtL.splitB (t := 21) H rfl (fun H => ?_) (fun H => ?_)
    ·
     refine AtL.noF rfl rfl rfl (by decide) rfl ?_
     refine AtL.noF rfl rfl rfl (by decide) rfl ?_
     refine AtL.noF rfl rfl rfl (by decide) rfl ?_
     refine AtL.noF rfl rfl rfl (by decide) rfl ?_
     refine AtL.noF rfl rfl rfl (by decide) rfl ?_
     refine AtL.noU rfl rfl rfl rfl ?_
     refine AtL.noU rfl rfl rfl rfl ?_
     refine AtL.noU rfl rfl rfl rfl ?_
     refine AtL.noU rfl rfl rfl rfl ?_
     refine AtL.noU rfl rfl rfl rfl ?_
     refine AtL.noU rfl rfl rfl rfl ?_
     refine AtL.noU rfl rfl rfl rfl ?_
     refine AtL.noU rfl rfl rfl rfl ?_
     refine AtL.noU rfl rfl rfl rfl ?_
     refine AtL.noF rfl rfl rfl (by decide) rfl ?_
     refine AtL.pures hT 2 _ _ _ _ rfl ?_
     refine AtL.noF rfl rfl rfl (by decide) rfl ?_
     refine AtL.noF rfl rfl rfl (by decide) rfl ?_
     refine AtL.noF rfl rfl rfl (by decide) rfl ?_
     refine AtL.noF rfl rfl rfl (by decide) rfl ?_
     refine AtL.noF rfl rfl rfl (by decide) rfl ?_
     refine AtL.noF rfl rfl rfl (by decide) rfl ?_
     refine AtL.noU rfl rfl rfl rfl ?_
     refine AtL.noU rfl rfl rfl rfl ?_
     refine AtL.noU rfl rfl rfl rfl ?_
     refine AtL.noF rfl rfl rfl (by decide) rfl ?_
     refine AtL.pures hT 1 _ _ _ _ rfl ?_
     refine AtL.nil ?_
     exact AtE.then_n ((HK1 _ () _ H).pickP (ts := [49, 1]) (is := [0]) rfl rfl (by decide) rfl)
    ·
     refine AtL.yes rfl rfl rfl ?_
     refine AtL.pures hT 1 _ _ _ _ rfl ?_
     refine AtL.yes rfl rfl rfl ?_
     refine AtL.q rfl (Quiet1.loadP (i := 0) hT rfl rfl rfl rfl rfl rfl) ?_
     refine AtL.yes rfl rfl rfl ?_
     refine AtL.pures hT 1 _ _ _ _ rfl ?_
     refine AtL.yes rfl rfl rfl ?_
     refine AtL.pures hT 1 _ _ _ _ rfl ?_
     refine AtL.yes rfl rfl rfl ?_
     refine AtL.pures hT 1 _ _ _ _ rfl ?_
     refine AtL.splitB (t := 26) H rfl (fun H => ?_) (fun H => ?_)
     ·
      refine AtL.yes rfl rfl rfl ?_
      refine AtL.pures hT 1 _ _ _ _ rfl ?_
      refine AtL.yes rfl rfl rfl ?_
      refine AtL.q rfl (Quiet1.loadP (i := 0) hT rfl rfl rfl rfl rfl rfl) ?_
      refine AtL.yes rfl rfl rfl ?_
      refine AtL.pures hT 1 _ _ _ _ rfl ?_
      refine AtL.yes rfl rfl rfl ?_
      refine AtL.q rfl (Quiet1.loadP (i := 0) hT rfl rfl rfl rfl rfl rfl) ?_
      refine AtL.yes rfl rfl rfl ?_
      refine AtL.pures hT 1 _ _ _ _ rfl ?_
      refine AtL.yes rfl rfl rfl ?_
      refine AtL.pures hT 1 _ _ _ _ rfl ?_
      refine AtL.yes rfl rfl rfl ?_
      obtain ⟨a_1_, hc3, hd3, H⟩ := H
      refine AtL.q rfl (Quiet1.idxS (s := _) hT rfl rfl rfl rfl rfl hc3 hd3) ?_
      refine AtL.yes rfl rfl rfl ?_
      obtain ⟨v_1, hc4, H⟩ := H
      refine AtL.q rfl (Quiet1.load hT rfl rfl rfl hc4) ?_
      refine AtL.yes rfl rfl rfl ?_
      refine AtL.pures hT 1 _ _ _ _ rfl ?_
      refine AtL.yes rfl rfl rfl ?_
      refine AtL.pures hT 1 _ _ _ _ rfl ?_
      refine AtL.pures hT 2 _ _ _ _ rfl ?_
      refine AtL.splitB (t := 38) H rfl (fun H => ?_) (fun H => ?_)
      ·
       refine AtL.noF rfl rfl rfl (by decide) rfl ?_
       refine AtL.noF rfl rfl rfl (by decide) rfl ?_
       refine AtL.noF rfl rfl rfl (by decide) rfl ?_
       refine AtL.noF rfl rfl rfl (by decide) rfl ?_
       refine AtL.noF rfl rfl rfl (by decide) rfl ?_
       refine AtL.noF rfl rfl rfl (by decide) rfl ?_
       refine AtL.noU rfl rfl rfl rfl ?_
       refine AtL.noU rfl rfl rfl rfl ?_
       refine AtL.noU rfl rfl rfl rfl ?_
       refine AtL.noF rfl rfl rfl (by decide) rfl ?_
       refine AtL.pures hT 1 _ _ _ _ rfl ?_
       refine AtL.nil ?_
       exact AtE.then_n ((HK1 _ () _ H).pickP (ts := [49, 1]) (is := [0]) rfl rfl (by decide) rfl)
      ·
       refine AtL.yes rfl rfl rfl ?_
       refine AtL.pures hT 1 _ _ _ _ rfl ?_
       refine AtL.yes rfl rfl rfl ?_
       refine AtL.pures hT 1 _ _ _ _ rfl ?_
       refine AtL.yes rfl rfl rfl ?_
       refine AtL.q rfl (Quiet1.loadP (i := 0) hT rfl rfl rfl rfl rfl rfl) ?_
       refine AtL.yes rfl rfl rfl ?_
       refine AtL.pures hT 1 _ _ _ _ rfl ?_
       refine AtL.yes rfl rfl rfl ?_
       refine AtL.pures hT 1 _ _ _ _ rfl ?_
       refine AtL.yes rfl rfl rfl ?_
       refine AtL.pures hT 1 _ _ _ _ rfl ?_
       refine AtL.splitB (t := 44) H rfl (fun H => ?_) (fun H => ?_)
       ·
        refine AtL.yes rfl rfl rfl ?_
        refine AtL.pures hT 1 _ _ _ _ rfl ?_
        refine AtL.yes rfl rfl rfl ?_
        refine AtL.pures hT 1 _ _ _ _ rfl ?_
        refine AtL.yes rfl rfl rfl ?_
        refine AtL.q rfl (Quiet1.loadP (i := 0) hT rfl rfl rfl rfl rfl rfl) ?_
        refine AtL.yes rfl rfl rfl ?_
        refine AtL.pures hT 1 _ _ _ _ rfl ?_
        refine AtL.pures hT 1 _ _ _ _ rfl ?_
        refine AtL.nil ?_
        exact AtE.then_n ((HK1 _ () _ H).pickP (ts := [49, 1]) (is := [0]) rfl rfl (by decide) rfl)
       ·
        refine AtL.noF rfl rfl rfl (by decide) rfl ?_
        refine AtL.noF rfl rfl rfl (by decide) rfl ?_
        refine AtL.noF rfl rfl rfl (by decide) rfl ?_
        refine AtL.yes rfl rfl rfl ?_
        refine AtL.pures hT 1 _ _ _ _ rfl ?_
        refine AtL.pures hT 1 _ _ _ _ rfl ?_
        refine AtL.nil ?_
        exact AtE.then_n ((HK1 _ () _ H).pickP (ts := [49, 1]) (is := [0]) rfl rfl (by decide) rfl)
     ·
      refine AtL.noF rfl rfl rfl (by decide) rfl ?_
      refine AtL.noF rfl rfl rfl (by decide) rfl ?_
      refine AtL.noF rfl rfl rfl (by decide) rfl ?_
      refine AtL.noF rfl rfl rfl (by decide) rfl ?_
      refine AtL.noF rfl rfl rfl (by decide) rfl ?_
      refine AtL.noF rfl rfl rfl (by decide) rfl ?_
      refine AtL.noF rfl rfl rfl (by decide) rfl ?_
      refine AtL.noF rfl rfl rfl (by decide) rfl ?_
      refine AtL.noF rfl rfl rfl (by decide) rfl ?_
      refine AtL.yes rfl rfl rfl ?_
      refine AtL.pures hT 1 _ _ _ _ rfl ?_
      refine AtL.pures hT 2 _ _ _ _ rfl ?_
      refine AtL.yes rfl rfl rfl ?_
      refine AtL.pures hT 1 _ _ _ _ rfl ?_
      refine AtL.yes rfl rfl rfl ?_
      refine AtL.pures hT 1 _ _ _ _ rfl ?_
      refine AtL.yes rfl rfl rfl ?_
      refine AtL.q rfl (Quiet1.loadP (i := 0) hT rfl rfl rfl rfl rfl rfl) ?_
      refine AtL.yes rfl rfl rfl ?_
      refine AtL.pures hT 1 _ _ _ _ rfl ?_
      refine AtL.yes rfl rfl rfl ?_
      refine AtL.pures hT 1 _ _ _ _ rfl ?_
      refine AtL.yes rfl rfl rfl ?_
      refine AtL.pures hT 1 _ _ _ _ rfl ?_
      refine AtL.splitB (t := 44) H rfl (fun H => ?_) (fun H => ?_)
      ·
       refine AtL.yes rfl rfl rfl ?_
       refine AtL.pures hT 1 _ _ _ _ rfl ?_
       refine AtL.yes rfl rfl rfl ?_
       refine AtL.pures hT 1 _ _ _ _ rfl ?_
       refine AtL.yes rfl rfl rfl ?_
       refine AtL.q rfl (Quiet1.loadP (i := 0) hT rfl rfl rfl rfl rfl rfl) ?_
       refine AtL.yes rfl rfl rfl ?_
       refine AtL.pures hT 1 _ _ _ _ rfl ?_
       refine AtL.pures hT 1 _ _ _ _ rfl ?_
       refine AtL.nil ?_
       exact AtE.then_n ((HK1 _ () _ H).pickP (ts := [49, 1]) (is := [0]) rfl rfl (by decide) rfl)
      ·
       refine AtL.noF rfl rfl rfl (by decide) rfl ?_
       refine AtL.noF rfl rfl rfl (by decide) rfl ?_
       refine AtL.noF rfl rfl rfl (by decide) rfl ?_
       refine AtL.yes rfl rfl rfl ?_
       refine AtL.pures hT 1 _ _ _ _ rfl ?_
       refine AtL.pures hT 1 _ _ _ _ rfl ?_
       refine AtL.nil ?_
       exact AtE.then_n ((HK1 _ () _ H).pickP (ts := [49, 1]) (is := [0]) rfl rfl (by decide) rfl)
   ·
    refine AtL.noF rfl rfl rfl (by decide) rfl ?_
    refine AtL.noF rfl rfl rfl (by decide) rfl ?_
    refine AtL.noF rfl rfl rfl (by decide) rfl ?_
    refine AtL.noF rfl rfl rfl (by decide) rfl ?_
    refine AtL.noF rfl rfl rfl (by decide) rfl ?_
    refine AtL.noF rfl rfl rfl (by decide) rfl ?_
    refine AtL.noF rfl rfl rfl (by decide) rfl ?_
    refine AtL.noF rfl rfl rfl (by decide) rfl ?_
    refine AtL.noF rfl rfl rfl (by decide) rfl ?_
    refine AtL.noF rfl rfl rfl (by decide) rfl ?_
    refine AtL.noF rfl rfl rfl (by decide) rfl ?_
    refine AtL.pures hT 2 _ _ _ _ rfl ?_
    refine AtL.yes rfl rfl rfl ?_
    refine AtL.pures hT 1 _ _ _ _ rfl ?_
    refine AtL.yes rfl rfl rfl ?_
    refine AtL.q rfl (Quiet1.loadP (i := 0) hT rfl rfl rfl rfl rfl rfl) ?_
    refine AtL.yes rfl rfl rfl ?_
    refine AtL.pures hT 1 _ _ _ _ rfl ?_
    refine AtL.yes rfl rfl rfl ?_
    refine AtL.pures hT 1 _ _ _ _ rfl ?_
    refine AtL.yes rfl rfl rfl ?_
    refine AtL.pures hT 1 _ _ _ _ rfl ?_
    refine AtL.splitB (t := 26) H rfl (fun H => ?_) (fun H => ?_)
    ·
     refine AtL.yes rfl rfl rfl ?_
     refine AtL.pures hT 1 _ _ _ _ rfl ?_
     refine AtL.yes rfl rfl rfl ?_
     refine AtL.q rfl (Quiet1.loadP (i := 0) hT rfl rfl rfl rfl rfl rfl) ?_
     refine AtL.yes rfl rfl rfl ?_
     refine AtL.pures hT 1 _ _ _ _ rfl ?_
     refine AtL.yes rfl rfl rfl ?_
     refine AtL.q rfl (Quiet1.loadP (i := 0) hT rfl rfl rfl rfl rfl rfl) ?_
     refine AtL.yes rfl rfl rfl ?_
     refine AtL.pures hT 1 _ _ _ _ rfl ?_
     refine AtL.yes rfl rfl rfl ?_
     refine AtL.pures hT 1 _ _ _ _ rfl ?_
     refine AtL.yes rfl rfl rfl ?_
     obtain ⟨a_2_, hc5, hd5, H⟩ := H
     refine AtL.q rfl (Quiet1.idxS (s := _) hT rfl rfl rfl rfl rfl hc5 hd5) ?_
     refine AtL.yes rfl rfl rfl ?_
     obtain ⟨v_2, hc6, H⟩ := H
     refine AtL.q rfl (Quiet1.load hT rfl rfl rfl hc6) ?_
     refine AtL.yes rfl rfl rfl ?_
     refine AtL.pures hT 1 _ _ _ _ rfl ?_
     refine AtL.yes rfl rfl rfl ?_
     refine AtL.pures hT 1 _ _ _ _ rfl ?_
     refine AtL.pures hT 2 _ _ _ _ rfl ?_
     refine AtL.splitB (t := 38) H rfl (fun H => ?_) (fun H => ?_)
     ·
      refine AtL.noF rfl rfl rfl (by decide) rfl ?_
      refine AtL.noF rfl rfl rfl (by decide) rfl ?_
      refine AtL.noF rfl rfl rfl (by decide) rfl ?_
      refine AtL.noF rfl rfl rfl (by decide) rfl ?_
      refine AtL.noF rfl rfl rfl (by decide) rfl ?_
      refine AtL.noF rfl rfl rfl (by decide) rfl ?_
      refine AtL.noU rfl rfl rfl rfl ?_
      refine AtL.noU rfl rfl rfl rfl ?_
      refine AtL.noU rfl rfl rfl rfl ?_
      refine AtL.noF rfl rfl rfl (by decide) rfl ?_
      refine AtL.pures hT 1 _ _ _ _ rfl ?_
      refine AtL.nil ?_
      exact AtE.then_n ((HK1 _ () _ H).pickP (ts := [49, 1]) (is := [0]) rfl rfl (by decide) rfl)
     ·
      refine AtL.yes rfl rfl rfl ?_
      refine AtL.pures hT 1 _ _ _ _ rfl ?_
      refine AtL.yes rfl rfl rfl ?_
      refine AtL.pures hT 1 _ _ _ _ rfl ?_
      refine AtL.yes rfl rfl rfl ?_
      refine AtL.q rfl (Quiet1.loadP (i := 0) hT rfl rfl rfl rfl rfl rfl) ?_
      refine AtL.yes rfl rfl rfl ?_
      refine AtL.pures hT 1 _ _ _ _ rfl ?_
      refine AtL.yes rfl rfl rfl ?_
      refine AtL.pures hT 1 _ _ _ _ rfl ?_
      refine AtL.yes rfl rfl rfl ?_
      refine AtL.pures hT 1 _ _ _ _ rfl ?_
      refine AtL.splitB (t := 44) H rfl (fun H => ?_) (fun H => ?_)
      ·
       refine AtL.yes rfl rfl rfl ?_
       refine AtL.pures hT 1 _ _ _ _ rfl ?_
       refine AtL.yes rfl rfl rfl ?_
       refine AtL.pures hT 1 _ _ _ _ rfl ?_
       refine AtL.yes rfl rfl rfl ?_
       refine AtL.q rfl (Quiet1.loadP (i := 0) hT rfl rfl rfl rfl rfl rfl) ?_
       refine AtL.yes rfl rfl rfl ?_
       refine AtL.pures hT 1 _ _ _ _ rfl ?_
       refine AtL.pures hT 1 _ _ _ _ rfl ?_
       refine AtL.nil ?_
       exact AtE.then_n ((HK1 _ () _ H).pickP (ts := [49, 1]) (is := [0]) rfl rfl (by decide) rfl)
      ·
       refine AtL.noF rfl rfl rfl (by decide) rfl ?_
       refine AtL.noF rfl rfl rfl (by decide) rfl ?_
       refine AtL.noF rfl rfl rfl (by decide) rfl ?_
       refine AtL.yes rfl rfl rfl ?_
       refine AtL.pures hT 1 _ _ _ _ rfl ?_
       refine AtL.pures hT 1 _ _ _ _ rfl ?_
       refine AtL.nil ?_
       exact AtE.then_n ((HK1 _ () _ H).pickP (ts := [49, 1]) (is := [0]) rfl rfl (by decide) rfl)
    ·
     refine AtL.noF rfl rfl rfl (by decide) rfl ?_
     refine AtL.noF rfl rfl rfl (by decide) rfl ?_
     refine AtL.noF rfl rfl rfl (by decide) rfl ?_
     refine AtL.noF rfl rfl rfl (by decide) rfl ?_
     refine AtL.noF rfl rfl rfl (by decide) rfl ?_
     refine AtL.noF rfl rfl rfl (by decide) rfl ?_
     refine AtL.noF rfl rfl rfl (by decide) rfl ?_
     refine AtL.noF rfl rfl rfl (by decide) rfl ?_
     refine AtL.noF rfl rfl rfl (by decide) rfl ?_
     refine AtL.yes rfl rfl rfl ?_
     refine AtL.pures hT 1 _ _ _ _ rfl ?_
     refine AtL.pures hT 2 _ _ _ _ rfl ?_
     refine AtL.yes rfl rfl rfl ?_
     refine AtL.pures hT 1 _ _ _ _ rfl ?_
     refine AtL.yes rfl rfl rfl ?_
     refine AtL.pures hT 1 _ _ _ _ rfl ?_
     refine AtL.yes rfl rfl rfl ?_
     refine AtL.q rfl (Quiet1.loadP (i := 0) hT rfl rfl rfl rfl rfl rfl) ?_
     refine AtL.yes rfl rfl rfl ?_
     refine AtL.pures hT 1 _ _ _ _ rfl ?_
     refine AtL.yes rfl rfl rfl ?_
     refine AtL.pures hT 1 _ _ _ _ rfl ?_
     refine AtL.yes rfl rfl rfl ?_
     refine AtL.pures hT 1 _ _ _ _ rfl ?_
     refine AtL.splitB (t := 44) H rfl (fun H => ?_) (fun H => ?_)
     ·
      refine AtL.yes rfl rfl rfl ?_
      refine AtL.pures hT 1 _ _ _ _ rfl ?_
      refine AtL.yes rfl rfl rfl ?_
      refine AtL.pures hT 1 _ _ _ _ rfl ?_
      refine AtL.yes rfl rfl rfl ?_
      refine AtL.q rfl (Quiet1.loadP (i := 0) hT rfl rfl rfl rfl rfl rfl) ?_
      refine AtL.yes rfl rfl rfl ?_
      refine AtL.pures hT 1 _ _ _ _ rfl ?_
      refine AtL.pures hT 1 _ _ _ _ rfl ?_
      refine AtL.nil ?_
      exact AtE.then_n ((HK1 _ () _ H).pickP (ts := [49, 1]) (is := [0]) rfl rfl (by decide) rfl)
     ·
      refine AtL.noF rfl rfl rfl (by decide) rfl ?_
      refine AtL.noF rfl rfl rfl (by decide) rfl ?_
      refine AtL.noF rfl rfl rfl (by decide) rfl ?_
      refine AtL.yes rfl rfl rfl ?_
      refine AtL.pures hT 1 _ _ _ _ rfl ?_
      refine AtL.pures hT 1 _ _ _ _ rfl ?_
      refine AtL.nil ?_
      exact AtE.then_n ((HK1 _ () _ H).pickP (ts := [49, 1]) (is := [0]) rfl rfl (by decide) rfl)

theorem lift_ref03uRight (x0 : Bool × Sl × Sl × Bool × Sl × Sl) (w : World) (m : Heap) (hr : Rel ⟨m, []⟩ w.heap) (S : Bool → Heap → Prop) (H : ref03uRight x0 m S) :
    Calls Tryd.prog 98 #[Value.agg (C_bool_sl_sl_bool_sl_sl x0).toArray] w (Post ⟨w, m⟩ Value.bool S) := by
  refine Calls.lift (args := [Value.agg (C_bool_sl_sl_bool_sl_sl x0).toArray]) Tryd.func98 rfl Tryd.ntmps98 (Nat.le_of_ble_eq_true rfl) hr (ref03uRight x0 m S) H (fun H => ?_)
  refine AtC.pick (ts := [0]) rfl ?_
  unfold ref03uRight at H
  refine AtC.seqR ?_
  refine AtL.e rfl (EffX.boxP (cs := [_, _, _, _, _, _]) rfl rfl rfl H) ?_
  rintro _ _ ⟨b, _, rfl, rfl, _, H⟩
  replace H := H.self
  refine AtL.pures hT 1 _ _ _ _ rfl ?_
  refine AtL.nil ?_
  refine AtE.then_n (AtE.go ?_)
  refine AtC.joinSeq (β := Unit) (fun (t0 : Bool) (bb : Unit) => [(2, Value.bool t0)]) (fun (t0 : Bool) (bb : Unit) => []) [] [] H (by exact rfl) (by exact rfl) (fun t0 bb h0u1 H => ?_) (fun J1 H HK1 => ?_)
  ·
   refine AtC.ret ?_
   exact AtE.retN (rs := [.tmp 2]) rfl (ResAll.cons (ResAt.tmp rfl) ResAll.nil) rfl H
  ·
   refine AtC.region ?_
   refine AtL.pures hT 1 _ _ _ _ rfl ?_
   refine AtL.q rfl (Quiet1.loadSP (i := 0) (l := [_, _, _]) hT rfl rfl rfl rfl rfl rfl rfl rfl) ?_
   refine AtL.e rfl (EffX.call (f := 74) (sh := fun h => ref02uRight _ h _) (H0 := H) rfl Tryd.call74 rfl (hl := fun w m hr hw => lift_ref02uRight _ w m hr _ hw)) ?_
   rintro _ _ ⟨v, h0u2, rfl, rfl, H⟩
   refine AtL.pures hT 1 _ _ _ _ rfl ?_
   refine AtL.splitB (t := 6) H rfl (fun H => ?_) (fun H => ?_)
   ·
    refine AtL.yes rfl rfl rfl ?_
    refine AtL.pures hT 1 _ _ _ _ rfl ?_
    refine AtL.yes rfl rfl rfl ?_
    refine AtL.q rfl (Quiet1.loadSP (i := 0) (l := [_, _, _]) hT rfl rfl rfl rfl rfl rfl rfl rfl) ?_
    refine AtL.yes rfl rfl rfl ?_
    refine AtL.e rfl (EffX.call (f := 74) (sh := fun h => ref02uRight _ h _) (H0 := H) rfl Tryd.call74 rfl (hl := fun w m hr hw => lift_ref02uRight _ w m hr _ hw)) ?_
    rintro _ _ ⟨v_1, h0u3, rfl, rfl, H⟩
    refine AtL.pures hT 2 _ _ _ _ rfl ?_
    refine AtL.nil ?_
    exact AtE.then_n ((HK1 _ () _ H).pickP (ts := [2]) (is := []) rfl rfl (by decide) rfl)
   ·
    refine AtL.noF rfl rfl rfl (by decide) rfl ?_
    refine AtL.noF rfl rfl rfl (by decide) rfl ?_
    refine AtL.noF rfl rfl rfl (by decide) rfl ?_
    refine AtL.pures hT 2 _ _ _ _ rfl ?_
    refine AtL.nil ?_
    exact AtE.then_n ((HK1 _ () _ H).pickP (ts := [2]) (is := []) rfl rfl (by decide) rfl)

theorem lift_law03uOdd (l : Sl) (w : World) (m : Heap) (hr : Rel ⟨m, []⟩ w.heap) (S : Bool → Heap → Prop) (H : law03uOdd l m S) :
    Calls Tryd.prog 38 #[Sl.toV l] w (Post ⟨w, m⟩ Value.bool S) := by
  refine Calls.lift (args := [Sl.toV l]) Tryd.func38 rfl Tryd.ntmps38 (Nat.le_of_ble_eq_true rfl) hr (law03uOdd l m S) H (fun H => ?_)
  refine AtC.pick (ts := [0]) rfl ?_
  unfold law03uOdd at H
  refine AtC.seqR ?_
  refine AtL.pures hT 1 _ _ _ _ rfl ?_
  refine AtL.nil ?_
  refine AtE.then_n (AtE.go ?_)
  refine AtC.seq ?_
  refine AtC.seqR ?_
  refine AtL.pures hT 3 _ _ _ _ rfl ?_
  refine AtL.nil ?_
  refine AtE.then_n (AtE.go ?_)
  refine AtC.block ?_
  refine AtC.loopM (fun (s0 : Int) => [(7, Value.int .i64 s0)]) (fun (s0 : Int) => []) [5, 6] [7, 5, 6] [] [] H (by exact rfl) (by exact rfl) (by exact rfl) (by decide) (by exact rfl) (fun Kp1 s0 h0 H Q1 HK1 => ?_)
  refine AtC.seqR ?_
  refine AtL.pures hT 1 _ _ _ _ rfl ?_
  refine AtL.nil ?_
  refine AtE.then_n (AtE.go ?_)
  refine AtC.seq ?_
  refine AtC.condB H rfl (fun H => ?_) (fun H => ?_)
  ·
   refine AtC.skip ?_
   refine AtE.then_n (AtE.go ?_)
   refine AtC.seq ?_
   refine AtC.block ?_
   refine AtC.seqR ?_
   obtain ⟨a_, hc1, hd1, H⟩ := H
   refine AtL.q rfl (Quiet1.idxS (s := _) hT rfl rfl rfl rfl rfl hc1 hd1) ?_
   obtain ⟨v, hc2, H⟩ := H
   refine AtL.q rfl (Quiet1.loadS hT rfl rfl rfl rfl hc2) ?_
   refine AtL.e rfl (EffX.allocP (cs := [_, _, _, _, _, _]) hT rfl rfl H) ?_
   rintro _ _ ⟨b, _, rfl, rfl, _, H⟩
   replace H := H.self
   refine AtL.e rfl (EffX.storeSP (i := 0) (qv := [(_, [_, _, _, _, _, _])]) hT rfl rfl rfl rfl rfl rfl rfl rfl rfl rfl) ?_
   rintro _ _ rfl
   refine AtL.nil ?_
   refine AtE.then_n (AtE.go ?_)
   refine AtC.joinSeq (β := Unit) (fun (t0 : Bool) (bb : Unit) => [(21, Value.bool t0)]) (fun (t0 : Bool) (bb : Unit) => []) [5, 6, 7] [] H (by exact rfl) (by exact rfl) (fun t0 bb h0u2 H => ?_) (fun J4 H HK4 => ?_)
   ·
    refine AtC.condB H rfl (fun H => ?_) (fun H => ?_)
    ·
     refine AtC.seqR ?_
     refine AtL.pures hT 1 _ _ _ _ rfl ?_
     refine AtL.nil ?_
     refine AtE.then_n (AtE.go ?_)
     refine AtC.ret ?_
     refine AtE.blk_r ?_
     refine AtE.then_r ?_
     refine AtE.then_r ?_
     refine AtE.blk_r ?_
     refine AtE.then_r ?_
     exact AtE.retN (rs := [.tmp 2]) rfl (ResAll.cons (ResAt.tmp rfl) ResAll.nil) rfl H
    ·
     refine AtC.skip ?_
     refine AtE.blk_n ?_
     refine AtE.then_n (AtE.go ?_)
     refine AtC.region ?_
     refine AtL.pures hT 2 _ _ _ _ rfl ?_
     refine AtL.nil ?_
     exact AtE.then_n ((HK1 _ _ H).pickP (ts := [7, 5, 6]) (is := []) rfl rfl (by decide) rfl)
   ·
    refine AtC.region ?_
    refine AtL.pures hT 1 _ _ _ _ rfl ?_
    refine AtL.q rfl (Quiet1.loadSP (i := 0) (l := [_, _, _]) hT rfl rfl rfl rfl rfl rfl rfl rfl) ?_
    refine AtL.pures hT 1 _ _ _ _ rfl ?_
    refine AtL.q rfl (Quiet1.loadSP (i := 0) (l := [_, _, _]) hT rfl rfl rfl rfl rfl rfl rfl rfl) ?_
    refine AtLX.bs (hT := hT) (cs := [_, _, _, _, _, _]) H rfl rfl rfl rfl rfl rfl rfl rfl rfl (fun a_1 h0u3 H => ?_)
    refine AtL.e rfl (EffX.call (f := 72) (sh := fun h => law02uGreat _ h _) (H0 := H) rfl Tryd.call72 rfl (hl := fun w m hr hw => lift_law02uGreat _ w m hr _ hw)) ?_
    rintro _ _ ⟨v_2, h0u4, rfl, rfl, H⟩
    refine AtL.pures hT 1 _ _ _ _ rfl ?_
    refine AtL.splitB (t := 17) H rfl (fun H => ?_) (fun H => ?_)
    ·
     refine AtL.noF rfl rfl rfl (by decide) rfl ?_
     refine AtL.noF rfl rfl rfl (by decide) rfl ?_
     refine AtL.noF rfl rfl rfl (by decide) rfl ?_
     refine AtL.pures hT 1 _ _ _ _ rfl ?_
     refine AtL.nil ?_
     exact AtE.then_n ((HK4 _ () _ H).pickP (ts := [21, 5, 6, 7]) (is := []) rfl rfl (by decide) rfl)
    ·
     refine AtL.yes rfl rfl rfl ?_
     refine AtL.q rfl (Quiet1.loadSP (i := 0) (l := [_, _, _, _, _, _]) hT rfl rfl rfl rfl rfl rfl rfl rfl) ?_
     refine AtL.yes rfl rfl rfl ?_
     refine AtL.e rfl (EffX.call (f := 98) (sh := fun h => ref03uRight _ h _) (H0 := H) rfl Tryd.call98 rfl (hl := fun w m hr hw => lift_ref03uRight _ w m hr _ hw)) ?_
     rintro _ _ ⟨v_3, h0u5, rfl, rfl, H⟩
     refine AtL.yes rfl rfl rfl ?_
     refine AtL.pures hT 1 _ _ _ _ rfl ?_
     refine AtL.pures hT 1 _ _ _ _ rfl ?_
     refine AtL.nil ?_
     exact AtE.then_n ((HK4 _ () _ H).pickP (ts := [21, 5, 6, 7]) (is := []) rfl rfl (by decide) rfl)
  ·
   refine AtC.exit ?_
   refine AtE.then_x ?_
   refine AtE.then_x ?_
   refine AtE.blk_hit ?_
   refine AtE.then_n (AtE.go ?_)
   refine AtC.seqR ?_
   refine AtL.pures hT 1 _ _ _ _ rfl ?_
   refine AtL.nil ?_
   refine AtE.then_n (AtE.go ?_)
   refine AtC.ret ?_
   exact AtE.retN (rs := [.tmp 2]) rfl (ResAll.cons (ResAt.tmp rfl) ResAll.nil) rfl H

theorem lift_ref03uOf (x0 : Bool × Sl × Sl × Bool × Sl × Sl) (w : World) (m : Heap) (hr : Rel ⟨m, []⟩ w.heap) (S : (Bool × Sl × Sl × Bool × Sl × Sl) → Heap → Prop) (H : ref03uOf x0 m S) :
    Calls Tryd.prog 39 #[Value.agg (C_bool_sl_sl_bool_sl_sl x0).toArray] w (Post ⟨w, m⟩ (fun r => Value.agg (C_bool_sl_sl_bool_sl_sl r).toArray) S) := by
  refine Calls.lift (args := [Value.agg (C_bool_sl_sl_bool_sl_sl x0).toArray]) Tryd.func39 rfl Tryd.ntmps39 (Nat.le_of_ble_eq_true rfl) hr (ref03uOf x0 m S) H (fun H => ?_)
  refine AtC.pick (ts := [0]) rfl ?_
  unfold ref03uOf at H
  refine AtC.seqR ?_
  refine AtL.e rfl (EffX.boxP (cs := [_, _, _, _, _, _]) rfl rfl rfl H) ?_
  rintro _ _ ⟨b, _, rfl, rfl, _, H⟩
  refine AtL.e rfl (EffX.allocP (cs := [_, _, _, _, _, _]) hT rfl rfl H) ?_
  rintro _ _ ⟨b_1, _, rfl, rfl, _, H⟩
  refine AtL.nil ?_
  replace H := H.self
  refine AtE.then_n (AtE.go ?_)
  apply AtC.seqS [2, 5, 7] [[], [], [], [], [], [2], [2, 5], [2, 5]] [[], [0], [0, 1], [], [3], [0, 1, 2, 3, 4], [0, 1, 2, 3, 4, 5], [0, 1, 2, 3, 4, 5, 6]] hmix (by kernel_rfl) [(3, _), (4, _), (6, _), (7, _)] rfl 3 rfl
  refine Stg.go [0, 1, 3, 4] [2] rfl rfl (QAll.cons (QOp.p hT rfl rfl rfl rfl rfl) (QAll.cons (QOp.q rfl rfl (Quiet1.loadSP (i := 1) (l := [_, _, _]) hT rfl rfl rfl rfl rfl rfl rfl rfl) rfl rfl) (QAll.cons (QOp.p hT rfl rfl rfl rfl rfl) (QAll.cons (QOp.q rfl rfl (Quiet1.loadSP (i := 1) (l := [_, _, _]) hT rfl rfl rfl rfl rfl rfl rfl rfl) rfl rfl) QAll.nil)))) ?_
  refine EAll.cons ?_ EAll.nil
  refine EOp.e rfl rfl rfl (EffX.call (f := 50) (sh := fun h => ref02uOf _ h _) (H0 := H) rfl Tryd.call50 rfl (hl := fun w m hr hw => lift_ref02uOf _ w m hr _ hw)) ?_
  rintro _ _ ⟨v, h0u1, rfl, rfl, H⟩
  apply Stg.next [(5, _)] rfl rfl
  refine Stg.go [3, 4] [5] rfl rfl (QAll.cons (QOp.p hT rfl rfl rfl rfl rfl) (QAll.cons (QOp.q rfl rfl (Quiet1.loadSP (i := 1) (l := [_, _, _]) hT rfl rfl rfl rfl rfl rfl rfl rfl) rfl rfl) QAll.nil)) ?_
  refine EAll.cons ?_ EAll.nil
  refine EOp.e rfl rfl rfl (EffX.call (f := 50) (sh := fun h => ref02uOf _ h _) (H0 := H) rfl Tryd.call50 rfl (hl := fun w m hr hw => lift_ref02uOf _ w m hr _ hw)) ?_
  rintro _ _ ⟨v_1, h0u2, rfl, rfl, H⟩
  apply Stg.next [(8, _), (9, _)] rfl rfl
  refine Stg.go [6] [7] rfl rfl (QAll.cons (QOp.q rfl rfl (Quiet1.build (cs := [_, _, _, _, _, _]) hT rfl rfl rfl rfl rfl rfl) rfl rfl) QAll.nil) ?_
  refine EAll.cons ?_ EAll.nil
  refine EOp.e rfl rfl rfl (EffX.storeSP (i := 0) (qv := [(_, [_, _, _, _, _, _]), (_, [_, _, _, _, _, _])]) hT rfl rfl rfl rfl rfl rfl rfl rfl rfl rfl) ?_
  rintro _ _ rfl
  apply Stg.next [] rfl rfl
  refine Stg.fin [] rfl rfl QAll.nil ?_
  refine AtE.then_n (AtE.go ?_)
  refine AtC.ret ?_
  exact AtE.retN (rs := [.cell 2 61]) rfl (ResAll.cons (ResAt.cellSP (i := 0) (l := [_, _, _, _, _, _]) hT rfl rfl rfl rfl rfl rfl rfl) ResAll.nil) rfl H

theorem lift_nat_Bench_Over (b : (Option Addr)) (w : World) (m : Heap) (hr : Rel ⟨m, []⟩ w.heap) (S : Bool → Heap → Prop) (H : nat_Bench_Over b m S) :
    Calls Tryd.prog 24 #[Value.pointer b] w (Post ⟨w, m⟩ Value.bool S) := by
  refine Calls.lift (args := [Value.pointer b]) Tryd.func24 rfl Tryd.ntmps24 (Nat.le_of_ble_eq_true rfl) hr (nat_Bench_Over b m S) H (fun H => ?_)
  refine AtC.pick (ts := [0]) rfl ?_
  unfold nat_Bench_Over at H
  refine AtC.seqR ?_
  refine AtL.pures hT 1 _ _ _ _ rfl ?_
  refine AtL.nil ?_
  refine AtE.then_n (AtE.go ?_)
  refine AtC.seqR ?_
  refine AtL.pures hT 1 _ _ _ _ rfl ?_
  obtain ⟨a, hc0, H⟩ := H
  refine AtL.q rfl (Quiet1.nilChk rfl rfl hc0) ?_
  refine AtL.pures hT 1 _ _ _ _ rfl ?_
  obtain ⟨v, hc1, H⟩ := H
  refine AtL.q rfl (Quiet1.load hT rfl rfl rfl hc1) ?_
  refine AtL.pures hT 1 _ _ _ _ rfl ?_
  refine AtL.nil ?_
  refine AtE.then_n (AtE.go ?_)
  refine AtC.ret ?_
  exact AtE.retN (rs := [.tmp 2]) rfl (ResAll.cons (ResAt.tmp rfl) ResAll.nil) rfl H

theorem lift_math_bits_TrailingZeros32 (x0 : Int) (w : World) (m : Heap) (hr : Rel ⟨m, []⟩ w.heap) (S : Int → Heap → Prop) (H : math_bits_TrailingZeros32 x0 m S) :
    Calls Tryd.prog 132 #[Value.int .u32 x0] w (Post ⟨w, m⟩ (Value.int .i64) S) := by
  refine Calls.lift (args := [Value.int .u32 x0]) Tryd.func132 rfl Tryd.ntmps132 (Nat.le_of_ble_eq_true rfl) hr (math_bits_TrailingZeros32 x0 m S) H (fun H => ?_)
  refine AtC.pick (ts := [0]) rfl ?_
  unfold math_bits_TrailingZeros32 at H
  refine AtC.seqR ?_
  refine AtL.pures hT 1 _ _ _ _ rfl ?_
  refine AtL.nil ?_
  refine AtE.then_n (AtE.go ?_)
  refine AtC.seq ?_
  refine AtC.seqR ?_
  refine AtL.pures hT 2 _ _ _ _ rfl ?_
  refine AtL.nil ?_
  refine AtE.then_n (AtE.go ?_)
  refine AtC.condB H rfl (fun H => ?_) (fun H => ?_)
  ·
   refine AtC.seqR ?_
   refine AtL.pures hT 1 _ _ _ _ rfl ?_
   refine AtL.nil ?_
   refine AtE.then_n (AtE.go ?_)
   refine AtC.ret ?_
   refine AtE.then_r ?_
   exact AtE.retN (rs := [.tmp 2]) rfl (ResAll.cons (ResAt.tmp rfl) ResAll.nil) rfl H
  ·
   refine AtC.skip ?_
   refine AtE.then_n (AtE.go ?_)
   refine AtC.seqR ?_
   refine AtL.pures hT 6 _ _ _ _ rfl ?_
   obtain ⟨hd0, H⟩ := H
   refine AtL.q rfl (Quiet1.idxA hT rfl rfl rfl rfl rfl hd0) ?_
   obtain ⟨v, hc1, H⟩ := H
   refine AtL.q rfl (Quiet1.load hT rfl rfl rfl hc1) ?_
   refine AtL.pures hT 2 _ _ _ _ rfl ?_
   refine AtL.nil ?_
   refine AtE.then_n (AtE.go ?_)
   refine AtC.ret ?_
   exact AtE.retN (rs := [.tmp 2]) rfl (ResAll.cons (ResAt.tmp rfl) ResAll.nil) rfl H
end Go.Proofs.YtdcdidecehbplaaDoor

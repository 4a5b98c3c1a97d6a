/- The deep code does what the functions of the shallow text say: printed by lift.py. -/
import Derived.Test.YtdcdidecehbplaaDoorProg
import Derived.Test.YtdcdidecehbplaaDoorAOSh
set_option linter.unusedVariables false
set_option linter.unusedSimpArgs false
namespace Go.Proofs.YtdcdidecehbplaaDoor
open Go Go.Lift Go.Sh
set_option maxRecDepth 100000
attribute [local irreducible] Calls AtL AtC AtE AtD Eff Quiet1 Stg qAt QAll eAt EAll nextK Code.wp

def T : TTab := [(3, .int .i64, 1, 8, [Value.int .i64 0]), (4, .bool, 1, 1, [Value.bool false]), (5, .int .u8, 1, 1, [Value.int .u8 0]), (9, .string, 1, 16, [Value.string (ByteArray.mk #[])]), (23, .slice 47, 1, 24, [Sl.toV Sl.nil]), (31, .slice 3, 1, 24, [Sl.toV Sl.nil]), (47, .int .u32, 1, 4, [Value.int .u32 0]), (114, .int .u64, 1, 8, [Value.int .u64 0]), (115, .slice 23, 1, 24, [Sl.toV Sl.nil]), (117, .struct #[⟨ "limbs", 3, 0, false, "", "steelyard/nat", 0⟩, ⟨ "over", 4, 1, false, "", "steelyard/nat", 8⟩], 2, 16, [Value.int .i64 0, Value.bool false]), (122, .slice 5, 1, 24, [Sl.toV Sl.nil]), (145, .array 2 23, 2, 48, [Sl.toV Sl.nil, Sl.toV Sl.nil]), (171, .array 32 5, 32, 32, [Value.int .u8 0, Value.int .u8 0, Value.int .u8 0, Value.int .u8 0, Value.int .u8 0, Value.int .u8 0, Value.int .u8 0, Value.int .u8 0, Value.int .u8 0, Value.int .u8 0, Value.int .u8 0, Value.int .u8 0, Value.int .u8 0, Value.int .u8 0, Value.int .u8 0, Value.int .u8 0, Value.int .u8 0, Value.int .u8 0, Value.int .u8 0, Value.int .u8 0, Value.int .u8 0, Value.int .u8 0, Value.int .u8 0, Value.int .u8 0, Value.int .u8 0, Value.int .u8 0, Value.int .u8 0, Value.int .u8 0, Value.int .u8 0, Value.int .u8 0, Value.int .u8 0, Value.int .u8 0])]
theorem hT : TTab.Ok Tryd.prog T := TTab.ok_cons (by kernel_rfl) (by kernel_rfl) (TTab.ok_cons (by kernel_rfl) (by kernel_rfl) (TTab.ok_cons (by kernel_rfl) (by kernel_rfl) (TTab.ok_cons (by kernel_rfl) (by kernel_rfl) (TTab.ok_cons (by kernel_rfl) (by kernel_rfl) (TTab.ok_cons (by kernel_rfl) (by kernel_rfl) (TTab.ok_cons (by kernel_rfl) (by kernel_rfl) (TTab.ok_cons (by kernel_rfl) (by kernel_rfl) (TTab.ok_cons (by kernel_rfl) (by kernel_rfl) (TTab.ok_cons (by kernel_rfl) (by kernel_rfl) (TTab.ok_cons (by kernel_rfl) (by kernel_rfl) (TTab.ok_cons (by kernel_rfl) (by kernel_rfl) (TTab.ok_cons (by kernel_rfl) (by kernel_rfl) (TTab.ok_nil _)))))))))))))
theorem hmix : Tryd.prog.follows .mixedOrders = true := by kernel_rfl

theorem lift_nat_New (limbs : Int) (w : World) (S : ((Option Addr)) → Heap → Prop) (H : nat_New limbs w.heap S) :
    Calls Tryd.prog 15 #[Value.int .i64 limbs] w (Post w Value.pointer S) := by
  refine Calls.lift (args := [Value.int .i64 limbs]) Tryd.func15 rfl Tryd.ntmps15 (Nat.le_of_ble_eq_true rfl) (fun h => nat_New limbs h S) H (fun h H => ?_)
  refine AtC.pick (ts := [0]) rfl ?_
  unfold nat_New at H
  refine AtC.seqR ?_
  refine AtL.pures hT 1 _ _ _ _ rfl ?_
  refine AtL.nil ?_
  refine AtE.then_n (AtE.go ?_)
  refine AtC.seqR ?_
  refine AtL.pures hT 2 _ _ _ _ rfl ?_
  refine AtL.q rfl (Quiet1.build (cs := [_, _]) hT rfl rfl rfl rfl rfl rfl) ?_
  refine AtL.e rfl (Eff.box (cs := [_, _]) rfl rfl rfl H) ?_
  rintro _ h0 ⟨a, rfl, H⟩
  refine AtL.pures hT 1 _ _ _ _ rfl ?_
  refine AtL.nil ?_
  refine AtE.then_n (AtE.go ?_)
  refine AtC.ret ?_
  exact AtE.retN (rs := [.tmp 2]) rfl (ResAll.cons (ResAt.tmp rfl) ResAll.nil) rfl H

theorem lift_nat_trim (x0 : Sl) (w : World) (S : Sl → Heap → Prop) (H : nat_trim x0 w.heap S) :
    Calls Tryd.prog 89 #[Sl.toV x0] w (Post w Sl.toV S) := by
  refine Calls.lift (args := [Sl.toV x0]) Tryd.func89 rfl Tryd.ntmps89 (Nat.le_of_ble_eq_true rfl) (fun h => nat_trim x0 h S) H (fun h H => ?_)
  refine AtC.pick (ts := [0]) rfl ?_
  unfold nat_trim at H
  refine AtC.seqR ?_
  refine AtL.pures hT 1 _ _ _ _ rfl ?_
  refine AtL.nil ?_
  refine AtE.then_n (AtE.go ?_)
  refine AtC.seq ?_
  refine AtC.block ?_
  refine AtC.loopM (fun (s0 : Sl) => [(0, Sl.toV s0)]) [] [0] H (by exact rfl) (by exact rfl) (fun Kp1 s0 h0 H Q1 HK1 => ?_)
  refine AtC.seq ?_
  refine AtC.joinSeq (fun (t0 : Bool) => [(14, Value.bool t0)]) [0] H (by exact rfl) (fun t0 h0u1 H => ?_) (fun J2 H HK2 => ?_)
  ·
   refine AtC.condB H rfl (fun H => ?_) (fun H => ?_)
   ·
    refine AtC.skip ?_
    refine AtE.then_n (AtE.go ?_)
    refine AtC.block ?_
    refine AtC.region ?_
    refine AtL.pures hT 4 _ _ _ _ rfl ?_
    refine AtL.sl (hT := hT) H rfl rfl rfl rfl rfl rfl rfl (fun h => by cases h <;> rfl) rfl (fun v_1 H => ?_)
    refine AtL.pures hT 1 _ _ _ _ rfl ?_
    refine AtL.nil ?_
    refine AtE.blk_n ?_
    exact AtE.then_n ((HK1 _ _ H).pick (ts := [0]) rfl)
   ·
    refine AtC.exit ?_
    refine AtE.then_x ?_
    refine AtE.then_x ?_
    refine AtE.blk_hit ?_
    refine AtE.then_n (AtE.go ?_)
    refine AtC.seqR ?_
    refine AtL.pures hT 2 _ _ _ _ rfl ?_
    refine AtL.nil ?_
    refine AtE.then_n (AtE.go ?_)
    refine AtC.ret ?_
    exact AtE.retN (rs := [.tmp 2]) rfl (ResAll.cons (ResAt.tmp rfl) ResAll.nil) rfl H
  ·
   refine AtC.region ?_
   refine AtL.pures hT 4 _ _ _ _ rfl ?_
   refine AtL.splitB (t := 6) H rfl (fun H => ?_) (fun H => ?_)
   ·
    refine AtL.yes rfl rfl rfl ?_
    refine AtL.pures hT 1 _ _ _ _ rfl ?_
    refine AtL.yes rfl rfl rfl ?_
    refine AtL.pures hT 1 _ _ _ _ rfl ?_
    refine AtL.yes rfl rfl rfl ?_
    refine AtL.pures hT 1 _ _ _ _ rfl ?_
    refine AtL.yes rfl rfl rfl ?_
    refine AtL.pures hT 1 _ _ _ _ rfl ?_
    refine AtL.yes rfl rfl rfl ?_
    obtain ⟨a_, hc2, hd2, H⟩ := H
    refine AtL.q rfl (Quiet1.idxS (s := _) hT rfl rfl rfl rfl rfl hc2 hd2) ?_
    refine AtL.yes rfl rfl rfl ?_
    obtain ⟨v, hc3, H⟩ := H
    refine AtL.q rfl (Quiet1.load hT rfl rfl rfl hc3) ?_
    refine AtL.yes rfl rfl rfl ?_
    refine AtL.pures hT 1 _ _ _ _ rfl ?_
    refine AtL.pures hT 1 _ _ _ _ rfl ?_
    refine AtL.nil ?_
    exact AtE.then_n ((HK2 _ _ H).pick (ts := [14, 0]) rfl)
   ·
    refine AtL.noF rfl rfl rfl (by decide) rfl ?_
    refine AtL.noF rfl rfl rfl (by decide) rfl ?_
    refine AtL.noF rfl rfl rfl (by decide) rfl ?_
    refine AtL.noF rfl rfl rfl (by decide) rfl ?_
    refine AtL.noF rfl rfl rfl (by decide) rfl ?_
    refine AtL.noF rfl rfl rfl (by decide) rfl ?_
    refine AtL.noF rfl rfl rfl (by decide) rfl ?_
    refine AtL.pures hT 1 _ _ _ _ rfl ?_
    refine AtL.nil ?_
    exact AtE.then_n ((HK2 _ _ H).pick (ts := [14, 0]) rfl)

theorem lift_nat_times (x0 : Sl) (y : Sl) (w : World) (S : Sl → Heap → Prop) (H : nat_times x0 y w.heap S) :
    Calls Tryd.prog 88 #[Sl.toV x0, Sl.toV y] w (Post w Sl.toV S) := by
  refine Calls.lift (args := [Sl.toV x0, Sl.toV y]) Tryd.func88 rfl Tryd.ntmps88 (Nat.le_of_ble_eq_true rfl) (fun h => nat_times x0 y h S) H (fun h H => ?_)
  refine AtC.pick (ts := [0, 1]) rfl ?_
  unfold nat_times at H
  refine AtC.seqR ?_
  refine AtL.pures hT 1 _ _ _ _ rfl ?_
  refine AtL.nil ?_
  refine AtE.then_n (AtE.go ?_)
  refine AtC.seqR ?_
  refine AtL.pures hT 5 _ _ _ _ rfl ?_
  replace H := H _ rfl
  refine AtL.e rfl (Eff.mkS hT rfl rfl rfl rfl rfl rfl rfl rfl (by decide) H) ?_
  rintro _ h0 ⟨v, rfl, H⟩
  refine AtL.pures hT 1 _ _ _ _ rfl ?_
  refine AtL.nil ?_
  refine AtE.then_n (AtE.go ?_)
  refine AtC.seq ?_
  refine AtC.seqR ?_
  refine AtL.pures hT 3 _ _ _ _ rfl ?_
  refine AtL.nil ?_
  refine AtE.then_n (AtE.go ?_)
  refine AtC.block ?_
  refine AtC.loopM (fun (s0 : Int) => [(19, Value.int .i64 s0)]) [1, 5, 17, 18] [19, 1, 5, 17, 18] H (by exact rfl) (by exact rfl) (fun Kp1 s0 h0u1 H Q1 HK1 => ?_)
  refine AtC.seqR ?_
  refine AtL.pures hT 1 _ _ _ _ rfl ?_
  refine AtL.nil ?_
  refine AtE.then_n (AtE.go ?_)
  refine AtC.seq ?_
  refine AtC.condB H rfl (fun H => ?_) (fun H => ?_)
  ·
   refine AtC.skip ?_
   refine AtE.then_n (AtE.go ?_)
   refine AtC.seq ?_
   refine AtC.block ?_
   refine AtC.seqR ?_
   refine AtL.pures hT 1 _ _ _ _ rfl ?_
   obtain ⟨a_, hc1, hd1, H⟩ := H
   refine AtL.q rfl (Quiet1.idxS (s := _) hT rfl rfl rfl rfl rfl hc1 hd1) ?_
   obtain ⟨v_1, hc2, H⟩ := H
   refine AtL.q rfl (Quiet1.load hT rfl rfl rfl hc2) ?_
   refine AtL.pures hT 2 _ _ _ _ rfl ?_
   refine AtL.nil ?_
   refine AtE.then_n (AtE.go ?_)
   refine AtC.seqR ?_
   refine AtL.pures hT 1 _ _ _ _ rfl ?_
   refine AtL.nil ?_
   refine AtE.then_n (AtE.go ?_)
   refine AtC.seq ?_
   refine AtC.seqR ?_
   refine AtL.pures hT 3 _ _ _ _ rfl ?_
   refine AtL.nil ?_
   refine AtE.then_n (AtE.go ?_)
   refine AtC.block ?_
   refine AtC.loopM (fun (s0u1 : Int × Int) => [(8, Value.int .u64 s0u1.1), (26, Value.int .i64 s0u1.2)]) [1, 5, 6, 7, 17, 18, 19, 24, 25] [8, 26, 1, 5, 6, 7, 17, 18, 19, 24, 25] H (by exact rfl) (by exact rfl) (fun Kp4 s0u1 h0u2 H Q4 HK4 => ?_)
   refine AtC.seqR ?_
   refine AtL.pures hT 1 _ _ _ _ rfl ?_
   refine AtL.nil ?_
   refine AtE.then_n (AtE.go ?_)
   refine AtC.seq ?_
   refine AtC.condB H rfl (fun H => ?_) (fun H => ?_)
   ·
    refine AtC.skip ?_
    refine AtE.then_n (AtE.go ?_)
    refine AtC.seq ?_
    refine AtC.block ?_
    refine AtC.seqR ?_
    refine AtL.pures hT 1 _ _ _ _ rfl ?_
    obtain ⟨a_1_, hc4, hd4, H⟩ := H
    refine AtL.q rfl (Quiet1.idxS (s := _) hT rfl rfl rfl rfl rfl hc4 hd4) ?_
    obtain ⟨v_2, hc5, H⟩ := H
    refine AtL.q rfl (Quiet1.load hT rfl rfl rfl hc5) ?_
    refine AtL.pures hT 2 _ _ _ _ rfl ?_
    refine AtL.nil ?_
    refine AtE.then_n (AtE.go ?_)
    refine AtC.seqR ?_
    refine AtL.pures hT 10 _ _ _ _ rfl ?_
    obtain ⟨a_2_, hc6, hd6, H⟩ := H
    refine AtL.q rfl (Quiet1.idxS (s := _) hT rfl rfl rfl rfl rfl hc6 hd6) ?_
    obtain ⟨v_3, hc7, H⟩ := H
    refine AtL.q rfl (Quiet1.load hT rfl rfl rfl hc7) ?_
    refine AtL.pures hT 4 _ _ _ _ rfl ?_
    replace H := H _ rfl
    refine AtL.nil ?_
    refine AtE.then_n (AtE.go ?_)
    refine AtC.seqR ?_
    refine AtL.pures hT 6 _ _ _ _ rfl ?_
    obtain ⟨a_3_, hc8, hd8, H⟩ := H
    refine AtL.q rfl (Quiet1.idxS (s := _) hT rfl rfl rfl rfl rfl hc8 hd8) ?_
    refine AtL.e rfl (Eff.store hT rfl rfl rfl rfl rfl H) ?_
    rintro _ h0u3 H
    refine AtL.nil ?_
    refine AtE.then_n (AtE.go ?_)
    refine AtC.region ?_
    refine AtL.pures hT 3 _ _ _ _ rfl ?_
    replace H := H _ rfl
    refine AtL.nil ?_
    refine AtE.blk_n ?_
    refine AtE.then_n (AtE.go ?_)
    refine AtC.region ?_
    refine AtL.pures hT 2 _ _ _ _ rfl ?_
    refine AtL.nil ?_
    exact AtE.then_n ((HK4 _ _ H).pick (ts := [8, 26, 1, 5, 6, 7, 17, 18, 19, 24, 25]) rfl)
   ·
    refine AtC.exit ?_
    refine AtE.then_x ?_
    refine AtE.then_x ?_
    refine AtE.blk_hit ?_
    refine AtE.then_n (AtE.go ?_)
    refine AtC.region ?_
    refine AtL.pures hT 7 _ _ _ _ rfl ?_
    obtain ⟨a_4_, hc9, hd9, H⟩ := H
    refine AtL.q rfl (Quiet1.idxS (s := _) hT rfl rfl rfl rfl rfl hc9 hd9) ?_
    refine AtL.e rfl (Eff.store hT rfl rfl rfl rfl rfl H) ?_
    rintro _ h0u4 H
    refine AtL.nil ?_
    refine AtE.blk_n ?_
    refine AtE.then_n (AtE.go ?_)
    refine AtC.region ?_
    refine AtL.pures hT 2 _ _ _ _ rfl ?_
    refine AtL.nil ?_
    exact AtE.then_n ((HK1 _ _ H).pick (ts := [19, 1, 5, 17, 18]) rfl)
  ·
   refine AtC.exit ?_
   refine AtE.then_x ?_
   refine AtE.then_x ?_
   refine AtE.blk_hit ?_
   refine AtE.then_n (AtE.go ?_)
   refine AtC.seqR ?_
   refine AtL.pures hT 2 _ _ _ _ rfl ?_
   refine AtL.nil ?_
   refine AtE.then_n (AtE.go ?_)
   refine AtC.ret ?_
   exact AtE.retN (rs := [.tmp 4]) rfl (ResAll.cons (ResAt.tmp rfl) ResAll.nil) rfl H

theorem lift_slices_Clone_api_Nat_uint32 (s0 : Sl) (w : World) (S : Sl → Heap → Prop) (H : slices_Clone_api_Nat_uint32 s0 w.heap S) :
    Calls Tryd.prog 118 #[Sl.toV s0] w (Post w Sl.toV S) := by
  refine Calls.lift (args := [Sl.toV s0]) Tryd.func118 rfl Tryd.ntmps118 (Nat.le_of_ble_eq_true rfl) (fun h => slices_Clone_api_Nat_uint32 s0 h S) H (fun h H => ?_)
  refine AtC.pick (ts := [0]) rfl ?_
  unfold slices_Clone_api_Nat_uint32 at H
  refine AtC.seqR ?_
  refine AtL.pures hT 1 _ _ _ _ rfl ?_
  refine AtL.nil ?_
  refine AtE.then_n (AtE.go ?_)
  refine AtC.seq ?_
  refine AtC.seqR ?_
  refine AtL.pures hT 1 _ _ _ _ rfl ?_
  refine AtL.q rfl (Quiet1.eqNilS hT rfl rfl rfl rfl) ?_
  refine AtL.nil ?_
  refine AtE.then_n (AtE.go ?_)
  refine AtC.condB H rfl (fun H => ?_) (fun H => ?_)
  ·
   refine AtC.seqR ?_
   refine AtL.pures hT 1 _ _ _ _ rfl ?_
   refine AtL.nil ?_
   refine AtE.then_n (AtE.go ?_)
   refine AtC.ret ?_
   refine AtE.then_r ?_
   exact AtE.retN (rs := [.tmp 2]) rfl (ResAll.cons (ResAt.tmp rfl) ResAll.nil) rfl H
  ·
   refine AtC.skip ?_
   refine AtE.then_n (AtE.go ?_)
   refine AtC.seqR ?_
   refine AtL.bs (hT := hT) (cs := []) H rfl rfl rfl rfl rfl rfl rfl rfl rfl (fun a h0 H => ?_)
   refine AtL.pures hT 1 _ _ _ _ rfl ?_
   refine AtL.e rfl (Eff.appendS (s := _) (u := _) hT rfl rfl rfl rfl rfl rfl rfl rfl rfl rfl (by decide) H) ?_
   rintro _ h0u1 ⟨v_1, rfl, H⟩
   refine AtL.pures hT 1 _ _ _ _ rfl ?_
   refine AtL.nil ?_
   refine AtE.then_n (AtE.go ?_)
   refine AtC.ret ?_
   exact AtE.retN (rs := [.tmp 2]) rfl (ResAll.cons (ResAt.tmp rfl) ResAll.nil) rfl H

theorem lift_nat_Bench_fit (b : (Option Addr)) (x0 : Sl) (w : World) (S : Sl → Heap → Prop) (H : nat_Bench_fit b x0 w.heap S) :
    Calls Tryd.prog 86 #[Value.pointer b, Sl.toV x0] w (Post w Sl.toV S) := by
  refine Calls.lift (args := [Value.pointer b, Sl.toV x0]) Tryd.func86 rfl Tryd.ntmps86 (Nat.le_of_ble_eq_true rfl) (fun h => nat_Bench_fit b x0 h S) H (fun h H => ?_)
  refine AtC.pick (ts := [0, 1]) rfl ?_
  unfold nat_Bench_fit at H
  refine AtC.seqR ?_
  refine AtL.pures hT 1 _ _ _ _ rfl ?_
  refine AtL.nil ?_
  refine AtE.then_n (AtE.go ?_)
  refine AtC.seqR ?_
  refine AtL.pures hT 1 _ _ _ _ rfl ?_
  refine AtL.e rfl (Eff.call (f := 89) (sh := fun h => nat_trim _ h _) (H0 := H) rfl Tryd.call89 rfl (hl := fun w hw => lift_nat_trim _ w _ hw)) ?_
  rintro _ h0 ⟨v, rfl, H⟩
  refine AtL.pures hT 1 _ _ _ _ rfl ?_
  refine AtL.nil ?_
  refine AtE.then_n (AtE.go ?_)
  refine AtC.joinSeq (fun (t0 : Unit) => []) [0, 1] H (by exact rfl) (fun t0 h0u1 H => ?_) (fun J1 H HK1 => ?_)
  ·
   refine AtC.seq ?_
   refine AtC.seqR ?_
   refine AtL.pures hT 1 _ _ _ _ rfl ?_
   obtain ⟨a_4, hc7, H⟩ := H
   refine AtL.q rfl (Quiet1.nilChk rfl rfl hc7) ?_
   refine AtL.pures hT 1 _ _ _ _ rfl ?_
   obtain ⟨v_3, hc8, H⟩ := H
   refine AtL.q rfl (Quiet1.load hT rfl rfl rfl hc8) ?_
   refine AtL.nil ?_
   refine AtE.then_n (AtE.go ?_)
   refine AtC.condB H rfl (fun H => ?_) (fun H => ?_)
   ·
    refine AtC.seqR ?_
    refine AtL.pures hT 1 _ _ _ _ rfl ?_
    refine AtL.nil ?_
    refine AtE.then_n (AtE.go ?_)
    refine AtC.ret ?_
    refine AtE.then_r ?_
    exact AtE.retN (rs := [.tmp 4]) rfl (ResAll.cons (ResAt.tmp rfl) ResAll.nil) rfl H
   ·
    refine AtC.skip ?_
    refine AtE.then_n (AtE.go ?_)
    refine AtC.seqR ?_
    refine AtL.pures hT 1 _ _ _ _ rfl ?_
    refine AtL.e rfl (Eff.call (f := 118) (sh := fun h => slices_Clone_api_Nat_uint32 _ h _) (H0 := H) rfl Tryd.call118 rfl (hl := fun w hw => lift_slices_Clone_api_Nat_uint32 _ w _ hw)) ?_
    rintro _ h0u4 ⟨v_4, rfl, H⟩
    refine AtL.pures hT 1 _ _ _ _ rfl ?_
    refine AtL.nil ?_
    refine AtE.then_n (AtE.go ?_)
    refine AtC.ret ?_
    exact AtE.retN (rs := [.tmp 4]) rfl (ResAll.cons (ResAt.tmp rfl) ResAll.nil) rfl H
  ·
   refine AtC.region ?_
   refine AtL.pures hT 2 _ _ _ _ rfl ?_
   obtain ⟨a, hc1, H⟩ := H
   refine AtL.q rfl (Quiet1.nilChk rfl rfl hc1) ?_
   refine AtL.pures hT 1 _ _ _ _ rfl ?_
   obtain ⟨v_1, hc2, H⟩ := H
   refine AtL.q rfl (Quiet1.load hT rfl rfl rfl hc2) ?_
   refine AtL.pures hT 1 _ _ _ _ rfl ?_
   refine AtL.splitB (t := 12) H rfl (fun H => ?_) (fun H => ?_)
   ·
    refine AtL.noF rfl rfl rfl (by decide) rfl ?_
    refine AtL.noF rfl rfl rfl (by decide) rfl ?_
    refine AtL.noF rfl rfl rfl (by decide) rfl ?_
    refine AtL.noF rfl rfl rfl (by decide) rfl ?_
    refine AtL.noF rfl rfl rfl (by decide) rfl ?_
    refine AtL.noF rfl rfl rfl (by decide) rfl ?_
    refine AtL.noF rfl rfl rfl (by decide) rfl ?_
    refine AtL.pures hT 1 _ _ _ _ rfl ?_
    obtain ⟨a_1, hc3, H⟩ := H
    refine AtL.q rfl (Quiet1.nilChk rfl rfl hc3) ?_
    refine AtL.pures hT 1 _ _ _ _ rfl ?_
    refine AtL.e rfl (Eff.store hT rfl rfl rfl rfl rfl H) ?_
    rintro _ h0u2 H
    refine AtL.nil ?_
    exact AtE.then_n ((HK1 _ _ H).pick (ts := [0, 1]) rfl)
   ·
    refine AtL.yes rfl rfl rfl ?_
    refine AtL.pures hT 1 _ _ _ _ rfl ?_
    refine AtL.yes rfl rfl rfl ?_
    refine AtL.pures hT 1 _ _ _ _ rfl ?_
    refine AtL.yes rfl rfl rfl ?_
    refine AtL.pures hT 1 _ _ _ _ rfl ?_
    refine AtL.yes rfl rfl rfl ?_
    obtain ⟨a_2, hc4, H⟩ := H
    refine AtL.q rfl (Quiet1.nilChk rfl rfl hc4) ?_
    refine AtL.yes rfl rfl rfl ?_
    refine AtL.pures hT 1 _ _ _ _ rfl ?_
    refine AtL.yes rfl rfl rfl ?_
    obtain ⟨v_2, hc5, H⟩ := H
    refine AtL.q rfl (Quiet1.load hT rfl rfl rfl hc5) ?_
    refine AtL.yes rfl rfl rfl ?_
    refine AtL.pures hT 1 _ _ _ _ rfl ?_
    refine AtL.pures hT 1 _ _ _ _ rfl ?_
    obtain ⟨a_3, hc6, H⟩ := H
    refine AtL.q rfl (Quiet1.nilChk rfl rfl hc6) ?_
    refine AtL.pures hT 1 _ _ _ _ rfl ?_
    refine AtL.e rfl (Eff.store hT rfl rfl rfl rfl rfl H) ?_
    rintro _ h0u3 H
    refine AtL.nil ?_
    exact AtE.then_n ((HK1 _ _ H).pick (ts := [0, 1]) rfl)

theorem lift_nat_Bench_Mul (b : (Option Addr)) (x0 : Sl) (y : Sl) (w : World) (S : Sl → Heap → Prop) (H : nat_Bench_Mul b x0 y w.heap S) :
    Calls Tryd.prog 18 #[Value.pointer b, Sl.toV x0, Sl.toV y] w (Post w Sl.toV S) := by
  refine Calls.lift (args := [Value.pointer b, Sl.toV x0, Sl.toV y]) Tryd.func18 rfl Tryd.ntmps18 (Nat.le_of_ble_eq_true rfl) (fun h => nat_Bench_Mul b x0 y h S) H (fun h H => ?_)
  refine AtC.pick (ts := [0, 1, 2]) rfl ?_
  unfold nat_Bench_Mul at H
  refine AtC.seqR ?_
  refine AtL.pures hT 1 _ _ _ _ rfl ?_
  refine AtL.nil ?_
  refine AtE.then_n (AtE.go ?_)
  refine AtC.seqR ?_
  refine AtL.pures hT 2 _ _ _ _ rfl ?_
  refine AtL.e rfl (Eff.call (f := 89) (sh := fun h => nat_trim _ h _) (H0 := H) rfl Tryd.call89 rfl (hl := fun w hw => lift_nat_trim _ w _ hw)) ?_
  rintro _ h0 ⟨v, rfl, H⟩
  refine AtL.pures hT 1 _ _ _ _ rfl ?_
  refine AtL.e rfl (Eff.call (f := 89) (sh := fun h => nat_trim _ h _) (H0 := H) rfl Tryd.call89 rfl (hl := fun w hw => lift_nat_trim _ w _ hw)) ?_
  rintro _ h0u1 ⟨v_1, rfl, H⟩
  refine AtL.e rfl (Eff.call (f := 88) (sh := fun h => nat_times _ _ h _) (H0 := H) rfl Tryd.call88 rfl (hl := fun w hw => lift_nat_times _ _ w _ hw)) ?_
  rintro _ h0u2 ⟨v_2, rfl, H⟩
  refine AtL.e rfl (Eff.call (f := 86) (sh := fun h => nat_Bench_fit _ _ h _) (H0 := H) rfl Tryd.call86 rfl (hl := fun w hw => lift_nat_Bench_fit _ _ w _ hw)) ?_
  rintro _ h0u3 ⟨v_3, rfl, H⟩
  refine AtL.pures hT 1 _ _ _ _ rfl ?_
  refine AtL.nil ?_
  refine AtE.then_n (AtE.go ?_)
  refine AtC.ret ?_
  exact AtE.retN (rs := [.tmp 6]) rfl (ResAll.cons (ResAt.tmp rfl) ResAll.nil) rfl H

theorem lift_nat_Bench_Over (b : (Option Addr)) (w : World) (S : Bool → Heap → Prop) (H : nat_Bench_Over b w.heap S) :
    Calls Tryd.prog 24 #[Value.pointer b] w (Post w Value.bool S) := by
  refine Calls.lift (args := [Value.pointer b]) Tryd.func24 rfl Tryd.ntmps24 (Nat.le_of_ble_eq_true rfl) (fun h => nat_Bench_Over b h S) H (fun h H => ?_)
  refine AtC.pick (ts := [0]) rfl ?_
  unfold nat_Bench_Over at H
  refine AtC.seqR ?_
  refine AtL.pures hT 1 _ _ _ _ rfl ?_
  refine AtL.nil ?_
  refine AtE.then_n (AtE.go ?_)
  refine AtC.seqR ?_
  refine AtL.pures hT 1 _ _ _ _ rfl ?_
  obtain ⟨a, hc0, H⟩ := H
  refine AtL.q rfl (Quiet1.nilChk rfl rfl hc0) ?_
  refine AtL.pures hT 1 _ _ _ _ rfl ?_
  obtain ⟨v, hc1, H⟩ := H
  refine AtL.q rfl (Quiet1.load hT rfl rfl rfl hc1) ?_
  refine AtL.pures hT 1 _ _ _ _ rfl ?_
  refine AtL.nil ?_
  refine AtE.then_n (AtE.go ?_)
  refine AtC.ret ?_
  exact AtE.retN (rs := [.tmp 2]) rfl (ResAll.cons (ResAt.tmp rfl) ResAll.nil) rfl H

theorem lift_nat_Of (n : Int) (w : World) (S : Sl → Heap → Prop) (H : nat_Of n w.heap S) :
    Calls Tryd.prog 85 #[Value.int .u64 n] w (Post w Sl.toV S) := by
  refine Calls.lift (args := [Value.int .u64 n]) Tryd.func85 rfl Tryd.ntmps85 (Nat.le_of_ble_eq_true rfl) (fun h => nat_Of n h S) H (fun h H => ?_)
  refine AtC.pick (ts := [0]) rfl ?_
  unfold nat_Of at H
  refine AtC.seqR ?_
  refine AtL.pures hT 1 _ _ _ _ rfl ?_
  refine AtL.nil ?_
  refine AtE.then_n (AtE.go ?_)
  refine AtC.seqR ?_
  refine AtL.pures hT 5 _ _ _ _ rfl ?_
  refine AtL.bs (hT := hT) (cs := [_, _]) H rfl rfl rfl rfl rfl rfl rfl rfl rfl (fun a h0 H => ?_)
  refine AtL.e rfl (Eff.call (f := 89) (sh := fun h => nat_trim _ h _) (H0 := H) rfl Tryd.call89 rfl (hl := fun w hw => lift_nat_trim _ w _ hw)) ?_
  rintro _ h0u1 ⟨v_1, rfl, H⟩
  refine AtL.pures hT 1 _ _ _ _ rfl ?_
  refine AtL.nil ?_
  refine AtE.then_n (AtE.go ?_)
  refine AtC.ret ?_
  exact AtE.retN (rs := [.tmp 2]) rfl (ResAll.cons (ResAt.tmp rfl) ResAll.nil) rfl H

theorem lift_nat_small (x0 : Sl) (w : World) (S : (Int × Bool) → Heap → Prop) (H : nat_small x0 w.heap S) :
    Calls Tryd.prog 96 #[Sl.toV x0] w (Post w (fun r => Value.tuple #[(Value.int .u64) r.1, Value.bool r.2]) S) := by
  refine Calls.lift (args := [Sl.toV x0]) Tryd.func96 rfl Tryd.ntmps96 (Nat.le_of_ble_eq_true rfl) (fun h => nat_small x0 h S) H (fun h H => ?_)
  refine AtC.pick (ts := [0]) rfl ?_
  unfold nat_small at H
  refine AtC.seqR ?_
  refine AtL.pures hT 2 _ _ _ _ rfl ?_
  refine AtL.nil ?_
  refine AtE.then_n (AtE.go ?_)
  refine AtC.seqR ?_
  refine AtL.pures hT 1 _ _ _ _ rfl ?_
  refine AtL.e rfl (Eff.call (f := 89) (sh := fun h => nat_trim _ h _) (H0 := H) rfl Tryd.call89 rfl (hl := fun w hw => lift_nat_trim _ w _ hw)) ?_
  rintro _ h0 ⟨v, rfl, H⟩
  refine AtL.pures hT 1 _ _ _ _ rfl ?_
  refine AtL.nil ?_
  refine AtE.then_n (AtE.go ?_)
  refine AtC.seq ?_
  refine AtC.seqR ?_
  refine AtL.pures hT 4 _ _ _ _ rfl ?_
  replace H := H _ rfl
  refine AtL.nil ?_
  refine AtE.then_n (AtE.go ?_)
  refine AtC.block ?_
  refine AtC.loopM (fun (s0 : Int × Int) => [(2, Value.int .u64 s0.1), (4, Value.int .i64 s0.2)]) [0] [2, 4, 0] H (by exact rfl) (by exact rfl) (fun Kp1 s0 h0u1 H Q1 HK1 => ?_)
  refine AtC.seq ?_
  refine AtC.seqR ?_
  refine AtL.pures hT 2 _ _ _ _ rfl ?_
  refine AtL.nil ?_
  refine AtE.then_n (AtE.go ?_)
  refine AtC.condB H rfl (fun H => ?_) (fun H => ?_)
  ·
   refine AtC.skip ?_
   refine AtE.then_n (AtE.go ?_)
   refine AtC.seq ?_
   refine AtC.block ?_
   refine AtC.region ?_
   refine AtL.pures hT 4 _ _ _ _ rfl ?_
   obtain ⟨a_, hc1, hd1, H⟩ := H
   refine AtL.q rfl (Quiet1.idxS (s := _) hT rfl rfl rfl rfl rfl hc1 hd1) ?_
   obtain ⟨v_1, hc2, H⟩ := H
   refine AtL.q rfl (Quiet1.load hT rfl rfl rfl hc2) ?_
   refine AtL.pures hT 3 _ _ _ _ rfl ?_
   replace H := H _ rfl
   refine AtL.nil ?_
   refine AtE.blk_n ?_
   refine AtE.then_n (AtE.go ?_)
   refine AtC.region ?_
   refine AtL.pures hT 3 _ _ _ _ rfl ?_
   replace H := H _ rfl
   refine AtL.nil ?_
   exact AtE.then_n ((HK1 _ _ H).pick (ts := [2, 4, 0]) rfl)
  ·
   refine AtC.exit ?_
   refine AtE.then_x ?_
   refine AtE.then_x ?_
   refine AtE.blk_hit ?_
   refine AtE.then_n (AtE.go ?_)
   refine AtC.seqR ?_
   refine AtL.pures hT 6 _ _ _ _ rfl ?_
   replace H := H _ rfl
   refine AtL.nil ?_
   refine AtE.then_n (AtE.go ?_)
   refine AtC.ret ?_
   exact AtE.retN (rs := [.tmp 2, .tmp 3]) rfl (ResAll.cons (ResAt.tmp rfl) (ResAll.cons (ResAt.tmp rfl) ResAll.nil)) rfl H

theorem lift_nat_plus (x0 : Sl) (y : Sl) (w : World) (S : Sl → Heap → Prop) (H : nat_plus x0 y w.heap S) :
    Calls Tryd.prog 87 #[Sl.toV x0, Sl.toV y] w (Post w Sl.toV S) := by
  refine Calls.lift (args := [Sl.toV x0, Sl.toV y]) Tryd.func87 rfl Tryd.ntmps87 (Nat.le_of_ble_eq_true rfl) (fun h => nat_plus x0 y h S) H (fun h H => ?_)
  refine AtC.pick (ts := [0, 1]) rfl ?_
  unfold nat_plus at H
  refine AtC.seqR ?_
  refine AtL.pures hT 1 _ _ _ _ rfl ?_
  refine AtL.nil ?_
  refine AtE.then_n (AtE.go ?_)
  refine AtC.seqR ?_
  refine AtL.pures hT 1 _ _ _ _ rfl ?_
  refine AtL.nil ?_
  refine AtE.then_n (AtE.go ?_)
  refine AtC.seq ?_
  refine AtC.seqR ?_
  refine AtL.pures hT 6 _ _ _ _ rfl ?_
  refine AtL.nil ?_
  refine AtE.then_n (AtE.go ?_)
  refine AtC.block ?_
  refine AtC.loopM (fun (s0 : Sl × Int × Int) => [(4, Sl.toV s0.1), (5, Value.int .u64 s0.2.1), (14, Value.int .i64 s0.2.2)]) [0, 1, 13] [4, 5, 14, 0, 1, 13] H (by exact rfl) (by exact rfl) (fun Kp1 s0 h0 H Q1 HK1 => ?_)
  refine AtC.seqR ?_
  refine AtL.pures hT 1 _ _ _ _ rfl ?_
  refine AtL.nil ?_
  refine AtE.then_n (AtE.go ?_)
  refine AtC.seq ?_
  refine AtC.condB H rfl (fun H => ?_) (fun H => ?_)
  ·
   refine AtC.skip ?_
   refine AtE.then_n (AtE.go ?_)
   refine AtC.seq ?_
   refine AtC.block ?_
   refine AtC.seqR ?_
   refine AtL.pures hT 2 _ _ _ _ rfl ?_
   refine AtL.nil ?_
   refine AtE.then_n (AtE.go ?_)
   refine AtC.seq ?_
   refine AtC.seqR ?_
   refine AtL.pures hT 2 _ _ _ _ rfl ?_
   refine AtL.q rfl (Quiet1.buildA (cs := [_, _]) hT rfl rfl rfl rfl rfl rfl) ?_
   refine AtL.pures hT 1 _ _ _ _ rfl ?_
   refine AtL.nil ?_
   refine AtE.then_n (AtE.go ?_)
   refine AtC.block ?_
   refine AtC.loopM (fun (s0u1 : Int × Int) => [(5, Value.int .u64 s0u1.1), (20, Value.int .i64 s0u1.2)]) [0, 1, 4, 6, 13, 14, 19] [5, 20, 0, 1, 4, 6, 13, 14, 19] H (by exact rfl) (by exact rfl) (fun Kp2 s0u1 h0u1 H Q2 HK2 => ?_)
   refine AtC.seqR ?_
   refine AtL.pures hT 1 _ _ _ _ rfl ?_
   refine AtL.nil ?_
   refine AtE.then_n (AtE.go ?_)
   refine AtC.seq ?_
   refine AtC.condB H rfl (fun H => ?_) (fun H => ?_)
   ·
    refine AtC.skip ?_
    refine AtE.then_n (AtE.go ?_)
    refine AtC.joinSeq (fun (t0 : Int) => [(5, Value.int .u64 t0)]) [0, 1, 4, 6, 13, 14, 19, 20] H (by exact rfl) (fun t0 h0u2 H => ?_) (fun J3 H HK3 => ?_)
    ·
     refine AtC.region ?_
     refine AtL.pures hT 2 _ _ _ _ rfl ?_
     refine AtL.nil ?_
     exact AtE.then_n ((HK2 _ _ H).pick (ts := [5, 20, 0, 1, 4, 6, 13, 14, 19]) rfl)
    ·
     refine AtC.block ?_
     refine AtC.seqR ?_
     obtain ⟨hd3, v, hc3, H⟩ := H
     refine AtL.q rfl (Quiet1.idxV hT rfl rfl rfl rfl rfl rfl hd3 hc3) ?_
     refine AtL.pures hT 1 _ _ _ _ rfl ?_
     refine AtL.nil ?_
     refine AtE.then_n (AtE.go ?_)
     refine AtC.seqR ?_
     refine AtL.pures hT 4 _ _ _ _ rfl ?_
     refine AtL.nil ?_
     refine AtE.then_n (AtE.go ?_)
     refine AtC.condB H rfl (fun H => ?_) (fun H => ?_)
     ·
      refine AtC.region ?_
      refine AtL.pures hT 3 _ _ _ _ rfl ?_
      obtain ⟨a_, hc4, hd4, H⟩ := H
      refine AtL.q rfl (Quiet1.idxS (s := _) hT rfl rfl rfl rfl rfl hc4 hd4) ?_
      obtain ⟨v_1, hc5, H⟩ := H
      refine AtL.q rfl (Quiet1.load hT rfl rfl rfl hc5) ?_
      refine AtL.pures hT 3 _ _ _ _ rfl ?_
      replace H := H _ rfl
      refine AtL.nil ?_
      refine AtE.blk_n ?_
      exact AtE.then_n ((HK3 _ _ H).pick (ts := [5, 0, 1, 4, 6, 13, 14, 19, 20]) rfl)
     ·
      refine AtC.skip ?_
      refine AtE.blk_n ?_
      exact AtE.then_n ((HK3 _ _ H).pick (ts := [5, 0, 1, 4, 6, 13, 14, 19, 20]) rfl)
   ·
    refine AtC.exit ?_
    refine AtE.then_x ?_
    refine AtE.then_x ?_
    refine AtE.blk_hit ?_
    refine AtE.then_n (AtE.go ?_)
    refine AtC.seqR ?_
    refine AtL.pures hT 3 _ _ _ _ rfl ?_
    refine AtL.bs (hT := hT) (cs := [_]) H rfl rfl rfl rfl rfl rfl rfl rfl rfl (fun a_1 h0u3 H => ?_)
    refine AtL.e rfl (Eff.appendS (s := _) (u := _) hT rfl rfl rfl rfl rfl rfl rfl rfl rfl rfl (by decide) H) ?_
    rintro _ h0u4 ⟨v_3, rfl, H⟩
    refine AtL.pures hT 1 _ _ _ _ rfl ?_
    refine AtL.nil ?_
    refine AtE.then_n (AtE.go ?_)
    refine AtC.region ?_
    refine AtL.pures hT 3 _ _ _ _ rfl ?_
    replace H := H _ rfl
    refine AtL.nil ?_
    refine AtE.blk_n ?_
    refine AtE.then_n (AtE.go ?_)
    refine AtC.region ?_
    refine AtL.pures hT 2 _ _ _ _ rfl ?_
    refine AtL.nil ?_
    exact AtE.then_n ((HK1 _ _ H).pick (ts := [4, 5, 14, 0, 1, 13]) rfl)
  ·
   refine AtC.exit ?_
   refine AtE.then_x ?_
   refine AtE.then_x ?_
   refine AtE.blk_hit ?_
   refine AtE.then_n (AtE.go ?_)
   refine AtC.seqR ?_
   refine AtL.pures hT 3 _ _ _ _ rfl ?_
   refine AtL.bs (hT := hT) (cs := [_]) H rfl rfl rfl rfl rfl rfl rfl rfl rfl (fun a_2 h0u5 H => ?_)
   refine AtL.e rfl (Eff.appendS (s := _) (u := _) hT rfl rfl rfl rfl rfl rfl rfl rfl rfl rfl (by decide) H) ?_
   rintro _ h0u6 ⟨v_5, rfl, H⟩
   refine AtL.pures hT 1 _ _ _ _ rfl ?_
   refine AtL.nil ?_
   refine AtE.then_n (AtE.go ?_)
   refine AtC.ret ?_
   exact AtE.retN (rs := [.tmp 4]) rfl (ResAll.cons (ResAt.tmp rfl) ResAll.nil) rfl H

theorem lift_nat_bit (x0 : Sl) (at0 : Int) (w : World) (S : Int → Heap → Prop) (H : nat_bit x0 at0 w.heap S) :
    Calls Tryd.prog 121 #[Sl.toV x0, Value.int .i64 at0] w (Post w (Value.int .u32) S) := by
  refine Calls.lift (args := [Sl.toV x0, Value.int .i64 at0]) Tryd.func121 rfl Tryd.ntmps121 (Nat.le_of_ble_eq_true rfl) (fun h => nat_bit x0 at0 h S) H (fun h H => ?_)
  refine AtC.pick (ts := [0, 1]) rfl ?_
  unfold nat_bit at H
  refine AtC.seqR ?_
  refine AtL.pures hT 1 _ _ _ _ rfl ?_
  refine AtL.nil ?_
  refine AtE.then_n (AtE.go ?_)
  refine AtC.seqR ?_
  refine AtL.pures hT 3 _ _ _ _ rfl ?_
  obtain ⟨a_, hc0, hd0, H⟩ := H
  refine AtL.q rfl (Quiet1.idxS (s := _) hT rfl rfl rfl rfl rfl hc0 hd0) ?_
  obtain ⟨v, hc1, H⟩ := H
  refine AtL.q rfl (Quiet1.load hT rfl rfl rfl hc1) ?_
  refine AtL.pures hT 2 _ _ _ _ rfl ?_
  obtain ⟨hd2, H⟩ := H
  refine AtL.q rfl (Quiet1.shr rfl rfl rfl hd2) ?_
  refine AtL.pures hT 2 _ _ _ _ rfl ?_
  refine AtL.nil ?_
  refine AtE.then_n (AtE.go ?_)
  refine AtC.ret ?_
  exact AtE.retN (rs := [.tmp 4]) rfl (ResAll.cons (ResAt.tmp rfl) ResAll.nil) rfl H

theorem lift_nat_sign (n : Int) (w : World) (S : Int → Heap → Prop) (H : nat_sign n w.heap S) :
    Calls Tryd.prog 94 #[Value.int .i64 n] w (Post w (Value.int .i64) S) := by
  refine Calls.lift (args := [Value.int .i64 n]) Tryd.func94 rfl Tryd.ntmps94 (Nat.le_of_ble_eq_true rfl) (fun h => nat_sign n h S) H (fun h H => ?_)
  refine AtC.pick (ts := [0]) rfl ?_
  unfold nat_sign at H
  refine AtC.seqR ?_
  refine AtL.pures hT 1 _ _ _ _ rfl ?_
  refine AtL.nil ?_
  refine AtE.then_n (AtE.go ?_)
  refine AtC.seqR ?_
  refine AtL.pures hT 4 _ _ _ _ rfl ?_
  refine AtL.nil ?_
  refine AtE.then_n (AtE.go ?_)
  refine AtC.ret ?_
  exact AtE.retN (rs := [.tmp 2]) rfl (ResAll.cons (ResAt.tmp rfl) ResAll.nil) rfl H

theorem lift_nat_Cmp (x0 : Sl) (y : Sl) (w : World) (S : Int → Heap → Prop) (H : nat_Cmp x0 y w.heap S) :
    Calls Tryd.prog 23 #[Sl.toV x0, Sl.toV y] w (Post w (Value.int .i64) S) := by
  refine Calls.lift (args := [Sl.toV x0, Sl.toV y]) Tryd.func23 rfl Tryd.ntmps23 (Nat.le_of_ble_eq_true rfl) (fun h => nat_Cmp x0 y h S) H (fun h H => ?_)
  refine AtC.pick (ts := [0, 1]) rfl ?_
  unfold nat_Cmp at H
  refine AtC.seqR ?_
  refine AtL.pures hT 1 _ _ _ _ rfl ?_
  refine AtL.nil ?_
  refine AtE.then_n (AtE.go ?_)
  refine AtC.seqR ?_
  refine AtL.pures hT 1 _ _ _ _ rfl ?_
  refine AtL.e rfl (Eff.call (f := 89) (sh := fun h => nat_trim _ h _) (H0 := H) rfl Tryd.call89 rfl (hl := fun w hw => lift_nat_trim _ w _ hw)) ?_
  rintro _ h0 ⟨v, rfl, H⟩
  refine AtL.pures hT 1 _ _ _ _ rfl ?_
  refine AtL.e rfl (Eff.call (f := 89) (sh := fun h => nat_trim _ h _) (H0 := H) rfl Tryd.call89 rfl (hl := fun w hw => lift_nat_trim _ w _ hw)) ?_
  rintro _ h0u1 ⟨v_1, rfl, H⟩
  refine AtL.pures hT 2 _ _ _ _ rfl ?_
  refine AtL.nil ?_
  refine AtE.then_n (AtE.go ?_)
  refine AtC.seq ?_
  refine AtC.seqR ?_
  refine AtL.pures hT 5 _ _ _ _ rfl ?_
  refine AtL.nil ?_
  refine AtE.then_n (AtE.go ?_)
  refine AtC.condB H rfl (fun H => ?_) (fun H => ?_)
  ·
   refine AtC.seqR ?_
   refine AtL.pures hT 5 _ _ _ _ rfl ?_
   refine AtL.e rfl (Eff.call (f := 94) (sh := fun h => nat_sign _ h _) (H0 := H) rfl Tryd.call94 rfl (hl := fun w hw => lift_nat_sign _ w _ hw)) ?_
   rintro _ h0u2 ⟨v_2, rfl, H⟩
   refine AtL.pures hT 1 _ _ _ _ rfl ?_
   refine AtL.nil ?_
   refine AtE.then_n (AtE.go ?_)
   refine AtC.ret ?_
   refine AtE.then_r ?_
   exact AtE.retN (rs := [.tmp 4]) rfl (ResAll.cons (ResAt.tmp rfl) ResAll.nil) rfl H
  ·
   refine AtC.skip ?_
   refine AtE.then_n (AtE.go ?_)
   refine AtC.seq ?_
   refine AtC.seqR ?_
   refine AtL.pures hT 4 _ _ _ _ rfl ?_
   replace H := H _ rfl
   refine AtL.nil ?_
   refine AtE.then_n (AtE.go ?_)
   refine AtC.block ?_
   refine AtC.loopM (fun (s0 : Int) => [(5, Value.int .i64 s0)]) [0, 1] [5, 0, 1] H (by exact rfl) (by exact rfl) (fun Kp1 s0 h0u3 H Q1 HK1 => ?_)
   refine AtC.seq ?_
   refine AtC.seqR ?_
   refine AtL.pures hT 2 _ _ _ _ rfl ?_
   refine AtL.nil ?_
   refine AtE.then_n (AtE.go ?_)
   refine AtC.condB H rfl (fun H => ?_) (fun H => ?_)
   ·
    refine AtC.skip ?_
    refine AtE.then_n (AtE.go ?_)
    refine AtC.seq ?_
    refine AtC.block ?_
    refine AtC.seqD hmix (by kernel_rfl) ?_
    refine AtD.pures hT 2 _ _ _ _ rfl ?_
    obtain ⟨a_, hc1, hd1, H⟩ := H
    refine AtD.q rfl (Quiet1.idxS (s := _) hT rfl rfl rfl rfl rfl hc1 hd1) ?_
    obtain ⟨v_3, hc2, H⟩ := H
    refine AtD.q rfl (Quiet1.load hT rfl rfl rfl hc2) ?_
    refine AtD.pures hT 2 _ _ _ _ rfl ?_
    obtain ⟨a_1_, hc3, hd3, H⟩ := H
    refine AtD.q rfl (Quiet1.idxS (s := _) hT rfl rfl rfl rfl rfl hc3 hd3) ?_
    obtain ⟨v_4, hc4, H⟩ := H
    refine AtD.q rfl (Quiet1.load hT rfl rfl rfl hc4) ?_
    refine AtD.pures hT 1 _ _ _ _ rfl ?_
    refine AtD.nil ?_
    refine AtE.then_n (AtE.go ?_)
    refine AtC.condB H rfl (fun H => ?_) (fun H => ?_)
    ·
     obtain ⟨a_2_, hc5, hd5, H⟩ := H
     obtain ⟨v_5, hc6, H⟩ := H
     obtain ⟨a_3_, hc7, hd7, H⟩ := H
     obtain ⟨v_6, hc8, H⟩ := H
     apply AtC.seqS [11] [[], [], [], [], [], [], [], [], [], [], [], [], [11]] [[], [], [0, 1], [0, 1, 2], [0, 1, 2, 3], [], [], [5, 6], [5, 6, 7], [5, 6, 7, 8], [0, 1, 2, 3, 4, 5, 6, 7, 8, 9], [0, 1, 2, 3, 4, 5, 6, 7, 8, 9, 10], [0, 1, 2, 3, 4, 5, 6, 7, 8, 9, 10, 11]] hmix (by kernel_rfl) [(37, _), (38, _), (39, _), (40, _), (41, _), (42, _), (43, _), (44, _), (45, _), (46, _), (47, _)] rfl 1 rfl
     refine Stg.go [0, 1, 2, 3, 4, 5, 6, 7, 8, 9, 10] [11] rfl rfl (QAll.cons (QOp.p hT rfl rfl rfl rfl rfl) (QAll.cons (QOp.p hT rfl rfl rfl rfl rfl) (QAll.cons (QOp.q rfl rfl (Quiet1.idxS (s := _) hT rfl rfl rfl rfl rfl hc5 hd5) rfl rfl) (QAll.cons (QOp.q rfl rfl (Quiet1.load hT rfl rfl rfl hc6) rfl rfl) (QAll.cons (QOp.p hT rfl rfl rfl rfl rfl) (QAll.cons (QOp.p hT rfl rfl rfl rfl rfl) (QAll.cons (QOp.p hT rfl rfl rfl rfl rfl) (QAll.cons (QOp.q rfl rfl (Quiet1.idxS (s := _) hT rfl rfl rfl rfl rfl hc7 hd7) rfl rfl) (QAll.cons (QOp.q rfl rfl (Quiet1.load hT rfl rfl rfl hc8) rfl rfl) (QAll.cons (QOp.p hT rfl rfl rfl rfl rfl) (QAll.cons (QOp.p hT rfl rfl rfl rfl rfl) QAll.nil))))))))))) ?_
     refine EAll.cons ?_ EAll.nil
     refine EOp.e rfl rfl rfl (Eff.call (f := 94) (sh := fun h => nat_sign _ h _) (H0 := H) rfl Tryd.call94 rfl (hl := fun w hw => lift_nat_sign _ w _ hw)) ?_
     rintro _ h0u4 ⟨v_7, rfl, H⟩
     apply Stg.next [(48, _), (4, _)] rfl rfl
     refine Stg.fin [12] rfl rfl (QAll.cons (QOp.p hT rfl rfl rfl rfl rfl) QAll.nil) ?_
     refine AtE.then_n (AtE.go ?_)
     refine AtC.ret ?_
     refine AtE.blk_r ?_
     refine AtE.then_r ?_
     refine AtE.then_r ?_
     refine AtE.blk_r ?_
     refine AtE.then_r ?_
     exact AtE.retN (rs := [.tmp 4]) rfl (ResAll.cons (ResAt.tmp rfl) ResAll.nil) rfl H
    ·
     refine AtC.skip ?_
     refine AtE.blk_n ?_
     refine AtE.then_n (AtE.go ?_)
     refine AtC.region ?_
     refine AtL.pures hT 3 _ _ _ _ rfl ?_
     replace H := H _ rfl
     refine AtL.nil ?_
     exact AtE.then_n ((HK1 _ _ H).pick (ts := [5, 0, 1]) rfl)
   ·
    refine AtC.exit ?_
    refine AtE.then_x ?_
    refine AtE.then_x ?_
    refine AtE.blk_hit ?_
    refine AtE.then_n (AtE.go ?_)
    refine AtC.seqR ?_
    refine AtL.pures hT 1 _ _ _ _ rfl ?_
    refine AtL.nil ?_
    refine AtE.then_n (AtE.go ?_)
    refine AtC.ret ?_
    exact AtE.retN (rs := [.tmp 4]) rfl (ResAll.cons (ResAt.tmp rfl) ResAll.nil) rfl H

theorem lift_nat_minus (x0 : Sl) (y : Sl) (w : World) (S : Sl → Heap → Prop) (H : nat_minus x0 y w.heap S) :
    Calls Tryd.prog 90 #[Sl.toV x0, Sl.toV y] w (Post w Sl.toV S) := by
  refine Calls.lift (args := [Sl.toV x0, Sl.toV y]) Tryd.func90 rfl Tryd.ntmps90 (Nat.le_of_ble_eq_true rfl) (fun h => nat_minus x0 y h S) H (fun h H => ?_)
  refine AtC.pick (ts := [0, 1]) rfl ?_
  unfold nat_minus at H
  refine AtC.seqR ?_
  refine AtL.pures hT 1 _ _ _ _ rfl ?_
  refine AtL.nil ?_
  refine AtE.then_n (AtE.go ?_)
  refine AtC.seqR ?_
  refine AtL.pures hT 1 _ _ _ _ rfl ?_
  refine AtL.nil ?_
  refine AtE.then_n (AtE.go ?_)
  refine AtC.seq ?_
  refine AtC.seqR ?_
  refine AtL.pures hT 3 _ _ _ _ rfl ?_
  refine AtL.nil ?_
  refine AtE.then_n (AtE.go ?_)
  refine AtC.block ?_
  refine AtC.loopM (fun (s0 : Sl × Int × Int) => [(4, Sl.toV s0.1), (5, Value.int .u64 s0.2.1), (11, Value.int .i64 s0.2.2)]) [1, 9, 10] [4, 5, 11, 1, 9, 10] H (by exact rfl) (by exact rfl) (fun Kp1 s0 h0 H Q1 HK1 => ?_)
  refine AtC.seqR ?_
  refine AtL.pures hT 1 _ _ _ _ rfl ?_
  refine AtL.nil ?_
  refine AtE.then_n (AtE.go ?_)
  refine AtC.seq ?_
  refine AtC.condB H rfl (fun H => ?_) (fun H => ?_)
  ·
   refine AtC.skip ?_
   refine AtE.then_n (AtE.go ?_)
   refine AtC.seq ?_
   refine AtC.block ?_
   refine AtC.seqR ?_
   refine AtL.pures hT 1 _ _ _ _ rfl ?_
   obtain ⟨a_, hc1, hd1, H⟩ := H
   refine AtL.q rfl (Quiet1.idxS (s := _) hT rfl rfl rfl rfl rfl hc1 hd1) ?_
   obtain ⟨v, hc2, H⟩ := H
   refine AtL.q rfl (Quiet1.load hT rfl rfl rfl hc2) ?_
   refine AtL.pures hT 2 _ _ _ _ rfl ?_
   refine AtL.nil ?_
   refine AtE.then_n (AtE.go ?_)
   refine AtC.seqR ?_
   refine AtL.pures hT 5 _ _ _ _ rfl ?_
   replace H := H _ rfl
   refine AtL.nil ?_
   refine AtE.then_n (AtE.go ?_)
   refine AtC.joinSeq (fun (t0 : Int) => [(8, Value.int .u64 t0)]) [1, 4, 9, 10, 11] H (by exact rfl) (fun t0 h0u1 H => ?_) (fun J4 H HK4 => ?_)
   ·
    refine AtC.seqR ?_
    refine AtL.pures hT 3 _ _ _ _ rfl ?_
    refine AtL.bs (hT := hT) (cs := [_]) H rfl rfl rfl rfl rfl rfl rfl rfl rfl (fun a_2 h0u2 H => ?_)
    refine AtL.e rfl (Eff.appendS (s := _) (u := _) hT rfl rfl rfl rfl rfl rfl rfl rfl rfl rfl (by decide) H) ?_
    rintro _ h0u3 ⟨v_3, rfl, H⟩
    refine AtL.pures hT 1 _ _ _ _ rfl ?_
    refine AtL.nil ?_
    refine AtE.then_n (AtE.go ?_)
    refine AtC.region ?_
    refine AtL.pures hT 3 _ _ _ _ rfl ?_
    replace H := H _ rfl
    refine AtL.nil ?_
    refine AtE.blk_n ?_
    refine AtE.then_n (AtE.go ?_)
    refine AtC.region ?_
    refine AtL.pures hT 2 _ _ _ _ rfl ?_
    refine AtL.nil ?_
    exact AtE.then_n ((HK1 _ _ H).pick (ts := [4, 5, 11, 1, 9, 10]) rfl)
   ·
    refine AtC.seqR ?_
    refine AtL.pures hT 4 _ _ _ _ rfl ?_
    refine AtL.nil ?_
    refine AtE.then_n (AtE.go ?_)
    refine AtC.condB H rfl (fun H => ?_) (fun H => ?_)
    ·
     refine AtC.region ?_
     refine AtL.pures hT 3 _ _ _ _ rfl ?_
     obtain ⟨a_1_, hc4, hd4, H⟩ := H
     refine AtL.q rfl (Quiet1.idxS (s := _) hT rfl rfl rfl rfl rfl hc4 hd4) ?_
     obtain ⟨v_1, hc5, H⟩ := H
     refine AtL.q rfl (Quiet1.load hT rfl rfl rfl hc5) ?_
     refine AtL.pures hT 3 _ _ _ _ rfl ?_
     replace H := H _ rfl
     refine AtL.nil ?_
     exact AtE.then_n ((HK4 _ _ H).pick (ts := [8, 1, 4, 9, 10, 11]) rfl)
    ·
     refine AtC.skip ?_
     exact AtE.then_n ((HK4 _ _ H).pick (ts := [8, 1, 4, 9, 10, 11]) rfl)
  ·
   refine AtC.exit ?_
   refine AtE.then_x ?_
   refine AtE.then_x ?_
   refine AtE.blk_hit ?_
   refine AtE.then_n (AtE.go ?_)
   refine AtC.seqR ?_
   refine AtL.pures hT 1 _ _ _ _ rfl ?_
   refine AtL.e rfl (Eff.call (f := 89) (sh := fun h => nat_trim _ h _) (H0 := H) rfl Tryd.call89 rfl (hl := fun w hw => lift_nat_trim _ w _ hw)) ?_
   rintro _ h0u4 ⟨v_4, rfl, H⟩
   refine AtL.pures hT 1 _ _ _ _ rfl ?_
   refine AtL.nil ?_
   refine AtE.then_n (AtE.go ?_)
   refine AtC.ret ?_
   exact AtE.retN (rs := [.tmp 4]) rfl (ResAll.cons (ResAt.tmp rfl) ResAll.nil) rfl H

theorem lift_nat_divide (x0 : Sl) (y : Sl) (w : World) (S : (Sl × Sl) → Heap → Prop) (H : nat_divide x0 y w.heap S) :
    Calls Tryd.prog 93 #[Sl.toV x0, Sl.toV y] w (Post w (fun r => Value.tuple #[Sl.toV r.1, Sl.toV r.2]) S) := by
  refine Calls.lift (args := [Sl.toV x0, Sl.toV y]) Tryd.func93 rfl Tryd.ntmps93 (Nat.le_of_ble_eq_true rfl) (fun h => nat_divide x0 y h S) H (fun h H => ?_)
  refine AtC.pick (ts := [0, 1]) rfl ?_
  unfold nat_divide at H
  refine AtC.seqR ?_
  refine AtL.pures hT 2 _ _ _ _ rfl ?_
  refine AtL.nil ?_
  refine AtE.then_n (AtE.go ?_)
  refine AtC.seqR ?_
  refine AtL.pures hT 1 _ _ _ _ rfl ?_
  refine AtL.e rfl (Eff.call (f := 96) (sh := fun h => nat_small _ h _) (H0 := H) rfl Tryd.call96 rfl (hl := fun w hw => lift_nat_small _ w _ hw)) ?_
  rintro _ h0 ⟨v, rfl, H⟩
  refine AtL.pures hT 5 _ _ _ _ rfl ?_
  refine AtL.nil ?_
  refine AtE.then_n (AtE.go ?_)
  refine AtC.seqR ?_
  refine AtL.pures hT 1 _ _ _ _ rfl ?_
  refine AtL.e rfl (Eff.call (f := 96) (sh := fun h => nat_small _ h _) (H0 := H) rfl Tryd.call96 rfl (hl := fun w hw => lift_nat_small _ w _ hw)) ?_
  rintro _ h0u1 ⟨v_1, rfl, H⟩
  refine AtL.pures hT 5 _ _ _ _ rfl ?_
  refine AtL.nil ?_
  refine AtE.then_n (AtE.go ?_)
  refine AtC.seq ?_
  refine AtC.joinSeq (fun (t0 : Bool) => [(24, Value.bool t0)]) [0, 1, 5, 6, 8] H (by exact rfl) (fun t0 h0u2 H => ?_) (fun J1 H HK1 => ?_)
  ·
   refine AtC.condB H rfl (fun H => ?_) (fun H => ?_)
   ·
    obtain ⟨hd1, H⟩ := H
    obtain ⟨hd2, H⟩ := H
    apply AtC.seqS [3, 7] [[], [], [], [], [], [], [], [3], [3, 7], [3, 7]] [[], [], [0, 1], [0, 1, 2], [], [], [4, 5], [0, 1, 2, 3, 4, 5, 6], [0, 1, 2, 3, 4, 5, 6, 7], [0, 1, 2, 3, 4, 5, 6, 7, 8]] hmix (by kernel_rfl) [(25, _), (26, _), (27, _), (29, _), (30, _), (31, _)] rfl 2 rfl
    refine Stg.go [0, 1, 2, 4, 5, 6] [3] rfl rfl (QAll.cons (QOp.p hT rfl rfl rfl rfl rfl) (QAll.cons (QOp.p hT rfl rfl rfl rfl rfl) (QAll.cons (QOp.q rfl rfl (Quiet1.quo rfl rfl rfl hd1) rfl rfl) (QAll.cons (QOp.p hT rfl rfl rfl rfl rfl) (QAll.cons (QOp.p hT rfl rfl rfl rfl rfl) (QAll.cons (QOp.q rfl rfl (Quiet1.rem rfl rfl rfl hd2) rfl rfl) QAll.nil)))))) ?_
    refine EAll.cons ?_ EAll.nil
    refine EOp.e rfl rfl rfl (Eff.call (f := 85) (sh := fun h => nat_Of _ h _) (H0 := H) rfl Tryd.call85 rfl (hl := fun w hw => lift_nat_Of _ w _ hw)) ?_
    rintro _ h0u3 ⟨v_2, rfl, H⟩
    apply Stg.next [(28, _)] rfl rfl
    refine Stg.go [4, 5, 6] [7] rfl rfl (QAll.cons (QOp.p hT rfl rfl rfl rfl rfl) (QAll.cons (QOp.p hT rfl rfl rfl rfl rfl) (QAll.cons (QOp.q rfl rfl (Quiet1.rem rfl rfl rfl hd2) rfl rfl) QAll.nil))) ?_
    refine EAll.cons ?_ EAll.nil
    refine EOp.e rfl rfl rfl (Eff.call (f := 85) (sh := fun h => nat_Of _ h _) (H0 := H) rfl Tryd.call85 rfl (hl := fun w hw => lift_nat_Of _ w _ hw)) ?_
    rintro _ h0u4 ⟨v_3, rfl, H⟩
    apply Stg.next [(32, _), (4, _), (5, _)] rfl rfl
    refine Stg.fin [8, 9] rfl rfl (QAll.cons (QOp.p hT rfl rfl rfl rfl rfl) (QAll.cons (QOp.p hT rfl rfl rfl rfl rfl) QAll.nil)) ?_
    refine AtE.then_n (AtE.go ?_)
    refine AtC.ret ?_
    refine AtE.then_r ?_
    exact AtE.retN (rs := [.tmp 4, .tmp 5]) rfl (ResAll.cons (ResAt.tmp rfl) (ResAll.cons (ResAt.tmp rfl) ResAll.nil)) rfl H
   ·
    refine AtC.skip ?_
    refine AtE.then_n (AtE.go ?_)
    refine AtC.seqR ?_
    refine AtL.pures hT 1 _ _ _ _ rfl ?_
    refine AtL.e rfl (Eff.call (f := 89) (sh := fun h => nat_trim _ h _) (H0 := H) rfl Tryd.call89 rfl (hl := fun w hw => lift_nat_trim _ w _ hw)) ?_
    rintro _ h0u5 ⟨v_4, rfl, H⟩
    refine AtL.pures hT 1 _ _ _ _ rfl ?_
    refine AtL.e rfl (Eff.call (f := 89) (sh := fun h => nat_trim _ h _) (H0 := H) rfl Tryd.call89 rfl (hl := fun w hw => lift_nat_trim _ w _ hw)) ?_
    rintro _ h0u6 ⟨v_5, rfl, H⟩
    refine AtL.pures hT 2 _ _ _ _ rfl ?_
    refine AtL.nil ?_
    refine AtE.then_n (AtE.go ?_)
    refine AtC.seqR ?_
    refine AtL.pures hT 2 _ _ _ _ rfl ?_
    replace H := H _ rfl
    refine AtL.e rfl (Eff.mkS hT rfl rfl rfl rfl rfl rfl rfl rfl (by decide) H) ?_
    rintro _ h0u7 ⟨v_6, rfl, H⟩
    refine AtL.pures hT 1 _ _ _ _ rfl ?_
    refine AtL.nil ?_
    refine AtE.then_n (AtE.go ?_)
    refine AtC.seq ?_
    refine AtC.seqR ?_
    refine AtL.pures hT 5 _ _ _ _ rfl ?_
    replace H := H _ rfl
    refine AtL.nil ?_
    refine AtE.then_n (AtE.go ?_)
    refine AtC.block ?_
    refine AtC.loopM (fun (s0 : Sl × Int) => [(5, Sl.toV s0.1), (10, Value.int .i64 s0.2)]) [0, 1, 4] [5, 10, 0, 1, 4] H (by exact rfl) (by exact rfl) (fun Kp4 s0 h0u8 H Q4 HK4 => ?_)
    refine AtC.seq ?_
    refine AtC.seqR ?_
    refine AtL.pures hT 2 _ _ _ _ rfl ?_
    refine AtL.nil ?_
    refine AtE.then_n (AtE.go ?_)
    refine AtC.condB H rfl (fun H => ?_) (fun H => ?_)
    ·
     refine AtC.skip ?_
     refine AtE.then_n (AtE.go ?_)
     refine AtC.joinSeq (fun (t0u1 : Sl) => [(5, Sl.toV t0u1)]) [0, 1, 4, 10] H (by exact rfl) (fun t0u1 h0u9 H => ?_) (fun J5 H HK5 => ?_)
     ·
      refine AtC.region ?_
      refine AtL.pures hT 3 _ _ _ _ rfl ?_
      replace H := H _ rfl
      refine AtL.nil ?_
      exact AtE.then_n ((HK4 _ _ H).pick (ts := [5, 10, 0, 1, 4]) rfl)
     ·
      refine AtC.block ?_
      refine AtC.seqR ?_
      refine AtL.pures hT 2 _ _ _ _ rfl ?_
      refine AtL.e rfl (Eff.call (f := 87) (sh := fun h => nat_plus _ _ h _) (H0 := H) rfl Tryd.call87 rfl (hl := fun w hw => lift_nat_plus _ _ w _ hw)) ?_
      rintro _ h0u10 ⟨v_7, rfl, H⟩
      refine AtL.pures hT 1 _ _ _ _ rfl ?_
      refine AtL.nil ?_
      refine AtE.then_n (AtE.go ?_)
      obtain ⟨a_, hc5, hd5, H⟩ := H
      obtain ⟨v_8, hc6, H⟩ := H
      apply AtC.seqS [5, 8] [[], [], [], [], [], [], [5], [5], [5]] [[], [0], [0, 1], [], [], [3, 4], [0, 1, 2, 3, 4, 5], [0, 1, 2, 3, 4, 5, 6], [0, 1, 2, 3, 4, 5, 6, 7]] hmix (by kernel_rfl) [(51, _), (52, _), (53, _), (54, _), (55, _)] rfl 2 rfl
      refine Stg.go [0, 1, 2, 3, 4] [5] rfl rfl (QAll.cons (QOp.p hT rfl rfl rfl rfl rfl) (QAll.cons (QOp.q rfl rfl (Quiet1.idxS (s := _) hT rfl rfl rfl rfl rfl hc5 hd5) rfl rfl) (QAll.cons (QOp.q rfl rfl (Quiet1.load hT rfl rfl rfl hc6) rfl rfl) (QAll.cons (QOp.p hT rfl rfl rfl rfl rfl) (QAll.cons (QOp.p hT rfl rfl rfl rfl rfl) QAll.nil))))) ?_
      refine EAll.cons ?_ EAll.nil
      refine EOp.e rfl rfl rfl (Eff.call (f := 121) (sh := fun h => nat_bit _ _ h _) (H0 := H) rfl Tryd.call121 rfl (hl := fun w hw => lift_nat_bit _ _ w _ hw)) ?_
      rintro _ h0u11 ⟨v_9, rfl, H⟩
      obtain ⟨hc7, H⟩ := H
      obtain ⟨a_1_, hc8, hd8, H⟩ := H
      apply Stg.next [(56, _), (57, _), (58, _)] rfl rfl
      refine Stg.go [0, 1, 2, 6, 7] [8] rfl rfl (QAll.cons (QOp.p hT rfl rfl rfl rfl rfl) (QAll.cons (QOp.q rfl rfl (Quiet1.idxS (s := _) hT rfl rfl rfl rfl rfl hc5 hd5) rfl rfl) (QAll.cons (QOp.q rfl rfl (Quiet1.load hT rfl rfl rfl hc7) rfl rfl) (QAll.cons (QOp.p hT rfl rfl rfl rfl rfl) (QAll.cons (QOp.q rfl rfl (Quiet1.idxS (s := _) hT rfl rfl rfl rfl rfl hc8 hd8) rfl rfl) QAll.nil))))) ?_
      refine EAll.cons ?_ EAll.nil
      refine EOp.e rfl rfl rfl (Eff.store hT rfl rfl rfl rfl rfl H) ?_
      rintro _ h0u12 H
      apply Stg.next [] rfl rfl
      refine Stg.fin [] rfl rfl QAll.nil ?_
      refine AtE.then_n (AtE.go ?_)
      refine AtC.seqR ?_
      refine AtL.pures hT 1 _ _ _ _ rfl ?_
      refine AtL.e rfl (Eff.call (f := 89) (sh := fun h => nat_trim _ h _) (H0 := H) rfl Tryd.call89 rfl (hl := fun w hw => lift_nat_trim _ w _ hw)) ?_
      rintro _ h0u13 ⟨v_10, rfl, H⟩
      refine AtL.pures hT 1 _ _ _ _ rfl ?_
      refine AtL.nil ?_
      refine AtE.then_n (AtE.go ?_)
      refine AtC.seqR ?_
      refine AtL.pures hT 2 _ _ _ _ rfl ?_
      refine AtL.e rfl (Eff.call (f := 23) (sh := fun h => nat_Cmp _ _ h _) (H0 := H) rfl Tryd.call23 rfl (hl := fun w hw => lift_nat_Cmp _ _ w _ hw)) ?_
      rintro _ h0u14 ⟨v_11, rfl, H⟩
      refine AtL.pures hT 1 _ _ _ _ rfl ?_
      refine AtL.nil ?_
      refine AtE.then_n (AtE.go ?_)
      refine AtC.condB H rfl (fun H => ?_) (fun H => ?_)
      ·
       refine AtC.seqR ?_
       refine AtL.pures hT 2 _ _ _ _ rfl ?_
       refine AtL.e rfl (Eff.call (f := 90) (sh := fun h => nat_minus _ _ h _) (H0 := H) rfl Tryd.call90 rfl (hl := fun w hw => lift_nat_minus _ _ w _ hw)) ?_
       rintro _ h0u15 ⟨v_12, rfl, H⟩
       refine AtL.pures hT 1 _ _ _ _ rfl ?_
       refine AtL.nil ?_
       refine AtE.then_n (AtE.go ?_)
       obtain ⟨a_2_, hc9, hd9, H⟩ := H
       obtain ⟨v_13, hc10, H⟩ := H
       obtain ⟨hd11, H⟩ := H
       obtain ⟨a_3_, hc12, hd12, H⟩ := H
       apply AtC.stages [10] [[], [], [], [], [], [], [], [], [], [], []] [[], [], [1], [0, 1, 2], [0, 1, 2, 3], [], [5], [5, 6], [0, 1, 2, 3, 4, 5, 6, 7], [0, 1, 2, 3, 4, 5, 6, 7, 8], [0, 1, 2, 3, 4, 5, 6, 7, 8, 9]] hmix (by kernel_rfl) [(68, _), (69, _), (70, _), (71, _), (72, _), (73, _), (74, _), (75, _), (76, _), (77, _)] rfl 1 rfl
       refine Stg.go [0, 1, 2, 3, 4, 5, 6, 7, 8, 9] [10] rfl rfl (QAll.cons (QOp.p hT rfl rfl rfl rfl rfl) (QAll.cons (QOp.p hT rfl rfl rfl rfl rfl) (QAll.cons (QOp.p hT rfl rfl rfl rfl rfl) (QAll.cons (QOp.q rfl rfl (Quiet1.idxS (s := _) hT rfl rfl rfl rfl rfl hc9 hd9) rfl rfl) (QAll.cons (QOp.q rfl rfl (Quiet1.load hT rfl rfl rfl hc10) rfl rfl) (QAll.cons (QOp.p hT rfl rfl rfl rfl rfl) (QAll.cons (QOp.p hT rfl rfl rfl rfl rfl) (QAll.cons (QOp.q rfl rfl (Quiet1.shl rfl rfl rfl hd11) rfl rfl) (QAll.cons (QOp.p hT rfl rfl rfl rfl rfl) (QAll.cons (QOp.q rfl rfl (Quiet1.idxS (s := _) hT rfl rfl rfl rfl rfl hc12 hd12) rfl rfl) QAll.nil)))))))))) ?_
       refine EAll.cons ?_ EAll.nil
       refine EOp.e rfl rfl rfl (Eff.store hT rfl rfl rfl rfl rfl H) ?_
       rintro _ h0u16 H
       apply Stg.next [] rfl rfl
       refine Stg.fin [] rfl rfl QAll.nil ?_
       refine AtE.blk_n ?_
       exact AtE.then_n ((HK5 _ _ H).pick (ts := [5, 0, 1, 4, 10]) rfl)
      ·
       refine AtC.skip ?_
       refine AtE.blk_n ?_
       exact AtE.then_n ((HK5 _ _ H).pick (ts := [5, 0, 1, 4, 10]) rfl)
    ·
     refine AtC.exit ?_
     refine AtE.then_x ?_
     refine AtE.then_x ?_
     refine AtE.blk_hit ?_
     refine AtE.then_n (AtE.go ?_)
     refine AtC.seqR ?_
     refine AtL.pures hT 1 _ _ _ _ rfl ?_
     refine AtL.e rfl (Eff.call (f := 89) (sh := fun h => nat_trim _ h _) (H0 := H) rfl Tryd.call89 rfl (hl := fun w hw => lift_nat_trim _ w _ hw)) ?_
     rintro _ h0u17 ⟨v_14, rfl, H⟩
     refine AtL.pures hT 3 _ _ _ _ rfl ?_
     refine AtL.nil ?_
     refine AtE.then_n (AtE.go ?_)
     refine AtC.ret ?_
     exact AtE.retN (rs := [.tmp 4, .tmp 5]) rfl (ResAll.cons (ResAt.tmp rfl) (ResAll.cons (ResAt.tmp rfl) ResAll.nil)) rfl H
  ·
   refine AtC.region ?_
   refine AtL.pures hT 2 _ _ _ _ rfl ?_
   refine AtL.splitB (t := 22) H rfl (fun H => ?_) (fun H => ?_)
   ·
    refine AtL.yes rfl rfl rfl ?_
    refine AtL.pures hT 1 _ _ _ _ rfl ?_
    refine AtL.pures hT 1 _ _ _ _ rfl ?_
    refine AtL.nil ?_
    exact AtE.then_n ((HK1 _ _ H).pick (ts := [24, 0, 1, 5, 6, 8]) rfl)
   ·
    refine AtL.noF rfl rfl rfl (by decide) rfl ?_
    refine AtL.pures hT 1 _ _ _ _ rfl ?_
    refine AtL.nil ?_
    exact AtE.then_n ((HK1 _ _ H).pick (ts := [24, 0, 1, 5, 6, 8]) rfl)

theorem lift_slices_Reverse_byte_byte (s0 : Sl) (w : World) (S : Unit → Heap → Prop) (H : slices_Reverse_byte_byte s0 w.heap S) :
    Calls Tryd.prog 97 #[Sl.toV s0] w (Post w (fun _ => Value.tuple #[]) S) := by
  refine Calls.lift (args := [Sl.toV s0]) Tryd.func97 rfl Tryd.ntmps97 (Nat.le_of_ble_eq_true rfl) (fun h => slices_Reverse_byte_byte s0 h S) H (fun h H => ?_)
  refine AtC.pick (ts := [0]) rfl ?_
  unfold slices_Reverse_byte_byte at H
  refine AtC.seqR ?_
  refine AtL.pures hT 5 _ _ _ _ rfl ?_
  replace H := H _ rfl
  refine AtL.nil ?_
  refine AtE.then_n (AtE.go ?_)
  refine AtC.block ?_
  refine AtC.loopM (fun (s0u1 : Int × Int) => [(2, Value.int .i64 s0u1.1), (3, Value.int .i64 s0u1.2)]) [0] [2, 3, 0] H (by exact rfl) (by exact rfl) (fun Kp1 s0u1 h0 H Q1 HK1 => ?_)
  refine AtC.seq ?_
  refine AtC.seqR ?_
  refine AtL.pures hT 3 _ _ _ _ rfl ?_
  refine AtL.nil ?_
  refine AtE.then_n (AtE.go ?_)
  refine AtC.condB H rfl (fun H => ?_) (fun H => ?_)
  ·
   refine AtC.skip ?_
   refine AtE.then_n (AtE.go ?_)
   refine AtC.seq ?_
   refine AtC.block ?_
   obtain ⟨a_, hc1, hd1, H⟩ := H
   obtain ⟨v, hc2, H⟩ := H
   obtain ⟨a_1_, hc3, hd3, H⟩ := H
   obtain ⟨v_1, hc4, H⟩ := H
   obtain ⟨a_2_, hc5, hd5, H⟩ := H
   apply AtC.stages [13, 15] [[], [], [], [], [], [], [], [], [], [], [], [], [], [], [13], [13]] [[], [], [], [], [], [], [4, 5], [4, 5, 6], [], [], [8, 9], [8, 9, 10], [0, 1, 4, 5, 6, 7, 8, 9, 10, 11], [0, 1, 4, 5, 6, 7, 8, 9, 10, 11, 12], [0, 1, 2, 3, 4, 5, 6, 7, 8, 9, 10, 11, 12, 13], [0, 1, 2, 3, 4, 5, 6, 7, 8, 9, 10, 11, 12, 13, 14]] hmix (by kernel_rfl) [(14, _), (15, _), (16, _), (17, _), (18, _), (19, _), (20, _), (21, _), (22, _), (23, _), (24, _), (25, _), (26, _)] rfl 2 rfl
   refine Stg.go [0, 1, 2, 3, 4, 5, 6, 7, 8, 9, 10, 11, 12] [13] rfl rfl (QAll.cons (QOp.p hT rfl rfl rfl rfl rfl) (QAll.cons (QOp.p hT rfl rfl rfl rfl rfl) (QAll.cons (QOp.p hT rfl rfl rfl rfl rfl) (QAll.cons (QOp.p hT rfl rfl rfl rfl rfl) (QAll.cons (QOp.p hT rfl rfl rfl rfl rfl) (QAll.cons (QOp.p hT rfl rfl rfl rfl rfl) (QAll.cons (QOp.q rfl rfl (Quiet1.idxS (s := _) hT rfl rfl rfl rfl rfl hc1 hd1) rfl rfl) (QAll.cons (QOp.q rfl rfl (Quiet1.load hT rfl rfl rfl hc2) rfl rfl) (QAll.cons (QOp.p hT rfl rfl rfl rfl rfl) (QAll.cons (QOp.p hT rfl rfl rfl rfl rfl) (QAll.cons (QOp.q rfl rfl (Quiet1.idxS (s := _) hT rfl rfl rfl rfl rfl hc3 hd3) rfl rfl) (QAll.cons (QOp.q rfl rfl (Quiet1.load hT rfl rfl rfl hc4) rfl rfl) (QAll.cons (QOp.q rfl rfl (Quiet1.idxS (s := _) hT rfl rfl rfl rfl rfl hc5 hd5) rfl rfl) QAll.nil))))))))))))) ?_
   refine EAll.cons ?_ EAll.nil
   refine EOp.e rfl rfl rfl (Eff.store hT rfl rfl rfl rfl rfl H) ?_
   rintro _ h0u1 H
   obtain ⟨a_3_, hc6, hd6, H⟩ := H
   apply Stg.next [(27, _)] rfl rfl
   refine Stg.go [2, 3, 14] [15] rfl rfl (QAll.cons (QOp.p hT rfl rfl rfl rfl rfl) (QAll.cons (QOp.p hT rfl rfl rfl rfl rfl) (QAll.cons (QOp.q rfl rfl (Quiet1.idxS (s := _) hT rfl rfl rfl rfl rfl hc6 hd6) rfl rfl) QAll.nil))) ?_
   refine EAll.cons ?_ EAll.nil
   refine EOp.e rfl rfl rfl (Eff.store hT rfl rfl rfl rfl rfl H) ?_
   rintro _ h0u2 H
   apply Stg.next [] rfl rfl
   refine Stg.fin [] rfl rfl QAll.nil ?_
   refine AtE.blk_n ?_
   refine AtE.then_n (AtE.go ?_)
   refine AtC.region ?_
   refine AtL.pures hT 6 _ _ _ _ rfl ?_
   replace H := H _ rfl
   replace H := H _ rfl
   refine AtL.nil ?_
   exact AtE.then_n ((HK1 _ _ H).pick (ts := [2, 3, 0]) rfl)
  ·
   refine AtC.exit ?_
   refine AtE.then_x ?_
   refine AtE.then_x ?_
   refine AtE.blk_hit ?_
   exact AtE.endN rfl rfl H

theorem lift_nat_Text (x0 : Sl) (w : World) (S : ByteArray → Heap → Prop) (H : nat_Text x0 w.heap S) :
    Calls Tryd.prog 34 #[Sl.toV x0] w (Post w Value.string S) := by
  refine Calls.lift (args := [Sl.toV x0]) Tryd.func34 rfl Tryd.ntmps34 (Nat.le_of_ble_eq_true rfl) (fun h => nat_Text x0 h S) H (fun h H => ?_)
  refine AtC.pick (ts := [0]) rfl ?_
  unfold nat_Text at H
  refine AtC.seqR ?_
  refine AtL.pures hT 1 _ _ _ _ rfl ?_
  refine AtL.nil ?_
  refine AtE.then_n (AtE.go ?_)
  refine AtC.seqR ?_
  refine AtL.pures hT 1 _ _ _ _ rfl ?_
  refine AtL.nil ?_
  refine AtE.then_n (AtE.go ?_)
  refine AtC.seq ?_
  refine AtC.seqR ?_
  refine AtL.pures hT 1 _ _ _ _ rfl ?_
  refine AtL.e rfl (Eff.call (f := 89) (sh := fun h => nat_trim _ h _) (H0 := H) rfl Tryd.call89 rfl (hl := fun w hw => lift_nat_trim _ w _ hw)) ?_
  rintro _ h0 ⟨v, rfl, H⟩
  refine AtL.pures hT 1 _ _ _ _ rfl ?_
  refine AtL.nil ?_
  refine AtE.then_n (AtE.go ?_)
  refine AtC.block ?_
  refine AtC.loopM (fun (s0 : Sl × Sl) => [(0, Sl.toV s0.1), (3, Sl.toV s0.2)]) [] [0, 3] H (by exact rfl) (by exact rfl) (fun Kp1 s0 h0u1 H Q1 HK1 => ?_)
  refine AtC.seq ?_
  refine AtC.seqR ?_
  refine AtL.pures hT 3 _ _ _ _ rfl ?_
  refine AtL.nil ?_
  refine AtE.then_n (AtE.go ?_)
  refine AtC.condB H rfl (fun H => ?_) (fun H => ?_)
  ·
   refine AtC.skip ?_
   refine AtE.then_n (AtE.go ?_)
   refine AtC.block ?_
   refine AtC.seqR ?_
   refine AtL.pures hT 1 _ _ _ _ rfl ?_
   refine AtL.bs (hT := hT) (cs := [_]) H rfl rfl rfl rfl rfl rfl rfl rfl rfl (fun a h0u2 H => ?_)
   refine AtL.e rfl (Eff.call (f := 93) (sh := fun h => nat_divide _ _ h _) (H0 := H) rfl Tryd.call93 rfl (hl := fun w hw => lift_nat_divide _ _ w _ hw)) ?_
   rintro _ h0u3 ⟨v_2, rfl, H⟩
   refine AtL.pures hT 5 _ _ _ _ rfl ?_
   refine AtL.nil ?_
   refine AtE.then_n (AtE.go ?_)
   refine AtC.seqR ?_
   refine AtL.pures hT 1 _ _ _ _ rfl ?_
   refine AtL.e rfl (Eff.call (f := 96) (sh := fun h => nat_small _ h _) (H0 := H) rfl Tryd.call96 rfl (hl := fun w hw => lift_nat_small _ w _ hw)) ?_
   rintro _ h0u4 ⟨v_3, rfl, H⟩
   refine AtL.pures hT 5 _ _ _ _ rfl ?_
   refine AtL.nil ?_
   refine AtE.then_n (AtE.go ?_)
   refine AtC.seq ?_
   refine AtC.seqR ?_
   refine AtL.pures hT 1 _ _ _ _ rfl ?_
   refine AtL.nil ?_
   refine AtE.then_n (AtE.go ?_)
   refine AtC.block ?_
   refine AtC.loopM (fun (s0u1 : Sl × Int × Int) => [(3, Sl.toV s0u1.1), (6, Value.int .u64 s0u1.2.1), (8, Value.int .i64 s0u1.2.2)]) [4] [3, 6, 8, 4] H (by exact rfl) (by exact rfl) (fun Kp2 s0u1 h0u5 H Q2 HK2 => ?_)
   refine AtC.seq ?_
   refine AtC.joinSeq (fun (t0 : Bool) => [(35, Value.bool t0)]) [3, 4, 6, 8] H (by exact rfl) (fun t0 h0u6 H => ?_) (fun J3 H HK3 => ?_)
   ·
    refine AtC.condB H rfl (fun H => ?_) (fun H => ?_)
    ·
     refine AtC.skip ?_
     refine AtE.then_n (AtE.go ?_)
     refine AtC.seq ?_
     refine AtC.block ?_
     refine AtC.seqR ?_
     refine AtL.pures hT 5 _ _ _ _ rfl ?_
     refine AtL.bs (hT := hT) (cs := [_]) H rfl rfl rfl rfl rfl rfl rfl rfl rfl (fun a_1 h0u7 H => ?_)
     refine AtL.e rfl (Eff.appendS (s := _) (u := _) hT rfl rfl rfl rfl rfl rfl rfl rfl rfl rfl (by decide) H) ?_
     rintro _ h0u8 ⟨v_5, rfl, H⟩
     refine AtL.pures hT 1 _ _ _ _ rfl ?_
     refine AtL.nil ?_
     refine AtE.then_n (AtE.go ?_)
     refine AtC.region ?_
     refine AtL.pures hT 3 _ _ _ _ rfl ?_
     replace H := H _ rfl
     refine AtL.nil ?_
     refine AtE.blk_n ?_
     refine AtE.then_n (AtE.go ?_)
     refine AtC.region ?_
     refine AtL.pures hT 3 _ _ _ _ rfl ?_
     replace H := H _ rfl
     refine AtL.nil ?_
     exact AtE.then_n ((HK2 _ _ H).pick (ts := [3, 6, 8, 4]) rfl)
    ·
     refine AtC.exit ?_
     refine AtE.then_x ?_
     refine AtE.then_x ?_
     refine AtE.blk_hit ?_
     refine AtE.then_n (AtE.go ?_)
     refine AtC.region ?_
     refine AtL.pures hT 2 _ _ _ _ rfl ?_
     refine AtL.nil ?_
     refine AtE.blk_n ?_
     exact AtE.then_n ((HK1 _ _ H).pick (ts := [0, 3]) rfl)
   ·
    refine AtC.region ?_
    refine AtL.pures hT 3 _ _ _ _ rfl ?_
    refine AtL.splitB (t := 27) H rfl (fun H => ?_) (fun H => ?_)
    ·
     refine AtL.yes rfl rfl rfl ?_
     refine AtL.pures hT 1 _ _ _ _ rfl ?_
     refine AtL.yes rfl rfl rfl ?_
     refine AtL.pures hT 1 _ _ _ _ rfl ?_
     refine AtL.yes rfl rfl rfl ?_
     refine AtL.pures hT 1 _ _ _ _ rfl ?_
     refine AtL.yes rfl rfl rfl ?_
     refine AtL.pures hT 1 _ _ _ _ rfl ?_
     refine AtL.splitB (t := 31) H rfl (fun H => ?_) (fun H => ?_)
     ·
      refine AtL.noF rfl rfl rfl (by decide) rfl ?_
      refine AtL.noF rfl rfl rfl (by decide) rfl ?_
      refine AtL.yes rfl rfl rfl ?_
      refine AtL.pures hT 1 _ _ _ _ rfl ?_
      refine AtL.pures hT 1 _ _ _ _ rfl ?_
      refine AtL.nil ?_
      exact AtE.then_n ((HK3 _ _ H).pick (ts := [35, 3, 4, 6, 8]) rfl)
     ·
      refine AtL.yes rfl rfl rfl ?_
      refine AtL.pures hT 1 _ _ _ _ rfl ?_
      refine AtL.yes rfl rfl rfl ?_
      refine AtL.pures hT 1 _ _ _ _ rfl ?_
      refine AtL.yes rfl rfl rfl ?_
      refine AtL.pures hT 1 _ _ _ _ rfl ?_
      refine AtL.pures hT 1 _ _ _ _ rfl ?_
      refine AtL.nil ?_
      exact AtE.then_n ((HK3 _ _ H).pick (ts := [35, 3, 4, 6, 8]) rfl)
    ·
     refine AtL.noF rfl rfl rfl (by decide) rfl ?_
     refine AtL.noF rfl rfl rfl (by decide) rfl ?_
     refine AtL.noF rfl rfl rfl (by decide) rfl ?_
     refine AtL.noF rfl rfl rfl (by decide) rfl ?_
     refine AtL.noU rfl rfl rfl rfl ?_
     refine AtL.noU rfl rfl rfl rfl ?_
     refine AtL.noF rfl rfl rfl (by decide) rfl ?_
     refine AtL.pures hT 1 _ _ _ _ rfl ?_
     refine AtL.nil ?_
     exact AtE.then_n ((HK3 _ _ H).pick (ts := [35, 3, 4, 6, 8]) rfl)
  ·
   refine AtC.exit ?_
   refine AtE.then_x ?_
   refine AtE.then_x ?_
   refine AtE.blk_hit ?_
   refine AtE.then_n (AtE.go ?_)
   refine AtC.seq ?_
   refine AtC.seqR ?_
   refine AtL.pures hT 3 _ _ _ _ rfl ?_
   refine AtL.nil ?_
   refine AtE.then_n (AtE.go ?_)
   refine AtC.condB H rfl (fun H => ?_) (fun H => ?_)
   ·
    refine AtC.seqR ?_
    refine AtL.pures hT 1 _ _ _ _ rfl ?_
    refine AtL.nil ?_
    refine AtE.then_n (AtE.go ?_)
    refine AtC.ret ?_
    refine AtE.then_r ?_
    exact AtE.retN (rs := [.tmp 2]) rfl (ResAll.cons (ResAt.tmp rfl) ResAll.nil) rfl H
   ·
    refine AtC.skip ?_
    refine AtE.then_n (AtE.go ?_)
    refine AtC.seqR ?_
    refine AtL.pures hT 1 _ _ _ _ rfl ?_
    refine AtL.e rfl (Eff.call (f := 97) (sh := fun h => slices_Reverse_byte_byte _ h _) (H0 := H) rfl Tryd.call97 rfl (hl := fun w hw => lift_slices_Reverse_byte_byte _ w _ hw)) ?_
    rintro _ h0u9 ⟨v_6, rfl, H⟩
    refine AtL.nil ?_
    refine AtE.then_n (AtE.go ?_)
    refine AtC.seqR ?_
    refine AtL.pures hT 1 _ _ _ _ rfl ?_
    obtain ⟨v_7_, hc3, H⟩ := H
    refine AtL.q rfl (Quiet1.strOf (s := _) hT rfl rfl rfl rfl rfl hc3) ?_
    refine AtL.pures hT 1 _ _ _ _ rfl ?_
    refine AtL.nil ?_
    refine AtE.then_n (AtE.go ?_)
    refine AtC.ret ?_
    exact AtE.retN (rs := [.tmp 2]) rfl (ResAll.cons (ResAt.tmp rfl) ResAll.nil) rfl H

theorem lift_law01uspeaks (w : World) (S : Bool → Heap → Prop) (H : law01uspeaks w.heap S) :
    Calls Tryd.prog 13 #[] w (Post w Value.bool S) := by
  refine Calls.lift (args := []) Tryd.func13 rfl Tryd.ntmps13 (Nat.le_of_ble_eq_true rfl) (fun h => law01uspeaks h S) H (fun h H => ?_)
  refine AtC.pick (ts := []) rfl ?_
  unfold law01uspeaks at H
  refine AtC.seqR ?_
  refine AtL.pures hT 1 _ _ _ _ rfl ?_
  refine AtL.nil ?_
  refine AtE.then_n (AtE.go ?_)
  refine AtC.seqR ?_
  refine AtL.e rfl (Eff.call (f := 15) (sh := fun h => nat_New _ h _) (H0 := H) rfl Tryd.call15 rfl (hl := fun w hw => lift_nat_New _ w _ hw)) ?_
  rintro _ h0 ⟨v, rfl, H⟩
  refine AtL.pures hT 1 _ _ _ _ rfl ?_
  refine AtL.nil ?_
  refine AtE.then_n (AtE.go ?_)
  refine AtC.seqR ?_
  refine AtL.pures hT 1 _ _ _ _ rfl ?_
  refine AtL.bs (hT := hT) (cs := [_, _]) H rfl rfl rfl rfl rfl rfl rfl rfl rfl (fun a h0u1 H => ?_)
  refine AtL.bs (hT := hT) (cs := [_, _]) H rfl rfl rfl rfl rfl rfl rfl rfl rfl (fun a_1 h0u2 H => ?_)
  refine AtL.e rfl (Eff.call (f := 18) (sh := fun h => nat_Bench_Mul _ _ _ h _) (H0 := H) rfl Tryd.call18 rfl (hl := fun w hw => lift_nat_Bench_Mul _ _ _ w _ hw)) ?_
  rintro _ h0u3 ⟨v_3, rfl, H⟩
  refine AtL.pures hT 1 _ _ _ _ rfl ?_
  refine AtL.nil ?_
  refine AtE.then_n (AtE.go ?_)
  refine AtC.joinSeq (fun (t0 : Bool) => [(0, Value.bool t0)]) [] H (by exact rfl) (fun t0 h0u4 H => ?_) (fun J1 H HK1 => ?_)
  ·
   refine AtC.ret ?_
   exact AtE.retN (rs := [.tmp 0]) rfl (ResAll.cons (ResAt.tmp rfl) ResAll.nil) rfl H
  ·
   refine AtC.region ?_
   refine AtL.pures hT 1 _ _ _ _ rfl ?_
   refine AtL.e rfl (Eff.call (f := 24) (sh := fun h => nat_Bench_Over _ h _) (H0 := H) rfl Tryd.call24 rfl (hl := fun w hw => lift_nat_Bench_Over _ w _ hw)) ?_
   rintro _ h0u5 ⟨v_4, rfl, H⟩
   refine AtL.pures hT 1 _ _ _ _ rfl ?_
   refine AtL.splitB (t := 10) H rfl (fun H => ?_) (fun H => ?_)
   ·
    refine AtL.yes rfl rfl rfl ?_
    refine AtL.pures hT 1 _ _ _ _ rfl ?_
    refine AtL.yes rfl rfl rfl ?_
    refine AtL.pures hT 1 _ _ _ _ rfl ?_
    refine AtL.yes rfl rfl rfl ?_
    refine AtL.pures hT 1 _ _ _ _ rfl ?_
    refine AtL.pures hT 2 _ _ _ _ rfl ?_
    refine AtL.splitB (t := 15) H rfl (fun H => ?_) (fun H => ?_)
    ·
     refine AtL.yes rfl rfl rfl ?_
     refine AtL.e rfl (Eff.call (f := 85) (sh := fun h => nat_Of _ h _) (H0 := H) rfl Tryd.call85 rfl (hl := fun w hw => lift_nat_Of _ w _ hw)) ?_
     rintro _ h0u6 ⟨v_5, rfl, H⟩
     refine AtL.yes rfl rfl rfl ?_
     refine AtL.e rfl (Eff.call (f := 34) (sh := fun h => nat_Text _ h _) (H0 := H) rfl Tryd.call34 rfl (hl := fun w hw => lift_nat_Text _ w _ hw)) ?_
     rintro _ h0u7 ⟨v_6, rfl, H⟩
     refine AtL.yes rfl rfl rfl ?_
     refine AtL.pures hT 1 _ _ _ _ rfl ?_
     refine AtL.pures hT 2 _ _ _ _ rfl ?_
     refine AtL.nil ?_
     exact AtE.then_n ((HK1 _ _ H).pick (ts := [0]) rfl)
    ·
     refine AtL.noF rfl rfl rfl (by decide) rfl ?_
     refine AtL.noF rfl rfl rfl (by decide) rfl ?_
     refine AtL.noF rfl rfl rfl (by decide) rfl ?_
     refine AtL.pures hT 2 _ _ _ _ rfl ?_
     refine AtL.nil ?_
     exact AtE.then_n ((HK1 _ _ H).pick (ts := [0]) rfl)
   ·
    refine AtL.noF rfl rfl rfl (by decide) rfl ?_
    refine AtL.noF rfl rfl rfl (by decide) rfl ?_
    refine AtL.noF rfl rfl rfl (by decide) rfl ?_
    refine AtL.pures hT 2 _ _ _ _ rfl ?_
    refine AtL.noF rfl rfl rfl (by decide) rfl ?_
    refine AtL.noF rfl rfl rfl (by decide) rfl ?_
    refine AtL.noF rfl rfl rfl (by decide) rfl ?_
    refine AtL.pures hT 2 _ _ _ _ rfl ?_
    refine AtL.nil ?_
    exact AtE.then_n ((HK1 _ _ H).pick (ts := [0]) rfl)

theorem lift_law01ugreat (l : Sl) (w : World) (S : Bool → Heap → Prop) (H : law01ugreat l w.heap S) :
    Calls Tryd.prog 14 #[Sl.toV l] w (Post w Value.bool S) := by
  refine Calls.lift (args := [Sl.toV l]) Tryd.func14 rfl Tryd.ntmps14 (Nat.le_of_ble_eq_true rfl) (fun h => law01ugreat l h S) H (fun h H => ?_)
  refine AtC.pick (ts := [0]) rfl ?_
  unfold law01ugreat at H
  refine AtC.seqR ?_
  refine AtL.pures hT 1 _ _ _ _ rfl ?_
  refine AtL.nil ?_
  refine AtE.then_n (AtE.go ?_)
  refine AtC.seq ?_
  refine AtC.seqR ?_
  refine AtL.pures hT 3 _ _ _ _ rfl ?_
  refine AtL.nil ?_
  refine AtE.then_n (AtE.go ?_)
  refine AtC.block ?_
  refine AtC.loopM (fun (s0 : Int) => [(7, Value.int .i64 s0)]) [5, 6] [7, 5, 6] H (by exact rfl) (by exact rfl) (fun Kp1 s0 h0 H Q1 HK1 => ?_)
  refine AtC.seqR ?_
  refine AtL.pures hT 1 _ _ _ _ rfl ?_
  refine AtL.nil ?_
  refine AtE.then_n (AtE.go ?_)
  refine AtC.seq ?_
  refine AtC.condB H rfl (fun H => ?_) (fun H => ?_)
  ·
   refine AtC.skip ?_
   refine AtE.then_n (AtE.go ?_)
   refine AtC.seq ?_
   refine AtC.block ?_
   refine AtC.seqR ?_
   obtain ⟨a_, hc1, hd1, H⟩ := H
   refine AtL.q rfl (Quiet1.idxS (s := _) hT rfl rfl rfl rfl rfl hc1 hd1) ?_
   obtain ⟨v, hc2, H⟩ := H
   refine AtL.q rfl (Quiet1.load hT rfl rfl rfl hc2) ?_
   refine AtL.pures hT 1 _ _ _ _ rfl ?_
   refine AtL.nil ?_
   refine AtE.then_n (AtE.go ?_)
   refine AtC.seqR ?_
   refine AtL.pures hT 3 _ _ _ _ rfl ?_
   refine AtL.nil ?_
   refine AtE.then_n (AtE.go ?_)
   refine AtC.condB H rfl (fun H => ?_) (fun H => ?_)
   ·
    refine AtC.seqR ?_
    refine AtL.pures hT 1 _ _ _ _ rfl ?_
    refine AtL.nil ?_
    refine AtE.then_n (AtE.go ?_)
    refine AtC.ret ?_
    refine AtE.blk_r ?_
    refine AtE.then_r ?_
    refine AtE.then_r ?_
    refine AtE.blk_r ?_
    refine AtE.then_r ?_
    exact AtE.retN (rs := [.tmp 2]) rfl (ResAll.cons (ResAt.tmp rfl) ResAll.nil) rfl H
   ·
    refine AtC.skip ?_
    refine AtE.blk_n ?_
    refine AtE.then_n (AtE.go ?_)
    refine AtC.region ?_
    refine AtL.pures hT 2 _ _ _ _ rfl ?_
    refine AtL.nil ?_
    exact AtE.then_n ((HK1 _ _ H).pick (ts := [7, 5, 6]) rfl)
  ·
   refine AtC.exit ?_
   refine AtE.then_x ?_
   refine AtE.then_x ?_
   refine AtE.blk_hit ?_
   refine AtE.then_n (AtE.go ?_)
   refine AtC.seqR ?_
   refine AtL.pures hT 1 _ _ _ _ rfl ?_
   refine AtL.nil ?_
   refine AtE.then_n (AtE.go ?_)
   refine AtC.ret ?_
   exact AtE.retN (rs := [.tmp 2]) rfl (ResAll.cons (ResAt.tmp rfl) ResAll.nil) rfl H

theorem lift_ref01uCut (x0 : Sl) (w : World) (S : Sl → Heap → Prop) (H : ref01uCut x0 w.heap S) :
    Calls Tryd.prog 91 #[Sl.toV x0] w (Post w Sl.toV S) := by
  refine Calls.lift (args := [Sl.toV x0]) Tryd.func91 rfl Tryd.ntmps91 (Nat.le_of_ble_eq_true rfl) (fun h => ref01uCut x0 h S) H (fun h H => ?_)
  refine AtC.pick (ts := [0]) rfl ?_
  unfold ref01uCut at H
  refine AtC.seqR ?_
  refine AtL.pures hT 1 _ _ _ _ rfl ?_
  refine AtL.nil ?_
  refine AtE.then_n (AtE.go ?_)
  refine AtC.seqR ?_
  refine AtL.pures hT 3 _ _ _ _ rfl ?_
  replace H := H _ rfl
  refine AtL.nil ?_
  refine AtE.then_n (AtE.go ?_)
  refine AtC.seq ?_
  refine AtC.block ?_
  refine AtC.loopM (fun (s0 : Int) => [(3, Value.int .i64 s0)]) [0] [3, 0] H (by exact rfl) (by exact rfl) (fun Kp1 s0 h0 H Q1 HK1 => ?_)
  refine AtC.seq ?_
  refine AtC.joinSeq (fun (t0 : Bool) => [(15, Value.bool t0)]) [0, 3] H (by exact rfl) (fun t0 h0u1 H => ?_) (fun J2 H HK2 => ?_)
  ·
   refine AtC.condB H rfl (fun H => ?_) (fun H => ?_)
   ·
    refine AtC.skip ?_
    refine AtE.then_n (AtE.go ?_)
    refine AtC.block ?_
    refine AtC.region ?_
    refine AtL.pures hT 3 _ _ _ _ rfl ?_
    replace H := H _ rfl
    refine AtL.nil ?_
    refine AtE.blk_n ?_
    exact AtE.then_n ((HK1 _ _ H).pick (ts := [3, 0]) rfl)
   ·
    refine AtC.exit ?_
    refine AtE.then_x ?_
    refine AtE.then_x ?_
    refine AtE.blk_hit ?_
    refine AtE.then_n (AtE.go ?_)
    refine AtC.seqR ?_
    refine AtL.pures hT 2 _ _ _ _ rfl ?_
    refine AtL.sl (hT := hT) H rfl rfl rfl rfl rfl rfl rfl (fun h => by cases h <;> rfl) rfl (fun v_1 H => ?_)
    refine AtL.pures hT 1 _ _ _ _ rfl ?_
    refine AtL.nil ?_
    refine AtE.then_n (AtE.go ?_)
    refine AtC.ret ?_
    exact AtE.retN (rs := [.tmp 2]) rfl (ResAll.cons (ResAt.tmp rfl) ResAll.nil) rfl H
  ·
   refine AtC.region ?_
   refine AtL.pures hT 3 _ _ _ _ rfl ?_
   refine AtL.splitB (t := 8) H rfl (fun H => ?_) (fun H => ?_)
   ·
    refine AtL.yes rfl rfl rfl ?_
    refine AtL.pures hT 1 _ _ _ _ rfl ?_
    refine AtL.yes rfl rfl rfl ?_
    refine AtL.pures hT 1 _ _ _ _ rfl ?_
    refine AtL.yes rfl rfl rfl ?_
    refine AtL.pures hT 1 _ _ _ _ rfl ?_
    refine AtL.yes rfl rfl rfl ?_
    obtain ⟨a_, hc2, hd2, H⟩ := H
    refine AtL.q rfl (Quiet1.idxS (s := _) hT rfl rfl rfl rfl rfl hc2 hd2) ?_
    refine AtL.yes rfl rfl rfl ?_
    obtain ⟨v, hc3, H⟩ := H
    refine AtL.q rfl (Quiet1.load hT rfl rfl rfl hc3) ?_
    refine AtL.yes rfl rfl rfl ?_
    refine AtL.pures hT 1 _ _ _ _ rfl ?_
    refine AtL.pures hT 1 _ _ _ _ rfl ?_
    refine AtL.nil ?_
    exact AtE.then_n ((HK2 _ _ H).pick (ts := [15, 0, 3]) rfl)
   ·
    refine AtL.noF rfl rfl rfl (by decide) rfl ?_
    refine AtL.noF rfl rfl rfl (by decide) rfl ?_
    refine AtL.noF rfl rfl rfl (by decide) rfl ?_
    refine AtL.noF rfl rfl rfl (by decide) rfl ?_
    refine AtL.noF rfl rfl rfl (by decide) rfl ?_
    refine AtL.noF rfl rfl rfl (by decide) rfl ?_
    refine AtL.pures hT 1 _ _ _ _ rfl ?_
    refine AtL.nil ?_
    exact AtE.then_n ((HK2 _ _ H).pick (ts := [15, 0, 3]) rfl)

theorem lift_ref01uOf (x0 : Sl) (w : World) (S : Sl → Heap → Prop) (H : ref01uOf x0 w.heap S) :
    Calls Tryd.prog 20 #[Sl.toV x0] w (Post w Sl.toV S) := by
  refine Calls.lift (args := [Sl.toV x0]) Tryd.func20 rfl Tryd.ntmps20 (Nat.le_of_ble_eq_true rfl) (fun h => ref01uOf x0 h S) H (fun h H => ?_)
  refine AtC.pick (ts := [0]) rfl ?_
  unfold ref01uOf at H
  refine AtC.seqR ?_
  refine AtL.pures hT 1 _ _ _ _ rfl ?_
  refine AtL.nil ?_
  refine AtE.then_n (AtE.go ?_)
  refine AtC.seqR ?_
  refine AtL.bs (hT := hT) (cs := []) H rfl rfl rfl rfl rfl rfl rfl rfl rfl (fun a h0 H => ?_)
  refine AtL.pures hT 1 _ _ _ _ rfl ?_
  replace H := H _ rfl
  refine AtL.nil ?_
  refine AtE.then_n (AtE.go ?_)
  refine AtC.seq ?_
  refine AtC.seqR ?_
  refine AtL.pures hT 4 _ _ _ _ rfl ?_
  replace H := H _ rfl
  refine AtL.nil ?_
  refine AtE.then_n (AtE.go ?_)
  refine AtC.block ?_
  refine AtC.loopM (fun (s0 : Sl × Int) => [(3, Sl.toV s0.1), (4, Value.int .i64 s0.2)]) [0] [3, 4, 0] H (by exact rfl) (by exact rfl) (fun Kp1 s0 h0u1 H Q1 HK1 => ?_)
  refine AtC.seq ?_
  refine AtC.seqR ?_
  refine AtL.pures hT 2 _ _ _ _ rfl ?_
  refine AtL.nil ?_
  refine AtE.then_n (AtE.go ?_)
  refine AtC.condB H rfl (fun H => ?_) (fun H => ?_)
  ·
   refine AtC.skip ?_
   refine AtE.then_n (AtE.go ?_)
   refine AtC.seq ?_
   refine AtC.block ?_
   refine AtC.seqR ?_
   refine AtL.pures hT 2 _ _ _ _ rfl ?_
   obtain ⟨a_1_, hc1, hd1, H⟩ := H
   refine AtL.q rfl (Quiet1.idxS (s := _) hT rfl rfl rfl rfl rfl hc1 hd1) ?_
   obtain ⟨v_1, hc2, H⟩ := H
   refine AtL.q rfl (Quiet1.load hT rfl rfl rfl hc2) ?_
   refine AtL.pures hT 2 _ _ _ _ rfl ?_
   replace H := H _ rfl
   refine AtL.nil ?_
   refine AtE.then_n (AtE.go ?_)
   refine AtC.seq ?_
   refine AtC.seqR ?_
   refine AtL.pures hT 1 _ _ _ _ rfl ?_
   refine AtL.nil ?_
   refine AtE.then_n (AtE.go ?_)
   refine AtC.block ?_
   refine AtC.loopM (fun (s0u1 : Int × Int) => [(5, Value.int .i64 s0u1.1), (6, Value.int .i64 s0u1.2)]) [0, 3, 4] [5, 6, 0, 3, 4] H (by exact rfl) (by exact rfl) (fun Kp4 s0u1 h0u2 H Q4 HK4 => ?_)
   refine AtC.seq ?_
   refine AtC.seqR ?_
   refine AtL.pures hT 4 _ _ _ _ rfl ?_
   refine AtL.nil ?_
   refine AtE.then_n (AtE.go ?_)
   refine AtC.condB H rfl (fun H => ?_) (fun H => ?_)
   ·
    refine AtC.skip ?_
    refine AtE.then_n (AtE.go ?_)
    refine AtC.seq ?_
    refine AtC.block ?_
    refine AtC.seqR ?_
    refine AtL.pures hT 2 _ _ _ _ rfl ?_
    obtain ⟨a_2_, hc4, hd4, H⟩ := H
    refine AtL.q rfl (Quiet1.idxS (s := _) hT rfl rfl rfl rfl rfl hc4 hd4) ?_
    obtain ⟨v_2, hc5, H⟩ := H
    refine AtL.q rfl (Quiet1.load hT rfl rfl rfl hc5) ?_
    refine AtL.pures hT 4 _ _ _ _ rfl ?_
    replace H := H _ rfl
    refine AtL.nil ?_
    refine AtE.then_n (AtE.go ?_)
    refine AtC.seqR ?_
    refine AtL.pures hT 4 _ _ _ _ rfl ?_
    obtain ⟨a_3_, hc6, hd6, H⟩ := H
    refine AtL.q rfl (Quiet1.idxS (s := _) hT rfl rfl rfl rfl rfl hc6 hd6) ?_
    refine AtL.e rfl (Eff.store hT rfl rfl rfl rfl rfl H) ?_
    rintro _ h0u3 H
    refine AtL.nil ?_
    refine AtE.then_n (AtE.go ?_)
    refine AtC.region ?_
    refine AtL.pures hT 3 _ _ _ _ rfl ?_
    replace H := H _ rfl
    refine AtL.nil ?_
    refine AtE.blk_n ?_
    refine AtE.then_n (AtE.go ?_)
    refine AtC.region ?_
    refine AtL.pures hT 3 _ _ _ _ rfl ?_
    replace H := H _ rfl
    refine AtL.nil ?_
    exact AtE.then_n ((HK4 _ _ H).pick (ts := [5, 6, 0, 3, 4]) rfl)
   ·
    refine AtC.exit ?_
    refine AtE.then_x ?_
    refine AtE.then_x ?_
    refine AtE.blk_hit ?_
    refine AtE.then_n (AtE.go ?_)
    refine AtC.block ?_
    refine AtC.loopM (fun (s0u2 : Sl × Int) => [(3, Sl.toV s0u2.1), (5, Value.int .i64 s0u2.2)]) [0, 4] [3, 5, 0, 4] H (by exact rfl) (by exact rfl) (fun Kp8 s0u2 h0u4 H Q8 HK8 => ?_)
    refine AtC.seq ?_
    refine AtC.seqR ?_
    refine AtL.pures hT 2 _ _ _ _ rfl ?_
    refine AtL.nil ?_
    refine AtE.then_n (AtE.go ?_)
    refine AtC.condB H rfl (fun H => ?_) (fun H => ?_)
    ·
     refine AtC.skip ?_
     refine AtE.then_n (AtE.go ?_)
     refine AtC.block ?_
     refine AtC.seqR ?_
     refine AtL.pures hT 3 _ _ _ _ rfl ?_
     refine AtL.bs (hT := hT) (cs := [_]) H rfl rfl rfl rfl rfl rfl rfl rfl rfl (fun a_4 h0u5 H => ?_)
     refine AtL.e rfl (Eff.appendS (s := _) (u := _) hT rfl rfl rfl rfl rfl rfl rfl rfl rfl rfl (by decide) H) ?_
     rintro _ h0u6 ⟨v_4, rfl, H⟩
     refine AtL.pures hT 1 _ _ _ _ rfl ?_
     refine AtL.nil ?_
     refine AtE.then_n (AtE.go ?_)
     refine AtC.region ?_
     refine AtL.pures hT 3 _ _ _ _ rfl ?_
     replace H := H _ rfl
     refine AtL.nil ?_
     refine AtE.blk_n ?_
     exact AtE.then_n ((HK8 _ _ H).pick (ts := [3, 5, 0, 4]) rfl)
    ·
     refine AtC.exit ?_
     refine AtE.then_x ?_
     refine AtE.then_x ?_
     refine AtE.blk_hit ?_
     refine AtE.blk_n ?_
     refine AtE.then_n (AtE.go ?_)
     refine AtC.region ?_
     refine AtL.pures hT 3 _ _ _ _ rfl ?_
     replace H := H _ rfl
     refine AtL.nil ?_
     exact AtE.then_n ((HK1 _ _ H).pick (ts := [3, 4, 0]) rfl)
  ·
   refine AtC.exit ?_
   refine AtE.then_x ?_
   refine AtE.then_x ?_
   refine AtE.blk_hit ?_
   refine AtE.then_n (AtE.go ?_)
   refine AtC.seqR ?_
   refine AtL.pures hT 1 _ _ _ _ rfl ?_
   refine AtL.e rfl (Eff.call (f := 91) (sh := fun h => ref01uCut _ h _) (H0 := H) rfl Tryd.call91 rfl (hl := fun w hw => lift_ref01uCut _ w _ hw)) ?_
   rintro _ h0u7 ⟨v_5, rfl, H⟩
   refine AtL.pures hT 1 _ _ _ _ rfl ?_
   refine AtL.nil ?_
   refine AtE.then_n (AtE.go ?_)
   refine AtC.ret ?_
   exact AtE.retN (rs := [.tmp 2]) rfl (ResAll.cons (ResAt.tmp rfl) ResAll.nil) rfl H

theorem lift_nat_Bench_Limbs (b : (Option Addr)) (w : World) (S : Int → Heap → Prop) (H : nat_Bench_Limbs b w.heap S) :
    Calls Tryd.prog 25 #[Value.pointer b] w (Post w (Value.int .i64) S) := by
  refine Calls.lift (args := [Value.pointer b]) Tryd.func25 rfl Tryd.ntmps25 (Nat.le_of_ble_eq_true rfl) (fun h => nat_Bench_Limbs b h S) H (fun h H => ?_)
  refine AtC.pick (ts := [0]) rfl ?_
  unfold nat_Bench_Limbs at H
  refine AtC.seqR ?_
  refine AtL.pures hT 1 _ _ _ _ rfl ?_
  refine AtL.nil ?_
  refine AtE.then_n (AtE.go ?_)
  refine AtC.seqR ?_
  refine AtL.pures hT 1 _ _ _ _ rfl ?_
  obtain ⟨a, hc0, H⟩ := H
  refine AtL.q rfl (Quiet1.nilChk rfl rfl hc0) ?_
  refine AtL.pures hT 1 _ _ _ _ rfl ?_
  obtain ⟨v, hc1, H⟩ := H
  refine AtL.q rfl (Quiet1.load hT rfl rfl rfl hc1) ?_
  refine AtL.pures hT 1 _ _ _ _ rfl ?_
  refine AtL.nil ?_
  refine AtE.then_n (AtE.go ?_)
  refine AtC.ret ?_
  exact AtE.retN (rs := [.tmp 2]) rfl (ResAll.cons (ResAt.tmp rfl) ResAll.nil) rfl H

theorem lift_nat_Bench_Add (b : (Option Addr)) (x0 : Sl) (y : Sl) (w : World) (S : Sl → Heap → Prop) (H : nat_Bench_Add b x0 y w.heap S) :
    Calls Tryd.prog 17 #[Value.pointer b, Sl.toV x0, Sl.toV y] w (Post w Sl.toV S) := by
  refine Calls.lift (args := [Value.pointer b, Sl.toV x0, Sl.toV y]) Tryd.func17 rfl Tryd.ntmps17 (Nat.le_of_ble_eq_true rfl) (fun h => nat_Bench_Add b x0 y h S) H (fun h H => ?_)
  refine AtC.pick (ts := [0, 1, 2]) rfl ?_
  unfold nat_Bench_Add at H
  refine AtC.seqR ?_
  refine AtL.pures hT 1 _ _ _ _ rfl ?_
  refine AtL.nil ?_
  refine AtE.then_n (AtE.go ?_)
  refine AtC.seqR ?_
  refine AtL.pures hT 3 _ _ _ _ rfl ?_
  refine AtL.e rfl (Eff.call (f := 87) (sh := fun h => nat_plus _ _ h _) (H0 := H) rfl Tryd.call87 rfl (hl := fun w hw => lift_nat_plus _ _ w _ hw)) ?_
  rintro _ h0 ⟨v, rfl, H⟩
  refine AtL.e rfl (Eff.call (f := 86) (sh := fun h => nat_Bench_fit _ _ h _) (H0 := H) rfl Tryd.call86 rfl (hl := fun w hw => lift_nat_Bench_fit _ _ w _ hw)) ?_
  rintro _ h0u1 ⟨v_1, rfl, H⟩
  refine AtL.pures hT 1 _ _ _ _ rfl ?_
  refine AtL.nil ?_
  refine AtE.then_n (AtE.go ?_)
  refine AtC.ret ?_
  exact AtE.retN (rs := [.tmp 6]) rfl (ResAll.cons (ResAt.tmp rfl) ResAll.nil) rfl H

theorem lift_ref01uAdd (x0 : Sl) (y : Sl) (w : World) (S : Sl → Heap → Prop) (H : ref01uAdd x0 y w.heap S) :
    Calls Tryd.prog 27 #[Sl.toV x0, Sl.toV y] w (Post w Sl.toV S) := by
  refine Calls.lift (args := [Sl.toV x0, Sl.toV y]) Tryd.func27 rfl Tryd.ntmps27 (Nat.le_of_ble_eq_true rfl) (fun h => ref01uAdd x0 y h S) H (fun h H => ?_)
  refine AtC.pick (ts := [0, 1]) rfl ?_
  unfold ref01uAdd at H
  refine AtC.seqR ?_
  refine AtL.pures hT 1 _ _ _ _ rfl ?_
  refine AtL.nil ?_
  refine AtE.then_n (AtE.go ?_)
  refine AtC.seqR ?_
  refine AtL.bs (hT := hT) (cs := []) H rfl rfl rfl rfl rfl rfl rfl rfl rfl (fun a h0 H => ?_)
  refine AtL.pures hT 1 _ _ _ _ rfl ?_
  replace H := H _ rfl
  refine AtL.nil ?_
  refine AtE.then_n (AtE.go ?_)
  refine AtC.seqR ?_
  refine AtL.pures hT 1 _ _ _ _ rfl ?_
  refine AtL.nil ?_
  refine AtE.then_n (AtE.go ?_)
  refine AtC.seq ?_
  refine AtC.seqR ?_
  refine AtL.pures hT 1 _ _ _ _ rfl ?_
  refine AtL.nil ?_
  refine AtE.then_n (AtE.go ?_)
  refine AtC.block ?_
  refine AtC.loopM (fun (s0 : Sl × Int × Int) => [(5, Sl.toV s0.1), (6, Value.int .i64 s0.2.1), (7, Value.int .i64 s0.2.2)]) [0, 1] [5, 6, 7, 0, 1] H (by exact rfl) (by exact rfl) (fun Kp1 s0 h0u1 H Q1 HK1 => ?_)
  refine AtC.seq ?_
  refine AtC.joinSeq (fun (t0 : Bool) => [(23, Value.bool t0)]) [0, 1, 5, 6, 7] H (by exact rfl) (fun t0 h0u2 H => ?_) (fun J2 H HK2 => ?_)
  ·
   refine AtC.condB H rfl (fun H => ?_) (fun H => ?_)
   ·
    refine AtC.skip ?_
    refine AtE.then_n (AtE.go ?_)
    refine AtC.seq ?_
    refine AtC.block ?_
    refine AtC.seqR ?_
    refine AtL.pures hT 2 _ _ _ _ rfl ?_
    refine AtL.nil ?_
    refine AtE.then_n (AtE.go ?_)
    refine AtC.joinSeq (fun (t0u1 : Int) => [(8, Value.int .i64 t0u1)]) [0, 1, 5, 7] H (by exact rfl) (fun t0u1 h0u3 H => ?_) (fun J3 H HK3 => ?_)
    ·
     refine AtC.joinSeq (fun (t0u2 : Int) => [(8, Value.int .i64 t0u2)]) [0, 1, 5, 7] H (by exact rfl) (fun t0u2 h0u4 H => ?_) (fun J6 H HK6 => ?_)
     ·
      refine AtC.seqR ?_
      refine AtL.pures hT 3 _ _ _ _ rfl ?_
      refine AtL.bs (hT := hT) (cs := [_]) H rfl rfl rfl rfl rfl rfl rfl rfl rfl (fun a_3 h0u5 H => ?_)
      refine AtL.e rfl (Eff.appendS (s := _) (u := _) hT rfl rfl rfl rfl rfl rfl rfl rfl rfl rfl (by decide) H) ?_
      rintro _ h0u6 ⟨v_4, rfl, H⟩
      refine AtL.pures hT 1 _ _ _ _ rfl ?_
      refine AtL.nil ?_
      refine AtE.then_n (AtE.go ?_)
      refine AtC.region ?_
      refine AtL.pures hT 3 _ _ _ _ rfl ?_
      replace H := H _ rfl
      refine AtL.nil ?_
      refine AtE.blk_n ?_
      refine AtE.then_n (AtE.go ?_)
      refine AtC.region ?_
      refine AtL.pures hT 3 _ _ _ _ rfl ?_
      replace H := H _ rfl
      refine AtL.nil ?_
      exact AtE.then_n ((HK1 _ _ H).pick (ts := [5, 6, 7, 0, 1]) rfl)
     ·
      refine AtC.seqR ?_
      refine AtL.pures hT 4 _ _ _ _ rfl ?_
      refine AtL.nil ?_
      refine AtE.then_n (AtE.go ?_)
      refine AtC.condB H rfl (fun H => ?_) (fun H => ?_)
      ·
       refine AtC.region ?_
       refine AtL.pures hT 3 _ _ _ _ rfl ?_
       obtain ⟨a_2_, hc6, hd6, H⟩ := H
       refine AtL.q rfl (Quiet1.idxS (s := _) hT rfl rfl rfl rfl rfl hc6 hd6) ?_
       obtain ⟨v_2, hc7, H⟩ := H
       refine AtL.q rfl (Quiet1.load hT rfl rfl rfl hc7) ?_
       refine AtL.pures hT 2 _ _ _ _ rfl ?_
       replace H := H _ rfl
       refine AtL.nil ?_
       exact AtE.then_n ((HK6 _ _ H).pick (ts := [8, 0, 1, 5, 7]) rfl)
      ·
       refine AtC.skip ?_
       exact AtE.then_n ((HK6 _ _ H).pick (ts := [8, 0, 1, 5, 7]) rfl)
    ·
     refine AtC.seqR ?_
     refine AtL.pures hT 4 _ _ _ _ rfl ?_
     refine AtL.nil ?_
     refine AtE.then_n (AtE.go ?_)
     refine AtC.condB H rfl (fun H => ?_) (fun H => ?_)
     ·
      refine AtC.region ?_
      refine AtL.pures hT 3 _ _ _ _ rfl ?_
      obtain ⟨a_1_, hc3, hd3, H⟩ := H
      refine AtL.q rfl (Quiet1.idxS (s := _) hT rfl rfl rfl rfl rfl hc3 hd3) ?_
      obtain ⟨v_1, hc4, H⟩ := H
      refine AtL.q rfl (Quiet1.load hT rfl rfl rfl hc4) ?_
      refine AtL.pures hT 2 _ _ _ _ rfl ?_
      replace H := H _ rfl
      refine AtL.nil ?_
      exact AtE.then_n ((HK3 _ _ H).pick (ts := [8, 0, 1, 5, 7]) rfl)
     ·
      refine AtC.skip ?_
      exact AtE.then_n ((HK3 _ _ H).pick (ts := [8, 0, 1, 5, 7]) rfl)
   ·
    refine AtC.exit ?_
    refine AtE.then_x ?_
    refine AtE.then_x ?_
    refine AtE.blk_hit ?_
    refine AtE.then_n (AtE.go ?_)
    refine AtC.seqR ?_
    refine AtL.pures hT 1 _ _ _ _ rfl ?_
    refine AtL.e rfl (Eff.call (f := 91) (sh := fun h => ref01uCut _ h _) (H0 := H) rfl Tryd.call91 rfl (hl := fun w hw => lift_ref01uCut _ w _ hw)) ?_
    rintro _ h0u7 ⟨v_5, rfl, H⟩
    refine AtL.pures hT 1 _ _ _ _ rfl ?_
    refine AtL.nil ?_
    refine AtE.then_n (AtE.go ?_)
    refine AtC.ret ?_
    exact AtE.retN (rs := [.tmp 4]) rfl (ResAll.cons (ResAt.tmp rfl) ResAll.nil) rfl H
  ·
   refine AtC.region ?_
   refine AtL.pures hT 5 _ _ _ _ rfl ?_
   refine AtL.splitB (t := 14) H rfl (fun H => ?_) (fun H => ?_)
   ·
    refine AtL.noF rfl rfl rfl (by decide) rfl ?_
    refine AtL.noF rfl rfl rfl (by decide) rfl ?_
    refine AtL.noF rfl rfl rfl (by decide) rfl ?_
    refine AtL.noF rfl rfl rfl (by decide) rfl ?_
    refine AtL.pures hT 2 _ _ _ _ rfl ?_
    refine AtL.noF rfl rfl rfl (by decide) rfl ?_
    refine AtL.noF rfl rfl rfl (by decide) rfl ?_
    refine AtL.pures hT 1 _ _ _ _ rfl ?_
    refine AtL.nil ?_
    exact AtE.then_n ((HK2 _ _ H).pick (ts := [23, 0, 1, 5, 6, 7]) rfl)
   ·
    refine AtL.yes rfl rfl rfl ?_
    refine AtL.pures hT 1 _ _ _ _ rfl ?_
    refine AtL.yes rfl rfl rfl ?_
    refine AtL.pures hT 1 _ _ _ _ rfl ?_
    refine AtL.yes rfl rfl rfl ?_
    refine AtL.pures hT 1 _ _ _ _ rfl ?_
    refine AtL.yes rfl rfl rfl ?_
    refine AtL.pures hT 1 _ _ _ _ rfl ?_
    refine AtL.pures hT 2 _ _ _ _ rfl ?_
    refine AtL.splitB (t := 20) H rfl (fun H => ?_) (fun H => ?_)
    ·
     refine AtL.noF rfl rfl rfl (by decide) rfl ?_
     refine AtL.noF rfl rfl rfl (by decide) rfl ?_
     refine AtL.pures hT 1 _ _ _ _ rfl ?_
     refine AtL.nil ?_
     exact AtE.then_n ((HK2 _ _ H).pick (ts := [23, 0, 1, 5, 6, 7]) rfl)
    ·
     refine AtL.yes rfl rfl rfl ?_
     refine AtL.pures hT 1 _ _ _ _ rfl ?_
     refine AtL.yes rfl rfl rfl ?_
     refine AtL.pures hT 1 _ _ _ _ rfl ?_
     refine AtL.pures hT 1 _ _ _ _ rfl ?_
     refine AtL.nil ?_
     exact AtE.then_n ((HK2 _ _ H).pick (ts := [23, 0, 1, 5, 6, 7]) rfl)

theorem lift_ref01uLimbs (x0 : Sl) (w : World) (S : Sl → Heap → Prop) (H : ref01uLimbs x0 w.heap S) :
    Calls Tryd.prog 32 #[Sl.toV x0] w (Post w Sl.toV S) := by
  refine Calls.lift (args := [Sl.toV x0]) Tryd.func32 rfl Tryd.ntmps32 (Nat.le_of_ble_eq_true rfl) (fun h => ref01uLimbs x0 h S) H (fun h H => ?_)
  refine AtC.pick (ts := [0]) rfl ?_
  unfold ref01uLimbs at H
  refine AtC.seqR ?_
  refine AtL.pures hT 1 _ _ _ _ rfl ?_
  refine AtL.nil ?_
  refine AtE.then_n (AtE.go ?_)
  refine AtC.seqR ?_
  refine AtL.bs (hT := hT) (cs := []) H rfl rfl rfl rfl rfl rfl rfl rfl rfl (fun a h0 H => ?_)
  refine AtL.pures hT 1 _ _ _ _ rfl ?_
  replace H := H _ rfl
  refine AtL.nil ?_
  refine AtE.then_n (AtE.go ?_)
  refine AtC.seq ?_
  refine AtC.seqR ?_
  refine AtL.pures hT 4 _ _ _ _ rfl ?_
  replace H := H _ rfl
  refine AtL.nil ?_
  refine AtE.then_n (AtE.go ?_)
  refine AtC.block ?_
  refine AtC.loopM (fun (s0 : Sl × Int) => [(3, Sl.toV s0.1), (4, Value.int .i64 s0.2)]) [0] [3, 4, 0] H (by exact rfl) (by exact rfl) (fun Kp1 s0 h0u1 H Q1 HK1 => ?_)
  refine AtC.seq ?_
  refine AtC.seqR ?_
  refine AtL.pures hT 2 _ _ _ _ rfl ?_
  refine AtL.nil ?_
  refine AtE.then_n (AtE.go ?_)
  refine AtC.condB H rfl (fun H => ?_) (fun H => ?_)
  ·
   refine AtC.skip ?_
   refine AtE.then_n (AtE.go ?_)
   refine AtC.joinSeq (fun (t0 : Sl) => [(3, Sl.toV t0)]) [0, 4] H (by exact rfl) (fun t0 h0u2 H => ?_) (fun J2 H HK2 => ?_)
   ·
    refine AtC.region ?_
    refine AtL.pures hT 3 _ _ _ _ rfl ?_
    replace H := H _ rfl
    refine AtL.nil ?_
    exact AtE.then_n ((HK1 _ _ H).pick (ts := [3, 4, 0]) rfl)
   ·
    refine AtC.block ?_
    refine AtC.seqR ?_
    refine AtL.pures hT 2 _ _ _ _ rfl ?_
    obtain ⟨a_1_, hc2, hd2, H⟩ := H
    refine AtL.q rfl (Quiet1.idxS (s := _) hT rfl rfl rfl rfl rfl hc2 hd2) ?_
    obtain ⟨v_1, hc3, H⟩ := H
    refine AtL.q rfl (Quiet1.load hT rfl rfl rfl hc3) ?_
    refine AtL.pures hT 2 _ _ _ _ rfl ?_
    replace H := H _ rfl
    refine AtL.nil ?_
    refine AtE.then_n (AtE.go ?_)
    refine AtC.seq ?_
    refine AtC.seqR ?_
    refine AtL.pures hT 1 _ _ _ _ rfl ?_
    refine AtL.nil ?_
    refine AtE.then_n (AtE.go ?_)
    refine AtC.block ?_
    refine AtC.loopM (fun (s0u1 : Int × Int) => [(5, Value.int .u64 s0u1.1), (6, Value.int .i64 s0u1.2)]) [0, 3, 4] [5, 6, 0, 3, 4] H (by exact rfl) (by exact rfl) (fun Kp5 s0u1 h0u3 H Q5 HK5 => ?_)
    refine AtC.seq ?_
    refine AtC.seqR ?_
    refine AtL.pures hT 4 _ _ _ _ rfl ?_
    refine AtL.nil ?_
    refine AtE.then_n (AtE.go ?_)
    refine AtC.condB H rfl (fun H => ?_) (fun H => ?_)
    ·
     refine AtC.skip ?_
     refine AtE.then_n (AtE.go ?_)
     refine AtC.seq ?_
     refine AtC.block ?_
     refine AtC.seqR ?_
     refine AtL.pures hT 2 _ _ _ _ rfl ?_
     obtain ⟨a_2_, hc5, hd5, H⟩ := H
     refine AtL.q rfl (Quiet1.idxS (s := _) hT rfl rfl rfl rfl rfl hc5 hd5) ?_
     obtain ⟨v_2, hc6, H⟩ := H
     refine AtL.q rfl (Quiet1.load hT rfl rfl rfl hc6) ?_
     refine AtL.pures hT 5 _ _ _ _ rfl ?_
     replace H := H _ rfl
     refine AtL.nil ?_
     refine AtE.then_n (AtE.go ?_)
     refine AtC.seqR ?_
     refine AtL.pures hT 5 _ _ _ _ rfl ?_
     obtain ⟨a_3_, hc7, hd7, H⟩ := H
     refine AtL.q rfl (Quiet1.idxS (s := _) hT rfl rfl rfl rfl rfl hc7 hd7) ?_
     refine AtL.e rfl (Eff.store hT rfl rfl rfl rfl rfl H) ?_
     rintro _ h0u4 H
     refine AtL.nil ?_
     refine AtE.then_n (AtE.go ?_)
     refine AtC.region ?_
     refine AtL.pures hT 3 _ _ _ _ rfl ?_
     replace H := H _ rfl
     refine AtL.nil ?_
     refine AtE.blk_n ?_
     refine AtE.then_n (AtE.go ?_)
     refine AtC.region ?_
     refine AtL.pures hT 3 _ _ _ _ rfl ?_
     replace H := H _ rfl
     refine AtL.nil ?_
     exact AtE.then_n ((HK5 _ _ H).pick (ts := [5, 6, 0, 3, 4]) rfl)
    ·
     refine AtC.exit ?_
     refine AtE.then_x ?_
     refine AtE.then_x ?_
     refine AtE.blk_hit ?_
     refine AtE.then_n (AtE.go ?_)
     refine AtC.seqR ?_
     refine AtL.pures hT 2 _ _ _ _ rfl ?_
     refine AtL.nil ?_
     refine AtE.then_n (AtE.go ?_)
     refine AtC.condB H rfl (fun H => ?_) (fun H => ?_)
     ·
      refine AtC.region ?_
      refine AtL.pures hT 3 _ _ _ _ rfl ?_
      refine AtL.bs (hT := hT) (cs := [_]) H rfl rfl rfl rfl rfl rfl rfl rfl rfl (fun a_4 h0u5 H => ?_)
      refine AtL.e rfl (Eff.appendS (s := _) (u := _) hT rfl rfl rfl rfl rfl rfl rfl rfl rfl rfl (by decide) H) ?_
      rintro _ h0u6 ⟨v_4, rfl, H⟩
      refine AtL.pures hT 1 _ _ _ _ rfl ?_
      refine AtL.nil ?_
      refine AtE.blk_n ?_
      exact AtE.then_n ((HK2 _ _ H).pick (ts := [3, 0, 4]) rfl)
     ·
      refine AtC.skip ?_
      refine AtE.blk_n ?_
      exact AtE.then_n ((HK2 _ _ H).pick (ts := [3, 0, 4]) rfl)
  ·
   refine AtC.exit ?_
   refine AtE.then_x ?_
   refine AtE.then_x ?_
   refine AtE.blk_hit ?_
   refine AtE.then_n (AtE.go ?_)
   refine AtC.seqR ?_
   refine AtL.pures hT 2 _ _ _ _ rfl ?_
   refine AtL.nil ?_
   refine AtE.then_n (AtE.go ?_)
   refine AtC.ret ?_
   exact AtE.retN (rs := [.tmp 2]) rfl (ResAll.cons (ResAt.tmp rfl) ResAll.nil) rfl H

theorem lift_ref01uSame (a : Sl) (b : Sl) (w : World) (S : Bool → Heap → Prop) (H : ref01uSame a b w.heap S) :
    Calls Tryd.prog 16 #[Sl.toV a, Sl.toV b] w (Post w Value.bool S) := by
  refine Calls.lift (args := [Sl.toV a, Sl.toV b]) Tryd.func16 rfl Tryd.ntmps16 (Nat.le_of_ble_eq_true rfl) (fun h => ref01uSame a b h S) H (fun h H => ?_)
  refine AtC.pick (ts := [0, 1]) rfl ?_
  unfold ref01uSame at H
  refine AtC.seqR ?_
  refine AtL.pures hT 1 _ _ _ _ rfl ?_
  refine AtL.nil ?_
  refine AtE.then_n (AtE.go ?_)
  refine AtC.seq ?_
  refine AtC.seqR ?_
  refine AtL.pures hT 5 _ _ _ _ rfl ?_
  refine AtL.nil ?_
  refine AtE.then_n (AtE.go ?_)
  refine AtC.condB H rfl (fun H => ?_) (fun H => ?_)
  ·
   refine AtC.seqR ?_
   refine AtL.pures hT 1 _ _ _ _ rfl ?_
   refine AtL.nil ?_
   refine AtE.then_n (AtE.go ?_)
   refine AtC.ret ?_
   refine AtE.then_r ?_
   exact AtE.retN (rs := [.tmp 4]) rfl (ResAll.cons (ResAt.tmp rfl) ResAll.nil) rfl H
  ·
   refine AtC.skip ?_
   refine AtE.then_n (AtE.go ?_)
   refine AtC.seq ?_
   refine AtC.seqR ?_
   refine AtL.pures hT 1 _ _ _ _ rfl ?_
   refine AtL.nil ?_
   refine AtE.then_n (AtE.go ?_)
   refine AtC.block ?_
   refine AtC.loopM (fun (s0 : Int) => [(5, Value.int .i64 s0)]) [0, 1] [5, 0, 1] H (by exact rfl) (by exact rfl) (fun Kp1 s0 h0 H Q1 HK1 => ?_)
   refine AtC.seq ?_
   refine AtC.seqR ?_
   refine AtL.pures hT 4 _ _ _ _ rfl ?_
   refine AtL.nil ?_
   refine AtE.then_n (AtE.go ?_)
   refine AtC.condB H rfl (fun H => ?_) (fun H => ?_)
   ·
    refine AtC.skip ?_
    refine AtE.then_n (AtE.go ?_)
    refine AtC.seq ?_
    refine AtC.block ?_
    refine AtC.seqD hmix (by kernel_rfl) ?_
    refine AtD.pures hT 2 _ _ _ _ rfl ?_
    obtain ⟨a_1_, hc1, hd1, H⟩ := H
    refine AtD.q rfl (Quiet1.idxS (s := _) hT rfl rfl rfl rfl rfl hc1 hd1) ?_
    obtain ⟨v, hc2, H⟩ := H
    refine AtD.q rfl (Quiet1.load hT rfl rfl rfl hc2) ?_
    refine AtD.pures hT 2 _ _ _ _ rfl ?_
    obtain ⟨a_2_, hc3, hd3, H⟩ := H
    refine AtD.q rfl (Quiet1.idxS (s := _) hT rfl rfl rfl rfl rfl hc3 hd3) ?_
    obtain ⟨v_1, hc4, H⟩ := H
    refine AtD.q rfl (Quiet1.load hT rfl rfl rfl hc4) ?_
    refine AtD.pures hT 1 _ _ _ _ rfl ?_
    refine AtD.nil ?_
    refine AtE.then_n (AtE.go ?_)
    refine AtC.condB H rfl (fun H => ?_) (fun H => ?_)
    ·
     refine AtC.seqR ?_
     refine AtL.pures hT 1 _ _ _ _ rfl ?_
     refine AtL.nil ?_
     refine AtE.then_n (AtE.go ?_)
     refine AtC.ret ?_
     refine AtE.blk_r ?_
     refine AtE.then_r ?_
     refine AtE.then_r ?_
     refine AtE.blk_r ?_
     refine AtE.then_r ?_
     exact AtE.retN (rs := [.tmp 4]) rfl (ResAll.cons (ResAt.tmp rfl) ResAll.nil) rfl H
    ·
     refine AtC.skip ?_
     refine AtE.blk_n ?_
     refine AtE.then_n (AtE.go ?_)
     refine AtC.region ?_
     refine AtL.pures hT 3 _ _ _ _ rfl ?_
     replace H := H _ rfl
     refine AtL.nil ?_
     exact AtE.then_n ((HK1 _ _ H).pick (ts := [5, 0, 1]) rfl)
   ·
    refine AtC.exit ?_
    refine AtE.then_x ?_
    refine AtE.then_x ?_
    refine AtE.blk_hit ?_
    refine AtE.then_n (AtE.go ?_)
    refine AtC.seqR ?_
    refine AtL.pures hT 1 _ _ _ _ rfl ?_
    refine AtL.nil ?_
    refine AtE.then_n (AtE.go ?_)
    refine AtC.ret ?_
    exact AtE.retN (rs := [.tmp 4]) rfl (ResAll.cons (ResAt.tmp rfl) ResAll.nil) rfl H

theorem lift_nat_Right (x0 : Sl) (w : World) (S : Bool → Heap → Prop) (H : nat_Right x0 w.heap S) :
    Calls Tryd.prog 95 #[Sl.toV x0] w (Post w Value.bool S) := by
  refine Calls.lift (args := [Sl.toV x0]) Tryd.func95 rfl Tryd.ntmps95 (Nat.le_of_ble_eq_true rfl) (fun h => nat_Right x0 h S) H (fun h H => ?_)
  refine AtC.pick (ts := [0]) rfl ?_
  unfold nat_Right at H
  refine AtC.seqR ?_
  refine AtL.pures hT 1 _ _ _ _ rfl ?_
  refine AtL.nil ?_
  refine AtE.then_n (AtE.go ?_)
  refine AtC.seqR ?_
  refine AtL.pures hT 1 _ _ _ _ rfl ?_
  refine AtL.e rfl (Eff.call (f := 89) (sh := fun h => nat_trim _ h _) (H0 := H) rfl Tryd.call89 rfl (hl := fun w hw => lift_nat_trim _ w _ hw)) ?_
  rintro _ h0 ⟨v, rfl, H⟩
  refine AtL.pures hT 5 _ _ _ _ rfl ?_
  refine AtL.nil ?_
  refine AtE.then_n (AtE.go ?_)
  refine AtC.ret ?_
  exact AtE.retN (rs := [.tmp 2]) rfl (ResAll.cons (ResAt.tmp rfl) ResAll.nil) rfl H

theorem lift_law01utold (b : (Option Addr)) (limbs : Int) (x0 : Sl) (want : Sl) (w : World) (S : Bool → Heap → Prop) (H : law01utold b limbs x0 want w.heap S) :
    Calls Tryd.prog 26 #[Value.pointer b, Value.int .i64 limbs, Sl.toV x0, Sl.toV want] w (Post w Value.bool S) := by
  refine Calls.lift (args := [Value.pointer b, Value.int .i64 limbs, Sl.toV x0, Sl.toV want]) Tryd.func26 rfl Tryd.ntmps26 (Nat.le_of_ble_eq_true rfl) (fun h => law01utold b limbs x0 want h S) H (fun h H => ?_)
  refine AtC.pick (ts := [0, 1, 2, 3]) rfl ?_
  unfold law01utold at H
  refine AtC.seqR ?_
  refine AtL.pures hT 1 _ _ _ _ rfl ?_
  refine AtL.nil ?_
  refine AtE.then_n (AtE.go ?_)
  refine AtC.seqR ?_
  refine AtL.pures hT 1 _ _ _ _ rfl ?_
  refine AtL.e rfl (Eff.call (f := 32) (sh := fun h => ref01uLimbs _ h _) (H0 := H) rfl Tryd.call32 rfl (hl := fun w hw => lift_ref01uLimbs _ w _ hw)) ?_
  rintro _ h0 ⟨v, rfl, H⟩
  refine AtL.pures hT 1 _ _ _ _ rfl ?_
  refine AtL.nil ?_
  refine AtE.then_n (AtE.go ?_)
  refine AtC.seq ?_
  refine AtC.seqR ?_
  refine AtL.pures hT 4 _ _ _ _ rfl ?_
  refine AtL.nil ?_
  refine AtE.then_n (AtE.go ?_)
  refine AtC.condB H rfl (fun H => ?_) (fun H => ?_)
  ·
   refine AtC.joinSeq (fun (t0 : Bool) => [(8, Value.bool t0)]) [] H (by exact rfl) (fun t0 h0u1 H => ?_) (fun J1 H HK1 => ?_)
   ·
    refine AtC.ret ?_
    refine AtE.then_r ?_
    exact AtE.retN (rs := [.tmp 8]) rfl (ResAll.cons (ResAt.tmp rfl) ResAll.nil) rfl H
   ·
    refine AtC.region ?_
    refine AtL.pures hT 1 _ _ _ _ rfl ?_
    refine AtL.e rfl (Eff.call (f := 24) (sh := fun h => nat_Bench_Over _ h _) (H0 := H) rfl Tryd.call24 rfl (hl := fun w hw => lift_nat_Bench_Over _ w _ hw)) ?_
    rintro _ h0u2 ⟨v_1, rfl, H⟩
    refine AtL.pures hT 1 _ _ _ _ rfl ?_
    refine AtL.splitB (t := 18) H rfl (fun H => ?_) (fun H => ?_)
    ·
     refine AtL.yes rfl rfl rfl ?_
     refine AtL.pures hT 1 _ _ _ _ rfl ?_
     refine AtL.yes rfl rfl rfl ?_
     refine AtL.pures hT 1 _ _ _ _ rfl ?_
     refine AtL.yes rfl rfl rfl ?_
     refine AtL.pures hT 1 _ _ _ _ rfl ?_
     refine AtL.pures hT 2 _ _ _ _ rfl ?_
     refine AtL.nil ?_
     exact AtE.then_n ((HK1 _ _ H).pick (ts := [8]) rfl)
    ·
     refine AtL.noF rfl rfl rfl (by decide) rfl ?_
     refine AtL.noF rfl rfl rfl (by decide) rfl ?_
     refine AtL.noF rfl rfl rfl (by decide) rfl ?_
     refine AtL.pures hT 2 _ _ _ _ rfl ?_
     refine AtL.nil ?_
     exact AtE.then_n ((HK1 _ _ H).pick (ts := [8]) rfl)
  ·
   refine AtC.skip ?_
   refine AtE.then_n (AtE.go ?_)
   refine AtC.joinSeq (fun (t0u1 : Bool) => [(8, Value.bool t0u1)]) [] H (by exact rfl) (fun t0u1 h0u3 H => ?_) (fun J2 H HK2 => ?_)
   ·
    refine AtC.ret ?_
    exact AtE.retN (rs := [.tmp 8]) rfl (ResAll.cons (ResAt.tmp rfl) ResAll.nil) rfl H
   ·
    refine AtC.region ?_
    refine AtL.pures hT 1 _ _ _ _ rfl ?_
    refine AtL.e rfl (Eff.call (f := 24) (sh := fun h => nat_Bench_Over _ h _) (H0 := H) rfl Tryd.call24 rfl (hl := fun w hw => lift_nat_Bench_Over _ w _ hw)) ?_
    rintro _ h0u4 ⟨v_2, rfl, H⟩
    refine AtL.pures hT 2 _ _ _ _ rfl ?_
    refine AtL.splitB (t := 26) H rfl (fun H => ?_) (fun H => ?_)
    ·
     refine AtL.yes rfl rfl rfl ?_
     refine AtL.pures hT 1 _ _ _ _ rfl ?_
     refine AtL.yes rfl rfl rfl ?_
     refine AtL.pures hT 1 _ _ _ _ rfl ?_
     refine AtL.yes rfl rfl rfl ?_
     refine AtL.e rfl (Eff.call (f := 16) (sh := fun h => ref01uSame _ _ h _) (H0 := H) rfl Tryd.call16 rfl (hl := fun w hw => lift_ref01uSame _ _ w _ hw)) ?_
     rintro _ h0u5 ⟨v_3, rfl, H⟩
     refine AtL.pures hT 2 _ _ _ _ rfl ?_
     refine AtL.splitB (t := 31) H rfl (fun H => ?_) (fun H => ?_)
     ·
      refine AtL.yes rfl rfl rfl ?_
      refine AtL.pures hT 1 _ _ _ _ rfl ?_
      refine AtL.yes rfl rfl rfl ?_
      refine AtL.e rfl (Eff.call (f := 95) (sh := fun h => nat_Right _ h _) (H0 := H) rfl Tryd.call95 rfl (hl := fun w hw => lift_nat_Right _ w _ hw)) ?_
      rintro _ h0u6 ⟨v_4, rfl, H⟩
      refine AtL.pures hT 2 _ _ _ _ rfl ?_
      refine AtL.nil ?_
      exact AtE.then_n ((HK2 _ _ H).pick (ts := [8]) rfl)
     ·
      refine AtL.noF rfl rfl rfl (by decide) rfl ?_
      refine AtL.noF rfl rfl rfl (by decide) rfl ?_
      refine AtL.pures hT 2 _ _ _ _ rfl ?_
      refine AtL.nil ?_
      exact AtE.then_n ((HK2 _ _ H).pick (ts := [8]) rfl)
    ·
     refine AtL.noF rfl rfl rfl (by decide) rfl ?_
     refine AtL.noF rfl rfl rfl (by decide) rfl ?_
     refine AtL.noF rfl rfl rfl (by decide) rfl ?_
     refine AtL.pures hT 2 _ _ _ _ rfl ?_
     refine AtL.noF rfl rfl rfl (by decide) rfl ?_
     refine AtL.noF rfl rfl rfl (by decide) rfl ?_
     refine AtL.pures hT 2 _ _ _ _ rfl ?_
     refine AtL.nil ?_
     exact AtE.then_n ((HK2 _ _ H).pick (ts := [8]) rfl)

theorem lift_nat_Bench_Sub (b : (Option Addr)) (x0 : Sl) (y : Sl) (w : World) (S : Sl → Heap → Prop) (H : nat_Bench_Sub b x0 y w.heap S) :
    Calls Tryd.prog 19 #[Value.pointer b, Sl.toV x0, Sl.toV y] w (Post w Sl.toV S) := by
  refine Calls.lift (args := [Value.pointer b, Sl.toV x0, Sl.toV y]) Tryd.func19 rfl Tryd.ntmps19 (Nat.le_of_ble_eq_true rfl) (fun h => nat_Bench_Sub b x0 y h S) H (fun h H => ?_)
  refine AtC.pick (ts := [0, 1, 2]) rfl ?_
  unfold nat_Bench_Sub at H
  refine AtC.seqR ?_
  refine AtL.pures hT 1 _ _ _ _ rfl ?_
  refine AtL.nil ?_
  refine AtE.then_n (AtE.go ?_)
  refine AtC.seq ?_
  refine AtC.seqR ?_
  refine AtL.pures hT 2 _ _ _ _ rfl ?_
  refine AtL.e rfl (Eff.call (f := 23) (sh := fun h => nat_Cmp _ _ h _) (H0 := H) rfl Tryd.call23 rfl (hl := fun w hw => lift_nat_Cmp _ _ w _ hw)) ?_
  rintro _ h0 ⟨v, rfl, H⟩
  refine AtL.pures hT 1 _ _ _ _ rfl ?_
  refine AtL.nil ?_
  refine AtE.then_n (AtE.go ?_)
  refine AtC.condB H rfl (fun H => ?_) (fun H => ?_)
  ·
   refine AtC.seqR ?_
   refine AtL.pures hT 1 _ _ _ _ rfl ?_
   refine AtL.nil ?_
   refine AtE.then_n (AtE.go ?_)
   refine AtC.ret ?_
   refine AtE.then_r ?_
   exact AtE.retN (rs := [.tmp 6]) rfl (ResAll.cons (ResAt.tmp rfl) ResAll.nil) rfl H
  ·
   refine AtC.skip ?_
   refine AtE.then_n (AtE.go ?_)
   refine AtC.seqR ?_
   refine AtL.pures hT 3 _ _ _ _ rfl ?_
   refine AtL.e rfl (Eff.call (f := 89) (sh := fun h => nat_trim _ h _) (H0 := H) rfl Tryd.call89 rfl (hl := fun w hw => lift_nat_trim _ w _ hw)) ?_
   rintro _ h0u1 ⟨v_1, rfl, H⟩
   refine AtL.e rfl (Eff.call (f := 90) (sh := fun h => nat_minus _ _ h _) (H0 := H) rfl Tryd.call90 rfl (hl := fun w hw => lift_nat_minus _ _ w _ hw)) ?_
   rintro _ h0u2 ⟨v_2, rfl, H⟩
   refine AtL.e rfl (Eff.call (f := 86) (sh := fun h => nat_Bench_fit _ _ h _) (H0 := H) rfl Tryd.call86 rfl (hl := fun w hw => lift_nat_Bench_fit _ _ w _ hw)) ?_
   rintro _ h0u3 ⟨v_3, rfl, H⟩
   refine AtL.pures hT 1 _ _ _ _ rfl ?_
   refine AtL.nil ?_
   refine AtE.then_n (AtE.go ?_)
   refine AtC.ret ?_
   exact AtE.retN (rs := [.tmp 6]) rfl (ResAll.cons (ResAt.tmp rfl) ResAll.nil) rfl H

theorem lift_ref01uCmp (x0 : Sl) (y : Sl) (w : World) (S : Int → Heap → Prop) (H : ref01uCmp x0 y w.heap S) :
    Calls Tryd.prog 33 #[Sl.toV x0, Sl.toV y] w (Post w (Value.int .i64) S) := by
  refine Calls.lift (args := [Sl.toV x0, Sl.toV y]) Tryd.func33 rfl Tryd.ntmps33 (Nat.le_of_ble_eq_true rfl) (fun h => ref01uCmp x0 y h S) H (fun h H => ?_)
  refine AtC.pick (ts := [0, 1]) rfl ?_
  unfold ref01uCmp at H
  refine AtC.seqR ?_
  refine AtL.pures hT 1 _ _ _ _ rfl ?_
  refine AtL.nil ?_
  refine AtE.then_n (AtE.go ?_)
  refine AtC.seq ?_
  refine AtC.seqR ?_
  refine AtL.pures hT 5 _ _ _ _ rfl ?_
  refine AtL.nil ?_
  refine AtE.then_n (AtE.go ?_)
  refine AtC.condB H rfl (fun H => ?_) (fun H => ?_)
  ·
   refine AtC.seq ?_
   refine AtC.seqR ?_
   refine AtL.pures hT 5 _ _ _ _ rfl ?_
   refine AtL.nil ?_
   refine AtE.then_n (AtE.go ?_)
   refine AtC.condB H rfl (fun H => ?_) (fun H => ?_)
   ·
    refine AtC.seqR ?_
    refine AtL.pures hT 1 _ _ _ _ rfl ?_
    refine AtL.nil ?_
    refine AtE.then_n (AtE.go ?_)
    refine AtC.ret ?_
    refine AtE.then_r ?_
    refine AtE.then_r ?_
    exact AtE.retN (rs := [.tmp 4]) rfl (ResAll.cons (ResAt.tmp rfl) ResAll.nil) rfl H
   ·
    refine AtC.skip ?_
    refine AtE.then_n (AtE.go ?_)
    refine AtC.seqR ?_
    refine AtL.pures hT 1 _ _ _ _ rfl ?_
    refine AtL.nil ?_
    refine AtE.then_n (AtE.go ?_)
    refine AtC.ret ?_
    refine AtE.then_r ?_
    exact AtE.retN (rs := [.tmp 4]) rfl (ResAll.cons (ResAt.tmp rfl) ResAll.nil) rfl H
  ·
   refine AtC.skip ?_
   refine AtE.then_n (AtE.go ?_)
   refine AtC.seq ?_
   refine AtC.seqR ?_
   refine AtL.pures hT 4 _ _ _ _ rfl ?_
   replace H := H _ rfl
   refine AtL.nil ?_
   refine AtE.then_n (AtE.go ?_)
   refine AtC.block ?_
   refine AtC.loopM (fun (s0 : Int) => [(5, Value.int .i64 s0)]) [0, 1] [5, 0, 1] H (by exact rfl) (by exact rfl) (fun Kp1 s0 h0 H Q1 HK1 => ?_)
   refine AtC.seq ?_
   refine AtC.seqR ?_
   refine AtL.pures hT 2 _ _ _ _ rfl ?_
   refine AtL.nil ?_
   refine AtE.then_n (AtE.go ?_)
   refine AtC.condB H rfl (fun H => ?_) (fun H => ?_)
   ·
    refine AtC.skip ?_
    refine AtE.then_n (AtE.go ?_)
    refine AtC.seq ?_
    refine AtC.block ?_
    refine AtC.seq ?_
    refine AtC.seqD hmix (by kernel_rfl) ?_
    refine AtD.pures hT 2 _ _ _ _ rfl ?_
    obtain ⟨a_, hc1, hd1, H⟩ := H
    refine AtD.q rfl (Quiet1.idxS (s := _) hT rfl rfl rfl rfl rfl hc1 hd1) ?_
    obtain ⟨v, hc2, H⟩ := H
    refine AtD.q rfl (Quiet1.load hT rfl rfl rfl hc2) ?_
    refine AtD.pures hT 2 _ _ _ _ rfl ?_
    obtain ⟨a_1_, hc3, hd3, H⟩ := H
    refine AtD.q rfl (Quiet1.idxS (s := _) hT rfl rfl rfl rfl rfl hc3 hd3) ?_
    obtain ⟨v_1, hc4, H⟩ := H
    refine AtD.q rfl (Quiet1.load hT rfl rfl rfl hc4) ?_
    refine AtD.pures hT 1 _ _ _ _ rfl ?_
    refine AtD.nil ?_
    refine AtE.then_n (AtE.go ?_)
    refine AtC.condB H rfl (fun H => ?_) (fun H => ?_)
    ·
     refine AtC.seqR ?_
     refine AtL.pures hT 1 _ _ _ _ rfl ?_
     refine AtL.nil ?_
     refine AtE.then_n (AtE.go ?_)
     refine AtC.ret ?_
     refine AtE.then_r ?_
     refine AtE.blk_r ?_
     refine AtE.then_r ?_
     refine AtE.then_r ?_
     refine AtE.blk_r ?_
     refine AtE.then_r ?_
     exact AtE.retN (rs := [.tmp 4]) rfl (ResAll.cons (ResAt.tmp rfl) ResAll.nil) rfl H
    ·
     refine AtC.skip ?_
     refine AtE.then_n (AtE.go ?_)
     refine AtC.seqD hmix (by kernel_rfl) ?_
     refine AtD.pures hT 2 _ _ _ _ rfl ?_
     obtain ⟨a_2_, hc5, hd5, H⟩ := H
     refine AtD.q rfl (Quiet1.idxS (s := _) hT rfl rfl rfl rfl rfl hc5 hd5) ?_
     obtain ⟨v_2, hc6, H⟩ := H
     refine AtD.q rfl (Quiet1.load hT rfl rfl rfl hc6) ?_
     refine AtD.pures hT 2 _ _ _ _ rfl ?_
     obtain ⟨a_3_, hc7, hd7, H⟩ := H
     refine AtD.q rfl (Quiet1.idxS (s := _) hT rfl rfl rfl rfl rfl hc7 hd7) ?_
     obtain ⟨v_3, hc8, H⟩ := H
     refine AtD.q rfl (Quiet1.load hT rfl rfl rfl hc8) ?_
     refine AtD.pures hT 1 _ _ _ _ rfl ?_
     refine AtD.nil ?_
     refine AtE.then_n (AtE.go ?_)
     refine AtC.condB H rfl (fun H => ?_) (fun H => ?_)
     ·
      refine AtC.seqR ?_
      refine AtL.pures hT 1 _ _ _ _ rfl ?_
      refine AtL.nil ?_
      refine AtE.then_n (AtE.go ?_)
      refine AtC.ret ?_
      refine AtE.blk_r ?_
      refine AtE.then_r ?_
      refine AtE.then_r ?_
      refine AtE.blk_r ?_
      refine AtE.then_r ?_
      exact AtE.retN (rs := [.tmp 4]) rfl (ResAll.cons (ResAt.tmp rfl) ResAll.nil) rfl H
     ·
      refine AtC.skip ?_
      refine AtE.blk_n ?_
      refine AtE.then_n (AtE.go ?_)
      refine AtC.region ?_
      refine AtL.pures hT 3 _ _ _ _ rfl ?_
      replace H := H _ rfl
      refine AtL.nil ?_
      exact AtE.then_n ((HK1 _ _ H).pick (ts := [5, 0, 1]) rfl)
   ·
    refine AtC.exit ?_
    refine AtE.then_x ?_
    refine AtE.then_x ?_
    refine AtE.blk_hit ?_
    refine AtE.then_n (AtE.go ?_)
    refine AtC.seqR ?_
    refine AtL.pures hT 1 _ _ _ _ rfl ?_
    refine AtL.nil ?_
    refine AtE.then_n (AtE.go ?_)
    refine AtC.ret ?_
    exact AtE.retN (rs := [.tmp 4]) rfl (ResAll.cons (ResAt.tmp rfl) ResAll.nil) rfl H

theorem lift_ref01uSub (x0 : Sl) (y : Sl) (w : World) (S : Sl → Heap → Prop) (H : ref01uSub x0 y w.heap S) :
    Calls Tryd.prog 28 #[Sl.toV x0, Sl.toV y] w (Post w Sl.toV S) := by
  refine Calls.lift (args := [Sl.toV x0, Sl.toV y]) Tryd.func28 rfl Tryd.ntmps28 (Nat.le_of_ble_eq_true rfl) (fun h => ref01uSub x0 y h S) H (fun h H => ?_)
  refine AtC.pick (ts := [0, 1]) rfl ?_
  unfold ref01uSub at H
  refine AtC.seqR ?_
  refine AtL.pures hT 1 _ _ _ _ rfl ?_
  refine AtL.nil ?_
  refine AtE.then_n (AtE.go ?_)
  refine AtC.seq ?_
  refine AtC.seqR ?_
  refine AtL.pures hT 2 _ _ _ _ rfl ?_
  refine AtL.e rfl (Eff.call (f := 33) (sh := fun h => ref01uCmp _ _ h _) (H0 := H) rfl Tryd.call33 rfl (hl := fun w hw => lift_ref01uCmp _ _ w _ hw)) ?_
  rintro _ h0 ⟨v, rfl, H⟩
  refine AtL.pures hT 1 _ _ _ _ rfl ?_
  refine AtL.nil ?_
  refine AtE.then_n (AtE.go ?_)
  refine AtC.condB H rfl (fun H => ?_) (fun H => ?_)
  ·
   refine AtC.seqR ?_
   refine AtL.bs (hT := hT) (cs := []) H rfl rfl rfl rfl rfl rfl rfl rfl rfl (fun a h0u1 H => ?_)
   refine AtL.pures hT 1 _ _ _ _ rfl ?_
   refine AtL.nil ?_
   refine AtE.then_n (AtE.go ?_)
   refine AtC.ret ?_
   refine AtE.then_r ?_
   exact AtE.retN (rs := [.tmp 4]) rfl (ResAll.cons (ResAt.tmp rfl) ResAll.nil) rfl H
  ·
   refine AtC.skip ?_
   refine AtE.then_n (AtE.go ?_)
   refine AtC.seqR ?_
   refine AtL.bs (hT := hT) (cs := []) H rfl rfl rfl rfl rfl rfl rfl rfl rfl (fun a_1 h0u2 H => ?_)
   refine AtL.pures hT 1 _ _ _ _ rfl ?_
   replace H := H _ rfl
   refine AtL.nil ?_
   refine AtE.then_n (AtE.go ?_)
   refine AtC.seqR ?_
   refine AtL.pures hT 1 _ _ _ _ rfl ?_
   refine AtL.nil ?_
   refine AtE.then_n (AtE.go ?_)
   refine AtC.seq ?_
   refine AtC.seqR ?_
   refine AtL.pures hT 1 _ _ _ _ rfl ?_
   refine AtL.nil ?_
   refine AtE.then_n (AtE.go ?_)
   refine AtC.block ?_
   refine AtC.loopM (fun (s0 : Sl × Int × Int) => [(5, Sl.toV s0.1), (6, Value.int .i64 s0.2.1), (7, Value.int .i64 s0.2.2)]) [0, 1] [5, 6, 7, 0, 1] H (by exact rfl) (by exact rfl) (fun Kp1 s0 h0u3 H Q1 HK1 => ?_)
   refine AtC.seq ?_
   refine AtC.seqR ?_
   refine AtL.pures hT 4 _ _ _ _ rfl ?_
   refine AtL.nil ?_
   refine AtE.then_n (AtE.go ?_)
   refine AtC.condB H rfl (fun H => ?_) (fun H => ?_)
   ·
    refine AtC.skip ?_
    refine AtE.then_n (AtE.go ?_)
    refine AtC.seq ?_
    refine AtC.block ?_
    refine AtC.seqR ?_
    refine AtL.pures hT 2 _ _ _ _ rfl ?_
    obtain ⟨a_2_, hc1, hd1, H⟩ := H
    refine AtL.q rfl (Quiet1.idxS (s := _) hT rfl rfl rfl rfl rfl hc1 hd1) ?_
    obtain ⟨v_3, hc2, H⟩ := H
    refine AtL.q rfl (Quiet1.load hT rfl rfl rfl hc2) ?_
    refine AtL.pures hT 3 _ _ _ _ rfl ?_
    replace H := H _ rfl
    refine AtL.nil ?_
    refine AtE.then_n (AtE.go ?_)
    refine AtC.joinSeq (fun (t0 : Int) => [(8, Value.int .i64 t0)]) [0, 1, 5, 7] H (by exact rfl) (fun t0 h0u4 H => ?_) (fun J4 H HK4 => ?_)
    ·
     refine AtC.seqR ?_
     refine AtL.pures hT 1 _ _ _ _ rfl ?_
     refine AtL.nil ?_
     refine AtE.then_n (AtE.go ?_)
     refine AtC.joinSeq (fun (t0u1 : Int × Int) => [(6, Value.int .i64 t0u1.1), (8, Value.int .i64 t0u1.2)]) [0, 1, 5, 7] H (by exact rfl) (fun t0u1 h0u5 H => ?_) (fun J7 H HK7 => ?_)
     ·
      refine AtC.region ?_
      refine AtL.pures hT 2 _ _ _ _ rfl ?_
      refine AtL.bs (hT := hT) (cs := [_]) H rfl rfl rfl rfl rfl rfl rfl rfl rfl (fun a_4 h0u6 H => ?_)
      refine AtL.e rfl (Eff.appendS (s := _) (u := _) hT rfl rfl rfl rfl rfl rfl rfl rfl rfl rfl (by decide) H) ?_
      rintro _ h0u7 ⟨v_6, rfl, H⟩
      refine AtL.pures hT 1 _ _ _ _ rfl ?_
      refine AtL.nil ?_
      refine AtE.blk_n ?_
      refine AtE.then_n (AtE.go ?_)
      refine AtC.region ?_
      refine AtL.pures hT 3 _ _ _ _ rfl ?_
      replace H := H _ rfl
      refine AtL.nil ?_
      exact AtE.then_n ((HK1 _ _ H).pick (ts := [5, 6, 7, 0, 1]) rfl)
     ·
      refine AtC.seqR ?_
      refine AtL.pures hT 2 _ _ _ _ rfl ?_
      refine AtL.nil ?_
      refine AtE.then_n (AtE.go ?_)
      refine AtC.condB H rfl (fun H => ?_) (fun H => ?_)
      ·
       refine AtC.seqR ?_
       refine AtL.pures hT 3 _ _ _ _ rfl ?_
       replace H := H _ rfl
       refine AtL.nil ?_
       refine AtE.then_n (AtE.go ?_)
       refine AtC.region ?_
       refine AtL.pures hT 1 _ _ _ _ rfl ?_
       refine AtL.nil ?_
       exact AtE.then_n ((HK7 _ _ H).pick (ts := [6, 8, 0, 1, 5, 7]) rfl)
      ·
       refine AtC.skip ?_
       exact AtE.then_n ((HK7 _ _ H).pick (ts := [6, 8, 0, 1, 5, 7]) rfl)
    ·
     refine AtC.seqR ?_
     refine AtL.pures hT 4 _ _ _ _ rfl ?_
     refine AtL.nil ?_
     refine AtE.then_n (AtE.go ?_)
     refine AtC.condB H rfl (fun H => ?_) (fun H => ?_)
     ·
      refine AtC.region ?_
      refine AtL.pures hT 3 _ _ _ _ rfl ?_
      obtain ⟨a_3_, hc4, hd4, H⟩ := H
      refine AtL.q rfl (Quiet1.idxS (s := _) hT rfl rfl rfl rfl rfl hc4 hd4) ?_
      obtain ⟨v_4, hc5, H⟩ := H
      refine AtL.q rfl (Quiet1.load hT rfl rfl rfl hc5) ?_
      refine AtL.pures hT 2 _ _ _ _ rfl ?_
      replace H := H _ rfl
      refine AtL.nil ?_
      exact AtE.then_n ((HK4 _ _ H).pick (ts := [8, 0, 1, 5, 7]) rfl)
     ·
      refine AtC.skip ?_
      exact AtE.then_n ((HK4 _ _ H).pick (ts := [8, 0, 1, 5, 7]) rfl)
   ·
    refine AtC.exit ?_
    refine AtE.then_x ?_
    refine AtE.then_x ?_
    refine AtE.blk_hit ?_
    refine AtE.then_n (AtE.go ?_)
    refine AtC.seqR ?_
    refine AtL.pures hT 1 _ _ _ _ rfl ?_
    refine AtL.e rfl (Eff.call (f := 91) (sh := fun h => ref01uCut _ h _) (H0 := H) rfl Tryd.call91 rfl (hl := fun w hw => lift_ref01uCut _ w _ hw)) ?_
    rintro _ h0u8 ⟨v_7, rfl, H⟩
    refine AtL.pures hT 1 _ _ _ _ rfl ?_
    refine AtL.nil ?_
    refine AtE.then_n (AtE.go ?_)
    refine AtC.ret ?_
    exact AtE.retN (rs := [.tmp 4]) rfl (ResAll.cons (ResAt.tmp rfl) ResAll.nil) rfl H

theorem lift_ref01uMul (x0 : Sl) (y : Sl) (w : World) (S : Sl → Heap → Prop) (H : ref01uMul x0 y w.heap S) :
    Calls Tryd.prog 29 #[Sl.toV x0, Sl.toV y] w (Post w Sl.toV S) := by
  refine Calls.lift (args := [Sl.toV x0, Sl.toV y]) Tryd.func29 rfl Tryd.ntmps29 (Nat.le_of_ble_eq_true rfl) (fun h => ref01uMul x0 y h S) H (fun h H => ?_)
  refine AtC.pick (ts := [0, 1]) rfl ?_
  unfold ref01uMul at H
  refine AtC.seqR ?_
  refine AtL.pures hT 1 _ _ _ _ rfl ?_
  refine AtL.nil ?_
  refine AtE.then_n (AtE.go ?_)
  refine AtC.seqR ?_
  refine AtL.pures hT 6 _ _ _ _ rfl ?_
  replace H := H _ rfl
  refine AtL.e rfl (Eff.mkS hT rfl rfl rfl rfl rfl rfl rfl rfl (by decide) H) ?_
  rintro _ h0 ⟨v, rfl, H⟩
  refine AtL.pures hT 1 _ _ _ _ rfl ?_
  refine AtL.nil ?_
  refine AtE.then_n (AtE.go ?_)
  refine AtC.seq ?_
  refine AtC.seqR ?_
  refine AtL.pures hT 1 _ _ _ _ rfl ?_
  refine AtL.nil ?_
  refine AtE.then_n (AtE.go ?_)
  refine AtC.block ?_
  refine AtC.loopM (fun (s0 : Int) => [(6, Value.int .i64 s0)]) [0, 1, 5] [6, 0, 1, 5] H (by exact rfl) (by exact rfl) (fun Kp1 s0 h0u1 H Q1 HK1 => ?_)
  refine AtC.seq ?_
  refine AtC.seqR ?_
  refine AtL.pures hT 4 _ _ _ _ rfl ?_
  refine AtL.nil ?_
  refine AtE.then_n (AtE.go ?_)
  refine AtC.condB H rfl (fun H => ?_) (fun H => ?_)
  ·
   refine AtC.skip ?_
   refine AtE.then_n (AtE.go ?_)
   refine AtC.seq ?_
   refine AtC.block ?_
   refine AtC.seqR ?_
   refine AtL.pures hT 1 _ _ _ _ rfl ?_
   refine AtL.nil ?_
   refine AtE.then_n (AtE.go ?_)
   refine AtC.seqR ?_
   refine AtL.pures hT 1 _ _ _ _ rfl ?_
   refine AtL.nil ?_
   refine AtE.then_n (AtE.go ?_)
   refine AtC.block ?_
   refine AtC.loopM (fun (s0u1 : Int × Int) => [(7, Value.int .i64 s0u1.1), (8, Value.int .i64 s0u1.2)]) [0, 1, 5, 6] [7, 8, 0, 1, 5, 6] H (by exact rfl) (by exact rfl) (fun Kp2 s0u1 h0u2 H Q2 HK2 => ?_)
   refine AtC.seq ?_
   refine AtC.joinSeq (fun (t0 : Bool) => [(30, Value.bool t0)]) [0, 1, 5, 6, 7, 8] H (by exact rfl) (fun t0 h0u3 H => ?_) (fun J3 H HK3 => ?_)
   ·
    refine AtC.condB H rfl (fun H => ?_) (fun H => ?_)
    ·
     refine AtC.skip ?_
     refine AtE.then_n (AtE.go ?_)
     refine AtC.seq ?_
     refine AtC.block ?_
     refine AtC.seqR ?_
     refine AtL.pures hT 4 _ _ _ _ rfl ?_
     obtain ⟨a_, hc3, hd3, H⟩ := H
     refine AtL.q rfl (Quiet1.idxS (s := _) hT rfl rfl rfl rfl rfl hc3 hd3) ?_
     obtain ⟨v_1, hc4, H⟩ := H
     refine AtL.q rfl (Quiet1.load hT rfl rfl rfl hc4) ?_
     refine AtL.pures hT 3 _ _ _ _ rfl ?_
     replace H := H _ rfl
     refine AtL.nil ?_
     refine AtE.then_n (AtE.go ?_)
     refine AtC.joinSeq (fun (t0u1 : Int) => [(9, Value.int .i64 t0u1)]) [0, 1, 5, 6, 8] H (by exact rfl) (fun t0u1 h0u4 H => ?_) (fun J6 H HK6 => ?_)
     ·
      refine AtC.seqR ?_
      refine AtL.pures hT 6 _ _ _ _ rfl ?_
      obtain ⟨a_3_, hc10, hd10, H⟩ := H
      refine AtL.q rfl (Quiet1.idxS (s := _) hT rfl rfl rfl rfl rfl hc10 hd10) ?_
      refine AtL.e rfl (Eff.store hT rfl rfl rfl rfl rfl H) ?_
      rintro _ h0u5 H
      refine AtL.nil ?_
      refine AtE.then_n (AtE.go ?_)
      refine AtC.region ?_
      refine AtL.pures hT 3 _ _ _ _ rfl ?_
      replace H := H _ rfl
      refine AtL.nil ?_
      refine AtE.blk_n ?_
      refine AtE.then_n (AtE.go ?_)
      refine AtC.region ?_
      refine AtL.pures hT 3 _ _ _ _ rfl ?_
      replace H := H _ rfl
      refine AtL.nil ?_
      exact AtE.then_n ((HK2 _ _ H).pick (ts := [7, 8, 0, 1, 5, 6]) rfl)
     ·
      refine AtC.seqR ?_
      refine AtL.pures hT 4 _ _ _ _ rfl ?_
      refine AtL.nil ?_
      refine AtE.then_n (AtE.go ?_)
      refine AtC.condB H rfl (fun H => ?_) (fun H => ?_)
      ·
       refine AtC.draw hmix (by kernel_rfl) ?_
       refine AtD.pures hT 3 _ _ _ _ rfl ?_
       obtain ⟨a_1_, hc6, hd6, H⟩ := H
       refine AtD.q rfl (Quiet1.idxS (s := _) hT rfl rfl rfl rfl rfl hc6 hd6) ?_
       obtain ⟨v_2, hc7, H⟩ := H
       refine AtD.q rfl (Quiet1.load hT rfl rfl rfl hc7) ?_
       refine AtD.pures hT 2 _ _ _ _ rfl ?_
       obtain ⟨a_2_, hc8, hd8, H⟩ := H
       refine AtD.q rfl (Quiet1.idxS (s := _) hT rfl rfl rfl rfl rfl hc8 hd8) ?_
       obtain ⟨v_3, hc9, H⟩ := H
       refine AtD.q rfl (Quiet1.load hT rfl rfl rfl hc9) ?_
       refine AtD.pures hT 3 _ _ _ _ rfl ?_
       replace H := H _ rfl
       refine AtD.nil ?_
       exact AtE.then_n ((HK6 _ _ H).pick (ts := [9, 0, 1, 5, 6, 8]) rfl)
      ·
       refine AtC.skip ?_
       exact AtE.then_n ((HK6 _ _ H).pick (ts := [9, 0, 1, 5, 6, 8]) rfl)
    ·
     refine AtC.exit ?_
     refine AtE.then_x ?_
     refine AtE.then_x ?_
     refine AtE.blk_hit ?_
     refine AtE.blk_n ?_
     refine AtE.then_n (AtE.go ?_)
     refine AtC.region ?_
     refine AtL.pures hT 3 _ _ _ _ rfl ?_
     replace H := H _ rfl
     refine AtL.nil ?_
     exact AtE.then_n ((HK1 _ _ H).pick (ts := [6, 0, 1, 5]) rfl)
   ·
    refine AtC.region ?_
    refine AtL.pures hT 5 _ _ _ _ rfl ?_
    refine AtL.splitB (t := 27) H rfl (fun H => ?_) (fun H => ?_)
    ·
     refine AtL.noF rfl rfl rfl (by decide) rfl ?_
     refine AtL.noF rfl rfl rfl (by decide) rfl ?_
     refine AtL.pures hT 1 _ _ _ _ rfl ?_
     refine AtL.nil ?_
     exact AtE.then_n ((HK3 _ _ H).pick (ts := [30, 0, 1, 5, 6, 7, 8]) rfl)
    ·
     refine AtL.yes rfl rfl rfl ?_
     refine AtL.pures hT 1 _ _ _ _ rfl ?_
     refine AtL.yes rfl rfl rfl ?_
     refine AtL.pures hT 1 _ _ _ _ rfl ?_
     refine AtL.pures hT 1 _ _ _ _ rfl ?_
     refine AtL.nil ?_
     exact AtE.then_n ((HK3 _ _ H).pick (ts := [30, 0, 1, 5, 6, 7, 8]) rfl)
  ·
   refine AtC.exit ?_
   refine AtE.then_x ?_
   refine AtE.then_x ?_
   refine AtE.blk_hit ?_
   refine AtE.then_n (AtE.go ?_)
   refine AtC.seqR ?_
   refine AtL.pures hT 1 _ _ _ _ rfl ?_
   refine AtL.e rfl (Eff.call (f := 91) (sh := fun h => ref01uCut _ h _) (H0 := H) rfl Tryd.call91 rfl (hl := fun w hw => lift_ref01uCut _ w _ hw)) ?_
   rintro _ h0u6 ⟨v_4, rfl, H⟩
   refine AtL.pures hT 1 _ _ _ _ rfl ?_
   refine AtL.nil ?_
   refine AtE.then_n (AtE.go ?_)
   refine AtC.ret ?_
   exact AtE.retN (rs := [.tmp 4]) rfl (ResAll.cons (ResAt.tmp rfl) ResAll.nil) rfl H

theorem lift_math_bits_TrailingZeros32 (x0 : Int) (w : World) (S : Int → Heap → Prop) (H : math_bits_TrailingZeros32 x0 w.heap S) :
    Calls Tryd.prog 132 #[Value.int .u32 x0] w (Post w (Value.int .i64) S) := by
  refine Calls.lift (args := [Value.int .u32 x0]) Tryd.func132 rfl Tryd.ntmps132 (Nat.le_of_ble_eq_true rfl) (fun h => math_bits_TrailingZeros32 x0 h S) H (fun h H => ?_)
  refine AtC.pick (ts := [0]) rfl ?_
  unfold math_bits_TrailingZeros32 at H
  refine AtC.seqR ?_
  refine AtL.pures hT 1 _ _ _ _ rfl ?_
  refine AtL.nil ?_
  refine AtE.then_n (AtE.go ?_)
  refine AtC.seq ?_
  refine AtC.seqR ?_
  refine AtL.pures hT 2 _ _ _ _ rfl ?_
  refine AtL.nil ?_
  refine AtE.then_n (AtE.go ?_)
  refine AtC.condB H rfl (fun H => ?_) (fun H => ?_)
  ·
   refine AtC.seqR ?_
   refine AtL.pures hT 1 _ _ _ _ rfl ?_
   refine AtL.nil ?_
   refine AtE.then_n (AtE.go ?_)
   refine AtC.ret ?_
   refine AtE.then_r ?_
   exact AtE.retN (rs := [.tmp 2]) rfl (ResAll.cons (ResAt.tmp rfl) ResAll.nil) rfl H
  ·
   refine AtC.skip ?_
   refine AtE.then_n (AtE.go ?_)
   refine AtC.seqR ?_
   refine AtL.pures hT 6 _ _ _ _ rfl ?_
   obtain ⟨hd0, H⟩ := H
   refine AtL.q rfl (Quiet1.idxA hT rfl rfl rfl rfl rfl hd0) ?_
   obtain ⟨v, hc1, H⟩ := H
   refine AtL.q rfl (Quiet1.load hT rfl rfl rfl hc1) ?_
   refine AtL.pures hT 2 _ _ _ _ rfl ?_
   refine AtL.nil ?_
   refine AtE.then_n (AtE.go ?_)
   refine AtC.ret ?_
   exact AtE.retN (rs := [.tmp 2]) rfl (ResAll.cons (ResAt.tmp rfl) ResAll.nil) rfl H

theorem lift_nat_halve (x0 : Sl) (w : World) (S : (Sl × Int) → Heap → Prop) (H : nat_halve x0 w.heap S) :
    Calls Tryd.prog 119 #[Sl.toV x0] w (Post w (fun r => Value.tuple #[Sl.toV r.1, (Value.int .i64) r.2]) S) := by
  refine Calls.lift (args := [Sl.toV x0]) Tryd.func119 rfl Tryd.ntmps119 (Nat.le_of_ble_eq_true rfl) (fun h => nat_halve x0 h S) H (fun h H => ?_)
  refine AtC.pick (ts := [0]) rfl ?_
  unfold nat_halve at H
  refine AtC.seqR ?_
  refine AtL.pures hT 2 _ _ _ _ rfl ?_
  refine AtL.nil ?_
  refine AtE.then_n (AtE.go ?_)
  refine AtC.seqR ?_
  refine AtL.pures hT 1 _ _ _ _ rfl ?_
  refine AtL.nil ?_
  refine AtE.then_n (AtE.go ?_)
  refine AtC.seq ?_
  refine AtC.block ?_
  refine AtC.loopM (fun (s0 : Int) => [(4, Value.int .i64 s0)]) [0] [4, 0] H (by exact rfl) (by exact rfl) (fun Kp1 s0 h0 H Q1 HK1 => ?_)
  refine AtC.seq ?_
  refine AtC.seqR ?_
  refine AtL.pures hT 3 _ _ _ _ rfl ?_
  obtain ⟨a_, hc1, hd1, H⟩ := H
  refine AtL.q rfl (Quiet1.idxS (s := _) hT rfl rfl rfl rfl rfl hc1 hd1) ?_
  obtain ⟨v, hc2, H⟩ := H
  refine AtL.q rfl (Quiet1.load hT rfl rfl rfl hc2) ?_
  refine AtL.pures hT 1 _ _ _ _ rfl ?_
  refine AtL.nil ?_
  refine AtE.then_n (AtE.go ?_)
  refine AtC.condB H rfl (fun H => ?_) (fun H => ?_)
  ·
   refine AtC.skip ?_
   refine AtE.then_n (AtE.go ?_)
   refine AtC.block ?_
   refine AtC.region ?_
   refine AtL.pures hT 3 _ _ _ _ rfl ?_
   replace H := H _ rfl
   refine AtL.nil ?_
   refine AtE.blk_n ?_
   exact AtE.then_n ((HK1 _ _ H).pick (ts := [4, 0]) rfl)
  ·
   refine AtC.exit ?_
   refine AtE.then_x ?_
   refine AtE.then_x ?_
   refine AtE.blk_hit ?_
   refine AtE.then_n (AtE.go ?_)
   refine AtC.seqR ?_
   refine AtL.pures hT 4 _ _ _ _ rfl ?_
   obtain ⟨a_1_, hc3, hd3, H⟩ := H
   refine AtL.q rfl (Quiet1.idxS (s := _) hT rfl rfl rfl rfl rfl hc3 hd3) ?_
   obtain ⟨v_1, hc4, H⟩ := H
   refine AtL.q rfl (Quiet1.load hT rfl rfl rfl hc4) ?_
   refine AtL.e rfl (Eff.call (f := 132) (sh := fun h => math_bits_TrailingZeros32 _ h _) (H0 := H) rfl Tryd.call132 rfl (hl := fun w hw => lift_math_bits_TrailingZeros32 _ w _ hw)) ?_
   rintro _ h0u1 ⟨v_2, rfl, H⟩
   refine AtL.pures hT 2 _ _ _ _ rfl ?_
   replace H := H _ rfl
   refine AtL.nil ?_
   refine AtE.then_n (AtE.go ?_)
   refine AtC.seqR ?_
   refine AtL.pures hT 3 _ _ _ _ rfl ?_
   refine AtL.sl (hT := hT) H rfl rfl rfl rfl rfl rfl rfl (fun h => by cases h <;> rfl) rfl (fun v_3 H => ?_)
   refine AtL.e rfl (Eff.call (f := 118) (sh := fun h => slices_Clone_api_Nat_uint32 _ h _) (H0 := H) rfl Tryd.call118 rfl (hl := fun w hw => lift_slices_Clone_api_Nat_uint32 _ w _ hw)) ?_
   rintro _ h0u2 ⟨v_4, rfl, H⟩
   refine AtL.pures hT 1 _ _ _ _ rfl ?_
   refine AtL.nil ?_
   refine AtE.then_n (AtE.go ?_)
   refine AtC.joinSeq (fun (t0 : Unit) => []) [4, 5] H (by exact rfl) (fun t0 h0u3 H => ?_) (fun J7 H HK7 => ?_)
   ·
    refine AtC.seqR ?_
    refine AtL.pures hT 1 _ _ _ _ rfl ?_
    refine AtL.e rfl (Eff.call (f := 89) (sh := fun h => nat_trim _ h _) (H0 := H) rfl Tryd.call89 rfl (hl := fun w hw => lift_nat_trim _ w _ hw)) ?_
    rintro _ h0u8 ⟨v_8, rfl, H⟩
    refine AtL.pures hT 3 _ _ _ _ rfl ?_
    refine AtL.nil ?_
    refine AtE.then_n (AtE.go ?_)
    refine AtC.ret ?_
    exact AtE.retN (rs := [.tmp 2, .tmp 3]) rfl (ResAll.cons (ResAt.tmp rfl) (ResAll.cons (ResAt.tmp rfl) ResAll.nil)) rfl H
   ·
    refine AtC.seqR ?_
    refine AtL.pures hT 3 _ _ _ _ rfl ?_
    replace H := H _ rfl
    refine AtL.nil ?_
    refine AtE.then_n (AtE.go ?_)
    refine AtC.seqR ?_
    refine AtL.pures hT 2 _ _ _ _ rfl ?_
    refine AtL.nil ?_
    refine AtE.then_n (AtE.go ?_)
    refine AtC.condB H rfl (fun H => ?_) (fun H => ?_)
    ·
     refine AtC.seqR ?_
     refine AtL.pures hT 3 _ _ _ _ rfl ?_
     refine AtL.nil ?_
     refine AtE.then_n (AtE.go ?_)
     refine AtC.block ?_
     refine AtC.loopM (fun (s0u2 : Int) => [(35, Value.int .i64 s0u2)]) [4, 5, 6, 34] [35, 4, 5, 6, 34] H (by exact rfl) (by exact rfl) (fun Kp8 s0u2 h0u4 H Q8 HK8 => ?_)
     refine AtC.seqR ?_
     refine AtL.pures hT 1 _ _ _ _ rfl ?_
     refine AtL.nil ?_
     refine AtE.then_n (AtE.go ?_)
     refine AtC.seq ?_
     refine AtC.condB H rfl (fun H => ?_) (fun H => ?_)
     ·
      refine AtC.skip ?_
      refine AtE.then_n (AtE.go ?_)
      refine AtC.joinSeq (fun (t0u1 : Unit) => []) [4, 5, 6, 34, 35] H (by exact rfl) (fun t0u1 h0u5 H => ?_) (fun J9 H HK9 => ?_)
      ·
       refine AtC.region ?_
       refine AtL.pures hT 2 _ _ _ _ rfl ?_
       refine AtL.nil ?_
       exact AtE.then_n ((HK8 _ _ H).pick (ts := [35, 4, 5, 6, 34]) rfl)
      ·
       refine AtC.block ?_
       refine AtC.seqR ?_
       refine AtL.pures hT 2 _ _ _ _ rfl ?_
       refine AtL.nil ?_
       refine AtE.then_n (AtE.go ?_)
       refine AtC.seqR ?_
       refine AtL.pures hT 2 _ _ _ _ rfl ?_
       obtain ⟨a_2_, hc9, hd9, H⟩ := H
       refine AtL.q rfl (Quiet1.idxS (s := _) hT rfl rfl rfl rfl rfl hc9 hd9) ?_
       obtain ⟨v_5, hc10, H⟩ := H
       refine AtL.q rfl (Quiet1.load hT rfl rfl rfl hc10) ?_
       refine AtL.pures hT 1 _ _ _ _ rfl ?_
       obtain ⟨hd11, H⟩ := H
       refine AtL.q rfl (Quiet1.shr rfl rfl rfl hd11) ?_
       obtain ⟨a_3_, hc12, hd12, H⟩ := H
       refine AtL.q rfl (Quiet1.idxS (s := _) hT rfl rfl rfl rfl rfl hc12 hd12) ?_
       refine AtL.e rfl (Eff.store hT rfl rfl rfl rfl rfl H) ?_
       rintro _ h0u6 H
       refine AtL.nil ?_
       refine AtE.then_n (AtE.go ?_)
       refine AtC.seqR ?_
       refine AtL.pures hT 5 _ _ _ _ rfl ?_
       refine AtL.nil ?_
       refine AtE.then_n (AtE.go ?_)
       refine AtC.condB H rfl (fun H => ?_) (fun H => ?_)
       ·
        obtain ⟨a_4_, hc13, hd13, H⟩ := H
        obtain ⟨v_6, hc14, H⟩ := H
        obtain ⟨a_5_, hc15, hd15, H⟩ := H
        obtain ⟨v_7, hc16, H⟩ := H
        obtain ⟨hd17, H⟩ := H
        obtain ⟨a_6_, hc18, hd18, H⟩ := H
        apply AtC.stages [14] [[], [], [], [], [], [], [], [], [], [], [], [], [], [], []] [[], [], [0, 1], [0, 1, 2], [], [], [5], [4, 5, 6], [4, 5, 6, 7], [], [9], [4, 5, 6, 7, 8, 9, 10], [0, 1, 2, 3, 4, 5, 6, 7, 8, 9, 10, 11], [0, 1, 2, 3, 4, 5, 6, 7, 8, 9, 10, 11, 12], [0, 1, 2, 3, 4, 5, 6, 7, 8, 9, 10, 11, 12, 13]] hmix (by kernel_rfl) [(50, _), (51, _), (52, _), (53, _), (54, _), (55, _), (56, _), (57, _), (58, _), (59, _), (60, _), (61, _), (62, _), (63, _)] rfl 1 rfl
        refine Stg.go [0, 1, 2, 3, 4, 5, 6, 7, 8, 9, 10, 11, 12, 13] [14] rfl rfl (QAll.cons (QOp.p hT rfl rfl rfl rfl rfl) (QAll.cons (QOp.p hT rfl rfl rfl rfl rfl) (QAll.cons (QOp.q rfl rfl (Quiet1.idxS (s := _) hT rfl rfl rfl rfl rfl hc13 hd13) rfl rfl) (QAll.cons (QOp.q rfl rfl (Quiet1.load hT rfl rfl rfl hc14) rfl rfl) (QAll.cons (QOp.p hT rfl rfl rfl rfl rfl) (QAll.cons (QOp.p hT rfl rfl rfl rfl rfl) (QAll.cons (QOp.p hT rfl rfl rfl rfl rfl) (QAll.cons (QOp.q rfl rfl (Quiet1.idxS (s := _) hT rfl rfl rfl rfl rfl hc15 hd15) rfl rfl) (QAll.cons (QOp.q rfl rfl (Quiet1.load hT rfl rfl rfl hc16) rfl rfl) (QAll.cons (QOp.p hT rfl rfl rfl rfl rfl) (QAll.cons (QOp.p hT rfl rfl rfl rfl rfl) (QAll.cons (QOp.q rfl rfl (Quiet1.shl rfl rfl rfl hd17) rfl rfl) (QAll.cons (QOp.p hT rfl rfl rfl rfl rfl) (QAll.cons (QOp.q rfl rfl (Quiet1.idxS (s := _) hT rfl rfl rfl rfl rfl hc18 hd18) rfl rfl) QAll.nil)))))))))))))) ?_
        refine EAll.cons ?_ EAll.nil
        refine EOp.e rfl rfl rfl (Eff.store hT rfl rfl rfl rfl rfl H) ?_
        rintro _ h0u7 H
        apply Stg.next [] rfl rfl
        refine Stg.fin [] rfl rfl QAll.nil ?_
        refine AtE.blk_n ?_
        exact AtE.then_n ((HK9 _ _ H).pick (ts := [4, 5, 6, 34, 35]) rfl)
       ·
        refine AtC.skip ?_
        refine AtE.blk_n ?_
        exact AtE.then_n ((HK9 _ _ H).pick (ts := [4, 5, 6, 34, 35]) rfl)
     ·
      refine AtC.exit ?_
      refine AtE.then_x ?_
      refine AtE.then_x ?_
      refine AtE.blk_hit ?_
      exact AtE.then_n ((HK7 _ _ H).pick (ts := [4, 5]) rfl)
    ·
     refine AtC.skip ?_
     exact AtE.then_n ((HK7 _ _ H).pick (ts := [4, 5]) rfl)

theorem lift_nat_double (x0 : Sl) (k : Int) (w : World) (S : Sl → Heap → Prop) (H : nat_double x0 k w.heap S) :
    Calls Tryd.prog 120 #[Sl.toV x0, Value.int .i64 k] w (Post w Sl.toV S) := by
  refine Calls.lift (args := [Sl.toV x0, Value.int .i64 k]) Tryd.func120 rfl Tryd.ntmps120 (Nat.le_of_ble_eq_true rfl) (fun h => nat_double x0 k h S) H (fun h H => ?_)
  refine AtC.pick (ts := [0, 1]) rfl ?_
  unfold nat_double at H
  refine AtC.seqR ?_
  refine AtL.pures hT 1 _ _ _ _ rfl ?_
  refine AtL.nil ?_
  refine AtE.then_n (AtE.go ?_)
  refine AtC.seqR ?_
  refine AtL.pures hT 3 _ _ _ _ rfl ?_
  replace H := H _ rfl
  refine AtL.e rfl (Eff.mkS hT rfl rfl rfl rfl rfl rfl rfl rfl (by decide) H) ?_
  rintro _ h0 ⟨v, rfl, H⟩
  refine AtL.pures hT 1 _ _ _ _ rfl ?_
  refine AtL.nil ?_
  refine AtE.then_n (AtE.go ?_)
  refine AtC.seqR ?_
  refine AtL.pures hT 5 _ _ _ _ rfl ?_
  obtain ⟨hd0, H⟩ := H
  refine AtL.q rfl (Quiet1.shl rfl rfl rfl hd0) ?_
  obtain ⟨a_, hc1, hd1, H⟩ := H
  refine AtL.q rfl (Quiet1.idxS (s := _) hT rfl rfl rfl rfl rfl hc1 hd1) ?_
  refine AtL.e rfl (Eff.store hT rfl rfl rfl rfl rfl H) ?_
  rintro _ h0u1 H
  refine AtL.nil ?_
  refine AtE.then_n (AtE.go ?_)
  refine AtC.seqR ?_
  refine AtL.pures hT 2 _ _ _ _ rfl ?_
  refine AtL.e rfl (Eff.call (f := 88) (sh := fun h => nat_times _ _ h _) (H0 := H) rfl Tryd.call88 rfl (hl := fun w hw => lift_nat_times _ _ w _ hw)) ?_
  rintro _ h0u2 ⟨v_1, rfl, H⟩
  refine AtL.e rfl (Eff.call (f := 89) (sh := fun h => nat_trim _ h _) (H0 := H) rfl Tryd.call89 rfl (hl := fun w hw => lift_nat_trim _ w _ hw)) ?_
  rintro _ h0u3 ⟨v_2, rfl, H⟩
  refine AtL.pures hT 1 _ _ _ _ rfl ?_
  refine AtL.nil ?_
  refine AtE.then_n (AtE.go ?_)
  refine AtC.ret ?_
  exact AtE.retN (rs := [.tmp 4]) rfl (ResAll.cons (ResAt.tmp rfl) ResAll.nil) rfl H

theorem lift_nat_common (x0 : Sl) (y : Sl) (w : World) (S : Sl → Heap → Prop) (H : nat_common x0 y w.heap S) :
    Calls Tryd.prog 92 #[Sl.toV x0, Sl.toV y] w (Post w Sl.toV S) := by
  refine Calls.lift (args := [Sl.toV x0, Sl.toV y]) Tryd.func92 rfl Tryd.ntmps92 (Nat.le_of_ble_eq_true rfl) (fun h => nat_common x0 y h S) H (fun h H => ?_)
  refine AtC.pick (ts := [0, 1]) rfl ?_
  unfold nat_common at H
  refine AtC.seqR ?_
  refine AtL.pures hT 1 _ _ _ _ rfl ?_
  refine AtL.nil ?_
  refine AtE.then_n (AtE.go ?_)
  refine AtC.seqR ?_
  refine AtL.pures hT 1 _ _ _ _ rfl ?_
  refine AtL.e rfl (Eff.call (f := 89) (sh := fun h => nat_trim _ h _) (H0 := H) rfl Tryd.call89 rfl (hl := fun w hw => lift_nat_trim _ w _ hw)) ?_
  rintro _ h0 ⟨v, rfl, H⟩
  refine AtL.pures hT 1 _ _ _ _ rfl ?_
  refine AtL.e rfl (Eff.call (f := 89) (sh := fun h => nat_trim _ h _) (H0 := H) rfl Tryd.call89 rfl (hl := fun w hw => lift_nat_trim _ w _ hw)) ?_
  rintro _ h0u1 ⟨v_1, rfl, H⟩
  refine AtL.pures hT 2 _ _ _ _ rfl ?_
  refine AtL.nil ?_
  refine AtE.then_n (AtE.go ?_)
  refine AtC.seq ?_
  refine AtC.seqR ?_
  refine AtL.pures hT 3 _ _ _ _ rfl ?_
  refine AtL.nil ?_
  refine AtE.then_n (AtE.go ?_)
  refine AtC.condB H rfl (fun H => ?_) (fun H => ?_)
  ·
   refine AtC.seqR ?_
   refine AtL.pures hT 2 _ _ _ _ rfl ?_
   refine AtL.nil ?_
   refine AtE.then_n (AtE.go ?_)
   refine AtC.ret ?_
   refine AtE.then_r ?_
   exact AtE.retN (rs := [.tmp 4]) rfl (ResAll.cons (ResAt.tmp rfl) ResAll.nil) rfl H
  ·
   refine AtC.skip ?_
   refine AtE.then_n (AtE.go ?_)
   refine AtC.seq ?_
   refine AtC.seqR ?_
   refine AtL.pures hT 3 _ _ _ _ rfl ?_
   refine AtL.nil ?_
   refine AtE.then_n (AtE.go ?_)
   refine AtC.condB H rfl (fun H => ?_) (fun H => ?_)
   ·
    refine AtC.seqR ?_
    refine AtL.pures hT 2 _ _ _ _ rfl ?_
    refine AtL.nil ?_
    refine AtE.then_n (AtE.go ?_)
    refine AtC.ret ?_
    refine AtE.then_r ?_
    exact AtE.retN (rs := [.tmp 4]) rfl (ResAll.cons (ResAt.tmp rfl) ResAll.nil) rfl H
   ·
    refine AtC.skip ?_
    refine AtE.then_n (AtE.go ?_)
    refine AtC.joinSeq (fun (t0 : Unit) => []) [0, 1] H (by exact rfl) (fun t0 h0u2 H => ?_) (fun J1 H HK1 => ?_)
    ·
     refine AtC.seqR ?_
     refine AtL.pures hT 1 _ _ _ _ rfl ?_
     refine AtL.e rfl (Eff.call (f := 119) (sh := fun h => nat_halve _ h _) (H0 := H) rfl Tryd.call119 rfl (hl := fun w hw => lift_nat_halve _ w _ hw)) ?_
     rintro _ h0u7 ⟨v_5, rfl, H⟩
     refine AtL.pures hT 5 _ _ _ _ rfl ?_
     refine AtL.nil ?_
     refine AtE.then_n (AtE.go ?_)
     refine AtC.seqR ?_
     refine AtL.pures hT 1 _ _ _ _ rfl ?_
     refine AtL.e rfl (Eff.call (f := 119) (sh := fun h => nat_halve _ h _) (H0 := H) rfl Tryd.call119 rfl (hl := fun w hw => lift_nat_halve _ w _ hw)) ?_
     rintro _ h0u8 ⟨v_6, rfl, H⟩
     refine AtL.pures hT 5 _ _ _ _ rfl ?_
     refine AtL.nil ?_
     refine AtE.then_n (AtE.go ?_)
     refine AtC.seq ?_
     refine AtC.block ?_
     refine AtC.loopM (fun (s0u1 : Sl × Sl) => [(0, Sl.toV s0u1.1), (1, Sl.toV s0u1.2)]) [9, 10] [0, 1, 9, 10] H (by exact rfl) (by exact rfl) (fun Kp4 s0u1 h0u9 H Q4 HK4 => ?_)
     refine AtC.seq ?_
     refine AtC.seqR ?_
     refine AtL.pures hT 2 _ _ _ _ rfl ?_
     refine AtL.e rfl (Eff.call (f := 23) (sh := fun h => nat_Cmp _ _ h _) (H0 := H) rfl Tryd.call23 rfl (hl := fun w hw => lift_nat_Cmp _ _ w _ hw)) ?_
     rintro _ h0u10 ⟨v_7, rfl, H⟩
     refine AtL.pures hT 1 _ _ _ _ rfl ?_
     refine AtL.nil ?_
     refine AtE.then_n (AtE.go ?_)
     refine AtC.condB H rfl (fun H => ?_) (fun H => ?_)
     ·
      refine AtC.skip ?_
      refine AtE.then_n (AtE.go ?_)
      refine AtC.block ?_
      refine AtC.joinSeq (fun (t0u1 : Sl × Sl) => [(0, Sl.toV t0u1.1), (1, Sl.toV t0u1.2)]) [9, 10] H (by exact rfl) (fun t0u1 h0u11 H => ?_) (fun J5 H HK5 => ?_)
      ·
       refine AtC.region ?_
       refine AtL.pures hT 2 _ _ _ _ rfl ?_
       refine AtL.e rfl (Eff.call (f := 90) (sh := fun h => nat_minus _ _ h _) (H0 := H) rfl Tryd.call90 rfl (hl := fun w hw => lift_nat_minus _ _ w _ hw)) ?_
       rintro _ h0u13 ⟨v_9, rfl, H⟩
       refine AtL.e rfl (Eff.call (f := 119) (sh := fun h => nat_halve _ h _) (H0 := H) rfl Tryd.call119 rfl (hl := fun w hw => lift_nat_halve _ w _ hw)) ?_
       rintro _ h0u14 ⟨v_10, rfl, H⟩
       refine AtL.pures hT 4 _ _ _ _ rfl ?_
       refine AtL.nil ?_
       refine AtE.blk_n ?_
       exact AtE.then_n ((HK4 _ _ H).pick (ts := [0, 1, 9, 10]) rfl)
      ·
       refine AtC.seqR ?_
       refine AtL.pures hT 2 _ _ _ _ rfl ?_
       refine AtL.e rfl (Eff.call (f := 23) (sh := fun h => nat_Cmp _ _ h _) (H0 := H) rfl Tryd.call23 rfl (hl := fun w hw => lift_nat_Cmp _ _ w _ hw)) ?_
       rintro _ h0u12 ⟨v_8, rfl, H⟩
       refine AtL.pures hT 1 _ _ _ _ rfl ?_
       refine AtL.nil ?_
       refine AtE.then_n (AtE.go ?_)
       refine AtC.condB H rfl (fun H => ?_) (fun H => ?_)
       ·
        refine AtC.region ?_
        refine AtL.pures hT 4 _ _ _ _ rfl ?_
        refine AtL.nil ?_
        exact AtE.then_n ((HK5 _ _ H).pick (ts := [0, 1, 9, 10]) rfl)
       ·
        refine AtC.skip ?_
        exact AtE.then_n ((HK5 _ _ H).pick (ts := [0, 1, 9, 10]) rfl)
     ·
      refine AtC.exit ?_
      refine AtE.then_x ?_
      refine AtE.then_x ?_
      refine AtE.blk_hit ?_
      refine AtE.then_n (AtE.go ?_)
      refine AtC.seqR ?_
      refine AtL.pures hT 4 _ _ _ _ rfl ?_
      refine AtL.e rfl (Eff.call (f := 120) (sh := fun h => nat_double _ _ h _) (H0 := H) rfl Tryd.call120 rfl (hl := fun w hw => lift_nat_double _ _ w _ hw)) ?_
      rintro _ h0u15 ⟨v_11, rfl, H⟩
      refine AtL.pures hT 1 _ _ _ _ rfl ?_
      refine AtL.nil ?_
      refine AtE.then_n (AtE.go ?_)
      refine AtC.ret ?_
      exact AtE.retN (rs := [.tmp 4]) rfl (ResAll.cons (ResAt.tmp rfl) ResAll.nil) rfl H
    ·
     refine AtC.seqR ?_
     refine AtL.pures hT 1 _ _ _ _ rfl ?_
     refine AtL.e rfl (Eff.call (f := 96) (sh := fun h => nat_small _ h _) (H0 := H) rfl Tryd.call96 rfl (hl := fun w hw => lift_nat_small _ w _ hw)) ?_
     rintro _ h0u3 ⟨v_2, rfl, H⟩
     refine AtL.pures hT 5 _ _ _ _ rfl ?_
     refine AtL.nil ?_
     refine AtE.then_n (AtE.go ?_)
     refine AtC.seqR ?_
     refine AtL.pures hT 1 _ _ _ _ rfl ?_
     refine AtL.nil ?_
     refine AtE.then_n (AtE.go ?_)
     refine AtC.condB H rfl (fun H => ?_) (fun H => ?_)
     ·
      refine AtC.seqR ?_
      refine AtL.pures hT 1 _ _ _ _ rfl ?_
      refine AtL.e rfl (Eff.call (f := 96) (sh := fun h => nat_small _ h _) (H0 := H) rfl Tryd.call96 rfl (hl := fun w hw => lift_nat_small _ w _ hw)) ?_
      rintro _ h0u4 ⟨v_3, rfl, H⟩
      refine AtL.pures hT 5 _ _ _ _ rfl ?_
      refine AtL.nil ?_
      refine AtE.then_n (AtE.go ?_)
      refine AtC.seqR ?_
      refine AtL.pures hT 1 _ _ _ _ rfl ?_
      refine AtL.nil ?_
      refine AtE.then_n (AtE.go ?_)
      refine AtC.condB H rfl (fun H => ?_) (fun H => ?_)
      ·
       refine AtC.seq ?_
       refine AtC.block ?_
       refine AtC.loopM (fun (s0 : Int × Int) => [(5, Value.int .u64 s0.1), (7, Value.int .u64 s0.2)]) [] [5, 7] H (by exact rfl) (by exact rfl) (fun Kp2 s0 h0u5 H Q2 HK2 => ?_)
       refine AtC.seq ?_
       refine AtC.seqR ?_
       refine AtL.pures hT 2 _ _ _ _ rfl ?_
       refine AtL.nil ?_
       refine AtE.then_n (AtE.go ?_)
       refine AtC.condB H rfl (fun H => ?_) (fun H => ?_)
       ·
        refine AtC.skip ?_
        refine AtE.then_n (AtE.go ?_)
        refine AtC.block ?_
        refine AtC.draw hmix (by kernel_rfl) ?_
        refine AtD.pures hT 3 _ _ _ _ rfl ?_
        obtain ⟨hd2, H⟩ := H
        refine AtD.q rfl (Quiet1.rem rfl rfl rfl hd2) ?_
        refine AtD.pures hT 2 _ _ _ _ rfl ?_
        replace H := H _ rfl
        refine AtD.nil ?_
        refine AtE.blk_n ?_
        exact AtE.then_n ((HK2 _ _ H).pick (ts := [5, 7]) rfl)
       ·
        refine AtC.exit ?_
        refine AtE.then_x ?_
        refine AtE.then_x ?_
        refine AtE.blk_hit ?_
        refine AtE.then_n (AtE.go ?_)
        refine AtC.seqR ?_
        refine AtL.pures hT 1 _ _ _ _ rfl ?_
        refine AtL.e rfl (Eff.call (f := 85) (sh := fun h => nat_Of _ h _) (H0 := H) rfl Tryd.call85 rfl (hl := fun w hw => lift_nat_Of _ w _ hw)) ?_
        rintro _ h0u6 ⟨v_4, rfl, H⟩
        refine AtL.pures hT 1 _ _ _ _ rfl ?_
        refine AtL.nil ?_
        refine AtE.then_n (AtE.go ?_)
        refine AtC.ret ?_
        refine AtE.then_r ?_
        exact AtE.retN (rs := [.tmp 4]) rfl (ResAll.cons (ResAt.tmp rfl) ResAll.nil) rfl H
      ·
       refine AtC.skip ?_
       exact AtE.then_n ((HK1 _ _ H).pick (ts := [0, 1]) rfl)
     ·
      refine AtC.skip ?_
      exact AtE.then_n ((HK1 _ _ H).pick (ts := [0, 1]) rfl)

theorem lift_nat_Bench_Gcd (b : (Option Addr)) (x0 : Sl) (y : Sl) (w : World) (S : Sl → Heap → Prop) (H : nat_Bench_Gcd b x0 y w.heap S) :
    Calls Tryd.prog 21 #[Value.pointer b, Sl.toV x0, Sl.toV y] w (Post w Sl.toV S) := by
  refine Calls.lift (args := [Value.pointer b, Sl.toV x0, Sl.toV y]) Tryd.func21 rfl Tryd.ntmps21 (Nat.le_of_ble_eq_true rfl) (fun h => nat_Bench_Gcd b x0 y h S) H (fun h H => ?_)
  refine AtC.pick (ts := [0, 1, 2]) rfl ?_
  unfold nat_Bench_Gcd at H
  refine AtC.seqR ?_
  refine AtL.pures hT 1 _ _ _ _ rfl ?_
  refine AtL.nil ?_
  refine AtE.then_n (AtE.go ?_)
  refine AtC.seqR ?_
  refine AtL.pures hT 3 _ _ _ _ rfl ?_
  refine AtL.e rfl (Eff.call (f := 92) (sh := fun h => nat_common _ _ h _) (H0 := H) rfl Tryd.call92 rfl (hl := fun w hw => lift_nat_common _ _ w _ hw)) ?_
  rintro _ h0 ⟨v, rfl, H⟩
  refine AtL.e rfl (Eff.call (f := 86) (sh := fun h => nat_Bench_fit _ _ h _) (H0 := H) rfl Tryd.call86 rfl (hl := fun w hw => lift_nat_Bench_fit _ _ w _ hw)) ?_
  rintro _ h0u1 ⟨v_1, rfl, H⟩
  refine AtL.pures hT 1 _ _ _ _ rfl ?_
  refine AtL.nil ?_
  refine AtE.then_n (AtE.go ?_)
  refine AtC.ret ?_
  exact AtE.retN (rs := [.tmp 6]) rfl (ResAll.cons (ResAt.tmp rfl) ResAll.nil) rfl H

theorem lift_ref01uDiv (x0 : Sl) (y : Sl) (w : World) (S : (Sl × Sl) → Heap → Prop) (H : ref01uDiv x0 y w.heap S) :
    Calls Tryd.prog 31 #[Sl.toV x0, Sl.toV y] w (Post w (fun r => Value.tuple #[Sl.toV r.1, Sl.toV r.2]) S) := by
  refine Calls.lift (args := [Sl.toV x0, Sl.toV y]) Tryd.func31 rfl Tryd.ntmps31 (Nat.le_of_ble_eq_true rfl) (fun h => ref01uDiv x0 y h S) H (fun h H => ?_)
  refine AtC.pick (ts := [0, 1]) rfl ?_
  unfold ref01uDiv at H
  refine AtC.seqR ?_
  refine AtL.pures hT 2 _ _ _ _ rfl ?_
  refine AtL.nil ?_
  refine AtE.then_n (AtE.go ?_)
  refine AtC.seq ?_
  refine AtC.seqR ?_
  refine AtL.pures hT 3 _ _ _ _ rfl ?_
  refine AtL.nil ?_
  refine AtE.then_n (AtE.go ?_)
  refine AtC.condB H rfl (fun H => ?_) (fun H => ?_)
  ·
   refine AtC.seqR ?_
   refine AtL.bs (hT := hT) (cs := []) H rfl rfl rfl rfl rfl rfl rfl rfl rfl (fun a h0 H => ?_)
   refine AtL.bs (hT := hT) (cs := []) H rfl rfl rfl rfl rfl rfl rfl rfl rfl (fun a_1 h0u1 H => ?_)
   refine AtL.pures hT 2 _ _ _ _ rfl ?_
   refine AtL.nil ?_
   refine AtE.then_n (AtE.go ?_)
   refine AtC.ret ?_
   refine AtE.then_r ?_
   exact AtE.retN (rs := [.tmp 4, .tmp 5]) rfl (ResAll.cons (ResAt.tmp rfl) (ResAll.cons (ResAt.tmp rfl) ResAll.nil)) rfl H
  ·
   refine AtC.skip ?_
   refine AtE.then_n (AtE.go ?_)
   refine AtC.seqR ?_
   refine AtL.pures hT 2 _ _ _ _ rfl ?_
   replace H := H _ rfl
   refine AtL.e rfl (Eff.mkS hT rfl rfl rfl rfl rfl rfl rfl rfl (by decide) H) ?_
   rintro _ h0u2 ⟨v_2, rfl, H⟩
   refine AtL.pures hT 1 _ _ _ _ rfl ?_
   refine AtL.nil ?_
   refine AtE.then_n (AtE.go ?_)
   refine AtC.seqR ?_
   refine AtL.bs (hT := hT) (cs := []) H rfl rfl rfl rfl rfl rfl rfl rfl rfl (fun a_2 h0u3 H => ?_)
   refine AtL.pures hT 1 _ _ _ _ rfl ?_
   replace H := H _ rfl
   refine AtL.nil ?_
   refine AtE.then_n (AtE.go ?_)
   refine AtC.seq ?_
   refine AtC.seqR ?_
   refine AtL.pures hT 4 _ _ _ _ rfl ?_
   replace H := H _ rfl
   refine AtL.nil ?_
   refine AtE.then_n (AtE.go ?_)
   refine AtC.block ?_
   refine AtC.loopM (fun (s0 : Sl × Int) => [(7, Sl.toV s0.1), (8, Value.int .i64 s0.2)]) [0, 1, 6] [7, 8, 0, 1, 6] H (by exact rfl) (by exact rfl) (fun Kp1 s0 h0u4 H Q1 HK1 => ?_)
   refine AtC.seq ?_
   refine AtC.seqR ?_
   refine AtL.pures hT 2 _ _ _ _ rfl ?_
   refine AtL.nil ?_
   refine AtE.then_n (AtE.go ?_)
   refine AtC.condB H rfl (fun H => ?_) (fun H => ?_)
   ·
    refine AtC.skip ?_
    refine AtE.then_n (AtE.go ?_)
    refine AtC.seq ?_
    refine AtC.block ?_
    refine AtC.seqR ?_
    refine AtL.pures hT 2 _ _ _ _ rfl ?_
    obtain ⟨a_3_, hc1, hd1, H⟩ := H
    refine AtL.q rfl (Quiet1.idxS (s := _) hT rfl rfl rfl rfl rfl hc1 hd1) ?_
    obtain ⟨v_4, hc2, H⟩ := H
    refine AtL.q rfl (Quiet1.load hT rfl rfl rfl hc2) ?_
    refine AtL.bs (hT := hT) (cs := [_]) H rfl rfl rfl rfl rfl rfl rfl rfl rfl (fun a_4 h0u5 H => ?_)
    refine AtL.pures hT 1 _ _ _ _ rfl ?_
    refine AtL.e rfl (Eff.appendS (s := _) (u := _) hT rfl rfl rfl rfl rfl rfl rfl rfl rfl rfl (by decide) H) ?_
    rintro _ h0u6 ⟨v_6, rfl, H⟩
    refine AtL.e rfl (Eff.call (f := 91) (sh := fun h => ref01uCut _ h _) (H0 := H) rfl Tryd.call91 rfl (hl := fun w hw => lift_ref01uCut _ w _ hw)) ?_
    rintro _ h0u7 ⟨v_7, rfl, H⟩
    refine AtL.pures hT 1 _ _ _ _ rfl ?_
    refine AtL.nil ?_
    refine AtE.then_n (AtE.go ?_)
    refine AtC.block ?_
    refine AtC.loopM (fun (s0u1 : Sl) => [(7, Sl.toV s0u1)]) [0, 1, 6, 8] [7, 0, 1, 6, 8] H (by exact rfl) (by exact rfl) (fun Kp4 s0u1 h0u8 H Q4 HK4 => ?_)
    refine AtC.seq ?_
    refine AtC.seqR ?_
    refine AtL.pures hT 2 _ _ _ _ rfl ?_
    refine AtL.e rfl (Eff.call (f := 33) (sh := fun h => ref01uCmp _ _ h _) (H0 := H) rfl Tryd.call33 rfl (hl := fun w hw => lift_ref01uCmp _ _ w _ hw)) ?_
    rintro _ h0u9 ⟨v_8, rfl, H⟩
    refine AtL.pures hT 1 _ _ _ _ rfl ?_
    refine AtL.nil ?_
    refine AtE.then_n (AtE.go ?_)
    refine AtC.condB H rfl (fun H => ?_) (fun H => ?_)
    ·
     refine AtC.skip ?_
     refine AtE.then_n (AtE.go ?_)
     refine AtC.block ?_
     refine AtC.seqR ?_
     refine AtL.pures hT 2 _ _ _ _ rfl ?_
     refine AtL.e rfl (Eff.call (f := 28) (sh := fun h => ref01uSub _ _ h _) (H0 := H) rfl Tryd.call28 rfl (hl := fun w hw => lift_ref01uSub _ _ w _ hw)) ?_
     rintro _ h0u10 ⟨v_9, rfl, H⟩
     refine AtL.pures hT 1 _ _ _ _ rfl ?_
     refine AtL.nil ?_
     refine AtE.then_n (AtE.go ?_)
     refine AtC.region ?_
     refine AtL.pures hT 2 _ _ _ _ rfl ?_
     obtain ⟨a_5_, hc4, hd4, H⟩ := H
     refine AtL.q rfl (Quiet1.idxS (s := _) hT rfl rfl rfl rfl rfl hc4 hd4) ?_
     obtain ⟨v_10, hc5, H⟩ := H
     refine AtL.q rfl (Quiet1.load hT rfl rfl rfl hc5) ?_
     refine AtL.pures hT 1 _ _ _ _ rfl ?_
     obtain ⟨a_6_, hc6, hd6, H⟩ := H
     refine AtL.q rfl (Quiet1.idxS (s := _) hT rfl rfl rfl rfl rfl hc6 hd6) ?_
     refine AtL.e rfl (Eff.store hT rfl rfl rfl rfl rfl H) ?_
     rintro _ h0u11 H
     refine AtL.nil ?_
     refine AtE.blk_n ?_
     exact AtE.then_n ((HK4 _ _ H).pick (ts := [7, 0, 1, 6, 8]) rfl)
    ·
     refine AtC.exit ?_
     refine AtE.then_x ?_
     refine AtE.then_x ?_
     refine AtE.blk_hit ?_
     refine AtE.blk_n ?_
     refine AtE.then_n (AtE.go ?_)
     refine AtC.region ?_
     refine AtL.pures hT 3 _ _ _ _ rfl ?_
     replace H := H _ rfl
     refine AtL.nil ?_
     exact AtE.then_n ((HK1 _ _ H).pick (ts := [7, 8, 0, 1, 6]) rfl)
   ·
    refine AtC.exit ?_
    refine AtE.then_x ?_
    refine AtE.then_x ?_
    refine AtE.blk_hit ?_
    refine AtE.then_n (AtE.go ?_)
    refine AtC.seqR ?_
    refine AtL.pures hT 1 _ _ _ _ rfl ?_
    refine AtL.e rfl (Eff.call (f := 91) (sh := fun h => ref01uCut _ h _) (H0 := H) rfl Tryd.call91 rfl (hl := fun w hw => lift_ref01uCut _ w _ hw)) ?_
    rintro _ h0u12 ⟨v_11, rfl, H⟩
    refine AtL.pures hT 3 _ _ _ _ rfl ?_
    refine AtL.nil ?_
    refine AtE.then_n (AtE.go ?_)
    refine AtC.ret ?_
    exact AtE.retN (rs := [.tmp 4, .tmp 5]) rfl (ResAll.cons (ResAt.tmp rfl) (ResAll.cons (ResAt.tmp rfl) ResAll.nil)) rfl H

theorem lift_ref01uGcd (x0 : Sl) (y : Sl) (w : World) (S : Sl → Heap → Prop) (H : ref01uGcd x0 y w.heap S) :
    Calls Tryd.prog 30 #[Sl.toV x0, Sl.toV y] w (Post w Sl.toV S) := by
  refine Calls.lift (args := [Sl.toV x0, Sl.toV y]) Tryd.func30 rfl Tryd.ntmps30 (Nat.le_of_ble_eq_true rfl) (fun h => ref01uGcd x0 y h S) H (fun h H => ?_)
  refine AtC.pick (ts := [0, 1]) rfl ?_
  unfold ref01uGcd at H
  refine AtC.seqR ?_
  refine AtL.pures hT 1 _ _ _ _ rfl ?_
  refine AtL.nil ?_
  refine AtE.then_n (AtE.go ?_)
  refine AtC.seq ?_
  refine AtC.block ?_
  refine AtC.loopM (fun (s0 : Sl × Sl) => [(0, Sl.toV s0.1), (1, Sl.toV s0.2)]) [] [0, 1] H (by exact rfl) (by exact rfl) (fun Kp1 s0 h0 H Q1 HK1 => ?_)
  refine AtC.seq ?_
  refine AtC.seqR ?_
  refine AtL.pures hT 3 _ _ _ _ rfl ?_
  refine AtL.nil ?_
  refine AtE.then_n (AtE.go ?_)
  refine AtC.condB H rfl (fun H => ?_) (fun H => ?_)
  ·
   refine AtC.skip ?_
   refine AtE.then_n (AtE.go ?_)
   refine AtC.block ?_
   refine AtC.seqR ?_
   refine AtL.pures hT 2 _ _ _ _ rfl ?_
   refine AtL.e rfl (Eff.call (f := 31) (sh := fun h => ref01uDiv _ _ h _) (H0 := H) rfl Tryd.call31 rfl (hl := fun w hw => lift_ref01uDiv _ _ w _ hw)) ?_
   rintro _ h0u1 ⟨v, rfl, H⟩
   refine AtL.pures hT 5 _ _ _ _ rfl ?_
   refine AtL.nil ?_
   refine AtE.then_n (AtE.go ?_)
   refine AtC.region ?_
   refine AtL.pures hT 4 _ _ _ _ rfl ?_
   refine AtL.nil ?_
   refine AtE.blk_n ?_
   exact AtE.then_n ((HK1 _ _ H).pick (ts := [0, 1]) rfl)
  ·
   refine AtC.exit ?_
   refine AtE.then_x ?_
   refine AtE.then_x ?_
   refine AtE.blk_hit ?_
   refine AtE.then_n (AtE.go ?_)
   refine AtC.seqR ?_
   refine AtL.pures hT 2 _ _ _ _ rfl ?_
   refine AtL.nil ?_
   refine AtE.then_n (AtE.go ?_)
   refine AtC.ret ?_
   exact AtE.retN (rs := [.tmp 4]) rfl (ResAll.cons (ResAt.tmp rfl) ResAll.nil) rfl H

theorem lift_nat_Bench_Div (b : (Option Addr)) (x0 : Sl) (y : Sl) (w : World) (S : (Sl × Sl) → Heap → Prop) (H : nat_Bench_Div b x0 y w.heap S) :
    Calls Tryd.prog 22 #[Value.pointer b, Sl.toV x0, Sl.toV y] w (Post w (fun r => Value.tuple #[Sl.toV r.1, Sl.toV r.2]) S) := by
  refine Calls.lift (args := [Value.pointer b, Sl.toV x0, Sl.toV y]) Tryd.func22 rfl Tryd.ntmps22 (Nat.le_of_ble_eq_true rfl) (fun h => nat_Bench_Div b x0 y h S) H (fun h H => ?_)
  refine AtC.pick (ts := [0, 1, 2]) rfl ?_
  unfold nat_Bench_Div at H
  refine AtC.seqR ?_
  refine AtL.pures hT 2 _ _ _ _ rfl ?_
  refine AtL.nil ?_
  refine AtE.then_n (AtE.go ?_)
  refine AtC.seq ?_
  refine AtC.seqR ?_
  refine AtL.pures hT 1 _ _ _ _ rfl ?_
  refine AtL.e rfl (Eff.call (f := 89) (sh := fun h => nat_trim _ h _) (H0 := H) rfl Tryd.call89 rfl (hl := fun w hw => lift_nat_trim _ w _ hw)) ?_
  rintro _ h0 ⟨v, rfl, H⟩
  refine AtL.pures hT 2 _ _ _ _ rfl ?_
  refine AtL.nil ?_
  refine AtE.then_n (AtE.go ?_)
  refine AtC.condB H rfl (fun H => ?_) (fun H => ?_)
  ·
   refine AtC.seqR ?_
   refine AtL.pures hT 2 _ _ _ _ rfl ?_
   refine AtL.nil ?_
   refine AtE.then_n (AtE.go ?_)
   refine AtC.ret ?_
   refine AtE.then_r ?_
   exact AtE.retN (rs := [.tmp 6, .tmp 7]) rfl (ResAll.cons (ResAt.tmp rfl) (ResAll.cons (ResAt.tmp rfl) ResAll.nil)) rfl H
  ·
   refine AtC.skip ?_
   refine AtE.then_n (AtE.go ?_)
   refine AtC.seqR ?_
   refine AtL.pures hT 2 _ _ _ _ rfl ?_
   refine AtL.e rfl (Eff.call (f := 93) (sh := fun h => nat_divide _ _ h _) (H0 := H) rfl Tryd.call93 rfl (hl := fun w hw => lift_nat_divide _ _ w _ hw)) ?_
   rintro _ h0u1 ⟨v_1, rfl, H⟩
   refine AtL.pures hT 5 _ _ _ _ rfl ?_
   refine AtL.nil ?_
   refine AtE.then_n (AtE.go ?_)
   refine AtC.seqR ?_
   refine AtL.pures hT 2 _ _ _ _ rfl ?_
   refine AtL.e rfl (Eff.call (f := 86) (sh := fun h => nat_Bench_fit _ _ h _) (H0 := H) rfl Tryd.call86 rfl (hl := fun w hw => lift_nat_Bench_fit _ _ w _ hw)) ?_
   rintro _ h0u2 ⟨v_2, rfl, H⟩
   refine AtL.pures hT 2 _ _ _ _ rfl ?_
   refine AtL.e rfl (Eff.call (f := 86) (sh := fun h => nat_Bench_fit _ _ h _) (H0 := H) rfl Tryd.call86 rfl (hl := fun w hw => lift_nat_Bench_fit _ _ w _ hw)) ?_
   rintro _ h0u3 ⟨v_3, rfl, H⟩
   refine AtL.pures hT 2 _ _ _ _ rfl ?_
   refine AtL.nil ?_
   refine AtE.then_n (AtE.go ?_)
   refine AtC.seq ?_
   refine AtC.seqR ?_
   refine AtL.pures hT 1 _ _ _ _ rfl ?_
   obtain ⟨a, hc0, H⟩ := H
   refine AtL.q rfl (Quiet1.nilChk rfl rfl hc0) ?_
   refine AtL.pures hT 1 _ _ _ _ rfl ?_
   obtain ⟨v_4, hc1, H⟩ := H
   refine AtL.q rfl (Quiet1.load hT rfl rfl rfl hc1) ?_
   refine AtL.nil ?_
   refine AtE.then_n (AtE.go ?_)
   refine AtC.condB H rfl (fun H => ?_) (fun H => ?_)
   ·
    refine AtC.seqR ?_
    refine AtL.pures hT 2 _ _ _ _ rfl ?_
    refine AtL.nil ?_
    refine AtE.then_n (AtE.go ?_)
    refine AtC.ret ?_
    refine AtE.then_r ?_
    exact AtE.retN (rs := [.tmp 6, .tmp 7]) rfl (ResAll.cons (ResAt.tmp rfl) (ResAll.cons (ResAt.tmp rfl) ResAll.nil)) rfl H
   ·
    refine AtC.skip ?_
    refine AtE.then_n (AtE.go ?_)
    refine AtC.seqR ?_
    refine AtL.pures hT 4 _ _ _ _ rfl ?_
    refine AtL.nil ?_
    refine AtE.then_n (AtE.go ?_)
    refine AtC.ret ?_
    exact AtE.retN (rs := [.tmp 6, .tmp 7]) rfl (ResAll.cons (ResAt.tmp rfl) (ResAll.cons (ResAt.tmp rfl) ResAll.nil)) rfl H

theorem lift_ref01uText (x0 : Sl) (w : World) (S : ByteArray → Heap → Prop) (H : ref01uText x0 w.heap S) :
    Calls Tryd.prog 35 #[Sl.toV x0] w (Post w Value.string S) := by
  refine Calls.lift (args := [Sl.toV x0]) Tryd.func35 rfl Tryd.ntmps35 (Nat.le_of_ble_eq_true rfl) (fun h => ref01uText x0 h S) H (fun h H => ?_)
  refine AtC.pick (ts := [0]) rfl ?_
  unfold ref01uText at H
  refine AtC.seqR ?_
  refine AtL.pures hT 1 _ _ _ _ rfl ?_
  refine AtL.nil ?_
  refine AtE.then_n (AtE.go ?_)
  refine AtC.seqR ?_
  refine AtL.bs (hT := hT) (cs := []) H rfl rfl rfl rfl rfl rfl rfl rfl rfl (fun a h0 H => ?_)
  refine AtL.pures hT 1 _ _ _ _ rfl ?_
  replace H := H _ rfl
  refine AtL.nil ?_
  refine AtE.then_n (AtE.go ?_)
  refine AtC.seq ?_
  refine AtC.seqR ?_
  refine AtL.pures hT 4 _ _ _ _ rfl ?_
  replace H := H _ rfl
  refine AtL.nil ?_
  refine AtE.then_n (AtE.go ?_)
  refine AtC.block ?_
  refine AtC.loopM (fun (s0 : Sl × Int) => [(3, Sl.toV s0.1), (4, Value.int .i64 s0.2)]) [0] [3, 4, 0] H (by exact rfl) (by exact rfl) (fun Kp1 s0 h0u1 H Q1 HK1 => ?_)
  refine AtC.seq ?_
  refine AtC.seqR ?_
  refine AtL.pures hT 2 _ _ _ _ rfl ?_
  refine AtL.nil ?_
  refine AtE.then_n (AtE.go ?_)
  refine AtC.condB H rfl (fun H => ?_) (fun H => ?_)
  ·
   refine AtC.skip ?_
   refine AtE.then_n (AtE.go ?_)
   refine AtC.seq ?_
   refine AtC.block ?_
   refine AtC.region ?_
   refine AtL.pures hT 3 _ _ _ _ rfl ?_
   obtain ⟨a_1_, hc1, hd1, H⟩ := H
   refine AtL.q rfl (Quiet1.idxS (s := _) hT rfl rfl rfl rfl rfl hc1 hd1) ?_
   obtain ⟨v_1, hc2, H⟩ := H
   refine AtL.q rfl (Quiet1.load hT rfl rfl rfl hc2) ?_
   refine AtL.pures hT 2 _ _ _ _ rfl ?_
   refine AtL.bs (hT := hT) (cs := [_]) H rfl rfl rfl rfl rfl rfl rfl rfl rfl (fun a_2 h0u2 H => ?_)
   refine AtL.e rfl (Eff.appendS (s := _) (u := _) hT rfl rfl rfl rfl rfl rfl rfl rfl rfl rfl (by decide) H) ?_
   rintro _ h0u3 ⟨v_3, rfl, H⟩
   refine AtL.pures hT 1 _ _ _ _ rfl ?_
   refine AtL.nil ?_
   refine AtE.blk_n ?_
   refine AtE.then_n (AtE.go ?_)
   refine AtC.region ?_
   refine AtL.pures hT 3 _ _ _ _ rfl ?_
   replace H := H _ rfl
   refine AtL.nil ?_
   exact AtE.then_n ((HK1 _ _ H).pick (ts := [3, 4, 0]) rfl)
  ·
   refine AtC.exit ?_
   refine AtE.then_x ?_
   refine AtE.then_x ?_
   refine AtE.blk_hit ?_
   refine AtE.then_n (AtE.go ?_)
   refine AtC.seq ?_
   refine AtC.seqR ?_
   refine AtL.pures hT 3 _ _ _ _ rfl ?_
   refine AtL.nil ?_
   refine AtE.then_n (AtE.go ?_)
   refine AtC.condB H rfl (fun H => ?_) (fun H => ?_)
   ·
    refine AtC.seqR ?_
    refine AtL.pures hT 1 _ _ _ _ rfl ?_
    refine AtL.nil ?_
    refine AtE.then_n (AtE.go ?_)
    refine AtC.ret ?_
    refine AtE.then_r ?_
    exact AtE.retN (rs := [.tmp 2]) rfl (ResAll.cons (ResAt.tmp rfl) ResAll.nil) rfl H
   ·
    refine AtC.skip ?_
    refine AtE.then_n (AtE.go ?_)
    refine AtC.seqR ?_
    refine AtL.pures hT 1 _ _ _ _ rfl ?_
    obtain ⟨v_4_, hc3, H⟩ := H
    refine AtL.q rfl (Quiet1.strOf (s := _) hT rfl rfl rfl rfl rfl hc3) ?_
    refine AtL.pures hT 1 _ _ _ _ rfl ?_
    refine AtL.nil ?_
    refine AtE.then_n (AtE.go ?_)
    refine AtC.ret ?_
    exact AtE.retN (rs := [.tmp 2]) rfl (ResAll.cons (ResAt.tmp rfl) ResAll.nil) rfl H

theorem lift_law01uNatTold (limbs : Int) (x0 : Sl) (y : Sl) (w : World) (S : Bool → Heap → Prop) (H : law01uNatTold limbs x0 y w.heap S) :
    Calls Tryd.prog 4 #[Value.int .i64 limbs, Sl.toV x0, Sl.toV y] w (Post w Value.bool S) := by
  refine Calls.lift (args := [Value.int .i64 limbs, Sl.toV x0, Sl.toV y]) Tryd.func4 rfl Tryd.ntmps4 (Nat.le_of_ble_eq_true rfl) (fun h => law01uNatTold limbs x0 y h S) H (fun h H => ?_)
  refine AtC.pick (ts := [0, 1, 2]) rfl ?_
  unfold law01uNatTold at H
  refine AtC.seqR ?_
  refine AtL.pures hT 1 _ _ _ _ rfl ?_
  refine AtL.nil ?_
  refine AtE.then_n (AtE.go ?_)
  refine AtC.seq ?_
  refine AtC.seqR ?_
  refine AtL.e rfl (Eff.call (f := 13) (sh := fun h => law01uspeaks h _) (H0 := H) rfl Tryd.call13 rfl (hl := fun w hw => lift_law01uspeaks  w _ hw)) ?_
  rintro _ h0 ⟨v, rfl, H⟩
  refine AtL.pures hT 1 _ _ _ _ rfl ?_
  refine AtL.nil ?_
  refine AtE.then_n (AtE.go ?_)
  refine AtC.condB H rfl (fun H => ?_) (fun H => ?_)
  ·
   refine AtC.seqR ?_
   refine AtL.pures hT 1 _ _ _ _ rfl ?_
   refine AtL.nil ?_
   refine AtE.then_n (AtE.go ?_)
   refine AtC.ret ?_
   refine AtE.then_r ?_
   exact AtE.retN (rs := [.tmp 6]) rfl (ResAll.cons (ResAt.tmp rfl) ResAll.nil) rfl H
  ·
   refine AtC.skip ?_
   refine AtE.then_n (AtE.go ?_)
   refine AtC.seq ?_
   refine AtC.seqR ?_
   refine AtL.pures hT 2 _ _ _ _ rfl ?_
   refine AtL.bs (hT := hT) (cs := [_, _]) H rfl rfl rfl rfl rfl rfl rfl rfl rfl (fun a h0u1 H => ?_)
   refine AtL.e rfl (Eff.call (f := 14) (sh := fun h => law01ugreat _ h _) (H0 := H) rfl Tryd.call14 rfl (hl := fun w hw => lift_law01ugreat _ w _ hw)) ?_
   rintro _ h0u2 ⟨v_2, rfl, H⟩
   refine AtL.nil ?_
   refine AtE.then_n (AtE.go ?_)
   refine AtC.condB H rfl (fun H => ?_) (fun H => ?_)
   ·
    refine AtC.seqR ?_
    refine AtL.pures hT 1 _ _ _ _ rfl ?_
    refine AtL.nil ?_
    refine AtE.then_n (AtE.go ?_)
    refine AtC.ret ?_
    refine AtE.then_r ?_
    exact AtE.retN (rs := [.tmp 6]) rfl (ResAll.cons (ResAt.tmp rfl) ResAll.nil) rfl H
   ·
    refine AtC.skip ?_
    refine AtE.then_n (AtE.go ?_)
    refine AtC.seqR ?_
    refine AtL.pures hT 1 _ _ _ _ rfl ?_
    refine AtL.e rfl (Eff.call (f := 20) (sh := fun h => ref01uOf _ h _) (H0 := H) rfl Tryd.call20 rfl (hl := fun w hw => lift_ref01uOf _ w _ hw)) ?_
    rintro _ h0u3 ⟨v_3, rfl, H⟩
    refine AtL.pures hT 1 _ _ _ _ rfl ?_
    refine AtL.e rfl (Eff.call (f := 20) (sh := fun h => ref01uOf _ h _) (H0 := H) rfl Tryd.call20 rfl (hl := fun w hw => lift_ref01uOf _ w _ hw)) ?_
    rintro _ h0u4 ⟨v_4, rfl, H⟩
    refine AtL.pures hT 2 _ _ _ _ rfl ?_
    refine AtL.nil ?_
    refine AtE.then_n (AtE.go ?_)
    refine AtC.seqR ?_
    refine AtL.pures hT 3 _ _ _ _ rfl ?_
    replace H := H _ rfl
    refine AtL.nil ?_
    refine AtE.then_n (AtE.go ?_)
    refine AtC.seqR ?_
    refine AtL.pures hT 1 _ _ _ _ rfl ?_
    refine AtL.e rfl (Eff.call (f := 15) (sh := fun h => nat_New _ h _) (H0 := H) rfl Tryd.call15 rfl (hl := fun w hw => lift_nat_New _ w _ hw)) ?_
    rintro _ h0u5 ⟨v_5, rfl, H⟩
    refine AtL.pures hT 1 _ _ _ _ rfl ?_
    refine AtL.nil ?_
    refine AtE.then_n (AtE.go ?_)
    refine AtC.seq ?_
    refine AtC.joinSeq (fun (t0 : Bool) => [(49, Value.bool t0)]) [0, 1, 2, 7, 8, 9] H (by exact rfl) (fun t0 h0u6 H => ?_) (fun J1 H HK1 => ?_)
    ·
     refine AtC.condB H rfl (fun H => ?_) (fun H => ?_)
     ·
      refine AtC.seqR ?_
      refine AtL.pures hT 1 _ _ _ _ rfl ?_
      refine AtL.nil ?_
      refine AtE.then_n (AtE.go ?_)
      refine AtC.ret ?_
      refine AtE.then_r ?_
      exact AtE.retN (rs := [.tmp 6]) rfl (ResAll.cons (ResAt.tmp rfl) ResAll.nil) rfl H
     ·
      refine AtC.skip ?_
      refine AtE.then_n (AtE.go ?_)
      refine AtC.seqR ?_
      refine AtL.pures hT 1 _ _ _ _ rfl ?_
      refine AtL.e rfl (Eff.call (f := 15) (sh := fun h => nat_New _ h _) (H0 := H) rfl Tryd.call15 rfl (hl := fun w hw => lift_nat_New _ w _ hw)) ?_
      rintro _ h0u12 ⟨v_11, rfl, H⟩
      refine AtL.pures hT 1 _ _ _ _ rfl ?_
      refine AtL.nil ?_
      refine AtE.then_n (AtE.go ?_)
      refine AtC.seq ?_
      refine AtC.seqR ?_
      refine AtL.pures hT 5 _ _ _ _ rfl ?_
      refine AtL.e rfl (Eff.call (f := 19) (sh := fun h => nat_Bench_Sub _ _ _ h _) (H0 := H) rfl Tryd.call19 rfl (hl := fun w hw => lift_nat_Bench_Sub _ _ _ w _ hw)) ?_
      rintro _ h0u13 ⟨v_12, rfl, H⟩
      refine AtL.pures hT 2 _ _ _ _ rfl ?_
      refine AtL.e rfl (Eff.call (f := 28) (sh := fun h => ref01uSub _ _ h _) (H0 := H) rfl Tryd.call28 rfl (hl := fun w hw => lift_ref01uSub _ _ w _ hw)) ?_
      rintro _ h0u14 ⟨v_13, rfl, H⟩
      refine AtL.e rfl (Eff.call (f := 26) (sh := fun h => law01utold _ _ _ _ h _) (H0 := H) rfl Tryd.call26 rfl (hl := fun w hw => lift_law01utold _ _ _ _ w _ hw)) ?_
      rintro _ h0u15 ⟨v_14, rfl, H⟩
      refine AtL.pures hT 1 _ _ _ _ rfl ?_
      refine AtL.nil ?_
      refine AtE.then_n (AtE.go ?_)
      refine AtC.condB H rfl (fun H => ?_) (fun H => ?_)
      ·
       refine AtC.seqR ?_
       refine AtL.pures hT 1 _ _ _ _ rfl ?_
       refine AtL.nil ?_
       refine AtE.then_n (AtE.go ?_)
       refine AtC.ret ?_
       refine AtE.then_r ?_
       exact AtE.retN (rs := [.tmp 6]) rfl (ResAll.cons (ResAt.tmp rfl) ResAll.nil) rfl H
      ·
       refine AtC.skip ?_
       refine AtE.then_n (AtE.go ?_)
       refine AtC.seqR ?_
       refine AtL.pures hT 1 _ _ _ _ rfl ?_
       refine AtL.e rfl (Eff.call (f := 15) (sh := fun h => nat_New _ h _) (H0 := H) rfl Tryd.call15 rfl (hl := fun w hw => lift_nat_New _ w _ hw)) ?_
       rintro _ h0u16 ⟨v_15, rfl, H⟩
       refine AtL.pures hT 1 _ _ _ _ rfl ?_
       refine AtL.nil ?_
       refine AtE.then_n (AtE.go ?_)
       refine AtC.seq ?_
       refine AtC.seqR ?_
       refine AtL.pures hT 5 _ _ _ _ rfl ?_
       refine AtL.e rfl (Eff.call (f := 18) (sh := fun h => nat_Bench_Mul _ _ _ h _) (H0 := H) rfl Tryd.call18 rfl (hl := fun w hw => lift_nat_Bench_Mul _ _ _ w _ hw)) ?_
       rintro _ h0u17 ⟨v_16, rfl, H⟩
       refine AtL.pures hT 2 _ _ _ _ rfl ?_
       refine AtL.e rfl (Eff.call (f := 29) (sh := fun h => ref01uMul _ _ h _) (H0 := H) rfl Tryd.call29 rfl (hl := fun w hw => lift_ref01uMul _ _ w _ hw)) ?_
       rintro _ h0u18 ⟨v_17, rfl, H⟩
       refine AtL.e rfl (Eff.call (f := 26) (sh := fun h => law01utold _ _ _ _ h _) (H0 := H) rfl Tryd.call26 rfl (hl := fun w hw => lift_law01utold _ _ _ _ w _ hw)) ?_
       rintro _ h0u19 ⟨v_18, rfl, H⟩
       refine AtL.pures hT 1 _ _ _ _ rfl ?_
       refine AtL.nil ?_
       refine AtE.then_n (AtE.go ?_)
       refine AtC.condB H rfl (fun H => ?_) (fun H => ?_)
       ·
        refine AtC.seqR ?_
        refine AtL.pures hT 1 _ _ _ _ rfl ?_
        refine AtL.nil ?_
        refine AtE.then_n (AtE.go ?_)
        refine AtC.ret ?_
        refine AtE.then_r ?_
        exact AtE.retN (rs := [.tmp 6]) rfl (ResAll.cons (ResAt.tmp rfl) ResAll.nil) rfl H
       ·
        refine AtC.skip ?_
        refine AtE.then_n (AtE.go ?_)
        refine AtC.seqR ?_
        refine AtL.pures hT 1 _ _ _ _ rfl ?_
        refine AtL.e rfl (Eff.call (f := 15) (sh := fun h => nat_New _ h _) (H0 := H) rfl Tryd.call15 rfl (hl := fun w hw => lift_nat_New _ w _ hw)) ?_
        rintro _ h0u20 ⟨v_19, rfl, H⟩
        refine AtL.pures hT 1 _ _ _ _ rfl ?_
        refine AtL.nil ?_
        refine AtE.then_n (AtE.go ?_)
        refine AtC.seq ?_
        refine AtC.seqR ?_
        refine AtL.pures hT 5 _ _ _ _ rfl ?_
        refine AtL.e rfl (Eff.call (f := 21) (sh := fun h => nat_Bench_Gcd _ _ _ h _) (H0 := H) rfl Tryd.call21 rfl (hl := fun w hw => lift_nat_Bench_Gcd _ _ _ w _ hw)) ?_
        rintro _ h0u21 ⟨v_20, rfl, H⟩
        refine AtL.pures hT 2 _ _ _ _ rfl ?_
        refine AtL.e rfl (Eff.call (f := 30) (sh := fun h => ref01uGcd _ _ h _) (H0 := H) rfl Tryd.call30 rfl (hl := fun w hw => lift_ref01uGcd _ _ w _ hw)) ?_
        rintro _ h0u22 ⟨v_21, rfl, H⟩
        refine AtL.e rfl (Eff.call (f := 26) (sh := fun h => law01utold _ _ _ _ h _) (H0 := H) rfl Tryd.call26 rfl (hl := fun w hw => lift_law01utold _ _ _ _ w _ hw)) ?_
        rintro _ h0u23 ⟨v_22, rfl, H⟩
        refine AtL.pures hT 1 _ _ _ _ rfl ?_
        refine AtL.nil ?_
        refine AtE.then_n (AtE.go ?_)
        refine AtC.condB H rfl (fun H => ?_) (fun H => ?_)
        ·
         refine AtC.seqR ?_
         refine AtL.pures hT 1 _ _ _ _ rfl ?_
         refine AtL.nil ?_
         refine AtE.then_n (AtE.go ?_)
         refine AtC.ret ?_
         refine AtE.then_r ?_
         exact AtE.retN (rs := [.tmp 6]) rfl (ResAll.cons (ResAt.tmp rfl) ResAll.nil) rfl H
        ·
         refine AtC.skip ?_
         refine AtE.then_n (AtE.go ?_)
         refine AtC.seqR ?_
         refine AtL.pures hT 1 _ _ _ _ rfl ?_
         refine AtL.e rfl (Eff.call (f := 15) (sh := fun h => nat_New _ h _) (H0 := H) rfl Tryd.call15 rfl (hl := fun w hw => lift_nat_New _ w _ hw)) ?_
         rintro _ h0u24 ⟨v_23, rfl, H⟩
         refine AtL.pures hT 1 _ _ _ _ rfl ?_
         refine AtL.nil ?_
         refine AtE.then_n (AtE.go ?_)
         refine AtC.seqR ?_
         refine AtL.pures hT 3 _ _ _ _ rfl ?_
         refine AtL.e rfl (Eff.call (f := 22) (sh := fun h => nat_Bench_Div _ _ _ h _) (H0 := H) rfl Tryd.call22 rfl (hl := fun w hw => lift_nat_Bench_Div _ _ _ w _ hw)) ?_
         rintro _ h0u25 ⟨v_24, rfl, H⟩
         refine AtL.pures hT 5 _ _ _ _ rfl ?_
         refine AtL.nil ?_
         refine AtE.then_n (AtE.go ?_)
         refine AtC.seqR ?_
         refine AtL.pures hT 2 _ _ _ _ rfl ?_
         refine AtL.e rfl (Eff.call (f := 31) (sh := fun h => ref01uDiv _ _ h _) (H0 := H) rfl Tryd.call31 rfl (hl := fun w hw => lift_ref01uDiv _ _ w _ hw)) ?_
         rintro _ h0u26 ⟨v_25, rfl, H⟩
         refine AtL.pures hT 5 _ _ _ _ rfl ?_
         refine AtL.nil ?_
         refine AtE.then_n (AtE.go ?_)
         refine AtC.seq ?_
         refine AtC.joinSeq (fun (t0u1 : Bool) => [(115, Value.bool t0u1)]) [1, 2, 7, 8, 9, 10, 11, 12, 13, 14] H (by exact rfl) (fun t0u1 h0u27 H => ?_) (fun J2 H HK2 => ?_)
         ·
          refine AtC.condB H rfl (fun H => ?_) (fun H => ?_)
          ·
           refine AtC.joinSeq (fun (t0u2 : Bool) => [(6, Value.bool t0u2)]) [] H (by exact rfl) (fun t0u2 h0u30 H => ?_) (fun J3 H HK3 => ?_)
           ·
            refine AtC.ret ?_
            refine AtE.then_r ?_
            exact AtE.retN (rs := [.tmp 6]) rfl (ResAll.cons (ResAt.tmp rfl) ResAll.nil) rfl H
           ·
            refine AtC.region ?_
            refine AtL.pures hT 1 _ _ _ _ rfl ?_
            refine AtL.e rfl (Eff.call (f := 24) (sh := fun h => nat_Bench_Over _ h _) (H0 := H) rfl Tryd.call24 rfl (hl := fun w hw => lift_nat_Bench_Over _ w _ hw)) ?_
            rintro _ h0u31 ⟨v_28, rfl, H⟩
            refine AtL.pures hT 1 _ _ _ _ rfl ?_
            refine AtL.splitB (t := 118) H rfl (fun H => ?_) (fun H => ?_)
            ·
             refine AtL.yes rfl rfl rfl ?_
             refine AtL.pures hT 1 _ _ _ _ rfl ?_
             refine AtL.yes rfl rfl rfl ?_
             refine AtL.pures hT 1 _ _ _ _ rfl ?_
             refine AtL.yes rfl rfl rfl ?_
             refine AtL.pures hT 1 _ _ _ _ rfl ?_
             refine AtL.pures hT 2 _ _ _ _ rfl ?_
             refine AtL.splitB (t := 123) H rfl (fun H => ?_) (fun H => ?_)
             ·
              refine AtL.yes rfl rfl rfl ?_
              refine AtL.pures hT 1 _ _ _ _ rfl ?_
              refine AtL.yes rfl rfl rfl ?_
              refine AtL.pures hT 1 _ _ _ _ rfl ?_
              refine AtL.yes rfl rfl rfl ?_
              refine AtL.pures hT 1 _ _ _ _ rfl ?_
              refine AtL.pures hT 2 _ _ _ _ rfl ?_
              refine AtL.nil ?_
              exact AtE.then_n ((HK3 _ _ H).pick (ts := [6]) rfl)
             ·
              refine AtL.noF rfl rfl rfl (by decide) rfl ?_
              refine AtL.noF rfl rfl rfl (by decide) rfl ?_
              refine AtL.noF rfl rfl rfl (by decide) rfl ?_
              refine AtL.pures hT 2 _ _ _ _ rfl ?_
              refine AtL.nil ?_
              exact AtE.then_n ((HK3 _ _ H).pick (ts := [6]) rfl)
            ·
             refine AtL.noF rfl rfl rfl (by decide) rfl ?_
             refine AtL.noF rfl rfl rfl (by decide) rfl ?_
             refine AtL.noF rfl rfl rfl (by decide) rfl ?_
             refine AtL.pures hT 2 _ _ _ _ rfl ?_
             refine AtL.noF rfl rfl rfl (by decide) rfl ?_
             refine AtL.noF rfl rfl rfl (by decide) rfl ?_
             refine AtL.noF rfl rfl rfl (by decide) rfl ?_
             refine AtL.pures hT 2 _ _ _ _ rfl ?_
             refine AtL.nil ?_
             exact AtE.then_n ((HK3 _ _ H).pick (ts := [6]) rfl)
          ·
           refine AtC.skip ?_
           refine AtE.then_n (AtE.go ?_)
           refine AtC.joinSeq (fun (t0u3 : Bool) => [(6, Value.bool t0u3)]) [] H (by exact rfl) (fun t0u3 h0u32 H => ?_) (fun J4 H HK4 => ?_)
           ·
            refine AtC.ret ?_
            exact AtE.retN (rs := [.tmp 6]) rfl (ResAll.cons (ResAt.tmp rfl) ResAll.nil) rfl H
           ·
            refine AtC.region ?_
            refine AtL.pures hT 4 _ _ _ _ rfl ?_
            refine AtL.e rfl (Eff.call (f := 26) (sh := fun h => law01utold _ _ _ _ h _) (H0 := H) rfl Tryd.call26 rfl (hl := fun w hw => lift_law01utold _ _ _ _ w _ hw)) ?_
            rintro _ h0u33 ⟨v_29, rfl, H⟩
            refine AtL.pures hT 1 _ _ _ _ rfl ?_
            refine AtL.splitB (t := 133) H rfl (fun H => ?_) (fun H => ?_)
            ·
             refine AtL.yes rfl rfl rfl ?_
             refine AtL.pures hT 1 _ _ _ _ rfl ?_
             refine AtL.yes rfl rfl rfl ?_
             refine AtL.pures hT 1 _ _ _ _ rfl ?_
             refine AtL.yes rfl rfl rfl ?_
             refine AtL.pures hT 1 _ _ _ _ rfl ?_
             refine AtL.yes rfl rfl rfl ?_
             refine AtL.pures hT 1 _ _ _ _ rfl ?_
             refine AtL.yes rfl rfl rfl ?_
             refine AtL.e rfl (Eff.call (f := 26) (sh := fun h => law01utold _ _ _ _ h _) (H0 := H) rfl Tryd.call26 rfl (hl := fun w hw => lift_law01utold _ _ _ _ w _ hw)) ?_
             rintro _ h0u34 ⟨v_30, rfl, H⟩
             refine AtL.pures hT 2 _ _ _ _ rfl ?_
             refine AtL.splitB (t := 140) H rfl (fun H => ?_) (fun H => ?_)
             ·
              refine AtL.yes rfl rfl rfl ?_
              refine AtL.pures hT 1 _ _ _ _ rfl ?_
              refine AtL.yes rfl rfl rfl ?_
              refine AtL.pures hT 1 _ _ _ _ rfl ?_
              refine AtL.yes rfl rfl rfl ?_
              refine AtL.e rfl (Eff.call (f := 23) (sh := fun h => nat_Cmp _ _ h _) (H0 := H) rfl Tryd.call23 rfl (hl := fun w hw => lift_nat_Cmp _ _ w _ hw)) ?_
              rintro _ h0u35 ⟨v_31, rfl, H⟩
              refine AtL.yes rfl rfl rfl ?_
              refine AtL.pures hT 1 _ _ _ _ rfl ?_
              refine AtL.yes rfl rfl rfl ?_
              refine AtL.pures hT 1 _ _ _ _ rfl ?_
              refine AtL.yes rfl rfl rfl ?_
              refine AtL.e rfl (Eff.call (f := 33) (sh := fun h => ref01uCmp _ _ h _) (H0 := H) rfl Tryd.call33 rfl (hl := fun w hw => lift_ref01uCmp _ _ w _ hw)) ?_
              rintro _ h0u36 ⟨v_32, rfl, H⟩
              refine AtL.yes rfl rfl rfl ?_
              refine AtL.pures hT 1 _ _ _ _ rfl ?_
              refine AtL.pures hT 2 _ _ _ _ rfl ?_
              refine AtL.splitB (t := 149) H rfl (fun H => ?_) (fun H => ?_)
              ·
               refine AtL.yes rfl rfl rfl ?_
               refine AtL.pures hT 1 _ _ _ _ rfl ?_
               refine AtL.yes rfl rfl rfl ?_
               refine AtL.e rfl (Eff.call (f := 34) (sh := fun h => nat_Text _ h _) (H0 := H) rfl Tryd.call34 rfl (hl := fun w hw => lift_nat_Text _ w _ hw)) ?_
               rintro _ h0u37 ⟨v_33, rfl, H⟩
               refine AtL.yes rfl rfl rfl ?_
               refine AtL.pures hT 1 _ _ _ _ rfl ?_
               refine AtL.yes rfl rfl rfl ?_
               refine AtL.e rfl (Eff.call (f := 35) (sh := fun h => ref01uText _ h _) (H0 := H) rfl Tryd.call35 rfl (hl := fun w hw => lift_ref01uText _ w _ hw)) ?_
               rintro _ h0u38 ⟨v_34, rfl, H⟩
               refine AtL.yes rfl rfl rfl ?_
               refine AtL.pures hT 1 _ _ _ _ rfl ?_
               refine AtL.pures hT 2 _ _ _ _ rfl ?_
               refine AtL.nil ?_
               exact AtE.then_n ((HK4 _ _ H).pick (ts := [6]) rfl)
              ·
               refine AtL.noF rfl rfl rfl (by decide) rfl ?_
               refine AtL.noF rfl rfl rfl (by decide) rfl ?_
               refine AtL.noF rfl rfl rfl (by decide) rfl ?_
               refine AtL.noF rfl rfl rfl (by decide) rfl ?_
               refine AtL.noF rfl rfl rfl (by decide) rfl ?_
               refine AtL.pures hT 2 _ _ _ _ rfl ?_
               refine AtL.nil ?_
               exact AtE.then_n ((HK4 _ _ H).pick (ts := [6]) rfl)
             ·
              refine AtL.noF rfl rfl rfl (by decide) rfl ?_
              refine AtL.noF rfl rfl rfl (by decide) rfl ?_
              refine AtL.noF rfl rfl rfl (by decide) rfl ?_
              refine AtL.noF rfl rfl rfl (by decide) rfl ?_
              refine AtL.noF rfl rfl rfl (by decide) rfl ?_
              refine AtL.noF rfl rfl rfl (by decide) rfl ?_
              refine AtL.noF rfl rfl rfl (by decide) rfl ?_
              refine AtL.pures hT 2 _ _ _ _ rfl ?_
              refine AtL.noF rfl rfl rfl (by decide) rfl ?_
              refine AtL.noF rfl rfl rfl (by decide) rfl ?_
              refine AtL.noF rfl rfl rfl (by decide) rfl ?_
              refine AtL.noF rfl rfl rfl (by decide) rfl ?_
              refine AtL.noF rfl rfl rfl (by decide) rfl ?_
              refine AtL.pures hT 2 _ _ _ _ rfl ?_
              refine AtL.nil ?_
              exact AtE.then_n ((HK4 _ _ H).pick (ts := [6]) rfl)
            ·
             refine AtL.noF rfl rfl rfl (by decide) rfl ?_
             refine AtL.noF rfl rfl rfl (by decide) rfl ?_
             refine AtL.noF rfl rfl rfl (by decide) rfl ?_
             refine AtL.noF rfl rfl rfl (by decide) rfl ?_
             refine AtL.noF rfl rfl rfl (by decide) rfl ?_
             refine AtL.pures hT 2 _ _ _ _ rfl ?_
             refine AtL.noF rfl rfl rfl (by decide) rfl ?_
             refine AtL.noF rfl rfl rfl (by decide) rfl ?_
             refine AtL.noF rfl rfl rfl (by decide) rfl ?_
             refine AtL.noF rfl rfl rfl (by decide) rfl ?_
             refine AtL.noF rfl rfl rfl (by decide) rfl ?_
             refine AtL.noF rfl rfl rfl (by decide) rfl ?_
             refine AtL.noF rfl rfl rfl (by decide) rfl ?_
             refine AtL.pures hT 2 _ _ _ _ rfl ?_
             refine AtL.noF rfl rfl rfl (by decide) rfl ?_
             refine AtL.noF rfl rfl rfl (by decide) rfl ?_
             refine AtL.noF rfl rfl rfl (by decide) rfl ?_
             refine AtL.noF rfl rfl rfl (by decide) rfl ?_
             refine AtL.noF rfl rfl rfl (by decide) rfl ?_
             refine AtL.pures hT 2 _ _ _ _ rfl ?_
             refine AtL.nil ?_
             exact AtE.then_n ((HK4 _ _ H).pick (ts := [6]) rfl)
         ·
          refine AtC.region ?_
          refine AtL.pures hT 1 _ _ _ _ rfl ?_
          refine AtL.e rfl (Eff.call (f := 32) (sh := fun h => ref01uLimbs _ h _) (H0 := H) rfl Tryd.call32 rfl (hl := fun w hw => lift_ref01uLimbs _ w _ hw)) ?_
          rintro _ h0u28 ⟨v_26, rfl, H⟩
          refine AtL.pures hT 4 _ _ _ _ rfl ?_
          refine AtL.splitB (t := 109) H rfl (fun H => ?_) (fun H => ?_)
          ·
           refine AtL.noF rfl rfl rfl (by decide) rfl ?_
           refine AtL.noF rfl rfl rfl (by decide) rfl ?_
           refine AtL.noF rfl rfl rfl (by decide) rfl ?_
           refine AtL.noF rfl rfl rfl (by decide) rfl ?_
           refine AtL.noF rfl rfl rfl (by decide) rfl ?_
           refine AtL.pures hT 1 _ _ _ _ rfl ?_
           refine AtL.nil ?_
           exact AtE.then_n ((HK2 _ _ H).pick (ts := [115, 1, 2, 7, 8, 9, 10, 11, 12, 13, 14]) rfl)
          ·
           refine AtL.yes rfl rfl rfl ?_
           refine AtL.pures hT 1 _ _ _ _ rfl ?_
           refine AtL.yes rfl rfl rfl ?_
           refine AtL.e rfl (Eff.call (f := 32) (sh := fun h => ref01uLimbs _ h _) (H0 := H) rfl Tryd.call32 rfl (hl := fun w hw => lift_ref01uLimbs _ w _ hw)) ?_
           rintro _ h0u29 ⟨v_27, rfl, H⟩
           refine AtL.yes rfl rfl rfl ?_
           refine AtL.pures hT 1 _ _ _ _ rfl ?_
           refine AtL.yes rfl rfl rfl ?_
           refine AtL.pures hT 1 _ _ _ _ rfl ?_
           refine AtL.yes rfl rfl rfl ?_
           refine AtL.pures hT 1 _ _ _ _ rfl ?_
           refine AtL.pures hT 1 _ _ _ _ rfl ?_
           refine AtL.nil ?_
           exact AtE.then_n ((HK2 _ _ H).pick (ts := [115, 1, 2, 7, 8, 9, 10, 11, 12, 13, 14]) rfl)
    ·
     refine AtC.region ?_
     refine AtL.pures hT 1 _ _ _ _ rfl ?_
     refine AtL.e rfl (Eff.call (f := 25) (sh := fun h => nat_Bench_Limbs _ h _) (H0 := H) rfl Tryd.call25 rfl (hl := fun w hw => lift_nat_Bench_Limbs _ w _ hw)) ?_
     rintro _ h0u7 ⟨v_6, rfl, H⟩
     refine AtL.pures hT 3 _ _ _ _ rfl ?_
     refine AtL.splitB (t := 33) H rfl (fun H => ?_) (fun H => ?_)
     ·
      refine AtL.noF rfl rfl rfl (by decide) rfl ?_
      refine AtL.noF rfl rfl rfl (by decide) rfl ?_
      refine AtL.pures hT 2 _ _ _ _ rfl ?_
      refine AtL.noF rfl rfl rfl (by decide) rfl ?_
      refine AtL.noF rfl rfl rfl (by decide) rfl ?_
      refine AtL.noF rfl rfl rfl (by decide) rfl ?_
      refine AtL.noF rfl rfl rfl (by decide) rfl ?_
      refine AtL.noF rfl rfl rfl (by decide) rfl ?_
      refine AtL.noF rfl rfl rfl (by decide) rfl ?_
      refine AtL.noF rfl rfl rfl (by decide) rfl ?_
      refine AtL.noF rfl rfl rfl (by decide) rfl ?_
      refine AtL.noF rfl rfl rfl (by decide) rfl ?_
      refine AtL.noF rfl rfl rfl (by decide) rfl ?_
      refine AtL.noF rfl rfl rfl (by decide) rfl ?_
      refine AtL.pures hT 1 _ _ _ _ rfl ?_
      refine AtL.nil ?_
      exact AtE.then_n ((HK1 _ _ H).pick (ts := [49, 0, 1, 2, 7, 8, 9]) rfl)
     ·
      refine AtL.yes rfl rfl rfl ?_
      refine AtL.pures hT 1 _ _ _ _ rfl ?_
      refine AtL.yes rfl rfl rfl ?_
      refine AtL.e rfl (Eff.call (f := 24) (sh := fun h => nat_Bench_Over _ h _) (H0 := H) rfl Tryd.call24 rfl (hl := fun w hw => lift_nat_Bench_Over _ w _ hw)) ?_
      rintro _ h0u8 ⟨v_7, rfl, H⟩
      refine AtL.pures hT 2 _ _ _ _ rfl ?_
      refine AtL.splitB (t := 37) H rfl (fun H => ?_) (fun H => ?_)
      ·
       refine AtL.noF rfl rfl rfl (by decide) rfl ?_
       refine AtL.noF rfl rfl rfl (by decide) rfl ?_
       refine AtL.noF rfl rfl rfl (by decide) rfl ?_
       refine AtL.noF rfl rfl rfl (by decide) rfl ?_
       refine AtL.noF rfl rfl rfl (by decide) rfl ?_
       refine AtL.noF rfl rfl rfl (by decide) rfl ?_
       refine AtL.noF rfl rfl rfl (by decide) rfl ?_
       refine AtL.noF rfl rfl rfl (by decide) rfl ?_
       refine AtL.noF rfl rfl rfl (by decide) rfl ?_
       refine AtL.noF rfl rfl rfl (by decide) rfl ?_
       refine AtL.noF rfl rfl rfl (by decide) rfl ?_
       refine AtL.pures hT 1 _ _ _ _ rfl ?_
       refine AtL.nil ?_
       exact AtE.then_n ((HK1 _ _ H).pick (ts := [49, 0, 1, 2, 7, 8, 9]) rfl)
      ·
       refine AtL.yes rfl rfl rfl ?_
       refine AtL.pures hT 1 _ _ _ _ rfl ?_
       refine AtL.yes rfl rfl rfl ?_
       refine AtL.pures hT 1 _ _ _ _ rfl ?_
       refine AtL.yes rfl rfl rfl ?_
       refine AtL.pures hT 1 _ _ _ _ rfl ?_
       refine AtL.yes rfl rfl rfl ?_
       refine AtL.pures hT 1 _ _ _ _ rfl ?_
       refine AtL.yes rfl rfl rfl ?_
       refine AtL.pures hT 1 _ _ _ _ rfl ?_
       refine AtL.yes rfl rfl rfl ?_
       refine AtL.e rfl (Eff.call (f := 17) (sh := fun h => nat_Bench_Add _ _ _ h _) (H0 := H) rfl Tryd.call17 rfl (hl := fun w hw => lift_nat_Bench_Add _ _ _ w _ hw)) ?_
       rintro _ h0u9 ⟨v_8, rfl, H⟩
       refine AtL.yes rfl rfl rfl ?_
       refine AtL.pures hT 1 _ _ _ _ rfl ?_
       refine AtL.yes rfl rfl rfl ?_
       refine AtL.pures hT 1 _ _ _ _ rfl ?_
       refine AtL.yes rfl rfl rfl ?_
       refine AtL.e rfl (Eff.call (f := 27) (sh := fun h => ref01uAdd _ _ h _) (H0 := H) rfl Tryd.call27 rfl (hl := fun w hw => lift_ref01uAdd _ _ w _ hw)) ?_
       rintro _ h0u10 ⟨v_9, rfl, H⟩
       refine AtL.yes rfl rfl rfl ?_
       refine AtL.e rfl (Eff.call (f := 26) (sh := fun h => law01utold _ _ _ _ h _) (H0 := H) rfl Tryd.call26 rfl (hl := fun w hw => lift_law01utold _ _ _ _ w _ hw)) ?_
       rintro _ h0u11 ⟨v_10, rfl, H⟩
       refine AtL.yes rfl rfl rfl ?_
       refine AtL.pures hT 1 _ _ _ _ rfl ?_
       refine AtL.pures hT 1 _ _ _ _ rfl ?_
       refine AtL.nil ?_
       exact AtE.then_n ((HK1 _ _ H).pick (ts := [49, 0, 1, 2, 7, 8, 9]) rfl)

theorem lift_nat_Bench_Parse (b : (Option Addr)) (s0 : ByteArray) (w : World) (S : (Sl × Bool) → Heap → Prop) (H : nat_Bench_Parse b s0 w.heap S) :
    Calls Tryd.prog 36 #[Value.pointer b, Value.string s0] w (Post w (fun r => Value.tuple #[Sl.toV r.1, Value.bool r.2]) S) := by
  refine Calls.lift (args := [Value.pointer b, Value.string s0]) Tryd.func36 rfl Tryd.ntmps36 (Nat.le_of_ble_eq_true rfl) (fun h => nat_Bench_Parse b s0 h S) H (fun h H => ?_)
  refine AtC.pick (ts := [0, 1]) rfl ?_
  unfold nat_Bench_Parse at H
  refine AtC.seqR ?_
  refine AtL.pures hT 2 _ _ _ _ rfl ?_
  refine AtL.nil ?_
  refine AtE.then_n (AtE.go ?_)
  refine AtC.seq ?_
  refine AtC.joinSeq (fun (t0 : Bool) => [(16, Value.bool t0)]) [0, 1] H (by exact rfl) (fun t0 h0 H => ?_) (fun J1 H HK1 => ?_)
  ·
   refine AtC.condB H rfl (fun H => ?_) (fun H => ?_)
   ·
    refine AtC.seqR ?_
    refine AtL.pures hT 2 _ _ _ _ rfl ?_
    refine AtL.nil ?_
    refine AtE.then_n (AtE.go ?_)
    refine AtC.ret ?_
    refine AtE.then_r ?_
    exact AtE.retN (rs := [.tmp 4, .tmp 5]) rfl (ResAll.cons (ResAt.tmp rfl) (ResAll.cons (ResAt.tmp rfl) ResAll.nil)) rfl H
   ·
    refine AtC.skip ?_
    refine AtE.then_n (AtE.go ?_)
    refine AtC.seqR ?_
    refine AtL.pures hT 1 _ _ _ _ rfl ?_
    refine AtL.nil ?_
    refine AtE.then_n (AtE.go ?_)
    refine AtC.seq ?_
    refine AtC.seqR ?_
    refine AtL.pures hT 3 _ _ _ _ rfl ?_
    refine AtL.nil ?_
    refine AtE.then_n (AtE.go ?_)
    refine AtC.block ?_
    refine AtC.loopM (fun (s0u1 : Int) => [(19, Value.int .i64 s0u1)]) [0, 1, 6, 18] [19, 0, 1, 6, 18] H (by exact rfl) (by exact rfl) (fun Kp2 s0u1 h0u1 H Q2 HK2 => ?_)
    refine AtC.seqR ?_
    refine AtL.pures hT 1 _ _ _ _ rfl ?_
    refine AtL.nil ?_
    refine AtE.then_n (AtE.go ?_)
    refine AtC.seq ?_
    refine AtC.condB H rfl (fun H => ?_) (fun H => ?_)
    ·
     refine AtC.skip ?_
     refine AtE.then_n (AtE.go ?_)
     refine AtC.seq ?_
     refine AtC.block ?_
     refine AtC.seqR ?_
     refine AtL.pures hT 2 _ _ _ _ rfl ?_
     refine AtL.nil ?_
     refine AtE.then_n (AtE.go ?_)
     refine AtC.joinSeq (fun (t0u1 : Bool) => [(31, Value.bool t0u1)]) [0, 1, 6, 18, 19] H (by exact rfl) (fun t0u1 h0u2 H => ?_) (fun J3 H HK3 => ?_)
     ·
      refine AtC.condB H rfl (fun H => ?_) (fun H => ?_)
      ·
       refine AtC.seqR ?_
       refine AtL.pures hT 2 _ _ _ _ rfl ?_
       refine AtL.nil ?_
       refine AtE.then_n (AtE.go ?_)
       refine AtC.ret ?_
       refine AtE.blk_r ?_
       refine AtE.then_r ?_
       refine AtE.then_r ?_
       refine AtE.blk_r ?_
       refine AtE.then_r ?_
       exact AtE.retN (rs := [.tmp 4, .tmp 5]) rfl (ResAll.cons (ResAt.tmp rfl) (ResAll.cons (ResAt.tmp rfl) ResAll.nil)) rfl H
      ·
       refine AtC.skip ?_
       refine AtE.blk_n ?_
       refine AtE.then_n (AtE.go ?_)
       refine AtC.region ?_
       refine AtL.pures hT 2 _ _ _ _ rfl ?_
       refine AtL.nil ?_
       exact AtE.then_n ((HK2 _ _ H).pick (ts := [19, 0, 1, 6, 18]) rfl)
     ·
      refine AtC.region ?_
      refine AtL.pures hT 2 _ _ _ _ rfl ?_
      obtain ⟨hd3, v, hc3, H⟩ := H
      refine AtL.q rfl (Quiet1.idxStr hT rfl rfl rfl rfl hd3 hc3) ?_
      refine AtL.pures hT 2 _ _ _ _ rfl ?_
      refine AtL.splitB (t := 26) H rfl (fun H => ?_) (fun H => ?_)
      ·
       refine AtL.noF rfl rfl rfl (by decide) rfl ?_
       refine AtL.noF rfl rfl rfl (by decide) rfl ?_
       refine AtL.noF rfl rfl rfl (by decide) rfl ?_
       refine AtL.noF rfl rfl rfl (by decide) rfl ?_
       refine AtL.pures hT 1 _ _ _ _ rfl ?_
       refine AtL.nil ?_
       exact AtE.then_n ((HK3 _ _ H).pick (ts := [31, 0, 1, 6, 18, 19]) rfl)
      ·
       refine AtL.yes rfl rfl rfl ?_
       refine AtL.pures hT 1 _ _ _ _ rfl ?_
       refine AtL.yes rfl rfl rfl ?_
       refine AtL.pures hT 1 _ _ _ _ rfl ?_
       refine AtL.yes rfl rfl rfl ?_
       obtain ⟨hd4, v_1, hc4, H⟩ := H
       refine AtL.q rfl (Quiet1.idxStr hT rfl rfl rfl rfl hd4 hc4) ?_
       refine AtL.yes rfl rfl rfl ?_
       refine AtL.pures hT 1 _ _ _ _ rfl ?_
       refine AtL.pures hT 1 _ _ _ _ rfl ?_
       refine AtL.nil ?_
       exact AtE.then_n ((HK3 _ _ H).pick (ts := [31, 0, 1, 6, 18, 19]) rfl)
    ·
     refine AtC.exit ?_
     refine AtE.then_x ?_
     refine AtE.then_x ?_
     refine AtE.blk_hit ?_
     refine AtE.then_n (AtE.go ?_)
     refine AtC.seq ?_
     refine AtC.seqR ?_
     refine AtL.pures hT 3 _ _ _ _ rfl ?_
     refine AtL.nil ?_
     refine AtE.then_n (AtE.go ?_)
     refine AtC.block ?_
     refine AtC.loopM (fun (s0u2 : Sl × Int) => [(6, Sl.toV s0u2.1), (35, Value.int .i64 s0u2.2)]) [0, 1, 34] [6, 35, 0, 1, 34] H (by exact rfl) (by exact rfl) (fun Kp6 s0u2 h0u3 H Q6 HK6 => ?_)
     refine AtC.seqR ?_
     refine AtL.pures hT 1 _ _ _ _ rfl ?_
     refine AtL.nil ?_
     refine AtE.then_n (AtE.go ?_)
     refine AtC.seq ?_
     refine AtC.condB H rfl (fun H => ?_) (fun H => ?_)
     ·
      refine AtC.skip ?_
      refine AtE.then_n (AtE.go ?_)
      refine AtC.seq ?_
      refine AtC.block ?_
      refine AtC.seqR ?_
      refine AtL.pures hT 2 _ _ _ _ rfl ?_
      refine AtL.nil ?_
      refine AtE.then_n (AtE.go ?_)
      refine AtC.joinSeq (fun (t0u2 : Sl) => [(6, Sl.toV t0u2)]) [0, 1, 34, 35] H (by exact rfl) (fun t0u2 h0u4 H => ?_) (fun J7 H HK7 => ?_)
      ·
       refine AtC.seqR ?_
       refine AtL.pures hT 1 _ _ _ _ rfl ?_
       obtain ⟨a_5, hc8, H⟩ := H
       refine AtL.q rfl (Quiet1.nilChk rfl rfl hc8) ?_
       refine AtL.pures hT 1 _ _ _ _ rfl ?_
       obtain ⟨v_14, hc9, H⟩ := H
       refine AtL.q rfl (Quiet1.load hT rfl rfl rfl hc9) ?_
       refine AtL.nil ?_
       refine AtE.then_n (AtE.go ?_)
       refine AtC.condB H rfl (fun H => ?_) (fun H => ?_)
       ·
        refine AtC.seqR ?_
        refine AtL.pures hT 2 _ _ _ _ rfl ?_
        refine AtL.nil ?_
        refine AtE.then_n (AtE.go ?_)
        refine AtC.ret ?_
        refine AtE.blk_r ?_
        refine AtE.then_r ?_
        refine AtE.then_r ?_
        refine AtE.blk_r ?_
        refine AtE.then_r ?_
        exact AtE.retN (rs := [.tmp 4, .tmp 5]) rfl (ResAll.cons (ResAt.tmp rfl) (ResAll.cons (ResAt.tmp rfl) ResAll.nil)) rfl H
       ·
        refine AtC.skip ?_
        refine AtE.blk_n ?_
        refine AtE.then_n (AtE.go ?_)
        refine AtC.region ?_
        refine AtL.pures hT 2 _ _ _ _ rfl ?_
        refine AtL.nil ?_
        exact AtE.then_n ((HK6 _ _ H).pick (ts := [6, 35, 0, 1, 34]) rfl)
      ·
       obtain ⟨hd7, v_2, hc7, H⟩ := H
       apply AtC.stages [3, 4, 10, 11, 12] [[], [], [], [], [3], [], [], [], [], [], [], [3, 4, 10], [3, 4, 10, 11]] [[], [], [], [], [1, 2, 3], [], [], [5, 6], [5, 6, 7], [5, 6, 7, 8], [5, 6, 7, 8, 9], [0, 1, 2, 3, 4, 5, 6, 7, 8, 9, 10], [0, 1, 2, 3, 4, 5, 6, 7, 8, 9, 10, 11]] hmix (by kernel_rfl) [(38, _), (39, _), (40, _), (43, _), (44, _), (45, _), (46, _), (47, _)] rfl 5 rfl
       refine Stg.go [0, 1, 2, 5, 6, 7, 8, 9] [3, 10] rfl rfl (QAll.cons (QOp.p hT rfl rfl rfl rfl rfl) (QAll.cons (QOp.p hT rfl rfl rfl rfl rfl) (QAll.cons (QOp.p hT rfl rfl rfl rfl rfl) (QAll.cons (QOp.p hT rfl rfl rfl rfl rfl) (QAll.cons (QOp.p hT rfl rfl rfl rfl rfl) (QAll.cons (QOp.q rfl rfl (Quiet1.idxStr hT rfl rfl rfl rfl hd7 hc7) rfl rfl) (QAll.cons (QOp.p hT rfl rfl rfl rfl rfl) (QAll.cons (QOp.p hT rfl rfl rfl rfl rfl) QAll.nil)))))))) ?_
       rcases H with ⟨H, HX0⟩
       refine EAll.cons ?_ ?_
       ·
        refine EOp.e rfl rfl rfl (Eff.buildS2 (cs := [_]) hT rfl rfl rfl rfl rfl rfl rfl rfl H) ?_
        rintro _ h0u5 ⟨a, rfl, H⟩
        apply Stg.next [(41, _)] rfl rfl
        refine Stg.go [0, 1, 2, 5, 6, 7, 8, 9] [4, 10] rfl rfl (QAll.cons (QOp.p hT rfl rfl rfl rfl rfl) (QAll.cons (QOp.p hT rfl rfl rfl rfl rfl) (QAll.cons (QOp.p hT rfl rfl rfl rfl rfl) (QAll.cons (QOp.p hT rfl rfl rfl rfl rfl) (QAll.cons (QOp.p hT rfl rfl rfl rfl rfl) (QAll.cons (QOp.q rfl rfl (Quiet1.idxStr hT rfl rfl rfl rfl hd7 hc7) rfl rfl) (QAll.cons (QOp.p hT rfl rfl rfl rfl rfl) (QAll.cons (QOp.p hT rfl rfl rfl rfl rfl) QAll.nil)))))))) ?_
        rcases H with ⟨H, HX0⟩
        refine EAll.cons ?_ ?_
        ·
         refine EOp.e rfl rfl rfl (Eff.call (f := 18) (sh := fun h => nat_Bench_Mul _ _ _ h _) (H0 := H) rfl Tryd.call18 rfl (hl := fun w hw => lift_nat_Bench_Mul _ _ _ w _ hw)) ?_
         rintro _ h0u6 ⟨v_4, rfl, H⟩
         apply Stg.next [(42, _)] rfl rfl
         refine Stg.go [0, 5, 6, 7, 8, 9] [10] rfl rfl (QAll.cons (QOp.p hT rfl rfl rfl rfl rfl) (QAll.cons (QOp.p hT rfl rfl rfl rfl rfl) (QAll.cons (QOp.p hT rfl rfl rfl rfl rfl) (QAll.cons (QOp.q rfl rfl (Quiet1.idxStr hT rfl rfl rfl rfl hd7 hc7) rfl rfl) (QAll.cons (QOp.p hT rfl rfl rfl rfl rfl) (QAll.cons (QOp.p hT rfl rfl rfl rfl rfl) QAll.nil)))))) ?_
         refine EAll.cons ?_ EAll.nil
         refine EOp.e rfl rfl rfl (Eff.buildS2 (cs := [_]) hT rfl rfl rfl rfl rfl rfl rfl rfl H) ?_
         rintro _ h0u7 ⟨a_1, rfl, H⟩
         apply Stg.next [(48, _)] rfl rfl
         refine Stg.go [0] [11] rfl rfl (QAll.cons (QOp.p hT rfl rfl rfl rfl rfl) QAll.nil) ?_
         refine EAll.cons ?_ EAll.nil
         refine EOp.e rfl rfl rfl (Eff.call (f := 17) (sh := fun h => nat_Bench_Add _ _ _ h _) (H0 := H) rfl Tryd.call17 rfl (hl := fun w hw => lift_nat_Bench_Add _ _ _ w _ hw)) ?_
         rintro _ h0u8 ⟨v_6, rfl, H⟩
         apply Stg.next [(49, _)] rfl rfl
         refine Stg.go [] [12] rfl rfl QAll.nil ?_
         refine EAll.cons ?_ EAll.nil
         refine EOp.e rfl rfl rfl (Eff.ofPure hT rfl) ?_
         rintro _ _ ⟨rfl, rfl⟩
         apply Stg.next [(6, _)] rfl rfl
         refine Stg.fin [] rfl rfl QAll.nil ?_
         exact AtE.then_n ((HK7 _ _ H).pick (ts := [6, 0, 1, 34, 35]) rfl)
        clear H; have H := HX0; clear HX0
        refine EAll.cons ?_ EAll.nil
        refine EOp.e rfl rfl rfl (Eff.buildS2 (cs := [_]) hT rfl rfl rfl rfl rfl rfl rfl rfl H) ?_
        rintro _ h0u9 ⟨a_2, rfl, H⟩
        apply Stg.next [(48, _)] rfl rfl
        refine Stg.go [0, 1, 2] [4] rfl rfl (QAll.cons (QOp.p hT rfl rfl rfl rfl rfl) (QAll.cons (QOp.p hT rfl rfl rfl rfl rfl) (QAll.cons (QOp.p hT rfl rfl rfl rfl rfl) QAll.nil))) ?_
        refine EAll.cons ?_ EAll.nil
        refine EOp.e rfl rfl rfl (Eff.call (f := 18) (sh := fun h => nat_Bench_Mul _ _ _ h _) (H0 := H) rfl Tryd.call18 rfl (hl := fun w hw => lift_nat_Bench_Mul _ _ _ w _ hw)) ?_
        rintro _ h0u10 ⟨v_8, rfl, H⟩
        apply Stg.next [(42, _)] rfl rfl
        refine Stg.go [0] [11] rfl rfl (QAll.cons (QOp.p hT rfl rfl rfl rfl rfl) QAll.nil) ?_
        refine EAll.cons ?_ EAll.nil
        refine EOp.e rfl rfl rfl (Eff.call (f := 17) (sh := fun h => nat_Bench_Add _ _ _ h _) (H0 := H) rfl Tryd.call17 rfl (hl := fun w hw => lift_nat_Bench_Add _ _ _ w _ hw)) ?_
        rintro _ h0u11 ⟨v_9, rfl, H⟩
        apply Stg.next [(49, _)] rfl rfl
        refine Stg.go [] [12] rfl rfl QAll.nil ?_
        refine EAll.cons ?_ EAll.nil
        refine EOp.e rfl rfl rfl (Eff.ofPure hT rfl) ?_
        rintro _ _ ⟨rfl, rfl⟩
        apply Stg.next [(6, _)] rfl rfl
        refine Stg.fin [] rfl rfl QAll.nil ?_
        exact AtE.then_n ((HK7 _ _ H).pick (ts := [6, 0, 1, 34, 35]) rfl)
       clear H; have H := HX0; clear HX0
       refine EAll.cons ?_ EAll.nil
       refine EOp.e rfl rfl rfl (Eff.buildS2 (cs := [_]) hT rfl rfl rfl rfl rfl rfl rfl rfl H) ?_
       rintro _ h0u12 ⟨a_3, rfl, H⟩
       apply Stg.next [(48, _)] rfl rfl
       refine Stg.go [0, 1, 2] [3] rfl rfl (QAll.cons (QOp.p hT rfl rfl rfl rfl rfl) (QAll.cons (QOp.p hT rfl rfl rfl rfl rfl) (QAll.cons (QOp.p hT rfl rfl rfl rfl rfl) QAll.nil))) ?_
       refine EAll.cons ?_ EAll.nil
       refine EOp.e rfl rfl rfl (Eff.buildS2 (cs := [_]) hT rfl rfl rfl rfl rfl rfl rfl rfl H) ?_
       rintro _ h0u13 ⟨a_4, rfl, H⟩
       apply Stg.next [(41, _)] rfl rfl
       refine Stg.go [0, 1, 2] [4] rfl rfl (QAll.cons (QOp.p hT rfl rfl rfl rfl rfl) (QAll.cons (QOp.p hT rfl rfl rfl rfl rfl) (QAll.cons (QOp.p hT rfl rfl rfl rfl rfl) QAll.nil))) ?_
       refine EAll.cons ?_ EAll.nil
       refine EOp.e rfl rfl rfl (Eff.call (f := 18) (sh := fun h => nat_Bench_Mul _ _ _ h _) (H0 := H) rfl Tryd.call18 rfl (hl := fun w hw => lift_nat_Bench_Mul _ _ _ w _ hw)) ?_
       rintro _ h0u14 ⟨v_12, rfl, H⟩
       apply Stg.next [(42, _)] rfl rfl
       refine Stg.go [0] [11] rfl rfl (QAll.cons (QOp.p hT rfl rfl rfl rfl rfl) QAll.nil) ?_
       refine EAll.cons ?_ EAll.nil
       refine EOp.e rfl rfl rfl (Eff.call (f := 17) (sh := fun h => nat_Bench_Add _ _ _ h _) (H0 := H) rfl Tryd.call17 rfl (hl := fun w hw => lift_nat_Bench_Add _ _ _ w _ hw)) ?_
       rintro _ h0u15 ⟨v_13, rfl, H⟩
       apply Stg.next [(49, _)] rfl rfl
       refine Stg.go [] [12] rfl rfl QAll.nil ?_
       refine EAll.cons ?_ EAll.nil
       refine EOp.e rfl rfl rfl (Eff.ofPure hT rfl) ?_
       rintro _ _ ⟨rfl, rfl⟩
       apply Stg.next [(6, _)] rfl rfl
       refine Stg.fin [] rfl rfl QAll.nil ?_
       exact AtE.then_n ((HK7 _ _ H).pick (ts := [6, 0, 1, 34, 35]) rfl)
     ·
      refine AtC.exit ?_
      refine AtE.then_x ?_
      refine AtE.then_x ?_
      refine AtE.blk_hit ?_
      refine AtE.then_n (AtE.go ?_)
      refine AtC.seqD hmix (by kernel_rfl) ?_
      refine AtD.pures hT 2 _ _ _ _ rfl ?_
      obtain ⟨a_6, hc10, H⟩ := H
      refine AtD.q rfl (Quiet1.nilChk rfl rfl hc10) ?_
      refine AtD.pures hT 1 _ _ _ _ rfl ?_
      obtain ⟨v_15, hc11, H⟩ := H
      refine AtD.q rfl (Quiet1.load hT rfl rfl rfl hc11) ?_
      refine AtD.pures hT 3 _ _ _ _ rfl ?_
      refine AtD.nil ?_
      refine AtE.then_n (AtE.go ?_)
      refine AtC.ret ?_
      exact AtE.retN (rs := [.tmp 4, .tmp 5]) rfl (ResAll.cons (ResAt.tmp rfl) (ResAll.cons (ResAt.tmp rfl) ResAll.nil)) rfl H
  ·
   refine AtC.region ?_
   refine AtL.pures hT 4 _ _ _ _ rfl ?_
   refine AtL.splitB (t := 12) H rfl (fun H => ?_) (fun H => ?_)
   ·
    refine AtL.noF rfl rfl rfl (by decide) rfl ?_
    refine AtL.noF rfl rfl rfl (by decide) rfl ?_
    refine AtL.noF rfl rfl rfl (by decide) rfl ?_
    refine AtL.pures hT 1 _ _ _ _ rfl ?_
    refine AtL.nil ?_
    exact AtE.then_n ((HK1 _ _ H).pick (ts := [16, 0, 1]) rfl)
   ·
    refine AtL.yes rfl rfl rfl ?_
    refine AtL.pures hT 1 _ _ _ _ rfl ?_
    refine AtL.yes rfl rfl rfl ?_
    refine AtL.pures hT 1 _ _ _ _ rfl ?_
    refine AtL.yes rfl rfl rfl ?_
    refine AtL.pures hT 1 _ _ _ _ rfl ?_
    refine AtL.pures hT 1 _ _ _ _ rfl ?_
    refine AtL.nil ?_
    exact AtE.then_n ((HK1 _ _ H).pick (ts := [16, 0, 1]) rfl)

theorem lift_law01uNatOver (x0 : Sl) (y : Sl) (s0 : ByteArray) (w : World) (S : Bool → Heap → Prop) (H : law01uNatOver x0 y s0 w.heap S) :
    Calls Tryd.prog 5 #[Sl.toV x0, Sl.toV y, Value.string s0] w (Post w Value.bool S) := by
  refine Calls.lift (args := [Sl.toV x0, Sl.toV y, Value.string s0]) Tryd.func5 rfl Tryd.ntmps5 (Nat.le_of_ble_eq_true rfl) (fun h => law01uNatOver x0 y s0 h S) H (fun h H => ?_)
  refine AtC.pick (ts := [0, 1, 2]) rfl ?_
  unfold law01uNatOver at H
  refine AtC.seqR ?_
  refine AtL.pures hT 1 _ _ _ _ rfl ?_
  refine AtL.nil ?_
  refine AtE.then_n (AtE.go ?_)
  refine AtC.seq ?_
  refine AtC.seqR ?_
  refine AtL.e rfl (Eff.call (f := 13) (sh := fun h => law01uspeaks h _) (H0 := H) rfl Tryd.call13 rfl (hl := fun w hw => lift_law01uspeaks  w _ hw)) ?_
  rintro _ h0 ⟨v, rfl, H⟩
  refine AtL.pures hT 1 _ _ _ _ rfl ?_
  refine AtL.nil ?_
  refine AtE.then_n (AtE.go ?_)
  refine AtC.condB H rfl (fun H => ?_) (fun H => ?_)
  ·
   refine AtC.seqR ?_
   refine AtL.pures hT 1 _ _ _ _ rfl ?_
   refine AtL.nil ?_
   refine AtE.then_n (AtE.go ?_)
   refine AtC.ret ?_
   refine AtE.then_r ?_
   exact AtE.retN (rs := [.tmp 6]) rfl (ResAll.cons (ResAt.tmp rfl) ResAll.nil) rfl H
  ·
   refine AtC.skip ?_
   refine AtE.then_n (AtE.go ?_)
   refine AtC.seq ?_
   refine AtC.joinSeq (fun (t0 : Bool) => [(22, Value.bool t0)]) [0, 1, 2] H (by exact rfl) (fun t0 h0u1 H => ?_) (fun J1 H HK1 => ?_)
   ·
    refine AtC.condB H rfl (fun H => ?_) (fun H => ?_)
    ·
     refine AtC.seqR ?_
     refine AtL.pures hT 1 _ _ _ _ rfl ?_
     refine AtL.nil ?_
     refine AtE.then_n (AtE.go ?_)
     refine AtC.ret ?_
     refine AtE.then_r ?_
     exact AtE.retN (rs := [.tmp 6]) rfl (ResAll.cons (ResAt.tmp rfl) ResAll.nil) rfl H
    ·
     refine AtC.skip ?_
     refine AtE.then_n (AtE.go ?_)
     refine AtC.seqR ?_
     refine AtL.e rfl (Eff.call (f := 15) (sh := fun h => nat_New _ h _) (H0 := H) rfl Tryd.call15 rfl (hl := fun w hw => lift_nat_New _ w _ hw)) ?_
     rintro _ h0u4 ⟨v_3, rfl, H⟩
     refine AtL.pures hT 1 _ _ _ _ rfl ?_
     refine AtL.nil ?_
     refine AtE.then_n (AtE.go ?_)
     refine AtC.seqR ?_
     refine AtL.pures hT 1 _ _ _ _ rfl ?_
     refine AtL.bs (hT := hT) (cs := [_, _]) H rfl rfl rfl rfl rfl rfl rfl rfl rfl (fun a_1 h0u5 H => ?_)
     refine AtL.bs (hT := hT) (cs := [_]) H rfl rfl rfl rfl rfl rfl rfl rfl rfl (fun a_2 h0u6 H => ?_)
     refine AtL.e rfl (Eff.call (f := 18) (sh := fun h => nat_Bench_Mul _ _ _ h _) (H0 := H) rfl Tryd.call18 rfl (hl := fun w hw => lift_nat_Bench_Mul _ _ _ w _ hw)) ?_
     rintro _ h0u7 ⟨v_6, rfl, H⟩
     refine AtL.nil ?_
     refine AtE.then_n (AtE.go ?_)
     refine AtC.seqR ?_
     refine AtL.pures hT 3 _ _ _ _ rfl ?_
     refine AtL.e rfl (Eff.call (f := 22) (sh := fun h => nat_Bench_Div _ _ _ h _) (H0 := H) rfl Tryd.call22 rfl (hl := fun w hw => lift_nat_Bench_Div _ _ _ w _ hw)) ?_
     rintro _ h0u8 ⟨v_7, rfl, H⟩
     refine AtL.pures hT 5 _ _ _ _ rfl ?_
     refine AtL.nil ?_
     refine AtE.then_n (AtE.go ?_)
     refine AtC.seqR ?_
     refine AtL.pures hT 2 _ _ _ _ rfl ?_
     refine AtL.e rfl (Eff.call (f := 36) (sh := fun h => nat_Bench_Parse _ _ h _) (H0 := H) rfl Tryd.call36 rfl (hl := fun w hw => lift_nat_Bench_Parse _ _ w _ hw)) ?_
     rintro _ h0u9 ⟨v_8, rfl, H⟩
     refine AtL.pures hT 5 _ _ _ _ rfl ?_
     refine AtL.nil ?_
     refine AtE.then_n (AtE.go ?_)
     refine AtC.joinSeq (fun (t0u1 : Bool) => [(6, Value.bool t0u1)]) [] H (by exact rfl) (fun t0u1 h0u10 H => ?_) (fun J2 H HK2 => ?_)
     ·
      refine AtC.ret ?_
      exact AtE.retN (rs := [.tmp 6]) rfl (ResAll.cons (ResAt.tmp rfl) ResAll.nil) rfl H
     ·
      refine AtC.region ?_
      refine AtL.pures hT 1 _ _ _ _ rfl ?_
      refine AtL.e rfl (Eff.call (f := 24) (sh := fun h => nat_Bench_Over _ h _) (H0 := H) rfl Tryd.call24 rfl (hl := fun w hw => lift_nat_Bench_Over _ w _ hw)) ?_
      rintro _ h0u11 ⟨v_9, rfl, H⟩
      refine AtL.pures hT 1 _ _ _ _ rfl ?_
      refine AtL.splitB (t := 43) H rfl (fun H => ?_) (fun H => ?_)
      ·
       refine AtL.yes rfl rfl rfl ?_
       refine AtL.pures hT 1 _ _ _ _ rfl ?_
       refine AtL.yes rfl rfl rfl ?_
       refine AtL.pures hT 1 _ _ _ _ rfl ?_
       refine AtL.yes rfl rfl rfl ?_
       refine AtL.pures hT 1 _ _ _ _ rfl ?_
       refine AtL.yes rfl rfl rfl ?_
       refine AtL.e rfl (Eff.call (f := 17) (sh := fun h => nat_Bench_Add _ _ _ h _) (H0 := H) rfl Tryd.call17 rfl (hl := fun w hw => lift_nat_Bench_Add _ _ _ w _ hw)) ?_
       rintro _ h0u12 ⟨v_10, rfl, H⟩
       refine AtL.yes rfl rfl rfl ?_
       refine AtL.pures hT 1 _ _ _ _ rfl ?_
       refine AtL.yes rfl rfl rfl ?_
       refine AtL.pures hT 1 _ _ _ _ rfl ?_
       refine AtL.pures hT 2 _ _ _ _ rfl ?_
       refine AtL.splitB (t := 51) H rfl (fun H => ?_) (fun H => ?_)
       ·
        refine AtL.yes rfl rfl rfl ?_
        refine AtL.pures hT 1 _ _ _ _ rfl ?_
        refine AtL.yes rfl rfl rfl ?_
        refine AtL.pures hT 1 _ _ _ _ rfl ?_
        refine AtL.yes rfl rfl rfl ?_
        refine AtL.pures hT 1 _ _ _ _ rfl ?_
        refine AtL.yes rfl rfl rfl ?_
        refine AtL.e rfl (Eff.call (f := 19) (sh := fun h => nat_Bench_Sub _ _ _ h _) (H0 := H) rfl Tryd.call19 rfl (hl := fun w hw => lift_nat_Bench_Sub _ _ _ w _ hw)) ?_
        rintro _ h0u13 ⟨v_11, rfl, H⟩
        refine AtL.yes rfl rfl rfl ?_
        refine AtL.pures hT 1 _ _ _ _ rfl ?_
        refine AtL.yes rfl rfl rfl ?_
        refine AtL.pures hT 1 _ _ _ _ rfl ?_
        refine AtL.pures hT 2 _ _ _ _ rfl ?_
        refine AtL.splitB (t := 59) H rfl (fun H => ?_) (fun H => ?_)
        ·
         refine AtL.yes rfl rfl rfl ?_
         refine AtL.pures hT 1 _ _ _ _ rfl ?_
         refine AtL.yes rfl rfl rfl ?_
         refine AtL.pures hT 1 _ _ _ _ rfl ?_
         refine AtL.yes rfl rfl rfl ?_
         refine AtL.pures hT 1 _ _ _ _ rfl ?_
         refine AtL.yes rfl rfl rfl ?_
         refine AtL.e rfl (Eff.call (f := 18) (sh := fun h => nat_Bench_Mul _ _ _ h _) (H0 := H) rfl Tryd.call18 rfl (hl := fun w hw => lift_nat_Bench_Mul _ _ _ w _ hw)) ?_
         rintro _ h0u14 ⟨v_12, rfl, H⟩
         refine AtL.yes rfl rfl rfl ?_
         refine AtL.pures hT 1 _ _ _ _ rfl ?_
         refine AtL.yes rfl rfl rfl ?_
         refine AtL.pures hT 1 _ _ _ _ rfl ?_
         refine AtL.pures hT 2 _ _ _ _ rfl ?_
         refine AtL.splitB (t := 67) H rfl (fun H => ?_) (fun H => ?_)
         ·
          refine AtL.yes rfl rfl rfl ?_
          refine AtL.pures hT 1 _ _ _ _ rfl ?_
          refine AtL.yes rfl rfl rfl ?_
          refine AtL.pures hT 1 _ _ _ _ rfl ?_
          refine AtL.yes rfl rfl rfl ?_
          refine AtL.pures hT 1 _ _ _ _ rfl ?_
          refine AtL.yes rfl rfl rfl ?_
          refine AtL.e rfl (Eff.call (f := 21) (sh := fun h => nat_Bench_Gcd _ _ _ h _) (H0 := H) rfl Tryd.call21 rfl (hl := fun w hw => lift_nat_Bench_Gcd _ _ _ w _ hw)) ?_
          rintro _ h0u15 ⟨v_13, rfl, H⟩
          refine AtL.yes rfl rfl rfl ?_
          refine AtL.pures hT 1 _ _ _ _ rfl ?_
          refine AtL.yes rfl rfl rfl ?_
          refine AtL.pures hT 1 _ _ _ _ rfl ?_
          refine AtL.pures hT 2 _ _ _ _ rfl ?_
          refine AtL.splitB (t := 75) H rfl (fun H => ?_) (fun H => ?_)
          ·
           refine AtL.yes rfl rfl rfl ?_
           refine AtL.pures hT 1 _ _ _ _ rfl ?_
           refine AtL.yes rfl rfl rfl ?_
           refine AtL.pures hT 1 _ _ _ _ rfl ?_
           refine AtL.yes rfl rfl rfl ?_
           refine AtL.pures hT 1 _ _ _ _ rfl ?_
           refine AtL.pures hT 2 _ _ _ _ rfl ?_
           refine AtL.splitB (t := 80) H rfl (fun H => ?_) (fun H => ?_)
           ·
            refine AtL.yes rfl rfl rfl ?_
            refine AtL.pures hT 1 _ _ _ _ rfl ?_
            refine AtL.yes rfl rfl rfl ?_
            refine AtL.pures hT 1 _ _ _ _ rfl ?_
            refine AtL.yes rfl rfl rfl ?_
            refine AtL.pures hT 1 _ _ _ _ rfl ?_
            refine AtL.pures hT 2 _ _ _ _ rfl ?_
            refine AtL.splitB (t := 85) H rfl (fun H => ?_) (fun H => ?_)
            ·
             refine AtL.yes rfl rfl rfl ?_
             refine AtL.pures hT 1 _ _ _ _ rfl ?_
             refine AtL.yes rfl rfl rfl ?_
             refine AtL.pures hT 1 _ _ _ _ rfl ?_
             refine AtL.yes rfl rfl rfl ?_
             refine AtL.pures hT 1 _ _ _ _ rfl ?_
             refine AtL.pures hT 2 _ _ _ _ rfl ?_
             refine AtL.splitB (t := 90) H rfl (fun H => ?_) (fun H => ?_)
             ·
              refine AtL.yes rfl rfl rfl ?_
              refine AtL.pures hT 1 _ _ _ _ rfl ?_
              refine AtL.yes rfl rfl rfl ?_
              refine AtL.pures hT 1 _ _ _ _ rfl ?_
              refine AtL.pures hT 2 _ _ _ _ rfl ?_
              refine AtL.splitB (t := 94) H rfl (fun H => ?_) (fun H => ?_)
              ·
               refine AtL.yes rfl rfl rfl ?_
               refine AtL.pures hT 1 _ _ _ _ rfl ?_
               refine AtL.yes rfl rfl rfl ?_
               refine AtL.e rfl (Eff.call (f := 24) (sh := fun h => nat_Bench_Over _ h _) (H0 := H) rfl Tryd.call24 rfl (hl := fun w hw => lift_nat_Bench_Over _ w _ hw)) ?_
               rintro _ h0u16 ⟨v_14, rfl, H⟩
               refine AtL.pures hT 2 _ _ _ _ rfl ?_
               refine AtL.nil ?_
               exact AtE.then_n ((HK2 _ _ H).pick (ts := [6]) rfl)
              ·
               refine AtL.noF rfl rfl rfl (by decide) rfl ?_
               refine AtL.noF rfl rfl rfl (by decide) rfl ?_
               refine AtL.pures hT 2 _ _ _ _ rfl ?_
               refine AtL.nil ?_
               exact AtE.then_n ((HK2 _ _ H).pick (ts := [6]) rfl)
             ·
              refine AtL.noF rfl rfl rfl (by decide) rfl ?_
              refine AtL.noF rfl rfl rfl (by decide) rfl ?_
              refine AtL.pures hT 2 _ _ _ _ rfl ?_
              refine AtL.noF rfl rfl rfl (by decide) rfl ?_
              refine AtL.noF rfl rfl rfl (by decide) rfl ?_
              refine AtL.pures hT 2 _ _ _ _ rfl ?_
              refine AtL.nil ?_
              exact AtE.then_n ((HK2 _ _ H).pick (ts := [6]) rfl)
            ·
             refine AtL.noF rfl rfl rfl (by decide) rfl ?_
             refine AtL.noF rfl rfl rfl (by decide) rfl ?_
             refine AtL.noF rfl rfl rfl (by decide) rfl ?_
             refine AtL.pures hT 2 _ _ _ _ rfl ?_
             refine AtL.noF rfl rfl rfl (by decide) rfl ?_
             refine AtL.noF rfl rfl rfl (by decide) rfl ?_
             refine AtL.pures hT 2 _ _ _ _ rfl ?_
             refine AtL.noF rfl rfl rfl (by decide) rfl ?_
             refine AtL.noF rfl rfl rfl (by decide) rfl ?_
             refine AtL.pures hT 2 _ _ _ _ rfl ?_
             refine AtL.nil ?_
             exact AtE.then_n ((HK2 _ _ H).pick (ts := [6]) rfl)
           ·
            refine AtL.noF rfl rfl rfl (by decide) rfl ?_
            refine AtL.noF rfl rfl rfl (by decide) rfl ?_
            refine AtL.noF rfl rfl rfl (by decide) rfl ?_
            refine AtL.pures hT 2 _ _ _ _ rfl ?_
            refine AtL.noF rfl rfl rfl (by decide) rfl ?_
            refine AtL.noF rfl rfl rfl (by decide) rfl ?_
            refine AtL.noF rfl rfl rfl (by decide) rfl ?_
            refine AtL.pures hT 2 _ _ _ _ rfl ?_
            refine AtL.noF rfl rfl rfl (by decide) rfl ?_
            refine AtL.noF rfl rfl rfl (by decide) rfl ?_
            refine AtL.pures hT 2 _ _ _ _ rfl ?_
            refine AtL.noF rfl rfl rfl (by decide) rfl ?_
            refine AtL.noF rfl rfl rfl (by decide) rfl ?_
            refine AtL.pures hT 2 _ _ _ _ rfl ?_
            refine AtL.nil ?_
            exact AtE.then_n ((HK2 _ _ H).pick (ts := [6]) rfl)
          ·
           refine AtL.noF rfl rfl rfl (by decide) rfl ?_
           refine AtL.noF rfl rfl rfl (by decide) rfl ?_
           refine AtL.noF rfl rfl rfl (by decide) rfl ?_
           refine AtL.pures hT 2 _ _ _ _ rfl ?_
           refine AtL.noF rfl rfl rfl (by decide) rfl ?_
           refine AtL.noF rfl rfl rfl (by decide) rfl ?_
           refine AtL.noF rfl rfl rfl (by decide) rfl ?_
           refine AtL.pures hT 2 _ _ _ _ rfl ?_
           refine AtL.noF rfl rfl rfl (by decide) rfl ?_
           refine AtL.noF rfl rfl rfl (by decide) rfl ?_
           refine AtL.noF rfl rfl rfl (by decide) rfl ?_
           refine AtL.pures hT 2 _ _ _ _ rfl ?_
           refine AtL.noF rfl rfl rfl (by decide) rfl ?_
           refine AtL.noF rfl rfl rfl (by decide) rfl ?_
           refine AtL.pures hT 2 _ _ _ _ rfl ?_
           refine AtL.noF rfl rfl rfl (by decide) rfl ?_
           refine AtL.noF rfl rfl rfl (by decide) rfl ?_
           refine AtL.pures hT 2 _ _ _ _ rfl ?_
           refine AtL.nil ?_
           exact AtE.then_n ((HK2 _ _ H).pick (ts := [6]) rfl)
         ·
          refine AtL.noF rfl rfl rfl (by decide) rfl ?_
          refine AtL.noF rfl rfl rfl (by decide) rfl ?_
          refine AtL.noF rfl rfl rfl (by decide) rfl ?_
          refine AtL.noF rfl rfl rfl (by decide) rfl ?_
          refine AtL.noF rfl rfl rfl (by decide) rfl ?_
          refine AtL.noF rfl rfl rfl (by decide) rfl ?_
          refine AtL.pures hT 2 _ _ _ _ rfl ?_
          refine AtL.noF rfl rfl rfl (by decide) rfl ?_
          refine AtL.noF rfl rfl rfl (by decide) rfl ?_
          refine AtL.noF rfl rfl rfl (by decide) rfl ?_
          refine AtL.pures hT 2 _ _ _ _ rfl ?_
          refine AtL.noF rfl rfl rfl (by decide) rfl ?_
          refine AtL.noF rfl rfl rfl (by decide) rfl ?_
          refine AtL.noF rfl rfl rfl (by decide) rfl ?_
          refine AtL.pures hT 2 _ _ _ _ rfl ?_
          refine AtL.noF rfl rfl rfl (by decide) rfl ?_
          refine AtL.noF rfl rfl rfl (by decide) rfl ?_
          refine AtL.noF rfl rfl rfl (by decide) rfl ?_
          refine AtL.pures hT 2 _ _ _ _ rfl ?_
          refine AtL.noF rfl rfl rfl (by decide) rfl ?_
          refine AtL.noF rfl rfl rfl (by decide) rfl ?_
          refine AtL.pures hT 2 _ _ _ _ rfl ?_
          refine AtL.noF rfl rfl rfl (by decide) rfl ?_
          refine AtL.noF rfl rfl rfl (by decide) rfl ?_
          refine AtL.pures hT 2 _ _ _ _ rfl ?_
          refine AtL.nil ?_
          exact AtE.then_n ((HK2 _ _ H).pick (ts := [6]) rfl)
        ·
         refine AtL.noF rfl rfl rfl (by decide) rfl ?_
         refine AtL.noF rfl rfl rfl (by decide) rfl ?_
         refine AtL.noF rfl rfl rfl (by decide) rfl ?_
         refine AtL.noF rfl rfl rfl (by decide) rfl ?_
         refine AtL.noF rfl rfl rfl (by decide) rfl ?_
         refine AtL.noF rfl rfl rfl (by decide) rfl ?_
         refine AtL.pures hT 2 _ _ _ _ rfl ?_
         refine AtL.noF rfl rfl rfl (by decide) rfl ?_
         refine AtL.noF rfl rfl rfl (by decide) rfl ?_
         refine AtL.noF rfl rfl rfl (by decide) rfl ?_
         refine AtL.noF rfl rfl rfl (by decide) rfl ?_
         refine AtL.noF rfl rfl rfl (by decide) rfl ?_
         refine AtL.noF rfl rfl rfl (by decide) rfl ?_
         refine AtL.pures hT 2 _ _ _ _ rfl ?_
         refine AtL.noF rfl rfl rfl (by decide) rfl ?_
         refine AtL.noF rfl rfl rfl (by decide) rfl ?_
         refine AtL.noF rfl rfl rfl (by decide) rfl ?_
         refine AtL.pures hT 2 _ _ _ _ rfl ?_
         refine AtL.noF rfl rfl rfl (by decide) rfl ?_
         refine AtL.noF rfl rfl rfl (by decide) rfl ?_
         refine AtL.noF rfl rfl rfl (by decide) rfl ?_
         refine AtL.pures hT 2 _ _ _ _ rfl ?_
         refine AtL.noF rfl rfl rfl (by decide) rfl ?_
         refine AtL.noF rfl rfl rfl (by decide) rfl ?_
         refine AtL.noF rfl rfl rfl (by decide) rfl ?_
         refine AtL.pures hT 2 _ _ _ _ rfl ?_
         refine AtL.noF rfl rfl rfl (by decide) rfl ?_
         refine AtL.noF rfl rfl rfl (by decide) rfl ?_
         refine AtL.pures hT 2 _ _ _ _ rfl ?_
         refine AtL.noF rfl rfl rfl (by decide) rfl ?_
         refine AtL.noF rfl rfl rfl (by decide) rfl ?_
         refine AtL.pures hT 2 _ _ _ _ rfl ?_
         refine AtL.nil ?_
         exact AtE.then_n ((HK2 _ _ H).pick (ts := [6]) rfl)
       ·
        refine AtL.noF rfl rfl rfl (by decide) rfl ?_
        refine AtL.noF rfl rfl rfl (by decide) rfl ?_
        refine AtL.noF rfl rfl rfl (by decide) rfl ?_
        refine AtL.noF rfl rfl rfl (by decide) rfl ?_
        refine AtL.noF rfl rfl rfl (by decide) rfl ?_
        refine AtL.noF rfl rfl rfl (by decide) rfl ?_
        refine AtL.pures hT 2 _ _ _ _ rfl ?_
        refine AtL.noF rfl rfl rfl (by decide) rfl ?_
        refine AtL.noF rfl rfl rfl (by decide) rfl ?_
        refine AtL.noF rfl rfl rfl (by decide) rfl ?_
        refine AtL.noF rfl rfl rfl (by decide) rfl ?_
        refine AtL.noF rfl rfl rfl (by decide) rfl ?_
        refine AtL.noF rfl rfl rfl (by decide) rfl ?_
        refine AtL.pures hT 2 _ _ _ _ rfl ?_
        refine AtL.noF rfl rfl rfl (by decide) rfl ?_
        refine AtL.noF rfl rfl rfl (by decide) rfl ?_
        refine AtL.noF rfl rfl rfl (by decide) rfl ?_
        refine AtL.noF rfl rfl rfl (by decide) rfl ?_
        refine AtL.noF rfl rfl rfl (by decide) rfl ?_
        refine AtL.noF rfl rfl rfl (by decide) rfl ?_
        refine AtL.pures hT 2 _ _ _ _ rfl ?_
        refine AtL.noF rfl rfl rfl (by decide) rfl ?_
        refine AtL.noF rfl rfl rfl (by decide) rfl ?_
        refine AtL.noF rfl rfl rfl (by decide) rfl ?_
        refine AtL.pures hT 2 _ _ _ _ rfl ?_
        refine AtL.noF rfl rfl rfl (by decide) rfl ?_
        refine AtL.noF rfl rfl rfl (by decide) rfl ?_
        refine AtL.noF rfl rfl rfl (by decide) rfl ?_
        refine AtL.pures hT 2 _ _ _ _ rfl ?_
        refine AtL.noF rfl rfl rfl (by decide) rfl ?_
        refine AtL.noF rfl rfl rfl (by decide) rfl ?_
        refine AtL.noF rfl rfl rfl (by decide) rfl ?_
        refine AtL.pures hT 2 _ _ _ _ rfl ?_
        refine AtL.noF rfl rfl rfl (by decide) rfl ?_
        refine AtL.noF rfl rfl rfl (by decide) rfl ?_
        refine AtL.pures hT 2 _ _ _ _ rfl ?_
        refine AtL.noF rfl rfl rfl (by decide) rfl ?_
        refine AtL.noF rfl rfl rfl (by decide) rfl ?_
        refine AtL.pures hT 2 _ _ _ _ rfl ?_
        refine AtL.nil ?_
        exact AtE.then_n ((HK2 _ _ H).pick (ts := [6]) rfl)
      ·
       refine AtL.noF rfl rfl rfl (by decide) rfl ?_
       refine AtL.noF rfl rfl rfl (by decide) rfl ?_
       refine AtL.noF rfl rfl rfl (by decide) rfl ?_
       refine AtL.noF rfl rfl rfl (by decide) rfl ?_
       refine AtL.noF rfl rfl rfl (by decide) rfl ?_
       refine AtL.noF rfl rfl rfl (by decide) rfl ?_
       refine AtL.pures hT 2 _ _ _ _ rfl ?_
       refine AtL.noF rfl rfl rfl (by decide) rfl ?_
       refine AtL.noF rfl rfl rfl (by decide) rfl ?_
       refine AtL.noF rfl rfl rfl (by decide) rfl ?_
       refine AtL.noF rfl rfl rfl (by decide) rfl ?_
       refine AtL.noF rfl rfl rfl (by decide) rfl ?_
       refine AtL.noF rfl rfl rfl (by decide) rfl ?_
       refine AtL.pures hT 2 _ _ _ _ rfl ?_
       refine AtL.noF rfl rfl rfl (by decide) rfl ?_
       refine AtL.noF rfl rfl rfl (by decide) rfl ?_
       refine AtL.noF rfl rfl rfl (by decide) rfl ?_
       refine AtL.noF rfl rfl rfl (by decide) rfl ?_
       refine AtL.noF rfl rfl rfl (by decide) rfl ?_
       refine AtL.noF rfl rfl rfl (by decide) rfl ?_
       refine AtL.pures hT 2 _ _ _ _ rfl ?_
       refine AtL.noF rfl rfl rfl (by decide) rfl ?_
       refine AtL.noF rfl rfl rfl (by decide) rfl ?_
       refine AtL.noF rfl rfl rfl (by decide) rfl ?_
       refine AtL.noF rfl rfl rfl (by decide) rfl ?_
       refine AtL.noF rfl rfl rfl (by decide) rfl ?_
       refine AtL.noF rfl rfl rfl (by decide) rfl ?_
       refine AtL.pures hT 2 _ _ _ _ rfl ?_
       refine AtL.noF rfl rfl rfl (by decide) rfl ?_
       refine AtL.noF rfl rfl rfl (by decide) rfl ?_
       refine AtL.noF rfl rfl rfl (by decide) rfl ?_
       refine AtL.pures hT 2 _ _ _ _ rfl ?_
       refine AtL.noF rfl rfl rfl (by decide) rfl ?_
       refine AtL.noF rfl rfl rfl (by decide) rfl ?_
       refine AtL.noF rfl rfl rfl (by decide) rfl ?_
       refine AtL.pures hT 2 _ _ _ _ rfl ?_
       refine AtL.noF rfl rfl rfl (by decide) rfl ?_
       refine AtL.noF rfl rfl rfl (by decide) rfl ?_
       refine AtL.noF rfl rfl rfl (by decide) rfl ?_
       refine AtL.pures hT 2 _ _ _ _ rfl ?_
       refine AtL.noF rfl rfl rfl (by decide) rfl ?_
       refine AtL.noF rfl rfl rfl (by decide) rfl ?_
       refine AtL.pures hT 2 _ _ _ _ rfl ?_
       refine AtL.noF rfl rfl rfl (by decide) rfl ?_
       refine AtL.noF rfl rfl rfl (by decide) rfl ?_
       refine AtL.pures hT 2 _ _ _ _ rfl ?_
       refine AtL.nil ?_
       exact AtE.then_n ((HK2 _ _ H).pick (ts := [6]) rfl)
   ·
    refine AtC.region ?_
    refine AtL.pures hT 2 _ _ _ _ rfl ?_
    refine AtL.bs (hT := hT) (cs := [_, _]) H rfl rfl rfl rfl rfl rfl rfl rfl rfl (fun a h0u2 H => ?_)
    refine AtL.e rfl (Eff.call (f := 14) (sh := fun h => law01ugreat _ h _) (H0 := H) rfl Tryd.call14 rfl (hl := fun w hw => lift_law01ugreat _ w _ hw)) ?_
    rintro _ h0u3 ⟨v_2, rfl, H⟩
    refine AtL.pures hT 1 _ _ _ _ rfl ?_
    refine AtL.splitB (t := 18) H rfl (fun H => ?_) (fun H => ?_)
    ·
     refine AtL.noF rfl rfl rfl (by decide) rfl ?_
     refine AtL.noF rfl rfl rfl (by decide) rfl ?_
     refine AtL.noF rfl rfl rfl (by decide) rfl ?_
     refine AtL.pures hT 1 _ _ _ _ rfl ?_
     refine AtL.nil ?_
     exact AtE.then_n ((HK1 _ _ H).pick (ts := [22, 0, 1, 2]) rfl)
    ·
     refine AtL.yes rfl rfl rfl ?_
     refine AtL.pures hT 1 _ _ _ _ rfl ?_
     refine AtL.yes rfl rfl rfl ?_
     refine AtL.pures hT 1 _ _ _ _ rfl ?_
     refine AtL.yes rfl rfl rfl ?_
     refine AtL.pures hT 1 _ _ _ _ rfl ?_
     refine AtL.pures hT 1 _ _ _ _ rfl ?_
     refine AtL.nil ?_
     exact AtE.then_n ((HK1 _ _ H).pick (ts := [22, 0, 1, 2]) rfl)

theorem lift_law01uNatRules (x0 : Sl) (y : Sl) (z : Sl) (w : World) (S : Bool → Heap → Prop) (H : law01uNatRules x0 y z w.heap S) :
    Calls Tryd.prog 3 #[Sl.toV x0, Sl.toV y, Sl.toV z] w (Post w Value.bool S) := by
  refine Calls.lift (args := [Sl.toV x0, Sl.toV y, Sl.toV z]) Tryd.func3 rfl Tryd.ntmps3 (Nat.le_of_ble_eq_true rfl) (fun h => law01uNatRules x0 y z h S) H (fun h H => ?_)
  refine AtC.pick (ts := [0, 1, 2]) rfl ?_
  unfold law01uNatRules at H
  refine AtC.seqR ?_
  refine AtL.pures hT 1 _ _ _ _ rfl ?_
  refine AtL.nil ?_
  refine AtE.then_n (AtE.go ?_)
  refine AtC.seq ?_
  refine AtC.seqR ?_
  refine AtL.e rfl (Eff.call (f := 13) (sh := fun h => law01uspeaks h _) (H0 := H) rfl Tryd.call13 rfl (hl := fun w hw => lift_law01uspeaks  w _ hw)) ?_
  rintro _ h0 ⟨v, rfl, H⟩
  refine AtL.pures hT 1 _ _ _ _ rfl ?_
  refine AtL.nil ?_
  refine AtE.then_n (AtE.go ?_)
  refine AtC.condB H rfl (fun H => ?_) (fun H => ?_)
  ·
   refine AtC.seqR ?_
   refine AtL.pures hT 1 _ _ _ _ rfl ?_
   refine AtL.nil ?_
   refine AtE.then_n (AtE.go ?_)
   refine AtC.ret ?_
   refine AtE.then_r ?_
   exact AtE.retN (rs := [.tmp 6]) rfl (ResAll.cons (ResAt.tmp rfl) ResAll.nil) rfl H
  ·
   refine AtC.skip ?_
   refine AtE.then_n (AtE.go ?_)
   refine AtC.seq ?_
   refine AtC.seqR ?_
   refine AtL.pures hT 3 _ _ _ _ rfl ?_
   refine AtL.bs (hT := hT) (cs := [_, _, _]) H rfl rfl rfl rfl rfl rfl rfl rfl rfl (fun a h0u1 H => ?_)
   refine AtL.e rfl (Eff.call (f := 14) (sh := fun h => law01ugreat _ h _) (H0 := H) rfl Tryd.call14 rfl (hl := fun w hw => lift_law01ugreat _ w _ hw)) ?_
   rintro _ h0u2 ⟨v_2, rfl, H⟩
   refine AtL.nil ?_
   refine AtE.then_n (AtE.go ?_)
   refine AtC.condB H rfl (fun H => ?_) (fun H => ?_)
   ·
    refine AtC.seqR ?_
    refine AtL.pures hT 1 _ _ _ _ rfl ?_
    refine AtL.nil ?_
    refine AtE.then_n (AtE.go ?_)
    refine AtC.ret ?_
    refine AtE.then_r ?_
    exact AtE.retN (rs := [.tmp 6]) rfl (ResAll.cons (ResAt.tmp rfl) ResAll.nil) rfl H
   ·
    refine AtC.skip ?_
    refine AtE.then_n (AtE.go ?_)
    refine AtC.seqR ?_
    refine AtL.e rfl (Eff.call (f := 15) (sh := fun h => nat_New _ h _) (H0 := H) rfl Tryd.call15 rfl (hl := fun w hw => lift_nat_New _ w _ hw)) ?_
    rintro _ h0u3 ⟨v_3, rfl, H⟩
    refine AtL.pures hT 1 _ _ _ _ rfl ?_
    refine AtL.nil ?_
    refine AtE.then_n (AtE.go ?_)
    refine AtC.seqR ?_
    refine AtL.pures hT 1 _ _ _ _ rfl ?_
    refine AtL.nil ?_
    refine AtE.then_n (AtE.go ?_)
    refine AtC.seq ?_
    refine AtC.joinSeq (fun (t0 : Bool) => [(84, Value.bool t0)]) [0, 1, 7, 8] H (by exact rfl) (fun t0 h0u4 H => ?_) (fun J1 H HK1 => ?_)
    ·
     refine AtC.condB H rfl (fun H => ?_) (fun H => ?_)
     ·
      refine AtC.seqR ?_
      refine AtL.pures hT 1 _ _ _ _ rfl ?_
      refine AtL.nil ?_
      refine AtE.then_n (AtE.go ?_)
      refine AtC.ret ?_
      refine AtE.then_r ?_
      exact AtE.retN (rs := [.tmp 6]) rfl (ResAll.cons (ResAt.tmp rfl) ResAll.nil) rfl H
     ·
      refine AtC.skip ?_
      refine AtE.then_n (AtE.go ?_)
      refine AtC.seq ?_
      refine AtC.seqR ?_
      refine AtL.pures hT 1 _ _ _ _ rfl ?_
      refine AtL.e rfl (Eff.call (f := 20) (sh := fun h => ref01uOf _ h _) (H0 := H) rfl Tryd.call20 rfl (hl := fun w hw => lift_ref01uOf _ w _ hw)) ?_
      rintro _ h0u21 ⟨v_20, rfl, H⟩
      refine AtL.pures hT 2 _ _ _ _ rfl ?_
      refine AtL.nil ?_
      refine AtE.then_n (AtE.go ?_)
      refine AtC.condB H rfl (fun H => ?_) (fun H => ?_)
      ·
       refine AtC.seqR ?_
       refine AtL.pures hT 4 _ _ _ _ rfl ?_
       refine AtL.e rfl (Eff.call (f := 21) (sh := fun h => nat_Bench_Gcd _ _ _ h _) (H0 := H) rfl Tryd.call21 rfl (hl := fun w hw => lift_nat_Bench_Gcd _ _ _ w _ hw)) ?_
       rintro _ h0u22 ⟨v_21, rfl, H⟩
       refine AtL.pures hT 2 _ _ _ _ rfl ?_
       refine AtL.e rfl (Eff.call (f := 17) (sh := fun h => nat_Bench_Add _ _ _ h _) (H0 := H) rfl Tryd.call17 rfl (hl := fun w hw => lift_nat_Bench_Add _ _ _ w _ hw)) ?_
       rintro _ h0u23 ⟨v_22, rfl, H⟩
       refine AtL.e rfl (Eff.callV (f := 16) (sh := fun h => ref01uSame _ _ h _) (H0 := H) rfl rfl Tryd.call16 rfl (hl := fun w hw => lift_ref01uSame _ _ w _ hw)) ?_
       rintro _ h0u24 ⟨v_23, rfl, H⟩
       refine AtL.pures hT 1 _ _ _ _ rfl ?_
       refine AtL.nil ?_
       refine AtE.then_n (AtE.go ?_)
       refine AtC.ret ?_
       refine AtE.then_r ?_
       exact AtE.retN (rs := [.tmp 6]) rfl (ResAll.cons (ResAt.tmp rfl) ResAll.nil) rfl H
      ·
       refine AtC.skip ?_
       refine AtE.then_n (AtE.go ?_)
       refine AtC.seqR ?_
       refine AtL.pures hT 3 _ _ _ _ rfl ?_
       refine AtL.e rfl (Eff.call (f := 22) (sh := fun h => nat_Bench_Div _ _ _ h _) (H0 := H) rfl Tryd.call22 rfl (hl := fun w hw => lift_nat_Bench_Div _ _ _ w _ hw)) ?_
       rintro _ h0u25 ⟨v_24, rfl, H⟩
       refine AtL.pures hT 5 _ _ _ _ rfl ?_
       refine AtL.nil ?_
       refine AtE.then_n (AtE.go ?_)
       refine AtC.seqR ?_
       refine AtL.pures hT 3 _ _ _ _ rfl ?_
       refine AtL.e rfl (Eff.call (f := 21) (sh := fun h => nat_Bench_Gcd _ _ _ h _) (H0 := H) rfl Tryd.call21 rfl (hl := fun w hw => lift_nat_Bench_Gcd _ _ _ w _ hw)) ?_
       rintro _ h0u26 ⟨v_25, rfl, H⟩
       refine AtL.pures hT 1 _ _ _ _ rfl ?_
       refine AtL.nil ?_
       refine AtE.then_n (AtE.go ?_)
       refine AtC.seqR ?_
       refine AtL.pures hT 3 _ _ _ _ rfl ?_
       refine AtL.e rfl (Eff.call (f := 22) (sh := fun h => nat_Bench_Div _ _ _ h _) (H0 := H) rfl Tryd.call22 rfl (hl := fun w hw => lift_nat_Bench_Div _ _ _ w _ hw)) ?_
       rintro _ h0u27 ⟨v_26, rfl, H⟩
       refine AtL.pures hT 5 _ _ _ _ rfl ?_
       refine AtL.nil ?_
       refine AtE.then_n (AtE.go ?_)
       refine AtC.seqR ?_
       refine AtL.pures hT 3 _ _ _ _ rfl ?_
       refine AtL.e rfl (Eff.call (f := 22) (sh := fun h => nat_Bench_Div _ _ _ h _) (H0 := H) rfl Tryd.call22 rfl (hl := fun w hw => lift_nat_Bench_Div _ _ _ w _ hw)) ?_
       rintro _ h0u28 ⟨v_27, rfl, H⟩
       refine AtL.pures hT 5 _ _ _ _ rfl ?_
       refine AtL.nil ?_
       refine AtE.then_n (AtE.go ?_)
       refine AtC.joinSeq (fun (t0u1 : Bool) => [(6, Value.bool t0u1)]) [] H (by exact rfl) (fun t0u1 h0u29 H => ?_) (fun J2 H HK2 => ?_)
       ·
        refine AtC.ret ?_
        exact AtE.retN (rs := [.tmp 6]) rfl (ResAll.cons (ResAt.tmp rfl) ResAll.nil) rfl H
       ·
        refine AtC.region ?_
        refine AtL.pures hT 2 _ _ _ _ rfl ?_
        refine AtL.e rfl (Eff.call (f := 23) (sh := fun h => nat_Cmp _ _ h _) (H0 := H) rfl Tryd.call23 rfl (hl := fun w hw => lift_nat_Cmp _ _ w _ hw)) ?_
        rintro _ h0u30 ⟨v_28, rfl, H⟩
        refine AtL.pures hT 2 _ _ _ _ rfl ?_
        refine AtL.splitB (t := 127) H rfl (fun H => ?_) (fun H => ?_)
        ·
         refine AtL.yes rfl rfl rfl ?_
         refine AtL.pures hT 1 _ _ _ _ rfl ?_
         refine AtL.yes rfl rfl rfl ?_
         refine AtL.pures hT 1 _ _ _ _ rfl ?_
         refine AtL.yes rfl rfl rfl ?_
         refine AtL.pures hT 1 _ _ _ _ rfl ?_
         refine AtL.yes rfl rfl rfl ?_
         refine AtL.pures hT 1 _ _ _ _ rfl ?_
         refine AtL.yes rfl rfl rfl ?_
         refine AtL.pures hT 1 _ _ _ _ rfl ?_
         refine AtL.yes rfl rfl rfl ?_
         refine AtL.e rfl (Eff.call (f := 18) (sh := fun h => nat_Bench_Mul _ _ _ h _) (H0 := H) rfl Tryd.call18 rfl (hl := fun w hw => lift_nat_Bench_Mul _ _ _ w _ hw)) ?_
         rintro _ h0u31 ⟨v_29, rfl, H⟩
         refine AtL.yes rfl rfl rfl ?_
         refine AtL.pures hT 1 _ _ _ _ rfl ?_
         refine AtL.yes rfl rfl rfl ?_
         refine AtL.e rfl (Eff.call (f := 17) (sh := fun h => nat_Bench_Add _ _ _ h _) (H0 := H) rfl Tryd.call17 rfl (hl := fun w hw => lift_nat_Bench_Add _ _ _ w _ hw)) ?_
         rintro _ h0u32 ⟨v_30, rfl, H⟩
         refine AtL.yes rfl rfl rfl ?_
         refine AtL.pures hT 1 _ _ _ _ rfl ?_
         refine AtL.yes rfl rfl rfl ?_
         refine AtL.pures hT 1 _ _ _ _ rfl ?_
         refine AtL.yes rfl rfl rfl ?_
         refine AtL.e rfl (Eff.call (f := 17) (sh := fun h => nat_Bench_Add _ _ _ h _) (H0 := H) rfl Tryd.call17 rfl (hl := fun w hw => lift_nat_Bench_Add _ _ _ w _ hw)) ?_
         rintro _ h0u33 ⟨v_31, rfl, H⟩
         refine AtL.yes rfl rfl rfl ?_
         refine AtL.e rfl (Eff.callV (f := 16) (sh := fun h => ref01uSame _ _ h _) (H0 := H) rfl rfl Tryd.call16 rfl (hl := fun w hw => lift_ref01uSame _ _ w _ hw)) ?_
         rintro _ h0u34 ⟨v_32, rfl, H⟩
         refine AtL.pures hT 2 _ _ _ _ rfl ?_
         refine AtL.splitB (t := 141) H rfl (fun H => ?_) (fun H => ?_)
         ·
          refine AtL.yes rfl rfl rfl ?_
          refine AtL.pures hT 1 _ _ _ _ rfl ?_
          refine AtL.yes rfl rfl rfl ?_
          refine AtL.pures hT 1 _ _ _ _ rfl ?_
          refine AtL.yes rfl rfl rfl ?_
          refine AtL.pures hT 1 _ _ _ _ rfl ?_
          refine AtL.pures hT 2 _ _ _ _ rfl ?_
          refine AtL.splitB (t := 146) H rfl (fun H => ?_) (fun H => ?_)
          ·
           refine AtL.yes rfl rfl rfl ?_
           refine AtL.pures hT 1 _ _ _ _ rfl ?_
           refine AtL.yes rfl rfl rfl ?_
           refine AtL.pures hT 1 _ _ _ _ rfl ?_
           refine AtL.yes rfl rfl rfl ?_
           refine AtL.pures hT 1 _ _ _ _ rfl ?_
           refine AtL.pures hT 2 _ _ _ _ rfl ?_
           refine AtL.splitB (t := 151) H rfl (fun H => ?_) (fun H => ?_)
           ·
            refine AtL.yes rfl rfl rfl ?_
            refine AtL.pures hT 1 _ _ _ _ rfl ?_
            refine AtL.yes rfl rfl rfl ?_
            refine AtL.e rfl (Eff.call (f := 24) (sh := fun h => nat_Bench_Over _ h _) (H0 := H) rfl Tryd.call24 rfl (hl := fun w hw => lift_nat_Bench_Over _ w _ hw)) ?_
            rintro _ h0u35 ⟨v_33, rfl, H⟩
            refine AtL.yes rfl rfl rfl ?_
            refine AtL.pures hT 1 _ _ _ _ rfl ?_
            refine AtL.pures hT 2 _ _ _ _ rfl ?_
            refine AtL.nil ?_
            exact AtE.then_n ((HK2 _ _ H).pick (ts := [6]) rfl)
           ·
            refine AtL.noF rfl rfl rfl (by decide) rfl ?_
            refine AtL.noF rfl rfl rfl (by decide) rfl ?_
            refine AtL.noF rfl rfl rfl (by decide) rfl ?_
            refine AtL.pures hT 2 _ _ _ _ rfl ?_
            refine AtL.nil ?_
            exact AtE.then_n ((HK2 _ _ H).pick (ts := [6]) rfl)
          ·
           refine AtL.noF rfl rfl rfl (by decide) rfl ?_
           refine AtL.noF rfl rfl rfl (by decide) rfl ?_
           refine AtL.noF rfl rfl rfl (by decide) rfl ?_
           refine AtL.pures hT 2 _ _ _ _ rfl ?_
           refine AtL.noF rfl rfl rfl (by decide) rfl ?_
           refine AtL.noF rfl rfl rfl (by decide) rfl ?_
           refine AtL.noF rfl rfl rfl (by decide) rfl ?_
           refine AtL.pures hT 2 _ _ _ _ rfl ?_
           refine AtL.nil ?_
           exact AtE.then_n ((HK2 _ _ H).pick (ts := [6]) rfl)
         ·
          refine AtL.noF rfl rfl rfl (by decide) rfl ?_
          refine AtL.noF rfl rfl rfl (by decide) rfl ?_
          refine AtL.noF rfl rfl rfl (by decide) rfl ?_
          refine AtL.pures hT 2 _ _ _ _ rfl ?_
          refine AtL.noF rfl rfl rfl (by decide) rfl ?_
          refine AtL.noF rfl rfl rfl (by decide) rfl ?_
          refine AtL.noF rfl rfl rfl (by decide) rfl ?_
          refine AtL.pures hT 2 _ _ _ _ rfl ?_
          refine AtL.noF rfl rfl rfl (by decide) rfl ?_
          refine AtL.noF rfl rfl rfl (by decide) rfl ?_
          refine AtL.noF rfl rfl rfl (by decide) rfl ?_
          refine AtL.pures hT 2 _ _ _ _ rfl ?_
          refine AtL.nil ?_
          exact AtE.then_n ((HK2 _ _ H).pick (ts := [6]) rfl)
        ·
         refine AtL.noF rfl rfl rfl (by decide) rfl ?_
         refine AtL.noF rfl rfl rfl (by decide) rfl ?_
         refine AtL.noF rfl rfl rfl (by decide) rfl ?_
         refine AtL.noF rfl rfl rfl (by decide) rfl ?_
         refine AtL.noF rfl rfl rfl (by decide) rfl ?_
         refine AtL.noF rfl rfl rfl (by decide) rfl ?_
         refine AtL.noF rfl rfl rfl (by decide) rfl ?_
         refine AtL.noF rfl rfl rfl (by decide) rfl ?_
         refine AtL.noF rfl rfl rfl (by decide) rfl ?_
         refine AtL.noF rfl rfl rfl (by decide) rfl ?_
         refine AtL.noF rfl rfl rfl (by decide) rfl ?_
         refine AtL.noF rfl rfl rfl (by decide) rfl ?_
         refine AtL.pures hT 2 _ _ _ _ rfl ?_
         refine AtL.noF rfl rfl rfl (by decide) rfl ?_
         refine AtL.noF rfl rfl rfl (by decide) rfl ?_
         refine AtL.noF rfl rfl rfl (by decide) rfl ?_
         refine AtL.pures hT 2 _ _ _ _ rfl ?_
         refine AtL.noF rfl rfl rfl (by decide) rfl ?_
         refine AtL.noF rfl rfl rfl (by decide) rfl ?_
         refine AtL.noF rfl rfl rfl (by decide) rfl ?_
         refine AtL.pures hT 2 _ _ _ _ rfl ?_
         refine AtL.noF rfl rfl rfl (by decide) rfl ?_
         refine AtL.noF rfl rfl rfl (by decide) rfl ?_
         refine AtL.noF rfl rfl rfl (by decide) rfl ?_
         refine AtL.pures hT 2 _ _ _ _ rfl ?_
         refine AtL.nil ?_
         exact AtE.then_n ((HK2 _ _ H).pick (ts := [6]) rfl)
    ·
     refine AtC.region ?_
     refine AtL.pures hT 4 _ _ _ _ rfl ?_
     refine AtL.e rfl (Eff.call (f := 17) (sh := fun h => nat_Bench_Add _ _ _ h _) (H0 := H) rfl Tryd.call17 rfl (hl := fun w hw => lift_nat_Bench_Add _ _ _ w _ hw)) ?_
     rintro _ h0u5 ⟨v_4, rfl, H⟩
     refine AtL.pures hT 3 _ _ _ _ rfl ?_
     refine AtL.e rfl (Eff.call (f := 17) (sh := fun h => nat_Bench_Add _ _ _ h _) (H0 := H) rfl Tryd.call17 rfl (hl := fun w hw => lift_nat_Bench_Add _ _ _ w _ hw)) ?_
     rintro _ h0u6 ⟨v_5, rfl, H⟩
     refine AtL.e rfl (Eff.callV (f := 16) (sh := fun h => ref01uSame _ _ h _) (H0 := H) rfl rfl Tryd.call16 rfl (hl := fun w hw => lift_ref01uSame _ _ w _ hw)) ?_
     rintro _ h0u7 ⟨v_6, rfl, H⟩
     refine AtL.pures hT 2 _ _ _ _ rfl ?_
     refine AtL.splitB (t := 35) H rfl (fun H => ?_) (fun H => ?_)
     ·
      refine AtL.noF rfl rfl rfl (by decide) rfl ?_
      refine AtL.noF rfl rfl rfl (by decide) rfl ?_
      refine AtL.noF rfl rfl rfl (by decide) rfl ?_
      refine AtL.noF rfl rfl rfl (by decide) rfl ?_
      refine AtL.noF rfl rfl rfl (by decide) rfl ?_
      refine AtL.noF rfl rfl rfl (by decide) rfl ?_
      refine AtL.noF rfl rfl rfl (by decide) rfl ?_
      refine AtL.noF rfl rfl rfl (by decide) rfl ?_
      refine AtL.noF rfl rfl rfl (by decide) rfl ?_
      refine AtL.noF rfl rfl rfl (by decide) rfl ?_
      refine AtL.noF rfl rfl rfl (by decide) rfl ?_
      refine AtL.pures hT 2 _ _ _ _ rfl ?_
      refine AtL.noF rfl rfl rfl (by decide) rfl ?_
      refine AtL.noF rfl rfl rfl (by decide) rfl ?_
      refine AtL.noF rfl rfl rfl (by decide) rfl ?_
      refine AtL.noF rfl rfl rfl (by decide) rfl ?_
      refine AtL.noF rfl rfl rfl (by decide) rfl ?_
      refine AtL.noF rfl rfl rfl (by decide) rfl ?_
      refine AtL.noF rfl rfl rfl (by decide) rfl ?_
      refine AtL.noF rfl rfl rfl (by decide) rfl ?_
      refine AtL.noF rfl rfl rfl (by decide) rfl ?_
      refine AtL.noF rfl rfl rfl (by decide) rfl ?_
      refine AtL.noF rfl rfl rfl (by decide) rfl ?_
      refine AtL.noF rfl rfl rfl (by decide) rfl ?_
      refine AtL.noF rfl rfl rfl (by decide) rfl ?_
      refine AtL.noF rfl rfl rfl (by decide) rfl ?_
      refine AtL.noF rfl rfl rfl (by decide) rfl ?_
      refine AtL.noF rfl rfl rfl (by decide) rfl ?_
      refine AtL.noF rfl rfl rfl (by decide) rfl ?_
      refine AtL.noF rfl rfl rfl (by decide) rfl ?_
      refine AtL.noF rfl rfl rfl (by decide) rfl ?_
      refine AtL.noF rfl rfl rfl (by decide) rfl ?_
      refine AtL.pures hT 2 _ _ _ _ rfl ?_
      refine AtL.noF rfl rfl rfl (by decide) rfl ?_
      refine AtL.noF rfl rfl rfl (by decide) rfl ?_
      refine AtL.noF rfl rfl rfl (by decide) rfl ?_
      refine AtL.noF rfl rfl rfl (by decide) rfl ?_
      refine AtL.noF rfl rfl rfl (by decide) rfl ?_
      refine AtL.noF rfl rfl rfl (by decide) rfl ?_
      refine AtL.noF rfl rfl rfl (by decide) rfl ?_
      refine AtL.noF rfl rfl rfl (by decide) rfl ?_
      refine AtL.noF rfl rfl rfl (by decide) rfl ?_
      refine AtL.noF rfl rfl rfl (by decide) rfl ?_
      refine AtL.noF rfl rfl rfl (by decide) rfl ?_
      refine AtL.noF rfl rfl rfl (by decide) rfl ?_
      refine AtL.noF rfl rfl rfl (by decide) rfl ?_
      refine AtL.pures hT 1 _ _ _ _ rfl ?_
      refine AtL.nil ?_
      exact AtE.then_n ((HK1 _ _ H).pick (ts := [84, 0, 1, 7, 8]) rfl)
     ·
      refine AtL.yes rfl rfl rfl ?_
      refine AtL.pures hT 1 _ _ _ _ rfl ?_
      refine AtL.yes rfl rfl rfl ?_
      refine AtL.pures hT 1 _ _ _ _ rfl ?_
      refine AtL.yes rfl rfl rfl ?_
      refine AtL.pures hT 1 _ _ _ _ rfl ?_
      refine AtL.yes rfl rfl rfl ?_
      refine AtL.pures hT 1 _ _ _ _ rfl ?_
      refine AtL.yes rfl rfl rfl ?_
      refine AtL.e rfl (Eff.call (f := 18) (sh := fun h => nat_Bench_Mul _ _ _ h _) (H0 := H) rfl Tryd.call18 rfl (hl := fun w hw => lift_nat_Bench_Mul _ _ _ w _ hw)) ?_
      rintro _ h0u8 ⟨v_7, rfl, H⟩
      refine AtL.yes rfl rfl rfl ?_
      refine AtL.pures hT 1 _ _ _ _ rfl ?_
      refine AtL.yes rfl rfl rfl ?_
      refine AtL.pures hT 1 _ _ _ _ rfl ?_
      refine AtL.yes rfl rfl rfl ?_
      refine AtL.pures hT 1 _ _ _ _ rfl ?_
      refine AtL.yes rfl rfl rfl ?_
      refine AtL.e rfl (Eff.call (f := 18) (sh := fun h => nat_Bench_Mul _ _ _ h _) (H0 := H) rfl Tryd.call18 rfl (hl := fun w hw => lift_nat_Bench_Mul _ _ _ w _ hw)) ?_
      rintro _ h0u9 ⟨v_8, rfl, H⟩
      refine AtL.yes rfl rfl rfl ?_
      refine AtL.e rfl (Eff.callV (f := 16) (sh := fun h => ref01uSame _ _ h _) (H0 := H) rfl rfl Tryd.call16 rfl (hl := fun w hw => lift_ref01uSame _ _ w _ hw)) ?_
      rintro _ h0u10 ⟨v_9, rfl, H⟩
      refine AtL.yes rfl rfl rfl ?_
      refine AtL.pures hT 1 _ _ _ _ rfl ?_
      refine AtL.pures hT 2 _ _ _ _ rfl ?_
      refine AtL.splitB (t := 48) H rfl (fun H => ?_) (fun H => ?_)
      ·
       refine AtL.noF rfl rfl rfl (by decide) rfl ?_
       refine AtL.noF rfl rfl rfl (by decide) rfl ?_
       refine AtL.noF rfl rfl rfl (by decide) rfl ?_
       refine AtL.noF rfl rfl rfl (by decide) rfl ?_
       refine AtL.noF rfl rfl rfl (by decide) rfl ?_
       refine AtL.noF rfl rfl rfl (by decide) rfl ?_
       refine AtL.noF rfl rfl rfl (by decide) rfl ?_
       refine AtL.noF rfl rfl rfl (by decide) rfl ?_
       refine AtL.noF rfl rfl rfl (by decide) rfl ?_
       refine AtL.noF rfl rfl rfl (by decide) rfl ?_
       refine AtL.noF rfl rfl rfl (by decide) rfl ?_
       refine AtL.noF rfl rfl rfl (by decide) rfl ?_
       refine AtL.noF rfl rfl rfl (by decide) rfl ?_
       refine AtL.noF rfl rfl rfl (by decide) rfl ?_
       refine AtL.noF rfl rfl rfl (by decide) rfl ?_
       refine AtL.noF rfl rfl rfl (by decide) rfl ?_
       refine AtL.noF rfl rfl rfl (by decide) rfl ?_
       refine AtL.noF rfl rfl rfl (by decide) rfl ?_
       refine AtL.noF rfl rfl rfl (by decide) rfl ?_
       refine AtL.noF rfl rfl rfl (by decide) rfl ?_
       refine AtL.pures hT 2 _ _ _ _ rfl ?_
       refine AtL.noF rfl rfl rfl (by decide) rfl ?_
       refine AtL.noF rfl rfl rfl (by decide) rfl ?_
       refine AtL.noF rfl rfl rfl (by decide) rfl ?_
       refine AtL.noF rfl rfl rfl (by decide) rfl ?_
       refine AtL.noF rfl rfl rfl (by decide) rfl ?_
       refine AtL.noF rfl rfl rfl (by decide) rfl ?_
       refine AtL.noF rfl rfl rfl (by decide) rfl ?_
       refine AtL.noF rfl rfl rfl (by decide) rfl ?_
       refine AtL.noF rfl rfl rfl (by decide) rfl ?_
       refine AtL.noF rfl rfl rfl (by decide) rfl ?_
       refine AtL.noF rfl rfl rfl (by decide) rfl ?_
       refine AtL.noF rfl rfl rfl (by decide) rfl ?_
       refine AtL.noF rfl rfl rfl (by decide) rfl ?_
       refine AtL.pures hT 1 _ _ _ _ rfl ?_
       refine AtL.nil ?_
       exact AtE.then_n ((HK1 _ _ H).pick (ts := [84, 0, 1, 7, 8]) rfl)
      ·
       refine AtL.yes rfl rfl rfl ?_
       refine AtL.pures hT 1 _ _ _ _ rfl ?_
       refine AtL.yes rfl rfl rfl ?_
       refine AtL.pures hT 1 _ _ _ _ rfl ?_
       refine AtL.yes rfl rfl rfl ?_
       refine AtL.pures hT 1 _ _ _ _ rfl ?_
       refine AtL.yes rfl rfl rfl ?_
       refine AtL.pures hT 1 _ _ _ _ rfl ?_
       refine AtL.yes rfl rfl rfl ?_
       refine AtL.pures hT 1 _ _ _ _ rfl ?_
       refine AtL.yes rfl rfl rfl ?_
       refine AtL.pures hT 1 _ _ _ _ rfl ?_
       refine AtL.yes rfl rfl rfl ?_
       refine AtL.e rfl (Eff.call (f := 17) (sh := fun h => nat_Bench_Add _ _ _ h _) (H0 := H) rfl Tryd.call17 rfl (hl := fun w hw => lift_nat_Bench_Add _ _ _ w _ hw)) ?_
       rintro _ h0u11 ⟨v_10, rfl, H⟩
       refine AtL.yes rfl rfl rfl ?_
       refine AtL.e rfl (Eff.call (f := 18) (sh := fun h => nat_Bench_Mul _ _ _ h _) (H0 := H) rfl Tryd.call18 rfl (hl := fun w hw => lift_nat_Bench_Mul _ _ _ w _ hw)) ?_
       rintro _ h0u12 ⟨v_11, rfl, H⟩
       refine AtL.yes rfl rfl rfl ?_
       refine AtL.pures hT 1 _ _ _ _ rfl ?_
       refine AtL.yes rfl rfl rfl ?_
       refine AtL.pures hT 1 _ _ _ _ rfl ?_
       refine AtL.yes rfl rfl rfl ?_
       refine AtL.pures hT 1 _ _ _ _ rfl ?_
       refine AtL.yes rfl rfl rfl ?_
       refine AtL.pures hT 1 _ _ _ _ rfl ?_
       refine AtL.yes rfl rfl rfl ?_
       refine AtL.e rfl (Eff.call (f := 18) (sh := fun h => nat_Bench_Mul _ _ _ h _) (H0 := H) rfl Tryd.call18 rfl (hl := fun w hw => lift_nat_Bench_Mul _ _ _ w _ hw)) ?_
       rintro _ h0u13 ⟨v_12, rfl, H⟩
       refine AtL.yes rfl rfl rfl ?_
       refine AtL.pures hT 1 _ _ _ _ rfl ?_
       refine AtL.yes rfl rfl rfl ?_
       refine AtL.pures hT 1 _ _ _ _ rfl ?_
       refine AtL.yes rfl rfl rfl ?_
       refine AtL.pures hT 1 _ _ _ _ rfl ?_
       refine AtL.yes rfl rfl rfl ?_
       refine AtL.e rfl (Eff.call (f := 18) (sh := fun h => nat_Bench_Mul _ _ _ h _) (H0 := H) rfl Tryd.call18 rfl (hl := fun w hw => lift_nat_Bench_Mul _ _ _ w _ hw)) ?_
       rintro _ h0u14 ⟨v_13, rfl, H⟩
       refine AtL.yes rfl rfl rfl ?_
       refine AtL.e rfl (Eff.call (f := 17) (sh := fun h => nat_Bench_Add _ _ _ h _) (H0 := H) rfl Tryd.call17 rfl (hl := fun w hw => lift_nat_Bench_Add _ _ _ w _ hw)) ?_
       rintro _ h0u15 ⟨v_14, rfl, H⟩
       refine AtL.yes rfl rfl rfl ?_
       refine AtL.e rfl (Eff.callV (f := 16) (sh := fun h => ref01uSame _ _ h _) (H0 := H) rfl rfl Tryd.call16 rfl (hl := fun w hw => lift_ref01uSame _ _ w _ hw)) ?_
       rintro _ h0u16 ⟨v_15, rfl, H⟩
       refine AtL.yes rfl rfl rfl ?_
       refine AtL.pures hT 1 _ _ _ _ rfl ?_
       refine AtL.pures hT 2 _ _ _ _ rfl ?_
       refine AtL.splitB (t := 70) H rfl (fun H => ?_) (fun H => ?_)
       ·
        refine AtL.noF rfl rfl rfl (by decide) rfl ?_
        refine AtL.noF rfl rfl rfl (by decide) rfl ?_
        refine AtL.noF rfl rfl rfl (by decide) rfl ?_
        refine AtL.noF rfl rfl rfl (by decide) rfl ?_
        refine AtL.noF rfl rfl rfl (by decide) rfl ?_
        refine AtL.noF rfl rfl rfl (by decide) rfl ?_
        refine AtL.noF rfl rfl rfl (by decide) rfl ?_
        refine AtL.noF rfl rfl rfl (by decide) rfl ?_
        refine AtL.noF rfl rfl rfl (by decide) rfl ?_
        refine AtL.noF rfl rfl rfl (by decide) rfl ?_
        refine AtL.noF rfl rfl rfl (by decide) rfl ?_
        refine AtL.noF rfl rfl rfl (by decide) rfl ?_
        refine AtL.noF rfl rfl rfl (by decide) rfl ?_
        refine AtL.pures hT 1 _ _ _ _ rfl ?_
        refine AtL.nil ?_
        exact AtE.then_n ((HK1 _ _ H).pick (ts := [84, 0, 1, 7, 8]) rfl)
       ·
        refine AtL.yes rfl rfl rfl ?_
        refine AtL.pures hT 1 _ _ _ _ rfl ?_
        refine AtL.yes rfl rfl rfl ?_
        refine AtL.pures hT 1 _ _ _ _ rfl ?_
        refine AtL.yes rfl rfl rfl ?_
        refine AtL.pures hT 1 _ _ _ _ rfl ?_
        refine AtL.yes rfl rfl rfl ?_
        refine AtL.pures hT 1 _ _ _ _ rfl ?_
        refine AtL.yes rfl rfl rfl ?_
        refine AtL.pures hT 1 _ _ _ _ rfl ?_
        refine AtL.yes rfl rfl rfl ?_
        refine AtL.e rfl (Eff.call (f := 17) (sh := fun h => nat_Bench_Add _ _ _ h _) (H0 := H) rfl Tryd.call17 rfl (hl := fun w hw => lift_nat_Bench_Add _ _ _ w _ hw)) ?_
        rintro _ h0u17 ⟨v_16, rfl, H⟩
        refine AtL.yes rfl rfl rfl ?_
        refine AtL.pures hT 1 _ _ _ _ rfl ?_
        refine AtL.yes rfl rfl rfl ?_
        refine AtL.e rfl (Eff.call (f := 19) (sh := fun h => nat_Bench_Sub _ _ _ h _) (H0 := H) rfl Tryd.call19 rfl (hl := fun w hw => lift_nat_Bench_Sub _ _ _ w _ hw)) ?_
        rintro _ h0u18 ⟨v_17, rfl, H⟩
        refine AtL.yes rfl rfl rfl ?_
        refine AtL.pures hT 1 _ _ _ _ rfl ?_
        refine AtL.yes rfl rfl rfl ?_
        refine AtL.pures hT 1 _ _ _ _ rfl ?_
        refine AtL.yes rfl rfl rfl ?_
        refine AtL.e rfl (Eff.call (f := 17) (sh := fun h => nat_Bench_Add _ _ _ h _) (H0 := H) rfl Tryd.call17 rfl (hl := fun w hw => lift_nat_Bench_Add _ _ _ w _ hw)) ?_
        rintro _ h0u19 ⟨v_18, rfl, H⟩
        refine AtL.yes rfl rfl rfl ?_
        refine AtL.e rfl (Eff.callV (f := 16) (sh := fun h => ref01uSame _ _ h _) (H0 := H) rfl rfl Tryd.call16 rfl (hl := fun w hw => lift_ref01uSame _ _ w _ hw)) ?_
        rintro _ h0u20 ⟨v_19, rfl, H⟩
        refine AtL.yes rfl rfl rfl ?_
        refine AtL.pures hT 1 _ _ _ _ rfl ?_
        refine AtL.pures hT 1 _ _ _ _ rfl ?_
        refine AtL.nil ?_
        exact AtE.then_n ((HK1 _ _ H).pick (ts := [84, 0, 1, 7, 8]) rfl)
end Go.Proofs.YtdcdidecehbplaaDoor

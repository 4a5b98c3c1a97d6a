/- The deep code does what the functions of the shallow text say: printed by lift.py. -/
import Derived.Test.YtdcdidecehbplaaProg
import Derived.Test.YtdcdidecehbplaaANSh
set_option linter.unusedVariables false
set_option linter.unusedSimpArgs false
namespace Go.Proofs.Ytdcdidecehbplaa
open Go Go.Lift Go.Sh
set_option maxRecDepth 100000
attribute [local irreducible] Calls AtL AtC AtE AtD Eff Quiet1 Stg qAt QAll eAt EAll nextK Code.wp

def T : TTab := [(3, .int .i64, 1, 8, [Value.int .i64 0]), (4, .bool, 1, 1, [Value.bool false]), (5, .int .u8, 1, 1, [Value.int .u8 0]), (9, .string, 1, 16, [Value.string (ByteArray.mk #[])]), (23, .slice 33, 1, 24, [Sl.toV Sl.nil]), (27, .slice 3, 1, 24, [Sl.toV Sl.nil]), (33, .int .u32, 1, 4, [Value.int .u32 0]), (42, .int .u64, 1, 8, [Value.int .u64 0]), (43, .slice 23, 1, 24, [Sl.toV Sl.nil]), (45, .struct #[⟨ "limbs", 3, 0, false, "", "steelyard/nat", 0⟩, ⟨ "over", 4, 1, false, "", "steelyard/nat", 8⟩], 2, 16, [Value.int .i64 0, Value.bool false]), (47, .slice 5, 1, 24, [Sl.toV Sl.nil]), (56, .array 2 23, 2, 48, [Sl.toV Sl.nil, Sl.toV Sl.nil])]
theorem hT : TTab.Ok Try.prog T := TTab.ok_cons (by kernel_rfl) (by kernel_rfl) (TTab.ok_cons (by kernel_rfl) (by kernel_rfl) (TTab.ok_cons (by kernel_rfl) (by kernel_rfl) (TTab.ok_cons (by kernel_rfl) (by kernel_rfl) (TTab.ok_cons (by kernel_rfl) (by kernel_rfl) (TTab.ok_cons (by kernel_rfl) (by kernel_rfl) (TTab.ok_cons (by kernel_rfl) (by kernel_rfl) (TTab.ok_cons (by kernel_rfl) (by kernel_rfl) (TTab.ok_cons (by kernel_rfl) (by kernel_rfl) (TTab.ok_cons (by kernel_rfl) (by kernel_rfl) (TTab.ok_cons (by kernel_rfl) (by kernel_rfl) (TTab.ok_cons (by kernel_rfl) (by kernel_rfl) (TTab.ok_nil _))))))))))))
theorem hmix : Try.prog.follows .mixedOrders = true := by kernel_rfl

theorem lift_nat_New (limbs : Int) (w : World) (S : ((Option Addr)) → Heap → Prop) (H : nat_New limbs w.heap S) :
    Calls Try.prog 6 #[Value.int .i64 limbs] w (Post w Value.pointer S) := by
  refine Calls.lift (args := [Value.int .i64 limbs]) Try.func6 rfl Try.ntmps6 (Nat.le_of_ble_eq_true rfl) (fun h => nat_New limbs h S) H (fun h H => ?_)
  refine AtC.pick (ts := [0]) rfl ?_
  unfold nat_New at H
  refine AtC.seqR ?_
  refine AtL.pures hT 1 _ _ _ _ rfl ?_
  refine AtL.nil ?_
  refine AtE.then_n (AtE.go ?_)
  refine AtC.seqR ?_
  refine AtL.pures hT 2 _ _ _ _ rfl ?_
  refine AtL.q rfl (Quiet1.build (cs := [_, _]) hT rfl rfl rfl rfl rfl rfl) ?_
  refine AtL.e rfl (Eff.box (cs := [_, _]) rfl rfl rfl H) ?_
  rintro _ h0 ⟨a, rfl, H⟩
  refine AtL.pures hT 1 _ _ _ _ rfl ?_
  refine AtL.nil ?_
  refine AtE.then_n (AtE.go ?_)
  refine AtC.ret ?_
  exact AtE.retN (rs := [.tmp 2]) rfl (ResAll.cons (ResAt.tmp rfl) ResAll.nil) rfl H

theorem lift_nat_trim (x0 : Sl) (w : World) (S : Sl → Heap → Prop) (H : nat_trim x0 w.heap S) :
    Calls Try.prog 18 #[Sl.toV x0] w (Post w Sl.toV S) := by
  refine Calls.lift (args := [Sl.toV x0]) Try.func18 rfl Try.ntmps18 (Nat.le_of_ble_eq_true rfl) (fun h => nat_trim x0 h S) H (fun h H => ?_)
  refine AtC.pick (ts := [0]) rfl ?_
  unfold nat_trim at H
  refine AtC.seqR ?_
  refine AtL.pures hT 1 _ _ _ _ rfl ?_
  refine AtL.nil ?_
  refine AtE.then_n (AtE.go ?_)
  refine AtC.seq ?_
  refine AtC.block ?_
  refine AtC.loopM (fun (s0 : Sl) => [(0, Sl.toV s0)]) [] [0] H (by exact rfl) (by exact rfl) (fun Kp1 s0 h0 H Q1 HK1 => ?_)
  refine AtC.seq ?_
  refine AtC.joinSeq (fun (t0 : Bool) => [(14, Value.bool t0)]) [0] H (by exact rfl) (fun t0 h0u1 H => ?_) (fun J2 H HK2 => ?_)
  ·
   refine AtC.condB H rfl (fun H => ?_) (fun H => ?_)
   ·
    refine AtC.skip ?_
    refine AtE.then_n (AtE.go ?_)
    refine AtC.block ?_
    refine AtC.region ?_
    refine AtL.pures hT 4 _ _ _ _ rfl ?_
    refine AtL.sl (hT := hT) H rfl rfl rfl rfl rfl rfl rfl (fun h => by cases h <;> rfl) rfl (fun v_1 H => ?_)
    refine AtL.pures hT 1 _ _ _ _ rfl ?_
    refine AtL.nil ?_
    refine AtE.blk_n ?_
    exact AtE.then_n ((HK1 _ _ H).pick (ts := [0]) rfl)
   ·
    refine AtC.exit ?_
    refine AtE.then_x ?_
    refine AtE.then_x ?_
    refine AtE.blk_hit ?_
    refine AtE.then_n (AtE.go ?_)
    refine AtC.seqR ?_
    refine AtL.pures hT 2 _ _ _ _ rfl ?_
    refine AtL.nil ?_
    refine AtE.then_n (AtE.go ?_)
    refine AtC.ret ?_
    exact AtE.retN (rs := [.tmp 2]) rfl (ResAll.cons (ResAt.tmp rfl) ResAll.nil) rfl H
  ·
   refine AtC.region ?_
   refine AtL.pures hT 4 _ _ _ _ rfl ?_
   refine AtL.splitB (t := 6) H rfl (fun H => ?_) (fun H => ?_)
   ·
    refine AtL.yes rfl rfl rfl ?_
    refine AtL.pures hT 1 _ _ _ _ rfl ?_
    refine AtL.yes rfl rfl rfl ?_
    refine AtL.pures hT 1 _ _ _ _ rfl ?_
    refine AtL.yes rfl rfl rfl ?_
    refine AtL.pures hT 1 _ _ _ _ rfl ?_
    refine AtL.yes rfl rfl rfl ?_
    refine AtL.pures hT 1 _ _ _ _ rfl ?_
    refine AtL.yes rfl rfl rfl ?_
    obtain ⟨a_, hc2, hd2, H⟩ := H
    refine AtL.q rfl (Quiet1.idxS (s := _) hT rfl rfl rfl rfl rfl hc2 hd2) ?_
    refine AtL.yes rfl rfl rfl ?_
    obtain ⟨v, hc3, H⟩ := H
    refine AtL.q rfl (Quiet1.load hT rfl rfl rfl hc3) ?_
    refine AtL.yes rfl rfl rfl ?_
    refine AtL.pures hT 1 _ _ _ _ rfl ?_
    refine AtL.pures hT 1 _ _ _ _ rfl ?_
    refine AtL.nil ?_
    exact AtE.then_n ((HK2 _ _ H).pick (ts := [14, 0]) rfl)
   ·
    refine AtL.noF rfl rfl rfl (by decide) rfl ?_
    refine AtL.noF rfl rfl rfl (by decide) rfl ?_
    refine AtL.noF rfl rfl rfl (by decide) rfl ?_
    refine AtL.noF rfl rfl rfl (by decide) rfl ?_
    refine AtL.noF rfl rfl rfl (by decide) rfl ?_
    refine AtL.noF rfl rfl rfl (by decide) rfl ?_
    refine AtL.noF rfl rfl rfl (by decide) rfl ?_
    refine AtL.pures hT 1 _ _ _ _ rfl ?_
    refine AtL.nil ?_
    exact AtE.then_n ((HK2 _ _ H).pick (ts := [14, 0]) rfl)

theorem lift_nat_times (x0 : Sl) (y : Sl) (w : World) (S : Sl → Heap → Prop) (H : nat_times x0 y w.heap S) :
    Calls Try.prog 23 #[Sl.toV x0, Sl.toV y] w (Post w Sl.toV S) := by
  refine Calls.lift (args := [Sl.toV x0, Sl.toV y]) Try.func23 rfl Try.ntmps23 (Nat.le_of_ble_eq_true rfl) (fun h => nat_times x0 y h S) H (fun h H => ?_)
  refine AtC.pick (ts := [0, 1]) rfl ?_
  unfold nat_times at H
  refine AtC.seqR ?_
  refine AtL.pures hT 1 _ _ _ _ rfl ?_
  refine AtL.nil ?_
  refine AtE.then_n (AtE.go ?_)
  refine AtC.seqR ?_
  refine AtL.pures hT 5 _ _ _ _ rfl ?_
  replace H := H _ rfl
  refine AtL.e rfl (Eff.mkS hT rfl rfl rfl rfl rfl rfl rfl rfl (by decide) H) ?_
  rintro _ h0 ⟨v, rfl, H⟩
  refine AtL.pures hT 1 _ _ _ _ rfl ?_
  refine AtL.nil ?_
  refine AtE.then_n (AtE.go ?_)
  refine AtC.seq ?_
  refine AtC.seqR ?_
  refine AtL.pures hT 3 _ _ _ _ rfl ?_
  refine AtL.nil ?_
  refine AtE.then_n (AtE.go ?_)
  refine AtC.block ?_
  refine AtC.loopM (fun (s0 : Int) => [(19, Value.int .i64 s0)]) [1, 5, 17, 18] [19, 1, 5, 17, 18] H (by exact rfl) (by exact rfl) (fun Kp1 s0 h0u1 H Q1 HK1 => ?_)
  refine AtC.seqR ?_
  refine AtL.pures hT 1 _ _ _ _ rfl ?_
  refine AtL.nil ?_
  refine AtE.then_n (AtE.go ?_)
  refine AtC.seq ?_
  refine AtC.condB H rfl (fun H => ?_) (fun H => ?_)
  ·
   refine AtC.skip ?_
   refine AtE.then_n (AtE.go ?_)
   refine AtC.seq ?_
   refine AtC.block ?_
   refine AtC.seqR ?_
   refine AtL.pures hT 1 _ _ _ _ rfl ?_
   obtain ⟨a_, hc1, hd1, H⟩ := H
   refine AtL.q rfl (Quiet1.idxS (s := _) hT rfl rfl rfl rfl rfl hc1 hd1) ?_
   obtain ⟨v_1, hc2, H⟩ := H
   refine AtL.q rfl (Quiet1.load hT rfl rfl rfl hc2) ?_
   refine AtL.pures hT 2 _ _ _ _ rfl ?_
   refine AtL.nil ?_
   refine AtE.then_n (AtE.go ?_)
   refine AtC.seqR ?_
   refine AtL.pures hT 1 _ _ _ _ rfl ?_
   refine AtL.nil ?_
   refine AtE.then_n (AtE.go ?_)
   refine AtC.seq ?_
   refine AtC.seqR ?_
   refine AtL.pures hT 3 _ _ _ _ rfl ?_
   refine AtL.nil ?_
   refine AtE.then_n (AtE.go ?_)
   refine AtC.block ?_
   refine AtC.loopM (fun (s0u1 : Int × Int) => [(8, Value.int .u64 s0u1.1), (26, Value.int .i64 s0u1.2)]) [1, 5, 6, 7, 17, 18, 19, 24, 25] [8, 26, 1, 5, 6, 7, 17, 18, 19, 24, 25] H (by exact rfl) (by exact rfl) (fun Kp4 s0u1 h0u2 H Q4 HK4 => ?_)
   refine AtC.seqR ?_
   refine AtL.pures hT 1 _ _ _ _ rfl ?_
   refine AtL.nil ?_
   refine AtE.then_n (AtE.go ?_)
   refine AtC.seq ?_
   refine AtC.condB H rfl (fun H => ?_) (fun H => ?_)
   ·
    refine AtC.skip ?_
    refine AtE.then_n (AtE.go ?_)
    refine AtC.seq ?_
    refine AtC.block ?_
    refine AtC.seqR ?_
    refine AtL.pures hT 1 _ _ _ _ rfl ?_
    obtain ⟨a_1_, hc4, hd4, H⟩ := H
    refine AtL.q rfl (Quiet1.idxS (s := _) hT rfl rfl rfl rfl rfl hc4 hd4) ?_
    obtain ⟨v_2, hc5, H⟩ := H
    refine AtL.q rfl (Quiet1.load hT rfl rfl rfl hc5) ?_
    refine AtL.pures hT 2 _ _ _ _ rfl ?_
    refine AtL.nil ?_
    refine AtE.then_n (AtE.go ?_)
    refine AtC.seqR ?_
    refine AtL.pures hT 10 _ _ _ _ rfl ?_
    obtain ⟨a_2_, hc6, hd6, H⟩ := H
    refine AtL.q rfl (Quiet1.idxS (s := _) hT rfl rfl rfl rfl rfl hc6 hd6) ?_
    obtain ⟨v_3, hc7, H⟩ := H
    refine AtL.q rfl (Quiet1.load hT rfl rfl rfl hc7) ?_
    refine AtL.pures hT 4 _ _ _ _ rfl ?_
    replace H := H _ rfl
    refine AtL.nil ?_
    refine AtE.then_n (AtE.go ?_)
    refine AtC.seqR ?_
    refine AtL.pures hT 6 _ _ _ _ rfl ?_
    obtain ⟨a_3_, hc8, hd8, H⟩ := H
    refine AtL.q rfl (Quiet1.idxS (s := _) hT rfl rfl rfl rfl rfl hc8 hd8) ?_
    refine AtL.e rfl (Eff.store hT rfl rfl rfl rfl rfl H) ?_
    rintro _ h0u3 H
    refine AtL.nil ?_
    refine AtE.then_n (AtE.go ?_)
    refine AtC.region ?_
    refine AtL.pures hT 3 _ _ _ _ rfl ?_
    replace H := H _ rfl
    refine AtL.nil ?_
    refine AtE.blk_n ?_
    refine AtE.then_n (AtE.go ?_)
    refine AtC.region ?_
    refine AtL.pures hT 2 _ _ _ _ rfl ?_
    refine AtL.nil ?_
    exact AtE.then_n ((HK4 _ _ H).pick (ts := [8, 26, 1, 5, 6, 7, 17, 18, 19, 24, 25]) rfl)
   ·
    refine AtC.exit ?_
    refine AtE.then_x ?_
    refine AtE.then_x ?_
    refine AtE.blk_hit ?_
    refine AtE.then_n (AtE.go ?_)
    refine AtC.region ?_
    refine AtL.pures hT 7 _ _ _ _ rfl ?_
    obtain ⟨a_4_, hc9, hd9, H⟩ := H
    refine AtL.q rfl (Quiet1.idxS (s := _) hT rfl rfl rfl rfl rfl hc9 hd9) ?_
    refine AtL.e rfl (Eff.store hT rfl rfl rfl rfl rfl H) ?_
    rintro _ h0u4 H
    refine AtL.nil ?_
    refine AtE.blk_n ?_
    refine AtE.then_n (AtE.go ?_)
    refine AtC.region ?_
    refine AtL.pures hT 2 _ _ _ _ rfl ?_
    refine AtL.nil ?_
    exact AtE.then_n ((HK1 _ _ H).pick (ts := [19, 1, 5, 17, 18]) rfl)
  ·
   refine AtC.exit ?_
   refine AtE.then_x ?_
   refine AtE.then_x ?_
   refine AtE.blk_hit ?_
   refine AtE.then_n (AtE.go ?_)
   refine AtC.seqR ?_
   refine AtL.pures hT 2 _ _ _ _ rfl ?_
   refine AtL.nil ?_
   refine AtE.then_n (AtE.go ?_)
   refine AtC.ret ?_
   exact AtE.retN (rs := [.tmp 4]) rfl (ResAll.cons (ResAt.tmp rfl) ResAll.nil) rfl H

theorem lift_slices_Clone_api_Nat_uint32 (s0 : Sl) (w : World) (S : Sl → Heap → Prop) (H : slices_Clone_api_Nat_uint32 s0 w.heap S) :
    Calls Try.prog 28 #[Sl.toV s0] w (Post w Sl.toV S) := by
  refine Calls.lift (args := [Sl.toV s0]) Try.func28 rfl Try.ntmps28 (Nat.le_of_ble_eq_true rfl) (fun h => slices_Clone_api_Nat_uint32 s0 h S) H (fun h H => ?_)
  refine AtC.pick (ts := [0]) rfl ?_
  unfold slices_Clone_api_Nat_uint32 at H
  refine AtC.seqR ?_
  refine AtL.pures hT 1 _ _ _ _ rfl ?_
  refine AtL.nil ?_
  refine AtE.then_n (AtE.go ?_)
  refine AtC.seq ?_
  refine AtC.seqR ?_
  refine AtL.pures hT 1 _ _ _ _ rfl ?_
  refine AtL.q rfl (Quiet1.eqNilS hT rfl rfl rfl rfl) ?_
  refine AtL.nil ?_
  refine AtE.then_n (AtE.go ?_)
  refine AtC.condB H rfl (fun H => ?_) (fun H => ?_)
  ·
   refine AtC.seqR ?_
   refine AtL.pures hT 1 _ _ _ _ rfl ?_
   refine AtL.nil ?_
   refine AtE.then_n (AtE.go ?_)
   refine AtC.ret ?_
   refine AtE.then_r ?_
   exact AtE.retN (rs := [.tmp 2]) rfl (ResAll.cons (ResAt.tmp rfl) ResAll.nil) rfl H
  ·
   refine AtC.skip ?_
   refine AtE.then_n (AtE.go ?_)
   refine AtC.seqR ?_
   refine AtL.bs (hT := hT) (cs := []) H rfl rfl rfl rfl rfl rfl rfl rfl rfl (fun a h0 H => ?_)
   refine AtL.pures hT 1 _ _ _ _ rfl ?_
   refine AtL.e rfl (Eff.appendS (s := _) (u := _) hT rfl rfl rfl rfl rfl rfl rfl rfl rfl rfl (by decide) H) ?_
   rintro _ h0u1 ⟨v_1, rfl, H⟩
   refine AtL.pures hT 1 _ _ _ _ rfl ?_
   refine AtL.nil ?_
   refine AtE.then_n (AtE.go ?_)
   refine AtC.ret ?_
   exact AtE.retN (rs := [.tmp 2]) rfl (ResAll.cons (ResAt.tmp rfl) ResAll.nil) rfl H

theorem lift_nat_Bench_fit (b : (Option Addr)) (x0 : Sl) (w : World) (S : Sl → Heap → Prop) (H : nat_Bench_fit b x0 w.heap S) :
    Calls Try.prog 22 #[Value.pointer b, Sl.toV x0] w (Post w Sl.toV S) := by
  refine Calls.lift (args := [Value.pointer b, Sl.toV x0]) Try.func22 rfl Try.ntmps22 (Nat.le_of_ble_eq_true rfl) (fun h => nat_Bench_fit b x0 h S) H (fun h H => ?_)
  refine AtC.pick (ts := [0, 1]) rfl ?_
  unfold nat_Bench_fit at H
  refine AtC.seqR ?_
  refine AtL.pures hT 1 _ _ _ _ rfl ?_
  refine AtL.nil ?_
  refine AtE.then_n (AtE.go ?_)
  refine AtC.seqR ?_
  refine AtL.pures hT 1 _ _ _ _ rfl ?_
  refine AtL.e rfl (Eff.call (f := 18) (sh := fun h => nat_trim _ h _) (H0 := H) rfl Try.call18 rfl (hl := fun w hw => lift_nat_trim _ w _ hw)) ?_
  rintro _ h0 ⟨v, rfl, H⟩
  refine AtL.pures hT 1 _ _ _ _ rfl ?_
  refine AtL.nil ?_
  refine AtE.then_n (AtE.go ?_)
  refine AtC.joinSeq (fun (t0 : Unit) => []) [0, 1] H (by exact rfl) (fun t0 h0u1 H => ?_) (fun J1 H HK1 => ?_)
  ·
   refine AtC.seq ?_
   refine AtC.seqR ?_
   refine AtL.pures hT 1 _ _ _ _ rfl ?_
   obtain ⟨a_4, hc7, H⟩ := H
   refine AtL.q rfl (Quiet1.nilChk rfl rfl hc7) ?_
   refine AtL.pures hT 1 _ _ _ _ rfl ?_
   obtain ⟨v_3, hc8, H⟩ := H
   refine AtL.q rfl (Quiet1.load hT rfl rfl rfl hc8) ?_
   refine AtL.nil ?_
   refine AtE.then_n (AtE.go ?_)
   refine AtC.condB H rfl (fun H => ?_) (fun H => ?_)
   ·
    refine AtC.seqR ?_
    refine AtL.pures hT 1 _ _ _ _ rfl ?_
    refine AtL.nil ?_
    refine AtE.then_n (AtE.go ?_)
    refine AtC.ret ?_
    refine AtE.then_r ?_
    exact AtE.retN (rs := [.tmp 4]) rfl (ResAll.cons (ResAt.tmp rfl) ResAll.nil) rfl H
   ·
    refine AtC.skip ?_
    refine AtE.then_n (AtE.go ?_)
    refine AtC.seqR ?_
    refine AtL.pures hT 1 _ _ _ _ rfl ?_
    refine AtL.e rfl (Eff.call (f := 28) (sh := fun h => slices_Clone_api_Nat_uint32 _ h _) (H0 := H) rfl Try.call28 rfl (hl := fun w hw => lift_slices_Clone_api_Nat_uint32 _ w _ hw)) ?_
    rintro _ h0u4 ⟨v_4, rfl, H⟩
    refine AtL.pures hT 1 _ _ _ _ rfl ?_
    refine AtL.nil ?_
    refine AtE.then_n (AtE.go ?_)
    refine AtC.ret ?_
    exact AtE.retN (rs := [.tmp 4]) rfl (ResAll.cons (ResAt.tmp rfl) ResAll.nil) rfl H
  ·
   refine AtC.region ?_
   refine AtL.pures hT 2 _ _ _ _ rfl ?_
   obtain ⟨a, hc1, H⟩ := H
   refine AtL.q rfl (Quiet1.nilChk rfl rfl hc1) ?_
   refine AtL.pures hT 1 _ _ _ _ rfl ?_
   obtain ⟨v_1, hc2, H⟩ := H
   refine AtL.q rfl (Quiet1.load hT rfl rfl rfl hc2) ?_
   refine AtL.pures hT 1 _ _ _ _ rfl ?_
   refine AtL.splitB (t := 12) H rfl (fun H => ?_) (fun H => ?_)
   ·
    refine AtL.noF rfl rfl rfl (by decide) rfl ?_
    refine AtL.noF rfl rfl rfl (by decide) rfl ?_
    refine AtL.noF rfl rfl rfl (by decide) rfl ?_
    refine AtL.noF rfl rfl rfl (by decide) rfl ?_
    refine AtL.noF rfl rfl rfl (by decide) rfl ?_
    refine AtL.noF rfl rfl rfl (by decide) rfl ?_
    refine AtL.noF rfl rfl rfl (by decide) rfl ?_
    refine AtL.pures hT 1 _ _ _ _ rfl ?_
    obtain ⟨a_1, hc3, H⟩ := H
    refine AtL.q rfl (Quiet1.nilChk rfl rfl hc3) ?_
    refine AtL.pures hT 1 _ _ _ _ rfl ?_
    refine AtL.e rfl (Eff.store hT rfl rfl rfl rfl rfl H) ?_
    rintro _ h0u2 H
    refine AtL.nil ?_
    exact AtE.then_n ((HK1 _ _ H).pick (ts := [0, 1]) rfl)
   ·
    refine AtL.yes rfl rfl rfl ?_
    refine AtL.pures hT 1 _ _ _ _ rfl ?_
    refine AtL.yes rfl rfl rfl ?_
    refine AtL.pures hT 1 _ _ _ _ rfl ?_
    refine AtL.yes rfl rfl rfl ?_
    refine AtL.pures hT 1 _ _ _ _ rfl ?_
    refine AtL.yes rfl rfl rfl ?_
    obtain ⟨a_2, hc4, H⟩ := H
    refine AtL.q rfl (Quiet1.nilChk rfl rfl hc4) ?_
    refine AtL.yes rfl rfl rfl ?_
    refine AtL.pures hT 1 _ _ _ _ rfl ?_
    refine AtL.yes rfl rfl rfl ?_
    obtain ⟨v_2, hc5, H⟩ := H
    refine AtL.q rfl (Quiet1.load hT rfl rfl rfl hc5) ?_
    refine AtL.yes rfl rfl rfl ?_
    refine AtL.pures hT 1 _ _ _ _ rfl ?_
    refine AtL.pures hT 1 _ _ _ _ rfl ?_
    obtain ⟨a_3, hc6, H⟩ := H
    refine AtL.q rfl (Quiet1.nilChk rfl rfl hc6) ?_
    refine AtL.pures hT 1 _ _ _ _ rfl ?_
    refine AtL.e rfl (Eff.store hT rfl rfl rfl rfl rfl H) ?_
    rintro _ h0u3 H
    refine AtL.nil ?_
    exact AtE.then_n ((HK1 _ _ H).pick (ts := [0, 1]) rfl)

theorem lift_nat_Bench_Mul (b : (Option Addr)) (x0 : Sl) (y : Sl) (w : World) (S : Sl → Heap → Prop) (H : nat_Bench_Mul b x0 y w.heap S) :
    Calls Try.prog 15 #[Value.pointer b, Sl.toV x0, Sl.toV y] w (Post w Sl.toV S) := by
  refine Calls.lift (args := [Value.pointer b, Sl.toV x0, Sl.toV y]) Try.func15 rfl Try.ntmps15 (Nat.le_of_ble_eq_true rfl) (fun h => nat_Bench_Mul b x0 y h S) H (fun h H => ?_)
  refine AtC.pick (ts := [0, 1, 2]) rfl ?_
  unfold nat_Bench_Mul at H
  refine AtC.seqR ?_
  refine AtL.pures hT 1 _ _ _ _ rfl ?_
  refine AtL.nil ?_
  refine AtE.then_n (AtE.go ?_)
  refine AtC.seqR ?_
  refine AtL.pures hT 2 _ _ _ _ rfl ?_
  refine AtL.e rfl (Eff.call (f := 18) (sh := fun h => nat_trim _ h _) (H0 := H) rfl Try.call18 rfl (hl := fun w hw => lift_nat_trim _ w _ hw)) ?_
  rintro _ h0 ⟨v, rfl, H⟩
  refine AtL.pures hT 1 _ _ _ _ rfl ?_
  refine AtL.e rfl (Eff.call (f := 18) (sh := fun h => nat_trim _ h _) (H0 := H) rfl Try.call18 rfl (hl := fun w hw => lift_nat_trim _ w _ hw)) ?_
  rintro _ h0u1 ⟨v_1, rfl, H⟩
  refine AtL.e rfl (Eff.call (f := 23) (sh := fun h => nat_times _ _ h _) (H0 := H) rfl Try.call23 rfl (hl := fun w hw => lift_nat_times _ _ w _ hw)) ?_
  rintro _ h0u2 ⟨v_2, rfl, H⟩
  refine AtL.e rfl (Eff.call (f := 22) (sh := fun h => nat_Bench_fit _ _ h _) (H0 := H) rfl Try.call22 rfl (hl := fun w hw => lift_nat_Bench_fit _ _ w _ hw)) ?_
  rintro _ h0u3 ⟨v_3, rfl, H⟩
  refine AtL.pures hT 1 _ _ _ _ rfl ?_
  refine AtL.nil ?_
  refine AtE.then_n (AtE.go ?_)
  refine AtC.ret ?_
  exact AtE.retN (rs := [.tmp 6]) rfl (ResAll.cons (ResAt.tmp rfl) ResAll.nil) rfl H

theorem lift_nat_Bench_Over (b : (Option Addr)) (w : World) (S : Bool → Heap → Prop) (H : nat_Bench_Over b w.heap S) :
    Calls Try.prog 9 #[Value.pointer b] w (Post w Value.bool S) := by
  refine Calls.lift (args := [Value.pointer b]) Try.func9 rfl Try.ntmps9 (Nat.le_of_ble_eq_true rfl) (fun h => nat_Bench_Over b h S) H (fun h H => ?_)
  refine AtC.pick (ts := [0]) rfl ?_
  unfold nat_Bench_Over at H
  refine AtC.seqR ?_
  refine AtL.pures hT 1 _ _ _ _ rfl ?_
  refine AtL.nil ?_
  refine AtE.then_n (AtE.go ?_)
  refine AtC.seqR ?_
  refine AtL.pures hT 1 _ _ _ _ rfl ?_
  obtain ⟨a, hc0, H⟩ := H
  refine AtL.q rfl (Quiet1.nilChk rfl rfl hc0) ?_
  refine AtL.pures hT 1 _ _ _ _ rfl ?_
  obtain ⟨v, hc1, H⟩ := H
  refine AtL.q rfl (Quiet1.load hT rfl rfl rfl hc1) ?_
  refine AtL.pures hT 1 _ _ _ _ rfl ?_
  refine AtL.nil ?_
  refine AtE.then_n (AtE.go ?_)
  refine AtC.ret ?_
  exact AtE.retN (rs := [.tmp 2]) rfl (ResAll.cons (ResAt.tmp rfl) ResAll.nil) rfl H

theorem lift_nat_Of (n : Int) (w : World) (S : Sl → Heap → Prop) (H : nat_Of n w.heap S) :
    Calls Try.prog 16 #[Value.int .u64 n] w (Post w Sl.toV S) := by
  refine Calls.lift (args := [Value.int .u64 n]) Try.func16 rfl Try.ntmps16 (Nat.le_of_ble_eq_true rfl) (fun h => nat_Of n h S) H (fun h H => ?_)
  refine AtC.pick (ts := [0]) rfl ?_
  unfold nat_Of at H
  refine AtC.seqR ?_
  refine AtL.pures hT 1 _ _ _ _ rfl ?_
  refine AtL.nil ?_
  refine AtE.then_n (AtE.go ?_)
  refine AtC.seqR ?_
  refine AtL.pures hT 5 _ _ _ _ rfl ?_
  refine AtL.bs (hT := hT) (cs := [_, _]) H rfl rfl rfl rfl rfl rfl rfl rfl rfl (fun a h0 H => ?_)
  refine AtL.e rfl (Eff.call (f := 18) (sh := fun h => nat_trim _ h _) (H0 := H) rfl Try.call18 rfl (hl := fun w hw => lift_nat_trim _ w _ hw)) ?_
  rintro _ h0u1 ⟨v_1, rfl, H⟩
  refine AtL.pures hT 1 _ _ _ _ rfl ?_
  refine AtL.nil ?_
  refine AtE.then_n (AtE.go ?_)
  refine AtC.ret ?_
  exact AtE.retN (rs := [.tmp 2]) rfl (ResAll.cons (ResAt.tmp rfl) ResAll.nil) rfl H

theorem lift_nat_small (x0 : Sl) (w : World) (S : (Int × Bool) → Heap → Prop) (H : nat_small x0 w.heap S) :
    Calls Try.prog 20 #[Sl.toV x0] w (Post w (fun r => Value.tuple #[(Value.int .u64) r.1, Value.bool r.2]) S) := by
  refine Calls.lift (args := [Sl.toV x0]) Try.func20 rfl Try.ntmps20 (Nat.le_of_ble_eq_true rfl) (fun h => nat_small x0 h S) H (fun h H => ?_)
  refine AtC.pick (ts := [0]) rfl ?_
  unfold nat_small at H
  refine AtC.seqR ?_
  refine AtL.pures hT 2 _ _ _ _ rfl ?_
  refine AtL.nil ?_
  refine AtE.then_n (AtE.go ?_)
  refine AtC.seqR ?_
  refine AtL.pures hT 1 _ _ _ _ rfl ?_
  refine AtL.e rfl (Eff.call (f := 18) (sh := fun h => nat_trim _ h _) (H0 := H) rfl Try.call18 rfl (hl := fun w hw => lift_nat_trim _ w _ hw)) ?_
  rintro _ h0 ⟨v, rfl, H⟩
  refine AtL.pures hT 1 _ _ _ _ rfl ?_
  refine AtL.nil ?_
  refine AtE.then_n (AtE.go ?_)
  refine AtC.seq ?_
  refine AtC.seqR ?_
  refine AtL.pures hT 4 _ _ _ _ rfl ?_
  replace H := H _ rfl
  refine AtL.nil ?_
  refine AtE.then_n (AtE.go ?_)
  refine AtC.block ?_
  refine AtC.loopM (fun (s0 : Int × Int) => [(2, Value.int .u64 s0.1), (4, Value.int .i64 s0.2)]) [0] [2, 4, 0] H (by exact rfl) (by exact rfl) (fun Kp1 s0 h0u1 H Q1 HK1 => ?_)
  refine AtC.seq ?_
  refine AtC.seqR ?_
  refine AtL.pures hT 2 _ _ _ _ rfl ?_
  refine AtL.nil ?_
  refine AtE.then_n (AtE.go ?_)
  refine AtC.condB H rfl (fun H => ?_) (fun H => ?_)
  ·
   refine AtC.skip ?_
   refine AtE.then_n (AtE.go ?_)
   refine AtC.seq ?_
   refine AtC.block ?_
   refine AtC.region ?_
   refine AtL.pures hT 4 _ _ _ _ rfl ?_
   obtain ⟨a_, hc1, hd1, H⟩ := H
   refine AtL.q rfl (Quiet1.idxS (s := _) hT rfl rfl rfl rfl rfl hc1 hd1) ?_
   obtain ⟨v_1, hc2, H⟩ := H
   refine AtL.q rfl (Quiet1.load hT rfl rfl rfl hc2) ?_
   refine AtL.pures hT 3 _ _ _ _ rfl ?_
   replace H := H _ rfl
   refine AtL.nil ?_
   refine AtE.blk_n ?_
   refine AtE.then_n (AtE.go ?_)
   refine AtC.region ?_
   refine AtL.pures hT 3 _ _ _ _ rfl ?_
   replace H := H _ rfl
   refine AtL.nil ?_
   exact AtE.then_n ((HK1 _ _ H).pick (ts := [2, 4, 0]) rfl)
  ·
   refine AtC.exit ?_
   refine AtE.then_x ?_
   refine AtE.then_x ?_
   refine AtE.blk_hit ?_
   refine AtE.then_n (AtE.go ?_)
   refine AtC.seqR ?_
   refine AtL.pures hT 6 _ _ _ _ rfl ?_
   replace H := H _ rfl
   refine AtL.nil ?_
   refine AtE.then_n (AtE.go ?_)
   refine AtC.ret ?_
   exact AtE.retN (rs := [.tmp 2, .tmp 3]) rfl (ResAll.cons (ResAt.tmp rfl) (ResAll.cons (ResAt.tmp rfl) ResAll.nil)) rfl H

theorem lift_nat_plus (x0 : Sl) (y : Sl) (w : World) (S : Sl → Heap → Prop) (H : nat_plus x0 y w.heap S) :
    Calls Try.prog 24 #[Sl.toV x0, Sl.toV y] w (Post w Sl.toV S) := by
  refine Calls.lift (args := [Sl.toV x0, Sl.toV y]) Try.func24 rfl Try.ntmps24 (Nat.le_of_ble_eq_true rfl) (fun h => nat_plus x0 y h S) H (fun h H => ?_)
  refine AtC.pick (ts := [0, 1]) rfl ?_
  unfold nat_plus at H
  refine AtC.seqR ?_
  refine AtL.pures hT 1 _ _ _ _ rfl ?_
  refine AtL.nil ?_
  refine AtE.then_n (AtE.go ?_)
  refine AtC.seqR ?_
  refine AtL.pures hT 1 _ _ _ _ rfl ?_
  refine AtL.nil ?_
  refine AtE.then_n (AtE.go ?_)
  refine AtC.seq ?_
  refine AtC.seqR ?_
  refine AtL.pures hT 6 _ _ _ _ rfl ?_
  refine AtL.nil ?_
  refine AtE.then_n (AtE.go ?_)
  refine AtC.block ?_
  refine AtC.loopM (fun (s0 : Sl × Int × Int) => [(4, Sl.toV s0.1), (5, Value.int .u64 s0.2.1), (14, Value.int .i64 s0.2.2)]) [0, 1, 13] [4, 5, 14, 0, 1, 13] H (by exact rfl) (by exact rfl) (fun Kp1 s0 h0 H Q1 HK1 => ?_)
  refine AtC.seqR ?_
  refine AtL.pures hT 1 _ _ _ _ rfl ?_
  refine AtL.nil ?_
  refine AtE.then_n (AtE.go ?_)
  refine AtC.seq ?_
  refine AtC.condB H rfl (fun H => ?_) (fun H => ?_)
  ·
   refine AtC.skip ?_
   refine AtE.then_n (AtE.go ?_)
   refine AtC.seq ?_
   refine AtC.block ?_
   refine AtC.seqR ?_
   refine AtL.pures hT 2 _ _ _ _ rfl ?_
   refine AtL.nil ?_
   refine AtE.then_n (AtE.go ?_)
   refine AtC.seq ?_
   refine AtC.seqR ?_
   refine AtL.pures hT 2 _ _ _ _ rfl ?_
   refine AtL.q rfl (Quiet1.buildA (cs := [_, _]) hT rfl rfl rfl rfl rfl rfl) ?_
   refine AtL.pures hT 1 _ _ _ _ rfl ?_
   refine AtL.nil ?_
   refine AtE.then_n (AtE.go ?_)
   refine AtC.block ?_
   refine AtC.loopM (fun (s0u1 : Int × Int) => [(5, Value.int .u64 s0u1.1), (20, Value.int .i64 s0u1.2)]) [0, 1, 4, 6, 13, 14, 19] [5, 20, 0, 1, 4, 6, 13, 14, 19] H (by exact rfl) (by exact rfl) (fun Kp2 s0u1 h0u1 H Q2 HK2 => ?_)
   refine AtC.seqR ?_
   refine AtL.pures hT 1 _ _ _ _ rfl ?_
   refine AtL.nil ?_
   refine AtE.then_n (AtE.go ?_)
   refine AtC.seq ?_
   refine AtC.condB H rfl (fun H => ?_) (fun H => ?_)
   ·
    refine AtC.skip ?_
    refine AtE.then_n (AtE.go ?_)
    refine AtC.joinSeq (fun (t0 : Int) => [(5, Value.int .u64 t0)]) [0, 1, 4, 6, 13, 14, 19, 20] H (by exact rfl) (fun t0 h0u2 H => ?_) (fun J3 H HK3 => ?_)
    ·
     refine AtC.region ?_
     refine AtL.pures hT 2 _ _ _ _ rfl ?_
     refine AtL.nil ?_
     exact AtE.then_n ((HK2 _ _ H).pick (ts := [5, 20, 0, 1, 4, 6, 13, 14, 19]) rfl)
    ·
     refine AtC.block ?_
     refine AtC.seqR ?_
     obtain ⟨hd3, v, hc3, H⟩ := H
     refine AtL.q rfl (Quiet1.idxV hT rfl rfl rfl rfl rfl rfl hd3 hc3) ?_
     refine AtL.pures hT 1 _ _ _ _ rfl ?_
     refine AtL.nil ?_
     refine AtE.then_n (AtE.go ?_)
     refine AtC.seqR ?_
     refine AtL.pures hT 4 _ _ _ _ rfl ?_
     refine AtL.nil ?_
     refine AtE.then_n (AtE.go ?_)
     refine AtC.condB H rfl (fun H => ?_) (fun H => ?_)
     ·
      refine AtC.region ?_
      refine AtL.pures hT 3 _ _ _ _ rfl ?_
      obtain ⟨a_, hc4, hd4, H⟩ := H
      refine AtL.q rfl (Quiet1.idxS (s := _) hT rfl rfl rfl rfl rfl hc4 hd4) ?_
      obtain ⟨v_1, hc5, H⟩ := H
      refine AtL.q rfl (Quiet1.load hT rfl rfl rfl hc5) ?_
      refine AtL.pures hT 3 _ _ _ _ rfl ?_
      replace H := H _ rfl
      refine AtL.nil ?_
      refine AtE.blk_n ?_
      exact AtE.then_n ((HK3 _ _ H).pick (ts := [5, 0, 1, 4, 6, 13, 14, 19, 20]) rfl)
     ·
      refine AtC.skip ?_
      refine AtE.blk_n ?_
      exact AtE.then_n ((HK3 _ _ H).pick (ts := [5, 0, 1, 4, 6, 13, 14, 19, 20]) rfl)
   ·
    refine AtC.exit ?_
    refine AtE.then_x ?_
    refine AtE.then_x ?_
    refine AtE.blk_hit ?_
    refine AtE.then_n (AtE.go ?_)
    refine AtC.seqR ?_
    refine AtL.pures hT 3 _ _ _ _ rfl ?_
    refine AtL.bs (hT := hT) (cs := [_]) H rfl rfl rfl rfl rfl rfl rfl rfl rfl (fun a_1 h0u3 H => ?_)
    refine AtL.e rfl (Eff.appendS (s := _) (u := _) hT rfl rfl rfl rfl rfl rfl rfl rfl rfl rfl (by decide) H) ?_
    rintro _ h0u4 ⟨v_3, rfl, H⟩
    refine AtL.pures hT 1 _ _ _ _ rfl ?_
    refine AtL.nil ?_
    refine AtE.then_n (AtE.go ?_)
    refine AtC.region ?_
    refine AtL.pures hT 3 _ _ _ _ rfl ?_
    replace H := H _ rfl
    refine AtL.nil ?_
    refine AtE.blk_n ?_
    refine AtE.then_n (AtE.go ?_)
    refine AtC.region ?_
    refine AtL.pures hT 2 _ _ _ _ rfl ?_
    refine AtL.nil ?_
    exact AtE.then_n ((HK1 _ _ H).pick (ts := [4, 5, 14, 0, 1, 13]) rfl)
  ·
   refine AtC.exit ?_
   refine AtE.then_x ?_
   refine AtE.then_x ?_
   refine AtE.blk_hit ?_
   refine AtE.then_n (AtE.go ?_)
   refine AtC.seqR ?_
   refine AtL.pures hT 3 _ _ _ _ rfl ?_
   refine AtL.bs (hT := hT) (cs := [_]) H rfl rfl rfl rfl rfl rfl rfl rfl rfl (fun a_2 h0u5 H => ?_)
   refine AtL.e rfl (Eff.appendS (s := _) (u := _) hT rfl rfl rfl rfl rfl rfl rfl rfl rfl rfl (by decide) H) ?_
   rintro _ h0u6 ⟨v_5, rfl, H⟩
   refine AtL.pures hT 1 _ _ _ _ rfl ?_
   refine AtL.nil ?_
   refine AtE.then_n (AtE.go ?_)
   refine AtC.ret ?_
   exact AtE.retN (rs := [.tmp 4]) rfl (ResAll.cons (ResAt.tmp rfl) ResAll.nil) rfl H

theorem lift_nat_bit (x0 : Sl) (at0 : Int) (w : World) (S : Int → Heap → Prop) (H : nat_bit x0 at0 w.heap S) :
    Calls Try.prog 25 #[Sl.toV x0, Value.int .i64 at0] w (Post w (Value.int .u32) S) := by
  refine Calls.lift (args := [Sl.toV x0, Value.int .i64 at0]) Try.func25 rfl Try.ntmps25 (Nat.le_of_ble_eq_true rfl) (fun h => nat_bit x0 at0 h S) H (fun h H => ?_)
  refine AtC.pick (ts := [0, 1]) rfl ?_
  unfold nat_bit at H
  refine AtC.seqR ?_
  refine AtL.pures hT 1 _ _ _ _ rfl ?_
  refine AtL.nil ?_
  refine AtE.then_n (AtE.go ?_)
  refine AtC.seqR ?_
  refine AtL.pures hT 3 _ _ _ _ rfl ?_
  obtain ⟨a_, hc0, hd0, H⟩ := H
  refine AtL.q rfl (Quiet1.idxS (s := _) hT rfl rfl rfl rfl rfl hc0 hd0) ?_
  obtain ⟨v, hc1, H⟩ := H
  refine AtL.q rfl (Quiet1.load hT rfl rfl rfl hc1) ?_
  refine AtL.pures hT 2 _ _ _ _ rfl ?_
  obtain ⟨hd2, H⟩ := H
  refine AtL.q rfl (Quiet1.shr rfl rfl rfl hd2) ?_
  refine AtL.pures hT 2 _ _ _ _ rfl ?_
  refine AtL.nil ?_
  refine AtE.then_n (AtE.go ?_)
  refine AtC.ret ?_
  exact AtE.retN (rs := [.tmp 4]) rfl (ResAll.cons (ResAt.tmp rfl) ResAll.nil) rfl H

theorem lift_nat_sign (n : Int) (w : World) (S : Int → Heap → Prop) (H : nat_sign n w.heap S) :
    Calls Try.prog 29 #[Value.int .i64 n] w (Post w (Value.int .i64) S) := by
  refine Calls.lift (args := [Value.int .i64 n]) Try.func29 rfl Try.ntmps29 (Nat.le_of_ble_eq_true rfl) (fun h => nat_sign n h S) H (fun h H => ?_)
  refine AtC.pick (ts := [0]) rfl ?_
  unfold nat_sign at H
  refine AtC.seqR ?_
  refine AtL.pures hT 1 _ _ _ _ rfl ?_
  refine AtL.nil ?_
  refine AtE.then_n (AtE.go ?_)
  refine AtC.seqR ?_
  refine AtL.pures hT 4 _ _ _ _ rfl ?_
  refine AtL.nil ?_
  refine AtE.then_n (AtE.go ?_)
  refine AtC.ret ?_
  exact AtE.retN (rs := [.tmp 2]) rfl (ResAll.cons (ResAt.tmp rfl) ResAll.nil) rfl H

theorem lift_nat_Cmp (x0 : Sl) (y : Sl) (w : World) (S : Int → Heap → Prop) (H : nat_Cmp x0 y w.heap S) :
    Calls Try.prog 26 #[Sl.toV x0, Sl.toV y] w (Post w (Value.int .i64) S) := by
  refine Calls.lift (args := [Sl.toV x0, Sl.toV y]) Try.func26 rfl Try.ntmps26 (Nat.le_of_ble_eq_true rfl) (fun h => nat_Cmp x0 y h S) H (fun h H => ?_)
  refine AtC.pick (ts := [0, 1]) rfl ?_
  unfold nat_Cmp at H
  refine AtC.seqR ?_
  refine AtL.pures hT 1 _ _ _ _ rfl ?_
  refine AtL.nil ?_
  refine AtE.then_n (AtE.go ?_)
  refine AtC.seqR ?_
  refine AtL.pures hT 1 _ _ _ _ rfl ?_
  refine AtL.e rfl (Eff.call (f := 18) (sh := fun h => nat_trim _ h _) (H0 := H) rfl Try.call18 rfl (hl := fun w hw => lift_nat_trim _ w _ hw)) ?_
  rintro _ h0 ⟨v, rfl, H⟩
  refine AtL.pures hT 1 _ _ _ _ rfl ?_
  refine AtL.e rfl (Eff.call (f := 18) (sh := fun h => nat_trim _ h _) (H0 := H) rfl Try.call18 rfl (hl := fun w hw => lift_nat_trim _ w _ hw)) ?_
  rintro _ h0u1 ⟨v_1, rfl, H⟩
  refine AtL.pures hT 2 _ _ _ _ rfl ?_
  refine AtL.nil ?_
  refine AtE.then_n (AtE.go ?_)
  refine AtC.seq ?_
  refine AtC.seqR ?_
  refine AtL.pures hT 5 _ _ _ _ rfl ?_
  refine AtL.nil ?_
  refine AtE.then_n (AtE.go ?_)
  refine AtC.condB H rfl (fun H => ?_) (fun H => ?_)
  ·
   refine AtC.seqR ?_
   refine AtL.pures hT 5 _ _ _ _ rfl ?_
   refine AtL.e rfl (Eff.call (f := 29) (sh := fun h => nat_sign _ h _) (H0 := H) rfl Try.call29 rfl (hl := fun w hw => lift_nat_sign _ w _ hw)) ?_
   rintro _ h0u2 ⟨v_2, rfl, H⟩
   refine AtL.pures hT 1 _ _ _ _ rfl ?_
   refine AtL.nil ?_
   refine AtE.then_n (AtE.go ?_)
   refine AtC.ret ?_
   refine AtE.then_r ?_
   exact AtE.retN (rs := [.tmp 4]) rfl (ResAll.cons (ResAt.tmp rfl) ResAll.nil) rfl H
  ·
   refine AtC.skip ?_
   refine AtE.then_n (AtE.go ?_)
   refine AtC.seq ?_
   refine AtC.seqR ?_
   refine AtL.pures hT 4 _ _ _ _ rfl ?_
   replace H := H _ rfl
   refine AtL.nil ?_
   refine AtE.then_n (AtE.go ?_)
   refine AtC.block ?_
   refine AtC.loopM (fun (s0 : Int) => [(5, Value.int .i64 s0)]) [0, 1] [5, 0, 1] H (by exact rfl) (by exact rfl) (fun Kp1 s0 h0u3 H Q1 HK1 => ?_)
   refine AtC.seq ?_
   refine AtC.seqR ?_
   refine AtL.pures hT 2 _ _ _ _ rfl ?_
   refine AtL.nil ?_
   refine AtE.then_n (AtE.go ?_)
   refine AtC.condB H rfl (fun H => ?_) (fun H => ?_)
   ·
    refine AtC.skip ?_
    refine AtE.then_n (AtE.go ?_)
    refine AtC.seq ?_
    refine AtC.block ?_
    refine AtC.seqD hmix (by kernel_rfl) ?_
    refine AtD.pures hT 2 _ _ _ _ rfl ?_
    obtain ⟨a_, hc1, hd1, H⟩ := H
    refine AtD.q rfl (Quiet1.idxS (s := _) hT rfl rfl rfl rfl rfl hc1 hd1) ?_
    obtain ⟨v_3, hc2, H⟩ := H
    refine AtD.q rfl (Quiet1.load hT rfl rfl rfl hc2) ?_
    refine AtD.pures hT 2 _ _ _ _ rfl ?_
    obtain ⟨a_1_, hc3, hd3, H⟩ := H
    refine AtD.q rfl (Quiet1.idxS (s := _) hT rfl rfl rfl rfl rfl hc3 hd3) ?_
    obtain ⟨v_4, hc4, H⟩ := H
    refine AtD.q rfl (Quiet1.load hT rfl rfl rfl hc4) ?_
    refine AtD.pures hT 1 _ _ _ _ rfl ?_
    refine AtD.nil ?_
    refine AtE.then_n (AtE.go ?_)
    refine AtC.condB H rfl (fun H => ?_) (fun H => ?_)
    ·
     obtain ⟨a_2_, hc5, hd5, H⟩ := H
     obtain ⟨v_5, hc6, H⟩ := H
     obtain ⟨a_3_, hc7, hd7, H⟩ := H
     obtain ⟨v_6, hc8, H⟩ := H
     apply AtC.seqS [11] [[], [], [], [], [], [], [], [], [], [], [], [], [11]] [[], [], [0, 1], [0, 1, 2], [0, 1, 2, 3], [], [], [5, 6], [5, 6, 7], [5, 6, 7, 8], [0, 1, 2, 3, 4, 5, 6, 7, 8, 9], [0, 1, 2, 3, 4, 5, 6, 7, 8, 9, 10], [0, 1, 2, 3, 4, 5, 6, 7, 8, 9, 10, 11]] hmix (by kernel_rfl) [(37, _), (38, _), (39, _), (40, _), (41, _), (42, _), (43, _), (44, _), (45, _), (46, _), (47, _)] rfl 1 rfl
     refine Stg.go [0, 1, 2, 3, 4, 5, 6, 7, 8, 9, 10] [11] rfl rfl (QAll.cons (QOp.p hT rfl rfl rfl rfl rfl) (QAll.cons (QOp.p hT rfl rfl rfl rfl rfl) (QAll.cons (QOp.q rfl rfl (Quiet1.idxS (s := _) hT rfl rfl rfl rfl rfl hc5 hd5) rfl rfl) (QAll.cons (QOp.q rfl rfl (Quiet1.load hT rfl rfl rfl hc6) rfl rfl) (QAll.cons (QOp.p hT rfl rfl rfl rfl rfl) (QAll.cons (QOp.p hT rfl rfl rfl rfl rfl) (QAll.cons (QOp.p hT rfl rfl rfl rfl rfl) (QAll.cons (QOp.q rfl rfl (Quiet1.idxS (s := _) hT rfl rfl rfl rfl rfl hc7 hd7) rfl rfl) (QAll.cons (QOp.q rfl rfl (Quiet1.load hT rfl rfl rfl hc8) rfl rfl) (QAll.cons (QOp.p hT rfl rfl rfl rfl rfl) (QAll.cons (QOp.p hT rfl rfl rfl rfl rfl) QAll.nil))))))))))) ?_
     refine EAll.cons ?_ EAll.nil
     refine EOp.e rfl rfl rfl (Eff.call (f := 29) (sh := fun h => nat_sign _ h _) (H0 := H) rfl Try.call29 rfl (hl := fun w hw => lift_nat_sign _ w _ hw)) ?_
     rintro _ h0u4 ⟨v_7, rfl, H⟩
     apply Stg.next [(48, _), (4, _)] rfl rfl
     refine Stg.fin [12] rfl rfl (QAll.cons (QOp.p hT rfl rfl rfl rfl rfl) QAll.nil) ?_
     refine AtE.then_n (AtE.go ?_)
     refine AtC.ret ?_
     refine AtE.blk_r ?_
     refine AtE.then_r ?_
     refine AtE.then_r ?_
     refine AtE.blk_r ?_
     refine AtE.then_r ?_
     exact AtE.retN (rs := [.tmp 4]) rfl (ResAll.cons (ResAt.tmp rfl) ResAll.nil) rfl H
    ·
     refine AtC.skip ?_
     refine AtE.blk_n ?_
     refine AtE.then_n (AtE.go ?_)
     refine AtC.region ?_
     refine AtL.pures hT 3 _ _ _ _ rfl ?_
     replace H := H _ rfl
     refine AtL.nil ?_
     exact AtE.then_n ((HK1 _ _ H).pick (ts := [5, 0, 1]) rfl)
   ·
    refine AtC.exit ?_
    refine AtE.then_x ?_
    refine AtE.then_x ?_
    refine AtE.blk_hit ?_
    refine AtE.then_n (AtE.go ?_)
    refine AtC.seqR ?_
    refine AtL.pures hT 1 _ _ _ _ rfl ?_
    refine AtL.nil ?_
    refine AtE.then_n (AtE.go ?_)
    refine AtC.ret ?_
    exact AtE.retN (rs := [.tmp 4]) rfl (ResAll.cons (ResAt.tmp rfl) ResAll.nil) rfl H

theorem lift_nat_minus (x0 : Sl) (y : Sl) (w : World) (S : Sl → Heap → Prop) (H : nat_minus x0 y w.heap S) :
    Calls Try.prog 27 #[Sl.toV x0, Sl.toV y] w (Post w Sl.toV S) := by
  refine Calls.lift (args := [Sl.toV x0, Sl.toV y]) Try.func27 rfl Try.ntmps27 (Nat.le_of_ble_eq_true rfl) (fun h => nat_minus x0 y h S) H (fun h H => ?_)
  refine AtC.pick (ts := [0, 1]) rfl ?_
  unfold nat_minus at H
  refine AtC.seqR ?_
  refine AtL.pures hT 1 _ _ _ _ rfl ?_
  refine AtL.nil ?_
  refine AtE.then_n (AtE.go ?_)
  refine AtC.seqR ?_
  refine AtL.pures hT 1 _ _ _ _ rfl ?_
  refine AtL.nil ?_
  refine AtE.then_n (AtE.go ?_)
  refine AtC.seq ?_
  refine AtC.seqR ?_
  refine AtL.pures hT 3 _ _ _ _ rfl ?_
  refine AtL.nil ?_
  refine AtE.then_n (AtE.go ?_)
  refine AtC.block ?_
  refine AtC.loopM (fun (s0 : Sl × Int × Int) => [(4, Sl.toV s0.1), (5, Value.int .u64 s0.2.1), (11, Value.int .i64 s0.2.2)]) [1, 9, 10] [4, 5, 11, 1, 9, 10] H (by exact rfl) (by exact rfl) (fun Kp1 s0 h0 H Q1 HK1 => ?_)
  refine AtC.seqR ?_
  refine AtL.pures hT 1 _ _ _ _ rfl ?_
  refine AtL.nil ?_
  refine AtE.then_n (AtE.go ?_)
  refine AtC.seq ?_
  refine AtC.condB H rfl (fun H => ?_) (fun H => ?_)
  ·
   refine AtC.skip ?_
   refine AtE.then_n (AtE.go ?_)
   refine AtC.seq ?_
   refine AtC.block ?_
   refine AtC.seqR ?_
   refine AtL.pures hT 1 _ _ _ _ rfl ?_
   obtain ⟨a_, hc1, hd1, H⟩ := H
   refine AtL.q rfl (Quiet1.idxS (s := _) hT rfl rfl rfl rfl rfl hc1 hd1) ?_
   obtain ⟨v, hc2, H⟩ := H
   refine AtL.q rfl (Quiet1.load hT rfl rfl rfl hc2) ?_
   refine AtL.pures hT 2 _ _ _ _ rfl ?_
   refine AtL.nil ?_
   refine AtE.then_n (AtE.go ?_)
   refine AtC.seqR ?_
   refine AtL.pures hT 5 _ _ _ _ rfl ?_
   replace H := H _ rfl
   refine AtL.nil ?_
   refine AtE.then_n (AtE.go ?_)
   refine AtC.joinSeq (fun (t0 : Int) => [(8, Value.int .u64 t0)]) [1, 4, 9, 10, 11] H (by exact rfl) (fun t0 h0u1 H => ?_) (fun J4 H HK4 => ?_)
   ·
    refine AtC.seqR ?_
    refine AtL.pures hT 3 _ _ _ _ rfl ?_
    refine AtL.bs (hT := hT) (cs := [_]) H rfl rfl rfl rfl rfl rfl rfl rfl rfl (fun a_2 h0u2 H => ?_)
    refine AtL.e rfl (Eff.appendS (s := _) (u := _) hT rfl rfl rfl rfl rfl rfl rfl rfl rfl rfl (by decide) H) ?_
    rintro _ h0u3 ⟨v_3, rfl, H⟩
    refine AtL.pures hT 1 _ _ _ _ rfl ?_
    refine AtL.nil ?_
    refine AtE.then_n (AtE.go ?_)
    refine AtC.region ?_
    refine AtL.pures hT 3 _ _ _ _ rfl ?_
    replace H := H _ rfl
    refine AtL.nil ?_
    refine AtE.blk_n ?_
    refine AtE.then_n (AtE.go ?_)
    refine AtC.region ?_
    refine AtL.pures hT 2 _ _ _ _ rfl ?_
    refine AtL.nil ?_
    exact AtE.then_n ((HK1 _ _ H).pick (ts := [4, 5, 11, 1, 9, 10]) rfl)
   ·
    refine AtC.seqR ?_
    refine AtL.pures hT 4 _ _ _ _ rfl ?_
    refine AtL.nil ?_
    refine AtE.then_n (AtE.go ?_)
    refine AtC.condB H rfl (fun H => ?_) (fun H => ?_)
    ·
     refine AtC.region ?_
     refine AtL.pures hT 3 _ _ _ _ rfl ?_
     obtain ⟨a_1_, hc4, hd4, H⟩ := H
     refine AtL.q rfl (Quiet1.idxS (s := _) hT rfl rfl rfl rfl rfl hc4 hd4) ?_
     obtain ⟨v_1, hc5, H⟩ := H
     refine AtL.q rfl (Quiet1.load hT rfl rfl rfl hc5) ?_
     refine AtL.pures hT 3 _ _ _ _ rfl ?_
     replace H := H _ rfl
     refine AtL.nil ?_
     exact AtE.then_n ((HK4 _ _ H).pick (ts := [8, 1, 4, 9, 10, 11]) rfl)
    ·
     refine AtC.skip ?_
     exact AtE.then_n ((HK4 _ _ H).pick (ts := [8, 1, 4, 9, 10, 11]) rfl)
  ·
   refine AtC.exit ?_
   refine AtE.then_x ?_
   refine AtE.then_x ?_
   refine AtE.blk_hit ?_
   refine AtE.then_n (AtE.go ?_)
   refine AtC.seqR ?_
   refine AtL.pures hT 1 _ _ _ _ rfl ?_
   refine AtL.e rfl (Eff.call (f := 18) (sh := fun h => nat_trim _ h _) (H0 := H) rfl Try.call18 rfl (hl := fun w hw => lift_nat_trim _ w _ hw)) ?_
   rintro _ h0u4 ⟨v_4, rfl, H⟩
   refine AtL.pures hT 1 _ _ _ _ rfl ?_
   refine AtL.nil ?_
   refine AtE.then_n (AtE.go ?_)
   refine AtC.ret ?_
   exact AtE.retN (rs := [.tmp 4]) rfl (ResAll.cons (ResAt.tmp rfl) ResAll.nil) rfl H

theorem lift_nat_divide (x0 : Sl) (y : Sl) (w : World) (S : (Sl × Sl) → Heap → Prop) (H : nat_divide x0 y w.heap S) :
    Calls Try.prog 19 #[Sl.toV x0, Sl.toV y] w (Post w (fun r => Value.tuple #[Sl.toV r.1, Sl.toV r.2]) S) := by
  refine Calls.lift (args := [Sl.toV x0, Sl.toV y]) Try.func19 rfl Try.ntmps19 (Nat.le_of_ble_eq_true rfl) (fun h => nat_divide x0 y h S) H (fun h H => ?_)
  refine AtC.pick (ts := [0, 1]) rfl ?_
  unfold nat_divide at H
  refine AtC.seqR ?_
  refine AtL.pures hT 2 _ _ _ _ rfl ?_
  refine AtL.nil ?_
  refine AtE.then_n (AtE.go ?_)
  refine AtC.seqR ?_
  refine AtL.pures hT 1 _ _ _ _ rfl ?_
  refine AtL.e rfl (Eff.call (f := 20) (sh := fun h => nat_small _ h _) (H0 := H) rfl Try.call20 rfl (hl := fun w hw => lift_nat_small _ w _ hw)) ?_
  rintro _ h0 ⟨v, rfl, H⟩
  refine AtL.pures hT 5 _ _ _ _ rfl ?_
  refine AtL.nil ?_
  refine AtE.then_n (AtE.go ?_)
  refine AtC.seqR ?_
  refine AtL.pures hT 1 _ _ _ _ rfl ?_
  refine AtL.e rfl (Eff.call (f := 20) (sh := fun h => nat_small _ h _) (H0 := H) rfl Try.call20 rfl (hl := fun w hw => lift_nat_small _ w _ hw)) ?_
  rintro _ h0u1 ⟨v_1, rfl, H⟩
  refine AtL.pures hT 5 _ _ _ _ rfl ?_
  refine AtL.nil ?_
  refine AtE.then_n (AtE.go ?_)
  refine AtC.seq ?_
  refine AtC.joinSeq (fun (t0 : Bool) => [(24, Value.bool t0)]) [0, 1, 5, 6, 8] H (by exact rfl) (fun t0 h0u2 H => ?_) (fun J1 H HK1 => ?_)
  ·
   refine AtC.condB H rfl (fun H => ?_) (fun H => ?_)
   ·
    obtain ⟨hd1, H⟩ := H
    obtain ⟨hd2, H⟩ := H
    apply AtC.seqS [3, 7] [[], [], [], [], [], [], [], [3], [3, 7], [3, 7]] [[], [], [0, 1], [0, 1, 2], [], [], [4, 5], [0, 1, 2, 3, 4, 5, 6], [0, 1, 2, 3, 4, 5, 6, 7], [0, 1, 2, 3, 4, 5, 6, 7, 8]] hmix (by kernel_rfl) [(25, _), (26, _), (27, _), (29, _), (30, _), (31, _)] rfl 2 rfl
    refine Stg.go [0, 1, 2, 4, 5, 6] [3] rfl rfl (QAll.cons (QOp.p hT rfl rfl rfl rfl rfl) (QAll.cons (QOp.p hT rfl rfl rfl rfl rfl) (QAll.cons (QOp.q rfl rfl (Quiet1.quo rfl rfl rfl hd1) rfl rfl) (QAll.cons (QOp.p hT rfl rfl rfl rfl rfl) (QAll.cons (QOp.p hT rfl rfl rfl rfl rfl) (QAll.cons (QOp.q rfl rfl (Quiet1.rem rfl rfl rfl hd2) rfl rfl) QAll.nil)))))) ?_
    refine EAll.cons ?_ EAll.nil
    refine EOp.e rfl rfl rfl (Eff.call (f := 16) (sh := fun h => nat_Of _ h _) (H0 := H) rfl Try.call16 rfl (hl := fun w hw => lift_nat_Of _ w _ hw)) ?_
    rintro _ h0u3 ⟨v_2, rfl, H⟩
    apply Stg.next [(28, _)] rfl rfl
    refine Stg.go [4, 5, 6] [7] rfl rfl (QAll.cons (QOp.p hT rfl rfl rfl rfl rfl) (QAll.cons (QOp.p hT rfl rfl rfl rfl rfl) (QAll.cons (QOp.q rfl rfl (Quiet1.rem rfl rfl rfl hd2) rfl rfl) QAll.nil))) ?_
    refine EAll.cons ?_ EAll.nil
    refine EOp.e rfl rfl rfl (Eff.call (f := 16) (sh := fun h => nat_Of _ h _) (H0 := H) rfl Try.call16 rfl (hl := fun w hw => lift_nat_Of _ w _ hw)) ?_
    rintro _ h0u4 ⟨v_3, rfl, H⟩
    apply Stg.next [(32, _), (4, _), (5, _)] rfl rfl
    refine Stg.fin [8, 9] rfl rfl (QAll.cons (QOp.p hT rfl rfl rfl rfl rfl) (QAll.cons (QOp.p hT rfl rfl rfl rfl rfl) QAll.nil)) ?_
    refine AtE.then_n (AtE.go ?_)
    refine AtC.ret ?_
    refine AtE.then_r ?_
    exact AtE.retN (rs := [.tmp 4, .tmp 5]) rfl (ResAll.cons (ResAt.tmp rfl) (ResAll.cons (ResAt.tmp rfl) ResAll.nil)) rfl H
   ·
    refine AtC.skip ?_
    refine AtE.then_n (AtE.go ?_)
    refine AtC.seqR ?_
    refine AtL.pures hT 1 _ _ _ _ rfl ?_
    refine AtL.e rfl (Eff.call (f := 18) (sh := fun h => nat_trim _ h _) (H0 := H) rfl Try.call18 rfl (hl := fun w hw => lift_nat_trim _ w _ hw)) ?_
    rintro _ h0u5 ⟨v_4, rfl, H⟩
    refine AtL.pures hT 1 _ _ _ _ rfl ?_
    refine AtL.e rfl (Eff.call (f := 18) (sh := fun h => nat_trim _ h _) (H0 := H) rfl Try.call18 rfl (hl := fun w hw => lift_nat_trim _ w _ hw)) ?_
    rintro _ h0u6 ⟨v_5, rfl, H⟩
    refine AtL.pures hT 2 _ _ _ _ rfl ?_
    refine AtL.nil ?_
    refine AtE.then_n (AtE.go ?_)
    refine AtC.seqR ?_
    refine AtL.pures hT 2 _ _ _ _ rfl ?_
    replace H := H _ rfl
    refine AtL.e rfl (Eff.mkS hT rfl rfl rfl rfl rfl rfl rfl rfl (by decide) H) ?_
    rintro _ h0u7 ⟨v_6, rfl, H⟩
    refine AtL.pures hT 1 _ _ _ _ rfl ?_
    refine AtL.nil ?_
    refine AtE.then_n (AtE.go ?_)
    refine AtC.seq ?_
    refine AtC.seqR ?_
    refine AtL.pures hT 5 _ _ _ _ rfl ?_
    replace H := H _ rfl
    refine AtL.nil ?_
    refine AtE.then_n (AtE.go ?_)
    refine AtC.block ?_
    refine AtC.loopM (fun (s0 : Sl × Int) => [(5, Sl.toV s0.1), (10, Value.int .i64 s0.2)]) [0, 1, 4] [5, 10, 0, 1, 4] H (by exact rfl) (by exact rfl) (fun Kp4 s0 h0u8 H Q4 HK4 => ?_)
    refine AtC.seq ?_
    refine AtC.seqR ?_
    refine AtL.pures hT 2 _ _ _ _ rfl ?_
    refine AtL.nil ?_
    refine AtE.then_n (AtE.go ?_)
    refine AtC.condB H rfl (fun H => ?_) (fun H => ?_)
    ·
     refine AtC.skip ?_
     refine AtE.then_n (AtE.go ?_)
     refine AtC.joinSeq (fun (t0u1 : Sl) => [(5, Sl.toV t0u1)]) [0, 1, 4, 10] H (by exact rfl) (fun t0u1 h0u9 H => ?_) (fun J5 H HK5 => ?_)
     ·
      refine AtC.region ?_
      refine AtL.pures hT 3 _ _ _ _ rfl ?_
      replace H := H _ rfl
      refine AtL.nil ?_
      exact AtE.then_n ((HK4 _ _ H).pick (ts := [5, 10, 0, 1, 4]) rfl)
     ·
      refine AtC.block ?_
      refine AtC.seqR ?_
      refine AtL.pures hT 2 _ _ _ _ rfl ?_
      refine AtL.e rfl (Eff.call (f := 24) (sh := fun h => nat_plus _ _ h _) (H0 := H) rfl Try.call24 rfl (hl := fun w hw => lift_nat_plus _ _ w _ hw)) ?_
      rintro _ h0u10 ⟨v_7, rfl, H⟩
      refine AtL.pures hT 1 _ _ _ _ rfl ?_
      refine AtL.nil ?_
      refine AtE.then_n (AtE.go ?_)
      obtain ⟨a_, hc5, hd5, H⟩ := H
      obtain ⟨v_8, hc6, H⟩ := H
      apply AtC.seqS [5, 8] [[], [], [], [], [], [], [5], [5], [5]] [[], [0], [0, 1], [], [], [3, 4], [0, 1, 2, 3, 4, 5], [0, 1, 2, 3, 4, 5, 6], [0, 1, 2, 3, 4, 5, 6, 7]] hmix (by kernel_rfl) [(51, _), (52, _), (53, _), (54, _), (55, _)] rfl 2 rfl
      refine Stg.go [0, 1, 2, 3, 4] [5] rfl rfl (QAll.cons (QOp.p hT rfl rfl rfl rfl rfl) (QAll.cons (QOp.q rfl rfl (Quiet1.idxS (s := _) hT rfl rfl rfl rfl rfl hc5 hd5) rfl rfl) (QAll.cons (QOp.q rfl rfl (Quiet1.load hT rfl rfl rfl hc6) rfl rfl) (QAll.cons (QOp.p hT rfl rfl rfl rfl rfl) (QAll.cons (QOp.p hT rfl rfl rfl rfl rfl) QAll.nil))))) ?_
      refine EAll.cons ?_ EAll.nil
      refine EOp.e rfl rfl rfl (Eff.call (f := 25) (sh := fun h => nat_bit _ _ h _) (H0 := H) rfl Try.call25 rfl (hl := fun w hw => lift_nat_bit _ _ w _ hw)) ?_
      rintro _ h0u11 ⟨v_9, rfl, H⟩
      obtain ⟨hc7, H⟩ := H
      obtain ⟨a_1_, hc8, hd8, H⟩ := H
      apply Stg.next [(56, _), (57, _), (58, _)] rfl rfl
      refine Stg.go [0, 1, 2, 6, 7] [8] rfl rfl (QAll.cons (QOp.p hT rfl rfl rfl rfl rfl) (QAll.cons (QOp.q rfl rfl (Quiet1.idxS (s := _) hT rfl rfl rfl rfl rfl hc5 hd5) rfl rfl) (QAll.cons (QOp.q rfl rfl (Quiet1.load hT rfl rfl rfl hc7) rfl rfl) (QAll.cons (QOp.p hT rfl rfl rfl rfl rfl) (QAll.cons (QOp.q rfl rfl (Quiet1.idxS (s := _) hT rfl rfl rfl rfl rfl hc8 hd8) rfl rfl) QAll.nil))))) ?_
      refine EAll.cons ?_ EAll.nil
      refine EOp.e rfl rfl rfl (Eff.store hT rfl rfl rfl rfl rfl H) ?_
      rintro _ h0u12 H
      apply Stg.next [] rfl rfl
      refine Stg.fin [] rfl rfl QAll.nil ?_
      refine AtE.then_n (AtE.go ?_)
      refine AtC.seqR ?_
      refine AtL.pures hT 1 _ _ _ _ rfl ?_
      refine AtL.e rfl (Eff.call (f := 18) (sh := fun h => nat_trim _ h _) (H0 := H) rfl Try.call18 rfl (hl := fun w hw => lift_nat_trim _ w _ hw)) ?_
      rintro _ h0u13 ⟨v_10, rfl, H⟩
      refine AtL.pures hT 1 _ _ _ _ rfl ?_
      refine AtL.nil ?_
      refine AtE.then_n (AtE.go ?_)
      refine AtC.seqR ?_
      refine AtL.pures hT 2 _ _ _ _ rfl ?_
      refine AtL.e rfl (Eff.call (f := 26) (sh := fun h => nat_Cmp _ _ h _) (H0 := H) rfl Try.call26 rfl (hl := fun w hw => lift_nat_Cmp _ _ w _ hw)) ?_
      rintro _ h0u14 ⟨v_11, rfl, H⟩
      refine AtL.pures hT 1 _ _ _ _ rfl ?_
      refine AtL.nil ?_
      refine AtE.then_n (AtE.go ?_)
      refine AtC.condB H rfl (fun H => ?_) (fun H => ?_)
      ·
       refine AtC.seqR ?_
       refine AtL.pures hT 2 _ _ _ _ rfl ?_
       refine AtL.e rfl (Eff.call (f := 27) (sh := fun h => nat_minus _ _ h _) (H0 := H) rfl Try.call27 rfl (hl := fun w hw => lift_nat_minus _ _ w _ hw)) ?_
       rintro _ h0u15 ⟨v_12, rfl, H⟩
       refine AtL.pures hT 1 _ _ _ _ rfl ?_
       refine AtL.nil ?_
       refine AtE.then_n (AtE.go ?_)
       obtain ⟨a_2_, hc9, hd9, H⟩ := H
       obtain ⟨v_13, hc10, H⟩ := H
       obtain ⟨hd11, H⟩ := H
       obtain ⟨a_3_, hc12, hd12, H⟩ := H
       apply AtC.stages [10] [[], [], [], [], [], [], [], [], [], [], []] [[], [], [1], [0, 1, 2], [0, 1, 2, 3], [], [5], [5, 6], [0, 1, 2, 3, 4, 5, 6, 7], [0, 1, 2, 3, 4, 5, 6, 7, 8], [0, 1, 2, 3, 4, 5, 6, 7, 8, 9]] hmix (by kernel_rfl) [(68, _), (69, _), (70, _), (71, _), (72, _), (73, _), (74, _), (75, _), (76, _), (77, _)] rfl 1 rfl
       refine Stg.go [0, 1, 2, 3, 4, 5, 6, 7, 8, 9] [10] rfl rfl (QAll.cons (QOp.p hT rfl rfl rfl rfl rfl) (QAll.cons (QOp.p hT rfl rfl rfl rfl rfl) (QAll.cons (QOp.p hT rfl rfl rfl rfl rfl) (QAll.cons (QOp.q rfl rfl (Quiet1.idxS (s := _) hT rfl rfl rfl rfl rfl hc9 hd9) rfl rfl) (QAll.cons (QOp.q rfl rfl (Quiet1.load hT rfl rfl rfl hc10) rfl rfl) (QAll.cons (QOp.p hT rfl rfl rfl rfl rfl) (QAll.cons (QOp.p hT rfl rfl rfl rfl rfl) (QAll.cons (QOp.q rfl rfl (Quiet1.shl rfl rfl rfl hd11) rfl rfl) (QAll.cons (QOp.p hT rfl rfl rfl rfl rfl) (QAll.cons (QOp.q rfl rfl (Quiet1.idxS (s := _) hT rfl rfl rfl rfl rfl hc12 hd12) rfl rfl) QAll.nil)))))))))) ?_
       refine EAll.cons ?_ EAll.nil
       refine EOp.e rfl rfl rfl (Eff.store hT rfl rfl rfl rfl rfl H) ?_
       rintro _ h0u16 H
       apply Stg.next [] rfl rfl
       refine Stg.fin [] rfl rfl QAll.nil ?_
       refine AtE.blk_n ?_
       exact AtE.then_n ((HK5 _ _ H).pick (ts := [5, 0, 1, 4, 10]) rfl)
      ·
       refine AtC.skip ?_
       refine AtE.blk_n ?_
       exact AtE.then_n ((HK5 _ _ H).pick (ts := [5, 0, 1, 4, 10]) rfl)
    ·
     refine AtC.exit ?_
     refine AtE.then_x ?_
     refine AtE.then_x ?_
     refine AtE.blk_hit ?_
     refine AtE.then_n (AtE.go ?_)
     refine AtC.seqR ?_
     refine AtL.pures hT 1 _ _ _ _ rfl ?_
     refine AtL.e rfl (Eff.call (f := 18) (sh := fun h => nat_trim _ h _) (H0 := H) rfl Try.call18 rfl (hl := fun w hw => lift_nat_trim _ w _ hw)) ?_
     rintro _ h0u17 ⟨v_14, rfl, H⟩
     refine AtL.pures hT 3 _ _ _ _ rfl ?_
     refine AtL.nil ?_
     refine AtE.then_n (AtE.go ?_)
     refine AtC.ret ?_
     exact AtE.retN (rs := [.tmp 4, .tmp 5]) rfl (ResAll.cons (ResAt.tmp rfl) (ResAll.cons (ResAt.tmp rfl) ResAll.nil)) rfl H
  ·
   refine AtC.region ?_
   refine AtL.pures hT 2 _ _ _ _ rfl ?_
   refine AtL.splitB (t := 22) H rfl (fun H => ?_) (fun H => ?_)
   ·
    refine AtL.yes rfl rfl rfl ?_
    refine AtL.pures hT 1 _ _ _ _ rfl ?_
    refine AtL.pures hT 1 _ _ _ _ rfl ?_
    refine AtL.nil ?_
    exact AtE.then_n ((HK1 _ _ H).pick (ts := [24, 0, 1, 5, 6, 8]) rfl)
   ·
    refine AtL.noF rfl rfl rfl (by decide) rfl ?_
    refine AtL.pures hT 1 _ _ _ _ rfl ?_
    refine AtL.nil ?_
    exact AtE.then_n ((HK1 _ _ H).pick (ts := [24, 0, 1, 5, 6, 8]) rfl)

theorem lift_slices_Reverse_byte_byte (s0 : Sl) (w : World) (S : Unit → Heap → Prop) (H : slices_Reverse_byte_byte s0 w.heap S) :
    Calls Try.prog 21 #[Sl.toV s0] w (Post w (fun _ => Value.tuple #[]) S) := by
  refine Calls.lift (args := [Sl.toV s0]) Try.func21 rfl Try.ntmps21 (Nat.le_of_ble_eq_true rfl) (fun h => slices_Reverse_byte_byte s0 h S) H (fun h H => ?_)
  refine AtC.pick (ts := [0]) rfl ?_
  unfold slices_Reverse_byte_byte at H
  refine AtC.seqR ?_
  refine AtL.pures hT 5 _ _ _ _ rfl ?_
  replace H := H _ rfl
  refine AtL.nil ?_
  refine AtE.then_n (AtE.go ?_)
  refine AtC.block ?_
  refine AtC.loopM (fun (s0u1 : Int × Int) => [(2, Value.int .i64 s0u1.1), (3, Value.int .i64 s0u1.2)]) [0] [2, 3, 0] H (by exact rfl) (by exact rfl) (fun Kp1 s0u1 h0 H Q1 HK1 => ?_)
  refine AtC.seq ?_
  refine AtC.seqR ?_
  refine AtL.pures hT 3 _ _ _ _ rfl ?_
  refine AtL.nil ?_
  refine AtE.then_n (AtE.go ?_)
  refine AtC.condB H rfl (fun H => ?_) (fun H => ?_)
  ·
   refine AtC.skip ?_
   refine AtE.then_n (AtE.go ?_)
   refine AtC.seq ?_
   refine AtC.block ?_
   obtain ⟨a_, hc1, hd1, H⟩ := H
   obtain ⟨v, hc2, H⟩ := H
   obtain ⟨a_1_, hc3, hd3, H⟩ := H
   obtain ⟨v_1, hc4, H⟩ := H
   obtain ⟨a_2_, hc5, hd5, H⟩ := H
   apply AtC.stages [13, 15] [[], [], [], [], [], [], [], [], [], [], [], [], [], [], [13], [13]] [[], [], [], [], [], [], [4, 5], [4, 5, 6], [], [], [8, 9], [8, 9, 10], [0, 1, 4, 5, 6, 7, 8, 9, 10, 11], [0, 1, 4, 5, 6, 7, 8, 9, 10, 11, 12], [0, 1, 2, 3, 4, 5, 6, 7, 8, 9, 10, 11, 12, 13], [0, 1, 2, 3, 4, 5, 6, 7, 8, 9, 10, 11, 12, 13, 14]] hmix (by kernel_rfl) [(14, _), (15, _), (16, _), (17, _), (18, _), (19, _), (20, _), (21, _), (22, _), (23, _), (24, _), (25, _), (26, _)] rfl 2 rfl
   refine Stg.go [0, 1, 2, 3, 4, 5, 6, 7, 8, 9, 10, 11, 12] [13] rfl rfl (QAll.cons (QOp.p hT rfl rfl rfl rfl rfl) (QAll.cons (QOp.p hT rfl rfl rfl rfl rfl) (QAll.cons (QOp.p hT rfl rfl rfl rfl rfl) (QAll.cons (QOp.p hT rfl rfl rfl rfl rfl) (QAll.cons (QOp.p hT rfl rfl rfl rfl rfl) (QAll.cons (QOp.p hT rfl rfl rfl rfl rfl) (QAll.cons (QOp.q rfl rfl (Quiet1.idxS (s := _) hT rfl rfl rfl rfl rfl hc1 hd1) rfl rfl) (QAll.cons (QOp.q rfl rfl (Quiet1.load hT rfl rfl rfl hc2) rfl rfl) (QAll.cons (QOp.p hT rfl rfl rfl rfl rfl) (QAll.cons (QOp.p hT rfl rfl rfl rfl rfl) (QAll.cons (QOp.q rfl rfl (Quiet1.idxS (s := _) hT rfl rfl rfl rfl rfl hc3 hd3) rfl rfl) (QAll.cons (QOp.q rfl rfl (Quiet1.load hT rfl rfl rfl hc4) rfl rfl) (QAll.cons (QOp.q rfl rfl (Quiet1.idxS (s := _) hT rfl rfl rfl rfl rfl hc5 hd5) rfl rfl) QAll.nil))))))))))))) ?_
   refine EAll.cons ?_ EAll.nil
   refine EOp.e rfl rfl rfl (Eff.store hT rfl rfl rfl rfl rfl H) ?_
   rintro _ h0u1 H
   obtain ⟨a_3_, hc6, hd6, H⟩ := H
   apply Stg.next [(27, _)] rfl rfl
   refine Stg.go [2, 3, 14] [15] rfl rfl (QAll.cons (QOp.p hT rfl rfl rfl rfl rfl) (QAll.cons (QOp.p hT rfl rfl rfl rfl rfl) (QAll.cons (QOp.q rfl rfl (Quiet1.idxS (s := _) hT rfl rfl rfl rfl rfl hc6 hd6) rfl rfl) QAll.nil))) ?_
   refine EAll.cons ?_ EAll.nil
   refine EOp.e rfl rfl rfl (Eff.store hT rfl rfl rfl rfl rfl H) ?_
   rintro _ h0u2 H
   apply Stg.next [] rfl rfl
   refine Stg.fin [] rfl rfl QAll.nil ?_
   refine AtE.blk_n ?_
   refine AtE.then_n (AtE.go ?_)
   refine AtC.region ?_
   refine AtL.pures hT 6 _ _ _ _ rfl ?_
   replace H := H _ rfl
   replace H := H _ rfl
   refine AtL.nil ?_
   exact AtE.then_n ((HK1 _ _ H).pick (ts := [2, 3, 0]) rfl)
  ·
   refine AtC.exit ?_
   refine AtE.then_x ?_
   refine AtE.then_x ?_
   refine AtE.blk_hit ?_
   exact AtE.endN rfl rfl H

theorem lift_nat_Text (x0 : Sl) (w : World) (S : ByteArray → Heap → Prop) (H : nat_Text x0 w.heap S) :
    Calls Try.prog 13 #[Sl.toV x0] w (Post w Value.string S) := by
  refine Calls.lift (args := [Sl.toV x0]) Try.func13 rfl Try.ntmps13 (Nat.le_of_ble_eq_true rfl) (fun h => nat_Text x0 h S) H (fun h H => ?_)
  refine AtC.pick (ts := [0]) rfl ?_
  unfold nat_Text at H
  refine AtC.seqR ?_
  refine AtL.pures hT 1 _ _ _ _ rfl ?_
  refine AtL.nil ?_
  refine AtE.then_n (AtE.go ?_)
  refine AtC.seqR ?_
  refine AtL.pures hT 1 _ _ _ _ rfl ?_
  refine AtL.nil ?_
  refine AtE.then_n (AtE.go ?_)
  refine AtC.seq ?_
  refine AtC.seqR ?_
  refine AtL.pures hT 1 _ _ _ _ rfl ?_
  refine AtL.e rfl (Eff.call (f := 18) (sh := fun h => nat_trim _ h _) (H0 := H) rfl Try.call18 rfl (hl := fun w hw => lift_nat_trim _ w _ hw)) ?_
  rintro _ h0 ⟨v, rfl, H⟩
  refine AtL.pures hT 1 _ _ _ _ rfl ?_
  refine AtL.nil ?_
  refine AtE.then_n (AtE.go ?_)
  refine AtC.block ?_
  refine AtC.loopM (fun (s0 : Sl × Sl) => [(0, Sl.toV s0.1), (3, Sl.toV s0.2)]) [] [0, 3] H (by exact rfl) (by exact rfl) (fun Kp1 s0 h0u1 H Q1 HK1 => ?_)
  refine AtC.seq ?_
  refine AtC.seqR ?_
  refine AtL.pures hT 3 _ _ _ _ rfl ?_
  refine AtL.nil ?_
  refine AtE.then_n (AtE.go ?_)
  refine AtC.condB H rfl (fun H => ?_) (fun H => ?_)
  ·
   refine AtC.skip ?_
   refine AtE.then_n (AtE.go ?_)
   refine AtC.block ?_
   refine AtC.seqR ?_
   refine AtL.pures hT 1 _ _ _ _ rfl ?_
   refine AtL.bs (hT := hT) (cs := [_]) H rfl rfl rfl rfl rfl rfl rfl rfl rfl (fun a h0u2 H => ?_)
   refine AtL.e rfl (Eff.call (f := 19) (sh := fun h => nat_divide _ _ h _) (H0 := H) rfl Try.call19 rfl (hl := fun w hw => lift_nat_divide _ _ w _ hw)) ?_
   rintro _ h0u3 ⟨v_2, rfl, H⟩
   refine AtL.pures hT 5 _ _ _ _ rfl ?_
   refine AtL.nil ?_
   refine AtE.then_n (AtE.go ?_)
   refine AtC.seqR ?_
   refine AtL.pures hT 1 _ _ _ _ rfl ?_
   refine AtL.e rfl (Eff.call (f := 20) (sh := fun h => nat_small _ h _) (H0 := H) rfl Try.call20 rfl (hl := fun w hw => lift_nat_small _ w _ hw)) ?_
   rintro _ h0u4 ⟨v_3, rfl, H⟩
   refine AtL.pures hT 5 _ _ _ _ rfl ?_
   refine AtL.nil ?_
   refine AtE.then_n (AtE.go ?_)
   refine AtC.seq ?_
   refine AtC.seqR ?_
   refine AtL.pures hT 1 _ _ _ _ rfl ?_
   refine AtL.nil ?_
   refine AtE.then_n (AtE.go ?_)
   refine AtC.block ?_
   refine AtC.loopM (fun (s0u1 : Sl × Int × Int) => [(3, Sl.toV s0u1.1), (6, Value.int .u64 s0u1.2.1), (8, Value.int .i64 s0u1.2.2)]) [4] [3, 6, 8, 4] H (by exact rfl) (by exact rfl) (fun Kp2 s0u1 h0u5 H Q2 HK2 => ?_)
   refine AtC.seq ?_
   refine AtC.joinSeq (fun (t0 : Bool) => [(35, Value.bool t0)]) [3, 4, 6, 8] H (by exact rfl) (fun t0 h0u6 H => ?_) (fun J3 H HK3 => ?_)
   ·
    refine AtC.condB H rfl (fun H => ?_) (fun H => ?_)
    ·
     refine AtC.skip ?_
     refine AtE.then_n (AtE.go ?_)
     refine AtC.seq ?_
     refine AtC.block ?_
     refine AtC.seqR ?_
     refine AtL.pures hT 5 _ _ _ _ rfl ?_
     refine AtL.bs (hT := hT) (cs := [_]) H rfl rfl rfl rfl rfl rfl rfl rfl rfl (fun a_1 h0u7 H => ?_)
     refine AtL.e rfl (Eff.appendS (s := _) (u := _) hT rfl rfl rfl rfl rfl rfl rfl rfl rfl rfl (by decide) H) ?_
     rintro _ h0u8 ⟨v_5, rfl, H⟩
     refine AtL.pures hT 1 _ _ _ _ rfl ?_
     refine AtL.nil ?_
     refine AtE.then_n (AtE.go ?_)
     refine AtC.region ?_
     refine AtL.pures hT 3 _ _ _ _ rfl ?_
     replace H := H _ rfl
     refine AtL.nil ?_
     refine AtE.blk_n ?_
     refine AtE.then_n (AtE.go ?_)
     refine AtC.region ?_
     refine AtL.pures hT 3 _ _ _ _ rfl ?_
     replace H := H _ rfl
     refine AtL.nil ?_
     exact AtE.then_n ((HK2 _ _ H).pick (ts := [3, 6, 8, 4]) rfl)
    ·
     refine AtC.exit ?_
     refine AtE.then_x ?_
     refine AtE.then_x ?_
     refine AtE.blk_hit ?_
     refine AtE.then_n (AtE.go ?_)
     refine AtC.region ?_
     refine AtL.pures hT 2 _ _ _ _ rfl ?_
     refine AtL.nil ?_
     refine AtE.blk_n ?_
     exact AtE.then_n ((HK1 _ _ H).pick (ts := [0, 3]) rfl)
   ·
    refine AtC.region ?_
    refine AtL.pures hT 3 _ _ _ _ rfl ?_
    refine AtL.splitB (t := 27) H rfl (fun H => ?_) (fun H => ?_)
    ·
     refine AtL.yes rfl rfl rfl ?_
     refine AtL.pures hT 1 _ _ _ _ rfl ?_
     refine AtL.yes rfl rfl rfl ?_
     refine AtL.pures hT 1 _ _ _ _ rfl ?_
     refine AtL.yes rfl rfl rfl ?_
     refine AtL.pures hT 1 _ _ _ _ rfl ?_
     refine AtL.yes rfl rfl rfl ?_
     refine AtL.pures hT 1 _ _ _ _ rfl ?_
     refine AtL.splitB (t := 31) H rfl (fun H => ?_) (fun H => ?_)
     ·
      refine AtL.noF rfl rfl rfl (by decide) rfl ?_
      refine AtL.noF rfl rfl rfl (by decide) rfl ?_
      refine AtL.yes rfl rfl rfl ?_
      refine AtL.pures hT 1 _ _ _ _ rfl ?_
      refine AtL.pures hT 1 _ _ _ _ rfl ?_
      refine AtL.nil ?_
      exact AtE.then_n ((HK3 _ _ H).pick (ts := [35, 3, 4, 6, 8]) rfl)
     ·
      refine AtL.yes rfl rfl rfl ?_
      refine AtL.pures hT 1 _ _ _ _ rfl ?_
      refine AtL.yes rfl rfl rfl ?_
      refine AtL.pures hT 1 _ _ _ _ rfl ?_
      refine AtL.yes rfl rfl rfl ?_
      refine AtL.pures hT 1 _ _ _ _ rfl ?_
      refine AtL.pures hT 1 _ _ _ _ rfl ?_
      refine AtL.nil ?_
      exact AtE.then_n ((HK3 _ _ H).pick (ts := [35, 3, 4, 6, 8]) rfl)
    ·
     refine AtL.noF rfl rfl rfl (by decide) rfl ?_
     refine AtL.noF rfl rfl rfl (by decide) rfl ?_
     refine AtL.noF rfl rfl rfl (by decide) rfl ?_
     refine AtL.noF rfl rfl rfl (by decide) rfl ?_
     refine AtL.noU rfl rfl rfl rfl ?_
     refine AtL.noU rfl rfl rfl rfl ?_
     refine AtL.noF rfl rfl rfl (by decide) rfl ?_
     refine AtL.pures hT 1 _ _ _ _ rfl ?_
     refine AtL.nil ?_
     exact AtE.then_n ((HK3 _ _ H).pick (ts := [35, 3, 4, 6, 8]) rfl)
  ·
   refine AtC.exit ?_
   refine AtE.then_x ?_
   refine AtE.then_x ?_
   refine AtE.blk_hit ?_
   refine AtE.then_n (AtE.go ?_)
   refine AtC.seq ?_
   refine AtC.seqR ?_
   refine AtL.pures hT 3 _ _ _ _ rfl ?_
   refine AtL.nil ?_
   refine AtE.then_n (AtE.go ?_)
   refine AtC.condB H rfl (fun H => ?_) (fun H => ?_)
   ·
    refine AtC.seqR ?_
    refine AtL.pures hT 1 _ _ _ _ rfl ?_
    refine AtL.nil ?_
    refine AtE.then_n (AtE.go ?_)
    refine AtC.ret ?_
    refine AtE.then_r ?_
    exact AtE.retN (rs := [.tmp 2]) rfl (ResAll.cons (ResAt.tmp rfl) ResAll.nil) rfl H
   ·
    refine AtC.skip ?_
    refine AtE.then_n (AtE.go ?_)
    refine AtC.seqR ?_
    refine AtL.pures hT 1 _ _ _ _ rfl ?_
    refine AtL.e rfl (Eff.call (f := 21) (sh := fun h => slices_Reverse_byte_byte _ h _) (H0 := H) rfl Try.call21 rfl (hl := fun w hw => lift_slices_Reverse_byte_byte _ w _ hw)) ?_
    rintro _ h0u9 ⟨v_6, rfl, H⟩
    refine AtL.nil ?_
    refine AtE.then_n (AtE.go ?_)
    refine AtC.seqR ?_
    refine AtL.pures hT 1 _ _ _ _ rfl ?_
    obtain ⟨v_7_, hc3, H⟩ := H
    refine AtL.q rfl (Quiet1.strOf (s := _) hT rfl rfl rfl rfl rfl hc3) ?_
    refine AtL.pures hT 1 _ _ _ _ rfl ?_
    refine AtL.nil ?_
    refine AtE.then_n (AtE.go ?_)
    refine AtC.ret ?_
    exact AtE.retN (rs := [.tmp 2]) rfl (ResAll.cons (ResAt.tmp rfl) ResAll.nil) rfl H

theorem lift_law01uspeaks (w : World) (S : Bool → Heap → Prop) (H : law01uspeaks w.heap S) :
    Calls Try.prog 4 #[] w (Post w Value.bool S) := by
  refine Calls.lift (args := []) Try.func4 rfl Try.ntmps4 (Nat.le_of_ble_eq_true rfl) (fun h => law01uspeaks h S) H (fun h H => ?_)
  refine AtC.pick (ts := []) rfl ?_
  unfold law01uspeaks at H
  refine AtC.seqR ?_
  refine AtL.pures hT 1 _ _ _ _ rfl ?_
  refine AtL.nil ?_
  refine AtE.then_n (AtE.go ?_)
  refine AtC.seqR ?_
  refine AtL.e rfl (Eff.call (f := 6) (sh := fun h => nat_New _ h _) (H0 := H) rfl Try.call6 rfl (hl := fun w hw => lift_nat_New _ w _ hw)) ?_
  rintro _ h0 ⟨v, rfl, H⟩
  refine AtL.pures hT 1 _ _ _ _ rfl ?_
  refine AtL.nil ?_
  refine AtE.then_n (AtE.go ?_)
  refine AtC.seqR ?_
  refine AtL.pures hT 1 _ _ _ _ rfl ?_
  refine AtL.bs (hT := hT) (cs := [_, _]) H rfl rfl rfl rfl rfl rfl rfl rfl rfl (fun a h0u1 H => ?_)
  refine AtL.bs (hT := hT) (cs := [_, _]) H rfl rfl rfl rfl rfl rfl rfl rfl rfl (fun a_1 h0u2 H => ?_)
  refine AtL.e rfl (Eff.call (f := 15) (sh := fun h => nat_Bench_Mul _ _ _ h _) (H0 := H) rfl Try.call15 rfl (hl := fun w hw => lift_nat_Bench_Mul _ _ _ w _ hw)) ?_
  rintro _ h0u3 ⟨v_3, rfl, H⟩
  refine AtL.pures hT 1 _ _ _ _ rfl ?_
  refine AtL.nil ?_
  refine AtE.then_n (AtE.go ?_)
  refine AtC.joinSeq (fun (t0 : Bool) => [(0, Value.bool t0)]) [] H (by exact rfl) (fun t0 h0u4 H => ?_) (fun J1 H HK1 => ?_)
  ·
   refine AtC.ret ?_
   exact AtE.retN (rs := [.tmp 0]) rfl (ResAll.cons (ResAt.tmp rfl) ResAll.nil) rfl H
  ·
   refine AtC.region ?_
   refine AtL.pures hT 1 _ _ _ _ rfl ?_
   refine AtL.e rfl (Eff.call (f := 9) (sh := fun h => nat_Bench_Over _ h _) (H0 := H) rfl Try.call9 rfl (hl := fun w hw => lift_nat_Bench_Over _ w _ hw)) ?_
   rintro _ h0u5 ⟨v_4, rfl, H⟩
   refine AtL.pures hT 1 _ _ _ _ rfl ?_
   refine AtL.splitB (t := 10) H rfl (fun H => ?_) (fun H => ?_)
   ·
    refine AtL.yes rfl rfl rfl ?_
    refine AtL.pures hT 1 _ _ _ _ rfl ?_
    refine AtL.yes rfl rfl rfl ?_
    refine AtL.pures hT 1 _ _ _ _ rfl ?_
    refine AtL.yes rfl rfl rfl ?_
    refine AtL.pures hT 1 _ _ _ _ rfl ?_
    refine AtL.pures hT 2 _ _ _ _ rfl ?_
    refine AtL.splitB (t := 15) H rfl (fun H => ?_) (fun H => ?_)
    ·
     refine AtL.yes rfl rfl rfl ?_
     refine AtL.e rfl (Eff.call (f := 16) (sh := fun h => nat_Of _ h _) (H0 := H) rfl Try.call16 rfl (hl := fun w hw => lift_nat_Of _ w _ hw)) ?_
     rintro _ h0u6 ⟨v_5, rfl, H⟩
     refine AtL.yes rfl rfl rfl ?_
     refine AtL.e rfl (Eff.call (f := 13) (sh := fun h => nat_Text _ h _) (H0 := H) rfl Try.call13 rfl (hl := fun w hw => lift_nat_Text _ w _ hw)) ?_
     rintro _ h0u7 ⟨v_6, rfl, H⟩
     refine AtL.yes rfl rfl rfl ?_
     refine AtL.pures hT 1 _ _ _ _ rfl ?_
     refine AtL.pures hT 2 _ _ _ _ rfl ?_
     refine AtL.nil ?_
     exact AtE.then_n ((HK1 _ _ H).pick (ts := [0]) rfl)
    ·
     refine AtL.noF rfl rfl rfl (by decide) rfl ?_
     refine AtL.noF rfl rfl rfl (by decide) rfl ?_
     refine AtL.noF rfl rfl rfl (by decide) rfl ?_
     refine AtL.pures hT 2 _ _ _ _ rfl ?_
     refine AtL.nil ?_
     exact AtE.then_n ((HK1 _ _ H).pick (ts := [0]) rfl)
   ·
    refine AtL.noF rfl rfl rfl (by decide) rfl ?_
    refine AtL.noF rfl rfl rfl (by decide) rfl ?_
    refine AtL.noF rfl rfl rfl (by decide) rfl ?_
    refine AtL.pures hT 2 _ _ _ _ rfl ?_
    refine AtL.noF rfl rfl rfl (by decide) rfl ?_
    refine AtL.noF rfl rfl rfl (by decide) rfl ?_
    refine AtL.noF rfl rfl rfl (by decide) rfl ?_
    refine AtL.pures hT 2 _ _ _ _ rfl ?_
    refine AtL.nil ?_
    exact AtE.then_n ((HK1 _ _ H).pick (ts := [0]) rfl)

theorem lift_law01ugreat (l : Sl) (w : World) (S : Bool → Heap → Prop) (H : law01ugreat l w.heap S) :
    Calls Try.prog 5 #[Sl.toV l] w (Post w Value.bool S) := by
  refine Calls.lift (args := [Sl.toV l]) Try.func5 rfl Try.ntmps5 (Nat.le_of_ble_eq_true rfl) (fun h => law01ugreat l h S) H (fun h H => ?_)
  refine AtC.pick (ts := [0]) rfl ?_
  unfold law01ugreat at H
  refine AtC.seqR ?_
  refine AtL.pures hT 1 _ _ _ _ rfl ?_
  refine AtL.nil ?_
  refine AtE.then_n (AtE.go ?_)
  refine AtC.seq ?_
  refine AtC.seqR ?_
  refine AtL.pures hT 3 _ _ _ _ rfl ?_
  refine AtL.nil ?_
  refine AtE.then_n (AtE.go ?_)
  refine AtC.block ?_
  refine AtC.loopM (fun (s0 : Int) => [(7, Value.int .i64 s0)]) [5, 6] [7, 5, 6] H (by exact rfl) (by exact rfl) (fun Kp1 s0 h0 H Q1 HK1 => ?_)
  refine AtC.seqR ?_
  refine AtL.pures hT 1 _ _ _ _ rfl ?_
  refine AtL.nil ?_
  refine AtE.then_n (AtE.go ?_)
  refine AtC.seq ?_
  refine AtC.condB H rfl (fun H => ?_) (fun H => ?_)
  ·
   refine AtC.skip ?_
   refine AtE.then_n (AtE.go ?_)
   refine AtC.seq ?_
   refine AtC.block ?_
   refine AtC.seqR ?_
   obtain ⟨a_, hc1, hd1, H⟩ := H
   refine AtL.q rfl (Quiet1.idxS (s := _) hT rfl rfl rfl rfl rfl hc1 hd1) ?_
   obtain ⟨v, hc2, H⟩ := H
   refine AtL.q rfl (Quiet1.load hT rfl rfl rfl hc2) ?_
   refine AtL.pures hT 1 _ _ _ _ rfl ?_
   refine AtL.nil ?_
   refine AtE.then_n (AtE.go ?_)
   refine AtC.seqR ?_
   refine AtL.pures hT 3 _ _ _ _ rfl ?_
   refine AtL.nil ?_
   refine AtE.then_n (AtE.go ?_)
   refine AtC.condB H rfl (fun H => ?_) (fun H => ?_)
   ·
    refine AtC.seqR ?_
    refine AtL.pures hT 1 _ _ _ _ rfl ?_
    refine AtL.nil ?_
    refine AtE.then_n (AtE.go ?_)
    refine AtC.ret ?_
    refine AtE.blk_r ?_
    refine AtE.then_r ?_
    refine AtE.then_r ?_
    refine AtE.blk_r ?_
    refine AtE.then_r ?_
    exact AtE.retN (rs := [.tmp 2]) rfl (ResAll.cons (ResAt.tmp rfl) ResAll.nil) rfl H
   ·
    refine AtC.skip ?_
    refine AtE.blk_n ?_
    refine AtE.then_n (AtE.go ?_)
    refine AtC.region ?_
    refine AtL.pures hT 2 _ _ _ _ rfl ?_
    refine AtL.nil ?_
    exact AtE.then_n ((HK1 _ _ H).pick (ts := [7, 5, 6]) rfl)
  ·
   refine AtC.exit ?_
   refine AtE.then_x ?_
   refine AtE.then_x ?_
   refine AtE.blk_hit ?_
   refine AtE.then_n (AtE.go ?_)
   refine AtC.seqR ?_
   refine AtL.pures hT 1 _ _ _ _ rfl ?_
   refine AtL.nil ?_
   refine AtE.then_n (AtE.go ?_)
   refine AtC.ret ?_
   exact AtE.retN (rs := [.tmp 2]) rfl (ResAll.cons (ResAt.tmp rfl) ResAll.nil) rfl H

theorem lift_nat_Bench_Add (b : (Option Addr)) (x0 : Sl) (y : Sl) (w : World) (S : Sl → Heap → Prop) (H : nat_Bench_Add b x0 y w.heap S) :
    Calls Try.prog 17 #[Value.pointer b, Sl.toV x0, Sl.toV y] w (Post w Sl.toV S) := by
  refine Calls.lift (args := [Value.pointer b, Sl.toV x0, Sl.toV y]) Try.func17 rfl Try.ntmps17 (Nat.le_of_ble_eq_true rfl) (fun h => nat_Bench_Add b x0 y h S) H (fun h H => ?_)
  refine AtC.pick (ts := [0, 1, 2]) rfl ?_
  unfold nat_Bench_Add at H
  refine AtC.seqR ?_
  refine AtL.pures hT 1 _ _ _ _ rfl ?_
  refine AtL.nil ?_
  refine AtE.then_n (AtE.go ?_)
  refine AtC.seqR ?_
  refine AtL.pures hT 3 _ _ _ _ rfl ?_
  refine AtL.e rfl (Eff.call (f := 24) (sh := fun h => nat_plus _ _ h _) (H0 := H) rfl Try.call24 rfl (hl := fun w hw => lift_nat_plus _ _ w _ hw)) ?_
  rintro _ h0 ⟨v, rfl, H⟩
  refine AtL.e rfl (Eff.call (f := 22) (sh := fun h => nat_Bench_fit _ _ h _) (H0 := H) rfl Try.call22 rfl (hl := fun w hw => lift_nat_Bench_fit _ _ w _ hw)) ?_
  rintro _ h0u1 ⟨v_1, rfl, H⟩
  refine AtL.pures hT 1 _ _ _ _ rfl ?_
  refine AtL.nil ?_
  refine AtE.then_n (AtE.go ?_)
  refine AtC.ret ?_
  exact AtE.retN (rs := [.tmp 6]) rfl (ResAll.cons (ResAt.tmp rfl) ResAll.nil) rfl H

theorem lift_nat_Bench_Parse (b : (Option Addr)) (s0 : ByteArray) (w : World) (S : (Sl × Bool) → Heap → Prop) (H : nat_Bench_Parse b s0 w.heap S) :
    Calls Try.prog 7 #[Value.pointer b, Value.string s0] w (Post w (fun r => Value.tuple #[Sl.toV r.1, Value.bool r.2]) S) := by
  refine Calls.lift (args := [Value.pointer b, Value.string s0]) Try.func7 rfl Try.ntmps7 (Nat.le_of_ble_eq_true rfl) (fun h => nat_Bench_Parse b s0 h S) H (fun h H => ?_)
  refine AtC.pick (ts := [0, 1]) rfl ?_
  unfold nat_Bench_Parse at H
  refine AtC.seqR ?_
  refine AtL.pures hT 2 _ _ _ _ rfl ?_
  refine AtL.nil ?_
  refine AtE.then_n (AtE.go ?_)
  refine AtC.seq ?_
  refine AtC.joinSeq (fun (t0 : Bool) => [(16, Value.bool t0)]) [0, 1] H (by exact rfl) (fun t0 h0 H => ?_) (fun J1 H HK1 => ?_)
  ·
   refine AtC.condB H rfl (fun H => ?_) (fun H => ?_)
   ·
    refine AtC.seqR ?_
    refine AtL.pures hT 2 _ _ _ _ rfl ?_
    refine AtL.nil ?_
    refine AtE.then_n (AtE.go ?_)
    refine AtC.ret ?_
    refine AtE.then_r ?_
    exact AtE.retN (rs := [.tmp 4, .tmp 5]) rfl (ResAll.cons (ResAt.tmp rfl) (ResAll.cons (ResAt.tmp rfl) ResAll.nil)) rfl H
   ·
    refine AtC.skip ?_
    refine AtE.then_n (AtE.go ?_)
    refine AtC.seqR ?_
    refine AtL.pures hT 1 _ _ _ _ rfl ?_
    refine AtL.nil ?_
    refine AtE.then_n (AtE.go ?_)
    refine AtC.seq ?_
    refine AtC.seqR ?_
    refine AtL.pures hT 3 _ _ _ _ rfl ?_
    refine AtL.nil ?_
    refine AtE.then_n (AtE.go ?_)
    refine AtC.block ?_
    refine AtC.loopM (fun (s0u1 : Int) => [(19, Value.int .i64 s0u1)]) [0, 1, 6, 18] [19, 0, 1, 6, 18] H (by exact rfl) (by exact rfl) (fun Kp2 s0u1 h0u1 H Q2 HK2 => ?_)
    refine AtC.seqR ?_
    refine AtL.pures hT 1 _ _ _ _ rfl ?_
    refine AtL.nil ?_
    refine AtE.then_n (AtE.go ?_)
    refine AtC.seq ?_
    refine AtC.condB H rfl (fun H => ?_) (fun H => ?_)
    ·
     refine AtC.skip ?_
     refine AtE.then_n (AtE.go ?_)
     refine AtC.seq ?_
     refine AtC.block ?_
     refine AtC.seqR ?_
     refine AtL.pures hT 2 _ _ _ _ rfl ?_
     refine AtL.nil ?_
     refine AtE.then_n (AtE.go ?_)
     refine AtC.joinSeq (fun (t0u1 : Bool) => [(31, Value.bool t0u1)]) [0, 1, 6, 18, 19] H (by exact rfl) (fun t0u1 h0u2 H => ?_) (fun J3 H HK3 => ?_)
     ·
      refine AtC.condB H rfl (fun H => ?_) (fun H => ?_)
      ·
       refine AtC.seqR ?_
       refine AtL.pures hT 2 _ _ _ _ rfl ?_
       refine AtL.nil ?_
       refine AtE.then_n (AtE.go ?_)
       refine AtC.ret ?_
       refine AtE.blk_r ?_
       refine AtE.then_r ?_
       refine AtE.then_r ?_
       refine AtE.blk_r ?_
       refine AtE.then_r ?_
       exact AtE.retN (rs := [.tmp 4, .tmp 5]) rfl (ResAll.cons (ResAt.tmp rfl) (ResAll.cons (ResAt.tmp rfl) ResAll.nil)) rfl H
      ·
       refine AtC.skip ?_
       refine AtE.blk_n ?_
       refine AtE.then_n (AtE.go ?_)
       refine AtC.region ?_
       refine AtL.pures hT 2 _ _ _ _ rfl ?_
       refine AtL.nil ?_
       exact AtE.then_n ((HK2 _ _ H).pick (ts := [19, 0, 1, 6, 18]) rfl)
     ·
      refine AtC.region ?_
      refine AtL.pures hT 2 _ _ _ _ rfl ?_
      obtain ⟨hd3, v, hc3, H⟩ := H
      refine AtL.q rfl (Quiet1.idxStr hT rfl rfl rfl rfl hd3 hc3) ?_
      refine AtL.pures hT 2 _ _ _ _ rfl ?_
      refine AtL.splitB (t := 26) H rfl (fun H => ?_) (fun H => ?_)
      ·
       refine AtL.noF rfl rfl rfl (by decide) rfl ?_
       refine AtL.noF rfl rfl rfl (by decide) rfl ?_
       refine AtL.noF rfl rfl rfl (by decide) rfl ?_
       refine AtL.noF rfl rfl rfl (by decide) rfl ?_
       refine AtL.pures hT 1 _ _ _ _ rfl ?_
       refine AtL.nil ?_
       exact AtE.then_n ((HK3 _ _ H).pick (ts := [31, 0, 1, 6, 18, 19]) rfl)
      ·
       refine AtL.yes rfl rfl rfl ?_
       refine AtL.pures hT 1 _ _ _ _ rfl ?_
       refine AtL.yes rfl rfl rfl ?_
       refine AtL.pures hT 1 _ _ _ _ rfl ?_
       refine AtL.yes rfl rfl rfl ?_
       obtain ⟨hd4, v_1, hc4, H⟩ := H
       refine AtL.q rfl (Quiet1.idxStr hT rfl rfl rfl rfl hd4 hc4) ?_
       refine AtL.yes rfl rfl rfl ?_
       refine AtL.pures hT 1 _ _ _ _ rfl ?_
       refine AtL.pures hT 1 _ _ _ _ rfl ?_
       refine AtL.nil ?_
       exact AtE.then_n ((HK3 _ _ H).pick (ts := [31, 0, 1, 6, 18, 19]) rfl)
    ·
     refine AtC.exit ?_
     refine AtE.then_x ?_
     refine AtE.then_x ?_
     refine AtE.blk_hit ?_
     refine AtE.then_n (AtE.go ?_)
     refine AtC.seq ?_
     refine AtC.seqR ?_
     refine AtL.pures hT 3 _ _ _ _ rfl ?_
     refine AtL.nil ?_
     refine AtE.then_n (AtE.go ?_)
     refine AtC.block ?_
     refine AtC.loopM (fun (s0u2 : Sl × Int) => [(6, Sl.toV s0u2.1), (35, Value.int .i64 s0u2.2)]) [0, 1, 34] [6, 35, 0, 1, 34] H (by exact rfl) (by exact rfl) (fun Kp6 s0u2 h0u3 H Q6 HK6 => ?_)
     refine AtC.seqR ?_
     refine AtL.pures hT 1 _ _ _ _ rfl ?_
     refine AtL.nil ?_
     refine AtE.then_n (AtE.go ?_)
     refine AtC.seq ?_
     refine AtC.condB H rfl (fun H => ?_) (fun H => ?_)
     ·
      refine AtC.skip ?_
      refine AtE.then_n (AtE.go ?_)
      refine AtC.seq ?_
      refine AtC.block ?_
      refine AtC.seqR ?_
      refine AtL.pures hT 2 _ _ _ _ rfl ?_
      refine AtL.nil ?_
      refine AtE.then_n (AtE.go ?_)
      refine AtC.joinSeq (fun (t0u2 : Sl) => [(6, Sl.toV t0u2)]) [0, 1, 34, 35] H (by exact rfl) (fun t0u2 h0u4 H => ?_) (fun J7 H HK7 => ?_)
      ·
       refine AtC.seqR ?_
       refine AtL.pures hT 1 _ _ _ _ rfl ?_
       obtain ⟨a_5, hc8, H⟩ := H
       refine AtL.q rfl (Quiet1.nilChk rfl rfl hc8) ?_
       refine AtL.pures hT 1 _ _ _ _ rfl ?_
       obtain ⟨v_14, hc9, H⟩ := H
       refine AtL.q rfl (Quiet1.load hT rfl rfl rfl hc9) ?_
       refine AtL.nil ?_
       refine AtE.then_n (AtE.go ?_)
       refine AtC.condB H rfl (fun H => ?_) (fun H => ?_)
       ·
        refine AtC.seqR ?_
        refine AtL.pures hT 2 _ _ _ _ rfl ?_
        refine AtL.nil ?_
        refine AtE.then_n (AtE.go ?_)
        refine AtC.ret ?_
        refine AtE.blk_r ?_
        refine AtE.then_r ?_
        refine AtE.then_r ?_
        refine AtE.blk_r ?_
        refine AtE.then_r ?_
        exact AtE.retN (rs := [.tmp 4, .tmp 5]) rfl (ResAll.cons (ResAt.tmp rfl) (ResAll.cons (ResAt.tmp rfl) ResAll.nil)) rfl H
       ·
        refine AtC.skip ?_
        refine AtE.blk_n ?_
        refine AtE.then_n (AtE.go ?_)
        refine AtC.region ?_
        refine AtL.pures hT 2 _ _ _ _ rfl ?_
        refine AtL.nil ?_
        exact AtE.then_n ((HK6 _ _ H).pick (ts := [6, 35, 0, 1, 34]) rfl)
      ·
       obtain ⟨hd7, v_2, hc7, H⟩ := H
       apply AtC.stages [3, 4, 10, 11, 12] [[], [], [], [], [3], [], [], [], [], [], [], [3, 4, 10], [3, 4, 10, 11]] [[], [], [], [], [1, 2, 3], [], [], [5, 6], [5, 6, 7], [5, 6, 7, 8], [5, 6, 7, 8, 9], [0, 1, 2, 3, 4, 5, 6, 7, 8, 9, 10], [0, 1, 2, 3, 4, 5, 6, 7, 8, 9, 10, 11]] hmix (by kernel_rfl) [(38, _), (39, _), (40, _), (43, _), (44, _), (45, _), (46, _), (47, _)] rfl 5 rfl
       refine Stg.go [0, 1, 2, 5, 6, 7, 8, 9] [3, 10] rfl rfl (QAll.cons (QOp.p hT rfl rfl rfl rfl rfl) (QAll.cons (QOp.p hT rfl rfl rfl rfl rfl) (QAll.cons (QOp.p hT rfl rfl rfl rfl rfl) (QAll.cons (QOp.p hT rfl rfl rfl rfl rfl) (QAll.cons (QOp.p hT rfl rfl rfl rfl rfl) (QAll.cons (QOp.q rfl rfl (Quiet1.idxStr hT rfl rfl rfl rfl hd7 hc7) rfl rfl) (QAll.cons (QOp.p hT rfl rfl rfl rfl rfl) (QAll.cons (QOp.p hT rfl rfl rfl rfl rfl) QAll.nil)))))))) ?_
       rcases H with ⟨H, HX0⟩
       refine EAll.cons ?_ ?_
       ·
        refine EOp.e rfl rfl rfl (Eff.buildS2 (cs := [_]) hT rfl rfl rfl rfl rfl rfl rfl rfl H) ?_
        rintro _ h0u5 ⟨a, rfl, H⟩
        apply Stg.next [(41, _)] rfl rfl
        refine Stg.go [0, 1, 2, 5, 6, 7, 8, 9] [4, 10] rfl rfl (QAll.cons (QOp.p hT rfl rfl rfl rfl rfl) (QAll.cons (QOp.p hT rfl rfl rfl rfl rfl) (QAll.cons (QOp.p hT rfl rfl rfl rfl rfl) (QAll.cons (QOp.p hT rfl rfl rfl rfl rfl) (QAll.cons (QOp.p hT rfl rfl rfl rfl rfl) (QAll.cons (QOp.q rfl rfl (Quiet1.idxStr hT rfl rfl rfl rfl hd7 hc7) rfl rfl) (QAll.cons (QOp.p hT rfl rfl rfl rfl rfl) (QAll.cons (QOp.p hT rfl rfl rfl rfl rfl) QAll.nil)))))))) ?_
        rcases H with ⟨H, HX0⟩
        refine EAll.cons ?_ ?_
        ·
         refine EOp.e rfl rfl rfl (Eff.call (f := 15) (sh := fun h => nat_Bench_Mul _ _ _ h _) (H0 := H) rfl Try.call15 rfl (hl := fun w hw => lift_nat_Bench_Mul _ _ _ w _ hw)) ?_
         rintro _ h0u6 ⟨v_4, rfl, H⟩
         apply Stg.next [(42, _)] rfl rfl
         refine Stg.go [0, 5, 6, 7, 8, 9] [10] rfl rfl (QAll.cons (QOp.p hT rfl rfl rfl rfl rfl) (QAll.cons (QOp.p hT rfl rfl rfl rfl rfl) (QAll.cons (QOp.p hT rfl rfl rfl rfl rfl) (QAll.cons (QOp.q rfl rfl (Quiet1.idxStr hT rfl rfl rfl rfl hd7 hc7) rfl rfl) (QAll.cons (QOp.p hT rfl rfl rfl rfl rfl) (QAll.cons (QOp.p hT rfl rfl rfl rfl rfl) QAll.nil)))))) ?_
         refine EAll.cons ?_ EAll.nil
         refine EOp.e rfl rfl rfl (Eff.buildS2 (cs := [_]) hT rfl rfl rfl rfl rfl rfl rfl rfl H) ?_
         rintro _ h0u7 ⟨a_1, rfl, H⟩
         apply Stg.next [(48, _)] rfl rfl
         refine Stg.go [0] [11] rfl rfl (QAll.cons (QOp.p hT rfl rfl rfl rfl rfl) QAll.nil) ?_
         refine EAll.cons ?_ EAll.nil
         refine EOp.e rfl rfl rfl (Eff.call (f := 17) (sh := fun h => nat_Bench_Add _ _ _ h _) (H0 := H) rfl Try.call17 rfl (hl := fun w hw => lift_nat_Bench_Add _ _ _ w _ hw)) ?_
         rintro _ h0u8 ⟨v_6, rfl, H⟩
         apply Stg.next [(49, _)] rfl rfl
         refine Stg.go [] [12] rfl rfl QAll.nil ?_
         refine EAll.cons ?_ EAll.nil
         refine EOp.e rfl rfl rfl (Eff.ofPure hT rfl) ?_
         rintro _ _ ⟨rfl, rfl⟩
         apply Stg.next [(6, _)] rfl rfl
         refine Stg.fin [] rfl rfl QAll.nil ?_
         exact AtE.then_n ((HK7 _ _ H).pick (ts := [6, 0, 1, 34, 35]) rfl)
        clear H; have H := HX0; clear HX0
        refine EAll.cons ?_ EAll.nil
        refine EOp.e rfl rfl rfl (Eff.buildS2 (cs := [_]) hT rfl rfl rfl rfl rfl rfl rfl rfl H) ?_
        rintro _ h0u9 ⟨a_2, rfl, H⟩
        apply Stg.next [(48, _)] rfl rfl
        refine Stg.go [0, 1, 2] [4] rfl rfl (QAll.cons (QOp.p hT rfl rfl rfl rfl rfl) (QAll.cons (QOp.p hT rfl rfl rfl rfl rfl) (QAll.cons (QOp.p hT rfl rfl rfl rfl rfl) QAll.nil))) ?_
        refine EAll.cons ?_ EAll.nil
        refine EOp.e rfl rfl rfl (Eff.call (f := 15) (sh := fun h => nat_Bench_Mul _ _ _ h _) (H0 := H) rfl Try.call15 rfl (hl := fun w hw => lift_nat_Bench_Mul _ _ _ w _ hw)) ?_
        rintro _ h0u10 ⟨v_8, rfl, H⟩
        apply Stg.next [(42, _)] rfl rfl
        refine Stg.go [0] [11] rfl rfl (QAll.cons (QOp.p hT rfl rfl rfl rfl rfl) QAll.nil) ?_
        refine EAll.cons ?_ EAll.nil
        refine EOp.e rfl rfl rfl (Eff.call (f := 17) (sh := fun h => nat_Bench_Add _ _ _ h _) (H0 := H) rfl Try.call17 rfl (hl := fun w hw => lift_nat_Bench_Add _ _ _ w _ hw)) ?_
        rintro _ h0u11 ⟨v_9, rfl, H⟩
        apply Stg.next [(49, _)] rfl rfl
        refine Stg.go [] [12] rfl rfl QAll.nil ?_
        refine EAll.cons ?_ EAll.nil
        refine EOp.e rfl rfl rfl (Eff.ofPure hT rfl) ?_
        rintro _ _ ⟨rfl, rfl⟩
        apply Stg.next [(6, _)] rfl rfl
        refine Stg.fin [] rfl rfl QAll.nil ?_
        exact AtE.then_n ((HK7 _ _ H).pick (ts := [6, 0, 1, 34, 35]) rfl)
       clear H; have H := HX0; clear HX0
       refine EAll.cons ?_ EAll.nil
       refine EOp.e rfl rfl rfl (Eff.buildS2 (cs := [_]) hT rfl rfl rfl rfl rfl rfl rfl rfl H) ?_
       rintro _ h0u12 ⟨a_3, rfl, H⟩
       apply Stg.next [(48, _)] rfl rfl
       refine Stg.go [0, 1, 2] [3] rfl rfl (QAll.cons (QOp.p hT rfl rfl rfl rfl rfl) (QAll.cons (QOp.p hT rfl rfl rfl rfl rfl) (QAll.cons (QOp.p hT rfl rfl rfl rfl rfl) QAll.nil))) ?_
       refine EAll.cons ?_ EAll.nil
       refine EOp.e rfl rfl rfl (Eff.buildS2 (cs := [_]) hT rfl rfl rfl rfl rfl rfl rfl rfl H) ?_
       rintro _ h0u13 ⟨a_4, rfl, H⟩
       apply Stg.next [(41, _)] rfl rfl
       refine Stg.go [0, 1, 2] [4] rfl rfl (QAll.cons (QOp.p hT rfl rfl rfl rfl rfl) (QAll.cons (QOp.p hT rfl rfl rfl rfl rfl) (QAll.cons (QOp.p hT rfl rfl rfl rfl rfl) QAll.nil))) ?_
       refine EAll.cons ?_ EAll.nil
       refine EOp.e rfl rfl rfl (Eff.call (f := 15) (sh := fun h => nat_Bench_Mul _ _ _ h _) (H0 := H) rfl Try.call15 rfl (hl := fun w hw => lift_nat_Bench_Mul _ _ _ w _ hw)) ?_
       rintro _ h0u14 ⟨v_12, rfl, H⟩
       apply Stg.next [(42, _)] rfl rfl
       refine Stg.go [0] [11] rfl rfl (QAll.cons (QOp.p hT rfl rfl rfl rfl rfl) QAll.nil) ?_
       refine EAll.cons ?_ EAll.nil
       refine EOp.e rfl rfl rfl (Eff.call (f := 17) (sh := fun h => nat_Bench_Add _ _ _ h _) (H0 := H) rfl Try.call17 rfl (hl := fun w hw => lift_nat_Bench_Add _ _ _ w _ hw)) ?_
       rintro _ h0u15 ⟨v_13, rfl, H⟩
       apply Stg.next [(49, _)] rfl rfl
       refine Stg.go [] [12] rfl rfl QAll.nil ?_
       refine EAll.cons ?_ EAll.nil
       refine EOp.e rfl rfl rfl (Eff.ofPure hT rfl) ?_
       rintro _ _ ⟨rfl, rfl⟩
       apply Stg.next [(6, _)] rfl rfl
       refine Stg.fin [] rfl rfl QAll.nil ?_
       exact AtE.then_n ((HK7 _ _ H).pick (ts := [6, 0, 1, 34, 35]) rfl)
     ·
      refine AtC.exit ?_
      refine AtE.then_x ?_
      refine AtE.then_x ?_
      refine AtE.blk_hit ?_
      refine AtE.then_n (AtE.go ?_)
      refine AtC.seqD hmix (by kernel_rfl) ?_
      refine AtD.pures hT 2 _ _ _ _ rfl ?_
      obtain ⟨a_6, hc10, H⟩ := H
      refine AtD.q rfl (Quiet1.nilChk rfl rfl hc10) ?_
      refine AtD.pures hT 1 _ _ _ _ rfl ?_
      obtain ⟨v_15, hc11, H⟩ := H
      refine AtD.q rfl (Quiet1.load hT rfl rfl rfl hc11) ?_
      refine AtD.pures hT 3 _ _ _ _ rfl ?_
      refine AtD.nil ?_
      refine AtE.then_n (AtE.go ?_)
      refine AtC.ret ?_
      exact AtE.retN (rs := [.tmp 4, .tmp 5]) rfl (ResAll.cons (ResAt.tmp rfl) (ResAll.cons (ResAt.tmp rfl) ResAll.nil)) rfl H
  ·
   refine AtC.region ?_
   refine AtL.pures hT 4 _ _ _ _ rfl ?_
   refine AtL.splitB (t := 12) H rfl (fun H => ?_) (fun H => ?_)
   ·
    refine AtL.noF rfl rfl rfl (by decide) rfl ?_
    refine AtL.noF rfl rfl rfl (by decide) rfl ?_
    refine AtL.noF rfl rfl rfl (by decide) rfl ?_
    refine AtL.pures hT 1 _ _ _ _ rfl ?_
    refine AtL.nil ?_
    exact AtE.then_n ((HK1 _ _ H).pick (ts := [16, 0, 1]) rfl)
   ·
    refine AtL.yes rfl rfl rfl ?_
    refine AtL.pures hT 1 _ _ _ _ rfl ?_
    refine AtL.yes rfl rfl rfl ?_
    refine AtL.pures hT 1 _ _ _ _ rfl ?_
    refine AtL.yes rfl rfl rfl ?_
    refine AtL.pures hT 1 _ _ _ _ rfl ?_
    refine AtL.pures hT 1 _ _ _ _ rfl ?_
    refine AtL.nil ?_
    exact AtE.then_n ((HK1 _ _ H).pick (ts := [16, 0, 1]) rfl)

theorem lift_nat_Right (x0 : Sl) (w : World) (S : Bool → Heap → Prop) (H : nat_Right x0 w.heap S) :
    Calls Try.prog 8 #[Sl.toV x0] w (Post w Value.bool S) := by
  refine Calls.lift (args := [Sl.toV x0]) Try.func8 rfl Try.ntmps8 (Nat.le_of_ble_eq_true rfl) (fun h => nat_Right x0 h S) H (fun h H => ?_)
  refine AtC.pick (ts := [0]) rfl ?_
  unfold nat_Right at H
  refine AtC.seqR ?_
  refine AtL.pures hT 1 _ _ _ _ rfl ?_
  refine AtL.nil ?_
  refine AtE.then_n (AtE.go ?_)
  refine AtC.seqR ?_
  refine AtL.pures hT 1 _ _ _ _ rfl ?_
  refine AtL.e rfl (Eff.call (f := 18) (sh := fun h => nat_trim _ h _) (H0 := H) rfl Try.call18 rfl (hl := fun w hw => lift_nat_trim _ w _ hw)) ?_
  rintro _ h0 ⟨v, rfl, H⟩
  refine AtL.pures hT 5 _ _ _ _ rfl ?_
  refine AtL.nil ?_
  refine AtE.then_n (AtE.go ?_)
  refine AtC.ret ?_
  exact AtE.retN (rs := [.tmp 2]) rfl (ResAll.cons (ResAt.tmp rfl) ResAll.nil) rfl H

theorem lift_ref01uCut (x0 : Sl) (w : World) (S : Sl → Heap → Prop) (H : ref01uCut x0 w.heap S) :
    Calls Try.prog 11 #[Sl.toV x0] w (Post w Sl.toV S) := by
  refine Calls.lift (args := [Sl.toV x0]) Try.func11 rfl Try.ntmps11 (Nat.le_of_ble_eq_true rfl) (fun h => ref01uCut x0 h S) H (fun h H => ?_)
  refine AtC.pick (ts := [0]) rfl ?_
  unfold ref01uCut at H
  refine AtC.seqR ?_
  refine AtL.pures hT 1 _ _ _ _ rfl ?_
  refine AtL.nil ?_
  refine AtE.then_n (AtE.go ?_)
  refine AtC.seqR ?_
  refine AtL.pures hT 3 _ _ _ _ rfl ?_
  replace H := H _ rfl
  refine AtL.nil ?_
  refine AtE.then_n (AtE.go ?_)
  refine AtC.seq ?_
  refine AtC.block ?_
  refine AtC.loopM (fun (s0 : Int) => [(3, Value.int .i64 s0)]) [0] [3, 0] H (by exact rfl) (by exact rfl) (fun Kp1 s0 h0 H Q1 HK1 => ?_)
  refine AtC.seq ?_
  refine AtC.joinSeq (fun (t0 : Bool) => [(15, Value.bool t0)]) [0, 3] H (by exact rfl) (fun t0 h0u1 H => ?_) (fun J2 H HK2 => ?_)
  ·
   refine AtC.condB H rfl (fun H => ?_) (fun H => ?_)
   ·
    refine AtC.skip ?_
    refine AtE.then_n (AtE.go ?_)
    refine AtC.block ?_
    refine AtC.region ?_
    refine AtL.pures hT 3 _ _ _ _ rfl ?_
    replace H := H _ rfl
    refine AtL.nil ?_
    refine AtE.blk_n ?_
    exact AtE.then_n ((HK1 _ _ H).pick (ts := [3, 0]) rfl)
   ·
    refine AtC.exit ?_
    refine AtE.then_x ?_
    refine AtE.then_x ?_
    refine AtE.blk_hit ?_
    refine AtE.then_n (AtE.go ?_)
    refine AtC.seqR ?_
    refine AtL.pures hT 2 _ _ _ _ rfl ?_
    refine AtL.sl (hT := hT) H rfl rfl rfl rfl rfl rfl rfl (fun h => by cases h <;> rfl) rfl (fun v_1 H => ?_)
    refine AtL.pures hT 1 _ _ _ _ rfl ?_
    refine AtL.nil ?_
    refine AtE.then_n (AtE.go ?_)
    refine AtC.ret ?_
    exact AtE.retN (rs := [.tmp 2]) rfl (ResAll.cons (ResAt.tmp rfl) ResAll.nil) rfl H
  ·
   refine AtC.region ?_
   refine AtL.pures hT 3 _ _ _ _ rfl ?_
   refine AtL.splitB (t := 8) H rfl (fun H => ?_) (fun H => ?_)
   ·
    refine AtL.yes rfl rfl rfl ?_
    refine AtL.pures hT 1 _ _ _ _ rfl ?_
    refine AtL.yes rfl rfl rfl ?_
    refine AtL.pures hT 1 _ _ _ _ rfl ?_
    refine AtL.yes rfl rfl rfl ?_
    refine AtL.pures hT 1 _ _ _ _ rfl ?_
    refine AtL.yes rfl rfl rfl ?_
    obtain ⟨a_, hc2, hd2, H⟩ := H
    refine AtL.q rfl (Quiet1.idxS (s := _) hT rfl rfl rfl rfl rfl hc2 hd2) ?_
    refine AtL.yes rfl rfl rfl ?_
    obtain ⟨v, hc3, H⟩ := H
    refine AtL.q rfl (Quiet1.load hT rfl rfl rfl hc3) ?_
    refine AtL.yes rfl rfl rfl ?_
    refine AtL.pures hT 1 _ _ _ _ rfl ?_
    refine AtL.pures hT 1 _ _ _ _ rfl ?_
    refine AtL.nil ?_
    exact AtE.then_n ((HK2 _ _ H).pick (ts := [15, 0, 3]) rfl)
   ·
    refine AtL.noF rfl rfl rfl (by decide) rfl ?_
    refine AtL.noF rfl rfl rfl (by decide) rfl ?_
    refine AtL.noF rfl rfl rfl (by decide) rfl ?_
    refine AtL.noF rfl rfl rfl (by decide) rfl ?_
    refine AtL.noF rfl rfl rfl (by decide) rfl ?_
    refine AtL.noF rfl rfl rfl (by decide) rfl ?_
    refine AtL.pures hT 1 _ _ _ _ rfl ?_
    refine AtL.nil ?_
    exact AtE.then_n ((HK2 _ _ H).pick (ts := [15, 0, 3]) rfl)

theorem lift_ref01uLimbs (x0 : Sl) (w : World) (S : Sl → Heap → Prop) (H : ref01uLimbs x0 w.heap S) :
    Calls Try.prog 10 #[Sl.toV x0] w (Post w Sl.toV S) := by
  refine Calls.lift (args := [Sl.toV x0]) Try.func10 rfl Try.ntmps10 (Nat.le_of_ble_eq_true rfl) (fun h => ref01uLimbs x0 h S) H (fun h H => ?_)
  refine AtC.pick (ts := [0]) rfl ?_
  unfold ref01uLimbs at H
  refine AtC.seqR ?_
  refine AtL.pures hT 1 _ _ _ _ rfl ?_
  refine AtL.nil ?_
  refine AtE.then_n (AtE.go ?_)
  refine AtC.seqR ?_
  refine AtL.bs (hT := hT) (cs := []) H rfl rfl rfl rfl rfl rfl rfl rfl rfl (fun a h0 H => ?_)
  refine AtL.pures hT 1 _ _ _ _ rfl ?_
  replace H := H _ rfl
  refine AtL.nil ?_
  refine AtE.then_n (AtE.go ?_)
  refine AtC.seq ?_
  refine AtC.seqR ?_
  refine AtL.pures hT 4 _ _ _ _ rfl ?_
  replace H := H _ rfl
  refine AtL.nil ?_
  refine AtE.then_n (AtE.go ?_)
  refine AtC.block ?_
  refine AtC.loopM (fun (s0 : Sl × Int) => [(3, Sl.toV s0.1), (4, Value.int .i64 s0.2)]) [0] [3, 4, 0] H (by exact rfl) (by exact rfl) (fun Kp1 s0 h0u1 H Q1 HK1 => ?_)
  refine AtC.seq ?_
  refine AtC.seqR ?_
  refine AtL.pures hT 2 _ _ _ _ rfl ?_
  refine AtL.nil ?_
  refine AtE.then_n (AtE.go ?_)
  refine AtC.condB H rfl (fun H => ?_) (fun H => ?_)
  ·
   refine AtC.skip ?_
   refine AtE.then_n (AtE.go ?_)
   refine AtC.joinSeq (fun (t0 : Sl) => [(3, Sl.toV t0)]) [0, 4] H (by exact rfl) (fun t0 h0u2 H => ?_) (fun J2 H HK2 => ?_)
   ·
    refine AtC.region ?_
    refine AtL.pures hT 3 _ _ _ _ rfl ?_
    replace H := H _ rfl
    refine AtL.nil ?_
    exact AtE.then_n ((HK1 _ _ H).pick (ts := [3, 4, 0]) rfl)
   ·
    refine AtC.block ?_
    refine AtC.seqR ?_
    refine AtL.pures hT 2 _ _ _ _ rfl ?_
    obtain ⟨a_1_, hc2, hd2, H⟩ := H
    refine AtL.q rfl (Quiet1.idxS (s := _) hT rfl rfl rfl rfl rfl hc2 hd2) ?_
    obtain ⟨v_1, hc3, H⟩ := H
    refine AtL.q rfl (Quiet1.load hT rfl rfl rfl hc3) ?_
    refine AtL.pures hT 2 _ _ _ _ rfl ?_
    replace H := H _ rfl
    refine AtL.nil ?_
    refine AtE.then_n (AtE.go ?_)
    refine AtC.seq ?_
    refine AtC.seqR ?_
    refine AtL.pures hT 1 _ _ _ _ rfl ?_
    refine AtL.nil ?_
    refine AtE.then_n (AtE.go ?_)
    refine AtC.block ?_
    refine AtC.loopM (fun (s0u1 : Int × Int) => [(5, Value.int .u64 s0u1.1), (6, Value.int .i64 s0u1.2)]) [0, 3, 4] [5, 6, 0, 3, 4] H (by exact rfl) (by exact rfl) (fun Kp5 s0u1 h0u3 H Q5 HK5 => ?_)
    refine AtC.seq ?_
    refine AtC.seqR ?_
    refine AtL.pures hT 4 _ _ _ _ rfl ?_
    refine AtL.nil ?_
    refine AtE.then_n (AtE.go ?_)
    refine AtC.condB H rfl (fun H => ?_) (fun H => ?_)
    ·
     refine AtC.skip ?_
     refine AtE.then_n (AtE.go ?_)
     refine AtC.seq ?_
     refine AtC.block ?_
     refine AtC.seqR ?_
     refine AtL.pures hT 2 _ _ _ _ rfl ?_
     obtain ⟨a_2_, hc5, hd5, H⟩ := H
     refine AtL.q rfl (Quiet1.idxS (s := _) hT rfl rfl rfl rfl rfl hc5 hd5) ?_
     obtain ⟨v_2, hc6, H⟩ := H
     refine AtL.q rfl (Quiet1.load hT rfl rfl rfl hc6) ?_
     refine AtL.pures hT 5 _ _ _ _ rfl ?_
     replace H := H _ rfl
     refine AtL.nil ?_
     refine AtE.then_n (AtE.go ?_)
     refine AtC.seqR ?_
     refine AtL.pures hT 5 _ _ _ _ rfl ?_
     obtain ⟨a_3_, hc7, hd7, H⟩ := H
     refine AtL.q rfl (Quiet1.idxS (s := _) hT rfl rfl rfl rfl rfl hc7 hd7) ?_
     refine AtL.e rfl (Eff.store hT rfl rfl rfl rfl rfl H) ?_
     rintro _ h0u4 H
     refine AtL.nil ?_
     refine AtE.then_n (AtE.go ?_)
     refine AtC.region ?_
     refine AtL.pures hT 3 _ _ _ _ rfl ?_
     replace H := H _ rfl
     refine AtL.nil ?_
     refine AtE.blk_n ?_
     refine AtE.then_n (AtE.go ?_)
     refine AtC.region ?_
     refine AtL.pures hT 3 _ _ _ _ rfl ?_
     replace H := H _ rfl
     refine AtL.nil ?_
     exact AtE.then_n ((HK5 _ _ H).pick (ts := [5, 6, 0, 3, 4]) rfl)
    ·
     refine AtC.exit ?_
     refine AtE.then_x ?_
     refine AtE.then_x ?_
     refine AtE.blk_hit ?_
     refine AtE.then_n (AtE.go ?_)
     refine AtC.seqR ?_
     refine AtL.pures hT 2 _ _ _ _ rfl ?_
     refine AtL.nil ?_
     refine AtE.then_n (AtE.go ?_)
     refine AtC.condB H rfl (fun H => ?_) (fun H => ?_)
     ·
      refine AtC.region ?_
      refine AtL.pures hT 3 _ _ _ _ rfl ?_
      refine AtL.bs (hT := hT) (cs := [_]) H rfl rfl rfl rfl rfl rfl rfl rfl rfl (fun a_4 h0u5 H => ?_)
      refine AtL.e rfl (Eff.appendS (s := _) (u := _) hT rfl rfl rfl rfl rfl rfl rfl rfl rfl rfl (by decide) H) ?_
      rintro _ h0u6 ⟨v_4, rfl, H⟩
      refine AtL.pures hT 1 _ _ _ _ rfl ?_
      refine AtL.nil ?_
      refine AtE.blk_n ?_
      exact AtE.then_n ((HK2 _ _ H).pick (ts := [3, 0, 4]) rfl)
     ·
      refine AtC.skip ?_
      refine AtE.blk_n ?_
      exact AtE.then_n ((HK2 _ _ H).pick (ts := [3, 0, 4]) rfl)
  ·
   refine AtC.exit ?_
   refine AtE.then_x ?_
   refine AtE.then_x ?_
   refine AtE.blk_hit ?_
   refine AtE.then_n (AtE.go ?_)
   refine AtC.seqR ?_
   refine AtL.pures hT 2 _ _ _ _ rfl ?_
   refine AtL.nil ?_
   refine AtE.then_n (AtE.go ?_)
   refine AtC.ret ?_
   exact AtE.retN (rs := [.tmp 2]) rfl (ResAll.cons (ResAt.tmp rfl) ResAll.nil) rfl H

theorem lift_ref01uSame (a : Sl) (b : Sl) (w : World) (S : Bool → Heap → Prop) (H : ref01uSame a b w.heap S) :
    Calls Try.prog 12 #[Sl.toV a, Sl.toV b] w (Post w Value.bool S) := by
  refine Calls.lift (args := [Sl.toV a, Sl.toV b]) Try.func12 rfl Try.ntmps12 (Nat.le_of_ble_eq_true rfl) (fun h => ref01uSame a b h S) H (fun h H => ?_)
  refine AtC.pick (ts := [0, 1]) rfl ?_
  unfold ref01uSame at H
  refine AtC.seqR ?_
  refine AtL.pures hT 1 _ _ _ _ rfl ?_
  refine AtL.nil ?_
  refine AtE.then_n (AtE.go ?_)
  refine AtC.seq ?_
  refine AtC.seqR ?_
  refine AtL.pures hT 5 _ _ _ _ rfl ?_
  refine AtL.nil ?_
  refine AtE.then_n (AtE.go ?_)
  refine AtC.condB H rfl (fun H => ?_) (fun H => ?_)
  ·
   refine AtC.seqR ?_
   refine AtL.pures hT 1 _ _ _ _ rfl ?_
   refine AtL.nil ?_
   refine AtE.then_n (AtE.go ?_)
   refine AtC.ret ?_
   refine AtE.then_r ?_
   exact AtE.retN (rs := [.tmp 4]) rfl (ResAll.cons (ResAt.tmp rfl) ResAll.nil) rfl H
  ·
   refine AtC.skip ?_
   refine AtE.then_n (AtE.go ?_)
   refine AtC.seq ?_
   refine AtC.seqR ?_
   refine AtL.pures hT 1 _ _ _ _ rfl ?_
   refine AtL.nil ?_
   refine AtE.then_n (AtE.go ?_)
   refine AtC.block ?_
   refine AtC.loopM (fun (s0 : Int) => [(5, Value.int .i64 s0)]) [0, 1] [5, 0, 1] H (by exact rfl) (by exact rfl) (fun Kp1 s0 h0 H Q1 HK1 => ?_)
   refine AtC.seq ?_
   refine AtC.seqR ?_
   refine AtL.pures hT 4 _ _ _ _ rfl ?_
   refine AtL.nil ?_
   refine AtE.then_n (AtE.go ?_)
   refine AtC.condB H rfl (fun H => ?_) (fun H => ?_)
   ·
    refine AtC.skip ?_
    refine AtE.then_n (AtE.go ?_)
    refine AtC.seq ?_
    refine AtC.block ?_
    refine AtC.seqD hmix (by kernel_rfl) ?_
    refine AtD.pures hT 2 _ _ _ _ rfl ?_
    obtain ⟨a_1_, hc1, hd1, H⟩ := H
    refine AtD.q rfl (Quiet1.idxS (s := _) hT rfl rfl rfl rfl rfl hc1 hd1) ?_
    obtain ⟨v, hc2, H⟩ := H
    refine AtD.q rfl (Quiet1.load hT rfl rfl rfl hc2) ?_
    refine AtD.pures hT 2 _ _ _ _ rfl ?_
    obtain ⟨a_2_, hc3, hd3, H⟩ := H
    refine AtD.q rfl (Quiet1.idxS (s := _) hT rfl rfl rfl rfl rfl hc3 hd3) ?_
    obtain ⟨v_1, hc4, H⟩ := H
    refine AtD.q rfl (Quiet1.load hT rfl rfl rfl hc4) ?_
    refine AtD.pures hT 1 _ _ _ _ rfl ?_
    refine AtD.nil ?_
    refine AtE.then_n (AtE.go ?_)
    refine AtC.condB H rfl (fun H => ?_) (fun H => ?_)
    ·
     refine AtC.seqR ?_
     refine AtL.pures hT 1 _ _ _ _ rfl ?_
     refine AtL.nil ?_
     refine AtE.then_n (AtE.go ?_)
     refine AtC.ret ?_
     refine AtE.blk_r ?_
     refine AtE.then_r ?_
     refine AtE.then_r ?_
     refine AtE.blk_r ?_
     refine AtE.then_r ?_
     exact AtE.retN (rs := [.tmp 4]) rfl (ResAll.cons (ResAt.tmp rfl) ResAll.nil) rfl H
    ·
     refine AtC.skip ?_
     refine AtE.blk_n ?_
     refine AtE.then_n (AtE.go ?_)
     refine AtC.region ?_
     refine AtL.pures hT 3 _ _ _ _ rfl ?_
     replace H := H _ rfl
     refine AtL.nil ?_
     exact AtE.then_n ((HK1 _ _ H).pick (ts := [5, 0, 1]) rfl)
   ·
    refine AtC.exit ?_
    refine AtE.then_x ?_
    refine AtE.then_x ?_
    refine AtE.blk_hit ?_
    refine AtE.then_n (AtE.go ?_)
    refine AtC.seqR ?_
    refine AtL.pures hT 1 _ _ _ _ rfl ?_
    refine AtL.nil ?_
    refine AtE.then_n (AtE.go ?_)
    refine AtC.ret ?_
    exact AtE.retN (rs := [.tmp 4]) rfl (ResAll.cons (ResAt.tmp rfl) ResAll.nil) rfl H

theorem lift_ref01uText (x0 : Sl) (w : World) (S : ByteArray → Heap → Prop) (H : ref01uText x0 w.heap S) :
    Calls Try.prog 14 #[Sl.toV x0] w (Post w Value.string S) := by
  refine Calls.lift (args := [Sl.toV x0]) Try.func14 rfl Try.ntmps14 (Nat.le_of_ble_eq_true rfl) (fun h => ref01uText x0 h S) H (fun h H => ?_)
  refine AtC.pick (ts := [0]) rfl ?_
  unfold ref01uText at H
  refine AtC.seqR ?_
  refine AtL.pures hT 1 _ _ _ _ rfl ?_
  refine AtL.nil ?_
  refine AtE.then_n (AtE.go ?_)
  refine AtC.seqR ?_
  refine AtL.bs (hT := hT) (cs := []) H rfl rfl rfl rfl rfl rfl rfl rfl rfl (fun a h0 H => ?_)
  refine AtL.pures hT 1 _ _ _ _ rfl ?_
  replace H := H _ rfl
  refine AtL.nil ?_
  refine AtE.then_n (AtE.go ?_)
  refine AtC.seq ?_
  refine AtC.seqR ?_
  refine AtL.pures hT 4 _ _ _ _ rfl ?_
  replace H := H _ rfl
  refine AtL.nil ?_
  refine AtE.then_n (AtE.go ?_)
  refine AtC.block ?_
  refine AtC.loopM (fun (s0 : Sl × Int) => [(3, Sl.toV s0.1), (4, Value.int .i64 s0.2)]) [0] [3, 4, 0] H (by exact rfl) (by exact rfl) (fun Kp1 s0 h0u1 H Q1 HK1 => ?_)
  refine AtC.seq ?_
  refine AtC.seqR ?_
  refine AtL.pures hT 2 _ _ _ _ rfl ?_
  refine AtL.nil ?_
  refine AtE.then_n (AtE.go ?_)
  refine AtC.condB H rfl (fun H => ?_) (fun H => ?_)
  ·
   refine AtC.skip ?_
   refine AtE.then_n (AtE.go ?_)
   refine AtC.seq ?_
   refine AtC.block ?_
   refine AtC.region ?_
   refine AtL.pures hT 3 _ _ _ _ rfl ?_
   obtain ⟨a_1_, hc1, hd1, H⟩ := H
   refine AtL.q rfl (Quiet1.idxS (s := _) hT rfl rfl rfl rfl rfl hc1 hd1) ?_
   obtain ⟨v_1, hc2, H⟩ := H
   refine AtL.q rfl (Quiet1.load hT rfl rfl rfl hc2) ?_
   refine AtL.pures hT 2 _ _ _ _ rfl ?_
   refine AtL.bs (hT := hT) (cs := [_]) H rfl rfl rfl rfl rfl rfl rfl rfl rfl (fun a_2 h0u2 H => ?_)
   refine AtL.e rfl (Eff.appendS (s := _) (u := _) hT rfl rfl rfl rfl rfl rfl rfl rfl rfl rfl (by decide) H) ?_
   rintro _ h0u3 ⟨v_3, rfl, H⟩
   refine AtL.pures hT 1 _ _ _ _ rfl ?_
   refine AtL.nil ?_
   refine AtE.blk_n ?_
   refine AtE.then_n (AtE.go ?_)
   refine AtC.region ?_
   refine AtL.pures hT 3 _ _ _ _ rfl ?_
   replace H := H _ rfl
   refine AtL.nil ?_
   exact AtE.then_n ((HK1 _ _ H).pick (ts := [3, 4, 0]) rfl)
  ·
   refine AtC.exit ?_
   refine AtE.then_x ?_
   refine AtE.then_x ?_
   refine AtE.blk_hit ?_
   refine AtE.then_n (AtE.go ?_)
   refine AtC.seq ?_
   refine AtC.seqR ?_
   refine AtL.pures hT 3 _ _ _ _ rfl ?_
   refine AtL.nil ?_
   refine AtE.then_n (AtE.go ?_)
   refine AtC.condB H rfl (fun H => ?_) (fun H => ?_)
   ·
    refine AtC.seqR ?_
    refine AtL.pures hT 1 _ _ _ _ rfl ?_
    refine AtL.nil ?_
    refine AtE.then_n (AtE.go ?_)
    refine AtC.ret ?_
    refine AtE.then_r ?_
    exact AtE.retN (rs := [.tmp 2]) rfl (ResAll.cons (ResAt.tmp rfl) ResAll.nil) rfl H
   ·
    refine AtC.skip ?_
    refine AtE.then_n (AtE.go ?_)
    refine AtC.seqR ?_
    refine AtL.pures hT 1 _ _ _ _ rfl ?_
    obtain ⟨v_4_, hc3, H⟩ := H
    refine AtL.q rfl (Quiet1.strOf (s := _) hT rfl rfl rfl rfl rfl hc3) ?_
    refine AtL.pures hT 1 _ _ _ _ rfl ?_
    refine AtL.nil ?_
    refine AtE.then_n (AtE.go ?_)
    refine AtC.ret ?_
    exact AtE.retN (rs := [.tmp 2]) rfl (ResAll.cons (ResAt.tmp rfl) ResAll.nil) rfl H

theorem lift_law01uNatReads (limbs : Int) (s0 : ByteArray) (x0 : Sl) (w : World) (S : Bool → Heap → Prop) (H : law01uNatReads limbs s0 x0 w.heap S) :
    Calls Try.prog 3 #[Value.int .i64 limbs, Value.string s0, Sl.toV x0] w (Post w Value.bool S) := by
  refine Calls.lift (args := [Value.int .i64 limbs, Value.string s0, Sl.toV x0]) Try.func3 rfl Try.ntmps3 (Nat.le_of_ble_eq_true rfl) (fun h => law01uNatReads limbs s0 x0 h S) H (fun h H => ?_)
  refine AtC.pick (ts := [0, 1, 2]) rfl ?_
  unfold law01uNatReads at H
  refine AtC.seqR ?_
  refine AtL.pures hT 1 _ _ _ _ rfl ?_
  refine AtL.nil ?_
  refine AtE.then_n (AtE.go ?_)
  refine AtC.seq ?_
  refine AtC.seqR ?_
  refine AtL.e rfl (Eff.call (f := 4) (sh := fun h => law01uspeaks h _) (H0 := H) rfl Try.call4 rfl (hl := fun w hw => lift_law01uspeaks  w _ hw)) ?_
  rintro _ h0 ⟨v, rfl, H⟩
  refine AtL.pures hT 1 _ _ _ _ rfl ?_
  refine AtL.nil ?_
  refine AtE.then_n (AtE.go ?_)
  refine AtC.condB H rfl (fun H => ?_) (fun H => ?_)
  ·
   refine AtC.seqR ?_
   refine AtL.pures hT 1 _ _ _ _ rfl ?_
   refine AtL.nil ?_
   refine AtE.then_n (AtE.go ?_)
   refine AtC.ret ?_
   refine AtE.then_r ?_
   exact AtE.retN (rs := [.tmp 6]) rfl (ResAll.cons (ResAt.tmp rfl) ResAll.nil) rfl H
  ·
   refine AtC.skip ?_
   refine AtE.then_n (AtE.go ?_)
   refine AtC.seq ?_
   refine AtC.joinSeq (fun (t0 : Bool) => [(23, Value.bool t0)]) [0, 1, 2] H (by exact rfl) (fun t0 h0u1 H => ?_) (fun J1 H HK1 => ?_)
   ·
    refine AtC.condB H rfl (fun H => ?_) (fun H => ?_)
    ·
     refine AtC.seqR ?_
     refine AtL.pures hT 1 _ _ _ _ rfl ?_
     refine AtL.nil ?_
     refine AtE.then_n (AtE.go ?_)
     refine AtC.ret ?_
     refine AtE.then_r ?_
     exact AtE.retN (rs := [.tmp 6]) rfl (ResAll.cons (ResAt.tmp rfl) ResAll.nil) rfl H
    ·
     refine AtC.skip ?_
     refine AtE.then_n (AtE.go ?_)
     refine AtC.seqR ?_
     refine AtL.bs (hT := hT) (cs := []) H rfl rfl rfl rfl rfl rfl rfl rfl rfl (fun a_1 h0u4 H => ?_)
     refine AtL.pures hT 5 _ _ _ _ rfl ?_
     replace H := H _ rfl
     replace H := H _ rfl
     refine AtL.nil ?_
     refine AtE.then_n (AtE.go ?_)
     refine AtC.seq ?_
     refine AtC.seqR ?_
     refine AtL.pures hT 4 _ _ _ _ rfl ?_
     replace H := H _ rfl
     refine AtL.nil ?_
     refine AtE.then_n (AtE.go ?_)
     refine AtC.block ?_
     refine AtC.loopM (fun (s0u1 : Sl × Bool × Int) => [(7, Sl.toV s0u1.1), (8, Value.bool s0u1.2.1), (9, Value.int .i64 s0u1.2.2)]) [0, 1, 2] [7, 8, 9, 0, 1, 2] H (by exact rfl) (by exact rfl) (fun Kp2 s0u1 h0u5 H Q2 HK2 => ?_)
     refine AtC.seq ?_
     refine AtC.seqR ?_
     refine AtL.pures hT 2 _ _ _ _ rfl ?_
     refine AtL.nil ?_
     refine AtE.then_n (AtE.go ?_)
     refine AtC.condB H rfl (fun H => ?_) (fun H => ?_)
     ·
      refine AtC.skip ?_
      refine AtE.then_n (AtE.go ?_)
      refine AtC.seq ?_
      refine AtC.block ?_
      refine AtC.joinSeq (fun (t0u1 : Bool) => [(8, Value.bool t0u1)]) [0, 1, 2, 7, 9] H (by exact rfl) (fun t0u1 h0u6 H => ?_) (fun J3 H HK3 => ?_)
      ·
       refine AtC.region ?_
       refine AtL.pures hT 3 _ _ _ _ rfl ?_
       obtain ⟨hd5, v_6, hc5, H⟩ := H
       refine AtL.q rfl (Quiet1.idxStr hT rfl rfl rfl rfl hd5 hc5) ?_
       refine AtL.pures hT 2 _ _ _ _ rfl ?_
       refine AtL.bs (hT := hT) (cs := [_]) H rfl rfl rfl rfl rfl rfl rfl rfl rfl (fun a_2 h0u7 H => ?_)
       refine AtL.e rfl (Eff.appendS (s := _) (u := _) hT rfl rfl rfl rfl rfl rfl rfl rfl rfl rfl (by decide) H) ?_
       rintro _ h0u8 ⟨v_8, rfl, H⟩
       refine AtL.pures hT 1 _ _ _ _ rfl ?_
       refine AtL.nil ?_
       refine AtE.blk_n ?_
       refine AtE.then_n (AtE.go ?_)
       refine AtC.region ?_
       refine AtL.pures hT 3 _ _ _ _ rfl ?_
       replace H := H _ rfl
       refine AtL.nil ?_
       exact AtE.then_n ((HK2 _ _ H).pick (ts := [7, 8, 9, 0, 1, 2]) rfl)
      ·
       refine AtC.region ?_
       refine AtL.pures hT 2 _ _ _ _ rfl ?_
       refine AtL.splitB (t := 36) H rfl (fun H => ?_) (fun H => ?_)
       ·
        refine AtL.yes rfl rfl rfl ?_
        refine AtL.pures hT 1 _ _ _ _ rfl ?_
        refine AtL.yes rfl rfl rfl ?_
        refine AtL.pures hT 1 _ _ _ _ rfl ?_
        refine AtL.yes rfl rfl rfl ?_
        obtain ⟨hd3, v_4, hc3, H⟩ := H
        refine AtL.q rfl (Quiet1.idxStr hT rfl rfl rfl rfl hd3 hc3) ?_
        refine AtL.yes rfl rfl rfl ?_
        refine AtL.pures hT 1 _ _ _ _ rfl ?_
        refine AtL.pures hT 2 _ _ _ _ rfl ?_
        refine AtL.splitB (t := 42) H rfl (fun H => ?_) (fun H => ?_)
        ·
         refine AtL.yes rfl rfl rfl ?_
         refine AtL.pures hT 1 _ _ _ _ rfl ?_
         refine AtL.yes rfl rfl rfl ?_
         refine AtL.pures hT 1 _ _ _ _ rfl ?_
         refine AtL.yes rfl rfl rfl ?_
         obtain ⟨hd4, v_5, hc4, H⟩ := H
         refine AtL.q rfl (Quiet1.idxStr hT rfl rfl rfl rfl hd4 hc4) ?_
         refine AtL.yes rfl rfl rfl ?_
         refine AtL.pures hT 1 _ _ _ _ rfl ?_
         refine AtL.pures hT 2 _ _ _ _ rfl ?_
         replace H := H _ rfl
         refine AtL.nil ?_
         exact AtE.then_n ((HK3 _ _ H).pick (ts := [8, 0, 1, 2, 7, 9]) rfl)
        ·
         refine AtL.noF rfl rfl rfl (by decide) rfl ?_
         refine AtL.noF rfl rfl rfl (by decide) rfl ?_
         refine AtL.noF rfl rfl rfl (by decide) rfl ?_
         refine AtL.noF rfl rfl rfl (by decide) rfl ?_
         refine AtL.pures hT 2 _ _ _ _ rfl ?_
         refine AtL.nil ?_
         exact AtE.then_n ((HK3 _ _ H).pick (ts := [8, 0, 1, 2, 7, 9]) rfl)
       ·
        refine AtL.noF rfl rfl rfl (by decide) rfl ?_
        refine AtL.noF rfl rfl rfl (by decide) rfl ?_
        refine AtL.noF rfl rfl rfl (by decide) rfl ?_
        refine AtL.noF rfl rfl rfl (by decide) rfl ?_
        refine AtL.pures hT 2 _ _ _ _ rfl ?_
        refine AtL.noF rfl rfl rfl (by decide) rfl ?_
        refine AtL.noF rfl rfl rfl (by decide) rfl ?_
        refine AtL.noF rfl rfl rfl (by decide) rfl ?_
        refine AtL.noF rfl rfl rfl (by decide) rfl ?_
        refine AtL.pures hT 2 _ _ _ _ rfl ?_
        refine AtL.nil ?_
        exact AtE.then_n ((HK3 _ _ H).pick (ts := [8, 0, 1, 2, 7, 9]) rfl)
     ·
      refine AtC.exit ?_
      refine AtE.then_x ?_
      refine AtE.then_x ?_
      refine AtE.blk_hit ?_
      refine AtE.then_n (AtE.go ?_)
      refine AtC.seqR ?_
      refine AtL.pures hT 1 _ _ _ _ rfl ?_
      refine AtL.e rfl (Eff.call (f := 6) (sh := fun h => nat_New _ h _) (H0 := H) rfl Try.call6 rfl (hl := fun w hw => lift_nat_New _ w _ hw)) ?_
      rintro _ h0u9 ⟨v_9, rfl, H⟩
      refine AtL.pures hT 1 _ _ _ _ rfl ?_
      refine AtL.nil ?_
      refine AtE.then_n (AtE.go ?_)
      refine AtC.seqR ?_
      refine AtL.pures hT 2 _ _ _ _ rfl ?_
      refine AtL.e rfl (Eff.call (f := 7) (sh := fun h => nat_Bench_Parse _ _ h _) (H0 := H) rfl Try.call7 rfl (hl := fun w hw => lift_nat_Bench_Parse _ _ w _ hw)) ?_
      rintro _ h0u10 ⟨v_10, rfl, H⟩
      refine AtL.pures hT 5 _ _ _ _ rfl ?_
      refine AtL.nil ?_
      refine AtE.then_n (AtE.go ?_)
      refine AtC.seq ?_
      refine AtC.joinSeq (fun (t0u2 : Bool) => [(78, Value.bool t0u2)]) [0, 7, 8, 10, 11, 12] H (by exact rfl) (fun t0u2 h0u11 H => ?_) (fun J7 H HK7 => ?_)
      ·
       refine AtC.condB H rfl (fun H => ?_) (fun H => ?_)
       ·
        refine AtC.seqR ?_
        refine AtL.pures hT 1 _ _ _ _ rfl ?_
        refine AtL.nil ?_
        refine AtE.then_n (AtE.go ?_)
        refine AtC.ret ?_
        refine AtE.then_r ?_
        exact AtE.retN (rs := [.tmp 6]) rfl (ResAll.cons (ResAt.tmp rfl) ResAll.nil) rfl H
       ·
        refine AtC.skip ?_
        refine AtE.then_n (AtE.go ?_)
        refine AtC.seq ?_
        refine AtC.seqR ?_
        refine AtL.pures hT 2 _ _ _ _ rfl ?_
        refine AtL.nil ?_
        refine AtE.then_n (AtE.go ?_)
        refine AtC.condB H rfl (fun H => ?_) (fun H => ?_)
        ·
         refine AtC.joinSeq (fun (t0u3 : Bool) => [(6, Value.bool t0u3)]) [] H (by exact rfl) (fun t0u3 h0u13 H => ?_) (fun J10 H HK10 => ?_)
         ·
          refine AtC.ret ?_
          refine AtE.then_r ?_
          exact AtE.retN (rs := [.tmp 6]) rfl (ResAll.cons (ResAt.tmp rfl) ResAll.nil) rfl H
         ·
          refine AtC.region ?_
          refine AtL.pures hT 3 _ _ _ _ rfl ?_
          refine AtL.splitB (t := 83) H rfl (fun H => ?_) (fun H => ?_)
          ·
           refine AtL.yes rfl rfl rfl ?_
           refine AtL.pures hT 1 _ _ _ _ rfl ?_
           refine AtL.yes rfl rfl rfl ?_
           refine AtL.pures hT 1 _ _ _ _ rfl ?_
           refine AtL.yes rfl rfl rfl ?_
           refine AtL.pures hT 1 _ _ _ _ rfl ?_
           refine AtL.pures hT 2 _ _ _ _ rfl ?_
           refine AtL.splitB (t := 88) H rfl (fun H => ?_) (fun H => ?_)
           ·
            refine AtL.yes rfl rfl rfl ?_
            refine AtL.pures hT 1 _ _ _ _ rfl ?_
            refine AtL.yes rfl rfl rfl ?_
            refine AtL.e rfl (Eff.call (f := 9) (sh := fun h => nat_Bench_Over _ h _) (H0 := H) rfl Try.call9 rfl (hl := fun w hw => lift_nat_Bench_Over _ w _ hw)) ?_
            rintro _ h0u14 ⟨v_13, rfl, H⟩
            refine AtL.yes rfl rfl rfl ?_
            refine AtL.pures hT 1 _ _ _ _ rfl ?_
            refine AtL.pures hT 2 _ _ _ _ rfl ?_
            refine AtL.nil ?_
            exact AtE.then_n ((HK10 _ _ H).pick (ts := [6]) rfl)
           ·
            refine AtL.noF rfl rfl rfl (by decide) rfl ?_
            refine AtL.noF rfl rfl rfl (by decide) rfl ?_
            refine AtL.noF rfl rfl rfl (by decide) rfl ?_
            refine AtL.pures hT 2 _ _ _ _ rfl ?_
            refine AtL.nil ?_
            exact AtE.then_n ((HK10 _ _ H).pick (ts := [6]) rfl)
          ·
           refine AtL.noF rfl rfl rfl (by decide) rfl ?_
           refine AtL.noF rfl rfl rfl (by decide) rfl ?_
           refine AtL.noF rfl rfl rfl (by decide) rfl ?_
           refine AtL.pures hT 2 _ _ _ _ rfl ?_
           refine AtL.noF rfl rfl rfl (by decide) rfl ?_
           refine AtL.noF rfl rfl rfl (by decide) rfl ?_
           refine AtL.noF rfl rfl rfl (by decide) rfl ?_
           refine AtL.pures hT 2 _ _ _ _ rfl ?_
           refine AtL.nil ?_
           exact AtE.then_n ((HK10 _ _ H).pick (ts := [6]) rfl)
        ·
         refine AtC.skip ?_
         refine AtE.then_n (AtE.go ?_)
         refine AtC.seqR ?_
         refine AtL.pures hT 1 _ _ _ _ rfl ?_
         refine AtL.e rfl (Eff.call (f := 11) (sh := fun h => ref01uCut _ h _) (H0 := H) rfl Try.call11 rfl (hl := fun w hw => lift_ref01uCut _ w _ hw)) ?_
         rintro _ h0u15 ⟨v_14, rfl, H⟩
         refine AtL.e rfl (Eff.call (f := 10) (sh := fun h => ref01uLimbs _ h _) (H0 := H) rfl Try.call10 rfl (hl := fun w hw => lift_ref01uLimbs _ w _ hw)) ?_
         rintro _ h0u16 ⟨v_15, rfl, H⟩
         refine AtL.pures hT 1 _ _ _ _ rfl ?_
         refine AtL.nil ?_
         refine AtE.then_n (AtE.go ?_)
         refine AtC.seq ?_
         refine AtC.seqR ?_
         refine AtL.pures hT 5 _ _ _ _ rfl ?_
         refine AtL.nil ?_
         refine AtE.then_n (AtE.go ?_)
         refine AtC.condB H rfl (fun H => ?_) (fun H => ?_)
         ·
          refine AtC.joinSeq (fun (t0u4 : Bool) => [(6, Value.bool t0u4)]) [] H (by exact rfl) (fun t0u4 h0u17 H => ?_) (fun J11 H HK11 => ?_)
          ·
           refine AtC.ret ?_
           refine AtE.then_r ?_
           exact AtE.retN (rs := [.tmp 6]) rfl (ResAll.cons (ResAt.tmp rfl) ResAll.nil) rfl H
          ·
           refine AtC.region ?_
           refine AtL.pures hT 3 _ _ _ _ rfl ?_
           refine AtL.splitB (t := 103) H rfl (fun H => ?_) (fun H => ?_)
           ·
            refine AtL.yes rfl rfl rfl ?_
            refine AtL.pures hT 1 _ _ _ _ rfl ?_
            refine AtL.yes rfl rfl rfl ?_
            refine AtL.pures hT 1 _ _ _ _ rfl ?_
            refine AtL.yes rfl rfl rfl ?_
            refine AtL.pures hT 1 _ _ _ _ rfl ?_
            refine AtL.pures hT 2 _ _ _ _ rfl ?_
            refine AtL.splitB (t := 108) H rfl (fun H => ?_) (fun H => ?_)
            ·
             refine AtL.yes rfl rfl rfl ?_
             refine AtL.pures hT 1 _ _ _ _ rfl ?_
             refine AtL.yes rfl rfl rfl ?_
             refine AtL.e rfl (Eff.call (f := 9) (sh := fun h => nat_Bench_Over _ h _) (H0 := H) rfl Try.call9 rfl (hl := fun w hw => lift_nat_Bench_Over _ w _ hw)) ?_
             rintro _ h0u18 ⟨v_16, rfl, H⟩
             refine AtL.pures hT 2 _ _ _ _ rfl ?_
             refine AtL.nil ?_
             exact AtE.then_n ((HK11 _ _ H).pick (ts := [6]) rfl)
            ·
             refine AtL.noF rfl rfl rfl (by decide) rfl ?_
             refine AtL.noF rfl rfl rfl (by decide) rfl ?_
             refine AtL.pures hT 2 _ _ _ _ rfl ?_
             refine AtL.nil ?_
             exact AtE.then_n ((HK11 _ _ H).pick (ts := [6]) rfl)
           ·
            refine AtL.noF rfl rfl rfl (by decide) rfl ?_
            refine AtL.noF rfl rfl rfl (by decide) rfl ?_
            refine AtL.noF rfl rfl rfl (by decide) rfl ?_
            refine AtL.pures hT 2 _ _ _ _ rfl ?_
            refine AtL.noF rfl rfl rfl (by decide) rfl ?_
            refine AtL.noF rfl rfl rfl (by decide) rfl ?_
            refine AtL.pures hT 2 _ _ _ _ rfl ?_
            refine AtL.nil ?_
            exact AtE.then_n ((HK11 _ _ H).pick (ts := [6]) rfl)
         ·
          refine AtC.skip ?_
          refine AtE.then_n (AtE.go ?_)
          refine AtC.joinSeq (fun (t0u5 : Bool) => [(6, Value.bool t0u5)]) [] H (by exact rfl) (fun t0u5 h0u19 H => ?_) (fun J12 H HK12 => ?_)
          ·
           refine AtC.ret ?_
           exact AtE.retN (rs := [.tmp 6]) rfl (ResAll.cons (ResAt.tmp rfl) ResAll.nil) rfl H
          ·
           refine AtC.region ?_
           refine AtL.pures hT 2 _ _ _ _ rfl ?_
           refine AtL.splitB (t := 113) H rfl (fun H => ?_) (fun H => ?_)
           ·
            refine AtL.yes rfl rfl rfl ?_
            refine AtL.pures hT 1 _ _ _ _ rfl ?_
            refine AtL.yes rfl rfl rfl ?_
            refine AtL.pures hT 1 _ _ _ _ rfl ?_
            refine AtL.yes rfl rfl rfl ?_
            refine AtL.e rfl (Eff.call (f := 12) (sh := fun h => ref01uSame _ _ h _) (H0 := H) rfl Try.call12 rfl (hl := fun w hw => lift_ref01uSame _ _ w _ hw)) ?_
            rintro _ h0u20 ⟨v_17, rfl, H⟩
            refine AtL.pures hT 2 _ _ _ _ rfl ?_
            refine AtL.splitB (t := 118) H rfl (fun H => ?_) (fun H => ?_)
            ·
             refine AtL.yes rfl rfl rfl ?_
             refine AtL.pures hT 1 _ _ _ _ rfl ?_
             refine AtL.yes rfl rfl rfl ?_
             refine AtL.e rfl (Eff.call (f := 9) (sh := fun h => nat_Bench_Over _ h _) (H0 := H) rfl Try.call9 rfl (hl := fun w hw => lift_nat_Bench_Over _ w _ hw)) ?_
             rintro _ h0u21 ⟨v_18, rfl, H⟩
             refine AtL.yes rfl rfl rfl ?_
             refine AtL.pures hT 1 _ _ _ _ rfl ?_
             refine AtL.pures hT 2 _ _ _ _ rfl ?_
             refine AtL.splitB (t := 123) H rfl (fun H => ?_) (fun H => ?_)
             ·
              refine AtL.yes rfl rfl rfl ?_
              refine AtL.pures hT 1 _ _ _ _ rfl ?_
              refine AtL.yes rfl rfl rfl ?_
              refine AtL.e rfl (Eff.call (f := 13) (sh := fun h => nat_Text _ h _) (H0 := H) rfl Try.call13 rfl (hl := fun w hw => lift_nat_Text _ w _ hw)) ?_
              rintro _ h0u22 ⟨v_19, rfl, H⟩
              refine AtL.yes rfl rfl rfl ?_
              refine AtL.pures hT 1 _ _ _ _ rfl ?_
              refine AtL.yes rfl rfl rfl ?_
              refine AtL.e rfl (Eff.call (f := 11) (sh := fun h => ref01uCut _ h _) (H0 := H) rfl Try.call11 rfl (hl := fun w hw => lift_ref01uCut _ w _ hw)) ?_
              rintro _ h0u23 ⟨v_20, rfl, H⟩
              refine AtL.yes rfl rfl rfl ?_
              refine AtL.e rfl (Eff.call (f := 14) (sh := fun h => ref01uText _ h _) (H0 := H) rfl Try.call14 rfl (hl := fun w hw => lift_ref01uText _ w _ hw)) ?_
              rintro _ h0u24 ⟨v_21, rfl, H⟩
              refine AtL.yes rfl rfl rfl ?_
              refine AtL.pures hT 1 _ _ _ _ rfl ?_
              refine AtL.pures hT 2 _ _ _ _ rfl ?_
              refine AtL.nil ?_
              exact AtE.then_n ((HK12 _ _ H).pick (ts := [6]) rfl)
             ·
              refine AtL.noF rfl rfl rfl (by decide) rfl ?_
              refine AtL.noF rfl rfl rfl (by decide) rfl ?_
              refine AtL.noF rfl rfl rfl (by decide) rfl ?_
              refine AtL.noF rfl rfl rfl (by decide) rfl ?_
              refine AtL.noF rfl rfl rfl (by decide) rfl ?_
              refine AtL.noF rfl rfl rfl (by decide) rfl ?_
              refine AtL.pures hT 2 _ _ _ _ rfl ?_
              refine AtL.nil ?_
              exact AtE.then_n ((HK12 _ _ H).pick (ts := [6]) rfl)
            ·
             refine AtL.noF rfl rfl rfl (by decide) rfl ?_
             refine AtL.noF rfl rfl rfl (by decide) rfl ?_
             refine AtL.noF rfl rfl rfl (by decide) rfl ?_
             refine AtL.pures hT 2 _ _ _ _ rfl ?_
             refine AtL.noF rfl rfl rfl (by decide) rfl ?_
             refine AtL.noF rfl rfl rfl (by decide) rfl ?_
             refine AtL.noF rfl rfl rfl (by decide) rfl ?_
             refine AtL.noF rfl rfl rfl (by decide) rfl ?_
             refine AtL.noF rfl rfl rfl (by decide) rfl ?_
             refine AtL.noF rfl rfl rfl (by decide) rfl ?_
             refine AtL.pures hT 2 _ _ _ _ rfl ?_
             refine AtL.nil ?_
             exact AtE.then_n ((HK12 _ _ H).pick (ts := [6]) rfl)
           ·
            refine AtL.noF rfl rfl rfl (by decide) rfl ?_
            refine AtL.noF rfl rfl rfl (by decide) rfl ?_
            refine AtL.noF rfl rfl rfl (by decide) rfl ?_
            refine AtL.pures hT 2 _ _ _ _ rfl ?_
            refine AtL.noF rfl rfl rfl (by decide) rfl ?_
            refine AtL.noF rfl rfl rfl (by decide) rfl ?_
            refine AtL.noF rfl rfl rfl (by decide) rfl ?_
            refine AtL.pures hT 2 _ _ _ _ rfl ?_
            refine AtL.noF rfl rfl rfl (by decide) rfl ?_
            refine AtL.noF rfl rfl rfl (by decide) rfl ?_
            refine AtL.noF rfl rfl rfl (by decide) rfl ?_
            refine AtL.noF rfl rfl rfl (by decide) rfl ?_
            refine AtL.noF rfl rfl rfl (by decide) rfl ?_
            refine AtL.noF rfl rfl rfl (by decide) rfl ?_
            refine AtL.pures hT 2 _ _ _ _ rfl ?_
            refine AtL.nil ?_
            exact AtE.then_n ((HK12 _ _ H).pick (ts := [6]) rfl)
      ·
       refine AtC.region ?_
       refine AtL.pures hT 1 _ _ _ _ rfl ?_
       refine AtL.e rfl (Eff.call (f := 8) (sh := fun h => nat_Right _ h _) (H0 := H) rfl Try.call8 rfl (hl := fun w hw => lift_nat_Right _ w _ hw)) ?_
       rintro _ h0u12 ⟨v_11, rfl, H⟩
       refine AtL.pures hT 4 _ _ _ _ rfl ?_
       refine AtL.splitB (t := 69) H rfl (fun H => ?_) (fun H => ?_)
       ·
        refine AtL.noF rfl rfl rfl (by decide) rfl ?_
        refine AtL.noF rfl rfl rfl (by decide) rfl ?_
        refine AtL.noF rfl rfl rfl (by decide) rfl ?_
        refine AtL.noF rfl rfl rfl (by decide) rfl ?_
        refine AtL.noF rfl rfl rfl (by decide) rfl ?_
        refine AtL.noF rfl rfl rfl (by decide) rfl ?_
        refine AtL.noF rfl rfl rfl (by decide) rfl ?_
        refine AtL.pures hT 2 _ _ _ _ rfl ?_
        refine AtL.nil ?_
        exact AtE.then_n ((HK7 _ _ H).pick (ts := [78, 0, 7, 8, 10, 11, 12]) rfl)
       ·
        refine AtL.yes rfl rfl rfl ?_
        refine AtL.pures hT 1 _ _ _ _ rfl ?_
        refine AtL.yes rfl rfl rfl ?_
        refine AtL.pures hT 1 _ _ _ _ rfl ?_
        refine AtL.yes rfl rfl rfl ?_
        refine AtL.pures hT 1 _ _ _ _ rfl ?_
        refine AtL.yes rfl rfl rfl ?_
        refine AtL.pures hT 1 _ _ _ _ rfl ?_
        refine AtL.yes rfl rfl rfl ?_
        obtain ⟨a_3_, hc7, hd7, H⟩ := H
        refine AtL.q rfl (Quiet1.idxS (s := _) hT rfl rfl rfl rfl rfl hc7 hd7) ?_
        refine AtL.yes rfl rfl rfl ?_
        obtain ⟨v_12, hc8, H⟩ := H
        refine AtL.q rfl (Quiet1.load hT rfl rfl rfl hc8) ?_
        refine AtL.yes rfl rfl rfl ?_
        refine AtL.pures hT 1 _ _ _ _ rfl ?_
        refine AtL.pures hT 2 _ _ _ _ rfl ?_
        refine AtL.nil ?_
        exact AtE.then_n ((HK7 _ _ H).pick (ts := [78, 0, 7, 8, 10, 11, 12]) rfl)
   ·
    refine AtC.region ?_
    refine AtL.pures hT 4 _ _ _ _ rfl ?_
    refine AtL.splitB (t := 19) H rfl (fun H => ?_) (fun H => ?_)
    ·
     refine AtL.noF rfl rfl rfl (by decide) rfl ?_
     refine AtL.noF rfl rfl rfl (by decide) rfl ?_
     refine AtL.noF rfl rfl rfl (by decide) rfl ?_
     refine AtL.pures hT 1 _ _ _ _ rfl ?_
     refine AtL.nil ?_
     exact AtE.then_n ((HK1 _ _ H).pick (ts := [23, 0, 1, 2]) rfl)
    ·
     refine AtL.yes rfl rfl rfl ?_
     refine AtL.pures hT 1 _ _ _ _ rfl ?_
     refine AtL.yes rfl rfl rfl ?_
     refine AtL.bs (hT := hT) (cs := [_]) H rfl rfl rfl rfl rfl rfl rfl rfl rfl (fun a h0u2 H => ?_)
     refine AtL.yes rfl rfl rfl ?_
     refine AtL.e rfl (Eff.call (f := 5) (sh := fun h => law01ugreat _ h _) (H0 := H) rfl Try.call5 rfl (hl := fun w hw => lift_law01ugreat _ w _ hw)) ?_
     rintro _ h0u3 ⟨v_2, rfl, H⟩
     refine AtL.pures hT 1 _ _ _ _ rfl ?_
     refine AtL.nil ?_
     exact AtE.then_n ((HK1 _ _ H).pick (ts := [23, 0, 1, 2]) rfl)
end Go.Proofs.Ytdcdidecehbplaa
